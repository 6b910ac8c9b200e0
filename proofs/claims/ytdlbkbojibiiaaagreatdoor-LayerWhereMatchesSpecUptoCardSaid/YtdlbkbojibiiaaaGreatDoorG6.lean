/- Lemmas. -/
import Derived.Lib.Bytealg
import Derived.Shelf.SlSortCmp.WholeK
import Derived.Shelf.SlSortCmp.NoneTotal
import Derived.Test.YtdlbkbojibiiaaaGreatDoorProg
import Derived.Test.YtdlbkbojibiiaaaGreatDoorG5
set_option maxRecDepth 100000
set_option maxHeartbeats 4000000
open Go Proofs Proofs.YtdlbkbojibiiaaaGreatDoor Proofs.Tryz RowKit AM SpanLaw Q Zz
open Go.IntKind renaming i64→i6
namespace Go.Q
@[simp]theorem ziR(P:Program)(Y:Hp)(t:TypeId)(id a b:Nat)(k:IntKind)(i:Int)(h:yg P t=none):q6 P Y t (.ref id a b) (.v (.int k i))=(D8 P t).bind fun c=>(qF P c.2).bind fun n=>if 0<=i/\i<c.1 then some (.ref id a (b+i.toNat*n))else none:=by
 simp only[q6,h,ZO];cases D8 P t with
 |none=>rfl
 |some c=>obtain⟨m,e⟩:=c;simp only[qo];cases qF P e<;>rfl
@[simp]theorem ziS(P:Program)(Y:Hp)(t:TypeId)(cs:zb)(k:IntKind)(i:Int)(h:yg P t=none):q6 P Y t (.ptr cs) (.v (.int k i))=(D8 P t).bind fun a=>(qF P a.2).bind fun n=>if 0<=i/\i<a.1 then some (.ptr (cs.drop (i.toNat*n)))else none:=by
 simp only[q6,h,ZO];cases D8 P t with
 |none=>rfl
 |some a=>obtain⟨m,e⟩:=a;simp only[qo];cases qF P e<;>rfl
@[simp]theorem wrl0:i6.wrap 0=0:=zi (by decide) (by decide)
@[simp]theorem wrl1:i6.wrap 1=1:=zi (by decide) (by decide)
@[simp]theorem wrl2:i6.wrap 2=2:=zi (by decide) (by decide)
@[simp]theorem wrl3:i6.wrap 3=3:=zi (by decide) (by decide)
theorem Ls(l:za)(h:l.length<=zx):zr C0 f239 [str l]=some (qz (ia l)):=by
 refine zm rfl ?_;unfold zx at h;simp;refine zI (fun k U Y Z=>U 0=str l/\U 6=int l.length/\U 7=int k/\l.all Vc=(l.drop k).all Vc) l.length ⟨by simp,by simp,by simp,by simp⟩ ?_;rintro k U Y Z m ⟨e,f,g,b⟩;by_cases a:k<l.length
 ·have i:=zlL k;rw[uY a]at b;have c:(decide ((97:Int)<=l[k].toNat)&&decide ((l[k].toNat:Int)<=122)||decide ((65:Int)<=l[k].toNat)&&decide ((l[k].toNat:Int)<=90)||decide ((48:Int)<=l[k].toNat)&&decide ((l[k].toNat:Int)<=57)||((l[k].toNat:Int)==45))=Vc l[k]:=by
   have j:((l[k].toNat:Int)==45)=(l[k]==45):=by rw[qc];simp[<-Zz];omega
   rw[j,qc];simp[Vc,pr,<-Zz];omega
  cases d:Vc l[k]
  ·have b:l.all Vc=false:=by rw[b,d];rfl
   rw[d]at c;simp[e,f,g,a,c,ia,b,-List.all_eq_true,-List.all_eq_false,f239]
  ·rw[d]at c;simp[e,f,g,a,c,i,-List.all_eq_true,-List.all_eq_false];exact⟨a,by rw[b,d];rfl⟩
 ·obtain rfl:k=l.length:=by omega
  have b:l.all Vc=true:=by rw[b,zo];rfl
  simp[e,f,g,b,ia,-List.all_eq_true,f239]
theorem E5:zg prog 239 (zf false [] (FS ia)):=
 pS1 yz func239 false [] fun l Y=>⟨by simp[f239],_,Ls l Y,zW _⟩
theorem th:zg prog 238 (zf false [] (F3 jD)):=
 zX (fn:=f238) yz (zpi func238) false [] _ fun args r h=>by obtain⟨a,b,c,rfl,rfl⟩:=oR h;exact⟨by simp[f238],_,zm rfl (by simp[f238,jD]),zW _⟩
structure wQ where
 a:Int
 b:Int
 c:Int
 pre:List (List UInt8)
def zJ(l:List za):List zb:=l.map fun p=>[str p]
theorem kn{a b:List za}(h:zJ a=zJ b):a=b:=yX (fun x y e=>by simp only[zh,zD]at e;exact q9 e) h
@[simp]theorem wF(l:List za):(zJ l).length=l.length:=by simp[zJ]
@[simp]theorem E6:zJ []=[]:=rfl
@[simp]theorem PB(l:List za):(zJ l).take l.length=zJ l:=qq (by simp)
@[simp]theorem bB(p:za)(l:List za):zJ (p::l)=[str p]::zJ l:=rfl
@[simp]theorem zmm(l:List za):V8 l=⟨9,1,true,zJ l⟩:=rfl
@[simp]theorem zmn{l:List za}{k:Nat}(h:k<(zJ l).length):(zJ l)[k]=[str (l[k]'(by simpa using h))]:=by simp[zJ]
theorem JU{l:List za}{k:Nat}(h:k<l.length):(zJ l)[k]?=some [str l[k]]:=by simp[zJ,h]
def wQ.V(v:wQ):zb:=[int v.a,int v.b,int v.c,.sl 1 (zJ v.pre)]
theorem YF{a b:wQ}(h:a.V=b.V):a=b:=by
 cases a;cases b;simp only[wQ.V,zh,zD]at h;obtain⟨d,e,f,c⟩:=h;injection c with _ c
 rw[qB d,qB e,qB f,kn c]
abbrev kJ:List (Option Nat):=[none,none,none,some 1]
def wQ.small(v:wQ):Prop:=v.pre.length<=zx/\∀p∈v.pre,p.length<=zx
def wX(p:za):Bool:=decide (20<p.length)||!ia p||(vR p&&!yS p)
def yT(v:wQ):Int:=if jD v.a 0 999999=true/\jD v.b 0 999999=true/\jD v.c 0 999999=true then(if 10<v.pre.length then 2 else if v.pre.any wX then 3 else 0)else 1
noncomputable def NK (f:wQ->O):zb->Option O:=z6 (α:=wQ) (fun v=>[.agg v.V]) wQ.small f
theorem pz(f:wQ->O)(v:wQ)(x:O)(Y Y1:Hp)(Z:Nat)(y:O)(d:zv Y [x]=some ([y],Y1))(i:(Sh.g kJ).fix y=.agg v.V)(h:v.small)(c:(f v).flat=true):qG [.g kJ] (NK f) [x] Y Z=some (f v,Y,Z):=by
 have e:NK f (eH [.g kJ] (yP [] [y]))=some (f v):=by show NK f [(Sh.g kJ).fix y]=_;rw[i];exact zE (V:=fun v:wQ=>[O.agg v.V]) (a:=v) (fun a b e=>by simp only[zh,zD]at e;injection e with e;exact YF e) h
 unfold qG zf;simp only[d,e,c,true_or,qA]
noncomputable abbrev Ue:Ctx:=zQ prog [(238,zf false [] (F3 jD)),(239,zf false [] (FS ia)),(240,zf false [] (FS vR)),(236,zf false [] (FS yS))]
theorem zcR:AM.Good Ue (fun g=>[238,239,240,236].contains g):=zw mixed ⟨th,fun _=>zu _ _,E5,fun _=>zu _ _,Y5,fun _=>zu _ _,l8,fun _=>zu _ _,trivial⟩
@[simp]theorem ziT:kg Ue 239:=yI (by rfl) (zu _ _)
@[simp]theorem ziU:kg Ue 240:=yI (by rfl) (zu _ _)
@[simp]theorem ziV:kg Ue 236:=yI (by rfl) (zu _ _)
theorem eT(v:wQ)(h:v.small):zr Ue f198 [.agg v.V]=some (int (yT v)):=by
 obtain⟨a,b,c,pre⟩:=v;obtain⟨w,o⟩:=h;simp only at w o;unfold zx at w;refine zm rfl ?_;simp[wQ.V,zz,zS,zy];rw[zT];cases n:jD a 0 999999
 ·simp[n,yT,f198]
 simp[n];rw[zT];cases p:jD b 0 999999
 ·simp[n,p,yT,f198]
 simp[p];rw[zT];cases q:jD c 0 999999
 ·simp[n,p,q,yT,f198]
 simp[q];rw[zT];simp;by_cases s:10<pre.length
 ·have g:(10:Int)<pre.length:=by omega
  simp[n,p,q,s,g,yT,f198]
 have g:¬(10:Int)<pre.length:=by omega
 simp[s,g];have t:yT ⟨a,b,c,pre⟩=if pre.any wX then 3 else 0:=by simp[yT,n,p,q,s]
 rw[t];refine zI (fun k U Y Z=>U 28=.sl 1 (zJ pre)/\U 29=int pre.length/\U 30=int k/\pre.any wX=(pre.drop k).any wX) pre.length ⟨by simp,by simp,by simp,by simp⟩ ?_;rintro k U Y Z B ⟨i,j,l,f⟩;by_cases d:k<pre.length
 ·have C:=zlL k;have x:=JU d;rw[zc d,wN]at f;have m:=o _ (zj d);have y:=fun Y Z=>kX ia pre[k] Y Z m
  have z:=fun Y Z=>kX vR pre[k] Y Z m
  have A:=fun Y Z=>kX yS pre[k] Y Z m
  have u:wX pre[k]=(decide (20<pre[k].length)||!ia pre[k]||(vR pre[k]&&!yS pre[k])):=rfl;have e:(decide ((20:Int)<pre[k].length)||!ia pre[k]||vR pre[k]&&!yS pre[k])=wX pre[k]:=by rw[u];congr 2;rw[qc];simp;omega
  cases r:wX pre[k]
  ·rw[r]at e;simp[i,j,l,d,x,y,z,A,e,C];exact⟨d,by rw[f,r];rfl⟩
  ·rw[r]at e;have f:pre.any wX=true:=by rw[f,r];rfl
   simp[i,j,l,d,x,y,z,A,e,f,-List.any_eq_true,f198]
 ·obtain rfl:k=pre.length:=by omega
  have f:pre.any wX=false:=by rw[f,zo];rfl
  simp[i,j,l,f,-List.any_eq_false,f198]
theorem NL{f:wQ->O}{args:zb}{r:O}(h:NK f args=some r):∃v:wQ,args=[.agg v.V]/\v.small/\r=f v:=zp h
theorem Qz:zg prog 198 (qG [.g kJ] (NK fun v=>int (yT v))):=
 yc (fn:=f198) zcR (zpi func198) _ _ fun args r h=>by obtain⟨v,rfl,a,rfl⟩:=NL h;exact⟨by simp[f198],_,eT v a,qW.refl _⟩
theorem pA(sep:za):∀(k:Nat) (s p:za),p∈Lib.splitK sep 0 k s->p.length<=s.length
 | 0,s,p,h=>by simp[Lib.splitK]at h;rw[h];exact zl _
 |k+1,s,p,h=>by
  unfold Lib.splitK at h;split at h
  ·simp at h;rw[h];exact zl _
  ·rcases zA.1 h with rfl|h
   ·simp;omega
   ·have:=pA sep k _ p h;simp at this;omega
theorem pB(sep:za):∀(k:Nat) (s:za),(Lib.splitK sep 0 k s).length<=k+1
 | 0,s=>by simp[Lib.splitK]
 |k+1,s=>by
  unfold Lib.splitK;split
  ·simp
  ·have:=pB sep k (s.drop ((Lib.index s sep).toNat+sep.length));simp;omega
theorem xf{s sep p:za}(h:p∈qu s sep):p.length<=s.length:=pA _ _ _ _ h
theorem ZG{s sep:za}(h:sep≠[]):(qu s sep).length<=s.length+1:=by have a:=pB sep (Lib.count s sep) s;have b:=uX (s:=s) h;exact zG a (by omega)
theorem Uf(s sep:za):(Lib.cut s sep).1.length<=s.length/\(Lib.cut s sep).2.1.length<=s.length:=by
 unfold Lib.cut;split
 ·simp;omega
 ·simp
noncomputable def Kg (f:za->O):zb->Option O:=z6 (α:=za) (fun l=>[str l]) (fun l=>l.length+1<=zx) f
theorem kK(f:za->O)(l:za)(Y:Hp)(Z:Nat)(h:l.length+1<=zx):zf false [] (Kg f) [str l] Y Z=some (f l,Y,Z):=
 hPc l _ _ rfl (fun a b e=>by simp only[zh,zD]at e;exact q9 e) h (.inr (by simp))
def XI:wQ:=⟨0,0,0,[]⟩
def ko(t:za):List za:=if(Lib.cut t [45]).2.2 then qu (Lib.cut t [45]).2.1 [46]else[]
def eU(t:za):Option wQ:=match qu (Lib.cut t [45]).1 [46]with
 |[d,e,f]=>match kG d,kG e,kG f with
  |some a,some b,some c=>if yT ⟨a,b,c,ko t⟩=0 then some ⟨a,b,c,ko t⟩else none
  |_,_,_=>none
 |_=>none
def ic(t:za):O:=match eU t with
 |some v=>.wY [.agg v.V,int 0]
 |none=>.wY [.agg XI.V,int 10]
noncomputable abbrev Crv:Ctx:=zQ prog [(195,zf false [] (Zo td fun _ _=>True)),(196,jj [] FSp),(197,zf false [] (SY Ko)),(198,qG [.g kJ] (NK fun v=>int (yT v)))]
theorem zgR:Gd Crv:=zph mixed ⟨oX,YE,Je,Qz,trivial⟩
theorem bC(l:za)(Y:Hp)(Z:Nat)(h:l.length<=zx):zf false [] (SY Ko) [str l] Y Z=some (.wY [int ((kG l).getD 0),qz (kG l).isSome],Y,Z):=eS Ko l Y Z h rfl
theorem Ug{α:Type}{l:List α}(h:l.length=3):∃a b c,l=[a,b,c]:=by
 match l,h with
 |[a,b,c],_=>exact⟨a,b,c,rfl⟩
theorem ie(t:za)(N:t.length+1<=zx):∃I,zr Crv f163 [str t]=some I/\qW I (ic t):=by
 refine yZ (sh:=.g kJ) rfl ?_;have J:=Uf t [45];have m:=fun Y Z=>oW t [45] Y Z (by omega) (by decide)
 have r:=fun Y Z=>Qy (Lib.cut t [45]).1 [46] Y Z (by omega) (by decide) (by decide)
 have o:=fun Y Z=>Qy (Lib.cut t [45]).2.1 [46] Y Z (by omega) (by decide) (by decide)
 have h:∀p∈qu (Lib.cut t [45]).1 [46],p.length<=zx:=fun p Y=>by have:=xf Y;omega
 have A:∀p∈qu (Lib.cut t [45]).2.1 [46],p.length<=zx:=fun p Y=>by have:=xf Y;omega
 have B:(qu (Lib.cut t [45]).2.1 [46]).length<=zx:=by have:=ZG (s:=(Lib.cut t [45]).2.1) (sep:=[46]) (by simp);omega
 by_cases y:(qu (Lib.cut t [45]).1 [46]).length=3
 ·obtain⟨C,D,E,d⟩:=Ug y;rw[d]at r h;have i:=fun Y Z=>bC C Y Z (h C (by simp))
  have j:=fun Y Z=>bC D Y Z (h D (by simp))
  have k:=fun Y Z=>bC E Y Z (h E (by simp))
  simp[m,r];rw[zT];cases l:kG C with
  |none=>rw[l]at i;simp[i,ic,eU,d,l,qe,qM,qC,XI,wQ.V,f163]
  |some a=>
   rw[l]at i;simp[i];rw[zT];cases q:kG D with
   |none=>rw[q]at j;simp[j,ic,eU,d,l,q,qe,qM,qC,XI,wQ.V,f163]
   |some b=>
    rw[q]at j;simp[j];rw[zT];cases u:kG E with
    |none=>rw[u]at k;simp[k,ic,eU,d,l,q,u,qe,qM,qC,XI,wQ.V,f163]
    |some c=>
     rw[u]at k;simp[k];rw[zT];simp[qe,qM];have F:(⟨a,b,c,[]⟩:wQ).small:=⟨by simp,by simp⟩;have G:(⟨a,b,c,qu (Lib.cut t [45]).2.1 [46]⟩:wQ).small:=⟨B,A⟩;cases z:(Lib.cut t [45]).2.2
     ·have f:=fun Y Z=>pz (fun v=>int (yT v)) ⟨a,b,c,[]⟩ (.agg [int a,int b,int c,.nil]) Y Y Z _ rfl rfl F rfl
      by_cases w:yT ⟨a,b,c,[]⟩=0
      ·simp[f,w,ic,eU,ko,d,l,q,u,z,qC,wQ.V,f163]
      ·have x:=nzT w;simp[f,w,x,ic,eU,ko,d,l,q,u,z,qe,qM,qC,XI,wQ.V,f163]
     ·have f:∀(Y:Hp) (Z id n:Nat),Y id=some ⟨9,1,true,zJ (qu (Lib.cut t [45]).2.1 [46])⟩->n=(qu (Lib.cut t [45]).2.1 [46]).length->qG [.g kJ] (NK fun v=>int (yT v)) [.agg [int a,int b,int c,.own id 0 n]] Y Z=some (int (yT ⟨a,b,c,qu (Lib.cut t [45]).2.1 [46]⟩),Y,Z):=by intro Y Z id n K L;subst L;exact pz (fun v=>int (yT v)) ⟨a,b,c,qu (Lib.cut t [45]).2.1 [46]⟩ _ Y (qR Y id none) Z (.agg [int a,int b,int c,.sl 1 (zJ (qu (Lib.cut t [45]).2.1 [46]))]) (by simp[K]) rfl G rfl
      by_cases w:yT ⟨a,b,c,qu (Lib.cut t [45]).2.1 [46]⟩=0
      ·simp[o,f,w,ic,eU,ko,d,l,q,u,z,qC,wQ.V,f163]
      ·have x:=nzT w;simp[o,f,w,x,ic,eU,ko,d,l,q,u,z,qe,qM,qC,XI,wQ.V,f163]
 ·have H:(((qu (Lib.cut t [45]).1 [46]).length:Int) != 3)=true:=by simp;omega
  have M:eU t=none:=by
   unfold eU;split
   ·rename_i e;rw[e]at y;simp at y
   ·rfl
  simp[m,r,H,y,ic,M,qe,qM,qC,XI,wQ.V,f163]
theorem Kp:zg prog 163 (zf false [] (Kg ic)):=
 xE (fn:=f163) zgR (zpi func163) false [] _ fun args r h w S vs a=>by obtain⟨l,rfl,Y,rfl⟩:=zp h;obtain⟨b,c,d⟩:=ie l Y;exact⟨_,b,a,by simp[f163],c,d⟩
structure Part where
 n0:Int
 n1:Int
 n2:Int
 has:Int
 pre:List (List UInt8)
def Part.V(p:Part):zb:=[int p.n0,int p.n1,int p.n2,int p.has,.sl 1 (zJ p.pre)]
abbrev aw:List (Option Nat):=[none,none,none,none,some 1]
def wy:Part:=⟨0,0,0,0,[]⟩
def Part.put(p:Part)(i:Nat)(n:Int):Part:=match i with
 | 0=>{p with n0:=n,has:=p.has+1}
 | 1=>{p with n1:=n,has:=p.has+1}
 |_=>{p with n2:=n,has:=p.has+1}
def w9(p:Part)(i:Nat)(t:za):Option Part:=if(kG t).isSome=true/\p.has=i then some (p.put i ((kG t).getD 0))else if yA t=true/\i≠0 then some p else none
def yB:Part->Nat->List za->Option Part
 |p,_,[]=>some p
 |p,i,t::l=>match w9 p i t with
  |some q=>yB q (i+1) l
  |none=>none
def z7(t:za):Part×Bool:=if Lib.contains t [45]=true then(match eU t with
    |some v=>(⟨v.a,v.b,v.c,3,v.pre⟩,true)
    |none=>(⟨0,0,0,3,[]⟩,false))
 else if 3<(qu t [46]).length then(wy,false)else match yB wy 0 (qu t [46])with
  |some p=>(p,true)
  |none=>(wy,false)
def kE(t:za):O:=.wY [.agg (z7 t).1.V,qz (z7 t).2]
noncomputable abbrev Crpv:Ctx:=zQ prog [(161,zf false [] (Zo EF fun _ _=>True)),(163,zf false [] (Kg ic)),(196,jj [] FSp),(197,zf false [] (SY Ko)),(246,zf false [] (FS yA))]
theorem zgS:AM.Good Crpv (fun g=>[246].contains g):=zw mixed ⟨JR,by simp,Kp,by simp,YE,by simp,Je,by simp,pq,fun _=>zu _ _,trivial⟩
theorem Uh(a b:za)(Y:Hp)(Z:Nat)(h:a.length<=zx)(c:b.length<=zx):zf false [] (Zo EF fun _ _=>True) [str a,str b] Y Z=some (qz (Lib.contains a b),Y,Z):=kl _ _ a b Y Z h c trivial rfl
def Part.raw(p:Part):zb:=[int p.n0,int p.n1,int p.n2,int p.has,.nil]
theorem ti{p:Part}{k:Nat}{l:List za}(h:k<l.length):yB p k (l.drop k)=match w9 p k l[k]with
  |some q=>yB q (k+1) (l.drop (k+1))
  |none=>none:=by
 rw[zc h];rfl
theorem ig(t:za)(W:t.length+1<=zx):∃S,zr Crpv f244 [str t]=some S/\qW S (kE t):=by
 refine yZ (sh:=.g aw) rfl ?_;have B:=fun Y Z=>Uh t [45] Y Z (by omega) (by decide)
 cases I:Lib.contains t [45]
 ·have J:=fun Y Z=>Qy t [46] Y Z (by omega) (by decide) (by decide)
  have E:∀p∈qu t [46],p.length<=zx:=fun p Y=>by have:=xf Y;omega
  by_cases M:3<(qu t [46]).length
  ·have F:(3:Int)<(qu t [46]).length:=by omega
   simp[B,I,J,M,F,kE,z7,qe,qM,qC,wy,Part.V,f244]
  have F:¬(3:Int)<(qu t [46]).length:=by omega
  simp[B,I,J,M,F];obtain⟨l,N⟩:=exI (qu t [46]);rw[N]at E M;have e:z7 t=match yB wy 0 l with
   |some p=>(p,true)
   |none=>(wy,false):=by
   unfold z7;rw[ze (by rw[I];simp),N,ze M]
   try rfl
  simp only[N];refine zI (fun k U Y Z=>∃p:Part,p.pre=[]/\U 2=.ref 0 0 0/\U 7=.ref 2 0 0/\U 37=.own 1 0 l.length/\U 38=int l.length/\U 39=int k/\p.has<=k/\0<=p.has /\
    Y 0=some ⟨224,5,false,[wy.raw]⟩/\Y 1=some ⟨9,1,true,zJ l⟩/\Y 2=some ⟨224,5,false,[p.raw]⟩/\yB wy 0 l=yB p k (l.drop k)) l.length
   ⟨wy,rfl,by simp,by simp,by simp,by simp,by simp,by simp[wy],by simp[wy],by simp[wy,Part.raw],by simp,by simp[wy,Part.raw],by simp⟩ ?_
  rintro k U Y Z X ⟨p,G,w,x,f,h,i,P,H,y,z,A,j⟩;by_cases b:k<l.length
  ·have C:=fun Y Z=>bC l[k] Y Z (E _ (zj b))
   have D:=fun Y Z=>kX yA l[k] Y Z (E _ (zj b))
   have K:=zlL k;have Q:=zpg (p.has+1);rw[ti b]at j;have R:k=0\/k=1\/k=2:=by omega
   obtain⟨r,n1,s,a,pre⟩:=p;simp only at G P H Q;subst G;cases q:(kG l[k]).isSome
   ·cases c:yA l[k]
    ·have hs:w9 ⟨r,n1,s,a,[]⟩ k l[k]=none:=by simp[w9,q,c]
     rw[hs]at j;rw[j]at e;simp[w,x,f,h,i,y,z,A,b,C,D,q,c,kE,e,qe,qM,qC,wy,Part.raw,Part.V,f244]
    ·by_cases m:k=0
     ·subst m;have hs:w9 ⟨r,n1,s,a,[]⟩ 0 l[0]=none:=by simp[w9,q]
      rw[hs]at j;rw[j]at e;simp[w,x,f,h,i,y,z,A,b,C,D,q,c,kE,e,qe,qM,qC,wy,Part.raw,Part.V,f244]
     ·have hs:w9 ⟨r,n1,s,a,[]⟩ k l[k]=some ⟨r,n1,s,a,[]⟩:=by simp[w9,q,c,m]
      have u:((k:Int)==0)=false:=by simpa using m
      rw[hs]at j;simp[w,x,f,h,i,y,z,A,b,C,D,q,c,K,u,m];exact⟨b,⟨r,n1,s,a,[]⟩,rfl,Int.le_trans P (by omega),H,rfl,j⟩
   ·by_cases d:a=k
    ·have hs:w9 ⟨r,n1,s,a,[]⟩ k l[k]=some ((⟨r,n1,s,a,[]⟩:Part).put k ((kG l[k]).getD 0)):=by simp[w9,q,d]
     rw[hs]at j;rcases R with rfl|rfl|rfl
     ·obtain rfl:a=0:=by simpa using d
      have n:(0:Int)<(l.length:Int):=by omega
      simp[w,x,f,h,i,y,z,A,b,n,C,D,q,K,Part.raw];refine⟨b,_,?_,?_,?_,?_,(by simpa using j)⟩<;>simp[Part.put]
     ·obtain rfl:a=1:=by simpa using d
      have n:(1:Int)<(l.length:Int):=by omega
      simp[w,x,f,h,i,y,z,A,b,n,C,D,q,K,Part.raw];refine⟨b,_,?_,?_,?_,?_,(by simpa using j)⟩<;>simp[Part.put]
     ·obtain rfl:a=2:=by simpa using d
      have n:(2:Int)<(l.length:Int):=by omega
      simp[w,x,f,h,i,y,z,A,b,n,C,D,q,K,Part.raw];refine⟨b,_,?_,?_,?_,?_,(by simpa using j)⟩<;>simp[Part.put]
    ·cases c:yA l[k]
     ·have hs:w9 ⟨r,n1,s,a,[]⟩ k l[k]=none:=by simp[w9,q,c,d]
      have o:(a==(k:Int))=false:=by simpa using d
      rw[hs]at j;rw[j]at e;simp[w,x,f,h,i,y,z,A,b,C,D,q,c,o,kE,e,qe,qM,qC,wy,Part.raw,Part.V,f244]
     ·by_cases m:k=0
      ·subst m;have hs:w9 ⟨r,n1,s,a,[]⟩ 0 l[0]=none:=by simp[w9,d];intro _;exact d
       have o:(a==0)=false:=by simpa using d
       rw[hs]at j;rw[j]at e;simp[w,x,f,h,i,y,z,A,b,C,D,q,c,o,kE,e,qe,qM,qC,wy,Part.raw,Part.V,f244]
      ·have hs:w9 ⟨r,n1,s,a,[]⟩ k l[k]=some ⟨r,n1,s,a,[]⟩:=by simp[w9,q,c,m,d]
       have u:((k:Int)==0)=false:=by simpa using m
       have o:(a==(k:Int))=false:=by simpa using d
       rw[hs]at j;simp[w,x,f,h,i,y,z,A,b,C,D,q,c,K,u,m,o,Part.raw];exact⟨b,⟨r,n1,s,a,[]⟩,rfl,Int.le_trans P (by omega),H,⟨rfl,rfl,rfl,rfl⟩,j⟩
  ·obtain rfl:k=l.length:=by omega
   rw[zo]at j;simp only[yB]at j;rw[j]at e;simp[w,x,f,h,i,y,z,A,kE,e,G,qC,Part.raw,Part.V,f244]
 ·have L:=fun Y Z=>kK ic t Y Z W
  cases T:eU t with
  |none=>simp[B,I,L,ic,T,kE,z7,qe,qM,qC,XI,wQ.V,Part.V,f244]
  |some v=>simp[B,I,L,ic,T,kE,z7,qe,qM,qC,wQ.V,Part.V,f244]
theorem eV:zg prog 244 (zf false [] (Kg kE)):=
 xE (fn:=f244) zgS (zpi func244) false [] _ fun args r h w S vs a=>by obtain⟨l,rfl,Y,rfl⟩:=zp h;obtain⟨b,c,d⟩:=ig l Y;exact⟨_,b,a,by simp[f244],c,d⟩
def Vd(s:Int×Bool):Bool:=s.2||decide (1000<s.1)
def pC(s r:Int×Bool):Int×Bool:=if Vd s then s else(s.1+r.1,s.2||r.2)
mutual
def qn.rp:qn->Int->Int×Bool
 | .mk _ _ _ a b,l=>rpF b l (rpV a l (1,decide (8<l)))
def rpV:List qn->Int->Int×Bool->Int×Bool
 |[],_,s=>s
 |v::vs,l,s=>rpV vs l (pC s (v.rp (l+1)))
def rpF:List (za×qn)->Int->Int×Bool->Int×Bool
 |[],_,s=>s
 |(_,v)::vs,l,s=>rpF vs l (pC s (v.rp (l+1)))
end
def u5(xs:List qn)(l:Int)(s:Int×Bool):Int×Bool:=xs.foldl (fun s x=>pC s (x.rp (l+1))) s
theorem Ui:∀(xs:List qn) (l:Int) (s:Int×Bool),rpV xs l s=u5 xs l s
 |[],_,_=>rfl
 |v::vs,l,s=>by simp only[rpV,u5,Q0];exact Ui vs l _
theorem Uj:∀(xs:List (za×qn)) (l:Int) (s:Int×Bool),rpF xs l s=u5 (xs.map (·.2)) l s
 |[],_,_=>rfl
 |(a,v)::vs,l,s=>by simp only[rpF,u5,wD,Q0];exact Uj vs l _
theorem zfx(v:qn)(l:Int):v.rp l=u5 v.inner l (1,decide (8<l)):=by
 cases v with
 |mk k n s a b=>simp only[qn.rp,Ui,Uj,qn.inner,qn.items,qn.fields,u5,KG]
theorem pD{xs:List qn}{l:Int}{s:Int×Bool}(h:Vd s=true):u5 xs l s=s:=by
 induction xs with
 |nil=>rfl
 |cons x xs a=>simp only[u5,Q0,pC,h,qA];exact a
theorem Uk{xs:List qn}{l:Int}{s:Int×Bool}{k:Nat}(h:k<xs.length):u5 (xs.drop k) l s=u5 (xs.drop (k+1)) l (pC s (xs[k].rp (l+1))):=by rw[zc h];rfl
def WU(xs:List qn):Nat:=(xs.map qn.parts).sum
def vS:List qn->Nat
 |[]=>0
 |v::l=>max v.levels (vS l)
theorem PC(v:qn):v.parts=1+WU v.inner:=by
 rw[EU];have c:∀l:List qn,vB l=WU l:=by
  intro l;induction l with
  |nil=>rfl
  |cons v l b=>simp[vB,WU,b]
 have d:∀l:List (za×qn),vJ l=WU (l.map (·.2)):=by
  intro l;induction l with
  |nil=>rfl
  |cons v l b=>obtain⟨a,v⟩:=v;simp[vJ,WU]at b⊢;rw[b]
 rw[c,d];simp[WU,qn.inner,nZ]
theorem Lt(v:qn):v.levels=vS v.inner+1:=by
 rw[uU];have d:∀l:List qn,kO l=vS l:=by
  intro l;induction l with
  |nil=>rfl
  |cons v l c=>simp[kO,vS,c]
 have e:∀l:List (za×qn),ve l=vS (l.map (·.2)):=by
  intro l;induction l with
  |nil=>rfl
  |cons v l c=>obtain⟨a,v⟩:=v;simp[ve,vS,c]
 have f:∀a b:List qn,vS (a++b)=max (vS a) (vS b):=by
  intro a b;induction a with
  |nil=>simp[vS]
  |cons v a c=>simp only[wI,vS,c];omega
 rw[d,e,qn.inner,f]
theorem u6{v x:qn}(h:x∈v.inner):x.vb<v.vb:=by
 have a:=Zp v;rcases qg.1 h with h|h
 ·have:=kD h;omega
 ·obtain⟨f,b,rfl⟩:=wA.1 h;have:=xr b;omega
structure RP (xs:List qn) (l:Int) (s r:Int×Bool):Prop where
 lo:s.1<=r.1
 hi:r.1<=s.1+WU xs
 deep:r.2=true->s.2=true\/8<l+(vS xs:Int)
 all:Vd r=false->r.1=s.1+WU xs/\(xs≠[]->l+(vS xs:Int)<=8)
theorem NM:∀(b:Nat) (v:qn),v.vb<=b->∀l,0<=(v.rp l).1/\(v.rp l).1<=v.parts/\((v.rp l).2=true->8<l+(v.levels:Int)-1)/\(Vd (v.rp l)=false->(v.rp l).1=v.parts/\l+(v.levels:Int)-1<=8):=by
 intro b
 induction b with
 |zero=>intro v t;have:=JT v;omega
 |succ b u=>
  intro v t l;have i:∀(xs:List qn) (s:Int×Bool),0<=s.1->(∀x∈xs,x.vb<=b)->RP xs l s (u5 xs l s):=by
   intro xs
   induction xs with
   |nil=>intro s _ _;exact⟨by simp[u5],by simp[u5,WU],fun h=>.inl (by simpa[u5]using h),fun _=>⟨by simp[u5,WU],fun h=>absurd rfl h⟩⟩
   |cons x xs j=>
    intro s D r;by_cases d:Vd s=true
    ·rw[pD d];exact⟨by omega,by omega,fun h=>.inl h,fun h=>by rw[d]at h;cases h⟩
    ·have e:u5 (x::xs) l s=u5 xs l (s.1+(x.rp (l+1)).1,s.2||(x.rp (l+1)).2):=by simp only[u5,Q0,pC,d];rfl
     rw[e];obtain⟨E,F,w,z⟩:=u x (r x (by simp)) (l+1);have f:=j (s.1+(x.rp (l+1)).1,s.2||(x.rp (l+1)).2) (by simp only;omega) (fun y A=>r y (by simp[A]));have a:WU (x::xs)=x.parts+WU xs:=by simp[WU]
     have k:=f.lo;have m:=f.hi;simp only at k m;refine⟨by omega,by rw[a];omega,fun h=>?_,fun h=>?_⟩
     ·simp only[vS];rcases f.deep h with h|h
      ·simp only[qd]at h;rcases h with h|h
       ·exact .inl h
       ·right;have:=w h;omega
      ·right;omega
     ·obtain⟨n,o⟩:=f.all h;have p:Vd (x.rp (l+1))=false:=by
       simp only[Vd,wZ,jr]at h d⊢;refine⟨?_,by omega⟩;cases hd:(x.rp (l+1)).2 with
       |false=>rfl
       |true=>
        exfalso;have q:Vd (s.1+(x.rp (l+1)).1,s.2||(x.rp (l+1)).2)=true:=by simp[Vd,hd]
        rw[pD q]at h;simp[hd]at h
      obtain⟨G,H⟩:=z p;simp only at n;refine⟨by rw[a];omega,fun _=>?_⟩;simp only[vS];by_cases c:xs=[]
      ·subst c;simp only[vS];omega
      ·have:=o c;omega
  have g:=i v.inner (1,decide (8<l)) (by simp) fun x p=>by have:=u6 p;omega
  rw[zfx,PC,Lt];have B:=g.lo;have C:=g.hi;simp only at B C;refine⟨by omega,by omega,fun h=>?_,fun h=>?_⟩
  ·rcases g.deep h with h|h
   ·simp at h;omega
   ·omega
  ·obtain⟨n,o⟩:=g.all h;simp only at n;refine⟨by omega,?_⟩;by_cases c:v.inner=[]
   ·rw[c]at h⊢;simp[u5,Vd]at h;simp only[vS];omega
   ·have:=o c;omega
theorem Ul(v:qn):Vd (v.rp 1)=(decide ((1000:Int)<v.parts)||decide ((8:Int)<v.levels)):=by
 obtain⟨f,g,d,e⟩:=NM v.vb v (zl _) 1;cases c:Vd (v.rp 1)with
 |false=>
  obtain⟨a,b⟩:=e c;simp only[Vd,wZ,jr]at c
  symm
  simp only[wZ,jr];omega
 |true=>
  symm
  simp only[Vd,qd,zP]at c⊢;rcases c with c|c
  ·right;have:=d c;omega
  ·left;omega
noncomputable def FV2 (out:qn->Int->O) (lo hi:Int) (n:Nat):zb->Option O:=z6 (α:=qn×Int) (fun a=>[.agg a.1.V,int a.2]) (fun a=>a.1.vb<=zx/\a.1.vb<=n/\lo<=a.2/\a.2<=hi) (fun a=>out a.1 a.2)
theorem E7(out:qn->Int->O)(lo hi:Int)(n:Nat)(v:qn)(i:Int)(Y:Hp)(Z:Nat)(h:v.vb<=zx/\v.vb<=n/\lo<=i/\i<=hi):zf false [] (FV2 out lo hi n) [.agg v.V,int i] Y Z=some (out v i,Y,Z):=
 zU (Y1:=Y) (show zv Y [.agg v.V,int i]=some ([.agg v.V,int i],Y) by simp only[zv,V4];simp)
  (zE (V:=fun a:qn×Int=>[.agg a.1.V,int a.2]) (a:=(v,i)) (fun a b e=>by obtain⟨c,d⟩:=a;obtain⟨f,g⟩:=b;simp only[zh,zD,O.agg.injEq]at e;rw[Qt e.1,qB e.2]) h) (.inr (by simp only[q8,hU,JA];rfl))
noncomputable abbrev Crp (n:Nat):Ctx:=zQ prog [(80,zf false [] (FV2 (fun v l=>.wY [int (v.rp l).1,qz (v.rp l).2]) 1 9 n)),(136,GV fun v=>.sl 5 (v.inner.map qn.V))]
theorem B6(v:qn):v.inner.length<v.vb:=by have:=Zp v;have:=ju v.items;have:=jV v.fields;simp[qn.inner];omega
theorem E8(n:Nat)(v:qn)(l:Int)(h:v.vb<=zx/\v.vb<=n+1/\1<=l/\l<=9):zr (Crp n) f80 [.agg v.V,int l]=some (.wY [int (v.rp l).1,qz (v.rp l).2]):=by
 obtain⟨r,E,t,u⟩:=h;have w:=B6 v;have m:=fun Y Z=>Yj (fun v=>.sl 5 (v.inner.map qn.V)) v Y Z r
 unfold zx at r;refine zm rfl ?_;simp[m];refine zI (fun k U Y Z=>U 1=int l/\U 15=.sl 5 (v.inner.map qn.V)/\U 16=int v.inner.length/\U 17=int k/\∃s:Int×Bool,U 6=int s.1/\U 7=qz s.2/\0<=s.1/\s.1<=4000000/\(s.2=false->l<=8)/\v.rp l=u5 (v.inner.drop k) l s) v.inner.length
  ⟨by simp,by simp,by simp,by simp,(1,decide (8<l)),by simp,by simp,by simp,by simp,by simp,by rw[zfx];simp⟩ ?_
 rintro k U Y Z F ⟨o,c,d,e,s,p,q,G,H,x,b⟩;by_cases a:k<v.inner.length
 ·have y:=zlL k;have I:=u6 (zj a);have g:(s.2||decide (1000<s.1))=Vd s:=rfl;cases i:Vd s
  ·have j:s.2=false:=by cases h:s.2<;>simp_all[Vd]
   have z:=x j;have A:=zpg (l+1);have f:=fun Y Z=>E7 (fun v l=>.wY [int (v.rp l).1,qz (v.rp l).2]) 1 9 n v.inner[k] (l+1) Y Z ⟨by unfold zx;omega,by omega,by omega,by omega⟩
   obtain⟨J,K,L,M⟩:=NM _ v.inner[k] (zl _) (l+1);have B:=o5 v.inner[k];have C:s.1<=1000:=by simp[Vd]at i;omega
   have D:=zpg (s.1+(v.inner[k].rp (l+1)).1);rw[Uk a]at b;simp only[pC,i,zF,qJ]at b;simp[o,c,d,e,p,q,a,g,i,f,A,D,y];refine⟨a,?_⟩;rw[b,j];cases hd:(v.inner[k].rp (l+1)).2<;>simp[hd]<;>omega
  ·rw[pD i]at b;simp[o,c,d,e,p,q,a,g,i,b,f80,qS]
 ·obtain rfl:k=v.inner.length:=by omega
  rw[zo]at b;have b:v.rp l=s:=b;simp[o,c,d,e,p,q,b,f80,qS]
theorem NN{out:qn->Int->O}{lo hi:Int}{n:Nat}{args:zb}{r:O}(h:FV2 out lo hi n args=some r):∃(v:qn) (i:Int),args=[.agg v.V,int i]/\(v.vb<=zx/\v.vb<=n/\lo<=i/\i<=hi)/\r=out v i:=by obtain⟨⟨v,i⟩,a,b,c⟩:=zp h;exact⟨v,i,a,b,c⟩
theorem Um{out:qn->Int->O}{lo hi:Int}{f:FuncId}(a:∃fn,prog.funcs[f]?=some fn/\(fn.name== "runtime.NumGoroutine")=false/\fn.body.isNone=false):zg prog f (zf false [] (FV2 out lo hi 0)):=by
 refine⟨a,fun args Y Z r b c h=>?_⟩;unfold zf at h;split at h
 ·split at h
  ·rename_i d hF;obtain⟨v,i,_,e,_⟩:=NN hF;have:=JT v;omega
  ·cases h
 ·cases h
theorem B7:∀n,zg prog 80 (zf false [] (FV2 (fun v l=>.wY [int (v.rp l).1,qz (v.rp l).2]) 1 9 n)):=by
 intro n
 induction n with
 |zero=>exact Um ⟨_,func80,by kernel_rfl,by kernel_rfl⟩
 |succ n a=>
  have b:Gd (Crp n):=zph mixed ⟨a,E0,trivial⟩;exact zX (fn:=f80) b (zpi func80) false [] _ fun args r h=>by obtain⟨v,l,rfl,c,rfl⟩:=NN h;exact⟨zG (zl 2) (by decide),_,E8 n v l c,zW _⟩
noncomputable abbrev Crc:Ctx:=zQ prog [(138,zf false [] (F3 jD)),(139,zf false [] (FS (wi 32 126)))]
@[simp]theorem qrc1:kg Crc 138:=yI (by rfl) (zu _ _)
def eW(v:qn):Int:=Jd v.kind v.n v.s v.items.length v.fields.length
theorem Un(v:qn):eW v=if(!jD v.kind 0 5)then 4 else if(v.kind != 1&&v.kind != 2&&v.n != 0)then 3 else if(v.kind != 3&&!v.s.isEmpty)then 3 else if(v.kind != 4&&decide (0<v.items.length))then 3 else if(v.kind != 5&&decide (0<v.fields.length))then 3 else if(v.kind==1&&!jD v.n 0 1)then 1 else if(v.kind==2&&!jD v.n (-999999999999999) 999999999999999)then 1 else if(decide ((500:Int)<v.s.length))then 2 else if(!wi 32 126 v.s)then 1 else if(decide ((100:Int)<v.items.length)||decide ((100:Int)<v.fields.length))then 2 else 0:=by
 unfold eW Jd;have a:EW v.kind=!jD v.kind 0 5:=by rw[qc];simp[EW,jD]
 have b:V6 v.kind v.n v.s v.items.length v.fields.length=((v.kind != 1&&v.kind != 2&&v.n != 0)||(v.kind != 3&&!v.s.isEmpty)||(v.kind != 4&&decide (0<v.items.length))||(v.kind != 5&&decide (0<v.fields.length))):=by
  unfold V6;have:(v.s==[])=v.s.isEmpty:=by cases v.s<;>rfl
  rw[this];generalize (v.kind != 1)=c;generalize (v.kind != 2)=d;generalize (v.kind != 3)=e;generalize (v.kind != 4)=f;generalize (v.kind != 5)=g;generalize (v.n != 0)=h;generalize v.s.isEmpty=i;generalize decide (0<v.items.length)=j;generalize decide (0<v.fields.length)=k;cases c<;>cases d<;>cases e<;>cases f<;>cases g<;>cases h<;>cases i<;>cases j<;>cases k<;>rfl
 have l:eP v.kind v.n=(v.kind==1&&!jD v.n 0 1):=by rw[qc];simp[eP,jD];omega
 have m:eQ v.kind v.n=(v.kind==2&&!jD v.n (-999999999999999) 999999999999999):=by rw[qc];simp[eQ,jD];omega
 rw[a,b,l,m,NJ,NI];generalize (!jD v.kind 0 5)=o;generalize (v.kind != 1&&v.kind != 2&&v.n != 0)=p;generalize (v.kind != 3&&!v.s.isEmpty)=q;generalize (v.kind != 4&&decide (0<v.items.length))=r;generalize (v.kind != 5&&decide (0<v.fields.length))=t;generalize (v.kind==1&&!jD v.n 0 1)=u;generalize (v.kind==2&&!jD v.n (-999999999999999) 999999999999999)=w;cases o<;>cases p<;>cases q<;>cases r<;>cases t<;>cases u<;>cases w<;>cases wi 32 126 v.s<;>rfl
theorem mZ(v:qn)(h:v.vb<=zx):zr Crc f137 [.agg v.V]=some (int (eW v)):=by
 have q:=Zp v;have m:v.s.length<=zx:=by omega
 refine zm rfl ?_;have o:=Un v;obtain⟨r,c⟩:∃b,(!jD v.kind 0 5)=b:=⟨_,rfl⟩;obtain⟨t,d⟩:∃b,(v.kind != 1&&v.kind != 2&&v.n != 0)=b:=⟨_,rfl⟩;obtain⟨u,e⟩:∃b,(v.kind != 3&&!v.s.isEmpty)=b:=⟨_,rfl⟩;obtain⟨w,f⟩:∃b,(v.kind != 4&&decide (0<v.items.length))=b:=⟨_,rfl⟩;obtain⟨x,g⟩:∃b,(v.kind != 5&&decide (0<v.fields.length))=b:=⟨_,rfl⟩;obtain⟨y,i⟩:∃b,(v.kind==1&&!jD v.n 0 1)=b:=⟨_,rfl⟩;obtain⟨z,j⟩:∃b,(v.kind==2&&!jD v.n (-999999999999999) 999999999999999)=b:=⟨_,rfl⟩;obtain⟨A,k⟩:∃b,(decide ((500:Int)<v.s.length))=b:=⟨_,rfl⟩;obtain⟨B,l⟩:∃b,(!wi 32 126 v.s)=b:=⟨_,rfl⟩;obtain⟨p,a⟩:∃b,(decide ((100:Int)<v.items.length)||decide ((100:Int)<v.fields.length))=b:=⟨_,rfl⟩;rw[c,d,e,f,g,i,j,k,l,a]at o;cases r
 case true=>simp[m,c,d,e,f,g,i,j,k,l,a,o,f137]
 cases t
 case true=>simp[m,c,d,e,f,g,i,j,k,l,a,o,f137]
 cases u
 case true=>simp[m,c,d,e,f,g,i,j,k,l,a,o,f137]
 cases w
 case true=>simp[m,c,d,e,f,g,i,j,k,l,a,o,f137]
 cases x
 case true=>simp[m,c,d,e,f,g,i,j,k,l,a,o,f137]
 cases y
 case true=>simp[m,c,d,e,f,g,i,j,k,l,a,o,f137]
 cases z
 case true=>simp[m,c,d,e,f,g,i,j,k,l,a,o,f137]
 cases A
 case true=>simp[m,c,d,e,f,g,i,j,k,l,a,o,f137]
 cases B
 case true=>simp[m,c,d,e,f,g,i,j,k,l,a,o,f137]
 cases p
 case true=>simp[m,c,d,e,f,g,i,j,k,l,a,o,f137]
 simp[m,c,d,e,f,g,i,j,k,l,a,o,f137]
theorem ij:zg prog 137 (GV fun v=>int (eW v)):=
 zX (fn:=f137) (zw (q:=[138,139]) mixed ⟨Zh,fun _=>zu _ _,YZ,fun _=>zu _ _,trivial⟩:AM.Good Crc _) (zpi func137) false [] _ fun args r h=>by obtain⟨v,rfl,a,rfl⟩:=V5 h;exact⟨by simp[f137],_,mZ v a.1,zW _⟩
noncomputable abbrev Cra (n:Nat):Ctx:=zQ prog [(81,zf false [] (FV (fun v=>int v.fault) n)),(137,GV fun v=>int (eW v)),(138,zf false [] (F3 jD)),(139,zf false [] (FS (wi 32 126)))]
@[simp]theorem qra2(n:Nat):kg (Cra n) 139:=yI (by rfl) (zu _ _)
theorem PD(a:za):(!jD a.length 1 60||!wi 32 126 a)=o9 a:=by
 unfold o9 jD;cases a with
 |nil=>rfl
 |cons c a=>generalize wi 32 126 (c::a)=x;rw[qc];cases x<;>simp<;>omega
theorem tj(n:Nat)(v:qn)(h:v.vb<=zx/\v.vb<=n+1):zr (Cra n) f81 [.agg v.V]=some (int v.fault):=by
 have Q:=Zp v;have R:=ju v.items;have S:=jV v.fields;obtain⟨M,hb⟩:=h;have y:=fun Y Z=>Yj (fun v=>int (eW v)) v Y Z M
 unfold zx at M;have c:=pa v;refine zm rfl ?_;by_cases B:eW v=0
 case neg=>
  have D:=nzT B;have E:v.fault=eW v:=by rw[c];exact ze B
  simp[y,D,E,f81]
 have c:v.fault=if Z7 v.items=0 then XH none v.fields else Z7 v.items:=by rw[c];exact zd B
 simp[y,B];refine zI (fun k U Y Z=>U 1=.ref 0 0 0/\U 16=.sl 5 (v.items.map qn.V)/\U 17=int v.items.length/\U 18=int k/\1<=Z/\Y 0=some ⟨61,5,false,[v.V]⟩/\Z7 v.items=Z7 (v.items.drop k)) v.items.length
  ⟨by simp,by simp,by simp,by simp,by simp,by simp,by simp⟩ ?_
 rintro k U Y Z N ⟨i,p,q,r,u,o,s⟩;have t:¬0=Z:=by omega
 by_cases b:k<v.items.length
 ·have T:=kD (zj b);have P:=zlL k;have a:=fun Y Z=>bz (fun v=>int v.fault) n v.items[k] Y Z ⟨by unfold zx;omega,by omega⟩
  rw[lY b]at s;by_cases d:v.items[k].fault=0
  ·rw[zd d]at s;simp[i,p,q,r,b,a,d,P]
   and_intros<;>first|omega|exact s|simp[t,o]
  ·rw[ze d]at s;have m:=nzT d;rw[s,ze d]at c;simp[i,p,q,r,b,a,m,c,f81]
 ·obtain rfl:k=v.items.length:=by omega
  rw[zo]at s;have s:Z7 v.items=0:=by rw[s];rfl
  rw[s,zd rfl]at c;simp[i,p,q,r,o];refine zI (fun k U Y Z=>U 1=.ref 0 0 0/\U 29=.sl 6 (v.fields.map yD)/\U 30=int v.fields.length/\U 31=int k/\1<=Z/\Y 0=some ⟨61,5,false,[v.V]⟩/\v.fault=XH (j9 v.fields k) (v.fields.drop k)) v.fields.length
   ⟨by simp[i],by simp,by simp,by simp,u,o,by simp[c,j9]⟩ ?_
  clear i p q r u o b N t Z Y U c;rintro k U Y Z N ⟨i,e,f,g,u,o,c⟩;have t:¬0=Z:=by omega
  by_cases b:k<v.fields.length
  ·have T:=xr (zj b);have P:=zlL k;have l:v.fields[k].1.length<=zx:=by unfold zx;omega
   have a:=fun Y Z=>bz (fun v=>int v.fault) n v.fields[k].2 Y Z ⟨by unfold zx;omega,by omega⟩
   have en:=PD v.fields[k].1;rw[lZ b]at c;cases w:o9 v.fields[k].1
   case true=>simp[i,e,f,g,b,l,en,w,c,f81]
   have z:j9 v.fields (k+1)=some v.fields[k].1:=by simp[j9,b]
   simp only[w,zF,qJ]at c;by_cases W:k=0
   ·subst W;simp only[j9,vf,qA,zF,qJ]at c;by_cases d:v.fields[0].2.fault=0
    ·rw[zd d]at c;have X:=zpg 1;simp[i,e,f,g,b,l,en,w,a,d,X]
     and_intros<;>first|omega|(rw[c];rw[z];simp;done)|simp[t,o]
    ·rw[ze d]at c;have m:=nzT d;simp[i,e,f,g,b,l,en,w,a,m,c,f81]
   ·obtain⟨j,rfl⟩:∃j,k=j+1:=⟨k-1,by omega⟩;have C:j<v.fields.length:=by omega
    have F:i6.wrap ((j:Int)+1-1)=(j:Int):=by rw[zi (by omega) (by omega)];omega
    have x:=zpg (j:Int);have G:((j:Int)+1).toNat=j+1:=by omega
    have H:0<(j:Int)+1:=by omega
    have I:0<=(j:Int)+1:=by omega
    have J:(j:Int)+1<v.fields.length:=by omega
    have wk:=zpg ((j:Int)+1+1);have K:(Op.bytesLess v.fields[j+1].1 v.fields[j].1||v.fields[j+1].1==v.fields[j].1)=K3 v.fields[j+1].1 v.fields[j].1:=rfl;have L:j9 v.fields (j+1)=some v.fields[j].1:=by simp[j9,C]
    simp only[L,vf]at c;cases A:K3 v.fields[j+1].1 v.fields[j].1
    case true=>simp only[A,qA]at c;simp[i,e,f,g,b,C,l,en,w,a,o,t,F,x,G,H,I,J,K,A,c,f81]
    simp only[A,zF,qJ]at c;by_cases d:v.fields[j+1].2.fault=0
    ·rw[zd d]at c;simp[i,e,f,g,b,C,l,en,w,a,o,t,F,x,G,H,I,J,K,A,d,wk]
     and_intros<;>first|omega|(rw[c];rw[z])|simp[t,o]
    ·rw[ze d]at c;have m:=nzT d;simp[i,e,f,g,b,C,l,en,w,a,o,t,F,x,G,H,I,J,K,A,m,c,f81]
  ·obtain rfl:k=v.fields.length:=by omega
   rw[zo]at c;have c:v.fault=0:=by rw[c];rfl
   simp[i,e,f,g,c,f81]
theorem pE:∀n,zg prog 81 (zf false [] (FV (fun v=>int v.fault) n)):=by
 intro n
 induction n with
 |zero=>exact BU ⟨_,func81,by kernel_rfl,by kernel_rfl⟩
 |succ n a=>
  have b:AM.Good (Cra n) (fun g=>[138,139].contains g):=zw mixed ⟨a,by simp,ij,by simp,Zh,fun _=>zu _ _,YZ,fun _=>zu _ _,trivial⟩;exact zX (fn:=f81) b (zpi func81) false [] _ fun args r h=>by obtain⟨v,rfl,c,rfl⟩:=V5 h;exact⟨zG (zl 1) (by decide),_,tj n v c,zW _⟩
noncomputable abbrev Crch:Ctx:=zQ prog [(81,GV fun v=>int v.fault),(80,zf false [] (FV2 (fun v l=>.wY [int (v.rp l).1,qz (v.rp l).2]) 1 9 zx))]
theorem eX:zg prog 38 (GV fun v=>int v.check):=
 zX (fn:=f38) (zph mixed ⟨pE zx,B7 zx,trivial⟩:AM.Good Crch _) (zpi func38) false [] _ fun args r h=>by
  obtain⟨v,rfl,b,rfl⟩:=V5 h;have c:=fun Y Z=>Yj (fun v=>int v.fault) v Y Z b.1
  have d:=fun Y Z=>E7 (fun v l=>.wY [int (v.rp l).1,qz (v.rp l).2]) 1 9 zx v 1 Y Z ⟨b.1,b.1,by omega,by omega⟩
  refine⟨by simp[f38],_,zm rfl ?_,zW _⟩;have f:=Ul v;have a:((v.rp 1).2||decide (1000<(v.rp 1).1))=Vd (v.rp 1):=rfl;unfold qn.check;rw[<-f];cases e:Vd (v.rp 1)
  ·simp[c,d,a,e,f38]
  ·simp[c,d,a,e,f38]
def wR(a b:Int):Int:=if a<b then -1 else if b<a then 1 else 0
def B8(a b:za):Int:=if Op.bytesLess a b then -1 else if Op.bytesLess a b||a==b then 0 else 1
def F2I(f:Int->Int->Int):zb->Option O
 |[.v (.int .i64 a),.v (.int .i64 b)]=>some (int (f a b))
 |_=>none
theorem zcS{f:Int->Int->Int}{args:zb}{r:O}(h:F2I f args=some r):∃a b,args=[int a,int b]/\r=int (f a b):=by
 unfold F2I at h;split at h
 ·injection h with h;exact⟨_,_,rfl,h.symm⟩
 ·cases h
@[simp]theorem zkq(f:Int->Int->Int)(a b:Int)(Y:Hp)(Z:Nat):zf false [] (F2I f) [.v (.int .i64 a),.v (.int .i64 b)] Y Z=some (int (f a b),Y,Z):=zU rfl rfl (.inl rfl)
def B9:zb->Option O
 |[.v (.int .i64 _)]=>some (qz false)
 |_=>none
def ax:zb->Option O
 |[.v (.string _)]=>some (qz false)
 |_=>none
@[simp]theorem zfy(a:Int)(Y:Hp)(Z:Nat):zf false [] B9 [.v (.int .i64 a)] Y Z=some (qz false,Y,Z):=zU rfl rfl (.inl rfl)
@[simp]theorem zfz(a:ByteArray)(Y:Hp)(Z:Nat):zf false [] ax [.v (.string a)] Y Z=some (qz false,Y,Z):=zU rfl rfl (.inl rfl)
theorem Ca:zg prog 224 (zf false [] B9):=
 zX (fn:=f224) yz (zpi func224) false [] _ fun args r h=>by
  unfold B9 at h;split at h
  ·injection h with h;subst h;exact⟨by simp[f224],_,zm rfl (by simp[f224]),zW _⟩
  ·cases h
theorem eY:zg prog 222 (zf false [] ax):=
 zX (fn:=f222) yz (zpi func222) false [] _ fun args r h=>by
  unfold ax at h;split at h
  ·injection h with h;subst h;exact⟨by simp[f222],_,zm rfl (by simp[f222]),zW _⟩
  ·cases h
noncomputable abbrev Cnn:Ctx:=zQ prog [(224,zf false [] B9),(222,zf false [] ax)]
theorem Uo:AM.Good Cnn (fun g=>[224,222].contains g):=zw mixed ⟨Ca,fun _=>zu _ _,eY,fun _=>zu _ _,trivial⟩
theorem WV:zg prog 187 (zf false [] (F2I wR)):=
 zX (fn:=f187) Uo (zpi func187) false [] _ fun args r h=>by
  obtain⟨a,b,rfl,rfl⟩:=zcS h;refine⟨by simp[f187],_,zm rfl ?_,zW _⟩;unfold wR;by_cases c:a<b
  ·simp[c,f187]
  ·by_cases d:b<a
   ·simp[c,d,f187]
   ·simp[c,d,f187]
noncomputable def PE (f:za->za->Int):zb->Option O:=z6 (α:=za×za) (fun a=>[str a.1,str a.2]) (fun _=>True) (fun a=>int (f a.1 a.2))
@[simp]theorem zkr(f:za->za->Int)(a b:za)(Y:Hp)(Z:Nat):zf false [] (PE f) [str a,str b] Y Z=some (int (f a b),Y,Z):=
 hPc (a,b) _ _ rfl (fun a b e=>by obtain⟨c,d⟩:=a;obtain⟨g,h⟩:=b;simp only[zh,zD]at e;rw[q9 e.1,q9 e.2]) trivial (.inl rfl)
theorem pF:zg prog 270 (zf false [] (PE B8)):=
 pS1 Uo func270 false [] fun⟨a,b⟩ _=>by
  refine⟨by simp[f270],_,zm rfl ?_,zW _⟩;simp only[B8];cases c:Op.bytesLess a b
  ·cases d:(a==b)
   ·simp[c,d,f270]
   ·simp[c,d,f270]
  ·simp[c,f270]
theorem Wf:∀a:za,Op.bytesLess a a=false
 |[]=>rfl
 |c::a=>by simp[Op.bytesLess,Wf a]
@[simp]theorem ziW(a:Int):wR a a=0:=by simp[wR]
noncomputable abbrev yK:=Lib.compareBytes
theorem na:zg prog 143 (zf false [] (PE yK)):=
 BE ⟨_,func143,by kernel_rfl,by kernel_rfl⟩ fun args r h=>by obtain⟨⟨a,b⟩,rfl,_,rfl⟩:=zp h;exact⟨[.string ⟨a.toArray⟩,.string ⟨b.toArray⟩],rfl,by simp[lit],_,rfl,rfl,fun w=>by simpa using Tryz.bytealg_CompareString ⟨a.toArray⟩ ⟨b.toArray⟩ w⟩
noncomputable abbrev Cstr:Ctx:=zQ prog [(143,zf false [] (PE yK))]
theorem vj:zg prog 89 (zf false [] (PE yK)):=
 pS1 (zph mixed ⟨na,trivial⟩:AM.Good Cstr _) func89 false [] fun⟨a,b⟩ _=>⟨by simp[f89],_,zm rfl (by simp[f89]),zW _⟩
def Xb:List Int->Int
 |[]=>0
 |n::l=>if n=0 then Xb l else n
def dn(l:List Int):List zb:=l.map fun n=>[int n]
@[simp]theorem zfA(l:List Int):(dn l).length=l.length:=by simp[dn]
@[simp]theorem zmo{l:List Int}{k:Nat}(h:k<(dn l).length):(dn l)[k]=[int (l[k]'(by simpa using h))]:=by simp[dn]
theorem Uq{a b:List Int}(h:dn a=dn b):a=b:=yX (fun x y e=>by simp only[zh,zD]at e;exact qB e) h
noncomputable def SZ:zb->Option O:=z6 (α:=List Int) (fun l=>[.sl 1 (dn l)]) (fun l=>l.length<=zx) (fun l=>int (Xb l))
theorem zcT(l:List Int)(i:l.length<=zx):zr C0 f225 [.sl 1 (dn l)]=some (int (Xb l)):=by
 refine zm rfl ?_;unfold zx at i;simp;refine zI (fun k U Y Z=>U 3=int 0/\U 6=.sl 1 (dn l)/\U 7=int l.length/\U 8=int k/\Xb l=Xb (l.drop k)) l.length ⟨by simp,by simp,by simp,by simp,by simp⟩ ?_;rintro k U Y Z m ⟨d,e,f,g,b⟩;by_cases a:k<l.length
 ·have j:=zlL k;rw[zc a]at b;simp only[Xb]at b;by_cases c:l[k]=0
  ·rw[zd c]at b;simp[d,e,f,g,a,c,j];exact⟨a,b⟩
  ·rw[ze c]at b;have h:=nzT c;simp[d,e,f,g,a,h,b,f225]
 ·obtain rfl:k=l.length:=by omega
  rw[zo]at b;simp[d,e,f,g,b,Xb,f225]
theorem ay:zg prog 225 (zf false [] SZ):=
 pS1 yz func225 false [] fun l Y=>⟨by simp[f225],_,zcT l Y,zW _⟩
theorem eZ(l:List Int)(Y:Hp)(Z id:Nat)(e:Nat)(h:l.length<=zx)(c:Y id=some ⟨e,1,true,dn l⟩):zf false [] SZ [.own id 0 l.length] Y Z=some (int (Xb l),Y,Z):=by have d:(dn l).take l.length=dn l:=qq (by simp);refine zU (show zv Y [.own id 0 l.length]=some ([.sl 1 (dn l)],qR Y id none) by simp[c,d]) ?_ (.inl rfl);exact zE (V:=fun l:List Int=>[O.sl 1 (dn l)]) (a:=l) (fun a b e=>by simp only[zh,zD]at e;injection e with _ e;exact Uq e) h
def Zq(l:za):Bool:=!l.isEmpty&&vR l
noncomputable def w8 (a b:za):Int:=if Zq a=true then(if Zq b=true then Xb [wR (Lib.trimLeftB a 48).length (Lib.trimLeftB b 48).length,yK (Lib.trimLeftB a 48) (Lib.trimLeftB b 48)]else -1)else if Zq b=true then 1 else yK a b
noncomputable abbrev Ccp:Ctx:=zQ prog [(240,zf false [] (FS vR)),(334,zf false [] (Zo tlP fun _ b=>oY b)),(187,zf false [] (F2I wR)),(89,zf false [] (PE yK)),(225,zf false [] SZ)]
theorem zgT:AM.Good Ccp (fun g=>[240].contains g):=zw mixed ⟨Y5,fun _=>zu _ _,JS,by simp,WV,by simp,vj,by simp,ay,by simp,trivial⟩
@[simp]theorem zmp:kg Ccp 240:=yI (by rfl) (zu _ _)
theorem nI(a:za)(Y:Hp)(Z:Nat)(h:a.length<=zx):zf false [] (Zo tlP fun _ b=>oY b) [str a,str [48]] Y Z=some (str (Lib.trimLeftB a 48),Y,Z):=kl _ _ a [48] Y Z h (by decide) ⟨48,rfl,by decide⟩ rfl
theorem nb(a b:za)(i:a.length<=zx)(j:b.length<=zx):zr Ccp f295 [str a,str b]=some (int (w8 a b)):=by
 refine zm rfl ?_;have c:=fun Y Z=>kX vR a Y Z i
 have d:=fun Y Z=>kX vR b Y Z j
 have k:=fun Y Z=>nI a Y Z i
 have tb:=fun Y Z=>nI b Y Z j
 have e:(!a.isEmpty&&vR a)=Zq a:=rfl;have f:(!b.isEmpty&&vR b)=Zq b:=rfl;cases g:Zq a<;>cases h:Zq b
 ·simp[c,d,e,f,g,h,w8,f295]
 ·simp[c,d,e,f,g,h,w8,f295]
 ·simp[c,d,e,f,g,h,w8,f295]
 ·have l:∀(Y:Hp) (Z id:Nat),Y id=some ⟨3,1,true,[[int (wR (Lib.trimLeftB a 48).length (Lib.trimLeftB b 48).length)],[int (yK (Lib.trimLeftB a 48) (Lib.trimLeftB b 48))]]⟩->zf false [] SZ [.own id 0 2] Y Z=some (int (Xb [wR (Lib.trimLeftB a 48).length (Lib.trimLeftB b 48).length,yK (Lib.trimLeftB a 48) (Lib.trimLeftB b 48)]),Y,Z):=fun Y Z id m=>eZ [_,_] Y Z id _ (by show 2<=zx;decide) m
  simp[c,d,k,tb,e,f,g,h,l,zz,zS,zy,w8,f295]
theorem ik:zg prog 295 (zf false [] (Zo (fun a b=>int (w8 a b)) fun _ _=>True)):=
 zX (fn:=f295) zgT (zpi func295) false [] _ fun args r h=>by obtain⟨a,b,rfl,c,d,_,rfl⟩:=kC h;exact⟨by simp[f295],_,nb a b c d,zW _⟩
theorem u7(a b:za)(Y:Hp)(Z:Nat)(h:a.length<=zx)(c:b.length<=zx):zf false [] (Zo (fun a b=>int (w8 a b)) fun _ _=>True) [str a,str b] Y Z=some (int (w8 a b),Y,Z):=kl _ _ a b Y Z h c trivial rfl
def yr{α:Type}(c:α->α->Int):List α->List α->Int
 |[],[]=>0
 |[],_::_=>-1
 |_::_,[]=>1
 |x::a,y::b=>if c x y=0 then yr c a b else c x y
noncomputable abbrev Ccf:Ctx:=zQ prog [(295,zf false [] (Zo (fun a b=>int (w8 a b)) fun _ _=>True))]
theorem zgU:Gd Ccf:=zph mixed ⟨ik,trivial⟩
def xg(l:List za):Prop:=l.length<=zx/\∀p∈l,p.length<=zx
theorem e8(a b:List za)(o:xg a)(p:xg b):zr Ccf f294 [.sl 1 (zJ a),.sl 1 (zJ b),.fn (.func 295) [] []]=some (int (yr w8 a b)):=by
 refine zm rfl ?_;obtain⟨o,q⟩:=o;obtain⟨p,r⟩:=p;unfold zx at o p;simp;refine zI (fun k U Y Z=>U 0=.sl 1 (zJ a)/\U 1=.sl 1 (zJ b)/\U 2=.fn (.func 295) [] []/\U 11=.sl 1 (zJ a)/\U 12=int a.length/\U 13=int k/\k<=b.length/\yr w8 a b=yr w8 (a.drop k) (b.drop k)) a.length
  ⟨by simp,by simp,by simp,by simp,by simp,by simp,by simp,by simp⟩ ?_
 rintro k U Y Z y ⟨j,l,m,f,g,h,v,c⟩;by_cases d:k<a.length
 ·have w:=zlL k;by_cases e:k<b.length
  ·have i:¬b.length<=k:=by omega
   have u:=fun Y Z=>u7 a[k] b[k] Y Z (q _ (zj d)) (r _ (zj e))
   rw[zc d,zc e]at c;simp only[yr]at c;by_cases n:w8 a[k] b[k]=0
   ·rw[zd n]at c;simp[j,l,m,f,g,h,d,e,i,u,n,w];exact⟨d,by omega,c⟩
   ·rw[ze n]at c;have s:=nzT n;simp[j,l,m,f,g,h,d,e,i,u,s,c,f294]
  ·obtain rfl:k=b.length:=by omega
   rw[zc d,zo]at c;simp only[yr]at c;simp[j,l,m,f,g,h,d,c,f294]
 ·obtain rfl:k=a.length:=by omega
  rw[zo]at c;by_cases t:a.length<b.length
  ·rw[zc t]at c;simp only[yr]at c;simp[j,l,m,f,g,h,t,c,f294]
  ·rw[jH (by omega)]at c;simp only[yr]at c;have x:¬((a.length:Int)<b.length):=by omega
   simp[j,l,m,f,g,h,t,c,f294]
noncomputable def FCf:zb->Option O:=z6 (α:=List za×List za) (fun a=>[.sl 1 (zJ a.1),.sl 1 (zJ a.2),.fn (.func 295) [] []]) (fun a=>xg a.1/\xg a.2) (fun a=>int (yr w8 a.1 a.2))
theorem zgV:∀a b:List za×List za,[O.sl 1 (zJ a.1),.sl 1 (zJ a.2),.fn (.func 295) [] []]=[.sl 1 (zJ b.1),.sl 1 (zJ b.2),.fn (.func 295) [] []]->a=b:=by rintro⟨f,g⟩ ⟨h,i⟩ e;simp only[zh,zD]at e;obtain⟨c,d⟩:=e;injection c with _ c;injection d with _ d;rw[kn c,kn d]
theorem dp:zg prog 294 (zf false [] FCf):=
 pS1 zgU func294 false [] fun⟨a,b⟩ ⟨c,d⟩=>⟨by simp[f294],_,e8 a b c d,zW _⟩
theorem zcU(a b:List za)(Y:Hp)(Z:Nat)(c:xg a)(d:xg b):zf false [] FCf [.sl 1 (zJ a),.sl 1 (zJ b),.fn (.func 295) [] []] Y Z=some (int (yr w8 a b),Y,Z):=
 zU (Y1:=Y) (by simp) (zE (V:=fun a:List za×List za=>[O.sl 1 (zJ a.1),.sl 1 (zJ a.2),.fn (.func 295) [] []]) (a:=(a,b)) zgV ⟨c,d⟩) (.inl rfl)
noncomputable def xG (v w:wQ):Int:=if Xb [wR v.a w.a,wR v.b w.b,wR v.c w.c]=0 then(if v.pre.length=0 then(if w.pre.length=0 then 0 else 1)else if w.pre.length=0 then -1 else yr w8 v.pre w.pre)else Xb [wR v.a w.a,wR v.b w.b,wR v.c w.c]
noncomputable abbrev Ccv:Ctx:=zQ prog [(187,zf false [] (F2I wR)),(225,zf false [] SZ),(294,zf false [] FCf)]
theorem zgW:AM.Good Ccv (fun g=>[187,225].contains g):=zw mixed ⟨WV,fun _=>zu _ _,ay,fun _=>zu _ _,dp,by simp,trivial⟩
theorem az(v w:wQ)(t:v.small)(u:w.small):zr Ccv f258 [.agg v.V,.agg w.V]=some (int (xG v w)):=by
 obtain⟨a,b,c,p⟩:=v;obtain⟨k,l,m,e⟩:=w;refine zm rfl ?_;have n:=fun Y Z=>zcU p e Y Z t u
 obtain⟨o,s⟩:=exI (Xb [wR a k,wR b l,wR c m]);have d:∀(Y:Hp) (Z id:Nat),Y id=some ⟨3,1,true,[[int (wR a k)],[int (wR b l)],[int (wR c m)]]⟩->zf false [] SZ [.own id 0 3] Y Z=some (int o,Y,Z):=fun Y Z id x=>s ▸ eZ [_,_,_] Y Z id _ (by show 3<=zx;decide) x
 have j:xG ⟨a,b,c,p⟩ ⟨k,l,m,e⟩=if o=0 then(if p.length=0 then(if e.length=0 then 0 else 1)else if e.length=0 then -1 else yr w8 p e)else o:=by rw[<-s];rfl
 rw[j];by_cases q:o=0
 ·subst q;by_cases h:p.length=0<;>by_cases i:e.length=0
  ·simp[wQ.V,d,zz,zS,zy,h,i,f258]
  ·have f:((e.length:Int)==0)=false:=by simpa using i
   simp[wQ.V,d,zz,zS,zy,h,i,f,f258]
  ·have g:((p.length:Int)==0)=false:=by simpa using h
   simp[wQ.V,d,zz,zS,zy,h,i,g,f258]
  ·have g:((p.length:Int)==0)=false:=by simpa using h
   have f:((e.length:Int)==0)=false:=by simpa using i
   simp[wQ.V,d,zz,zS,zy,h,i,g,f,n,f258]
 ·have r:=nzT q;simp[wQ.V,d,zz,zS,zy,q,r,f258]
noncomputable def Ur (f:wQ->wQ->O):zb->Option O:=z6 (α:=wQ×wQ) (fun a=>[.agg a.1.V,.agg a.2.V]) (fun a=>a.1.small/\a.2.small) (fun a=>f a.1 a.2)
theorem zgX:∀a b:wQ×wQ,[O.agg a.1.V,.agg a.2.V]=[.agg b.1.V,.agg b.2.V]->a=b:=by rintro⟨f,g⟩ ⟨h,i⟩ e;simp only[zh,zD]at e;obtain⟨c,d⟩:=e;injection c with c;injection d with d;rw[YF c,YF d]
theorem X0:zg prog 258 (qG [.g kJ,.g kJ] (Ur fun v w=>int (xG v w))):=
 yc (fn:=f258) zgW (zpi func258) _ _ fun args r h=>by obtain⟨⟨v,w⟩,rfl,⟨a,b⟩,rfl⟩:=zp h;exact⟨by simp[f258],_,az v w a b,qW.refl _⟩
theorem Cb(v w:wQ)(Y:Hp)(Z:Nat)(b:v.small)(c:w.small):qG [.g kJ,.g kJ] (Ur fun v w=>int (xG v w)) [.agg v.V,.agg w.V] Y Z=some (int (xG v w),Y,Z):=
 xF (show zv Y [.agg v.V,.agg w.V]=some ([.agg v.V,.agg w.V],Y) by simp[wQ.V]) (zE (V:=fun a:wQ×wQ=>[O.agg a.1.V,.agg a.2.V]) (a:=(v,w)) zgX ⟨b,c⟩) (.inl rfl)
structure Cut where
 v:wQ
 after:Bool
def Cut.V(c:Cut):zb:=[int c.v.a,int c.v.b,int c.v.c,.sl 1 (zJ c.v.pre),qz c.after]
abbrev jP:List (Option Nat):=[none,none,none,some 1,none]
theorem ZR{a b:Cut}(h:a.V=b.V):a=b:=by obtain⟨⟨i,j,k,l⟩,m⟩:=a;obtain⟨⟨n,o,p,q⟩,r⟩:=b;simp only[Cut.V,zh,zD]at h;obtain⟨d,e,f,c,g⟩:=h;injection c with _ c;rw[qB d,qB e,qB f,kn c,WR g]
noncomputable def wz (a b:Cut):Int:=if xG a.v b.v=0 then(if a.after=b.after then 0 else if b.after=true then -1 else 1)else xG a.v b.v
noncomputable def Ce (f:Cut->Cut->O):zb->Option O:=z6 (α:=Cut×Cut) (fun a=>[.agg a.1.V,.agg a.2.V]) (fun a=>a.1.v.small/\a.2.v.small) (fun a=>f a.1 a.2)
theorem Us:∀a b:Cut×Cut,[O.agg a.1.V,.agg a.2.V]=[.agg b.1.V,.agg b.2.V]->a=b:=by rintro⟨f,g⟩ ⟨h,i⟩ e;simp only[zh,zD]at e;obtain⟨c,d⟩:=e;injection c with c;injection d with d;rw[ZR c,ZR d]
noncomputable abbrev Ccu:Ctx:=zQ prog [(258,qG [.g kJ,.g kJ] (Ur fun v w=>int (xG v w)))]
theorem Ut:Gd Ccu:=zph mixed ⟨X0,trivial⟩
theorem il(x y:Cut)(l:x.v.small)(m:y.v.small):zr Ccu f253 [.agg x.V,.agg y.V]=some (int (wz x y)):=by
 obtain⟨⟨a,b,c,p⟩,f⟩:=x;obtain⟨⟨h,i,j,k⟩,f'⟩:=y;refine zm rfl ?_;have d:=fun Y Z=>Cb ⟨a,b,c,p⟩ ⟨h,i,j,k⟩ Y Z l m
 simp only[wQ.V]at d;by_cases e:xG ⟨a,b,c,p⟩ ⟨h,i,j,k⟩=0
 ·cases f<;>cases f'<;>simp[Cut.V,d,e,wz,f253]
 ·have g:=nzT e;simp[Cut.V,d,e,g,wz,f253]
theorem Zr:zg prog 253 (qG [.g jP,.g jP] (Ce fun v w=>int (wz v w))):=
 yc (fn:=f253) Ut (zpi func253) _ _ fun args r h=>by obtain⟨⟨v,w⟩,rfl,⟨a,b⟩,rfl⟩:=zp h;exact⟨by simp[f253],_,il v w a b,qW.refl _⟩
theorem Cf(x y:Cut)(u v:O)(Y:Hp)(Z:Nat)(b:(Sh.g jP).fix u=.agg x.V)(c:(Sh.g jP).fix v=.agg y.V)(d:zv Y [u,v]=some ([u,v],Y))(e:x.v.small)(f:y.v.small):qG [.g jP,.g jP] (Ce fun v w=>int (wz v w)) [u,v] Y Z=some (int (wz x y),Y,Z):=
 xF d (by show Ce _ [(Sh.g jP).fix u,(Sh.g jP).fix v]=_;rw[b,c];exact zE (V:=fun a:Cut×Cut=>[O.agg a.1.V,.agg a.2.V]) (a:=(x,y)) Us ⟨e,f⟩) (.inl rfl)
mutual
noncomputable def qV:qn->qn->Int
 | .mk k n s a b,w=>if k=w.kind then(if k=1\/k=2 then wR n w.n else if k=3 then yK s w.s else if k=4 then ob a w.items else if k=5 then oc b w.fields else 0)else wR k w.kind
noncomputable def ob:List qn->List qn->Int
 |[],[]=>0
 |[],_::_=>-1
 |_::_,[]=>1
 |a::xs,b::ys=>if qV a b=0 then ob xs ys else qV a b
noncomputable def oc:List (za×qn)->List (za×qn)->Int
 |[],[]=>0
 |[],_::_=>-1
 |_::_,[]=>1
 |(x,a)::xs,g::ys=>if Xb [yK x g.1,qV a g.2]=0 then oc xs ys else Xb [yK x g.1,qV a g.2]
end
noncomputable def ka (f g:za×qn):Int:=Xb [yK f.1 g.1,qV f.2 g.2]
theorem pG:∀a b:List qn,ob a b=yr qV a b
 |[],[]=>rfl
 |[],_::_=>rfl
 |_::_,[]=>rfl
 |a::xs,b::ys=>by simp only[ob,yr,pG xs ys]
theorem pH:∀a b:List (za×qn),oc a b=yr ka a b
 |[],[]=>rfl
 |[],_::_=>rfl
 |_::_,[]=>rfl
 |(x,a)::xs,g::ys=>by simp only[oc,yr,pH xs ys,ka];rfl
theorem Ve(a b:qn):qV a b=if a.kind=b.kind then(if a.kind=1\/a.kind=2 then wR a.n b.n else if a.kind=3 then yK a.s b.s else if a.kind=4 then yr qV a.items b.items else if a.kind=5 then yr ka a.fields b.fields else 0)else wR a.kind b.kind:=by
 cases a with
 |mk k n s e f=>
  cases b with
  |mk g h i c d=>simp only[qV,pG,pH,qn.kind,qn.n,qn.s,qn.items,qn.fields];rfl
noncomputable def Uu (n:Nat):zb->Option O:=z6 (α:=qn×qn) (fun a=>[.agg a.1.V,.agg a.2.V]) (fun a=>a.1.vb<=zx/\a.1.vb<=n/\a.2.vb<=zx) (fun a=>int (qV a.1 a.2))
theorem YG(n:Nat)(a b:qn)(Y:Hp)(Z:Nat)(h:a.vb<=zx/\a.vb<=n/\b.vb<=zx):zf false [] (Uu n) [.agg a.V,.agg b.V] Y Z=some (int (qV a b),Y,Z):=
 zU (Y1:=Y) (show zv Y [.agg a.V,.agg b.V]=some ([.agg a.V,.agg b.V],Y) by simp only[zv,V4])
  (zE (V:=fun a:qn×qn=>[.agg a.1.V,.agg a.2.V]) (a:=(a,b)) (fun x y e=>by obtain⟨c,d⟩:=x;obtain⟨f,g⟩:=y;simp only[zh,zD,O.agg.injEq]at e;rw[Qt e.1,Qt e.2]) h) (.inl rfl)
theorem im{f:FuncId}{F:zb->Option O}(b:∃fn,prog.funcs[f]?=some fn/\(fn.name== "runtime.NumGoroutine")=false/\fn.body.isNone=false)(h:∀args r,F args=some r->False):zg prog f (zf false [] F):=by
 refine⟨b,fun args Y Z r c d a=>?_⟩;unfold zf at a;split at a
 ·split at a
  ·rename_i e hF;exact(h _ _ hF).elim
  ·cases a
 ·cases a
theorem iq{a b:za×qn}(h:yD a=yD b):a=b:=by obtain⟨c,d⟩:=a;obtain⟨e,f⟩:=b;simp only[yD,zh]at h;rw[q9 h.1,Qt h.2]
theorem u9{a b:List (za×qn)}(h:a.map yD=b.map yD):a=b:=yX (fun _ _=>iq) h
theorem ir{a b:List qn}(h:a.map qn.V=b.map qn.V):a=b:=yX (fun _ _=>Qt) h
noncomputable abbrev Ccfv (n:Nat):Ctx:=zQ prog [(157,zf false []<|Uu n)]
theorem e9(n:Nat)(a b:List (qn))(p:VG a<=zx/\VG a<=n)(t:VG b<=zx):zr (Ccfv n) f188 [.sl 5 (a.map qn.V),.sl 5 (b.map qn.V),.fn (.func 157) [] []]=some (int (yr qV a b)):=by
 refine zm rfl ?_;obtain⟨p,u⟩:=p;have y:=ju a;have z:=ju b;unfold zx at p t;simp;refine zI (fun k U Y Z=>U 0=.sl 5 (a.map qn.V)/\U 1=.sl 5 (b.map qn.V)/\U 2=.fn (.func 157) [] []/\U 11=.sl 5 (a.map qn.V)/\U 12=int a.length/\U 13=int k/\k<=b.length/\yr qV a b=yr qV (a.drop k) (b.drop k)) a.length
  ⟨by simp,by simp,by simp,by simp,by simp,by simp,by simp,by simp⟩ ?_
 rintro k U Y Z A ⟨j,l,m,f,g,h,v,c⟩;by_cases d:k<a.length
 ·have w:=zlL k;by_cases e:k<b.length
  ·have i:¬b.length<=k:=by omega
   have B:=kD (zj d);have C:=kD (zj e);have s:=fun Y Z=>YG n a[k] b[k] Y Z ⟨by unfold zx;omega,by omega,by unfold zx;omega⟩
   skip
   rw[zc d,zc e]at c;simp only[yr]at c;by_cases o:qV a[k] b[k]=0
   ·rw[zd o]at c;simp[j,l,m,f,g,h,d,e,i,s,o,w];exact⟨d,by omega,c⟩
   ·rw[ze o]at c;have q:=nzT o;simp[j,l,m,f,g,h,d,e,i,s,q,c,f188]
  ·obtain rfl:k=b.length:=by omega
   rw[zc d,zo]at c;simp only[yr]at c;simp[j,l,m,f,g,h,d,c,f188]
 ·obtain rfl:k=a.length:=by omega
  rw[zo]at c;by_cases r:a.length<b.length
  ·rw[zc r]at c;simp only[yr]at c;simp[j,l,m,f,g,h,r,c,f188]
  ·rw[jH (by omega)]at c;simp only[yr]at c;have x:¬((a.length:Int)<b.length):=by omega
   simp[j,l,m,f,g,h,r,c,f188]
noncomputable def FLV (n:Nat):zb->Option O:=z6 (α:=List (qn)×List (qn)) (fun a=>[.sl 5 (a.1.map qn.V),.sl 5 (a.2.map qn.V),.fn (.func 157) [] []]) (fun a=>(VG a.1<=zx/\VG a.1<=n)/\VG a.2<=zx) (fun a=>int (yr qV a.1 a.2))
theorem Uv(n:Nat)(a b:List (qn))(Y:Hp)(Z:Nat)(h:(VG a<=zx/\VG a<=n)/\VG b<=zx):zf false [] (FLV n) [.sl 5 (a.map qn.V),.sl 5 (b.map qn.V),.fn (.func 157) [] []] Y Z=some (int (yr qV a b),Y,Z):=
 zU (Y1:=Y) (by simp) (zE (V:=fun a:List (qn)×List (qn)=>[O.sl 5 (a.1.map qn.V),.sl 5 (a.2.map qn.V),.fn (.func 157) [] []]) (a:=(a,b)) (fun x y e=>by obtain⟨f,g⟩:=x;obtain⟨i,j⟩:=y;simp only[zh,zD]at e;obtain⟨c,d⟩:=e;injection c with _ c;injection d with _ d;rw[ir c,ir d]) h) (.inl rfl)
noncomputable def FFF (n:Nat):zb->Option O:=z6 (α:=(za×qn)×(za×qn)) (fun a=>[.agg (yD a.1),.agg (yD a.2)]) (fun a=>(a.1.2.vb<=zx/\a.1.2.vb<=n/\a.2.2.vb<=zx)) (fun a=>int (ka a.1 a.2))
theorem Uw(n:Nat)(a b:za×qn)(Y:Hp)(Z:Nat)(h:a.2.vb<=zx/\a.2.vb<=n/\b.2.vb<=zx):zf false [] (FFF n) [.agg (yD a),.agg (yD b)] Y Z=some (int (ka a b),Y,Z):=
 zU (Y1:=Y) (show zv Y [.agg (yD a),.agg (yD b)]=some ([.agg (yD a),.agg (yD b)],Y) by simp[yD])
  (zE (V:=fun a:(za×qn)×(za×qn)=>[.agg (yD a.1),.agg (yD a.2)]) (a:=(a,b)) (fun x y e=>by
   obtain⟨d,f⟩:=x;obtain⟨g,i⟩:=y;have c:yD d=yD g/\yD f=yD i:=by simp only[zh,zD,O.agg.injEq]at e;exact⟨zh .. ▸ e.1,zh .. ▸ e.2⟩
   rw[iq c.1,iq c.2]) h) (.inl rfl)
noncomputable abbrev Ccfl (n:Nat):Ctx:=zQ prog [(89,zf false [] (PE yK)),(157,zf false [] (Uu n)),(225,zf false [] SZ)]
theorem dq(n:Nat)(a b:za×qn)(h:a.2.vb<=zx/\a.2.vb<=n/\b.2.vb<=zx):zr (Ccfl n) f190 [.agg (yD a),.agg (yD b)]=some (int (ka a b)):=by
 refine zm rfl ?_;have c:=fun Y Z=>YG n a.2 b.2 Y Z h
 have d:∀(Y:Hp) (Z id:Nat),Y id=some ⟨3,1,true,[[int (yK a.1 b.1)],[int (qV a.2 b.2)]]⟩->zf false [] SZ [.own id 0 2] Y Z=some (int (ka a b),Y,Z):=fun Y Z id e=>eZ [_,_] Y Z id _ (by show 2<=zx;decide) e
 simp[yD,c,d,zz,zS,zy,f190]
noncomputable abbrev Ccff (n:Nat):Ctx:=zQ prog [(190,zf false []<|FFF n)]
theorem fc(n:Nat)(a b:List (za×qn))(p:bZ a<=zx/\bZ a<=n)(t:bZ b<=zx):zr (Ccff n) f189 [.sl 6 (a.map yD),.sl 6 (b.map yD),.fn (.func 190) [] []]=some (int (yr ka a b)):=by
 refine zm rfl ?_;obtain⟨p,u⟩:=p;have y:=jV a;have z:=jV b;unfold zx at p t;simp;refine zI (fun k U Y Z=>U 0=.sl 6 (a.map yD)/\U 1=.sl 6 (b.map yD)/\U 2=.fn (.func 190) [] []/\U 11=.sl 6 (a.map yD)/\U 12=int a.length/\U 13=int k/\k<=b.length/\yr ka a b=yr ka (a.drop k) (b.drop k)) a.length
  ⟨by simp,by simp,by simp,by simp,by simp,by simp,by simp,by simp⟩ ?_
 rintro k U Y Z A ⟨j,l,m,f,g,h,v,c⟩;by_cases d:k<a.length
 ·have w:=zlL k;by_cases e:k<b.length
  ·have i:¬b.length<=k:=by omega
   have B:=xr (zj d);have C:=xr (zj e);have q:=fun Y Z=>Uw n a[k] b[k] Y Z ⟨by unfold zx;omega,by omega,by unfold zx;omega⟩
   simp only[yD]at q;rw[zc d,zc e]at c;simp only[yr]at c;by_cases o:ka a[k] b[k]=0
   ·rw[zd o]at c;simp[j,l,m,f,g,h,d,e,i,q,o,w];exact⟨d,by omega,c⟩
   ·rw[ze o]at c;have r:=nzT o;simp[j,l,m,f,g,h,d,e,i,q,r,c,f189]
  ·obtain rfl:k=b.length:=by omega
   rw[zc d,zo]at c;simp only[yr]at c;simp[j,l,m,f,g,h,d,c,f189]
 ·obtain rfl:k=a.length:=by omega
  rw[zo]at c;by_cases s:a.length<b.length
  ·rw[zc s]at c;simp only[yr]at c;simp[j,l,m,f,g,h,s,c,f189]
  ·rw[jH (by omega)]at c;simp only[yr]at c;have x:¬((a.length:Int)<b.length):=by omega
   simp[j,l,m,f,g,h,s,c,f189]
noncomputable def FLF (n:Nat):zb->Option O:=z6 (α:=List (za×qn)×List (za×qn)) (fun a=>[.sl 6 (a.1.map yD),.sl 6 (a.2.map yD),.fn (.func 190) [] []]) (fun a=>(bZ a.1<=zx/\bZ a.1<=n)/\bZ a.2<=zx) (fun a=>int (yr ka a.1 a.2))
theorem Ux(n:Nat)(a b:List (za×qn))(Y:Hp)(Z:Nat)(h:(bZ a<=zx/\bZ a<=n)/\bZ b<=zx):zf false [] (FLF n) [.sl 6 (a.map yD),.sl 6 (b.map yD),.fn (.func 190) [] []] Y Z=some (int (yr ka a b),Y,Z):=
 zU (Y1:=Y) (by simp) (zE (V:=fun a:List (za×qn)×List (za×qn)=>[O.sl 6 (a.1.map yD),.sl 6 (a.2.map yD),.fn (.func 190) [] []]) (a:=(a,b)) (fun x y e=>by obtain⟨f,g⟩:=x;obtain⟨i,j⟩:=y;simp only[zh,zD]at e;obtain⟨c,d⟩:=e;injection c with _ c;injection d with _ d;rw[u9 c,u9 d]) h) (.inl rfl)
noncomputable abbrev Ccmv (n:Nat):Ctx:=zQ prog [(187,zf false [] (F2I wR)),(89,zf false [] (PE yK)),(188,zf false [] (FLV n)),(189,zf false [] (FLF n))]
theorem tk(n:Nat)(a b:qn)(h:a.vb<=zx/\a.vb<=n+1/\b.vb<=zx):zr (Ccmv n) f157 [.agg a.V,.agg b.V]=some (int (qV a b)):=by
 obtain⟨u,v,w⟩:=h;have x:=Zp a;have y:=Zp b;have m:=fun Y Z=>Uv n a.items b.items Y Z ⟨⟨by omega,by omega⟩,by omega⟩
 have o:=fun Y Z=>Ux n a.fields b.fields Y Z ⟨⟨by omega,by omega⟩,by omega⟩
 refine zm rfl ?_;have c:=Ve a b;by_cases e:a.kind=b.kind
 ·rw[zd e]at c;by_cases j:a.kind=1
  ·rw[zd (.inl j)]at c;have d:b.kind=1:=by omega
   simp[j,d,c,f157]
  by_cases k:a.kind=2
  ·rw[zd (.inr k)]at c;have d:b.kind=2:=by omega
   simp[k,d,c,f157]
  rw[ze (by omega)]at c;by_cases f:a.kind=3
  ·rw[zd f]at c;have d:b.kind=3:=by omega
   simp[f,d,c,f157]
  rw[ze f]at c;by_cases g:a.kind=4
  ·rw[zd g]at c;have d:b.kind=4:=by omega
   simp[g,d,c,m,f157]
  rw[ze g]at c;by_cases i:a.kind=5
  ·rw[zd i]at c;have d:b.kind=5:=by omega
   simp[i,d,c,o,f157]
  rw[ze i]at c;have l:(a.kind != b.kind)=false:=by simpa using e
  have p:=eqF0 j;have q:=eqF0 k;have r:=eqF0 f;have s:=eqF0 g;have t:=eqF0 i;simp[l,p,q,r,s,t,c,f157]
 ·rw[ze e]at c;have l:(a.kind != b.kind)=true:=by simpa using e
  simp[l,c,f157]
theorem nJ{n:Nat}{args:zb}{r:O}(h:Uu n args=some r):∃a b:qn,args=[.agg a.V,.agg b.V]/\(a.vb<=zx/\a.vb<=n/\b.vb<=zx)/\r=int (qV a b):=by obtain⟨⟨a,b⟩,c,d,e⟩:=zp h;exact⟨a,b,c,d,e⟩
theorem aA:∀n,zg prog 157 (zf false [] (Uu n)):=by
 intro n
 induction n with
 |zero=>
  exact im ⟨_,func157,by kernel_rfl,by kernel_rfl⟩ fun args r h=>by obtain⟨a,b,_,d,_⟩:=nJ h;have:=JT a;omega
 |succ n e=>
  have f:Gd (Ccfv n):=zph mixed ⟨e,trivial⟩;have i:zg prog 188 (zf false [] (FLV n)):=
   pS1 f func188 false [] fun⟨a,b⟩ ⟨c,d⟩=>by exact⟨zG (zl 3) (by decide),_,e9 n a b c d,zW _⟩
  have j:AM.Good (Ccfl n) (fun g=>[89,157,225].contains g):=zw mixed ⟨vj,fun _=>zu _ _,e,fun _=>zu _ _,ay,fun _=>zu _ _,trivial⟩;have k:zg prog 190 (zf false [] (FFF n)):=
   pS1 j func190 false [] fun⟨a,b⟩ c=>by exact⟨zG (zl 2) (by decide),_,dq n a b c,zW _⟩
  have l:Gd (Ccff n):=zph mixed ⟨k,trivial⟩;have m:zg prog 189 (zf false [] (FLF n)):=
   pS1 l func189 false [] fun⟨a,b⟩ ⟨c,d⟩=>by exact⟨zG (zl 3) (by decide),_,fc n a b c d,zW _⟩
  have o:Gd (Ccmv n):=zph mixed ⟨WV,vj,i,m,trivial⟩;exact zX (fn:=f157) o (zpi func157) false [] _ fun args r h=>by obtain⟨a,b,rfl,c,rfl⟩:=nJ h;exact⟨zG (zl 2) (by decide),_,tk n a b c,zW _⟩
end Go.Q
namespace Go.AM
def JV(a:List Sh)(F:zb->Option O):AM.Spec:=zf true [] fun args=>F (eH a args)
theorem E9{C:Ctx}{pf:FuncId->Bool}{f:FuncId}{fn:Func}(c:AM.Good C pf)(d:Q9 C pf f fn)(a:List Sh)(F:zb->Option O)
  (hF:∀args r,F args=some r->args.length<=fn.ntmps/\∃b,zr C fn args=some b/\qW b r):zg C.P f (JV a F):=
 xE c d true [] _ fun args r h w S vs e=>by obtain⟨g,b,i,j⟩:=hF _ _ h;exact⟨eH a args,b,Va e,g,i,j⟩
theorem Uy{a:List Sh}{F:zb->Option O}{args:zb}{Y Y1:Hp}{Z:Nat}{ys:zb}{r:O}(b:zv Y args=some (ys,Y1))(c:F (eH a ys)=some r)(d:(r.flat=true\/args.all O.noOwn=true)->Y1=Y) :
  JV a F args Y Z=some (r,Y1,Z):=by
 have e:yP [] ys=ys:=by cases ys<;>rfl
 unfold JV zf;simp only[b,e,c];split
 ·rename_i h;rw[d h]
 ·simp
theorem Lu(c:List Sh)(F:zb->Option O):Yh (JV c F):=by
 intro args Y Z r e f h;unfold JV zf at h;split at h
 ·rename_i ys Y1 d;split at h
  ·split at h
   ·injection h with h;injection h with _ h;injection h with a b;subst a;subst b;exact⟨zl _,fun id blk _ a _=>a⟩
   ·split at h
    ·injection h with h;injection h with _ h;injection h with a b;subst a;subst b;exact⟨zl _,fun id blk _ a b=>au d a b⟩
    ·cases h
  ·cases h
 ·cases h
def Zs(P:Program)(l:Qq)(k:Nat)(D:List (Tmp×Tmp))(L:List Tmp)(b:List Nat):Ctx:=⟨P,lookup l,fun i=>if i=k then D else[],fun i=>if i=k then L else[],fun g=>b.contains g,fun _=>[],fun _=>none⟩
@[simp]theorem ziX(P:Program)(l:Qq)(k:Nat)(D:List (Tmp×Tmp))(L:List Tmp)(b:List Nat):(Zs P l k D L b).P=P:=rfl
@[simp]theorem ziY(P:Program)(l:Qq)(k:Nat)(D:List (Tmp×Tmp))(L:List Tmp)(b:List Nat)(Y:Hp)(Z g:Nat)(x y xs:zb):kd (Zs P l k D L b) Y Z (some (.fn (.func g) x y)) xs=(lookup l g).bind fun s=>s (x++xs++y) Y Z:=by unfold kd Zs;simp only;cases lookup l g<;>rfl
@[simp]theorem S3(P:Program)(l:Qq)(k:Nat)(D:List (Tmp×Tmp))(L:List Tmp)(b:List Nat)(i:Nat)(a:Array Oper)(d:Bool)(st:St)(K:Exit->St->Prop)(h:¬i=k):ZY (Zs P l k D L b) (.region i a d) st K=uG (Zs P l k D L b) a a.toList st (K7 K):=
 JP _ i a d st K (by simp[Zs,h]) (by simp[Zs,h])
theorem kL{P:Program}{l:Qq}{k:Nat}{D:List (Tmp×Tmp)}{L:List Tmp}{b:List Nat}{a:Array Oper}{d:Bool}{st:St}{K:Exit->St->Prop}(h:YV D st)(c:QI L st):ZY (Zs P l k D L b) (.region k a d) st K=uG (Zs P l k D L b) a a.toList st (K7 K):=
 Yy _ k a d st K (by simpa[Zs]using h) (by simpa[Zs]using c)
theorem Aa{P:Program}{l:Qq}{q:List Nat}{k:Nat}{D:List (Tmp×Tmp)}{L:List Tmp}{b:List Nat}(a:P.follows .mixedOrders=true)(h:de True P q l)(c:df b l):AM.Good (Zs P l k D L b) (fun g=>q.contains g):=
 let g:=eG (k:=k) (L:=L) a h c
 ⟨g.spec,g.quiet,g.mixed,g.box,fun _ _ h=>by cases h⟩
end Go.AM
namespace Go.Q
def D4(a b c:Int):O:=.agg [int a,int b,int c]
noncomputable def Lv:zb->Option O:=z6 (α:=Int×Int×Int×List za) (fun a=>[D4 a.1 a.2.1 a.2.2.1,.sl 1 (zJ a.2.2.2)]) (fun _=>True) (fun a=>.agg (⟨a.1,a.2.1,a.2.2.1,a.2.2.2⟩:wQ).V)
theorem zcV:∀a b:Int×Int×Int×List za,[D4 a.1 a.2.1 a.2.2.1,.sl 1 (zJ a.2.2.2)]=[D4 b.1 b.2.1 b.2.2.1,.sl 1 (zJ b.2.2.2)]->a=b:=by rintro⟨h,i,j,k⟩ ⟨l,m,n,o⟩ e;simp only[D4,zh,zD]at e;obtain⟨c,d⟩:=e;injection c with c;simp only[zh,zD]at c;obtain⟨c,f,g⟩:=c;injection d with _ d;rw[qB c,qB f,qB g,kn d]
theorem Cg(a b c:Int)(p:List za):zr C0 f291 [D4 a b c,.sl 1 (zJ p)]=some (.agg (⟨a,b,c,p⟩:wQ).V):=by refine zm rfl ?_;simp[D4,wQ.V,qe,qM,qS,f291]
theorem KN:zg prog 291 (JV [.a,.s 1 []] Lv):=
 E9 (fn:=f291) yz (zpi func291) _ _ fun args r h=>by obtain⟨⟨a,b,c,p⟩,rfl,_,rfl⟩:=zp h;exact⟨by simp[f291],_,Cg a b c p,qW.refl _⟩
theorem Xc(a b c:Int)(p:List za)(y z:O)(Y Y1:Hp)(Z:Nat)(e:qH Y y=some (z,Y1))(d:n1 1 z=.sl 1 (zJ p))(f:y.noOwn=true->Y1=Y):JV [.a,.s 1 []] Lv [D4 a b c,y] Y Z=some (.agg (⟨a,b,c,p⟩:wQ).V,Y1,Z):=
 Uy (ys:=[D4 a b c,z]) (by
  have g:qH Y (D4 a b c)=some (D4 a b c,Y):=by simp[D4]
  simp only[zv,g,e]) (by
  have:(Sh.s 1 []).fix z=.sl 1 (zJ p):=by
   cases z with
   |sl m es=>simp only[n1]at d;simp only[Sh.fix];rw[<-d];congr 1;exact(Bb (fun c _=>by cases c<;>rfl)).trans (List.map_id _)
   |_=>exact d
  show Lv [D4 a b c,(Sh.s 1 []).fix z]=_;rw[this];exact zE (V:=fun a:Int×Int×Int×List za=>[D4 a.1 a.2.1 a.2.2.1,.sl 1 (zJ a.2.2.2)]) (a:=(a,b,c,p)) zcV trivial) (by simpa[D4,wQ.V]using f)
def wu:Cut:=⟨⟨0,0,0,[[48]]⟩,false⟩
noncomputable def JW (r:O):zb->Option O:=z6 (α:=Unit) (fun _=>[]) (fun _=>True) (fun _=>r)
theorem WW(r:O)(Y:Hp)(Z:Nat):qG [] (JW r) [] Y Z=some (r,Y,Z):=xF (show zv Y []=some ([],Y)from rfl) (zE (V:=fun _:Unit=>[]) (a:=()) (fun _ _ _=>rfl) trivial) (.inr rfl)
theorem Lw:zr C0 f247 []=some (.agg wu.V):=by refine zm rfl ?_;simp[wu,Cut.V,zJ,str,qe,qM,zz,zS,zy,qS,f247]
theorem l9:zg prog 247 (qG [] (JW (.agg wu.V))):=
 yc (fn:=f247) yz (zpi func247) _ _ fun args r h=>by obtain⟨_,rfl,_,rfl⟩:=zp h;exact⟨by simp[f247],_,Lw,qW.refl _⟩
structure qZ where
 lo:Cut
 hi:Cut
 yR:Bool
def qZ.V(s:qZ):zb:=s.lo.V++s.hi.V++[qz s.yR]
def Wy:Cut:=⟨⟨0,0,0,[]⟩,false⟩
abbrev jQ:List (Option Nat):=[none,none,none,some 1,none,none,none,none,some 1,none,none]
def yp(c:Cut):qZ:=⟨c,Wy,true⟩
def dt(a b:Cut):qZ:=⟨a,b,false⟩
def qb(l:List qZ):List zb:=l.map qZ.V
def du:O:=.sl 11 (qb [yp wu])
noncomputable abbrev Cev:Ctx:=zQ prog [(247,qG [] (JW (.agg wu.V)))]
theorem zgY:Gd Cev:=zph mixed ⟨l9,trivial⟩
theorem nc:∃a,zr Cev f201 []=some a/\qW a du:=by refine Wb (sh:=.s 11 jQ) rfl ?_;simp[WW,wu,Cut.V,zJ,str,qe,qM,zz,zS,zy,av,du,qb,yp,qZ.V,Wy,f201]
theorem Vf:zg prog 201 (qG [] (JW du)):=
 yc (fn:=f201) zgY (zpi func201) _ _ fun args r h=>by obtain⟨_,rfl,_,rfl⟩:=zp h;obtain⟨a,b,c⟩:=nc;exact⟨by simp[f201],a,b,c⟩
theorem pI{a b:Part}(h:a.V=b.V):a=b:=by obtain⟨i,j,k,l,m⟩:=a;obtain⟨n,o,p,q,r⟩:=b;simp only[Part.V,zh,zD]at h;obtain⟨d,e,f,g,c⟩:=h;injection c with _ c;rw[qB d,qB e,qB f,qB g,kn c]
def Part.ok(p:Part):Prop:=(0<=p.n0/\p.n0<=999999)/\(0<=p.n1/\p.n1<=999999)/\(0<=p.n2/\p.n2<=999999)/\(1<=p.has/\p.has<=3)/\xg p.pre
noncomputable def FPa (f:Part->O):zb->Option O:=z6 (α:=Part) (fun p=>[.agg p.V]) Part.ok f
theorem Fa(f:Part->O)(p:Part)(u:O)(Y:Hp)(Z:Nat)(h:p.ok)(c:(Sh.g aw).fix u=.agg p.V)(d:qH Y u=some (u,Y))(i:u.noOwn=true):qG [.g aw] (FPa f) [u] Y Z=some (f p,Y,Z):=
 xF (show zv Y [u]=some ([u],Y) by simp only[zv,d]) (by show FPa f [(Sh.g aw).fix u]=_;rw[c];exact zE (V:=fun p:Part=>[O.agg p.V]) (a:=p) (fun a b e=>by simp only[zh,zD]at e;injection e with e;exact pI e) h) (.inr (by rw[q8,i];rfl))
noncomputable def FPt (f:Part->O):zb->Option O:=z6 (α:=Part) (fun p=>[.agg p.V]) (fun _=>True) f
theorem Uz(f:Part->O)(p:Part)(Y:Hp)(Z:Nat):qG [.g aw] (FPt f) [.agg p.V] Y Z=some (f p,Y,Z):=
 xF (show zv Y [.agg p.V]=some ([.agg p.V],Y) by simp[Part.V]) (by show FPt f [(Sh.g aw).fix (.agg p.V)]=_;rw[show(Sh.g aw).fix (.agg p.V)=.agg p.V by simp[Part.V]];exact zE (V:=fun p:Part=>[O.agg p.V]) (a:=p) (fun a b e=>by simp only[zh,zD]at e;injection e with e;exact pI e) trivial) (.inr (by simp[Part.V]))
def Qc(p:Part):Cut:=⟨⟨p.n0,p.n1,p.n2,p.pre⟩,false⟩
noncomputable abbrev Clo:Ctx:=zQ prog [(291,JV [.a,.s 1 []] Lv)]
theorem zgZ:Gd Clo:=zph mixed ⟨KN,trivial⟩
theorem UA(p:Part):zr Clo f248 [.agg p.V]=some (.agg (Qc p).V):=by
 obtain⟨a,b,c,d,e⟩:=p;refine zm rfl ?_;have f:=fun Y Z=>Xc a b c e (.sl 1 (zJ e)) (.sl 1 (zJ e)) Y Y Z (by simp) rfl (fun _=>rfl)
 simp[D4]at f;simp[Part.V,f,Qc,Cut.V,wQ.V,qe,qM,qS,f248]
theorem PF:zg prog 248 (qG [.g aw] (FPt fun p=>.agg (Qc p).V)):=
 yc (fn:=f248) zgZ (zpi func248) _ _ fun args r h=>by obtain⟨p,rfl,_,rfl⟩:=zp h;exact⟨by simp[f248],_,UA p,qW.refl _⟩
def jM(p:Part):Nat->Cut
 | 0=>⟨⟨p.n0+1,0,0,[[48]]⟩,false⟩
 | 1=>⟨⟨p.n0,p.n1+1,0,[[48]]⟩,false⟩
 |_=>⟨⟨p.n0,p.n1,p.n2+1,[[48]]⟩,false⟩
def xt(p:Part):Nat->Bool
 | 0=>decide (p.n0+1<=999999)
 | 1=>decide (p.n1+1<=999999)
 |_=>decide (p.n2+1<=999999)
def vT(p:Part)(i:Nat):O:=.wY [.agg (jM p i).V,qz (xt p i)]
noncomputable abbrev Crsd:Ctx:=Zs prog [(291,JV [.a,.s 1 []] Lv)] 7 [(6,4),(28,4)] [4,6,28] [291]
theorem zcW:Gd Crsd:=Aa mixed ⟨KN,by simp,trivial⟩ ⟨fun _=>Lu _ _,trivial⟩
theorem JG(st:St):YV [] st:=fun _ h=>by cases h
theorem yy{a b:Tmp}{D:List (Tmp×Tmp)}{st:St}(h:Bg st a b)(c:YV D st):YV ((a,b)::D) st:=fun p Y=>by
 rcases zA.1 Y with rfl|Y
 ·exact h
 ·exact c p Y
theorem Vg(st:St):QI [] st:=fun _ h=>by cases h
theorem Zd{s:Tmp}{L:List Tmp}{st:St}{id i j:Nat}{blk:kV}(h:st.U s=.ref id i j)(b:id<st.Z)(c:st.Y id=some blk)(d:blk.arr=false)(f:QI L st)(hs:s<zB:=by decide):QI (s::L) st:=fun t a=>by
 rcases zA.1 a with rfl|a
 ·refine⟨⟨fun id' o n e=>(by rw[h]at e;cases e),fun id' i' j' e=>?_⟩,fun g=>absurd hs (Nat.not_lt.2 g)⟩;rw[h]at e;injection e with e _ _
  subst e;exact⟨b,blk,c,d⟩
 ·exact f t a
theorem vq{s:Tmp}{L:List Tmp}{st:St}{x:zb}(h:st.U s=.wY x)(b:QI L st)(hs:s<zB:=by decide):QI (s::L) st:=fun t a=>by
 rcases zA.1 a with rfl|a
 ·exact⟨⟨fun id' o n e=>(by rw[h]at e;cases e),fun id' i' j' e=>(by rw[h]at e;cases e)⟩,fun c=>absurd hs (Nat.not_lt.2 c)⟩
 ·exact b t a
theorem JH{a b:Tmp}{st:St}{id i j id' i' j':Nat}{blk:kV}(d:st.U a=.ref id i j)(e:st.U b=.ref id' i' j')(f:id≠id')(g:st.Y id'=some blk)(h:blk.arr=false):Bg st a b:=by
 intro k l m c;rw[d]at c;injection c with c _ _
 subst c;exact⟨id',i',j',blk,e,f,g,h⟩
theorem ky{a b:Tmp}{st:St}{x:zb}(d:st.U a=.wY x):Bg st a b:=by intro e f g c;rw[d]at c;cases c
theorem Fb(p:Part)(i:Nat)(hi:i<3)(Y:p.ok):∃j,zr Crsd f251 [.agg p.V,int i]=some j/\qW j (vT p i):=by
 obtain⟨a,b,c,d,e⟩:=p;obtain⟨⟨k,l⟩,⟨m,n⟩,⟨o,q⟩,_⟩:=Y;simp only at k l m n o q;refine yZ (sh:=.g jP) rfl ?_;have r:=zpg (a+1);have t:=zpg (b+1);have u:=zpg (c+1);have f:∀(a b c:Int) (Y:Hp) (Z id:Nat),Y id=some ⟨9,1,true,[[str [48]]]⟩->JV [.a,.s 1 []] Lv [D4 a b c,.own id 0 1] Y Z=some (.agg (⟨a,b,c,[[48]]⟩:wQ).V,qR Y id none,Z):=fun a b c Y Z id v=>Xc a b c [[48]] (.own id 0 1) (.sl 1 [[str [48]]]) Y (qR Y id none) Z (by simp[v]) rfl (fun h=>by cases h)
 simp[D4,str]at f;rcases(by omega:i=0\/i=1\/i=2)with rfl|rfl|rfl
 ·simp[Part.V,r];rw[zT];simp;rw[zT];simp;rw[zT];simp;rw[kL (yy (JH (by simp;exact⟨rfl,rfl,rfl⟩) (by simp;exact⟨rfl,rfl,rfl⟩) (by omega) (by simp;rfl) rfl) (yy (ky (by simp;rfl)) (JG _)))
   (Zd (by simp;exact⟨rfl,rfl,rfl⟩) (by simp) (by simp;rfl) rfl (Zd (by simp;exact⟨rfl,rfl,rfl⟩) (by simp) (by simp;rfl) rfl (vq (by simp;rfl) (Vg _))))]
  simp[f,qe,qM,zz,zS,zy,qC,vT,jM,xt,Cut.V,wQ.V,f251]
 ·simp[Part.V,t];rw[zT];simp;rw[zT];simp;rw[kL (yy (JH (by simp;exact⟨rfl,rfl,rfl⟩) (by simp;exact⟨rfl,rfl,rfl⟩) (by omega) (by simp;rfl) rfl) (yy (ky (by simp;rfl)) (JG _)))
   (Zd (by simp;exact⟨rfl,rfl,rfl⟩) (by simp) (by simp;rfl) rfl (Zd (by simp;exact⟨rfl,rfl,rfl⟩) (by simp) (by simp;rfl) rfl (vq (by simp;rfl) (Vg _))))]
  simp[f,qe,qM,zz,zS,zy,qC,vT,jM,xt,Cut.V,wQ.V,f251]
 ·simp[Part.V,u];rw[zT];simp;rw[kL (yy (JH (by simp;exact⟨rfl,rfl,rfl⟩) (by simp;exact⟨rfl,rfl,rfl⟩) (by omega) (by simp;rfl) rfl) (yy (ky (by simp;rfl)) (JG _)))
   (Zd (by simp;exact⟨rfl,rfl,rfl⟩) (by simp) (by simp;rfl) rfl (Zd (by simp;exact⟨rfl,rfl,rfl⟩) (by simp) (by simp;rfl) rfl (vq (by simp;rfl) (Vg _))))]
  simp[f,qe,qM,zz,zS,zy,qC,vT,jM,xt,Cut.V,wQ.V,f251]
noncomputable def FPi (f:Part->Nat->O):zb->Option O:=z6 (α:=Part×Nat) (fun a=>[.agg a.1.V,int a.2]) (fun a=>a.1.ok/\a.2<3) (fun a=>f a.1 a.2)
theorem zg0:∀a b:Part×Nat,[O.agg a.1.V,int a.2]=[O.agg b.1.V,int b.2]->a=b:=by rintro⟨h,d⟩ ⟨i,f⟩ e;simp only[zh,zD]at e;obtain⟨c,g⟩:=e;injection c with c;have:=qB g;rw[pI c,show d=f by omega]
theorem Fc(f:Part->Nat->O)(p:Part)(i:Nat)(u:O)(Y:Hp)(Z:Nat)(h:p.ok)(hi:i<3)(b:(Sh.g aw).fix u=.agg p.V)(c:qH Y u=some (u,Y))(d:u.noOwn=true):qG [.g aw] (FPi f) [u,int i] Y Z=some (f p i,Y,Z):=
 xF (show zv Y [u,int i]=some ([u,int i],Y) by simp only[zv,c];rfl) (by show FPi f [(Sh.g aw).fix u,int i]=_;rw[b];exact zE (V:=fun a:Part×Nat=>[O.agg a.1.V,int a.2]) (a:=(p,i)) zg0 ⟨h,hi⟩) (.inr (by rw[q8,d];rfl))
theorem fe:zg prog 251 (qG [.g aw] (FPi vT)):=
 yc (fn:=f251) zcW (zpi func251) _ _ fun args r h=>by obtain⟨⟨p,i⟩,rfl,⟨a,b⟩,rfl⟩:=zp h;obtain⟨c,d,e⟩:=Fb p i b a;exact⟨by simp[f251],c,d,e⟩
def xm(p:Part):Cut:=if p.has<3 then jM p (p.has-1).toNat else⟨⟨p.n0,p.n1,p.n2,p.pre⟩,true⟩
def Wg(p:Part):Bool:=if p.has<3 then xt p (p.has-1).toNat else true
def Kq(p:Part):O:=.wY [.agg (xm p).V,qz (Wg p)]
noncomputable abbrev Chi:Ctx:=zQ prog [(291,JV [.a,.s 1 []] Lv),(251,qG [.g aw] (FPi vT))]
theorem zg1:Gd Chi:=zph mixed ⟨KN,fe,trivial⟩
@[simp]theorem nK(p:Part)(Y:Hp):qH Y (.agg p.V)=some (.agg p.V,Y):=by simp[Part.V]
theorem PG(p:Part)(Y:p.ok):zr Chi f250 [.agg p.V]=some (Kq p):=by
 have a:=Y;obtain⟨_,_,_,⟨g,h⟩,_⟩:=Y;refine zm rfl ?_;have b:=fun Y Z=>Fc vT p (p.has-1).toNat (.agg p.V) Y Z a (by omega) (by simp[Part.V]) (nK p Y) (by simp[Part.V])
 have e:(((p.has-1).toNat:Nat):Int)=p.has-1:=by omega
 have f:=zpg (p.has-1);rw[e]at b;have c:=fun Y Z=>Xc p.n0 p.n1 p.n2 p.pre (.sl 1 (zJ p.pre)) (.sl 1 (zJ p.pre)) Y Y Z (by simp) rfl (fun _=>rfl)
 simp[D4]at c;simp only[Part.V]at b;by_cases d:p.has<3
 ·simp[Part.V,d,b,f,Kq,xm,Wg,vT,Cut.V,qS,f250]
 ·simp[Part.V,d,c,Kq,xm,Wg,Cut.V,wQ.V,qe,qM,qS,f250]
theorem Lx:zg prog 250 (qG [.g aw] (FPa Kq)):=
 yc (fn:=f250) zg1 (zpi func250) _ _ fun args r h=>by obtain⟨p,rfl,a,rfl⟩:=zp h;exact⟨by simp[f250],_,PG p a,qW.refl _⟩
noncomputable def iu (a b:Cut):List qZ:=if 0<=wz a b then[]else[dt a b]
noncomputable def Xd (a b:Cut):O:=.sl 11 (qb (iu a b))
noncomputable abbrev Cbt:Ctx:=zQ prog [(253,qG [.g jP,.g jP] (Ce fun v w=>int (wz v w)))]
theorem zg2:Gd Cbt:=zph mixed ⟨Zr,trivial⟩
theorem Ch(x y:Cut)(c:x.v.small)(d:y.v.small):∃b,zr Cbt f249 [.agg x.V,.agg y.V]=some b/\qW b (Xd x y):=by
 refine Wb (sh:=.s 11 jQ) rfl ?_;have a:=fun Y Z=>Cf x y (.agg x.V) (.agg y.V) Y Z (by simp[Cut.V]) (by simp[Cut.V]) (by simp[Cut.V]) c d
 simp only[Cut.V]at a;by_cases h:0<=wz x y
 ·simp[Cut.V,a,h,av,Xd,iu,qb,f249]
 ·simp[Cut.V,a,h,qe,qM,zz,zS,zy,av,Xd,iu,qb,dt,qZ.V,f249]
theorem tm:zg prog 249 (qG [.g jP,.g jP] (Ce Xd)):=
 yc (fn:=f249) zg2 (zpi func249) _ _ fun args r h=>by obtain⟨⟨v,w⟩,rfl,⟨a,b⟩,rfl⟩:=zp h;obtain⟨c,d,e⟩:=Ch v w a b;exact⟨by simp[f249],c,d,e⟩
structure Zw where
 sign:List UInt8
 p:Part
 tu:Part
def Zw.V(c:Zw):zb:=[str c.sign,int c.p.n0,int c.p.n1,int c.p.n2,int c.p.has,.sl 1 (zJ c.p.pre),int c.tu.n0,int c.tu.n1,int c.tu.n2,int c.tu.has,.sl 1 (zJ c.tu.pre)]
abbrev Cj:List (Option Nat):=[none,none,none,none,none,some 1,none,none,none,none,some 1]
theorem PH{a b:Zw}(h:a.V=b.V):a=b:=by obtain⟨q,⟨r,s,t,u,v⟩,⟨w,x,y,z,e⟩⟩:=a;obtain⟨A,⟨B,C,D,E,F⟩,⟨G,H,I,J,f⟩⟩:=b;simp only[Zw.V,zh,zD]at h;obtain⟨g,i,j,k,l,d,m,n,o,p,c⟩:=h;injection d with _ d;injection c with _ c;rw[q9 g,qB i,qB j,qB k,qB l,kn d,qB m,qB n,qB o,qB p,kn c]
def jS:za:=[97,108,108]
def Zw.ok(c:Zw):Prop:=c.sign.length<=zx/\(c.sign=jS\/(c.p.ok/\(c.sign=[45]->c.tu.ok)))
def kb(p:Part):Nat:=if 1<p.has/\p.n0=0 then(if 2<p.has/\p.n1=0 then 2 else 1)else 0
theorem PI(p:Part):kb p<3:=by unfold kb;split<;>(try split)<;>omega
noncomputable def xh (c:Zw):List qZ×Bool:=
 if c.sign=jS then([yp wu],true)
 else if c.sign=[62,61]then([yp (Qc c.p)],true)
 else if c.sign=[60]then(iu wu (Qc c.p),true)
 else if c.sign=[62]then([yp (xm c.p)],Wg c.p)
 else if c.sign=[60,61]then(iu wu (xm c.p),Wg c.p)
 else if c.sign=[45]then(iu (Qc c.p) (xm c.tu),Wg c.tu)
 else if c.sign=[126]then(iu (Qc c.p) (jM c.p (min (c.p.has-1) 1).toNat),xt c.p (min (c.p.has-1) 1).toNat)
 else if c.sign=[94]then(iu (Qc c.p) (jM c.p (kb c.p)),xt c.p (kb c.p))
 else(iu (Qc c.p) (xm c.p),Wg c.p)
noncomputable def KO (c:Zw):O:=.wY [.sl 11 (qb (xh c).1),qz (xh c).2]
def lowP(p:Part):O:=.agg (Qc p).V
def iv:O:=.agg wu.V
noncomputable abbrev Cstt:Ctx:=zQ prog [(248,qG [.g aw] (FPt lowP)),(250,qG [.g aw] (FPa Kq)),(251,qG [.g aw] (FPi vT)),(247,qG [] (JW iv)),(201,qG [] (JW du)),(249,qG [.g jP,.g jP] (Ce Xd))]
theorem zcX:AM.Good Cstt (fun g=>[247,249].contains g):=zw mixed ⟨PF,by simp,Lx,by simp,fe,by simp,l9,fun _=>y7 _ _,Vf,by simp,tm,fun _=>y7 _ _,trivial⟩
theorem Cl:wu.v.small:=⟨by decide,fun p Y=>by simp[wu]at Y;subst Y;decide⟩
theorem Xe(p:Part)(i:Nat):(jM p i).v.small:=by
 have h:(jM p i).v.pre=[[48]]:=by unfold jM;split<;>rfl
 exact⟨by rw[h];decide,fun q a=>by rw[h]at a;simp at a;subst a;decide⟩
theorem QL{p:Part}(h:xg p.pre):(Qc p).v.small:=h
theorem WX{p:Part}(h:xg p.pre):(xm p).v.small:=by
 unfold xm;split
 ·exact Xe _ _
 ·exact h
theorem Cm(c:Cut):(Sh.g jP).fix (.agg c.V)=.agg c.V:=by simp[Cut.V]
theorem UB(c:Cut)(Y:Hp):qH Y (.agg c.V)=some (.agg c.V,Y):=by simp[Cut.V]
theorem Yl(x y:Cut)(Y:Hp)(Z:Nat)(b:x.v.small)(c:y.v.small):qG [.g jP,.g jP] (Ce Xd) [.agg x.V,.agg y.V] Y Z=some (Xd x y,Y,Z):=
 xF (show zv Y [.agg x.V,.agg y.V]=some ([.agg x.V,.agg y.V],Y) by simp only[zv,UB]) (by show Ce _ [(Sh.g jP).fix (.agg x.V),(Sh.g jP).fix (.agg y.V)]=_;rw[Cm,Cm];exact zE (V:=fun a:Cut×Cut=>[O.agg a.1.V,.agg a.2.V]) (a:=(x,y)) Us ⟨b,c⟩) (.inr (by simp[Cut.V]))
theorem pJ(c:Zw)(S:c.ok):∃r0,zr Cstt f202 [.agg c.V]=some r0/\qW r0 (KO c):=by
 obtain⟨h,p,T⟩:=c;obtain⟨_,S⟩:=S;simp only at S;refine yZ (sh:=.s 11 jQ) rfl ?_;have e:=fun Y Z=>Uz lowP p Y Z
 have J:∀(Y:Hp) (Z:Nat),qG [] (JW iv) [] Y Z=some (.agg [int wu.v.a,int wu.v.b,int wu.v.c,.sl 1 (zJ wu.v.pre),qz wu.after],Y,Z):=fun Y Z=>WW _ Y Z
 have X:∀(Y:Hp) (Z:Nat),qG [] (JW du) [] Y Z=some (.sl 11 (qb [yp wu]),Y,Z):=fun Y Z=>WW _ Y Z
 simp only[lowP,Part.V,Cut.V]at e;by_cases K:h=jS
 ·subst K;simp[Zw.V,e,X,jS,qC,KO,xh,qb,yp,qZ.V,Cut.V,Wy,f202]
 obtain⟨Y,ht⟩:=S.resolve_left K;have B:xg p.pre:=Y.2.2.2.2;have k:(h==[97,108,108])=false:=by simpa[jS]using K
 by_cases W:h=[62,61]
 ·subst W;simp[Zw.V,e,k,qe,qM,zz,zS,zy,jS,qC,KO,xh,qb,yp,qZ.V,Cut.V,Wy,f202]
 have l:=eqF0 W;have L:=fun Y Z=>Yl wu (Qc p) Y Z Cl (QL B)
 have M:=fun Y Z=>Yl wu (xm p) Y Z Cl (WX B)
 have G:=fun I Z=>Fa Kq p (.agg p.V) I Z Y (by simp[Part.V]) (nK p I) (by simp[Part.V])
 simp only[Xd,Kq,Part.V,Cut.V]at L M G;by_cases s2:h=[60]
 ·subst s2;simp[Zw.V,e,J,L,k,l,jS,qC,KO,xh,qb,qZ.V,Cut.V,f202]
 have m:=eqF0 s2;by_cases s3:h=[62]
 ·subst s3;simp[Zw.V,e,G,k,l,m,qe,qM,zz,zS,zy,jS,qC,KO,xh,qb,yp,qZ.V,Cut.V,Wy,f202]
 have q:=eqF0 s3;by_cases s4:h=[60,61]
 ·subst s4;simp[Zw.V,e,G,J,M,k,l,m,q,qe,qM,zz,zS,zy,jS,qC,KO,xh,qb,yp,qZ.V,Cut.V,Wy,f202]
 have r:=eqF0 s4;by_cases s5:h=[45]
 ·subst s5;have N:=ht rfl;have P:=fun Y Z=>Yl (Qc p) (xm T) Y Z (QL B) (WX N.2.2.2.2)
  have Q:=fun I Z=>Fa Kq T (.agg T.V) I Z N (by simp[Part.V]) (nK T I) (by simp[Part.V])
  simp only[Xd,Kq,Part.V,Cut.V]at P Q;simp[Zw.V,e,Q,P,k,l,m,q,r,qe,qM,zz,zS,zy,jS,qC,KO,xh,qb,yp,qZ.V,Cut.V,Wy,f202]
 have t:=eqF0 s5;have u:=fun i (hi:i<3) I Z=>Fc vT p i (.agg p.V) I Z Y hi (by simp[Part.V]) (nK p I) (by simp[Part.V])
 have w:=fun i Y Z=>Yl (Qc p) (jM p i) Y Z (QL B) (Xe p i)
 simp only[Xd,vT,Part.V,Cut.V]at u w;have x:i6.wrap (p.has-1)=p.has-1:=zi (by have:=Y.2.2.2.1;omega) (by have:=Y.2.2.2.1;omega);by_cases s6:h=[126]
 ·subst s6;have hm:(if 1<p.has-1 then 1 else p.has-1)=(((min (p.has-1) 1).toNat:Nat):Int):=by have:=Y.2.2.2.1;split<;>omega
  have d:=u (min (p.has-1) 1).toNat (by omega);rw[<-hm]at d;simp[Zw.V,e,d,w,x,k,l,m,q,r,t,qe,qM,zz,zS,zy,jS,qC,KO,xh,qb,yp,qZ.V,Cut.V,Wy,f202]
 have y:=eqF0 s6;by_cases s7:h=[94]
 ·subst s7;have hs3:(2:Int)<p.has->p.has=3:=by have:=Y.2.2.2.1;omega
  by_cases n:1<p.has
  ·have f:(0:Int)<p.has-1:=by omega
   by_cases C:p.n0=0
   ·have g:(p.n0==0)=true:=by simpa using C
    by_cases D:2<p.has
    ·have j:(1:Int)<p.has-1:=by omega
     have E:¬(2:Int)<p.has-1:=by have:=Y.2.2.2.1;omega
     by_cases H:p.n1=0
     ·have z:(p.n1==0)=true:=by simpa using H
      have o:kb p=2:=by simp[kb,n,f,D,j,E,C,H]
      have d:=u 2 (by omega);rw[show((2:Nat):Int)=2 from rfl]at d;simp[Zw.V,e,x,k,l,m,q,r,t,y,n,f,D,j,E,g,z,jS];rw[zT];simp[Zw.V,e,x,k,l,m,q,r,t,y,n,f,D,j,E,g,z];rw[zT];simp[Zw.V,e,x,k,l,m,q,r,t,y,n,f,D,j,E,g,z];rw[zT];simp[Zw.V,e,x,k,l,m,q,r,t,y,d,w,o,n,f,D,j,E,g,z,qe,qM,zz,zS,zy,jS,qC,KO,xh,qb,yp,qZ.V,Cut.V,Wy,f202]
     ·have A:=eqF0 H;have o:kb p=1:=by simp[kb,n,f,D,j,C,H,A]
      have d:=u 1 (by omega);rw[show((1:Nat):Int)=1 from rfl]at d;simp[Zw.V,e,x,k,l,m,q,r,t,y,n,f,D,j,g,A,jS];rw[zT];simp[Zw.V,e,x,k,l,m,q,r,t,y,n,f,D,j,g,A];rw[zT];simp[Zw.V,e,x,k,l,m,q,r,t,y,d,w,o,n,f,D,j,g,A,qe,qM,zz,zS,zy,jS,qC,KO,xh,qb,yp,qZ.V,Cut.V,Wy,f202]
    ·have j:¬(1:Int)<p.has-1:=by omega
     have o:kb p=1:=by simp[kb,n,f,D,j,C]
     have d:=u 1 (by omega);rw[show((1:Nat):Int)=1 from rfl]at d;simp[Zw.V,e,x,k,l,m,q,r,t,y,n,f,D,j,g,jS];rw[zT];simp[Zw.V,e,x,k,l,m,q,r,t,y,n,f,D,j,g];rw[zT];simp[Zw.V,e,x,k,l,m,q,r,t,y,d,w,o,n,f,D,j,g,qe,qM,zz,zS,zy,jS,qC,KO,xh,qb,yp,qZ.V,Cut.V,Wy,f202]
   ·have F:=eqF0 C;have o:kb p=0:=by simp[kb,n,f,C,F]
    have d:=u 0 (by omega);rw[show((0:Nat):Int)=0 from rfl]at d;simp[Zw.V,e,x,k,l,m,q,r,t,y,n,f,F,jS];rw[zT];simp[Zw.V,e,x,k,l,m,q,r,t,y,d,w,o,n,f,F,qe,qM,zz,zS,zy,jS,qC,KO,xh,qb,yp,qZ.V,Cut.V,Wy,f202]
  ·have f:¬(0:Int)<p.has-1:=by omega
   have o:kb p=0:=by simp[kb,n,f]
   have d:=u 0 (by omega);rw[show((0:Nat):Int)=0 from rfl]at d;simp[Zw.V,e,x,k,l,m,q,r,t,y,n,f,jS];rw[zT];simp[Zw.V,e,x,k,l,m,q,r,t,y,d,w,o,n,f,qe,qM,zz,zS,zy,jS,qC,KO,xh,qb,yp,qZ.V,Cut.V,Wy,f202]
 have e7:=eqF0 s7;have R:=fun Y Z=>Yl (Qc p) (xm p) Y Z (QL B) (WX B)
 simp only[Xd,Cut.V]at R;simp only[jS]at K;have e1':=W;simp[Zw.V,e,G,R,k,l,m,q,r,t,y,e7,K,W,s2,s3,s4,s5,s6,s7,qe,qM,zz,zS,zy,jS,qC,KO,xh,qb,yp,qZ.V,Cut.V,Wy,f202]
noncomputable def FCm (f:Zw->O):zb->Option O:=z6 (α:=Zw) (fun c=>[.agg c.V]) Zw.ok f
theorem nf:zg prog 202 (qG [.g Cj] (FCm KO)):=
 yc (fn:=f202) zcX (zpi func202) _ _ fun args r h=>by obtain⟨c,rfl,a,rfl⟩:=zp h;obtain⟨b,d,e⟩:=pJ c a;exact⟨by simp[f202],b,d,e⟩
def wH:List za:=[[62,61],[60,61],[62],[60],[61],[126],[94]]
def wS:List za->za->za×za
 |[],s=>([],s)
 |g::l,s=>if g.isPrefixOf s=true then(g,s.drop g.length)else wS l s
def opP(s:za):O:=.wY [str (wS wH s).1,str (wS wH s).2]
noncomputable abbrev Cop:Ctx:=zQ prog [(290,zf false [] (Zo cpP fun _ _=>True))]
theorem zg3:Gd Cop:=zph mixed ⟨mT,trivial⟩
theorem tn(s:za)(h:s.length<=zx):zr Cop f245 [str s]=some (opP s):=by
 refine zm rfl ?_;have l:∀Y Z,zz prog Y Z 88 7 [(0,str [62,61]),(1,str [60,61]),(2,str [62]),(3,str [60]),(4,str [61]),(5,str [126]),(6,str [94])]=some (.own Z 0 7,qR Y Z (some ⟨9,1,true,zJ wH⟩),Z+1):=fun Y Z=>by simp[zz,zS,zy,wH,str]
 simp[str]at l;simp[l];refine zI (fun k U Y Z=>U 0=str s/\U 8=.own 0 0 7/\U 9=int 7/\U 10=int k/\Y 0=some ⟨9,1,true,zJ wH⟩/\wS wH s=wS (wH.drop k) s) 7 ⟨by simp,by simp,by simp,by simp,by simp,by simp⟩ ?_;rintro k U Y Z r ⟨f,g,i,b,m,a⟩;by_cases c:k<7
 ·have e:k<wH.length:=c;have j:wH[k].length<=zx:=by
   have:∀q∈wH,q.length<=zx:=by decide
   exact this _ (zj e)
  have n:=fun Y Z=>NA s wH[k] Y Z h j
  have o:=zlL k;have d:(k:Int)<7:=by omega
  rw[zc e]at a;simp only[wS]at a;by_cases Y:(wH[k]).isPrefixOf s=true
  ·rw[zd Y]at a;simp[f,g,i,b,m,d,c,e,n,Y,o,opP,a,qS,f245]
  ·rw[ze Y]at a;have p:(wH[k]).isPrefixOf s=false:=gA.2 Y;simp[f,g,i,b,m,d,c,e,n,p,o];exact⟨by omega,a⟩
 ·obtain rfl:k=7:=by omega
  rw[show wH.drop 7=[]from rfl]at a;simp only[wS]at a;simp[f,g,i,b,opP,a,qS, f245]
theorem pK:zg prog 245 (zf false [] (SY opP)):=
 pS1 zg3 func245 false [] fun l Y=>⟨by simp[f245],_,tn l Y,zW _⟩
def sS(l:za):Bool:=l.isEmpty
theorem pL:zg prog 243 (zf false [] (FS sS)):=
 pS1 yz func243 false [] fun l Y=>⟨by simp[f243],_,zm rfl (by simp[qS,sS,f243]),zW _⟩
def iw:Nat->List za->Int
 |_,[]=>-1
 |k,x::l=>if x=[]then k else iw (k+1) l
def nL:O:=.fn (.func 243) [] []
noncomputable def FIx:zb->Option O:=z6 (α:=List za) (fun l=>[.sl 1 (zJ l),nL]) xg (fun l=>int (iw 0 l))
noncomputable abbrev Cixf:Ctx:=zQ prog [(243,zf false [] (FS sS))]
theorem zcY:Gd Cixf:=zph mixed ⟨pL,trivial⟩
theorem nh(l:List za)(h:xg l):zr Cixf f144 [.sl 1 (zJ l),nL]=some (int (iw 0 l)):=by
 refine zm rfl ?_;obtain⟨o,e⟩:=h;unfold zx at o;simp[nL];refine zI (fun k U Y Z=>U 0=.sl 1 (zJ l)/\U 1=nL/\U 7=int l.length/\U 8=int k/\iw 0 l=iw k (l.drop k)) l.length ⟨by simp,by simp[nL],by simp,by simp,by simp⟩ ?_;rintro k U Y Z q ⟨f,g,i,j,b⟩;by_cases a:k<l.length
 ·have m:=zlL k;have n:=fun p Z=>kX sS l[k] p Z (e _ (zj a))
  rw[zc a]at b;simp only[iw]at b;by_cases d:l[k]=[]
  ·rw[zd d]at b;have c:sS l[k]=true:=by simpa[sS]using d
   simp[f,g,i,j,nL,a,n,c,m,b,qS,f144]
  ·rw[ze d]at b;have c:sS l[k]=false:=by simpa[sS]using d
   simp[f,g,i,j,nL,a,n,c,m];exact⟨a,b⟩
 ·obtain rfl:k=l.length:=by omega
  rw[zo]at b;simp only[iw]at b;simp[f,g,i,j,b,qS,f144]
theorem UC:∀a b:List za,[O.sl 1 (zJ a),nL]=[O.sl 1 (zJ b),nL]->a=b:=fun a b e=>by
 simp only[zh,zD]at e;injection e with _ e
 exact kn e
theorem iy:zg prog 144 (zf false [] FIx):=
 pS1 zcY func144 false [] fun l Y=>⟨by simp[f144],_,nh l Y,zW _⟩
theorem UD(l:List za)(Y:Hp)(Z id:Nat)(h:xg l)(b:Y id=some (V8 l)):zf false [] FIx [.own id 0 l.length,nL] Y Z=some (int (iw 0 l),Y,Z):=by
 have c:(zJ l).take l.length=zJ l:=qq (by simp);refine zU (show zv Y [.own id 0 l.length,nL]=some ([.sl 1 (zJ l),nL],qR Y id none) by have:Y id=some ⟨9,1,true,zJ l⟩:=b;simp[nL,this,c]) (zE (V:=fun l:List za=>[O.sl 1 (zJ l),nL]) (a:=l) UC h) (.inl rfl)
def wO(l:List za):List za:=l.filter fun x=>!sS x
theorem Ab:∀(l:List za) (k:Nat),(iw k l=-1/\wO l=l)\/∃i,∃h:i<l.length,iw k l=((k+i:Nat):Int)/\sS l[i]=true/\wO (l.take i)=l.take i
 |[],k=>.inl ⟨rfl,rfl⟩
 |x::l,k=>by
  by_cases a:x=[]
  ·exact .inr ⟨0,by simp,by simp[iw,a],by simp[sS,a],by simp[wO]⟩
  ·have b:sS x=false:=by simpa[sS]using a
   rcases Ab l (k+1)with⟨c,d⟩|⟨i,h,c,d,e⟩
   ·exact .inl ⟨by simp[iw,a,c],by simp only[wO,List.filter_cons,b];simpa[wO]using d⟩
   ·refine .inr ⟨i+1,by simpa using h,by simp only[iw,ze a,c];congr 1;omega,by simpa using d,?_⟩;simp only[yj,wO,List.filter_cons,b];simpa[wO]using e
theorem Xf{l:List za}{j:Nat}(h:j<l.length):wO (l.take (j+1))=if sS l[j]=true then wO (l.take j)else wO (l.take j)++[l[j]]:=by rw[zR h];simp only[wO,List.filter_append,List.filter_cons,List.filter_nil];cases sS l[j]<;>simp
theorem mb(a b:List za):zJ (a++b)=zJ a++zJ b:=by simp[zJ]
theorem PJ{l:List za}{i:Nat}(h:i<l.length):zJ l=zJ (l.take i)++[str l[i]]::zJ (l.drop (i+1)):=by rw[<-bB,<-mb,<-zc h,kQ]
noncomputable abbrev Cdf:Ctx:=zQ prog [(243,zf false [] (FS sS)),(144,zf false [] FIx)]
theorem zg4:Gd Cdf:=zph mixed ⟨pL,iy,trivial⟩
theorem iz:zg prog 242 (we Cdf f242):=zpj zg4 func242
def DelQ(l:List za)(id:Nat)(Y:Hp)(Z:Nat)(x:O)(b:Hp)(c:Nat):Prop:=x=.own id 0 (wO l).length/\c=Z/\(∃a,b id=some ⟨9,1,true,zJ (wO l)++a⟩)/\∀j,j≠id->b j=Y j
theorem Ly(l:List za)(E:Hp)(Z0 id:Nat)(h:xg l)(F:E id=some (V8 l)):∃x R Z',we Cdf f242 [.own id 0 l.length,nL] E Z0=some (x,R,Z')/\DelQ l id E Z0 x R Z':=by
 unfold we;rw[zd (by simp[f242])];refine qw rfl ?_;have n:=UD l E Z0 id h F;obtain⟨hl,T⟩:=h;unfold zx at hl;simp only[nL]at n;have G:E id=some ⟨9,1,true,zJ l⟩:=F;rcases Ab l 0 with⟨W,H⟩|⟨i,hi,W,H,X⟩
 ·rw[W]at n;simp[nL,n,DelQ,H,f242];exact⟨[],by simpa using G⟩
 ·rw[W]at n;have hi1:((i:Int)==-1)=false:=by simp
  have w:=zlL i;simp[nL,n,hi1,w];refine zI (fun k U Y Z=>U 0=.own id 0 l.length/\U 1=nL/\U 5=int (wO (l.take (i+1+k))).length/\U 6=int ((i:Int)+1+k)/\Z=Z0/\(∀j,j≠id->Y j=E j) /\
    ∃a,Y id=some ⟨9,1,true,zJ (wO (l.take (i+1+k)))++a++zJ (l.drop (i+1+k))⟩/\(wO (l.take (i+1+k))).length+a.length=i+1+k/\0<a.length/\∀c∈a,c.length=1) (l.length-(i+1))
   ⟨by simp,by simp[nL],by simp[Xf hi,H,X];omega,by simp,rfl,fun _ _=>rfl,[[str l[i]]],by simp[Xf hi,H,X,G];exact PJ hi,by simp[Xf hi,H,X];omega,by simp,by simp⟩ ?_
  rintro k U Y Z hk ⟨h0,h1,I,h6,rfl,z,a,s,A,J,B⟩;obtain⟨j,hj⟩:=exI (i+1+k);have C:U 6=int j:=by rw[h6];congr 2;omega
  rw[hj]at I s A;by_cases g:j<l.length
  ·have hc:=fun R Z=>kX sS l[j] R Z (T _ (zj g))
   have K:=zlL j;have hww:=zpg (((wO (l.take j)).length:Int)+1);have u:(zJ (wO (l.take j))++a++zJ (l.drop j))[j]?=some [str l[j]]:=by rw[z8 (by simp;omega),zc g,bB];rw[show j-(zJ (wO (l.take j))++a).length=0 by simp;omega];rfl
   have o:(zJ (wO (l.take j))++a++zJ (l.drop j)).length=l.length:=by simp;omega
   obtain⟨d,f⟩:=exI (zJ (wO (l.take j))++a++zJ (l.drop j));rw[f]at s u o;have p:∀h:j<d.length,d[j]=[str l[j]]:=fun h=>(zn.1 u).2
   have t:=Xf g;have L:i+1+(k+1)=j+1:=by omega
   have w:(wO (l.take j)).length<l.length:=by omega
   cases S:sS l[j]
   ·rw[S,ze (by simp)]at t;obtain⟨y,b,rfl,D⟩:∃y b,a=[y]::b/\∀c∈b,c.length=1:=by
     cases a with
     |nil=>simp at J
     |cons x b=>
      have:=B x (by simp)
      match x,this with
      |[y],_=>exact⟨y,b,rfl,fun c hc=>B c (by simp[hc])⟩
    have hg3:∀h:(wO (l.take j)).length<d.length,d[(wO (l.take j)).length]=[y]:=fun h=>by
     have:d[(wO (l.take j)).length]?=some [y]:=by rw[<-f,qT,z8 (by simp)];simp
     exact(zn.1 this).2
    have M:d.set (wO (l.take j)).length [str l[j]]=zJ (wO (l.take j))++([str l[j]]::b++zJ (l.drop j)):=by rw[<-f,qT,List.set_append_right _ _ (by simp)];simp
    simp only[zV]at A;simp[h0,h1,I,C,nL,g,s,p,hc,S,K,hww,w,o,hg3,M,L,t];refine⟨by omega,by omega,fun q N=>by rw[zt _ _ _ _ N];exact z q N,b++[[str l[j]]],?_,by simp;omega,by simp,?_⟩
    ·rw[mb];simp;rw[zc g,bB]
    ·intro c hc;rcases qg.1 hc with hc|hc
     ·exact D c hc
     ·simp at hc;subst hc;rfl
   ·rw[S,zd rfl]at t;simp[h0,h1,I,C,nL,g,s,p,hc,S,K,L,t,o];refine⟨by omega,by omega,z,a++[[str l[j]]],?_,by simp;omega,by simp,?_⟩
    ·rw[<-f];simp;rw[zc g,bB]
    ·intro c hc;rcases qg.1 hc with hc|hc
     ·exact B c hc
     ·simp at hc;subst hc;rfl
  ·obtain rfl:j=l.length:=by omega
   rw[wo]at I s A;rw[zo,E6,kr]at s;have hn1:¬(l.length:Int)<l.length:=by omega
   have v:(wO l).length<=l.length:=by omega
   have m:l.length-(wO l).length=a.length:=by omega
   have hcl:gM prog Y Z 88 (.own id (wO l).length a.length)=some (.wY [],qR Y id (some ⟨9,1,true,zJ (wO l)++List.replicate a.length [str []]⟩),Z):=by
    have ht:(zJ (wO l)++a).take (wO l).length=zJ (wO l):=by rw[List.take_append_of_le_length (by simp),PB]
    have hd:(zJ (wO l)++a).drop ((wO l).length+a.length)=[]:=jH (by simp);simp[gM,s,ht,hd,J,str]
   have hs1:∀Y:Hp,Y id=some ⟨9,1,true,zJ (wO l)++a⟩->jO prog Y 88 (.own id 0 l.length) (some (some (int (wO l).length))) none=some (.own id (wO l).length a.length):=fun Y F=>by
    have:¬l.length=(wO l).length:=by omega
    simp[jO,F,vH,v,m,this];intro e;rw[e]at m⊢;simp at m;simp[m]
   have hs2:∀(Y:Hp) (r:List zb),Y id=some ⟨9,1,true,r⟩->jO prog Y 88 (.own id 0 l.length) none (some (some (int (wO l).length)))=some (.own id 0 (wO l).length):=fun Y r F=>by simp[jO,F,vH,v]
   have P:=hs1 Y s;have Q:=hs2 (qR Y id (some ⟨9,1,true,zJ (wO l)++List.replicate a.length [str []]⟩)) _ (by simp;rfl);simp[h0,h1,I,C,nL,s,P,Q,hcl,f242];exact⟨rfl,rfl,⟨_,by simp;rfl⟩,fun q N=>by rw[zt _ _ _ _ N];exact z q N⟩
def iA:Zw:=⟨jS,wy,wy⟩
def Vh(a:za)(p:Part):Zw:=⟨a,p,wy⟩
def kZ(w:za)(l:List za):Option (Zw×List za):=
 if(wS wH w).1=[]/\yA (wS wH w).2=true then some (iA,l)
 else if(wS wH w).1≠[]/\(wS wH w).2=[]/\l≠[]then(match l with
  |r::l'=>if(z7 r).2=true then some (Vh (wS wH w).1 (z7 r).1,l')else none
  |[]=>none)
 else if(z7 (wS wH w).2).2=true then some (Vh (wS wH w).1 (z7 (wS wH w).2).1,l)else none
def yQ:Nat->List za->Option (List Zw)
 | 0,_=>some []
 |_+1,[]=>some []
 |n+1,w::l=>match kZ w l with
  |some (c,l')=>(yQ n l').map (c::·)
  |none=>none
theorem UE{w:za}{l l':List za}{c:Zw}(h:kZ w l=some (c,l')):l'.length<=l.length:=by
 unfold kZ at h;split at h
 ·injection h with h;injection h with _ h;subst h;exact zl _
 ·split at h
  ·split at h
   ·split at h
    ·injection h with h;injection h with _ h;subst h;simp
    ·cases h
   ·cases h
  ·split at h
   ·injection h with h;injection h with _ h;subst h;exact zl _
   ·cases h
def Wx(t:za):List Zw×Bool:=
 match wO (qu t [32])with
 |[a,b,c]=>if b=[45]then([⟨[45],(z7 a).1,(z7 c).1⟩],(z7 a).2&&(z7 c).2)else(match yQ 3 [a,b,c]with
  |some l=>(l,!l.isEmpty)
  |none=>([],false))
 |ws=>match yQ ws.length ws with
  |some l=>(l,!l.isEmpty)
  |none=>([],false)
def Qd(l:List Zw):List zb:=l.map Zw.V
def Cn(t:za):O:=.wY [.sl 11 (Qd (Wx t).1),qz (Wx t).2]
theorem Xg:∀(gs:List za) (s:za),(wS gs s).2.length<=s.length
 |[],s=>zl _
 |g::l,s=>by
  simp only[wS];split
  ·simp
  ·exact Xg l s
noncomputable abbrev Calt:Ctx:=zQ prog [(196,jj [] FSp),(242,we Cdf f242),(244,zf false [] (Kg kE)),(245,zf false [] (SY opP)),(246,zf false [] (FS yA))]
theorem zcZ:AM.Good Calt (fun g=>[246].contains g):=zw mixed ⟨YE,by simp,iz,by simp,eV,by simp,pK,by simp,pq,fun _=>zu _ _,trivial⟩
def Vi:O->Nat
 | .own _ _ n=>n
 |_=>0
def UF(b:List za)(c:List zb)(st:St):Prop:=∃f a l xs,a.length<=f/\xs.length+a.length<=b.length/\b.drop (b.length-a.length)=a/\(a=[]/\st.U 4=.sl 1 []\/st.U 4=.own 0 (b.length-a.length) a.length) /\
 wg st.Y st.Z 226 11 (st.U 9) xs/\(∀n,st.U 9≠.own 0 0 n)/\xs.map (Wa Cj)=Qd l/\1<=st.Z/\st.Y 0=some ⟨9,1,true,c⟩/\yQ b.length b=(yQ f a).map (l++·)
theorem sl1(Y:Hp)(a:List zb)(o n:Nat)(b:Y 0=some ⟨9,1,true,a⟩):jO prog Y 88 (.own 0 o (n+1)) (some (some (int 1))) none=some (if n=0 then .sl 1 []else .own 0 (o+1) n):=by simp[jO,b,vH]
theorem Qe{b a}{f':Nat}{l':List za}{l:List Zw}{c:Zw}{xs:List zb}{d:zb}{st:St}{v4:O}(k:l'.length<=f')(r:xs.length+1+l'.length<=b.length)(f:b.drop (b.length-l'.length)=l')(m:st.U 4=v4)(g:l'=[]/\v4=.sl 1 []\/v4=.own 0 (b.length-l'.length) l'.length)
  (o:wg st.Y st.Z 226 11 (st.U 9) (xs++[d])) (h:∀n,st.U 9≠.own 0 0 n) (e:Wa Cj d=c.V) (i:xs.map (Wa Cj)=Qd l) (j:1<=st.Z) (p:st.Y 0=some ⟨9,1,true,a⟩) (q:yQ b.length b=(yQ f' l').map ((l++[c])++·)):UF b a st:=
 ⟨f',l',l++[c],xs++[d],k,by simp;omega,f,by rw[m];exact g,o,h,by simp[i,e,Qd],j,p,q⟩
theorem Fe(f:Nat):yQ f []=some []:=by cases f<;>rfl
theorem iB(t:za)(ht:t.length+1<=zx):∃r0,zr Calt f200 [str t]=some r0/\qW r0 (Cn t):=by
 refine yZ (sh:=.s 11 Cj) rfl ?_;have hsp:=fun Y Z=>Qy t [32] Y Z (by omega) (by decide) (by decide)
 have hpl:∀p∈qu t [32],p.length+1<=zx:=fun p Y=>by have:=xf Y;omega
 have SQ:xg (qu t [32]):=⟨by have:=ZG (s:=t) (sep:=[32]) (by simp);omega,fun p Y=>by have:=hpl p Y;omega⟩;obtain⟨x,Y1,nx1,hdel,hx,hnx,⟨pad,hb⟩,hfr⟩:=Ly (qu t [32]) (qR (fun _=>none) 0 (some ⟨9,1,true,zJ (qu t [32])⟩)) 1 0 SQ (by simp);subst hx;subst hnx;obtain⟨g,hws⟩:=exI (wO (qu t [32]));have hwl:∀p∈g,p.length+1<=zx:=fun p Y=>hpl p (by rw[<-hws]at Y;exact(zgb.1 Y).1)
 rw[hws]at hdel hb;simp only[nL]at hdel;have E:g.length<=zx:=by
  have h1:=zhO (fun x=>!sS x) (qu t [32]);have h2:=ZG (s:=t) (sep:=[32]) (by simp);have h3:g.length=(wO (qu t [32])).length:=by rw[hws]
  unfold wO at h3;omega
 have hrd:=fun(p:za) (Y:p.length+1<=zx) B Z=>kK kE p B Z Y
 simp[hsp,hdel];by_cases hc:∃a c,g=[a,[45],c]
 ·obtain⟨a,c,rfl⟩:=hc;have ha:=fun B Z=>hrd a (hwl a (by simp)) B Z
  have hcc:=fun B Z=>hrd c (hwl c (by simp)) B Z
  simp only[kE,Part.V]at ha hcc;have m:Cn t=.wY [.sl 11 (Qd [⟨[45],(z7 a).1,(z7 c).1⟩]),qz ((z7 a).2&&(z7 c).2)]:=by simp only[Cn,Wx,hws,qA]
  rw[m];have hn:∀k,0<k->Y1 k=none:=fun k hk=>by rw[hfr k (by omega),zt _ _ _ _ (by omega)]
  simp[hb,ha,hcc,qe,qM,zz,zS,zy,qC,Qd,Zw.V,f200]
 ·have m:Cn t=(match yQ g.length g with
   |some l=>.wY [.sl 11 (Qd l),qz (!l.isEmpty)]
   |none=>.wY [.sl 11 [],qz false]):=by
   have hR:Wx t=(match yQ g.length g with
    |some l=>(l,!l.isEmpty)
    |none=>([],false)):=by
    unfold Wx;rw[hws]
    match g,hc with
    |[],_=>rfl
    |[_],_=>rfl
    |[_,_],_=>rfl
    |[a,b,c],hc=>
     have:¬b=[45]:=fun e=>hc ⟨a,c,by rw[e]⟩
     simp only[ze this];rfl
    |_::_::_::_::_,_=>rfl
   unfold Cn;rw[hR];cases yQ g.length g<;>rfl
  obtain⟨z,OH⟩:=exI (zJ g++pad);have hrl:g.length<=z.length:=by rw[<-OH];simp
  have hat:∀k (h:k<g.length) (h':k<z.length),z[k]=[str g[k]]:=fun k h h'=>by subst OH;rw[List.getElem_append_left (by simpa using h)];simp[zJ]
  rw[OH]at hb;clear OH;by_cases h3:g.length=3
  ·have h31:=hat 1 (by omega) (by omega);have hne:(g[1]==[45])=false:=by
    match g,h3,hc with
    |[a,b,c],_,hc=>simpa using fun e=>hc ⟨a,c,by rw[e]⟩
   have h3l:1<z.length:=by omega
   have h33:((g.length:Int)==3)=true:=by simp[h3]
   simp[hb,h33,h3,h31,hne,h3l];refine ZE (UF g z) (fun st=>Vi (st.U 4)) ⟨g.length,g,[],[],zl _,by simp,by simp,.inr (by simp;try omega),.inl ⟨by simp,rfl⟩,by simp,rfl,by simp,by simpa using hb,by simp⟩ ?_;clear hdel hfr hsp;rintro⟨U,Y,Z⟩ ⟨f,rest,l,xs,hf,Nh,Ng,h4,S,hO0,F,hnx,J,R⟩;simp only at h4 S hO0 hnx J;cases rest with
   |nil=>
    rw[Fe]at R;simp only[zK,kr]at R;rw[R]at m;rw[m];have hxl2:xs.length=l.length:=by have:=zC List.length F;simpa[Qd]using this
    have hb1:(decide ((0:Int)<(xs.length:Int)))=!l.isEmpty:=by rw[hxl2];cases l<;>simp
    have hb2:(decide (0<xs.length))=!l.isEmpty:=by rw[hxl2];cases l<;>simp
    have XJ:U 4=.sl 1 []\/U 4=.own 0 g.length 0:=by
     rcases h4 with⟨_,h4⟩|h4
     ·exact .inl h4
     ·exact .inr (by simpa using h4)
    rcases S with⟨h9,rfl⟩|⟨id,hid,h9,hb9⟩
    ·simp[Qd]at F;subst F;rcases XJ with XJ|XJ<;>simp[XJ,h9,qC,Qd,f200]
    ·rcases XJ with XJ|XJ<;>simp[XJ,h9,hb9,hb1,hb2,F,qC,f200]
   |cons w l'=>
    obtain⟨f',rfl⟩:∃f',f=f'+1:=⟨f-1,by simp at hf;omega⟩;simp only[zV]at hf Nh Ng h4;obtain⟨o,ho⟩:=exI (g.length-(l'.length+1));rw[ho]at Ng h4;have XJ:U 4=.own 0 o (l'.length+1):=by
     rcases h4 with⟨h,_⟩|h
     ·cases h
     ·exact h
    have hol:o<g.length:=by omega
    have C:o<z.length:=by omega
    rw[zc hol]at Ng;injection Ng with hdw K
    have u:z[o]=[str w]:=by rw[hat o hol C,hdw]
    have hww:w.length+1<=zx:=hwl w (by rw[<-hdw];exact zj hol);have D:=fun B T=>eS opP w B T (by omega) rfl
    simp only[opP]at D;have W:(wS wH w).2.length+1<=zx:=by have:=Xg wH w;omega
    have y:=fun B T=>kX yA (wS wH w).2 B T (by omega)
    obtain⟨v4,hv4⟩:=exI (if l'.length=0 then O.sl 1 []else .own 0 (o+1) l'.length);have hs1:=fun B (hh:B 0=some _)=>sl1 B z o l'.length hh
    rw[hv4]at hs1;have n:=hs1 Y J;have X:o+1=g.length-l'.length:=by omega
    have A:l'=[]/\v4=.sl 1 []\/v4=.own 0 (g.length-l'.length) l'.length:=by
     rw[<-hv4,<-X];by_cases h:l'.length=0
     ·exact .inl ⟨qv.1 h,zd h⟩
     ·exact .inr (ze h)
    have hmu:Vi v4<l'.length+1:=by rcases A with⟨_,h⟩|h<;>rw[h]<;>simp[Vi]
    have hl4:VK prog 88 v4=some (int l'.length):=by
     rcases A with⟨h1,h⟩|h
     ·subst h1;rw[h];simp
     ·rw[h];simp
    rw[X]at K;have er:=fun c S=>wg.yL (Y:=Y) (Z:=Z) (v:=U 9) (xs:=xs) (P:=prog) (t:=219) (c:=c) S cz cA cB cC rfl (by omega) (by unfold maxLen;unfold zx at E;omega) (by unfold zx at E;omega)
    by_cases hA:(wS wH w).1=[]/\yA (wS wH w).2=true
    ·have L:kZ w l'=some (iA,l'):=by unfold kZ;rw[zd hA]
     have i:yQ g.length g=(yQ f' l').map ((l++[iA])++·):=by rw[R];simp only[yQ,L];cases yQ f' l'<;>simp
     have hap1:=er [str jS,int 0,int 0,int 0,int 0,.nil,int 0,int 0,int 0,int 0,.nil] S;obtain⟨hA1,hA2⟩:=hA;simp only[jS]at hap1;simp[XJ,J,C,u,D,y,n,hA1,hA2,hap1,qe,qM,zz,zS,zy];have n0:¬0=Z:=by omega
     have n1:¬0=Z+1:=by omega
     have n2:¬0=Z+2:=by omega
     have Q:=fun B=>yl S B 0 hO0
     exact⟨Qe (v4:=v4) (c:=iA) (f':=f') (l':=l') (l:=l) (xs:=xs) (by omega) (by omega) K (by simp) A (by simpa using wg.after) (by simp<;>omega) rfl F (by simp) (by simp[Q,n0,n1,n2,J]) i,by simpa[Vi]using hmu⟩
    have n0:¬0=Z:=by omega
    have n1:¬0=Z+1:=by omega
    have n2:¬0=Z+2:=by omega
    have Q:=fun B=>yl S B 0 hO0
    by_cases hE:(wS wH w).1=[]
    ·have G:((wS wH w).1==[])=true:=by simpa using hE
     have H:(wS wH w).1.isEmpty=true:=by simpa using hE
     have I:((wS wH w).1 != [])=false:=by simpa using hE
     have hOp:yA (wS wH w).2=false:=by
      cases h:yA (wS wH w).2
      ·rfl
      ·exact absurd ⟨hE,h⟩ hA
     have q:=fun B T=>hrd (wS wH w).2 W B T
     simp only[kE,Part.V]at q;cases d:(z7 (wS wH w).2).2
     ·have L:kZ w l'=none:=by unfold kZ;rw[ze hA,ze (fun h=>h.1 hE),ze (by rw[d];simp)]
      have i:yQ g.length g=none:=by rw[R];simp only[yQ,L];rfl
      rw[i]at m;simp[XJ,J,C,u,D,y,n,G,H,I,hOp,q,d,qe,qM,m,Qd,qC,f200]
     ·have L:kZ w l'=some (Vh (wS wH w).1 (z7 (wS wH w).2).1,l'):=by unfold kZ;rw[ze hA,ze (fun h=>h.1 hE),zd d]
      have i:yQ g.length g=(yQ f' l').map ((l++[Vh (wS wH w).1 (z7 (wS wH w).2).1])++·):=by rw[R];simp only[yQ,L];cases yQ f' l'<;>simp
      have j:=wg.yL (P:=prog) (t:=219) (c:=[str (wS wH w).1,int (z7 (wS wH w).2).1.n0,int (z7 (wS wH w).2).1.n1,int (z7 (wS wH w).2).1.n2,int (z7 (wS wH w).2).1.has,.sl 1 (zJ (z7 (wS wH w).2).1.pre),int 0,int 0,int 0,int 0,.nil]) (S.more (some ⟨224,5,false,[(z7 (wS wH w).2).1.V]⟩)) cz cA cB cC rfl (by omega) (by unfold maxLen;unfold zx at E;omega) (by unfold zx at E;omega);simp only[Part.V]at j;simp[XJ,J,C,u,D,y,n,G,H,I,hOp,q,d,j,qe,qM,zz,zS,zy];exact⟨Qe (v4:=v4) (c:=Vh (wS wH w).1 (z7 (wS wH w).2).1) (f':=f') (l':=l') (l:=l) (xs:=xs) (by omega) (by omega) K (by simp) A (by simpa using wg.after) (by simp<;>omega) rfl F (by simp) (by simp[Q,n0,n1,n2,J]) i,by simpa[Vi]using hmu⟩
    have G:=eqF0 hE;have H:(wS wH w).1.isEmpty=false:=by simpa using hE
    have I:((wS wH w).1 != [])=true:=by simpa using hE
    by_cases hR:(wS wH w).2=[]
    ·have M:((wS wH w).2==[])=true:=by simpa using hR
     have N:(wS wH w).2.isEmpty=true:=by simpa using hR
     by_cases hL:l'=[]
     ·have hLz:l'.length=0:=by rw[hL];rfl
      have hLp:¬0<l'.length:=by omega
      have hLq:¬(0:Int)<(l'.length:Int):=by omega
      have q:=fun B T=>hrd (wS wH w).2 W B T
      simp only[kE,Part.V]at q;cases d:(z7 (wS wH w).2).2
      ·have L:kZ w l'=none:=by unfold kZ;rw[ze hA,ze (fun h=>h.2.2 hL),ze (by rw[d];simp)]
       have i:yQ g.length g=none:=by rw[R];simp only[yQ,L];rfl
       rw[i]at m;simp[XJ,J,C,u,D,y,n,G,H,I,M,N,hl4,hLp,hLq,q,d,qe,qM,m,Qd,qC,f200]
      ·have L:kZ w l'=some (Vh (wS wH w).1 (z7 (wS wH w).2).1,l'):=by unfold kZ;rw[ze hA,ze (fun h=>h.2.2 hL),zd d]
       have i:yQ g.length g=(yQ f' l').map ((l++[Vh (wS wH w).1 (z7 (wS wH w).2).1])++·):=by rw[R];simp only[yQ,L];cases yQ f' l'<;>simp
       have j:=wg.yL (P:=prog) (t:=219) (c:=[str (wS wH w).1,int (z7 (wS wH w).2).1.n0,int (z7 (wS wH w).2).1.n1,int (z7 (wS wH w).2).1.n2,int (z7 (wS wH w).2).1.has,.sl 1 (zJ (z7 (wS wH w).2).1.pre),int 0,int 0,int 0,int 0,.nil]) (S.more (some ⟨224,5,false,[(z7 (wS wH w).2).1.V]⟩)) cz cA cB cC rfl (by omega) (by unfold maxLen;unfold zx at E;omega) (by unfold zx at E;omega);simp only[Part.V]at j;simp[XJ,J,C,u,D,y,n,G,H,I,M,N,hl4,hLp,hLq,q,d,j,qe,qM,zz,zS,zy];exact⟨Qe (v4:=v4) (c:=Vh (wS wH w).1 (z7 (wS wH w).2).1) (f':=f') (l':=l') (l:=l) (xs:=xs) (by omega) (by omega) K (by simp) A (by simpa using wg.after) (by simp<;>omega) rfl F (by simp) (by simp[Q,n0,n1,n2,J]) i,by simpa[Vi]using hmu⟩
     ·obtain⟨r,l2,rfl⟩:∃r l2,l'=r::l2:=by
       cases l' with
       |nil=>exact absurd rfl hL
       |cons r l2=>exact⟨r,l2,rfl⟩
      have hv:v4=.own 0 (o+1) (l2.length+1):=by
       rcases A with⟨h,_⟩|h
       ·cases h
       ·rw[h,<-X];rfl
      subst hv;simp only[zV]at hf Nh ho XJ n X K hmu;have Ni:o+1<g.length:=by omega
      have Nj:o+1<z.length:=by omega
      rw[<-X,zc Ni]at K;injection K with hdw2 hdl2
      have Ij:z[o+1]=[str r]:=by rw[hat (o+1) Ni Nj,hdw2]
      have ho2:o+1+1=g.length-l2.length:=by omega
      obtain⟨v5,hv5⟩:=exI (if l2.length=0 then O.sl 1 []else .own 0 (o+1+1) l2.length);have Nk:=sl1 Y z (o+1) l2.length J;rw[hv5]at Nk;have hv5':l2=[]/\v5=.sl 1 []\/v5=.own 0 (g.length-l2.length) l2.length:=by
       rw[<-hv5,<-ho2];by_cases h:l2.length=0
       ·exact .inl ⟨qv.1 h,zd h⟩
       ·exact .inr (ze h)
      have hmu5:Vi v5<l2.length+1+1:=by rcases hv5' with⟨_,h⟩|h<;>rw[h]<;>simp[Vi];omega
      rw[ho2]at hdl2;have hpos:(0:Int)<(l2.length:Int)+1:=by omega
      have Ik:(0:Int)<(l2.length:Int)+1+1:=by omega
      have q:=fun B T=>hrd r (hwl r (by rw[<-hdw2];exact zj Ni)) B T
      simp only[kE,Part.V]at q;cases d:(z7 r).2
      ·have L:kZ w (r::l2)=none:=by unfold kZ;rw[ze hA,zd ⟨hE,hR,by simp⟩];simp only[d];rfl
       have i:yQ g.length g=none:=by rw[R];simp only[yQ,L];rfl
       rw[i]at m;simp[XJ,J,C,u,D,y,n,Nk,Nj,Ij,G,H,I,M,N,hpos,Ik,q,d,qe,qM,m,Qd,qC,f200]
      ·have L:kZ w (r::l2)=some (Vh (wS wH w).1 (z7 r).1,l2):=by unfold kZ;rw[ze hA,zd ⟨hE,hR,by simp⟩];simp only[d,qA]
       have i:yQ g.length g=(yQ f' l2).map ((l++[Vh (wS wH w).1 (z7 r).1])++·):=by rw[R];simp only[yQ,L];cases yQ f' l2<;>simp
       have j:=wg.yL (P:=prog) (t:=219) (c:=[str (wS wH w).1,int (z7 r).1.n0,int (z7 r).1.n1,int (z7 r).1.n2,int (z7 r).1.has,.sl 1 (zJ (z7 r).1.pre),int 0,int 0,int 0,int 0,.nil]) (S.more (some ⟨224,5,false,[(z7 r).1.V]⟩)) cz cA cB cC rfl (by omega) (by unfold maxLen;unfold zx at E;omega) (by unfold zx at E;omega);simp only[Part.V]at j;simp[XJ,J,C,u,D,y,n,Nk,Nj,Ij,G,H,I,M,N,hpos,Ik,q,d,j,qe,qM,zz,zS,zy];exact⟨Qe (v4:=v5) (c:=Vh (wS wH w).1 (z7 r).1) (f':=f') (l':=l2) (l:=l) (xs:=xs) (by omega) (by omega) hdl2 (by simp) hv5' (by simpa using wg.after) (by simp<;>omega) rfl F (by simp) (by simp[Q,n0,n1,n2,J]) i,by simpa[Vi]using hmu5⟩
    ·have M:=eqF0 hR;have N:(wS wH w).2.isEmpty=false:=by simpa using hR
     have q:=fun B T=>hrd (wS wH w).2 W B T
     simp only[kE,Part.V]at q;cases d:(z7 (wS wH w).2).2
     ·have L:kZ w l'=none:=by unfold kZ;rw[ze hA,ze (fun h=>hR h.2.1),ze (by rw[d];simp)]
      have i:yQ g.length g=none:=by rw[R];simp only[yQ,L];rfl
      rw[i]at m;simp[XJ,J,C,u,D,y,n,G,H,I,M,N,q,d,qe,qM,m,Qd,qC,f200]
     ·have L:kZ w l'=some (Vh (wS wH w).1 (z7 (wS wH w).2).1,l'):=by unfold kZ;rw[ze hA,ze (fun h=>hR h.2.1),zd d]
      have i:yQ g.length g=(yQ f' l').map ((l++[Vh (wS wH w).1 (z7 (wS wH w).2).1])++·):=by rw[R];simp only[yQ,L];cases yQ f' l'<;>simp
      have j:=wg.yL (P:=prog) (t:=219) (c:=[str (wS wH w).1,int (z7 (wS wH w).2).1.n0,int (z7 (wS wH w).2).1.n1,int (z7 (wS wH w).2).1.n2,int (z7 (wS wH w).2).1.has,.sl 1 (zJ (z7 (wS wH w).2).1.pre),int 0,int 0,int 0,int 0,.nil]) (S.more (some ⟨224,5,false,[(z7 (wS wH w).2).1.V]⟩)) cz cA cB cC rfl (by omega) (by unfold maxLen;unfold zx at E;omega) (by unfold zx at E;omega);simp only[Part.V]at j;simp[XJ,J,C,u,D,y,n,G,H,I,M,N,q,d,j,qe,qM,zz,zS,zy];exact⟨Qe (v4:=v4) (c:=Vh (wS wH w).1 (z7 (wS wH w).2).1) (f':=f') (l':=l') (l:=l) (xs:=xs) (by omega) (by omega) K (by simp) A (by simpa using wg.after) (by simp<;>omega) rfl F (by simp) (by simp[Q,n0,n1,n2,J]) i,by simpa[Vi]using hmu⟩
  ·have h33:((g.length:Int)==3)=false:=by simp;omega
   simp[hb,h33];refine ZE (UF g z) (fun st=>Vi (st.U 4)) ⟨g.length,g,[],[],zl _,by simp,by simp,.inr (by simp;try omega),.inl ⟨by simp,rfl⟩,by simp,rfl,by simp,by simpa using hb,by simp⟩ ?_;clear hdel hfr hsp;rintro⟨U,Y,Z⟩ ⟨f,rest,l,xs,hf,Nh,Ng,h4,S,hO0,F,hnx,J,R⟩;simp only at h4 S hO0 hnx J;cases rest with
   |nil=>
    rw[Fe]at R;simp only[zK,kr]at R;rw[R]at m;rw[m];have hxl2:xs.length=l.length:=by have:=zC List.length F;simpa[Qd]using this
    have hb1:(decide ((0:Int)<(xs.length:Int)))=!l.isEmpty:=by rw[hxl2];cases l<;>simp
    have hb2:(decide (0<xs.length))=!l.isEmpty:=by rw[hxl2];cases l<;>simp
    have XJ:U 4=.sl 1 []\/U 4=.own 0 g.length 0:=by
     rcases h4 with⟨_,h4⟩|h4
     ·exact .inl h4
     ·exact .inr (by simpa using h4)
    rcases S with⟨h9,rfl⟩|⟨id,hid,h9,hb9⟩
    ·simp[Qd]at F;subst F;rcases XJ with XJ|XJ<;>simp[XJ,h9,qC,Qd,f200]
    ·rcases XJ with XJ|XJ<;>simp[XJ,h9,hb9,hb1,hb2,F,qC,f200]
   |cons w l'=>
    obtain⟨f',rfl⟩:∃f',f=f'+1:=⟨f-1,by simp at hf;omega⟩;simp only[zV]at hf Nh Ng h4;obtain⟨o,ho⟩:=exI (g.length-(l'.length+1));rw[ho]at Ng h4;have XJ:U 4=.own 0 o (l'.length+1):=by
     rcases h4 with⟨h,_⟩|h
     ·cases h
     ·exact h
    have hol:o<g.length:=by omega
    have C:o<z.length:=by omega
    rw[zc hol]at Ng;injection Ng with hdw K
    have u:z[o]=[str w]:=by rw[hat o hol C,hdw]
    have hww:w.length+1<=zx:=hwl w (by rw[<-hdw];exact zj hol);have D:=fun B T=>eS opP w B T (by omega) rfl
    simp only[opP]at D;have W:(wS wH w).2.length+1<=zx:=by have:=Xg wH w;omega
    have y:=fun B T=>kX yA (wS wH w).2 B T (by omega)
    obtain⟨v4,hv4⟩:=exI (if l'.length=0 then O.sl 1 []else .own 0 (o+1) l'.length);have hs1:=fun B (hh:B 0=some _)=>sl1 B z o l'.length hh
    rw[hv4]at hs1;have n:=hs1 Y J;have X:o+1=g.length-l'.length:=by omega
    have A:l'=[]/\v4=.sl 1 []\/v4=.own 0 (g.length-l'.length) l'.length:=by
     rw[<-hv4,<-X];by_cases h:l'.length=0
     ·exact .inl ⟨qv.1 h,zd h⟩
     ·exact .inr (ze h)
    have hmu:Vi v4<l'.length+1:=by rcases A with⟨_,h⟩|h<;>rw[h]<;>simp[Vi]
    have hl4:VK prog 88 v4=some (int l'.length):=by
     rcases A with⟨h1,h⟩|h
     ·subst h1;rw[h];simp
     ·rw[h];simp
    rw[X]at K;have er:=fun c S=>wg.yL (Y:=Y) (Z:=Z) (v:=U 9) (xs:=xs) (P:=prog) (t:=219) (c:=c) S cz cA cB cC rfl (by omega) (by unfold maxLen;unfold zx at E;omega) (by unfold zx at E;omega)
    by_cases hA:(wS wH w).1=[]/\yA (wS wH w).2=true
    ·have L:kZ w l'=some (iA,l'):=by unfold kZ;rw[zd hA]
     have i:yQ g.length g=(yQ f' l').map ((l++[iA])++·):=by rw[R];simp only[yQ,L];cases yQ f' l'<;>simp
     have hap1:=er [str jS,int 0,int 0,int 0,int 0,.nil,int 0,int 0,int 0,int 0,.nil] S;obtain⟨hA1,hA2⟩:=hA;simp only[jS]at hap1;simp[XJ,J,C,u,D,y,n,hA1,hA2,hap1,qe,qM,zz,zS,zy];have n0:¬0=Z:=by omega
     have n1:¬0=Z+1:=by omega
     have n2:¬0=Z+2:=by omega
     have Q:=fun B=>yl S B 0 hO0
     exact⟨Qe (v4:=v4) (c:=iA) (f':=f') (l':=l') (l:=l) (xs:=xs) (by omega) (by omega) K (by simp) A (by simpa using wg.after) (by simp<;>omega) rfl F (by simp) (by simp[Q,n0,n1,n2,J]) i,by simpa[Vi]using hmu⟩
    have n0:¬0=Z:=by omega
    have n1:¬0=Z+1:=by omega
    have n2:¬0=Z+2:=by omega
    have Q:=fun B=>yl S B 0 hO0
    by_cases hE:(wS wH w).1=[]
    ·have G:((wS wH w).1==[])=true:=by simpa using hE
     have H:(wS wH w).1.isEmpty=true:=by simpa using hE
     have I:((wS wH w).1 != [])=false:=by simpa using hE
     have hOp:yA (wS wH w).2=false:=by
      cases h:yA (wS wH w).2
      ·rfl
      ·exact absurd ⟨hE,h⟩ hA
     have q:=fun B T=>hrd (wS wH w).2 W B T
     simp only[kE,Part.V]at q;cases d:(z7 (wS wH w).2).2
     ·have L:kZ w l'=none:=by unfold kZ;rw[ze hA,ze (fun h=>h.1 hE),ze (by rw[d];simp)]
      have i:yQ g.length g=none:=by rw[R];simp only[yQ,L];rfl
      rw[i]at m;simp[XJ,J,C,u,D,y,n,G,H,I,hOp,q,d,qe,qM,m,Qd,qC,f200]
     ·have L:kZ w l'=some (Vh (wS wH w).1 (z7 (wS wH w).2).1,l'):=by unfold kZ;rw[ze hA,ze (fun h=>h.1 hE),zd d]
      have i:yQ g.length g=(yQ f' l').map ((l++[Vh (wS wH w).1 (z7 (wS wH w).2).1])++·):=by rw[R];simp only[yQ,L];cases yQ f' l'<;>simp
      have j:=wg.yL (P:=prog) (t:=219) (c:=[str (wS wH w).1,int (z7 (wS wH w).2).1.n0,int (z7 (wS wH w).2).1.n1,int (z7 (wS wH w).2).1.n2,int (z7 (wS wH w).2).1.has,.sl 1 (zJ (z7 (wS wH w).2).1.pre),int 0,int 0,int 0,int 0,.nil]) (S.more (some ⟨224,5,false,[(z7 (wS wH w).2).1.V]⟩)) cz cA cB cC rfl (by omega) (by unfold maxLen;unfold zx at E;omega) (by unfold zx at E;omega);simp only[Part.V]at j;simp[XJ,J,C,u,D,y,n,G,H,I,hOp,q,d,j,qe,qM,zz,zS,zy];exact⟨Qe (v4:=v4) (c:=Vh (wS wH w).1 (z7 (wS wH w).2).1) (f':=f') (l':=l') (l:=l) (xs:=xs) (by omega) (by omega) K (by simp) A (by simpa using wg.after) (by simp<;>omega) rfl F (by simp) (by simp[Q,n0,n1,n2,J]) i,by simpa[Vi]using hmu⟩
    have G:=eqF0 hE;have H:(wS wH w).1.isEmpty=false:=by simpa using hE
    have I:((wS wH w).1 != [])=true:=by simpa using hE
    by_cases hR:(wS wH w).2=[]
    ·have M:((wS wH w).2==[])=true:=by simpa using hR
     have N:(wS wH w).2.isEmpty=true:=by simpa using hR
     by_cases hL:l'=[]
     ·have hLz:l'.length=0:=by rw[hL];rfl
      have hLp:¬0<l'.length:=by omega
      have hLq:¬(0:Int)<(l'.length:Int):=by omega
      have q:=fun B T=>hrd (wS wH w).2 W B T
      simp only[kE,Part.V]at q;cases d:(z7 (wS wH w).2).2
      ·have L:kZ w l'=none:=by unfold kZ;rw[ze hA,ze (fun h=>h.2.2 hL),ze (by rw[d];simp)]
       have i:yQ g.length g=none:=by rw[R];simp only[yQ,L];rfl
       rw[i]at m;simp[XJ,J,C,u,D,y,n,G,H,I,M,N,hl4,hLp,hLq,q,d,qe,qM,m,Qd,qC,f200]
      ·have L:kZ w l'=some (Vh (wS wH w).1 (z7 (wS wH w).2).1,l'):=by unfold kZ;rw[ze hA,ze (fun h=>h.2.2 hL),zd d]
       have i:yQ g.length g=(yQ f' l').map ((l++[Vh (wS wH w).1 (z7 (wS wH w).2).1])++·):=by rw[R];simp only[yQ,L];cases yQ f' l'<;>simp
       have j:=wg.yL (P:=prog) (t:=219) (c:=[str (wS wH w).1,int (z7 (wS wH w).2).1.n0,int (z7 (wS wH w).2).1.n1,int (z7 (wS wH w).2).1.n2,int (z7 (wS wH w).2).1.has,.sl 1 (zJ (z7 (wS wH w).2).1.pre),int 0,int 0,int 0,int 0,.nil]) (S.more (some ⟨224,5,false,[(z7 (wS wH w).2).1.V]⟩)) cz cA cB cC rfl (by omega) (by unfold maxLen;unfold zx at E;omega) (by unfold zx at E;omega);simp only[Part.V]at j;simp[XJ,J,C,u,D,y,n,G,H,I,M,N,hl4,hLp,hLq,q,d,j,qe,qM,zz,zS,zy];exact⟨Qe (v4:=v4) (c:=Vh (wS wH w).1 (z7 (wS wH w).2).1) (f':=f') (l':=l') (l:=l) (xs:=xs) (by omega) (by omega) K (by simp) A (by simpa using wg.after) (by simp<;>omega) rfl F (by simp) (by simp[Q,n0,n1,n2,J]) i,by simpa[Vi]using hmu⟩
     ·obtain⟨r,l2,rfl⟩:∃r l2,l'=r::l2:=by
       cases l' with
       |nil=>exact absurd rfl hL
       |cons r l2=>exact⟨r,l2,rfl⟩
      have hv:v4=.own 0 (o+1) (l2.length+1):=by
       rcases A with⟨h,_⟩|h
       ·cases h
       ·rw[h,<-X];rfl
      subst hv;simp only[zV]at hf Nh ho XJ n X K hmu;have Ni:o+1<g.length:=by omega
      have Nj:o+1<z.length:=by omega
      rw[<-X,zc Ni]at K;injection K with hdw2 hdl2
      have Ij:z[o+1]=[str r]:=by rw[hat (o+1) Ni Nj,hdw2]
      have ho2:o+1+1=g.length-l2.length:=by omega
      obtain⟨v5,hv5⟩:=exI (if l2.length=0 then O.sl 1 []else .own 0 (o+1+1) l2.length);have Nk:=sl1 Y z (o+1) l2.length J;rw[hv5]at Nk;have hv5':l2=[]/\v5=.sl 1 []\/v5=.own 0 (g.length-l2.length) l2.length:=by
       rw[<-hv5,<-ho2];by_cases h:l2.length=0
       ·exact .inl ⟨qv.1 h,zd h⟩
       ·exact .inr (ze h)
      have hmu5:Vi v5<l2.length+1+1:=by rcases hv5' with⟨_,h⟩|h<;>rw[h]<;>simp[Vi];omega
      rw[ho2]at hdl2;have hpos:(0:Int)<(l2.length:Int)+1:=by omega
      have Ik:(0:Int)<(l2.length:Int)+1+1:=by omega
      have q:=fun B T=>hrd r (hwl r (by rw[<-hdw2];exact zj Ni)) B T
      simp only[kE,Part.V]at q;cases d:(z7 r).2
      ·have L:kZ w (r::l2)=none:=by unfold kZ;rw[ze hA,zd ⟨hE,hR,by simp⟩];simp only[d];rfl
       have i:yQ g.length g=none:=by rw[R];simp only[yQ,L];rfl
       rw[i]at m;simp[XJ,J,C,u,D,y,n,Nk,Nj,Ij,G,H,I,M,N,hpos,Ik,q,d,qe,qM,m,Qd,qC,f200]
      ·have L:kZ w (r::l2)=some (Vh (wS wH w).1 (z7 r).1,l2):=by unfold kZ;rw[ze hA,zd ⟨hE,hR,by simp⟩];simp only[d,qA]
       have i:yQ g.length g=(yQ f' l2).map ((l++[Vh (wS wH w).1 (z7 r).1])++·):=by rw[R];simp only[yQ,L];cases yQ f' l2<;>simp
       have j:=wg.yL (P:=prog) (t:=219) (c:=[str (wS wH w).1,int (z7 r).1.n0,int (z7 r).1.n1,int (z7 r).1.n2,int (z7 r).1.has,.sl 1 (zJ (z7 r).1.pre),int 0,int 0,int 0,int 0,.nil]) (S.more (some ⟨224,5,false,[(z7 r).1.V]⟩)) cz cA cB cC rfl (by omega) (by unfold maxLen;unfold zx at E;omega) (by unfold zx at E;omega);simp only[Part.V]at j;simp[XJ,J,C,u,D,y,n,Nk,Nj,Ij,G,H,I,M,N,hpos,Ik,q,d,j,qe,qM,zz,zS,zy];exact⟨Qe (v4:=v5) (c:=Vh (wS wH w).1 (z7 r).1) (f':=f') (l':=l2) (l:=l) (xs:=xs) (by omega) (by omega) hdl2 (by simp) hv5' (by simpa using wg.after) (by simp<;>omega) rfl F (by simp) (by simp[Q,n0,n1,n2,J]) i,by simpa[Vi]using hmu5⟩
    ·have M:=eqF0 hR;have N:(wS wH w).2.isEmpty=false:=by simpa using hR
     have q:=fun B T=>hrd (wS wH w).2 W B T
     simp only[kE,Part.V]at q;cases d:(z7 (wS wH w).2).2
     ·have L:kZ w l'=none:=by unfold kZ;rw[ze hA,ze (fun h=>hR h.2.1),ze (by rw[d];simp)]
      have i:yQ g.length g=none:=by rw[R];simp only[yQ,L];rfl
      rw[i]at m;simp[XJ,J,C,u,D,y,n,G,H,I,M,N,q,d,qe,qM,m,Qd,qC,f200]
     ·have L:kZ w l'=some (Vh (wS wH w).1 (z7 (wS wH w).2).1,l'):=by unfold kZ;rw[ze hA,ze (fun h=>hR h.2.1),zd d]
      have i:yQ g.length g=(yQ f' l').map ((l++[Vh (wS wH w).1 (z7 (wS wH w).2).1])++·):=by rw[R];simp only[yQ,L];cases yQ f' l'<;>simp
      have j:=wg.yL (P:=prog) (t:=219) (c:=[str (wS wH w).1,int (z7 (wS wH w).2).1.n0,int (z7 (wS wH w).2).1.n1,int (z7 (wS wH w).2).1.n2,int (z7 (wS wH w).2).1.has,.sl 1 (zJ (z7 (wS wH w).2).1.pre),int 0,int 0,int 0,int 0,.nil]) (S.more (some ⟨224,5,false,[(z7 (wS wH w).2).1.V]⟩)) cz cA cB cC rfl (by omega) (by unfold maxLen;unfold zx at E;omega) (by unfold zx at E;omega);simp only[Part.V]at j;simp[XJ,J,C,u,D,y,n,G,H,I,M,N,q,d,j,qe,qM,zz,zS,zy];exact⟨Qe (v4:=v4) (c:=Vh (wS wH w).1 (z7 (wS wH w).2).1) (f':=f') (l':=l') (l:=l) (xs:=xs) (by omega) (by omega) K (by simp) A (by simpa using wg.after) (by simp<;>omega) rfl F (by simp) (by simp[Q,n0,n1,n2,J]) i,by simpa[Vi]using hmu⟩
theorem ff:zg prog 200 (zf false [] (Kg Cn)):=
 xE (fn:=f200) zcZ (zpi func200) false [] _ fun args r h w S vs a=>by obtain⟨l,rfl,Y,rfl⟩:=zp h;obtain⟨b,c,d⟩:=iB l Y;exact⟨_,b,a,by simp[f200],c,d⟩
noncomputable def vU (s:qZ) (c:Cut):Bool:=decide (wz s.lo c<=0)&&(s.yR||decide (wz c s.hi<0))
def qZ.small(s:qZ):Prop:=s.lo.v.small/\s.hi.v.small
theorem Qf(x y:Cut)(Y:Hp)(Z:Nat)(a:x.v.small)(b:y.v.small):qG [.g jP,.g jP] (Ce fun v w=>int (wz v w)) [.agg x.V,.agg y.V] Y Z=some (int (wz x y),Y,Z):=Cf x y (.agg x.V) (.agg y.V) Y Z (Cm x) (Cm y) (by simp only[zv,UB]) a b
noncomputable abbrev NO:Ctx:=zQ prog [(253,qG [.g jP,.g jP] (Ce fun v w=>int (wz v w)))]
theorem UG:AM.Good NO (fun g=>[253].contains g):=zw mixed ⟨Zr,fun _=>y7 _ _,trivial⟩
theorem LA:zg prog 293 (we NO f293):=zpj UG func293
theorem UH(s:qZ)(c:Cut)(hs:s.small)(a:c.v.small)(Y:Hp)(Z id:Nat)(hid:id<Z)(b:Y id=some ⟨232,5,false,[c.V]⟩) :
  we NO f293 [.agg s.V,.ref id 0 0] Y Z=some (qz (vU s c),qR Y Z (some ⟨234,11,false,[s.V]⟩),Z+1):=by
 unfold we;rw[zd (by simp[f293])];refine yu rfl ?_;have d:=fun Y Z=>Qf s.lo c Y Z hs.1 a
 have e:=fun Y Z=>Qf c s.hi Y Z a hs.2
 have f:¬id=Z:=by omega
 simp only[Cut.V]at d e b;by_cases g:wz s.lo c<=0<;>cases h:s.yR <;>
  simp[qZ.V,Cut.V,d,e,b,f,g,h,vU,f293]
noncomputable def iC (c:Cut):Nat->List qZ->Int
 |_,[]=>-1
 |k,s::l=>if vU s c=true then k else iC c (k+1) l
theorem Ff(c:Cut):∀(l:List qZ) (k:Nat),decide (0<=iC c k l)=l.any (vU · c)
 |[],k=>by simp[iC]
 |s::l,k=>by
  by_cases h:vU s c=true
  ·have e:iC c k (s::l)=k:=by simp only[iC,zd h]
   rw[e,wN,h];simp
  ·have e:iC c k (s::l)=iC c (k+1) l:=by simp only[iC,ze h]
   rw[e,Ff c l (k+1),wN,gA.2 h];rfl
noncomputable abbrev Ccix:Ctx:=zQ prog [(293,we NO f293)]
theorem zc0:Gd Ccix:=zph mixed ⟨LA,trivial⟩
theorem PK:zg prog 257 (we Ccix f257):=zpj zc0 func257
def fnC(id:Nat):O:=.fn (.func 293) [] [.ref id 0 0]
def pM(r:O)(Y:Hp)(Z:Nat)(x:O)(a:Hp)(b:Nat):Prop:=x=r/\Z<=b/\∀j,j<Z->a j=Y j
theorem zc1(l:List qZ)(c:Cut)(z:l.length<=zx)(hs:∀s∈l,s.small)(A:c.v.small)(i:Hp)(Z0 id:Nat)(hid:id<Z0)(B:i id=some ⟨232,5,false,[c.V]⟩) :
  ∃x u w,we Ccix f257 [.sl 11 (qb l),fnC id] i Z0=some (x,u,w)/\pM (int (iC c 0 l)) i Z0 x u w:=by
 unfold we;rw[zd (by simp[f257])];refine qw rfl ?_;unfold zx at z;have f:(qb l).length=l.length:=by simp[qb]
 simp[fnC,f];refine zI (fun k U Y Z=>U 0=.sl 11 (qb l)/\U 1=fnC id/\U 7=int l.length/\U 8=int k/\Z0<=Z/\(∀j,j<Z0->Y j=i j)/\iC c 0 l=iC c k (l.drop k)) l.length ⟨by simp,by simp[fnC],by simp,by simp,zl _,fun _ _=>rfl,by simp⟩ ?_;rintro k U Y Z C ⟨n,o,p,q,r,d,e⟩;by_cases b:k<l.length
 ·have y:=zlL k;have a:=UH l[k] c (hs _ (zj b)) A Y Z id (by omega) (by rw[d id hid];exact B);have g:∀h:k<(qb l).length,(qb l)[k]=l[k].V:=fun h=>by simp[qb]
  simp only[qZ.V,Cut.V,wI,wC]at a g;rw[zc b]at e;simp only[iC]at e;cases m:vU l[k] c
  ·rw[m,ze (by simp)]at e;rw[m]at a;simp[n,o,p,q,fnC,b,f,g,a,y];exact⟨b,by omega,fun j t=>by rw[zt _ _ _ _ (by omega)];exact d j t,e⟩
  ·rw[m,zd rfl]at e;rw[m]at a;simp[n,o,p,q,fnC,b,f,g,a,y,f257];exact⟨by rw[e],by omega,fun j t=>by rw[zt _ _ _ _ (by omega)];exact d j t⟩
 ·obtain rfl:k=l.length:=by omega
  rw[zo]at e;simp only[iC]at e;simp[n,o,p,q,f257];exact⟨by rw[e],r,d⟩
noncomputable abbrev Cctn:Ctx:=zQ prog [(257,we Ccix f257)]
theorem zc2:Gd Cctn:=zph mixed ⟨PK,trivial⟩
theorem PL:zg prog 208 (we Cctn f208):=zpj zc2 func208
noncomputable def yH (l:List qZ) (c:Cut):Bool:=l.any (vU · c)
theorem zc3(l:List qZ)(c:Cut)(f:l.length<=zx)(hs:∀s∈l,s.small)(g:c.v.small)(a:Hp)(Z0 id:Nat)(hid:id<Z0)(h:a id=some ⟨232,5,false,[c.V]⟩) :
  ∃x b d,we Cctn f208 [.sl 11 (qb l),fnC id] a Z0=some (x,b,d)/\pM (qz (yH l c)) a Z0 x b d:=by
 unfold we;rw[zd (by simp[f208])];refine qw rfl ?_;obtain⟨x,b,d,e,i,j,k⟩:=zc1 l c f hs g a Z0 id hid h;subst i;have m:=Ff c l 0;simp only[fnC]at e;simp[fnC,e,m,pM,yH,j,f208];exact k
noncomputable abbrev Ccov:Ctx:=zQ prog [(208,we Cctn f208)]
theorem zc4:Gd Ccov:=zph mixed ⟨PL,trivial⟩
def zlM(l:List qZ):Prop:=l.length<=zx/\∀s∈l,s.small
theorem pN{a b:qZ}(h:a.V=b.V):a=b:=by obtain⟨⟨⟨s,t,u,v⟩,w⟩,⟨⟨x,y,z,A⟩,g⟩,i⟩:=a;obtain⟨⟨⟨B,C,D,E⟩,F⟩,⟨⟨G,H,I,J⟩,j⟩,k⟩:=b;simp only[qZ.V,Cut.V,wI,wC,zh,zD]at h;obtain⟨l,m,n,c,o,p,q,r,d,e,f⟩:=h;injection c with _ c;injection d with _ d;rw[qB l,qB m,qB n,kn c,WR o,qB p,qB q,qB r,kn d,WR e,WR f]
theorem xY{a b:List qZ}(h:qb a=qb b):a=b:=yX (fun _ _ e=>pN e) h
noncomputable def FRC (f:List qZ->Cut->O):zb->Option O:=z6 (α:=List qZ×Cut) (fun a=>[.sl 11 (qb a.1),.agg a.2.V]) (fun a=>zlM a.1/\a.2.v.small) (fun a=>f a.1 a.2)
theorem zg5:∀a b:List qZ×Cut,[O.sl 11 (qb a.1),.agg a.2.V]=[O.sl 11 (qb b.1),.agg b.2.V]->a=b:=by rintro⟨f,g⟩ ⟨h,i⟩ e;simp only[zh,zD]at e;obtain⟨c,d⟩:=e;injection c with _ c;injection d with d;rw[xY c,ZR d]
theorem Fg(l:List qZ)(c:Cut)(a:zlM l)(d:c.v.small):zr Ccov f254 [.sl 11 (qb l),.agg c.V]=some (qz (yH l c)):=by refine zm rfl ?_;obtain⟨x,f,g,b,e,h,i⟩:=zc3 l c a.1 a.2 d (qR (fun _=>none) 0 (some ⟨232,5,false,[c.V]⟩)) 1 0 (by omega) (by simp);subst e;simp only[fnC,Cut.V]at b;simp[Cut.V,b,qS,f254]
theorem Co:zg prog 254 (qG [.s 11 jQ,.g jP] (FRC fun l c=>qz (yH l c))):=
 yc (fn:=f254) zc4 (zpi func254) _ _ fun args r h=>by obtain⟨⟨l,c⟩,rfl,⟨a,b⟩,rfl⟩:=zp h;exact⟨by simp[f254],_,Fg l c a b,qW.refl _⟩
structure TO {α:Type} (c:α->α->Int):Prop where
 refl:∀x,c x x=0
 flip:∀x y,c x y<0↔0<c y x
 tr:∀x y z,c x y<=0->c y z<=0->c x z<=0
theorem TO.le{α:Type}{c:α->α->Int}(h:TO c)(x y:α):c x y<=0↔0<=c y x:=by have:=h.flip y x;omega
theorem TO.eq{α:Type}{c:α->α->Int}(h:TO c)(x y:α):c x y=0↔c y x=0:=by have a:=h.flip y x;have b:=h.flip x y;omega
theorem TO.trans{α:Type}{c:α->α->Int}(h:TO c){x y z:α}(e:c x y<0)(b:c y z<0):c x z<0:=by
 have d:=h.tr x y z (by omega) (by omega);rcases Qk d with a|a
 ·exact a
 ·have f:=(h.eq x z).1 a;have g:=h.tr z x y (by omega) (by omega);have:=(h.flip y z).1 b;omega
theorem TO.ntrans{α:Type}{c:α->α->Int}(h:TO c){x y z:α}(a:0<=c x y)(b:0<=c y z):0<=c x z:=
 (h.le z x).1 (h.tr z y x ((h.le z y).2 b) ((h.le y x).2 a))
theorem TO.pull{α a:Type}{c:a->a->Int}(h:TO c)(f:α->a):TO fun x y=>c (f x) (f y):=⟨fun _=>h.refl _,fun _ _=>h.flip _ _,fun _ _ _=>h.tr _ _ _⟩
def Zx{α:Type}(c d:α->α->Int)(x y:α):Int:=if c x y=0 then d x y else c x y
theorem TO.lex{α:Type}{c d:α->α->Int}(f:TO c)(hd:TO d):TO (Zx c d) where
 refl x:=by simp[Zx,f.refl,hd.refl]
 flip x y:=by
  unfold Zx;have g:=f.flip x y;have i:=f.flip y x;have l:=hd.flip x y;by_cases h:c x y=0
  ·rw[zd h,zd ((f.eq x y).1 h)];exact l
  ·rw[ze h,ze (fun e=>h ((f.eq x y).2 e))];exact g
 tr x y z:=by
  unfold Zx;intro g i;by_cases a:c x y=0<;>by_cases b:c y z=0
  ·rw[zd a]at g;rw[zd b]at i;have j:=f.tr x y z (by omega) (by omega);have k:=f.tr z y x (by have:=(f.eq y z).1 b;omega) (by have:=(f.eq x y).1 a;omega);have m:=(f.le z x).1 k;rw[zd (by omega)];exact hd.tr x y z g i
  ·rw[ze b]at i;have j:=f.tr x y z (by omega) i;by_cases e:c x z=0
   ·exfalso;have k:=f.tr z x y (by have:=(f.eq x z).1 e;omega) (by omega);have:=(f.flip y z).1 (by omega);omega
   ·rw[ze e];exact j
  ·rw[ze a]at g;have j:=f.tr x y z g (by omega);by_cases e:c x z=0
   ·exfalso;have k:=f.tr y z x (by omega) (by have:=(f.eq x z).1 e;omega);have:=(f.flip x y).1 (by omega);omega
   ·rw[ze e];exact j
  ·rw[ze a]at g;rw[ze b]at i;have:=f.trans (x:=x) (y:=y) (z:=z) (by omega) (by omega);rw[ze (by omega)];omega
theorem nM{α:Type}{c:α->α->Int}(h:TO c):TO (yr c) where
 refl l:=by
  induction l with
  |nil=>rfl
  |cons x l f=>simp[yr,h.refl,f]
 flip a b:=by
  induction a generalizing b with
  |nil=>cases b<;>simp[yr]
  |cons x a f=>
   cases b with
   |nil=>simp[yr]
   |cons y b=>
    simp only[yr];by_cases e:c x y=0
    ·rw[zd e,zd ((h.eq x y).1 e)];exact f b
    ·rw[ze e,ze (fun m=>e ((h.eq x y).2 m))];exact h.flip x y
 tr a b d:=by
  induction a generalizing b d with
  |nil=>cases d<;>simp[yr]
  |cons x a f=>
   cases b with
   |nil=>simp[yr]
   |cons y b=>
    cases d with
    |nil=>simp[yr]
    |cons z d=>
     simp only[yr];intro g i;by_cases p:c x y=0<;>by_cases q:c y z=0
     ·rw[zd p]at g;rw[zd q]at i;have j:=h.tr x y z (by omega) (by omega);have k:=h.tr z y x (by have:=(h.eq y z).1 q;omega) (by have:=(h.eq x y).1 p;omega);have n:=(h.le z x).1 k;rw[zd (by omega)];exact f b d g i
     ·rw[ze q]at i;have j:=h.tr x y z (by omega) i;by_cases e:c x z=0
      ·exfalso;have k:=h.tr z x y (by have:=(h.eq x z).1 e;omega) (by omega);have:=(h.flip y z).1 (by omega);omega
      ·rw[ze e];exact j
     ·rw[ze p]at g;have j:=h.tr x y z g (by omega);by_cases e:c x z=0
      ·exfalso;have k:=h.tr y z x (by omega) (by have:=(h.eq x z).1 e;omega);have:=(h.flip x y).1 (by omega);omega
      ·rw[ze e];exact j
     ·rw[ze p]at g;rw[ze q]at i;have:=h.trans (x:=x) (y:=y) (z:=z) (by omega) (by omega);rw[ze (by omega)];omega
theorem Qw:TO wR:=⟨fun x=>by simp[wR],fun x y=>by unfold wR;split<;>split<;>(try split)<;>omega,fun x y z=>by unfold wR;repeat' split<;>omega⟩
theorem Fh:∀a b:za,yK a b=yr (fun x y:UInt8=>wR x.toNat y.toNat) a b
 |[],[]=>rfl
 |[],_::_=>rfl
 |_::_,[]=>rfl
 |x::a,y::b=>by
  have f:=Fh a b;simp only[yr];unfold yK at f⊢;simp only[Lib.compareBytes];rcases Nat.lt_trichotomy x.toNat y.toNat with h|h|h
  ·have c:x<y:=h;have e:wR x.toNat y.toNat=-1:=by unfold wR;rw[zd (by omega)]
   simp[c,e]
  ·have e:wR x.toNat y.toNat=0:=by unfold wR;rw[ze (by omega),ze (by omega)]
   have c:¬x<y:=by show¬x.toNat<y.toNat;omega
   have d:¬y<x:=by show¬y.toNat<x.toNat;omega
   simp[c,d,e,f]
  ·have c:¬x<y:=by show¬x.toNat<y.toNat;omega
   have d:y<x:=h;have e:wR x.toNat y.toNat=1:=by unfold wR;rw[ze (by omega),zd (by omega)]
   simp[c,d,e]
theorem b4:TO yK:=by
 have:yK=yr (fun x y:UInt8=>wR x.toNat y.toNat):=by funext a b;exact Fh a b
 rw[this];exact nM (Qw.pull fun x:UInt8=>(x.toNat:Int))
noncomputable def iD (a:za):Int×Int×za×za:=if Zq a=true then(0,(Lib.trimLeftB a 48).length,Lib.trimLeftB a 48,[])else(1,0,[],a)
theorem Fi(a b:za):w8 a b=Zx (fun x y=>wR x.1 y.1) (Zx (fun x y=>wR x.2.1 y.2.1) (Zx (fun x y=>yK x.2.2.1 y.2.2.1) fun x y=>yK x.2.2.2 y.2.2.2)) (iD a) (iD b):=by
 unfold w8 iD Zx;have r:=b4.refl [];have e:wR 0 0=0:=rfl;have f:wR 1 1=0:=rfl;by_cases c:Zq a=true<;>by_cases d:Zq b=true
 ·simp only[c,d,qA,e,r,Xb]
 ·simp[c,d,wR]
 ·simp[c,d,wR]
 ·simp[c,d,e,f,r]
theorem LB:TO w8:=by
 have:w8=fun a b=>Zx (fun x y=>wR x.1 y.1) (Zx (fun x y=>wR x.2.1 y.2.1) (Zx (fun x y=>yK x.2.2.1 y.2.2.1) fun x y=>yK x.2.2.2 y.2.2.2)) (iD a) (iD b):=by funext a b;exact Fi a b
 rw[this];exact TO.pull (TO.lex (Qw.pull fun x:Int×Int×za×za=>x.1) (TO.lex (Qw.pull fun x:Int×Int×za×za=>x.2.1) (TO.lex (b4.pull fun x:Int×Int×za×za=>x.2.2.1) (b4.pull fun x:Int×Int×za×za=>x.2.2.2)))) iD
def fg(v:wQ):Int:=if v.pre.length=0 then 1 else 0
theorem UI(v w:wQ):xG v w=Zx (fun x y=>wR x.a y.a) (Zx (fun x y=>wR x.b y.b) (Zx (fun x y=>wR x.c y.c) (Zx (fun x y=>wR (fg x) (fg y)) fun x y=>yr w8 x.pre y.pre))) v w:=by
 unfold xG Zx;by_cases d:wR v.a w.a=0
 ·by_cases e:wR v.b w.b=0
  ·by_cases f:wR v.c w.c=0
   ·simp only[Xb,d,e,f,qA];by_cases p:v.pre.length=0<;>by_cases q:w.pre.length=0
    ·have g:v.pre=[]:=qv.1 p;have h:w.pre=[]:=qv.1 q;simp[fg,p,q,wR,g,h,yr]
    ·simp[fg,p,q,wR]
    ·simp[fg,p,q,wR]
    ·simp[fg,p,q,wR]
   ·simp[Xb,d,e,f]
  ·simp[Xb,d,e]
 ·simp[Xb,d]
theorem DZ:TO xG:=by
 have:xG=Zx (fun x y=>wR x.a y.a) (Zx (fun x y=>wR x.b y.b) (Zx (fun x y=>wR x.c y.c) (Zx (fun x y=>wR (fg x) (fg y)) fun x y=>yr w8 x.pre y.pre))):=by funext a b;exact UI a b
 rw[this];exact TO.lex (Qw.pull fun x:wQ=>x.a) (TO.lex (Qw.pull fun x:wQ=>x.b) (TO.lex (Qw.pull fun x:wQ=>x.c) (TO.lex (Qw.pull fg) ((nM LB).pull fun x:wQ=>x.pre))))
def PM(c:Cut):Int:=if c.after=true then 1 else 0
theorem UJ(a b:Cut):wz a b=Zx (fun x y=>xG x.v y.v) (fun x y=>wR (PM x) (PM y)) a b:=by
 unfold wz Zx;by_cases h:xG a.v b.v=0
 ·simp only[h,qA];cases c:a.after<;>cases d:b.after<;>simp[PM,c,d,wR]
 ·simp[h]
theorem wK:TO wz:=by
 have:wz=Zx (fun x y=>xG x.v y.v) (fun x y=>wR (PM x) (PM y)):=by funext a b;exact UJ a b
 rw[this];exact TO.lex (DZ.pull fun x:Cut=>x.v) (Qw.pull PM)
end Go.Q
namespace Go.Q
open Classical in
noncomputable def UK (x y:zb):Int:=if h:∃a b:Cut,x=a.V/\y=b.V then wz (Classical.choose h) (Classical.choose (jT h))else 0
theorem Js(a b:Cut):UK a.V b.V=wz a b:=by have h:∃c d:Cut,a.V=c.V/\b.V=d.V:=⟨a,b,rfl,rfl⟩;unfold UK;rw[Oy h];have e:=jT (jT h);exact congr (zC wz (ZR e.1).symm) (ZR e.2).symm
def wB(l:List Cut):List zb:=l.map Cut.V
theorem UL(l:List Cut):XG UK (wB l) where
 irrefl x d:=by obtain⟨a,_,rfl⟩:=wA.1 d;rw[Js,wK.refl];exact zk4 _
 trans x d y e z f:=by obtain⟨a,_,rfl⟩:=wA.1 d;obtain⟨b,_,rfl⟩:=wA.1 e;obtain⟨c,_,rfl⟩:=wA.1 f;rw[Js,Js,Js];exact wK.trans
 ntrans x d y e z f:=by obtain⟨a,_,rfl⟩:=wA.1 d;obtain⟨b,_,rfl⟩:=wA.1 e;obtain⟨c,_,rfl⟩:=wA.1 f;rw[Js,Js,Js];exact wK.ntrans
def domC(x:zb):Prop:=∃a:Cut,x=a.V/\a.v.small
theorem zg6:zft prog 253 5 UK domC:=by
 refine⟨fun args w=>?_,_,Zr,fun x y _ _ c d=>?_⟩
 ·have h:prog.funcs[253]?=some f253:=func253;simp[callFunc,h,f253]
 ·obtain⟨a,rfl,e⟩:=c;obtain⟨b,rfl,f⟩:=d;rw[Js];exact Qf a b _ _ e f
open Classical in
noncomputable def LC (x:zb):Cut:=if h:∃a:Cut,x=a.V then Classical.choose h else wu
theorem UM(a:Cut):LC a.V=a:=by have h:∃c:Cut,a.V=c.V:=⟨a,rfl⟩;unfold LC;rw[Oy h];exact(ZR (jT h)).symm
theorem aB(l:List Cut):(wB l).map LC=l:=by
 induction l with
 |nil=>rfl
 |cons a l b=>show LC a.V::(wB l).map LC=_;rw[UM,b]
theorem aC(l:List Cut):∃s:List Cut,YC UK (wB l)=wB s/\s.Perm l/\s.Pairwise fun a b=>wz a b<=0:=by
 have Y:=dh (UL l);have hs:=BQ (UL l);have c:∀(r:List zb),(∀x∈r,∃a:Cut,x=a.V)->∃s:List Cut,r=wB s:=by
  intro r
  induction r with
  |nil=>intro _;exact⟨[],rfl⟩
  |cons x r d=>
   intro h;obtain⟨a,rfl⟩:=h x (by simp);obtain⟨s,rfl⟩:=d fun y f=>h y (by simp[f])
   exact⟨a::s,rfl⟩
 obtain⟨s,e⟩:=c (YC UK (wB l)) fun x g=>by have:=Y.mem_iff.1 g;obtain⟨a,_,rfl⟩:=wA.1 this;exact⟨a,rfl⟩
 rw[e]at Y hs;refine⟨s,e,?_,?_⟩
 ·have:=Y.map LC;rwa [aB,aB]at this
 ·rw[wB,List.pairwise_map]at hs;refine hs.imp fun{a b} h=>?_
  rw[Js]at h;exact(wK.le a b).2 h
end Go.Q
namespace Go.Q
def Wh(out:List qZ)(c:Cut):List qZ:=match out.getLast? with
 |some s=>out.dropLast++[⟨s.lo,c,false⟩]
 |none=>out
def cJ(a:Cut->Bool)(st:Bool×List qZ)(c:Cut):Bool×List qZ:=(a c,if(a c&&!st.1)=true then st.2++[yp c]else if(!a c&&st.1)=true then Wh st.2 c else st.2)
theorem PN(a:Cut->Bool)(st:Bool×List qZ)(c:Cut):cJ a (cJ a st c) c=cJ a st c:=by unfold cJ;cases a c<;>simp
def XR(a:Cut->Bool)(l:List Cut)(st:Bool×List qZ):Bool×List qZ:=l.foldl (cJ a) st
open Classical in
noncomputable def fh:List Cut->List Cut
 |[]=>[]
 |a::l=>match fh l with
  |[]=>[a]
  |b::r=>if a=b then b::r else a::b::r
theorem pO(c:Cut->Bool):∀(l:List Cut) (st:Bool×List qZ),XR c l st=XR c (fh l) st
 |[],st=>rfl
 |a::l,st=>by
  have d:=pO c l (cJ c st a);show XR c l (cJ c st a)=_;rw[d];simp only[fh];split
  ·rename_i e;rw[e];rfl
  ·rename_i b r e;rw[e];split
   ·rename_i h;subst h;show XR c r (cJ c (cJ c st a) a)=XR c r (cJ c st a);rw[PN]
   ·rfl
theorem iE:∀(l:List Cut) (c:Cut),c∈fh l↔c∈l
 |[],c=>by simp[fh]
 |a::l,c=>by
  have d:=iE l c;simp only[fh];split
  ·rename_i e;rw[e]at d;simp only[zA,zb4,or_false];rw[<-d];simp
  ·rename_i b r e;rw[e]at d;split
   ·rename_i h;subst h;rw[zA (b:=a) (l:=l),<-d];simp
   ·rw[zA,zA (b:=a) (l:=l),d]
theorem fj:∀(l:List Cut) (_:∀a∈l,∀b∈l,wz a b=0->a=b),(l.Pairwise fun a b=>wz a b<=0)->(fh l).Pairwise fun a b=>wz a b<0
 |[],_,_=>.nil
 |a::l,j,hs=>by
  obtain⟨m,n⟩:=wU.1 hs;have f:=fj l (fun x o y p=>j x (by simp[o]) y (by simp[p])) n;simp only[fh];split
  ·simp
  ·rename_i b r e;rw[e]at f;split
   ·exact f
   ·rename_i g;refine wU.2 ⟨fun c i=>?_,f⟩;have k:b∈l:=(iE l b).1 (by rw[e];simp);have d:wz a b<0:=by
     rcases Qk (m b k)with h|h
     ·exact h
     ·exact absurd (j a (by simp) b (by simp[k]) h) g
    rcases zA.1 i with rfl|i
    ·exact d
    ·exact wK.trans d ((wU.1 f).1 c i)
theorem Ac:∀(x y:List Cut),(x.Pairwise fun a b=>wz a b<0)->(y.Pairwise fun a b=>wz a b<0)->(∀c,c∈x↔c∈y)->x=y
 |[],[],_,_,_=>rfl
 |[],b::y,_,_,h=>absurd ((h b).2 (by simp)) (by simp)
 |a::x,[],_,_,h=>absurd ((h a).1 (by simp)) (by simp)
 |a::x,b::y,l,m,h=>by
  obtain⟨j,n⟩:=wU.1 l;obtain⟨k,o⟩:=wU.1 m;have d:∀c:Cut,¬wz c c<0:=fun c=>by rw[wK.refl];omega
  have i:a=b:=by
   rcases zA.1 ((h a).1 (by simp))with e|p
   ·exact e
   ·rcases zA.1 ((h b).2 (by simp))with e|q
    ·exact e.symm
    ·exact absurd (wK.trans (j b q) (k a p)) (d a)
  subst i;rw[Ac x y n o fun c=>?_];constructor
  ·intro g;rcases zA.1 ((h c).1 (by simp[g]))with e|f
   ·subst e;exact absurd (j c g) (d c)
   ·exact f
  ·intro g;rcases zA.1 ((h c).2 (by simp[g]))with e|f
   ·subst e;exact absurd (k c g) (d c)
   ·exact f
def wv:List qZ->List Cut
 |[]=>[]
 |s::l=>(if s.yR=true then[s.lo]else[s.lo,s.hi])++wv l
theorem Ym(a b:List qZ):wv (a++b)=wv a++wv b:=by
 induction a with
 |nil=>rfl
 |cons s a c=>simp only[wI,wv,c,qT]
theorem QA(a:List qZ):(wv a).length<=2*a.length:=by
 induction a with
 |nil=>simp[wv]
 |cons s a b=>simp only[wv,qt,zV];split<;>simp<;>omega
theorem JX{Q:Cut->Prop}{a:List qZ}(h:∀s∈a,Q s.lo/\Q s.hi):∀c∈wv a,Q c:=by
 induction a with
 |nil=>intro c hc;cases hc
 |cons s a d=>
  intro c hc;obtain⟨b,e⟩:=h s (by simp);simp only[wv,qg]at hc;rcases hc with hc|hc
  ·split at hc
   ·rw[jG]at hc;rw[hc];exact b
   ·simp only[zA,zb4,or_false]at hc;rcases hc with rfl|rfl
    ·exact b
    ·exact e
  ·exact d (fun x f=>h x (by simp[f])) c hc
noncomputable def Wi (l:List Cut):List Cut:=(YC UK (wB l)).map LC
theorem LD(l:List Cut):YC UK (wB l)=wB (Wi l):=by obtain⟨s,h,_⟩:=aC l;unfold Wi;rw[h,aB]
theorem ZH(l:List Cut):(Wi l).Perm l:=by obtain⟨s,h,a,_⟩:=aC l;unfold Wi;rw[h,aB];exact a
theorem tp(l:List Cut):(Wi l).Pairwise fun a b=>wz a b<=0:=by obtain⟨s,h,_,c⟩:=aC l;unfold Wi;rw[h,aB];exact c
noncomputable def vr (f:Bool->Bool->Bool) (a b:List qZ):List qZ:=(XR (fun c=>f (yH a c) (yH b c)) (Wi (wv a++wv b)) (false,[])).2
theorem Fj(out:List qZ)(c:Cut):(Wh out c).length=out.length:=by
 unfold Wh;split
 ·rename_i s h;have:out≠[]:=by rintro rfl;cases h
  have:=xa.2 this;simp;omega
 ·rfl
theorem NP(a:Cut->Bool):∀(l:List Cut) (st:Bool×List qZ),2*(XR a l st).2.length+(if st.1=true then 1 else 0)<=2*st.2.length+l.length+(if(XR a l st).1=true then 1 else 0)
 |[],st=>by show 2*st.2.length+(if st.1=true then 1 else 0)<=2*st.2.length+0+(if st.1=true then 1 else 0);omega
 |c::l,st=>by
  have b:=NP a l (cJ a st c);have e:XR a (c::l) st=XR a l (cJ a st c):=rfl;rw[e];have hs:2*(cJ a st c).2.length+(if st.1=true then 1 else 0)<=2*st.2.length+1+(if(cJ a st c).1=true then 1 else 0):=by obtain⟨o,out⟩:=st;unfold cJ;cases a c<;>cases o<;>simp[Fj]<;>omega
  simp only[zV];omega
theorem JI(f:Bool->Bool->Bool)(a b:List qZ):(vr f a b).length<=a.length+b.length:=by have h:=NP (fun c=>f (yH a c) (yH b c)) (Wi (wv a++wv b)) (false,[]);have d:=(ZH (wv a++wv b)).length_eq;have e:=QA a;have g:=QA b;rw[qt]at d;unfold vr;simp only[zF,qJ,ku]at h;split at h<;>omega
theorem Fk{Q:Cut->Prop}{out:List qZ}{c:Cut}(h:∀s∈out,Q s.lo/\Q s.hi)(b:Q c):∀s∈Wh out c,Q s.lo/\Q s.hi:=by
 unfold Wh;split
 ·rename_i s hs;intro x a;rcases qg.1 a with a|a
  ·exact h x (List.dropLast_subset _ a)
  ·rw[jG]at a;rw[a];exact⟨(h s (List.mem_of_getLast? hs)).1,b⟩
 ·exact h
theorem NQ{Q:Cut->Prop}(b:Q Wy)(a:Cut->Bool):∀(l:List Cut) (st:Bool×List qZ),(∀c∈l,Q c)->(∀s∈st.2,Q s.lo/\Q s.hi)->∀s∈(XR a l st).2,Q s.lo/\Q s.hi
 |[],st,_,h=>h
 |c::l,st,d,h=>by
  refine NQ b a l (cJ a st c) (fun x f=>d x (by simp[f])) ?_;have e:=d c (by simp);unfold cJ;dsimp only;split
  ·intro s hs;rcases qg.1 hs with hs|hs
   ·exact h s hs
   ·rw[jG]at hs;rw[hs];exact⟨e,b⟩
  ·split
   ·exact Fk h e
   ·exact h
theorem Ad{Q:Cut->Prop}(d:Q Wy)(f:Bool->Bool->Bool){a b:List qZ}(e:∀s∈a,Q s.lo/\Q s.hi)(g:∀s∈b,Q s.lo/\Q s.hi):∀s∈vr f a b,Q s.lo/\Q s.hi:=
 NQ d _ _ _ (fun c i=>by
  have:=(ZH _).mem_iff.1 i;rcases qg.1 this with h|h
  ·exact JX e c h
  ·exact JX g c h) (fun s hs=>by cases hs)
end Go.Q
namespace Go.AM
variable{dr:Prop}
def iF(p:List (Option Nat))(b:kV):kV:=⟨b.e,b.s,b.arr,b.es.map (Wa p)⟩
theorem xN.fixed{P:Program}{w:World}{S:Nat->Prop}{G:Nat->GI}{Z:Nat}{g:GI}{b:kV}(h:xN P w S G Z g b)(e:0<g.s)(o:b.arr=true)(p:List (Option Nat)):xN P w S G Z g (iF p b):=by
 refine xN.xz e h.bs ⟨h.size e,fun c q=>?_,by simpa[iF]using h.fit e,?_⟩
 ·obtain⟨a,d,rfl⟩:=wA.1 q;rw[xS];exact h.len e a d
 ·obtain⟨k,r,t,v⟩:=h.row e;refine⟨k,r,t,fun i j c A hi l=>?_⟩;simp only[iF,qQ]at hi;obtain⟨a,d,rfl⟩:∃a,b.es[i]?=some a/\Wa p a=c:=by
   cases m:b.es[i]? with
   |none=>rw[m]at hi;cases hi
   |some a=>rw[m]at hi;injection hi with hi;exact⟨a,rfl,hi⟩
  have f:j<a.length:=by have:=(zn.1 l).1;rwa [xS]at this
  obtain⟨u,x,y,_,z⟩:=v i j a a[j] d (zq f);have n:=(ZP p a).get (zq f) l _ _ _ (y o);exact⟨u,x,fun _=>n,.c n,z⟩
theorem vA.fixed{P:Program}{Y:Hp}{Z:Nat}{S:Nat->Prop}{G:Nat->GI}{w:World}{Y2:Hp}{g:Nat}{m:Nat->Prop}{j:Nat->GI}{n:World}(k:vA dr P Y Z S G w Y2 g m j n)
  {id:Nat} {b:kV} (o:Y2 id=some b) (r:b.arr=true) (t:0<(j id).s) (p:List (Option Nat)):vA dr P Y Z S G w (qR Y2 id (some (iF p b))) g m j n:=by
 have d:∀k c,qR Y2 id (some (iF p b)) k=some c->∃f,Y2 k=some f:=fun k c q=>by
  by_cases e:k=id
  ·subst e;exact⟨b,o⟩
  ·rw[wM _ _ _ _ e]at q;exact⟨c,q⟩
 refine⟨⟨k.inv.st,fun i c a=>?_,fun i c a=>?_,fun i c a=>?_,fun i i' c u a l v=>?_,k.inv.oa⟩,k.up,k.loc,k.keep,k.from_,fun i c a=>?_,k.fr⟩
 ·obtain⟨f,h⟩:=d i c a;exact k.inv.top i f h
 ·by_cases e:i=id
  ·subst e;rw[yd]at a;injection a with a
   subst a;exact(k.inv.live i b o).fixed t r p
  ·rw[wM _ _ _ _ e]at a;exact k.inv.live i c a
 ·obtain⟨f,h⟩:=d i c a;exact k.inv.apart i f h
 ·obtain⟨f,h⟩:=d i c a;obtain⟨x,y⟩:=d i' u l;exact k.inv.inj i i' f x h y v
 ·obtain⟨f,h⟩:=d i c a;exact k.own i f h
def xu(a:List Sh)(F:zb->Option (Option kV)):AM.Spec:=jj [] fun args=>F (eH a args)
def Fm(p:List (Option Nat))(r:Option kV)(x:O)(Y:Hp)(_:Nat):Prop:=match r with
 |none=>x=.nil
 |some b=>∃id a,x=.own id 0 a.es.length/\Y id=some a/\a.arr=true/\b=iF p a
section
variable{C:Ctx}{pf:FuncId->Bool}{f:FuncId}{fn:Func}{code:Code}
theorem KP(W:Qn dr C pf)(l:Q9 C pf f fn)(z:List Sh)(p:List (Option Nat))(F:zb->Option (Option kV))(hF:∀args r,F args=some r->args.length<=fn.ntmps/\∃x Y Z,kj C fn args (fun _=>none) 0=some (x,Y,Z)/\Fm p r x Y Z) :
  xB dr C.P f (xu z F):=by
 obtain⟨_,l⟩:=l;refine⟨⟨fn,l.func,l.name,by rw[l.body];rfl⟩,?_⟩;intro args Y Z r Y' Z' h w S G vs hi hz;unfold xu jj at h;split at h
 ·rename_i aZ Y1 A;obtain⟨S1,g,t,_⟩:=kx (dr:=dr) hi A hz;have j:∀id b,Y1 id=some b->Y1 id=some b/\¬False:=fun id b h=>⟨h,fun h=>h⟩
  split at h
  ·rename_i m;obtain⟨B,x,E,H,n,d⟩:=hF _ none m;injection h with h
   injection h with I h;injection h with J K;subst I;subst J;subst K;simp only[Fm]at d;subst d;refine(Qx W l n B g.inv.st g.inv.oa (Va (YA t))).mono fun e w' L=>?_
   obtain⟨v,S',G',M,N,a,Q,o,q,_⟩:=L;have R:=gV (dr:=dr) (D:=fun _=>False) (Y2:=Y1) g.inv j (fun _ h=>h.elim) N a o (fun b T=>(q b T).imp (fun h=>h) .inr);have:=Q.ZV;subst this;exact⟨_,_,_,M,g.trans R,.c .nil⟩
  ·rename_i b m;obtain⟨B,x,E,H,n,d⟩:=hF _ (some b) m;injection h with h
   injection h with I h;injection h with J K;subst I;subst J;subst K;obtain⟨id,s,rfl,hid,k,rfl⟩:=d;refine(Qx W l n B g.inv.st g.inv.oa (Va (YA t))).mono fun e w' L=>?_
   obtain⟨v,S',G',M,N,a,Q,o,q,u⟩:=L;have R:=Es (dr:=dr) (D:=fun _=>False) (Y2:=Y1) g.inv j (fun _ h=>h.elim) N a o (fun b T=>(q b T).imp (fun h=>h) .inr) hid k (.inr (u id s hid));have y:=Et (Z:=Z) (G:=G) Q;have X:=R.fixed (id:=Z) (by simp) k y.Za p;rw[show qR (qR Y1 Z (some s)) Z (some (iF p s))=qR Y1 Z (some (iF p s)) by funext i;unfold qR;split<;>rfl]at X;refine⟨_,_,_,M,g.trans X,?_⟩;rw[show(iF p s).es.length=s.es.length by simp[iF]];exact y
  ·cases h
 ·cases h
end
end Go.AM
namespace Go.Proofs
open Go.Shelf
def Tryz.SR:Go.Shelf.Ren:=⟨fun|6=>252|15=>216|14=>292|28=>268|29=>269|20=>326|21=>327|22=>328|23=>329|24=>330|25=>331|26=>332|27=>333|46=>352|47=>297|48=>298|49=>353|50=>354|57=>361|n=>n,fun|22=>267|24=>232|25=>270|3=>3|39=>137|0=>0|53=>284|55=>111|4=>4|46=>278|45=>277|50=>86|5=>5|9=>9|66=>300|70=>304|76=>332|77=>106|n=>n,fun|n=>n⟩
theorem Tryz.zgc:Go.Proofs.SlLaysF0.n6 prog Tryz.SR:={
 mixed:=by kernel_rfl
 f6:=⟨f252.name,by decide,func252.trans (zC some (by kernel_rfl))⟩
 f14:=⟨f292.name,by decide,func292.trans (zC some (by kernel_rfl))⟩
 f15:=func216.trans (zC some (by kernel_rfl))
 f20:=⟨f326.name,by decide,func326.trans (zC some (by kernel_rfl))⟩
 f21:=⟨f327.name,by decide,func327.trans (zC some (by kernel_rfl))⟩
 f22:=⟨f328.name,by decide,func328.trans (zC some (by kernel_rfl))⟩
 f23:=⟨f329.name,by decide,func329.trans (zC some (by kernel_rfl))⟩
 f24:=⟨f330.name,by decide,func330.trans (zC some (by kernel_rfl))⟩
 f25:=⟨f331.name,by decide,func331.trans (zC some (by kernel_rfl))⟩
 f26:=⟨f332.name,by decide,func332.trans (zC some (by kernel_rfl))⟩
 f27:=⟨f333.name,by decide,func333.trans (zC some (by kernel_rfl))⟩
 f28:=func268.trans (zC some (by kernel_rfl))
 f29:=func269.trans (zC some (by kernel_rfl))
 f46:=⟨f352.name,by decide,func352.trans (zC some (by kernel_rfl))⟩
 f47:=func297.trans (zC some (by kernel_rfl))
 f48:=func298.trans (zC some (by kernel_rfl))
 f49:=⟨f353.name,by decide,func353.trans (zC some (by kernel_rfl))⟩
 f50:=⟨f354.name,by decide,func354.trans (zC some (by kernel_rfl))⟩
 f57:=⟨f361.name,by decide,func361.trans (zC some (by kernel_rfl))⟩
 t0:=underlying0
 a0:=isAgg0
 z0:=sizeOf0
 v0:=zeroValue0
 t3:=underlying3
 a3:=isAgg3
 z3:=sizeOf3
 v3:=zeroValue3
 t4:=underlying4
 a4:=isAgg4
 z4:=sizeOf4
 v4:=zeroValue4
 t5:=underlying5
 a5:=isAgg5
 z5:=sizeOf5
 v5:=zeroValue5
 t9:=underlying9
 a9:=isAgg9
 z9:=sizeOf9
 v9:=zeroValue9
 t22:=underlying267
 a22:=isAgg267
 z22:=sizeOf267
 v22:=zeroValue267
 t25:=underlying270
 a25:=isAgg270
 z25:=sizeOf270
 v25:=zeroValue270
 t39:=underlying137
 a39:=isAgg137
 z39:=sizeOf137
 v39:=zeroValue137
 t45:=underlying277
 a45:=isAgg277
 z45:=sizeOf277
 v45:=zeroValue277
 t46:=underlying278
 a46:=isAgg278
 z46:=sizeOf278
 v46:=zeroValue278
 t50:=underlying86
 a50:=isAgg86
 z50:=sizeOf86
 v50:=zeroValue86
 t53:=underlying284
 a53:=isAgg284
 z53:=sizeOf284
 v53:=zeroValue284
 t55:=underlying111
 a55:=isAgg111
 z55:=sizeOf111
 v55:=zeroValue111
 t66:=underlying300
 a66:=isAgg300
 z66:=sizeOf300
 v66:=zeroValue300
 t70:=underlying304
 a70:=isAgg304
 z70:=sizeOf304
 v70:=zeroValue304
 t76:=underlying332
 a76:=isAgg332
 z76:=sizeOf332
 v76:=zeroValue332
 t77:=underlying106
 a77:=isAgg106
 z77:=sizeOf106
 v77:=zeroValue106}
theorem Tryz.zcc:T5 prog 252 5:=⟨fun _ _ V e f h i g blk off cap d w j a k b c=>AnyQ.slices_SortFunc_eq Tryz.zgc 5 isAgg232 sizeOf232 V e f h i g #[] blk off cap d w j a k b c,
 fun p cap l w=>AnyF.slices_SortFunc_none Tryz.zgc p cap l w⟩
end Go.Proofs
