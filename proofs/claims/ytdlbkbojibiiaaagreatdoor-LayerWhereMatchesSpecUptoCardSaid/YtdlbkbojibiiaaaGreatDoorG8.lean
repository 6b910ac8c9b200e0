/- Lemmas. -/
import Derived.Shelf.SlSortCmp.WholeK
import Derived.Shelf.SlSortCmp.NoneTotal
import Derived.Test.YtdlbkbojibiiaaaGreatDoorProg
import Derived.Test.YtdlbkbojibiiaaaGreatDoorG7
set_option maxRecDepth 100000
set_option maxHeartbeats 4000000
open Go Proofs Proofs.YtdlbkbojibiiaaaGreatDoor Proofs.Tryz RowKit AM SpanLaw Q Zz
namespace Go.AM
section
variable(C:Ctx)(ρ:Operand->Option O)(Y:Hp)(Z:Nat)
@[simp]theorem zi5(t:TypeId)(x i:Operand)(a:Bool):qf C ρ Y Z (.lookup t x i a)=(do let p <-ρ x;let q <-ρ i;let r <-Qp C.P Y t p q a;some (r,Y,Z)):=by simp only[qf];cases ρ x<;>cases ρ i<;>(try rfl);simp;cases Qp C.P Y t _ _ a<;>rfl
@[simp]theorem zdf(t:TypeId)(m k x:Operand):qf C ρ Y Z (.mapUpdate t m k x)=(do let p <-ρ m;let q <-ρ k;let y <-ρ x;let h <-Q3 C.P Y t p q y;some (.wY [],h,Z)):=by simp only[qf];cases ρ m<;>cases ρ k<;>cases ρ x<;>(try rfl);simp;cases Q3 C.P Y t _ _ _<;>rfl
@[simp]theorem zhe(t:TypeId):qf C ρ Y Z (.makeMap t none)=(do let _ <-X6 C.P t;some (.mp Z,qR Y Z (some ⟨t,0,false,[]⟩),Z+1)):=by simp only[qf];cases X6 C.P t<;>rfl
end
end Go.AM
namespace Go.Q
@[simp]theorem zkF(U:Nat->O):AM.get U (.const (.pointer none))=some (.v (.pointer none)):=rfl
def rv(l:List za):List zb:=l.map fun s=>[str s,qz true]
def xq(l:List za):kV:=⟨100,0,false,rv l⟩
theorem iP(s:za):∀(l:List za) (i:Nat),(s ∉ l->Q2 (.string ⟨s.toArray⟩) (rv l) i=some none)/\(s∈l->∃j,Q2 (.string ⟨s.toArray⟩) (rv l) i=some (some (j,qz true)))
 |[],i=>⟨fun _=>rfl,fun h=>by simp at h⟩
 |x::l,i=>by
  obtain⟨c,d⟩:=iP s l (i+1);by_cases a:s=x
  ·refine⟨fun h=>absurd (by simp[a]) h,fun _=>⟨i,?_⟩⟩;subst a;simp[rv,Q2,Qo]
  ·have f:Qo (.string ⟨s.toArray⟩) (.string ⟨x.toArray⟩)=some false:=by simp only[Qo];congr 1;rw[ya];intro e;exact a (by simpa[Oz]using e)
   have b:Q2 (.string ⟨s.toArray⟩) (rv (x::l)) i=Q2 (.string ⟨s.toArray⟩) (rv l) (i+1):=by simp only[rv,wD,Q2,f]
   refine⟨fun h=>by rw[b];exact c fun g=>h (List.mem_cons_of_mem _ g),fun h=>?_⟩;rcases zA.1 h with h|h
   ·exact absurd h a
   ·rw[b];exact d h
@[simp]theorem zi6:X6 prog 100=some (none,4):=by kernel_rfl
@[simp]theorem zhf:ew prog 4=some (qz false):=by kernel_rfl
theorem F2{Y:Hp}{id:Nat}{l:List za}(s:za)(h:Y id=some (xq l)):Qp prog Y 100 (.mp id) (str s) false=some (qz (decide (s∈l))):=by
 obtain⟨b,c⟩:=iP s l 0;by_cases a:s∈l
 ·obtain⟨j,d⟩:=c a;simp[Qp,oe,h,xq,XK,d,a]
 ·simp[Qp,oe,h,xq,XK,b a,a]
theorem NZ{Y:Hp}{id:Nat}{l:List za}(s:za)(h:Y id=some (xq l))(hs:s ∉ l):Q3 prog Y 100 (.mp id) (str s) (qz true)=some (qR Y id (some (xq (l++[s])))):=by obtain⟨a,b⟩:=iP s l 0;simp[Q3,h,xq,XK,a hs];simp[rv]
def QD(b:Bk)(m g:Nat)(a:Bool):kV:=⟨102,6,false,[b.V++[.mp m,.mp g,qz a]]⟩
theorem vd(b:Bk)(m g:Nat)(a:Bool):QD b m g a=⟨102,6,false,[[.sl 3 (b.zk.map wL.V),.sl 4 (b.holds.map vK.V),.sl 13 (b.zZ.map Xp.V),.mp m,.mp g,qz a]]⟩:=rfl
def yV(l:List za)(s:za):Int:=if YK s=true then(if s∈l then 7 else 0)else 3
def vg(l:List za)(s:za):List za:=if yV l s=0 then l++[s]else l
noncomputable abbrev L6:Ctx:=zQ prog [(148,zf false [] (FS YK))]
theorem zdg:Gd L6:=zph mixed ⟨CB,trivial⟩
theorem Xm:zg prog 100 (we L6 f100):=zpj zdg func100
theorem fB(b:Bk)(l:List za)(s:za)(hs:s.length<=zx)(i:Bool)(Y:Hp)(Z id m g:Nat)(j:Y id=some (QD b m g i))(f:Y m=some (xq l)) :
  we L6 f100 [.ref id 0 0,str s] Y Z=some (int (yV l s),qR Y m (some (xq (vg l s))),Z):=by
 unfold we;rw[zd (by simp[f100])];refine yu rfl ?_;rw[vd]at j;have h:=F2 s f;cases c:YK s
 ·have a:yV l s=3:=by simp[yV,c]
  have d:qR Y m (some (xq (vg l s)))=Y:=TT _ _ _ (by rw[vg,a];exact f);simp[hs,c,a,d,f100]
 ·by_cases e:s∈l
  ·have a:yV l s=7:=by simp[yV,c,e]
   have d:qR Y m (some (xq (vg l s)))=Y:=TT _ _ _ (by rw[vg,a];exact f);rw[y8 e]at h;simp[hs,c,a,d,j,h,f100]
  ·have a:yV l s=0:=by simp[yV,c,e]
   have d:vg l s=l++[s]:=by rw[vg,a];rfl
   have Y:=NZ s f e;rw[jm e]at h;simp[hs,c,a,d,j,h,Y,f100]
def vF(r:O)(l:List za)(m:Nat)(Y:Hp)(Z:Nat)(x:O)(a:Hp)(b:Nat):Prop:=x=r/\Z<=b/\a m=some (xq l)/\∀j,j<Z->j≠m->a j=Y j
def wq:za->List za->List wL->Int×List za
 |_,l,[]=>(0,l)
 |before,l,x::xs=>if y9 x.name before=0 then(if yV l x.qy=0 then(if jD x.rest 0 100000000=true then wq x.name (vg l x.qy) xs else(1,vg l x.qy))else(yV l x.qy,vg l x.qy))else(y9 x.name before,l)
noncomputable abbrev U8:Ctx:=zQ prog [(99,zf false [] (PY fun a b=>int (y9 a b))),(100,we L6 f100),(26,zf false [] (F3 jD))]
theorem zdh:Gd U8:=zph mixed ⟨Qu,Xm,Z9,trivial⟩
theorem fC:zg prog 54 (we U8 f54):=zpj zdh func54
theorem ry(b:Bk)(l:List za)(T:b.cb<=zx)(t:Bool)(y:Hp)(Z0 id m g:Nat)(hid:id<Z0)(W:m<Z0)(E:id≠m)(z:y id=some (QD b m g t))(F:y m=some (xq l)) :
  ∃x N P,we U8 f54 [.ref id 0 0] y Z0=some (x,N,P)/\vF (int (wq [] l b.zk).1) (wq [] l b.zk).2 m y Z0 x N P:=by
 unfold we;rw[zd (by simp[f54])];refine qw rfl ?_;have Q:=wa xw b.zk;have X:b.cb=yt wL.cb b.zk+yt vK.cb b.holds+yt Xp.cb b.zZ:=rfl;unfold zx at T;have R:=z;rw[vd]at R;simp[R];refine zI (fun k U Y Z=>U 0=.ref id 0 0/\U 12=.sl 3 (b.zk.map wL.V)/\U 13=int b.zk.length/\U 14=int k/\Z0<=Z/\(∀j,j<Z0->j≠m->Y j=y j)/\∃(c:za) (l':List za),U 3=str c/\Y m=some (xq l')/\wq [] l b.zk=wq c l' (b.zk.drop k)) b.zk.length
  ⟨by simp,by simp,by simp,by simp,zl _,fun _ _ _=>rfl,[],l,by simp,F,by simp⟩ ?_
 rintro k U Y Z hk ⟨A,n,o,p,G,h,c,l',C,H,e⟩;by_cases i:k<b.zk.length
 ·obtain⟨x,v⟩:=exI (b.zk[k]);have I:=yv (f:=wL.cb) (zj i);rw[v]at I;have hxc:x.cb=1+x.name.length+x.qy.length:=rfl;rw[zc i,v]at e;simp only[wq]at e;have hw:=zlL k;have q:=fun Y Z=>bH (fun a b=>int (y9 a b)) x.name c Y Z (by unfold zx;omega) (by simp)
  have S:¬m=Z:=by omega
  have ni:¬id=Z:=by omega
  have J:qR Y Z (some ⟨50,3,false,[x.V]⟩) id=some (QD b m g t):=by rw[zt _ _ _ _ ni,h id hid E];exact z
  have K:qR Y Z (some ⟨50,3,false,[x.V]⟩) m=some (xq l'):=by rw[zt _ _ _ _ S];exact H
  have r:=fB b l' x.qy (by unfold zx;omega) t _ (Z+1) id m g J K;simp only[wL.V]at r;have s:¬Z=m:=by omega
  by_cases w:y9 x.name c=0
  case neg=>rw[ze w]at e;have L:=nzT w;simp[A,C,n,o,p,i,v,wL.V,q,L,f54,vF,e];exact⟨by omega,by rw[zt _ _ _ _ S];exact H,fun j u d=>by rw[zt _ _ _ _ (by omega)];exact h j u d⟩
  rw[zd w]at e;by_cases B:yV l' x.qy=0
  case neg=>rw[ze B]at e;have M:=nzT B;simp[A,C,n,o,p,i,v,wL.V,q,w,r,M,f54,vF,e];exact⟨by omega,fun j u d=>by rw[zt _ _ _ _ d,zt _ _ _ _ (by omega)];exact h j u d⟩
  rw[zd B]at e;cases D:jD x.rest 0 100000000
  ·rw[D,ze (by simp)]at e;simp[A,C,n,o,p,i,v,wL.V,q,w,r,B,D,s,f54,vF,e];exact⟨by omega,fun j u d=>by rw[zt _ _ _ _ d,zt _ _ _ _ (by omega)];exact h j u d⟩
  ·rw[D,zd rfl]at e;simp[A,C,n,o,p,i,v,wL.V,q,w,r,B,D,s,hw];exact⟨by omega,by omega,fun j u d=>by rw[zt _ _ _ _ d,zt _ _ _ _ (by omega)];exact h j u d,vg l' x.qy,rfl,e⟩
 ·obtain rfl:k=b.zk.length:=by omega
  rw[zo]at e;simp only[wq]at e;simp[A,n,o,p,f54,vF,e];exact⟨G,H,h⟩
def leP(p:Option za)(s:za):Bool:=match p with
 |none=>false
 |some q=>K3 s q
noncomputable def Zl (L:List wL):Option za->List za->Int
 |_,[]=>0
 |p,s::l=>if(Zy (L.map wL.name) s).2=true then(if leP p s=true then 8 else Zl L (some s) l)else 9
noncomputable def fD (L:List wL) (x:vK):Int:=if jD x.buckets 1 100000=true then(if x.zk.length=0 then 9 else Zl L none x.zk)else 1
noncomputable def yn (L:List wL):za->List za->List vK->Int×List za
 |_,l,[]=>(0,l)
 |before,l,x::xs=>if y9 x.name before=0 then(if yV l x.qy=0 then(if fD L x=0 then yn L x.name (vg l x.qy) xs else(fD L x,vg l x.qy))else(yV l x.qy,vg l x.qy))else(y9 x.name before,l)
def QQ(l:List za)(k:Nat):Option za:=if k=0 then none else l[k-1]?
noncomputable abbrev U9:Ctx:=zQ prog [(99,zf false [] (PY fun a b=>int (y9 a b))),(100,we L6 f100),(26,zf false [] (F3 jD)),(45,zf false [] L0)]
theorem zdi:Gd U9:=zph mixed ⟨Qu,Xm,Z9,Vq,trivial⟩
theorem mo:zg prog 55 (we U9 f55):=zpj zdi func55
theorem Aw(b:Bk)(l:List za)(hb:b.cb<=zx)(I:Bool)(Q:Hp)(Z0 id m g:Nat)(hid:id<Z0)(hmd:m<Z0)(X:id≠m)(L:Q id=some (QD b m g I))(hm0:Q m=some (xq l)) :
  ∃x Y' Z',we U9 f55 [.ref id 0 0] Q Z0=some (x,Y',Z')/\vF (int (yn b.zk [] l b.holds).1) (yn b.zk [] l b.holds).2 m Q Z0 x Y' Z':=by
 unfold we;rw[zd (by simp[f55])];refine qw rfl ?_;have hlen:=wa Wl b.holds;have hleL:=wa xw b.zk;have S8:b.cb=yt wL.cb b.zk+yt vK.cb b.holds+yt Xp.cb b.zZ:=rfl;unfold zx at hb;have hc:=L;rw[vd]at hc;simp[hc];refine zI (fun k U Y Z=>U 0=.ref id 0 0/\U 16=.sl 4 (b.holds.map vK.V)/\U 17=int b.holds.length/\U 18=int k/\Z0<=Z/\(∀j,j<Z0->j≠m->Y j=Q j)/\∃(d:za) (l':List za),U 3=str d/\Y m=some (xq l')/\yn b.zk [] l b.holds=yn b.zk d l' (b.holds.drop k)) b.holds.length
  ⟨by simp,by simp,by simp,by simp,zl _,fun _ _ _=>rfl,[],l,by simp,hm0,by simp⟩ ?_
 rintro k U Y Z hk ⟨y,e,n,o,hnx,c,d,l',R,H,r⟩;by_cases v:k<b.holds.length
 ·obtain⟨x,M⟩:=exI (b.holds[k]);have hmx:=yv (f:=vK.cb) (zj v);rw[M]at hmx;have hxc:x.cb=1+x.name.length+x.qy.length+yt (fun s=>1+s.length) x.zk:=rfl;have Nh:=wa (f:=fun s:List UInt8=>1+s.length) (fun _=>by omega) x.zk;rw[zc v,M]at r;simp only[yn]at r;have hw:=zlL k;have B:=fun Y Z=>bH (fun a b=>int (y9 a b)) x.name d Y Z (by unfold zx;omega) (by simp)
  have nm:¬m=Z:=by omega
  have ni:¬id=Z:=by omega
  have t:qR Y Z (some ⟨90,4,false,[x.V]⟩) id=some (QD b m g I):=by rw[zt _ _ _ _ ni,c id hid X];exact L
  have hmi:qR Y Z (some ⟨90,4,false,[x.V]⟩) m=some (xq l'):=by rw[zt _ _ _ _ nm];exact H
  have C:=fB b l' x.qy (by unfold zx;omega) I _ (Z+1) id m g t hmi;simp only[vK.V]at C;have z:¬Z=m:=by omega
  by_cases N:y9 x.name d=0
  case neg=>rw[ze N]at r;have Nl:=nzT N;simp[y,R,e,n,o,v,M,vK.V,B,Nl,f55,vF,r];exact⟨by omega,by rw[zt _ _ _ _ nm];exact H,fun j A p=>by rw[zt _ _ _ _ (by omega)];exact c j A p⟩
  rw[zd N]at r;by_cases S:yV l' x.qy=0
  case neg=>rw[ze S]at r;have c2':=nzT S;simp[y,R,e,n,o,v,M,vK.V,B,N,C,c2',f55,vF,r];exact⟨by omega,fun j A p=>by rw[zt _ _ _ _ p,zt _ _ _ _ (by omega)];exact c j A p⟩
  rw[zd S]at r;cases T:jD x.buckets 1 100000
  ·have hf:fD b.zk x=1:=by unfold fD;rw[T,ze (by simp)]
   rw[hf,ze (by decide)]at r;simp[y,R,e,n,o,v,M,vK.V,B,N,C,S,T,z,f55,vF,r];exact⟨by omega,fun j A p=>by rw[zt _ _ _ _ p,zt _ _ _ _ (by omega)];exact c j A p⟩
  by_cases c4:x.zk.length=0
  ·have hf:fD b.zk x=9:=by unfold fD;rw[T,zd rfl,zd c4]
   rw[hf,ze (by decide)]at r;have u:(zJ x.zk).length=0:=by simpa[zJ]using c4
   simp[y,R,e,n,o,v,M,vK.V,u,B,N,C,S,T,z,f55,vF,r];exact⟨by omega,fun j A p=>by rw[zt _ _ _ _ p,zt _ _ _ _ (by omega)];exact c j A p⟩
  have hf:fD b.zk x=Zl b.zk none x.zk:=by unfold fD;rw[T,zd rfl,ze c4]
  rw[hf]at r;have c4':((x.zk.length:Int)==0)=false:=by rw[ya];omega
  have u:(zJ x.zk).length=x.zk.length:=by simp[zJ]
  simp[y,R,e,n,o,v,M,vK.V,u,B,N,C,S,T,c4',z];obtain⟨P,hP⟩:=exI Z;rw[hP];refine zI (fun i U Y Z=>U 0=.ref id 0 0/\U 16=.sl 4 (b.holds.map vK.V)/\U 17=int b.holds.length/\U 18=int k/\U 5=.ref P 0 0/\U 47=.sl 1 (zJ x.zk)/\U 48=int x.zk.length/\U 49=int i/\Z0<=P/\P<Z/\Y P=some ⟨90,4,false,[x.V]⟩/\(∀j,j<Z0->j≠m->Y j=Q j)/\Y m=some (xq (vg l' x.qy))/\Zl b.zk none x.zk=Zl b.zk (QQ x.zk i) (x.zk.drop i)) x.zk.length
   ⟨by simp[y],by simp[e],by simp[n],by simp[o],by simp,by simp,by simp,by simp,by omega,(by show P<P+1;omega),by simp[vK.V,show¬P=m by omega],fun j A p=>by simp only;rw[zt _ _ _ _ p,zt _ _ _ _ (by omega)];exact c j A p,by simp,by simp[QQ]⟩ ?_
  clear y R e n o hnx c H C t hmi B nm ni z hP U Y Z;rintro i U Y Z hi ⟨y,e,n,o,h5,E,F,G,hP,SS,D,c,H,w⟩;have t:Y id=some (QD b m g I):=by rw[c id hid X];exact L
  rw[vd]at t;by_cases q:i<x.zk.length
  ·obtain⟨s,hs⟩:=exI (x.zk[i]);have hms:=yv (f:=fun s:List UInt8=>1+s.length) (zj q);rw[hs]at hms;have hpn:QQ x.zk (i+1)=some s:=by simp[QQ,q,hs]
   rw[zc q,hs]at w;simp only[Zl]at w;have J:∀h:i<(zJ x.zk).length,(zJ x.zk)[i]=[str s]:=fun h=>by simp[zJ,hs]
   have K:=fun Y Z=>Vp b.zk s Y Z (by unfold zx;omega)
   have hwi:=zlL i;have u:i<(zJ x.zk).length:=by simp[zJ,q]
   cases W:(Zy (b.zk.map wL.name) s).2
   ·rw[W,ze (by simp)]at w;rw[w,ze (by decide)]at r;simp[y,h5,e,n,o,E,F,G,q,u,J,t,K,W,r,f55,vF];exact⟨by omega,H,c⟩
   rw[W,zd rfl]at w;by_cases k0:i=0
   ·subst k0;rw[show leP (QQ x.zk 0) s=false from rfl,ze (by simp)]at w;simp[y,h5,e,n,o,E,F,G,q,u,J,t,K,W,hwi];exact⟨by omega,hP,SS,D,c,H,by rw[w,show QQ x.zk 1=some s from hpn];simp⟩
   ·obtain⟨j,rfl⟩:∃j,i=j+1:=⟨i-1,by omega⟩;have A:j<x.zk.length:=by omega
    have hej:j<(zJ x.zk).length:=by simp[zJ,A]
    have hkj:∀h:j<(zJ x.zk).length,(zJ x.zk)[j]=[str x.zk[j]]:=fun h=>by simp[zJ]
    have wj:IntKind.i64.wrap ((j:Int)+1-1)=(j:Int):=by rw[zi (by omega) (by omega)];omega
    have wj':=zpg (j:Int);have wk:=zpg ((j:Int)+1+1);have j1:((j:Int)+1).toNat=j+1:=by omega
    have j2:0<(j:Int)+1:=by omega
    have j3:0<=(j:Int)+1:=by omega
    have j4:(j:Int)+1<x.zk.length:=by omega
    have hlp:leP (QQ x.zk (j+1)) s=K3 s x.zk[j]:=by simp[QQ,A,leP]
    rw[hlp]at w;have hle:(Op.bytesLess s x.zk[j]||s==x.zk[j])=K3 s x.zk[j]:=rfl;rw[vK.V]at D;cases d2:K3 s x.zk[j]
    ·rw[d2,ze (by simp)]at w;simp[y,h5,e,n,o,E,F,G,q,u,J,t,K,W,wj,wj',wk,j1,j2,j3,j4,D,hej,hkj,hle,d2,A];exact⟨by omega,hP,SS,rfl,c,H,by rw[w,hpn]⟩
    ·rw[d2,zd rfl]at w;rw[w,ze (by decide)]at r;simp[y,h5,e,n,o,E,F,G,q,u,J,t,K,W,wj,wj',wk,j1,j2,j3,j4,D,hej,hkj,hle,d2,A,r,f55,vF];exact⟨by omega,H,c⟩
  ·obtain rfl:i=x.zk.length:=by omega
   rw[zo]at w;simp only[Zl]at w;rw[w,zd rfl]at r;have hnP:¬P=m:=by omega
   rw[vK.V]at D;simp[y,h5,e,n,o,E,F,G,D,hw];exact⟨by omega,by omega,c,_,H,r⟩
 ·obtain rfl:k=b.holds.length:=by omega
  rw[zo]at r;simp only[yn]at r;simp[y,e,n,o,f55,vF,r];exact⟨hnx,H,c⟩
noncomputable abbrev Cnam:Ctx:=zQ prog []
theorem zdj:AM.Good Cnam (fun g=>[64].contains g):=zw mixed trivial
theorem F4:zg prog 101 (we Cnam f101):=zpj zdj func101
theorem P2(b:Bk)(c:qO)(Y:Hp)(Z id m g:Nat)(hid:id<Z)(a:Y id=some (QD b m g true)) :
  ∃d,we Cnam f101 [.ref id 0 0,.agg c.V] Y Z=some (qz true,d,Z+2)/\∀j,j<Z->d j=Y j:=by
 unfold we;rw[zd (by simp[f101])];refine⟨qR (qR Y Z (some ⟨54,1,false,[[.ref id 0 0]]⟩)) (Z+1) (some ⟨70,7,false,[c.V]⟩),?_,fun j f=>by rw[zt _ _ _ _ (by omega),zt _ _ _ _ (by omega)]⟩;refine yu rfl ?_;rw[vd]at a;have n1:¬id=Z:=by omega
 have e:¬id=Z+1:=by omega
 simp[qY,a,n1,e,f101]
noncomputable def Z3 (L:List wL) (a:za) (l:List za) (x:Xp):Int×List za:=
 if y9 x.name a=0 then(if(Zy (L.map wL.name) x.wE).2=true then(if wb x.flag=true then(if x.cond.check=0 then(if yV l x.qy=0 then(if wW x.xR 20=0 then(yY x.zN,vg l x.qy)else(wW x.xR 20,vg l x.qy))else(yV l x.qy,vg l x.qy))else(x.cond.check,l))else(5,l))else(9,l))else(y9 x.name a,l)
noncomputable abbrev Cexp:Ctx:=zQ prog [(99,zf false [] (PY fun a b=>int (y9 a b))),(45,zf false [] L0),(27,zf false [] (FS wb)),(95,GC fun c=>int c.check),(101,we Cnam f101),(100,we L6 f100),(102,zf false [] (LY (fun l n=>int (wW l n)) fun _ n=>1<=n/\n<=20)),(103,zf false [] (FPh fun l=>int (yY l)))]
theorem zdk:AM.Good Cexp (fun g=>[45].contains g):=zw mixed ⟨Qu,by simp,Vq,fun _=>zu _ _,xW,by simp,Xh,by simp,F4,by simp,Xm,by simp,Kv,by simp,fA,by simp,trivial⟩
theorem iQ:zg prog 56 (we Cexp f56):=zpj zdk func56
theorem rz(b:Bk)(l:List za)(d:za)(x:Xp)(hb:b.cb<=zx)(K:x.cb<=zx)(F:Hp)(Z0 id m g:Nat)(hid:id<Z0)(hmd:m<Z0)(hne:id≠m)(B:F id=some (QD b m g true))(p:F m=some (xq l)) :
  ∃T W X,we Cexp f56 [.ref id 0 0,.agg x.V,str d] F Z0=some (T,W,X)/\vF (int (Z3 b.zk d l x).1) (Z3 b.zk d l x).2 m F Z0 T W X:=by
 unfold we;rw[zd (by simp[f56])];refine qw rfl ?_;have hleL:=wa xw b.zk;have S8:b.cb=yt wL.cb b.zk+yt vK.cb b.holds+yt Xp.cb b.zZ:=rfl;have hxc:x.cb=x.name.length+x.wE.length+x.flag.length+x.cond.cb+x.qy.length+x.xR.length+yt yM.cb x.zN:=rfl;unfold zx at hb K;have H:¬m=Z0:=by omega
 have y:¬id=Z0:=by omega
 have f:=fun Y Z=>bH (fun a b=>int (y9 a b)) x.name d Y Z (by unfold zx;omega) (by simp)
 have i:=fun Y Z=>Vp b.zk x.wE Y Z (by unfold zx;omega)
 have q:x.flag.length<=zx:=by unfold zx;omega
 have r:=fun Y Z=>xX (fun c=>int c.check) x.cond Y Z (by unfold zx;omega)
 have I:=fun Y Z=>YJ (fun l n=>int (wW l n)) (fun _ n=>1<=n/\n<=20) x.xR 20 Y Z ⟨by omega,by omega⟩
 have L:=fun Y Z=>fy (fun l=>int (yY l)) x.zN Y Z (by unfold zx;omega)
 obtain⟨Y1,s,v⟩:=P2 b x.cond (qR F Z0 (some ⟨74,13,false,[x.V]⟩)) (Z0+1) id m g (by omega) (by rw[zt _ _ _ _ y];exact B);have M:Y1 id=some (QD b m g true):=by rw[v id (by omega),zt _ _ _ _ y];exact B
 have N:Y1 m=some (xq l):=by rw[v m (by omega),zt _ _ _ _ H];exact p
 have w:Y1 Z0=some ⟨74,13,false,[x.V]⟩:=by rw[v Z0 (by omega)];simp
 have C:∀j,j<Z0->Y1 j=F j:=fun j t=>by rw[v j (by omega),zt _ _ _ _ (by omega)]
 have D:=fB b l x.qy (by unfold zx;omega) true Y1 (Z0+1+2) id m g M N;have z:¬Z0=m:=by omega
 have E:=B;rw[vd]at E;rw[qD]at s w;rw[qY]at s;simp only[qY]at r;rw[qD];by_cases h:y9 x.name d=0
 case neg=>
  have k:Z3 b.zk d l x=(y9 x.name d,l):=by unfold Z3;rw[ze h]
  have P:=nzT h;simp[f,P,k,f56,vF];exact⟨by rw[zt _ _ _ _ H];exact p,fun j t e=>by rw[zt _ _ _ _ (by omega)]⟩
 cases o:(Zy (b.zk.map wL.name) x.wE).2
 ·have k:Z3 b.zk d l x=(9,l):=by unfold Z3;rw[zd h,o,ze (by simp)]
  simp[f,h,y,E,i,o,k,f56,vF];exact⟨by rw[zt _ _ _ _ H];exact p,fun j t e=>by rw[zt _ _ _ _ (by omega)]⟩
 cases u:wb x.flag
 ·have k:Z3 b.zk d l x=(5,l):=by unfold Z3;rw[zd h,o,zd rfl,u,ze (by simp)]
  simp[f,h,y,E,i,o,q,u,k,f56,vF];exact⟨by rw[zt _ _ _ _ H];exact p,fun j t e=>by rw[zt _ _ _ _ (by omega)]⟩
 by_cases A:x.cond.check=0
 case neg=>
  have k:Z3 b.zk d l x=(x.cond.check,l):=by unfold Z3;rw[zd h,o,zd rfl,u,zd rfl,ze A]
  have Q:=nzT A;simp[f,h,y,E,i,o,q,u,r,Q,k,f56,vF];exact⟨by rw[zt _ _ _ _ H];exact p,fun j t e=>by rw[zt _ _ _ _ (by omega)]⟩
 by_cases G:yV l x.qy=0
 case neg=>
  have k:Z3 b.zk d l x=(yV l x.qy,vg l x.qy):=by unfold Z3;rw[zd h,o,zd rfl,u,zd rfl,zd A,ze G]
  have R:=nzT G;simp[f,h,y,E,i,o,q,u,r,A,s,w,D,R,k,f56,vF];exact⟨by omega,fun j t e=>by rw[zt _ _ _ _ e];exact C j t⟩
 by_cases J:wW x.xR 20=0
 case neg=>
  have k:Z3 b.zk d l x=(wW x.xR 20,vg l x.qy):=by unfold Z3;rw[zd h,o,zd rfl,u,zd rfl,zd A,zd G,ze J]
  have S:=nzT J;simp[f,h,y,E,i,o,q,u,r,A,s,w,z,D,G,I,S,k,f56,vF];exact⟨by omega,fun j t e=>by rw[zt _ _ _ _ e];exact C j t⟩
 ·have k:Z3 b.zk d l x=(yY x.zN,vg l x.qy):=by unfold Z3;rw[zd h,o,zd rfl,u,zd rfl,zd A,zd G,zd J]
  simp[f,h,y,E,i,o,q,u,r,A,s,w,z,D,G,I,J,L,k,f56,vF];exact⟨by omega,fun j t e=>by rw[zt _ _ _ _ e];exact C j t⟩
def ZJ(x:Xp):kV:=⟨74,13,false,[x.V]⟩
def P3(n:Int):kV:=⟨3,1,false,[[int n]]⟩
def fE(x:Xp)(a:Int)(y:Xp):Bool:=decide (y.wE=x.wE)&&KR x y a
noncomputable abbrev Ccl1:Ctx:=zQ prog [(106,zf false [] L4)]
theorem zdl:AM.Good Ccl1 (fun g=>[106].contains g):=zw mixed ⟨F1,fun _=>zu _ _,trivial⟩
theorem L7:zg prog 105 (we Ccl1 f105):=zpj zdl func105
theorem zaa(x y:Xp)(rest:Int)(i:x.um)(j:y.um)(g:0<=rest/\rest<=100000000)(Y:Hp)(Z b c:Nat)(k:b<Z)(l:c<Z)(bx:Y b=some (ZJ x))(e:Y c=some (P3 rest)) :
  we Ccl1 f105 [.agg y.V,.ref b 0 0,.ref c 0 0] Y Z=some (qz (fE x rest y),qR Y Z (some (ZJ y)),Z+1):=by
 unfold we;rw[zd (by simp[f105])];refine yu rfl ?_;have n1:¬b=Z:=by omega
 have h:¬c=Z:=by omega
 have a:=fun Y Z=>FW x y rest Y Z ⟨i,j,g.1,g.2⟩
 rw[ZJ,qD]at bx;rw[P3]at e;simp only[qD]at a;by_cases d:y.wE=x.wE
 ·have hd:(y.wE==x.wE)=true:=by simpa using d
  have f:fE x rest y=KR x y rest:=by simp[fE,d]
  simp[qD,ZJ,n1,h,bx,e,hd,a,f,f105]
 ·have hd:=eqF0 d;have f:fE x rest y=false:=by simp[fE,d]
  simp[qD,ZJ,n1,h,bx,e,hd,f,f105]
def iR(x:Xp)(a:Int):Nat->List Xp->Int
 |_,[]=>-1
 |k,y::l=>if fE x a y=true then k else iR x a (k+1) l
theorem F5(x:Xp)(a:Int):∀(l:List Xp) (k:Nat),decide (0<=iR x a k l)=l.any (fE x a)
 |[],k=>by simp[iR]
 |s::l,k=>by
  by_cases h:fE x a s=true
  ·have e:iR x a k (s::l)=k:=by simp only[iR,zd h]
   rw[e,wN,h];simp
  ·have e:iR x a k (s::l)=iR x a (k+1) l:=by simp only[iR,ze h]
   rw[e,F5 x a l (k+1),wN,gA.2 h];rfl
noncomputable abbrev Cxix:Ctx:=zQ prog [(105,we Ccl1 f105)]
theorem zdm:Gd Cxix:=zph mixed ⟨L7,trivial⟩
theorem P4:zg prog 153 (we Cxix f153):=zpj zdm func153
def fnX(a b:Nat):O:=.fn (.func 105) [] [.ref a 0 0,.ref b 0 0]
def Ax(r:O)(Y:Hp)(Z:Nat)(x:O)(a:Hp)(b:Nat):Prop:=x=r/\Z<=b/\∀j,j<Z->a j=Y j
theorem zdn(l:List Xp)(x:Xp)(a:Int)(A:l.length<=zx)(hs:∀s∈l,s.um)(B:x.um)(C:0<=a/\a<=100000000)(h:Hp)(Z0 f g:Nat)(m:f<Z0)(n:g<Z0)(bx:h f=some (ZJ x))(D:h g=some (P3 a)) :
  ∃v w y,we Cxix f153 [.sl 13 (l.map Xp.V),fnX f g] h Z0=some (v,w,y)/\Ax (int (iR x a 0 l)) h Z0 v w y:=by
 unfold we;rw[zd (by simp[f153])];refine qw rfl ?_;unfold zx at A;simp[fnX];refine zI (fun k U Y Z=>U 0=.sl 13 (l.map Xp.V)/\U 1=fnX f g/\U 7=int l.length/\U 8=int k/\Z0<=Z/\(∀j,j<Z0->Y j=h j)/\iR x a 0 l=iR x a k (l.drop k)) l.length ⟨by simp,by simp[fnX],by simp,by simp,zl _,fun _ _=>rfl,by simp⟩ ?_;rintro k U Y Z E ⟨o,p,q,r,t,c,e⟩;by_cases d:k<l.length
 ·have z:=zlL k;have b:=zaa x l[k] a B (hs _ (zj d)) C Y Z f g (by omega) (by omega) (by rw[c f m];exact bx) (by rw[c g n];exact D);simp only[qD]at b;rw[zc d]at e;simp only[iR]at e;cases i:fE x a l[k]
  ·rw[i,ze (by simp)]at e;rw[i]at b;simp[o,p,q,r,fnX,d,qD,b,z];exact⟨d,by omega,fun j u=>by rw[zt _ _ _ _ (by omega)];exact c j u,e⟩
  ·rw[i,zd rfl]at e;rw[i]at b;simp[o,p,q,r,fnX,d,qD,b,z,f153];exact⟨by rw[e],by omega,fun j u=>by rw[zt _ _ _ _ (by omega)];exact c j u⟩
 ·obtain rfl:k=l.length:=by omega
  rw[zo]at e;simp only[iR]at e;simp[o,p,q,r,f153];exact⟨by rw[e],t,c⟩
noncomputable abbrev Cxtn:Ctx:=zQ prog [(153,we Cxix f153)]
theorem zdo:Gd Cxtn:=zph mixed ⟨P4,trivial⟩
theorem P5:zg prog 104 (we Cxtn f104):=zpj zdo func104
theorem zdp(l:List Xp)(x:Xp)(a:Int)(k:l.length<=zx)(hs:∀s∈l,s.um)(m:x.um)(n:0<=a/\a<=100000000)(b:Hp)(Z0 c d:Nat)(e:c<Z0)(f:d<Z0)(bx:b c=some (ZJ x))(o:b d=some (P3 a)) :
  ∃g h i,we Cxtn f104 [.sl 13 (l.map Xp.V),fnX c d] b Z0=some (g,h,i)/\Ax (qz (l.any (fE x a))) b Z0 g h i:=by
 unfold we;rw[zd (by simp[f104])];refine qw rfl ?_;obtain⟨g,h,i,j,p,q,r⟩:=zdn l x a k hs m n b Z0 c d e f bx o;subst p;have t:=F5 x a l 0;simp only[fnX]at j;simp[fnX,j,t,Ax,q,f104];exact r
theorem slX(Y:Hp)(l:List Xp)(k:Nat)(h:k<=l.length):jO prog Y 25 (.sl 13 (l.map Xp.V)) none (some (some (int k)))=some (.sl 13 ((l.take k).map Xp.V)):=by simp[jO,h]
noncomputable def W4 (L:List wL) (s:za):Int:=match L[(Zy (L.map wL.name) s).1]? with
 |some y=>y.rest
 |none=>0
noncomputable def Wm (L:List wL) (a:List Xp):Nat->List Xp->Bool
 |_,[]=>false
 |i,x::l=>(a.take i).any (fE x (W4 L x.wE))||Wm L a (i+1) l
noncomputable abbrev Ccls:Ctx:=zQ prog [(45,zf false [] L0),(104,we Cxtn f104)]
theorem zdq:AM.Good Ccls (fun g=>[45].contains g):=zw mixed ⟨Vq,fun _=>zu _ _,P5,by simp,trivial⟩
theorem cN:zg prog 57 (we Ccls f57):=zpj zdq func57
theorem mq(b:Bk)(X:b.cb<=zx)(hs:∀x∈b.zZ,x.um/\(Zy (b.zk.map wL.name) x.wE).2=true)(hr:∀y∈b.zk,0<=y.rest/\y.rest<=100000000)(r:Bool)(t:Hp)(Z0 id m g:Nat)(hid:id<Z0)(u:t id=some (QD b m g r)) :
  ∃H C I,we Ccls f57 [.ref id 0 0] t Z0=some (H,C,I)/\Ax (qz (Wm b.zk b.zZ 0 b.zZ)) t Z0 H C I:=by
 unfold we;rw[zd (by simp[f57])];refine qw rfl ?_;have Q:=wa aJ b.zZ;have R:=wa xw b.zk;have S8:b.cb=yt wL.cb b.zk+yt vK.cb b.holds+yt Xp.cb b.zZ:=rfl;unfold zx at X;have S:=u;rw[vd]at S;simp[S];refine zI (fun k U Y Z=>U 0=.ref id 0 0/\U 12=.sl 13 (b.zZ.map Xp.V)/\U 13=int b.zZ.length/\U 14=int k/\Z0<=Z/\(∀j,j<Z0->Y j=t j)/\Wm b.zk b.zZ 0 b.zZ=Wm b.zk b.zZ k (b.zZ.drop k)) b.zZ.length
  ⟨by simp,by simp,by simp,by simp,zl _,fun _ _=>rfl,by simp⟩ ?_
 rintro k U Y Z hk ⟨J,h,i,l,K,n,a⟩;by_cases c:k<b.zZ.length
 ·obtain⟨x,D⟩:=exI (b.zZ[k]);have v:x∈b.zZ:=by rw[<-D];exact zj c
  obtain⟨L,M⟩:=hs x v;have hmx:=yv (f:=Xp.cb) v;have hxc:x.cb=x.name.length+x.wE.length+x.flag.length+x.cond.cb+x.qy.length+x.xR.length+yt yM.cb x.zN:=rfl;rw[zc c,D]at a;simp only[Wm]at a;have T:=zlL k;have w:=fun Y Z=>Vp b.zk x.wE Y Z (by unfold zx;omega)
  obtain⟨q,E⟩:=exI ((Zy (b.zk.map wL.name) x.wE).1);have d:q<b.zk.length:=by have:=UX M;rw[E]at this;simpa using this
  obtain⟨y,F⟩:=exI (b.zk[q]);have N:=hr y (by rw[<-F];exact zj d);have o:W4 b.zk x.wE=y.rest:=by unfold W4;rw[E,zq d,F]
  rw[o]at a;have W:¬id=Z:=by omega
  have z:¬id=Z+1:=by omega
  have p:Y id=some (QD b m g r):=by rw[n id hid];exact u
  rw[vd]at p;obtain⟨H,C,I,A,h2,h3,h4⟩:=zdp (b.zZ.take k) x y.rest (by unfold zx;simp;omega) (fun s P=>(hs s (vx P)).1) L N (qR (qR Y Z (some (ZJ x))) (Z+1) (some (P3 y.rest))) (Z+1+1) Z (Z+1) (by omega) (by omega) (by rw[zt _ _ _ _ (by omega)];simp) (by simp);subst h2;simp only[fnX,ZJ,P3,qD,List.map_take]at A;have e:∀j,j<Z0->C j=t j:=fun j hj=>by rw[h4 j (by omega),zt _ _ _ _ (by omega),zt _ _ _ _ (by omega)];exact n j hj
  have B:=fun Y=>slX Y b.zZ k (by omega)
  cases G:(b.zZ.take k).any (fE x y.rest)
  ·rw[G,ye]at a;rw[G]at A;simp[J,h,i,l,c,D,qD,W,z,p,w,E,d,F,wL.V,B,A,T];exact⟨by omega,by omega,e,a⟩
  ·rw[G,Wu]at a;rw[G]at A;simp[J,h,i,l,c,D,qD,W,z,p,w,E,d,F,wL.V,B,A,T,f57,Ax,a];exact⟨by omega,e⟩
 ·obtain rfl:k=b.zZ.length:=by omega
  rw[zo]at a;simp only[Wm]at a;simp[J,h,i,l,f57,Ax,a];exact⟨K,n⟩
noncomputable def Zt (L:List wL):za->List za->List Xp->Int×List za
 |_,l,[]=>(0,l)
 |before,l,x::xs=>if(Z3 L before l x).1=0 then Zt L x.name (Z3 L before l x).2 xs else Z3 L before l x
noncomputable def w5 (b:Bk):Int:=
 if(20:Int)<b.zk.length\/(10:Int)<b.holds.length\/(100:Int)<b.zZ.length then 2
 else if(wq [] [] b.zk).1=0 then
  (if(yn b.zk [] (wq [] [] b.zk).2 b.holds).1=0 then
   (if(Zt b.zk [] (yn b.zk [] (wq [] [] b.zk).2 b.holds).2 b.zZ).1=0 then(if Wm b.zk b.zZ 0 b.zZ=true then 13 else 0)
    else(Zt b.zk [] (yn b.zk [] (wq [] [] b.zk).2 b.holds).2 b.zZ).1)
   else(yn b.zk [] (wq [] [] b.zk).2 b.holds).1)
 else(wq [] [] b.zk).1
theorem N0(n lo hi:Int):jD n lo hi=true↔lo<=n/\n<=hi:=by simp[jD]
theorem W5:∀{xs:List wL} {a:za} {l:List za},(wq a l xs).1=0->∀y∈xs,0<=y.rest/\y.rest<=100000000
 |[],_,_,_,y,b=>by simp at b
 |x::xs,a,l,h,y,b=>by
  simp only[wq]at h;split at h
  ·split at h
   ·split at h
    ·rename_i d;rcases zA.1 b with rfl|b
     ·exact(N0 _ _ _).1 d
     ·exact W5 h y b
    ·exact absurd h (by simp)
   ·rename_i c;exact absurd h c
  ·rename_i c;exact absurd h c
theorem zab:∀{xs:List yM} {p:Option Int} {b:List Sp},L1 p b xs=0->Xl xs
 |[],_,_,_,y,a=>by simp at a
 |x::xs,p,b,h,y,a=>by
  simp only[L1]at h;split at h
  ·rename_i d;split at h
   ·exact absurd h (by simp)
   ·split at h
    ·split at h
     ·exact absurd h (by simp)
     ·rcases zA.1 a with rfl|a
      ·exact(N0 _ _ _).1 d
      ·exact zab h y a
    ·rename_i c;exact absurd h c
  ·exact absurd h (by simp)
theorem W6{l:List yM}(h:yY l=0):Xl l:=by
 unfold yY at h;split at h
 ·exact absurd h (by simp)
 ·exact zab h
theorem fF{L:List wL}{a:za}{l:List za}{x:Xp}(h:(Z3 L a l x).1=0):yY x.zN=0/\(Zy (L.map wL.name) x.wE).2=true/\wW x.xR 20=0/\x.cond.check=0/\y9 x.name a=0:=by
 unfold Z3 at h;split at h
 ·rename_i b;split at h
  ·rename_i d;split at h
   ·split at h
    ·rename_i e;split at h
     ·split at h
      ·rename_i f;exact⟨h,d,f,e,b⟩
      ·rename_i c;exact absurd h c
     ·rename_i c;exact absurd h c
    ·rename_i c;exact absurd h c
   ·exact absurd h (by simp)
  ·exact absurd h (by simp)
 ·rename_i c;exact absurd h c
theorem bJ{L:List wL}:∀{xs:List Xp} {a:za} {l:List za},(Zt L a l xs).1=0->∀y∈xs,yY y.zN=0/\(Zy (L.map wL.name) y.wE).2=true
 |[],_,_,_,y,b=>by simp at b
 |x::xs,a,l,h,y,b=>by
  simp only[Zt]at h;split at h
  ·rename_i c;rcases zA.1 b with rfl|b
   ·exact⟨(fF c).1,(fF c).2.1⟩
   ·exact bJ h y b
  ·rename_i c;exact absurd h c
noncomputable abbrev Cchk:Ctx:=zQ prog [(54,we U8 f54),(55,we U9 f55),(56,we Cexp f56),(57,we Ccls f57)]
theorem zdr:Gd Cchk:=zph mixed ⟨fC,mo,iQ,cN,trivial⟩
theorem tC:zg prog 25 (we Cchk f25):=zpj zdr func25
theorem P6(b:Bk)(hb:b.cb<=zx)(P:Hp)(Z0 id m g:Nat)(hid:id<Z0)(W:m<Z0)(d:id≠m)(u:P id=some (QD b m g true))(X:P m=some (xq [])) :
  ∃x1 Y' Z',we Cchk f25 [.ref id 0 0] P Z0=some (x1,Y',Z')/\x1=int (w5 b):=by
 unfold we;rw[zd (by simp[f25])];refine qw rfl ?_;have hlen:=wa aJ b.zZ;have hleL:=wa xw b.zk;have hleH:=wa Wl b.holds;have S8:b.cb=yt wL.cb b.zk+yt vK.cb b.holds+yt Xp.cb b.zZ:=rfl;have l:=hb;unfold zx at hb;obtain⟨x1,Y1,nx1,H,rfl,l3,l4,l5⟩:=ry b [] l true P Z0 id m g hid W d u X;have v:Y1 id=some (QD b m g true):=by rw[l5 id hid d];exact u
 obtain⟨I,w⟩:∃e,wq [] [] b.zk=e:=⟨_,rfl⟩;rw[w]at H l4;obtain⟨x2,Y2,OD,Q,rfl,g3,g4,g5⟩:=Aw b I.2 l true Y1 nx1 id m g (by omega) (by omega) d v l4;have y:Y2 id=some (QD b m g true):=by rw[g5 id (by omega) d];exact v
 obtain⟨E,J⟩:∃e,yn b.zk [] I.2 b.holds=e:=⟨_,rfl⟩;rw[J]at Q g4;obtain⟨e3,z⟩:∃e,Zt b.zk [] E.2 b.zZ=e:=⟨_,rfl⟩;have s:=u;rw[vd]at s;have i:=y;rw[vd]at i;by_cases A:(20:Int)<b.zk.length
 ·have h:w5 b=2:=by unfold w5;rw[zd (.inl A)]
  simp[s,A,h,f25]
 by_cases F:(10:Int)<b.holds.length
 ·have h:w5 b=2:=by unfold w5;rw[zd (.inr (.inl F))]
  simp[s,A,F,h,f25]
 by_cases K:(100:Int)<b.zZ.length
 ·have h:w5 b=2:=by unfold w5;rw[zd (.inr (.inr K))]
  simp[s,A,F,K,h,f25]
 have c:w5 b=if I.1=0 then(if E.1=0 then(if e3.1=0 then(if Wm b.zk b.zZ 0 b.zZ=true then 13 else 0)else e3.1)else E.1)else I.1:=by unfold w5;rw[ze (by omega),w,J,z]
 by_cases G:I.1=0
 case neg=>rw[ze G]at c;have Nl:=nzT G;simp[s,A,F,K,H,Nl,c,f25]
 rw[zd G]at c;by_cases R:E.1=0
 case neg=>rw[ze R]at c;have c2':=nzT R;simp[s,A,F,K,H,G,Q,c2',c,f25]
 rw[zd R]at c;simp[s,A,F,K,H,G,Q,R,i];refine zI (fun k U Y Z=>U 0=.ref id 0 0/\U 48=.sl 13 (b.zZ.map Xp.V)/\U 49=int b.zZ.length/\U 50=int k/\Z0<=Z/\Y id=some (QD b m g true)/\∃(a:za) (l':List za),U 5=str a/\Y m=some (xq l')/\e3=Zt b.zk a l' (b.zZ.drop k)) b.zZ.length
  ⟨by simp,by simp,by simp,by simp,by simp;omega,y,[],E.2,by simp,g4,by simp[z]⟩ ?_
 clear H l3 l4 l5 v Q g3 g4 g5 y i s;rintro k U Y Z hk ⟨S,n,o,p,hnx,B,a,l',h5,hm,j⟩;by_cases q:k<b.zZ.length
 ·obtain⟨x,T⟩:=exI (b.zZ[k]);have hmx:=yv (f:=Xp.cb) (zj q);rw[T]at hmx;have nm:¬m=Z:=by omega
  have ni:¬id=Z:=by omega
  have hw:=zlL k;rw[zc q,T]at j;simp only[Zt]at j;obtain⟨x3,C,nx3,t,rfl,q3,q4,q5⟩:=rz b l' a x l (by unfold zx;omega) (qR Y Z (some (ZJ x))) (Z+1) id m g (by omega) (by omega) d (by rw[zt _ _ _ _ ni];exact B) (by rw[zt _ _ _ _ nm];exact hm);have hc3:C id=some (QD b m g true):=by rw[q5 id (by omega) d,zt _ _ _ _ ni];exact B
  have L:C Z=some (ZJ x):=by rw[q5 Z (by omega) (by omega)];simp
  simp only[ZJ,qD]at t L;by_cases M:(Z3 b.zk a l' x).1=0
  case neg=>
   rw[ze M]at j;have h:w5 b=(Z3 b.zk a l' x).1:=by rw[c,j,ze M]
   have d1':=nzT M;simp[S,h5,n,o,p,q,T,qD,t,d1',h,f25]
  ·rw[zd M]at j;simp[S,h5,n,o,p,q,T,qD,t,M,L,hw];exact⟨by omega,by omega,hc3,_,q4,j⟩
 ·obtain rfl:k=b.zZ.length:=by omega
  rw[zo]at j;simp only[Zt]at j;have hz:(Zt b.zk [] E.2 b.zZ).1=0:=by rw[z,j]
  have hyr:=W5 (by rw[w];exact G);have N:=bJ hz;obtain⟨x3,C,nx3,t,rfl,q3,q4⟩:=mq b l (fun x D=>⟨⟨W6 (N x D).1,by have:=yv (f:=Xp.cb) D;unfold zx;omega⟩,(N x D).2⟩) hyr true Y Z id m g (by omega) B;have h:w5 b=if Wm b.zk b.zZ 0 b.zZ=true then 13 else 0:=by rw[c,j,zd rfl]
  cases r:Wm b.zk b.zZ 0 b.zZ
  ·rw[r,ze (by simp)]at h;rw[r]at t;simp[S,n,o,p,t,h,f25]
  ·rw[r,zd rfl]at h;rw[r]at t;simp[S,n,o,p,t,h,f25]
theorem XW:zg prog 24 (we C0 f24):=zpj yz func24
theorem tD(b:Bk)(h:Hp)(Z0:Nat):∃f a g,we C0 f24 [.nil,.agg b.V] h Z0=some (f,a,g)/\f=.ref (Z0+1+1+1) 0 0/\g=Z0+1+1+1+1/\a (Z0+1)=some (xq [])/\a (Z0+1+1+1)=some (QD b (Z0+1) (Z0+1+1) false):=by
 unfold we;rw[zd (by simp[f24])];refine qw rfl ?_;simp[Bk.V,qe,qM];refine zI (fun k U Y Z=>U 14=int 0/\U 15=int k/\U 5=.ref (Z0+1+1+1) 0 0/\Z=Z0+1+1+1+1/\Y (Z0+1)=some (xq [])/\Y (Z0+1+1+1)=some (QD b (Z0+1) (Z0+1+1) false)) 0
  ⟨by simp,by simp,by simp,by simp,by simp[xq,rv],by simp[vd]⟩ ?_
 rintro k U Y Z m ⟨c,d,i,e,j,l⟩;obtain rfl:k=0:=by omega
 simp[c,d,i,e,f24];exact⟨j,l⟩
noncomputable def FBk (out:Bk->O):zb->Option O:=z6 (α:=Bk) (fun b=>[.agg b.V]) (fun b=>b.cb<=zx) out
theorem F6(out:Bk->O)(b:Bk)(Y:Hp)(Z:Nat)(h:b.cb<=zx):zf false [] (FBk out) [.agg b.V] Y Z=some (out b,Y,Z):=
 hPc b _ _ (by simp[Bk.V]) (fun a b e=>by simp only[zh,zD,O.agg.injEq]at e;exact W0 e) h (.inr (by simp[Bk.V]))
noncomputable abbrev Cxcb:Ctx:=zQ prog [(24,we C0 f24),(25,we Cchk f25)]
theorem zds:Gd Cxcb:=zph mixed ⟨XW,tC,trivial⟩
theorem zac(b:Bk)(h:b.cb<=zx):zr Cxcb f44 [.agg b.V]=some (int (w5 b)):=by refine zm rfl ?_;obtain⟨i,Y1,e,a,rfl,rfl,f,c⟩:=tD b (qR (fun _=>none) 0 (some ⟨27,3,false,[b.V]⟩)) 1;obtain⟨j,Y2,g,d,rfl⟩:=P6 b h (qR Y1 4 (some (QD b 2 3 true))) 5 4 2 3 (by omega) (by omega) (by omega) (by simp) (by rw[zt _ _ _ _ (by omega)];exact f);simp only[Bk.V]at a;rw[vd]at c d;simp[Bk.V,a,c,d,qS,f44]
theorem P7:zg prog 44 (zf false [] (FBk fun b=>int (w5 b))):=
 pS1 zds func44 false [] fun b a=>⟨by simp[f44],_,zac b a,zW _⟩
end Go.Q
namespace Go.AM
end Go.AM
namespace Go.Q
noncomputable def QE (b:Bk) (s:za) (n:Int):Int:=if w5 b=0 then(if(Zy (b.zk.map wL.name) s).2=true then(if QP n=true then 0 else 1)else 5)else w5 b
noncomputable def FBNI (out:Bk->za->Int->O):zb->Option O:=z6 (α:=Bk×za×Int) (fun a=>[.agg a.1.V,str a.2.1,int a.2.2]) (fun a=>a.1.cb<=zx) (fun a=>out a.1 a.2.1 a.2.2)
theorem JJ(Y:Hp)(b:Bk):qH Y (.agg b.V)=some (.agg b.V,Y):=by simp[Bk.V]
theorem fG(b:Bk):O.noOwn (.agg b.V)=true:=by simp[Bk.V]
theorem Ay(out:Bk->za->Int->O)(b:Bk)(s:za)(n:Int)(Y:Hp)(Z:Nat)(h:b.cb<=zx):zf false [] (FBNI out) [.agg b.V,str s,int n] Y Z=some (out b s n,Y,Z):=
 hPc (b,s,n) _ _ (by simp only[zv,JJ];rfl) (fun x y e=>by obtain⟨a,c,d⟩:=x;obtain⟨f,g,i⟩:=y;simp only[zh,zD,O.agg.injEq]at e;rw[W0 e.1,q9 e.2.1,qB e.2.2]) h (.inr (by simp only[q8,fG];rfl))
noncomputable abbrev Ccly:Ctx:=zQ prog [(44,zf false [] (FBk fun b=>int (w5 b))),(45,zf false [] L0),(10,zf false [] (ep QP))]
theorem zdt:Gd Ccly:=zph mixed ⟨P7,Vq,Xj,trivial⟩
theorem zad(b:Bk)(s:za)(n:Int)(h:b.cb<=zx):zr Ccly f17 [.agg b.V,str s,int n]=some (int (QE b s n)):=by
 refine zm rfl ?_;have j:=wa xw b.zk;have k:b.cb=yt wL.cb b.zk+yt vK.cb b.holds+yt Xp.cb b.zZ:=rfl;have f:=fun Y Z=>F6 (fun b=>int (w5 b)) b Y Z h
 unfold zx at h;have c:=fun Y Z=>Vp b.zk s Y Z (by unfold zx;omega)
 simp only[Bk.V]at f;by_cases a:w5 b=0
 case neg=>
  have d:QE b s n=w5 b:=by unfold QE;rw[ze a]
  have i:=nzT a;simp[Bk.V,f,i,d,f17]
 cases e:(Zy (b.zk.map wL.name) s).2
 ·have d:QE b s n=5:=by unfold QE;rw[zd a,e,ze (by simp)]
  simp[Bk.V,f,a,c,e,d,f17]
 cases g:QP n
 ·have d:QE b s n=1:=by unfold QE;rw[zd a,e,zd rfl,g,ze (by simp)]
  simp[Bk.V,f,a,c,e,g,d,f17]
 ·have d:QE b s n=0:=by unfold QE;rw[zd a,e,zd rfl,g,zd rfl]
  simp[Bk.V,f,a,c,e,g,d,f17]
theorem P8:zg prog 17 (zf false [] (FBNI fun b s n=>int (QE b s n))):=
 pS1 zdt func17 false [] fun⟨b,s,n⟩ a=>⟨by simp[f17],_,zad b s n a,zW _⟩
def Y9(a:List Sp)(n:Int):List yM->List Sp
 |[]=>a
 |p::l=>Y9 (if p.at_<=n then p.w7 else a) n l
noncomputable def FXI (out:Xp->Int->O) (pre:Xp->Int->Prop):zb->Option O:=z6 (α:=Xp×Int) (fun a=>[.agg a.1.V,int a.2]) (fun a=>pre a.1 a.2) (fun a=>out a.1 a.2)
theorem F7(out:Xp->Int->O)(pre:Xp->Int->Prop)(x:Xp)(n:Int)(Y:Hp)(Z:Nat)(h:pre x n):zf false [] (FXI out pre) [.agg x.V,int n] Y Z=some (out x n,Y,Z):=
 hPc (x,n) _ _ (by simp only[zv,bI];rfl) (fun x y e=>by obtain⟨a,b⟩:=x;obtain⟨c,d⟩:=y;simp only[zh,zD,O.agg.injEq]at e;rw[dC e.1,qB e.2]) h (.inr (by simp only[q8,FU];rfl))
theorem P9(x:Xp)(n:Int)(h:x.zN.length<=zx):∃l,zr C0 f32 [.agg x.V,int n]=some l/\qW l (.sl 2 ((Y9 [] n x.zN).map ja)):=by
 refine kB rfl ?_;unfold zx at h;rw[qD];simp;refine zI (fun k U Y Z=>U 1=int n/\U 9=.sl 2 (x.zN.map yM.V)/\U 10=int x.zN.length/\U 11=int k/\∃d,(U 5=.sl 2 (d.map ja)\/(U 5=.nil/\d=[]))/\Y9 [] n x.zN=Y9 d n (x.zN.drop k)) x.zN.length
  ⟨by simp,by simp,by simp,by simp,[],.inr ⟨by simp,rfl⟩,by simp⟩ ?_
 rintro k U Y Z o ⟨f,g,a,b,d,hd,c⟩;by_cases e:k<x.zN.length
 ·obtain⟨p,j⟩:=exI (x.zN[k]);rw[zc e,j]at c;simp only[Y9]at c;have m:=zlL k;by_cases i:p.at_<=n
  ·rw[zd i]at c;simp[f,g,a,b,e,j,yM.V,i,m];exact⟨by omega,p.w7,rfl,c⟩
  ·rw[ze i]at c;simp[f,g,a,b,e,j,yM.V,i,m];exact⟨by omega,d,hd,c⟩
 ·obtain rfl:k=x.zN.length:=by omega
  rw[zo]at c;simp only[Y9]at c;rw[c];rcases hd with hd|⟨hd,rfl⟩
  ·simp[f,g,a,b,hd,f32];exact⟨_,by simp,.refl _⟩
  ·simp[f,g,a,b,hd,f32];exact⟨_,by simp,.cZ (.inl ⟨rfl,rfl⟩)⟩
theorem L8:zg prog 32 (zf false [] (FXI (fun x n=>.sl 2 ((Y9 [] n x.zN).map ja)) fun x _=>x.zN.length<=zx)):=
 xE (fn:=f32) yz (zpi func32) false [] _ fun args r h w S vs a=>by obtain⟨⟨x,n⟩,rfl,b,rfl⟩:=zp h;obtain⟨c,d,e⟩:=P9 x n b;exact⟨_,c,a,by simp[f32],d,e⟩
theorem KS:zg prog 14 (zf false [] (ep QP)):=
 zX (fn:=f14) yz (zpi func14) false [] _ fun args r h=>by obtain⟨a,rfl,rfl⟩:=Ks h;exact⟨by simp[f14],_,zm rfl (by simp[QP,jD,f14]),zW _⟩
theorem zae(s:za):(wi 33 126 s&&(!(s==[])&&decide ((s.length:Int)<=40)))=YK s:=by
 cases s with
 |nil=>rfl
 |cons c s=>rw[qc];simp[YK,j8,jD];exact⟨fun h=>⟨⟨by omega,h.2⟩,h.1,by omega,by omega⟩,fun h=>⟨h.2.1,h.1.2⟩⟩
theorem CC(l:za)(h:l.length<=zx):zr C0 f129 [str l]=some (qz (YK l)):=by
 refine zm rfl ?_;unfold zx at h;rw[<-zae];simp;refine zI (fun k U Y Z=>U 0=str l/\U 5=int l.length/\U 6=int k/\wi 33 126 l=wi 33 126 (l.drop k)) l.length ⟨by simp,by simp,by simp,by simp⟩ ?_;rintro k U Y Z j ⟨d,e,f,b⟩;by_cases a:k<l.length
 ·have i:=zlL k;rw[xV a]at b;have g:=VX 33 126 l[k];simp only[vm]at g;cases c:pr 33 126 l[k]
  ·have b:wi 33 126 l=false:=by rw[b,c];rfl
   simp[d,e,f,a,b,g,c,f129]
  ·simp[d,e,f,a,g,c,i];exact⟨a,by rw[b,c];rfl⟩
 ·obtain rfl:k=l.length:=by omega
  have b:wi 33 126 l=true:=by rw[b,zo];rfl
  simp[d,e,f,b,f129]
theorem Yp:zg prog 129 (zf false [] (FS YK)):=
 pS1 yz func129 false [] fun l Y=>⟨by simp[f129],_,CC l Y,zW _⟩
def xZ(name a:za)(first:Bool):Int:=if wb name=true then(if(!first&&K3 name a)=true then 8 else 0)else 5
noncomputable def FNb (f:za->za->Bool->O):zb->Option O:=z6 (α:=za×za×Bool) (fun a=>[str a.1,str a.2.1,qz a.2.2]) (fun a=>a.1.length<=zx) (fun a=>f a.1 a.2.1 a.2.2)
theorem fH(f:za->za->Bool->O)(a b:za)(c:Bool)(Y:Hp)(Z:Nat)(h:a.length<=zx)(d:(f a b c).flat=true):zf false [] (FNb f) [str a,str b,qz c] Y Z=some (f a b c,Y,Z):=
 hPc (a,b,c) _ _ rfl (fun x y e=>by obtain⟨g,i,j⟩:=x;obtain⟨k,l,m⟩:=y;simp only[zh,zD]at e;rw[q9 e.1,q9 e.2.1,WR e.2.2]) h (.inl d)
noncomputable abbrev Cnd4:Ctx:=zQ prog [(37,zf false [] (FS wb))]
theorem Kx:zg prog 128 (zf false [] (FNb fun a b c=>int (xZ a b c))):=
 pS1 (zph mixed ⟨Zi,trivial⟩:AM.Good Cnd4 _) func128 false [] fun⟨a,b,c⟩ d=>by
  have e:(Op.bytesLess a b||a==b)=K3 a b:=rfl;refine⟨by simp[f128],_,zm rfl ?_,zW _⟩;simp only at d;cases f:wb a
  ·simp[d,f,xZ,f128]
  ·cases c
   ·cases g:K3 a b
    ·simp[d,f,e,g,xZ,f128]
    ·simp[d,f,e,g,xZ,f128]
   ·simp[d,f,xZ,f128]
def jB(s:za):List wL->Option wL
 |[]=>none
 |x::l=>if x.name=s then some x else jB s l
def WC:Option wL->O
 |some x=>.wY [.agg x.V,qz true]
 |none=>.wY [.agg [str [],str [],int 0],qz false]
noncomputable def FBS (out:Bk->za->O):zb->Option O:=z6 (α:=Bk×za) (fun a=>[.agg a.1.V,str a.2]) (fun a=>a.1.cb<=zx) (fun a=>out a.1 a.2)
theorem Vr(out:Bk->za->O)(b:Bk)(s:za)(Y:Hp)(Z:Nat)(h:b.cb<=zx):zf false [] (FBS out) [.agg b.V,str s] Y Z=some (out b s,Y,Z):=
 hPc (b,s) _ _ (by simp only[zv,JJ];rfl) (fun x y e=>by obtain⟨a,c⟩:=x;obtain⟨d,f⟩:=y;simp only[zh,zD,O.agg.injEq]at e;rw[W0 e.1,q9 e.2]) h (.inr (by simp only[q8,fG];rfl))
theorem tE(b:Bk)(s:za)(h:b.cb<=zx):zr C0 f49 [.agg b.V,str s]=some (WC (jB s b.zk)):=by
 refine zm rfl ?_;have p:=wa xw b.zk;have q:b.cb=yt wL.cb b.zk+yt vK.cb b.holds+yt Xp.cb b.zZ:=rfl;unfold zx at h;simp[Bk.V];refine zI (fun k U Y Z=>U 1=str s/\U 4=.ref 1 0 0/\2<=Z/\Y 1=some ⟨50,3,false,[[str [],str [],int 0]]⟩/\U 9=.sl 3 (b.zk.map wL.V)/\U 10=int b.zk.length/\U 11=int k/\jB s b.zk=jB s (b.zk.drop k)) b.zk.length
  ⟨by simp,by simp,by simp,by simp,by simp,by simp,by simp,by simp⟩ ?_
 rintro k U Y Z u ⟨j,l,r,m,n,c,d,a⟩;have n1:¬1=Z:=by omega
 have g:¬Z=1:=by omega
 by_cases e:k<b.zk.length
 ·obtain⟨x,o⟩:=exI (b.zk[k]);have t:=zlL k;rw[zc e,o]at a;simp only[jB]at a;by_cases i:x.name=s
  ·rw[zd i]at a;have f:(x.name==s)=true:=by simpa using i
   rw[a];simp[j,l,n,c,d,e,o,wL.V,m,n1,g,f,WC,qS,f49]
  ·rw[ze i]at a;have f:=eqF0 i;simp[j,l,n,c,d,e,o,wL.V,m,n1,g,f,t];exact⟨by omega,by omega,a⟩
 ·obtain rfl:k=b.zk.length:=by omega
  rw[zo]at a;simp only[jB]at a;rw[a];simp[j,l,n,c,d,m,WC,qS,qe,qM,f49]
theorem xJ:zg prog 49 (zf false [] (FBS fun b s=>WC (jB s b.zk))):=
 pS1 yz func49 false [] fun⟨b,s⟩ a=>⟨by simp[f49],_,tE b s a,zW _⟩
def b6(v:za):Nat->List za->Int
 |_,[]=>-1
 |k,s::l=>if v=s then k else b6 v (k+1) l
theorem F8(v:za):∀(l:List za) (k:Nat),decide (0<=b6 v k l)=decide (v∈l)
 |[],k=>by simp[b6]
 |s::l,k=>by
  by_cases h:v=s
  ·have e:b6 v k (s::l)=k:=by simp only[b6,zd h]
   rw[e];simp[h]
  ·have e:b6 v k (s::l)=b6 v (k+1) l:=by simp only[b6,ze h]
   rw[e,F8 v l (k+1)];simp[h]
noncomputable def Iu (out:List za->za->O):zb->Option O:=z6 (α:=List za×za) (fun a=>[.sl 1 (zJ a.1),str a.2]) (fun a=>a.1.length<=zx) (fun a=>out a.1 a.2)
theorem zaf:∀a b:List za×za,[O.sl 1 (zJ a.1),str a.2]=[O.sl 1 (zJ b.1),str b.2]->a=b:=by rintro⟨f,g⟩ ⟨h,i⟩ e;simp only[zh,zD]at e;obtain⟨c,d⟩:=e;injection c with _ c;rw[kn c,q9 d]
theorem Wn(out:List za->za->O)(l:List za)(v:za)(Y:Hp)(Z:Nat)(h:l.length<=zx):zf false [1] (Iu out) [.sl 1 (zJ l),str v] Y Z=some (out l v,Y,Z):=
 zU rfl (zE (V:=fun a:List za×za=>[O.sl 1 (zJ a.1),str a.2]) (a:=(l,v)) zaf h) (.inr rfl)
theorem CD(out:List za->za->O){l:List za}{v:za}{Y:Hp}{Z e:Nat}{x:O}(c:wg Y Z e 1 x (zJ l))(h:l.length<=zx)(b:(out l v).flat=true):zf false [1] (Iu out) [x,str v] Y Z=some (out l v,Y,Z):=by
 have hs:Iu out [.sl 1 (zJ l),str v]=some (out l v):=zE (V:=fun a:List za×za=>[O.sl 1 (zJ a.1),str a.2]) (a:=(l,v)) zaf h;rcases c with⟨rfl,d⟩|⟨id,hid,rfl,f⟩
 ·have g:l=[]:=by simpa[zJ]using d
  subst g;exact zU (Y1:=Y) rfl hs (.inl b)
 ·exact zU (Y1:=qR Y id none) (show zv Y [.own id 0 (zJ l).length,str v]=some ([.sl 1 (zJ l),str v],qR Y id none) by
   simp[f]
   try rw[qq (by simp)]) hs (.inl b)
theorem Ra(l:List za)(v:za)(h:l.length<=zx):zr C0 f90 [.sl 1 (zJ l),str v]=some (int (b6 v 0 l)):=by
 refine zm rfl ?_;unfold zx at h;have b:(zJ l).length=l.length:=by simp[zJ]
 simp[b];refine zI (fun k U Y Z=>U 0=.sl 1 (zJ l)/\U 1=str v/\U 7=int l.length/\U 8=int k/\b6 v 0 l=b6 v k (l.drop k)) l.length ⟨by simp,by simp,by simp,by simp,by simp⟩ ?_;rintro k U Y Z p ⟨i,j,m,n,a⟩;by_cases c:k<l.length
 ·obtain⟨s,hs⟩:=exI (l[k]);have o:=zlL k;have e:∀h:k<(zJ l).length,(zJ l)[k]=[str s]:=fun h=>by simp[zJ,hs]
  have f:k<(zJ l).length:=by omega
  rw[zc c,hs]at a;simp only[b6]at a;by_cases g:v=s
  ·rw[zd g]at a;have d:(v==s)=true:=by simpa using g
   simp[i,j,m,n,c,b,f,e,d,a,f90]
  ·rw[ze g]at a;have d:=eqF0 g;simp[i,j,m,n,c,b,f,e,d,o];exact⟨by omega,a⟩
 ·obtain rfl:k=l.length:=by omega
  rw[zo]at a;simp only[b6]at a;simp[i,j,m,n,a,f90]
theorem L9:zg prog 90 (zf false [1] (Iu fun l v=>int (b6 v 0 l))):=
 pS1 yz func90 false [1] fun⟨l,v⟩ a=>⟨by simp[f90],_,Ra l v a,zW _⟩
noncomputable abbrev Cctt:Ctx:=zQ prog [(90,zf false [1] (Iu fun l v=>int (b6 v 0 l)))]
theorem je:zg prog 47 (zf false [1] (Iu fun l v=>qz (decide (v∈l)))):=
 pS1 (zph mixed ⟨L9,trivial⟩:AM.Good Cctt _) func47 false [1] fun⟨l,v⟩ a=>by
  have b:=fun Y Z=>Wn (fun l v=>int (b6 v 0 l)) l v Y Z a
  have c:=F8 v l 0;exact⟨by simp[f47],_,zm rfl (by simp[b,c,f47]),zW _⟩
def Vs(h:vK)(a b:za):Bool:=decide (a∈h.zk)&&decide ((Z8 h.qy b:Int)<h.buckets)
def jX(a b:za):List vK->za×Bool
 |[]=>([],false)
 |h::l=>if Vs h a b=true then(h.name,true)else jX a b l
def Az(r:za×Bool):O:=.wY [str r.1,qz r.2]
noncomputable def dD (out:Bk->za->za->O):zb->Option O:=z6 (α:=Bk×za×za) (fun a=>[.agg a.1.V,str a.2.1,str a.2.2]) (fun a=>a.1.cb<=zx/\a.2.1.length<=zx/\a.2.2.length<=zx) (fun a=>out a.1 a.2.1 a.2.2)
theorem Vt(out:Bk->za->za->O)(b:Bk)(s t:za)(Y:Hp)(Z:Nat)(h:b.cb<=zx)(c:s.length<=zx)(d:t.length<=zx):zf false [] (dD out) [.agg b.V,str s,str t] Y Z=some (out b s t,Y,Z):=
 hPc (b,s,t) _ _ (by simp[Bk.V]) (fun a b e=>by obtain⟨f,g,i⟩:=a;obtain⟨j,k,l⟩:=b;simp only[zh,zD,O.agg.injEq]at e;rw[W0 e.1,q9 e.2.1,q9 e.2.2]) ⟨h,c,d⟩ (.inr (by simp[Bk.V]))
noncomputable abbrev Chel:Ctx:=zQ prog [(47,zf false [1] (Iu fun l v=>qz (decide (v∈l)))),(30,zf false [] (Zo T2 fun _ _=>True))]
theorem zdu:AM.Good Chel (fun g=>[47,30].contains g):=zw mixed ⟨je,fun _=>zu _ _,eM,fun _=>zu _ _,trivial⟩
theorem Rb(b:Bk)(s t:za)(D:b.cb<=zx)(hs:s.length<=zx)(z:t.length<=zx):zr Chel f19 [.agg b.V,str s,str t]=some (Az (jX s t b.holds)):=by
 have r:=wa Wl b.holds;have A:b.cb=yt wL.cb b.zk+yt vK.cb b.holds+yt Xp.cb b.zZ:=rfl;have u:zx=2097152:=rfl;refine zm rfl ?_;simp[Bk.V];refine zI (fun k U Y Z=>U 1=str s/\U 2=str t/\U 11=.sl 4 (b.holds.map vK.V)/\U 12=int b.holds.length/\U 13=int k/\jX s t b.holds=jX s t (b.holds.drop k)) b.holds.length ⟨by simp,by simp,by simp,by simp,by simp,by simp⟩ ?_;rintro k U Y Z E ⟨m,n,d,e,g,c⟩;by_cases a:k<b.holds.length
 ·obtain⟨x,h⟩:=exI (b.holds[k]);have p:=yv (f:=vK.cb) (zj a);rw[h]at p;have B:x.cb=1+x.name.length+x.qy.length+yt (fun s=>1+s.length) x.zk:=rfl;have C:=wa (f:=fun s:List UInt8=>1+s.length) (fun _=>by omega) x.zk;have w:=zlL k;have q:=fun Y Z=>Wn (fun l v=>qz (decide (v∈l))) x.zk s Y Z (by omega)
  have y:=fun Y Z=>bw x.qy t Y Z (by omega) z
  rw[zc a,h,jX]at c;by_cases i:s∈x.zk
  ·by_cases o:(Z8 x.qy t:Int)<x.buckets
   ·have j:Vs x s t=true:=by simp[Vs,i,o]
    rw[j,zd rfl]at c;simp[m,n,d,e,g,a,h,vK.V,q,y,i,o,c,Az,qS,f19]
   ·have j:Vs x s t=false:=by simp[Vs,o]
    rw[j,ze (by simp)]at c;simp[m,n,d,e,g,a,h,vK.V,q,y,i,o,w];exact⟨by omega,c⟩
  ·have j:Vs x s t=false:=by simp[Vs,i]
   rw[j,ze (by simp)]at c;simp[m,n,d,e,g,a,h,vK.V,q,i,w];exact⟨by omega,c⟩
 ·obtain rfl:k=b.holds.length:=by omega
  rw[zo]at c;simp only[jX]at c;simp[m,n,d,e,g,c,Az,qS,f19]
theorem rA:zg prog 19 (zf false [] (dD fun b s t=>Az (jX s t b.holds))):=
 pS1 zdu func19 false [] fun⟨b,s,t⟩ ⟨a,c,d⟩=>⟨by simp[f19],_,Rb b s t a c d,zW _⟩
noncomputable def J3 (b:Bk) (s t:za):(za×Bool)×Int:=if QE b s 0=0 then(if j8 t=true then(jX s t b.holds,0)else(([],false),3))else(([],false),QE b s 0)
noncomputable def N1 (b:Bk) (s t:za):O:=.wY [str (J3 b s t).1.1,qz (J3 b s t).1.2,int (J3 b s t).2]
noncomputable abbrev CHel:Ctx:=zQ prog [(17,zf false [] (FBNI fun b s n=>int (QE b s n))),(18,zf false [] (FS j8)),(19,zf false [] (dD fun b s t=>Az (jX s t b.holds)))]
theorem Rc(b:Bk)(s t:za)(h:b.cb<=zx)(hs:s.length<=zx)(f:t.length<=zx):zr CHel Tryz.f7 [.agg b.V,str s,str t]=some (N1 b s t):=by
 refine zm rfl ?_;have d:=fun Y Z=>Ay (fun b s n=>int (QE b s n)) b s 0 Y Z h
 have i:∀Y Z,zf false [] (dD fun b s t=>Az (jX s t b.holds)) [.agg b.V,str s,str t] Y Z=some (.wY [str (jX s t b.holds).1,qz (jX s t b.holds).2],Y,Z):=fun Y Z=>Vt (fun b s t=>Az (jX s t b.holds)) b s t Y Z h hs f
 simp only[Bk.V]at d i;by_cases a:QE b s 0=0
 case neg=>
  have g:=nzT a;have c:J3 b s t=(([],false),QE b s 0):=by unfold J3;rw[ze a]
  simp[Bk.V,d,g,N1,c,qS,Tryz.f7]
 cases e:j8 t
 ·have c:J3 b s t=(([],false),3):=by unfold J3;rw[zd a,e,ze (by simp)]
  simp[Bk.V,d,a,f,e,N1,c,qS,Tryz.f7]
 ·have c:J3 b s t=(jX s t b.holds,0):=by unfold J3;rw[zd a,e,zd rfl]
  simp[Bk.V,d,a,f,e,i,N1,c,qS,Tryz.f7]
theorem Ma:zg prog 7 (zf false [] (dD N1)):=
 pS1 (zph mixed ⟨P8,YB,rA,trivial⟩:AM.Good CHel _) func7 false [] fun⟨b,s,t⟩ ⟨a,c,d⟩=>⟨by simp[Tryz.f7],_,Rc b s t a c d,zW _⟩
def nq(n:Int)(s:Sp):Bool:=decide (s.1<=n)&&decide (n<s.2)
noncomputable abbrev hb1S:AM.Spec:=we C0 f63
theorem Re:zg prog 63 hb1S:=zpj yz func63
theorem zdv(n:Int)(s:Sp)(Y:Hp)(Z id:Nat)(hid:id<Z)(a:Y id=some ⟨3,1,false,[[int n]]⟩):hb1S [.agg (ja s),.ref id 0 0] Y Z=some (qz (nq n s),qR Y Z (some ⟨115,2,false,[ja s]⟩),Z+1):=by
 unfold hb1S we;rw[zd (by simp[f63])];refine yu rfl ?_;have b:¬id=Z:=by omega
 by_cases c:s.1<=n
 ·by_cases d:n<s.2<;>simp[a,b,c,d,nq,f63]
 ·simp[a,b,c,nq,f63]
noncomputable abbrev TAhb:Qq:=[(63,hb1S)]
noncomputable def FSI (out:List Sp->Int->O):zb->Option O:=z6 (α:=List Sp×Int) (fun a=>[.sl 2 (a.1.map ja),int a.2]) (fun a=>a.1.length<=zx) (fun a=>out a.1 a.2)
theorem zag(out:List Sp->Int->O)(l:List Sp)(n:Int)(Y:Hp)(Z:Nat)(h:l.length<=zx)(c:(out l n).flat=true):zf false [] (FSI out) [.sl 2 (l.map ja),int n] Y Z=some (out l n,Y,Z):=
 hPc (l,n) _ _ rfl (fun a b e=>by obtain⟨d,f⟩:=a;obtain⟨g,i⟩:=b;simp only[zh,zD]at e;rw[QK e.1,qB e.2]) h (.inl c)
noncomputable abbrev Chbk:Ctx:=zQ prog [(62,NW TAhb)]
theorem F9(l:List Sp)(n:Int)(h:l.length<=zx):zr Chbk f31 [.sl 2 (l.map ja),int n]=some (qz (l.any (nq n))):=by
 refine zm rfl ?_;obtain⟨r,c,d,a,rfl,_,_,_⟩:=U4 (U:=Unit) (T:=fun _=>False) (Rep:=fun _ Y=>Y 0=some ⟨3,1,false,[[int n]]⟩) (step:=fun _ s=>(nq n s,())) (Ta:=TAhb) (g:=63) (sp:=hb1S) (fi:=[]) (cap:=[.ref 0 0 0]) (Z0:=1) (by simp) l h
  (fun _ s Y Z hs e b=>⟨_,_,_,zdv n s Y Z 0 (by omega) b,rfl,(zt _ _ _ _ (by omega)).trans b,by omega,fun j f _=>zt _ _ _ _ (by omega)⟩) () (qR (fun _=>none) 0 (some ⟨3,1,false,[[int n]]⟩)) 1 (zl _) (by simp)
 rw[Vo]at a;simp[a,f31]
theorem CE:zg prog 31 (zf false [] (FSI fun l n=>qz (l.any (nq n)))):=
 pS1 (zph mixed ⟨LX ⟨Re,by simp,trivial⟩,trivial⟩:AM.Good Chbk _) func31 false [] fun⟨l,n⟩ a=>⟨by simp[f31],_,F9 l n a,zW _⟩
theorem zhg{b:Bk}(h:w5 b=0):(∀y∈b.zk,0<=y.rest/\y.rest<=100000000)/\(∀x∈b.zZ,yY x.zN=0/\(Zy (b.zk.map wL.name) x.wE).2=true)/\Wm b.zk b.zZ 0 b.zZ=false:=by
 unfold w5 at h;split at h
 ·exact absurd h (by simp)
 split at h
 ·rename_i a;split at h
  ·split at h
   ·rename_i d;split at h
    ·exact absurd h (by simp)
    ·rename_i e;exact⟨W5 a,bJ d,by simpa using e⟩
   ·rename_i c;exact absurd h c
  ·rename_i c;exact absurd h c
 ·rename_i c;exact absurd h c
theorem AA:∀{xs:List yM} {p:Option Int} {b:List Sp},L1 p b xs=0->∀y∈xs,yG y.w7=0
 |[],_,_,_,y,a=>by simp at a
 |x::xs,p,b,h,y,a=>by
  simp only[L1]at h;split at h
  ·split at h
   ·exact absurd h (by simp)
   ·split at h
    ·rename_i c;split at h
     ·exact absurd h (by simp)
     ·rcases zA.1 a with rfl|a
      ·exact c
      ·exact AA h y a
    ·rename_i c;exact absurd h c
  ·exact absurd h (by simp)
theorem KT{l:List yM}(h:yY l=0):∀y∈l,yG y.w7=0:=by
 unfold yY at h;split at h
 ·exact absurd h (by simp)
 ·exact AA h
end Go.Q
namespace Go.Proofs
open Go.Shelf
end Go.Proofs
namespace Go.Q
theorem CF(n:Int):∀(l:List yM) (a:List Sp),Y9 a n l=a\/∃p∈l,Y9 a n l=p.w7
 |[],a=>.inl rfl
 |p::l,a=>by
  simp only[Y9];rcases CF n l (if p.at_<=n then p.w7 else a)with h|⟨q,b,h⟩
  ·split at h
   ·rename_i c;rw[zd c];exact .inr ⟨p,by simp,h⟩
   ·rename_i c;rw[ze c];exact .inl h
  ·exact .inr ⟨q,by simp[b],h⟩
theorem zah(n:Int)(l:List yM):(Y9 [] n l).length<=yt yM.cb l:=by
 rcases CF n l []with h|⟨p,Y,h⟩
 ·rw[h];simp
 ·rw[h];have:=yv (f:=yM.cb) Y;have a:p.cb=1+p.w7.length:=rfl;omega
theorem zdw{s:za}(h:wb s=true):s≠[]:=fun e=>by rw[e]at h;exact absurd h (by decide)
def zkG(a b:Sp):Prop:=a.2<=b.1\/b.2<=a.1
theorem rB:∀{lo:Int} {l:List Sp},lX lo l->∀s∈l,lo<s.1
 |_,[],_,s,h=>by simp at h
 |lo,x::l,a,s,h=>by
  rcases zA.1 h with rfl|h
  ·exact a.1
  ·have:=rB a.2.2 s h;have:=a.1;have:=a.2.1;omega
theorem dE:∀(l m:List Sp) {lo e:Int},lX lo l->lX e m->va l m=false->∀a∈l,∀c∈m,zkG a c
 |[],m,_,_,_,_,_,a,b,c,d=>by simp at b
 |x::l,[],_,_,_,_,_,a,b,c,d=>by simp at d
 |x::l,y::m,lo,e,f,i,h,a,b,c,d=>by
  rw[va]at h;split at h
  ·rename_i g;have j:=dE l (y::m) f.2.2 i h;rcases zA.1 b with rfl|b
   ·left;rcases zA.1 d with rfl|d
    ·exact g
    ·have:=rB i.2.2 c d;have:=i.2.1;omega
   ·exact j a b c d
  ·split at h
   ·rename_i g;have j:=dE (x::l) m f i.2.2 h;rcases zA.1 d with rfl|d
    ·right;rcases zA.1 b with rfl|b
     ·exact g
     ·have:=rB f.2.2 a b;have:=f.2.1;omega
    ·exact j a b c d
   ·exact absurd h (by simp)
termination_by l m=>l.length+m.length
def cO(a c:Sp):Bool:=decide (a.1<c.2)&&decide (c.1<a.2)
def kh(a b:List Sp):Bool:=a.any fun s=>b.any (cO s)
theorem Ga(a b:List Sp)(y:a.length<=zx)(z:b.length<=zx):zr C0 f134 [.sl 2 (a.map ja),.sl 2 (b.map ja)]=some (qz (kh a b)):=by
 unfold zx at y z;refine zm rfl ?_;simp;refine zI (fun i U Y Z=>U 1=.sl 2 (b.map ja)/\U 9=.sl 2 (a.map ja)/\U 10=int a.length/\U 11=int i/\kh a b=kh (a.drop i) b) a.length
  ⟨by simp,by simp,by simp,by simp,by simp⟩ ?_
 rintro i U Y Z hi ⟨g,h,c,d,e⟩;by_cases n:i<a.length
 ·obtain⟨s,hs⟩:=exI (a[i]);have A:=zlL i;rw[zc n,hs]at e;have e:kh a b=(b.any (cO s)||kh (a.drop (i+1)) b):=by rw[e];simp[kh]
  simp[g,h,c,d,n,hs,ja];obtain⟨P,v⟩:=exI Z;rw[v];refine zI (fun k U Y Z=>U 1=.sl 2 (b.map ja)/\U 9=.sl 2 (a.map ja)/\U 10=int a.length/\U 11=int i/\U 6=.ref P 0 0/\U 15=.sl 2 (b.map ja)/\U 16=int b.length/\U 17=int k/\P<Z/\Y P=some ⟨115,2,false,[[int s.1,int s.2]]⟩/\kh a b=((b.drop k).any (cO s)||kh (a.drop (i+1)) b)) b.length
   ⟨by simp[g],by simp[h],by simp[c],by simp[d],by simp,by simp,by simp,by simp,(by show P<P+1;omega),by simp,by simpa using e⟩ ?_
  clear g h c d e hi v U Y Z;rintro k U Y Z C ⟨g,h,c,d,q,j,l,m,B,w,e⟩;by_cases f:k<b.length
  ·obtain⟨t,r⟩:=exI (b[k]);have u:=zlL k;have x:¬P=Z:=by omega
   rw[zc f,r,wN]at e;have o:(decide (s.1<t.2)&&decide (t.1<s.2))=cO s t:=rfl;cases p:cO s t
   ·rw[p,ye]at e;simp[g,q,h,c,d,j,l,m,f,r,ja,w,x,o,p,u];exact⟨by omega,by omega,e⟩
   ·rw[p,Wu,Wu]at e;simp[g,q,h,c,d,j,l,m,f,r,ja,w,x,o,p,e,f134]
  ·obtain rfl:k=b.length:=by omega
   rw[zo,List.any_nil,ye]at e;simp[g,q,h,c,d,j,l,m,A];exact⟨by omega,e⟩
 ·obtain rfl:i=a.length:=by omega
  rw[zo]at e;have e:kh a b=false:=by rw[e];rfl
  simp[g,h,c,d,e,f134]
theorem CG:zg prog 134 (zf false [] (Ua (fun a b=>qz (kh a b)) fun a b=>a.length<=zx/\b.length<=zx)):=
 pS1 yz func134 false [] fun⟨a,b⟩ c=>⟨by simp[f134],_,Ga a b c.1 c.2,zW _⟩
theorem dF:∀(l m:List Sp),va l m=true->∃a∈l,∃c∈m,cO a c=true
 |[],m,h=>by rw[mm]at h;cases h
 |x::l,[],h=>by rw[mn]at h;cases h
 |x::l,y::m,h=>by
  rw[va]at h;split at h
  ·obtain⟨a,b,c,d,e⟩:=dF l (y::m) h;exact⟨a,by simp[b],c,d,e⟩
  ·split at h
   ·obtain⟨a,b,c,d,e⟩:=dF (x::l) m h;exact⟨a,b,c,by simp[d],e⟩
   ·exact⟨x,by simp,y,by simp,by simp[cO];omega⟩
termination_by l m=>l.length+m.length
theorem dG{a b:List Sp}(d:yG a=0)(f:yG b=0):kh a b=va a b:=by
 have c:kh a b=true↔∃x∈a,∃y∈b,cO x y=true:=by simp[kh]
 cases h:va a b
 ·rw[gA];intro i;obtain⟨x,j,y,k,e⟩:=c.1 i;have:=dE a b (KM d).1 (KM f).1 h x j y k;simp[cO]at e;rcases this with g|g<;>omega
 ·exact c.2 (dF a b h)
def fI(l:List yM)(i:Nat):Int:=match l[i+1]? with
 |some p=>p.at_
 |none=>8200000000
noncomputable def FXn (out:Xp->Nat->O):zb->Option O:=z6 (α:=Xp×Nat) (fun a=>[.agg a.1.V,int a.2]) (fun a=>a.1.zN.length<=zx/\a.2<=zx) (fun a=>out a.1 a.2)
theorem zai(out:Xp->Nat->O)(x:Xp)(n:Nat)(Y:Hp)(Z:Nat)(h:x.zN.length<=zx/\n<=zx):zf false [] (FXn out) [.agg x.V,int n] Y Z=some (out x n,Y,Z):=
 hPc (x,n) _ _ (by simp only[zv,bI];rfl) (fun x y e=>by obtain⟨c,a⟩:=x;obtain⟨d,b⟩:=y;simp only[zh,zD,O.agg.injEq]at e;have:=qB e.2;rw[dC e.1,show a=b by omega]) h (.inr (by simp only[q8,FU];rfl))
theorem Mb:zg prog 133 (zf false [] (FXn fun x i=>int (fI x.zN i))):=
 pS1 yz func133 false [] fun⟨x,i⟩ ⟨d,e⟩=>by
  unfold zx at d e;simp only at d e;refine⟨by simp[f133],_,zm rfl ?_,zW _⟩;have f:=zlL i;by_cases b:i+1<x.zN.length
  ·have a:(i:Int)+1<x.zN.length:=by omega
   have g:((i:Int)+1).toNat=i+1:=by omega
   have h:0<=(i:Int)+1:=by omega
   simp[qD,f,b,a,g,h,fI,yM.V,f133]
  ·have a:¬(i:Int)+1<x.zN.length:=by omega
   have c:x.zN[i+1]?=none:=wP (by omega);simp[qD,f,a,fI,c,f133]
theorem Gb{a b:za}(h:y9 a b=0):wb a=true/\Op.bytesLess b a=true:=by
 unfold y9 at h;split at h
 ·rename_i c;split at h
  ·exact absurd h (by simp)
  ·rename_i d;exact⟨c,xH (by simpa using d)⟩
 ·exact absurd h (by simp)
theorem bK:∀{xs:List wL} {a:za} {l:List za},(wq a l xs).1=0->(∀y∈xs,Op.bytesLess a y.name=true)/\bG (xs.map wL.name)/\(wq a l xs).2=l++xs.map wL.qy
 |[],_,l,_=>⟨fun y b=>by simp at b,.nil,by simp[wq]⟩
 |x::xs,a,l,h=>by
  simp only[wq]at h⊢;split at h
  ·rename_i d;rw[zd d];split at h
   ·rename_i e;rw[zd e];split at h
    ·rename_i i;rw[zd i];have f:=(Gb d).2;obtain⟨g,j,k⟩:=bK h;refine⟨fun y b=>?_,?_,?_⟩
     ·rcases zA.1 b with rfl|b
      ·exact f
      ·exact xi f (g y b)
     ·rw[wD];exact wU.2 ⟨fun s hs=>by obtain⟨y,b,rfl⟩:=wA.1 hs;exact g y b,j⟩
     ·rw[k];unfold vg;rw[zd e];simp
    ·exact absurd h (by simp)
   ·rename_i c;exact absurd h c
  ·rename_i c;exact absurd h c
theorem CH{L:List wL}:∀{xs:List vK} {a:za} {l:List za},(yn L a l xs).1=0->(yn L a l xs).2=l++xs.map vK.qy
 |[],_,l,_=>by simp[yn]
 |x::xs,a,l,h=>by
  simp only[yn]at h⊢;split at h
  ·rename_i d;rw[zd d];split at h
   ·rename_i b;rw[zd b];split at h
    ·rename_i e;rw[zd e,CH h];unfold vg;rw[zd b];simp
    ·rename_i c;exact absurd h c
   ·rename_i c;exact absurd h c
  ·rename_i c;exact absurd h c
theorem zaj{L:List wL}{a:za}{l:List za}{x:Xp}(h:(Z3 L a l x).1=0):(Z3 L a l x).2=l++[x.qy]:=by
 unfold Z3 at h⊢;split at h
 ·rename_i d;rw[zd d];split at h
  ·rename_i e;rw[zd e];split at h
   ·rename_i f;rw[zd f];split at h
    ·rename_i g;rw[zd g];split at h
     ·rename_i b;rw[zd b];split at h
      ·rename_i i;rw[zd i];unfold vg;rw[zd b]
      ·rename_i c;exact absurd h c
     ·rename_i c;exact absurd h c
    ·rename_i c;exact absurd h c
   ·exact absurd h (by simp)
  ·exact absurd h (by simp)
 ·rename_i c;exact absurd h c
theorem N2{L:List wL}:∀{xs:List Xp} {a:za} {l:List za},(Zt L a l xs).1=0->(∀y∈xs,Op.bytesLess a y.name=true)/\bG (xs.map Xp.name)
 |[],_,_,_=>⟨fun y b=>by simp at b,.nil⟩
 |x::xs,a,l,h=>by
  simp only[Zt]at h;split at h
  ·rename_i c;have d:=(Gb (fF c).2.2.2.2).2;obtain⟨e,f⟩:=N2 h;refine⟨fun y b=>?_,?_⟩
   ·rcases zA.1 b with rfl|b
    ·exact d
    ·exact xi d (e y b)
   ·rw[wD];exact wU.2 ⟨fun s hs=>by obtain⟨y,b,rfl⟩:=wA.1 hs;exact e y b,f⟩
  ·rename_i c;exact absurd h c
theorem zhh{b:Bk}(h:w5 b=0):bG (b.zk.map wL.name)/\bG (b.zZ.map Xp.name):=by
 unfold w5 at h;split at h
 ·exact absurd h (by simp)
 split at h
 ·rename_i a;split at h
  ·split at h
   ·rename_i d;exact⟨(bK a).2.1,(N2 d).2⟩
   ·rename_i c;exact absurd h c
  ·rename_i c;exact absurd h c
 ·rename_i c;exact absurd h c
theorem zdx:okS []:=⟨trivial,(fun s hs=>by cases hs),(fun s hs=>by cases hs),by simp⟩
theorem Ky(name a:za)(first:Bool):xZ name a first=y9 name (if first=true then[]else a):=by
 unfold xZ y9;cases h:wb name
 ·simp
 ·cases first
  ·simp
  ·have b:=zdw h;have:K3 name []=false:=by
    cases name with
    |nil=>exact absurd rfl b
    |cons c l=>simp[K3,Op.bytesLess]
   simp[this]
theorem AB:∀{L:List wL} {s:za},(∃y∈L,y.name=s)->∃j:Nat,∃h:j<L.length,jB s L=some L[j]/\L[j].name=s
 |[],s,h=>by obtain⟨y,hy,_⟩:=h;cases hy
 |x::L,s,h=>by
  by_cases a:x.name=s
  ·exact⟨0,by simp,by simp[jB,a],a⟩
  ·obtain⟨y,hy,e⟩:=h;rcases zA.1 hy with rfl|hy
   ·exact absurd e a
   ·obtain⟨j,b,c,d⟩:=AB ⟨y,hy,e⟩;exact⟨j+1,by simpa using b,by simp[jB,a,c],by simpa using d⟩
theorem mr:∀{L:List wL} {s:za},(∀y∈L,y.name≠s)->jB s L=none
 |[],s,_=>rfl
 |x::L,s,h=>by have a:=h x (by simp);simp only[jB,ze a];exact mr fun y b=>h y (by simp[b])
theorem bL{L:List wL}(h:bG (L.map wL.name))(s:za):((Zy (L.map wL.name) s).2=true/\∃j,∃a:j<L.length,(Zy (L.map wL.name) s).1=j/\jB s L=some L[j])\/((Zy (L.map wL.name) s).2=false/\jB s L=none):=by
 by_cases b:∃y∈L,y.name=s
 ·obtain⟨j,a,d,f⟩:=AB b;have:=Cv h (j:=j) (s:=s) (by simp[a,f]);rw[this];exact .inl ⟨rfl,j,a,rfl,d⟩
 ·refine .inr ⟨?_,mr fun y g e=>b ⟨y,g,e⟩⟩;cases i:(Zy (L.map wL.name) s).2 with
  |false=>rfl
  |true=>
   have:=Cu i;rw[qQ]at this;cases c:L[(Zy (L.map wL.name) s).1]? with
   |none=>rw[c]at this;cases this
   |some y=>rw[c]at this;simp only[zK,qj]at this;exact absurd ⟨y,zM c,this⟩ b
def tF(d:List yM)(i:Nat)(p:yM)(a:Int)(q:yM):Bool:=decide (p.at_<=q.at_)&&decide (q.at_<fI d i+a)&&kh p.w7 q.w7
def S5(d e:List yM)(a:Int):Nat->List yM->Bool
 |_,[]=>false
 |i,p::l=>e.any (tF d i p a)||S5 d e a (i+1) l
def x0(a b:Xp)(c:Int):Bool:=S5 a.zN b.zN c 0 a.zN
theorem CI(d e:List yM)(a:Int):∀(l:List yM) (i:Nat),S5 d e a i l=true↔∃(m:Nat) (p:yM),l[m]?=some p/\∃q∈e,tF d (i+m) p a q=true
 |[],i=>by simp[S5]
 |x::l,i=>by
  simp only[S5,qd,CI d e a l (i+1),vy];constructor
  ·rintro (⟨q,b,h⟩|⟨m,p,c,q,b,h⟩)
   ·exact⟨0,x,rfl,q,b,h⟩
   ·exact⟨m+1,p,by simpa using c,q,b,by rw[show i+(m+1)=i+1+m by omega];exact h⟩
  ·rintro⟨m,p,c,q,b,h⟩;cases m with
   |zero=>simp at c;subst c;exact .inl ⟨q,b,h⟩
   |succ m=>exact .inr ⟨m,p,by simpa using c,q,b,by rw[show i+1+m=i+(m+1) by omega];exact h⟩
theorem Xn(a b:List yM)(i:Nat)(p:yM)(c:Int):∀(l:List yM) (k:Nat),Y7 a b i p c k l=true↔∃(m:Nat) (q:yM),l[m]?=some q/\FT a b i (k+m) p q c=true
 |[],k=>by simp[Y7]
 |x::l,k=>by
  simp only[Y7,qd,Xn a b i p c l (k+1)];constructor
  ·rintro (h|⟨m,q,d,h⟩)
   ·exact⟨0,x,rfl,h⟩
   ·exact⟨m+1,q,by simpa using d,by rw[show k+(m+1)=k+1+m by omega];exact h⟩
  ·rintro⟨m,q,d,h⟩;cases m with
   |zero=>simp at d;subst d;exact .inl h
   |succ m=>exact .inr ⟨m,q,by simpa using d,by rw[show k+1+m=k+(m+1) by omega];exact h⟩
theorem rC(a b:List yM)(c:Int):∀(l:List yM) (i:Nat),Y8 a b c i l=true↔∃(m:Nat) (p:yM),l[m]?=some p/\Y7 a b (i+m) p c 0 b=true
 |[],i=>by simp[Y8]
 |x::l,i=>by
  simp only[Y8,qd,rC a b c l (i+1)];constructor
  ·rintro (h|⟨m,q,d,h⟩)
   ·exact⟨0,x,rfl,h⟩
   ·exact⟨m+1,q,by simpa using d,by rw[show i+(m+1)=i+1+m by omega];exact h⟩
  ·rintro⟨m,q,d,h⟩;cases m with
   |zero=>simp at d;subst d;exact .inl h
   |succ m=>exact .inr ⟨m,q,by simpa using d,by rw[show i+1+m=i+(m+1) by omega];exact h⟩
theorem fJ{l:List yM}{i:Nat}{t rest:Int}(a:0<=t/\t<=4000000000)(b:0<=rest):t<Xk l i+rest↔t<fI l i+rest:=by
 unfold Xk fI;cases l[i+1]? with
 |some p=>exact Iff.rfl
 |none=>simp only;omega
theorem AD(a b:List Sp):kh a b=kh b a:=by
 have c:∀a b:List Sp,kh a b=true->kh b a=true:=by intro a b h;simp only[kh,vy]at h⊢;obtain⟨s,hs,t,d,h⟩:=h;refine⟨t,d,s,hs,?_⟩;simp only[cO,zH,zP]at h⊢;exact⟨h.2,h.1⟩
 rw[qc];exact⟨c a b,c b a⟩
theorem Mc{x y:Xp}{c:Int}(j:0<=c)(n:Xl x.zN)(o:Xl y.zN)(l:∀p∈x.zN,yG p.w7=0)(m:∀p∈y.zN,yG p.w7=0):KR x y c=(x0 y x c||x0 x y c):=by
 rw[qc,qd];unfold KR x0;rw[rC,CI,CI];constructor
 ·rintro⟨i,p,Y,h⟩;rw[Xn]at h;obtain⟨k,q,g,h⟩:=h;simp only[wJ]at h;have a:=zM Y;have b:=zM g;simp only[FT,Au,zH,qd,zP]at h;obtain⟨r,d⟩:=h;rw[<-dG (l p a) (m q b)]at d;rcases r with⟨e,f⟩|⟨e,f⟩
  ·right;refine⟨i,p,Y,q,b,?_⟩;simp only[tF,wJ,zH,zP];exact⟨⟨e,(fJ (o q b) j).1 f⟩,d⟩
  ·left;refine⟨k,q,g,p,a,?_⟩;simp only[tF,wJ,zH,zP];exact⟨⟨e,(fJ (n p a) j).1 f⟩,by rw[AD];exact d⟩
 ·rintro (⟨k,q,g,p,a,h⟩|⟨i,p,Y,q,b,h⟩)
  ·have b:=zM g;obtain⟨i,hi,rfl⟩:=List.getElem_of_mem a;simp only[tF,wJ,zH,zP]at h;obtain⟨⟨e,f⟩,d⟩:=h;refine⟨i,x.zN[i],zq hi,?_⟩;rw[Xn];refine⟨k,q,g,?_⟩;rw[AD]at d;rw[dG (l _ a) (m q b)]at d;simp only[FT,Au,wJ,zH,qd,zP];exact⟨.inr ⟨e,(fJ (n _ a) j).2 f⟩,d⟩
  ·have a:=zM Y;obtain⟨k,s,rfl⟩:=List.getElem_of_mem b;simp only[tF,wJ,zH,zP]at h;obtain⟨⟨e,f⟩,d⟩:=h;refine⟨i,p,Y,?_⟩;rw[Xn];refine⟨k,y.zN[k],zq s,?_⟩;rw[dG (l p a) (m _ b)]at d;simp only[FT,Au,wJ,zH,qd,zP];exact⟨.inl ⟨e,(fJ (o _ b) j).2 f⟩,d⟩
def CJ:Option yM->List yM->Int
 |_,[]=>0
 |p,x::l=>if QP x.at_=true then(if(match p with
   |none=>false
   |some q=>decide (x.at_<=q.at_))=true then 8 else if yG x.w7=0 then(if(match p with
   |none=>x.w7.isEmpty
   |some q=>decide (x.w7=q.w7))=true then 7 else CJ (some x) l)else yG x.w7)else 1
def Vu(l:List yM):Int:=if(50:Int)<l.length then 2 else CJ none l
theorem AE:∀(l:List yM) (p:Option yM),CJ p l=L1 (p.map (·.at_)) ((p.map (·.w7)).getD []) l
 |[],p=>rfl
 |x::l,p=>by
  simp only[CJ,L1];rw[AE l (some x)];cases p with
  |none=>
   have:(x.w7.isEmpty=true)=(x.w7=[]):=by simp
   simp only[iO,xp,Option.getD_none,this,zK,YS]
  |some q=>simp only[iO,zK,YS,zP]
theorem CK(l:List yM):Vu l=yY l:=by unfold Vu yY;rw[AE];rfl
theorem Gc{l:List za}{s:za}(h:yV l s=0):vg l s=l++[s]:=by unfold vg;rw[zd h]
theorem zpk(l:List za)(s:za):zJ l++[[str s]]=zJ (l++[s]):=by simp[zJ]
theorem wg.zcf{Y:Hp}{Z:Nat}{v:O}{l:List za}{s:za}{tmp:Option kV}:wg (qR (WA v (qR Y Z tmp)) (Z+1) (some ⟨9,1,true,zJ (l++[s])⟩)) (Z+2) 9 1 (.own (Z+1) 0 (l.length+1)) (zJ (l++[s])):=
 .inr ⟨Z+1,by omega,by simp,by simp⟩
theorem W7(y:wL):WC (some y)=.wY [.agg [str y.name,str y.qy,int y.rest],qz true]:=rfl
theorem Xo:WC none=.wY [.agg [str [],str [],int 0],qz false]:=rfl
def gF(Y:Hp)(Z:Nat)(v:O):Prop:=(∀id o n,v≠.own id o n)/\∀id i j,v=.ref id i j->id<Z/\∃blk,Y id=some blk/\blk.arr=false
@[simp]theorem zkH(Y:Hp)(Z:Nat)(x:zb):gF Y Z (.wY x):=⟨(fun _ _ _ e=>by cases e),(fun _ _ _ e=>by cases e)⟩
theorem Vv{Y:Hp}{Z id i j:Nat}{blk:kV}(a:id<Z)(b:Y id=some blk)(c:blk.arr=false):gF Y Z (.ref id i j):=
 ⟨(fun _ _ _ e=>by cases e),fun id' i' j' e=>by injection e with e;subst e;exact⟨a,blk,b,c⟩⟩
theorem Ge{L:List Tmp}{st:St}(b:∀s∈L,s<zB)(h:∀s∈L,gF st.Y st.Z (st.U s)):QI L st:=fun s hs=>⟨h s hs,fun a=>absurd (b s hs) (Nat.not_lt.2 a)⟩
theorem gF.keep{Y a:Hp}{Z b:Nat}{v:O}(h:gF Y Z v)(k:Z<=b)(d:∀id blk,id<Z->Y id=some blk->blk.arr=false->a id=some blk):gF a b v:=
 ⟨h.1,fun id i j e=>by obtain⟨f,blk,g,c⟩:=h.2 id i j e;exact⟨by omega,blk,d id blk f g c,c⟩⟩
theorem bM{Y:Hp}{Z e s:Nat}{v:O}{xs:List zb}(a:wg Y Z e s v xs){c d:Option kV}{id:Nat}{blk:kV}(hid:id<Z)(b:Y id=some blk)(f:blk.arr=false):qR (WA v (qR Y Z c)) (Z+1) d id=some blk:=by rw[zt _ _ _ _ (by omega),yl a _ id (vu a b f),zt _ _ _ _ (by omega)];exact b
noncomputable def FLys (out:List wL->O):zb->Option O:=z6 (α:=List wL) (fun l=>[.sl 3 (l.map wL.V)]) (fun l=>yt wL.cb l<=zx) out
theorem AF(out:List wL->O)(l:List wL)(Y:Hp)(Z:Nat)(h:yt wL.cb l<=zx):zf false [] (FLys out) [.sl 3 (l.map wL.V)] Y Z=some (out l,Y,Z):=
 hPc l _ _ rfl (fun a b e=>by
  simp only[zh,zD]at e;injection e with _ e
  exact yX (fun _ _=>fx) e) h (.inr rfl)
def LayI(xs:List wL)(k:Nat)(Y:Hp)(Z:Nat)(v w:O):Prop:=∃(a:za) (l:List za),v=str a/\wg Y Z 9 1 w (zJ l)/\(k=0->a=[])/\l.length<=k/\wq [] [] xs=wq a l (xs.drop k)
noncomputable abbrev Crly:Ctx:=WS prog [(128,zf false [] (FNb fun a b c=>int (xZ a b c))),(129,zf false [] (FS YK)),(47,zf false [1] (Iu fun l v=>qz (decide (v∈l))))] 15 [6,43,46] []
theorem zdy:Gd Crly:=eG mixed ⟨Kx,by simp,Yp,by simp,je,by simp,trivial⟩ (by simp[df])
theorem CL(xs:List wL)(h:yt wL.cb xs<=zx):zr Crly f75 [.sl 3 (xs.map wL.V)]=some (int (wq [] [] xs).1):=by
 refine zm rfl ?_;have Q:=wa xw xs;unfold zx at h;simp;refine zI (fun k U Y Z=>U 8=.sl 3 (xs.map wL.V)/\U 9=int xs.length/\U 10=int k/\gF Y Z (U 43)/\gF Y Z (U 46)/\LayI xs k Y Z (U 4) (U 3)) xs.length
  ⟨by simp,by simp,by simp,by simp,by simp,[],[],by simp,.inl ⟨by simp,rfl⟩,by simp,by simp,by simp⟩ ?_
 rintro k U Y Z hk ⟨r,u,e,G,H,before,l,A,T,I,W,d⟩;by_cases g:k<xs.length
 ·obtain⟨x,w⟩:=exI (xs[k]);have J:=yv (f:=wL.cb) (zj g);rw[w]at J;have X:x.cb=1+x.name.length+x.qy.length:=rfl;rw[zc g,w]at d;simp only[wq]at d;have hw:=zlL k;have D:=Ky x.name before (decide (k=0));have K:xZ x.name before (decide (k=0))=y9 x.name before:=by
   rw[D];by_cases R:k=0
   ·rw[I R];simp
   ·simp[R]
  have m:=fun Y Z=>fH (fun a b c=>int (xZ a b c)) x.name before (decide (k=0)) Y Z (by unfold zx;omega) rfl
  simp only[K]at m;have o:((k:Int)==0)=decide (k=0):=by rw[qc];simp
  have p:x.qy.length<=zx:=by unfold zx;omega
  have q:=T.more (some ⟨50,3,false,[x.V]⟩);have n:=CD (fun l v=>qz (decide (v∈l))) (v:=x.qy) q (by unfold zx;omega) rfl;have B:=wg.yL (P:=prog) (t:=88) (c:=[str x.qy]) q XZ BH D2 D3 rfl (by omega) (by rw[wF];unfold maxLen;omega) (by rw[wF];omega);rw[zpk]at B;simp only[wL.V]at n B;by_cases y:y9 x.name before=0
  case neg=>rw[ze y]at d;have L:=nzT y;simp[A,r,u,e,g,w,wL.V,o,m,L,d,f75]
  rw[zd y]at d;cases z:YK x.qy
  ·have C:yV l x.qy=3:=by simp[yV,z]
   rw[C]at d;simp at d;simp[A,r,u,e,g,w,wL.V,o,m,y,p,z,d,f75]
  by_cases F:x.qy∈l
  ·have C:yV l x.qy=7:=by simp[yV,z,F]
   rw[C]at d;simp at d;rw[y8 F]at n;simp[A,r,u,e,g,w,wL.V,o,m,y,p,z,n,d,f75]
  have C:yV l x.qy=0:=by simp[yV,z,F]
  rw[zd C,Gc C]at d;rw[jm F]at n;by_cases M:x.rest<0
  ·have E:jD x.rest 0 100000000=false:=by simp[jD];omega
   rw[E,ze (by simp)]at d;simp[A,r,u,e,g,w,wL.V,o,m,y,p,z,n,M,d,f75]
  by_cases S:100000000<x.rest
  ·have E:jD x.rest 0 100000000=false:=by simp[jD];omega
   rw[E,ze (by simp)]at d;simp[A,r,u,e,g,w,wL.V,o,m,y,p,z,n,M,S,d,f75]
  have E:jD x.rest 0 100000000=true:=by simp[jD];omega
  rw[E,zd rfl]at d;simp[A,r,u,e,g,w,wL.V,o,m,y,p,z,n,M,S];rw[YY (Ge (by decide) (by
   intro s hs;simp at hs;rcases hs with rfl|rfl|rfl
   ·exact Vv (id:=Z) (i:=0) (j:=0) (by simp) (by simp;rfl) rfl
   ·simp;exact G.keep (by omega) fun id blk hid N _=>by rw[zt _ _ _ _ (by omega)];exact N
   ·simp;exact H.keep (by omega) fun id blk hid N _=>by rw[zt _ _ _ _ (by omega)];exact N))]
  simp[A,r,u,e,hw,B,zz,zS,zy];exact⟨by omega,Vv (by omega) (bM q (by omega) (by simp;rfl) rfl) rfl,Vv (by omega) (bM q (by omega) (by simp;rfl) rfl) rfl,x.name,l++[x.qy],rfl,wg.zcf,by simp,by simp;omega,d⟩
 ·obtain rfl:k=xs.length:=by omega
  rw[zo]at d;simp only[wq]at d;simp[r,u,e,d,f75]
theorem cP:zg prog 75 (zf false [] (FLys fun l=>int (wq [] [] l).1)):=
 pS1 zdy func75 false [] fun l a=>⟨by simp[f75],_,CL l a,zW _⟩
def yJ(b:Bk)(n:Nat):List za:=b.zk.map wL.qy++(b.holds.map vK.qy++(b.zZ.take n).map Xp.qy)
noncomputable def FBn (out:Bk->Nat->O):zb->Option O:=z6 (α:=Bk×Nat) (fun a=>[.agg a.1.V,int a.2]) (fun a=>a.1.cb<=zx/\a.2<=a.1.zZ.length) (fun a=>out a.1 a.2)
theorem Gf(out:Bk->Nat->O)(b:Bk)(n:Nat)(Y:Hp)(Z:Nat)(h:b.cb<=zx/\n<=b.zZ.length):zf false [] (FBn out) [.agg b.V,int n] Y Z=some (out b n,Y,Z):=
 hPc (b,n) _ _ (by simp only[zv,JJ];rfl) (fun x y e=>by obtain⟨d,a⟩:=x;obtain⟨f,c⟩:=y;simp only[zh,zD,O.agg.injEq]at e;have:=qB e.2;rw[W0 e.1,show a=c by omega]) h (.inr (by simp only[q8,fG];rfl))
theorem zak(l:List za):(zJ l).map (Wa [none])=zJ l:=by simp[zJ]
theorem Gg(b:Bk)(n:Nat)(E:b.cb<=zx)(M:n<=b.zZ.length):∃K,zr C0 f131 [.agg b.V,int n]=some K/\qW K (.sl 1 (zJ (yJ b n))):=by
 refine Wb (sh:=.s 1 [none]) rfl ?_;have T:=wa xw b.zk;have W:=wa Wl b.holds;have X:=wa aJ b.zZ;have N:b.cb=yt wL.cb b.zk+yt vK.cb b.holds+yt Xp.cb b.zZ:=rfl;unfold zx at E;have y:=fun Y=>slX Y b.zZ n M
 simp[Bk.V];refine zI (fun k U Y Z=>U 1=int n/\U 2=.ref 0 0 0/\U 13=.sl 3 (b.zk.map wL.V)/\U 14=int b.zk.length/\U 15=int k/\1<=Z/\Y 0=some ⟨27,3,false,[b.V]⟩/\(∀m,U 5≠.own 0 0 m)/\wg Y Z 9 1 (U 5) (zJ ((b.zk.map wL.qy).take k))) b.zk.length
  ⟨by simp,by simp,by simp,by simp,by simp,by simp,by simp[Bk.V],by simp,.inl ⟨by simp,rfl⟩⟩ ?_
 rintro k U Y Z D ⟨q,r,a,d,e,p,o,j,f⟩;have Q:¬0=Z:=by omega
 by_cases g:k<b.zk.length
 ·obtain⟨x,u⟩:=exI (b.zk[k]);have B:=zlL k;have v:zJ ((b.zk.map wL.qy).take (k+1))=zJ ((b.zk.map wL.qy).take k)++[[str x.qy]]:=by rw[zR (by simpa using g),List.getElem_map,u];simp[zJ]
  obtain⟨ys,h⟩:=exI (zJ ((b.zk.map wL.qy).take k));have C:ys.length<=2097152:=by rw[<-h];simp;omega
  rw[h]at f v;have l:=f.more (some ⟨50,3,false,[x.V]⟩);have i:=wg.yL (P:=prog) (t:=88) (c:=[str x.qy]) l XZ BH D2 D3 rfl (by omega) (by unfold maxLen;omega) (by omega);have z:=fun F=>yl f F 0 j
  simp only[wL.V]at i;simp[q,r,a,d,e,g,u,wL.V,i,B,zz,zS,zy];exact⟨by omega,by simp[z,show¬0=Z by omega,o],by rw[v];simpa using wg.after⟩
 obtain rfl:k=b.zk.length:=by omega
 rw[qq (by simp)]at f;simp only[Bk.V]at o;simp[q,r,a,d,e,o];refine zI (fun k U Y Z=>U 1=int n/\U 2=.ref 0 0 0/\U 26=.sl 4 (b.holds.map vK.V)/\U 27=int b.holds.length/\U 28=int k/\1<=Z/\Y 0=some ⟨27,3,false,[b.V]⟩/\(∀m,U 5≠.own 0 0 m)/\wg Y Z 9 1 (U 5) (zJ (b.zk.map wL.qy++(b.holds.map vK.qy).take k))) b.holds.length
  ⟨by simp[q],by simp[r],by simp,by simp,by simp,p,o,by simpa using j,by simpa using f⟩ ?_
 clear q r a d e p o j f D g Q U Y Z;rintro k U Y Z D ⟨q,r,a,d,e,p,o,j,f⟩;by_cases g:k<b.holds.length
 ·obtain⟨x,u⟩:=exI (b.holds[k]);have B:=zlL k;have v:zJ (b.zk.map wL.qy++(b.holds.map vK.qy).take (k+1))=zJ (b.zk.map wL.qy++(b.holds.map vK.qy).take k)++[[str x.qy]]:=by rw[zR (by simpa using g),List.getElem_map,u];simp[zJ]
  obtain⟨ys,h⟩:=exI (zJ (b.zk.map wL.qy++(b.holds.map vK.qy).take k));have C:ys.length<=2097152:=by rw[<-h];simp;omega
  rw[h]at f v;have l:=f.more (some ⟨90,4,false,[x.V]⟩);have i:=wg.yL (P:=prog) (t:=88) (c:=[str x.qy]) l XZ BH D2 D3 rfl (by omega) (by unfold maxLen;omega) (by omega);have z:=fun F=>yl f F 0 j
  simp only[vK.V]at i;simp[q,r,a,d,e,g,u,vK.V,i,B,zz,zS,zy];exact⟨by omega,by simp[z,show¬0=Z by omega,o],by rw[v];simpa using wg.after⟩
 obtain rfl:k=b.holds.length:=by omega
 rw[qq (by simp)]at f;simp only[Bk.V]at o;simp[q,r,a,d,e,o,y];have R:((b.zZ.take n).map Xp.V).length=n:=by simp;omega
 have G:min n b.zZ.length=n:=by omega
 simp[G];refine zI (fun k U Y Z=>U 41=.sl 13 ((b.zZ.take n).map Xp.V)/\U 42=int n/\U 43=int k/\wg Y Z 9 1 (U 5) (zJ (b.zk.map wL.qy++(b.holds.map vK.qy++((b.zZ.take n).map Xp.qy).take k)))) n
  ⟨by simp,by simp,by simp,by simpa using f⟩ ?_
 clear q r a d e p o j f D g U Y Z;obtain⟨es,A⟩:=exI (b.zZ.take n);have L:es.length=n:=by rw[<-A];simp;omega
 rw[A];rintro k U Y Z D ⟨a,d,e,f⟩;by_cases g:k<n
 ·have w:k<es.length:=by omega
  obtain⟨x,u⟩:=exI (es[k]);have B:=zlL k;have v:zJ (b.zk.map wL.qy++(b.holds.map vK.qy++(es.map Xp.qy).take (k+1)))=zJ (b.zk.map wL.qy++(b.holds.map vK.qy++(es.map Xp.qy).take k))++[[str x.qy]]:=by rw[zR (by simpa using w),List.getElem_map,u];simp[zJ]
  obtain⟨ys,h⟩:=exI (zJ (b.zk.map wL.qy++(b.holds.map vK.qy++(es.map Xp.qy).take k)));have C:ys.length<=2097152:=by rw[<-h];simp;omega
  rw[h]at f v;have l:=f.more (some ⟨74,13,false,[x.V]⟩);have i:=wg.yL (P:=prog) (t:=88) (c:=[str x.qy]) l XZ BH D2 D3 rfl (by omega) (by unfold maxLen;omega) (by omega);simp only[qD]at i;simp[a,d,e,g,w,u,qD,i,B,zz,zS,zy];exact⟨by omega,by rw[v];simpa using wg.after⟩
 obtain rfl:k=n:=by omega
 rw[qq (by simp;omega)]at f;have y:yJ b k=b.zk.map wL.qy++(b.holds.map vK.qy++es.map Xp.qy):=by unfold yJ;rw[A]
 rw[<-y]at f;have H:=zak (yJ b k);rcases f with⟨I,S⟩|⟨id,hid,I,E⟩
 ·simp[a,d,e,I,av,S,f131]
 ·have J:(zJ (yJ b k)).take (yJ b k).length=zJ (yJ b k):=qq (by simp);simp[a,d,e,I,E,J,H,av,f131]
theorem fK:zg prog 131 (zf false [] (FBn fun b n=>.sl 1 (zJ (yJ b n)))):=
 xE (fn:=f131) yz (zpi func131) false [] _ fun args r h w S vs a=>by obtain⟨⟨b,n⟩,rfl,⟨c,d⟩,rfl⟩:=zp h;obtain⟨e,f,g⟩:=Gg b n c d;exact⟨_,e,a,by simp[f131],f,g⟩
noncomputable def FBu (out:Bk->O):zb->Option O:=z6 (α:=Bk) (fun b=>[.agg b.V]) (fun b=>b.cb<=zx/\bG (b.zk.map wL.name)) out
theorem Gh(out:Bk->O)(b:Bk)(Y:Hp)(Z:Nat)(h:b.cb<=zx)(c:bG (b.zk.map wL.name)):zf false [] (FBu out) [.agg b.V] Y Z=some (out b,Y,Z):=
 hPc b _ _ (by simp only[zv,JJ]) (fun a b e=>by simp only[zh,zD,O.agg.injEq]at e;exact W0 e) ⟨h,c⟩ (.inr (by simp only[q8,fG];rfl))
def HolI(b:Bk)(k:Nat)(Y:Hp)(Z:Nat)(v w:O):Prop:=∃(a:za) (l:List za),v=str a/\wg Y Z 9 1 w (zJ l)/\(k=0->a=[])/\l.length<=b.zk.length+k/\yn b.zk [] (b.zk.map wL.qy) b.holds=yn b.zk a l (b.holds.drop k)
noncomputable abbrev Crho:Ctx:=WS prog [(128,zf false [] (FNb fun a b c=>int (xZ a b c))),(129,zf false [] (FS YK)),(47,zf false [1] (Iu fun l v=>qz (decide (v∈l)))),(49,zf false [] (FBS fun b s=>WC (jB s b.zk)))] 31 [8,97,100] []
theorem zdz:Gd Crho:=eG mixed ⟨Kx,by simp,Yp,by simp,je,by simp,xJ,by simp,trivial⟩ (by simp[df])
theorem Gi{L:List wL}{l:List za}{k:Nat}(h:k<l.length):Zl L (QQ l k) (l.drop k)=if(Zy (L.map wL.name) l[k]).2=true then(if leP (QQ l k) l[k]=true then 8 else Zl L (QQ l (k+1)) (l.drop (k+1)))else 9:=by
 rw[zc h,Zl];have:QQ l (k+1)=some l[k]:=by simp[QQ,h]
 rw[this]
theorem Gj(b:Bk)(hb:b.cb<=zx)(hu:bG (b.zk.map wL.name)):zr Crho f76 [.agg b.V]=some (int (yn b.zk [] (b.zk.map wL.qy) b.holds).1):=by
 refine zm rfl ?_;have hL:=wa xw b.zk;have hH:=wa Wl b.holds;have S8:b.cb=yt wL.cb b.zk+yt vK.cb b.holds+yt Xp.cb b.zZ:=rfl;have OI:=fun s Y Z=>Vr (fun b s=>WC (jB s b.zk)) b s Y Z hb
 simp only[Bk.V]at OI;unfold zx at hb;simp[Bk.V];refine zI (fun k U Y Z=>U 1=.ref 0 0 0/\U 15=.sl 3 (b.zk.map wL.V)/\U 16=int b.zk.length/\U 17=int k/\1<=Z/\Y 0=some ⟨27,3,false,[b.V]⟩/\U 97=.wY []/\U 100=.wY []/\wg Y Z 9 1 (U 3) (zJ ((b.zk.map wL.qy).take k))) b.zk.length
  ⟨by simp,by simp,by simp,by simp,by simp,by simp[Bk.V],by simp,by simp,.inl ⟨by simp,rfl⟩⟩ ?_
 rintro k U Y Z hk ⟨B,h15,h16,h17,hnx,L,h97,N,F⟩;by_cases p:k<b.zk.length
 ·obtain⟨x,M⟩:=exI (b.zk[k]);have hw:=zlL k;have hE:zJ ((b.zk.map wL.qy).take (k+1))=zJ ((b.zk.map wL.qy).take k)++[[str x.qy]]:=by rw[zR (by simpa using p),List.getElem_map,M];simp[zJ]
  obtain⟨ys,hys⟩:=exI (zJ ((b.zk.map wL.qy).take k));have hyl:ys.length<=2097152:=by rw[<-hys];simp;omega
  rw[hys]at F hE;have J:=F.more (some ⟨50,3,false,[x.V]⟩);have Q:=wg.yL (P:=prog) (t:=88) (c:=[str x.qy]) J XZ BH D2 D3 rfl (by omega) (by unfold maxLen;omega) (by omega);simp only[wL.V]at Q;simp[B,h15,h16,h17,h97,N,p,M,wL.V,Q,hw,zz,zS,zy];have w:=fun Y'=>yl F Y' 0 (vu F L rfl)
  exact⟨by omega,by simp[w,show¬0=Z by omega,L],by rw[hE];simpa using wg.after⟩
 obtain rfl:k=b.zk.length:=by omega
 rw[qq (by simp)]at F;have D:=L;simp only[Bk.V]at D;simp[B,h15,h16,h17,D];refine zI (fun k U Y Z=>U 1=.ref 0 0 0/\U 28=.sl 4 (b.holds.map vK.V)/\U 29=int b.holds.length/\U 30=int k/\1<=Z/\Y 0=some ⟨27,3,false,[b.V]⟩/\gF Y Z (U 97)/\gF Y Z (U 100)/\HolI b k Y Z (U 6) (U 3)) b.holds.length
  ⟨by simp[B],by simp,by simp,by simp,hnx,L,by simp[h97],by simp[N],[],b.zk.map wL.qy,by simp,by simpa using F,by simp,by simp,by simp⟩ ?_
 clear B h15 h16 h17 hnx L D h97 N F hk p U Y Z;rintro k U Y Z hk ⟨B,d,g,m,hnx,L,R,G,before,l,h6,F,hb0,hlk,n⟩;by_cases p:k<b.holds.length
 ·obtain⟨x,M⟩:=exI (b.holds[k]);have hmx:=yv (f:=vK.cb) (zj p);rw[M]at hmx;have hxc:x.cb=1+x.name.length+x.qy.length+yt (fun s=>1+s.length) x.zk:=rfl;have Nh:=wa (f:=fun s:List UInt8=>1+s.length) (fun s=>by omega) x.zk;rw[zc p,M]at n;simp only[yn]at n;have hw:=zlL k;have hnf:xZ x.name before (decide (k=0))=y9 x.name before:=by
   rw[Ky];by_cases k0:k=0
   ·rw[hb0 k0];simp
   ·simp[k0]
  have E:=fun Y Z=>fH (fun a b c=>int (xZ a b c)) x.name before (decide (k=0)) Y Z (by unfold zx;omega) rfl
  simp only[hnf]at E;have w:((k:Int)==0)=decide (k=0):=by rw[qc];simp
  have K:x.qy.length<=zx:=by unfold zx;omega
  have J:=F.more (some ⟨90,4,false,[x.V]⟩);have r:=CD (fun l v=>qz (decide (v∈l))) (v:=x.qy) J (by unfold zx;omega) rfl;simp only[vK.V]at r;have n0:¬0=Z:=by omega
  by_cases c1:y9 x.name before=0
  case neg=>rw[ze c1]at n;have Nl:=nzT c1;simp[B,h6,d,g,m,p,M,vK.V,w,E,Nl,n,f76]
  rw[zd c1]at n;cases s1:YK x.qy
  ·have c2:yV l x.qy=3:=by simp[yV,s1]
   rw[c2]at n;simp at n;simp[B,h6,d,g,m,p,M,vK.V,w,E,c1,K,s1,n,f76]
  by_cases s2:x.qy∈l
  ·have c2:yV l x.qy=7:=by simp[yV,s1,s2]
   rw[c2]at n;simp at n;rw[y8 s2]at r;simp[B,h6,d,g,m,p,M,vK.V,w,E,c1,K,s1,r,n,f76]
  have c2:yV l x.qy=0:=by simp[yV,s1,s2]
  rw[zd c2,Gc c2]at n;rw[jm s2]at r;have A:fD b.zk x=if jD x.buckets 1 100000=true then(if x.zk.length=0 then 9 else Zl b.zk none x.zk)else 1:=rfl
  by_cases r1:x.buckets<1
  ·have c3:jD x.buckets 1 100000=false:=by simp[jD];omega
   rw[c3,ze (by simp)]at A;rw[A]at n;simp at n;simp[B,h6,d,g,m,p,M,vK.V,w,E,c1,K,s1,r,r1,n,f76]
  by_cases r2:100000<x.buckets
  ·have c3:jD x.buckets 1 100000=false:=by simp[jD];omega
   rw[c3,ze (by simp)]at A;rw[A]at n;simp at n;simp[B,h6,d,g,m,p,M,vK.V,w,E,c1,K,s1,r,r1,r2,n,f76]
  have c3:jD x.buckets 1 100000=true:=by simp[jD];omega
  rw[c3,zd rfl]at A;by_cases z:x.zk.length=0
  ·rw[zd z]at A;rw[A]at n;simp at n;have z':x.zk=[]:=qv.1 z;rw[z']at r;simp only[E6]at r;simp[B,h6,d,g,m,p,M,vK.V,w,E,c1,K,s1,r,r1,r2,z',n,f76]
  rw[ze z]at A;have z':((x.zk.length:Int)==0)=false:=by rw[ya];omega
  have z2:x.zk≠[]:=fun e=>z (by rw[e];rfl)
  obtain⟨P,hP⟩:=exI Z;obtain⟨v,S⟩:=exI (U 3);rw[S]at F J r;simp[B,h6,d,g,m,S,p,M,vK.V,w,E,c1,K,s1,r,r1,r2,z',z2];have hP0:1<=P:=by omega
  rw[hP]at J⊢;refine zI (fun j U Y Z=>U 1=.ref 0 0 0/\U 28=.sl 4 (b.holds.map vK.V)/\U 29=int b.holds.length/\U 30=int k/\U 3=v/\U 8=.ref P 0 0/\U 69=.sl 1 (zJ x.zk)/\U 70=int x.zk.length/\U 71=int j/\P<Z/\Y 0=some ⟨27,3,false,[b.V]⟩/\Y P=some ⟨90,4,false,[x.V]⟩/\gF Y Z (U 97)/\gF Y Z (U 100)/\wg Y Z 9 1 v (zJ l)/\Zl b.zk none x.zk=Zl b.zk (QQ x.zk j) (x.zk.drop j)) x.zk.length
   ⟨by simp[B],by simp[d],by simp[g],by simp[m],by simp[S],by simp,by simp,by simp,by simp,(by show P<P+1;omega),by simp[show¬0=P by omega,L],by simp[vK.V],by simpa using(hP ▸ R).keep (by omega) fun id blk hid hb _=>by rw[zt _ _ _ _ (by omega)];exact hb,by simpa using(hP ▸ G).keep (by omega) fun id blk hid hb _=>by rw[zt _ _ _ _ (by omega)];exact hb,by simpa[vK.V]using J,by simp[QQ]⟩ ?_
  clear B h6 d g m S F J r hP R G L n0 E hnx U Y Z;rintro j U Y Z hj ⟨B,d,g,m,S,h8,T,W,X,SS,L,bP,R,G,F,o⟩;have n0:¬0=Z:=by omega
  have nP:¬P=Z:=by omega
  by_cases H:j<x.zk.length
  ·obtain⟨s,hs⟩:=exI (x.zk[j]);have OJ:∀h:j<(zJ x.zk).length,(zJ x.zk)[j]=[str s]:=fun h=>by simp[zJ,hs]
   have hwj:=zlL j;rw[Gi H,hs]at o;have C:=fun Y Z=>OI s Y Z
   have D:=L;have I:=bP;simp only[Bk.V]at D;simp only[vK.V]at I;rcases bL hu s with⟨f1,q,hq,_,f2⟩|⟨f1,f2⟩
   ·rw[f1,zd rfl]at o;obtain⟨y,hy⟩:=exI (b.zk[q]);rw[hy]at f2;simp only[f2,W7]at C;have hfin:∀t2,Zl b.zk none x.zk=Zl b.zk (QQ x.zk (j+1)) (x.zk.drop (j+1))->(gF (qR Y Z t2) (Z+1) (U 97)/\gF (qR Y Z t2) (Z+1) (U 100)/\wg (qR Y Z t2) (Z+1) 9 1 v (zJ l)/\Zl b.zk none x.zk=Zl b.zk (QQ x.zk (j+1)) (x.zk.drop (j+1))):=fun t2 h=>
     ⟨R.keep (by omega) fun id blk hid hb _=>by rw[zt _ _ _ _ (by omega)];exact hb,G.keep (by omega) fun id blk hid hb _=>by rw[zt _ _ _ _ (by omega)];exact hb,F.more _,h⟩
    by_cases j0:j=0
    ·subst j0;have Y0:leP (QQ x.zk 0) s=false:=rfl;rw[Y0,ze (by simp)]at o;have zlO:=fun t2=>hfin t2 o
     simp only[wJ,List.drop_one]at zlO;simp[B,d,g,m,S,h8,T,W,X,H,OJ,D,I,n0,nP,C,hwj];exact⟨by omega,by omega,rfl,rfl,zlO _⟩
    ·obtain⟨i,rfl⟩:∃i,j=i+1:=⟨j-1,by omega⟩;have hi:i<x.zk.length:=by omega
     obtain⟨u,hu'⟩:=exI (x.zk[i]);have hki:∀h:i<(zJ x.zk).length,(zJ x.zk)[i]=[str u]:=fun h=>by simp[zJ,hu']
     have wj:IntKind.i64.wrap ((i:Int)+1-1)=(i:Int):=by rw[zi (by omega) (by omega)];omega
     have wj':=zpg (i:Int);have j1:((i:Int)+1).toNat=i+1:=by omega
     have j2:0<(i:Int)+1:=by omega
     have j3:0<=(i:Int)+1:=by omega
     have j4:(i:Int)+1<x.zk.length:=by omega
     have wk:=zpg ((i:Int)+1+1);have hpl:leP (QQ x.zk (i+1)) s=K3 s u:=by simp[QQ,hi,hu',leP]
     have hle:(Op.bytesLess s u||s==u)=K3 s u:=rfl;rw[hpl]at o;cases hc:K3 s u
     ·rw[hc,ze (by simp)]at o;rw[hc]at hle;simp[B,d,g,m,S,h8,T,W,X,H,hi,OJ,hki,D,I,n0,nP,C,wk,wj,wj',j1,j2,j3,j4,hle];exact⟨by omega,by omega,rfl,rfl,hfin _ o⟩
     ·rw[hc,zd rfl]at o;rw[hc]at hle;rw[A,o]at n;simp at n;simp[B,d,g,m,S,h8,T,W,X,H,hi,OJ,hki,D,I,n0,nP,C,hwj,wj,wj',j1,j2,j3,j4,hle,n,f76]
   ·rw[f1,ze (by simp)]at o;rw[A,o]at n;simp at n;simp only[f2,Xo]at C;simp[B,d,g,m,S,h8,T,W,X,H,OJ,D,I,n0,nP,C,n,f76]
  ·obtain rfl:j=x.zk.length:=by omega
   rw[zo]at o;simp only[Zl]at o;rw[A,o,zd rfl]at n;have Q:=wg.yL (P:=prog) (t:=88) (c:=[str x.qy]) F XZ BH D2 D3 rfl (by omega) (by rw[wF];unfold maxLen;omega) (by rw[wF];omega);rw[zpk]at Q;have I:=bP;simp only[vK.V]at I;simp[B,d,g,m,S,h8,T,W,X];rw[YY (Ge (by decide) (by
    intro s hs;simp at hs;rcases hs with rfl|rfl|rfl
    ·simp only[wM _ _ _ _ (show(8:Nat)≠72 by decide),h8];exact Vv (by omega) bP rfl
    ·simp;exact R
    ·simp;exact G))]
   simp[B,d,g,m,S,h8,hw,I,n0,nP,Q,zz,zS,zy];have w:=fun Y'=>yl F Y' 0 (vu F L rfl)
   exact⟨by omega,by simp[w,n0,L],Vv (by omega) (bM F (by omega) bP rfl) rfl,Vv (by omega) (bM F (by omega) bP rfl) rfl,x.name,l++[x.qy],rfl,wg.zcf,by simp,by simp;omega,n⟩
 ·obtain rfl:k=b.holds.length:=by omega
  rw[zo]at n;simp only[yn]at n;simp[B,d,g,m,n,f76]
theorem fL:zg prog 76 (zf false [] (FBu fun b=>int (yn b.zk [] (b.zk.map wL.qy) b.holds).1)):=
 pS1 zdz func76 false [] fun b ⟨a,c⟩=>⟨by simp[f76],_,Gj b a c,zW _⟩
def rD(l:List yM)(k:Nat):Option yM:=if k=0 then none else l[k-1]?
abbrev qrph:List Nat:=[152]
noncomputable abbrev Crph:Ctx:=zQ prog [(14,zf false [] (ep QP)),(172,zf false [] (FP (fun l=>int (yG l)) fun _=>True)),(152,zf false [] (Ua (fun a b=>qz (decide (a=b))) fun a _=>a.length<=zx))]
theorem zdA:AM.Good Crph (fun g=>qrph.contains g):=zw mixed ⟨KS,by simp,eO,by simp,B0,fun _=>zu _ _,trivial⟩
theorem CM(l:List yM)(h:yt yM.cb l<=zx):zr Crph f132 [.sl 2 (l.map yM.V)]=some (int (yY l)):=by
 have N:=wa Kw l;unfold zx at h;refine zm rfl ?_;rw[<-CK];by_cases r:(50:Int)<l.length
 ·have I:Vu l=2:=by unfold Vu;rw[zd r]
  simp[r,I,f132]
 have I:Vu l=CJ none l:=by unfold Vu;rw[ze r]
 rw[I];simp[r];refine zI (fun k U Y Z=>U 0=.sl 2 (l.map yM.V)/\U 9=.sl 2 (l.map yM.V)/\U 10=int l.length/\U 11=int k/\CJ none l=CJ (rD l k) (l.drop k)) l.length
  ⟨by simp,by simp,by simp,by simp,by simp[rD]⟩ ?_
 rintro k U Y Z hk ⟨s,t,g,i,c⟩;by_cases d:k<l.length
 ·have Q:=yv (f:=yM.cb) (zj d);obtain⟨x,p⟩:=exI (l[k]);have J:rD l (k+1)=some x:=by simp[rD,d,p]
  rw[p]at Q;have R:x.cb=1+x.w7.length:=rfl;rw[zc d,p]at c;simp only[CJ]at c;rw[<-J]at c;have m:=fun Y Z=>NH (fun l=>int (yG l)) (fun _=>True) x.w7 Y Z trivial
  have S:=zlL k;cases q:QP x.at_
  ·rw[q,ze (by simp)]at c;simp[s,t,g,i,d,p,yM.V,q,c,f132]
  rw[q,zd rfl]at c;by_cases T:k=0
  ·subst T;have W:rD l 0=none:=rfl;rw[W]at c;simp only[zF,qJ]at c;by_cases n:yG x.w7=0
   ·rw[zd n]at c;cases w:x.w7.isEmpty
    ·rw[w,ze (by simp)]at c;have K:((x.w7.length:Int)==0)=false:=by rw[ya];intro e;have:x.w7=[]:=qv.1 (by omega);rw[this]at w;cases w
     have u:x.w7≠[]:=fun e=>by rw[e]at w;cases w
     simp[s,t,g,i,d,p,yM.V,q,m,n,K,u,S];exact⟨by omega,by simpa using c⟩
    ·rw[w,zd rfl]at c;have u:x.w7=[]:=by simpa using w
     rw[u]at m n;simp only[XD]at m;simp[s,t,g,i,d,p,yM.V,q,m,n,u,c,f132]
   ·rw[ze n]at c;have z:=nzT n;simp[s,t,g,i,d,p,yM.V,q,m,n,z,c,f132]
  ·obtain⟨j,rfl⟩:∃j,k=j+1:=⟨k-1,by omega⟩;have A:j<l.length:=by omega
   obtain⟨y,B⟩:=exI (l[j]);have L:=yv (f:=yM.cb) (zj A);rw[B]at L;have X:y.cb=1+y.w7.length:=rfl;have C:IntKind.i64.wrap ((j:Int)+1-1)=(j:Int):=by rw[zi (by omega) (by omega)];omega
   have v:=zpg (j:Int);have D:((j:Int)+1).toNat=j+1:=by omega
   have E:0<(j:Int)+1:=by omega
   have F:0<=(j:Int)+1:=by omega
   have G:(j:Int)+1<l.length:=by omega
   have P:((j:Int)+1==0)=false:=by rw[ya];omega
   have M:rD l (j+1)=some y:=by simp[rD,A,B]
   have H:=fun Y Z=>ph (fun a b=>qz (decide (a=b))) (fun a _=>a.length<=zx) x.w7 y.w7 Y Z (by unfold zx;omega)
   rw[M]at c;simp only[zP]at c;by_cases o:x.at_<=y.at_
   ·rw[zd o]at c;simp[s,t,g,i,d,A,p,B,yM.V,q,C,v,D,E,F,G,o,c,f132]
   ·rw[ze o]at c;by_cases n:yG x.w7=0
    ·rw[zd n]at c;by_cases hs:x.w7=y.w7
     ·rw[zd hs]at c;rw[y8 hs]at H;simp[s,t,g,i,d,A,p,B,yM.V,q,C,v,D,E,F,G,P,o,m,n,H,c,f132]
     ·rw[ze hs]at c;rw[jm hs]at H;have wk:=zpg ((j:Int)+1+1);simp[s,t,g,i,d,A,p,B,yM.V,q,C,v,D,E,F,G,P,o,m,n,H,wk];exact⟨by omega,c⟩
    ·rw[ze n]at c;have z:=nzT n;simp[s,t,g,i,d,A,p,B,yM.V,q,C,v,D,E,F,G,o,m,n,z,c,f132]
 ·obtain rfl:k=l.length:=by omega
  rw[zo]at c;simp only[CJ]at c;simp[s,t,g,i,c,f132]
theorem cQ:zg prog 132 (zf false [] (FPh fun l=>int (yY l))):=
 pS1 zdA func132 false [] fun l a=>⟨by simp[f132],_,CM l a,zW _⟩
noncomputable def FClR:zb->Option O:=z6 (α:=Xp×Xp×Int) (fun a=>[.agg a.1.V,.agg a.2.1.V,int a.2.2]) (fun a=>a.1.um/\a.2.1.um/\0<=a.2.2/\a.2.2<=100000000) (fun a=>qz (x0 a.1 a.2.1 a.2.2))
theorem bN(a b:Xp)(c:Int)(Y:Hp)(Z:Nat)(h:a.um/\b.um/\0<=c/\c<=100000000):zf false [] FClR [.agg a.V,.agg b.V,int c] Y Z=some (qz (x0 a b c),Y,Z):=
 hPc (a,b,c) _ _ (by simp only[zv,bI];rfl) (fun x y e=>by obtain⟨d,f,g⟩:=x;obtain⟨i,j,k⟩:=y;simp only[zh,zD,O.agg.injEq]at e;rw[dC e.1,dC e.2.1,qB e.2.2]) h (.inl rfl)
noncomputable abbrev N3:Ctx:=zQ prog [(133,zf false [] (FXn fun x i=>int (fI x.zN i))),(134,zf false [] (Ua (fun a b=>qz (kh a b)) fun a b=>a.length<=zx/\b.length<=zx))]
theorem zal:AM.Good N3 (fun g=>[133,134].contains g):=zw mixed ⟨Mb,fun _=>zu _ _,CG,fun _=>zu _ _,trivial⟩
@[simp]theorem zhi:kg N3 133:=yI (by rfl) (zu _ _)
@[simp]theorem zhj:kg N3 134:=yI (by rfl) (zu _ _)
theorem Md{l:List yM}(h:Xl l)(i:Nat):0<=fI l i/\fI l i<=1125899906842624:=by
 unfold fI;split
 ·rename_i p Y;have:=h p (zM Y);omega
 ·omega
theorem zam{a b:List yM}{c:Int}{i:Nat}{l:List yM}(h:i<l.length):S5 a b c i (l.drop i)=(b.any (tF a i l[i] c)||S5 a b c (i+1) (l.drop (i+1))):=by rw[zc h,S5]
theorem Gk(a b:Xp)(c:Int)(X:a.um)(hb:b.um)(hr:0<=c/\c<=100000000):zr N3 f78 [.agg a.V,.agg b.V,int c]=some (qz (x0 a b c)):=by
 obtain⟨B,G⟩:=X;obtain⟨H,I⟩:=hb;have hla:=wa Kw a.zN;have hlb:=wa Kw b.zN;have xca:a.cb=a.name.length+a.wE.length+a.flag.length+a.cond.cb+a.qy.length+a.xR.length+yt yM.cb a.zN:=rfl;have xcb:b.cb=b.name.length+b.wE.length+b.flag.length+b.cond.cb+b.qy.length+b.xR.length+yt yM.cb b.zN:=rfl;unfold zx at G I;refine zm rfl ?_;simp[qD];have C:x0 a b c=S5 a.zN b.zN c 0 a.zN:=rfl;refine zI (fun i U Y Z=>U 2=int c/\U 3=.ref 0 0 0/\U 4=.ref 1 0 0/\U 12=.sl 2 (a.zN.map yM.V)/\U 13=int a.zN.length/\U 14=int i/\2<=Z/\Y 0=some ⟨74,13,false,[a.V]⟩/\Y 1=some ⟨74,13,false,[b.V]⟩/\x0 a b c=S5 a.zN b.zN c i (a.zN.drop i)) a.zN.length
  ⟨by simp,by simp,by simp,by simp,by simp,by simp,by simp,by simp[qD],by simp[qD],by rw[C];simp⟩ ?_
 rintro i U Y Z hi ⟨o,r,s,d,e,g,J,t,u,j⟩;by_cases m:i<a.zN.length
 ·obtain⟨p,n⟩:=exI (a.zN[i]);have hpm:=B p (by rw[<-n];exact zj m);have hsp:=yv (f:=yM.cb) (show p∈a.zN by rw[<-n];exact zj m);have hpc:p.cb=1+p.w7.length:=rfl;rw[zam m,n]at j;have K:=zlL i;have D:¬0=Z:=by omega
  have n1:¬1=Z:=by omega
  simp[o,r,s,d,e,g,m,n,yM.V,t,u,D,n1,qD];obtain⟨P,Q⟩:=exI Z;rw[Q];have hea:=Md B i;refine zI (fun k U Y Z=>U 2=int c/\U 3=.ref 0 0 0/\U 4=.ref 1 0 0/\U 12=.sl 2 (a.zN.map yM.V)/\U 13=int a.zN.length/\U 14=int i/\U 7=int i/\U 8=.ref P 0 0/\U 20=.sl 2 (b.zN.map yM.V)/\U 21=int b.zN.length/\U 22=int k/\2<=P/\P<Z /\
    Y 0=some ⟨74,13,false,[a.V]⟩/\Y 1=some ⟨74,13,false,[b.V]⟩/\Y P=some ⟨118,2,false,[p.V]⟩/\x0 a b c=((b.zN.drop k).any (tF a.zN i p c)||S5 a.zN b.zN c (i+1) (a.zN.drop (i+1)))) b.zN.length
   ⟨by simp[o],by simp[r],by simp[s],by simp[d],by simp[e],by simp[g],by simp,by simp,by simp,by simp,by simp,by omega,(by show P<P+1;omega),by simp[t,show¬0=P by omega],by simp[u,show¬1=P by omega],by simp[yM.V],by simpa using j⟩ ?_
  clear o r s d e g J t u D n1 Q hi U Y Z;rintro k U Y Z hk ⟨o,r,s,d,e,g,R,S,w,y,z,L,SS,t,u,M,j⟩;by_cases h:k<b.zN.length
  ·obtain⟨q,l⟩:=exI (b.zN[k]);have hqm:=H q (by rw[<-l];exact zj h);have hsq:=yv (f:=yM.cb) (show q∈b.zN by rw[<-l];exact zj h);have hqc:q.cb=1+q.w7.length:=rfl;rw[zc h,wN,l]at j;have N:=zlL k;have T:=zpg (fI a.zN i+c);have A:=fun Y Z=>zai (fun x i=>int (fI x.zN i)) a i Y Z ⟨by unfold zx;omega,by unfold zx;omega⟩
   have E:=fun Y Z=>ph (fun a b=>qz (kh a b)) (fun a b=>a.length<=zx/\b.length<=zx) p.w7 q.w7 Y Z ⟨by unfold zx;omega,by unfold zx;omega⟩
   have D:¬0=Z:=by omega
   have n1:¬1=Z:=by omega
   have W:¬P=Z:=by omega
   have v:(decide (p.at_<=q.at_)&&decide (q.at_<fI a.zN i+c)&&kh p.w7 q.w7)=tF a.zN i p c q:=rfl;rw[yM.V]at M;rw[qD]at t u A;cases F:tF a.zN i p c q
   ·rw[F]at j;simp[o,r,s,R,S,d,e,g,w,y,z,h,l,yM.V,t,u,M,D,n1,W,A,E,T,v,F,N];exact⟨by omega,L,by omega,(qD a).symm,(qD b).symm,by rw[j];simp⟩
   ·rw[F]at j;simp[o,r,s,R,S,d,e,g,w,y,z,h,l,yM.V,t,u,M,D,n1,W,A,E,T,v,F,j,f78]
  ·obtain rfl:k=b.zN.length:=by omega
   rw[zo,List.any_nil,ye]at j;simp[o,r,s,d,e,g,w,y,z,K];exact⟨by omega,by omega,by rw[<-qD];exact t,by rw[<-qD];exact u,j⟩
 ·obtain rfl:i=a.zN.length:=by omega
  rw[zo]at j;simp only[S5]at j;simp[o,r,s,d,e,g,j,f78]
theorem fM:zg prog 78 (zf false [] FClR):=
 pS1 zal func78 false [] fun⟨a,b,c⟩ ⟨d,e,f⟩=>⟨by simp[f78],_,Gk a b c d e f,zW _⟩
theorem CN:∀a b:za,B8 a b=yK a b
 |[],[]=>by simp[B8,yK,Lib.compareBytes,Op.bytesLess]
 |[],_::_=>by simp[B8,yK,Lib.compareBytes,Op.bytesLess]
 |_::_,[]=>by simp[B8,yK,Lib.compareBytes,Op.bytesLess]
 |a::x,b::y=>by
  have d:=CN x y;unfold B8 yK at d⊢;rcases Ct a b with h|rfl|h
  ·simp[Lib.compareBytes,Op.bytesLess,h]
  ·simpa[Lib.compareBytes,Op.bytesLess,dx]using d
  ·have c:¬a=b:=fun e=>dx b (e ▸ h)
   simp[Lib.compareBytes,Op.bytesLess,h,rb h,c]
theorem bO{a b:Int}(h:wR a b=0):a=b:=by
 unfold wR at h;split at h
 ·cases h
 ·split at h
  ·cases h
  ·omega
theorem rE{α:Type}(c:α->α->Int){a b:List α}{m:Nat}(f:m<=a.length)(g:m<=b.length)(h:m=a.length\/m=b.length):yr c (a.drop m) (b.drop m)=wR a.length b.length:=by
 unfold wR;by_cases e:m<a.length
 ·have d:m=b.length:=by omega
  rw[zc e,jH (l:=b) (by omega),ze (by omega),zd (by omega)];rfl
 ·rw[jH (l:=a) (by omega)];by_cases d:m<b.length
  ·rw[zc d,zd (by omega)];rfl
  ·rw[jH (l:=b) (by omega),ze (by omega),ze (by omega)];rfl
theorem CO(a b:Nat):∃m:Nat,(if b<a then(b:Int)else a)=m/\m<=a/\m<=b/\(m=a\/m=b):=by
 by_cases h:b<a
 ·exact⟨b,by rw[zd h],by omega,zl _,.inr rfl⟩
 ·exact⟨a,by rw[ze h],zl _,by omega,.inl rfl⟩
theorem iS(f g:za×qn):ka f g=if yK f.1 g.1=0 then qV f.2 g.2 else yK f.1 g.1:=by
 unfold ka;simp only[Xb];split
 ·split
  ·rename_i h;rw[h]
  ·rfl
 ·rfl
noncomputable abbrev Crcm (n:Nat):Ctx:=zQ prog [(217,zf false [] (Uu n)),(187,zf false [] (F2I wR)),(270,zf false [] (PE B8))]
theorem tG(n:Nat)(a b:qn)(h:a.vb<=zx/\a.vb<=n+1/\b.vb<=zx):zr (Crcm n) f217 [.agg a.V,.agg b.V]=some (int (qV a b)):=by
 obtain⟨M,p,o⟩:=h;have X:=Zp a;have vb:=Zp b;have la:=ju a.items;have lb:=ju b.items;have fa:=jV a.fields;have fb:=jV b.fields;unfold zx at M o;refine zm rfl ?_;have c:=Ve a b;by_cases A:a.kind=b.kind
 case neg=>
  rw[ze A]at c;have F:(wR a.kind b.kind != 0)=true:=by rw[zeO];exact fun e=>A (bO e)
  simp[F,c,f217]
 rw[zd A]at c;by_cases G:a.kind=1
 ·rw[zd (.inl G)]at c;have q:b.kind=1:=by omega
  simp[G,q,c,f217]
 by_cases H:a.kind=2
 ·rw[zd (.inr H)]at c;have q:b.kind=2:=by omega
  simp[H,q,c,f217]
 rw[ze (by omega)]at c;by_cases C:a.kind=3
 ·rw[zd C]at c;have q:b.kind=3:=by omega
  have hs:=CN a.s b.s;simp[C,q,c,hs,f217]
 rw[ze C]at c;by_cases D:a.kind=4
 ·rw[zd D]at c;have q:b.kind=4:=by omega
  obtain⟨m,I,v,w,x⟩:=CO a.items.length b.items.length;rw[c];simp[D,q,I];refine zI (fun k U Y Z=>U 2=.ref 0 0 0/\U 3=.ref 1 0 0/\U 43=int m/\U 44=int k/\Y 0=some ⟨61,5,false,[a.V]⟩/\Y 1=some ⟨61,5,false,[b.V]⟩/\yr qV a.items b.items=yr qV (a.items.drop k) (b.items.drop k)) m
   ⟨by simp,by simp,by simp,by simp,by simp,by simp,by simp⟩ ?_
  rintro k U Y Z A ⟨p,o,i,j,t,u,d⟩;by_cases l:k<m
  ·have f:k<a.items.length:=by omega
   have g:k<b.items.length:=by omega
   have N:=kD (zj f);have P:=kD (zj g);have B:=fun Y Z=>YG n a.items[k] b.items[k] Y Z ⟨by unfold zx;omega,by omega,by unfold zx;omega⟩
   have J:=zlL k;rw[zc f,zc g]at d;simp only[yr]at d;by_cases r:qV a.items[k] b.items[k]=0
   ·rw[zd r]at d;simp[p,o,i,j,t,u,l,f,g,B,r,J];exact⟨l,d⟩
   ·rw[ze r]at d;have y:=nzT r;simp[p,o,i,j,t,u,l,f,g,B,y,d,f217]
  ·obtain rfl:k=m:=by omega
   rw[rE qV v w x]at d;simp[p,o,i,j,t,u,d,f217]
 rw[ze D]at c;by_cases E:a.kind=5
 ·rw[zd E]at c;have q:b.kind=5:=by omega
  obtain⟨m,I,v,w,x⟩:=CO a.fields.length b.fields.length;rw[c];simp[E,q,I];refine zI (fun k U Y Z=>U 2=.ref 0 0 0/\U 3=.ref 1 0 0/\U 77=int m/\U 78=int k/\Y 0=some ⟨61,5,false,[a.V]⟩/\Y 1=some ⟨61,5,false,[b.V]⟩/\yr ka a.fields b.fields=yr ka (a.fields.drop k) (b.fields.drop k)) m
   ⟨by simp,by simp,by simp,by simp,by simp,by simp,by simp⟩ ?_
  rintro k U Y Z A ⟨p,o,i,j,t,u,d⟩;by_cases l:k<m
  ·have f:k<a.fields.length:=by omega
   have g:k<b.fields.length:=by omega
   have N:=xr (zj f);have P:=xr (zj g);have B:=fun Y Z=>YG n a.fields[k].2 b.fields[k].2 Y Z ⟨by unfold zx;omega,by omega,by unfold zx;omega⟩
   have hs:=CN a.fields[k].1 b.fields[k].1;have J:=zlL k;rw[zc f,zc g]at d;simp only[yr]at d;rw[iS]at d;by_cases z:yK a.fields[k].1 b.fields[k].1=0
   ·rw[zd z]at d;by_cases r:qV a.fields[k].2 b.fields[k].2=0
    ·rw[zd r]at d;simp[p,o,i,j,t,u,l,f,g,B,hs,z,r,J];exact⟨l,d⟩
    ·rw[ze r]at d;have y:=nzT r;simp[p,o,i,j,t,u,l,f,g,B,hs,z,y,d,f217]
   ·rw[ze z,ze z]at d;have K:=eqF0 z;have L:=nzT z;simp[p,o,i,j,t,u,l,f,g,B,hs,K,L,d,f217]
  ·obtain rfl:k=m:=by omega
   rw[rE ka v w x]at d;simp[p,o,i,j,t,u,d,f217]
 rw[ze E]at c;have Q:=eqF0 G;have R:=eqF0 H;have S:=eqF0 C;have T:=eqF0 D;have W:=eqF0 E;have F:wR a.kind b.kind=0:=by rw[A];simp
 simp[F,Q,R,S,T,W,c,f217]
theorem aK:∀n,zg prog 217 (zf false [] (Uu n)):=by
 intro n
 induction n with
 |zero=>
  exact im ⟨_,func217,by kernel_rfl,by kernel_rfl⟩ fun args r h=>by obtain⟨a,b,_,f,_⟩:=nJ h;have:=JT a;omega
 |succ n c=>
  have d:Gd (Crcm n):=zph mixed ⟨c,WV,pF,trivial⟩;exact zX (fn:=f217) d (zpi func217) false [] _ fun args r h=>by obtain⟨a,b,rfl,e,rfl⟩:=nJ h;exact⟨zG (zl 2) (by decide),_,tG n a b e,zW _⟩
def KU(s:Int×Bool):Bool:=s.2||decide (200<s.1)
def AG(s r:Int×Bool):Int×Bool:=if KU s then s else(s.1+r.1,s.2||r.2)
mutual
def qO.rp:qO->Int->Int×Bool
 | .mk _ _ _ _ _ _ xs,l=>D0 xs l (1,decide (20<l))
def D0:List qO->Int->Int×Bool->Int×Bool
 |[],_,s=>s
 |c::cs,l,s=>D0 cs l (AG s (c.rp (l+1)))
end
theorem zan(c:qO)(l:Int):c.rp l=D0 c.args l (1,decide (20<l)):=by cases c;rfl
theorem fN{l:Int}{s:Int×Bool}(h:KU s=true):∀xs:List qO,D0 xs l s=s
 |[]=>rfl
 |c::cs=>by have:AG s (c.rp (l+1))=s:=zd h;simp only[D0];rw[this];exact fN h cs
theorem zao{xs:List qO}{l:Int}{s:Int×Bool}{k:Nat}(h:k<xs.length):D0 (xs.drop k) l s=D0 (xs.drop (k+1)) l (AG s (xs[k].rp (l+1))):=by rw[zc h,D0]
structure RPC (xs:List qO) (l:Int) (s r:Int×Bool):Prop where
 lo:s.1<=r.1
 hi:r.1<=s.1+jw xs
 deep:r.2=true->s.2=true\/20<l+(jl xs:Int)
 all:KU r=false->r.1=s.1+jw xs/\(xs≠[]->l+(jl xs:Int)<=20)
theorem Gl(c:qO):∀l,0<=(c.rp l).1/\(c.rp l).1<=c.parts/\((c.rp l).2=true->20<l+(c.levels:Int)-1)/\(KU (c.rp l)=false->(c.rp l).1=c.parts/\l+(c.levels:Int)-1<=20):=by
 induction c using qO.ind with
 |h k a o v p n ys C=>
  intro l;have m:∀(xs:List qO) (s:Int×Bool),0<=s.1->(∀x∈xs,x∈ys)->RPC xs l s (D0 xs l s):=by
   intro xs
   induction xs with
   |nil=>intro s _ _;exact⟨by simp[D0],by simp[D0,jw],fun h=>.inl (by simpa[D0]using h),fun _=>⟨by simp[D0,jw],fun h=>absurd rfl h⟩⟩
   |cons x xs q=>
    intro s I B;by_cases g:KU s=true
    ·rw[fN g];exact⟨by omega,by omega,fun h=>.inl h,fun h=>by rw[g]at h;cases h⟩
    ·have e:D0 (x::xs) l s=D0 xs l (s.1+(x.rp (l+1)).1,s.2||(x.rp (l+1)).2):=by simp only[D0,AG,g];rfl
     rw[e];obtain⟨J,K,D,E⟩:=C x (B x (by simp)) (l+1);have i:=q (s.1+(x.rp (l+1)).1,s.2||(x.rp (l+1)).2) (by simp only;omega) (fun y F=>B y (by simp[F]));have b:jw (x::xs)=x.parts+jw xs:=by simp[jw]
     have d:jl (x::xs)=max x.levels (jl xs):=by simp[jl]
     have r:=i.lo;have t:=i.hi;simp only at r t;refine⟨by omega,by rw[b];omega,fun h=>?_,fun h=>?_⟩
     ·rw[d];rcases i.deep h with h|h
      ·simp only[qd]at h;rcases h with h|h
       ·exact .inl h
       ·right;have:=D h;omega
      ·right;omega
     ·obtain⟨u,w⟩:=i.all h;have z:KU (x.rp (l+1))=false:=by
       simp only[KU,wZ,jr]at h g⊢;refine⟨?_,by omega⟩;cases hd:(x.rp (l+1)).2 with
       |false=>rfl
       |true=>
        exfalso;have A:KU (s.1+(x.rp (l+1)).1,s.2||(x.rp (l+1)).2)=true:=by simp[KU,hd]
        rw[fN A]at h;simp[hd]at h
      obtain⟨L,M⟩:=E z;simp only at u;refine⟨by rw[b];omega,fun _=>?_⟩;rw[d];by_cases f:xs=[]
      ·subst f;simp only[jl];omega
      ·have:=w f;omega
  have j:=m ys (1,decide (20<l)) (by simp) fun x z=>z
  rw[zan,bA,di];simp only[qO.args];have G:=j.lo;have H:=j.hi;simp only at G H;refine⟨by omega,by omega,fun h=>?_,fun h=>?_⟩
  ·rcases j.deep h with h|h
   ·simp at h;omega
   ·omega
  ·obtain⟨u,w⟩:=j.all h;simp only at u;refine⟨by omega,?_⟩;by_cases f:ys=[]
   ·rw[f]at h⊢;simp[D0,KU]at h;simp only[jl];omega
   ·have:=w f;omega
theorem Rf(c:qO):KU (c.rp 1)=(decide ((200:Int)<c.parts)||decide ((20:Int)<c.levels)):=by
 obtain⟨e,f,b,d⟩:=Gl c 1;rw[qc];constructor
 ·intro h;simp only[KU,qd,zP]at h⊢;rcases h with h|h
  ·right;have:=b h;omega
  ·left;omega
 ·intro h;refine xy fun a=>?_
  have a:KU (c.rp 1)=false:=by simpa using a
  obtain⟨g,i⟩:=d a;simp only[KU,wZ,jr]at a;simp only[qd,zP]at h;omega
theorem AH(a b:Int):wR a b<0↔0<wR b a:=by
 unfold wR;by_cases c:a<b
 ·rw[zd c,ze (by omega),zd c];omega
 ·by_cases d:b<a
  ·rw[ze c,zd d,zd d];omega
  ·rw[ze c,ze d,ze d,ze c]
theorem iT(a b:za):yK a b<0↔0<yK b a:=by
 have d:=Ju a b;have f:=Ju b a;have i:=vN a b;have g:=vN b a;constructor
 ·intro h;have j:=d.1 h;have n:¬yK b a<0:=fun c=>by have:=xi j (f.1 c);rw[aI]at this;cases this
  have o:¬yK b a=0:=fun e=>by have:=g.1 e;have:=i.2 this.symm;omega
  omega
 ·intro h;refine xy fun c=>?_
  have k:¬a=b:=fun e=>by have:=g.2 e.symm;omega
  have l:K3 a b=false:=by
   unfold K3;rw[wZ];refine⟨?_,by simpa using k⟩;cases m:Op.bytesLess a b with
   |false=>rfl
   |true=>exact absurd (d.2 m) c
  have:=f.2 (xH l);omega
theorem iU{α:Type}{c:α->α->Int}:∀{a b:List α},(∀x∈a,∀y∈b,c x y<0↔0<c y x)->(∀x∈a,∀y∈b,c x y=0↔c y x=0)->(yr c a b<0↔0<yr c b a)/\(yr c a b=0↔yr c b a=0)
 |[],[],_,_=>by simp[yr]
 |[],_::_,_,_=>by simp[yr]
 |_::_,[],_,_=>by simp[yr]
 |x::a,y::b,h,i=>by
  have j:=iU (a:=a) (b:=b) (fun u d v f=>h u (by simp[d]) v (by simp[f])) (fun u d v f=>i u (by simp[d]) v (by simp[f]));have k:=h x (by simp) y (by simp);have g:=i x (by simp) y (by simp);simp only[yr];by_cases e:c x y=0
  ·rw[zd e,zd (g.1 e)];exact j
  ·rw[ze e,ze fun l=>e (g.2 l)];exact⟨k,g⟩
theorem iV{α:Type}{c:α->α->Int}{x y:α}(a:c x y<0↔0<c y x)(b:c y x<0↔0<c x y):c x y=0↔c y x=0:=by omega
theorem mu:∀(n:Nat) (a b:qn),a.vb+b.vb<=n->(qV a b<0↔0<qV b a)
 | 0,a,b,h=>by have:=JT a;omega
 |n+1,a,b,h=>by
  have i:=mu n;have q:=Zp a;have r:=Zp b;rw[Ve a b,Ve b a];by_cases g:a.kind=b.kind
  case neg=>rw[ze g,ze fun e=>g e.symm];exact AH _ _
  rw[zd g,zd g.symm,<-g];split
  ·exact AH _ _
  split
  ·exact iT _ _
  split
  ·have f:∀x∈a.items,∀y∈b.items,(qV x y<0↔0<qV y x)/\(qV y x<0↔0<qV x y):=fun x c y d=>by have:=kD c;have:=kD d;exact⟨i x y (by omega),i y x (by omega)⟩
   exact(iU (fun x c y d=>(f x c y d).1) fun x c y d=>iV (f x c y d).1 (f x c y d).2).1
  split
  ·have f:∀x∈a.fields,∀y∈b.fields,(ka x y<0↔0<ka y x)/\(ka y x<0↔0<ka x y):=fun x c y d=>by
    have:=xr c;have:=xr d;have m:=i x.2 y.2 (by omega);have o:=i y.2 x.2 (by omega);have j:=iT x.1 y.1;have k:=iT y.1 x.1;have l:=iV j k;rw[iS,iS];by_cases e:yK x.1 y.1=0
    ·rw[zd e,zd (l.1 e)];exact⟨m,o⟩
    ·rw[ze e,ze fun p=>e (l.2 p)];exact⟨j,k⟩
   exact(iU (fun x c y d=>(f x c y d).1) fun x c y d=>iV (f x c y d).1 (f x c y d).2).1
  ·simp
theorem Gm(a b:qn):qV b a<=0↔0<=qV a b:=by have:=mu _ a b (zl _);omega
def rF(c:qO):Bool:=!((!(c.kind==4)&&(!c.attr.isEmpty||c.op != 0))||(c.kind != 5&&!c.name.isEmpty))&&!((!((c.kind==4)&&Kr c.op)&&decide (0<c.yC.length))||(!((c.kind==4)&&ZW c.op)&&!c.pat.isEmpty)) &&
 (if c.kind=3 then(c.args.length:Int)==1 else if c.kind=4\/c.kind=5 then((c.args.length:Int)==0&&(!jx c.op||(c.yC.length:Int)==1))else true)
theorem Rh(c:qO)(h:jD c.kind 1 5=true):rF c=!ZX c:=by
 have j:c.kind=1\/c.kind=2\/c.kind=3\/c.kind=4\/c.kind=5:=by simp[jD]at h;omega
 have s:(decide (0<c.args.length))=!((c.args.length:Int)==0):=by
  cases c.args with
  |nil=>rfl
  |cons x l=>simp;omega
 have b:((c.yC.length:Int) != 1)=!((c.yC.length:Int)==1):=rfl;have d:((c.args.length:Int) != 1)=!((c.args.length:Int)==1):=rfl;have f:(c.op != 0)=!(c.op==0):=rfl;have t:c.op=0->jx c.op=false:=fun e=>by rw[e];rfl
 unfold rF ZX w1F w2F w3F w4F w5F w6F w7F;rw[s,b,d,f];generalize c.attr.isEmpty=m;generalize c.name.isEmpty=n;generalize decide (0<c.yC.length)=o;generalize c.pat.isEmpty=p;generalize Kr c.op=q;generalize ZW c.op=r;generalize ((c.yC.length:Int)==1)=u;generalize ((c.args.length:Int)==0)=a;generalize ((c.args.length:Int)==1)=v;by_cases g:c.op=0
 ·rw[t g,g];rcases j with k|k|k|k|k<;>rw[k]<;>cases m<;>cases n<;>cases o<;>cases p<;>cases a<;>simp[jD]<;>cases q<;>cases r<;>rfl
 ·have i:=eqF0 g;rw[i];generalize jx c.op=w;rcases j with k|k|k|k|k<;>rw[k]<;>cases m<;>cases n<;>cases o<;>cases p<;>cases a<;>simp[jD]<;>cases q<;>cases r<;>cases w<;>cases u<;>rfl
def Ri(n:Int):Bool:=decide (48<=n)&&decide (n<=57)
theorem zap(c:UInt8):Ri c.toNat=V9 c:=by rw[qc];simp[Ri,V9,pr];omega
theorem aL:zg prog 337 (zf false [] (F1b Ri)):=
 zX (fn:=f337) yz (zpi func337) false [] _ fun args r h=>by obtain⟨a,rfl,rfl⟩:=BI h;exact⟨by simp[f337],_,zm rfl (by simp[f337,Ri]),zW _⟩
noncomputable abbrev Crd:Ctx:=zQ prog [(337,zf false [] (F1b Ri))]
theorem zhk:AM.Good Crd (fun g=>[337].contains g):=zw mixed ⟨aL,fun _=>zu _ _,trivial⟩
theorem nr(l:za)(h:l.length<=zx):zr Crd f363 [str l]=some (qz (Zq l)):=by
 refine zm rfl ?_;unfold zx at h;simp;refine zI (fun k U Y Z=>U 0=str l/\U 5=int l.length/\U 6=int k/\vR l=vR (l.drop k)) l.length ⟨by simp,by simp,by simp,by simp⟩ ?_;rintro k U Y Z j ⟨e,f,g,b⟩;by_cases a:k<l.length
 ·have i:=zlL k;rw[ib a]at b;have c:=zap l[k];cases d:V9 l[k]
  ·have b:vR l=false:=by rw[b,d];rfl
   rw[d]at c;simp[e,f,g,a,b,c,Zq,f363]
  ·rw[d]at c;simp[e,f,g,a,c,i];exact⟨a,by rw[b,d];rfl⟩
 ·obtain rfl:k=l.length:=by omega
  have b:vR l=true:=by rw[b,zo];rfl
  simp[e,f,g,b,Zq,f363]
theorem iW:zg prog 363 (zf false [] (FS Zq)):=
 pS1 zhk func363 false [] fun l Y=>⟨by simp[f363],_,nr l Y,zW _⟩
def Kz(l:za):Bool:=l.isEmpty||(l.headD 0==48&&!(l==[48]))
theorem Rj(l:za):(!Kz l&&vR l)=yS l:=by
 cases l with
 |nil=>rfl
 |cons c l=>
  cases l with
  |nil=>
   by_cases h:c=48
   ·subst h;rfl
   ·simp[Kz,yS,h]
  |cons d l=>simp[Kz,yS]
theorem CP(l:za)(t:l.length<=zx):zr C0 f336 [str l]=some (qz (yS l)):=by
 refine zm rfl ?_;unfold zx at t;rw[<-Rj];cases j:Kz l
 case true=>
  cases l with
  |nil=>simp[Kz,f336]
  |cons c l=>
   simp only[Kz,List.isEmpty_cons,List.headD_cons,ye,zH,jq,vY,ya]at j;obtain⟨rfl,j⟩:=j;have o:l.isEmpty=false:=by cases l with
    |nil=>exact absurd rfl j
    |cons d l=>rfl
   simp[o,f336]
 case false=>
  have a:l≠[]:=fun e=>by subst e;simp[Kz]at j
  have u:0<l.length:=xa.2 a;have m:=eqF0 a;have s:((l[0].toNat:Int)==48&&!(l==[48]))=false:=by
   cases l with
   |nil=>exact absurd rfl a
   |cons c l=>
    have v:((c.toNat:Int)==48)=(c==48):=by rw[qc];simp[<-Zz];omega
    simp only[JB,v];simpa[Kz]using j
  have p:((l[0].toNat:Int)==48&&l != [48])=false:=s;simp[m,a,u,s,p];refine zI (fun k U Y Z=>U 0=str l/\U 16=int l.length/\U 17=int k/\vR l=vR (l.drop k)) l.length ⟨by simp,by simp,by simp,by simp⟩ ?_;rintro k U Y Z x ⟨q,g,h,f⟩;by_cases b:k<l.length
  ·have w:=zlL k;rw[ib b]at f;have r:=VX 48 57 l[k];simp only[vm]at r;cases n:V9 l[k]
   ·have f:vR l=false:=by rw[f,n];rfl
    have i:pr 48 57 l[k]=false:=n;simp[q,g,h,b,f,r,i,f336]
   ·have i:pr 48 57 l[k]=true:=n;simp[q,g,h,b,r,i,w];exact⟨b,by rw[f,n];rfl⟩
  ·obtain rfl:k=l.length:=by omega
   have f:vR l=true:=by rw[f,zo];rfl
   simp[q,g,h,f,f336]
theorem cR:zg prog 336 (zf false [] (FS yS)):=
 pS1 yz func336 false [] fun l Y=>⟨by simp[f336],_,CP l Y,zW _⟩
def b7(c:UInt8):Bool:=pr 97 122 c||pr 65 90 c||c==45
theorem AJ(c:UInt8):Vc c=(b7 c||V9 c):=by simp only[Vc,b7,V9];cases pr 97 122 c<;>cases pr 65 90 c<;>cases pr 48 57 c<;>simp
theorem zdB(c:UInt8)(h:b7 c=true):V9 c=false:=by
 cases hd:V9 c with
 |false=>rfl
 |true=>
  simp only[b7,V9,pr,qd,zH,zP,jq]at h hd;rcases h with(h|h)|rfl
  ·omega
  ·omega
  ·simp at hd
theorem Rk(l:za)(h:l.all Vc=true):(jD l.length 1 20&&(!(l.all fun c=>!b7 c)||yS l))=!wX l:=by
 have e:(l.all fun c=>!b7 c)=vR l:=by
  induction l with
  |nil=>rfl
  |cons c l d=>
   simp only[q8,zH]at h;have a:=h.1;rw[AJ]at a;rw[q8,d h.2];show _=(V9 c&&vR l);cases b:b7 c
   ·rw[b,ye]at a;rw[a];rfl
   ·rw[zdB c b];rfl
 rw[e];unfold wX ia;rw[h];cases l with
 |nil=>rfl
 |cons c l=>rw[qc];simp[jD];omega
theorem Me(l:za)(h:l.all Vc=false):wX l=true:=by unfold wX ia;rw[h];simp
noncomputable abbrev Crip:Ctx:=zQ prog [(337,zf false [] (F1b Ri)),(138,zf false [] (F3 jD)),(336,zf false [] (FS yS))]
theorem zdC:AM.Good Crip (fun g=>[337,138,336].contains g):=zw mixed ⟨aL,fun _=>zu _ _,Zh,fun _=>zu _ _,cR,fun _=>zu _ _,trivial⟩
@[simp]theorem zi7:kg Crip 336:=yI (by rfl) (zu _ _)
theorem Gn(l:za)(q:l.length<=zx):zr Crip f302 [str l]=some (qz (!wX l)):=by
 refine zm rfl ?_;have f:=fun Y Z=>kX yS l Y Z q
 unfold zx at q;simp;refine zI (fun k U Y Z=>U 0=str l/\U 3=qz ((l.take k).all fun c=>!b7 c)/\U 8=int l.length/\U 9=int k/\l.all Vc=(l.drop k).all Vc) l.length ⟨by simp,by simp,by simp,by simp,by simp⟩ ?_;rintro k U Y Z t ⟨i,d,j,m,b⟩;by_cases a:k<l.length
 ·have r:=zlL k;rw[uY a,AJ]at b;have e:(decide ((97:Int)<=l[k].toNat)&&decide ((l[k].toNat:Int)<=122)||decide ((65:Int)<=l[k].toNat)&&decide ((l[k].toNat:Int)<=90)||((l[k].toNat:Int)==45))=b7 l[k]:=by
   have s:((l[k].toNat:Int)==45)=(l[k]==45):=by rw[qc];simp[<-Zz];omega
   rw[s,qc];simp[b7,pr,<-Zz];omega
  have hd:=zap l[k];have g:((l.take (k+1)).all fun c=>!b7 c)=(((l.take k).all fun c=>!b7 c)&&!b7 l[k]):=by rw[zR a,List.all_append];simp
  obtain⟨T,p⟩:=exI ((l.take k).all fun c=>!b7 c);rw[p]at d g;cases h:b7 l[k]
  ·cases n:V9 l[k]
   ·rw[h,n]at b;have b:l.all Vc=false:=b;have o:=Me l b;rw[h]at e;rw[n]at hd;simp[i,d,j,m,a,e,hd,o,-List.all_eq_true,-List.all_eq_false,f302]
   ·rw[h,n]at b;rw[h]at e g;rw[n]at hd;simp[i,d,j,m,a,e,hd,r,-List.all_eq_true,-List.all_eq_false];exact⟨a,by rw[g];simp,b⟩
  ·rw[h]at b e g;simp[i,d,j,m,a,e,r,-List.all_eq_true,-List.all_eq_false];exact⟨a,by rw[g];simp,b⟩
 ·obtain rfl:k=l.length:=by omega
  have b:l.all Vc=true:=by rw[b,zo];rfl
  have o:=Rk l b;rw[wo]at d;obtain⟨T,p⟩:=exI (l.all fun c=>!b7 c);rw[p]at d o;simp[i,d,j,m,f,o,-List.all_eq_true,-List.all_eq_false,f302]
theorem fO:zg prog 302 (zf false [] (FS fun l=>!wX l)):=
 pS1 zdC func302 false [] fun l Y=>⟨by simp[f302],_,Gn l Y,zW _⟩
theorem CQ(l:za):zr C0 f306 [str l]=some (qz (yA l)):=by
 refine zm rfl ?_;have e:yA l=(l==[42]||l==[120]||l==[88]):=by unfold yA;cases l==[42]<;>cases l==[120]<;>cases l==[88]<;>rfl
 rw[e];cases a:(l==[42])
 ·cases b:(l==[120])
  ·simp[a,b,f306]
  ·simp[a,b,f306]
 ·simp[a,f306]
theorem tH:zg prog 306 (zf false [] (FS yA)):=
 pS1 yz func306 false [] fun l Y=>⟨by simp[f306],_,CQ l,zW _⟩
noncomputable def FNm:zb->Option O:=z6 (α:=za) (fun l=>[str l,int 6]) (fun l=>l.length<=zx) Ko
theorem zaq(l:za)(Y:Hp)(Z:Nat)(h:l.length<=zx):zf false [] FNm [str l,int 6] Y Z=some (.wY [int ((kG l).getD 0),qz (kG l).isSome],Y,Z):=
 hPc l _ _ rfl (fun a b e=>by simp only[zh,zD]at e;exact q9 e) h (.inl rfl)
noncomputable abbrev Crnm:Ctx:=zQ prog [(336,zf false [] (FS yS)),(237,zf false [] FAt)]
theorem zdD:AM.Good Crnm (fun g=>[336].contains g):=zw mixed ⟨cR,fun _=>zu _ _,px,by simp,trivial⟩
theorem CR(l:za)(f:l.length<=zx):zr Crnm f301 [str l,int 6]=some (Ko l):=by
 refine zm rfl ?_;have b:=fun Y Z=>kX yS l Y Z f
 cases a:yS l
 ·simp[b,a,Ko,kG,qS,f301]
 ·by_cases e:l.length<=6
  ·have c:¬((6:Int)<l.length):=by omega
   have g:=fun Y Z=>uZ l Y Z (by omega) a
   simp[b,a,e,c,g,Ko,kG,qS,f301]
  ·have c:(6:Int)<l.length:=by omega
   have d:6<l.length:=by omega
   simp[b,a,e,d,c,Ko,kG,qS,f301]
theorem tI:zg prog 301 (zf false [] FNm):=
 pS1 zdD func301 false [] fun l Y=>⟨by simp[f301],_,CR l Y,zW _⟩
noncomputable abbrev Crcp:Ctx:=zQ prog [(363,zf false [] (FS Zq)),(334,zf false [] (Zo tlP fun _ b=>oY b)),(187,zf false [] (F2I wR)),(270,zf false [] (PE B8)),(225,zf false [] SZ)]
theorem zdE:Gd Crcp:=zph mixed ⟨iW,JS,WV,pF,ay,trivial⟩
theorem iX(a b:za)(g:a.length<=zx)(h:b.length<=zx):zr Crcp f357 [str a,str b]=some (int (w8 a b)):=by
 refine zm rfl ?_;have c:=fun Y Z=>kX Zq a Y Z g
 have d:=fun Y Z=>kX Zq b Y Z h
 have j:=fun Y Z=>nI a Y Z g
 have tb:=fun Y Z=>nI b Y Z h
 have i:=CN;cases e:Zq a<;>cases f:Zq b
 ·simp[c,d,e,f,w8,i,f357]
 ·simp[c,d,e,f,w8,f357]
 ·simp[c,d,e,f,w8,f357]
 ·have k:∀(Y:Hp) (Z id:Nat),Y id=some ⟨3,1,true,[[int (wR (Lib.trimLeftB a 48).length (Lib.trimLeftB b 48).length)],[int (yK (Lib.trimLeftB a 48) (Lib.trimLeftB b 48))]]⟩->zf false [] SZ [.own id 0 2] Y Z=some (int (Xb [wR (Lib.trimLeftB a 48).length (Lib.trimLeftB b 48).length,yK (Lib.trimLeftB a 48) (Lib.trimLeftB b 48)]),Y,Z):=fun Y Z id l=>eZ [_,_] Y Z id _ (by show 2<=zx;decide) l
  simp[c,d,j,tb,e,f,k,i,zz,zS,zy,w8,f357]
theorem fP:zg prog 357 (zf false [] (Zo (fun a b=>int (w8 a b)) fun _ _=>True)):=
 zX (fn:=f357) zdE (zpi func357) false [] _ fun args r h=>by obtain⟨a,b,rfl,c,d,_,rfl⟩:=kC h;exact⟨by simp[f357],_,iX a b c d,zW _⟩
noncomputable abbrev Crcv:Ctx:=zQ prog [(187,zf false [] (F2I wR)),(225,zf false [] SZ),(357,zf false [] (Zo (fun a b=>int (w8 a b)) fun _ _=>True))]
theorem zdF:AM.Good Crcv (fun g=>[187,225,357].contains g):=zw mixed ⟨WV,fun _=>zu _ _,ay,fun _=>zu _ _,fP,fun _=>zu _ _,trivial⟩
theorem X2(v w:wQ)(W:v.small)(X:w.small):zr Crcv f346 [.agg v.V,.agg w.V]=some (int (xG v w)):=by
 obtain⟨a,b,c,p⟩:=v;obtain⟨t,u,x,f⟩:=w;obtain⟨Y1,Y2⟩:=W;obtain⟨y,z⟩:=X;simp only at Y1 Y2 y z;refine zm rfl ?_;obtain⟨o,S⟩:=exI (Xb [wR a t,wR b u,wR c x]);have j:∀(Y:Hp) (Z id:Nat),Y id=some ⟨3,1,true,[[int (wR a t)],[int (wR b u)],[int (wR c x)]]⟩->zf false [] SZ [.own id 0 3] Y Z=some (int o,Y,Z):=fun Y Z id hh=>S ▸ eZ [_,_,_] Y Z id _ (by show 3<=zx;decide) hh
 have d:xG ⟨a,b,c,p⟩ ⟨t,u,x,f⟩=if o=0 then(if p.length=0 then(if f.length=0 then 0 else 1)else if f.length=0 then -1 else yr w8 p f)else o:=by rw[<-S];rfl
 by_cases F:o=0
 case neg=>have G:=nzT F;simp[wQ.V,j,zz,zS,zy,F,G,d,f346]
 subst F;have g:(zJ p).length=p.length:=by simp[zJ]
 have e:(zJ f).length=f.length:=by simp[zJ]
 by_cases A:p.length=0
 ·have s:wR f.length 0=if f.length=0 then 0 else 1:=by unfold wR;split<;>(try split)<;>(try split)<;>first|omega|rfl
  simp[wQ.V,j,zz,zS,zy,A,d,g,e,s,f346]
 by_cases H:f.length=0
 ·have n:((p.length:Int)==0)=false:=by simpa using A
  have s:wR 0 p.length=-1:=by unfold wR;rw[zd (by omega)]
  simp[wQ.V,j,zz,zS,zy,A,n,H,d,g,e,s,f346]
 have n:((p.length:Int)==0)=false:=by simpa using A
 have I:((f.length:Int)==0)=false:=by simpa using H
 obtain⟨m,hm,J,K,B⟩:=CO p.length f.length;unfold zx at Y1 y;have d:xG ⟨a,b,c,p⟩ ⟨t,u,x,f⟩=yr w8 p f:=by rw[d];simp[A,H]
 rw[d];simp[wQ.V,j,zz,zS,zy,n,I,g,e,hm];refine zI (fun k U Y Z=>U 2=.ref 0 0 0/\U 3=.ref 1 0 0/\Y 0=some ⟨192,4,false,[[int a,int b,int c,.sl 1 (zJ p)]]⟩/\Y 1=some ⟨192,4,false,[[int t,int u,int x,.sl 1 (zJ f)]]⟩/\U 51=int m/\U 52=int k/\yr w8 p f=yr w8 (p.drop k) (f.drop k)) m
  ⟨by simp,by simp,by simp,by simp,by simp,by simp,by simp⟩ ?_
 rintro k U Y Z hk ⟨L,M,N,P,q,r,l⟩;by_cases C:k<m
 ·have h:k<p.length:=by omega
  have i:k<f.length:=by omega
  have Q:=zlL k;have s:=fun Y Z=>u7 p[k] f[k] Y Z (Y2 _ (zj h)) (z _ (zj i))
  have T:=JU h;have D:=JU i;rw[zc h,zc i]at l;simp only[yr]at l;by_cases E:w8 p[k] f[k]=0
  ·rw[zd E]at l;simp[L,M,q,r,N,P,C,h,i,g,e,T,D,s,E,Q];exact⟨by omega,l⟩
  ·rw[ze E]at l;have R:=nzT E;simp[L,M,q,r,N,P,C,h,i,g,e,T,D,s,R,l,f346]
 ·obtain rfl:k=m:=by omega
  rw[rE w8 J K B]at l;simp[L,M,q,r,N,P,g,e,l,f346]
theorem Xq:zg prog 346 (qG [.g kJ,.g kJ] (Ur fun v w=>int (xG v w))):=
 yc (fn:=f346) zdF (zpi func346) _ _ fun args r h=>by obtain⟨⟨v,w⟩,rfl,⟨a,b⟩,rfl⟩:=zp h;exact⟨by simp[f346],_,X2 v w a b,qW.refl _⟩
noncomputable abbrev Crcu:Ctx:=zQ prog [(346,qG [.g kJ,.g kJ] (Ur fun v w=>int (xG v w)))]
theorem zdG:Gd Crcu:=zph mixed ⟨Xq,trivial⟩
theorem fQ(x y:Cut)(l:x.v.small)(m:y.v.small):zr Crcu f312 [.agg x.V,.agg y.V]=some (int (wz x y)):=by
 obtain⟨⟨a,b,c,p⟩,f⟩:=x;obtain⟨⟨h,i,j,k⟩,f'⟩:=y;refine zm rfl ?_;have d:=fun Y Z=>Cb ⟨a,b,c,p⟩ ⟨h,i,j,k⟩ Y Z l m
 simp only[wQ.V]at d;by_cases e:xG ⟨a,b,c,p⟩ ⟨h,i,j,k⟩=0
 ·cases f<;>cases f'<;>simp[Cut.V,d,e,wz,f312]
 ·have g:=eqF0 e;simp[Cut.V,d,e,g,wz,f312]
theorem x4:zg prog 312 (qG [.g jP,.g jP] (Ce fun v w=>int (wz v w))):=
 yc (fn:=f312) zdG (zpi func312) _ _ fun args r h=>by obtain⟨⟨v,w⟩,rfl,⟨a,b⟩,rfl⟩:=zp h;exact⟨by simp[f312],_,fQ v w a b,qW.refl _⟩
theorem Rl{l:List qZ}{c:Cut}{k:Nat}(h:k<l.length):yH (l.drop k) c=(vU l[k] c||yH (l.drop (k+1)) c):=by rw[zc h];rfl
noncomputable abbrev Crco:Ctx:=zQ prog [(312,qG [.g jP,.g jP] (Ce fun v w=>int (wz v w)))]
theorem zdH:AM.Good Crco (fun g=>[312].contains g):=zw mixed ⟨x4,fun _=>y7 _ _,trivial⟩
theorem CS(l:List qZ)(c:Cut)(D:zlM l)(B:c.v.small):zr Crco f276 [.sl 11 (qb l),.agg c.V]=some (qz (yH l c)):=by
 obtain⟨y,z⟩:=D;refine zm rfl ?_;unfold zx at y;have d:(qb l).length=l.length:=by simp[qb]
 simp[d,Cut.V];refine zI (fun k U Y Z=>U 3=.ref 0 0 0/\1<=Z/\Y 0=some ⟨232,5,false,[c.V]⟩/\U 7=.sl 11 (qb l)/\U 8=int l.length/\U 9=int k/\yH l c=yH (l.drop k) c) l.length
  ⟨by simp,by simp,by simp[Cut.V],by simp,by simp,by simp,by simp⟩ ?_
 rintro k U Y Z F ⟨j,E,m,n,o,p,g⟩;by_cases b:k<l.length
 ·have C:=zlL k;obtain⟨s,hs⟩:=exI (l[k]);have q:s.small:=z s (by rw[<-hs];exact zj b);have e:∀h:k<(qb l).length,(qb l)[k]=s.V:=fun h=>by simp[qb,hs]
  have r:=fun Y Z=>Qf s.lo c Y Z q.1 B
  have t:=fun Y Z=>Qf c s.hi Y Z B q.2
  have w:¬0=Z:=by omega
  have n1:¬Z=0:=by omega
  rw[Rl b,hs]at g;have f:vU s c=(decide (wz s.lo c<=0)&&(s.yR||decide (wz c s.hi<0))):=rfl;simp only[qZ.V,Cut.V,wI,wC]at r t e m;cases x:vU s c
  ·rw[x,ye]at g;rw[x]at f;by_cases A:wz s.lo c<=0
   ·rw[y8 A,jb]at f;have a:=f.symm;rw[wZ]at a;simp[j,n,o,p,b,d,e,r,t,m,w,n1,A,a.1,a.2,C,-decide_eq_false_iff_not];exact⟨by omega,rfl,g⟩
   ·simp[j,n,o,p,b,d,e,r,t,m,w,n1,A,C];exact⟨by omega,rfl,g⟩
  ·rw[x,Wu]at g;rw[x]at f;have a:=f.symm;simp only[zH,zP]at a;have u:=a.2;cases i:s.yR
   ·rw[i,ye,zP]at u;simp[j,n,o,p,b,d,e,r,t,m,w,n1,a.1,i,u,g,f276]
   ·simp[j,n,o,p,b,d,e,r,t,m,w,n1,a.1,i,g,f276]
 ·obtain rfl:k=l.length:=by omega
  have g:yH l c=false:=by rw[g,zo];rfl
  simp[j,n,o,p,g,f276]
theorem cS:zg prog 276 (qG [.s 11 jQ,.g jP] (FRC fun l c=>qz (yH l c))):=
 yc (fn:=f276) zdH (zpi func276) _ _ fun args r h=>by obtain⟨⟨l,c⟩,rfl,⟨a,b⟩,rfl⟩:=zp h;exact⟨by simp[f276],_,CS l c a b,qW.refl _⟩
def WD(w:Int)(a b:Bool):Bool:=if w=0 then a||b else if w=1 then a&&b else a&&!b
def FTk:zb->Option O
 |[.v (.int .i64 w),.v (.bool a),.v (.bool b)]=>some (qz (WD w a b))
 |_=>none
@[simp]theorem aM(w:Int)(a b:Bool)(Y:Hp)(Z:Nat):zf false [] FTk [.v (.int .i64 w),.v (.bool a),.v (.bool b)] Y Z=some (qz (WD w a b),Y,Z):=zU rfl rfl (.inl rfl)
theorem Gp:zg prog 310 (zf false [] FTk):=
 zX (fn:=f310) yz (zpi func310) false [] _ fun args r h=>by
  have:∃w a b,args=[int w,qz a,qz b]/\r=qz (WD w a b):=by
   unfold FTk at h;split at h
   ·injection h with h;exact⟨_,_,_,rfl,h.symm⟩
   ·cases h
  obtain⟨w,a,b,rfl,rfl⟩:=this;refine⟨by simp[f310],_,zm rfl ?_,zW _⟩;by_cases c:w=0
  ·subst c;simp[WD,f310]
  ·have d:=eqF0 c;by_cases e:w=1
   ·subst e;simp[WD,f310]
   ·have f:=eqF0 e;simp[c,d,e,f,WD,f310]
def jy(st:Part×Bool)(i:Nat)(t:za):Option (Part×Bool):=
 if yA t=true then some (st.1,true)else if st.2=false/\(kG t).isSome=true then some (st.1.put i ((kG t).getD 0),false)else none
def yW:Part×Bool->Nat->List za->Option (Part×Bool)
 |st,_,[]=>some st
 |st,i,t::l=>match jy st i t with
  |some q=>yW q (i+1) l
  |none=>none
def rdR(s:za):Option Part:=if 3<(qu (Lib.cut s [45]).1 [46]).length then none else
 match yW (wy,false) 0 (qu (Lib.cut s [45]).1 [46])with
 |none=>none
 |some st=>if(ko s).any wX=true then none else if((Lib.cut s [45]).2.2=false\/st.1.has=3)/\(ko s).length<=10 then some {st.1 with pre:=ko s}else none
def QV(s:za):Option Part:=match rdR s with
 |some p=>if p.has=0 then none else some p
 |none=>none
theorem Wo{t:za}(h:yA t=true):kG t=none:=by simp only[yA,qd,jq]at h;rcases h with(rfl|rfl)|rfl<;>rfl
theorem fR(p:Part)(i:Nat)(n:Int):(p.put i n).has=p.has+1/\(p.put i n).pre=p.pre:=by unfold Part.put;split<;>exact⟨rfl,rfl⟩
theorem iY:∀(l:List za) (p:Part) (i:Nat),p.has<i->i≠0->(yW (p,true) i l).map (·.1)=yB p i l/\∀st,yW (p,true) i l=some st->st.1=p
 |[],p,i,_,_=>⟨rfl,fun st h=>by simp only[yW]at h;injection h with h;rw[<-h]⟩
 |t::l,p,i,h,hi=>by
  have b:¬p.has=i:=by omega
  obtain⟨e,f⟩:=iY l p (i+1) (by omega) (by omega);by_cases a:yA t=true
  ·have c:jy (p,true) i t=some (p,true):=by simp[jy,a]
   have d:w9 p i t=some p:=by simp[w9,a,hi,Wo a]
   simp only[yW,yB,c,d];exact⟨e,f⟩
  ·have c:jy (p,true) i t=none:=by simp[jy,a]
   have d:w9 p i t=none:=by simp[w9,a,b]
   simp only[yW,yB,c,d];exact⟨rfl,fun st h=>by cases h⟩
theorem Gq:∀(l:List za) (p:Part) (i:Nat),p.has=i->i≠0->(yW (p,false) i l).map (·.1)=yB p i l
 |[],p,i,_,_=>rfl
 |t::l,p,i,h,hi=>by
  by_cases a:yA t=true
  ·have b:jy (p,false) i t=some (p,true):=by simp[jy,a]
   have c:w9 p i t=some p:=by simp[w9,a,hi,Wo a]
   simp only[yW,yB,b,c];exact(iY l p (i+1) (by omega) (by omega)).1
  ·cases d:kG t with
   |none=>
    have b:jy (p,false) i t=none:=by simp[jy,a,d]
    have c:w9 p i t=none:=by simp[w9,a,d]
    simp only[yW,yB,b,c];rfl
   |some n=>
    have b:jy (p,false) i t=some (p.put i n,false):=by simp[jy,a,d]
    have c:w9 p i t=some (p.put i n):=by simp[w9,d,h]
    simp only[yW,yB,b,c];exact Gq l (p.put i n) (i+1) (by rw[(fR p i n).1];omega) (by omega)
theorem Rm(t:za)(l:List za):(∃st,yW (wy,false) 0 (t::l)=some st/\((st.1.has=0/\yB wy 0 (t::l)=none)\/(1<=st.1.has/\yB wy 0 (t::l)=some st.1)))\/(yW (wy,false) 0 (t::l)=none/\yB wy 0 (t::l)=none):=by
 by_cases b:yA t=true
 ·have c:jy (wy,false) 0 t=some (wy,true):=by simp[jy,b]
  have a:w9 wy 0 t=none:=by simp[w9,Wo b]
  simp only[yW,yB,c,a];cases d:yW (wy,true) 1 l with
  |none=>exact .inr ⟨by simp,trivial⟩
  |some st=>have:=(iY l wy 1 (by show(0:Int)<1;omega) (by omega)).2 st d;exact .inl ⟨st,by simp,.inl ⟨by rw[this];rfl,trivial⟩⟩
 ·cases e:kG t with
  |none=>
   have c:jy (wy,false) 0 t=none:=by simp[jy,b,e]
   have a:w9 wy 0 t=none:=by simp[w9,b,e]
   simp only[yW,yB,c,a];exact .inr ⟨trivial,trivial⟩
  |some n=>
   have c:jy (wy,false) 0 t=some (wy.put 0 n,false):=by simp[jy,b,e]
   have a:w9 wy 0 t=some (wy.put 0 n):=by simp[w9,e,wy]
   have g:(wy.put 0 n).has=1:=by rw[(fR wy 0 n).1];rfl
   have hs:=Gq l (wy.put 0 n) 1 g (by omega);simp only[yW,yB,c,a];cases d:yW (wy.put 0 n,false) 1 l with
   |none=>rw[d]at hs;exact .inr ⟨by simp,by simpa using hs.symm⟩
   |some st=>
    rw[d]at hs;simp only[zK]at hs;refine .inl ⟨st,by simp,.inr ⟨?_,by simpa using hs.symm⟩⟩;have f:yB wy 0 (t::l)=some st.1:=by simp only[yB,a];simpa using hs.symm
    have:=(nO (t::l) wy st.1 0 f (by simp[wy])).2.2.2.2.2.1;exact this (by simp)
theorem zhl{s:za}(h:Lib.contains s [45]=false):Lib.cut s [45]=(s,[],false):=by unfold Lib.contains at h;rw[jr]at h;unfold Lib.cut;rw[ze h]
theorem zdI{s:za}(h:Lib.contains s [45]=true):(Lib.cut s [45]).2.2=true:=by unfold Lib.contains at h;rw[zP]at h;unfold Lib.cut;rw[zd h]
theorem zdJ(a b c:Int)(l:List za)(f:0<=a/\a<=999999)(g:0<=b/\b<=999999)(i:0<=c/\c<=999999):yT ⟨a,b,c,l⟩=0↔l.any wX=false/\l.length<=10:=by
 have e:jD a 0 999999=true/\jD b 0 999999=true/\jD c 0 999999=true:=by simp[jD];omega
 unfold yT;rw[zd e];simp only;by_cases d:10<l.length
 ·rw[zd d];constructor
  ·intro h;cases h
  ·rintro⟨_,h⟩;omega
 ·rw[ze d];cases j:l.any wX
  ·simp;omega
  ·simp
theorem nS(s:za):QV s=if(z7 s).2=true then some (z7 s).1 else none:=by
 cases K:Lib.contains s [45]
 ·have o:=zhl K;have p:ko s=[]:=by unfold ko;rw[o];rfl
  unfold QV rdR z7;simp only[K,zF,qJ,o,p];by_cases x:3<(qu s [46]).length
  ·rw[zd x,zd x];rfl
  rw[ze x,ze x];obtain⟨t,l,C⟩:∃t l,qu s [46]=t::l:=by
   cases h:qu s [46]with
   |nil=>exact absurd h (Ah _ _)
   |cons t l=>exact⟨t,l,rfl⟩
  rw[C];rcases Rm t l with⟨st,D,⟨B,w⟩|⟨B,w⟩⟩|⟨D,w⟩
  ·rw[D,w];simp[B]
  ·have Y:st.1.pre=[]:=(nO (t::l) wy st.1 0 w (by simp[wy])).2.2.2.2.2.2;have P:({st.1 with pre:=[]}:Part)=st.1:=by obtain⟨⟨a,b,c,d,e⟩,f⟩:=st;simp only at Y;subst Y;rfl
   have Q:¬st.1.has=0:=by omega
   rw[D,w];simp[Q,P]
  ·rw[D,w];rfl
 ·have o:=zdI K;unfold QV rdR z7;rw[zd K,o];simp only[Bool.true_eq_false,false_or];obtain⟨l,C⟩:=exI (qu (Lib.cut s [45]).1 [46]);obtain⟨pre,p⟩:=exI (ko s);rw[C,p];have j:∀(m:List za) (st v:Part×Bool) (i:Nat),yW st i m=some v->v.1.has<=st.1.has+m.length:=by
   intro m
   induction m with
   |nil=>intro st v i h;simp only[yW]at h;injection h with h;rw[<-h];simp
   |cons t m R=>
    intro st v i h;simp only[yW]at h;cases hs:jy st i t with
    |none=>rw[hs]at h;cases h
    |some q=>
     rw[hs]at h;have D:=R q v (i+1) h;have B:q.1.has<=st.1.has+1:=by
      unfold jy at hs;split at hs
      ·injection hs with hs;rw[<-hs];simp only;omega
      ·split at hs
       ·injection hs with hs;rw[<-hs];simp only;rw[(fR _ _ _).1];omega
       ·cases hs
     simp only[zV];omega
  by_cases x:l.length=3
  ·obtain⟨u,r,k,rfl⟩:∃a b c,l=[a,b,c]:=Ug x;unfold eU;rw[C,p];simp only;have y:¬3<[u,r,k].length:=by simp
   rw[ze y];cases E:kG u with
   |none=>
    have F:∀st,yW (wy,false) 0 [u,r,k]=some st->st.1.has<=2:=by
     intro st h;simp only[yW]at h;cases hs:jy (wy,false) 0 u with
     |none=>rw[hs]at h;cases h
     |some q=>
      rw[hs]at h;have M:q.1.has=0:=by
       unfold jy at hs;split at hs
       ·injection hs with hs;rw[<-hs];rfl
       ·rw[E]at hs;simp at hs
      have:=j [r,k] q st 1 (by simpa[yW]using h);simp only[zV,ku]at this;omega
    cases g:yW (wy,false) 0 [u,r,k]with
    |none=>rfl
    |some st=>
     have B:=F st g;have n:¬(st.1.has=3/\pre.length<=10):=by omega
     simp only[ze n];cases pre.any wX<;>rfl
   |some a=>
    have S:yA u=false:=by
     cases h:yA u with
     |false=>rfl
     |true=>rw[Wo h]at E;cases E
    have L:jy (wy,false) 0 u=some (wy.put 0 a,false):=by simp[jy,S,E]
    cases G:kG r with
    |none=>
     have F:∀st,yW (wy,false) 0 [u,r,k]=some st->st.1.has<=2:=by
      intro st h;simp only[yW,L]at h;cases hs:jy (wy.put 0 a,false) (0+1) r with
      |none=>rw[hs]at h;cases h
      |some q=>
       rw[hs]at h;have M:q.1.has=1:=by
        unfold jy at hs;split at hs
        ·injection hs with hs;rw[<-hs];rfl
        ·rw[G]at hs;simp at hs
       have:=j [k] q st 2 (by simpa[yW]using h);simp only[zV,ku]at this;omega
     cases g:yW (wy,false) 0 [u,r,k]with
     |none=>rfl
     |some st=>
      have B:=F st g;have n:¬(st.1.has=3/\pre.length<=10):=by omega
      simp only[ze n];cases pre.any wX<;>rfl
    |some b=>
     have T:yA r=false:=by
      cases h:yA r with
      |false=>rfl
      |true=>rw[Wo h]at G;cases G
     have N:jy (wy.put 0 a,false) (0+1) r=some ((wy.put 0 a).put 1 b,false):=by simp[jy,T,G]
     cases H:kG k with
     |none=>
      have F:∀st,yW (wy,false) 0 [u,r,k]=some st->st.1.has<=2:=by
       intro st h;simp only[yW,L,N]at h;cases hs:jy ((wy.put 0 a).put 1 b,false) (0+1+1) k with
       |none=>rw[hs]at h;cases h
       |some q=>
        rw[hs]at h;have M:q.1.has=2:=by
         unfold jy at hs;split at hs
         ·injection hs with hs;rw[<-hs];rfl
         ·rw[H]at hs;simp at hs
        simp only at h;injection h with h
        rw[<-h];omega
      cases g:yW (wy,false) 0 [u,r,k]with
      |none=>rfl
      |some st=>
       have B:=F st g;have n:¬(st.1.has=3/\pre.length<=10):=by omega
       simp only[ze n];cases pre.any wX<;>rfl
     |some c=>
      have W:yA k=false:=by
       cases h:yA k with
       |false=>rfl
       |true=>rw[Wo h]at H;cases H
      have X:jy ((wy.put 0 a).put 1 b,false) (0+1+1) k=some (((wy.put 0 a).put 1 b).put 2 c,false):=by simp[jy,W,H]
      have g:yW (wy,false) 0 [u,r,k]=some (((wy.put 0 a).put 1 b).put 2 c,false):=by simp only[yW,L,N,X]
      rw[g];have I:=zdJ a b c pre (QB E) (QB G) (QB H);by_cases J:yT ⟨a,b,c,pre⟩=0
      ·obtain⟨z,A⟩:=I.1 J;simp[J,z,A,wy,Part.put]
      ·have y:¬(pre.any wX=false/\pre.length<=10):=fun h=>J (I.2 h)
       cases z:pre.any wX
       ·have A:¬pre.length<=10:=fun h=>y ⟨z,h⟩
        simp[J,A]
       ·simp[J]
  ·have hd:eU s=none:=by
    unfold eU;rw[C];split
    ·exact absurd rfl x
    ·rfl
   rw[hd];simp only[zF,qJ];by_cases w:3<l.length
   ·rw[zd w]
   rw[ze w];cases g:yW (wy,false) 0 l with
   |none=>rfl
   |some st=>
    have h5:=j l (wy,false) st 0 g;have h6:st.1.has<=2:=by have:(wy:Part).has=0:=rfl;simp only[this]at h5;omega
    have n:¬(st.1.has=3/\pre.length<=10):=by omega
    simp only[ze n];cases pre.any wX<;>rfl
end Go.Q
namespace Go.AM
def dH(sh:Sh)(r y z:O)(x:O)(Y:Hp)(_:Nat):Prop:=∃a,(AM.freeze Y x).map (·.1)=some (.wY [a,y,z])/\sh.fix a=r
theorem tJ{C:Ctx}{fn:Func}{code:Code}{args:zb}{sh:Sh}{r y z:O}(b:fn.body=some code)
  (h:ZY C code ⟨vn args,fun _=>none,0⟩ (VS C.P fn (dH sh r y z))):∃a,zr C fn args=some a/\qW a (.wY [r,y,z]):=by
 obtain⟨x,f,g,c,a,d,e⟩:=qw b h;exact⟨.wY [a,y,z],by unfold zr;simp only[c];exact d,e ▸ (ki.cons (VW sh a) (.cons (qW.refl y) (.cons (qW.refl z) .nil))).wY⟩
end Go.AM
namespace Go.Q
def WE(s:za):wQ×Int×Bool:=if 3<(qu (Lib.cut s [45]).1 [46]).length then(XI,0,false)else
 match yW (wy,false) 0 (qu (Lib.cut s [45]).1 [46])with
 |none=>(XI,0,false)
 |some st=>if(ko s).any wX=true then(⟨st.1.n0,st.1.n1,st.1.n2,ko s⟩,0,false)else(⟨st.1.n0,st.1.n1,st.1.n2,ko s⟩,st.1.has,(!(Lib.cut s [45]).2.2||st.1.has==3)&&decide ((ko s).length<=10))
def D5(s:za):O:=.wY [.agg (WE s).1.V,int (WE s).2.1,qz (WE s).2.2]
theorem Mf{st:Part×Bool}{k:Nat}{l:List za}(h:k<l.length):yW st k (l.drop k)=match jy st k l[k]with
  |some q=>yW q (k+1) (l.drop (k+1))
  |none=>none:=by
 rw[zc h];rfl
noncomputable abbrev Crrv:Ctx:=zQ prog [(195,zf false [] (Zo td fun _ _=>True)),(196,jj [] FSp),(301,zf false [] FNm),(302,zf false [] (FS fun l=>!wX l))]
theorem zdK:Gd Crrv:=zph mixed ⟨oX,YE,tI,fO,trivial⟩
theorem fS(t:za)(ht:t.length+1<=zx):∃r0,zr Crrv f271 [str t]=some r0/\qW r0 (D5 t):=by
 refine tJ (sh:=.g kJ) (r:=.agg (WE t).1.V) (y:=int (WE t).2.1) (z:=qz (WE t).2.2) rfl ?_;have hcl:=Uf t [45];have u:=fun Y Z=>oW t [45] Y Z (by omega) (by decide)
 have E:=fun Y Z=>Qy (Lib.cut t [45]).1 [46] Y Z (by omega) (by decide) (by decide)
 have v:=fun Y Z=>Qy (Lib.cut t [45]).2.1 [46] Y Z (by omega) (by decide) (by decide)
 have G:∀p∈qu (Lib.cut t [45]).1 [46],p.length<=zx:=fun p Y=>by have:=xf Y;omega
 have H:∀p∈qu (Lib.cut t [45]).2.1 [46],p.length<=zx:=fun p Y=>by have:=xf Y;omega
 have I:(qu (Lib.cut t [45]).2.1 [46]).length<=zx:=by have:=ZG (s:=(Lib.cut t [45]).2.1) (sep:=[46]) (by simp);omega
 have m:ko t=if(Lib.cut t [45]).2.2=true then qu (Lib.cut t [45]).2.1 [46]else[]:=rfl
 have a:WE t=if 3<(qu (Lib.cut t [45]).1 [46]).length then(XI,0,false)else
   match yW (wy,false) 0 (qu (Lib.cut t [45]).1 [46])with
   |none=>(XI,0,false)
   |some st=>if(ko t).any wX=true then(⟨st.1.n0,st.1.n1,st.1.n2,ko t⟩,0,false)else(⟨st.1.n0,st.1.n1,st.1.n2,ko t⟩,st.1.has,(!(Lib.cut t [45]).2.2||st.1.has==3)&&decide ((ko t).length<=10)):=rfl
 obtain⟨l,hl⟩:=exI (qu (Lib.cut t [45]).1 [46]);obtain⟨n,w⟩:=exI (qu (Lib.cut t [45]).2.1 [46]);obtain⟨c1,c2,c3,hc⟩:∃c1 c2 c3,Lib.cut t [45]=(c1,c2,c3):=⟨_,_,_,rfl⟩;rw[hc]at u E v hl w m a G H I;simp only at u E v hl w m a G H I;rw[hl]at a G;rw[w]at m H I;simp only[hl,V8]at E;simp only[w,V8]at v;unfold zx at I;by_cases h3:3<l.length
 ·have Q:(3:Int)<l.length:=by omega
  rw[zd h3]at a;simp[u,E,h3,Q,D5,a,dH,XI,wQ.V,f271]
 have Q:¬(3:Int)<l.length:=by omega
 rw[ze h3]at a;simp[u,E,h3,Q];refine zI (fun k U Y Z=>∃(p:Part) (op:Bool),p.pre=[]/\U 2=.ref 0 0 0/\U 3=int p.has/\U 4=qz false/\U 6=str c2/\U 7=qz c3/\U 8=.ref 1 0 0/\U 9=qz op/\U 29=.own 2 0 l.length/\U 30=int l.length/\U 31=int k/\p.has<=k/\0<=p.has/\Z=3 /\
   Y 0=some ⟨192,4,false,[[int 0,int 0,int 0,.nil]]⟩/\Y 1=some ⟨212,3,false,[[int p.n0,int p.n1,int p.n2]]⟩/\Y 2=some ⟨9,1,true,zJ l⟩/\yW (wy,false) 0 l=yW (p,op) k (l.drop k)) l.length
  ⟨wy,false,rfl,by simp,by simp[wy],by simp,by simp,by simp,by simp,by simp,by simp,by simp,by simp,by simp[wy],by simp[wy],by simp,by simp,by simp[wy],(by simp;rfl),by simp⟩ ?_
 rintro k U Y Z hk ⟨p,op,R,x,o,A,J,B,K,L,c,d,e,hh,hh0,hnx,C,F,M,q⟩;subst hnx;by_cases b:k<l.length
 ·have hn:=fun Y Z=>zaq l[k] Y Z (G _ (zj b))
  have hw:=zlL k;have N:=zpg (p.has+1);have i:(l[k]==[120]||l[k]==[88]||l[k]==[42])=yA l[k]:=rfl;have f:=JU b;have D:(zJ l).length=l.length:=by simp[zJ]
  rw[Mf b]at q;cases ho:yA l[k]
  ·rw[ho]at i;cases hv:(kG l[k]).isSome
   ·have hs:jy (p,op) k l[k]=none:=by simp[jy,ho,hv]
    rw[hs]at q;rw[q]at a;simp only at a;simp[x,o,A,J,B,K,L,c,d,e,C,F,M,b,D,f,hn,i,hv,D5,a,dH,XI,wQ.V,f271]
   ·cases op
    ·have hs:jy (p,false) k l[k]=some (p.put k ((kG l[k]).getD 0),false):=by simp[jy,ho,hv]
     rw[hs]at q;simp only at q;obtain⟨n0,n1,n2,has,pre⟩:=p;simp only at R hh hh0 N F o;subst R;have hk3:k=0\/k=1\/k=2:=by omega
     rcases hk3 with rfl|rfl|rfl
     ·have j:(0:Int)<(l.length:Int):=by omega
      simp[x,o,A,J,B,K,L,c,d,e,C,F,M,b,j,D,f,hn,i,hv,hw,N];refine⟨by omega,_,?_,?_,?_,?_,?_,(by simpa using q)⟩<;>simp[Part.put]<;>omega
     ·have j:(1:Int)<(l.length:Int):=by omega
      simp[x,o,A,J,B,K,L,c,d,e,C,F,M,b,j,D,f,hn,i,hv,hw,N];refine⟨by omega,_,?_,?_,?_,?_,?_,(by simpa using q)⟩<;>simp[Part.put]<;>omega
     ·have j:(2:Int)<(l.length:Int):=by omega
      simp[x,o,A,J,B,K,L,c,d,e,C,F,M,b,j,D,f,hn,i,hv,hw,N];refine⟨by omega,_,?_,?_,?_,?_,?_,(by simpa using q)⟩<;>simp[Part.put]<;>omega
    ·have hs:jy (p,true) k l[k]=none:=by simp[jy,ho]
     rw[hs]at q;rw[q]at a;simp only at a;simp[x,o,A,J,B,K,L,c,d,e,C,F,M,b,D,f,hn,i,D5,a,dH,XI,wQ.V,f271]
  ·have hs:jy (p,op) k l[k]=some (p,true):=by simp[jy,ho]
   rw[hs]at q;rw[ho]at i;simp[x,o,A,J,B,K,L,c,d,e,C,F,M,b,D,f,i,hw];exact⟨by omega,p,R,rfl,by omega,hh0,⟨rfl,rfl,rfl⟩,q⟩
 ·obtain rfl:k=l.length:=by omega
  rw[zo]at q;simp only[yW]at q;rw[q]at a;simp only at a;have hbe:((p.has:Int)==3)=(p.has==3):=rfl;cases c3
  ·rw[ze (by simp)]at m;rw[m]at a;simp at a;simp[x,o,A,J,B,K,L,c,d,e,C,F,M,qe,qM,D5,a,dH,wQ.V,zJ,f271]
  ·rw[zd rfl]at m;rw[m]at a;have P:(zJ n).length=n.length:=by simp[zJ]
   simp[x,o,A,J,B,K,L,c,d,e,C,F,M,v,qe,qM];refine zI (fun k U Y Z=>U 2=.ref 0 0 0/\U 3=int p.has/\U 4=qz false/\U 7=qz true/\U 75=.own 3 0 n.length/\U 76=int n.length/\U 77=int k/\Y 0=some ⟨192,4,false,[[int p.n0,int p.n1,int p.n2,.own 3 0 n.length]]⟩/\Y 3=some ⟨9,1,true,zJ n⟩/\n.any wX=(n.drop k).any wX) n.length
    ⟨by simp[x],by simp[o],by simp[A],by simp[B],by simp,by simp,by simp,by simp,(by simp;rfl),by simp⟩ ?_
   clear x o A J B K L c d e C F M hk b hh U Y;rintro k U Y Z hk ⟨x,o,A,B,S,T,W,C,b3,X⟩;by_cases b:k<n.length
   ·have hw:=zlL k;have f:=JU b;have hip:=fun Y Z=>kX (fun l=>!wX l) n[k] Y Z (H _ (zj b))
    rw[zc b,wN]at X;cases hb:wX n[k]
    ·rw[hb,ye]at X;simp[x,o,A,B,S,T,W,C,b3,b,P,f,hip,hb,hw];exact⟨by omega,X⟩
    ·rw[hb,Wu]at X;rw[X,zd rfl]at a;simp[x,o,A,B,S,T,W,C,b3,b,P,f,hip,hb,D5,a,dH,wQ.V,f271]
   ·obtain rfl:k=n.length:=by omega
    rw[zo,List.any_nil]at X;rw[X,ze (by simp)]at a;have hd:decide (n.length<=10)=decide ((n.length:Int)<=10):=by congr 1;exact propext ⟨fun h=>by omega,fun h=>by omega⟩
    rw[hd]at a;simp[x,o,A,B,S,T,W,C,b3,D5,a,dH,wQ.V,f271]
theorem QF:zg prog 271 (zf false [] (Kg D5)):=
 xE (fn:=f271) zdK (zpi func271) false [] _ fun args r h w S vs a=>by obtain⟨l,rfl,Y,rfl⟩:=zp h;obtain⟨b,c,d⟩:=fS l Y;exact⟨_,b,a,by simp[f271],c,d⟩
theorem N4(s:za):QV s=if(WE s).2.2=true/\(WE s).2.1≠0 then some ⟨(WE s).1.a,(WE s).1.b,(WE s).1.c,(WE s).2.1,(WE s).1.pre⟩else none:=by
 unfold QV rdR WE;by_cases e:3<(qu (Lib.cut s [45]).1 [46]).length
 ·rw[zd e,zd e];simp
 rw[ze e,ze e];cases yW (wy,false) 0 (qu (Lib.cut s [45]).1 [46])with
 |none=>simp
 |some st=>
  simp only;cases h:(ko s).any wX
  ·simp only[zF,qJ];by_cases f:((Lib.cut s [45]).2.2=false\/st.1.has=3)/\(ko s).length<=10
   ·rw[zd f];have d:((!(Lib.cut s [45]).2.2||st.1.has==3)&&decide ((ko s).length<=10))=true:=by simp only[zH,qd,vY,jq,zP];exact f
    simp only[d,true_and];by_cases g:st.1.has=0
    ·simp[g]
    ·simp[g]
   ·rw[ze f];have d:¬((!(Lib.cut s [45]).2.2||st.1.has==3)&&decide ((ko s).length<=10))=true:=by simp only[zH,qd,vY,jq,zP];exact f
    simp only[d,false_and,qJ];simp
  ·simp
theorem Gr:zr C0 f305 []=some (.agg wu.V):=by refine zm rfl ?_;simp[wu,Cut.V,zJ,str,qe,qM,zz,zS,zy,qS,f305]
theorem fT:zg prog 305 (qG [] (JW (.agg wu.V))):=
 yc (fn:=f305) yz (zpi func305) _ _ fun args r h=>by obtain⟨_,rfl,_,rfl⟩:=zp h;exact⟨by simp[f305],_,Gr,qW.refl _⟩
def wQ.part(v:wQ)(m:Int):Part:=⟨v.a,v.b,v.c,m,v.pre⟩
def wQ.ok(v:wQ):Prop:=(0<=v.a/\v.a<=999999)/\(0<=v.b/\v.b<=999999)/\(0<=v.c/\v.c<=999999)/\xg v.pre
noncomputable def FVI (f:wQ->Int->O) (pre:Int->Prop):zb->Option O:=z6 (α:=wQ×Int) (fun a=>[.agg a.1.V,int a.2]) (fun a=>a.1.ok/\pre a.2) (fun a=>f a.1 a.2)
theorem zhm:∀a b:wQ×Int,[O.agg a.1.V,int a.2]=[O.agg b.1.V,int b.2]->a=b:=by rintro⟨f,g⟩ ⟨h,i⟩ e;simp only[zh,zD]at e;obtain⟨c,d⟩:=e;injection c with c;rw[YF c,qB d]
theorem aN(f:wQ->Int->O)(pre:Int->Prop)(v:wQ)(i:Int)(u:O)(Y:Hp)(Z:Nat)(h:v.ok)(hi:pre i)(b:(Sh.g kJ).fix u=.agg v.V)(c:qH Y u=some (u,Y))(d:u.noOwn=true):qG [.g kJ] (FVI f pre) [u,int i] Y Z=some (f v i,Y,Z):=
 xF (show zv Y [u,int i]=some ([u,int i],Y) by simp only[zv,c];rfl) (by show FVI f pre [(Sh.g kJ).fix u,int i]=_;rw[b];exact zE (V:=fun a:wQ×Int=>[O.agg a.1.V,int a.2]) (a:=(v,i)) zhm ⟨h,hi⟩) (.inr (by rw[q8,d];rfl))
theorem Vw(v:wQ):(Sh.g kJ).fix (.agg v.V)=.agg v.V:=by simp[wQ.V]
theorem aO(v:wQ)(Y:Hp):qH Y (.agg v.V)=some (.agg v.V,Y):=by simp[wQ.V]
theorem aP(v:wQ):O.noOwn (.agg v.V)=true:=by simp[wQ.V]
def ZK(v:wQ)(i:Int):O:=vT (v.part 3) i.toNat
noncomputable abbrev Crra:Ctx:=Zs prog [] 7 [(6,4),(28,4),(30,4),(32,4),(38,4)] [4,6,28,30,32,38] []
theorem zdL:Gd Crra:=Aa mixed trivial trivial
theorem CT(v:wQ)(i:Int)(f:v.ok)(hi:0<=i/\i<3):∃d,zr Crra f342 [.agg v.V,int i]=some d/\qW d (ZK v i):=by
 obtain⟨a,b,c,e⟩:=v;obtain⟨⟨h,j⟩,⟨k,l⟩,⟨m,n⟩,_⟩:=f;simp only at h j k l m n;refine yZ (sh:=.g jP) rfl ?_;have o:=zpg (a+1);have p:=zpg (b+1);have q:=zpg (c+1);rcases(by omega:i=0\/i=1\/i=2)with rfl|rfl|rfl
 ·simp[wQ.V,qe,qM,o];rw[zT];simp;rw[zT];simp;rw[zT];simp;rw[kL (yy (JH (by simp;exact⟨rfl,rfl,rfl⟩) (by simp;exact⟨rfl,rfl,rfl⟩) (by omega) (by simp;rfl) rfl) (yy (ky (by simp;rfl)) (yy (ky (by simp;rfl)) (yy (ky (by simp;rfl)) (yy (ky (by simp;rfl)) (JG _))))))
   (Zd (by simp;exact⟨rfl,rfl,rfl⟩) (by simp) (by simp;rfl) rfl (Zd (by simp;exact⟨rfl,rfl,rfl⟩) (by simp) (by simp;rfl) rfl (vq (by simp;rfl) (vq (by simp;rfl) (vq (by simp;rfl) (vq (by simp;rfl) (Vg _)))))))]
  simp[qe,qM,zz,zS,zy,qC,ZK,wQ.part,vT,jM,xt,Cut.V,zJ,str,f342];exact⟨_,⟨rfl,rfl⟩,rfl⟩
 ·simp[wQ.V,qe,qM,p];rw[zT];simp;rw[zT];simp;rw[kL (yy (JH (by simp;exact⟨rfl,rfl,rfl⟩) (by simp;exact⟨rfl,rfl,rfl⟩) (by omega) (by simp;rfl) rfl) (yy (ky (by simp;rfl)) (yy (ky (by simp;rfl)) (yy (ky (by simp;rfl)) (yy (ky (by simp;rfl)) (JG _))))))
   (Zd (by simp;exact⟨rfl,rfl,rfl⟩) (by simp) (by simp;rfl) rfl (Zd (by simp;exact⟨rfl,rfl,rfl⟩) (by simp) (by simp;rfl) rfl (vq (by simp;rfl) (vq (by simp;rfl) (vq (by simp;rfl) (vq (by simp;rfl) (Vg _)))))))]
  simp[qe,qM,zz,zS,zy,qC,ZK,wQ.part,vT,jM,xt,Cut.V,zJ,str,f342];exact⟨_,⟨rfl,rfl⟩,rfl⟩
 ·simp[wQ.V,qe,qM,q];rw[zT];simp;rw[kL (yy (JH (by simp;exact⟨rfl,rfl,rfl⟩) (by simp;exact⟨rfl,rfl,rfl⟩) (by omega) (by simp;rfl) rfl) (yy (ky (by simp;rfl)) (yy (ky (by simp;rfl)) (yy (ky (by simp;rfl)) (yy (ky (by simp;rfl)) (JG _))))))
   (Zd (by simp;exact⟨rfl,rfl,rfl⟩) (by simp) (by simp;rfl) rfl (Zd (by simp;exact⟨rfl,rfl,rfl⟩) (by simp) (by simp;rfl) rfl (vq (by simp;rfl) (vq (by simp;rfl) (vq (by simp;rfl) (vq (by simp;rfl) (Vg _)))))))]
  simp[qe,qM,zz,zS,zy,qC,ZK,wQ.part,vT,jM,xt,Cut.V,zJ,str,f342];exact⟨_,⟨rfl,rfl⟩,rfl⟩
theorem cT:zg prog 342 (qG [.g kJ] (FVI ZK fun i=>0<=i/\i<3)):=
 yc (fn:=f342) zdL (zpi func342) _ _ fun args r h=>by obtain⟨⟨p,i⟩,rfl,⟨a,b⟩,rfl⟩:=zp h;obtain⟨c,d,e⟩:=CT p i a b;exact⟨by simp[f342],c,d,e⟩
def Yq(v:wQ)(m:Int):O:=Kq (v.part m)
noncomputable abbrev Crup:Ctx:=zQ prog [(342,qG [.g kJ] (FVI ZK fun i=>0<=i/\i<3))]
theorem zdM:Gd Crup:=zph mixed ⟨cT,trivial⟩
theorem mv(v:wQ)(m n:Int)(i:Nat):jM (v.part m) i=jM (v.part n) i/\xt (v.part m) i=xt (v.part n) i:=by
 match i with
 | 0=>exact⟨rfl,rfl⟩
 | 1=>exact⟨rfl,rfl⟩
 |_+2=>exact⟨rfl,rfl⟩
theorem Gs(v:wQ)(m:Int)(e:v.ok)(k:1<=m/\m<=3):zr Crup f340 [.agg v.V,int m]=some (Yq v m):=by
 refine zm rfl ?_;have b:=fun Y Z=>aN ZK (fun i=>0<=i/\i<3) v (m-1) (.agg v.V) Y Z e
 obtain⟨f,g⟩:=mv v m 3 (m-1).toNat;have h:=zpg (m-1);by_cases d:m=3
 ·subst d;simp[wQ.V,qe,qM,Yq,Kq,xm,Wg,wQ.part,Cut.V,qS,f340]
 ·have b:=fun Y Z=>b Y Z (by omega) (Vw v) (aO v Y) (aP v)
  have c:=eqF0 d;have a:m<3:=by omega
  simp only[ZK,vT,wQ.V,Cut.V,<-f,<-g]at b;have j:(v.part m).has=m:=rfl;simp[wQ.V,c,h,b,Yq,Kq,xm,Wg,j,a,Cut.V,qS,f340]
theorem fU:zg prog 340 (qG [.g kJ] (FVI Yq fun m=>1<=m/\m<=3)):=
 yc (fn:=f340) zdM (zpi func340) _ _ fun args r h=>by obtain⟨⟨p,i⟩,rfl,⟨a,b⟩,rfl⟩:=zp h;exact⟨by simp[f340],_,Gs p i a b,qW.refl _⟩
noncomputable abbrev Crct:Ctx:=zQ prog []
theorem zdN:Gd Crct:=zw mixed trivial
def Zu(v:wQ)(m:Int):O:=int (kb (v.part m))
theorem Gt(v:wQ)(m:Int)(k:1<=m/\m<=3):zr Crct f343 [.agg v.V,int m]=some (Zu v m):=by
 obtain⟨a,b,c,e⟩:=v;refine zm rfl ?_;rcases(by omega:m=1\/m=2\/m=3)with rfl|rfl|rfl
 ·simp[wQ.V,zz,zS,zy,jO];rw[zT];by_cases f:a=0
  ·have d:(a != 0)=false:=by simpa using f
   simp[d];rw[zT];simp[Zu,kb,wQ.part,f343]
  ·have d:=nzT f;simp[d,Zu,kb,wQ.part,f343]
 ·simp[wQ.V,zz,zS,zy,jO];rw[zT];by_cases f:a=0
  ·have d:(a != 0)=false:=by simpa using f
   simp[d];rw[zT];by_cases h:b=0
   ·have g:(b != 0)=false:=by simpa using h
    simp[g];rw[zT];simp[Zu,kb,wQ.part,f,f343]
   ·have g:=nzT h;simp[g,Zu,kb,wQ.part,f,f343]
  ·have d:=nzT f;simp[d,Zu,kb,wQ.part,f,f343]
 ·simp[wQ.V,zz,zS,zy,jO];rw[zT];by_cases f:a=0
  ·have d:(a != 0)=false:=by simpa using f
   simp[d];rw[zT];by_cases h:b=0
   ·have g:(b != 0)=false:=by simpa using h
    simp[g];rw[zT];by_cases j:c=0
    ·have i:(c != 0)=false:=by simpa using j
     simp[i];rw[zT];simp[Zu,kb,wQ.part,f,h,f343]
    ·have i:=nzT j;simp[i,Zu,kb,wQ.part,f,h,f343]
   ·have g:=nzT h;simp[g,Zu,kb,wQ.part,f,h,f343]
  ·have d:=nzT f;simp[d,Zu,kb,wQ.part,f,f343]
theorem CU:zg prog 343 (qG [.g kJ] (FVI Zu fun m=>1<=m/\m<=3)):=
 yc (fn:=f343) zdN (zpi func343) _ _ fun args r h=>by obtain⟨⟨p,i⟩,rfl,⟨b,a⟩,rfl⟩:=zp h;exact⟨by simp[f343],_,Gt p i a,qW.refl _⟩
noncomputable abbrev Crut:Ctx:=zQ prog [(312,qG [.g jP,.g jP] (Ce fun v w=>int (wz v w)))]
theorem zdO:Gd Crut:=zph mixed ⟨x4,trivial⟩
theorem Mg(x y:Cut)(c:x.v.small)(d:y.v.small):∃b,zr Crut f341 [.agg x.V,.agg y.V]=some b/\qW b (Xd x y):=by
 refine Wb (sh:=.s 11 jQ) rfl ?_;have a:=fun Y Z=>Cf x y (.agg x.V) (.agg y.V) Y Z (by simp[Cut.V]) (by simp[Cut.V]) (by simp[Cut.V]) c d
 simp only[Cut.V]at a;by_cases h:0<=wz x y
 ·simp[Cut.V,a,h,av,Xd,iu,qb,f341]
 ·simp[Cut.V,a,h,qe,qM,zz,zS,zy,av,Xd,iu,qb,dt,qZ.V,f341]
theorem mw:zg prog 341 (qG [.g jP,.g jP] (Ce Xd)):=
 yc (fn:=f341) zdO (zpi func341) _ _ fun args r h=>by obtain⟨⟨v,w⟩,rfl,⟨a,b⟩,rfl⟩:=zp h;obtain⟨c,d,e⟩:=Mg v w a b;exact⟨by simp[f341],c,d,e⟩
noncomputable abbrev Crop:Ctx:=zQ prog [(159,zf false [] (Zo TZ fun _ _=>True))]
theorem zdP:Gd Crop:=zph mixed ⟨Y3,trivial⟩
def Mh(s:za):O:=str (wS wH s).1
theorem rG(s:za)(h:s.length<=zx):zr Crop f338 [str s]=some (Mh s):=by
 refine zm rfl ?_;have l:∀Y Z,zz prog Y Z 88 7 [(0,str [62,61]),(1,str [60,61]),(2,str [62]),(3,str [60]),(4,str [61]),(5,str [126]),(6,str [94])]=some (.own Z 0 7,qR Y Z (some ⟨9,1,true,zJ wH⟩),Z+1):=fun Y Z=>by simp[zz,zS,zy,wH,str]
 simp[str]at l;simp[l];refine zI (fun k U Y Z=>U 0=str s/\U 5=.own 0 0 7/\U 6=int 7/\U 7=int k/\Y 0=some ⟨9,1,true,zJ wH⟩/\wS wH s=wS (wH.drop k) s) 7 ⟨by simp,by simp,by simp,by simp,by simp,by simp⟩ ?_;rintro k U Y Z r ⟨f,g,i,b,m,a⟩;by_cases c:k<7
 ·have e:k<wH.length:=c;have j:wH[k].length<=zx:=by
   have:∀q∈wH,q.length<=zx:=by decide
   exact this _ (zj e)
  have n:=fun Y Z=>bt s wH[k] Y Z h j
  have o:=zlL k;have d:(k:Int)<7:=by omega
  rw[zc e]at a;simp only[wS]at a;by_cases Y:(wH[k]).isPrefixOf s=true
  ·rw[zd Y]at a;simp[f,g,i,b,m,d,c,e,n,Y,o,Mh,a,qS,f338]
  ·rw[ze Y]at a;have p:(wH[k]).isPrefixOf s=false:=gA.2 Y;simp[f,g,i,b,m,d,c,e,n,p,o];exact⟨by omega,a⟩
 ·obtain rfl:k=7:=by omega
  rw[show wH.drop 7=[]from rfl]at a;simp only[wS]at a;simp[f,g,i,b,Mh,a,qS,f338]
theorem nt:zg prog 338 (zf false [] (SY Mh)):=
 pS1 zdP func338 false [] fun l Y=>⟨by simp[f338],_,rG l Y,zW _⟩
def sU(c:UInt8):za->List za
 |[]=>[[]]
 |b::l=>if b=c then[]::sU c l else match sU c l with
  |[]=>[[b]]
  |p::a=>(b::p)::a
theorem zar(c:UInt8):∀l,∃p a,sU c l=p::a
 |[]=>⟨[],[],rfl⟩
 |b::l=>by
  unfold sU;split
  ·exact⟨_,_,rfl⟩
  ·split
   ·exact⟨_,_,rfl⟩
   ·exact⟨_,_,rfl⟩
theorem aQ{s sep:za}(h:Lib.index s sep=-1):qu s sep=[s]:=by unfold qu Lib.split;rw[Lib.count_miss h];rfl
theorem dI{s sep:za}{i:Nat}(a:sep≠[])(h:Lib.index s sep=i):qu s sep=s.take i::qu (s.drop (i+sep.length)) sep:=by unfold qu Lib.split;rw[Lib.count_hit a h,DT 1,dk h]
theorem dJ(c:UInt8):∀s:za,qu s [c]=sU c s
 |[]=>aQ rfl
 |b::l=>by
  have a:=dJ c l;by_cases h:b=c
  ·subst h;have hi:Lib.index (b::l) [b]=((0:Nat):Int):=by simp[Lib.index]
   rw[dI (by simp) hi];simp[sU,a]
  ·have f:¬c=b:=fun e=>h e.symm
   rcases Lib.index_spec l [c]with⟨d,_⟩|⟨i,d,_⟩
   ·have hi:Lib.index (b::l) [c]=-1:=by simp[Lib.index,f,d]
    rw[aQ hi];rw[aQ d]at a;simp[sU,h,<-a]
   ·have hi:Lib.index (b::l) [c]=((i+1:Nat):Int):=by
     have:¬((i:Int)=-1):=by omega
     simp[Lib.index,f,d,this]
    rw[dI (by simp) hi];rw[dI (by simp) d]at a;simp only[sU,ze h,<-a];simp
def jh(s:za):List za:=wO (sU 32 s)
theorem iZ(s:za):wO (qu s [32])=jh s:=by rw[dJ];rfl
theorem CV:jh []=[]:=rfl
theorem aR(x:za)(l:List za):wO (x::l)=if x=[]then wO l else x::wO l:=by cases x<;>simp[wO,sS]
theorem zas(s:za):jh (32::s)=jh s:=by simp[jh,sU,aR]
theorem bQ:∀s:za,jh (Lib.trimLeftB s 32)=jh s
 |[]=>rfl
 |b::l=>by
  unfold Lib.trimLeftB;by_cases h:b=32
  ·subst h;rw[H5 (by simp),zas];exact bQ l
  ·rw[Qm (by simpa using h)]
theorem Gu(c:UInt8):∀s:za,sU c (s++[c])=sU c s++[[]]
 |[]=>by simp[sU]
 |b::l=>by
  have a:=Gu c l;obtain⟨p,d,e⟩:=zar c l;by_cases h:b=c
  ·simp[sU,h,a]
  ·simp[sU,h,a,e]
theorem zat(s:za):jh (s++[32])=jh s:=by unfold jh;rw[Gu];simp[wO,sS]
theorem Rn(s:za):jh (Lib.trimRightB s 32)=jh s:=by
 have a:∀m:za,jh ((m.dropWhile (·==32)).reverse)=jh m.reverse:=by
  intro m
  induction m with
  |nil=>rfl
  |cons b m c=>
   by_cases h:b=32
   ·subst h;rw[H5 (by simp),c,List.reverse_cons,zat]
   ·rw[Qm (by simpa using h)]
 have:=a s.reverse;rwa [List.reverse_reverse]at this
theorem zau(s:za):jh (Lib.trimB s 32)=jh s:=by unfold Lib.trimB;rw[bQ,Rn]
def hd(s:za):za:=s.takeWhile (· != 32)
def tl(s:za):za:=s.dropWhile (· != 32)
theorem mx(s:za):hd s++tl s=s:=List.takeWhile_append_dropWhile
theorem CW:∀(u:za),(∀c∈u,c≠32)->∀r,(sU 32 (u++32::r)=u::sU 32 r)/\sU 32 u=[u]
 |[],_,r=>⟨by simp[sU],rfl⟩
 |b::u,h,r=>by
  obtain⟨d,e⟩:=CW u (fun c f=>h c (by simp[f])) r;have a:¬b=32:=h b (by simp);constructor
  ·rw[wI,sU,ze a,d]
  ·rw[sU,ze a,e]
theorem zav(s:za):∀c∈hd s,c≠32:=fun c a=>by have:=List.all_takeWhile (p:=fun c:UInt8=>c != 32) (l:=s);rw[ql]at this;simpa using this c a
theorem CX(s:za):tl s=[]\/∃r,tl s=32::r:=by
 unfold tl
 induction s with
 |nil=>exact .inl rfl
 |cons b s a=>
  by_cases h:b=32
  ·subst h;rw[Qm (by simp)];exact .inr ⟨s,rfl⟩
  ·rw[H5 (by simpa using h)];exact a
theorem Gv{s:za}(h:hd s≠[]):jh s=hd s::jh (tl s):=by
 have e:=mx s;rcases CX s with a|⟨r,a⟩
 ·rw[a,kr]at e;rw[a,CV]
  conv=>lhs;rw[<-e]
  unfold jh;rw[(CW (hd s) (zav s) []).2,aR,ze h];rfl
 ·rw[a]at e⊢;rw[zas]
  conv=>lhs;rw[<-e]
  unfold jh;rw[(CW (hd s) (zav s) r).1,aR,ze h]
def N5(s:za):Prop:=s=[]\/hd s≠[]
theorem KA:∀s:za,N5 (Lib.trimLeftB s 32)
 |[]=>.inl rfl
 |b::l=>by
  unfold Lib.trimLeftB;by_cases h:b=32
  ·subst h;rw[H5 (by simp)];exact KA l
  ·rw[Qm (by simpa using h)];exact .inr (by simp[hd,h])
theorem zaw{s:za}(h:N5 s):Lib.trimLeftB s 32=s:=by
 cases s with
 |nil=>rfl
 |cons b l=>
  rcases h with h|h
  ·cases h
  ·unfold Lib.trimLeftB;by_cases a:b=32
   ·subst a;exact absurd (by simp[hd]) h
   ·rw[Qm (by simpa using a)]
theorem bR(s:za):(Lib.trimLeftB s 32).length<=s.length:=(List.dropWhile_sublist _).length_le
theorem zhn{g:za}(d:∀c∈g,c≠32)(s:za):g.isPrefixOf s=g.isPrefixOf (hd s):=by
 induction g generalizing s with
 |nil=>simp
 |cons a g h=>
  cases s with
  |nil=>rfl
  |cons b s=>
   have i:=d a (by simp);by_cases f:b=32
   ·subst f;have e:hd (32::s)=[]:=by simp[hd]
    rw[e];simp[List.isPrefixOf,i]
   ·have e:hd (b::s)=b::hd s:=by simp[hd,f]
    rw[e];simp only[List.isPrefixOf];rw[h (fun c j=>d c (by simp[j])) s]
theorem zax:∀(gs:List za) (_:∀g∈gs,∀c∈g,c≠32) (s:za),wS gs s=((wS gs (hd s)).1,(wS gs (hd s)).2++tl s)
 |[],_,s=>by simp[wS,mx]
 |g::gs,h,s=>by
  have Y:=zhn (h g (by simp)) s;simp only[wS];rw[Y];split
  ·rename_i a;have b:=(H4.1 a).length_le;have e:=mx s
   conv=>lhs;rw[<-e]
   rw[List.drop_append_of_le_length b]
  ·exact zax gs (fun g d=>h g (by simp[d])) s
theorem zho:∀g∈wH,∀c∈g,c≠32:=by decide
theorem Wq:∀(gs:List za) (s:za),(wS gs s).2=s.drop (wS gs s).1.length
 |[],s=>rfl
 |g::gs,s=>by
  simp only[wS];split
  ·rfl
  ·exact Wq gs s
theorem Mi(gs:List za)(s:za):(wS gs s).2 <:+ s:=by rw[Wq];exact List.drop_suffix _ _
abbrev cU:=za×za
def kz:List za->Option (List cU)
 |[]=>some []
 |[w]=>if(wS wH w).2=[]then none else some [wS wH w]
 |w::x::a=>if(wS wH w).2=[]then(kz a).map (((wS wH w).1,x)::·)else(kz (x::a)).map (wS wH w::·)
theorem JK(w:za)(a:List za)(h:(wS wH w).2≠[]):kz (w::a)=(kz a).map (wS wH w::·):=by
 cases a with
 |nil=>simp[kz,h]
 |cons x a=>simp[kz,h]
def sQ(s:za):cU×za:=((((wS wH s).1,hd (Lib.trimLeftB (wS wH s).2 32)):cU),tl (Lib.trimLeftB (wS wH s).2 32))
theorem zay{s:za}(h:hd s≠[]):kz (jh s)=if(sQ s).1.2=[]then none else(kz (jh (sQ s).2)).map ((sQ s).1::·):=by
 have f:=zax wH zho s;obtain⟨o,r,a⟩:∃o r,wS wH (hd s)=(o,r):=⟨_,_,rfl⟩;rw[a]at f;simp only at f;have d:∀c∈r,c≠32:=fun c g=>by have:=Mi wH (hd s);rw[a]at this;exact zav s c (this.mem g)
 rw[Gv h];by_cases i:r=[]
 ·subst i;rw[wC]at f;unfold sQ;rw[f];simp only;obtain⟨u,j⟩:=exI (Lib.trimLeftB (tl s) 32);have l:jh (tl s)=jh u:=by rw[<-j,bQ]
  have ht:N5 u:=by rw[<-j];exact KA _
  rw[j,l];rcases ht with rfl|ht
  ·rw[CV,zd (show hd []=[]from rfl)];simp[kz,a]
  ·rw[Gv ht,ze ht];simp[kz,a]
 ·have m:Lib.trimLeftB (r++tl s) 32=r++tl s:=by
   cases r with
   |nil=>exact absurd rfl i
   |cons b r=>have n:=d b (by simp);exact zaw (.inr (by simp[hd,n]))
  have p:hd (r++tl s)=r:=by unfold hd;rw[List.takeWhile_append_of_pos (fun c g=>by simpa using d c g)];rcases CX s with e|⟨q,e⟩<;>rw[e]<;>simp
  have t:tl (r++tl s)=tl s:=by
   unfold tl;rw[List.dropWhile_append_of_pos (fun c g=>by simpa using d c g)];rcases CX s with e|⟨q,e⟩
   ·have k:List.dropWhile (fun x=>x != 32) s=[]:=e;rw[k];rfl
   ·have k:List.dropWhile (fun x=>x != 32) s=32::q:=e;rw[k];rfl
  unfold sQ;rw[f];simp only;rw[m,p,t,ze i,JK _ _ (by rw[a];exact i),a]
theorem zaz{s:za}(h:(sQ s).1.2≠[]):(sQ s).2.length<s.length:=by unfold sQ at h⊢;simp only at h⊢;have a:=mx (Lib.trimLeftB (wS wH s).2 32);have b:=zC List.length a;rw[qt]at b;have c:=bR (wS wH s).2;have d:=Xg wH s;have e:=xa.2 h;omega
end Go.Q
