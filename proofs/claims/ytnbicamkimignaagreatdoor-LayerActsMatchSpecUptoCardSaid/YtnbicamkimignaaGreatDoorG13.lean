/- Lemmas. -/
import Derived.Lib.Bytealg
import Derived.Test.YtnbicamkimignaaGreatDoorG12
set_option maxRecDepth 100000
open Go Proofs Proofs.YtnbicamkimignaaGreatDoor Proofs.Tryz RowKit AM SpanLaw Q Zz
open Go.IntKind renaming i64→i6
namespace Go.Q
noncomputable abbrev Cra (n:Nat):Ctx:=qb prog [(217,zi false [] (FV (fun v=>int v.fault) n)),(243,GV fun v=>int (dq v)),(244,zi false [] (F3 jg)),(245,zi false [] (FS (wG 32 126)))]
@[simp]theorem qra2(n:Nat):yB (Cra n) 245:=wC (by rfl) (zt _ _)
theorem Md(a:za):(!jg a.length 1 60||!wG 32 126 a)=mL a:=by
 unfold mL jg;cases a with
 |nil=>rfl
 |cons c a=>generalize wG 32 126 (c::a)=x;rw[qA];cases x<;>simp<;>omega
theorem pS(n:Nat)(v:qE)(h:v.vb≤zG∧v.vb≤n+1):zz (Cra n) f217 [.agg v.V]=some (int v.fault):=by
 have R:=QW v;have S:=jk v.items;have T:=ke v.fields;obtain⟨N,hb⟩:=h;have z:=fun Y Z=>Jt (fun v=>int (dq v)) v Y Z N
 unfold zG at N;have c:=CD v;refine zo rfl ?_;by_cases C:dq v=0
 case neg=>
  have E:(dq v != 0)=true:=by simpa using C
  have F:v.fault=dq v:=by rw[c];exact zj C
  simp[z,E,F,f217]
 have c:v.fault=if ZJ v.items=0 then VP none v.fields else ZJ v.items:=by rw[c];exact zf C
 simp[z,C];refine zQ (fun k m Y Z=>m 1=.ref 0 0 0∧m 16=.sl 5 (v.items.map qE.V)∧m 17=int v.items.length∧m 18=int k∧1≤Z∧Y 0=some ⟨136,5,false,[v.V]⟩∧ZJ v.items=ZJ (v.items.drop k)) v.items.length
  ⟨by simp,by simp,by simp,by simp,by simp,by simp,by simp⟩ ?_
 rintro k m Y Z P ⟨i,q,r,s,w,p,t⟩;have u:¬0=Z:=by omega
 by_cases b:k<v.items.length
 ·have U:=kP (zm b);have Q:i6.wrap ((k:Int)+1)=(k:Int)+1:=zn (by omega) (by omega);have a:=fun Y Z=>Yq (fun v=>int v.fault) n v.items[k] Y Z ⟨by unfold zG;omega,by omega⟩
  rw[gM b]at t;by_cases d:v.items[k].fault=0
  ·rw[zf d]at t;simp[i,q,r,s,b,a,d,Q]
   and_intros<;>first|omega|exact t|simp[u,p]
  ·rw[zj d]at t;have o:(v.items[k].fault != 0)=true:=by simpa using d
   rw[t,zj d]at c;simp[i,q,r,s,b,a,o,c,f217]
 ·obtain rfl:k=v.items.length:=by omega
  rw[zl]at t;have t:ZJ v.items=0:=by rw[t];rfl
  rw[t,zf rfl]at c;simp[i,q,r,s,p];refine zQ (fun k m Y Z=>m 1=.ref 0 0 0∧m 29=.sl 6 (v.fields.map yu)∧m 30=int v.fields.length∧m 31=int k∧1≤Z∧Y 0=some ⟨136,5,false,[v.V]⟩∧v.fault=VP (QB v.fields k) (v.fields.drop k)) v.fields.length
   ⟨by simp[i],by simp,by simp,by simp,w,p,by simp[c,QB]⟩ ?_
  clear i q r s w p b P u Z Y m c;rintro k m Y Z P ⟨i,e,f,g,w,p,c⟩;have u:¬0=Z:=by omega
  by_cases b:k<v.fields.length
  ·have U:=xV (zm b);have Q:i6.wrap ((k:Int)+1)=(k:Int)+1:=zn (by omega) (by omega);have l:v.fields[k].1.length≤zG:=by unfold zG;omega
   have a:=fun Y Z=>Yq (fun v=>int v.fault) n v.fields[k].2 Y Z ⟨by unfold zG;omega,by omega⟩
   have en:=Md v.fields[k].1;rw[gN b]at c;cases x:mL v.fields[k].1
   case true=>simp[i,e,f,g,b,l,en,x,c,f217]
   have A:QB v.fields (k+1)=some v.fields[k].1:=by simp[QB,b]
   simp only[x,zU,wK]at c;by_cases W:k=0
   ·subst W;simp only[QB,sF,wi,zU,wK]at c;by_cases d:v.fields[0].2.fault=0
    ·rw[zf d]at c;have X:i6.wrap 1=1:=zn (by omega) (by omega);simp[i,e,f,g,b,l,en,x,a,d,X]
     and_intros<;>first|omega|(rw[c];rw[A];simp;done)|simp[u,p]
    ·rw[zj d]at c;have o:(v.fields[0].2.fault != 0)=true:=by simpa using d
     simp[i,e,f,g,b,l,en,x,a,o,c,f217]
   ·obtain⟨j,rfl⟩:∃j,k=j+1:=⟨k-1,by omega⟩;have D:j<v.fields.length:=by omega
    have G:i6.wrap ((j:Int)+1-1)=(j:Int):=by rw[zn (by omega) (by omega)];omega
    have y:i6.wrap (j:Int)=(j:Int):=zn (by omega) (by omega);have H:((j:Int)+1).toNat=j+1:=by omega
    have I:0<(j:Int)+1:=by omega
    have J:0≤(j:Int)+1:=by omega
    have K:(j:Int)+1<v.fields.length:=by omega
    have wk:i6.wrap ((j:Int)+1+1)=(j:Int)+1+1:=zn (by omega) (by omega);have L:(Op.bytesLess v.fields[j+1].1 v.fields[j].1||v.fields[j+1].1==v.fields[j].1)=fg v.fields[j+1].1 v.fields[j].1:=rfl;have M:QB v.fields (j+1)=some v.fields[j].1:=by simp[QB,D]
    simp only[M,sF]at c;cases B:fg v.fields[j+1].1 v.fields[j].1
    case true=>simp only[B,wi]at c;simp[i,e,f,g,b,D,l,en,x,a,p,u,G,y,H,I,J,K,L,B,c,f217]
    simp only[B,zU,wK]at c;by_cases d:v.fields[j+1].2.fault=0
    ·rw[zf d]at c;simp[i,e,f,g,b,D,l,en,x,a,p,u,G,y,H,I,J,K,L,B,d,wk]
     and_intros<;>first|omega|(rw[c];rw[A])|simp[u,p]
    ·rw[zj d]at c;have o:(v.fields[j+1].2.fault != 0)=true:=by simpa using d
     simp[i,e,f,g,b,D,l,en,x,a,p,u,G,y,H,I,J,K,L,B,o,c,f217]
  ·obtain rfl:k=v.fields.length:=by omega
   rw[zl]at c;have c:v.fault=0:=by rw[c];rfl
   simp[i,e,f,g,c,f217]
theorem ng:∀n,zg prog 217 (zi false [] (FV (fun v=>int v.fault) n)):=by
 intro n
 induction n with
 |zero=>exact lD ⟨_,func217,by kernel_rfl,by kernel_rfl⟩
 |succ n a=>
  have b:AM.Good (Cra n) (fun g=>[244,245].contains g):=zI mixed ⟨a,by simp,fq,by simp,ZL,fun _=>zt _ _,WW,fun _=>zt _ _,trivial⟩;exact qq (fn:=f217) b ⟨_,func217,by kernel_rfl,rfl,by kernel_rfl⟩ false [] _ fun args r h=>by obtain⟨v,rfl,c,rfl⟩:=JW h;exact⟨zC (ze 1) (by decide),_,pS n v c,qm _⟩
noncomputable abbrev Crch:Ctx:=qb prog [(217,GV fun v=>int v.fault),(216,zi false [] (FV2 (fun v l=>.yb [int (v.rp l).1,wq (v.rp l).2]) 1 9 zG))]
theorem Aa:zg prog 199 (GV fun v=>int v.check):=
 qq (fn:=f199) (zI (q:=[]) mixed ⟨ng zG,by simp,u9 zG,by simp,trivial⟩:AM.Good Crch _) ⟨_,func199,by kernel_rfl,rfl,by kernel_rfl⟩ false [] _ fun args r h=>by
  obtain⟨v,rfl,b,rfl⟩:=JW h;have c:=fun Y Z=>Jt (fun v=>int v.fault) v Y Z b.1
  have d:=fun Y Z=>CS (fun v l=>.yb [int (v.rp l).1,wq (v.rp l).2]) 1 9 zG v 1 Y Z ⟨b.1,b.1,by omega,by omega⟩
  refine⟨by simp[f199],_,zo rfl ?_,qm _⟩;have f:=Pq v;have a:((v.rp 1).2||decide (1000<(v.rp 1).1))=Kq (v.rp 1):=rfl;unfold qE.check;rw[←f];cases e:Kq (v.rp 1)
  ·simp[c,d,a,e,f199]
  ·simp[c,d,a,e,f199]
def ya(a b:Int):Int:=if a<b then -1 else if b<a then 1 else 0
def Ab(a b:za):Int:=if Op.bytesLess a b then -1 else if Op.bytesLess a b||a==b then 0 else 1
def T4(f:Int→Int→Int):zc→Option O
 |[.v (.int .i64 a),.v (.int .i64 b)]=>some (int (f a b))
 |_=>none
theorem UQ{f:Int→Int→Int}{args:zc}{r:O}(h:T4 f args=some r):∃a b,args=[int a,int b]∧r=int (f a b):=by
 unfold T4 at h;split at h
 ·injection h with h;exact⟨_,_,rfl,h.symm⟩
 ·cases h
@[simp]theorem zhu(f:Int→Int→Int)(a b:Int)(Y:Hp)(Z:Nat):zi false [] (T4 f) [.v (.int .i64 a),.v (.int .i64 b)] Y Z=some (int (f a b),Y,Z):=qe rfl rfl (.inl rfl)
def Ac:zc→Option O
 |[.v (.int .i64 _)]=>some (wq false)
 |_=>none
def Ad:zc→Option O
 |[.v (.string _)]=>some (wq false)
 |_=>none
@[simp]theorem zcK(a:Int)(Y:Hp)(Z:Nat):zi false [] Ac [.v (.int .i64 a)] Y Z=some (wq false,Y,Z):=qe rfl rfl (.inl rfl)
@[simp]theorem zcL(a:ByteArray)(Y:Hp)(Z:Nat):zi false [] Ad [.v (.string a)] Y Z=some (wq false,Y,Z):=qe rfl rfl (.inl rfl)
theorem Ae:zg prog 225 (zi false [] Ac):=
 qq (fn:=f225) w8 ⟨_,func225,by kernel_rfl,rfl,by kernel_rfl⟩ false [] _ fun args r h=>by
  unfold Ac at h;split at h
  ·injection h with h;subst h;exact⟨by simp[f225],_,zo rfl (by simp[f225]),qm _⟩
  ·cases h
theorem Af:zg prog 246 (zi false [] Ad):=
 qq (fn:=f246) w8 ⟨_,func246,by kernel_rfl,rfl,by kernel_rfl⟩ false [] _ fun args r h=>by
  unfold Ad at h;split at h
  ·injection h with h;subst h;exact⟨by simp[f246],_,zo rfl (by simp[f246]),qm _⟩
  ·cases h
noncomputable abbrev Cnn:Ctx:=qb prog [(225,zi false [] Ac),(246,zi false [] Ad)]
theorem Pt:AM.Good Cnn (fun g=>[225,246].contains g):=zI mixed ⟨Ae,fun _=>zt _ _,Af,fun _=>zt _ _,trivial⟩
theorem Wc:zg prog 204 (zi false [] (T4 ya)):=
 qq (fn:=f204) Pt ⟨_,func204,by kernel_rfl,rfl,by kernel_rfl⟩ false [] _ fun args r h=>by
  obtain⟨a,b,rfl,rfl⟩:=UQ h;refine⟨by simp[f204],_,zo rfl ?_,qm _⟩;unfold ya;by_cases c:a<b
  ·simp[c,f204]
  ·by_cases d:b<a
   ·simp[c,d,f204]
   ·simp[c,d,f204]
noncomputable def Me (f:za→za→Int):zc→Option O:=qv (α:=za×za) (fun a=>[str a.1,str a.2]) (fun _=>True) (fun a=>int (f a.1 a.2))
@[simp]theorem zhv(f:za→za→Int)(a b:za)(Y:Hp)(Z:Nat):zi false [] (Me f) [str a,str b] Y Z=some (int (f a b),Y,Z):=
 qe rfl (zJ (V:=fun a:List UInt8×za=>[str a.1,str a.2]) (a:=(a,b)) (fun a b e=>by obtain⟨c,d⟩:=a;obtain⟨g,h⟩:=b;simp only[zh,zK]at e;rw[wx e.1,wx e.2]) trivial) (.inl rfl)
theorem nh:zg prog 218 (zi false [] (Me Ab)):=
 qq (fn:=f218) Pt ⟨_,func218,by kernel_rfl,rfl,by kernel_rfl⟩ false [] _ fun args r h=>by
  obtain⟨⟨a,b⟩,rfl,_,rfl⟩:=zr h;refine⟨by simp[f218],_,zo rfl ?_,qm _⟩;simp only[Ab];cases c:Op.bytesLess a b
  ·cases d:(a==b)
   ·simp[c,d,f218]
   ·simp[c,d,f218]
  ·simp[c,f218]
@[simp]theorem zf1(a:Int):ya a a=0:=by simp[ya]
noncomputable abbrev YF:=Lib.compareBytes
theorem iS:zg prog 69 (zi false [] (Me YF)):=
 uK ⟨_,func69,by kernel_rfl,by kernel_rfl⟩ fun args r h=>by obtain⟨⟨a,b⟩,rfl,_,rfl⟩:=zr h;exact⟨[.string ⟨a.toArray⟩,.string ⟨b.toArray⟩],rfl,by simp[lit],_,rfl,rfl,fun w=>by simpa using Tryz.bytealg_CompareString ⟨a.toArray⟩ ⟨b.toArray⟩ w⟩
noncomputable abbrev Cstr:Ctx:=qb prog [(69,zi false [] (Me YF))]
theorem va:zg prog 25 (zi false [] (Me YF)):=
 qq (fn:=f25) (zI (q:=[]) mixed ⟨iS,by simp,trivial⟩:AM.Good Cstr _) ⟨_,func25,by kernel_rfl,rfl,by kernel_rfl⟩ false [] _ fun args r h=>by obtain⟨⟨a,b⟩,rfl,_,rfl⟩:=zr h;exact⟨by simp[f25],_,zo rfl (by simp[f25]),qm _⟩
def V4:List Int→Int
 |[]=>0
 |n::l=>if n=0 then V4 l else n
def b8(l:List Int):List zc:=l.map fun n=>[int n]
@[simp]theorem zcM(l:List Int):(b8 l).length=l.length:=by simp[b8]
@[simp]theorem zjh{l:List Int}{k:Nat}(h:k<(b8 l).length):(b8 l)[k]=[int (l[k]'(by simpa using h))]:=by simp[b8]
theorem Pu{a b:List Int}(h:b8 a=b8 b):a=b:=y7 (fun x y e=>by simp only[zh,zK]at e;exact qn e) h
noncomputable def Of:zc→Option O:=qv (α:=List Int) (fun l=>[.sl 1 (b8 l)]) (fun l=>l.length≤zG) (fun l=>int (V4 l))
theorem UR(l:List Int)(j:l.length≤zG):zz C0 f226 [.sl 1 (b8 l)]=some (int (V4 l)):=by
 refine zo rfl ?_;unfold zG at j;simp;refine zQ (fun k c Y Z=>c 3=int 0∧c 6=.sl 1 (b8 l)∧c 7=int l.length∧c 8=int k∧V4 l=V4 (l.drop k)) l.length ⟨by simp,by simp,by simp,by simp,by simp⟩ ?_;rintro k c Y Z n ⟨e,f,g,h,b⟩;by_cases a:k<l.length
 ·have m:i6.wrap ((k:Int)+1)=(k:Int)+1:=zn (by omega) (by omega);rw[zd a]at b;simp only[V4]at b;by_cases d:l[k]=0
  ·rw[zf d]at b;simp[e,f,g,h,a,d,m];exact⟨a,b⟩
  ·rw[zj d]at b;have i:(l[k] != 0)=true:=by simpa using d
   simp[e,f,g,h,a,i,b,f226]
 ·obtain rfl:k=l.length:=by omega
  rw[zl]at b;simp[e,f,g,h,b,V4,f226]
theorem Xu:zg prog 226 (zi false [] Of):=
 qq (fn:=f226) w8 ⟨_,func226,by kernel_rfl,rfl,by kernel_rfl⟩ false [] _ fun args r h=>by obtain⟨l,rfl,Y,rfl⟩:=zr h;exact⟨by simp[f226],_,UR l Y,qm _⟩
theorem dt(l:List Int)(Y:Hp)(Z id:Nat)(e:Nat)(h:l.length≤zG)(c:Y id=some ⟨e,1,true,b8 l⟩):zi false [] Of [.own id 0 l.length] Y Z=some (int (V4 l),Y,Z):=by have d:(b8 l).take l.length=b8 l:=qp (by simp);refine qe (show zA Y [.own id 0 l.length]=some ([.sl 1 (b8 l)],qZ Y id none) by simp[c,d]) ?_ (.inl rfl);exact zJ (V:=fun l:List Int=>[O.sl 1 (b8 l)]) (a:=l) (fun a b e=>by simp only[zh,zK]at e;injection e with _ e;exact Pu e) h
def xX(l:za):Bool:=!l.isEmpty&&vA l
noncomputable def yc (a b:za):Int:=if xX a=true then(if xX b=true then V4 [ya (Lib.trimLeftB a 48).length (Lib.trimLeftB b 48).length,YF (Lib.trimLeftB a 48) (Lib.trimLeftB b 48)]else -1)else if xX b=true then 1 else YF a b
noncomputable abbrev Ccp:Ctx:=qb prog [(326,zi false [] (FS vA)),(274,zi false [] (Jv tlP fun _ b=>uU b)),(204,zi false [] (T4 ya)),(25,zi false [] (Me YF)),(226,zi false [] Of)]
theorem zdQ:AM.Good Ccp (fun g=>[326].contains g):=zI mixed ⟨WY,fun _=>zt _ _,YS,by simp,Wc,by simp,va,by simp,Xu,by simp,trivial⟩
@[simp]theorem zji:yB Ccp 326:=wC (by rfl) (zt _ _)
theorem lG(a:za)(Y:Hp)(Z:Nat)(h:a.length≤zG):zi false [] (Jv tlP fun _ b=>uU b) [str a,str [48]] Y Z=some (str (Lib.trimLeftB a 48),Y,Z):=ZM _ _ a [48] Y Z h (by decide) ⟨48,rfl,by decide⟩ rfl
theorem iT(a b:za)(i:a.length≤zG)(j:b.length≤zG):zz Ccp f302 [str a,str b]=some (int (yc a b)):=by
 refine zo rfl ?_;have c:=fun Y Z=>vn vA a Y Z i
 have d:=fun Y Z=>vn vA b Y Z j
 have k:=fun Y Z=>lG a Y Z i
 have tb:=fun Y Z=>lG b Y Z j
 have e:(!a.isEmpty&&vA a)=xX a:=rfl;have f:(!b.isEmpty&&vA b)=xX b:=rfl;cases g:xX a<;>cases h:xX b
 ·simp[c,d,e,f,g,h,yc,f302]
 ·simp[c,d,e,f,g,h,yc,f302]
 ·simp[c,d,e,f,g,h,yc,f302]
 ·have l:∀(Y:Hp) (Z id:Nat),Y id=some ⟨3,1,true,[[int (ya (Lib.trimLeftB a 48).length (Lib.trimLeftB b 48).length)],[int (YF (Lib.trimLeftB a 48) (Lib.trimLeftB b 48))]]⟩→zi false [] Of [.own id 0 2] Y Z=some (int (V4 [ya (Lib.trimLeftB a 48).length (Lib.trimLeftB b 48).length,YF (Lib.trimLeftB a 48) (Lib.trimLeftB b 48)]),Y,Z):=fun Y Z id m=>dt [_,_] Y Z id _ (by show 2≤zG;decide) m
  simp[c,d,k,tb,e,f,g,h,l,zv,zN,zy,yc,f302]
theorem ft:zg prog 302 (zi false [] (Jv (fun a b=>int (yc a b)) fun _ _=>True)):=
 qq (fn:=f302) zdQ ⟨_,func302,by kernel_rfl,rfl,by kernel_rfl⟩ false [] _ fun args r h=>by obtain⟨a,b,rfl,c,d,_,rfl⟩:=xW h;exact⟨by simp[f302],_,iT a b c d,qm _⟩
theorem sM(a b:za)(Y:Hp)(Z:Nat)(h:a.length≤zG)(c:b.length≤zG):zi false [] (Jv (fun a b=>int (yc a b)) fun _ _=>True) [str a,str b] Y Z=some (int (yc a b),Y,Z):=ZM _ _ a b Y Z h c trivial rfl
def y1{α:Type}(c:α→α→Int):List α→List α→Int
 |[],[]=>0
 |[],_::_=>-1
 |_::_,[]=>1
 |x::a,y::b=>if c x y=0 then y1 c a b else c x y
noncomputable abbrev Ccf:Ctx:=qb prog [(302,zi false [] (Jv (fun a b=>int (yc a b)) fun _ _=>True))]
theorem zdR:AM.Good Ccf (fun g=>([]:List Nat).contains g):=zI mixed ⟨ft,by simp,trivial⟩
def vP(l:List za):Prop:=l.length≤zG∧∀p∈l,p.length≤zG
theorem du(a b:List za)(p:vP a)(q:vP b):zz Ccf f301 [.sl 1 (qd a),.sl 1 (qd b),.fn (.func 302) [] []]=some (int (y1 yc a b)):=by
 refine zo rfl ?_;obtain⟨p,r⟩:=p;obtain⟨q,s⟩:=q;unfold zG at p q;simp;refine zQ (fun k j Y Z=>j 0=.sl 1 (qd a)∧j 1=.sl 1 (qd b)∧j 2=.fn (.func 302) [] []∧j 11=.sl 1 (qd a)∧j 12=int a.length∧j 13=int k∧k≤b.length∧y1 yc a b=y1 yc (a.drop k) (b.drop k)) a.length
  ⟨by simp,by simp,by simp,by simp,by simp,by simp,by simp,by simp⟩ ?_
 rintro k j Y Z z ⟨l,m,n,f,g,h,w,c⟩;by_cases d:k<a.length
 ·have x:i6.wrap ((k:Int)+1)=(k:Int)+1:=zn (by omega) (by omega);by_cases e:k<b.length
  ·have i:¬b.length≤k:=by omega
   have v:=fun Y Z=>sM a[k] b[k] Y Z (r _ (zm d)) (s _ (zm e))
   rw[zd d,zd e]at c;simp only[y1]at c;by_cases o:yc a[k] b[k]=0
   ·rw[zf o]at c;simp[l,m,n,f,g,h,d,e,i,v,o,x];exact⟨d,by omega,c⟩
   ·rw[zj o]at c;have t:(yc a[k] b[k] != 0)=true:=by simpa using o
    simp[l,m,n,f,g,h,d,e,i,v,t,c,f301]
  ·obtain rfl:k=b.length:=by omega
   rw[zd d,zl]at c;simp only[y1]at c;simp[l,m,n,f,g,h,d,c,f301]
 ·obtain rfl:k=a.length:=by omega
  rw[zl]at c;by_cases u:a.length<b.length
  ·rw[zd u]at c;simp only[y1]at c;simp[l,m,n,f,g,h,u,c,f301]
  ·rw[vJ (by omega)]at c;simp only[y1]at c;have y:¬((a.length:Int)<b.length):=by omega
   simp[l,m,n,f,g,h,u,c,f301]
noncomputable def FCf:zc→Option O:=qv (α:=List za×List za) (fun a=>[.sl 1 (qd a.1),.sl 1 (qd a.2),.fn (.func 302) [] []]) (fun a=>vP a.1∧vP a.2) (fun a=>int (y1 yc a.1 a.2))
theorem zdS:∀a b:List za×List za,[O.sl 1 (qd a.1),.sl 1 (qd a.2),.fn (.func 302) [] []]=[.sl 1 (qd b.1),.sl 1 (qd b.2),.fn (.func 302) [] []]→a=b:=by rintro⟨f,g⟩ ⟨h,i⟩ e;simp only[zh,zK]at e;obtain⟨c,d⟩:=e;injection c with _ c;injection d with _ d;rw[vf c,vf d]
theorem b9:zg prog 301 (zi false [] FCf):=
 qq (fn:=f301) zdR ⟨_,func301,by kernel_rfl,rfl,by kernel_rfl⟩ false [] _ fun args r h=>by obtain⟨⟨a,b⟩,rfl,⟨c,d⟩,rfl⟩:=zr h;exact⟨by simp[f301],_,du a b c d,qm _⟩
theorem US(a b:List za)(Y:Hp)(Z:Nat)(c:vP a)(d:vP b):zi false [] FCf [.sl 1 (qd a),.sl 1 (qd b),.fn (.func 302) [] []] Y Z=some (int (y1 yc a b),Y,Z):=
 qe (Y1:=Y) (by simp) (zJ (V:=fun a:List za×List za=>[O.sl 1 (qd a.1),.sl 1 (qd a.2),.fn (.func 302) [] []]) (a:=(a,b)) zdS ⟨c,d⟩) (.inl rfl)
noncomputable def Qn (v w:yJ):Int:=if V4 [ya v.a w.a,ya v.b w.b,ya v.c w.c]=0 then(if v.pre.length=0 then(if w.pre.length=0 then 0 else 1)else if w.pre.length=0 then -1 else y1 yc v.pre w.pre)else V4 [ya v.a w.a,ya v.b w.b,ya v.c w.c]
noncomputable abbrev Ccv:Ctx:=qb prog [(204,zi false [] (T4 ya)),(226,zi false [] Of),(301,zi false [] FCf)]
theorem zdT:AM.Good Ccv (fun g=>[204,226].contains g):=zI mixed ⟨Wc,fun _=>zt _ _,Xu,fun _=>zt _ _,b9,by simp,trivial⟩
theorem Xv(v w:yJ)(t:v.small)(u:w.small):zz Ccv f268 [.agg v.V,.agg w.V]=some (int (Qn v w)):=by
 obtain⟨a,b,c,p⟩:=v;obtain⟨k,l,m,e⟩:=w;refine zo rfl ?_;have n:=fun Y Z=>US p e Y Z t u
 obtain⟨o,s⟩:∃o,V4 [ya a k,ya b l,ya c m]=o:=⟨_,rfl⟩;have d:∀(Y:Hp) (Z id:Nat),Y id=some ⟨3,1,true,[[int (ya a k)],[int (ya b l)],[int (ya c m)]]⟩→zi false [] Of [.own id 0 3] Y Z=some (int o,Y,Z):=fun Y Z id x=>s ▸ dt [_,_,_] Y Z id _ (by show 3≤zG;decide) x
 have j:Qn ⟨a,b,c,p⟩ ⟨k,l,m,e⟩=if o=0 then(if p.length=0 then(if e.length=0 then 0 else 1)else if e.length=0 then -1 else y1 yc p e)else o:=by rw[←s];rfl
 rw[j];by_cases q:o=0
 ·subst q;by_cases h:p.length=0<;>by_cases i:e.length=0
  ·simp[yJ.V,d,zv,zN,zy,h,i,f268]
  ·have f:((e.length:Int)==0)=false:=by simpa using i
   simp[yJ.V,d,zv,zN,zy,h,i,f,f268]
  ·have g:((p.length:Int)==0)=false:=by simpa using h
   simp[yJ.V,d,zv,zN,zy,h,i,g,f268]
  ·have g:((p.length:Int)==0)=false:=by simpa using h
   have f:((e.length:Int)==0)=false:=by simpa using i
   simp[yJ.V,d,zv,zN,zy,h,i,g,f,n,f268]
 ·have r:(o != 0)=true:=by simpa using q
  simp[yJ.V,d,zv,zN,zy,q,r,f268]
noncomputable def Pv (f:yJ→yJ→O):zc→Option O:=qv (α:=yJ×yJ) (fun a=>[.agg a.1.V,.agg a.2.V]) (fun a=>a.1.small∧a.2.small) (fun a=>f a.1 a.2)
theorem zdU:∀a b:yJ×yJ,[O.agg a.1.V,.agg a.2.V]=[.agg b.1.V,.agg b.2.V]→a=b:=by rintro⟨f,g⟩ ⟨h,i⟩ e;simp only[zh,zK]at e;obtain⟨c,d⟩:=e;injection c with c;injection d with d;rw[Kp c,Kp d]
theorem V5:zg prog 268 (qh [.g vB,.g vB] (Pv fun v w=>int (Qn v w))):=
 wo (fn:=f268) zdT ⟨_,func268,by kernel_rfl,rfl,by kernel_rfl⟩ _ _ fun args r h=>by obtain⟨⟨v,w⟩,rfl,⟨a,b⟩,rfl⟩:=zr h;exact⟨by simp[f268],_,Xv v w a b,qM.refl _⟩
theorem Ix(v w:yJ)(Y:Hp)(Z:Nat)(b:v.small)(c:w.small):qh [.g vB,.g vB] (Pv fun v w=>int (Qn v w)) [.agg v.V,.agg w.V] Y Z=some (int (Qn v w),Y,Z):=
 ju (show zA Y [.agg v.V,.agg w.V]=some ([.agg v.V,.agg w.V],Y) by simp[yJ.V]) (zJ (V:=fun a:yJ×yJ=>[O.agg a.1.V,.agg a.2.V]) (a:=(v,w)) zdU ⟨b,c⟩) (.inl rfl)
structure Cut where
 v:yJ
 after:Bool
def Cut.V(c:Cut):zc:=[int c.v.a,int c.v.b,int c.v.c,.sl 1 (qd c.v.pre),wq c.after]
abbrev ka:List (Option Nat):=[none,none,none,some 1,none]
theorem Wd{a b:Cut}(h:a.V=b.V):a=b:=by obtain⟨⟨i,j,k,l⟩,m⟩:=a;obtain⟨⟨n,o,p,q⟩,r⟩:=b;simp only[Cut.V,zh,zK]at h;obtain⟨d,e,f,c,g⟩:=h;injection c with _ c;rw[qn d,qn e,qn f,vf c,Q7 g]
noncomputable def wX (a b:Cut):Int:=if Qn a.v b.v=0 then(if a.after=b.after then 0 else if b.after=true then -1 else 1)else Qn a.v b.v
noncomputable def CU (f:Cut→Cut→O):zc→Option O:=qv (α:=Cut×Cut) (fun a=>[.agg a.1.V,.agg a.2.V]) (fun a=>a.1.v.small∧a.2.v.small) (fun a=>f a.1 a.2)
theorem Pw:∀a b:Cut×Cut,[O.agg a.1.V,.agg a.2.V]=[.agg b.1.V,.agg b.2.V]→a=b:=by rintro⟨f,g⟩ ⟨h,i⟩ e;simp only[zh,zK]at e;obtain⟨c,d⟩:=e;injection c with c;injection d with d;rw[Wd c,Wd d]
noncomputable abbrev Ccu:Ctx:=qb prog [(268,qh [.g vB,.g vB] (Pv fun v w=>int (Qn v w)))]
theorem zdV:AM.Good Ccu (fun g=>([]:List Nat).contains g):=zI mixed ⟨V5,by simp,trivial⟩
theorem fu(x y:Cut)(l:x.v.small)(m:y.v.small):zz Ccu f239 [.agg x.V,.agg y.V]=some (int (wX x y)):=by
 obtain⟨⟨a,b,c,p⟩,f⟩:=x;obtain⟨⟨e,g,h,i⟩,f'⟩:=y;refine zo rfl ?_;have d:=fun Y Z=>Ix ⟨a,b,c,p⟩ ⟨e,g,h,i⟩ Y Z l m
 simp only[yJ.V]at d;by_cases j:Qn ⟨a,b,c,p⟩ ⟨e,g,h,i⟩=0
 ·cases f<;>cases f'<;>simp[Cut.V,d,j,wX,f239]
 ·have k:(Qn ⟨a,b,c,p⟩ ⟨e,g,h,i⟩ != 0)=true:=by simpa using j
  simp[Cut.V,d,j,k,wX,f239]
theorem QE:zg prog 239 (qh [.g ka,.g ka] (CU fun v w=>int (wX v w))):=
 wo (fn:=f239) zdV ⟨_,func239,by kernel_rfl,rfl,by kernel_rfl⟩ _ _ fun args r h=>by obtain⟨⟨v,w⟩,rfl,⟨a,b⟩,rfl⟩:=zr h;exact⟨by simp[f239],_,fu v w a b,qM.refl _⟩
theorem Ag(x y:Cut)(u v:O)(Y:Hp)(Z:Nat)(b:(Sh.g ka).fix u=.agg x.V)(c:(Sh.g ka).fix v=.agg y.V)(d:zA Y [u,v]=some ([u,v],Y))(e:x.v.small)(f:y.v.small):qh [.g ka,.g ka] (CU fun v w=>int (wX v w)) [u,v] Y Z=some (int (wX x y),Y,Z):=
 ju d (by show CU _ [(Sh.g ka).fix u,(Sh.g ka).fix v]=_;rw[b,c];exact zJ (V:=fun a:Cut×Cut=>[O.agg a.1.V,.agg a.2.V]) (a:=(x,y)) Pw ⟨e,f⟩) (.inl rfl)
mutual
noncomputable def yl:qE→qE→Int
 | .mk k n s a b,w=>if k=w.kind then(if k=1∨k=2 then ya n w.n else if k=3 then YF s w.s else if k=4 then lV a w.items else if k=5 then lW b w.fields else 0)else ya k w.kind
noncomputable def lV:List qE→List qE→Int
 |[],[]=>0
 |[],_::_=>-1
 |_::_,[]=>1
 |a::xs,b::ys=>if yl a b=0 then lV xs ys else yl a b
noncomputable def lW:List (za×qE)→List (za×qE)→Int
 |[],[]=>0
 |[],_::_=>-1
 |_::_,[]=>1
 |(x,a)::xs,g::ys=>if V4 [YF x g.1,yl a g.2]=0 then lW xs ys else V4 [YF x g.1,yl a g.2]
end
noncomputable def vg (f g:za×qE):Int:=V4 [YF f.1 g.1,yl f.2 g.2]
theorem nj:∀a b:List qE,lV a b=y1 yl a b
 |[],[]=>rfl
 |[],_::_=>rfl
 |_::_,[]=>rfl
 |a::xs,b::ys=>by simp only[lV,y1,nj xs ys]
theorem nk:∀a b:List (za×qE),lW a b=y1 vg a b
 |[],[]=>rfl
 |[],_::_=>rfl
 |_::_,[]=>rfl
 |(x,a)::xs,g::ys=>by simp only[lW,y1,nk xs ys,vg];rfl
theorem au(a b:qE):yl a b=if a.kind=b.kind then(if a.kind=1∨a.kind=2 then ya a.n b.n else if a.kind=3 then YF a.s b.s else if a.kind=4 then y1 yl a.items b.items else if a.kind=5 then y1 vg a.fields b.fields else 0)else ya a.kind b.kind:=by
 cases a with
 |mk k n s e f=>
  cases b with
  |mk g h i c d=>simp only[yl,nj,nk,qE.kind,qE.n,qE.s,qE.items,qE.fields];rfl
noncomputable def UT (n:Nat):zc→Option O:=qv (α:=qE×qE) (fun a=>[.agg a.1.V,.agg a.2.V]) (fun a=>a.1.vb≤zG∧a.1.vb≤n∧a.2.vb≤zG) (fun a=>int (yl a.1 a.2))
theorem Kr(n:Nat)(a b:qE)(Y:Hp)(Z:Nat)(h:a.vb≤zG∧a.vb≤n∧b.vb≤zG):zi false [] (UT n) [.agg a.V,.agg b.V] Y Z=some (int (yl a b),Y,Z):=
 qe (Y1:=Y) (show zA Y [.agg a.V,.agg b.V]=some ([.agg a.V,.agg b.V],Y) by simp only[zA,Z3])
  (zJ (V:=fun a:qE×qE=>[.agg a.1.V,.agg a.2.V]) (a:=(a,b)) (fun x y e=>by obtain⟨c,d⟩:=x;obtain⟨f,g⟩:=y;simp only[zh,zK,O.agg.injEq]at e;rw[Yp e.1,Yp e.2]) h) (.inl rfl)
theorem Ks{f:FuncId}{F:zc→Option O}(b:∃fn,prog.funcs[f]?=some fn∧(fn.name== "runtime.NumGoroutine")=false∧fn.body.isNone=false)(h:∀args r,F args=some r→False):zg prog f (zi false [] F):=by
 refine⟨b,fun args Y Z r Y' d a=>?_⟩;unfold zi at a;split at a
 ·split at a
  ·rename_i e c;exact(h _ _ c).elim
  ·cases a
 ·cases a
theorem Kt{a b:za×qE}(h:yu a=yu b):a=b:=by obtain⟨c,d⟩:=a;obtain⟨e,f⟩:=b;simp only[yu,zh]at h;rw[wx h.1,Yp h.2]
theorem av{a b:List (za×qE)}(h:a.map yu=b.map yu):a=b:=y7 (fun _ _=>Kt) h
theorem Ku{a b:List qE}(h:a.map qE.V=b.map qE.V):a=b:=y7 (fun _ _=>Yp) h
noncomputable abbrev Ccfv (n:Nat):Ctx:=qb prog [(194,zi false []<|UT n)]
theorem dv(n:Nat)(a b:List (qE))(q:Jf a≤zG∧Jf a≤n)(u:Jf b≤zG):zz (Ccfv n) f205 [.sl 5 (a.map qE.V),.sl 5 (b.map qE.V),.fn (.func 194) [] []]=some (int (y1 yl a b)):=by
 refine zo rfl ?_;obtain⟨q,v⟩:=q;have z:=jk a;have A:=jk b;unfold zG at q u;simp;refine zQ (fun k j Y Z=>j 0=.sl 5 (a.map qE.V)∧j 1=.sl 5 (b.map qE.V)∧j 2=.fn (.func 194) [] []∧j 11=.sl 5 (a.map qE.V)∧j 12=int a.length∧j 13=int k∧k≤b.length∧y1 yl a b=y1 yl (a.drop k) (b.drop k)) a.length
  ⟨by simp,by simp,by simp,by simp,by simp,by simp,by simp,by simp⟩ ?_
 rintro k j Y Z B ⟨l,m,o,f,g,h,w,c⟩;by_cases d:k<a.length
 ·have x:i6.wrap ((k:Int)+1)=(k:Int)+1:=zn (by omega) (by omega);by_cases e:k<b.length
  ·have i:¬b.length≤k:=by omega
   have C:=kP (zm d);have D:=kP (zm e);have t:=fun Y Z=>Kr n a[k] b[k] Y Z ⟨by unfold zG;omega,by omega,by unfold zG;omega⟩
   skip
   rw[zd d,zd e]at c;simp only[y1]at c;by_cases p:yl a[k] b[k]=0
   ·rw[zf p]at c;simp[l,m,o,f,g,h,d,e,i,t,p,x];exact⟨d,by omega,c⟩
   ·rw[zj p]at c;have r:(yl a[k] b[k] != 0)=true:=by simpa using p
    simp[l,m,o,f,g,h,d,e,i,t,r,c,f205]
  ·obtain rfl:k=b.length:=by omega
   rw[zd d,zl]at c;simp only[y1]at c;simp[l,m,o,f,g,h,d,c,f205]
 ·obtain rfl:k=a.length:=by omega
  rw[zl]at c;by_cases s:a.length<b.length
  ·rw[zd s]at c;simp only[y1]at c;simp[l,m,o,f,g,h,s,c,f205]
  ·rw[vJ (by omega)]at c;simp only[y1]at c;have y:¬((a.length:Int)<b.length):=by omega
   simp[l,m,o,f,g,h,s,c,f205]
noncomputable def FLV (n:Nat):zc→Option O:=qv (α:=List (qE)×List (qE)) (fun a=>[.sl 5 (a.1.map qE.V),.sl 5 (a.2.map qE.V),.fn (.func 194) [] []]) (fun a=>(Jf a.1≤zG∧Jf a.1≤n)∧Jf a.2≤zG) (fun a=>int (y1 yl a.1 a.2))
theorem Px(n:Nat)(a b:List (qE))(Y:Hp)(Z:Nat)(h:(Jf a≤zG∧Jf a≤n)∧Jf b≤zG):zi false [] (FLV n) [.sl 5 (a.map qE.V),.sl 5 (b.map qE.V),.fn (.func 194) [] []] Y Z=some (int (y1 yl a b),Y,Z):=
 qe (Y1:=Y) (by simp) (zJ (V:=fun a:List (qE)×List (qE)=>[O.sl 5 (a.1.map qE.V),.sl 5 (a.2.map qE.V),.fn (.func 194) [] []]) (a:=(a,b)) (fun x y e=>by obtain⟨f,g⟩:=x;obtain⟨i,j⟩:=y;simp only[zh,zK]at e;obtain⟨c,d⟩:=e;injection c with _ c;injection d with _ d;rw[Ku c,Ku d]) h) (.inl rfl)
noncomputable def FFF (n:Nat):zc→Option O:=qv (α:=(za×qE)×(za×qE)) (fun a=>[.agg (yu a.1),.agg (yu a.2)]) (fun a=>(a.1.2.vb≤zG∧a.1.2.vb≤n∧a.2.2.vb≤zG)) (fun a=>int (vg a.1 a.2))
theorem Py(n:Nat)(a b:za×qE)(Y:Hp)(Z:Nat)(h:a.2.vb≤zG∧a.2.vb≤n∧b.2.vb≤zG):zi false [] (FFF n) [.agg (yu a),.agg (yu b)] Y Z=some (int (vg a b),Y,Z):=
 qe (Y1:=Y) (show zA Y [.agg (yu a),.agg (yu b)]=some ([.agg (yu a),.agg (yu b)],Y) by simp[yu])
  (zJ (V:=fun a:(za×qE)×(za×qE)=>[.agg (yu a.1),.agg (yu a.2)]) (a:=(a,b)) (fun x y e=>by
   obtain⟨d,f⟩:=x;obtain⟨g,i⟩:=y;have c:yu d=yu g∧yu f=yu i:=by simp only[zh,zK,O.agg.injEq]at e;exact⟨zh .. ▸ e.1,zh .. ▸ e.2⟩
   rw[Kt c.1,Kt c.2]) h) (.inl rfl)
noncomputable abbrev Ccfl (n:Nat):Ctx:=qb prog [(25,zi false [] (Me YF)),(194,zi false [] (UT n)),(226,zi false [] Of)]
theorem zlS(n:Nat)(a b:za×qE)(h:a.2.vb≤zG∧a.2.vb≤n∧b.2.vb≤zG):zz (Ccfl n) f207 [.agg (yu a),.agg (yu b)]=some (int (vg a b)):=by
 refine zo rfl ?_;have c:=fun Y Z=>Kr n a.2 b.2 Y Z h
 have d:∀(Y:Hp) (Z id:Nat),Y id=some ⟨3,1,true,[[int (YF a.1 b.1)],[int (yl a.2 b.2)]]⟩→zi false [] Of [.own id 0 2] Y Z=some (int (vg a b),Y,Z):=fun Y Z id e=>dt [_,_] Y Z id _ (by show 2≤zG;decide) e
 simp[yu,c,d,zv,zN,zy,f207]
noncomputable abbrev Ccff (n:Nat):Ctx:=qb prog [(207,zi false []<|FFF n)]
theorem dw(n:Nat)(a b:List (za×qE))(q:KX a≤zG∧KX a≤n)(u:KX b≤zG):zz (Ccff n) f206 [.sl 6 (a.map yu),.sl 6 (b.map yu),.fn (.func 207) [] []]=some (int (y1 vg a b)):=by
 refine zo rfl ?_;obtain⟨q,v⟩:=q;have z:=ke a;have A:=ke b;unfold zG at q u;simp;refine zQ (fun k j Y Z=>j 0=.sl 6 (a.map yu)∧j 1=.sl 6 (b.map yu)∧j 2=.fn (.func 207) [] []∧j 11=.sl 6 (a.map yu)∧j 12=int a.length∧j 13=int k∧k≤b.length∧y1 vg a b=y1 vg (a.drop k) (b.drop k)) a.length
  ⟨by simp,by simp,by simp,by simp,by simp,by simp,by simp,by simp⟩ ?_
 rintro k j Y Z B ⟨l,m,o,f,g,h,w,c⟩;by_cases d:k<a.length
 ·have x:i6.wrap ((k:Int)+1)=(k:Int)+1:=zn (by omega) (by omega);by_cases e:k<b.length
  ·have i:¬b.length≤k:=by omega
   have C:=xV (zm d);have D:=xV (zm e);have r:=fun Y Z=>Py n a[k] b[k] Y Z ⟨by unfold zG;omega,by omega,by unfold zG;omega⟩
   simp only[yu]at r;rw[zd d,zd e]at c;simp only[y1]at c;by_cases p:vg a[k] b[k]=0
   ·rw[zf p]at c;simp[l,m,o,f,g,h,d,e,i,r,p,x];exact⟨d,by omega,c⟩
   ·rw[zj p]at c;have s:(vg a[k] b[k] != 0)=true:=by simpa using p
    simp[l,m,o,f,g,h,d,e,i,r,s,c,f206]
  ·obtain rfl:k=b.length:=by omega
   rw[zd d,zl]at c;simp only[y1]at c;simp[l,m,o,f,g,h,d,c,f206]
 ·obtain rfl:k=a.length:=by omega
  rw[zl]at c;by_cases t:a.length<b.length
  ·rw[zd t]at c;simp only[y1]at c;simp[l,m,o,f,g,h,t,c,f206]
  ·rw[vJ (by omega)]at c;simp only[y1]at c;have y:¬((a.length:Int)<b.length):=by omega
   simp[l,m,o,f,g,h,t,c,f206]
noncomputable def FLF (n:Nat):zc→Option O:=qv (α:=List (za×qE)×List (za×qE)) (fun a=>[.sl 6 (a.1.map yu),.sl 6 (a.2.map yu),.fn (.func 207) [] []]) (fun a=>(KX a.1≤zG∧KX a.1≤n)∧KX a.2≤zG) (fun a=>int (y1 vg a.1 a.2))
theorem Pz(n:Nat)(a b:List (za×qE))(Y:Hp)(Z:Nat)(h:(KX a≤zG∧KX a≤n)∧KX b≤zG):zi false [] (FLF n) [.sl 6 (a.map yu),.sl 6 (b.map yu),.fn (.func 207) [] []] Y Z=some (int (y1 vg a b),Y,Z):=
 qe (Y1:=Y) (by simp) (zJ (V:=fun a:List (za×qE)×List (za×qE)=>[O.sl 6 (a.1.map yu),.sl 6 (a.2.map yu),.fn (.func 207) [] []]) (a:=(a,b)) (fun x y e=>by obtain⟨f,g⟩:=x;obtain⟨i,j⟩:=y;simp only[zh,zK]at e;obtain⟨c,d⟩:=e;injection c with _ c;injection d with _ d;rw[av c,av d]) h) (.inl rfl)
noncomputable abbrev Ccmv (n:Nat):Ctx:=qb prog [(204,zi false [] (T4 ya)),(25,zi false [] (Me YF)),(205,zi false [] (FLV n)),(206,zi false [] (FLF n))]
theorem pT(n:Nat)(a b:qE)(h:a.vb≤zG∧a.vb≤n+1∧b.vb≤zG):zz (Ccmv n) f194 [.agg a.V,.agg b.V]=some (int (yl a b)):=by
 obtain⟨u,v,w⟩:=h;have x:=QW a;have y:=QW b;have m:=fun Y Z=>Px n a.items b.items Y Z ⟨⟨by omega,by omega⟩,by omega⟩
 have o:=fun Y Z=>Pz n a.fields b.fields Y Z ⟨⟨by omega,by omega⟩,by omega⟩
 refine zo rfl ?_;have c:=au a b;by_cases e:a.kind=b.kind
 ·rw[zf e]at c;by_cases j:a.kind=1
  ·rw[zf (.inl j)]at c;have d:b.kind=1:=by omega
   simp[j,d,c,f194]
  by_cases k:a.kind=2
  ·rw[zf (.inr k)]at c;have d:b.kind=2:=by omega
   simp[k,d,c,f194]
  rw[zj (by omega)]at c;by_cases f:a.kind=3
  ·rw[zf f]at c;have d:b.kind=3:=by omega
   simp[f,d,c,f194]
  rw[zj f]at c;by_cases g:a.kind=4
  ·rw[zf g]at c;have d:b.kind=4:=by omega
   simp[g,d,c,m,f194]
  rw[zj g]at c;by_cases i:a.kind=5
  ·rw[zf i]at c;have d:b.kind=5:=by omega
   simp[i,d,c,o,f194]
  rw[zj i]at c;have l:(a.kind != b.kind)=false:=by simpa using e
  have p:(a.kind==1)=false:=by simpa using j
  have q:(a.kind==2)=false:=by simpa using k
  have r:(a.kind==3)=false:=by simpa using f
  have s:(a.kind==4)=false:=by simpa using g
  have t:(a.kind==5)=false:=by simpa using i
  simp[l,p,q,r,s,t,c,f194]
 ·rw[zj e]at c;have l:(a.kind != b.kind)=true:=by simpa using e
  simp[l,c,f194]
theorem lH{n:Nat}{args:zc}{r:O}(h:UT n args=some r):∃a b:qE,args=[.agg a.V,.agg b.V]∧(a.vb≤zG∧a.vb≤n∧b.vb≤zG)∧r=int (yl a b):=by obtain⟨⟨a,b⟩,c,d,e⟩:=zr h;exact⟨a,b,c,d,e⟩
theorem nn:∀n,zg prog 194 (zi false [] (UT n)):=by
 intro n
 induction n with
 |zero=>
  exact Ks ⟨_,func194,by kernel_rfl,by kernel_rfl⟩ fun args r h=>by obtain⟨a,b,_,d,_⟩:=lH h;have:=Vb a;omega
 |succ n e=>
  have f:AM.Good (Ccfv n) (fun g=>([]:List Nat).contains g):=zI mixed ⟨e,by simp,trivial⟩;have i:zg prog 205 (zi false [] (FLV n)):=
   qq (fn:=f205) f ⟨_,func205,by kernel_rfl,rfl,by kernel_rfl⟩ false [] _ fun args r h=>by obtain⟨⟨a,b⟩,rfl,⟨c,d⟩,rfl⟩:=zr h;exact⟨zC (ze 3) (by decide),_,dv n a b c d,qm _⟩
  have j:AM.Good (Ccfl n) (fun g=>[25,194,226].contains g):=zI mixed ⟨va,fun _=>zt _ _,e,fun _=>zt _ _,Xu,fun _=>zt _ _,trivial⟩;have k:zg prog 207 (zi false [] (FFF n)):=
   qq (fn:=f207) j ⟨_,func207,by kernel_rfl,rfl,by kernel_rfl⟩ false [] _ fun args r h=>by obtain⟨⟨a,b⟩,rfl,c,rfl⟩:=zr h;exact⟨zC (ze 2) (by decide),_,zlS n a b c,qm _⟩
  have l:AM.Good (Ccff n) (fun g=>([]:List Nat).contains g):=zI mixed ⟨k,by simp,trivial⟩;have m:zg prog 206 (zi false [] (FLF n)):=
   qq (fn:=f206) l ⟨_,func206,by kernel_rfl,rfl,by kernel_rfl⟩ false [] _ fun args r h=>by obtain⟨⟨a,b⟩,rfl,⟨c,d⟩,rfl⟩:=zr h;exact⟨zC (ze 3) (by decide),_,dw n a b c d,qm _⟩
  have o:AM.Good (Ccmv n) (fun g=>([]:List Nat).contains g):=zI mixed ⟨Wc,by simp,va,by simp,i,by simp,m,by simp,trivial⟩;exact qq (fn:=f194) o ⟨_,func194,by kernel_rfl,rfl,by kernel_rfl⟩ false [] _ fun args r h=>by obtain⟨a,b,rfl,c,rfl⟩:=lH h;exact⟨zC (ze 2) (by decide),_,pT n a b c,qm _⟩
end Go.Q
namespace Go.AM
def YT(a:List Sh)(F:zc→Option O):AM.Spec:=zi true [] fun args=>F (YR a args)
theorem CV{C:Ctx}{c:FuncId→Bool}{f:FuncId}{fn:Func}(d:AM.Good C c)(e:Xk C c f fn)(a:List Sh)(F:zc→Option O)
  (g:∀args r,F args=some r→args.length≤fn.ntmps∧∃b,zz C fn args=some b∧qM b r):zg C.P f (YT a F):=
 jD d e true [] _ fun args r h w S vs i=>by obtain⟨j,b,k,l⟩:=g _ _ h;exact⟨YR a args,b,Km i,j,k,l⟩
theorem PA{a:List Sh}{F:zc→Option O}{args:zc}{Y Y1:Hp}{Z:Nat}{ys:zc}{r:O}(b:zA Y args=some (ys,Y1))(c:F (YR a ys)=some r)(d:(r.flat=true∨args.all O.noOwn=true)→Y1=Y) :
  YT a F args Y Z=some (r,Y1,Z):=by
 have e:yf [] ys=ys:=by cases ys<;>rfl
 unfold YT zi;simp only[b,e,c];split
 ·rename_i h;rw[d h]
 ·simp
theorem Gu(c:List Sh)(F:zc→Option O):vZ (YT c F):=by
 intro args Y Z r Y' e h;unfold YT zi at h;split at h
 ·rename_i ys Y1 d;split at h
  ·split at h
   ·injection h with h;injection h with _ h;injection h with a b;subst a;subst b;exact⟨ze _,fun id blk _ a _=>a⟩
   ·split at h
    ·injection h with h;injection h with _ h;injection h with a b;subst a;subst b;exact⟨ze _,fun id blk _ a b=>Zl d a b⟩
    ·cases h
  ·cases h
 ·cases h
def xY(P:Program)(l:Jg)(k:Nat)(D:List (Tmp×Tmp))(L:List Tmp)(b:List Nat):Ctx:=⟨P,lookup l,fun i=>if i=k then D else[],fun i=>if i=k then L else[],fun g=>b.contains g,fun _=>[],fun _=>none⟩
@[simp]theorem zf2(P:Program)(l:Jg)(k:Nat)(D:List (Tmp×Tmp))(L:List Tmp)(b:List Nat):(xY P l k D L b).P=P:=rfl
@[simp]theorem zf3(P:Program)(l:Jg)(k:Nat)(D:List (Tmp×Tmp))(L:List Tmp)(b:List Nat)(Y:Hp)(Z g:Nat)(x y xs:zc):jQ (xY P l k D L b) Y Z (some (.fn (.func g) x y)) xs=(lookup l g).bind fun s=>s (x++xs++y) Y Z:=by unfold jQ xY;simp only;cases lookup l g<;>rfl
@[simp]theorem Og(P:Program)(l:Jg)(k:Nat)(D:List (Tmp×Tmp))(L:List Tmp)(b:List Nat)(i:Nat)(a:Array Oper)(d:Bool)(c:St)(K:Exit→St→Prop)(h:¬i=k):Zf (xY P l k D L b) (.region i a d) c K=sq (xY P l k D L b) a a.toList c (Jr K):=
 Q6 _ i a d c K (by simp[xY,h]) (by simp[xY,h])
theorem kA{P:Program}{l:Jg}{k:Nat}{D:List (Tmp×Tmp)}{L:List Tmp}{b:List Nat}{a:Array Oper}{d:Bool}{c:St}{K:Exit→St→Prop}(h:WU D c)(e:kZ L c):Zf (xY P l k D L b) (.region k a d) c K=sq (xY P l k D L b) a a.toList c (Jr K):=
 Qf _ k a d c K (by simpa[xY]using h) (by simpa[xY]using e)
theorem sN{P:Program}{l:Jg}{q:List Nat}{k:Nat}{D:List (Tmp×Tmp)}{L:List Tmp}{b:List Nat}(a:P.follows .mixedOrders=true)(h:Ct True P q l)(c:bZ b l):AM.Good (xY P l k D L b) (fun g=>q.contains g):=
 let g:=Kl (k:=k) (L:=L) a h c
 ⟨g.spec,g.quiet,g.mixed,g.box,fun _ _ h=>by cases h⟩
end Go.AM
namespace Go.Q
def BX(a b c:Int):O:=.agg [int a,int b,int c]
noncomputable def Gv:zc→Option O:=qv (α:=Int×Int×Int×List za) (fun a=>[BX a.1 a.2.1 a.2.2.1,.sl 1 (qd a.2.2.2)]) (fun _=>True) (fun a=>.agg (⟨a.1,a.2.1,a.2.2.1,a.2.2.2⟩:yJ).V)
theorem UU:∀a b:Int×Int×Int×List za,[BX a.1 a.2.1 a.2.2.1,.sl 1 (qd a.2.2.2)]=[BX b.1 b.2.1 b.2.2.1,.sl 1 (qd b.2.2.2)]→a=b:=by rintro⟨h,i,j,k⟩ ⟨l,m,n,o⟩ e;simp only[BX,zh,zK]at e;obtain⟨c,d⟩:=e;injection c with c;simp only[zh,zK]at c;obtain⟨c,f,g⟩:=c;injection d with _ d;rw[qn c,qn f,qn g,vf d]
theorem Ah(a b c:Int)(p:List za):zz C0 f266 [BX a b c,.sl 1 (qd p)]=some (.agg (⟨a,b,c,p⟩:yJ).V):=by refine zo rfl ?_;simp[BX,yJ.V,zR,qc,wH,f266]
theorem JX:zg prog 266 (YT [.a,.s 1 []] Gv):=
 CV (fn:=f266) w8 ⟨_,func266,by kernel_rfl,rfl,by kernel_rfl⟩ _ _ fun args r h=>by obtain⟨⟨a,b,c,p⟩,rfl,_,rfl⟩:=zr h;exact⟨by simp[f266],_,Ah a b c p,qM.refl _⟩
theorem Vi(a b c:Int)(p:List za)(y z:O)(Y Y1:Hp)(Z:Nat)(e:qf Y y=some (z,Y1))(d:n1 1 z=.sl 1 (qd p))(f:y.noOwn=true→Y1=Y):YT [.a,.s 1 []] Gv [BX a b c,y] Y Z=some (.agg (⟨a,b,c,p⟩:yJ).V,Y1,Z):=
 PA (ys:=[BX a b c,z]) (by
  have g:qf Y (BX a b c)=some (BX a b c,Y):=by simp[BX]
  simp only[zA,g,e]) (by
  have:(Sh.s 1 []).fix z=.sl 1 (qd p):=by
   cases z with
   |sl m es=>simp only[n1]at d;simp only[Sh.fix];rw[←d];congr 1;exact(zkk (fun c _=>by cases c<;>rfl)).trans (List.map_id _)
   |_=>exact d
  show Gv [BX a b c,(Sh.s 1 []).fix z]=_;rw[this];exact zJ (V:=fun a:Int×Int×Int×List za=>[BX a.1 a.2.1 a.2.2.1,.sl 1 (qd a.2.2.2)]) (a:=(a,b,c,p)) UU trivial) (by simpa[BX,yJ.V]using f)
def wA:Cut:=⟨⟨0,0,0,[[48]]⟩,false⟩
noncomputable def YU (r:O):zc→Option O:=qv (α:=Unit) (fun _=>[]) (fun _=>True) (fun _=>r)
theorem We(r:O)(Y:Hp)(Z:Nat):qh [] (YU r) [] Y Z=some (r,Y,Z):=ju (show zA Y []=some ([],Y)from rfl) (zJ (V:=fun _:Unit=>[]) (a:=()) (fun _ _ _=>rfl) trivial) (.inr rfl)
theorem Gw:zz C0 f233 []=some (.agg wA.V):=by refine zo rfl ?_;simp[wA,Cut.V,qd,str,zR,qc,zv,zN,zy,wH,f233]
theorem gP:zg prog 233 (qh [] (YU (.agg wA.V))):=
 wo (fn:=f233) w8 ⟨_,func233,by kernel_rfl,rfl,by kernel_rfl⟩ _ _ fun args r h=>by obtain⟨_,rfl,_,rfl⟩:=zr h;exact⟨by simp[f233],_,Gw,qM.refl _⟩
structure wR where
 lo:Cut
 hi:Cut
 vL:Bool
def wR.V(s:wR):zc:=s.lo.V++s.hi.V++[wq s.vL]
def QV:Cut:=⟨⟨0,0,0,[]⟩,false⟩
abbrev jM:List (Option Nat):=[none,none,none,some 1,none,none,none,none,some 1,none,none]
def yw(c:Cut):wR:=⟨c,QV,true⟩
def cc(a b:Cut):wR:=⟨a,b,false⟩
def qz(l:List wR):List zc:=l.map wR.V
def cd:O:=.sl 11 (qz [yw wA])
noncomputable abbrev Cev:Ctx:=qb prog [(233,qh [] (YU (.agg wA.V)))]
theorem zdW:AM.Good Cev (fun g=>([]:List Nat).contains g):=zI mixed ⟨gP,by simp,trivial⟩
theorem iU:∃a,zz Cev f210 []=some a∧qM a cd:=by refine QD (sh:=.s 11 jM) rfl ?_;simp[We,wA,Cut.V,qd,str,zR,qc,zv,zN,zy,Xr,cd,qz,yw,wR.V,QV,f210]
theorem Kv:zg prog 210 (qh [] (YU cd)):=
 wo (fn:=f210) zdW ⟨_,func210,by kernel_rfl,rfl,by kernel_rfl⟩ _ _ fun args r h=>by obtain⟨_,rfl,_,rfl⟩:=zr h;obtain⟨a,b,c⟩:=iU;exact⟨by simp[f210],a,b,c⟩
theorem np{a b:Part}(h:a.V=b.V):a=b:=by obtain⟨i,j,k,l,m⟩:=a;obtain⟨n,o,p,q,r⟩:=b;simp only[Part.V,zh,zK]at h;obtain⟨d,e,f,g,c⟩:=h;injection c with _ c;rw[qn d,qn e,qn f,qn g,vf c]
def Part.ok(p:Part):Prop:=(0≤p.n0∧p.n0≤999999)∧(0≤p.n1∧p.n1≤999999)∧(0≤p.n2∧p.n2≤999999)∧(1≤p.has∧p.has≤3)∧vP p.pre
noncomputable def FPa (f:Part→O):zc→Option O:=qv (α:=Part) (fun p=>[.agg p.V]) Part.ok f
theorem CW(f:Part→O)(p:Part)(u:O)(Y:Hp)(Z:Nat)(h:p.ok)(c:(Sh.g Xt).fix u=.agg p.V)(d:qf Y u=some (u,Y))(i:u.noOwn=true):qh [.g Xt] (FPa f) [u] Y Z=some (f p,Y,Z):=
 ju (show zA Y [u]=some ([u],Y) by simp only[zA,d]) (by show FPa f [(Sh.g Xt).fix u]=_;rw[c];exact zJ (V:=fun p:Part=>[O.agg p.V]) (a:=p) (fun a b e=>by simp only[zh,zK]at e;injection e with e;exact np e) h) (.inr (by rw[qN,i];rfl))
noncomputable def FPt (f:Part→O):zc→Option O:=qv (α:=Part) (fun p=>[.agg p.V]) (fun _=>True) f
theorem PB(f:Part→O)(p:Part)(Y:Hp)(Z:Nat):qh [.g Xt] (FPt f) [.agg p.V] Y Z=some (f p,Y,Z):=
 ju (show zA Y [.agg p.V]=some ([.agg p.V],Y) by simp[Part.V]) (by show FPt f [(Sh.g Xt).fix (.agg p.V)]=_;rw[show(Sh.g Xt).fix (.agg p.V)=.agg p.V by simp[Part.V]];exact zJ (V:=fun p:Part=>[O.agg p.V]) (a:=p) (fun a b e=>by simp only[zh,zK]at e;injection e with e;exact np e) trivial) (.inr (by simp[Part.V]))
def ZN(p:Part):Cut:=⟨⟨p.n0,p.n1,p.n2,p.pre⟩,false⟩
noncomputable abbrev Clo:Ctx:=qb prog [(266,YT [.a,.s 1 []] Gv)]
theorem zdX:AM.Good Clo (fun g=>([]:List Nat).contains g):=zI mixed ⟨JX,by simp,trivial⟩
theorem PC(p:Part):zz Clo f234 [.agg p.V]=some (.agg (ZN p).V):=by
 obtain⟨a,b,c,d,e⟩:=p;refine zo rfl ?_;have f:=fun Y Z=>Vi a b c e (.sl 1 (qd e)) (.sl 1 (qd e)) Y Y Z (by simp) rfl (fun _=>rfl)
 simp[BX]at f;simp[Part.V,f,ZN,Cut.V,yJ.V,zR,qc,wH,f234]
theorem Mf:zg prog 234 (qh [.g Xt] (FPt fun p=>.agg (ZN p).V)):=
 wo (fn:=f234) zdX ⟨_,func234,by kernel_rfl,rfl,by kernel_rfl⟩ _ _ fun args r h=>by obtain⟨p,rfl,_,rfl⟩:=zr h;exact⟨by simp[f234],_,PC p,qM.refl _⟩
def jF(p:Part):Nat→Cut
 | 0=>⟨⟨p.n0+1,0,0,[[48]]⟩,false⟩
 | 1=>⟨⟨p.n0,p.n1+1,0,[[48]]⟩,false⟩
 |_=>⟨⟨p.n0,p.n1,p.n2+1,[[48]]⟩,false⟩
def v7(p:Part):Nat→Bool
 | 0=>decide (p.n0+1≤999999)
 | 1=>decide (p.n1+1≤999999)
 |_=>decide (p.n2+1≤999999)
def vE(p:Part)(i:Nat):O:=.yb [.agg (jF p i).V,wq (v7 p i)]
noncomputable abbrev Crsd:Ctx:=xY prog [(266,YT [.a,.s 1 []] Gv)] 7 [(6,4),(28,4)] [4,6,28] [266]
theorem UW:AM.Good Crsd (fun g=>([]:List Nat).contains g):=sN mixed ⟨JX,by simp,trivial⟩ ⟨fun _=>Gu _ _,trivial⟩
theorem YH(st:St):WU [] st:=fun _ h=>by cases h
theorem yA{a b:Tmp}{D:List (Tmp×Tmp)}{st:St}(h:um st a b)(c:WU D st):WU ((a,b)::D) st:=fun p Y=>by
 rcases zL.1 Y with rfl|Y
 ·exact h
 ·exact c p Y
theorem Kw(st:St):kZ [] st:=fun _ h=>by cases h
theorem xB{s:Tmp}{L:List Tmp}{st:St}{id i j:Nat}{blk:jz}(h:st.σ s=.ref id i j)(b:id<st.Z)(c:st.Y id=some blk)(d:blk.arr=false)(f:kZ L st)(hs:s<zB:=by decide):kZ (s::L) st:=fun t a=>by
 rcases zL.1 a with rfl|a
 ·refine⟨⟨fun id' o n e=>(by rw[h]at e;cases e),fun id' i' j' e=>?_⟩,fun g=>absurd hs (Fo.2 g)⟩;rw[h]at e;injection e with e _ _
  subst e;exact⟨b,blk,c,d⟩
 ·exact f t a
theorem vh{s:Tmp}{L:List Tmp}{st:St}{x:zc}(h:st.σ s=.yb x)(b:kZ L st)(hs:s<zB:=by decide):kZ (s::L) st:=fun t a=>by
 rcases zL.1 a with rfl|a
 ·exact⟨⟨fun id' o n e=>(by rw[h]at e;cases e),fun id' i' j' e=>(by rw[h]at e;cases e)⟩,fun c=>absurd hs (Fo.2 c)⟩
 ·exact b t a
theorem YI{a b:Tmp}{c:St}{id i j id' i' j':Nat}{blk:jz}(e:c.σ a=.ref id i j)(f:c.σ b=.ref id' i' j')(g:id≠id')(h:c.Y id'=some blk)(k:blk.arr=false):um c a b:=by
 intro l m n d;rw[e]at d;injection d with d _ _
 subst d;exact⟨id',i',j',blk,f,g,h,k⟩
theorem kf{a b:Tmp}{c:St}{x:zc}(e:c.σ a=.yb x):um c a b:=by intro f g h d;rw[e]at d;cases d
theorem CX(p:Part)(i:Nat)(w:i<3)(Y:p.ok):∃j,zz Crsd f237 [.agg p.V,int i]=some j∧qM j (vE p i):=by
 obtain⟨a,b,c,d,e⟩:=p;obtain⟨⟨k,l⟩,⟨m,n⟩,⟨o,q⟩,_⟩:=Y;simp only at k l m n o q;refine y8 (sh:=.g ka) rfl ?_;have r:i6.wrap (a+1)=a+1:=zn (by omega) (by omega);have t:i6.wrap (b+1)=b+1:=zn (by omega) (by omega);have u:i6.wrap (c+1)=c+1:=zn (by omega) (by omega);have f:∀(a b c:Int) (Y:Hp) (Z id:Nat),Y id=some ⟨9,1,true,[[str [48]]]⟩→YT [.a,.s 1 []] Gv [BX a b c,.own id 0 1] Y Z=some (.agg (⟨a,b,c,[[48]]⟩:yJ).V,qZ Y id none,Z):=fun a b c Y Z id v=>Vi a b c [[48]] (.own id 0 1) (.sl 1 [[str [48]]]) Y (qZ Y id none) Z (by simp[v]) rfl (fun h=>by cases h)
 simp[BX,str]at f;rcases(by omega:i=0∨i=1∨i=2)with rfl|rfl|rfl
 ·simp[Part.V,r];rw[zW];simp;rw[zW];simp;rw[zW];simp;rw[kA (yA (YI (by simp;exact⟨rfl,rfl,rfl⟩) (by simp;exact⟨rfl,rfl,rfl⟩) (by omega) (by simp;rfl) rfl) (yA (kf (by simp;rfl)) (YH _)))
   (xB (by simp;exact⟨rfl,rfl,rfl⟩) (by simp) (by simp;rfl) rfl (xB (by simp;exact⟨rfl,rfl,rfl⟩) (by simp) (by simp;rfl) rfl (vh (by simp;rfl) (Kw _))))]
  simp[f,zR,qc,zv,zN,zy,qL,vE,jF,v7,Cut.V,yJ.V,f237]
 ·simp[Part.V,t];rw[zW];simp;rw[zW];simp;rw[kA (yA (YI (by simp;exact⟨rfl,rfl,rfl⟩) (by simp;exact⟨rfl,rfl,rfl⟩) (by omega) (by simp;rfl) rfl) (yA (kf (by simp;rfl)) (YH _)))
   (xB (by simp;exact⟨rfl,rfl,rfl⟩) (by simp) (by simp;rfl) rfl (xB (by simp;exact⟨rfl,rfl,rfl⟩) (by simp) (by simp;rfl) rfl (vh (by simp;rfl) (Kw _))))]
  simp[f,zR,qc,zv,zN,zy,qL,vE,jF,v7,Cut.V,yJ.V,f237]
 ·simp[Part.V,u];rw[zW];simp;rw[kA (yA (YI (by simp;exact⟨rfl,rfl,rfl⟩) (by simp;exact⟨rfl,rfl,rfl⟩) (by omega) (by simp;rfl) rfl) (yA (kf (by simp;rfl)) (YH _)))
   (xB (by simp;exact⟨rfl,rfl,rfl⟩) (by simp) (by simp;rfl) rfl (xB (by simp;exact⟨rfl,rfl,rfl⟩) (by simp) (by simp;rfl) rfl (vh (by simp;rfl) (Kw _))))]
  simp[f,zR,qc,zv,zN,zy,qL,vE,jF,v7,Cut.V,yJ.V,f237]
noncomputable def FPi (f:Part→Nat→O):zc→Option O:=qv (α:=Part×Nat) (fun a=>[.agg a.1.V,int a.2]) (fun a=>a.1.ok∧a.2<3) (fun a=>f a.1 a.2)
theorem zdY:∀a b:Part×Nat,[O.agg a.1.V,int a.2]=[O.agg b.1.V,int b.2]→a=b:=by rintro⟨h,d⟩ ⟨i,f⟩ e;simp only[zh,zK]at e;obtain⟨c,g⟩:=e;injection c with c;have:=qn g;rw[np c,show d=f by omega]
theorem CY(f:Part→Nat→O)(p:Part)(i:Nat)(u:O)(Y:Hp)(Z:Nat)(h:p.ok)(b:i<3)(c:(Sh.g Xt).fix u=.agg p.V)(d:qf Y u=some (u,Y))(e:u.noOwn=true):qh [.g Xt] (FPi f) [u,int i] Y Z=some (f p i,Y,Z):=
 ju (show zA Y [u,int i]=some ([u,int i],Y) by simp only[zA,d];rfl) (by show FPi f [(Sh.g Xt).fix u,int i]=_;rw[c];exact zJ (V:=fun a:Part×Nat=>[O.agg a.1.V,int a.2]) (a:=(p,i)) zdY ⟨h,b⟩) (.inr (by rw[qN,e];rfl))
theorem dx:zg prog 237 (qh [.g Xt] (FPi vE)):=
 wo (fn:=f237) UW ⟨_,func237,by kernel_rfl,rfl,by kernel_rfl⟩ _ _ fun args r h=>by obtain⟨⟨p,i⟩,rfl,⟨a,b⟩,rfl⟩:=zr h;obtain⟨c,d,e⟩:=CX p i b a;exact⟨by simp[f237],c,d,e⟩
def vS(p:Part):Cut:=if p.has<3 then jF p (p.has-1).toNat else⟨⟨p.n0,p.n1,p.n2,p.pre⟩,true⟩
def QF(p:Part):Bool:=if p.has<3 then v7 p (p.has-1).toNat else true
def Jz(p:Part):O:=.yb [.agg (vS p).V,wq (QF p)]
noncomputable abbrev Chi:Ctx:=qb prog [(266,YT [.a,.s 1 []] Gv),(237,qh [.g Xt] (FPi vE))]
theorem zdZ:AM.Good Chi (fun g=>([]:List Nat).contains g):=zI mixed ⟨JX,by simp,dx,by simp,trivial⟩
@[simp]theorem lI(p:Part)(Y:Hp):qf Y (.agg p.V)=some (.agg p.V,Y):=by simp[Part.V]
theorem Mg(p:Part)(Y:p.ok):zz Chi f236 [.agg p.V]=some (Jz p):=by
 have a:=Y;obtain⟨_,_,_,⟨g,h⟩,_⟩:=Y;refine zo rfl ?_;have b:=fun Y Z=>CY vE p (p.has-1).toNat (.agg p.V) Y Z a (by omega) (by simp[Part.V]) (lI p Y) (by simp[Part.V])
 have e:(((p.has-1).toNat:Nat):Int)=p.has-1:=by omega
 have f:i6.wrap (p.has-1)=p.has-1:=zn (by omega) (by omega);rw[e]at b;have c:=fun Y Z=>Vi p.n0 p.n1 p.n2 p.pre (.sl 1 (qd p.pre)) (.sl 1 (qd p.pre)) Y Y Z (by simp) rfl (fun _=>rfl)
 simp[BX]at c;simp only[Part.V]at b;by_cases d:p.has<3
 ·simp[Part.V,d,b,f,Jz,vS,QF,vE,Cut.V,wH,f236]
 ·simp[Part.V,d,c,Jz,vS,QF,Cut.V,yJ.V,zR,qc,wH,f236]
theorem Gx:zg prog 236 (qh [.g Xt] (FPa Jz)):=
 wo (fn:=f236) zdZ ⟨_,func236,by kernel_rfl,rfl,by kernel_rfl⟩ _ _ fun args r h=>by obtain⟨p,rfl,a,rfl⟩:=zr h;exact⟨by simp[f236],_,Mg p a,qM.refl _⟩
noncomputable def fv (a b:Cut):List wR:=if 0≤wX a b then[]else[cc a b]
noncomputable def Vj (a b:Cut):O:=.sl 11 (qz (fv a b))
noncomputable abbrev Cbt:Ctx:=qb prog [(239,qh [.g ka,.g ka] (CU fun v w=>int (wX v w)))]
theorem zd0:AM.Good Cbt (fun g=>([]:List Nat).contains g):=zI mixed ⟨QE,by simp,trivial⟩
theorem Ai(x y:Cut)(c:x.v.small)(d:y.v.small):∃b,zz Cbt f235 [.agg x.V,.agg y.V]=some b∧qM b (Vj x y):=by
 refine QD (sh:=.s 11 jM) rfl ?_;have a:=fun Y Z=>Ag x y (.agg x.V) (.agg y.V) Y Z (by simp[Cut.V]) (by simp[Cut.V]) (by simp[Cut.V]) c d
 simp only[Cut.V]at a;by_cases h:0≤wX x y
 ·simp[Cut.V,a,h,Xr,Vj,fv,qz,f235]
 ·simp[Cut.V,a,h,zR,qc,zv,zN,zy,Xr,Vj,fv,qz,cc,wR.V,f235]
theorem pU:zg prog 235 (qh [.g ka,.g ka] (CU Vj)):=
 wo (fn:=f235) zd0 ⟨_,func235,by kernel_rfl,rfl,by kernel_rfl⟩ _ _ fun args r h=>by obtain⟨⟨v,w⟩,rfl,⟨a,b⟩,rfl⟩:=zr h;obtain⟨c,d,e⟩:=Ai v w a b;exact⟨by simp[f235],c,d,e⟩
end Go.Q
