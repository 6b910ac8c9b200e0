/- Lemmas. -/
import Derived.Shelf.Strings.Search2
import Derived.Shelf.Strings.Split
import Derived.Shelf.Strings.Trim
import Derived.Shelf.Strconv.Atoi
import Derived.Ground.Names2Prog
import Derived.Test.YtnbicamkimignaaGreatDoorProg
import Derived.Lib.Split
import Derived.Test.YtnbicamkimignaaGreatDoorG9
set_option maxRecDepth 100000
open Go Proofs Proofs.YtnbicamkimignaaGreatDoor Proofs.Tryz RowKit AM SpanLaw Q Zz
open Go.IntKind renaming i64→i6
namespace Go.Q
def CC(k:Int):Bool:=decide (k<0)||decide (5<k)
def Xq(k n:Int)(s:za)(i f:Nat):Bool:=n != 0&&k != 1&&k != 2||!(s==[])&&k != 3||decide (0<i)&&k != 4||decide (0<f)&&k != 5
def df(k n:Int):Bool:=k==1&&n != 0&&n != 1
def dh(k n:Int):Bool:=k==2&&(decide (n≤-1000000000000000)||decide (1000000000000000≤n))
def Iq(i f:Nat):Bool:=decide ((100:Int)<i)||decide ((100:Int)<f)
def Ir(s:za):Bool:=decide ((500:Int)<s.length)
def YQ(k n:Int)(s:za)(i f:Nat):Int:=
 if CC k then 4 else if Xq k n s i f then 3 else if df k n||dh k n then 1 else if Ir s then 2 else if wG 32 126 s then(if Iq i f then 2 else 0)else 1
def fg(a b:za):Bool:=Op.bytesLess a b||a==b
def mL(a:za):Bool:=a.isEmpty||decide ((60:Int)<a.length)||!wG 32 126 a
def sF(b:Option za)(a:za):Bool:=match b with
 |none=>false
 |some p=>fg a p
mutual
def qE.fault:qE→Int
 | .mk k n s a b=>if YQ k n s a.length b.length=0 then(if ZJ a=0 then VP none b else ZJ a)else YQ k n s a.length b.length
def ZJ:List qE→Int
 |[]=>0
 |v::l=>if v.fault=0 then ZJ l else v.fault
def VP:Option za→List (za×qE)→Int
 |_,[]=>0
 |prev,(a,v)::l=>if mL a then 5 else if sF prev a then 8 else if v.fault=0 then VP (some a) l else v.fault
end
theorem CD(v:qE):v.fault=if YQ v.kind v.n v.s v.items.length v.fields.length=0 then(if ZJ v.items=0 then VP none v.fields else ZJ v.items)else YQ v.kind v.n v.s v.items.length v.fields.length:=by cases v;rfl
theorem CE:zg prog 223 (GV fun v=>wq (Xq v.kind v.n v.s v.items.length v.fields.length)):=
 qq (fn:=f223) w8 ⟨_,func223,by kernel_rfl,rfl,by kernel_rfl⟩ false [] _ fun args r h=>by obtain⟨v,rfl,a,rfl⟩:=JW h;exact⟨by simp[f223],_,zo rfl (by simp[f223,Xq]),qm _⟩
noncomputable abbrev Ck (n:Nat):Ctx:=qb prog [(203,zi false [] (FV (fun v=>int v.fault) n)),(223,GV fun v=>wq (Xq v.kind v.n v.s v.items.length v.fields.length)),(224,zi false [] (FS (wG 32 126)))]
@[simp]theorem qk(n:Nat):yB (Ck n) 224:=wC (by rfl) (zt _ _)
theorem gM{l:List qE}{k:Nat}(h:k<l.length):ZJ (l.drop k)=if l[k].fault=0 then ZJ (l.drop (k+1))else l[k].fault:=by rw[zd h,ZJ]
theorem gN{l:List (za×qE)}{k:Nat}(h:k<l.length)(p:Option za):VP p (l.drop k)=if mL l[k].1 then 5 else if sF p l[k].1 then 8 else if l[k].2.fault=0 then VP (some l[k].1) (l.drop (k+1))else l[k].2.fault:=by rw[zd h,VP]
def QB(l:List (za×qE))(k:Nat):Option za:=if k=0 then none else(l[k-1]?).map (·.1)
theorem mM(n:Nat)(v:qE)(h:v.vb≤zG∧v.vb≤n+1):zz (Ck n) f203 [.agg v.V]=some (int v.fault):=by
 have hvb:=QW v;have hl1:=jk v.items;have hl2:=ke v.fields;obtain⟨ha,hb⟩:=h;unfold zG at ha;have b:=CD v;have d:=fun Y Z=>Jt (fun v=>wq (Xq v.kind v.n v.s v.items.length v.fields.length)) v Y Z ha
 have B:v.s.length≤zG:=by unfold zG;omega
 refine zo rfl ?_;have y:(decide (v.kind<0)||decide (5<v.kind))=CC v.kind:=rfl;have G:(v.kind==1&&v.n != 0&&v.n != 1)=df v.kind v.n:=rfl;have I:(v.kind==2&&(decide (v.n≤-1000000000000000)||decide (1000000000000000≤v.n)))=dh v.kind v.n:=rfl;have e4:(decide ((100:Int)<v.items.length)||decide ((100:Int)<v.fields.length))=Iq v.items.length v.fields.length:=rfl;have M:decide ((500:Int)<v.s.length)=Ir v.s:=rfl;cases r:CC v.kind
 case true=>simp[y,r,b,YQ,f203]
 cases z:Xq v.kind v.n v.s v.items.length v.fields.length
 case true=>simp[y,r,d,z,b,YQ,f203]
 cases C:df v.kind v.n
 case true=>simp[y,r,d,z,G,C,b,YQ,f203]
 cases H:dh v.kind v.n
 case true=>simp[y,r,d,z,G,C,I,H,b,YQ,f203]
 cases J:Ir v.s
 case true=>simp[y,r,d,z,G,C,I,H,M,J,b,YQ,f203]
 cases N:wG 32 126 v.s
 case false=>simp[y,r,d,z,G,C,I,H,M,J,N,B,b,YQ,f203]
 cases Q:Iq v.items.length v.fields.length
 case true=>simp[y,r,d,z,G,C,I,H,M,J,N,B,e4,Q,b,YQ,f203]
 have hh:YQ v.kind v.n v.s v.items.length v.fields.length=0:=by simp[YQ,r,z,C,H,J,N,Q]
 rw[hh,zf rfl]at b;simp[y,r,d,z,G,C,I,H,M,J,N,B,e4,Q];refine zQ (fun k o Y Z=>o 1=.ref 0 0 0∧o 70=.sl 5 (v.items.map qE.V)∧o 71=int v.items.length∧o 72=int k∧1≤Z∧Y 0=some ⟨136,5,false,[v.V]⟩∧ZJ v.items=ZJ (v.items.drop k)) v.items.length
  ⟨by simp,by simp,by simp,by simp,by simp,by simp,by simp⟩ ?_
 rintro k o Y Z hk ⟨l,t,u,w,D,q,x⟩;have A:¬0=Z:=by omega
 by_cases c:k<v.items.length
 ·have hm:=kP (zm c);have hw:i6.wrap ((k:Int)+1)=(k:Int)+1:=zn (by omega) (by omega);have a:=fun Y Z=>Yq (fun v=>int v.fault) n v.items[k] Y Z ⟨by unfold zG;omega,by omega⟩
  rw[gM c]at x;by_cases e:v.items[k].fault=0
  ·rw[zf e]at x;simp[l,t,u,w,c,a,e,hw]
   and_intros<;>first|omega|exact x|simp[A,q]
  ·rw[zj e]at x;have p:(v.items[k].fault != 0)=true:=by simpa using e
   rw[x,zj e]at b;simp[l,t,u,w,c,a,p,b,f203]
 ·obtain rfl:k=v.items.length:=by omega
  rw[zl]at x;have x:ZJ v.items=0:=by rw[x];rfl
  rw[x,zf rfl]at b;simp[l,t,u,w,q];refine zQ (fun k o Y Z=>o 1=.ref 0 0 0∧o 83=.sl 6 (v.fields.map yu)∧o 84=int v.fields.length∧o 85=int k∧1≤Z∧Y 0=some ⟨136,5,false,[v.V]⟩∧v.fault=VP (QB v.fields k) (v.fields.drop k)) v.fields.length
   ⟨by simp[l],by simp,by simp,by simp,D,q,by simp[b,QB]⟩ ?_
  clear l t u w D q c hk A Z Y o b;rintro k o Y Z hk ⟨l,f,g,i,D,q,b⟩;have A:¬0=Z:=by omega
  by_cases c:k<v.fields.length
  ·have hm:=xV (zm c);have hw:i6.wrap ((k:Int)+1)=(k:Int)+1:=zn (by omega) (by omega);have m:v.fields[k].1.length≤zG:=by unfold zG;omega
   have a:=fun Y Z=>Yq (fun v=>int v.fault) n v.fields[k].2 Y Z ⟨by unfold zG;omega,by omega⟩
   have en:(v.fields[k].1.isEmpty||decide ((60:Int)<v.fields[k].1.length)||!wG 32 126 v.fields[k].1)=mL v.fields[k].1:=rfl;rw[gN c]at b;cases E:mL v.fields[k].1
   case true=>simp[l,f,g,i,c,m,en,E,b,f203]
   have K:QB v.fields (k+1)=some v.fields[k].1:=by simp[QB,c]
   simp only[E,zU,wK]at b;by_cases k0:k=0
   ·subst k0;simp only[QB,sF,wi,zU,wK]at b;by_cases e:v.fields[0].2.fault=0
    ·rw[zf e]at b;have w1:i6.wrap 1=1:=zn (by omega) (by omega);simp[l,f,g,i,c,m,en,E,a,e,w1]
     and_intros<;>first|omega|(rw[b];rw[K];simp;done)|simp[A,q]
    ·rw[zj e]at b;have p:(v.fields[0].2.fault != 0)=true:=by simpa using e
     simp[l,f,g,i,c,m,en,E,a,p,b,f203]
   ·obtain⟨j,rfl⟩:∃j,k=j+1:=⟨k-1,by omega⟩;have P:j<v.fields.length:=by omega
    have R:i6.wrap ((j:Int)+1-1)=(j:Int):=by rw[zn (by omega) (by omega)];omega
    have F:i6.wrap (j:Int)=(j:Int):=zn (by omega) (by omega);have S:((j:Int)+1).toNat=j+1:=by omega
    have T:0<(j:Int)+1:=by omega
    have U:0≤(j:Int)+1:=by omega
    have W:(j:Int)+1<v.fields.length:=by omega
    have wk:i6.wrap ((j:Int)+1+1)=(j:Int)+1+1:=zn (by omega) (by omega);have X:(Op.bytesLess v.fields[j+1].1 v.fields[j].1||v.fields[j+1].1==v.fields[j].1)=fg v.fields[j+1].1 v.fields[j].1:=rfl;have hpj:QB v.fields (j+1)=some v.fields[j].1:=by simp[QB,P]
    simp only[hpj,sF]at b;cases L:fg v.fields[j+1].1 v.fields[j].1
    case true=>simp only[L,wi]at b;simp[l,f,g,i,c,P,m,en,E,a,q,A,R,F,S,T,U,W,X,L,b,f203]
    simp only[L,zU,wK]at b;by_cases e:v.fields[j+1].2.fault=0
    ·rw[zf e]at b;simp[l,f,g,i,c,P,m,en,E,a,q,A,R,F,S,T,U,W,X,L,e,wk]
     and_intros<;>first|omega|(rw[b];rw[K])|simp[A,q]
    ·rw[zj e]at b;have p:(v.fields[j+1].2.fault != 0)=true:=by simpa using e
     simp[l,f,g,i,c,P,m,en,E,a,q,A,R,F,S,T,U,W,X,L,p,b,f203]
  ·obtain rfl:k=v.fields.length:=by omega
   rw[zl]at b;have b:v.fault=0:=by rw[b];rfl
   simp[l,f,g,i,b,f203]
theorem iL:∀n,zg prog 203 (zi false [] (FV (fun v=>int v.fault) n)):=by
 intro n
 induction n with
 |zero=>exact lD ⟨_,func203,by kernel_rfl,by kernel_rfl⟩
 |succ n a=>
  have b:AM.Good (Ck n) (fun g=>[224].contains g):=zI mixed ⟨a,by simp,CE,by simp,mG,fun _=>zt _ _,trivial⟩;exact qq (fn:=f203) b ⟨_,func203,by kernel_rfl,rfl,by kernel_rfl⟩ false [] _ fun args r h=>by obtain⟨v,rfl,c,rfl⟩:=JW h;exact⟨zC (ze 1) (by decide),_,mM n v c,qm _⟩
def qE.check(v:qE):Int:=if decide ((1000:Int)<v.parts)||decide ((8:Int)<v.levels)then 2 else v.fault
noncomputable abbrev Cch:Ctx:=qb prog [(203,GV fun v=>int v.fault),(202,GV fun v=>.yb [int v.parts,int v.levels])]
theorem CF:zg prog 193 (GV fun v=>int v.check):=
 qq (fn:=f193) (zI (q:=[]) mixed ⟨iL zG,by simp,CB zG,by simp,trivial⟩:AM.Good Cch _) ⟨_,func193,by kernel_rfl,rfl,by kernel_rfl⟩ false [] _ fun args r h=>by
  obtain⟨v,rfl,a,rfl⟩:=JW h;have b:=fun Y Z=>Jt (fun v=>int v.fault) v Y Z a.1
  have c:=fun Y Z=>Jt (fun v=>.yb [int v.parts,int v.levels]) v Y Z a.1
  refine⟨by simp[f193],_,zo rfl ?_,qm _⟩;cases d:(decide ((1000:Int)<v.parts)||decide ((8:Int)<v.levels))
  ·simp[b,c,d,f193,qE.check]
  ·simp[b,c,d,f193,qE.check]
inductive wV where
 |mk (kind:Int) (attr:List UInt8) (op:Int) (yY:List qE) (pat name:List UInt8) (args:List wV)
namespace wV
def kind:wV→Int|.mk k _ _ _ _ _ _=>k
def attr:wV→za|.mk _ a _ _ _ _ _=>a
def op:wV→Int|.mk _ _ o _ _ _ _=>o
def yY:wV→List qE|.mk _ _ _ v _ _ _=>v
def pat:wV→za|.mk _ _ _ _ p _ _=>p
def name:wV→za|.mk _ _ _ _ _ n _=>n
def args:wV→List wV|.mk _ _ _ _ _ _ l=>l
end wV
theorem wV.ind{P:wV→Prop}(h:∀k a o v p n l,(∀x∈l,P x)→P (.mk k a o v p n l))(c:wV):P c:=
 wV.rec (motive_1:=P) (motive_2:=fun l=>∀x∈l,P x) (fun k a o v p n l b=>h k a o v p n l b) (by simp)
  (fun x l e b y d=>by
   rcases zL.1 d with rfl|d
   ·exact e
   ·exact b y d) c
mutual
def wV.V:wV→zc
 | .mk k a o v p n l=>[int k,str a,int o,.sl 5 (v.map qE.V),str p,str n,.sl 7 (BT l)]
def BT:List wV→List zc
 |[]=>[]
 |c::l=>c.V::BT l
end
theorem mN:∀l:List wV,BT l=l.map wV.V
 |[]=>rfl
 |c::l=>by simp[BT,mN l]
theorem yU(c:wV):c.V=[int c.kind,str c.attr,int c.op,.sl 5 (c.yY.map qE.V),str c.pat,str c.name,.sl 7 (c.args.map wV.V)]:=by
 cases c with
 |mk k a o v p n l=>simp[wV.V,mN,wV.kind,wV.attr,wV.op,wV.yY,wV.pat,wV.name,wV.args]
@[simp]theorem zcF(c:wV):c.V.length=7:=by rw[yU];rfl
@[simp]theorem Gi(c:wV):c.V.all O.wY=true:=by rw[yU];rfl
@[simp]theorem zcG(c:wV):(∀x,x∈c.V→O.wY x=true)=True:=by have:=Gi c;rw[qW]at this;exact eq_true this
@[simp]theorem zfV(c:wV):c.V.take 7=c.V:=qp (by simp)
@[simp]theorem zj6(c:wV)(h:0<c.V.length):c.V[0]=int c.kind:=by simp[yU c]
@[simp]theorem zj7(c:wV)(h:1<c.V.length):c.V[1]=str c.attr:=by simp[yU c]
@[simp]theorem zj8(c:wV)(h:2<c.V.length):c.V[2]=int c.op:=by simp[yU c]
@[simp]theorem zj9(c:wV)(h:3<c.V.length):c.V[3]=.sl 5 (c.yY.map qE.V):=by simp[yU c]
@[simp]theorem zka(c:wV)(h:4<c.V.length):c.V[4]=str c.pat:=by simp[yU c]
@[simp]theorem zkb(c:wV)(h:5<c.V.length):c.V[5]=str c.name:=by simp[yU c]
@[simp]theorem zkc(c:wV)(h:6<c.V.length):c.V[6]=.sl 7 (c.args.map wV.V):=by simp[yU c]
theorem Pc{a b:List qE}(h:a.map qE.V=b.map qE.V):a=b:=y7 (fun _ _=>Yp) h
theorem Ki:∀{a b:wV},a.V=b.V→a=b:=by
 intro a
 induction a using wV.ind with
 |h k a o v p n l f=>
  intro b e;cases b with
  |mk s t o' u w z l'=>
   simp only[yU,wV.kind,wV.attr,wV.op,wV.yY,wV.pat,wV.name,wV.args,zh,zK]at e;obtain⟨g,i,j,c,m,q,d⟩:=e;obtain rfl:=qn g;obtain rfl:=wx i;obtain rfl:=qn j;injection c with _ c
   obtain rfl:=Pc c;obtain rfl:=wx m;obtain rfl:=wx q;injection d with _ d;rw[Va (fun x r y=>f x r) d]
mutual
def wV.cb:wV→Nat
 | .mk _ a _ v p n l=>1+a.length+Jf v+p.length+n.length+cO l
def cO:List wV→Nat
 |[]=>0
 |c::l=>c.cb+cO l
end
theorem VX(c:wV):c.cb=1+c.attr.length+Jf c.yY+c.pat.length+c.name.length+cO c.args:=by cases c;rfl
theorem mO(c:wV):0<c.cb:=by rw[VX];omega
theorem Yr:∀{l:List wV} {x:wV},x∈l→x.cb≤cO l
 |y::l,x,h=>by
  simp only[cO];rcases zL.1 h with rfl|h
  ·omega
  ·have:=Yr h;omega
theorem Zk:∀l:List wV,l.length≤cO l
 |[]=>by simp[cO]
 |c::l=>by have:=Zk l;have:=mO c;simp only[cO,qa];omega
mutual
def wV.parts:wV→Nat
 | .mk _ _ _ _ _ _ l=>1+jm l
def jm:List wV→Nat
 |[]=>0
 |c::l=>c.parts+jm l
end
mutual
def wV.levels:wV→Nat
 | .mk _ _ _ _ _ _ l=>jf l+1
def jf:List wV→Nat
 |[]=>0
 |c::l=>max c.levels (jf l)
end
theorem al(c:wV):c.parts=1+jm c.args:=by cases c;rfl
theorem bX(c:wV):c.levels=jf c.args+1:=by cases c;rfl
theorem bY(l:List wV)(h:∀x∈l,x.parts≤x.cb):jm l≤cO l:=by
 induction l with
 |nil=>simp[jm]
 |cons v l a=>have:=h v (by simp);have:=a fun x b=>h x (by simp[b]);simp only[jm,cO];omega
theorem fh(c:wV):c.parts≤c.cb:=by
 induction c using wV.ind with
 |h k a o v p n l b=>have:=bY l b;rw[al,VX];simp only[wV.args];omega
theorem CG(l:List wV)(h:∀x∈l,x.levels≤x.parts):jf l≤jm l:=by
 induction l with
 |nil=>simp[jf]
 |cons v l a=>have:=h v (by simp);have:=a fun x b=>h x (by simp[b]);simp only[jm,jf];omega
theorem Gj(c:wV):c.levels≤c.parts:=by
 induction c using wV.ind with
 |h k a o v p n l b=>have:=CG l b;rw[al,bX];simp only[wV.args];omega
theorem bt(a b:List wV):jm (a++b)=jm a+jm b:=by
 induction a with
 |nil=>simp[jm]
 |cons v a c=>simp only[q9,jm,c];omega
theorem mP(a b:List wV):jf (a++b)=max (jf a) (jf b):=by
 induction a with
 |nil=>simp[jf]
 |cons v a c=>simp only[q9,jf,c];omega
theorem zhn{l:List wV}{k:Nat}(h:k<l.length):jm (l.take (k+1))=jm (l.take k)+l[k].parts∧jf (l.take (k+1))=max (jf (l.take k)) l[k].levels:=by rw[qx h,bt,mP];simp[jm,jf]
theorem sG(l:List wV)(k:Nat):jm (l.take k)≤jm l:=by have:=bt (l.take k) (l.drop k);rw[iE]at this;omega
noncomputable def FC (out:wV→O) (n:Nat):zc→Option O:=qv (α:=wV) (fun c=>[.agg c.V]) (fun c=>c.cb≤zG∧c.cb≤n) out
theorem zho(out:wV→O)(n:Nat)(c:wV)(h:c.cb≤zG∧c.cb≤n):FC out n [.agg c.V]=some (out c):=
 zJ (V:=fun c:wV=>[.agg c.V]) (a:=c) (fun a b e=>by simp only[zh,zK,O.agg.injEq]at e;exact Ki e) h
@[simp]theorem Kj(Y:Hp)(c:wV):qU Y c.V=some (c.V,Y):=by rw[yU];simp
theorem Ju(Y:Hp)(c:wV):qf Y (.agg c.V)=some (.agg c.V,Y):=by rw[yU];simp
theorem Gk(c:wV):O.noOwn (.agg c.V)=true:=by rw[yU];simp
theorem Vc(out:wV→O)(n:Nat)(c:wV)(Y:Hp)(Z:Nat)(h:c.cb≤zG∧c.cb≤n):zi false [] (FC out n) [.agg c.V] Y Z=some (out c,Y,Z):=
 qe (Y1:=Y) (show zA Y [.agg c.V]=some ([.agg c.V],Y) by simp only[zA,Ju]) (zho out n c h) (.inr (by simp only[qN,Gk,List.all_nil,Bool.and_self]))
theorem WX{out:wV→O}{n:Nat}{args:zc}{r:O}(h:FC out n args=some r):∃c:wV,args=[.agg c.V]∧(c.cb≤zG∧c.cb≤n)∧r=out c:=zr h
theorem lE{out:wV→O}{f:FuncId}(a:∃fn,prog.funcs[f]?=some fn∧(fn.name== "runtime.NumGoroutine")=false∧fn.body.isNone=false):zg prog f (zi false [] (FC out 0)):=by
 refine⟨a,fun args Y Z r Y' d h=>?_⟩;unfold zi at h;split at h
 ·split at h
  ·rename_i e b;obtain⟨c,_,g,_⟩:=WX b;have:=mO c;omega
  ·cases h
 ·cases h
noncomputable abbrev GC (out:wV→O):AM.Spec:=zi false [] (FC out zG)
theorem Wu(out:wV→O)(c:wV)(Y:Hp)(Z:Nat)(h:c.cb≤zG):GC out [.agg c.V] Y Z=some (out c,Y,Z):=Vc out zG c Y Z ⟨h,h⟩
end Go.Q
namespace Go.AM
variable{dr:Prop}
section
variable{C:Ctx}{pf:FuncId→Bool}{f:FuncId}{fn:Func}{code:Code}
theorem uQ(hg:Yj dr C pf)(s:iF C pf f fn code)(k:Bool)(ns:List Nat)(F:zc→Option O)
  (hF:∀args r,F args=some r→∀(w:World) (S:Nat→Prop) (vs:List Value),Zip (wT w S) args vs→∃a t,Zip (wT w S) a vs∧a.length≤fn.ntmps∧zz C fn a=some t∧∀(w:World) (S:Nat→Prop) (u:Value),wT w S t u→wT w S r u):km dr C.P f (zi k ns F):=by
 refine⟨⟨fn,s.func,s.name,by rw[s.body];rfl⟩,?_⟩;intro args Y Z r Y' Z' h w S G vs X hz;unfold zi at h;split at h
 ·rename_i aZ Y1 z;split at h
  ·rename_i t A;obtain⟨S1,y,B,D⟩:=jC (dr:=dr) X z hz;obtain⟨a,rr,E,hn,d,H⟩:=hF _ t A w S1 vs (Qy B);unfold zz at d;split at d
   ·rename_i x hpe nxe I;obtain⟨⟨r1,hpf1⟩,J,l⟩:=zX d;simp only at l;subst l;refine(xq hg s I hn y.inv.st y.inv.eR E).mono fun e w' hh=>?_
    obtain⟨v,S',G',he,fr,m,hx,hs0,K,_⟩:=hh;obtain⟨S2,k2,L⟩:=KZ (dr:=dr) m J hx;have M:=H _ _ _ L;have n:∀b,S2 b→S1 b∨(w.heap.size≤b∧b<w'.heap.size):=by
     intro b j;have o:=k2.inv.st b j;rcases k2.from_ b j with h1|⟨id,blk,h1,rfl⟩|h1
     ·rcases K b h1 with N|N
      ·exact .inl N
      ·exact .inr ⟨N,o⟩
     ·rcases Nat.lt_or_ge (G' id).g w.heap.size with h3|h3
      ·rename_i p;have:=p id blk h1;omega
      ·exact .inr ⟨h3,o⟩
     ·exact absurd h1 (by omega)
    split at h
    ·rename_i i;injection h with h
     injection h with Q h;injection h with R T;subst Q;subst R;subst T;refine⟨v,_,G,he,kJ.outer X fr,.c ?_⟩;rcases i with U|W
     ·exact Cp M U
     ·have q:=D W;exact M.mono fun b j=>⟨by rw[←q];exact n b j,rfl⟩
    ·split at h
     ·injection h with h;injection h with Q h;injection h with R T;subst Q;subst R;subst T;exact⟨v,_,G,he,y.trans (kJ.outer y.inv fr),.c (M.mono fun b j=>⟨n b j,rfl⟩)⟩
     ·cases h
   ·cases d
  ·cases h
 ·cases h
inductive vw (s:Nat):List (List O)→O→Prop
 |nil:vw s [] .nil
 |em:vw s [] .em
 |sl {c:List O} {es:List (List O)}:vw s (c::es) (.sl s (c::es))
theorem mQ{w:World}{S:Nat→Prop}{s:Nat}{es:List zc}{u:Value}(h:wT w S (.sl s es) u):∃y,vw s es y∧wT w S y u:=by
 cases es with
 |cons c es=>exact⟨_,.sl,h⟩
 |nil=>
  cases h with
  |sl us a d b e f g=>
   rename_i A cap;cases A with
   |none=>have:=a rfl;subst this;exact⟨.nil,.nil,.nil⟩
   |some i=>exact⟨.em,.em,.em b⟩
theorem Kk{w:World}{S:Nat→Prop}{s:Nat}{es:List zc}{y:O}{u:Value}(h:vw s es y)(a:wT w S y u):wT w S (.sl s es) u:=by
 cases h with
 |nil=>cases a;exact .sl (es:=[]) (fun _ _=>undef) (by simp) (by simp) (by simp[maxLen]) (by simp) (by simp) (by simp)
 |em=>
  cases a with
  |em b=>exact .sl (es:=[]) (fun _ _=>undef) (by simp) (by simp) b (by simp) (by simp) (by simp)
 |sl=>exact a
theorem xk{w:World}{S:Nat→Prop}{cs:zc}{u:Value}(h:wT w S (.agg cs) u){j s:Nat}{es:List zc}(c:cs[j]?=some (.sl s es)):∃y,vw s es y∧wT w S (.agg (cs.set j y)) u:=by
 cases h with
 |agg f d=>
  rename_i us;have g:j<cs.length:=(zq.1 c).1;obtain⟨y,i,l⟩:=mQ (d j _ us[j] c (by simp));refine⟨y,i,.agg (by simpa using f) fun k m u a b=>?_⟩;rw[eN]at a;split at a
  ·rename_i e;subst e;injection a with a
   subst a;rw[V3 (by omega)]at b;injection b with b
   subst b;exact l
  ·exact d k m u a b
section
variable{P:Program}{Y:Hp}{Z:Nat}{t:TypeId}{s e:Nat}{es:List zc}{y:O}
theorem vw.len(h:vw s es y)(a:yK P t=some e):Qr P t y=some (.v (.int .i64 es.length)):=by cases h<;>simp[Qr,a]
theorem vw.view(h:vw s es y):AM.view Y s y=some es:=by cases h<;>simp[AM.view]
theorem vw.cell(h:vw s es y):y.wY=true:=by cases h<;>rfl
theorem vw.frz(h:vw s es y):qf Y y=some (y,Y):=by cases h<;>rfl
theorem vw.noOwn(h:vw s es y):y.noOwn=true:=by cases h<;>rfl
theorem vw.up(h:vw s es y)(w:World)(S:Nat→Prop)(u:Value)(a:wT w S y u):wT w S (.sl s es) u:=Kk h a
end
theorem q6.more{Y:Hp}{Z e s:Nat}{v:O}{xs:List zc}(h:q6 Y Z e s v xs)(b:Option jz):q6 (qZ Y Z b) (Z+1) e s v xs:=by
 rcases h with⟨rfl,rfl⟩|⟨id,c,rfl,a⟩
 ·exact .inl ⟨rfl,rfl⟩
 ·exact .inr ⟨id,by omega,rfl,by rw[zw _ _ _ _ (by omega)];exact a⟩
theorem jD(g:Yj dr C pf)(c:Xk C pf f fn)(b:Bool)(d:List Nat)(F:zc→Option O)
  (h:∀args r,F args=some r→∀(w:World) (S:Nat→Prop) (vs:List Value),Zip (wT w S) args vs→∃a e,Zip (wT w S) a vs∧a.length≤fn.ntmps∧zz C fn a=some e∧∀(w:World) (S:Nat→Prop) (u:Value),wT w S e u→wT w S r u):km dr C.P f (zi b d F):=
 let⟨_,c⟩:=c
 uQ g c b d F h
end
variable{dr:Prop}
def QC(P:Program)(l:Jg)(k:Nat)(L:List Tmp)(b:List Nat):Ctx:=⟨P,lookup l,fun _=>[],fun i=>if i=k then L else[],fun g=>b.contains g,fun _=>[],fun _=>none⟩
@[simp]theorem zhp(P:Program)(l:Jg)(k:Nat)(L:List Tmp)(b:List Nat):(QC P l k L b).P=P:=rfl
@[simp]theorem zhq(P:Program)(l:Jg)(k:Nat)(L:List Tmp)(b:List Nat)(Y:Hp)(Z g:Nat)(x y xs:zc):jQ (QC P l k L b) Y Z (some (.fn (.func g) x y)) xs=(lookup l g).bind fun s=>s (x++xs++y) Y Z:=by unfold jQ QC;simp only;cases lookup l g<;>rfl
@[simp]theorem Pd(P:Program)(l:Jg)(k:Nat)(L:List Tmp)(b:List Nat)(i:Nat)(a:Array Oper)(d:Bool)(c:St)(K:Exit→St→Prop)(h:¬i=k):Zf (QC P l k L b) (.region i a d) c K=sq (QC P l k L b) a a.toList c (Jr K):=
 Q6 _ i a d c K rfl (by simp[QC,h])
theorem ZZ{P:Program}{l:Jg}{k:Nat}{L:List Tmp}{b:List Nat}{a:Array Oper}{d:Bool}{c:St}{K:Exit→St→Prop}(h:kZ L c):Zf (QC P l k L b) (.region k a d) c K=sq (QC P l k L b) a a.toList c (Jr K):=
 Qf _ k a d c K (fun _ h=>by cases h) (by simpa[QC]using h)
def Gl(P:Program)(l:Jg)(k:Nat)(t:Tmp):Ctx:=⟨P,lookup l,fun _=>[],fun _=>[],fun _=>false,fun i=>if i=k then[t]else[],fun _=>none⟩
@[simp]theorem zhr(P:Program)(l:Jg)(k:Nat)(t:Tmp):(Gl P l k t).P=P:=rfl
@[simp]theorem zhs(P:Program)(l:Jg)(k:Nat)(t:Tmp)(Y:Hp)(Z g:Nat)(x y xs:zc):jQ (Gl P l k t) Y Z (some (.fn (.func g) x y)) xs=(lookup l g).bind fun s=>s (x++xs++y) Y Z:=by unfold jQ Gl;simp only;cases lookup l g<;>rfl
def bZ(b:List Nat):Jg→Prop
 |[]=>True
 |(g,s)::l=>(b.contains g=true→vZ s)∧bZ b l
theorem Kl{P:Program}{l:Jg}{q:List Nat}{k:Nat}{L:List Tmp}{b:List Nat}(d:P.follows .mixedOrders=true)(h:Ct dr P q l)(f:bZ b l):Yj dr (QC P l k L b) (fun g=>q.contains g):=by
 let g:=zI d h;refine⟨g.spec,g.quiet,g.mixed,?_,fun _ _ h=>by cases h⟩;have c:∀l:Jg,bZ b l→∀g s,b.contains g=true→lookup l g=some s→vZ s:=by
  intro l
  induction l with
  |nil=>intro _ g s _ h;cases h
  |cons x l i=>
   obtain⟨k,n⟩:=x;rintro⟨j,m⟩ g s a hs;simp only[gI]at hs;split at hs
   ·rename_i e;injection hs with hs
    subst hs;subst e;exact j a
   ·exact i m g s a hs
 exact fun g s a hs=>c l f g s a hs
theorem Zl:∀{xs ys:zc} {Y Y1:Hp},zA Y xs=some (ys,Y1)→∀{id:Nat} {b:jz},Y id=some b→b.arr=false→Y1 id=some b
 |[],ys,Y,Y1,h,id,b,a,c=>by simp only[zA]at h;injection h with h;injection h with _ h;subst h;exact a
 |x::l,ys,Y,Y1,h,id,b,a,c=>by
  simp only[zA]at h;split at h
  ·rename_i y Y2 d;split at h
   ·rename_i r e f;injection h with h;injection h with _ h;subst h
    exact Zl f (JQ d a c) c
   ·cases h
  ·cases h
theorem Vd(d:List Nat)(F:zc→Option (Option jz)):vZ (yO d F):=by
 intro args Y Z r Y' e h;unfold yO at h;split at h
 ·rename_i f Y1 c;split at h
  ·injection h with h;injection h with _ h;injection h with a b;subst a;subst b;exact⟨ze _,fun id blk _ a b=>Zl c a b⟩
  ·injection h with h;injection h with _ h;injection h with a b;subst a;subst b;exact⟨by omega,fun id blk hid a b=>by rw[zw _ _ _ _ (by omega)];exact Zl c a b⟩
  ·cases h
 ·cases h
def qM(a r:O):Prop:=∀(w:World) (S:Nat→Prop) (u:Value),wT w S a u→wT w S r u
def zht(r:O)(x:O)(Y:Hp)(_:Nat):Prop:=∃a,(AM.freeze Y x).map (·.1)=some a∧qM a r
theorem yv{C:Ctx}{fn:Func}{code:Code}{args:zc}{r:O}(b:fn.body=some code)
  (h:Zf C code ⟨ve args,fun _=>none,0⟩ (JT C.P fn (zht r))):∃a,zz C fn args=some a∧qM a r:=by
 obtain⟨x,Y',f,c,a,d,e⟩:=zT b h;exact⟨a,by unfold zz;simp only[c];exact d,e⟩
theorem q6.gone{Y:Hp}{Z e s:Nat}{v:O}{xs:List zc}(h:q6 Y Z e s v xs):∃y Y1,we Y v=some (y,Y1)∧(y=.nil∧xs=[]∨y=.sl s xs)∧∀id,(∀n,v≠.own id 0 n)→Y1 id=Y id:=by
 rcases h with⟨rfl,rfl⟩|⟨id,c,rfl,a⟩
 ·exact⟨.nil,Y,rfl,.inl ⟨rfl,rfl⟩,fun _ _=>rfl⟩
 ·exact⟨.sl s xs,qZ Y id none,by simp[a],.inr rfl,fun k b=>zw _ _ _ _ (fun e=>b xs.length (by subst e;rfl))⟩
theorem uR{w:World}{S:Nat→Prop}{s:Nat}{xs:List zc}{y:O}{u:Value}(h:y=.nil∧xs=[]∨y=.sl s xs)(a:wT w S y u):wT w S (.sl s xs) u:=by
 rcases h with⟨rfl,rfl⟩|rfl
 ·exact Kk .nil a
 ·exact a
theorem qM.refl(x:O):qM x x:=fun _ _ _ h=>h
theorem qM.pz{s:Nat}{xs:List zc}{y:O}(h:y=.nil∧xs=[]∨y=.sl s xs):qM y (.sl s xs):=fun _ _ _ a=>uR h a
inductive vp:List O→List O→Prop
 |nil:vp [] []
 |cons {x y:O} {xs ys:List O}:qM x y→vp xs ys→vp (x::xs) (y::ys)
theorem vp.length{xs ys:zc}(h:vp xs ys):xs.length=ys.length:=by
 induction h with
 |nil=>rfl
 |cons _ _ a=>simp[a]
theorem vp.get{xs ys:zc}(h:vp xs ys):∀{j:Nat} {x y:O},xs[j]?=some x→ys[j]?=some y→qM x y:=by
 induction h with
 |nil=>intro j x y h;cases h
 |cons c _ d=>
  intro j x y a b;cases j with
  |zero=>simp at a b;subst a;subst b;exact c
  |succ j=>exact d (by simpa using a) (by simpa using b)
theorem vp.agg{xs ys:zc}(h:vp xs ys):qM (.agg xs) (.agg ys):=by
 intro w S u c;cases c with
 |agg d e=>
  refine .agg (by rw[←h.length];exact d) fun j g u b f=>?_
  have a:j<xs.length:=by rw[h.length];exact(zq.1 b).1
  exact h.get (zu a) b _ _ _ (e j _ u (zu a) f)
theorem vp.yb{xs ys:zc}(h:vp xs ys):qM (.yb xs) (.yb ys):=by
 intro w S u c;cases c with
 |yb d e=>
  refine .yb (by rw[←h.length];exact d) fun j g u b f=>?_
  have a:j<xs.length:=by rw[h.length];exact(zq.1 b).1
  exact h.get (zu a) b _ _ _ (e j _ u (zu a) f)
theorem q6.at_{Y:Hp}{Z e s:Nat}{v:O}{xs:List zc}(h:q6 Y Z e s v xs)(a:0<xs.length):∃id,id<Z∧v=.own id 0 xs.length∧Y id=some ⟨e,s,true,xs⟩:=by
 rcases h with⟨rfl,rfl⟩|h
 ·simp at a
 ·exact h
theorem q6.same{Y Y':Hp}{Z a e s:Nat}{v:O}{xs:List zc}(h:q6 Y Z e s v xs)(d:Z≤a)(b:∀id n,v=.own id 0 n→Y' id=Y id):q6 Y' a e s v xs:=by
 rcases h with⟨rfl,rfl⟩|⟨id,f,rfl,c⟩
 ·exact .inl ⟨rfl,rfl⟩
 ·exact .inr ⟨id,by omega,rfl,by rw[b id _ rfl];exact c⟩
variable{dr:Prop}
def n1(s:Nat):O→O
 | .nil=>.sl s []
 | .em=>.sl s []
 |x=>x
@[simp]theorem zkd(s:Nat):n1 s .nil=.sl s []:=rfl
@[simp]theorem zlz(s:Nat):n1 s .em=.sl s []:=rfl
@[simp]theorem zlA(s t:Nat)(es:List zc):n1 s (.sl t es)=.sl t es:=rfl
@[simp]theorem n1_v(s:Nat)(x:Value):n1 s (.v x)=.v x:=rfl
def Z4:List (Option Nat)→zc→zc
 |some s::l,x::xs=>n1 s x::Z4 l xs
 |none::l,x::xs=>x::Z4 l xs
 |_,xs=>xs
inductive Sh where
 |a
 |g (p:List (Option Nat))
 |s (n:Nat) (p:List (Option Nat))
def Sh.fix:Sh→O→O
 | .g p,.agg cs=>.agg (Z4 p cs)
 | .s _ p,.sl m es=>.sl m (es.map (Z4 p))
 | .s n _,x=>n1 n x
 |_,x=>x
@[simp]theorem Sh.zc8(x:O):Sh.fix .a x=x:=by cases x<;>rfl
@[simp]theorem Sh.zlI(p:List (Option Nat))(cs:zc):Sh.fix (.g p) (.agg cs)=.agg (Z4 p cs):=rfl
@[simp]theorem Sh.eT(n m:Nat)(p:List (Option Nat))(es:List zc):Sh.fix (.s n p) (.sl m es)=.sl m (es.map (Z4 p)):=rfl
@[simp]theorem Sh.zcd(n:Nat)(p:List (Option Nat)):Sh.fix (.s n p) .nil=.sl n []:=rfl
@[simp]theorem Sh.zkn(n:Nat)(p:List (Option Nat)):Sh.fix (.s n p) .em=.sl n []:=rfl
attribute [simp] Z4
def YR:List Sh→zc→zc
 |h::l,x::xs=>h.fix x::YR l xs
 |_,xs=>xs
attribute [simp] YR
theorem L7(s:Nat)(x:O):qM x (n1 s x):=by
 intro w S u h;cases x with
 |nil=>exact Kk .nil h
 |em=>exact Kk .em h
 |_=>exact h
theorem xl:∀(p:List (Option Nat)) (cs:zc),(Z4 p cs).length=cs.length
 |[],cs=>by cases cs<;>rfl
 |none::p,[]=>rfl
 |some s::p,[]=>rfl
 |none::p,x::cs=>by simp[xl p cs]
 |some s::p,x::cs=>by simp[xl p cs]
theorem Zx:∀(p:List (Option Nat)) (cs:zc),vp cs (Z4 p cs)
 |[],[]=>.nil
 |[],x::cs=>by have:=Zx [] cs;rw[show Z4 [] cs=cs by cases cs<;>rfl]at this;exact .cons (qM.refl x) this
 |none::p,[]=>.nil
 |some s::p,[]=>.nil
 |none::p,x::cs=>.cons (qM.refl x) (Zx p cs)
 |some s::p,x::cs=>.cons (L7 s x) (Zx p cs)
theorem Q8(h:Sh)(x:O):qM x (h.fix x):=by
 intro w S u k;cases h with
 |a=>simpa using k
 |g p=>
  cases x with
  |agg cs=>exact(Zx p cs).agg w S u k
  |_=>exact k
 |s n p=>
  cases x with
  |sl m es=>
   cases k with
   |sl us q r t v y z=>
    rename_i A cap;have:=wT.sl (w:=w) (S:=S) (es:=es.map (Z4 p)) (A:=A) (cap:=cap) (s:=m) us q (by simpa using r) t (fun c B=>by
     obtain⟨b,e,rfl⟩:=qX.1 B;rw[xl];exact v b e) (fun i j c C d o=>by
     rw[wy]at d;obtain⟨b,e,rfl⟩:∃b,es[i]?=some b∧Z4 p b=c:=by
      cases l:es[i]? with
      |none=>rw[l]at d;cases d
      |some b=>rw[l]at d;injection d with d;exact⟨b,rfl,d⟩
     have f:j<b.length:=by have:=(zq.1 o).1;rwa [xl]at this
     exact y i j b _ e (zu f)) (fun i j c C d o=>by
     rw[wy]at d;obtain⟨b,e,rfl⟩:∃b,es[i]?=some b∧Z4 p b=c:=by
      cases l:es[i]? with
      |none=>rw[l]at d;cases d
      |some b=>rw[l]at d;injection d with d;exact⟨b,rfl,d⟩
     have f:j<b.length:=by have:=(zq.1 o).1;rwa [xl]at this
     exact(Zx p b).get (zu f) o _ _ _ (z i j b _ e (zu f)))
    rw[qO]at this;exact this
  |nil=>exact Kk .nil k
  |em=>exact Kk .em k
  |_=>exact k
theorem Km{w:World}{S:Nat→Prop}:∀{hs:List Sh} {xs:zc} {us:List Value},Zip (wT w S) xs us→Zip (wT w S) (YR hs xs) us
 |[],xs,us,h=>by cases xs<;>exact h
 |s::hs,[],us,h=>h
 |s::hs,x::xs,us,h=>by obtain⟨u,a,rfl,b,c⟩:=h.jl;exact .cons (Q8 s x w S u b) (Km c)
def qh(a:List Sh)(F:zc→Option O):AM.Spec:=zi false [] fun args=>F (YR a args)
theorem jx(a:List Sh)(F:zc→Option O):W9 (qh a F):=zt _ _
theorem wo{C:Ctx}{c:FuncId→Bool}{f:FuncId}{fn:Func}(d:Yj dr C c)(e:Xk C c f fn)(a:List Sh)(F:zc→Option O)
  (g:∀args r,F args=some r→args.length≤fn.ntmps∧∃b,zz C fn args=some b∧qM b r):km dr C.P f (qh a F):=
 jD d e false [] _ fun args r h w S vs i=>by obtain⟨j,b,k,l⟩:=g _ _ h;exact⟨YR a args,b,Km i,j,k,l⟩
theorem ju{a:List Sh}{F:zc→Option O}{args:zc}{Y:Hp}{Z:Nat}{b:zc}{r:O}(c:zA Y args=some (b,Y))(d:F (YR a b)=some r)(e:r.flat=true∨args.all O.noOwn=true) :
  qh a F args Y Z=some (r,Y,Z):=by
 have f:yf [] b=b:=by cases b<;>rfl
 exact qe c (by rw[f];exact d) e
def Xr(sh:Sh)(r:O)(x:O)(Y:Hp)(_:Nat):Prop:=∃a,(AM.freeze Y x).map (·.1)=some a∧sh.fix a=r
theorem QD{C:Ctx}{fn:Func}{code:Code}{args:zc}{sh:Sh}{r:O}(b:fn.body=some code)
  (h:Zf C code ⟨ve args,fun _=>none,0⟩ (JT C.P fn (Xr sh r))):∃a,zz C fn args=some a∧qM a r:=by
 obtain⟨x,Y',f,c,a,d,e⟩:=zT b h;exact⟨a,by unfold zz;simp only[c];exact d,e ▸ Q8 sh a⟩
def qL(sh:Sh)(r:O)(x:O)(Y:Hp)(_:Nat):Prop:=∃a y,(AM.freeze Y x).map (·.1)=some (.yb [a,y])∧.yb [sh.fix a,y]=r
theorem y8{C:Ctx}{fn:Func}{code:Code}{args:zc}{sh:Sh}{r:O}(b:fn.body=some code)
  (h:Zf C code ⟨ve args,fun _=>none,0⟩ (JT C.P fn (qL sh r))):∃a,zz C fn args=some a∧qM a r:=by
 obtain⟨x,Y',f,c,a,y,d,e⟩:=zT b h;exact⟨.yb [a,y],by unfold zz;simp only[c];exact d,e ▸ (vp.cons (Q8 sh a) (.cons (qM.refl y) .nil)).yb⟩
theorem xL{P:Program}{g:FuncId}{F:zc→Option O}(j:∃fn,P.funcs[g]?=some fn∧(fn.name== "runtime.NumGoroutine")=false∧fn.body.isNone=false)
  (h:∀args r,F args=some r→∃us:List Value,args=us.map O.v∧(∀u∈us,lit u=true)∧r.flat=true∧∃v,(∀w S,wT w S r v)∧∀w S,Ln P w S→Calls P g us.toArray w fun e s=>e=.returned v∧Fr dr w (fun _=>False) s):km dr P g (zi false [] F):=by
 refine⟨j,?_⟩;intro args Y Z r Y' L hs w S G vs t z;unfold zi at hs;split at hs
 ·rename_i k Y1 m;split at hs
  ·rename_i M A;obtain⟨us,e,B,n,v,C,D⟩:=h _ _ A;have E:yf [] k=k:=by cases k<;>rfl
   rw[E]at e;subst e;have d:args=us.map O.v:=by
    have o:∀(args:zc) (us:List Value) (Y1:Hp),zA Y args=some (us.map O.v,Y1)→args=us.map O.v:=by
     intro args
     induction args with
     |nil=>intro us Y1 b;simp only[zA]at b;injection b with b;injection b with b _
     |cons x l H=>
      intro us Y1 b;simp only[zA]at b;split at b
      ·rename_i y Y2 a;split at b
       ·rename_i N p q;injection b with b
        injection b with b _;cases us with
        |nil=>simp at b
        |cons u us=>
         simp only[qF,zh]at b;obtain⟨rfl,rfl⟩:=b;have I:x=.v u∧Y2=Y:=by
          unfold qf at a;split at a
          ·split at a
           ·injection a with a;injection a with a _;cases a
           ·cases a
          ·unfold we at a;split at a<;>first
            |(split at a<;>first|(split at a<;>first|(injection a with a;injection a with a _;cases a;done)|cases a)|cases a)
            |(injection a with a;injection a with i f;first|(exact⟨by rw[←i],f.symm⟩)|cases i)
            |cases a
         obtain⟨rfl,rfl⟩:=I;rw[H us p q];rfl
       ·cases b
      ·cases b
    exact o args us Y1 m
   subst d;simp only[n,true_or,wi]at hs;injection hs with hs
   injection hs with i f;injection f with f J;subst i;subst f;subst J;rw[mC B z];refine(D w S t.eR).mono fun e s b=>?_
   obtain⟨rfl,K⟩:=b;exact⟨v,_,G,rfl,kJ.outer t K,.c (C _ _)⟩
  ·cases hs
 ·cases hs
end Go.AM
namespace Go.Proofs
open Go.Shelf
def Tryz.Fw:Go.Shelf.Ren:=⟨fun|161=>274|231=>306|227=>308|233=>309|235=>311|228=>333|197=>259|151=>334|260=>287|152=>346|137=>276|119=>354|224=>322|225=>321|217=>314|266=>336|n=>n,fun|9=>9|4=>4|3=>3|5=>5|117=>320|116=>319|0=>0|124=>323|105=>279|21=>21|119=>326|46=>109|139=>329|138=>328|n=>n,fun|3=>1|4=>2|n=>n⟩
theorem Tryz.zce:Go.Proofs.Lays.n161 prog Tryz.Fw:={
 mixed:=by kernel_rfl
 f119:=func354.trans (zD some (by kernel_rfl))
 f137:=func276.trans (zD some (by kernel_rfl))
 f151:=func334.trans (zD some (by kernel_rfl))
 f152:=func346.trans (zD some (by kernel_rfl))
 f161:=func274.trans (zD some (by kernel_rfl))
 f197:=func259.trans (zD some (by kernel_rfl))
 f217:=func314.trans (zD some (by kernel_rfl))
 f224:=func322.trans (zD some (by kernel_rfl))
 f225:=func321.trans (zD some (by kernel_rfl))
 f227:=func308.trans (zD some (by kernel_rfl))
 f228:=func333.trans (zD some (by kernel_rfl))
 f231:=func306.trans (zD some (by kernel_rfl))
 f233:=func309.trans (zD some (by kernel_rfl))
 f235:=func311.trans (zD some (by kernel_rfl))
 f260:=func287.trans (zD some (by kernel_rfl))
 f266:=func336.trans (zD some (by kernel_rfl))
 t0:=underlying0
 a0:=isAgg0
 z0:=sizeOf0
 v0:=zeroValue0
 t3:=underlying3
 a3:=isAgg3
 z3:=sizeOf3
 v3:=zeroValue3
 t4:=underlying4
 a4:=isAgg4
 z4:=sizeOf4
 v4:=zeroValue4
 t5:=underlying5
 a5:=isAgg5
 z5:=sizeOf5
 v5:=zeroValue5
 t9:=underlying9
 a9:=isAgg9
 z9:=sizeOf9
 v9:=zeroValue9
 t21:=underlying21
 a21:=isAgg21
 z21:=sizeOf21
 v21:=zeroValue21
 t46:=underlying109
 a46:=isAgg109
 z46:=sizeOf109
 v46:=zeroValue109
 t105:=underlying279
 a105:=isAgg279
 z105:=sizeOf279
 v105:=zeroValue279
 t116:=underlying319
 a116:=isAgg319
 z116:=sizeOf319
 t117:=underlying320
 a117:=isAgg320
 z117:=sizeOf320
 v117:=zeroValue320
 t119:=underlying326
 a119:=isAgg326
 z119:=sizeOf326
 t124:=underlying323
 a124:=isAgg323
 z124:=sizeOf323
 v124:=zeroValue323
 t138:=underlying328
 a138:=isAgg328
 z138:=sizeOf328
 v138:=zeroValue328
 t139:=underlying329
 a139:=isAgg329
 z139:=sizeOf329
 v139:=zeroValue329
 g3:=by kernel_rfl
 g4:=by kernel_rfl}
def Tryz.Fx:Go.Shelf.Ren:=⟨fun|160=>273|232=>307|231=>306|227=>308|234=>310|233=>309|236=>312|235=>311|228=>333|271=>335|151=>334|197=>259|120=>347|152=>346|260=>287|137=>276|119=>354|224=>322|225=>321|217=>314|266=>336|n=>n,fun|9=>9|4=>4|3=>3|5=>5|117=>320|116=>319|0=>0|124=>323|21=>21|105=>279|46=>109|119=>326|139=>329|138=>328|n=>n,fun|3=>1|4=>2|n=>n⟩
theorem Tryz.zcf:Go.Proofs.Lays.n160 prog Tryz.Fx:={
 mixed:=by kernel_rfl
 f119:=func354.trans (zD some (by kernel_rfl))
 f120:=func347.trans (zD some (by kernel_rfl))
 f137:=func276.trans (zD some (by kernel_rfl))
 f151:=func334.trans (zD some (by kernel_rfl))
 f152:=func346.trans (zD some (by kernel_rfl))
 f160:=func273.trans (zD some (by kernel_rfl))
 f197:=func259.trans (zD some (by kernel_rfl))
 f217:=func314.trans (zD some (by kernel_rfl))
 f224:=func322.trans (zD some (by kernel_rfl))
 f225:=func321.trans (zD some (by kernel_rfl))
 f227:=func308.trans (zD some (by kernel_rfl))
 f228:=func333.trans (zD some (by kernel_rfl))
 f231:=func306.trans (zD some (by kernel_rfl))
 f232:=func307.trans (zD some (by kernel_rfl))
 f233:=func309.trans (zD some (by kernel_rfl))
 f234:=func310.trans (zD some (by kernel_rfl))
 f235:=func311.trans (zD some (by kernel_rfl))
 f236:=func312.trans (zD some (by kernel_rfl))
 f260:=func287.trans (zD some (by kernel_rfl))
 f266:=func336.trans (zD some (by kernel_rfl))
 f271:=func335.trans (zD some (by kernel_rfl))
 t0:=underlying0
 a0:=isAgg0
 z0:=sizeOf0
 v0:=zeroValue0
 t3:=underlying3
 a3:=isAgg3
 z3:=sizeOf3
 v3:=zeroValue3
 t4:=underlying4
 a4:=isAgg4
 z4:=sizeOf4
 v4:=zeroValue4
 t5:=underlying5
 a5:=isAgg5
 z5:=sizeOf5
 v5:=zeroValue5
 t9:=underlying9
 a9:=isAgg9
 z9:=sizeOf9
 v9:=zeroValue9
 t21:=underlying21
 a21:=isAgg21
 z21:=sizeOf21
 v21:=zeroValue21
 t46:=underlying109
 a46:=isAgg109
 z46:=sizeOf109
 v46:=zeroValue109
 t105:=underlying279
 a105:=isAgg279
 z105:=sizeOf279
 v105:=zeroValue279
 t116:=underlying319
 a116:=isAgg319
 z116:=sizeOf319
 t117:=underlying320
 a117:=isAgg320
 z117:=sizeOf320
 v117:=zeroValue320
 t119:=underlying326
 a119:=isAgg326
 z119:=sizeOf326
 t124:=underlying323
 a124:=isAgg323
 z124:=sizeOf323
 v124:=zeroValue323
 t138:=underlying328
 a138:=isAgg328
 z138:=sizeOf328
 v138:=zeroValue328
 t139:=underlying329
 a139:=isAgg329
 z139:=sizeOf329
 v139:=zeroValue329
 g3:=by kernel_rfl
 g4:=by kernel_rfl}
def Tryz.Fy:Go.Shelf.Ren:=⟨fun|137=>276|217=>314|266=>336|n=>n,fun|9=>9|5=>5|3=>3|n=>n,fun|n=>n⟩
theorem Tryz.zcg:Go.Proofs.Lays.n137 prog Tryz.Fy:={
 mixed:=by kernel_rfl
 f137:=func276.trans (zD some (by kernel_rfl))
 f217:=func314.trans (zD some (by kernel_rfl))
 f266:=func336.trans (zD some (by kernel_rfl))
 t3:=underlying3
 a3:=isAgg3
 z3:=sizeOf3
 v3:=zeroValue3
 t5:=underlying5
 a5:=isAgg5
 z5:=sizeOf5
 v5:=zeroValue5
 t9:=underlying9
 a9:=isAgg9
 z9:=sizeOf9
 v9:=zeroValue9}
def Tryz.Fz:Go.Shelf.Ren:=⟨fun|172=>291|244=>327|245=>328|247=>340|279=>341|280=>342|281=>343|282=>344|287=>350|316=>351|171=>353|205=>352|321=>355|322=>356|243=>357|246=>358|283=>359|284=>360|285=>361|286=>362|129=>107|317=>363|318=>364|319=>365|320=>366|337=>367|338=>368|n=>n,fun|9=>9|3=>3|75=>306|76=>307|4=>4|5=>5|167=>337|37=>338|0=>0|85=>339|2=>2|168=>341|53=>149|175=>347|46=>109|210=>350|127=>355|145=>358|143=>356|21=>21|171=>360|173=>362|212=>365|51=>147|20=>20|213=>366|232=>367|233=>368|80=>369|n=>n,fun|15=>3|16=>4|17=>5|18=>6|19=>7|n=>n⟩
theorem Tryz.zch:Go.Proofs.Lays.n172 prog Tryz.Fz:={
 mixed:=by kernel_rfl
 f129:=func107.trans (zD some (by kernel_rfl))
 f171:=func353.trans (zD some (by kernel_rfl))
 f172:=func291.trans (zD some (by kernel_rfl))
 f205:=func352.trans (zD some (by kernel_rfl))
 f243:=func357.trans (zD some (by kernel_rfl))
 f244:=func327.trans (zD some (by kernel_rfl))
 f245:=func328.trans (zD some (by kernel_rfl))
 f246:=func358.trans (zD some (by kernel_rfl))
 f247:=func340.trans (zD some (by kernel_rfl))
 f279:=func341.trans (zD some (by kernel_rfl))
 f280:=func342.trans (zD some (by kernel_rfl))
 f281:=func343.trans (zD some (by kernel_rfl))
 f282:=func344.trans (zD some (by kernel_rfl))
 f283:=func359.trans (zD some (by kernel_rfl))
 f284:=func360.trans (zD some (by kernel_rfl))
 f285:=func361.trans (zD some (by kernel_rfl))
 f286:=func362.trans (zD some (by kernel_rfl))
 f287:=func350.trans (zD some (by kernel_rfl))
 f316:=func351.trans (zD some (by kernel_rfl))
 f317:=func363.trans (zD some (by kernel_rfl))
 f318:=func364.trans (zD some (by kernel_rfl))
 f319:=func365.trans (zD some (by kernel_rfl))
 f320:=func366.trans (zD some (by kernel_rfl))
 f321:=func355.trans (zD some (by kernel_rfl))
 f322:=func356.trans (zD some (by kernel_rfl))
 f337:=func367.trans (zD some (by kernel_rfl))
 f338:=func368.trans (zD some (by kernel_rfl))
 t0:=underlying0
 a0:=isAgg0
 z0:=sizeOf0
 v0:=zeroValue0
 t2:=underlying2
 a2:=isAgg2
 z2:=sizeOf2
 v2:=zeroValue2
 t3:=underlying3
 a3:=isAgg3
 z3:=sizeOf3
 v3:=zeroValue3
 t4:=underlying4
 a4:=isAgg4
 z4:=sizeOf4
 v4:=zeroValue4
 t5:=underlying5
 a5:=isAgg5
 z5:=sizeOf5
 v5:=zeroValue5
 t9:=underlying9
 a9:=isAgg9
 z9:=sizeOf9
 v9:=zeroValue9
 t20:=underlying20
 a20:=isAgg20
 z20:=sizeOf20
 v20:=zeroValue20
 t21:=underlying21
 a21:=isAgg21
 z21:=sizeOf21
 v21:=zeroValue21
 t37:=underlying338
 a37:=isAgg338
 z37:=sizeOf338
 v37:=zeroValue338
 t46:=underlying109
 a46:=isAgg109
 z46:=sizeOf109
 v46:=zeroValue109
 t51:=underlying147
 a51:=isAgg147
 z51:=sizeOf147
 v51:=zeroValue147
 t53:=underlying149
 a53:=isAgg149
 z53:=sizeOf149
 v53:=zeroValue149
 t75:=underlying306
 a75:=isAgg306
 z75:=sizeOf306
 v75:=zeroValue306
 t76:=underlying307
 a76:=isAgg307
 z76:=sizeOf307
 v76:=zeroValue307
 t85:=underlying339
 a85:=isAgg339
 z85:=sizeOf339
 v85:=zeroValue339
 t127:=underlying355
 a127:=isAgg355
 z127:=sizeOf355
 v127:=zeroValue355
 t143:=underlying356
 a143:=isAgg356
 z143:=sizeOf356
 v143:=zeroValue356
 t145:=underlying358
 a145:=isAgg358
 z145:=sizeOf358
 v145:=zeroValue358
 t167:=underlying337
 a167:=isAgg337
 z167:=sizeOf337
 v167:=zeroValue337
 t168:=underlying341
 a168:=isAgg341
 z168:=sizeOf341
 v168:=zeroValue341
 t171:=underlying360
 a171:=isAgg360
 z171:=sizeOf360
 v171:=zeroValue360
 t173:=underlying362
 a173:=isAgg362
 z173:=sizeOf362
 v173:=zeroValue362
 t175:=underlying347
 a175:=isAgg347
 z175:=sizeOf347
 v175:=zeroValue347
 t210:=underlying350
 a210:=isAgg350
 z210:=sizeOf350
 v210:=zeroValue350
 t212:=underlying365
 a212:=isAgg365
 z212:=sizeOf365
 v212:=zeroValue365
 t213:=underlying366
 a213:=isAgg366
 z213:=sizeOf366
 t232:=underlying367
 a232:=isAgg367
 z232:=sizeOf367
 v232:=zeroValue367
 t233:=underlying368
 a233:=isAgg368
 z233:=sizeOf368
 v233:=zeroValue368
 g15:=by kernel_rfl
 g16:=by kernel_rfl
 g17:=by kernel_rfl
 g18:=by kernel_rfl
 g19:=by kernel_rfl}
def Tryz.FA:Go.Shelf.Ren:=⟨fun|219=>288|217=>314|225=>321|224=>322|267=>323|266=>336|314=>339|n=>n,fun|9=>9|3=>3|4=>4|5=>5|46=>109|146=>335|51=>147|n=>n,fun|1=>0|n=>n⟩
theorem Tryz.zci:Go.Proofs.Lays.n219 prog Tryz.FA:={
 mixed:=by kernel_rfl
 f217:=func314.trans (zD some (by kernel_rfl))
 f219:=func288.trans (zD some (by kernel_rfl))
 f224:=func322.trans (zD some (by kernel_rfl))
 f225:=func321.trans (zD some (by kernel_rfl))
 f266:=func336.trans (zD some (by kernel_rfl))
 f267:=func323.trans (zD some (by kernel_rfl))
 f314:=func339.trans (zD some (by kernel_rfl))
 t3:=underlying3
 a3:=isAgg3
 z3:=sizeOf3
 v3:=zeroValue3
 t4:=underlying4
 a4:=isAgg4
 z4:=sizeOf4
 v4:=zeroValue4
 t5:=underlying5
 a5:=isAgg5
 z5:=sizeOf5
 v5:=zeroValue5
 t9:=underlying9
 a9:=isAgg9
 z9:=sizeOf9
 v9:=zeroValue9
 t46:=underlying109
 a46:=isAgg109
 z46:=sizeOf109
 v46:=zeroValue109
 t51:=underlying147
 a51:=isAgg147
 z51:=sizeOf147
 v51:=zeroValue147
 t146:=underlying335
 a146:=isAgg335
 z146:=sizeOf335
 v146:=zeroValue335
 g1:=by kernel_rfl}
def Tryz.FB:Go.Shelf.Ren:=⟨fun|138=>272|195=>304|218=>305|143=>260|219=>288|217=>314|225=>321|224=>322|267=>323|266=>336|314=>339|n=>n,fun|9=>9|3=>3|4=>4|5=>5|0=>0|46=>109|146=>335|51=>147|n=>n,fun|1=>0|n=>n⟩
theorem Tryz.zcj:Go.Proofs.Lays.n138 prog Tryz.FB:={
 mixed:=by kernel_rfl
 f138:=func272.trans (zD some (by kernel_rfl))
 f143:=func260.trans (zD some (by kernel_rfl))
 f195:=func304.trans (zD some (by kernel_rfl))
 f217:=func314.trans (zD some (by kernel_rfl))
 f218:=func305.trans (zD some (by kernel_rfl))
 f219:=func288.trans (zD some (by kernel_rfl))
 f224:=func322.trans (zD some (by kernel_rfl))
 f225:=func321.trans (zD some (by kernel_rfl))
 f266:=func336.trans (zD some (by kernel_rfl))
 f267:=func323.trans (zD some (by kernel_rfl))
 f314:=func339.trans (zD some (by kernel_rfl))
 t0:=underlying0
 a0:=isAgg0
 z0:=sizeOf0
 v0:=zeroValue0
 t3:=underlying3
 a3:=isAgg3
 z3:=sizeOf3
 v3:=zeroValue3
 t4:=underlying4
 a4:=isAgg4
 z4:=sizeOf4
 v4:=zeroValue4
 t5:=underlying5
 a5:=isAgg5
 z5:=sizeOf5
 v5:=zeroValue5
 t9:=underlying9
 a9:=isAgg9
 z9:=sizeOf9
 v9:=zeroValue9
 t46:=underlying109
 a46:=isAgg109
 z46:=sizeOf109
 v46:=zeroValue109
 t51:=underlying147
 a51:=isAgg147
 z51:=sizeOf147
 v51:=zeroValue147
 t146:=underlying335
 a146:=isAgg335
 z146:=sizeOf335
 v146:=zeroValue335
 g1:=by kernel_rfl}
end Go.Proofs
namespace Go.Q
noncomputable def Jv (f:za→za→O) (pre:za→za→Prop):zc→Option O:=qv (α:=za×za) (fun a=>[str a.1,str a.2]) (fun a=>a.1.length≤zG∧a.2.length≤zG∧pre a.1 a.2) (fun a=>f a.1 a.2)
theorem uS:∀a b:za×za,[str a.1,str a.2]=[str b.1,str b.2]→a=b:=by rintro⟨c,d⟩ ⟨f,g⟩ e;simp only[zh,zK]at e;rw[wx e.1,wx e.2]
theorem ZM(f:za→za→O)(pre:za→za→Prop)(a b:za)(Y:Hp)(Z:Nat)(h:a.length≤zG)(c:b.length≤zG)(d:pre a b)(e:(f a b).flat=true):zi false [] (Jv f pre) [str a,str b] Y Z=some (f a b,Y,Z):=
 qe rfl (zJ (V:=fun a:List UInt8×za=>[str a.1,str a.2]) (a:=(a,b)) uS ⟨h,c,d⟩) (.inl e)
theorem xW{f:za→za→O}{pre:za→za→Prop}{args:zc}{r:O}(h:Jv f pre args=some r):∃a b,args=[str a,str b]∧a.length≤zG∧b.length≤zG∧pre a b∧r=f a b:=by obtain⟨⟨a,b⟩,rfl,⟨c,d,e⟩,rfl⟩:=zr h;exact⟨a,b,rfl,c,d,e,rfl⟩
theorem Is:On prog 0:=by refine⟨QR (by kernel_rfl),#[.int .i64 0],3,by kernel_rfl,rfl,by kernel_rfl,by kernel_rfl,by kernel_rfl⟩
def Gm(a b:za):O:=int (Lib.index a b)
def cntP(a b:za):O:=int (Lib.count a b)
theorem CH:zg prog 288 (zi false [] (Jv Gm fun _ _=>True)):=
 xL ⟨_,func288,by kernel_rfl,by kernel_rfl⟩ fun args r h=>by
  obtain⟨a,b,rfl,c,d,_,rfl⟩:=xW h;unfold zG at c d;refine⟨[.string ⟨a.toArray⟩,.string ⟨b.toArray⟩],rfl,by simp[lit],rfl,.int .i64 (Lib.index a b),fun w S=>.v rfl,fun w S f=>?_⟩;obtain⟨_,m,g⟩:=f.1 0 Is;refine(Any.stringslite_Index Tryz.zci ⟨a.toArray⟩ ⟨b.toArray⟩ m w (by simp;omega) g).mono fun e j i=>?_
  obtain⟨rfl,rfl⟩:=i;exact⟨by simp,Fr.refl _ _⟩
theorem uT:zg prog 272 (zi false [] (Jv cntP fun _ b=>1≤b.length)):=
 xL ⟨_,func272,by kernel_rfl,by kernel_rfl⟩ fun args r h=>by
  obtain⟨a,b,rfl,c,d,f,rfl⟩:=xW h;unfold zG at c d;refine⟨[.string ⟨a.toArray⟩,.string ⟨b.toArray⟩],rfl,by simp[lit],rfl,.int .i64 (Lib.count a b),fun w S=>.v rfl,fun w S g=>?_⟩;obtain⟨_,m,i⟩:=g.1 0 Is;refine(Any.strings_Count_any Tryz.zcj ⟨a.toArray⟩ ⟨b.toArray⟩ m w (by simp;omega) i (by simpa using f)).mono fun e k j=>?_
  obtain⟨rfl,rfl⟩:=j;exact⟨by simp[Lib.countB],Fr.refl _ _⟩
noncomputable abbrev Ci:Ctx:=qb prog [(288,zi false [] (Jv Gm fun _ _=>True))]
theorem zcH:AM.Good Ci (fun g=>[288].contains g):=zI mixed ⟨CH,fun _=>zt _ _,trivial⟩
theorem Kn(a b:za)(Y:Hp)(Z:Nat)(h:a.length≤zG)(c:b.length≤zG):zi false [] (Jv Gm fun _ _=>True) [str a,str b] Y Z=some (int (Lib.index a b),Y,Z):=ZM _ _ a b Y Z h c trivial rfl
theorem di:zg prog 260 (zi false [] (Jv Gm fun _ _=>True)):=
 qq (fn:=f260) zcH ⟨_,func260,by kernel_rfl,rfl,by kernel_rfl⟩ false [] _ fun args r h=>by obtain⟨a,b,rfl,c,d,_,rfl⟩:=xW h;exact⟨by simp[f260],_,zo rfl (by simp[Kn,c,d,Gm,f260]),qm _⟩
noncomputable abbrev Ci2:Ctx:=qb prog [(260,zi false [] (Jv Gm fun _ _=>True)),(272,zi false [] (Jv cntP fun _ b=>1≤b.length))]
theorem Pe:AM.Good Ci2 (fun g=>[260].contains g):=zI mixed ⟨di,fun _=>zt _ _,uT,fun _=>zt _ _,trivial⟩
def UK(a b:za):O:=wq (Lib.contains a b)
theorem mS:zg prog 262 (zi false [] (Jv UK fun _ _=>True)):=
 qq (fn:=f262) Pe ⟨_,func262,by kernel_rfl,rfl,by kernel_rfl⟩ false [] _ fun args r h=>by obtain⟨a,b,rfl,c,d,_,rfl⟩:=xW h;exact⟨by simp[f262],_,zo rfl (by simp[Kn,c,d,UK,Lib.contains,f262]),qm _⟩
def pO(a b:za):O:=.yb [str (Lib.cut a b).1,str (Lib.cut a b).2.1,wq (Lib.cut a b).2.2]
theorem Pf(a b:za)(c:a.length≤zG)(d:b.length≤zG):zz Ci f315 [str a,str b]=some (pO a b):=by
 refine zo rfl ?_;unfold zG at c d;by_cases h:0≤Lib.index a b
 ·have l:=Lib.index_room a b h;have e:Lib.cut a b=(a.take (Lib.index a b).toNat,a.drop ((Lib.index a b).toNat+b.length),true):=by unfold Lib.cut;rw[zf h]
  have f:i6.wrap (Lib.index a b+b.length)=Lib.index a b+b.length:=zn (by omega) (by omega);have g:(Lib.index a b+b.length).toNat=(Lib.index a b).toNat+b.length:=by omega
  have i:0≤Lib.index a b+b.length:=by omega
  have j:(Lib.index a b).toNat≤a.length:=by omega
  have k:(Lib.index a b).toNat+b.length≤a.length:=by omega
  simp[Kn,zG,c,d,h,f,g,i,j,k,pO,e,wH,f315];rw[qp (by simp)]
 ·have e:Lib.cut a b=(a,[],false):=by unfold Lib.cut;rw[zj h]
  simp[Kn,zG,c,d,h,pO,e,wH,f315]
theorem L8:zg prog 315 (zi false [] (Jv pO fun _ _=>True)):=
 qq (fn:=f315) zcH ⟨_,func315,by kernel_rfl,rfl,by kernel_rfl⟩ false [] _ fun args r h=>by obtain⟨a,b,rfl,c,d,_,rfl⟩:=xW h;exact⟨by simp[f315],_,Pf a b c d,qm _⟩
def UL(a b:za):O:=wq (b.isPrefixOf a)
theorem CI(a b:za):(decide (b.length≤a.length)&&(a.take b.length==b))=b.isPrefixOf a:=by
 rw[qA];simp only[zF,ql,eO,Fp];constructor
 ·rintro⟨_,h⟩;exact List.prefix_iff_eq_take.2 h.symm
 ·intro h;exact⟨h.length_le,(List.prefix_iff_eq_take.1 h).symm⟩
noncomputable abbrev Cw0:Ctx:=qb prog []
theorem zdH:AM.Good Cw0 (fun g=>([]:List Nat).contains g):=zI mixed trivial
theorem iM(a b:za):zz Cw0 f329 [str a,str b]=some (UL a b):=by
 refine zo rfl ?_;have Y:=CI a b;by_cases h:b.length≤a.length
 ·rw[xE h,yZ]at Y;simp[h,UL,←Y,f329]
 ·rw[Ze h,kM]at Y;have c:¬((b.length:Int)≤a.length):=by omega
  simp[h,c,UL,←Y,f329]
theorem fi:zg prog 329 (zi false [] (Jv UL fun _ _=>True)):=
 qq (fn:=f329) zdH ⟨_,func329,by kernel_rfl,rfl,by kernel_rfl⟩ false [] _ fun args r h=>by obtain⟨a,b,rfl,c,d,_,rfl⟩:=xW h;exact⟨by simp[f329],_,iM a b,qm _⟩
noncomputable abbrev Cw1:Ctx:=qb prog [(329,zi false [] (Jv UL fun _ _=>True)),(315,zi false [] (Jv pO fun _ _=>True))]
theorem Gn:AM.Good Cw1 (fun g=>[329].contains g):=zI mixed ⟨fi,fun _=>zt _ _,L8,fun _=>zt _ _,trivial⟩
theorem lF(a b:za)(Y:Hp)(Z:Nat)(h:a.length≤zG)(c:b.length≤zG):zi false [] (Jv UL fun _ _=>True) [str a,str b] Y Z=some (wq (b.isPrefixOf a),Y,Z):=ZM _ _ a b Y Z h c trivial rfl
theorem mT(a b:za)(Y:Hp)(Z:Nat)(h:a.length≤zG)(c:b.length≤zG):zi false [] (Jv pO fun _ _=>True) [str a,str b] Y Z=some (.yb [str (Lib.cut a b).1,str (Lib.cut a b).2.1,wq (Lib.cut a b).2.2],Y,Z):=ZM _ _ a b Y Z h c trivial rfl
theorem iN:zg prog 313 (zi false [] (Jv UL fun _ _=>True)):=
 qq (fn:=f313) Gn ⟨_,func313,by kernel_rfl,rfl,by kernel_rfl⟩ false [] _ fun args r h=>by obtain⟨a,b,rfl,c,d,_,rfl⟩:=xW h;exact⟨by simp[f313],_,zo rfl (by simp[lF,c,d,UL,f313]),qm _⟩
theorem mU:zg prog 279 (zi false [] (Jv pO fun _ _=>True)):=
 qq (fn:=f279) Gn ⟨_,func279,by kernel_rfl,rfl,by kernel_rfl⟩ false [] _ fun args r h=>by obtain⟨a,b,rfl,c,d,_,rfl⟩:=xW h;exact⟨by simp[f279],_,zo rfl (by simp[mT,c,d,pO,wH,f279]),qm _⟩
def UM(a b:za):O:=.yb [str (if b.isPrefixOf a then a.drop b.length else a),wq (b.isPrefixOf a)]
theorem iO(a b:za)(c:a.length≤zG)(d:b.length≤zG):zz Cw1 f292 [str a,str b]=some (UM a b):=by
 refine zo rfl ?_;cases h:b.isPrefixOf a
 ·simp[lF,c,d,h,UM,wH,f292]
 ·have e:=(Fp.1 h).length_le;simp[lF,c,d,h,e,UM,wH,f292];rw[qp (by simp)]
theorem fj:zg prog 292 (zi false [] (Jv UM fun _ _=>True)):=
 qq (fn:=f292) Gn ⟨_,func292,by kernel_rfl,rfl,by kernel_rfl⟩ false [] _ fun args r h=>by obtain⟨a,b,rfl,c,d,_,rfl⟩:=xW h;exact⟨by simp[f292],_,iO a b c d,qm _⟩
noncomputable abbrev Cw2:Ctx:=qb prog [(292,zi false [] (Jv UM fun _ _=>True))]
theorem zdI:AM.Good Cw2 (fun g=>([]:List Nat).contains g):=zI mixed ⟨fj,fun _=>zt _ _,trivial⟩
theorem It(a b:za)(Y:Hp)(Z:Nat)(h:a.length≤zG)(c:b.length≤zG):zi false [] (Jv UM fun _ _=>True) [str a,str b] Y Z=some (.yb [str (if b.isPrefixOf a then a.drop b.length else a),wq (b.isPrefixOf a)],Y,Z):=ZM _ _ a b Y Z h c trivial rfl
theorem iP:zg prog 265 (zi false [] (Jv UM fun _ _=>True)):=
 qq (fn:=f265) zdI ⟨_,func265,by kernel_rfl,rfl,by kernel_rfl⟩ false [] _ fun args r h=>by obtain⟨a,b,rfl,c,d,_,rfl⟩:=xW h;exact⟨by simp[f265],_,zo rfl (by simp[It,c,d,UM,wH,f265]),qm _⟩
def tlP(a b:za):O:=str (Lib.trimLeftB a (b.headD 0))
def tbP(a b:za):O:=str (Lib.trimB a (b.headD 0))
def uU(b:za):Prop:=∃c:UInt8,b=[c]∧c.toNat<128
theorem YS:zg prog 274 (zi false [] (Jv tlP fun _ b=>uU b)):=
 xL ⟨_,func274,by kernel_rfl,by kernel_rfl⟩ fun args r h=>by
  obtain⟨a,b,rfl,g,i,⟨c,rfl,d⟩,rfl⟩:=xW h;refine⟨[.string ⟨a.toArray⟩,.string ⟨#[c]⟩],rfl,by simp[lit],rfl,.string ⟨(Lib.trimLeftB a c).toArray⟩,fun w S=>.v rfl,fun w S _=>?_⟩;refine(Any.strings_TrimLeft_one Tryz.zce ⟨a.toArray⟩ c d w).mono fun e j f=>?_
  obtain⟨rfl,rfl⟩:=f;exact⟨by simp,Fr.refl _ _⟩
theorem CJ:zg prog 273 (zi false [] (Jv tbP fun _ b=>uU b)):=
 xL ⟨_,func273,by kernel_rfl,by kernel_rfl⟩ fun args r h=>by
  obtain⟨a,b,rfl,d,i,⟨c,rfl,f⟩,rfl⟩:=xW h;unfold zG at d;refine⟨[.string ⟨a.toArray⟩,.string ⟨#[c]⟩],rfl,by simp[lit],rfl,.string ⟨(Lib.trimB a c).toArray⟩,fun w S=>.v rfl,fun w S _=>?_⟩;refine(Any.strings_Trim_one Tryz.zcf ⟨a.toArray⟩ c f w (by simp;omega)).mono fun e j g=>?_
  obtain⟨rfl,rfl|rfl⟩:=g
  ·exact⟨by simp,Fr.refl _ _⟩
  ·exact⟨by simp,Fr.drew _ _⟩
noncomputable def FSB (f:za→UInt8→O):zc→Option O:=qv (α:=za×UInt8) (fun a=>[str a.1,Pb a.2]) (fun a=>a.1.length≤zG) (fun a=>f a.1 a.2)
theorem zdJ:∀a b:za×UInt8,[str a.1,Pb a.2]=[str b.1,Pb b.2]→a=b:=by
 rintro⟨g,c⟩ ⟨h,d⟩ e;simp only[zh,zK]at e;have i:=qn e.2;have f:c.toNat=d.toNat:=by omega
 rw[wx e.1,Jc.1 f]
theorem Pg(f:za→UInt8→O)(a:za)(c:UInt8)(Y:Hp)(Z:Nat)(h:a.length≤zG)(b:(f a c).flat=true):zi false [] (FSB f) [str a,Pb c] Y Z=some (f a c,Y,Z):=
 qe rfl (zJ (V:=fun a:List UInt8×UInt8=>[str a.1,Pb a.2]) (a:=(a,c)) zdJ h) (.inl b)
def ibP(a:za)(c:UInt8):O:=int (Lib.indexByte a c)
theorem iQ:zg prog 276 (zi false [] (FSB ibP)):=
 xL ⟨_,func276,by kernel_rfl,by kernel_rfl⟩ fun args r h=>by
  obtain⟨⟨a,c⟩,rfl,d,rfl⟩:=zr h;refine⟨[.string ⟨a.toArray⟩,.int .u8 c.toNat],rfl,by simp[lit],rfl,.int .i64 (Lib.indexByte a c),fun w S=>.v rfl,fun w S _=>?_⟩;refine(Any.strings_IndexByte Tryz.zcg ⟨a.toArray⟩ c.toNat w).mono fun e f b=>?_
  obtain⟨rfl,rfl⟩:=b;exact⟨by simp,Fr.refl _ _⟩
end Go.Q
