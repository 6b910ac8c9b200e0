/- Lemmas. -/
import Derived.Test.YtnbicamkimignaaGreatDoorG24
set_option maxRecDepth 100000
set_option maxHeartbeats 4000000
open Go Proofs Proofs.YtnbicamkimignaaGreatDoor Proofs.Tryz RowKit AM SpanLaw Q Zz
open Go.IntKind renaming i64→i6
namespace Go.Q
noncomputable def RR (b:Bk→Prop) (out:Bk→za→Int→O):zc→Option O:=qv (α:=Bk×za×Int) (fun a=>[.agg a.1.V,str a.2.1,int a.2.2]) (fun a=>b a.1) (fun a=>out a.1 a.2.1 a.2.2)
theorem M7(c:Bk→Prop)(out:Bk→za→Int→O)(b:Bk)(s:za)(n:Int)(Y:Hp)(Z:Nat)(h:c b):zi false [] (RR c out) [.agg b.V,str s,int n] Y Z=some (out b s n,Y,Z):=
 qe (Y1:=Y) (show zA Y [.agg b.V,str s,int n]=some ([.agg b.V,str s,int n],Y) by simp only[zA,jW];rfl) (zJ (V:=fun a:Bk×za×Int=>[.agg a.1.V,str a.2.1,int a.2.2]) (a:=(b,s,n)) (fun x y e=>by obtain⟨d,f,g⟩:=x;obtain⟨i,j,k⟩:=y;simp only[zh,zK,O.agg.injEq]at e;rw[vk e.1,wx e.2.1,qn e.2.2]) h) (.inr (by simp only[qN,xh];rfl))
noncomputable def FB4 (b:Bk→Prop) (out:Bk→za→Int→Int→O):zc→Option O:=qv (α:=Bk×za×Int×Int) (fun a=>[.agg a.1.V,str a.2.1,int a.2.2.1,int a.2.2.2]) (fun a=>b a.1) (fun a=>out a.1 a.2.1 a.2.2.1 a.2.2.2)
theorem RS(c:Bk→Prop)(out:Bk→za→Int→Int→O)(b:Bk)(s:za)(n m:Int)(Y:Hp)(Z:Nat)(h:c b):zi false [] (FB4 c out) [.agg b.V,str s,int n,int m] Y Z=some (out b s n m,Y,Z):=
 qe (Y1:=Y) (show zA Y [.agg b.V,str s,int n,int m]=some ([.agg b.V,str s,int n,int m],Y) by simp only[zA,jW];rfl) (zJ (V:=fun a:Bk×za×Int×Int=>[.agg a.1.V,str a.2.1,int a.2.2.1,int a.2.2.2]) (a:=(b,s,n,m)) (fun x y e=>by obtain⟨d,f,g,i⟩:=x;obtain⟨j,k,l,o⟩:=y;simp only[zh,zK,O.agg.injEq]at e;rw[vk e.1,wx e.2.1,qn e.2.2.1,qn e.2.2.2]) h) (.inr (by simp only[qN,xh];rfl))
noncomputable def M8 (b:Bk) (s:za) (n m:Int):O:=yX (jG b s n m)
noncomputable def M9 (b:Bk) (s:za) (n:Int):O:=yX (QY b s n)
theorem ot:zg prog 44 (qh [.a,.a,.a,.s 2 []] lh):=
 wo (fn:=f44) IY ⟨_,func44,by kernel_rfl,rfl,by kernel_rfl⟩ _ _ fun args r h=>by obtain⟨⟨b,i,n,l⟩,rfl,⟨c,x,d,e⟩,rfl⟩:=zr h;exact⟨zC (ze 4) (by decide),_,ei b i n l x c d e,.refl _⟩
theorem bM(b:Bk)(i:Nat)(at_:Int)(Y:Hp)(Z:Nat)(h:b.cb+1≤zG∧∃x,b.zE[i]?=some x∧x.zs≠[]):qh [.a,.a,.a,.s 2 []] lh [.agg b.V,int i,int at_,.nil] Y Z=some (yX (yD (b.put i at_ [])),Y,Z):=
 ju (show zA Y [.agg b.V,int i,int at_,.nil]=some ([.agg b.V,int i,int at_,.nil],Y) by simp only[zA,jW];rfl) (by
  simp only[YR,Sh.zc8,Sh.zcd];exact zJ (V:=fun a:Bk×Nat×Int×List Sp=>[.agg a.1.V,int a.2.1,int a.2.2.1,.sl 2 (a.2.2.2.map zM)]) (a:=(b,i,at_,[])) (fun x y e=>by obtain⟨k,c,l,d⟩:=x;obtain⟨m,f,n,g⟩:=y;simp only[zh,zK,O.agg.injEq,O.sl.injEq,ab]at e;have o:=qn e.2.1;have j:d=g:=jE (zD (O.sl 2) e.2.2.2);rw[vk e.1,(show c=f by omega),qn e.2.2.1,j]) ⟨by simpa using h.1,h.2⟩) (.inr (by simp only[qN,xh];rfl))
theorem AW{b:Bk}{s:za}{n:Int}{x:Xp}(h:jB b s n=0)(d:b.zE[(vd (b.zE.map Xp.name) s).1]?=some x):j7 (jq [] n x.zs)∧w7 (jq [] n x.zs)=0:=by
 obtain⟨f,g,i⟩:=YA h;have a:x∈b.zE:=zO d;obtain⟨_,c,_⟩:=Wl f;rcases lO n x.zs []with e|⟨p,Y,e⟩
 ·rw[e];exact⟨dZ,rfl⟩
 ·rw[e];exact⟨fR (jO (c x a).1 p Y),jO (c x a).1 p Y⟩
theorem Y8{n:Int}{x:Xp}(h:¬(xD n x.zs||(jq [] n x.zs).isEmpty)=true):x.zs≠[]:=by intro e;rw[e]at h;simp[jq]at h
noncomputable abbrev Cstp:Ctx:=qb prog [(42,zi false [] (nT ZH)),(44,qh [.a,.a,.a,.s 2 []] lh)]
theorem zaP:AM.Good Cstp (fun g=>([]:List Nat).contains g):=zI mixed ⟨Y7,by simp,ot,by simp,trivial⟩
theorem Na(b:Bk)(s:za)(at_:Int)(p:b.cb+1≤zG):∃m,zz Cstp f11 [.agg b.V,str s,int at_]=some m∧qM m (yX (QY b s at_)):=by
 refine yv rfl ?_;have a:=fun Y Z=>Wk ZH b s at_ Y Z (by omega)
 simp only[Bk.V]at a;by_cases d:jB b s at_=0
 case neg=>
  have e:QY b s at_=(wJ,jB b s at_):=by unfold QY;rw[zj d]
  have f:YC b s at_=(0,[],jB b s at_):=by unfold YC;rw[zj d]
  have k:(jB b s at_ != 0)=true:=by simpa using d
  rw[e];simp only[ZH,f,QL]at a;simp[Bk.V,zR,qc,a,k,f11];exact⟨_,by simp,qy _⟩
 obtain⟨v,t,w⟩:=YA d;obtain⟨q,g⟩:∃q,(vd (b.zE.map Xp.name) s).1=q:=⟨_,rfl⟩;have l:q<b.zE.length:=by have:=J2 t;rw[g]at this;simpa using this
 obtain⟨x,u⟩:∃x,b.zE[q]=x:=⟨_,rfl⟩;have c:b.zE[q]?=some x:=by rw[zu l,u]
 by_cases h:(xD at_ x.zs||(jq [] at_ x.zs).isEmpty)=true
 ·have e:QY b s at_=(wJ,11):=by unfold QY;rw[zf d,g,c];simp only;rw[zf h]
  have f:YC b s at_=(0,[],11):=by unfold YC;rw[zf d,g,c];simp only;rw[zf h]
  rw[e];simp only[ZH,f,QL]at a;simp[Bk.V,zR,qc,a,f11];exact⟨_,by simp,qy _⟩
 have f:YC b s at_=(q,jq [] at_ x.zs,0):=by unfold YC;rw[zf d,g,c];simp only;rw[zj h]
 simp only[ZH,f,QL]at a;have e:QY b s at_=yD (b.put q at_ []):=by unfold QY;rw[zf d,g,c];simp only;rw[zj h]
 have i:=fun Y Z=>bM b q at_ Y Z ⟨p,x,c,Y8 h⟩
 obtain⟨⟨B,n⟩,o⟩:∃r,yD (b.put q at_ [])=r:=⟨_,rfl⟩;have j:yX (B,n)=.yb [.agg [.sl 3 (B.zk.map wh.V),.sl 4 (B.holds.map yI.V),.sl 13 (B.zE.map Xp.V)],int n]:=rfl;simp only[o,j,Bk.V]at i;rw[e,o,j];simp[Bk.V,zR,qc,a,i,f11];exact⟨_,by simp,.refl _⟩
theorem HH:zg prog 11 (zi false [] (RR (fun b=>b.cb+1≤zG) M9)):=
 jD (fn:=f11) zaP ⟨_,func11,by kernel_rfl,rfl,by kernel_rfl⟩ false [] _ fun args r h w S vs a=>by obtain⟨⟨b,s,n⟩,rfl,c,rfl⟩:=zr h;obtain⟨d,e,f⟩:=Na b s n c;exact⟨_,d,a,zC (ze 3) (by decide),e,f⟩
theorem tM:∀{lo:Int} {l:List Sp},zlN lo l→0≤wM l:=by
 intro lo l
 induction l generalizing lo with
 |nil=>intro _;simp[wM]
 |cons s l a=>intro h;have:=a h.2.2;have:=h.2.1;simp only[wM];omega
noncomputable abbrev Cshr:Ctx:=qb prog [(42,zi false [] (nT ZH)),(16,zi false [] (F3 jg)),(19,zi false [] (FP (fun l=>int (wM l)) fun l=>j7 l)),(21,zi false [] (Mu (fun l n=>.sl 2 ((wS l n).map zM)) fun l n=>j7 l∧0≤n∧n≤100000)),(44,zi false [] lh)]
abbrev qshr:List Nat:=[16,19,21,44]
theorem zaQ:AM.Good Cshr (fun g=>qshr.contains g):=zI mixed ⟨Y7,by simp,kV,fun _=>zt _ _,ck,fun _=>zt _ _,XF,fun _=>zt _ _,bJ,fun _=>zt _ _,trivial⟩
theorem Eu(b:Bk)(s:za)(n at_:Int)(P:b.cb+100001≤zG):∃F,zz Cshr Tryz.f9 [.agg b.V,str s,int n,int at_]=some F∧qM F (yX (jG b s n at_)):=by
 refine yv rfl ?_;have a:=fun Y Z=>Wk ZH b s at_ Y Z (by omega)
 simp only[Bk.V]at a;by_cases e:jB b s at_=0
 case neg=>
  have h:jG b s n at_=(wJ,jB b s at_):=by unfold jG;rw[zj e]
  have k:YC b s at_=(0,[],jB b s at_):=by unfold YC;rw[zj e]
  have y:(jB b s at_ != 0)=true:=by simpa using e
  rw[h];simp only[ZH,k,QL]at a;simp[Bk.V,zR,qc,a,y,Tryz.f9];exact⟨_,by simp,qy _⟩
 obtain⟨Q,L,R⟩:=YA e;obtain⟨q,i⟩:∃q,(vd (b.zE.map Xp.name) s).1=q:=⟨_,rfl⟩;have z:q<b.zE.length:=by have:=J2 L;rw[i]at this;simpa using this
 obtain⟨x,M⟩:∃x,b.zE[q]=x:=⟨_,rfl⟩;have d:b.zE[q]?=some x:=by rw[zu z,M]
 obtain⟨c,m⟩:=AW (x:=x) e (by rw[i];exact d);by_cases j:(xD at_ x.zs||(jq [] at_ x.zs).isEmpty)=true
 ·have h:jG b s n at_=(wJ,11):=by unfold jG;rw[zf e,i,d];simp only;rw[zf j]
  have k:YC b s at_=(0,[],11):=by unfold YC;rw[zf e,i,d];simp only;rw[zf j]
  rw[h];simp only[ZH,k,QL]at a;simp[Bk.V,zR,qc,a,Tryz.f9];exact⟨_,by simp,qy _⟩
 have C:=Y8 j;have k:YC b s at_=(q,jq [] at_ x.zs,0):=by unfold YC;rw[zf e,i,d];simp only;rw[zj j]
 obtain⟨A,D⟩:∃A,jq [] at_ x.zs=A:=⟨_,rfl⟩;rw[D]at c m j k;simp only[ZH,k,QL]at a;have o:=fun Y Z=>Yw (fun l=>int (wM l)) (fun l=>j7 l) A Y Z c
 have N:=IG m;have G:=tM c.1;have p:i6.wrap (wM A-1)=wM A-1:=zn (by omega) (by omega);have g:=fun Y Z=>Ip jg n 1 (wM A-1) Y Z
 cases t:jg n 1 (wM A-1)
 ·have h:jG b s n at_=(wJ,1):=by unfold jG;rw[zf e,i,d];simp only;rw[D,zj j,t,zj (by simp)]
  rw[h];simp only[t]at g;simp[Bk.V,zR,qc,a,g,o,p,Tryz.f9];exact⟨_,by simp,qy _⟩
 have S:=(ZA n 1 (wM A-1)).1 t;have E:i6.wrap (wM A-n)=wM A-n:=zn (by omega) (by omega);simp only[t]at g;obtain⟨f,H⟩:∃f,wS A (wM A-n)=f:=⟨_,rfl⟩;have h:jG b s n at_=yD (b.put q at_ f):=by unfold jG;rw[zf e,i,d];simp only;rw[D,zj j,zf t,H]
 obtain⟨I,T,U⟩:=KK c (n:=wM A-n) (by omega) (by omega);have u:=fun Y Z=>ZR (fun l n=>.sl 2 ((wS l n).map zM)) (fun l n=>j7 l∧0≤n∧n≤100000) A (wM A-n) Y Z ⟨c,by omega,by omega⟩
 simp only[H]at u I;have v:=fun Y Z=>tB b q at_ f Y Z ⟨by have:=I.2.2.2;omega,x,d,C⟩
 obtain⟨⟨B,J⟩,K⟩:∃r,yD (b.put q at_ f)=r:=⟨_,rfl⟩;have w:yX (B,J)=.yb [.agg [.sl 3 (B.zk.map wh.V),.sl 4 (B.holds.map yI.V),.sl 13 (B.zE.map Xp.V)],int J]:=rfl;simp only[K,w,Bk.V]at v;rw[h,K,w];simp[Bk.V,zR,qc,a,g,o,p,E,u,v,Tryz.f9];exact⟨_,by simp,.refl _⟩
theorem AX:zg prog 9 (zi false [] (FB4 (fun b=>b.cb+100001≤zG) M8)):=
 jD (fn:=Tryz.f9) zaQ ⟨_,func9,by kernel_rfl,rfl,by kernel_rfl⟩ false [] _ fun args r h w S vs a=>by obtain⟨⟨b,s,n,m⟩,rfl,c,rfl⟩:=zr h;obtain⟨d,e,f⟩:=Eu b s n m c;exact⟨_,d,a,zC (ze 4) (by decide),e,f⟩
theorem Ev{l:List za}{s:za}(h:jJ l s=0):xn l s=l++[s]:=by unfold xn;rw[zf h]
theorem Ew(l:List za)(s:za):qd l++[[str s]]=qd (l++[s]):=by simp[qd]
theorem q6.TT{Y:Hp}{Z:Nat}{v:O}{l:List za}{s:za}{tmp:Option jz}:q6 (qZ (ZD v (qZ Y Z tmp)) (Z+1) (some ⟨9,1,true,qd (l++[s])⟩)) (Z+2) 9 1 (.own (Z+1) 0 (l.length+1)) (qd (l++[s])):=
 .inr ⟨Z+1,by omega,by simp,by simp⟩
theorem cy(y:wh):QM (some y)=.yb [.agg [str y.name,str y.qI,int y.rest],wq true]:=rfl
theorem ou:QM none=.yb [.agg [str [],str [],int 0],wq false]:=rfl
def eV(Y:Hp)(Z:Nat)(v:O):Prop:=(∀id o n,v≠.own id o n)∧∀id i j,v=.ref id i j→id<Z∧∃blk,Y id=some blk∧blk.arr=false
@[simp]theorem zhL(Y:Hp)(Z:Nat)(x:zc):eV Y Z (.yb x):=⟨(fun _ _ _ e=>by cases e),(fun _ _ _ e=>by cases e)⟩
theorem KO{Y:Hp}{Z id i j:Nat}{blk:jz}(a:id<Z)(b:Y id=some blk)(c:blk.arr=false):eV Y Z (.ref id i j):=
 ⟨(fun _ _ _ e=>by cases e),fun id' i' j' e=>by injection e with e;subst e;exact⟨a,blk,b,c⟩⟩
theorem Ex{L:List Tmp}{st:St}(b:∀s∈L,s<zB)(h:∀s∈L,eV st.Y st.Z (st.σ s)):kZ L st:=fun s hs=>⟨h s hs,fun a=>absurd (b s hs) (Fo.2 a)⟩
theorem eV.ZC{Y Y':Hp}{Z a:Nat}{v:O}(h:eV Y Z v)(g:Z≤a)(c:∀id blk,id<Z→Y id=some blk→blk.arr=false→Y' id=some blk):eV Y' a v:=
 ⟨h.1,fun id i j e=>by obtain⟨d,blk,f,b⟩:=h.2 id i j e;exact⟨by omega,blk,c id blk d f b,b⟩⟩
theorem aC{Y:Hp}{Z e s:Nat}{v:O}{xs:List zc}(a:q6 Y Z e s v xs){c d:Option jz}{id:Nat}{blk:jz}(hid:id<Z)(b:Y id=some blk)(f:blk.arr=false):qZ (ZD v (qZ Y Z c)) (Z+1) d id=some blk:=by rw[zw _ _ _ _ (by omega),yt a _ id (YY a b f),zw _ _ _ _ (by omega)];exact b
noncomputable def FLys (out:List wh→O):zc→Option O:=qv (α:=List wh) (fun l=>[.sl 3 (l.map wh.V)]) (fun l=>wg wh.cb l≤zG) out
theorem Nb(out:List wh→O)(l:List wh)(Y:Hp)(Z:Nat)(h:wg wh.cb l≤zG):zi false [] (FLys out) [.sl 3 (l.map wh.V)] Y Z=some (out l,Y,Z):=
 qe rfl (zJ (V:=fun l:List wh=>[O.sl 3 (l.map wh.V)]) (a:=l) (fun a b e=>by
  simp only[zh,zK]at e;injection e with _ e
  exact y7 (fun _ _=>Yy) e) h) (.inr rfl)
def LayI(xs:List wh)(k:Nat)(Y:Hp)(Z:Nat)(v w:O):Prop:=∃(a:za) (l:List za),v=str a∧q6 Y Z 9 1 w (qd l)∧(k=0→a=[])∧l.length≤k∧ym [] [] xs=ym a l (xs.drop k)
noncomputable abbrev Crly:Ctx:=QC prog [(137,zi false [] (FNb fun a b c=>int (ZI a b c))),(138,zi false [] (FS zlR)),(139,zi false [1] (FTS fun l v=>wq (decide (v∈l))))] 15 [6,43,46] []
theorem zaR:AM.Good Crly (fun g=>([]:List Nat).contains g):=Kl mixed ⟨XT,by simp,J7,by simp,W7,by simp,trivial⟩ (by simp[bZ])
theorem AY(xs:List wh)(h:wg wh.cb xs≤zG):zz Crly f109 [.sl 3 (xs.map wh.V)]=some (int (ym [] [] xs).1):=by
 refine zo rfl ?_;have R:=qJ xa xs;unfold zG at h;simp;refine zQ (fun k r Y Z=>r 8=.sl 3 (xs.map wh.V)∧r 9=int xs.length∧r 10=int k∧eV Y Z (r 43)∧eV Y Z (r 46)∧LayI xs k Y Z (r 4) (r 3)) xs.length
  ⟨by simp,by simp,by simp,by simp,by simp,[],[],by simp,.inl ⟨by simp,rfl⟩,by simp,by simp,by simp⟩ ?_
 rintro k r Y Z hk ⟨u,w,e,H,I,before,l,B,U,J,W,d⟩;by_cases g:k<xs.length
 ·obtain⟨x,y⟩:∃x,xs[k]=x:=⟨_,rfl⟩;have K:=yg (f:=wh.cb) (zm g);rw[y]at K;have X:x.cb=1+x.name.length+x.qI.length:=rfl;rw[zd g,y]at d;simp only[ym]at d;have hw:i6.wrap ((k:Int)+1)=(k:Int)+1:=zn (by omega) (by omega);have E:=XV x.name before (decide (k=0));have L:ZI x.name before (decide (k=0))=kb x.name before:=by
   rw[E];by_cases S:k=0
   ·rw[J S];simp
   ·simp[S]
  have m:=fun Y Z=>oh (fun a b c=>int (ZI a b c)) x.name before (decide (k=0)) Y Z (by unfold zG;omega) rfl
  simp only[L]at m;have o:((k:Int)==0)=decide (k=0):=by rw[qA];simp
  have p:x.qI.length≤zG:=by unfold zG;omega
  have q:=U.more (some ⟨61,3,false,[x.V]⟩);have n:=IZ (fun l v=>wq (decide (v∈l))) (v:=x.qI) q (by unfold zG;omega) rfl;have C:=q6.yx (P:=prog) (t:=69) (c:=[str x.qI]) q L2 sz9 by9 ze9 rfl (by omega) (by rw[Jy];unfold maxLen;omega) (by rw[Jy];omega);rw[Ew]at C;simp only[wh.V]at n C;by_cases z:kb x.name before=0
  case neg=>
   rw[zj z]at d;have M:(kb x.name before != 0)=true:=by simpa using z
   simp[B,u,w,e,g,y,wh.V,o,m,M,d,f109]
  rw[zf z]at d;cases A:zlR x.qI
  ·have D:jJ l x.qI=3:=by simp[jJ,A]
   rw[D]at d;simp at d;simp[B,u,w,e,g,y,wh.V,o,m,z,p,A,d,f109]
  by_cases G:x.qI∈l
  ·have D:jJ l x.qI=7:=by simp[jJ,A,G]
   rw[D]at d;simp at d;rw[xE G]at n;simp[B,u,w,e,g,y,wh.V,o,m,z,p,A,n,d,f109]
  have D:jJ l x.qI=0:=by simp[jJ,A,G]
  rw[zf D,Ev D]at d;rw[Ze G]at n;by_cases N:x.rest<0
  ·have F:jg x.rest 0 100000000=false:=by simp[jg];omega
   rw[F,zj (by simp)]at d;simp[B,u,w,e,g,y,wh.V,o,m,z,p,A,n,N,d,f109]
  by_cases T:100000000<x.rest
  ·have F:jg x.rest 0 100000000=false:=by simp[jg];omega
   rw[F,zj (by simp)]at d;simp[B,u,w,e,g,y,wh.V,o,m,z,p,A,n,N,T,d,f109]
  have F:jg x.rest 0 100000000=true:=by simp[jg];omega
  rw[F,zf rfl]at d;simp[B,u,w,e,g,y,wh.V,o,m,z,p,A,n,N,T];rw[ZZ (Ex (by decide) (by
   intro s hs;simp at hs;rcases hs with rfl|rfl|rfl
   ·exact KO (id:=Z) (i:=0) (j:=0) (by simp) (by simp;rfl) rfl
   ·simp;exact H.ZC (by omega) fun id blk hid Q _=>by rw[zw _ _ _ _ (by omega)];exact Q
   ·simp;exact I.ZC (by omega) fun id blk hid Q _=>by rw[zw _ _ _ _ (by omega)];exact Q))]
  simp[B,u,w,e,hw,C,zv,zN,zy];exact⟨by omega,KO (by omega) (aC q (by omega) (by simp;rfl) rfl) rfl,KO (by omega) (aC q (by omega) (by simp;rfl) rfl) rfl,x.name,l++[x.qI],rfl,q6.TT,by simp,by simp;omega,d⟩
 ·obtain rfl:k=xs.length:=by omega
  rw[zl]at d;simp only[ym]at d;simp[u,w,e,d,f109]
theorem ry:zg prog 109 (zi false [] (FLys fun l=>int (ym [] [] l).1)):=
 qq (fn:=f109) zaR ⟨_,func109,by kernel_rfl,rfl,by kernel_rfl⟩ false [] _ fun args r h=>by obtain⟨l,rfl,a,rfl⟩:=zr h;exact⟨by simp[f109],_,AY l a,qm _⟩
def kx(b:Bk)(n:Nat):List za:=b.zk.map wh.qI++(b.holds.map yI.qI++(b.zE.take n).map Xp.qI)
noncomputable def FBn (out:Bk→Nat→O):zc→Option O:=qv (α:=Bk×Nat) (fun a=>[.agg a.1.V,int a.2]) (fun a=>a.1.cb≤zG∧a.2≤a.1.zE.length) (fun a=>out a.1 a.2)
theorem RT(out:Bk→Nat→O)(b:Bk)(n:Nat)(Y:Hp)(Z:Nat)(h:b.cb≤zG∧n≤b.zE.length):zi false [] (FBn out) [.agg b.V,int n] Y Z=some (out b n,Y,Z):=
 qe (Y1:=Y) (show zA Y [.agg b.V,int n]=some ([.agg b.V,int n],Y) by simp only[zA,jW];rfl) (zJ (V:=fun a:Bk×Nat=>[.agg a.1.V,int a.2]) (a:=(b,n)) (fun x y e=>by obtain⟨f,c⟩:=x;obtain⟨g,d⟩:=y;simp only[zh,zK,O.agg.injEq]at e;have:=qn e.2;rw[vk e.1,show c=d by omega]) h) (.inr (by simp only[qN,xh];rfl))
theorem RU(l:List za):(qd l).map (Z4 [none])=qd l:=by simp[qd]
theorem Ey(b:Bk)(n:Nat)(F:b.cb≤zG)(M:n≤b.zE.length):∃K,zz C0 f143 [.agg b.V,int n]=some K∧qM K (.sl 1 (qd (kx b n))):=by
 refine QD (sh:=.s 1 [none]) rfl ?_;have T:=qJ xa b.zk;have U:=qJ JF b.holds;have W:=qJ ZG b.zE;have N:b.cb=wg wh.cb b.zk+wg yI.cb b.holds+wg Xp.cb b.zE:=rfl;unfold zG at F;have z:=fun Y=>slX Y b.zE n M
 simp[Bk.V];refine zQ (fun k a Y Z=>a 1=int n∧a 2=.ref 0 0 0∧a 13=.sl 3 (b.zk.map wh.V)∧a 14=int b.zk.length∧a 15=int k∧1≤Z∧Y 0=some ⟨26,3,false,[b.V]⟩∧(∀m,a 5≠.own 0 0 m)∧q6 Y Z 9 1 (a 5) (qd ((b.zk.map wh.qI).take k))) b.zk.length
  ⟨by simp,by simp,by simp,by simp,by simp,by simp,by simp[Bk.V],by simp,.inl ⟨by simp,rfl⟩⟩ ?_
 rintro k a Y Z E ⟨r,u,d,e,f,q,p,l,g⟩;have Q:¬0=Z:=by omega
 by_cases h:k<b.zk.length
 ·obtain⟨x,v⟩:∃x,b.zk[k]=x:=⟨_,rfl⟩;have C:i6.wrap ((k:Int)+1)=(k:Int)+1:=zn (by omega) (by omega);have w:qd ((b.zk.map wh.qI).take (k+1))=qd ((b.zk.map wh.qI).take k)++[[str x.qI]]:=by rw[qx (by simpa using h),List.getElem_map,v];simp[qd]
  obtain⟨ys,i⟩:∃ys,qd ((b.zk.map wh.qI).take k)=ys:=⟨_,rfl⟩;have D:ys.length≤2097152:=by rw[←i];simp;omega
  rw[i]at g w;have o:=g.more (some ⟨61,3,false,[x.V]⟩);have j:=q6.yx (P:=prog) (t:=69) (c:=[str x.qI]) o L2 sz9 by9 ze9 rfl (by omega) (by unfold maxLen;omega) (by omega);have A:=fun Y'=>yt g Y' 0 l
  simp only[wh.V]at j;simp[r,u,d,e,f,h,v,wh.V,j,C,zv,zN,zy];exact⟨by omega,by simp[A,show¬0=Z by omega,p],by rw[w];simpa using q6.after⟩
 obtain rfl:k=b.zk.length:=by omega
 rw[qp (by simp)]at g;simp only[Bk.V]at p;simp[r,u,d,e,f,p];refine zQ (fun k a Y Z=>a 1=int n∧a 2=.ref 0 0 0∧a 26=.sl 4 (b.holds.map yI.V)∧a 27=int b.holds.length∧a 28=int k∧1≤Z∧Y 0=some ⟨26,3,false,[b.V]⟩∧(∀m,a 5≠.own 0 0 m)∧q6 Y Z 9 1 (a 5) (qd (b.zk.map wh.qI++(b.holds.map yI.qI).take k))) b.holds.length
  ⟨by simp[r],by simp[u],by simp,by simp,by simp,q,p,by simpa using l,by simpa using g⟩ ?_
 clear r u d e f q p l g E h Q a Y Z;rintro k a Y Z E ⟨r,u,d,e,f,q,p,l,g⟩;by_cases h:k<b.holds.length
 ·obtain⟨x,v⟩:∃x,b.holds[k]=x:=⟨_,rfl⟩;have C:i6.wrap ((k:Int)+1)=(k:Int)+1:=zn (by omega) (by omega);have w:qd (b.zk.map wh.qI++(b.holds.map yI.qI).take (k+1))=qd (b.zk.map wh.qI++(b.holds.map yI.qI).take k)++[[str x.qI]]:=by rw[qx (by simpa using h),List.getElem_map,v];simp[qd]
  obtain⟨ys,i⟩:∃ys,qd (b.zk.map wh.qI++(b.holds.map yI.qI).take k)=ys:=⟨_,rfl⟩;have D:ys.length≤2097152:=by rw[←i];simp;omega
  rw[i]at g w;have o:=g.more (some ⟨71,4,false,[x.V]⟩);have j:=q6.yx (P:=prog) (t:=69) (c:=[str x.qI]) o L2 sz9 by9 ze9 rfl (by omega) (by unfold maxLen;omega) (by omega);have A:=fun Y'=>yt g Y' 0 l
  simp only[yI.V]at j;simp[r,u,d,e,f,h,v,yI.V,j,C,zv,zN,zy];exact⟨by omega,by simp[A,show¬0=Z by omega,p],by rw[w];simpa using q6.after⟩
 obtain rfl:k=b.holds.length:=by omega
 rw[qp (by simp)]at g;simp only[Bk.V]at p;simp[r,u,d,e,f,p,z];have R:((b.zE.take n).map Xp.V).length=n:=by simp;omega
 have G:min n b.zE.length=n:=by omega
 simp[G];refine zQ (fun k a Y Z=>a 41=.sl 13 ((b.zE.take n).map Xp.V)∧a 42=int n∧a 43=int k∧q6 Y Z 9 1 (a 5) (qd (b.zk.map wh.qI++(b.holds.map yI.qI++((b.zE.take n).map Xp.qI).take k)))) n
  ⟨by simp,by simp,by simp,by simpa using g⟩ ?_
 clear r u d e f q p l g E h a Y Z;obtain⟨es,B⟩:∃es,b.zE.take n=es:=⟨_,rfl⟩;have L:es.length=n:=by rw[←B];simp;omega
 rw[B];rintro k a Y Z E ⟨d,e,f,g⟩;by_cases h:k<n
 ·have y:k<es.length:=by omega
  obtain⟨x,v⟩:∃x,es[k]=x:=⟨_,rfl⟩;have C:i6.wrap ((k:Int)+1)=(k:Int)+1:=zn (by omega) (by omega);have w:qd (b.zk.map wh.qI++(b.holds.map yI.qI++(es.map Xp.qI).take (k+1)))=qd (b.zk.map wh.qI++(b.holds.map yI.qI++(es.map Xp.qI).take k))++[[str x.qI]]:=by rw[qx (by simpa using y),List.getElem_map,v];simp[qd]
  obtain⟨ys,i⟩:∃ys,qd (b.zk.map wh.qI++(b.holds.map yI.qI++(es.map Xp.qI).take k))=ys:=⟨_,rfl⟩;have D:ys.length≤2097152:=by rw[←i];simp;omega
  rw[i]at g w;have o:=g.more (some ⟨34,13,false,[x.V]⟩);have j:=q6.yx (P:=prog) (t:=69) (c:=[str x.qI]) o L2 sz9 by9 ze9 rfl (by omega) (by unfold maxLen;omega) (by omega);simp only[zZ]at j;simp[d,e,f,h,y,v,zZ,j,C,zv,zN,zy];exact⟨by omega,by rw[w];simpa using q6.after⟩
 obtain rfl:k=n:=by omega
 rw[qp (by simp;omega)]at g;have z:kx b k=b.zk.map wh.qI++(b.holds.map yI.qI++es.map Xp.qI):=by unfold kx;rw[B]
 rw[←z]at g;have H:=RU (kx b k);rcases g with⟨I,S⟩|⟨id,hid,I,F⟩
 ·simp[d,e,f,I,Xr,S,f143]
 ·have J:(qd (kx b k)).take (kx b k).length=qd (kx b k):=qp (by simp);simp[d,e,f,I,F,J,H,Xr,f143]
theorem AZ:zg prog 143 (zi false [] (FBn fun b n=>.sl 1 (qd (kx b n)))):=
 jD (fn:=f143) w8 ⟨_,func143,by kernel_rfl,rfl,by kernel_rfl⟩ false [] _ fun args r h w S vs a=>by obtain⟨⟨b,n⟩,rfl,⟨c,d⟩,rfl⟩:=zr h;obtain⟨e,f,g⟩:=Ey b n c d;exact⟨_,e,a,by simp[f143],f,g⟩
noncomputable def FBu (out:Bk→O):zc→Option O:=qv (α:=Bk) (fun b=>[.agg b.V]) (fun b=>b.cb≤zG∧DL (b.zk.map wh.name)) out
theorem RV(out:Bk→O)(b:Bk)(Y:Hp)(Z:Nat)(h:b.cb≤zG)(c:DL (b.zk.map wh.name)):zi false [] (FBu out) [.agg b.V] Y Z=some (out b,Y,Z):=
 qe (Y1:=Y) (show zA Y [.agg b.V]=some ([.agg b.V],Y) by simp only[zA,jW]) (zJ (V:=fun b:Bk=>[.agg b.V]) (a:=b) (fun a b e=>by simp only[zh,zK,O.agg.injEq]at e;exact vk e) ⟨h,c⟩) (.inr (by simp only[qN,xh];rfl))
def HolI(b:Bk)(k:Nat)(Y:Hp)(Z:Nat)(v w:O):Prop:=∃(a:za) (l:List za),v=str a∧q6 Y Z 9 1 w (qd l)∧(k=0→a=[])∧l.length≤b.zk.length+k∧jA b.zk [] (b.zk.map wh.qI) b.holds=jA b.zk a l (b.holds.drop k)
noncomputable abbrev Crho:Ctx:=QC prog [(137,zi false [] (FNb fun a b c=>int (ZI a b c))),(138,zi false [] (FS zlR)),(139,zi false [1] (FTS fun l v=>wq (decide (v∈l)))),(28,zi false [] (M1 fun b s=>QM (jS s b.zk)))] 31 [8,97,100] []
theorem zaS:AM.Good Crho (fun g=>([]:List Nat).contains g):=Kl mixed ⟨XT,by simp,J7,by simp,W7,by simp,QN,by simp,trivial⟩ (by simp[bZ])
theorem Ez{L:List wh}{l:List za}{k:Nat}(h:k<l.length):xS L (Qi l k) (l.drop k)=if(vd (L.map wh.name) l[k]).2=true then(if leP (Qi l k) l[k]=true then 8 else xS L (Qi l (k+1)) (l.drop (k+1)))else 9:=by
 rw[zd h,xS];have:Qi l (k+1)=some l[k]:=by simp[Qi,h]
 rw[this]
theorem EA(b:Bk)(hb:b.cb≤zG)(hu:DL (b.zk.map wh.name)):zz Crho f110 [.agg b.V]=some (int (jA b.zk [] (b.zk.map wh.qI) b.holds).1):=by
 refine zo rfl ?_;have hL:=qJ xa b.zk;have hH:=qJ JF b.holds;have Om:b.cb=wg wh.cb b.zk+wg yI.cb b.holds+wg Xp.cb b.zE:=rfl;have TI:=fun s Y Z=>XU (fun b s=>QM (jS s b.zk)) b s Y Z hb
 simp only[Bk.V]at TI;unfold zG at hb;simp[Bk.V];refine zQ (fun k d Y Z=>d 1=.ref 0 0 0∧d 15=.sl 3 (b.zk.map wh.V)∧d 16=int b.zk.length∧d 17=int k∧1≤Z∧Y 0=some ⟨26,3,false,[b.V]⟩∧d 97=.yb []∧d 100=.yb []∧q6 Y Z 9 1 (d 3) (qd ((b.zk.map wh.qI).take k))) b.zk.length
  ⟨by simp,by simp,by simp,by simp,by simp,by simp[Bk.V],by simp,by simp,.inl ⟨by simp,rfl⟩⟩ ?_
 rintro k d Y Z hk ⟨C,h15,h16,h17,hnx,M,h97,Q,G⟩;by_cases r:k<b.zk.length
 ·obtain⟨x,N⟩:∃x,b.zk[k]=x:=⟨_,rfl⟩;have hw:i6.wrap ((k:Int)+1)=(k:Int)+1:=zn (by omega) (by omega);have hE:qd ((b.zk.map wh.qI).take (k+1))=qd ((b.zk.map wh.qI).take k)++[[str x.qI]]:=by rw[qx (by simpa using r),List.getElem_map,N];simp[qd]
  obtain⟨ys,hys⟩:∃ys,qd ((b.zk.map wh.qI).take k)=ys:=⟨_,rfl⟩;have hyl:ys.length≤2097152:=by rw[←hys];simp;omega
  rw[hys]at G hE;have K:=G.more (some ⟨61,3,false,[x.V]⟩);have R:=q6.yx (P:=prog) (t:=69) (c:=[str x.qI]) K L2 sz9 by9 ze9 rfl (by omega) (by unfold maxLen;omega) (by omega);simp only[wh.V]at R;simp[C,h15,h16,h17,h97,Q,r,N,wh.V,R,hw,zv,zN,zy];have A:=fun Y'=>yt G Y' 0 (YY G M rfl)
  exact⟨by omega,by simp[A,show¬0=Z by omega,M],by rw[hE];simpa using q6.after⟩
 obtain rfl:k=b.zk.length:=by omega
 rw[qp (by simp)]at G;have E:=M;simp only[Bk.V]at E;simp[C,h15,h16,h17,E];refine zQ (fun k d Y Z=>d 1=.ref 0 0 0∧d 28=.sl 4 (b.holds.map yI.V)∧d 29=int b.holds.length∧d 30=int k∧1≤Z∧Y 0=some ⟨26,3,false,[b.V]⟩∧eV Y Z (d 97)∧eV Y Z (d 100)∧HolI b k Y Z (d 6) (d 3)) b.holds.length
  ⟨by simp[C],by simp,by simp,by simp,hnx,M,by simp[h97],by simp[Q],[],b.zk.map wh.qI,by simp,by simpa using G,by simp,by simp,by simp⟩ ?_
 clear C h15 h16 h17 hnx M E h97 Q G hk r d Y Z;rintro k d Y Z hk ⟨C,g,m,n,hnx,M,S,H,before,l,h6,G,hb0,hlk,o⟩;by_cases r:k<b.holds.length
 ·obtain⟨x,N⟩:∃x,b.holds[k]=x:=⟨_,rfl⟩;have Oj:=yg (f:=yI.cb) (zm r);rw[N]at Oj;have Tn:x.cb=1+x.name.length+x.qI.length+wg (fun s=>1+s.length) x.zk:=rfl;have Tv:=qJ (f:=fun s:List UInt8=>1+s.length) (fun s=>by omega) x.zk;rw[zd r,N]at o;simp only[jA]at o;have hw:i6.wrap ((k:Int)+1)=(k:Int)+1:=zn (by omega) (by omega);have hnf:ZI x.name before (decide (k=0))=kb x.name before:=by
   rw[XV];by_cases k0:k=0
   ·rw[hb0 k0];simp
   ·simp[k0]
  have F:=fun Y Z=>oh (fun a b c=>int (ZI a b c)) x.name before (decide (k=0)) Y Z (by unfold zG;omega) rfl
  simp only[hnf]at F;have A:((k:Int)==0)=decide (k=0):=by rw[qA];simp
  have L:x.qI.length≤zG:=by unfold zG;omega
  have K:=G.more (some ⟨71,4,false,[x.V]⟩);have w:=IZ (fun l v=>wq (decide (v∈l))) (v:=x.qI) K (by unfold zG;omega) rfl;simp only[yI.V]at w;have n0:¬0=Z:=by omega
  by_cases c1:kb x.name before=0
  case neg=>
   rw[zj c1]at o;have H9:(kb x.name before != 0)=true:=by simpa using c1
   simp[C,h6,g,m,n,r,N,yI.V,A,F,H9,o,f110]
  rw[zf c1]at o;cases s1:zlR x.qI
  ·have c2:jJ l x.qI=3:=by simp[jJ,s1]
   rw[c2]at o;simp at o;simp[C,h6,g,m,n,r,N,yI.V,A,F,c1,L,s1,o,f110]
  by_cases s2:x.qI∈l
  ·have c2:jJ l x.qI=7:=by simp[jJ,s1,s2]
   rw[c2]at o;simp at o;rw[xE s2]at w;simp[C,h6,g,m,n,r,N,yI.V,A,F,c1,L,s1,w,o,f110]
  have c2:jJ l x.qI=0:=by simp[jJ,s1,s2]
  rw[zf c2,Ev c2]at o;rw[Ze s2]at w;have B:dV b.zk x=if jg x.buckets 1 100000=true then(if x.zk.length=0 then 9 else xS b.zk none x.zk)else 1:=rfl
  by_cases r1:x.buckets<1
  ·have c3:jg x.buckets 1 100000=false:=by simp[jg];omega
   rw[c3,zj (by simp)]at B;rw[B]at o;simp at o;simp[C,h6,g,m,n,r,N,yI.V,A,F,c1,L,s1,w,r1,o,f110]
  by_cases r2:100000<x.buckets
  ·have c3:jg x.buckets 1 100000=false:=by simp[jg];omega
   rw[c3,zj (by simp)]at B;rw[B]at o;simp at o;simp[C,h6,g,m,n,r,N,yI.V,A,F,c1,L,s1,w,r1,r2,o,f110]
  have c3:jg x.buckets 1 100000=true:=by simp[jg];omega
  rw[c3,zf rfl]at B;by_cases z:x.zk.length=0
  ·rw[zf z]at B;rw[B]at o;simp at o;have z':x.zk=[]:=qo.1 z;rw[z']at w;simp only[CN]at w;simp[C,h6,g,m,n,r,N,yI.V,A,F,c1,L,s1,w,r1,r2,z',o,f110]
  rw[zj z]at B;have z':((x.zk.length:Int)==0)=false:=by rw[q7];omega
  have z2:x.zk≠[]:=fun e=>z (by rw[e];rfl)
  obtain⟨P,hP⟩:∃P,Z=P:=⟨_,rfl⟩;obtain⟨v,T⟩:∃v,d 3=v:=⟨_,rfl⟩;rw[T]at G K w;simp[C,h6,g,m,n,T,r,N,yI.V,A,F,c1,L,s1,w,r1,r2,z',z2];have hP0:1≤P:=by omega
  rw[hP]at K⊢;refine zQ (fun j d Y Z=>d 1=.ref 0 0 0∧d 28=.sl 4 (b.holds.map yI.V)∧d 29=int b.holds.length∧d 30=int k∧d 3=v∧d 8=.ref P 0 0∧d 69=.sl 1 (qd x.zk)∧d 70=int x.zk.length∧d 71=int j∧P<Z∧Y 0=some ⟨26,3,false,[b.V]⟩∧Y P=some ⟨71,4,false,[x.V]⟩∧eV Y Z (d 97)∧eV Y Z (d 100)∧q6 Y Z 9 1 v (qd l)∧xS b.zk none x.zk=xS b.zk (Qi x.zk j) (x.zk.drop j)) x.zk.length
   ⟨by simp[C],by simp[g],by simp[m],by simp[n],by simp[T],by simp,by simp,by simp,by simp,(by show P<P+1;omega),by simp[show¬0=P by omega,M],by simp[yI.V],by simpa using(hP ▸ S).ZC (by omega) fun id blk hid hb _=>by rw[zw _ _ _ _ (by omega)];exact hb,by simpa using(hP ▸ H).ZC (by omega) fun id blk hid hb _=>by rw[zw _ _ _ _ (by omega)];exact hb,by simpa[yI.V]using K,by simp[Qi]⟩ ?_
  clear C h6 g m n T G K w hP S H M n0 F hnx d Y Z;rintro j d Y Z hj ⟨C,g,m,n,T,h8,U,W,X,hPn,M,bP,S,H,G,p⟩;have n0:¬0=Z:=by omega
  have nP:¬P=Z:=by omega
  by_cases I:j<x.zk.length
  ·obtain⟨s,hs⟩:∃s,x.zk[j]=s:=⟨_,rfl⟩;have hke:∀h:j<(qd x.zk).length,(qd x.zk)[j]=[str s]:=fun h=>by simp[qd,hs]
   have hwj:i6.wrap ((j:Int)+1)=(j:Int)+1:=zn (by omega) (by omega);rw[Ez I,hs]at p;have D:=fun Y Z=>TI s Y Z
   have E:=M;have J:=bP;simp only[Bk.V]at E;simp only[yI.V]at J;rcases ej hu s with⟨f1,q,hq,_,f2⟩|⟨f1,f2⟩
   ·rw[f1,zf rfl]at p;obtain⟨y,hy⟩:∃y,b.zk[q]=y:=⟨_,rfl⟩;rw[hy]at f2;simp only[f2,cy]at D;have hfin:∀t2,xS b.zk none x.zk=xS b.zk (Qi x.zk (j+1)) (x.zk.drop (j+1))→(eV (qZ Y Z t2) (Z+1) (d 97)∧eV (qZ Y Z t2) (Z+1) (d 100)∧q6 (qZ Y Z t2) (Z+1) 9 1 v (qd l)∧xS b.zk none x.zk=xS b.zk (Qi x.zk (j+1)) (x.zk.drop (j+1))):=fun t2 h=>
     ⟨S.ZC (by omega) fun id blk hid hb _=>by rw[zw _ _ _ _ (by omega)];exact hb,H.ZC (by omega) fun id blk hid hb _=>by rw[zw _ _ _ _ (by omega)];exact hb,G.more _,h⟩
    by_cases j0:j=0
    ·subst j0;have Y0:leP (Qi x.zk 0) s=false:=rfl;rw[Y0,zj (by simp)]at p;have zl6:=fun t2=>hfin t2 p
     simp only[wD,List.drop_one]at zl6;simp[C,g,m,n,T,h8,U,W,X,I,hke,E,J,n0,nP,D,hwj];exact⟨by omega,by omega,rfl,rfl,zl6 _⟩
    ·obtain⟨i,rfl⟩:∃i,j=i+1:=⟨j-1,by omega⟩;have hi:i<x.zk.length:=by omega
     obtain⟨u,hu'⟩:∃u,x.zk[i]=u:=⟨_,rfl⟩;have hki:∀h:i<(qd x.zk).length,(qd x.zk)[i]=[str u]:=fun h=>by simp[qd,hu']
     have wj:i6.wrap ((i:Int)+1-1)=(i:Int):=by rw[zn (by omega) (by omega)];omega
     have wj':i6.wrap (i:Int)=(i:Int):=zn (by omega) (by omega);have j1:((i:Int)+1).toNat=i+1:=by omega
     have j2:0<(i:Int)+1:=by omega
     have j3:0≤(i:Int)+1:=by omega
     have j4:(i:Int)+1<x.zk.length:=by omega
     have wk:i6.wrap ((i:Int)+1+1)=(i:Int)+1+1:=zn (by omega) (by omega);have hpl:leP (Qi x.zk (i+1)) s=fg s u:=by simp[Qi,hi,hu',leP]
     have hle:(Op.bytesLess s u||s==u)=fg s u:=rfl;rw[hpl]at p;cases hc:fg s u
     ·rw[hc,zj (by simp)]at p;rw[hc]at hle;simp[C,g,m,n,T,h8,U,W,X,I,hi,hke,hki,E,J,n0,nP,D,wk,wj,wj',j1,j2,j3,j4,hle];exact⟨by omega,by omega,rfl,rfl,hfin _ p⟩
     ·rw[hc,zf rfl]at p;rw[hc]at hle;rw[B,p]at o;simp at o;simp[C,g,m,n,T,h8,U,W,X,I,hi,hke,hki,E,J,n0,nP,D,hwj,wj,wj',j1,j2,j3,j4,hle,o,f110]
   ·rw[f1,zj (by simp)]at p;rw[B,p]at o;simp at o;simp only[f2,ou]at D;simp[C,g,m,n,T,h8,U,W,X,I,hke,E,J,n0,nP,D,o,f110]
  ·obtain rfl:j=x.zk.length:=by omega
   rw[zl]at p;simp only[xS]at p;rw[B,p,zf rfl]at o;have R:=q6.yx (P:=prog) (t:=69) (c:=[str x.qI]) G L2 sz9 by9 ze9 rfl (by omega) (by rw[Jy];unfold maxLen;omega) (by rw[Jy];omega);rw[Ew]at R;have J:=bP;simp only[yI.V]at J;simp[C,g,m,n,T,h8,U,W,X];rw[ZZ (Ex (by decide) (by
    intro s hs;simp at hs;rcases hs with rfl|rfl|rfl
    ·simp only[qY _ _ _ _ (show(8:Nat)≠72 by decide),h8];exact KO (by omega) bP rfl
    ·simp;exact S
    ·simp;exact H))]
   simp[C,g,m,n,T,h8,hw,J,n0,nP,R,zv,zN,zy];have A:=fun Y'=>yt G Y' 0 (YY G M rfl)
   exact⟨by omega,by simp[A,n0,M],KO (by omega) (aC G (by omega) bP rfl) rfl,KO (by omega) (aC G (by omega) bP rfl) rfl,x.name,l++[x.qI],rfl,q6.TT,by simp,by simp;omega,o⟩
 ·obtain rfl:k=b.holds.length:=by omega
  rw[zl]at o;simp only[jA]at o;simp[C,g,m,n,o,f110]
theorem A0:zg prog 110 (zi false [] (FBu fun b=>int (jA b.zk [] (b.zk.map wh.qI) b.holds).1)):=
 qq (fn:=f110) zaS ⟨_,func110,by kernel_rfl,rfl,by kernel_rfl⟩ false [] _ fun args r h=>by obtain⟨b,rfl,⟨a,c⟩,rfl⟩:=zr h;exact⟨by simp[f110],_,EA b a c,qm _⟩
def ov(l:List wc)(k:Nat):Option wc:=if k=0 then none else l[k-1]?
abbrev qrph:List Nat:=[118]
noncomputable abbrev Crph:Ctx:=qb prog [(30,zi false [] (fK vT)),(175,zi false [] (FP (fun l=>int (w7 l)) fun _=>True)),(118,zi false [] (lT (fun a b=>wq (decide (a=b))) fun a _=>a.length≤zG))]
theorem zaT:AM.Good Crph (fun g=>qrph.contains g):=zI mixed ⟨J6,by simp,dP,by simp,dS,fun _=>zt _ _,trivial⟩
theorem A1(l:List wc)(h:wg wc.cb l≤zG):zz Crph f145 [.sl 2 (l.map wc.V)]=some (int (je l)):=by
 have P:=qJ vG l;unfold zG at h;refine zo rfl ?_;rw[←AR];by_cases r:(50:Int)<l.length
 ·have J:KN l=2:=by unfold KN;rw[zf r]
  simp[r,J,f145]
 have J:KN l=AQ none l:=by unfold KN;rw[zj r]
 rw[J];simp[r];refine zQ (fun k C Y Z=>C 0=.sl 2 (l.map wc.V)∧C 9=.sl 2 (l.map wc.V)∧C 10=int l.length∧C 11=int k∧AQ none l=AQ (ov l k) (l.drop k)) l.length
  ⟨by simp,by simp,by simp,by simp,by simp[ov]⟩ ?_
 rintro k C Y Z hk ⟨s,t,g,i,c⟩;by_cases d:k<l.length
 ·have R:=yg (f:=wc.cb) (zm d);obtain⟨x,p⟩:∃x,l[k]=x:=⟨_,rfl⟩;have K:ov l (k+1)=some x:=by simp[ov,d,p]
  rw[p]at R;have S:x.cb=1+x.qS.length:=rfl;rw[zd d,p]at c;simp only[AQ]at c;rw[←K]at c;have m:=fun Y Z=>Yw (fun l=>int (w7 l)) (fun _=>True) x.qS Y Z trivial
  have T:i6.wrap ((k:Int)+1)=(k:Int)+1:=zn (by omega) (by omega);cases q:vT x.at_
  ·rw[q,zj (by simp)]at c;simp[s,t,g,i,d,p,wc.V,q,c,f145]
  rw[q,zf rfl]at c;by_cases U:k=0
  ·subst U;have Y0:ov l 0=none:=rfl;rw[Y0]at c;simp only[zU,wK]at c;by_cases n:w7 x.qS=0
   ·rw[zf n]at c;cases w:x.qS.isEmpty
    ·rw[w,zj (by simp)]at c;have L:((x.qS.length:Int)==0)=false:=by rw[q7];intro e;have:x.qS=[]:=qo.1 (by omega);rw[this]at w;cases w
     have u:x.qS≠[]:=fun e=>by rw[e]at w;cases w
     simp[s,t,g,i,d,p,wc.V,q,m,n,L,u,T];exact⟨by omega,by simpa using c⟩
    ·rw[w,zf rfl]at c;have u:x.qS=[]:=by simpa using w
     rw[u]at m n;simp only[kp]at m;simp[s,t,g,i,d,p,wc.V,q,m,n,u,c,f145]
   ·rw[zj n]at c;have z:(w7 x.qS != 0)=true:=by simpa using n
    simp[s,t,g,i,d,p,wc.V,q,m,n,z,c,f145]
  ·obtain⟨j,rfl⟩:∃j,k=j+1:=⟨k-1,by omega⟩;have A:j<l.length:=by omega
   obtain⟨y,B⟩:∃y,l[j]=y:=⟨_,rfl⟩;have M:=yg (f:=wc.cb) (zm A);rw[B]at M;have W:y.cb=1+y.qS.length:=rfl;have D:i6.wrap ((j:Int)+1-1)=(j:Int):=by rw[zn (by omega) (by omega)];omega
   have v:i6.wrap (j:Int)=(j:Int):=zn (by omega) (by omega);have E:((j:Int)+1).toNat=j+1:=by omega
   have F:0<(j:Int)+1:=by omega
   have G:0≤(j:Int)+1:=by omega
   have H:(j:Int)+1<l.length:=by omega
   have Q:((j:Int)+1==0)=false:=by rw[q7];omega
   have N:ov l (j+1)=some y:=by simp[ov,A,B]
   have I:=fun Y Z=>WI (fun a b=>wq (decide (a=b))) (fun a _=>a.length≤zG) x.qS y.qS Y Z (by unfold zG;omega)
   rw[N]at c;simp only[ql]at c;by_cases o:x.at_≤y.at_
   ·rw[zf o]at c;simp[s,t,g,i,d,A,p,B,wc.V,q,D,v,E,F,G,H,o,c,f145]
   ·rw[zj o]at c;by_cases n:w7 x.qS=0
    ·rw[zf n]at c;by_cases hs:x.qS=y.qS
     ·rw[zf hs]at c;rw[xE hs]at I;simp[s,t,g,i,d,A,p,B,wc.V,q,D,v,E,F,G,H,Q,o,m,n,I,c,f145]
     ·rw[zj hs]at c;rw[Ze hs]at I;have X:i6.wrap ((j:Int)+1+1)=(j:Int)+1+1:=zn (by omega) (by omega);simp[s,t,g,i,d,A,p,B,wc.V,q,D,v,E,F,G,H,Q,o,m,n,I,X];exact⟨by omega,c⟩
    ·rw[zj n]at c;have z:(w7 x.qS != 0)=true:=by simpa using n
     simp[s,t,g,i,d,A,p,B,wc.V,q,D,v,E,F,G,H,o,m,n,z,c,f145]
 ·obtain rfl:k=l.length:=by omega
  rw[zl]at c;simp only[AQ]at c;simp[s,t,g,i,c,f145]
theorem rz:zg prog 145 (zi false [] (FPh fun l=>int (je l))):=
 qq (fn:=f145) zaT ⟨_,func145,by kernel_rfl,rfl,by kernel_rfl⟩ false [] _ fun args r h=>by obtain⟨l,rfl,a,rfl⟩:=zr h;exact⟨by simp[f145],_,A1 l a,qm _⟩
noncomputable def FClR:zc→Option O:=qv (α:=Xp×Xp×Int) (fun a=>[.agg a.1.V,.agg a.2.1.V,int a.2.2]) (fun a=>a.1.rX∧a.2.1.rX∧0≤a.2.2∧a.2.2≤100000000) (fun a=>wq (Qb a.1 a.2.1 a.2.2))
theorem tN(a b:Xp)(c:Int)(Y:Hp)(Z:Nat)(h:a.rX∧b.rX∧0≤c∧c≤100000000):zi false [] FClR [.agg a.V,.agg b.V,int c] Y Z=some (wq (Qb a b c),Y,Z):=
 qe (Y1:=Y) (show zA Y [.agg a.V,.agg b.V,int c]=some ([.agg a.V,.agg b.V,int c],Y) by simp only[zA,Qh];rfl) (zJ (V:=fun a:Xp×Xp×Int=>[.agg a.1.V,.agg a.2.1.V,int a.2.2]) (a:=(a,b,c)) (fun x y e=>by obtain⟨d,f,g⟩:=x;obtain⟨i,j,k⟩:=y;simp only[zh,zK,O.agg.injEq]at e;rw[xQ e.1,xQ e.2.1,qn e.2.2]) h) (.inl rfl)
noncomputable abbrev I0:Ctx:=qb prog [(113,zi false [] (FXn fun x i=>int (J8 x.zs i))),(146,zi false [] (lT (fun a b=>wq (j9 a b)) fun a b=>a.length≤zG∧b.length≤zG))]
theorem RW:AM.Good I0 (fun g=>[113,146].contains g):=zI mixed ⟨oi,fun _=>zt _ _,AO,fun _=>zt _ _,trivial⟩
@[simp]theorem zem:yB I0 113:=wC (by rfl) (zt _ _)
@[simp]theorem zen:yB I0 146:=wC (by rfl) (zt _ _)
theorem ow{l:List wc}(h:VB l)(i:Nat):0≤J8 l i∧J8 l i≤1125899906842624:=by
 unfold J8;split
 ·rename_i p Y;have:=h p (zO Y);omega
 ·omega
theorem RX{a b:List wc}{c:Int}{i:Nat}{l:List wc}(h:i<l.length):Oh a b c i (l.drop i)=(b.any (ru a i l[i] c)||Oh a b c (i+1) (l.drop (i+1))):=by rw[zd h,Oh]
theorem EB(a b:Xp)(rest:Int)(W:a.rX)(X:b.rX)(hr:0≤rest∧rest≤100000000):zz I0 f112 [.agg a.V,.agg b.V,int rest]=some (wq (Qb a b rest)):=by
 obtain⟨B,G⟩:=W;obtain⟨H,I⟩:=X;have hla:=qJ vG a.zs;have hlb:=qJ vG b.zs;have xca:a.cb=a.name.length+a.qi.length+a.flag.length+a.cond.cb+a.qI.length+a.jX.length+wg wc.cb a.zs:=rfl;have xcb:b.cb=b.name.length+b.qi.length+b.flag.length+b.cond.cb+b.qI.length+b.jX.length+wg wc.cb b.zs:=rfl;unfold zG at G I;refine zo rfl ?_;simp[zZ];have C:Qb a b rest=Oh a.zs b.zs rest 0 a.zs:=rfl;refine zQ (fun i c Y Z=>c 2=int rest∧c 3=.ref 0 0 0∧c 4=.ref 1 0 0∧c 12=.sl 2 (a.zs.map wc.V)∧c 13=int a.zs.length∧c 14=int i∧2≤Z∧Y 0=some ⟨34,13,false,[a.V]⟩∧Y 1=some ⟨34,13,false,[b.V]⟩∧Qb a b rest=Oh a.zs b.zs rest i (a.zs.drop i)) a.zs.length
  ⟨by simp,by simp,by simp,by simp,by simp,by simp,by simp,by simp[zZ],by simp[zZ],by rw[C];simp⟩ ?_
 rintro i c Y Z hi ⟨o,r,s,d,e,g,J,t,u,j⟩;by_cases m:i<a.zs.length
 ·obtain⟨p,n⟩:∃p,a.zs[i]=p:=⟨_,rfl⟩;have hpm:=B p (by rw[←n];exact zm m);have hsp:=yg (f:=wc.cb) (show p∈a.zs by rw[←n];exact zm m);have hpc:p.cb=1+p.qS.length:=rfl;rw[RX m,n]at j;have K:i6.wrap ((i:Int)+1)=(i:Int)+1:=zn (by omega) (by omega);have D:¬0=Z:=by omega
  have n1:¬1=Z:=by omega
  simp[o,r,s,d,e,g,m,n,wc.V,t,u,D,n1,zZ];obtain⟨P,Q⟩:∃P,Z=P:=⟨_,rfl⟩;rw[Q];have hea:=ow B i;refine zQ (fun k c Y Z=>c 2=int rest∧c 3=.ref 0 0 0∧c 4=.ref 1 0 0∧c 12=.sl 2 (a.zs.map wc.V)∧c 13=int a.zs.length∧c 14=int i∧c 7=int i∧c 8=.ref P 0 0∧c 20=.sl 2 (b.zs.map wc.V)∧c 21=int b.zs.length∧c 22=int k∧2≤P∧P<Z ∧
    Y 0=some ⟨34,13,false,[a.V]⟩∧Y 1=some ⟨34,13,false,[b.V]⟩∧Y P=some ⟨54,2,false,[p.V]⟩∧Qb a b rest=((b.zs.drop k).any (ru a.zs i p rest)||Oh a.zs b.zs rest (i+1) (a.zs.drop (i+1)))) b.zs.length
   ⟨by simp[o],by simp[r],by simp[s],by simp[d],by simp[e],by simp[g],by simp,by simp,by simp,by simp,by simp,by omega,(by show P<P+1;omega),by simp[t,show¬0=P by omega],by simp[u,show¬1=P by omega],by simp[wc.V],by simpa using j⟩ ?_
  clear o r s d e g J t u D n1 Q hi c Y Z;rintro k c Y Z hk ⟨o,r,s,d,e,g,R,S,w,y,z,L,hPn,t,u,M,j⟩;by_cases h:k<b.zs.length
  ·obtain⟨q,l⟩:∃q,b.zs[k]=q:=⟨_,rfl⟩;have hqm:=H q (by rw[←l];exact zm h);have hsq:=yg (f:=wc.cb) (show q∈b.zs by rw[←l];exact zm h);have hqc:q.cb=1+q.qS.length:=rfl;rw[zd h,yy,l]at j;have N:i6.wrap ((k:Int)+1)=(k:Int)+1:=zn (by omega) (by omega);have T:i6.wrap (J8 a.zs i+rest)=J8 a.zs i+rest:=zn (by omega) (by omega);have A:=fun Y Z=>Eo (fun x i=>int (J8 x.zs i)) a i Y Z ⟨by unfold zG;omega,by unfold zG;omega⟩
   have E:=fun Y Z=>WI (fun a b=>wq (j9 a b)) (fun a b=>a.length≤zG∧b.length≤zG) p.qS q.qS Y Z ⟨by unfold zG;omega,by unfold zG;omega⟩
   have D:¬0=Z:=by omega
   have n1:¬1=Z:=by omega
   have U:¬P=Z:=by omega
   have v:(decide (p.at_≤q.at_)&&decide (q.at_<J8 a.zs i+rest)&&j9 p.qS q.qS)=ru a.zs i p rest q:=rfl;rw[wc.V]at M;rw[zZ]at t u A;cases F:ru a.zs i p rest q
   ·rw[F]at j;simp[o,r,s,R,S,d,e,g,w,y,z,h,l,wc.V,t,u,M,D,n1,U,A,E,T,v,F,N];exact⟨by omega,L,by omega,(zZ a).symm,(zZ b).symm,by rw[j];simp⟩
   ·rw[F]at j;simp[o,r,s,R,S,d,e,g,w,y,z,h,l,wc.V,t,u,M,D,n1,U,A,E,T,v,F,j,f112]
  ·obtain rfl:k=b.zs.length:=by omega
   rw[zl,List.any_nil,jo]at j;simp[o,r,s,d,e,g,w,y,z,K];exact⟨by omega,by omega,by rw[←zZ];exact t,by rw[←zZ];exact u,j⟩
 ·obtain rfl:i=a.zs.length:=by omega
  rw[zl]at j;simp only[Oh]at j;simp[o,r,s,d,e,g,j,f112]
theorem A2:zg prog 112 (zi false [] FClR):=
 qq (fn:=f112) RW ⟨_,func112,by kernel_rfl,rfl,by kernel_rfl⟩ false [] _ fun args r h=>by obtain⟨⟨a,b,c⟩,rfl,⟨d,e,f⟩,rfl⟩:=zr h;exact⟨by simp[f112],_,EB a b c d e f,qm _⟩
def Nc(n:Int):Bool:=decide (48≤n)&&decide (n≤57)
theorem RY(c:UInt8):Nc c.toNat=Vf c:=by rw[qA];simp[Nc,Vf,pr];omega
theorem XY:zg prog 317 (zi false [] (T3 Nc)):=
 qq (fn:=f317) w8 ⟨_,func317,by kernel_rfl,rfl,by kernel_rfl⟩ false [] _ fun args r h=>by obtain⟨a,rfl,rfl⟩:=uL h;exact⟨by simp[f317],_,zo rfl (by simp[f317,Nc]),qm _⟩
noncomputable abbrev Crd:Ctx:=qb prog [(317,zi false [] (T3 Nc))]
theorem zeo:AM.Good Crd (fun g=>[317].contains g):=zI mixed ⟨XY,fun _=>zt _ _,trivial⟩
theorem lj(l:za)(i:l.length≤zG):zz Crd f348 [str l]=some (wq (xX l)):=by
 refine zo rfl ?_;unfold zG at i;simp;refine zQ (fun k c Y Z=>c 0=str l∧c 5=int l.length∧c 6=int k∧vA l=vA (l.drop k)) l.length ⟨by simp,by simp,by simp,by simp⟩ ?_;rintro k c Y Z m ⟨f,g,h,b⟩;by_cases a:k<l.length
 ·have j:i6.wrap ((k:Int)+1)=(k:Int)+1:=zn (by omega) (by omega);rw[fm a]at b;have d:=RY l[k];cases e:Vf l[k]
  ·have b:vA l=false:=by rw[b,e];rfl
   rw[e]at d;simp[f,g,h,a,b,d,xX,f348]
  ·rw[e]at d;simp[f,g,h,a,d,j];exact⟨a,by rw[b,e];rfl⟩
 ·obtain rfl:k=l.length:=by omega
  have b:vA l=true:=by rw[b,zl];rfl
  simp[f,g,h,b,xX,f348]
theorem gm:zg prog 348 (zi false [] (FS xX)):=
 qq (fn:=f348) zeo ⟨_,func348,by kernel_rfl,rfl,by kernel_rfl⟩ false [] _ fun args r h=>by obtain⟨l,rfl,Y,rfl⟩:=zr h;exact⟨by simp[f348],_,lj l Y,qm _⟩
def JH(l:za):Bool:=l.isEmpty||(l.headD 0==48&&!(l==[48]))
theorem Nd(l:za):(!JH l&&vA l)=y0 l:=by
 cases l with
 |nil=>rfl
 |cons c l=>
  cases l with
  |nil=>
   by_cases h:c=48
   ·subst h;rfl
   ·simp[JH,y0,h]
  |cons d l=>simp[JH,y0]
theorem A3(l:za)(u:l.length≤zG):zz C0 f316 [str l]=some (wq (y0 l)):=by
 refine zo rfl ?_;unfold zG at u;rw[←Nd];cases j:JH l
 case true=>
  cases l with
  |nil=>simp[JH,f316]
  |cons c l=>
   simp only[JH,List.isEmpty_cons,List.headD_cons,jo,zF,eO,JK,q7]at j;obtain⟨rfl,j⟩:=j;have p:l.isEmpty=false:=by cases l with
    |nil=>exact absurd rfl j
    |cons d l=>rfl
   simp[p,f316]
 case false=>
  have a:l≠[]:=fun e=>by subst e;simp[JH]at j
  have v:0<l.length:=kz.2 a;have m:(l==[])=false:=by simpa using a
  have t:((l[0].toNat:Int)==48&&!(l==[48]))=false:=by
   cases l with
   |nil=>exact absurd rfl a
   |cons c l=>
    have w:((c.toNat:Int)==48)=(c==48):=by rw[qA];simp[←Jc];omega
    simp only[eQ,w];simpa[JH]using j
  have q:((l[0].toNat:Int)==48&&l != [48])=false:=t;simp[m,a,v,t,q];refine zQ (fun k n Y Z=>n 0=str l∧n 16=int l.length∧n 17=int k∧vA l=vA (l.drop k)) l.length ⟨by simp,by simp,by simp,by simp⟩ ?_;rintro k n Y Z y ⟨r,g,h,f⟩;by_cases b:k<l.length
  ·have x:i6.wrap ((k:Int)+1)=(k:Int)+1:=zn (by omega) (by omega);rw[fm b]at f;have s:=Xn 48 57 l[k];simp only[ZX]at s;cases o:Vf l[k]
   ·have f:vA l=false:=by rw[f,o];rfl
    have i:pr 48 57 l[k]=false:=o;simp[r,g,h,b,f,s,i,f316]
   ·have i:pr 48 57 l[k]=true:=o;simp[r,g,h,b,s,i,x];exact⟨b,by rw[f,o];rfl⟩
  ·obtain rfl:k=l.length:=by omega
   have f:vA l=true:=by rw[f,zl];rfl
   simp[r,g,h,f,f316]
theorem bN:zg prog 316 (zi false [] (FS y0)):=
 qq (fn:=f316) w8 ⟨_,func316,by kernel_rfl,rfl,by kernel_rfl⟩ false [] _ fun args r h=>by obtain⟨l,rfl,Y,rfl⟩:=zr h;exact⟨by simp[f316],_,A3 l Y,qm _⟩
def aT(c:UInt8):Bool:=pr 97 122 c||pr 65 90 c||c==45
theorem tO(c:UInt8):Ko c=(aT c||Vf c):=by simp only[Ko,aT,Vf];cases pr 97 122 c<;>cases pr 65 90 c<;>cases pr 48 57 c<;>simp
theorem zaU(c:UInt8)(h:aT c=true):Vf c=false:=by
 cases hd:Vf c with
 |false=>rfl
 |true=>
  simp only[aT,Vf,pr,qH,zF,ql,eO]at h hd;rcases h with(h|h)|rfl
  ·omega
  ·omega
  ·simp at hd
theorem Nf(l:za)(h:l.all Ko=true):(jg l.length 1 20&&(!(l.all fun c=>!aT c)||y0 l))=!yF l:=by
 have e:(l.all fun c=>!aT c)=vA l:=by
  induction l with
  |nil=>rfl
  |cons c l d=>
   simp only[qN,zF]at h;have a:=h.1;rw[tO]at a;rw[qN,d h.2];show _=(Vf c&&vA l);cases b:aT c
   ·rw[b,jo]at a;rw[a];rfl
   ·rw[zaU c b];rfl
 rw[e];unfold yF fk;rw[h];cases l with
 |nil=>rfl
 |cons c l=>rw[qA];simp[jg];omega
theorem HI(l:za)(h:l.all Ko=false):yF l=true:=by unfold yF fk;rw[h];simp
noncomputable abbrev Crip:Ctx:=qb prog [(317,zi false [] (T3 Nc)),(244,zi false [] (F3 jg)),(316,zi false [] (FS y0))]
theorem zaV:AM.Good Crip (fun g=>[317,244,316].contains g):=zI mixed ⟨XY,fun _=>zt _ _,ZL,fun _=>zt _ _,bN,fun _=>zt _ _,trivial⟩
@[simp]theorem zgc:yB Crip 316:=wC (by rfl) (zt _ _)
theorem EC(l:za)(r:l.length≤zG):zz Crip f281 [str l]=some (wq (!yF l)):=by
 refine zo rfl ?_;have f:=fun Y Z=>vn y0 l Y Z r
 unfold zG at r;simp;refine zQ (fun k g Y Z=>g 0=str l∧g 3=wq ((l.take k).all fun c=>!aT c)∧g 8=int l.length∧g 9=int k∧l.all Ko=(l.drop k).all Ko) l.length ⟨by simp,by simp,by simp,by simp,by simp⟩ ?_;rintro k g Y Z u ⟨j,d,m,n,b⟩;by_cases a:k<l.length
 ·have s:i6.wrap ((k:Int)+1)=(k:Int)+1:=zn (by omega) (by omega);rw[sI a,tO]at b;have e:(decide ((97:Int)≤l[k].toNat)&&decide ((l[k].toNat:Int)≤122)||decide ((65:Int)≤l[k].toNat)&&decide ((l[k].toNat:Int)≤90)||((l[k].toNat:Int)==45))=aT l[k]:=by
   have t:((l[k].toNat:Int)==45)=(l[k]==45):=by rw[qA];simp[←Jc];omega
   rw[t,qA];simp[aT,pr,←Jc];omega
  have hd:=RY l[k];have h:((l.take (k+1)).all fun c=>!aT c)=(((l.take k).all fun c=>!aT c)&&!aT l[k]):=by rw[qx a,List.all_append];simp
  obtain⟨T,q⟩:∃T,((l.take k).all fun c=>!aT c)=T:=⟨_,rfl⟩;rw[q]at d h;cases i:aT l[k]
  ·cases o:Vf l[k]
   ·rw[i,o]at b;have b:l.all Ko=false:=b;have p:=HI l b;rw[i]at e;rw[o]at hd;simp[j,d,m,n,a,e,hd,p,-List.all_eq_true,-List.all_eq_false,f281]
   ·rw[i,o]at b;rw[i]at e h;rw[o]at hd;simp[j,d,m,n,a,e,hd,s,-List.all_eq_true,-List.all_eq_false];exact⟨a,by rw[h];simp,b⟩
  ·rw[i]at b e h;simp[j,d,m,n,a,e,s,-List.all_eq_true,-List.all_eq_false];exact⟨a,by rw[h];simp,b⟩
 ·obtain rfl:k=l.length:=by omega
  have b:l.all Ko=true:=by rw[b,zl];rfl
  have p:=Nf l b;rw[yk]at d;obtain⟨T,q⟩:∃T,(l.all fun c=>!aT c)=T:=⟨_,rfl⟩;rw[q]at d p;simp[j,d,m,n,f,p,-List.all_eq_true,-List.all_eq_false,f281]
theorem A4:zg prog 281 (zi false [] (FS fun l=>!yF l)):=
 qq (fn:=f281) zaV ⟨_,func281,by kernel_rfl,rfl,by kernel_rfl⟩ false [] _ fun args r h=>by obtain⟨l,rfl,Y,rfl⟩:=zr h;exact⟨by simp[f281],_,EC l Y,qm _⟩
theorem A5(l:za):zz C0 f251 [str l]=some (wq (yq l)):=by
 refine zo rfl ?_;have e:yq l=(l==[42]||l==[120]||l==[88]):=by unfold yq;cases l==[42]<;>cases l==[120]<;>cases l==[88]<;>rfl
 rw[e];cases a:(l==[42])
 ·cases b:(l==[120])
  ·simp[a,b,f251]
  ·simp[a,b,f251]
 ·simp[a,f251]
theorem rA:zg prog 251 (zi false [] (FS yq)):=
 qq (fn:=f251) w8 ⟨_,func251,by kernel_rfl,rfl,by kernel_rfl⟩ false [] _ fun args r h=>by obtain⟨l,rfl,Y,rfl⟩:=zr h;exact⟨by simp[f251],_,A5 l,qm _⟩
noncomputable def FNm:zc→Option O:=qv (α:=za) (fun l=>[str l,int 6]) (fun l=>l.length≤zG) Jw
theorem RZ(l:za)(Y:Hp)(Z:Nat)(h:l.length≤zG):zi false [] FNm [str l,int 6] Y Z=some (.yb [int ((Zc l).getD 0),wq (Zc l).isSome],Y,Z):=
 qe rfl (zJ (V:=fun l:List UInt8=>[str l,int 6]) (a:=l) (fun a b e=>by simp only[zh,zK]at e;exact wx e) h) (.inl rfl)
noncomputable abbrev Crnm:Ctx:=qb prog [(316,zi false [] (FS y0)),(291,zi false [] FAt)]
theorem zaW:AM.Good Crnm (fun g=>[316].contains g):=zI mixed ⟨bN,fun _=>zt _ _,mZ,by simp,trivial⟩
theorem A6(l:za)(f:l.length≤zG):zz Crnm f280 [str l,int 6]=some (Jw l):=by
 refine zo rfl ?_;have b:=fun Y Z=>vn y0 l Y Z f
 cases a:y0 l
 ·simp[b,a,Jw,Zc,wH,f280]
 ·by_cases e:l.length≤6
  ·have c:¬((6:Int)<l.length):=by omega
   have g:=fun Y Z=>sJ l Y Z (by omega) a
   simp[b,a,e,c,g,Jw,Zc,wH,f280]
  ·have c:(6:Int)<l.length:=by omega
   have d:6<l.length:=by omega
   simp[b,a,e,d,c,Jw,Zc,wH,f280]
theorem rB:zg prog 280 (zi false [] FNm):=
 qq (fn:=f280) zaW ⟨_,func280,by kernel_rfl,rfl,by kernel_rfl⟩ false [] _ fun args r h=>by obtain⟨l,rfl,Y,rfl⟩:=zr h;exact⟨by simp[f280],_,A6 l Y,qm _⟩
noncomputable abbrev Crcp:Ctx:=qb prog [(348,zi false [] (FS xX)),(274,zi false [] (Jv tlP fun _ b=>uU b)),(204,zi false [] (T4 ya)),(218,zi false [] (Me Ab)),(226,zi false [] Of)]
theorem zaX:AM.Good Crcp (fun g=>([]:List Nat).contains g):=zI mixed ⟨gm,by simp,YS,by simp,Wc,by simp,nh,by simp,Xu,by simp,trivial⟩
theorem gn(a b:za)(g:a.length≤zG)(h:b.length≤zG):zz Crcp f337 [str a,str b]=some (int (yc a b)):=by
 refine zo rfl ?_;have c:=fun Y Z=>vn xX a Y Z g
 have d:=fun Y Z=>vn xX b Y Z h
 have j:=fun Y Z=>lG a Y Z g
 have tb:=fun Y Z=>lG b Y Z h
 have i:=AU;cases e:xX a<;>cases f:xX b
 ·simp[c,d,e,f,yc,i,f337]
 ·simp[c,d,e,f,yc,f337]
 ·simp[c,d,e,f,yc,f337]
 ·have k:∀(Y:Hp) (Z id:Nat),Y id=some ⟨3,1,true,[[int (ya (Lib.trimLeftB a 48).length (Lib.trimLeftB b 48).length)],[int (YF (Lib.trimLeftB a 48) (Lib.trimLeftB b 48))]]⟩→zi false [] Of [.own id 0 2] Y Z=some (int (V4 [ya (Lib.trimLeftB a 48).length (Lib.trimLeftB b 48).length,YF (Lib.trimLeftB a 48) (Lib.trimLeftB b 48)]),Y,Z):=fun Y Z id l=>dt [_,_] Y Z id _ (by show 2≤zG;decide) l
  simp[c,d,j,tb,e,f,k,i,zv,zN,zy,yc,f337]
theorem ep:zg prog 337 (zi false [] (Jv (fun a b=>int (yc a b)) fun _ _=>True)):=
 qq (fn:=f337) zaX ⟨_,func337,by kernel_rfl,rfl,by kernel_rfl⟩ false [] _ fun args r h=>by obtain⟨a,b,rfl,c,d,_,rfl⟩:=xW h;exact⟨by simp[f337],_,gn a b c d,qm _⟩
end Go.Q
