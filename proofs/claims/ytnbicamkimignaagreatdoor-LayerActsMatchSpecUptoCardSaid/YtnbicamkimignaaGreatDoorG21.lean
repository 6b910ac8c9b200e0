/- Lemmas. -/
import Derived.Shelf.SlSortCmp.WholeK
import Derived.Shelf.SlSortCmp.NoneTotal
import Derived.Test.YtnbicamkimignaaGreatDoorProg
import Derived.Test.YtnbicamkimignaaGreatDoorG20
set_option maxRecDepth 100000
set_option maxHeartbeats 4000000
open Go Proofs Proofs.YtnbicamkimignaaGreatDoor Proofs.Tryz RowKit AM SpanLaw Q Zz
open Go.IntKind renaming i64→i6
namespace Go.AM
theorem q6.zcl{P:Program}{Y:Hp}{Z e s b:Nat}{v:O}{xs:List zc}{ys:List zc}{z:zc}{t:TypeId}(h:q6 Y Z e s v xs)(c:yK P t=some e)(hs:q8 P e=some s)(d:kr P e=some b)(f:jr P e=some z)
  (a:z.length=s) (g:0<s) (i:xs.length+ys.length≤maxLen) (k:(xs.length+ys.length)*b≤140737488355328) :
  ∃o Y' l,wU P Y Z t t v (.sl s ys)=some (o,Y',l)∧q6 Y' l e s o (xs++ys)∧Z≤l∧∀j,j<Z→(∀n,v≠.own j 0 n)→Y' j=Y j:=by
 rcases h with⟨rfl,rfl⟩|⟨id,hid,rfl,q⟩
 ·simp at i k;by_cases p:ys=[]
  ·subst p;exact⟨.nil,Y,Z,by simp[wU,c,hs,d,f,a,g,AM.view,maxLen],.inl ⟨rfl,rfl⟩,ze _,fun _ _ _=>rfl⟩
  ·exact⟨.own Z 0 ys.length,_,Z+1,by simp[wU,c,hs,d,f,a,g,i,k,AM.view,p];rfl,.inr ⟨Z,by omega,by simp,by simp⟩,by omega,fun j r _=>by rw[zw _ _ _ _ (by omega)]⟩
 ·refine⟨.own Z 0 (xs.length+ys.length),_,Z+1,by simp[wU,c,hs,d,f,a,g,i,k,AM.view,q];rfl,.inr ⟨Z,by omega,by simp,by simp⟩,by omega,fun j r u=>?_⟩;have m:¬j=id:=fun e=>u xs.length (by rw[e])
  rw[zw _ _ _ _ (by omega),zw _ _ _ _ m]
end Go.AM
namespace Go.Q
noncomputable def nT (out:Bk→za→Int→O):zc→Option O:=qv (α:=Bk×za×Int) (fun a=>[.agg a.1.V,str a.2.1,int a.2.2]) (fun a=>a.1.cb≤zG) (fun a=>out a.1 a.2.1 a.2.2)
theorem jW(Y:Hp)(b:Bk):qf Y (.agg b.V)=some (.agg b.V,Y):=by simp[Bk.V]
theorem xh(b:Bk):O.noOwn (.agg b.V)=true:=by simp[Bk.V]
theorem Wk(out:Bk→za→Int→O)(b:Bk)(s:za)(n:Int)(Y:Hp)(Z:Nat)(h:b.cb≤zG):zi false [] (nT out) [.agg b.V,str s,int n] Y Z=some (out b s n,Y,Z):=
 qe (Y1:=Y) (show zA Y [.agg b.V,str s,int n]=some ([.agg b.V,str s,int n],Y) by simp only[zA,jW];rfl) (zJ (V:=fun a:Bk×za×Int=>[.agg a.1.V,str a.2.1,int a.2.2]) (a:=(b,s,n)) (fun x y e=>by obtain⟨c,d,f⟩:=x;obtain⟨g,i,j⟩:=y;simp only[zh,zK,O.agg.injEq]at e;rw[vk e.1,wx e.2.1,qn e.2.2]) h) (.inr (by simp only[qN,xh];rfl))
def jq(a:List Sp)(n:Int):List wc→List Sp
 |[]=>a
 |p::l=>jq (if p.at_≤n then p.qS else a) n l
noncomputable def FXI (out:Xp→Int→O) (pre:Xp→Int→Prop):zc→Option O:=qv (α:=Xp×Int) (fun a=>[.agg a.1.V,int a.2]) (fun a=>pre a.1 a.2) (fun a=>out a.1 a.2)
theorem nU(out:Xp→Int→O)(pre:Xp→Int→Prop)(x:Xp)(n:Int)(Y:Hp)(Z:Nat)(h:pre x n):zi false [] (FXI out pre) [.agg x.V,int n] Y Z=some (out x n,Y,Z):=
 qe (Y1:=Y) (show zA Y [.agg x.V,int n]=some ([.agg x.V,int n],Y) by simp only[zA,Qh];rfl) (zJ (V:=fun a:Xp×Int=>[.agg a.1.V,int a.2]) (a:=(x,n)) (fun x y e=>by obtain⟨b,c⟩:=x;obtain⟨d,f⟩:=y;simp only[zh,zK,O.agg.injEq]at e;rw[xQ e.1,qn e.2]) h) (.inr (by simp only[qN,XI];rfl))
theorem MN(x:Xp)(n:Int)(h:x.zs.length≤zG):∃l,zz C0 f81 [.agg x.V,int n]=some l∧qM l (.sl 2 ((jq [] n x.zs).map zM)):=by
 refine yv rfl ?_;unfold zG at h;rw[zZ];simp;refine zQ (fun k e Y Z=>e 1=int n∧e 9=.sl 2 (x.zs.map wc.V)∧e 10=int x.zs.length∧e 11=int k∧∃d,(e 5=.sl 2 (d.map zM)∨(e 5=.nil∧d=[]))∧jq [] n x.zs=jq d n (x.zs.drop k)) x.zs.length
  ⟨by simp,by simp,by simp,by simp,[],.inr ⟨by simp,rfl⟩,by simp⟩ ?_
 rintro k e Y Z o ⟨g,i,a,b,d,hd,c⟩;by_cases f:k<x.zs.length
 ·obtain⟨p,Y0⟩:∃p,x.zs[k]=p:=⟨_,rfl⟩;rw[zd f,Y0]at c;simp only[jq]at c;have m:i6.wrap ((k:Int)+1)=(k:Int)+1:=zn (by omega) (by omega);by_cases j:p.at_≤n
  ·rw[zf j]at c;simp[g,i,a,b,f,Y0,wc.V,j,m];exact⟨by omega,p.qS,rfl,c⟩
  ·rw[zj j]at c;simp[g,i,a,b,f,Y0,wc.V,j,m];exact⟨by omega,d,hd,c⟩
 ·obtain rfl:k=x.zs.length:=by omega
  rw[zl]at c;simp only[jq]at c;rw[c];rcases hd with hd|⟨hd,rfl⟩
  ·simp[g,i,a,b,hd,f81];exact⟨_,by simp,.refl _⟩
  ·simp[g,i,a,b,hd,f81];exact⟨_,by simp,.pz (.inl ⟨rfl,rfl⟩)⟩
theorem G9:zg prog 81 (zi false [] (FXI (fun x n=>.sl 2 ((jq [] n x.zs).map zM)) fun x _=>x.zs.length≤zG)):=
 jD (fn:=f81) w8 ⟨_,func81,by kernel_rfl,rfl,by kernel_rfl⟩ false [] _ fun args r h w S vs a=>by obtain⟨⟨x,n⟩,rfl,b,rfl⟩:=zr h;obtain⟨c,d,e⟩:=MN x n b;exact⟨_,c,a,by simp[f81],d,e⟩
def allS(args:zc):Option O:=if args.isEmpty then some (.sl 2 [[int 0,int 100000]])else none
theorem dX:zg prog 59 (zi false [] allS):=
 qq (fn:=f59) w8 ⟨_,func59,by kernel_rfl,rfl,by kernel_rfl⟩ false [] _ fun args r h=>by
  cases args with
  |nil=>
   injection h with h;subst h;have a:∀Y Z,zv prog Y Z 48 1 [(0,.agg [int 0,int 100000])]=some (.own Z 0 1,qZ Y Z (some ⟨82,2,true,[[int 0,int 100000]]⟩),Z+1):=fun Y Z=>by simp[zv,zN,zy]
   exact⟨kD _,_,zo rfl (by simp[zR,qc,a,wH,f59]),qm _⟩
  |cons x l=>cases h
theorem gd(Y:Hp)(Z:Nat):zi false [] allS [] Y Z=some (.sl 2 [[int 0,int 100000]],Y,Z):=qe (Y1:=Y) rfl rfl (.inr rfl)
noncomputable abbrev togF:zc→Option O:=FP (fun l=>.sl 2 ((WH (kv l)).map zM)) fun l=>Small l∧l.length≤2097152
theorem Ha:zg prog 45 (zi true [2] togF):=
 jD (fn:=f45) (zI (q:=[]) mixed ⟨Vy,by simp,gY,by simp,trivial⟩:AM.Good Ctg _) ⟨_,func45,by kernel_rfl,rfl,by kernel_rfl⟩ true [2] _ fun args r h w S vs c=>by obtain⟨l,rfl,a,rfl⟩:=zr h;obtain⟨u,rfl,d⟩:=Qv c;obtain⟨y,e,b⟩:=mQ d;obtain⟨f,g,i⟩:=bD l (kv l) a.1 a.2 (JD a.1).1 y e;exact⟨_,f,.cons b .nil,zC (ze 1) (by decide),g,i⟩
theorem MO{Y:Hp}{Z:Nat}{v:O}{d:List Sp}(c:q6 Y Z 82 2 v (d.map zM))(h:Small d)(f:d.length≤2097152):∃Y',zi true [2] togF [v] Y Z=some (.sl 2 ((WH (kv d)).map zM),Y',Z):=by
 have hs:togF [.sl 2 (d.map zM)]=some (.sl 2 ((WH (kv d)).map zM)):=zJ (V:=fun l:List Sp=>[O.sl 2 (l.map zM)]) (a:=d) (fun a b e=>by simp only[zh,zK]at e;exact jE e) ⟨h,f⟩;rcases c with⟨rfl,g⟩|⟨id,hid,rfl,i⟩
 ·have hd:d=[]:=by simpa using g
  subst hd;exact⟨Y,qe (Y1:=Y) rfl hs (.inr rfl)⟩
 ·refine⟨qZ Y id none,?_⟩;have j:zA Y [.own id 0 (d.map zM).length]=some ([.sl 2 (d.map zM)],qZ Y id none):=by simp[i];rw[qp (by simp)]
  unfold zi;rw[j];simp only;rw[show yf [2] [O.sl 2 (d.map zM)]=[.sl 2 (d.map zM)]from rfl,hs];simp[O.noOwn]
theorem Wl{b:Bk}(h:qQ b=0):(∀y∈b.zk,0≤y.rest∧y.rest≤100000000)∧(∀x∈b.zE,je x.zs=0∧(vd (b.zk.map wh.name) x.qi).2=true)∧V6 b.zk b.zE 0 b.zE=false:=by
 unfold qQ at h;split at h
 ·exact absurd h (by simp)
 split at h
 ·rename_i a;split at h
  ·split at h
   ·rename_i d;split at h
    ·exact absurd h (by simp)
    ·rename_i e;exact⟨KJ a,lN d,by simpa using e⟩
   ·rename_i c;exact absurd h c
  ·rename_i c;exact absurd h c
 ·rename_i c;exact absurd h c
theorem tn:∀{xs:List wc} {p:Option Int} {b:List Sp},DN p b xs=0→∀y∈xs,w7 y.qS=0
 |[],_,_,_,y,a=>by simp at a
 |x::xs,p,b,h,y,a=>by
  simp only[DN]at h;split at h
  ·split at h
   ·exact absurd h (by simp)
   ·split at h
    ·rename_i c;split at h
     ·exact absurd h (by simp)
     ·rcases zL.1 a with rfl|a
      ·exact c
      ·exact tn h y a
    ·rename_i c;exact absurd h c
  ·exact absurd h (by simp)
theorem jO{l:List wc}(h:je l=0):∀y∈l,w7 y.qS=0:=by
 unfold je at h;split at h
 ·exact absurd h (by simp)
 ·exact tn h
def XK(a n:Int)(b:List wc):Nat→List wc→List Sp
 |_,[]=>[]
 |k,p::l=>(if n<WJ b k+a then p.qS else[])++XK a n b (k+1) l
def rj(a c:za)(b n:Int):List Xp→List Sp
 |[]=>[]
 |x::l=>(if x.qi=a then(if x.name=c then[]else XK b n x.zs 0 x.zs)else[])++rj a c b n l
theorem D2(a n:Int)(b:List wc):∀(l:List wc) (k:Nat),(XK a n b k l).length≤wg wc.cb l
 |[],k=>by simp[XK]
 |p::l,k=>by have:=D2 a n b l (k+1);have Y:p.cb=1+p.qS.length:=rfl;simp only[XK,ye,wg,qF,lS]at *;split<;>simp<;>omega
theorem IJ(a c:za)(b n:Int):∀l:List Xp,(rj a c b n l).length≤wg Xp.cb l
 |[]=>by simp[rj]
 |x::l=>by
  have:=IJ a c b n l;have d:=D2 b n x.zs x.zs 0;have e:x.cb=x.name.length+x.qi.length+x.flag.length+x.cond.cb+x.qI.length+x.jX.length+wg wc.cb x.zs:=rfl;simp only[rj,ye,wg,qF,lS]at *;split
  ·split<;>simp<;>omega
  ·simp;omega
theorem D3(a n:Int)(b:List wc):∀(l:List wc) (k:Nat) (s:Sp),s∈XK a n b k l→∃p∈l,s∈p.qS
 |[],k,s,h=>by simp[XK]at h
 |p::l,k,s,h=>by
  simp only[XK,qP]at h;rcases h with h|h
  ·split at h
   ·exact⟨p,by simp,h⟩
   ·simp at h
  ·obtain⟨q,c,hs⟩:=D3 a n b l (k+1) s h;exact⟨q,by simp[c],hs⟩
theorem IK(a c:za)(b n:Int):∀(l:List Xp) (s:Sp),s∈rj a c b n l→∃x∈l,∃p∈x.zs,s∈p.qS
 |[],s,h=>by simp[rj]at h
 |x::l,s,h=>by
  simp only[rj,qP]at h;rcases h with h|h
  ·split at h
   ·split at h
    ·simp at h
    ·obtain⟨p,Y,hs⟩:=D3 b n x.zs x.zs 0 s h;exact⟨x,by simp,p,Y,hs⟩
   ·simp at h
  ·obtain⟨q,d,hs⟩:=IK a c b n l s h;exact⟨q,by simp[d],hs⟩
def okU(l:List Sp):Prop:=∀s∈l,0≤s.1∧s.1<s.2∧s.2≤100000
theorem zaz{a:List Sp}(b:w7 a=0):okU a:=by obtain⟨c,d,e,_⟩:=xM b;exact fun s hs=>⟨e s hs,kB c s hs,d s hs⟩
theorem Hb{b:Bk}(h:qQ b=0)(a d:za)(c n:Int):okU (rj a d c n b.zE):=fun s hs=>by obtain⟨x,e,p,Y,hs⟩:=IK a d c n b.zE s hs;exact zaz (jO ((Wl h).2.1 x e).1 p Y) s hs
theorem tp{l:List Sp}(h:okU l):Small l:=fun s hs=>by have:=h s hs;omega
theorem ay:∀{lo a:Int} {l:List Sp},zlN lo l→Below a l→lo≤a→(l.length:Int)≤a-lo
 |lo,a,[],_,_,h=>by simp;omega
 |lo,a,s::l,b,c,h=>by have hs:=c s (by simp);have:=ay b.2.2 (fun x d=>c x (by simp[d])) hs;have:=b.1;have:=b.2.1;simp only[qa];omega
theorem AE{l:List Sp}(h:okU l):j7 (WH (kv l))∧∀k,mem (WH (kv l)) k↔mem l k:=by
 obtain⟨_,d,i⟩:=JD (tp h);have hs:J1 0 (kv l):=fT (fun s hs=>by have:=h s (d.mem_iff.1 hs);exact⟨this.1,this.2.1⟩) i;have a:zlN (-1) (WH (kv l)):=nF (lo:=-1) (by simpa using hs);have f:∀k,mem (WH (kv l)) k↔mem l k:=fun k=>by rw[Dn hs,DF d]
 have b:=kB a;have c:Below 100000 (WH (kv l)):=fun s hs=>by have Y:=b s hs;obtain⟨t,j,o,p⟩:=(f (s.2-1)).1 ⟨s,hs,by omega,by omega⟩;have:=h t j;omega
 refine⟨⟨a,c,fun s hs=>?_,?_⟩,f⟩
 ·have:=Zz a ⟨s,hs,jb _,b s hs⟩;omega
 ·have:=ay a c (by omega);have q:¬(WH (kv l)).length=100001:=fun e=>by
   rcases g:WH (kv l)with _|⟨s,m⟩
   ·rw[g]at e;simp at e
   ·rw[g]at a c e;have r:=ay a.2.2 (fun x n=>c x (by simp[n])) (c s (by simp));have u:=a.1;have v:=a.2.1;simp only[qa]at e;omega
  omega
noncomputable def jY (b:Bk) (a c:za) (n:Int):List Sp:=vY [(0,100000)] (WH (kv (rj a c (kG b.zk a) n b.zE)))
def okB(b:Bk)(a:za):Prop:=b.cb≤zG∧qQ b=0∧(vd (b.zk.map wh.name) a).2=true
noncomputable def MP (out:Bk→za→za→Int→O):zc→Option O:=qv (α:=Bk×za×za×Int) (fun a=>[.agg a.1.V,str a.2.1,str a.2.2.1,int a.2.2.2]) (fun a=>okB a.1 a.2.1) (fun a=>out a.1 a.2.1 a.2.2.1 a.2.2.2)
theorem MQ(out:Bk→za→za→Int→O)(b:Bk)(s t:za)(n:Int)(Y:Hp)(Z:Nat)(h:okB b s):zi false [] (MP out) [.agg b.V,str s,str t,int n] Y Z=some (out b s t n,Y,Z):=
 qe (Y1:=Y) (show zA Y [.agg b.V,str s,str t,int n]=some ([.agg b.V,str s,str t,int n],Y) by simp only[zA,jW];rfl) (zJ (V:=fun a:Bk×za×za×Int=>[.agg a.1.V,str a.2.1,str a.2.2.1,int a.2.2.2]) (a:=(b,s,t,n)) (fun x y e=>by obtain⟨c,d,f,g⟩:=x;obtain⟨i,j,k,l⟩:=y;simp only[zh,zK,O.agg.injEq]at e;rw[vk e.1,wx e.2.1,wx e.2.2.1,qn e.2.2.2]) h) (.inr (by simp only[qN,xh];rfl))
noncomputable abbrev Cfb:Ctx:=qb prog [(15,zi false [] GX),(58,zi false [] (FPi2 fun l i=>int (WJ l i))),(59,zi false [] allS),(45,zi true [2] togF),(43,zi false [] (lT (fun a b=>.sl 2 ((vY a b).map zM)) fun a b=>j7 a∧j7 b))]
theorem Rm:AM.Good Cfb (fun g=>([]:List Nat).contains g):=zI mixed ⟨KH,by simp,ti,by simp,dX,by simp,Ha,by simp,dQ,by simp,trivial⟩
theorem MR{a n:Int}{l:List wc}{k:Nat}(h:k<l.length):XK a n l k (l.drop k)=(if n<WJ l k+a then l[k].qS else[])++XK a n l (k+1) (l.drop (k+1)):=by rw[zd h,XK]
theorem Rn{a c:za}{b n:Int}{l:List Xp}{k:Nat}(h:k<l.length):rj a c b n (l.drop k)=(if l[k].qi=a then(if l[k].name=c then[]else XK b n l[k].zs 0 l[k].zs)else[])++rj a c b n (l.drop (k+1)):=by rw[zd h,rj]
theorem dY(b:Bk)(c e:za)(n:Int)(h:okB b c):zz Cfb f18 [.agg b.V,str c,str e,int n]=some (.sl 2 ((jY b c e n).map zM)):=by
 obtain⟨hb,D,hfl⟩:=h;obtain⟨R,hex,_⟩:=Wl D;refine zo rfl ?_;have hlen:=qJ ZG b.zE;have TN:=qJ xa b.zk;have Om:b.cb=wg wh.cb b.zk+wg yI.cb b.holds+wg Xp.cb b.zE:=rfl;unfold zG at hb;have hof:=fun Y Z=>KG b.zk c Y Z (by unfold zG;omega)
 obtain⟨q,hq⟩:∃q,(vd (b.zk.map wh.name) c).1=q:=⟨_,rfl⟩;have F:q<b.zk.length:=by have:=J2 hfl;rw[hq]at this;simpa using this
 obtain⟨y,hy⟩:∃y,b.zk[q]=y:=⟨_,rfl⟩;have R:=R y (by rw[←hy];exact zm F);have G:kG b.zk c=y.rest:=by unfold kG;rw[hq,zu F,hy]
 obtain⟨T,hT⟩:∃T,rj c e y.rest n b.zE=T:=⟨_,rfl⟩;have hTl:T.length≤2097152:=by have:=IJ c e y.rest n b.zE;rw[hT]at this;omega
 have E:okU T:=by rw[←hT];exact Hb D c e y.rest n
 have hfv:jY b c e n=vY [(0,100000)] (WH (kv T)):=by unfold jY;rw[G,hT]
 rw[hfv];simp[Bk.V,hof,hq,F,hy,wh.V];refine zQ (fun k j Y Z=>j 1=str c∧j 2=str e∧j 3=int n∧j 11=int y.rest∧j 31=.sl 13 (b.zE.map Xp.V)∧j 32=int b.zE.length∧j 33=int k∧∃d,q6 Y Z 82 2 (j 12) (d.map zM)∧d++rj c e y.rest n (b.zE.drop k)=T) b.zE.length
  ⟨by simp,by simp,by simp,by simp,by simp,by simp,by simp,[],.inl (by simp),by simpa using hT⟩ ?_
 rintro k j Y Z hk ⟨z,A,B,m,o,r,s,d,H,hd⟩;by_cases u:k<b.zE.length
 ·obtain⟨x,S⟩:∃x,b.zE[k]=x:=⟨_,rfl⟩;have U:x∈b.zE:=by rw[←S];exact zm u
  have Oj:=yg (f:=Xp.cb) U;have Tn:x.cb=x.name.length+x.qi.length+x.flag.length+x.cond.cb+x.qI.length+x.jX.length+wg wc.cb x.zs:=rfl;have hxpl:=qJ vG x.zs;have hto:=Wj (hex x U).1;rw[Rn u,S]at hd;have hw:i6.wrap ((k:Int)+1)=(k:Int)+1:=zn (by omega) (by omega);have g:=H.more (some (aR x));by_cases c1:x.qi=c
  case neg=>
   have C:(x.qi==c)=false:=by simpa using c1
   rw[zj c1,wN]at hd;simp[z,A,B,m,o,r,s,u,S,zZ,C,hw];rw[aR,zZ]at g;exact⟨by omega,d,g,hd⟩
  have C:(x.qi==c)=true:=by simpa using c1
  rw[zf c1]at hd;by_cases c2:x.name=e
  ·have I:(x.name==e)=true:=by simpa using c2
   rw[zf c2,wN]at hd;simp[z,A,B,m,o,r,s,u,S,zZ,C,I,hw];rw[aR,zZ]at g;exact⟨by omega,d,g,hd⟩
  have I:(x.name==e)=false:=by simpa using c2
  rw[zj c2]at hd;simp[z,A,B,m,o,r,s,u,S,zZ,C,I];obtain⟨P,hP⟩:∃P,Z=P:=⟨_,rfl⟩;rw[hP]at g⊢;rw[aR,zZ]at g;refine zQ (fun i j Y Z=>j 1=str c∧j 2=str e∧j 3=int n∧j 11=int y.rest∧j 31=.sl 13 (b.zE.map Xp.V)∧j 32=int b.zE.length∧j 33=int k∧j 14=.ref P 0 0∧j 48=.sl 2 (x.zs.map wc.V)∧j 49=int x.zs.length∧j 50=int i∧P<Z∧Y P=some ⟨34,13,false,[x.V]⟩∧∃d,q6 Y Z 82 2 (j 12) (d.map zM)∧d++(XK y.rest n x.zs i (x.zs.drop i)++rj c e y.rest n (b.zE.drop (k+1)))=T) x.zs.length
   ⟨by simp[z],by simp[A],by simp[B],by simp[m],by simp[o],by simp[r],by simp[s],by simp,by simp,by simp,by simp,(by show P<P+1;omega),by simp[zZ],d,by simpa using g,by simpa using hd⟩ ?_
  clear z A B m o r s H hd g hP d hk j Y Z;rintro i j Y Z hi ⟨z,A,B,m,o,r,s,J,K,L,M,hPn,N,d,H,hd⟩;by_cases v:i<x.zs.length
  ·obtain⟨p,Q⟩:∃p,x.zs[i]=p:=⟨_,rfl⟩;rw[MR v,Q]at hd;have W:i6.wrap ((i:Int)+1)=(i:Int)+1:=zn (by omega) (by omega);have hea:=fX hto i;have wa:i6.wrap (WJ x.zs i+y.rest)=WJ x.zs i+y.rest:=zn (by omega) (by omega);have X:=fun Y Z=>fW (fun l i=>int (WJ l i)) x.zs i Y Z ⟨by unfold zG;omega,by unfold zG;omega⟩
   have nP:¬P=Z:=by omega
   have g:=H.more (some ⟨54,2,false,[p.V]⟩);have w:=N;rw[zZ]at w;by_cases hc:n<WJ x.zs i+y.rest
   case neg=>rw[zj hc,wN]at hd;rw[wc.V]at g;simp[z,A,B,m,o,r,s,J,K,L,M,v,Q,wc.V,w,nP,X,wa,hc,W];exact⟨by omega,by omega,(zZ x).symm,d,g,hd⟩
   rw[zf hc]at hd;have hdl:d.length+p.qS.length≤2097152:=by have:=zD List.length hd;simp only[ye]at this;omega
   obtain⟨v',Y',Z',ha1,H8,TK,N6⟩:=g.zcl (P:=prog) (t:=48) (ys:=p.qS.map zM) iI ff iJ iK rfl (by omega) (by simp[maxLen];omega) (by simp;omega);have hbP2:Y' P=some ⟨34,13,false,[x.V]⟩:=by rw[N6 P (by omega) (YY H N rfl),zw _ _ _ _ nP];exact N
   rw[wc.V]at ha1;simp[z,A,B,m,o,r,s,J,K,L,M,v,Q,wc.V,w,nP,X,wa,hc,W,ha1];exact⟨by omega,by omega,hbP2,d++p.qS,by rw[yz];exact H8,by rw[qj,←qj p.qS];exact hd⟩
  ·obtain rfl:i=x.zs.length:=by omega
   rw[zl,XK,wN]at hd;simp[z,A,B,m,o,r,s,J,K,L,M,hw];exact⟨by omega,d,H,hd⟩
 ·obtain rfl:k=b.zE.length:=by omega
  rw[zl,rj,yh]at hd;subst hd;obtain⟨Y',htc⟩:=MO H (tp E) hTl;have hmc:=fun Y Z=>WI (fun a b=>.sl 2 ((vY a b).map zM)) (fun a b=>j7 a∧j7 b) [(0,100000)] (WH (kv d)) Y Z ⟨fR (by decide),(AE E).1⟩
  have hec:=fun Y Z=>gd Y Z
  simp only[qF,kp,zM]at hmc;simp[z,A,B,m,o,r,s,hec,htc,hmc,wH,f18]
theorem rk:zg prog 18 (zi false [] (MP fun b s t n=>.sl 2 ((jY b s t n).map zM))):=
 qq (fn:=f18) Rm ⟨_,func18,by kernel_rfl,rfl,by kernel_rfl⟩ false [] _ fun args r h=>by obtain⟨⟨b,s,t,n⟩,rfl,a,rfl⟩:=zr h;exact⟨by simp[f18],_,dY b s t n a,qm _⟩
noncomputable def jB (b:Bk) (s:za) (n:Int):Int:=if qQ b=0 then(if(vd (b.zE.map Xp.name) s).2=true then(if vT n=true then 0 else 1)else 5)else qQ b
noncomputable def JG (b:Bk) (s:za) (n:Int):Nat:=if jB b s n=0 then(vd (b.zE.map Xp.name) s).1 else 0
noncomputable abbrev Ccx:Ctx:=qb prog [(13,zi false [] (pF fun b=>int (qQ b))),(14,zi false [] MD),(17,zi false [] (fK vT))]
theorem zed:AM.Good Ccx (fun g=>([]:List Nat).contains g):=zI mixed ⟨tm,by simp,MF,by simp,VA,by simp,trivial⟩
theorem zaA(b:Bk)(s:za)(n:Int)(h:b.cb≤zG):zz Ccx f80 [.agg b.V,str s,int n]=some (.yb [int (JG b s n),int (jB b s n)]):=by
 refine zo rfl ?_;have k:=qJ ZG b.zE;have l:b.cb=wg wh.cb b.zk+wg yI.cb b.holds+wg Xp.cb b.zE:=rfl;have g:=fun Y Z=>XJ (fun b=>int (qQ b)) b Y Z h
 unfold zG at h;have d:=fun Y Z=>ME b.zE s Y Z (by unfold zG;omega)
 simp only[Bk.V]at g;by_cases c:qQ b=0
 case neg=>
  have a:jB b s n=qQ b:=by unfold jB;rw[zj c]
  have e:JG b s n=0:=by unfold JG;rw[a,zj c]
  have j:(qQ b != 0)=true:=by simpa using c
  simp[Bk.V,g,j,a,e,wH,f80]
 cases f:(vd (b.zE.map Xp.name) s).2
 ·have a:jB b s n=5:=by unfold jB;rw[zf c,f,zj (by simp)]
  have e:JG b s n=0:=by unfold JG;rw[a,zj (by decide)]
  simp[Bk.V,g,c,d,f,a,e,wH,f80]
 cases i:vT n
 ·have a:jB b s n=1:=by unfold jB;rw[zf c,f,zf rfl,i,zj (by simp)]
  have e:JG b s n=0:=by unfold JG;rw[a,zj (by decide)]
  simp[Bk.V,g,c,d,f,i,a,e,wH,f80]
 ·have a:jB b s n=0:=by unfold jB;rw[zf c,f,zf rfl,i,zf rfl]
  have e:JG b s n=(vd (b.zE.map Xp.name) s).1:=by unfold JG;rw[a,zf rfl]
  simp[Bk.V,g,c,d,f,i,a,e,wH,f80]
theorem Ro:zg prog 80 (zi false [] (nT fun b s n=>.yb [int (JG b s n),int (jB b s n)])):=
 qq (fn:=f80) zed ⟨_,func80,by kernel_rfl,rfl,by kernel_rfl⟩ false [] _ fun args r h=>by obtain⟨⟨b,s,n⟩,rfl,a,rfl⟩:=zr h;exact⟨by simp[f80],_,zaA b s n a,qm _⟩
theorem YA{b:Bk}{s:za}{n:Int}(h:jB b s n=0):qQ b=0∧(vd (b.zE.map Xp.name) s).2=true∧vT n=true:=by
 unfold jB at h;split at h
 ·rename_i a;split at h
  ·rename_i d;split at h
   ·rename_i e;exact⟨a,d,e⟩
   ·exact absurd h (by simp)
  ·exact absurd h (by simp)
 ·rename_i c;exact absurd h c
end Go.Q
namespace Go.Proofs
open Go.Shelf
end Go.Proofs
namespace Go.Q
theorem lO(n:Int):∀(l:List wc) (a:List Sp),jq a n l=a∨∃p∈l,jq a n l=p.qS
 |[],a=>.inl rfl
 |p::l,a=>by
  simp only[jq];rcases lO n l (if p.at_≤n then p.qS else a)with h|⟨q,b,h⟩
  ·split at h
   ·rename_i c;rw[zf c];exact .inr ⟨p,by simp,h⟩
   ·rename_i c;rw[zj c];exact .inl h
  ·exact .inr ⟨q,by simp[b],h⟩
theorem zaB{s:za}(h:yn s=true):s≠[]:=fun e=>by rw[e]at h;exact absurd h (by decide)
theorem Hc{b:Bk}(h:qQ b=0)(s:za):0≤kG b.zk s∧kG b.zk s≤100000000:=by
 unfold kG;split
 ·rename_i y a;exact(Wl h).1 y (zO a)
 ·omega
theorem Hd{b:Bk}(h:qQ b=0)(s t:za)(n:Int):zlN (-1) (jY b s t n)∧Below 100000 (jY b s t n)∧(∀x∈jY b s t n,0≤x.1)∧∀k,mem (jY b s t n) k↔mem [(0,100000)] k∧¬mem (rj s t (kG b.zk s) n b.zE) k:=by
 obtain⟨⟨e,_⟩,g⟩:=AE (Hb h s t (kG b.zk s) n);have f:zlN (-1) [((0:Int),(100000:Int))]:=⟨by omega,by omega,trivial⟩;have d:zlN (-1) (jY b s t n):=Vu f e;have a:∀k,mem (jY b s t n) k↔mem [(0,100000)] k∧¬mem (rj s t (kG b.zk s) n b.zE) k:=fun k=>by unfold jY;rw[dN f e,g]
 refine⟨d,fun x c=>?_,fun x c=>?_,a⟩
 ·have:=kB d x c;have:=((a (x.2-1)).1 ⟨x,c,by omega,by omega⟩).1;rw[Vt]at this;omega
 ·have:=kB d x c;have:=((a x.1).1 ⟨x,c,by omega,by omega⟩).1;rw[Vt]at this;omega
def zhH(a b:Sp):Prop:=a.2≤b.1∨b.2≤a.1
theorem nV:∀{lo:Int} {l:List Sp},zlN lo l→∀s∈l,lo<s.1
 |_,[],_,s,h=>by simp at h
 |lo,x::l,a,s,h=>by
  rcases zL.1 h with rfl|h
  ·exact a.1
  ·have:=nV a.2.2 s h;have:=a.1;have:=a.2.1;omega
theorem ct:∀(l m:List Sp) {lo e:Int},zlN lo l→zlN e m→kS l m=false→∀a∈l,∀c∈m,zhH a c
 |[],m,_,_,_,_,_,a,b,c,d=>by simp at b
 |x::l,[],_,_,_,_,_,a,b,c,d=>by simp at d
 |x::l,y::m,lo,e,f,i,h,a,b,c,d=>by
  rw[kS]at h;split at h
  ·rename_i g;have j:=ct l (y::m) f.2.2 i h;rcases zL.1 b with rfl|b
   ·left;rcases zL.1 d with rfl|d
    ·exact g
    ·have:=nV i.2.2 c d;have:=i.2.1;omega
   ·exact j a b c d
  ·split at h
   ·rename_i g;have j:=ct (x::l) m f i.2.2 h;rcases zL.1 d with rfl|d
    ·right;rcases zL.1 b with rfl|b
     ·exact g
     ·have:=nV f.2.2 a b;have:=f.2.1;omega
    ·exact j a b c d
   ·exact absurd h (by simp)
termination_by l m=>l.length+m.length
theorem D4{a b:za}(h:kb a b=0):yn a=true∧Op.bytesLess b a=true:=by
 unfold kb at h;split at h
 ·rename_i c;split at h
  ·exact absurd h (by simp)
  ·rename_i d;exact⟨c,zlQ (by simpa using d)⟩
 ·exact absurd h (by simp)
theorem gf:∀{xs:List wh} {a:za} {l:List za},(ym a l xs).1=0→(∀y∈xs,Op.bytesLess a y.name=true)∧DL (xs.map wh.name)∧(ym a l xs).2=l++xs.map wh.qI
 |[],_,l,_=>⟨fun y b=>by simp at b,.nil,by simp[ym]⟩
 |x::xs,a,l,h=>by
  simp only[ym]at h⊢;split at h
  ·rename_i d;rw[zf d];split at h
   ·rename_i e;rw[zf e];split at h
    ·rename_i i;rw[zf i];have f:=(D4 d).2;obtain⟨g,j,k⟩:=gf h;refine⟨fun y b=>?_,?_,?_⟩
     ·rcases zL.1 b with rfl|b
      ·exact f
      ·exact Wi f (g y b)
     ·rw[qF];exact wv.2 ⟨fun s hs=>by obtain⟨y,b,rfl⟩:=qX.1 hs;exact g y b,j⟩
     ·rw[k];unfold xn;rw[zf e];simp
    ·exact absurd h (by simp)
   ·rename_i c;exact absurd h c
  ·rename_i c;exact absurd h c
theorem IL{L:List wh}:∀{xs:List yI} {a:za} {l:List za},(jA L a l xs).1=0→(jA L a l xs).2=l++xs.map yI.qI
 |[],_,l,_=>by simp[jA]
 |x::xs,a,l,h=>by
  simp only[jA]at h⊢;split at h
  ·rename_i d;rw[zf d];split at h
   ·rename_i b;rw[zf b];split at h
    ·rename_i e;rw[zf e,IL h];unfold xn;rw[zf b];simp
    ·rename_i c;exact absurd h c
   ·rename_i c;exact absurd h c
  ·rename_i c;exact absurd h c
theorem zee{L:List wh}{a:za}{l:List za}{x:Xp}(h:(Z9 L a l x).1=0):(Z9 L a l x).2=l++[x.qI]:=by
 unfold Z9 at h⊢;split at h
 ·rename_i d;rw[zf d];split at h
  ·rename_i e;rw[zf e];split at h
   ·rename_i f;rw[zf f];split at h
    ·rename_i g;rw[zf g];split at h
     ·rename_i b;rw[zf b];split at h
      ·rename_i i;rw[zf i];unfold xn;rw[zf b]
      ·rename_i c;exact absurd h c
     ·rename_i c;exact absurd h c
    ·rename_i c;exact absurd h c
   ·exact absurd h (by simp)
  ·exact absurd h (by simp)
 ·rename_i c;exact absurd h c
theorem IM{L:List wh}:∀{xs:List Xp} {a:za} {l:List za},(Qj L a l xs).1=0→(∀y∈xs,Op.bytesLess a y.name=true)∧DL (xs.map Xp.name)
 |[],_,_,_=>⟨fun y b=>by simp at b,.nil⟩
 |x::xs,a,l,h=>by
  simp only[Qj]at h;split at h
  ·rename_i c;have d:=(D4 (AD c).2.2.2.2).2;obtain⟨e,f⟩:=IM h;refine⟨fun y b=>?_,?_⟩
   ·rcases zL.1 b with rfl|b
    ·exact d
    ·exact Wi d (e y b)
   ·rw[qF];exact wv.2 ⟨fun s hs=>by obtain⟨y,b,rfl⟩:=qX.1 hs;exact e y b,f⟩
  ·rename_i c;exact absurd h c
theorem AF{b:Bk}(h:qQ b=0):DL (b.zk.map wh.name)∧DL (b.zE.map Xp.name):=by
 unfold qQ at h;split at h
 ·exact absurd h (by simp)
 split at h
 ·rename_i a;split at h
  ·split at h
   ·rename_i d;exact⟨(gf a).2.1,(IM d).2⟩
   ·rename_i c;exact absurd h c
  ·rename_i c;exact absurd h c
 ·rename_i c;exact absurd h c
theorem VC{l:List Sp}(b:zlN (-1) l)(c:∀k,mem l k→0≤k∧k<100000):j7 l:=by
 have a:=kB b;have d:Below 100000 l:=fun s hs=>by have Y:=a s hs;have:=c (s.2-1) ⟨s,hs,by omega,by omega⟩;omega
 refine⟨b,d,fun s hs=>(c s.1 ⟨s,hs,jb _,a s hs⟩).1,?_⟩;rcases e:l with _|⟨s,m⟩
 ·simp
 ·rw[e]at b d c;have g:=(c s.1 ⟨s,by simp,jb _,by have:=b.2.1;omega⟩).1;have h:=ay b.2.2 (fun x f=>d x (by simp[f])) (d s (by simp));have i:=b.2.1;simp only[qa];omega
theorem Rp{a b:List Sp}(c:j7 a)(d:j7 b):j7 (Wh a b)∧∀k,mem (Wh a b) k↔mem a k∨mem b k:=by obtain⟨f,e⟩:=cn c d;exact⟨VC f fun k g=>((e k).1 g).elim (Yx c) (Yx d),e⟩
theorem nW{a b:List Sp}(c:j7 a)(d:j7 b):j7 (vY a b)∧∀k,mem (vY a b) k↔mem a k∧¬mem b k:=by
 have e:∀k,mem (vY a b) k↔mem a k∧¬mem b k:=fun k=>dN c.1 d.1
 exact⟨VC (Vu c.1 d.1) fun k f=>Yx c ((e k).1 f).1,e⟩
theorem dZ:j7 []:=⟨trivial,(fun s hs=>by cases hs),(fun s hs=>by cases hs),by simp⟩
end Go.Q
namespace Go.Proofs
open Go.Shelf
def Tryz.Ob:Go.Shelf.Ren:=⟨fun|6=>23|15=>68|14=>67|28=>106|29=>107|20=>98|21=>99|22=>100|23=>101|24=>102|25=>103|26=>104|27=>105|46=>132|47=>133|48=>134|49=>135|50=>136|57=>169|n=>n,fun|22=>24|24=>34|25=>58|3=>3|39=>109|0=>0|53=>147|55=>149|4=>4|46=>141|45=>140|50=>43|5=>5|9=>9|66=>172|70=>176|76=>196|77=>191|n=>n,fun|n=>n⟩
theorem Tryz.zdc:Go.Proofs.SlLaysF0.n6 prog Tryz.Ob:={
 mixed:=by kernel_rfl
 f6:=⟨f23.name,by decide,func23.trans (zD some (by kernel_rfl))⟩
 f14:=⟨f67.name,by decide,func67.trans (zD some (by kernel_rfl))⟩
 f15:=func68.trans (zD some (by kernel_rfl))
 f20:=⟨f98.name,by decide,func98.trans (zD some (by kernel_rfl))⟩
 f21:=⟨f99.name,by decide,func99.trans (zD some (by kernel_rfl))⟩
 f22:=⟨f100.name,by decide,func100.trans (zD some (by kernel_rfl))⟩
 f23:=⟨f101.name,by decide,func101.trans (zD some (by kernel_rfl))⟩
 f24:=⟨f102.name,by decide,func102.trans (zD some (by kernel_rfl))⟩
 f25:=⟨f103.name,by decide,func103.trans (zD some (by kernel_rfl))⟩
 f26:=⟨f104.name,by decide,func104.trans (zD some (by kernel_rfl))⟩
 f27:=⟨f105.name,by decide,func105.trans (zD some (by kernel_rfl))⟩
 f28:=func106.trans (zD some (by kernel_rfl))
 f29:=func107.trans (zD some (by kernel_rfl))
 f46:=⟨f132.name,by decide,func132.trans (zD some (by kernel_rfl))⟩
 f47:=func133.trans (zD some (by kernel_rfl))
 f48:=func134.trans (zD some (by kernel_rfl))
 f49:=⟨f135.name,by decide,func135.trans (zD some (by kernel_rfl))⟩
 f50:=⟨f136.name,by decide,func136.trans (zD some (by kernel_rfl))⟩
 f57:=⟨f169.name,by decide,func169.trans (zD some (by kernel_rfl))⟩
 t0:=underlying0
 a0:=isAgg0
 z0:=sizeOf0
 v0:=zeroValue0
 t3:=underlying3
 a3:=isAgg3
 z3:=sizeOf3
 v3:=zeroValue3
 t4:=underlying4
 a4:=isAgg4
 z4:=sizeOf4
 v4:=zeroValue4
 t5:=underlying5
 a5:=isAgg5
 z5:=sizeOf5
 v5:=zeroValue5
 t9:=underlying9
 a9:=isAgg9
 z9:=sizeOf9
 v9:=zeroValue9
 t22:=underlying24
 a22:=isAgg24
 z22:=sizeOf24
 v22:=zeroValue24
 t25:=underlying58
 a25:=isAgg58
 z25:=sizeOf58
 v25:=zeroValue58
 t39:=underlying109
 a39:=isAgg109
 z39:=sizeOf109
 v39:=zeroValue109
 t45:=underlying140
 a45:=isAgg140
 z45:=sizeOf140
 v45:=zeroValue140
 t46:=underlying141
 a46:=isAgg141
 z46:=sizeOf141
 v46:=zeroValue141
 t50:=underlying43
 a50:=isAgg43
 z50:=sizeOf43
 v50:=zeroValue43
 t53:=underlying147
 a53:=isAgg147
 z53:=sizeOf147
 v53:=zeroValue147
 t55:=underlying149
 a55:=isAgg149
 z55:=sizeOf149
 v55:=zeroValue149
 t66:=underlying172
 a66:=isAgg172
 z66:=sizeOf172
 v66:=zeroValue172
 t70:=underlying176
 a70:=isAgg176
 z70:=sizeOf176
 v70:=zeroValue176
 t76:=underlying196
 a76:=isAgg196
 z76:=sizeOf196
 v76:=zeroValue196
 t77:=underlying191
 a77:=isAgg191
 z77:=sizeOf191
 v77:=zeroValue191}
theorem Tryz.TP:Ap prog 23 13:=⟨fun _ _ V e f h i g blk off cap d w j a k b c=>AnyQ.slices_SortFunc_eq Tryz.zdc 13 isAgg34 sizeOf34 V e f h i g #[] blk off cap d w j a k b c,
 fun p cap l w=>AnyF.slices_SortFunc_none Tryz.zdc p cap l w⟩
end Go.Proofs
namespace Go.Q
noncomputable def FXX (out:Xp→Xp→O) (pre:Xp→Xp→Prop):zc→Option O:=qv (α:=Xp×Xp) (fun a=>[.agg a.1.V,.agg a.2.V]) (fun a=>pre a.1 a.2) (fun a=>out a.1 a.2)
theorem Rq(out:Xp→Xp→O)(pre:Xp→Xp→Prop)(a b:Xp)(Y:Hp)(Z:Nat)(h:pre a b):zi false [] (FXX out pre) [.agg a.V,.agg b.V] Y Z=some (out a b,Y,Z):=
 qe (Y1:=Y) (show zA Y [.agg a.V,.agg b.V]=some ([.agg a.V,.agg b.V],Y) by simp only[zA,Qh]) (zJ (V:=fun a:Xp×Xp=>[O.agg a.1.V,.agg a.2.V]) (a:=(a,b)) (fun x y e=>by obtain⟨c,d⟩:=x;obtain⟨f,g⟩:=y;simp only[zh,zK,O.agg.injEq]at e;rw[xQ e.1,xQ e.2]) h) (.inr (by simp only[qN,XI,List.all_nil,Bool.and_self]))
noncomputable def cfX (x y:zc):Int:=match(x[0]?:Option O),(y[0]?:Option O)with
 |some (O.v (.string a)),some (O.v (.string b))=>YF a.data.toList b.data.toList
 |_,_=>0
theorem ea(a b:Xp):cfX a.V b.V=YF a.name b.name:=by simp[cfX,zZ]
noncomputable abbrev Ccx1:Ctx:=qb prog [(25,zi false [] (Me YF))]
theorem zaC:AM.Good Ccx1 (fun g=>[25].contains g):=zI mixed ⟨va,fun _=>zt _ _,trivial⟩
theorem He:zg prog 24 (zi false [] (FXX (fun a b=>int (YF a.name b.name)) fun _ _=>True)):=
 qq (fn:=f24) zaC ⟨_,func24,by kernel_rfl,rfl,by kernel_rfl⟩ false [] _ fun args r h=>by obtain⟨⟨a,b⟩,rfl,_,rfl⟩:=zr h;exact⟨zC (ze 2) (by decide),_,zo rfl (by simp[zZ,f24]),qm _⟩
def domX(x:zc):Prop:=∃a:Xp,x=a.V
theorem zaD:IC prog 24 13 cfX domX:=
 ⟨fun args w=>enters_of func24 (by kernel_rfl) rfl args w,_,He,fun x y _ _ c d=>by obtain⟨a,rfl⟩:=c;obtain⟨b,rfl⟩:=d;rw[ea];exact Rq _ _ a b _ _ trivial⟩
theorem D5:zg prog 23 (KA 13 24 cfX domX):=
 Xw (by omega) ⟨_,func23,by decide,by kernel_rfl⟩ Tryz.TP zaD
theorem IP(l:List Xp):Je cfX (l.map Xp.V) where
 irrefl x d:=by obtain⟨s,hs,rfl⟩:=qX.1 d;rw[ea,aN.refl];omega
 trans x d y g z h e f:=by obtain⟨a,i,rfl⟩:=qX.1 d;obtain⟨b,j,rfl⟩:=qX.1 g;obtain⟨c,k,rfl⟩:=qX.1 h;rw[ea]at e f⊢;exact aN.trans e f
 ntrans x d y g z h e f:=by obtain⟨a,i,rfl⟩:=qX.1 d;obtain⟨b,j,rfl⟩:=qX.1 g;obtain⟨c,k,rfl⟩:=qX.1 h;rw[ea]at e f⊢;exact aN.ntrans e f
theorem tq(l:List Xp):∃m:List Xp,Zo cfX (l.map Xp.V)=m.map Xp.V∧m.Perm l∧m.Pairwise (fun a b=>0≤YF b.name a.name):=by
 obtain⟨m,f,d⟩:=dR (YW (IP l));refine⟨m,d,f,?_⟩;have e:=Vp (IP l);rw[d,Ll]at e;refine e.imp_of_mem fun{a b} g h c=>?_
 rw[ea]at c;omega
noncomputable def jR (l:List Xp):List Xp:=(tq l).choose
theorem YB(l:List Xp):Zo cfX (l.map Xp.V)=(jR l).map Xp.V∧(jR l).Perm l∧(jR l).Pairwise (fun a b=>0≤YF b.name a.name):=(tq l).choose_spec
theorem Hf{l:List Xp}(o:l.length≤2097152){Y:Hp}{Z:Nat}{v:O}(f:q6 Y Z 34 13 v (l.map Xp.V)) :
  ∃Y',KA 13 24 cfX domX [v,.fn (.func 24) [] []] Y Z=some (.yb [],Y',Z)∧q6 Y' Z 34 13 v ((jR l).map Xp.V)∧∀id,(∀n,v≠.own id 0 n)→Y' id=Y id:=by
 have a:=(YB l).1;rcases f with⟨rfl,g⟩|⟨id,hid,rfl,d⟩
 ·refine⟨Y,rfl,.inl ⟨rfl,?_⟩,fun _ _=>rfl⟩;rw[←a,g];rfl
 ·by_cases e:l=[]
  ·subst e;have:jR []=[]:=by
    have:((jR []).map Xp.V)=[]:=by rw[←a];rfl
    simpa using this
   rw[this];exact⟨Y,rfl,.inr ⟨id,hid,rfl,d⟩,fun _ _=>rfl⟩
  ·have b:¬(l.map Xp.V).length=0:=by simpa using e
   have c:((jR l).map Xp.V).length=(l.map Xp.V).length:=by rw[←a,Yt (IP l)]
   refine⟨qZ Y id (some ⟨34,13,true,(jR l).map Xp.V⟩),?_,.inr ⟨id,hid,by rw[c],by simp⟩,fun j h=>qY _ _ _ _ (by rintro rfl;exact h _ rfl)⟩;show(if(l.map Xp.V).length=0 then _ else _)=_;rw[zj b,d];simp only;have i:((l.map Xp.V).drop 0).take (l.map Xp.V).length=l.map Xp.V:=by rw[yj,yk]
   have k:(l.map Xp.V).drop (0+(l.map Xp.V).length)=[]:=by rw[wD,zl]
   rw[i,k,zf ⟨rfl,rfl,rfl,by simp,by simp;omega,IP l,fun x m=>by obtain⟨s,hs,rfl⟩:=qX.1 m;exact⟨s,rfl⟩⟩,a]
   simp
theorem zlW:∀{lo:Int} {l:List Sp} {n:Int},zlN lo l→0≤n→n≤wM l→zlN lo (wS l n)∧wM (wS l n)=n∧∀k,mem (wS l n) k→mem l k
 |lo,[],n,_,d,a=>by
  simp only[wM]at a;obtain rfl:n=0:=by omega
  exact⟨trivial,rfl,fun k hk=>hk⟩
 |lo,s::l,n,e,d,a=>by
  by_cases b:n=0
  ·subst b;rw[gW];exact⟨trivial,rfl,fun k hk=>absurd hk (Vs k)⟩
  ·obtain⟨f,r,c⟩:=e;simp only[wM]at a;rw[wS,zj b];obtain⟨m,g⟩:∃m,min n (s.2-s.1)=m:=⟨_,rfl⟩;rw[g];have i:0<m∧m≤n∧m≤s.2-s.1∧(m=n∨m=s.2-s.1):=by omega
   have j:0≤wM l:=by
    have:∀{lo:Int} {l:List Sp},zlN lo l→0≤wM l:=by
     intro lo l
     induction l generalizing lo with
     |nil=>intro _;simp[wM]
     |cons s l o=>intro h;have:=o h.2.2;have:=h.2.1;simp only[wM];omega
    exact this c
   obtain⟨p,t,q⟩:=zlW c (n:=n-m) (by omega) (by omega);refine⟨⟨f,by simp only;omega,nE p (by simp only;omega)⟩,by simp only[wM];omega,fun k hk=>?_⟩;rw[mem_cons]at hk⊢;rcases hk with hk|hk
   ·simp only at hk;left;omega
   ·exact .inr (q k hk)
def wJ:Bk:=⟨[],[],[]⟩
noncomputable def yD (b:Bk):Bk×Int:=if qQ b=0 then(b,0)else(wJ,qQ b)
def Xp.begun(x:Xp)(n:Int)(l:List Sp):Xp:=⟨x.name,x.qi,x.flag,x.cond,x.qI,x.jX,[⟨n,l⟩]⟩
def Xp.more(x:Xp)(n:Int)(l:List Sp):Xp:=⟨x.name,x.qi,x.flag,x.cond,x.qI,x.jX,x.zs++[⟨n,l⟩]⟩
def Bk.put(b:Bk)(i:Nat)(n:Int)(l:List Sp):Bk:=⟨b.zk,b.holds,match b.zE[i]? with
 |some x=>b.zE.set i (x.more n l)
 |none=>b.zE⟩
theorem AG{b:Bk}{i:Nat}{x:Xp}(h:b.zE[i]?=some x)(n:Int)(l:List Sp):(b.put i n l).zE=b.zE.set i (x.more n l):=by simp only[Bk.put,h]
theorem Rr{b:Bk}(h:qQ b=0){j:Nat}{x:Xp}(a:b.zE[j]?=some x):vd (b.zE.map Xp.name) x.name=(j,true):=
 GU (AF h).2 (by rw[wy,a];rfl)
theorem XL{b:Bk}(h:qQ b=0)(a c:za)(n:Int):j7 (jY b a c n):=by obtain⟨d,_⟩:=AE (Hb h a c (kG b.zk a) n);have e:j7 [(0,100000)]:=⟨⟨by omega,by omega,trivial⟩,fun s hs=>by simp at hs;subst hs;simp,fun s hs=>by simp at hs;subst hs;simp,by simp⟩;exact(nW e d).1
theorem KK{l:List Sp}{n:Int}(h:j7 l)(d:0≤n)(e:n≤wM l):j7 (wS l n)∧wM (wS l n)=n∧∀k,mem (wS l n) k→mem l k:=by obtain⟨a,b,c⟩:=zlW h.1 d e;exact⟨VC a fun k f=>Yx h (c k f),b,c⟩
noncomputable def yp (b:Bk) (e:Xp) (n at_:Int):Bk×Int:=
 if qQ b=0 then
  if e.zs=[]then
   if(vd (b.zE.map Xp.name) e.name).2=true then(wJ,7)
   else if jg n 1 100000=true then
    if(vd (b.zk.map wh.name) e.qi).2=true then
     if vT at_=true then
      if wM (jY b e.qi [] at_)<n then(wJ,9)
      else yD ⟨b.zk,b.holds,jR (b.zE++[e.begun at_ (wS (jY b e.qi [] at_) n)])⟩
     else(wJ,1)
    else(wJ,5)
   else(wJ,1)
  else(wJ,3)
 else(wJ,qQ b)
theorem IQ{b:Bk}(h:(yD b).2=0):qQ b=0∧yD b=(b,0):=by
 unfold yD at h⊢;split at h
 ·rename_i a;exact⟨a,by rw[zf a]⟩
 ·rename_i a;exact(a h).elim
theorem IU{b:Bk}(h:(yD b).2≠0):(yD b).1=wJ:=by
 unfold yD at h⊢;split at h
 ·simp at h
 ·rename_i a;rw[zj a]
theorem Rs{b:Bk}{e:Xp}{n at_:Int}(h:(yp b e n at_).2≠0):(yp b e n at_).1=wJ:=by
 unfold yp at h⊢
 repeat' split at h
 all_goals first|(simp_all;done)|skip
 all_goals (repeat' split)<;>first|rfl|(simp_all;done)|skip
 all_goals exact IU (by simp_all)
theorem Rt{b:Bk}{e:Xp}{n at_:Int}(h:(yp b e n at_).2=0):qQ b=0∧vT at_=true∧0≤n∧n≤wM (jY b e.qi [] at_) ∧
  yp b e n at_=(⟨b.zk,b.holds,jR (b.zE++[e.begun at_ (wS (jY b e.qi [] at_) n)])⟩,0)∧qQ ⟨b.zk,b.holds,jR (b.zE++[e.begun at_ (wS (jY b e.qi [] at_) n)])⟩=0:=by
 unfold yp at h⊢;split at h
 case isFalse a=>exact(a h).elim
 rename_i a;split at h
 case isFalse=>simp at h
 rename_i Y;split at h
 ·simp at h
 rename_i hs;split at h
 case isFalse=>simp at h
 rename_i c;split at h
 case isFalse=>simp at h
 rename_i f;split at h
 case isFalse=>simp at h
 rename_i d;split at h
 ·simp at h
 rename_i g;obtain⟨i,j⟩:=IQ h;have k:=(ZA n 1 100000).1 c;rw[zf a,zf Y,zj hs,zf c,zf f,zf d,zj g];exact⟨a,d,by omega,by omega,j,i⟩
def xD(at_:Int)(l:List wc):Bool:=l.any fun p=>decide (at_≤p.at_)
noncomputable def kF (b:Bk) (s:za) (n at_:Int):Bk×Int:=
 if jB b s at_=0 then
  match b.zE[(vd (b.zE.map Xp.name) s).1]? with
  |none=>(wJ,5)
  |some x=>
   if(xD at_ x.zs||(jq [] at_ x.zs).isEmpty)=true then(wJ,11)
   else if jg n 1 100000=true then
    if wM (vY (jY b x.qi s at_) (jq [] at_ x.zs))<n then(wJ,9)
    else yD (b.put (vd (b.zE.map Xp.name) s).1 at_ (Wh (jq [] at_ x.zs) (wS (vY (jY b x.qi s at_) (jq [] at_ x.zs)) n)))
   else(wJ,1)
 else(wJ,jB b s at_)
theorem zaE{b:Bk}{s:za}{n at_:Int}(h:(kF b s n at_).2=0):∃x,jB b s at_=0∧b.zE[(vd (b.zE.map Xp.name) s).1]?=some x∧0≤n∧n≤wM (vY (jY b x.qi s at_) (jq [] at_ x.zs)) ∧
  kF b s n at_=(b.put (vd (b.zE.map Xp.name) s).1 at_ (Wh (jq [] at_ x.zs) (wS (vY (jY b x.qi s at_) (jq [] at_ x.zs)) n)),0) ∧
  qQ (b.put (vd (b.zE.map Xp.name) s).1 at_ (Wh (jq [] at_ x.zs) (wS (vY (jY b x.qi s at_) (jq [] at_ x.zs)) n)))=0:=by
 unfold kF at h⊢;split at h
 case isFalse a=>exact(a h).elim
 rename_i a;rw[zf a];cases c:b.zE[(vd (b.zE.map Xp.name) s).1]? with
 |none=>rw[c]at h;simp at h
 |some x=>
  rw[c]at h;simp only at h⊢;split at h
  ·simp at h
  rename_i e;split at h
  case isFalse=>simp at h
  rename_i d;split at h
  ·simp at h
  rename_i f;obtain⟨g,i⟩:=IQ h;have j:=(ZA n 1 100000).1 d;rw[zj e,zf d,zj f];exact⟨x,a,rfl,by omega,by omega,i,g⟩
end Go.Q
namespace Go.AM
variable{dr:Prop}
def unBy:List zc→Option za
 |[]=>some []
 |[.v (.int .u8 z)]::l=>if z=(UInt8.ofNat z.toNat).toNat then(unBy l).map (UInt8.ofNat z.toNat::·)else none
 |_=>none
def zef(U:TypeId)(Y:Hp)(m n:Nat)(c:jz):Option (za×Hp):=
 if c.e=U∧c.s=1∧c.arr=true then(unBy c.es).bind fun l=>if n=l.length then some (l,qZ Y m none)else none else none
def zhI(T U:TypeId)(Y:Hp)(id:Nat)(b:jz):Option (za×Hp):=
 if b.e=T∧b.s=2∧b.arr=false then match b.es with
  |[[.v (.pointer none),.nil]]=>some ([],Y)
  |[[.ref i 0 0,.own m 0 n]]=>if i=id∧m≠id then(Y m).bind (zef U Y m n)else none
  |_=>none
 else none
section
variable{P:Program}{w w':World}{S S':Nat→Prop}{G G':Nat→GI}{Y Y':Hp}{Z Z':Nat}
theorem kJ.TQ{n:World}{j:Nat→Prop}{d:Nat→GI}{Y2:Hp}{e:Nat}(h:kJ dr P Y Z S G w Y2 e j d n){id:Nat}{s b:jz}(v:Y id=some s)(hid:id<Z)(x:vu P n j d e (d id) b)(y:¬j (d id).g)
  (hd:∀k c,Y2 k=some c→k≠id→(d k).g≠(d id).g):kJ dr P Y Z S G w (qZ Y2 id (some b)) e j d n:=by
 have i:∀k c,qZ Y2 id (some b) k=some c→(k=id∧c=b)∨(k≠id∧Y2 k=some c):=by
  intro k c a;by_cases f:k=id
  ·subst f;simp at a;exact .inl ⟨rfl,a.symm⟩
  ·rw[qY _ _ _ _ f]at a;exact .inr ⟨f,a⟩
 have z:=h.up;refine⟨⟨h.inv.st,fun k c a=>?_,fun k c a=>?_,fun k c a=>?_,fun k o c p a q r=>?_,h.inv.eR⟩,h.up,h.loc,h.ZC,h.from_,fun k c a=>?_,h.fr⟩
 ·rcases i k c a with⟨rfl,_⟩|⟨_,a⟩
  ·omega
  ·exact h.inv.top k c a
 ·rcases i k c a with⟨rfl,rfl⟩|⟨_,a⟩
  ·exact x
  ·exact h.inv.live k c a
 ·rcases i k c a with⟨rfl,rfl⟩|⟨_,a⟩
  ·exact y
  ·exact h.inv.apart k c a
 ·rcases i k c a with⟨l,_⟩|⟨l,t⟩<;>rcases i o p q with⟨m,_⟩|⟨m,u⟩
  ·rw[l,m]
  ·exact(hd o p u m (by rw[←r,l])).elim
  ·exact(hd k c t l (by rw[r,m])).elim
  ·exact h.inv.inj k o c p t u r
 ·rcases i k c a with⟨rfl,rfl⟩|⟨_,a⟩
  ·exact .inl ⟨k,s,v,by rw[h.loc k hid]⟩
  ·exact h.own k c a
end
structure zko (T U:TypeId) (Y:Hp) (Z:Nat) (l:List UInt8) (b0:jz) (K:Hp→Hp):Prop where
 pos:0<Z
 top:∀j b,Y j=some b→j<Z
 at0:Y 0=some b0
 ok:∀h:Hp,(∀j,j<Z→h j=Y j)→zhI T U h 0 b0=some (l,K h)
 ZC:∀(h:Hp) (j:Nat),Z≤j→K h j=h j
section
variable{C:Ctx}{pf:FuncId→Bool}{f:FuncId}{fn:Func}{code:Code}
end
variable{dr:Prop}
def XM(Y:Hp):List zc→Option (List zc×Hp)
 |[]=>some ([],Y)
 |c::l=>(qU Y c).bind fun p=>(XM p.2 l).map fun q=>(p.1::q.1,q.2)
theorem W6:∀{xs ys:zc} {Y Y1:Hp},qU Y xs=some (ys,Y1)→ys.length=xs.length
 |[],ys,Y,Y1,h=>by
  simp only[qU]at h;injection h with h
  injection h with a _;subst a;rfl
 |x::l,ys,Y,Y1,h=>by
  simp only[qU]at h;split at h
  ·split at h
   ·rename_i r c b;injection h with h
    injection h with a _;subst a;simp[W6 b]
   ·cases h
  ·cases h
section
variable{P:Program}{w:World}{G:Nat→GI}{Z:Nat}
theorem XN:∀{e d:List zc} {Y Y1:Hp} {S:Nat→Prop} (us:Nat→Nat→Value) (_:Inv P w S G Y Z),XM Y e=some (d,Y1) →
  (∀(i j:Nat) (c:zc) (f:O),e[i]?=some c→c[j]?=some f→qK w S G Z f (us i j)) →
  ∃s,kJ dr P Y Z S G w Y1 Z s G w∧d.length=e.length∧(∀(i j:Nat) (c:zc) (f:O),d[i]?=some c→c[j]?=some f→wT w s f (us i j)) ∧
   ∀(i:Nat) (c g:zc),e[i]?=some c→d[i]?=some g→g.length=c.length
 |[],d,Y,Y1,S,us,k,h,o=>by
  simp only[XM]at h;injection h with h
  injection h with t v;subst t;subst v;exact⟨S,.refl k,rfl,fun i j c f h=>by simp at h,fun i c g h=>by simp at h⟩
 |c::l,d,Y,Y1,S,us,k,h,o=>by
  simp only[XM]at h;obtain⟨⟨ys,t⟩,p,h⟩:=j5.1 h;obtain⟨⟨l',v⟩,y,h⟩:=zX h;injection h with z q
  subst z;subst q;have A:Zip (qK w S G Z) c ((List.range c.length).map (us 0)):=⟨by simp,fun j f u a b=>by have m:=(zq.1 a).1;simp[m]at b;subst b;exact o 0 j c f rfl a⟩
  obtain⟨H,n,B,_,_⟩:=Qt (dr:=dr) k p A;have C:=n.same k;obtain⟨D,x,q,E,F⟩:=XN (fun i j=>us (i+1) j) n.inv y (fun i j g f a b=>(o (i+1) j g f (by simpa using a) b).mono C (ze _) (fun _ _=>rfl));refine⟨D,n.trans x,by simp[q],fun i j g f a b=>?_,fun i g r a b=>?_⟩
  ·cases i with
   |zero=>simp at a;subst a;have m:=(zq.1 b).1;rw[W6 p]at m;exact(B.2 j f (us 0 j) b (by simp[m])).mono (x.same n.inv)
   |succ i=>exact E i j g f (by simpa using a) b
  ·cases i with
   |zero=>simp at a b;subst a;subst b;exact W6 p
   |succ i=>exact F i g r (by simpa using a) (by simpa using b)
def Zq(Y:Hp):O→Option (O×Hp)
 | .own id 0 n=>match Y id with
  |some b=>if b.arr=true then we Y (.own id 0 n)else if n=b.es.length then(XM (qZ Y id none) b.es).map fun p=>(.sl b.s p.1,p.2)else none
  |none=>none
 |x=>we Y x
def YJ(Y:Hp):zc→Option (zc×Hp)
 |[]=>some ([],Y)
 |x::l=>(Zq Y x).bind fun p=>(YJ p.2 l).map fun q=>(p.1::q.1,q.2)
def lP(Y:Hp):O→Option (O×Hp)
 | .agg cs=>(YJ Y cs).map fun p=>(.agg p.1,p.2)
 |x=>Zq Y x
def Y3(Y:Hp):zc→Option (zc×Hp)
 |[]=>some ([],Y)
 |x::l=>(lP Y x).bind fun p=>(Y3 p.2 l).map fun q=>(p.1::q.1,q.2)
theorem IV{S:Nat→Prop}{Y:Hp}(h:Inv P w S G Y Z){id:Nat}{b:jz}(k:Y id=some b)(l:0<(G id).s) :
  ∃(d:Array Value) (us:Nat→Nat→Value),w.heap[(G id).g]?=some (.cells d b.e (0,0))∧d.size=(G id).z∧∀(i j:Nat) (c:zc) (f:O),b.es[i]?=some c→c[j]?=some f→d[i*(G id).s+j]?=some (us i j)∧kq w S G Z b.arr f (us i j):=by
 obtain⟨d,m,n,o⟩:=(h.live id b k).row l;refine⟨d,fun i j=>(d[i*(G id).s+j]?).getD undef,m,n,fun i j c f a b=>?_⟩;obtain⟨u,p,q⟩:=o i j c f a b;simp only[p,WS];exact⟨trivial,q⟩
theorem XO{S:Nat→Prop}{Y:Hp}(f:Inv P w S G Y Z){x y:O}{Y1:Hp}{u:Value}(h:Zq Y x=some (y,Y1))(r:qK w S G Z x u) :
  ∃l,kJ dr P Y Z S G w Y1 Z l G w∧wT w l y u:=by
 unfold Zq at h;split at h
 ·rename_i id n;split at h
  case h_2=>cases h
  rename_i b t;split at h
  ·obtain⟨l,k,c,_⟩:=Zv (dr:=dr) f h r;exact⟨l,k,c⟩
  split at h
  case isFalse=>cases h
  rename_i L;obtain⟨⟨d,h2⟩,M,h⟩:=zX h;injection h with N Q
  subst N;subst Q;have E:=r.Zb;obtain⟨cap,a1,a2,R,a4,rfl⟩:=r.xd;obtain⟨v,us,T,r2,F⟩:=IV f t E;have z:=kJ.kill (dr:=dr) f t;have U:=z.same f;obtain⟨H,I,W,X,n2⟩:=XN (dr:=dr) us z.inv M (fun i j c J a b=>(F i j c J a b).2.2.1.mono U (ze _) (fun _ _=>rfl));have m:=(f.live id b t).len E;have e:∀(i:Nat) (A:zc),d[i]?=some A→∃c,b.es[i]?=some c∧A.length=c.length:=fun i A o=>by have hil:=(zq.1 o).1;refine⟨b.es[i]'(by omega),zu (by omega),n2 i _ _ (zu (by omega)) o⟩
  refine⟨H,z.trans I,?_⟩;rw[(f.live id b t).bs];have B:wT w H (.sl (G id).s d) (.slice (some ⟨(G id).g,0*(G id).s,none⟩) d.length cap):=by
   refine wT.sl (s:=(G id).s) us (by simp) (by omega) R (fun c hc=>?_) (fun i j c J a b'=>?_) X
   ·obtain⟨i,C⟩:=pq hc;obtain⟨p,D,K⟩:=e i c C;rw[K];exact m p (zO D)
   ·obtain⟨p,D,K⟩:=e i c a;have hj:j<p.length:=by have:=(zq.1 b').1;omega
    obtain⟨h4,h5⟩:=F i j p p[j] D (zu hj);refine⟨_,rfl,I.ZC _ (.inr rfl),?_,h5.2.2⟩;have q:(⟨(G id).g,0*(G id).s,none⟩:Addr).add (i*(G id).s+j)=⟨(G id).g,i*(G id).s+j,none⟩:=by unfold Addr.add;split<;>simp<;>omega
    rw[q,cell_of_row w _ _ v _ _ T];exact h4
  rwa [W,←L]at B
 ·obtain⟨l,k,c,_⟩:=Zv (dr:=dr) f h r;exact⟨l,k,c⟩
theorem V0:∀{xs ys:zc} {Y Y1:Hp} {S:Nat→Prop} {us:List Value} (_:Inv P w S G Y Z),YJ Y xs=some (ys,Y1)→Zip (qK w S G Z) xs us →
  ∃e,kJ dr P Y Z S G w Y1 Z e G w∧Zip (wT w e) ys us
 |[],ys,Y,Y1,S,us,a,h,c=>by
  simp only[YJ]at h;injection h with h
  injection h with f g;subst f;subst g;rw[c.Yi];exact⟨S,.refl a,.nil⟩
 |x::l,ys,Y,Y1,S,us,a,h,c=>by
  simp only[YJ]at h;obtain⟨⟨y,f⟩,j,h⟩:=j5.1 h;obtain⟨⟨l',g⟩,k,h⟩:=zX h;injection h with m n
  subst m;subst n;obtain⟨u,o,rfl,p,d⟩:=c.jl;obtain⟨q,b,r⟩:=XO (dr:=dr) a j p;have s:=b.same a;obtain⟨t,i,v⟩:=V0 (S:=q) b.inv k (d.imp fun x u z=>z.mono s (ze _) (fun _ _=>rfl));exact⟨t,b.trans i,.cons (r.mono (i.same b.inv)) v⟩
theorem rm{S:Nat→Prop}{Y:Hp}(e:Inv P w S G Y Z){x y:O}{Y1:Hp}{u:Value}(h:lP Y x=some (y,Y1))(f:qK w S G Z x u) :
  ∃c,kJ dr P Y Z S G w Y1 Z c G w∧wT w c y u:=by
 unfold lP at h;split at h
 ·rename_i cs;obtain⟨⟨l,p⟩,g,h⟩:=zX h;injection h with i m
  subst i;subst m;obtain⟨us,rfl,n,o⟩:=f.QS;obtain⟨c,k,z⟩:=V0 (dr:=dr) (us:=us.toList) e g ⟨by simpa using n,fun j d x a b=>o j d x a (by simpa using b)⟩;exact⟨c,k,.agg (by have:=z.1;simpa using this) (fun j d x a b=>z.2 j d x a (by simpa using b))⟩
 ·exact XO e h f
theorem XP:∀{xs ys:zc} {Y Y1:Hp} {S:Nat→Prop} {us:List Value} (_:Inv P w S G Y Z),Y3 Y xs=some (ys,Y1)→Zip (qK w S G Z) xs us →
  ∃e,kJ dr P Y Z S G w Y1 Z e G w∧Zip (wT w e) ys us
 |[],ys,Y,Y1,S,us,a,h,c=>by
  simp only[Y3]at h;injection h with h
  injection h with f g;subst f;subst g;rw[c.Yi];exact⟨S,.refl a,.nil⟩
 |x::l,ys,Y,Y1,S,us,a,h,c=>by
  simp only[Y3]at h;obtain⟨⟨y,f⟩,j,h⟩:=j5.1 h;obtain⟨⟨l',g⟩,k,h⟩:=zX h;injection h with m n
  subst m;subst n;obtain⟨u,o,rfl,p,d⟩:=c.jl;obtain⟨q,b,r⟩:=rm (dr:=dr) a j p;have s:=b.same a;obtain⟨t,i,v⟩:=XP (S:=q) b.inv k (d.imp fun x u z=>z.mono s (ze _) (fun _ _=>rfl));exact⟨t,b.trans i,.cons (r.mono (i.same b.inv)) v⟩
end
def bH(a:AM.Spec):AM.Spec:=fun args Y Z=>(Y3 Y args).bind fun p=>a p.1 p.2 Z
theorem zlX{P:Program}{f:FuncId}{a:AM.Spec}(h:km dr P f a):km dr P f (bH a):=by
 refine⟨h.1,fun args Y Z r Y' c e w S G vs d g=>?_⟩;unfold bH at e;obtain⟨⟨i,j⟩,hd,e⟩:=j5.1 e;obtain⟨l,b,m⟩:=XP (dr:=dr) d hd g;refine(h.2 i j Z r Y' c e w l G vs b.inv m.closed).mono fun s t n=>?_
 obtain⟨v,o,p,rfl,k,q⟩:=n;exact⟨v,o,p,rfl,b.trans k,q⟩
theorem kJ.zh9{P:Program}{w:World}{G:Nat→GI}{Z:Nat}{S:Nat→Prop}{Y:Hp}(a:Inv P w S G Y Z){id:Nat}{b f:jz}(d:Y id=some b)(g:vu P w S G Z (G id) f):kJ dr P Y Z S G w (qZ Y id (some f)) Z S G w:=
 (kJ.refl a).TQ d (a.top id b d) g (a.apart id b d) fun k c h e i=>e (a.inj k id c b h d i)
def yq(Y:Hp):O→Hp
 | .own id 0 _=>match Y id with
  |some b=>qZ Y id (some ⟨b.e,b.s,false,b.es⟩)
  |none=>Y
 |_=>Y
def ec(a:AM.Spec):AM.Spec:=fun args Y Z=>(a args Y Z).map fun q=>(q.1,yq q.2.1 q.1,q.2.2)
theorem hZ{P:Program}{f:FuncId}{q:AM.Spec}(h:km dr P f q):km dr P f (ec q):=by
 refine⟨h.1,fun args Y Z r Y' M e w S G vs t x=>?_⟩;unfold ec at e;obtain⟨⟨y,z,n1⟩,hs,e⟩:=zX e;injection e with A e
 injection e with B C;subst A;subst B;subst C;refine(h.2 args Y Z y z n1 hs w S G vs t x).mono fun N Q D=>?_
 obtain⟨v,l,m,rfl,k,o⟩:=D;simp only;unfold yq;split
 ·rename_i id n;split
  ·rename_i b s;refine⟨v,l,m,rfl,k.trans (kJ.zh9 k.inv s ?_),o⟩;have d:=k.inv.live id b s;refine⟨d.bs,fun g=>⟨d.size g,d.len g,d.fit g,?_⟩,fun g=>⟨(d.ent g).row⟩⟩;obtain⟨p,E,F,H⟩:=d.row g;refine⟨p,E,F,fun i j c I a J=>?_⟩;obtain⟨u,K,L⟩:=H i j c I a J;exact⟨u,K,fun h=>by simp at h,L.2⟩
  ·exact⟨v,l,m,rfl,k,o⟩
 ·exact⟨v,l,m,rfl,k,o⟩
def WK(Y:Hp):O→Option Hp
 | .own id 0 n=>match Y id with
  |some b=>if b.arr=true then some Y else if n=b.es.length∧0<b.s then(XM Y b.es).bind fun p=>(p.2 id).map fun _=>qZ p.2 id (some ⟨b.e,b.s,true,p.1⟩)else none
  |none=>none
 |_=>some Y
def Wm(Y:Hp):zc→Option Hp
 |[]=>some Y
 |x::l=>(WK Y x).bind fun h=>Wm h l
def XQ(a:AM.Spec):AM.Spec:=fun args Y Z=>(a args Y Z).bind fun q=>match q.1 with
 | .agg cs=>(Wm q.2.1 cs).map fun h=>(q.1,h,q.2.2)
 |_=>none
section
variable{P:Program}{w:World}{G:Nat→GI}{Z:Nat}
theorem nX{S:Nat→Prop}{Y Y1:Hp}(f:Inv P w S G Y Z){x:O}(h:WK Y x=some Y1):∃I,kJ dr P Y Z S G w Y1 Z I G w:=by
 unfold WK at h;split at h
 ·rename_i id n;split at h
  case h_2=>cases h
  rename_i b r;split at h
  ·injection h with h;subst h;exact⟨S,.refl f⟩
  split at h
  case isFalse=>cases h
  rename_i J;obtain⟨⟨g,h2⟩,K,h⟩:=j5.1 h;obtain⟨D,l,h⟩:=zX h;subst h;have m:=f.live id b r;have o:0<(G id).s:=by rw[←m.bs];exact J.2
  obtain⟨u,us,L,M,E⟩:=IV f r o;obtain⟨N,v,Q,F,R⟩:=XN (dr:=dr) us f K (fun i j c t a b=>(E i j c t a b).2.2.1);refine⟨N,v.TQ r (f.top id b r) ?_ (v.inv.apart id D l) fun k c T y U=>y (v.inv.inj k id c D T l U)⟩;have d:∀(i:Nat) (z:zc),g[i]?=some z→∃c,b.es[i]?=some c∧z.length=c.length:=fun i z p=>by have W:=(zq.1 p).1;refine⟨b.es[i]'(by omega),zu (by omega),R i _ _ (zu (by omega)) p⟩
  refine⟨m.bs,fun o=>⟨m.size o,fun c X=>?_,by rw[Q];exact m.fit o,u,L,M,fun i j c t a A=>?_⟩,fun e=>by omega⟩
  ·obtain⟨i,B⟩:=pq X;obtain⟨q,C,H⟩:=d i c B;rw[H];exact m.len o q (zO C)
  ·obtain⟨q,C,H⟩:=d i c a;have hj:j<q.length:=by have:=(zq.1 A).1;omega
   obtain⟨h4,h5⟩:=E i j q q[j] C (zu hj);exact⟨us i j,h4,fun _=>F i j c t a A,.c (F i j c t a A),h5.2.2⟩
 ·injection h with h;subst h;exact⟨S,.refl f⟩
theorem V1:∀{xs:zc} {Y Y1:Hp} {S:Nat→Prop} (_:Inv P w S G Y Z),Wm Y xs=some Y1→∃c,kJ dr P Y Z S G w Y1 Z c G w
 |[],Y,Y1,S,a,h=>by simp only[Wm]at h;injection h with h;subst h;exact⟨S,.refl a⟩
 |x::l,Y,Y1,S,a,h=>by simp only[Wm]at h;obtain⟨g,d,h⟩:=j5.1 h;obtain⟨i,b⟩:=nX (dr:=dr) a d;obtain⟨e,f⟩:=V1 b.inv h;exact⟨e,b.trans f⟩
end
theorem ia{P:Program}{f:FuncId}{a:AM.Spec}(h:km dr P f a):km dr P f (XQ a):=by
 refine⟨h.1,fun args Y Z r Y' s e w S G vs c d=>?_⟩;unfold XQ at e;obtain⟨⟨t,g,n1⟩,hs,e⟩:=j5.1 e;simp only at e;split at e
 ·rename_i cs;obtain⟨u,i,e⟩:=zX e;injection e with j e
  injection e with l m;subst j;subst l;subst m;refine(h.2 args Y Z _ g n1 hs w S G vs c d).mono fun x y n=>?_
  obtain⟨v,z,o,rfl,k,p⟩:=n;obtain⟨q,b⟩:=V1 (dr:=dr) k.inv i;exact⟨v,q,o,rfl,k.trans b,p.mono (b.same k.inv) (ze _) (fun _ _=>rfl)⟩
 ·cases e
end Go.AM
