/- Lemmas. -/
import Derived.Laws.CopyRow
import Derived.Lib.Overlaps
import Derived.Lib.AppendZerosOnto
import Derived.Laws.NewBlocks
import Derived.Shelf.Spec.SlicesInsert
import Derived.Test.YtmbfinldjgmhaaaGreatDoorG11
set_option maxRecDepth 100000
set_option maxHeartbeats 4000000
open Go Proofs Proofs.YtmbfinldjgmhaaaGreatDoor Proofs.Tryz RowKit AM SpanLaw Q Zz
open Go.IntKind renaming i64→i6
namespace Go.Q
theorem Df:zt C0 f192 []=some (.agg qR.V):=by refine zn rfl ?_;simp[qR,Cut.V,zH,str,zS,qn,zp,zy,zo,wc,f192]
theorem dt:zg prog 192 (qA [] (YG (.agg qR.V))):=
 wT (fn:=f192) jY (qE func192) _ _ fun args r h=>by obtain⟨_,rfl,_,rfl⟩:=zK h;exact⟨by simp[f192],_,Df,qg.refl _⟩
def wN.part(v:wN)(m:Int):Part:=⟨v.a,v.b,v.c,m,v.pre⟩
def wN.ok(v:wN):Prop:=(0<=v.a/\v.a<=999999)/\(0<=v.b/\v.b<=999999)/\(0<=v.c/\v.c<=999999)/\vi v.pre
noncomputable def R2 (f:wN->Int->O) (pre:Int->Prop):zb->Option O:=qu (α:=wN×Int) (fun a=>[.agg a.1.V,int a.2]) (fun a=>a.1.ok/\pre a.2) (fun a=>f a.1 a.2)
theorem zck:∀a b:wN×Int,[O.agg a.1.V,int a.2]=[O.agg b.1.V,int b.2]->a=b:=by rintro⟨f,g⟩ ⟨h,i⟩ e;simp only[zl,zM]at e;obtain⟨c,d⟩:=e;injection c with c;rw[Wo c,qS d]
theorem Xi(f:wN->Int->O)(pre:Int->Prop)(v:wN)(i:Int)(u:O)(Y:Hp)(Z:Nat)(h:v.ok)(hi:pre i)(b:(Sh.g kp).fix u=.agg v.V)(c:qa Y u=some (u,Y))(d:u.noOwn=true):qA [.g kp] (R2 f pre) [u,int i] Y Z=some (f v i,Y,Z):=
 vH (show zw Y [u,int i]=some ([u,int i],Y) by simp only[zw,c];rfl) (by show R2 f pre [(Sh.g kp).fix u,int i]=_;rw[b];exact qG (V:=fun a:wN×Int=>[O.agg a.1.V,int a.2]) (a:=(v,i)) zck ⟨h,hi⟩) (.inr (by rw[q9,d];rfl))
theorem J9(v:wN):(Sh.g kp).fix (.agg v.V)=.agg v.V:=by simp[wN.V]
theorem Xj(v:wN)(Y:Hp):qa Y (.agg v.V)=some (.agg v.V,Y):=by simp[wN.V]
theorem Xk(v:wN):O.noOwn (.agg v.V)=true:=by simp[wN.V]
def Zb(v:wN)(i:Int):O:=kR (v.part 3) i.toNat
noncomputable abbrev Crra:Ctx:=xH prog [] 7 [(6,4),(28,4),(30,4),(32,4),(38,4)] [4,6,28,30,32,38] []
theorem T1:Gd Crra:=rO mixed trivial trivial
theorem uS(v:wN)(i:Int)(f:v.ok)(hi:0<=i/\i<3):∃d,zt Crra f232 [.agg v.V,int i]=some d/\qg d (Zb v i):=by
 obtain⟨a,b,c,e⟩:=v;obtain⟨⟨h,j⟩,⟨k,l⟩,⟨m,n⟩,_⟩:=f;simp only at h j k l m n;refine yM (sh:=.g jz) rfl ?_;have o:=wX (a+1);have p:=wX (b+1);have q:=wX (c+1);rcases(by omega:i=0\/i=1\/i=2)with rfl|rfl|rfl
 ·simp[wN.V,zS,qn,o];rw[zJ];simp;rw[zJ];simp;rw[zJ];simp;rw[jZ (ye (Yp (by simp;exact⟨rfl,rfl,rfl⟩) (by simp;exact⟨rfl,rfl,rfl⟩) (by omega) (by simp;rfl) rfl) (ye (jO (by simp;rfl)) (ye (jO (by simp;rfl)) (ye (jO (by simp;rfl)) (ye (jO (by simp;rfl)) (Yo _))))))
   (xn (by simp;exact⟨rfl,rfl,rfl⟩) (by simp) (by simp;rfl) rfl (xn (by simp;exact⟨rfl,rfl,rfl⟩) (by simp) (by simp;rfl) rfl (kr (by simp;rfl) (kr (by simp;rfl) (kr (by simp;rfl) (kr (by simp;rfl) (JV _)))))))]
  simp[zS,qn,zp,zy,zo,qo,Zb,wN.part,kR,jh,vy,Cut.V,zH,str,f232];exact⟨_,⟨rfl,rfl⟩,rfl⟩
 ·simp[wN.V,zS,qn,p];rw[zJ];simp;rw[zJ];simp;rw[jZ (ye (Yp (by simp;exact⟨rfl,rfl,rfl⟩) (by simp;exact⟨rfl,rfl,rfl⟩) (by omega) (by simp;rfl) rfl) (ye (jO (by simp;rfl)) (ye (jO (by simp;rfl)) (ye (jO (by simp;rfl)) (ye (jO (by simp;rfl)) (Yo _))))))
   (xn (by simp;exact⟨rfl,rfl,rfl⟩) (by simp) (by simp;rfl) rfl (xn (by simp;exact⟨rfl,rfl,rfl⟩) (by simp) (by simp;rfl) rfl (kr (by simp;rfl) (kr (by simp;rfl) (kr (by simp;rfl) (kr (by simp;rfl) (JV _)))))))]
  simp[zS,qn,zp,zy,zo,qo,Zb,wN.part,kR,jh,vy,Cut.V,zH,str,f232];exact⟨_,⟨rfl,rfl⟩,rfl⟩
 ·simp[wN.V,zS,qn,q];rw[zJ];simp;rw[jZ (ye (Yp (by simp;exact⟨rfl,rfl,rfl⟩) (by simp;exact⟨rfl,rfl,rfl⟩) (by omega) (by simp;rfl) rfl) (ye (jO (by simp;rfl)) (ye (jO (by simp;rfl)) (ye (jO (by simp;rfl)) (ye (jO (by simp;rfl)) (Yo _))))))
   (xn (by simp;exact⟨rfl,rfl,rfl⟩) (by simp) (by simp;rfl) rfl (xn (by simp;exact⟨rfl,rfl,rfl⟩) (by simp) (by simp;rfl) rfl (kr (by simp;rfl) (kr (by simp;rfl) (kr (by simp;rfl) (kr (by simp;rfl) (JV _)))))))]
  simp[zS,qn,zp,zy,zo,qo,Zb,wN.part,kR,jh,vy,Cut.V,zH,str,f232];exact⟨_,⟨rfl,rfl⟩,rfl⟩
theorem aX:zg prog 232 (qA [.g kp] (R2 Zb fun i=>0<=i/\i<3)):=
 wT (fn:=f232) T1 (qE func232) _ _ fun args r h=>by obtain⟨⟨p,i⟩,rfl,⟨a,b⟩,rfl⟩:=zK h;obtain⟨c,d,e⟩:=uS p i a b;exact⟨by simp[f232],c,d,e⟩
def Wf(v:wN)(m:Int):O:=Je (v.part m)
noncomputable abbrev Crup:Ctx:=zW prog [(232,qA [.g kp] (R2 Zb fun i=>0<=i/\i<3))]
theorem T2:Gd Crup:=qc mixed ⟨aX,trivial⟩
theorem gb(v:wN)(m n:Int)(i:Nat):jh (v.part m) i=jh (v.part n) i/\vy (v.part m) i=vy (v.part n) i:=by
 match i with
 | 0=>exact⟨rfl,rfl⟩
 | 1=>exact⟨rfl,rfl⟩
 |_+2=>exact⟨rfl,rfl⟩
theorem Dg(v:wN)(m:Int)(e:v.ok)(k:1<=m/\m<=3):zt Crup f228 [.agg v.V,int m]=some (Wf v m):=by
 refine zn rfl ?_;have b:=fun Y Z=>Xi Zb (fun i=>0<=i/\i<3) v (m-1) (.agg v.V) Y Z e
 obtain⟨f,g⟩:=gb v m 3 (m-1).toNat;have h:=wX (m-1);by_cases d:m=3
 ·subst d;simp[wN.V,zS,qn,Wf,Je,vq,Qt,wN.part,Cut.V,wc,f228]
 ·have b:=fun Y Z=>b Y Z (by omega) (J9 v) (Xj v Y) (Xk v)
  have c:=yq d;have a:m<3:=by omega
  simp only[Zb,kR,wN.V,Cut.V,<-f,<-g]at b;have j:(v.part m).has=m:=rfl;simp[wN.V,c,h,b,Wf,Je,vq,Qt,j,a,Cut.V,wc,f228]
theorem du:zg prog 228 (qA [.g kp] (R2 Wf fun m=>1<=m/\m<=3)):=
 wT (fn:=f228) T2 (qE func228) _ _ fun args r h=>by obtain⟨⟨p,i⟩,rfl,⟨a,b⟩,rfl⟩:=zK h;exact⟨by simp[f228],_,Dg p i a b,qg.refl _⟩
noncomputable abbrev Crct:Ctx:=zW prog []
theorem T3:Gd Crct:=qx mixed trivial
def xK(v:wN)(m:Int):O:=int (jE (v.part m))
theorem Dh(v:wN)(m:Int)(k:1<=m/\m<=3):zt Crct f233 [.agg v.V,int m]=some (xK v m):=by
 obtain⟨a,b,c,e⟩:=v;refine zn rfl ?_;rcases(by omega:m=1\/m=2\/m=3)with rfl|rfl|rfl
 ·simp[wN.V,zp,zy,zo,jC];rw[zJ];by_cases f:a=0
  ·have d:(a != 0)=false:=by simpa using f
   simp[d];rw[zJ];simp[xK,jE,wN.part,f233]
  ·have d:=ZX f;simp[d,xK,jE,wN.part,f233]
 ·simp[wN.V,zp,zy,zo,jC];rw[zJ];by_cases f:a=0
  ·have d:(a != 0)=false:=by simpa using f
   simp[d];rw[zJ];by_cases h:b=0
   ·have g:(b != 0)=false:=by simpa using h
    simp[g];rw[zJ];simp[xK,jE,wN.part,f,f233]
   ·have g:=ZX h;simp[g,xK,jE,wN.part,f,f233]
  ·have d:=ZX f;simp[d,xK,jE,wN.part,f,f233]
 ·simp[wN.V,zp,zy,zo,jC];rw[zJ];by_cases f:a=0
  ·have d:(a != 0)=false:=by simpa using f
   simp[d];rw[zJ];by_cases h:b=0
   ·have g:(b != 0)=false:=by simpa using h
    simp[g];rw[zJ];by_cases j:c=0
    ·have i:(c != 0)=false:=by simpa using j
     simp[i];rw[zJ];simp[xK,jE,wN.part,f,h,f233]
    ·have i:=ZX j;simp[i,xK,jE,wN.part,f,h,f233]
   ·have g:=ZX h;simp[g,xK,jE,wN.part,f,h,f233]
  ·have d:=ZX f;simp[d,xK,jE,wN.part,f,f233]
theorem uT:zg prog 233 (qA [.g kp] (R2 xK fun m=>1<=m/\m<=3)):=
 wT (fn:=f233) T3 (qE func233) _ _ fun args r h=>by obtain⟨⟨p,i⟩,rfl,⟨b,a⟩,rfl⟩:=zK h;exact⟨by simp[f233],_,Dh p i a,qg.refl _⟩
noncomputable abbrev Crut:Ctx:=zW prog [(235,qA [.g jz,.g jz] (AP fun v w=>int (wv v w)))]
theorem T4:Gd Crut:=qc mixed ⟨ZV,trivial⟩
theorem F6(x y:Cut)(c:x.v.small)(d:y.v.small):∃b,zt Crut f229 [.agg x.V,.agg y.V]=some b/\qg b (KB x y):=by
 refine Ya (sh:=.s 11 jo) rfl ?_;have a:=fun Y Z=>tU x y (.agg x.V) (.agg y.V) Y Z (by simp[Cut.V]) (by simp[Cut.V]) (by simp[Cut.V]) c d
 simp only[Cut.V]at a;by_cases h:0<=wv x y
 ·simp[Cut.V,a,h,cx,KB,eo,z6,f229]
 ·simp[Cut.V,a,h,zS,qn,zp,zy,zo,cx,KB,eo,z6,bA,qN.V,f229]
theorem gd:zg prog 229 (qA [.g jz,.g jz] (AP KB)):=
 wT (fn:=f229) T4 (qE func229) _ _ fun args r h=>by obtain⟨⟨v,w⟩,rfl,⟨a,b⟩,rfl⟩:=zK h;obtain⟨c,d,e⟩:=F6 v w a b;exact⟨by simp[f229],c,d,e⟩
noncomputable abbrev Crop:Ctx:=zW prog [(127,zi false [] (Qg RY fun _ _=>True))]
theorem T5:Gd Crop:=qc mixed ⟨Vi,trivial⟩
def F7(s:za):O:=str (wD we s).1
theorem nK(s:za)(h:s.length<=zx):zt Crop f226 [str s]=some (F7 s):=by
 refine zn rfl ?_;have l:∀Y Z,zp prog Y Z 34 7 [(0,str [62,61]),(1,str [60,61]),(2,str [62]),(3,str [60]),(4,str [61]),(5,str [126]),(6,str [94])]=some (.own Z 0 7,qt Y Z (some ⟨9,1,true,zH we⟩),Z+1):=fun Y Z=>by simp[zp,zy,zo,we,str]
 simp[str]at l;simp[l];refine zT (fun k U Y Z=>U 0=str s/\U 5=.own 0 0 7/\U 6=int 7/\U 7=int k/\Y 0=some ⟨9,1,true,zH we⟩/\wD we s=wD (we.drop k) s) 7 ⟨by simp,by simp,by simp,by simp,by simp,by simp⟩ ?_;rintro k U Y Z p ⟨f,g,i,b,m,a⟩;by_cases c:k<7
 ·have e:k<we.length:=c;have j:we[k].length<=zx:=by
   have:∀q∈we,q.length<=zx:=by decide
   exact this _ (zk e)
  have n:=fun Y Z=>cB s we[k] Y Z h j
  have o:=qH k;have d:(k:Int)<7:=by omega
  rw[zh e]at a;simp only[wD]at a;by_cases Y:(we[k]).isPrefixOf s=true
  ·rw[zf Y]at a;simp[f,g,i,b,m,d,c,e,n,Y,o,F7,a,wc,f226]
  ·rw[zc Y]at a;have Y':(we[k]).isPrefixOf s=false:=Bool.eq_false_iff.2 Y;simp[f,g,i,b,m,d,c,e,n,Y',o];exact⟨by omega,a⟩
 ·obtain rfl:k=7:=by omega
  rw[show we.drop 7=[]from rfl]at a;simp only[wD]at a;simp[f,g,i,b,F7,a,wc,f226]
theorem ie:zg prog 226 (zi false [] (MG F7)):=
 Z2 T5 func226 false [] fun l Y=>⟨by simp[f226],_,nK l Y,qq _⟩
def oL(c:UInt8):za->List za
 |[]=>[[]]
 |b::l=>if b=c then[]::oL c l else match oL c l with
  |[]=>[[b]]
  |p::a=>(b::p)::a
theorem Pd(c:UInt8):∀l,∃p a,oL c l=p::a
 |[]=>⟨[],[],rfl⟩
 |b::l=>by
  unfold oL;split
  ·exact⟨_,_,rfl⟩
  ·split
   ·exact⟨_,_,rfl⟩
   ·exact⟨_,_,rfl⟩
theorem Xl{s sep:za}(h:Lib.index s sep=-1):qh s sep=[s]:=by unfold qh Lib.split;rw[Lib.count_miss h];rfl
theorem bP{s sep:za}{i:Nat}(a:sep≠[])(h:Lib.index s sep=i):qh s sep=s.take i::qh (s.drop (i+sep.length)) sep:=by unfold qh Lib.split;rw[Lib.count_hit a h,AB 1,bm h]
theorem bQ(c:UInt8):∀s:za,qh s [c]=oL c s
 |[]=>Xl rfl
 |b::l=>by
  have a:=bQ c l;by_cases h:b=c
  ·subst h;have hi:Lib.index (b::l) [b]=((0:Nat):Int):=by simp[Lib.index]
   rw[bP (by simp) hi];simp[oL,a]
  ·have f:¬c=b:=fun e=>h e.symm
   rcases Lib.index_spec l [c]with⟨d,_⟩|⟨i,d,_⟩
   ·have hi:Lib.index (b::l) [c]=-1:=by simp[Lib.index,f,d]
    rw[Xl hi];rw[Xl d]at a;simp[oL,h,<-a]
   ·have hi:Lib.index (b::l) [c]=((i+1:Nat):Int):=by
     have:¬((i:Int)=-1):=by omega
     simp[Lib.index,f,d,this]
    rw[bP (by simp) hi];rw[bP (by simp) d]at a;simp only[oL,zc h,<-a];simp
def yN(s:za):List za:=wz (oL 32 s)
theorem fc(s:za):wz (qh s [32])=yN s:=by rw[bQ];rfl
theorem uU:yN []=[]:=rfl
theorem Xm(x:za)(l:List za):wz (x::l)=if x=[]then wz l else x::wz l:=by cases x<;>simp[wz,oJ]
theorem Pe(s:za):yN (32::s)=yN s:=by simp[yN,oL,Xm]
theorem X0:∀s:za,yN (Lib.trimLeftB s 32)=yN s
 |[]=>rfl
 |b::l=>by
  unfold Lib.trimLeftB;by_cases h:b=32
  ·subst h;rw[DY (by simp),Pe];exact X0 l
  ·rw[ZH (by simpa using h)]
theorem Di(c:UInt8):∀s:za,oL c (s++[c])=oL c s++[[]]
 |[]=>by simp[oL]
 |b::l=>by
  have a:=Di c l;obtain⟨p,d,e⟩:=Pd c l;by_cases h:b=c
  ·simp[oL,h,a]
  ·simp[oL,h,a,e]
theorem Pf(s:za):yN (s++[32])=yN s:=by unfold yN;rw[Di];simp[wz,oJ]
theorem LP(s:za):yN (Lib.trimRightB s 32)=yN s:=by
 have a:∀m:za,yN ((m.dropWhile (·==32)).reverse)=yN m.reverse:=by
  intro m
  induction m with
  |nil=>rfl
  |cons b m c=>
   by_cases h:b=32
   ·subst h;rw[DY (by simp),c,List.reverse_cons,Pf]
   ·rw[ZH (by simpa using h)]
 have:=a s.reverse;rwa [List.reverse_reverse]at this
theorem Pg(s:za):yN (Lib.trimB s 32)=yN s:=by unfold Lib.trimB;rw[X0,LP]
def hd(s:za):za:=s.takeWhile (· != 32)
def tl(s:za):za:=s.dropWhile (· != 32)
theorem gg(s:za):hd s++tl s=s:=List.takeWhile_append_dropWhile
theorem uV:∀(u:za),(∀c∈u,c≠32)->∀r,(oL 32 (u++32::r)=u::oL 32 r)/\oL 32 u=[u]
 |[],_,r=>⟨by simp[oL],rfl⟩
 |b::u,h,r=>by
  obtain⟨d,e⟩:=uV u (fun c f=>h c (by simp[f])) r;have a:¬b=32:=h b (by simp);constructor
  ·rw[qX,oL,zc a,d]
  ·rw[oL,zc a,e]
theorem Ph(s:za):∀c∈hd s,c≠32:=fun c a=>by have:=List.all_takeWhile (p:=fun c:UInt8=>c != 32) (l:=s);rw[zL]at this;simpa using this c a
theorem uW(s:za):tl s=[]\/∃r,tl s=32::r:=by
 unfold tl
 induction s with
 |nil=>exact .inl rfl
 |cons b s a=>
  by_cases h:b=32
  ·subst h;rw[ZH (by simp)];exact .inr ⟨s,rfl⟩
  ·rw[DY (by simpa using h)];exact a
theorem Dj{s:za}(h:hd s≠[]):yN s=hd s::yN (tl s):=by
 have e:=gg s;rcases uW s with a|⟨r,a⟩
 ·rw[a,jJ]at e;rw[a,uU]
  conv=>lhs;rw[<-e]
  unfold yN;rw[(uV (hd s) (Ph s) []).2,Xm,zc h];rfl
 ·rw[a]at e⊢;rw[Pe]
  conv=>lhs;rw[<-e]
  unfold yN;rw[(uV (hd s) (Ph s) r).1,Xm,zc h]
def HD(s:za):Prop:=s=[]\/hd s≠[]
theorem Jk:∀s:za,HD (Lib.trimLeftB s 32)
 |[]=>.inl rfl
 |b::l=>by
  unfold Lib.trimLeftB;by_cases h:b=32
  ·subst h;rw[DY (by simp)];exact Jk l
  ·rw[ZH (by simpa using h)];exact .inr (by simp[hd,h])
theorem Pj{s:za}(h:HD s):Lib.trimLeftB s 32=s:=by
 cases s with
 |nil=>rfl
 |cons b l=>
  rcases h with h|h
  ·cases h
  ·unfold Lib.trimLeftB;by_cases a:b=32
   ·subst a;exact absurd (by simp[hd]) h
   ·rw[ZH (by simpa using a)]
theorem X1(s:za):(Lib.trimLeftB s 32).length<=s.length:=(List.dropWhile_sublist _).length_le
theorem zcl{g:za}(d:∀c∈g,c≠32)(s:za):g.isPrefixOf s=g.isPrefixOf (hd s):=by
 induction g generalizing s with
 |nil=>simp
 |cons a g h=>
  cases s with
  |nil=>rfl
  |cons b s=>
   have i:=d a (by simp);by_cases f:b=32
   ·subst f;have e:hd (32::s)=[]:=by simp[hd]
    rw[e];simp[List.isPrefixOf,i]
   ·have e:hd (b::s)=b::hd s:=by simp[hd,f]
    rw[e];simp only[List.isPrefixOf];rw[h (fun c j=>d c (by simp[j])) s]
theorem Pk:∀(a:List za) (_:∀g∈a,∀c∈g,c≠32) (s:za),wD a s=((wD a (hd s)).1,(wD a (hd s)).2++tl s)
 |[],_,s=>by simp[wD,gg]
 |g::a,h,s=>by
  have Y:=zcl (h g (by simp)) s;simp only[wD];rw[Y];split
  ·rename_i b;have d:=(DU.1 b).length_le;have e:=gg s
   conv=>lhs;rw[<-e]
   rw[List.drop_append_of_le_length d]
  ·exact Pk a (fun g f=>h g (by simp[f])) s
theorem zcm:∀g∈we,∀c∈g,c≠32:=by decide
theorem QB:∀(a:List za) (s:za),(wD a s).2=s.drop (wD a s).1.length
 |[],s=>rfl
 |g::a,s=>by
  simp only[wD];split
  ·rfl
  ·exact QB a s
theorem F8(a:List za)(s:za):(wD a s).2 <:+ s:=by rw[QB];exact List.drop_suffix _ _
abbrev aY:=za×za
def jP:List za->Option (List aY)
 |[]=>some []
 |[w]=>if(wD we w).2=[]then none else some [wD we w]
 |w::x::a=>if(wD we w).2=[]then(jP a).map (((wD we w).1,x)::·)else(jP (x::a)).map (wD we w::·)
theorem Yr(w:za)(a:List za)(h:(wD we w).2≠[]):jP (w::a)=(jP a).map (wD we w::·):=by
 cases a with
 |nil=>simp[jP,h]
 |cons x a=>simp[jP,h]
def uX(s:za):aY×za:=((((wD we s).1,hd (Lib.trimLeftB (wD we s).2 32)):aY),tl (Lib.trimLeftB (wD we s).2 32))
theorem Pl{s:za}(h:hd s≠[]):jP (yN s)=if(uX s).1.2=[]then none else(jP (yN (uX s).2)).map ((uX s).1::·):=by
 have f:=Pk we zcm s;obtain⟨o,r,a⟩:∃o r,wD we (hd s)=(o,r):=⟨_,_,rfl⟩;rw[a]at f;simp only at f;have d:∀c∈r,c≠32:=fun c g=>by have:=F8 we (hd s);rw[a]at this;exact Ph s c (this.mem g)
 rw[Dj h];by_cases i:r=[]
 ·subst i;rw[kj]at f;unfold uX;rw[f];simp only;obtain⟨u,j⟩:=jj (Lib.trimLeftB (tl s) 32);have l:yN (tl s)=yN u:=by rw[<-j,X0]
  have ht:HD u:=by rw[<-j];exact Jk _
  rw[j,l];rcases ht with rfl|ht
  ·rw[uU,zf (show hd []=[]from rfl)];simp[jP,a]
  ·rw[Dj ht,zc ht];simp[jP,a]
 ·have m:Lib.trimLeftB (r++tl s) 32=r++tl s:=by
   cases r with
   |nil=>exact absurd rfl i
   |cons b r=>have n:=d b (by simp);exact Pj (.inr (by simp[hd,n]))
  have p:hd (r++tl s)=r:=by unfold hd;rw[List.takeWhile_append_of_pos (fun c g=>by simpa using d c g)];rcases uW s with e|⟨q,e⟩<;>rw[e]<;>simp
  have t:tl (r++tl s)=tl s:=by
   unfold tl;rw[List.dropWhile_append_of_pos (fun c g=>by simpa using d c g)];rcases uW s with e|⟨q,e⟩
   ·have k:List.dropWhile (fun x=>x != 32) s=[]:=e;rw[k];rfl
   ·have k:List.dropWhile (fun x=>x != 32) s=32::q:=e;rw[k];rfl
  unfold uX;rw[f];simp only;rw[m,p,t,zc i,Yr _ _ (by rw[a];exact i),a]
theorem Pm{s:za}(h:(uX s).1.2≠[]):(uX s).2.length<s.length:=by unfold uX at h⊢;simp only at h⊢;have a:=gg (Lib.trimLeftB (wD we s).2 32);have b:=zu List.length a;rw[qD]at b;have c:=X1 (wD we s).2;have d:=KE we s;have e:=kZ.2 h;omega
theorem TO.ltle{α:Type}{c:α->α->Int}(h:TO c){x y z:α}(d:c x y<0)(a:c y z<=0):c x z<0:=by
 rcases Yk a with a|a
 ·exact h.trans d a
 ·have e:=h.tr x y z (by omega) (by omega);rcases Yk e with b|b
  ·exact b
  ·have f:=(h.eq y z).1 a;have g:=(h.eq x z).1 b;have:=h.tr y z x (by omega) (by omega);have:=(h.flip x y).1 d;omega
theorem TO.lelt{α:Type}{c:α->α->Int}(h:TO c){x y z:α}(b:c x y<=0)(d:c y z<0):c x z<0:=by
 have e:=h.tr x y z b (by omega);rcases Yk e with a|a
 ·exact a
 ·have f:=(h.eq x z).1 a;have:=h.tr z x y (by omega) b;have:=(h.flip y z).1 d;omega
theorem TO.irr{α:Type}{c:α->α->Int}(h:TO c)(x:α):¬c x x<0:=by rw[h.refl];omega
theorem TO.za7{α:Type}{c:α->α->Int}(h:TO c){x y:α}(a:¬c x y<0):c y x<=0:=(h.le y x).2 (by omega)
theorem TO.HZ{α:Type}{c:α->α->Int}(h:TO c){x y:α}(a:¬c x y<=0):c y x<0:=(h.flip y x).2 (by omega)
theorem orL2{a b:Int}(h:Kz [a,b]=0):a=0/\b=0:=by
 simp only[Kz]at h;split at h
 ·rename_i e;split at h
  ·rename_i c;exact⟨e,c⟩
  ·rename_i c;exact absurd h c
 ·rename_i e;exact absurd h e
theorem orL3{a b c:Int}(h:Kz [a,b,c]=0):a=0/\b=0/\c=0:=by
 simp only[Kz]at h;split at h
 ·rename_i e;split at h
  ·rename_i d;split at h
   ·rename_i f;exact⟨e,d,f⟩
   ·rename_i f;exact absurd h f
  ·rename_i d;exact absurd h d
 ·rename_i e;exact absurd h e
theorem F9{p q:za}(Y:yA p=true)(j:yA q=true)(h:Lib.trimLeftB p 48=Lib.trimLeftB q 48):p=q:=by
 have a:∀p:za,yA p=true->(p=[48]/\Lib.trimLeftB p 48=[])\/(Lib.trimLeftB p 48=p/\p≠[]):=by
  intro p Y;cases p with
  |nil=>simp[yA]at Y
  |cons c l=>
   by_cases i:c=48
   ·subst i;cases l with
    |nil=>exact .inl ⟨rfl,rfl⟩
    |cons d l=>simp[yA]at Y
   ·refine .inr ⟨?_,by simp⟩;unfold Lib.trimLeftB;rw[ZH (by simpa using i)]
 rcases a p Y with⟨b,f⟩|⟨b,f⟩<;>rcases a q j with⟨e,g⟩|⟨e,g⟩
 ·rw[b,e]
 ·rw[f,e]at h;exact absurd h.symm g
 ·rw[b,g]at h;exact absurd h f
 ·rw[b,e]at h;exact h
theorem sA{p:za}(h:w9 p=false):p≠[]/\(kO p=true->yA p=true):=by simp only[w9,wy]at h;obtain⟨⟨_,b⟩,a⟩:=h;refine⟨fun e=>by subst e;simp[dY]at b,fun hd=>?_⟩;rw[hd]at a;simpa using a
theorem LQ{p q:za}(Y:w9 p=false)(d:w9 q=false)(h:wO p q=0):p=q:=by
 obtain⟨j,e⟩:=sA Y;obtain⟨k,f⟩:=sA d;have g:xE p=kO p:=by cases p<;>simp_all[xE]
 have c:xE q=kO q:=by cases q<;>simp_all[xE]
 unfold wO at h;rw[g,c]at h;cases a:kO p<;>cases b:kO q<;>simp only[a,b,qI,zO,wx]at h
 ·exact(kI p q).1 h
 ·cases h
 ·cases h
 ·obtain⟨_,i⟩:=orL2 h;exact F9 (e a) (f b) ((kI _ _).1 i)
theorem HE{α:Type}{c:α->α->Int}:∀{a b:List α},(∀x∈a,∀y∈b,c x y=0->x=y)->w7 c a b=0->a=b
 |[],[],_,_=>rfl
 |[],_::_,_,h=>by simp[w7]at h
 |_::_,[],_,h=>by simp[w7]at h
 |x::a,y::b,d,h=>by
  simp only[w7]at h;split at h
  ·rename_i e;rw[d x (by simp) y (by simp) e,HE (fun u f v g=>d u (by simp[f]) v (by simp[g])) h]
  ·rename_i e;exact absurd h e
theorem iN{a b:Cut}(j:a.vS)(k:b.vS)(h:wv a b=0):a=b:=by
 obtain⟨⟨z,A,B,l⟩,m⟩:=a;obtain⟨⟨C,D,E,n⟩,o⟩:=b;unfold wv at h;split at h
 ·rename_i c;have p:m=o:=by
   split at h
   ·rename_i e;exact e
   ·split at h<;>cases h
  unfold Zy at c;split at c
  ·rename_i d;obtain⟨q,r,s⟩:=orL3 d;have f:=XX q;have g:=XX r;have i:=XX s;have t:l=n:=by
    simp only at c;split at c
    ·rename_i u;split at c
     ·rename_i l2;rw[qj.1 u,qj.1 l2]
     ·cases c
    ·split at c
     ·cases c
     ·exact HE (fun x v y w=>LQ (j.2 x v) (k.2 y w)) c
   simp only at f g i;rw[f,g,i,t,p]
  ·rename_i d;exact absurd c d
 ·rename_i c;exact absurd h c
mutual
def HF(a:Cut->Bool):List Cut->List qN
 |[]=>[]
 |c::l=>if a c=true then RJ a c l else HF a l
def RJ(a:Cut->Bool)(s:Cut):List Cut->List qN
 |[]=>[w5 s]
 |c::l=>if a c=true then RJ a s l else bA s c::HF a l
end
theorem uY(out:List qN)(s c:Cut):Qu (out++[w5 s]) c=out++[bA s c]:=by unfold Qu;rw[List.getLast?_append];simp[w5,bA]
theorem nL(a:Cut->Bool):∀(l:List Cut) (out:List qN),(Vj a l (false,out)).2=out++HF a l/\∀s,(Vj a l (true,out++[w5 s])).2=out++RJ a s l
 |[],out=>⟨by simp[Vj,HF],fun s=>by simp[Vj,RJ]⟩
 |c::l,out=>by
  have b:∀st,Vj a (c::l) st=Vj a l (aT a st c):=fun _=>rfl
  constructor
  ·rw[b];cases h:a c
   ·have:aT a (false,out) c=(false,out):=by simp[aT,h]
    rw[this,(nL a l out).1,HF,h,zc (by simp)]
   ·have:aT a (false,out) c=(true,out++[w5 c]):=by simp[aT,h]
    rw[this,(nL a l out).2 c,HF,h,zf rfl]
  ·intro s;rw[b];cases h:a c
   ·have:aT a (true,out++[w5 s]) c=(false,out++[bA s c]):=by simp[aT,h,uY]
    rw[this,(nL a l (out++[bA s c])).1,RJ,h,zc (by simp),qT];rfl
   ·have:aT a (true,out++[w5 s]) c=(true,out++[w5 s]):=by simp[aT,h]
    rw[this,(nL a l out).2 s,RJ,h,zf rfl]
noncomputable def nM (a b:List qN):List Cut:=cQ (Qv (qV a++qV b))
theorem Dk(f:Bool->Bool->Bool)(a b:List qN):kv f a b=HF (fun c=>f (yt a c) (yt b c)) (nM a b):=by unfold kv;rw[mz,(nL _ _ []).1];rfl
theorem Ka(a b:List qN)(c:Cut):c∈nM a b↔c∈qV a\/c∈qV b:=by unfold nM;rw[eD,(x1 _).mem_iff,zF]
theorem X2{l:List qN}(h:yX l):∀c∈qV l,c.vS:=YH h
theorem KS{a b:List qN}(c:yX a)(d:yX b):(nM a b).Pairwise fun x y=>wv x y<0:=by
 refine cR _ (fun x e y f h=>?_) (o7 _);have g:∀z∈Qv (qV a++qV b),z.vS:=fun z i=>by
  rcases zF.1 ((x1 _).mem_iff.1 i)with h|h
  ·exact X2 c z h
  ·exact X2 d z h
 exact iN (g x e) (g y f) h
def ak:Option Cut->List qN->Prop
 |_,[]=>True
 |lo,s::l=>(∀q,lo=some q->wv q s.lo<0)/\if s.y7=true then l=[]/\s.hi=QL else wv s.lo s.hi<0/\ak (some s.hi) l
theorem LR{lo:Option Cut}{l:List qN}(h:ak lo l):ak none l:=by
 cases l with
 |nil=>trivial
 |cons s l=>exact⟨fun q e=>(by cases e),h.2⟩
theorem Ga(f:Cut->Bool):∀(l:List Cut),l.Pairwise (fun x y=>wv x y<0)->(∀lo:Option Cut,(∀q,lo=some q->∀x∈l,wv q x<0)->ak lo (HF f l))/\∀(lo:Option Cut) (s:Cut),(∀q,lo=some q->wv q s<0)->(∀x∈l,wv s x<0)->ak lo (RJ f s l)
 |[],_=>⟨fun _ _=>trivial,fun lo s h _=>⟨h,by simp[w5]⟩⟩
 |c::l,hs=>by
  obtain⟨g,k⟩:=yc.1 hs;obtain⟨i,j⟩:=Ga f l k;constructor
  ·intro lo a;rw[HF];split
   ·exact j lo c (fun q b=>a q b c (by simp)) g
   ·exact i lo fun q b x d=>a q b x (by simp[d])
  ·intro lo s a e;rw[RJ];split
   ·exact j lo s a fun x d=>e x (by simp[d])
   ·refine⟨a,?_⟩;simp only[bA,zO,wx];exact⟨e c (by simp),i (some c) fun q b x d=>by injection b with b;rw[<-b];exact g x d⟩
noncomputable def Q2 (a:Cut->Bool):Bool->List Cut->Cut->Bool
 |d,[],_=>d
 |d,x::l,c=>if wv x c<=0 then Q2 a (a x) l c else d
theorem Wv:∀{l:List qN} {lo c:Cut},ak (some lo) l->wv c lo<=0->yt l c=false
 |[],_,_,_,_=>rfl
 |s::l,lo,c,h,e=>by
  have f:wv lo s.lo<0:=h.1 lo rfl;have b:wv c s.lo<0:=wi.lelt e f;have g:vt s c=false:=by have:=(wi.flip c s.lo).1 b;simp[vt,show¬wv s.lo c<=0 by omega]
  have d:yt l c=false:=by
   have a:=h.2;split at a
   ·rw[a.1];rfl
   ·exact Wv a.2 (Zo (wi.trans b a.1))
  unfold yt at d⊢;rw[jl,g,d];rfl
theorem Pn(b:Cut->Bool)(c:Cut):∀(l:List Cut),l.Pairwise (fun x y=>wv x y<0)->yt (HF b l) c=Q2 b false l c/\∀s,(∀x∈l,wv s x<0)->yt (RJ b s l) c=if wv s c<=0 then Q2 b true l c else false
 |[],_=>⟨rfl,fun s _=>by simp[RJ,yt,vt,w5,Q2]⟩
 |x::l,hs=>by
  obtain⟨k,r⟩:=yc.1 hs;obtain⟨t,u⟩:=Pn b c l r;have h:=Ga b l r;constructor
  ·rw[HF,Q2];cases v:b x
   ·rw[zc (by simp),t];split
    ·rfl
    ·rename_i w;cases l with
     |nil=>rfl
     |cons y l=>have d:=wi.trans (wi.HZ w) (k y (by simp));have:=(wi.flip c y).1 d;simp only[Q2];rw[zc (by omega)]
   ·rw[zf rfl,u x k]
  ·intro s i;have m:=i x (by simp);rw[RJ,Q2];cases v:b x
   ·rw[zc (by simp)];have n:=(h.1 (some x) fun q o y p=>by injection o with o;rw[<-o];exact k y p);have e:yt (bA s x::HF b l) c=(vt (bA s x) c||yt (HF b l) c):=rfl;rw[e];by_cases a:wv x c<=0
    ·have f:wv s c<=0:=Zo (wi.ltle m a);have z:vt (bA s x) c=false:=by have:=(wi.le x c).1 a;simp[vt,bA,show¬wv c x<0 by omega]
     rw[z,zf f,zf a,kK,t]
    ·have j:=wi.HZ a;have A:yt (HF b l) c=false:=Wv n (Zo j);rw[A,Bool.or_false,zc a];simp only[vt,bA,j,kK,decide_true,zhs];by_cases f:wv s c<=0<;>simp[f]
   ·rw[zf rfl,u s fun y p=>i y (by simp[p])];by_cases a:wv x c<=0
    ·rw[zf a]
    ·rw[zc a];have g:Q2 b true l c=true:=by
      cases l with
      |nil=>rfl
      |cons y l=>have d:=wi.trans (wi.HZ a) (k y (by simp));have:=(wi.flip c y).1 d;simp only[Q2];rw[zc (by omega)]
     rw[g]
theorem Dl{a:List qN}{x c:Cut}(b:wv x c<=0)(h:∀y∈qV a,wv y c<=0->wv y x<=0):yt a c=yt a x:=by
 induction a with
 |nil=>rfl
 |cons s a j=>
  have e:∀c,yt (s::a) c=(vt s c||yt a c):=fun _=>rfl
  rw[e,e,j fun y k=>h y (by rw[qV];exact List.mem_append_right _ k)];congr 1;have d:s.lo∈qV (s::a):=by rw[qV];apply List.mem_append_left;split<;>simp
  have i:wv s.lo c<=0↔wv s.lo x<=0:=⟨h _ d,fun g=>wi.tr _ _ _ g b⟩;unfold vt;cases l:s.y7
  ·have f:s.hi∈qV (s::a):=by rw[qV,l];simp
   have m:wv c s.hi<0↔wv x s.hi<0:=by
    constructor
    ·exact fun g=>wi.lelt b g
    ·intro g;refine vC fun n=>?_
     have o:=h _ f (wi.za7 n);exact wi.irr x (wi.ltle g o)
   simp only[i,m]
  ·simp only[i,UM]
theorem sB{a:List qN}{c:Cut}(h:∀y∈qV a,¬wv y c<=0):yt a c=false:=by
 induction a with
 |nil=>rfl
 |cons s a d=>
  have e:yt (s::a) c=(vt s c||yt a c):=rfl;have b:s.lo∈qV (s::a):=by rw[qV];apply List.mem_append_left;split<;>simp
  rw[e,d fun y f=>h y (by rw[qV];exact List.mem_append_right _ f)];simp[vt,h _ b]
theorem gh(f:Cut->Bool)(c:Cut):∀(l:List Cut) (d:Bool),l.Pairwise (fun x y=>wv x y<0)->(Q2 f d l c=d/\∀y∈l,¬wv y c<=0)\/∃x∈l,wv x c<=0/\Q2 f d l c=f x/\∀y∈l,wv y c<=0->wv y x<=0
 |[],d,_=>.inl ⟨rfl,fun y a=>by cases a⟩
 |x::l,d,hs=>by
  obtain⟨j,m⟩:=yc.1 hs;by_cases g:wv x c<=0
  ·right;simp only[Q2,zf g];rcases gh f c l (f x) m with⟨e,h⟩|⟨z,k,i,e,h⟩
   ·refine⟨x,by simp,g,e,fun y a b=>?_⟩;rcases zv.1 a with rfl|a
    ·rw[wi.refl];exact zfF _
    ·exact absurd b (h y a)
   ·refine⟨z,by simp[k],i,e,fun y a b=>?_⟩;rcases zv.1 a with rfl|a
    ·exact Zo (j z k)
    ·exact h y a b
  ·left;simp only[Q2,zc g];refine⟨trivial,fun y a b=>?_⟩;rcases zv.1 a with rfl|a
   ·exact g b
   ·exact g (Zo (wi.ltle (j y a) b))
theorem nN{f:Bool->Bool->Bool}(i:f false false=false){a b:List qN}(j:yX a)(k:yX b)(c:Cut):yt (kv f a b) c=f (yt a c) (yt b c):=by
 have hs:=KS j k;rw[Dk,(Pn _ c _ hs).1];rcases gh (fun c=>f (yt a c) (yt b c)) c (nM a b) false hs with⟨e,g⟩|⟨x,l,h,e,g⟩
 ·rw[e,sB fun y d=>g y ((Ka a b y).2 (.inl d)),sB fun y d=>g y ((Ka a b y).2 (.inr d)),i]
 ·rw[e,Dl h fun y d=>g y ((Ka a b y).2 (.inl d)),Dl h fun y d=>g y ((Ka a b y).2 (.inr d))]
theorem dv{f:Bool->Bool->Bool}{a b:List qN}(c:yX a)(d:yX b):ak none (kv f a b):=by rw[Dk];exact(Ga _ _ (KS c d)).1 none fun q e=>by cases e
theorem uZ:∀{l m:List qN} {lo w:Option Cut},ak lo l->ak w m->yX l->yX m->(∀c,c.vS->yt l c=yt m c)->l=m
 |[],[],_,_,_,_,_,_,_=>rfl
 |[],t::m,_,w,_,u,_,G,h=>by
  have:=h t.lo (G t (by simp)).1;have r:yt (t::m) t.lo=true:=by
   have A:vt t t.lo=true:=by
    have k:=u.2;unfold vt;rw[wi.refl];split at k
    ·rename_i e;simp[e]
    ·simp[k.1]
   unfold yt;rw[jl,A];rfl
  rw[r]at this;cases this
 |s::l,[],lo,_,n,_,H,_,h=>by
  have:=h s.lo (H s (by simp)).1;have r:yt (s::l) s.lo=true:=by
   have A:vt s s.lo=true:=by
    have k:=n.2;unfold vt;rw[wi.refl];split at k
    ·rename_i e;simp[e]
    ·simp[k.1]
   unfold yt;rw[jl,A];rfl
  rw[r]at this;cases this
 |s::l,t::m,lo,w,n,u,H,G,h=>by
  have v:∀{s:qN} {l:List qN} {lo:Option Cut},ak lo (s::l)->vt s s.lo=true:=fun{s l lo} n=>by
   have k:=n.2;unfold vt;rw[wi.refl];split at k
   ·rename_i e;simp[e]
   ·simp[k.1]
  have d:∀{s:qN} {l:List qN} {lo:Option Cut} {c:Cut},ak lo (s::l)->(s.y7=false->wv c s.hi<=0)->yt (s::l) c=vt s c:=fun{s l lo c} n r=>by
   have k:=n.2;have e:yt (s::l) c=(vt s c||yt l c):=rfl;rw[e];cases B:s.y7
   ·rw[B,zc (by simp)]at k;rw[Wv k.2 (r B),Bool.or_false]
   ·rw[B,zf rfl]at k;rw[k.1];simp[yt]
  have o:∀{s:qN} {l:List qN} {lo:Option Cut} {c:Cut},ak lo (s::l)->wv c s.lo<0->yt (s::l) c=false:=fun{s l lo c} n r=>by
   have k:=n.2;rw[d n fun B=>?_]
   ·have:=(wi.flip c s.lo).1 r;simp[vt,show¬wv s.lo c<=0 by omega]
   ·rw[B,zc (by simp)]at k;exact Zo (wi.trans r k.1)
  have C:=H s (by simp);have D:=G t (by simp);have I:yt (s::l) s.lo=true:=by unfold yt;rw[jl,v n];rfl
  have J:yt (t::m) t.lo=true:=by unfold yt;rw[jl,v u];rfl
  have j:s.lo=t.lo:=by
   refine iN C.1 D.1 ?_;have n1:¬wv s.lo t.lo<0:=fun i=>by have:=h s.lo C.1;rw[I,o u i]at this;cases this
   have M:¬wv t.lo s.lo<0:=fun i=>by have:=h t.lo D.1;rw[J,o n i]at this;cases this
   have:=(wi.flip s.lo t.lo);have:=(wi.flip t.lo s.lo);omega
  have f:=n.2;have g:=u.2;cases p:s.y7<;>cases q:t.y7
  ·rw[p,zc (by simp)]at f;rw[q,zc (by simp)]at g;have E:yt (s::l) s.hi=false:=by rw[d n fun _=>by rw[wi.refl];exact zfF _];simp[vt,p,wi.refl]
   have N:yt (t::m) t.hi=false:=by rw[d u fun _=>by rw[wi.refl];exact zfF _];simp[vt,q,wi.refl]
   have F:s.hi=t.hi:=by
    refine iN C.2 D.2 ?_;have n1:¬wv s.hi t.hi<0:=fun i=>by
     have:=h s.hi C.2;rw[E,d u fun _=>Zo i]at this;have y:wv t.lo s.hi<=0:=by rw[<-j];exact Zo f.1
     simp[vt,i,y]at this
    have M:¬wv t.hi s.hi<0:=fun i=>by
     have:=h t.hi D.2;rw[N,d n fun _=>Zo i]at this;have y:wv s.lo t.hi<=0:=by rw[j];exact Zo g.1
     simp[vt,i,y]at this
    have:=(wi.flip s.hi t.hi);have:=(wi.flip t.hi s.hi);omega
   have K:s=t:=by obtain⟨a,b,c⟩:=s;obtain⟨P,Q,R⟩:=t;simp only at j F p q;rw[j,F,p,q]
   subst K;rw[uZ f.2 g.2 (fun x L=>H x (by simp[L])) (fun x L=>G x (by simp[L])) fun c r=>?_];by_cases z:wv c s.hi<=0
   ·rw[Wv f.2 z,Wv g.2 z]
   ·have:=h c r;have A:vt s c=false:=by have:=wi.HZ z;simp[vt,p,show¬wv c s.hi<0 by omega]
    unfold yt at this⊢;rw[jl,jl,A]at this;exact this
  ·rw[p,zc (by simp)]at f;have:=h s.hi C.2;have E:yt (s::l) s.hi=false:=by rw[d n fun _=>by rw[wi.refl];exact zfF _];simp[vt,p,wi.refl]
   have y:wv t.lo s.hi<=0:=by rw[<-j];exact Zo f.1
   rw[E,d u fun e=>by rw[q]at e;cases e]at this;simp[vt,q,y]at this
  ·rw[q,zc (by simp)]at g;have:=h t.hi D.2;have E:yt (t::m) t.hi=false:=by rw[d u fun _=>by rw[wi.refl];exact zfF _];simp[vt,q,wi.refl]
   have y:wv s.lo t.hi<=0:=by rw[j];exact Zo g.1
   rw[E,d n fun e=>by rw[p]at e;cases e]at this;simp[vt,p,y]at this
  ·rw[p,zf rfl]at f;rw[q,zf rfl]at g;obtain⟨a,b,c⟩:=s;obtain⟨P,Q,R⟩:=t;simp only at j p q f g;rw[f.1,g.1,j,p,q,f.2,g.2]
theorem Po{c:Cut}(Y:0<=c.v.a/\0<=c.v.b/\0<=c.v.c):wv qR c<=0:=by
 obtain⟨⟨a,b,d,p⟩,f⟩:=c;obtain⟨k,l,m⟩:=Y;simp only at k l m;have g:∀x:Int,0<=x->wA 0 x=0/\x=0\/wA 0 x<0:=by
  intro x u;unfold wA;split
  ·right;omega
  ·split
   ·omega
   ·left;omega
 have j:wO [48] (p.headD [48])<=0:=by
  have o:xE [48]=true:=by decide
  unfold wO;rw[o];have r:Lib.trimLeftB [48] 48=[]:=by decide
  simp only[qI,r];split
  ·obtain⟨q,s⟩:=jj (Lib.trimLeftB (p.headD [48]) 48);rw[s];cases q with
   |nil=>decide
   |cons x q=>
    have:wA (([]:za).length) ((x::q).length)<0:=by
     rcases g ((x::q).length) (by omega)with⟨_,h⟩|h
     ·simp at h;omega
     ·exact h
    simp only[Kz];rw[zc (by omega)];omega
  ·omega
 have t:Zy ⟨0,0,0,[[48]]⟩ ⟨a,b,d,p⟩<=0:=by
  unfold Zy;simp only;rcases g a k with⟨e1,_⟩|e1
  ·rcases g b l with⟨e2,_⟩|e2
   ·rcases g d m with⟨e3,_⟩|e3
    ·have i:Kz [wA 0 a,wA 0 b,wA 0 d]=0:=by simp[Kz,e1,e2,e3]
     rw[zf i,zc (by simp)];split
     ·omega
     ·cases p with
      |nil=>rename_i h;exact absurd rfl h
      |cons q p=>
       simp only[w7];split
       ·cases p<;>simp[w7]
       ·simpa using j
    ·have i:Kz [wA 0 a,wA 0 b,wA 0 d]=wA 0 d:=by simp only[Kz,e1,e2,qI];rw[zc (by omega)]
     rw[i,zc (by omega)];omega
   ·have i:Kz [wA 0 a,wA 0 b,wA 0 d]=wA 0 b:=by simp only[Kz,e1,qI];rw[zc (by omega)]
    rw[i,zc (by omega)];omega
  ·have i:Kz [wA 0 a,wA 0 b,wA 0 d]=wA 0 a:=by simp only[Kz];rw[zc (by omega)]
   rw[i,zc (by omega)];omega
 have e:wv qR ⟨⟨a,b,d,p⟩,f⟩=if Zy ⟨0,0,0,[[48]]⟩ ⟨a,b,d,p⟩=0 then(if false=f then 0 else if f=true then -1 else 1)else Zy ⟨0,0,0,[[48]]⟩ ⟨a,b,d,p⟩:=rfl
 rw[e];by_cases n:Zy ⟨0,0,0,[[48]]⟩ ⟨a,b,d,p⟩=0
 ·rw[zf n];cases f<;>simp
 ·rw[zc n];exact t
def bR(c:Cut):Prop:=0<=c.v.a/\0<=c.v.b/\0<=c.v.c
def Dm(l:List qN):Prop:=∀s∈l,bR s.lo/\bR s.hi
theorem Xn:yX [w5 qR]:=(Z5 kS).2
theorem Dn{m:List qN}{lo:Option Cut}(e:ak lo m)(a:yX m)(Y:Dm m):kv and m [w5 qR]=m:=by
 refine uZ (dv a Xn) (LR e) (kx _ a Xn) a fun c _=>?_
 rw[nN rfl a Xn];cases b:yt m c
 ·rfl
 ·have:wv qR c<=0:=by unfold yt at b;rw[jS]at b;obtain⟨s,hs,d⟩:=b;simp only[vt,zC,qi]at d;exact wi.tr _ _ _ (Po (Y s hs).1) d.1
  simp[yt,vt,w5,this]
theorem LS{f:Bool->Bool->Bool}(h:f false false=false)(g:∀x y,f x y=f y x){a b:List qN}(d:yX a)(e:yX b):kv f a b=kv f b a:=by
 refine uZ (dv d e) (dv e d) (kx _ d e) (kx _ e d) fun c _=>?_
 rw[nN h d e,nN h e d,g]
theorem T6(a b:Cut):ak none (eo a b):=by
 unfold eo;split
 ·trivial
 ·exact⟨fun q e=>(by cases e),by simp only[bA,zO,wx];exact⟨by omega,trivial⟩⟩
theorem Pp(a:Cut):ak none [w5 a]:=⟨fun q e=>(by cases e),by simp[w5]⟩
theorem LU(f:Bool->Bool->Bool){a b:List qN}(c:Dm a)(d:Dm b):Dm (kv f a b):=rR (Q:=bR) (by simp[bR,QL]) f c d
noncomputable def bS (o:za) (p:Part):List qN×Bool:=if(vj (JW o p)).2=true then((vj (JW o p)).1,true)else([],false)
noncomputable def ZD:List qN->Bool->List aY->Option (List qN×Bool)
 |out,b,[]=>some (out,b)
 |out,b,a::l=>if a.1=[]/\yo a.2=true then ZD out b l else match Qc a.2 with
  |none=>none
  |some p=>ZD (kv and out (bS a.1 p).1) (b&&(bS a.1 p).2) l
def Xo:List aY->Option (za×za)
 |[a,b,c]=>if b=([],[45])/\a.1=[]/\c.1=[]then some (a.2,c.2)else none
 |_=>none
noncomputable def dw (p q:Part):List qN×Bool:=if Qt q=true then(eo (Zz p) (vq q),true)else([],false)
noncomputable def Vr (t:za):Option (List qN×Bool):=match jP (yN t)with
 |none=>none
 |some l=>if l=[]then none else match Xo l with
  |some a=>match Qc a.1,Qc a.2 with
   |some p,some q=>some (dw p q)
   |_,_=>none
  |none=>ZD [w5 qR] true l
noncomputable def Ww:List qN->Bool->List za->Option (List qN×Bool)
 |out,a,[]=>some (out,a)
 |out,a,s::l=>match Vr s with
  |none=>none
  |some m=>Ww (kv or out m.1) (a&&m.2) l
noncomputable def Wx (t:za):List qN×Int:=if(400:Int)<t.length then([],2)else match Ww [] true (qh t [124,124])with
 |none=>([],10)
 |some o=>if o.2=false then([],1)else if(100:Int)<o.1.length then([],2)else(o.1,0)
def xL(a:aY):Option xN:=if a.1=[]/\yo a.2=true then some ez else if(zR a.2).2=true then some (JW a.1 (zR a.2).1)else none
def KT:List aY->Option (List xN)
 |[]=>some []
 |a::l=>match xL a with
  |none=>none
  |some c=>(KT l).map (c::·)
theorem u5{w:za}(a:w≠[])(h:(wD we w).2=[]):(wD we w).1≠[]:=fun e=>by have:=QB we w;rw[h,e]at this;exact a (by simpa using this.symm)
theorem Pq:(zR []).2=false:=by decide
theorem T7:zR [45]=(⟨0,0,0,3,[]⟩,false):=by rfl
theorem nO:∀(n:Nat) (a:List za),a.length<=n->(∀w∈a,w≠[])->yw n a=(jP a).bind KT
 |n,[],_,_=>by cases n<;>rfl
 | 0,w::a,h,_=>by simp at h
 |n+1,[w],_,g=>by
  have f:=g w (by simp);simp only[yw,jP];by_cases b:(wD we w).2=[]
  ·have i:=u5 f b;have:kh w []=none:=by unfold kh;rw[zc (fun h=>i h.1),zc (fun h=>h.2.2 rfl),b,Pq];simp
   rw[this,zf b];rfl
  ·rw[zc b];have:kh w []=(xL (wD we w)).map fun c=>(c,[]):=by
    unfold kh xL;by_cases d:(wD we w).1=[]/\yo (wD we w).2=true
    ·rw[zf d,zf d];rfl
    ·rw[zc d,zc d,zc (fun h=>h.2.2 rfl)];split<;>rfl
   rw[this];simp only[z8,KT];cases xL (wD we w)with
   |none=>rfl
   |some c=>cases n<;>rfl
 |n+1,w::x::a,m,g=>by
  have f:=g w (by simp);simp only[z7]at m;simp only[yw,jP];by_cases b:(wD we w).2=[]
  ·have i:=u5 f b;rw[zf b];have:kh w (x::a)=(xL ((wD we w).1,x)).map fun c=>(c,a):=by unfold kh xL;rw[zc (fun h=>i h.1),zf ⟨i,b,by simp⟩,zc (fun h=>i h.1)];simp only;split<;>rfl
   rw[this];have e:=nO n a (by omega) (fun y k=>g y (by simp[k]));cases j:jP a with
   |none=>
    rw[j]at e;simp only[xS,im];cases xL ((wD we w).1,x)with
    |none=>rfl
    |some c=>simp only[zA,e];rfl
   |some l=>
    rw[j]at e;simp only[zA,z8,KT];cases xL ((wD we w).1,x)with
    |none=>rfl
    |some c=>simp only[zA,e];rfl
  ·rw[zc b];have:kh w (x::a)=(xL (wD we w)).map fun c=>(c,x::a):=by
    unfold kh xL;by_cases d:(wD we w).1=[]/\yo (wD we w).2=true
    ·rw[zf d,zf d];rfl
    ·rw[zc d,zc d,zc (fun h=>b h.2.1)];split<;>rfl
   rw[this];have e:=nO n (x::a) (by simp only[z7];omega) (fun y k=>g y (by simp[zv.1 k]));cases j:jP (x::a)with
   |none=>
    rw[j]at e;simp only[xS,im];cases xL (wD we w)with
    |none=>rfl
    |some c=>simp only[zA,e];rfl
   |some l=>
    rw[j]at e;simp only[zA,z8,KT];cases xL (wD we w)with
    |none=>rfl
    |some c=>simp only[zA,e];rfl
theorem sC:∀(b:List za) (l:List aY),(∀w∈b,w≠[])->jP b=some l->(∀a∈l,a.1=[])->b=l.map (·.2)
 |[],l,_,h,_=>by simp only[jP]at h;injection h with h;subst h;rfl
 |[w],l,d,h,c=>by
  simp only[jP]at h;split at h
  ·cases h
  ·injection h with h;subst h;have:=c (wD we w) (by simp);have hd:=QB we w;rw[this]at hd;simp only[wg,K2,hd,xT,kc]
 |w::x::b,l,d,h,c=>by
  simp only[jP]at h;split at h
  ·rename_i f;cases e:jP b with
   |none=>rw[e]at h;cases h
   |some l'=>rw[e]at h;simp only[zA,zN]at h;subst h;exact absurd (c ((wD we w).1,x) (by simp)) (u5 (d w (by simp)) f)
  ·cases e:jP (x::b)with
   |none=>rw[e]at h;cases h
   |some l'=>rw[e]at h;simp only[zA,zN]at h;subst h;have g:=c (wD we w) (by simp);have hd:=QB we w;rw[g]at hd;rw[sC (x::b) l' (fun y i=>d y (by simp[zv.1 i])) e fun a j=>c a (by simp[j])];simp only[wg,hd,xT,kc]
theorem sD{c:UInt8}{l:za}(h:Kv c=false):xO (c::l)=none:=by unfold xO;rw[zc];rintro⟨a,_⟩;have:=(lX a).2;simp only[kO,q9,h,dE]at this;cases this
theorem nQ{c d:UInt8}(h:c≠d)(l:za):∃p a,qh (c::l) [d]=(c::p)::a:=by obtain⟨p,a,e⟩:=Pd d l;rw[bQ];exact⟨p,a,by simp[oL,h,e]⟩
theorem T8{c:UInt8}{l:za}(f:Kv c=false)(j:c≠45)(g:c≠46):(zR (c::l)).2=false:=by
 unfold zR;split
 ·have b:∃q,(Lib.cut (c::l) [45]).1=c::q:=by
   unfold Lib.cut;split
   ·rename_i hi;have d:¬(45:UInt8)=c:=fun e=>j e.symm
    rcases Lib.index_spec l [45]with⟨e,_⟩|⟨i,e,_⟩
    ·simp[Lib.index,d,e]at hi
    ·have k:Lib.index (c::l) [45]=((i+1:Nat):Int):=by
      have:¬((i:Int)=-1):=by omega
      simp[Lib.index,d,e,this]
     rw[k];exact⟨l.take i,by simp⟩
   ·exact⟨l,rfl⟩
  obtain⟨q,m⟩:=b;obtain⟨p,h,e⟩:=nQ g q;have:l4 (c::l)=none:=by
   unfold l4;rw[m,e];split
   ·rename_i a;injection a with a _
    subst a;rw[sD f]
   ·rfl
  rw[this]
 ·split
  ·rfl
  ·obtain⟨p,h,e⟩:=nQ g l;rw[e];have:yf wj 0 ((c::p)::h)=none:=by simp[yf,wL,sD f]
   rw[this]
theorem nR:∀(a:List za) (w:za),(wD a w).1≠[]->(wD a w).1∈a/\(wD a w).1 <+: w
 |[],w,h=>by simp[wD]at h
 |g::a,w,h=>by
  simp only[wD]at h⊢;split
  ·rename_i Y;exact⟨by simp,DU.1 Y⟩
  ·rename_i Y;rw[zc Y]at h;have:=nR a w h;exact⟨by simp[this.1],this.2⟩
theorem HG{w:za}(h:(wD we w).1≠[]):(zR w).2=false:=by obtain⟨a,r,b⟩:=nR we w h;obtain⟨g,c⟩:=jj ((wD we w).1);rw[c]at a b;rw[<-b];simp only[we,zv,ir,or_false]at a;rcases a with rfl|rfl|rfl|rfl|rfl|rfl|rfl<;>exact T8 (by decide) (by decide) (by decide)
theorem HH(a:aY):xL a=none↔¬(a.1=[]/\yo a.2=true)/\Qc a.2=none:=by
 unfold xL;rw[iM];by_cases h:a.1=[]/\yo a.2=true
 ·simp[h]
 ·rw[zc h];cases (zR a.2).2<;>simp[h]
theorem Ys:∀(l:List aY) (out:List qN) (b:Bool),ZD out b l=none↔KT l=none
 |[],out,b=>by simp[ZD,KT]
 |a::l,out,b=>by
  simp only[ZD,KT];by_cases h:a.1=[]/\yo a.2=true
  ·have:xL a=some ez:=by unfold xL;rw[zf h]
   rw[zf h,this,Ys l out b];simp
  ·rw[zc h];cases d:Qc a.2 with
   |none=>rw[(HH a).2 ⟨h,d⟩];simp
   |some p=>
    cases e:xL a with
    |none=>rw[((HH a).1 e).2]at d;cases d
    |some c=>simp only[Ys l];simp
theorem nS:∀(l:List aY) (out:List qN) (m:List qN×Bool),ZD out false l=some m->m.2=false
 |[],out,m,h=>by simp only[ZD]at h;injection h with h;rw[<-h]
 |a::l,out,m,h=>by
  simp only[ZD]at h;split at h
  ·exact nS l out m h
  ·split at h
   ·cases h
   ·exact nS l _ m (by simpa using h)
theorem Pr:vj ez=([w5 qR],true):=by simp[vj,ez]
theorem u6{p:Part}(h:p.ok):bR (Zz p):=⟨h.1.1,h.2.1.1,h.2.2.1.1⟩
theorem bT{p:Part}(h:p.ok)(i:Nat):bR (jh p i):=by have a:=h.1.1;have b:=h.2.1.1;have c:=h.2.2.1.1;unfold jh bR;split<;>simp only<;>omega
theorem nT{p:Part}(h:p.ok):bR (vq p):=by
 unfold vq;split
 ·exact bT h _
 ·exact u6 h
theorem X3:bR qR:=by simp[bR,qR]
theorem Ps:bR QL:=by simp[bR,QL]
theorem KU{a b:Cut}(c:bR a)(d:bR b):Dm (eo a b):=by
 unfold eo;split
 ·intro s hs;cases hs
 ·intro s hs;rw[qB]at hs;rw[hs];exact⟨c,d⟩
theorem dx{a:Cut}(b:bR a):Dm [w5 a]:=fun s hs=>by rw[qB]at hs;rw[hs];exact⟨b,Ps⟩
theorem Pt{c:xN}(b:c.vS):Dm (vj c).1:=by
 obtain⟨_,b⟩:=b;unfold vj;by_cases d:c.sign=jm
 ·rw[zf d];exact dx X3
 rw[zc d];obtain⟨⟨Y,_⟩,g⟩:=b.resolve_left d;have a:=u6 Y;have f:=nT Y;split
 ·exact dx a
 split
 ·exact KU X3 a
 split
 ·exact dx f
 split
 ·exact KU X3 f
 split
 ·rename_i e;exact KU a (nT (g e).1)
 split
 ·exact KU a (bT Y _)
 split
 ·exact KU a (bT Y _)
 ·exact KU a f
def pE(o:za):Prop:=o=[]\/o∈we
theorem nU:∀(c:List za) (l:List aY),jP c=some l->∀a∈l,pE a.1
 |[],l,h,a,b=>by simp only[jP]at h;injection h with h;subst h;cases b
 |[w],l,h,a,b=>by
  simp only[jP]at h;split at h
  ·cases h
  ·injection h with h;subst h;rw[qB]at b;rw[b];exact J0 we w
 |w::x::c,l,h,a,b=>by
  simp only[jP]at h;split at h
  ·cases e:jP c with
   |none=>rw[e]at h;cases h
   |some l'=>
    rw[e]at h;simp only[zA,zN]at h;subst h;rcases zv.1 b with rfl|b
    ·exact J0 we w
    ·exact nU c l' e a b
  ·cases e:jP (x::c)with
   |none=>rw[e]at h;cases h
   |some l'=>
    rw[e]at h;simp only[zA,zN]at h;subst h;rcases zv.1 b with rfl|b
    ·exact J0 we w
    ·exact nU (x::c) l' e a b
theorem Z9{s:za}{p:Part}(h:Qc s=some p):(zR s).2=true/\(zR s).1=p/\p.ok/\Qw p.pre:=by
 rw[iM]at h;split at h
 ·rename_i e;injection h with h
  have:=JZ e;rw[h]at this;exact⟨e,h,this⟩
 ·cases h
theorem Dp{o:za}{p:Part}(a:pE o)(Y:p.ok)(b:Qw p.pre):(JW o p).vS:=by have:=Ca a;exact⟨this.1,.inr ⟨⟨Y,b⟩,fun e=>absurd e this.2⟩⟩
theorem fe:∀(l:List aY) (out:List qN) (cs:List xN) (m:List qN×Bool),(∀a∈l,pE a.1)->ak none out->yX out->Dm out->KT l=some cs->ZD out true l=some m->YI cs out=if m.2=true then some m.1 else none
 |[],out,cs,m,_,_,_,_,c,d=>by
  simp only[KT]at c;simp only[ZD]at d;injection c with c
  injection d with d;subst c;subst d;rfl
 |a::l,out,cs,m,hs,q,i,j,c,d=>by
  simp only[KT]at c;simp only[ZD]at d;have g:∀b∈l,pE b.1:=fun b s=>hs b (by simp[s])
  by_cases h:a.1=[]/\yo a.2=true
  ·have k:xL a=some ez:=by unfold xL;rw[zf h]
   rw[zf h]at d;rw[k]at c;simp only at c;cases e:KT l with
   |none=>rw[e]at c;cases c
   |some f=>rw[e]at c;simp only[zA,zN]at c;subst c;simp only[YI,Pr,qI];rw[Dn q i j];exact fe l out f m g q i j e d
  ·rw[zc h]at d;cases n:Qc a.2 with
   |none=>rw[n]at d;cases d
   |some p=>
    rw[n]at d;simp only at d;obtain⟨t,u,v,w⟩:=Z9 n;have k:xL a=some (JW a.1 p):=by unfold xL;rw[zc h,zf t,u]
    rw[k]at c;simp only at c;cases e:KT l with
    |none=>rw[e]at c;cases c
    |some f=>
     rw[e]at c;simp only[zA,zN]at c;subst c;have o:=Dp (hs a (by simp)) v w;simp only[YI];unfold bS at d;cases r:(vj (JW a.1 p)).2
     ·rw[r]at d;simp only[zO,wx,Bool.and_false]at d⊢;rw[nS l _ m d];simp
     ·rw[r]at d;simp only[qI,zhs]at d⊢;exact fe l _ f m g (dv i (J1 o).2) (kx and i (J1 o).2) (LU and j (Pt o)) e d
theorem X4:∀(l:List aY),(∃a∈l,a.2=[45])->KT l=none
 |[],h=>by obtain⟨a,d,_⟩:=h;cases d
 |a::l,h=>by
  simp only[KT];obtain⟨b,c,e⟩:=h;rcases zv.1 c with rfl|c
  ·have:xL b=none:=by unfold xL;rw[e,T7];simp[yo]
   rw[this]
  ·rw[X4 l ⟨b,c,e⟩];cases xL a<;>rfl
theorem zcn(t:za):∀w∈yN t,w≠[]:=fun w a=>by unfold yN wz at a;have:=(za4.1 a).2;simpa[oJ]using this
theorem LV{l:List aY}{a:za×za}(h:Xo l=some a):l=[([],a.1),([],[45]),([],a.2)]:=by
 unfold Xo at h;split at h
 ·rename_i x y z;split at h
  ·rename_i d;injection h with h
   obtain⟨e,b,c⟩:=d;obtain⟨f,g⟩:=x;obtain⟨i,j⟩:=z;simp only at b c h;rw[<-h,e,b,c]
  ·cases h
 ·cases h
theorem Xq:wD we [45]=([],[45]):=by decide
theorem Dq(t:za):((QJ t).2=false->Vr t=none)/\((QJ t).2=true->∃m,Vr t=some m/\YI (QJ t).1 [w5 qR]=if m.2=true then some m.1 else none):=by
 have A:=zcn t;have J:∀n,yN t=n->QJ t=(match yw n.length n with
   |some l=>(l,!l.isEmpty)
   |none=>([],false))->(∀l,jP n=some l->Xo l=none)->((QJ t).2=false->Vr t=none)/\((QJ t).2=true->∃m,Vr t=some m/\YI (QJ t).1 [w5 qR]=if m.2=true then some m.1 else none):=by
  intro n o C hd;rw[o]at A;rw[nO n.length n (ze _) A]at C;rw[C];unfold Vr;rw[o];cases D:jP n with
  |none=>exact⟨fun _=>rfl,fun h=>by cases h⟩
  |some l=>
   have K:=hd l D;simp only[z8];by_cases f:l=[]
   ·subst f;simp[KT]
   ·rw[zc f,K];simp only;have E:=Ys l [w5 qR] true;cases u:KT l with
    |none=>exact⟨fun _=>E.2 u,fun h=>by cases h⟩
    |some cs=>
     have R:cs≠[]:=by
      cases l with
      |nil=>exact absurd rfl f
      |cons a l=>
       simp only[KT]at u;split at u
       ·cases u
       ·cases h:KT l<;>rw[h]at u<;>simp at u;rw[<-u];simp
     have F:cs.isEmpty=false:=by cases cs<;>simp_all
     cases I:ZD [w5 qR] true l with
     |none=>rw[E.1 I]at u;cases u
     |some m=>exact⟨fun h=>by simp[F]at h,fun _=>⟨m,rfl,fe l _ cs m (nU n l D) (Pp _) Xn (dx X3) u I⟩⟩
 obtain⟨n,o⟩:=jj (yN t);by_cases g:∃a c,n=[a,[45],c]
 ·obtain⟨a,c,rfl⟩:=g;have C:QJ t=([⟨[45],(zR a).1,(zR c).1⟩],(zR a).2&&(zR c).2):=by unfold QJ;rw[fc,o];simp
  rw[o]at A;have G:a≠[]:=A a (by simp);have L:c≠[]:=A c (by simp);by_cases i:(wD we a).1=[]
  ·by_cases v:(wD we c).1=[]
   ·have H:wD we a=([],a):=by have:=QB we a;rw[i]at this;exact Prod.ext i (by simpa using this)
    have N:wD we c=([],c):=by have:=QB we c;rw[v]at this;exact Prod.ext v (by simpa using this)
    have D:jP [a,[45],c]=some [([],a),([],[45]),([],c)]:=by rw[Yr _ _ (by rw[H];exact G),Yr _ _ (by rw[Xq];simp),Yr _ _ (by rw[N];exact L),H,N,Xq];rfl
    have I:Vr t=match Qc a,Qc c with
      |some p,some q=>some (dw p q)
      |_,_=>none:=by
     unfold Vr;rw[o,D];simp only[Rn,wx,reduceCtorEq];rfl
    rw[I,C];cases j:Qc a with
    |none=>
     rw[iM]at j;have:(zR a).2=false:=by
      cases h:(zR a).2 with
      |false=>rfl
      |true=>rw[h]at j;simp at j
     rw[this];exact⟨fun _=>rfl,fun h=>by cases h⟩
    |some p=>
     obtain⟨S,T,W,X⟩:=Z9 j;cases w:Qc c with
     |none=>
      rw[iM]at w;have:(zR c).2=false:=by
       cases h:(zR c).2 with
       |false=>rfl
       |true=>rw[h]at w;simp at w
      rw[this,Bool.and_false];exact⟨fun _=>rfl,fun h=>by cases h⟩
     |some q=>
      obtain⟨q1,q2,q3,q4⟩:=Z9 w;rw[S,q1,T,q2];refine⟨fun h=>(by cases h),fun _=>⟨dw p q,rfl,?_⟩⟩;have hs:vj ⟨[45],p,q⟩=(eo (Zz p) (vq q),Qt q):=by simp[vj,jm]
      simp only[YI,hs];unfold dw;have P:yX (eo (Zz p) (vq q)):=(Wu (mB X) (XQ q4)).2;cases Q:Qt q
      ·simp
      ·simp only[qI];rw[LS rfl Bool.and_comm Xn P,Dn (T6 _ _) P (KU (u6 W) (nT q3))]
   ·have r:(QJ t).2=false:=by rw[C,HG v,Bool.and_false]
    refine⟨fun _=>?_,fun h=>by rw[r]at h;cases h⟩;have H:wD we a=([],a):=by have:=QB we a;rw[i]at this;exact Prod.ext i (by simpa using this)
    unfold Vr;rw[o,Yr _ _ (by rw[H];exact G),Yr _ _ (by rw[Xq];simp)];simp only[jP];split
    ·rfl
    ·rename_i l f;cases d:(if(wD we c).2=[]then none else some [wD we c]:Option (List aY))with
     |none=>rw[d]at f;cases f
     |some k=>
      have Q:k=[wD we c]:=by
       split at d
       ·cases d
       ·injection d with d;exact d.symm
      rw[d]at f;simp only[zA,zN,H,Xq]at f;subst f;subst Q;simp only[Rn,wx,reduceCtorEq];have s:Xo [(([]:za),a),([],[45]),wD we c]=none:=by simp[Xo,v]
      rw[s];simp only;rw[Ys];exact X4 _ ⟨([],[45]),by simp,rfl⟩
  ·have r:(QJ t).2=false:=by rw[C,HG i];rfl
   refine⟨fun _=>?_,fun h=>by rw[r]at h;cases h⟩;unfold Vr;rw[o];simp only[jP];by_cases j:(wD we a).2=[]
   ·rw[zf j];split
    ·rfl
    ·rename_i l f;cases d:(if(wD we c).2=[]then none else some [wD we c]:Option (List aY))with
     |none=>rw[d]at f;cases f
     |some k=>
      rw[d]at f;simp only[zA,zN]at f;subst f;simp only[Rn,wx,reduceCtorEq];have s:Xo (((wD we a).1,[45])::k)=none:=by
       unfold Xo;split
       ·rename_i x y z B;injection B with M _
        rw[<-M];simp[i]
       ·rfl
      rw[s];simp only;rw[Ys];exact X4 _ ⟨((wD we a).1,[45]),by simp,rfl⟩
   ·rw[zc j];simp only[Xq,Rn,wx,reduceCtorEq];split
    ·rfl
    ·rename_i l f;cases d:(if(wD we c).2=[]then none else some [wD we c]:Option (List aY))with
     |none=>rw[d]at f;cases f
     |some k=>
      rw[d]at f;simp only[zA,zN]at f;subst f;simp only[Rn,wx,reduceCtorEq];have s:Xo (wD we a::([],[45])::k)=none:=by
       unfold Xo;split
       ·rename_i x y z B;injection B with M _
        rw[<-M];simp[i]
       ·rfl
      rw[s];simp only;rw[Ys];exact X4 _ ⟨([],[45]),by simp,rfl⟩
 ·refine J n o ?_ ?_
  ·unfold QJ;rw[fc,o];split
   ·rename_i a b c;rw[zc (fun e=>g ⟨a,c,by rw[e]⟩)];rfl
   ·rfl
  ·intro l D;cases hd:Xo l with
   |none=>rfl
   |some a=>have f:=LV hd;rw[o]at A;have:=sC n l A D (by rw[f];simp);rw[f]at this;exact absurd ⟨a.1,a.2,this⟩ g
theorem bU:∀(l:List za) (out:List qN) (a:Bool),Ww out a l=none↔oK l=none
 |[],out,a=>by simp[Ww,oK]
 |s::l,out,a=>by
  obtain⟨b,c⟩:=Dq s;simp only[Ww,oK];cases h:(QJ s).2
  ·rw[b h];simp
  ·obtain⟨m,e,_⟩:=c h;rw[e];simp only[bU l,qI];cases oK l<;>simp
theorem sE:∀(l:List za) (out:List qN) (m:List qN×Bool),Ww out false l=some m->m.2=false
 |[],out,m,h=>by simp only[Ww]at h;injection h with h;rw[<-h]
 |a::l,out,m,h=>by
  simp only[Ww]at h;split at h
  ·cases h
  ·exact sE l _ m (by simpa using h)
theorem nV:∀(l:List za) (out:List qN) (d:List (List xN)) (m:List qN×Bool),oK l=some d->Ww out true l=some m->Vk d out=if m.2=true then some m.1 else none
 |[],out,d,m,a,b=>by
  simp only[oK]at a;simp only[Ww]at b;injection a with a
  injection b with b;subst a;subst b;rfl
 |s::l,out,d,m,a,b=>by
  obtain⟨n,i⟩:=Dq s;simp only[oK]at a;simp only[Ww]at b;cases h:(QJ s).2
  ·rw[h]at a;simp at a
  ·rw[h]at a;simp only[qI]at a;obtain⟨k,e,j⟩:=i h;rw[e]at b;simp only[jK]at b;cases f:oK l with
   |none=>rw[f]at a;cases a
   |some g=>
    rw[f]at a;simp only[zA,zN]at a;subst a;simp only[Vk,j];cases c:k.2
    ·rw[c]at b;rw[sE l _ m b];simp
    ·rw[c]at b;simp only[qI];exact nV l _ g m f b
theorem u7(t:za):Wx t=xe t:=by
 unfold Wx xe;split
 ·rfl
 ·cases a:oK (qh t [124,124])with
  |none=>rw[(bU _ [] true).2 a]
  |some c=>
   cases b:Ww [] true (qh t [124,124])with
   |none=>rw[(bU _ _ _).1 b]at a;cases a
   |some m=>
    have:=nV _ _ c m a b;simp only[this];cases d:m.2
    ·simp
    ·simp
noncomputable def W4 (o:za) (v:wN) (m:Int):O:=.wq [.sl 11 (z6 (bS o (v.part m)).1),int (if(bS o (v.part m)).2=true then 0 else 1)]
noncomputable def T9:zb->Option O:=qu (α:=za×wN×Int) (fun a=>[str a.1,.agg a.2.1.V,int a.2.2]) (fun a=>pE a.1/\a.2.1.ok/\1<=a.2.2/\a.2.2<=3) (fun a=>W4 a.1 a.2.1 a.2.2)
theorem LW(o:za)(v:wN)(m:Int)(Y:Hp)(Z:Nat)(c:pE o)(d:v.ok)(f:1<=m/\m<=3):qA [.a,.g kp] T9 [str o,.agg v.V,int m] Y Z=some (W4 o v m,Y,Z):=
 vH (show zw Y [str o,.agg v.V,int m]=some ([str o,.agg v.V,int m],Y) by simp[wN.V]) (by
  show T9 [str o,(Sh.g kp).fix (.agg v.V),int m]=_;rw[J9];exact qG (V:=fun a:List UInt8×wN×Int=>[str a.1,O.agg a.2.1.V,int a.2.2]) (a:=(o,v,m)) (fun x y e=>by obtain⟨j,k,l⟩:=x;obtain⟨n,p,q⟩:=y;simp only[zl,zM]at e;obtain⟨h,b,i⟩:=e;injection b with b;rw[wR h,Wo b,qS i]) ⟨c,d,f⟩) (.inr (by simp[wN.V]))
abbrev qst:List Nat:=[192,229,232,233]
noncomputable abbrev Crst:Ctx:=zW prog [(228,qA [.g kp] (R2 Wf fun m=>1<=m/\m<=3)),(192,qA [] (YG ep)),(229,qA [.g jz,.g jz] (AP KB)),(232,qA [.g kp] (R2 Zb fun i=>0<=i/\i<3)),(233,qA [.g kp] (R2 xK fun m=>1<=m/\m<=3))]
theorem Ua:AM.Good Crst (fun g=>qst.contains g):=qx mixed ⟨du,by simp,dt,fun _=>yR _ _,gd,fun _=>yR _ _,aX,fun _=>yR _ _,uT,fun _=>yR _ _,trivial⟩
theorem wN.ok.small{v:wN}(h:v.ok):vi v.pre:=h.2.2.2
theorem pF(o:za)(v:wN)(m:Int)(t:pE o)(H:v.ok)(S:1<=m/\m<=3):∃T,zt Crst f195 [str o,.agg v.V,int m]=some T/\qg T (W4 o v m):=by
 refine yM (sh:=.s 11 jo) rfl ?_;have J:=H.small;have g:=fun Y Z=>Xi Wf (fun m=>1<=m/\m<=3) v m (.agg v.V) Y Z H S (J9 v) (Xj v Y) (Xk v)
 have r:=fun Y Z=>Xi xK (fun m=>1<=m/\m<=3) v m (.agg v.V) Y Z H S (J9 v) (Xj v Y) (Xk v)
 have w:=fun(i:Int) (hi:0<=i/\i<3) Y Z=>Xi Zb (fun i=>0<=i/\i<3) v i (.agg v.V) Y Z H hi (J9 v) (Xj v Y) (Xk v)
 have x:∀(Y:Hp) (Z:Nat),qA [] (YG ep) [] Y Z=some (.agg [int qR.v.a,int qR.v.b,int qR.v.c,.sl 1 (zH qR.v.pre),q8 qR.after],Y,Z):=fun Y Z=>QY _ Y Z
 have k:Zz (v.part m)=⟨v,false⟩:=rfl;have l:vi (v.part m).pre:=J;have C:=fun Y Z=>Wb qR (Zz (v.part m)) Y Z tY (Z4 l)
 have y:=fun Y Z=>Wb qR (vq (v.part m)) Y Z tY (QZ l)
 have z:=fun Y Z=>Wb (Zz (v.part m)) (vq (v.part m)) Y Z (Z4 l) (QZ l)
 have A:=fun i Y Z=>Wb (Zz (v.part m)) (jh (v.part m) i) Y Z (Z4 l) (KC _ i)
 have D:=fun i=>gb v 3 m i
 simp only[KB,k,wN.V,Cut.V,Wf,Je,xK,Zb,kR,(D _).1,(D _).2]at g r w C y z A;have W:=wX (m-1);have E:(v.part m).has=m:=rfl;have F:∀o':za,o'=o->o'≠jm:=fun o' e=>by
  subst e;rcases t with rfl|t
  ·decide
  ·intro e;rw[e]at t;revert t;decide
 have K:o≠[45]:=by
  rcases t with rfl|t
  ·decide
  ·intro e;rw[e]at t;revert t;decide
 have n0:=F o rfl;have one:∀(X:List qN) (b:Bool),vj (JW o (v.part m))=(X,b)->bS o (v.part m)=if b=true then(X,true)else([],false):=fun X b h=>by unfold bS;rw[h]
 by_cases L:o=[62,61]
 ·subst L;have d:=one [w5 (Zz (v.part m))] true (by simp[vj,JW,jm]);simp at d;simp[wN.V,Cut.V,g,zS,qn,zp,zy,zo,qo,W4,d,k,z6,w5,qN.V,QL,f195]
 have n:=yq L;by_cases M:o=[60]
 ·subst M;have d:=one (eo qR (Zz (v.part m))) true (by simp[vj,JW,jm]);simp at d;simp[wN.V,Cut.V,g,x,C,n,zS,qn,zp,zy,zo,qo,W4,d,k,z6,qN.V,f195]
 have q:=yq M;by_cases N:o=[62]
 ·subst N;have d:=one [w5 (vq (v.part m))] (Qt (v.part m)) (by simp[vj,JW,jm]);cases j:Qt (v.part m)
  ·rw[j]at d g;simp at d;simp[wN.V,Cut.V,g,n,q,zS,qn,zp,zy,zo,qo,W4,d,z6,f195]
  ·rw[j]at d g;simp at d;simp[wN.V,Cut.V,g,n,q,zS,qn,zp,zy,zo,qo,W4,d,z6,w5,qN.V,QL,f195]
 have u:=yq N;by_cases P:o=[60,61]
 ·subst P;have d:=one (eo qR (vq (v.part m))) (Qt (v.part m)) (by simp[vj,JW,jm]);cases j:Qt (v.part m)
  ·rw[j]at d g;simp at d;simp[wN.V,Cut.V,g,x,y,n,q,u,zS,qn,qo,W4,d,z6,f195]
  ·rw[j]at d g;simp at d;simp[wN.V,Cut.V,g,x,y,n,q,u,zS,qn,qo,W4,d,z6,qN.V,Cut.V,f195]
 have B:=yq P;by_cases Q:o=[126]
 ·subst Q;have d:=one (eo (Zz (v.part m)) (jh (v.part m) (min (m-1) 1).toNat)) (vy (v.part m) (min (m-1) 1).toNat) (by simp[vj,JW,jm,E]);have G:(if 1<m-1 then 1 else m-1)=(((min (m-1) 1).toNat:Nat):Int):=by split<;>omega
  have hmn:(min (m-1) 1).toNat<3:=by omega
  have f:=w (((min (m-1) 1).toNat:Nat):Int) (by omega);simp only[Int.toNat_natCast]at f;rw[<-G]at f;obtain⟨i,hi⟩:=jj ((min (m-1) 1).toNat);rw[hi]at d f;have p:=fun Y Z=>A i Y Z
  cases j:vy (v.part m) i
  ·rw[j]at d f;simp at d;simp[wN.V,Cut.V,g,W,f,p,n,q,u,B,zS,qn,qo,W4,d,z6,f195]
  ·rw[j]at d f;simp at d;simp[wN.V,Cut.V,g,W,f,p,n,q,u,B,zS,qn,qo,W4,d,k,z6,qN.V,f195]
 have I:=yq Q;by_cases R:o=[94]
 ·subst R;have d:=one (eo (Zz (v.part m)) (jh (v.part m) (jE (v.part m)))) (vy (v.part m) (jE (v.part m))) (by simp[vj,JW,jm]);have hci:=IY (v.part m);have f:=w ((jE (v.part m):Nat):Int) (by omega);simp only[Int.toNat_natCast]at f;obtain⟨i,hi⟩:=jj (jE (v.part m));rw[hi]at d f r;have p:=fun Y Z=>A i Y Z
  cases j:vy (v.part m) i
  ·rw[j]at d f;simp at d;simp[wN.V,Cut.V,g,r,f,p,n,q,u,B,I,zS,qn,qo,W4,d,z6,f195]
  ·rw[j]at d f;simp at d;simp[wN.V,Cut.V,g,r,f,p,n,q,u,B,I,zS,qn,qo,W4,d,k,z6,qN.V,f195]
 have e7:=yq R;have d:=one (eo (Zz (v.part m)) (vq (v.part m))) (Qt (v.part m)) (by simp[vj,JW,n0,L,M,N,P,K,Q,R]);cases j:Qt (v.part m)
 ·rw[j]at d g;simp at d;simp[wN.V,Cut.V,g,z,n,q,u,B,I,e7,zS,qn,qo,W4,d,z6,f195]
 ·rw[j]at d g;simp at d;simp[wN.V,Cut.V,g,z,n,q,u,B,I,e7,zS,qn,qo,W4,d,k,z6,qN.V,f195]
theorem nW:zg prog 195 (qA [.a,.g kp] T9):=
 wT (fn:=f195) Ua (qE func195) _ _ fun args r h=>by obtain⟨⟨o,v,m⟩,rfl,⟨b,c,d⟩,rfl⟩:=zK h;obtain⟨e,f,i⟩:=pF o v m b c d;exact⟨by simp[f195],e,f,i⟩
def Q3(l:List aY):List zb:=l.map fun a=>[str a.1,str a.2]
def ig(s:za):List aY×Bool:=match jP (yN s)with
 |some l=>(l,!l.isEmpty)
 |none=>([],false)
def pG(s:za):O:=.wq [.sl 2 (Q3 (ig s).1),q8 (ig s).2]
noncomputable abbrev Crwo:Ctx:=zW prog [(160,zi false [] (Qg tbP fun _ b=>lT b)),(226,zi false [] (MG F7)),(225,zi false [] (Qg tlP fun _ b=>lT b)),(227,zi false [] (FSB ibP))]
theorem Ub:Gd Crwo:=qc mixed ⟨fE,ie,Yz,gL,trivial⟩
theorem sF(a:za)(Y:Hp)(Z:Nat)(h:a.length<=zx):zi false [] (Qg tlP fun _ b=>lT b) [str a,str [32]] Y Z=some (str (Lib.trimLeftB a 32),Y,Z):=ko _ _ a [32] Y Z h (by decide) ⟨32,rfl,by decide⟩ rfl
theorem LX(a:za)(Y:Hp)(Z:Nat)(h:a.length<=zx):zi false [] (Qg tbP fun _ b=>lT b) [str a,str [32]] Y Z=some (str (Lib.trimB a 32),Y,Z):=ko _ _ a [32] Y Z h (by decide) ⟨32,rfl,by decide⟩ rfl
theorem Pu:∀s:za,(Lib.indexByte s 32=((hd s).length:Int)/\(hd s).length<s.length)\/(Lib.indexByte s 32=-1/\hd s=s)
 |[]=>.inr ⟨rfl,rfl⟩
 |c::s=>by
  by_cases a:c=32
  ·subst a;exact .inl ⟨by simp[Lib.indexByte,hd],by simp[hd]⟩
  ·have b:hd (c::s)=c::hd s:=by simp[hd,a]
   rcases Pu s with⟨d,e⟩|⟨d,e⟩
   ·refine .inl ⟨?_,by rw[b];simpa using e⟩;rw[b];have:¬Lib.indexByte s 32=-1:=by omega
    simp[Lib.indexByte,a,d]
    try omega
   ·refine .inr ⟨?_,by rw[b,e]⟩;simp[Lib.indexByte,a,d]
theorem Uc(s:za):s.take (hd s).length=hd s/\s.drop (hd s).length=tl s:=by have h:=gg s;exact⟨(List.prefix_iff_eq_take.1 ⟨tl s,h⟩).symm,by have:=zu (List.drop (hd s).length) h;simpa using this.symm⟩
def LY:O->Nat
 | .v (.string s)=>s.size
 |_=>0
theorem nX(l:List aY):(Q3 l).length=l.length:=by simp[Q3]
theorem Pv(l:List aY):(Q3 l).map (QI [none,none])=Q3 l:=by simp[Q3]
def WoI(a:za)(st:St):Prop:=∃(s:za) (l:List aY),st.U 0=str s/\HD s/\s.length+l.length<=a.length/\qU st.Y st.Z 216 2 (st.U 4) (Q3 l)/\jP (yN a)=(jP (yN s)).map (l++·)
theorem Pw{b s:za}{l:List aY}{a:aY}{st:St}(c:st.U 0=str (Lib.trimLeftB s 32))(hs:(Lib.trimLeftB s 32).length+(l.length+1)<=b.length)(d:qU st.Y st.Z 216 2 (st.U 4) (Q3 l++[[str a.1,str a.2]]))(e:jP (yN b)=(jP (yN s)).map (fun x=>l++[a]++x)):WoI b st:=
 ⟨Lib.trimLeftB s 32,l++[a],c,Jk s,by simpa using hs,by simpa[Q3]using d,by rw[e,X0]⟩
theorem Dr(t:za)(ht:t.length<=zx):∃r0,zt Crwo f190 [str t]=some r0/\qg r0 (pG t):=by
 refine yM (sh:=.s 2 [none,none]) rfl ?_;have W:=fun Y Z=>LX t Y Z ht
 have G:(Lib.trimB t 32).length<=t.length:=by
  have h1:=X1 (Lib.trimRightB t 32);have h2:(Lib.trimRightB t 32).length<=t.length:=by unfold Lib.trimRightB;rw[List.length_reverse];exact zE (List.dropWhile_sublist _).length_le (by simp)
  exact zE h1 h2
 have hR:∀l:List aY,jP (yN t)=some l->ig t=(l,!l.isEmpty):=fun l h=>by unfold ig;rw[h]
 have hN:jP (yN t)=none->ig t=([],false):=fun h=>by unfold ig;rw[h]
 simp[W];refine Wm (WoI t) (fun st=>LY (st.U 0)) ⟨Lib.trimB t 32,[],by simp,Jk _,by simpa using G,.inl ⟨by simp,rfl⟩,by rw[Pg];cases jP (yN t)<;>rfl⟩ ?_;rintro⟨U,Y,Z⟩ ⟨s,l,u,X,hsl,hO,H⟩;simp only at u hO;by_cases hs:s=[]
 ·subst hs;have he':jP (yN t)=some l:=by rw[H,uU];simp[jP]
  have I:=hR l he';have hfx:=Pv l;have j:=nX l;have hb1:(decide (0<l.length))=!l.isEmpty:=by cases l<;>simp
  rcases hO with⟨S,hn⟩|⟨id,hid,S,hb⟩
  ·have hl:l=[]:=by simpa[Q3]using hn
   subst hl;simp[u,S,qo,pG,I,Q3,f190]
  ·rw[j]at S;have f:(Q3 l).take l.length=Q3 l:=qe (by omega);simp[u,S,hb,j,f,hfx,hb1,qo,pG,I,f190]
 ·have hh:hd s≠[]:=X.resolve_left hs;have k:s.isEmpty=false:=by cases s with
   |nil=>exact absurd rfl hs
   |cons c s=>rfl
  have b:=Pl hh;have g:=fun h=>Pm (s:=s) h
  unfold zx at ht;have B:s.length<=zx:=by unfold zx;omega
  have d:=fun Y Z=>cC F7 s Y Z B rfl
  have C:=QB we s;have i:(wD we s).1.length<=s.length:=by
   rcases J0 we s with h|h
   ·rw[h];simp
   ·by_cases m:(wD we s).1=[]
    ·rw[m];simp
    ·exact(nR we s m).2.length_le
  have D:=KE we s;simp only[F7]at d;unfold uX at b g;simp only at b g;obtain⟨o,r,hor⟩:∃o r,wD we s=(o,r):=⟨_,_,rfl⟩;rw[hor]at d C i D b g;simp only at d C i D b g;have n:=fun Y Z=>sF r Y Z (by unfold zx;omega)
  have f:(s.drop o.length).take (s.length-o.length)=r:=by rw[C];exact qe (by simp)
  obtain⟨s1,J⟩:=jj (Lib.trimLeftB r 32);have hs1l:s1.length<=s.length:=by rw[<-J];exact zE (X1 r) D
  rw[J]at n b g;have w:∀Y Z,zi false [] (FSB ibP) [str s1,.v (.int .u8 32)] Y Z=some (int (Lib.indexByte s1 32),Y,Z):=fun Y Z=>NC ibP s1 32 Y Z (by unfold zx;omega) rfl
  obtain⟨K,L⟩:=Uc s1;have A:(s1.drop (hd s1).length).take (s1.length-(hd s1).length)=tl s1:=by rw[L];exact qe (by rw[<-L];simp)
  have M:(hd s1).length<=s1.length:=by have:=zu List.length (gg s1);rw[qD]at this;omega
  have p:=fun Y Z=>sF (tl s1) Y Z (by have:=zu List.length (gg s1);rw[qD]at this;unfold zx;omega)
  have j:=nX l;have E:=qU.yS (P:=prog) (t:=212) (c:=[str o,str (hd s1)]) hO zeC zeD zeE zeG rfl (by omega) (by rw[j];unfold maxLen;omega) (by rw[j];omega);have hoe:(s.isEmpty)=false:=k;by_cases m:hd s1=[]
  ·rw[zf m]at b;rw[b]at H;have I:=hN H;rcases Pu s1 with⟨hi,R3⟩|⟨hi,q⟩
   ·rw[m]at hi;simp at hi;simp[u,hs,k,d,i,f,n,w,hi,qo,pG,I,Q3,f190]
   ·have N:s1=[]:=by rw[<-q];exact m
    subst N;simp[u,hs,k,d,i,f,n,w,hi,qo,pG,I,Q3,f190]
  ·have UT:=g m;rw[zc m]at b;rw[b]at H;have y:¬(hd s1).length=0:=fun e=>m (qj.1 e)
   have Q:=X1 (tl s1);have z:jP (yN t)=(jP (yN (tl s1))).map (fun x=>l++[((o,hd s1):aY)]++x):=by rw[H];cases jP (yN (tl s1))<;>simp
   have T:LY (str (Lib.trimLeftB (tl s1) 32))<LY (U 0):=by rw[u];simp[LY];omega
   rw[u]at T;have hnn:¬((hd s1).length:Int)<0:=by omega
   have F:(((hd s1).length:Int)==0)=false:=by simpa using m
   rcases Pu s1 with⟨hi,R3⟩|⟨hi,q⟩
   ·simp[u,hs,k,d,i,f,n,w,hi,hnn,F,m,y,M,K,A,p,E,zS,qn,zp,zy,zo];exact⟨Pw (s:=tl s1) (l:=l) (a:=(o,hd s1)) (by simp) (by omega) (by simpa using qU.after) z,by simpa[LY]using T⟩
   ·rw[q]at y K A M E z;have R:s1≠[]:=fun e=>y (by rw[e];rfl)
    rw[q]at F;have hte:tl s1=[]:=by have:=zu List.length (gg s1);rw[qD,q]at this;exact qj.1 (by omega)
    rw[hte]at p z Q T;simp[u,hs,k,d,i,f,n,w,hi,F,y,R,p,E,zS,qn,zp,zy,zo];exact⟨Pw (s:=[]) (l:=l) (a:=(o,s1)) (by simp) (by have h9:=kZ.2 hs;rw[show Lib.trimLeftB [] 32=[]from rfl,xT];omega) (by simpa using qU.after) z,by simpa[LY]using T⟩
theorem u9:zg prog 190 (zi false [] (MG pG)):=
 xl (fn:=f190) Ub (qE func190) false [] _ fun args r h w S vs a=>by obtain⟨l,rfl,Y,rfl⟩:=zK h;obtain⟨b,c,d⟩:=Dr l Y;exact⟨_,b,a,by simp[f190],c,d⟩
theorem nY{s:za}{p:Part}(h:Qc s=some p):(Vq s).2.2=true/\(Vq s).2.1=p.has/\(Vq s).2.1≠0/\p=(Vq s).1.part (Vq s).2.1/\(Vq s).1.ok/\1<=p.has/\p.has<=3:=by
 have f:=h;rw[HC]at h;split at h
 ·rename_i d;injection h with h
  obtain⟨_,_,Y,j⟩:=Z9 f;subst h;obtain⟨a,b,c,⟨g,i⟩,e⟩:=Y;exact⟨d.1,rfl,d.2,rfl,⟨a,b,c,e⟩,g,i⟩
 ·cases h
theorem nZ{s:za}(h:Qc s=none):(Vq s).2.2=false\/(Vq s).2.1=0:=by
 rw[HC]at h;split at h
 ·cases h
 ·rename_i b;by_cases a:(Vq s).2.1=0
  ·exact .inr a
  ·left;cases c:(Vq s).2.2
   ·rfl
   ·exact absurd ⟨c,a⟩ b
noncomputable def n9 (a b:za):List qN×Int:=match Qc a,Qc b with
 |some p,some q=>((dw p q).1,if(dw p q).2=true then 0 else 1)
 |_,_=>([],10)
noncomputable def Xr (a b:za):O:=.wq [.sl 11 (z6 (n9 a b).1),int (n9 a b).2]
def Ud(a b:za):Prop:=a.length+1<=zx/\b.length+1<=zx
noncomputable abbrev Crbt:Ctx:=zW prog [(194,zi false [] (Vn F4)),(228,qA [.g kp] (R2 Wf fun m=>1<=m/\m<=3)),(229,qA [.g jz,.g jz] (AP KB))]
theorem Ue:Gd Crbt:=qc mixed ⟨YQ,du,gd,trivial⟩
theorem pH(a b:za)(t:Ud a b):∃y,zt Crbt f191 [str a,str b]=some y/\qg y (Xr a b):=by
 obtain⟨F,G⟩:=t;refine yM (sh:=.s 11 jo) rfl ?_;have f:=fun Y Z=>vI F4 a Y Z F
 have g:=fun Y Z=>vI F4 b Y Z G
 simp only[F4,wN.V]at f g;cases i:Qc a with
 |none=>
  have d:n9 a b=([],10):=by unfold n9;rw[i]
  rcases nZ i with h|h
  ·simp[f,g,h,qo,Xr,d,z6,f191]
  ·cases H:(Vq a).2.2<;>cases u:(Vq b).2.2<;>simp[f,g,h,H,u,qo,Xr,d,z6,f191]
 |some p=>
  obtain⟨n,M,I,z,J,N,P⟩:=nY i;have e:=yq I;cases o:Qc b with
  |none=>
   have d:n9 a b=([],10):=by unfold n9;rw[i,o]
   rcases nZ o with h|h
   ·simp[f,g,n,e,h,qo,Xr,d,z6,f191]
   ·cases u:(Vq b).2.2<;>simp[f,g,n,e,h,u,qo,Xr,d,z6,f191]
  |some q=>
   obtain⟨A,K,L,B,C,D,E⟩:=nY o;have j:=yq L;have d:n9 a b=((dw p q).1,if(dw p q).2=true then 0 else 1):=by unfold n9;rw[i,o]
   rw[<-K]at D E;have c:=fun Y Z=>Xi Wf (fun m=>1<=m/\m<=3) (Vq b).1 (Vq b).2.1 (.agg (Vq b).1.V) Y Z C ⟨D,E⟩ (J9 _) (Xj _ Y) (Xk _)
   have k:Zz p=⟨(Vq a).1,false⟩:=by rw[z];rfl
   have v:vi p.pre:=by rw[z];exact J.small
   have w:vi q.pre:=by rw[B];exact C.small
   have l:=fun Y Z=>Wb (Zz p) (vq q) Y Z (Z4 v) (QZ w)
   simp only[KB,k,wN.V,Cut.V,Wf,Je,<-B]at c l;cases r:Qt q
   ·rw[r]at c;have x:dw p q=([],false):=by unfold dw;rw[r];rfl
    rw[x]at d;simp[f,g,n,e,A,j,c,qo,Xr,d,z6,f191]
   ·rw[r]at c;have x:dw p q=(eo (Zz p) (vq q),true):=by unfold dw;rw[r];rfl
    rw[x]at d;simp[f,g,n,e,A,j,c,l,zS,qn,qo,Xr,d,k,z6,qN.V,Cut.V,f191]
theorem oa:zg prog 191 (zi false [] (qu (α:=za×za) (fun a=>[str a.1,str a.2]) (fun a=>Ud a.1 a.2) fun a=>Xr a.1 a.2)):=
 xl (fn:=f191) Ue (qE func191) false [] _ fun args r h w S vs c=>by obtain⟨⟨a,b⟩,rfl,Y,rfl⟩:=zK h;obtain⟨d,e,f⟩:=pH a b Y;exact⟨_,d,c,by simp[f191],e,f⟩
noncomputable def FBt2:zb->Option O:=qu (α:=za×za) (fun a=>[str a.1,str a.2]) (fun a=>Ud a.1 a.2) fun a=>Xr a.1 a.2
theorem LZ(a b:za)(Y:Hp)(Z:Nat)(h:Ud a b):zi false [] FBt2 [str a,str b] Y Z=some (Xr a b,Y,Z):=
 Js (a,b) _ _ rfl ET h (.inr (by simp))
end Go.Q
namespace Go.Proofs
open Go.Shelf
def Tryz.ME:Go.Shelf.Ren:=⟨fun|4=>234|n=>n,fun|22=>132|25=>176|0=>0|3=>3|4=>4|9=>9|20=>20|n=>n,fun|n=>n⟩
theorem Tryz.zfQ:Go.Proofs.Lays8.n4 prog Tryz.ME:={
 mixed:=by kernel_rfl
 f4:=⟨f234.name,by decide,func234.trans (zu some (by kernel_rfl))⟩
 t0:=underlying0
 a0:=isAgg0
 z0:=sizeOf0
 v0:=zeroValue0
 t3:=underlying3
 a3:=isAgg3
 z3:=sizeOf3
 v3:=zeroValue3
 t4:=underlying4
 a4:=isAgg4
 z4:=sizeOf4
 v4:=zeroValue4
 t9:=underlying9
 a9:=isAgg9
 z9:=sizeOf9
 v9:=zeroValue9
 t20:=underlying20
 a20:=isAgg20
 z20:=sizeOf20
 v20:=zeroValue20
 t22:=underlying132
 a22:=isAgg132
 z22:=sizeOf132
 v22:=zeroValue132}
end Go.Proofs
namespace Go.Q
theorem Dt:zg prog 234 (sk 176 11 120):=
 CN ⟨_,func234,by decide,by kernel_rfl⟩ ry (by decide) (AK.of Tryz.zfQ ry Bo Bp rfl (by omega))
noncomputable def Px (out:List qN->List qN->O) (pre:List qN->List qN->Prop):zb->Option O:=qu (α:=List qN×List qN) (fun a=>[.sl 1 [[.sl 11 (a.1.map qN.V)],[.sl 11 (a.2.map qN.V)]]]) (fun a=>pre a.1 a.2) (fun a=>out a.1 a.2)
noncomputable abbrev Ee:Ctx:=zW prog [(234,sk 176 11 120)]
theorem Aa(a b:List qN)(D:a.length<=zx)(s:b.length<=zx):∃f,zt Ee f196 [.sl 1 [[.sl 11 (a.map qN.V)],[.sl 11 (b.map qN.V)]]]=some f/\qg f (.sl 11 ((a++b).map qN.V)):=by
 have q:∀{code},f196.body=some code->Zw Ee code ⟨jL [.sl 1 [[.sl 11 (a.map qN.V)],[.sl 11 (b.map qN.V)]]],fun _=>none,0⟩ (Yx Ee.P f196 (Ja (.sl 11 ((a++b).map qN.V))))->∃f,zt Ee f196 [.sl 1 [[.sl 11 (a.map qN.V)],[.sl 11 (b.map qN.V)]]]=some f/\qg f (.sl 11 ((a++b).map qN.V)):=by intro code s h;obtain⟨f,E,F⟩:=Kq s h;exact⟨f,E,fun w S u G=>tm G F⟩
 refine q rfl ?_;unfold zx at D s;let cs:List (List qN):=[a,b];have c:cs=[a,b]:=rfl;simp;refine zT (fun k U Y Z=>U 0=.sl 1 [[.sl 11 (a.map qN.V)],[.sl 11 (b.map qN.V)]]/\U 9=.sl 1 [[.sl 11 (a.map qN.V)],[.sl 11 (b.map qN.V)]]/\U 10=int 2/\U 11=int k/\U 3=int (((cs.take k).map List.length).sum:Nat)) 2
  ⟨by simp,by simp,by simp,by simp,by simp⟩ ?_
 rintro k U Y Z H ⟨x,y,g,i,p⟩;obtain rfl|rfl|rfl:k=0\/k=1\/k=2:=by omega
 ·simp[c]at p;have z:=wX (a.length:Int);have j:=wX 1;have A:¬(a.length:Int)<0:=by omega
  simp[x,y,g,i,p,z,j,A,c]
 ·simp[c]at p;have z:=wX ((a.length:Int)+b.length);have j:=wX 2;have A:¬(a.length:Int)+b.length<0:=by omega
  simp[x,y,g,i,p,z,j,A,c]
 ·simp[c]at p;have I:∀Y Z,∃v Y' r,sk 176 11 120 [.nil,int ((a.length:Int)+b.length)] Y Z=some (v,Y',r)/\qU Y' r 176 11 v []:=fun Y Z=>by
   by_cases C:(a.length:Int)+b.length=0
   ·exact⟨.nil,Y,Z,by simp[sk,C],.inl ⟨rfl,rfl⟩⟩
   ·exact⟨.own Z 0 0,qt Y Z (some ⟨176,11,true,[]⟩),Z+1,by show(if(a.length:Int)+b.length=0 then _ else _)=_;rw[zc C,zf ⟨by omega,by omega,by omega⟩],.inr ⟨Z,by omega,rfl,by simp⟩⟩
  obtain⟨v,Y',r,B,e⟩:=I Y Z;simp[x,y,g,i,p,B];refine zT (fun k U Y Z=>U 25=.sl 1 [[.sl 11 (a.map qN.V)],[.sl 11 (b.map qN.V)]]/\U 26=int 2/\U 27=int k/\qU Y Z 176 11 (U 6) (((cs.take k).flatten).map qN.V)) 2
   ⟨by simp,by simp,by simp,by simpa using e⟩ ?_
  rintro k U Y Z H ⟨l,m,n,e⟩;obtain rfl|rfl|rfl:k=0\/k=1\/k=2:=by omega
  ·simp[c]at e;obtain⟨J,Y',r,o,d,_⟩:=e.K9 (P:=prog) (t:=132) (ys:=a.map qN.V) GW ry Bo Bp rfl (by omega) (by simp[maxLen];omega) (by simp;omega);have j:=wX 1;simp at d;simp[l,m,n,o,j,c];exact d
  ·simp[c]at e;obtain⟨J,Y',r,o,d,_⟩:=e.K9 (P:=prog) (t:=132) (ys:=b.map qN.V) GW ry Bo Bp rfl (by omega) (by simp[maxLen];omega) (by simp;omega);have j:=wX 2;simp[l,m,n,o,j,c];simpa using d
  ·simp[c]at e;have:=e.freeze Z;simp[l,m,n,f196];exact this
noncomputable def sG:zb->Option O:=Px (fun a b=>.sl 11 ((a++b).map qN.V)) fun a b=>a.length<=zx/\b.length<=zx
theorem pI:zg prog 196 (zi true [] sG):=
 xl (fn:=f196) (qc mixed ⟨Dt,trivial⟩:AM.Good Ee _) (qE func196) true [] _ fun args r h w S vs d=>by unfold sG Px at h;obtain⟨⟨a,b⟩,rfl,c,rfl⟩:=zK h;obtain⟨e,f,g⟩:=Aa a b c.1 c.2;exact⟨_,e,d,zE (ze 1) (by decide),f,g⟩
end Go.Q
namespace Go.AM
variable{dr:Prop}
section
variable{P:Program}{Y:Hp}{Z:Nat}
def zaJ(P:Program)(f e s by_:Nat):Prop:=
 ∀(w:World) (g m n i cap l:Nat) (d a:Array Value) (o:TypeId),i<n->n<=cap->cap<=maxLen->n+1<=maxLen->(n+1)*by_<=140737488355328->g≠m->1<=l->l<=maxLen ->
  w.heap[g]?=some (.cells d e (0,0))->d.size=cap*s->w.heap[m]?=some (.cells a o (0,0))->a.size=l*s->(∀j v,j<n*s->d[j]?=some v->v.oneCell'=true)->(∀j v,j<s->a[j]?=some v->v.oneCell'=true) ->
  Calls P f #[.slice (some ⟨g,0,none⟩) n cap,.int .i64 i,.slice (some ⟨m,0,none⟩) 1 l] w fun r w'=>∃(k c:Nat) (h:Array Value),n+1<=c/\c<=maxLen/\r=.returned (.slice (some ⟨k,0,none⟩) ((n+1:Nat)) c) /\
   (k=g\/w.heap.size<=k)/\w'.heap[k]?=some (.cells h e (0,0))/\h.size=c*s/\Fr True w (fun b=>b=k) w' /\
   ∀j,j<(n+1)*s->h[j]?=(d.toList.take (i*s)++a.toList.take s++(d.toList.take (n*s)).drop (i*s))[j]?
def gj(e s by_:Nat):AM.Spec:=fun args Y Z=>match args with
 |[.own id 0 n,.v (.int .i64 i),.own a 0 1]=>match Y id,Y a with
  |some b,some d=>match d.es with
   |[c]=>if id≠a/\b.arr=true/\d.arr=true/\b.e=e/\b.s=s/\d.s=s/\b.es.length=n/\0<=i/\i<n/\(n+1)*by_<=140737488355328/\n+1<=maxLen then
     some (.own Z 0 (n+1),qt (qt Y id none) Z (some ⟨e,s,true,b.es.take i.toNat++c::b.es.drop i.toNat⟩),Z+1)else none
   |_=>none
  |_,_=>none
 |_=>none
theorem zco{es:List zb}{s i j:Nat}(d:∀c∈es,c.length=s){c:zb}{e:O}(hi:es[i]?=some c)(f:c[j]?=some e):j<s/\i<es.length/\i*s+j<es.length*s:=by
 have a:j<s:=by rw[<-d c (zz hi)];exact(zd.1 f).1
 have b:i<es.length:=(zd.1 hi).1;exact⟨a,b,kL b a⟩
theorem Du{f e s by_:Nat}(hfn:∃fn,P.funcs[f]?=some fn/\(fn.name== "runtime.NumGoroutine")=false/\fn.body.isNone=false)(hsz:qC P e=some s)(E:0<s)(h:zaJ P f e s by_):jr dr P f (gj e s by_):=by
 refine⟨hfn,?_⟩;intro args Y Z r Y' Z' t w S G vs hi hz;unfold gj at t;split at t
 case h_2=>cases t
 rename_i id n i x;split at t
 case h_2=>cases t
 rename_i b b2 hb hb2;split at t
 case h_2=>cases t
 rename_i c hc;split at t
 case isFalse=>cases t
 rename_i hk;obtain⟨k1,k2,k3,k4,k5,k6,k7,k8,k9,k10,k11⟩:=hk;injection t with t
 injection t with e1 t;injection t with e2 e3;subst e1;subst e2;subst e3;obtain⟨u0,us,rfl,hu0,y⟩:=hz.jF;obtain⟨u1,us,rfl,hu1,y⟩:=y.jF;obtain⟨u2,us,rfl,hu2,y⟩:=y.jF;obtain rfl:=y.WE;obtain⟨rfl,_⟩:=hu1.wY;have Eh:=hu0.xg;have I:=hu2.xg;obtain⟨cap,g1,g2,g3,g4,rfl⟩:=hu0.vE;obtain⟨vc,v1,v2,v3,v4,rfl⟩:=hu2.vE;have R:=hi.live id b hb;have z:=hi.live x b2 hb2;have UR:(G id).s=s:=by rw[<-R.bs];exact k5
 have J:(G x).s=s:=by rw[<-z.bs];exact k6
 obtain⟨F,q1,q2,q3⟩:=R.row Eh;obtain⟨A,r1,r2,r3⟩:=z.row I;rw[UR]at q3 g4;rw[J]at r3 v4;rw[k4]at q1;have z0:0*(G id).s=0:=UP _;have z1:0*(G x).s=0:=UP _;rw[z0,z1];have hne:(G id).g≠(G x).g:=fun e=>k1 (hi.inj id x b b2 hb hb2 e)
 have B:∀c∈b.es,c.length=s:=fun c hc=>by rw[<-UR];exact R.len Eh c hc
 have hlc:c.length=s:=by rw[<-J];exact z.len I c (by rw[hc];simp)
 obtain⟨m,rfl⟩:∃m:Nat,i=m:=⟨i.toNat,by omega⟩;have hmn:m<n:=by omega
 have key:=h w (G id).g (G x).g n m cap vc F A b2.e hmn g2 g3 k11 k10 hne v2 v3 q1 (by rw[q2,<-g4,yl]) r1 (by rw[r2,<-v4,yl])
  (fun j v T hv=>by
   have hd:=Nat.div_add_mod j s;have hm:=Nat.mod_lt j E;have W:j/s<b.es.length:=by rw[k7];exact(Nat.div_lt_iff_lt_mul E).2 T
   obtain⟨row,K⟩:∃row,b.es[j/s]?=some row:=⟨_,zj W⟩;have X:=B row (zz K);obtain⟨q,hpv⟩:∃q,row[j % s]?=some q:=⟨_,zj (by omega)⟩;obtain⟨u,p,H⟩:=q3 (j/s) (j % s) row q K hpv;rw[UL,hd,hv]at p;injection p with p;rw[p];exact H.2.2)
  (fun j v T hv=>by obtain⟨q,hpv⟩:∃q,c[j]?=some q:=⟨_,zj (by omega)⟩;obtain⟨u,p,H⟩:=r3 0 j c q (by rw[hc];rfl) hpv;rw[UP,yl,hv]at p;injection p with p;rw[p];exact H.2.2)
 refine key.mono fun e w' hr=>?_
 obtain⟨g',L,l,p1,p2,rfl,p4,p5,p6,p7,p8⟩:=hr;have M:∀id' C,qt Y id none id'=some C->Y id'=some C:=fun id' C h=>xk h
 have RH:∀id' C,qt Y id none id'=some C->(G id').g≠g':=fun id' C D e=>by
  have hb0:=M id' C D;rcases p4 with rfl|p4
  ·have:=hi.inj id' id C b hb0 hb e;subst this;rw[wP]at D;cases D
  ·have:=(hi.live id' C hb0).lt;omega
 have hnS:¬S g':=fun hS=>by
  rcases p4 with rfl|p4
  ·exact hi.apart id b hb hS
  ·have:=hi.st _ hS;omega
 have htl:(b.es.take m++c::b.es.drop m).length=n+1:=by simp;omega
 have X:∀c'∈b.es.take m++c::b.es.drop m,c'.length=s:=fun c' hc'=>by
  rcases zF.1 hc' with h|h
  ·exact B c' (zfE h)
  ·rcases zv.1 h with rfl|h
   ·exact hlc
   ·exact B c' (List.mem_of_mem_drop h)
 have hcl:(F.toList.take (n*s)).length=n*s:=by have:n*s<=cap*s:=zP _ g2;simp only[yV,wF];rw[q2,<-g4,yl];exact Nat.min_eq_left this
 have hms:m*s<=n*s:=zP _ (by omega);have o:(F.toList.take (m*s)).length=m*s:=by
  have:F.toList.length=cap*s:=by rw[wF,q2,<-g4,yl]
  have h2:n*s<=cap*s:=zP _ g2;simp only[yV,this];omega
 have hvl:(A.toList.take s).length=s:=by
  have:A.toList.length=vc*s:=by rw[wF,r2,<-v4,yl]
  have h2:1*s<=vc*s:=zP _ v2;simp only[yV,this];omega
 have k:=kd.sT (dr:=dr) (Y1:=qt Y id none) hi M ⟨g',l.size,s⟩ e true (b.es.take m++c::b.es.drop m) l p7.os p7.tape p7.output p7.size (p7.drawn trivial) (fun _=>False) (fun _ h=>h.elim)
  (fun C D hne' _=>p7.block C D hne') RH hnS (by
   rcases p4 with rfl|p4
   ·exact .inl ⟨id,b,hb,rfl⟩
   ·exact .inr p4) E (by simpa[qC]using hsz) X (by rw[htl,p6];exact zP _ p1) p5 rfl
  (fun i' j c' q a T=>by
   obtain⟨b1,b2',b3⟩:=zco X a T;rw[htl]at b2' b3;have Ec:=p8 (i'*s+j) b3;show∃u,l[i'*s+j]?=some u/\_;rw[Ec];have N:∀u,ji w S G Z b.arr q u->ji w S G Z true q u:=fun u hu=>by rw[k2]at hu;exact hu
   have zfR:∀u,ji w S G Z b2.arr q u->ji w S G Z true q u:=fun u hu=>by rw[k3]at hu;exact hu
   rcases Nat.lt_trichotomy i' m with hlt|heq|hgt
   ·rw[zY (by rw[yV,k7];omega),qy,zf hlt]at a;obtain⟨u,p,H⟩:=q3 i' j c' q a T;have Q:i'*s+j<m*s:=kL hlt b1;refine⟨u,?_,N u H⟩;rw[qT,zY (by rw[o];exact Q),qy,zf Q];simpa using p
   ·subst heq;rw[zQ (by rw[yV,k7];omega)]at a;rw[yV,k7,Nat.min_eq_left (by omega),Nat.sub_self]at a;simp only[List.getElem?_cons_zero,zN]at a;subst a;obtain⟨u,p,H⟩:=r3 0 j c q (by rw[hc];rfl) T;rw[UP,yl]at p;refine⟨u,?_,zfR u H⟩;rw[qT,zQ (by rw[o];omega),o,Nat.add_sub_cancel_left,zY (by rw[hvl];exact b1),qy,zf b1];simpa using p
   ·obtain⟨d,rfl⟩:∃d,i'=d+1:=⟨i'-1,by omega⟩;rw[zQ (by rw[yV,k7];omega)]at a;rw[yV,k7,Nat.min_eq_left (by omega),show d+1-m=(d-m)+1 by omega,List.getElem?_cons_succ,qM,show m+(d-m)=d by omega]at a;obtain⟨u,p,H⟩:=q3 d j c' q a T;have hdn:d<n:=by omega
    have W:=kL (s:=s) hdn b1;have hmd:m*s<=d*s:=zP _ (by omega);refine⟨u,?_,N u H⟩;rw[zQ (by rw[qD,o,hvl,qK,zfG];omega),qD,o,hvl,qM,
     show m*s+((d+1)*s+j-(m*s+s))=d*s+j by rw[qK,zfG];omega,qy,zf W]
    simpa using p)
 refine⟨_,_,_,rfl,k,?_⟩;have:=qb.own (w:=w') (S:=S) (G:=qt G Z ⟨g',l.size,s⟩) (Z:=Z+1) (id:=Z) (off:=0) (n:=n+1) (cap:=L) (by omega) p1 p2 (by rw[wP];show(0+L)*s=l.size;rw[p6,yl]) (by rw[wP];exact E);rw[wP]at this;simpa using this
noncomputable def Uf (C:Ctx) (fn:Func) (e s by_:Nat):AM.Spec:=fun args Y Z=>match gj e s by_ args Y Z with
 |some r=>some r
 |none=>yz C fn args Y Z
theorem Gb{C:Ctx}{fn:Func}{f e s by_:Nat}(a:jr dr P f (gj e s by_))(c:jr dr P f (yz C fn)):jr dr P f (Uf C fn e s by_):=by
 refine⟨a.1,fun args Y Z r Y' b h=>?_⟩;unfold Uf at h;split at h
 ·rename_i q d;injection h with h
  subst h;exact a.2 args Y Z r Y' b d
 ·exact c.2 args Y Z r Y' b h
end
end Go.AM
namespace Go.AM
open Go.RowKit Go.Proofs Go.Lib
variable{dr:Prop}
variable{P:Program}
theorem Wg(w:World)(r s ty b:TypeId)(k m g o d f:Nat)(a:Addr)(e h:Nat)(c:Array Value)(t:TypeId)(cs:List Value)
  (u:P.underlying r=some (.slice b)) (hs:qC P b=some k)
  (x:w.heap[g]?=some (.cells c t (0,0))) (y:Nat.min e d=m) (z:cs.length=m*k)
  (l:∀j v,cs[j]?=some v->w.cell? (a.add j)=some v) (n:o+cs.length<=c.size) (A:∀v∈cs,v.oneCell'=true) :
  (Builtin.copy_ #[r,s] ty #[.slice (some ⟨g,o,none⟩) d f,.slice (some a) e h]).run P w =
   .ok (goInt m) (w.setRow g (c.toList.take o++cs++c.toList.drop (o+cs.length)).toArray):=by
 have B:=run_loadCells_list (P:=P) w a cs l;have p:=run_storeCells_at P g o t cs 0 c w x (by simpa using n) A;unfold qC at hs;cases q:P.info? b with
 |none=>simp[q]at hs
 |some i=>
  have hi:i.size=k:=by simpa[q]using hs
  simp[Builtin.copy_,zD u,Builtin.lenOf,Builtin.firstCells,sizeOf,typeInfo,q,hi,y,<-z,B,p]
theorem Xs{w:World}{g e:Nat}{a:Array Value}(h:w.heap[g]?=some (.cells a e (0,0)))(j:Nat):w.cell? ⟨g,j,none⟩=a[j]?:=by simp[World.cell?,h]
theorem Dv{w:World}{g e:Nat}{a:Array Value}(h:w.heap[g]?=some (.cells a e (0,0)))(j:Nat):w.frozen? ⟨g,j,none⟩=false:=by simp[World.frozen?,h]
theorem sH{w:World}{g e:Nat}{a:Array Value}(h:w.heap[g]?=some (.cells a e (0,0))):w.shape? g=some (e,a.size):=by simp[World.shape?,h]
theorem YR{w:World}{g k:Nat}(cs:Array Value)(h:k≠g):(w.setRow g cs).heap[k]?=w.heap[k]?:=by
 have:¬g=k:=fun e=>h e.symm
 simp[World.setRow,vN,this]
theorem sI(w:World)(g:Nat)(cs:Array Value):Fr dr w (fun b=>b=g) (w.setRow g cs):=
 ⟨rfl,rfl,rfl,by simp[World.setRow],fun _=>ze _,fun k _ a=>YR cs a⟩
def jk(l:List Value)(o:Nat)(cs:List Value):List Value:=l.take o++cs++l.drop (o+cs.length)
theorem vn{l cs:List Value}{o:Nat}(h:o+cs.length<=l.length):(jk l o cs).length=l.length:=by unfold jk;simp;omega
theorem L0{l vs:List Value}{n i s:Nat}(hi:i<=n)(c:(n+1)*s<=l.length)(d:vs.length=s)(j:Nat)(e:j<(n+1)*s) :
  (jk (jk l ((i+1)*s) ((l.take (n*s)).drop (i*s))) (i*s) vs)[j]?=(l.take (i*s)++vs++(l.take (n*s)).drop (i*s))[j]?:=by
 have f:(i+1)*s=i*s+s:=by rw[qK,zfG]
 have g:(n+1)*s=n*s+s:=by rw[qK,zfG]
 have t:i*s<=n*s:=zP _ hi;rw[g]at c e;rw[f];generalize n*s=N at *;generalize i*s=I at *;subst d;have h:((l.take N).drop I).length=N-I:=by simp;omega
 have b:I+vs.length+((l.take N).drop I).length<=l.length:=by rw[h];omega
 have a:(jk l (I+vs.length) ((l.take N).drop I)).length=l.length:=vn b;have k:=vd (jk l (I+vs.length) ((l.take N).drop I)) vs I j (by rw[a];omega);have m:=vd l ((l.take N).drop I) (I+vs.length) j b;have o:(jk (jk l (I+vs.length) ((l.take N).drop I)) I vs)[j]?=if I<=j/\j<I+vs.length then vs[j-I]? else(jk l (I+vs.length) ((l.take N).drop I))[j]?:=k
 have p:(jk l (I+vs.length) ((l.take N).drop I))[j]?=if I+vs.length<=j/\j<I+vs.length+((l.take N).drop I).length then((l.take N).drop I)[j-(I+vs.length)]? else l[j]?:=m
 have q:(l.take I).length=I:=by simp;omega
 rw[o,p,qT];by_cases r:j<I
 ·rw[zc (by omega),zc (by omega),zY (by omega),qy,zf r]
 ·rw[zQ (by omega),q];by_cases u:j<I+vs.length
  ·rw[zf (by omega),zY (by omega)]
  ·rw[zc (by omega),zf (by omega),zQ (by omega)];congr 1;omega
theorem Py{R olds vs cs:List Value}{I:Nat}(b:olds.length=I)(c:∀j,j<I->R[j]?=olds[j]?)(i:I+vs.length+cs.length<=R.length)(j:Nat)(k:j<I+vs.length+cs.length) :
  (jk (jk R I vs) (I+vs.length) cs)[j]?=(olds++vs++cs)[j]?:=by
 have a:(jk R I vs).length=R.length:=vn (by omega);have d:=vd (jk R I vs) cs (I+vs.length) j (by rw[a];omega);have e:=vd R vs I j (by omega);have f:(jk (jk R I vs) (I+vs.length) cs)[j]?=if I+vs.length<=j/\j<I+vs.length+cs.length then cs[j-(I+vs.length)]? else(jk R I vs)[j]?:=d
 have g:(jk R I vs)[j]?=if I<=j/\j<I+vs.length then vs[j-I]? else R[j]?:=e
 rw[f,g,qT];by_cases h:j<I
 ·rw[zc (by omega),zc (by omega),zY (by omega),c j h]
 ·rw[zQ (by omega),b];by_cases l:j<I+vs.length
  ·rw[zc (by omega),zf (by omega),zY (by omega)]
  ·rw[zf (by omega),zQ (by omega)];congr 1;omega
theorem Pz{e s by_:Nat}{z:zb}(hs:qC P e=some s)(b:jB P e=some by_)(d:yT P e=some z)(f:z.length=s):∃i v,P.info? e=some i/\i.zero=some v/\i.size=s/\i.bytes=by_/\v.cells.size=s:=by
 obtain⟨i,v,hi,g,h⟩:=Qk d;obtain⟨i',a,c⟩:=W8 hs;rw[hi]at a;injection a with a;subst a;refine⟨i,v,hi,g,c,?_,?_⟩
 ·unfold jB at b;rw[hi]at b;simpa using b
 ·have:=(jf (w:=default) (S:=fun _=>False) h).1;rw[f]at this;simpa using this.symm
theorem Ab{w:World}(o:Obj):(w.alloc o).heap[w.heap.size]?=some o:=by show(w.heap.push o)[w.heap.size]?=some o;simp
theorem ff{w:World}(o:Obj){k:Nat}(h:k<w.heap.size):(w.alloc o).heap[k]?=w.heap[k]?:=by
 have:¬k=w.heap.size:=by omega
 show(w.heap.push o)[k]?=_;simp[Array.getElem?_push,this]
theorem setRow_size{w:World}{g:Nat}(cs:Array Value):(w.setRow g cs).heap.size=w.heap.size:=by simp[World.setRow]
theorem Gc{w:World}(o:Obj):(w.alloc o).heap.size=w.heap.size+1:=by show(w.heap.push o).size=_;simp
end Go.AM
namespace Go.Q
open Go.RowKit Go.Lib Go.AM
attribute [local go_sem] Oper.semAt_some
theorem Ge(w:World)(g vb n i cap vc:Nat)(cur vcur:Array Value)(tv:TypeId)(hi:i<n)(hroom:n+1<=cap)(hc63:cap<=9223372036854775807)(hne:g≠vb)(hv1:1<=vc)
  (hg:w.heap[g]?=some (.cells cur 174 (0,0))) (hcs:cur.size=cap*5) (hv:w.heap[vb]?=some (.cells vcur tv (0,0))) (hvs:vcur.size=vc*5)
  (h1c:∀j v,j<n*5->cur[j]?=some v->v.oneCell'=true) (h1v:∀j v,j<5->vcur[j]?=some v->v.oneCell'=true) :
  Calls prog 236 #[.slice (some ⟨g,0,none⟩) n cap,.int .i64 i,.slice (some ⟨vb,0,none⟩) 1 vc] w fun e w'=>
   e=.returned (.slice (some ⟨g,0,none⟩) (n+1) cap)/\w'.heap[g]?=some (.cells (jk (jk cur.toList ((i+1)*5) ((cur.toList.take (n*5)).drop (i*5))) (i*5) (vcur.toList.take 5)).toArray 174 (0,0))/\Fr True w (fun b=>b=g) w':=by
 have t3:=underlying3;have a3:=isAgg3;have z3:=sizeOf3;have v3:=zeroValue3;have t4:=underlying4;have a4:=isAgg4;have z4:=sizeOf4;have v4:=zeroValue4;have t24:=underlying204;have a24:=isAgg204;have z24:=sizeOf204;have v24:=zeroValue204;have t9:=underlying174;have a9:=isAgg174;have z9:=sizeOf174;have u3:=zD t3;have u4:=zD t4;have u24:=zD t24;have hz2:¬((i:Int)=(n:Int)):=by omega
 have hov:∀o lb cb,(callFunc 263 #[.slice (some ⟨vb,0,none⟩) 1 vc,.slice (some ⟨g,o,none⟩) lb cb]).run prog w=.ok (.value (.bool false)) w:=fun o lb cb=>by
  rw[run_callFunc_extern func263 (by kernel_rfl) (by kernel_rfl) (by kernel_rfl) (e:=Extern.SlicesOverlaps.overlaps #[204,204] #[4]) (by kernel_rfl),
   Lib.run_overlaps_apart w 204 4 174 t24 5 z9 ⟨vb,0,none⟩ ⟨g,o,none⟩ 1 vc lb cb (fun e=>hne e.symm) _ _ _ _ (sH hv) (sH hg) (by rw[hcs];omega) (Dv hv 0) (Dv hv _)]
  rfl
 have mixed:prog.follows .mixedOrders=true:=by kernel_rfl
 have hw1:i6.wrap ((i:Int)+1)=(i:Int)+1:=by rw[AD];omega
 have hw2:i6.wrap ((n:Int)+1)=(n:Int)+1:=by rw[AD];omega
 have hb1:(0:Int)<=(i:Int)+1:=by omega
 have hb5:(0:Int)<=(n:Int)+1:=by omega
 have hin:i<=n:=by omega
 have htn:((i:Int)+1).toNat=i+1:=by omega
 have htn2:((n:Int)+1).toNat=n+1:=by omega
 have hb2:¬(cap=i+1):=by omega
 have hb3:(i:Int)<=(n:Int)+1:=by omega
 have hb4:¬(cap=i):=by omega
 have hb6:¬((cap:Int)<(n:Int)+1):=by omega
 have hs5:qC prog 174=some 5:=cy;obtain⟨cs,hcsd⟩:=jj ((cur.toList.take (n*5)).drop (i*5));obtain⟨vs,hvsd⟩:=jj (vcur.toList.take 5);have hcl:cs.length=(n-i)*5:=by rw[<-hcsd];simp;omega
 have hvl:vs.length=1*5:=by rw[<-hvsd];simp;omega
 have hcget:∀j v,cs[j]?=some v->cur[i*5+j]?=some v/\i*5+j<n*5:=fun j v hj=>by
  rw[<-hcsd,qM,qy]at hj;split at hj
  ·exact⟨by simpa using hj,by assumption⟩
  ·cases hj
 have hvget:∀j v,vs[j]?=some v->vcur[j]?=some v/\j<5:=fun j v hj=>by
  rw[<-hvsd,qy]at hj;split at hj
  ·exact⟨by simpa using hj,by assumption⟩
  ·cases hj
 have hc1:∀v∈cs,v.oneCell'=true:=fun v hv=>by obtain⟨j,hj⟩:=zcD.1 hv;obtain⟨a,b⟩:=hcget j v hj;exact h1c _ v b a
 have hv1':∀v∈vs,v.oneCell'=true:=fun v hv=>by obtain⟨j,hj⟩:=zcD.1 hv;obtain⟨a,b⟩:=hvget j v hj;exact h1v _ v b a
 obtain⟨row1,hrow1⟩:=jj (jk cur.toList ((i+1)*5) cs);have hr1l:row1.length=cap*5:=by rw[<-hrow1,vn (by rw[hcl,wF,hcs];omega),wF,hcs]
 have hcp1:∀ty dc sc,(Builtin.copy_ #[204,204] ty #[.slice (some ⟨g,(i+1)*5,none⟩) (n-i) dc,.slice (some ⟨g,i*5,none⟩) (n+1-i) sc]).run prog w.drew=.ok (goInt ((n-i:Nat):Int)) (w.drew.setRow g row1.toArray):=fun ty dc sc=>by
  rw[<-hrow1];exact Wg w.drew _ _ ty 174 5 (n-i) g ((i+1)*5) (n-i) dc ⟨g,i*5,none⟩ (n+1-i) sc cur 174 cs t24 hs5 hg (by simp only[Nat.min_def];split<;>omega) hcl
   (fun j v hj=>by rw[j8];exact(Xs hg _).trans (hcget j v hj).1) (by rw[hcl,hcs];omega) hc1
 have hcp2:∀(W:World),W.heap[g]?=some (.cells row1.toArray 174 (0,0))->W.heap[vb]?=some (.cells vcur tv (0,0))->∀ty dc,(Builtin.copy_ #[204,204] ty #[.slice (some ⟨g,i*5,none⟩) (n+1-i) dc,.slice (some ⟨vb,0,none⟩) 1 vc]).run prog W=.ok (goInt ((1:Nat):Int)) (W.setRow g (jk row1 (i*5) vs).toArray):=fun W hWg hWv ty dc=>by
  have:=Wg W 204 204 ty 174 5 1 g (i*5) (n+1-i) dc ⟨vb,0,none⟩ 1 vc row1.toArray 174 vs t24 hs5 hWg (by simp only[Nat.min_def];split<;>omega) hvl
   (fun j v hj=>by rw[j8,yl];exact(Xs hWv _).trans (hvget j v hj).1) (by rw[hvl,jv,hr1l];omega) hv1'
  exact this
 have hWg:(w.drew.setRow g row1.toArray).heap[g]?=some (.cells row1.toArray 174 (0,0)):=setRow_heap _ _ _ _ _ _ hg;have hWv:(w.drew.setRow g row1.toArray).heap[vb]?=some (.cells vcur tv (0,0)):=(YR _ (fun e=>hne e.symm)).trans hv;have hfin:∀W,W=(w.drew.setRow g row1.toArray).setRow g (jk row1 (i*5) vs).toArray->W.heap[g]?=some (.cells (jk row1 (i*5) vs).toArray 174 (0,0))/\Fr True w (fun b=>b=g) W:=fun W e=>by subst e;refine⟨setRow_heap _ _ _ _ _ _ hWg,?_⟩;exact((Fr.drew w (fun b=>b=g)).trans (sI w.drew g _) fun _ _ h=>h).trans (sI _ g _) fun _ _ h=>h
 rw[hcsd,hvsd,hrow1];clear hcsd hvsd hcl hvl hcget hvget hc1 hv1' hrow1 hr1l
 go_enter func236,Tryz.ntmps236
 go_wp2_with (simp only[hov])
 go_region_law_o (refine step_copy_runI rfl _ _ 204 204 rfl _ _ (by simp[Act.eval,Act.put]) (by simp[Act.eval,Act.put]) (hcp1 _ _ _) ?_)
 go_wp2_with (at_builtin;refine wpList_copy_runI _ rfl _ _ 204 204 rfl _ _ rfl rfl (hcp2 _ hWg hWv _ _) ?_)
 go_ret
 exact⟨rfl,hfin _ rfl⟩
theorem L1(w:World)(g vb n i cap vc:Nat)(cur vcur:Array Value)(tv:TypeId)(hi:i<n)(hnc:n<=cap)(hroom:cap<n+1)(hbig:(n+1)*56<=140737488355328)(hv1:1<=vc)
  (hg:w.heap[g]?=some (.cells cur 174 (0,0))) (hcs:cur.size=cap*5) (hv:w.heap[vb]?=some (.cells vcur tv (0,0))) (hvs:vcur.size=vc*5)
  (h1c:∀j v,j<n*5->cur[j]?=some v->v.oneCell'=true) (h1v:∀j v,j<5->vcur[j]?=some v->v.oneCell'=true) :
  Calls prog 236 #[.slice (some ⟨g,0,none⟩) n cap,.int .i64 i,.slice (some ⟨vb,0,none⟩) 1 vc] w fun e w'=>
   ∃(G:Nat) (R:List Value),n+1<=G/\G<=maxLen/\R.length=G*5/\(∀j,j<i*5->R[j]?=(cur.toList.take (i*5))[j]?)/\e=.returned (.slice (some ⟨w.heap.size,0,none⟩) (n+1) G) /\
    w'.heap[w.heap.size]?=some (.cells (jk (jk R (i*5) (vcur.toList.take 5)) ((i+1)*5) ((cur.toList.take (n*5)).drop (i*5))).toArray 174 (0,0))/\Fr True w (fun b=>b=w.heap.size) w':=by
 have t3:=underlying3;have a3:=isAgg3;have z3:=sizeOf3;have v3:=zeroValue3;have t4:=underlying4;have a4:=isAgg4;have z4:=sizeOf4;have v4:=zeroValue4;have t24:=underlying204;have a24:=isAgg204;have z24:=sizeOf204;have v24:=zeroValue204;have t9:=underlying174;have a9:=isAgg174;have z9:=sizeOf174;have u3:=zD t3;have u4:=zD t4;have u24:=zD t24;obtain⟨i0,z0,hi0,hz0,his,hib,hzc⟩:=Pz (P:=prog) cy ru rv rfl;have hz2:¬((i:Int)=(n:Int)):=by omega
 have hz3:(cap:Int)<(n:Int)+1:=by omega
 have mixed:prog.follows .mixedOrders=true:=by kernel_rfl
 have hw1:i6.wrap ((i:Int)+1)=(i:Int)+1:=by rw[AD];omega
 have hw2:i6.wrap ((n:Int)+1)=(n:Int)+1:=by rw[AD];omega
 have hw3:i6.wrap ((n:Int)+1-i)=(n:Int)+1-i:=by rw[AD];omega
 have hb1:(0:Int)<=(i:Int)+1:=by omega
 have hin:i<=n:=by omega
 have htn:((i:Int)+1).toNat=i+1:=by omega
 have hkk:(n:Int)+1-(i:Int)=((n+1-i:Nat):Int):=by omega
 have hik:i+(n+1-i)=n+1:=by omega
 have hb3:(i:Int)<=(n:Int):=by omega
 have hbw:g<w.heap.size:=(zU.1 hg).1;have hvw:vb<w.heap.size:=(zU.1 hv).1;have hs5:qC prog 174=some 5:=cy;obtain⟨olds,hod⟩:=jj (cur.toList.take (i*5));obtain⟨cs,hcsd⟩:=jj ((cur.toList.take (n*5)).drop (i*5));obtain⟨vs,hvsd⟩:=jj (vcur.toList.take 5);have hol:olds.length=i*5:=by rw[<-hod];simp;omega
 have hcl:cs.length=(n-i)*5:=by rw[<-hcsd];simp;omega
 have hvl:vs.length=1*5:=by rw[<-hvsd];simp;omega
 have hoget:∀j v,olds[j]?=some v->cur[j]?=some v:=fun j v hj=>by
  rw[<-hod,qy]at hj;split at hj
  ·simpa using hj
  ·cases hj
 have hcget:∀j v,cs[j]?=some v->cur[i*5+j]?=some v/\i*5+j<n*5:=fun j v hj=>by
  rw[<-hcsd,qM,qy]at hj;split at hj
  ·exact⟨by simpa using hj,by assumption⟩
  ·cases hj
 have hvget:∀j v,vs[j]?=some v->vcur[j]?=some v/\j<5:=fun j v hj=>by
  rw[<-hvsd,qy]at hj;split at hj
  ·exact⟨by simpa using hj,by assumption⟩
  ·cases hj
 have hc1:∀v∈cs,v.oneCell'=true:=fun v hv=>by obtain⟨j,hj⟩:=zcD.1 hv;obtain⟨a,b⟩:=hcget j v hj;exact h1c _ v b a
 have hv1':∀v∈vs,v.oneCell'=true:=fun v hv=>by obtain⟨j,hj⟩:=zcD.1 hv;obtain⟨a,b⟩:=hvget j v hj;exact h1v _ v b a
 have hold:(Builtin.firstCells i0.size i (.slice (some ⟨g,0,none⟩) i cap)).run prog w.drew=.ok olds.toArray w.drew:=by
  rw[his];exact run_firstCells_some w.drew 5 i ⟨g,0,none⟩ i cap olds hol (fun j v hj=>by rw[j8,yl];exact(Xs hg j).trans (hoget j v hj))
 obtain⟨G,hG⟩:=jj (grownCap w (n+1) cap 174);obtain⟨ROW,hROW⟩:=jj (olds.toArray++Builtin.zeroCells z0.cells (n+1-i)++Builtin.zeroCells z0.cells (G-(n+1)));have hGn:n+1<=G:=by rw[<-hG];exact grownCap_ge w _ _ _
 have hGm:G<=maxLen:=by rw[<-hG];exact grownCap_le_maxLen w (n+1) cap 174 (by unfold maxLen;omega)
 have hrz:∀ty,(Builtin.append_ #[204,3] ty #[.slice (some ⟨g,0,none⟩) i cap,.int .i64 ((n:Int)+1-(i:Int))]).run prog w =
   .ok (.slice (some ⟨w.heap.size,0,none⟩) (n+1) G) (w.drew.alloc (.cells ROW 174)):=fun ty=>by
  have h:=Lib.run_append_grow_zeros w 204 3 ty 174 i0 z0 .i64 .i64 t24 t3 hi0 hz0 (some ⟨g,0,none⟩) i cap olds hold (n+1-i) (by omega) (by omega) (by omega) (by omega) (by rw[hib];omega) (by rw[hib,hik];exact growslice_fits hroom hbig);rw[hik,hG,hROW]at h;rw[hkk];exact h
 have hRl:ROW.size=G*5:=by rw[<-hROW,QG,QG,Rm,Rm,hzc,jv,hol];omega
 have hRo:∀j,j<i*5->ROW.toList[j]?=olds[j]?:=fun j hj=>by rw[<-hROW,Array.toList_append,Array.toList_append,qT];exact zY (show j<olds.length by omega)
 obtain⟨N,hN⟩:=jj w.heap.size;obtain⟨W1,hW1⟩:=jj (w.drew.alloc (.cells ROW 174));have hW1N:W1.heap[N]?=some (.cells ROW 174 (0,0)):=by rw[<-hW1,<-hN];exact Ab (w:=w.drew) _
 have hW1g:W1.heap[g]?=some (.cells cur 174 (0,0)):=by rw[<-hW1];exact(ff (w:=w.drew) _ hbw).trans hg
 have hW1v:W1.heap[vb]?=some (.cells vcur tv (0,0)):=by rw[<-hW1];exact(ff (w:=w.drew) _ hvw).trans hv
 obtain⟨row1,hrow1⟩:=jj (jk ROW.toList (i*5) vs);have hr1l:row1.length=G*5:=by rw[<-hrow1,vn (by rw[hvl,wF,hRl];omega),wF,hRl]
 have hcpA:∀(W:World),W.heap[N]?=some (.cells ROW 174 (0,0))->W.heap[vb]?=some (.cells vcur tv (0,0))->∀ty dc,(Builtin.copy_ #[204,204] ty #[.slice (some ⟨N,i*5,none⟩) (n+1-i) dc,.slice (some ⟨vb,0,none⟩) 1 vc]).run prog W=.ok (goInt ((1:Nat):Int)) (W.setRow N row1.toArray):=fun W hWg hWv ty dc=>by
  rw[<-hrow1];have:=Wg W 204 204 ty 174 5 1 N (i*5) (n+1-i) dc ⟨vb,0,none⟩ 1 vc ROW 174 vs t24 hs5 hWg (by simp only[Nat.min_def];split<;>omega) hvl
   (fun j v hj=>by rw[j8,yl];exact(Xs hWv _).trans (hvget j v hj).1) (by rw[hvl,hRl];omega) hv1'
  exact this
 have hcpB:∀(W:World),W.heap[N]?=some (.cells row1.toArray 174 (0,0))->W.heap[g]?=some (.cells cur 174 (0,0))->∀ty dc sc,(Builtin.copy_ #[204,204] ty #[.slice (some ⟨N,(i+1)*5,none⟩) (n-i) dc,.slice (some ⟨g,i*5,none⟩) (n-i) sc]).run prog W=.ok (goInt ((n-i:Nat):Int)) (W.setRow N (jk row1 ((i+1)*5) cs).toArray):=fun W hWg hWv ty dc sc=>by
  have:=Wg W 204 204 ty 174 5 (n-i) N ((i+1)*5) (n-i) dc ⟨g,i*5,none⟩ (n-i) sc row1.toArray 174 cs t24 hs5 hWg (by simp only[Nat.min_def];split<;>omega) hcl
   (fun j v hj=>by rw[j8];exact(Xs hWv _).trans (hcget j v hj).1) (by rw[hcl,jv,hr1l];omega) hc1
  exact this
 have hgN:g≠N:=by omega
 have hvN:vb≠N:=by omega
 have hW2N:(W1.setRow N row1.toArray).heap[N]?=some (.cells row1.toArray 174 (0,0)):=setRow_heap _ _ _ _ _ _ hW1N;have hW2g:(W1.setRow N row1.toArray).heap[g]?=some (.cells cur 174 (0,0)):=(YR _ hgN).trans hW1g;have hfin:∀W:World,W.heap=((W1.setRow N row1.toArray).setRow N (jk row1 ((i+1)*5) cs).toArray).heap->W.os=w.os->W.tape=w.tape->W.output=w.output->w.drawn<=W.drawn->W.heap[N]?=some (.cells (jk row1 ((i+1)*5) cs).toArray 174 (0,0))/\Fr True w (fun b=>b=N) W:=fun W e1 e2 e3 e4 e5=>by
  refine⟨by rw[e1];exact setRow_heap _ _ _ _ _ _ hW2N,e2,e3,e4,?_,fun _=>e5,fun k hk hn=>?_⟩
  ·rw[e1,<-hW1,setRow_size,setRow_size,Gc];exact Zr _
  ·rw[e1,YR _ hn,YR _ hn,<-hW1];exact ff (w:=w.drew) _ hk
 have hm1:G<=9223372036854775807:=by unfold maxLen at hGm;omega
 have hGi:¬(G=i):=by omega
 have hGim:¬(G=i+1):=by omega
 have hci:¬(cap=i):=by omega
 rw[hN,hcsd,hvsd,hod];rw[hN,hW1]at hrz;clear hcsd hvsd hod hcl hvl hol hcget hvget hoget hc1 hv1' hold hG hROW hkk hik hi0 hz0 his hib hzc hr1l
 go_enter func236,Tryz.ntmps236
 go_wp2_with (first
  |(at_builtin;refine Lib.wpList_append_run _ rfl _ _ _ _ rfl _ _ rfl rfl _ _ (hrz _) ?_)
  |(at_builtin;refine wpList_copy_runI _ rfl _ _ 204 204 rfl _ _ rfl rfl (hcpA _ hW1N hW1v _ _) ?_)
  |(at_builtin;refine wpList_copy_runI _ rfl _ _ 204 204 rfl _ _ rfl rfl (hcpB _ hW2N hW2g _ _ _) ?_))
 go_region_law_o (refine step_copy_runI rfl _ _ 204 204 rfl (.slice (some ⟨N,(i+1)*5,none⟩) (n-i) (G-(i+1))) (.slice (some ⟨g,i*5,none⟩) (n-i) (cap-i)) (by simp[Act.eval,Act.put]) (by simp[Act.eval,Act.put]) (hcpB (W1.setRow N row1.toArray).drew hW2N hW2g 3 (G-(i+1)) (cap-i)) ?_)
 go_wp2
 go_ret
 subst hW1;subst hrow1;refine⟨G,ROW.toList,hGn,hGm,by simpa using hRl,hRo,rfl,?_⟩;refine hfin _ ?_ ?_ ?_ ?_ ?_
 ·rfl
 ·rfl
 ·rfl
 ·rfl
 ·first|exact Zr _|exact zE (Zr _) (Zr _)
theorem Ug:zaJ prog 236 174 5 56:=by
 intro w g A n i cap B c a C hi u k J m v o K D d E p q r;have b:(a.toList.take 5).length=5:=by simp;omega
 have f:((c.toList.take (n*5)).drop (i*5)).length=(n-i)*5:=by simp;omega
 unfold maxLen at k;by_cases h:n+1<=cap
 ·refine(Ge w g A n i cap B c a C hi h k v o D d E p q r).mono fun e w' x=>?_
  obtain⟨rfl,t,y⟩:=x;refine⟨g,cap,_,h,by unfold maxLen;exact k,rfl,.inl rfl,t,?_,y,fun j F=>?_⟩
  ·rw[jv,vn (by rw[vn (by rw[f,wF,d];omega),b,wF,d];omega),vn (by rw[f,wF,d];omega),wF,d]
  ·have:=L0 (l:=c.toList) (vs:=a.toList.take 5) (n:=n) (i:=i) (s:=5) (by omega) (by rw[wF,d];omega) b j F;simpa using this
 ·refine(L1 w g A n i cap B c a C hi u (by omega) m o D d E p q r).mono fun e w' x=>?_
  obtain⟨G,R,L,M,H,N,rfl,t,y⟩:=x;have z:(c.toList.take (i*5)).length=i*5:=by simp;omega
  have P:(i+1)*5=i*5+(a.toList.take 5).length:=by rw[b];omega
  rw[P]at t;refine⟨w.heap.size,G,_,L,M,rfl,.inr (ze _),t,?_,y,fun j F=>?_⟩
  ·rw[jv,vn (by rw[vn (by rw[b];omega),f,b];omega),vn (by rw[b];omega),H]
  ·have:=Py (R:=R) (olds:=c.toList.take (i*5)) (vs:=a.toList.take 5) (cs:=(c.toList.take (n*5)).drop (i*5)) (I:=i*5) z N (by rw[b,f,H];omega) j (by rw[b,f];omega);simpa using this
end Go.Q
namespace Go.Q
noncomputable def ZW (c:Cut):List Cut->List Cut
 |[]=>[c]
 |a::l=>if wv a c<0 then a::ZW c l else if wv a c=0 then a::l else c::a::l
theorem Ac(c:Cut):∀(l:List Cut) (i:Nat),i<=l.length->(∀j (h:j<l.length),j<i->wv l[j] c<0)->(∀h:i<l.length,¬wv l[i] c<0)->((∃h:i<l.length,wv l[i] c=0)->ZW c l=l)/\((∀h:i<l.length,wv l[i] c≠0)->ZW c l=l.take i++c::l.drop i)
 |[],i,hi,_,_=>by
  obtain rfl:i=0:=by simpa using hi
  exact⟨fun⟨h,_⟩=>absurd h (by simp),fun _=>rfl⟩
 |a::l,0,_,_,b=>by
  have h:=b (by simp);simp only[dG]at h;refine⟨fun⟨_,e⟩=>?_,fun d=>?_⟩
  ·simp only[dG]at e;simp only[ZW];rw[zc h,zf e]
  ·have:=d (by simp);simp only[dG]at this;simp only[ZW];rw[zc h,zc this];rfl
 |a::l,i+1,hi,f,b=>by
  have g:=f 0 (by simp) (by omega);simp only[dG]at g;obtain⟨k,m⟩:=Ac c l i (by simpa using hi) (fun j n o=>f (j+1) (by simpa using n) (by omega)) (fun h=>b (by simpa using h));simp only[ZW];rw[zf g];refine⟨fun⟨h,e⟩=>?_,fun d=>?_⟩
  ·rw[k ⟨by simpa using h,e⟩]
  ·rw[m fun h=>d (by simpa using h)];rfl
theorem ob{c:Cut}:∀{l:List Cut},(∀a∈l,wv a c=0->a=c)->∀x,x∈ZW c l↔x=c\/x∈l
 |[],_,x=>by simp[ZW]
 |a::l,h,x=>by
  simp only[ZW];split
  ·rw[zv,ob (fun b d=>h b (by simp[d])) x,zv];constructor
   ·rintro (h|h|h)
    ·exact .inr (.inl h)
    ·exact .inl h
    ·exact .inr (.inr h)
   ·rintro (h|h|h)
    ·exact .inr (.inl h)
    ·exact .inl h
    ·exact .inr (.inr h)
  ·split
   ·rename_i e;have:=h a (by simp) e;subst this;simp
   ·simp
theorem gk{c:Cut}:∀{l:List Cut},(l.Pairwise fun a b=>wv a b<0)->(∀a∈l,wv a c=0->a=c)->(ZW c l).Pairwise fun a b=>wv a b<0
 |[],_,_=>by simp[ZW]
 |a::l,h,j=>by
  obtain⟨k,m⟩:=yc.1 h;simp only[ZW];split
  ·rename_i d;refine yc.2 ⟨fun x e=>?_,gk m fun b g=>j b (by simp[g])⟩;rcases(ob (fun b g=>j b (by simp[g])) x).1 e with rfl|e
   ·exact d
   ·exact k x e
  ·rename_i d;split
   ·exact h
   ·rename_i i;have f:wv c a<0:=by
     have:=wi.za7 d;rcases Yk this with h|h
     ·exact h
     ·exact absurd ((wi.eq a c).2 h) i
    refine yc.2 ⟨fun x e=>?_,h⟩;rcases zv.1 e with rfl|e
    ·exact f
    ·exact wi.trans f (k x e)
noncomputable def kE (l:List Cut):List Cut:=l.foldl (fun o c=>ZW c o) []
theorem gl:∀(l o:List Cut),(∀a∈l,a.vS)->(∀a∈o,a.vS)->(o.Pairwise fun a b=>wv a b<0)->((l.foldl (fun o c=>ZW c o) o).Pairwise fun a b=>wv a b<0)/\∀x,x∈l.foldl (fun o c=>ZW c o) o↔x∈l\/x∈o
 |[],o,_,_,e=>⟨e,fun x=>by simp⟩
 |c::l,o,f,g,e=>by
  have i:=f c (by simp);have j:∀a∈o,wv a c=0->a=c:=fun a d h=>iN (g a d) i h
  have k:=ob (l:=o) j;obtain⟨m,n⟩:=gl l (ZW c o) (fun a d=>f a (by simp[d])) (fun a d=>by
   rcases(k a).1 d with rfl|h
   ·exact i
   ·exact g a h) (gk e j)
  simp only[xR];refine⟨m,fun x=>?_⟩;rw[n x,k x,zv];constructor
  ·rintro (h|h|h)
   ·exact .inl (.inr h)
   ·exact .inl (.inl h)
   ·exact .inr h
  ·rintro ((h|h)|h)
   ·exact .inr (.inl h)
   ·exact .inl h
   ·exact .inr (.inr h)
theorem bV:∀(l o:List Cut),(l.foldl (fun o c=>ZW c o) o).length<=o.length+l.length
 |[],o=>by simp
 |c::l,o=>by
  have b:∀o:List Cut,(ZW c o).length<=o.length+1:=by
   intro o
   induction o with
   |nil=>simp[ZW]
   |cons a o d=>
    simp only[ZW];split
    ·simp only[z7];omega
    ·split<;>simp
  have:=bV l (ZW c o);have:=b o;simp only[xR,z7];omega
theorem L2{a b:List qN}(d:yX a)(e:yX b):kE (qV (a++b))=nM a b:=by
 rw[Wd];have f:∀c∈qV a++qV b,c.vS:=fun c g=>by
  rcases zF.1 g with h|h
  ·exact X2 d c h
  ·exact X2 e c h
 obtain⟨i,j⟩:=gl (qV a++qV b) [] f (fun a d=>by cases d) .nil;refine rQ _ _ i (KS d e) fun c=>?_
 unfold kE;rw[j c,Ka,zF];simp
theorem PA(f:Bool->Bool->Bool){a b:List qN}(d:yX a)(e:yX b):kv f a b=(Vj (fun c=>f (yt a c) (yt b c)) (kE (qV (a++b))) (false,[])).2:=by rw[L2 d e];unfold kv nM;rw[mz]
theorem L3{Y:Hp}{Z e s by_ i:Nat}{v:O}{xs:List zb}{c:zb}(h:qU Y Z e s v xs)(hi:i<xs.length)(d:(xs.length+1)*by_<=140737488355328)(f:xs.length+1<=maxLen) :
  gj e s by_ [v,int i,.own Z 0 1] (qt Y Z (some ⟨e,s,true,[c]⟩)) (Z+1)=some (.own (Z+1) 0 (xs.length+1),qt (QM v (qt Y Z (some ⟨e,s,true,[c]⟩))) (Z+1) (some ⟨e,s,true,xs.take i++c::xs.drop i⟩),Z+2):=by
 obtain⟨id,hid,rfl,g⟩:=h.at_ (by omega);have n1:id≠Z:=by omega
 have a:qt Y Z (some ⟨e,s,true,[c]⟩) id=some ⟨e,s,true,xs⟩:=by rw[zm _ _ _ _ n1];exact g
 have b:(i:Int)<xs.length:=by omega
 unfold gj;simp only[a,wP];rw[zf (by refine⟨n1,?_,?_,?_,?_,?_,?_,?_,b,d,f⟩<;>first|trivial|rfl|omega)];simp[QM]
theorem PB{Y:Hp}{Z e s by_:Nat}{v:O}{xs:List zb}{b:Option kn}(h:qU Y Z e s v xs):gj e s by_ [v,int (xs.length:Nat),.own Z 0 1] (qt Y Z b) (Z+1)=none:=by
 rcases h with⟨rfl,rfl⟩|⟨id,hid,rfl,c⟩
 ·rfl
 ·unfold gj;simp only;split
  ·split
   ·rw[zc (fun a=>by have:=a.2.2.2.2.2.2.2.2.1;omega)]
   ·rfl
  ·rfl
theorem PC{Y:Hp}{Z:Nat}{v:O}{xs:List zb}{c:zb}(h:qU Y Z 174 5 v xs)(d:xs.length<=1073741824) :
  yz C0 f236 [v,int (xs.length:Nat),.own Z 0 1] (qt Y Z (some ⟨174,5,true,[c]⟩)) (Z+1)=some (.own (Z+1) 0 (xs.length+1),qt (QM v (qt Y Z (some ⟨174,5,true,[c]⟩))) (Z+1) (some ⟨174,5,true,xs++[c]⟩),Z+2):=by
 unfold yz;rw[zf (by simp[f236])];refine y0 rfl ?_;have a:=qU.yS (P:=prog) (t:=204) (c:=c) h fC cy ru rv rfl (by omega) (by unfold maxLen;omega) (by omega);rcases h with⟨rfl,rfl⟩|⟨id,hid,rfl,b⟩
 ·simp at a;simp[jC,a,f236]
 ·have n1:¬id=Z:=by omega
  simp[jC,a,b,n1,f236]
noncomputable abbrev HI:AM.Spec:=Uf C0 f236 174 5 56
theorem Dw:zg prog 236 HI:=
 Gb (Du ⟨_,func236,by decide,by kernel_rfl⟩ cy (by decide) Ug) (kM jY func236)
theorem Gf{Y:Hp}{Z i:Nat}{v:O}{xs:List zb}{c:zb}(h:qU Y Z 174 5 v xs)(hi:i<=xs.length)(b:xs.length<=1073741824) :
  HI [v,int i,.own Z 0 1] (qt Y Z (some ⟨174,5,true,[c]⟩)) (Z+1)=some (.own (Z+1) 0 (xs.length+1),qt (QM v (qt Y Z (some ⟨174,5,true,[c]⟩))) (Z+1) (some ⟨174,5,true,xs.take i++c::xs.drop i⟩),Z+2):=by
 unfold HI Uf;by_cases a:i<xs.length
 ·rw[L3 h a (by omega) (by unfold maxLen;omega)]
 ·obtain rfl:i=xs.length:=by omega
  rw[PB h];simp only;rw[PC h b,wJ,zq]
noncomputable def PD (l:List Cut):Option kn:=if kE l=[]then none else some ⟨174,5,true,q7 (kE l)⟩
noncomputable abbrev Crsc:Ctx:=zW prog [(235,qA [.g jz,.g jz] (AP fun v w=>int (wv v w))),(236,HI)]
theorem Uh:AM.Good Crsc (fun g=>[235].contains g):=qx mixed ⟨ZV,fun _=>yR _ _,Dw,by simp,trivial⟩
theorem gn{l:List Cut}{k:Nat}(h:k<l.length):kE (l.take (k+1))=ZW l[k] (kE (l.take k)):=by unfold kE;rw[ql h,List.foldl_append];rfl
theorem Dx{c:Cut}:∀{l:List Cut} {x:Cut},x∈ZW c l->x=c\/x∈l
 |[],x,h=>by simp only[ZW,qB]at h;exact .inl h
 |a::l,x,h=>by
  simp only[ZW]at h;split at h
  ·rcases zv.1 h with rfl|h
   ·exact .inr (by simp)
   ·exact(Dx h).imp id fun h=>by simp[h]
  ·split at h
   ·exact .inr h
   ·rcases zv.1 h with rfl|h
    ·exact .inl rfl
    ·exact .inr h
theorem bW:∀{l o:List Cut} {x:Cut},x∈l.foldl (fun o c=>ZW c o) o->x∈l\/x∈o
 |[],o,x,h=>.inr h
 |c::l,o,x,h=>by
  rw[xR]at h;rcases bW h with h|h
  ·exact .inl (by simp[h])
  ·rcases Dx h with rfl|h
   ·exact .inl (by simp)
   ·exact .inr h
theorem Ui(c:Cut)(l:List Cut):ZW c l≠[]:=by
 cases l with
 |nil=>simp[ZW]
 |cons a l=>simp only[ZW];split<;>(try split)<;>simp
theorem L4{l:List Cut}(h:kE l=[]):l.length=0:=by
 cases b:l.length with
 |zero=>rfl
 |succ k=>
  have a:k<l.length:=by omega
  have:=gn a;rw[qe (by omega),h]at this;exact absurd this.symm (Ui _ _)
theorem X5(l:List Cut):(q7 l).length=l.length:=by simp[q7]
theorem L5(o:List Cut)(i:Nat)(c:Cut):(q7 o).take i++c.V::(q7 o).drop i=q7 (o.take i++c::o.drop i):=by simp[q7]
theorem Ad(l:List Cut)(hs:∀c∈l,c.v.small)(hl:l.length<=1073741824):∃x Y Z,je Crsc f197 [.sl 5 (q7 l)] (fun _=>none) 0=some (x,Y,Z)/\BX jz (PD l) x Y Z:=by
 refine qz rfl ?_;have N:=X5 l;simp[N];refine zT (fun k U Y Z=>U 7=.sl 5 (q7 l)/\U 8=int l.length/\U 9=int k/\qU Y Z 174 5 (U 3) (q7 (kE (l.take k)))/\(k=0->U 3=.nil)) l.length
  ⟨by simp,by simp,by simp,.inl ⟨by simp,by simp[kE,q7]⟩,by simp⟩ ?_
 rintro k U Y Z hk ⟨u,w,y,n,h0⟩;have Q:=bV (l.take k) [];have C:kE (l.take k)=(l.take k).foldl (fun o c=>ZW c o) []:=rfl;rw[<-C,xT,yV]at Q;have D:∀x∈kE (l.take k),x.v.small:=fun x hx=>by
  rw[C]at hx;rcases bW hx with h|h
  ·exact hs x (zfE h)
  ·cases h
 by_cases r:k<l.length
 ·obtain⟨c,hc⟩:=jj (l[k]);have hcs:c.v.small:=hs c (by rw[<-hc];exact zk r);have R:∀h:k<(q7 l).length,(q7 l)[k]=c.V:=fun h=>by simp[q7,hc]
  have G:=qH k;have H:=gn r;rw[hc]at H;obtain⟨o,ho⟩:=jj (kE (l.take k));rw[ho]at n Q D H;have d:=X5 o;obtain⟨P,hP⟩:=jj Z;obtain⟨v,hv⟩:=jj (U 3);rw[hv]at n;simp only[Cut.V]at R;simp[u,w,y,r,N,R];rw[hP]at n⊢;refine zT (fun i U Y Z=>U 7=.sl 5 (q7 l)/\U 8=int l.length/\U 9=int k/\U 3=v/\U 5=.ref P 0 0/\U 6=int i/\P<Z/\Y P=some ⟨174,5,false,[c.V]⟩/\qU Y Z 174 5 v (q7 o)/\∀j (h:j<o.length),j<i->wv o[j] c<0) o.length
   ⟨by simp[u],by simp[w],by simp[y],by simp[hv],by simp,by simp,(by show P<P+1;omega),by simp[Cut.V],n.more _,fun j _ h=>absurd h (by omega)⟩ ?_
  clear u w y h0 hv n U Y hP Z;rintro i U Y Z hi ⟨u,w,y,T,W,X,hPn,S,n,s⟩;have hwi:=qH i;have g:=n.len fC;rw[d]at g;simp only[Cut.V]at S;have nP:¬P=Z:=by omega
  have p:=fun(hi:i<=o.length)=>Gf (i:=i) (c:=[int c.v.a,int c.v.b,int c.v.c,.sl 1 (zH c.v.pre),q8 c.after]) n (by rw[d];exact hi) (by rw[d];omega)
  rw[d]at p;have E:=L5 o i c;simp only[Cut.V]at E;rw[E]at p;have t:∀o',ZW c o=o'->kE (l.take (k+1))=o':=fun o' e=>by rw[H,e]
  by_cases hit:i<o.length
  ·obtain⟨id,hid,I,hb⟩:=n.at_ (by rw[d];omega);obtain⟨q,M⟩:=jj (o[i]);have hqs:q.v.small:=D q (by rw[<-M];exact zk hit);have z:∀h:i<(q7 o).length,(q7 o)[i]=q.V:=fun h=>by simp[q7,M]
   have A:=fun Y Z=>Wr q c Y Z hqs hcs
   simp only[Cut.V]at z A;have hat:=Ac c o i (by omega) s;by_cases m:wv q c<0
   ·subst I;simp[u,w,y,T,W,X,g,d,hit,hb,z,S,A,m,hwi];have J:∀j (h:j<o.length),j<i+1->wv o[j] c<0:=fun j h hj=>by
     rcases Nat.lt_or_ge j i with h1|h1
     ·exact s j h h1
     ·obtain rfl:j=i:=by omega
      rw[M];exact m
    exact⟨by omega,hPn,rfl,(by rw[d]at n;exact n),J⟩
   ·have F:=hat fun _=>by rw[M];exact m
    by_cases B:wv q c=0
    ·have h1:=F.1 ⟨hit,by rw[M];exact B⟩;have K:((i:Int)==o.length)=false:=by rw[yy];omega
     subst I;simp[u,w,y,T,W,X,g,d,hit,hb,z,S,A,m,B,K,G];exact⟨r,by rw[t _ h1];rw[d]at n;exact n⟩
    ·have h1:=F.2 fun _=>by rw[M];exact B
     have hz':=ZX B;have K:((i:Int)==o.length)=false:=by rw[yy];omega
     have f:=p (by omega);subst I;rw[d]at f;have L:(q7 (o.take i++c::o.drop i)).length=o.length+1:=by rw[X5];simp;omega
     simp[u,w,y,T,W,X,g,d,hit,hb,z,S,A,m,B,hz',K,f,nP,G,zp,zy,zo];exact⟨r,by rw[t _ h1];exact .inr ⟨Z+1,by omega,by rw[L],by simp⟩⟩
  ·obtain rfl:i=o.length:=by omega
   have h1:=(Ac c o o.length (ze _) s (fun h=>absurd h (by omega))).2 (fun h=>absurd h (by omega));have f:=p (ze _);simp[u,w,y,T,W,X,g,d,S,f,nP,G,zp,zy,zo];rw[wJ,zq]at h1;have L:(q7 (o++[c])).length=o.length+1:=by rw[X5];simp
   exact⟨r,by rw[t _ h1];exact .inr ⟨Z+1,by omega,by rw[L],by simp⟩⟩
 ·obtain rfl:k=l.length:=by omega
  rw[wJ]at n;simp[u,w,y,f197];unfold PD;rcases n with⟨e1,e2⟩|⟨id,hid,e1,e2⟩
  ·have:kE l=[]:=by simpa[q7]using e2
   rw[zf this];exact e1
  ·by_cases B:kE l=[]
   ·rw[zf B];exact h0 (L4 B)
   ·rw[zc B];exact⟨id,_,e1,e2,rfl,by simp[eE,q7,Cut.V]⟩
noncomputable def FSc:zb->Option (Option kn):=qu (α:=List Cut) (fun l=>[.sl 5 (q7 l)]) (fun l=>(∀c∈l,c.v.small)/\l.length<=1073741824) PD
theorem L6{a b:List Cut}(h:q7 a=q7 b):a=b:=vw (fun _ _ e=>Zl e) h
theorem zcp:∀a b:List Cut,[O.sl 5 (q7 a)]=[O.sl 5 (q7 b)]->a=b:=fun a b e=>by
 simp only[zl,zM]at e;injection e with _ e
 exact L6 e
theorem pJ:zg prog 197 (vA [.s 5 jz] FSc):=
 Jw (fn:=f197) Uh (qE func197) _ jz _ fun args r h=>by obtain⟨l,rfl,⟨a,b⟩,rfl⟩:=zK h;exact⟨by simp[f197],Ad l a b⟩
theorem PE(l:List Cut):(q7 l).map (QI jz)=q7 l:=by simp[q7,Cut.V]
theorem Ae{Y:Hp}{Z:Nat}{v:O}{l:List Cut}(h:qU Y Z 174 5 v (q7 l))(hs:∀c∈l,c.v.small)(f:l.length<=1073741824) :
  ∃x Y' b,vA [.s 5 jz] FSc [v] Y Z=some (x,Y',b)/\qU Y' b 174 5 x (q7 (kE l))/\Z<=b:=by
 have hF:∀y Y1,qa Y v=some (y,Y1)->(Sh.s 5 jz).fix y=.sl 5 (q7 l)->∃x Y' b,vA [.s 5 jz] FSc [v] Y Z=some (x,Y',b)/\qU Y' b 174 5 x (q7 (kE l))/\Z<=b:=by
  intro y Y1 g i;have d:zw Y [v]=some ([y],Y1):=by simp only[zw,g]
  have j:FSc (cw [.s 5 jz] (q6 [] [y]))=some (PD l):=by show FSc [(Sh.s 5 jz).fix y]=_;rw[i];exact qG (V:=fun l:List Cut=>[O.sl 5 (q7 l)]) (a:=l) zcp ⟨hs,f⟩
  unfold vA yh;simp only[d,j];unfold PD;by_cases e:kE l=[]
  ·rw[zf e];exact⟨.nil,Y1,Z,rfl,.inl ⟨rfl,by rw[e];rfl⟩,ze _⟩
  ·rw[zc e];exact⟨_,_,_,rfl,.inr ⟨Z,by omega,rfl,by simp⟩,by omega⟩
 rcases h with⟨rfl,k⟩|⟨id,n,rfl,m⟩
 ·exact hF .nil Y rfl (by rw[k];rfl)
 ·exact hF (.sl 5 (q7 l)) (qt Y id none) (by simp[m]) (by rw[Sh.oG,PE])
end Go.Q
