/- Lemmas. -/
import Derived.Test.YtfanbcfchamfjaaGreatDoorG5
set_option maxRecDepth 100000
open Go Proofs Proofs.YtfanbcfchamfjaaGreatDoor Proofs.Tryz RowKit AM SpanLaw Q Zz
open Go.IntKind renaming i64→i6
namespace Go.Q
def rN(done:List za)(k:Nat):List zb:=done.map (fun p=>[str p])++List.replicate k [str []]
theorem uD(done:List za)(k:Nat)(p:za):(rN done (k+1)).set done.length [str p]=rN (done++[p]) k:=by unfold rN;rw[vu _ _ (by simp)];simp[List.replicate_succ]
theorem uE(done:List za)(k:Nat):(rN done (k+1))[done.length]?=some [str []]:=by unfold rN;rw[qo (by simp)];simp[List.replicate_succ]
theorem G5(done:List za):rN done 0=done.map fun p=>[str p]:=by simp[rN]
def qT(s sep:za):List za:=Lib.split s sep
theorem X2{sep s:za}{i k:Nat}(h:Lib.index s sep=i):Lib.splitK sep 0 (k+1) s=s.take i::Lib.splitK sep 0 k (s.drop (i+sep.length)):=by
 have a:¬(Lib.index s sep==-1)=true:=by rw[w7];omega
 rw[Lib.splitK,zj a,h];simp
theorem oD{s sep:za}(h:sep≠[]):Lib.count s sep<=s.length:=by have:=Lib.countB_le ⟨sep.toArray⟩ (by cases sep<;>simp_all) s.length ⟨s.toArray⟩ (by simp);simpa[Lib.countB]using this
theorem Mq(a b:za)(Y:Hp)(Z:Nat)(h:a.length<=zD)(c:b.length<=zD)(d:1<=b.length):hP (WY cntP fun _ b=>1<=b.length) [str a,str b] Y Z=some (int (Lib.count a b),Y,Z):=Z6 _ _ a b Y Z h c d rfl
def ZT(xs:List za):Blk:=⟨9,1,true,xs.map fun p=>[str p]⟩
theorem nt(s sep:za)(F:s.length<=zD)(G:sep.length<=zD)(v:1<=sep.length) :
  ∃x Y Z,yR Ci2 f46 [str s,str sep,int 0,int (-1)] (fun _=>none) 0=some (x,Y,Z)/\hG (some (ZT (qT s sep))) x Y Z:=by
 have b:sep≠[]:=by intro e;subst e;simp at v
 have H:=oD (s:=s) b;unfold zD at F G;refine bf rfl ?_;have l:=QA b;have w:=wN ((Lib.count s sep:Int)+1);have I:=wN ((s.length:Int)+1);have w3:(if(s.length:Int)+1<(Lib.count s sep:Int)+1 then(s.length:Int)+1 else(Lib.count s sep:Int)+1)=(Lib.count s sep:Int)+1:=zj (by omega);have J:i6.wrap ((Lib.count s sep:Int)+1-1)=(Lib.count s sep:Int):=by rw[wM (by omega) (by omega)];omega
 have m:=wN (Lib.count s sep:Int);have y:((Lib.count s sep:Int)+1).toNat=Lib.count s sep+1:=by omega
 have z:0<=(Lib.count s sep:Int)+1:=by omega
 have c3:Lib.count s sep+1<=maxLen:=by simp[maxLen];omega
 have K:(Lib.count s sep+1)*16<=140737488355328:=by omega
 have n:=fun Y Z=>Mq s sep Y Z (by unfold zD;omega) (by unfold zD;omega) v
 have o:¬s.length<Lib.count s sep:=by omega
 have L:(Lib.count s sep:Int)+1<=(maxLen:Int):=by simp[maxLen];omega
 simp[l,n,w,I,o,J,m,WR,y,z,L,K];refine qu (fun j σ Y Z=>∃done cur,done.length=j/\σ 0=str cur/\σ 1=str sep/\σ 2=int 0/\σ 3=int (Lib.count s sep)/\σ 9=.own 0 0 (Lib.count s sep+1)/\σ 10=int j /\
   Y 0=some ⟨9,1,true,rN done (Lib.count s sep+1-j)⟩/\j+Lib.count cur sep=Lib.count s sep/\qT s sep=done++qT cur sep/\cur.length<=s.length) (Lib.count s sep)
  ⟨[],s,rfl,by simp,by simp,by simp,by simp[m],by simp,by simp,by simp[rN],by simp,by simp,zk _⟩ ?_
 rintro j σ Y Z hj ⟨done,cur,hd,A,B,C,D,E,d,k,hc,hs,hl⟩;have f:∀Y Z,hP (WY CW fun _ _=>True) [str cur,str sep] Y Z=some (int (Lib.index cur sep),Y,Z):=fun Y Z=>Jb cur sep Y Z (by unfold zD;omega) (by unfold zD;omega)
 by_cases p:j<Lib.count s sep
 ·have M:Lib.index cur sep≠-1:=fun e=>by have:=Lib.count_miss e;omega
  have q:0<=Lib.index cur sep:=by
   rcases Lib.index_spec cur sep with⟨h,_⟩|⟨i,h,_⟩
   ·exact absurd h M
   ·omega
  obtain⟨i,r⟩:∃i:Nat,Lib.index cur sep=i:=⟨(Lib.index cur sep).toNat,by omega⟩;have N:=Lib.index_room cur sep q;rw[r]at N f;have t:=Lib.count_hit b r;have c:qT cur sep=cur.take i::qT (cur.drop (i+sep.length)) sep:=by unfold qT Lib.split;rw[t,cz 1,X2 r]
  have P:¬((i:Int)<0):=by omega
  have Q:=wN (i:Int);have R:=wN ((i:Int)+sep.length);have S:=q8 j;have T:((i:Int)+sep.length).toNat=i+sep.length:=by omega
  have U:i+sep.length<=cur.length:=by omega
  have W:i<=cur.length:=by omega
  have X:0<=(i:Int)+sep.length:=by omega
  have k9:j<Lib.count s sep+1:=by omega
  have u:Lib.count s sep+1-j=(Lib.count s sep-j)+1:=by omega
  have g:=uE done (Lib.count s sep-j);rw[hd]at g;have a:=uD done (Lib.count s sep-j) (cur.take i);rw[hd]at a;rw[u]at k;simp[A,B,C,D,E,d,k,p,f,P,Q,R,S,T,U,W,X,k9,g,a];have ht:List.take (cur.length-(i+sep.length)) (List.drop (i+sep.length) cur)=List.drop (i+sep.length) cur:=qy (by simp);rw[ht];exact⟨by omega,done++[cur.take i],by simp[hd],rfl,by omega,by rw[hs,c];simp,by omega⟩
 ·obtain rfl:j=Lib.count s sep:=by omega
  have hz:Lib.count cur sep=0:=by omega
  have c:qT cur sep=[cur]:=by unfold qT Lib.split;rw[hz];rfl
  have u:Lib.count s sep+1-Lib.count s sep=0+1:=by omega
  have g:=uE done 0;have a:=uD done 0 cur;rw[hd]at g a;rw[u]at k;simp[A,B,C,D,E,d,k,g,a,w,m,y,z,hG,y8,f46];rw[hs,c];exact⟨0,⟨by omega,by simp[ZT,hd]⟩,by simp[ZT,G5]⟩
noncomputable def FGs:zb->Option (Option Blk):=qt (α:=za×za) (fun a=>[str a.1,str a.2,int 0,int (-1)]) (fun a=>a.1.length<=zD/\a.2.length<=zD/\1<=a.2.length) (fun a=>some (ZT (qT a.1 a.2)))
noncomputable def I1:zb->Option (Option Blk):=qt (α:=za×za) (fun a=>[str a.1,str a.2]) (fun a=>a.1.length<=zD/\a.2.length<=zD/\1<=a.2.length) (fun a=>some (ZT (qT a.1 a.2)))
theorem zce:∀a b:za×za,[str a.1,str a.2,int 0,int (-1)]=[str b.1,str b.2,int 0,int (-1)]->a=b:=by rintro⟨c,d⟩ ⟨f,g⟩ e;simp only[zi,zF]at e;rw[wT e.1,wT e.2]
theorem iH:zh prog 46 (j5 [] FGs):=
 JI (fn:=f46) (code:=_) L7 ⟨func46,by kernel_rfl,rfl,by kernel_rfl⟩ [] _ fun args r h=>by obtain⟨⟨a,b⟩,rfl,⟨c,d,e⟩,rfl⟩:=qc h;exact⟨by simp[f46],nt a b c d e⟩
theorem Si(a b:za)(Y:Hp)(Z:Nat)(c:a.length<=zD)(d:b.length<=zD)(f:1<=b.length):j5 [] FGs [str a,str b,int 0,int (-1)] Y Z=some (.own Z 0 (qT a b).length,zI Y Z (some (ZT (qT a b))),Z+1):=by have e:FGs (jn [] [str a,str b,int 0,int (-1)])=some (some (ZT (qT a b))):=qj (V:=fun a:List UInt8×za=>[str a.1,str a.2,int 0,int (-1)]) (a:=(a,b)) zce ⟨c,d,f⟩;simp[j5,e,ZT]
noncomputable abbrev Csp:Ctx:=qf prog [(46,j5 [] FGs)]
theorem zcf:Gd Csp:=qD mixed ⟨iH,trivial⟩
theorem ZO:zh prog 28 (j5 [] I1):=
 JI (fn:=f28) (code:=_) zcf ⟨func28,by kernel_rfl,rfl,by kernel_rfl⟩ [] _ fun args r h=>by
  obtain⟨⟨a,b⟩,rfl,⟨c,d,e⟩,rfl⟩:=qc h;have f:=fun Y Z=>Si a b Y Z c d e
  exact⟨by simp[f28],bf rfl (by simp[f,hG,ZT,f28])⟩
theorem ZF(a b:za)(Y:Hp)(Z:Nat)(c:a.length<=zD)(d:b.length<=zD)(f:1<=b.length):j5 [] I1 [str a,str b] Y Z=some (.own Z 0 (qT a b).length,zI Y Z (some (ZT (qT a b))),Z+1):=by have e:I1 (jn [] [str a,str b])=some (some (ZT (qT a b))):=qj (V:=fun a:List UInt8×za=>[str a.1,str a.2]) (a:=(a,b)) rI ⟨c,d,f⟩;simp[j5,e,ZT]
def G6(c:UInt8):Bool:=pr 48 57 c
def QG(l:za):Bool:=l.all G6
def va(l:za):Bool:=!(l==[])&&!(decide (1<l.length)&&l.headD 0==48)&&QG l
def ZP(l:za):Bool:=l==[120]||l==[88]||l==[42]
def fe(c:UInt8):Bool:=pr 97 122 c||pr 65 90 c||pr 48 57 c||c==45
def nu(l:za):Bool:=l.all fe&&!(l==[])
theorem G7{l:za}{k:Nat}(h:k<l.length):QG (l.drop k)=(G6 l[k]&&QG (l.drop (k+1))):=bj h
theorem G8{l:za}{k:Nat}(h:k<l.length):(l.drop k).all fe=(fe l[k]&&(l.drop (k+1)).all fe):=bj h
theorem iI(l:za)(i:l.length<=zD):zH C0 f230 [str l]=some (q6 (QG l)):=by
 refine zs rfl ?_;unfold zD at i;simp;refine qu (fun k σ Y Z=>σ 0=str l/\σ 5=int l.length/\σ 6=int k/\QG l=QG (l.drop k)) l.length ⟨by simp,by simp,by simp,by simp⟩ ?_;rintro k σ Y Z m ⟨e,f,g,b⟩;by_cases a:k<l.length
 ·have j:=q8 k;rw[G7 a]at b;have h:=ik 48 57 l[k];simp only[qO]at h;cases d:G6 l[k]
  ·have b:QG l=false:=by rw[b,d];rfl
   have c:pr 48 57 l[k]=false:=d;simp[e,f,g,a,b,h,c,f230]
  ·have c:pr 48 57 l[k]=true:=d;simp[e,f,g,a,h,c,j];exact⟨a,by rw[b,d];rfl⟩
 ·obtain rfl:k=l.length:=by omega
  have b:QG l=true:=by rw[b,zp];rfl
  simp[e,f,g,b,f230]
theorem Wd:zh prog 230 (hP (FS QG)):=
 Z3 ku func230 false [] fun l Y=>⟨by simp[f230],_,iI l Y,qP _⟩
noncomputable abbrev Cdg:Ctx:=qf prog [(230,hP (FS QG))]
theorem zcg:AM.Good Cdg (fun g=>[230].contains g):=qI mixed ⟨Wd,fun _=>zq _ _,trivial⟩
theorem Db(l:za)(g:l.length<=zD):zH Cdg f205 [str l]=some (q6 (va l)):=by
 refine zs rfl ?_;have hd:=fun Y Z=>Zu QG l Y Z g
 cases l with
 |nil=>simp[va,f205]
 |cons c l=>
  by_cases b:0<l.length
  ·have a:l≠[]:=by intro e;subst e;simp at b
   have f:(1:Int)<(l.length:Int)+1:=by omega
   by_cases d:c=48
   ·subst d;simp[hd,b,a,f,va,f205]
   ·have h:((c.toNat:Int)==48)=false:=by rw[qM];intro e;apply d;rw[<-yg];simp;omega
    simp[hd,b,a,d,h,f,va,f205]
  ·have a:l=[]:=by cases l<;>simp_all
   subst a;simp[hd,va,f205]
theorem ek:zh prog 205 (hP (FS va)):=
 Z3 zcg func205 false [] fun l Y=>⟨by simp[f205],_,Db l Y,qP _⟩
theorem G9(l:za):zH C0 f162 [str l]=some (q6 (ZP l)):=by
 refine zs rfl ?_;cases a:(l==[120])
 ·cases b:(l==[88])
  ·simp[a,b,ZP,f162]
  ·simp[a,b,ZP,f162]
 ·simp[a,ZP,f162]
theorem iJ:zh prog 162 (hP (FS ZP)):=
 Z3 ku func162 false [] fun l Y=>⟨by simp[f162],_,G9 l,qP _⟩
def rO(l:za):Int:=((Lib.decNat l).getD 0:Nat)
theorem JW:∀(l:za) (a:Nat),QG l=true->∃n,Lib.decFrom a l=some n/\n<(a+1)*10 ^ l.length
 |[],a,_=>⟨a,rfl,by simp⟩
 |c::l,a,h=>by
  simp only[QG,yC,zn]at h;have b:48<=c.toNat/\c.toNat<=57:=by have:=h.1;simpa[G6,pr]using this
  obtain⟨n,d,e⟩:=JW l (a*10+(c.toNat-48)) h.2;refine⟨n,?_,?_⟩
  ·simp only[Lib.decFrom,Lib.digitVal,b,zgV,qh];exact d
  ·have f:a*10+(c.toNat-48)+1<=(a+1)*10:=by omega
   calc n<(a*10+(c.toNat-48)+1)*10 ^ l.length:=e
    _<=(a+1)*10*10 ^ l.length:=qA _ f
    _=(a+1)*10 ^ (c::l).length:=by rw[ze,s8,Nat.mul_assoc,cA 10]
theorem uF{l:za}(h:va l=true):l≠[]/\QG l=true:=by simp only[va,zn]at h;exact⟨by intro e;subst e;simp at h,h.2⟩
theorem Dc{l:za}(h:va l=true):Lib.atoi l=some (rO l):=by
 obtain⟨a,b⟩:=uF h;obtain⟨n,i,_⟩:=JW l 0 b;have f:Lib.decNat l=some n:=by unfold Lib.decNat;rw[zj (by simpa using a)];exact i
 cases l with
 |nil=>exact absurd rfl a
 |cons c l=>
  have k:48<=c.toNat/\c.toNat<=57:=by have:=b;simp only[QG,yC,zn]at this;simpa[G6,pr]using this.1
  have j:rO (c::l)=n:=by unfold rO;rw[f];rfl
  rw[j];have g:∀d:UInt8,d.toNat<48->(c==d)=false:=fun d hd=>by rw[qM];intro e;subst e;omega
  unfold Lib.atoi;simp only[];rw[g 45 (by decide),g 43 (by decide),f];rfl
noncomputable def FAt:zb->Option O:=qt (α:=za) (fun l=>[str l]) (fun l=>l.length<=18/\va l=true) (fun l=>.qZ [int (rO l),.v .nilIface])
theorem Mr{dr:Prop}(w:World)(e:TypeId)(s:ByteArray):Fr dr w (fun _=>False) (Lib.bytesWorld w e s):=by
 have d:∀(b:World) (a:Addr) (n k:Nat),k≠a.block->(b.freeze a n).heap[k]?=b.heap[k]?:=by
  intro b a n k c;unfold World.freeze;split
  ·rfl
  ·simp[Zz,Ne.symm c]
 have f:∀(b:World) (a:Addr) (n:Nat),(b.freeze a n).heap.size=b.heap.size:=by intro b a n;unfold World.freeze;split<;>simp
 unfold Lib.bytesWorld;refine⟨rfl,rfl,rfl,?_,?_,fun k c _=>?_⟩
 ·rw[f];simp
 ·exact fun _=>yJ _
 ·rw[d _ _ _ k (by simpa using Nat.ne_of_lt c)];exact(Below.heap_alloc w.drew _ k c)
@[simp]theorem PX(σ:Nat->O):AM.get σ (.const .nilIface)=some (.v .nilIface):=rfl
theorem Dd:zh prog 206 (hP FAt):=
 kr ⟨_,func206,by kernel_rfl,by kernel_rfl⟩ fun args r h=>by
  obtain⟨l,rfl,⟨c,d⟩,rfl⟩:=qc h;refine⟨[.string ⟨l.toArray⟩],rfl,by simp[lit],rfl,.tuple #[.int .i64 (rO l),.nilIface],fun w S=>.qZ rfl fun j g u a b=>?_,fun w S _=>?_⟩
  ·match j,a,b with
   | 0,a,b=>simp at a b;subst a;subst b;exact .v rfl
   | 1,a,b=>simp at a b;subst a;subst b;exact .v rfl
   |j+2,a,b=>simp at a
  refine(Any.strconv_Atoi Tryz.zay ⟨l.toArray⟩ (rO l) (by simpa using c) (by simpa using Dc d) w).mono fun e i f=>?_
  obtain⟨rfl,t,rfl⟩:=f;exact⟨rfl,Mr _ _ _⟩
theorem Ha(l:za)(Y:Hp)(Z:Nat)(c:l.length<=18)(d:va l=true):hP FAt [str l] Y Z=some (.qZ [int (rO l),.v .nilIface],Y,Z):=
 aK l _ _ rfl (fun a b e=>by simp only[zi,zF]at e;exact wT e) ⟨c,d⟩ (.inl rfl)
def JX(l:za):Option Int:=if va l=true/\l.length<=6 then some (rO l)else none
def bw(l:za):O:=.qZ [int ((JX l).getD 0),q6 (JX l).isSome]
noncomputable def FSP (f:za->O):zb->Option O:=qt (α:=za) (fun l=>[str l]) (fun l=>l.length<=zD) f
theorem iK(f:za->O)(l:za)(Y:Hp)(Z:Nat)(h:l.length<=zD)(c:(f l).flat=true):hP (FSP f) [str l] Y Z=some (f l,Y,Z):=
 aK l _ _ rfl (fun a b e=>by simp only[zi,zF]at e;exact wT e) h (.inl c)
noncomputable abbrev Cvn:Ctx:=qf prog [(205,hP (FS va)),(206,hP FAt)]
theorem zch:AM.Good Cvn (fun g=>[205].contains g):=qI mixed ⟨ek,fun _=>zq _ _,Dd,fun _=>zq _ _,trivial⟩
theorem X3(l:za)(f:l.length<=zD):zH Cvn f188 [str l]=some (bw l):=by
 refine zs rfl ?_;have b:=fun Y Z=>Zu va l Y Z f
 cases a:va l
 ·simp[b,a,bw,JX,jB,f188]
 ·by_cases e:l.length<=6
  ·have c:¬((6:Int)<l.length):=by omega
   have g:=fun Y Z=>Ha l Y Z (by omega) a
   simp[b,a,e,c,g,EK,bw,JX,jB,f188]
  ·have c:(6:Int)<l.length:=by omega
   have d:6<l.length:=by omega
   simp[b,a,e,d,c,bw,JX,jB,f188]
theorem Wq:zh prog 188 (hP (FSP bw)):=
 Z3 zch func188 false [] fun l Y=>⟨by simp[f188],_,X3 l Y,qP _⟩
@[simp]theorem zeq(P:Program)(Y:Hp)(t:TypeId)(id a b:Nat)(k:IntKind)(i:Int)(h:yq P t=none):qL P Y t (.ref id a b) (.v (.int k i))=(tD P t).bind fun c=>(qN P c.2).bind fun n=>if 0<=i/\i<c.1 then some (.ref id a (b+i.toNat*n))else none:=by
 simp only[qL,h,xJ];cases tD P t with
 |none=>rfl
 |some c=>obtain⟨m,e⟩:=c;simp only[zW];cases qN P e<;>rfl
@[simp]theorem zer(P:Program)(Y:Hp)(t:TypeId)(cs:zb)(k:IntKind)(i:Int)(h:yq P t=none):qL P Y t (.ptr cs) (.v (.int k i))=(tD P t).bind fun a=>(qN P a.2).bind fun n=>if 0<=i/\i<a.1 then some (.ptr (cs.drop (i.toNat*n)))else none:=by
 simp only[qL,h,xJ];cases tD P t with
 |none=>rfl
 |some a=>obtain⟨m,e⟩:=a;simp only[zW];cases qN P e<;>rfl
@[simp]theorem wrl1:i6.wrap 1=1:=wM (by decide) (by decide)
@[simp]theorem wrl2:i6.wrap 2=2:=wM (by decide) (by decide)
@[simp]theorem wrl3:i6.wrap 3=3:=wM (by decide) (by decide)
theorem De(l:za)(h:l.length<=zD):zH C0 f229 [str l]=some (q6 (nu l)):=by
 refine zs rfl ?_;unfold zD at h;simp;refine qu (fun k σ Y Z=>σ 0=str l/\σ 6=int l.length/\σ 7=int k/\l.all fe=(l.drop k).all fe) l.length ⟨by simp,by simp,by simp,by simp⟩ ?_;rintro k σ Y Z m ⟨e,f,g,b⟩;by_cases a:k<l.length
 ·have i:=q8 k;rw[G8 a]at b;have c:(decide ((97:Int)<=l[k].toNat)&&decide ((l[k].toNat:Int)<=122)||decide ((65:Int)<=l[k].toNat)&&decide ((l[k].toNat:Int)<=90)||decide ((48:Int)<=l[k].toNat)&&decide ((l[k].toNat:Int)<=57)||((l[k].toNat:Int)==45))=fe l[k]:=by
   have j:((l[k].toNat:Int)==45)=(l[k]==45):=by rw[wO];simp[<-yg];omega
   rw[j,wO];simp[fe,pr,<-yg];omega
  cases d:fe l[k]
  ·have b:l.all fe=false:=by rw[b,d];rfl
   rw[d]at c;simp[e,f,g,a,c,nu,b,-List.all_eq_true,-List.all_eq_false,f229]
  ·rw[d]at c;simp[e,f,g,a,c,i,-List.all_eq_true,-List.all_eq_false];exact⟨a,by rw[b,d];rfl⟩
 ·obtain rfl:k=l.length:=by omega
  have b:l.all fe=true:=by rw[b,zp];rfl
  simp[e,f,g,b,nu,-List.all_eq_true,f229]
theorem uG:zh prog 229 (hP (FS nu)):=
 Z3 ku func229 false [] fun l Y=>⟨by simp[f229],_,De l Y,qP _⟩
theorem nv:zh prog 228 (hP (F3 xo)):=
 kq (fn:=f228) ku (yt func228) false [] _ fun args r h=>by obtain⟨a,b,c,rfl,rfl⟩:=rH h;exact⟨by simp[f228],_,zs rfl (by simp[f228,xo]),qP _⟩
structure vh where
 a:Int
 b:Int
 c:Int
 pre:List (List UInt8)
def zA(l:List za):List zb:=l.map fun p=>[str p]
theorem kC{a b:List za}(h:zA a=zA b):a=b:=jJ (fun x y e=>by simp only[zi,zF]at e;exact wT e) h
@[simp]theorem Yy(l:List za):(zA l).length=l.length:=by simp[zA]
@[simp]theorem Ms:zA []=[]:=rfl
@[simp]theorem Hb(l:List za):(zA l).take l.length=zA l:=qy (by simp)
@[simp]theorem VR(p:za)(l:List za):zA (p::l)=[str p]::zA l:=rfl
@[simp]theorem zhN(l:List za):ZT l=⟨9,1,true,zA l⟩:=rfl
@[simp]theorem zhO{l:List za}{k:Nat}(h:k<(zA l).length):(zA l)[k]=[str (l[k]'(by simpa using h))]:=by simp[zA]
theorem Mt{l:List za}{k:Nat}(h:k<l.length):(zA l)[k]?=some [str l[k]]:=by simp[zA,h]
def vh.V(v:vh):zb:=[int v.a,int v.b,int v.c,.sl 1 (zA v.pre)]
theorem bz{a b:vh}(h:a.V=b.V):a=b:=by
 cases a;cases b;simp only[vh.V,zi,zF]at h;obtain⟨d,e,f,c⟩:=h;injection c with _ c
 rw[qE d,qE e,qE f,kC c]
abbrev WZ:List (Option Nat):=[none,none,none,some 1]
def vh.small(v:vh):Prop:=v.pre.length<=zD/\∀p∈v.pre,p.length<=zD
def ZG(p:za):Bool:=decide (20<p.length)||!nu p||(QG p&&!va p)
def JY(v:vh):Int:=if xo v.a 0 999999=true/\xo v.b 0 999999=true/\xo v.c 0 999999=true then(if 10<v.pre.length then 2 else if v.pre.any ZG then 3 else 0)else 1
noncomputable def FVr (f:vh->O):zb->Option O:=qt (α:=vh) (fun v=>[.agg v.V]) vh.small f
theorem uH(f:vh->O)(v:vh)(x:O)(Y Y1:Hp)(Z:Nat)(y:O)(d:zz Y [x]=some ([y],Y1))(i:(Sh.g WZ).fix y=.agg v.V)(h:v.small)(c:(f v).flat=true):wE [.g WZ] (FVr f) [x] Y Z=some (f v,Y,Z):=by
 have e:FVr f (eY [.g WZ] (jn [] [y]))=some (f v):=by show FVr f [(Sh.g WZ).fix y]=_;rw[i];exact qj (V:=fun v:vh=>[O.agg v.V]) (a:=v) (fun a b e=>by simp only[zi,zF]at e;injection e with e;exact bz e) h
 try unfold hP
 unfold wE yS;simp only[d,e,c,true_or,qh]
noncomputable abbrev Mu:Ctx:=qf prog [(228,hP (F3 xo)),(229,hP (FS nu)),(230,hP (FS QG)),(205,hP (FS va))]
theorem Sj:AM.Good Mu (fun g=>[228,229,230,205].contains g):=qI mixed ⟨nv,fun _=>zq _ _,uG,fun _=>zq _ _,Wd,fun _=>zq _ _,ek,fun _=>zq _ _,trivial⟩
@[simp]theorem zes:yH Mu 229:=wD (by rfl) (zq _ _)
@[simp]theorem zet:yH Mu 230:=wD (by rfl) (zq _ _)
@[simp]theorem zeu:yH Mu 205:=wD (by rfl) (zq _ _)
theorem bA(v:vh)(h:v.small):zH Mu f204 [.agg v.V]=some (int (JY v)):=by
 obtain⟨a,b,c,pre⟩:=v;obtain⟨w,o⟩:=h;simp only at w o;unfold zD at w;refine zs rfl ?_;simp[vh.V,zy,zR,zw];rw[qx];cases n:xo a 0 999999
 ·simp[n,JY,f204]
 simp[n];rw[qx];cases p:xo b 0 999999
 ·simp[n,p,JY,f204]
 simp[p];rw[qx];cases q:xo c 0 999999
 ·simp[n,p,q,JY,f204]
 simp[q];rw[qx];simp;by_cases s:10<pre.length
 ·have g:(10:Int)<pre.length:=by omega
  simp[n,p,q,s,g,JY,f204]
 have g:¬(10:Int)<pre.length:=by omega
 simp[s,g];have t:JY ⟨a,b,c,pre⟩=if pre.any ZG then 3 else 0:=by simp[JY,n,p,q,s]
 rw[t];refine qu (fun k σ Y Z=>σ 28=.sl 1 (zA pre)/\σ 29=int pre.length/\σ 30=int k/\pre.any ZG=(pre.drop k).any ZG) pre.length ⟨by simp,by simp,by simp,by simp⟩ ?_;rintro k σ Y Z B ⟨i,j,l,f⟩;by_cases d:k<pre.length
 ·have C:=q8 k;have x:=Mt d;rw[zg d,VA]at f;have m:=o _ (zo d);have y:=fun Y Z=>Zu nu pre[k] Y Z m
  have z:=fun Y Z=>Zu QG pre[k] Y Z m
  have A:=fun Y Z=>Zu va pre[k] Y Z m
  have u:ZG pre[k]=(decide (20<pre[k].length)||!nu pre[k]||(QG pre[k]&&!va pre[k])):=rfl;have e:(decide ((20:Int)<pre[k].length)||!nu pre[k]||QG pre[k]&&!va pre[k])=ZG pre[k]:=by rw[u];congr 2;rw[wO];simp;omega
  cases r:ZG pre[k]
  ·rw[r]at e;simp[i,j,l,d,x,y,z,A,e,C];exact⟨d,by rw[f,r];rfl⟩
  ·rw[r]at e;have f:pre.any ZG=true:=by rw[f,r];rfl
   simp[i,j,l,d,x,y,z,A,e,f,-List.any_eq_true,f204]
 ·obtain rfl:k=pre.length:=by omega
  have f:pre.any ZG=false:=by rw[f,zp];rfl
  simp[i,j,l,f,-List.any_eq_false,f204]
theorem Sk{f:vh->O}{args:zb}{r:O}(h:FVr f args=some r):∃v:vh,args=[.agg v.V]/\v.small/\r=f v:=qc h
theorem X4:zh prog 204 (wE [.g WZ] (FVr fun v=>int (JY v))):=
 jC (fn:=f204) Sj (yt func204) _ _ fun args r h=>by obtain⟨v,rfl,a,rfl⟩:=Sk h;exact⟨by simp[f204],_,bA v a,yY.refl _⟩
end Go.Q
namespace Go.Q
open Go.RowKit Go.AM Go.PrLaw
theorem Mv{w a:World}(h:Below w.heap.size w a):Fr False w (fun _=>False) a:=⟨h.os,h.tape,h.output,h.size,fun e=>e.elim,fun k b _=>h.block k b⟩
def iL:List zb->Option (List za)
 |[]=>some []
 |[.v (.string s)]::l=>(iL l).map (s.data.toList::·)
 |_=>none
@[simp]theorem zci(l:List za):iL (zA l)=some l:=by
 induction l with
 |nil=>rfl
 |cons c l a=>simp[iL,a]
theorem oE:∀{es:List zb} {l:List za},iL es=some l->es=zA l
 |[],l,h=>by simp only[iL]at h;injection h with h;subst h;rfl
 |e::es,l,h=>by
  unfold iL at h;split at h
  ·rename_i a;cases a
  ·rename_i s l' a;injection a with b c
   subst b;subst c;obtain⟨l2,d,f⟩:=zJ h;have:=oE d;subst this;subst f;rfl
  ·cases h
def hJn:AM.Spec:=fun args Y Z=>match args with
 |[.own id 0 n,.v (.string sep)]=>(Y id).bind fun b=>if b.s=1/\b.arr=true/\b.es.length=n/\n<=140737488355328 then(iL b.es).bind fun xs=>if(Lib.join xs sep.data.toList).length<=140737488355328 then some (str (Lib.join xs sep.data.toList),Y,Z)else none else none
 |[.nil,.v (.string _)]=>some (str [],Y,Z)
 |_=>none
theorem zcj{Y:Hp}{Z e:Nat}{v:O}{xs:List za}(sep:za)(h:qR Y Z e 1 v (zA xs))(b:xs.length<=140737488355328)(c:(Lib.join xs sep).length<=140737488355328)(Z':Nat):hJn [v,str sep] Y Z'=some (str (Lib.join xs sep),Y,Z'):=by
 rcases h with⟨rfl,d⟩|⟨id,_,rfl,f⟩
 ·have:xs=[]:=by cases xs with
   |nil=>rfl
   |cons a l=>simp at d
  subst this;rfl
 ·simp[hJn,f,c,b]
theorem Df:jl False prog 10 hJn:=by
 refine⟨⟨_,func10,by kernel_rfl,by kernel_rfl⟩,?_⟩;intro args Y Z r Y' Z' h w S G vs z I;unfold hJn at h;split at h
 ·rename_i id n sep;obtain⟨u,us,rfl,t,d⟩:=I.jr;obtain⟨N,f,rfl,i,a⟩:=d.jr;have k:f=[]:=wI (by simpa using a.1.symm);subst k;obtain⟨rfl,_⟩:=i.wZ;obtain⟨b,P,h⟩:=zL.1 h;split at h
  case isFalse=>cases h
  rename_i Q;obtain⟨R,c2,T,U⟩:=Q;obtain⟨xs,W,h⟩:=zL.1 h;split at h
  case isFalse=>cases h
  rename_i m;injection h with h
  injection h with A h;injection h with B C;subst A;subst B;subst C;have D:=t.xl;obtain⟨cap,a1,X,a3,a4,rfl⟩:=t.vO;have o:=z.live id _ P;obtain⟨cg,J,p2,p3⟩:=o.row D;have E:(G id).s=1:=by rw[<-R];exact o.bs.symm
  have p:=oE W;have hn:xs.length=n:=by rw[<-T,p];simp
  have F:(G id).g<w.heap.size:=(zU.1 J).1;subst hn;have l:(xs.map fun x=>(⟨x.toArray⟩:ByteArray)).length=xs.length:=by simp
  have q:((xs.map fun x=>(⟨x.toArray⟩:ByteArray)).map fun y=>y.data.toList)=xs:=by rw[ta];exact List.map_id' _
  have K:=Any.strings_Join Tryz.Ga Tryz.YL (G id).g (0*(G id).s) cap (xs.map fun x=>⟨x.toArray⟩) sep w (fun j x L=>?_) F (by rw[l];exact U) (by rw[l];exact X) (by rw[q];exact m)
  ·rw[q,l]at K;refine K.mono fun e w' H=>?_
   obtain⟨rfl,hw⟩:=H;exact⟨_,_,G,rfl,kd.outer z (Mv hw),.c (.v rfl)⟩
  ·rw[qq]at L;obtain⟨y,hy,rfl⟩:=WG.1 L;obtain⟨u,M,g2⟩:=p3 j 0 [str y] (str y) (by rw[p];simp[zA,hy]) rfl;obtain⟨rfl,_⟩:=g2.2.1.wZ;rw[E]at M;simp only[World.cell?,J,Nat.zero_mul,zu];simpa using M
 ·rename_i sep;obtain⟨u,us,rfl,t,d⟩:=I.jr;obtain⟨N,f,rfl,i,a⟩:=d.jr;have k:f=[]:=wI (by simpa using a.1.symm);subst k;obtain⟨rfl,_⟩:=i.wZ;obtain rfl:=t.xV;injection h with h
  injection h with A h;injection h with B C;subst A;subst B;subst C;refine(Any.strings_Join_none Tryz.Ga Tryz.YL none 0 sep w).mono fun e w' H=>?_
  obtain⟨rfl,rfl⟩:=H;exact⟨_,_,_,rfl,kd.refl z,.c (.v rfl)⟩
 ·cases h
end Go.Q
namespace Go.AM
def pS(T U:TypeId)(id:Nat)(Y:Hp)(Z:Nat)(cur:za):Prop:=id<Z/\((cur=[]/\Y id=some (Wo T))\/∃m,m≠id/\m<Z/\cur≠[]/\Y id=some (vl T id m cur.length)/\Y m=some (Yn U cur))
theorem pS.put{T U:TypeId}{id:Nat}{Y Y1:Hp}{Z:Nat}{cur t:za}{F:zb->Option (za×O)}{rest az:zb}{r:O}(B:pS T U id Y Z cur)(i:zz Y rest=some (az,Y1))(k:rest.all O.noOwn=true)(l:F az=some (t,r))(n:t≠[])(o:cur.length+t.length<=140737488355328) :
  ∃Y',vm T U F (.ref id 0 0::rest) Y Z=some (r,Y',Z+1)/\pS T U id Y' (Z+1) (cur++t)/\∀j b,j<Z->j≠id->Y j=some b->b.e≠U->Y' j=some b:=by
 obtain⟨hid,B⟩:=B;have n1:Z≠id:=by omega
 rcases B with⟨rfl,f⟩|⟨m,q,s,p,f,d⟩
 ·obtain⟨Y',u,v,w,x⟩:=iy f n1 i k l (by simpa using o);refine⟨Y',u,⟨by omega,.inr ⟨Z,n1,by omega,by simpa using n,by simpa using v,by simpa using w⟩⟩,fun j b y c a _=>?_⟩;rw[x j c (by omega)];exact a
 ·refine⟨_,by rw[fK i k l,f];simp[cT,q,d,C2,o];rfl,⟨by omega,.inr ⟨Z,n1,by omega,by simp[n],by simp,?_⟩⟩,fun j b y c a g=>?_⟩
  ·rw[zc _ _ _ _ n1];simp
  ·have h:j≠m:=by rintro rfl;rw[d]at a;injection a with a;exact g (by rw[<-a];rfl)
   rw[zc _ _ _ _ c,zc _ _ _ _ (by omega),zc _ _ _ _ h];exact a
theorem pS.kO{T U:TypeId}{id:Nat}{Y Y':Hp}{Z Z':Nat}{cur:za}(B:pS T U id Y Z cur)(f:Z<=Z')(h:∀j,j<Z->Y' j=Y j):pS T U id Y' Z' cur:=by
 obtain⟨hid,B⟩:=B;refine⟨by omega,?_⟩;rcases B with⟨rfl,b⟩|⟨m,e,c,a,b,d⟩
 ·exact .inl ⟨rfl,by rw[h id hid];exact b⟩
 ·exact .inr ⟨m,e,by omega,a,by rw[h id hid];exact b,by rw[h m c];exact d⟩
end Go.AM
namespace Go.Q
def aL(xs:List za):za:=Lib.join xs [32]++[10]
noncomputable abbrev Cln:Ctx:=qf prog [(10,hJn),(9,vm TB UB Rr)]
theorem zck:kl False Cln g0F:=qD mixed ⟨Df,VB.lax,trivial⟩
noncomputable abbrev E3:AM.Spec:=yc Cln Tryz.f8
theorem Dg:jl False prog 8 E3:=Zg zck func8
theorem W0{xs:List za}{v:O}{e id:Nat}{Y:Hp}{Z:Nat}{cur:za}(B:pS TB UB id Y Z cur)(f:qR Y Z e 1 v (zA xs))(g:xs.length<=140737488355328)(h:cur.length+(aL xs).length<=140737488355328) :
  ∃Y' Z',E3 [v,.ref id 0 0] Y Z=some (.qZ [],Y',Z')/\pS TB UB id Y' Z' (cur++aL xs)/\Z<=Z'/\∀j b,j<Z->j≠id->Y j=some b->b.e≠UB->Y' j=some b:=by
 have i:(aL xs).length=(Lib.join xs [32]).length+1:=by simp[aL]
 have k:=zcj [32] f g (by omega) Z;have a:aL xs≠[]:=by simp[aL]
 obtain⟨Y',d,l,m⟩:=B.put (rest:=[str (aL xs)]) (az:=[str (aL xs)]) (Y1:=Y) (by simp) rfl (C7 (aL xs) a) a h;refine⟨Y',Z+1,?_,l,by omega,m⟩;unfold E3 yc;rw[zl (by simp[Tryz.f8])];refine vD rfl ?_;have c:(Lib.join xs [32]).length+1<=maxLen:=by unfold maxLen;omega
 simp only[aL]at d;simp[k,c];simp[d,Tryz.f8]
inductive Cnd where
 |mk (kind:Int) (attr:List UInt8) (op:Int) (jd:List Val) (pat name:List UInt8) (args:List Cnd)
namespace Cnd
def kind:Cnd->Int|.mk k _ _ _ _ _ _=>k
def attr:Cnd->za|.mk _ a _ _ _ _ _=>a
def op:Cnd->Int|.mk _ _ o _ _ _ _=>o
def jd:Cnd->List Val|.mk _ _ _ v _ _ _=>v
def pat:Cnd->za|.mk _ _ _ _ p _ _=>p
def name:Cnd->za|.mk _ _ _ _ _ n _=>n
def args:Cnd->List Cnd|.mk _ _ _ _ _ _ l=>l
end Cnd
theorem Cnd.ind{P:Cnd->Prop}(h:∀k a o v p n l,(∀x∈l,P x)->P (.mk k a o v p n l))(c:Cnd):P c:=
 Cnd.rec (motive_1:=P) (motive_2:=fun l=>∀x∈l,P x) (fun k a o v p n l b=>h k a o v p n l b) (by simp)
  (fun x l e b y d=>by
   rcases zx.1 d with rfl|d
   ·exact e
   ·exact b y d) c
mutual
def Cnd.V:Cnd->zb
 | .mk k a o v p n l=>[int k,str a,int o,.sl 5 (v.map Val.V),str p,str n,.sl 7 (tj l)]
def tj:List Cnd->List zb
 |[]=>[]
 |c::l=>c.V::tj l
end
theorem iM:∀l:List Cnd,tj l=l.map Cnd.V
 |[]=>rfl
 |c::l=>by simp[tj,iM l]
theorem qH(c:Cnd):c.V=[int c.kind,str c.attr,int c.op,.sl 5 (c.jd.map Val.V),str c.pat,str c.name,.sl 7 (c.args.map Cnd.V)]:=by
 cases c with
 |mk k a o v p n l=>simp[Cnd.V,iM,Cnd.kind,Cnd.attr,Cnd.op,Cnd.jd,Cnd.pat,Cnd.name,Cnd.args]
@[simp]theorem za5(c:Cnd):c.V.length=7:=by rw[qH];rfl
@[simp]theorem Dh(c:Cnd):c.V.all O.wY=true:=by rw[qH];rfl
@[simp]theorem za6(c:Cnd):(∀x,x∈c.V->O.wY x=true)=True:=by have:=Dh c;rw[zP]at this;exact eq_true this
@[simp]theorem zev(c:Cnd):c.V.take 7=c.V:=qy (by simp)
@[simp]theorem zih(c:Cnd)(h:0<c.V.length):c.V[0]=int c.kind:=by simp[qH c]
@[simp]theorem zii(c:Cnd)(h:1<c.V.length):c.V[1]=str c.attr:=by simp[qH c]
@[simp]theorem zij(c:Cnd)(h:2<c.V.length):c.V[2]=int c.op:=by simp[qH c]
@[simp]theorem zik(c:Cnd)(h:3<c.V.length):c.V[3]=.sl 5 (c.jd.map Val.V):=by simp[qH c]
@[simp]theorem zil(c:Cnd)(h:4<c.V.length):c.V[4]=str c.pat:=by simp[qH c]
@[simp]theorem zim(c:Cnd)(h:5<c.V.length):c.V[5]=str c.name:=by simp[qH c]
@[simp]theorem zin(c:Cnd)(h:6<c.V.length):c.V[6]=.sl 7 (c.args.map Cnd.V):=by simp[qH c]
theorem Mw{a b:List Val}(h:a.map Val.V=b.map Val.V):a=b:=jJ (fun _ _=>xN) h
theorem QX:∀{a b:Cnd},a.V=b.V->a=b:=by
 intro a
 induction a using Cnd.ind with
 |h k a o v p n l f=>
  intro b e;cases b with
  |mk s t o' u w z l'=>
   simp only[qH,Cnd.kind,Cnd.attr,Cnd.op,Cnd.jd,Cnd.pat,Cnd.name,Cnd.args,zi,zF]at e;obtain⟨g,i,j,c,m,q,d⟩:=e;obtain rfl:=qE g;obtain rfl:=wT i;obtain rfl:=qE j;injection c with _ c
   obtain rfl:=Mw c;obtain rfl:=wT m;obtain rfl:=wT q;injection d with _ d;rw[JT (fun x r y=>f x r) d]
mutual
def Cnd.cb:Cnd->Nat
 | .mk _ a _ v p n l=>1+a.length+kz v+p.length+n.length+Wm l
def Wm:List Cnd->Nat
 |[]=>0
 |c::l=>c.cb+Wm l
end
theorem Wr(c:Cnd):c.cb=1+c.attr.length+kz c.jd+c.pat.length+c.name.length+Wm c.args:=by cases c;rfl
theorem iN(c:Cnd):0<c.cb:=by rw[Wr];omega
theorem VS:∀{l:List Cnd} {x:Cnd},x∈l->x.cb<=Wm l
 |y::l,x,h=>by
  simp only[Wm];rcases zx.1 h with rfl|h
  ·omega
  ·have:=VS h;omega
theorem W4:∀l:List Cnd,l.length<=Wm l
 |[]=>by simp[Wm]
 |c::l=>by have:=W4 l;have:=iN c;simp only[Wm,ze];omega
mutual
def Cnd.parts:Cnd->Nat
 | .mk _ _ _ _ _ _ l=>1+jE l
def jE:List Cnd->Nat
 |[]=>0
 |c::l=>c.parts+jE l
end
mutual
def Cnd.levels:Cnd->Nat
 | .mk _ _ _ _ _ _ l=>jj l+1
def jj:List Cnd->Nat
 |[]=>0
 |c::l=>max c.levels (jj l)
end
theorem VT(c:Cnd):c.parts=1+jE c.args:=by cases c;rfl
theorem JZ(c:Cnd):c.levels=jj c.args+1:=by cases c;rfl
theorem Di(l:List Cnd)(h:∀x∈l,x.parts<=x.cb):jE l<=Wm l:=by
 induction l with
 |nil=>simp[jE]
 |cons v l a=>have:=h v (by simp);have:=a fun x b=>h x (by simp[b]);simp only[jE,Wm];omega
theorem Hc(c:Cnd):c.parts<=c.cb:=by
 induction c using Cnd.ind with
 |h k a o v p n l b=>have:=Di l b;rw[VT,Wr];simp only[Cnd.args];omega
theorem uI(l:List Cnd)(h:∀x∈l,x.levels<=x.parts):jj l<=jE l:=by
 induction l with
 |nil=>simp[jj]
 |cons v l a=>have:=h v (by simp);have:=a fun x b=>h x (by simp[b]);simp only[jE,jj];omega
theorem Dj(c:Cnd):c.levels<=c.parts:=by
 induction c using Cnd.ind with
 |h k a o v p n l b=>have:=uI l b;rw[VT,JZ];simp only[Cnd.args];omega
theorem XE(a b:List Cnd):jE (a++b)=jE a+jE b:=by
 induction a with
 |nil=>simp[jE]
 |cons v a c=>simp only[qC,jE,c];omega
theorem iO(a b:List Cnd):jj (a++b)=max (jj a) (jj b):=by
 induction a with
 |nil=>simp[jj]
 |cons v a c=>simp only[qC,jj,c];omega
theorem zgh{l:List Cnd}{k:Nat}(h:k<l.length):jE (l.take (k+1))=jE (l.take k)+l[k].parts/\jj (l.take (k+1))=max (jj (l.take k)) l[k].levels:=by rw[qb h,XE,iO];simp[jE,jj]
theorem oF(l:List Cnd)(k:Nat):jE (l.take k)<=jE l:=by have:=XE (l.take k) (l.drop k);rw[eP]at this;omega
noncomputable def FC (out:Cnd->O) (n:Nat):zb->Option O:=qt (α:=Cnd) (fun c=>[.agg c.V]) (fun c=>c.cb<=zD/\c.cb<=n) out
theorem zgi(out:Cnd->O)(n:Nat)(c:Cnd)(h:c.cb<=zD/\c.cb<=n):FC out n [.agg c.V]=some (out c):=
 qj (V:=fun c:Cnd=>[.agg c.V]) (a:=c) (fun a b e=>by simp only[zi,zF,O.agg.injEq]at e;exact QX e) h
@[simp]theorem Hd(Y:Hp)(c:Cnd):qm Y c.V=some (c.V,Y):=by rw[qH];simp
theorem Yz(Y:Hp)(c:Cnd):z7 Y (.agg c.V)=some (.agg c.V,Y):=by rw[qH];simp
theorem X5(c:Cnd):O.noOwn (.agg c.V)=true:=by rw[qH];simp
theorem rP(out:Cnd->O)(n:Nat)(c:Cnd)(Y:Hp)(Z:Nat)(h:c.cb<=zD/\c.cb<=n):hP (FC out n) [.agg c.V] Y Z=some (out c,Y,Z):=
 wL (Y1:=Y) (show zz Y [.agg c.V]=some ([.agg c.V],Y) by simp only[zz,Yz]) (zgi out n c h) (.inr (by simp only[yC,X5,s9,gh]))
theorem iP{out:Cnd->O}{n:Nat}{args:zb}{r:O}(h:FC out n args=some r):∃c:Cnd,args=[.agg c.V]/\(c.cb<=zD/\c.cb<=n)/\r=out c:=qc h
theorem oG(c:Cnd):0<c.parts:=by rw[VT];omega
theorem iQ:∀{l:List Cnd} {x:Cnd},x∈l->x.parts<=jE l
 |y::l,x,h=>by
  simp only[jE];rcases zx.1 h with rfl|h
  ·omega
  ·have:=iQ h;omega
theorem iR:∀l:List Cnd,l.length<=jE l
 |[]=>by simp
 |c::l=>by have:=iR l;have:=oG c;simp only[jE,ze];omega
noncomputable def FCp (out:Cnd->O) (n:Nat):zb->Option O:=qt (α:=Cnd) (fun c=>[.agg c.V]) (fun c=>c.parts<=zD/\c.parts<=n) out
theorem Mx(out:Cnd->O)(n:Nat)(c:Cnd)(h:c.parts<=zD/\c.parts<=n):FCp out n [.agg c.V]=some (out c):=
 qj (V:=fun c:Cnd=>[.agg c.V]) (a:=c) (fun a b e=>by simp only[zi,zF,O.agg.injEq]at e;exact QX e) h
theorem My(out:Cnd->O)(n:Nat)(c:Cnd)(Y:Hp)(Z:Nat)(h:c.parts<=zD/\c.parts<=n):hP (FCp out n) [.agg c.V] Y Z=some (out c,Y,Z):=
 wL (Y1:=Y) (show zz Y [.agg c.V]=some ([.agg c.V],Y) by simp only[zz,Yz]) (Mx out n c h) (.inr (by simp only[yC,X5,s9,gh]))
theorem He{dr:Prop}{P:Program}{f:FuncId}{a:Bool}{b:List Nat}{F c:zb->Option O}(h:∀args r,F args=some r->c args=some r)(hs:jl dr P f (yS a b c)):jl dr P f (yS a b F):=
 ⟨hs.1,fun args Y Z r Y' Z' e=>hs.2 args Y Z r Y' Z' (by
  try unfold hP at e⊢
  unfold yS at e⊢;split at e
  ·split at e
   ·rename_i d;simp only[h _ _ d];exact e
   ·cases e
  ·cases e)⟩
theorem zcl(out:Cnd->O)(n:Nat):∀args r,FC out n args=some r->FCp out zD args=some r:=fun args r h=>by obtain⟨c,rfl,⟨a,_⟩,rfl⟩:=qc h;have:=Hc c;exact Mx out zD c ⟨by omega,by omega⟩
theorem Sl{out:Cnd->O}{f:FuncId}(a:∃fn,prog.funcs[f]?=some fn/\(fn.name== "runtime.NumGoroutine")=false/\fn.body.isNone=false):zh prog f (hP (FC out 0)):=by
 refine⟨a,fun args Y Z r Y' Z' h=>?_⟩
 try unfold hP at h
 unfold yS at h;split at h
 ·split at h
  ·rename_i r0 b;obtain⟨c,_,d,_⟩:=iP b;have:=iN c;omega
  ·cases h
 ·cases h
noncomputable abbrev GC (out:Cnd->O):AM.Spec:=hP (FC out zD)
theorem J0(out:Cnd->O)(c:Cnd)(Y:Hp)(Z:Nat)(h:c.cb<=zD):GC out [.agg c.V] Y Z=some (out c,Y,Z):=rP out zD c Y Z ⟨h,h⟩
theorem iS(sep:za):∀(k:Nat) (s p:za),p∈Lib.splitK sep 0 k s->p.length<=s.length
 | 0,s,p,h=>by simp[Lib.splitK]at h;rw[h];exact zk _
 |k+1,s,p,h=>by
  unfold Lib.splitK at h;split at h
  ·simp at h;rw[h];exact zk _
  ·rcases zx.1 h with rfl|h
   ·simp;omega
   ·have:=iS sep k _ p h;simp at this;omega
theorem iT(sep:za):∀(k:Nat) (s:za),(Lib.splitK sep 0 k s).length<=k+1
 | 0,s=>by simp[Lib.splitK]
 |k+1,s=>by
  unfold Lib.splitK;split
  ·simp
  ·have:=iT sep k (s.drop ((Lib.index s sep).toNat+sep.length));simp;omega
theorem W5{s sep p:za}(h:p∈qT s sep):p.length<=s.length:=iS _ _ _ _ h
theorem W6{s sep:za}(h:sep≠[]):(qT s sep).length<=s.length+1:=by have a:=iT sep (Lib.count s sep) s;have b:=oD (s:=s) h;exact zM a (by omega)
theorem zcm(s sep:za):(Lib.cut s sep).1.length<=s.length/\(Lib.cut s sep).2.1.length<=s.length:=by
 unfold Lib.cut;split
 ·simp;omega
 ·simp
noncomputable def rQ (f:za->O):zb->Option O:=qt (α:=za) (fun l=>[str l]) (fun l=>l.length+1<=zD) f
theorem VU(f:za->O)(l:za)(Y:Hp)(Z:Nat)(h:l.length+1<=zD):hP (rQ f) [str l] Y Z=some (f l,Y,Z):=
 aK l _ _ rfl (fun a b e=>by simp only[zi,zF]at e;exact wT e) h (.inr (by simp))
def B0:vh:=⟨0,0,0,[]⟩
def oH(t:za):List za:=if(Lib.cut t [45]).2.2 then qT (Lib.cut t [45]).2.1 [46]else[]
def E4(t:za):Option vh:=match qT (Lib.cut t [45]).1 [46]with
 |[d,e,f]=>match JX d,JX e,JX f with
  |some a,some b,some c=>if JY ⟨a,b,c,oH t⟩=0 then some ⟨a,b,c,oH t⟩else none
  |_,_,_=>none
 |_=>none
def E5(t:za):O:=match E4 t with
 |some v=>.qZ [.agg v.V,int 0]
 |none=>.qZ [.agg B0.V,int 10]
noncomputable abbrev Crv:Ctx:=qf prog [(150,hP (WY nq fun _ _=>True)),(28,j5 [] I1),(188,hP (FSP bw)),(204,wE [.g WZ] (FVr fun v=>int (JY v)))]
theorem zcn:Gd Crv:=qD mixed ⟨iq,ZO,Wq,X4,trivial⟩
theorem VV(l:za)(Y:Hp)(Z:Nat)(h:l.length<=zD):hP (FSP bw) [str l] Y Z=some (.qZ [int ((JX l).getD 0),q6 (JX l).isSome],Y,Z):=iK bw l Y Z h rfl
theorem zgj{α:Type}{l:List α}(h:l.length=3):∃a b c,l=[a,b,c]:=by
 match l,h with
 |[a,b,c],_=>exact⟨a,b,c,rfl⟩
theorem cV(t:za)(M:t.length+1<=zD):∃r0,zH Crv f187 [str t]=some r0/\yY r0 (E5 t):=by
 refine vW (sh:=.g WZ) rfl ?_;have I:=zcm t [45];have m:=fun Y Z=>im t [45] Y Z (by omega) (by decide)
 have r:=fun Y Z=>ZF (Lib.cut t [45]).1 [46] Y Z (by omega) (by decide) (by decide)
 have o:=fun Y Z=>ZF (Lib.cut t [45]).2.1 [46] Y Z (by omega) (by decide) (by decide)
 have h:∀p∈qT (Lib.cut t [45]).1 [46],p.length<=zD:=fun p Y=>by have:=W5 Y;omega
 have A:∀p∈qT (Lib.cut t [45]).2.1 [46],p.length<=zD:=fun p Y=>by have:=W5 Y;omega
 have B:(qT (Lib.cut t [45]).2.1 [46]).length<=zD:=by have:=W6 (s:=(Lib.cut t [45]).2.1) (sep:=[46]) (by simp);omega
 by_cases y:(qT (Lib.cut t [45]).1 [46]).length=3
 ·obtain⟨C,D,E,d⟩:=zgj y;rw[d]at r h;have i:=fun Y Z=>VV C Y Z (h C (by simp))
  have j:=fun Y Z=>VV D Y Z (h D (by simp))
  have k:=fun Y Z=>VV E Y Z (h E (by simp))
  simp[m,r];rw[qx];cases l:JX C with
  |none=>rw[l]at i;simp[i,E5,E4,d,l,qi,qJ,wJ,B0,vh.V,f187]
  |some a=>
   rw[l]at i;simp[i];rw[qx];cases q:JX D with
   |none=>rw[q]at j;simp[j,E5,E4,d,l,q,qi,qJ,wJ,B0,vh.V,f187]
   |some b=>
    rw[q]at j;simp[j];rw[qx];cases u:JX E with
    |none=>rw[u]at k;simp[k,E5,E4,d,l,q,u,qi,qJ,wJ,B0,vh.V,f187]
    |some c=>
     rw[u]at k;simp[k];rw[qx];simp[qi,qJ];have F:(⟨a,b,c,[]⟩:vh).small:=⟨by simp,by simp⟩;have G:(⟨a,b,c,qT (Lib.cut t [45]).2.1 [46]⟩:vh).small:=⟨B,A⟩;cases z:(Lib.cut t [45]).2.2
     ·have f:=fun Y Z=>uH (fun v=>int (JY v)) ⟨a,b,c,[]⟩ (.agg [int a,int b,int c,.nil]) Y Y Z _ rfl rfl F rfl
      by_cases w:JY ⟨a,b,c,[]⟩=0
      ·simp[f,w,E5,E4,oH,d,l,q,u,z,wJ,vh.V,f187]
      ·have x:=Xo w;simp[f,w,x,E5,E4,oH,d,l,q,u,z,qi,qJ,wJ,B0,vh.V,f187]
     ·have f:∀(Y:Hp) (Z id n:Nat),Y id=some ⟨9,1,true,zA (qT (Lib.cut t [45]).2.1 [46])⟩->n=(qT (Lib.cut t [45]).2.1 [46]).length->wE [.g WZ] (FVr fun v=>int (JY v)) [.agg [int a,int b,int c,.own id 0 n]] Y Z=some (int (JY ⟨a,b,c,qT (Lib.cut t [45]).2.1 [46]⟩),Y,Z):=by intro Y Z id n J K;subst K;exact uH (fun v=>int (JY v)) ⟨a,b,c,qT (Lib.cut t [45]).2.1 [46]⟩ _ Y (zI Y id none) Z (.agg [int a,int b,int c,.sl 1 (zA (qT (Lib.cut t [45]).2.1 [46]))]) (by simp[J]) rfl G rfl
      by_cases w:JY ⟨a,b,c,qT (Lib.cut t [45]).2.1 [46]⟩=0
      ·simp[o,f,w,E5,E4,oH,d,l,q,u,z,wJ,vh.V,f187]
      ·have x:=Xo w;simp[o,f,w,x,E5,E4,oH,d,l,q,u,z,qi,qJ,wJ,B0,vh.V,f187]
 ·have H:(((qT (Lib.cut t [45]).1 [46]).length:Int) != 3)=true:=by simp;omega
  have L:E4 t=none:=by
   unfold E4;split
   ·rename_i e;rw[e]at y;simp at y
   ·rfl
  simp[m,r,H,y,E5,L,qi,qJ,wJ,B0,vh.V,f187]
theorem bB:zh prog 187 (hP (rQ E5)):=
 ie (fn:=f187) zcn (yt func187) false [] _ fun args r h w S vs a=>by obtain⟨l,rfl,Y,rfl⟩:=qc h;obtain⟨r0,b,c⟩:=cV l Y;exact⟨_,r0,a,by simp[f187],b,c⟩
structure Part where
 n0:Int
 n1:Int
 n2:Int
 has:Int
 pre:List (List UInt8)
def Part.V(p:Part):zb:=[int p.n0,int p.n1,int p.n2,int p.has,.sl 1 (zA p.pre)]
abbrev K4:List (Option Nat):=[none,none,none,none,some 1]
def xY:Part:=⟨0,0,0,0,[]⟩
def Part.put(p:Part)(i:Nat)(n:Int):Part:=match i with
 | 0=>{p with n0:=n,has:=p.has+1}
 | 1=>{p with n1:=n,has:=p.has+1}
 |_=>{p with n2:=n,has:=p.has+1}
def j6(p:Part)(i:Nat)(t:za):Option Part:=if(JX t).isSome=true/\p.has=i then some (p.put i ((JX t).getD 0))else if ZP t=true/\i≠0 then some p else none
def xz:Part->Nat->List za->Option Part
 |p,_,[]=>some p
 |p,i,t::l=>match j6 p i t with
  |some q=>xz q (i+1) l
  |none=>none
def qd(t:za):Part×Bool:=if Lib.contains t [45]=true then(match E4 t with
    |some v=>(⟨v.a,v.b,v.c,3,v.pre⟩,true)
    |none=>(⟨0,0,0,3,[]⟩,false))
 else if 3<(qT t [46]).length then(xY,false)else match xz xY 0 (qT t [46])with
  |some p=>(p,true)
  |none=>(xY,false)
def jX(t:za):O:=.qZ [.agg (qd t).1.V,q6 (qd t).2]
noncomputable abbrev Crpv:Ctx:=qf prog [(186,hP (WY R8 fun _ _=>True)),(187,hP (rQ E5)),(28,j5 [] I1),(188,hP (FSP bw)),(162,hP (FS ZP))]
theorem zco:AM.Good Crpv (fun g=>[162].contains g):=qI mixed ⟨il,by simp,bB,by simp,ZO,by simp,Wq,by simp,iJ,fun _=>zq _ _,trivial⟩
theorem Mz(a b:za)(Y:Hp)(Z:Nat)(h:a.length<=zD)(c:b.length<=zD):hP (WY R8 fun _ _=>True) [str a,str b] Y Z=some (q6 (Lib.contains a b),Y,Z):=Z6 _ _ a b Y Z h c trivial rfl
def Part.raw(p:Part):zb:=[int p.n0,int p.n1,int p.n2,int p.has,.nil]
theorem nw{p:Part}{k:Nat}{l:List za}(h:k<l.length):xz p k (l.drop k)=match j6 p k l[k]with
  |some q=>xz q (k+1) (l.drop (k+1))
  |none=>none:=by
 rw[zg h];rfl
theorem cW(t:za)(S:t.length+1<=zD):∃r0,zH Crpv f160 [str t]=some r0/\yY r0 (jX t):=by
 refine vW (sh:=.g K4) rfl ?_;have A:=fun Y Z=>Mz t [45] Y Z (by omega) (by decide)
 cases H:Lib.contains t [45]
 ·have I:=fun Y Z=>ZF t [46] Y Z (by omega) (by decide) (by decide)
  have D:∀p∈qT t [46],p.length<=zD:=fun p Y=>by have:=W5 Y;omega
  by_cases L:3<(qT t [46]).length
  ·have E:(3:Int)<(qT t [46]).length:=by omega
   simp[A,H,I,L,E,jX,qd,qi,qJ,wJ,xY,Part.V,f160]
  have E:¬(3:Int)<(qT t [46]).length:=by omega
  simp[A,H,I,L,E];obtain⟨l,M⟩:=yb (qT t [46]);rw[M]at D L;have e:qd t=match xz xY 0 l with
   |some p=>(p,true)
   |none=>(xY,false):=by
   unfold qd;rw[zj (by rw[H];simp),M,zj L]
   try rfl
  simp only[M];refine qu (fun k σ Y Z=>∃p:Part,p.pre=[]/\σ 2=.ref 0 0 0/\σ 7=.ref 2 0 0/\σ 37=.own 1 0 l.length/\σ 38=int l.length/\σ 39=int k/\p.has<=k/\0<=p.has /\
    Y 0=some ⟨197,5,false,[xY.raw]⟩/\Y 1=some ⟨9,1,true,zA l⟩/\Y 2=some ⟨197,5,false,[p.raw]⟩/\xz xY 0 l=xz p k (l.drop k)) l.length
   ⟨xY,rfl,by simp,by simp,by simp,by simp,by simp,by simp[xY],by simp[xY],by simp[xY,Part.raw],by simp,by simp[xY,Part.raw],by simp⟩ ?_
  rintro k σ Y Z T ⟨p,F,u,w,f,h,i,N,G,x,y,z,j⟩;by_cases b:k<l.length
  ·have B:=fun Y Z=>VV l[k] Y Z (D _ (zo b))
   have C:=fun Y Z=>Zu ZP l[k] Y Z (D _ (zo b))
   have J:=q8 k;have P:=wN (p.has+1);rw[nw b]at j;have Q:k=0\/k=1\/k=2:=by omega
   obtain⟨n0,n1,r,a,pre⟩:=p;simp only at F N G P;subst F;cases q:(JX l[k]).isSome
   ·cases c:ZP l[k]
    ·have hs:j6 ⟨n0,n1,r,a,[]⟩ k l[k]=none:=by simp[j6,q,c]
     rw[hs]at j;rw[j]at e;simp[u,w,f,h,i,x,y,z,b,B,C,q,c,jX,e,qi,qJ,wJ,xY,Part.raw,Part.V,f160]
    ·by_cases m:k=0
     ·subst m;have hs:j6 ⟨n0,n1,r,a,[]⟩ 0 l[0]=none:=by simp[j6,q]
      rw[hs]at j;rw[j]at e;simp[u,w,f,h,i,x,y,z,b,B,C,q,c,jX,e,qi,qJ,wJ,xY,Part.raw,Part.V,f160]
     ·have hs:j6 ⟨n0,n1,r,a,[]⟩ k l[k]=some ⟨n0,n1,r,a,[]⟩:=by simp[j6,q,c,m]
      have s:((k:Int)==0)=false:=by simpa using m
      rw[hs]at j;simp[u,w,f,h,i,x,y,z,b,B,C,q,c,J,s,m];exact⟨b,⟨n0,n1,r,a,[]⟩,rfl,Int.le_trans N (by omega),G,rfl,j⟩
   ·by_cases d:a=k
    ·have hs:j6 ⟨n0,n1,r,a,[]⟩ k l[k]=some ((⟨n0,n1,r,a,[]⟩:Part).put k ((JX l[k]).getD 0)):=by simp[j6,q,d]
     rw[hs]at j;rcases Q with rfl|rfl|rfl
     ·obtain rfl:a=0:=by simpa using d
      have n:(0:Int)<(l.length:Int):=by omega
      simp[u,w,f,h,i,x,y,z,b,n,B,C,q,J,Part.raw];refine⟨b,_,?_,?_,?_,?_,(by simpa using j)⟩<;>simp[Part.put]
     ·obtain rfl:a=1:=by simpa using d
      have n:(1:Int)<(l.length:Int):=by omega
      simp[u,w,f,h,i,x,y,z,b,n,B,C,q,J,Part.raw];refine⟨b,_,?_,?_,?_,?_,(by simpa using j)⟩<;>simp[Part.put]
     ·obtain rfl:a=2:=by simpa using d
      have n:(2:Int)<(l.length:Int):=by omega
      simp[u,w,f,h,i,x,y,z,b,n,B,C,q,J,Part.raw];refine⟨b,_,?_,?_,?_,?_,(by simpa using j)⟩<;>simp[Part.put]
    ·cases c:ZP l[k]
     ·have hs:j6 ⟨n0,n1,r,a,[]⟩ k l[k]=none:=by simp[j6,q,c,d]
      have o:(a==(k:Int))=false:=by simpa using d
      rw[hs]at j;rw[j]at e;simp[u,w,f,h,i,x,y,z,b,B,C,q,c,o,jX,e,qi,qJ,wJ,xY,Part.raw,Part.V,f160]
     ·by_cases m:k=0
      ·subst m;have hs:j6 ⟨n0,n1,r,a,[]⟩ 0 l[0]=none:=by simp[j6,d];intro _;exact d
       have o:(a==0)=false:=by simpa using d
       rw[hs]at j;rw[j]at e;simp[u,w,f,h,i,x,y,z,b,B,C,q,c,o,jX,e,qi,qJ,wJ,xY,Part.raw,Part.V,f160]
      ·have hs:j6 ⟨n0,n1,r,a,[]⟩ k l[k]=some ⟨n0,n1,r,a,[]⟩:=by simp[j6,q,c,m,d]
       have s:((k:Int)==0)=false:=by simpa using m
       have o:(a==(k:Int))=false:=by simpa using d
       rw[hs]at j;simp[u,w,f,h,i,x,y,z,b,B,C,q,c,J,s,m,o,Part.raw];exact⟨b,⟨n0,n1,r,a,[]⟩,rfl,Int.le_trans N (by omega),G,⟨rfl,rfl,rfl,rfl⟩,j⟩
  ·obtain rfl:k=l.length:=by omega
   rw[zp]at j;simp only[xz]at j;rw[j]at e;simp[u,w,f,h,i,x,y,z,jX,e,F,wJ,Part.raw,Part.V,f160]
 ·have K:=fun Y Z=>VU E5 t Y Z S
  cases R:E4 t with
  |none=>simp[A,H,K,E5,R,jX,qd,qi,qJ,wJ,B0,vh.V,Part.V,f160]
  |some v=>simp[A,H,K,E5,R,jX,qd,qi,qJ,wJ,vh.V,Part.V,f160]
theorem bC:zh prog 160 (hP (rQ jX)):=
 ie (fn:=f160) zco (yt func160) false [] _ fun args r h w S vs a=>by obtain⟨l,rfl,Y,rfl⟩:=qc h;obtain⟨r0,b,c⟩:=cW l Y;exact⟨_,r0,a,by simp[f160],b,c⟩
def X6(e s:Nat):zb->Option (Option Blk)
 |[.nil]=>some none
 |[.em]=>some (some ⟨e,s,true,[]⟩)
 |[.sl a es]=>if a=s/\es≠[]/\es.length<=zD then some (some ⟨e,s,true,es⟩)else none
 |_=>none
def cutB(s:Int×Bool):Bool:=s.2||decide (1000<s.1)
def za7(s r:Int×Bool):Int×Bool:=if cutB s then s else(s.1+r.1,s.2||r.2)
mutual
def Val.rp:Val->Int->Int×Bool
 | .mk _ _ _ a b,l=>rpF b l (rpV a l (1,decide (8<l)))
def rpV:List Val->Int->Int×Bool->Int×Bool
 |[],_,s=>s
 |v::vs,l,s=>rpV vs l (za7 s (v.rp (l+1)))
def rpF:List (za×Val)->Int->Int×Bool->Int×Bool
 |[],_,s=>s
 |(_,v)::vs,l,s=>rpF vs l (za7 s (v.rp (l+1)))
end
def MA(xs:List Val):Nat:=(xs.map Val.parts).sum
def rR:List Val->Nat
 |[]=>0
 |v::l=>max v.levels (rR l)
structure RP (xs:List Val) (l:Int) (s r:Int×Bool):Prop where
 lo:s.1<=r.1
 hi:r.1<=s.1+MA xs
 deep:r.2=true->s.2=true\/8<l+(rR xs:Int)
 all:cutB r=false->r.1=s.1+MA xs/\(xs≠[]->l+(rR xs:Int)<=8)
def yO(a b:Int):Int:=if a<b then -1 else if b<a then 1 else 0
def F2I(f:Int->Int->Int):zb->Option O
 |[.v (.int .i64 a),.v (.int .i64 b)]=>some (int (f a b))
 |_=>none
theorem Sm{f:Int->Int->Int}{args:zb}{r:O}(h:F2I f args=some r):∃a b,args=[int a,int b]/\r=int (f a b):=by
 unfold F2I at h;split at h
 ·injection h with h;exact⟨_,_,rfl,h.symm⟩
 ·cases h
@[simp]theorem zgk(f:Int->Int->Int)(a b:Int)(Y:Hp)(Z:Nat):hP (F2I f) [.v (.int .i64 a),.v (.int .i64 b)] Y Z=some (int (f a b),Y,Z):=wL rfl rfl (.inl rfl)
def rS:zb->Option O
 |[.v (.int .i64 _)]=>some (q6 false)
 |_=>none
@[simp]theorem za8(a:Int)(Y:Hp)(Z:Nat):hP rS [.v (.int .i64 a)] Y Z=some (q6 false,Y,Z):=wL rfl rfl (.inl rfl)
theorem rT:zh prog 155 (hP rS):=
 kq (fn:=f155) ku (yt func155) false [] _ fun args r h=>by
  unfold rS at h;split at h
  ·injection h with h;subst h;exact⟨by simp[f155],_,zs rfl (by simp[f155]),qP _⟩
  ·cases h
noncomputable abbrev Cnn:Ctx:=qf prog [(155,hP rS)]
theorem zcp:AM.Good Cnn (fun g=>[155].contains g):=qI mixed ⟨rT,fun _=>zq _ _,trivial⟩
theorem X7:zh prog 127 (hP (F2I yO)):=
 kq (fn:=f127) zcp (yt func127) false [] _ fun args r h=>by
  obtain⟨a,b,rfl,rfl⟩:=Sm h;refine⟨by simp[f127],_,zs rfl ?_,qP _⟩;unfold yO;by_cases c:a<b
  ·simp[c,f127]
  ·by_cases d:b<a
   ·simp[c,d,f127]
   ·simp[c,d,f127]
noncomputable def Sn (f:za->za->Int):zb->Option O:=qt (α:=za×za) (fun a=>[str a.1,str a.2]) (fun _=>True) (fun a=>int (f a.1 a.2))
@[simp]theorem zgl(f:za->za->Int)(a b:za)(Y:Hp)(Z:Nat):hP (Sn f) [str a,str b] Y Z=some (int (f a b),Y,Z):=
 aK (a,b) _ _ rfl (fun a b e=>by obtain⟨c,d⟩:=a;obtain⟨g,h⟩:=b;simp only[zi,zF]at e;rw[wT e.1,wT e.2]) trivial (.inl rfl)
@[simp]theorem zew(a:Int):yO a a=0:=by simp[yO]
noncomputable abbrev jU:=Lib.compareBytes
theorem ff:zh prog 121 (hP (Sn jU)):=
 rE ⟨_,func121,by kernel_rfl,by kernel_rfl⟩ fun args r h=>by obtain⟨⟨a,b⟩,rfl,_,rfl⟩:=qc h;exact⟨[.string ⟨a.toArray⟩,.string ⟨b.toArray⟩],rfl,by simp[lit],_,rfl,rfl,fun w=>by simpa using Tryz.bytealg_CompareString ⟨a.toArray⟩ ⟨b.toArray⟩ w⟩
noncomputable abbrev Cstr:Ctx:=qf prog [(121,hP (Sn jU))]
theorem vn:zh prog 92 (hP (Sn jU)):=
 Z3 (qD mixed ⟨ff,trivial⟩:AM.Good Cstr _) func92 false [] fun⟨a,b⟩ _=>⟨by simp[f92],_,zs rfl (by simp[f92]),qP _⟩
def iU:List Int->Int
 |[]=>0
 |n::l=>if n=0 then iU l else n
def X8(l:List Int):List zb:=l.map fun n=>[int n]
@[simp]theorem za9(l:List Int):(X8 l).length=l.length:=by simp[X8]
@[simp]theorem zhP{l:List Int}{k:Nat}(h:k<(X8 l).length):(X8 l)[k]=[int (l[k]'(by simpa using h))]:=by simp[X8]
theorem MB{a b:List Int}(h:X8 a=X8 b):a=b:=jJ (fun x y e=>by simp only[zi,zF]at e;exact qE e) h
noncomputable def FOr:zb->Option O:=qt (α:=List Int) (fun l=>[.sl 1 (X8 l)]) (fun l=>l.length<=zD) (fun l=>int (iU l))
theorem Sq(l:List Int)(i:l.length<=zD):zH C0 f156 [.sl 1 (X8 l)]=some (int (iU l)):=by
 refine zs rfl ?_;unfold zD at i;simp;refine qu (fun k σ Y Z=>σ 3=int 0/\σ 6=.sl 1 (X8 l)/\σ 7=int l.length/\σ 8=int k/\iU l=iU (l.drop k)) l.length ⟨by simp,by simp,by simp,by simp,by simp⟩ ?_;rintro k σ Y Z m ⟨d,e,f,g,b⟩;by_cases a:k<l.length
 ·have j:=q8 k;rw[zg a]at b;simp only[iU]at b;by_cases c:l[k]=0
  ·rw[zl c]at b;simp[d,e,f,g,a,c,j];exact⟨a,b⟩
  ·rw[zj c]at b;have h:=Xo c;simp[d,e,f,g,a,h,b,f156]
 ·obtain rfl:k=l.length:=by omega
  rw[zp]at b;simp[d,e,f,g,b,iU,f156]
theorem iV:zh prog 156 (hP FOr):=
 Z3 ku func156 false [] fun l Y=>⟨by simp[f156],_,Sq l Y,qP _⟩
theorem rU(l:List Int)(Y:Hp)(Z id:Nat)(e:Nat)(h:l.length<=zD)(c:Y id=some ⟨e,1,true,X8 l⟩):hP FOr [.own id 0 l.length] Y Z=some (int (iU l),Y,Z):=by have d:(X8 l).take l.length=X8 l:=qy (by simp);refine wL (show zz Y [.own id 0 l.length]=some ([.sl 1 (X8 l)],zI Y id none) by simp[c,d]) ?_ (.inl rfl);exact qj (V:=fun l:List Int=>[O.sl 1 (X8 l)]) (a:=l) (fun a b e=>by simp only[zi,zF]at e;injection e with _ e;exact MB e) h
def XF(l:za):Bool:=!l.isEmpty&&QG l
noncomputable def jw (a b:za):Int:=if XF a=true then(if XF b=true then iU [yO (Lib.trimLeftB a 48).length (Lib.trimLeftB b 48).length,jU (Lib.trimLeftB a 48) (Lib.trimLeftB b 48)]else -1)else if XF b=true then 1 else jU a b
noncomputable abbrev Ccp:Ctx:=qf prog [(230,hP (FS QG)),(238,hP (WY tlP fun _ b=>CZ b)),(127,hP (F2I yO)),(92,hP (Sn jU)),(156,hP FOr)]
theorem zcq:AM.Good Ccp (fun g=>[230].contains g):=qI mixed ⟨Wd,fun _=>zq _ _,ir,by simp,X7,by simp,vn,by simp,iV,by simp,trivial⟩
@[simp]theorem zhQ:yH Ccp 230:=wD (by rfl) (zq _ _)
theorem E6(a:za)(Y:Hp)(Z:Nat)(h:a.length<=zD):hP (WY tlP fun _ b=>CZ b) [str a,str [48]] Y Z=some (str (Lib.trimLeftB a 48),Y,Z):=Z6 _ _ a [48] Y Z h (by decide) ⟨48,rfl,by decide⟩ rfl
theorem fg(a b:za)(i:a.length<=zD)(j:b.length<=zD):zH Ccp f217 [str a,str b]=some (int (jw a b)):=by
 refine zs rfl ?_;have c:=fun Y Z=>Zu QG a Y Z i
 have d:=fun Y Z=>Zu QG b Y Z j
 have k:=fun Y Z=>E6 a Y Z i
 have tb:=fun Y Z=>E6 b Y Z j
 have e:(!a.isEmpty&&QG a)=XF a:=rfl;have f:(!b.isEmpty&&QG b)=XF b:=rfl;cases g:XF a<;>cases h:XF b
 ·simp[c,d,e,f,g,h,jw,f217]
 ·simp[c,d,e,f,g,h,jw,f217]
 ·simp[c,d,e,f,g,h,jw,f217]
 ·have l:∀(Y:Hp) (Z id:Nat),Y id=some ⟨3,1,true,[[int (yO (Lib.trimLeftB a 48).length (Lib.trimLeftB b 48).length)],[int (jU (Lib.trimLeftB a 48) (Lib.trimLeftB b 48))]]⟩->hP FOr [.own id 0 2] Y Z=some (int (iU [yO (Lib.trimLeftB a 48).length (Lib.trimLeftB b 48).length,jU (Lib.trimLeftB a 48) (Lib.trimLeftB b 48)]),Y,Z):=fun Y Z id m=>rU [_,_] Y Z id _ (by show 2<=zD;decide) m
  simp[c,d,k,tb,e,f,g,h,l,zy,zR,zw,jw,f217]
theorem cX:zh prog 217 (hP (WY (fun a b=>int (jw a b)) fun _ _=>True)):=
 kq (fn:=f217) zcq (yt func217) false [] _ fun args r h=>by obtain⟨a,b,rfl,c,d,_,rfl⟩:=xM h;exact⟨by simp[f217],_,fg a b c d,qP _⟩
theorem Hf(a b:za)(Y:Hp)(Z:Nat)(h:a.length<=zD)(c:b.length<=zD):hP (WY (fun a b=>int (jw a b)) fun _ _=>True) [str a,str b] Y Z=some (int (jw a b),Y,Z):=Z6 _ _ a b Y Z h c trivial rfl
def jg{α:Type}(c:α->α->Int):List α->List α->Int
 |[],[]=>0
 |[],_::_=>-1
 |_::_,[]=>1
 |x::a,y::b=>if c x y=0 then jg c a b else c x y
noncomputable abbrev Ccf:Ctx:=qf prog [(217,hP (WY (fun a b=>int (jw a b)) fun _ _=>True))]
theorem zcr:Gd Ccf:=qD mixed ⟨cX,trivial⟩
def x4(l:List za):Prop:=l.length<=zD/\∀p∈l,p.length<=zD
theorem bD(a b:List za)(o:x4 a)(p:x4 b):zH Ccf f216 [.sl 1 (zA a),.sl 1 (zA b),.fn (.func 217) [] []]=some (int (jg jw a b)):=by
 refine zs rfl ?_;obtain⟨o,q⟩:=o;obtain⟨p,r⟩:=p;unfold zD at o p;simp;refine qu (fun k σ Y Z=>σ 0=.sl 1 (zA a)/\σ 1=.sl 1 (zA b)/\σ 2=.fn (.func 217) [] []/\σ 11=.sl 1 (zA a)/\σ 12=int a.length/\σ 13=int k/\k<=b.length/\jg jw a b=jg jw (a.drop k) (b.drop k)) a.length
  ⟨by simp,by simp,by simp,by simp,by simp,by simp,by simp,by simp⟩ ?_
 rintro k σ Y Z y ⟨j,l,m,f,g,h,v,c⟩;by_cases d:k<a.length
 ·have w:=q8 k;by_cases e:k<b.length
  ·have i:¬b.length<=k:=by omega
   have u:=fun Y Z=>Hf a[k] b[k] Y Z (q _ (zo d)) (r _ (zo e))
   rw[zg d,zg e]at c;simp only[jg]at c;by_cases n:jw a[k] b[k]=0
   ·rw[zl n]at c;simp[j,l,m,f,g,h,d,e,i,u,n,w];exact⟨d,by omega,c⟩
   ·rw[zj n]at c;have s:=Xo n;simp[j,l,m,f,g,h,d,e,i,u,s,c,f216]
  ·obtain rfl:k=b.length:=by omega
   rw[zg d,zp]at c;simp only[jg]at c;simp[j,l,m,f,g,h,d,c,f216]
 ·obtain rfl:k=a.length:=by omega
  rw[zp]at c;by_cases t:a.length<b.length
  ·rw[zg t]at c;simp only[jg]at c;simp[j,l,m,f,g,h,t,c,f216]
  ·rw[cC (by omega)]at c;simp only[jg]at c;have x:¬((a.length:Int)<b.length):=by omega
   simp[j,l,m,f,g,h,t,c,f216]
noncomputable def FCf:zb->Option O:=qt (α:=List za×List za) (fun a=>[.sl 1 (zA a.1),.sl 1 (zA a.2),.fn (.func 217) [] []]) (fun a=>x4 a.1/\x4 a.2) (fun a=>int (jg jw a.1 a.2))
theorem zcs:∀a b:List za×List za,[O.sl 1 (zA a.1),.sl 1 (zA a.2),.fn (.func 217) [] []]=[.sl 1 (zA b.1),.sl 1 (zA b.2),.fn (.func 217) [] []]->a=b:=by rintro⟨f,g⟩ ⟨h,i⟩ e;simp only[zi,zF]at e;obtain⟨c,d⟩:=e;injection c with _ c;injection d with _ d;rw[kC c,kC d]
theorem X9:zh prog 216 (hP FCf):=
 Z3 zcr func216 false [] fun⟨a,b⟩ ⟨c,d⟩=>⟨by simp[f216],_,bD a b c d,qP _⟩
theorem Sr(a b:List za)(Y:Hp)(Z:Nat)(c:x4 a)(d:x4 b):hP FCf [.sl 1 (zA a),.sl 1 (zA b),.fn (.func 217) [] []] Y Z=some (int (jg jw a b),Y,Z):=
 wL (Y1:=Y) (by simp) (qj (V:=fun a:List za×List za=>[O.sl 1 (zA a.1),.sl 1 (zA a.2),.fn (.func 217) [] []]) (a:=(a,b)) zcs ⟨c,d⟩) (.inl rfl)
noncomputable def Xc (v w:vh):Int:=if iU [yO v.a w.a,yO v.b w.b,yO v.c w.c]=0 then(if v.pre.length=0 then(if w.pre.length=0 then 0 else 1)else if w.pre.length=0 then -1 else jg jw v.pre w.pre)else iU [yO v.a w.a,yO v.b w.b,yO v.c w.c]
noncomputable abbrev Ccv:Ctx:=qf prog [(127,hP (F2I yO)),(156,hP FOr),(216,hP FCf)]
theorem zct:AM.Good Ccv (fun g=>[127,156].contains g):=qI mixed ⟨X7,fun _=>zq _ _,iV,fun _=>zq _ _,X9,by simp,trivial⟩
theorem K5(v w:vh)(t:v.small)(u:w.small):zH Ccv f192 [.agg v.V,.agg w.V]=some (int (Xc v w)):=by
 obtain⟨a,b,c,p⟩:=v;obtain⟨k,l,m,e⟩:=w;refine zs rfl ?_;have n:=fun Y Z=>Sr p e Y Z t u
 obtain⟨o,s⟩:=yb (iU [yO a k,yO b l,yO c m]);have d:∀(Y:Hp) (Z id:Nat),Y id=some ⟨3,1,true,[[int (yO a k)],[int (yO b l)],[int (yO c m)]]⟩->hP FOr [.own id 0 3] Y Z=some (int o,Y,Z):=fun Y Z id x=>s ▸ rU [_,_,_] Y Z id _ (by show 3<=zD;decide) x
 have j:Xc ⟨a,b,c,p⟩ ⟨k,l,m,e⟩=if o=0 then(if p.length=0 then(if e.length=0 then 0 else 1)else if e.length=0 then -1 else jg jw p e)else o:=by rw[<-s];rfl
 rw[j];by_cases q:o=0
 ·subst q;by_cases h:p.length=0<;>by_cases i:e.length=0
  ·simp[vh.V,d,zy,zR,zw,h,i,f192]
  ·have f:((e.length:Int)==0)=false:=by simpa using i
   simp[vh.V,d,zy,zR,zw,h,i,f,f192]
  ·have g:((p.length:Int)==0)=false:=by simpa using h
   simp[vh.V,d,zy,zR,zw,h,i,g,f192]
  ·have g:((p.length:Int)==0)=false:=by simpa using h
   have f:((e.length:Int)==0)=false:=by simpa using i
   simp[vh.V,d,zy,zR,zw,h,i,g,f,n,f192]
 ·have r:=Xo q;simp[vh.V,d,zy,zR,zw,q,r,f192]
noncomputable def FVV2 (f:vh->vh->O):zb->Option O:=qt (α:=vh×vh) (fun a=>[.agg a.1.V,.agg a.2.V]) (fun a=>a.1.small/\a.2.small) (fun a=>f a.1 a.2)
theorem zcu:∀a b:vh×vh,[O.agg a.1.V,.agg a.2.V]=[.agg b.1.V,.agg b.2.V]->a=b:=by rintro⟨f,g⟩ ⟨h,i⟩ e;simp only[zi,zF]at e;obtain⟨c,d⟩:=e;injection c with c;injection d with d;rw[bz c,bz d]
theorem KC:zh prog 192 (wE [.g WZ,.g WZ] (FVV2 fun v w=>int (Xc v w))):=
 jC (fn:=f192) zct (yt func192) _ _ fun args r h=>by obtain⟨⟨v,w⟩,rfl,⟨a,b⟩,rfl⟩:=qc h;exact⟨by simp[f192],_,K5 v w a b,yY.refl _⟩
theorem Ss(v w:vh)(Y:Hp)(Z:Nat)(b:v.small)(c:w.small):wE [.g WZ,.g WZ] (FVV2 fun v w=>int (Xc v w)) [.agg v.V,.agg w.V] Y Z=some (int (Xc v w),Y,Z):=
 xw (show zz Y [.agg v.V,.agg w.V]=some ([.agg v.V,.agg w.V],Y) by simp[vh.V]) (qj (V:=fun a:vh×vh=>[O.agg a.1.V,.agg a.2.V]) (a:=(v,w)) zcu ⟨b,c⟩) (.inl rfl)
structure Cut where
 v:vh
 after:Bool
def Cut.V(c:Cut):zb:=[int c.v.a,int c.v.b,int c.v.c,.sl 1 (zA c.v.pre),q6 c.after]
abbrev Z8:List (Option Nat):=[none,none,none,some 1,none]
theorem WL{a b:Cut}(h:a.V=b.V):a=b:=by obtain⟨⟨i,j,k,l⟩,m⟩:=a;obtain⟨⟨n,o,p,q⟩,r⟩:=b;simp only[Cut.V,zi,zF]at h;obtain⟨d,e,f,c,g⟩:=h;injection c with _ c;rw[qE d,qE e,qE f,kC c,WJ g]
noncomputable def W7 (a b:Cut):Int:=if Xc a.v b.v=0 then(if a.after=b.after then 0 else if b.after=true then -1 else 1)else Xc a.v b.v
noncomputable def Rt (f:Cut->Cut->O):zb->Option O:=qt (α:=Cut×Cut) (fun a=>[.agg a.1.V,.agg a.2.V]) (fun a=>a.1.v.small/\a.2.v.small) (fun a=>f a.1 a.2)
theorem MC:∀a b:Cut×Cut,[O.agg a.1.V,.agg a.2.V]=[.agg b.1.V,.agg b.2.V]->a=b:=by rintro⟨f,g⟩ ⟨h,i⟩ e;simp only[zi,zF]at e;obtain⟨c,d⟩:=e;injection c with c;injection d with d;rw[WL c,WL d]
noncomputable abbrev Ccu:Ctx:=qf prog [(192,wE [.g WZ,.g WZ] (FVV2 fun v w=>int (Xc v w)))]
theorem zcv:Gd Ccu:=qD mixed ⟨KC,trivial⟩
theorem cY(x y:Cut)(l:x.v.small)(m:y.v.small):zH Ccu f169 [.agg x.V,.agg y.V]=some (int (W7 x y)):=by
 obtain⟨⟨a,b,c,p⟩,f⟩:=x;obtain⟨⟨h,i,j,k⟩,f'⟩:=y;refine zs rfl ?_;have d:=fun Y Z=>Ss ⟨a,b,c,p⟩ ⟨h,i,j,k⟩ Y Z l m
 simp only[vh.V]at d;by_cases e:Xc ⟨a,b,c,p⟩ ⟨h,i,j,k⟩=0
 ·cases f<;>cases f'<;>simp[Cut.V,d,e,W7,f169]
 ·have g:=Xo e;simp[Cut.V,d,e,g,W7,f169]
theorem Z9:zh prog 169 (wE [.g Z8,.g Z8] (Rt fun v w=>int (W7 v w))):=
 jC (fn:=f169) zcv (yt func169) _ _ fun args r h=>by obtain⟨⟨v,w⟩,rfl,⟨a,b⟩,rfl⟩:=qc h;exact⟨by simp[f169],_,cY v w a b,yY.refl _⟩
theorem E7(x y:Cut)(u v:O)(Y:Hp)(Z:Nat)(b:(Sh.g Z8).fix u=.agg x.V)(c:(Sh.g Z8).fix v=.agg y.V)(d:zz Y [u,v]=some ([u,v],Y))(e:x.v.small)(f:y.v.small):wE [.g Z8,.g Z8] (Rt fun v w=>int (W7 v w)) [u,v] Y Z=some (int (W7 x y),Y,Z):=
 xw d (by show Rt _ [(Sh.g Z8).fix u,(Sh.g Z8).fix v]=_;rw[b,c];exact qj (V:=fun a:Cut×Cut=>[O.agg a.1.V,.agg a.2.V]) (a:=(x,y)) MC ⟨e,f⟩) (.inl rfl)
mutual
noncomputable def wz:Val->Val->Int
 | .mk k n s a b,w=>if k=w.kind then(if k=1\/k=2 then yO n w.n else if k=3 then jU s w.s else if k=4 then gr a w.items else if k=5 then gu b w.fields else 0)else yO k w.kind
noncomputable def gr:List Val->List Val->Int
 |[],[]=>0
 |[],_::_=>-1
 |_::_,[]=>1
 |a::xs,b::ys=>if wz a b=0 then gr xs ys else wz a b
noncomputable def gu:List (za×Val)->List (za×Val)->Int
 |[],[]=>0
 |[],_::_=>-1
 |_::_,[]=>1
 |(x,a)::xs,g::ys=>if iU [jU x g.1,wz a g.2]=0 then gu xs ys else iU [jU x g.1,wz a g.2]
end
noncomputable def vX (f g:za×Val):Int:=iU [jU f.1 g.1,wz f.2 g.2]
theorem iW:∀a b:List Val,gr a b=jg wz a b
 |[],[]=>rfl
 |[],_::_=>rfl
 |_::_,[]=>rfl
 |a::xs,b::ys=>by simp only[gr,jg,iW xs ys]
theorem iX:∀a b:List (za×Val),gu a b=jg vX a b
 |[],[]=>rfl
 |[],_::_=>rfl
 |_::_,[]=>rfl
 |(x,a)::xs,g::ys=>by simp only[gu,jg,iX xs ys,vX];rfl
theorem oI(a b:Val):wz a b=if a.kind=b.kind then(if a.kind=1\/a.kind=2 then yO a.n b.n else if a.kind=3 then jU a.s b.s else if a.kind=4 then jg wz a.items b.items else if a.kind=5 then jg vX a.fields b.fields else 0)else yO a.kind b.kind:=by
 cases a with
 |mk k n s e f=>
  cases b with
  |mk g h i c d=>simp only[wz,iW,iX,Val.kind,Val.n,Val.s,Val.items,Val.fields];rfl
noncomputable def FCV (n:Nat):zb->Option O:=qt (α:=Val×Val) (fun a=>[.agg a.1.V,.agg a.2.V]) (fun a=>a.1.vb<=zD/\a.1.vb<=n/\a.2.vb<=zD) (fun a=>int (wz a.1 a.2))
theorem K6(n:Nat)(a b:Val)(Y:Hp)(Z:Nat)(h:a.vb<=zD/\a.vb<=n/\b.vb<=zD):hP (FCV n) [.agg a.V,.agg b.V] Y Z=some (int (wz a b),Y,Z):=
 wL (Y1:=Y) (show zz Y [.agg a.V,.agg b.V]=some ([.agg a.V,.agg b.V],Y) by simp only[zz,QF])
  (qj (V:=fun a:Val×Val=>[.agg a.1.V,.agg a.2.V]) (a:=(a,b)) (fun x y e=>by obtain⟨c,d⟩:=x;obtain⟨f,g⟩:=y;simp only[zi,zF,O.agg.injEq]at e;rw[xN e.1,xN e.2]) h) (.inl rfl)
theorem VW{f:FuncId}{F:zb->Option O}(b:∃fn,prog.funcs[f]?=some fn/\(fn.name== "runtime.NumGoroutine")=false/\fn.body.isNone=false)(h:∀args r,F args=some r->False):zh prog f (hP F):=by
 refine⟨b,fun args Y Z r Y' Z' a=>?_⟩
 try unfold hP at a
 unfold yS at a;split at a
 ·split at a
  ·rename_i r0 c;exact(h _ _ c).elim
  ·cases a
 ·cases a
theorem QH{a b:za×Val}(h:wa a=wa b):a=b:=by obtain⟨c,d⟩:=a;obtain⟨e,f⟩:=b;simp only[wa,zi]at h;rw[wT h.1,xN h.2]
theorem VX{a b:List (za×Val)}(h:a.map wa=b.map wa):a=b:=jJ (fun _ _=>QH) h
theorem Jd{a b:List Val}(h:a.map Val.V=b.map Val.V):a=b:=jJ (fun _ _=>xN) h
noncomputable abbrev Ccfv (n:Nat):Ctx:=qf prog [(110,hP<|FCV n)]
theorem bE(n:Nat)(a b:List (Val))(p:kz a<=zD/\kz a<=n)(t:kz b<=zD):zH (Ccfv n) f128 [.sl 5 (a.map Val.V),.sl 5 (b.map Val.V),.fn (.func 110) [] []]=some (int (jg wz a b)):=by
 refine zs rfl ?_;obtain⟨p,u⟩:=p;have y:=kf a;have z:=kf b;unfold zD at p t;simp;refine qu (fun k σ Y Z=>σ 0=.sl 5 (a.map Val.V)/\σ 1=.sl 5 (b.map Val.V)/\σ 2=.fn (.func 110) [] []/\σ 11=.sl 5 (a.map Val.V)/\σ 12=int a.length/\σ 13=int k/\k<=b.length/\jg wz a b=jg wz (a.drop k) (b.drop k)) a.length
  ⟨by simp,by simp,by simp,by simp,by simp,by simp,by simp,by simp⟩ ?_
 rintro k σ Y Z A ⟨j,l,m,f,g,h,v,c⟩;by_cases d:k<a.length
 ·have w:=q8 k;by_cases e:k<b.length
  ·have i:¬b.length<=k:=by omega
   have B:=xh (zo d);have C:=xh (zo e);have s:=fun Y Z=>K6 n a[k] b[k] Y Z ⟨by unfold zD;omega,by omega,by unfold zD;omega⟩
   skip
   rw[zg d,zg e]at c;simp only[jg]at c;by_cases o:wz a[k] b[k]=0
   ·rw[zl o]at c;simp[j,l,m,f,g,h,d,e,i,s,o,w];exact⟨d,by omega,c⟩
   ·rw[zj o]at c;have q:=Xo o;simp[j,l,m,f,g,h,d,e,i,s,q,c,f128]
  ·obtain rfl:k=b.length:=by omega
   rw[zg d,zp]at c;simp only[jg]at c;simp[j,l,m,f,g,h,d,c,f128]
 ·obtain rfl:k=a.length:=by omega
  rw[zp]at c;by_cases r:a.length<b.length
  ·rw[zg r]at c;simp only[jg]at c;simp[j,l,m,f,g,h,r,c,f128]
  ·rw[cC (by omega)]at c;simp only[jg]at c;have x:¬((a.length:Int)<b.length):=by omega
   simp[j,l,m,f,g,h,r,c,f128]
noncomputable def FLV (n:Nat):zb->Option O:=qt (α:=List (Val)×List (Val)) (fun a=>[.sl 5 (a.1.map Val.V),.sl 5 (a.2.map Val.V),.fn (.func 110) [] []]) (fun a=>(kz a.1<=zD/\kz a.1<=n)/\kz a.2<=zD) (fun a=>int (jg wz a.1 a.2))
theorem MD(n:Nat)(a b:List (Val))(Y:Hp)(Z:Nat)(h:(kz a<=zD/\kz a<=n)/\kz b<=zD):hP (FLV n) [.sl 5 (a.map Val.V),.sl 5 (b.map Val.V),.fn (.func 110) [] []] Y Z=some (int (jg wz a b),Y,Z):=
 wL (Y1:=Y) (by simp) (qj (V:=fun a:List (Val)×List (Val)=>[O.sl 5 (a.1.map Val.V),.sl 5 (a.2.map Val.V),.fn (.func 110) [] []]) (a:=(a,b)) (fun x y e=>by obtain⟨f,g⟩:=x;obtain⟨i,j⟩:=y;simp only[zi,zF]at e;obtain⟨c,d⟩:=e;injection c with _ c;injection d with _ d;rw[Jd c,Jd d]) h) (.inl rfl)
noncomputable def FFF (n:Nat):zb->Option O:=qt (α:=(za×Val)×(za×Val)) (fun a=>[.agg (wa a.1),.agg (wa a.2)]) (fun a=>(a.1.2.vb<=zD/\a.1.2.vb<=n/\a.2.2.vb<=zD)) (fun a=>int (vX a.1 a.2))
theorem ME(n:Nat)(a b:za×Val)(Y:Hp)(Z:Nat)(h:a.2.vb<=zD/\a.2.vb<=n/\b.2.vb<=zD):hP (FFF n) [.agg (wa a),.agg (wa b)] Y Z=some (int (vX a b),Y,Z):=
 wL (Y1:=Y) (show zz Y [.agg (wa a),.agg (wa b)]=some ([.agg (wa a),.agg (wa b)],Y) by simp[wa])
  (qj (V:=fun a:(za×Val)×(za×Val)=>[.agg (wa a.1),.agg (wa a.2)]) (a:=(a,b)) (fun x y e=>by
   obtain⟨d,f⟩:=x;obtain⟨g,i⟩:=y;have c:wa d=wa g/\wa f=wa i:=by simp only[zi,zF,O.agg.injEq]at e;exact⟨zi .. ▸ e.1,zi .. ▸ e.2⟩
   rw[QH c.1,QH c.2]) h) (.inl rfl)
noncomputable abbrev Ccfl (n:Nat):Ctx:=qf prog [(92,hP (Sn jU)),(110,hP (FCV n)),(156,hP FOr)]
theorem aa(n:Nat)(a b:za×Val)(h:a.2.vb<=zD/\a.2.vb<=n/\b.2.vb<=zD):zH (Ccfl n) f130 [.agg (wa a),.agg (wa b)]=some (int (vX a b)):=by
 refine zs rfl ?_;have c:=fun Y Z=>K6 n a.2 b.2 Y Z h
 have d:∀(Y:Hp) (Z id:Nat),Y id=some ⟨3,1,true,[[int (jU a.1 b.1)],[int (wz a.2 b.2)]]⟩->hP FOr [.own id 0 2] Y Z=some (int (vX a b),Y,Z):=fun Y Z id e=>rU [_,_] Y Z id _ (by show 2<=zD;decide) e
 simp[wa,c,d,zy,zR,zw,f130]
noncomputable abbrev Ccff (n:Nat):Ctx:=qf prog [(130,hP<|FFF n)]
theorem bF(n:Nat)(a b:List (za×Val))(p:ZU a<=zD/\ZU a<=n)(t:ZU b<=zD):zH (Ccff n) f129 [.sl 6 (a.map wa),.sl 6 (b.map wa),.fn (.func 130) [] []]=some (int (jg vX a b)):=by
 refine zs rfl ?_;obtain⟨p,u⟩:=p;have y:=xx a;have z:=xx b;unfold zD at p t;simp;refine qu (fun k σ Y Z=>σ 0=.sl 6 (a.map wa)/\σ 1=.sl 6 (b.map wa)/\σ 2=.fn (.func 130) [] []/\σ 11=.sl 6 (a.map wa)/\σ 12=int a.length/\σ 13=int k/\k<=b.length/\jg vX a b=jg vX (a.drop k) (b.drop k)) a.length
  ⟨by simp,by simp,by simp,by simp,by simp,by simp,by simp,by simp⟩ ?_
 rintro k σ Y Z A ⟨j,l,m,f,g,h,v,c⟩;by_cases d:k<a.length
 ·have w:=q8 k;by_cases e:k<b.length
  ·have i:¬b.length<=k:=by omega
   have B:=Wy (zo d);have C:=Wy (zo e);have q:=fun Y Z=>ME n a[k] b[k] Y Z ⟨by unfold zD;omega,by omega,by unfold zD;omega⟩
   simp only[wa]at q;rw[zg d,zg e]at c;simp only[jg]at c;by_cases o:vX a[k] b[k]=0
   ·rw[zl o]at c;simp[j,l,m,f,g,h,d,e,i,q,o,w];exact⟨d,by omega,c⟩
   ·rw[zj o]at c;have r:=Xo o;simp[j,l,m,f,g,h,d,e,i,q,r,c,f129]
  ·obtain rfl:k=b.length:=by omega
   rw[zg d,zp]at c;simp only[jg]at c;simp[j,l,m,f,g,h,d,c,f129]
 ·obtain rfl:k=a.length:=by omega
  rw[zp]at c;by_cases s:a.length<b.length
  ·rw[zg s]at c;simp only[jg]at c;simp[j,l,m,f,g,h,s,c,f129]
  ·rw[cC (by omega)]at c;simp only[jg]at c;have x:¬((a.length:Int)<b.length):=by omega
   simp[j,l,m,f,g,h,s,c,f129]
noncomputable def FLF (n:Nat):zb->Option O:=qt (α:=List (za×Val)×List (za×Val)) (fun a=>[.sl 6 (a.1.map wa),.sl 6 (a.2.map wa),.fn (.func 130) [] []]) (fun a=>(ZU a.1<=zD/\ZU a.1<=n)/\ZU a.2<=zD) (fun a=>int (jg vX a.1 a.2))
theorem MF(n:Nat)(a b:List (za×Val))(Y:Hp)(Z:Nat)(h:(ZU a<=zD/\ZU a<=n)/\ZU b<=zD):hP (FLF n) [.sl 6 (a.map wa),.sl 6 (b.map wa),.fn (.func 130) [] []] Y Z=some (int (jg vX a b),Y,Z):=
 wL (Y1:=Y) (by simp) (qj (V:=fun a:List (za×Val)×List (za×Val)=>[O.sl 6 (a.1.map wa),.sl 6 (a.2.map wa),.fn (.func 130) [] []]) (a:=(a,b)) (fun x y e=>by obtain⟨f,g⟩:=x;obtain⟨i,j⟩:=y;simp only[zi,zF]at e;obtain⟨c,d⟩:=e;injection c with _ c;injection d with _ d;rw[VX c,VX d]) h) (.inl rfl)
noncomputable abbrev Ccmv (n:Nat):Ctx:=qf prog [(127,hP (F2I yO)),(92,hP (Sn jU)),(128,hP (FLV n)),(129,hP (FLF n))]
theorem ny(n:Nat)(a b:Val)(h:a.vb<=zD/\a.vb<=n+1/\b.vb<=zD):zH (Ccmv n) f110 [.agg a.V,.agg b.V]=some (int (wz a b)):=by
 obtain⟨u,v,w⟩:=h;have x:=ZN a;have y:=ZN b;have m:=fun Y Z=>MD n a.items b.items Y Z ⟨⟨by omega,by omega⟩,by omega⟩
 have o:=fun Y Z=>MF n a.fields b.fields Y Z ⟨⟨by omega,by omega⟩,by omega⟩
 refine zs rfl ?_;have c:=oI a b;by_cases e:a.kind=b.kind
 ·rw[zl e]at c;by_cases j:a.kind=1
  ·rw[zl (.inl j)]at c;have d:b.kind=1:=by omega
   simp[j,d,c,f110]
  by_cases k:a.kind=2
  ·rw[zl (.inr k)]at c;have d:b.kind=2:=by omega
   simp[k,d,c,f110]
  rw[zj (by omega)]at c;by_cases f:a.kind=3
  ·rw[zl f]at c;have d:b.kind=3:=by omega
   simp[f,d,c,f110]
  rw[zj f]at c;by_cases g:a.kind=4
  ·rw[zl g]at c;have d:b.kind=4:=by omega
   simp[g,d,c,m,f110]
  rw[zj g]at c;by_cases i:a.kind=5
  ·rw[zl i]at c;have d:b.kind=5:=by omega
   simp[i,d,c,o,f110]
  rw[zj i]at c;have l:(a.kind != b.kind)=false:=by simpa using e
  have p:=QA j;have q:=QA k;have r:=QA f;have s:=QA g;have t:=QA i;simp[l,p,q,r,s,t,c,f110]
 ·rw[zj e]at c;have l:(a.kind != b.kind)=true:=by simpa using e
  simp[l,c,f110]
theorem E8{n:Nat}{args:zb}{r:O}(h:FCV n args=some r):∃a b:Val,args=[.agg a.V,.agg b.V]/\(a.vb<=zD/\a.vb<=n/\b.vb<=zD)/\r=int (wz a b):=by obtain⟨⟨a,b⟩,c,d,e⟩:=qc h;exact⟨a,b,c,d,e⟩
theorem W8:∀n,zh prog 110 (hP (FCV n)):=by
 intro n
 induction n with
 |zero=>
  exact VW ⟨_,func110,by kernel_rfl,by kernel_rfl⟩ fun args r h=>by obtain⟨a,b,_,d,_⟩:=E8 h;have:=JU a;omega
 |succ n e=>
  have f:Gd (Ccfv n):=qD mixed ⟨e,trivial⟩;have i:zh prog 128 (hP (FLV n)):=
   Z3 f func128 false [] fun⟨a,b⟩ ⟨c,d⟩=>by exact⟨zM (zk 3) (by decide),_,bE n a b c d,qP _⟩
  have j:AM.Good (Ccfl n) (fun g=>[92,110,156].contains g):=qI mixed ⟨vn,fun _=>zq _ _,e,fun _=>zq _ _,iV,fun _=>zq _ _,trivial⟩;have k:zh prog 130 (hP (FFF n)):=
   Z3 j func130 false [] fun⟨a,b⟩ c=>by exact⟨zM (zk 2) (by decide),_,aa n a b c,qP _⟩
  have l:Gd (Ccff n):=qD mixed ⟨k,trivial⟩;have m:zh prog 129 (hP (FLF n)):=
   Z3 l func129 false [] fun⟨a,b⟩ ⟨c,d⟩=>by exact⟨zM (zk 3) (by decide),_,bF n a b c d,qP _⟩
  have o:Gd (Ccmv n):=qD mixed ⟨X7,vn,i,m,trivial⟩;exact kq (fn:=f110) o (yt func110) false [] _ fun args r h=>by obtain⟨a,b,rfl,c,rfl⟩:=E8 h;exact⟨zM (zk 2) (by decide),_,ny n a b c,qP _⟩
end Go.Q
namespace Go.AM
def W9(a:List Sh)(F:zb->Option O):AM.Spec:=yS true [] fun args=>F (eY a args)
theorem uJ{C:Ctx}{pf:FuncId->Bool}{f:FuncId}{fn:Func}(b:AM.Good C pf)(c:XY C pf f fn)(a:List Sh)(F:zb->Option O)
  (d:∀args r,F args=some r->args.length<=fn.ntmps/\∃r0,zH C fn args=some r0/\yY r0 r):zh C.P f (W9 a F):=
 ie b c true [] _ fun args r h w S vs e=>by obtain⟨g,r0,i,j⟩:=d _ _ h;exact⟨eY a args,r0,Ja e,g,i,j⟩
theorem MG{a:List Sh}{F:zb->Option O}{args:zb}{Y Y1:Hp}{Z:Nat}{ys:zb}{r:O}(b:zz Y args=some (ys,Y1))(c:F (eY a ys)=some r)(d:(r.flat=true\/args.all O.noOwn=true)->Y1=Y) :
  W9 a F args Y Z=some (r,Y1,Z):=by
 have e:jn [] ys=ys:=by cases ys<;>rfl
 try unfold hP
 unfold W9 yS;simp only[b,e,c];split
 ·rename_i h;rw[d h]
 ·simp
theorem Dk(c:List Sh)(F:zb->Option O):QP (W9 c F):=by
 intro args Y Z r Y' Z' h
 try unfold hP at h
 unfold W9 yS at h;split at h
 ·rename_i ys Y1 d;split at h
  ·split at h
   ·injection h with h;injection h with _ h;injection h with a b;subst a;subst b;exact⟨zk _,fun id blk _ a _=>a⟩
   ·split at h
    ·injection h with h;injection h with _ h;injection h with a b;subst a;subst b;exact⟨zk _,fun id blk _ a b=>K0 d a b⟩
    ·cases h
  ·cases h
 ·cases h
def xO(P:Program)(l:Yu)(k:Nat)(D:List (Tmp×Tmp))(L:List Tmp)(b:List Nat):Ctx:=⟨P,lookup l,fun i=>if i=k then D else[],fun i=>if i=k then L else[],fun g=>b.contains g,fun _=>[],fun _=>none⟩
@[simp]theorem zex(P:Program)(l:Yu)(k:Nat)(D:List (Tmp×Tmp))(L:List Tmp)(b:List Nat):(xO P l k D L b).P=P:=rfl
@[simp]theorem zey(P:Program)(l:Yu)(k:Nat)(D:List (Tmp×Tmp))(L:List Tmp)(b:List Nat)(Y:Hp)(Z g:Nat)(x y xs:zb):jH (xO P l k D L b) Y Z (some (.fn (.func g) x y)) xs=(lookup l g).bind fun s=>s (x++xs++y) Y Z:=by unfold jH xO;simp only;cases lookup l g<;>rfl
@[simp]theorem I2(P:Program)(l:Yu)(k:Nat)(D:List (Tmp×Tmp))(L:List Tmp)(b:List Nat)(i:Nat)(a:Array Oper)(d:Bool)(st:St)(K:Exit->St->Prop)(h:¬i=k):Zs (xO P l k D L b) (.region i a d) st K=gV (xO P l k D L b) a a.toList st (vy K):=
 QD _ i a d st K (by simp[xO,h]) (by simp[xO,h])
theorem Qa{P:Program}{l:Yu}{k:Nat}{D:List (Tmp×Tmp)}{L:List Tmp}{b:List Nat}{a:Array Oper}{d:Bool}{st:St}{K:Exit->St->Prop}(h:ZW D st)(c:ZX L st):Zs (xO P l k D L b) (.region k a d) st K=gV (xO P l k D L b) a a.toList st (vy K):=
 vA _ k a d st K (by simpa[xO]using h) (by simpa[xO]using c)
theorem Hg{P:Program}{l:Yu}{q:List Nat}{k:Nat}{D:List (Tmp×Tmp)}{L:List Tmp}{b:List Nat}(a:P.follows .mixedOrders=true)(h:ub True P q l)(c:rG b l):AM.Good (xO P l k D L b) (fun g=>q.contains g):=
 let g:=ue (k:=k) (L:=L) a h c
 ⟨g.spec,g.quiet,g.mixed,g.box,fun _ _ h=>by cases h⟩
end Go.AM
namespace Go.Q
def tp(a b c:Int):O:=.agg [int a,int b,int c]
noncomputable def Dl:zb->Option O:=qt (α:=Int×Int×Int×List za) (fun a=>[tp a.1 a.2.1 a.2.2.1,.sl 1 (zA a.2.2.2)]) (fun _=>True) (fun a=>.agg (⟨a.1,a.2.1,a.2.2.1,a.2.2.2⟩:vh).V)
theorem Su:∀a b:Int×Int×Int×List za,[tp a.1 a.2.1 a.2.2.1,.sl 1 (zA a.2.2.2)]=[tp b.1 b.2.1 b.2.2.1,.sl 1 (zA b.2.2.2)]->a=b:=by rintro⟨h,i,j,k⟩ ⟨l,m,n,o⟩ e;simp only[tp,zi,zF]at e;obtain⟨c,d⟩:=e;injection c with c;simp only[zi,zF]at c;obtain⟨c,f,g⟩:=c;injection d with _ d;rw[qE c,qE f,qE g,kC d]
theorem rV(a b c:Int)(p:List za):zH C0 f189 [tp a b c,.sl 1 (zA p)]=some (.agg (⟨a,b,c,p⟩:vh).V):=by refine zs rfl ?_;simp[tp,vh.V,qi,qJ,jB,f189]
theorem YU:zh prog 189 (W9 [.a,.s 1 []] Dl):=
 uJ (fn:=f189) ku (yt func189) _ _ fun args r h=>by obtain⟨⟨a,b,c,p⟩,rfl,_,rfl⟩:=qc h;exact⟨by simp[f189],_,rV a b c p,yY.refl _⟩
theorem J1(a b c:Int)(p:List za)(y z:O)(Y Y1:Hp)(Z:Nat)(e:z7 Y y=some (z,Y1))(d:n1 1 z=.sl 1 (zA p))(f:y.noOwn=true->Y1=Y):W9 [.a,.s 1 []] Dl [tp a b c,y] Y Z=some (.agg (⟨a,b,c,p⟩:vh).V,Y1,Z):=
 MG (ys:=[tp a b c,z]) (by
  have g:z7 Y (tp a b c)=some (tp a b c,Y):=by simp[tp]
  simp only[zz,g,e]) (by
  have:(Sh.s 1 []).fix z=.sl 1 (zA p):=by
   cases z with
   |sl m es=>simp only[n1]at d;simp only[Sh.fix];rw[<-d];congr 1;exact(zis (fun c _=>by cases c<;>rfl)).trans (List.map_id _)
   |_=>exact d
  show Dl [tp a b c,(Sh.s 1 []).fix z]=_;rw[this];exact qj (V:=fun a:Int×Int×Int×List za=>[tp a.1 a.2.1 a.2.2.1,.sl 1 (zA a.2.2.2)]) (a:=(a,b,c,p)) Su trivial) (by simpa[tp,vh.V]using f)
def jF:Cut:=⟨⟨0,0,0,[[48]]⟩,false⟩
noncomputable def XG (r:O):zb->Option O:=qt (α:=Unit) (fun _=>[]) (fun _=>True) (fun _=>r)
theorem J2(r:O)(Y:Hp)(Z:Nat):wE [] (XG r) [] Y Z=some (r,Y,Z):=xw (show zz Y []=some ([],Y)from rfl) (qj (V:=fun _:Unit=>[]) (a:=()) (fun _ _ _=>rfl) trivial) (.inr rfl)
theorem Dm:zH C0 f163 []=some (.agg jF.V):=by refine zs rfl ?_;simp[jF,Cut.V,zA,str,qi,qJ,zy,zR,zw,jB,f163]
theorem eo:zh prog 163 (wE [] (XG (.agg jF.V))):=
 jC (fn:=f163) ku (yt func163) _ _ fun args r h=>by obtain⟨_,rfl,_,rfl⟩:=qc h;exact⟨by simp[f163],_,Dm,yY.refl _⟩
structure js where
 lo:Cut
 hi:Cut
 Km:Bool
def js.V(s:js):zb:=s.lo.V++s.hi.V++[q6 s.Km]
def Jy:Cut:=⟨⟨0,0,0,[]⟩,false⟩
abbrev xP:List (Option Nat):=[none,none,none,some 1,none,none,none,none,some 1,none,none]
def vg(c:Cut):js:=⟨c,Jy,true⟩
def betw(a b:Cut):js:=⟨a,b,false⟩
def wv(l:List js):List zb:=l.map js.V
def ab:O:=.sl 11 (wv [vg jF])
noncomputable abbrev Cev:Ctx:=qf prog [(163,wE [] (XG (.agg jF.V)))]
theorem zcw:Gd Cev:=qD mixed ⟨eo,trivial⟩
theorem fh:∃r0,zH Cev f133 []=some r0/\yY r0 ab:=by refine JO (sh:=.s 11 xP) rfl ?_;simp[J2,jF,Cut.V,zA,str,qi,qJ,zy,zR,zw,ij,ab,wv,vg,js.V,Jy,f133]
theorem Je:zh prog 133 (wE [] (XG ab)):=
 jC (fn:=f133) zcw (yt func133) _ _ fun args r h=>by obtain⟨_,rfl,_,rfl⟩:=qc h;obtain⟨r0,a,b⟩:=fh;exact⟨by simp[f133],r0,a,b⟩
theorem iY{a b:Part}(h:a.V=b.V):a=b:=by obtain⟨i,j,k,l,m⟩:=a;obtain⟨n,o,p,q,r⟩:=b;simp only[Part.V,zi,zF]at h;obtain⟨d,e,f,g,c⟩:=h;injection c with _ c;rw[qE d,qE e,qE f,qE g,kC c]
def Part.ok(p:Part):Prop:=(0<=p.n0/\p.n0<=999999)/\(0<=p.n1/\p.n1<=999999)/\(0<=p.n2/\p.n2<=999999)/\(1<=p.has/\p.has<=3)/\x4 p.pre
noncomputable def FPa (f:Part->O):zb->Option O:=qt (α:=Part) (fun p=>[.agg p.V]) Part.ok f
theorem uK(f:Part->O)(p:Part)(u:O)(Y:Hp)(Z:Nat)(h:p.ok)(c:(Sh.g K4).fix u=.agg p.V)(d:z7 Y u=some (u,Y))(i:u.noOwn=true):wE [.g K4] (FPa f) [u] Y Z=some (f p,Y,Z):=
 xw (show zz Y [u]=some ([u],Y) by simp only[zz,d]) (by show FPa f [(Sh.g K4).fix u]=_;rw[c];exact qj (V:=fun p:Part=>[O.agg p.V]) (a:=p) (fun a b e=>by simp only[zi,zF]at e;injection e with e;exact iY e) h) (.inr (by rw[yC,i];rfl))
noncomputable def FPt (f:Part->O):zb->Option O:=qt (α:=Part) (fun p=>[.agg p.V]) (fun _=>True) f
theorem MH(f:Part->O)(p:Part)(Y:Hp)(Z:Nat):wE [.g K4] (FPt f) [.agg p.V] Y Z=some (f p,Y,Z):=
 xw (show zz Y [.agg p.V]=some ([.agg p.V],Y) by simp[Part.V]) (by show FPt f [(Sh.g K4).fix (.agg p.V)]=_;rw[show(Sh.g K4).fix (.agg p.V)=.agg p.V by simp[Part.V]];exact qj (V:=fun p:Part=>[O.agg p.V]) (a:=p) (fun a b e=>by simp only[zi,zF]at e;injection e with e;exact iY e) trivial) (.inr (by simp[Part.V]))
def Xd(p:Part):Cut:=⟨⟨p.n0,p.n1,p.n2,p.pre⟩,false⟩
noncomputable abbrev Clo:Ctx:=qf prog [(189,W9 [.a,.s 1 []] Dl)]
theorem zcx:Gd Clo:=qD mixed ⟨YU,trivial⟩
theorem MI(p:Part):zH Clo f164 [.agg p.V]=some (.agg (Xd p).V):=by
 obtain⟨a,b,c,d,e⟩:=p;refine zs rfl ?_;have f:=fun Y Z=>J1 a b c e (.sl 1 (zA e)) (.sl 1 (zA e)) Y Y Z (by simp) rfl (fun _=>rfl)
 simp[tp]at f;simp[Part.V,f,Xd,Cut.V,vh.V,qi,qJ,jB,f164]
theorem Hh:zh prog 164 (wE [.g K4] (FPt fun p=>.agg (Xd p).V)):=
 jC (fn:=f164) zcx (yt func164) _ _ fun args r h=>by obtain⟨p,rfl,_,rfl⟩:=qc h;exact⟨by simp[f164],_,MI p,yY.refl _⟩
def xj(p:Part):Nat->Cut
 | 0=>⟨⟨p.n0+1,0,0,[[48]]⟩,false⟩
 | 1=>⟨⟨p.n0,p.n1+1,0,[[48]]⟩,false⟩
 |_=>⟨⟨p.n0,p.n1,p.n2+1,[[48]]⟩,false⟩
def J3(p:Part):Nat->Bool
 | 0=>decide (p.n0+1<=999999)
 | 1=>decide (p.n1+1<=999999)
 |_=>decide (p.n2+1<=999999)
def Qb(p:Part)(i:Nat):O:=.qZ [.agg (xj p i).V,q6 (J3 p i)]
noncomputable abbrev Crsd:Ctx:=xO prog [(189,W9 [.a,.s 1 []] Dl)] 7 [(6,4),(28,4)] [4,6,28] [189]
theorem Sv:Gd Crsd:=Hg mixed ⟨YU,by simp,trivial⟩ ⟨fun _=>Dk _ _,trivial⟩
theorem cZ(st:St):ZW [] st:=fun _ h=>by cases h
theorem QI{a b:Tmp}{D:List (Tmp×Tmp)}{st:St}(h:pV st a b)(c:ZW D st):ZW ((a,b)::D) st:=fun p Y=>by
 rcases zx.1 Y with rfl|Y
 ·exact h
 ·exact c p Y
theorem iZ(st:St):ZX [] st:=fun _ h=>by cases h
theorem Jf{s:Tmp}{L:List Tmp}{st:St}{id i j:Nat}{blk:Blk}(h:st.σ s=.ref id i j)(b:id<st.Z)(c:st.Y id=some blk)(d:blk.arr=false)(f:ZX L st)(hs:s<zB:=by decide):ZX (s::L) st:=fun t a=>by
 rcases zx.1 a with rfl|a
 ·refine⟨⟨fun id' o n e=>(by rw[h]at e;cases e),fun id' i' j' e=>?_⟩,fun g=>absurd hs (Nat.not_lt.2 g)⟩;rw[h]at e;injection e with e _ _
  subst e;exact⟨b,blk,c,d⟩
 ·exact f t a
theorem la{s:Tmp}{L:List Tmp}{st:St}{x:zb}(h:st.σ s=.qZ x)(b:ZX L st)(hs:s<zB:=by decide):ZX (s::L) st:=fun t a=>by
 rcases zx.1 a with rfl|a
 ·exact⟨⟨fun id' o n e=>(by rw[h]at e;cases e),fun id' i' j' e=>(by rw[h]at e;cases e)⟩,fun c=>absurd hs (Nat.not_lt.2 c)⟩
 ·exact b t a
theorem c7{a b:Tmp}{st:St}{id i j id' i' j':Nat}{blk:Blk}(d:st.σ a=.ref id i j)(e:st.σ b=.ref id' i' j')(f:id≠id')(g:st.Y id'=some blk)(h:blk.arr=false):pV st a b:=by
 intro k l m c;rw[d]at c;injection c with c _ _
 subst c;exact⟨id',i',j',blk,e,f,g,h⟩
theorem c9{a b:Tmp}{st:St}{x:zb}(d:st.σ a=.qZ x):pV st a b:=by intro e f g c;rw[d]at c;cases c
theorem uL(p:Part)(i:Nat)(v:i<3)(Y:p.ok):∃r0,zH Crsd f167 [.agg p.V,int i]=some r0/\yY r0 (Qb p i):=by
 obtain⟨a,b,c,d,e⟩:=p;obtain⟨⟨j,k⟩,⟨l,m⟩,⟨n,o⟩,_⟩:=Y;simp only at j k l m n o;refine vW (sh:=.g Z8) rfl ?_;have q:=wN (a+1);have r:=wN (b+1);have t:=wN (c+1);have f:∀(a b c:Int) (Y:Hp) (Z id:Nat),Y id=some ⟨9,1,true,[[str [48]]]⟩->W9 [.a,.s 1 []] Dl [tp a b c,.own id 0 1] Y Z=some (.agg (⟨a,b,c,[[48]]⟩:vh).V,zI Y id none,Z):=fun a b c Y Z id u=>J1 a b c [[48]] (.own id 0 1) (.sl 1 [[str [48]]]) Y (zI Y id none) Z (by simp[u]) rfl (fun h=>by cases h)
 simp[tp,str]at f;rcases(by omega:i=0\/i=1\/i=2)with rfl|rfl|rfl
 ·simp[Part.V,q];rw[qx];simp;rw[qx];simp;rw[qx];simp;rw[Qa (QI (c7 (by simp;exact⟨rfl,rfl,rfl⟩) (by simp;exact⟨rfl,rfl,rfl⟩) (by omega) (by simp;rfl) rfl) (QI (c9 (by simp;rfl)) (cZ _)))
   (Jf (by simp;exact⟨rfl,rfl,rfl⟩) (by simp) (by simp;rfl) rfl (Jf (by simp;exact⟨rfl,rfl,rfl⟩) (by simp) (by simp;rfl) rfl (la (by simp;rfl) (iZ _))))]
  simp[f,qi,qJ,zy,zR,zw,wJ,Qb,xj,J3,Cut.V,vh.V,f167]
 ·simp[Part.V,r];rw[qx];simp;rw[qx];simp;rw[Qa (QI (c7 (by simp;exact⟨rfl,rfl,rfl⟩) (by simp;exact⟨rfl,rfl,rfl⟩) (by omega) (by simp;rfl) rfl) (QI (c9 (by simp;rfl)) (cZ _)))
   (Jf (by simp;exact⟨rfl,rfl,rfl⟩) (by simp) (by simp;rfl) rfl (Jf (by simp;exact⟨rfl,rfl,rfl⟩) (by simp) (by simp;rfl) rfl (la (by simp;rfl) (iZ _))))]
  simp[f,qi,qJ,zy,zR,zw,wJ,Qb,xj,J3,Cut.V,vh.V,f167]
 ·simp[Part.V,t];rw[qx];simp;rw[Qa (QI (c7 (by simp;exact⟨rfl,rfl,rfl⟩) (by simp;exact⟨rfl,rfl,rfl⟩) (by omega) (by simp;rfl) rfl) (QI (c9 (by simp;rfl)) (cZ _)))
   (Jf (by simp;exact⟨rfl,rfl,rfl⟩) (by simp) (by simp;rfl) rfl (Jf (by simp;exact⟨rfl,rfl,rfl⟩) (by simp) (by simp;rfl) rfl (la (by simp;rfl) (iZ _))))]
  simp[f,qi,qJ,zy,zR,zw,wJ,Qb,xj,J3,Cut.V,vh.V,f167]
noncomputable def FPi (f:Part->Nat->O):zb->Option O:=qt (α:=Part×Nat) (fun a=>[.agg a.1.V,int a.2]) (fun a=>a.1.ok/\a.2<3) (fun a=>f a.1 a.2)
theorem zcy:∀a b:Part×Nat,[O.agg a.1.V,int a.2]=[O.agg b.1.V,int b.2]->a=b:=by rintro⟨h,d⟩ ⟨i,f⟩ e;simp only[zi,zF]at e;obtain⟨c,g⟩:=e;injection c with c;have:=qE g;rw[iY c,show d=f by omega]
theorem uM(f:Part->Nat->O)(p:Part)(i:Nat)(u:O)(Y:Hp)(Z:Nat)(h:p.ok)(b:i<3)(c:(Sh.g K4).fix u=.agg p.V)(d:z7 Y u=some (u,Y))(e:u.noOwn=true):wE [.g K4] (FPi f) [u,int i] Y Z=some (f p i,Y,Z):=
 xw (show zz Y [u,int i]=some ([u,int i],Y) by simp only[zz,d];rfl) (by show FPi f [(Sh.g K4).fix u,int i]=_;rw[c];exact qj (V:=fun a:Part×Nat=>[O.agg a.1.V,int a.2]) (a:=(p,i)) zcy ⟨h,b⟩) (.inr (by rw[yC,e];rfl))
theorem bG:zh prog 167 (wE [.g K4] (FPi Qb)):=
 jC (fn:=f167) Sv (yt func167) _ _ fun args r h=>by obtain⟨⟨p,i⟩,rfl,⟨a,b⟩,rfl⟩:=qc h;obtain⟨r0,c,d⟩:=uL p i b a;exact⟨by simp[f167],r0,c,d⟩
def YA(p:Part):Cut:=if p.has<3 then xj p (p.has-1).toNat else⟨⟨p.n0,p.n1,p.n2,p.pre⟩,true⟩
def lb(p:Part):Bool:=if p.has<3 then J3 p (p.has-1).toNat else true
def bH(p:Part):O:=.qZ [.agg (YA p).V,q6 (lb p)]
noncomputable abbrev Chi:Ctx:=qf prog [(189,W9 [.a,.s 1 []] Dl),(167,wE [.g K4] (FPi Qb))]
theorem zcz:Gd Chi:=qD mixed ⟨YU,bG,trivial⟩
@[simp]theorem fP(p:Part)(Y:Hp):z7 Y (.agg p.V)=some (.agg p.V,Y):=by simp[Part.V]
theorem Hi(p:Part)(Y:p.ok):zH Chi f166 [.agg p.V]=some (bH p):=by
 have a:=Y;obtain⟨_,_,_,⟨g,h⟩,_⟩:=Y;refine zs rfl ?_;have b:=fun Y Z=>uM Qb p (p.has-1).toNat (.agg p.V) Y Z a (by omega) (by simp[Part.V]) (fP p Y) (by simp[Part.V])
 have e:(((p.has-1).toNat:Nat):Int)=p.has-1:=by omega
 have f:=wN (p.has-1);rw[e]at b;have c:=fun Y Z=>J1 p.n0 p.n1 p.n2 p.pre (.sl 1 (zA p.pre)) (.sl 1 (zA p.pre)) Y Y Z (by simp) rfl (fun _=>rfl)
 simp[tp]at c;simp only[Part.V]at b;by_cases d:p.has<3
 ·simp[Part.V,d,b,f,bH,YA,lb,Qb,Cut.V,jB,f166]
 ·simp[Part.V,d,c,bH,YA,lb,Cut.V,vh.V,qi,qJ,jB,f166]
theorem Dn:zh prog 166 (wE [.g K4] (FPa bH)):=
 jC (fn:=f166) zcz (yt func166) _ _ fun args r h=>by obtain⟨p,rfl,a,rfl⟩:=qc h;exact⟨by simp[f166],_,Hi p a,yY.refl _⟩
noncomputable def I3 (a b:Cut):List js:=if 0<=W7 a b then[]else[betw a b]
noncomputable def lf (a b:Cut):O:=.sl 11 (wv (I3 a b))
noncomputable abbrev Cbt:Ctx:=qf prog [(169,wE [.g Z8,.g Z8] (Rt fun v w=>int (W7 v w)))]
theorem zcA:Gd Cbt:=qD mixed ⟨Z9,trivial⟩
theorem rW(x y:Cut)(b:x.v.small)(c:y.v.small):∃r0,zH Cbt f165 [.agg x.V,.agg y.V]=some r0/\yY r0 (lf x y):=by
 refine JO (sh:=.s 11 xP) rfl ?_;have a:=fun Y Z=>E7 x y (.agg x.V) (.agg y.V) Y Z (by simp[Cut.V]) (by simp[Cut.V]) (by simp[Cut.V]) b c
 simp only[Cut.V]at a;by_cases h:0<=W7 x y
 ·simp[Cut.V,a,h,ij,lf,I3,wv,f165]
 ·simp[Cut.V,a,h,qi,qJ,zy,zR,zw,ij,lf,I3,wv,betw,js.V,f165]
theorem nA:zh prog 165 (wE [.g Z8,.g Z8] (Rt lf)):=
 jC (fn:=f165) zcA (yt func165) _ _ fun args r h=>by obtain⟨⟨v,w⟩,rfl,⟨a,b⟩,rfl⟩:=qc h;obtain⟨r0,c,d⟩:=rW v w a b;exact⟨by simp[f165],r0,c,d⟩
structure Ze where
 sign:List UInt8
 p:Part
 tu:Part
def Ze.V(c:Ze):zb:=[str c.sign,int c.p.n0,int c.p.n1,int c.p.n2,int c.p.has,.sl 1 (zA c.p.pre),int c.tu.n0,int c.tu.n1,int c.tu.n2,int c.tu.has,.sl 1 (zA c.tu.pre)]
abbrev rX:List (Option Nat):=[none,none,none,none,none,some 1,none,none,none,none,some 1]
theorem Hj{a b:Ze}(h:a.V=b.V):a=b:=by obtain⟨q,⟨r,s,t,u,v⟩,⟨w,x,y,z,e⟩⟩:=a;obtain⟨A,⟨B,C,D,E,F⟩,⟨G,H,I,J,f⟩⟩:=b;simp only[Ze.V,zi,zF]at h;obtain⟨g,i,j,k,l,d,m,n,o,p,c⟩:=h;injection d with _ d;injection c with _ c;rw[wT g,qE i,qE j,qE k,qE l,kC d,qE m,qE n,qE o,qE p,kC c]
def kD:za:=[97,108,108]
def Ze.ok(c:Ze):Prop:=c.sign.length<=zD/\(c.sign=kD\/(c.p.ok/\(c.sign=[45]->c.tu.ok)))
def We(p:Part):Nat:=if 1<p.has/\p.n0=0 then(if 2<p.has/\p.n1=0 then 2 else 1)else 0
noncomputable def WA (c:Ze):List js×Bool:=
 if c.sign=kD then([vg jF],true)
 else if c.sign=[62,61]then([vg (Xd c.p)],true)
 else if c.sign=[60]then(I3 jF (Xd c.p),true)
 else if c.sign=[62]then([vg (YA c.p)],lb c.p)
 else if c.sign=[60,61]then(I3 jF (YA c.p),lb c.p)
 else if c.sign=[45]then(I3 (Xd c.p) (YA c.tu),lb c.tu)
 else if c.sign=[126]then(I3 (Xd c.p) (xj c.p (min (c.p.has-1) 1).toNat),J3 c.p (min (c.p.has-1) 1).toNat)
 else if c.sign=[94]then(I3 (Xd c.p) (xj c.p (We c.p)),J3 c.p (We c.p))
 else(I3 (Xd c.p) (YA c.p),lb c.p)
noncomputable def YV (c:Ze):O:=.qZ [.sl 11 (wv (WA c).1),q6 (WA c).2]
def lowP(p:Part):O:=.agg (Xd p).V
def MJ:O:=.agg jF.V
noncomputable abbrev Cstt:Ctx:=qf prog [(164,wE [.g K4] (FPt lowP)),(166,wE [.g K4] (FPa bH)),(167,wE [.g K4] (FPi Qb)),(163,wE [] (XG MJ)),(133,wE [] (XG ab)),(165,wE [.g Z8,.g Z8] (Rt lf))]
theorem Sw:AM.Good Cstt (fun g=>[163,165].contains g):=qI mixed ⟨Hh,by simp,Dn,by simp,bG,by simp,eo,fun _=>Z5 _ _,Je,by simp,nA,fun _=>Z5 _ _,trivial⟩
theorem MK:jF.v.small:=⟨by decide,fun p Y=>by simp[jF]at Y;subst Y;decide⟩
theorem bI(p:Part)(i:Nat):(xj p i).v.small:=by
 have h:(xj p i).v.pre=[[48]]:=by unfold xj;split<;>rfl
 exact⟨by rw[h];decide,fun q a=>by rw[h]at a;simp at a;subst a;decide⟩
theorem VY{p:Part}(h:x4 p.pre):(Xd p).v.small:=h
theorem ae{p:Part}(h:x4 p.pre):(YA p).v.small:=by
 unfold YA;split
 ·exact bI _ _
 ·exact h
theorem rY(c:Cut):(Sh.g Z8).fix (.agg c.V)=.agg c.V:=by simp[Cut.V]
theorem ML(c:Cut)(Y:Hp):z7 Y (.agg c.V)=some (.agg c.V,Y):=by simp[Cut.V]
theorem bJ(x y:Cut)(Y:Hp)(Z:Nat)(b:x.v.small)(c:y.v.small):wE [.g Z8,.g Z8] (Rt lf) [.agg x.V,.agg y.V] Y Z=some (lf x y,Y,Z):=
 xw (show zz Y [.agg x.V,.agg y.V]=some ([.agg x.V,.agg y.V],Y) by simp only[zz,ML]) (by show Rt _ [(Sh.g Z8).fix (.agg x.V),(Sh.g Z8).fix (.agg y.V)]=_;rw[rY,rY];exact qj (V:=fun a:Cut×Cut=>[O.agg a.1.V,.agg a.2.V]) (a:=(x,y)) MC ⟨b,c⟩) (.inr (by simp[Cut.V]))
theorem lg(c:Ze)(R:c.ok):∃r0,zH Cstt f134 [.agg c.V]=some r0/\yY r0 (YV c):=by
 obtain⟨h,p,S⟩:=c;obtain⟨_,R⟩:=R;simp only at R;refine vW (sh:=.s 11 xP) rfl ?_;have e:=fun Y Z=>MH lowP p Y Z
 have I:∀(Y:Hp) (Z:Nat),wE [] (XG MJ) [] Y Z=some (.agg [int jF.v.a,int jF.v.b,int jF.v.c,.sl 1 (zA jF.v.pre),q6 jF.after],Y,Z):=fun Y Z=>J2 _ Y Z
 have U:∀(Y:Hp) (Z:Nat),wE [] (XG ab) [] Y Z=some (.sl 11 (wv [vg jF]),Y,Z):=fun Y Z=>J2 _ Y Z
 simp only[lowP,Part.V,Cut.V]at e;by_cases J:h=kD
 ·subst J;simp[Ze.V,e,U,kD,wJ,YV,WA,wv,vg,js.V,Cut.V,Jy,f134]
 obtain⟨Y,ht⟩:=R.resolve_left J;have B:x4 p.pre:=Y.2.2.2.2;have k:(h==[97,108,108])=false:=by simpa[kD]using J
 by_cases T:h=[62,61]
 ·subst T;simp[Ze.V,e,k,qi,qJ,zy,zR,zw,kD,wJ,YV,WA,wv,vg,js.V,Cut.V,Jy,f134]
 have l:=QA T;have K:=fun Y Z=>bJ jF (Xd p) Y Z MK (VY B)
 have L:=fun Y Z=>bJ jF (YA p) Y Z MK (ae B)
 have G:=fun Y' Z=>uK bH p (.agg p.V) Y' Z Y (by simp[Part.V]) (fP p Y') (by simp[Part.V])
 simp only[lf,bH,Part.V,Cut.V]at K L G;by_cases W:h=[60]
 ·subst W;simp[Ze.V,e,I,K,k,l,kD,wJ,YV,WA,wv,js.V,Cut.V,f134]
 have m:=QA W;by_cases X:h=[62]
 ·subst X;simp[Ze.V,e,G,k,l,m,qi,qJ,zy,zR,zw,kD,wJ,YV,WA,wv,vg,js.V,Cut.V,Jy,f134]
 have q:=QA X;by_cases s4:h=[60,61]
 ·subst s4;simp[Ze.V,e,G,I,L,k,l,m,q,qi,qJ,zy,zR,zw,kD,wJ,YV,WA,wv,vg,js.V,Cut.V,Jy,f134]
 have r:=QA s4;by_cases s5:h=[45]
 ·subst s5;have M:=ht rfl;have N:=fun Y Z=>bJ (Xd p) (YA S) Y Z (VY B) (ae M.2.2.2.2)
  have P:=fun Y' Z=>uK bH S (.agg S.V) Y' Z M (by simp[Part.V]) (fP S Y') (by simp[Part.V])
  simp only[lf,bH,Part.V,Cut.V]at N P;simp[Ze.V,e,P,N,k,l,m,q,r,qi,qJ,zy,zR,zw,kD,wJ,YV,WA,wv,vg,js.V,Cut.V,Jy,f134]
 have t:=QA s5;have u:=fun i (hi:i<3) Y' Z=>uM Qb p i (.agg p.V) Y' Z Y hi (by simp[Part.V]) (fP p Y') (by simp[Part.V])
 have w:=fun i Y Z=>bJ (Xd p) (xj p i) Y Z (VY B) (bI p i)
 simp only[lf,Qb,Part.V,Cut.V]at u w;have x:i6.wrap (p.has-1)=p.has-1:=wM (by have:=Y.2.2.2.1;omega) (by have:=Y.2.2.2.1;omega);by_cases s6:h=[126]
 ·subst s6;have hm:(if 1<p.has-1 then 1 else p.has-1)=(((min (p.has-1) 1).toNat:Nat):Int):=by have:=Y.2.2.2.1;split<;>omega
  have d:=u (min (p.has-1) 1).toNat (by omega);rw[<-hm]at d;simp[Ze.V,e,d,w,x,k,l,m,q,r,t,qi,qJ,zy,zR,zw,kD,wJ,YV,WA,wv,vg,js.V,Cut.V,Jy,f134]
 have y:=QA s6;by_cases s7:h=[94]
 ·subst s7;have hs3:(2:Int)<p.has->p.has=3:=by have:=Y.2.2.2.1;omega
  by_cases n:1<p.has
  ·have f:(0:Int)<p.has-1:=by omega
   by_cases C:p.n0=0
   ·have g:(p.n0==0)=true:=by simpa using C
    by_cases D:2<p.has
    ·have j:(1:Int)<p.has-1:=by omega
     have E:¬(2:Int)<p.has-1:=by have:=Y.2.2.2.1;omega
     by_cases H:p.n1=0
     ·have z:(p.n1==0)=true:=by simpa using H
      have o:We p=2:=by simp[We,n,f,D,j,E,C,H]
      have d:=u 2 (by omega);rw[show((2:Nat):Int)=2 from rfl]at d;simp[Ze.V,e,x,k,l,m,q,r,t,y,n,f,D,j,E,g,z,kD];rw[qx];simp[Ze.V,e,x,k,l,m,q,r,t,y,n,f,D,j,E,g,z];rw[qx];simp[Ze.V,e,x,k,l,m,q,r,t,y,n,f,D,j,E,g,z];rw[qx];simp[Ze.V,e,x,k,l,m,q,r,t,y,d,w,o,n,f,D,j,E,g,z,qi,qJ,zy,zR,zw,kD,wJ,YV,WA,wv,vg,js.V,Cut.V,Jy,f134]
     ·have A:=QA H;have o:We p=1:=by simp[We,n,f,D,j,C,H,A]
      have d:=u 1 (by omega);rw[show((1:Nat):Int)=1 from rfl]at d;simp[Ze.V,e,x,k,l,m,q,r,t,y,n,f,D,j,g,A,kD];rw[qx];simp[Ze.V,e,x,k,l,m,q,r,t,y,n,f,D,j,g,A];rw[qx];simp[Ze.V,e,x,k,l,m,q,r,t,y,d,w,o,n,f,D,j,g,A,qi,qJ,zy,zR,zw,kD,wJ,YV,WA,wv,vg,js.V,Cut.V,Jy,f134]
    ·have j:¬(1:Int)<p.has-1:=by omega
     have o:We p=1:=by simp[We,n,f,D,j,C]
     have d:=u 1 (by omega);rw[show((1:Nat):Int)=1 from rfl]at d;simp[Ze.V,e,x,k,l,m,q,r,t,y,n,f,D,j,g,kD];rw[qx];simp[Ze.V,e,x,k,l,m,q,r,t,y,n,f,D,j,g];rw[qx];simp[Ze.V,e,x,k,l,m,q,r,t,y,d,w,o,n,f,D,j,g,qi,qJ,zy,zR,zw,kD,wJ,YV,WA,wv,vg,js.V,Cut.V,Jy,f134]
   ·have F:=QA C;have o:We p=0:=by simp[We,n,f,C,F]
    have d:=u 0 (by omega);rw[show((0:Nat):Int)=0 from rfl]at d;simp[Ze.V,e,x,k,l,m,q,r,t,y,n,f,F,kD];rw[qx];simp[Ze.V,e,x,k,l,m,q,r,t,y,d,w,o,n,f,F,qi,qJ,zy,zR,zw,kD,wJ,YV,WA,wv,vg,js.V,Cut.V,Jy,f134]
  ·have f:¬(0:Int)<p.has-1:=by omega
   have o:We p=0:=by simp[We,n,f]
   have d:=u 0 (by omega);rw[show((0:Nat):Int)=0 from rfl]at d;simp[Ze.V,e,x,k,l,m,q,r,t,y,n,f,kD];rw[qx];simp[Ze.V,e,x,k,l,m,q,r,t,y,d,w,o,n,f,qi,qJ,zy,zR,zw,kD,wJ,YV,WA,wv,vg,js.V,Cut.V,Jy,f134]
 have e7:=QA s7;have Q:=fun Y Z=>bJ (Xd p) (YA p) Y Z (VY B) (ae B)
 simp only[lf,Cut.V]at Q;simp only[kD]at J;have e1':=T;simp[Ze.V,e,G,Q,k,l,m,q,r,t,y,e7,J,T,W,X,s4,s5,s6,s7,qi,qJ,zy,zR,zw,kD,wJ,YV,WA,wv,vg,js.V,Cut.V,Jy,f134]
noncomputable def FCm (f:Ze->O):zb->Option O:=qt (α:=Ze) (fun c=>[.agg c.V]) Ze.ok f
theorem fi:zh prog 134 (wE [.g rX] (FCm YV)):=
 jC (fn:=f134) Sw (yt func134) _ _ fun args r h=>by obtain⟨c,rfl,a,rfl⟩:=qc h;obtain⟨r0,b,d⟩:=lg c a;exact⟨by simp[f134],r0,b,d⟩
def yB:List za:=[[62,61],[60,61],[62],[60],[61],[126],[94]]
def yG:List za->za->za×za
 |[],s=>([],s)
 |g::l,s=>if g.isPrefixOf s=true then(g,s.drop g.length)else yG l s
def Sx(s:za):O:=.qZ [str (yG yB s).1,str (yG yB s).2]
noncomputable abbrev Cop:Ctx:=qf prog [(47,hP (WY CY fun _ _=>True))]
theorem zcB:Gd Cop:=qD mixed ⟨Wb,trivial⟩
theorem nB(s:za)(h:s.length<=zD):zH Cop f161 [str s]=some (Sx s):=by
 refine zs rfl ?_;have l:∀Y Z,zy prog Y Z 39 7 [(0,str [62,61]),(1,str [60,61]),(2,str [62]),(3,str [60]),(4,str [61]),(5,str [126]),(6,str [94])]=some (.own Z 0 7,zI Y Z (some ⟨9,1,true,zA yB⟩),Z+1):=fun Y Z=>by simp[zy,zR,zw,yB,str]
 simp[str]at l;simp[l];refine qu (fun k σ Y Z=>σ 0=str s/\σ 8=.own 0 0 7/\σ 9=int 7/\σ 10=int k/\Y 0=some ⟨9,1,true,zA yB⟩/\yG yB s=yG (yB.drop k) s) 7 ⟨by simp,by simp,by simp,by simp,by simp,by simp⟩ ?_;rintro k σ Y Z p ⟨f,g,i,b,m,a⟩;by_cases c:k<7
 ·have e:k<yB.length:=c;have j:yB[k].length<=zD:=by
   have:∀q∈yB,q.length<=zD:=by decide
   exact this _ (zo e)
  have n:=fun Y Z=>VO s yB[k] Y Z h j
  have o:=q8 k;have d:(k:Int)<7:=by omega
  rw[zg e]at a;simp only[yG]at a;by_cases Y:(yB[k]).isPrefixOf s=true
  ·rw[zl Y]at a;simp[f,g,i,b,m,d,c,e,n,Y,o,Sx,a,jB,f161]
  ·rw[zj Y]at a;have Y':(yB[k]).isPrefixOf s=false:=Bool.eq_false_iff.2 Y;simp[f,g,i,b,m,d,c,e,n,Y',o];exact⟨by omega,a⟩
 ·obtain rfl:k=7:=by omega
  rw[show yB.drop 7=[]from rfl]at a;simp only[yG]at a;simp[f,g,i,b,Sx,a,jB, f161]
theorem lh:zh prog 161 (hP (FSP Sx)):=
 Z3 zcB func161 false [] fun l Y=>⟨by simp[f161],_,nB l Y,qP _⟩
def rZ(l:za):Bool:=l.isEmpty
theorem lj:zh prog 159 (hP (FS rZ)):=
 Z3 ku func159 false [] fun l Y=>⟨by simp[f159],_,zs rfl (by simp[jB,rZ,f159]),qP _⟩
def da:Nat->List za->Int
 |_,[]=>-1
 |k,x::l=>if x=[]then k else da (k+1) l
def fQ:O:=.fn (.func 159) [] []
noncomputable def FIx:zb->Option O:=qt (α:=List za) (fun l=>[.sl 1 (zA l),fQ]) x4 (fun l=>int (da 0 l))
noncomputable abbrev Cixf:Ctx:=qf prog [(159,hP (FS rZ))]
theorem Sy:Gd Cixf:=qD mixed ⟨lj,trivial⟩
theorem fj(l:List za)(h:x4 l):zH Cixf f185 [.sl 1 (zA l),fQ]=some (int (da 0 l)):=by
 refine zs rfl ?_;obtain⟨o,e⟩:=h;unfold zD at o;simp[fQ];refine qu (fun k σ Y Z=>σ 0=.sl 1 (zA l)/\σ 1=fQ/\σ 7=int l.length/\σ 8=int k/\da 0 l=da k (l.drop k)) l.length ⟨by simp,by simp[fQ],by simp,by simp,by simp⟩ ?_;rintro k σ Y Z p ⟨f,g,i,j,b⟩;by_cases a:k<l.length
 ·have m:=q8 k;have n:=fun Y' Z=>Zu rZ l[k] Y' Z (e _ (zo a))
  rw[zg a]at b;simp only[da]at b;by_cases d:l[k]=[]
  ·rw[zl d]at b;have c:rZ l[k]=true:=by simpa[rZ]using d
   simp[f,g,i,j,fQ,a,n,c,m,b,jB,f185]
  ·rw[zj d]at b;have c:rZ l[k]=false:=by simpa[rZ]using d
   simp[f,g,i,j,fQ,a,n,c,m];exact⟨a,b⟩
 ·obtain rfl:k=l.length:=by omega
  rw[zp]at b;simp only[da]at b;simp[f,g,i,j,b,jB,f185]
theorem MM:∀a b:List za,[O.sl 1 (zA a),fQ]=[O.sl 1 (zA b),fQ]->a=b:=fun a b e=>by
 simp only[zi,zF]at e;injection e with _ e
 exact kC e
theorem db:zh prog 185 (hP FIx):=
 Z3 Sy func185 false [] fun l Y=>⟨by simp[f185],_,fj l Y,qP _⟩
theorem MN(l:List za)(Y:Hp)(Z id:Nat)(h:x4 l)(b:Y id=some (ZT l)):hP FIx [.own id 0 l.length,fQ] Y Z=some (int (da 0 l),Y,Z):=by
 have c:(zA l).take l.length=zA l:=qy (by simp);refine wL (show zz Y [.own id 0 l.length,fQ]=some ([.sl 1 (zA l),fQ],zI Y id none) by have:Y id=some ⟨9,1,true,zA l⟩:=b;simp[fQ,this,c]) (qj (V:=fun l:List za=>[O.sl 1 (zA l),fQ]) (a:=l) MM h) (.inl rfl)
def wQ(l:List za):List za:=l.filter fun x=>!rZ x
theorem oJ:∀(l:List za) (k:Nat),(da k l=-1/\wQ l=l)\/∃i,∃h:i<l.length,da k l=((k+i:Nat):Int)/\rZ l[i]=true/\wQ (l.take i)=l.take i
 |[],k=>.inl ⟨rfl,rfl⟩
 |x::l,k=>by
  by_cases a:x=[]
  ·exact .inr ⟨0,by simp,by simp[da,a],by simp[rZ,a],by simp[wQ]⟩
  ·have b:rZ x=false:=by simpa[rZ]using a
   rcases oJ l (k+1)with⟨c,d⟩|⟨i,h,c,d,e⟩
   ·exact .inl ⟨by simp[da,a,c],by simp only[wQ,List.filter_cons,b];simpa[wQ]using d⟩
   ·refine .inr ⟨i+1,by simpa using h,by simp only[da,zj a,c];congr 1;omega,by simpa using d,?_⟩;simp only[yh,wQ,List.filter_cons,b];simpa[wQ]using e
theorem J4{l:List za}{j:Nat}(h:j<l.length):wQ (l.take (j+1))=if rZ l[j]=true then wQ (l.take j)else wQ (l.take j)++[l[j]]:=by rw[qb h];simp only[wQ,List.filter_append,List.filter_cons,List.filter_nil];cases rZ l[j]<;>simp
theorem ep(a b:List za):zA (a++b)=zA a++zA b:=by simp[zA]
theorem Hk{l:List za}{i:Nat}(h:i<l.length):zA l=zA (l.take i)++[str l[i]]::zA (l.drop (i+1)):=by rw[<-VR,<-ep,<-zg h,eP]
noncomputable abbrev Cdf:Ctx:=qf prog [(159,hP (FS rZ)),(185,hP FIx)]
theorem zcC:Gd Cdf:=qD mixed ⟨lj,db,trivial⟩
theorem dc:zh prog 158 (yc Cdf f158):=Zg zcC func158
def DelQ(l:List za)(id:Nat)(Y:Hp)(Z:Nat)(x:O)(Y':Hp)(Z':Nat):Prop:=x=.own id 0 (wQ l).length/\Z'=Z/\(∃a,Y' id=some ⟨9,1,true,zA (wQ l)++a⟩)/\∀j,j≠id->Y' j=Y j
theorem Dp(l:List za)(D:Hp)(Q id:Nat)(h:x4 l)(E:D id=some (ZT l)):∃x Y' Z',yc Cdf f158 [.own id 0 l.length,fQ] D Q=some (x,Y',Z')/\DelQ l id D Q x Y' Z':=by
 unfold yc;rw[zl (by simp[f158])];refine wB rfl ?_;have m:=MN l D Q id h E;obtain⟨hl,T⟩:=h;unfold zD at hl;simp only[fQ]at m;have F:D id=some ⟨9,1,true,zA l⟩:=E;rcases oJ l 0 with⟨U,G⟩|⟨i,R,U,G,W⟩
 ·rw[U]at m;simp[fQ,m,DelQ,G,f158];exact⟨[],by simpa using F⟩
 ·rw[U]at m;have X:((i:Int)==-1)=false:=by simp
  have v:=q8 i;simp[fQ,m,X,v];refine qu (fun k σ Y Z=>σ 0=.own id 0 l.length/\σ 1=fQ/\σ 5=int (wQ (l.take (i+1+k))).length/\σ 6=int ((i:Int)+1+k)/\Z=Q/\(∀j,j≠id->Y j=D j) /\
    ∃a,Y id=some ⟨9,1,true,zA (wQ (l.take (i+1+k)))++a++zA (l.drop (i+1+k))⟩/\(wQ (l.take (i+1+k))).length+a.length=i+1+k/\0<a.length/\∀c∈a,c.length=1) (l.length-(i+1))
   ⟨by simp,by simp[fQ],by simp[J4 R,G,W];omega,by simp,rfl,fun _ _=>rfl,[[str l[i]]],by simp[J4 R,G,W,F];exact Hk R,by simp[J4 R,G,W];omega,by simp,by simp⟩ ?_
  rintro k σ Y Z hk ⟨h0,h1,H,h6,rfl,w,a,p,z,I,A⟩;obtain⟨j,hj⟩:=yb (i+1+k);have B:σ 6=int j:=by rw[h6];congr 2;omega
  rw[hj]at H p z;by_cases f:j<l.length
  ·have hc:=fun Y' Z=>Zu rZ l[j] Y' Z (T _ (zo f))
   have J:=q8 j;have hww:=wN (((wQ (l.take j)).length:Int)+1);have t:(zA (wQ (l.take j))++a++zA (l.drop j))[j]?=some [str l[j]]:=by rw[qo (by simp;omega),zg f,VR];rw[show j-(zA (wQ (l.take j))++a).length=0 by simp;omega];rfl
   have n:(zA (wQ (l.take j))++a++zA (l.drop j)).length=l.length:=by simp;omega
   obtain⟨rows,d⟩:=yb (zA (wQ (l.take j))++a++zA (l.drop j));rw[d]at p t n;have o:∀h:j<rows.length,rows[j]=[str l[j]]:=fun h=>(zd.1 t).2
   have s:=J4 f;have K:i+1+(k+1)=j+1:=by omega
   have v:(wQ (l.take j)).length<l.length:=by omega
   cases S:rZ l[j]
   ·rw[S,zj (by simp)]at s;obtain⟨y,b,rfl,C⟩:∃y b,a=[y]::b/\∀c∈b,c.length=1:=by
     cases a with
     |nil=>simp at I
     |cons x b=>
      have:=A x (by simp)
      match x,this with
      |[y],_=>exact⟨y,b,rfl,fun c hc=>A c (by simp[hc])⟩
    have hg3:∀h:(wQ (l.take j)).length<rows.length,rows[(wQ (l.take j)).length]=[y]:=fun h=>by
     have:rows[(wQ (l.take j)).length]?=some [y]:=by rw[<-d,z8,qo (by simp)];simp
     exact(zd.1 this).2
    have L:rows.set (wQ (l.take j)).length [str l[j]]=zA (wQ (l.take j))++([str l[j]]::b++zA (l.drop j)):=by rw[<-d,z8,vu _ _ (by simp)];simp
    simp only[ze]at z;simp[h0,h1,H,B,fQ,f,p,o,hc,S,J,hww,v,n,hg3,L,K,s];refine⟨by omega,by omega,fun q M=>by rw[zT _ _ _ _ M];exact w q M,b++[[str l[j]]],?_,by simp;omega,by simp,?_⟩
    ·rw[ep];simp;rw[zg f,VR]
    ·intro c hc;rcases wy.1 hc with hc|hc
     ·exact C c hc
     ·simp at hc;subst hc;rfl
   ·rw[S,zl rfl]at s;simp[h0,h1,H,B,fQ,f,p,o,hc,S,J,K,s,n];refine⟨by omega,by omega,w,a++[[str l[j]]],?_,by simp;omega,by simp,?_⟩
    ·rw[<-d];simp;rw[zg f,VR]
    ·intro c hc;rcases wy.1 hc with hc|hc
     ·exact A c hc
     ·simp at hc;subst hc;rfl
  ·obtain rfl:j=l.length:=by omega
   rw[wq]at H p z;rw[zp,Ms,wg]at p;have hn1:¬(l.length:Int)<l.length:=by omega
   have u:(wQ l).length<=l.length:=by omega
   have g:l.length-(wQ l).length=a.length:=by omega
   have hcl:KK prog Y Z 39 (.own id (wQ l).length a.length)=some (.qZ [],zI Y id (some ⟨9,1,true,zA (wQ l)++List.replicate a.length [str []]⟩),Z):=by
    have ht:(zA (wQ l)++a).take (wQ l).length=zA (wQ l):=by rw[List.take_append_of_le_length (by simp),Hb]
    have hd:(zA (wQ l)++a).drop ((wQ l).length+a.length)=[]:=cC (by simp);simp[KK,p,ht,hd,I,str]
   have hs1:∀Y:Hp,Y id=some ⟨9,1,true,zA (wQ l)++a⟩->y8 prog Y 39 (.own id 0 l.length) (some (some (int (wQ l).length))) none=some (.own id (wQ l).length a.length):=fun Y E=>by
    have:¬l.length=(wQ l).length:=by omega
    simp[y8,E,jZ,u,g,this];intro e;rw[e]at g⊢;simp at g;simp[g]
   have hs2:∀(Y:Hp) (r:List zb),Y id=some ⟨9,1,true,r⟩->y8 prog Y 39 (.own id 0 l.length) none (some (some (int (wQ l).length)))=some (.own id 0 (wQ l).length):=fun Y r E=>by simp[y8,E,jZ,u]
   have N:=hs1 Y p;have P:=hs2 (zI Y id (some ⟨9,1,true,zA (wQ l)++List.replicate a.length [str []]⟩)) _ (by simp;rfl);simp[h0,h1,H,B,fQ,p,N,P,hcl,f158];exact⟨rfl,rfl,⟨_,by simp;rfl⟩,fun q M=>by rw[zT _ _ _ _ M];exact w q M⟩
end Go.Q
