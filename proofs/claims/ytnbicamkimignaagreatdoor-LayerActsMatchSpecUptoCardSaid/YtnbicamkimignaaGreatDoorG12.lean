/- Lemmas. -/
import Derived.Test.YtnbicamkimignaaGreatDoorG11
set_option maxRecDepth 100000
open Go Proofs Proofs.YtnbicamkimignaaGreatDoor Proofs.Tryz RowKit AM SpanLaw Q Zz
open Go.IntKind renaming i64→i6
namespace Go.Q
def uV(done:List za)(k:Nat):List zc:=done.map (fun p=>[str p])++List.replicate k [str []]
theorem CK(done:List za)(k:Nat)(p:za):(uV done (k+1)).set done.length [str p]=uV (done++[p]) k:=by unfold uV;rw[zeN _ _ (by simp)];simp[List.replicate_succ]
theorem CL(done:List za)(k:Nat):(uV done (k+1))[done.length]?=some [str []]:=by unfold uV;rw[qg (by simp)];simp[List.replicate_succ]
theorem L9(done:List za):uV done 0=done.map fun p=>[str p]:=by simp[uV]
def qC(s sep:za):List za:=Lib.split s sep
theorem b5{sep s:za}{i k:Nat}(h:Lib.index s sep=i):Lib.splitK sep 0 (k+1) s=s.take i::Lib.splitK sep 0 k (s.drop (i+sep.length)):=by
 have a:¬(Lib.index s sep==-1)=true:=by rw[eO];omega
 rw[Lib.splitK,zj a,h];simp
theorem sH{s sep:za}(h:sep≠[]):Lib.count s sep≤s.length:=by have:=Lib.countB_le ⟨sep.toArray⟩ (by cases sep<;>simp_all) s.length ⟨s.toArray⟩ (by simp);simpa[Lib.countB]using this
theorem Ph(a b:za)(Y:Hp)(Z:Nat)(h:a.length≤zG)(c:b.length≤zG)(d:1≤b.length):zi false [] (Jv cntP fun _ b=>1≤b.length) [str a,str b] Y Z=some (int (Lib.count a b),Y,Z):=ZM _ _ a b Y Z h c d rfl
def Ve(xs:List za):jz:=⟨9,1,true,xs.map fun p=>[str p]⟩
theorem pP(s sep:za)(G:s.length≤zG)(H:sep.length≤zG)(w:1≤sep.length) :
  ∃x Y Z,yr Ci2 f247 [str s,str sep,int 0,int (-1)] (fun _=>none) 0=some (x,Y,Z)∧kd (some (Ve (qC s sep))) x Y Z:=by
 have b:sep≠[]:=by intro e;subst e;simp at w
 have I:=sH (s:=s) b;unfold zG at G H;refine zlT rfl ?_;have m:(sep==[])=false:=by simpa using b
 have y:i6.wrap ((Lib.count s sep:Int)+1)=(Lib.count s sep:Int)+1:=zn (by omega) (by omega);have J:i6.wrap ((s.length:Int)+1)=(s.length:Int)+1:=zn (by omega) (by omega);have w3:(if(s.length:Int)+1<(Lib.count s sep:Int)+1 then(s.length:Int)+1 else(Lib.count s sep:Int)+1)=(Lib.count s sep:Int)+1:=zj (by omega);have K:i6.wrap ((Lib.count s sep:Int)+1-1)=(Lib.count s sep:Int):=by rw[zn (by omega) (by omega)];omega
 have n:i6.wrap (Lib.count s sep:Int)=Lib.count s sep:=zn (by omega) (by omega);have z:((Lib.count s sep:Int)+1).toNat=Lib.count s sep+1:=by omega
 have A:0≤(Lib.count s sep:Int)+1:=by omega
 have c3:Lib.count s sep+1≤maxLen:=by simp[maxLen];omega
 have L:(Lib.count s sep+1)*16≤140737488355328:=by omega
 have o:=fun Y Z=>Ph s sep Y Z (by unfold zG;omega) (by unfold zG;omega) w
 have p:¬s.length<Lib.count s sep:=by omega
 have M:(Lib.count s sep:Int)+1≤(maxLen:Int):=by simp[maxLen];omega
 simp[m,o,y,J,p,K,n,YN,z,A,M,L];refine zQ (fun j c Y Z=>∃done cur,done.length=j∧c 0=str cur∧c 1=str sep∧c 2=int 0∧c 3=int (Lib.count s sep)∧c 9=.own 0 0 (Lib.count s sep+1)∧c 10=int j ∧
   Y 0=some ⟨9,1,true,uV done (Lib.count s sep+1-j)⟩∧j+Lib.count cur sep=Lib.count s sep∧qC s sep=done++qC cur sep∧cur.length≤s.length) (Lib.count s sep)
  ⟨[],s,rfl,by simp,by simp,by simp,by simp[n],by simp,by simp,by simp[uV],by simp,by simp,ze _⟩ ?_
 rintro j c Y Z hj ⟨done,cur,hd,B,C,D,E,F,f,l,hc,hs,hl⟩;have g:∀Y Z,zi false [] (Jv Gm fun _ _=>True) [str cur,str sep] Y Z=some (int (Lib.index cur sep),Y,Z):=fun Y Z=>Kn cur sep Y Z (by unfold zG;omega) (by unfold zG;omega)
 by_cases q:j<Lib.count s sep
 ·have N:Lib.index cur sep≠-1:=fun e=>by have:=Lib.count_miss e;omega
  have r:0≤Lib.index cur sep:=by
   rcases Lib.index_spec cur sep with⟨h,_⟩|⟨i,h,_⟩
   ·exact absurd h N
   ·omega
  obtain⟨i,t⟩:∃i:Nat,Lib.index cur sep=i:=⟨(Lib.index cur sep).toNat,by omega⟩;have P:=Lib.index_room cur sep r;rw[t]at P g;have u:=Lib.count_hit b t;have d:qC cur sep=cur.take i::qC (cur.drop (i+sep.length)) sep:=by unfold qC Lib.split;rw[u,eL 1,b5 t]
  have Q:¬((i:Int)<0):=by omega
  have R:i6.wrap (i:Int)=i:=zn (by omega) (by omega);have S:i6.wrap ((i:Int)+sep.length)=(i:Int)+sep.length:=zn (by omega) (by omega);have T:i6.wrap ((j:Int)+1)=(j:Int)+1:=zn (by omega) (by omega);have U:((i:Int)+sep.length).toNat=i+sep.length:=by omega
  have W:i+sep.length≤cur.length:=by omega
  have X:i≤cur.length:=by omega
  have k8:0≤(i:Int)+sep.length:=by omega
  have k9:j<Lib.count s sep+1:=by omega
  have v:Lib.count s sep+1-j=(Lib.count s sep-j)+1:=by omega
  have k:=CL done (Lib.count s sep-j);rw[hd]at k;have a:=CK done (Lib.count s sep-j) (cur.take i);rw[hd]at a;rw[v]at l;simp[B,C,D,E,F,f,l,q,g,Q,R,S,T,U,W,X,k8,k9,k,a];have ht:List.take (cur.length-(i+sep.length)) (List.drop (i+sep.length) cur)=List.drop (i+sep.length) cur:=qp (by simp);rw[ht];exact⟨by omega,done++[cur.take i],by simp[hd],rfl,by omega,by rw[hs,d];simp,by omega⟩
 ·obtain rfl:j=Lib.count s sep:=by omega
  have hz:Lib.count cur sep=0:=by omega
  have d:qC cur sep=[cur]:=by unfold qC Lib.split;rw[hz];rfl
  have v:Lib.count s sep+1-Lib.count s sep=0+1:=by omega
  have k:=CL done 0;have a:=CK done 0 cur;rw[hd]at k a;rw[v]at l;simp[B,C,D,E,F,f,l,k,a,y,n,z,A,kd,js,f247];rw[hs,d];exact⟨0,⟨by omega,by simp[Ve,hd]⟩,by simp[Ve,L9]⟩
noncomputable def FGs:zc→Option (Option jz):=qv (α:=za×za) (fun a=>[str a.1,str a.2,int 0,int (-1)]) (fun a=>a.1.length≤zG∧a.2.length≤zG∧1≤a.2.length) (fun a=>some (Ve (qC a.1 a.2)))
noncomputable def FSp:zc→Option (Option jz):=qv (α:=za×za) (fun a=>[str a.1,str a.2]) (fun a=>a.1.length≤zG∧a.2.length≤zG∧1≤a.2.length) (fun a=>some (Ve (qC a.1 a.2)))
theorem zdK:∀a b:za×za,[str a.1,str a.2,int 0,int (-1)]=[str b.1,str b.2,int 0,int (-1)]→a=b:=by rintro⟨c,d⟩ ⟨f,g⟩ e;simp only[zh,zK]at e;rw[wx e.1,wx e.2]
theorem mV:zg prog 247 (yO [] FGs):=
 jw (fn:=f247) (code:=_) Pe ⟨func247,by kernel_rfl,rfl,by kernel_rfl⟩ [] _ fun args r h=>by obtain⟨⟨a,b⟩,rfl,⟨c,d,e⟩,rfl⟩:=zr h;exact⟨by simp[f247],pP a b c d e⟩
theorem UN(a b:za)(Y:Hp)(Z:Nat)(c:a.length≤zG)(d:b.length≤zG)(f:1≤b.length):yO [] FGs [str a,str b,int 0,int (-1)] Y Z=some (.own Z 0 (qC a b).length,qZ Y Z (some (Ve (qC a b))),Z+1):=by have e:FGs (yf [] [str a,str b,int 0,int (-1)])=some (some (Ve (qC a b))):=zJ (V:=fun a:List UInt8×za=>[str a.1,str a.2,int 0,int (-1)]) (a:=(a,b)) zdK ⟨c,d,f⟩;simp[yO,e,Ve]
noncomputable abbrev Csp:Ctx:=qb prog [(247,yO [] FGs)]
theorem zdL:AM.Good Csp (fun g=>([]:List Nat).contains g):=zI mixed ⟨mV,by simp,trivial⟩
theorem WC:zg prog 219 (yO [] FSp):=
 jw (fn:=f219) (code:=_) zdL ⟨func219,by kernel_rfl,rfl,by kernel_rfl⟩ [] _ fun args r h=>by
  obtain⟨⟨a,b⟩,rfl,⟨c,d,e⟩,rfl⟩:=zr h;have f:=fun Y Z=>UN a b Y Z c d e
  exact⟨by simp[f219],zlT rfl (by simp[f,kd,Ve,f219])⟩
theorem Z5(a b:za)(Y:Hp)(Z:Nat)(c:a.length≤zG)(d:b.length≤zG)(f:1≤b.length):yO [] FSp [str a,str b] Y Z=some (.own Z 0 (qC a b).length,qZ Y Z (some (Ve (qC a b))),Z+1):=by have e:FSp (yf [] [str a,str b])=some (some (Ve (qC a b))):=zJ (V:=fun a:List UInt8×za=>[str a.1,str a.2]) (a:=(a,b)) uS ⟨c,d,f⟩;simp[yO,e,Ve]
def Vf(c:UInt8):Bool:=pr 48 57 c
def vA(l:za):Bool:=l.all Vf
def y0(l:za):Bool:=!(l==[])&&!(decide (1<l.length)&&l.headD 0==48)&&vA l
def yq(l:za):Bool:=l==[120]||l==[88]||l==[42]
def Ko(c:UInt8):Bool:=pr 97 122 c||pr 65 90 c||pr 48 57 c||c==45
def fk(l:za):Bool:=l.all Ko&&!(l==[])
theorem fm{l:za}{k:Nat}(h:k<l.length):vA (l.drop k)=(Vf l[k]&&vA (l.drop (k+1))):=de h
theorem sI{l:za}{k:Nat}(h:k<l.length):(l.drop k).all Ko=(Ko l[k]&&(l.drop (k+1)).all Ko):=de h
theorem mW(l:za)(j:l.length≤zG):zz C0 f326 [str l]=some (wq (vA l)):=by
 refine zo rfl ?_;unfold zG at j;simp;refine zQ (fun k d Y Z=>d 0=str l∧d 5=int l.length∧d 6=int k∧vA l=vA (l.drop k)) l.length ⟨by simp,by simp,by simp,by simp⟩ ?_;rintro k d Y Z n ⟨f,g,h,b⟩;by_cases a:k<l.length
 ·have m:i6.wrap ((k:Int)+1)=(k:Int)+1:=zn (by omega) (by omega);rw[fm a]at b;have i:=Xn 48 57 l[k];simp only[ZX]at i;cases e:Vf l[k]
  ·have b:vA l=false:=by rw[b,e];rfl
   have c:pr 48 57 l[k]=false:=e;simp[f,g,h,a,b,i,c,f326]
  ·have c:pr 48 57 l[k]=true:=e;simp[f,g,h,a,i,c,m];exact⟨a,by rw[b,e];rfl⟩
 ·obtain rfl:k=l.length:=by omega
  have b:vA l=true:=by rw[b,zl];rfl
  simp[f,g,h,b,f326]
theorem WY:zg prog 326 (zi false [] (FS vA)):=
 qq (fn:=f326) w8 ⟨_,func326,by kernel_rfl,rfl,by kernel_rfl⟩ false [] _ fun args r h=>by obtain⟨l,rfl,Y,rfl⟩:=zr h;exact⟨by simp[f326],_,mW l Y,qm _⟩
noncomputable abbrev Cdg:Ctx:=qb prog [(326,zi false [] (FS vA))]
theorem zdM:AM.Good Cdg (fun g=>[326].contains g):=zI mixed ⟨WY,fun _=>zt _ _,trivial⟩
theorem Gp(l:za)(g:l.length≤zG):zz Cdg f290 [str l]=some (wq (y0 l)):=by
 refine zo rfl ?_;have hd:=fun Y Z=>vn vA l Y Z g
 cases l with
 |nil=>simp[y0,f290]
 |cons c l=>
  by_cases b:0<l.length
  ·have a:l≠[]:=by intro e;subst e;simp at b
   have f:(1:Int)<(l.length:Int)+1:=by omega
   by_cases d:c=48
   ·subst d;simp[hd,b,a,f,y0,f290]
   ·have h:((c.toNat:Int)==48)=false:=by rw[q7];intro e;apply d;rw[←Jc];simp;omega
    simp[hd,b,a,d,h,f,y0,f290]
  ·have a:l=[]:=by cases l<;>simp_all
   subst a;simp[hd,y0,f290]
theorem gO:zg prog 290 (zi false [] (FS y0)):=
 qq (fn:=f290) zdM ⟨_,func290,by kernel_rfl,rfl,by kernel_rfl⟩ false [] _ fun args r h=>by obtain⟨l,rfl,Y,rfl⟩:=zr h;exact⟨by simp[f290],_,Gp l Y,qm _⟩
theorem Ma(l:za):zz C0 f232 [str l]=some (wq (yq l)):=by
 refine zo rfl ?_;cases a:(l==[120])
 ·cases b:(l==[88])
  ·simp[a,b,yq,f232]
  ·simp[a,b,yq,f232]
 ·simp[a,yq,f232]
theorem mX:zg prog 232 (zi false [] (FS yq)):=
 qq (fn:=f232) w8 ⟨_,func232,by kernel_rfl,rfl,by kernel_rfl⟩ false [] _ fun args r h=>by obtain⟨l,rfl,Y,rfl⟩:=zr h;exact⟨by simp[f232],_,Ma l,qm _⟩
def uW(l:za):Int:=((Lib.decNat l).getD 0:Nat)
theorem Vg:∀(l:za) (a:Nat),vA l=true→∃n,Lib.decFrom a l=some n∧n<(a+1)*10 ^ l.length
 |[],a,_=>⟨a,rfl,by simp⟩
 |c::l,a,h=>by
  simp only[vA,qN,zF]at h;have b:48≤c.toNat∧c.toNat≤57:=by have:=h.1;simpa[Vf,pr]using this
  obtain⟨n,d,e⟩:=Vg l (a*10+(c.toNat-48)) h.2;refine⟨n,?_,?_⟩
  ·simp only[Lib.decFrom,Lib.digitVal,b,and_self,wi];exact d
  ·have f:a*10+(c.toNat-48)+1≤(a+1)*10:=by omega
   calc n<(a*10+(c.toNat-48)+1)*10 ^ l.length:=e
    _≤(a+1)*10*10 ^ l.length:=qB _ f
    _=(a+1)*10 ^ (c::l).length:=by rw[qa,Nat.pow_succ,Nat.mul_assoc,zb8 10]
theorem mY{l:za}(h:y0 l=true):l≠[]∧vA l=true:=by simp only[y0,zF]at h;exact⟨by intro e;subst e;simp at h,h.2⟩
theorem Gq{l:za}(h:y0 l=true):Lib.atoi l=some (uW l):=by
 obtain⟨a,b⟩:=mY h;obtain⟨n,i,_⟩:=Vg l 0 b;have f:Lib.decNat l=some n:=by unfold Lib.decNat;rw[zj (by simpa using a)];exact i
 cases l with
 |nil=>exact absurd rfl a
 |cons c l=>
  have k:48≤c.toNat∧c.toNat≤57:=by have:=b;simp only[vA,qN,zF]at this;simpa[Vf,pr]using this.1
  have j:uW (c::l)=n:=by unfold uW;rw[f];rfl
  rw[j];have g:∀d:UInt8,d.toNat<48→(c==d)=false:=fun d hd=>by rw[q7];intro e;subst e;omega
  unfold Lib.atoi;simp only[];rw[g 45 (by decide),g 43 (by decide),f];rfl
noncomputable def FAt:zc→Option O:=qv (α:=za) (fun l=>[str l]) (fun l=>l.length≤18∧y0 l=true) (fun l=>.yb [int (uW l),.v .nilIface])
theorem Pj{dr:Prop}(w:World)(e:TypeId)(s:ByteArray):Fr dr w (fun _=>False) (Lib.bytesWorld w e s):=by
 have d:∀(b:World) (a:Addr) (n k:Nat),k≠a.block→(b.freeze a n).heap[k]?=b.heap[k]?:=by
  intro b a n k c;unfold World.freeze;split
  ·rfl
  ·simp[Ji,Ne.symm c]
 have f:∀(b:World) (a:Addr) (n:Nat),(b.freeze a n).heap.size=b.heap.size:=by intro b a n;unfold World.freeze;split<;>simp
 unfold Lib.bytesWorld;refine⟨rfl,rfl,rfl,?_,?_,fun k c _=>?_⟩
 ·rw[f];simp
 ·exact fun _=>ja _
 ·rw[d _ _ _ k (by simpa using Nat.ne_of_lt c)];exact(Below.heap_alloc w.drew _ k c)
@[simp]theorem Ts(a:Nat→O):AM.get a (.const .nilIface)=some (.v .nilIface):=rfl
theorem mZ:zg prog 291 (zi false [] FAt):=
 xL ⟨_,func291,by kernel_rfl,by kernel_rfl⟩ fun args r h=>by
  obtain⟨l,rfl,⟨c,d⟩,rfl⟩:=zr h;refine⟨[.string ⟨l.toArray⟩],rfl,by simp[lit],rfl,.tuple #[.int .i64 (uW l),.nilIface],fun w S=>.yb rfl fun j g u a b=>?_,fun w S _=>?_⟩
  ·match j,a,b with
   | 0,a,b=>simp at a b;subst a;subst b;exact .v rfl
   | 1,a,b=>simp at a b;subst a;subst b;exact .v rfl
   |j+2,a,b=>simp at a
  refine(Any.strconv_Atoi Tryz.zch ⟨l.toArray⟩ (uW l) (by simpa using c) (by simpa using Gq d) w).mono fun e i f=>?_
  obtain⟨rfl,t,rfl⟩:=f;exact⟨rfl,Pj _ _ _⟩
theorem sJ(l:za)(Y:Hp)(Z:Nat)(c:l.length≤18)(d:y0 l=true):zi false [] FAt [str l] Y Z=some (.yb [int (uW l),.v .nilIface],Y,Z):=
 qe rfl (zJ (V:=fun l:List UInt8=>[str l]) (a:=l) (fun a b e=>by simp only[zh,zK]at e;exact wx e) ⟨c,d⟩) (.inl rfl)
def Zc(l:za):Option Int:=if y0 l=true∧l.length≤6 then some (uW l)else none
def Jw(l:za):O:=.yb [int ((Zc l).getD 0),wq (Zc l).isSome]
noncomputable def Oe (f:za→O):zc→Option O:=qv (α:=za) (fun l=>[str l]) (fun l=>l.length≤zG) f
theorem dj(f:za→O)(l:za)(Y:Hp)(Z:Nat)(h:l.length≤zG)(c:(f l).flat=true):zi false [] (Oe f) [str l] Y Z=some (f l,Y,Z):=
 qe rfl (zJ (V:=fun l:List UInt8=>[str l]) (a:=l) (fun a b e=>by simp only[zh,zK]at e;exact wx e) h) (.inl c)
noncomputable abbrev Cvn:Ctx:=qb prog [(290,zi false [] (FS y0)),(291,zi false [] FAt)]
theorem zdN:AM.Good Cvn (fun g=>[290].contains g):=zI mixed ⟨gO,fun _=>zt _ _,mZ,fun _=>zt _ _,trivial⟩
theorem b6(l:za)(f:l.length≤zG):zz Cvn f264 [str l]=some (Jw l):=by
 refine zo rfl ?_;have b:=fun Y Z=>vn y0 l Y Z f
 cases a:y0 l
 ·simp[b,a,Jw,Zc,wH,f264]
 ·by_cases e:l.length≤6
  ·have c:¬((6:Int)<l.length):=by omega
   have g:=fun Y Z=>sJ l Y Z (by omega) a
   simp[b,a,e,c,g,Ic,Jw,Zc,wH,f264]
  ·have c:(6:Int)<l.length:=by omega
   have d:6<l.length:=by omega
   simp[b,a,e,d,c,Jw,Zc,wH,f264]
theorem Ya:zg prog 264 (zi false [] (Oe Jw)):=
 qq (fn:=f264) zdN ⟨_,func264,by kernel_rfl,rfl,by kernel_rfl⟩ false [] _ fun args r h=>by obtain⟨l,rfl,Y,rfl⟩:=zr h;exact⟨by simp[f264],_,b6 l Y,qm _⟩
@[simp]theorem zfW(P:Program)(Y:Hp)(t:TypeId)(id a b:Nat)(k:IntKind)(i:Int)(h:yK P t=none):wb P Y t (.ref id a b) (.v (.int k i))=(lU P t).bind fun c=>(q8 P c.2).bind fun n=>if 0≤i∧i<c.1 then some (.ref id a (b+i.toNat*n))else none:=by
 simp only[wb,h,Zu];cases lU P t with
 |none=>rfl
 |some c=>obtain⟨m,e⟩:=c;simp only[zS];cases q8 P e<;>rfl
@[simp]theorem zfX(P:Program)(Y:Hp)(t:TypeId)(cs:zc)(k:IntKind)(i:Int)(h:yK P t=none):wb P Y t (.ptr cs) (.v (.int k i))=(lU P t).bind fun a=>(q8 P a.2).bind fun n=>if 0≤i∧i<a.1 then some (.ptr (cs.drop (i.toNat*n)))else none:=by
 simp only[wb,h,Zu];cases lU P t with
 |none=>rfl
 |some a=>obtain⟨m,e⟩:=a;simp only[zS];cases q8 P e<;>rfl
@[simp]theorem wrl0:i6.wrap 0=0:=zn (by decide) (by decide)
@[simp]theorem wrl1:i6.wrap 1=1:=zn (by decide) (by decide)
@[simp]theorem wrl2:i6.wrap 2=2:=zn (by decide) (by decide)
@[simp]theorem wrl3:i6.wrap 3=3:=zn (by decide) (by decide)
theorem Gr(l:za)(i:l.length≤zG):zz C0 f325 [str l]=some (wq (fk l)):=by
 refine zo rfl ?_;unfold zG at i;simp;refine zQ (fun k c Y Z=>c 0=str l∧c 6=int l.length∧c 7=int k∧l.all Ko=(l.drop k).all Ko) l.length ⟨by simp,by simp,by simp,by simp⟩ ?_;rintro k c Y Z n ⟨f,g,h,b⟩;by_cases a:k<l.length
 ·have j:i6.wrap ((k:Int)+1)=(k:Int)+1:=zn (by omega) (by omega);rw[sI a]at b;have d:(decide ((97:Int)≤l[k].toNat)&&decide ((l[k].toNat:Int)≤122)||decide ((65:Int)≤l[k].toNat)&&decide ((l[k].toNat:Int)≤90)||decide ((48:Int)≤l[k].toNat)&&decide ((l[k].toNat:Int)≤57)||((l[k].toNat:Int)==45))=Ko l[k]:=by
   have m:((l[k].toNat:Int)==45)=(l[k]==45):=by rw[qA];simp[←Jc];omega
   rw[m,qA];simp[Ko,pr,←Jc];omega
  cases e:Ko l[k]
  ·have b:l.all Ko=false:=by rw[b,e];rfl
   rw[e]at d;simp[f,g,h,a,d,fk,b,-List.all_eq_true,-List.all_eq_false,f325]
  ·rw[e]at d;simp[f,g,h,a,d,j,-List.all_eq_true,-List.all_eq_false];exact⟨a,by rw[b,e];rfl⟩
 ·obtain rfl:k=l.length:=by omega
  have b:l.all Ko=true:=by rw[b,zl];rfl
  simp[f,g,h,b,fk,-List.all_eq_true,f325]
theorem CM:zg prog 325 (zi false [] (FS fk)):=
 qq (fn:=f325) w8 ⟨_,func325,by kernel_rfl,rfl,by kernel_rfl⟩ false [] _ fun args r h=>by obtain⟨l,rfl,Y,rfl⟩:=zr h;exact⟨by simp[f325],_,Gr l Y,qm _⟩
theorem pQ:zg prog 324 (zi false [] (F3 jg)):=
 qq (fn:=f324) w8 ⟨_,func324,by kernel_rfl,rfl,by kernel_rfl⟩ false [] _ fun args r h=>by obtain⟨a,b,c,rfl,rfl⟩:=mD h;exact⟨by simp[f324],_,zo rfl (by simp[f324,jg]),qm _⟩
structure yJ where
 a:Int
 b:Int
 c:Int
 pre:List (List UInt8)
def qd(l:List za):List zc:=l.map fun p=>[str p]
theorem vf{a b:List za}(h:qd a=qd b):a=b:=y7 (fun x y e=>by simp only[zh,zK]at e;exact wx e) h
@[simp]theorem Jy(l:List za):(qd l).length=l.length:=by simp[qd]
@[simp]theorem CN:qd []=[]:=rfl
@[simp]theorem Mb(l:List za):(qd l).take l.length=qd l:=qp (by simp)
@[simp]theorem ao(p:za)(l:List za):qd (p::l)=[str p]::qd l:=rfl
@[simp]theorem zjf(l:List za):Ve l=⟨9,1,true,qd l⟩:=rfl
@[simp]theorem zjg{l:List za}{k:Nat}(h:k<(qd l).length):(qd l)[k]=[str (l[k]'(by simpa using h))]:=by simp[qd]
theorem Xs{l:List za}{k:Nat}(h:k<l.length):(qd l)[k]?=some [str l[k]]:=by simp[qd,h]
def yJ.V(v:yJ):zc:=[int v.a,int v.b,int v.c,.sl 1 (qd v.pre)]
theorem Kp{a b:yJ}(h:a.V=b.V):a=b:=by
 cases a;cases b;simp only[yJ.V,zh,zK]at h;obtain⟨d,e,f,c⟩:=h;injection c with _ c
 rw[qn d,qn e,qn f,vf c]
abbrev vB:List (Option Nat):=[none,none,none,some 1]
def yJ.small(v:yJ):Prop:=v.pre.length≤zG∧∀p∈v.pre,p.length≤zG
def yF(p:za):Bool:=decide (20<p.length)||!fk p||(vA p&&!y0 p)
def Ys(v:yJ):Int:=if jg v.a 0 999999=true∧jg v.b 0 999999=true∧jg v.c 0 999999=true then(if 10<v.pre.length then 2 else if v.pre.any yF then 3 else 0)else 1
noncomputable def FVr (f:yJ→O):zc→Option O:=qv (α:=yJ) (fun v=>[.agg v.V]) yJ.small f
theorem CO(f:yJ→O)(v:yJ)(x:O)(Y Y1:Hp)(Z:Nat)(y:O)(d:zA Y [x]=some ([y],Y1))(i:(Sh.g vB).fix y=.agg v.V)(h:v.small)(c:(f v).flat=true):qh [.g vB] (FVr f) [x] Y Z=some (f v,Y,Z):=by
 have e:FVr f (YR [.g vB] (yf [] [y]))=some (f v):=by show FVr f [(Sh.g vB).fix y]=_;rw[i];exact zJ (V:=fun v:yJ=>[O.agg v.V]) (a:=v) (fun a b e=>by simp only[zh,zK]at e;injection e with e;exact Kp e) h
 unfold qh zi;simp only[d,e,c,true_or,wi]
noncomputable abbrev Pk:Ctx:=qb prog [(324,zi false [] (F3 jg)),(325,zi false [] (FS fk)),(326,zi false [] (FS vA)),(290,zi false [] (FS y0))]
theorem UO:AM.Good Pk (fun g=>[324,325,326,290].contains g):=zI mixed ⟨pQ,fun _=>zt _ _,CM,fun _=>zt _ _,WY,fun _=>zt _ _,gO,fun _=>zt _ _,trivial⟩
@[simp]theorem zfY:yB Pk 325:=wC (by rfl) (zt _ _)
@[simp]theorem zfZ:yB Pk 326:=wC (by rfl) (zt _ _)
@[simp]theorem zf0:yB Pk 290:=wC (by rfl) (zt _ _)
theorem dk(v:yJ)(h:v.small):zz Pk f289 [.agg v.V]=some (int (Ys v)):=by
 obtain⟨a,b,c,pre⟩:=v;obtain⟨x,o⟩:=h;simp only at x o;unfold zG at x;refine zo rfl ?_;simp[yJ.V,zv,zN,zy];rw[zW];cases n:jg a 0 999999
 ·simp[n,Ys,f289]
 simp[n];rw[zW];cases p:jg b 0 999999
 ·simp[n,p,Ys,f289]
 simp[p];rw[zW];cases q:jg c 0 999999
 ·simp[n,p,q,Ys,f289]
 simp[q];rw[zW];simp;by_cases t:10<pre.length
 ·have g:(10:Int)<pre.length:=by omega
  simp[n,p,q,t,g,Ys,f289]
 have g:¬(10:Int)<pre.length:=by omega
 simp[t,g];have u:Ys ⟨a,b,c,pre⟩=if pre.any yF then 3 else 0:=by simp[Ys,n,p,q,t]
 rw[u];refine zQ (fun k r Y Z=>r 28=.sl 1 (qd pre)∧r 29=int pre.length∧r 30=int k∧pre.any yF=(pre.drop k).any yF) pre.length ⟨by simp,by simp,by simp,by simp⟩ ?_;rintro k r Y Z C ⟨i,j,l,f⟩;by_cases d:k<pre.length
 ·have D:i6.wrap ((k:Int)+1)=(k:Int)+1:=zn (by omega) (by omega);have y:=Xs d;rw[zd d,yy]at f;have m:=o _ (zm d);have z:=fun Y Z=>vn fk pre[k] Y Z m
  have A:=fun Y Z=>vn vA pre[k] Y Z m
  have B:=fun Y Z=>vn y0 pre[k] Y Z m
  have w:yF pre[k]=(decide (20<pre[k].length)||!fk pre[k]||(vA pre[k]&&!y0 pre[k])):=rfl;have e:(decide ((20:Int)<pre[k].length)||!fk pre[k]||vA pre[k]&&!y0 pre[k])=yF pre[k]:=by rw[w];congr 2;rw[qA];simp;omega
  cases s:yF pre[k]
  ·rw[s]at e;simp[i,j,l,d,y,z,A,B,e,D];exact⟨d,by rw[f,s];rfl⟩
  ·rw[s]at e;have f:pre.any yF=true:=by rw[f,s];rfl
   simp[i,j,l,d,y,z,A,B,e,f,-List.any_eq_true,f289]
 ·obtain rfl:k=pre.length:=by omega
  have f:pre.any yF=false:=by rw[f,zl];rfl
  simp[i,j,l,f,-List.any_eq_false,f289]
theorem UP{f:yJ→O}{args:zc}{r:O}(h:FVr f args=some r):∃v:yJ,args=[.agg v.V]∧v.small∧r=f v:=zr h
theorem b7:zg prog 289 (qh [.g vB] (FVr fun v=>int (Ys v))):=
 wo (fn:=f289) UO ⟨_,func289,by kernel_rfl,rfl,by kernel_rfl⟩ _ _ fun args r h=>by obtain⟨v,rfl,a,rfl⟩:=UP h;exact⟨by simp[f289],_,dk v a,qM.refl _⟩
theorem na(sep:za):∀(k:Nat) (s p:za),p∈Lib.splitK sep 0 k s→p.length≤s.length
 | 0,s,p,h=>by simp[Lib.splitK]at h;rw[h];exact ze _
 |k+1,s,p,h=>by
  unfold Lib.splitK at h;split at h
  ·simp at h;rw[h];exact ze _
  ·rcases zL.1 h with rfl|h
   ·simp;omega
   ·have:=na sep k _ p h;simp at this;omega
theorem nb(sep:za):∀(k:Nat) (s:za),(Lib.splitK sep 0 k s).length≤k+1
 | 0,s=>by simp[Lib.splitK]
 |k+1,s=>by
  unfold Lib.splitK;split
  ·simp
  ·have:=nb sep k (s.drop ((Lib.index s sep).toNat+sep.length));simp;omega
theorem xt{s sep p:za}(h:p∈qC s sep):p.length≤s.length:=na _ _ _ _ h
theorem Zm{s sep:za}(h:sep≠[]):(qC s sep).length≤s.length+1:=by have a:=nb sep (Lib.count s sep) s;have b:=sH (s:=s) h;exact zC a (by omega)
theorem Pl(s sep:za):(Lib.cut s sep).1.length≤s.length∧(Lib.cut s sep).2.1.length≤s.length:=by
 unfold Lib.cut;split
 ·simp;omega
 ·simp
noncomputable def aO (f:za→O):zc→Option O:=qv (α:=za) (fun l=>[str l]) (fun l=>l.length+1≤zG) f
theorem Zy(f:za→O)(l:za)(Y:Hp)(Z:Nat)(h:l.length+1≤zG):zi false [] (aO f) [str l] Y Z=some (f l,Y,Z):=
 qe rfl (zJ (V:=fun l:List UInt8=>[str l]) (a:=l) (fun a b e=>by simp only[zh,zK]at e;exact wx e) h) (.inr (by simp))
def cP:yJ:=⟨0,0,0,[]⟩
def xA(t:za):List za:=if(Lib.cut t [45]).2.2 then qC (Lib.cut t [45]).2.1 [46]else[]
def uX(t:za):Option yJ:=match qC (Lib.cut t [45]).1 [46]with
 |[d,e,f]=>match Zc d,Zc e,Zc f with
  |some a,some b,some c=>if Ys ⟨a,b,c,xA t⟩=0 then some ⟨a,b,c,xA t⟩else none
  |_,_,_=>none
 |_=>none
def Iu(t:za):O:=match uX t with
 |some v=>.yb [.agg v.V,int 0]
 |none=>.yb [.agg cP.V,int 10]
noncomputable abbrev Crv:Ctx:=qb prog [(279,zi false [] (Jv pO fun _ _=>True)),(219,yO [] FSp),(264,zi false [] (Oe Jw)),(289,qh [.g vB] (FVr fun v=>int (Ys v)))]
theorem zdO:AM.Good Crv (fun g=>([]:List Nat).contains g):=zI mixed ⟨mU,by simp,WC,by simp,Ya,by simp,b7,by simp,trivial⟩
theorem aq(l:za)(Y:Hp)(Z:Nat)(h:l.length≤zG):zi false [] (Oe Jw) [str l] Y Z=some (.yb [int ((Zc l).getD 0),wq (Zc l).isSome],Y,Z):=dj Jw l Y Z h rfl
theorem zcI{α:Type}{l:List α}(h:l.length=3):∃a b c,l=[a,b,c]:=by
 match l,h with
 |[a,b,c],_=>exact⟨a,b,c,rfl⟩
theorem fo(t:za)(N:t.length+1≤zG):∃I,zz Crv f263 [str t]=some I∧qM I (Iu t):=by
 refine y8 (sh:=.g vB) rfl ?_;have J:=Pl t [45];have m:=fun Y Z=>mT t [45] Y Z (by omega) (by decide)
 have r:=fun Y Z=>Z5 (Lib.cut t [45]).1 [46] Y Z (by omega) (by decide) (by decide)
 have o:=fun Y Z=>Z5 (Lib.cut t [45]).2.1 [46] Y Z (by omega) (by decide) (by decide)
 have h:∀p∈qC (Lib.cut t [45]).1 [46],p.length≤zG:=fun p Y=>by have:=xt Y;omega
 have A:∀p∈qC (Lib.cut t [45]).2.1 [46],p.length≤zG:=fun p Y=>by have:=xt Y;omega
 have B:(qC (Lib.cut t [45]).2.1 [46]).length≤zG:=by have:=Zm (s:=(Lib.cut t [45]).2.1) (sep:=[46]) (by simp);omega
 by_cases y:(qC (Lib.cut t [45]).1 [46]).length=3
 ·obtain⟨C,D,E,d⟩:=zcI y;rw[d]at r h;have i:=fun Y Z=>aq C Y Z (h C (by simp))
  have j:=fun Y Z=>aq D Y Z (h D (by simp))
  have k:=fun Y Z=>aq E Y Z (h E (by simp))
  simp[m,r];rw[zW];cases l:Zc C with
  |none=>rw[l]at i;simp[i,Iu,uX,d,l,zR,qc,qL,cP,yJ.V,f263]
  |some a=>
   rw[l]at i;simp[i];rw[zW];cases q:Zc D with
   |none=>rw[q]at j;simp[j,Iu,uX,d,l,q,zR,qc,qL,cP,yJ.V,f263]
   |some b=>
    rw[q]at j;simp[j];rw[zW];cases u:Zc E with
    |none=>rw[u]at k;simp[k,Iu,uX,d,l,q,u,zR,qc,qL,cP,yJ.V,f263]
    |some c=>
     rw[u]at k;simp[k];rw[zW];simp[zR,qc];have F:(⟨a,b,c,[]⟩:yJ).small:=⟨by simp,by simp⟩;have G:(⟨a,b,c,qC (Lib.cut t [45]).2.1 [46]⟩:yJ).small:=⟨B,A⟩;cases z:(Lib.cut t [45]).2.2
     ·have f:=fun Y Z=>CO (fun v=>int (Ys v)) ⟨a,b,c,[]⟩ (.agg [int a,int b,int c,.nil]) Y Y Z _ rfl rfl F rfl
      by_cases w:Ys ⟨a,b,c,[]⟩=0
      ·simp[f,w,Iu,uX,xA,d,l,q,u,z,qL,yJ.V,f263]
      ·have x:(Ys ⟨a,b,c,[]⟩ != 0)=true:=by simpa using w
       simp[f,w,x,Iu,uX,xA,d,l,q,u,z,zR,qc,qL,cP,yJ.V,f263]
     ·have f:∀(Y:Hp) (Z id n:Nat),Y id=some ⟨9,1,true,qd (qC (Lib.cut t [45]).2.1 [46])⟩→n=(qC (Lib.cut t [45]).2.1 [46]).length→qh [.g vB] (FVr fun v=>int (Ys v)) [.agg [int a,int b,int c,.own id 0 n]] Y Z=some (int (Ys ⟨a,b,c,qC (Lib.cut t [45]).2.1 [46]⟩),Y,Z):=by intro Y Z id n K L;subst L;exact CO (fun v=>int (Ys v)) ⟨a,b,c,qC (Lib.cut t [45]).2.1 [46]⟩ _ Y (qZ Y id none) Z (.agg [int a,int b,int c,.sl 1 (qd (qC (Lib.cut t [45]).2.1 [46]))]) (by simp[K]) rfl G rfl
      by_cases w:Ys ⟨a,b,c,qC (Lib.cut t [45]).2.1 [46]⟩=0
      ·simp[o,f,w,Iu,uX,xA,d,l,q,u,z,qL,yJ.V,f263]
      ·have x:(Ys ⟨a,b,c,qC (Lib.cut t [45]).2.1 [46]⟩ != 0)=true:=by simpa using w
       simp[o,f,w,x,Iu,uX,xA,d,l,q,u,z,zR,qc,qL,cP,yJ.V,f263]
 ·have H:(((qC (Lib.cut t [45]).1 [46]).length:Int) != 3)=true:=by simp;omega
  have M:uX t=none:=by
   unfold uX;split
   ·rename_i e;rw[e]at y;simp at y
   ·rfl
  simp[m,r,H,y,Iu,M,zR,qc,qL,cP,yJ.V,f263]
theorem dm:zg prog 263 (zi false [] (aO Iu)):=
 jD (fn:=f263) zdO ⟨_,func263,by kernel_rfl,rfl,by kernel_rfl⟩ false [] _ fun args r h w S vs a=>by obtain⟨l,rfl,Y,rfl⟩:=zr h;obtain⟨b,c,d⟩:=fo l Y;exact⟨_,b,a,by simp[f263],c,d⟩
structure Part where
 n0:Int
 n1:Int
 n2:Int
 has:Int
 pre:List (List UInt8)
def Part.V(p:Part):zc:=[int p.n0,int p.n1,int p.n2,int p.has,.sl 1 (qd p.pre)]
abbrev Xt:List (Option Nat):=[none,none,none,none,some 1]
def wO:Part:=⟨0,0,0,0,[]⟩
def Part.put(p:Part)(i:Nat)(n:Int):Part:=match i with
 | 0=>{p with n0:=n,has:=p.has+1}
 | 1=>{p with n1:=n,has:=p.has+1}
 |_=>{p with n2:=n,has:=p.has+1}
def yd(p:Part)(i:Nat)(t:za):Option Part:=if(Zc t).isSome=true∧p.has=i then some (p.put i ((Zc t).getD 0))else if yq t=true∧i≠0 then some p else none
def yC:Part→Nat→List za→Option Part
 |p,_,[]=>some p
 |p,i,t::l=>match yd p i t with
  |some q=>yC q (i+1) l
  |none=>none
def zY(t:za):Part×Bool:=if Lib.contains t [45]=true then(match uX t with
    |some v=>(⟨v.a,v.b,v.c,3,v.pre⟩,true)
    |none=>(⟨0,0,0,3,[]⟩,false))
 else if 3<(qC t [46]).length then(wO,false)else match yC wO 0 (qC t [46])with
  |some p=>(p,true)
  |none=>(wO,false)
def kn(t:za):O:=.yb [.agg (zY t).1.V,wq (zY t).2]
noncomputable abbrev Crpv:Ctx:=qb prog [(262,zi false [] (Jv UK fun _ _=>True)),(263,zi false [] (aO Iu)),(219,yO [] FSp),(264,zi false [] (Oe Jw)),(232,zi false [] (FS yq))]
theorem zdP:AM.Good Crpv (fun g=>[232].contains g):=zI mixed ⟨mS,by simp,dm,by simp,WC,by simp,Ya,by simp,mX,fun _=>zt _ _,trivial⟩
theorem Pm(a b:za)(Y:Hp)(Z:Nat)(h:a.length≤zG)(c:b.length≤zG):zi false [] (Jv UK fun _ _=>True) [str a,str b] Y Z=some (wq (Lib.contains a b),Y,Z):=ZM _ _ a b Y Z h c trivial rfl
def Part.raw(p:Part):zc:=[int p.n0,int p.n1,int p.n2,int p.has,.nil]
theorem pR{p:Part}{k:Nat}{l:List za}(h:k<l.length):yC p k (l.drop k)=match yd p k l[k]with
  |some q=>yC q (k+1) (l.drop (k+1))
  |none=>none:=by
 rw[zd h];rfl
theorem fp(t:za)(W:t.length+1≤zG):∃T,zz Crpv f230 [str t]=some T∧qM T (kn t):=by
 refine y8 (sh:=.g Xt) rfl ?_;have B:=fun Y Z=>Pm t [45] Y Z (by omega) (by decide)
 cases J:Lib.contains t [45]
 ·have K:=fun Y Z=>Z5 t [46] Y Z (by omega) (by decide) (by decide)
  have E:∀p∈qC t [46],p.length≤zG:=fun p Y=>by have:=xt Y;omega
  by_cases N:3<(qC t [46]).length
  ·have F:(3:Int)<(qC t [46]).length:=by omega
   simp[B,J,K,N,F,kn,zY,zR,qc,qL,wO,Part.V,f230]
  have F:¬(3:Int)<(qC t [46]).length:=by omega
  simp[B,J,K,N,F];obtain⟨l,P⟩:∃l,qC t [46]=l:=⟨_,rfl⟩;rw[P]at E N;have e:zY t=match yC wO 0 l with
   |some p=>(p,true)
   |none=>(wO,false):=by
   unfold zY;rw[zj (by rw[J];simp),P,zj N]
   try rfl
  simp only[P];refine zQ (fun k I Y Z=>∃p:Part,p.pre=[]∧I 2=.ref 0 0 0∧I 7=.ref 2 0 0∧I 37=.own 1 0 l.length∧I 38=int l.length∧I 39=int k∧p.has≤k∧0≤p.has ∧
    Y 0=some ⟨227,5,false,[wO.raw]⟩∧Y 1=some ⟨9,1,true,qd l⟩∧Y 2=some ⟨227,5,false,[p.raw]⟩∧yC wO 0 l=yC p k (l.drop k)) l.length
   ⟨wO,rfl,by simp,by simp,by simp,by simp,by simp,by simp[wO],by simp[wO],by simp[wO,Part.raw],by simp,by simp[wO,Part.raw],by simp⟩ ?_
  rintro k I Y Z X ⟨p,G,w,x,f,h,i,Q,H,y,z,A,j⟩;by_cases b:k<l.length
  ·have C:=fun Y Z=>aq l[k] Y Z (E _ (zm b))
   have D:=fun Y Z=>vn yq l[k] Y Z (E _ (zm b))
   have L:i6.wrap ((k:Int)+1)=(k:Int)+1:=zn (by omega) (by omega);have R:i6.wrap (p.has+1)=p.has+1:=zn (by omega) (by omega);rw[pR b]at j;have S:k=0∨k=1∨k=2:=by omega
   obtain⟨r,n1,s,a,pre⟩:=p;simp only at G Q H R;subst G;cases q:(Zc l[k]).isSome
   ·cases c:yq l[k]
    ·have hs:yd ⟨r,n1,s,a,[]⟩ k l[k]=none:=by simp[yd,q,c]
     rw[hs]at j;rw[j]at e;simp[w,x,f,h,i,y,z,A,b,C,D,q,c,kn,e,zR,qc,qL,wO,Part.raw,Part.V,f230]
    ·by_cases m:k=0
     ·subst m;have hs:yd ⟨r,n1,s,a,[]⟩ 0 l[0]=none:=by simp[yd,q]
      rw[hs]at j;rw[j]at e;simp[w,x,f,h,i,y,z,A,b,C,D,q,c,kn,e,zR,qc,qL,wO,Part.raw,Part.V,f230]
     ·have hs:yd ⟨r,n1,s,a,[]⟩ k l[k]=some ⟨r,n1,s,a,[]⟩:=by simp[yd,q,c,m]
      have u:((k:Int)==0)=false:=by simpa using m
      rw[hs]at j;simp[w,x,f,h,i,y,z,A,b,C,D,q,c,L,u,m];exact⟨b,⟨r,n1,s,a,[]⟩,rfl,Int.le_trans Q (by omega),H,rfl,j⟩
   ·by_cases d:a=k
    ·have hs:yd ⟨r,n1,s,a,[]⟩ k l[k]=some ((⟨r,n1,s,a,[]⟩:Part).put k ((Zc l[k]).getD 0)):=by simp[yd,q,d]
     rw[hs]at j;rcases S with rfl|rfl|rfl
     ·obtain rfl:a=0:=by simpa using d
      have n:(0:Int)<(l.length:Int):=by omega
      simp[w,x,f,h,i,y,z,A,b,n,C,D,q,L,Part.raw];refine⟨b,_,?_,?_,?_,?_,(by simpa using j)⟩<;>simp[Part.put]
     ·obtain rfl:a=1:=by simpa using d
      have n:(1:Int)<(l.length:Int):=by omega
      simp[w,x,f,h,i,y,z,A,b,n,C,D,q,L,Part.raw];refine⟨b,_,?_,?_,?_,?_,(by simpa using j)⟩<;>simp[Part.put]
     ·obtain rfl:a=2:=by simpa using d
      have n:(2:Int)<(l.length:Int):=by omega
      simp[w,x,f,h,i,y,z,A,b,n,C,D,q,L,Part.raw];refine⟨b,_,?_,?_,?_,?_,(by simpa using j)⟩<;>simp[Part.put]
    ·cases c:yq l[k]
     ·have hs:yd ⟨r,n1,s,a,[]⟩ k l[k]=none:=by simp[yd,q,c,d]
      have o:(a==(k:Int))=false:=by simpa using d
      rw[hs]at j;rw[j]at e;simp[w,x,f,h,i,y,z,A,b,C,D,q,c,o,kn,e,zR,qc,qL,wO,Part.raw,Part.V,f230]
     ·by_cases m:k=0
      ·subst m;have hs:yd ⟨r,n1,s,a,[]⟩ 0 l[0]=none:=by simp[yd,d];intro _;exact d
       have o:(a==0)=false:=by simpa using d
       rw[hs]at j;rw[j]at e;simp[w,x,f,h,i,y,z,A,b,C,D,q,c,o,kn,e,zR,qc,qL,wO,Part.raw,Part.V,f230]
      ·have hs:yd ⟨r,n1,s,a,[]⟩ k l[k]=some ⟨r,n1,s,a,[]⟩:=by simp[yd,q,c,m,d]
       have u:((k:Int)==0)=false:=by simpa using m
       have o:(a==(k:Int))=false:=by simpa using d
       rw[hs]at j;simp[w,x,f,h,i,y,z,A,b,C,D,q,c,L,u,m,o,Part.raw];exact⟨b,⟨r,n1,s,a,[]⟩,rfl,Int.le_trans Q (by omega),H,⟨rfl,rfl,rfl,rfl⟩,j⟩
  ·obtain rfl:k=l.length:=by omega
   rw[zl]at j;simp only[yC]at j;rw[j]at e;simp[w,x,f,h,i,y,z,A,kn,e,G,qL,Part.raw,Part.V,f230]
 ·have M:=fun Y Z=>Zy Iu t Y Z W
  cases U:uX t with
  |none=>simp[B,J,M,Iu,U,kn,zY,zR,qc,qL,cP,yJ.V,Part.V,f230]
  |some v=>simp[B,J,M,Iu,U,kn,zY,zR,qc,qL,yJ.V,Part.V,f230]
theorem dn:zg prog 230 (zi false [] (aO kn)):=
 jD (fn:=f230) zdP ⟨_,func230,by kernel_rfl,rfl,by kernel_rfl⟩ false [] _ fun args r h w S vs a=>by obtain⟨l,rfl,Y,rfl⟩:=zr h;obtain⟨b,c,d⟩:=fp l Y;exact⟨_,b,a,by simp[f230],c,d⟩
def yV(e s:Nat):zc→Option (Option jz)
 |[.nil]=>some none
 |[.em]=>some (some ⟨e,s,true,[]⟩)
 |[.sl a es]=>if a=s∧es≠[]∧es.length≤zG then some (some ⟨e,s,true,es⟩)else none
 |_=>none
def Zn(e s:Nat)(es:List zc)(y:O)(Z:Nat):O×(Hp→Hp)×Nat:=match y with
 | .nil=>(.nil,fun h=>h,Z)
 |_=>(.own Z 0 es.length,fun h=>qZ h Z (some ⟨e,s,true,es⟩),Z+1)
theorem Q9{e s:Nat}{es:List zc}{y:O}(h:vw s es y)(a:es.length≤zG)(Y:Hp)(Z:Nat):yO [] (yV e s) [y] Y Z=some ((Zn e s es y Z).1,(Zn e s es y Z).2.1 Y,(Zn e s es y Z).2.2):=by
 cases h with
 |nil=>rfl
 |em=>rfl
 |sl=>simp at a;simp[yO,yf,yV,Zn,a]
theorem WD{e s:Nat}{es:List zc}{y:O}{Z:Nat}(Y:Hp){id:Nat}(h:id<Z):(Zn e s es y Z).2.1 Y id=Y id:=by
 unfold Zn;split
 ·rfl
 ·exact zw _ _ _ _ (by omega)
theorem ar(e s:Nat)(es:List zc)(y:O)(Z:Nat):(Zn e s es y Z).1=.nil∨(Zn e s es y Z).1=.own Z 0 es.length:=by
 unfold Zn;split
 ·exact .inl rfl
 ·exact .inr rfl
theorem dp(e s:Nat)(es:List zc)(y:O)(Z:Nat):Z≤(Zn e s es y Z).2.2:=by unfold Zn;split<;>simp
theorem Wa{e s:Nat}{es:List zc}{y:O}(h:vw s es y)(Y:Hp)(Z:Nat):q6 ((Zn e s es y Z).2.1 Y) (Zn e s es y Z).2.2 e s (Zn e s es y Z).1 es:=by
 cases h with
 |nil=>exact .inl ⟨rfl,rfl⟩
 |em=>exact .inr ⟨Z,by simp[Zn],rfl,by simp[Zn]⟩
 |sl=>exact .inr ⟨Z,by simp[Zn],rfl,by simp[Zn]⟩
theorem CP(args:zc)(r:Option jz)(h:yV 136 5 args=some r):args.length≤f95.ntmps∧∃x Y Z,yr C0 f95 args (fun _=>none) 0=some (x,Y,Z)∧kd r x Y Z:=by
 unfold yV at h;split at h
 ·injection h with h;subst h;exact⟨by simp[f95],zT rfl (by simp[jP,ji,f95,kd])⟩
 ·injection h with h;subst h;exact⟨by simp[f95],zT rfl (by simp[jP,ji,f95,kd,zv,wU,AM.view,maxLen,zN,zy])⟩
 ·rename_i es;split at h
  ·rename_i d;obtain⟨rfl,a,b⟩:=d;injection h with h;subst h
   cases es with
   |nil=>exact absurd rfl a
   |cons c es=>
    unfold zG at b;simp at b;have e:es.length+1≤maxLen:=by unfold maxLen;omega
    have f:(es.length+1)*80≤140737488355328:=by omega
    refine⟨by simp[f95],zT rfl ?_⟩;simp[jP,ji,f95,kd,zv,wU,AM.view,zN,zy,e,f]
  ·cases h
 ·cases h
theorem Vh:zg prog 95 (yO [] (yV 136 5)):=
 jw (fn:=f95) (code:=_) w8 ⟨func95,by kernel_rfl,rfl,by kernel_rfl⟩ [] _ CP
theorem CQ(args:zc)(r:Option jz)(h:yV 171 6 args=some r):args.length≤f131.ntmps∧∃x Y Z,yr C0 f131 args (fun _=>none) 0=some (x,Y,Z)∧kd r x Y Z:=by
 unfold yV at h;split at h
 ·injection h with h;subst h;exact⟨by simp[f131],zT rfl (by simp[jP,ji,f131,kd])⟩
 ·injection h with h;subst h;exact⟨by simp[f131],zT rfl (by simp[jP,ji,f131,kd,zv,wU,AM.view,maxLen,zN,zy])⟩
 ·rename_i es;split at h
  ·rename_i d;obtain⟨rfl,a,b⟩:=d;injection h with h;subst h
   cases es with
   |nil=>exact absurd rfl a
   |cons c es=>
    unfold zG at b;simp at b;have e:es.length+1≤maxLen:=by unfold maxLen;omega
    have f:(es.length+1)*96≤140737488355328:=by omega
    refine⟨by simp[f131],zT rfl ?_⟩;simp[jP,ji,f131,kd,zv,wU,AM.view,zN,zy,e,f]
  ·cases h
 ·cases h
theorem uY:zg prog 131 (yO [] (yV 171 6)):=
 jw (fn:=f131) (code:=_) w8 ⟨func131,by kernel_rfl,rfl,by kernel_rfl⟩ [] _ CQ
def qE.inner(v:qE):List qE:=v.items++v.fields.map (·.2)
def Wv(v:qE)(k:Nat):List zc:=(v.items++(v.fields.take k).map (·.2)).map qE.V
theorem uZ(v:qE):Wv v 0=v.items.map qE.V:=by simp[Wv]
theorem u5{v:qE}{k:Nat}(h:k<v.fields.length):Wv v (k+1)=Wv v k++[v.fields[k].2.V]:=by unfold Wv;rw[qx h,yz (f:=fun x:List UInt8×qE=>x.2),←qj,yz (f:=qE.V)];rfl
theorem u6(v:qE):Wv v v.fields.length=v.inner.map qE.V:=by simp[Wv,qE.inner]
theorem nc(v:qE)(k:Nat):(Wv v k).length≤v.items.length+v.fields.length:=by simp[Wv];omega
noncomputable abbrev Cin:Ctx:=qb prog [(95,yO [] (yV 136 5))]
theorem Gs(v:qE)(A:v.vb≤zG)(y:O)(o:vw 5 (v.items.map qE.V) y) :
  ∃a,zz Cin f242 [.agg (v.V.set 3 y)]=some a∧∀(w:World) (S:Nat→Prop) (u:Value),wT w S a u→wT w S (.sl 5 (v.inner.map qE.V)) u:=by
 have B:=QW v;have C:=jk v.items;have D:=ke v.fields;have p:=fun Y Z=>Q9 (e:=136) o (by simp;omega) Y Z
 have d:=fun Y Z=>Wa (e:=136) o Y Z
 unfold zG at A;have f:v.V.set 3 y=[int v.kind,int v.n,str v.s,y,.sl 6 (v.fields.map yu)]:=by rw[Z2];rfl
 have g:∀{code},f242.body=some code→Zf Cin code ⟨ve [.agg (v.V.set 3 y)],fun _=>none,0⟩ (JT Cin.P f242 (VW (.sl 5 (v.inner.map qE.V))))→∃a,zz Cin f242 [.agg (v.V.set 3 y)]=some a∧∀(w:World) (S:Nat→Prop) (u:Value),wT w S a u→wT w S (.sl 5 (v.inner.map qE.V)) u:=by intro code E h;obtain⟨a,F,G⟩:=xr E h;exact⟨a,F,fun w S u H=>JU H G⟩
 refine g rfl ?_;rw[f];have I:=fun Y=>WD (e:=136) (s:=5) (es:=v.items.map qE.V) (y:=y) (Z:=1) Y (id:=0) (by omega)
 simp[o.cell,p,I];refine zQ (fun k i Y Z=>i 10=.sl 6 (v.fields.map yu)∧i 11=int v.fields.length∧i 12=int k∧q6 Y Z 136 5 (i 3) (Wv v k)) v.fields.length
  ⟨by simp,by simp,by simp,by rw[uZ];simpa using d _ _⟩ ?_
 rintro k i Y Z L ⟨j,l,m,q⟩;have J:=nc v k;by_cases b:k<v.fields.length
 ·have K:i6.wrap ((k:Int)+1)=(k:Int)+1:=zn (by omega) (by omega);have r:=q.more (some ⟨171,6,false,[str v.fields[k].1::v.fields[k].2.V]⟩);have x:=r.yx (P:=prog) (t:=27) (c:=v.fields[k].2.V) UI zcB zg7 zcC rfl (by omega) (by unfold maxLen;omega) (by omega);have z:∀Y Z,zv prog Y Z 27 1 [(0,.agg v.fields[k].2.V)]=some (.own Z 0 1,qZ Y Z (some ⟨136,5,true,[v.fields[k].2.V]⟩),Z+1):=fun Y Z=>by simp only[zv,UI,zcB,zcC,zy,Z3];simp[zN]
  simp[j,l,m,b,z,K,x];refine⟨b,?_⟩;rw[u5 b];exact q6.after
 ·obtain rfl:k=v.fields.length:=by omega
  rw[u6]at q;have:=q.freeze Z;simp[j,l,m,f242];exact this
theorem CR:zg prog 242 (GV fun v=>.sl 5 (v.inner.map qE.V)):=
 jD (fn:=f242) (zI (q:=[]) mixed ⟨Vh,by simp,trivial⟩:AM.Good Cin _) ⟨_,func242,by kernel_rfl,rfl,by kernel_rfl⟩ false [] _ fun args r h w S vs b=>by obtain⟨v,rfl,c,rfl⟩:=JW h;obtain⟨u,d,e⟩:=Qv b;subst d;obtain⟨y,f,a⟩:=xk e (j:=3) (s:=5) (es:=v.items.map qE.V) (by simp);obtain⟨g,i,k⟩:=Gs v c.1 y f;exact⟨_,g,.cons a .nil,by simp[f242],i,k⟩
def Kq(s:Int×Bool):Bool:=s.2||decide (1000<s.1)
def nd(s r:Int×Bool):Int×Bool:=if Kq s then s else(s.1+r.1,s.2||r.2)
mutual
def qE.rp:qE→Int→Int×Bool
 | .mk _ _ _ a b,l=>rpF b l (rpV a l (1,decide (8<l)))
def rpV:List qE→Int→Int×Bool→Int×Bool
 |[],_,s=>s
 |v::vs,l,s=>rpV vs l (nd s (v.rp (l+1)))
def rpF:List (za×qE)→Int→Int×Bool→Int×Bool
 |[],_,s=>s
 |(_,v)::vs,l,s=>rpF vs l (nd s (v.rp (l+1)))
end
def sK(xs:List qE)(l:Int)(s:Int×Bool):Int×Bool:=xs.foldl (fun s x=>nd s (x.rp (l+1))) s
theorem Pn:∀(xs:List qE) (l:Int) (s:Int×Bool),rpV xs l s=sK xs l s
 |[],_,_=>rfl
 |v::vs,l,s=>by simp only[rpV,sK,Qp];exact Pn vs l _
theorem Po:∀(xs:List (za×qE)) (l:Int) (s:Int×Bool),rpF xs l s=sK (xs.map (·.2)) l s
 |[],_,_=>rfl
 |(a,v)::vs,l,s=>by simp only[rpF,sK,qF,Qp];exact Po vs l _
theorem zcJ(v:qE)(l:Int):v.rp l=sK v.inner l (1,decide (8<l)):=by
 cases v with
 |mk k n s a b=>simp only[qE.rp,Pn,Po,qE.inner,qE.items,qE.fields,sK,List.foldl_append]
theorem nf{xs:List qE}{l:Int}{s:Int×Bool}(h:Kq s=true):sK xs l s=s:=by
 induction xs with
 |nil=>rfl
 |cons x xs a=>simp only[sK,Qp,nd,h,wi];exact a
theorem Pp{xs:List qE}{l:Int}{s:Int×Bool}{k:Nat}(h:k<xs.length):sK (xs.drop k) l s=sK (xs.drop (k+1)) l (nd s (xs[k].rp (l+1))):=by rw[zd h];rfl
def Wb(xs:List qE):Nat:=(xs.map qE.parts).sum
def vC:List qE→Nat
 |[]=>0
 |v::l=>max v.levels (vC l)
theorem Mc(v:qE):v.parts=1+Wb v.inner:=by
 rw[CA];have c:∀l:List qE,vm l=Wb l:=by
  intro l;induction l with
  |nil=>rfl
  |cons v l b=>simp[vm,Wb,b]
 have d:∀l:List (za×qE),vv l=Wb (l.map (·.2)):=by
  intro l;induction l with
  |nil=>rfl
  |cons v l b=>obtain⟨a,v⟩:=v;simp[vv,Wb]at b⊢;rw[b]
 rw[c,d];simp[Wb,qE.inner,N2]
theorem Gt(v:qE):v.levels=vC v.inner+1:=by
 rw[sD];have d:∀l:List qE,kE l=vC l:=by
  intro l;induction l with
  |nil=>rfl
  |cons v l c=>simp[kE,vC,c]
 have e:∀l:List (za×qE),kT l=vC (l.map (·.2)):=by
  intro l;induction l with
  |nil=>rfl
  |cons v l c=>obtain⟨a,v⟩:=v;simp[kT,vC,c]
 have f:∀a b:List qE,vC (a++b)=max (vC a) (vC b):=by
  intro a b;induction a with
  |nil=>simp[vC]
  |cons v a c=>simp only[q9,vC,c];omega
 rw[d,e,qE.inner,f]
theorem sL{v x:qE}(h:x∈v.inner):x.vb<v.vb:=by
 have a:=QW v;rcases qP.1 h with h|h
 ·have:=kP h;omega
 ·obtain⟨f,b,rfl⟩:=qX.1 h;have:=xV b;omega
structure RP (xs:List qE) (l:Int) (s r:Int×Bool):Prop where
 lo:s.1≤r.1
 hi:r.1≤s.1+Wb xs
 deep:r.2=true→s.2=true∨8<l+(vC xs:Int)
 all:Kq r=false→r.1=s.1+Wb xs∧(xs≠[]→l+(vC xs:Int)≤8)
theorem Iv:∀(b:Nat) (v:qE),v.vb≤b→∀l,0≤(v.rp l).1∧(v.rp l).1≤v.parts∧((v.rp l).2=true→8<l+(v.levels:Int)-1)∧(Kq (v.rp l)=false→(v.rp l).1=v.parts∧l+(v.levels:Int)-1≤8):=by
 intro b
 induction b with
 |zero=>intro v t;have:=Vb v;omega
 |succ b u=>
  intro v t l;have i:∀(xs:List qE) (s:Int×Bool),0≤s.1→(∀x∈xs,x.vb≤b)→RP xs l s (sK xs l s):=by
   intro xs
   induction xs with
   |nil=>intro s _ _;exact⟨by simp[sK],by simp[sK,Wb],fun h=>.inl (by simpa[sK]using h),fun _=>⟨by simp[sK,Wb],fun h=>absurd rfl h⟩⟩
   |cons x xs j=>
    intro s D r;by_cases d:Kq s=true
    ·rw[nf d];exact⟨by omega,by omega,fun h=>.inl h,fun h=>by rw[d]at h;cases h⟩
    ·have e:sK (x::xs) l s=sK xs l (s.1+(x.rp (l+1)).1,s.2||(x.rp (l+1)).2):=by simp only[sK,Qp,nd,d];rfl
     rw[e];obtain⟨E,F,w,z⟩:=u x (r x (by simp)) (l+1);have f:=j (s.1+(x.rp (l+1)).1,s.2||(x.rp (l+1)).2) (by simp only;omega) (fun y A=>r y (by simp[A]));have a:Wb (x::xs)=x.parts+Wb xs:=by simp[Wb]
     have k:=f.lo;have m:=f.hi;simp only at k m;refine⟨by omega,by rw[a];omega,fun h=>?_,fun h=>?_⟩
     ·simp only[vC];rcases f.deep h with h|h
      ·simp only[qH]at h;rcases h with h|h
       ·exact .inl h
       ·right;have:=w h;omega
      ·right;omega
     ·obtain⟨n,o⟩:=f.all h;have p:Kq (x.rp (l+1))=false:=by
       simp only[Kq,w5,jh]at h d⊢;refine⟨?_,by omega⟩;cases hd:(x.rp (l+1)).2 with
       |false=>rfl
       |true=>
        exfalso;have q:Kq (s.1+(x.rp (l+1)).1,s.2||(x.rp (l+1)).2)=true:=by simp[Kq,hd]
        rw[nf q]at h;simp[hd]at h
      obtain⟨G,H⟩:=z p;simp only at n;refine⟨by rw[a];omega,fun _=>?_⟩;simp only[vC];by_cases c:xs=[]
      ·subst c;simp only[vC];omega
      ·have:=o c;omega
  have g:=i v.inner (1,decide (8<l)) (by simp) fun x p=>by have:=sL p;omega
  rw[zcJ,Mc,Gt];have B:=g.lo;have C:=g.hi;simp only at B C;refine⟨by omega,by omega,fun h=>?_,fun h=>?_⟩
  ·rcases g.deep h with h|h
   ·simp at h;omega
   ·omega
  ·obtain⟨n,o⟩:=g.all h;simp only at n;refine⟨by omega,?_⟩;by_cases c:v.inner=[]
   ·rw[c]at h⊢;simp[sK,Kq]at h;simp only[vC];omega
   ·have:=o c;omega
theorem Pq(v:qE):Kq (v.rp 1)=(decide ((1000:Int)<v.parts)||decide ((8:Int)<v.levels)):=by
 obtain⟨f,g,d,e⟩:=Iv v.vb v (ze _) 1;cases c:Kq (v.rp 1)with
 |false=>
  obtain⟨a,b⟩:=e c;simp only[Kq,w5,jh]at c
  symm
  simp only[w5,jh];omega
 |true=>
  symm
  simp only[Kq,qH,ql]at c⊢;rcases c with c|c
  ·right;have:=d c;omega
  ·left;omega
noncomputable def FV2 (out:qE→Int→O) (lo b:Int) (n:Nat):zc→Option O:=qv (α:=qE×Int) (fun a=>[.agg a.1.V,int a.2]) (fun a=>a.1.vb≤zG∧a.1.vb≤n∧lo≤a.2∧a.2≤b) (fun a=>out a.1 a.2)
theorem CS(out:qE→Int→O)(lo c:Int)(n:Nat)(v:qE)(i:Int)(Y:Hp)(Z:Nat)(h:v.vb≤zG∧v.vb≤n∧lo≤i∧i≤c):zi false [] (FV2 out lo c n) [.agg v.V,int i] Y Z=some (out v i,Y,Z):=
 qe (Y1:=Y) (show zA Y [.agg v.V,int i]=some ([.agg v.V,int i],Y) by simp only[zA,Z3];simp)
  (zJ (V:=fun a:qE×Int=>[.agg a.1.V,int a.2]) (a:=(v,i)) (fun a b e=>by obtain⟨d,f⟩:=a;obtain⟨g,j⟩:=b;simp only[zh,zK,O.agg.injEq]at e;rw[Yp e.1,qn e.2]) h) (.inr (by simp only[qN,sC,List.all_nil];rfl))
noncomputable abbrev Crp (n:Nat):Ctx:=qb prog [(216,zi false [] (FV2 (fun v l=>.yb [int (v.rp l).1,wq (v.rp l).2]) 1 9 n)),(242,GV fun v=>.sl 5 (v.inner.map qE.V))]
theorem u7(v:qE):v.inner.length<v.vb:=by have:=QW v;have:=jk v.items;have:=ke v.fields;simp[qE.inner];omega
theorem CT(n:Nat)(v:qE)(l:Int)(h:v.vb≤zG∧v.vb≤n+1∧1≤l∧l≤9):zz (Crp n) f216 [.agg v.V,int l]=some (.yb [int (v.rp l).1,wq (v.rp l).2]):=by
 obtain⟨t,F,u,w⟩:=h;have x:=u7 v;have o:=fun Y Z=>Jt (fun v=>.sl 5 (v.inner.map qE.V)) v Y Z t
 unfold zG at t;refine zo rfl ?_;simp[o];refine zQ (fun k c Y Z=>c 1=int l∧c 15=.sl 5 (v.inner.map qE.V)∧c 16=int v.inner.length∧c 17=int k∧∃s:Int×Bool,c 6=int s.1∧c 7=wq s.2∧0≤s.1∧s.1≤4000000∧(s.2=false→l≤8)∧v.rp l=sK (v.inner.drop k) l s) v.inner.length
  ⟨by simp,by simp,by simp,by simp,(1,decide (8<l)),by simp,by simp,by simp,by simp,by simp,by rw[zcJ];simp⟩ ?_
 rintro k c Y Z G ⟨p,d,e,f,s,q,r,H,I,y,b⟩;by_cases a:k<v.inner.length
 ·have z:i6.wrap ((k:Int)+1)=(k:Int)+1:=zn (by omega) (by omega);have J:=sL (zm a);have i:(s.2||decide (1000<s.1))=Kq s:=rfl;cases j:Kq s
  ·have m:s.2=false:=by cases h:s.2<;>simp_all[Kq]
   have A:=y m;have B:i6.wrap (l+1)=l+1:=zn (by omega) (by omega);have g:=fun Y Z=>CS (fun v l=>.yb [int (v.rp l).1,wq (v.rp l).2]) 1 9 n v.inner[k] (l+1) Y Z ⟨by unfold zG;omega,by omega,by omega,by omega⟩
   obtain⟨K,L,M,N⟩:=Iv _ v.inner[k] (ze _) (l+1);have C:=mH v.inner[k];have D:s.1≤1000:=by simp[Kq]at j;omega
   have E:i6.wrap (s.1+(v.inner[k].rp (l+1)).1)=s.1+(v.inner[k].rp (l+1)).1:=zn (by omega) (by omega);rw[Pp a]at b;simp only[nd,j,zU,wK]at b;simp[p,d,e,f,q,r,a,i,j,g,B,E,z];refine⟨a,?_⟩;rw[b,m];cases hd:(v.inner[k].rp (l+1)).2<;>simp[hd]<;>omega
  ·rw[nf j]at b;simp[p,d,e,f,q,r,a,i,j,b,f216,wH]
 ·obtain rfl:k=v.inner.length:=by omega
  rw[zl]at b;have b:v.rp l=s:=b;simp[p,d,e,f,q,r,b,f216,wH]
theorem Iw{out:qE→Int→O}{lo a:Int}{n:Nat}{args:zc}{r:O}(h:FV2 out lo a n args=some r):∃(v:qE) (i:Int),args=[.agg v.V,int i]∧(v.vb≤zG∧v.vb≤n∧lo≤i∧i≤a)∧r=out v i:=by obtain⟨⟨v,i⟩,b,c,d⟩:=zr h;exact⟨v,i,b,c,d⟩
theorem Pr{out:qE→Int→O}{lo b:Int}{f:FuncId}(a:∃fn,prog.funcs[f]?=some fn∧(fn.name== "runtime.NumGoroutine")=false∧fn.body.isNone=false):zg prog f (zi false [] (FV2 out lo b 0)):=by
 refine⟨a,fun args Y Z r Y' d h=>?_⟩;unfold zi at h;split at h
 ·split at h
  ·rename_i e c;obtain⟨v,i,_,g,_⟩:=Iw c;have:=Vb v;omega
  ·cases h
 ·cases h
theorem u9:∀n,zg prog 216 (zi false [] (FV2 (fun v l=>.yb [int (v.rp l).1,wq (v.rp l).2]) 1 9 n)):=by
 intro n
 induction n with
 |zero=>exact Pr ⟨_,func216,by kernel_rfl,by kernel_rfl⟩
 |succ n a=>
  have b:AM.Good (Crp n) (fun g=>([]:List Nat).contains g):=zI mixed ⟨a,by simp,CR,by simp,trivial⟩;exact qq (fn:=f216) b ⟨_,func216,by kernel_rfl,rfl,by kernel_rfl⟩ false [] _ fun args r h=>by obtain⟨v,l,rfl,c,rfl⟩:=Iw h;exact⟨zC (ze 2) (by decide),_,CT n v l c,qm _⟩
noncomputable abbrev Crc:Ctx:=qb prog [(244,zi false [] (F3 jg)),(245,zi false [] (FS (wG 32 126)))]
@[simp]theorem qrc1:yB Crc 244:=wC (by rfl) (zt _ _)
def dq(v:qE):Int:=YQ v.kind v.n v.s v.items.length v.fields.length
theorem Ps(v:qE):dq v=if(!jg v.kind 0 5)then 4 else if(v.kind != 1&&v.kind != 2&&v.n != 0)then 3 else if(v.kind != 3&&!v.s.isEmpty)then 3 else if(v.kind != 4&&decide (0<v.items.length))then 3 else if(v.kind != 5&&decide (0<v.fields.length))then 3 else if(v.kind==1&&!jg v.n 0 1)then 1 else if(v.kind==2&&!jg v.n (-999999999999999) 999999999999999)then 1 else if(decide ((500:Int)<v.s.length))then 2 else if(!wG 32 126 v.s)then 1 else if(decide ((100:Int)<v.items.length)||decide ((100:Int)<v.fields.length))then 2 else 0:=by
 unfold dq YQ;have a:CC v.kind=!jg v.kind 0 5:=by rw[qA];simp[CC,jg]
 have b:Xq v.kind v.n v.s v.items.length v.fields.length=((v.kind != 1&&v.kind != 2&&v.n != 0)||(v.kind != 3&&!v.s.isEmpty)||(v.kind != 4&&decide (0<v.items.length))||(v.kind != 5&&decide (0<v.fields.length))):=by
  unfold Xq;have:(v.s==[])=v.s.isEmpty:=by cases v.s<;>rfl
  rw[this];generalize (v.kind != 1)=c;generalize (v.kind != 2)=d;generalize (v.kind != 3)=e;generalize (v.kind != 4)=f;generalize (v.kind != 5)=g;generalize (v.n != 0)=h;generalize v.s.isEmpty=i;generalize decide (0<v.items.length)=j;generalize decide (0<v.fields.length)=k;cases c<;>cases d<;>cases e<;>cases f<;>cases g<;>cases h<;>cases i<;>cases j<;>cases k<;>rfl
 have l:df v.kind v.n=(v.kind==1&&!jg v.n 0 1):=by rw[qA];simp[df,jg];omega
 have m:dh v.kind v.n=(v.kind==2&&!jg v.n (-999999999999999) 999999999999999):=by rw[qA];simp[dh,jg];omega
 rw[a,b,l,m,Ir,Iq];generalize (!jg v.kind 0 5)=o;generalize (v.kind != 1&&v.kind != 2&&v.n != 0)=p;generalize (v.kind != 3&&!v.s.isEmpty)=q;generalize (v.kind != 4&&decide (0<v.items.length))=r;generalize (v.kind != 5&&decide (0<v.fields.length))=t;generalize (v.kind==1&&!jg v.n 0 1)=u;generalize (v.kind==2&&!jg v.n (-999999999999999) 999999999999999)=w;cases o<;>cases p<;>cases q<;>cases r<;>cases t<;>cases u<;>cases w<;>cases wG 32 126 v.s<;>rfl
theorem iR(v:qE)(h:v.vb≤zG):zz Crc f243 [.agg v.V]=some (int (dq v)):=by
 have q:=QW v;have m:v.s.length≤zG:=by omega
 refine zo rfl ?_;have o:=Ps v;obtain⟨r,c⟩:∃b,(!jg v.kind 0 5)=b:=⟨_,rfl⟩;obtain⟨t,d⟩:∃b,(v.kind != 1&&v.kind != 2&&v.n != 0)=b:=⟨_,rfl⟩;obtain⟨u,e⟩:∃b,(v.kind != 3&&!v.s.isEmpty)=b:=⟨_,rfl⟩;obtain⟨w,f⟩:∃b,(v.kind != 4&&decide (0<v.items.length))=b:=⟨_,rfl⟩;obtain⟨x,g⟩:∃b,(v.kind != 5&&decide (0<v.fields.length))=b:=⟨_,rfl⟩;obtain⟨y,i⟩:∃b,(v.kind==1&&!jg v.n 0 1)=b:=⟨_,rfl⟩;obtain⟨z,j⟩:∃b,(v.kind==2&&!jg v.n (-999999999999999) 999999999999999)=b:=⟨_,rfl⟩;obtain⟨A,k⟩:∃b,(decide ((500:Int)<v.s.length))=b:=⟨_,rfl⟩;obtain⟨B,l⟩:∃b,(!wG 32 126 v.s)=b:=⟨_,rfl⟩;obtain⟨p,a⟩:∃b,(decide ((100:Int)<v.items.length)||decide ((100:Int)<v.fields.length))=b:=⟨_,rfl⟩;rw[c,d,e,f,g,i,j,k,l,a]at o;cases r
 case true=>simp[m,c,d,e,f,g,i,j,k,l,a,o,f243]
 cases t
 case true=>simp[m,c,d,e,f,g,i,j,k,l,a,o,f243]
 cases u
 case true=>simp[m,c,d,e,f,g,i,j,k,l,a,o,f243]
 cases w
 case true=>simp[m,c,d,e,f,g,i,j,k,l,a,o,f243]
 cases x
 case true=>simp[m,c,d,e,f,g,i,j,k,l,a,o,f243]
 cases y
 case true=>simp[m,c,d,e,f,g,i,j,k,l,a,o,f243]
 cases z
 case true=>simp[m,c,d,e,f,g,i,j,k,l,a,o,f243]
 cases A
 case true=>simp[m,c,d,e,f,g,i,j,k,l,a,o,f243]
 cases B
 case true=>simp[m,c,d,e,f,g,i,j,k,l,a,o,f243]
 cases p
 case true=>simp[m,c,d,e,f,g,i,j,k,l,a,o,f243]
 simp[m,c,d,e,f,g,i,j,k,l,a,o,f243]
theorem fq:zg prog 243 (GV fun v=>int (dq v)):=
 qq (fn:=f243) (zI (q:=[244,245]) mixed ⟨ZL,fun _=>zt _ _,WW,fun _=>zt _ _,trivial⟩:AM.Good Crc _) ⟨_,func243,by kernel_rfl,rfl,by kernel_rfl⟩ false [] _ fun args r h=>by obtain⟨v,rfl,a,rfl⟩:=JW h;exact⟨by simp[f243],_,iR v a.1,qm _⟩
end Go.Q
