/-
Numbers and parts of versions: allDigits, whole, versionNumber, isPre, CheckVersion, open.
-/
import Derived.Test.YtjcofiomfmebkaaGreatDoorG12
import Derived.Test.YtjcofiomfmebkaaGreatDoorG11
set_option maxRecDepth 8000
namespace Go.Proofs.YtjcofiomfmebkaaGreatDoor
open Go.Proofs.Tryz
open Go.RowKit Go.AM
def zaY (c:UInt8):Bool:=pr 48 57 c
def vg (l:List UInt8):Bool:=l.all zaY
def qF (l:List UInt8):Bool:=!(l==[])&&!(decide (1<l.length)&&l.headD 0==48)&&vg l
def qH (l:List UInt8):Bool:=l==[120]||l==[88]||l==[42]
def X2 (c:UInt8):Bool:=pr 97 122 c||pr 65 90 c||pr 48 57 c||c==45
def ziQ (l:List UInt8):Bool:=l.all X2&&!(l==[])
theorem Kx {l:List UInt8} {k:Nat} (h:k<l.length):vg (l.drop k)=(zaY l[k]&&vg (l.drop (k+1))):=JQ h
theorem zc4 {l:List UInt8} {k:Nat} (h:k<l.length):(l.drop k).all X2=(X2 l[k]&&(l.drop (k+1)).all X2):=JQ h
theorem Xc (l:List UInt8) (hl:l.length≤lim):zg C0 f186 [str l]=some (boo (vg l)):=by
 refine zb rfl ?_
 unfold lim at hl
 simp
 refine zu (fun k σ hp nx=>σ 0=str l∧σ 5=int l.length∧σ 6=int k∧vg l=vg (l.drop k)) l.length ⟨by simp,by simp,by simp,by simp⟩ ?_
 rintro k σ hp nx hk ⟨h0,h5,h6,he⟩
 by_cases hlt:k<l.length
 ·have hw:IntKind.i64.wrap ((k:Int)+1)=(k:Int)+1:=zc (by omega) (by omega)
  rw[Kx hlt] at he
  have ho:=Y5 48 57 l[k]
  simp only[Int.cast_ofNat_Int] at ho
  cases hc:zaY l[k]
  ·have he:vg l=false:=by rw[he,hc];rfl
   have hc':pr 48 57 l[k]=false:=hc
   simp[h0,h5,h6,hlt,he,ho,hc',f186]
  ·have hc':pr 48 57 l[k]=true:=hc
   simp[h0,h5,h6,hlt,ho,hc',hw]
   exact⟨hlt,by rw[he,hc];rfl⟩
 ·obtain rfl:k=l.length:=by omega
  have he:vg l=true:=by rw[he,List.drop_length];rfl
  simp[h0,h5,h6,he,f186]
theorem kG:za prog 186 (zd false [] (FS vg)) :=
 zL (fn:=f186) yl ⟨_,func186,by kernel_rfl,rfl,by kernel_rfl⟩ false [] _ fun args r h=>by
  obtain⟨l,rfl,hp,rfl⟩:=ze h
  exact⟨by simp[f186],_,Xc l hp,zK _⟩
noncomputable abbrev Cdg:Ctx:=zC prog [(186,zd false [] (FS vg))]
theorem zta:AM.Good Cdg (fun g=>[186].contains g):=zk mixed ⟨kG,fun _=>zi _ _,trivial⟩
theorem ziR (l:List UInt8) (hl:l.length≤lim):zg Cdg f182 [str l]=some (boo (qF l)):=by
 refine zb rfl ?_
 have hd:=fun hp nx=>wO vg l hp nx hl
 cases l with
 | nil=>simp[qF,f182]
 | cons c l =>
   by_cases h1:0<l.length
   ·have h1':l≠[]:=by intro e;subst e;simp at h1
    have h4:(1:Int)<(l.length:Int)+1:=by omega
    by_cases h2:c=48
    ·subst h2
     simp[hd,h1,h1',h4,qF,f182]
    ·have h3:((c.toNat:Int)==48)=false:=by
      rw[beq_eq_false_iff_ne];intro e;apply h2;rw[←UInt8.toNat_inj];simp;omega
     simp[hd,h1,h1',h2,h3,h4,qF,f182]
   ·have h1':l=[]:=by cases l<;>simp_all
    subst h1'
    simp[hd,qF,f182]
theorem Ky:za prog 182 (zd false [] (FS qF)) :=
 zL (fn:=f182) zta ⟨_,func182,by kernel_rfl,rfl,by kernel_rfl⟩ false [] _ fun args r h=>by
  obtain⟨l,rfl,hp,rfl⟩:=ze h
  exact⟨by simp[f182],_,ziR l hp,zK _⟩
theorem zlg (l:List UInt8):zg C0 f192 [str l]=some (boo (qH l)):=by
 refine zb rfl ?_
 cases h1:(l==[120])
 ·cases h2:(l==[88])
  ·simp[h1,h2,qH,f192]
  ·simp[h1,h2,qH,f192]
 ·simp[h1,qH,f192]
theorem X3:za prog 192 (zd false [] (FS qH)) :=
 zL (fn:=f192) yl ⟨_,func192,by kernel_rfl,rfl,by kernel_rfl⟩ false [] _ fun args r h=>by
  obtain⟨l,rfl,hp,rfl⟩:=ze h
  exact⟨by simp[f192],_,zlg l,zK _⟩
def zoe (l:List UInt8):Int:=((Lib.decNat l).getD 0:Nat)
theorem Zs:∀(l:List UInt8) (a:Nat),vg l=true→∃n,Lib.decFrom a l=some n∧n<(a+1)*10 ^ l.length
 | [],a,_=>⟨a,rfl,by simp⟩
 | c::l,a,h=>by
   simp only[vg,List.all_cons,Bool.and_eq_true] at h
   have hc:48≤c.toNat∧c.toNat≤57:=by have:=h.1;simpa[zaY,pr] using this
   obtain⟨n,h1,h2⟩:=Zs l (a*10+(c.toNat - 48)) h.2
   refine⟨n,?_,?_⟩
   ·simp only[Lib.decFrom,Lib.digitVal,hc,and_self,if_true]
    exact h1
   ·have h3:a*10+(c.toNat - 48)+1≤(a+1)*10:=by omega
    calc n<(a*10+(c.toNat - 48)+1)*10 ^ l.length:=h2
     _≤(a+1)*10*10 ^ l.length:=Nat.mul_le_mul_right _ h3
     _=(a+1)*10 ^ (c::l).length:=by rw[List.length_cons,Nat.pow_succ,Nat.mul_assoc,Nat.mul_comm 10]
theorem zaZ {l:List UInt8} (h:qF l=true):l≠[]∧vg l=true:=by
 simp only[qF,Bool.and_eq_true] at h
 exact⟨by intro e;subst e;simp at h,h.2⟩
theorem ziS {l:List UInt8} (h:qF l=true):Lib.atoi l=some (zoe l):=by
 obtain⟨h1,h2⟩:=zaZ h
 obtain⟨n,h3,_⟩:=Zs l 0 h2
 have h4:Lib.decNat l=some n:=by
  unfold Lib.decNat
  rw[if_neg (by simpa using h1)]
  exact h3
 cases l with
 | nil=>exact absurd rfl h1
 | cons c l =>
   have hc:48≤c.toNat∧c.toNat≤57:=by
    have:=h2
    simp only[vg,List.all_cons,Bool.and_eq_true] at this
    simpa[zaY,pr] using this.1
   have hn:zoe (c::l)=n:=by unfold zoe;rw[h4];rfl
   rw[hn]
   have hx:∀d:UInt8,d.toNat<48→(c==d)=false:=fun d hd=>by
    rw[beq_eq_false_iff_ne];intro e;subst e;omega
   unfold Lib.atoi
   simp only[]
   rw[hx 45 (by decide),hx 43 (by decide),h4]
   rfl
noncomputable def FAt:List PV→Option PV:=zJ (α:=List UInt8) (fun l=>[str l]) (fun l=>l.length≤18∧qF l=true) (fun l=>.tup [int (zoe l),.v .nilIface])
theorem zof {dr:Prop} (w:World) (e:TypeId) (s:ByteArray):Fr dr w (fun _=>False) (Lib.bytesWorld w e s):=by
 have h1:∀(w1:World) (a:Addr) (n k:Nat),k≠a.block→(w1.freeze a n).heap[k]?=w1.heap[k]?:=by
  intro w1 a n k hk
  unfold World.freeze
  split
  ·rfl
  ·simp[Array.getElem?_modify,Ne.symm hk]
 have h2:∀(w1:World) (a:Addr) (n:Nat),(w1.freeze a n).heap.size=w1.heap.size:=by
  intro w1 a n
  unfold World.freeze
  split<;>simp
 unfold Lib.bytesWorld
 refine⟨rfl,rfl,rfl,?_,?_,fun k hk _=>?_⟩
 ·rw[h2];simp
 ·exact fun _=>Nat.le_succ _
 ·rw[h1 _ _ _ k (by simpa using Nat.ne_of_lt hk)]
  exact (Below.heap_alloc w.drew _ k hk)
@[simp] theorem get_nilI (σ:Nat→PV):AM.get σ (.const .nilIface)=some (.v .nilIface):=rfl
theorem X4:za prog 183 (zd false [] FAt) :=
 yq ⟨_,func183,by kernel_rfl,by kernel_rfl⟩ fun args r h=>by
  obtain⟨l,rfl,⟨h1,h2⟩,rfl⟩:=ze h
  refine⟨[.string ⟨l.toArray⟩],rfl,by simp[lit],rfl,.tuple #[.int .i64 (zoe l),.nilIface],fun w S=>.tup rfl fun j pv u hj hu=>?_,fun w S _=>?_⟩
  ·match j,hj,hu with
   | 0,hj,hu=>simp at hj hu;subst hj;subst hu;exact .v rfl
   | 1,hj,hu=>simp at hj hu;subst hj;subst hu;exact .v rfl
   | j+2,hj,hu=>simp at hj
  refine (Any.strconv_Atoi Tryz.lays172 ⟨l.toArray⟩ (zoe l) (by simpa using h1) (by simpa using ziS h2) w).mono fun e w' hh=>?_
  obtain⟨rfl,t,rfl⟩:=hh
  exact⟨rfl,zof _ _ _⟩
theorem zc5 (l:List UInt8) (hp:Hp) (nx:Nat) (h1:l.length≤18) (h2:qF l=true):zd false [] FAt [str l] hp nx=some (.tup [int (zoe l),.v .nilIface],hp,nx) :=
 zH rfl (zm (enc:=fun l:List UInt8=>[str l]) (a:=l) (fun a b e=>by simp only[List.cons.injEq,and_true] at e;exact qg e) ⟨h1,h2⟩) (.inl rfl)
def jJ (l:List UInt8):Option Int:=if qF l=true∧l.length≤6 then some (zoe l) else none
def Wd (l:List UInt8):PV:=.tup [int ((jJ l).getD 0),boo (jJ l).isSome]
noncomputable def FSP (f:List UInt8→PV):List PV→Option PV:=zJ (α:=List UInt8) (fun l=>[str l]) (fun l=>l.length≤lim) f
theorem JR (f:List UInt8→PV) (l:List UInt8) (hp:Hp) (nx:Nat) (h:l.length≤lim) (hf:(f l).flat=true):zd false [] (FSP f) [str l] hp nx=some (f l,hp,nx) :=
 zH rfl (zm (enc:=fun l:List UInt8=>[str l]) (a:=l) (fun a b e=>by simp only[List.cons.injEq,and_true] at e;exact qg e) h) (.inl hf)
noncomputable abbrev Cvn:Ctx:=zC prog [(182,zd false [] (FS qF)),(183,zd false [] FAt)]
theorem ztb:AM.Good Cvn (fun g=>[182].contains g):=zk mixed ⟨Ky,fun _=>zi _ _,X4,fun _=>zi _ _,trivial⟩
theorem We (l:List UInt8) (hl:l.length≤lim):zg Cvn f144 [str l]=some (Wd l):=by
 refine zb rfl ?_
 have hw:=fun hp nx=>wO qF l hp nx hl
 cases h1:qF l
 ·simp[hw,h1,Wd,jJ,qe,f144]
 ·by_cases h2:l.length≤6
  ·have h3:¬((6:Int)<l.length):=by omega
   have ha:=fun hp nx=>zc5 l hp nx (by omega) h1
   simp[hw,h1,h2,h3,ha,znw,Wd,jJ,qe,f144]
  ·have h3:(6:Int)<l.length:=by omega
   have h2':6<l.length:=by omega
   simp[hw,h1,h2,h2',h3,Wd,jJ,qe,f144]
theorem kH:za prog 144 (zd false [] (FSP Wd)) :=
 zL (fn:=f144) ztb ⟨_,func144,by kernel_rfl,rfl,by kernel_rfl⟩ false [] _ fun args r h=>by
  obtain⟨l,rfl,hp,rfl⟩:=ze h
  exact⟨by simp[f144],_,We l hp,zK _⟩
@[simp] theorem ixArr_ref (P:Program) (hp:Hp) (t:TypeId) (id a b:Nat) (k:IntKind) (i:Int) (h:qG P t=none):zI P hp t (.ref id a b) (.v (.int k i))=(zpW P t).bind fun me=>(zS P me.2).bind fun n=>if 0≤i∧i<me.1 then some (.ref id a (b+i.toNat*n)) else none:=by
 simp only[zI,h,jb]
 cases zpW P t with
 | none=>rfl
 | some me =>
   obtain⟨m,e⟩:=me
   simp only[Option.bind_some]
   cases zS P e<;>rfl
@[simp] theorem ixArr_ptr (P:Program) (hp:Hp) (t:TypeId) (cs:List PV) (k:IntKind) (i:Int) (h:qG P t=none):zI P hp t (.ptr cs) (.v (.int k i))=(zpW P t).bind fun me=>(zS P me.2).bind fun n=>if 0≤i∧i<me.1 then some (.ptr (cs.drop (i.toNat*n))) else none:=by
 simp only[zI,h,jb]
 cases zpW P t with
 | none=>rfl
 | some me =>
   obtain⟨m,e⟩:=me
   simp only[Option.bind_some]
   cases zS P e<;>rfl
@[simp] theorem wrl0:IntKind.i64.wrap 0=0:=zc (by decide) (by decide)
@[simp] theorem wrl1:IntKind.i64.wrap 1=1:=zc (by decide) (by decide)
@[simp] theorem wrl2:IntKind.i64.wrap 2=2:=zc (by decide) (by decide)
@[simp] theorem wrl3:IntKind.i64.wrap 3=3:=zc (by decide) (by decide)
theorem ziT (l:List UInt8) (hl:l.length≤lim):zg C0 f185 [str l]=some (boo (ziQ l)):=by
 refine zb rfl ?_
 unfold lim at hl
 simp
 refine zu (fun k σ hp nx=>σ 0=str l∧σ 6=int l.length∧σ 7=int k∧l.all X2=(l.drop k).all X2) l.length ⟨by simp,by simp,by simp,by simp⟩ ?_
 rintro k σ hp nx hk ⟨h0,h5,h6,he⟩
 by_cases hlt:k<l.length
 ·have hw:IntKind.i64.wrap ((k:Int)+1)=(k:Int)+1:=zc (by omega) (by omega)
  rw[zc4 hlt] at he
  have ho:(decide ((97:Int)≤l[k].toNat)&&decide ((l[k].toNat:Int)≤122)||decide ((65:Int)≤l[k].toNat)&&decide ((l[k].toNat:Int)≤90)||decide ((48:Int)≤l[k].toNat)&&decide ((l[k].toNat:Int)≤57)||((l[k].toNat:Int)==45))=X2 l[k]:=by
   have e1:((l[k].toNat:Int)==45)=(l[k]==45):=by
    rw[Bool.eq_iff_iff];simp[←UInt8.toNat_inj];omega
   rw[e1,Bool.eq_iff_iff]
   simp[X2,pr,←UInt8.toNat_inj]
   omega
  cases hc:X2 l[k]
  ·have he:l.all X2=false:=by rw[he,hc];rfl
   rw[hc] at ho
   simp[h0,h5,h6,hlt,ho,ziQ,he,-List.all_eq_true,-List.all_eq_false,f185]
  ·rw[hc] at ho
   simp[h0,h5,h6,hlt,ho,hw,-List.all_eq_true,-List.all_eq_false]
   exact⟨hlt,by rw[he,hc];rfl⟩
 ·obtain rfl:k=l.length:=by omega
  have he:l.all X2=true:=by rw[he,List.drop_length];rfl
  simp[h0,h5,h6,he,ziQ,-List.all_eq_true,f185]
theorem zfm:za prog 185 (zd false [] (FS ziQ)) :=
 zL (fn:=f185) yl ⟨_,func185,by kernel_rfl,rfl,by kernel_rfl⟩ false [] _ fun args r h=>by
  obtain⟨l,rfl,hp,rfl⟩:=ze h
  exact⟨by simp[f185],_,ziT l hp,zK _⟩
theorem za0:za prog 184 (zd false [] (F3 inB)) :=
 zL (fn:=f184) yl ⟨_,func184,by kernel_rfl,rfl,by kernel_rfl⟩ false [] _ fun args r h=>by
  obtain⟨a,b,c,rfl,rfl⟩:=zk5 h
  exact⟨by simp[f184],_,zb rfl (by simp[f184,inB]),zK _⟩
structure Ver where
 a:Int
 b:Int
 c:Int
 pre:List (List UInt8)
def zD (l:List (List UInt8)):List (List PV):=l.map fun p=>[str p]
theorem wt {a b:List (List UInt8)} (h:zD a=zD b):a=b:=yz (fun x y e=>by simp only[List.cons.injEq,and_true] at e;exact qg e) h
@[simp] theorem qj (l:List (List UInt8)):(zD l).length=l.length:=by simp[zD]
@[simp] theorem zog:zD []=[]:=rfl
@[simp] theorem zlh (l:List (List UInt8)):(zD l).take l.length=zD l:=List.take_of_length_le (by simp)
@[simp] theorem Wf (p:List UInt8) (l:List (List UInt8)):zD (p::l)=[str p]::zD l:=rfl
@[simp] theorem blkT_eq (l:List (List UInt8)):zaW l=⟨9,1,true,zD l⟩:=rfl
@[simp] theorem encT_at {l:List (List UInt8)} {k:Nat} (h:k<(zD l).length):(zD l)[k]=[str (l[k]'(by simpa using h))]:=by simp[zD]
theorem ZW {l:List (List UInt8)} {k:Nat} (h:k<l.length):(zD l)[k]?=some [str l[k]]:=by simp[zD,h]
def Ver.enc (v:Ver):List PV:=[int v.a,int v.b,int v.c,.sl 1 (zD v.pre)]
theorem vi {a b:Ver} (h:a.enc=b.enc):a=b:=by
 cases a;cases b
 simp only[Ver.enc,List.cons.injEq,and_true] at h
 obtain⟨h1,h2,h3,h4⟩:=h
 injection h4 with _ h4
 rw[zP h1,zP h2,zP h3,wt h4]
abbrev jP:List (Option Nat):=[none,none,none,some 1]
def Ver.small (v:Ver):Prop:=v.pre.length≤lim∧∀p∈v.pre,p.length≤lim
def qf (p:List UInt8):Bool:=decide (20<p.length)||!ziQ p||(vg p&&!qF p)
def wV (v:Ver):Int:=if inB v.a 0 999999=true∧inB v.b 0 999999=true∧inB v.c 0 999999=true then (if 10<v.pre.length then 2 else if v.pre.any qf then 3 else 0) else 1
noncomputable def FVr (f:Ver→PV):List PV→Option PV:=zJ (α:=Ver) (fun v=>[.agg v.enc]) Ver.small f
theorem za1 (f:Ver→PV) (v:Ver) (x:PV) (hp hp1:Hp) (nx:Nat) (y:PV) (hf:zj hp [x]=some ([y],hp1)) (hy:(Sh.g jP).fix y=.agg v.enc) (h:v.small) (hfl:(f v).flat=true):zG [.g jP] (FVr f) [x] hp nx=some (f v,hp,nx):=by
 have e:FVr f (zhb [.g jP] (qw [] [y]))=some (f v):=by
  show FVr f [(Sh.g jP).fix y]=_
  rw[hy]
  exact zm (enc:=fun v:Ver=>[PV.agg v.enc]) (a:=v) (fun a b e=>by simp only[List.cons.injEq,and_true] at e;injection e with e;exact vi e) h
 unfold zG zd
 simp only[hf,e,hfl,true_or,if_true]
noncomputable abbrev ztc:Ctx:=zC prog [(184,zd false [] (F3 inB)),(185,zd false [] (FS ziQ)),(186,zd false [] (FS vg)),(182,zd false [] (FS qF))]
theorem zqQ:AM.Good ztc (fun g=>[184,185,186,182].contains g):=zk mixed ⟨za0,fun _=>zi _ _,zfm,fun _=>zi _ _,kG,fun _=>zi _ _,Ky,fun _=>zi _ _,trivial⟩
@[simp] theorem quietckv1:yj ztc 185:=qN (by rfl) (zi _ _)
@[simp] theorem quietckv2:yj ztc 186:=qN (by rfl) (zi _ _)
@[simp] theorem quietckv3:yj ztc 182:=qN (by rfl) (zi _ _)
theorem Yn (v:Ver) (h:v.small):zg ztc f145 [.agg v.enc]=some (int (wV v)):=by
 obtain⟨a,b,c,pre⟩:=v
 obtain⟨hl,hpl⟩:=h
 simp only at hl hpl
 unfold lim at hl
 refine zb rfl ?_
 simp[Ver.enc,zh,zo,zf]
 rw[zl]
 cases h1:inB a 0 999999
 ·simp[h1,wV,f145]
 simp[h1]
 rw[zl]
 cases h2:inB b 0 999999
 ·simp[h1,h2,wV,f145]
 simp[h2]
 rw[zl]
 cases h3:inB c 0 999999
 ·simp[h1,h2,h3,wV,f145]
 simp[h3]
 rw[zl]
 simp
 by_cases h4:10<pre.length
 ·have h4':(10:Int)<pre.length:=by omega
  simp[h1,h2,h3,h4,h4',wV,f145]
 have h4':¬(10:Int)<pre.length:=by omega
 simp[h4,h4']
 have hck:wV ⟨a,b,c,pre⟩=if pre.any qf then 3 else 0:=by simp[wV,h1,h2,h3,h4]
 rw[hck]
 refine zu (fun k σ hp nx=>σ 28=.sl 1 (zD pre)∧σ 29=int pre.length∧σ 30=int k∧pre.any qf=(pre.drop k).any qf) pre.length ⟨by simp,by simp,by simp,by simp⟩ ?_
 rintro k σ hp nx hkk ⟨h28,h29,h30,he⟩
 by_cases hlt:k<pre.length
 ·have hw:IntKind.i64.wrap ((k:Int)+1)=(k:Int)+1:=zc (by omega) (by omega)
  have hg:=ZW hlt
  rw[List.drop_eq_getElem_cons hlt,List.any_cons] at he
  have hpk:=hpl _ (List.getElem_mem hlt)
  have f1:=fun hp nx=>wO ziQ pre[k] hp nx hpk
  have f2:=fun hp nx=>wO vg pre[k] hp nx hpk
  have f3:=fun hp nx=>wO qF pre[k] hp nx hpk
  have hbp:qf pre[k]=(decide (20<pre[k].length)||!ziQ pre[k]||(vg pre[k]&&!qF pre[k])):=rfl
  have hb1:(decide ((20:Int)<pre[k].length)||!ziQ pre[k]||vg pre[k]&&!qF pre[k])=qf pre[k]:=by
   rw[hbp]
   congr 2
   rw[Bool.eq_iff_iff];simp;omega
  cases hc:qf pre[k]
  ·rw[hc] at hb1
   simp[h28,h29,h30,hlt,hg,f1,f2,f3,hb1,hw]
   exact⟨hlt,by rw[he,hc];rfl⟩
  ·rw[hc] at hb1
   have he:pre.any qf=true:=by rw[he,hc];rfl
   simp[h28,h29,h30,hlt,hg,f1,f2,f3,hb1,he,-List.any_eq_true,f145]
 ·obtain rfl:k=pre.length:=by omega
  have he:pre.any qf=false:=by rw[he,List.drop_length];rfl
  simp[h28,h29,h30,he,-List.any_eq_false,f145]
theorem zli {f:Ver→PV} {args:List PV} {r:PV} (h:FVr f args=some r):∃v:Ver,args=[.agg v.enc]∧v.small∧r=f v:=ze h
theorem jf:za prog 145 (zG [.g jP] (FVr fun v=>int (wV v))) :=
 zZ (fn:=f145) zqQ ⟨_,func145,by kernel_rfl,rfl,by kernel_rfl⟩ _ _ fun args r h=>by
  obtain⟨v,rfl,hv,rfl⟩:=zli h
  exact⟨by simp[f145],_,Yn v hv,Stands.refl _⟩
theorem X5 (sep:List UInt8):∀(k:Nat) (s p:List UInt8),p∈Lib.splitK sep 0 k s→p.length≤s.length
 | 0,s,p,h=>by simp[Lib.splitK] at h;rw[h];exact Nat.le_refl _
 | k+1,s,p,h=>by
   unfold Lib.splitK at h
   split at h
   ·simp at h;rw[h];exact Nat.le_refl _
   ·rcases List.mem_cons.1 h with rfl | h
    ·simp;omega
    ·have:=X5 sep k _ p h
     simp at this;omega
theorem X6 (sep:List UInt8):∀(k:Nat) (s:List UInt8),(Lib.splitK sep 0 k s).length≤k+1
 | 0,s=>by simp[Lib.splitK]
 | k+1,s=>by
   unfold Lib.splitK
   split
   ·simp
   ·have:=X6 sep k (s.drop ((Lib.index s sep).toNat+sep.length))
    simp;omega
theorem w8 {s sep p:List UInt8} (h:p∈zy s sep):p.length≤s.length:=X5 _ _ _ _ h
theorem yY {s sep:List UInt8} (h:sep≠[]):(zy s sep).length≤s.length+1:=by
 have h1:=X6 sep (Lib.count s sep) s
 have h2:=zc3 (s:=s) h
 exact Nat.le_trans h1 (by omega)
theorem zp2 (s sep:List UInt8):(Lib.cut s sep).1.length≤s.length∧(Lib.cut s sep).2.1.length≤s.length:=by
 unfold Lib.cut
 split
 ·simp;omega
 ·simp
noncomputable def VU (f:List UInt8→PV):List PV→Option PV:=zJ (α:=List UInt8) (fun l=>[str l]) (fun l=>l.length+1≤lim) f
theorem wu (f:List UInt8→PV) (l:List UInt8) (hp:Hp) (nx:Nat) (h:l.length+1≤lim):zd false [] (VU f) [str l] hp nx=some (f l,hp,nx) :=
 zH rfl (zm (enc:=fun l:List UInt8=>[str l]) (a:=l) (fun a b e=>by simp only[List.cons.injEq,and_true] at e;exact qg e) h) (.inr (by simp))
def ver0:Ver:=⟨0,0,0,[]⟩
def yb (t:List UInt8):List (List UInt8):=if (Lib.cut t [45]).2.2 then zy (Lib.cut t [45]).2.1 [46] else []
def rdV (t:List UInt8):Option Ver:=match zy (Lib.cut t [45]).1 [46] with
 | [p0,p1,p2]=>match jJ p0,jJ p1,jJ p2 with
   | some a,some b,some c=>if wV ⟨a,b,c,yb t⟩=0 then some ⟨a,b,c,yb t⟩ else none
   | _,_,_=>none
 | _=>none
def rdP (t:List UInt8):PV:=match rdV t with
 | some v=>.tup [.agg v.enc,int 0]
 | none=>.tup [.agg ver0.enc,int 10]
noncomputable abbrev Crv:Ctx:=zC prog [(142,zd false [] (FTT znp fun _ _=>True)),(143,qP [] FSp),(144,zd false [] (FSP Wd)),(145,zG [.g jP] (FVr fun v=>int (wV v)))]
theorem ztd:AM.Good Crv (fun g=>([]:List Nat).contains g):=zk mixed ⟨X1,by simp,kF,by simp,kH,by simp,jf,by simp,trivial⟩
theorem Wg (l:List UInt8) (hp:Hp) (nx:Nat) (h:l.length≤lim):zd false [] (FSP Wd) [str l] hp nx=some (.tup [int ((jJ l).getD 0),boo (jJ l).isSome],hp,nx):=JR Wd l hp nx h rfl
theorem zqR {α:Type} {l:List α} (h:l.length=3):∃a b c,l=[a,b,c]:=by
 match l,h with
 | [a,b,c],_=>exact⟨a,b,c,rfl⟩
theorem Js (t:List UInt8) (ht:t.length+1≤lim):∃r0,zg Crv f113 [str t]=some r0∧Stands r0 (rdP t):=by
 refine qt (sh:=.g jP) rfl ?_
 have hcl:=zp2 t [45]
 have hcut:=fun hp nx=>zaV t [45] hp nx (by omega) (by decide)
 have hsp:=fun hp nx=>jv (Lib.cut t [45]).1 [46] hp nx (by omega) (by decide) (by decide)
 have hsp2:=fun hp nx=>jv (Lib.cut t [45]).2.1 [46] hp nx (by omega) (by decide) (by decide)
 have hpl:∀p∈zy (Lib.cut t [45]).1 [46],p.length≤lim:=fun p hp=>by have:=w8 hp;omega
 have hql:∀p∈zy (Lib.cut t [45]).2.1 [46],p.length≤lim:=fun p hp=>by have:=w8 hp;omega
 have hqn:(zy (Lib.cut t [45]).2.1 [46]).length≤lim:=by have:=yY (s:=(Lib.cut t [45]).2.1) (sep:=[46]) (by simp);omega
 by_cases h3:(zy (Lib.cut t [45]).1 [46]).length=3
 ·obtain⟨p0,p1,p2,hps⟩:=zqR h3
  rw[hps] at hsp hpl
  have hn0:=fun hp nx=>Wg p0 hp nx (hpl p0 (by simp))
  have hn1:=fun hp nx=>Wg p1 hp nx (hpl p1 (by simp))
  have hn2:=fun hp nx=>Wg p2 hp nx (hpl p2 (by simp))
  simp[hcut,hsp]
  rw[zl]
  cases e0:jJ p0 with
  | none =>
    rw[e0] at hn0
    simp[hn0,rdP,rdV,hps,e0,zx,zR,zF,ver0,Ver.enc,f113]
  | some a =>
    rw[e0] at hn0
    simp[hn0]
    rw[zl]
    cases e1:jJ p1 with
    | none =>
      rw[e1] at hn1
      simp[hn1,rdP,rdV,hps,e0,e1,zx,zR,zF,ver0,Ver.enc,f113]
    | some b =>
      rw[e1] at hn1
      simp[hn1]
      rw[zl]
      cases e2:jJ p2 with
      | none =>
        rw[e2] at hn2
        simp[hn2,rdP,rdV,hps,e0,e1,e2,zx,zR,zF,ver0,Ver.enc,f113]
      | some c =>
        rw[e2] at hn2
        simp[hn2]
        rw[zl]
        simp[zx,zR]
        have hv1:(⟨a,b,c,[]⟩:Ver).small:=⟨by simp,by simp⟩
        have hv2:(⟨a,b,c,zy (Lib.cut t [45]).2.1 [46]⟩:Ver).small:=⟨hqn,hql⟩
        cases eh:(Lib.cut t [45]).2.2
        ·have hck:=fun hp nx=>za1 (fun v=>int (wV v)) ⟨a,b,c,[]⟩ (.agg [int a,int b,int c,.nil]) hp hp nx _ rfl rfl hv1 rfl
         by_cases hz:wV ⟨a,b,c,[]⟩=0
         ·simp[hck,hz,rdP,rdV,yb,hps,e0,e1,e2,eh,zF,Ver.enc,f113]
         ·have hz':(wV ⟨a,b,c,[]⟩ != 0)=true:=by simpa using hz
          simp[hck,hz,hz',rdP,rdV,yb,hps,e0,e1,e2,eh,zx,zR,zF,ver0,Ver.enc,f113]
        ·have hck:∀(hp:Hp) (nx id n:Nat),hp id=some ⟨9,1,true,zD (zy (Lib.cut t [45]).2.1 [46])⟩→n=(zy (Lib.cut t [45]).2.1 [46]).length→zG [.g jP] (FVr fun v=>int (wV v)) [.agg [int a,int b,int c,.own id 0 n]] hp nx=some (int (wV ⟨a,b,c,zy (Lib.cut t [45]).2.1 [46]⟩),hp,nx):=by
          intro hp nx id n hh hn
          subst hn
          exact za1 (fun v=>int (wV v)) ⟨a,b,c,zy (Lib.cut t [45]).2.1 [46]⟩ _ hp (upd hp id none) nx (.agg [int a,int b,int c,.sl 1 (zD (zy (Lib.cut t [45]).2.1 [46]))]) (by simp[hh]) rfl hv2 rfl
         by_cases hz:wV ⟨a,b,c,zy (Lib.cut t [45]).2.1 [46]⟩=0
         ·simp[hsp2,hck,hz,rdP,rdV,yb,hps,e0,e1,e2,eh,zF,Ver.enc,f113]
         ·have hz':(wV ⟨a,b,c,zy (Lib.cut t [45]).2.1 [46]⟩ != 0)=true:=by simpa using hz
          simp[hsp2,hck,hz,hz',rdP,rdV,yb,hps,e0,e1,e2,eh,zx,zR,zF,ver0,Ver.enc,f113]
 ·have h3':(((zy (Lib.cut t [45]).1 [46]).length:Int) != 3)=true:=by simp;omega
  have hr:rdV t=none:=by
   unfold rdV
   split
   ·rename_i e;rw[e] at h3;simp at h3
   ·rfl
  simp[hcut,hsp,h3',h3,rdP,hr,zx,zR,zF,ver0,Ver.enc,f113]
theorem vS:za prog 113 (zd false [] (VU rdP)) :=
 xw (fn:=f113) ztd ⟨_,func113,by kernel_rfl,rfl,by kernel_rfl⟩ false [] _ fun args r h w S vs hz=>by
  obtain⟨l,rfl,hp,rfl⟩:=ze h
  obtain⟨r0,h1,h2⟩:=Js l hp
  exact⟨_,r0,hz,by simp[f113],h1,h2⟩
structure Part where
 n0:Int
 n1:Int
 n2:Int
 has:Int
 pre:List (List UInt8)
def Part.enc (p:Part):List PV:=[int p.n0,int p.n1,int p.n2,int p.has,.sl 1 (zD p.pre)]
abbrev zc6:List (Option Nat):=[none,none,none,none,some 1]
def part0:Part:=⟨0,0,0,0,[]⟩
def Part.put (p:Part) (i:Nat) (n:Int):Part:=match i with
 | 0=>{ p with n0:=n,has:=p.has+1 }
 | 1=>{ p with n1:=n,has:=p.has+1 }
 | _=>{ p with n2:=n,has:=p.has+1 }
def z8 (p:Part) (i:Nat) (t:List UInt8):Option Part:=if (jJ t).isSome=true∧p.has=i then some (p.put i ((jJ t).getD 0)) else if qH t=true∧i≠0 then some p else none
def qq:Part→Nat→List (List UInt8)→Option Part
 | p,_,[]=>some p
 | p,i,t::l=>match z8 p i t with
   | some q=>qq q (i+1) l
   | none=>none
def zt (t:List UInt8):Part×Bool:=if Lib.contains t [45]=true then (match rdV t with
    | some v=>(⟨v.a,v.b,v.c,3,v.pre⟩,true)
    | none=>(⟨0,0,0,3,[]⟩,false))
 else if 3<(zy t [46]).length then (part0,false) else match qq part0 0 (zy t [46]) with
  | some p=>(p,true)
  | none=>(part0,false)
def wz (t:List UInt8):PV:=.tup [.agg (zt t).1.enc,boo (zt t).2]
noncomputable abbrev zvP:Ctx:=zC prog [(111,zd false [] (FTT zp1 fun _ _=>True)),(113,zd false [] (VU rdP)),(143,qP [] FSp),(144,zd false [] (FSP Wd)),(192,zd false [] (FS qH))]
theorem zte:AM.Good zvP (fun g=>[192].contains g):=zk mixed ⟨vt,by simp,vS,by simp,kF,by simp,kH,by simp,X3,fun _=>zi _ _,trivial⟩
theorem zoh (a b:List UInt8) (hp:Hp) (nx:Nat) (h:a.length≤lim) (h2:b.length≤lim):zd false [] (FTT zp1 fun _ _=>True) [str a,str b] hp nx=some (boo (Lib.contains a b),hp,nx):=wq _ _ a b hp nx h h2 trivial rfl
def Part.raw (p:Part):List PV:=[int p.n0,int p.n1,int p.n2,int p.has,.nil]
theorem za2 {p:Part} {k:Nat} {l:List (List UInt8)} (h:k<l.length):qq p k (l.drop k)=match z8 p k l[k] with
  | some q=>qq q (k+1) (l.drop (k+1))
  | none=>none:=by
 rw[List.drop_eq_getElem_cons h]
 rfl
theorem Jt (t:List UInt8) (ht:t.length+1≤lim):∃r0,zg zvP f190 [str t]=some r0∧Stands r0 (wz t):=by
 refine qt (sh:=.g zc6) rfl ?_
 have hcn:=fun hp nx=>zoh t [45] hp nx (by omega) (by decide)
 cases hc:Lib.contains t [45]
 ·have hsp:=fun hp nx=>jv t [46] hp nx (by omega) (by decide) (by decide)
  have hpl:∀p∈zy t [46],p.length≤lim:=fun p hp=>by have:=w8 hp;omega
  by_cases h3:3<(zy t [46]).length
  ·have h3':(3:Int)<(zy t [46]).length:=by omega
   simp[hcn,hc,hsp,h3,h3',wz,zt,zx,zR,zF,part0,Part.enc,f190]
  have h3':¬(3:Int)<(zy t [46]).length:=by omega
  simp[hcn,hc,hsp,h3,h3']
  obtain⟨l,hl⟩:∃l,zy t [46]=l:=⟨_,rfl⟩
  rw[hl] at hpl h3
  have hrd:zt t=match qq part0 0 l with
   | some p=>(p,true)
   | none=>(part0,false):=by
   unfold zt
   rw[if_neg (by rw[hc];simp),hl,if_neg h3]
   try rfl
  simp only[hl]
  refine zu (fun k σ hp nx=>∃p:Part,p.pre=[]∧σ 2=.ref 0 0 0∧σ 7=.ref 2 0 0∧σ 37=.own 1 0 l.length∧σ 38=int l.length∧σ 39=int k∧p.has≤k∧0≤p.has ∧
    hp 0=some ⟨154,5,false,[part0.raw]⟩∧hp 1=some ⟨9,1,true,zD l⟩∧hp 2=some ⟨154,5,false,[p.raw]⟩∧qq part0 0 l=qq p k (l.drop k)) l.length
   ⟨part0,rfl,by simp,by simp,by simp,by simp,by simp,by simp[part0],by simp[part0],by simp[part0,Part.raw],by simp,by simp[part0,Part.raw],by simp⟩ ?_
  rintro k σ hp nx hk ⟨p,hpp,h2,h7,h37,h38,h39,hh,hh0,b0,b1,b2,he⟩
  by_cases hlt:k<l.length
  ·have hn:=fun hp nx=>Wg l[k] hp nx (hpl _ (List.getElem_mem hlt))
   have ho:=fun hp nx=>wO qH l[k] hp nx (hpl _ (List.getElem_mem hlt))
   have hw:IntKind.i64.wrap ((k:Int)+1)=(k:Int)+1:=zc (by omega) (by omega)
   have hw2:IntKind.i64.wrap (p.has+1)=p.has+1:=zc (by omega) (by omega)
   rw[za2 hlt] at he
   have hk3:k=0∨k=1∨k=2:=by omega
   obtain⟨n0,n1,n2,has,pre⟩:=p
   simp only at hpp hh hh0 hw2
   subst hpp
   cases hv:(jJ l[k]).isSome
   ·cases hop:qH l[k]
    ·have hs:z8 ⟨n0,n1,n2,has,[]⟩ k l[k]=none:=by simp[z8,hv,hop]
     rw[hs] at he
     rw[he] at hrd
     simp[h2,h7,h37,h38,h39,b0,b1,b2,hlt,hn,ho,hv,hop,wz,hrd,zx,zR,zF,part0,Part.raw,Part.enc,f190]
    ·by_cases hk0:k=0
     ·subst hk0
      have hs:z8 ⟨n0,n1,n2,has,[]⟩ 0 l[0]=none:=by simp[z8,hv]
      rw[hs] at he
      rw[he] at hrd
      simp[h2,h7,h37,h38,h39,b0,b1,b2,hlt,hn,ho,hv,hop,wz,hrd,zx,zR,zF,part0,Part.raw,Part.enc,f190]
     ·have hs:z8 ⟨n0,n1,n2,has,[]⟩ k l[k]=some ⟨n0,n1,n2,has,[]⟩:=by simp[z8,hv,hop,hk0]
      have hk0':((k:Int)==0)=false:=by simpa using hk0
      rw[hs] at he
      simp[h2,h7,h37,h38,h39,b0,b1,b2,hlt,hn,ho,hv,hop,hw,hk0',hk0]
      exact⟨hlt,⟨n0,n1,n2,has,[]⟩,rfl,Int.le_trans hh (by omega),hh0,rfl,he⟩
   ·by_cases hhk:has=k
    ·have hs:z8 ⟨n0,n1,n2,has,[]⟩ k l[k]=some ((⟨n0,n1,n2,has,[]⟩:Part).put k ((jJ l[k]).getD 0)):=by simp[z8,hv,hhk]
     rw[hs] at he
     rcases hk3 with rfl | rfl | rfl
     ·obtain rfl:has=0:=by simpa using hhk
      have hlt':(0:Int)<(l.length:Int):=by omega
      simp[h2,h7,h37,h38,h39,b0,b1,b2,hlt,hlt',hn,ho,hv,hw,Part.raw]
      refine⟨hlt,_,?_,?_,?_,?_,(by simpa using he)⟩<;>simp[Part.put]
     ·obtain rfl:has=1:=by simpa using hhk
      have hlt':(1:Int)<(l.length:Int):=by omega
      simp[h2,h7,h37,h38,h39,b0,b1,b2,hlt,hlt',hn,ho,hv,hw,Part.raw]
      refine⟨hlt,_,?_,?_,?_,?_,(by simpa using he)⟩<;>simp[Part.put]
     ·obtain rfl:has=2:=by simpa using hhk
      have hlt':(2:Int)<(l.length:Int):=by omega
      simp[h2,h7,h37,h38,h39,b0,b1,b2,hlt,hlt',hn,ho,hv,hw,Part.raw]
      refine⟨hlt,_,?_,?_,?_,?_,(by simpa using he)⟩<;>simp[Part.put]
    ·cases hop:qH l[k]
     ·have hs:z8 ⟨n0,n1,n2,has,[]⟩ k l[k]=none:=by simp[z8,hv,hop,hhk]
      have hhk':(has==(k:Int))=false:=by simpa using hhk
      rw[hs] at he
      rw[he] at hrd
      simp[h2,h7,h37,h38,h39,b0,b1,b2,hlt,hn,ho,hv,hop,hhk',wz,hrd,zx,zR,zF,part0,Part.raw,Part.enc,f190]
     ·by_cases hk0:k=0
      ·subst hk0
       have hs:z8 ⟨n0,n1,n2,has,[]⟩ 0 l[0]=none:=by simp[z8,hhk];intro _;exact hhk
       have hhk':(has==0)=false:=by simpa using hhk
       rw[hs] at he
       rw[he] at hrd
       simp[h2,h7,h37,h38,h39,b0,b1,b2,hlt,hn,ho,hv,hop,hhk',wz,hrd,zx,zR,zF,part0,Part.raw,Part.enc,f190]
      ·have hs:z8 ⟨n0,n1,n2,has,[]⟩ k l[k]=some ⟨n0,n1,n2,has,[]⟩:=by simp[z8,hv,hop,hk0,hhk]
       have hk0':((k:Int)==0)=false:=by simpa using hk0
       have hhk':(has==(k:Int))=false:=by simpa using hhk
       rw[hs] at he
       simp[h2,h7,h37,h38,h39,b0,b1,b2,hlt,hn,ho,hv,hop,hw,hk0',hk0,hhk',Part.raw]
       exact⟨hlt,⟨n0,n1,n2,has,[]⟩,rfl,Int.le_trans hh (by omega),hh0,⟨rfl,rfl,rfl,rfl⟩,he⟩
  ·obtain rfl:k=l.length:=by omega
   rw[List.drop_length] at he
   simp only[qq] at he
   rw[he] at hrd
   simp[h2,h7,h37,h38,h39,b0,b1,b2,wz,hrd,hpp,zF,Part.raw,Part.enc,f190]
 ·have hrv:=fun hp nx=>wu rdP t hp nx ht
  cases hr:rdV t with
  | none=>simp[hcn,hc,hrv,rdP,hr,wz,zt,zx,zR,zF,ver0,Ver.enc,Part.enc,f190]
  | some v=>simp[hcn,hc,hrv,rdP,hr,wz,zt,zx,zR,zF,Ver.enc,Part.enc,f190]
theorem Yo:za prog 190 (zd false [] (VU wz)) :=
 xw (fn:=f190) zte ⟨_,func190,by kernel_rfl,rfl,by kernel_rfl⟩ false [] _ fun args r h w S vs hz=>by
  obtain⟨l,rfl,hp,rfl⟩:=ze h
  obtain⟨r0,h1,h2⟩:=Jt l hp
  exact⟨_,r0,hz,by simp[f190],h1,h2⟩
inductive Val where
 | mk (kind n:Int) (s:List UInt8) (items:List Val) (fields:List (List UInt8×Val))
namespace Val
def kind:Val→Int | .mk k _ _ _ _=>k
def n:Val→Int | .mk _ n _ _ _=>n
def s:Val→List UInt8 | .mk _ _ s _ _=>s
def items:Val→List Val | .mk _ _ _ l _=>l
def fields:Val→List (List UInt8×Val) | .mk _ _ _ _ l=>l
end Val
theorem Val.ind {P:Val→Prop} (h:∀k n s is fs,(∀x∈is,P x)→(∀f∈fs,P f.2)→P (.mk k n s is fs)) (v:Val):P v :=
 Val.rec (motive_1:=P) (motive_2:=fun l=>∀x∈l,P x) (motive_3:=fun l=>∀f∈l,P f.2) (motive_4:=fun f=>P f.2) (fun k n s is fs h1 h2=>h k n s is fs h1 h2)
  (by simp) (fun x l hx hl y hy=>by rcases List.mem_cons.1 hy with rfl | hy;(first | exact hx | exact hl y hy);(first | exact hx | exact hl y hy)) (by simp) (fun x l hx hl y hy=>by rcases List.mem_cons.1 hy with rfl | hy;(first | exact hx | exact hl y hy);(first | exact hx | exact hl y hy)) (fun a v hv=>hv) v
mutual
def Val.enc:Val→List PV
 | .mk k n s is fs=>[int k,int n,str s,.sl 5 (encVs is),.sl 6 (encFs fs)]
def encVs:List Val→List (List PV)
 | []=>[]
 | v::l=>v.enc::encVs l
def encFs:List (List UInt8×Val)→List (List PV)
 | []=>[]
 | (a,v)::l=>(str a::v.enc)::encFs l
end
abbrev wF (f:List UInt8×Val):List PV:=str f.1::f.2.enc
theorem zc7:∀l:List Val,encVs l=l.map Val.enc
 | []=>rfl
 | v::l=>by simp[encVs,zc7 l]
theorem zc8:∀l:List (List UInt8×Val),encFs l=l.map wF
 | []=>rfl
 | (a,v)::l=>by simp[encFs,zc8 l]
theorem js (v:Val):v.enc=[int v.kind,int v.n,str v.s,.sl 5 (v.items.map Val.enc),.sl 6 (v.fields.map wF)]:=by
 cases v with
 | mk k n s is fs=>simp[Val.enc,zc7,zc8,Val.kind,Val.n,Val.s,Val.items,Val.fields]
@[simp] theorem enc_length (v:Val):v.enc.length=5:=by rw[js];rfl
@[simp] theorem zlj (v:Val):v.enc.all PV.isCell=true:=by rw[js];rfl
@[simp] theorem enc_cells' (v:Val):(∀x,x∈v.enc→PV.isCell x=true)=True:=by
 have:=zlj v
 rw[List.all_eq_true] at this
 exact eq_true this
@[simp] theorem enc_take (v:Val):v.enc.take 5=v.enc:=List.take_of_length_le (by simp)
@[simp] theorem enc_0 (v:Val) (h:0<v.enc.length):v.enc[0]=int v.kind:=by simp[js v]
@[simp] theorem enc_1 (v:Val) (h:1<v.enc.length):v.enc[1]=int v.n:=by simp[js v]
@[simp] theorem enc_2 (v:Val) (h:2<v.enc.length):v.enc[2]=str v.s:=by simp[js v]
@[simp] theorem enc_3 (v:Val) (h:3<v.enc.length):v.enc[3]=.sl 5 (v.items.map Val.enc):=by simp[js v]
@[simp] theorem enc_4 (v:Val) (h:4<v.enc.length):v.enc[4]=.sl 6 (v.fields.map wF):=by simp[js v]
theorem ZX {α β:Type} {f:α→β}:∀{xs ys:List α},(∀x∈xs,∀y,f x=f y→x=y)→xs.map f=ys.map f→xs=ys
 | [],[],_,_=>rfl
 | [],y::ys,_,e=>by simp at e
 | x::xs,[],_,e=>by simp at e
 | x::xs,y::ys,h,e=>by
   simp only[List.map_cons,List.cons.injEq] at e
   rw[h x (by simp) y e.1,ZX (fun z hz=>h z (by simp[hz])) e.2]
theorem jR:∀{a b:Val},a.enc=b.enc→a=b:=by
 intro a
 induction a using Val.ind with
 | h k n s is fs h1 h2 =>
   intro b e
   cases b with
   | mk k' n' s' is' fs' =>
     simp only[js,Val.kind,Val.n,Val.s,Val.items,Val.fields,List.cons.injEq,and_true] at e
     obtain⟨e1,e2,e3,e4,e5⟩:=e
     obtain rfl:=zP e1
     obtain rfl:=zP e2
     obtain rfl:=qg e3
     injection e4 with _ e4
     injection e5 with _ e5
     obtain rfl:=ZX (fun x hx y=>h1 x hx) e4
     obtain rfl:=ZX (fun x hx y e=>by
      simp only[wF,List.cons.injEq] at e
      exact Prod.ext (qg e.1) (h2 x hx e.2)) e5
     rfl
mutual
def Val.vb:Val→Nat
 | .mk _ _ s is fs=>1+s.length+vbs is+fbs fs
def vbs:List Val→Nat
 | []=>0
 | v::l=>v.vb+vbs l
def fbs:List (List UInt8×Val)→Nat
 | []=>0
 | (a,v)::l=>a.length+v.vb+fbs l
end
theorem j9 (v:Val):v.vb=1+v.s.length+vbs v.items+fbs v.fields:=by cases v;rfl
theorem Zt (v:Val):0<v.vb:=by rw[j9];omega
theorem wA:∀{l:List Val} {x:Val},x∈l→x.vb≤vbs l
 | y::l,x,h=>by
   simp only[vbs]
   rcases List.mem_cons.1 h with rfl | h
   ·omega
   ·have:=wA h;omega
theorem yA:∀{l:List (List UInt8×Val)} {x:List UInt8×Val},x∈l→x.1.length+x.2.vb≤fbs l
 | (a,y)::l,x,h=>by
   simp only[fbs]
   rcases List.mem_cons.1 h with rfl | h
   ·simp only;omega
   ·have:=yA h;omega
theorem qD:∀l:List Val,l.length≤vbs l
 | []=>by simp[vbs]
 | v::l=>by have:=qD l;have:=Zt v;simp only[vbs,List.length_cons];omega
theorem qQ:∀l:List (List UInt8×Val),l.length≤fbs l
 | []=>by simp[fbs]
 | (a,v)::l=>by have:=qQ l;have:=Zt v;simp only[fbs,List.length_cons];omega
noncomputable def FV (out:Val→PV) (n:Nat):List PV→Option PV:=zJ (α:=Val) (fun v=>[.agg v.enc]) (fun v=>v.vb≤lim∧v.vb≤n) out
theorem zvc (out:Val→PV) (n:Nat) (v:Val) (h:v.vb≤lim∧v.vb≤n):FV out n [.agg v.enc]=some (out v) :=
 zm (enc:=fun v:Val=>[.agg v.enc]) (a:=v) (fun a b e=>by simp only[List.cons.injEq,and_true,PV.agg.injEq] at e;exact jR e) h
@[simp] theorem freezeCells_enc (hp:Hp) (v:Val):zW hp v.enc=some (v.enc,hp):=by rw[js];simp
theorem ZY (hp:Hp) (v:Val):zE hp (.agg v.enc)=some (.agg v.enc,hp):=by
 rw[js]
 simp
theorem Kz (v:Val):PV.noOwn (.agg v.enc)=true:=by
 rw[js]
 simp
theorem Yp (out:Val→PV) (n:Nat) (v:Val) (hp:Hp) (nx:Nat) (h:v.vb≤lim∧v.vb≤n):zd false [] (FV out n) [.agg v.enc] hp nx=some (out v,hp,nx) :=
 zH (hp1:=hp) (show zj hp [.agg v.enc]=some ([.agg v.enc],hp) by simp only[zj,ZY]) (zvc out n v h) (.inr (by simp only[List.all_cons,Kz,List.all_nil,Bool.and_self]))
mutual
def Val.parts:Val→Nat
 | .mk _ _ _ is fs=>1+partsV is+partsF fs
def partsV:List Val→Nat
 | []=>0
 | v::l=>v.parts+partsV l
def partsF:List (List UInt8×Val)→Nat
 | []=>0
 | (_,v)::l=>v.parts+partsF l
end
mutual
def Val.levels:Val→Nat
 | .mk _ _ _ is fs=>max (levelsV is) (levelsF fs)+1
def levelsV:List Val→Nat
 | []=>0
 | v::l=>max v.levels (levelsV l)
def levelsF:List (List UInt8×Val)→Nat
 | []=>0
 | (_,v)::l=>max v.levels (levelsF l)
end
theorem zhe (v:Val):v.parts=1+partsV v.items+partsF v.fields:=by cases v;rfl
theorem zc9 (v:Val):v.levels=max (levelsV v.items) (levelsF v.fields)+1:=by cases v;rfl
theorem za3 (v:Val):v.parts≤v.vb:=by
 induction v using Val.ind with
 | h k n s is fs h1 h2 =>
   have a:∀l:List Val,(∀x∈l,x.parts≤x.vb)→partsV l≤vbs l:=by
    intro l
    induction l with
    | nil=>simp[partsV]
    | cons v l ih=>intro h;have:=h v (by simp);have:=ih fun x hx=>h x (by simp[hx]);simp only[partsV,vbs];omega
   have b:∀l:List (List UInt8×Val),(∀x∈l,x.2.parts≤x.2.vb)→partsF l≤fbs l:=by
    intro l
    induction l with
    | nil=>simp[partsF]
    | cons v l ih=>intro h;have:=h v (by simp);have:=ih fun x hx=>h x (by simp[hx]);obtain⟨a,v⟩:=v;simp only[partsF,fbs];simp only at *;omega
   have:=a is h1
   have:=b fs h2
   simp only[Val.parts,Val.vb]
   omega
theorem zda (v:Val):v.levels≤v.parts:=by
 induction v using Val.ind with
 | h k n s is fs h1 h2 =>
   have a:∀l:List Val,(∀x∈l,x.levels≤x.parts)→levelsV l≤partsV l:=by
    intro l
    induction l with
    | nil=>simp[levelsV]
    | cons v l ih=>intro h;have:=h v (by simp);have:=ih fun x hx=>h x (by simp[hx]);simp only[levelsV,partsV];omega
   have b:∀l:List (List UInt8×Val),(∀x∈l,x.2.levels≤x.2.parts)→levelsF l≤partsF l:=by
    intro l
    induction l with
    | nil=>simp[levelsF]
    | cons v l ih=>intro h;have:=h v (by simp);have:=ih fun x hx=>h x (by simp[hx]);obtain⟨a,v⟩:=v;simp only[levelsF,partsF];simp only at *;omega
   have:=a is h1
   have:=b fs h2
   simp only[Val.parts,Val.levels]
   omega
noncomputable abbrev Cc (n:Nat):Ctx:=Wa prog [(49,zd false [] (FV (fun v=>.tup [int v.parts,int v.levels]) n))] (zkZ 2 [(2,1)])
theorem qB {C:Ctx} {fn:Func} {code:Code} {args:List PV} {hp:Hp} {nx:Nat} {x:PV} {hp':Hp} {nx':Nat} (hb:fn.body=some code)
  (h:EvC C code ⟨yF args,hp,nx⟩ (zcL C.P fn (fun y h m=>y=x∧h=hp'∧m=nx'))):q8 C fn args hp nx=some (x,hp',nx'):=by
 obtain⟨y,h1,n1,he,rfl,rfl,rfl⟩:=zM hb h
 exact he
theorem X7 (n:Nat) (v:Val) (h:v.vb≤lim∧v.vb≤n) (hp:Hp) (nx i j:Nat) (hi:i<nx) (hj:j<nx) (hij:i≠j) (p q:Nat) (hpi:hp i=some ⟨3,1,false,[[int p]]⟩) (hpj:hp j=some ⟨3,1,false,[[int q]]⟩) (hpb:p≤lim) :
  yf (Cc n) f70 [.agg v.enc,.ref i 0 0,.ref j 0 0] hp nx =
   some (.tup [],upd (upd (upd hp nx (some ⟨61,5,false,[v.enc]⟩)) i (some ⟨3,1,false,[[int ((p+v.parts:Nat):Int)]]⟩)) j (some ⟨3,1,false,[[int ((max q v.levels:Nat):Int)]]⟩),nx+1):=by
 have hpl:=za3 v
 have hll:=zda v
 unfold lim at *
 have w1:IntKind.i64.wrap ((p:Int)+v.parts)=(p:Int)+v.parts:=zc (by omega) (by omega)
 unfold yf
 rw[if_pos (by simp[f70])]
 refine qB rfl ?_
 have hcall:=fun hp nx=>Yp (fun v=>.tup [int v.parts,int v.levels]) n v hp nx h
 have e1:¬i=nx:=by omega
 have e2:¬j=nx:=by omega
 have e3:¬j=i:=by omega
 have e4:(if q<v.levels then (v.levels:Int) else q)=((max q v.levels:Nat):Int):=by split<;>omega
 simp[hcall]
 rw[kB _ _ _ _ _ _ (XZ (blk:=⟨3,1,false,[[int p]]⟩) (id:=j) (i:=0) (j:=0) (id':=i) (i':=0) (j':=0) (by simp) (by simp) (Ne.symm hij) (by simp[e1,hpi]) rfl) (fun _ h=>by cases h)]
 simp[hpi,hpj,e1,e2,e3,hij,w1,e4,f70]
theorem Wh (a b:List Val):partsV (a++b)=partsV a+partsV b:=by
 induction a with
 | nil=>simp[partsV]
 | cons v a ih=>simp only[List.cons_append,partsV,ih];omega
theorem Xd (a b:List Val):levelsV (a++b)=max (levelsV a) (levelsV b):=by
 induction a with
 | nil=>simp[levelsV]
 | cons v a ih=>simp only[List.cons_append,levelsV,ih];omega
theorem Wi (a b:List (List UInt8×Val)):partsF (a++b)=partsF a+partsF b:=by
 induction a with
 | nil=>simp[partsF]
 | cons v a ih=>obtain⟨x,v⟩:=v;simp only[List.cons_append,partsF,ih];omega
theorem Xe (a b:List (List UInt8×Val)):levelsF (a++b)=max (levelsF a) (levelsF b):=by
 induction a with
 | nil=>simp[levelsF]
 | cons v a ih=>obtain⟨x,v⟩:=v;simp only[List.cons_append,levelsF,ih];omega
theorem zvd {l:List Val} {k:Nat} (h:k<l.length):partsV (l.take (k+1))=partsV (l.take k)+l[k].parts∧levelsV (l.take (k+1))=max (levelsV (l.take k)) l[k].levels:=by
 rw[List.take_succ_eq_append_getElem h,Wh,Xd]
 simp[partsV,levelsV]
theorem zve {l:List (List UInt8×Val)} {k:Nat} (h:k<l.length):partsF (l.take (k+1))=partsF (l.take k)+l[k].2.parts∧levelsF (l.take (k+1))=max (levelsF (l.take k)) l[k].2.levels:=by
 rw[List.take_succ_eq_append_getElem h,Wi,Xe]
 simp[partsF,levelsF]
theorem zlk (l:List Val) (k:Nat):partsV (l.take k)≤partsV l:=by
 have:=Wh (l.take k) (l.drop k)
 rw[List.take_append_drop] at this
 omega
theorem zll (l:List (List UInt8×Val)) (k:Nat):partsF (l.take k)≤partsF l:=by
 have:=Wi (l.take k) (l.drop k)
 rw[List.take_append_drop] at this
 omega
noncomputable abbrev Cd (n:Nat):Ctx:=Wa prog [(70,yf (Cc n) f70)] (zkZ 13 [(3,2)])
theorem ziU (n:Nat) (v:Val) (h:v.vb≤lim∧v.vb≤n+1):zg (Cd n) f49 [.agg v.enc]=some (.tup [int v.parts,int v.levels]):=by
 have hpl:=za3 v
 have hpe:=zhe v
 have hvb:=j9 v
 have hle:=zc9 v
 have hl1:=qD v.items
 have hl2:=qQ v.fields
 obtain⟨ha,hb⟩:=h
 unfold lim at ha
 refine zb rfl ?_
 simp
 refine zu (fun k σ hp nx=>σ 1=.ref 0 0 0∧σ 2=.ref 1 0 0∧σ 3=.ref 2 0 0∧σ 4=.fn (.func 70) [] [.ref 1 0 0,.ref 2 0 0]∧σ 11=.sl 5 (v.items.map Val.enc)∧σ 12=int v.items.length∧σ 13=int k∧3≤nx∧hp 0=some ⟨61,5,false,[v.enc]⟩ ∧
   hp 1=some ⟨3,1,false,[[int ((1+partsV (v.items.take k):Nat):Int)]]⟩∧hp 2=some ⟨3,1,false,[[int (levelsV (v.items.take k))]]⟩) v.items.length
  ⟨by simp,by simp,by simp,by simp,by simp,by simp,by simp,by simp,by simp,by simp[partsV],by simp[levelsV]⟩ ?_
 rintro k σ hp nx hk ⟨h1,h2,h3,h4,h11,h12,h13,hnx,b0,b1,b2⟩
 by_cases hlt:k<v.items.length
 ·obtain⟨t1,t2⟩:=zvd hlt
  have hm:=wA (List.getElem_mem hlt)
  have hw:IntKind.i64.wrap ((k:Int)+1)=(k:Int)+1:=zc (by omega) (by omega)
  have hple:=zlk v.items k
  have hrun:=X7 n v.items[k] ⟨by unfold lim;omega,by omega⟩ (upd hp nx (some ⟨61,5,false,[v.items[k].enc]⟩)) (nx+1) 1 2 (by omega) (by omega) (by omega) _ _ (by rw[zq _ _ _ _ (by omega)];exact b1) (by rw[zq _ _ _ _ (by omega)];exact b2) (by unfold lim;omega)
  simp[h1,h2,h3,h4,h11,h12,h13,hlt,hrun,hw]
  refine⟨hlt,by omega,?_,?_,?_⟩
  ·simp[b0,show ¬0=nx by omega,show ¬0=nx+1 by omega]
  ·rw[t1];omega
  ·rw[t2]
 ·obtain rfl:k=v.items.length:=by omega
  rw[List.take_length] at b1 b2
  simp[h1,h2,h3,h4,h11,h12,h13,b0]
  refine zu (fun k σ hp nx=>σ 1=.ref 0 0 0∧σ 2=.ref 1 0 0∧σ 3=.ref 2 0 0∧σ 4=.fn (.func 70) [] [.ref 1 0 0,.ref 2 0 0]∧σ 22=.sl 6 (v.fields.map wF)∧σ 23=int v.fields.length∧σ 24=int k∧3≤nx ∧
    hp 1=some ⟨3,1,false,[[int ((1+partsV v.items+partsF (v.fields.take k):Nat):Int)]]⟩∧hp 2=some ⟨3,1,false,[[int ((max (levelsV v.items) (levelsF (v.fields.take k)):Nat):Int)]]⟩) v.fields.length
   ⟨by simp[h1],by simp[h2],by simp[h3],by simp[h4],by simp,by simp,by simp,hnx,by simp[b1,partsF],by simp[b2,levelsF]⟩ ?_
  clear h1 h2 h3 h4 h11 h12 h13 hnx b0 b1 b2 hlt hk nx hp σ
  rintro k σ hp nx hk ⟨h1,h2,h3,h4,h11,h12,h13,hnx,b1,b2⟩
  by_cases hlt:k<v.fields.length
  ·obtain⟨t1,t2⟩:=zve hlt
   have hm:=yA (List.getElem_mem hlt)
   have hw:IntKind.i64.wrap ((k:Int)+1)=(k:Int)+1:=zc (by omega) (by omega)
   have hple:=zll v.fields k
   have hrun:=X7 n v.fields[k].2 ⟨by unfold lim;omega,by omega⟩ (upd hp nx (some ⟨95,6,false,[wF v.fields[k]]⟩)) (nx+1) 1 2 (by omega) (by omega) (by omega) _ _ (by rw[zq _ _ _ _ (by omega)];exact b1) (by rw[zq _ _ _ _ (by omega)];exact b2) (by unfold lim;omega)
   simp[wF] at hrun
   simp[h1,h2,h3,h4,h11,h12,h13,hlt,hw,hrun]
   refine⟨hlt,by omega,?_,?_⟩
   ·rw[t1];omega
   ·rw[t2]
  ·obtain rfl:k=v.fields.length:=by omega
   rw[List.take_length] at b1 b2
   have hll:=zda v
   have hw:IntKind.i64.wrap (((max (levelsV v.items) (levelsF v.fields):Nat):Int)+1)=(v.levels:Int):=by rw[zc (by omega) (by omega),hle];omega
   simp[h1,h2,h3,h4,h11,h12,h13]
   rw[kB _ _ _ _ _ _ (XZ (id:=2) (i:=0) (j:=0) (id':=1) (i':=0) (j':=0) (by simp[h3]) (by simp[h2]) (by omega) (by exact b1) rfl) (fun _ h=>by cases h)]
   simp[h1,h2,h3,b1,b2,hw,f49,qe]
   omega
theorem Wj {out:Val→PV} {n:Nat} {args:List PV} {r:PV} (h:FV out n args=some r):∃v:Val,args=[.agg v.enc]∧(v.vb≤lim∧v.vb≤n)∧r=out v:=ze h
theorem zqS {out:Val→PV}:∀args r,FV out 0 args=some r→False:=fun args r h=>by
 obtain⟨v,rfl,hv,rfl⟩:=Wj h
 have:=Zt v
 omega
theorem zfn {out:Val→PV} {f:FuncId} (hfn:∃fn,prog.funcs[f]?=some fn∧(fn.name== "runtime.NumGoroutine")=false∧fn.body.isNone=false):za prog f (zd false [] (FV out 0)):=by
 refine⟨hfn,fun args hp nx r hp' nx' h=>?_⟩
 unfold zd at h
 split at h
 ·split at h
  ·rename_i r0 hF
   exact (zqS _ _ hF).elim
  ·cases h
 ·cases h
set_option maxRecDepth 100000 in
theorem zfo:∀n,za prog 49 (zd false [] (FV (fun v=>.tup [int v.parts,int v.levels]) n)):=by
 intro n
 induction n with
 | zero=>exact zfn ⟨_,func49,by kernel_rfl,by kernel_rfl⟩
 | succ n ih =>
   have hc:AM.Good (Cc n) (fun g=>([]:List Nat).contains g):=zg8 _ mixed ⟨ih,by simp,trivial⟩
   have h1:za prog 70 (yf (Cc n) f70):=zX (code:=_) hc ⟨func70,by kernel_rfl,rfl,by kernel_rfl⟩
   have hd:AM.Good (Cd n) (fun g=>([]:List Nat).contains g):=zg8 _ mixed ⟨h1,by simp,trivial⟩
   exact zL (fn:=f49) hd ⟨_,func49,by kernel_rfl,rfl,by kernel_rfl⟩ false [] _ fun args r h=>by
    obtain⟨v,rfl,hv,rfl⟩:=Wj h
    exact⟨Nat.le_trans (Nat.le_refl 1) (by decide),_,ziU n v hv,zK _⟩
noncomputable abbrev GV (out:Val→PV):AM.Spec:=zd false [] (FV out lim)
theorem vv (out:Val→PV) (v:Val) (hp:Hp) (nx:Nat) (h:v.vb≤lim):GV out [.agg v.enc] hp nx=some (out v,hp,nx):=Yp out lim v hp nx ⟨h,h⟩
end Go.Proofs.YtjcofiomfmebkaaGreatDoor
