/-
Names, keys and texts: what the program's and the reference's functions on bytes compute.
-/
import Derived.Test.YtjcofiomfmebkaaGreatDoorG10
import Derived.Test.YtjcofiomfmebkaaGreatDoorG11
import Derived.Shelf.Strings.Search2
import Derived.Shelf.Strings.Split
import Derived.Shelf.Strings.Trim
import Derived.Shelf.Strconv.Atoi
import Derived.Ground.Names2Prog
import Derived.Test.YtjcofiomfmebkaaGreatDoorProg
import Derived.Lib.Split
set_option maxRecDepth 8000
namespace Go.Proofs.YtjcofiomfmebkaaGreatDoor
open Go.Proofs.Tryz
open Go.RowKit Go.AM
abbrev int (n:Int):PV:=.v (.int .i64 n)
abbrev boo (b:Bool):PV:=.v (.bool b)
abbrev zs4 (c:UInt8):PV:=.v (.int .u8 c.toNat)
abbrev lim:Nat:=2097152
theorem mixed:prog.follows .mixedOrders=true:=by kernel_rfl
noncomputable abbrev C0:Ctx:=zC prog []
theorem yl:AM.Good C0 (fun g=>([]:List Nat).contains g):=zk mixed trivial
def F3 (f:Int→Int→Int→Bool):List PV→Option PV
 | [.v (.int .i64 a),.v (.int .i64 b),.v (.int .i64 c)]=>some (.v (.bool (f a b c)))
 | _=>none
def F1b (f:Int→Bool):List PV→Option PV
 | [.v (.int .u8 a)]=>some (.v (.bool (f a)))
 | _=>none
def inB (n a b:Int):Bool:=decide (a≤n)&&decide (n≤b)
def V8 (n:Int):Bool:=decide (97≤n)&&decide (n≤122)||decide (48≤n)&&decide (n≤57)||n==45||n==95
@[simp] theorem F3_call (f:Int→Int→Int→Bool) (a b c:Int) (hp:Hp) (nx:Nat):zd false [] (F3 f) [.v (.int .i64 a),.v (.int .i64 b),.v (.int .i64 c)] hp nx=some (.v (.bool (f a b c)),hp,nx):=zH rfl rfl (.inl rfl)
@[simp] theorem F1b_call (f:Int→Bool) (a:Int) (hp:Hp) (nx:Nat):zd false [] (F1b f) [.v (.int .u8 a)] hp nx=some (.v (.bool (f a)),hp,nx):=zH rfl rfl (.inl rfl)
theorem zk5 {f:Int→Int→Int→Bool} {args:List PV} {r:PV} (h:F3 f args=some r):∃a b c,args=[int a,int b,int c]∧r=boo (f a b c):=by
 unfold F3 at h
 split at h
 ·injection h with h;exact⟨_,_,_,rfl,h.symm⟩
 ·cases h
theorem zff {f:Int→Bool} {args:List PV} {r:PV} (h:F1b f args=some r):∃a,args=[.v (.int .u8 a)]∧r=boo (f a):=by
 unfold F1b at h
 split at h
 ·injection h with h;exact⟨_,rfl,h.symm⟩
 ·cases h
theorem jI:za prog 34 (zd false [] (F3 inB)) :=
 zL (fn:=f34) yl ⟨_,func34,by kernel_rfl,rfl,by kernel_rfl⟩ false [] _ fun args r h=>by
  obtain⟨a,b,c,rfl,rfl⟩:=zk5 h
  exact⟨by simp[f34],_,zb rfl (by simp[f34,inB]),zK _⟩
theorem yr:za prog 87 (zd false [] (F3 inB)) :=
 zL (fn:=f87) yl ⟨_,func87,by kernel_rfl,rfl,by kernel_rfl⟩ false [] _ fun args r h=>by
  obtain⟨a,b,c,rfl,rfl⟩:=zk5 h
  exact⟨by simp[f87],_,zb rfl (by simp[f87,inB]),zK _⟩
theorem zcY:za prog 35 (zd false [] (F1b V8)) :=
 zL (fn:=f35) yl ⟨_,func35,by kernel_rfl,rfl,by kernel_rfl⟩ false [] _ fun args r h=>by
  obtain⟨a,rfl,rfl⟩:=zff h
  exact⟨by simp[f35],_,zb rfl (by simp[f35,V8]),zK _⟩
theorem V9:za prog 84 (zd false [] (F1b V8)) :=
 zL (fn:=f84) yl ⟨_,func84,by kernel_rfl,rfl,by kernel_rfl⟩ false [] _ fun args r h=>by
  obtain⟨a,rfl,rfl⟩:=zff h
  exact⟨by simp[f84],_,zb rfl (by simp[f84,V8]),zK _⟩
noncomputable def FS (f:List UInt8→Bool):List PV→Option PV:=zJ (α:=List UInt8) (fun l=>[str l]) (fun l=>l.length≤lim) (fun l=>boo (f l))
@[simp] theorem wO (f:List UInt8→Bool) (l:List UInt8) (hp:Hp) (nx:Nat) (h:l.length≤lim):zd false [] (FS f) [str l] hp nx=some (boo (f l),hp,nx) :=
 zH rfl (zm (enc:=fun l:List UInt8=>[str l]) (a:=l) (fun a b e=>by simp only[List.cons.injEq,and_true] at e;exact qg e) h) (.inl rfl)
def pr (a b:Nat) (c:UInt8):Bool:=decide (a≤c.toNat)&&decide (c.toNat≤b)
theorem Y5 (a b:Nat) (c:UInt8):(decide ((c.toNat:Int)<a)||decide ((b:Int)<c.toNat))=!pr a b c:=by
 rw[Bool.eq_iff_iff];simp[pr]
def zU (a b:Nat) (l:List UInt8):Bool:=l.all (pr a b)
def yJ (l:List UInt8):Bool:=zU 33 126 l&&inB l.length 1 100
def zfg (l:List UInt8):Bool:=zU 33 126 l&&!(l==[])
def ve (l:List UInt8):Bool:=l.all fun c=>V8 c.toNat
def Zr (l:List UInt8):Bool:=ve l&&!(l==[])
def ziM:List UInt8→Bool
 | []=>false
 | c::_=>decide ((97:Int)≤c.toNat)&&decide ((c.toNat:Int)≤(122:Int))
def qi (l:List UInt8):Bool:=inB l.length 1 40&&ziM l&&ve l
noncomputable abbrev C1:Ctx:=zC prog [(34,zd false [] (F3 inB)),(35,zd false [] (F1b V8)),(87,zd false [] (F3 inB)),(84,zd false [] (F1b V8))]
abbrev qRl1:List Nat:=[34,35,87,84]
theorem ziN:AM.Good C1 (fun g=>qRl1.contains g):=zk mixed ⟨jI,fun _=>zi _ _,zcY,fun _=>zi _ _,yr,fun _=>zi _ _,V9,fun _=>zi _ _,trivial⟩
theorem JQ {l:List UInt8} {p:UInt8→Bool} {k:Nat} (h:k<l.length):(l.drop k).all p=(p l[k]&&(l.drop (k+1)).all p):=by rw[List.drop_eq_getElem_cons h,List.all_cons]
theorem yX {a b:Nat} {l:List UInt8} {k:Nat} (h:k<l.length):zU a b (l.drop k)=(pr a b l[k]&&zU a b (l.drop (k+1))):=JQ h
theorem Kr {l:List UInt8} {k:Nat} (h:k<l.length):ve (l.drop k)=(V8 l[k].toNat&&ve (l.drop (k+1))):=JQ h
@[simp] theorem bytesIn_nil (a b:Nat):zU a b []=true:=rfl
@[simp] theorem wordsB_nil:ve []=true:=rfl
theorem zk6 (l:List UInt8) (hl:l.length≤lim):zg C1 f72 [str l]=some (boo (zU 32 126 l)):=by
 refine zb rfl ?_
 unfold lim at hl
 simp
 refine zu (fun k σ hp nx=>σ 0=str l∧σ 5=int l.length∧σ 6=int k∧zU 32 126 l=zU 32 126 (l.drop k)) l.length ⟨by simp,by simp,by simp,by simp⟩ ?_
 rintro k σ hp nx hk ⟨h0,h5,h6,he⟩
 by_cases hlt:k<l.length
 ·have hw:IntKind.i64.wrap ((k:Int)+1)=(k:Int)+1:=zc (by omega) (by omega)
  rw[yX hlt] at he
  have ho:=Y5 32 126 l[k]
  simp only[Int.cast_ofNat_Int] at ho
  cases hc:pr 32 126 l[k]
  ·have he:zU 32 126 l=false:=by rw[he,hc];rfl
   simp[h0,h5,h6,hlt,he,ho,hc,f72]
  ·simp[h0,h5,h6,hlt,ho,hc,hw]
   exact⟨hlt,by rw[he,hc];rfl⟩
 ·obtain rfl:k=l.length:=by omega
  have he:zU 32 126 l=true:=by rw[he,List.drop_length];rfl
  simp[h0,h5,h6,he,f72]
theorem Xa (l:List UInt8) (hl:l.length≤lim):zg C1 f88 [str l]=some (boo (zU 32 126 l)):=by
 refine zb rfl ?_
 unfold lim at hl
 simp
 refine zu (fun k σ hp nx=>σ 0=str l∧σ 5=int l.length∧σ 6=int k∧zU 32 126 l=zU 32 126 (l.drop k)) l.length ⟨by simp,by simp,by simp,by simp⟩ ?_
 rintro k σ hp nx hk ⟨h0,h5,h6,he⟩
 by_cases hlt:k<l.length
 ·have hw:IntKind.i64.wrap ((k:Int)+1)=(k:Int)+1:=zc (by omega) (by omega)
  rw[yX hlt] at he
  have ho:=Y5 32 126 l[k]
  simp only[Int.cast_ofNat_Int] at ho
  cases hc:pr 32 126 l[k]
  ·have he:zU 32 126 l=false:=by rw[he,hc];rfl
   simp[h0,h5,h6,hlt,he,ho,hc,f88]
  ·simp[h0,h5,h6,hlt,ho,hc,hw]
   exact⟨hlt,by rw[he,hc];rfl⟩
 ·obtain rfl:k=l.length:=by omega
  have he:zU 32 126 l=true:=by rw[he,List.drop_length];rfl
  simp[h0,h5,h6,he,f88]
theorem ziO (l:List UInt8) (hl:l.length≤lim):zg C1 f26 [str l]=some (boo (yJ l)):=by
 refine zb rfl ?_
 unfold lim at hl
 simp
 refine zu (fun k σ hp nx=>σ 0=str l∧σ 5=int l.length∧σ 6=int k∧zU 33 126 l=zU 33 126 (l.drop k)) l.length ⟨by simp,by simp,by simp,by simp⟩ ?_
 rintro k σ hp nx hk ⟨h0,h5,h6,he⟩
 by_cases hlt:k<l.length
 ·have hw:IntKind.i64.wrap ((k:Int)+1)=(k:Int)+1:=zc (by omega) (by omega)
  rw[yX hlt] at he
  have ho:=Y5 33 126 l[k]
  simp only[Int.cast_ofNat_Int] at ho
  cases hc:pr 33 126 l[k]
  ·have he:zU 33 126 l=false:=by rw[he,hc];rfl
   simp[h0,h5,h6,hlt,he,ho,hc,yJ,f26]
  ·simp[h0,h5,h6,hlt,ho,hc,hw]
   exact⟨hlt,by rw[he,hc];rfl⟩
 ·obtain rfl:k=l.length:=by omega
  have he:zU 33 126 l=true:=by rw[he,List.drop_length];rfl
  simp[h0,h5,h6,he,yJ,f26]
theorem ziP (l:List UInt8) (hl:l.length≤lim):zg C1 f56 [str l]=some (boo (zfg l)):=by
 refine zb rfl ?_
 unfold lim at hl
 simp
 refine zu (fun k σ hp nx=>σ 0=str l∧σ 5=int l.length∧σ 6=int k∧zU 33 126 l=zU 33 126 (l.drop k)) l.length ⟨by simp,by simp,by simp,by simp⟩ ?_
 rintro k σ hp nx hk ⟨h0,h5,h6,he⟩
 by_cases hlt:k<l.length
 ·have hw:IntKind.i64.wrap ((k:Int)+1)=(k:Int)+1:=zc (by omega) (by omega)
  rw[yX hlt] at he
  have ho:=Y5 33 126 l[k]
  simp only[Int.cast_ofNat_Int] at ho
  cases hc:pr 33 126 l[k]
  ·have he:zU 33 126 l=false:=by rw[he,hc];rfl
   simp[h0,h5,h6,hlt,he,ho,hc,zfg,f56]
  ·simp[h0,h5,h6,hlt,ho,hc,hw]
   exact⟨hlt,by rw[he,hc];rfl⟩
 ·obtain rfl:k=l.length:=by omega
  have he:zU 33 126 l=true:=by rw[he,List.drop_length];rfl
  simp[h0,h5,h6,he,zfg,f56]
theorem zcZ (l:List UInt8) (hl:l.length≤lim):zg C1 f57 [str l]=some (boo (Zr l)):=by
 refine zb rfl ?_
 unfold lim at hl
 simp
 refine zu (fun k σ hp nx=>σ 0=str l∧σ 5=int l.length∧σ 6=int k∧ve l=ve (l.drop k)) l.length ⟨by simp,by simp,by simp,by simp⟩ ?_
 rintro k σ hp nx hk ⟨h0,h5,h6,he⟩
 by_cases hlt:k<l.length
 ·have hw:IntKind.i64.wrap ((k:Int)+1)=(k:Int)+1:=zc (by omega) (by omega)
  rw[Kr hlt] at he
  cases hc:V8 l[k].toNat
  ·have he:ve l=false:=by rw[he,hc];rfl
   simp[h0,h5,h6,hlt,he,hc,Zr,f57]
  ·simp[h0,h5,h6,hlt,hc,hw]
   exact⟨hlt,by rw[he,hc];rfl⟩
 ·obtain rfl:k=l.length:=by omega
  have he:ve l=true:=by rw[he,List.drop_length];rfl
  simp[h0,h5,h6,he,Zr,f57]
theorem zfh (l:List UInt8) (hl:l.length≤lim):zg C1 f15 [str l]=some (boo (qi l)):=by
 refine zb rfl ?_
 unfold lim at hl
 cases hn:inB l.length 1 40
 ·simp[hn,qi,f15]
 have hpos:0<l.length:=by simp[inB] at hn;omega
 have hh:ziM l=(decide ((97:Int)≤l[0].toNat)&&decide ((l[0].toNat:Int)≤(122:Int))):=by
  cases l with
  | nil=>simp at hpos
  | cons c l=>rfl
 have hf:(decide ((l[0].toNat:Int)<(97:Int))||decide ((122:Int)<l[0].toNat))=!ziM l:=by rw[hh,Bool.eq_iff_iff];simp
 cases hb:ziM l
 ·simp[hn,hpos,hf,hb,qi,f15]
 simp[hn,hpos,hf,hb]
 refine zu (fun k σ hp nx=>σ 0=str l∧σ 19=int l.length∧σ 20=int k∧ve l=ve (l.drop k)) l.length ⟨by simp,by simp,by simp,by simp⟩ ?_
 rintro k σ hp nx hk ⟨h0,h5,h6,he⟩
 by_cases hlt:k<l.length
 ·have hw:IntKind.i64.wrap ((k:Int)+1)=(k:Int)+1:=zc (by omega) (by omega)
  rw[Kr hlt] at he
  cases hc:V8 l[k].toNat
  ·have he:ve l=false:=by rw[he,hc];rfl
   simp[h0,h5,h6,hlt,he,hc,qi,f15]
  ·simp[h0,h5,h6,hlt,hc,hw]
   exact⟨hlt,by rw[he,hc];rfl⟩
 ·obtain rfl:k=l.length:=by omega
  have he:ve l=true:=by rw[he,List.drop_length];rfl
  simp[h0,h5,h6,he,hn,hb,qi,f15]
theorem X0:za prog 72 (zd false [] (FS (zU 32 126))) :=
 zL (fn:=f72) ziN ⟨_,func72,by kernel_rfl,rfl,by kernel_rfl⟩ false [] _ fun args r h=>by
  obtain⟨l,rfl,hp,rfl⟩:=ze h
  exact⟨by simp[f72],_,zk6 l hp,zK _⟩
theorem kD:za prog 88 (zd false [] (FS (zU 32 126))) :=
 zL (fn:=f88) ziN ⟨_,func88,by kernel_rfl,rfl,by kernel_rfl⟩ false [] _ fun args r h=>by
  obtain⟨l,rfl,hp,rfl⟩:=ze h
  exact⟨by simp[f88],_,Xa l hp,zK _⟩
theorem QE:za prog 26 (zd false [] (FS yJ)) :=
 zL (fn:=f26) ziN ⟨_,func26,by kernel_rfl,rfl,by kernel_rfl⟩ false [] _ fun args r h=>by
  obtain⟨l,rfl,hp,rfl⟩:=ze h
  exact⟨by simp[f26],_,ziO l hp,zK _⟩
theorem zfi:za prog 56 (zd false [] (FS zfg)) :=
 zL (fn:=f56) ziN ⟨_,func56,by kernel_rfl,rfl,by kernel_rfl⟩ false [] _ fun args r h=>by
  obtain⟨l,rfl,hp,rfl⟩:=ze h
  exact⟨by simp[f56],_,ziP l hp,zK _⟩
theorem zaU:za prog 57 (zd false [] (FS Zr)) :=
 zL (fn:=f57) ziN ⟨_,func57,by kernel_rfl,rfl,by kernel_rfl⟩ false [] _ fun args r h=>by
  obtain⟨l,rfl,hp,rfl⟩:=ze h
  exact⟨by simp[f57],_,zcZ l hp,zK _⟩
theorem vf:za prog 15 (zd false [] (FS qi)) :=
 zL (fn:=f15) ziN ⟨_,func15,by kernel_rfl,rfl,by kernel_rfl⟩ false [] _ fun args r h=>by
  obtain⟨l,rfl,hp,rfl⟩:=ze h
  exact⟨by simp[f15],_,zfh l hp,zK _⟩
noncomputable abbrev CRw:Ctx:=zC prog [(72,zd false [] (FS (zU 32 126))),(88,zd false [] (FS (zU 32 126))),(26,zd false [] (FS yJ)),(56,zd false [] (FS zfg)),(57,zd false [] (FS Zr)),(15,zd false [] (FS qi)),(34,zd false [] (F3 inB)),(87,zd false [] (F3 inB))]
abbrev qRw:List Nat:=[72,88,26,56,57,15,34,87]
theorem zpZ:AM.Good CRw (fun g=>qRw.contains g):=zk mixed ⟨X0,fun _=>zi _ _,kD,fun _=>zi _ _,QE,fun _=>zi _ _,zfi,fun _=>zi _ _,zaU,fun _=>zi _ _,vf,fun _=>zi _ _,jI,fun _=>zi _ _,yr,fun _=>zi _ _,trivial⟩
theorem zk7 (l:List UInt8):(zfg l&&decide ((l.length:Int)≤100))=yJ l:=by
 cases l with
 | nil=>rfl
 | cons c l=>rw[Bool.eq_iff_iff];simp[zfg,yJ,inB];omega
theorem zfj (l:List UInt8) (hl:l.length≤lim):zg CRw f30 [str l]=some (boo (yJ l)):=by
 refine zb rfl ?_
 simp[hl,f30,zk7]
theorem zc0 (l:List UInt8) (h:0<l.length):(Zr l&&decide ((l.length:Int)≤40)&&decide ((97:Int)≤l[0].toNat)&&decide ((l[0].toNat:Int)≤(122:Int)))=qi l:=by
 cases l with
 | nil=>simp at h
 | cons c l =>
   unfold Zr qi
   generalize ve (c::l)=w
   rw[Bool.eq_iff_iff]
   cases w<;>simp[inB,ziM]<;>omega
theorem zc1 (l:List UInt8) (hl:l.length≤lim):zg CRw f31 [str l]=some (boo (qi l)):=by
 refine zb rfl ?_
 cases l with
 | nil=>simp[f31,Zr,qi,ziM]
 | cons c l =>
   have hpos:0<(c::l).length:=by simp
   have:=zc0 (c::l) hpos
   generalize hm:c::l=m at *
   simp[hl,hpos,f31,this]
theorem Y6:za prog 30 (zd false [] (FS yJ)) :=
 zL (fn:=f30) zpZ ⟨_,func30,by kernel_rfl,rfl,by kernel_rfl⟩ false [] _ fun args r h=>by
  obtain⟨l,rfl,hp,rfl⟩:=ze h
  exact⟨by simp[f30],_,zfj l hp,zK _⟩
theorem xx:za prog 31 (zd false [] (FS qi)) :=
 zL (fn:=f31) zpZ ⟨_,func31,by kernel_rfl,rfl,by kernel_rfl⟩ false [] _ fun args r h=>by
  obtain⟨l,rfl,hp,rfl⟩:=ze h
  exact⟨by simp[f31],_,zc1 l hp,zK _⟩
end Go.Proofs.YtjcofiomfmebkaaGreatDoor
namespace Go.Proofs
open Go.Shelf
def Tryz.lays161_ren:Go.Shelf.Ren:=⟨fun | 161=>239 | 231=>173 | 227=>175 | 233=>176 | 235=>178 | 228=>222 | 197=>223 | 151=>224 | 260=>251 | 152=>252 | 137=>241 | 119=>273 | 224=>220 | 225=>219 | 217=>218 | 266=>249 | n=>n,fun | 9=>9 | 4=>4 | 3=>3 | 5=>5 | 117=>185 | 116=>184 | 0=>0 | 124=>188 | 105=>228 | 21=>21 | 119=>261 | 46=>81 | 139=>264 | 138=>263 | n=>n,fun | 3=>1 | 4=>2 | n=>n⟩
theorem Tryz.lays161:Go.Proofs.Lays.n161 prog Tryz.lays161_ren:={
 mixed:=by kernel_rfl
 f119:=func273.trans (congrArg some (by kernel_rfl))
 f137:=func241.trans (congrArg some (by kernel_rfl))
 f151:=func224.trans (congrArg some (by kernel_rfl))
 f152:=func252.trans (congrArg some (by kernel_rfl))
 f161:=func239.trans (congrArg some (by kernel_rfl))
 f197:=func223.trans (congrArg some (by kernel_rfl))
 f217:=func218.trans (congrArg some (by kernel_rfl))
 f224:=func220.trans (congrArg some (by kernel_rfl))
 f225:=func219.trans (congrArg some (by kernel_rfl))
 f227:=func175.trans (congrArg some (by kernel_rfl))
 f228:=func222.trans (congrArg some (by kernel_rfl))
 f231:=func173.trans (congrArg some (by kernel_rfl))
 f233:=func176.trans (congrArg some (by kernel_rfl))
 f235:=func178.trans (congrArg some (by kernel_rfl))
 f260:=func251.trans (congrArg some (by kernel_rfl))
 f266:=func249.trans (congrArg some (by kernel_rfl))
 t0:=underlying0
 a0:=isAgg0
 z0:=sizeOf0
 v0:=zeroValue0
 t3:=underlying3
 a3:=isAgg3
 z3:=sizeOf3
 v3:=zeroValue3
 t4:=underlying4
 a4:=isAgg4
 z4:=sizeOf4
 v4:=zeroValue4
 t5:=underlying5
 a5:=isAgg5
 z5:=sizeOf5
 v5:=zeroValue5
 t9:=underlying9
 a9:=isAgg9
 z9:=sizeOf9
 v9:=zeroValue9
 t21:=underlying21
 a21:=isAgg21
 z21:=sizeOf21
 v21:=zeroValue21
 t46:=underlying81
 a46:=isAgg81
 z46:=sizeOf81
 v46:=zeroValue81
 t105:=underlying228
 a105:=isAgg228
 z105:=sizeOf228
 v105:=zeroValue228
 t116:=underlying184
 a116:=isAgg184
 z116:=sizeOf184
 t117:=underlying185
 a117:=isAgg185
 z117:=sizeOf185
 v117:=zeroValue185
 t119:=underlying261
 a119:=isAgg261
 z119:=sizeOf261
 t124:=underlying188
 a124:=isAgg188
 z124:=sizeOf188
 v124:=zeroValue188
 t138:=underlying263
 a138:=isAgg263
 z138:=sizeOf263
 v138:=zeroValue263
 t139:=underlying264
 a139:=isAgg264
 z139:=sizeOf264
 v139:=zeroValue264
 g3:=by kernel_rfl
 g4:=by kernel_rfl }
def Tryz.lays160_ren:Go.Shelf.Ren:=⟨fun | 160=>141 | 232=>174 | 231=>173 | 227=>175 | 234=>177 | 233=>176 | 236=>179 | 235=>178 | 228=>222 | 271=>225 | 151=>224 | 197=>223 | 120=>253 | 152=>252 | 260=>251 | 137=>241 | 119=>273 | 224=>220 | 225=>219 | 217=>218 | 266=>249 | n=>n,fun | 9=>9 | 4=>4 | 3=>3 | 5=>5 | 117=>185 | 116=>184 | 0=>0 | 124=>188 | 21=>21 | 105=>228 | 46=>81 | 119=>261 | 139=>264 | 138=>263 | n=>n,fun | 3=>1 | 4=>2 | n=>n⟩
theorem Tryz.lays160:Go.Proofs.Lays.n160 prog Tryz.lays160_ren:={
 mixed:=by kernel_rfl
 f119:=func273.trans (congrArg some (by kernel_rfl))
 f120:=func253.trans (congrArg some (by kernel_rfl))
 f137:=func241.trans (congrArg some (by kernel_rfl))
 f151:=func224.trans (congrArg some (by kernel_rfl))
 f152:=func252.trans (congrArg some (by kernel_rfl))
 f160:=func141.trans (congrArg some (by kernel_rfl))
 f197:=func223.trans (congrArg some (by kernel_rfl))
 f217:=func218.trans (congrArg some (by kernel_rfl))
 f224:=func220.trans (congrArg some (by kernel_rfl))
 f225:=func219.trans (congrArg some (by kernel_rfl))
 f227:=func175.trans (congrArg some (by kernel_rfl))
 f228:=func222.trans (congrArg some (by kernel_rfl))
 f231:=func173.trans (congrArg some (by kernel_rfl))
 f232:=func174.trans (congrArg some (by kernel_rfl))
 f233:=func176.trans (congrArg some (by kernel_rfl))
 f234:=func177.trans (congrArg some (by kernel_rfl))
 f235:=func178.trans (congrArg some (by kernel_rfl))
 f236:=func179.trans (congrArg some (by kernel_rfl))
 f260:=func251.trans (congrArg some (by kernel_rfl))
 f266:=func249.trans (congrArg some (by kernel_rfl))
 f271:=func225.trans (congrArg some (by kernel_rfl))
 t0:=underlying0
 a0:=isAgg0
 z0:=sizeOf0
 v0:=zeroValue0
 t3:=underlying3
 a3:=isAgg3
 z3:=sizeOf3
 v3:=zeroValue3
 t4:=underlying4
 a4:=isAgg4
 z4:=sizeOf4
 v4:=zeroValue4
 t5:=underlying5
 a5:=isAgg5
 z5:=sizeOf5
 v5:=zeroValue5
 t9:=underlying9
 a9:=isAgg9
 z9:=sizeOf9
 v9:=zeroValue9
 t21:=underlying21
 a21:=isAgg21
 z21:=sizeOf21
 v21:=zeroValue21
 t46:=underlying81
 a46:=isAgg81
 z46:=sizeOf81
 v46:=zeroValue81
 t105:=underlying228
 a105:=isAgg228
 z105:=sizeOf228
 v105:=zeroValue228
 t116:=underlying184
 a116:=isAgg184
 z116:=sizeOf184
 t117:=underlying185
 a117:=isAgg185
 z117:=sizeOf185
 v117:=zeroValue185
 t119:=underlying261
 a119:=isAgg261
 z119:=sizeOf261
 t124:=underlying188
 a124:=isAgg188
 z124:=sizeOf188
 v124:=zeroValue188
 t138:=underlying263
 a138:=isAgg263
 z138:=sizeOf263
 v138:=zeroValue263
 t139:=underlying264
 a139:=isAgg264
 z139:=sizeOf264
 v139:=zeroValue264
 g3:=by kernel_rfl
 g4:=by kernel_rfl }
def Tryz.lays137_ren:Go.Shelf.Ren:=⟨fun | 137=>241 | 217=>218 | 266=>249 | n=>n,fun | 9=>9 | 5=>5 | 3=>3 | n=>n,fun | n=>n⟩
theorem Tryz.lays137:Go.Proofs.Lays.n137 prog Tryz.lays137_ren:={
 mixed:=by kernel_rfl
 f137:=func241.trans (congrArg some (by kernel_rfl))
 f217:=func218.trans (congrArg some (by kernel_rfl))
 f266:=func249.trans (congrArg some (by kernel_rfl))
 t3:=underlying3
 a3:=isAgg3
 z3:=sizeOf3
 v3:=zeroValue3
 t5:=underlying5
 a5:=isAgg5
 z5:=sizeOf5
 v5:=zeroValue5
 t9:=underlying9
 a9:=isAgg9
 z9:=sizeOf9
 v9:=zeroValue9 }
def Tryz.lays172_ren:Go.Shelf.Ren:=⟨fun | 172=>183 | 244=>228 | 245=>229 | 247=>256 | 279=>257 | 280=>258 | 281=>259 | 282=>260 | 287=>274 | 316=>275 | 171=>277 | 205=>276 | 321=>283 | 322=>284 | 243=>285 | 246=>288 | 283=>289 | 284=>290 | 285=>291 | 286=>292 | 129=>133 | 317=>293 | 318=>294 | 319=>295 | 320=>296 | 337=>297 | 338=>298 | n=>n,fun | 9=>9 | 3=>3 | 75=>191 | 76=>192 | 4=>4 | 5=>5 | 167=>247 | 37=>248 | 0=>0 | 85=>249 | 2=>2 | 168=>251 | 53=>133 | 175=>266 | 46=>81 | 210=>269 | 127=>275 | 145=>278 | 143=>276 | 21=>21 | 171=>282 | 173=>284 | 212=>287 | 51=>131 | 20=>20 | 213=>288 | 232=>289 | 233=>290 | 80=>291 | n=>n,fun | 15=>3 | 16=>4 | 17=>5 | 18=>6 | 19=>7 | n=>n⟩
theorem Tryz.lays172:Go.Proofs.Lays.n172 prog Tryz.lays172_ren:={
 mixed:=by kernel_rfl
 f129:=func133.trans (congrArg some (by kernel_rfl))
 f171:=func277.trans (congrArg some (by kernel_rfl))
 f172:=func183.trans (congrArg some (by kernel_rfl))
 f205:=func276.trans (congrArg some (by kernel_rfl))
 f243:=func285.trans (congrArg some (by kernel_rfl))
 f244:=func228.trans (congrArg some (by kernel_rfl))
 f245:=func229.trans (congrArg some (by kernel_rfl))
 f246:=func288.trans (congrArg some (by kernel_rfl))
 f247:=func256.trans (congrArg some (by kernel_rfl))
 f279:=func257.trans (congrArg some (by kernel_rfl))
 f280:=func258.trans (congrArg some (by kernel_rfl))
 f281:=func259.trans (congrArg some (by kernel_rfl))
 f282:=func260.trans (congrArg some (by kernel_rfl))
 f283:=func289.trans (congrArg some (by kernel_rfl))
 f284:=func290.trans (congrArg some (by kernel_rfl))
 f285:=func291.trans (congrArg some (by kernel_rfl))
 f286:=func292.trans (congrArg some (by kernel_rfl))
 f287:=func274.trans (congrArg some (by kernel_rfl))
 f316:=func275.trans (congrArg some (by kernel_rfl))
 f317:=func293.trans (congrArg some (by kernel_rfl))
 f318:=func294.trans (congrArg some (by kernel_rfl))
 f319:=func295.trans (congrArg some (by kernel_rfl))
 f320:=func296.trans (congrArg some (by kernel_rfl))
 f321:=func283.trans (congrArg some (by kernel_rfl))
 f322:=func284.trans (congrArg some (by kernel_rfl))
 f337:=func297.trans (congrArg some (by kernel_rfl))
 f338:=func298.trans (congrArg some (by kernel_rfl))
 t0:=underlying0
 a0:=isAgg0
 z0:=sizeOf0
 v0:=zeroValue0
 t2:=underlying2
 a2:=isAgg2
 z2:=sizeOf2
 v2:=zeroValue2
 t3:=underlying3
 a3:=isAgg3
 z3:=sizeOf3
 v3:=zeroValue3
 t4:=underlying4
 a4:=isAgg4
 z4:=sizeOf4
 v4:=zeroValue4
 t5:=underlying5
 a5:=isAgg5
 z5:=sizeOf5
 v5:=zeroValue5
 t9:=underlying9
 a9:=isAgg9
 z9:=sizeOf9
 v9:=zeroValue9
 t20:=underlying20
 a20:=isAgg20
 z20:=sizeOf20
 v20:=zeroValue20
 t21:=underlying21
 a21:=isAgg21
 z21:=sizeOf21
 v21:=zeroValue21
 t37:=underlying248
 a37:=isAgg248
 z37:=sizeOf248
 v37:=zeroValue248
 t46:=underlying81
 a46:=isAgg81
 z46:=sizeOf81
 v46:=zeroValue81
 t51:=underlying131
 a51:=isAgg131
 z51:=sizeOf131
 v51:=zeroValue131
 t53:=underlying133
 a53:=isAgg133
 z53:=sizeOf133
 v53:=zeroValue133
 t75:=underlying191
 a75:=isAgg191
 z75:=sizeOf191
 v75:=zeroValue191
 t76:=underlying192
 a76:=isAgg192
 z76:=sizeOf192
 v76:=zeroValue192
 t85:=underlying249
 a85:=isAgg249
 z85:=sizeOf249
 v85:=zeroValue249
 t127:=underlying275
 a127:=isAgg275
 z127:=sizeOf275
 v127:=zeroValue275
 t143:=underlying276
 a143:=isAgg276
 z143:=sizeOf276
 v143:=zeroValue276
 t145:=underlying278
 a145:=isAgg278
 z145:=sizeOf278
 v145:=zeroValue278
 t167:=underlying247
 a167:=isAgg247
 z167:=sizeOf247
 v167:=zeroValue247
 t168:=underlying251
 a168:=isAgg251
 z168:=sizeOf251
 v168:=zeroValue251
 t171:=underlying282
 a171:=isAgg282
 z171:=sizeOf282
 v171:=zeroValue282
 t173:=underlying284
 a173:=isAgg284
 z173:=sizeOf284
 v173:=zeroValue284
 t175:=underlying266
 a175:=isAgg266
 z175:=sizeOf266
 v175:=zeroValue266
 t210:=underlying269
 a210:=isAgg269
 z210:=sizeOf269
 v210:=zeroValue269
 t212:=underlying287
 a212:=isAgg287
 z212:=sizeOf287
 v212:=zeroValue287
 t213:=underlying288
 a213:=isAgg288
 z213:=sizeOf288
 t232:=underlying289
 a232:=isAgg289
 z232:=sizeOf289
 v232:=zeroValue289
 t233:=underlying290
 a233:=isAgg290
 z233:=sizeOf290
 v233:=zeroValue290
 g15:=by kernel_rfl
 g16:=by kernel_rfl
 g17:=by kernel_rfl
 g18:=by kernel_rfl
 g19:=by kernel_rfl }
def Tryz.lays219_ren:Go.Shelf.Ren:=⟨fun | 219=>172 | 217=>218 | 225=>219 | 224=>220 | 267=>221 | 266=>249 | 314=>250 | n=>n,fun | 9=>9 | 3=>3 | 4=>4 | 5=>5 | 46=>81 | 146=>243 | 51=>131 | n=>n,fun | 1=>0 | n=>n⟩
theorem Tryz.lays219:Go.Proofs.Lays.n219 prog Tryz.lays219_ren:={
 mixed:=by kernel_rfl
 f217:=func218.trans (congrArg some (by kernel_rfl))
 f219:=func172.trans (congrArg some (by kernel_rfl))
 f224:=func220.trans (congrArg some (by kernel_rfl))
 f225:=func219.trans (congrArg some (by kernel_rfl))
 f266:=func249.trans (congrArg some (by kernel_rfl))
 f267:=func221.trans (congrArg some (by kernel_rfl))
 f314:=func250.trans (congrArg some (by kernel_rfl))
 t3:=underlying3
 a3:=isAgg3
 z3:=sizeOf3
 v3:=zeroValue3
 t4:=underlying4
 a4:=isAgg4
 z4:=sizeOf4
 v4:=zeroValue4
 t5:=underlying5
 a5:=isAgg5
 z5:=sizeOf5
 v5:=zeroValue5
 t9:=underlying9
 a9:=isAgg9
 z9:=sizeOf9
 v9:=zeroValue9
 t46:=underlying81
 a46:=isAgg81
 z46:=sizeOf81
 v46:=zeroValue81
 t51:=underlying131
 a51:=isAgg131
 z51:=sizeOf131
 v51:=zeroValue131
 t146:=underlying243
 a146:=isAgg243
 z146:=sizeOf243
 v146:=zeroValue243
 g1:=by kernel_rfl }
def Tryz.lays138_ren:Go.Shelf.Ren:=⟨fun | 138=>227 | 195=>254 | 218=>255 | 143=>140 | 219=>172 | 217=>218 | 225=>219 | 224=>220 | 267=>221 | 266=>249 | 314=>250 | n=>n,fun | 9=>9 | 3=>3 | 4=>4 | 5=>5 | 0=>0 | 46=>81 | 146=>243 | 51=>131 | n=>n,fun | 1=>0 | n=>n⟩
theorem Tryz.lays138:Go.Proofs.Lays.n138 prog Tryz.lays138_ren:={
 mixed:=by kernel_rfl
 f138:=func227.trans (congrArg some (by kernel_rfl))
 f143:=func140.trans (congrArg some (by kernel_rfl))
 f195:=func254.trans (congrArg some (by kernel_rfl))
 f217:=func218.trans (congrArg some (by kernel_rfl))
 f218:=func255.trans (congrArg some (by kernel_rfl))
 f219:=func172.trans (congrArg some (by kernel_rfl))
 f224:=func220.trans (congrArg some (by kernel_rfl))
 f225:=func219.trans (congrArg some (by kernel_rfl))
 f266:=func249.trans (congrArg some (by kernel_rfl))
 f267:=func221.trans (congrArg some (by kernel_rfl))
 f314:=func250.trans (congrArg some (by kernel_rfl))
 t0:=underlying0
 a0:=isAgg0
 z0:=sizeOf0
 v0:=zeroValue0
 t3:=underlying3
 a3:=isAgg3
 z3:=sizeOf3
 v3:=zeroValue3
 t4:=underlying4
 a4:=isAgg4
 z4:=sizeOf4
 v4:=zeroValue4
 t5:=underlying5
 a5:=isAgg5
 z5:=sizeOf5
 v5:=zeroValue5
 t9:=underlying9
 a9:=isAgg9
 z9:=sizeOf9
 v9:=zeroValue9
 t46:=underlying81
 a46:=isAgg81
 z46:=sizeOf81
 v46:=zeroValue81
 t51:=underlying131
 a51:=isAgg131
 z51:=sizeOf131
 v51:=zeroValue131
 t146:=underlying243
 a146:=isAgg243
 z146:=sizeOf243
 v146:=zeroValue243
 g1:=by kernel_rfl }
end Go.Proofs
namespace Go.Proofs.YtjcofiomfmebkaaGreatDoor
open Go.Proofs.Tryz
open Go.RowKit Go.AM
noncomputable def FTT (f:List UInt8→List UInt8→PV) (pre:List UInt8→List UInt8→Prop):List PV→Option PV:=zJ (α:=List UInt8×List UInt8) (fun a=>[str a.1,str a.2]) (fun a=>a.1.length≤lim∧a.2.length≤lim∧pre a.1 a.2) (fun a=>f a.1 a.2)
theorem zk8:∀a b:List UInt8×List UInt8,[str a.1,str a.2]=[str b.1,str b.2]→a=b:=by
 rintro⟨a1,a2⟩ ⟨b1,b2⟩ e
 simp only[List.cons.injEq,and_true] at e
 rw[qg e.1,qg e.2]
theorem wq (f:List UInt8→List UInt8→PV) (pre:List UInt8→List UInt8→Prop) (a b:List UInt8) (hp:Hp) (nx:Nat) (h:a.length≤lim) (h2:b.length≤lim) (h3:pre a b) (hf:(f a b).flat=true):zd false [] (FTT f pre) [str a,str b] hp nx=some (f a b,hp,nx) :=
 zH rfl (zm (enc:=fun a:List UInt8×List UInt8=>[str a.1,str a.2]) (a:=(a,b)) zk8 ⟨h,h2,h3⟩) (.inl hf)
theorem wP {f:List UInt8→List UInt8→PV} {pre:List UInt8→List UInt8→Prop} {args:List PV} {r:PV} (h:FTT f pre args=some r):∃a b,args=[str a,str b]∧a.length≤lim∧b.length≤lim∧pre a b∧r=f a b:=by
 obtain⟨⟨a,b⟩,rfl,⟨h1,h2,h3⟩,rfl⟩:=ze h
 exact⟨a,b,rfl,h1,h2,h3,rfl⟩
theorem zk9:zpV prog 0:=by
 refine⟨of_decide_eq_true (by kernel_rfl),#[.int .i64 0],3,by kernel_rfl,rfl,by kernel_rfl,by kernel_rfl,by kernel_rfl⟩
def zqO (a b:List UInt8):PV:=int (Lib.index a b)
def zvb (a b:List UInt8):PV:=int (Lib.count a b)
theorem zfk:za prog 172 (zd false [] (FTT zqO fun _ _=>True)) :=
 yq ⟨_,func172,by kernel_rfl,by kernel_rfl⟩ fun args r h=>by
  obtain⟨a,b,rfl,h1,h2,_,rfl⟩:=wP h
  unfold lim at h1 h2
  refine⟨[.string ⟨a.toArray⟩,.string ⟨b.toArray⟩],rfl,by simp[lit],rfl,.int .i64 (Lib.index a b),fun w S=>.v rfl,fun w S hg=>?_⟩
  obtain⟨_,m,hm⟩:=hg.1 0 zk9
  refine (Any.stringslite_Index Tryz.lays219 ⟨a.toArray⟩ ⟨b.toArray⟩ m w (by simp;omega) hm).mono fun e w' hh=>?_
  obtain⟨rfl,rfl⟩:=hh
  exact⟨by simp,Fr.refl _ _⟩
theorem zc2:za prog 227 (zd false [] (FTT zvb fun _ b=>1≤b.length)) :=
 yq ⟨_,func227,by kernel_rfl,by kernel_rfl⟩ fun args r h=>by
  obtain⟨a,b,rfl,h1,h2,h3,rfl⟩:=wP h
  unfold lim at h1 h2
  refine⟨[.string ⟨a.toArray⟩,.string ⟨b.toArray⟩],rfl,by simp[lit],rfl,.int .i64 (Lib.count a b),fun w S=>.v rfl,fun w S hg=>?_⟩
  obtain⟨_,m,hm⟩:=hg.1 0 zk9
  refine (Any.strings_Count_any Tryz.lays138 ⟨a.toArray⟩ ⟨b.toArray⟩ m w (by simp;omega) hm (by simpa using h3)).mono fun e w' hh=>?_
  obtain⟨rfl,rfl⟩:=hh
  exact⟨by simp[Lib.countB],Fr.refl _ _⟩
noncomputable abbrev Ci:Ctx:=zC prog [(172,zd false [] (FTT zqO fun _ _=>True))]
theorem zs5:AM.Good Ci (fun g=>[172].contains g):=zk mixed ⟨zfk,fun _=>zi _ _,trivial⟩
theorem ZV (a b:List UInt8) (hp:Hp) (nx:Nat) (h:a.length≤lim) (h2:b.length≤lim):zd false [] (FTT zqO fun _ _=>True) [str a,str b] hp nx=some (int (Lib.index a b),hp,nx):=wq _ _ a b hp nx h h2 trivial rfl
theorem Y7:za prog 140 (zd false [] (FTT zqO fun _ _=>True)) :=
 zL (fn:=f140) zs5 ⟨_,func140,by kernel_rfl,rfl,by kernel_rfl⟩ false [] _ fun args r h=>by
  obtain⟨a,b,rfl,h1,h2,_,rfl⟩:=wP h
  exact⟨by simp[f140],_,zb rfl (by simp[ZV,h1,h2,zqO,f140]),zK _⟩
noncomputable abbrev Ci2:Ctx:=zC prog [(140,zd false [] (FTT zqO fun _ _=>True)),(227,zd false [] (FTT zvb fun _ b=>1≤b.length))]
theorem zp0:AM.Good Ci2 (fun g=>[140].contains g):=zk mixed ⟨Y7,fun _=>zi _ _,zc2,fun _=>zi _ _,trivial⟩
def zp1 (a b:List UInt8):PV:=boo (Lib.contains a b)
theorem vt:za prog 111 (zd false [] (FTT zp1 fun _ _=>True)) :=
 zL (fn:=f111) zp0 ⟨_,func111,by kernel_rfl,rfl,by kernel_rfl⟩ false [] _ fun args r h=>by
  obtain⟨a,b,rfl,h1,h2,_,rfl⟩:=wP h
  exact⟨by simp[f111],_,zb rfl (by simp[ZV,h1,h2,zp1,Lib.contains,f111]),zK _⟩
def znp (a b:List UInt8):PV:=.tup [str (Lib.cut a b).1,str (Lib.cut a b).2.1,boo (Lib.cut a b).2.2]
theorem zoa (a b:List UInt8) (h1:a.length≤lim) (h2:b.length≤lim):zg Ci f180 [str a,str b]=some (znp a b):=by
 refine zb rfl ?_
 unfold lim at h1 h2
 by_cases h:0≤Lib.index a b
 ·have hr:=Lib.index_room a b h
  have hc:Lib.cut a b=(a.take (Lib.index a b).toNat,a.drop ((Lib.index a b).toNat+b.length),true):=by unfold Lib.cut;rw[if_pos h]
  have w1:IntKind.i64.wrap (Lib.index a b+b.length)=Lib.index a b+b.length:=zc (by omega) (by omega)
  have e1:(Lib.index a b+b.length).toNat=(Lib.index a b).toNat+b.length:=by omega
  have e2:0≤Lib.index a b+b.length:=by omega
  have e3:(Lib.index a b).toNat≤a.length:=by omega
  have e4:(Lib.index a b).toNat+b.length≤a.length:=by omega
  simp[ZV,lim,h1,h2,h,w1,e1,e2,e3,e4,znp,hc,qe,f180]
  rw[List.take_of_length_le (by simp)]
 ·have hc:Lib.cut a b=(a,[],false):=by unfold Lib.cut;rw[if_neg h]
  simp[ZV,lim,h1,h2,h,znp,hc,qe,f180]
theorem zla:za prog 180 (zd false [] (FTT znp fun _ _=>True)) :=
 zL (fn:=f180) zs5 ⟨_,func180,by kernel_rfl,rfl,by kernel_rfl⟩ false [] _ fun args r h=>by
  obtain⟨a,b,rfl,h1,h2,_,rfl⟩:=wP h
  exact⟨by simp[f180],_,zoa a b h1 h2,zK _⟩
def hpP (a b:List UInt8):PV:=boo (b.isPrefixOf a)
theorem zfl (a b:List UInt8):(decide (b.length≤a.length)&&(a.take b.length==b))=b.isPrefixOf a:=by
 rw[Bool.eq_iff_iff]
 simp only[Bool.and_eq_true,decide_eq_true_eq,beq_iff_eq,List.isPrefixOf_iff_prefix]
 constructor
 ·rintro⟨_,h⟩;exact List.prefix_iff_eq_take.2 h.symm
 ·intro h;exact⟨h.length_le,(List.prefix_iff_eq_take.1 h).symm⟩
noncomputable abbrev Cw0:Ctx:=zC prog []
theorem zlb:AM.Good Cw0 (fun g=>([]:List Nat).contains g):=zk mixed trivial
theorem Ks (a b:List UInt8):zg Cw0 f138 [str a,str b]=some (hpP a b):=by
 refine zb rfl ?_
 have hp:=zfl a b
 by_cases h:b.length≤a.length
 ·rw[decide_eq_true h,Bool.true_and] at hp
  simp[h,hpP,←hp,f138]
 ·rw[decide_eq_false h,Bool.false_and] at hp
  have h':¬((b.length:Int)≤a.length):=by omega
  simp[h,h',hpP,←hp,f138]
theorem Jq:za prog 138 (zd false [] (FTT hpP fun _ _=>True)) :=
 zL (fn:=f138) zlb ⟨_,func138,by kernel_rfl,rfl,by kernel_rfl⟩ false [] _ fun args r h=>by
  obtain⟨a,b,rfl,h1,h2,_,rfl⟩:=wP h
  exact⟨by simp[f138],_,Ks a b,zK _⟩
noncomputable abbrev Cw1:Ctx:=zC prog [(138,zd false [] (FTT hpP fun _ _=>True)),(180,zd false [] (FTT znp fun _ _=>True))]
theorem zlc:AM.Good Cw1 (fun g=>[138].contains g):=zk mixed ⟨Jq,fun _=>zi _ _,zla,fun _=>zi _ _,trivial⟩
theorem Yl (a b:List UInt8) (hp:Hp) (nx:Nat) (h:a.length≤lim) (h2:b.length≤lim):zd false [] (FTT hpP fun _ _=>True) [str a,str b] hp nx=some (boo (b.isPrefixOf a),hp,nx):=wq _ _ a b hp nx h h2 trivial rfl
theorem zaV (a b:List UInt8) (hp:Hp) (nx:Nat) (h:a.length≤lim) (h2:b.length≤lim):zd false [] (FTT znp fun _ _=>True) [str a,str b] hp nx=some (.tup [str (Lib.cut a b).1,str (Lib.cut a b).2.1,boo (Lib.cut a b).2.2],hp,nx):=wq _ _ a b hp nx h h2 trivial rfl
theorem kE:za prog 109 (zd false [] (FTT hpP fun _ _=>True)) :=
 zL (fn:=f109) zlc ⟨_,func109,by kernel_rfl,rfl,by kernel_rfl⟩ false [] _ fun args r h=>by
  obtain⟨a,b,rfl,h1,h2,_,rfl⟩:=wP h
  exact⟨by simp[f109],_,zb rfl (by simp[Yl,h1,h2,hpP,f109]),zK _⟩
theorem X1:za prog 142 (zd false [] (FTT znp fun _ _=>True)) :=
 zL (fn:=f142) zlc ⟨_,func142,by kernel_rfl,rfl,by kernel_rfl⟩ false [] _ fun args r h=>by
  obtain⟨a,b,rfl,h1,h2,_,rfl⟩:=wP h
  exact⟨by simp[f142],_,zb rfl (by simp[zaV,h1,h2,znp,qe,f142]),zK _⟩
def cpP (a b:List UInt8):PV:=.tup [str (if b.isPrefixOf a then a.drop b.length else a),boo (b.isPrefixOf a)]
theorem Kt (a b:List UInt8) (h1:a.length≤lim) (h2:b.length≤lim):zg Cw1 f261 [str a,str b]=some (cpP a b):=by
 refine zb rfl ?_
 cases h:b.isPrefixOf a
 ·simp[Yl,h1,h2,h,cpP,qe,f261]
 ·have hl:=(List.isPrefixOf_iff_prefix.1 h).length_le
  simp[Yl,h1,h2,h,hl,cpP,qe,f261]
  rw[List.take_of_length_le (by simp)]
theorem Jr:za prog 261 (zd false [] (FTT cpP fun _ _=>True)) :=
 zL (fn:=f261) zlc ⟨_,func261,by kernel_rfl,rfl,by kernel_rfl⟩ false [] _ fun args r h=>by
  obtain⟨a,b,rfl,h1,h2,_,rfl⟩:=wP h
  exact⟨by simp[f261],_,Kt a b h1 h2,zK _⟩
noncomputable abbrev Cw2:Ctx:=zC prog [(261,zd false [] (FTT cpP fun _ _=>True))]
theorem zs6:AM.Good Cw2 (fun g=>([]:List Nat).contains g):=zk mixed ⟨Jr,fun _=>zi _ _,trivial⟩
theorem zld (a b:List UInt8) (hp:Hp) (nx:Nat) (h:a.length≤lim) (h2:b.length≤lim):zd false [] (FTT cpP fun _ _=>True) [str a,str b] hp nx=some (.tup [str (if b.isPrefixOf a then a.drop b.length else a),boo (b.isPrefixOf a)],hp,nx):=wq _ _ a b hp nx h h2 trivial rfl
theorem Ku:za prog 231 (zd false [] (FTT cpP fun _ _=>True)) :=
 zL (fn:=f231) zs6 ⟨_,func231,by kernel_rfl,rfl,by kernel_rfl⟩ false [] _ fun args r h=>by
  obtain⟨a,b,rfl,h1,h2,_,rfl⟩:=wP h
  exact⟨by simp[f231],_,zb rfl (by simp[zld,h1,h2,cpP,qe,f231]),zK _⟩
def tlP (a b:List UInt8):PV:=str (Lib.trimLeftB a (b.headD 0))
def tbP (a b:List UInt8):PV:=str (Lib.trimB a (b.headD 0))
def zle (b:List UInt8):Prop:=∃c:UInt8,b=[c]∧c.toNat<128
theorem vu:za prog 239 (zd false [] (FTT tlP fun _ b=>zle b)) :=
 yq ⟨_,func239,by kernel_rfl,by kernel_rfl⟩ fun args r h=>by
  obtain⟨a,b,rfl,h1,h2,⟨c,rfl,hc⟩,rfl⟩:=wP h
  refine⟨[.string ⟨a.toArray⟩,.string ⟨#[c]⟩],rfl,by simp[lit],rfl,.string ⟨(Lib.trimLeftB a c).toArray⟩,fun w S=>.v rfl,fun w S _=>?_⟩
  refine (Any.strings_TrimLeft_one Tryz.lays161 ⟨a.toArray⟩ c hc w).mono fun e w' hh=>?_
  obtain⟨rfl,rfl⟩:=hh
  exact⟨by simp,Fr.refl _ _⟩
theorem Kv:za prog 141 (zd false [] (FTT tbP fun _ b=>zle b)) :=
 yq ⟨_,func141,by kernel_rfl,by kernel_rfl⟩ fun args r h=>by
  obtain⟨a,b,rfl,h1,h2,⟨c,rfl,hc⟩,rfl⟩:=wP h
  unfold lim at h1
  refine⟨[.string ⟨a.toArray⟩,.string ⟨#[c]⟩],rfl,by simp[lit],rfl,.string ⟨(Lib.trimB a c).toArray⟩,fun w S=>.v rfl,fun w S _=>?_⟩
  refine (Any.strings_Trim_one Tryz.lays160 ⟨a.toArray⟩ c hc w (by simp;omega)).mono fun e w' hh=>?_
  obtain⟨rfl,rfl | rfl⟩:=hh
  ·exact⟨by simp,Fr.refl _ _⟩
  ·exact⟨by simp,Fr.drew _ _⟩
noncomputable def FSB (f:List UInt8→UInt8→PV):List PV→Option PV:=zJ (α:=List UInt8×UInt8) (fun a=>[str a.1,zs4 a.2]) (fun a=>a.1.length≤lim) (fun a=>f a.1 a.2)
theorem zs7:∀a b:List UInt8×UInt8,[str a.1,zs4 a.2]=[str b.1,zs4 b.2]→a=b:=by
 rintro⟨a1,a2⟩ ⟨b1,b2⟩ e
 simp only[List.cons.injEq,and_true] at e
 have h2:=zP e.2
 have h3:a2.toNat=b2.toNat:=by omega
 rw[qg e.1,UInt8.toNat_inj.1 h3]
theorem zob (f:List UInt8→UInt8→PV) (a:List UInt8) (c:UInt8) (hp:Hp) (nx:Nat) (h:a.length≤lim) (hf:(f a c).flat=true):zd false [] (FSB f) [str a,zs4 c] hp nx=some (f a c,hp,nx) :=
 zH rfl (zm (enc:=fun a:List UInt8×UInt8=>[str a.1,zs4 a.2]) (a:=(a,c)) zs7 h) (.inl hf)
def ibP (a:List UInt8) (c:UInt8):PV:=int (Lib.indexByte a c)
theorem Kw:za prog 241 (zd false [] (FSB ibP)) :=
 yq ⟨_,func241,by kernel_rfl,by kernel_rfl⟩ fun args r h=>by
  obtain⟨⟨a,c⟩,rfl,h1,rfl⟩:=ze h
  refine⟨[.string ⟨a.toArray⟩,.int .u8 c.toNat],rfl,by simp[lit],rfl,.int .i64 (Lib.indexByte a c),fun w S=>.v rfl,fun w S _=>?_⟩
  refine (Any.strings_IndexByte Tryz.lays137 ⟨a.toArray⟩ c.toNat w).mono fun e w' hh=>?_
  obtain⟨rfl,rfl⟩:=hh
  exact⟨by simp,Fr.refl _ _⟩
def zoc (done:List (List UInt8)) (k:Nat):List (List PV):=done.map (fun p=>[str p])++List.replicate k [str []]
theorem zhc (done:List (List UInt8)) (k:Nat) (p:List UInt8):(zoc done (k+1)).set done.length [str p]=zoc (done++[p]) k:=by
 unfold zoc
 rw[List.set_append_right _ _ (by simp)]
 simp[List.replicate_succ]
theorem zhd (done:List (List UInt8)) (k:Nat):(zoc done (k+1))[done.length]?=some [str []]:=by
 unfold zoc
 rw[List.getElem?_append_right (by simp)]
 simp[List.replicate_succ]
theorem zlf (done:List (List UInt8)):zoc done 0=done.map fun p=>[str p]:=by simp[zoc]
def zy (s sep:List UInt8):List (List UInt8):=Lib.split s sep
theorem Ym {sep s:List UInt8} {i k:Nat} (h:Lib.index s sep=i):Lib.splitK sep 0 (k+1) s=s.take i::Lib.splitK sep 0 k (s.drop (i+sep.length)):=by
 have h1:¬(Lib.index s sep==-1)=true:=by rw[beq_iff_eq];omega
 rw[Lib.splitK,if_neg h1,h]
 simp
theorem zc3 {s sep:List UInt8} (h:sep≠[]):Lib.count s sep≤s.length:=by
 have:=Lib.countB_le ⟨sep.toArray⟩ (by cases sep<;>simp_all) s.length ⟨s.toArray⟩ (by simp)
 simpa[Lib.countB] using this
theorem zod (a b:List UInt8) (hp:Hp) (nx:Nat) (h:a.length≤lim) (h2:b.length≤lim) (h3:1≤b.length):zd false [] (FTT zvb fun _ b=>1≤b.length) [str a,str b] hp nx=some (int (Lib.count a b),hp,nx):=wq _ _ a b hp nx h h2 h3 rfl
def zaW (xs:List (List UInt8)):Blk:=⟨9,1,true,xs.map fun p=>[str p]⟩
theorem zaX (s sep:List UInt8) (h1:s.length≤lim) (h2:sep.length≤lim) (h3:1≤sep.length) :
  ∃x hp nx,q8 Ci2 f181 [str s,str sep,int 0,int (-1)] (fun _=>none) 0=some (x,hp,nx)∧zcl (some (zaW (zy s sep))) x hp nx:=by
 have hne:sep≠[]:=by intro e;subst e;simp at h3
 have hcl:=zc3 (s:=s) hne
 unfold lim at h1 h2
 refine Zp rfl ?_
 have hse:(sep==[])=false:=by simpa using hne
 have w1:IntKind.i64.wrap ((Lib.count s sep:Int)+1)=(Lib.count s sep:Int)+1:=zc (by omega) (by omega)
 have w2:IntKind.i64.wrap ((s.length:Int)+1)=(s.length:Int)+1:=zc (by omega) (by omega)
 have w3:(if (s.length:Int)+1<(Lib.count s sep:Int)+1 then (s.length:Int)+1 else (Lib.count s sep:Int)+1)=(Lib.count s sep:Int)+1:=if_neg (by omega)
 have w4:IntKind.i64.wrap ((Lib.count s sep:Int)+1 - 1)=(Lib.count s sep:Int):=by rw[zc (by omega) (by omega)];omega
 have w5:IntKind.i64.wrap (Lib.count s sep:Int)=Lib.count s sep:=zc (by omega) (by omega)
 have c1:((Lib.count s sep:Int)+1).toNat=Lib.count s sep+1:=by omega
 have c2:0≤(Lib.count s sep:Int)+1:=by omega
 have c3:Lib.count s sep+1≤maxLen:=by simp[maxLen];omega
 have c4:(Lib.count s sep+1)*16≤140737488355328:=by omega
 have hcc:=fun hp nx=>zod s sep hp nx (by unfold lim;omega) (by unfold lim;omega) h3
 have hnl:¬s.length<Lib.count s sep:=by omega
 have c5:(Lib.count s sep:Int)+1≤(maxLen:Int):=by simp[maxLen];omega
 simp[hse,hcc,w1,w2,hnl,w4,w5,yV,c1,c2,c5,c4]
 refine zu (fun j σ hp nx=>∃done cur,done.length=j∧σ 0=str cur∧σ 1=str sep∧σ 2=int 0∧σ 3=int (Lib.count s sep)∧σ 9=.own 0 0 (Lib.count s sep+1)∧σ 10=int j ∧
   hp 0=some ⟨9,1,true,zoc done (Lib.count s sep+1 - j)⟩∧j+Lib.count cur sep=Lib.count s sep∧zy s sep=done++zy cur sep∧cur.length≤s.length) (Lib.count s sep)
  ⟨[],s,rfl,by simp,by simp,by simp,by simp[w5],by simp,by simp,by simp[zoc],by simp,by simp,Nat.le_refl _⟩ ?_
 rintro j σ hp nx hj ⟨done,cur,hd,h0,g1,g2,g3,g9,g10,hb,hc,hs,hl⟩
 have hii:∀hp nx,zd false [] (FTT zqO fun _ _=>True) [str cur,str sep] hp nx=some (int (Lib.index cur sep),hp,nx):=fun hp nx=>ZV cur sep hp nx (by unfold lim;omega) (by unfold lim;omega)
 by_cases hlt:j<Lib.count s sep
 ·have hm:Lib.index cur sep≠-1:=fun e=>by have:=Lib.count_miss e;omega
  have hge:0≤Lib.index cur sep:=by
   rcases Lib.index_spec cur sep with⟨h,_⟩ | ⟨i,h,_⟩
   ·exact absurd h hm
   ·omega
  obtain⟨i,hi⟩:∃i:Nat,Lib.index cur sep=i:=⟨(Lib.index cur sep).toNat,by omega⟩
  have hr:=Lib.index_room cur sep hge
  rw[hi] at hr hii
  have hch:=Lib.count_hit hne hi
  have hsk:zy cur sep=cur.take i::zy (cur.drop (i+sep.length)) sep:=by
   unfold zy Lib.split
   rw[hch,Nat.add_comm 1,Ym hi]
  have k1:¬((i:Int)<0):=by omega
  have k2:IntKind.i64.wrap (i:Int)=i:=zc (by omega) (by omega)
  have k3:IntKind.i64.wrap ((i:Int)+sep.length)=(i:Int)+sep.length:=zc (by omega) (by omega)
  have k4:IntKind.i64.wrap ((j:Int)+1)=(j:Int)+1:=zc (by omega) (by omega)
  have k5:((i:Int)+sep.length).toNat=i+sep.length:=by omega
  have k6:i+sep.length≤cur.length:=by omega
  have k7:i≤cur.length:=by omega
  have k8:0≤(i:Int)+sep.length:=by omega
  have k9:j<Lib.count s sep+1:=by omega
  have hq:Lib.count s sep+1 - j=(Lib.count s sep - j)+1:=by omega
  have hg:=zhd done (Lib.count s sep - j)
  rw[hd] at hg
  have hst:=zhc done (Lib.count s sep - j) (cur.take i)
  rw[hd] at hst
  rw[hq] at hb
  simp[h0,g1,g2,g3,g9,g10,hb,hlt,hii,k1,k2,k3,k4,k5,k6,k7,k8,k9,hg,hst]
  have ht:List.take (cur.length - (i+sep.length)) (List.drop (i+sep.length) cur)=List.drop (i+sep.length) cur:=List.take_of_length_le (by simp)
  rw[ht]
  exact⟨by omega,done++[cur.take i],by simp[hd],rfl,by omega,by rw[hs,hsk];simp,by omega⟩
 ·obtain rfl:j=Lib.count s sep:=by omega
  have hz:Lib.count cur sep=0:=by omega
  have hsk:zy cur sep=[cur]:=by unfold zy Lib.split;rw[hz];rfl
  have hq:Lib.count s sep+1 - Lib.count s sep=0+1:=by omega
  have hg:=zhd done 0
  have hst:=zhc done 0 cur
  rw[hd] at hg hst
  rw[hq] at hb
  simp[h0,g1,g2,g3,g9,g10,hb,hg,hst,w1,w5,c1,c2,zcl,wB,f181]
  rw[hs,hsk]
  exact⟨0,⟨by omega,by simp[zaW,hd]⟩,by simp[zaW,zlf]⟩
noncomputable def FGs:List PV→Option (Option Blk):=zJ (α:=List UInt8×List UInt8) (fun a=>[str a.1,str a.2,int 0,int (-1)]) (fun a=>a.1.length≤lim∧a.2.length≤lim∧1≤a.2.length) (fun a=>some (zaW (zy a.1 a.2)))
noncomputable def FSp:List PV→Option (Option Blk):=zJ (α:=List UInt8×List UInt8) (fun a=>[str a.1,str a.2]) (fun a=>a.1.length≤lim∧a.2.length≤lim∧1≤a.2.length) (fun a=>some (zaW (zy a.1 a.2)))
theorem zs8:∀a b:List UInt8×List UInt8,[str a.1,str a.2,int 0,int (-1)]=[str b.1,str b.2,int 0,int (-1)]→a=b:=by
 rintro⟨a1,a2⟩ ⟨b1,b2⟩ e
 simp only[List.cons.injEq,and_true] at e
 rw[qg e.1,qg e.2]
theorem Xb:za prog 181 (qP [] FGs) :=
 jH (fn:=f181) (code:=_) zp0 ⟨func181,by kernel_rfl,rfl,by kernel_rfl⟩ [] _ fun args r h=>by
  obtain⟨⟨a,b⟩,rfl,⟨h1,h2,h3⟩,rfl⟩:=ze h
  exact⟨by simp[f181],zaX a b h1 h2 h3⟩
theorem zqP (a b:List UInt8) (hp:Hp) (nx:Nat) (h1:a.length≤lim) (h2:b.length≤lim) (h3:1≤b.length):qP [] FGs [str a,str b,int 0,int (-1)] hp nx=some (.own nx 0 (zy a b).length,upd hp nx (some (zaW (zy a b))),nx+1):=by
 have e:FGs (qw [] [str a,str b,int 0,int (-1)])=some (some (zaW (zy a b))):=zm (enc:=fun a:List UInt8×List UInt8=>[str a.1,str a.2,int 0,int (-1)]) (a:=(a,b)) zs8 ⟨h1,h2,h3⟩
 simp[qP,e,zaW]
noncomputable abbrev Csp:Ctx:=zC prog [(181,qP [] FGs)]
theorem zs9:AM.Good Csp (fun g=>([]:List Nat).contains g):=zk mixed ⟨Xb,by simp,trivial⟩
theorem kF:za prog 143 (qP [] FSp) :=
 jH (fn:=f143) (code:=_) zs9 ⟨func143,by kernel_rfl,rfl,by kernel_rfl⟩ [] _ fun args r h=>by
  obtain⟨⟨a,b⟩,rfl,⟨h1,h2,h3⟩,rfl⟩:=ze h
  have hc:=fun hp nx=>zqP a b hp nx h1 h2 h3
  exact⟨by simp[f143],Zp rfl (by simp[hc,zcl,zaW,f143])⟩
theorem jv (a b:List UInt8) (hp:Hp) (nx:Nat) (h1:a.length≤lim) (h2:b.length≤lim) (h3:1≤b.length):qP [] FSp [str a,str b] hp nx=some (.own nx 0 (zy a b).length,upd hp nx (some (zaW (zy a b))),nx+1):=by
 have e:FSp (qw [] [str a,str b])=some (some (zaW (zy a b))):=zm (enc:=fun a:List UInt8×List UInt8=>[str a.1,str a.2]) (a:=(a,b)) zk8 ⟨h1,h2,h3⟩
 simp[qP,e,zaW]
end Go.Proofs.YtjcofiomfmebkaaGreatDoor
