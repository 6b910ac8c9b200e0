/-
rule.passes: whether a value passes a test.
-/
import Derived.Test.YtjcofiomfmebkaaGreatDoorG26
import Derived.Test.YtjcofiomfmebkaaGreatDoorG23
import Derived.Test.YtjcofiomfmebkaaGreatDoorG17
import Derived.Test.YtjcofiomfmebkaaGreatDoorG24
import Derived.Test.YtjcofiomfmebkaaGreatDoorG20
import Derived.Test.YtjcofiomfmebkaaGreatDoorG19
import Derived.Test.YtjcofiomfmebkaaGreatDoorG21
set_option maxRecDepth 8000
namespace Go.Proofs.YtjcofiomfmebkaaGreatDoor
open Go.Proofs.Tryz
open Go.RowKit Go.AM
theorem zar:∀(ls:List (List Cpn)) (o r:List Str),(∀a∈ls,∀c∈a,c.good)→goodR o→JG ls o=some r→goodR r
 | [],o,r,_,ho,h=>by simp only[JG] at h;injection h with h;subst h;exact ho
 | l::ls,o,r,hl,ho,h=>by
   simp only[JG] at h
   split at h
   ·rename_i m hm
    have hg:goodR [qz leastC]:=(jL wS).2
    exact zar ls _ r (fun a ha=>hl a (by simp[ha])) (wI or ho (zai l _ m (hl l (by simp)) hg hm).1) h
   ·cases h
theorem WW (t:List UInt8):qK (yD t).1:=by
 have h0:qK []:=⟨by simp,fun s hs=>by cases hs⟩
 unfold yD
 split
 ·exact h0
 rename_i h400
 split
 ·exact h0
 rename_i ls hls
 split
 ·exact h0
 rename_i o ho
 split
 ·exact h0
 rename_i h100
 have hg:=(zbv _ ls t.length (fun s hs=>w8 hs) hls).1
 exact goodR.small (zar ls [] o (fun a ha c hc=>(hg a ha).1 c hc) (fun s hs=>by cases hs) ho) (show o.length≤lim by unfold lim;omega)
theorem zjH {v:Ver} (h:wV v=0):v.small:=by
 unfold wV at h
 split at h
 case isFalse=>omega
 split at h
 ·omega
 rename_i hl
 split at h
 ·omega
 rename_i hb
 refine⟨by unfold lim;omega,fun p hp=>?_⟩
 have:¬qf p=true:=fun hh=>hb (List.any_eq_true.2 ⟨p,hp,hh⟩)
 unfold qf at this
 simp only[Bool.or_eq_true,decide_eq_true_eq,not_or] at this
 unfold lim
 omega
theorem Vz {t:List UInt8} {v:Ver} (h:rdV t=some v):wV v=0∧v.small:=by
 have key:wV v=0:=by
  unfold rdV at h
  split at h
  ·split at h
   ·split at h
    ·rename_i hc
     injection h with h
     rw[←h];exact hc
    ·cases h
   ·cases h
  ·cases h
 exact⟨key,zjH key⟩
noncomputable def VA (l:List Val) (v:Val) (k:Nat):Bool:=match l[k]? with
 | some x=>decide (zO x v<0)
 | none=>false
noncomputable def bsV (l:List Val) (v:Val):Nat×Bool:=(bsGo (VA l v) 0 l.length,match l[bsGo (VA l v) 0 l.length]? with
 | some x=>zO x v==0
 | none=>false)
noncomputable def FLv (f:List Val→Val→PV) (fs:List PV):List PV→Option PV:=zJ (α:=List Val×Val) (fun a=>.sl 5 (a.1.map Val.enc)::.agg a.2.enc::fs) (fun a=>vbs a.1≤lim∧a.2.vb≤lim) (fun a=>f a.1 a.2)
theorem zqk {fs:List PV}:∀a b:List Val×Val,PV.sl 5 (a.1.map Val.enc)::.agg a.2.enc::fs=PV.sl 5 (b.1.map Val.enc)::.agg b.2.enc::fs→a=b:=by
 rintro⟨a1,a2⟩ ⟨b1,b2⟩ e
 simp only[List.cons.injEq,and_true,PV.agg.injEq] at e
 obtain⟨e1,e2⟩:=e
 injection e1 with _ e1
 rw[zhK e1,jR e2]
noncomputable def lvT (l:List Val) (v:Val):PV:=.tup [int (bsV l v).1,boo (bsV l v).2]
def zmy:PV:=.fn (.func 107) [] []
theorem zpm (l:List Val) (v:Val) (hp:Hp) (nx:Nat) (h:vbs l≤lim) (h2:v.vb≤lim):zd false [] (FLv lvT [zmy]) [.sl 5 (l.map Val.enc),.agg v.enc,zmy] hp nx=some (lvT l v,hp,nx) :=
 zH (hp1:=hp) (show zj hp [.sl 5 (l.map Val.enc),.agg v.enc,zmy]=some ([.sl 5 (l.map Val.enc),.agg v.enc,zmy],hp) by simp[js v,zmy]) (zm (enc:=fun a:List Val×Val=>PV.sl 5 (a.1.map Val.enc)::.agg a.2.enc::[zmy]) (a:=(l,v)) zqk ⟨h,h2⟩) (.inl rfl)
theorem zmz (l:List Val) (v:Val) (hp:Hp) (nx:Nat) (h:vbs l≤lim) (h2:v.vb≤lim):zd false [] (FLv (fun l v=>boo (bsV l v).2) []) [.sl 5 (l.map Val.enc),.agg v.enc] hp nx=some (boo (bsV l v).2,hp,nx) :=
 zH (hp1:=hp) (show zj hp [.sl 5 (l.map Val.enc),.agg v.enc]=some ([.sl 5 (l.map Val.enc),.agg v.enc],hp) by simp[js v]) (zm (enc:=fun a:List Val×Val=>PV.sl 5 (a.1.map Val.enc)::.agg a.2.enc::[]) (a:=(l,v)) zqk ⟨h,h2⟩) (.inl rfl)
noncomputable abbrev zwq:Ctx:=zC prog [(107,zd false [] (FCV lim))]
theorem zrX:AM.Good zwq (fun g=>[107].contains g):=zk mixed ⟨Qs lim,fun _=>zi _ _,trivial⟩
theorem zpn (l:List Val) (v:Val) (hb:vbs l≤lim) (hv:v.vb≤lim):zg zwq f106 [.sl 5 (l.map Val.enc),.agg v.enc,zmy]=some (lvT l v):=by
 have hl:=qD l
 unfold lim at hb hv
 refine zb rfl ?_
 simp[zmy]
 refine kX (fun st=>st.σ 0=.sl 5 (l.map Val.enc)∧st.σ 2=.fn (.func 107) [] []∧st.σ 4=.ref 0 0 0∧st.σ 8=int l.length∧st.hp 0=some ⟨61,5,false,[v.enc]⟩∧∃lo hi:Nat,lo≤hi∧hi≤l.length∧st.σ 9=int lo∧st.σ 10=int hi∧bsGo (VA l v) 0 l.length=bsGo (VA l v) lo hi)
  (fun st=>(Jp (st.σ 10)).toNat - (Jp (st.σ 9)).toNat) ⟨by simp,by simp,by simp,by simp,by simp,0,l.length,by simp,by simp,by simp,by simp,rfl⟩ ?_
 rintro⟨σ,hp,nx⟩ ⟨h0,h2,h4,h8,b0,lo,hi,hlh,hhi,h9,h10,he⟩
 simp only at h0 h2 h4 h8 h9 h10 b0
 have hcall:=fun (k:Nat) (hk:k<l.length) hp nx=>vm lim l[k] v hp nx ⟨by have:=wA (List.getElem_mem hk);unfold lim;omega,by have:=wA (List.getElem_mem hk);unfold lim;omega,by unfold lim;omega⟩
 by_cases hlt:lo<hi
 ·have w1:IntKind.i64.wrap ((lo:Int)+hi)=(lo:Int)+hi:=zc (by omega) (by omega)
  have hml:(lo+hi) / 2<l.length:=by omega
  obtain⟨m,hm⟩:∃m,m=(lo+hi) / 2:=⟨_,rfl⟩
  have hmid:IntKind.i64.wrap ((IntKind.u64.wrap ((lo:Int)+hi)).fdiv (2 ^ min 1 IntKind.u64.bits))=(m:Int):=by
   have e1:IntKind.u64.wrap ((lo:Int)+hi)=(lo:Int)+hi:=by rw[IntKind.wrap_u64];omega
   have e2:(2 ^ min 1 IntKind.u64.bits:Int)=2:=by decide
   rw[e1,e2,Int.fdiv_eq_ediv_of_nonneg _ (by omega),zc (by omega) (by omega)]
   omega
  have hml':m<l.length:=by omega
  have wm:IntKind.i64.wrap ((m:Int)+1)=(m:Int)+1:=zc (by omega) (by omega)
  have hla:VA l v m=decide (zO l[m] v<0):=by simp[VA,hml']
  rw[Wq (lo:=lo) hlt,←hm,hla] at he
  have hcm:=hcall m hml'
  by_cases hc:zO l[m] v<0
  ·simp only[hc,decide_true,if_true] at he
   simp[h0,h2,h4,h8,h9,h10,b0,hlt,w1,hmid,hml',hcm,hc,wm]
   exact⟨⟨m+1,hi,by omega,hhi,by omega,rfl,he⟩,by omega⟩
  ·simp only[hc,decide_false,Bool.false_eq_true,if_false] at he
   simp[h0,h2,h4,h8,h9,h10,b0,hlt,w1,hmid,hml',hcm,hc]
   exact⟨⟨lo,m,by omega,by omega,rfl,rfl,he⟩,by omega⟩
 ·have he:bsGo (VA l v) 0 l.length=lo:=by rw[he,JS (lo:=lo) hlt]
  unfold lvT bsV
  rw[he]
  by_cases hlo:lo<l.length
  ·have hcm:=hcall lo hlo
   simp[h0,h2,h4,h8,h9,h10,b0,hlt,hlo,hcm,f106,qe]
  ·have hlo':l[lo]?=none:=List.getElem?_eq_none (by omega)
   simp[h0,h2,h4,h8,h9,h10,b0,hlt,hlo,hlo',f106,qe]
theorem zmA:za prog 106 (zd false [] (FLv lvT [zmy])) :=
 zL (fn:=f106) zrX ⟨_,func106,by kernel_rfl,rfl,by kernel_rfl⟩ false [] _ fun args r h=>by
  obtain⟨⟨l,v⟩,rfl,⟨h1,h2⟩,rfl⟩:=ze h
  exact⟨Nat.le_trans (Nat.le_refl 3) (by decide),_,zpn l v h1 h2,zK _⟩
noncomputable abbrev Cam:Ctx:=zC prog [(106,zd false [] (FLv lvT [zmy]))]
theorem VB:za prog 78 (zd false [] (FLv (fun l v=>boo (bsV l v).2) [])) :=
 zL (fn:=f78) (zk (q:=[]) mixed ⟨zmA,by simp,trivial⟩:AM.Good Cam _) ⟨_,func78,by kernel_rfl,rfl,by kernel_rfl⟩ false [] _ fun args r h=>by
  obtain⟨⟨l,v⟩,rfl,⟨h1,h2⟩,rfl⟩:=ze h
  have hc:∀hp nx,zd false [] (FLv lvT [zmy]) [.sl 5 (l.map Val.enc),.agg v.enc,.fn (.func 107) [] []] hp nx=some (.tup [int (bsV l v).1,boo (bsV l v).2],hp,nx):=fun hp nx=>zpm l v hp nx h1 h2
  exact⟨by simp[f78],_,zb rfl (by simp[hc,f78]),zK _⟩
def zhU (op n w:Int):Bool:=if op=3 then decide (n<w) else if op=4 then decide (n≤w) else if op=5 then decide (w<n) else decide (w≤n)
noncomputable def FOd:List PV→Option PV:=zJ (α:=Int×Int×Int) (fun a=>[int a.1,int a.2.1,int a.2.2]) (fun _=>True) (fun a=>boo (zhU a.1 a.2.1 a.2.2))
theorem zhV (a b c:Int) (hp:Hp) (nx:Nat):zd false [] FOd [int a,int b,int c] hp nx=some (boo (zhU a b c),hp,nx) :=
 zH rfl (zm (enc:=fun a:Int×Int×Int=>[int a.1,int a.2.1,int a.2.2]) (a:=(a,b,c)) (fun x y e=>by
  obtain⟨x1,x2,x3⟩:=x;obtain⟨y1,y2,y3⟩:=y
  simp only[List.cons.injEq,and_true] at e
  rw[zP e.1,zP e.2.1,zP e.2.2]) trivial) (.inl rfl)
theorem zb0:za prog 82 (zd false [] FOd) :=
 zL (fn:=f82) yl ⟨_,func82,by kernel_rfl,rfl,by kernel_rfl⟩ false [] _ fun args r h=>by
  obtain⟨⟨a,b,c⟩,rfl,_,rfl⟩:=ze h
  refine⟨by simp[f82],_,zb rfl ?_,zK _⟩
  by_cases h1:a=3
  ·simp[h1,zhU,f82]
  have h1':(a==3)=false:=by simpa using h1
  by_cases h2:a=4
  ·simp[h2,zhU,f82]
  have h2':(a==4)=false:=by simpa using h2
  by_cases h3:a=5
  ·simp[h3,zhU,f82]
  have h3':(a==5)=false:=by simpa using h3
  simp[h1,h1',h2,h2',h3,h3',zhU,f82]
noncomputable def ztV (s p:List UInt8):Bool:=match rdV s with
 | none=>false
 | some v=>(zgi v (yD p).1).1
noncomputable def zas (op:Int) (s p:List UInt8):Bool:=if op=7 then p.isPrefixOf s else if op=8 then Lib.hasSuffix s p else if op=9 then Lib.contains s p else if op=10 then WV s p else ztV s p
noncomputable def FFt:List PV→Option PV:=zJ (α:=Int×List UInt8×List UInt8) (fun a=>[int a.1,str a.2.1,str a.2.2]) (fun a=>a.2.1.length+1≤lim∧a.2.2.length+1≤lim) (fun a=>boo (zas a.1 a.2.1 a.2.2))
theorem zhW (a:Int) (b c:List UInt8) (hp:Hp) (nx:Nat) (h:b.length+1≤lim) (h2:c.length+1≤lim):zd false [] FFt [int a,str b,str c] hp nx=some (boo (zas a b c),hp,nx) :=
 zH rfl (zm (enc:=fun a:Int×List UInt8×List UInt8=>[int a.1,str a.2.1,str a.2.2]) (a:=(a,b,c)) (fun x y e=>by
  obtain⟨x1,x2,x3⟩:=x;obtain⟨y1,y2,y3⟩:=y
  simp only[List.cons.injEq,and_true] at e
  rw[zP e.1,qg e.2.1,qg e.2.2]) ⟨h,h2⟩) (.inl rfl)
noncomputable abbrev zwr:Ctx:=zC prog [(109,zd false [] (FTT hpP fun _ _=>True)),(110,zd false [] (FTT hsP fun _ _=>True)),(111,zd false [] (FTT zp1 fun _ _=>True)),(112,zd false [] (FTT zsM fun _ _=>True)),(113,zd false [] (VU rdP)),(114,zd false [] (VU rrP)),(115,zd false [] (FVR zeQ))]
theorem zmB (a:Int) (b c:List UInt8) (h:b.length+1≤lim) (h2:c.length+1≤lim):zg zwr f83 [int a,str b,str c]=some (boo (zas a b c)):=by
 refine zb rfl ?_
 have g7:=fun hp nx=>Yl b c hp nx (by omega) (by omega)
 have g8:=fun hp nx=>zge b c hp nx (by omega) (by omega)
 have g9:∀hp nx,zd false [] (FTT zp1 fun _ _=>True) [str b,str c] hp nx=some (boo (Lib.contains b c),hp,nx):=fun hp nx=>wq _ _ b c hp nx (by omega) (by omega) trivial rfl
 have g10:∀hp nx,zd false [] (FTT zsM fun _ _=>True) [str b,str c] hp nx=some (boo (WV b c),hp,nx):=fun hp nx=>wq _ _ b c hp nx (by omega) (by omega) trivial rfl
 have g11:=fun hp nx=>wu rdP b hp nx h
 have g12:=fun hp nx=>wu rrP c hp nx h2
 by_cases h7:a=7
 ·simp[h7,g7,zas,f83]
 have h7':(a==7)=false:=by simpa using h7
 by_cases h8:a=8
 ·simp[h8,g8,zas,f83]
 have h8':(a==8)=false:=by simpa using h8
 by_cases h9:a=9
 ·simp[h9,g9,zas,f83]
 have h9':(a==9)=false:=by simpa using h9
 by_cases h10:a=10
 ·simp[h10,g10,zas,f83]
 have h10':(a==10)=false:=by simpa using h10
 have hv:zas a b c=ztV b c:=by unfold zas;rw[if_neg h7,if_neg h8,if_neg h9,if_neg h10]
 rw[hv]
 unfold ztV
 cases hr:rdV b with
 | none =>
   simp only[rdP,hr] at g11
   simp[h7',h8',h9',h10',g11,ver0,Ver.enc,f83]
 | some v =>
   have hs:=(Vz hr).2
   have g13:=fun hp nx=>zhS zeQ v (yD c).1 hp nx hs (WW c) rfl
   simp only[rdP,hr] at g11
   simp only[rrP] at g12
   simp only[zeQ] at g13
   simp only[Ver.enc] at g11 g13
   simp[h7',h8',h9',h10',g11,g12,g13,f83]
theorem zjI:za prog 83 (zd false [] FFt) :=
 zL (fn:=f83) (zk (q:=[]) mixed ⟨kE,by simp,ZM,by simp,vt,by simp,zjG,by simp,vS,by simp,ZL,by simp,zbY,by simp,trivial⟩:AM.Good zwr _) ⟨_,func83,by kernel_rfl,rfl,by kernel_rfl⟩ false [] _ fun args r h=>by
  obtain⟨⟨a,b,c⟩,rfl,⟨h1,h2⟩,rfl⟩:=ze h
  exact⟨by simp[f83],_,zmB a b c h1 h2,zK _⟩
def JX (c:Cnd):Blk:=⟨41,7,false,[c.enc]⟩
noncomputable abbrev zws:Ctx:=zC prog [(78,zd false [] (FLv (fun l v=>boo (bsV l v).2) []))]
noncomputable abbrev ztW:AM.Spec:=yf zws f80
set_option maxRecDepth 100000 in
theorem zmC:za prog 80 ztW:=zX (code:=_) (zk (q:=[]) mixed ⟨VB,by simp,trivial⟩:AM.Good zws _) ⟨func80,by kernel_rfl,rfl,by kernel_rfl⟩
theorem zrY (c:Cnd) (v:Val) (hc:c.cb≤lim) (hv:v.vb≤lim) (hp:Hp) (nx id:Nat) (hid:id<nx) (hh:hp id=some (JX c)):ztW [.agg v.enc,.ref id 0 0] hp nx=some (boo (bsV c.vals v).2,upd hp nx (some ⟨61,5,false,[v.enc]⟩),nx+1):=by
 have hcb:=xF c
 unfold ztW yf
 rw[if_pos (by simp[f80])]
 refine qB rfl ?_
 have g1:=fun hp nx=>zmz c.vals v hp nx (by omega) hv
 have e1:¬id=nx:=by omega
 simp only[JX] at hh
 simp[hh,e1,g1,f80]
def zjJ (l:List Val):Int:=match l with
 | []=>0
 | x::_=>x.n
noncomputable def Qh (c:Cnd) (v:Val):Bool:=if c.op=1 then true else if c.op=2 then (bsV c.vals v).2 else if c.op=12 then v.kind==4&&v.items.any (fun x=>(bsV c.vals x).2) else if ww c.op=true then v.kind==2&&zhU c.op v.n (zjJ c.vals) else v.kind==3&&zas c.op v.s c.pat
noncomputable def FPs:List PV→Option PV:=zJ (α:=Cnd×Val) (fun a=>[.agg a.1.enc,.agg a.2.enc]) (fun a=>a.1.cb≤lim∧a.2.vb≤lim∧(ww a.1.op=true→0<a.1.vals.length)) (fun a=>boo (Qh a.1 a.2))
theorem zpo (c:Cnd) (v:Val) (hp:Hp) (nx:Nat) (h:c.cb≤lim) (h2:v.vb≤lim) (h3:ww c.op=true→0<c.vals.length):zd false [] FPs [.agg c.enc,.agg v.enc] hp nx=some (boo (Qh c v),hp,nx) :=
 zH (hp1:=hp) (show zj hp [.agg c.enc,.agg v.enc]=some ([.agg c.enc,.agg v.enc],hp) by simp[js v,qc]) (zm (enc:=fun a:Cnd×Val=>[PV.agg a.1.enc,.agg a.2.enc]) (a:=(c,v)) (fun a b e=>by
  obtain⟨a1,a2⟩:=a;obtain⟨b1,b2⟩:=b
  simp only[List.cons.injEq,and_true,PV.agg.injEq] at e
  rw[jE e.1,jR e.2]) ⟨h,h2,h3⟩) (.inl rfl)
noncomputable abbrev zwt:Tab:=[(80,ztW)]
noncomputable abbrev Cps:Ctx:=zC prog [(78,zd false [] (FLv (fun l v=>boo (bsV l v).2) [])),(79,zpi zwt),(81,zd false [] (FIb ww)),(82,zd false [] FOd),(83,zd false [] FFt)]
theorem ztX:AM.Good Cps (fun g=>([]:List Nat).contains g):=zk mixed ⟨VB,by simp,zjF ⟨zmC,by simp,trivial⟩,by simp,QP,by simp,zb0,by simp,zjI,by simp,trivial⟩
theorem zpp:xP Cps (fun g=>([]:List Nat).contains g) 55 f55:=⟨_,func55,by kernel_rfl,rfl,by kernel_rfl⟩
theorem zgm (c:Cnd) (v:Val) (hc:c.cb≤lim) (hv:v.vb≤lim) (h3:ww c.op=true→0<c.vals.length):zg Cps f55 [.agg c.enc,.agg v.enc]=some (boo (Qh c v)):=by
 have hcb:=xF c
 have hvb:=j9 v
 refine zb rfl ?_
 have hlim:lim=2097152:=rfl
 by_cases o1:c.op=1
 ·have hw:Qh c v=true:=by unfold Qh;rw[if_pos o1]
  simp[o1,hw,f55]
 have o1':(c.op==1)=false:=by simpa using o1
 by_cases o2:c.op=2
 ·have hw:Qh c v=(bsV c.vals v).2:=by unfold Qh;rw[if_neg o1,if_pos o2]
  have g1:=fun hp nx=>zmz c.vals v hp nx (by omega) hv
  simp[o2,g1,hw,f55]
 have o2':(c.op==2)=false:=by simpa using o2
 by_cases o3:c.op=12
 ·have hw:Qh c v=(v.kind==4&&v.items.any fun x=>(bsV c.vals x).2):=by unfold Qh;rw[if_neg o1,if_neg o2,if_pos o3]
  have hil:=qD v.items
  have him:=fun x (hx:x∈v.items)=>wA hx
  obtain⟨r,hp',nx',e1,rfl,_,_,_⟩:=zpj (σ:=Unit) (T:=fun _=>False) (Rep:=fun _ hp=>hp 0=some (JX c)) (step:=fun _ x=>((bsV c.vals x).2,())) (Ta:=zwt) (g:=80) (sp:=ztW) (fi:=[]) (cap:=[.ref 0 0 0]) (nx0:=1) (by simp) v.items (by omega)
   (fun _ x hp nx hx hn hr=>⟨_,_,_,zrY c x hc (by have:=him x hx;omega) hp nx 0 (by omega) hr,rfl,(zq _ _ _ _ (by omega)).trans hr,by omega,fun j hj _=>zq _ _ _ _ (by omega)⟩) () (upd (upd (fun _=>none) 0 (some (JX c))) 1 (some ⟨61,5,false,[v.enc]⟩)) 2 (by omega) (by simp)
  rw[WT] at e1
  simp only[JX] at e1
  rw[hw]
  cases k4:v.kind==4
  ·simp[o3,k4,f55]
  ·simp[o3,k4,e1,f55]
 have o3':(c.op==12)=false:=by simpa using o3
 cases o4:ww c.op
 ·have hw:Qh c v=(v.kind==3&&zas c.op v.s c.pat):=by unfold Qh;rw[if_neg o1,if_neg o2,if_neg o3,o4,if_neg (by simp)]
  have g1:=fun hp nx=>zhW c.op v.s c.pat hp nx (by omega) (by omega)
  rw[hw]
  cases k3:v.kind==3
  ·simp[o1',o2',o3',o4,k3,f55]
  ·simp[o1',o2',o3',o4,k3,g1,f55]
 ·have hw:Qh c v=(v.kind==2&&zhU c.op v.n (zjJ c.vals)):=by unfold Qh;rw[if_neg o1,if_neg o2,if_neg o3,if_pos o4]
  have hl:=h3 o4
  obtain⟨x,l,hx⟩:∃x l,c.vals=x::l:=by
   cases hcv:c.vals with
   | nil=>rw[hcv] at hl;cases hl
   | cons x l=>exact⟨x,l,rfl⟩
  have g1:=fun hp nx=>zhV c.op v.n x.n hp nx
  rw[hw]
  have hh:zjJ c.vals=x.n:=by rw[hx];rfl
  rw[hh]
  cases k2:v.kind==2
  ·simp[o1',o2',o3',o4,k2,f55]
  ·simp[o1',o2',o3',o4,k2,hx,g1,f55]
theorem zek:za prog 55 (zd false [] FPs) :=
 zL (fn:=f55) ztX zpp false [] _ fun args r h=>by
  obtain⟨⟨c,v⟩,rfl,⟨h1,h2,h3⟩,rfl⟩:=ze h
  exact⟨by simp[f55],_,zgm c v h1 h2 h3,zK _⟩
noncomputable abbrev ztY:Ctx:=zC prog [(87,zd false [] (F3 inB)),(206,zd false [] (FS fun l=>!qf l))]
theorem zpq:AM.Good ztY (fun g=>[87].contains g):=zk mixed ⟨yr,fun _=>zi _ _,Jc,by simp,trivial⟩
theorem WX (v:Ver) (h:v.small):zg ztY f160 [.agg v.enc]=some (int (wV v)):=by
 obtain⟨a,b,c,pre⟩:=v
 obtain⟨hl,hpl⟩:=h
 simp only at hl hpl
 unfold lim at hl
 refine zb rfl ?_
 cases h1:inB a 0 999999
 ·simp[Ver.enc,h1,wV,f160]
 cases h2:inB b 0 999999
 ·simp[Ver.enc,h1,h2,wV,f160]
 cases h3:inB c 0 999999
 ·simp[Ver.enc,h1,h2,h3,wV,f160]
 by_cases h4:10<pre.length
 ·have h4':(10:Int)<pre.length:=by omega
  simp[Ver.enc,h1,h2,h3,h4,h4',wV,f160]
 have h4':¬(10:Int)<pre.length:=by omega
 have hck:wV ⟨a,b,c,pre⟩=if pre.any qf then 3 else 0:=by simp[wV,h1,h2,h3,h4]
 rw[hck]
 simp[Ver.enc,h1,h2,h3,h4,h4']
 refine zu (fun k σ hp nx=>σ 28=.sl 1 (zD pre)∧σ 29=int pre.length∧σ 30=int k∧pre.any qf=(pre.drop k).any qf) pre.length ⟨by simp,by simp,by simp,by simp⟩ ?_
 rintro k σ hp nx hkk ⟨h28,h29,h30,he⟩
 by_cases hlt:k<pre.length
 ·have hw:IntKind.i64.wrap ((k:Int)+1)=(k:Int)+1:=zc (by omega) (by omega)
  have hg:=ZW hlt
  rw[List.drop_eq_getElem_cons hlt,List.any_cons] at he
  have hpk:=hpl _ (List.getElem_mem hlt)
  have f1:=fun hp nx=>wO (fun l=>!qf l) pre[k] hp nx hpk
  cases hc:qf pre[k]
  ·rw[hc] at f1
   simp[h28,h29,h30,hlt,hg,f1,hw]
   exact⟨hlt,by rw[he,hc];rfl⟩
  ·rw[hc] at f1
   have he:pre.any qf=true:=by rw[he,hc];rfl
   simp[h28,h29,h30,hlt,hg,f1,he,f160]
   exact List.any_eq_true.1 he
 ·obtain rfl:k=pre.length:=by omega
  have he:pre.any qf=false:=by rw[he,List.drop_length];rfl
  simp[h28,h29,h30,he,f160]
  exact fun x hx=>by simpa using List.any_eq_false.1 he x hx
theorem yU:za prog 160 (zG [.g jP] (FVr fun v=>int (wV v))) :=
 zZ (fn:=f160) zpq ⟨_,func160,by kernel_rfl,rfl,by kernel_rfl⟩ _ _ fun args r h=>by
  obtain⟨v,rfl,hv,rfl⟩:=zli h
  exact⟨Nat.le_trans (Nat.le_refl 1) (by decide),_,WX v hv,Stands.refl _⟩
theorem zb1 (c:Cut):zg C0 f215 [.agg c.enc]=some (boo (vG c)):=by
 obtain⟨⟨a,b,cc,pre⟩,af⟩:=c
 refine zb rfl ?_
 unfold vG
 cases h1:a==0
 ·simp[Cut.enc,Ver.enc,h1,f215]
 cases h2:b==0
 ·simp[Cut.enc,Ver.enc,h1,h2,f215]
 cases h3:cc==0
 ·simp[Cut.enc,Ver.enc,h1,h2,h3,f215]
 cases h4:(pre.length:Int)==0
 ·simp[Cut.enc,Ver.enc,h1,h2,h3,h4,f215]
 simp[Cut.enc,Ver.enc,h1,h2,h3,h4,f215]
theorem XA:za prog 215 (zd false [] (FCu fun c=>boo (vG c))) :=
 zL (fn:=f215) yl ⟨_,func215,by kernel_rfl,rfl,by kernel_rfl⟩ false [] _ fun args r h=>by
  obtain⟨c,rfl,_,rfl⟩:=ze h
  exact⟨Nat.le_trans (Nat.le_refl 1) (by decide),_,zb1 c,zK _⟩
noncomputable abbrev zrZ:Ctx:=zC prog [(160,zG [.g jP] (FVr fun v=>int (wV v))),(215,zd false [] (FCu fun c=>boo (vG c))),(216,zG [.g y8,.g y8] (FCC fun v w=>int (qx v w)))]
theorem zpr:AM.Good zrZ (fun g=>[216].contains g):=zk mixed ⟨yU,by simp,XA,by simp,yd,fun _=>qv _ _,trivial⟩
theorem zjK:xP zrZ (fun g=>[216].contains g) 163 f163:=⟨_,func163,by kernel_rfl,rfl,by kernel_rfl⟩
set_option maxHeartbeats 2000000 in
theorem JL (l:List Str) (hl:qK l):zg zrZ f163 [.sl 11 (zN l)]=some (int (xh l)):=by
 obtain⟨hlen,hsm⟩:=hl
 unfold lim at hlen
 have hel:(zN l).length=l.length:=by simp[zN]
 have hke:∀(k:Nat) (h:k<(zN l).length) (h':k<l.length),(zN l)[k]=l[k].enc:=fun k h h'=>by simp[zN]
 refine zb rfl ?_
 by_cases c0:(100:Int)<l.length
 ·have hv:xh l=2:=by unfold xh;rw[if_pos c0]
  simp[hel,c0,hv,f163]
 simp[hel,c0]
 refine zu (fun k σ hp nx=>σ 0=.sl 11 (zN l)∧σ 10=.sl 11 (zN l)∧σ 11=int l.length∧σ 12=int k∧zjD none l=zjD (Qg l k) (l.drop k)) l.length ⟨by simp,by simp,by simp,by simp,by simp[Qg]⟩ ?_
 rintro k σ hp nx hk ⟨h0,h10,h11,h12,he⟩
 by_cases hlt:k<l.length
 ·have hw:IntKind.i64.wrap ((k:Int)+1)=(k:Int)+1:=zc (by omega) (by omega)
  obtain⟨s,hs⟩:∃s,l[k]=s:=⟨_,rfl⟩
  have hss:=hsm s (by rw[←hs];exact List.getElem_mem hlt)
  have hlt2:k<(zN l).length:=by omega
  have hkk:=hke k hlt2 hlt
  rw[hs] at hkk
  have hpv:Qg l (k+1)=some s:=by simp[Qg,hlt,hs]
  have g1:=fun hp nx=>xI s.lo.v hp nx hss.1
  have g2:=fun hp nx=>xI s.hi.v hp nx hss.2
  have g3:=fun hp nx=>zhP (fun c=>boo (vG c)) s.hi hp nx hss.2 rfl
  have g4:=fun hp nx=>jD s.hi s.lo hp nx hss.2 hss.1
  have hant:=cmpC_to.le s.hi s.lo
  simp only[Ver.enc,Cut.enc] at g1 g2 g3 g4
  rw[zeh hlt,hs] at he
  by_cases d1:wV s.lo.v=0
  case neg =>
   rw[if_neg d1] at he
   have d1':(wV s.lo.v != 0)=true:=by simpa using d1
   have hv:xh l=wV s.lo.v:=by unfold xh;rw[if_neg c0,he]
   simp[h0,h10,h11,h12,hel,hlt,hlt2,hkk,Str.enc,Cut.enc,g1,d1',hv,f163]
  rw[if_pos d1] at he
  by_cases d2:jN s=0
  case neg =>
   rw[if_neg d2] at he
   have hv:xh l=jN s:=by unfold xh;rw[if_neg c0,he]
   cases e1:s.endless
   ·by_cases e2:wV s.hi.v=0
    ·by_cases e3:0≤qx s.lo s.hi
     ·have e3r:=hant.2 e3
      have hf:jN s=8:=by unfold jN;rw[e1,if_neg (by simp),if_pos e2,if_pos e3]
      simp[h0,h10,h11,h12,hel,hlt,hlt2,hkk,Str.enc,Cut.enc,g1,g2,g4,d1,e1,e2,e3r,hv,hf,f163]
     ·exact absurd (by unfold jN;rw[e1,if_neg (by simp),if_pos e2,if_neg e3]) d2
    ·have e2':(wV s.hi.v != 0)=true:=by simpa using e2
     have hf:jN s=wV s.hi.v:=by unfold jN;rw[e1,if_neg (by simp),if_neg e2]
     simp[h0,h10,h11,h12,hel,hlt,hlt2,hkk,Str.enc,Cut.enc,g1,g2,d1,e1,e2',hv,hf,f163]
   ·cases e2:vG s.hi
    ·have hf:jN s=3:=by unfold jN;rw[e1,if_pos rfl,e2,if_neg (by simp)]
     simp[h0,h10,h11,h12,hel,hlt,hlt2,hkk,Str.enc,Cut.enc,g1,g3,d1,e1,e2,hv,hf,f163]
    ·exact absurd (by unfold jN;rw[e1,if_pos rfl,e2,if_pos rfl]) d2
  rw[if_pos d2] at he
  have hen:(s.endless=true∧vG s.hi=true)∨(s.endless=false∧wV s.hi.v=0∧¬qx s.hi s.lo≤0):=by
   unfold jN at d2
   cases e1:s.endless
   ·rw[e1,if_neg (by simp)] at d2
    by_cases e2:wV s.hi.v=0
    ·rw[if_pos e2] at d2
     by_cases e3:0≤qx s.lo s.hi
     ·rw[if_pos e3] at d2;omega
     ·exact .inr ⟨rfl,e2,fun e=>e3 (hant.1 e)⟩
    ·rw[if_neg e2] at d2;exact absurd d2 e2
   ·rw[e1,if_pos rfl] at d2
    cases e2:vG s.hi
    ·rw[e2,if_neg (by simp)] at d2;omega
    ·exact .inl ⟨rfl,rfl⟩
  by_cases k0:k=0
  ·subst k0
   have w1:IntKind.i64.wrap 1=1:=zc (by omega) (by omega)
   simp only[Qg,jW,if_true,Bool.false_eq_true,if_false] at he
   have hfin:zjD none l=zjD (Qg l 1) l.tail:=by rw[he,hpv];simp
   rcases hen with⟨e1,e2⟩ | ⟨e1,e2,e3⟩
   ·simp[h0,h10,h11,h12,hel,hlt,hlt2,hkk,Str.enc,Cut.enc,g1,g3,d1,e1,e2,w1]
    exact⟨by omega,hfin⟩
   ·simp[h0,h10,h11,h12,hel,hlt,hlt2,hkk,Str.enc,Cut.enc,g1,g2,g4,d1,e1,e2,e3,w1]
    exact⟨by omega,hfin⟩
  ·obtain⟨j,rfl⟩:∃j,k=j+1:=⟨k - 1,by omega⟩
   have hj:j<l.length:=by omega
   have hj2:j<(zN l).length:=by omega
   obtain⟨q,hq⟩:∃q,l[j]=q:=⟨_,rfl⟩
   have hqq:=hsm q (by rw[←hq];exact List.getElem_mem hj)
   have hkj:=hke j hj2 hj
   rw[hq] at hkj
   have wj:IntKind.i64.wrap ((j:Int)+1 - 1)=(j:Int):=by rw[zc (by omega) (by omega)];omega
   have wj':IntKind.i64.wrap (j:Int)=(j:Int):=zc (by omega) (by omega)
   have j1:((j:Int)+1).toNat=j+1:=by omega
   have j2:0<(j:Int)+1:=by omega
   have j3:0≤(j:Int)+1:=by omega
   have j4:(j:Int)+1<l.length:=by omega
   have wk:IntKind.i64.wrap ((j:Int)+1+1)=(j:Int)+1+1:=zc (by omega) (by omega)
   have hpj:Qg l (j+1)=some q:=by simp[Qg,hj,hq]
   have g5:=fun hp nx=>jD q.hi s.lo hp nx hqq.2 hss.1
   simp only[Cut.enc] at g5
   rw[hpj] at he
   cases o1:q.endless
   ·by_cases o2:0≤qx q.hi s.lo
    ·have ho:jW (some q) s=true:=by simp[jW,o2]
     rw[ho,if_pos rfl] at he
     have hv:xh l=8:=by unfold xh;rw[if_neg c0,he]
     rcases hen with⟨e1,e2⟩ | ⟨e1,e2,e3⟩
     ·simp[h0,h10,h11,h12,hel,hlt,hlt2,hkk,hj,hj2,hkj,Str.enc,Cut.enc,g1,g3,g5,d1,e1,e2,o1,o2,wj,wj',j1,j2,j3,j4,hv,f163]
     ·simp[h0,h10,h11,h12,hel,hlt,hlt2,hkk,hj,hj2,hkj,Str.enc,Cut.enc,g1,g2,g4,g5,d1,e1,e2,e3,o1,o2,wj,wj',j1,j2,j3,j4,hv,f163]
    ·have ho:jW (some q) s=false:=by simp[jW,o1];omega
     rw[ho,if_neg (by simp)] at he
     rcases hen with⟨e1,e2⟩ | ⟨e1,e2,e3⟩
     ·simp[h0,h10,h11,h12,hel,hlt,hlt2,hkk,hj,hj2,hkj,Str.enc,Cut.enc,g1,g3,g5,d1,e1,e2,o1,o2,wj,wj',j1,j2,j3,j4,wk]
      exact⟨by omega,by rw[he,hpv]⟩
     ·simp[h0,h10,h11,h12,hel,hlt,hlt2,hkk,hj,hj2,hkj,Str.enc,Cut.enc,g1,g2,g4,g5,d1,e1,e2,e3,o1,o2,wj,wj',j1,j2,j3,j4,wk]
      exact⟨by omega,by rw[he,hpv]⟩
   ·have ho:jW (some q) s=true:=by simp[jW,o1]
    rw[ho,if_pos rfl] at he
    have hv:xh l=8:=by unfold xh;rw[if_neg c0,he]
    rcases hen with⟨e1,e2⟩ | ⟨e1,e2,e3⟩
    ·simp[h0,h10,h11,h12,hel,hlt,hlt2,hkk,hj,hj2,hkj,Str.enc,Cut.enc,g1,g3,d1,e1,e2,o1,wj,wj',j1,j2,j3,j4,hv,f163]
    ·simp[h0,h10,h11,h12,hel,hlt,hlt2,hkk,hj,hj2,hkj,Str.enc,Cut.enc,g1,g2,g4,d1,e1,e2,e3,o1,wj,wj',j1,j2,j3,j4,hv,f163]
 ·obtain rfl:k=l.length:=by omega
  rw[List.drop_length] at he
  have hv:xh l=0:=by unfold xh;rw[if_neg c0,he];rfl
  simp[h0,h10,h11,h12,hv,f163]
theorem YP:za prog 163 (zd false [] (FRs fun l=>int (xh l))) :=
 zL (fn:=f163) zpr zjK false [] _ fun args r h=>by
  obtain⟨l,rfl,hl,rfl⟩:=ze h
  exact⟨Nat.le_trans (Nat.le_refl 1) (by decide),_,JL l hl,zK _⟩
end Go.Proofs.YtjcofiomfmebkaaGreatDoor
namespace Go.Proofs.YtjcofiomfmebkaaGreatDoor
open Go.Proofs.Tryz
open Go.RowKit Go.AM Go.LikeLaw
def jA (n:Nat) (f:Nat→Bool):List (List PV):=(List.range n).map fun i=>[.v (.bool (f i))]
@[simp] theorem rowOf_length (n:Nat) (f:Nat→Bool):(jA n f).length=n:=by simp[jA]
theorem WY {n:Nat} {f:Nat→Bool} {i:Nat} (h:i<n):(jA n f)[i]?=some [.v (.bool (f i))]:=by simp[jA,h]
@[simp] theorem rowOf_elem (n:Nat) (f:Nat→Bool) (i:Nat) (h:i<(jA n f).length):(jA n f)[i]=[.v (.bool (f i))]:=by simp[jA]
theorem zel {n:Nat} {f g:Nat→Bool} {i:Nat} {b:Bool} (hb:b=g i) (h:∀j,j<n→j≠i→f j=g j):(jA n f).set i [.v (.bool b)]=jA n g:=by
 apply List.ext_getElem?
 intro j
 rw[List.getElem?_set]
 by_cases hj:i=j
 ·subst hj
  by_cases hn:i<n
  ·rw[if_pos rfl,if_pos (by simpa using hn),WY hn,hb]
  ·have:(jA n g)[i]?=none:=by rw[List.getElem?_eq_none];simp;omega
   simp[hn,this]
 ·simp only[hj,if_false]
  by_cases hn:j<n
  ·rw[WY hn,WY hn,h j hn (Ne.symm hj)]
  ·rw[List.getElem?_eq_none (by simp;omega),List.getElem?_eq_none (by simp;omega)]
theorem VC {n:Nat} {f g:Nat→Bool} (h:∀j,j<n→f j=g j):jA n f=jA n g:=by
 unfold jA
 apply List.map_congr_left
 intro j hj
 rw[h j (List.mem_range.1 hj)]
theorem zgn (n:Nat):List.replicate n [PV.v (.bool false)]=jA n fun _=>false:=by
 unfold jA
 rw[List.map_const']
 simp
noncomputable def tab (t p:List UInt8) (k i:Nat):Bool:=WV (t.take i) (p.take k)
theorem xJ {t p:List UInt8} {k i:Nat}:tab t p k i=true↔Lk (t.take i) (p.take k):=by simp[tab,WV]
theorem xd {l:List UInt8} {k:Nat} (h:k<l.length):l.take (k+1)=l.take k++[l[k]]:=List.take_succ_eq_append_getElem h
theorem zem {t p:List UInt8} {k:Nat} (hk:k<p.length) (hs:p[k]=42):tab t p (k+1) 0=tab t p k 0:=by
 rw[Bool.eq_iff_iff,xJ,xJ,xd hk,hs]
 simp[zbZ]
theorem zb2 {t p:List UInt8} {k i:Nat} (hk:k<p.length) (hi:i<t.length) (hs:p[k]=42):tab t p (k+1) (i+1)=(tab t p k (i+1)||tab t p (k+1) i):=by
 rw[Bool.eq_iff_iff,Bool.or_eq_true,xJ,xJ,xJ,xd hk,hs,xd hi,Xz]
theorem zps {t p:List UInt8} {k:Nat} (hk:k<p.length) (hs:p[k]≠42):tab t p (k+1) 0=false:=by
 rw[Bool.eq_false_iff,ne_eq,xJ,xd hk,List.take_zero]
 exact zei hs
theorem zgo {t p:List UInt8} {k i:Nat} (hk:k<p.length) (hi:i<t.length) (hs:p[k]≠42):tab t p (k+1) (i+1)=(tab t p k i&&(decide (p[k]=63)||decide (p[k]=t[i]))):=by
 rw[Bool.eq_iff_iff,Bool.and_eq_true,xJ,xJ,xd hk,xd hi,zpl hs]
 simp
theorem zen (t p:List UInt8) (i:Nat) (hi:i<t.length+1):tab t p 0 i=decide (i=0):=by
 rw[Bool.eq_iff_iff,xJ]
 simp[nil_right]
 rintro rfl
 simpa using hi
theorem zeo (t p:List UInt8) (ht:t.length≤lim) (hp:p.length≤lim):zg C0 f118 [str t,str p]=some (.v (.bool (WV t p))):=by
 refine zb rfl ?_
 unfold lim at *
 have wn1:IntKind.i64.wrap ((t.length:Int)+1)=(t.length:Int)+1:=zc (by omega) (by omega)
 have m1:t.length+1≤maxLen:=by unfold maxLen;omega
 have hm:∀hp nx,yV prog hp nx 170 (int ((t.length:Int)+1)) (int ((t.length:Int)+1))=some (.own nx 0 (t.length+1),upd hp nx (some ⟨4,1,true,jA (t.length+1) fun _=>false⟩),nx+1):=by
  intro hp nx
  have e:((t.length:Int)+1).toNat=t.length+1:=by omega
  simp[yV,e,zgn]
  omega
 simp[wn1,hm]
 have hset:(jA (t.length+1) fun _=>false).set 0 [PV.v (.bool true)]=jA (t.length+1) (tab t p 0):=zel (by rw[zen _ _ _ (by omega)];rfl) fun j hj hne=>by rw[zen _ _ _ hj];simp[hne]
 rw[hset]
 refine zu (fun k σ hp nx=>σ 0=str t∧σ 1=str p∧σ 16=int p.length∧σ 17=int k∧∃id,id<nx∧σ 5=.own id 0 (t.length+1)∧hp id=some ⟨4,1,true,jA (t.length+1) (tab t p k)⟩) p.length
  ⟨by simp,by simp,by simp,by simp,0,by simp,by simp,by simp⟩ ?_
 rintro k σ hp nx hk ⟨h0,h1,h16,h17,id,hid,h5,hb⟩
 by_cases hlt:k<p.length
 ·simp[h0,h1,h16,h17,h5,hb,hlt,wn1,hm]
  refine zu (fun i σ hp nx=>σ 0=str t∧σ 1=str p∧σ 16=int p.length∧σ 17=int k∧σ 6=int k∧σ 25=int ((t.length:Int)+1)∧σ 26=int i∧∃id id2,id<nx∧id2<nx∧¬id=id2∧¬id2=id∧σ 5=.own id 0 (t.length+1)∧hp id=some ⟨4,1,true,jA (t.length+1) (tab t p k)⟩ ∧
    σ 7=.own id2 0 (t.length+1)∧hp id2=some ⟨4,1,true,jA (t.length+1) fun j=>decide (j<i)&&tab t p (k+1) j⟩) (t.length+1)
   ⟨by simp[h0],by simp[h1],by simp[h16],by simp[h17],by simp,by simp,by simp,id,nx,by simp;omega,by simp,by omega,by omega,by simp[h5],by simp[hb,show ¬id=nx by omega],by simp,by simp⟩ ?_
  have wk:IntKind.i64.wrap ((k:Int)+1)=(k:Int)+1:=zc (by omega) (by omega)
  clear h0 h1 h16 h17 h5 hb hid id nx hp σ
  rintro i σ hp nx hi ⟨h0,h1,h16,h17,h6,h25,h26,id,id2,hid,hid2,hne,hne2,h5,hb,h7,hb2⟩
  have wi:IntKind.i64.wrap ((i:Int)+1)=(i:Int)+1:=zc (by omega) (by omega)
  have wi1:0<i→IntKind.i64.wrap ((i:Int) - 1)=((i - 1:Nat):Int):=fun _=>by rw[zc (by omega) (by omega)];omega
  by_cases hil:i<t.length+1
  ·have hil':(i:Int)<(t.length:Int)+1:=by omega
   have rset:∀b,b=tab t p (k+1) i→(jA (t.length+1) fun j=>decide (j<i)&&tab t p (k+1) j).set i [PV.v (.bool b)]=jA (t.length+1) fun j=>decide (j<i+1)&&tab t p (k+1) j:=fun b hbb=>zel (by simp[hbb]) fun j hj hne=>by
    have:decide (j<i)=decide (j<i+1):=by rw[decide_eq_decide];omega
    rw[this]
   have w1:IntKind.i64.wrap 1=1:=zc (by omega) (by omega)
   by_cases hs:p[k]=42
   ·by_cases hi0:i=0
    ·subst hi0
     cases hc:tab t p k 0
     ·have hr:=rset false (by rw[zem hlt hs,hc])
      simp at hr
      simp[h0,h1,h16,h17,h6,h25,h26,h5,hb,h7,hb2,hlt,hne,hne2,hil',wi,hr,hs,hc,w1]
      exact⟨id,hid,id2,hid2,hne,hne2,rfl,by simp[hne,hb],rfl,by simp⟩
     ·have hr:=rset true (by rw[zem hlt hs,hc])
      simp at hr
      simp[h0,h1,h16,h17,h6,h25,h26,h5,hb,h7,hb2,hlt,hne,hne2,hil',wi,hr,hs,hc,w1]
      exact⟨id,hid,id2,hid2,hne,hne2,rfl,by simp[hne,hb],rfl,by simp⟩
    ·obtain⟨j,rfl⟩:∃j,i=j+1:=⟨i - 1,by omega⟩
     have wj:IntKind.i64.wrap ((j:Int)+1 - 1)=(j:Int):=by rw[zc (by omega) (by omega)];omega
     have wj':IntKind.i64.wrap (j:Int)=(j:Int):=zc (by omega) (by omega)
     have jp:0<(j:Int)+1:=by omega
     have hjl:(j:Int)+1<(t.length:Int)+1:=by omega
     have hj2:j<t.length:=by omega
     have hj3:j+1<t.length+1:=by omega
     have hj4:j<t.length+1:=by omega
     have hj5:0≤(j:Int)+1:=by omega
     have hj6:((j:Int)+1).toNat=j+1:=by omega
     have wi':IntKind.i64.wrap ((j:Int)+1+1)=(j:Int)+1+1:=zc (by omega) (by omega)
     cases hc:tab t p k (j+1)
     ·cases hd:tab t p (k+1) j
      ·have hr:=rset false (by rw[zb2 hlt hj2 hs,hc,hd];rfl)
       simp[h0,h1,h16,h17,h6,h25,h26,h5,hb,h7,hb2,hlt,hne,hne2,hil',wi,hr,hs,hc,jp,wj,wj',hjl,hj2,hj3,hj4,hj5,hj6,wi',hd]
       exact⟨by omega,id,hid,id2,hid2,hne,hne2,rfl,by simp[hne,hb],rfl,by simp⟩
      ·have hr:=rset true (by rw[zb2 hlt hj2 hs,hc,hd];rfl)
       simp[h0,h1,h16,h17,h6,h25,h26,h5,hb,h7,hb2,hlt,hne,hne2,hil',wi,hr,hs,hc,jp,wj,wj',hjl,hj2,hj3,hj4,hj5,hj6,wi',hd]
       exact⟨by omega,id,hid,id2,hid2,hne,hne2,rfl,by simp[hne,hb],rfl,by simp⟩
     ·have hr:=rset true (by rw[zb2 hlt hj2 hs,hc];rfl)
      simp[h0,h1,h16,h17,h6,h25,h26,h5,hb,h7,hb2,hlt,hne,hne2,hil',wi,hr,hs,hc,jp,wj,wj',hjl,hj2,hj3,hj4,hj5,hj6,wi']
      exact⟨by omega,id,hid,id2,hid2,hne,hne2,rfl,by simp[hne,hb],rfl,by simp⟩
   ·have hsb:((p[k].toNat:Int)==42)=false:=by rw[show (42:Int)=((42:UInt8).toNat:Int) from rfl,zfe];simpa using hs
    by_cases hi0:i=0
    ·subst hi0
     have hr:(jA (t.length+1) fun j=>decide (j<0)&&tab t p (k+1) j)=jA (t.length+1) fun j=>decide (j=0)&&tab t p (k+1) j:=VC fun j _=>by
      by_cases h:j=0
      ·subst h;simp[zps hlt hs]
      ·simp[h]
     rw[hr] at hb2
     simp[h0,h1,h16,h17,h6,h25,h26,h5,hb,h7,hb2,hlt,hne,hne2,hil',wi,hsb,w1]
     exact⟨id,hid,id2,hid2,hne,hne2,rfl,hb,rfl,hb2⟩
    ·obtain⟨j,rfl⟩:∃j,i=j+1:=⟨i - 1,by omega⟩
     have wj:IntKind.i64.wrap ((j:Int)+1 - 1)=(j:Int):=by rw[zc (by omega) (by omega)];omega
     have wj':IntKind.i64.wrap (j:Int)=(j:Int):=zc (by omega) (by omega)
     have jp:0<(j:Int)+1:=by omega
     have hjl:(j:Int)+1<(t.length:Int)+1:=by omega
     have hj2:j<t.length:=by omega
     have hj3:j+1<t.length+1:=by omega
     have hj4:j<t.length+1:=by omega
     have hj5:0≤(j:Int)+1:=by omega
     have hj6:((j:Int)+1).toNat=j+1:=by omega
     have wi':IntKind.i64.wrap ((j:Int)+1+1)=(j:Int)+1+1:=zc (by omega) (by omega)
     cases hc:tab t p k j
     ·have hr:=rset false (by rw[zgo hlt hj2 hs,hc];rfl)
      simp[h0,h1,h16,h17,h6,h25,h26,h5,hb,h7,hb2,hlt,hne,hne2,hil',wi,hr,hsb,hc,jp,wj,wj',hjl,hj2,hj3,hj4,hj5,hj6,wi']
      exact⟨by omega,id,hid,id2,hid2,hne,hne2,rfl,by simp[hne,hb],rfl,by simp⟩
     ·by_cases hq:p[k]=63
      ·have hr:=rset true (by rw[zgo hlt hj2 hs,hc];simp[hq])
       simp[h0,h1,h16,h17,h6,h25,h26,h5,hb,h7,hb2,hlt,hne,hne2,hil',wi,hr,hsb,hc,jp,wj,wj',hjl,hj2,hj3,hj4,hj5,hj6,wi',hq]
       exact⟨by omega,id,hid,id2,hid2,hne,hne2,rfl,by simp[hne,hb],rfl,by simp⟩
      ·have hqb:((p[k].toNat:Int)==63)=false:=by rw[show (63:Int)=((63:UInt8).toNat:Int) from rfl,zfe];simpa using hq
       have hcb:((p[k].toNat:Int)==(t[j].toNat:Int))=decide (p[k]=t[j]):=zfe _ _
       have hr:=rset (decide (p[k]=t[j])) (by rw[zgo hlt hj2 hs,hc];simp[hq])
       simp[h0,h1,h16,h17,h6,h25,h26,h5,hb,h7,hb2,hlt,hne,hne2,hil',wi,hr,hsb,hc,jp,wj,wj',hjl,hj2,hj3,hj4,hj5,hj6,wi',hqb,hcb]
       exact⟨by omega,id,hid,id2,hid2,hne,hne2,rfl,by simp[hne,hb],rfl,by simp⟩
  ·obtain rfl:i=t.length+1:=by omega
   have hl2:¬((t.length:Int)+1<(t.length:Int)+1):=by omega
   have hr:(jA (t.length+1) fun j=>decide (j<t.length+1)&&tab t p (k+1) j)=jA (t.length+1) (tab t p (k+1)):=VC fun j hj=>by simp[hj]
   rw[hr] at hb2
   simp[h0,h1,h16,h17,h6,h25,h26,h5,hb,h7,hb2,hlt,wk]
   exact⟨hlt,id2,hid2,rfl,hb2⟩
 ·obtain rfl:k=p.length:=by omega
  have e:tab t p p.length t.length=WV t p:=by simp[tab]
  simp[h0,h1,h16,h17,h5,hb,WY,e,f118]
theorem zgp:za prog 118 (zd false [] (FTT zsM fun _ _=>True)) :=
 zL (fn:=f118) yl ⟨_,func118,by kernel_rfl,rfl,by kernel_rfl⟩ false [] _ fun args r h=>by
  obtain⟨a,b,rfl,h1,h2,_,rfl⟩:=wP h
  exact⟨by simp[f118],_,zeo a b h1 h2,zK _⟩
end Go.Proofs.YtjcofiomfmebkaaGreatDoor
namespace Go.Proofs.YtjcofiomfmebkaaGreatDoor
open Go.Proofs.Tryz
open Go.RowKit Go.AM
theorem ztZ (v:Ver) (s:Str):vk s ⟨v,false⟩=inS v s:=by
 have h1:decide (qx s.lo ⟨v,false⟩≤0)=zgg v s.lo:=by
  unfold zgg qx
  simp only
  have f:=cmpV_to.flip s.lo.v v
  have e:=cmpV_to.eq s.lo.v v
  by_cases h:vU s.lo.v v=0
  ·have h':=e.1 h
   rw[if_pos h,h']
   cases s.lo.after<;>simp
  ·have h':¬vU v s.lo.v=0:=fun x=>h (e.2 x)
   have h2:(vU v s.lo.v==0)=false:=by simpa using h'
   rw[if_neg h,h2,Bool.false_and,Bool.or_false,decide_eq_decide]
   omega
 have h2:decide (qx ⟨v,false⟩ s.hi<0)=!zgg v s.hi:=by
  unfold zgg qx
  simp only
  by_cases h:vU v s.hi.v=0
  ·rw[if_pos h,h]
   cases s.hi.after<;>simp
  ·have h2:(vU v s.hi.v==0)=false:=by simpa using h
   rw[if_neg h,h2,Bool.false_and,Bool.or_false]
   by_cases h3:vU v s.hi.v<0
   ·simp[h3];omega
   ·simp[h3];omega
 unfold vk inS
 rw[h1,h2]
noncomputable abbrev zwu:Ctx:=zC prog [(160,zG [.g jP] (FVr fun v=>int (wV v))),(163,zd false [] (FRs fun l=>int (xh l))),(164,zG [.s 11 y9,.g y8] (FRC fun l c=>boo (wG l c)))]
theorem zpt (v:Ver) (l:List Str) (hv:v.small) (hl:qK l):zg zwu f121 [.agg v.enc,.sl 11 (zN l)]=some (zeQ v l):=by
 refine zb rfl ?_
 have g1:=fun hp nx=>xI v hp nx hv
 have g2:=fun hp nx=>zhR (fun l=>int (xh l)) l hp nx hl rfl
 have g3:=fun hp nx=>Wx l ⟨v,false⟩ hp nx hl hv
 have hca:wG l ⟨v,false⟩=l.any (inS v):=by
  unfold wG
  congr 1
  funext s
  exact ztZ v s
 rw[hca] at g3
 simp only[Ver.enc,Cut.enc] at g1 g3
 by_cases c1:wV v=0
 case neg =>
  have c1':(wV v != 0)=true:=by simpa using c1
  have hw:zgi v l=(false,wV v):=by unfold zgi;rw[if_neg c1]
  simp[Ver.enc,g1,c1',zeQ,hw,qe,f121]
 by_cases c2:xh l=0
 case neg =>
  have c2':(xh l != 0)=true:=by simpa using c2
  have hw:zgi v l=(false,xh l):=by unfold zgi;rw[if_pos c1,if_neg c2]
  simp[Ver.enc,g1,c1,g2,c2',zeQ,hw,qe,f121]
 have hw:zgi v l=(l.any (inS v),0):=by unfold zgi;rw[if_pos c1,if_pos c2]
 simp[Ver.enc,g1,c1,g2,c2,zx,zR,g3,zeQ,hw,qe,f121]
theorem zmD:za prog 121 (zd false [] (FVR zeQ)) :=
 zL (fn:=f121) (zk (q:=[]) mixed ⟨yU,by simp,YP,by simp,Wu,by simp,trivial⟩:AM.Good zwu _) ⟨_,func121,by kernel_rfl,rfl,by kernel_rfl⟩ false [] _ fun args r h=>by
  obtain⟨⟨v,l⟩,rfl,⟨h1,h2⟩,rfl⟩:=ze h
  exact⟨by simp[f121],_,zpt v l h1 h2,zK _⟩
theorem JY:∀(l:List (List UInt8)) (st q:Part×Bool) (i:Nat),qS st i l=some q→q.1.has≤st.1.has+l.length
 | [],st,q,i,h=>by simp only[qS] at h;injection h with h;subst h;simp
 | t::l,st,q,i,h=>by
   simp only[qS] at h
   split at h
   ·rename_i s hs
    have:=JY l s q (i+1) h
    have hs1:s.1.has≤st.1.has+1:=by
     unfold wv at hs
     split at hs
     ·injection hs with hs;subst hs;simp;omega
     ·split at hs
      ·injection hs with hs;subst hs
       have:=(KZ st.1 i ((jJ t).getD 0)).1
       simp only[this];omega
      ·cases hs
    simp only[List.length_cons]
    omega
   ·cases h
theorem zpu {st s:Part×Bool} {i:Nat} {t:List UInt8} (hs:wv st i t=some s):s.1.has≤st.1.has+1∧(jJ t=none→s.1.has=st.1.has):=by
 unfold wv at hs
 split at hs
 ·injection hs with hs;subst hs;exact⟨by simp;omega,fun _=>rfl⟩
 ·split at hs
  ·rename_i h2
   injection hs with hs;subst hs
   have:=(KZ st.1 i ((jJ t).getD 0)).1
   exact⟨by simp only[this];omega,fun h=>by rw[h] at h2;cases h2.2⟩
  ·cases hs
theorem zmE:∀(l:List (List UInt8)) (st q:Part×Bool) (i:Nat),qS st i l=some q→(∃t∈l,jJ t=none)→q.1.has<st.1.has+l.length
 | [],_,_,_,_,h=>by obtain⟨_,h,_⟩:=h;cases h
 | t::l,st,q,i,h,ht=>by
   simp only[qS] at h
   split at h
   ·rename_i s hs
    obtain⟨h1,h2⟩:=zpu hs
    simp only[List.length_cons]
    by_cases hv:jJ t=none
    ·have:=JY l s q (i+1) h
     have:=h2 hv
     omega
    ·obtain⟨u,hu,hn⟩:=ht
     rcases List.mem_cons.1 hu with rfl | hu
     ·exact absurd hn hv
     ·have:=zmE l s q (i+1) h ⟨u,hu,hn⟩
      omega
   ·cases h
theorem zjL {p0 p1 p2:List UInt8} {a b c:Int} (h0:jJ p0=some a) (h1:jJ p1=some b) (h2:jJ p2=some c):qS (part0,false) 0 [p0,p1,p2]=some (((part0.put 0 a).put 1 b).put 2 c,false):=by
 have o0:¬qH p0=true:=fun h=>by rw[kh h] at h0;cases h0
 have o1:¬qH p1=true:=fun h=>by rw[kh h] at h1;cases h1
 have o2:¬qH p2=true:=fun h=>by rw[kh h] at h2;cases h2
 simp[qS,wv,o0,o1,o2,h0,h1,h2]
theorem zt0 {s:List UInt8} (h:(zy (Lib.cut s [45]).1 [46]).length≠3):rdV s=none:=by
 unfold rdV
 split
 ·rename_i h2;rw[h2] at h;exact absurd rfl h
 ·rfl
theorem zmF {s p0 p1 p2:List UInt8} (h:zy (Lib.cut s [45]).1 [46]=[p0,p1,p2]):rdV s=match jJ p0,jJ p1,jJ p2 with
  | some a,some b,some c=>if wV ⟨a,b,c,yb s⟩=0 then some ⟨a,b,c,yb s⟩ else none
  | _,_,_=>none:=by
 unfold rdV
 rw[h]
 rfl
theorem zhX {s:List UInt8} (h:(rvR s).2.2=true∧(rvR s).2.1=3):(zy (Lib.cut s [45]).1 [46]).length≤3∧∃st,qS (part0,false) 0 (zy (Lib.cut s [45]).1 [46])=some st∧st.1.has=3:=by
 unfold rvR at h
 split at h
 ·cases h.1
 ·rename_i hl
  refine⟨by omega,?_⟩
  split at h
  ·cases h.1
  ·rename_i st hst
   split at h
   ·cases h.1
   ·refine⟨st,hst,?_⟩
    have:=h.2
    simp only at this
    omega
theorem zt1 (s:List UInt8):rdV s=if (rvR s).2.2=true∧(rvR s).2.1=3 then some (rvR s).1 else none:=by
 by_cases h3:(zy (Lib.cut s [45]).1 [46]).length=3
 case neg =>
  rw[zt0 h3,if_neg fun h=>?_]
  obtain⟨h1,st,h2,h4⟩:=zhX h
  have:=JY _ _ _ _ h2
  have h0:part0.has=0:=rfl
  simp only[h0] at this
  omega
 obtain⟨p0,p1,p2,hl⟩:=zqR h3
 rw[zmF hl]
 by_cases hn:jJ p0=none∨jJ p1=none∨jJ p2=none
 ·rw[if_neg fun h=>?_]
  ·rcases hn with e | e | e
   ·rw[e]
   ·rw[e];cases jJ p0<;>rfl
   ·rw[e];cases jJ p0<;>cases jJ p1<;>rfl
  ·obtain⟨h1,st,h2,h4⟩:=zhX h
   rw[hl] at h2
   have:=zmE _ _ _ _ h2 (by
    rcases hn with e | e | e
    ·exact⟨p0,by simp,e⟩
    ·exact⟨p1,by simp,e⟩
    ·exact⟨p2,by simp,e⟩)
   have h0:part0.has=0:=rfl
   simp only[h0,List.length_cons,List.length_nil] at this
   omega
 ·obtain⟨a,ha⟩:=Option.ne_none_iff_exists'.1 fun e=>hn (.inl e)
  obtain⟨b,hb⟩:=Option.ne_none_iff_exists'.1 fun e=>hn (.inr (.inl e))
  obtain⟨c,hc⟩:=Option.ne_none_iff_exists'.1 fun e=>hn (.inr (.inr e))
  have ra:=jx ha
  have rb:=jx hb
  have rc:=jx hc
  have hck:wV ⟨a,b,c,yb s⟩=if 10<(yb s).length then 2 else if (yb s).any qf then 3 else 0:=by
   unfold wV
   rw[if_pos (by simp[inB];omega)]
  have hr:rvR s=if (yb s).any qf=true then (⟨a,b,c,yb s⟩,0,false) else (⟨a,b,c,yb s⟩,3,decide ((yb s).length≤10)):=by
   unfold rvR
   rw[hl,if_neg (by simp),zjL ha hb hc]
   simp[Part.put,part0]
  rw[ha,hb,hc,hr]
  simp only[hck]
  by_cases hbp:(yb s).any qf=true
  ·rw[if_pos hbp,if_pos hbp,if_neg (show ¬(if 10<(yb s).length then (2:Int) else 3)=0 by split<;>decide),if_neg (fun h=>by cases h.1)]
  ·rw[if_neg hbp,if_neg hbp]
   by_cases h10:10<(yb s).length
   ·rw[if_pos h10,if_neg (by decide),if_neg (by simp;omega)]
   ·rw[if_neg h10,if_pos rfl,if_pos (by simp;omega)]
theorem zb3 {α β:Type} (f:β→α) (c:α→α→Int):∀a b:List β,wo c (a.map f) (b.map f)=wo (fun x y=>c (f x) (f y)) a b
 | [],[]=>rfl
 | [],_::_=>rfl
 | _::_,[]=>rfl
 | x::a,y::b=>by simp only[List.map_cons,wo,zb3 f c a b]
def zsN (v:Val):Int:=if v.kind=1∨v.kind=2 then v.n else 0
def zsO (v:Val):List UInt8:=if v.kind=3 then v.s else []
def zql (v:Val):List Val:=if v.kind=4 then v.items else []
def zqm (v:Val):List (List UInt8×Val):=if v.kind=5 then v.fields else []
theorem zjM (a b:Val):zO a b=Zb (fun x y=>qI x.kind y.kind) (Zb (fun x y=>qI (zsN x) (zsN y)) (Zb (fun x y=>wW (zsO x) (zsO y)) (Zb (fun x y=>wo zO (zql x) (zql y)) fun x y=>wo wE (zqm x) (zqm y)))) a b:=by
 rw[Zy]
 unfold Zb
 by_cases hk:a.kind=b.kind
 ·have e0:qI a.kind b.kind=0:=by rw[hk];exact cmpI_to.refl _
  have z1:qI 0 0=0:=cmpI_to.refl _
  have z2:wW [] []=0:=cmpB_to.refl _
  have z3:wo zO [] []=0:=rfl
  have z4:wo wE [] []=0:=rfl
  rw[if_pos hk,if_pos e0]
  unfold zsN zsO zql zqm
  dsimp only
  by_cases h1:b.kind=1∨b.kind=2
  ·have n3:¬b.kind=3:=by omega
   have n4:¬b.kind=4:=by omega
   have n5:¬b.kind=5:=by omega
   have a1:a.kind=1∨a.kind=2:=by omega
   have a3:¬a.kind=3:=by omega
   have a4:¬a.kind=4:=by omega
   have a5:¬a.kind=5:=by omega
   simp only[if_pos h1,if_neg n3,if_neg n4,if_neg n5,if_pos a1,if_neg a3,if_neg a4,if_neg a5,z2,z3,z4,if_true]
   split
   ·rename_i h;exact h
   ·rfl
  ·have a1:¬(a.kind=1∨a.kind=2):=by omega
   simp only[if_neg h1,if_neg a1,z1,if_true]
   by_cases h3:b.kind=3
   ·have n4:¬b.kind=4:=by omega
    have n5:¬b.kind=5:=by omega
    have a3:a.kind=3:=by omega
    have a4:¬a.kind=4:=by omega
    have a5:¬a.kind=5:=by omega
    simp only[if_pos h3,if_neg n4,if_neg n5,if_pos a3,if_neg a4,if_neg a5,z3,z4,if_true]
    split
    ·rename_i h;exact h
    ·rfl
   ·have a3:¬a.kind=3:=by omega
    simp only[if_neg h3,if_neg a3,z2,if_true]
    by_cases h4:b.kind=4
    ·have n5:¬b.kind=5:=by omega
     have a4:a.kind=4:=by omega
     have a5:¬a.kind=5:=by omega
     simp only[if_pos h4,if_neg n5,if_pos a4,if_neg a5,z4]
     split
     ·rename_i h;exact h
     ·rfl
    ·have a4:¬a.kind=4:=by omega
     simp only[if_neg h4,if_neg a4,z3,if_true]
     by_cases h5:b.kind=5
     ·have a5:a.kind=5:=by omega
      simp only[if_pos h5,if_pos a5]
     ·have a5:¬a.kind=5:=by omega
      simp only[if_neg h5,if_neg a5,z4]
 ·have e0:¬qI a.kind b.kind=0:=by unfold qI;split<;>(try split)<;>omega
  rw[if_neg hk,if_neg e0]
abbrev zep (n:Nat):={v:Val // v.vb≤n}
def zr0 (n:Nat) (v:zep (n+1)):List (zep n):=(zql v.1).attach.map fun x=>⟨x.1,by
 have h1:=x.2
 unfold zql at h1
 split at h1
 ·have h2:=wA h1
  have h3:=j9 v.1
  have h4:=v.2
  omega
 ·cases h1⟩
def zr1 (n:Nat) (v:zep (n+1)):List (List UInt8×zep n):=(zqm v.1).attach.map fun x=>(x.1.1,⟨x.1.2,by
 have h1:=x.2
 unfold zqm at h1
 split at h1
 ·have h2:=yA h1
  have h3:=j9 v.1
  have h4:=v.2
  omega
 ·cases h1⟩)
theorem zhY (n:Nat) (v:zep (n+1)):(zr0 n v).map (·.1)=zql v.1:=by
 unfold zr0
 rw[List.map_map]
 exact List.attach_map_subtype_val _
theorem zhZ (n:Nat) (v:zep (n+1)):(zr1 n v).map (fun x=>(x.1,x.2.1))=zqm v.1:=by
 unfold zr1
 rw[List.map_map]
 exact List.attach_map_subtype_val _
theorem zjN (a b:List UInt8×Val):wE a b=Zb (fun x y=>wW x.1 y.1) (fun x y=>zO x.2 y.2) a b:=by
 unfold wE Zb orL
 simp only[orL]
 split
 ·split
  ·rename_i h2;rw[h2]
  ·rfl
 ·rfl
theorem zb4:∀n:Nat,TO fun a b:zep n=>zO a.1 b.1
 | 0=>⟨fun x=>absurd x.2 (by have:=Zt x.1;omega),fun x _=>absurd x.2 (by have:=Zt x.1;omega),fun x _ _=>absurd x.2 (by have:=Zt x.1;omega)⟩
 | n+1=>by
   have ih:=zb4 n
   have:(fun a b:zep (n+1)=>zO a.1 b.1)=Zb (fun x y=>qI x.1.kind y.1.kind) (Zb (fun x y=>qI (zsN x.1) (zsN y.1)) (Zb (fun x y=>wW (zsO x.1) (zsO y.1)) (Zb (fun x y=>wo (fun p q:zep n=>zO p.1 q.1) (zr0 n x) (zr0 n y)) fun x y=>wo (Zb (fun p q:List UInt8×zep n=>wW p.1 q.1) fun p q=>zO p.2.1 q.2.1) (zr1 n x) (zr1 n y)))):=by
    funext a b
    rw[zjM]
    unfold Zb
    have e1:wo zO (zql a.1) (zql b.1)=wo (fun p q:zep n=>zO p.1 q.1) (zr0 n a) (zr0 n b):=by
     rw[←zhY n a,←zhY n b,zb3]
    have e2:wo wE (zqm a.1) (zqm b.1)=wo (fun x y:List UInt8×zep n=>if wW x.1 y.1=0 then zO x.2.1 y.2.1 else wW x.1 y.1) (zr1 n a) (zr1 n b):=by
     rw[←zhZ n a,←zhZ n b,zb3]
     congr 1
     funext x y
     exact zjN _ _
    simp only[e1,e2]
   rw[this]
   exact TO.lex (cmpI_to.pull fun x:zep (n+1)=>x.1.kind) (TO.lex (cmpI_to.pull fun x:zep (n+1)=>zsN x.1) (TO.lex (cmpB_to.pull fun x:zep (n+1)=>zsO x.1) (TO.lex ((zbe ih).pull (zr0 n)) ((zbe (TO.lex (cmpB_to.pull fun p:List UInt8×zep n=>p.1) (ih.pull fun p:List UInt8×zep n=>p.2))).pull (zr1 n)))))
theorem val_to:TO zO where
 refl x:=(zb4 x.vb).refl ⟨x,Nat.le_refl _⟩
 flip x y:=(zb4 (x.vb+y.vb)).flip ⟨x,by omega⟩ ⟨y,by omega⟩
 tr x y z:=(zb4 (x.vb+y.vb+z.vb)).tr ⟨x,by omega⟩ ⟨y,by omega⟩ ⟨z,by omega⟩
def UpV (l:List Val):Prop:=l.Pairwise fun a b=>zO a b<0
theorem zr2 {l:List Val} (hl:UpV l) (v:Val):(bsV l v).2=l.any fun w=>zO v w==0:=by
 rw[Bool.eq_iff_iff,List.any_eq_true]
 constructor
 ·intro h
  unfold bsV at h
  simp only at h
  split at h
  ·rename_i x hx
   refine⟨x,List.mem_of_getElem? hx,?_⟩
   rw[beq_iff_eq] at h ⊢
   exact (val_to.eq x v).1 h
  ·cases h
 ·rintro⟨w,hw,he⟩
  rw[beq_iff_eq] at he
  have he':=(val_to.eq v w).1 he
  obtain⟨j,hj⟩:=List.getElem?_of_mem hw
  obtain⟨hjl,hje⟩:=List.getElem?_eq_some_iff.1 hj
  have hg:bsGo (VA l v) 0 l.length=j:=by
   refine KU (n:=l.length) (fun k hk=>?_) (fun k hk hkl=>?_) (Nat.zero_le _) (Nat.le_of_lt hjl) (Nat.le_refl _)
   ·have h1:=List.pairwise_iff_getElem.1 hl k j (by omega) hjl hk
    rw[hje] at h1
    have h2:zO l[k] v<0:=by
     have h3:=val_to.tr l[k] w v (by omega) (by omega)
     rcases Int.lt_or_eq_of_le h3 with h4 | h4
     ·exact h4
     ·have h5:=val_to.tr w v l[k] (by omega) (by have:=(val_to.eq l[k] v).1 h4;omega)
      have:=(val_to.flip l[k] w).1 h1
      omega
    simp[VA,show k<l.length by omega,h2]
   ·rcases Nat.lt_or_eq_of_le hk with h | rfl
    ·have h1:=List.pairwise_iff_getElem.1 hl j k hjl hkl h
     rw[hje] at h1
     have h2:¬zO l[k] v<0:=fun h3=>by
      have h4:=val_to.tr w l[k] v (by omega) (by omega)
      have h5:=val_to.tr l[k] v w (by omega) (by omega)
      have:=(val_to.flip w l[k]).1 h1
      omega
     simp[VA,hkl,h2]
    ·have h2:¬zO w v<0:=by omega
     simp[VA,hjl,hje,h2]
  unfold bsV
  simp only[hg,hj]
  rw[beq_iff_eq]
  exact he'
end Go.Proofs.YtjcofiomfmebkaaGreatDoor
