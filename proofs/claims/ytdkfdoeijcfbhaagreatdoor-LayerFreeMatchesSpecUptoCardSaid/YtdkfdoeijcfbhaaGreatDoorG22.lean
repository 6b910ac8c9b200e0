/-
Books: names, salts, times, the search for a layer and an experiment.
Books: phases, what comes too near.
The checker: its salts, its layers, its holds.
The checker: its holds.
-/
import Derived.Test.YtdkfdoeijcfbhaaGreatDoorG21
set_option maxRecDepth 8000
namespace Go.Proofs.YtdkfdoeijcfbhaaGreatDoor
open Go.Proofs.Tryz
open Go.RowKit Go.AM Go.SpanLaw
def wY (name before:List UInt8):Int:=if qj name=true then (if leB name before=true then 8 else 0) else 5
noncomputable def FSS2 (f:List UInt8→List UInt8→PV):List PV→Option PV:=zH (α:=List UInt8×List UInt8) (fun a=>[str a.1,str a.2]) (fun a=>a.1.length≤lim) (fun a=>f a.1 a.2)
theorem Ju (f:List UInt8→List UInt8→PV) (a b:List UInt8) (hp:Hp) (nx:Nat) (h:a.length≤lim) (hf:(f a b).flat=true):zd false [] (FSS2 f) [str a,str b] hp nx=some (f a b,hp,nx) :=
 zy rfl (zm (enc:=fun a:List UInt8×List UInt8=>[str a.1,str a.2]) (a:=(a,b)) za8 h) (.inl hf)
noncomputable abbrev Cnf:Ctx:=zF prog [(51,zd false [] (FS qj))]
theorem kv:za prog 216 (zd false [] (FSS2 fun a b=>int (wY a b))) :=
 zI (fn:=f216) (zk (q:=[]) mixed ⟨kG,by simp,trivial⟩:AM.Good Cnf _) ⟨_,func216,by kernel_rfl,rfl,by kernel_rfl⟩ false [] _ fun args r h=>by
  obtain⟨⟨a,b⟩,rfl,ha,rfl⟩:=ze h
  have hle:(Op.bytesLess a b||a==b)=leB a b:=rfl
  refine⟨by simp[f216],_,zb rfl ?_,zG _⟩
  simp only at ha
  cases h1:qj a
  ·simp[ha,h1,wY,f216]
  ·cases h2:leB a b
   ·simp[ha,h1,hle,h2,wY,f216]
   ·simp[ha,h1,hle,h2,wY,f216]
def Z8 (s:List UInt8):Bool:=inB s.length 1 40&&WW s
noncomputable abbrev Csl:Ctx:=zF prog [(99,zd false [] (F3 inB)),(322,zd false [] (FS WW))]
@[simp] theorem quietsl2:wn Csl 322:=qm (by rfl) (zh _ _)
theorem isSalt_sound:za prog 277 (zd false [] (FS Z8)) :=
 zI (fn:=f277) (zk (q:=[99,322]) mixed ⟨yT,fun _=>zh _ _,YV,fun _=>zh _ _,trivial⟩:AM.Good Csl _) ⟨_,func277,by kernel_rfl,rfl,by kernel_rfl⟩ false [] _ fun args r h=>by
  obtain⟨l,rfl,hp,rfl⟩:=ze h
  exact⟨by simp[f277],_,zb rfl (by simp[hp,Z8,f277]),zG _⟩
def ji (n:Int):Bool:=inB n 0 4000000000
noncomputable abbrev Ctm:Ctx:=zF prog [(99,zd false [] (F3 inB))]
theorem xN:za prog 62 (zd false [] (FIb ji)) :=
 zI (fn:=f62) (zk (q:=[]) mixed ⟨yT,by simp,trivial⟩:AM.Good Ctm _) ⟨_,func62,by kernel_rfl,rfl,by kernel_rfl⟩ false [] _ fun args r h=>by
  obtain⟨a,rfl,rfl⟩:=xK h
  exact⟨by simp[f62],_,zb rfl (by simp[ji,f62]),zG _⟩
noncomputable def zek:List PV→Option PV:=zH (α:=Lyr×List UInt8) (fun a=>[.agg a.1.enc,str a.2]) (fun _=>True) (fun a=>int (cmpB a.1.name a.2))
theorem KL (x:Lyr) (s:List UInt8) (hp:Hp) (nx:Nat):zd false [] zek [.agg x.enc,str s] hp nx=some (int (cmpB x.name s),hp,nx) :=
 zy (hp1:=hp) (show zj hp [.agg x.enc,str s]=some ([.agg x.enc,str s],hp) by simp[Lyr.enc]) (zm (enc:=fun a:Lyr×List UInt8=>[.agg a.1.enc,str a.2]) (a:=(x,s)) (fun a b e=>by
  obtain⟨a1,a2⟩:=a;obtain⟨b1,b2⟩:=b
  simp only[List.cons.injEq,and_true,PV.agg.injEq] at e
  rw[Wx e.1,zV e.2]) trivial) (.inl rfl)
noncomputable abbrev CkeyL:Ctx:=zF prog [(98,zd false [] (F2S cmpB))]
theorem keyL_sound:za prog 105 (zd false [] zek) :=
 zI (fn:=f105) (zk (q:=[]) mixed ⟨wO,by simp,trivial⟩:AM.Good CkeyL _) ⟨_,func105,by kernel_rfl,rfl,by kernel_rfl⟩ false [] _ fun args r h=>by
  obtain⟨⟨x,s⟩,rfl,_,rfl⟩:=ze h
  exact⟨by simp[f105],_,zb rfl (by simp[f105,Lyr.enc]),zG _⟩
noncomputable def FBsL:List PV→Option PV:=zH (α:=List Lyr×List UInt8) (fun a=>[.sl 3 (a.1.map Lyr.enc),str a.2,.fn (.func 105) [] []]) (fun a=>a.1.length≤lim) (fun a=>.tup [int (bsN (a.1.map Lyr.name) a.2).1,boo (bsN (a.1.map Lyr.name) a.2).2])
theorem FBsL_call (l:List Lyr) (s:List UInt8) (hp:Hp) (nx:Nat) (h:l.length≤lim):zd false [] FBsL [.sl 3 (l.map Lyr.enc),str s,.fn (.func 105) [] []] hp nx=some (.tup [int (bsN (l.map Lyr.name) s).1,boo (bsN (l.map Lyr.name) s).2],hp,nx) :=
 zy rfl (zm (enc:=fun a:List Lyr×List UInt8=>[PV.sl 3 (a.1.map Lyr.enc),str a.2,.fn (.func 105) [] []]) (a:=(l,s)) (fun a b e=>by
  obtain⟨a1,a2⟩:=a;obtain⟨b1,b2⟩:=b
  simp only[List.cons.injEq,and_true] at e
  obtain⟨e1,e2⟩:=e
  injection e1 with _ e1
  rw[qW (fun _ _=>Wx) e1,zV e2]) h) (.inl rfl)
noncomputable abbrev CbsL:Ctx:=zF prog [(105,zd false [] zek)]
theorem bsL_eval (l:List Lyr) (s:List UInt8) (hl:l.length≤lim):zi CbsL f104 [.sl 3 (l.map Lyr.enc),str s,.fn (.func 105) [] []]=some (.tup [int (bsN (l.map Lyr.name) s).1,boo (bsN (l.map Lyr.name) s).2]):=by
 refine zb rfl ?_
 unfold lim at hl
 have hln:(l.map Lyr.name).length=l.length:=by simp
 simp
 refine yM (fun st=>st.σ 0=.sl 3 (l.map Lyr.enc)∧st.σ 1=str s∧st.σ 2=.fn (.func 105) [] []∧st.σ 8=int l.length∧∃lo hi:Nat,lo≤hi∧hi≤l.length∧st.σ 9=int lo∧st.σ 10=int hi∧bsGo (ZE (l.map Lyr.name) s) 0 (l.map Lyr.name).length=bsGo (ZE (l.map Lyr.name) s) lo hi)
  (fun st=>(Yj (st.σ 10)).toNat - (Yj (st.σ 9)).toNat) ⟨by simp,by simp,by simp,by simp,0,l.length,by simp,by simp,by simp,by simp,by rw[hln]⟩ ?_
 rintro⟨σ,hp,nx⟩ ⟨h0,h1,h2,h8,lo,hi,hlh,hhi,h9,h10,he⟩
 simp only at h0 h1 h2 h8 h9 h10
 by_cases hlt:lo<hi
 ·have hcall:=fun x hp nx=>KL x s hp nx
  have w1:IntKind.i64.wrap ((lo:Int)+hi)=(lo:Int)+hi:=zc (by omega) (by omega)
  have hml:(lo+hi) / 2<l.length:=by omega
  obtain⟨m,hm⟩:∃m,m=(lo+hi) / 2:=⟨_,rfl⟩
  have hmid:IntKind.i64.wrap ((IntKind.u64.wrap ((lo:Int)+hi)).fdiv (2 ^ min 1 IntKind.u64.bits))=(m:Int):=by
   have e1:IntKind.u64.wrap ((lo:Int)+hi)=(lo:Int)+hi:=by rw[IntKind.wrap_u64];omega
   have e2:(2 ^ min 1 IntKind.u64.bits:Int)=2:=by decide
   rw[e1,e2,Int.fdiv_eq_ediv_of_nonneg _ (by omega),zc (by omega) (by omega)]
   omega
  have hml':m<l.length:=by omega
  have wm:IntKind.i64.wrap ((m:Int)+1)=(m:Int)+1:=zc (by omega) (by omega)
  have hla:ZE (l.map Lyr.name) s m=decide (cmpB l[m].name s<0):=by simp[ZE,hml']
  rw[XR (lo:=lo) hlt,←hm,hla] at he
  have hcm:=hcall l[m]
  simp only[Lyr.enc] at hcm
  by_cases hc:cmpB l[m].name s<0
  ·simp only[hc,decide_true,if_true] at he
   simp[h0,h1,h2,h8,h9,h10,hlt,w1,hmid,hml',hcm,hc,wm,Lyr.enc]
   exact⟨⟨m+1,hi,by omega,hhi,by omega,rfl,by rw[hln] at he;exact he⟩,by omega⟩
  ·simp only[hc,decide_false,Bool.false_eq_true,if_false] at he
   simp[h0,h1,h2,h8,h9,h10,hlt,w1,hmid,hml',hcm,hc,Lyr.enc]
   exact⟨⟨lo,m,by omega,by omega,rfl,rfl,by rw[hln] at he;exact he⟩,by omega⟩
 ·have he:bsGo (ZE (l.map Lyr.name) s) 0 (l.map Lyr.name).length=lo:=by rw[he,zbI (lo:=lo) hlt]
  have hcall:=fun x hp nx=>KL x s hp nx
  unfold bsN
  rw[he]
  by_cases hlo:lo<l.length
  ·have hcm:=hcall l[lo]
   simp only[Lyr.enc] at hcm
   simp[h0,h1,h2,h8,h9,h10,hlt,hlo,hcm,Lyr.enc,f104,qi]
  ·have hlo':l[lo]?=none:=List.getElem?_eq_none (by omega)
   simp[h0,h1,h2,h8,h9,h10,hlt,hlo,hlo',f104,qi]
theorem bsL_sound:za prog 104 (zd false [] FBsL) :=
 zI (fn:=f104) (zk (q:=[105]) mixed ⟨keyL_sound,fun _=>zh _ _,trivial⟩:AM.Good CbsL _) ⟨_,func104,by kernel_rfl,rfl,by kernel_rfl⟩ false [] _ fun args r h=>by
  obtain⟨⟨l,s⟩,rfl,hl,rfl⟩:=ze h
  exact⟨Nat.le_trans (Nat.le_refl 3) (by decide),_,bsL_eval l s hl,zG _⟩
noncomputable def FOfL:List PV→Option PV:=zH (α:=List Lyr×List UInt8) (fun a=>[.sl 3 (a.1.map Lyr.enc),str a.2]) (fun a=>a.1.length≤lim) (fun a=>.tup [int (bsN (a.1.map Lyr.name) a.2).1,boo (bsN (a.1.map Lyr.name) a.2).2])
theorem xO (l:List Lyr) (s:List UInt8) (hp:Hp) (nx:Nat) (h:l.length≤lim):zd false [] FOfL [.sl 3 (l.map Lyr.enc),str s] hp nx=some (.tup [int (bsN (l.map Lyr.name) s).1,boo (bsN (l.map Lyr.name) s).2],hp,nx) :=
 zy rfl (zm (enc:=fun a:List Lyr×List UInt8=>[PV.sl 3 (a.1.map Lyr.enc),str a.2]) (a:=(l,s)) (fun a b e=>by
  obtain⟨a1,a2⟩:=a;obtain⟨b1,b2⟩:=b
  simp only[List.cons.injEq,and_true] at e
  obtain⟨e1,e2⟩:=e
  injection e1 with _ e1
  rw[qW (fun _ _=>Wx) e1,zV e2]) h) (.inl rfl)
noncomputable abbrev CofL:Ctx:=zF prog [(104,zd false [] FBsL)]
theorem xP:za prog 64 (zd false [] FOfL) :=
 zI (fn:=f64) (zk (q:=[]) mixed ⟨bsL_sound,by simp,trivial⟩:AM.Good CofL _) ⟨_,func64,by kernel_rfl,rfl,by kernel_rfl⟩ false [] _ fun args r h=>by
  obtain⟨⟨l,s⟩,rfl,hl,rfl⟩:=ze h
  have hc:=fun hp nx=>FBsL_call l s hp nx hl
  exact⟨by simp[f64],_,zb rfl (by simp[hc,qi,f64]),zG _⟩
noncomputable def zel:List PV→Option PV:=zH (α:=Xp×List UInt8) (fun a=>[.agg a.1.enc,str a.2]) (fun _=>True) (fun a=>int (cmpB a.1.name a.2))
theorem KM (x:Xp) (s:List UInt8) (hp:Hp) (nx:Nat):zd false [] zel [.agg x.enc,str s] hp nx=some (int (cmpB x.name s),hp,nx) :=
 zy (hp1:=hp) (show zj hp [.agg x.enc,str s]=some ([.agg x.enc,str s],hp) by simp[zw]) (zm (enc:=fun a:Xp×List UInt8=>[.agg a.1.enc,str a.2]) (a:=(x,s)) (fun a b e=>by
  obtain⟨a1,a2⟩:=a;obtain⟨b1,b2⟩:=b
  simp only[List.cons.injEq,and_true,PV.agg.injEq] at e
  rw[xL e.1,zV e.2]) trivial) (.inl rfl)
noncomputable abbrev CkeyX:Ctx:=zF prog [(98,zd false [] (F2S cmpB))]
theorem keyX_sound:za prog 97 (zd false [] zel) :=
 zI (fn:=f97) (zk (q:=[]) mixed ⟨wO,by simp,trivial⟩:AM.Good CkeyX _) ⟨_,func97,by kernel_rfl,rfl,by kernel_rfl⟩ false [] _ fun args r h=>by
  obtain⟨⟨x,s⟩,rfl,_,rfl⟩:=ze h
  exact⟨by simp[f97],_,zb rfl (by simp[f97,zw]),zG _⟩
noncomputable def FBsX:List PV→Option PV:=zH (α:=List Xp×List UInt8) (fun a=>[.sl 13 (a.1.map Xp.enc),str a.2,.fn (.func 97) [] []]) (fun a=>a.1.length≤lim) (fun a=>.tup [int (bsN (a.1.map Xp.name) a.2).1,boo (bsN (a.1.map Xp.name) a.2).2])
theorem FBsX_call (l:List Xp) (s:List UInt8) (hp:Hp) (nx:Nat) (h:l.length≤lim):zd false [] FBsX [.sl 13 (l.map Xp.enc),str s,.fn (.func 97) [] []] hp nx=some (.tup [int (bsN (l.map Xp.name) s).1,boo (bsN (l.map Xp.name) s).2],hp,nx) :=
 zy rfl (zm (enc:=fun a:List Xp×List UInt8=>[PV.sl 13 (a.1.map Xp.enc),str a.2,.fn (.func 97) [] []]) (a:=(l,s)) (fun a b e=>by
  obtain⟨a1,a2⟩:=a;obtain⟨b1,b2⟩:=b
  simp only[List.cons.injEq,and_true] at e
  obtain⟨e1,e2⟩:=e
  injection e1 with _ e1
  rw[qW (fun _ _=>xL) e1,zV e2]) h) (.inl rfl)
noncomputable abbrev CbsX:Ctx:=zF prog [(97,zd false [] zel)]
theorem bsX_eval (l:List Xp) (s:List UInt8) (hl:l.length≤lim):zi CbsX f96 [.sl 13 (l.map Xp.enc),str s,.fn (.func 97) [] []]=some (.tup [int (bsN (l.map Xp.name) s).1,boo (bsN (l.map Xp.name) s).2]):=by
 refine zb rfl ?_
 unfold lim at hl
 have hln:(l.map Xp.name).length=l.length:=by simp
 simp
 refine yM (fun st=>st.σ 0=.sl 13 (l.map Xp.enc)∧st.σ 1=str s∧st.σ 2=.fn (.func 97) [] []∧st.σ 8=int l.length∧∃lo hi:Nat,lo≤hi∧hi≤l.length∧st.σ 9=int lo∧st.σ 10=int hi∧bsGo (ZE (l.map Xp.name) s) 0 (l.map Xp.name).length=bsGo (ZE (l.map Xp.name) s) lo hi)
  (fun st=>(Yj (st.σ 10)).toNat - (Yj (st.σ 9)).toNat) ⟨by simp,by simp,by simp,by simp,0,l.length,by simp,by simp,by simp,by simp,by rw[hln]⟩ ?_
 rintro⟨σ,hp,nx⟩ ⟨h0,h1,h2,h8,lo,hi,hlh,hhi,h9,h10,he⟩
 simp only at h0 h1 h2 h8 h9 h10
 by_cases hlt:lo<hi
 ·have hcall:=fun x hp nx=>KM x s hp nx
  have w1:IntKind.i64.wrap ((lo:Int)+hi)=(lo:Int)+hi:=zc (by omega) (by omega)
  have hml:(lo+hi) / 2<l.length:=by omega
  obtain⟨m,hm⟩:∃m,m=(lo+hi) / 2:=⟨_,rfl⟩
  have hmid:IntKind.i64.wrap ((IntKind.u64.wrap ((lo:Int)+hi)).fdiv (2 ^ min 1 IntKind.u64.bits))=(m:Int):=by
   have e1:IntKind.u64.wrap ((lo:Int)+hi)=(lo:Int)+hi:=by rw[IntKind.wrap_u64];omega
   have e2:(2 ^ min 1 IntKind.u64.bits:Int)=2:=by decide
   rw[e1,e2,Int.fdiv_eq_ediv_of_nonneg _ (by omega),zc (by omega) (by omega)]
   omega
  have hml':m<l.length:=by omega
  have wm:IntKind.i64.wrap ((m:Int)+1)=(m:Int)+1:=zc (by omega) (by omega)
  have hla:ZE (l.map Xp.name) s m=decide (cmpB l[m].name s<0):=by simp[ZE,hml']
  rw[XR (lo:=lo) hlt,←hm,hla] at he
  have hcm:=hcall l[m]
  simp only[zw] at hcm
  by_cases hc:cmpB l[m].name s<0
  ·simp only[hc,decide_true,if_true] at he
   simp[h0,h1,h2,h8,h9,h10,hlt,w1,hmid,hml',hcm,hc,wm,zw]
   exact⟨⟨m+1,hi,by omega,hhi,by omega,rfl,by rw[hln] at he;exact he⟩,by omega⟩
  ·simp only[hc,decide_false,Bool.false_eq_true,if_false] at he
   simp[h0,h1,h2,h8,h9,h10,hlt,w1,hmid,hml',hcm,hc,zw]
   exact⟨⟨lo,m,by omega,by omega,rfl,rfl,by rw[hln] at he;exact he⟩,by omega⟩
 ·have he:bsGo (ZE (l.map Xp.name) s) 0 (l.map Xp.name).length=lo:=by rw[he,zbI (lo:=lo) hlt]
  have hcall:=fun x hp nx=>KM x s hp nx
  unfold bsN
  rw[he]
  by_cases hlo:lo<l.length
  ·have hcm:=hcall l[lo]
   simp only[zw] at hcm
   simp[h0,h1,h2,h8,h9,h10,hlt,hlo,hcm,zw,f96,qi]
  ·have hlo':l[lo]?=none:=List.getElem?_eq_none (by omega)
   simp[h0,h1,h2,h8,h9,h10,hlt,hlo,hlo',f96,qi]
theorem bsX_sound:za prog 96 (zd false [] FBsX) :=
 zI (fn:=f96) (zk (q:=[97]) mixed ⟨keyX_sound,fun _=>zh _ _,trivial⟩:AM.Good CbsX _) ⟨_,func96,by kernel_rfl,rfl,by kernel_rfl⟩ false [] _ fun args r h=>by
  obtain⟨⟨l,s⟩,rfl,hl,rfl⟩:=ze h
  exact⟨Nat.le_trans (Nat.le_refl 3) (by decide),_,bsX_eval l s hl,zG _⟩
noncomputable def FOfX:List PV→Option PV:=zH (α:=List Xp×List UInt8) (fun a=>[.sl 13 (a.1.map Xp.enc),str a.2]) (fun a=>a.1.length≤lim) (fun a=>.tup [int (bsN (a.1.map Xp.name) a.2).1,boo (bsN (a.1.map Xp.name) a.2).2])
theorem FOfX_call (l:List Xp) (s:List UInt8) (hp:Hp) (nx:Nat) (h:l.length≤lim):zd false [] FOfX [.sl 13 (l.map Xp.enc),str s] hp nx=some (.tup [int (bsN (l.map Xp.name) s).1,boo (bsN (l.map Xp.name) s).2],hp,nx) :=
 zy rfl (zm (enc:=fun a:List Xp×List UInt8=>[PV.sl 13 (a.1.map Xp.enc),str a.2]) (a:=(l,s)) (fun a b e=>by
  obtain⟨a1,a2⟩:=a;obtain⟨b1,b2⟩:=b
  simp only[List.cons.injEq,and_true] at e
  obtain⟨e1,e2⟩:=e
  injection e1 with _ e1
  rw[qW (fun _ _=>xL) e1,zV e2]) h) (.inl rfl)
noncomputable abbrev CofX:Ctx:=zF prog [(96,zd false [] FBsX)]
theorem ofX_sound:za prog 61 (zd false [] FOfX) :=
 zI (fn:=f61) (zk (q:=[]) mixed ⟨bsX_sound,by simp,trivial⟩:AM.Good CofX _) ⟨_,func61,by kernel_rfl,rfl,by kernel_rfl⟩ false [] _ fun args r h=>by
  obtain⟨⟨l,s⟩,rfl,hl,rfl⟩:=ze h
  have hc:=fun hp nx=>FBsX_call l s hp nx hl
  exact⟨by simp[f61],_,zb rfl (by simp[hc,qi,f61]),zG _⟩
def KN (p:Option Int) (x:Int):Bool:=match p with
 | none=>false
 | some q=>decide (x≤q)
def phF:Option Int→List Sp→List Phs→Int
 | _,_,[]=>0
 | p,b,x::l=>if ji x.at_=true then (if KN p x.at_=true then 8 else if qa x.spans=0 then (if x.spans=b then 7 else phF (some x.at_) x.spans l) else qa x.spans) else 1
def qQ (l:List Phs):Int:=if (50:Int)<l.length then 2 else phF none [] l
def XS (l:List Phs) (k:Nat):Option Int:=if k=0 then none else (l[k - 1]?).map (·.at_)
theorem equalS2_sound:za prog 11 (zd false [2,2] (FPP (fun a b=>boo (decide (a=b))) fun a _=>a.length≤lim)) :=
 zI (fn:=f11) qA ⟨_,func11,by kernel_rfl,rfl,by kernel_rfl⟩ false [2,2] _ fun args r h=>by
  obtain⟨⟨a,b⟩,rfl,hx,rfl⟩:=ze h
  exact⟨Nat.le_trans (Nat.le_refl 2) (by decide),_,Js a b hx,zG _⟩
theorem eqS_call (a b:List Sp) (v:PV) (hp:Hp) (nx:Nat) (h:a.length≤lim) (hv:v=.sl 2 (b.map encS)∨(v=.nil∧b=[])):zd false [2,2] (FPP (fun a b=>boo (decide (a=b))) fun a _=>a.length≤lim) [.sl 2 (a.map encS),v] hp nx=some (boo (decide (a=b)),hp,nx):=by
 have hs:FPP (fun a b=>boo (decide (a=b))) (fun a _=>a.length≤lim) [.sl 2 (a.map encS),.sl 2 (b.map encS)]=some (boo (decide (a=b))) :=
  zm (enc:=fun a:List Sp×List Sp=>[PV.sl 2 (a.1.map encS),.sl 2 (a.2.map encS)]) (a:=(a,b)) (fun a b e=>by
   obtain⟨a1,a2⟩:=a;obtain⟨b1,b2⟩:=b
   simp only[List.cons.injEq,and_true] at e
   rw[wP e.1,wP e.2]) h
 rcases hv with rfl | ⟨rfl,rfl⟩
 ·exact zy rfl hs (.inl rfl)
 ·exact zy rfl hs (.inl rfl)
noncomputable abbrev Cph:Ctx:=zF prog [(62,zd false [] (FIb ji)),(281,zd false [] (FP (fun l=>int (qa l)) fun _=>True)),(11,zd false [2,2] (FPP (fun a b=>boo (decide (a=b))) fun a _=>a.length≤lim))]
theorem goodph:AM.Good Cph (fun g=>([]:List Nat).contains g):=zk mixed ⟨xN,by simp,checkSpans_sound,by simp,equalS2_sound,by simp,trivial⟩
noncomputable def FPh (out:List Phs→PV):List PV→Option PV:=zH (α:=List Phs) (fun l=>[.sl 2 (l.map Phs.enc)]) (fun l=>sumB Phs.cb l≤lim) out
theorem zbM {a b:List Phs} (h:PV.sl 2 (a.map Phs.enc)=PV.sl 2 (b.map Phs.enc)):a=b:=by
 injection h with _ h
 exact qW (fun _ _=>zc8) h
theorem zbN (out:List Phs→PV) (l:List Phs) (hp:Hp) (nx:Nat) (h:sumB Phs.cb l≤lim):zd false [] (FPh out) [.sl 2 (l.map Phs.enc)] hp nx=some (out l,hp,nx) :=
 zy rfl (zm (enc:=fun l:List Phs=>[PV.sl 2 (l.map Phs.enc)]) (a:=l) (fun a b e=>by simp only[List.cons.injEq,and_true] at e;exact zbM e) h) (.inr rfl)
theorem phases_eval (l:List Phs) (h:sumB Phs.cb l≤lim):zi Cph f220 [.sl 2 (l.map Phs.enc)]=some (int (qQ l)):=by
 have hlen:=zN jC l
 unfold lim at h
 refine zb rfl ?_
 by_cases h50:(50:Int)<l.length
 ·have hv:qQ l=2:=by unfold qQ;rw[if_pos h50]
  simp[h50,hv,f220]
 have hv:qQ l=phF none [] l:=by unfold qQ;rw[if_neg h50]
 rw[hv]
 simp[h50]
 refine zq (fun k σ hp nx=>σ 0=.sl 2 (l.map Phs.enc)∧σ 10=.sl 2 (l.map Phs.enc)∧σ 11=int l.length∧σ 12=int k∧∃b,(σ 3=.sl 2 (b.map encS)∨(σ 3=.nil∧b=[]))∧phF none [] l=phF (XS l k) b (l.drop k)) l.length
  ⟨by simp,by simp,by simp,by simp,[],.inr ⟨by simp,rfl⟩,by simp[XS]⟩ ?_
 rintro k σ hp nx hk ⟨h0,h10,h11,h12,b,hb,he⟩
 by_cases hlt:k<l.length
 ·have hm:=qt (f:=Phs.cb) (List.getElem_mem hlt)
  obtain⟨x,hx⟩:∃x,l[k]=x:=⟨_,rfl⟩
  have hpn:XS l (k+1)=some x.at_:=by simp[XS,hlt,hx]
  rw[hx] at hm
  have hmx:x.cb=1+x.spans.length:=rfl
  rw[List.drop_eq_getElem_cons hlt,hx] at he
  simp only[phF] at he
  have hke:∀h:k<(l.map Phs.enc).length,(l.map Phs.enc)[k]=x.enc:=fun h=>by simp[hx]
  have hcs:=fun hp nx=>Wv (fun l=>int (qa l)) (fun _=>True) x.spans hp nx trivial
  have heq:=fun hp nx=>eqS_call x.spans b (σ 3) hp nx (by unfold lim;omega) hb
  have hw:IntKind.i64.wrap ((k:Int)+1)=(k:Int)+1:=zc (by omega) (by omega)
  cases ht:ji x.at_
  case false =>
   rw[ht,if_neg (by simp)] at he
   simp[h0,h10,h11,h12,hlt,hx,Phs.enc,ht,he,f220]
  rw[ht,if_pos rfl] at he
  have step:∀(hp:Hp) (nx:Nat) (hpv:KN (XS l k) x.at_=false),phF none [] l=if qa x.spans=0 then (if x.spans=b then 7 else phF (some x.at_) x.spans (l.drop (k+1))) else qa x.spans:=fun _ _ hpv=>by
   rw[hpv,if_neg (by simp)] at he;exact he
  by_cases k0:k=0
  ·subst k0
   have he:=step hp nx rfl
   by_cases hs:qa x.spans=0
   case neg =>
    rw[if_neg hs] at he
    have hs2:(qa x.spans != 0)=true:=by simpa using hs
    simp[h0,h10,h11,h12,hlt,hx,Phs.enc,ht,hcs,hs2,he,f220]
   rw[if_pos hs] at he
   by_cases hq:x.spans=b
   ·rw[if_pos hq] at he
    rw[decide_eq_true hq] at heq
    simp[h0,h10,h11,h12,hlt,hx,Phs.enc,ht,hcs,hs,heq,he,f220]
   ·rw[if_neg hq] at he
    rw[decide_eq_false hq] at heq
    simp[h0,h10,h11,h12,hlt,hx,Phs.enc,ht,hcs,hs,heq,hw]
    exact⟨by omega,x.spans,rfl,by rw[he,show XS l 1=some x.at_ from hpn];simp⟩
  ·obtain⟨j,rfl⟩:∃j,k=j+1:=⟨k - 1,by omega⟩
   have hj:j<l.length:=by omega
   have wj:IntKind.i64.wrap ((j:Int)+1 - 1)=(j:Int):=by rw[zc (by omega) (by omega)];omega
   have wj':IntKind.i64.wrap (j:Int)=(j:Int):=zc (by omega) (by omega)
   have wk:IntKind.i64.wrap ((j:Int)+1+1)=(j:Int)+1+1:=zc (by omega) (by omega)
   have j1:((j:Int)+1).toNat=j+1:=by omega
   have j2:0<(j:Int)+1:=by omega
   have j3:0≤(j:Int)+1:=by omega
   have j4:(j:Int)+1<l.length:=by omega
   have hpv:KN (XS l (j+1)) x.at_=decide (x.at_≤l[j].at_):=by simp[XS,hj,KN]
   by_cases hc:x.at_≤l[j].at_
   ·rw[hpv,if_pos (by simpa using hc)] at he
    simp[h0,h10,h11,h12,hlt,hj,hx,Phs.enc,ht,wj,wj',j1,j2,j3,j4,hc,he,f220]
   have he:=step hp nx (by rw[hpv];simpa using hc)
   by_cases hs:qa x.spans=0
   case neg =>
    rw[if_neg hs] at he
    have hs2:(qa x.spans != 0)=true:=by simpa using hs
    simp[h0,h10,h11,h12,hlt,hj,hx,Phs.enc,ht,wj,wj',j1,j2,j3,j4,hc,hcs,hs2,he,f220]
   rw[if_pos hs] at he
   by_cases hq:x.spans=b
   ·rw[if_pos hq] at he
    rw[decide_eq_true hq] at heq
    simp[h0,h10,h11,h12,hlt,hj,hx,Phs.enc,ht,wj,wj',j1,j2,j3,j4,hc,hcs,hs,heq,he,f220]
   ·rw[if_neg hq] at he
    rw[decide_eq_false hq] at heq
    simp[h0,h10,h11,h12,hlt,hj,hx,Phs.enc,ht,wj,wj',wk,j1,j2,j3,j4,hc,hcs,hs,heq]
    exact⟨by omega,x.spans,rfl,by rw[he,hpn]⟩
 ·obtain rfl:k=l.length:=by omega
  rw[List.drop_length] at he
  simp only[phF] at he
  simp[h0,h10,h11,h12,he,f220]
theorem phases_sound:za prog 220 (zd false [] (FPh fun l=>int (qQ l))) :=
 zI (fn:=f220) goodph ⟨_,func220,by kernel_rfl,rfl,by kernel_rfl⟩ false [] _ fun args r h=>by
  obtain⟨l,rfl,hx,rfl⟩:=ze h
  exact⟨by simp[f220],_,phases_eval l hx,zG _⟩
def endF (l:List Phs) (i:Nat):Int:=match l[i+1]? with
 | some p=>p.at_
 | none=>1125899906842624
noncomputable def FPi2 (f:List Phs→Nat→PV):List PV→Option PV:=zH (α:=List Phs×Nat) (fun a=>[.sl 2 (a.1.map Phs.enc),int a.2]) (fun a=>a.1.length≤lim∧a.2≤lim) (fun a=>f a.1 a.2)
theorem Jv (f:List Phs→Nat→PV) (l:List Phs) (i:Nat) (hp:Hp) (nx:Nat) (h:l.length≤lim∧i≤lim):zd false [] (FPi2 f) [.sl 2 (l.map Phs.enc),int i] hp nx=some (f l i,hp,nx) :=
 zy rfl (zm (enc:=fun a:List Phs×Nat=>[PV.sl 2 (a.1.map Phs.enc),int a.2]) (a:=(l,i)) (fun a b e=>by
  obtain⟨a1,a2⟩:=a;obtain⟨b1,b2⟩:=b
  simp only[List.cons.injEq,and_true] at e
  have:=zB e.2
  rw[zbM e.1,show a2=b2 by omega]) h) (.inr rfl)
theorem XT:za prog 65 (zd false [] (FPi2 fun l i=>int (endF l i))) :=
 zI (fn:=f65) qA ⟨_,func65,by kernel_rfl,rfl,by kernel_rfl⟩ false [] _ fun args r h=>by
  obtain⟨⟨l,i⟩,rfl,⟨h1,h2⟩,rfl⟩:=ze h
  unfold lim at h1 h2
  simp only at h1 h2
  refine⟨by simp[f65],_,zb rfl ?_,zG _⟩
  have w1:IntKind.i64.wrap ((i:Int)+1)=(i:Int)+1:=zc (by omega) (by omega)
  by_cases hlt:i+1<l.length
  ·have hlt':(i:Int)+1<l.length:=by omega
   have i1:((i:Int)+1).toNat=i+1:=by omega
   have i2:0≤(i:Int)+1:=by omega
   simp[w1,hlt,hlt',i1,i2,endF,Phs.enc,f65]
  ·have hlt':¬(i:Int)+1<l.length:=by omega
   have hno:l[i+1]?=none:=List.getElem?_eq_none (by omega)
   simp[w1,hlt',endF,hno,f65]
def w7:List Sp→List Sp→Bool
 | a::l,b::m=>if a.2≤b.1 then w7 l (b::m) else if b.2≤a.1 then w7 (a::l) m else true
 | _,_=>false
termination_by a b=>a.length+b.length
theorem meets_drop {a b:List Sp} {i k:Nat} (hi:i<a.length) (hk:k<b.length):w7 (a.drop i) (b.drop k)=if a[i].2≤b[k].1 then w7 (a.drop (i+1)) (b.drop k) else if b[k].2≤a[i].1 then w7 (a.drop i) (b.drop (k+1)) else true:=by
 rw[List.drop_eq_getElem_cons hi,List.drop_eq_getElem_cons hk,w7]
theorem Jw (b:List Sp):w7 [] b=false:=by unfold w7;rfl
theorem Jy (a:List Sp):w7 a []=false:=by cases a<;>(unfold w7;rfl)
theorem meets_eval (a b:List Sp) (ha:a.length≤lim) (hb:b.length≤lim):zi C0 f283 [.sl 2 (a.map encS),.sl 2 (b.map encS)]=some (boo (w7 a b)):=by
 unfold lim at ha hb
 refine zb rfl ?_
 simp
 refine yM (fun st=>st.σ 0=.sl 2 (a.map encS)∧st.σ 1=.sl 2 (b.map encS)∧∃i k:Nat,st.σ 5=int i∧st.σ 6=int k∧i≤a.length∧k≤b.length∧w7 a b=w7 (a.drop i) (b.drop k))
  (fun st=>a.length+b.length - (Yj (st.σ 5)).toNat - (Yj (st.σ 6)).toNat) ⟨by simp,by simp,0,0,by simp,by simp,by simp,by simp,by simp⟩ ?_
 rintro⟨σ,hp,nx⟩ ⟨h0,h1,i,k,h5,h6,hi,hk,he⟩
 simp only at h0 h1 h5 h6
 by_cases hia:i<a.length
 ·by_cases hkb:k<b.length
  ·rw[meets_drop hia hkb] at he
   have wi:IntKind.i64.wrap ((i:Int)+1)=(i:Int)+1:=zc (by omega) (by omega)
   have wk:IntKind.i64.wrap ((k:Int)+1)=(k:Int)+1:=zc (by omega) (by omega)
   by_cases h2:a[i].2≤b[k].1
   ·rw[if_pos h2] at he
    simp[h0,h1,h5,h6,hia,hkb,h2,wi]
    exact⟨⟨i+1,by omega,k,rfl,by omega,hk,he⟩,by omega⟩
   ·rw[if_neg h2] at he
    by_cases h3:b[k].2≤a[i].1
    ·rw[if_pos h3] at he
     simp[h0,h1,h5,h6,hia,hkb,h2,h3,wk]
     exact⟨⟨i,rfl,k+1,by omega,hi,by omega,he⟩,by omega⟩
    ·rw[if_neg h3] at he
     simp[h0,h1,h5,h6,hia,hkb,h2,h3,he,f283]
  ·obtain rfl:k=b.length:=by omega
   rw[List.drop_length,Jy] at he
   simp[h0,h1,h5,h6,hia,he,f283]
 ·obtain rfl:i=a.length:=by omega
  rw[List.drop_length,Jw] at he
  simp[h0,h1,h5,h6,he,f283]
theorem meets_sound:za prog 283 (zd false [] (FPP (fun a b=>boo (w7 a b)) fun a b=>a.length≤lim∧b.length≤lim)) :=
 zI (fn:=f283) qA ⟨_,func283,by kernel_rfl,rfl,by kernel_rfl⟩ false [] _ fun args r h=>by
  obtain⟨⟨a,b⟩,rfl,hx,rfl⟩:=ze h
  exact⟨by simp[f283],_,meets_eval a b hx.1 hx.2,zG _⟩
def XU (a b:List Phs) (i k:Nat) (p q:Phs) (rest:Int):Bool:=(decide (p.at_≤q.at_)&&decide (q.at_<endF a i+rest))||(decide (q.at_≤p.at_)&&decide (p.at_<endF b k+rest))
def hitB (a b:List Phs) (i k:Nat) (p q:Phs) (rest:Int):Bool:=XU a b i k p q rest&&w7 p.spans q.spans
def kw (a b:List Phs) (i:Nat) (p:Phs) (rest:Int):Nat→List Phs→Bool
 | _,[]=>false
 | k,q::l=>hitB a b i k p q rest||kw a b i p rest (k+1) l
def kL (a b:List Phs) (rest:Int):Nat→List Phs→Bool
 | _,[]=>false
 | i,p::l=>kw a b i p rest 0 b||kL a b rest (i+1) l
def xa (a b:Xp) (rest:Int):Bool:=kL a.phases b.phases rest 0 a.phases
def Z9 (l:List Phs):Prop:=∀p∈l,0≤p.at_∧p.at_≤4000000000
theorem Jz {l:List Phs} (h:Z9 l) (i:Nat):0≤endF l i∧endF l i≤1125899906842624:=by
 unfold endF
 split
 ·rename_i p hp
  have:=h p (List.mem_of_getElem? hp)
  omega
 ·omega
def Xp.okC (x:Xp):Prop:=Z9 x.phases∧x.cb≤lim
noncomputable def zc9:List PV→Option PV:=zH (α:=Xp×Xp×Int) (fun a=>[.agg a.1.enc,.agg a.2.1.enc,int a.2.2]) (fun a=>a.1.okC∧a.2.1.okC∧0≤a.2.2∧a.2.2≤100000000) (fun a=>boo (xa a.1 a.2.1 a.2.2))
theorem xQ (hp:Hp) (x:Xp):zK hp (.agg x.enc)=some (.agg x.enc,hp):=by
 rw[zw]
 simp
theorem VB (x:Xp):PV.noOwn (.agg x.enc)=true:=by
 rw[zw]
 simp
theorem FClash_call (a b:Xp) (rest:Int) (hp:Hp) (nx:Nat) (h:a.okC∧b.okC∧0≤rest∧rest≤100000000):zd false [] zc9 [.agg a.enc,.agg b.enc,int rest] hp nx=some (boo (xa a b rest),hp,nx) :=
 zy (hp1:=hp) (show zj hp [.agg a.enc,.agg b.enc,int rest]=some ([.agg a.enc,.agg b.enc,int rest],hp) by simp only[zj,xQ];rfl) (zm (enc:=fun a:Xp×Xp×Int=>[.agg a.1.enc,.agg a.2.1.enc,int a.2.2]) (a:=(a,b,rest)) (fun x y e=>by
  obtain⟨x1,x2,x3⟩:=x;obtain⟨y1,y2,y3⟩:=y
  simp only[List.cons.injEq,and_true,PV.agg.injEq] at e
  rw[xL e.1,xL e.2.1,zB e.2.2]) h) (.inl rfl)
noncomputable abbrev Ccla:Ctx:=zF prog [(65,zd false [] (FPi2 fun l i=>int (endF l i))),(283,zd false [] (FPP (fun a b=>boo (w7 a b)) fun a b=>a.length≤lim∧b.length≤lim))]
theorem goodcla:AM.Good Ccla (fun g=>[65,283].contains g):=zk mixed ⟨XT,fun _=>zh _ _,meets_sound,fun _=>zh _ _,trivial⟩
@[simp] theorem quietcla1:wn Ccla 65:=qm (by rfl) (zh _ _)
@[simp] theorem quietcla2:wn Ccla 283:=qm (by rfl) (zh _ _)
theorem clash1_drop {a b:List Phs} {rest:Int} {i:Nat} {l:List Phs} (h:i<l.length):kL a b rest i (l.drop i)=(kw a b i l[i] rest 0 b||kL a b rest (i+1) (l.drop (i+1))):=by
 rw[List.drop_eq_getElem_cons h,kL]
theorem clash2_drop {a b:List Phs} {rest:Int} {i k:Nat} {p:Phs} {l:List Phs} (h:k<l.length):kw a b i p rest k (l.drop k)=(hitB a b i k p l[k] rest||kw a b i p rest (k+1) (l.drop (k+1))):=by
 rw[List.drop_eq_getElem_cons h,kw]
set_option maxHeartbeats 2000000 in
theorem clash_eval (a b:Xp) (rest:Int) (ha:a.okC) (hb:b.okC) (hr:0≤rest∧rest≤100000000):zi Ccla f223 [.agg a.enc,.agg b.enc,int rest]=some (boo (xa a b rest)):=by
 obtain⟨hta,hca⟩:=ha
 obtain⟨htb,hcb⟩:=hb
 have hla:=zN jC a.phases
 have hlb:=zN jC b.phases
 have xca:a.cb=a.name.length+a.layer.length+a.flag.length+a.cond.cb+a.salt.length+a.arms.length+sumB Phs.cb a.phases:=rfl
 have xcb:b.cb=b.name.length+b.layer.length+b.flag.length+b.cond.cb+b.salt.length+b.arms.length+sumB Phs.cb b.phases:=rfl
 unfold lim at hca hcb
 refine zb rfl ?_
 simp[zw]
 have hval:xa a b rest=kL a.phases b.phases rest 0 a.phases:=rfl
 refine zq (fun i σ hp nx=>σ 2=int rest∧σ 3=.ref 0 0 0∧σ 4=.ref 1 0 0∧σ 13=.sl 2 (a.phases.map Phs.enc)∧σ 14=int a.phases.length∧σ 15=int i∧2≤nx∧hp 0=some ⟨66,13,false,[a.enc]⟩∧hp 1=some ⟨66,13,false,[b.enc]⟩∧xa a b rest=kL a.phases b.phases rest i (a.phases.drop i)) a.phases.length
  ⟨by simp,by simp,by simp,by simp,by simp,by simp,by simp,by simp[zw],by simp[zw],by rw[hval];simp⟩ ?_
 rintro i σ hp nx hi ⟨h2,h3,h4,h13,h14,h15,hnx,b0,b1,he⟩
 by_cases hlt:i<a.phases.length
 ·obtain⟨p,hpd⟩:∃p,a.phases[i]=p:=⟨_,rfl⟩
  have hpm:=hta p (by rw[←hpd];exact List.getElem_mem hlt)
  have hsp:=qt (f:=Phs.cb) (show p∈a.phases by rw[←hpd];exact List.getElem_mem hlt)
  have hpc:p.cb=1+p.spans.length:=rfl
  rw[clash1_drop hlt,hpd] at he
  have hwi:IntKind.i64.wrap ((i:Int)+1)=(i:Int)+1:=zc (by omega) (by omega)
  have n0:¬0=nx:=by omega
  have n1:¬1=nx:=by omega
  simp[h2,h3,h4,h13,h14,h15,hlt,hpd,Phs.enc,b0,b1,n0,n1,zw]
  obtain⟨P,hP⟩:∃P,nx=P:=⟨_,rfl⟩
  rw[hP]
  have hea:=Jz hta i
  refine zq (fun k σ hp nx=>σ 2=int rest∧σ 3=.ref 0 0 0∧σ 4=.ref 1 0 0∧σ 13=.sl 2 (a.phases.map Phs.enc)∧σ 14=int a.phases.length∧σ 15=int i∧σ 7=int i∧σ 8=.ref P 0 0∧σ 21=.sl 2 (b.phases.map Phs.enc)∧σ 22=int b.phases.length∧σ 23=int k∧2≤P∧P<nx ∧
    hp 0=some ⟨66,13,false,[a.enc]⟩∧hp 1=some ⟨66,13,false,[b.enc]⟩∧hp P=some ⟨100,2,false,[p.enc]⟩∧xa a b rest=(kw a.phases b.phases i p rest k (b.phases.drop k)||kL a.phases b.phases rest (i+1) (a.phases.drop (i+1)))) b.phases.length
   ⟨by simp[h2],by simp[h3],by simp[h4],by simp[h13],by simp[h14],by simp[h15],by simp,by simp,by simp,by simp,by simp,by omega,(by show P<P+1;omega),by simp[b0,show ¬0=P by omega],by simp[b1,show ¬1=P by omega],by simp[Phs.enc],by simpa using he⟩ ?_
  clear h2 h3 h4 h13 h14 h15 hnx b0 b1 n0 n1 hP hi σ hp nx
  rintro k σ hp nx hk ⟨h2,h3,h4,h13,h14,h15,h7,h8,h21,h22,h23,hP2,hPn,b0,b1,bP,he⟩
  by_cases hltk:k<b.phases.length
  ·obtain⟨q,hqd⟩:∃q,b.phases[k]=q:=⟨_,rfl⟩
   have hqm:=htb q (by rw[←hqd];exact List.getElem_mem hltk)
   have hsq:=qt (f:=Phs.cb) (show q∈b.phases by rw[←hqd];exact List.getElem_mem hltk)
   have hqc:q.cb=1+q.spans.length:=rfl
   rw[clash2_drop hltk,hqd] at he
   have hwk:IntKind.i64.wrap ((k:Int)+1)=(k:Int)+1:=zc (by omega) (by omega)
   have heb:=Jz htb k
   have wa:IntKind.i64.wrap (endF a.phases i+rest)=endF a.phases i+rest:=zc (by omega) (by omega)
   have wb:IntKind.i64.wrap (endF b.phases k+rest)=endF b.phases k+rest:=zc (by omega) (by omega)
   have hce:=fun hp nx=>Jv (fun l i=>int (endF l i)) a.phases i hp nx ⟨by unfold lim;omega,by unfold lim;omega⟩
   have hcf:=fun hp nx=>Jv (fun l i=>int (endF l i)) b.phases k hp nx ⟨by unfold lim;omega,by unfold lim;omega⟩
   have hcm:=fun hp nx=>Zq (fun a b=>boo (w7 a b)) (fun a b=>a.length≤lim∧b.length≤lim) p.spans q.spans hp nx ⟨by unfold lim;omega,by unfold lim;omega⟩
   have n0:¬0=nx:=by omega
   have n1:¬1=nx:=by omega
   have nP:¬P=nx:=by omega
   have hnear:((decide (p.at_≤q.at_)&&decide (q.at_<endF a.phases i+rest))||(decide (q.at_≤p.at_)&&decide (p.at_<endF b.phases k+rest)))=XU a.phases b.phases i k p q rest:=rfl
   have hhit:(XU a.phases b.phases i k p q rest&&w7 p.spans q.spans)=hitB a.phases b.phases i k p q rest:=rfl
   rw[Phs.enc] at bP
   rw[zw] at b0 b1
   cases hh:hitB a.phases b.phases i k p q rest
   ·rw[hh] at he
    simp[h2,h3,h4,h7,h8,h13,h14,h15,h21,h22,h23,hltk,hqd,Phs.enc,b0,b1,bP,n0,n1,nP,hce,hcf,hcm,wa,wb,hnear,hhit,hh,hwk]
    exact⟨by omega,hP2,by omega,(zw a).symm,(zw b).symm,by rw[he];rfl⟩
   ·rw[hh] at he
    simp[h2,h3,h4,h7,h8,h13,h14,h15,h21,h22,h23,hltk,hqd,Phs.enc,b0,b1,bP,n0,n1,nP,hce,hcf,hcm,wa,wb,hnear,hhit,hh,he,f223]
  ·obtain rfl:k=b.phases.length:=by omega
   rw[List.drop_length] at he
   simp only[kw,Bool.false_or] at he
   simp[h2,h3,h4,h13,h14,h15,h21,h22,h23,hwi]
   exact⟨by omega,by omega,by rw[←zw];exact b0,by rw[←zw];exact b1,he⟩
 ·obtain rfl:i=a.phases.length:=by omega
  rw[List.drop_length] at he
  simp only[kL] at he
  simp[h2,h3,h4,h13,h14,h15,he,f223]
set_option maxRecDepth 100000 in
theorem clash_sound:za prog 223 (zd false [] zc9) :=
 zI (fn:=f223) goodcla ⟨_,func223,by kernel_rfl,rfl,by kernel_rfl⟩ false [] _ fun args r h=>by
  obtain⟨⟨a,b,rest⟩,rfl,⟨h1,h2,h3⟩,rfl⟩:=ze h
  exact⟨by simp[f223],_,clash_eval a b rest h1 h2 h3,zG _⟩
end Go.Proofs.YtdkfdoeijcfbhaaGreatDoor
namespace Go.AM
open Go.RowKit
section
variable (C:Ctx) (ρ:Operand→Option PV) (hp:Hp) (nx:Nat)
@[simp] theorem op_lookup (t:TypeId) (x i:Operand) (ok:Bool):zC C ρ hp nx (.lookup t x i ok)=(do let p ←ρ x;let q ←ρ i;let r ←xh C.P hp t p q ok;some (r,hp,nx)):=by
 simp only[zC];cases ρ x<;>cases ρ i<;>(try rfl);simp;cases xh C.P hp t _ _ ok<;>rfl
@[simp] theorem op_mapUpdate (t:TypeId) (m k x:Operand):zC C ρ hp nx (.mapUpdate t m k x)=(do let p ←ρ m;let q ←ρ k;let y ←ρ x;let h ←xi C.P hp t p q y;some (.tup [],h,nx)):=by
 simp only[zC];cases ρ m<;>cases ρ k<;>cases ρ x<;>(try rfl);simp;cases xi C.P hp t _ _ _<;>rfl
@[simp] theorem op_makeMap (t:TypeId):zC C ρ hp nx (.makeMap t none)=(do let _ ←K5 C.P t;some (.mp nx,upd hp nx (some ⟨t,0,false,[]⟩),nx+1)):=by
 simp only[zC];cases K5 C.P t<;>rfl
def zda:PV→Option PV
 | .ref id i j=>some (.ref id i j)
 | .ptr cs=>some (.ptr cs)
 | _=>none
@[simp] theorem nilCkA_ref (id i j:Nat):zda (.ref id i j)=some (.ref id i j):=rfl
@[simp] theorem nilCkA_ptr (cs:List PV):zda (.ptr cs)=some (.ptr cs):=rfl
@[simp] theorem op_nilCheck (x:Operand):zC C ρ hp nx (.nilCheck x)=(do let p ←ρ x;let r ←zda p;some (r,hp,nx)):=by
 simp only[zC]
 cases ρ x with
 | none=>rfl
 | some p=>cases p<;>rfl
end
theorem zdR {α:Type} (f:Nat→α) (k:Nat) (x:α) (h:f k=x):upd f k x=f:=by
 funext i
 by_cases e:i=k
 ·subst e;simp[h]
 ·simp[e]
@[simp] theorem cells_mp (i:Nat):PV.cells (.mp i)=[.mp i]:=rfl
@[simp] theorem isCell_mp (i:Nat):PV.isCell (.mp i)=true:=rfl
end Go.AM
namespace Go.Proofs.YtdkfdoeijcfbhaaGreatDoor
open Go.Proofs.Tryz
open Go.RowKit Go.AM Go.SpanLaw
def entM (l:List (List UInt8)):List (List PV):=l.map fun s=>[str s,boo true]
def blkM (l:List (List UInt8)):Blk:=⟨128,0,false,entM l⟩
theorem JA (s:List UInt8):∀(l:List (List UInt8)) (i:Nat),(s ∉ l→Wj (.string ⟨s.toArray⟩) (entM l) i=some none)∧(s∈l→∃j,Wj (.string ⟨s.toArray⟩) (entM l) i=some (some (j,boo true)))
 | [],i=>⟨fun _=>rfl,fun h=>by simp at h⟩
 | x::l,i=>by
   obtain⟨h1,h2⟩:=JA s l (i+1)
   by_cases he:s=x
   ·refine⟨fun h=>absurd (by simp[he]) h,fun _=>⟨i,?_⟩⟩
    subst he
    simp[entM,Wj,vF]
   ·have hk:vF (.string ⟨s.toArray⟩) (.string ⟨x.toArray⟩)=some false:=by
     simp only[vF]
     congr 1
     rw[beq_eq_false_iff_ne]
     intro e
     exact he (by simpa[ByteArray.toList_eq] using e)
    have hf:Wj (.string ⟨s.toArray⟩) (entM (x::l)) i=Wj (.string ⟨s.toArray⟩) (entM l) (i+1):=by
     simp only[entM,List.map_cons,Wj,hk]
    refine⟨fun h=>by rw[hf];exact h1 fun h'=>h (List.mem_cons_of_mem _ h'),fun h=>?_⟩
    rcases List.mem_cons.1 h with h | h
    ·exact absurd h he
    ·rw[hf];exact h2 h
@[simp] theorem mapKT_set:K5 prog 128=some (none,4):=by kernel_rfl
@[simp] theorem zeroV_bool:K6 prog 4=some (boo false):=by kernel_rfl
theorem look_set {hp:Hp} {id:Nat} {l:List (List UInt8)} (s:List UInt8) (h:hp id=some (blkM l)):xh prog hp 128 (.mp id) (str s) false=some (boo (decide (s∈l))):=by
 obtain⟨h1,h2⟩:=JA s l 0
 by_cases hm:s∈l
 ·obtain⟨j,hj⟩:=h2 hm
  simp[xh,zcA,h,blkM,VY,hj,hm]
 ·simp[xh,zcA,h,blkM,VY,h1 hm,hm]
theorem put_set {hp:Hp} {id:Nat} {l:List (List UInt8)} (s:List UInt8) (h:hp id=some (blkM l)) (hs:s ∉ l):xi prog hp 128 (.mp id) (str s) (boo true)=some (upd hp id (some (blkM (l++[s])))):=by
 obtain⟨h1,h2⟩:=JA s l 0
 simp[xi,h,blkM,VY,h1 hs]
 simp[entM]
def blkC (b:Bk) (m g:Nat) (any:Bool):Blk:=⟨130,6,false,[b.enc++[.mp m,.mp g,boo any]]⟩
theorem jD (b:Bk) (m g:Nat) (any:Bool):blkC b m g any=⟨130,6,false,[[.sl 3 (b.layers.map Lyr.enc),.sl 4 (b.holds.map Hld.enc),.sl 13 (b.exps.map Xp.enc),.mp m,.mp g,boo any]]⟩:=rfl
def wH (l:List (List UInt8)) (s:List UInt8):Int:=if Z8 s=true then (if s∈l then 7 else 0) else 3
def jv (l:List (List UInt8)) (s:List UInt8):List (List UInt8):=if wH l s=0 then l++[s] else l
noncomputable abbrev Csal:Ctx:=zF prog [(277,zd false [] (FS Z8))]
theorem goodsal:AM.Good Csal (fun g=>([]:List Nat).contains g):=zk mixed ⟨isSalt_sound,by simp,trivial⟩
set_option maxRecDepth 100000 in
theorem WA:za prog 217 (hRun Csal f217):=ql (code:=_) goodsal ⟨func217,by kernel_rfl,rfl,by kernel_rfl⟩
theorem VC (b:Bk) (l:List (List UInt8)) (s:List UInt8) (hs:s.length≤lim) (any:Bool) (hp:Hp) (nx id m g:Nat) (hc:hp id=some (blkC b m g any)) (hm:hp m=some (blkM l)) :
  hRun Csal f217 [.ref id 0 0,str s] hp nx=some (int (wH l s),upd hp m (some (blkM (jv l s))),nx):=by
 unfold hRun
 rw[if_pos (by simp[f217])]
 refine wK rfl ?_
 rw[jD] at hc
 have hl:=look_set s hm
 cases hb:Z8 s
 ·have h0:wH l s=3:=by simp[wH,hb]
  have hS:upd hp m (some (blkM (jv l s)))=hp:=zdR _ _ _ (by rw[jv,h0];exact hm)
  simp[hs,hb,h0,hS,f217]
 ·by_cases hx:s∈l
  ·have h0:wH l s=7:=by simp[wH,hb,hx]
   have hS:upd hp m (some (blkM (jv l s)))=hp:=zdR _ _ _ (by rw[jv,h0];exact hm)
   rw[decide_eq_true hx] at hl
   simp[hs,hb,h0,hS,hc,hl,f217]
  ·have h0:wH l s=0:=by simp[wH,hb,hx]
   have hS:jv l s=l++[s]:=by rw[jv,h0];rfl
   have hp:=put_set s hm hx
   rw[decide_eq_false hx] at hl
   simp[hs,hb,h0,hS,hc,hl,hp,f217]
def kW (r:PV) (l:List (List UInt8)) (m:Nat) (hp:Hp) (nx:Nat) (x:PV) (hp':Hp) (nx':Nat):Prop:=x=r∧nx≤nx'∧hp' m=some (blkM l)∧∀j,j<nx→j≠m→hp' j=hp j
def qh:List UInt8→List (List UInt8)→List Lyr→Int×List (List UInt8)
 | _,l,[]=>(0,l)
 | before,l,x::xs=>if wY x.name before=0 then (if wH l x.salt=0 then (if inB x.rest 0 100000000=true then qh x.name (jv l x.salt) xs else (1,jv l x.salt)) else (wH l x.salt,jv l x.salt)) else (wY x.name before,l)
noncomputable abbrev Clay:Ctx:=zF prog [(216,zd false [] (FSS2 fun a b=>int (wY a b))),(217,hRun Csal f217),(99,zd false [] (F3 inB))]
theorem goodlay:AM.Good Clay (fun g=>([]:List Nat).contains g):=zk mixed ⟨kv,by simp,WA,by simp,yT,by simp,trivial⟩
set_option maxRecDepth 100000 in
theorem layers_sound:za prog 150 (hRun Clay f150):=ql (code:=_) goodlay ⟨func150,by kernel_rfl,rfl,by kernel_rfl⟩
theorem layers_run (b:Bk) (l:List (List UInt8)) (hb:b.cb≤lim) (any:Bool) (hp0:Hp) (nx0 id m g:Nat) (hid:id<nx0) (hmd:m<nx0) (hne:id≠m) (hc0:hp0 id=some (blkC b m g any)) (hm0:hp0 m=some (blkM l)) :
  ∃x hp' nx',hRun Clay f150 [.ref id 0 0] hp0 nx0=some (x,hp',nx')∧kW (int (qh [] l b.layers).1) (qh [] l b.layers).2 m hp0 nx0 x hp' nx':=by
 unfold hRun
 rw[if_pos (by simp[f150])]
 refine zD rfl ?_
 have hlen:=zN jh b.layers
 have hbc:b.cb=sumB Lyr.cb b.layers+sumB Hld.cb b.holds+sumB Xp.cb b.exps:=rfl
 unfold lim at hb
 have hc:=hc0
 rw[jD] at hc
 simp[hc]
 refine zq (fun k σ hp nx=>σ 0=.ref id 0 0∧σ 12=.sl 3 (b.layers.map Lyr.enc)∧σ 13=int b.layers.length∧σ 14=int k∧nx0≤nx∧(∀j,j<nx0→j≠m→hp j=hp0 j)∧∃(before:List UInt8) (l':List (List UInt8)),σ 3=str before∧hp m=some (blkM l')∧qh [] l b.layers=qh before l' (b.layers.drop k)) b.layers.length
  ⟨by simp,by simp,by simp,by simp,Nat.le_refl _,fun _ _ _=>rfl,[],l,by simp,hm0,by simp⟩ ?_
 rintro k σ hp nx hk ⟨h0,h12,h13,h14,hnx,hfr,before,l',h3,hm,he⟩
 by_cases hlt:k<b.layers.length
 ·obtain⟨x,hx⟩:∃x,b.layers[k]=x:=⟨_,rfl⟩
  have hmx:=qt (f:=Lyr.cb) (List.getElem_mem hlt)
  rw[hx] at hmx
  have hxc:x.cb=1+x.name.length+x.salt.length:=rfl
  rw[List.drop_eq_getElem_cons hlt,hx] at he
  simp only[qh] at he
  have hw:IntKind.i64.wrap ((k:Int)+1)=(k:Int)+1:=zc (by omega) (by omega)
  have hnf:=fun hp nx=>Ju (fun a b=>int (wY a b)) x.name before hp nx (by unfold lim;omega) (by simp)
  have nm:¬m=nx:=by omega
  have ni:¬id=nx:=by omega
  have hci:upd hp nx (some ⟨74,3,false,[x.enc]⟩) id=some (blkC b m g any):=by rw[zl _ _ _ _ ni,hfr id hid hne];exact hc0
  have hmi:upd hp nx (some ⟨74,3,false,[x.enc]⟩) m=some (blkM l'):=by rw[zl _ _ _ _ nm];exact hm
  have hsr:=VC b l' x.salt (by unfold lim;omega) any _ (nx+1) id m g hci hmi
  simp only[Lyr.enc] at hsr
  have hnx':¬nx=m:=by omega
  by_cases c1:wY x.name before=0
  case neg =>
   rw[if_neg c1] at he
   have c1':(wY x.name before != 0)=true:=by simpa using c1
   simp[h0,h3,h12,h13,h14,hlt,hx,Lyr.enc,hnf,c1',f150,kW,he]
   exact⟨by omega,by rw[zl _ _ _ _ nm];exact hm,fun j hj hjm=>by rw[zl _ _ _ _ (by omega)];exact hfr j hj hjm⟩
  rw[if_pos c1] at he
  by_cases c2:wH l' x.salt=0
  case neg =>
   rw[if_neg c2] at he
   have c2':(wH l' x.salt != 0)=true:=by simpa using c2
   simp[h0,h3,h12,h13,h14,hlt,hx,Lyr.enc,hnf,c1,hsr,c2',f150,kW,he]
   exact⟨by omega,fun j hj hjm=>by rw[zl _ _ _ _ hjm,zl _ _ _ _ (by omega)];exact hfr j hj hjm⟩
  rw[if_pos c2] at he
  cases c3:inB x.rest 0 100000000
  ·rw[c3,if_neg (by simp)] at he
   simp[h0,h3,h12,h13,h14,hlt,hx,Lyr.enc,hnf,c1,hsr,c2,c3,hnx',f150,kW,he]
   exact⟨by omega,fun j hj hjm=>by rw[zl _ _ _ _ hjm,zl _ _ _ _ (by omega)];exact hfr j hj hjm⟩
  ·rw[c3,if_pos rfl] at he
   simp[h0,h3,h12,h13,h14,hlt,hx,Lyr.enc,hnf,c1,hsr,c2,c3,hnx',hw]
   exact⟨by omega,by omega,fun j hj hjm=>by rw[zl _ _ _ _ hjm,zl _ _ _ _ (by omega)];exact hfr j hj hjm,jv l' x.salt,rfl,he⟩
 ·obtain rfl:k=b.layers.length:=by omega
  rw[List.drop_length] at he
  simp only[qh] at he
  simp[h0,h12,h13,h14,f150,kW,he]
  exact⟨hnx,hm,hfr⟩
def leP (p:Option (List UInt8)) (s:List UInt8):Bool:=match p with
 | none=>false
 | some q=>leB s q
noncomputable def y9 (L:List Lyr):Option (List UInt8)→List (List UInt8)→Int
 | _,[]=>0
 | p,s::l=>if (bsN (L.map Lyr.name) s).2=true then (if leP p s=true then 8 else y9 L (some s) l) else 9
noncomputable def VD (L:List Lyr) (x:Hld):Int:=if inB x.buckets 1 100000=true then (if x.layers.length=0 then 9 else y9 L none x.layers) else 1
noncomputable def qZ (L:List Lyr):List UInt8→List (List UInt8)→List Hld→Int×List (List UInt8)
 | _,l,[]=>(0,l)
 | before,l,x::xs=>if wY x.name before=0 then (if wH l x.salt=0 then (if VD L x=0 then qZ L x.name (jv l x.salt) xs else (VD L x,jv l x.salt)) else (wH l x.salt,jv l x.salt)) else (wY x.name before,l)
def vy (l:List (List UInt8)) (k:Nat):Option (List UInt8):=if k=0 then none else l[k - 1]?
noncomputable abbrev Chol:Ctx:=zF prog [(216,zd false [] (FSS2 fun a b=>int (wY a b))),(217,hRun Csal f217),(99,zd false [] (F3 inB)),(64,zd false [] FOfL)]
theorem goodhol:AM.Good Chol (fun g=>([]:List Nat).contains g):=zk mixed ⟨kv,by simp,WA,by simp,yT,by simp,xP,by simp,trivial⟩
set_option maxRecDepth 100000 in
theorem holds_sound:za prog 151 (hRun Chol f151):=ql (code:=_) goodhol ⟨func151,by kernel_rfl,rfl,by kernel_rfl⟩
set_option maxHeartbeats 2000000 in
theorem holds_run (b:Bk) (l:List (List UInt8)) (hb:b.cb≤lim) (any:Bool) (hp0:Hp) (nx0 id m g:Nat) (hid:id<nx0) (hmd:m<nx0) (hne:id≠m) (hc0:hp0 id=some (blkC b m g any)) (hm0:hp0 m=some (blkM l)) :
  ∃x hp' nx',hRun Chol f151 [.ref id 0 0] hp0 nx0=some (x,hp',nx')∧kW (int (qZ b.layers [] l b.holds).1) (qZ b.layers [] l b.holds).2 m hp0 nx0 x hp' nx':=by
 unfold hRun
 rw[if_pos (by simp[f151])]
 refine zD rfl ?_
 have hlen:=zN Wy b.holds
 have hleL:=zN jh b.layers
 have hbc:b.cb=sumB Lyr.cb b.layers+sumB Hld.cb b.holds+sumB Xp.cb b.exps:=rfl
 unfold lim at hb
 have hc:=hc0
 rw[jD] at hc
 simp[hc]
 refine zq (fun k σ hp nx=>σ 0=.ref id 0 0∧σ 16=.sl 4 (b.holds.map Hld.enc)∧σ 17=int b.holds.length∧σ 18=int k∧nx0≤nx∧(∀j,j<nx0→j≠m→hp j=hp0 j)∧∃(before:List UInt8) (l':List (List UInt8)),σ 3=str before∧hp m=some (blkM l')∧qZ b.layers [] l b.holds=qZ b.layers before l' (b.holds.drop k)) b.holds.length
  ⟨by simp,by simp,by simp,by simp,Nat.le_refl _,fun _ _ _=>rfl,[],l,by simp,hm0,by simp⟩ ?_
 rintro k σ hp nx hk ⟨h0,h16,h17,h18,hnx,hfr,before,l',h3,hm,he⟩
 by_cases hlt:k<b.holds.length
 ·obtain⟨x,hx⟩:∃x,b.holds[k]=x:=⟨_,rfl⟩
  have hmx:=qt (f:=Hld.cb) (List.getElem_mem hlt)
  rw[hx] at hmx
  have hxc:x.cb=1+x.name.length+x.salt.length+sumB (fun s=>1+s.length) x.layers:=rfl
  have hxl:=zN (f:=fun s:List UInt8=>1+s.length) (fun _=>by omega) x.layers
  rw[List.drop_eq_getElem_cons hlt,hx] at he
  simp only[qZ] at he
  have hw:IntKind.i64.wrap ((k:Int)+1)=(k:Int)+1:=zc (by omega) (by omega)
  have hnf:=fun hp nx=>Ju (fun a b=>int (wY a b)) x.name before hp nx (by unfold lim;omega) (by simp)
  have nm:¬m=nx:=by omega
  have ni:¬id=nx:=by omega
  have hci:upd hp nx (some ⟨203,4,false,[x.enc]⟩) id=some (blkC b m g any):=by rw[zl _ _ _ _ ni,hfr id hid hne];exact hc0
  have hmi:upd hp nx (some ⟨203,4,false,[x.enc]⟩) m=some (blkM l'):=by rw[zl _ _ _ _ nm];exact hm
  have hsr:=VC b l' x.salt (by unfold lim;omega) any _ (nx+1) id m g hci hmi
  simp only[Hld.enc] at hsr
  have hnx':¬nx=m:=by omega
  by_cases c1:wY x.name before=0
  case neg =>
   rw[if_neg c1] at he
   have c1':(wY x.name before != 0)=true:=by simpa using c1
   simp[h0,h3,h16,h17,h18,hlt,hx,Hld.enc,hnf,c1',f151,kW,he]
   exact⟨by omega,by rw[zl _ _ _ _ nm];exact hm,fun j hj hjm=>by rw[zl _ _ _ _ (by omega)];exact hfr j hj hjm⟩
  rw[if_pos c1] at he
  by_cases c2:wH l' x.salt=0
  case neg =>
   rw[if_neg c2] at he
   have c2':(wH l' x.salt != 0)=true:=by simpa using c2
   simp[h0,h3,h16,h17,h18,hlt,hx,Hld.enc,hnf,c1,hsr,c2',f151,kW,he]
   exact⟨by omega,fun j hj hjm=>by rw[zl _ _ _ _ hjm,zl _ _ _ _ (by omega)];exact hfr j hj hjm⟩
  rw[if_pos c2] at he
  cases c3:inB x.buckets 1 100000
  ·have hf:VD b.layers x=1:=by unfold VD;rw[c3,if_neg (by simp)]
   rw[hf,if_neg (by decide)] at he
   simp[h0,h3,h16,h17,h18,hlt,hx,Hld.enc,hnf,c1,hsr,c2,c3,hnx',f151,kW,he]
   exact⟨by omega,fun j hj hjm=>by rw[zl _ _ _ _ hjm,zl _ _ _ _ (by omega)];exact hfr j hj hjm⟩
  by_cases c4:x.layers.length=0
  ·have hf:VD b.layers x=9:=by unfold VD;rw[c3,if_pos rfl,if_pos c4]
   rw[hf,if_neg (by decide)] at he
   have hel:(encT x.layers).length=0:=by simpa[encT] using c4
   simp[h0,h3,h16,h17,h18,hlt,hx,Hld.enc,hel,hnf,c1,hsr,c2,c3,hnx',f151,kW,he]
   exact⟨by omega,fun j hj hjm=>by rw[zl _ _ _ _ hjm,zl _ _ _ _ (by omega)];exact hfr j hj hjm⟩
  have hf:VD b.layers x=y9 b.layers none x.layers:=by unfold VD;rw[c3,if_pos rfl,if_neg c4]
  rw[hf] at he
  have c4':((x.layers.length:Int)==0)=false:=by rw[beq_eq_false_iff_ne];omega
  have hel:(encT x.layers).length=x.layers.length:=by simp[encT]
  simp[h0,h3,h16,h17,h18,hlt,hx,Hld.enc,hel,hnf,c1,hsr,c2,c3,c4',hnx']
  obtain⟨P,hP⟩:∃P,nx=P:=⟨_,rfl⟩
  rw[hP]
  refine zq (fun i σ hp nx=>σ 0=.ref id 0 0∧σ 16=.sl 4 (b.holds.map Hld.enc)∧σ 17=int b.holds.length∧σ 18=int k∧σ 5=.ref P 0 0∧σ 47=.sl 1 (encT x.layers)∧σ 48=int x.layers.length∧σ 49=int i∧nx0≤P∧P<nx∧hp P=some ⟨203,4,false,[x.enc]⟩∧(∀j,j<nx0→j≠m→hp j=hp0 j)∧hp m=some (blkM (jv l' x.salt))∧y9 b.layers none x.layers=y9 b.layers (vy x.layers i) (x.layers.drop i)) x.layers.length
   ⟨by simp[h0],by simp[h16],by simp[h17],by simp[h18],by simp,by simp,by simp,by simp,by omega,(by show P<P+1;omega),by simp[Hld.enc,show ¬P=m by omega],fun j hj hjm=>by simp only;rw[zl _ _ _ _ hjm,zl _ _ _ _ (by omega)];exact hfr j hj hjm,by simp,by simp[vy]⟩ ?_
  clear h0 h3 h16 h17 h18 hnx hfr hm hsr hci hmi hnf nm ni hnx' hP σ hp nx
  rintro i σ hp nx hi ⟨h0,h16,h17,h18,h5,h47,h48,h49,hP,hPn,hbP,hfr,hm,hh⟩
  have hci:hp id=some (blkC b m g any):=by rw[hfr id hid hne];exact hc0
  rw[jD] at hci
  by_cases hlti:i<x.layers.length
  ·obtain⟨s,hs⟩:∃s,x.layers[i]=s:=⟨_,rfl⟩
   have hms:=qt (f:=fun s:List UInt8=>1+s.length) (List.getElem_mem hlti)
   rw[hs] at hms
   have hpn:vy x.layers (i+1)=some s:=by simp[vy,hlti,hs]
   rw[List.drop_eq_getElem_cons hlti,hs] at hh
   simp only[y9] at hh
   have hke:∀h:i<(encT x.layers).length,(encT x.layers)[i]=[str s]:=fun h=>by simp[encT,hs]
   have hof:=fun hp nx=>xO b.layers s hp nx (by unfold lim;omega)
   have hwi:IntKind.i64.wrap ((i:Int)+1)=(i:Int)+1:=zc (by omega) (by omega)
   have hel:i<(encT x.layers).length:=by simp[encT,hlti]
   cases d1:(bsN (b.layers.map Lyr.name) s).2
   ·rw[d1,if_neg (by simp)] at hh
    rw[hh,if_neg (by decide)] at he
    simp[h0,h5,h16,h17,h18,h47,h48,h49,hlti,hel,hke,hci,hof,d1,he,f151,kW]
    exact⟨by omega,hm,hfr⟩
   rw[d1,if_pos rfl] at hh
   by_cases k0:i=0
   ·subst k0
    rw[show leP (vy x.layers 0) s=false from rfl,if_neg (by simp)] at hh
    simp[h0,h5,h16,h17,h18,h47,h48,h49,hlti,hel,hke,hci,hof,d1,hwi]
    exact⟨by omega,hP,hPn,hbP,hfr,hm,by rw[hh,show vy x.layers 1=some s from hpn];simp⟩
   ·obtain⟨j,rfl⟩:∃j,i=j+1:=⟨i - 1,by omega⟩
    have hj:j<x.layers.length:=by omega
    have hej:j<(encT x.layers).length:=by simp[encT,hj]
    have hkj:∀h:j<(encT x.layers).length,(encT x.layers)[j]=[str x.layers[j]]:=fun h=>by simp[encT]
    have wj:IntKind.i64.wrap ((j:Int)+1 - 1)=(j:Int):=by rw[zc (by omega) (by omega)];omega
    have wj':IntKind.i64.wrap (j:Int)=(j:Int):=zc (by omega) (by omega)
    have wk:IntKind.i64.wrap ((j:Int)+1+1)=(j:Int)+1+1:=zc (by omega) (by omega)
    have j1:((j:Int)+1).toNat=j+1:=by omega
    have j2:0<(j:Int)+1:=by omega
    have j3:0≤(j:Int)+1:=by omega
    have j4:(j:Int)+1<x.layers.length:=by omega
    have hlp:leP (vy x.layers (j+1)) s=leB s x.layers[j]:=by simp[vy,hj,leP]
    rw[hlp] at hh
    have hle:(Op.bytesLess s x.layers[j]||s==x.layers[j])=leB s x.layers[j]:=rfl
    rw[Hld.enc] at hbP
    cases d2:leB s x.layers[j]
    ·rw[d2,if_neg (by simp)] at hh
     simp[h0,h5,h16,h17,h18,h47,h48,h49,hlti,hel,hke,hci,hof,d1,wj,wj',wk,j1,j2,j3,j4,hbP,hej,hkj,hle,d2,hj]
     exact⟨by omega,hP,hPn,rfl,hfr,hm,by rw[hh,hpn]⟩
    ·rw[d2,if_pos rfl] at hh
     rw[hh,if_neg (by decide)] at he
     simp[h0,h5,h16,h17,h18,h47,h48,h49,hlti,hel,hke,hci,hof,d1,wj,wj',wk,j1,j2,j3,j4,hbP,hej,hkj,hle,d2,hj,he,f151,kW]
     exact⟨by omega,hm,hfr⟩
  ·obtain rfl:i=x.layers.length:=by omega
   rw[List.drop_length] at hh
   simp only[y9] at hh
   rw[hh,if_pos rfl] at he
   have hnP:¬P=m:=by omega
   rw[Hld.enc] at hbP
   simp[h0,h5,h16,h17,h18,h47,h48,h49,hbP,hw]
   exact⟨by omega,by omega,hfr,_,hm,he⟩
 ·obtain rfl:k=b.holds.length:=by omega
  rw[List.drop_length] at he
  simp only[qZ] at he
  simp[h0,h16,h17,h18,f151,kW,he]
  exact⟨hnx,hm,hfr⟩
end Go.Proofs.YtdkfdoeijcfbhaaGreatDoor
