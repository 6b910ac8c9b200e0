/-
value.Compare: how two values are ordered.
Cuts and stretches out of partial versions.
The range of a comparison.
-/
import Derived.Test.YtpeaooooimfihaaGreatDoorG16
import Derived.Test.YtpeaooooimfihaaGreatDoorG14
set_option maxRecDepth 8000
namespace Go.Proofs.YtpeaooooimfihaaGreatDoor
open Go.Proofs.Tryz
open Go.RowKit Go.AM
mutual
noncomputable def z8:Val→Val→Int
 | .mk k n s is fs,w=>if k=w.kind then (if k=1∨k=2 then cmpI n w.n else if k=3 then cmpB s w.s else if k=4 then cmpVals is w.items else if k=5 then cmpFlds fs w.fields else 0) else cmpI k w.kind
noncomputable def cmpVals:List Val→List Val→Int
 | [],[]=>0
 | [],_::_=>-1
 | _::_,[]=>1
 | a::xs,b::ys=>if z8 a b=0 then cmpVals xs ys else z8 a b
noncomputable def cmpFlds:List (List UInt8×Val)→List (List UInt8×Val)→Int
 | [],[]=>0
 | [],_::_=>-1
 | _::_,[]=>1
 | (x,a)::xs,g::ys=>if orL [cmpB x g.1,z8 a g.2]=0 then cmpFlds xs ys else orL [cmpB x g.1,z8 a g.2]
end
noncomputable def wt (f g:List UInt8×Val):Int:=orL [cmpB f.1 g.1,z8 f.2 g.2]
theorem cmpVals_eq:∀a b:List Val,cmpVals a b=lexL z8 a b
 | [],[]=>rfl
 | [],_::_=>rfl
 | _::_,[]=>rfl
 | a::xs,b::ys=>by simp only[cmpVals,lexL,cmpVals_eq xs ys]
theorem cmpFlds_eq:∀a b:List (List UInt8×Val),cmpFlds a b=lexL wt a b
 | [],[]=>rfl
 | [],_::_=>rfl
 | _::_,[]=>rfl
 | (x,a)::xs,g::ys=>by simp only[cmpFlds,lexL,cmpFlds_eq xs ys,wt];rfl
theorem cmpVal_eq (a b:Val):z8 a b=if a.kind=b.kind then (if a.kind=1∨a.kind=2 then cmpI a.n b.n else if a.kind=3 then cmpB a.s b.s else if a.kind=4 then lexL z8 a.items b.items else if a.kind=5 then lexL wt a.fields b.fields else 0) else cmpI a.kind b.kind:=by
 cases a with
 | mk k n s is fs =>
   cases b with
   | mk k' n' s' is' fs'=>simp only[z8,cmpVals_eq,cmpFlds_eq,Val.kind,Val.n,Val.s,Val.items,Val.fields];rfl
noncomputable def FCV (n:Nat):List PV→Option PV:=zH (α:=Val×Val) (fun a=>[.agg a.1.enc,.agg a.2.enc]) (fun a=>a.1.vb≤lim∧a.1.vb≤n∧a.2.vb≤lim) (fun a=>int (z8 a.1 a.2))
theorem vO (n:Nat) (a b:Val) (hp:Hp) (nx:Nat) (h:a.vb≤lim∧a.vb≤n∧b.vb≤lim):zf false [] (FCV n) [.agg a.enc,.agg b.enc] hp nx=some (int (z8 a b),hp,nx) :=
 zK (hp1:=hp) (show zi hp [.agg a.enc,.agg b.enc]=some ([.agg a.enc,.agg b.enc],hp) by simp only[zi,wR])
  (zn (enc:=fun a:Val×Val=>[.agg a.1.enc,.agg a.2.enc]) (a:=(a,b)) (fun x y e=>by
   obtain⟨x1,x2⟩:=x;obtain⟨y1,y2⟩:=y
   simp only[List.cons.injEq,and_true,PV.agg.injEq] at e
   rw[ky e.1,ky e.2]) h) (.inl rfl)
theorem spec_none {f:FuncId} {F:List PV→Option PV} (hfn:∃fn,prog.funcs[f]?=some fn∧(fn.name== "runtime.NumGoroutine")=false∧fn.body.isNone=false) (h:∀args r,F args=some r→False):za prog f (zf false [] F):=by
 refine⟨hfn,fun args hp nx r hp' nx' hh=>?_⟩
 unfold zf at hh
 split at hh
 ·split at hh
  ·rename_i r0 hF
   exact (h _ _ hF).elim
  ·cases hh
 ·cases hh
theorem encFd_inj {a b:List UInt8×Val} (h:encF a=encF b):a=b:=by
 obtain⟨a1,a2⟩:=a;obtain⟨b1,b2⟩:=b
 simp only[encF,List.cons.injEq] at h
 rw[qt h.1,ky h.2]
theorem encFs_inj {a b:List (List UInt8×Val)} (h:a.map encF=b.map encF):a=b:=ve (fun _ _=>encFd_inj) h
theorem encVs_inj {a b:List Val} (h:a.map Val.enc=b.map Val.enc):a=b:=ve (fun _ _=>ky) h
noncomputable abbrev Ccfv (n:Nat):Ctx:=zF prog [(45,zf false [] <| FCV n)]
theorem compareFuncV_eval (n:Nat) (a b:List (Val)) (ha:vbs a≤lim∧vbs a≤n) (hb:vbs b≤lim):zj (Ccfv n) f62 [.sl 5 (a.map Val.enc),.sl 5 (b.map Val.enc),.fn (.func 45) [] []]=some (int (lexL z8 a b)):=by
 refine zb rfl ?_
 obtain⟨ha,han⟩:=ha
 have la:=qp a
 have lb:=qp b
 unfold lim at ha hb
 simp
 refine zy (fun k σ hp nx=>σ 0=.sl 5 (a.map Val.enc)∧σ 1=.sl 5 (b.map Val.enc)∧σ 2=.fn (.func 45) [] []∧σ 11=.sl 5 (a.map Val.enc)∧σ 12=int a.length∧σ 13=int k∧k≤b.length∧lexL z8 a b=lexL z8 (a.drop k) (b.drop k)) a.length
  ⟨by simp,by simp,by simp,by simp,by simp,by simp,by simp,by simp⟩ ?_
 rintro k σ hp nx hk ⟨h0,h1,h2,h11,h12,h13,hkb,he⟩
 by_cases hlt:k<a.length
 ·have hw:IntKind.i64.wrap ((k:Int)+1)=(k:Int)+1:=zh (by omega) (by omega)
  by_cases hltb:k<b.length
  ·have hltb':¬b.length≤k:=by omega
   have ma:=q8 (List.getElem_mem hlt)
   have mb:=q8 (List.getElem_mem hltb)
   have hc:=fun hp nx=>vO n a[k] b[k] hp nx ⟨by unfold lim;omega,by omega,by unfold lim;omega⟩
   skip
   rw[List.drop_eq_getElem_cons hlt,List.drop_eq_getElem_cons hltb] at he
   simp only[lexL] at he
   by_cases hz:z8 a[k] b[k]=0
   ·rw[if_pos hz] at he
    simp[h0,h1,h2,h11,h12,h13,hlt,hltb,hltb',hc,hz,hw]
    exact⟨hlt,by omega,he⟩
   ·rw[if_neg hz] at he
    have hz':(z8 a[k] b[k] != 0)=true:=by simpa using hz
    simp[h0,h1,h2,h11,h12,h13,hlt,hltb,hltb',hc,hz',he,f62]
  ·obtain rfl:k=b.length:=by omega
   rw[List.drop_eq_getElem_cons hlt,List.drop_length] at he
   simp only[lexL] at he
   simp[h0,h1,h2,h11,h12,h13,hlt,he,f62]
 ·obtain rfl:k=a.length:=by omega
  rw[List.drop_length] at he
  by_cases hl:a.length<b.length
  ·rw[List.drop_eq_getElem_cons hl] at he
   simp only[lexL] at he
   simp[h0,h1,h2,h11,h12,h13,hl,he,f62]
  ·rw[List.drop_of_length_le (by omega)] at he
   simp only[lexL] at he
   have hl':¬((a.length:Int)<b.length):=by omega
   simp[h0,h1,h2,h11,h12,h13,hl,he,f62]
noncomputable def FLV (n:Nat):List PV→Option PV:=zH (α:=List (Val)×List (Val)) (fun a=>[.sl 5 (a.1.map Val.enc),.sl 5 (a.2.map Val.enc),.fn (.func 45) [] []]) (fun a=>(vbs a.1≤lim∧vbs a.1≤n)∧vbs a.2≤lim) (fun a=>int (lexL z8 a.1 a.2))
theorem FLV_call (n:Nat) (a b:List (Val)) (hp:Hp) (nx:Nat) (h:(vbs a≤lim∧vbs a≤n)∧vbs b≤lim):zf false [] (FLV n) [.sl 5 (a.map Val.enc),.sl 5 (b.map Val.enc),.fn (.func 45) [] []] hp nx=some (int (lexL z8 a b),hp,nx) :=
 zK (hp1:=hp) (by simp) (zn (enc:=fun a:List (Val)×List (Val)=>[PV.sl 5 (a.1.map Val.enc),.sl 5 (a.2.map Val.enc),.fn (.func 45) [] []]) (a:=(a,b)) (fun x y e=>by
   obtain⟨x1,x2⟩:=x;obtain⟨y1,y2⟩:=y
   simp only[List.cons.injEq,and_true] at e
   obtain⟨e1,e2⟩:=e
   injection e1 with _ e1
   injection e2 with _ e2
   rw[encVs_inj e1,encVs_inj e2]) h) (.inl rfl)
noncomputable def FFF (n:Nat):List PV→Option PV:=zH (α:=(List UInt8×Val)×(List UInt8×Val)) (fun a=>[.agg (encF a.1),.agg (encF a.2)]) (fun a=>(a.1.2.vb≤lim∧a.1.2.vb≤n∧a.2.2.vb≤lim)) (fun a=>int (wt a.1 a.2))
theorem FFF_call (n:Nat) (a b:List UInt8×Val) (hp:Hp) (nx:Nat) (h:a.2.vb≤lim∧a.2.vb≤n∧b.2.vb≤lim):zf false [] (FFF n) [.agg (encF a),.agg (encF b)] hp nx=some (int (wt a b),hp,nx) :=
 zK (hp1:=hp) (show zi hp [.agg (encF a),.agg (encF b)]=some ([.agg (encF a),.agg (encF b)],hp) by simp[encF])
  (zn (enc:=fun a:(List UInt8×Val)×(List UInt8×Val)=>[.agg (encF a.1),.agg (encF a.2)]) (a:=(a,b)) (fun x y e=>by
   obtain⟨x1,x2⟩:=x;obtain⟨y1,y2⟩:=y
   have e1:encF x1=encF y1∧encF x2=encF y2:=by
    simp only[List.cons.injEq,and_true,PV.agg.injEq] at e
    exact⟨List.cons.injEq .. ▸ e.1,List.cons.injEq .. ▸ e.2⟩
   rw[encFd_inj e1.1,encFd_inj e1.2]) h) (.inl rfl)
noncomputable abbrev Ccfl (n:Nat):Ctx:=zF prog [(61,zf false [] (F2S cmpB)),(45,zf false [] (FCV n)),(95,zf false [] FOr)]
theorem compareFields_eval (n:Nat) (a b:List UInt8×Val) (h:a.2.vb≤lim∧a.2.vb≤n∧b.2.vb≤lim):zj (Ccfl n) f64 [.agg (encF a),.agg (encF b)]=some (int (wt a b)):=by
 refine zb rfl ?_
 have hc:=fun hp nx=>vO n a.2 b.2 hp nx h
 have ho:∀(hp:Hp) (nx id:Nat),hp id=some ⟨3,1,true,[[int (cmpB a.1 b.1)],[int (z8 a.2 b.2)]]⟩→zf false [] FOr [.own id 0 2] hp nx=some (int (wt a b),hp,nx):=fun hp nx id hh=>or_call [_,_] hp nx id _ (by show 2≤lim;decide) hh
 simp[encF,hc,ho,zd,zl,zc,f64]
noncomputable abbrev Ccff (n:Nat):Ctx:=zF prog [(64,zf false [] <| FFF n)]
theorem compareFuncF_eval (n:Nat) (a b:List (List UInt8×Val)) (ha:fbs a≤lim∧fbs a≤n) (hb:fbs b≤lim):zj (Ccff n) f63 [.sl 6 (a.map encF),.sl 6 (b.map encF),.fn (.func 64) [] []]=some (int (lexL wt a b)):=by
 refine zb rfl ?_
 obtain⟨ha,han⟩:=ha
 have la:=qL a
 have lb:=qL b
 unfold lim at ha hb
 simp
 refine zy (fun k σ hp nx=>σ 0=.sl 6 (a.map encF)∧σ 1=.sl 6 (b.map encF)∧σ 2=.fn (.func 64) [] []∧σ 11=.sl 6 (a.map encF)∧σ 12=int a.length∧σ 13=int k∧k≤b.length∧lexL wt a b=lexL wt (a.drop k) (b.drop k)) a.length
  ⟨by simp,by simp,by simp,by simp,by simp,by simp,by simp,by simp⟩ ?_
 rintro k σ hp nx hk ⟨h0,h1,h2,h11,h12,h13,hkb,he⟩
 by_cases hlt:k<a.length
 ·have hw:IntKind.i64.wrap ((k:Int)+1)=(k:Int)+1:=zh (by omega) (by omega)
  by_cases hltb:k<b.length
  ·have hltb':¬b.length≤k:=by omega
   have ma:=yn (List.getElem_mem hlt)
   have mb:=yn (List.getElem_mem hltb)
   have hc:=fun hp nx=>FFF_call n a[k] b[k] hp nx ⟨by unfold lim;omega,by omega,by unfold lim;omega⟩
   simp only[encF] at hc
   rw[List.drop_eq_getElem_cons hlt,List.drop_eq_getElem_cons hltb] at he
   simp only[lexL] at he
   by_cases hz:wt a[k] b[k]=0
   ·rw[if_pos hz] at he
    simp[h0,h1,h2,h11,h12,h13,hlt,hltb,hltb',hc,hz,hw]
    exact⟨hlt,by omega,he⟩
   ·rw[if_neg hz] at he
    have hz':(wt a[k] b[k] != 0)=true:=by simpa using hz
    simp[h0,h1,h2,h11,h12,h13,hlt,hltb,hltb',hc,hz',he,f63]
  ·obtain rfl:k=b.length:=by omega
   rw[List.drop_eq_getElem_cons hlt,List.drop_length] at he
   simp only[lexL] at he
   simp[h0,h1,h2,h11,h12,h13,hlt,he,f63]
 ·obtain rfl:k=a.length:=by omega
  rw[List.drop_length] at he
  by_cases hl:a.length<b.length
  ·rw[List.drop_eq_getElem_cons hl] at he
   simp only[lexL] at he
   simp[h0,h1,h2,h11,h12,h13,hl,he,f63]
  ·rw[List.drop_of_length_le (by omega)] at he
   simp only[lexL] at he
   have hl':¬((a.length:Int)<b.length):=by omega
   simp[h0,h1,h2,h11,h12,h13,hl,he,f63]
noncomputable def FLF (n:Nat):List PV→Option PV:=zH (α:=List (List UInt8×Val)×List (List UInt8×Val)) (fun a=>[.sl 6 (a.1.map encF),.sl 6 (a.2.map encF),.fn (.func 64) [] []]) (fun a=>(fbs a.1≤lim∧fbs a.1≤n)∧fbs a.2≤lim) (fun a=>int (lexL wt a.1 a.2))
theorem FLF_call (n:Nat) (a b:List (List UInt8×Val)) (hp:Hp) (nx:Nat) (h:(fbs a≤lim∧fbs a≤n)∧fbs b≤lim):zf false [] (FLF n) [.sl 6 (a.map encF),.sl 6 (b.map encF),.fn (.func 64) [] []] hp nx=some (int (lexL wt a b),hp,nx) :=
 zK (hp1:=hp) (by simp) (zn (enc:=fun a:List (List UInt8×Val)×List (List UInt8×Val)=>[PV.sl 6 (a.1.map encF),.sl 6 (a.2.map encF),.fn (.func 64) [] []]) (a:=(a,b)) (fun x y e=>by
   obtain⟨x1,x2⟩:=x;obtain⟨y1,y2⟩:=y
   simp only[List.cons.injEq,and_true] at e
   obtain⟨e1,e2⟩:=e
   injection e1 with _ e1
   injection e2 with _ e2
   rw[encFs_inj e1,encFs_inj e2]) h) (.inl rfl)
noncomputable abbrev Ccmv (n:Nat):Ctx:=zF prog [(60,zf false [] (F2I cmpI)),(61,zf false [] (F2S cmpB)),(62,zf false [] (FLV n)),(63,zf false [] (FLF n))]
theorem vcompare_eval (n:Nat) (a b:Val) (h:a.vb≤lim∧a.vb≤n+1∧b.vb≤lim):zj (Ccmv n) f45 [.agg a.enc,.agg b.enc]=some (int (z8 a b)):=by
 obtain⟨h1,h2,h3⟩:=h
 have va:=kM a
 have vb:=kM b
 have hv:=fun hp nx=>FLV_call n a.items b.items hp nx ⟨⟨by omega,by omega⟩,by omega⟩
 have hf:=fun hp nx=>FLF_call n a.fields b.fields hp nx ⟨⟨by omega,by omega⟩,by omega⟩
 refine zb rfl ?_
 have hcv:=cmpVal_eq a b
 by_cases hk:a.kind=b.kind
 ·rw[if_pos hk] at hcv
  by_cases k1:a.kind=1
  ·rw[if_pos (.inl k1)] at hcv
   have kb:b.kind=1:=by omega
   simp[k1,kb,hcv,f45]
  by_cases k2:a.kind=2
  ·rw[if_pos (.inr k2)] at hcv
   have kb:b.kind=2:=by omega
   simp[k2,kb,hcv,f45]
  rw[if_neg (by omega)] at hcv
  by_cases k3:a.kind=3
  ·rw[if_pos k3] at hcv
   have kb:b.kind=3:=by omega
   simp[k3,kb,hcv,f45]
  rw[if_neg k3] at hcv
  by_cases k4:a.kind=4
  ·rw[if_pos k4] at hcv
   have kb:b.kind=4:=by omega
   simp[k4,kb,hcv,hv,f45]
  rw[if_neg k4] at hcv
  by_cases k5:a.kind=5
  ·rw[if_pos k5] at hcv
   have kb:b.kind=5:=by omega
   simp[k5,kb,hcv,hf,f45]
  rw[if_neg k5] at hcv
  have e0:(a.kind != b.kind)=false:=by simpa using hk
  have e1:(a.kind==1)=false:=by simpa using k1
  have e2:(a.kind==2)=false:=by simpa using k2
  have e3:(a.kind==3)=false:=by simpa using k3
  have e4:(a.kind==4)=false:=by simpa using k4
  have e5:(a.kind==5)=false:=by simpa using k5
  simp[e0,e1,e2,e3,e4,e5,hcv,f45]
 ·rw[if_neg hk] at hcv
  have e0:(a.kind != b.kind)=true:=by simpa using hk
  simp[e0,hcv,f45]
theorem FCV_inv {n:Nat} {args:List PV} {r:PV} (h:FCV n args=some r):∃a b:Val,args=[.agg a.enc,.agg b.enc]∧(a.vb≤lim∧a.vb≤n∧b.vb≤lim)∧r=int (z8 a b):=by
 obtain⟨⟨a,b⟩,h1,h2,h3⟩:=ze h
 exact⟨a,b,h1,h2,h3⟩
set_option maxRecDepth 100000 in
theorem vcompare_sound:∀n,za prog 45 (zf false [] (FCV n)):=by
 intro n
 induction n with
 | zero =>
   exact spec_none ⟨_,func45,by kernel_rfl,by kernel_rfl⟩ fun args r h=>by
    obtain⟨a,b,_,h2,_⟩:=FCV_inv h
    have:=xe a
    omega
 | succ n ih =>
   have g1:AM.Good (Ccfv n) (fun g=>([]:List Nat).contains g):=zm mixed ⟨ih,by simp,trivial⟩
   have s1:za prog 62 (zf false [] (FLV n)) :=
    zO (fn:=f62) g1 ⟨_,func62,by kernel_rfl,rfl,by kernel_rfl⟩ false [] _ fun args r h=>by
     obtain⟨⟨a,b⟩,rfl,⟨h1,h2⟩,rfl⟩:=ze h
     exact⟨Nat.le_trans (Nat.le_refl 3) (by decide),_,compareFuncV_eval n a b h1 h2,zM _⟩
   have g2:AM.Good (Ccfl n) (fun g=>[61,45,95].contains g):=zm mixed ⟨yE,fun _=>zg _ _,ih,fun _=>zg _ _,or_sound,fun _=>zg _ _,trivial⟩
   have s2:za prog 64 (zf false [] (FFF n)) :=
    zO (fn:=f64) g2 ⟨_,func64,by kernel_rfl,rfl,by kernel_rfl⟩ false [] _ fun args r h=>by
     obtain⟨⟨a,b⟩,rfl,h1,rfl⟩:=ze h
     exact⟨Nat.le_trans (Nat.le_refl 2) (by decide),_,compareFields_eval n a b h1,zM _⟩
   have g3:AM.Good (Ccff n) (fun g=>([]:List Nat).contains g):=zm mixed ⟨s2,by simp,trivial⟩
   have s3:za prog 63 (zf false [] (FLF n)) :=
    zO (fn:=f63) g3 ⟨_,func63,by kernel_rfl,rfl,by kernel_rfl⟩ false [] _ fun args r h=>by
     obtain⟨⟨a,b⟩,rfl,⟨h1,h2⟩,rfl⟩:=ze h
     exact⟨Nat.le_trans (Nat.le_refl 3) (by decide),_,compareFuncF_eval n a b h1 h2,zM _⟩
   have g4:AM.Good (Ccmv n) (fun g=>([]:List Nat).contains g):=zm mixed ⟨yX,by simp,yE,by simp,s1,by simp,s3,by simp,trivial⟩
   exact zO (fn:=f45) g4 ⟨_,func45,by kernel_rfl,rfl,by kernel_rfl⟩ false [] _ fun args r h=>by
    obtain⟨a,b,rfl,h1,rfl⟩:=FCV_inv h
    exact⟨Nat.le_trans (Nat.le_refl 2) (by decide),_,vcompare_eval n a b h1,zM _⟩
end Go.Proofs.YtpeaooooimfihaaGreatDoor
namespace Go.AM
open Go.RowKit
def vm (shs:List Sh) (F:List PV→Option PV):AM.Spec:=zf true [] fun args=>F (fixL shs args)
theorem pureK_sound {C:Ctx} {pf:FuncId→Bool} {f:FuncId} {fn:Func} (hg:AM.Good C pf) (hk:KnownF C pf f fn) (shs:List Sh) (F:List PV→Option PV)
  (hF:∀args r,F args=some r→args.length≤fn.ntmps∧∃r0,zj C fn args=some r0∧Stands r0 r):za C.P f (vm shs F) :=
 xN hg hk true [] _ fun args r h w S vs hz=>by
  obtain⟨h1,r0,h2,h3⟩:=hF _ _ h
  exact⟨fixL shs args,r0,vI hz,h1,h2,h3⟩
theorem hPureK_v {shs:List Sh} {F:List PV→Option PV} {args:List PV} {hp hp1:Hp} {nx:Nat} {ys:List PV} {r:PV} (h1:zi hp args=some (ys,hp1)) (h2:F (fixL shs ys)=some r) (h3:(r.flat=true∨args.all PV.noOwn=true)→hp1=hp) :
  vm shs F args hp nx=some (r,hp1,nx):=by
 have hn:ql [] ys=ys:=by cases ys<;>rfl
 unfold vm zf
 simp only[h1,hn,h2]
 split
 ·rename_i h;rw[h3 h]
 ·simp
theorem hPureK_box (shs:List Sh) (F:List PV→Option PV):kr (vm shs F):=by
 intro args hp nx r hp' nx' h
 unfold vm zf at h
 split at h
 ·rename_i ys hp1 hf
  split at h
  ·split at h
   ·injection h with h;injection h with _ h;injection h with h1 h2;subst h1;subst h2
    exact⟨Nat.le_refl _,fun id blk _ h1 _=>h1⟩
   ·split at h
    ·injection h with h;injection h with _ h;injection h with h1 h2;subst h1;subst h2
     exact⟨Nat.le_refl _,fun id blk _ h1 h2=>xd hf h1 h2⟩
    ·cases h
  ·cases h
 ·cases h
def yc (P:Program) (l:Tab) (k:Nat) (D:List (Tmp×Tmp)) (L:List Tmp) (b:List Nat):Ctx:=⟨P,lookup l,fun i=>if i=k then D else [],fun i=>if i=k then L else [],fun g=>b.contains g,fun _=>[],fun _=>none⟩
@[simp] theorem mkCtxDL_P (P:Program) (l:Tab) (k:Nat) (D:List (Tmp×Tmp)) (L:List Tmp) (b:List Nat):(yc P l k D L b).P=P:=rfl
@[simp] theorem call_mkDL (P:Program) (l:Tab) (k:Nat) (D:List (Tmp×Tmp)) (L:List Tmp) (b:List Nat) (hp:Hp) (nx g:Nat) (x y xs:List PV):qN (yc P l k D L b) hp nx (some (.fn (.func g) x y)) xs=(lookup l g).bind fun s=>s (x++xs++y) hp nx:=by
 unfold qN yc
 simp only
 cases lookup l g<;>rfl
@[simp] theorem EvC_region_mkDL (P:Program) (l:Tab) (k:Nat) (D:List (Tmp×Tmp)) (L:List Tmp) (b:List Nat) (i:Nat) (ops:Array Oper) (d:Bool) (st:St) (K:Exit→St→Prop) (h:¬i=k):EvC (yc P l k D L b) (.region i ops d) st K=EvL (yc P l k D L b) ops ops.toList st (normK K) :=
 vF _ i ops d st K (by simp[yc,h]) (by simp[yc,h])
theorem qC {P:Program} {l:Tab} {k:Nat} {D:List (Tmp×Tmp)} {L:List Tmp} {b:List Nat} {ops:Array Oper} {d:Bool} {st:St} {K:Exit→St→Prop} (h:v6 D st) (h2:RefsA L st):EvC (yc P l k D L b) (.region k ops d) st K=EvL (yc P l k D L b) ops ops.toList st (normK K) :=
 kv _ k ops d st K (by simpa[yc] using h) (by simpa[yc] using h2)
theorem good_ofDL {P:Program} {l:Tab} {q:List Nat} {k:Nat} {D:List (Tmp×Tmp)} {L:List Tmp} {b:List Nat} (hm:P.follows .mixedOrders=true) (h:AllD True P q l) (hb:AllBox b l):AM.Good (yc P l k D L b) (fun g=>q.contains g) :=
 let g:=good_ofL (k:=k) (L:=L) hm h hb
 ⟨g.spec,g.quiet,g.mixed,g.box,fun _ _ h=>by cases h⟩
end Go.AM
namespace Go.Proofs.YtpeaooooimfihaaGreatDoor
open Go.Proofs.Tryz
open Go.RowKit Go.AM
def ar3 (a b c:Int):PV:=.agg [int a,int b,int c]
noncomputable def FVer:List PV→Option PV:=zH (α:=Int×Int×Int×List (List UInt8)) (fun a=>[ar3 a.1 a.2.1 a.2.2.1,.sl 1 (encT a.2.2.2)]) (fun _=>True) (fun a=>.agg (⟨a.1,a.2.1,a.2.2.1,a.2.2.2⟩:Ver).enc)
theorem ver_inj:∀a b:Int×Int×Int×List (List UInt8),[ar3 a.1 a.2.1 a.2.2.1,.sl 1 (encT a.2.2.2)]=[ar3 b.1 b.2.1 b.2.2.1,.sl 1 (encT b.2.2.2)]→a=b:=by
 rintro⟨a1,a2,a3,a4⟩ ⟨b1,b2,b3,b4⟩ e
 simp only[ar3,List.cons.injEq,and_true] at e
 obtain⟨e1,e2⟩:=e
 injection e1 with e1
 simp only[List.cons.injEq,and_true] at e1
 obtain⟨e1,e3,e4⟩:=e1
 injection e2 with _ e2
 rw[zG e1,zG e3,zG e4,w8 e2]
theorem version_eval (a b c:Int) (p:List (List UInt8)):zj C0 f146 [ar3 a b c,.sl 1 (encT p)]=some (.agg (⟨a,b,c,p⟩:Ver).enc):=by
 refine zb rfl ?_
 simp[ar3,Ver.enc,zw,zJ,qi,f146]
theorem kB:za prog 146 (vm [.a,.s 1 []] FVer) :=
 pureK_sound (fn:=f146) wT ⟨_,func146,by kernel_rfl,rfl,by kernel_rfl⟩ _ _ fun args r h=>by
  obtain⟨⟨a,b,c,p⟩,rfl,_,rfl⟩:=ze h
  exact⟨by simp[f146],_,version_eval a b c p,Stands.refl _⟩
theorem vn (a b c:Int) (p:List (List UInt8)) (y z:PV) (hp hp1:Hp) (nx:Nat) (hy:zA hp y=some (z,hp1)) (hz:n1 1 z=.sl 1 (encT p)) (hn:y.noOwn=true→hp1=hp):vm [.a,.s 1 []] FVer [ar3 a b c,y] hp nx=some (.agg (⟨a,b,c,p⟩:Ver).enc,hp1,nx) :=
 hPureK_v (ys:=[ar3 a b c,z]) (by
  have h0:zA hp (ar3 a b c)=some (ar3 a b c,hp):=by simp[ar3]
  simp only[zi,h0,hy]) (by
  have:(Sh.s 1 []).fix z=.sl 1 (encT p):=by
   cases z with
   | sl m es=>simp only[n1] at hz;simp only[Sh.fix];rw[←hz];congr 1;exact (List.map_congr_left (fun c _=>by cases c<;>rfl)).trans (List.map_id _)
   | _=>exact hz
  show FVer [ar3 a b c,(Sh.s 1 []).fix z]=_
  rw[this]
  exact zn (enc:=fun a:Int×Int×Int×List (List UInt8)=>[ar3 a.1 a.2.1 a.2.2.1,.sl 1 (encT a.2.2.2)]) (a:=(a,b,c,p)) ver_inj trivial) (by simpa[ar3,Ver.enc] using hn)
def leastC:Cut:=⟨⟨0,0,0,[[48]]⟩,false⟩
noncomputable def xn (r:PV):List PV→Option PV:=zH (α:=Unit) (fun _=>[]) (fun _=>True) (fun _=>r)
theorem yY (r:PV) (hp:Hp) (nx:Nat):zC [] (xn r) [] hp nx=some (r,hp,nx):=wy (show zi hp []=some ([],hp) from rfl) (zn (enc:=fun _:Unit=>[]) (a:=()) (fun _ _ _=>rfl) trivial) (.inr rfl)
theorem least_eval:zj C0 f102 []=some (.agg leastC.enc):=by
 refine zb rfl ?_
 simp[leastC,Cut.enc,encT,str,zw,zJ,zd,zl,zc,qi,f102]
theorem least_sound:za prog 102 (zC [] (xn (.agg leastC.enc))) :=
 zP (fn:=f102) wT ⟨_,func102,by kernel_rfl,rfl,by kernel_rfl⟩ _ _ fun args r h=>by
  obtain⟨_,rfl,_,rfl⟩:=ze h
  exact⟨by simp[f102],_,least_eval,Stands.refl _⟩
structure Str where
 lo:Cut
 hi:Cut
 endless:Bool
def Str.enc (s:Str):List PV:=s.lo.enc++s.hi.enc++[boo s.endless]
def cut0:Cut:=⟨⟨0,0,0,[]⟩,false⟩
abbrev spat:List (Option Nat):=[none,none,none,some 1,none,none,none,none,some 1,none,none]
def qn (c:Cut):Str:=⟨c,cut0,true⟩
def betw (a b:Cut):Str:=⟨a,b,false⟩
def encR (l:List Str):List (List PV):=l.map Str.enc
def everyP:PV:=.sl 11 (encR [qn leastC])
noncomputable abbrev Cev:Ctx:=zF prog [(102,zC [] (xn (.agg leastC.enc)))]
theorem goodev:AM.Good Cev (fun g=>([]:List Nat).contains g):=zm mixed ⟨least_sound,by simp,trivial⟩
theorem everything_eval:∃r0,zj Cev f67 []=some r0∧Stands r0 everyP:=by
 refine jx (sh:=.s 11 spat) rfl ?_
 simp[yY,leastC,Cut.enc,encT,str,zw,zJ,zd,zl,zc,pureF,everyP,encR,qn,Str.enc,cut0,f67]
theorem kL:za prog 67 (zC [] (xn everyP)) :=
 zP (fn:=f67) goodev ⟨_,func67,by kernel_rfl,rfl,by kernel_rfl⟩ _ _ fun args r h=>by
  obtain⟨_,rfl,_,rfl⟩:=ze h
  obtain⟨r0,h1,h2⟩:=everything_eval
  exact⟨by simp[f67],r0,h1,h2⟩
theorem penc_inj {a b:Part} (h:a.enc=b.enc):a=b:=by
 obtain⟨a1,a2,a3,a4,a5⟩:=a
 obtain⟨b1,b2,b3,b4,b5⟩:=b
 simp only[Part.enc,List.cons.injEq,and_true] at h
 obtain⟨h1,h2,h3,h4,h5⟩:=h
 injection h5 with _ h5
 rw[zG h1,zG h2,zG h3,zG h4,w8 h5]
def Part.ok (p:Part):Prop:=(0≤p.n0∧p.n0≤999999)∧(0≤p.n1∧p.n1≤999999)∧(0≤p.n2∧p.n2≤999999)∧(1≤p.has∧p.has≤3)∧wJ p.pre
noncomputable def FPa (f:Part→PV):List PV→Option PV:=zH (α:=Part) (fun p=>[.agg p.enc]) Part.ok f
theorem FPa_call (f:Part→PV) (p:Part) (u:PV) (hp:Hp) (nx:Nat) (h:p.ok) (hu:(Sh.g ppat).fix u=.agg p.enc) (hf:zA hp u=some (u,hp)) (hn:u.noOwn=true):zC [.g ppat] (FPa f) [u] hp nx=some (f p,hp,nx) :=
 wy (show zi hp [u]=some ([u],hp) by simp only[zi,hf]) (by
  show FPa f [(Sh.g ppat).fix u]=_
  rw[hu]
  exact zn (enc:=fun p:Part=>[PV.agg p.enc]) (a:=p) (fun a b e=>by simp only[List.cons.injEq,and_true] at e;injection e with e;exact penc_inj e) h) (.inr (by rw[List.all_cons,hn];rfl))
noncomputable def FPt (f:Part→PV):List PV→Option PV:=zH (α:=Part) (fun p=>[.agg p.enc]) (fun _=>True) f
theorem FPt_call (f:Part→PV) (p:Part) (hp:Hp) (nx:Nat):zC [.g ppat] (FPt f) [.agg p.enc] hp nx=some (f p,hp,nx) :=
 wy (show zi hp [.agg p.enc]=some ([.agg p.enc],hp) by simp[Part.enc]) (by
  show FPt f [(Sh.g ppat).fix (.agg p.enc)]=_
  rw[show (Sh.g ppat).fix (.agg p.enc)=.agg p.enc by simp[Part.enc]]
  exact zn (enc:=fun p:Part=>[PV.agg p.enc]) (a:=p) (fun a b e=>by simp only[List.cons.injEq,and_true] at e;injection e with e;exact penc_inj e) trivial) (.inr (by simp[Part.enc]))
def lowC (p:Part):Cut:=⟨⟨p.n0,p.n1,p.n2,p.pre⟩,false⟩
noncomputable abbrev Clo:Ctx:=zF prog [(146,vm [.a,.s 1 []] FVer)]
theorem goodlo:AM.Good Clo (fun g=>([]:List Nat).contains g):=zm mixed ⟨kB,by simp,trivial⟩
theorem low_eval (p:Part):zj Clo f103 [.agg p.enc]=some (.agg (lowC p).enc):=by
 obtain⟨a,b,c,d,e⟩:=p
 refine zb rfl ?_
 have hv:=fun hp nx=>vn a b c e (.sl 1 (encT e)) (.sl 1 (encT e)) hp hp nx (by simp) rfl (fun _=>rfl)
 simp[ar3] at hv
 simp[Part.enc,hv,lowC,Cut.enc,Ver.enc,zw,zJ,qi,f103]
theorem low_sound:za prog 103 (zC [.g ppat] (FPt fun p=>.agg (lowC p).enc)) :=
 zP (fn:=f103) goodlo ⟨_,func103,by kernel_rfl,rfl,by kernel_rfl⟩ _ _ fun args r h=>by
  obtain⟨p,rfl,_,rfl⟩:=ze h
  exact⟨by simp[f103],_,low_eval p,Stands.refl _⟩
def qB (p:Part):Nat→Cut
 | 0=>⟨⟨p.n0+1,0,0,[[48]]⟩,false⟩
 | 1=>⟨⟨p.n0,p.n1+1,0,[[48]]⟩,false⟩
 | _=>⟨⟨p.n0,p.n1,p.n2+1,[[48]]⟩,false⟩
def wE (p:Part):Nat→Bool
 | 0=>decide (p.n0+1≤999999)
 | 1=>decide (p.n1+1≤999999)
 | _=>decide (p.n2+1≤999999)
def wu (p:Part) (i:Nat):PV:=.tup [.agg (qB p i).enc,boo (wE p i)]
noncomputable abbrev Crsd:Ctx:=yc prog [(146,vm [.a,.s 1 []] FVer)] 7 [(6,4),(28,4)] [4,6,28] [146]
theorem goodrsd:AM.Good Crsd (fun g=>([]:List Nat).contains g):=good_ofDL mixed ⟨kB,by simp,trivial⟩ ⟨fun _=>hPureK_box _ _,trivial⟩
theorem j8 (st:St):v6 [] st:=fun _ h=>by cases h
theorem zX {a b:Tmp} {D:List (Tmp×Tmp)} {st:St} (h:apart1 st a b) (hD:v6 D st):v6 ((a,b)::D) st:=fun p hp=>by
 rcases List.mem_cons.1 hp with rfl | hp
 ·exact h
 ·exact hD p hp
theorem vP (st:St):RefsA [] st:=fun _ h=>by cases h
theorem wK {s:Tmp} {L:List Tmp} {st:St} {id i j:Nat} {blk:Blk} (h:st.σ s=.ref id i j) (hn:id<st.nx) (hb:st.hp id=some blk) (ha:blk.arr=false) (hL:RefsA L st):RefsA (s::L) st:=fun t ht=>by
 rcases List.mem_cons.1 ht with rfl | ht
 ·refine⟨fun id' o n e=>(by rw[h] at e;cases e),fun id' i' j' e=>?_⟩
  rw[h] at e
  injection e with e _ _
  subst e
  exact⟨hn,blk,hb,ha⟩
 ·exact hL t ht
theorem q9 {s:Tmp} {L:List Tmp} {st:St} {x:List PV} (h:st.σ s=.tup x) (hL:RefsA L st):RefsA (s::L) st:=fun t ht=>by
 rcases List.mem_cons.1 ht with rfl | ht
 ·exact⟨fun id' o n e=>(by rw[h] at e;cases e),fun id' i' j' e=>(by rw[h] at e;cases e)⟩
 ·exact hL t ht
theorem j9 {a b:Tmp} {st:St} {id i j id' i' j':Nat} {blk:Blk} (h1:st.σ a=.ref id i j) (h2:st.σ b=.ref id' i' j') (h3:id≠id') (h4:st.hp id'=some blk) (h5:blk.arr=false):apart1 st a b:=by
 intro id0 i0 j0 e0
 rw[h1] at e0
 injection e0 with e0 _ _
 subst e0
 exact⟨id',i',j',blk,h2,h3,h4,h5⟩
theorem qF {a b:Tmp} {st:St} {x:List PV} (h1:st.σ a=.tup x):apart1 st a b:=by
 intro id0 i0 j0 e0
 rw[h1] at e0
 cases e0
theorem raised_eval (p:Part) (i:Nat) (hi:i<3) (hp:p.ok):∃r0,zj Crsd f106 [.agg p.enc,int i]=some r0∧Stands r0 (wu p i):=by
 obtain⟨a,b,c,d,e⟩:=p
 obtain⟨⟨a1,a2⟩,⟨b1,b2⟩,⟨c1,c2⟩,_⟩:=hp
 simp only at a1 a2 b1 b2 c1 c2
 refine qe (sh:=.g cpat) rfl ?_
 have wa:IntKind.i64.wrap (a+1)=a+1:=zh (by omega) (by omega)
 have wb:IntKind.i64.wrap (b+1)=b+1:=zh (by omega) (by omega)
 have wc:IntKind.i64.wrap (c+1)=c+1:=zh (by omega) (by omega)
 have hv:∀(a b c:Int) (hp:Hp) (nx id:Nat),hp id=some ⟨9,1,true,[[str [48]]]⟩→vm [.a,.s 1 []] FVer [ar3 a b c,.own id 0 1] hp nx=some (.agg (⟨a,b,c,[[48]]⟩:Ver).enc,upd hp id none,nx):=fun a b c hp nx id hh=>vn a b c [[48]] (.own id 0 1) (.sl 1 [[str [48]]]) hp (upd hp id none) nx (by simp[hh]) rfl (fun h=>by cases h)
 simp[ar3,str] at hv
 rcases (by omega:i=0∨i=1∨i=2) with rfl | rfl | rfl
 ·simp[Part.enc,wa]
  rw[zk]
  simp
  rw[zk]
  simp
  rw[zk]
  simp
  rw[qC (zX (j9 (by simp;exact⟨rfl,rfl,rfl⟩) (by simp;exact⟨rfl,rfl,rfl⟩) (by omega) (by simp;rfl) rfl) (zX (qF (by simp;rfl)) (j8 _)))
   (wK (by simp;exact⟨rfl,rfl,rfl⟩) (by simp) (by simp;rfl) rfl (wK (by simp;exact⟨rfl,rfl,rfl⟩) (by simp) (by simp;rfl) rfl (q9 (by simp;rfl) (vP _))))]
  simp[hv,zw,zJ,zd,zl,zc,zx,wu,qB,wE,Cut.enc,Ver.enc,f106]
 ·simp[Part.enc,wb]
  rw[zk]
  simp
  rw[zk]
  simp
  rw[qC (zX (j9 (by simp;exact⟨rfl,rfl,rfl⟩) (by simp;exact⟨rfl,rfl,rfl⟩) (by omega) (by simp;rfl) rfl) (zX (qF (by simp;rfl)) (j8 _)))
   (wK (by simp;exact⟨rfl,rfl,rfl⟩) (by simp) (by simp;rfl) rfl (wK (by simp;exact⟨rfl,rfl,rfl⟩) (by simp) (by simp;rfl) rfl (q9 (by simp;rfl) (vP _))))]
  simp[hv,zw,zJ,zd,zl,zc,zx,wu,qB,wE,Cut.enc,Ver.enc,f106]
 ·simp[Part.enc,wc]
  rw[zk]
  simp
  rw[qC (zX (j9 (by simp;exact⟨rfl,rfl,rfl⟩) (by simp;exact⟨rfl,rfl,rfl⟩) (by omega) (by simp;rfl) rfl) (zX (qF (by simp;rfl)) (j8 _)))
   (wK (by simp;exact⟨rfl,rfl,rfl⟩) (by simp) (by simp;rfl) rfl (wK (by simp;exact⟨rfl,rfl,rfl⟩) (by simp) (by simp;rfl) rfl (q9 (by simp;rfl) (vP _))))]
  simp[hv,zw,zJ,zd,zl,zc,zx,wu,qB,wE,Cut.enc,Ver.enc,f106]
noncomputable def FPi (f:Part→Nat→PV):List PV→Option PV:=zH (α:=Part×Nat) (fun a=>[.agg a.1.enc,int a.2]) (fun a=>a.1.ok∧a.2<3) (fun a=>f a.1 a.2)
theorem pi_inj:∀a b:Part×Nat,[PV.agg a.1.enc,int a.2]=[PV.agg b.1.enc,int b.2]→a=b:=by
 rintro⟨a1,a2⟩ ⟨b1,b2⟩ e
 simp only[List.cons.injEq,and_true] at e
 obtain⟨e1,e2⟩:=e
 injection e1 with e1
 have:=zG e2
 rw[penc_inj e1,show a2=b2 by omega]
theorem FPi_call (f:Part→Nat→PV) (p:Part) (i:Nat) (u:PV) (hp:Hp) (nx:Nat) (h:p.ok) (hi:i<3) (hu:(Sh.g ppat).fix u=.agg p.enc) (hf:zA hp u=some (u,hp)) (hn:u.noOwn=true):zC [.g ppat] (FPi f) [u,int i] hp nx=some (f p i,hp,nx) :=
 wy (show zi hp [u,int i]=some ([u,int i],hp) by simp only[zi,hf];rfl) (by
  show FPi f [(Sh.g ppat).fix u,int i]=_
  rw[hu]
  exact zn (enc:=fun a:Part×Nat=>[PV.agg a.1.enc,int a.2]) (a:=(p,i)) pi_inj ⟨h,hi⟩) (.inr (by rw[List.all_cons,hn];rfl))
theorem raised_sound:za prog 106 (zC [.g ppat] (FPi wu)) :=
 zP (fn:=f106) goodrsd ⟨_,func106,by kernel_rfl,rfl,by kernel_rfl⟩ _ _ fun args r h=>by
  obtain⟨⟨p,i⟩,rfl,⟨h1,h2⟩,rfl⟩:=ze h
  obtain⟨r0,h3,h4⟩:=raised_eval p i h2 h1
  exact⟨by simp[f106],r0,h3,h4⟩
def yh (p:Part):Cut:=if p.has<3 then qB p (p.has - 1).toNat else ⟨⟨p.n0,p.n1,p.n2,p.pre⟩,true⟩
def kC (p:Part):Bool:=if p.has<3 then wE p (p.has - 1).toNat else true
def highP (p:Part):PV:=.tup [.agg (yh p).enc,boo (kC p)]
noncomputable abbrev Chi:Ctx:=zF prog [(146,vm [.a,.s 1 []] FVer),(106,zC [.g ppat] (FPi wu))]
theorem goodhi:AM.Good Chi (fun g=>([]:List Nat).contains g):=zm mixed ⟨kB,by simp,raised_sound,by simp,trivial⟩
@[simp] theorem enc_frz (p:Part) (hp:Hp):zA hp (.agg p.enc)=some (.agg p.enc,hp):=by simp[Part.enc]
theorem high_eval (p:Part) (hp:p.ok):zj Chi f105 [.agg p.enc]=some (highP p):=by
 have hok:=hp
 obtain⟨_,_,_,⟨h1,h2⟩,_⟩:=hp
 refine zb rfl ?_
 have hr:=fun hp nx=>FPi_call wu p (p.has - 1).toNat (.agg p.enc) hp nx hok (by omega) (by simp[Part.enc]) (enc_frz p hp) (by simp[Part.enc])
 have e1:(((p.has - 1).toNat:Nat):Int)=p.has - 1:=by omega
 have hw:IntKind.i64.wrap (p.has - 1)=p.has - 1:=zh (by omega) (by omega)
 rw[e1] at hr
 have hv:=fun hp nx=>vn p.n0 p.n1 p.n2 p.pre (.sl 1 (encT p.pre)) (.sl 1 (encT p.pre)) hp hp nx (by simp) rfl (fun _=>rfl)
 simp[ar3] at hv
 simp only[Part.enc] at hr
 by_cases h3:p.has<3
 ·simp[Part.enc,h3,hr,hw,highP,yh,kC,wu,Cut.enc,qi,f105]
 ·simp[Part.enc,h3,hv,highP,yh,kC,Cut.enc,Ver.enc,zw,zJ,qi,f105]
theorem high_sound:za prog 105 (zC [.g ppat] (FPa highP)) :=
 zP (fn:=f105) goodhi ⟨_,func105,by kernel_rfl,rfl,by kernel_rfl⟩ _ _ fun args r h=>by
  obtain⟨p,rfl,h1,rfl⟩:=ze h
  exact⟨by simp[f105],_,high_eval p h1,Stands.refl _⟩
noncomputable def btw (a b:Cut):List Str:=if 0≤cmpC a b then [] else [betw a b]
noncomputable def btwP (a b:Cut):PV:=.sl 11 (encR (btw a b))
noncomputable abbrev Cbt:Ctx:=zF prog [(108,zC [.g cpat,.g cpat] (FCC fun v w=>int (cmpC v w)))]
theorem goodbt:AM.Good Cbt (fun g=>([]:List Nat).contains g):=zm mixed ⟨yp,by simp,trivial⟩
theorem between_eval (x y:Cut) (hx:x.v.small) (hy:y.v.small):∃r0,zj Cbt f104 [.agg x.enc,.agg y.enc]=some r0∧Stands r0 (btwP x y):=by
 refine jx (sh:=.s 11 spat) rfl ?_
 have hc:=fun hp nx=>cc_call x y (.agg x.enc) (.agg y.enc) hp nx (by simp[Cut.enc]) (by simp[Cut.enc]) (by simp[Cut.enc]) hx hy
 simp only[Cut.enc] at hc
 by_cases h:0≤cmpC x y
 ·simp[Cut.enc,hc,h,pureF,btwP,btw,encR,f104]
 ·simp[Cut.enc,hc,h,zw,zJ,zd,zl,zc,pureF,btwP,btw,encR,betw,Str.enc,f104]
theorem between_sound:za prog 104 (zC [.g cpat,.g cpat] (FCC btwP)) :=
 zP (fn:=f104) goodbt ⟨_,func104,by kernel_rfl,rfl,by kernel_rfl⟩ _ _ fun args r h=>by
  obtain⟨⟨v,w⟩,rfl,⟨h1,h2⟩,rfl⟩:=ze h
  obtain⟨r0,h3,h4⟩:=between_eval v w h1 h2
  exact⟨by simp[f104],r0,h3,h4⟩
structure Cpn where
 sign:List UInt8
 p:Part
 tu:Part
def Cpn.enc (c:Cpn):List PV:=[str c.sign,int c.p.n0,int c.p.n1,int c.p.n2,int c.p.has,.sl 1 (encT c.p.pre),int c.tu.n0,int c.tu.n1,int c.tu.n2,int c.tu.has,.sl 1 (encT c.tu.pre)]
abbrev mpat:List (Option Nat):=[none,none,none,none,none,some 1,none,none,none,none,some 1]
theorem cpenc_inj {a b:Cpn} (h:a.enc=b.enc):a=b:=by
 obtain⟨a0,⟨a1,a2,a3,a4,a5⟩,⟨a6,a7,a8,a9,a10⟩⟩:=a
 obtain⟨b0,⟨b1,b2,b3,b4,b5⟩,⟨b6,b7,b8,b9,b10⟩⟩:=b
 simp only[Cpn.enc,List.cons.injEq,and_true] at h
 obtain⟨h0,h1,h2,h3,h4,h5,h6,h7,h8,h9,h10⟩:=h
 injection h5 with _ h5
 injection h10 with _ h10
 rw[qt h0,zG h1,zG h2,zG h3,zG h4,w8 h5,zG h6,zG h7,zG h8,zG h9,w8 h10]
def qX:List UInt8:=[97,108,108]
def Cpn.ok (c:Cpn):Prop:=c.sign.length≤lim∧(c.sign=qX∨(c.p.ok∧(c.sign=[45]→c.tu.ok)))
def qU (p:Part):Nat:=if 1<p.has∧p.n0=0 then (if 2<p.has∧p.n1=0 then 2 else 1) else 0
theorem caretI_lt (p:Part):qU p<3:=by unfold qU;split<;>(try split)<;>omega
noncomputable def strS (c:Cpn):List Str×Bool :=
 if c.sign=qX then ([qn leastC],true)
 else if c.sign=[62,61] then ([qn (lowC c.p)],true)
 else if c.sign=[60] then (btw leastC (lowC c.p),true)
 else if c.sign=[62] then ([qn (yh c.p)],kC c.p)
 else if c.sign=[60,61] then (btw leastC (yh c.p),kC c.p)
 else if c.sign=[45] then (btw (lowC c.p) (yh c.tu),kC c.tu)
 else if c.sign=[126] then (btw (lowC c.p) (qB c.p (min (c.p.has - 1) 1).toNat),wE c.p (min (c.p.has - 1) 1).toNat)
 else if c.sign=[94] then (btw (lowC c.p) (qB c.p (qU c.p)),wE c.p (qU c.p))
 else (btw (lowC c.p) (yh c.p),kC c.p)
noncomputable def strP (c:Cpn):PV:=.tup [.sl 11 (encR (strS c).1),boo (strS c).2]
def lowP (p:Part):PV:=.agg (lowC p).enc
def leastP:PV:=.agg leastC.enc
noncomputable abbrev Cstt:Ctx:=zF prog [(103,zC [.g ppat] (FPt lowP)),(105,zC [.g ppat] (FPa highP)),(106,zC [.g ppat] (FPi wu)),(102,zC [] (xn leastP)),(67,zC [] (xn everyP)),(104,zC [.g cpat,.g cpat] (FCC btwP))]
theorem goodstt:AM.Good Cstt (fun g=>[102,104].contains g):=zm mixed ⟨low_sound,by simp,high_sound,by simp,raised_sound,by simp,least_sound,fun _=>qq _ _,kL,by simp,between_sound,fun _=>qq _ _,trivial⟩
theorem small0:leastC.v.small:=⟨by decide,fun p hp=>by simp[leastC] at hp;subst hp;decide⟩
theorem vo (p:Part) (i:Nat):(qB p i).v.small:=by
 have h:(qB p i).v.pre=[[48]]:=by unfold qB;split<;>rfl
 exact⟨by rw[h];decide,fun q hq=>by rw[h] at hq;simp at hq;subst hq;decide⟩
theorem yz {p:Part} (h:wJ p.pre):(lowC p).v.small:=h
theorem yZ {p:Part} (h:wJ p.pre):(yh p).v.small:=by
 unfold yh
 split
 ·exact vo _ _
 ·exact h
theorem cutfix (c:Cut):(Sh.g cpat).fix (.agg c.enc)=.agg c.enc:=by simp[Cut.enc]
theorem cutfrz (c:Cut) (hp:Hp):zA hp (.agg c.enc)=some (.agg c.enc,hp):=by simp[Cut.enc]
theorem jM (x y:Cut) (hp:Hp) (nx:Nat) (h1:x.v.small) (h2:y.v.small):zC [.g cpat,.g cpat] (FCC btwP) [.agg x.enc,.agg y.enc] hp nx=some (btwP x y,hp,nx) :=
 wy (show zi hp [.agg x.enc,.agg y.enc]=some ([.agg x.enc,.agg y.enc],hp) by simp only[zi,cutfrz]) (by
  show FCC _ [(Sh.g cpat).fix (.agg x.enc),(Sh.g cpat).fix (.agg y.enc)]=_
  rw[cutfix,cutfix]
  exact zn (enc:=fun a:Cut×Cut=>[PV.agg a.1.enc,.agg a.2.enc]) (a:=(x,y)) cc_inj ⟨h1,h2⟩) (.inr (by simp[Cut.enc]))
theorem stretches_eval (c:Cpn) (hc:c.ok):∃r0,zj Cstt f68 [.agg c.enc]=some r0∧Stands r0 (strP c):=by
 obtain⟨sign,p,tu⟩:=c
 obtain⟨_,hc⟩:=hc
 simp only at hc
 refine qe (sh:=.s 11 spat) rfl ?_
 have hlo:=fun hp nx=>FPt_call lowP p hp nx
 have hle:∀(hp:Hp) (nx:Nat),zC [] (xn leastP) [] hp nx=some (.agg [int leastC.v.a,int leastC.v.b,int leastC.v.c,.sl 1 (encT leastC.v.pre),boo leastC.after],hp,nx):=fun hp nx=>yY _ hp nx
 have hev:∀(hp:Hp) (nx:Nat),zC [] (xn everyP) [] hp nx=some (.sl 11 (encR [qn leastC]),hp,nx):=fun hp nx=>yY _ hp nx
 simp only[lowP,Part.enc,Cut.enc] at hlo
 by_cases s0:sign=qX
 ·subst s0
  simp[Cpn.enc,hlo,hev,qX,zx,strP,strS,encR,qn,Str.enc,Cut.enc,cut0,f68]
 obtain⟨hp,ht⟩:=hc.resolve_left s0
 have hsm:wJ p.pre:=hp.2.2.2.2
 have e0:(sign==[97,108,108])=false:=by simpa[qX] using s0
 by_cases s1:sign=[62,61]
 ·subst s1
  simp[Cpn.enc,hlo,e0,zw,zJ,zd,zl,zc,qX,zx,strP,strS,encR,qn,Str.enc,Cut.enc,cut0,f68]
 have e1:(sign==[62,61])=false:=by simpa using s1
 have hb1:=fun hp nx=>jM leastC (lowC p) hp nx small0 (yz hsm)
 have hb2:=fun hp nx=>jM leastC (yh p) hp nx small0 (yZ hsm)
 have hhi:=fun hp' nx=>FPa_call highP p (.agg p.enc) hp' nx hp (by simp[Part.enc]) (enc_frz p hp') (by simp[Part.enc])
 simp only[btwP,highP,Part.enc,Cut.enc] at hb1 hb2 hhi
 by_cases s2:sign=[60]
 ·subst s2
  simp[Cpn.enc,hlo,hle,hb1,e0,e1,qX,zx,strP,strS,encR,Str.enc,Cut.enc,f68]
 have e2:(sign==[60])=false:=by simpa using s2
 by_cases s3:sign=[62]
 ·subst s3
  simp[Cpn.enc,hlo,hhi,e0,e1,e2,zw,zJ,zd,zl,zc,qX,zx,strP,strS,encR,qn,Str.enc,Cut.enc,cut0,f68]
 have e3:(sign==[62])=false:=by simpa using s3
 by_cases s4:sign=[60,61]
 ·subst s4
  simp[Cpn.enc,hlo,hhi,hle,hb2,e0,e1,e2,e3,zw,zJ,zd,zl,zc,qX,zx,strP,strS,encR,qn,Str.enc,Cut.enc,cut0,f68]
 have e4:(sign==[60,61])=false:=by simpa using s4
 by_cases s5:sign=[45]
 ·subst s5
  have hto:=ht rfl
  have hb3:=fun hp nx=>jM (lowC p) (yh tu) hp nx (yz hsm) (yZ hto.2.2.2.2)
  have hht:=fun hp' nx=>FPa_call highP tu (.agg tu.enc) hp' nx hto (by simp[Part.enc]) (enc_frz tu hp') (by simp[Part.enc])
  simp only[btwP,highP,Part.enc,Cut.enc] at hb3 hht
  simp[Cpn.enc,hlo,hht,hb3,e0,e1,e2,e3,e4,zw,zJ,zd,zl,zc,qX,zx,strP,strS,encR,qn,Str.enc,Cut.enc,cut0,f68]
 have e5:(sign==[45])=false:=by simpa using s5
 have hra:=fun i (hi:i<3) hp' nx=>FPi_call wu p i (.agg p.enc) hp' nx hp hi (by simp[Part.enc]) (enc_frz p hp') (by simp[Part.enc])
 have hb4:=fun i hp nx=>jM (lowC p) (qB p i) hp nx (yz hsm) (vo p i)
 simp only[btwP,wu,Part.enc,Cut.enc] at hra hb4
 have hw:IntKind.i64.wrap (p.has - 1)=p.has - 1:=zh (by have:=hp.2.2.2.1;omega) (by have:=hp.2.2.2.1;omega)
 by_cases s6:sign=[126]
 ·subst s6
  have hm:(if 1<p.has - 1 then 1 else p.has - 1)=(((min (p.has - 1) 1).toNat:Nat):Int):=by have:=hp.2.2.2.1;split<;>omega
  have hra1:=hra (min (p.has - 1) 1).toNat (by omega)
  rw[←hm] at hra1
  simp[Cpn.enc,hlo,hra1,hb4,hw,e0,e1,e2,e3,e4,e5,zw,zJ,zd,zl,zc,qX,zx,strP,strS,encR,qn,Str.enc,Cut.enc,cut0,f68]
 have e6:(sign==[126])=false:=by simpa using s6
 by_cases s7:sign=[94]
 ·subst s7
  have hs3:(2:Int)<p.has→p.has=3:=by have:=hp.2.2.2.1;omega
  by_cases hA:1<p.has
  ·have hA':(0:Int)<p.has - 1:=by omega
   by_cases hn0:p.n0=0
   ·have hn0t:(p.n0==0)=true:=by simpa using hn0
    by_cases hB:2<p.has
    ·have hB':(1:Int)<p.has - 1:=by omega
     have hC':¬(2:Int)<p.has - 1:=by have:=hp.2.2.2.1;omega
     by_cases hn1:p.n1=0
     ·have hn1t:(p.n1==0)=true:=by simpa using hn1
      have hci:qU p=2:=by simp[qU,hA,hA',hB,hB',hC',hn0,hn1]
      have hra1:=hra 2 (by omega)
      rw[show ((2:Nat):Int)=2 from rfl] at hra1
      simp[Cpn.enc,hlo,hw,e0,e1,e2,e3,e4,e5,e6,hA,hA',hB,hB',hC',hn0t,hn1t,qX]
      rw[zk]
      simp[Cpn.enc,hlo,hw,e0,e1,e2,e3,e4,e5,e6,hA,hA',hB,hB',hC',hn0t,hn1t]
      rw[zk]
      simp[Cpn.enc,hlo,hw,e0,e1,e2,e3,e4,e5,e6,hA,hA',hB,hB',hC',hn0t,hn1t]
      rw[zk]
      simp[Cpn.enc,hlo,hw,e0,e1,e2,e3,e4,e5,e6,hra1,hb4,hci,hA,hA',hB,hB',hC',hn0t,hn1t,zw,zJ,zd,zl,zc,qX,zx,strP,strS,encR,qn,Str.enc,Cut.enc,cut0,f68]
     ·have hn1':(p.n1==0)=false:=by simpa using hn1
      have hci:qU p=1:=by simp[qU,hA,hA',hB,hB',hn0,hn1,hn1']
      have hra1:=hra 1 (by omega)
      rw[show ((1:Nat):Int)=1 from rfl] at hra1
      simp[Cpn.enc,hlo,hw,e0,e1,e2,e3,e4,e5,e6,hA,hA',hB,hB',hn0t,hn1',qX]
      rw[zk]
      simp[Cpn.enc,hlo,hw,e0,e1,e2,e3,e4,e5,e6,hA,hA',hB,hB',hn0t,hn1']
      rw[zk]
      simp[Cpn.enc,hlo,hw,e0,e1,e2,e3,e4,e5,e6,hra1,hb4,hci,hA,hA',hB,hB',hn0t,hn1',zw,zJ,zd,zl,zc,qX,zx,strP,strS,encR,qn,Str.enc,Cut.enc,cut0,f68]
    ·have hB':¬(1:Int)<p.has - 1:=by omega
     have hci:qU p=1:=by simp[qU,hA,hA',hB,hB',hn0]
     have hra1:=hra 1 (by omega)
     rw[show ((1:Nat):Int)=1 from rfl] at hra1
     simp[Cpn.enc,hlo,hw,e0,e1,e2,e3,e4,e5,e6,hA,hA',hB,hB',hn0t,qX]
     rw[zk]
     simp[Cpn.enc,hlo,hw,e0,e1,e2,e3,e4,e5,e6,hA,hA',hB,hB',hn0t]
     rw[zk]
     simp[Cpn.enc,hlo,hw,e0,e1,e2,e3,e4,e5,e6,hra1,hb4,hci,hA,hA',hB,hB',hn0t,zw,zJ,zd,zl,zc,qX,zx,strP,strS,encR,qn,Str.enc,Cut.enc,cut0,f68]
   ·have hn0':(p.n0==0)=false:=by simpa using hn0
    have hci:qU p=0:=by simp[qU,hA,hA',hn0,hn0']
    have hra1:=hra 0 (by omega)
    rw[show ((0:Nat):Int)=0 from rfl] at hra1
    simp[Cpn.enc,hlo,hw,e0,e1,e2,e3,e4,e5,e6,hA,hA',hn0',qX]
    rw[zk]
    simp[Cpn.enc,hlo,hw,e0,e1,e2,e3,e4,e5,e6,hra1,hb4,hci,hA,hA',hn0',zw,zJ,zd,zl,zc,qX,zx,strP,strS,encR,qn,Str.enc,Cut.enc,cut0,f68]
  ·have hA':¬(0:Int)<p.has - 1:=by omega
   have hci:qU p=0:=by simp[qU,hA,hA']
   have hra1:=hra 0 (by omega)
   rw[show ((0:Nat):Int)=0 from rfl] at hra1
   simp[Cpn.enc,hlo,hw,e0,e1,e2,e3,e4,e5,e6,hA,hA',qX]
   rw[zk]
   simp[Cpn.enc,hlo,hw,e0,e1,e2,e3,e4,e5,e6,hra1,hb4,hci,hA,hA',zw,zJ,zd,zl,zc,qX,zx,strP,strS,encR,qn,Str.enc,Cut.enc,cut0,f68]
 have e7:(sign==[94])=false:=by simpa using s7
 have hb5:=fun hp nx=>jM (lowC p) (yh p) hp nx (yz hsm) (yZ hsm)
 simp only[btwP,Cut.enc] at hb5
 simp only[qX] at s0
 have e1':=s1
 simp[Cpn.enc,hlo,hhi,hb5,e0,e1,e2,e3,e4,e5,e6,e7,s0,s1,s2,s3,s4,s5,s6,s7,zw,zJ,zd,zl,zc,qX,zx,strP,strS,encR,qn,Str.enc,Cut.enc,cut0,f68]
noncomputable def FCm (f:Cpn→PV):List PV→Option PV:=zH (α:=Cpn) (fun c=>[.agg c.enc]) Cpn.ok f
theorem stretches_sound:za prog 68 (zC [.g mpat] (FCm strP)) :=
 zP (fn:=f68) goodstt ⟨_,func68,by kernel_rfl,rfl,by kernel_rfl⟩ _ _ fun args r h=>by
  obtain⟨c,rfl,h1,rfl⟩:=ze h
  obtain⟨r0,h3,h4⟩:=stretches_eval c h1
  exact⟨by simp[f68],r0,h3,h4⟩
end Go.Proofs.YtpeaooooimfihaaGreatDoor
