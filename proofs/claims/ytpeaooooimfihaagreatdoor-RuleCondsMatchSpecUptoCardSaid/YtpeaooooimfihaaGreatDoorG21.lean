/-
ReadRange.
rule.CheckCond: what it computes.
What is written of a condition (plain).
-/
import Derived.Test.YtpeaooooimfihaaGreatDoorG20
import Derived.Test.YtpeaooooimfihaaGreatDoorG15
import Derived.Test.YtpeaooooimfihaaGreatDoorG17
import Derived.Test.YtpeaooooimfihaaGreatDoorG14
set_option maxRecDepth 8000
namespace Go.AM
open Go.RowKit
def mkCtxI (P:Program) (l:Tab) (g:FuncId) (it:yJ):Ctx:=⟨P,lookup l,fun _=>[],fun _=>[],fun _=>false,fun _=>[],fun k=>if k=g then some it else none⟩
@[simp] theorem mkCtxI_P (P:Program) (l:Tab) (g:FuncId) (it:yJ):(mkCtxI P l g it).P=P:=rfl
@[simp] theorem call_mkI (P:Program) (l:Tab) (k:FuncId) (it:yJ) (hp:Hp) (nx g:Nat) (x y xs:List PV):qN (mkCtxI P l k it) hp nx (some (.fn (.func g) x y)) xs=(lookup l g).bind fun s=>s (x++xs++y) hp nx:=by
 unfold qN mkCtxI
 simp only
 cases lookup l g<;>rfl
@[simp] theorem EvC_region_mkI (P:Program) (l:Tab) (k:FuncId) (it:yJ) (i:Nat) (ops:Array Oper) (d:Bool) (st:St) (K:Exit→St→Prop):EvC (mkCtxI P l k it) (.region i ops d) st K=EvL (mkCtxI P l k it) ops ops.toList st (normK K):=vF _ i ops d st K rfl rfl
theorem good_ofI {P:Program} {l:Tab} {q:List Nat} {k:FuncId} {it:yJ} (hm:P.follows .mixedOrders=true) (h:AllD True P q l) (hi:IterSound P k it):AM.Good (mkCtxI P l k it) (fun g=>q.contains g) :=
 let g:=zm hm h
 ⟨g.spec,g.quiet,g.mixed,(fun _ _ h=>by cases h),(fun j it' h=>by
  have:(if j=k then some it else none)=some it':=h
  split at this
  ·rename_i e
   injection this with this
   subst this;subst e
   exact hi
  ·cases this)⟩
@[simp] theorem asgK_n (C:Ctx) (b:Code) (K:Exit→St→Prop) (st:St):asgK C b K .normal st=EvC C b st K:=rfl
@[simp] theorem rngK_n (I:Nat→Hp→Nat→Prop) (k:Nat) (σ:Nat→PV) (K:Exit→St→Prop) (st:St):rngK I k σ K .normal st=I (k+1) st.hp st.nx:=rfl
@[simp] theorem rngK_r (I:Nat→Hp→Nat→Prop) (k:Nat) (σ:Nat→PV) (K:Exit→St→Prop) (st:St):rngK I k σ K .ret st=K .ret ⟨σ,st.hp,st.nx⟩:=rfl
theorem ownS_box {hp:Hp} {nx e s:Nat} {v:PV} {xs:List (List PV)} (h:OwnS hp nx e s v xs) {j:Nat} {b:Blk} (hb:hp j=some b) (ha:b.arr=false):∀n,v≠.own j 0 n:=by
 rcases h with⟨rfl,_⟩ | ⟨id,h1,rfl,h2⟩
 ·intro n e;cases e
 ·intro n e
  injection e with e
  subst e
  rw[h2] at hb
  injection hb with hb
  subst hb
  cases ha
end Go.AM
namespace Go.Proofs.YtpeaooooimfihaaGreatDoor
open Go.Proofs.Tryz
open Go.RowKit Go.AM
noncomputable def rrP (t:List UInt8):PV:=.tup [.sl 11 (encR (jo t).1),int (jo t).2]
set_option maxRecDepth 100000 in
theorem splitSeq_sound:za prog 96 (hRun C0 f96):=wx (code:=_) wT ⟨func96,by kernel_rfl,rfl,by kernel_rfl⟩
noncomputable abbrev Csq:Ctx:=zF prog [(96,hRun C0 f96)]
theorem goodsq:AM.Good Csq (fun g=>([]:List Nat).contains g):=zm mixed ⟨splitSeq_sound,by simp,trivial⟩
set_option maxRecDepth 100000 in
theorem sseq_sound:za prog 65 (hRun Csq f65):=wx (code:=_) goodsq ⟨func65,by kernel_rfl,rfl,by kernel_rfl⟩
def hpSq (t sep:List UInt8) (hp:Hp) (nx:Nat):Hp:=upd (upd (upd hp nx (some ⟨9,1,false,[[str t]]⟩)) (nx+1) (some ⟨9,1,false,[[str sep]]⟩)) (nx+1+1) (some ⟨3,1,false,[[int 0]]⟩)
theorem splitSeq_run (t sep:List UInt8) (hp:Hp) (nx:Nat):hRun C0 f96 [str t,str sep,int 0] hp nx=some (.fn (.func 140) [] [.ref (nx+1) 0 0,.ref nx 0 0,.ref (nx+1+1) 0 0],hpSq t sep hp nx,nx+1+1+1):=by
 unfold hRun
 rw[if_pos (by simp[f96])]
 refine ji rfl ?_
 simp[hpSq,f96]
theorem sseq_run (t sep:List UInt8) (hp:Hp) (nx:Nat):hRun Csq f65 [str t,str sep] hp nx=some (.fn (.func 140) [] [.ref (nx+1) 0 0,.ref nx 0 0,.ref (nx+1+1) 0 0],hpSq t sep hp nx,nx+1+1+1):=by
 have h1:=fun hp nx=>splitSeq_run t sep hp nx
 unfold hRun
 rw[if_pos (by simp[f65])]
 refine ji rfl ?_
 simp[h1,f65]
def HasR (hp:Hp) (nx:Nat) (v:PV) (m:List Str):Prop:=v=.sl 11 (encR m)∨(v=.nil∧m=[])∨∃id,id<nx∧v=.own id 0 (encR m).length∧hp id=some ⟨106,11,true,encR m⟩
theorem HasR.frz {hp:Hp} {nx:Nat} {v:PV} {m:List Str} (h:HasR hp nx v m):∃y hp1,zA hp v=some (y,hp1)∧(Sh.s 11 spat).fix y=.sl 11 (encR m)∧(∀j,(∀n,v≠.own j 0 n)→hp1 j=hp j)∧∀j b,hp1 j=some b→hp j=some b:=by
 rcases h with rfl | ⟨rfl,rfl⟩ | ⟨id,h1,rfl,h2⟩
 ·exact⟨_,hp,rfl,vS m,fun _ _=>rfl,fun _ _ h=>h⟩
 ·exact⟨_,hp,rfl,rfl,fun _ _=>rfl,fun _ _ h=>h⟩
 ·refine⟨.sl 11 (encR m),upd hp id none,by simp[h2],vS m,fun j hj=>qd _ _ _ _ fun e=>hj _ (by subst e;rfl),fun j b hb=>?_⟩
  by_cases e:j=id
  ·subst e;rw[zQ] at hb;cases hb
  ·rwa [zp _ _ _ _ e] at hb
theorem HasR.keep {hp hp':Hp} {nx nx':Nat} {v:PV} {m:List Str} (h:HasR hp nx v m) (hn:nx≤nx') (hh:∀id,id<nx→(∀n,v=.own id 0 n→hp' id=hp id)):HasR hp' nx' v m:=by
 rcases h with rfl | ⟨rfl,rfl⟩ | ⟨id,h1,rfl,h2⟩
 ·exact .inl rfl
 ·exact .inr (.inl ⟨rfl,rfl⟩)
 ·exact .inr (.inr ⟨id,by omega,rfl,by rw[hh id h1 _ rfl];exact h2⟩)
theorem HasR.len {hp:Hp} {nx:Nat} {v:PV} {m:List Str} (h:HasR hp nx v m):lenA prog 69 v=some (int m.length):=by
 rcases h with rfl | ⟨rfl,rfl⟩ | ⟨id,h1,rfl,h2⟩<;>simp[encR]
theorem HasR.box {hp:Hp} {nx:Nat} {v:PV} {m:List Str} (h:HasR hp nx v m) {j:Nat} {b:Blk} (hb:hp j=some b) (he:b.e≠106):∀n,v≠.own j 0 n:=by
 rcases h with rfl | ⟨rfl,rfl⟩ | ⟨id,h1,rfl,h2⟩
 ·intro n e;cases e
 ·intro n e;cases e
 ·intro n e
  injection e with e
  subst e
  rw[h2] at hb
  injection hb with hb
  subst hb
  exact he rfl
theorem HasR.lt {hp:Hp} {nx:Nat} {v:PV} {m:List Str} (h:HasR hp nx v m) {j n:Nat} (e:v=.own j 0 n):j<nx:=by
 rcases h with rfl | ⟨rfl,rfl⟩ | ⟨id,h1,rfl,h2⟩
 ·cases e
 ·cases e
 ·injection e with e;omega
theorem st_call (c:Cpn) (hp:Hp) (nx:Nat) (h:c.ok):zC [.g mpat] (FCm strP) [.agg c.enc] hp nx=some (strP c,hp,nx) :=
 wy (show zi hp [.agg c.enc]=some ([.agg c.enc],hp) by simp[Cpn.enc]) (by
  have e1:(Sh.g mpat).fix (.agg c.enc)=.agg c.enc:=by simp[Cpn.enc]
  show FCm strP [(Sh.g mpat).fix (.agg c.enc)]=_
  rw[e1]
  exact zn (enc:=fun v:Cpn=>[PV.agg v.enc]) (a:=c) (fun a b e=>by simp only[List.cons.injEq,and_true] at e;injection e with e;exact cpenc_inj e) h) (.inr (by simp[Cpn.enc]))
theorem cmb_call (f:Bool→Bool→Bool) (g:Nat) (hg:(f=and∧g=70)∨(f=or∧g=71)) {hp:Hp} {nx:Nat} {v w:PV} {a b:List Str} (ha:HasR hp nx v a) (hb:HasR hp nx w b) (hne:∀id n k,v=.own id 0 n→w≠.own id 0 k) (h1:qW a) (h2:qW b) :
  ∃x hp' nx',wF [.s 11 spat,.s 11 spat] FCmb [v,w,.fn (.func g) [] []] hp nx=some (x,hp',nx')∧HasR hp' nx' x (wO f a b)∧nx≤nx'∧(∀j,j<nx→(∀n,v≠.own j 0 n)→(∀n,w≠.own j 0 n)→hp' j=hp j)∧(∀n j,x=.own j 0 n→nx≤j)∧∀s es,x≠.sl s es:=by
 obtain⟨y,hp1,f1,e1,k1,_⟩:=ha.frz
 have hb':HasR hp1 nx w b:=hb.keep (Nat.le_refl _) fun id _ n e=>k1 id fun n' e'=>hne id n' n e' e
 obtain⟨z,hp2,f2,e2,k2,_⟩:=hb'.frz
 have hfr:zi hp [v,w,.fn (.func g) [] []]=some ([y,z,.fn (.func g) [] []],hp2):=by
  simp only[zi,f1,f2]
  rfl
 have hF:FCmb (fixL [.s 11 spat,.s 11 spat] (ql [] [y,z,.fn (.func g) [] []]))=some (vv f a b):=by
  show FCmb [(Sh.s 11 spat).fix y,(Sh.s 11 spat).fix z,.fn (.func g) [] []]=_
  rw[e1,e2]
  rcases hg with⟨rfl,rfl⟩ | ⟨rfl,rfl⟩
  ·have:=zn (enc:=fun a:List Str×List Str=>[PV.sl 11 (encR a.1),.sl 11 (encR a.2),.fn (.func 70) [] []]) (pre:=fun a=>qW a.1∧qW a.2) (out:=fun a=>vv and a.1 a.2) (a:=(a,b)) (cmb_inj _) ⟨h1,h2⟩
   unfold FCmb
   rw[this]
  ·have:=zn (enc:=fun a:List Str×List Str=>[PV.sl 11 (encR a.1),.sl 11 (encR a.2),.fn (.func 71) [] []]) (pre:=fun a=>qW a.1∧qW a.2) (out:=fun a=>vv or a.1 a.2) (a:=(a,b)) (cmb_inj _) ⟨h1,h2⟩
   have hno:zH (α:=List Str×List Str) (fun a=>[PV.sl 11 (encR a.1),.sl 11 (encR a.2),.fn (.func 70) [] []]) (fun a=>qW a.1∧qW a.2) (fun a=>vv and a.1 a.2) [PV.sl 11 (encR a),.sl 11 (encR b),.fn (.func 71) [] []]=none:=by
    cases hh:zH (α:=List Str×List Str) (fun a=>[PV.sl 11 (encR a.1),.sl 11 (encR a.2),.fn (.func 70) [] []]) (fun a=>qW a.1∧qW a.2) (fun a=>vv and a.1 a.2) [PV.sl 11 (encR a),.sl 11 (encR b),.fn (.func 71) [] []] with
    | none=>rfl
    | some r =>
      obtain⟨_,e,_⟩:=ze hh
      simp at e
   unfold FCmb
   rw[hno]
   exact this
 unfold wF qT
 by_cases hz:wO f a b=[]
 ·have hF':=hF
  unfold vv at hF'
  rw[if_pos hz] at hF'
  simp only[hfr,hF']
  exact⟨_,_,_,rfl,.inr (.inl ⟨rfl,hz⟩),Nat.le_refl _,fun j _ q1 q2=>(k2 j q2).trans (k1 j q1),fun n j e=>(by cases e),fun s es e=>(by cases e)⟩
 ·have hF':=hF
  unfold vv at hF'
  rw[if_neg hz] at hF'
  simp only[hfr,hF']
  exact⟨_,_,_,rfl,.inr (.inr ⟨nx,by omega,rfl,by simp⟩),by omega,fun j hj q1 q2=>by rw[qd _ _ _ _ (by omega)];exact (k2 j q2).trans (k1 j q1),fun n j e=>(by injection e with e;omega),fun s es e=>(by cases e)⟩
noncomputable abbrev Crrg:Ctx:=mkCtxI prog [(65,hRun Csq f65),(66,zf false [] (FSP1 altP)),(67,zC [] (xn everyP)),(68,zC [.g mpat] (FCm strP)),(69,wF [.s 11 spat,.s 11 spat] FCmb),(72,zC [.g spat] (FSt idS))] 140 itSplit
theorem goodrr:AM.Good Crrg (fun g=>([]:List Nat).contains g):=good_ofI mixed ⟨sseq_sound,by simp,alternative_sound,by simp,kL,by simp,stretches_sound,by simp,combine_sound,by simp,copyStretch_sound,by simp,trivial⟩ split_iter
set_option maxHeartbeats 4000000 in
theorem readRange_eval (t:List UInt8) (ht:t.length+1≤lim):∃r0,zj Crrg f46 [str t]=some r0∧Stands r0 (rrP t):=by
 refine qe (sh:=.s 11 spat) rfl ?_
 by_cases h400:(400:Int)<t.length
 ·have hv:jo t=([],2):=by unfold jo;rw[if_pos h400]
  simp[h400,rrP,hv,encR,zx,f46]
 have hsq:=fun hp nx=>sseq_run t [124,124] hp nx
 obtain⟨parts,hparts⟩:∃parts,zu t [124,124]=parts:=⟨_,rfl⟩
 have hpl:∀p∈parts,p.length≤400:=fun p hp=>by have:=wz (by rw[hparts];exact hp);omega
 have hpn:parts.length≤401:=by have:=wS (s:=t) (sep:=[124,124]) (by simp);rw[hparts] at this;omega
 have hval:jo t=match rrA parts with
  | none=>([],10)
  | some ls=>match joinL ls [] with
    | none=>([],1)
    | some o=>if (100:Int)<o.length then ([],2) else (o,0):=by unfold jo;rw[if_neg h400,hparts];rfl
 simp[h400,hsq]
 refine EvC_range (p:=23) (xs:=parts.map str) rfl (by simp;exact⟨rfl,rfl⟩) (it:=itSplit) rfl (by simp[itSplit,hpSq,hparts];exact⟨⟨by decide,by omega⟩,rfl⟩) (fun k hp nx=>∃(v:PV) (done:List (List Cpn)),6≤nx∧hp 0=some ⟨69,1,false,[[.nil]]⟩∧hp 1=some ⟨26,1,false,[[int 0]]⟩∧hp 2=some ⟨84,1,false,[[v]]⟩ ∧
   OwnS hp nx 88 1 v (done.map fun l=>[.sl 11 (encM l)])∧done.length=k∧rrA parts=(rrA (parts.drop k)).map (done++·)) ?_ ?_ ?_
 ·exact⟨.nil,[],by simp,by simp,by simp,by simp,.inl ⟨rfl,rfl⟩,rfl,by rw[List.drop_zero];cases rrA parts<;>rfl⟩
 ·rintro k hp nx hk ⟨v,done,hnx,b0,b1,b2,hO,hdk,he⟩
  have hk':k<parts.length:=by simpa using hk
  have hpk:(parts.map str)[k]=str parts[k]:=by simp
  have hpkl:=hpl parts[k] (List.getElem_mem hk')
  have halt:=fun hp nx=>yb altP parts[k] hp nx (by unfold lim;omega)
  simp only[altP] at halt
  rw[hpk]
  rw[List.drop_eq_getElem_cons hk'] at he
  simp only[rrA] at he
  cases hok:(altR parts[k]).2
  ·rw[hok] at he
   simp only[Bool.false_eq_true,if_false,Option.map_none] at he
   rw[he] at hval
   have n0:¬0=nx:=by omega
   have n1:¬1=nx:=by omega
   simp[halt,hok,b0,b1,rrP,hval,encR,zx,f46]
  ·rw[hok] at he
   simp only[if_true] at he
   have hap:=OwnS.append1 (P:=prog) (t:=84) (c:=[.sl 11 (encM (altR parts[k]).1)]) hO el84 sz88 by88 ze88 rfl (by omega) (by simp[hdk];unfold maxLen;omega) (by simp[hdk];omega)
   have k0:=fun hp'=>qu hO hp' 0 (ownS_box hO b0 rfl)
   have k1:=fun hp'=>qu hO hp' 1 (ownS_box hO b1 rfl)
   have k2:=fun hp'=>qu hO hp' 2 (ownS_box hO b2 rfl)
   have n0:¬0=nx:=by omega
   have n1:¬1=nx:=by omega
   have n2:¬2=nx:=by omega
   have n3:¬1=nx+1:=by omega
   have n4:¬2=nx+1:=by omega
   have n5:¬nx+1=2:=by omega
   simp[halt,hok,b0,b1,b2,hap,k0,k1,k2,n0,n1,n2,n3,n4,n5,zd,zl,zc]
   refine⟨by omega,by rw[qd _ _ _ _ (by omega),k1,qd _ _ _ _ (by omega)];exact b1,done++[(altR parts[k]).1],.inr ⟨nx+1,by omega,by simp,by rw[qd _ _ _ _ (by omega)];simp⟩,by simp[hdk],?_⟩
   rw[he]
   cases rrA (parts.drop (k+1))<;>simp
 ·rintro hp nx ⟨v,done,hnx,b0,b1,b2,hO,hdk,he⟩
  rw[List.length_map] at hdk
  rw[List.length_map,List.drop_length] at he
  simp only[rrA,Option.map_some,List.append_nil] at he
  obtain⟨hgood,hdl⟩:=rrA_good parts done 400 hpl he
  rw[he] at hval
  simp only at hval
  have hlen:=hO.len el84
  rw[List.length_map] at hlen
  have hdn:done.length≤401:=by omega
  obtain⟨rows,hrows⟩:∃rows,done.map (fun l=>[PV.sl 11 (encM l)])=rows:=⟨_,rfl⟩
  rw[hrows] at hO
  have hrl:rows.length=done.length:=by rw[←hrows];simp
  simp[b2,hlen]
  refine zy (fun i σ hp nx=>σ 2=.ref 0 0 0∧σ 3=.ref 1 0 0∧σ 35=v∧σ 36=int done.length∧σ 37=int i∧6≤nx∧hp 0=some ⟨69,1,false,[[.nil]]⟩∧hp 1=some ⟨26,1,false,[[int 0]]⟩ ∧
    OwnS hp nx 88 1 v rows∧∃o,HasR hp nx (σ 8) o∧(∀s es,σ 8≠.sl s es)∧goodR o∧o.length≤i*500∧joinL done []=joinL (done.drop i) o) done.length
   ⟨by simp,by simp,by simp,by simp,by simp,hnx,b0,b1,hO,[],.inr (.inl ⟨by simp,rfl⟩),by simp,(by intro s hs;cases hs),by simp,by simp⟩ ?_
  clear hnx b0 b1 b2 hO hlen hp nx
  rintro i σ hp nx hi ⟨h2,h3,h35,h36,h37,hnx,b0,b1,hO,o,hR,hsl,hgo,hol,hj⟩
  by_cases hlt:i<done.length
  ·obtain⟨idA,hidA,rfl,hbA⟩:=hO.at_ (by omega)
   obtain⟨l,hl⟩:∃l,done[i]=l:=⟨_,rfl⟩
   have hri:∀h:i<rows.length,rows[i]=[PV.sl 11 (encM l)]:=fun h=>by
    have:rows[i]?=some [PV.sl 11 (encM l)]:=by rw[←hrows,List.getElem?_map,List.getElem?_eq_getElem hlt,hl];rfl
    rw[List.getElem?_eq_getElem h] at this
    injection this
   obtain⟨hgl,hll⟩:=hgood l (by rw[←hl];exact List.getElem_mem hlt)
   rw[List.drop_eq_getElem_cons hlt,hl] at hj
   simp only[joinL] at hj
   have hev:∀(hp:Hp) (nx:Nat),zC [] (xn everyP) [] hp nx=some (.sl 11 (encR [qn leastC]),hp,nx):=fun hp nx=>yY _ hp nx
   have hwi:IntKind.i64.wrap ((i:Int)+1)=(i:Int)+1:=zh (by omega) (by omega)
   have hel:(encM l).length=l.length:=by simp[encM]
   simp[h2,h3,h35,h36,h37,hlt,hrl,hbA,hri,hev,hel]
   refine zy (fun k σ hp nx=>σ 2=.ref 0 0 0∧σ 3=.ref 1 0 0∧σ 35=.own idA 0 rows.length∧σ 36=int done.length∧σ 37=int i∧6≤nx∧hp 0=some ⟨69,1,false,[[.nil]]⟩∧hp 1=some ⟨26,1,false,[[int 0]]⟩ ∧
     OwnS hp nx 88 1 (.own idA 0 rows.length) rows∧HasR hp nx (σ 8) o∧(∀s es,σ 8≠.sl s es)∧σ 42=.sl 11 (encM l)∧σ 43=int l.length∧σ 44=int k∧∃m,HasR hp nx (σ 11) m∧goodR m∧m.length≤k+1∧(∀id n n',σ 8=.own id 0 n→σ 11≠.own id 0 n')∧meetL l [qn leastC]=meetL (l.drop k) m) l.length
    ⟨by simp[h2],by simp[h3],by simp[h35,hrl],by simp[h36],by simp[h37],hnx,b0,b1,hO,by simpa using hR,by simpa using hsl,by simp,by simp,by simp,[qn leastC],.inl (by simp),(jn wv).2,by simp,by simp,by simp⟩ ?_
   clear h2 h3 h35 h36 h37 hnx b0 b1 hO hR hsl hi hbA hidA σ hp nx
   rintro k σ hp nx hk ⟨h2,h3,h35,h36,h37,hnx,b0,b1,hO,hR,hsl,h42,h43,h44,m,hM,hgm,hml,hap,hme⟩
   by_cases hltk:k<l.length
   ·obtain⟨c,hc⟩:∃c,l[k]=c:=⟨_,rfl⟩
    have hcg:c.good:=hgl c (by rw[←hc];exact List.getElem_mem hltk)
    obtain⟨hs1,hs2⟩:=strS_good hcg
    have hke:∀h:k<(encM l).length,(encM l)[k]=c.enc:=fun h=>by simp[encM,hc]
    have hst:=fun hp nx=>st_call c hp nx hcg.ok
    have hwk:IntKind.i64.wrap ((k:Int)+1)=(k:Int)+1:=zh (by omega) (by omega)
    rw[List.drop_eq_getElem_cons hltk,hc] at hme
    simp only[meetL] at hme
    have n0:¬0=nx:=by omega
    have n1:¬1=nx:=by omega
    cases hok:(strS c).2
    ·rw[hok] at hme
     simp only[Bool.false_eq_true,if_false] at hme
     rw[hme] at hj
     simp only at hj
     rw[hj] at hval
     simp only at hval
     simp only[strP,Cpn.enc] at hst hke
     simp[h2,h3,h35,h36,h37,h42,h43,h44,hltk,hel,hke,hst,hok,b0,b1,n0,n1,rrP,hval,encR,zx,f46]
    ·rw[hok] at hme
     simp only[if_true] at hme
     have hM':HasR (upd hp nx (some ⟨96,11,false,[c.enc]⟩)) (nx+1) (σ 11) m:=hM.keep (by omega) fun id hid n e=>qd _ _ _ _ (by omega)
     obtain⟨x,hp',nx',hcomb,hX,hnx',hfr,hfresh,hxs⟩:=cmb_call and 70 (.inl ⟨rfl,rfl⟩) hM' (.inl rfl:HasR _ _ (.sl 11 (encR (strS c).1)) (strS c).1) (fun id n k e e2=>by cases e2) (hgm.small (by unfold lim;omega)) (goodR.small hs2 (by unfold lim;omega))
     have hpres:∀j,j<nx→(∀n,σ 11≠.own j 0 n)→hp' j=hp j:=fun j hj q=>by
      rw[hfr j (by omega) q (fun n e=>by cases e),qd _ _ _ _ (by omega)]
     have hlm:=vu and m (strS c).1
     obtain⟨idA2,hidA,heA,hbA⟩:=hO.at_ (by omega)
     injection heA with heA
     subst heA
     simp only[strP,Cpn.enc] at hst hke hcomb
     simp[h2,h3,h35,h36,h37,h42,h43,h44,hltk,hel,hke,hst,hok,hcomb,hwk]
     exact⟨by omega,by omega,by rw[hpres 0 (by omega) (hM.box b0 (by decide))];exact b0,by rw[hpres 1 (by omega) (hM.box b1 (by decide))];exact b1,.inr ⟨idA,by omega,rfl,by rw[hpres idA hidA (hM.box hbA (by simp))];exact hbA⟩,hR.keep (by omega) (fun id hid n e=>hpres id hid fun n'=>hap id n n' e),hsl,_,hX,wA and hgm hs2,by omega,fun id n n' e e2=>by have:=hR.lt e;have:=hfresh _ _ e2;omega,hme⟩
   ·obtain rfl:k=l.length:=by omega
    rw[List.drop_length] at hme
    simp only[meetL] at hme
    rw[hme] at hj
    simp only at hj
    obtain⟨x,hp',nx',hcomb,hX,hnx',hfr,hfresh,hxs⟩:=cmb_call or 71 (.inr ⟨rfl,rfl⟩) hR hM hap (hgo.small (by unfold lim;omega)) (hgm.small (by unfold lim;omega))
    have hlm:=vu or o m
    obtain⟨idA2,hidA,heA,hbA⟩:=hO.at_ (by omega)
    injection heA with heA
    subst heA
    simp[h2,h3,h35,h36,h37,h42,h43,h44,hcomb,hwi]
    exact⟨by omega,hrl,by omega,by rw[hfr 0 (by omega) (hR.box b0 (by decide)) (hM.box b0 (by decide))];exact b0,by rw[hfr 1 (by omega) (hR.box b1 (by decide)) (hM.box b1 (by decide))];exact b1,.inr ⟨idA,by omega,by rw[hrl],by rw[hfr idA hidA (hR.box hbA (by simp)) (hM.box hbA (by simp))];exact hbA⟩,_,hX,hxs,wA or hgo hgm,by omega,hj⟩
  ·obtain rfl:i=done.length:=by omega
   rw[List.drop_length] at hj
   simp only[joinL] at hj
   rw[hj] at hval
   simp only at hval
   have hlenR:=hR.len
   by_cases h100:(100:Int)<o.length
   ·rw[if_pos h100] at hval
    simp[h2,h3,h36,h37,hlenR,h100,b0,b1,rrP,hval,encR,zx,f46]
   rw[if_neg h100] at hval
   simp[h2,h3,h36,h37,hlenR,h100]
   obtain⟨w,hw8⟩:∃w,σ 8=w:=⟨_,rfl⟩
   rw[hw8] at hR hsl
   refine zy (fun j σ hp nx=>σ 2=.ref 0 0 0∧σ 3=.ref 1 0 0∧σ 8=w∧σ 66=w∧σ 67=int o.length∧σ 68=int j∧6≤nx∧hp 0=some ⟨69,1,false,[[.nil]]⟩∧hp 1=some ⟨26,1,false,[[int 0]]⟩∧HasR hp nx w o) o.length
    ⟨by simp[h2],by simp[h3],by simp[hw8],by simp[hw8],by simp,by simp,hnx,b0,b1,hR⟩ ?_
   clear h2 h3 h35 h36 h37 hnx b0 b1 hO hR hi hw8 σ hp nx hlenR
   rintro j σ hp nx hjl ⟨h2,h3,h8,h66,h67,h68,hnx,b0,b1,hR⟩
   by_cases hltj:j<o.length
   ·have hwj:IntKind.i64.wrap ((j:Int)+1)=(j:Int)+1:=zh (by omega) (by omega)
    rcases hR with rfl | ⟨rfl,rfl⟩ | ⟨id,hid,rfl,hb⟩
    ·exact absurd rfl (hsl _ _)
    ·simp at hltj
    ·obtain⟨s,hs⟩:∃s,o[j]=s:=⟨_,rfl⟩
     have hgs:=hgo s (by rw[←hs];exact List.getElem_mem hltj)
     have hel:(encR o).length=o.length:=by simp[encR]
     have hke:∀h:j<(encR o).length,(encR o)[j]=s.enc:=fun h=>by simp[encR,hs]
     have hset:(encR o).set j s.enc=encR o:=by
      have h':j<(encR o).length:=by omega
      rw[←hke h'];exact List.set_getElem_self h'
     have hcp:∀hp nx,zC [.g spat] (FSt idS) [.agg s.enc] hp nx=some (.agg s.enc,hp,nx):=fun hp nx=>FSt_call idS s (.agg s.enc) hp nx ⟨hgs.1.small,hgs.2.small⟩ (by simp[Str.enc,Cut.enc]) (by simp[Str.enc,Cut.enc]) (by simp[Str.enc,Cut.enc])
     have m1:¬id=nx:=by omega
     simp only[Str.enc,Cut.enc,List.cons_append,List.nil_append] at hke hcp hset
     have i0:¬0=id:=fun e=>by rw[←e] at hb;rw[hb] at b0;simp at b0
     have i1:¬1=id:=fun e=>by rw[←e] at hb;rw[hb] at b1;simp at b1
     have n0:¬0=nx:=by omega
     have n1:¬1=nx:=by omega
     simp[h2,h3,h8,h66,h67,h68,hltj,hel,hb,hke,hcp,m1,hwj,hset]
     exact⟨by omega,by omega,by simp[i0,n0,b0],by simp[i1,n1,b1],.inr (.inr ⟨id,by omega,by rw[hel],by simp⟩)⟩
   ·obtain rfl:j=o.length:=by omega
    rcases hR with rfl | ⟨rfl,rfl⟩ | ⟨id,hid,rfl,hb⟩
    ·exact absurd rfl (hsl _ _)
    ·simp[h2,h3,h8,h66,h67,h68,b0,b1,rrP,hval,zx,encR,f46]
    ·have i0:¬id=0:=fun e=>by rw[e] at hb;rw[hb] at b0;simp at b0
     have i1:¬id=1:=fun e=>by rw[e] at hb;rw[hb] at b1;simp at b1
     have hfx:=vS o
     simp only[Sh.fix_s,PV.sl.injEq,true_and] at hfx
     simp[h2,h3,h8,h66,h67,h68,b0,b1,hb,i0,i1,rrP,hval,zx,hfx,f46]
theorem readRange_sound:za prog 46 (zf false [] (FSP1 rrP)) :=
 xN (fn:=f46) goodrr ⟨_,func46,by kernel_rfl,rfl,by kernel_rfl⟩ false [] _ fun args r h w S vs hz=>by
  obtain⟨l,rfl,hp,rfl⟩:=ze h
  obtain⟨r0,h1,h2⟩:=readRange_eval l hp
  exact⟨_,r0,hz,by simp[f46],h1,h2⟩
def kN (op:Int):Bool:=inB op 2 6||op==12
def js (op:Int):Bool:=inB op 7 11
def yt (op:Int):Bool:=inB op 3 6
noncomputable abbrev Cwi:Ctx:=zF prog [(24,zf false [] (F3 inB))]
theorem goodwi:AM.Good Cwi (fun g=>[24].contains g):=zm mixed ⟨yy,fun _=>zg _ _,trivial⟩
def FIb (f:Int→Bool):List PV→Option PV
 | [.v (.int .i64 a)]=>some (boo (f a))
 | _=>none
theorem FIb_inv {f:Int→Bool} {args:List PV} {r:PV} (h:FIb f args=some r):∃a,args=[int a]∧r=boo (f a):=by
 unfold FIb at h
 split at h
 ·injection h with h;exact⟨_,rfl,h.symm⟩
 ·cases h
@[simp] theorem FIb_call (f:Int→Bool) (a:Int) (hp:Hp) (nx:Nat):zf false [] (FIb f) [.v (.int .i64 a)] hp nx=some (boo (f a),hp,nx):=zK rfl rfl (.inl rfl)
theorem usesV_sound:za prog 41 (zf false [] (FIb kN)) :=
 zO (fn:=f41) goodwi ⟨_,func41,by kernel_rfl,rfl,by kernel_rfl⟩ false [] _ fun args r h=>by
  obtain⟨a,rfl,rfl⟩:=FIb_inv h
  exact⟨by simp[f41],_,zb rfl (by simp[kN,f41]),zM _⟩
theorem xr:za prog 28 (zf false [] (FIb js)) :=
 zO (fn:=f28) goodwi ⟨_,func28,by kernel_rfl,rfl,by kernel_rfl⟩ false [] _ fun args r h=>by
  obtain⟨a,rfl,rfl⟩:=FIb_inv h
  exact⟨by simp[f28],_,zb rfl (by simp[js,f28]),zM _⟩
theorem isOrd_sound:za prog 42 (zf false [] (FIb yt)) :=
 zO (fn:=f42) goodwi ⟨_,func42,by kernel_rfl,rfl,by kernel_rfl⟩ false [] _ fun args r h=>by
  obtain⟨a,rfl,rfl⟩:=FIb_inv h
  exact⟨by simp[f42],_,zb rfl (by simp[yt,f42]),zM _⟩
noncomputable abbrev Cms (n:Nat):Ctx:=zF prog [(12,zf false [] (FC (fun c=>.tup [int c.parts,int c.levels]) n))]
theorem measure_eval (n:Nat) (c:Cnd) (h:c.cb≤lim∧c.cb≤n+1):zj (Cms n) f12 [.agg c.enc]=some (.tup [int c.parts,int c.levels]):=by
 have hpl:=cparts_le c
 have hpe:=cparts_eq c
 have hcb:=cb_eq c
 have hle:=clevels_eq c
 have hll:=clevels_le c
 have hl1:=yo c.args
 obtain⟨ha,hb⟩:=h
 unfold lim at ha
 refine zb rfl ?_
 simp
 refine zy (fun k σ hp nx=>σ 9=.sl 7 (c.args.map Cnd.enc)∧σ 10=int c.args.length∧σ 11=int k∧σ 2=int ((1+partsC (c.args.take k):Nat):Int)∧σ 3=int (levelsC (c.args.take k))) c.args.length
  ⟨by simp,by simp,by simp,by simp[partsC],by simp[levelsC]⟩ ?_
 rintro k σ hp nx hk ⟨h9,h10,h11,h2,h3⟩
 by_cases hlt:k<c.args.length
 ·obtain⟨t1,t2⟩:=takeC hlt
  have hm:=vk (List.getElem_mem hlt)
  have hw:IntKind.i64.wrap ((k:Int)+1)=(k:Int)+1:=zh (by omega) (by omega)
  have hple:=partsC_le c.args k
  have hple2:=partsC_le c.args (k+1)
  have hpp:=partsC_le' c.args fun x hx=>cparts_le x
  have hcall:=fun hp nx=>FC_call (fun c=>.tup [int c.parts,int c.levels]) n c.args[k] hp nx ⟨by unfold lim;omega,by omega⟩
  have w1:IntKind.i64.wrap (((1+partsC (c.args.take k):Nat):Int)+c.args[k].parts)=((1+partsC (c.args.take (k+1)):Nat):Int):=by rw[zh (by omega) (by omega),t1];omega
  have w2:(if (levelsC (c.args.take k))<c.args[k].levels then (c.args[k].levels:Int) else levelsC (c.args.take k))=(levelsC (c.args.take (k+1)):Int):=by rw[t2];split<;>omega
  simp[h2,h3,h9,h10,h11,hlt,hcall,hw]
  exact⟨by omega,by rw[zh (by omega) (by omega),t1];omega,w2⟩
 ·obtain rfl:k=c.args.length:=by omega
  rw[List.take_length] at h2 h3
  have w1:IntKind.i64.wrap ((levelsC c.args:Int)+1)=(c.levels:Int):=by rw[zh (by omega) (by omega),hle];omega
  simp[h2,h3,h9,h10,h11,w1,qi,f12]
  omega
set_option maxRecDepth 100000 in
theorem measure_sound:∀n,za prog 12 (zf false [] (FC (fun c=>.tup [int c.parts,int c.levels]) n)):=by
 intro n
 induction n with
 | zero=>exact FC_zero ⟨_,func12,by kernel_rfl,by kernel_rfl⟩
 | succ n ih =>
   have hg:AM.Good (Cms n) (fun g=>([]:List Nat).contains g):=zm mixed ⟨ih,by simp,trivial⟩
   exact zO (fn:=f12) hg ⟨_,func12,by kernel_rfl,rfl,by kernel_rfl⟩ false [] _ fun args r h=>by
    obtain⟨c,rfl,hc,rfl⟩:=j5 h
    exact⟨Nat.le_trans (Nat.le_refl 1) (by decide),_,measure_eval n c hc,zM _⟩
def w1F (c:Cnd):Bool:=!(c.kind==4)&&(!c.attr.isEmpty||c.op != 0||decide (0<c.vals.length)||!c.pat.isEmpty)
def w2F (c:Cnd):Bool:=c.kind != 5&&!c.name.isEmpty
def w3F (c:Cnd):Bool:=!inB c.kind 1 3&&decide (0<c.args.length)
def w4F (c:Cnd):Bool:=c.kind==4&&!kN c.op&&decide (0<c.vals.length)
def w5F (c:Cnd):Bool:=c.kind==4&&!js c.op&&!c.pat.isEmpty
def w6F (c:Cnd):Bool:=c.kind==3&&(c.args.length:Int) != 1
def w7F (c:Cnd):Bool:=c.kind==4&&yt c.op&&(c.vals.length:Int) != 1
def jp (c:Cnd):Bool:=w1F c||w2F c||w3F c||w4F c||w5F c||w6F c||w7F c
noncomputable abbrev Cfo:Ctx:=zF prog [(24,zf false [] (F3 inB)),(41,zf false [] (FIb kN)),(28,zf false [] (FIb js)),(42,zf false [] (FIb yt))]
theorem goodfo:AM.Good Cfo (fun g=>[24,41,28,42].contains g):=zm mixed ⟨yy,fun _=>zg _ _,usesV_sound,fun _=>zg _ _,xr,fun _=>zg _ _,isOrd_sound,fun _=>zg _ _,trivial⟩
@[simp] theorem quietfo2:wo Cfo 41:=qv (by rfl) (zg _ _)
@[simp] theorem quietfo3:wo Cfo 28:=qv (by rfl) (zg _ _)
@[simp] theorem quietfo4:wo Cfo 42:=qv (by rfl) (zg _ _)
theorem checkForm_eval (c:Cnd) (h:c.cb≤lim):zj Cfo f25 [.agg c.enc]=some (int (if jp c=true then 3 else 0)):=by
 refine zb rfl ?_
 have e1:(!(c.kind==4)&&(!c.attr.isEmpty||c.op != 0||decide (0<c.vals.length)||!c.pat.isEmpty))=w1F c:=rfl
 have e2:(c.kind != 5&&!c.name.isEmpty)=w2F c:=rfl
 have e3:(!inB c.kind 1 3&&decide (0<c.args.length))=w3F c:=rfl
 have e4:(c.kind==4&&!kN c.op&&decide (0<c.vals.length))=w4F c:=rfl
 have e5:(c.kind==4&&!js c.op&&!c.pat.isEmpty)=w5F c:=rfl
 have e6:(c.kind==3&&(c.args.length:Int) != 1)=w6F c:=rfl
 have e7:(c.kind==4&&yt c.op&&(c.vals.length:Int) != 1)=w7F c:=rfl
 cases h1:w1F c
 case true=>simp[e1,h1,jp,f25]
 cases h2:w2F c
 case true=>simp[e1,h1,e2,h2,jp,f25]
 cases h3:w3F c
 case true=>simp[e1,h1,e2,h2,e3,h3,jp,f25]
 cases h4:w4F c
 case true=>simp[e1,h1,e2,h2,e3,h3,e4,h4,jp,f25]
 cases h5:w5F c
 case true=>simp[e1,h1,e2,h2,e3,h3,e4,h4,e5,h5,jp,f25]
 cases h6:w6F c
 case true=>simp[e1,h1,e2,h2,e3,h3,e4,h4,e5,h5,e6,h6,jp,f25]
 cases h7:w7F c
 case true=>simp[e1,h1,e2,h2,e3,h3,e4,h4,e5,h5,e6,h6,e7,h7,jp,f25]
 simp[e1,h1,e2,h2,e3,h3,e4,h4,e5,h5,e6,h6,e7,h7,jp,f25]
theorem checkForm_sound:za prog 25 (GC fun c=>int (if jp c=true then 3 else 0)) :=
 zO (fn:=f25) goodfo ⟨_,func25,by kernel_rfl,rfl,by kernel_rfl⟩ false [] _ fun args r h=>by
  obtain⟨c,rfl,hc,rfl⟩:=j5 h
  exact⟨by simp[f25],_,checkForm_eval c hc.1,zM _⟩
noncomputable def cPrevV (p:Option Val) (v:Val):Bool:=match p with
 | none=>false
 | some p=>decide (0≤z8 p v)
def typeF (op:Int) (v:Val):Bool:=v.kind==0||yt op&&v.kind != 2
noncomputable def valF (op:Int):Option Val→List Val→Int
 | _,[]=>0
 | p,v::l=>if v.check=0 then (if typeF op v=true then 6 else if cPrevV p v=true then 8 else valF op (some v) l) else v.check
noncomputable def yG (op:Int) (l:List Val):Int:=if (100:Int)<l.length then 2 else valF op none l
def kO (l:List Val) (k:Nat):Option Val:=if k=0 then none else l[k - 1]?
noncomputable def FIv (f:Int→List Val→PV):List PV→Option PV:=zH (α:=Int×List Val) (fun a=>[int a.1,.sl 5 (a.2.map Val.enc)]) (fun a=>vbs a.2≤lim) (fun a=>f a.1 a.2)
theorem FIv_call (f:Int→List Val→PV) (op:Int) (l:List Val) (hp:Hp) (nx:Nat) (h:vbs l≤lim):zf false [] (FIv f) [int op,.sl 5 (l.map Val.enc)] hp nx=some (f op l,hp,nx) :=
 zK (hp1:=hp) (show zi hp [int op,.sl 5 (l.map Val.enc)]=some ([int op,.sl 5 (l.map Val.enc)],hp) by simp) (zn (enc:=fun a:Int×List Val=>[int a.1,.sl 5 (a.2.map Val.enc)]) (a:=(op,l)) (fun x y e=>by
  obtain⟨x1,x2⟩:=x;obtain⟨y1,y2⟩:=y
  simp only[List.cons.injEq,and_true] at e
  obtain⟨e1,e2⟩:=e
  injection e2 with _ e2
  rw[zG e1,encVs_inj e2]) h) (.inr (by simp))
noncomputable abbrev Ccv2:Ctx:=zF prog [(44,GV fun v=>int v.check),(42,zf false [] (FIb yt)),(45,zf false [] (FCV lim))]
theorem goodcv2:AM.Good Ccv2 (fun g=>[42,45].contains g):=zm mixed ⟨check_sound,by simp,isOrd_sound,fun _=>zg _ _,vcompare_sound lim,fun _=>zg _ _,trivial⟩
@[simp] theorem quietcv2a:wo Ccv2 42:=qv (by rfl) (zg _ _)
theorem checkValues_eval (op:Int) (l:List Val) (h:vbs l≤lim):zj Ccv2 f27 [int op,.sl 5 (l.map Val.enc)]=some (int (yG op l)):=by
 have hlen:=qp l
 unfold lim at h
 refine zb rfl ?_
 by_cases h100:(100:Int)<l.length
 ·have hv:yG op l=2:=by unfold yG;rw[if_pos h100]
  simp[h100,hv,f27]
 have hv:yG op l=valF op none l:=by unfold yG;rw[if_neg h100]
 rw[hv]
 simp[h100]
 refine zy (fun k σ hp nx=>σ 0=int op∧σ 1=.sl 5 (l.map Val.enc)∧σ 11=.sl 5 (l.map Val.enc)∧σ 12=int l.length∧σ 13=int k∧valF op none l=valF op (kO l k) (l.drop k)) l.length
  ⟨by simp,by simp,by simp,by simp,by simp,by simp[kO]⟩ ?_
 rintro k σ hp nx hk ⟨h0,h1,h11,h12,h13,he⟩
 by_cases hlt:k<l.length
 ·have hm:=q8 (List.getElem_mem hlt)
  have hw:IntKind.i64.wrap ((k:Int)+1)=(k:Int)+1:=zh (by omega) (by omega)
  have hck:=fun hp nx=>vi (fun v=>int v.check) l[k] hp nx (by unfold lim;omega)
  rw[List.drop_eq_getElem_cons hlt] at he
  simp only[valF] at he
  have hpn:kO l (k+1)=some l[k]:=by simp[kO,hlt]
  have ety:(l[k].kind==0||yt op&&l[k].kind != 2)=typeF op l[k]:=rfl
  by_cases hz:l[k].check=0
  case neg =>
   rw[if_neg hz] at he
   have hz2:(l[k].check != 0)=true:=by simpa using hz
   simp[h0,h1,h11,h12,h13,hlt,hck,hz2,he,f27]
  rw[if_pos hz] at he
  cases hty:typeF op l[k]
  case true =>
   rw[hty,if_pos rfl] at he
   simp[h0,h1,h11,h12,h13,hlt,hck,hz,ety,hty,he,f27]
  rw[hty,if_neg (by simp)] at he
  by_cases k0:k=0
  ·subst k0
   have hp0:cPrevV (kO l 0) l[0]=false:=rfl
   rw[hp0,if_neg (by simp)] at he
   simp[h0,h1,h11,h12,h13,hlt,hck,hz,ety,hty,hw]
   exact⟨by omega,by rw[he,show kO l 1=some l[0] from hpn];simp⟩
  ·obtain⟨j,rfl⟩:∃j,k=j+1:=⟨k - 1,by omega⟩
   have hj:j<l.length:=by omega
   have hmj:=q8 (List.getElem_mem hj)
   have wj:IntKind.i64.wrap ((j:Int)+1 - 1)=(j:Int):=by rw[zh (by omega) (by omega)];omega
   have wj':IntKind.i64.wrap (j:Int)=(j:Int):=zh (by omega) (by omega)
   have j1:((j:Int)+1).toNat=j+1:=by omega
   have j2:0<(j:Int)+1:=by omega
   have j3:0≤(j:Int)+1:=by omega
   have j4:(j:Int)+1<l.length:=by omega
   have hcm:=fun hp nx=>vO lim l[j] l[j+1] hp nx ⟨by unfold lim;omega,by unfold lim;omega,by unfold lim;omega⟩
   have hpv:cPrevV (kO l (j+1)) l[j+1]=decide (0≤z8 l[j] l[j+1]):=by simp[kO,hj,cPrevV]
   rw[hpv] at he
   by_cases hc:0≤z8 l[j] l[j+1]
   ·have hc':decide (0≤z8 l[j] l[j+1])=true:=by simpa using hc
    rw[if_pos hc'] at he
    simp[h0,h1,h11,h12,h13,hlt,hj,hck,hz,ety,hty,hw,wj,wj',j1,j2,j3,j4,hcm,hc,he,f27]
   ·have hc':¬decide (0≤z8 l[j] l[j+1])=true:=by simpa using hc
    rw[if_neg hc'] at he
    have wk:IntKind.i64.wrap ((j:Int)+1+1)=(j:Int)+1+1:=zh (by omega) (by omega)
    simp[h0,h1,h11,h12,h13,hlt,hj,hck,hz,ety,hty,wk,wj,wj',j1,j2,j3,j4,hcm,hc]
    exact⟨by omega,by rw[he,hpn]⟩
 ·obtain rfl:k=l.length:=by omega
  rw[List.drop_length] at he
  simp only[valF] at he
  simp[h0,h1,h11,h12,h13,he,f27]
theorem checkValues_sound:za prog 27 (zf false [] (FIv fun op l=>int (yG op l))) :=
 zO (fn:=f27) goodcv2 ⟨_,func27,by kernel_rfl,rfl,by kernel_rfl⟩ false [] _ fun args r h=>by
  obtain⟨⟨op,l⟩,rfl,hc,rfl⟩:=ze h
  exact⟨by simp[f27],_,checkValues_eval op l hc,zM _⟩
noncomputable def patF (op:Int) (s:List UInt8):Int:=if (500:Int)<s.length then 2 else if zW 32 126 s=true then (if op=11 then (jo s).2 else 0) else 1
noncomputable def FIs (f:Int→List UInt8→PV):List PV→Option PV:=zH (α:=Int×List UInt8) (fun a=>[int a.1,str a.2]) (fun a=>a.2.length≤lim) (fun a=>f a.1 a.2)
theorem FIs_call (f:Int→List UInt8→PV) (op:Int) (s:List UInt8) (hp:Hp) (nx:Nat) (h:s.length≤lim):zf false [] (FIs f) [int op,str s] hp nx=some (f op s,hp,nx) :=
 zK rfl (zn (enc:=fun a:Int×List UInt8=>[int a.1,str a.2]) (a:=(op,s)) (fun x y e=>by
  obtain⟨x1,x2⟩:=x;obtain⟨y1,y2⟩:=y
  simp only[List.cons.injEq,and_true] at e
  rw[zG e.1,qt e.2]) h) (.inr (by simp))
noncomputable abbrev Cpt:Ctx:=zF prog [(46,zf false [] (FSP1 rrP))]
theorem goodpt:AM.Good Cpt (fun g=>([]:List Nat).contains g):=zm mixed ⟨readRange_sound,by simp,trivial⟩
theorem checkPattern_eval (op:Int) (s:List UInt8) (h:s.length≤lim):zj Cpt f29 [int op,str s]=some (int (patF op s)):=by
 unfold lim at h
 refine zb rfl ?_
 by_cases h500:(500:Int)<s.length
 ·have hv:patF op s=2:=by unfold patF;rw[if_pos h500]
  simp[h500,hv,f29]
 have hrr:=fun hp nx=>yb rrP s hp nx (by unfold lim;omega)
 simp only[rrP] at hrr
 have hv:patF op s=if zW 32 126 s=true then (if op=11 then (jo s).2 else 0) else 1:=by unfold patF;rw[if_neg h500]
 simp[h500]
 refine zy (fun k σ hp nx=>σ 0=int op∧σ 1=str s∧σ 12=int s.length∧σ 13=int k∧zW 32 126 s=zW 32 126 (s.drop k)) s.length ⟨by simp,by simp,by simp,by simp,by simp⟩ ?_
 rintro k σ hp nx hk ⟨h0,h1,h12,h13,he⟩
 by_cases hlt:k<s.length
 ·have hw:IntKind.i64.wrap ((k:Int)+1)=(k:Int)+1:=zh (by omega) (by omega)
  rw[jz hlt] at he
  have ho:=pr_out 32 126 s[k]
  simp only[Int.cast_ofNat_Int] at ho
  cases hc:pr 32 126 s[k]
  ·have he:zW 32 126 s=false:=by rw[he,hc];rfl
   rw[he,if_neg (by simp)] at hv
   simp[h0,h1,h12,h13,hlt,hv,ho,hc,f29]
  ·simp[h0,h1,h12,h13,hlt,ho,hc,hw]
   exact⟨hlt,by rw[he,hc];rfl⟩
 ·obtain rfl:k=s.length:=by omega
  have he:zW 32 126 s=true:=by rw[he,List.drop_length];rfl
  rw[he,if_pos rfl] at hv
  by_cases h11:op=11
  ·rw[if_pos h11] at hv
   subst h11
   simp[h0,h1,h12,h13,hrr,hv,f29]
  ·rw[if_neg h11] at hv
   have h11':(op==11)=false:=by simpa using h11
   simp[h0,h1,h12,h13,h11',hv,f29]
theorem checkPattern_sound:za prog 29 (zf false [] (FIs fun op s=>int (patF op s))) :=
 zO (fn:=f29) goodpt ⟨_,func29,by kernel_rfl,rfl,by kernel_rfl⟩ false [] _ fun args r h=>by
  obtain⟨⟨op,s⟩,rfl,hc,rfl⟩:=ze h
  exact⟨by simp[f29],_,checkPattern_eval op s hc,zM _⟩
def kindC (c:Cnd):Bool:=!inB c.kind 1 5
def opC (c:Cnd):Bool:=c.kind==4&&!inB c.op 1 12
def nameC (c:Cnd):Bool:=(c.kind==4&&!qK c.attr)||(c.kind==5&&!qK c.name)
def patC (c:Cnd):Bool:=c.kind==4&&js c.op
noncomputable def wU (c:Cnd):Int:=if (kindC c||opC c)=true then 4 else if jp c=true then 3 else if nameC c=true then 5 else if yG c.op c.vals=0 then (if patC c=true then patF c.op c.pat else 0) else yG c.op c.vals
mutual
noncomputable def Cnd.fault:Cnd→Int
 | .mk k a o v p n l=>if wU (.mk k a o v p n l)=0 then faultC l else wU (.mk k a o v p n l)
noncomputable def faultC:List Cnd→Int
 | []=>0
 | c::l=>if c.fault=0 then faultC l else c.fault
end
theorem cfault_eq (c:Cnd):c.fault=if wU c=0 then faultC c.args else wU c:=by cases c;simp only[Cnd.fault];rfl
theorem xt {l:List Cnd} {k:Nat} (h:k<l.length):faultC (l.drop k)=if l[k].fault=0 then faultC (l.drop (k+1)) else l[k].fault:=by
 rw[List.drop_eq_getElem_cons h,faultC]
noncomputable abbrev Ccp2 (n:Nat):Ctx:=zF prog [(13,zf false [] (FC (fun c=>int c.fault) n)),(24,zf false [] (F3 inB)),(25,GC fun c=>int (if jp c=true then 3 else 0)),(26,zf false [] (FS qK)),
 (27,zf false [] (FIv fun op l=>int (yG op l))),(28,zf false [] (FIb js)),(29,zf false [] (FIs fun op s=>int (patF op s)))]
@[simp] theorem quietcp2a (n:Nat):wo (Ccp2 n) 24:=qv (by rfl) (zg _ _)
@[simp] theorem quietcp2b (n:Nat):wo (Ccp2 n) 26:=qv (by rfl) (zg _ _)
@[simp] theorem quietcp2c (n:Nat):wo (Ccp2 n) 28:=qv (by rfl) (zg _ _)
theorem ccheckPart_eval (n:Nat) (c:Cnd) (h:c.cb≤lim∧c.cb≤n+1):zj (Ccp2 n) f13 [.agg c.enc]=some (int c.fault):=by
 have hcb:=cb_eq c
 have hl1:=yo c.args
 obtain⟨ha,hb⟩:=h
 have hf:=cfault_eq c
 have hfo:=fun hp nx=>yC (fun c=>int (if jp c=true then 3 else 0)) c hp nx ha
 have hva:=fun hp nx=>FIv_call (fun op l=>int (yG op l)) c.op c.vals hp nx (by omega)
 have hpa:=fun hp nx=>FIs_call (fun op s=>int (patF op s)) c.op c.pat hp nx (by omega)
 have hna:c.attr.length≤lim:=by omega
 have hnn:c.name.length≤lim:=by omega
 unfold lim at ha
 refine zb rfl ?_
 have e1:(!inB c.kind 1 5)=kindC c:=rfl
 have e2:(c.kind==4&&!inB c.op 1 12)=opC c:=rfl
 have e3:((c.kind==4&&!qK c.attr)||(c.kind==5&&!qK c.name))=nameC c:=rfl
 have e4:(c.kind==4&&js c.op)=patC c:=rfl
 cases c1:kindC c
 case true=>simp[e1,c1,hf,wU,f13]
 cases c2:opC c
 case true=>simp[e1,c1,e2,c2,hf,wU,f13]
 cases c3:jp c
 case true=>simp[e1,c1,e2,c2,hfo,c3,hf,wU,f13]
 cases c4:nameC c
 case true=>simp[e1,c1,e2,c2,hfo,c3,hna,hnn,e3,c4,hf,wU,f13]
 by_cases c5:yG c.op c.vals=0
 case neg =>
  have c5':(yG c.op c.vals != 0)=true:=by simpa using c5
  simp[e1,c1,e2,c2,hfo,c3,hna,hnn,e3,c4,hva,c5,c5',hf,wU,f13]
 have hbody:∀(hh:wU c=0),c.fault=faultC c.args:=fun hh=>by rw[hf,if_pos hh]
 cases c6:patC c
 case false =>
  have hh:wU c=0:=by simp[wU,c1,c2,c3,c4,c5,c6]
  have hf':=hbody hh
  simp[e1,c1,e2,c2,hfo,c3,hna,hnn,e3,c4,hva,c5,e4,c6]
  refine zy (fun k σ hp nx=>σ 73=.sl 7 (c.args.map Cnd.enc)∧σ 74=int c.args.length∧σ 75=int k∧faultC c.args=faultC (c.args.drop k)) c.args.length ⟨by simp,by simp,by simp,by simp⟩ ?_
  rintro k σ hp nx hk ⟨h73,h74,h75,he⟩
  by_cases hlt:k<c.args.length
  ·have hm:=vk (List.getElem_mem hlt)
   have hw:IntKind.i64.wrap ((k:Int)+1)=(k:Int)+1:=zh (by omega) (by omega)
   have hcall:=fun hp nx=>FC_call (fun c=>int c.fault) n c.args[k] hp nx ⟨by unfold lim;omega,by omega⟩
   rw[xt hlt] at he
   by_cases hz:c.args[k].fault=0
   ·rw[if_pos hz] at he
    simp[h73,h74,h75,hlt,hcall,hz,hw]
    exact⟨by omega,he⟩
   ·rw[if_neg hz] at he
    have hz2:(c.args[k].fault != 0)=true:=by simpa using hz
    simp[h73,h74,h75,hlt,hcall,hz2,hf',he,f13]
  ·obtain rfl:k=c.args.length:=by omega
   rw[List.drop_length] at he
   have he:faultC c.args=0:=by rw[he];rfl
   simp[h73,h74,h75,hf',he,f13]
 case true =>
  by_cases c7:patF c.op c.pat=0
  case neg =>
   have c7':(patF c.op c.pat != 0)=true:=by simpa using c7
   simp[e1,c1,e2,c2,hfo,c3,hna,hnn,e3,c4,hva,c5,e4,c6,hpa,c7,c7',hf,wU,f13]
  have hh:wU c=0:=by simp[wU,c1,c2,c3,c4,c5,c6,c7]
  have hf':=hbody hh
  simp[e1,c1,e2,c2,hfo,c3,hna,hnn,e3,c4,hva,c5,e4,c6,hpa,c7]
  refine zy (fun k σ hp nx=>σ 73=.sl 7 (c.args.map Cnd.enc)∧σ 74=int c.args.length∧σ 75=int k∧faultC c.args=faultC (c.args.drop k)) c.args.length ⟨by simp,by simp,by simp,by simp⟩ ?_
  rintro k σ hp nx hk ⟨h73,h74,h75,he⟩
  by_cases hlt:k<c.args.length
  ·have hm:=vk (List.getElem_mem hlt)
   have hw:IntKind.i64.wrap ((k:Int)+1)=(k:Int)+1:=zh (by omega) (by omega)
   have hcall:=fun hp nx=>FC_call (fun c=>int c.fault) n c.args[k] hp nx ⟨by unfold lim;omega,by omega⟩
   rw[xt hlt] at he
   by_cases hz:c.args[k].fault=0
   ·rw[if_pos hz] at he
    simp[h73,h74,h75,hlt,hcall,hz,hw]
    exact⟨by omega,he⟩
   ·rw[if_neg hz] at he
    have hz2:(c.args[k].fault != 0)=true:=by simpa using hz
    simp[h73,h74,h75,hlt,hcall,hz2,hf',he,f13]
  ·obtain rfl:k=c.args.length:=by omega
   rw[List.drop_length] at he
   have he:faultC c.args=0:=by rw[he];rfl
   simp[h73,h74,h75,hf',he,f13]
set_option maxRecDepth 100000 in
theorem ccheckPart_sound:∀n,za prog 13 (zf false [] (FC (fun c=>int c.fault) n)):=by
 intro n
 induction n with
 | zero=>exact FC_zero ⟨_,func13,by kernel_rfl,by kernel_rfl⟩
 | succ n ih =>
   have hg:AM.Good (Ccp2 n) (fun g=>[24,26,28].contains g):=zm mixed ⟨ih,by simp,yy,fun _=>zg _ _,checkForm_sound,by simp,isName_sound,fun _=>zg _ _,checkValues_sound,by simp,xr,fun _=>zg _ _,checkPattern_sound,by simp,trivial⟩
   exact zO (fn:=f13) hg ⟨_,func13,by kernel_rfl,rfl,by kernel_rfl⟩ false [] _ fun args r h=>by
    obtain⟨c,rfl,hc,rfl⟩:=j5 h
    exact⟨Nat.le_trans (Nat.le_refl 1) (by decide),_,ccheckPart_eval n c hc,zM _⟩
noncomputable def Cnd.check (c:Cnd):Int:=if (decide ((200:Int)<c.parts)||decide ((20:Int)<c.levels))=true then 2 else c.fault
noncomputable abbrev Ccch:Ctx:=zF prog [(13,GC fun c=>int c.fault),(12,GC fun c=>.tup [int c.parts,int c.levels])]
theorem ccheck_sound:za prog 6 (GC fun c=>int c.check) :=
 zO (fn:=Tryz.f6) (zm (q:=[]) mixed ⟨ccheckPart_sound lim,by simp,measure_sound lim,by simp,trivial⟩:AM.Good Ccch _) ⟨_,func6,by kernel_rfl,rfl,by kernel_rfl⟩ false [] _ fun args r h=>by
  obtain⟨c,rfl,hc,rfl⟩:=j5 h
  have h1:=fun hp nx=>yC (fun c=>int c.fault) c hp nx hc.1
  have h2:=fun hp nx=>yC (fun c=>.tup [int c.parts,int c.levels]) c hp nx hc.1
  refine⟨by simp[Tryz.f6],_,zb rfl ?_,zM _⟩
  cases hk:(decide ((200:Int)<c.parts)||decide ((20:Int)<c.levels))
  ·simp[h1,h2,hk,Tryz.f6,Cnd.check]
  ·simp[h1,h2,hk,Tryz.f6,Cnd.check]
end Go.Proofs.YtpeaooooimfihaaGreatDoor
namespace Go.Proofs.YtpeaooooimfihaaGreatDoor
open Go.Proofs.Tryz
open Go.RowKit Go.AM Go.PrLaw
def sgnB:List (List UInt8):=[[],[104,97,115],[61],[60],[60,61],[62],[62,61],[112,114,101,102,105,120],[115,117,102,102,105,120],[99,111,110,116,97,105,110,115],[108,105,107,101],[118,101,114,115,105,111,110],[111,118,101,114,108,97,112,115]]
def sgn (op:Int):List UInt8:=(sgnB[op.toNat]?).getD []
def valsB (l:List Val):List UInt8:=if l=[] then [110,101,118,101,114] else Lib.join (l.map Val.show) [32,124,32]
def tailB (c:Cnd):List UInt8:=if js c.op=true then quoB c.pat else valsB c.vals
def kG (c:Cnd):List UInt8:=if c.op=1 then [104,97,115,32,46]++c.attr else [46]++(c.attr++([32]++(sgn c.op++([32]++tailB c))))
def xu (k:Int):List UInt8:=if k=1 then [97,108,108] else if k=2 then [97,110,121] else [110,111,116]
mutual
def Cnd.show:Cnd→List UInt8
 | .mk k a o v p n l=>if k=4 then kG (.mk k a o v p n l) else if k=5 then [105,110,32]++n else xu k++([40]++(Lib.join (showCs l) [44,32]++[41]))
def showCs:List Cnd→List (List UInt8)
 | []=>[]
 | c::l=>c.show::showCs l
end
theorem showCs_map:∀l:List Cnd,showCs l=l.map Cnd.show
 | []=>rfl
 | c::l=>by simp[showCs,showCs_map l]
theorem jF (c:Cnd):c.show=if c.kind=4 then kG c else if c.kind=5 then [105,110,32]++c.name else xu c.kind++([40]++(Lib.join (c.args.map Cnd.show) [44,32]++[41])):=by
 cases c;rw[Cnd.show,showCs_map];rfl
theorem cshow_mk (k:Int) (a:List UInt8) (o:Int) (v:List Val) (p n:List UInt8) (l:List Cnd):(Cnd.mk k a o v p n l).show=if k=4 then kG (.mk k a o v p n l) else if k=5 then [105,110,32]++n else xu k++([40]++(Lib.join (l.map Cnd.show) [44,32]++[41])):=jF _
theorem cfault_mk (k:Int) (a:List UInt8) (o:Int) (v:List Val) (p n:List UInt8) (l:List Cnd):(Cnd.mk k a o v p n l).fault=if wU (.mk k a o v p n l)=0 then faultC l else wU (.mk k a o v p n l):=cfault_eq _
theorem headC_mk (k:Int) (a:List UInt8) (o:Int) (v:List Val) (p n:List UInt8) (l:List Cnd):wU (.mk k a o v p n l)=if (kindC (.mk k a o v p n l)||opC (.mk k a o v p n l))=true then 4 else if jp (.mk k a o v p n l)=true then 3 else if nameC (.mk k a o v p n l)=true then 5 else if yG o v=0 then (if patC (.mk k a o v p n l)=true then patF o p else 0) else yG o v:=rfl
theorem kindC_mk (k:Int) (a:List UInt8) (o:Int) (v:List Val) (p n:List UInt8) (l:List Cnd):kindC (.mk k a o v p n l)=!inB k 1 5:=rfl
theorem opC_mk (k:Int) (a:List UInt8) (o:Int) (v:List Val) (p n:List UInt8) (l:List Cnd):opC (.mk k a o v p n l)=(k==4&&!inB o 1 12):=rfl
theorem w4F_mk (k:Int) (a:List UInt8) (o:Int) (v:List Val) (p n:List UInt8) (l:List Cnd):w4F (.mk k a o v p n l)=(k==4&&!kN o&&decide (0<v.length)):=rfl
inductive COk:Cnd→Prop
 | mk {k o:Int} {a p n:List UInt8} {v:List Val} {l:List Cnd}:1≤k→k≤5→(k=4→1≤o∧o≤12)→(∀x∈v,VOk x)→(k=4→kN o=false→v=[])→(∀x∈l,COk x)→COk (.mk k a o v p n l)
theorem COk.kind {c:Cnd} (h:COk c):1≤c.kind∧c.kind≤5:=by cases h;exact⟨by assumption,by assumption⟩
theorem COk.op {c:Cnd} (h:COk c) (hk:c.kind=4):1≤c.op∧c.op≤12:=by cases h with | mk _ _ h3 _ _ _=>exact h3 hk
theorem COk.vals {c:Cnd} (h:COk c):∀x∈c.vals,VOk x:=by cases h with | mk _ _ _ h4 _ _=>exact h4
theorem COk.none {c:Cnd} (h:COk c) (hk:c.kind=4) (hv:kN c.op=false):c.vals=[]:=by cases h with | mk _ _ _ _ h5 _=>exact h5 hk hv
theorem COk.args {c:Cnd} (h:COk c):∀x∈c.args,COk x:=by cases h with | mk _ _ _ _ _ h6=>exact h6
theorem sgn_len (op:Int):(sgn op).length≤8:=by
 unfold sgn
 by_cases h:op.toNat<13
 ·have key:∀k:Nat,k<13→((sgnB[k]?).getD []).length≤8:=by decide
  exact key _ h
 ·rw[List.getElem?_eq_none (by simp[sgnB];omega)]
  simp
theorem wordC_len (k:Int):(xu k).length≤3:=by
 unfold xu
 split
 ·simp
 ·split<;>simp
theorem valsB_len (l:List Val) (h:∀x∈l,VOk x):(valsB l).length≤30*vbs l+5:=by
 unfold valsB
 split
 ·simp
 ·have key:∀l:List Val,(∀x∈l,VOk x)→((l.map Val.show).map fun x=>([32,124,32]:List UInt8).length+x.length).sum≤30*vbs l:=by
   intro l
   induction l with
   | nil=>intro _;simp
   | cons v l ih =>
     intro hh
     have a:=vN v (hh v (by simp))
     have b:=ih fun x hx=>hh x (by simp[hx])
     simp only[List.map_cons,List.sum_cons,vbs,List.length_cons,List.length_nil] at b ⊢
     omega
  have j:=kx [32,124,32] (l.map Val.show)
  have:=key l h
  omega
theorem testB_len (c:Cnd) (h:∀x∈c.vals,VOk x):(kG c).length+10≤30*(1+c.attr.length+vbs c.vals+c.pat.length):=by
 have h1:=sgn_len c.op
 have h2:=valsB_len c.vals h
 have h3:=jA c.pat
 unfold kG tailB
 split
 ·simp only[List.length_append,List.length_cons,List.length_nil];omega
 ·split<;>simp only[List.length_append,List.length_cons,List.length_nil]<;>omega
theorem cshow_len (c:Cnd) (h:COk c):c.show.length+10≤30*c.cb:=by
 induction c using Cnd.ind with
 | h k a o v p n l hl =>
   have hb:=cb_eq (.mk k a o v p n l)
   have ht:=testB_len (.mk k a o v p n l) h.vals
   have hw:=wordC_len k
   rw[cshow_mk]
   simp only[Cnd.attr,Cnd.vals,Cnd.pat,Cnd.name,Cnd.args] at hb ht
   split
   ·omega
   split
   ·simp only[List.length_append,List.length_cons,List.length_nil];omega
   ·have key:∀l:List Cnd,(∀x∈l,x.show.length+10≤30*x.cb)→((l.map Cnd.show).map fun x=>([44,32]:List UInt8).length+x.length).sum≤30*cbs l:=by
     intro l
     induction l with
     | nil=>intro _;simp
     | cons v l ih =>
       intro hh
       have a:=hh v (by simp)
       have b:=ih fun x hx=>hh x (by simp[hx])
       simp only[List.map_cons,List.sum_cons,cbs,List.length_cons,List.length_nil] at b ⊢
       omega
    have j:=kx [44,32] (l.map Cnd.show)
    have:=key l fun x hx=>hl x hx (h.args x hx)
    simp only[List.length_append,List.length_cons,List.length_nil]
    omega
theorem vcheck_fault (v:Val) (h:v.check=0):v.fault=0:=by
 unfold Val.check at h
 split at h
 ·simp at h
 ·exact h
theorem valF_ok (op:Int):∀(l:List Val) (p:Option Val),valF op p l=0→∀x∈l,VOk x
 | [],_,_,x,hx=>by cases hx
 | v::l,p,h,x,hx=>by
   rw[valF] at h
   split at h
   case isFalse hc=>exact (hc h).elim
   rename_i hc
   split at h
   ·simp at h
   split at h
   ·simp at h
   rcases List.mem_cons.1 hx with rfl | hx
   ·exact vok_of_fault _ (vcheck_fault _ hc)
   ·exact valF_ok op l _ h x hx
theorem cok_of_fault (c:Cnd) (h:c.fault=0):COk c:=by
 induction c using Cnd.ind with
 | h k a o v p n l hl =>
   rw[cfault_mk] at h
   split at h
   case isFalse hh=>exact (hh h).elim
   rename_i hh
   rw[headC_mk] at hh
   split at hh
   ·simp at hh
   rename_i h1
   split at hh
   ·simp at hh
   rename_i h2
   split at hh
   ·simp at hh
   split at hh
   case isFalse hv=>exact (hv hh).elim
   rename_i hv
   have hk:kindC (.mk k a o v p n l)=false:=by cases hx:kindC (.mk k a o v p n l)<;>simp_all
   have ho:opC (.mk k a o v p n l)=false:=by cases hx:opC (.mk k a o v p n l)<;>simp_all
   have h4:w4F (.mk k a o v p n l)=false:=by cases hx:w4F (.mk k a o v p n l)<;>simp_all[jp]
   rw[kindC_mk,Bool.not_eq_false'] at hk
   rw[opC_mk] at ho
   rw[w4F_mk] at h4
   unfold inB at hk
   rw[Bool.and_eq_true] at hk
   refine .mk (of_decide_eq_true hk.1) (of_decide_eq_true hk.2) (fun e=>?_) ?_ (fun e hu=>?_) ?_
   ·subst e
    have ho2:(decide (1≤o)&&decide (o≤12))=true:=by
     cases hb:inB o 1 12
     ·rw[hb] at ho;exact absurd ho (by decide)
     ·exact hb
    rw[Bool.and_eq_true] at ho2
    exact⟨of_decide_eq_true ho2.1,of_decide_eq_true ho2.2⟩
   ·unfold yG at hv
    split at hv
    ·simp at hv
    ·exact valF_ok o v none hv
   ·subst e
    rw[hu] at h4
    cases v with
    | nil=>rfl
    | cons x v=>simp at h4
   ·have key:∀l:List Cnd,(∀x∈l,x.fault=0→COk x)→faultC l=0→∀x∈l,COk x:=by
     intro l
     induction l with
     | nil=>intro _ _ x hx;cases hx
     | cons y l ih =>
       intro a b x hx
       rw[faultC] at b
       split at b
       ·rename_i hy
        rcases List.mem_cons.1 hx with rfl | hx
        ·exact a _ (by simp) hy
        ·exact ih (fun z hz=>a z (by simp[hz])) b x hx
       ·rename_i hy;exact (hy b).elim
    exact key l hl h
theorem cok_of_check (c:Cnd) (h:c.check=0):COk c:=by
 unfold Cnd.check at h
 split at h
 ·simp at h
 ·exact cok_of_fault c h
end Go.Proofs.YtpeaooooimfihaaGreatDoor
