/-
ReadRange.
rule.CheckCond: what it computes.
-/
import Derived.Test.YtdkfdoeijcfbhaaGreatDoorG18
import Derived.Test.YtdkfdoeijcfbhaaGreatDoorG12
import Derived.Test.YtdkfdoeijcfbhaaGreatDoorG15
set_option maxRecDepth 8000
namespace Go.AM
open Go.RowKit
def Ji (P:Program) (l:Tab) (g:FuncId) (it:jG):Ctx:=⟨P,lookup l,fun _=>[],fun _=>[],fun _=>false,fun _=>[],fun k=>if k=g then some it else none⟩
@[simp] theorem mkCtxI_P (P:Program) (l:Tab) (g:FuncId) (it:jG):(Ji P l g it).P=P:=rfl
@[simp] theorem call_mkI (P:Program) (l:Tab) (k:FuncId) (it:jG) (hp:Hp) (nx g:Nat) (x y xs:List PV):wu (Ji P l k it) hp nx (some (.fn (.func g) x y)) xs=(lookup l g).bind fun s=>s (x++xs++y) hp nx:=by
 unfold wu Ji
 simp only
 cases lookup l g<;>rfl
@[simp] theorem EvC_region_mkI (P:Program) (l:Tab) (k:FuncId) (it:jG) (i:Nat) (ops:Array Oper) (d:Bool) (st:St) (K:Exit→St→Prop):EvC (Ji P l k it) (.region i ops d) st K=EvL (Ji P l k it) ops ops.toList st (Yi K):=vk _ i ops d st K rfl rfl
theorem good_ofI {P:Program} {l:Tab} {q:List Nat} {k:FuncId} {it:jG} (hm:P.follows .mixedOrders=true) (h:zaq P q l) (hi:xt P k it):AM.Good (Ji P l k it) (fun g=>q.contains g) :=
 let g:=zk hm h
 ⟨g.spec,g.quiet,g.mixed,(fun _ _ h=>by cases h),(fun j it' h=>by
  have:(if j=k then some it else none)=some it':=h
  split at this
  ·rename_i e
   injection this with this
   subst this;subst e
   exact hi
  ·cases this)⟩
@[simp] theorem asgK_n (C:Ctx) (b:Code) (K:Exit→St→Prop) (st:St):asgK C b K .normal st=EvC C b st K:=rfl
@[simp] theorem rngK_n (I:Nat→Hp→Nat→Prop) (k:Nat) (σ:Nat→PV) (K:Exit→St→Prop) (st:St):rngK I k σ K .normal st=I (k+1) st.hp st.nx:=rfl
@[simp] theorem rngK_r (I:Nat→Hp→Nat→Prop) (k:Nat) (σ:Nat→PV) (K:Exit→St→Prop) (st:St):rngK I k σ K .ret st=K .ret ⟨σ,st.hp,st.nx⟩:=rfl
theorem jl {hp:Hp} {nx e s:Nat} {v:PV} {xs:List (List PV)} (h:OwnS hp nx e s v xs) {j:Nat} {b:Blk} (hb:hp j=some b) (ha:b.arr=false):∀n,v≠.own j 0 n:=by
 rcases h with⟨rfl,_⟩ | ⟨id,h1,rfl,h2⟩
 ·intro n e;cases e
 ·intro n e
  injection e with e
  subst e
  rw[h2] at hb
  injection hb with hb
  subst hb
  cases ha
end Go.AM
namespace Go.Proofs.YtdkfdoeijcfbhaaGreatDoor
open Go.Proofs.Tryz
open Go.RowKit Go.AM
noncomputable def rrP (t:List UInt8):PV:=.tup [.sl 11 (encR (ku t).1),int (ku t).2]
set_option maxRecDepth 100000 in
theorem splitSeq_sound:za prog 185 (hRun C0 f185):=ql (code:=_) qA ⟨func185,by kernel_rfl,rfl,by kernel_rfl⟩
noncomputable abbrev Csq:Ctx:=zF prog [(185,hRun C0 f185)]
theorem goodsq:AM.Good Csq (fun g=>([]:List Nat).contains g):=zk mixed ⟨splitSeq_sound,by simp,trivial⟩
set_option maxRecDepth 100000 in
theorem sseq_sound:za prog 135 (hRun Csq f135):=ql (code:=_) goodsq ⟨func135,by kernel_rfl,rfl,by kernel_rfl⟩
def hpSq (t sep:List UInt8) (hp:Hp) (nx:Nat):Hp:=upd (upd (upd hp nx (some ⟨9,1,false,[[str t]]⟩)) (nx+1) (some ⟨9,1,false,[[str sep]]⟩)) (nx+1+1) (some ⟨3,1,false,[[int 0]]⟩)
theorem splitSeq_run (t sep:List UInt8) (hp:Hp) (nx:Nat):hRun C0 f185 [str t,str sep,int 0] hp nx=some (.fn (.func 249) [] [.ref (nx+1) 0 0,.ref nx 0 0,.ref (nx+1+1) 0 0],hpSq t sep hp nx,nx+1+1+1):=by
 unfold hRun
 rw[if_pos (by simp[f185])]
 refine wK rfl ?_
 simp[hpSq,f185]
theorem sseq_run (t sep:List UInt8) (hp:Hp) (nx:Nat):hRun Csq f135 [str t,str sep] hp nx=some (.fn (.func 249) [] [.ref (nx+1) 0 0,.ref nx 0 0,.ref (nx+1+1) 0 0],hpSq t sep hp nx,nx+1+1+1):=by
 have h1:=fun hp nx=>splitSeq_run t sep hp nx
 unfold hRun
 rw[if_pos (by simp[f135])]
 refine wK rfl ?_
 simp[h1,f135]
def HasR (hp:Hp) (nx:Nat) (v:PV) (m:List Str):Prop:=v=.sl 11 (encR m)∨(v=.nil∧m=[])∨∃id,id<nx∧v=.own id 0 (encR m).length∧hp id=some ⟨191,11,true,encR m⟩
theorem HasR.frz {hp:Hp} {nx:Nat} {v:PV} {m:List Str} (h:HasR hp nx v m):∃y hp1,zK hp v=some (y,hp1)∧(Sh.s 11 spat).fix y=.sl 11 (encR m)∧(∀j,(∀n,v≠.own j 0 n)→hp1 j=hp j)∧∀j b,hp1 j=some b→hp j=some b:=by
 rcases h with rfl | ⟨rfl,rfl⟩ | ⟨id,h1,rfl,h2⟩
 ·exact⟨_,hp,rfl,Zk m,fun _ _=>rfl,fun _ _ h=>h⟩
 ·exact⟨_,hp,rfl,rfl,fun _ _=>rfl,fun _ _ h=>h⟩
 ·refine⟨.sl 11 (encR m),upd hp id none,by simp[h2],Zk m,fun j hj=>zl _ _ _ _ fun e=>hj _ (by subst e;rfl),fun j b hb=>?_⟩
  by_cases e:j=id
  ·subst e;rw[qb] at hb;cases hb
  ·rwa [zZ _ _ _ _ e] at hb
theorem HasR.keep {hp hp':Hp} {nx nx':Nat} {v:PV} {m:List Str} (h:HasR hp nx v m) (hn:nx≤nx') (hh:∀id,id<nx→(∀n,v=.own id 0 n→hp' id=hp id)):HasR hp' nx' v m:=by
 rcases h with rfl | ⟨rfl,rfl⟩ | ⟨id,h1,rfl,h2⟩
 ·exact .inl rfl
 ·exact .inr (.inl ⟨rfl,rfl⟩)
 ·exact .inr (.inr ⟨id,by omega,rfl,by rw[hh id h1 _ rfl];exact h2⟩)
theorem HasR.len {hp:Hp} {nx:Nat} {v:PV} {m:List Str} (h:HasR hp nx v m):lenA prog 123 v=some (int m.length):=by
 rcases h with rfl | ⟨rfl,rfl⟩ | ⟨id,h1,rfl,h2⟩<;>simp[encR]
theorem HasR.box {hp:Hp} {nx:Nat} {v:PV} {m:List Str} (h:HasR hp nx v m) {j:Nat} {b:Blk} (hb:hp j=some b) (he:b.e≠191):∀n,v≠.own j 0 n:=by
 rcases h with rfl | ⟨rfl,rfl⟩ | ⟨id,h1,rfl,h2⟩
 ·intro n e;cases e
 ·intro n e;cases e
 ·intro n e
  injection e with e
  subst e
  rw[h2] at hb
  injection hb with hb
  subst hb
  exact he rfl
theorem HasR.lt {hp:Hp} {nx:Nat} {v:PV} {m:List Str} (h:HasR hp nx v m) {j n:Nat} (e:v=.own j 0 n):j<nx:=by
 rcases h with rfl | ⟨rfl,rfl⟩ | ⟨id,h1,rfl,h2⟩
 ·cases e
 ·cases e
 ·injection e with e;omega
theorem st_call (c:Cpn) (hp:Hp) (nx:Nat) (h:c.ok):zJ [.g mpat] (FCm strP) [.agg c.enc] hp nx=some (strP c,hp,nx) :=
 yi (show zj hp [.agg c.enc]=some ([.agg c.enc],hp) by simp[Cpn.enc]) (by
  have e1:(Sh.g mpat).fix (.agg c.enc)=.agg c.enc:=by simp[Cpn.enc]
  show FCm strP [(Sh.g mpat).fix (.agg c.enc)]=_
  rw[e1]
  exact zm (enc:=fun v:Cpn=>[PV.agg v.enc]) (a:=c) (fun a b e=>by simp only[List.cons.injEq,and_true] at e;injection e with e;exact cpenc_inj e) h) (.inr (by simp[Cpn.enc]))
theorem zbv (f:Bool→Bool→Bool) (g:Nat) (hg:(f=and∧g=140)∨(f=or∧g=141)) {hp:Hp} {nx:Nat} {v w:PV} {a b:List Str} (ha:HasR hp nx v a) (hb:HasR hp nx w b) (hne:∀id n k,v=.own id 0 n→w≠.own id 0 k) (h1:wC a) (h2:wC b) :
  ∃x hp' nx',yr [.s 11 spat,.s 11 spat] FCmb [v,w,.fn (.func g) [] []] hp nx=some (x,hp',nx')∧HasR hp' nx' x (yC f a b)∧nx≤nx'∧(∀j,j<nx→(∀n,v≠.own j 0 n)→(∀n,w≠.own j 0 n)→hp' j=hp j)∧(∀n j,x=.own j 0 n→nx≤j)∧∀s es,x≠.sl s es:=by
 obtain⟨y,hp1,f1,e1,k1,_⟩:=ha.frz
 have hb':HasR hp1 nx w b:=hb.keep (Nat.le_refl _) fun id _ n e=>k1 id fun n' e'=>hne id n' n e' e
 obtain⟨z,hp2,f2,e2,k2,_⟩:=hb'.frz
 have hfr:zj hp [v,w,.fn (.func g) [] []]=some ([y,z,.fn (.func g) [] []],hp2):=by
  simp only[zj,f1,f2]
  rfl
 have hF:FCmb (fixL [.s 11 spat,.s 11 spat] (qc [] [y,z,.fn (.func g) [] []]))=some (xI f a b):=by
  show FCmb [(Sh.s 11 spat).fix y,(Sh.s 11 spat).fix z,.fn (.func g) [] []]=_
  rw[e1,e2]
  rcases hg with⟨rfl,rfl⟩ | ⟨rfl,rfl⟩
  ·have:=zm (enc:=fun a:List Str×List Str=>[PV.sl 11 (encR a.1),.sl 11 (encR a.2),.fn (.func 140) [] []]) (pre:=fun a=>wC a.1∧wC a.2) (out:=fun a=>xI and a.1 a.2) (a:=(a,b)) (zc3 _) ⟨h1,h2⟩
   unfold FCmb
   rw[this]
  ·have:=zm (enc:=fun a:List Str×List Str=>[PV.sl 11 (encR a.1),.sl 11 (encR a.2),.fn (.func 141) [] []]) (pre:=fun a=>wC a.1∧wC a.2) (out:=fun a=>xI or a.1 a.2) (a:=(a,b)) (zc3 _) ⟨h1,h2⟩
   have hno:zH (α:=List Str×List Str) (fun a=>[PV.sl 11 (encR a.1),.sl 11 (encR a.2),.fn (.func 140) [] []]) (fun a=>wC a.1∧wC a.2) (fun a=>xI and a.1 a.2) [PV.sl 11 (encR a),.sl 11 (encR b),.fn (.func 141) [] []]=none:=by
    cases hh:zH (α:=List Str×List Str) (fun a=>[PV.sl 11 (encR a.1),.sl 11 (encR a.2),.fn (.func 140) [] []]) (fun a=>wC a.1∧wC a.2) (fun a=>xI and a.1 a.2) [PV.sl 11 (encR a),.sl 11 (encR b),.fn (.func 141) [] []] with
    | none=>rfl
    | some r =>
      obtain⟨_,e,_⟩:=ze hh
      simp at e
   unfold FCmb
   rw[hno]
   exact this
 unfold yr wg
 by_cases hz:yC f a b=[]
 ·have hF':=hF
  unfold xI at hF'
  rw[if_pos hz] at hF'
  simp only[hfr,hF']
  exact⟨_,_,_,rfl,.inr (.inl ⟨rfl,hz⟩),Nat.le_refl _,fun j _ q1 q2=>(k2 j q2).trans (k1 j q1),fun n j e=>(by cases e),fun s es e=>(by cases e)⟩
 ·have hF':=hF
  unfold xI at hF'
  rw[if_neg hz] at hF'
  simp only[hfr,hF']
  exact⟨_,_,_,rfl,.inr (.inr ⟨nx,by omega,rfl,by simp⟩),by omega,fun j hj q1 q2=>by rw[zl _ _ _ _ (by omega)];exact (k2 j q2).trans (k1 j q1),fun n j e=>(by injection e with e;omega),fun s es e=>(by cases e)⟩
noncomputable abbrev Crrg:Ctx:=Ji prog [(135,hRun Csq f135),(136,zd false [] (FSP1 altP)),(137,zJ [] (ZZ Jc)),(138,zJ [.g mpat] (FCm strP)),(139,yr [.s 11 spat,.s 11 spat] FCmb),(142,zJ [.g spat] (FSt idS))] 249 Jg
theorem goodrr:AM.Good Crrg (fun g=>([]:List Nat).contains g):=good_ofI mixed ⟨sseq_sound,by simp,alternative_sound,by simp,v8,by simp,stretches_sound,by simp,combine_sound,by simp,copyStretch_sound,by simp,trivial⟩ split_iter
set_option maxHeartbeats 4000000 in
theorem readRange_eval (t:List UInt8) (ht:t.length+1≤lim):∃r0,zi Crrg f87 [str t]=some r0∧Stands r0 (rrP t):=by
 refine qv (sh:=.s 11 spat) rfl ?_
 by_cases h400:(400:Int)<t.length
 ·have hv:ku t=([],2):=by unfold ku;rw[if_pos h400]
  simp[h400,rrP,hv,encR,zE,f87]
 have hsq:=fun hp nx=>sseq_run t [124,124] hp nx
 obtain⟨parts,hparts⟩:∃parts,zA t [124,124]=parts:=⟨_,rfl⟩
 have hpl:∀p∈parts,p.length≤400:=fun p hp=>by have:=yl (by rw[hparts];exact hp);omega
 have hpn:parts.length≤401:=by have:=yH (s:=t) (sep:=[124,124]) (by simp);rw[hparts] at this;omega
 have hval:ku t=match rrA parts with
  | none=>([],10)
  | some ls=>match Vy ls [] with
    | none=>([],1)
    | some o=>if (100:Int)<o.length then ([],2) else (o,0):=by unfold ku;rw[if_neg h400,hparts];rfl
 simp[h400,hsq]
 refine EvC_range (p:=23) (xs:=parts.map str) rfl (by simp;exact⟨rfl,rfl⟩) (it:=Jg) rfl (by simp[Jg,hpSq,hparts];exact⟨⟨by decide,by omega⟩,rfl⟩) (fun k hp nx=>∃(v:PV) (done:List (List Cpn)),6≤nx∧hp 0=some ⟨123,1,false,[[.nil]]⟩∧hp 1=some ⟨26,1,false,[[int 0]]⟩∧hp 2=some ⟨169,1,false,[[v]]⟩ ∧
   OwnS hp nx 173 1 v (done.map fun l=>[.sl 11 (encM l)])∧done.length=k∧rrA parts=(rrA (parts.drop k)).map (done++·)) ?_ ?_ ?_
 ·exact⟨.nil,[],by simp,by simp,by simp,by simp,.inl ⟨rfl,rfl⟩,rfl,by rw[List.drop_zero];cases rrA parts<;>rfl⟩
 ·rintro k hp nx hk ⟨v,done,hnx,b0,b1,b2,hO,hdk,he⟩
  have hk':k<parts.length:=by simpa using hk
  have hpk:(parts.map str)[k]=str parts[k]:=by simp
  have hpkl:=hpl parts[k] (List.getElem_mem hk')
  have halt:=fun hp nx=>yP altP parts[k] hp nx (by unfold lim;omega)
  simp only[altP] at halt
  rw[hpk]
  rw[List.drop_eq_getElem_cons hk'] at he
  simp only[rrA] at he
  cases hok:(altR parts[k]).2
  ·rw[hok] at he
   simp only[Bool.false_eq_true,if_false,Option.map_none] at he
   rw[he] at hval
   have n0:¬0=nx:=by omega
   have n1:¬1=nx:=by omega
   simp[halt,hok,b0,b1,rrP,hval,encR,zE,f87]
  ·rw[hok] at he
   simp only[if_true] at he
   have hap:=OwnS.append1 (P:=prog) (t:=169) (c:=[.sl 11 (encM (altR parts[k]).1)]) hO zev sz173 by173 ze173 rfl (by omega) (by simp[hdk];unfold maxLen;omega) (by simp[hdk];omega)
   have k0:=fun hp'=>zU hO hp' 0 (jl hO b0 rfl)
   have k1:=fun hp'=>zU hO hp' 1 (jl hO b1 rfl)
   have k2:=fun hp'=>zU hO hp' 2 (jl hO b2 rfl)
   have n0:¬0=nx:=by omega
   have n1:¬1=nx:=by omega
   have n2:¬2=nx:=by omega
   have n3:¬1=nx+1:=by omega
   have n4:¬2=nx+1:=by omega
   have n5:¬nx+1=2:=by omega
   simp[halt,hok,b0,b1,b2,hap,k0,k1,k2,n0,n1,n2,n3,n4,n5,zf,zn,zg]
   refine⟨by omega,by rw[zl _ _ _ _ (by omega),k1,zl _ _ _ _ (by omega)];exact b1,done++[(altR parts[k]).1],.inr ⟨nx+1,by omega,by simp,by rw[zl _ _ _ _ (by omega)];simp⟩,by simp[hdk],?_⟩
   rw[he]
   cases rrA (parts.drop (k+1))<;>simp
 ·rintro hp nx ⟨v,done,hnx,b0,b1,b2,hO,hdk,he⟩
  rw[List.length_map] at hdk
  rw[List.length_map,List.drop_length] at he
  simp only[rrA,Option.map_some,List.append_nil] at he
  obtain⟨hgood,hdl⟩:=zbu parts done 400 hpl he
  rw[he] at hval
  simp only at hval
  have hlen:=hO.len zev
  rw[List.length_map] at hlen
  have hdn:done.length≤401:=by omega
  obtain⟨rows,hrows⟩:∃rows,done.map (fun l=>[PV.sl 11 (encM l)])=rows:=⟨_,rfl⟩
  rw[hrows] at hO
  have hrl:rows.length=done.length:=by rw[←hrows];simp
  simp[b2,hlen]
  refine zq (fun i σ hp nx=>σ 2=.ref 0 0 0∧σ 3=.ref 1 0 0∧σ 35=v∧σ 36=int done.length∧σ 37=int i∧6≤nx∧hp 0=some ⟨123,1,false,[[.nil]]⟩∧hp 1=some ⟨26,1,false,[[int 0]]⟩ ∧
    OwnS hp nx 173 1 v rows∧∃o,HasR hp nx (σ 8) o∧(∀s es,σ 8≠.sl s es)∧goodR o∧o.length≤i*500∧Vy done []=Vy (done.drop i) o) done.length
   ⟨by simp,by simp,by simp,by simp,by simp,hnx,b0,b1,hO,[],.inr (.inl ⟨by simp,rfl⟩),by simp,(by intro s hs;cases hs),by simp,by simp⟩ ?_
  clear hnx b0 b1 b2 hO hlen hp nx
  rintro i σ hp nx hi ⟨h2,h3,h35,h36,h37,hnx,b0,b1,hO,o,hR,hsl,hgo,hol,hj⟩
  by_cases hlt:i<done.length
  ·obtain⟨idA,hidA,rfl,hbA⟩:=hO.at_ (by omega)
   obtain⟨l,hl⟩:∃l,done[i]=l:=⟨_,rfl⟩
   have hri:∀h:i<rows.length,rows[i]=[PV.sl 11 (encM l)]:=fun h=>by
    have:rows[i]?=some [PV.sl 11 (encM l)]:=by rw[←hrows,List.getElem?_map,List.getElem?_eq_getElem hlt,hl];rfl
    rw[List.getElem?_eq_getElem h] at this
    injection this
   obtain⟨hgl,hll⟩:=hgood l (by rw[←hl];exact List.getElem_mem hlt)
   rw[List.drop_eq_getElem_cons hlt,hl] at hj
   simp only[Vy] at hj
   have hev:∀(hp:Hp) (nx:Nat),zJ [] (ZZ Jc) [] hp nx=some (.sl 11 (encR [qC leastC]),hp,nx):=fun hp nx=>jW _ hp nx
   have hwi:IntKind.i64.wrap ((i:Int)+1)=(i:Int)+1:=zc (by omega) (by omega)
   have hel:(encM l).length=l.length:=by simp[encM]
   simp[h2,h3,h35,h36,h37,hlt,hrl,hbA,hri,hev,hel]
   refine zq (fun k σ hp nx=>σ 2=.ref 0 0 0∧σ 3=.ref 1 0 0∧σ 35=.own idA 0 rows.length∧σ 36=int done.length∧σ 37=int i∧6≤nx∧hp 0=some ⟨123,1,false,[[.nil]]⟩∧hp 1=some ⟨26,1,false,[[int 0]]⟩ ∧
     OwnS hp nx 173 1 (.own idA 0 rows.length) rows∧HasR hp nx (σ 8) o∧(∀s es,σ 8≠.sl s es)∧σ 42=.sl 11 (encM l)∧σ 43=int l.length∧σ 44=int k∧∃m,HasR hp nx (σ 11) m∧goodR m∧m.length≤k+1∧(∀id n n',σ 8=.own id 0 n→σ 11≠.own id 0 n')∧Yk l [qC leastC]=Yk (l.drop k) m) l.length
    ⟨by simp[h2],by simp[h3],by simp[h35,hrl],by simp[h36],by simp[h37],hnx,b0,b1,hO,by simpa using hR,by simpa using hsl,by simp,by simp,by simp,[qC leastC],.inl (by simp),(kr ye).2,by simp,by simp,by simp⟩ ?_
   clear h2 h3 h35 h36 h37 hnx b0 b1 hO hR hsl hi hbA hidA σ hp nx
   rintro k σ hp nx hk ⟨h2,h3,h35,h36,h37,hnx,b0,b1,hO,hR,hsl,h42,h43,h44,m,hM,hgm,hml,hap,hme⟩
   by_cases hltk:k<l.length
   ·obtain⟨c,hc⟩:∃c,l[k]=c:=⟨_,rfl⟩
    have hcg:c.good:=hgl c (by rw[←hc];exact List.getElem_mem hltk)
    obtain⟨hs1,hs2⟩:=QG hcg
    have hke:∀h:k<(encM l).length,(encM l)[k]=c.enc:=fun h=>by simp[encM,hc]
    have hst:=fun hp nx=>st_call c hp nx hcg.ok
    have hwk:IntKind.i64.wrap ((k:Int)+1)=(k:Int)+1:=zc (by omega) (by omega)
    rw[List.drop_eq_getElem_cons hltk,hc] at hme
    simp only[Yk] at hme
    have n0:¬0=nx:=by omega
    have n1:¬1=nx:=by omega
    cases hok:(strS c).2
    ·rw[hok] at hme
     simp only[Bool.false_eq_true,if_false] at hme
     rw[hme] at hj
     simp only at hj
     rw[hj] at hval
     simp only at hval
     simp only[strP,Cpn.enc] at hst hke
     simp[h2,h3,h35,h36,h37,h42,h43,h44,hltk,hel,hke,hst,hok,b0,b1,n0,n1,rrP,hval,encR,zE,f87]
    ·rw[hok] at hme
     simp only[if_true] at hme
     have hM':HasR (upd hp nx (some ⟨181,11,false,[c.enc]⟩)) (nx+1) (σ 11) m:=hM.keep (by omega) fun id hid n e=>zl _ _ _ _ (by omega)
     obtain⟨x,hp',nx',hcomb,hX,hnx',hfr,hfresh,hxs⟩:=zbv and 140 (.inl ⟨rfl,rfl⟩) hM' (.inl rfl:HasR _ _ (.sl 11 (encR (strS c).1)) (strS c).1) (fun id n k e e2=>by cases e2) (hgm.small (by unfold lim;omega)) (goodR.small hs2 (by unfold lim;omega))
     have hpres:∀j,j<nx→(∀n,σ 11≠.own j 0 n)→hp' j=hp j:=fun j hj q=>by
      rw[hfr j (by omega) q (fun n e=>by cases e),zl _ _ _ _ (by omega)]
     have hlm:=xH and m (strS c).1
     obtain⟨idA2,hidA,heA,hbA⟩:=hO.at_ (by omega)
     injection heA with heA
     subst heA
     simp only[strP,Cpn.enc] at hst hke hcomb
     simp[h2,h3,h35,h36,h37,h42,h43,h44,hltk,hel,hke,hst,hok,hcomb,hwk]
     exact⟨by omega,by omega,by rw[hpres 0 (by omega) (hM.box b0 (by decide))];exact b0,by rw[hpres 1 (by omega) (hM.box b1 (by decide))];exact b1,.inr ⟨idA,by omega,rfl,by rw[hpres idA hidA (hM.box hbA (by simp))];exact hbA⟩,hR.keep (by omega) (fun id hid n e=>hpres id hid fun n'=>hap id n n' e),hsl,_,hX,ym and hgm hs2,by omega,fun id n n' e e2=>by have:=hR.lt e;have:=hfresh _ _ e2;omega,hme⟩
   ·obtain rfl:k=l.length:=by omega
    rw[List.drop_length] at hme
    simp only[Yk] at hme
    rw[hme] at hj
    simp only at hj
    obtain⟨x,hp',nx',hcomb,hX,hnx',hfr,hfresh,hxs⟩:=zbv or 141 (.inr ⟨rfl,rfl⟩) hR hM hap (hgo.small (by unfold lim;omega)) (hgm.small (by unfold lim;omega))
    have hlm:=xH or o m
    obtain⟨idA2,hidA,heA,hbA⟩:=hO.at_ (by omega)
    injection heA with heA
    subst heA
    simp[h2,h3,h35,h36,h37,h42,h43,h44,hcomb,hwi]
    exact⟨by omega,hrl,by omega,by rw[hfr 0 (by omega) (hR.box b0 (by decide)) (hM.box b0 (by decide))];exact b0,by rw[hfr 1 (by omega) (hR.box b1 (by decide)) (hM.box b1 (by decide))];exact b1,.inr ⟨idA,by omega,by rw[hrl],by rw[hfr idA hidA (hR.box hbA (by simp)) (hM.box hbA (by simp))];exact hbA⟩,_,hX,hxs,ym or hgo hgm,by omega,hj⟩
  ·obtain rfl:i=done.length:=by omega
   rw[List.drop_length] at hj
   simp only[Vy] at hj
   rw[hj] at hval
   simp only at hval
   have hlenR:=hR.len
   by_cases h100:(100:Int)<o.length
   ·rw[if_pos h100] at hval
    simp[h2,h3,h36,h37,hlenR,h100,b0,b1,rrP,hval,encR,zE,f87]
   rw[if_neg h100] at hval
   simp[h2,h3,h36,h37,hlenR,h100]
   obtain⟨w,hw8⟩:∃w,σ 8=w:=⟨_,rfl⟩
   rw[hw8] at hR hsl
   refine zq (fun j σ hp nx=>σ 2=.ref 0 0 0∧σ 3=.ref 1 0 0∧σ 8=w∧σ 66=w∧σ 67=int o.length∧σ 68=int j∧6≤nx∧hp 0=some ⟨123,1,false,[[.nil]]⟩∧hp 1=some ⟨26,1,false,[[int 0]]⟩∧HasR hp nx w o) o.length
    ⟨by simp[h2],by simp[h3],by simp[hw8],by simp[hw8],by simp,by simp,hnx,b0,b1,hR⟩ ?_
   clear h2 h3 h35 h36 h37 hnx b0 b1 hO hR hi hw8 σ hp nx hlenR
   rintro j σ hp nx hjl ⟨h2,h3,h8,h66,h67,h68,hnx,b0,b1,hR⟩
   by_cases hltj:j<o.length
   ·have hwj:IntKind.i64.wrap ((j:Int)+1)=(j:Int)+1:=zc (by omega) (by omega)
    rcases hR with rfl | ⟨rfl,rfl⟩ | ⟨id,hid,rfl,hb⟩
    ·exact absurd rfl (hsl _ _)
    ·simp at hltj
    ·obtain⟨s,hs⟩:∃s,o[j]=s:=⟨_,rfl⟩
     have hgs:=hgo s (by rw[←hs];exact List.getElem_mem hltj)
     have hel:(encR o).length=o.length:=by simp[encR]
     have hke:∀h:j<(encR o).length,(encR o)[j]=s.enc:=fun h=>by simp[encR,hs]
     have hset:(encR o).set j s.enc=encR o:=by
      have h':j<(encR o).length:=by omega
      rw[←hke h'];exact List.set_getElem_self h'
     have hcp:∀hp nx,zJ [.g spat] (FSt idS) [.agg s.enc] hp nx=some (.agg s.enc,hp,nx):=fun hp nx=>FSt_call idS s (.agg s.enc) hp nx ⟨hgs.1.small,hgs.2.small⟩ (by simp[Str.enc,Cut.enc]) (by simp[Str.enc,Cut.enc]) (by simp[Str.enc,Cut.enc])
     have m1:¬id=nx:=by omega
     simp only[Str.enc,Cut.enc,List.cons_append,List.nil_append] at hke hcp hset
     have i0:¬0=id:=fun e=>by rw[←e] at hb;rw[hb] at b0;simp at b0
     have i1:¬1=id:=fun e=>by rw[←e] at hb;rw[hb] at b1;simp at b1
     have n0:¬0=nx:=by omega
     have n1:¬1=nx:=by omega
     simp[h2,h3,h8,h66,h67,h68,hltj,hel,hb,hke,hcp,m1,hwj,hset]
     exact⟨by omega,by omega,by simp[i0,n0,b0],by simp[i1,n1,b1],.inr (.inr ⟨id,by omega,by rw[hel],by simp⟩)⟩
   ·obtain rfl:j=o.length:=by omega
    rcases hR with rfl | ⟨rfl,rfl⟩ | ⟨id,hid,rfl,hb⟩
    ·exact absurd rfl (hsl _ _)
    ·simp[h2,h3,h8,h66,h67,h68,b0,b1,rrP,hval,zE,encR,f87]
    ·have i0:¬id=0:=fun e=>by rw[e] at hb;rw[hb] at b0;simp at b0
     have i1:¬id=1:=fun e=>by rw[e] at hb;rw[hb] at b1;simp at b1
     have hfx:=Zk o
     simp only[Sh.fix_s,PV.sl.injEq,true_and] at hfx
     simp[h2,h3,h8,h66,h67,h68,b0,b1,hb,i0,i1,rrP,hval,zE,hfx,f87]
theorem readRange_sound:za prog 87 (zd false [] (FSP1 rrP)) :=
 yw (fn:=f87) goodrr ⟨_,func87,by kernel_rfl,rfl,by kernel_rfl⟩ false [] _ fun args r h w S vs hz=>by
  obtain⟨l,rfl,hp,rfl⟩:=ze h
  obtain⟨r0,h1,h2⟩:=readRange_eval l hp
  exact⟨_,r0,hz,by simp[f87],h1,h2⟩
def QH (op:Int):Bool:=inB op 2 6||op==12
def ZD (op:Int):Bool:=inB op 7 11
def jf (op:Int):Bool:=inB op 3 6
noncomputable abbrev Cwi:Ctx:=zF prog [(49,zd false [] (F3 inB))]
theorem zc4:AM.Good Cwi (fun g=>[49].contains g):=zk mixed ⟨jr,fun _=>zh _ _,trivial⟩
def FIb (f:Int→Bool):List PV→Option PV
 | [.v (.int .i64 a)]=>some (boo (f a))
 | _=>none
theorem xK {f:Int→Bool} {args:List PV} {r:PV} (h:FIb f args=some r):∃a,args=[int a]∧r=boo (f a):=by
 unfold FIb at h
 split at h
 ·injection h with h;exact⟨_,rfl,h.symm⟩
 ·cases h
@[simp] theorem FIb_call (f:Int→Bool) (a:Int) (hp:Hp) (nx:Nat):zd false [] (FIb f) [.v (.int .i64 a)] hp nx=some (boo (f a),hp,nx):=zy rfl rfl (.inl rfl)
theorem usesV_sound:za prog 82 (zd false [] (FIb QH)) :=
 zI (fn:=f82) zc4 ⟨_,func82,by kernel_rfl,rfl,by kernel_rfl⟩ false [] _ fun args r h=>by
  obtain⟨a,rfl,rfl⟩:=xK h
  exact⟨by simp[f82],_,zb rfl (by simp[QH,f82]),zG _⟩
theorem Jj:za prog 53 (zd false [] (FIb ZD)) :=
 zI (fn:=f53) zc4 ⟨_,func53,by kernel_rfl,rfl,by kernel_rfl⟩ false [] _ fun args r h=>by
  obtain⟨a,rfl,rfl⟩:=xK h
  exact⟨by simp[f53],_,zb rfl (by simp[ZD,f53]),zG _⟩
theorem Jk:za prog 83 (zd false [] (FIb jf)) :=
 zI (fn:=f83) zc4 ⟨_,func83,by kernel_rfl,rfl,by kernel_rfl⟩ false [] _ fun args r h=>by
  obtain⟨a,rfl,rfl⟩:=xK h
  exact⟨by simp[f83],_,zb rfl (by simp[jf,f83]),zG _⟩
noncomputable abbrev Cms (n:Nat):Ctx:=zF prog [(21,zd false [] (FC (fun c=>.tup [int c.parts,int c.levels]) n))]
theorem measure_eval (n:Nat) (c:Cnd) (h:c.cb≤lim∧c.cb≤n+1):zi (Cms n) f21 [.agg c.enc]=some (.tup [int c.parts,int c.levels]):=by
 have hpl:=Y0 c
 have hpe:=Qu c
 have hcb:=Vg c
 have hle:=Wq c
 have hll:=clevels_le c
 have hl1:=vp c.args
 obtain⟨ha,hb⟩:=h
 unfold lim at ha
 refine zb rfl ?_
 simp
 refine zq (fun k σ hp nx=>σ 9=.sl 7 (c.args.map Cnd.enc)∧σ 10=int c.args.length∧σ 11=int k∧σ 2=int ((1+partsC (c.args.take k):Nat):Int)∧σ 3=int (levelsC (c.args.take k))) c.args.length
  ⟨by simp,by simp,by simp,by simp[partsC],by simp[levelsC]⟩ ?_
 rintro k σ hp nx hk ⟨h9,h10,h11,h2,h3⟩
 by_cases hlt:k<c.args.length
 ·obtain⟨t1,t2⟩:=takeC hlt
  have hm:=Wp (List.getElem_mem hlt)
  have hw:IntKind.i64.wrap ((k:Int)+1)=(k:Int)+1:=zc (by omega) (by omega)
  have hple:=Xq c.args k
  have hple2:=Xq c.args (k+1)
  have hpp:=Wr c.args fun x hx=>Y0 x
  have hcall:=fun hp nx=>Y2 (fun c=>.tup [int c.parts,int c.levels]) n c.args[k] hp nx ⟨by unfold lim;omega,by omega⟩
  have w1:IntKind.i64.wrap (((1+partsC (c.args.take k):Nat):Int)+c.args[k].parts)=((1+partsC (c.args.take (k+1)):Nat):Int):=by rw[zc (by omega) (by omega),t1];omega
  have w2:(if (levelsC (c.args.take k))<c.args[k].levels then (c.args[k].levels:Int) else levelsC (c.args.take k))=(levelsC (c.args.take (k+1)):Int):=by rw[t2];split<;>omega
  simp[h2,h3,h9,h10,h11,hlt,hcall,hw]
  exact⟨by omega,by rw[zc (by omega) (by omega),t1];omega,w2⟩
 ·obtain rfl:k=c.args.length:=by omega
  rw[List.take_length] at h2 h3
  have w1:IntKind.i64.wrap ((levelsC c.args:Int)+1)=(c.levels:Int):=by rw[zc (by omega) (by omega),hle];omega
  simp[h2,h3,h9,h10,h11,w1,qi,f21]
  omega
set_option maxRecDepth 100000 in
theorem measure_sound:∀n,za prog 21 (zd false [] (FC (fun c=>.tup [int c.parts,int c.levels]) n)):=by
 intro n
 induction n with
 | zero=>exact zau ⟨_,func21,by kernel_rfl,by kernel_rfl⟩
 | succ n ih =>
   have hg:AM.Good (Cms n) (fun g=>([]:List Nat).contains g):=zk mixed ⟨ih,by simp,trivial⟩
   exact zI (fn:=f21) hg ⟨_,func21,by kernel_rfl,rfl,by kernel_rfl⟩ false [] _ fun args r h=>by
    obtain⟨c,rfl,hc,rfl⟩:=xx h
    exact⟨Nat.le_trans (Nat.le_refl 1) (by decide),_,measure_eval n c hc,zG _⟩
def w1F (c:Cnd):Bool:=!(c.kind==4)&&(!c.attr.isEmpty||c.op != 0||decide (0<c.vals.length)||!c.pat.isEmpty)
def w2F (c:Cnd):Bool:=c.kind != 5&&!c.name.isEmpty
def w3F (c:Cnd):Bool:=!inB c.kind 1 3&&decide (0<c.args.length)
def w4F (c:Cnd):Bool:=c.kind==4&&!QH c.op&&decide (0<c.vals.length)
def w5F (c:Cnd):Bool:=c.kind==4&&!ZD c.op&&!c.pat.isEmpty
def w6F (c:Cnd):Bool:=c.kind==3&&(c.args.length:Int) != 1
def w7F (c:Cnd):Bool:=c.kind==4&&jf c.op&&(c.vals.length:Int) != 1
def kU (c:Cnd):Bool:=w1F c||w2F c||w3F c||w4F c||w5F c||w6F c||w7F c
noncomputable abbrev Cfo:Ctx:=zF prog [(49,zd false [] (F3 inB)),(82,zd false [] (FIb QH)),(53,zd false [] (FIb ZD)),(83,zd false [] (FIb jf))]
theorem goodfo:AM.Good Cfo (fun g=>[49,82,53,83].contains g):=zk mixed ⟨jr,fun _=>zh _ _,usesV_sound,fun _=>zh _ _,Jj,fun _=>zh _ _,Jk,fun _=>zh _ _,trivial⟩
@[simp] theorem quietfo2:wn Cfo 82:=qm (by rfl) (zh _ _)
@[simp] theorem quietfo3:wn Cfo 53:=qm (by rfl) (zh _ _)
@[simp] theorem quietfo4:wn Cfo 83:=qm (by rfl) (zh _ _)
theorem checkForm_eval (c:Cnd) (h:c.cb≤lim):zi Cfo f50 [.agg c.enc]=some (int (if kU c=true then 3 else 0)):=by
 refine zb rfl ?_
 have e1:(!(c.kind==4)&&(!c.attr.isEmpty||c.op != 0||decide (0<c.vals.length)||!c.pat.isEmpty))=w1F c:=rfl
 have e2:(c.kind != 5&&!c.name.isEmpty)=w2F c:=rfl
 have e3:(!inB c.kind 1 3&&decide (0<c.args.length))=w3F c:=rfl
 have e4:(c.kind==4&&!QH c.op&&decide (0<c.vals.length))=w4F c:=rfl
 have e5:(c.kind==4&&!ZD c.op&&!c.pat.isEmpty)=w5F c:=rfl
 have e6:(c.kind==3&&(c.args.length:Int) != 1)=w6F c:=rfl
 have e7:(c.kind==4&&jf c.op&&(c.vals.length:Int) != 1)=w7F c:=rfl
 cases h1:w1F c
 case true=>simp[e1,h1,kU,f50]
 cases h2:w2F c
 case true=>simp[e1,h1,e2,h2,kU,f50]
 cases h3:w3F c
 case true=>simp[e1,h1,e2,h2,e3,h3,kU,f50]
 cases h4:w4F c
 case true=>simp[e1,h1,e2,h2,e3,h3,e4,h4,kU,f50]
 cases h5:w5F c
 case true=>simp[e1,h1,e2,h2,e3,h3,e4,h4,e5,h5,kU,f50]
 cases h6:w6F c
 case true=>simp[e1,h1,e2,h2,e3,h3,e4,h4,e5,h5,e6,h6,kU,f50]
 cases h7:w7F c
 case true=>simp[e1,h1,e2,h2,e3,h3,e4,h4,e5,h5,e6,h6,e7,h7,kU,f50]
 simp[e1,h1,e2,h2,e3,h3,e4,h4,e5,h5,e6,h6,e7,h7,kU,f50]
theorem checkForm_sound:za prog 50 (GC fun c=>int (if kU c=true then 3 else 0)) :=
 zI (fn:=f50) goodfo ⟨_,func50,by kernel_rfl,rfl,by kernel_rfl⟩ false [] _ fun args r h=>by
  obtain⟨c,rfl,hc,rfl⟩:=xx h
  exact⟨by simp[f50],_,checkForm_eval c hc.1,zG _⟩
noncomputable def Jl (p:Option Val) (v:Val):Bool:=match p with
 | none=>false
 | some p=>decide (0≤qo p v)
def zc5 (op:Int) (v:Val):Bool:=v.kind==0||jf op&&v.kind != 2
noncomputable def valF (op:Int):Option Val→List Val→Int
 | _,[]=>0
 | p,v::l=>if v.check=0 then (if zc5 op v=true then 6 else if Jl p v=true then 8 else valF op (some v) l) else v.check
noncomputable def kA (op:Int) (l:List Val):Int:=if (100:Int)<l.length then 2 else valF op none l
def xc (l:List Val) (k:Nat):Option Val:=if k=0 then none else l[k - 1]?
noncomputable def FIv (f:Int→List Val→PV):List PV→Option PV:=zH (α:=Int×List Val) (fun a=>[int a.1,.sl 5 (a.2.map Val.enc)]) (fun a=>vbs a.2≤lim) (fun a=>f a.1 a.2)
theorem FIv_call (f:Int→List Val→PV) (op:Int) (l:List Val) (hp:Hp) (nx:Nat) (h:vbs l≤lim):zd false [] (FIv f) [int op,.sl 5 (l.map Val.enc)] hp nx=some (f op l,hp,nx) :=
 zy (hp1:=hp) (show zj hp [int op,.sl 5 (l.map Val.enc)]=some ([int op,.sl 5 (l.map Val.enc)],hp) by simp) (zm (enc:=fun a:Int×List Val=>[int a.1,.sl 5 (a.2.map Val.enc)]) (a:=(op,l)) (fun x y e=>by
  obtain⟨x1,x2⟩:=x;obtain⟨y1,y2⟩:=y
  simp only[List.cons.injEq,and_true] at e
  obtain⟨e1,e2⟩:=e
  injection e2 with _ e2
  rw[zB e1,Ja e2]) h) (.inr (by simp))
noncomputable abbrev Ccv2:Ctx:=zF prog [(85,GV fun v=>int v.check),(83,zd false [] (FIb jf)),(86,zd false [] (FCV lim))]
theorem goodcv2:AM.Good Ccv2 (fun g=>[83,86].contains g):=zk mixed ⟨check_sound,by simp,Jk,fun _=>zh _ _,vcompare_sound lim,fun _=>zh _ _,trivial⟩
@[simp] theorem quietcv2a:wn Ccv2 83:=qm (by rfl) (zh _ _)
theorem checkValues_eval (op:Int) (l:List Val) (h:vbs l≤lim):zi Ccv2 f52 [int op,.sl 5 (l.map Val.enc)]=some (int (kA op l)):=by
 have hlen:=wp l
 unfold lim at h
 refine zb rfl ?_
 by_cases h100:(100:Int)<l.length
 ·have hv:kA op l=2:=by unfold kA;rw[if_pos h100]
  simp[h100,hv,f52]
 have hv:kA op l=valF op none l:=by unfold kA;rw[if_neg h100]
 rw[hv]
 simp[h100]
 refine zq (fun k σ hp nx=>σ 0=int op∧σ 1=.sl 5 (l.map Val.enc)∧σ 11=.sl 5 (l.map Val.enc)∧σ 12=int l.length∧σ 13=int k∧valF op none l=valF op (xc l k) (l.drop k)) l.length
  ⟨by simp,by simp,by simp,by simp,by simp,by simp[xc]⟩ ?_
 rintro k σ hp nx hk ⟨h0,h1,h11,h12,h13,he⟩
 by_cases hlt:k<l.length
 ·have hm:=yA (List.getElem_mem hlt)
  have hw:IntKind.i64.wrap ((k:Int)+1)=(k:Int)+1:=zc (by omega) (by omega)
  have hck:=fun hp nx=>xw (fun v=>int v.check) l[k] hp nx (by unfold lim;omega)
  rw[List.drop_eq_getElem_cons hlt] at he
  simp only[valF] at he
  have hpn:xc l (k+1)=some l[k]:=by simp[xc,hlt]
  have ety:(l[k].kind==0||jf op&&l[k].kind != 2)=zc5 op l[k]:=rfl
  by_cases hz:l[k].check=0
  case neg =>
   rw[if_neg hz] at he
   have hz2:(l[k].check != 0)=true:=by simpa using hz
   simp[h0,h1,h11,h12,h13,hlt,hck,hz2,he,f52]
  rw[if_pos hz] at he
  cases hty:zc5 op l[k]
  case true =>
   rw[hty,if_pos rfl] at he
   simp[h0,h1,h11,h12,h13,hlt,hck,hz,ety,hty,he,f52]
  rw[hty,if_neg (by simp)] at he
  by_cases k0:k=0
  ·subst k0
   have hp0:Jl (xc l 0) l[0]=false:=rfl
   rw[hp0,if_neg (by simp)] at he
   simp[h0,h1,h11,h12,h13,hlt,hck,hz,ety,hty,hw]
   exact⟨by omega,by rw[he,show xc l 1=some l[0] from hpn];simp⟩
  ·obtain⟨j,rfl⟩:∃j,k=j+1:=⟨k - 1,by omega⟩
   have hj:j<l.length:=by omega
   have hmj:=yA (List.getElem_mem hj)
   have wj:IntKind.i64.wrap ((j:Int)+1 - 1)=(j:Int):=by rw[zc (by omega) (by omega)];omega
   have wj':IntKind.i64.wrap (j:Int)=(j:Int):=zc (by omega) (by omega)
   have j1:((j:Int)+1).toNat=j+1:=by omega
   have j2:0<(j:Int)+1:=by omega
   have j3:0≤(j:Int)+1:=by omega
   have j4:(j:Int)+1<l.length:=by omega
   have hcm:=fun hp nx=>Zg lim l[j] l[j+1] hp nx ⟨by unfold lim;omega,by unfold lim;omega,by unfold lim;omega⟩
   have hpv:Jl (xc l (j+1)) l[j+1]=decide (0≤qo l[j] l[j+1]):=by simp[xc,hj,Jl]
   rw[hpv] at he
   by_cases hc:0≤qo l[j] l[j+1]
   ·have hc':decide (0≤qo l[j] l[j+1])=true:=by simpa using hc
    rw[if_pos hc'] at he
    simp[h0,h1,h11,h12,h13,hlt,hj,hck,hz,ety,hty,hw,wj,wj',j1,j2,j3,j4,hcm,hc,he,f52]
   ·have hc':¬decide (0≤qo l[j] l[j+1])=true:=by simpa using hc
    rw[if_neg hc'] at he
    have wk:IntKind.i64.wrap ((j:Int)+1+1)=(j:Int)+1+1:=zc (by omega) (by omega)
    simp[h0,h1,h11,h12,h13,hlt,hj,hck,hz,ety,hty,wk,wj,wj',j1,j2,j3,j4,hcm,hc]
    exact⟨by omega,by rw[he,hpn]⟩
 ·obtain rfl:k=l.length:=by omega
  rw[List.drop_length] at he
  simp only[valF] at he
  simp[h0,h1,h11,h12,h13,he,f52]
theorem checkValues_sound:za prog 52 (zd false [] (FIv fun op l=>int (kA op l))) :=
 zI (fn:=f52) goodcv2 ⟨_,func52,by kernel_rfl,rfl,by kernel_rfl⟩ false [] _ fun args r h=>by
  obtain⟨⟨op,l⟩,rfl,hc,rfl⟩:=ze h
  exact⟨by simp[f52],_,checkValues_eval op l hc,zG _⟩
noncomputable def patF (op:Int) (s:List UInt8):Int:=if (500:Int)<s.length then 2 else if zS 32 126 s=true then (if op=11 then (ku s).2 else 0) else 1
noncomputable def FIs (f:Int→List UInt8→PV):List PV→Option PV:=zH (α:=Int×List UInt8) (fun a=>[int a.1,str a.2]) (fun a=>a.2.length≤lim) (fun a=>f a.1 a.2)
theorem FIs_call (f:Int→List UInt8→PV) (op:Int) (s:List UInt8) (hp:Hp) (nx:Nat) (h:s.length≤lim):zd false [] (FIs f) [int op,str s] hp nx=some (f op s,hp,nx) :=
 zy rfl (zm (enc:=fun a:Int×List UInt8=>[int a.1,str a.2]) (a:=(op,s)) (fun x y e=>by
  obtain⟨x1,x2⟩:=x;obtain⟨y1,y2⟩:=y
  simp only[List.cons.injEq,and_true] at e
  rw[zB e.1,zV e.2]) h) (.inr (by simp))
noncomputable abbrev Cpt:Ctx:=zF prog [(87,zd false [] (FSP1 rrP))]
theorem goodpt:AM.Good Cpt (fun g=>([]:List Nat).contains g):=zk mixed ⟨readRange_sound,by simp,trivial⟩
theorem checkPattern_eval (op:Int) (s:List UInt8) (h:s.length≤lim):zi Cpt f54 [int op,str s]=some (int (patF op s)):=by
 unfold lim at h
 refine zb rfl ?_
 by_cases h500:(500:Int)<s.length
 ·have hv:patF op s=2:=by unfold patF;rw[if_pos h500]
  simp[h500,hv,f54]
 have hrr:=fun hp nx=>yP rrP s hp nx (by unfold lim;omega)
 simp only[rrP] at hrr
 have hv:patF op s=if zS 32 126 s=true then (if op=11 then (ku s).2 else 0) else 1:=by unfold patF;rw[if_neg h500]
 simp[h500]
 refine zq (fun k σ hp nx=>σ 0=int op∧σ 1=str s∧σ 12=int s.length∧σ 13=int k∧zS 32 126 s=zS 32 126 (s.drop k)) s.length ⟨by simp,by simp,by simp,by simp,by simp⟩ ?_
 rintro k σ hp nx hk ⟨h0,h1,h12,h13,he⟩
 by_cases hlt:k<s.length
 ·have hw:IntKind.i64.wrap ((k:Int)+1)=(k:Int)+1:=zc (by omega) (by omega)
  rw[yF hlt] at he
  have ho:=WV 32 126 s[k]
  simp only[Int.cast_ofNat_Int] at ho
  cases hc:pr 32 126 s[k]
  ·have he:zS 32 126 s=false:=by rw[he,hc];rfl
   rw[he,if_neg (by simp)] at hv
   simp[h0,h1,h12,h13,hlt,hv,ho,hc,f54]
  ·simp[h0,h1,h12,h13,hlt,ho,hc,hw]
   exact⟨hlt,by rw[he,hc];rfl⟩
 ·obtain rfl:k=s.length:=by omega
  have he:zS 32 126 s=true:=by rw[he,List.drop_length];rfl
  rw[he,if_pos rfl] at hv
  by_cases h11:op=11
  ·rw[if_pos h11] at hv
   subst h11
   simp[h0,h1,h12,h13,hrr,hv,f54]
  ·rw[if_neg h11] at hv
   have h11':(op==11)=false:=by simpa using h11
   simp[h0,h1,h12,h13,h11',hv,f54]
theorem checkPattern_sound:za prog 54 (zd false [] (FIs fun op s=>int (patF op s))) :=
 zI (fn:=f54) goodpt ⟨_,func54,by kernel_rfl,rfl,by kernel_rfl⟩ false [] _ fun args r h=>by
  obtain⟨⟨op,s⟩,rfl,hc,rfl⟩:=ze h
  exact⟨by simp[f54],_,checkPattern_eval op s hc,zG _⟩
def XH (c:Cnd):Bool:=!inB c.kind 1 5
def opC (c:Cnd):Bool:=c.kind==4&&!inB c.op 1 12
def J7 (c:Cnd):Bool:=(c.kind==4&&!qj c.attr)||(c.kind==5&&!qj c.name)
def patC (c:Cnd):Bool:=c.kind==4&&ZD c.op
noncomputable def jg (c:Cnd):Int:=if (XH c||opC c)=true then 4 else if kU c=true then 3 else if J7 c=true then 5 else if kA c.op c.vals=0 then (if patC c=true then patF c.op c.pat else 0) else kA c.op c.vals
mutual
noncomputable def Cnd.fault:Cnd→Int
 | .mk k a o v p n l=>if jg (.mk k a o v p n l)=0 then faultC l else jg (.mk k a o v p n l)
noncomputable def faultC:List Cnd→Int
 | []=>0
 | c::l=>if c.fault=0 then faultC l else c.fault
end
theorem XI (c:Cnd):c.fault=if jg c=0 then faultC c.args else jg c:=by cases c;simp only[Cnd.fault];rfl
theorem Z4 {l:List Cnd} {k:Nat} (h:k<l.length):faultC (l.drop k)=if l[k].fault=0 then faultC (l.drop (k+1)) else l[k].fault:=by
 rw[List.drop_eq_getElem_cons h,faultC]
noncomputable abbrev Ccp2 (n:Nat):Ctx:=zF prog [(22,zd false [] (FC (fun c=>int c.fault) n)),(49,zd false [] (F3 inB)),(50,GC fun c=>int (if kU c=true then 3 else 0)),(51,zd false [] (FS qj)),
 (52,zd false [] (FIv fun op l=>int (kA op l))),(53,zd false [] (FIb ZD)),(54,zd false [] (FIs fun op s=>int (patF op s)))]
@[simp] theorem quietcp2a (n:Nat):wn (Ccp2 n) 49:=qm (by rfl) (zh _ _)
@[simp] theorem quietcp2b (n:Nat):wn (Ccp2 n) 51:=qm (by rfl) (zh _ _)
@[simp] theorem quietcp2c (n:Nat):wn (Ccp2 n) 53:=qm (by rfl) (zh _ _)
theorem ccheckPart_eval (n:Nat) (c:Cnd) (h:c.cb≤lim∧c.cb≤n+1):zi (Ccp2 n) f22 [.agg c.enc]=some (int c.fault):=by
 have hcb:=Vg c
 have hl1:=vp c.args
 obtain⟨ha,hb⟩:=h
 have hf:=XI c
 have hfo:=fun hp nx=>kQ (fun c=>int (if kU c=true then 3 else 0)) c hp nx ha
 have hva:=fun hp nx=>FIv_call (fun op l=>int (kA op l)) c.op c.vals hp nx (by omega)
 have hpa:=fun hp nx=>FIs_call (fun op s=>int (patF op s)) c.op c.pat hp nx (by omega)
 have hna:c.attr.length≤lim:=by omega
 have hnn:c.name.length≤lim:=by omega
 unfold lim at ha
 refine zb rfl ?_
 have e1:(!inB c.kind 1 5)=XH c:=rfl
 have e2:(c.kind==4&&!inB c.op 1 12)=opC c:=rfl
 have e3:((c.kind==4&&!qj c.attr)||(c.kind==5&&!qj c.name))=J7 c:=rfl
 have e4:(c.kind==4&&ZD c.op)=patC c:=rfl
 cases c1:XH c
 case true=>simp[e1,c1,hf,jg,f22]
 cases c2:opC c
 case true=>simp[e1,c1,e2,c2,hf,jg,f22]
 cases c3:kU c
 case true=>simp[e1,c1,e2,c2,hfo,c3,hf,jg,f22]
 cases c4:J7 c
 case true=>simp[e1,c1,e2,c2,hfo,c3,hna,hnn,e3,c4,hf,jg,f22]
 by_cases c5:kA c.op c.vals=0
 case neg =>
  have c5':(kA c.op c.vals != 0)=true:=by simpa using c5
  simp[e1,c1,e2,c2,hfo,c3,hna,hnn,e3,c4,hva,c5,c5',hf,jg,f22]
 have hbody:∀(hh:jg c=0),c.fault=faultC c.args:=fun hh=>by rw[hf,if_pos hh]
 cases c6:patC c
 case false =>
  have hh:jg c=0:=by simp[jg,c1,c2,c3,c4,c5,c6]
  have hf':=hbody hh
  simp[e1,c1,e2,c2,hfo,c3,hna,hnn,e3,c4,hva,c5,e4,c6]
  refine zq (fun k σ hp nx=>σ 73=.sl 7 (c.args.map Cnd.enc)∧σ 74=int c.args.length∧σ 75=int k∧faultC c.args=faultC (c.args.drop k)) c.args.length ⟨by simp,by simp,by simp,by simp⟩ ?_
  rintro k σ hp nx hk ⟨h73,h74,h75,he⟩
  by_cases hlt:k<c.args.length
  ·have hm:=Wp (List.getElem_mem hlt)
   have hw:IntKind.i64.wrap ((k:Int)+1)=(k:Int)+1:=zc (by omega) (by omega)
   have hcall:=fun hp nx=>Y2 (fun c=>int c.fault) n c.args[k] hp nx ⟨by unfold lim;omega,by omega⟩
   rw[Z4 hlt] at he
   by_cases hz:c.args[k].fault=0
   ·rw[if_pos hz] at he
    simp[h73,h74,h75,hlt,hcall,hz,hw]
    exact⟨by omega,he⟩
   ·rw[if_neg hz] at he
    have hz2:(c.args[k].fault != 0)=true:=by simpa using hz
    simp[h73,h74,h75,hlt,hcall,hz2,hf',he,f22]
  ·obtain rfl:k=c.args.length:=by omega
   rw[List.drop_length] at he
   have he:faultC c.args=0:=by rw[he];rfl
   simp[h73,h74,h75,hf',he,f22]
 case true =>
  by_cases c7:patF c.op c.pat=0
  case neg =>
   have c7':(patF c.op c.pat != 0)=true:=by simpa using c7
   simp[e1,c1,e2,c2,hfo,c3,hna,hnn,e3,c4,hva,c5,e4,c6,hpa,c7,c7',hf,jg,f22]
  have hh:jg c=0:=by simp[jg,c1,c2,c3,c4,c5,c6,c7]
  have hf':=hbody hh
  simp[e1,c1,e2,c2,hfo,c3,hna,hnn,e3,c4,hva,c5,e4,c6,hpa,c7]
  refine zq (fun k σ hp nx=>σ 73=.sl 7 (c.args.map Cnd.enc)∧σ 74=int c.args.length∧σ 75=int k∧faultC c.args=faultC (c.args.drop k)) c.args.length ⟨by simp,by simp,by simp,by simp⟩ ?_
  rintro k σ hp nx hk ⟨h73,h74,h75,he⟩
  by_cases hlt:k<c.args.length
  ·have hm:=Wp (List.getElem_mem hlt)
   have hw:IntKind.i64.wrap ((k:Int)+1)=(k:Int)+1:=zc (by omega) (by omega)
   have hcall:=fun hp nx=>Y2 (fun c=>int c.fault) n c.args[k] hp nx ⟨by unfold lim;omega,by omega⟩
   rw[Z4 hlt] at he
   by_cases hz:c.args[k].fault=0
   ·rw[if_pos hz] at he
    simp[h73,h74,h75,hlt,hcall,hz,hw]
    exact⟨by omega,he⟩
   ·rw[if_neg hz] at he
    have hz2:(c.args[k].fault != 0)=true:=by simpa using hz
    simp[h73,h74,h75,hlt,hcall,hz2,hf',he,f22]
  ·obtain rfl:k=c.args.length:=by omega
   rw[List.drop_length] at he
   have he:faultC c.args=0:=by rw[he];rfl
   simp[h73,h74,h75,hf',he,f22]
set_option maxRecDepth 100000 in
theorem ccheckPart_sound:∀n,za prog 22 (zd false [] (FC (fun c=>int c.fault) n)):=by
 intro n
 induction n with
 | zero=>exact zau ⟨_,func22,by kernel_rfl,by kernel_rfl⟩
 | succ n ih =>
   have hg:AM.Good (Ccp2 n) (fun g=>[49,51,53].contains g):=zk mixed ⟨ih,by simp,jr,fun _=>zh _ _,checkForm_sound,by simp,kG,fun _=>zh _ _,checkValues_sound,by simp,Jj,fun _=>zh _ _,checkPattern_sound,by simp,trivial⟩
   exact zI (fn:=f22) hg ⟨_,func22,by kernel_rfl,rfl,by kernel_rfl⟩ false [] _ fun args r h=>by
    obtain⟨c,rfl,hc,rfl⟩:=xx h
    exact⟨Nat.le_trans (Nat.le_refl 1) (by decide),_,ccheckPart_eval n c hc,zG _⟩
noncomputable def Cnd.check (c:Cnd):Int:=if (decide ((200:Int)<c.parts)||decide ((20:Int)<c.levels))=true then 2 else c.fault
noncomputable abbrev Ccch:Ctx:=zF prog [(22,GC fun c=>int c.fault),(21,GC fun c=>.tup [int c.parts,int c.levels])]
theorem ccheck_sound:za prog 7 (GC fun c=>int c.check) :=
 zI (fn:=Tryz.f7) (zk (q:=[]) mixed ⟨ccheckPart_sound lim,by simp,measure_sound lim,by simp,trivial⟩:AM.Good Ccch _) ⟨_,func7,by kernel_rfl,rfl,by kernel_rfl⟩ false [] _ fun args r h=>by
  obtain⟨c,rfl,hc,rfl⟩:=xx h
  have h1:=fun hp nx=>kQ (fun c=>int c.fault) c hp nx hc.1
  have h2:=fun hp nx=>kQ (fun c=>.tup [int c.parts,int c.levels]) c hp nx hc.1
  refine⟨by simp[Tryz.f7],_,zb rfl ?_,zG _⟩
  cases hk:(decide ((200:Int)<c.parts)||decide ((20:Int)<c.levels))
  ·simp[h1,h2,hk,Tryz.f7,Cnd.check]
  ·simp[h1,h2,hk,Tryz.f7,Cnd.check]
end Go.Proofs.YtdkfdoeijcfbhaaGreatDoor
