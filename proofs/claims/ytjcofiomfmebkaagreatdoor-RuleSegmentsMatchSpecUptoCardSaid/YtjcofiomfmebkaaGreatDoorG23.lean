/-
ReadRange.
-/
import Derived.Test.YtjcofiomfmebkaaGreatDoorG19
import Derived.Test.YtjcofiomfmebkaaGreatDoorG22
import Derived.Test.YtjcofiomfmebkaaGreatDoorG21
import Derived.Test.YtjcofiomfmebkaaGreatDoorG10
set_option maxRecDepth 8000
namespace Go.AM
open Go.RowKit
def Ve (P:Program) (l:Tab) (g:FuncId) (it:jY):Ctx:=⟨P,lookup l,fun _=>[],fun _=>[],fun _=>false,fun _=>[],fun k=>if k=g then some it else none⟩
@[simp] theorem mkCtxI_P (P:Program) (l:Tab) (g:FuncId) (it:jY):(Ve P l g it).P=P:=rfl
@[simp] theorem call_mkI (P:Program) (l:Tab) (k:FuncId) (it:jY) (hp:Hp) (nx g:Nat) (x y xs:List PV):wg (Ve P l k it) hp nx (some (.fn (.func g) x y)) xs=(lookup l g).bind fun s=>s (x++xs++y) hp nx:=by
 unfold wg Ve
 simp only
 cases lookup l g<;>rfl
@[simp] theorem EvC_region_mkI (P:Program) (l:Tab) (k:FuncId) (it:jY) (i:Nat) (ops:Array Oper) (d:Bool) (st:St) (K:Exit→St→Prop):EvC (Ve P l k it) (.region i ops d) st K=EvL (Ve P l k it) ops ops.toList st (Yk K):=vP _ i ops d st K rfl rfl
theorem zo3 {P:Program} {l:Tab} {q:List Nat} {k:FuncId} {it:jY} (hm:P.follows .mixedOrders=true) (h:ziI True P q l) (hi:zkQ P k it):AM.Good (Ve P l k it) (fun g=>q.contains g) :=
 let g:=zk hm h
 ⟨g.spec,g.quiet,g.mixed,(fun _ _ h=>by cases h),(fun j it' h=>by
  have:(if j=k then some it else none)=some it':=h
  split at this
  ·rename_i e
   injection this with this
   subst this;subst e
   exact hi
  ·cases this)⟩
@[simp] theorem asgK_n (C:Ctx) (b:Code) (K:Exit→St→Prop) (st:St):zvL C b K .normal st=EvC C b st K:=rfl
@[simp] theorem rngK_n (I:Nat→Hp→Nat→Prop) (k:Nat) (σ:Nat→PV) (K:Exit→St→Prop) (st:St):zuV I k σ K .normal st=I (k+1) st.hp st.nx:=rfl
@[simp] theorem rngK_r (I:Nat→Hp→Nat→Prop) (k:Nat) (σ:Nat→PV) (K:Exit→St→Prop) (st:St):zuV I k σ K .ret st=K .ret ⟨σ,st.hp,st.nx⟩:=rfl
theorem zbN {hp:Hp} {nx e s:Nat} {v:PV} {xs:List (List PV)} (h:OwnS hp nx e s v xs) {j:Nat} {b:Blk} (hb:hp j=some b) (ha:b.arr=false):∀n,v≠.own j 0 n:=by
 rcases h with⟨rfl,_⟩ | ⟨id,h1,rfl,h2⟩
 ·intro n e;cases e
 ·intro n e
  injection e with e
  subst e
  rw[h2] at hb
  injection hb with hb
  subst hb
  cases ha
end Go.AM
namespace Go.Proofs.YtjcofiomfmebkaaGreatDoor
open Go.Proofs.Tryz
open Go.RowKit Go.AM
noncomputable def rrP (t:List UInt8):PV:=.tup [.sl 11 (zN (yD t).1),int (yD t).2]
set_option maxRecDepth 100000 in
theorem Xq:za prog 187 (yf C0 f187):=zX (code:=_) yl ⟨func187,by kernel_rfl,rfl,by kernel_rfl⟩
noncomputable abbrev Csq:Ctx:=zC prog [(187,yf C0 f187)]
theorem ztF:AM.Good Csq (fun g=>([]:List Nat).contains g):=zk mixed ⟨Xq,by simp,trivial⟩
set_option maxRecDepth 100000 in
theorem zjo:za prog 146 (yf Csq f146):=zX (code:=_) ztF ⟨func146,by kernel_rfl,rfl,by kernel_rfl⟩
def zuM (t sep:List UInt8) (hp:Hp) (nx:Nat):Hp:=upd (upd (upd hp nx (some ⟨9,1,false,[[str t]]⟩)) (nx+1) (some ⟨9,1,false,[[str sep]]⟩)) (nx+1+1) (some ⟨3,1,false,[[int 0]]⟩)
theorem zd0 (t sep:List UInt8) (hp:Hp) (nx:Nat):yf C0 f187 [str t,str sep,int 0] hp nx=some (.fn (.func 230) [] [.ref (nx+1) 0 0,.ref nx 0 0,.ref (nx+1+1) 0 0],zuM t sep hp nx,nx+1+1+1):=by
 unfold yf
 rw[if_pos (by simp[f187])]
 refine qB rfl ?_
 simp[zuM,f187]
theorem zo4 (t sep:List UInt8) (hp:Hp) (nx:Nat):yf Csq f146 [str t,str sep] hp nx=some (.fn (.func 230) [] [.ref (nx+1) 0 0,.ref nx 0 0,.ref (nx+1+1) 0 0],zuM t sep hp nx,nx+1+1+1):=by
 have h1:=fun hp nx=>zd0 t sep hp nx
 unfold yf
 rw[if_pos (by simp[f146])]
 refine qB rfl ?_
 simp[h1,f146]
def HasR (hp:Hp) (nx:Nat) (v:PV) (m:List Str):Prop:=v=.sl 11 (zN m)∨(v=.nil∧m=[])∨∃id,id<nx∧v=.own id 0 (zN m).length∧hp id=some ⟨164,11,true,zN m⟩
theorem HasR.frz {hp:Hp} {nx:Nat} {v:PV} {m:List Str} (h:HasR hp nx v m):∃y hp1,zE hp v=some (y,hp1)∧(Sh.s 11 y9).fix y=.sl 11 (zN m)∧(∀j,(∀n,v≠.own j 0 n)→hp1 j=hp j)∧∀j b,hp1 j=some b→hp j=some b:=by
 rcases h with rfl | ⟨rfl,rfl⟩ | ⟨id,h1,rfl,h2⟩
 ·exact⟨_,hp,rfl,Z1 m,fun _ _=>rfl,fun _ _ h=>h⟩
 ·exact⟨_,hp,rfl,rfl,fun _ _=>rfl,fun _ _ h=>h⟩
 ·refine⟨.sl 11 (zN m),upd hp id none,by simp[h2],Z1 m,fun j hj=>zq _ _ _ _ fun e=>hj _ (by subst e;rfl),fun j b hb=>?_⟩
  by_cases e:j=id
  ·subst e;rw[qd] at hb;cases hb
  ·rwa [zT _ _ _ _ e] at hb
theorem HasR.keep {hp hp':Hp} {nx nx':Nat} {v:PV} {m:List Str} (h:HasR hp nx v m) (hn:nx≤nx') (hh:∀id,id<nx→(∀n,v=.own id 0 n→hp' id=hp id)):HasR hp' nx' v m:=by
 rcases h with rfl | ⟨rfl,rfl⟩ | ⟨id,h1,rfl,h2⟩
 ·exact .inl rfl
 ·exact .inr (.inl ⟨rfl,rfl⟩)
 ·exact .inr (.inr ⟨id,by omega,rfl,by rw[hh id h1 _ rfl];exact h2⟩)
theorem HasR.len {hp:Hp} {nx:Nat} {v:PV} {m:List Str} (h:HasR hp nx v m):VW prog 118 v=some (int m.length):=by
 rcases h with rfl | ⟨rfl,rfl⟩ | ⟨id,h1,rfl,h2⟩<;>simp[zN]
theorem HasR.box {hp:Hp} {nx:Nat} {v:PV} {m:List Str} (h:HasR hp nx v m) {j:Nat} {b:Blk} (hb:hp j=some b) (he:b.e≠164):∀n,v≠.own j 0 n:=by
 rcases h with rfl | ⟨rfl,rfl⟩ | ⟨id,h1,rfl,h2⟩
 ·intro n e;cases e
 ·intro n e;cases e
 ·intro n e
  injection e with e
  subst e
  rw[h2] at hb
  injection hb with hb
  subst hb
  exact he rfl
theorem HasR.lt {hp:Hp} {nx:Nat} {v:PV} {m:List Str} (h:HasR hp nx v m) {j n:Nat} (e:v=.own j 0 n):j<nx:=by
 rcases h with rfl | ⟨rfl,rfl⟩ | ⟨id,h1,rfl,h2⟩
 ·cases e
 ·cases e
 ·injection e with e;omega
theorem zrH (c:Cpn) (hp:Hp) (nx:Nat) (h:c.ok):zG [.g zot] (FCm Xi) [.agg c.enc] hp nx=some (Xi c,hp,nx) :=
 yp (show zj hp [.agg c.enc]=some ([.agg c.enc],hp) by simp[Cpn.enc]) (by
  have e1:(Sh.g zot).fix (.agg c.enc)=.agg c.enc:=by simp[Cpn.enc]
  show FCm Xi [(Sh.g zot).fix (.agg c.enc)]=_
  rw[e1]
  exact zm (enc:=fun v:Cpn=>[PV.agg v.enc]) (a:=c) (fun a b e=>by simp only[List.cons.injEq,and_true] at e;injection e with e;exact zlt e) h) (.inr (by simp[Cpn.enc]))
theorem zhG (f:Bool→Bool→Bool) (g:Nat) (hg:(f=and∧g=151)∨(f=or∧g=152)) {hp:Hp} {nx:Nat} {v w:PV} {a b:List Str} (ha:HasR hp nx v a) (hb:HasR hp nx w b) (hne:∀id n k,v=.own id 0 n→w≠.own id 0 k) (h1:qK a) (h2:qK b) :
  ∃x hp' nx',yC [.s 11 y9,.s 11 y9] zqb [v,w,.fn (.func g) [] []] hp nx=some (x,hp',nx')∧HasR hp' nx' x (yS f a b)∧nx≤nx'∧(∀j,j<nx→(∀n,v≠.own j 0 n)→(∀n,w≠.own j 0 n)→hp' j=hp j)∧(∀n j,x=.own j 0 n→nx≤j)∧∀s es,x≠.sl s es:=by
 obtain⟨y,hp1,f1,e1,k1,_⟩:=ha.frz
 have hb':HasR hp1 nx w b:=hb.keep (Nat.le_refl _) fun id _ n e=>k1 id fun n' e'=>hne id n' n e' e
 obtain⟨z,hp2,f2,e2,k2,_⟩:=hb'.frz
 have hfr:zj hp [v,w,.fn (.func g) [] []]=some ([y,z,.fn (.func g) [] []],hp2):=by
  simp only[zj,f1,f2]
  rfl
 have hF:zqb (zhb [.s 11 y9,.s 11 y9] (qw [] [y,z,.fn (.func g) [] []]))=some (ZF f a b):=by
  show zqb [(Sh.s 11 y9).fix y,(Sh.s 11 y9).fix z,.fn (.func g) [] []]=_
  rw[e1,e2]
  rcases hg with⟨rfl,rfl⟩ | ⟨rfl,rfl⟩
  ·have:=zm (enc:=fun a:List Str×List Str=>[PV.sl 11 (zN a.1),.sl 11 (zN a.2),.fn (.func 151) [] []]) (pre:=fun a=>qK a.1∧qK a.2) (out:=fun a=>ZF and a.1 a.2) (a:=(a,b)) (zlL _) ⟨h1,h2⟩
   unfold zqb
   rw[this]
  ·have:=zm (enc:=fun a:List Str×List Str=>[PV.sl 11 (zN a.1),.sl 11 (zN a.2),.fn (.func 152) [] []]) (pre:=fun a=>qK a.1∧qK a.2) (out:=fun a=>ZF or a.1 a.2) (a:=(a,b)) (zlL _) ⟨h1,h2⟩
   have hno:zJ (α:=List Str×List Str) (fun a=>[PV.sl 11 (zN a.1),.sl 11 (zN a.2),.fn (.func 151) [] []]) (fun a=>qK a.1∧qK a.2) (fun a=>ZF and a.1 a.2) [PV.sl 11 (zN a),.sl 11 (zN b),.fn (.func 152) [] []]=none:=by
    cases hh:zJ (α:=List Str×List Str) (fun a=>[PV.sl 11 (zN a.1),.sl 11 (zN a.2),.fn (.func 151) [] []]) (fun a=>qK a.1∧qK a.2) (fun a=>ZF and a.1 a.2) [PV.sl 11 (zN a),.sl 11 (zN b),.fn (.func 152) [] []] with
    | none=>rfl
    | some r =>
      obtain⟨_,e,_⟩:=ze hh
      simp at e
   unfold zqb
   rw[hno]
   exact this
 unfold yC qP
 by_cases hz:yS f a b=[]
 ·have hF':=hF
  unfold ZF at hF'
  rw[if_pos hz] at hF'
  simp only[hfr,hF']
  exact⟨_,_,_,rfl,.inr (.inl ⟨rfl,hz⟩),Nat.le_refl _,fun j _ q1 q2=>(k2 j q2).trans (k1 j q1),fun n j e=>(by cases e),fun s es e=>(by cases e)⟩
 ·have hF':=hF
  unfold ZF at hF'
  rw[if_neg hz] at hF'
  simp only[hfr,hF']
  exact⟨_,_,_,rfl,.inr (.inr ⟨nx,by omega,rfl,by simp⟩),by omega,fun j hj q1 q2=>by rw[zq _ _ _ _ (by omega)];exact (k2 j q2).trans (k1 j q1),fun n j e=>(by injection e with e;omega),fun s es e=>(by cases e)⟩
noncomputable abbrev zwi:Ctx:=Ve prog [(146,yf Csq f146),(147,zd false [] (VU zox)),(148,zG [] (QF KL)),(149,zG [.g zot] (FCm Xi)),(150,yC [.s 11 y9,.s 11 y9] zqb),(153,zG [.g y9] (FSt idS))] 230 Vc
theorem ztG:AM.Good zwi (fun g=>([]:List Nat).contains g):=zo3 mixed ⟨zjo,by simp,Yr,by simp,xQ,by simp,KN,by simp,zbs,by simp,Yy,by simp,trivial⟩ zjn
set_option maxHeartbeats 4000000 in
theorem Xr (t:List UInt8) (ht:t.length+1≤lim):∃r0,zg zwi f114 [str t]=some r0∧Stands r0 (rrP t):=by
 refine qt (sh:=.s 11 y9) rfl ?_
 by_cases h400:(400:Int)<t.length
 ·have hv:yD t=([],2):=by unfold yD;rw[if_pos h400]
  simp[h400,rrP,hv,zN,zF,f114]
 have hsq:=fun hp nx=>zo4 t [124,124] hp nx
 obtain⟨parts,hparts⟩:∃parts,zy t [124,124]=parts:=⟨_,rfl⟩
 have hpl:∀p∈parts,p.length≤400:=fun p hp=>by have:=w8 (by rw[hparts];exact hp);omega
 have hpn:parts.length≤401:=by have:=yY (s:=t) (sep:=[124,124]) (by simp);rw[hparts] at this;omega
 have hval:yD t=match rrA parts with
  | none=>([],10)
  | some ls=>match JG ls [] with
    | none=>([],1)
    | some o=>if (100:Int)<o.length then ([],2) else (o,0):=by unfold yD;rw[if_neg h400,hparts]<;>rfl
 simp[h400,hsq]
 refine zkO (p:=23) (xs:=parts.map str) rfl (by simp;exact⟨rfl,rfl⟩) (it:=Vc) rfl (by simp[Vc,zuM,hparts];exact⟨⟨by decide,by omega⟩,rfl⟩) (fun k hp nx=>∃(v:PV) (done:List (List Cpn)),6≤nx∧hp 0=some ⟨118,1,false,[[.nil]]⟩∧hp 1=some ⟨26,1,false,[[int 0]]⟩∧hp 2=some ⟨145,1,false,[[v]]⟩ ∧
   OwnS hp nx 149 1 v (done.map fun l=>[.sl 11 (Qr l)])∧done.length=k∧rrA parts=(rrA (parts.drop k)).map (done++·)) ?_ ?_ ?_
 ·exact⟨.nil,[],by simp,by simp,by simp,by simp,.inl ⟨rfl,rfl⟩,rfl,by rw[List.drop_zero];cases rrA parts<;>rfl⟩
 ·rintro k hp nx hk ⟨v,done,hnx,b0,b1,b2,hO,hdk,he⟩
  have hk':k<parts.length:=by simpa using hk
  have hpk:(parts.map str)[k]=str parts[k]:=by simp
  have hpkl:=hpl parts[k] (List.getElem_mem hk')
  have halt:=fun hp nx=>wu zox parts[k] hp nx (by unfold lim;omega)
  simp only[zox] at halt
  rw[hpk]
  rw[List.drop_eq_getElem_cons hk'] at he
  simp only[rrA] at he
  cases hok:(Yd parts[k]).2
  ·rw[hok] at he
   simp only[Bool.false_eq_true,if_false,Option.map_none] at he
   rw[he] at hval
   have n0:¬0=nx:=by omega
   have n1:¬1=nx:=by omega
   simp[halt,hok,b0,b1,rrP,hval,zN,zF,f114]
  ·rw[hok] at he
   simp only[if_true] at he
   have hap:=OwnS.append1 (P:=prog) (t:=145) (c:=[.sl 11 (Qr (Yd parts[k]).1)]) hO zs3 zu2 zu3 zu4 rfl (by omega) (by simp[hdk];unfold maxLen;omega) (by simp[hdk];omega)
   have k0:=fun hp'=>qM hO hp' 0 (zbN hO b0 rfl)
   have k1:=fun hp'=>qM hO hp' 1 (zbN hO b1 rfl)
   have k2:=fun hp'=>qM hO hp' 2 (zbN hO b2 rfl)
   have n0:¬0=nx:=by omega
   have n1:¬1=nx:=by omega
   have n2:¬2=nx:=by omega
   have n3:¬1=nx+1:=by omega
   have n4:¬2=nx+1:=by omega
   have n5:¬nx+1=2:=by omega
   simp[halt,hok,b0,b1,b2,hap,k0,k1,k2,n0,n1,n2,n3,n4,n5,zh,zo,zf]
   refine⟨by omega,by rw[zq _ _ _ _ (by omega),k1,zq _ _ _ _ (by omega)];exact b1,done++[(Yd parts[k]).1],.inr ⟨nx+1,by omega,by simp,by rw[zq _ _ _ _ (by omega)];simp⟩,by simp[hdk],?_⟩
   rw[he]
   cases rrA (parts.drop (k+1))<;>simp
 ·rintro hp nx ⟨v,done,hnx,b0,b1,b2,hO,hdk,he⟩
  rw[List.length_map] at hdk
  rw[List.length_map,List.drop_length] at he
  simp only[rrA,Option.map_some,List.append_nil] at he
  obtain⟨hgood,hdl⟩:=zbv parts done 400 hpl he
  rw[he] at hval
  simp only at hval
  have hlen:=hO.len zs3
  rw[List.length_map] at hlen
  have hdn:done.length≤401:=by omega
  obtain⟨rows,hrows⟩:∃rows,done.map (fun l=>[PV.sl 11 (Qr l)])=rows:=⟨_,rfl⟩
  rw[hrows] at hO
  have hrl:rows.length=done.length:=by rw[←hrows];simp
  simp[b2,hlen]
  refine zu (fun i σ hp nx=>σ 2=.ref 0 0 0∧σ 3=.ref 1 0 0∧σ 35=v∧σ 36=int done.length∧σ 37=int i∧6≤nx∧hp 0=some ⟨118,1,false,[[.nil]]⟩∧hp 1=some ⟨26,1,false,[[int 0]]⟩ ∧
    OwnS hp nx 149 1 v rows∧∃o,HasR hp nx (σ 8) o∧(∀s es,σ 8≠.sl s es)∧goodR o∧o.length≤i*500∧JG done []=JG (done.drop i) o) done.length
   ⟨by simp,by simp,by simp,by simp,by simp,hnx,b0,b1,hO,[],.inr (.inl ⟨by simp,rfl⟩),by simp,(by intro s hs;cases hs),by simp,by simp⟩ ?_
  clear hnx b0 b1 b2 hO hlen hp nx
  rintro i σ hp nx hi ⟨h2,h3,h35,h36,h37,hnx,b0,b1,hO,o,hR,hsl,hgo,hol,hj⟩
  by_cases hlt:i<done.length
  ·obtain⟨idA,hidA,rfl,hbA⟩:=hO.at_ (by omega)
   obtain⟨l,hl⟩:∃l,done[i]=l:=⟨_,rfl⟩
   have hri:∀h:i<rows.length,rows[i]=[PV.sl 11 (Qr l)]:=fun h=>by
    have:rows[i]?=some [PV.sl 11 (Qr l)]:=by rw[←hrows,List.getElem?_map,List.getElem?_eq_getElem hlt,hl];rfl
    rw[List.getElem?_eq_getElem h] at this
    injection this
   obtain⟨hgl,hll⟩:=hgood l (by rw[←hl];exact List.getElem_mem hlt)
   rw[List.drop_eq_getElem_cons hlt,hl] at hj
   simp only[JG] at hj
   have hev:∀(hp:Hp) (nx:Nat),zG [] (QF KL) [] hp nx=some (.sl 11 (zN [qz leastC]),hp,nx):=fun hp nx=>kr _ hp nx
   have hwi:IntKind.i64.wrap ((i:Int)+1)=(i:Int)+1:=zc (by omega) (by omega)
   have hel:(Qr l).length=l.length:=by simp[Qr]
   simp[h2,h3,h35,h36,h37,hlt,hrl,hbA,hri,hev,hel]
   refine zu (fun k σ hp nx=>σ 2=.ref 0 0 0∧σ 3=.ref 1 0 0∧σ 35=.own idA 0 rows.length∧σ 36=int done.length∧σ 37=int i∧6≤nx∧hp 0=some ⟨118,1,false,[[.nil]]⟩∧hp 1=some ⟨26,1,false,[[int 0]]⟩ ∧
     OwnS hp nx 149 1 (.own idA 0 rows.length) rows∧HasR hp nx (σ 8) o∧(∀s es,σ 8≠.sl s es)∧σ 42=.sl 11 (Qr l)∧σ 43=int l.length∧σ 44=int k∧∃m,HasR hp nx (σ 11) m∧goodR m∧m.length≤k+1∧(∀id n n',σ 8=.own id 0 n→σ 11≠.own id 0 n')∧QJ l [qz leastC]=QJ (l.drop k) m) l.length
    ⟨by simp[h2],by simp[h3],by simp[h35,hrl],by simp[h36],by simp[h37],hnx,b0,b1,hO,by simpa using hR,by simpa using hsl,by simp,by simp,by simp,[qz leastC],.inl (by simp),(jL wS).2,by simp,by simp,by simp⟩ ?_
   clear h2 h3 h35 h36 h37 hnx b0 b1 hO hR hsl hi hbA hidA σ hp nx
   rintro k σ hp nx hk ⟨h2,h3,h35,h36,h37,hnx,b0,b1,hO,hR,hsl,h42,h43,h44,m,hM,hgm,hml,hap,hme⟩
   by_cases hltk:k<l.length
   ·obtain⟨c,hc⟩:∃c,l[k]=c:=⟨_,rfl⟩
    have hcg:c.good:=hgl c (by rw[←hc];exact List.getElem_mem hltk)
    obtain⟨hs1,hs2⟩:=ZH hcg
    have hke:∀h:k<(Qr l).length,(Qr l)[k]=c.enc:=fun h=>by simp[Qr,hc]
    have hst:=fun hp nx=>zrH c hp nx hcg.ok
    have hwk:IntKind.i64.wrap ((k:Int)+1)=(k:Int)+1:=zc (by omega) (by omega)
    rw[List.drop_eq_getElem_cons hltk,hc] at hme
    simp only[QJ] at hme
    have n0:¬0=nx:=by omega
    have n1:¬1=nx:=by omega
    cases hok:(vy c).2
    ·rw[hok] at hme
     simp only[Bool.false_eq_true,if_false] at hme
     rw[hme] at hj
     simp only at hj
     rw[hj] at hval
     simp only at hval
     simp only[Xi,Cpn.enc] at hst hke
     simp[h2,h3,h35,h36,h37,h42,h43,h44,hltk,hel,hke,hst,hok,b0,b1,n0,n1,rrP,hval,zN,zF,f114]
    ·rw[hok] at hme
     simp only[if_true] at hme
     have hM':HasR (upd hp nx (some ⟨156,11,false,[c.enc]⟩)) (nx+1) (σ 11) m:=hM.keep (by omega) fun id hid n e=>zq _ _ _ _ (by omega)
     obtain⟨x,hp',nx',hcomb,hX,hnx',hfr,hfresh,hxs⟩:=zhG and 151 (.inl ⟨rfl,rfl⟩) hM' (.inl rfl:HasR _ _ (.sl 11 (zN (vy c).1)) (vy c).1) (fun id n k e e2=>by cases e2) (hgm.small (by unfold lim;omega)) (goodR.small hs2 (by unfold lim;omega))
     have hpres:∀j,j<nx→(∀n,σ 11≠.own j 0 n)→hp' j=hp j:=fun j hj q=>by
      rw[hfr j (by omega) q (fun n e=>by cases e),zq _ _ _ _ (by omega)]
     have hlm:=vY and m (vy c).1
     obtain⟨idA2,hidA,heA,hbA⟩:=hO.at_ (by omega)
     injection heA with heA
     subst heA
     simp only[Xi,Cpn.enc] at hst hke hcomb
     simp[h2,h3,h35,h36,h37,h42,h43,h44,hltk,hel,hke,hst,hok,hcomb,hwk]
     exact⟨by omega,by omega,by rw[hpres 0 (by omega) (hM.box b0 (by decide))];exact b0,by rw[hpres 1 (by omega) (hM.box b1 (by decide))];exact b1,.inr ⟨idA,by omega,rfl,by rw[hpres idA hidA (hM.box hbA (by simp))];exact hbA⟩,hR.keep (by omega) (fun id hid n e=>hpres id hid fun n'=>hap id n n' e),hsl,_,hX,wI and hgm hs2,by omega,fun id n n' e e2=>by have:=hR.lt e;have:=hfresh _ _ e2;omega,hme⟩
   ·obtain rfl:k=l.length:=by omega
    rw[List.drop_length] at hme
    simp only[QJ] at hme
    rw[hme] at hj
    simp only at hj
    obtain⟨x,hp',nx',hcomb,hX,hnx',hfr,hfresh,hxs⟩:=zhG or 152 (.inr ⟨rfl,rfl⟩) hR hM hap (hgo.small (by unfold lim;omega)) (hgm.small (by unfold lim;omega))
    have hlm:=vY or o m
    obtain⟨idA2,hidA,heA,hbA⟩:=hO.at_ (by omega)
    injection heA with heA
    subst heA
    simp[h2,h3,h35,h36,h37,h42,h43,h44,hcomb,hwi]
    exact⟨by omega,hrl,by omega,by rw[hfr 0 (by omega) (hR.box b0 (by decide)) (hM.box b0 (by decide))];exact b0,by rw[hfr 1 (by omega) (hR.box b1 (by decide)) (hM.box b1 (by decide))];exact b1,.inr ⟨idA,by omega,by rw[hrl],by rw[hfr idA hidA (hR.box hbA (by simp)) (hM.box hbA (by simp))];exact hbA⟩,_,hX,hxs,wI or hgo hgm,by omega,hj⟩
  ·obtain rfl:i=done.length:=by omega
   rw[List.drop_length] at hj
   simp only[JG] at hj
   rw[hj] at hval
   simp only at hval
   have hlenR:=hR.len
   by_cases h100:(100:Int)<o.length
   ·rw[if_pos h100] at hval
    simp[h2,h3,h36,h37,hlenR,h100,b0,b1,rrP,hval,zN,zF,f114]
   rw[if_neg h100] at hval
   simp[h2,h3,h36,h37,hlenR,h100]
   obtain⟨w,hw8⟩:∃w,σ 8=w:=⟨_,rfl⟩
   rw[hw8] at hR hsl
   refine zu (fun j σ hp nx=>σ 2=.ref 0 0 0∧σ 3=.ref 1 0 0∧σ 8=w∧σ 66=w∧σ 67=int o.length∧σ 68=int j∧6≤nx∧hp 0=some ⟨118,1,false,[[.nil]]⟩∧hp 1=some ⟨26,1,false,[[int 0]]⟩∧HasR hp nx w o) o.length
    ⟨by simp[h2],by simp[h3],by simp[hw8],by simp[hw8],by simp,by simp,hnx,b0,b1,hR⟩ ?_
   clear h2 h3 h35 h36 h37 hnx b0 b1 hO hR hi hw8 σ hp nx hlenR
   rintro j σ hp nx hjl ⟨h2,h3,h8,h66,h67,h68,hnx,b0,b1,hR⟩
   by_cases hltj:j<o.length
   ·have hwj:IntKind.i64.wrap ((j:Int)+1)=(j:Int)+1:=zc (by omega) (by omega)
    rcases hR with rfl | ⟨rfl,rfl⟩ | ⟨id,hid,rfl,hb⟩
    ·exact absurd rfl (hsl _ _)
    ·simp at hltj
    ·obtain⟨s,hs⟩:∃s,o[j]=s:=⟨_,rfl⟩
     have hgs:=hgo s (by rw[←hs];exact List.getElem_mem hltj)
     have hel:(zN o).length=o.length:=by simp[zN]
     have hke:∀h:j<(zN o).length,(zN o)[j]=s.enc:=fun h=>by simp[zN,hs]
     have hset:(zN o).set j s.enc=zN o:=by
      have h':j<(zN o).length:=by omega
      rw[←hke h'];exact List.set_getElem_self h'
     have hcp:∀hp nx,zG [.g y9] (FSt idS) [.agg s.enc] hp nx=some (.agg s.enc,hp,nx):=fun hp nx=>zoL idS s (.agg s.enc) hp nx ⟨hgs.1.small,hgs.2.small⟩ (by simp[Str.enc,Cut.enc]) (by simp[Str.enc,Cut.enc]) (by simp[Str.enc,Cut.enc])
     have m1:¬id=nx:=by omega
     simp only[Str.enc,Cut.enc,List.cons_append,List.nil_append] at hke hcp hset
     have i0:¬0=id:=fun e=>by rw[←e] at hb;rw[hb] at b0;simp at b0
     have i1:¬1=id:=fun e=>by rw[←e] at hb;rw[hb] at b1;simp at b1
     have n0:¬0=nx:=by omega
     have n1:¬1=nx:=by omega
     simp[h2,h3,h8,h66,h67,h68,hltj,hel,hb,hke,hcp,m1,hwj,hset]
     exact⟨by omega,by omega,by simp[i0,n0,b0],by simp[i1,n1,b1],.inr (.inr ⟨id,by omega,by rw[hel],by simp⟩)⟩
   ·obtain rfl:j=o.length:=by omega
    rcases hR with rfl | ⟨rfl,rfl⟩ | ⟨id,hid,rfl,hb⟩
    ·exact absurd rfl (hsl _ _)
    ·simp[h2,h3,h8,h66,h67,h68,b0,b1,rrP,hval,zF,zN,f114]
    ·have i0:¬id=0:=fun e=>by rw[e] at hb;rw[hb] at b0;simp at b0
     have i1:¬id=1:=fun e=>by rw[e] at hb;rw[hb] at b1;simp at b1
     have hfx:=Z1 o
     simp only[Sh.fix_s,PV.sl.injEq,true_and] at hfx
     simp[h2,h3,h8,h66,h67,h68,b0,b1,hb,i0,i1,rrP,hval,zF,hfx,f114]
theorem ZL:za prog 114 (zd false [] (VU rrP)) :=
 xw (fn:=f114) ztG ⟨_,func114,by kernel_rfl,rfl,by kernel_rfl⟩ false [] _ fun args r h w S vs hz=>by
  obtain⟨l,rfl,hp,rfl⟩:=ze h
  obtain⟨r0,h1,h2⟩:=Xr l hp
  exact⟨_,r0,hz,by simp[f114],h1,h2⟩
theorem zl8 {hp:Hp} {nx e s by_ i:Nat} {v:PV} {xs:List (List PV)} {c:List PV} (h:OwnS hp nx e s v xs) (hi:i<xs.length) (hb:(xs.length+1)*by_≤140737488355328) (hm:xs.length+1≤maxLen) :
  zdV e s by_ [v,int i,.own nx 0 1] (upd hp nx (some ⟨e,s,true,[c]⟩)) (nx+1)=some (.own (nx+1) 0 (xs.length+1),upd (QC v (upd hp nx (some ⟨e,s,true,[c]⟩))) (nx+1) (some ⟨e,s,true,xs.take i++c::xs.drop i⟩),nx+2):=by
 obtain⟨id,hid,rfl,hh⟩:=h.at_ (by omega)
 have n1:id≠nx:=by omega
 have hh':upd hp nx (some ⟨e,s,true,[c]⟩) id=some ⟨e,s,true,xs⟩:=by rw[zq _ _ _ _ n1];exact hh
 have hi':(i:Int)<xs.length:=by omega
 unfold zdV
 simp only[hh',qd]
 rw[if_pos (by refine⟨n1,?_,?_,?_,?_,?_,?_,?_,hi',hb,hm⟩<;>first | trivial | rfl | omega)]
 simp[QC]
theorem zo5 {hp:Hp} {nx e s by_:Nat} {v:PV} {xs:List (List PV)} {b:Option Blk} (h:OwnS hp nx e s v xs):zdV e s by_ [v,int (xs.length:Nat),.own nx 0 1] (upd hp nx b) (nx+1)=none:=by
 rcases h with⟨rfl,rfl⟩ | ⟨id,hid,rfl,hh⟩
 ·rfl
 ·unfold zdV
  simp only
  split
  ·split
   ·rw[if_neg (fun hk=>by have:=hk.2.2.2.2.2.2.2.2.1;omega)]
   ·rfl
  ·rfl
theorem zo6 {hp:Hp} {nx:Nat} {v:PV} {xs:List (List PV)} {c:List PV} (h:OwnS hp nx 162 5 v xs) (hm:xs.length≤8388608) :
  yf C0 f247 [v,int (xs.length:Nat),.own nx 0 1] (upd hp nx (some ⟨162,5,true,[c]⟩)) (nx+1)=some (.own (nx+1) 0 (xs.length+1),upd (QC v (upd hp nx (some ⟨162,5,true,[c]⟩))) (nx+1) (some ⟨162,5,true,xs++[c]⟩),nx+2):=by
 unfold yf
 rw[if_pos (by simp[f247])]
 refine qB rfl ?_
 have hap:=OwnS.append1 (P:=prog) (t:=205) (c:=c) h zcX zaT ziJ ziK rfl (by omega) (by unfold maxLen;omega) (by omega)
 rcases h with⟨rfl,rfl⟩ | ⟨id,hid,rfl,hh⟩
 ·simp at hap
  simp[wB,hap,f247]
 ·have n1:¬id=nx:=by omega
  simp[wB,hap,hh,n1,f247]
noncomputable abbrev zo7:AM.Spec:=zuL C0 f247 162 5 56
set_option maxRecDepth 100000 in
theorem zf4:za prog 247 zo7 :=
 zjj (zf2 ⟨_,func247,by decide,by kernel_rfl⟩ zaT (by decide) zrF) (zX (code:=_) yl ⟨func247,by kernel_rfl,rfl,by kernel_rfl⟩)
theorem zjp {hp:Hp} {nx i:Nat} {v:PV} {xs:List (List PV)} {c:List PV} (h:OwnS hp nx 162 5 v xs) (hi:i≤xs.length) (hm:xs.length≤8388608) :
  zo7 [v,int i,.own nx 0 1] (upd hp nx (some ⟨162,5,true,[c]⟩)) (nx+1)=some (.own (nx+1) 0 (xs.length+1),upd (QC v (upd hp nx (some ⟨162,5,true,[c]⟩))) (nx+1) (some ⟨162,5,true,xs.take i++c::xs.drop i⟩),nx+2):=by
 unfold zo7 zuL
 by_cases hlt:i<xs.length
 ·rw[zl8 h hlt (by omega) (by unfold maxLen;omega)]
 ·obtain rfl:i=xs.length:=by omega
  rw[zo5 h]
  simp only
  rw[zo6 h hm,List.take_length,List.drop_length]
noncomputable def ztH (l:List Cut):Option Blk:=if yy l=[] then none else some ⟨162,5,true,qb (yy l)⟩
noncomputable abbrev zwj:Ctx:=zC prog [(216,zG [.g y8,.g y8] (FCC fun v w=>int (qx v w))),(247,zo7)]
theorem zrI:AM.Good zwj (fun g=>[216].contains g):=zk mixed ⟨yd,fun _=>qv _ _,zf4,by simp,trivial⟩
theorem Vf {l:List Cut} {k:Nat} (h:k<l.length):yy (l.take (k+1))=QN l[k] (yy (l.take k)):=by
 unfold yy
 rw[List.take_succ_eq_append_getElem h,List.foldl_append]
 rfl
theorem zhH {c:Cut}:∀{l:List Cut} {x:Cut},x∈QN c l→x=c∨x∈l
 | [],x,h=>by simp only[QN,List.mem_singleton] at h;exact .inl h
 | a::l,x,h=>by
   simp only[QN] at h
   split at h
   ·rcases List.mem_cons.1 h with rfl | h
    ·exact .inr (by simp)
    ·exact (zhH h).imp id fun h=>by simp[h]
   ·split at h
    ·exact .inr h
    ·rcases List.mem_cons.1 h with rfl | h
     ·exact .inl rfl
     ·exact .inr h
theorem YG:∀{l o:List Cut} {x:Cut},x∈l.foldl (fun o c=>QN c o) o→x∈l∨x∈o
 | [],o,x,h=>.inr h
 | c::l,o,x,h=>by
   rw[List.foldl_cons] at h
   rcases YG h with h | h
   ·exact .inl (by simp[h])
   ·rcases zhH h with rfl | h
    ·exact .inl (by simp)
    ·exact .inr h
theorem zrJ (c:Cut) (l:List Cut):QN c l≠[]:=by
 cases l with
 | nil=>simp[QN]
 | cons a l=>simp only[QN];split<;>(try split)<;>simp
theorem zl9 {l:List Cut} (h:yy l=[]):l.length=0:=by
 cases hl:l.length with
 | zero=>rfl
 | succ k =>
   have hk:k<l.length:=by omega
   have:=Vf hk
   rw[List.take_of_length_le (by omega),h] at this
   exact absurd this.symm (zrJ _ _)
theorem WL (l:List Cut):(qb l).length=l.length:=by simp[qb]
theorem zma (o:List Cut) (i:Nat) (c:Cut):(qb o).take i++c.enc::(qb o).drop i=qb (o.take i++c::o.drop i):=by simp[qb]
set_option maxHeartbeats 4000000 in
theorem zd1 (l:List Cut) (hs:∀c∈l,c.v.small) (hl:l.length≤8388608):∃x hp nx,q8 zwj f213 [.sl 5 (qb l)] (fun _=>none) 0=some (x,hp,nx)∧zlJ y8 (ztH l) x hp nx:=by
 refine zM rfl ?_
 have hel:=WL l
 simp[hel]
 refine zu (fun k σ hp nx=>σ 7=.sl 5 (qb l)∧σ 8=int l.length∧σ 9=int k∧OwnS hp nx 162 5 (σ 3) (qb (yy (l.take k)))∧(k=0→σ 3=.nil)) l.length
  ⟨by simp,by simp,by simp,.inl ⟨by simp,by simp[yy,qb]⟩,by simp⟩ ?_
 rintro k σ hp nx hk ⟨h7,h8,h9,hO,h0⟩
 have hol:=YF (l.take k) []
 have hall:yy (l.take k)=(l.take k).foldl (fun o c=>QN c o) []:=rfl
 rw[←hall,List.length_nil,List.length_take] at hol
 have hosm:∀x∈yy (l.take k),x.v.small:=fun x hx=>by
  rw[hall] at hx
  rcases YG hx with h | h
  ·exact hs x (List.mem_of_mem_take h)
  ·cases h
 by_cases hlt:k<l.length
 ·obtain⟨c,hc⟩:∃c,l[k]=c:=⟨_,rfl⟩
  have hcs:c.v.small:=hs c (by rw[←hc];exact List.getElem_mem hlt)
  have hke:∀h:k<(qb l).length,(qb l)[k]=c.enc:=fun h=>by simp[qb,hc]
  have hwk:IntKind.i64.wrap ((k:Int)+1)=(k:Int)+1:=zc (by omega) (by omega)
  have htk:=Vf hlt
  rw[hc] at htk
  obtain⟨o,ho⟩:∃o,yy (l.take k)=o:=⟨_,rfl⟩
  rw[ho] at hO hol hosm htk
  have heo:=WL o
  obtain⟨P,hP⟩:∃P,nx=P:=⟨_,rfl⟩
  obtain⟨v,hv⟩:∃v,σ 3=v:=⟨_,rfl⟩
  rw[hv] at hO
  simp only[Cut.enc] at hke
  simp[h7,h8,h9,hlt,hel,hke]
  rw[hP] at hO ⊢
  refine zu (fun i σ hp nx=>σ 7=.sl 5 (qb l)∧σ 8=int l.length∧σ 9=int k∧σ 3=v∧σ 5=.ref P 0 0∧σ 6=int i∧P<nx∧hp P=some ⟨162,5,false,[c.enc]⟩∧OwnS hp nx 162 5 v (qb o)∧∀j (h:j<o.length),j<i→qx o[j] c<0) o.length
   ⟨by simp[h7],by simp[h8],by simp[h9],by simp[hv],by simp,by simp,(by show P<P+1;omega),by simp[Cut.enc],hO.more _,fun j _ h=>absurd h (by omega)⟩ ?_
  clear h7 h8 h9 h0 hv hO σ hp hP nx
  rintro i σ hp nx hi ⟨h7,h8,h9,h3,h5,h6,hPn,bP,hO,hbef⟩
  have hwi:IntKind.i64.wrap ((i:Int)+1)=(i:Int)+1:=zc (by omega) (by omega)
  have hlen:=hO.len zcX
  rw[heo] at hlen
  simp only[Cut.enc] at bP
  have nP:¬P=nx:=by omega
  have hins:=fun (hi:i≤o.length)=>zjp (i:=i) (c:=[int c.v.a,int c.v.b,int c.v.c,.sl 1 (zD c.v.pre),boo c.after]) hO (by rw[heo];exact hi) (by rw[heo];omega)
  rw[heo] at hins
  have hrow:=zma o i c
  simp only[Cut.enc] at hrow
  rw[hrow] at hins
  have hfin:∀o',QN c o=o'→yy (l.take (k+1))=o':=fun o' e=>by rw[htk,e]
  by_cases hit:i<o.length
  ·obtain⟨id,hid,hve,hb⟩:=hO.at_ (by rw[heo];omega)
   obtain⟨q,hq⟩:∃q,o[i]=q:=⟨_,rfl⟩
   have hqs:q.v.small:=hosm q (by rw[←hq];exact List.getElem_mem hit)
   have hoe:∀h:i<(qb o).length,(qb o)[i]=q.enc:=fun h=>by simp[qb,hq]
   have hcc:=fun hp nx=>jD q c hp nx hqs hcs
   simp only[Cut.enc] at hoe hcc
   have hat:=zf3 c o i (by omega) hbef
   by_cases hlt2:qx q c<0
   ·subst hve
    simp[h7,h8,h9,h3,h5,h6,hlen,heo,hit,hb,hoe,bP,hcc,hlt2,hwi]
    have hbef':∀j (h:j<o.length),j<i+1→qx o[j] c<0:=fun j h hj=>by
     rcases Nat.lt_or_ge j i with h1 | h1
     ·exact hbef j h h1
     ·obtain rfl:j=i:=by omega
      rw[hq];exact hlt2
    exact⟨by omega,hPn,rfl,(by rw[heo] at hO;exact hO),hbef'⟩
   ·have hat':=hat fun _=>by rw[hq];exact hlt2
    by_cases hz:qx q c=0
    ·have h1:=hat'.1 ⟨hit,by rw[hq];exact hz⟩
     have hi1:((i:Int)==o.length)=false:=by rw[beq_eq_false_iff_ne];omega
     subst hve
     simp[h7,h8,h9,h3,h5,h6,hlen,heo,hit,hb,hoe,bP,hcc,hlt2,hz,hi1,hwk]
     exact⟨hlt,by rw[hfin _ h1];rw[heo] at hO;exact hO⟩
    ·have h1:=hat'.2 fun _=>by rw[hq];exact hz
     have hz':(qx q c != 0)=true:=by simpa using hz
     have hi1:((i:Int)==o.length)=false:=by rw[beq_eq_false_iff_ne];omega
     have hins':=hins (by omega)
     subst hve
     rw[heo] at hins'
     have hl9:(qb (o.take i++c::o.drop i)).length=o.length+1:=by rw[WL];simp;omega
     simp[h7,h8,h9,h3,h5,h6,hlen,heo,hit,hb,hoe,bP,hcc,hlt2,hz,hz',hi1,hins',nP,hwk,zh,zo,zf]
     exact⟨hlt,by rw[hfin _ h1];exact .inr ⟨nx+1,by omega,by rw[hl9],by simp⟩⟩
  ·obtain rfl:i=o.length:=by omega
   have h1:=(zf3 c o o.length (Nat.le_refl _) hbef (fun h=>absurd h (by omega))).2 (fun h=>absurd h (by omega))
   have hins':=hins (Nat.le_refl _)
   simp[h7,h8,h9,h3,h5,h6,hlen,heo,bP,hins',nP,hwk,zh,zo,zf]
   rw[List.take_length,List.drop_length] at h1
   have hl9:(qb (o++[c])).length=o.length+1:=by rw[WL];simp
   exact⟨hlt,by rw[hfin _ h1];exact .inr ⟨nx+1,by omega,by rw[hl9],by simp⟩⟩
 ·obtain rfl:k=l.length:=by omega
  rw[List.take_length] at hO
  simp[h7,h8,h9,f213]
  unfold ztH
  rcases hO with⟨e1,e2⟩ | ⟨id,hid,e1,e2⟩
  ·have:yy l=[]:=by simpa[qb] using e2
   rw[if_pos this]
   exact e1
  ·by_cases hz:yy l=[]
   ·rw[if_pos hz]
    exact h0 (zl9 hz)
   ·rw[if_neg hz]
    exact⟨id,_,e1,e2,rfl,by simp[zja,qb,Cut.enc]⟩
noncomputable def FSc:List PV→Option (Option Blk):=zJ (α:=List Cut) (fun l=>[.sl 5 (qb l)]) (fun l=>(∀c∈l,c.v.small)∧l.length≤8388608) ztH
theorem zmb {a b:List Cut} (h:qb a=qb b):a=b:=yz (fun _ _ e=>jg e) h
theorem ztI:∀a b:List Cut,[PV.sl 5 (qb a)]=[PV.sl 5 (qb b)]→a=b:=fun a b e=>by
 simp only[List.cons.injEq,and_true] at e
 injection e with _ e
 exact zmb e
set_option maxRecDepth 100000 in
theorem zbO:za prog 213 (yC [.s 5 y8] FSc) :=
 xC (fn:=f213) zrI ⟨_,func213,by kernel_rfl,rfl,by kernel_rfl⟩ _ y8 _ fun args r h=>by
  obtain⟨l,rfl,⟨h1,h2⟩,rfl⟩:=ze h
  exact⟨by simp[f213],zd1 l h1 h2⟩
theorem zo8 (l:List Cut):(qb l).map (Yc y8)=qb l:=by simp[qb,Cut.enc]
theorem zd2 {hp:Hp} {nx:Nat} {v:PV} {l:List Cut} (h:OwnS hp nx 162 5 v (qb l)) (hs:∀c∈l,c.v.small) (hl:l.length≤8388608) :
  ∃x hp' nx',yC [.s 5 y8] FSc [v] hp nx=some (x,hp',nx')∧OwnS hp' nx' 162 5 x (qb (yy l))∧nx≤nx':=by
 have hF:∀y hp1,zE hp v=some (y,hp1)→(Sh.s 5 y8).fix y=.sl 5 (qb l)→∃x hp' nx',yC [.s 5 y8] FSc [v] hp nx=some (x,hp',nx')∧OwnS hp' nx' 162 5 x (qb (yy l))∧nx≤nx':=by
  intro y hp1 e1 e2
  have hfr:zj hp [v]=some ([y],hp1):=by simp only[zj,e1]
  have hf:FSc (zhb [.s 5 y8] (qw [] [y]))=some (ztH l):=by
   show FSc [(Sh.s 5 y8).fix y]=_
   rw[e2]
   exact zm (enc:=fun l:List Cut=>[PV.sl 5 (qb l)]) (a:=l) ztI ⟨hs,hl⟩
  unfold yC qP
  simp only[hfr,hf]
  unfold ztH
  by_cases hz:yy l=[]
  ·rw[if_pos hz]
   exact⟨.nil,hp1,nx,rfl,.inl ⟨rfl,by rw[hz];rfl⟩,Nat.le_refl _⟩
  ·rw[if_neg hz]
   exact⟨_,_,_,rfl,.inr ⟨nx,by omega,rfl,by simp⟩,by omega⟩
 rcases h with⟨rfl,h0⟩ | ⟨id,h1,rfl,h2⟩
 ·exact hF .nil hp rfl (by rw[h0];rfl)
 ·exact hF (.sl 5 (qb l)) (upd hp id none) (by simp[h2]) (by rw[Sh.fix_s,zo8])
theorem zmc {a b:List Str} (ha:a.length≤lim) (hb:b.length≤lim) {hp:Hp} {nx id e:Nat} (h:hp id=some ⟨e,1,true,[[.sl 11 (zN a)],[.sl 11 (zN b)]]⟩) :
  zd true [] zji [.own id 0 2] hp nx=some (.sl 11 (zN (a++b)),upd hp id none,nx):=by
 have hF:zji [.sl 1 [[.sl 11 (zN a)],[.sl 11 (zN b)]]]=some (.sl 11 (zN (a++b))):=by
  unfold zji zrE
  exact zm (enc:=fun a:List Str×List Str=>[PV.sl 1 [[.sl 11 (a.1.map Str.enc)],[.sl 11 (a.2.map Str.enc)]]]) (a:=(a,b)) (fun x y e=>by
   obtain⟨x1,x2⟩:=x
   obtain⟨y1,y2⟩:=y
   simp only[List.cons.injEq,and_true] at e
   injection e with _ e
   simp only[List.cons.injEq,and_true] at e
   obtain⟨e1,e2⟩:=e
   injection e1 with _ e1
   injection e2 with _ e2
   rw[yu e1,yu e2]) ⟨ha,hb⟩
 simp[zd,zj,zE,qh,h,qw,hF,PV.flat,PV.noOwn]
noncomputable abbrev zwk:Ctx:=zC prog [(212,zd true [] zji),(213,yC [.s 5 y8] FSc),(164,zG [.s 11 y9,.g y8] (FRC fun l c=>boo (wG l c))),(214,zd false [] FTk)]
theorem zrK:AM.Good zwk (fun g=>[164,214].contains g):=zk mixed ⟨zbK,by simp,zbO,by simp,Wu,fun _=>qv _ _,zfG,fun _=>zi _ _,trivial⟩
set_option maxHeartbeats 4000000 in
theorem zmd (w:Int) (a b:List Str) (ha:qK a) (hb:qK b) (hga:goodR a) (hgb:goodR b) :
  ∃x hp nx,q8 zwk f162 [int w,.sl 11 (zN a),.sl 11 (zN b)] (fun _=>none) 0=some (x,hp,nx)∧zlJ y9 (ZF (xX w) a b) x hp nx:=by
 refine zM rfl ?_
 have hsa:=ha
 have hsb:=hb
 obtain⟨ha1,ha2⟩:=ha
 obtain⟨hb1,hb2⟩:=hb
 have hcat:=fun hp nx id e h=>zmc ha1 hb1 (hp:=hp) (nx:=nx) (id:=id) (e:=e) h
 unfold lim at ha1 hb1
 have hins:=zo2 (xX w) hga hgb
 obtain⟨l,hl⟩:∃l,a++b=l:=⟨_,rfl⟩
 rw[hl] at hins hcat
 have hll:l.length≤4194304:=by rw[←hl];simp;omega
 have hlsm:∀s∈l,s.small:=fun s hs=>by
  rw[←hl] at hs
  rcases List.mem_append.1 hs with h | h
  ·exact ha2 s h
  ·exact hb2 s h
 have hel:(zN l).length=l.length:=by simp[zN]
 have hcat':=hcat (upd (fun _=>none) 0 (some ⟨118,1,true,[[.sl 11 (zN a)],[.sl 11 (zN b)]]⟩)) 1 0 118 (by simp)
 simp[zh,zo,zf,hcat',hel]
 refine zu (fun k σ hp nx=>σ 0=int w∧σ 1=.sl 11 (zN a)∧σ 2=.sl 11 (zN b)∧OwnS hp nx 162 5 (σ 7) (qb (zV (l.take k))) ∧
   σ 18=.sl 11 (zN l)∧σ 19=int l.length∧σ 20=int k) l.length
   ⟨by simp,by simp,by simp,.inl ⟨by simp,by simp[zV,qb]⟩,by simp,by simp,by simp⟩ ?_
 rintro k σ hp nx hk ⟨h0,h1,h2,hO,h25,h26,h27⟩
 by_cases hltk:k<l.length
 ·have hwk:IntKind.i64.wrap ((k:Int)+1)=(k:Int)+1:=zc (by omega) (by omega)
  have hke:∀h:k<(zN l).length,(zN l)[k]=l[k].enc:=fun h=>by simp[zN]
  have hcn:=jw (l.take k)
  rw[List.length_take] at hcn
  have hct:=zdA hltk
  obtain⟨xs,hxs⟩:∃xs,qb (zV (l.take k))=xs:=⟨_,rfl⟩
  have hxl:xs.length≤8388608:=by rw[←hxs];simp[qb];omega
  rw[hxs] at hO
  have hE:qb (zV (l.take (k+1)))=xs++(if l[k].endless=true then [l[k].lo] else [l[k].lo,l[k].hi]).map Cut.enc:=by
   rw[hct,zdB,hxs];rfl
  have hkn:=fun hp'=>qM hO hp' nx (zht hO (Nat.le_refl _))
  obtain⟨s,hs⟩:∃s,l[k]=s:=⟨_,rfl⟩
  rw[hs] at hct hke hE
  have hap1:=OwnS.append1 (P:=prog) (t:=205) (c:=s.lo.enc) (hO.more (some ⟨164,11,false,[s.enc]⟩)) zcX zaT ziJ ziK rfl (by omega) (by unfold maxLen;omega) (by omega)
  have hO1:=OwnS.after (hp:=upd hp nx (some ⟨164,11,false,[s.enc]⟩)) (nx:=nx+1) (e:=162) (s:=5) (v:=σ 7) (xs:=xs) (c:=s.lo.enc) (tmp:=some ⟨162,5,true,[s.lo.enc]⟩)
  have hap2:=OwnS.append1 (P:=prog) (t:=205) (c:=s.hi.enc) hO1 zcX zaT ziJ ziK rfl (by omega) (by simp;unfold maxLen;omega) (by simp;omega)
  rw[show (xs++[s.lo.enc]).length=xs.length+1 by simp,List.append_assoc,show[s.lo.enc]++[s.hi.enc]=[s.lo.enc,s.hi.enc] from rfl] at hap2
  have hO2:=OwnS.after (hp:=upd (QC (σ 7) (upd (upd hp nx (some ⟨164,11,false,[s.enc]⟩)) (nx+1) (some ⟨162,5,true,[s.lo.enc]⟩))) (nx+1+1) (some ⟨162,5,true,xs++[s.lo.enc]⟩)) (nx:=nx+1+2) (e:=162) (s:=5) (v:=.own (nx+1+1) 0 (xs.length+1)) (xs:=xs++[s.lo.enc]) (c:=s.hi.enc) (tmp:=some ⟨162,5,true,[s.hi.enc]⟩)
  rw[show (xs++[s.lo.enc]).length=xs.length+1 by simp,List.append_assoc,show[s.lo.enc]++[s.hi.enc]=[s.lo.enc,s.hi.enc] from rfl] at hO2
  simp only[Str.enc,Cut.enc,List.cons_append,List.nil_append] at hap1 hap2 hO1 hO2 hke
  have m1:¬nx=nx+1+1:=by omega
  have m2:¬nx=nx+1+2:=by omega
  have m3:¬nx=nx+1+2+1:=by omega
  cases hen:s.endless
  ·rw[hen] at hct
   rw[hen] at hap1 hap2 hO1 hO2 hke
   simp[h0,h1,h2,h25,h26,h27,hltk,hel,hke,hap1,hap2,hkn,hwk,m1,m2,m3,zh,zo,zf]
   refine⟨by omega,?_⟩
   rw[hE,hen]
   simp only[Bool.false_eq_true,if_false,List.map_cons,List.map_nil,Cut.enc]
   exact hO2
  ·rw[hen] at hct
   rw[hen] at hap1 hap2 hO1 hO2 hke
   simp[h0,h1,h2,h25,h26,h27,hltk,hel,hke,hap1,hkn,hwk,m1,m2,m3,zh,zo,zf]
   refine⟨by omega,?_⟩
   rw[hE,hen]
   simp only[if_true,List.map_cons,List.map_nil,Cut.enc]
   exact hO1
 ·obtain rfl:k=l.length:=by omega
  rw[List.take_length] at hO
  have hsm:∀c∈zV l,c.v.small:=vX (Q:=fun c=>c.v.small) hlsm
  have hcl:=jw l
  obtain⟨v,hp',nx',hsort,hO',hnx'⟩:=zd2 hO hsm (by omega)
  obtain⟨cs,hcs⟩:∃cs,yy (zV l)=cs:=⟨_,rfl⟩
  have hcsl:cs.length≤8388608:=by have:=YF (zV l) [];rw[←hcs];unfold yy;simp at this;omega
  have hcsm:∀c∈cs,c.v.small:=fun c hc=>by
   rw[←hcs] at hc
   rcases YG hc with h | h
   ·exact hsm c h
   ·cases h
  rw[hcs] at hins hO'
  have hfin:=hins
  obtain⟨is,his⟩:∃is:Cut→Bool,(fun c=>xX w (wG a c) (wG b c))=is:=⟨_,rfl⟩
  have hisc:∀c,xX w (wG a c) (wG b c)=is c:=fun c=>by rw[←his]
  rw[his] at hfin
  clear hO hcs hsm hins
  have hlen:=hO'.len zcX
  have hel2:(qb cs).length=cs.length:=by simp[qb]
  rw[hel2] at hlen
  simp[h0,h1,h2,h25,h26,h27,hsort,hlen]
  refine zu (fun k σ hp nx=>σ 0=int w∧σ 1=.sl 11 (zN a)∧σ 2=.sl 11 (zN b)∧σ 40=v∧σ 41=int cs.length∧σ 42=int k∧OwnS hp nx 162 5 v (qb cs)∧∃xs,OwnS hp nx 164 11 (σ 10) xs∧xs.map (Yc y9)=zN (swL is (cs.take k) (false,[])).2 ∧
    σ 11=boo (swL is (cs.take k) (false,[])).1∧(∀id n m,v=.own id 0 n→σ 10≠.own id 0 m)∧((swL is (cs.take k) (false,[])).1=true→(swL is (cs.take k) (false,[])).2≠[])∧xs.length≤k∧(xs=[]→σ 10=.nil)) cs.length
   ⟨by simp[h0],by simp[h1],by simp[h2],by simp,by simp,by simp,hO',[],.inl ⟨by simp,rfl⟩,by simp[swL,zN],by simp[swL],by simp,by simp[swL],by simp,by simp⟩ ?_
  clear h0 h1 h2 h25 h26 h27 hO' hk hltk σ hp nx hsort hlen hnx' hp' nx'
  rintro k σ hp nx hk ⟨h0,h1,h2,h48,h49,h50,hO,xs,hX,hxs,h13,hap,hop,hxk,hxn⟩
  by_cases hltk:k<cs.length
  ·have hwk:IntKind.i64.wrap ((k:Int)+1)=(k:Int)+1:=zc (by omega) (by omega)
   obtain⟨id,hid,rfl,hh⟩:=hO.at_ (by rw[hel2];omega)
   have hst:=zhs is hltk (false,[])
   obtain⟨st,hst0⟩:∃st,swL is (cs.take k) (false,[])=st:=⟨_,rfl⟩
   obtain⟨c,hc⟩:∃c,cs[k]=c:=⟨_,rfl⟩
   rw[hc,hst0] at hst
   rw[hst0] at hxs h13 hop
   have hopn:=zhr is st c hop
   have hcsmall:c.v.small:=hcsm c (by rw[←hc];exact List.getElem_mem hltk)
   have hke:∀h:k<(qb cs).length,(qb cs)[k]=c.enc:=fun h=>by simp[qb,hc]
   have hca:=fun hp nx=>Wx a c hp nx hsa hcsmall
   have hcb:=fun hp nx=>Wx b c hp nx hsb hcsmall
   have hcall':=fun hp nx=>Wv w (wG a c) (wG b c) hp nx
   rw[hisc c] at hcall'
   simp only[Cut.enc] at hca hcb hke
   have m0:¬id=nx:=by omega
   have m1:¬id=nx+1:=by omega
   have m2:¬id=nx+1+1:=by omega
   rw[hel2] at hO
   have hki:=fun hp'=>qM hX hp' id (fun n=>hap id _ n rfl)
   have hswS:swS is st c=(is c,if (is c&&!st.1)=true then st.2++[qz c] else if (!is c&&st.1)=true then kI st.2 c else st.2):=rfl
   rw[hswS] at hst
   rw[hswS] at hopn
   simp only at hopn
   obtain⟨op,out⟩:=st
   simp only at hxs h13 hop hopn
   cases hb:is c<;>cases op
   ·rw[hb] at hcall' hst
    simp at hst
    simp[h0,h1,h2,h48,h49,h50,hel2,hltk,hh,hke,hca,hcb,hcall',-Wv,h13,hwk,m0,hst]
    exact⟨by omega,hO.more _,xs,hX.more _,hxs,fun i n m e _=>hap i _ m (by rw[e]),by omega,hxn⟩
   ·rw[hb] at hcall' hst
    simp at hst
    have hne:=hop rfl
    obtain⟨m,hm⟩:∃m,out.length=m+1:=⟨out.length - 1,by have:=List.length_pos_iff.2 hne;omega⟩
    have hxl:xs.length=m+1:=by have:=congrArg List.length hxs;simp[zN] at this;omega
    obtain⟨id2,hid2,h12,hh2⟩:=hX.at_ (by omega)
    have hid12:¬id2=id:=fun e=>hap id _ _ rfl (by rw[h12,e])
    have hid21:¬id=id2:=fun e=>hid12 e.symm
    have p0:¬id2=nx:=by omega
    rw[hxl] at h12
    have hlm:m<xs.length:=by omega
    have hlo:m<out.length:=by omega
    have hrm:Yc y9 xs[m]=out[m].enc:=by
     have e1:(xs.map (Yc y9))[m]?=(zN out)[m]?:=by rw[hxs]
     simp only[List.getElem?_map,List.getElem?_eq_getElem hlm,zN,List.getElem?_eq_getElem hlo,Option.map_some,Option.some.injEq] at e1
     exact e1
    obtain⟨x3,x5,x6,x7,x8,x9,x10,hrow,hn3,hcell⟩:=zdz hrm
    have wm:IntKind.i64.wrap (m:Int)=(m:Int):=zc (by omega) (by omega)
    have wm1:IntKind.i64.wrap ((m:Int)+1 - 1)=(m:Int):=by rw[zc (by omega) (by omega)];omega
    simp[h0,h1,h2,h48,h49,h50,hel2,hltk,hh,hke,hca,hcb,hcall',-Wv,h13,hwk,m0,hst,h12,hh2,p0,wm,wm1,hlm,hrow,hcell,qO]
    refine⟨by omega,.inr ⟨id,by omega,by rw[hel2],by simp[hid21,m0,hh]⟩,xs.set m [int out[m].lo.v.a,int out[m].lo.v.b,int out[m].lo.v.c,x3,boo out[m].lo.after,int c.v.a,int c.v.b,int c.v.c,.sl 1 (zD c.v.pre),boo c.after,boo false],.inr ⟨id2,by omega,by simp[hxl],by simp⟩,?_,fun i n k' e _ e2=>absurd (e2.trans e.symm) hid12,by simp;omega,fun e=>by have:=congrArg List.length e;rw[List.length_set,hxl] at this;cases this⟩
    rw[List.map_set,hxs,KY hlo hm c,zN,zN,List.map_set]
    simp[hn3,Str.enc,Cut.enc]
   ·rw[hb] at hcall' hst
    simp at hst
    have hap1:=OwnS.append1 (P:=prog) (t:=118) (c:=[int c.v.a,int c.v.b,int c.v.c,.sl 1 (zD c.v.pre),boo c.after,int 0,int 0,int 0,.nil,boo false,boo true]) (hX.more (some ⟨162,5,false,[c.enc]⟩)) zn9 ziL zk3 zk4 rfl (by omega) (by unfold maxLen;omega) (by omega)
    simp only[Cut.enc] at hap1
    simp[h0,h1,h2,h48,h49,h50,hel2,hltk,hh,hke,hca,hcb,hcall',-Wv,h13,hwk,m0,hst,hap1,zx,zR,zh,zo,zf]
    refine⟨by omega,.inr ⟨id,by omega,by rw[hel2],by simp[hki,hh,m0,m1,m2]⟩,xs++[[int c.v.a,int c.v.b,int c.v.c,.sl 1 (zD c.v.pre),boo c.after,int 0,int 0,int 0,.nil,boo false,boo true]],by simpa using OwnS.after,?_,fun i n m e _ e2=>by omega,by simp;omega⟩
    rw[List.map_append,hxs]
    simp[zN,qz,Str.enc,Cut.enc,cut0,zD]
   ·rw[hb] at hcall' hst
    simp at hst
    simp[h0,h1,h2,h48,h49,h50,hel2,hltk,hh,hke,hca,hcb,hcall',-Wv,h13,hwk,m0,hst]
    exact⟨by omega,hO.more _,xs,hX.more _,hxs,fun i n m e _=>hap i _ m (by rw[e]),hop rfl,by omega,hxn⟩
  ·obtain rfl:k=cs.length:=by omega
   rw[List.take_length] at hxs
   rw[←hfin] at hxs
   have hxl:xs.length=(yS (xX w) a b).length:=by have:=congrArg List.length hxs;simpa[zN] using this
   simp[h0,h1,h2,h48,h49,h50,f162]
   unfold ZF
   rcases hX with⟨h12,rfl⟩ | ⟨id2,hid2,h12,hh2⟩
   ·rw[if_pos (List.length_eq_zero_iff.1 hxl.symm)]
    exact h12
   ·by_cases hz:yS (xX w) a b=[]
    ·rw[if_pos hz]
     rw[hz] at hxl
     exact hxn (List.length_eq_zero_iff.1 hxl)
    ·rw[if_neg hz]
     refine⟨id2,_,h12,hh2,rfl,?_⟩
     simp only[zja,hxs]
noncomputable def zsJ:List PV→Option (Option Blk):=zJ (α:=Int×List Str×List Str) (fun a=>[int a.1,.sl 11 (zN a.2.1),.sl 11 (zN a.2.2)]) (fun a=>(qK a.2.1∧qK a.2.2)∧goodR a.2.1∧goodR a.2.2) (fun a=>ZF (xX a.1) a.2.1 a.2.2)
theorem zrL:∀a b:Int×List Str×List Str,[int a.1,PV.sl 11 (zN a.2.1),.sl 11 (zN a.2.2)]=[int b.1,.sl 11 (zN b.2.1),.sl 11 (zN b.2.2)]→a=b:=by
 rintro⟨w1,a1,a2⟩ ⟨w2,b1,b2⟩ e
 simp only[List.cons.injEq,and_true] at e
 obtain⟨e0,e1,e2⟩:=e
 injection e0 with e0
 injection e0 with _ e0
 injection e1 with _ e1
 injection e2 with _ e2
 rw[e0,yu e1,yu e2]
set_option maxRecDepth 100000 in
theorem zal:za prog 162 (yC [.a,.s 11 y9,.s 11 y9] zsJ) :=
 xC (fn:=f162) zrK ⟨_,func162,by kernel_rfl,rfl,by kernel_rfl⟩ _ y9 _ fun args r h=>by
  obtain⟨⟨w,a,b⟩,rfl,⟨⟨h1,h2⟩,h3,h4⟩,rfl⟩:=ze h
  exact⟨by simp[f162],zmd w a b h1 h2 h3 h4⟩
def HasW (hp:Hp) (nx:Nat) (v:PV) (m:List Str):Prop:=(v=.nil∧m=[])∨∃id xs,id<nx∧v=.own id 0 xs.length∧hp id=some ⟨164,11,true,xs⟩∧xs.map (Yc y9)=zN m
theorem HasW.frz {hp:Hp} {nx:Nat} {v:PV} {m:List Str} (h:HasW hp nx v m):∃y hp1,zE hp v=some (y,hp1)∧(Sh.s 11 y9).fix y=.sl 11 (zN m)∧(∀j,(∀n,v≠.own j 0 n)→hp1 j=hp j):=by
 rcases h with⟨rfl,rfl⟩ | ⟨id,xs,h1,rfl,h2,h3⟩
 ·exact⟨_,hp,rfl,rfl,fun _ _=>rfl⟩
 ·exact⟨.sl 11 xs,upd hp id none,by simp[h2],by rw[Sh.fix_s,h3],fun j hj=>zq _ _ _ _ fun e=>hj _ (by subst e;rfl)⟩
theorem HasW.keep {hp hp':Hp} {nx nx':Nat} {v:PV} {m:List Str} (h:HasW hp nx v m) (hn:nx≤nx') (hh:∀id,id<nx→(∀n,v=.own id 0 n→hp' id=hp id)):HasW hp' nx' v m:=by
 rcases h with⟨rfl,rfl⟩ | ⟨id,xs,h1,rfl,h2,h3⟩
 ·exact .inl ⟨rfl,rfl⟩
 ·exact .inr ⟨id,xs,by omega,rfl,by rw[hh id h1 _ rfl];exact h2,h3⟩
theorem HasW.len {hp:Hp} {nx:Nat} {v:PV} {m:List Str} (h:HasW hp nx v m):VW prog 118 v=some (int m.length):=by
 rcases h with⟨rfl,rfl⟩ | ⟨id,xs,h1,rfl,h2,h3⟩
 ·simp
 ·have:=congrArg List.length h3
  simp[zN] at this
  simp[this]
theorem HasW.box {hp:Hp} {nx:Nat} {v:PV} {m:List Str} (h:HasW hp nx v m) {j:Nat} {b:Blk} (hb:hp j=some b) (he:b.e≠164):∀n,v≠.own j 0 n:=by
 rcases h with⟨rfl,rfl⟩ | ⟨id,xs,h1,rfl,h2,h3⟩
 ·intro n e;cases e
 ·intro n e
  injection e with e
  subst e
  rw[h2] at hb
  injection hb with hb
  subst hb
  exact he rfl
theorem zhI (way:Int) (f:Bool→Bool→Bool) (hf:xX way=f) {hp:Hp} {nx:Nat} {v:PV} {a b:List Str} (ha:HasW hp nx v a) (h1:qK a) (h2:qK b) (h3:goodR a) (h4:goodR b) :
  ∃x hp' nx',yC [.a,.s 11 y9,.s 11 y9] zsJ [int way,v,.sl 11 (zN b)] hp nx=some (x,hp',nx')∧HasW hp' nx' x (yS f a b)∧nx≤nx'∧∀j,j<nx→(∀n,v≠.own j 0 n)→hp' j=hp j:=by
 obtain⟨y,hp1,f1,e1,k1⟩:=ha.frz
 have hfr:zj hp [int way,v,.sl 11 (zN b)]=some ([int way,y,.sl 11 (zN b)],hp1):=by
  have f0:zE hp (int way)=some (int way,hp):=rfl
  have f2:zE hp1 (.sl 11 (zN b))=some (.sl 11 (zN b),hp1):=rfl
  simp only[zj,f0,f1,f2]
 have hF:zsJ (zhb [.a,.s 11 y9,.s 11 y9] (qw [] [int way,y,.sl 11 (zN b)]))=some (ZF f a b):=by
  show zsJ [Sh.a.fix (int way),(Sh.s 11 y9).fix y,(Sh.s 11 y9).fix (.sl 11 (zN b))]=_
  rw[e1,Z1,←hf]
  exact zm (enc:=fun a:Int×List Str×List Str=>[int a.1,PV.sl 11 (zN a.2.1),.sl 11 (zN a.2.2)]) (a:=(way,a,b)) zrL ⟨⟨h1,h2⟩,h3,h4⟩
 unfold yC qP
 by_cases hz:yS f a b=[]
 ·have hF':=hF
  unfold ZF at hF'
  rw[if_pos hz] at hF'
  simp only[hfr,hF']
  exact⟨_,_,_,rfl,.inl ⟨rfl,hz⟩,Nat.le_refl _,fun j _ q1=>k1 j q1⟩
 ·have hF':=hF
  unfold ZF at hF'
  rw[if_neg hz] at hF'
  simp only[hfr,hF']
  exact⟨_,_,_,rfl,.inr ⟨nx,zN (yS f a b),by omega,rfl,by simp,by have:=Z1 (yS f a b);simpa[Sh.fix_s] using this⟩,by omega,fun j hj q1=>by rw[zq _ _ _ _ (by omega)];exact k1 j q1⟩
theorem zvi:xX 1=and:=by funext a b;simp[xX]
theorem zvj:xX 0=or:=by funext a b;simp[xX]
end Go.Proofs.YtjcofiomfmebkaaGreatDoor
namespace Go.AM
open Go.RowKit
def zsK (Q:St→Prop) (K:Exit→St→Prop) (e:Exit) (st:St):Prop:=match e with
 | .normal=>Q st
 | e=>K e st
@[simp] theorem cutK_n (Q:St→Prop) (K:Exit→St→Prop) (st:St):zsK Q K .normal st=Q st:=rfl
@[simp] theorem cutK_r (Q:St→Prop) (K:Exit→St→Prop) (st:St):zsK Q K .ret st=K .ret st:=rfl
@[simp] theorem cutK_e (Q:St→Prop) (K:Exit→St→Prop) (i:Nat) (st:St):zsK Q K (.exit i) st=K (.exit i) st:=rfl
theorem kL {C:Ctx} {a b:Code} {st:St} {K:Exit→St→Prop} (Q:St→Prop) (h1:EvC C a st (zsK Q K)) (h2:∀st,Q st→EvC C b st K):EvC C (.seq a b) st K:=by
 rw[ze8]
 refine h1.mono fun e st hk=>?_
 cases e
 case normal=>exact h2 _ hk
 all_goals exact hk
theorem yv {C:Ctx} {a b:Code} {st:St} {K:Exit→St→Prop} (Q:(Nat→PV)→Hp→Nat→Prop) (h1:EvC C a st (zsK (fun st=>Q st.σ st.hp st.nx) K)) (h2:∀σ hp nx,Q σ hp nx→EvC C b ⟨σ,hp,nx⟩ K):EvC C (.seq a b) st K :=
 kL _ h1 fun st h=>h2 st.σ st.hp st.nx h
end Go.AM
