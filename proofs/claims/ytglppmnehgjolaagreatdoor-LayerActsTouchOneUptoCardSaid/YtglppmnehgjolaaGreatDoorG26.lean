/-
Whether phases and experiments are the same; which experiments are kept.
Which experiments are kept (the law's own function).
kept: whether all experiments but one are as they were.
For every book, experiment, name, number and time (of bulk up to 1048576) the law burgeelaw4.LayerActsTouchOne answers true: its evaluation.
The abstract machine, part 27: what the row reads, as pure values, datum by datum.
The abstract machine, part 28: data taken apart by their types' shapes.
-/
import Derived.Test.YtglppmnehgjolaaGreatDoorG25
import Derived.Test.YtglppmnehgjolaaGreatDoorG22
import Derived.Test.YtglppmnehgjolaaGreatDoorG15
import Derived.Test.YtglppmnehgjolaaGreatDoorG21
import Derived.Test.YtglppmnehgjolaaGreatDoorG24
import Derived.Test.YtglppmnehgjolaaGreatDoorG8
import Derived.Test.YtglppmnehgjolaaGreatDoorG9
set_option maxRecDepth 8000
namespace Go.Proofs.YtglppmnehgjolaaGreatDoor
open Go.Proofs.Tryz
open Go.RowKit Go.AM Go.SpanLaw
noncomputable def Fspe (n:Nat):List PV→Option PV:=zM (α:=Phs×Phs) (fun a=>[.agg a.1.enc,.agg a.2.enc]) (fun a=>a.1.spans.length≤lim∧0≤n) (fun a=>boo (eqA a.1 a.2))
theorem Fspe_call (n:Nat) (a b:Phs) (hp:Hp) (nx:Nat) (h:a.spans.length≤lim∧0≤n):zd false [] (Fspe n) [.agg a.enc,.agg b.enc] hp nx=some (boo (eqA a b),hp,nx) :=
 zJ (hp1:=hp) (show zk hp [.agg a.enc,.agg b.enc]=some ([.agg a.enc,.agg b.enc],hp) by simp[Phs.enc])
  (zq (enc:=fun a:Phs×Phs=>[.agg a.1.enc,.agg a.2.enc]) (a:=(a,b)) (fun x y e=>by
   obtain⟨x1,x2⟩:=x;obtain⟨y1,y2⟩:=y
   simp only[List.cons.injEq,and_true,PV.agg.injEq] at e
   rw[phs_inj e.1,phs_inj e.2]) h) (.inl rfl)
noncomputable abbrev Csp1:Ctx:=zN prog [(88,zd false [] (FPP (fun a b=>boo (decide (a=b))) fun a _=>a.length≤lim))]
@[simp] theorem qsp1:qE Csp1 88:=zW (by rfl) (zf _ _)
theorem eqA_dec {α:Type} [DecidableEq α] (a b:α):eqA a b=decide (a=b):=by rw[Bool.eq_iff_iff,yP,decide_eq_true_iff]
theorem samePhase_eval (a b:Phs) (h:a.spans.length≤lim):zl Csp1 f60 [.agg a.enc,.agg b.enc]=some (boo (eqA a b)):=by
 refine ze rfl ?_
 have hc:=fun hp nx=>jM (fun a b=>boo (decide (a=b))) (fun a _=>a.length≤lim) a.spans b.spans hp nx h
 have he:=eqA_dec a.spans b.spans
 simp[Phs.enc,hc,eqA_phs,he,f60]
theorem samePhase_sound (n:Nat):za prog 60 (zd false [] (Fspe n)) :=
 zZ (fn:=f60) (zr (q:=[88]) mixed ⟨equalS_sound,fun _=>zf _ _,trivial⟩:AM.Good Csp1 _) ⟨_,func60,by kernel_rfl,rfl,by kernel_rfl⟩ false [] _ fun args r h=>by
  obtain⟨⟨a,b⟩,rfl,hx,rfl⟩:=zg h
  exact⟨Nat.le_trans (Nat.le_refl 2) (by decide),_,samePhase_eval a b hx.1,zY _⟩
theorem sp_lenA {n:Nat} {a b:List Phs} (h:(∀p∈a,p.spans.length≤lim)∧a.length≤lim∧b.length≤lim∧0≤n):a.length≤lim:=h.2.1
theorem sp_lenB {n:Nat} {a b:List Phs} (h:(∀p∈a,p.spans.length≤lim)∧a.length≤lim∧b.length≤lim∧0≤n):b.length≤lim:=h.2.2.1
theorem sp_mem {n:Nat} {a b:List Phs} (h:(∀p∈a,p.spans.length≤lim)∧a.length≤lim∧b.length≤lim∧0≤n) {x y:Phs} (hx:x∈a) (_:y∈b):x.spans.length≤lim∧0≤n:=⟨h.1 x hx,Nat.zero_le _⟩
theorem encPh_inj {a b:List Phs} (h:a.map Phs.enc=b.map Phs.enc):a=b:=qZ (fun _ _=>phs_inj) h
noncomputable abbrev Csp4 (n:Nat):Ctx:=zN prog [(60,zd false [] (Fspe n))]
theorem sp_eval (n:Nat) (a b:List (Phs)) (h:(∀p∈a,p.spans.length≤lim)∧a.length≤lim∧b.length≤lim∧0≤n):zl (Csp4 n) f59 [.sl 2 (a.map Phs.enc),.sl 2 (b.map Phs.enc),.fn (.func 60) [] []]=some (boo (eqA a b)):=by
 refine ze rfl ?_
 have la:=sp_lenA h
 have lb:=sp_lenB h
 unfold lim at la lb
 by_cases hl:a.length=b.length
 case neg =>
  have hne:eqA a b=false:=eqA_len hl
  have hl':((a.length:Int)==b.length)=false:=beq_eq_false_iff_ne.2 (by omega)
  have hl2:((a.length:Int) != b.length)=true:=by rw[bne,hl'];rfl
  simp[hl2,hne,f59]
 have hl2:((a.length:Int) != b.length)=false:=by rw[hl];simp
 simp[hl2]
 refine zD (fun k σ hp nx=>σ 0=.sl 2 (a.map Phs.enc)∧σ 1=.sl 2 (b.map Phs.enc)∧σ 2=.fn (.func 60) [] []∧σ 15=.sl 2 (a.map Phs.enc)∧σ 16=int a.length∧σ 17=int k∧eqA a b=eqA (a.drop k) (b.drop k)) a.length
  ⟨by simp,by simp,by simp,by simp,by simp[hl],by simp,by simp⟩ ?_
 rintro k σ hp nx hk ⟨h0,h1,h2,h11,h12,h13,he⟩
 by_cases hlt:k<a.length
 ·have hltb:k<b.length:=by omega
  have hw:IntKind.i64.wrap ((k:Int)+1)=(k:Int)+1:=zi (by omega) (by omega)
  obtain⟨x,hx⟩:∃x,a[k]=x:=⟨_,rfl⟩
  obtain⟨y,hy⟩:∃y,b[k]=y:=⟨_,rfl⟩
  have hc:=fun hp nx=>Fspe_call n x y hp nx (by rw[←hx];exact sp_mem h (List.getElem_mem hlt) (List.getElem_mem hltb))
  rw[eqA_drop hlt hltb,hx,hy] at he
  simp only[Phs.enc] at hc
  cases hz:eqA x y
  ·rw[hz,Bool.false_and] at he
   simp[h0,h1,h2,h11,h12,h13,hlt,hltb,hx,hy,Phs.enc,hc,hz,he,f59]
  ·rw[hz,Bool.true_and] at he
   simp[h0,h1,h2,h11,h12,h13,hlt,hltb,hx,hy,Phs.enc,hc,hz,hw]
   exact⟨by omega,he⟩
 ·obtain rfl:k=a.length:=by omega
  rw[List.drop_length,hl,List.drop_length,eqA_refl] at he
  simp[h0,h1,h2,h11,h12,h13,he,f59]
noncomputable def Lsp (n:Nat):List PV→Option PV:=zM (α:=List (Phs)×List (Phs)) (fun a=>[.sl 2 (a.1.map Phs.enc),.sl 2 (a.2.map Phs.enc),.fn (.func 60) [] []]) (fun p=>let a:=p.1;let b:=p.2;(∀p∈a,p.spans.length≤lim)∧a.length≤lim∧b.length≤lim∧0≤n) (fun a=>boo (eqA a.1 a.2))
theorem Lsp_call (n:Nat) (a b:List (Phs)) (hp:Hp) (nx:Nat) (h:(∀p∈a,p.spans.length≤lim)∧a.length≤lim∧b.length≤lim∧0≤n):zd false [] (Lsp n) [.sl 2 (a.map Phs.enc),.sl 2 (b.map Phs.enc),.fn (.func 60) [] []] hp nx=some (boo (eqA a b),hp,nx) :=
 zJ (hp1:=hp) (by simp) (zq (enc:=fun a:List (Phs)×List (Phs)=>[PV.sl 2 (a.1.map Phs.enc),.sl 2 (a.2.map Phs.enc),.fn (.func 60) [] []]) (a:=(a,b)) (fun x y e=>by
   obtain⟨x1,x2⟩:=x;obtain⟨y1,y2⟩:=y
   simp only[List.cons.injEq,and_true] at e
   obtain⟨e1,e2⟩:=e
   injection e1 with _ e1
   injection e2 with _ e2
   rw[encPh_inj e1,encPh_inj e2]) h) (.inl rfl)
theorem sp_sound (n:Nat) (hs:za prog 60 (zd false [] (Fspe n))):za prog 59 (zd false [] (Lsp n)) :=
 zZ (fn:=f59) (zr (q:=[]) mixed ⟨hs,by simp,trivial⟩:AM.Good (Csp4 n) _) ⟨_,func59,by kernel_rfl,rfl,by kernel_rfl⟩ false [] _ fun args r h=>by
  obtain⟨⟨a,b⟩,rfl,hx,rfl⟩:=zg h
  exact⟨Nat.le_trans (Nat.le_refl 3) (by decide),_,sp_eval n a b hx,zY _⟩
def jB (x:Xp):Prop:=x.cond.cb≤lim∧x.arms.length≤lim∧(∀p∈x.phases,p.spans.length≤lim)∧x.phases.length≤lim
abbrev qse1:List Nat:=[57,58,59]
noncomputable abbrev Cse1:Ctx:=zN prog [(57,zd false [] (Fsce lim)),(58,zd false [] (FRR2 (fun a b=>boo (decide (a=b))) fun a _=>a.length≤lim)),(59,zd false [] (Lsp 0))]
@[simp] theorem qse1a:qE Cse1 57:=zW (by rfl) (zf _ _)
@[simp] theorem qse1b:qE Cse1 58:=zW (by rfl) (zf _ _)
@[simp] theorem qse1c:qE Cse1 59:=zW (by rfl) (zf _ _)
theorem sameExp_eval (a b:Xp) (ha:jB a) (hb:jB b):zl Cse1 f30 [.agg a.enc,.agg b.enc]=some (boo (eqA a b)):=by
 refine ze rfl ?_
 have h1:=fun hp nx=>Fsce_call lim a.cond b.cond hp nx ⟨ha.1,ha.1,hb.1⟩
 have h2:=fun hp nx=>FRR2_call (fun a b=>boo (decide (a=b))) (fun a _=>a.length≤lim) a.arms b.arms hp nx ha.2.1
 have h3:=fun hp nx=>Lsp_call 0 a.phases b.phases hp nx ⟨ha.2.2.1,ha.2.2.2,hb.2.2.2,Nat.le_refl _⟩
 have e1:=eqA_dec a.arms b.arms
 rw[qt,qt] at h1
 simp[zF,h1,h2,h3,e1,eqA_xp,Bool.and_assoc,f30]
theorem sameExp_sound:za prog 30 (zd false [] (FXX (fun a b=>boo (eqA a b)) fun a b=>jB a∧jB b)) :=
 zZ (fn:=f30) (zr (q:=qse1) mixed ⟨sameCond_sound lim,fun _=>zf _ _,equalR_sound2,fun _=>zf _ _,sp_sound 0 (samePhase_sound 0),fun _=>zf _ _,trivial⟩:AM.Good Cse1 _) ⟨_,func30,by kernel_rfl,rfl,by kernel_rfl⟩ false [] _ fun args r h=>by
  obtain⟨⟨a,b⟩,rfl,hx,rfl⟩:=zg h
  exact⟨Nat.le_trans (Nat.le_refl 2) (by decide),_,sameExp_eval a b hx.1 hx.2,zY _⟩
noncomputable abbrev Ckp1:Ctx:=zN prog [(30,zd false [] (FXX (fun a b=>boo (eqA a b)) fun a b=>jB a∧jB b))]
theorem goodkp1:AM.Good Ckp1 (fun g=>[30].contains g):=zr mixed ⟨sameExp_sound,fun _=>zf _ _,trivial⟩
theorem kpt1_run (p n:Xp) (hp1:jB p) (hn1:jB n) (hp:Hp) (nx id:Nat) (hid:id<nx) (hh:hp id=some ⟨34,13,false,[n.enc]⟩) :
  hRun Ckp1 f29 [.agg p.enc,.ref id 0 0] hp nx=some (boo (eqA p n),upd hp nx (some ⟨34,13,false,[p.enc]⟩),nx+1):=by
 unfold hRun
 rw[if_pos (by simp[f29])]
 refine wu rfl ?_
 have e1:¬id=nx:=by omega
 have hc:=fun hp nx=>FXX_call (fun a b=>boo (eqA a b)) (fun a b=>jB a∧jB b) p n hp nx ⟨hp1,hn1⟩
 simp only[zF] at hc hh
 simp[zF,hc,hh,e1,f29]
set_option maxRecDepth 100000 in
theorem kpt1_sound:za prog 29 (hRun Ckp1 f29):=zS (code:=_) goodkp1 ⟨func29,by kernel_rfl,rfl,by kernel_rfl⟩
noncomputable def kptI (n:Xp):Nat→List Xp→Int
 | _,[]=>-1
 | k,p::l=>if eqA p n=true then k else kptI n (k+1) l
theorem kptI_any (n:Xp):∀(l:List Xp) (k:Nat),decide (0≤kptI n k l)=(l.any fun x=>eqA x n)
 | [],k=>by simp[kptI]
 | p::l,k=>by
   by_cases h:eqA p n=true
   ·have e:kptI n k (p::l)=k:=by simp only[kptI,if_pos h]
    rw[e,List.any_cons,h];simp
   ·have e:kptI n k (p::l)=kptI n (k+1) l:=by simp only[kptI,if_neg h]
    rw[e,kptI_any n l (k+1),List.any_cons,Bool.eq_false_iff.2 h];rfl
noncomputable abbrev Ckix:Ctx:=zN prog [(29,hRun Ckp1 f29)]
theorem goodkix:AM.Good Ckix (fun g=>([]:List Nat).contains g):=zr mixed ⟨kpt1_sound,by simp,trivial⟩
set_option maxRecDepth 100000 in
theorem kix_sound:za prog 56 (hRun Ckix f56):=zS (code:=_) goodkix ⟨func56,by kernel_rfl,rfl,by kernel_rfl⟩
def fnK (id:Nat):PV:=.fn (.func 29) [] [.ref id 0 0]
theorem kix_run (l:List Xp) (n:Xp) (hs:∀p∈l,jB p) (hn1:jB n) (hl:l.length≤lim) (hp0:Hp) (nx0 id:Nat) (hid:id<nx0) (hh:hp0 id=some ⟨34,13,false,[n.enc]⟩) :
  ∃x hp' nx',hRun Ckix f56 [.sl 13 (l.map Xp.enc),fnK id] hp0 nx0=some (x,hp',nx')∧KeepQ (int (kptI n 0 l)) hp0 nx0 x hp' nx':=by
 unfold hRun
 rw[if_pos (by simp[f56])]
 refine zn rfl ?_
 unfold lim at hl
 simp[fnK]
 refine zD (fun k σ hp nx=>σ 0=.sl 13 (l.map Xp.enc)∧σ 1=fnK id∧σ 7=int l.length∧σ 8=int k∧nx0≤nx∧(∀j,j<nx0→hp j=hp0 j)∧kptI n 0 l=kptI n k (l.drop k)) l.length ⟨by simp,by simp[fnK],by simp,by simp,Nat.le_refl _,fun _ _=>rfl,by simp⟩ ?_
 rintro k σ hp nx hk ⟨h0,h1,h7,h8,hnx,hfr,he⟩
 by_cases hlt:k<l.length
 ·have hw:IntKind.i64.wrap ((k:Int)+1)=(k:Int)+1:=zi (by omega) (by omega)
  obtain⟨p,hx⟩:∃p,l[k]=p:=⟨_,rfl⟩
  have hrun:=kpt1_run p n (hs p (by rw[←hx];exact List.getElem_mem hlt)) hn1 hp nx id (by omega) (by rw[hfr id hid];exact hh)
  simp only[zF] at hrun
  rw[List.drop_eq_getElem_cons hlt,hx] at he
  simp only[kptI] at he
  cases hz:eqA p n
  ·rw[hz,if_neg (by simp)] at he
   rw[hz] at hrun
   simp[h0,h1,h7,h8,fnK,hlt,hx,zF,hrun,hw]
   exact⟨hlt,by omega,fun j hj=>by rw[zc _ _ _ _ (by omega)];exact hfr j hj,he⟩
  ·rw[hz,if_pos rfl] at he
   rw[hz] at hrun
   simp[h0,h1,h7,h8,fnK,hlt,hx,zF,hrun,hw,f56]
   exact⟨by rw[he],by omega,fun j hj=>by rw[zc _ _ _ _ (by omega)];exact hfr j hj⟩
 ·obtain rfl:k=l.length:=by omega
  rw[List.drop_length] at he
  simp only[kptI] at he
  simp[h0,h1,h7,h8,f56]
  exact⟨by rw[he],hnx,hfr⟩
noncomputable abbrev Ckcf:Ctx:=zN prog [(56,hRun Ckix f56)]
theorem goodkcf:AM.Good Ckcf (fun g=>([]:List Nat).contains g):=zr mixed ⟨kix_sound,by simp,trivial⟩
set_option maxRecDepth 100000 in
theorem kcf_sound:za prog 28 (hRun Ckcf f28):=zS (code:=_) goodkcf ⟨func28,by kernel_rfl,rfl,by kernel_rfl⟩
theorem kcf_run (l:List Xp) (n:Xp) (hs:∀p∈l,jB p) (hn1:jB n) (hl:l.length≤lim) (hp0:Hp) (nx0 id:Nat) (hid:id<nx0) (hh:hp0 id=some ⟨34,13,false,[n.enc]⟩) :
  ∃x hp' nx',hRun Ckcf f28 [.sl 13 (l.map Xp.enc),fnK id] hp0 nx0=some (x,hp',nx')∧KeepQ (boo (l.any fun x=>eqA x n)) hp0 nx0 x hp' nx':=by
 unfold hRun
 rw[if_pos (by simp[f28])]
 refine zn rfl ?_
 obtain⟨x,hp',nx',h1,h2,h3,h4⟩:=kix_run l n hs hn1 hl hp0 nx0 id hid hh
 subst h2
 have ha:=kptI_any n l 0
 simp only[fnK] at h1
 simp[fnK,h1,ha,KeepQ,h3,f28]
 exact h4
noncomputable def keptB (a b:Bk) (s:List UInt8):Bool:=a.exps.all fun e=>(e.name==s)||b.exps.any fun x=>eqA x e
theorem small_of {b:Bk} (h:b.cb≤lim):b.exps.length≤lim∧∀p∈b.exps,jB p:=by
 have hlen:=qb xp_pos b.exps
 have hbc:b.cb=sumB Lyr.cb b.layers+sumB Hld.cb b.holds+sumB Xp.cb b.exps:=rfl
 refine⟨by omega,fun x hx=>?_⟩
 have hmx:=qL (f:=Xp.cb) hx
 have hxc:x.cb=x.name.length+x.layer.length+x.flag.length+x.cond.cb+x.salt.length+x.arms.length+sumB Phs.cb x.phases:=rfl
 have hxpl:=qb kC x.phases
 refine⟨by omega,by omega,fun p hp=>?_,by omega⟩
 have:=qL (f:=Phs.cb) hp
 have hpc:p.cb=1+p.spans.length:=rfl
 omega
noncomputable abbrev Ckpt:Ctx:=zN prog [(28,hRun Ckcf f28)]
theorem goodkpt:AM.Good Ckpt (fun g=>([]:List Nat).contains g):=zr mixed ⟨kcf_sound,by simp,trivial⟩
theorem kept_eval (a b:Bk) (s:List UInt8) (ha:a.cb≤lim) (hb:b.cb≤lim):zl Ckpt Tryz.f7 [.agg a.enc,.agg b.enc,str s]=some (boo (keptB a b s)):=by
 refine ze rfl ?_
 obtain⟨a1,a2⟩:=small_of ha
 obtain⟨b1,b2⟩:=small_of hb
 refine xe (fun σ hp nx=>σ 2=str s∧σ 3=.ref 0 0 0∧σ 4=.ref 1 0 0∧hp 0=some ⟨26,3,false,[a.enc]⟩∧hp 1=some ⟨26,3,false,[b.enc]⟩∧nx=2) (by simp[Bk.enc]) ?_
 rintro σ hp nx ⟨h2,h3,h4,hb0,hb1,rfl⟩
 simp only[Bk.enc] at hb0
 simp[h2,h3,h4,hb0]
 refine zD (fun k σ hp nx=>σ 2=str s∧σ 4=.ref 1 0 0∧σ 10=.sl 13 (a.exps.map Xp.enc)∧σ 11=int a.exps.length∧σ 12=int k∧hp 1=some ⟨26,3,false,[b.enc]⟩∧2≤nx∧keptB a b s=(a.exps.drop k).all fun e=>(e.name==s)||b.exps.any fun x=>eqA x e) a.exps.length
  ⟨by simp[h2],by simp[h4],by simp,by simp,by simp,hb1,Nat.le_refl _,by simp[keptB]⟩ ?_
 rintro k σ hp nx hk ⟨h2,h4,h10,h11,h12,hb1,hnx,he⟩
 have hlim:a.exps.length≤2097152:=a1
 by_cases hlt:k<a.exps.length
 ·have hw:IntKind.i64.wrap ((k:Int)+1)=(k:Int)+1:=zi (by omega) (by omega)
  obtain⟨x,hx⟩:∃x,a.exps[k]=x:=⟨_,rfl⟩
  have hxm:x∈a.exps:=by rw[←hx];exact List.getElem_mem hlt
  rw[List.drop_eq_getElem_cons hlt,hx,List.all_cons] at he
  obtain⟨hpB,hB⟩:∃h:Hp,upd hp nx (some (⟨34,13,false,[x.enc]⟩:Blk))=h:=⟨_,rfl⟩
  have bB:hpB nx=some ⟨34,13,false,[x.enc]⟩:=by rw[←hB,wI]
  have b1':hpB 1=some ⟨26,3,false,[b.enc]⟩:=by rw[←hB,zc _ _ _ _ (by omega)];exact hb1
  obtain⟨z,hp',nx',g1,rfl,g3,g4⟩:=kcf_run b.exps x b2 (a2 x hxm) b1 hpB (nx+1) nx (by omega) bB
  have hbx:hp' 1=some ⟨26,3,false,[b.enc]⟩:=by rw[g4 1 (by omega)];exact b1'
  rw[zF] at hB bB
  simp only[Bk.enc] at b1'
  simp only[fnK] at g1
  by_cases c1:x.name=s
  ·have c1':(x.name==s)=true:=by simpa using c1
   rw[c1',Bool.true_or,Bool.true_and] at he
   simp[h2,h4,h10,h11,h12,hlt,hx,zF,hB,bB,b1',c1,hw]
   exact⟨hlt,by rw[zc _ _ _ _ (by omega)];exact hb1,by omega,he⟩
  have c1':(x.name==s)=false:=by simpa using c1
  rw[c1',Bool.false_or] at he
  cases hz:b.exps.any fun y=>eqA y x
  ·rw[hz,Bool.false_and] at he
   rw[hz] at g1
   simp[h2,h4,h10,h11,h12,hlt,hx,zF,hB,bB,b1',c1,c1',g1,he,qC,Tryz.f7]
  ·rw[hz,Bool.true_and] at he
   rw[hz] at g1
   simp[h2,h4,h10,h11,h12,hlt,hx,zF,hB,bB,b1',c1,c1',g1,hw]
   exact⟨hlt,hbx,by omega,he⟩
 ·obtain rfl:k=a.exps.length:=by omega
  rw[List.drop_length,List.all_nil] at he
  simp[h2,h4,h10,h11,h12,he,qC,Tryz.f7]
noncomputable def FKpt:List PV→Option PV:=zM (α:=Bk×Bk×List UInt8) (fun a=>[.agg a.1.enc,.agg a.2.1.enc,str a.2.2]) (fun a=>a.1.cb≤lim∧a.2.1.cb≤lim) (fun a=>boo (keptB a.1 a.2.1 a.2.2))
theorem FKpt_call (a b:Bk) (s:List UInt8) (hp:Hp) (nx:Nat) (h:a.cb≤lim∧b.cb≤lim):zd false [] FKpt [.agg a.enc,.agg b.enc,str s] hp nx=some (boo (keptB a b s),hp,nx) :=
 zJ (hp1:=hp) (show zk hp [.agg a.enc,.agg b.enc,str s]=some ([.agg a.enc,.agg b.enc,str s],hp) by simp only[zk,kj];rfl) (zq (enc:=fun a:Bk×Bk×List UInt8=>[.agg a.1.enc,.agg a.2.1.enc,str a.2.2]) (a:=(a,b,s)) (fun x y e=>by
  obtain⟨x1,x2,x3⟩:=x;obtain⟨y1,y2,y3⟩:=y
  simp only[List.cons.injEq,and_true,PV.agg.injEq] at e
  rw[xq e.1,xq e.2.1,qa e.2.2]) h) (.inl rfl)
set_option maxRecDepth 100000 in
theorem kept_sound:za prog 7 (zd false [] FKpt) :=
 zZ (fn:=Tryz.f7) goodkpt ⟨_,func7,by kernel_rfl,rfl,by kernel_rfl⟩ false [] _ fun args r h=>by
  obtain⟨⟨a,b,s⟩,rfl,hx,rfl⟩:=zg h
  exact⟨by simp[Tryz.f7],_,kept_eval a b s hx.1 hx.2,zY _⟩
noncomputable def hasO (b:Bk) (s:List UInt8) (n:Int):PV:=yz (hasR b s n)
noncomputable def sizO (l:List Sp):PV:=twoI (sizeR l)
noncomputable def minO (a b:List Sp):PV:=yz (minR a b)
noncomputable abbrev Cact:Ctx:=zN prog [(4,zd false [] FStt),(5,zd false [] (FBNI hasO)),(6,zd false [] (FP sizO fun _=>True)),(7,zd false [] FKpt),(8,zd false [] FGrw),(9,zd false [] (FPP minO fun _ _=>True))]
theorem goodact:AM.Good Cact (fun g=>([]:List Nat).contains g):=zr mixed ⟨Start_sound,by simp,Has_sound,by simp,Size_sound,by simp,kept_sound,by simp,Grow_sound,by simp,Minus_sound,by simp,trivial⟩
theorem keptB_of {b x:Bk} {s:List UInt8} (h:∀e∈b.exps,e.name≠s→e∈x.exps):keptB b x s=true:=by
 unfold keptB
 rw[List.all_eq_true]
 intro e he
 by_cases hn:e.name=s
 ·simp[hn]
 ·rw[Bool.or_eq_true]
  exact .inr (List.any_eq_true.2 ⟨e,h e he hn,(yP e e).2 rfl⟩)
theorem mins_fault {a b:List Sp} (ha:zL a=0) (hb:zL b=0) (hl:(mins a b).length≤100):zL (mins a b)=0:=spFault_of (jf (qu ha).1 (qu hb).1) (mins_below ha hb) hl
set_option maxHeartbeats 4000000 in
theorem act_eval (b:Bk) (e:Xp) (s:List UInt8) (n at_:Int) (hb:b.cb+e.cb≤1048576):zl Cact Tryz.f3 [.agg b.enc,.agg e.enc,str s,int n,int at_]=some (boo true):=by
 refine ze rfl ?_
 have hx:=start_cb (b:=b) (e:=e) (n:=n) (at_:=at_)
 have hy:=grow_cb (b:=b) (s:=s) (n:=n) (at_:=at_)
 have hs1:=fun h=>start_law (b:=b) (e:=e) (n:=n) (at_:=at_) h
 have hs2:=fun h=>start_emp (b:=b) (e:=e) (n:=n) (at_:=at_) h
 have hg1:=fun h=>grow_law (b:=b) (s:=s) (n:=n) (at_:=at_) h
 have hbl:b.cb≤lim:=by unfold lim;omega
 have hSt:=fun hp nx=>FStt_call b e n at_ hp nx (by unfold lim;omega)
 have hGr:=fun hp nx=>FGrw_call b s n at_ hp nx (by unfold lim;omega)
 obtain⟨⟨x,f⟩,hS⟩:∃r,qJ b e n at_=r:=⟨_,rfl⟩
 obtain⟨⟨y,g⟩,hG⟩:∃r,y8 b s n at_=r:=⟨_,rfl⟩
 rw[hS] at hx hs1 hs2
 rw[hG] at hy hg1
 simp only[hS,yO,Bk.enc,zF] at hSt
 simp only[hG,yO,Bk.enc] at hGr
 simp only at hx hy hs1 hs2 hg1
 have hxl:x.cb≤lim:=by unfold lim;omega
 have hyl:y.cb≤lim:=by unfold lim;omega
 have hHb:=fun hp nx=>km hasO b s at_ hp nx hbl
 have hHx:=fun hp nx=>km hasO x e.name at_ hp nx hxl
 have hHy:=fun hp nx=>km hasO y s at_ hp nx hyl
 have hK:=fun hp nx=>FKpt_call b x e.name hp nx ⟨hbl,hxl⟩
 have hK2:=fun hp nx=>FKpt_call b y s hp nx ⟨hbl,hyl⟩
 simp only[Bk.enc] at hHb hHx hHy hK hK2
 by_cases c2:g=0
 ·obtain⟨bef,aft,l1,l2,l3,l4,l5,l6,l7⟩:=hg1 c2
  have hkp2:keptB b y s=true:=keptB_of fun e he hn=>l7 e he hn
  simp only[hkp2] at hK2
  simp only[hasO,l1,yz] at hHb
  simp only[hasO,l2,yz] at hHy
  have hM1:=fun hp nx=>jM minO (fun _ _=>True) aft bef hp nx trivial
  have hM2:=fun hp nx=>jM minO (fun _ _=>True) bef aft hp nx trivial
  have hz2:minR bef aft=([],0):=by
   rcases v8 bef aft l3 l4 with h | ⟨_,h⟩
   ·exfalso
    have:minR bef aft=limR (mins bef aft):=by unfold minR xL;rw[l3];simp[l4]
    rw[this,l6] at h
    simp[limR] at h
   ·rw[h,l6]
  simp only[minO,hz2,yz] at hM2
  have hfin:∀m,minR aft bef=(m,0)→sizeR m=(n,0):=fun m hm=>by
   rcases v8 aft bef l4 l3 with h | ⟨hl,h⟩
   ·rw[h] at hm;simp at hm
   ·rw[h] at hm
    injection hm with hm _
    subst hm
    unfold sizeR
    rw[if_pos (mins_fault l4 l3 hl),l5]
  by_cases c1:f=0
  ·obtain⟨l,a1,a2,a3⟩:=hs1 c1
   have hkp:keptB b x e.name=true:=keptB_of fun e he _=>a3 e he
   simp only[hkp] at hK
   simp only[hasO,a1,yz] at hHx
   have hZ:=fun hp nx=>yy sizO (fun _=>True) l hp nx trivial
   simp only[sizO,a2,twoI] at hZ
   rcases v8 aft bef l4 l3 with h | ⟨hl,h⟩
   ·simp only[minO,h,yz] at hM1
    simp[Bk.enc,zF,hSt,c1,hHx,hZ,hK,hGr,c2,hHb,hHy,hM1,hM2,qC,Tryz.f3]
   ·have hZ2:=fun hp nx=>yy sizO (fun _=>True) (mins aft bef) hp nx trivial
    simp only[sizO,hfin _ h,twoI] at hZ2
    simp only[minO,h,yz] at hM1
    simp[Bk.enc,zF,hSt,c1,hHx,hZ,hK,hGr,c2,hHb,hHy,hM1,hM2,hZ2,hK2,qC,Tryz.f3]
  ·have c1':(f==0)=false:=by simpa using c1
   rcases v8 aft bef l4 l3 with h | ⟨hl,h⟩
   ·simp only[minO,h,yz] at hM1
    simp[Bk.enc,zF,hSt,c1',hGr,c2,hHb,hHy,hM1,hM2,qC,Tryz.f3]
   ·have hZ2:=fun hp nx=>yy sizO (fun _=>True) (mins aft bef) hp nx trivial
    simp only[sizO,hfin _ h,twoI] at hZ2
    simp only[minO,h,yz] at hM1
    simp[Bk.enc,zF,hSt,c1',hGr,c2,hHb,hHy,hM1,hM2,hZ2,hK2,qC,Tryz.f3]
 ·have c2':(g != 0)=true:=by simpa using c2
  by_cases c1:f=0
  ·obtain⟨l,a1,a2,a3⟩:=hs1 c1
   have hkp:keptB b x e.name=true:=keptB_of fun e he _=>a3 e he
   simp only[hkp] at hK
   simp only[hasO,a1,yz] at hHx
   have hZ:=fun hp nx=>yy sizO (fun _=>True) l hp nx trivial
   simp only[sizO,a2,twoI] at hZ
   simp[Bk.enc,zF,hSt,c1,hHx,hZ,hK,hGr,c2',qC,Tryz.f3]
  ·have c1':(f==0)=false:=by simpa using c1
   have he:=hs2 c1
   simp[Bk.enc,zF,hSt,c1',hGr,c2',he,qC,Tryz.f3]
theorem act_known:KnownF Cact (fun g=>([]:List Nat).contains g) 3 Tryz.f3:=⟨_,func3,by kernel_rfl,rfl,by kernel_rfl⟩
end Go.Proofs.YtglppmnehgjolaaGreatDoor
namespace Go.AM
open Go.RowKit Go.WideShapes Go.ChangeShapes
def wB {H:Type} (P:Program):Nat→TypeId→DataW H→List PV→Prop
 | 0,_,_,_=>False
 | n+1,t,d,pvs=>match P.underlying t with
   | some .bool=>∃b,d=.lit (.bool b)∧pvs=[.v (.bool b)]
   | some (.int k)=>∃i,d=.lit (.int k i)∧pvs=[.v (.int k i)]∧(Lit.int k i).wf=true
   | some .string=>∃s:ByteArray,d=.lit (.string s.data.toList)∧pvs=[.v (.string s)]∧s.size≤maxLen
   | some (.slice e)=>∃(es:List (List PV)) (ds:List (DataW H)),((d=.nil∧ds=[])∨∃sp,d=.slice ds sp)∧pvs=[.sl (P.cellsOf e) es]∧es.length≤maxLen∧Zip (fun c y=>c.length=P.cellsOf e∧wB P n e y c) es ds
   | some (.struct fs)=>∃ds:List (DataW H),d=.agg ds∧pvs.length=P.cellsOf t∧ds.length=fs.size∧∀(i:Nat) f y,fs[i]?=some f→ds[i]?=some y→wB P n f.type y ((pvs.drop f.offset).take (P.cellsOf f.type))
   | _=>False
section
variable {H:Type} {enc:TypeId×Value→H} {P:Program} {w:World} {sp:Nat→Bool} {held:Bool}
theorem xg {T:List TypeId} (hT:typesOk P T=true):∀(fuel:Nat) (t:TypeId) (cs:List Value) (d:DataW H) (ps:List MemPlace),t∈T→DataW.trod enc P w 0 sp held fuel t cs=some (d,ps) →
  ∃pvs,Zip (fun pv u=>RepC w (fun b=>b<w.heap.size) pv u∧u.oneCell'=true) pvs cs∧cs.length=P.cellsOf t∧wB P fuel t d pvs
 | 0,t,cs,d,ps,_,h=>by simp[DataW.trod] at h
 | n+1,t,cs,d,ps,ht,h=>by
   have hTt:=List.all_eq_true.1 hT t ht
   have one:∀{pv:PV} {u:Value},RepC w (fun b=>b<w.heap.size) pv u→u.oneCell'=true→Zip (fun pv u=>RepC w (fun b=>b<w.heap.size) pv u∧u.oneCell'=true) [pv] [u]:=fun h1 h2=>.cons ⟨h1,h2⟩ .nil
   split at hTt
   ·rename_i hu
    obtain⟨b,rfl,hx⟩:=DataW.trod_bool hu h
    simp only[Prod.mk.injEq] at hx
    exact⟨[.v (.bool b)],one (.v rfl) rfl,by simpa using (by simpa using hTt:P.cellsOf t=1).symm,by unfold wB;rw[hu];exact⟨b,hx.1,rfl⟩⟩
   ·rename_i k hu
    obtain⟨i,rfl,hx,hwf⟩:=DataW.trod_int hu h
    simp only[Prod.mk.injEq] at hx
    exact⟨[.v (.int k i)],one (.v rfl) rfl,by simpa using (by simpa using hTt:P.cellsOf t=1).symm,by unfold wB;rw[hu];exact⟨i,hx.1,rfl,hwf⟩⟩
   ·rename_i hu
    obtain⟨s,rfl,hx,hs⟩:=DataW.trod_string hu h
    simp only[Prod.mk.injEq] at hx
    exact⟨[.v (.string s)],one (.v rfl) rfl,by simpa using (by simpa using hTt:P.cellsOf t=1).symm,by unfold wB;rw[hu];exact⟨s,hx.1,rfl,hs⟩⟩
   ·rename_i e hu
    simp only[Bool.and_eq_true,beq_iff_eq,decide_eq_true_eq,List.contains_iff_mem] at hTt
    obtain⟨⟨hc1,heT⟩,hce⟩:=hTt
    rcases DataW.trod_slice hu h with⟨rfl,hx⟩ | ⟨a,len,cap,elems,rest,m,hm,rfl,hx,_,hlc,hcm,hel,hget,_,_⟩
    ·simp only[Prod.mk.injEq] at hx
     refine⟨[.sl (P.cellsOf e) []],one ?_ rfl,by simp[hc1],by unfold wB;rw[hu];exact⟨[],[],.inl ⟨hx.1,rfl⟩,rfl,by simp,.nil⟩⟩
     exact RepC.sl (es:=[]) (s:=P.cellsOf e) (fun _ _=>undef) (by simp) (by simp) (by simp[maxLen]) (by simp) (by simp) (by simp)
    ·obtain rfl:m=n:=by omega
     simp only[Prod.mk.injEq] at hx
     have hel':∀i (hi:i<len),∃cs',w.cells? 0 (a.add (i*P.cellsOf e)) (P.cellsOf e)=some cs'∧DataW.trod enc P w 0 sp held m e cs'=some (elems[i]'(by omega)):=by
      intro i hi
      have h1:=hget i hi
      have h2:elems[i]?=some (elems[i]'(by omega)):=List.getElem?_eq_getElem (by omega)
      rw[h2] at h1
      cases hc:w.cells? 0 (a.add (i*P.cellsOf e)) (P.cellsOf e) with
      | none=>simp[hc] at h1
      | some cs'=>exact⟨cs',rfl,by simpa[hc] using h1⟩
     have hch:∀i,∃q:List Value×List PV,∀hi:i<len,w.cells? 0 (a.add (i*P.cellsOf e)) (P.cellsOf e)=some q.1∧Zip (fun pv u=>RepC w (fun b=>b<w.heap.size) pv u∧u.oneCell'=true) q.2 q.1∧q.1.length=P.cellsOf e∧wB P m e (elems[i]'(by omega)).1 q.2:=by
      intro i
      by_cases hi:i<len
      ·obtain⟨cs',g1,g3⟩:=hel' i hi
       obtain⟨pvs,q1,q2,q3⟩:=xg hT m e cs' (elems[i]'(by omega)).1 (elems[i]'(by omega)).2 heT (by rw[g3])
       exact⟨(cs',pvs),fun _=>⟨g1,q1,q2,q3⟩⟩
      ·exact⟨([],[]),fun h=>absurd h hi⟩
     let q:Nat→List Value×List PV:=fun i=>Classical.choose (hch i)
     have hq:∀i (hi:i<len),w.cells? 0 (a.add (i*P.cellsOf e)) (P.cellsOf e)=some (q i).1∧Zip (fun pv u=>RepC w (fun b=>b<w.heap.size) pv u∧u.oneCell'=true) (q i).2 (q i).1∧(q i).1.length=P.cellsOf e∧wB P m e (elems[i]'(by omega)).1 (q i).2:=fun i=>Classical.choose_spec (hch i)
     have hlen:((List.range len).map fun i=>(q i).2).length=len:=by simp
     have hgi:∀(i:Nat) (c:List PV),((List.range len).map fun i=>(q i).2)[i]?=some c→i<len∧c=(q i).2:=by
      intro i c hi
      have hil:i<len:=by have:=(List.getElem?_eq_some_iff.1 hi).1;simpa using this
      rw[List.getElem?_map,List.getElem?_range hil] at hi
      simp at hi
      exact⟨hil,hi.symm⟩
     have key:RepC w (fun b=>b<w.heap.size) (.sl (P.cellsOf e) ((List.range len).map fun i=>(q i).2)) (.slice (some a) ((List.range len).map fun i=>(q i).2).length cap):=by
      refine .sl (fun i j=>((q i).1[j]?).getD undef) (by simp) (by rw[hlen];exact hlc) hcm (fun c hc=>?_) (fun i j c pv hi hj=>?_) (fun i j c pv hi hj=>?_)
      ·obtain⟨i,hi,rfl⟩:=List.mem_map.1 hc
       have h1:=hq i (List.mem_range.1 hi)
       rw[h1.2.1.1,h1.2.2.1]
      ·obtain⟨hil,rfl⟩:=hgi i c hi
       obtain⟨g1,g2,g3,_⟩:=hq i hil
       have hjl:j<(q i).1.length:=by rw[←g2.1];exact (List.getElem?_eq_some_iff.1 hj).1
       have hju:(q i).1[j]?=some ((q i).1[j]):=List.getElem?_eq_getElem hjl
       obtain⟨_,g5,g6⟩:=World.cells?_some g1
       have hcell:=g6 j (by omega)
       rw[add_add] at hcell
       rw[hju] at hcell
       refine⟨a,rfl,?_,?_,?_⟩
       ·have:=block_lt_of_cell hcell
        rwa [jg] at this
       ·rw[hcell,hju];rfl
       ·rw[hju];exact (g2.2 j pv _ hj hju).2
      ·obtain⟨hil,rfl⟩:=hgi i c hi
       obtain⟨g1,g2,g3,_⟩:=hq i hil
       have hjl:j<(q i).1.length:=by rw[←g2.1];exact (List.getElem?_eq_some_iff.1 hj).1
       have hju:(q i).1[j]?=some ((q i).1[j]):=List.getElem?_eq_getElem hjl
       rw[hju]
       exact (g2.2 j pv _ hj hju).1
     rw[hlen] at key
     refine⟨[.sl (P.cellsOf e) ((List.range len).map fun i=>(q i).2)],one key rfl,by simp[hc1],?_⟩
     unfold wB
     rw[hu]
     refine⟨_,elems.map (·.1),.inr ⟨_,hx.1⟩,rfl,by rw[hlen];omega,by rw[hlen,List.length_map,hel],fun i c y hi hy=>?_⟩
     obtain⟨hil,rfl⟩:=hgi i c hi
     have h1:=hq i hil
     rw[List.getElem?_map,List.getElem?_eq_getElem (by omega)] at hy
     simp only[Option.map_some,Option.some.injEq] at hy
     subst hy
     exact⟨by rw[h1.2.1.1,h1.2.2.1],h1.2.2.2⟩
   ·rename_i fs hu
    simp only[Bool.and_eq_true,beq_iff_eq,List.all_eq_true,List.contains_iff_mem] at hTt
    obtain⟨htile,hfT⟩:=hTt
    obtain⟨xs,m,hm,hx,hcl,hxl,hf⟩:=DataW.trod_struct hu h
    obtain rfl:m=n:=by omega
    simp only[Prod.mk.injEq] at hx
    obtain⟨pvs,g1,g2,g3⟩:=tile_join (P:=P) (R:=fun pv u=>RepC w (fun b=>b<w.heap.size) pv u∧u.oneCell'=true) (Q:=fun f pvs=>∀(i:Nat) y,fs[i]?=some f→(xs.map (·.1))[i]?=some y→wB P m f.type y pvs) fs.toList 0 (P.cellsOf t) cs htile hcl (fun f hfm=>by
     obtain⟨i,hi⟩:=List.getElem?_of_mem hfm
     have hfi:=hf i f (by simpa using hi)
     have hil:i<xs.length:=by rw[hxl];have:=(List.getElem?_eq_some_iff.1 hi).1;simpa using this
     rw[List.getElem?_eq_getElem hil] at hfi
     obtain⟨pvs,q1,_,q3⟩:=xg hT m f.type _ (xs[i]).1 (xs[i]).2 (hfT f hfm) hfi
     refine⟨pvs,q1,fun k y hk hy=>?_⟩
     have hfk:=hf k f hk
     rw[hfi] at hfk
     rw[List.getElem?_map,←hfk] at hy
     simp only[Option.map_some,Option.some.injEq] at hy
     subst hy
     exact q3)
    refine⟨pvs,⟨by omega,fun j pv u hj hu'=>g2 j pv u hj (by simpa using hu')⟩,hcl,?_⟩
    unfold wB
    rw[hu]
    refine⟨xs.map (·.1),hx.1,by omega,by rw[List.length_map,hxl],fun i f y hi hy=>?_⟩
    have hfm:f∈fs.toList:=by
     have:fs.toList[i]?=some f:=by simpa using hi
     exact List.mem_of_getElem? this
    have:=(g3 f hfm).2 i y hi hy
    simpa using this
   ·cases hTt
theorem arg_struct {T:List TypeId} (hT:typesOk P T=true) {t:TypeId} {v:Value} {d:DataW H} {ps:List MemPlace} {r:Reach} {base:Nat} {fs:Array Field} (ht:t∈T) (hu:P.underlying t=some (.struct fs)) (hv:Value.okWide P w r base t v) (h:DataW.Trod enc P w 0 sp held t v d ps) :
  ∃(n:Nat) (pvs:List PV),wB P n t d pvs∧RepC w (fun b=>b<w.heap.size) (.agg pvs) v:=by
 obtain⟨n,hn⟩:=h
 obtain⟨pvs,h1,h2,h3⟩:=xg hT n t v.cells.toList d ps ht hn
 obtain⟨cs,rfl,hsz⟩:=okWide_struct hu hv
 exact⟨n,pvs,h3,.agg (by have:=h1.1;simpa[Value.cells] using this) (fun j pv u hj hu'=>(h1.2 j pv u hj (by simpa[Value.cells] using hu')).1)⟩
theorem arg_cell {T:List TypeId} (hT:typesOk P T=true) {t:TypeId} {v:Value} {d:DataW H} {ps:List MemPlace} {r:Reach} {base:Nat} (ht:t∈T) (hu:¬∃fs,P.underlying t=some (.struct fs)) (hv:Value.okWide P w r base t v) (h:DataW.Trod enc P w 0 sp held t v d ps) :
  ∃(n:Nat) (p:PV),wB P n t d [p]∧RepC w (fun b=>b<w.heap.size) p v:=by
 obtain⟨n,hn⟩:=h
 obtain⟨pvs,h1,h2,h3⟩:=xg hT n t v.cells.toList d ps ht hn
 have hTt:=List.all_eq_true.1 hT t ht
 have hc1:P.cellsOf t=1:=by
  split at hTt
  ·simpa using hTt
  ·simpa using hTt
  ·simpa using hTt
  ·simp only[Bool.and_eq_true,beq_iff_eq] at hTt;exact hTt.1.1
  ·rename_i fs hun;exact absurd ⟨fs,hun⟩ hu
  ·cases hTt
 rw[hc1] at h2
 match pvs,h1,h3 with
 | [],h1,h3=>have:=h1.1;rw[h2] at this;simp at this
 | p::q::l,h1,h3=>have:=h1.1;rw[h2] at this;simp at this
 | [p],h1,h3 =>
   obtain⟨u,hu',hr,ho⟩:=jk h1
   have hvu:v=u:=by
    cases v with
    | agg cs =>
      exfalso
      split at hTt
      ·rename_i hun;simp[Value.okWide,hun,Cell.okWide,Cell.ok] at hv
      ·rename_i hun;simp[Value.okWide,hun,Cell.okWide,Cell.ok] at hv
      ·rename_i hun;simp[Value.okWide,hun,Cell.okWide,Cell.ok] at hv
      ·rename_i hun;simp[Value.okWide,hun,Cell.okWide,Cell.ok] at hv
      ·rename_i fs hun;exact hu ⟨fs,hun⟩
      ·cases hTt
    | _=>simpa[Value.cells] using hu'
   subst hvu
   exact⟨n,p,h3,hr⟩
end
end Go.AM
namespace Go.AM
open Go.RowKit
def jP (P:Program) (t:TypeId):Option (List (TypeId×Nat×Nat)):=match P.underlying t with
 | some (.struct fs)=>some (fs.toList.map fun f=>(f.type,f.offset,P.cellsOf f.type))
 | _=>none
def FieldsS {H:Type} (P:Program) (n:Nat) (pvs:List PV):List (TypeId×Nat×Nat)→List (DataW H)→Prop
 | [],[]=>True
 | (t,o,c)::l,y::ds=>wB P n t y ((pvs.drop o).take c)∧FieldsS P n pvs l ds
 | _,_=>False
section
variable {H:Type} {P:Program} {n:Nat} {t:TypeId} {d:DataW H} {pvs:List PV}
theorem fieldsS_of (n:Nat) (pvs:List PV):∀(fs:List Field) (ds:List (DataW H)),ds.length=fs.length→(∀(i:Nat) f y,fs[i]?=some f→ds[i]?=some y→wB P n f.type y ((pvs.drop f.offset).take (P.cellsOf f.type)))→FieldsS P n pvs (fs.map fun f=>(f.type,f.offset,P.cellsOf f.type)) ds
 | [],[],_,_=>trivial
 | f::fs,y::ds,hl,h=>⟨h 0 f y rfl rfl,fieldsS_of n pvs fs ds (by simpa using hl) fun i f' y' hf hy=>h (i+1) f' y' (by simpa using hf) (by simpa using hy)⟩
theorem vL {l:List (TypeId×Nat×Nat)} (hs:jP P t=some l):∃fs,P.underlying t=some (.struct fs)∧l=fs.toList.map fun f=>(f.type,f.offset,P.cellsOf f.type):=by
 unfold jP at hs
 split at hs
 ·rename_i fs hu
  injection hs with hs
  exact⟨fs,hu,hs.symm⟩
 ·cases hs
theorem qM {l:List (TypeId×Nat×Nat)} (hs:jP P t=some l) (h:wB P n t d pvs):∃(m:Nat) (ds:List (DataW H)),n=m+1∧d=.agg ds∧pvs.length=P.cellsOf t∧FieldsS P m pvs l ds:=by
 obtain⟨fs,hu,rfl⟩:=vL hs
 cases n with
 | zero=>exact h.elim
 | succ m =>
   unfold wB at h
   rw[hu] at h
   obtain⟨ds,h1,h2,h3,h4⟩:=h
   exact⟨m,ds,rfl,h1,h2,fieldsS_of m pvs fs.toList ds (by simpa using h3) fun i f y hf hy=>h4 i f y (by simpa using hf) hy⟩
theorem zu {o c:Nat} {l:List (TypeId×Nat×Nat)} {ds:List (DataW H)} (h:FieldsS P n pvs ((t,o,c)::l) ds):∃y ds',ds=y::ds'∧wB P n t y ((pvs.drop o).take c)∧FieldsS P n pvs l ds':=by
 cases ds with
 | nil=>exact h.elim
 | cons y ds'=>exact⟨y,ds',rfl,h.1,h.2⟩
theorem we {ds:List (DataW H)} (h:FieldsS P n pvs [] ds):ds=[]:=by
 cases ds with
 | nil=>rfl
 | cons y ds'=>exact h.elim
theorem qW {k:IntKind} (hu:P.underlying t=some (.int k)) (h:wB P n t d pvs):∃i,d=.lit (.int k i)∧pvs=[.v (.int k i)]∧(Lit.int k i).wf=true:=by
 cases n with
 | zero=>exact h.elim
 | succ m=>unfold wB at h;rw[hu] at h;exact h
theorem qh (hu:P.underlying t=some .string) (h:wB P n t d pvs):∃l:List UInt8,d=.lit (.string l)∧pvs=[str l]∧l.length≤maxLen:=by
 cases n with
 | zero=>exact h.elim
 | succ m =>
   unfold wB at h
   rw[hu] at h
   obtain⟨s,h1,h2,h3⟩:=h
   exact⟨s.data.toList,h1,by rw[h2],h3⟩
theorem qO {e:TypeId} (hu:P.underlying t=some (.slice e)) (h:wB P n t d pvs):∃(m:Nat) (es:List (List PV)) (ds:List (DataW H)),n=m+1∧((d=.nil∧ds=[])∨∃sp,d=.slice ds sp)∧pvs=[.sl (P.cellsOf e) es]∧es.length≤maxLen∧Zip (fun c y=>c.length=P.cellsOf e∧wB P m e y c) es ds:=by
 cases n with
 | zero=>exact h.elim
 | succ m =>
   unfold wB at h
   rw[hu] at h
   obtain⟨es,ds,h1,h2,h3,h4⟩:=h
   exact⟨m,es,ds,rfl,h1,h2,h3,h4⟩
theorem qT {α:Type} {enc:α→List PV} {w:α→Nat} {b:DataW H→Nat} {R:List PV→DataW H→Prop} (hR:∀c y,R c y→∃a,c=enc a∧w a≤b y):∀{es:List (List PV)} {ds:List (DataW H)},Zip R es ds→∃l:List α,es=l.map enc∧(l.map w).sum≤(ds.map b).sum
 | [],[],_=>⟨[],rfl,by simp⟩
 | [],_::_,h=>by have:=h.1;simp at this
 | _::_,[],h=>by have:=h.1;simp at this
 | c::es,y::ds,h=>by
   obtain⟨a,rfl,ha⟩:=hR c y (h.2 0 c y rfl rfl)
   obtain⟨l,rfl,hl⟩:=qT hR (es:=es) (ds:=ds) ⟨by have:=h.1;simpa using this,fun i c' y' hc hy=>h.2 (i+1) c' y' (by simpa using hc) (by simpa using hy)⟩
   exact⟨a::l,rfl,by simp;omega⟩
end
end Go.AM
