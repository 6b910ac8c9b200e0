/-
The checker: one experiment (any segment is let in).
The checker: what comes too near; the check of a book.
The check of a book.
What a layer gives: the check, what an experiment has, what is free.
The reference's books: times, salts, names in order, the search in line.
The reference's books: a text in a list.
-/
import Derived.Test.YtdkfdoeijcfbhaaGreatDoorG22
set_option maxRecDepth 8000
namespace Go.Proofs.YtdkfdoeijcfbhaaGreatDoor
open Go.Proofs.Tryz
open Go.RowKit Go.AM Go.SpanLaw
noncomputable abbrev Cnam:Ctx:=zF prog []
theorem goodnam:AM.Good Cnam (fun g=>[278].contains g):=zk mixed trivial
set_option maxRecDepth 100000 in
theorem names_sound:za prog 218 (hRun Cnam f218):=ql (code:=_) goodnam ⟨func218,by kernel_rfl,rfl,by kernel_rfl⟩
theorem names_run (b:Bk) (c:Cnd) (hp:Hp) (nx id m g:Nat) (hid:id<nx) (hc:hp id=some (blkC b m g true)) :
  ∃hp',hRun Cnam f218 [.ref id 0 0,.agg c.enc] hp nx=some (boo true,hp',nx+2)∧∀j,j<nx→hp' j=hp j:=by
 unfold hRun
 rw[if_pos (by simp[f218])]
 refine⟨upd (upd hp nx (some ⟨126,1,false,[[.ref id 0 0]]⟩)) (nx+1) (some ⟨25,7,false,[c.enc]⟩),?_,fun j hj=>by rw[zl _ _ _ _ (by omega),zl _ _ _ _ (by omega)]⟩
 refine wK rfl ?_
 rw[jD] at hc
 have n1:¬id=nx:=by omega
 have n2:¬id=nx+1:=by omega
 simp[ww,hc,n1,n2,f218]
noncomputable def expF (L:List Lyr) (before:List UInt8) (l:List (List UInt8)) (x:Xp):Int×List (List UInt8) :=
 if wY x.name before=0 then (if (bsN (L.map Lyr.name) x.layer).2=true then (if qj x.flag=true then (if x.cond.check=0 then (if wH l x.salt=0 then (if wX x.arms 20=0 then (qQ x.phases,jv l x.salt) else (wX x.arms 20,jv l x.salt)) else (wH l x.salt,jv l x.salt)) else (x.cond.check,l)) else (5,l)) else (9,l)) else (wY x.name before,l)
noncomputable abbrev Cexp:Ctx:=zF prog [(216,zd false [] (FSS2 fun a b=>int (wY a b))),(64,zd false [] FOfL),(51,zd false [] (FS qj)),(7,GC fun c=>int c.check),(218,hRun Cnam f218),(217,hRun Csal f217),(219,zd false [] (FRN (fun l n=>int (wX l n)) fun _ n=>1≤n∧n≤20)),(220,zd false [] (FPh fun l=>int (qQ l)))]
theorem goodexp:AM.Good Cexp (fun g=>[64].contains g):=zk mixed ⟨kv,by simp,xP,fun _=>zh _ _,kG,by simp,ccheck_sound,by simp,names_sound,by simp,WA,by simp,checkRanges_sound,by simp,phases_sound,by simp,trivial⟩
set_option maxRecDepth 100000 in
theorem experiment_sound:za prog 152 (hRun Cexp f152):=ql (code:=_) goodexp ⟨func152,by kernel_rfl,rfl,by kernel_rfl⟩
set_option maxHeartbeats 2000000 in
theorem experiment_run (b:Bk) (l:List (List UInt8)) (before:List UInt8) (x:Xp) (hb:b.cb≤lim) (hxb:x.cb≤lim) (hp0:Hp) (nx0 id m g:Nat) (hid:id<nx0) (hmd:m<nx0) (hne:id≠m) (hc0:hp0 id=some (blkC b m g true)) (hm0:hp0 m=some (blkM l)) :
  ∃x1 hp' nx',hRun Cexp f152 [.ref id 0 0,.agg x.enc,str before] hp0 nx0=some (x1,hp',nx')∧kW (int (expF b.layers before l x).1) (expF b.layers before l x).2 m hp0 nx0 x1 hp' nx':=by
 unfold hRun
 rw[if_pos (by simp[f152])]
 refine zD rfl ?_
 have hleL:=zN jh b.layers
 have hbc:b.cb=sumB Lyr.cb b.layers+sumB Hld.cb b.holds+sumB Xp.cb b.exps:=rfl
 have hxc:x.cb=x.name.length+x.layer.length+x.flag.length+x.cond.cb+x.salt.length+x.arms.length+sumB Phs.cb x.phases:=rfl
 unfold lim at hb hxb
 have nm:¬m=nx0:=by omega
 have ni:¬id=nx0:=by omega
 have hnf:=fun hp nx=>Ju (fun a b=>int (wY a b)) x.name before hp nx (by unfold lim;omega) (by simp)
 have hof:=fun hp nx=>xO b.layers x.layer hp nx (by unfold lim;omega)
 have hfl:x.flag.length≤lim:=by unfold lim;omega
 have hcc:=fun hp nx=>kQ (fun c=>int c.check) x.cond hp nx (by unfold lim;omega)
 have hrg:=fun hp nx=>zbG (fun l n=>int (wX l n)) (fun _ n=>1≤n∧n≤20) x.arms 20 hp nx ⟨by omega,by omega⟩
 have hph:=fun hp nx=>zbN (fun l=>int (qQ l)) x.phases hp nx (by unfold lim;omega)
 obtain⟨hp1,hnr,hk1⟩:=names_run b x.cond (upd hp0 nx0 (some ⟨66,13,false,[x.enc]⟩)) (nx0+1) id m g (by omega) (by rw[zl _ _ _ _ ni];exact hc0)
 have hci:hp1 id=some (blkC b m g true):=by rw[hk1 id (by omega),zl _ _ _ _ ni];exact hc0
 have hmi:hp1 m=some (blkM l):=by rw[hk1 m (by omega),zl _ _ _ _ nm];exact hm0
 have hxi:hp1 nx0=some ⟨66,13,false,[x.enc]⟩:=by rw[hk1 nx0 (by omega)];simp
 have hfr:∀j,j<nx0→hp1 j=hp0 j:=fun j hj=>by rw[hk1 j (by omega),zl _ _ _ _ (by omega)]
 have hsr:=VC b l x.salt (by unfold lim;omega) true hp1 (nx0+1+2) id m g hci hmi
 have hnx':¬nx0=m:=by omega
 have hc:=hc0
 rw[jD] at hc
 rw[zw] at hnr hxi
 rw[ww] at hnr
 simp only[ww] at hcc
 rw[zw]
 by_cases c1:wY x.name before=0
 case neg =>
  have hv:expF b.layers before l x=(wY x.name before,l):=by unfold expF;rw[if_neg c1]
  have c1':(wY x.name before != 0)=true:=by simpa using c1
  simp[hnf,c1',hv,f152,kW]
  exact⟨by rw[zl _ _ _ _ nm];exact hm0,fun j hj hjm=>by rw[zl _ _ _ _ (by omega)]⟩
 cases c2:(bsN (b.layers.map Lyr.name) x.layer).2
 ·have hv:expF b.layers before l x=(9,l):=by unfold expF;rw[if_pos c1,c2,if_neg (by simp)]
  simp[hnf,c1,ni,hc,hof,c2,hv,f152,kW]
  exact⟨by rw[zl _ _ _ _ nm];exact hm0,fun j hj hjm=>by rw[zl _ _ _ _ (by omega)]⟩
 cases c3:qj x.flag
 ·have hv:expF b.layers before l x=(5,l):=by unfold expF;rw[if_pos c1,c2,if_pos rfl,c3,if_neg (by simp)]
  simp[hnf,c1,ni,hc,hof,c2,hfl,c3,hv,f152,kW]
  exact⟨by rw[zl _ _ _ _ nm];exact hm0,fun j hj hjm=>by rw[zl _ _ _ _ (by omega)]⟩
 by_cases c4:x.cond.check=0
 case neg =>
  have hv:expF b.layers before l x=(x.cond.check,l):=by unfold expF;rw[if_pos c1,c2,if_pos rfl,c3,if_pos rfl,if_neg c4]
  have c4':(x.cond.check != 0)=true:=by simpa using c4
  simp[hnf,c1,ni,hc,hof,c2,hfl,c3,hcc,c4',hv,f152,kW]
  exact⟨by rw[zl _ _ _ _ nm];exact hm0,fun j hj hjm=>by rw[zl _ _ _ _ (by omega)]⟩
 by_cases c5:wH l x.salt=0
 case neg =>
  have hv:expF b.layers before l x=(wH l x.salt,jv l x.salt):=by unfold expF;rw[if_pos c1,c2,if_pos rfl,c3,if_pos rfl,if_pos c4,if_neg c5]
  have c5':(wH l x.salt != 0)=true:=by simpa using c5
  simp[hnf,c1,ni,hc,hof,c2,hfl,c3,hcc,c4,hnr,hxi,hsr,c5',hv,f152,kW]
  exact⟨by omega,fun j hj hjm=>by rw[zl _ _ _ _ hjm];exact hfr j hj⟩
 by_cases c6:wX x.arms 20=0
 case neg =>
  have hv:expF b.layers before l x=(wX x.arms 20,jv l x.salt):=by unfold expF;rw[if_pos c1,c2,if_pos rfl,c3,if_pos rfl,if_pos c4,if_pos c5,if_neg c6]
  have c6':(wX x.arms 20 != 0)=true:=by simpa using c6
  simp[hnf,c1,ni,hc,hof,c2,hfl,c3,hcc,c4,hnr,hxi,hnx',hsr,c5,hrg,c6',hv,f152,kW]
  exact⟨by omega,fun j hj hjm=>by rw[zl _ _ _ _ hjm];exact hfr j hj⟩
 ·have hv:expF b.layers before l x=(qQ x.phases,jv l x.salt):=by unfold expF;rw[if_pos c1,c2,if_pos rfl,c3,if_pos rfl,if_pos c4,if_pos c5,if_pos c6]
  simp[hnf,c1,ni,hc,hof,c2,hfl,c3,hcc,c4,hnr,hxi,hnx',hsr,c5,hrg,c6,hph,hv,f152,kW]
  exact⟨by omega,fun j hj hjm=>by rw[zl _ _ _ _ hjm];exact hfr j hj⟩
def boxX (x:Xp):Blk:=⟨66,13,false,[x.enc]⟩
def boxI (n:Int):Blk:=⟨3,1,false,[[int n]]⟩
def cls1 (x:Xp) (rest:Int) (y:Xp):Bool:=decide (y.layer=x.layer)&&xa x y rest
noncomputable abbrev Ccl1:Ctx:=zF prog [(223,zd false [] zc9)]
theorem goodcl1:AM.Good Ccl1 (fun g=>[223].contains g):=zk mixed ⟨clash_sound,fun _=>zh _ _,trivial⟩
set_option maxRecDepth 100000 in
theorem cls1_sound:za prog 222 (hRun Ccl1 f222):=ql (code:=_) goodcl1 ⟨func222,by kernel_rfl,rfl,by kernel_rfl⟩
theorem cls1_run (x y:Xp) (rest:Int) (hx:x.okC) (hy:y.okC) (hr:0≤rest∧rest≤100000000) (hp:Hp) (nx xb rb:Nat) (hxb:xb<nx) (hrb:rb<nx) (bx:hp xb=some (boxX x)) (br:hp rb=some (boxI rest)) :
  hRun Ccl1 f222 [.agg y.enc,.ref xb 0 0,.ref rb 0 0] hp nx=some (boo (cls1 x rest y),upd hp nx (some (boxX y)),nx+1):=by
 unfold hRun
 rw[if_pos (by simp[f222])]
 refine wK rfl ?_
 have n1:¬xb=nx:=by omega
 have n2:¬rb=nx:=by omega
 have hcl:=fun hp nx=>FClash_call x y rest hp nx ⟨hx,hy,hr.1,hr.2⟩
 rw[boxX,zw] at bx
 rw[boxI] at br
 simp only[zw] at hcl
 by_cases he:y.layer=x.layer
 ·have hd:(y.layer==x.layer)=true:=by simpa using he
  have hv:cls1 x rest y=xa x y rest:=by simp[cls1,he]
  simp[zw,boxX,n1,n2,bx,br,hd,hcl,hv,f222]
 ·have hd:(y.layer==x.layer)=false:=by simpa using he
  have hv:cls1 x rest y=false:=by simp[cls1,he]
  simp[zw,boxX,n1,n2,bx,br,hd,hv,f222]
def clsI (x:Xp) (rest:Int):Nat→List Xp→Int
 | _,[]=>-1
 | k,y::l=>if cls1 x rest y=true then k else clsI x rest (k+1) l
theorem zbO (x:Xp) (rest:Int):∀(l:List Xp) (k:Nat),decide (0≤clsI x rest k l)=l.any (cls1 x rest)
 | [],k=>by simp[clsI]
 | s::l,k=>by
   by_cases h:cls1 x rest s=true
   ·have e:clsI x rest k (s::l)=k:=by simp only[clsI,if_pos h]
    rw[e,List.any_cons,h];simp
   ·have e:clsI x rest k (s::l)=clsI x rest (k+1) l:=by simp only[clsI,if_neg h]
    rw[e,zbO x rest l (k+1),List.any_cons,Bool.eq_false_iff.2 h];rfl
noncomputable abbrev Cxix:Ctx:=zF prog [(222,hRun Ccl1 f222)]
theorem goodxix:AM.Good Cxix (fun g=>([]:List Nat).contains g):=zk mixed ⟨cls1_sound,by simp,trivial⟩
set_option maxRecDepth 100000 in
theorem xix_sound:za prog 282 (hRun Cxix f282):=ql (code:=_) goodxix ⟨func282,by kernel_rfl,rfl,by kernel_rfl⟩
def fnX (xb rb:Nat):PV:=.fn (.func 222) [] [.ref xb 0 0,.ref rb 0 0]
def zcv (r:PV) (hp:Hp) (nx:Nat) (x:PV) (hp':Hp) (nx':Nat):Prop:=x=r∧nx≤nx'∧∀j,j<nx→hp' j=hp j
theorem xix_run (l:List Xp) (x:Xp) (rest:Int) (hl:l.length≤lim) (hs:∀s∈l,s.okC) (hx:x.okC) (hr:0≤rest∧rest≤100000000) (hp0:Hp) (nx0 xb rb:Nat) (hxb:xb<nx0) (hrb:rb<nx0) (bx:hp0 xb=some (boxX x)) (br:hp0 rb=some (boxI rest)) :
  ∃x1 hp' nx',hRun Cxix f282 [.sl 13 (l.map Xp.enc),fnX xb rb] hp0 nx0=some (x1,hp',nx')∧zcv (int (clsI x rest 0 l)) hp0 nx0 x1 hp' nx':=by
 unfold hRun
 rw[if_pos (by simp[f282])]
 refine zD rfl ?_
 unfold lim at hl
 simp[fnX]
 refine zq (fun k σ hp nx=>σ 0=.sl 13 (l.map Xp.enc)∧σ 1=fnX xb rb∧σ 7=int l.length∧σ 8=int k∧nx0≤nx∧(∀j,j<nx0→hp j=hp0 j)∧clsI x rest 0 l=clsI x rest k (l.drop k)) l.length ⟨by simp,by simp[fnX],by simp,by simp,Nat.le_refl _,fun _ _=>rfl,by simp⟩ ?_
 rintro k σ hp nx hk ⟨h0,h1,h7,h8,hnx,hfr,he⟩
 by_cases hlt:k<l.length
 ·have hw:IntKind.i64.wrap ((k:Int)+1)=(k:Int)+1:=zc (by omega) (by omega)
  have hrun:=cls1_run x l[k] rest hx (hs _ (List.getElem_mem hlt)) hr hp nx xb rb (by omega) (by omega) (by rw[hfr xb hxb];exact bx) (by rw[hfr rb hrb];exact br)
  simp only[zw] at hrun
  rw[List.drop_eq_getElem_cons hlt] at he
  simp only[clsI] at he
  cases hz:cls1 x rest l[k]
  ·rw[hz,if_neg (by simp)] at he
   rw[hz] at hrun
   simp[h0,h1,h7,h8,fnX,hlt,zw,hrun,hw]
   exact⟨hlt,by omega,fun j hj=>by rw[zl _ _ _ _ (by omega)];exact hfr j hj,he⟩
  ·rw[hz,if_pos rfl] at he
   rw[hz] at hrun
   simp[h0,h1,h7,h8,fnX,hlt,zw,hrun,hw,f282]
   exact⟨by rw[he],by omega,fun j hj=>by rw[zl _ _ _ _ (by omega)];exact hfr j hj⟩
 ·obtain rfl:k=l.length:=by omega
  rw[List.drop_length] at he
  simp only[clsI] at he
  simp[h0,h1,h7,h8,f282]
  exact⟨by rw[he],hnx,hfr⟩
noncomputable abbrev Cxtn:Ctx:=zF prog [(282,hRun Cxix f282)]
theorem goodxtn:AM.Good Cxtn (fun g=>([]:List Nat).contains g):=zk mixed ⟨xix_sound,by simp,trivial⟩
set_option maxRecDepth 100000 in
theorem xtn_sound:za prog 221 (hRun Cxtn f221):=ql (code:=_) goodxtn ⟨func221,by kernel_rfl,rfl,by kernel_rfl⟩
theorem xtn_run (l:List Xp) (x:Xp) (rest:Int) (hl:l.length≤lim) (hs:∀s∈l,s.okC) (hx:x.okC) (hr:0≤rest∧rest≤100000000) (hp0:Hp) (nx0 xb rb:Nat) (hxb:xb<nx0) (hrb:rb<nx0) (bx:hp0 xb=some (boxX x)) (br:hp0 rb=some (boxI rest)) :
  ∃x1 hp' nx',hRun Cxtn f221 [.sl 13 (l.map Xp.enc),fnX xb rb] hp0 nx0=some (x1,hp',nx')∧zcv (boo (l.any (cls1 x rest))) hp0 nx0 x1 hp' nx':=by
 unfold hRun
 rw[if_pos (by simp[f221])]
 refine zD rfl ?_
 obtain⟨x1,hp',nx',h1,h2,h3,h4⟩:=xix_run l x rest hl hs hx hr hp0 nx0 xb rb hxb hrb bx br
 subst h2
 have ha:=zbO x rest l 0
 simp only[fnX] at h1
 simp[fnX,h1,ha,zcv,h3,f221]
 exact h4
theorem slX (hp:Hp) (l:List Xp) (k:Nat) (h:k≤l.length):qS prog hp 33 (.sl 13 (l.map Xp.enc)) none (some (some (int k)))=some (.sl 13 ((l.take k).map Xp.enc)):=by
 simp[qS,h]
noncomputable def w8 (L:List Lyr) (s:List UInt8):Int:=match L[(bsN (L.map Lyr.name) s).1]? with
 | some y=>y.rest
 | none=>0
noncomputable def clsF (L:List Lyr) (all:List Xp):Nat→List Xp→Bool
 | _,[]=>false
 | i,x::l=>(all.take i).any (cls1 x (w8 L x.layer))||clsF L all (i+1) l
noncomputable abbrev Ccls:Ctx:=zF prog [(64,zd false [] FOfL),(221,hRun Cxtn f221)]
theorem goodcls:AM.Good Ccls (fun g=>[64].contains g):=zk mixed ⟨xP,fun _=>zh _ _,xtn_sound,by simp,trivial⟩
set_option maxRecDepth 100000 in
theorem clashes_sound:za prog 153 (hRun Ccls f153):=ql (code:=_) goodcls ⟨func153,by kernel_rfl,rfl,by kernel_rfl⟩
set_option maxHeartbeats 2000000 in
theorem clashes_run (b:Bk) (hb:b.cb≤lim) (hs:∀x∈b.exps,x.okC∧(bsN (b.layers.map Lyr.name) x.layer).2=true) (hr:∀y∈b.layers,0≤y.rest∧y.rest≤100000000) (any:Bool) (hp0:Hp) (nx0 id m g:Nat) (hid:id<nx0) (hc0:hp0 id=some (blkC b m g any)) :
  ∃x1 hp' nx',hRun Ccls f153 [.ref id 0 0] hp0 nx0=some (x1,hp',nx')∧zcv (boo (clsF b.layers b.exps 0 b.exps)) hp0 nx0 x1 hp' nx':=by
 unfold hRun
 rw[if_pos (by simp[f153])]
 refine zD rfl ?_
 have hlen:=zN xM b.exps
 have hleL:=zN jh b.layers
 have hbc:b.cb=sumB Lyr.cb b.layers+sumB Hld.cb b.holds+sumB Xp.cb b.exps:=rfl
 unfold lim at hb
 have hc:=hc0
 rw[jD] at hc
 simp[hc]
 refine zq (fun k σ hp nx=>σ 0=.ref id 0 0∧σ 12=.sl 13 (b.exps.map Xp.enc)∧σ 13=int b.exps.length∧σ 14=int k∧nx0≤nx∧(∀j,j<nx0→hp j=hp0 j)∧clsF b.layers b.exps 0 b.exps=clsF b.layers b.exps k (b.exps.drop k)) b.exps.length
  ⟨by simp,by simp,by simp,by simp,Nat.le_refl _,fun _ _=>rfl,by simp⟩ ?_
 rintro k σ hp nx hk ⟨h0,h12,h13,h14,hnx,hfr,he⟩
 by_cases hlt:k<b.exps.length
 ·obtain⟨x,hx⟩:∃x,b.exps[k]=x:=⟨_,rfl⟩
  have hxm:x∈b.exps:=by rw[←hx];exact List.getElem_mem hlt
  obtain⟨hxo,hxl⟩:=hs x hxm
  have hmx:=qt (f:=Xp.cb) hxm
  have hxc:x.cb=x.name.length+x.layer.length+x.flag.length+x.cond.cb+x.salt.length+x.arms.length+sumB Phs.cb x.phases:=rfl
  rw[List.drop_eq_getElem_cons hlt,hx] at he
  simp only[clsF] at he
  have hw:IntKind.i64.wrap ((k:Int)+1)=(k:Int)+1:=zc (by omega) (by omega)
  have hof:=fun hp nx=>xO b.layers x.layer hp nx (by unfold lim;omega)
  obtain⟨q,hq⟩:∃q,(bsN (b.layers.map Lyr.name) x.layer).1=q:=⟨_,rfl⟩
  have hql:q<b.layers.length:=by have:=zbK hxl;rw[hq] at this;simpa using this
  obtain⟨y,hy⟩:∃y,b.layers[q]=y:=⟨_,rfl⟩
  have hyr:=hr y (by rw[←hy];exact List.getElem_mem hql)
  have hrest:w8 b.layers x.layer=y.rest:=by unfold w8;rw[hq,List.getElem?_eq_getElem hql,hy]
  rw[hrest] at he
  have ni:¬id=nx:=by omega
  have ni2:¬id=nx+1:=by omega
  have hci:hp id=some (blkC b m g any):=by rw[hfr id hid];exact hc0
  rw[jD] at hci
  obtain⟨x1,hp',nx',h1,h2,h3,h4⟩:=xtn_run (b.exps.take k) x y.rest (by unfold lim;simp;omega) (fun s hsm=>(hs s (List.mem_of_mem_take hsm)).1) hxo hyr (upd (upd hp nx (some (boxX x))) (nx+1) (some (boxI y.rest))) (nx+1+1) nx (nx+1) (by omega) (by omega) (by rw[zl _ _ _ _ (by omega)];simp) (by simp)
  subst h2
  simp only[fnX,boxX,boxI,zw,List.map_take] at h1
  have hfr':∀j,j<nx0→hp' j=hp0 j:=fun j hj=>by rw[h4 j (by omega),zl _ _ _ _ (by omega),zl _ _ _ _ (by omega)];exact hfr j hj
  have hsl:=fun hp=>slX hp b.exps k (by omega)
  cases hz:(b.exps.take k).any (cls1 x y.rest)
  ·rw[hz,Bool.false_or] at he
   rw[hz] at h1
   simp[h0,h12,h13,h14,hlt,hx,zw,ni,ni2,hci,hof,hq,hql,hy,Lyr.enc,hsl,h1,hw]
   exact⟨by omega,by omega,hfr',he⟩
  ·rw[hz,Bool.true_or] at he
   rw[hz] at h1
   simp[h0,h12,h13,h14,hlt,hx,zw,ni,ni2,hci,hof,hq,hql,hy,Lyr.enc,hsl,h1,hw,f153,zcv,he]
   exact⟨by omega,hfr'⟩
 ·obtain rfl:k=b.exps.length:=by omega
  rw[List.drop_length] at he
  simp only[clsF] at he
  simp[h0,h12,h13,h14,f153,zcv,he]
  exact⟨hnx,hfr⟩
noncomputable def vA (L:List Lyr):List UInt8→List (List UInt8)→List Xp→Int×List (List UInt8)
 | _,l,[]=>(0,l)
 | before,l,x::xs=>if (expF L before l x).1=0 then vA L x.name (expF L before l x).2 xs else expF L before l x
noncomputable def zP (b:Bk):Int :=
 if (20:Int)<b.layers.length∨(10:Int)<b.holds.length∨(100:Int)<b.exps.length then 2
 else if (qh [] [] b.layers).1=0 then
  (if (qZ b.layers [] (qh [] [] b.layers).2 b.holds).1=0 then
   (if (vA b.layers [] (qZ b.layers [] (qh [] [] b.layers).2 b.holds).2 b.exps).1=0 then (if clsF b.layers b.exps 0 b.exps=true then 13 else 0)
    else (vA b.layers [] (qZ b.layers [] (qh [] [] b.layers).2 b.holds).2 b.exps).1)
   else (qZ b.layers [] (qh [] [] b.layers).2 b.holds).1)
 else (qh [] [] b.layers).1
theorem zay (n lo hi:Int):inB n lo hi=true↔lo≤n∧n≤hi:=by simp[inB]
theorem xR:∀{xs:List Lyr} {before:List UInt8} {l:List (List UInt8)},(qh before l xs).1=0→∀y∈xs,0≤y.rest∧y.rest≤100000000
 | [],_,_,_,y,hy=>by simp at hy
 | x::xs,before,l,h,y,hy=>by
   simp only[qh] at h
   split at h
   ·split at h
    ·split at h
     ·rename_i c3
      rcases List.mem_cons.1 hy with rfl | hy
      ·exact (zay _ _ _).1 c3
      ·exact xR h y hy
     ·exact absurd h (by simp)
    ·rename_i c;exact absurd h c
   ·rename_i c;exact absurd h c
theorem zdS:∀{xs:List Phs} {p:Option Int} {b:List Sp},phF p b xs=0→Z9 xs
 | [],_,_,_,y,hy=>by simp at hy
 | x::xs,p,b,h,y,hy=>by
   simp only[phF] at h
   split at h
   ·rename_i c1
    split at h
    ·exact absurd h (by simp)
    ·split at h
     ·split at h
      ·exact absurd h (by simp)
      ·rcases List.mem_cons.1 hy with rfl | hy
       ·exact (zay _ _ _).1 c1
       ·exact zdS h y hy
     ·rename_i c;exact absurd h c
   ·exact absurd h (by simp)
theorem jY {l:List Phs} (h:qQ l=0):Z9 l:=by
 unfold qQ at h
 split at h
 ·exact absurd h (by simp)
 ·exact zdS h
theorem zaz {L:List Lyr} {before:List UInt8} {l:List (List UInt8)} {x:Xp} (h:(expF L before l x).1=0):qQ x.phases=0∧(bsN (L.map Lyr.name) x.layer).2=true∧wX x.arms 20=0∧x.cond.check=0∧wY x.name before=0:=by
 unfold expF at h
 split at h
 ·rename_i c1
  split at h
  ·rename_i c2
   split at h
   ·split at h
    ·rename_i c4
     split at h
     ·split at h
      ·rename_i c6;exact⟨h,c2,c6,c4,c1⟩
      ·rename_i c;exact absurd h c
     ·rename_i c;exact absurd h c
    ·rename_i c;exact absurd h c
   ·exact absurd h (by simp)
  ·exact absurd h (by simp)
 ·rename_i c;exact absurd h c
theorem VE {L:List Lyr}:∀{xs:List Xp} {before:List UInt8} {l:List (List UInt8)},(vA L before l xs).1=0→∀y∈xs,qQ y.phases=0∧(bsN (L.map Lyr.name) y.layer).2=true
 | [],_,_,_,y,hy=>by simp at hy
 | x::xs,before,l,h,y,hy=>by
   simp only[vA] at h
   split at h
   ·rename_i c
    rcases List.mem_cons.1 hy with rfl | hy
    ·exact⟨(zaz c).1,(zaz c).2.1⟩
    ·exact VE h y hy
   ·rename_i c;exact absurd h c
noncomputable abbrev Cchk:Ctx:=zF prog [(150,hRun Clay f150),(151,hRun Chol f151),(152,hRun Cexp f152),(153,hRun Ccls f153)]
theorem goodchk:AM.Good Cchk (fun g=>([]:List Nat).contains g):=zk mixed ⟨layers_sound,by simp,holds_sound,by simp,experiment_sound,by simp,clashes_sound,by simp,trivial⟩
set_option maxRecDepth 100000 in
theorem bkCheck_sound:za prog 95 (hRun Cchk f95):=ql (code:=_) goodchk ⟨func95,by kernel_rfl,rfl,by kernel_rfl⟩
set_option maxHeartbeats 2000000 in
theorem check_run (b:Bk) (hb:b.cb≤lim) (hp0:Hp) (nx0 id m g:Nat) (hid:id<nx0) (hmd:m<nx0) (hne:id≠m) (hc0:hp0 id=some (blkC b m g true)) (hm0:hp0 m=some (blkM [])) :
  ∃x1 hp' nx',hRun Cchk f95 [.ref id 0 0] hp0 nx0=some (x1,hp',nx')∧x1=int (zP b):=by
 unfold hRun
 rw[if_pos (by simp[f95])]
 refine zD rfl ?_
 have hlen:=zN xM b.exps
 have hleL:=zN jh b.layers
 have hleH:=zN Wy b.holds
 have hbc:b.cb=sumB Lyr.cb b.layers+sumB Hld.cb b.holds+sumB Xp.cb b.exps:=rfl
 have hb':=hb
 unfold lim at hb
 obtain⟨x1,hp1,nx1,l1,rfl,l3,l4,l5⟩:=layers_run b [] hb' true hp0 nx0 id m g hid hmd hne hc0 hm0
 have hc1:hp1 id=some (blkC b m g true):=by rw[l5 id hid hne];exact hc0
 obtain⟨e1,he1⟩:∃e,qh [] [] b.layers=e:=⟨_,rfl⟩
 rw[he1] at l1 l4
 obtain⟨x2,hp2,nx2,g1,rfl,g3,g4,g5⟩:=holds_run b e1.2 hb' true hp1 nx1 id m g (by omega) (by omega) hne hc1 l4
 have hc2:hp2 id=some (blkC b m g true):=by rw[g5 id (by omega) hne];exact hc1
 obtain⟨e2,he2⟩:∃e,qZ b.layers [] e1.2 b.holds=e:=⟨_,rfl⟩
 rw[he2] at g1 g4
 obtain⟨e3,he3⟩:∃e,vA b.layers [] e2.2 b.exps=e:=⟨_,rfl⟩
 have hc:=hc0
 rw[jD] at hc
 have hcc2:=hc2
 rw[jD] at hcc2
 by_cases a1:(20:Int)<b.layers.length
 ·have hv:zP b=2:=by unfold zP;rw[if_pos (.inl a1)]
  simp[hc,a1,hv,f95]
 by_cases a2:(10:Int)<b.holds.length
 ·have hv:zP b=2:=by unfold zP;rw[if_pos (.inr (.inl a2))]
  simp[hc,a1,a2,hv,f95]
 by_cases a3:(100:Int)<b.exps.length
 ·have hv:zP b=2:=by unfold zP;rw[if_pos (.inr (.inr a3))]
  simp[hc,a1,a2,a3,hv,f95]
 have hv0:zP b=if e1.1=0 then (if e2.1=0 then (if e3.1=0 then (if clsF b.layers b.exps 0 b.exps=true then 13 else 0) else e3.1) else e2.1) else e1.1:=by
  unfold zP;rw[if_neg (by omega),he1,he2,he3]
 by_cases c1:e1.1=0
 case neg =>
  rw[if_neg c1] at hv0
  have c1':(e1.1 != 0)=true:=by simpa using c1
  simp[hc,a1,a2,a3,l1,c1',hv0,f95]
 rw[if_pos c1] at hv0
 by_cases c2:e2.1=0
 case neg =>
  rw[if_neg c2] at hv0
  have c2':(e2.1 != 0)=true:=by simpa using c2
  simp[hc,a1,a2,a3,l1,c1,g1,c2',hv0,f95]
 rw[if_pos c2] at hv0
 simp[hc,a1,a2,a3,l1,c1,g1,c2,hcc2]
 refine zq (fun k σ hp nx=>σ 0=.ref id 0 0∧σ 48=.sl 13 (b.exps.map Xp.enc)∧σ 49=int b.exps.length∧σ 50=int k∧nx0≤nx∧hp id=some (blkC b m g true)∧∃(before:List UInt8) (l':List (List UInt8)),σ 5=str before∧hp m=some (blkM l')∧e3=vA b.layers before l' (b.exps.drop k)) b.exps.length
  ⟨by simp,by simp,by simp,by simp,by simp;omega,hc2,[],e2.2,by simp,g4,by simp[he3]⟩ ?_
 clear l1 l3 l4 l5 hc1 g1 g3 g4 g5 hc2 hcc2 hc
 rintro k σ hp nx hk ⟨h0,h48,h49,h50,hnx,hcn,before,l',h5,hm,he⟩
 by_cases hlt:k<b.exps.length
 ·obtain⟨x,hx⟩:∃x,b.exps[k]=x:=⟨_,rfl⟩
  have hmx:=qt (f:=Xp.cb) (List.getElem_mem hlt)
  rw[hx] at hmx
  have nm:¬m=nx:=by omega
  have ni:¬id=nx:=by omega
  have hw:IntKind.i64.wrap ((k:Int)+1)=(k:Int)+1:=zc (by omega) (by omega)
  rw[List.drop_eq_getElem_cons hlt,hx] at he
  simp only[vA] at he
  obtain⟨x3,hp3,nx3,q1,rfl,q3,q4,q5⟩:=experiment_run b l' before x hb' (by unfold lim;omega) (upd hp nx (some (boxX x))) (nx+1) id m g (by omega) (by omega) hne (by rw[zl _ _ _ _ ni];exact hcn) (by rw[zl _ _ _ _ nm];exact hm)
  have hc3:hp3 id=some (blkC b m g true):=by rw[q5 id (by omega) hne,zl _ _ _ _ ni];exact hcn
  have hx3:hp3 nx=some (boxX x):=by rw[q5 nx (by omega) (by omega)];simp
  simp only[boxX,zw] at q1 hx3
  by_cases d1:(expF b.layers before l' x).1=0
  case neg =>
   rw[if_neg d1] at he
   have hv:zP b=(expF b.layers before l' x).1:=by rw[hv0,he,if_neg d1]
   have d1':((expF b.layers before l' x).1 != 0)=true:=by simpa using d1
   simp[h0,h5,h48,h49,h50,hlt,hx,zw,q1,d1',hv,f95]
  ·rw[if_pos d1] at he
   simp[h0,h5,h48,h49,h50,hlt,hx,zw,q1,d1,hx3,hw]
   exact⟨by omega,by omega,hc3,_,q4,he⟩
 ·obtain rfl:k=b.exps.length:=by omega
  rw[List.drop_length] at he
  simp only[vA] at he
  have hz:(vA b.layers [] e2.2 b.exps).1=0:=by rw[he3,he]
  have hyr:=xR (by rw[he1];exact c1)
  have hex:=VE hz
  obtain⟨x3,hp3,nx3,q1,rfl,q3,q4⟩:=clashes_run b hb' (fun x hxm=>⟨⟨jY (hex x hxm).1,by have:=qt (f:=Xp.cb) hxm;unfold lim;omega⟩,(hex x hxm).2⟩) hyr true hp nx id m g (by omega) hcn
  have hv:zP b=if clsF b.layers b.exps 0 b.exps=true then 13 else 0:=by rw[hv0,he,if_pos rfl]
  cases hcl:clsF b.layers b.exps 0 b.exps
  ·rw[hcl,if_neg (by simp)] at hv
   rw[hcl] at q1
   simp[h0,h48,h49,h50,q1,hv,f95]
  ·rw[hcl,if_pos rfl] at hv
   rw[hcl] at q1
   simp[h0,h48,h49,h50,q1,hv,f95]
@[simp] theorem get_ptrn (σ:Nat→PV):AM.get σ (.const (.pointer none))=some (.v (.pointer none)):=rfl
set_option maxRecDepth 100000 in
theorem checkerOf_sound:za prog 94 (hRun C0 f94):=ql (code:=_) qA ⟨func94,by kernel_rfl,rfl,by kernel_rfl⟩
theorem checkerOf_run (b:Bk) (hp0:Hp) (nx0:Nat):∃x1 hp' nx',hRun C0 f94 [.nil,.agg b.enc] hp0 nx0=some (x1,hp',nx')∧x1=.ref (nx0+1+1+1) 0 0∧nx'=nx0+1+1+1+1∧hp' (nx0+1)=some (blkM [])∧hp' (nx0+1+1+1)=some (blkC b (nx0+1) (nx0+1+1) false):=by
 unfold hRun
 rw[if_pos (by simp[f94])]
 refine zD rfl ?_
 simp[Bk.enc,zt,zM]
 refine zq (fun k σ hp nx=>σ 14=int 0∧σ 15=int k∧σ 5=.ref (nx0+1+1+1) 0 0∧nx=nx0+1+1+1+1∧hp (nx0+1)=some (blkM [])∧hp (nx0+1+1+1)=some (blkC b (nx0+1) (nx0+1+1) false)) 0
  ⟨by simp,by simp,by simp,by simp,by simp[blkM,entM],by simp[jD]⟩ ?_
 rintro k σ hp nx hk ⟨h14,h15,h5,hnx,hm,hc⟩
 obtain rfl:k=0:=by omega
 simp[h14,h15,h5,hnx,f94]
 exact⟨hm,hc⟩
noncomputable def FBk (out:Bk→PV):List PV→Option PV:=zH (α:=Bk) (fun b=>[.agg b.enc]) (fun b=>b.cb≤lim) out
theorem Yu (out:Bk→PV) (b:Bk) (hp:Hp) (nx:Nat) (h:b.cb≤lim):zd false [] (FBk out) [.agg b.enc] hp nx=some (out b,hp,nx) :=
 zy (hp1:=hp) (show zj hp [.agg b.enc]=some ([.agg b.enc],hp) by simp[Bk.enc]) (zm (enc:=fun b:Bk=>[.agg b.enc]) (a:=b) (fun a b e=>by simp only[List.cons.injEq,and_true,PV.agg.injEq] at e;exact QM e) h) (.inr (by simp[Bk.enc]))
noncomputable abbrev Cxcb:Ctx:=zF prog [(94,hRun C0 f94),(95,hRun Cchk f95)]
set_option maxRecDepth 100000 in
theorem goodxcb:AM.Good Cxcb (fun g=>([]:List Nat).contains g):=zk mixed ⟨checkerOf_sound,by simp,bkCheck_sound,by simp,trivial⟩
set_option maxRecDepth 20000 in
theorem xcb_eval (b:Bk) (h:b.cb≤lim):zi Cxcb f60 [.agg b.enc]=some (int (zP b)):=by
 refine zb rfl ?_
 obtain⟨x1,hp1,nx1,l1,rfl,rfl,l4,l5⟩:=checkerOf_run b (upd (fun _=>none) 0 (some ⟨35,3,false,[b.enc]⟩)) 1
 obtain⟨x2,hp2,nx2,g1,rfl⟩:=check_run b h (upd hp1 4 (some (blkC b 2 3 true))) 5 4 2 3 (by omega) (by omega) (by omega) (by simp) (by rw[zl _ _ _ _ (by omega)];exact l4)
 simp only[Bk.enc] at l1
 rw[jD] at l5 g1
 simp[Bk.enc,l1,l5,g1,qi,f60]
set_option maxRecDepth 100000 in
theorem XV:za prog 60 (zd false [] (FBk fun b=>int (zP b))) :=
 zI (fn:=f60) goodxcb ⟨_,func60,by kernel_rfl,rfl,by kernel_rfl⟩ false [] _ fun args r h=>by
  obtain⟨b,rfl,hx,rfl⟩:=ze h
  exact⟨by simp[f60],_,xcb_eval b hx,zG _⟩
end Go.Proofs.YtdkfdoeijcfbhaaGreatDoor
namespace Go.AM
open Go.RowKit
theorem OwnS.appendF {P:Program} {hp:Hp} {nx e s by_:Nat} {v:PV} {xs:List (List PV)} {ys:List (List PV)} {z:List PV} {t:TypeId} (h:OwnS hp nx e s v xs) (ht:qJ P t=some e) (hs:zR P e=some s) (hb:yD P e=some by_) (hz:wF P e=some z)
  (hzl:z.length=s) (h0:0<s) (h1:xs.length+ys.length≤maxLen) (h2:(xs.length+ys.length)*by_≤140737488355328) :
  ∃v' hp' nx',qK P hp nx t t v (.sl s ys)=some (v',hp',nx')∧OwnS hp' nx' e s v' (xs++ys)∧nx≤nx'∧∀j,j<nx→(∀n,v≠.own j 0 n)→hp' j=hp j:=by
 rcases h with⟨rfl,rfl⟩ | ⟨id,hid,rfl,hh⟩
 ·simp at h1 h2
  by_cases hy:ys=[]
  ·subst hy
   exact⟨.nil,hp,nx,by simp[qK,ht,hs,hb,hz,hzl,h0,AM.view,maxLen],.inl ⟨rfl,rfl⟩,Nat.le_refl _,fun _ _ _=>rfl⟩
  ·exact⟨.own nx 0 ys.length,_,nx+1,by simp[qK,ht,hs,hb,hz,hzl,h0,h1,h2,AM.view,hy];rfl,.inr ⟨nx,by omega,by simp,by simp⟩,by omega,fun j hj _=>by rw[zl _ _ _ _ (by omega)]⟩
 ·refine⟨.own nx 0 (xs.length+ys.length),_,nx+1,by simp[qK,ht,hs,hb,hz,hzl,h0,h1,h2,AM.view,hh];rfl,.inr ⟨nx,by omega,by simp,by simp⟩,by omega,fun j hj hv=>?_⟩
  have hji:¬j=id:=fun e=>hv xs.length (by rw[e])
  rw[zl _ _ _ _ (by omega),zl _ _ _ _ hji]
end Go.AM
namespace Go.Proofs.YtdkfdoeijcfbhaaGreatDoor
open Go.Proofs.Tryz
open Go.RowKit Go.AM Go.SpanLaw
noncomputable def chkL (b:Bk) (s:List UInt8) (n:Int):Int:=if zP b=0 then (if (bsN (b.layers.map Lyr.name) s).2=true then (if ji n=true then 0 else 1) else 5) else zP b
noncomputable def FBNI (out:Bk→List UInt8→Int→PV):List PV→Option PV:=zH (α:=Bk×List UInt8×Int) (fun a=>[.agg a.1.enc,str a.2.1,int a.2.2]) (fun a=>a.1.cb≤lim) (fun a=>out a.1 a.2.1 a.2.2)
theorem jw (hp:Hp) (b:Bk):zK hp (.agg b.enc)=some (.agg b.enc,hp):=by simp[Bk.enc]
theorem Zs (b:Bk):PV.noOwn (.agg b.enc)=true:=by simp[Bk.enc]
theorem jx (out:Bk→List UInt8→Int→PV) (b:Bk) (s:List UInt8) (n:Int) (hp:Hp) (nx:Nat) (h:b.cb≤lim):zd false [] (FBNI out) [.agg b.enc,str s,int n] hp nx=some (out b s n,hp,nx) :=
 zy (hp1:=hp) (show zj hp [.agg b.enc,str s,int n]=some ([.agg b.enc,str s,int n],hp) by simp only[zj,jw];rfl) (zm (enc:=fun a:Bk×List UInt8×Int=>[.agg a.1.enc,str a.2.1,int a.2.2]) (a:=(b,s,n)) (fun x y e=>by
  obtain⟨x1,x2,x3⟩:=x;obtain⟨y1,y2,y3⟩:=y
  simp only[List.cons.injEq,and_true,PV.agg.injEq] at e
  rw[QM e.1,zV e.2.1,zB e.2.2]) h) (.inr (by simp only[List.all_cons,Zs];rfl))
noncomputable abbrev Ccly:Ctx:=zF prog [(60,zd false [] (FBk fun b=>int (zP b))),(64,zd false [] FOfL),(62,zd false [] (FIb ji))]
theorem goodcly:AM.Good Ccly (fun g=>([]:List Nat).contains g):=zk mixed ⟨XV,by simp,xP,by simp,xN,by simp,trivial⟩
theorem cly_eval (b:Bk) (s:List UInt8) (n:Int) (h:b.cb≤lim):zi Ccly f32 [.agg b.enc,str s,int n]=some (int (chkL b s n)):=by
 refine zb rfl ?_
 have hleL:=zN jh b.layers
 have hbc:b.cb=sumB Lyr.cb b.layers+sumB Hld.cb b.holds+sumB Xp.cb b.exps:=rfl
 have hk:=fun hp nx=>Yu (fun b=>int (zP b)) b hp nx h
 unfold lim at h
 have hof:=fun hp nx=>xO b.layers s hp nx (by unfold lim;omega)
 simp only[Bk.enc] at hk
 by_cases c1:zP b=0
 case neg =>
  have hv:chkL b s n=zP b:=by unfold chkL;rw[if_neg c1]
  have c1':(zP b != 0)=true:=by simpa using c1
  simp[Bk.enc,hk,c1',hv,f32]
 cases c2:(bsN (b.layers.map Lyr.name) s).2
 ·have hv:chkL b s n=5:=by unfold chkL;rw[if_pos c1,c2,if_neg (by simp)]
  simp[Bk.enc,hk,c1,hof,c2,hv,f32]
 cases c3:ji n
 ·have hv:chkL b s n=1:=by unfold chkL;rw[if_pos c1,c2,if_pos rfl,c3,if_neg (by simp)]
  simp[Bk.enc,hk,c1,hof,c2,c3,hv,f32]
 ·have hv:chkL b s n=0:=by unfold chkL;rw[if_pos c1,c2,if_pos rfl,c3,if_pos rfl]
  simp[Bk.enc,hk,c1,hof,c2,c3,hv,f32]
set_option maxRecDepth 100000 in
theorem XW:za prog 32 (zd false [] (FBNI fun b s n=>int (chkL b s n))) :=
 zI (fn:=f32) goodcly ⟨_,func32,by kernel_rfl,rfl,by kernel_rfl⟩ false [] _ fun args r h=>by
  obtain⟨⟨b,s,n⟩,rfl,hx,rfl⟩:=ze h
  exact⟨by simp[f32],_,cly_eval b s n hx,zG _⟩
def hasG (acc:List Sp) (n:Int):List Phs→List Sp
 | []=>acc
 | p::l=>hasG (if p.at_≤n then p.spans else acc) n l
noncomputable def FXI (out:Xp→Int→PV) (pre:Xp→Int→Prop):List PV→Option PV:=zH (α:=Xp×Int) (fun a=>[.agg a.1.enc,int a.2]) (fun a=>pre a.1 a.2) (fun a=>out a.1 a.2)
theorem Yv (out:Xp→Int→PV) (pre:Xp→Int→Prop) (x:Xp) (n:Int) (hp:Hp) (nx:Nat) (h:pre x n):zd false [] (FXI out pre) [.agg x.enc,int n] hp nx=some (out x n,hp,nx) :=
 zy (hp1:=hp) (show zj hp [.agg x.enc,int n]=some ([.agg x.enc,int n],hp) by simp only[zj,xQ];rfl) (zm (enc:=fun a:Xp×Int=>[.agg a.1.enc,int a.2]) (a:=(x,n)) (fun x y e=>by
  obtain⟨x1,x2⟩:=x;obtain⟨y1,y2⟩:=y
  simp only[List.cons.injEq,and_true,PV.agg.injEq] at e
  rw[xL e.1,zB e.2]) h) (.inr (by simp only[List.all_cons,VB];rfl))
theorem hasX_eval (x:Xp) (n:Int) (h:x.phases.length≤lim):∃r0,zi C0 f27 [.agg x.enc,int n]=some r0∧Stands r0 (.sl 2 ((hasG [] n x.phases).map encS)):=by
 refine qz rfl ?_
 unfold lim at h
 rw[zw]
 simp
 refine zq (fun k σ hp nx=>σ 1=int n∧σ 9=.sl 2 (x.phases.map Phs.enc)∧σ 10=int x.phases.length∧σ 11=int k∧∃d,(σ 5=.sl 2 (d.map encS)∨(σ 5=.nil∧d=[]))∧hasG [] n x.phases=hasG d n (x.phases.drop k)) x.phases.length
  ⟨by simp,by simp,by simp,by simp,[],.inr ⟨by simp,rfl⟩,by simp⟩ ?_
 rintro k σ hp nx hk ⟨h1,h9,h10,h11,d,hd,he⟩
 by_cases hlt:k<x.phases.length
 ·obtain⟨p,hp0⟩:∃p,x.phases[k]=p:=⟨_,rfl⟩
  rw[List.drop_eq_getElem_cons hlt,hp0] at he
  simp only[hasG] at he
  have hw:IntKind.i64.wrap ((k:Int)+1)=(k:Int)+1:=zc (by omega) (by omega)
  by_cases hc:p.at_≤n
  ·rw[if_pos hc] at he
   simp[h1,h9,h10,h11,hlt,hp0,Phs.enc,hc,hw]
   exact⟨by omega,p.spans,rfl,he⟩
  ·rw[if_neg hc] at he
   simp[h1,h9,h10,h11,hlt,hp0,Phs.enc,hc,hw]
   exact⟨by omega,d,hd,he⟩
 ·obtain rfl:k=x.phases.length:=by omega
  rw[List.drop_length] at he
  simp only[hasG] at he
  rw[he]
  rcases hd with hd | ⟨hd,rfl⟩
  ·simp[h1,h9,h10,h11,hd,f27]
   exact⟨_,by simp,.refl _⟩
  ·simp[h1,h9,h10,h11,hd,f27]
   exact⟨_,by simp,.nilOr (.inl ⟨rfl,rfl⟩)⟩
theorem KO:za prog 27 (zd false [] (FXI (fun x n=>.sl 2 ((hasG [] n x.phases).map encS)) fun x _=>x.phases.length≤lim)) :=
 yw (fn:=f27) qA ⟨_,func27,by kernel_rfl,rfl,by kernel_rfl⟩ false [] _ fun args r h w S vs hz=>by
  obtain⟨⟨x,n⟩,rfl,hx,rfl⟩:=ze h
  obtain⟨r0,h1,h2⟩:=hasX_eval x n hx
  exact⟨_,r0,hz,by simp[f27],h1,h2⟩
def allS (args:List PV):Option PV:=if args.isEmpty then some (.sl 2 [[int 0,int 100000]]) else none
theorem everythingL_sound:za prog 67 (zd false [] allS) :=
 zI (fn:=f67) qA ⟨_,func67,by kernel_rfl,rfl,by kernel_rfl⟩ false [] _ fun args r h=>by
  cases args with
  | nil =>
    injection h with h
    subst h
    have hbs:∀hp nx,zf prog hp nx 36 1 [(0,.agg [int 0,int 100000])]=some (.own nx 0 1,upd hp nx (some ⟨41,2,true,[[int 0,int 100000]]⟩),nx+1):=fun hp nx=>by
     simp[zf,zn,zg]
    exact⟨Nat.zero_le _,_,zb rfl (by simp[zt,zM,hbs,qi,f67]),zG _⟩
  | cons x l=>cases h
theorem everythingL_call (hp:Hp) (nx:Nat):zd false [] allS [] hp nx=some (.sl 2 [[int 0,int 100000]],hp,nx):=zy (hp1:=hp) rfl rfl (.inr rfl)
noncomputable abbrev togF:List PV→Option PV:=FP (fun l=>.sl 2 ((togL (yy l)).map encS)) fun l=>Small l∧l.length≤1048576
theorem togK_sound:za prog 68 (zd true [2] togF) :=
 yw (fn:=f68) (zk (q:=[]) mixed ⟨cloneS_sound,by simp,sortS_sound,by simp,trivial⟩:AM.Good Ctg _) ⟨_,func68,by kernel_rfl,rfl,by kernel_rfl⟩ true [2] _ fun args r h w S vs hz=>by
  obtain⟨l,rfl,hx,rfl⟩:=ze h
  obtain⟨u,rfl,hr⟩:=vL hz
  obtain⟨y,hy,hr2⟩:=Vh hr
  obtain⟨r0,h1,h2⟩:=together_eval l (yy l) hx.1 hx.2 (Z7 hx.1).1 y hy
  exact⟨_,r0,.cons hr2 .nil,Nat.le_trans (Nat.le_refl 1) (by decide),h1,h2⟩
theorem togK_call {hp:Hp} {nx:Nat} {v:PV} {d:List Sp} (hO:OwnS hp nx 41 2 v (d.map encS)) (h:Small d) (hl:d.length≤1048576):∃hp',zd true [2] togF [v] hp nx=some (.sl 2 ((togL (yy d)).map encS),hp',nx):=by
 have hs:togF [.sl 2 (d.map encS)]=some (.sl 2 ((togL (yy d)).map encS)):=zm (enc:=fun l:List Sp=>[PV.sl 2 (l.map encS)]) (a:=d) (fun a b e=>by simp only[List.cons.injEq,and_true] at e;exact wP e) ⟨h,hl⟩
 rcases hO with⟨rfl,h0⟩ | ⟨id,hid,rfl,hh⟩
 ·have hd:d=[]:=by simpa using h0
  subst hd
  exact⟨hp,zy (hp1:=hp) rfl hs (.inr rfl)⟩
 ·refine⟨upd hp id none,?_⟩
  have hf:zj hp [.own id 0 (d.map encS).length]=some ([.sl 2 (d.map encS)],upd hp id none):=by
   simp[hh]
   rw[List.take_of_length_le (by simp)]
  unfold zd
  rw[hf]
  simp only
  rw[show qc [2] [PV.sl 2 (d.map encS)]=[.sl 2 (d.map encS)] from rfl,hs]
  simp[PV.noOwn]
theorem vV:za prog 30 (zd false [] (FIb ji)) :=
 zI (fn:=f30) qA ⟨_,func30,by kernel_rfl,rfl,by kernel_rfl⟩ false [] _ fun args r h=>by
  obtain⟨a,rfl,rfl⟩:=xK h
  exact⟨by simp[f30],_,zb rfl (by simp[ji,inB,f30]),zG _⟩
theorem salt_ref (s:List UInt8):(zS 33 126 s&&(!(s==[])&&decide ((s.length:Int)≤40)))=Z8 s:=by
 cases s with
 | nil=>rfl
 | cons c s=>rw[Bool.eq_iff_iff];simp[Z8,WW,inB];exact⟨fun h=>⟨⟨by omega,h.2⟩,h.1,by omega,by omega⟩,fun h=>⟨h.2.1,h.1.2⟩⟩
theorem rIsSalt_eval (l:List UInt8) (hl:l.length≤lim):zi C0 f156 [str l]=some (boo (Z8 l)):=by
 refine zb rfl ?_
 unfold lim at hl
 rw[←salt_ref]
 simp
 refine zq (fun k σ hp nx=>σ 0=str l∧σ 5=int l.length∧σ 6=int k∧zS 33 126 l=zS 33 126 (l.drop k)) l.length ⟨by simp,by simp,by simp,by simp⟩ ?_
 rintro k σ hp nx hk ⟨h0,h5,h6,he⟩
 by_cases hlt:k<l.length
 ·have hw:IntKind.i64.wrap ((k:Int)+1)=(k:Int)+1:=zc (by omega) (by omega)
  rw[yF hlt] at he
  have ho:=WV 33 126 l[k]
  simp only[Int.cast_ofNat_Int] at ho
  cases hc:pr 33 126 l[k]
  ·have he:zS 33 126 l=false:=by rw[he,hc];rfl
   simp[h0,h5,h6,hlt,he,ho,hc,f156]
  ·simp[h0,h5,h6,hlt,ho,hc,hw]
   exact⟨hlt,by rw[he,hc];rfl⟩
 ·obtain rfl:k=l.length:=by omega
  have he:zS 33 126 l=true:=by rw[he,List.drop_length];rfl
  simp[h0,h5,h6,he,f156]
theorem vW:za prog 156 (zd false [] (FS Z8)) :=
 zI (fn:=f156) qA ⟨_,func156,by kernel_rfl,rfl,by kernel_rfl⟩ false [] _ fun args r h=>by
  obtain⟨l,rfl,hp,rfl⟩:=ze h
  exact⟨by simp[f156],_,rIsSalt_eval l hp,zG _⟩
def jF (name before:List UInt8) (first:Bool):Int:=if qj name=true then (if (!first&&leB name before)=true then 8 else 0) else 5
noncomputable def FNb (f:List UInt8→List UInt8→Bool→PV):List PV→Option PV:=zH (α:=List UInt8×List UInt8×Bool) (fun a=>[str a.1,str a.2.1,boo a.2.2]) (fun a=>a.1.length≤lim) (fun a=>f a.1 a.2.1 a.2.2)
theorem VF (f:List UInt8→List UInt8→Bool→PV) (a b:List UInt8) (c:Bool) (hp:Hp) (nx:Nat) (h:a.length≤lim) (hf:(f a b c).flat=true):zd false [] (FNb f) [str a,str b,boo c] hp nx=some (f a b c,hp,nx) :=
 zy rfl (zm (enc:=fun a:List UInt8×List UInt8×Bool=>[str a.1,str a.2.1,boo a.2.2]) (a:=(a,b,c)) (fun x y e=>by
  obtain⟨x1,x2,x3⟩:=x;obtain⟨y1,y2,y3⟩:=y
  simp only[List.cons.injEq,and_true] at e
  rw[zV e.1,zV e.2.1,kg e.2.2]) h) (.inl hf)
noncomputable abbrev Cnd4:Ctx:=zF prog [(57,zd false [] (FS qj))]
theorem Qa:za prog 155 (zd false [] (FNb fun a b c=>int (jF a b c))) :=
 zI (fn:=f155) (zk (q:=[]) mixed ⟨vO,by simp,trivial⟩:AM.Good Cnd4 _) ⟨_,func155,by kernel_rfl,rfl,by kernel_rfl⟩ false [] _ fun args r h=>by
  obtain⟨⟨a,b,c⟩,rfl,ha,rfl⟩:=ze h
  have hle:(Op.bytesLess a b||a==b)=leB a b:=rfl
  refine⟨by simp[f155],_,zb rfl ?_,zG _⟩
  simp only at ha
  cases h1:qj a
  ·simp[ha,h1,jF,f155]
  ·cases c
   ·cases h2:leB a b
    ·simp[ha,h1,hle,h2,jF,f155]
    ·simp[ha,h1,hle,h2,jF,f155]
   ·simp[ha,h1,jF,f155]
def wQ (s:List UInt8):List Lyr→Option Lyr
 | []=>none
 | x::l=>if x.name=s then some x else wQ s l
def QN:Option Lyr→PV
 | some x=>.tup [.agg x.enc,boo true]
 | none=>.tup [.agg [str [],str [],int 0],boo false]
noncomputable def FBS (out:Bk→List UInt8→PV):List PV→Option PV:=zH (α:=Bk×List UInt8) (fun a=>[.agg a.1.enc,str a.2]) (fun a=>a.1.cb≤lim) (fun a=>out a.1 a.2)
theorem QO (out:Bk→List UInt8→PV) (b:Bk) (s:List UInt8) (hp:Hp) (nx:Nat) (h:b.cb≤lim):zd false [] (FBS out) [.agg b.enc,str s] hp nx=some (out b s,hp,nx) :=
 zy (hp1:=hp) (show zj hp [.agg b.enc,str s]=some ([.agg b.enc,str s],hp) by simp only[zj,jw];rfl) (zm (enc:=fun a:Bk×List UInt8=>[.agg a.1.enc,str a.2]) (a:=(b,s)) (fun x y e=>by
  obtain⟨x1,x2⟩:=x;obtain⟨y1,y2⟩:=y
  simp only[List.cons.injEq,and_true,PV.agg.injEq] at e
  rw[QM e.1,zV e.2]) h) (.inr (by simp only[List.all_cons,Zs];rfl))
theorem rLayerOf_eval (b:Bk) (s:List UInt8) (h:b.cb≤lim):zi C0 f69 [.agg b.enc,str s]=some (QN (wQ s b.layers)):=by
 refine zb rfl ?_
 have hleL:=zN jh b.layers
 have hbc:b.cb=sumB Lyr.cb b.layers+sumB Hld.cb b.holds+sumB Xp.cb b.exps:=rfl
 unfold lim at h
 simp[Bk.enc]
 refine zq (fun k σ hp nx=>σ 1=str s∧σ 4=.ref 1 0 0∧2≤nx∧hp 1=some ⟨74,3,false,[[str [],str [],int 0]]⟩∧σ 9=.sl 3 (b.layers.map Lyr.enc)∧σ 10=int b.layers.length∧σ 11=int k∧wQ s b.layers=wQ s (b.layers.drop k)) b.layers.length
  ⟨by simp,by simp,by simp,by simp,by simp,by simp,by simp,by simp⟩ ?_
 rintro k σ hp nx hk ⟨h1,h4,hnx,b1,h9,h10,h11,he⟩
 have n1:¬1=nx:=by omega
 have n1':¬nx=1:=by omega
 by_cases hlt:k<b.layers.length
 ·obtain⟨x,hx⟩:∃x,b.layers[k]=x:=⟨_,rfl⟩
  have hw:IntKind.i64.wrap ((k:Int)+1)=(k:Int)+1:=zc (by omega) (by omega)
  rw[List.drop_eq_getElem_cons hlt,hx] at he
  simp only[wQ] at he
  by_cases hc:x.name=s
  ·rw[if_pos hc] at he
   have hc':(x.name==s)=true:=by simpa using hc
   rw[he]
   simp[h1,h4,h9,h10,h11,hlt,hx,Lyr.enc,b1,n1,n1',hc',QN,qi,f69]
  ·rw[if_neg hc] at he
   have hc':(x.name==s)=false:=by simpa using hc
   simp[h1,h4,h9,h10,h11,hlt,hx,Lyr.enc,b1,n1,n1',hc',hw]
   exact⟨by omega,by omega,he⟩
 ·obtain rfl:k=b.layers.length:=by omega
  rw[List.drop_length] at he
  simp only[wQ] at he
  rw[he]
  simp[h1,h4,h9,h10,h11,b1,QN,qi,zt,zM,f69]
set_option maxRecDepth 100000 in
theorem jm:za prog 69 (zd false [] (FBS fun b s=>QN (wQ s b.layers))) :=
 zI (fn:=f69) qA ⟨_,func69,by kernel_rfl,rfl,by kernel_rfl⟩ false [] _ fun args r h=>by
  obtain⟨⟨b,s⟩,rfl,hx,rfl⟩:=ze h
  exact⟨by simp[f69],_,rLayerOf_eval b s hx,zG _⟩
def atI (s:List UInt8):Nat→List Xp→Int
 | _,[]=>-1
 | k,x::l=>if x.name=s then k else atI s (k+1) l
theorem rAt_eval (b:Bk) (s:List UInt8) (h:b.cb≤lim):zi C0 f29 [.agg b.enc,str s]=some (int (atI s 0 b.exps)):=by
 refine zb rfl ?_
 have hlen:=zN xM b.exps
 have hbc:b.cb=sumB Lyr.cb b.layers+sumB Hld.cb b.holds+sumB Xp.cb b.exps:=rfl
 unfold lim at h
 simp[Bk.enc]
 refine zq (fun k σ hp nx=>σ 1=str s∧σ 8=.sl 13 (b.exps.map Xp.enc)∧σ 9=int b.exps.length∧σ 10=int k∧atI s 0 b.exps=atI s k (b.exps.drop k)) b.exps.length
  ⟨by simp,by simp,by simp,by simp,by simp⟩ ?_
 rintro k σ hp nx hk ⟨h1,h8,h9,h10,he⟩
 by_cases hlt:k<b.exps.length
 ·obtain⟨x,hx⟩:∃x,b.exps[k]=x:=⟨_,rfl⟩
  have hw:IntKind.i64.wrap ((k:Int)+1)=(k:Int)+1:=zc (by omega) (by omega)
  rw[List.drop_eq_getElem_cons hlt,hx] at he
  simp only[atI] at he
  by_cases hc:x.name=s
  ·rw[if_pos hc] at he
   have hc':(x.name==s)=true:=by simpa using hc
   simp[h1,h8,h9,h10,hlt,hx,zw,hc',he,f29]
  ·rw[if_neg hc] at he
   have hc':(x.name==s)=false:=by simpa using hc
   simp[h1,h8,h9,h10,hlt,hx,zw,hc',hw]
   exact⟨by omega,he⟩
 ·obtain rfl:k=b.exps.length:=by omega
  rw[List.drop_length] at he
  simp only[atI] at he
  simp[h1,h8,h9,h10,he,f29]
set_option maxRecDepth 100000 in
theorem rAt_sound:za prog 29 (zd false [] (FBS fun b s=>int (atI s 0 b.exps))) :=
 zI (fn:=f29) qA ⟨_,func29,by kernel_rfl,rfl,by kernel_rfl⟩ false [] _ fun args r h=>by
  obtain⟨⟨b,s⟩,rfl,hx,rfl⟩:=ze h
  exact⟨by simp[f29],_,rAt_eval b s hx,zG _⟩
def idxT (v:List UInt8):Nat→List (List UInt8)→Int
 | _,[]=>-1
 | k,s::l=>if v=s then k else idxT v (k+1) l
theorem zbP (v:List UInt8):∀(l:List (List UInt8)) (k:Nat),decide (0≤idxT v k l)=decide (v∈l)
 | [],k=>by simp[idxT]
 | s::l,k=>by
   by_cases h:v=s
   ·have e:idxT v k (s::l)=k:=by simp only[idxT,if_pos h]
    rw[e];simp[h]
   ·have e:idxT v k (s::l)=idxT v (k+1) l:=by simp only[idxT,if_neg h]
    rw[e,zbP v l (k+1)];simp[h]
noncomputable def FTS (out:List (List UInt8)→List UInt8→PV):List PV→Option PV:=zH (α:=List (List UInt8)×List UInt8) (fun a=>[.sl 1 (encT a.1),str a.2]) (fun a=>a.1.length≤lim) (fun a=>out a.1 a.2)
theorem zdT:∀a b:List (List UInt8)×List UInt8,[PV.sl 1 (encT a.1),str a.2]=[PV.sl 1 (encT b.1),str b.2]→a=b:=by
 rintro⟨a1,a2⟩ ⟨b1,b2⟩ e
 simp only[List.cons.injEq,and_true] at e
 obtain⟨e1,e2⟩:=e
 injection e1 with _ e1
 rw[yk e1,zV e2]
theorem zbQ (out:List (List UInt8)→List UInt8→PV) (l:List (List UInt8)) (v:List UInt8) (hp:Hp) (nx:Nat) (h:l.length≤lim):zd false [1] (FTS out) [.sl 1 (encT l),str v] hp nx=some (out l v,hp,nx) :=
 zy rfl (zm (enc:=fun a:List (List UInt8)×List UInt8=>[PV.sl 1 (encT a.1),str a.2]) (a:=(l,v)) zdT h) (.inr rfl)
theorem zdb (out:List (List UInt8)→List UInt8→PV) {l:List (List UInt8)} {v:List UInt8} {hp:Hp} {nx e:Nat} {x:PV} (hO:OwnS hp nx e 1 x (encT l)) (h:l.length≤lim) (hf:(out l v).flat=true):zd false [1] (FTS out) [x,str v] hp nx=some (out l v,hp,nx):=by
 have hs:FTS out [.sl 1 (encT l),str v]=some (out l v):=zm (enc:=fun a:List (List UInt8)×List UInt8=>[PV.sl 1 (encT a.1),str a.2]) (a:=(l,v)) zdT h
 rcases hO with⟨rfl,h0⟩ | ⟨id,hid,rfl,hh⟩
 ·have hl:l=[]:=by simpa[encT] using h0
  subst hl
  exact zy (hp1:=hp) rfl hs (.inl hf)
 ·exact zy (hp1:=upd hp id none) (show zj hp [.own id 0 (encT l).length,str v]=some ([.sl 1 (encT l),str v],upd hp id none) by
   simp[hh]
   try rw[List.take_of_length_le (by simp)]) hs (.inl hf)
theorem idxT_eval (l:List (List UInt8)) (v:List UInt8) (h:l.length≤lim):zi C0 f225 [.sl 1 (encT l),str v]=some (int (idxT v 0 l)):=by
 refine zb rfl ?_
 unfold lim at h
 have hel:(encT l).length=l.length:=by simp[encT]
 simp[hel]
 refine zq (fun k σ hp nx=>σ 0=.sl 1 (encT l)∧σ 1=str v∧σ 7=int l.length∧σ 8=int k∧idxT v 0 l=idxT v k (l.drop k)) l.length ⟨by simp,by simp,by simp,by simp,by simp⟩ ?_
 rintro k σ hp nx hk ⟨h0,h1,h7,h8,he⟩
 by_cases hlt:k<l.length
 ·obtain⟨s,hs⟩:∃s,l[k]=s:=⟨_,rfl⟩
  have hw:IntKind.i64.wrap ((k:Int)+1)=(k:Int)+1:=zc (by omega) (by omega)
  have hke:∀h:k<(encT l).length,(encT l)[k]=[str s]:=fun h=>by simp[encT,hs]
  have hle:k<(encT l).length:=by omega
  rw[List.drop_eq_getElem_cons hlt,hs] at he
  simp only[idxT] at he
  by_cases hc:v=s
  ·rw[if_pos hc] at he
   have hc':(v==s)=true:=by simpa using hc
   simp[h0,h1,h7,h8,hlt,hel,hle,hke,hc',he,f225]
  ·rw[if_neg hc] at he
   have hc':(v==s)=false:=by simpa using hc
   simp[h0,h1,h7,h8,hlt,hel,hle,hke,hc',hw]
   exact⟨by omega,he⟩
 ·obtain rfl:k=l.length:=by omega
  rw[List.drop_length] at he
  simp only[idxT] at he
  simp[h0,h1,h7,h8,he,f225]
theorem idxT_sound:za prog 225 (zd false [1] (FTS fun l v=>int (idxT v 0 l))) :=
 zI (fn:=f225) qA ⟨_,func225,by kernel_rfl,rfl,by kernel_rfl⟩ false [1] _ fun args r h=>by
  obtain⟨⟨l,v⟩,rfl,hx,rfl⟩:=ze h
  exact⟨by simp[f225],_,idxT_eval l v hx,zG _⟩
noncomputable abbrev Cctt:Ctx:=zF prog [(225,zd false [1] (FTS fun l v=>int (idxT v 0 l)))]
theorem kx:za prog 157 (zd false [1] (FTS fun l v=>boo (decide (v∈l)))) :=
 zI (fn:=f157) (zk (q:=[]) mixed ⟨idxT_sound,by simp,trivial⟩:AM.Good Cctt _) ⟨_,func157,by kernel_rfl,rfl,by kernel_rfl⟩ false [1] _ fun args r h=>by
  obtain⟨⟨l,v⟩,rfl,hx,rfl⟩:=ze h
  have hc:=fun hp nx=>zbQ (fun l v=>int (idxT v 0 l)) l v hp nx hx
  have hm:=zbP v l 0
  exact⟨by simp[f157],_,zb rfl (by simp[hc,hm,f157]),zG _⟩
end Go.Proofs.YtdkfdoeijcfbhaaGreatDoor
