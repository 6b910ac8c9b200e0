/-
Segments: the names of a condition, one after the other; what is known; circles.
-/
import Derived.Test.YtjcofiomfmebkaaGreatDoorG25
import Derived.Test.YtjcofiomfmebkaaGreatDoorG16
import Derived.Test.YtjcofiomfmebkaaGreatDoorG23
import Derived.Test.YtjcofiomfmebkaaGreatDoorG19
import Derived.Test.YtjcofiomfmebkaaGreatDoorG17
import Derived.Test.YtjcofiomfmebkaaGreatDoorG12
import Derived.Lib.TrimByte
set_option maxRecDepth 8000
namespace Go.Proofs.YtjcofiomfmebkaaGreatDoor
open Go.Proofs.Tryz
open Go.RowKit Go.AM
noncomputable def zed (g:Nat) (sp:AM.Spec):Nat→AM.Spec
 | 0=>fun _ _ _=>none
 | k+1=>yf (zC prog [(40,zed g sp k),(g,sp)]) f40
theorem xb {f:FuncId} (hfn:∃fn,prog.funcs[f]?=some fn∧(fn.name== "runtime.NumGoroutine")=false∧fn.body.isNone=false):za prog f (fun _ _ _=>none):=⟨hfn,fun _ _ _ _ _ _ h=>by cases h⟩
set_option maxRecDepth 100000 in
theorem YO {g:Nat} {sp:AM.Spec} (h:za prog g sp):∀k,za prog 40 (zed g sp k)
 | 0=>xb ⟨_,func40,by kernel_rfl,by kernel_rfl⟩
 | k+1=>zX (code:=_) (zk (q:=[]) (l:=[(40,zed g sp k),(g,sp)]) mixed ⟨YO h k,by simp,h,by simp,trivial⟩) ⟨func40,by kernel_rfl,rfl,by kernel_rfl⟩
def wT {σ:Type} (T:Nat→Prop) (Rep:σ→Hp→Prop) (r:PV) (s:σ) (hp:Hp) (nx:Nat) (x:PV) (hp':Hp) (nx':Nat):Prop:=x=r∧Rep s hp'∧nx≤nx'∧∀j,j<nx→¬T j→hp' j=hp j
theorem xc {S α:Type} {f:S→α→Bool×S} {s:S} {a:α} {l:List α} (h:(f s a).1=true):qo f s (a::l)=(true,(f s a).2):=by rw[qo,if_pos h]
theorem kO {S α:Type} {f:S→α→Bool×S} {s:S} {a:α} {l:List α} (h:(f s a).1=false):qo f s (a::l)=qo f (f s a).2 l:=by rw[qo,if_neg (by simp[h])]
theorem WT {α:Type} (f:α→Bool):∀l:List α,(qo (fun (_:Unit) n=>(f n,())) () l).1=l.any f
 | []=>rfl
 | a::l=>by
   cases h:f a
   ·simp[qo,h,WT f l]
   ·simp[qo,h]
theorem zee {f:Cnd→Bool}:∀l:List Cnd,(qo (fun (_:Unit) n=>(!f n,())) () l).1=!(l.all f)
 | []=>rfl
 | a::l=>by
   cases h:f a
   ·simp[qo,h]
   ·simp[qo,h,zee l]
set_option maxHeartbeats 2000000 in
theorem zbX {σ:Type} {T:Nat→Prop} {Rep:σ→Hp→Prop} {step:σ→List UInt8→Bool×σ} {Q:List UInt8→Prop} {g:Nat} {sp:AM.Spec} {cap:List PV} {nx0:Nat} (hgn:¬g=40)
  (hT:∀j,T j→j<nx0) (hR:∀s hp j b,nx0≤j→Rep s hp→Rep s (upd hp j b))
  (hS:∀s n hp nx,Q n→n.length≤lim→nx0≤nx→Rep s hp→∃x hp' nx',sp (str n::cap) hp nx=some (x,hp',nx')∧wT T Rep (boo (!(step s n).1)) (step s n).2 hp nx x hp' nx') :
  ∀(k:Nat) (c:Cnd) (s:σ) (hp:Hp) (nx:Nat),c.cb≤k→c.cb≤lim→(∀n∈c.names,Q n)→nx0≤nx→Rep s hp →
   ∃x hp' nx',zed g sp k [.agg c.enc,.fn (.func g) [] cap] hp nx=some (x,hp',nx')∧wT T Rep (boo (!(qo step s c.names).1)) (qo step s c.names).2 hp nx x hp' nx'
 | 0,c,_,_,_,h,_,_,_,_=>absurd h (by have:=Vh c;omega)
 | k+1,c,s,hp0,nx1,hk,hl,hq,hn1,hr0=>by
   have hcb:=xF c
   have hal:=wJ c.args
   have hnm:=jn c
   unfold zed yf
   rw[if_pos (by simp[f40])]
   refine zM rfl ?_
   have hl':=hl
   unfold lim at hl'
   have hrb:Rep s (upd hp0 nx1 (some ⟨41,7,false,[c.enc]⟩)):=hR _ _ _ _ hn1 hr0
   have hTn:¬T nx1:=fun h=>by have:=hT _ h;omega
   refine yv (fun σ hp nx=>σ 1=.fn (.func g) [] cap∧σ 2=.ref nx1 0 0∧hp=upd hp0 nx1 (some ⟨41,7,false,[c.enc]⟩)∧nx=nx1+1) (by simp) ?_
   rintro σ hp nx ⟨h1,h2,rfl,rfl⟩
   refine yv (fun σ hp nx=>σ 1=.fn (.func g) [] cap∧σ 2=.ref nx1 0 0∧nx1<nx∧hp nx1=some ⟨41,7,false,[c.enc]⟩∧∃s1,Rep s1 hp∧(∀j,j<nx1→¬T j→hp j=hp0 j)∧qo step s c.names=qo step s1 (namesC c.args)) ?_ ?_
   ·by_cases h5:c.kind=5
    ·rw[if_pos h5] at hnm
     obtain⟨x,hp2,nx2,e1,rfl,r2,n2,f2⟩:=hS s c.name _ (nx1+1) (hq c.name (by rw[hnm];simp)) (by unfold lim;omega) (by omega) hrb
     cases hst:(step s c.name).1
     ·rw[hst] at e1
      simp[h1,h2,h5,hgn,e1]
      refine⟨by omega,by rw[f2 nx1 (by omega) hTn];simp,(step s c.name).2,r2,fun j hj hn=>by rw[f2 j (by omega) hn,zq _ _ _ _ (by omega)],?_⟩
      rw[hnm]
      exact kO hst
     ·rw[hst] at e1
      have hv:qo step s c.names=(true,(step s c.name).2):=by rw[hnm];exact xc hst
      simp[h1,h2,h5,hgn,e1,wT,hv,f40]
      exact⟨r2,by omega,fun j hj hn=>by rw[f2 j (by omega) hn,zq _ _ _ _ (by omega)]⟩
    ·rw[if_neg h5,List.nil_append] at hnm
     have h5':(c.kind==5)=false:=by simpa using h5
     simp[h1,h2,h5']
     exact⟨s,hrb,fun j hj hn=>by rw[zq _ _ _ _ (by omega)],by rw[hnm]⟩
   rintro σ hp nx ⟨h1,h2,hn2,hb,s1,r1,fr1,he1⟩
   simp[h2,hb]
   refine zu (fun k σ hp nx=>σ 1=.fn (.func g) [] cap∧σ 18=.sl 7 (c.args.map Cnd.enc)∧σ 19=int c.args.length∧σ 20=int k∧nx1<nx∧(∀j,j<nx1→¬T j→hp j=hp0 j)∧∃s2,Rep s2 hp∧qo step s c.names=qo step s2 (namesC (c.args.drop k))) c.args.length
    ⟨by simp[h1],by simp,by simp,by simp,hn2,fr1,s1,r1,by simpa using he1⟩ ?_
   clear h1 h2 hn2 hb r1 fr1 he1 s1 σ hp nx
   rintro i σ hp nx hi ⟨h1,h18,h19,h20,hn2,fr1,s1,r1,he1⟩
   by_cases hlt:i<c.args.length
   ·have hm:=jl (List.getElem_mem hlt)
    have hw:IntKind.i64.wrap ((i:Int)+1)=(i:Int)+1:=zc (by omega) (by omega)
    have hqx:∀n∈c.args[i].names,Q n:=fun n hn=>hq n (by rw[hnm];exact List.mem_append.2 (.inr (namesC_mem.2 ⟨_,List.getElem_mem hlt,hn⟩)))
    obtain⟨x,hp2,nx2,e1,rfl,r2,n2,f2⟩:=zbX hgn hT hR hS k c.args[i] s1 (upd hp nx (some ⟨41,7,false,[c.args[i].enc]⟩)) (nx+1) (by omega) (by unfold lim;omega) hqx (by omega) (hR _ _ _ _ (by omega) r1)
    rw[zf8 hlt,zd7] at he1
    have hf2:∀j,j<nx1→¬T j→hp2 j=hp0 j:=fun j hj hn=>by rw[f2 j (by omega) hn,zq _ _ _ _ (by omega)];exact fr1 j hj hn
    cases hst:(qo step s1 c.args[i].names).1
    ·rw[hst,if_neg (by simp)] at he1
     rw[hst] at e1
     simp[h1,h18,h19,h20,hlt,e1,hw]
     exact⟨by omega,by omega,hf2,_,r2,he1⟩
    ·rw[hst,if_pos rfl] at he1
     rw[hst] at e1
     simp[h1,h18,h19,h20,hlt,e1,wT,he1,f40]
     exact⟨r2,by omega,hf2⟩
   ·obtain rfl:i=c.args.length:=by omega
    rw[List.drop_length] at he1
    simp only[namesC,qo] at he1
    simp[h1,h18,h19,h20,wT,he1,f40]
    exact⟨r1,by omega,fr1⟩
@[simp] theorem str_len (s:Str):s.enc.length=11:=rfl
@[simp] theorem str_take (s:Str):s.enc.take 11=s.enc:=List.take_of_length_le (by simp)
noncomputable def zmr (Ta:Tab):AM.Spec:=yf (zC prog Ta) f203
noncomputable def zpg (Ta:Tab):AM.Spec:=yf (zC prog [(203,zmr Ta)]) f155
set_option maxRecDepth 100000 in
theorem zjB {Ta:Tab} (h:ziI True prog [] Ta):za prog 203 (zmr Ta):=zX (code:=_) (zk (q:=[]) mixed h) ⟨func203,by kernel_rfl,rfl,by kernel_rfl⟩
set_option maxRecDepth 100000 in
theorem zjC {Ta:Tab} (h:ziI True prog [] Ta):za prog 155 (zpg Ta):=zX (code:=_) (zk (q:=[]) (l:=[(203,zmr Ta)]) mixed ⟨zjB h,by simp,trivial⟩) ⟨func155,by kernel_rfl,rfl,by kernel_rfl⟩
theorem zph {σ:Type} {T:Nat→Prop} {Rep:σ→Hp→Prop} {step:σ→Str→Bool×σ} {Ta:Tab} {g:Nat} {sp:AM.Spec} {fi cap:List PV} {nx0:Nat} (hg:lookup Ta g=some sp) (xs:List Str) (hl:xs.length≤lim)
  (hS:∀s x hp nx,x∈xs→nx0≤nx→Rep s hp→∃r hp' nx',sp (fi++.agg x.enc::cap) hp nx=some (r,hp',nx')∧wT T Rep (boo (step s x).1) (step s x).2 hp nx r hp' nx')
  (s0:σ) (hp0:Hp) (nx1:Nat) (hn:nx0≤nx1) (hr:Rep s0 hp0) :
  ∃r hp' nx',zpg Ta [.sl 11 (xs.map Str.enc),.fn (.func g) fi cap] hp0 nx1=some (r,hp',nx')∧wT T Rep (boo (qo step s0 xs).1) (qo step s0 xs).2 hp0 nx1 r hp' nx':=by
 have key:∃r hp' nx',zmr Ta [.sl 11 (xs.map Str.enc),.fn (.func g) fi cap] hp0 nx1=some (r,hp',nx')∧∃z:Int,r=int z∧decide (0≤z)=(qo step s0 xs).1∧wT T Rep (int z) (qo step s0 xs).2 hp0 nx1 r hp' nx':=by
  unfold zmr yf
  rw[if_pos (by simp[f203])]
  refine zM rfl ?_
  unfold lim at hl
  simp
  refine zu (fun k σ hp nx=>σ 0=.sl 11 (xs.map Str.enc)∧σ 1=.fn (.func g) fi cap∧σ 7=int xs.length∧σ 8=int k∧nx1≤nx∧(∀j,j<nx1→¬T j→hp j=hp0 j)∧∃s,Rep s hp∧qo step s0 xs=qo step s (xs.drop k)) xs.length ⟨by simp,by simp,by simp,by simp,Nat.le_refl _,fun _ _ _=>rfl,s0,hr,by simp⟩ ?_
  rintro k σ hp nx hk ⟨h0,h1,h7,h8,hnx,hfr,s,hrs,he⟩
  by_cases hlt:k<xs.length
  ·have hw:IntKind.i64.wrap ((k:Int)+1)=(k:Int)+1:=zc (by omega) (by omega)
   obtain⟨x,hx⟩:∃x,xs[k]=x:=⟨_,rfl⟩
   obtain⟨r,hp2,nx2,e1,rfl,r2,n2,f2⟩:=hS s x hp nx (by rw[←hx];exact List.getElem_mem hlt) (by omega) hrs
   rw[List.drop_eq_getElem_cons hlt,hx] at he
   have hf2:∀j,j<nx1→¬T j→hp2 j=hp0 j:=fun j hj ht=>by rw[f2 j (by omega) ht];exact hfr j hj ht
   cases hst:(step s x).1
   ·rw[kO hst] at he
    rw[hst] at e1
    simp[h0,h1,h7,h8,hlt,hx,hg,e1,hw]
    exact⟨by omega,by omega,hf2,_,r2,he⟩
   ·rw[xc hst] at he
    rw[hst] at e1
    simp[h0,h1,h7,h8,hlt,hx,hg,e1,he,wT,f203]
    exact⟨r2,by omega,hf2⟩
  ·obtain rfl:k=xs.length:=by omega
   rw[List.drop_length] at he
   simp only[qo] at he
   simp[h0,h1,h7,h8,he,wT,f203]
   exact⟨hrs,hnx,hfr⟩
 obtain⟨r,hp',nx',e1,z,rfl,hz,_,k2,k3,k4⟩:=key
 unfold zpg yf
 rw[if_pos (by simp[f155])]
 refine zM rfl ?_
 simp[e1,hz,wT,f155]
 exact⟨k2,k3,k4⟩
def hsP (a b:List UInt8):PV:=boo (Lib.hasSuffix a b)
theorem Vv (a b:List UInt8) (h1:a.length≤lim) (h2:b.length≤lim):zg Cw0 f139 [str a,str b]=some (hsP a b):=by
 refine zb rfl ?_
 have hs:=Lib.hasSuffix_of_drop a b
 unfold lim at h1 h2
 by_cases h:b.length≤a.length
 ·rw[decide_eq_true h,Bool.true_and] at hs
  have w1:IntKind.i64.wrap ((a.length:Int) - b.length)=((a.length - b.length:Nat):Int):=by rw[zc (by omega) (by omega)];omega
  have e2:(a.drop (a.length - b.length)).take (a.length - (a.length - b.length))=a.drop (a.length - b.length):=List.take_of_length_le (by simp)
  simp[h,w1,hsP,←hs,e2,f139]
 ·rw[decide_eq_false h,Bool.false_and] at hs
  have h':¬((b.length:Int)≤a.length):=by omega
  simp[h,h',hsP,←hs,f139]
theorem JJ:za prog 139 (zd false [] (FTT hsP fun _ _=>True)) :=
 zL (fn:=f139) zlb ⟨_,func139,by kernel_rfl,rfl,by kernel_rfl⟩ false [] _ fun args r h=>by
  obtain⟨a,b,rfl,h1,h2,_,rfl⟩:=wP h
  exact⟨by simp[f139],_,Vv a b h1 h2,zK _⟩
theorem zge (a b:List UInt8) (hp:Hp) (nx:Nat) (h:a.length≤lim) (h2:b.length≤lim):zd false [] (FTT hsP fun _ _=>True) [str a,str b] hp nx=some (boo (Lib.hasSuffix a b),hp,nx):=wq _ _ a b hp nx h h2 trivial rfl
noncomputable abbrev zwT:Ctx:=zC prog [(139,zd false [] (FTT hsP fun _ _=>True))]
theorem ZM:za prog 110 (zd false [] (FTT hsP fun _ _=>True)) :=
 zL (fn:=f110) (zk (q:=[]) mixed ⟨JJ,by simp,trivial⟩:AM.Good zwT _) ⟨_,func110,by kernel_rfl,rfl,by kernel_rfl⟩ false [] _ fun args r h=>by
  obtain⟨a,b,rfl,h1,h2,_,rfl⟩:=wP h
  exact⟨by simp[f110],_,zb rfl (by simp[zge,h1,h2,hsP,f110]),zK _⟩
noncomputable def FCu (f:Cut→PV):List PV→Option PV:=zJ (α:=Cut) (fun c=>[.agg c.enc]) (fun c=>c.v.small) f
theorem zhP (f:Cut→PV) (c:Cut) (hp:Hp) (nx:Nat) (h:c.v.small) (hf:(f c).flat=true):zd false [] (FCu f) [.agg c.enc] hp nx=some (f c,hp,nx) :=
 zH (hp1:=hp) (show zj hp [.agg c.enc]=some ([.agg c.enc],hp) by simp[Cut.enc]) (zm (enc:=fun c:Cut=>[PV.agg c.enc]) (a:=c) (fun a b e=>by
  simp only[List.cons.injEq,and_true,PV.agg.injEq] at e
  exact jg e) h) (.inl hf)
def vG (c:Cut):Bool:=c.v.a==0&&(c.v.b==0&&(c.v.c==0&&((c.v.pre.length:Int)==0&&!c.after)))
theorem zgf (c:Cut):zg Cw0 f202 [.agg c.enc]=some (boo (vG c)):=by
 refine zb rfl ?_
 obtain⟨⟨x,y,z,p⟩,f⟩:=c
 by_cases h1:x=0
 case neg =>
  have h1':(x==0)=false:=by simpa using h1
  simp[Cut.enc,h1',vG,f202]
 by_cases h2:y=0
 case neg =>
  have h2':(y==0)=false:=by simpa using h2
  simp[Cut.enc,h1,h2',vG,f202]
 by_cases h3:z=0
 case neg =>
  have h3':(z==0)=false:=by simpa using h3
  simp[Cut.enc,h1,h2,h3',vG,f202]
 cases h4:((p.length:Int)==0)
 ·simp[Cut.enc,h1,h2,h3,h4,vG,f202]
 ·cases f<;>simp[Cut.enc,h1,h2,h3,h4,vG,f202]
theorem zef:za prog 202 (zd false [] (FCu fun c=>boo (vG c))) :=
 zL (fn:=f202) zlb ⟨_,func202,by kernel_rfl,rfl,by kernel_rfl⟩ false [] _ fun args r h=>by
  obtain⟨c,rfl,_,rfl⟩:=ze h
  exact⟨by simp[f202],_,zgf c,zK _⟩
noncomputable def zgg (v:Ver) (c:Cut):Bool:=decide (0<vU v c.v)||(vU v c.v==0&&!c.after)
noncomputable def FVC (f:Ver→Cut→PV):List PV→Option PV:=zJ (α:=Ver×Cut) (fun a=>[.agg a.1.enc,.agg a.2.enc]) (fun a=>a.1.small∧a.2.v.small) (fun a=>f a.1 a.2)
theorem zhQ (f:Ver→Cut→PV) (v:Ver) (c:Cut) (hp:Hp) (nx:Nat) (h:v.small) (h2:c.v.small) (hf:(f v c).flat=true):zd false [] (FVC f) [.agg v.enc,.agg c.enc] hp nx=some (f v c,hp,nx) :=
 zH (hp1:=hp) (show zj hp [.agg v.enc,.agg c.enc]=some ([.agg v.enc,.agg c.enc],hp) by simp[Cut.enc,Ver.enc]) (zm (enc:=fun a:Ver×Cut=>[PV.agg a.1.enc,.agg a.2.enc]) (a:=(v,c)) (fun a b e=>by
  obtain⟨a1,a2⟩:=a;obtain⟨b1,b2⟩:=b
  simp only[List.cons.injEq,and_true,PV.agg.injEq] at e
  rw[vi e.1,jg e.2]) ⟨h,h2⟩) (.inl hf)
theorem zgh (v:Ver) (c:Cut) (h:v.small) (h2:c.v.small):zg Ccu f157 [.agg v.enc,.agg c.enc]=some (boo (zgg v c)):=by
 refine zb rfl ?_
 have hcv:=fun hp nx=>zfx v c.v hp nx h h2
 simp only[Ver.enc] at hcv
 by_cases h1:0<vU v c.v
 ·simp[Cut.enc,Ver.enc,hcv,h1,zgg,f157]
 by_cases h3:vU v c.v=0
 ·cases h4:c.after<;>simp[Cut.enc,Ver.enc,hcv,h3,h4,zgg,f157]
 ·have h3':(vU v c.v==0)=false:=by simpa using h3
  simp[Cut.enc,Ver.enc,hcv,h1,h3',zgg,f157]
theorem zeg:za prog 157 (zd false [] (FVC fun v c=>boo (zgg v c))) :=
 zL (fn:=f157) zp7 ⟨_,func157,by kernel_rfl,rfl,by kernel_rfl⟩ false [] _ fun args r h=>by
  obtain⟨⟨v,c⟩,rfl,⟨h1,h2⟩,rfl⟩:=ze h
  exact⟨by simp[f157],_,zgh v c h1 h2,zK _⟩
noncomputable def jN (s:Str):Int:=if s.endless=true then (if vG s.hi=true then 0 else 3) else if wV s.hi.v=0 then (if 0≤qx s.lo s.hi then 8 else 0) else wV s.hi.v
noncomputable def jW (p:Option Str) (s:Str):Bool:=match p with
 | none=>false
 | some q=>q.endless||decide (0≤qx q.hi s.lo)
noncomputable def zjD:Option Str→List Str→Int
 | _,[]=>0
 | p,s::l=>if wV s.lo.v=0 then (if jN s=0 then (if jW p s=true then 8 else zjD (some s) l) else jN s) else wV s.lo.v
theorem zeh {l:List Str} {k:Nat} (h:k<l.length) (p:Option Str):zjD p (l.drop k)=if wV l[k].lo.v=0 then (if jN l[k]=0 then (if jW p l[k]=true then 8 else zjD (some l[k]) (l.drop (k+1))) else jN l[k]) else wV l[k].lo.v:=by
 rw[List.drop_eq_getElem_cons h,zjD]
def Qg (l:List Str) (k:Nat):Option Str:=if k=0 then none else l[k - 1]?
noncomputable def xh (l:List Str):Int:=if (100:Int)<l.length then 2 else zjD none l
noncomputable def inS (v:Ver) (s:Str):Bool:=zgg v s.lo&&(s.endless||!zgg v s.hi)
noncomputable abbrev zvp:Ctx:=zC prog [(145,zG [.g jP] (FVr fun v=>int (wV v))),(202,zd false [] (FCu fun c=>boo (vG c))),(199,zG [.g y8,.g y8] (FCC fun v w=>int (qx v w)))]
theorem zrU:AM.Good zvp (fun g=>[199].contains g):=zk mixed ⟨jf,by simp,zef,by simp,yt,fun _=>qv _ _,trivial⟩
theorem zms:xP zvp (fun g=>[199].contains g) 154 f154:=⟨_,func154,by kernel_rfl,rfl,by kernel_rfl⟩
theorem xI (v:Ver) (hp:Hp) (nx:Nat) (h:v.small):zG [.g jP] (FVr fun v=>int (wV v)) [.agg v.enc] hp nx=some (int (wV v),hp,nx):=za1 (fun v=>int (wV v)) v (.agg v.enc) hp hp nx (.agg v.enc) (by simp[Ver.enc]) (by simp[Ver.enc]) h rfl
set_option maxHeartbeats 2000000 in
theorem Vw (l:List Str) (hl:qK l):zg zvp f154 [.sl 11 (zN l)]=some (int (xh l)):=by
 obtain⟨hlen,hsm⟩:=hl
 unfold lim at hlen
 have hel:(zN l).length=l.length:=by simp[zN]
 have hke:∀(k:Nat) (h:k<(zN l).length) (h':k<l.length),(zN l)[k]=l[k].enc:=fun k h h'=>by simp[zN]
 refine zb rfl ?_
 by_cases c0:(100:Int)<l.length
 ·have hv:xh l=2:=by unfold xh;rw[if_pos c0]
  simp[hel,c0,hv,f154]
 simp[hel,c0]
 refine zu (fun k σ hp nx=>σ 0=.sl 11 (zN l)∧σ 10=.sl 11 (zN l)∧σ 11=int l.length∧σ 12=int k∧zjD none l=zjD (Qg l k) (l.drop k)) l.length ⟨by simp,by simp,by simp,by simp,by simp[Qg]⟩ ?_
 rintro k σ hp nx hk ⟨h0,h10,h11,h12,he⟩
 by_cases hlt:k<l.length
 ·have hw:IntKind.i64.wrap ((k:Int)+1)=(k:Int)+1:=zc (by omega) (by omega)
  obtain⟨s,hs⟩:∃s,l[k]=s:=⟨_,rfl⟩
  have hss:=hsm s (by rw[←hs];exact List.getElem_mem hlt)
  have hlt2:k<(zN l).length:=by omega
  have hkk:=hke k hlt2 hlt
  rw[hs] at hkk
  have hpv:Qg l (k+1)=some s:=by simp[Qg,hlt,hs]
  have g1:=fun hp nx=>xI s.lo.v hp nx hss.1
  have g2:=fun hp nx=>xI s.hi.v hp nx hss.2
  have g3:=fun hp nx=>zhP (fun c=>boo (vG c)) s.hi hp nx hss.2 rfl
  have g4:=fun hp nx=>jD s.lo s.hi hp nx hss.1 hss.2
  simp only[Ver.enc,Cut.enc] at g1 g2 g3 g4
  rw[zeh hlt,hs] at he
  by_cases d1:wV s.lo.v=0
  case neg =>
   rw[if_neg d1] at he
   have d1':(wV s.lo.v != 0)=true:=by simpa using d1
   have hv:xh l=wV s.lo.v:=by unfold xh;rw[if_neg c0,he]
   simp[h0,h10,h11,h12,hel,hlt,hlt2,hkk,Str.enc,Cut.enc,g1,d1',hv,f154]
  rw[if_pos d1] at he
  by_cases d2:jN s=0
  case neg =>
   rw[if_neg d2] at he
   have hv:xh l=jN s:=by unfold xh;rw[if_neg c0,he]
   cases e1:s.endless
   ·by_cases e2:wV s.hi.v=0
    ·by_cases e3:0≤qx s.lo s.hi
     ·have hf:jN s=8:=by unfold jN;rw[e1,if_neg (by simp),if_pos e2,if_pos e3]
      simp[h0,h10,h11,h12,hel,hlt,hlt2,hkk,Str.enc,Cut.enc,g1,g2,g4,d1,e1,e2,e3,hv,hf,f154]
     ·exact absurd (by unfold jN;rw[e1,if_neg (by simp),if_pos e2,if_neg e3]) d2
    ·have e2':(wV s.hi.v != 0)=true:=by simpa using e2
     have hf:jN s=wV s.hi.v:=by unfold jN;rw[e1,if_neg (by simp),if_neg e2]
     simp[h0,h10,h11,h12,hel,hlt,hlt2,hkk,Str.enc,Cut.enc,g1,g2,d1,e1,e2',hv,hf,f154]
   ·cases e2:vG s.hi
    ·have hf:jN s=3:=by unfold jN;rw[e1,if_pos rfl,e2,if_neg (by simp)]
     simp[h0,h10,h11,h12,hel,hlt,hlt2,hkk,Str.enc,Cut.enc,g1,g3,d1,e1,e2,hv,hf,f154]
    ·exact absurd (by unfold jN;rw[e1,if_pos rfl,e2,if_pos rfl]) d2
  rw[if_pos d2] at he
  have hen:(s.endless=true∧vG s.hi=true)∨(s.endless=false∧wV s.hi.v=0∧¬0≤qx s.lo s.hi):=by
   unfold jN at d2
   cases e1:s.endless
   ·rw[e1,if_neg (by simp)] at d2
    by_cases e2:wV s.hi.v=0
    ·rw[if_pos e2] at d2
     by_cases e3:0≤qx s.lo s.hi
     ·rw[if_pos e3] at d2;omega
     ·exact .inr ⟨rfl,e2,e3⟩
    ·rw[if_neg e2] at d2;exact absurd d2 e2
   ·rw[e1,if_pos rfl] at d2
    cases e2:vG s.hi
    ·rw[e2,if_neg (by simp)] at d2;omega
    ·exact .inl ⟨rfl,rfl⟩
  by_cases k0:k=0
  ·subst k0
   have w1:IntKind.i64.wrap 1=1:=zc (by omega) (by omega)
   simp only[Qg,jW,if_true,Bool.false_eq_true,if_false] at he
   have hfin:zjD none l=zjD (Qg l 1) l.tail:=by rw[he,hpv];simp
   rcases hen with⟨e1,e2⟩ | ⟨e1,e2,e3⟩
   ·simp[h0,h10,h11,h12,hel,hlt,hlt2,hkk,Str.enc,Cut.enc,g1,g3,d1,e1,e2,w1]
    exact⟨by omega,hfin⟩
   ·simp[h0,h10,h11,h12,hel,hlt,hlt2,hkk,Str.enc,Cut.enc,g1,g2,g4,d1,e1,e2,e3,w1]
    exact⟨by omega,hfin⟩
  ·obtain⟨j,rfl⟩:∃j,k=j+1:=⟨k - 1,by omega⟩
   have hj:j<l.length:=by omega
   have hj2:j<(zN l).length:=by omega
   obtain⟨q,hq⟩:∃q,l[j]=q:=⟨_,rfl⟩
   have hqq:=hsm q (by rw[←hq];exact List.getElem_mem hj)
   have hkj:=hke j hj2 hj
   rw[hq] at hkj
   have wj:IntKind.i64.wrap ((j:Int)+1 - 1)=(j:Int):=by rw[zc (by omega) (by omega)];omega
   have wj':IntKind.i64.wrap (j:Int)=(j:Int):=zc (by omega) (by omega)
   have j1:((j:Int)+1).toNat=j+1:=by omega
   have j2:0<(j:Int)+1:=by omega
   have j3:0≤(j:Int)+1:=by omega
   have j4:(j:Int)+1<l.length:=by omega
   have wk:IntKind.i64.wrap ((j:Int)+1+1)=(j:Int)+1+1:=zc (by omega) (by omega)
   have hpj:Qg l (j+1)=some q:=by simp[Qg,hj,hq]
   have g5:=fun hp nx=>jD q.hi s.lo hp nx hqq.2 hss.1
   simp only[Cut.enc] at g5
   rw[hpj] at he
   cases o1:q.endless
   ·by_cases o2:0≤qx q.hi s.lo
    ·have ho:jW (some q) s=true:=by simp[jW,o2]
     rw[ho,if_pos rfl] at he
     have hv:xh l=8:=by unfold xh;rw[if_neg c0,he]
     rcases hen with⟨e1,e2⟩ | ⟨e1,e2,e3⟩
     ·simp[h0,h10,h11,h12,hel,hlt,hlt2,hkk,hj,hj2,hkj,Str.enc,Cut.enc,g1,g3,g5,d1,e1,e2,o1,o2,wj,wj',j1,j2,j3,j4,hv,f154]
     ·simp[h0,h10,h11,h12,hel,hlt,hlt2,hkk,hj,hj2,hkj,Str.enc,Cut.enc,g1,g2,g4,g5,d1,e1,e2,e3,o1,o2,wj,wj',j1,j2,j3,j4,hv,f154]
    ·have ho:jW (some q) s=false:=by simp[jW,o1];omega
     rw[ho,if_neg (by simp)] at he
     rcases hen with⟨e1,e2⟩ | ⟨e1,e2,e3⟩
     ·simp[h0,h10,h11,h12,hel,hlt,hlt2,hkk,hj,hj2,hkj,Str.enc,Cut.enc,g1,g3,g5,d1,e1,e2,o1,o2,wj,wj',j1,j2,j3,j4,wk]
      exact⟨by omega,by rw[he,hpv]⟩
     ·simp[h0,h10,h11,h12,hel,hlt,hlt2,hkk,hj,hj2,hkj,Str.enc,Cut.enc,g1,g2,g4,g5,d1,e1,e2,e3,o1,o2,wj,wj',j1,j2,j3,j4,wk]
      exact⟨by omega,by rw[he,hpv]⟩
   ·have ho:jW (some q) s=true:=by simp[jW,o1]
    rw[ho,if_pos rfl] at he
    have hv:xh l=8:=by unfold xh;rw[if_neg c0,he]
    rcases hen with⟨e1,e2⟩ | ⟨e1,e2,e3⟩
    ·simp[h0,h10,h11,h12,hel,hlt,hlt2,hkk,hj,hj2,hkj,Str.enc,Cut.enc,g1,g3,d1,e1,e2,o1,wj,wj',j1,j2,j3,j4,hv,f154]
    ·simp[h0,h10,h11,h12,hel,hlt,hlt2,hkk,hj,hj2,hkj,Str.enc,Cut.enc,g1,g2,g4,d1,e1,e2,e3,o1,wj,wj',j1,j2,j3,j4,hv,f154]
 ·obtain rfl:k=l.length:=by omega
  rw[List.drop_length] at he
  have hv:xh l=0:=by unfold xh;rw[if_neg c0,he];rfl
  simp[h0,h10,h11,h12,hv,f154]
noncomputable def FRs (f:List Str→PV):List PV→Option PV:=zJ (α:=List Str) (fun l=>[.sl 11 (zN l)]) qK f
theorem zhR (f:List Str→PV) (l:List Str) (hp:Hp) (nx:Nat) (h:qK l) (hf:(f l).flat=true):zd false [] (FRs f) [.sl 11 (zN l)] hp nx=some (f l,hp,nx) :=
 zH rfl (zm (enc:=fun l:List Str=>[PV.sl 11 (zN l)]) (a:=l) (fun a b e=>by
  simp only[List.cons.injEq,and_true] at e
  injection e with _ e
  exact yu e) h) (.inl hf)
theorem JK:za prog 154 (zd false [] (FRs fun l=>int (xh l))) :=
 zL (fn:=f154) zrU zms false [] _ fun args r h=>by
  obtain⟨l,rfl,h1,rfl⟩:=ze h
  exact⟨Nat.le_trans (Nat.le_refl 1) (by decide),_,Vw l h1,zK _⟩
noncomputable abbrev zwn:Ctx:=zC prog [(157,zd false [] (FVC fun v c=>boo (zgg v c)))]
noncomputable abbrev ztR:AM.Spec:=yf zwn f156
set_option maxRecDepth 100000 in
theorem zmt:za prog 156 ztR:=zX (code:=_) (zk (q:=[]) mixed ⟨zeg,by simp,trivial⟩:AM.Good zwn _) ⟨func156,by kernel_rfl,rfl,by kernel_rfl⟩
def ztS (v:Ver):Blk:=⟨115,4,false,[v.enc]⟩
theorem zrV (v:Ver) (s:Str) (hv:v.small) (h1:s.lo.v.small) (h2:s.hi.v.small) (hp:Hp) (nx id:Nat) (hid:id<nx) (hh:hp id=some (ztS v)):ztR [.agg s.enc,.ref id 0 0] hp nx=some (boo (inS v s),upd hp nx (some ⟨164,11,false,[s.enc]⟩),nx+1):=by
 unfold ztR yf
 rw[if_pos (by simp[f156])]
 refine qB rfl ?_
 have g1:=fun hp nx=>zhQ (fun v c=>boo (zgg v c)) v s.lo hp nx hv h1 rfl
 have g2:=fun hp nx=>zhQ (fun v c=>boo (zgg v c)) v s.hi hp nx hv h2 rfl
 have e1:¬id=nx:=by omega
 simp only[ztS,Ver.enc] at hh
 simp only[Cut.enc,Ver.enc] at g1 g2
 cases b1:zgg v s.lo
 ·simp[Str.enc,Cut.enc,hh,e1,g1,b1,inS,f156]
 ·cases b2:s.endless
  ·simp[Str.enc,Cut.enc,hh,e1,g1,g2,b1,b2,inS,f156]
  ·simp[Str.enc,Cut.enc,hh,e1,g1,b1,b2,inS,f156]
noncomputable def zgi (v:Ver) (l:List Str):Bool×Int:=if wV v=0 then (if xh l=0 then (l.any (inS v),0) else (false,xh l)) else (false,wV v)
noncomputable def zeQ (v:Ver) (l:List Str):PV:=.tup [boo (zgi v l).1,int (zgi v l).2]
noncomputable def FVR (f:Ver→List Str→PV):List PV→Option PV:=zJ (α:=Ver×List Str) (fun a=>[.agg a.1.enc,.sl 11 (zN a.2)]) (fun a=>a.1.small∧qK a.2) (fun a=>f a.1 a.2)
theorem zhS (f:Ver→List Str→PV) (v:Ver) (l:List Str) (hp:Hp) (nx:Nat) (h:v.small) (h2:qK l) (hf:(f v l).flat=true):zd false [] (FVR f) [.agg v.enc,.sl 11 (zN l)] hp nx=some (f v l,hp,nx) :=
 zH (hp1:=hp) (show zj hp [.agg v.enc,.sl 11 (zN l)]=some ([.agg v.enc,.sl 11 (zN l)],hp) by simp[Ver.enc]) (zm (enc:=fun a:Ver×List Str=>[PV.agg a.1.enc,.sl 11 (zN a.2)]) (a:=(v,l)) (fun a b e=>by
  obtain⟨a1,a2⟩:=a;obtain⟨b1,b2⟩:=b
  simp only[List.cons.injEq,and_true,PV.agg.injEq] at e
  obtain⟨e1,e2⟩:=e
  injection e2 with _ e2
  rw[vi e1,yu e2]) ⟨h,h2⟩) (.inl hf)
noncomputable abbrev zwo:Tab:=[(156,ztR)]
noncomputable abbrev zwp:Ctx:=zC prog [(145,zG [.g jP] (FVr fun v=>int (wV v))),(154,zd false [] (FRs fun l=>int (xh l))),(155,zpg zwo)]
theorem zgj (v:Ver) (l:List Str) (hv:v.small) (hl:qK l):zg zwp f115 [.agg v.enc,.sl 11 (zN l)]=some (zeQ v l):=by
 refine zb rfl ?_
 have g1:=fun hp nx=>xI v hp nx hv
 have g2:=fun hp nx=>zhR (fun l=>int (xh l)) l hp nx hl rfl
 obtain⟨r,hp',nx',e1,rfl,_,_,_⟩:=zph (σ:=Unit) (T:=fun _=>False) (Rep:=fun _ hp=>hp 0=some (ztS v)) (step:=fun _ s=>(inS v s,())) (Ta:=zwo) (g:=156) (sp:=ztR) (fi:=[]) (cap:=[.ref 0 0 0]) (nx0:=1) (by simp) l hl.1
  (fun _ s hp nx hs hn hr=>⟨_,_,_,zrV v s hv (hl.2 s hs).1 (hl.2 s hs).2 hp nx 0 (by omega) hr,rfl,(zq _ _ _ _ (by omega)).trans hr,by omega,fun j hj _=>zq _ _ _ _ (by omega)⟩) () (upd (fun _=>none) 0 (some (ztS v))) 1 (Nat.le_refl _) (by simp)
 rw[WT] at e1
 simp only[ztS,Ver.enc] at e1
 rw[show l.map Str.enc=zN l from rfl] at e1
 simp only[Ver.enc] at g1
 by_cases c1:wV v=0
 case neg =>
  have c1':(wV v != 0)=true:=by simpa using c1
  have hw:zgi v l=(false,wV v):=by unfold zgi;rw[if_neg c1]
  simp[Ver.enc,g1,c1',zeQ,hw,qe,f115]
 by_cases c2:xh l=0
 case neg =>
  have c2':(xh l != 0)=true:=by simpa using c2
  have hw:zgi v l=(false,xh l):=by unfold zgi;rw[if_pos c1,if_neg c2]
  simp[Ver.enc,g1,c1,g2,c2',zeQ,hw,qe,f115]
 have hw:zgi v l=(l.any (inS v),0):=by unfold zgi;rw[if_pos c1,if_pos c2]
 simp[Ver.enc,g1,c1,g2,c2,e1,zeQ,hw,qe,f115]
theorem zbY:za prog 115 (zd false [] (FVR zeQ)) :=
 zL (fn:=f115) (zk (q:=[]) mixed ⟨jf,by simp,JK,by simp,zjC ⟨zmt,by simp,trivial⟩,by simp,trivial⟩:AM.Good zwp _) ⟨_,func115,by kernel_rfl,rfl,by kernel_rfl⟩ false [] _ fun args r h=>by
  obtain⟨⟨v,l⟩,rfl,⟨h1,h2⟩,rfl⟩:=ze h
  exact⟨by simp[f115],_,zgj v l h1 h2,zK _⟩
noncomputable def zmu (Ta:Tab):AM.Spec:=yf (zC prog Ta) f108
noncomputable def zpi (Ta:Tab):AM.Spec:=yf (zC prog [(108,zmu Ta)]) f79
set_option maxRecDepth 100000 in
theorem zjE {Ta:Tab} (h:ziI True prog [] Ta):za prog 108 (zmu Ta):=zX (code:=_) (zk (q:=[]) mixed h) ⟨func108,by kernel_rfl,rfl,by kernel_rfl⟩
set_option maxRecDepth 100000 in
theorem zjF {Ta:Tab} (h:ziI True prog [] Ta):za prog 79 (zpi Ta):=zX (code:=_) (zk (q:=[]) (l:=[(108,zmu Ta)]) mixed ⟨zjE h,by simp,trivial⟩) ⟨func79,by kernel_rfl,rfl,by kernel_rfl⟩
theorem zpj {σ:Type} {T:Nat→Prop} {Rep:σ→Hp→Prop} {step:σ→Val→Bool×σ} {Ta:Tab} {g:Nat} {sp:AM.Spec} {fi cap:List PV} {nx0:Nat} (hg:lookup Ta g=some sp) (xs:List Val) (hl:xs.length≤lim)
  (hS:∀s x hp nx,x∈xs→nx0≤nx→Rep s hp→∃r hp' nx',sp (fi++.agg x.enc::cap) hp nx=some (r,hp',nx')∧wT T Rep (boo (step s x).1) (step s x).2 hp nx r hp' nx')
  (s0:σ) (hp0:Hp) (nx1:Nat) (hn:nx0≤nx1) (hr:Rep s0 hp0) :
  ∃r hp' nx',zpi Ta [.sl 5 (xs.map Val.enc),.fn (.func g) fi cap] hp0 nx1=some (r,hp',nx')∧wT T Rep (boo (qo step s0 xs).1) (qo step s0 xs).2 hp0 nx1 r hp' nx':=by
 have key:∃r hp' nx',zmu Ta [.sl 5 (xs.map Val.enc),.fn (.func g) fi cap] hp0 nx1=some (r,hp',nx')∧∃z:Int,r=int z∧decide (0≤z)=(qo step s0 xs).1∧wT T Rep (int z) (qo step s0 xs).2 hp0 nx1 r hp' nx':=by
  unfold zmu yf
  rw[if_pos (by simp[f108])]
  refine zM rfl ?_
  unfold lim at hl
  simp
  refine zu (fun k σ hp nx=>σ 0=.sl 5 (xs.map Val.enc)∧σ 1=.fn (.func g) fi cap∧σ 7=int xs.length∧σ 8=int k∧nx1≤nx∧(∀j,j<nx1→¬T j→hp j=hp0 j)∧∃s,Rep s hp∧qo step s0 xs=qo step s (xs.drop k)) xs.length ⟨by simp,by simp,by simp,by simp,Nat.le_refl _,fun _ _ _=>rfl,s0,hr,by simp⟩ ?_
  rintro k σ hp nx hk ⟨h0,h1,h7,h8,hnx,hfr,s,hrs,he⟩
  by_cases hlt:k<xs.length
  ·have hw:IntKind.i64.wrap ((k:Int)+1)=(k:Int)+1:=zc (by omega) (by omega)
   obtain⟨x,hx⟩:∃x,xs[k]=x:=⟨_,rfl⟩
   obtain⟨r,hp2,nx2,e1,rfl,r2,n2,f2⟩:=hS s x hp nx (by rw[←hx];exact List.getElem_mem hlt) (by omega) hrs
   rw[List.drop_eq_getElem_cons hlt,hx] at he
   have hf2:∀j,j<nx1→¬T j→hp2 j=hp0 j:=fun j hj ht=>by rw[f2 j (by omega) ht];exact hfr j hj ht
   cases hst:(step s x).1
   ·rw[kO hst] at he
    rw[hst] at e1
    simp[h0,h1,h7,h8,hlt,hx,hg,e1,hw]
    exact⟨by omega,by omega,hf2,_,r2,he⟩
   ·rw[xc hst] at he
    rw[hst] at e1
    simp[h0,h1,h7,h8,hlt,hx,hg,e1,he,wT,f108]
    exact⟨r2,by omega,hf2⟩
  ·obtain rfl:k=xs.length:=by omega
   rw[List.drop_length] at he
   simp only[qo] at he
   simp[h0,h1,h7,h8,he,wT,f108]
   exact⟨hrs,hnx,hfr⟩
 obtain⟨r,hp',nx',e1,z,rfl,hz,_,k2,k3,k4⟩:=key
 unfold zpi yf
 rw[if_pos (by simp[f79])]
 refine zM rfl ?_
 simp[e1,hz,wT,f79]
 exact⟨k2,k3,k4⟩
end Go.Proofs.YtjcofiomfmebkaaGreatDoor
namespace Go.LikeLaw
inductive Lk:List UInt8→List UInt8→Prop
 | nil:Lk [] []
 | star0 {t p:List UInt8}:Lk t p→Lk t (42::p)
 | star1 {c:UInt8} {t p:List UInt8}:Lk t (42::p)→Lk (c::t) (42::p)
 | one {c q:UInt8} {t p:List UInt8}:q≠42→(q=63∨q=c)→Lk t p→Lk (c::t) (q::p)
theorem nil_right {t:List UInt8}:Lk t []↔t=[]:=by
 constructor
 ·intro h;cases h;rfl
 ·rintro rfl;exact .nil
theorem star_iff {t p:List UInt8}:Lk t (42::p)↔∃t1 t2,t=t1++t2∧Lk t2 p:=by
 constructor
 ·intro h
  generalize hq:(42::p:List UInt8)=q at h
  induction h with
  | nil=>cases hq
  | star0 h _=>cases hq;exact⟨[],_,rfl,h⟩
  | @star1 c t p' h ih =>
    obtain⟨t1,t2,rfl,h2⟩:=ih hq
    exact⟨c::t1,t2,rfl,h2⟩
  | one hne _ _=>cases hq;exact absurd rfl hne
 ·rintro⟨t1,t2,rfl,h⟩
  induction t1 with
  | nil=>exact .star0 h
  | cons c t1 ih=>exact .star1 ih
theorem Vx {c q:UInt8} {t p:List UInt8} (hq:q≠42):Lk (c::t) (q::p)↔(q=63∨q=c)∧Lk t p:=by
 constructor
 ·intro h
  cases h with
  | star0=>exact absurd rfl hq
  | star1=>exact absurd rfl hq
  | one _ h1 h2=>exact⟨h1,h2⟩
 ·rintro⟨h1,h2⟩;exact .one hq h1 h2
theorem WU {q:UInt8} {p:List UInt8} (hq:q≠42):¬Lk [] (q::p):=by
 intro h;cases h;exact hq rfl
theorem zrW {p:List UInt8}:Lk [] p↔∀q∈p,q=42:=by
 induction p with
 | nil=>simp[Lk.nil]
 | cons q p ih =>
   by_cases hq:q=42
   ·subst hq
    rw[star_iff]
    constructor
    ·rintro⟨t1,t2,h,h2⟩
     obtain⟨_,rfl⟩:=List.append_eq_nil_iff.1 h.symm
     simpa using ih.1 h2
    ·intro h
     exact⟨[],[],rfl,ih.2 fun x hx=>h x (by simp[hx])⟩
   ·constructor
    ·intro h;exact absurd h (WU hq)
    ·intro h;exact absurd (h q (by simp)) hq
theorem append {t1 p1 t2 p2:List UInt8} (h1:Lk t1 p1) (h2:Lk t2 p2):Lk (t1++t2) (p1++p2):=by
 induction h1 with
 | nil=>exact h2
 | star0 _ ih=>exact .star0 ih
 | star1 _ ih=>exact .star1 ih
 | one a b _ ih=>exact .one a b ih
theorem split {p2:List UInt8}:∀{p1 t:List UInt8},Lk t (p1++p2)→∃t1 t2,t=t1++t2∧Lk t1 p1∧Lk t2 p2
 | [],t,h=>⟨[],t,rfl,.nil,h⟩
 | q::p1,t,h=>by
   by_cases hq:q=42
   ·subst hq
    obtain⟨a,b,rfl,hb⟩:=star_iff.1 h
    obtain⟨t1,t2,rfl,h1,h2⟩:=split hb
    exact⟨a++t1,t2,by simp,star_iff.2 ⟨a,t1,rfl,h1⟩,h2⟩
   ·cases t with
    | nil=>exact absurd h (WU hq)
    | cons c t =>
      obtain⟨a,b⟩:=(Vx hq).1 h
      obtain⟨t1,t2,rfl,h1,h2⟩:=split b
      exact⟨c::t1,t2,rfl,.one hq a h1,h2⟩
theorem zpk (t:List UInt8):Lk t [42]:=star_iff.2 ⟨t,[],by simp,.nil⟩
theorem Vy {t p:List UInt8}:Lk t (p++[42])↔∃t1 t2,t=t1++t2∧Lk t1 p:=by
 constructor
 ·intro h
  obtain⟨t1,t2,e,h1,_⟩:=split h
  exact⟨t1,t2,e,h1⟩
 ·rintro⟨t1,t2,rfl,h⟩
  exact append h (zpk t2)
theorem zbZ {p:List UInt8}:Lk [] (p++[42])↔Lk [] p:=by
 rw[Vy]
 constructor
 ·rintro⟨t1,t2,e,h⟩
  obtain⟨rfl,_⟩:=List.append_eq_nil_iff.1 e.symm
  exact h
 ·intro h;exact⟨[],[],rfl,h⟩
theorem Xz {t p:List UInt8} {c:UInt8}:Lk (t++[c]) (p++[42])↔Lk (t++[c]) p∨Lk t (p++[42]):=by
 rw[Vy,Vy]
 constructor
 ·rintro⟨t1,t2,e,h⟩
  rcases List.eq_nil_or_concat t2 with rfl | ⟨t3,d,rfl⟩
  ·left
   have:t++[c]=t1:=by simpa using e
   rwa [this]
  ·right
   rw[List.concat_eq_append,←List.append_assoc] at e
   obtain⟨e1,e2⟩:=List.append_inj' e rfl
   exact⟨t1,t3,e1,h⟩
 ·rintro (h | ⟨t1,t2,rfl,h⟩)
  ·exact⟨t++[c],[],by simp,h⟩
  ·exact⟨t1,t2++[c],by simp,h⟩
theorem zei {p:List UInt8} {q:UInt8} (hq:q≠42):¬Lk [] (p++[q]):=by
 intro h
 obtain⟨t1,t2,e,_,h2⟩:=split h
 obtain⟨_,rfl⟩:=List.append_eq_nil_iff.1 e.symm
 exact WU hq h2
theorem zpl {t p:List UInt8} {c q:UInt8} (hq:q≠42):Lk (t++[c]) (p++[q])↔Lk t p∧(q=63∨q=c):=by
 constructor
 ·intro h
  obtain⟨t1,t2,e,h1,h2⟩:=split h
  cases t2 with
  | nil=>exact absurd h2 (WU hq)
  | cons d t2 =>
    obtain⟨a,b⟩:=(Vx hq).1 h2
    have:t2=[]:=nil_right.1 b
    subst this
    obtain⟨e1,e2⟩:=List.append_inj' e rfl
    obtain rfl:c=d:=by simpa using e2
    exact⟨e1 ▸ h1,a⟩
 ·rintro⟨h1,h2⟩
  exact append h1 (.one hq h2 .nil)
theorem seg {s:List UInt8} (hs:∀q∈s,q≠42) {p:List UInt8}:∀{t:List UInt8},Lk t (s++p)→s.length≤t.length∧Lk (t.drop s.length) p:=by
 induction s with
 | nil=>intro t h;exact⟨by simp,h⟩
 | cons q s ih =>
   intro t h
   have hq:q≠42:=hs q (by simp)
   cases t with
   | nil=>exact absurd h (WU hq)
   | cons c t =>
     obtain⟨_,b⟩:=(Vx hq).1 h
     obtain⟨h1,h2⟩:=ih (fun x hx=>hs x (by simp[hx])) b
     exact⟨by simp;omega,by simpa using h2⟩
structure Inv (t p:List UInt8) (star:Int) (fr i k:Nat):Prop where
 hi:i≤t.length
 hk:k≤p.length
 none_:star<0→star=-1∧(Lk t p↔Lk (t.drop i) (p.drop k))
 some_:0≤star→∃s,p.drop (star.toNat+1)=s++p.drop k∧star.toNat+1+s.length=k∧fr+s.length=i∧(∀q∈s,q≠42) ∧
  (∀r,Lk (t.drop i) r→Lk (t.drop fr) (s++r))∧(Lk t p↔∃f,fr≤f∧f≤t.length∧Lk (t.drop f) (p.drop (star.toNat+1)))
theorem Inv.start (t p:List UInt8):Inv t p (-1) 0 0 0:=⟨by simp,by simp,fun _=>⟨rfl,by simp⟩,fun h=>by omega⟩
theorem ZN {l:List UInt8} {k:Nat} (h:k<l.length):l.drop k=l[k]::l.drop (k+1):=List.drop_eq_getElem_cons h
theorem Inv.atStar {t p:List UInt8} {star:Int} {fr i k:Nat} (h:Inv t p star fr i k) (hk:k<p.length) (hq:p[k]=42):Inv t p k i i (k+1):=by
 have hd:=ZN hk
 rw[hq] at hd
 have key:Lk (t.drop i) (p.drop k)↔∃f,i≤f∧f≤t.length∧Lk (t.drop f) (p.drop (k+1)):=by
  rw[hd,star_iff]
  constructor
  ·rintro⟨t1,t2,e,h2⟩
   have hl:t1.length+t2.length=t.length - i:=by
    have:=congrArg List.length e
    simp at this
    omega
   refine⟨i+t1.length,by omega,by have:=h.hi;omega,?_⟩
   rw[←List.drop_drop,e]
   simpa using h2
  ·rintro⟨f,h1,h2,h3⟩
   refine⟨(t.drop i).take (f - i),t.drop f,?_,h3⟩
   rw[show t.drop f=(t.drop i).drop (f - i) by rw[List.drop_drop];congr 1;omega]
   exact (List.take_append_drop _ _).symm
 refine⟨h.hi,by omega,fun hh=>by omega,fun _=>⟨[],by simp,by simp,by simp,by simp,fun r hr=>by simpa using hr,?_⟩⟩
 have e1:(k:Int).toNat=k:=by simp
 rw[e1]
 by_cases hs:star<0
 ·rw[(h.none_ hs).2,key]
 ·obtain⟨s,s1,s2,s3,s4,s5,s6⟩:=h.some_ (by omega)
  rw[s6]
  constructor
  ·rintro⟨f,f1,f2,f3⟩
   rw[s1] at f3
   obtain⟨g1,g2⟩:=seg s4 f3
   rw[List.drop_drop] at g2
   simp at g1
   rw[hd,star_iff] at g2
   obtain⟨t1,t2,e,h2⟩:=g2
   have hl:t1.length+t2.length=t.length - (f+s.length):=by
    have:=congrArg List.length e
    simp at this
    omega
   refine⟨f+s.length+t1.length,by omega,by omega,?_⟩
   rw[←List.drop_drop,e]
   simpa using h2
  ·rintro hf
   exact⟨fr,Nat.le_refl _,by have:=h.hi;omega,by rw[s1];exact s5 _ (key.2 hf)⟩
theorem Inv.fit {t p:List UInt8} {star:Int} {fr i k:Nat} (h:Inv t p star fr i k) (hi:i<t.length) (hk:k<p.length) (hq:p[k]≠42) (hc:p[k]=63∨p[k]=t[i]):Inv t p star fr (i+1) (k+1):=by
 have hd:=ZN hk
 have ht:=ZN hi
 refine⟨by omega,by omega,fun hs=>⟨(h.none_ hs).1,?_⟩,fun hs=>?_⟩
 ·rw[(h.none_ hs).2,hd,ht,Vx hq]
  exact⟨fun h=>h.2,fun h=>⟨hc,h⟩⟩
 ·obtain⟨s,s1,s2,s3,s4,s5,s6⟩:=h.some_ hs
  refine⟨s++[p[k]],by rw[s1,hd];simp,by simp;omega,by simp;omega,?_,?_,s6⟩
  ·intro q hq'
   rcases List.mem_append.1 hq' with h | h
   ·exact s4 q h
   ·simp at h;rw[h];exact hq
  ·intro r hr
   rw[List.append_assoc]
   refine s5 _ ?_
   rw[ht]
   exact .one hq hc hr
theorem zvq {t p:List UInt8} {i k:Nat} (hi:i<t.length) (h:k<p.length→∀hk:k<p.length,p[k]≠42∧¬(p[k]=63∨p[k]=t[i])):¬Lk (t.drop i) (p.drop k):=by
 intro hl
 rw[ZN hi] at hl
 by_cases hk:k<p.length
 ·rw[ZN hk] at hl
  obtain⟨a,b⟩:=h hk hk
  exact b ((Vx a).1 hl).1
 ·rw[@List.drop_eq_nil_of_le _ p _ (by omega)] at hl
  cases hl
theorem Inv.none {t p:List UInt8} {star:Int} {fr i k:Nat} (h:Inv t p star fr i k) (hs:star<0) (hn:¬Lk (t.drop i) (p.drop k)):¬Lk t p:=by
 rw[(h.none_ hs).2];exact hn
theorem Inv.back {t p:List UInt8} {star:Int} {fr i k:Nat} (h:Inv t p star fr i k) (hi:i<t.length) (hs:0≤star) (hn:¬Lk (t.drop i) (p.drop k)):Inv t p star (fr+1) (fr+1) (star.toNat+1):=by
 obtain⟨s,s1,s2,s3,s4,s5,s6⟩:=h.some_ hs
 have hk:=h.hk
 refine⟨by omega,by omega,fun h=>by omega,fun _=>⟨[],by simp,by simp,by simp,by simp,fun r hr=>by simpa using hr,?_⟩⟩
 rw[s6]
 constructor
 ·rintro⟨f,f1,f2,f3⟩
  by_cases hf:f=fr
  ·subst hf
   rw[s1] at f3
   obtain⟨g1,g2⟩:=seg s4 f3
   rw[List.drop_drop,s3] at g2
   exact absurd g2 hn
  ·exact⟨f,by omega,f2,f3⟩
 ·rintro⟨f,f1,f2,f3⟩
  exact⟨f,by omega,f2,f3⟩
theorem Inv.done {t p:List UInt8} {star:Int} {fr i k:Nat} (h:Inv t p star fr i k) (hi:i=t.length):Lk t p↔∀q∈p.drop k,q=42:=by
 have e:t.drop i=[]:=List.drop_eq_nil_of_le (by omega)
 rw[←zrW]
 by_cases hs:star<0
 ·rw[(h.none_ hs).2,e]
 ·obtain⟨s,s1,s2,s3,s4,s5,s6⟩:=h.some_ (by omega)
  rw[s6,s1]
  constructor
  ·rintro⟨f,f1,f2,f3⟩
   obtain⟨g1,g2⟩:=seg s4 f3
   simp at g1
   rwa [List.drop_drop,List.drop_eq_nil_of_le (by omega)] at g2
  ·intro hl
   exact⟨fr,Nat.le_refl _,by omega,s5 _ (by rw[e];exact hl)⟩
def zns (n m:Nat) (star:Int) (fr i:Nat):Nat:=((m:Int) - star).toNat*((n+2)*(n+2))+(n - fr)*(n+2)+(n - i)
end Go.LikeLaw
namespace Go.Proofs.YtjcofiomfmebkaaGreatDoor
open Go.Proofs.Tryz
open Go.RowKit Go.AM Go.LikeLaw
theorem ztT (l:List UInt8):l.dropWhile (·==42)=[]↔∀q∈l,q=42:=by
 induction l with
 | nil=>simp
 | cons x l ih =>
   by_cases hx:x=42
   ·simp[hx,ih]
   ·simp[hx]
theorem zmv (l:List UInt8):Lib.trimB l 42=[]↔∀q∈l,q=42:=by
 unfold Lib.trimB Lib.trimLeftB Lib.trimRightB
 rw[ztT]
 constructor
 ·intro h
  have key:∀m:List UInt8,(∀q∈m.dropWhile (·==42),q=42)→∀q∈m,q=42:=by
   intro m
   induction m with
   | nil=>simp
   | cons x m ih =>
     by_cases hx:x=42
     ·subst hx
      simp only[List.dropWhile_cons,beq_self_eq_true,if_true]
      intro hm q hq
      rcases List.mem_cons.1 hq with rfl | hq
      ·rfl
      ·exact ih hm q hq
     ·have hxb:(x==42)=false:=by simpa using hx
      simp only[List.dropWhile_cons,hxb,Bool.false_eq_true,if_false]
      intro hm
      exact absurd (hm x (by simp)) hx
  intro q hq
  exact key l.reverse (fun q hq=>h q (by simpa using hq)) q (by simpa using hq)
 ·intro h q hq
  have hq':=List.mem_reverse.1 hq
  exact h q (List.mem_reverse.1 ((List.dropWhile_sublist _).mem hq'))
noncomputable abbrev Clk:Ctx:=zC prog [(141,zd false [] (FTT tbP fun _ b=>zle b))]
theorem ztU:AM.Good Clk (fun g=>[141].contains g):=zk mixed ⟨Kv,fun _=>zi _ _,trivial⟩
theorem zgk (a:List UInt8) (hp:Hp) (nx:Nat) (h:a.length≤lim):zd false [] (FTT tbP fun _ b=>zle b) [str a,str [42]] hp nx=some (str (Lib.trimB a 42),hp,nx):=wq _ _ a [42] hp nx h (by decide) ⟨42,rfl,by decide⟩ rfl
theorem zmw {n m:Nat} {star:Int} {fr i k:Nat} (h1:star<k) (h2:k<m):zns n m k i i<zns n m star fr i:=by
 unfold zns
 obtain⟨d,hd⟩:∃d:Nat,((m:Int) - star).toNat=((m:Int) - (k:Int)).toNat+1+d:=⟨((m:Int) - star).toNat - ((m:Int) - (k:Int)).toNat - 1,by omega⟩
 have e1:(((m:Int) - (k:Int)).toNat+1+d)*((n+2)*(n+2))=((m:Int) - (k:Int)).toNat*((n+2)*(n+2))+(n+2)*(n+2)+d*((n+2)*(n+2)):=by rw[Nat.add_mul (_+1) d,Nat.add_mul _ 1,Nat.one_mul]
 rw[hd,e1]
 have h3:(n - i)*(n+2)≤n*(n+2):=Nat.mul_le_mul_right _ (by omega)
 have h4:(n+2)*(n+2)=n*(n+2)+2*(n+2):=by rw[Nat.add_mul]
 omega
theorem zej {n m:Nat} {star:Int} {fr i:Nat} (h1:fr≤i) (h2:i<n):zns n m star (fr+1) (fr+1)<zns n m star fr i:=by
 unfold zns
 have:n - fr=(n - (fr+1))+1:=by omega
 have e1:(n - (fr+1)+1)*(n+2)=(n - (fr+1))*(n+2)+(n+2):=by rw[Nat.add_mul _ 1,Nat.one_mul]
 rw[this,e1]
 omega
theorem zhT {n m:Nat} {star:Int} {fr i:Nat} (h2:i<n):zns n m star fr (i+1)<zns n m star fr i:=by
 unfold zns
 omega
open Classical in
noncomputable def WV (t p:List UInt8):Bool:=decide (Lk t p)
theorem zgl {t p:List UInt8} (h:¬Lk t p):WV t p=false:=by simp[WV,h]
structure LInv (t p:List UInt8) (star:Int) (fr i k:Nat):Prop extends LikeLaw.Inv t p star fr i k where
 s0:-1≤star
 s1:star<k
 f1:fr≤i
theorem zmx (t p:List UInt8) (ht:t.length≤lim) (hp:p.length≤lim):zg Clk f112 [str t,str p]=some (boo (WV t p)):=by
 have hct:=zgk
 refine zb rfl ?_
 simp
 refine kX (fun st=>∃(star:Int) (fr i k:Nat),st.σ 0=str t∧st.σ 1=str p∧st.σ 5=int star∧st.σ 6=int fr∧st.σ 7=int i∧st.σ 8=int k∧LInv t p star fr i k)
  (fun st=>zns t.length p.length (Jp (st.σ 5)) (Jp (st.σ 6)).toNat (Jp (st.σ 7)).toNat) ⟨-1,0,0,0,by simp,by simp,by simp,by simp,by simp,by simp,LikeLaw.Inv.start t p,by omega,by omega,by omega⟩ ?_
 rintro⟨σ,hp,nx⟩ ⟨star,fr,i,k,h0,h1,h5,h6,h7,h8,hI⟩
 simp only at h0 h1 h5 h6 h7 h8
 have hk:=hI.hk
 have hil:=hI.hi
 have s0:=hI.s0
 have s1:=hI.s1
 have f1:=hI.f1
 unfold lim at *
 by_cases hi:i<t.length
 ·have hnf:(∀hk:k<p.length,p[k]≠42∧¬(p[k]=63∨p[k]=t[i]))→¬Lk (t.drop i) (p.drop k):=fun h=>zvq hi fun _=>h
  have bad:(∀hk:k<p.length,p[k]≠42∧¬(p[k]=63∨p[k]=t[i]))→(star<0→WV t p=false)∧(0≤star→LInv t p star (fr+1) (fr+1) (star.toNat+1)):=fun h =>
   ⟨fun hs=>zgl (hI.none hs (hnf h)),fun hs=>⟨hI.back hi hs (hnf h),by omega,by omega,by omega⟩⟩
  have wf:IntKind.i64.wrap ((fr:Int)+1)=((fr+1:Nat):Int):=by rw[zc (by omega) (by omega)];omega
  have wi:IntKind.i64.wrap ((i:Int)+1)=((i+1:Nat):Int):=by rw[zc (by omega) (by omega)];omega
  have wk:IntKind.i64.wrap ((k:Int)+1)=((k+1:Nat):Int):=by rw[zc (by omega) (by omega)];omega
  by_cases hk1:k<p.length
  ·by_cases hs:p[k]=42
   ·simp[h0,h1,h5,h6,h7,h8,hi,hk1,hs]
    exact⟨⟨i,rfl,i,rfl,k+1,wk,hI.atStar hk1 hs,by omega,by omega,by omega⟩,zmw hI.s1 hk1⟩
   ·have hsb:((p[k].toNat:Int)==42)=false:=by rw[show (42:Int)=((42:UInt8).toNat:Int) from rfl,zfe];simpa using hs
    by_cases hq:p[k]=63
    ·simp[h0,h1,h5,h6,h7,h8,hi,hk1,hq]
     exact⟨⟨fr,rfl,i+1,wi,k+1,wk,hI.fit hi hk1 hs (.inl hq),by omega,by omega,by omega⟩,by rw[wi];exact zhT hi⟩
    ·have hqb:((p[k].toNat:Int)==63)=false:=by rw[show (63:Int)=((63:UInt8).toNat:Int) from rfl,zfe];simpa using hq
     by_cases hc:p[k]=t[i]
     ·have hcb:((p[k].toNat:Int)==(t[i].toNat:Int))=true:=by rw[zfe];simp[hc]
      simp[h0,h1,h5,h6,h7,h8,hi,hk1,hsb,hqb,hcb]
      exact⟨⟨fr,rfl,i+1,wi,k+1,wk,hI.fit hi hk1 hs (.inr hc),by omega,by omega,by omega⟩,by rw[wi];exact zhT hi⟩
     ·have hcb:((p[k].toNat:Int)==(t[i].toNat:Int))=false:=by rw[zfe];simp[hc]
      obtain⟨b1,b2⟩:=bad fun _=>⟨hs,by simp[hq,hc]⟩
      by_cases hst:0≤star
      ·have ws:IntKind.i64.wrap (star+1)=((star.toNat+1:Nat):Int):=by rw[zc (by omega) (by omega)];omega
       simp[h0,h1,h5,h6,h7,h8,hi,hk1,hsb,hqb,hcb,hst]
       exact⟨⟨fr+1,wf,fr+1,wf,star.toNat+1,ws,b2 hst⟩,by rw[wf];exact zej f1 hi⟩
      ·simp[h0,h1,h5,h6,h7,h8,hi,hk1,hsb,hqb,hcb,hst,f112,b1 (by omega)]
  ·obtain⟨b1,b2⟩:=bad fun h=>absurd h hk1
   by_cases hst:0≤star
   ·have ws:IntKind.i64.wrap (star+1)=((star.toNat+1:Nat):Int):=by rw[zc (by omega) (by omega)];omega
    simp[h0,h1,h5,h6,h7,h8,hi,hk1,hst]
    exact⟨⟨fr+1,wf,fr+1,wf,star.toNat+1,ws,b2 hst⟩,by rw[wf];exact zej f1 hi⟩
   ·simp[h0,h1,h5,h6,h7,h8,hi,hk1,hst,f112,b1 (by omega)]
 ·have hd:=hI.done (by omega)
  have hl:(p.drop k).length≤lim:=by simp[lim];omega
  have hb:(Lib.trimB (p.drop k) 42).isEmpty=WV t p:=by
   rw[Bool.eq_iff_iff]
   simp only[List.isEmpty_iff,zmv,WV,decide_eq_true_eq,hd]
  have hl2:((p.drop k).take (p.length - k))=p.drop k:=List.take_of_length_le (by simp)
  simp[h0,h1,h5,h6,h7,h8,hi,hk,hl2,hb,hct (p.drop k) hp nx hl,f112]
noncomputable def zsM (a b:List UInt8):PV:=boo (WV a b)
theorem zjG:za prog 112 (zd false [] (FTT zsM fun _ _=>True)) :=
 zL (fn:=f112) ztU ⟨_,func112,by kernel_rfl,rfl,by kernel_rfl⟩ false [] _ fun args r h=>by
  obtain⟨a,b,rfl,h1,h2,_,rfl⟩:=wP h
  exact⟨by simp[f112],_,zmx a b h1 h2,zK _⟩
end Go.Proofs.YtjcofiomfmebkaaGreatDoor
