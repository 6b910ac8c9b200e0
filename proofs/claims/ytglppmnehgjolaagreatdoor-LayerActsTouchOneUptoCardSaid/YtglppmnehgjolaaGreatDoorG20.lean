/-
Books as data: their cells, their bulk.
The search by halves; the order of texts.
Books: names, salts, times, the search for a layer and an experiment.
Books: phases, what comes too near.
The checker: its salts, its layers, its holds.
-/
import Derived.Test.YtglppmnehgjolaaGreatDoorG18
import Derived.Test.YtglppmnehgjolaaGreatDoorG19
import Derived.Test.YtglppmnehgjolaaGreatDoorG13
import Derived.Test.YtglppmnehgjolaaGreatDoorG11
set_option maxRecDepth 8000
namespace Go.Proofs.YtglppmnehgjolaaGreatDoor
open Go.Proofs.Tryz
open Go.RowKit Go.AM Go.SpanLaw
structure Lyr where
 name:List UInt8
 salt:List UInt8
 rest:Int
def Lyr.enc (x:Lyr):List PV:=[str x.name,str x.salt,int x.rest]
theorem lyr_inj {a b:Lyr} (h:a.enc=b.enc):a=b:=by
 cases a;cases b
 simp only[Lyr.enc,List.cons.injEq,and_true] at h
 rw[qa h.1,qa h.2.1,zG h.2.2]
structure Hld where
 name:List UInt8
 salt:List UInt8
 buckets:Int
 layers:List (List UInt8)
def Hld.enc (x:Hld):List PV:=[str x.name,str x.salt,int x.buckets,.sl 1 (encT x.layers)]
theorem hld_inj {a b:Hld} (h:a.enc=b.enc):a=b:=by
 cases a;cases b
 simp only[Hld.enc,List.cons.injEq,and_true] at h
 obtain⟨h1,h2,h3,h4⟩:=h
 injection h4 with _ h4
 rw[qa h1,qa h2,zG h3,w9 h4]
structure Phs where
 at_:Int
 spans:List Sp
def Phs.enc (x:Phs):List PV:=[int x.at_,.sl 2 (x.spans.map encS)]
theorem phs_inj {a b:Phs} (h:a.enc=b.enc):a=b:=by
 cases a;cases b
 simp only[Phs.enc,List.cons.injEq,and_true] at h
 rw[zG h.1,wM h.2]
structure Xp where
 name:List UInt8
 layer:List UInt8
 flag:List UInt8
 cond:Cnd
 salt:List UInt8
 arms:List Rg
 phases:List Phs
def Xp.enc (x:Xp):List PV:=[str x.name,str x.layer,str x.flag]++x.cond.enc++[str x.salt,.sl 3 (x.arms.map encG),.sl 2 (x.phases.map Phs.enc)]
theorem zF (x:Xp):x.enc=[str x.name,str x.layer,str x.flag,int x.cond.kind,str x.cond.attr,int x.cond.op,.sl 5 (x.cond.vals.map Val.enc),str x.cond.pat,str x.cond.name,.sl 7 (x.cond.args.map Cnd.enc),str x.salt,.sl 3 (x.arms.map encG),.sl 2 (x.phases.map Phs.enc)]:=by
 unfold Xp.enc
 rw[qt]
 rfl
theorem vy {a b:Xp} (h:a.enc=b.enc):a=b:=by
 have hc:a.cond.enc=b.cond.enc:=by
  rw[zF,zF] at h
  simp only[List.cons.injEq,and_true] at h
  rw[qt,qt]
  simp only[List.cons.injEq,and_true]
  exact⟨h.2.2.2.1,h.2.2.2.2.1,h.2.2.2.2.2.1,h.2.2.2.2.2.2.1,h.2.2.2.2.2.2.2.1,h.2.2.2.2.2.2.2.2.1,h.2.2.2.2.2.2.2.2.2.1⟩
 have hc':=Za hc
 rw[zF,zF] at h
 simp only[List.cons.injEq,and_true] at h
 obtain⟨h1,h2,h3,_,_,_,_,_,_,_,h4,h5,h6⟩:=h
 cases a;cases b
 simp only at *
 injection h6 with _ h6
 rw[qa h1,qa h2,qa h3,hc',qa h4,xa h5,qZ (fun _ _=>phs_inj) h6]
structure Bk where
 layers:List Lyr
 holds:List Hld
 exps:List Xp
def Bk.enc (b:Bk):List PV:=[.sl 3 (b.layers.map Lyr.enc),.sl 4 (b.holds.map Hld.enc),.sl 13 (b.exps.map Xp.enc)]
theorem xq {a b:Bk} (h:a.enc=b.enc):a=b:=by
 cases a;cases b
 simp only[Bk.enc,List.cons.injEq,and_true] at h
 obtain⟨h1,h2,h3⟩:=h
 injection h1 with _ h1
 injection h2 with _ h2
 injection h3 with _ h3
 rw[qZ (fun _ _=>lyr_inj) h1,qZ (fun _ _=>hld_inj) h2,qZ (fun _ _=>vy) h3]
def sumB {α:Type} (f:α→Nat) (l:List α):Nat:=(l.map f).sum
theorem qL {α:Type} {f:α→Nat}:∀{l:List α} {x:α},x∈l→f x≤sumB f l
 | y::l,x,h=>by
   simp only[sumB,List.map_cons,List.sum_cons]
   rcases List.mem_cons.1 h with rfl | h
   ·omega
   ·have:=qL (f:=f) h;simp only[sumB] at this;omega
theorem qb {α:Type} {f:α→Nat} (hf:∀x,1≤f x):∀l:List α,l.length≤sumB f l
 | []=>by simp
 | y::l=>by
   have:=qb hf l
   have:=hf y
   simp only[sumB,List.map_cons,List.sum_cons,List.length_cons] at *
   omega
def Lyr.cb (x:Lyr):Nat:=1+x.name.length+x.salt.length
def Hld.cb (x:Hld):Nat:=1+x.name.length+x.salt.length+sumB (fun s=>1+s.length) x.layers
def Phs.cb (x:Phs):Nat:=1+x.spans.length
def Xp.cb (x:Xp):Nat:=x.name.length+x.layer.length+x.flag.length+x.cond.cb+x.salt.length+x.arms.length+sumB Phs.cb x.phases
def Bk.cb (b:Bk):Nat:=sumB Lyr.cb b.layers+sumB Hld.cb b.holds+sumB Xp.cb b.exps
theorem vA (x:Lyr):1≤x.cb:=by unfold Lyr.cb;omega
theorem hld_pos (x:Hld):1≤x.cb:=by unfold Hld.cb;omega
theorem kC (x:Phs):1≤x.cb:=by unfold Phs.cb;omega
theorem xp_pos (x:Xp):1≤x.cb:=by have:=cb_pos x.cond;unfold Xp.cb;omega
end Go.Proofs.YtglppmnehgjolaaGreatDoor
namespace Go.Proofs.YtglppmnehgjolaaGreatDoor
open Go.Proofs.Tryz
open Go.RowKit Go.AM
theorem u8_tri (a b:UInt8):a<b∨a=b∨b<a:=by
 rcases Nat.lt_trichotomy a.toNat b.toNat with h | h | h
 ·exact .inl (UInt8.lt_iff_toNat_lt.2 h)
 ·exact .inr (.inl (UInt8.toNat_inj.1 h))
 ·exact .inr (.inr (UInt8.lt_iff_toNat_lt.2 h))
theorem u8_irr (a:UInt8):¬a<a:=fun h=>Nat.lt_irrefl _ (UInt8.lt_iff_toNat_lt.1 h)
theorem u8_asymm {a b:UInt8} (h:a<b):¬b<a:=fun h'=>Nat.lt_asymm (UInt8.lt_iff_toNat_lt.1 h) (UInt8.lt_iff_toNat_lt.1 h')
theorem u8_trans {a b c:UInt8} (h:a<b) (h':b<c):a<c:=UInt8.lt_iff_toNat_lt.2 (Nat.lt_trans (UInt8.lt_iff_toNat_lt.1 h) (UInt8.lt_iff_toNat_lt.1 h'))
theorem cmpB_lt:∀a b:List UInt8,cmpB a b<0↔Op.bytesLess a b=true
 | [],[]=>by simp[cmpB,Lib.compareBytes,Op.bytesLess]
 | [],_::_=>by simp[cmpB,Lib.compareBytes,Op.bytesLess]
 | _::_,[]=>by simp[cmpB,Lib.compareBytes,Op.bytesLess]
 | a::x,b::y=>by
   have ih:=cmpB_lt x y
   unfold cmpB at ih ⊢
   rcases u8_tri a b with h | rfl | h
   ·simp[Lib.compareBytes,Op.bytesLess,h]
   ·simp[Lib.compareBytes,Op.bytesLess,u8_irr,ih]
   ·have hne:¬a=b:=fun e=>u8_irr b (e ▸ h)
    simp[Lib.compareBytes,Op.bytesLess,h,u8_asymm h,hne]
theorem vB:∀a b:List UInt8,cmpB a b=0↔a=b
 | [],[]=>by simp[cmpB,Lib.compareBytes]
 | [],_::_=>by simp[cmpB,Lib.compareBytes]
 | _::_,[]=>by simp[cmpB,Lib.compareBytes]
 | a::x,b::y=>by
   have ih:=vB x y
   unfold cmpB at ih ⊢
   rcases u8_tri a b with h | rfl | h
   ·have hne:¬a=b:=fun e=>u8_irr b (e ▸ h)
    simp[Lib.compareBytes,h,hne]
   ·simp[Lib.compareBytes,u8_irr,ih]
   ·have hne:¬a=b:=fun e=>u8_irr b (e ▸ h)
    simp[Lib.compareBytes,h,u8_asymm h,hne]
theorem xc:∀{a b c:List UInt8},Op.bytesLess a b=true→Op.bytesLess b c=true→Op.bytesLess a c=true
 | _,[],_,h,_=>by simp[Op.bytesLess] at h
 | _,_::_,[],_,h=>by simp[Op.bytesLess] at h
 | [],_::_,_::_,_,_=>by simp[Op.bytesLess]
 | a::x,b::y,c::z,h1,h2=>by
   simp only[Op.bytesLess,Bool.or_eq_true,decide_eq_true_eq,Bool.and_eq_true,beq_iff_eq] at h1 h2 ⊢
   rcases h1 with h1 | ⟨rfl,h1⟩
   ·rcases h2 with h2 | ⟨rfl,h2⟩
    ·exact .inl (u8_trans h1 h2)
    ·exact .inl h1
   ·rcases h2 with h2 | ⟨rfl,h2⟩
    ·exact .inl h2
    ·exact .inr ⟨rfl,xc h1 h2⟩
theorem xr:∀{a b:List UInt8},leB a b=false→Op.bytesLess b a=true
 | [],[],h=>by simp[leB] at h
 | [],_::_,h=>by simp[leB,Op.bytesLess] at h
 | _::_,[],_=>by simp[Op.bytesLess]
 | a::x,b::y,h=>by
   simp only[leB,Op.bytesLess,Bool.or_eq_false_iff,decide_eq_false_iff_not,Bool.and_eq_false_iff,beq_eq_false_iff_ne] at h
   obtain⟨⟨h1,h2⟩,h3⟩:=h
   simp only[Op.bytesLess,Bool.or_eq_true,decide_eq_true_eq,Bool.and_eq_true,beq_iff_eq]
   rcases u8_tri a b with g | rfl | g
   ·exact absurd g h1
   ·refine .inr ⟨rfl,xr ?_⟩
    rcases h2 with h2 | h2
    ·exact absurd rfl h2
    ·have:¬x=y:=fun e=>h3 (by rw[e])
     simp[leB,h2,this]
   ·exact .inl g
def bsGo (f:Nat→Bool) (lo hi:Nat):Nat:=if h:lo<hi then (if f ((lo+hi) / 2) then bsGo f ((lo+hi) / 2+1) hi else bsGo f lo ((lo+hi) / 2)) else lo
termination_by hi - lo
decreasing_by all_goals omega
theorem bsGo_step {f:Nat→Bool} {lo hi:Nat} (h:lo<hi):bsGo f lo hi=if f ((lo+hi) / 2) then bsGo f ((lo+hi) / 2+1) hi else bsGo f lo ((lo+hi) / 2):=by rw[bsGo,dif_pos h]
theorem bsGo_end {f:Nat→Bool} {lo hi:Nat} (h:¬lo<hi):bsGo f lo hi=lo:=by rw[bsGo,dif_neg h]
theorem bsGo_spec {f:Nat→Bool} {n m:Nat} (hm:∀k,k<m→f k=true) (hn:∀k,m≤k→k<n→f k=false):∀{lo hi:Nat},lo≤m→m≤hi→hi≤n→bsGo f lo hi=m:=by
 intro lo hi
 induction lo,hi using bsGo.induct (f:=f) with
 | case1 lo hi hlt hf ih =>
   intro h1 h2 h3
   rw[bsGo,dif_pos hlt,if_pos hf]
   refine ih ?_ h2 h3
   apply Nat.succ_le_of_lt
   refine Nat.lt_of_not_le fun hle=>?_
   rw[hn _ hle (by omega)] at hf
   cases hf
 | case2 lo hi hlt hf ih =>
   intro h1 h2 h3
   rw[bsGo,dif_pos hlt,if_neg hf]
   refine ih h1 ?_ (by omega)
   refine Nat.le_of_not_lt fun hle=>?_
   exact hf (hm _ hle)
 | case3 lo hi hlt=>intro h1 h2 _;rw[bsGo,dif_neg hlt];omega
noncomputable def xh (l:List (List UInt8)) (s:List UInt8) (k:Nat):Bool:=match l[k]? with
 | some x=>decide (cmpB x s<0)
 | none=>false
noncomputable def bsN (l:List (List UInt8)) (s:List UInt8):Nat×Bool:=(bsGo (xh l s) 0 l.length,match l[bsGo (xh l s) 0 l.length]? with
 | some x=>cmpB x s==0
 | none=>false)
theorem bsN_at {l:List (List UInt8)} {s:List UInt8} (h:(bsN l s).2=true):l[(bsN l s).1]?=some s:=by
 unfold bsN at h ⊢
 simp only at h ⊢
 split at h
 ·rename_i x hx
  rw[hx,(vB x s).1 (by simpa using h)]
 ·cases h
theorem bsN_lt {l:List (List UInt8)} {s:List UInt8} (h:(bsN l s).2=true):(bsN l s).1<l.length:=(List.getElem?_eq_some_iff.1 (bsN_at h)).1
def UpN (l:List (List UInt8)):Prop:=l.Pairwise fun a b=>Op.bytesLess a b=true
theorem less_irr (a:List UInt8):Op.bytesLess a a=false:=by
 cases h:Op.bytesLess a a with
 | false=>rfl
 | true =>
   have h1:=(cmpB_lt a a).2 h
   have h2:=(vB a a).2 rfl
   omega
theorem bsN_of {l:List (List UInt8)} {s:List UInt8} (hl:UpN l) {j:Nat} (hj:l[j]?=some s):bsN l s=(j,true):=by
 obtain⟨hjl,hje⟩:=List.getElem?_eq_some_iff.1 hj
 have hg:bsGo (xh l s) 0 l.length=j:=by
  refine bsGo_spec (n:=l.length) (fun k hk=>?_) (fun k hk hkl=>?_) (Nat.zero_le _) (Nat.le_of_lt hjl) (Nat.le_refl _)
  ·have:=List.pairwise_iff_getElem.1 hl k j (by omega) hjl hk
   rw[hje] at this
   simp[xh,show k<l.length by omega,(cmpB_lt _ _).2 this]
  ·rcases Nat.lt_or_eq_of_le hk with h | rfl
   ·have:=List.pairwise_iff_getElem.1 hl j k hjl hkl h
    rw[hje] at this
    have h2:¬cmpB l[k] s<0:=fun h3=>by
     have:=xc this ((cmpB_lt _ _).1 h3)
     rw[less_irr] at this
     cases this
    simp[xh,hkl,h2]
   ·have h2:¬cmpB s s<0:=by rw[(vB s s).2 rfl];omega
    simp[xh,hjl,hje,h2]
 unfold bsN
 rw[hg,hj]
 simp[(vB s s).2 rfl]
end Go.Proofs.YtglppmnehgjolaaGreatDoor
namespace Go.Proofs.YtglppmnehgjolaaGreatDoor
open Go.Proofs.Tryz
open Go.RowKit Go.AM Go.SpanLaw
def yH (name before:List UInt8):Int:=if wE name=true then (if leB name before=true then 8 else 0) else 5
noncomputable def FSS2 (f:List UInt8→List UInt8→PV):List PV→Option PV:=zM (α:=List UInt8×List UInt8) (fun a=>[str a.1,str a.2]) (fun a=>a.1.length≤lim) (fun a=>f a.1 a.2)
theorem FSS2_call (f:List UInt8→List UInt8→PV) (a b:List UInt8) (hp:Hp) (nx:Nat) (h:a.length≤lim) (hf:(f a b).flat=true):zd false [] (FSS2 f) [str a,str b] hp nx=some (f a b,hp,nx) :=
 zJ rfl (zq (enc:=fun a:List UInt8×List UInt8=>[str a.1,str a.2]) (a:=(a,b)) ss_inj h) (.inl hf)
noncomputable abbrev Cnf:Ctx:=zN prog [(93,zd false [] (FS wE))]
theorem jy:za prog 91 (zd false [] (FSS2 fun a b=>int (yH a b))) :=
 zZ (fn:=f91) (zr (q:=[]) mixed ⟨vd,by simp,trivial⟩:AM.Good Cnf _) ⟨_,func91,by kernel_rfl,rfl,by kernel_rfl⟩ false [] _ fun args r h=>by
  obtain⟨⟨a,b⟩,rfl,ha,rfl⟩:=zg h
  have hle:(Op.bytesLess a b||a==b)=leB a b:=rfl
  refine⟨by simp[f91],_,ze rfl ?_,zY _⟩
  simp only at ha
  cases h1:wE a
  ·simp[ha,h1,yH,f91]
  ·cases h2:leB a b
   ·simp[ha,h1,hle,h2,yH,f91]
   ·simp[ha,h1,hle,h2,yH,f91]
def saltB (s:List UInt8):Bool:=inB s.length 1 40&&isKeyB s
noncomputable abbrev Csl:Ctx:=zN prog [(13,zd false [] (F3 inB)),(129,zd false [] (FS isKeyB))]
@[simp] theorem quietsl2:qE Csl 129:=zW (by rfl) (zf _ _)
theorem isSalt_sound:za prog 116 (zd false [] (FS saltB)) :=
 zZ (fn:=f116) (zr (q:=[13,129]) mixed ⟨ww,fun _=>zf _ _,isKey_sound,fun _=>zf _ _,trivial⟩:AM.Good Csl _) ⟨_,func116,by kernel_rfl,rfl,by kernel_rfl⟩ false [] _ fun args r h=>by
  obtain⟨l,rfl,hp,rfl⟩:=zg h
  exact⟨by simp[f116],_,ze rfl (by simp[hp,saltB,f116]),zY _⟩
def timeB (n:Int):Bool:=inB n 0 4000000000
noncomputable abbrev Ctm:Ctx:=zN prog [(13,zd false [] (F3 inB))]
theorem vC:za prog 14 (zd false [] (FIb timeB)) :=
 zZ (fn:=f14) (zr (q:=[]) mixed ⟨ww,by simp,trivial⟩:AM.Good Ctm _) ⟨_,func14,by kernel_rfl,rfl,by kernel_rfl⟩ false [] _ fun args r h=>by
  obtain⟨a,rfl,rfl⟩:=FIb_inv h
  exact⟨by simp[f14],_,ze rfl (by simp[timeB,f14]),zY _⟩
noncomputable def FKeyL:List PV→Option PV:=zM (α:=Lyr×List UInt8) (fun a=>[.agg a.1.enc,str a.2]) (fun _=>True) (fun a=>int (cmpB a.1.name a.2))
theorem FKeyL_call (x:Lyr) (s:List UInt8) (hp:Hp) (nx:Nat):zd false [] FKeyL [.agg x.enc,str s] hp nx=some (int (cmpB x.name s),hp,nx) :=
 zJ (hp1:=hp) (show zk hp [.agg x.enc,str s]=some ([.agg x.enc,str s],hp) by simp[Lyr.enc]) (zq (enc:=fun a:Lyr×List UInt8=>[.agg a.1.enc,str a.2]) (a:=(x,s)) (fun a b e=>by
  obtain⟨a1,a2⟩:=a;obtain⟨b1,b2⟩:=b
  simp only[List.cons.injEq,and_true,PV.agg.injEq] at e
  rw[lyr_inj e.1,qa e.2]) trivial) (.inl rfl)
noncomputable abbrev CkeyL:Ctx:=zN prog [(22,zd false [] (F2S cmpB))]
theorem keyL_sound:za prog 43 (zd false [] FKeyL) :=
 zZ (fn:=f43) (zr (q:=[]) mixed ⟨qS,by simp,trivial⟩:AM.Good CkeyL _) ⟨_,func43,by kernel_rfl,rfl,by kernel_rfl⟩ false [] _ fun args r h=>by
  obtain⟨⟨x,s⟩,rfl,_,rfl⟩:=zg h
  exact⟨by simp[f43],_,ze rfl (by simp[f43,Lyr.enc]),zY _⟩
noncomputable def FBsL:List PV→Option PV:=zM (α:=List Lyr×List UInt8) (fun a=>[.sl 3 (a.1.map Lyr.enc),str a.2,.fn (.func 43) [] []]) (fun a=>a.1.length≤lim) (fun a=>.tup [int (bsN (a.1.map Lyr.name) a.2).1,boo (bsN (a.1.map Lyr.name) a.2).2])
theorem FBsL_call (l:List Lyr) (s:List UInt8) (hp:Hp) (nx:Nat) (h:l.length≤lim):zd false [] FBsL [.sl 3 (l.map Lyr.enc),str s,.fn (.func 43) [] []] hp nx=some (.tup [int (bsN (l.map Lyr.name) s).1,boo (bsN (l.map Lyr.name) s).2],hp,nx) :=
 zJ rfl (zq (enc:=fun a:List Lyr×List UInt8=>[PV.sl 3 (a.1.map Lyr.enc),str a.2,.fn (.func 43) [] []]) (a:=(l,s)) (fun a b e=>by
  obtain⟨a1,a2⟩:=a;obtain⟨b1,b2⟩:=b
  simp only[List.cons.injEq,and_true] at e
  obtain⟨e1,e2⟩:=e
  injection e1 with _ e1
  rw[qZ (fun _ _=>lyr_inj) e1,qa e2]) h) (.inl rfl)
noncomputable abbrev CbsL:Ctx:=zN prog [(43,zd false [] FKeyL)]
theorem bsL_eval (l:List Lyr) (s:List UInt8) (hl:l.length≤lim):zl CbsL f42 [.sl 3 (l.map Lyr.enc),str s,.fn (.func 43) [] []]=some (.tup [int (bsN (l.map Lyr.name) s).1,boo (bsN (l.map Lyr.name) s).2]):=by
 refine ze rfl ?_
 unfold lim at hl
 have hln:(l.map Lyr.name).length=l.length:=by simp
 simp
 refine jF (fun st=>st.σ 0=.sl 3 (l.map Lyr.enc)∧st.σ 1=str s∧st.σ 2=.fn (.func 43) [] []∧st.σ 8=int l.length∧∃lo hi:Nat,lo≤hi∧hi≤l.length∧st.σ 9=int lo∧st.σ 10=int hi∧bsGo (xh (l.map Lyr.name) s) 0 (l.map Lyr.name).length=bsGo (xh (l.map Lyr.name) s) lo hi)
  (fun st=>(numAt (st.σ 10)).toNat - (numAt (st.σ 9)).toNat) ⟨by simp,by simp,by simp,by simp,0,l.length,by simp,by simp,by simp,by simp,by rw[hln]⟩ ?_
 rintro⟨σ,hp,nx⟩ ⟨h0,h1,h2,h8,lo,hi,hlh,hhi,h9,h10,he⟩
 simp only at h0 h1 h2 h8 h9 h10
 by_cases hlt:lo<hi
 ·have hcall:=fun x hp nx=>FKeyL_call x s hp nx
  have w1:IntKind.i64.wrap ((lo:Int)+hi)=(lo:Int)+hi:=zi (by omega) (by omega)
  have hml:(lo+hi) / 2<l.length:=by omega
  obtain⟨m,hm⟩:∃m,m=(lo+hi) / 2:=⟨_,rfl⟩
  have hmid:IntKind.i64.wrap ((IntKind.u64.wrap ((lo:Int)+hi)).fdiv (2 ^ min 1 IntKind.u64.bits))=(m:Int):=by
   have e1:IntKind.u64.wrap ((lo:Int)+hi)=(lo:Int)+hi:=by rw[IntKind.wrap_u64];omega
   have e2:(2 ^ min 1 IntKind.u64.bits:Int)=2:=by decide
   rw[e1,e2,Int.fdiv_eq_ediv_of_nonneg _ (by omega),zi (by omega) (by omega)]
   omega
  have hml':m<l.length:=by omega
  have wm:IntKind.i64.wrap ((m:Int)+1)=(m:Int)+1:=zi (by omega) (by omega)
  have hla:xh (l.map Lyr.name) s m=decide (cmpB l[m].name s<0):=by simp[xh,hml']
  rw[bsGo_step (lo:=lo) hlt,←hm,hla] at he
  have hcm:=hcall l[m]
  simp only[Lyr.enc] at hcm
  by_cases hc:cmpB l[m].name s<0
  ·simp only[hc,decide_true,if_true] at he
   simp[h0,h1,h2,h8,h9,h10,hlt,w1,hmid,hml',hcm,hc,wm,Lyr.enc]
   exact⟨⟨m+1,hi,by omega,hhi,by omega,rfl,by rw[hln] at he;exact he⟩,by omega⟩
  ·simp only[hc,decide_false,Bool.false_eq_true,if_false] at he
   simp[h0,h1,h2,h8,h9,h10,hlt,w1,hmid,hml',hcm,hc,Lyr.enc]
   exact⟨⟨lo,m,by omega,by omega,rfl,rfl,by rw[hln] at he;exact he⟩,by omega⟩
 ·have he:bsGo (xh (l.map Lyr.name) s) 0 (l.map Lyr.name).length=lo:=by rw[he,bsGo_end (lo:=lo) hlt]
  have hcall:=fun x hp nx=>FKeyL_call x s hp nx
  unfold bsN
  rw[he]
  by_cases hlo:lo<l.length
  ·have hcm:=hcall l[lo]
   simp only[Lyr.enc] at hcm
   simp[h0,h1,h2,h8,h9,h10,hlt,hlo,hcm,Lyr.enc,f42,qC]
  ·have hlo':l[lo]?=none:=List.getElem?_eq_none (by omega)
   simp[h0,h1,h2,h8,h9,h10,hlt,hlo,hlo',f42,qC]
theorem bsL_sound:za prog 42 (zd false [] FBsL) :=
 zZ (fn:=f42) (zr (q:=[43]) mixed ⟨keyL_sound,fun _=>zf _ _,trivial⟩:AM.Good CbsL _) ⟨_,func42,by kernel_rfl,rfl,by kernel_rfl⟩ false [] _ fun args r h=>by
  obtain⟨⟨l,s⟩,rfl,hl,rfl⟩:=zg h
  exact⟨Nat.le_trans (Nat.le_refl 3) (by decide),_,bsL_eval l s hl,zY _⟩
noncomputable def FOfL:List PV→Option PV:=zM (α:=List Lyr×List UInt8) (fun a=>[.sl 3 (a.1.map Lyr.enc),str a.2]) (fun a=>a.1.length≤lim) (fun a=>.tup [int (bsN (a.1.map Lyr.name) a.2).1,boo (bsN (a.1.map Lyr.name) a.2).2])
theorem vE (l:List Lyr) (s:List UInt8) (hp:Hp) (nx:Nat) (h:l.length≤lim):zd false [] FOfL [.sl 3 (l.map Lyr.enc),str s] hp nx=some (.tup [int (bsN (l.map Lyr.name) s).1,boo (bsN (l.map Lyr.name) s).2],hp,nx) :=
 zJ rfl (zq (enc:=fun a:List Lyr×List UInt8=>[PV.sl 3 (a.1.map Lyr.enc),str a.2]) (a:=(l,s)) (fun a b e=>by
  obtain⟨a1,a2⟩:=a;obtain⟨b1,b2⟩:=b
  simp only[List.cons.injEq,and_true] at e
  obtain⟨e1,e2⟩:=e
  injection e1 with _ e1
  rw[qZ (fun _ _=>lyr_inj) e1,qa e2]) h) (.inl rfl)
noncomputable abbrev CofL:Ctx:=zN prog [(42,zd false [] FBsL)]
theorem vF:za prog 12 (zd false [] FOfL) :=
 zZ (fn:=f12) (zr (q:=[]) mixed ⟨bsL_sound,by simp,trivial⟩:AM.Good CofL _) ⟨_,func12,by kernel_rfl,rfl,by kernel_rfl⟩ false [] _ fun args r h=>by
  obtain⟨⟨l,s⟩,rfl,hl,rfl⟩:=zg h
  have hc:=fun hp nx=>FBsL_call l s hp nx hl
  exact⟨by simp[f12],_,ze rfl (by simp[hc,qC,f12]),zY _⟩
noncomputable def FKeyX:List PV→Option PV:=zM (α:=Xp×List UInt8) (fun a=>[.agg a.1.enc,str a.2]) (fun _=>True) (fun a=>int (cmpB a.1.name a.2))
theorem FKeyX_call (x:Xp) (s:List UInt8) (hp:Hp) (nx:Nat):zd false [] FKeyX [.agg x.enc,str s] hp nx=some (int (cmpB x.name s),hp,nx) :=
 zJ (hp1:=hp) (show zk hp [.agg x.enc,str s]=some ([.agg x.enc,str s],hp) by simp[zF]) (zq (enc:=fun a:Xp×List UInt8=>[.agg a.1.enc,str a.2]) (a:=(x,s)) (fun a b e=>by
  obtain⟨a1,a2⟩:=a;obtain⟨b1,b2⟩:=b
  simp only[List.cons.injEq,and_true,PV.agg.injEq] at e
  rw[vy e.1,qa e.2]) trivial) (.inl rfl)
noncomputable abbrev CkeyX:Ctx:=zN prog [(22,zd false [] (F2S cmpB))]
theorem keyX_sound:za prog 41 (zd false [] FKeyX) :=
 zZ (fn:=f41) (zr (q:=[]) mixed ⟨qS,by simp,trivial⟩:AM.Good CkeyX _) ⟨_,func41,by kernel_rfl,rfl,by kernel_rfl⟩ false [] _ fun args r h=>by
  obtain⟨⟨x,s⟩,rfl,_,rfl⟩:=zg h
  exact⟨by simp[f41],_,ze rfl (by simp[f41,zF]),zY _⟩
noncomputable def FBsX:List PV→Option PV:=zM (α:=List Xp×List UInt8) (fun a=>[.sl 13 (a.1.map Xp.enc),str a.2,.fn (.func 41) [] []]) (fun a=>a.1.length≤lim) (fun a=>.tup [int (bsN (a.1.map Xp.name) a.2).1,boo (bsN (a.1.map Xp.name) a.2).2])
theorem FBsX_call (l:List Xp) (s:List UInt8) (hp:Hp) (nx:Nat) (h:l.length≤lim):zd false [] FBsX [.sl 13 (l.map Xp.enc),str s,.fn (.func 41) [] []] hp nx=some (.tup [int (bsN (l.map Xp.name) s).1,boo (bsN (l.map Xp.name) s).2],hp,nx) :=
 zJ rfl (zq (enc:=fun a:List Xp×List UInt8=>[PV.sl 13 (a.1.map Xp.enc),str a.2,.fn (.func 41) [] []]) (a:=(l,s)) (fun a b e=>by
  obtain⟨a1,a2⟩:=a;obtain⟨b1,b2⟩:=b
  simp only[List.cons.injEq,and_true] at e
  obtain⟨e1,e2⟩:=e
  injection e1 with _ e1
  rw[qZ (fun _ _=>vy) e1,qa e2]) h) (.inl rfl)
noncomputable abbrev CbsX:Ctx:=zN prog [(41,zd false [] FKeyX)]
theorem bsX_eval (l:List Xp) (s:List UInt8) (hl:l.length≤lim):zl CbsX f40 [.sl 13 (l.map Xp.enc),str s,.fn (.func 41) [] []]=some (.tup [int (bsN (l.map Xp.name) s).1,boo (bsN (l.map Xp.name) s).2]):=by
 refine ze rfl ?_
 unfold lim at hl
 have hln:(l.map Xp.name).length=l.length:=by simp
 simp
 refine jF (fun st=>st.σ 0=.sl 13 (l.map Xp.enc)∧st.σ 1=str s∧st.σ 2=.fn (.func 41) [] []∧st.σ 8=int l.length∧∃lo hi:Nat,lo≤hi∧hi≤l.length∧st.σ 9=int lo∧st.σ 10=int hi∧bsGo (xh (l.map Xp.name) s) 0 (l.map Xp.name).length=bsGo (xh (l.map Xp.name) s) lo hi)
  (fun st=>(numAt (st.σ 10)).toNat - (numAt (st.σ 9)).toNat) ⟨by simp,by simp,by simp,by simp,0,l.length,by simp,by simp,by simp,by simp,by rw[hln]⟩ ?_
 rintro⟨σ,hp,nx⟩ ⟨h0,h1,h2,h8,lo,hi,hlh,hhi,h9,h10,he⟩
 simp only at h0 h1 h2 h8 h9 h10
 by_cases hlt:lo<hi
 ·have hcall:=fun x hp nx=>FKeyX_call x s hp nx
  have w1:IntKind.i64.wrap ((lo:Int)+hi)=(lo:Int)+hi:=zi (by omega) (by omega)
  have hml:(lo+hi) / 2<l.length:=by omega
  obtain⟨m,hm⟩:∃m,m=(lo+hi) / 2:=⟨_,rfl⟩
  have hmid:IntKind.i64.wrap ((IntKind.u64.wrap ((lo:Int)+hi)).fdiv (2 ^ min 1 IntKind.u64.bits))=(m:Int):=by
   have e1:IntKind.u64.wrap ((lo:Int)+hi)=(lo:Int)+hi:=by rw[IntKind.wrap_u64];omega
   have e2:(2 ^ min 1 IntKind.u64.bits:Int)=2:=by decide
   rw[e1,e2,Int.fdiv_eq_ediv_of_nonneg _ (by omega),zi (by omega) (by omega)]
   omega
  have hml':m<l.length:=by omega
  have wm:IntKind.i64.wrap ((m:Int)+1)=(m:Int)+1:=zi (by omega) (by omega)
  have hla:xh (l.map Xp.name) s m=decide (cmpB l[m].name s<0):=by simp[xh,hml']
  rw[bsGo_step (lo:=lo) hlt,←hm,hla] at he
  have hcm:=hcall l[m]
  simp only[zF] at hcm
  by_cases hc:cmpB l[m].name s<0
  ·simp only[hc,decide_true,if_true] at he
   simp[h0,h1,h2,h8,h9,h10,hlt,w1,hmid,hml',hcm,hc,wm,zF]
   exact⟨⟨m+1,hi,by omega,hhi,by omega,rfl,by rw[hln] at he;exact he⟩,by omega⟩
  ·simp only[hc,decide_false,Bool.false_eq_true,if_false] at he
   simp[h0,h1,h2,h8,h9,h10,hlt,w1,hmid,hml',hcm,hc,zF]
   exact⟨⟨lo,m,by omega,by omega,rfl,rfl,by rw[hln] at he;exact he⟩,by omega⟩
 ·have he:bsGo (xh (l.map Xp.name) s) 0 (l.map Xp.name).length=lo:=by rw[he,bsGo_end (lo:=lo) hlt]
  have hcall:=fun x hp nx=>FKeyX_call x s hp nx
  unfold bsN
  rw[he]
  by_cases hlo:lo<l.length
  ·have hcm:=hcall l[lo]
   simp only[zF] at hcm
   simp[h0,h1,h2,h8,h9,h10,hlt,hlo,hcm,zF,f40,qC]
  ·have hlo':l[lo]?=none:=List.getElem?_eq_none (by omega)
   simp[h0,h1,h2,h8,h9,h10,hlt,hlo,hlo',f40,qC]
theorem bsX_sound:za prog 40 (zd false [] FBsX) :=
 zZ (fn:=f40) (zr (q:=[41]) mixed ⟨keyX_sound,fun _=>zf _ _,trivial⟩:AM.Good CbsX _) ⟨_,func40,by kernel_rfl,rfl,by kernel_rfl⟩ false [] _ fun args r h=>by
  obtain⟨⟨l,s⟩,rfl,hl,rfl⟩:=zg h
  exact⟨Nat.le_trans (Nat.le_refl 3) (by decide),_,bsX_eval l s hl,zY _⟩
noncomputable def FOfX:List PV→Option PV:=zM (α:=List Xp×List UInt8) (fun a=>[.sl 13 (a.1.map Xp.enc),str a.2]) (fun a=>a.1.length≤lim) (fun a=>.tup [int (bsN (a.1.map Xp.name) a.2).1,boo (bsN (a.1.map Xp.name) a.2).2])
theorem FOfX_call (l:List Xp) (s:List UInt8) (hp:Hp) (nx:Nat) (h:l.length≤lim):zd false [] FOfX [.sl 13 (l.map Xp.enc),str s] hp nx=some (.tup [int (bsN (l.map Xp.name) s).1,boo (bsN (l.map Xp.name) s).2],hp,nx) :=
 zJ rfl (zq (enc:=fun a:List Xp×List UInt8=>[PV.sl 13 (a.1.map Xp.enc),str a.2]) (a:=(l,s)) (fun a b e=>by
  obtain⟨a1,a2⟩:=a;obtain⟨b1,b2⟩:=b
  simp only[List.cons.injEq,and_true] at e
  obtain⟨e1,e2⟩:=e
  injection e1 with _ e1
  rw[qZ (fun _ _=>vy) e1,qa e2]) h) (.inl rfl)
noncomputable abbrev CofX:Ctx:=zN prog [(40,zd false [] FBsX)]
theorem ofX_sound:za prog 11 (zd false [] FOfX) :=
 zZ (fn:=f11) (zr (q:=[]) mixed ⟨bsX_sound,by simp,trivial⟩:AM.Good CofX _) ⟨_,func11,by kernel_rfl,rfl,by kernel_rfl⟩ false [] _ fun args r h=>by
  obtain⟨⟨l,s⟩,rfl,hl,rfl⟩:=zg h
  have hc:=fun hp nx=>FBsX_call l s hp nx hl
  exact⟨by simp[f11],_,ze rfl (by simp[hc,qC,f11]),zY _⟩
def prevAt (p:Option Int) (x:Int):Bool:=match p with
 | none=>false
 | some q=>decide (x≤q)
def phF:Option Int→List Sp→List Phs→Int
 | _,_,[]=>0
 | p,b,x::l=>if timeB x.at_=true then (if prevAt p x.at_=true then 8 else if zL x.spans=0 then (if x.spans=b then 7 else phF (some x.at_) x.spans l) else zL x.spans) else 1
def wO (l:List Phs):Int:=if (50:Int)<l.length then 2 else phF none [] l
def prevA (l:List Phs) (k:Nat):Option Int:=if k=0 then none else (l[k - 1]?).map (·.at_)
theorem equalS2_sound:za prog 88 (zd false [2,2] (FPP (fun a b=>boo (decide (a=b))) fun a _=>a.length≤lim)) :=
 zZ (fn:=f88) q7 ⟨_,func88,by kernel_rfl,rfl,by kernel_rfl⟩ false [2,2] _ fun args r h=>by
  obtain⟨⟨a,b⟩,rfl,hx,rfl⟩:=zg h
  exact⟨Nat.le_trans (Nat.le_refl 2) (by decide),_,equalS_eval a b hx,zY _⟩
theorem eqS_call (a b:List Sp) (v:PV) (hp:Hp) (nx:Nat) (h:a.length≤lim) (hv:v=.sl 2 (b.map encS)∨(v=.nil∧b=[])):zd false [2,2] (FPP (fun a b=>boo (decide (a=b))) fun a _=>a.length≤lim) [.sl 2 (a.map encS),v] hp nx=some (boo (decide (a=b)),hp,nx):=by
 have hs:FPP (fun a b=>boo (decide (a=b))) (fun a _=>a.length≤lim) [.sl 2 (a.map encS),.sl 2 (b.map encS)]=some (boo (decide (a=b))) :=
  zq (enc:=fun a:List Sp×List Sp=>[PV.sl 2 (a.1.map encS),.sl 2 (a.2.map encS)]) (a:=(a,b)) (fun a b e=>by
   obtain⟨a1,a2⟩:=a;obtain⟨b1,b2⟩:=b
   simp only[List.cons.injEq,and_true] at e
   rw[wM e.1,wM e.2]) h
 rcases hv with rfl | ⟨rfl,rfl⟩
 ·exact zJ rfl hs (.inl rfl)
 ·exact zJ rfl hs (.inl rfl)
noncomputable abbrev Cph:Ctx:=zN prog [(14,zd false [] (FIb timeB)),(27,zd false [] (FP (fun l=>int (zL l)) fun _=>True)),(88,zd false [2,2] (FPP (fun a b=>boo (decide (a=b))) fun a _=>a.length≤lim))]
theorem goodph:AM.Good Cph (fun g=>([]:List Nat).contains g):=zr mixed ⟨vC,by simp,yM,by simp,equalS2_sound,by simp,trivial⟩
noncomputable def FPh (out:List Phs→PV):List PV→Option PV:=zM (α:=List Phs) (fun l=>[.sl 2 (l.map Phs.enc)]) (fun l=>sumB Phs.cb l≤lim) out
theorem phss_inj {a b:List Phs} (h:PV.sl 2 (a.map Phs.enc)=PV.sl 2 (b.map Phs.enc)):a=b:=by
 injection h with _ h
 exact qZ (fun _ _=>phs_inj) h
theorem FPh_call (out:List Phs→PV) (l:List Phs) (hp:Hp) (nx:Nat) (h:sumB Phs.cb l≤lim):zd false [] (FPh out) [.sl 2 (l.map Phs.enc)] hp nx=some (out l,hp,nx) :=
 zJ rfl (zq (enc:=fun l:List Phs=>[PV.sl 2 (l.map Phs.enc)]) (a:=l) (fun a b e=>by simp only[List.cons.injEq,and_true] at e;exact phss_inj e) h) (.inr rfl)
theorem phases_eval (l:List Phs) (h:sumB Phs.cb l≤lim):zl Cph f97 [.sl 2 (l.map Phs.enc)]=some (int (wO l)):=by
 have hlen:=qb kC l
 unfold lim at h
 refine ze rfl ?_
 by_cases h50:(50:Int)<l.length
 ·have hv:wO l=2:=by unfold wO;rw[if_pos h50]
  simp[h50,hv,f97]
 have hv:wO l=phF none [] l:=by unfold wO;rw[if_neg h50]
 rw[hv]
 simp[h50]
 refine zD (fun k σ hp nx=>σ 0=.sl 2 (l.map Phs.enc)∧σ 10=.sl 2 (l.map Phs.enc)∧σ 11=int l.length∧σ 12=int k∧∃b,(σ 3=.sl 2 (b.map encS)∨(σ 3=.nil∧b=[]))∧phF none [] l=phF (prevA l k) b (l.drop k)) l.length
  ⟨by simp,by simp,by simp,by simp,[],.inr ⟨by simp,rfl⟩,by simp[prevA]⟩ ?_
 rintro k σ hp nx hk ⟨h0,h10,h11,h12,b,hb,he⟩
 by_cases hlt:k<l.length
 ·have hm:=qL (f:=Phs.cb) (List.getElem_mem hlt)
  obtain⟨x,hx⟩:∃x,l[k]=x:=⟨_,rfl⟩
  have hpn:prevA l (k+1)=some x.at_:=by simp[prevA,hlt,hx]
  rw[hx] at hm
  have hmx:x.cb=1+x.spans.length:=rfl
  rw[List.drop_eq_getElem_cons hlt,hx] at he
  simp only[phF] at he
  have hke:∀h:k<(l.map Phs.enc).length,(l.map Phs.enc)[k]=x.enc:=fun h=>by simp[hx]
  have hcs:=fun hp nx=>yy (fun l=>int (zL l)) (fun _=>True) x.spans hp nx trivial
  have heq:=fun hp nx=>eqS_call x.spans b (σ 3) hp nx (by unfold lim;omega) hb
  have hw:IntKind.i64.wrap ((k:Int)+1)=(k:Int)+1:=zi (by omega) (by omega)
  cases ht:timeB x.at_
  case false =>
   rw[ht,if_neg (by simp)] at he
   simp[h0,h10,h11,h12,hlt,hx,Phs.enc,ht,he,f97]
  rw[ht,if_pos rfl] at he
  have step:∀(hp:Hp) (nx:Nat) (hpv:prevAt (prevA l k) x.at_=false),phF none [] l=if zL x.spans=0 then (if x.spans=b then 7 else phF (some x.at_) x.spans (l.drop (k+1))) else zL x.spans:=fun _ _ hpv=>by
   rw[hpv,if_neg (by simp)] at he;exact he
  by_cases k0:k=0
  ·subst k0
   have he:=step hp nx rfl
   by_cases hs:zL x.spans=0
   case neg =>
    rw[if_neg hs] at he
    have hs2:(zL x.spans != 0)=true:=by simpa using hs
    simp[h0,h10,h11,h12,hlt,hx,Phs.enc,ht,hcs,hs2,he,f97]
   rw[if_pos hs] at he
   by_cases hq:x.spans=b
   ·rw[if_pos hq] at he
    rw[decide_eq_true hq] at heq
    simp[h0,h10,h11,h12,hlt,hx,Phs.enc,ht,hcs,hs,heq,he,f97]
   ·rw[if_neg hq] at he
    rw[decide_eq_false hq] at heq
    simp[h0,h10,h11,h12,hlt,hx,Phs.enc,ht,hcs,hs,heq,hw]
    exact⟨by omega,x.spans,rfl,by rw[he,show prevA l 1=some x.at_ from hpn];simp⟩
  ·obtain⟨j,rfl⟩:∃j,k=j+1:=⟨k - 1,by omega⟩
   have hj:j<l.length:=by omega
   have wj:IntKind.i64.wrap ((j:Int)+1 - 1)=(j:Int):=by rw[zi (by omega) (by omega)];omega
   have wj':IntKind.i64.wrap (j:Int)=(j:Int):=zi (by omega) (by omega)
   have wk:IntKind.i64.wrap ((j:Int)+1+1)=(j:Int)+1+1:=zi (by omega) (by omega)
   have j1:((j:Int)+1).toNat=j+1:=by omega
   have j2:0<(j:Int)+1:=by omega
   have j3:0≤(j:Int)+1:=by omega
   have j4:(j:Int)+1<l.length:=by omega
   have hpv:prevAt (prevA l (j+1)) x.at_=decide (x.at_≤l[j].at_):=by simp[prevA,hj,prevAt]
   by_cases hc:x.at_≤l[j].at_
   ·rw[hpv,if_pos (by simpa using hc)] at he
    simp[h0,h10,h11,h12,hlt,hj,hx,Phs.enc,ht,wj,wj',j1,j2,j3,j4,hc,he,f97]
   have he:=step hp nx (by rw[hpv];simpa using hc)
   by_cases hs:zL x.spans=0
   case neg =>
    rw[if_neg hs] at he
    have hs2:(zL x.spans != 0)=true:=by simpa using hs
    simp[h0,h10,h11,h12,hlt,hj,hx,Phs.enc,ht,wj,wj',j1,j2,j3,j4,hc,hcs,hs2,he,f97]
   rw[if_pos hs] at he
   by_cases hq:x.spans=b
   ·rw[if_pos hq] at he
    rw[decide_eq_true hq] at heq
    simp[h0,h10,h11,h12,hlt,hj,hx,Phs.enc,ht,wj,wj',j1,j2,j3,j4,hc,hcs,hs,heq,he,f97]
   ·rw[if_neg hq] at he
    rw[decide_eq_false hq] at heq
    simp[h0,h10,h11,h12,hlt,hj,hx,Phs.enc,ht,wj,wj',wk,j1,j2,j3,j4,hc,hcs,hs,heq]
    exact⟨by omega,x.spans,rfl,by rw[he,hpn]⟩
 ·obtain rfl:k=l.length:=by omega
  rw[List.drop_length] at he
  simp only[phF] at he
  simp[h0,h10,h11,h12,he,f97]
theorem phases_sound:za prog 97 (zd false [] (FPh fun l=>int (wO l))) :=
 zZ (fn:=f97) goodph ⟨_,func97,by kernel_rfl,rfl,by kernel_rfl⟩ false [] _ fun args r h=>by
  obtain⟨l,rfl,hx,rfl⟩:=zg h
  exact⟨by simp[f97],_,phases_eval l hx,zY _⟩
def endF (l:List Phs) (i:Nat):Int:=match l[i+1]? with
 | some p=>p.at_
 | none=>1125899906842624
noncomputable def FPi2 (f:List Phs→Nat→PV):List PV→Option PV:=zM (α:=List Phs×Nat) (fun a=>[.sl 2 (a.1.map Phs.enc),int a.2]) (fun a=>a.1.length≤lim∧a.2≤lim) (fun a=>f a.1 a.2)
theorem FPi2_call (f:List Phs→Nat→PV) (l:List Phs) (i:Nat) (hp:Hp) (nx:Nat) (h:l.length≤lim∧i≤lim):zd false [] (FPi2 f) [.sl 2 (l.map Phs.enc),int i] hp nx=some (f l i,hp,nx) :=
 zJ rfl (zq (enc:=fun a:List Phs×Nat=>[PV.sl 2 (a.1.map Phs.enc),int a.2]) (a:=(l,i)) (fun a b e=>by
  obtain⟨a1,a2⟩:=a;obtain⟨b1,b2⟩:=b
  simp only[List.cons.injEq,and_true] at e
  have:=zG e.2
  rw[phss_inj e.1,show a2=b2 by omega]) h) (.inr rfl)
theorem end_sound:za prog 44 (zd false [] (FPi2 fun l i=>int (endF l i))) :=
 zZ (fn:=f44) q7 ⟨_,func44,by kernel_rfl,rfl,by kernel_rfl⟩ false [] _ fun args r h=>by
  obtain⟨⟨l,i⟩,rfl,⟨h1,h2⟩,rfl⟩:=zg h
  unfold lim at h1 h2
  simp only at h1 h2
  refine⟨by simp[f44],_,ze rfl ?_,zY _⟩
  have w1:IntKind.i64.wrap ((i:Int)+1)=(i:Int)+1:=zi (by omega) (by omega)
  by_cases hlt:i+1<l.length
  ·have hlt':(i:Int)+1<l.length:=by omega
   have i1:((i:Int)+1).toNat=i+1:=by omega
   have i2:0≤(i:Int)+1:=by omega
   simp[w1,hlt,hlt',i1,i2,endF,Phs.enc,f44]
  ·have hlt':¬(i:Int)+1<l.length:=by omega
   have hno:l[i+1]?=none:=List.getElem?_eq_none (by omega)
   simp[w1,hlt',endF,hno,f44]
def yo:List Sp→List Sp→Bool
 | a::l,b::m=>if a.2≤b.1 then yo l (b::m) else if b.2≤a.1 then yo (a::l) m else true
 | _,_=>false
termination_by a b=>a.length+b.length
theorem meets_drop {a b:List Sp} {i k:Nat} (hi:i<a.length) (hk:k<b.length):yo (a.drop i) (b.drop k)=if a[i].2≤b[k].1 then yo (a.drop (i+1)) (b.drop k) else if b[k].2≤a[i].1 then yo (a.drop i) (b.drop (k+1)) else true:=by
 rw[List.drop_eq_getElem_cons hi,List.drop_eq_getElem_cons hk,yo]
theorem meets_nil_l (b:List Sp):yo [] b=false:=by unfold yo;rfl
theorem meets_nil_r (a:List Sp):yo a []=false:=by cases a<;>(unfold yo;rfl)
theorem meets_eval (a b:List Sp) (ha:a.length≤lim) (hb:b.length≤lim):zl C0 f124 [.sl 2 (a.map encS),.sl 2 (b.map encS)]=some (boo (yo a b)):=by
 unfold lim at ha hb
 refine ze rfl ?_
 simp
 refine jF (fun st=>st.σ 0=.sl 2 (a.map encS)∧st.σ 1=.sl 2 (b.map encS)∧∃i k:Nat,st.σ 5=int i∧st.σ 6=int k∧i≤a.length∧k≤b.length∧yo a b=yo (a.drop i) (b.drop k))
  (fun st=>a.length+b.length - (numAt (st.σ 5)).toNat - (numAt (st.σ 6)).toNat) ⟨by simp,by simp,0,0,by simp,by simp,by simp,by simp,by simp⟩ ?_
 rintro⟨σ,hp,nx⟩ ⟨h0,h1,i,k,h5,h6,hi,hk,he⟩
 simp only at h0 h1 h5 h6
 by_cases hia:i<a.length
 ·by_cases hkb:k<b.length
  ·rw[meets_drop hia hkb] at he
   have wi:IntKind.i64.wrap ((i:Int)+1)=(i:Int)+1:=zi (by omega) (by omega)
   have wk:IntKind.i64.wrap ((k:Int)+1)=(k:Int)+1:=zi (by omega) (by omega)
   by_cases h2:a[i].2≤b[k].1
   ·rw[if_pos h2] at he
    simp[h0,h1,h5,h6,hia,hkb,h2,wi]
    exact⟨⟨i+1,by omega,k,rfl,by omega,hk,he⟩,by omega⟩
   ·rw[if_neg h2] at he
    by_cases h3:b[k].2≤a[i].1
    ·rw[if_pos h3] at he
     simp[h0,h1,h5,h6,hia,hkb,h2,h3,wk]
     exact⟨⟨i,rfl,k+1,by omega,hi,by omega,he⟩,by omega⟩
    ·rw[if_neg h3] at he
     simp[h0,h1,h5,h6,hia,hkb,h2,h3,he,f124]
  ·obtain rfl:k=b.length:=by omega
   rw[List.drop_length,meets_nil_r] at he
   simp[h0,h1,h5,h6,hia,he,f124]
 ·obtain rfl:i=a.length:=by omega
  rw[List.drop_length,meets_nil_l] at he
  simp[h0,h1,h5,h6,he,f124]
theorem meets_sound:za prog 124 (zd false [] (FPP (fun a b=>boo (yo a b)) fun a b=>a.length≤lim∧b.length≤lim)) :=
 zZ (fn:=f124) q7 ⟨_,func124,by kernel_rfl,rfl,by kernel_rfl⟩ false [] _ fun args r h=>by
  obtain⟨⟨a,b⟩,rfl,hx,rfl⟩:=zg h
  exact⟨by simp[f124],_,meets_eval a b hx.1 hx.2,zY _⟩
def nearB (a b:List Phs) (i k:Nat) (p q:Phs) (rest:Int):Bool:=(decide (p.at_≤q.at_)&&decide (q.at_<endF a i+rest))||(decide (q.at_≤p.at_)&&decide (p.at_<endF b k+rest))
def hitB (a b:List Phs) (i k:Nat) (p q:Phs) (rest:Int):Bool:=nearB a b i k p q rest&&yo p.spans q.spans
def clash2 (a b:List Phs) (i:Nat) (p:Phs) (rest:Int):Nat→List Phs→Bool
 | _,[]=>false
 | k,q::l=>hitB a b i k p q rest||clash2 a b i p rest (k+1) l
def clash1 (a b:List Phs) (rest:Int):Nat→List Phs→Bool
 | _,[]=>false
 | i,p::l=>clash2 a b i p rest 0 b||clash1 a b rest (i+1) l
def clashB (a b:Xp) (rest:Int):Bool:=clash1 a.phases b.phases rest 0 a.phases
def timesOk (l:List Phs):Prop:=∀p∈l,0≤p.at_∧p.at_≤4000000000
theorem end_range {l:List Phs} (h:timesOk l) (i:Nat):0≤endF l i∧endF l i≤1125899906842624:=by
 unfold endF
 split
 ·rename_i p hp
  have:=h p (List.mem_of_getElem? hp)
  omega
 ·omega
def Xp.okC (x:Xp):Prop:=timesOk x.phases∧x.cb≤lim
noncomputable def FClash:List PV→Option PV:=zM (α:=Xp×Xp×Int) (fun a=>[.agg a.1.enc,.agg a.2.1.enc,int a.2.2]) (fun a=>a.1.okC∧a.2.1.okC∧0≤a.2.2∧a.2.2≤100000000) (fun a=>boo (clashB a.1 a.2.1 a.2.2))
theorem freeze_xp (hp:Hp) (x:Xp):zC hp (.agg x.enc)=some (.agg x.enc,hp):=by
 rw[zF]
 simp
theorem noOwn_xp (x:Xp):PV.noOwn (.agg x.enc)=true:=by
 rw[zF]
 simp
theorem FClash_call (a b:Xp) (rest:Int) (hp:Hp) (nx:Nat) (h:a.okC∧b.okC∧0≤rest∧rest≤100000000):zd false [] FClash [.agg a.enc,.agg b.enc,int rest] hp nx=some (boo (clashB a b rest),hp,nx) :=
 zJ (hp1:=hp) (show zk hp [.agg a.enc,.agg b.enc,int rest]=some ([.agg a.enc,.agg b.enc,int rest],hp) by simp only[zk,freeze_xp];rfl) (zq (enc:=fun a:Xp×Xp×Int=>[.agg a.1.enc,.agg a.2.1.enc,int a.2.2]) (a:=(a,b,rest)) (fun x y e=>by
  obtain⟨x1,x2,x3⟩:=x;obtain⟨y1,y2,y3⟩:=y
  simp only[List.cons.injEq,and_true,PV.agg.injEq] at e
  rw[vy e.1,vy e.2.1,zG e.2.2]) h) (.inl rfl)
noncomputable abbrev Ccla:Ctx:=zN prog [(44,zd false [] (FPi2 fun l i=>int (endF l i))),(124,zd false [] (FPP (fun a b=>boo (yo a b)) fun a b=>a.length≤lim∧b.length≤lim))]
theorem goodcla:AM.Good Ccla (fun g=>[44,124].contains g):=zr mixed ⟨end_sound,fun _=>zf _ _,meets_sound,fun _=>zf _ _,trivial⟩
@[simp] theorem quietcla1:qE Ccla 44:=zW (by rfl) (zf _ _)
@[simp] theorem quietcla2:qE Ccla 124:=zW (by rfl) (zf _ _)
theorem clash1_drop {a b:List Phs} {rest:Int} {i:Nat} {l:List Phs} (h:i<l.length):clash1 a b rest i (l.drop i)=(clash2 a b i l[i] rest 0 b||clash1 a b rest (i+1) (l.drop (i+1))):=by
 rw[List.drop_eq_getElem_cons h,clash1]
theorem clash2_drop {a b:List Phs} {rest:Int} {i k:Nat} {p:Phs} {l:List Phs} (h:k<l.length):clash2 a b i p rest k (l.drop k)=(hitB a b i k p l[k] rest||clash2 a b i p rest (k+1) (l.drop (k+1))):=by
 rw[List.drop_eq_getElem_cons h,clash2]
set_option maxHeartbeats 2000000 in
theorem clash_eval (a b:Xp) (rest:Int) (ha:a.okC) (hb:b.okC) (hr:0≤rest∧rest≤100000000):zl Ccla f99 [.agg a.enc,.agg b.enc,int rest]=some (boo (clashB a b rest)):=by
 obtain⟨hta,hca⟩:=ha
 obtain⟨htb,hcb⟩:=hb
 have hla:=qb kC a.phases
 have hlb:=qb kC b.phases
 have xca:a.cb=a.name.length+a.layer.length+a.flag.length+a.cond.cb+a.salt.length+a.arms.length+sumB Phs.cb a.phases:=rfl
 have xcb:b.cb=b.name.length+b.layer.length+b.flag.length+b.cond.cb+b.salt.length+b.arms.length+sumB Phs.cb b.phases:=rfl
 unfold lim at hca hcb
 refine ze rfl ?_
 simp[zF]
 have hval:clashB a b rest=clash1 a.phases b.phases rest 0 a.phases:=rfl
 refine zD (fun i σ hp nx=>σ 2=int rest∧σ 3=.ref 0 0 0∧σ 4=.ref 1 0 0∧σ 13=.sl 2 (a.phases.map Phs.enc)∧σ 14=int a.phases.length∧σ 15=int i∧2≤nx∧hp 0=some ⟨34,13,false,[a.enc]⟩∧hp 1=some ⟨34,13,false,[b.enc]⟩∧clashB a b rest=clash1 a.phases b.phases rest i (a.phases.drop i)) a.phases.length
  ⟨by simp,by simp,by simp,by simp,by simp,by simp,by simp,by simp[zF],by simp[zF],by rw[hval];simp⟩ ?_
 rintro i σ hp nx hi ⟨h2,h3,h4,h13,h14,h15,hnx,b0,b1,he⟩
 by_cases hlt:i<a.phases.length
 ·obtain⟨p,hpd⟩:∃p,a.phases[i]=p:=⟨_,rfl⟩
  have hpm:=hta p (by rw[←hpd];exact List.getElem_mem hlt)
  have hsp:=qL (f:=Phs.cb) (show p∈a.phases by rw[←hpd];exact List.getElem_mem hlt)
  have hpc:p.cb=1+p.spans.length:=rfl
  rw[clash1_drop hlt,hpd] at he
  have hwi:IntKind.i64.wrap ((i:Int)+1)=(i:Int)+1:=zi (by omega) (by omega)
  have n0:¬0=nx:=by omega
  have n1:¬1=nx:=by omega
  simp[h2,h3,h4,h13,h14,h15,hlt,hpd,Phs.enc,b0,b1,n0,n1,zF]
  obtain⟨P,hP⟩:∃P,nx=P:=⟨_,rfl⟩
  rw[hP]
  have hea:=end_range hta i
  refine zD (fun k σ hp nx=>σ 2=int rest∧σ 3=.ref 0 0 0∧σ 4=.ref 1 0 0∧σ 13=.sl 2 (a.phases.map Phs.enc)∧σ 14=int a.phases.length∧σ 15=int i∧σ 7=int i∧σ 8=.ref P 0 0∧σ 21=.sl 2 (b.phases.map Phs.enc)∧σ 22=int b.phases.length∧σ 23=int k∧2≤P∧P<nx ∧
    hp 0=some ⟨34,13,false,[a.enc]⟩∧hp 1=some ⟨34,13,false,[b.enc]⟩∧hp P=some ⟨58,2,false,[p.enc]⟩∧clashB a b rest=(clash2 a.phases b.phases i p rest k (b.phases.drop k)||clash1 a.phases b.phases rest (i+1) (a.phases.drop (i+1)))) b.phases.length
   ⟨by simp[h2],by simp[h3],by simp[h4],by simp[h13],by simp[h14],by simp[h15],by simp,by simp,by simp,by simp,by simp,by omega,(by show P<P+1;omega),by simp[b0,show ¬0=P by omega],by simp[b1,show ¬1=P by omega],by simp[Phs.enc],by simpa using he⟩ ?_
  clear h2 h3 h4 h13 h14 h15 hnx b0 b1 n0 n1 hP hi σ hp nx
  rintro k σ hp nx hk ⟨h2,h3,h4,h13,h14,h15,h7,h8,h21,h22,h23,hP2,hPn,b0,b1,bP,he⟩
  by_cases hltk:k<b.phases.length
  ·obtain⟨q,hqd⟩:∃q,b.phases[k]=q:=⟨_,rfl⟩
   have hqm:=htb q (by rw[←hqd];exact List.getElem_mem hltk)
   have hsq:=qL (f:=Phs.cb) (show q∈b.phases by rw[←hqd];exact List.getElem_mem hltk)
   have hqc:q.cb=1+q.spans.length:=rfl
   rw[clash2_drop hltk,hqd] at he
   have hwk:IntKind.i64.wrap ((k:Int)+1)=(k:Int)+1:=zi (by omega) (by omega)
   have heb:=end_range htb k
   have wa:IntKind.i64.wrap (endF a.phases i+rest)=endF a.phases i+rest:=zi (by omega) (by omega)
   have wb:IntKind.i64.wrap (endF b.phases k+rest)=endF b.phases k+rest:=zi (by omega) (by omega)
   have hce:=fun hp nx=>FPi2_call (fun l i=>int (endF l i)) a.phases i hp nx ⟨by unfold lim;omega,by unfold lim;omega⟩
   have hcf:=fun hp nx=>FPi2_call (fun l i=>int (endF l i)) b.phases k hp nx ⟨by unfold lim;omega,by unfold lim;omega⟩
   have hcm:=fun hp nx=>jM (fun a b=>boo (yo a b)) (fun a b=>a.length≤lim∧b.length≤lim) p.spans q.spans hp nx ⟨by unfold lim;omega,by unfold lim;omega⟩
   have n0:¬0=nx:=by omega
   have n1:¬1=nx:=by omega
   have nP:¬P=nx:=by omega
   have hnear:((decide (p.at_≤q.at_)&&decide (q.at_<endF a.phases i+rest))||(decide (q.at_≤p.at_)&&decide (p.at_<endF b.phases k+rest)))=nearB a.phases b.phases i k p q rest:=rfl
   have hhit:(nearB a.phases b.phases i k p q rest&&yo p.spans q.spans)=hitB a.phases b.phases i k p q rest:=rfl
   rw[Phs.enc] at bP
   rw[zF] at b0 b1
   cases hh:hitB a.phases b.phases i k p q rest
   ·rw[hh] at he
    simp[h2,h3,h4,h7,h8,h13,h14,h15,h21,h22,h23,hltk,hqd,Phs.enc,b0,b1,bP,n0,n1,nP,hce,hcf,hcm,wa,wb,hnear,hhit,hh,hwk]
    exact⟨by omega,hP2,by omega,(zF a).symm,(zF b).symm,by rw[he];rfl⟩
   ·rw[hh] at he
    simp[h2,h3,h4,h7,h8,h13,h14,h15,h21,h22,h23,hltk,hqd,Phs.enc,b0,b1,bP,n0,n1,nP,hce,hcf,hcm,wa,wb,hnear,hhit,hh,he,f99]
  ·obtain rfl:k=b.phases.length:=by omega
   rw[List.drop_length] at he
   simp only[clash2,Bool.false_or] at he
   simp[h2,h3,h4,h13,h14,h15,h21,h22,h23,hwi]
   exact⟨by omega,by omega,by rw[←zF];exact b0,by rw[←zF];exact b1,he⟩
 ·obtain rfl:i=a.phases.length:=by omega
  rw[List.drop_length] at he
  simp only[clash1] at he
  simp[h2,h3,h4,h13,h14,h15,he,f99]
set_option maxRecDepth 100000 in
theorem clash_sound:za prog 99 (zd false [] FClash) :=
 zZ (fn:=f99) goodcla ⟨_,func99,by kernel_rfl,rfl,by kernel_rfl⟩ false [] _ fun args r h=>by
  obtain⟨⟨a,b,rest⟩,rfl,⟨h1,h2,h3⟩,rfl⟩:=zg h
  exact⟨by simp[f99],_,clash_eval a b rest h1 h2 h3,zY _⟩
end Go.Proofs.YtglppmnehgjolaaGreatDoor
namespace Go.AM
open Go.RowKit
section
variable (C:Ctx) (ρ:Operand→Option PV) (hp:Hp) (nx:Nat)
@[simp] theorem op_lookup (t:TypeId) (x i:Operand) (ok:Bool):zB C ρ hp nx (.lookup t x i ok)=(do let p ←ρ x;let q ←ρ i;let r ←kL C.P hp t p q ok;some (r,hp,nx)):=by
 simp only[zB];cases ρ x<;>cases ρ i<;>(try rfl);simp;cases kL C.P hp t _ _ ok<;>rfl
@[simp] theorem op_mapUpdate (t:TypeId) (m k x:Operand):zB C ρ hp nx (.mapUpdate t m k x)=(do let p ←ρ m;let q ←ρ k;let y ←ρ x;let h ←kM C.P hp t p q y;some (.tup [],h,nx)):=by
 simp only[zB];cases ρ m<;>cases ρ k<;>cases ρ x<;>(try rfl);simp;cases kM C.P hp t _ _ _<;>rfl
@[simp] theorem op_makeMap (t:TypeId):zB C ρ hp nx (.makeMap t none)=(do let _ ←mapKT C.P t;some (.mp nx,upd hp nx (some ⟨t,0,false,[]⟩),nx+1)):=by
 simp only[zB];cases mapKT C.P t<;>rfl
end
end Go.AM
namespace Go.Proofs.YtglppmnehgjolaaGreatDoor
open Go.Proofs.Tryz
open Go.RowKit Go.AM Go.SpanLaw
def entM (l:List (List UInt8)):List (List PV):=l.map fun s=>[str s,boo true]
def blkM (l:List (List UInt8)):Blk:=⟨82,0,false,entM l⟩
theorem findE_set (s:List UInt8):∀(l:List (List UInt8)) (i:Nat),(s ∉ l→findE (.string ⟨s.toArray⟩) (entM l) i=some none)∧(s∈l→∃j,findE (.string ⟨s.toArray⟩) (entM l) i=some (some (j,boo true)))
 | [],i=>⟨fun _=>rfl,fun h=>by simp at h⟩
 | x::l,i=>by
   obtain⟨h1,h2⟩:=findE_set s l (i+1)
   by_cases he:s=x
   ·refine⟨fun h=>absurd (by simp[he]) h,fun _=>⟨i,?_⟩⟩
    subst he
    simp[entM,findE,ko]
   ·have hk:ko (.string ⟨s.toArray⟩) (.string ⟨x.toArray⟩)=some false:=by
     simp only[ko]
     congr 1
     rw[beq_eq_false_iff_ne]
     intro e
     exact he (by simpa[ByteArray.toList_eq] using e)
    have hf:findE (.string ⟨s.toArray⟩) (entM (x::l)) i=findE (.string ⟨s.toArray⟩) (entM l) (i+1):=by
     simp only[entM,List.map_cons,findE,hk]
    refine⟨fun h=>by rw[hf];exact h1 fun h'=>h (List.mem_cons_of_mem _ h'),fun h=>?_⟩
    rcases List.mem_cons.1 h with h | h
    ·exact absurd h he
    ·rw[hf];exact h2 h
@[simp] theorem mapKT_set:mapKT prog 82=some (none,4):=by kernel_rfl
@[simp] theorem zeroV_bool:zeroV prog 4=some (boo false):=by kernel_rfl
theorem look_set {hp:Hp} {id:Nat} {l:List (List UInt8)} (s:List UInt8) (h:hp id=some (blkM l)):kL prog hp 82 (.mp id) (str s) false=some (boo (decide (s∈l))):=by
 obtain⟨h1,h2⟩:=findE_set s l 0
 by_cases hm:s∈l
 ·obtain⟨j,hj⟩:=h2 hm
  simp[kL,entsA,h,blkM,keyOk,hj,hm]
 ·simp[kL,entsA,h,blkM,keyOk,h1 hm,hm]
theorem put_set {hp:Hp} {id:Nat} {l:List (List UInt8)} (s:List UInt8) (h:hp id=some (blkM l)) (hs:s ∉ l):kM prog hp 82 (.mp id) (str s) (boo true)=some (upd hp id (some (blkM (l++[s])))):=by
 obtain⟨h1,h2⟩:=findE_set s l 0
 simp[kM,h,blkM,keyOk,h1 hs]
 simp[entM]
def blkC (b:Bk) (m g:Nat) (any:Bool):Blk:=⟨84,6,false,[b.enc++[.mp m,.mp g,boo any]]⟩
theorem yN (b:Bk) (m g:Nat) (any:Bool):blkC b m g any=⟨84,6,false,[[.sl 3 (b.layers.map Lyr.enc),.sl 4 (b.holds.map Hld.enc),.sl 13 (b.exps.map Xp.enc),.mp m,.mp g,boo any]]⟩:=rfl
def jR (l:List (List UInt8)) (s:List UInt8):Int:=if saltB s=true then (if s∈l then 7 else 0) else 3
def jC (l:List (List UInt8)) (s:List UInt8):List (List UInt8):=if jR l s=0 then l++[s] else l
noncomputable abbrev Csal:Ctx:=zN prog [(116,zd false [] (FS saltB))]
theorem goodsal:AM.Good Csal (fun g=>([]:List Nat).contains g):=zr mixed ⟨isSalt_sound,by simp,trivial⟩
set_option maxRecDepth 100000 in
theorem salt_sound:za prog 92 (hRun Csal f92):=zS (code:=_) goodsal ⟨func92,by kernel_rfl,rfl,by kernel_rfl⟩
theorem salt_run (b:Bk) (l:List (List UInt8)) (s:List UInt8) (hs:s.length≤lim) (any:Bool) (hp:Hp) (nx id m g:Nat) (hc:hp id=some (blkC b m g any)) (hm:hp m=some (blkM l)) :
  hRun Csal f92 [.ref id 0 0,str s] hp nx=some (int (jR l s),upd hp m (some (blkM (jC l s))),nx):=by
 unfold hRun
 rw[if_pos (by simp[f92])]
 refine wu rfl ?_
 rw[yN] at hc
 have hl:=look_set s hm
 cases hb:saltB s
 ·have h0:jR l s=3:=by simp[jR,hb]
  have hS:upd hp m (some (blkM (jC l s)))=hp:=upd_id _ _ _ (by rw[jC,h0];exact hm)
  simp[hs,hb,h0,hS,f92]
 ·by_cases hx:s∈l
  ·have h0:jR l s=7:=by simp[jR,hb,hx]
   have hS:upd hp m (some (blkM (jC l s)))=hp:=upd_id _ _ _ (by rw[jC,h0];exact hm)
   rw[decide_eq_true hx] at hl
   simp[hs,hb,h0,hS,hc,hl,f92]
  ·have h0:jR l s=0:=by simp[jR,hb,hx]
   have hS:jC l s=l++[s]:=by rw[jC,h0];rfl
   have hp:=put_set s hm hx
   rw[decide_eq_false hx] at hl
   simp[hs,hb,h0,hS,hc,hl,hp,f92]
def jS (r:PV) (l:List (List UInt8)) (m:Nat) (hp:Hp) (nx:Nat) (x:PV) (hp':Hp) (nx':Nat):Prop:=x=r∧nx≤nx'∧hp' m=some (blkM l)∧∀j,j<nx→j≠m→hp' j=hp j
def wh:List UInt8→List (List UInt8)→List Lyr→Int×List (List UInt8)
 | _,l,[]=>(0,l)
 | before,l,x::xs=>if yH x.name before=0 then (if jR l x.salt=0 then (if inB x.rest 0 100000000=true then wh x.name (jC l x.salt) xs else (1,jC l x.salt)) else (jR l x.salt,jC l x.salt)) else (yH x.name before,l)
noncomputable abbrev Clay:Ctx:=zN prog [(91,zd false [] (FSS2 fun a b=>int (yH a b))),(92,hRun Csal f92),(13,zd false [] (F3 inB))]
theorem goodlay:AM.Good Clay (fun g=>([]:List Nat).contains g):=zr mixed ⟨jy,by simp,salt_sound,by simp,ww,by simp,trivial⟩
set_option maxRecDepth 100000 in
theorem layers_sound:za prog 66 (hRun Clay f66):=zS (code:=_) goodlay ⟨func66,by kernel_rfl,rfl,by kernel_rfl⟩
theorem layers_run (b:Bk) (l:List (List UInt8)) (hb:b.cb≤lim) (any:Bool) (hp0:Hp) (nx0 id m g:Nat) (hid:id<nx0) (hmd:m<nx0) (hne:id≠m) (hc0:hp0 id=some (blkC b m g any)) (hm0:hp0 m=some (blkM l)) :
  ∃x hp' nx',hRun Clay f66 [.ref id 0 0] hp0 nx0=some (x,hp',nx')∧jS (int (wh [] l b.layers).1) (wh [] l b.layers).2 m hp0 nx0 x hp' nx':=by
 unfold hRun
 rw[if_pos (by simp[f66])]
 refine zn rfl ?_
 have hlen:=qb vA b.layers
 have hbc:b.cb=sumB Lyr.cb b.layers+sumB Hld.cb b.holds+sumB Xp.cb b.exps:=rfl
 unfold lim at hb
 have hc:=hc0
 rw[yN] at hc
 simp[hc]
 refine zD (fun k σ hp nx=>σ 0=.ref id 0 0∧σ 12=.sl 3 (b.layers.map Lyr.enc)∧σ 13=int b.layers.length∧σ 14=int k∧nx0≤nx∧(∀j,j<nx0→j≠m→hp j=hp0 j)∧∃(before:List UInt8) (l':List (List UInt8)),σ 3=str before∧hp m=some (blkM l')∧wh [] l b.layers=wh before l' (b.layers.drop k)) b.layers.length
  ⟨by simp,by simp,by simp,by simp,Nat.le_refl _,fun _ _ _=>rfl,[],l,by simp,hm0,by simp⟩ ?_
 rintro k σ hp nx hk ⟨h0,h12,h13,h14,hnx,hfr,before,l',h3,hm,he⟩
 by_cases hlt:k<b.layers.length
 ·obtain⟨x,hx⟩:∃x,b.layers[k]=x:=⟨_,rfl⟩
  have hmx:=qL (f:=Lyr.cb) (List.getElem_mem hlt)
  rw[hx] at hmx
  have hxc:x.cb=1+x.name.length+x.salt.length:=rfl
  rw[List.drop_eq_getElem_cons hlt,hx] at he
  simp only[wh] at he
  have hw:IntKind.i64.wrap ((k:Int)+1)=(k:Int)+1:=zi (by omega) (by omega)
  have hnf:=fun hp nx=>FSS2_call (fun a b=>int (yH a b)) x.name before hp nx (by unfold lim;omega) (by simp)
  have nm:¬m=nx:=by omega
  have ni:¬id=nx:=by omega
  have hci:upd hp nx (some ⟨90,3,false,[x.enc]⟩) id=some (blkC b m g any):=by rw[zc _ _ _ _ ni,hfr id hid hne];exact hc0
  have hmi:upd hp nx (some ⟨90,3,false,[x.enc]⟩) m=some (blkM l'):=by rw[zc _ _ _ _ nm];exact hm
  have hsr:=salt_run b l' x.salt (by unfold lim;omega) any _ (nx+1) id m g hci hmi
  simp only[Lyr.enc] at hsr
  have hnx':¬nx=m:=by omega
  by_cases c1:yH x.name before=0
  case neg =>
   rw[if_neg c1] at he
   have c1':(yH x.name before != 0)=true:=by simpa using c1
   simp[h0,h3,h12,h13,h14,hlt,hx,Lyr.enc,hnf,c1',f66,jS,he]
   exact⟨by omega,by rw[zc _ _ _ _ nm];exact hm,fun j hj hjm=>by rw[zc _ _ _ _ (by omega)];exact hfr j hj hjm⟩
  rw[if_pos c1] at he
  by_cases c2:jR l' x.salt=0
  case neg =>
   rw[if_neg c2] at he
   have c2':(jR l' x.salt != 0)=true:=by simpa using c2
   simp[h0,h3,h12,h13,h14,hlt,hx,Lyr.enc,hnf,c1,hsr,c2',f66,jS,he]
   exact⟨by omega,fun j hj hjm=>by rw[zc _ _ _ _ hjm,zc _ _ _ _ (by omega)];exact hfr j hj hjm⟩
  rw[if_pos c2] at he
  cases c3:inB x.rest 0 100000000
  ·rw[c3,if_neg (by simp)] at he
   simp[h0,h3,h12,h13,h14,hlt,hx,Lyr.enc,hnf,c1,hsr,c2,c3,hnx',f66,jS,he]
   exact⟨by omega,fun j hj hjm=>by rw[zc _ _ _ _ hjm,zc _ _ _ _ (by omega)];exact hfr j hj hjm⟩
  ·rw[c3,if_pos rfl] at he
   simp[h0,h3,h12,h13,h14,hlt,hx,Lyr.enc,hnf,c1,hsr,c2,c3,hnx',hw]
   exact⟨by omega,by omega,fun j hj hjm=>by rw[zc _ _ _ _ hjm,zc _ _ _ _ (by omega)];exact hfr j hj hjm,jC l' x.salt,rfl,he⟩
 ·obtain rfl:k=b.layers.length:=by omega
  rw[List.drop_length] at he
  simp only[wh] at he
  simp[h0,h12,h13,h14,f66,jS,he]
  exact⟨hnx,hm,hfr⟩
end Go.Proofs.YtglppmnehgjolaaGreatDoor
