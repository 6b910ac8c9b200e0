/-
Attributes: the binary search of the program, the reference's search.
-/
import Derived.Test.YtjcofiomfmebkaaGreatDoorG25
import Derived.Test.YtjcofiomfmebkaaGreatDoorG17
import Derived.Test.YtjcofiomfmebkaaGreatDoorG24
import Derived.Test.YtjcofiomfmebkaaGreatDoorG26
import Derived.Test.YtjcofiomfmebkaaGreatDoorG27
import Derived.Test.YtjcofiomfmebkaaGreatDoorG29
import Derived.Test.YtjcofiomfmebkaaGreatDoorG28
set_option maxRecDepth 8000
namespace Go.Proofs.YtjcofiomfmebkaaGreatDoor
open Go.Proofs.Tryz
open Go.RowKit Go.AM
noncomputable def FFS (f:List UInt8×Val→List UInt8→PV):List PV→Option PV:=zJ (α:=(List UInt8×Val)×List UInt8) (fun a=>[.agg (wF a.1),str a.2]) (fun _=>True) (fun a=>f a.1 a.2)
theorem zgz (hp:Hp) (x:List UInt8×Val):zE hp (.agg (wF x))=some (.agg (wF x),hp):=by simp[wF]
theorem zjT (x:List UInt8×Val):PV.noOwn (.agg (wF x))=true:=by
 have:=Kz x.2
 simp only[PV.noOwn,Bool.not_eq_true',wF,List.any_cons] at this ⊢
 simpa using this
theorem zh6 (f:List UInt8×Val→List UInt8→PV) (x:List UInt8×Val) (s:List UInt8) (hp:Hp) (nx:Nat):zd false [] (FFS f) [.agg (wF x),str s] hp nx=some (f x s,hp,nx) :=
 zH (hp1:=hp) (show zj hp [.agg (wF x),str s]=some ([.agg (wF x),str s],hp) by simp only[zj,zgz];simp)
  (zm (enc:=fun a:(List UInt8×Val)×List UInt8=>[PV.agg (wF a.1),str a.2]) (a:=(x,s)) (fun a b e=>by
   obtain⟨a1,a2⟩:=a;obtain⟨b1,b2⟩:=b
   simp only[List.cons.injEq,and_true,PV.agg.injEq] at e
   obtain⟨e1,e2⟩:=e
   have e1:wF a1=wF b1:=by simpa only[wF,List.cons.injEq] using e1
   rw[zbR e1,qg e2]) trivial) (.inr (by simp only[List.all_cons,zjT,List.all_nil];rfl))
noncomputable abbrev Cac:Ctx:=zC prog [(25,zd false [] (F2S wW))]
theorem zca:za prog 77 (zd false [] (FFS fun x s=>int (wW x.1 s))) :=
 zL (fn:=f77) (zk (q:=[]) mixed ⟨wX,by simp,trivial⟩:AM.Good Cac _) ⟨_,func77,by kernel_rfl,rfl,by kernel_rfl⟩ false [] _ fun args r h=>by
  obtain⟨⟨x,s⟩,rfl,_,rfl⟩:=ze h
  exact⟨by simp[f77],_,zb rfl (by simp[f77,wF]),zK _⟩
noncomputable def Qx (l:List (List UInt8×Val)) (s:List UInt8) (k:Nat):Bool:=match l[k]? with
 | some x=>decide (wW x.1 s<0)
 | none=>false
noncomputable def xe (l:List (List UInt8×Val)) (s:List UInt8):Nat×Bool:=(bsGo (Qx l s) 0 l.length,match l[bsGo (Qx l s) 0 l.length]? with
 | some x=>wW x.1 s==0
 | none=>false)
noncomputable def zvy (g:Nat):List PV→Option PV:=zJ (α:=List (List UInt8×Val)×List UInt8) (fun a=>[.sl 6 (a.1.map wF),str a.2,.fn (.func g) [] []]) (fun a=>a.1.length≤lim) (fun a=>.tup [int (xe a.1 a.2).1,boo (xe a.1 a.2).2])
theorem zmW (g:Nat) (l:List (List UInt8×Val)) (s:List UInt8) (hp:Hp) (nx:Nat) (h:l.length≤lim):zd false [] (zvy g) [.sl 6 (l.map wF),str s,.fn (.func g) [] []] hp nx=some (.tup [int (xe l s).1,boo (xe l s).2],hp,nx) :=
 zH rfl (zm (enc:=fun a:List (List UInt8×Val)×List UInt8=>[PV.sl 6 (a.1.map wF),str a.2,.fn (.func g) [] []]) (a:=(l,s)) (fun a b e=>by
  obtain⟨a1,a2⟩:=a;obtain⟨b1,b2⟩:=b
  simp only[List.cons.injEq,and_true] at e
  obtain⟨e1,e2⟩:=e
  injection e1 with _ e1
  rw[yz (fun _ _=>zbR) e1,qg e2]) h) (.inl rfl)
noncomputable abbrev Cbs:Ctx:=zC prog [(77,zd false [] (FFS fun x s=>int (wW x.1 s)))]
theorem zsg (l:List (List UInt8×Val)) (s:List UInt8) (hl:l.length≤lim):zg Cbs f76 [.sl 6 (l.map wF),str s,.fn (.func 77) [] []]=some (.tup [int (xe l s).1,boo (xe l s).2]):=by
 refine zb rfl ?_
 unfold lim at hl
 simp
 refine kX (fun st=>st.σ 0=.sl 6 (l.map wF)∧st.σ 1=str s∧st.σ 2=.fn (.func 77) [] []∧st.σ 8=int l.length∧∃lo hi:Nat,lo≤hi∧hi≤l.length∧st.σ 9=int lo∧st.σ 10=int hi∧bsGo (Qx l s) 0 l.length=bsGo (Qx l s) lo hi)
  (fun st=>(Jp (st.σ 10)).toNat - (Jp (st.σ 9)).toNat) ⟨by simp,by simp,by simp,by simp,0,l.length,by simp,by simp,by simp,by simp,rfl⟩ ?_
 rintro⟨σ,hp,nx⟩ ⟨h0,h1,h2,h8,lo,hi,hlh,hhi,h9,h10,he⟩
 simp only at h0 h1 h2 h8 h9 h10
 by_cases hlt:lo<hi
 ·have hcall:=fun x hp nx=>zh6 (fun x s=>int (wW x.1 s)) x s hp nx
  have w1:IntKind.i64.wrap ((lo:Int)+hi)=(lo:Int)+hi:=zc (by omega) (by omega)
  have hml:(lo+hi) / 2<l.length:=by omega
  obtain⟨m,hm⟩:∃m,m=(lo+hi) / 2:=⟨_,rfl⟩
  have hmid:IntKind.i64.wrap ((IntKind.u64.wrap ((lo:Int)+hi)).fdiv (2 ^ min 1 IntKind.u64.bits))=(m:Int):=by
   have e1:IntKind.u64.wrap ((lo:Int)+hi)=(lo:Int)+hi:=by rw[IntKind.wrap_u64];omega
   have e2:(2 ^ min 1 IntKind.u64.bits:Int)=2:=by decide
   rw[e1,e2,Int.fdiv_eq_ediv_of_nonneg _ (by omega),zc (by omega) (by omega)]
   omega
  have hml':m<l.length:=by omega
  have wm:IntKind.i64.wrap ((m:Int)+1)=(m:Int)+1:=zc (by omega) (by omega)
  have hla:Qx l s m=decide (wW l[m].1 s<0):=by simp[Qx,hml']
  rw[Wq (lo:=lo) hlt,←hm,hla] at he
  have hcm:=hcall l[m]
  simp only[wF] at hcm
  by_cases hc:wW l[m].1 s<0
  ·simp only[hc,decide_true,if_true] at he
   simp[h0,h1,h2,h8,h9,h10,hlt,w1,hmid,hml',hcm,hc,wm]
   exact⟨⟨m+1,hi,by omega,hhi,by omega,rfl,he⟩,by omega⟩
  ·simp only[hc,decide_false,Bool.false_eq_true,if_false] at he
   simp[h0,h1,h2,h8,h9,h10,hlt,w1,hmid,hml',hcm,hc]
   exact⟨⟨lo,m,by omega,by omega,rfl,rfl,he⟩,by omega⟩
 ·have he:bsGo (Qx l s) 0 l.length=lo:=by rw[he,JS (lo:=lo) hlt]
  have hcall:=fun x hp nx=>zh6 (fun x s=>int (wW x.1 s)) x s hp nx
  unfold xe
  rw[he]
  by_cases hlo:lo<l.length
  ·have hcm:=hcall l[lo]
   simp only[wF] at hcm
   simp[h0,h1,h2,h8,h9,h10,hlt,hlo,hcm,f76,qe]
  ·have hlo':l[lo]?=none:=List.getElem?_eq_none (by omega)
   simp[h0,h1,h2,h8,h9,h10,hlt,hlo,hlo',f76,qe]
theorem zpG:za prog 76 (zd false [] (zvy 77)) :=
 zL (fn:=f76) (zk (q:=[77]) mixed ⟨zca,fun _=>zi _ _,trivial⟩:AM.Good Cbs _) ⟨_,func76,by kernel_rfl,rfl,by kernel_rfl⟩ false [] _ fun args r h=>by
  obtain⟨⟨l,s⟩,rfl,hl,rfl⟩:=ze h
  exact⟨Nat.le_trans (Nat.le_refl 3) (by decide),_,zsg l s hl,zK _⟩
def noVal:Val:=.mk 0 0 [] [] []
def VK (s:List UInt8):Val:=.mk 3 0 s [] []
def zsP:List UInt8:=[107,101,121]
noncomputable def Ctxt.find (x:Ctxt) (s:List UInt8):Val×Bool :=
 if s==zsP then (VK x.key,true) else match x.attrs[(xe x.attrs s).1]? with
  | some a=>if (xe x.attrs s).2 then (a.2,true) else (noVal,false)
  | none=>(noVal,false)
noncomputable def FXS (out:Ctxt→List UInt8→PV) (pre:Ctxt→List UInt8→Prop):List PV→Option PV:=zJ (α:=Ctxt×List UInt8) (fun a=>[.agg a.1.enc,str a.2]) (fun a=>a.1.cb≤lim∧a.2.length≤lim∧pre a.1 a.2) (fun a=>out a.1 a.2)
theorem zh7 (out:Ctxt→List UInt8→PV) (pre:Ctxt→List UInt8→Prop) (x:Ctxt) (s:List UInt8) (hp:Hp) (nx:Nat) (h:x.cb≤lim∧s.length≤lim∧pre x s):zd false [] (FXS out pre) [.agg x.enc,str s] hp nx=some (out x s,hp,nx) :=
 zH (hp1:=hp) (show zj hp [.agg x.enc,str s]=some ([.agg x.enc,str s],hp) by simp only[zj,Vo];simp)
  (zm (enc:=fun a:Ctxt×List UInt8=>[PV.agg a.1.enc,str a.2]) (a:=(x,s)) (fun a b e=>by
   obtain⟨a1,a2⟩:=a;obtain⟨b1,b2⟩:=b
   simp only[List.cons.injEq,and_true,PV.agg.injEq] at e
   rw[Z4 e.1,qg e.2]) h) (.inr (by simp only[List.all_cons,zan,List.all_nil];rfl))
theorem zpH {l:List (List UInt8×Val)} {s:List UInt8} (h:(xe l s).2=true):(xe l s).1<l.length:=by
 unfold xe at h ⊢
 simp only at h ⊢
 split at h
 ·rename_i x hx;exact (List.getElem?_eq_some_iff.1 hx).1
 ·cases h
def vq (r:Val×Bool):PV:=.tup [.agg r.1.enc,boo r.2]
noncomputable abbrev Cxa:Ctx:=zC prog [(76,zd false [] (zvy 77))]
theorem zcb (k n:Int) (s:List UInt8):Stands (.agg [int k,int n,str s,.nil,.nil]) (.agg (Val.mk k n s [] []).enc):=by
 rw[js]
 exact StandsL.agg (.cons (.refl _) (.cons (.refl _) (.cons (.refl _) (.cons (.nilOr (.inl ⟨rfl,rfl⟩)) (.cons (.nilOr (.inl ⟨rfl,rfl⟩)) .nil)))))
theorem zgA (x:Ctxt) (s:List UInt8) (h:x.cb≤lim):∃r0,zg Cxa f54 [.agg x.enc,str s]=some r0∧Stands r0 (vq (x.find s)):=by
 have hcb:=Jj x
 have hl2:=qQ x.attrs
 have hbs:=fun hp nx=>zmW 77 x.attrs s hp nx (by omega)
 refine kZ rfl ?_
 have hne:(s==zsP)=false→(xe x.attrs s).2=false→x.find s=(noVal,false):=fun h1 h2=>by
  unfold Ctxt.find
  rw[h1,h2]
  simp only[Bool.false_eq_true,if_false]
  split<;>rfl
 cases hk:(s==zsP)
 ·have hk':(s==[107,101,121])=false:=hk
  cases hb:(xe x.attrs s).2
  ·rw[hne hk hb]
   simp[Ctxt.enc,hk',hbs,hb,zx,zR,f54]
   refine⟨.tup [.agg [int 0,int 0,str [],.nil,.nil],boo false],by simp,?_⟩
   exact StandsL.tup (.cons (zcb 0 0 []) (.cons (.refl _) .nil))
  ·have hlt:=zpH hb
   have hf:x.find s=(x.attrs[(xe x.attrs s).1].2,true):=by
    unfold Ctxt.find
    rw[hk,hb]
    simp[hlt]
   rw[hf]
   simp[Ctxt.enc,hk',hbs,hb,hlt,f54]
   refine⟨vq (x.attrs[(xe x.attrs s).1].2,true),by simp[vq],.refl _⟩
 ·have hk':(s==[107,101,121])=true:=hk
  have hf:x.find s=(VK x.key,true):=by unfold Ctxt.find;rw[hk];rfl
  rw[hf]
  simp[Ctxt.enc,hk',zx,zR,f54]
  refine⟨.tup [.agg [int 3,int 0,str x.key,.nil,.nil],boo true],by simp,?_⟩
  exact StandsL.tup (.cons (zcb 3 0 x.key) (.cons (.refl _) .nil))
theorem zey:za prog 54 (zd false [] (FXS (fun x s=>vq (x.find s)) fun _ _=>True)) :=
 xw (fn:=f54) (zk (q:=[]) mixed ⟨zpG,by simp,trivial⟩:AM.Good Cxa _) ⟨_,func54,by kernel_rfl,rfl,by kernel_rfl⟩ false [] _ fun args r h w S vs hz=>by
  obtain⟨⟨x,s⟩,rfl,hx,rfl⟩:=ze h
  obtain⟨r0,h1,h2⟩:=zgA x s hx.1
  exact⟨_,r0,hz,Nat.le_trans (Nat.le_refl 2) (by decide),h1,h2⟩
def Za (s:List UInt8):List (List UInt8×Val)→Val×Bool
 | []=>(noVal,false)
 | a::l=>if a.1==s then (a.2,true) else Za s l
def Ctxt.rfind (x:Ctxt) (s:List UInt8):Val×Bool:=if s==zsP then (VK x.key,true) else Za s x.attrs
theorem zjU {l:List (List UInt8×Val)} {k:Nat} (h:k<l.length) (s:List UInt8):Za s (l.drop k)=if l[k].1==s then (l[k].2,true) else Za s (l.drop (k+1)):=by
 rw[List.drop_eq_getElem_cons h,Za]
theorem zez (x:Ctxt) (s:List UInt8) (h:x.cb≤lim):∃r0,zg C0 f89 [.agg x.enc,str s]=some r0∧Stands r0 (vq (x.rfind s)):=by
 have hcb:=Jj x
 have hl2:=qQ x.attrs
 unfold lim at h
 refine kZ rfl ?_
 unfold Ctxt.rfind
 cases hk:(s==zsP)
 ·have hk':(s==[107,101,121])=false:=hk
  simp[Ctxt.enc,hk']
  refine zu (fun k σ hp nx=>σ 1=str s∧σ 2=.ref 0 0 0∧σ 4=.ref 1 0 0∧σ 14=.sl 6 (x.attrs.map wF)∧σ 15=int x.attrs.length∧σ 16=int k∧2≤nx∧hp 1=some ⟨61,5,false,[[int 0,int 0,str [],.nil,.nil]]⟩∧Za s x.attrs=Za s (x.attrs.drop k)) x.attrs.length
   ⟨by simp,by simp,by simp,by simp,by simp,by simp,by simp,by simp[zx,zR],by simp⟩ ?_
  rintro k σ hp nx hk ⟨h1,h2,h4,h14,h15,h16,hnx,b1,hf⟩
  have n1:¬1=nx:=by omega
  by_cases hlt:k<x.attrs.length
  ·have hw:IntKind.i64.wrap ((k:Int)+1)=(k:Int)+1:=zc (by omega) (by omega)
   rw[zjU hlt] at hf
   cases d:(x.attrs[k].1==s)
   ·simp only[d,Bool.false_eq_true,if_false] at hf
    simp[h1,h2,h4,h14,h15,h16,hlt,d,hw]
    and_intros<;>first | omega | exact hf | simp[n1,b1]
   ·simp only[d,if_true] at hf
    rw[hf]
    simp[h1,h2,h4,h14,h15,h16,hlt,d,n1,b1,f89]
    exact⟨vq (x.attrs[k].2,true),by simp[vq],.refl _⟩
  ·obtain rfl:k=x.attrs.length:=by omega
   rw[List.drop_length] at hf
   rw[hf]
   simp[h1,h2,h4,h14,h15,h16,Za,b1,zx,zR,f89]
   refine⟨.tup [.agg [int 0,int 0,str [],.nil,.nil],boo false],by simp,?_⟩
   exact StandsL.tup (.cons (zcb 0 0 []) (.cons (.refl _) .nil))
 ·have hk':(s==[107,101,121])=true:=hk
  simp[Ctxt.enc,hk',zx,zR,f89]
  refine⟨.tup [.agg [int 3,int 0,str x.key,.nil,.nil],boo true],by simp,?_⟩
  exact StandsL.tup (.cons (zcb 3 0 x.key) (.cons (.refl _) .nil))
theorem zcc:za prog 89 (zd false [] (FXS (fun x s=>vq (x.rfind s)) fun _ _=>True)) :=
 xw (fn:=f89) (zk (q:=[]) mixed trivial:AM.Good C0 _) ⟨_,func89,by kernel_rfl,rfl,by kernel_rfl⟩ false [] _ fun args r h w S vs hz=>by
  obtain⟨⟨x,s⟩,rfl,hx,rfl⟩:=ze h
  obtain⟨r0,h1,h2⟩:=zez x s hx.1
  exact⟨_,r0,hz,Nat.le_trans (Nat.le_refl 2) (by decide),h1,h2⟩
def Up:List (List UInt8×Val)→Prop
 | []=>True
 | a::l=>(∀b∈l,Op.bytesLess a.1 b.1=true)∧Up l
theorem zeA:∀(l:List (List UInt8×Val)) (p:Option (List UInt8)),(∀b∈l,b.2.check=0→True)→kN p l=0→Up l∧∀q,p=some q→∀b∈l,Op.bytesLess q b.1=true
 | [],_,_,_=>⟨trivial,fun _ _ _ h=>by cases h⟩
 | (a,v)::l,p,hh,h=>by
   simp only[kN] at h
   split at h
   ·cases h
   split at h
   ·cases h
   rename_i h2
   split at h
   ·split at h
    ·cases h
    ·obtain⟨h3,h4⟩:=zeA l (some a) (fun _ _ _=>trivial) h
     refine⟨⟨fun b hb=>h4 a rfl b hb,h3⟩,fun q hq b hb=>?_⟩
     subst hq
     have h5:Op.bytesLess q a=true:=yM (by simpa[yK] using h2)
     rcases List.mem_cons.1 hb with rfl | hb
     ·exact h5
     ·exact yZ h5 (h4 a rfl b hb)
   ·rename_i hc;exact absurd h hc
theorem zmX:∀{l:List (List UInt8×Val)} (_:Up l) {i j:Nat} (_:i<j) (hj:j<l.length),Op.bytesLess (l[i]'(by omega)).1 l[j].1=true
 | a::l,h,0,j+1,_,hj=>h.1 _ (List.getElem_mem _)
 | a::l,h,i+1,j+1,hij,hj=>by
   simpa using zmX h.2 (i:=i) (j:=j) (by omega) (by simpa using hj)
theorem zav {s:List UInt8}:∀{l:List (List UInt8×Val)},(∀a∈l,a.1≠s)→Za s l=(noVal,false)
 | [],_=>rfl
 | a::l,h=>by
   have:(a.1==s)=false:=by simpa using h a (by simp)
   rw[Za,this]
   simpa using zav (l:=l) fun b hb=>h b (by simp[hb])
theorem zh8 {s:List UInt8}:∀{l:List (List UInt8×Val)} {j:Nat} (hj:j<l.length),Up l→l[j].1=s→Za s l=(l[j].2,true)
 | a::l,0,hj,_,h=>by
   have h:a.1=s:=by simpa using h
   simp[Za,h]
 | a::l,j+1,hj,hu,h=>by
   have h:(l[j]'(by simpa using hj)).1=s:=by simpa using h
   have hne:(a.1==s)=false:=by
    have:=hu.1 _ (List.getElem_mem (l:=l) (n:=j) (by simpa using hj))
    rw[h] at this
    simp only[beq_eq_false_iff_ne,ne_eq]
    intro e
    rw[e,jB] at this
    cases this
   rw[Za,hne]
   simpa using zh8 (l:=l) (j:=j) (by simpa using hj) hu.2 h
theorem zsh (x:Ctxt) (s:List UInt8) (h:x.fault=0):x.find s=x.rfind s:=by
 have hu:Up x.attrs:=by
  unfold Ctxt.fault at h
  split at h
  ·split at h
   ·cases h
   ·exact (zeA x.attrs none (fun _ _ _=>trivial) h).1
  ·cases h
 unfold Ctxt.find Ctxt.rfind
 cases hk:(s==zsP)
 case true=>rfl
 simp only[Bool.false_eq_true,if_false]
 by_cases hex:∃(j:Nat) (hj:j<x.attrs.length),x.attrs[j].1=s
 ·obtain⟨j,hj,hs⟩:=hex
  have hb:bsGo (Qx x.attrs s) 0 x.attrs.length=j:=KU (n:=x.attrs.length) (m:=j) (fun k hk'=>by
    have hkl:k<x.attrs.length:=by omega
    have:=zmX hu hk' hj
    rw[hs] at this
    simp[Qx,hkl,(xA _ _).2 this]) (fun k hk1 hk2=>by
    simp only[Qx,List.getElem?_eq_getElem hk2,decide_eq_false_iff_not]
    intro hc
    have hc:=(xA _ _).1 hc
    rcases Nat.lt_or_eq_of_le hk1 with g | rfl
    ·have:=zmX hu g hk2
     rw[hs] at this
     have:=yZ hc this
     rw[jB] at this
     cases this
    ·rw[hs,jB] at hc;cases hc) (by omega) (by omega) (by omega)
  rw[zh8 hj hu hs]
  have h2:(xe x.attrs s)=(j,true):=by
   unfold xe
   rw[hb]
   simp[List.getElem?_eq_getElem hj,hs,(wY s s).2 rfl]
  rw[h2]
  simp[List.getElem?_eq_getElem hj]
 ·have hno:∀a∈x.attrs,a.1≠s:=fun a ha e=>by
   obtain⟨j,hj,he⟩:=List.getElem_of_mem ha
   exact hex ⟨j,hj,by rw[he,e]⟩
  rw[zav hno]
  have h2:(xe x.attrs s).2=false:=by
   unfold xe
   simp only
   split
   ·rename_i y hy
    have:=hno y (List.mem_of_getElem? hy)
    simp only[beq_eq_false_iff_ne,ne_eq]
    intro e
    exact this ((wY _ _).1 e)
   ·rfl
  split
  ·rw[h2];rfl
  ·rfl
noncomputable def zmY (Ta:Tab):AM.Spec:=yf (zC prog Ta) f75
noncomputable def zpI (Ta:Tab):AM.Spec:=yf (zC prog [(75,zmY Ta)]) f52
set_option maxRecDepth 100000 in
theorem zjV {Ta:Tab} (h:ziI True prog [] Ta):za prog 75 (zmY Ta):=zX (code:=_) (zk (q:=[]) mixed h) ⟨func75,by kernel_rfl,rfl,by kernel_rfl⟩
set_option maxRecDepth 100000 in
theorem zjW {Ta:Tab} (h:ziI True prog [] Ta):za prog 52 (zpI Ta):=zX (code:=_) (zk (q:=[]) (l:=[(75,zmY Ta)]) mixed ⟨zjV h,by simp,trivial⟩) ⟨func52,by kernel_rfl,rfl,by kernel_rfl⟩
theorem zh9 {σ:Type} {T:Nat→Prop} {Rep:σ→Hp→Prop} {step:σ→Cnd→Bool×σ} {Ta:Tab} {g:Nat} {sp:AM.Spec} {fi cap:List PV} {nx0:Nat} (hg:lookup Ta g=some sp) (xs:List Cnd) (hl:xs.length≤lim)
  (hS:∀s x hp nx,x∈xs→nx0≤nx→Rep s hp→∃r hp' nx',sp (fi++.agg x.enc::cap) hp nx=some (r,hp',nx')∧wT T Rep (boo (step s x).1) (step s x).2 hp nx r hp' nx')
  (s0:σ) (hp0:Hp) (nx1:Nat) (hn:nx0≤nx1) (hr:Rep s0 hp0) :
  ∃r hp' nx',zpI Ta [.sl 7 (xs.map Cnd.enc),.fn (.func g) fi cap] hp0 nx1=some (r,hp',nx')∧wT T Rep (boo (qo step s0 xs).1) (qo step s0 xs).2 hp0 nx1 r hp' nx':=by
 have key:∃r hp' nx',zmY Ta [.sl 7 (xs.map Cnd.enc),.fn (.func g) fi cap] hp0 nx1=some (r,hp',nx')∧∃z:Int,r=int z∧decide (0≤z)=(qo step s0 xs).1∧wT T Rep (int z) (qo step s0 xs).2 hp0 nx1 r hp' nx':=by
  unfold zmY yf
  rw[if_pos (by simp[f75])]
  refine zM rfl ?_
  unfold lim at hl
  simp
  refine zu (fun k σ hp nx=>σ 0=.sl 7 (xs.map Cnd.enc)∧σ 1=.fn (.func g) fi cap∧σ 7=int xs.length∧σ 8=int k∧nx1≤nx∧(∀j,j<nx1→¬T j→hp j=hp0 j)∧∃s,Rep s hp∧qo step s0 xs=qo step s (xs.drop k)) xs.length ⟨by simp,by simp,by simp,by simp,Nat.le_refl _,fun _ _ _=>rfl,s0,hr,by simp⟩ ?_
  rintro k σ hp nx hk ⟨h0,h1,h7,h8,hnx,hfr,s,hrs,he⟩
  by_cases hlt:k<xs.length
  ·have hw:IntKind.i64.wrap ((k:Int)+1)=(k:Int)+1:=zc (by omega) (by omega)
   obtain⟨x,hx⟩:∃x,xs[k]=x:=⟨_,rfl⟩
   obtain⟨r,hp2,nx2,e1,rfl,r2,n2,f2⟩:=hS s x hp nx (by rw[←hx];exact List.getElem_mem hlt) (by omega) hrs
   rw[List.drop_eq_getElem_cons hlt,hx] at he
   have hf2:∀j,j<nx1→¬T j→hp2 j=hp0 j:=fun j hj ht=>by rw[f2 j (by omega) ht];exact hfr j hj ht
   cases hst:(step s x).1
   ·rw[kO hst] at he
    rw[hst] at e1
    simp[h0,h1,h7,h8,hlt,hx,hg,e1,hw]
    exact⟨by omega,by omega,hf2,_,r2,he⟩
   ·rw[xc hst] at he
    rw[hst] at e1
    simp[h0,h1,h7,h8,hlt,hx,hg,e1,he,wT,f75]
    exact⟨r2,by omega,hf2⟩
  ·obtain rfl:k=xs.length:=by omega
   rw[List.drop_length] at he
   simp only[qo] at he
   simp[h0,h1,h7,h8,he,wT,f75]
   exact⟨hrs,hnx,hfr⟩
 obtain⟨r,hp',nx',e1,z,rfl,hz,_,k2,k3,k4⟩:=key
 unfold zpI yf
 rw[if_pos (by simp[f52])]
 refine zM rfl ?_
 simp[e1,hz,wT,f52]
 exact⟨k2,k3,k4⟩
inductive GoodC:Cnd→Prop
 | mk {k o:Int} {a p n:List UInt8} {v:List Val} {l:List Cnd}:1≤k→k≤5→(k=3→l.length=1)→(k=4→ww o=true→0<v.length)→(∀x∈l,GoodC x)→GoodC (.mk k a o v p n l)
theorem GoodC.kind {c:Cnd} (h:GoodC c):1≤c.kind∧c.kind≤5:=by cases h;exact⟨by assumption,by assumption⟩
theorem GoodC.one {c:Cnd} (h:GoodC c) (hk:c.kind=3):c.args.length=1:=by cases h with | mk _ _ h3 _ _=>exact h3 hk
theorem GoodC.ord {c:Cnd} (h:GoodC c) (hk:c.kind=4) (ho:ww c.op=true):0<c.vals.length:=by cases h with | mk _ _ _ h4 _=>exact h4 hk ho
theorem GoodC.args {c:Cnd} (h:GoodC c):∀x∈c.args,GoodC x:=by cases h with | mk _ _ _ _ h5=>exact h5
theorem YW:∀{l:List Cnd},faultC l=0→∀x∈l,x.fault=0
 | [],_,x,hx=>by cases hx
 | c::l,h,x,hx=>by
   rw[faultC] at h
   split at h
   ·rename_i hc
    rcases List.mem_cons.1 hx with rfl | hx
    ·exact hc
    ·exact YW h x hx
   ·rename_i hc;exact absurd h hc
theorem zjX (c:Cnd):c.fault=0→GoodC c:=by
 induction c using Cnd.ind with
 | h k a o v p n l hl =>
   intro hf
   rw[WR] at hf
   split at hf
   case isFalse hh=>exact absurd hf hh
   rename_i hh
   have hargs:=YW hf
   unfold jm at hh
   split at hh
   ·omega
   rename_i h1
   split at hh
   ·omega
   rename_i h2
   simp only[Xu,opC,Cnd.kind,Cnd.op,Bool.or_eq_true,not_or,Bool.not_eq_true',Bool.not_eq_false] at h1
   simp only[kS,w6F,w7F,Cnd.kind,Cnd.op,Cnd.vals,Cnd.args,Bool.or_eq_true,not_or] at h2
   obtain⟨⟨⟨_,_⟩,w6⟩,w7⟩:=h2
   have hk:=h1.1
   simp only[inB,Bool.and_eq_true,decide_eq_true_eq] at hk
   refine .mk hk.1 hk.2 (fun h3=>?_) (fun h4 ho=>?_) fun x hx=>hl x hx (hargs x hx)
   ·refine Decidable.byContradiction fun hn=>w6 ?_
    rw[h3]
    simp only[beq_self_eq_true,Bool.true_and,bne_iff_ne,ne_eq]
    omega
   ·refine Decidable.byContradiction fun hn=>w7 ?_
    rw[h4,ho]
    simp only[beq_self_eq_true,Bool.true_and,bne_iff_ne,ne_eq]
    omega
theorem zaw {c:Cnd} (h:c.check=0):GoodC c:=by
 unfold Cnd.check at h
 split at h
 ·omega
 ·exact zjX c h
def znu (M:List (Nat×Bool)):List (List PV):=M.map fun p=>[int p.1,boo p.2]
def zmZ (M:List (Nat×Bool)):Blk:=⟨65,0,false,znu M⟩
def zia (f:Nat→Bool) (M:List (Nat×Bool)):Prop:=∀p∈M,p.2=f p.1
theorem VL (i:Nat):∀(M:List (Nat×Bool)) (k:Nat),(Yg (.int .i64 i) (znu M) k=some none)∨∃j b,Yg (.int .i64 i) (znu M) k=some (some (k+j,boo b))∧M[j]?=some (i,b)
 | [],k=>.inl rfl
 | (a,b)::M,k=>by
   by_cases h:i=a
   ·subst h
    exact .inr ⟨0,b,by simp[znu,Yg,xj],rfl⟩
   ·have hk:xj (.int .i64 (i:Int)) (.int .i64 (a:Int))=some false:=by
     simp only[xj,if_true,Option.some.injEq,beq_eq_false_iff_ne,ne_eq]
     omega
    have hf:Yg (.int .i64 i) (znu ((a,b)::M)) k=Yg (.int .i64 i) (znu M) (k+1):=by
     simp only[znu,List.map_cons,Yg,hk]
    rw[hf]
    rcases VL i M (k+1) with h1 | ⟨j,b',h1,h2⟩
    ·exact .inl h1
    ·exact .inr ⟨j+1,b',by rw[h1];simp;omega,by simpa using h2⟩
@[simp] theorem mapKT_memo:zaC prog 65=some (some .i64,4):=by kernel_rfl
theorem zm0 {hp:Hp} {m:Nat} {f:Nat→Bool} {M:List (Nat×Bool)} (hr:zia f M) (i:Nat) (h:hp m=some (zmZ M)):xk prog hp 65 (.mp m) (int i) true=some (.tup [boo (f i),boo true])∨xk prog hp 65 (.mp m) (int i) true=some (.tup [boo false,boo false]):=by
 rcases VL i M 0 with h1 | ⟨j,b,h1,h2⟩
 ·exact .inr (by simp[xk,zkk,h,zmZ,zaD,h1])
 ·have:=hr _ (List.mem_of_getElem? h2)
  simp only at this
  exact .inl (by simp[xk,zkk,h,zmZ,zaD,h1,this])
theorem zcd {hp:Hp} {m:Nat} {f:Nat→Bool} {M:List (Nat×Bool)} (hr:zia f M) (i:Nat) (h:hp m=some (zmZ M)):∃M',xl prog hp 65 (.mp m) (int i) (boo (f i))=some (upd hp m (some (zmZ M')))∧zia f M':=by
 rcases VL i M 0 with h1 | ⟨j,b,h1,h2⟩
 ·refine⟨M++[(i,f i)],by simp[xl,h,zmZ,zaD,h1];simp[znu],fun p hp=>?_⟩
  rcases List.mem_append.1 hp with hp | hp
  ·exact hr p hp
  ·simp at hp;rw[hp]
 ·refine⟨M.set j (i,f i),by simp[xl,h,zmZ,zaD,h1];simp[znu,List.map_set],fun p hp=>?_⟩
  rcases List.mem_or_eq_of_mem_set hp with hp | rfl
  ·exact hr p hp
  ·rfl
def zqt (l:List Sgm) (x:Ctxt) (m:Nat):Blk:=⟨67,4,false,[[.sl 10 (l.map Sgm.enc),str x.key,.sl 6 (x.attrs.map wF),.mp m]]⟩
noncomputable abbrev zuQ:AM.Spec:=yf C0 f10
set_option maxRecDepth 100000 in
theorem zm1:za prog 10 zuQ:=zX (code:=_) yl ⟨func10,by kernel_rfl,rfl,by kernel_rfl⟩
theorem zsi (l:List Sgm) (x:Ctxt) (hp:Hp) (nx:Nat):zuQ [.sl 10 (l.map Sgm.enc),.agg x.enc] hp nx=some (.ref (nx+2) 0 0,upd (upd (upd hp nx (some ⟨25,2,false,[x.enc]⟩)) (nx+1) (some (zmZ []))) (nx+2) (some (zqt l x (nx+1))),nx+3):=by
 unfold zuQ yf
 rw[if_pos (by simp[f10])]
 refine qB rfl ?_
 simp[Ctxt.enc,zx,zR,zqt,zmZ,znu,f10]
noncomputable def zuR (sp:AM.Spec):AM.Spec:=yf (zC prog [(29,sp)]) f53
noncomputable abbrev TAh (sp:AM.Spec):Tab:=[(53,zuR sp),(29,sp)]
noncomputable abbrev Chd (mem sp:AM.Spec):Ctx:=Zq prog [(52,zpI (TAh sp)),(29,sp),(8,zd false [] zec),(11,mem),(54,zd false [] (FXS (fun x s=>vq (x.find s)) fun _ _=>True)),(55,zd false [] FPs)] 11 [1000004] []
noncomputable def VM (mem:AM.Spec):Nat→AM.Spec
 | 0=>fun _ _ _=>none
 | k+1=>yf (Chd mem (VM mem k)) f29
noncomputable abbrev Cmb (sp:AM.Spec):Ctx:=zC prog [(28,zd false [] (FKs hkP)),(29,sp)]
noncomputable def zsj:Nat→AM.Spec
 | 0=>fun _ _ _=>none
 | n+1=>yf (Cmb (VM (zsj n) lim)) f11
set_option maxRecDepth 100000 in
theorem zm2 {sp:AM.Spec} (h:za prog 29 sp):za prog 53 (zuR sp) :=
 zX (code:=_) (zk (q:=[]) (l:=[(29,sp)]) mixed ⟨h,by simp,trivial⟩) ⟨func53,by kernel_rfl,rfl,by kernel_rfl⟩
set_option maxRecDepth 100000 in
theorem zjY {mem:AM.Spec} (h:za prog 11 mem) (k:Nat):za prog 29 (VM mem k):=by
 induction k with
 | zero=>exact xb ⟨_,func29,by kernel_rfl,by kernel_rfl⟩
 | succ k ih=>exact zX (code:=_) (C:=Chd mem (VM mem k)) (zha (q:=[8,54]) mixed ⟨zjW ⟨zm2 ih,by simp,ih,by simp,trivial⟩,by simp,ih,by simp,Z6,fun _=>zi _ _,h,by simp,zey,fun _=>zi _ _,zek,by simp,trivial⟩ (by simp[zcV])) ⟨func29,by kernel_rfl,rfl,by kernel_rfl⟩
set_option maxRecDepth 100000 in
theorem zm3 (n:Nat):za prog 11 (zsj n):=by
 induction n with
 | zero=>exact xb ⟨_,func11,by kernel_rfl,by kernel_rfl⟩
 | succ n ih=>exact zX (code:=_) (C:=Cmb (VM (zsj n) lim)) (zk (q:=[28]) mixed ⟨Jk,fun _=>zi _ _,zjY ih lim,by simp,trivial⟩) ⟨func11,by kernel_rfl,rfl,by kernel_rfl⟩
noncomputable def zqu (x:Ctxt) (c:Cnd):Bool:=(x.find c.attr).2&&Qh c (x.find c.attr).1
noncomputable def hF (l:List Sgm) (x:Ctxt) (c:Cnd):Bool:=zvn l x.key (zqu x) c
noncomputable def mF (l:List Sgm) (x:Ctxt) (i:Nat):Bool:=zsL l x.key (zqu x) i
theorem zuh (l:List Sgm) (x:Ctxt) (c:Cnd):hF l x c=if c.kind=1 then c.args.all (hF l x) else if c.kind=2 then c.args.any (hF l x) else if c.kind=3 then !(hdC (hF l x) c.args) else if c.kind=5 then mF l x (kv l c.name) else zqu x c:=zbV _ _ c
def AskR (l:List Sgm) (x:Ctxt) (ida m:Nat) (_:Unit) (hp:Hp):Prop:=hp ida=some (zqt l x m)∧∃M,hp m=some (zmZ M)∧zia (mF l x) M
theorem AskR.upd {l:List Sgm} {x:Ctxt} {ida m:Nat} {u:Unit} {hp:Hp} (h:AskR l x ida m u hp) {j:Nat} (b:Option Blk) (h1:ida≠j) (h2:m≠j):AskR l x ida m u (upd hp j b):=by
 obtain⟨g1,M,g2,g3⟩:=h
 exact⟨by rw[zq _ _ _ _ h1];exact g1,M,by rw[zq _ _ _ _ h2];exact g2,g3⟩
def zce (ida:Nat):Blk:=⟨34,1,false,[[.ref ida 0 0]]⟩
theorem zsk (x:Ctxt) (s:List UInt8) (hx:x.cb+2≤lim):(x.find s).1.vb≤lim:=by
 have hcb:=Jj x
 unfold Ctxt.find
 split
 ·rw[j9];simp[VK,Val.s,Val.items,Val.fields,vbs,fbs];omega
 ·split
  ·rename_i a ha
   have:=yA (List.mem_of_getElem? ha)
   split
   ·simp only;omega
   ·rw[j9];simp[noVal,Val.s,Val.items,Val.fields,vbs,fbs,lim]
  ·rw[j9];simp[noVal,Val.s,Val.items,Val.fields,vbs,fbs,lim]
set_option maxHeartbeats 2000000 in
theorem J1 {mem:AM.Spec} {l:List Sgm} {x:Ctxt} {ida m nx0:Nat} {I:Nat→Prop} (hne:ida≠m) (hid:ida<nx0) (hm:m<nx0) (hl:l.length≤lim) (hx:x.cb+2≤lim)
  (hmem:∀i hp nx,I i→nx0≤nx→AskR l x ida m () hp→∃r hp' nx',mem [.ref ida 0 0,int i] hp nx=some (r,hp',nx')∧wT (·=m) (AskR l x ida m) (boo (mF l x i)) () hp nx r hp' nx') :
  ∀(k:Nat) (c:Cnd) (hp:Hp) (nx:Nat),c.cb≤k→c.cb≤lim→GoodC c→(∀n∈c.names,I (kv l n))→nx0≤nx→AskR l x ida m () hp →
   ∃r hp' nx',VM mem k [.ref ida 0 0,.agg c.enc] hp nx=some (r,hp',nx')∧wT (·=m) (AskR l x ida m) (boo (hF l x c)) () hp nx r hp' nx'
 | 0,c,_,_,h,_,_,_,_,_=>absurd h (by have:=Vh c;omega)
 | k+1,c,hp0,nx1,hk,hcl,hg,hI,hn1,hR=>by
   have hcb:=xF c
   have hal:=wJ c.args
   have hnm:=jn c
   have hvv:=zuh l x c
   have hlim:lim=2097152:=rfl
   have am:∀y∈c.args,y.cb≤k∧y.cb≤lim∧GoodC y∧∀n∈y.names,I (kv l n):=fun y hy=>by
    have:=jl hy
    exact⟨by omega,by omega,hg.args y hy,fun n hn=>hI n (by rw[hnm];exact List.mem_append.2 (.inr (namesC_mem.2 ⟨y,hy,hn⟩)))⟩
   have hRb:AskR l x ida m () (upd (upd hp0 nx1 (some (zce ida))) (nx1+1) (some (JX c))):=(hR.upd _ (by omega) (by omega)).upd _ (by omega) (by omega)
   have hfr:∀{hp':Hp},(∀j,j<nx1+2→¬j=m→hp' j=upd (upd hp0 nx1 (some (zce ida))) (nx1+1) (some (JX c)) j)→∀j,j<nx1→¬j=m→hp' j=hp0 j:=fun f j hj hjm=>by
    rw[f j (by omega) hjm,zq _ _ _ _ (by omega),zq _ _ _ _ (by omega)]
   unfold VM yf
   rw[if_pos (by simp[f29])]
   refine zM rfl ?_
   refine yv (fun σ hp nx=>σ 2=.ref nx1 0 0∧σ 3=.ref (nx1+1) 0 0∧σ 4=boo false∧σ 1000004=.tup []∧hp=upd (upd hp0 nx1 (some (zce ida))) (nx1+1) (some (JX c))∧nx=nx1+2) (by simp[zce,JX]) ?_
   rintro σ hp nx ⟨h2,h3,h4,h6,rfl,rfl⟩
   have ma:¬nx1=nx1+1:=by omega
   by_cases k1:c.kind=1
   ·rw[if_pos k1] at hvv
    obtain⟨r,hp',nx',e1,rfl,⟨r2,_⟩,n2,f2⟩:=zh9 (σ:=Unit) (T:=(·=m)) (Rep:=fun u hp=>AskR l x ida m u hp∧hp nx1=some (zce ida)) (step:=fun _ y=>(!hF l x y,())) (Ta:=TAh (VM mem k)) (g:=53) (sp:=zuR (VM mem k)) (fi:=[]) (cap:=[.ref nx1 0 0]) (nx0:=nx1+2) (by simp) c.args (by omega)
     (fun _ y hp nx hy hn ⟨g1,g2⟩=>by
      obtain⟨a1,a2,a3,a4⟩:=am y hy
      obtain⟨r,hp',nx',e1,rfl,r2,n2,f2⟩:=J1 hne hid hm hl hx hmem k y (upd hp nx (some (JX y))) (nx+1) a1 a2 a3 a4 (by omega) (g1.upd _ (by omega) (by omega))
      refine⟨_,hp',nx',?_,rfl,⟨r2,by rw[f2 nx1 (by omega) (by omega),zq _ _ _ _ (by omega)];exact g2⟩,by omega,fun j hj hjm=>by rw[f2 j (by omega) hjm,zq _ _ _ _ (by omega)]⟩
      unfold zuR yf
      rw[if_pos (by simp[f53])]
      refine qB rfl ?_
      have n1:¬nx1=nx:=by omega
      simp only[zce] at g2
      simp only[JX] at e1
      simp[g2,n1,e1,f53]) () _ (nx1+2) (Nat.le_refl _) ⟨hRb,by rw[zq _ _ _ _ ma];simp⟩
    rw[zee] at e1
    have f3:=hfr f2
    simp only[zce,JX] at e1
    simp[h2,h3,zce,JX,k1,e1,hvv,wT,f29]
    exact⟨r2,by omega,f3⟩
   have k1':(c.kind==1)=false:=by simpa using k1
   rw[if_neg k1] at hvv
   by_cases k2:c.kind=2
   ·rw[if_pos k2] at hvv
    obtain⟨r,hp',nx',e1,rfl,r2,n2,f2⟩:=zh9 (σ:=Unit) (T:=(·=m)) (Rep:=AskR l x ida m) (step:=fun _ y=>(hF l x y,())) (Ta:=TAh (VM mem k)) (g:=29) (sp:=VM mem k) (fi:=[.ref ida 0 0]) (cap:=[]) (nx0:=nx0) (by simp) c.args (by omega)
     (fun _ y hp nx hy hn g1=>by
      obtain⟨a1,a2,a3,a4⟩:=am y hy
      exact J1 hne hid hm hl hx hmem k y hp nx a1 a2 a3 a4 hn g1) () _ (nx1+2) (by omega) hRb
    rw[WT] at e1
    have f3:=hfr f2
    simp only[zce,JX] at e1
    simp[h2,h3,zce,JX,k2,e1,hvv,wT,f29]
    exact⟨r2,by omega,f3⟩
   have k2':(c.kind==2)=false:=by simpa using k2
   rw[if_neg k2] at hvv
   by_cases k3:c.kind=3
   ·rw[if_pos k3] at hvv
    obtain⟨y,hy⟩:∃y,c.args=[y]:=by
     have:=hg.one k3
     match h:c.args,this with
     | [y],_=>exact⟨y,rfl⟩
    obtain⟨a1,a2,a3,a4⟩:=am y (by rw[hy];simp)
    obtain⟨r,hp',nx',e1,rfl,r2,n2,f2⟩:=J1 hne hid hm hl hx hmem k y _ (nx1+2) a1 a2 a3 a4 (by omega) hRb
    have f3:=hfr f2
    rw[hy] at hvv
    simp only[hdC] at hvv
    simp only[zce,JX] at e1
    simp[h2,h3,zce,JX,k3,hy,e1,hvv,wT,f29]
    exact⟨r2,by omega,f3⟩
   have k3':(c.kind==3)=false:=by simpa using k3
   rw[if_neg k3] at hvv
   by_cases k5:c.kind=5
   ·rw[if_pos k5] at hvv
    have hIn:=hI c.name (by rw[hnm,if_pos k5];simp)
    obtain⟨r,hp',nx',e1,rfl,r2,n2,f2⟩:=hmem (kv l c.name) _ (nx1+2) hIn (by omega) hRb
    have f3:=hfr f2
    have g1:=fun hp nx=>Z5 l c.name hp nx hl
    have hba:=hR.1
    have mi1:¬ida=nx1:=by omega
    have mi2:¬ida=nx1+1:=by omega
    simp only[zqt] at hba
    simp only[zce,JX,kv] at e1
    simp[h2,h3,zce,JX,k5,hba,mi1,mi2,g1,e1,hvv,wT,kv,f29]
    exact⟨r2,by omega,f3⟩
   have k5':(c.kind==5)=false:=by simpa using k5
   rw[if_neg k5] at hvv
   have hkk:=hg.kind
   have k4:c.kind=4:=by omega
   have g1:∀hp nx,zd false [] (FXS (fun x s=>vq (x.find s)) fun _ _=>True) [.agg [str x.key,.sl 6 (x.attrs.map wF)],str c.attr] hp nx=some (.tup [.agg (x.find c.attr).1.enc,boo (x.find c.attr).2],hp,nx):=fun hp nx=>zh7 (fun x s=>vq (x.find s)) (fun _ _=>True) x c.attr hp nx ⟨by omega,by omega,trivial⟩
   have g2:=fun hp nx=>zpo c (x.find c.attr).1 hp nx hcl (zsk x c.attr hx) (hg.ord k4)
   have hba:=hR.1
   have mi1:¬ida=nx1:=by omega
   have mi2:¬ida=nx1+1:=by omega
   simp only[zqt] at hba
   rw[hvv]
   unfold zqu
   refine yv (fun σ hp nx=>σ 2=.ref nx1 0 0∧σ 3=.ref (nx1+1) 0 0∧σ 4=boo false∧σ 1000004=.tup []∧hp=upd (upd hp0 nx1 (some (zce ida))) (nx1+1) (some (JX c))∧nx=nx1+2) (by simp[h2,h3,h4,h6,zce,JX,k1',k2',k3',k5']) ?_
   clear h2 h3 h4 h6 σ
   rintro σ hp nx ⟨h2,h3,h4,h6,rfl,rfl⟩
   have hrf:xi [1000004] ⟨σ,upd (upd hp0 nx1 (some (zce ida))) (nx1+1) (some (JX c)),nx1+2⟩:=fun t ht=>by
    have:t=1000004:=by simpa using ht
    subst this
    refine⟨⟨fun id o n e=>?_,fun id i j e=>?_⟩,fun _=>?_⟩
    ·have e:σ 1000004=.own id o n:=e
     rw[h6] at e
     cases e
    ·have e:σ 1000004=.ref id i j:=e
     rw[h6] at e
     cases e
    ·show (σ 4).shutZ=true
     rw[h4]
     rfl
   rw[ze8,Kq hrf]
   cases hf:(x.find c.attr).2
   ·rw[hf] at g1
    simp[h2,h3,zce,JX,hba,mi1,mi2,g1,wT,f29]
    exact⟨hRb.upd _ (by omega) (by omega),by omega,fun j hj hjm=>by rw[zq _ _ _ _ (by omega),zq _ _ _ _ (by omega),zq _ _ _ _ (by omega)]⟩
   ·rw[hf] at g1
    simp[h2,h3,zce,JX,hba,mi1,mi2,g1,g2,wT,f29]
    exact⟨hRb.upd _ (by omega) (by omega),by omega,fun j hj hjm=>by rw[zq _ _ _ _ (by omega),zq _ _ _ _ (by omega),zq _ _ _ _ (by omega)]⟩
theorem zm4 {s:Sgm} (h:xZ s=0):UpN s.ins∧UpN s.outs∧s.cond.check=0:=by
 unfold xZ at h
 split at h
 case isFalse hh=>exact absurd h hh
 rename_i h1
 split at h
 case isFalse hh=>exact absurd h hh
 rename_i h2
 split at h
 ·omega
 ·exact⟨zbT h1,zbT h2,h⟩
set_option maxHeartbeats 2000000 in
theorem zm5 {l:List Sgm} {x:Ctxt} {ida m nx0:Nat} (hne:ida≠m) (hid:ida<nx0) (hm:m<nx0) (hok:SegOk l) (hl:sgb l≤lim) (hx:x.cb+2≤lim) :
  ∀(n i:Nat) (hp:Hp) (nx:Nat),i<l.length→rkG l i<n→nx0≤nx→AskR l x ida m () hp→∃r hp' nx',zsj n [.ref ida 0 0,int i] hp nx=some (r,hp',nx')∧wT (·=m) (AskR l x ida m) (boo (mF l x i)) () hp nx r hp' nx'
 | 0,_,_,_,_,h,_,_=>absurd h (by omega)
 | n+1,i,hp0,nx1,hil,hrk,hn1,hR=>by
   have hle:=xH l
   obtain⟨s,hs⟩:∃s,l[i]=s:=⟨_,rfl⟩
   have hsm:s∈l:=by rw[←hs];exact List.getElem_mem hil
   have hm2:=vF hsm
   have hmc:s.cb=1+s.name.length+tbs s.ins+tbs s.outs+s.cond.cb:=rfl
   have hxk:=Jj x
   obtain⟨u1,u2,hck⟩:=zm4 (hok.right s hsm).2
   have hgi:l[i]?=some s:=by rw[List.getElem?_eq_getElem hil,hs]
   have hmv:mF l x i=(s.ins.contains x.key||(!s.outs.contains x.key&&hF l x s.cond)):=by
    show zsL l x.key (zqu x) i=_
    rw[zmo hok,ztO,hgi]
    rfl
   have hH:=J1 (mem:=zsj n) (I:=fun j=>j<l.length∧rkG l j<n) hne hid hm (by omega) hx (fun j hp nx hj hn hr=>zm5 hne hid hm hok hl hx n j hp nx hj.1 hj.2 hn hr) lim s.cond
    (upd hp0 nx1 (some (zgw s))) (nx1+1) (by omega) (by omega) (zaw hck) (fun y hy=>⟨zhM (hok.known s hsm y hy),by
     have hsu:kv l y∈qT l i:=by unfold qT;rw[hgi];exact List.mem_map_of_mem hy
     have:=zmn hok i _ hsu
     omega⟩) (by omega) (hR.upd _ (by omega) (by omega))
   obtain⟨r,hp',nx',e1,rfl,r2,n2,f2⟩:=hH
   have q1:=fun hp nx=>zgc s.ins x.key hp nx (by omega) (by omega)
   have q2:=fun hp nx=>zgc s.outs x.key hp nx (by omega) (by omega)
   rw[zgd u1] at q1
   rw[zgd u2] at q2
   have hba:=hR.1
   obtain⟨M,hM,hMr⟩:=hR.2
   have mi1:¬ida=nx1:=by omega
   have mi2:¬m=nx1:=by omega
   unfold zsj yf
   rw[if_pos (by simp[f11])]
   refine zM rfl ?_
   have hb2:=hba
   simp only[zqt] at hb2
   rcases zm0 hMr i hM with hlk | hlk
   ·simp[hb2,hlk,wT,f11]
    exact hR
   simp only[zgw] at e1
   cases c1:s.ins.contains x.key
   ·cases c2:s.outs.contains x.key
    ·have hv:mF l x i=hF l x s.cond:=by rw[hmv,c1,c2];rfl
     obtain⟨M2,hM2,hMr2⟩:=r2.2
     obtain⟨M3,hput,hMr3⟩:=zcd hMr2 i hM2
     have hb3:=r2.1
     simp only[zqt] at hb3
     rw[hv] at hput
     rw[c1] at q1
     rw[c2] at q2
     simp[hb2,hlk,hil,hs,mi1,q1,q2,e1,hb3,hput,hv,wT,f11]
     exact⟨⟨by rw[zq _ _ _ _ hne];exact r2.1,M3,by simp,hMr3⟩,by omega,fun j hj hjm=>by rw[zq _ _ _ _ hjm,f2 j (by omega) hjm,zq _ _ _ _ (by omega)]⟩
    ·have hv:mF l x i=false:=by rw[hmv,c1,c2];rfl
     obtain⟨M3,hput,hMr3⟩:=zcd (hp:=upd hp0 nx1 (some (zgw s))) hMr i (by rw[zq _ _ _ _ mi2];exact hM)
     simp only[zgw] at hput
     rw[hv] at hput
     rw[c1] at q1
     rw[c2] at q2
     simp[hb2,hlk,hil,hs,mi1,q1,q2,hput,hv,wT,f11]
     exact⟨⟨by rw[zq _ _ _ _ hne,zq _ _ _ _ mi1];exact hba,M3,by simp,hMr3⟩,fun j hj hjm=>by rw[zq _ _ _ _ hjm,zq _ _ _ _ (by omega)]⟩
   ·have hv:mF l x i=true:=by rw[hmv,c1];rfl
    obtain⟨M3,hput,hMr3⟩:=zcd (hp:=upd hp0 nx1 (some (zgw s))) hMr i (by rw[zq _ _ _ _ mi2];exact hM)
    simp only[zgw] at hput
    rw[hv] at hput
    rw[c1] at q1
    simp[hb2,hlk,hil,hs,mi1,q1,hput,hv,wT,f11]
    exact⟨⟨by rw[zq _ _ _ _ hne,zq _ _ _ _ mi1];exact hba,M3,by simp,hMr3⟩,fun j hj hjm=>by rw[zq _ _ _ _ hjm,zq _ _ _ _ (by omega)]⟩
noncomputable def xf (c:Cnd) (v:Val):Bool:=if c.op=1 then true else if c.op=2 then zgx v c.vals else if ww c.op=true then v.kind==2&&zhU c.op v.n (zjJ c.vals) else if kR c.op=true then v.kind==3&&zas c.op v.s c.pat else v.items.any fun w=>zgx w c.vals
noncomputable def zjZ (x:Ctxt) (c:Cnd):Bool:=(x.rfind c.attr).2&&xf c (x.rfind c.attr).1
theorem zib (s:List UInt8):∀l:List (List UInt8×Val),(Za s l).1.vb≤fbs l+2
 | []=>by
   show noVal.vb≤_
   rw[j9];simp[noVal,Val.s,Val.items,Val.fields,vbs,fbs]
 | a::l=>by
   have h1:=yA (List.mem_cons_self (a:=a) (l:=l))
   have h2:=zib s l
   have h3:fbs l≤fbs (a::l):=by simp[fbs]
   simp only[Za]
   split
   ·show a.2.vb≤_
    omega
   ·omega
theorem zpJ (x:Ctxt) (s:List UInt8) (hx:x.cb+2≤lim):(x.rfind s).1.vb≤lim:=by
 have hcb:=Jj x
 unfold Ctxt.rfind
 split
 ·rw[j9];simp[VK,Val.s,Val.items,Val.fields,vbs,fbs];omega
 ·have:=zib s x.attrs
  omega
noncomputable def FTc:List PV→Option PV:=zJ (α:=Cnd×Ctxt) (fun a=>[.agg a.1.enc,.agg a.2.enc]) (fun a=>a.1.cb≤lim∧a.2.cb+2≤lim∧(ww a.1.op=true→0<a.1.vals.length)) (fun a=>boo (zjZ a.2 a.1))
theorem zpK (c:Cnd) (x:Ctxt) (hp:Hp) (nx:Nat) (h:c.cb≤lim) (h2:x.cb+2≤lim) (h3:ww c.op=true→0<c.vals.length):zd false [] FTc [.agg c.enc,.agg x.enc] hp nx=some (boo (zjZ x c),hp,nx) :=
 zH (hp1:=hp) (show zj hp [.agg c.enc,.agg x.enc]=some ([.agg c.enc,.agg x.enc],hp) by simp[Ctxt.enc,qc]) (zm (enc:=fun a:Cnd×Ctxt=>[PV.agg a.1.enc,.agg a.2.enc]) (a:=(c,x)) (fun a b e=>by
  obtain⟨a1,a2⟩:=a;obtain⟨b1,b2⟩:=b
  simp only[List.cons.injEq,and_true,PV.agg.injEq] at e
  rw[jE e.1,Z4 e.2]) ⟨h,h2,h3⟩) (.inl rfl)
noncomputable abbrev zsl:Ctx:=zC prog [(89,zd false [] (FXS (fun x s=>vq (x.rfind s)) fun _ _=>True)),(90,zd false [] (FVL fun v l=>boo (zgx v l))),(91,zd false [] (FIb ww)),(92,zd false [] FOd),(93,zd false [] (FIb kR)),(94,zd false [] FFt)]
theorem zpL:AM.Good zsl (fun g=>[92].contains g):=zk mixed ⟨zcc,by simp,zgy,by simp,Z7,by simp,YU,fun _=>zi _ _,Jl,by simp,XC,by simp,trivial⟩
theorem zj0:xP zsl (fun g=>[92].contains g) 60 f60:=⟨_,func60,by kernel_rfl,rfl,by kernel_rfl⟩
set_option maxHeartbeats 1000000 in
theorem zj1 (c:Cnd) (x:Ctxt) (hc:c.cb≤lim) (hx:x.cb+2≤lim) (h3:ww c.op=true→0<c.vals.length):zg zsl f60 [.agg c.enc,.agg x.enc]=some (boo (zjZ x c)):=by
 have hcb:=xF c
 have hlim:lim=2097152:=rfl
 have hv:=zpJ x c.attr hx
 refine zb rfl ?_
 have g0:∀hp nx,zd false [] (FXS (fun x s=>vq (x.rfind s)) fun _ _=>True) [.agg [str x.key,.sl 6 (x.attrs.map wF)],str c.attr] hp nx=some (.tup [.agg (x.rfind c.attr).1.enc,boo (x.rfind c.attr).2],hp,nx):=fun hp nx=>zh7 (fun x s=>vq (x.rfind s)) (fun _ _=>True) x c.attr hp nx ⟨by omega,by omega,trivial⟩
 unfold zjZ
 generalize x.rfind c.attr=r at hv g0
 obtain⟨v,has⟩:=r
 simp only at hv g0
 have hvb:=j9 v
 cases has
 ·simp[Ctxt.enc,g0,f60]
 by_cases o1:c.op=1
 ·have hw:xf c v=true:=by unfold xf;rw[if_pos o1]
  simp[Ctxt.enc,g0,o1,hw,f60]
 have o1':(c.op==1)=false:=by simpa using o1
 by_cases o2:c.op=2
 ·have hw:xf c v=zgx v c.vals:=by unfold xf;rw[if_neg o1,if_pos o2]
  have g1:=fun hp nx=>zh5 (fun v l=>boo (zgx v l)) v c.vals hp nx ⟨hv,by omega⟩ rfl
  simp[Ctxt.enc,g0,o2,g1,hw,f60]
 have o2':(c.op==2)=false:=by simpa using o2
 cases o4:ww c.op
 case true =>
  have hw:xf c v=(v.kind==2&&zhU c.op v.n (zjJ c.vals)):=by unfold xf;rw[if_neg o1,if_neg o2,if_pos o4]
  have hl:=h3 o4
  obtain⟨y,l,hy⟩:∃y l,c.vals=y::l:=by
   cases hcv:c.vals with
   | nil=>rw[hcv] at hl;cases hl
   | cons x l=>exact⟨x,l,rfl⟩
  have g1:=fun hp nx=>zhV c.op v.n y.n hp nx
  have hh:zjJ c.vals=y.n:=by rw[hy];rfl
  rw[hw,hh]
  cases k2:v.kind==2
  ·simp[Ctxt.enc,g0,o1',o2',o4,k2,f60]
  ·simp[Ctxt.enc,g0,o1',o2',o4,k2,hy,g1,f60]
 cases o5:kR c.op
 case true =>
  have hw:xf c v=(v.kind==3&&zas c.op v.s c.pat):=by unfold xf;rw[if_neg o1,if_neg o2,o4,if_neg (by simp),if_pos o5]
  have g1:=fun hp nx=>zhW c.op v.s c.pat hp nx (by omega) (by omega)
  rw[hw]
  cases k3:v.kind==3
  ·simp[Ctxt.enc,g0,o1',o2',o4,o5,k3,f60]
  ·simp[Ctxt.enc,g0,o1',o2',o4,o5,k3,g1,f60]
 have hw:xf c v=v.items.any fun w=>zgx w c.vals:=by unfold xf;rw[if_neg o1,if_neg o2,o4,if_neg (by simp),o5,if_neg (by simp)]
 have hil:=qD v.items
 have him:=fun w (hw:w∈v.items)=>wA hw
 rw[hw]
 simp[Ctxt.enc,g0,o1',o2',o4,o5]
 refine zu (fun k σ hp nx=>σ 2=.ref 0 0 0∧σ 67=.sl 5 (v.items.map Val.enc)∧σ 68=int v.items.length∧σ 69=int k∧1≤nx∧hp 0=some ⟨41,7,false,[c.enc]⟩∧(v.items.any fun w=>zgx w c.vals)=(v.items.drop k).any fun w=>zgx w c.vals) v.items.length
  ⟨by simp,by simp,by simp,by simp,by simp,by simp,by simp⟩ ?_
 rintro k σ hp nx hk ⟨h2,h67,h68,h69,hnx,b0,hf⟩
 have n1:¬0=nx:=by omega
 by_cases hlt:k<v.items.length
 ·have hw:IntKind.i64.wrap ((k:Int)+1)=(k:Int)+1:=zc (by omega) (by omega)
  obtain⟨y,hy⟩:∃y,v.items[k]=y:=⟨_,rfl⟩
  have hym:=him y (by rw[←hy];exact List.getElem_mem hlt)
  rw[J0 hlt,hy] at hf
  have k1:=fun hp nx=>zh5 (fun v l=>boo (zgx v l)) y c.vals hp nx ⟨by omega,by omega⟩ rfl
  cases d:zgx y c.vals
  ·rw[d,Bool.false_or] at hf
   rw[d] at k1
   simp[h2,h67,h68,h69,hlt,hy,b0,n1,k1,hw]
   and_intros<;>first | omega | exact b0 | exact hf | simpa using hf | simp[n1,b0]
  ·rw[d,Bool.true_or] at hf
   rw[d] at k1
   simp[h2,h67,h68,h69,hlt,hy,b0,n1,k1,hf,f60]
 ·obtain rfl:k=v.items.length:=by omega
  rw[List.drop_length] at hf
  simp[h2,h67,h68,h69,hf,f60]
theorem zgB:za prog 60 (zd false [] FTc) :=
 zL (fn:=f60) zpL zj0 false [] _ fun args r h=>by
  obtain⟨⟨c,x⟩,rfl,⟨h1,h2,h3⟩,rfl⟩:=ze h
  exact⟨by simp[f60],_,zj1 c x h1 h2 h3,zK _⟩
theorem zeB {a b c:Val} (h1:zO a b<0) (h2:zO b c<0):zO a c<0:=by
 have h3:=val_to.tr a b c (by omega) (by omega)
 rcases Int.lt_or_eq_of_le h3 with h | h
 ·exact h
 ·have h4:=(val_to.eq a c).1 h
  have h5:=val_to.tr c a b (by omega) (by omega)
  have:=(val_to.flip b c).1 h2
  omega
theorem zm6 (op:Int):∀(l:List Val) (p:Option Val),zcn op p l=0→UpV l∧∀q,p=some q→∀b∈l,zO q b<0
 | [],_,_=>⟨.nil,fun _ _ _ h=>by cases h⟩
 | v::l,p,h=>by
   simp only[zcn] at h
   split at h
   ·split at h
    ·omega
    ·split at h
     ·omega
     ·rename_i hp
      obtain⟨h1,h2⟩:=zm6 op l (some v) h
      have h2:=h2 v rfl
      refine⟨List.pairwise_cons.2 ⟨h2,h1⟩,fun q hq b hb=>?_⟩
      subst hq
      have h3:zO q v<0:=by
       simp only[Ji,decide_eq_true_eq] at hp
       omega
      rcases List.mem_cons.1 hb with rfl | hb
      ·exact h3
      ·exact zeB h3 (h2 b hb)
   ·rename_i hc;exact absurd h hc
inductive TestC:Cnd→Prop
 | mk {k o:Int} {a p n:List UInt8} {v:List Val} {l:List Cnd}:(k=4→1≤o∧o≤12∧UpV v)→(∀x∈l,TestC x)→TestC (.mk k a o v p n l)
theorem TestC.op {c:Cnd} (h:TestC c) (hk:c.kind=4):1≤c.op∧c.op≤12∧UpV c.vals:=by cases h with | mk h1 _=>exact h1 hk
theorem TestC.args {c:Cnd} (h:TestC c):∀x∈c.args,TestC x:=by cases h with | mk _ h2=>exact h2
theorem zj2 (c:Cnd):c.fault=0→TestC c:=by
 induction c using Cnd.ind with
 | h k a o v p n l hl =>
   intro hf
   rw[WR] at hf
   split at hf
   case isFalse hh=>exact absurd hf hh
   rename_i hh
   have hargs:=YW hf
   refine .mk (fun h4=>?_) fun x hx=>hl x hx (hargs x hx)
   unfold jm at hh
   split at hh
   ·omega
   rename_i h1
   split at hh
   ·omega
   split at hh
   ·omega
   split at hh
   case isFalse h5=>exact absurd hh h5
   rename_i h5
   simp only[Xu,opC,Cnd.kind,Cnd.op,Bool.or_eq_true,not_or,Bool.not_eq_true',Bool.not_eq_false,Bool.and_eq_true,not_and,h4,beq_self_eq_true,forall_const] at h1
   have ho:=h1.2
   simp only[inB,Bool.and_eq_true,decide_eq_true_eq] at ho
   refine⟨ho.1,ho.2,?_⟩
   simp only[Cnd.op,Cnd.vals] at h5
   unfold kM at h5
   split at h5
   ·omega
   ·exact (zm6 _ _ _ h5).1
theorem zj3 {c:Cnd} (h:c.check=0):TestC c:=by
 unfold Cnd.check at h
 split at h
 ·omega
 ·exact zj2 c h
theorem zj4 {v:Val} (h:v.check=0) (hk:v.kind≠4):v.items=[]:=by
 unfold Val.check at h
 split at h
 ·omega
 rw[za4] at h
 split at h
 case isFalse hh=>exact absurd h hh
 rename_i hh
 unfold Qa at hh
 split at hh
 ·omega
 split at hh
 ·omega
 rename_i h2
 have h3:(decide (0<v.items.length)&&v.kind != 4)=false:=by
  unfold Wk at h2
  simp only[Bool.or_eq_true,not_or,Bool.not_eq_true] at h2
  exact h2.1.2
 have h4:(v.kind != 4)=true:=by simpa using hk
 rw[h4,Bool.and_true] at h3
 have h5:¬0<v.items.length:=by simpa using h3
 exact List.eq_nil_of_length_eq_zero (by omega)
theorem Jm:∀(l:List (List UInt8×Val)) (p:Option (List UInt8)),kN p l=0→∀a∈l,a.2.check=0
 | [],_,_,a,h=>by cases h
 | (a,v)::l,p,h,b,hb=>by
   simp only[kN] at h
   split at h
   ·omega
   split at h
   ·omega
   split at h
   case isFalse hh=>exact absurd h hh
   rename_i hc
   split at h
   ·omega
   rcases List.mem_cons.1 hb with rfl | hb
   ·exact hc
   ·exact Jm l _ h b hb
theorem VN {s:List UInt8}:∀{l:List (List UInt8×Val)},(∀a∈l,a.2.check=0)→(Za s l).1.kind≠4→(Za s l).1.items=[]
 | [],_,_=>rfl
 | a::l,h,hk=>by
   simp only[Za] at hk ⊢
   split at hk
   ·rename_i hc
    rw[if_pos hc]
    exact zj4 (h a (by simp)) hk
   ·rename_i hc
    rw[if_neg hc]
    exact VN (fun b hb=>h b (by simp[hb])) hk
theorem zgC {x:Ctxt} (hx:x.fault=0) (s:List UInt8) (hk:(x.rfind s).1.kind≠4):(x.rfind s).1.items=[]:=by
 have ha:∀a∈x.attrs,a.2.check=0:=by
  unfold Ctxt.fault at hx
  split at hx
  ·split at hx
   ·omega
   ·exact Jm _ _ hx
  ·omega
 unfold Ctxt.rfind at hk ⊢
 split at hk
 ·rename_i hc;rw[if_pos hc];rfl
 ·rename_i hc;rw[if_neg hc];exact VN ha hk
theorem zsm {c:Cnd} {v:Val} (hv:v.kind≠4→v.items=[]) (h:1≤c.op∧c.op≤12∧UpV c.vals):xf c v=Qh c v:=by
 obtain⟨h1,h2,hu⟩:=h
 have hb:∀w,zgx w c.vals=(bsV c.vals w).2:=fun w=>(zr2 hu w).symm
 unfold xf Qh
 by_cases o1:c.op=1
 ·rw[if_pos o1,if_pos o1]
 rw[if_neg o1,if_neg o1]
 by_cases o2:c.op=2
 ·rw[if_pos o2,if_pos o2];exact hb v
 rw[if_neg o2,if_neg o2]
 by_cases o3:c.op=12
 ·have e1:¬ww c.op=true:=by rw[o3];decide
  have e2:¬kR c.op=true:=by rw[o3];decide
  rw[if_pos o3,if_neg e1,if_neg e2]
  have e3:(fun w=>zgx w c.vals)=fun w=>(bsV c.vals w).2:=funext hb
  rw[e3]
  by_cases k4:v.kind=4
  ·rw[k4];simp
  ·rw[hv k4];simp
 rw[if_neg o3]
 by_cases o4:ww c.op=true
 ·rw[if_pos o4,if_pos o4]
 rw[if_neg o4,if_neg o4]
 have e2:kR c.op=true:=by
  simp only[ww,kR,inB,Bool.and_eq_true,decide_eq_true_eq] at o4 ⊢
  omega
 rw[if_pos e2]
theorem zui {x:Ctxt} {c:Cnd} (hx:x.fault=0) (hk:c.kind=4) (ht:TestC c):zjZ x c=zqu x c:=by
 unfold zjZ zqu
 rw[zsh x c.attr hx,zsm (zgC hx c.attr) (ht.op hk)]
theorem Z8:∀a b:List Cnd,namesC (a++b)=namesC a++namesC b
 | [],b=>rfl
 | x::a,b=>by
   show x.names++namesC (a++b)=(x.names++namesC a)++namesC b
   rw[Z8 a b,List.append_assoc]
theorem xK {l:List Cnd} {k:Nat} (h:k<l.length):namesC (l.take (k+1))=namesC (l.take k)++l[k].names:=by
 rw[List.take_succ_eq_append_getElem h,Z8]
 show _++(l[k].names++[])=_
 rw[List.append_nil]
theorem zeC {n:Nat} (ih:∀c:Cnd,c.cb≤n→c.names.length≤c.cb):∀l:List Cnd,cbs l≤n→(namesC l).length≤cbs l
 | [],_=>Nat.le_refl _
 | x::l,h=>by
   have hc:cbs (x::l)=x.cb+cbs l:=by simp[cbs]
   have h1:=ih x (by omega)
   have h2:=zeC ih l (by omega)
   show (x.names++namesC l).length≤_
   rw[List.length_append]
   omega
theorem yQ:∀(n:Nat) (c:Cnd),c.cb≤n→c.names.length≤c.cb
 | 0,c,h=>by have:=Vh c;omega
 | n+1,c,h=>by
   have hc:=xF c
   have:=zeC (yQ n) c.args (by omega)
   rw[jn,List.length_append]
   split<;>simp<;>omega
noncomputable abbrev Cnm (n:Nat):Ctx:=zC prog [(45,zd false [] (FC (fun c=>.sl 1 (zD c.names)) n))]
theorem zeD (n:Nat) (c:Cnd) (h:c.cb≤lim∧c.cb≤n+1):∃r0,zg (Cnm n) f45 [.agg c.enc]=some r0∧zaM r0 (.sl 1 (zD c.names)):=by
 have hcb:=xF c
 have hl1:=wJ c.args
 have hnb:=yQ _ c (Nat.le_refl _)
 obtain⟨ha,hb⟩:=h
 unfold lim at ha
 have hpre:∀k,(namesC (c.args.take k)).length≤c.cb:=fun k=>by
  have e:namesC c.args=namesC (c.args.take k)++namesC (c.args.drop k):=by rw[←Z8,List.take_append_drop]
  have:=congrArg List.length e
  rw[jn,List.length_append] at hnb
  rw[List.length_append] at this
  omega
 refine Zo rfl ?_
 by_cases c5:c.kind=5
 ·have hap:=fun hp nx=>OwnS.append1 (P:=prog) (t:=37) (c:=[str c.name]) (OwnS.nil hp nx 9 1) zn8 sz9 by9 ze9 rfl (by omega) (by simp[maxLen]) (by simp)
  have c5':(c.kind==5)=true:=by simpa using c5
  simp only[QC] at hap
  simp[qc,c5',zh,zo,zf,hap]
  refine zu (fun k σ hp nx=>σ 15=.sl 7 (c.args.map Cnd.enc)∧σ 16=int c.args.length∧σ 17=int k∧OwnS hp nx 9 1 (σ 3) (zD ([c.name]++namesC (c.args.take k)))) c.args.length
   ⟨by simp,by simp,by simp,by simp;exact .inr ⟨_,by omega,rfl,by simp[zD,namesC]⟩⟩ ?_
  rintro k σ hp nx hk ⟨h15,h16,h17,hO⟩
  by_cases hlt:k<c.args.length
  ·have hw:IntKind.i64.wrap ((k:Int)+1)=(k:Int)+1:=zc (by omega) (by omega)
   obtain⟨x,hx⟩:∃x,c.args[k]=x:=⟨_,rfl⟩
   have hxm:x∈c.args:=by rw[←hx];exact List.getElem_mem hlt
   have hxc:=jl hxm
   have hxn:=yQ _ x (Nat.le_refl _)
   have k1:=fun hp nx=>vD (fun c=>.sl 1 (zD c.names)) n x hp nx ⟨by unfold lim;omega,by omega⟩
   have hp0:=hpre k
   have hO1:=hO.more (some ⟨41,7,false,[x.enc]⟩)
   obtain⟨v',hp',nx',ha1,hO',_⟩:=hO1.appendL (P:=prog) (t:=37) (ys:=zD x.names) zn8 sz9 by9 ze9 rfl (by omega) (by simp[maxLen,qj];omega) (by simp[qj];omega)
   have hn:=xK hlt
   rw[hx] at hn
   simp[h15,h16,h17,hlt,hx,k1,ha1,hw,WM]
   refine⟨by omega,?_⟩
   rw[hn]
   simpa[zD] using hO'
  ·obtain rfl:k=c.args.length:=by omega
   rw[List.take_length] at hO
   have hfz:=hO.freeze nx
   simp[h15,h16,h17,f45]
   rw[jn]
   simpa[c5] using hfz
 ·have c5':(c.kind==5)=false:=by simpa using c5
  simp[qc,c5']
  refine zu (fun k σ hp nx=>σ 15=.sl 7 (c.args.map Cnd.enc)∧σ 16=int c.args.length∧σ 17=int k∧OwnS hp nx 9 1 (σ 3) (zD (namesC (c.args.take k)))) c.args.length
   ⟨by simp,by simp,by simp,by simp;exact .inl ⟨rfl,by simp[zD,namesC]⟩⟩ ?_
  rintro k σ hp nx hk ⟨h15,h16,h17,hO⟩
  by_cases hlt:k<c.args.length
  ·have hw:IntKind.i64.wrap ((k:Int)+1)=(k:Int)+1:=zc (by omega) (by omega)
   obtain⟨x,hx⟩:∃x,c.args[k]=x:=⟨_,rfl⟩
   have hxm:x∈c.args:=by rw[←hx];exact List.getElem_mem hlt
   have hxc:=jl hxm
   have hxn:=yQ _ x (Nat.le_refl _)
   have k1:=fun hp nx=>vD (fun c=>.sl 1 (zD c.names)) n x hp nx ⟨by unfold lim;omega,by omega⟩
   have hp0:=hpre k
   have hO1:=hO.more (some ⟨41,7,false,[x.enc]⟩)
   obtain⟨v',hp',nx',ha1,hO',_⟩:=hO1.appendL (P:=prog) (t:=37) (ys:=zD x.names) zn8 sz9 by9 ze9 rfl (by omega) (by simp[maxLen,qj];omega) (by simp[qj];omega)
   have hn:=xK hlt
   rw[hx] at hn
   simp[h15,h16,h17,hlt,hx,k1,ha1,hw,WM]
   refine⟨by omega,?_⟩
   rw[hn]
   simpa[zD] using hO'
  ·obtain rfl:k=c.args.length:=by omega
   rw[List.take_length] at hO
   have hfz:=hO.freeze nx
   simp[h15,h16,h17,f45]
   rw[jn]
   simpa[c5] using hfz
theorem Ya:∀n,za prog 45 (zd false [] (FC (fun c=>.sl 1 (zD c.names)) n)):=by
 intro n
 induction n with
 | zero=>exact zbP ⟨_,func45,by kernel_rfl,by kernel_rfl⟩
 | succ n ih =>
   have hg:AM.Good (Cnm n) (fun g=>([]:List Nat).contains g):=zk mixed ⟨ih,by simp,trivial⟩
   exact zL (fn:=f45) hg ⟨_,func45,by kernel_rfl,rfl,by kernel_rfl⟩ false [] _ fun args r h=>by
    obtain⟨c,rfl,hc,rfl⟩:=xS h
    obtain⟨r0,h1,h2⟩:=zeD n c hc
    exact⟨Nat.le_trans (Nat.le_refl 1) (by decide),r0,h1,h2⟩
end Go.Proofs.YtjcofiomfmebkaaGreatDoor
