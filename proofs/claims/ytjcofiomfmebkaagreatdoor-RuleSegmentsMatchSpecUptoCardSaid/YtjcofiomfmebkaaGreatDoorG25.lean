/-
Contexts: CheckContext of the program and of the reference.
-/
import Derived.Test.YtjcofiomfmebkaaGreatDoorG14
import Derived.Test.YtjcofiomfmebkaaGreatDoorG24
import Derived.WalkKit
import Derived.Test.YtjcofiomfmebkaaGreatDoorG17
import Derived.Test.YtjcofiomfmebkaaGreatDoorG12
set_option maxRecDepth 8000
namespace Go.Proofs.YtjcofiomfmebkaaGreatDoor
open Go.Proofs.Tryz
open Go.RowKit Go.AM
structure Ctxt where
 key:List UInt8
 attrs:List (List UInt8×Val)
def Ctxt.enc (x:Ctxt):List PV:=[str x.key,.sl 6 (x.attrs.map wF)]
def Ctxt.cb (x:Ctxt):Nat:=x.key.length+fbs x.attrs
theorem Jj (x:Ctxt):x.cb=x.key.length+fbs x.attrs:=rfl
theorem zbR {a b:List UInt8×Val} (h:wF a=wF b):a=b:=by
 simp only[wF,List.cons.injEq] at h
 exact Prod.ext (qg h.1) (jR h.2)
theorem Z4 {a b:Ctxt} (h:a.enc=b.enc):a=b:=by
 obtain⟨k,l⟩:=a;obtain⟨k',l'⟩:=b
 simp only[Ctxt.enc,List.cons.injEq,and_true] at h
 obtain⟨h1,h2⟩:=h
 injection h2 with _ h2
 rw[qg h1,yz (fun _ _=>zbR) h2]
def zju (a:List UInt8):Bool:=!qi a||a==[107,101,121]
def kN:Option (List UInt8)→List (List UInt8×Val)→Int
 | _,[]=>0
 | p,(a,v)::l=>if zju a then 5 else if yK p a then 8 else if v.check=0 then (if v.kind=0 then 6 else kN (some a) l) else v.check
theorem Vn {l:List (List UInt8×Val)} {k:Nat} (h:k<l.length) (p:Option (List UInt8)):kN p (l.drop k)=if zju l[k].1 then 5 else if yK p l[k].1 then 8 else if l[k].2.check=0 then (if l[k].2.kind=0 then 6 else kN (some l[k].1) (l.drop (k+1))) else l[k].2.check:=by
 rw[List.drop_eq_getElem_cons h,kN]
def Ctxt.fault (x:Ctxt):Int:=if yJ x.key then (if (50:Int)<x.attrs.length then 2 else kN none x.attrs) else 3
noncomputable def FX (out:Ctxt→PV):List PV→Option PV:=zJ (α:=Ctxt) (fun x=>[.agg x.enc]) (fun x=>x.cb≤lim) out
theorem Vo (hp:Hp) (x:Ctxt):zE hp (.agg x.enc)=some (.agg x.enc,hp):=by simp[Ctxt.enc]
theorem zan (x:Ctxt):PV.noOwn (.agg x.enc)=true:=by simp[Ctxt.enc]
theorem zmi (out:Ctxt→PV) (x:Ctxt) (hp:Hp) (nx:Nat) (h:x.cb≤lim):zd false [] (FX out) [.agg x.enc] hp nx=some (out x,hp,nx) :=
 zH (hp1:=hp) (show zj hp [.agg x.enc]=some ([.agg x.enc],hp) by simp only[zj,Vo])
  (zm (enc:=fun x:Ctxt=>[PV.agg x.enc]) (a:=x) (fun a b e=>by simp only[List.cons.injEq,and_true,PV.agg.injEq] at e;exact Z4 e) h) (.inr (by simp only[List.all_cons,zan,List.all_nil,Bool.and_self]))
noncomputable abbrev Ccc:Ctx:=zC prog [(26,zd false [] (FS yJ)),(15,zd false [] (FS qi)),(27,GV fun v=>int v.check)]
noncomputable abbrev Crx:Ctx:=zC prog [(30,zd false [] (FS yJ)),(31,zd false [] (FS qi)),(32,GV fun v=>int v.check)]
theorem zbS (x:Ctxt) (h:x.cb≤lim):zg Ccc Tryz.f9 [.agg x.enc]=some (int x.fault):=by
 have hcb:=Jj x
 have hl2:=qQ x.attrs
 have hkl:x.key.length≤lim:=by omega
 unfold lim at h
 refine zb rfl ?_
 rw[Ctxt.fault]
 cases c1:yJ x.key
 ·simp[Ctxt.enc,hkl,c1,Tryz.f9]
 by_cases c2:(50:Int)<x.attrs.length
 ·simp[Ctxt.enc,hkl,c1,c2,Tryz.f9]
 simp[Ctxt.enc,hkl,c1,c2]
 refine zu (fun k σ hp nx=>σ 1=.ref 0 0 0∧σ 15=.sl 6 (x.attrs.map wF)∧σ 16=int x.attrs.length∧σ 17=int k∧1≤nx∧hp 0=some ⟨25,2,false,[[str x.key,.sl 6 (x.attrs.map wF)]]⟩∧kN none x.attrs=kN (wC x.attrs k) (x.attrs.drop k)) x.attrs.length
  ⟨by simp,by simp,by simp,by simp,by simp,by simp,by simp[wC]⟩ ?_
 rintro k σ hp nx hk ⟨h1,h83,h84,h85,hnx,b0,hf⟩
 have n0:¬0=nx:=by omega
 by_cases hlt:k<x.attrs.length
 ·have hm:=yA (List.getElem_mem hlt)
  have hw:IntKind.i64.wrap ((k:Int)+1)=(k:Int)+1:=zc (by omega) (by omega)
  have hnl:x.attrs[k].1.length≤lim:=by unfold lim;omega
  have hcall:=fun hp nx=>vv (fun v=>int v.check) x.attrs[k].2 hp nx (by unfold lim;omega)
  have en:(!qi x.attrs[k].1||x.attrs[k].1==[107,101,121])=zju x.attrs[k].1:=rfl
  rw[Vn hlt] at hf
  cases d1:zju x.attrs[k].1
  case true=>simp[h1,h83,h84,h85,hlt,hnl,en,d1,hf,Tryz.f9]
  have hpv:wC x.attrs (k+1)=some x.attrs[k].1:=by simp[wC,hlt]
  simp only[d1,Bool.false_eq_true,if_false] at hf
  by_cases k0:k=0
  ·subst k0
   simp only[wC,yK,if_true,Bool.false_eq_true,if_false] at hf
   by_cases hz:x.attrs[0].2.check=0
   ·rw[if_pos hz] at hf
    by_cases hkd:x.attrs[0].2.kind=0
    ·rw[if_pos hkd] at hf
     simp[h1,h83,h84,h85,hlt,hnl,en,d1,hcall,hz,hkd,hf,Tryz.f9]
    ·rw[if_neg hkd] at hf
     have hkb:(x.attrs[0].2.kind==0)=false:=by simpa using hkd
     have w1:IntKind.i64.wrap 1=1:=zc (by omega) (by omega)
     simp[h1,h83,h84,h85,hlt,hnl,en,d1,hcall,hz,hkb,w1]
     and_intros<;>first | omega | (rw[hf];rw[hpv];simp;done) | simp[n0,b0]
   ·rw[if_neg hz] at hf
    have hz2:(x.attrs[0].2.check != 0)=true:=by simpa using hz
    simp[h1,h83,h84,h85,hlt,hnl,en,d1,hcall,hz2,hf,Tryz.f9]
  ·obtain⟨j,rfl⟩:∃j,k=j+1:=⟨k - 1,by omega⟩
   have hj:j<x.attrs.length:=by omega
   have wj:IntKind.i64.wrap ((j:Int)+1 - 1)=(j:Int):=by rw[zc (by omega) (by omega)];omega
   have wj':IntKind.i64.wrap (j:Int)=(j:Int):=zc (by omega) (by omega)
   have j1:((j:Int)+1).toNat=j+1:=by omega
   have j2:0<(j:Int)+1:=by omega
   have j3:0≤(j:Int)+1:=by omega
   have j4:(j:Int)+1<x.attrs.length:=by omega
   have wk:IntKind.i64.wrap ((j:Int)+1+1)=(j:Int)+1+1:=zc (by omega) (by omega)
   have el:(Op.bytesLess x.attrs[j+1].1 x.attrs[j].1||x.attrs[j+1].1==x.attrs[j].1)=leB x.attrs[j+1].1 x.attrs[j].1:=rfl
   have hpj:wC x.attrs (j+1)=some x.attrs[j].1:=by simp[wC,hj]
   simp only[hpj,yK] at hf
   cases d2:leB x.attrs[j+1].1 x.attrs[j].1
   case true =>
    simp only[d2,if_true] at hf
    simp[h1,h83,h84,h85,hlt,hj,hnl,en,d1,hcall,b0,n0,wj,wj',j1,j2,j3,j4,el,d2,hf,Tryz.f9]
   simp only[d2,Bool.false_eq_true,if_false] at hf
   by_cases hz:x.attrs[j+1].2.check=0
   ·rw[if_pos hz] at hf
    by_cases hkd:x.attrs[j+1].2.kind=0
    ·rw[if_pos hkd] at hf
     simp[h1,h83,h84,h85,hlt,hj,hnl,en,d1,hcall,b0,n0,wj,wj',j1,j2,j3,j4,el,d2,hz,hkd,hf,Tryz.f9]
    ·rw[if_neg hkd] at hf
     have hkb:(x.attrs[j+1].2.kind==0)=false:=by simpa using hkd
     simp[h1,h83,h84,h85,hlt,hj,hnl,en,d1,hcall,b0,n0,wj,wj',j1,j2,j3,j4,el,d2,hz,hkb,wk]
     and_intros<;>first | omega | (rw[hf];rw[hpv]) | simp[n0,b0]
   ·rw[if_neg hz] at hf
    have hz2:(x.attrs[j+1].2.check != 0)=true:=by simpa using hz
    simp[h1,h83,h84,h85,hlt,hj,hnl,en,d1,hcall,b0,n0,wj,wj',j1,j2,j3,j4,el,d2,hz2,hf,Tryz.f9]
 ·obtain rfl:k=x.attrs.length:=by omega
  rw[List.drop_length] at hf
  have hf:kN none x.attrs=0:=by rw[hf];rfl
  simp[h1,h83,h84,h85,hf,Tryz.f9]
theorem Xw (x:Ctxt) (h:x.cb≤lim):zg Crx f13 [.agg x.enc]=some (int x.fault):=by
 have hcb:=Jj x
 have hl2:=qQ x.attrs
 have hkl:x.key.length≤lim:=by omega
 unfold lim at h
 refine zb rfl ?_
 rw[Ctxt.fault]
 cases c1:yJ x.key
 ·simp[Ctxt.enc,hkl,c1,f13]
 by_cases c2:(50:Int)<x.attrs.length
 ·simp[Ctxt.enc,hkl,c1,c2,f13]
 simp[Ctxt.enc,hkl,c1,c2]
 refine zu (fun k σ hp nx=>σ 1=.ref 0 0 0∧σ 17=.sl 6 (x.attrs.map wF)∧σ 18=int x.attrs.length∧σ 19=int k∧1≤nx∧hp 0=some ⟨25,2,false,[[str x.key,.sl 6 (x.attrs.map wF)]]⟩∧kN none x.attrs=kN (wC x.attrs k) (x.attrs.drop k)) x.attrs.length
  ⟨by simp,by simp,by simp,by simp,by simp,by simp,by simp[wC]⟩ ?_
 rintro k σ hp nx hk ⟨h1,h83,h84,h85,hnx,b0,hf⟩
 have n0:¬0=nx:=by omega
 by_cases hlt:k<x.attrs.length
 ·have hm:=yA (List.getElem_mem hlt)
  have hw:IntKind.i64.wrap ((k:Int)+1)=(k:Int)+1:=zc (by omega) (by omega)
  have hnl:x.attrs[k].1.length≤lim:=by unfold lim;omega
  have hcall:=fun hp nx=>vv (fun v=>int v.check) x.attrs[k].2 hp nx (by unfold lim;omega)
  have en:(!qi x.attrs[k].1||x.attrs[k].1==[107,101,121])=zju x.attrs[k].1:=rfl
  rw[Vn hlt] at hf
  cases d1:zju x.attrs[k].1
  case true=>simp[h1,h83,h84,h85,hlt,hnl,en,d1,hf,f13]
  have hpv:wC x.attrs (k+1)=some x.attrs[k].1:=by simp[wC,hlt]
  simp only[d1,Bool.false_eq_true,if_false] at hf
  by_cases k0:k=0
  ·subst k0
   simp only[wC,yK,if_true,Bool.false_eq_true,if_false] at hf
   by_cases hz:x.attrs[0].2.check=0
   ·rw[if_pos hz] at hf
    by_cases hkd:x.attrs[0].2.kind=0
    ·rw[if_pos hkd] at hf
     simp[h1,h83,h84,h85,hlt,hnl,en,d1,hcall,hz,hkd,hf,f13]
    ·rw[if_neg hkd] at hf
     have hkb:(x.attrs[0].2.kind==0)=false:=by simpa using hkd
     have w1:IntKind.i64.wrap 1=1:=zc (by omega) (by omega)
     simp[h1,h83,h84,h85,hlt,hnl,en,d1,hcall,hz,hkb,w1]
     and_intros<;>first | omega | (rw[hf];rw[hpv];simp;done) | simp[n0,b0]
   ·rw[if_neg hz] at hf
    have hz2:(x.attrs[0].2.check != 0)=true:=by simpa using hz
    simp[h1,h83,h84,h85,hlt,hnl,en,d1,hcall,hz2,hf,f13]
  ·obtain⟨j,rfl⟩:∃j,k=j+1:=⟨k - 1,by omega⟩
   have hj:j<x.attrs.length:=by omega
   have wj:IntKind.i64.wrap ((j:Int)+1 - 1)=(j:Int):=by rw[zc (by omega) (by omega)];omega
   have wj':IntKind.i64.wrap (j:Int)=(j:Int):=zc (by omega) (by omega)
   have j1:((j:Int)+1).toNat=j+1:=by omega
   have j2:0<(j:Int)+1:=by omega
   have j3:0≤(j:Int)+1:=by omega
   have j4:(j:Int)+1<x.attrs.length:=by omega
   have wk:IntKind.i64.wrap ((j:Int)+1+1)=(j:Int)+1+1:=zc (by omega) (by omega)
   have el:(Op.bytesLess x.attrs[j+1].1 x.attrs[j].1||x.attrs[j+1].1==x.attrs[j].1)=leB x.attrs[j+1].1 x.attrs[j].1:=rfl
   have hpj:wC x.attrs (j+1)=some x.attrs[j].1:=by simp[wC,hj]
   simp only[hpj,yK] at hf
   cases d2:leB x.attrs[j+1].1 x.attrs[j].1
   case true =>
    simp only[d2,if_true] at hf
    simp[h1,h83,h84,h85,hlt,hj,hnl,en,d1,hcall,b0,n0,wj,wj',j1,j2,j3,j4,el,d2,hf,f13]
   simp only[d2,Bool.false_eq_true,if_false] at hf
   by_cases hz:x.attrs[j+1].2.check=0
   ·rw[if_pos hz] at hf
    by_cases hkd:x.attrs[j+1].2.kind=0
    ·rw[if_pos hkd] at hf
     simp[h1,h83,h84,h85,hlt,hj,hnl,en,d1,hcall,b0,n0,wj,wj',j1,j2,j3,j4,el,d2,hz,hkd,hf,f13]
    ·rw[if_neg hkd] at hf
     have hkb:(x.attrs[j+1].2.kind==0)=false:=by simpa using hkd
     simp[h1,h83,h84,h85,hlt,hj,hnl,en,d1,hcall,b0,n0,wj,wj',j1,j2,j3,j4,el,d2,hz,hkb,wk]
     and_intros<;>first | omega | (rw[hf];rw[hpv]) | simp[n0,b0]
   ·rw[if_neg hz] at hf
    have hz2:(x.attrs[j+1].2.check != 0)=true:=by simpa using hz
    simp[h1,h83,h84,h85,hlt,hj,hnl,en,d1,hcall,b0,n0,wj,wj',j1,j2,j3,j4,el,d2,hz2,hf,f13]
 ·obtain rfl:k=x.attrs.length:=by omega
  rw[List.drop_length] at hf
  have hf:kN none x.attrs=0:=by rw[hf];rfl
  simp[h1,h83,h84,h85,hf,f13]
theorem Xx:za prog 9 (zd false [] (FX fun x=>int x.fault)) :=
 zL (fn:=Tryz.f9) (zk (q:=[]) mixed ⟨QE,by simp,vf,by simp,KF,by simp,trivial⟩:AM.Good Ccc _) ⟨_,func9,by kernel_rfl,rfl,by kernel_rfl⟩ false [] _ fun args r h=>by
  obtain⟨x,rfl,hx,rfl⟩:=ze h
  exact⟨Nat.le_trans (Nat.le_refl 1) (by decide),_,zbS x hx,zK _⟩
theorem Vp:za prog 13 (zd false [] (FX fun x=>int x.fault)) :=
 zL (fn:=f13) (zk (q:=[]) mixed ⟨Y6,by simp,xx,by simp,Y8,by simp,trivial⟩:AM.Good Crx _) ⟨_,func13,by kernel_rfl,rfl,by kernel_rfl⟩ false [] _ fun args r h=>by
  obtain⟨x,rfl,hx,rfl⟩:=ze h
  exact⟨Nat.le_trans (Nat.le_refl 1) (by decide),_,Xw x hx,zK _⟩
end Go.Proofs.YtjcofiomfmebkaaGreatDoor
namespace Go.AM
def qo {S α:Type} (f:S→α→Bool×S):S→List α→Bool×S
 | s,[]=>(false,s)
 | s,a::l=>if (f s a).1=true then (true,(f s a).2) else qo f (f s a).2 l
theorem zd7 {S α:Type} (f:S→α→Bool×S):∀(s:S) (l m:List α),qo f s (l++m)=if (qo f s l).1=true then (true,(qo f s l).2) else qo f (qo f s l).2 m
 | s,[],m=>by simp[qo]
 | s,a::l,m=>by
   simp only[List.cons_append,qo]
   split
   ·simp
   ·exact zd7 f _ l m
def yT (succ:Nat→List Nat):Nat→List Int→Nat→Bool×List Int
 | 0,st,_=>(false,st)
 | n+1,st,i=>if st[i]?=some 0 then ((qo (yT succ n) (st.set i 1) (succ i)).1,(qo (yT succ n) (st.set i 1) (succ i)).2.set i 2) else (decide (st[i]?=some 1),st)
def jV (st:List Int):Nat:=st.count 0
theorem Vq {st:List Int} {i:Nat} {v:Int} (h:st[i]?=some 0) (hv:v≠0):jV (st.set i v)+1=jV st:=by
 unfold jV
 induction st generalizing i with
 | nil=>simp at h
 | cons a l ih =>
   cases i with
   | zero =>
     simp at h
     subst h
     simp[hv]
   | succ i =>
     have:=ih (i:=i) (by simpa using h)
     simp only[List.set_cons_succ,List.count_cons] at this ⊢
     omega
theorem zd8 {st:List Int} {i:Nat} {v:Int} (hv:v≠0):jV (st.set i v)≤jV st:=by
 unfold jV
 induction st generalizing i with
 | nil=>simp
 | cons a l ih =>
   cases i with
   | zero=>simp[List.count_cons,hv]
   | succ i =>
     have:=ih (i:=i)
     simp only[List.set_cons_succ,List.count_cons] at this ⊢
     omega
structure Kept (st st':List Int):Prop where
 len:st'.length=st.length
 wh:jV st'≤jV st
 black:∀j:Nat,st[j]?=some 2→st'[j]?=some 2
 grey:∀j:Nat,st'[j]?=some 1↔st[j]?=some 1
 vals:(∀v∈st,v=0∨v=1∨v=2)→∀v∈st',v=0∨v=1∨v=2
theorem Kept.refl (st:List Int):Kept st st:=⟨rfl,Nat.le_refl _,fun _ h=>h,fun _=>Iff.rfl,fun h=>h⟩
theorem Kept.trans {a b c:List Int} (h:Kept a b) (g:Kept b c):Kept a c :=
 ⟨g.len.trans h.len,Nat.le_trans g.wh h.wh,fun j hj=>g.black j (h.black j hj),fun j=>(g.grey j).trans (h.grey j),fun hv=>g.vals (h.vals hv)⟩
theorem xa {f:List Int→Nat→Bool×List Int} (hf:∀st i,Kept st (f st i).2):∀(l:List Nat) (st:List Int),Kept st (qo f st l).2
 | [],st=>Kept.refl st
 | a::l,st=>by
   simp only[qo]
   split
   ·exact hf st a
   ·exact (hf st a).trans (xa hf l _)
theorem ya (succ:Nat→List Nat):∀(n:Nat) (st:List Int) (i:Nat),Kept st (yT succ n st i).2
 | 0,st,i=>Kept.refl st
 | n+1,st,i=>by
   simp only[yT]
   split
   ·rename_i h0
    have hil:i<st.length:=(List.getElem?_eq_some_iff.1 h0).1
    have hk:=xa (ya succ n) (succ i) (st.set i 1)
    obtain⟨r,hr⟩:∃r,(qo (yT succ n) (st.set i 1) (succ i)).2=r:=⟨_,rfl⟩
    rw[hr] at hk
    simp only[hr]
    have hl:r.length=st.length:=by rw[hk.len,List.length_set]
    refine⟨by rw[List.length_set,hl],?_,fun j hj=>?_,fun j=>?_,fun hv v hm=>?_⟩
    ·have h1:=hk.wh
     have h2:=Vq h0 (v:=1) (by decide)
     have h3:=zd8 (st:=r) (i:=i) (v:=2) (by decide)
     omega
    ·by_cases hij:i=j
     ·subst hij;rw[h0] at hj;simp at hj
     ·rw[List.getElem?_set_ne hij]
      exact hk.black j (by rw[List.getElem?_set_ne hij];exact hj)
    ·by_cases hij:i=j
     ·subst hij
      rw[List.getElem?_set_self (by omega),h0]
      simp
     ·rw[List.getElem?_set_ne hij,hk.grey,List.getElem?_set_ne hij]
    ·have hr':=hk.vals (fun v hm=>by
      rcases List.mem_or_eq_of_mem_set hm with h | rfl
      ·exact hv v h
      ·exact .inr (.inl rfl))
     rcases List.mem_or_eq_of_mem_set hm with h | rfl
     ·exact hr' v h
     ·exact .inr (.inr rfl)
   ·exact Kept.refl st
inductive Wayn (E:Nat→Nat→Prop):Nat→Nat→Prop
 | one {a b:Nat}:E a b→Wayn E a b
 | tail {a b c:Nat}:Wayn E a b→E b c→Wayn E a c
theorem Wayn.trans {E:Nat→Nat→Prop} {a b c:Nat} (h:Wayn E a b) (g:Wayn E b c):Wayn E a c:=by
 induction g with
 | one e=>exact .tail h e
 | tail _ e ih=>exact .tail ih e
theorem Wayn.head {E:Nat→Nat→Prop} {a c:Nat} (h:Wayn E a c):∃b,E a b∧(b=c∨Wayn E b c):=by
 induction h with
 | one e=>exact⟨_,e,.inl rfl⟩
 | tail _ e ih =>
   obtain⟨b,h1,h2⟩:=ih
   refine⟨b,h1,.inr ?_⟩
   rcases h2 with rfl | h2
   ·exact .one e
   ·exact .tail h2 e
theorem zpc {E:Nat→Nat→Prop} {a:Nat} (h:Acc (fun x y=>E y x) a):¬Wayn E a a:=by
 induction h with
 | intro x _ ih =>
   intro hw
   obtain⟨y,h1,h2⟩:=hw.head
   rcases h2 with rfl | h2
   ·exact ih y h1 hw
   ·exact ih y h1 (.tail h2 h1)
theorem Vr (succ:Nat→List Nat):∀(n:Nat) (st:List Int) (i:Nat),(∀v∈st,v=0∨v=1∨v=2)→jV st<n→i<st.length→(∀a,∀b∈succ a,b<st.length)→(∀j:Nat,st[j]?=some 2→Acc (fun x y=>x∈succ y) j)→(yT succ n st i).1=false →
  (∀j:Nat,(yT succ n st i).2[j]?=some 2→Acc (fun x y=>x∈succ y) j)∧(yT succ n st i).2[i]?=some 2
 | 0,st,i,_,hw,_,_,_,_=>by omega
 | n+1,st,i,hv,hw,hi,hs,hb,hf=>by
   simp only[yT] at hf ⊢
   split at hf
   ·rename_i h0
    rw[if_pos h0]
    simp only at hf ⊢
    have hil:i<st.length:=hi
    have hw1:=Vq h0 (v:=1) (by decide)
    have hv1:∀v∈st.set i 1,v=0∨v=1∨v=2:=fun v hm=>by
     rcases List.mem_or_eq_of_mem_set hm with h | rfl
     ·exact hv v h
     ·exact .inr (.inl rfl)
    have hb1:∀j:Nat,(st.set i 1)[j]?=some 2→Acc (fun x y=>x∈succ y) j:=fun j hj=>by
     by_cases hij:i=j
     ·subst hij;rw[List.getElem?_set_self hil] at hj;simp at hj
     ·rw[List.getElem?_set_ne hij] at hj;exact hb j hj
    have key:∀(l:List Nat) (s:List Int),(∀v∈s,v=0∨v=1∨v=2)→jV s<n→s.length=st.length→(∀b∈l,b<st.length)→(∀j:Nat,s[j]?=some 2→Acc (fun x y=>x∈succ y) j)→(qo (yT succ n) s l).1=false →
      (∀j:Nat,(qo (yT succ n) s l).2[j]?=some 2→Acc (fun x y=>x∈succ y) j)∧∀b∈l,(qo (yT succ n) s l).2[b]?=some 2:=by
     intro l
     induction l with
     | nil=>intro s _ _ _ _ hsb _;exact⟨hsb,fun b hb=>by cases hb⟩
     | cons a l ih =>
       intro s hsv hsw hsl hlm hsb hff
       simp only[qo] at hff ⊢
       split at hff
       ·simp at hff
       ·rename_i hna
        rw[if_neg hna]
        have hk:=ya succ n s a
        obtain⟨g1,g2⟩:=Vr succ n s a hsv hsw (by rw[hsl];exact hlm a (by simp)) (fun x b hb=>by rw[hsl];exact hs x b hb) hsb (by simpa using hna)
        obtain⟨g3,g4⟩:=ih _ (hk.vals hsv) (Nat.lt_of_le_of_lt hk.wh hsw) (hk.len.trans hsl) (fun b hb=>hlm b (by simp[hb])) g1 hff
        refine⟨g3,fun b hb=>?_⟩
        rcases List.mem_cons.1 hb with rfl | hb
        ·exact (xa (ya succ n) l _).black _ g2
        ·exact g4 b hb
    obtain⟨g1,g2⟩:=key (succ i) (st.set i 1) hv1 (by omega) (by rw[List.length_set]) (hs i) hb1 hf
    have hk:=xa (ya succ n) (succ i) (st.set i 1)
    refine⟨fun j hj=>?_,by rw[List.getElem?_set_self (by rw[hk.len,List.length_set];exact hil)]⟩
    by_cases hij:i=j
    ·subst hij
     exact⟨_,fun b hb=>g1 b (g2 b hb)⟩
    ·rw[List.getElem?_set_ne hij] at hj
     exact g1 j hj
   ·rename_i h0
    rw[if_neg h0]
    simp only at hf ⊢
    refine⟨hb,?_⟩
    have hx:st[i]?=some st[i]:=List.getElem?_eq_getElem hi
    have h1:=hv _ (List.getElem_mem hi)
    rw[hx] at h0 hf ⊢
    rcases h1 with h | h | h
    ·rw[h] at h0;exact (h0 rfl).elim
    ·rw[h] at hf;simp at hf
    ·rw[h]
theorem zao (succ:Nat→List Nat):∀(n:Nat) (st:List Int) (i:Nat),(∀g:Nat,st[g]?=some 1→Wayn (fun a b=>b∈succ a) g i)→(yT succ n st i).1=true→∃c,Wayn (fun a b=>b∈succ a) c c
 | 0,st,i,_,h=>by simp[yT] at h
 | n+1,st,i,hg,h=>by
   simp only[yT] at h
   split at h
   ·rename_i h0
    simp only at h
    have hil:i<st.length:=(List.getElem?_eq_some_iff.1 h0).1
    have key:∀(l:List Nat) (s:List Int),(∀g:Nat,s[g]?=some 1↔(st.set i 1)[g]?=some 1)→(∀b∈l,b∈succ i)→(qo (yT succ n) s l).1=true→∃c,Wayn (fun a b=>b∈succ a) c c:=by
     intro l
     induction l with
     | nil=>intro s _ _ hh;simp[qo] at hh
     | cons a l ih =>
       intro s hsg hls hh
       simp only[qo] at hh
       split at hh
       ·rename_i ha
        refine zao succ n s a (fun g hgs=>?_) ha
        have hgs:=(hsg g).1 hgs
        have hE:a∈succ i:=hls a (by simp)
        by_cases hig:i=g
        ·subst hig;exact .one hE
        ·rw[List.getElem?_set_ne hig] at hgs
         exact .tail (hg g hgs) hE
       ·exact ih _ (fun g=>((ya succ n s a).grey g).trans (hsg g)) (fun b hb=>hls b (by simp[hb])) hh
    exact key (succ i) (st.set i 1) (fun _=>Iff.rfl) (fun _ hb=>hb) h
   ·simp at h
    exact⟨i,hg i h⟩
theorem zd9 {α:Type} {p q:α→Bool}:∀{l:List α},(∀x∈l,p x=true→q x=true)→(∃x∈l,q x=true∧p x=false)→l.countP p<l.countP q
 | [],_,⟨x,hx,_⟩=>by cases hx
 | a::l,h,⟨x,hx,h1,h2⟩=>by
   have hle:l.countP p≤l.countP q:=List.countP_mono_left fun y hy=>h y (by simp[hy])
   rcases List.mem_cons.1 hx with rfl | hx
   ·rw[List.countP_cons,List.countP_cons,h1,h2];simp;omega
   ·have:=zd9 (l:=l) (fun y hy=>h y (by simp[hy])) ⟨x,hx,h1,h2⟩
    rw[List.countP_cons,List.countP_cons]
    have ha:=h a (by simp)
    cases hp:p a
    ·simp only[Bool.false_eq_true,if_false]
     split<;>omega
    ·rw[ha hp];simp;omega
open Classical in
noncomputable def zpd (E:Nat→Nat→Prop) (N i:Nat):Nat:=(List.range N).countP fun j=>decide (Wayn E i j)
theorem zpe (E:Nat→Nat→Prop) (N i:Nat):zpd E N i≤N:=by
 have:=List.countP_le_length (p:=fun j=>@decide (Wayn E i j) (Classical.propDecidable _)) (l:=List.range N)
 rwa [List.length_range] at this
open Classical in
theorem zpf {E:Nat→Nat→Prop} {N i j:Nat} (hj:j<N) (he:E i j) (hn:¬Wayn E j j):zpd E N j<zpd E N i:=by
 refine zd9 (fun k _ hk=>?_) ⟨j,List.mem_range.2 hj,?_,?_⟩
 ·exact decide_eq_true ((Wayn.one he).trans (of_decide_eq_true hk))
 ·exact decide_eq_true (.one he)
 ·exact decide_eq_false hn
structure Bfs {α:Type} (next:α→List α) (start out queue:List α):Prop where
 nodup:out.Nodup
 strt:∀a∈start,a∈out∨a∈queue
 step:∀a∈out,∀b∈next a,b∈out∨b∈queue
 only:∀(Q:α→Prop),(∀a∈start,Q a)→(∀a b,Q a→b∈next a→Q b)→(∀a∈out,Q a)∧∀a∈queue,Q a
theorem Bfs.begin {α:Type} (next:α→List α) (start:List α):Bfs next start [] start :=
 ⟨.nil,fun a h=>.inr h,(fun a h=>by cases h),fun Q h _=>⟨(fun a h=>by cases h),h⟩⟩
theorem Bfs.skip {α:Type} {next:α→List α} {start out queue:List α} {a:α} (h:Bfs next start out (a::queue)) (ha:a∈out):Bfs next start out queue:=by
 refine⟨h.nodup,fun b hb=>?_,fun b hb c hc=>?_,fun Q h1 h2=>⟨(h.only Q h1 h2).1,fun b hb=>(h.only Q h1 h2).2 b (by simp[hb])⟩⟩
 ·rcases h.strt b hb with h | h
  ·exact .inl h
  ·rcases List.mem_cons.1 h with rfl | h
   ·exact .inl ha
   ·exact .inr h
 ·rcases h.step b hb c hc with h | h
  ·exact .inl h
  ·rcases List.mem_cons.1 h with rfl | h
   ·exact .inl ha
   ·exact .inr h
theorem Bfs.take {α:Type} {next:α→List α} {start out queue:List α} {a:α} (h:Bfs next start out (a::queue)) (ha:a ∉ out):Bfs next start (out++[a]) (queue++next a):=by
 have key:∀b,b∈out∨b∈a::queue→b∈out++[a]∨b∈queue++next a:=fun b hb=>by
  simp only[List.mem_append,List.mem_cons,List.not_mem_nil,or_false] at hb ⊢
  rcases hb with hb | hb | hb
  ·exact .inl (.inl hb)
  ·exact .inl (.inr hb)
  ·exact .inr (.inl hb)
 refine⟨?_,fun b hb=>key b (h.strt b hb),fun b hb c hc=>?_,fun Q h1 h2=>?_⟩
 ·rw[List.nodup_append]
  refine⟨h.nodup,by simp,fun x hx y hy=>?_⟩
  rintro rfl
  simp at hy
  subst hy
  exact ha hx
 ·rcases List.mem_append.1 hb with hb | hb
  ·exact key c (h.step b hb c hc)
  ·simp at hb
   subst hb
   exact .inr (List.mem_append.2 (.inr hc))
 ·obtain⟨g1,g2⟩:=h.only Q h1 h2
  have hq:Q a:=g2 a (by simp)
  refine⟨fun b hb=>?_,fun b hb=>?_⟩
  ·rcases List.mem_append.1 hb with hb | hb
   ·exact g1 b hb
   ·simp at hb;subst hb;exact hq
  ·rcases List.mem_append.1 hb with hb | hb
   ·exact g2 b (by simp[hb])
   ·exact h2 a b hq hb
inductive From {α:Type} (next:α→List α) (start:List α):α→Prop
 | here {a:α}:a∈start→From next start a
 | there {a b:α}:From next start a→b∈next a→From next start b
theorem Bfs.done {α:Type} {next:α→List α} {start out:List α} (h:Bfs next start out []) (a:α):a∈out↔From next start a:=by
 constructor
 ·exact (h.only (From next start) (fun _=>.here) (fun _ _=>.there)).1 a
 ·intro hf
  induction hf with
  | here hm=>exact (h.strt _ hm).resolve_right (by simp)
  | there _ hb ih=>exact (h.step _ ih _ hb).resolve_right (by simp)
def zqi (F:Nat→(Nat→Bool)→Bool):Nat→Nat→Bool
 | 0,_=>false
 | n+1,i=>F i (zqi F n)
theorem zea {F:Nat→(Nat→Bool)→Bool} {succ:Nat→List Nat} {rk:Nat→Nat} (hF:∀i f g,(∀j∈succ i,f j=g j)→F i f=F i g) (hr:∀i,∀j∈succ i,rk j<rk i):∀(r i m k:Nat),rk i≤r→r<m→r<k→zqi F m i=zqi F k i
 | r,i,m,k,h,hm,hk=>by
   obtain⟨m,rfl⟩:∃q,m=q+1:=⟨m - 1,by omega⟩
   obtain⟨k,rfl⟩:∃q,k=q+1:=⟨k - 1,by omega⟩
   simp only[zqi]
   refine hF i _ _ fun j hj=>?_
   have:=hr i j hj
   obtain⟨r',rfl⟩:∃q,r=q+1:=⟨r - 1,by omega⟩
   exact zea hF hr r' j m k (by omega) (by omega) (by omega)
theorem zrQ {F:Nat→(Nat→Bool)→Bool} {succ:Nat→List Nat} {rk:Nat→Nat} {N:Nat} (hF:∀i f g,(∀j∈succ i,f j=g j)→F i f=F i g) (hr:∀i,∀j∈succ i,rk j<rk i) (hN:∀i,rk i≤N) (i:Nat):zqi F (N+1) i=F i (zqi F (N+1)):=by
 show F i (zqi F N)=_
 refine hF i _ _ fun j hj=>?_
 have h1:=hr i j hj
 have h2:=hN i
 exact zea hF hr (rk j) j N (N+1) (Nat.le_refl _) (by omega) (by omega)
end Go.AM
namespace Go.Proofs.YtjcofiomfmebkaaGreatDoor
open Go.Proofs.Tryz
open Go.RowKit Go.AM
structure Sgm where
 name:List UInt8
 ins:List (List UInt8)
 outs:List (List UInt8)
 cond:Cnd
def Sgm.enc (s:Sgm):List PV:=[str s.name,.sl 1 (zD s.ins),.sl 1 (zD s.outs)]++s.cond.enc
theorem qJ (s:Sgm):s.enc=[str s.name,.sl 1 (zD s.ins),.sl 1 (zD s.outs),int s.cond.kind,str s.cond.attr,int s.cond.op,.sl 5 (s.cond.vals.map Val.enc),str s.cond.pat,str s.cond.name,.sl 7 (s.cond.args.map Cnd.enc)]:=by
 unfold Sgm.enc
 rw[qc]
 rfl
@[simp] theorem sgm_len (s:Sgm):s.enc.length=10:=by rw[qJ];rfl
@[simp] theorem sgm_drop (s:Sgm):s.enc.drop 3=s.cond.enc:=rfl
@[simp] theorem sgm_take (s:Sgm):s.enc.take 10=s.enc:=List.take_of_length_le (by simp)
@[simp] theorem sgm_0 (s:Sgm) (h:0<s.enc.length):s.enc[0]=str s.name:=rfl
@[simp] theorem sgm_1 (s:Sgm) (h:1<s.enc.length):s.enc[1]=.sl 1 (zD s.ins):=rfl
@[simp] theorem sgm_2 (s:Sgm) (h:2<s.enc.length):s.enc[2]=.sl 1 (zD s.outs):=rfl
@[simp] theorem zmj (s:Sgm):s.enc.all PV.isCell=true:=by rw[qJ];rfl
@[simp] theorem sgm_cells' (s:Sgm):(∀x,x∈s.enc→PV.isCell x=true)=True:=by
 have:=zmj s
 rw[List.all_eq_true] at this
 exact eq_true this
theorem QR {a b:Sgm} (h:a.enc=b.enc):a=b:=by
 have hc:a.cond.enc=b.cond.enc:=by
  rw[qJ,qJ] at h
  simp only[List.cons.injEq,and_true] at h
  rw[qc,qc]
  simp only[List.cons.injEq,and_true]
  exact h.2.2.2
 have hc':=jE hc
 rw[qJ,qJ] at h
 simp only[List.cons.injEq,and_true] at h
 obtain⟨h1,h2,h3,_⟩:=h
 cases a;cases b
 simp only at *
 injection h2 with _ h2
 injection h3 with _ h3
 rw[qg h1,wt h2,wt h3,hc']
theorem kn {a b:List Sgm} (h:PV.sl 10 (a.map Sgm.enc)=.sl 10 (b.map Sgm.enc)):a=b:=by
 injection h with _ h
 exact yz (fun _ _=>QR) h
def tbs (l:List (List UInt8)):Nat:=(l.map fun s=>1+s.length).sum
def Sgm.cb (s:Sgm):Nat:=1+s.name.length+tbs s.ins+tbs s.outs+s.cond.cb
def sgb (l:List Sgm):Nat:=(l.map Sgm.cb).sum
theorem Vs:∀{l:List (List UInt8)} {s:List UInt8},s∈l→1+s.length≤tbs l
 | y::l,s,h=>by
   simp only[tbs,List.map_cons,List.sum_cons]
   rcases List.mem_cons.1 h with rfl | h
   ·omega
   ·have:=Vs h;unfold tbs at this;omega
theorem xG:∀l:List (List UInt8),l.length≤tbs l
 | []=>Nat.le_refl _
 | y::l=>by have:=xG l;simp only[tbs,List.map_cons,List.sum_cons,List.length_cons] at *;omega
theorem vF:∀{l:List Sgm} {s:Sgm},s∈l→s.cb≤sgb l
 | y::l,s,h=>by
   simp only[sgb,List.map_cons,List.sum_cons]
   rcases List.mem_cons.1 h with rfl | h
   ·omega
   ·have:=vF h;unfold sgb at this;omega
theorem xH:∀l:List Sgm,l.length≤sgb l
 | []=>Nat.le_refl _
 | y::l=>by
   have:=xH l
   have hy:1≤y.cb:=by unfold Sgm.cb;omega
   simp only[sgb,List.map_cons,List.sum_cons,List.length_cons] at *
   omega
mutual
def Cnd.names:Cnd→List (List UInt8)
 | .mk k _ _ _ _ n l=>(if k=5 then [n] else [])++namesC l
def namesC:List Cnd→List (List UInt8)
 | []=>[]
 | c::l=>c.names++namesC l
end
theorem jn (c:Cnd):c.names=(if c.kind=5 then [c.name] else [])++namesC c.args:=by cases c;rfl
theorem namesC_mem:∀{l:List Cnd} {n:List UInt8},n∈namesC l↔∃c∈l,n∈c.names
 | [],n=>by simp[namesC]
 | c::l,n=>by simp[namesC,namesC_mem (l:=l)]
theorem zf8 {l:List Cnd} {k:Nat} (h:k<l.length):namesC (l.drop k)=l[k].names++namesC (l.drop (k+1)):=by
 rw[List.drop_eq_getElem_cons h,namesC]
noncomputable def kv (l:List Sgm) (n:List UInt8):Nat:=(bsN (l.map Sgm.name) n).1
noncomputable def jz (l:List Sgm) (n:List UInt8):Bool:=(bsN (l.map Sgm.name) n).2
noncomputable def xT (l:List Sgm) (c:Cnd):Bool:=c.names.all (jz l)
noncomputable def qT (l:List Sgm) (i:Nat):List Nat:=match l[i]? with
 | some s=>s.cond.names.map (kv l)
 | none=>[]
def YN:Option (List UInt8)→List (List UInt8)→Int
 | _,[]=>0
 | p,k::l=>if yJ k=true then (if yK p k=true then 8 else YN (some k) l) else 3
def ja (l:List (List UInt8)):Int:=if (1000:Int)<l.length then 2 else YN none l
theorem zap {l:List (List UInt8)} {k:Nat} (h:k<l.length) (p:Option (List UInt8)):YN p (l.drop k)=if yJ l[k]=true then (if yK p l[k]=true then 8 else YN (some l[k]) (l.drop (k+1))) else 3:=by
 rw[List.drop_eq_getElem_cons h,YN]
theorem zhL:∀(l:List (List UInt8)) (p:Option (List UInt8)),YN p l=0→UpN l∧∀q,p=some q→∀b∈l,Op.bytesLess q b=true
 | [],p,_=>⟨.nil,fun _ _ _ hb=>by cases hb⟩
 | a::l,p,h=>by
   simp only[YN] at h
   split at h
   case isFalse=>simp at h
   split at h
   ·simp at h
   rename_i hc
   obtain⟨h1,h2⟩:=zhL l (some a) h
   refine⟨List.pairwise_cons.2 ⟨h2 a rfl,h1⟩,fun q hq b hb=>?_⟩
   subst hq
   have hqa:Op.bytesLess q a=true:=yM (by simpa[yK] using hc)
   rcases List.mem_cons.1 hb with rfl | hb
   ·exact hqa
   ·exact yZ hqa (h2 a rfl b hb)
theorem zbT {l:List (List UInt8)} (h:ja l=0):UpN l:=by
 unfold ja at h
 split at h
 ·simp at h
 ·exact (zhL l none h).1
noncomputable def xZ (s:Sgm):Int:=if ja s.ins=0 then (if ja s.outs=0 then (if (s.ins.any fun k=>s.outs.contains k)=true then 7 else s.cond.check) else ja s.outs) else ja s.ins
noncomputable def Qf:Option (List UInt8)→List Sgm→Int
 | _,[]=>0
 | p,s::l=>if qi s.name=true then (if yK p s.name=true then 8 else if xZ s=0 then Qf (some s.name) l else xZ s) else 5
theorem zjv {l:List Sgm} {k:Nat} (h:k<l.length) (p:Option (List UInt8)):Qf p (l.drop k)=if qi l[k].name=true then (if yK p l[k].name=true then 8 else if xZ l[k]=0 then Qf (some l[k].name) (l.drop (k+1)) else xZ l[k]) else 5:=by
 rw[List.drop_eq_getElem_cons h,Qf]
theorem zbU:∀(l:List Sgm) (p:Option (List UInt8)),Qf p l=0→(UpN (l.map Sgm.name)∧∀q,p=some q→∀b∈l,Op.bytesLess q b.name=true)∧∀s∈l,qi s.name=true∧xZ s=0
 | [],p,_=>⟨⟨.nil,fun _ _ _ hb=>by cases hb⟩,fun _ hb=>by cases hb⟩
 | a::l,p,h=>by
   simp only[Qf] at h
   split at h
   case isFalse=>simp at h
   rename_i hn
   split at h
   ·simp at h
   rename_i hc
   split at h
   case isFalse hs=>exact (hs h).elim
   rename_i hs
   obtain⟨⟨h1,h2⟩,h3⟩:=zbU l (some a.name) h
   refine⟨⟨?_,fun q hq b hb=>?_⟩,fun s hsm=>?_⟩
   ·unfold UpN
    rw[List.map_cons]
    refine List.pairwise_cons.2 ⟨fun x hx=>?_,h1⟩
    obtain⟨b,hb,rfl⟩:=List.mem_map.1 hx
    exact h2 a.name rfl b hb
   ·subst hq
    have hqa:Op.bytesLess q a.name=true:=yM (by simpa[yK] using hc)
    rcases List.mem_cons.1 hb with rfl | hb
    ·exact hqa
    ·exact yZ hqa (h2 a.name rfl b hb)
   ·rcases List.mem_cons.1 hsm with rfl | hsm
    ·exact⟨hn,hs⟩
    ·exact h3 s hsm
noncomputable def zrR (l:List Sgm):List Int→List Nat→Bool×List Int:=qo (yT (qT l) 2097153)
noncomputable def zf9 (l:List Sgm):Bool:=(zrR l (List.replicate l.length 0) (List.range l.length)).1
noncomputable def yc (l:List Sgm):Int:=if (100:Int)<l.length then 2 else if Qf none l=0 then (if (l.all fun s=>xT l s.cond)=true then (if zf9 l=true then 12 else 0) else 9) else Qf none l
structure SegOk (l:List Sgm):Prop where
 len:l.length≤100
 up:UpN (l.map Sgm.name)
 right:∀s∈l,qi s.name=true∧xZ s=0
 known:∀s∈l,∀n∈s.cond.names,jz l n=true
 acyc:∀i:Nat,¬Wayn (fun a b=>b∈qT l a) i i
theorem zhM {l:List Sgm} {n:List UInt8} (h:jz l n=true):kv l n<l.length:=by
 have:=ztu (l:=l.map Sgm.name) (s:=n) h
 rw[List.length_map] at this
 exact this
theorem zmk {l:List Sgm} (h:∀s∈l,∀n∈s.cond.names,jz l n=true) (i:Nat):∀j∈qT l i,j<l.length:=by
 intro j hj
 unfold qT at hj
 split at hj
 ·rename_i s hs
  obtain⟨n,hn,rfl⟩:=List.mem_map.1 hj
  exact zhM (h s (List.mem_of_getElem? hs) n hn)
 ·cases hj
theorem zeb {l:List Sgm} {i:Nat} (h:l.length≤i):qT l i=[]:=by
 unfold qT
 rw[List.getElem?_eq_none h]
theorem zaq (n:Nat):jV (List.replicate n 0)=n:=by simp[jV]
theorem zhN {l:List Sgm} (hl:l.length≤100) (h:∀s∈l,∀n∈s.cond.names,jz l n=true):zf9 l=true↔∃i:Nat,Wayn (fun a b=>b∈qT l a) i i:=by
 constructor
 ·intro hf
  have key:∀(q:List Nat) (s:List Int),(∀g:Nat,s[g]?≠some 1)→(qo (yT (qT l) 2097153) s q).1=true→∃c,Wayn (fun a b=>b∈qT l a) c c:=by
   intro q
   induction q with
   | nil=>intro s _ hh;simp[qo] at hh
   | cons a q ih =>
     intro s hs hh
     simp only[qo] at hh
     split at hh
     ·rename_i ha
      exact zao (qT l) _ s a (fun g hg=>(hs g hg).elim) ha
     ·exact ih _ (fun g hg=>hs g (((ya (qT l) _ s a).grey g).1 hg)) hh
  refine key _ _ (fun g hg=>?_) hf
  rw[List.getElem?_replicate] at hg
  split at hg<;>simp at hg
 ·rintro⟨i,hi⟩
  refine Decidable.byContradiction fun hn=>?_
  have hn:zf9 l=false:=by simpa using hn
  have hs:=zmk h
  have key:∀(q:List Nat) (s:List Int),(∀v∈s,v=0∨v=1∨v=2)→s.length=l.length→jV s<2097153→(∀b∈q,b<l.length)→(∀j:Nat,s[j]?=some 2→Acc (fun x y=>x∈qT l y) j)→(qo (yT (qT l) 2097153) s q).1=false →
    ∀b,b∈q→Acc (fun x y=>x∈qT l y) b:=by
   intro q
   induction q with
   | nil=>intro s _ _ _ _ _ _ b hb;cases hb
   | cons a q ih =>
     intro s hv hsl hw hq hb hh
     simp only[qo] at hh
     split at hh
     ·simp at hh
     ·rename_i ha
      have hk:=ya (qT l) 2097153 s a
      obtain⟨g1,g2⟩:=Vr (qT l) _ s a hv hw (by rw[hsl];exact hq a (by simp)) (fun x b hb=>by rw[hsl];exact hs x b hb) hb (by simpa using ha)
      intro b hbm
      rcases List.mem_cons.1 hbm with rfl | hbm
      ·exact g1 b g2
      ·exact ih _ (hk.vals hv) (hk.len.trans hsl) (Nat.lt_of_le_of_lt hk.wh hw) (fun b hb=>hq b (by simp[hb])) g1 hh b hbm
  have hacc:=key (List.range l.length) (List.replicate l.length 0) (fun v hv=>by rw[List.mem_replicate] at hv;exact .inl hv.2) (by simp) (by rw[zaq];omega) (fun b hb=>List.mem_range.1 hb)
   (fun j hj=>by
    rw[List.getElem?_replicate] at hj
    split at hj<;>simp at hj) hn
  obtain⟨b,hb,_⟩:=hi.head
  have hil:i<l.length:=by
   refine Nat.lt_of_not_le fun hle=>?_
   rw[zeb hle] at hb
   cases hb
  exact zpc (hacc i (List.mem_range.2 hil)) hi
theorem zml {l:List Sgm} (h:yc l=0):SegOk l:=by
 unfold yc at h
 split at h
 ·simp at h
 rename_i hl
 split at h
 case isFalse hs=>exact (hs h).elim
 rename_i hs
 split at h
 case isFalse=>simp at h
 rename_i hk
 split at h
 ·simp at h
 rename_i hloop
 obtain⟨⟨h1,_⟩,h3⟩:=zbU l none hs
 have hkn:∀s∈l,∀n∈s.cond.names,jz l n=true:=fun s hs n hn=>List.all_eq_true.1 (List.all_eq_true.1 hk s hs) n hn
 refine⟨by omega,h1,h3,hkn,fun i hi=>?_⟩
 exact hloop ((zhN (by omega) hkn).2 ⟨i,hi⟩)
noncomputable def rkG (l:List Sgm) (i:Nat):Nat:=zpd (fun a b=>b∈qT l a) l.length i
theorem zmm {l:List Sgm} (h:SegOk l) (i:Nat):rkG l i≤100:=Nat.le_trans (zpe _ _ _) h.len
theorem zmn {l:List Sgm} (h:SegOk l) (i:Nat):∀j∈qT l i,rkG l j<rkG l i:=fun j hj=>zpf (zmk h.known i j hj) hj (h.acyc j)
mutual
def Cnd.means (seg:List UInt8→Bool) (tst:Cnd→Bool):Cnd→Bool
 | .mk k a o v p n l=>if k=1 then allM seg tst l else if k=2 then anyM seg tst l else if k=3 then !(headM seg tst l) else if k=5 then seg n else tst (.mk k a o v p n l)
def allM (seg:List UInt8→Bool) (tst:Cnd→Bool):List Cnd→Bool
 | []=>true
 | c::l=>c.means seg tst&&allM seg tst l
def anyM (seg:List UInt8→Bool) (tst:Cnd→Bool):List Cnd→Bool
 | []=>false
 | c::l=>c.means seg tst||anyM seg tst l
def headM (seg:List UInt8→Bool) (tst:Cnd→Bool):List Cnd→Bool
 | []=>false
 | c::_=>c.means seg tst
end
def hdC (f:Cnd→Bool):List Cnd→Bool
 | []=>false
 | x::_=>f x
theorem zbV (seg:List UInt8→Bool) (tst:Cnd→Bool) (c:Cnd):c.means seg tst=if c.kind=1 then c.args.all (fun x=>x.means seg tst) else if c.kind=2 then c.args.any (fun x=>x.means seg tst) else if c.kind=3 then !(hdC (fun x=>x.means seg tst) c.args) else if c.kind=5 then seg c.name else tst c:=by
 have h1:∀l,allM seg tst l=l.all fun x=>x.means seg tst:=fun l=>by
  induction l with
  | nil=>rfl
  | cons c l ih=>rw[allM,ih];rfl
 have h2:∀l,anyM seg tst l=l.any fun x=>x.means seg tst:=fun l=>by
  induction l with
  | nil=>rfl
  | cons c l ih=>rw[anyM,ih];rfl
 have h3:∀l,headM seg tst l=hdC (fun x=>x.means seg tst) l:=fun l=>by cases l<;>rfl
 cases c with
 | mk k a o v p n l =>
   rw[Cnd.means,h1,h2,h3]
   rfl
theorem zjw {f g:List UInt8→Bool} {tst:Cnd→Bool} (c:Cnd):(∀n∈c.names,f n=g n)→c.means f tst=c.means g tst:=by
 induction c using Cnd.ind with
 | h k a o v p n l hl =>
   intro h
   rw[jn] at h
   have hargs:∀x∈l,x.means f tst=x.means g tst:=fun x hx=>hl x hx fun m hm=>h m (List.mem_append.2 (.inr (namesC_mem.2 ⟨x,hx,hm⟩)))
   rw[zbV,zbV]
   simp only[Cnd.kind,Cnd.args,Cnd.name]
   have e1:(l.all fun x=>x.means f tst)=l.all fun x=>x.means g tst:=by
    rw[Bool.eq_iff_iff,List.all_eq_true,List.all_eq_true]
    exact⟨fun hh x hx=>by rw[←hargs x hx];exact hh x hx,fun hh x hx=>by rw[hargs x hx];exact hh x hx⟩
   have e2:(l.any fun x=>x.means f tst)=l.any fun x=>x.means g tst:=by
    rw[Bool.eq_iff_iff,List.any_eq_true,List.any_eq_true]
    exact⟨fun⟨x,hx,hh⟩=>⟨x,hx,by rw[←hargs x hx];exact hh⟩,fun⟨x,hx,hh⟩=>⟨x,hx,by rw[hargs x hx];exact hh⟩⟩
   rw[e1,e2]
   have e3:hdC (fun x=>x.means f tst) l=hdC (fun x=>x.means g tst) l:=by
    cases l with
    | nil=>rfl
    | cons x l=>exact hargs x (by simp)
   rw[e3]
   by_cases h5:k=5
   ·rw[h n (by simp[Cnd.kind,Cnd.name,h5])]
   ·simp only[h5,if_false]
def ztO (l:List Sgm) (key:List UInt8) (tst:Cnd→Bool) (i:Nat) (f:List UInt8→Bool):Bool:=match l[i]? with
 | some s=>s.ins.contains key||(!s.outs.contains key&&s.cond.means f tst)
 | none=>false
noncomputable def zsL (l:List Sgm) (key:List UInt8) (tst:Cnd→Bool):Nat→Bool:=zqi (fun i f=>ztO l key tst i fun n=>f (kv l n)) 101
theorem zmo {l:List Sgm} (h:SegOk l) (key:List UInt8) (tst:Cnd→Bool) (i:Nat):zsL l key tst i=ztO l key tst i fun n=>zsL l key tst (kv l n):=by
 refine zrQ (succ:=qT l) (rk:=rkG l) (N:=100) (fun i f g hfg=>?_) (zmn h) (zmm h) i
 simp only[ztO]
 cases hs:l[i]? with
 | none=>rfl
 | some s =>
   simp only
   rw[zjw s.cond (f:=fun n=>f (kv l n)) (g:=fun n=>g (kv l n)) fun n hn=>hfg (kv l n) (by unfold qT;rw[hs];exact List.mem_map_of_mem hn)]
noncomputable def zvn (l:List Sgm) (key:List UInt8) (tst:Cnd→Bool) (c:Cnd):Bool:=c.means (fun n=>zsL l key tst (kv l n)) tst
theorem zqj {l:List Sgm} (hu:UpN (l.map Sgm.name)) {i:Nat} {s:Sgm} (h:l[i]?=some s):kv l s.name=i∧jz l s.name=true:=by
 have:=zlz hu (j:=i) (s:=s.name) (by rw[List.getElem?_map,h];rfl)
 unfold kv jz
 rw[this]
 exact⟨rfl,rfl⟩
noncomputable def zmp:List PV→Option PV:=zJ (α:=Sgm×List UInt8) (fun a=>[.agg a.1.enc,str a.2]) (fun _=>True) (fun a=>int (wW a.1.name a.2))
theorem Vt (x:Sgm) (s:List UInt8) (hp:Hp) (nx:Nat):zd false [] zmp [.agg x.enc,str s] hp nx=some (int (wW x.name s),hp,nx) :=
 zH (hp1:=hp) (show zj hp [.agg x.enc,str s]=some ([.agg x.enc,str s],hp) by simp[qJ]) (zm (enc:=fun a:Sgm×List UInt8=>[.agg a.1.enc,str a.2]) (a:=(x,s)) (fun a b e=>by
  obtain⟨a1,a2⟩:=a;obtain⟨b1,b2⟩:=b
  simp only[List.cons.injEq,and_true,PV.agg.injEq] at e
  rw[QR e.1,qg e.2]) trivial) (.inl rfl)
noncomputable abbrev ztP:Ctx:=zC prog [(25,zd false [] (F2S wW))]
theorem zga:za prog 24 (zd false [] zmp) :=
 zL (fn:=f24) (zk (q:=[]) mixed ⟨wX,by simp,trivial⟩:AM.Good ztP _) ⟨_,func24,by kernel_rfl,rfl,by kernel_rfl⟩ false [] _ fun args r h=>by
  obtain⟨⟨x,s⟩,rfl,_,rfl⟩:=ze h
  exact⟨by simp[f24],_,zb rfl (by simp[f24,qJ]),zK _⟩
noncomputable def zrS:List PV→Option PV:=zJ (α:=List Sgm×List UInt8) (fun a=>[.sl 10 (a.1.map Sgm.enc),str a.2,.fn (.func 24) [] []]) (fun a=>a.1.length≤lim) (fun a=>.tup [int (bsN (a.1.map Sgm.name) a.2).1,boo (bsN (a.1.map Sgm.name) a.2).2])
theorem zjx (l:List Sgm) (s:List UInt8) (hp:Hp) (nx:Nat) (h:l.length≤lim):zd false [] zrS [.sl 10 (l.map Sgm.enc),str s,.fn (.func 24) [] []] hp nx=some (.tup [int (bsN (l.map Sgm.name) s).1,boo (bsN (l.map Sgm.name) s).2],hp,nx) :=
 zH rfl (zm (enc:=fun a:List Sgm×List UInt8=>[PV.sl 10 (a.1.map Sgm.enc),str a.2,.fn (.func 24) [] []]) (a:=(l,s)) (fun a b e=>by
  obtain⟨a1,a2⟩:=a;obtain⟨b1,b2⟩:=b
  simp only[List.cons.injEq,and_true] at e
  obtain⟨e1,e2⟩:=e
  injection e1 with _ e1
  rw[yz (fun _ _=>QR) e1,qg e2]) h) (.inl rfl)
noncomputable abbrev ztQ:Ctx:=zC prog [(24,zd false [] zmp)]
theorem zmq (l:List Sgm) (s:List UInt8) (hl:l.length≤lim):zg ztQ f23 [.sl 10 (l.map Sgm.enc),str s,.fn (.func 24) [] []]=some (.tup [int (bsN (l.map Sgm.name) s).1,boo (bsN (l.map Sgm.name) s).2]):=by
 refine zb rfl ?_
 unfold lim at hl
 have hln:(l.map Sgm.name).length=l.length:=by simp
 simp
 refine kX (fun st=>st.σ 0=.sl 10 (l.map Sgm.enc)∧st.σ 1=str s∧st.σ 2=.fn (.func 24) [] []∧st.σ 8=int l.length∧∃lo hi:Nat,lo≤hi∧hi≤l.length∧st.σ 9=int lo∧st.σ 10=int hi∧bsGo (Qc (l.map Sgm.name) s) 0 (l.map Sgm.name).length=bsGo (Qc (l.map Sgm.name) s) lo hi)
  (fun st=>(Jp (st.σ 10)).toNat - (Jp (st.σ 9)).toNat) ⟨by simp,by simp,by simp,by simp,0,l.length,by simp,by simp,by simp,by simp,by rw[hln]⟩ ?_
 rintro⟨σ,hp,nx⟩ ⟨h0,h1,h2,h8,lo,hi,hlh,hhi,h9,h10,he⟩
 simp only at h0 h1 h2 h8 h9 h10
 by_cases hlt:lo<hi
 ·have hcall:=fun x hp nx=>Vt x s hp nx
  have w1:IntKind.i64.wrap ((lo:Int)+hi)=(lo:Int)+hi:=zc (by omega) (by omega)
  have hml:(lo+hi) / 2<l.length:=by omega
  obtain⟨m,hm⟩:∃m,m=(lo+hi) / 2:=⟨_,rfl⟩
  have hmid:IntKind.i64.wrap ((IntKind.u64.wrap ((lo:Int)+hi)).fdiv (2 ^ min 1 IntKind.u64.bits))=(m:Int):=by
   have e1:IntKind.u64.wrap ((lo:Int)+hi)=(lo:Int)+hi:=by rw[IntKind.wrap_u64];omega
   have e2:(2 ^ min 1 IntKind.u64.bits:Int)=2:=by decide
   rw[e1,e2,Int.fdiv_eq_ediv_of_nonneg _ (by omega),zc (by omega) (by omega)]
   omega
  have hml':m<l.length:=by omega
  have wm:IntKind.i64.wrap ((m:Int)+1)=(m:Int)+1:=zc (by omega) (by omega)
  have hla:Qc (l.map Sgm.name) s m=decide (wW l[m].name s<0):=by simp[Qc,hml']
  rw[Wq (lo:=lo) hlt,←hm,hla] at he
  have hcm:=hcall l[m]
  simp only[qJ] at hcm
  by_cases hc:wW l[m].name s<0
  ·simp only[hc,decide_true,if_true] at he
   simp[h0,h1,h2,h8,h9,h10,hlt,w1,hmid,hml',hcm,hc,wm,qJ]
   exact⟨⟨m+1,hi,by omega,hhi,by omega,rfl,by rw[hln] at he;exact he⟩,by omega⟩
  ·simp only[hc,decide_false,Bool.false_eq_true,if_false] at he
   simp[h0,h1,h2,h8,h9,h10,hlt,w1,hmid,hml',hcm,hc,qJ]
   exact⟨⟨lo,m,by omega,by omega,rfl,rfl,by rw[hln] at he;exact he⟩,by omega⟩
 ·have he:bsGo (Qc (l.map Sgm.name) s) 0 (l.map Sgm.name).length=lo:=by rw[he,JS (lo:=lo) hlt]
  have hcall:=fun x hp nx=>Vt x s hp nx
  unfold bsN
  rw[he]
  by_cases hlo:lo<l.length
  ·have hcm:=hcall l[lo]
   simp only[qJ] at hcm
   simp[h0,h1,h2,h8,h9,h10,hlt,hlo,hcm,qJ,f23,qe]
  ·have hlo':l[lo]?=none:=List.getElem?_eq_none (by omega)
   simp[h0,h1,h2,h8,h9,h10,hlt,hlo,hlo',f23,qe]
theorem zjy:za prog 23 (zd false [] zrS) :=
 zL (fn:=f23) (zk (q:=[24]) mixed ⟨zga,fun _=>zi _ _,trivial⟩:AM.Good ztQ _) ⟨_,func23,by kernel_rfl,rfl,by kernel_rfl⟩ false [] _ fun args r h=>by
  obtain⟨⟨l,s⟩,rfl,hl,rfl⟩:=ze h
  exact⟨Nat.le_trans (Nat.le_refl 3) (by decide),_,zmq l s hl,zK _⟩
noncomputable def zec:List PV→Option PV:=zJ (α:=List Sgm×List UInt8) (fun a=>[.sl 10 (a.1.map Sgm.enc),str a.2]) (fun a=>a.1.length≤lim) (fun a=>.tup [int (bsN (a.1.map Sgm.name) a.2).1,boo (bsN (a.1.map Sgm.name) a.2).2])
theorem Z5 (l:List Sgm) (s:List UInt8) (hp:Hp) (nx:Nat) (h:l.length≤lim):zd false [] zec [.sl 10 (l.map Sgm.enc),str s] hp nx=some (.tup [int (bsN (l.map Sgm.name) s).1,boo (bsN (l.map Sgm.name) s).2],hp,nx) :=
 zH rfl (zm (enc:=fun a:List Sgm×List UInt8=>[PV.sl 10 (a.1.map Sgm.enc),str a.2]) (a:=(l,s)) (fun a b e=>by
  obtain⟨a1,a2⟩:=a;obtain⟨b1,b2⟩:=b
  simp only[List.cons.injEq,and_true] at e
  obtain⟨e1,e2⟩:=e
  injection e1 with _ e1
  rw[yz (fun _ _=>QR) e1,qg e2]) h) (.inl rfl)
noncomputable abbrev zvo:Ctx:=zC prog [(23,zd false [] zrS)]
theorem Z6:za prog 8 (zd false [] zec) :=
 zL (fn:=Tryz.f8) (zk (q:=[]) mixed ⟨zjy,by simp,trivial⟩:AM.Good zvo _) ⟨_,func8,by kernel_rfl,rfl,by kernel_rfl⟩ false [] _ fun args r h=>by
  obtain⟨⟨l,s⟩,rfl,hl,rfl⟩:=ze h
  have hc:=fun hp nx=>zjx l s hp nx hl
  exact⟨by simp[Tryz.f8],_,zb rfl (by simp[hc,qe,Tryz.f8]),zK _⟩
noncomputable def FTl (out:List (List UInt8)→PV) (dom:List (List UInt8)→Prop):List PV→Option PV:=zJ (α:=List (List UInt8)) (fun l=>[.sl 1 (zD l)]) dom out
theorem JW (out:List (List UInt8)→PV) (dom:List (List UInt8)→Prop) (l:List (List UInt8)) (hp:Hp) (nx:Nat) (h:dom l) (hf:(out l).flat=true):zd false [] (FTl out dom) [.sl 1 (zD l)] hp nx=some (out l,hp,nx) :=
 zH rfl (zm (enc:=fun l:List (List UInt8)=>[PV.sl 1 (zD l)]) (a:=l) (fun a b e=>by
  simp only[List.cons.injEq,and_true] at e
  injection e with _ e
  exact wt e) h) (.inl hf)
def WS (l:List (List UInt8)) (k:Nat):Option (List UInt8):=if k=0 then none else l[k - 1]?
noncomputable abbrev Cck:Ctx:=zC prog [(26,zd false [] (FS yJ))]
theorem Xy (l:List (List UInt8)) (h:tbs l≤lim):zg Cck f36 [.sl 1 (zD l)]=some (int (ja l)):=by
 have hl:=xG l
 have hm:=fun s (hs:s∈l)=>Vs hs
 unfold lim at h
 refine zb rfl ?_
 unfold ja
 by_cases c1:(1000:Int)<l.length
 ·rw[if_pos c1]
  simp[c1,f36]
 rw[if_neg c1]
 simp[c1]
 refine zu (fun k σ hp nx=>σ 0=.sl 1 (zD l)∧σ 8=.sl 1 (zD l)∧σ 9=int l.length∧σ 10=int k∧YN none l=YN (WS l k) (l.drop k)) l.length
  ⟨by simp,by simp,by simp,by simp,by simp[WS]⟩ ?_
 rintro k σ hp nx hk ⟨h0,h8,h9,h10,he⟩
 by_cases hlt:k<l.length
 ·have hw:IntKind.i64.wrap ((k:Int)+1)=(k:Int)+1:=zc (by omega) (by omega)
  obtain⟨s,hs⟩:∃s,l[k]=s:=⟨_,rfl⟩
  have hsl:s.length≤lim:=by have:=hm s (by rw[←hs];exact List.getElem_mem hlt);unfold lim;omega
  rw[zap hlt,hs] at he
  have hpv:WS l (k+1)=some s:=by simp[WS,hlt,hs]
  cases d1:yJ s
  ·rw[d1,if_neg (by simp)] at he
   simp[h0,h8,h9,h10,hlt,hs,hsl,d1,he,f36]
  rw[d1,if_pos rfl] at he
  by_cases k0:k=0
  ·subst k0
   have w1:IntKind.i64.wrap 1=1:=zc (by omega) (by omega)
   simp only[WS,yK,if_true,Bool.false_eq_true,if_false] at he
   simp[h0,h8,h9,h10,hlt,hs,hsl,d1,w1]
   exact⟨by omega,by rw[he,hpv];simp⟩
  ·obtain⟨j,rfl⟩:∃j,k=j+1:=⟨k - 1,by omega⟩
   have hj:j<l.length:=by omega
   have wj:IntKind.i64.wrap ((j:Int)+1 - 1)=(j:Int):=by rw[zc (by omega) (by omega)];omega
   have wj':IntKind.i64.wrap (j:Int)=(j:Int):=zc (by omega) (by omega)
   have j1:((j:Int)+1).toNat=j+1:=by omega
   have j2:0<(j:Int)+1:=by omega
   have j3:0≤(j:Int)+1:=by omega
   have j4:(j:Int)+1<l.length:=by omega
   have wk:IntKind.i64.wrap ((j:Int)+1+1)=(j:Int)+1+1:=zc (by omega) (by omega)
   have el:(Op.bytesLess s l[j]||s==l[j])=leB s l[j]:=rfl
   have hpj:WS l (j+1)=some l[j]:=by simp[WS,hj]
   simp only[hpj,yK] at he
   cases d2:leB s l[j]
   ·rw[d2,if_neg (by simp)] at he
    simp[h0,h8,h9,h10,hlt,hj,hs,hsl,d1,wj,wj',j1,j2,j3,j4,el,d2,wk]
    exact⟨by omega,by rw[he,hpv]⟩
   ·rw[d2,if_pos rfl] at he
    simp[h0,h8,h9,h10,hlt,hj,hs,hsl,d1,wj,wj',j1,j2,j3,j4,el,d2,he,f36]
 ·obtain rfl:k=l.length:=by omega
  rw[List.drop_length] at he
  have he:YN none l=0:=by rw[he];rfl
  simp[h0,h8,h9,h10,he,f36]
theorem Vu:za prog 36 (zd false [] (FTl (fun l=>int (ja l)) fun l=>tbs l≤lim)) :=
 zL (fn:=f36) (zk (q:=[]) mixed ⟨QE,by simp,trivial⟩:AM.Good Cck _) ⟨_,func36,by kernel_rfl,rfl,by kernel_rfl⟩ false [] _ fun args r h=>by
  obtain⟨l,rfl,hx,rfl⟩:=ze h
  exact⟨Nat.le_trans (Nat.le_refl 1) (by decide),_,Xy l hx,zK _⟩
theorem zbW:za prog 74 (zd false [] Y9) :=
 zL (fn:=f74) yl ⟨_,func74,by kernel_rfl,rfl,by kernel_rfl⟩ false [] _ fun args r h=>by
  unfold Y9 at h
  split at h
  ·injection h with h
   subst h
   exact⟨by simp[f74],_,zb rfl (by simp[f74]),zK _⟩
  ·cases h
def lsP (a b:List UInt8):PV:=boo (Op.bytesLess a b)
theorem zrT (a b:List UInt8) (hp:Hp) (nx:Nat) (h:a.length≤lim) (h2:b.length≤lim):zd false [] (FTT lsP fun _ _=>True) [str a,str b] hp nx=some (boo (Op.bytesLess a b),hp,nx):=wq _ _ a b hp nx h h2 trivial rfl
noncomputable abbrev Cls:Ctx:=zC prog [(105,zd false [] Y9)]
theorem zjz:za prog 73 (zd false [] (FTT lsP fun _ _=>True)) :=
 zL (fn:=f73) (zk (q:=[]) mixed ⟨Ja,by simp,trivial⟩:AM.Good Cls _) ⟨_,func73,by kernel_rfl,rfl,by kernel_rfl⟩ false [] _ fun args r h=>by
  obtain⟨a,b,rfl,h1,h2,_,rfl⟩:=wP h
  exact⟨by simp[f73],_,zb rfl (by simp[lsP,f73]),zK _⟩
noncomputable def FKs (out:List (List UInt8)→List UInt8→PV):List PV→Option PV:=zJ (α:=List (List UInt8)×List UInt8) (fun a=>[.sl 1 (zD a.1),str a.2]) (fun a=>tbs a.1≤lim∧a.2.length≤lim) (fun a=>out a.1 a.2)
theorem zhO (out:List (List UInt8)→List UInt8→PV) (l:List (List UInt8)) (s:List UInt8) (hp:Hp) (nx:Nat) (h:tbs l≤lim) (h2:s.length≤lim) (hf:(out l s).flat=true):zd false [] (FKs out) [.sl 1 (zD l),str s] hp nx=some (out l s,hp,nx) :=
 zH rfl (zm (enc:=fun a:List (List UInt8)×List UInt8=>[PV.sl 1 (zD a.1),str a.2]) (a:=(l,s)) (fun a b e=>by
  obtain⟨a1,a2⟩:=a;obtain⟨b1,b2⟩:=b
  simp only[List.cons.injEq,and_true] at e
  obtain⟨e1,e2⟩:=e
  injection e1 with _ e1
  rw[wt e1,qg e2]) ⟨h,h2⟩) (.inl hf)
noncomputable def bkP (l:List (List UInt8)) (s:List UInt8):PV:=.tup [int (bsN l s).1,boo (bsN l s).2]
noncomputable def hkP (l:List (List UInt8)) (s:List UInt8):PV:=boo (bsN l s).2
noncomputable abbrev Cbk:Ctx:=zC prog [(73,zd false [] (FTT lsP fun _ _=>True)),(74,zd false [] Y9)]
theorem zjA (l:List (List UInt8)) (s:List UInt8) (hb:tbs l≤lim) (hs:s.length≤lim):zg Cbk f51 [.sl 1 (zD l),str s]=some (bkP l s):=by
 refine zb rfl ?_
 have hl:=xG l
 have hm:=fun s (hs:s∈l)=>Vs hs
 unfold lim at hb hs
 have hel:(zD l).length=l.length:=by simp[zD]
 have hke:∀(k:Nat) (h:k<(zD l).length) (h':k<l.length),(zD l)[k]=[str l[k]]:=fun k h h'=>by simp[zD]
 simp[hel]
 refine kX (fun st=>st.σ 0=.sl 1 (zD l)∧st.σ 1=str s∧st.σ 6=int l.length∧∃lo hi:Nat,lo≤hi∧hi≤l.length∧st.σ 7=int lo∧st.σ 8=int hi∧bsGo (Qc l s) 0 l.length=bsGo (Qc l s) lo hi)
  (fun st=>(Jp (st.σ 8)).toNat - (Jp (st.σ 7)).toNat) ⟨by simp,by simp,by simp,0,l.length,by simp,by simp,by simp,by simp,rfl⟩ ?_
 rintro⟨σ,hp,nx⟩ ⟨h0,h1,h6,lo,hi,hlh,hhi,h7,h8,he⟩
 simp only at h0 h1 h6 h7 h8
 by_cases hlt:lo<hi
 ·have w1:IntKind.i64.wrap ((lo:Int)+hi)=(lo:Int)+hi:=zc (by omega) (by omega)
  have hml:(lo+hi) / 2<l.length:=by omega
  obtain⟨m,hmd⟩:∃m,m=(lo+hi) / 2:=⟨_,rfl⟩
  have hmid:IntKind.i64.wrap ((IntKind.u64.wrap ((lo:Int)+hi)).fdiv (2 ^ min 1 IntKind.u64.bits))=(m:Int):=by
   have e1:IntKind.u64.wrap ((lo:Int)+hi)=(lo:Int)+hi:=by rw[IntKind.wrap_u64];omega
   have e2:(2 ^ min 1 IntKind.u64.bits:Int)=2:=by decide
   rw[e1,e2,Int.fdiv_eq_ediv_of_nonneg _ (by omega),zc (by omega) (by omega)]
   omega
  have hml':m<l.length:=by omega
  have hml2:m<(zD l).length:=by omega
  have wm:IntKind.i64.wrap ((m:Int)+1)=(m:Int)+1:=zc (by omega) (by omega)
  have hla:Qc l s m=Op.bytesLess l[m] s:=by
   simp only[Qc,List.getElem?_eq_getElem hml']
   rw[Bool.eq_iff_iff,decide_eq_true_eq]
   exact xA _ _
  rw[Wq (lo:=lo) hlt,←hmd,hla] at he
  have hcm:=fun hp nx=>zrT l[m] s hp nx (by have:=hm _ (List.getElem_mem hml');unfold lim;omega) (by unfold lim;omega)
  cases hc:Op.bytesLess l[m] s
  ·rw[hc,if_neg (by simp)] at he
   rw[hc] at hcm
   simp[h0,h1,h6,h7,h8,hlt,w1,hmid,hel,hml2,hml',hke m hml2 hml',hcm]
   exact⟨⟨lo,m,by omega,by omega,rfl,rfl,he⟩,by omega⟩
  ·rw[hc,if_pos rfl] at he
   rw[hc] at hcm
   simp[h0,h1,h6,h7,h8,hlt,w1,hmid,hel,hml2,hml',hke m hml2 hml',hcm,wm]
   exact⟨⟨m+1,hi,by omega,hhi,by omega,rfl,he⟩,by omega⟩
 ·have he:bsGo (Qc l s) 0 l.length=lo:=by rw[he,JS (lo:=lo) hlt]
  unfold bkP bsN
  rw[he]
  by_cases hlo:lo<l.length
  ·have hlo2:lo<(zD l).length:=by omega
   have hz:(wW l[lo] s==0)=(l[lo]==s):=by
    rw[Bool.eq_iff_iff,beq_iff_eq,beq_iff_eq]
    exact wY _ _
   cases hc:l[lo]==s <;>
    simp[h0,h1,h6,h7,h8,hlt,hlo,hlo2,hke lo hlo2 hlo,hz,hc,f51,qe]
  ·have hlo':l[lo]?=none:=List.getElem?_eq_none (by omega)
   simp[h0,h1,h6,h7,h8,hlt,hlo,hlo',f51,qe]
theorem zgb:za prog 51 (zd false [] (FKs bkP)) :=
 zL (fn:=f51) (zk (q:=[]) mixed ⟨zjz,by simp,zbW,by simp,trivial⟩:AM.Good Cbk _) ⟨_,func51,by kernel_rfl,rfl,by kernel_rfl⟩ false [] _ fun args r h=>by
  obtain⟨⟨l,s⟩,rfl,⟨hl,hs⟩,rfl⟩:=ze h
  exact⟨Nat.le_trans (Nat.le_refl 2) (by decide),_,zjA l s hl hs,zK _⟩
noncomputable abbrev Chk:Ctx:=zC prog [(51,zd false [] (FKs bkP))]
theorem Jk:za prog 28 (zd false [] (FKs hkP)) :=
 zL (fn:=f28) (zk (q:=[]) mixed ⟨zgb,by simp,trivial⟩:AM.Good Chk _) ⟨_,func28,by kernel_rfl,rfl,by kernel_rfl⟩ false [] _ fun args r h=>by
  obtain⟨⟨l,s⟩,rfl,⟨hl,hs⟩,rfl⟩:=ze h
  have hc:=fun hp nx=>zhO bkP l s hp nx hl hs rfl
  simp only[bkP] at hc
  exact⟨by simp[f28],_,zb rfl (by simp[hc,hkP,qe,f28]),zK _⟩
theorem zgc (l:List (List UInt8)) (s:List UInt8) (hp:Hp) (nx:Nat) (h:tbs l≤lim) (h2:s.length≤lim):zd false [] (FKs hkP) [.sl 1 (zD l),str s] hp nx=some (boo (bsN l s).2,hp,nx):=zhO hkP l s hp nx h h2 rfl
theorem zgd {l:List (List UInt8)} (hl:UpN l) (s:List UInt8):(bsN l s).2=l.contains s:=by
 rw[Bool.eq_iff_iff,List.contains_iff_mem]
 constructor
 ·intro h
  exact List.mem_of_getElem? (zly h)
 ·intro h
  obtain⟨j,hj⟩:=List.getElem?_of_mem h
  rw[zlz hl hj]
end Go.Proofs.YtjcofiomfmebkaaGreatDoor
