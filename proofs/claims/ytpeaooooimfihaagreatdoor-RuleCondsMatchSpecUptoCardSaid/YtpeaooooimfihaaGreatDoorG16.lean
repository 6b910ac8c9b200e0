/-
The reference's Check of a value: what it computes, and that it is value.Check's.
The reference's Check of a value.
Comparisons: cmp.Compare at numbers and texts; a value compared with itself.
Comparing versions and cuts.
-/
import Derived.Test.YtpeaooooimfihaaGreatDoorG15
import Derived.Lib.Bytealg
set_option maxRecDepth 8000
namespace Go.Proofs.YtpeaooooimfihaaGreatDoor
open Go.Proofs.Tryz
open Go.RowKit Go.AM
def cutB (s:Int×Bool):Bool:=s.2||decide (1000<s.1)
def stepR (s r:Int×Bool):Int×Bool:=if cutB s then s else (s.1+r.1,s.2||r.2)
mutual
def Val.rp:Val→Int→Int×Bool
 | .mk _ _ _ is fs,l=>rpF fs l (rpV is l (1,decide (8<l)))
def rpV:List Val→Int→Int×Bool→Int×Bool
 | [],_,s=>s
 | v::vs,l,s=>rpV vs l (stepR s (v.rp (l+1)))
def rpF:List (List UInt8×Val)→Int→Int×Bool→Int×Bool
 | [],_,s=>s
 | (_,v)::vs,l,s=>rpF vs l (stepR s (v.rp (l+1)))
end
def rpI (xs:List Val) (l:Int) (s:Int×Bool):Int×Bool:=xs.foldl (fun s x=>stepR s (x.rp (l+1))) s
theorem rpV_eq:∀(xs:List Val) (l:Int) (s:Int×Bool),rpV xs l s=rpI xs l s
 | [],_,_=>rfl
 | v::vs,l,s=>by simp only[rpV,rpI,List.foldl_cons];exact rpV_eq vs l _
theorem rpF_eq:∀(xs:List (List UInt8×Val)) (l:Int) (s:Int×Bool),rpF xs l s=rpI (xs.map (·.2)) l s
 | [],_,_=>rfl
 | (a,v)::vs,l,s=>by simp only[rpF,rpI,List.map_cons,List.foldl_cons];exact rpF_eq vs l _
theorem rp_eq (v:Val) (l:Int):v.rp l=rpI v.inner l (1,decide (8<l)):=by
 cases v with
 | mk k n s is fs=>simp only[Val.rp,rpV_eq,rpF_eq,Val.inner,Val.items,Val.fields,rpI,List.foldl_append]
theorem rpI_stop {xs:List Val} {l:Int} {s:Int×Bool} (h:cutB s=true):rpI xs l s=s:=by
 induction xs with
 | nil=>rfl
 | cons x xs ih=>simp only[rpI,List.foldl_cons,stepR,h,if_true];exact ih
theorem rpI_drop {xs:List Val} {l:Int} {s:Int×Bool} {k:Nat} (h:k<xs.length):rpI (xs.drop k) l s=rpI (xs.drop (k+1)) l (stepR s (xs[k].rp (l+1))):=by
 rw[List.drop_eq_getElem_cons h];rfl
def j7 (xs:List Val):Nat:=(xs.map Val.parts).sum
def wq:List Val→Nat
 | []=>0
 | v::l=>max v.levels (wq l)
theorem partsI_eq (v:Val):v.parts=1+j7 v.inner:=by
 rw[parts_eq]
 have h1:∀l:List Val,partsV l=j7 l:=by
  intro l;induction l with
  | nil=>rfl
  | cons v l ih=>simp[partsV,j7,ih]
 have h2:∀l:List (List UInt8×Val),partsF l=j7 (l.map (·.2)):=by
  intro l;induction l with
  | nil=>rfl
  | cons v l ih=>obtain⟨a,v⟩:=v;simp[partsF,j7] at ih ⊢;rw[ih]
 rw[h1,h2]
 simp[j7,Val.inner,Nat.add_assoc]
theorem levelsI_eq (v:Val):v.levels=wq v.inner+1:=by
 rw[levels_eq]
 have h1:∀l:List Val,levelsV l=wq l:=by
  intro l;induction l with
  | nil=>rfl
  | cons v l ih=>simp[levelsV,wq,ih]
 have h2:∀l:List (List UInt8×Val),levelsF l=wq (l.map (·.2)):=by
  intro l;induction l with
  | nil=>rfl
  | cons v l ih=>obtain⟨a,v⟩:=v;simp[levelsF,wq,ih]
 have h3:∀a b:List Val,wq (a++b)=max (wq a) (wq b):=by
  intro a b;induction a with
  | nil=>simp[wq]
  | cons v a ih=>simp only[List.cons_append,wq,ih];omega
 rw[h1,h2,Val.inner,h3]
theorem inner_mem {v x:Val} (h:x∈v.inner):x.vb<v.vb:=by
 have hvb:=kM v
 rcases List.mem_append.1 h with h | h
 ·have:=q8 h;omega
 ·obtain⟨f,hf,rfl⟩:=List.mem_map.1 h
  have:=yn hf;omega
structure RP (xs:List Val) (l:Int) (s r:Int×Bool):Prop where
 lo:s.1≤r.1
 hi:r.1≤s.1+j7 xs
 deep:r.2=true→s.2=true∨8<l+(wq xs:Int)
 all:cutB r=false→r.1=s.1+j7 xs∧(xs≠[]→l+(wq xs:Int)≤8)
theorem rp_spec:∀(b:Nat) (v:Val),v.vb≤b→∀l,0≤(v.rp l).1∧(v.rp l).1≤v.parts∧((v.rp l).2=true→8<l+(v.levels:Int) - 1)∧(cutB (v.rp l)=false→(v.rp l).1=v.parts∧l+(v.levels:Int) - 1≤8):=by
 intro b
 induction b with
 | zero=>intro v hv;have:=xe v;omega
 | succ b ih =>
   intro v hv l
   have key:∀(xs:List Val) (s:Int×Bool),0≤s.1→(∀x∈xs,x.vb≤b)→RP xs l s (rpI xs l s):=by
    intro xs
    induction xs with
    | nil=>intro s _ _;exact⟨by simp[rpI],by simp[rpI,j7],fun h=>.inl (by simpa[rpI] using h),fun _=>⟨by simp[rpI,j7],fun h=>absurd rfl h⟩⟩
    | cons x xs ihx =>
      intro s h0 hm
      by_cases hc:cutB s=true
      ·rw[rpI_stop hc]
       exact⟨by omega,by omega,fun h=>.inl h,fun h=>by rw[hc] at h;cases h⟩
      ·have e:rpI (x::xs) l s=rpI xs l (s.1+(x.rp (l+1)).1,s.2||(x.rp (l+1)).2):=by
        simp only[rpI,List.foldl_cons,stepR,hc];rfl
       rw[e]
       obtain⟨g1,g2,g3,g4⟩:=ih x (hm x (by simp)) (l+1)
       have hr:=ihx (s.1+(x.rp (l+1)).1,s.2||(x.rp (l+1)).2) (by simp only;omega) (fun y hy=>hm y (by simp[hy]))
       have hpi:j7 (x::xs)=x.parts+j7 xs:=by simp[j7]
       have hlo:=hr.lo
       have hhi:=hr.hi
       simp only at hlo hhi
       refine⟨by omega,by rw[hpi];omega,fun h=>?_,fun h=>?_⟩
       ·simp only[wq]
        rcases hr.deep h with h | h
        ·simp only[Bool.or_eq_true] at h
         rcases h with h | h
         ·exact .inl h
         ·right;have:=g3 h;omega
        ·right;omega
       ·obtain⟨a1,a2⟩:=hr.all h
        have hx:cutB (x.rp (l+1))=false:=by
         simp only[cutB,Bool.or_eq_false_iff,decide_eq_false_iff_not] at h hc ⊢
         refine⟨?_,by omega⟩
         cases hd:(x.rp (l+1)).2 with
         | false=>rfl
         | true =>
           exfalso
           have hst:cutB (s.1+(x.rp (l+1)).1,s.2||(x.rp (l+1)).2)=true:=by simp[cutB,hd]
           rw[rpI_stop hst] at h
           simp[hd] at h
        obtain⟨b1,b2⟩:=g4 hx
        simp only at a1
        refine⟨by rw[hpi];omega,fun _=>?_⟩
        simp only[wq]
        by_cases hn:xs=[]
        ·subst hn;simp only[wq];omega
        ·have:=a2 hn;omega
   have hk:=key v.inner (1,decide (8<l)) (by simp) fun x hx=>by have:=inner_mem hx;omega
   rw[rp_eq,partsI_eq,levelsI_eq]
   have k1:=hk.lo
   have k2:=hk.hi
   simp only at k1 k2
   refine⟨by omega,by omega,fun h=>?_,fun h=>?_⟩
   ·rcases hk.deep h with h | h
    ·simp at h;omega
    ·omega
   ·obtain⟨a1,a2⟩:=hk.all h
    simp only at a1
    refine⟨by omega,?_⟩
    by_cases hn:v.inner=[]
    ·rw[hn] at h ⊢
     simp[rpI,cutB] at h
     simp only[wq]
     omega
    ·have:=a2 hn;omega
theorem large_eq (v:Val):cutB (v.rp 1)=(decide ((1000:Int)<v.parts)||decide ((8:Int)<v.levels)):=by
 obtain⟨h1,h2,h3,h4⟩:=rp_spec v.vb v (Nat.le_refl _) 1
 cases hc:cutB (v.rp 1) with
 | false =>
   obtain⟨a,b⟩:=h4 hc
   simp only[cutB,Bool.or_eq_false_iff,decide_eq_false_iff_not] at hc
   symm
   simp only[Bool.or_eq_false_iff,decide_eq_false_iff_not]
   omega
 | true =>
   symm
   simp only[cutB,Bool.or_eq_true,decide_eq_true_eq] at hc ⊢
   rcases hc with hc | hc
   ·right;have:=h3 hc;omega
   ·left;omega
noncomputable def FV2 (out:Val→Int→PV) (lo hi:Int) (n:Nat):List PV→Option PV:=zH (α:=Val×Int) (fun a=>[.agg a.1.enc,int a.2]) (fun a=>a.1.vb≤lim∧a.1.vb≤n∧lo≤a.2∧a.2≤hi) (fun a=>out a.1 a.2)
theorem FV2_call (out:Val→Int→PV) (lo hi:Int) (n:Nat) (v:Val) (i:Int) (hp:Hp) (nx:Nat) (h:v.vb≤lim∧v.vb≤n∧lo≤i∧i≤hi):zf false [] (FV2 out lo hi n) [.agg v.enc,int i] hp nx=some (out v i,hp,nx) :=
 zK (hp1:=hp) (show zi hp [.agg v.enc,int i]=some ([.agg v.enc,int i],hp) by simp only[zi,wR];simp)
  (zn (enc:=fun a:Val×Int=>[.agg a.1.enc,int a.2]) (a:=(v,i)) (fun a b e=>by
   obtain⟨a1,a2⟩:=a;obtain⟨b1,b2⟩:=b
   simp only[List.cons.injEq,and_true,PV.agg.injEq] at e
   rw[ky e.1,zG e.2]) h) (.inr (by simp only[List.all_cons,xT,List.all_nil];rfl))
noncomputable abbrev Crp (n:Nat):Ctx:=zF prog [(74,zf false [] (FV2 (fun v l=>.tup [int (v.rp l).1,boo (v.rp l).2]) 1 9 n)),(111,GV fun v=>.sl 5 (v.inner.map Val.enc))]
theorem inner_length (v:Val):v.inner.length<v.vb:=by
 have:=kM v
 have:=qp v.items
 have:=qL v.fields
 simp[Val.inner]
 omega
theorem rparts_eval (n:Nat) (v:Val) (l:Int) (h:v.vb≤lim∧v.vb≤n+1∧1≤l∧l≤9):zj (Crp n) f74 [.agg v.enc,int l]=some (.tup [int (v.rp l).1,boo (v.rp l).2]):=by
 obtain⟨ha,hb,hl1,hl2⟩:=h
 have hil:=inner_length v
 have hin:=fun hp nx=>vi (fun v=>.sl 5 (v.inner.map Val.enc)) v hp nx ha
 unfold lim at ha
 refine zb rfl ?_
 simp[hin]
 refine zy (fun k σ hp nx=>σ 1=int l∧σ 15=.sl 5 (v.inner.map Val.enc)∧σ 16=int v.inner.length∧σ 17=int k∧∃s:Int×Bool,σ 6=int s.1∧σ 7=boo s.2∧0≤s.1∧s.1≤2000000∧(s.2=false→l≤8)∧v.rp l=rpI (v.inner.drop k) l s) v.inner.length
  ⟨by simp,by simp,by simp,by simp,(1,decide (8<l)),by simp,by simp,by simp,by simp,by simp,by rw[rp_eq];simp⟩ ?_
 rintro k σ hp nx hk ⟨h1,h15,h16,h17,s,h6,h7,s0,s1,s2,he⟩
 by_cases hlt:k<v.inner.length
 ·have hw:IntKind.i64.wrap ((k:Int)+1)=(k:Int)+1:=zh (by omega) (by omega)
  have hm:=inner_mem (List.getElem_mem hlt)
  have hec:(s.2||decide (1000<s.1))=cutB s:=rfl
  cases hc:cutB s
  ·have hs2:s.2=false:=by cases h:s.2<;>simp_all[cutB]
   have hl8:=s2 hs2
   have wl:IntKind.i64.wrap (l+1)=l+1:=zh (by omega) (by omega)
   have hcall:=fun hp nx=>FV2_call (fun v l=>.tup [int (v.rp l).1,boo (v.rp l).2]) 1 9 n v.inner[k] (l+1) hp nx ⟨by unfold lim;omega,by omega,by omega,by omega⟩
   obtain⟨g1,g2,g3,g4⟩:=rp_spec _ v.inner[k] (Nat.le_refl _) (l+1)
   have hpl:=parts_le v.inner[k]
   have hs1:s.1≤1000:=by simp[cutB] at hc;omega
   have ws:IntKind.i64.wrap (s.1+(v.inner[k].rp (l+1)).1)=s.1+(v.inner[k].rp (l+1)).1:=zh (by omega) (by omega)
   rw[rpI_drop hlt] at he
   simp only[stepR,hc,Bool.false_eq_true,if_false] at he
   simp[h1,h15,h16,h17,h6,h7,hlt,hec,hc,hcall,wl,ws,hw]
   refine⟨hlt,?_⟩
   rw[he,hs2]
   cases hd:(v.inner[k].rp (l+1)).2<;>simp[hd]<;>omega
  ·rw[rpI_stop hc] at he
   simp[h1,h15,h16,h17,h6,h7,hlt,hec,hc,he,f74,qi]
 ·obtain rfl:k=v.inner.length:=by omega
  rw[List.drop_length] at he
  have he:v.rp l=s:=he
  simp[h1,h15,h16,h17,h6,h7,he,f74,qi]
theorem FV2_inv {out:Val→Int→PV} {lo hi:Int} {n:Nat} {args:List PV} {r:PV} (h:FV2 out lo hi n args=some r):∃(v:Val) (i:Int),args=[.agg v.enc,int i]∧(v.vb≤lim∧v.vb≤n∧lo≤i∧i≤hi)∧r=out v i:=by
 obtain⟨⟨v,i⟩,h1,h2,h3⟩:=ze h
 exact⟨v,i,h1,h2,h3⟩
theorem FV2_zero {out:Val→Int→PV} {lo hi:Int} {f:FuncId} (hfn:∃fn,prog.funcs[f]?=some fn∧(fn.name== "runtime.NumGoroutine")=false∧fn.body.isNone=false):za prog f (zf false [] (FV2 out lo hi 0)):=by
 refine⟨hfn,fun args hp nx r hp' nx' h=>?_⟩
 unfold zf at h
 split at h
 ·split at h
  ·rename_i r0 hF
   obtain⟨v,i,_,hv,_⟩:=FV2_inv hF
   have:=xe v
   omega
  ·cases h
 ·cases h
set_option maxRecDepth 100000 in
theorem rparts_sound:∀n,za prog 74 (zf false [] (FV2 (fun v l=>.tup [int (v.rp l).1,boo (v.rp l).2]) 1 9 n)):=by
 intro n
 induction n with
 | zero=>exact FV2_zero ⟨_,func74,by kernel_rfl,by kernel_rfl⟩
 | succ n ih =>
   have hg:AM.Good (Crp n) (fun g=>([]:List Nat).contains g):=zm mixed ⟨ih,by simp,inner_sound,by simp,trivial⟩
   exact zO (fn:=f74) hg ⟨_,func74,by kernel_rfl,rfl,by kernel_rfl⟩ false [] _ fun args r h=>by
    obtain⟨v,l,rfl,hv,rfl⟩:=FV2_inv h
    exact⟨Nat.le_trans (Nat.le_refl 2) (by decide),_,rparts_eval n v l hv,zM _⟩
noncomputable abbrev Crc:Ctx:=zF prog [(113,zf false [] (F3 inB)),(114,zf false [] (FS (zW 32 126)))]
@[simp] theorem qrc1:wo Crc 113:=qv (by rfl) (zg _ _)
def headV (v:Val):Int:=kz v.kind v.n v.s v.items.length v.fields.length
theorem headV_eq (v:Val):headV v=if (!inB v.kind 0 5) then 4 else if (v.kind != 1&&v.kind != 2&&v.n != 0) then 3 else if (v.kind != 3&&!v.s.isEmpty) then 3 else if (v.kind != 4&&decide (0<v.items.length)) then 3 else if (v.kind != 5&&decide (0<v.fields.length)) then 3 else if (v.kind==1&&!inB v.n 0 1) then 1 else if (v.kind==2&&!inB v.n (-999999999999999) 999999999999999) then 1 else if (decide ((500:Int)<v.s.length)) then 2 else if (!zW 32 126 v.s) then 1 else if (decide ((100:Int)<v.items.length)||decide ((100:Int)<v.fields.length)) then 2 else 0:=by
 unfold headV kz
 have q1:cKind v.kind=!inB v.kind 0 5:=by rw[Bool.eq_iff_iff];simp[cKind,inB]
 have q2:cSpare v.kind v.n v.s v.items.length v.fields.length=((v.kind != 1&&v.kind != 2&&v.n != 0)||(v.kind != 3&&!v.s.isEmpty)||(v.kind != 4&&decide (0<v.items.length))||(v.kind != 5&&decide (0<v.fields.length))):=by
  unfold cSpare
  have:(v.s==[])=v.s.isEmpty:=by cases v.s<;>rfl
  rw[this]
  generalize (v.kind != 1)=x1
  generalize (v.kind != 2)=x2
  generalize (v.kind != 3)=x3
  generalize (v.kind != 4)=x4
  generalize (v.kind != 5)=x5
  generalize (v.n != 0)=x6
  generalize v.s.isEmpty=x7
  generalize decide (0<v.items.length)=x8
  generalize decide (0<v.fields.length)=x9
  cases x1<;>cases x2<;>cases x3<;>cases x4<;>cases x5<;>cases x6<;>cases x7<;>cases x8<;>cases x9<;>rfl
 have q3:cRange1 v.kind v.n=(v.kind==1&&!inB v.n 0 1):=by rw[Bool.eq_iff_iff];simp[cRange1,inB];omega
 have q4:vj v.kind v.n=(v.kind==2&&!inB v.n (-999999999999999) 999999999999999):=by rw[Bool.eq_iff_iff];simp[vj,inB];omega
 rw[q1,q2,q3,q4,cLong,cMany]
 generalize (!inB v.kind 0 5)=b1
 generalize (v.kind != 1&&v.kind != 2&&v.n != 0)=b2
 generalize (v.kind != 3&&!v.s.isEmpty)=b3
 generalize (v.kind != 4&&decide (0<v.items.length))=b4
 generalize (v.kind != 5&&decide (0<v.fields.length))=b5
 generalize (v.kind==1&&!inB v.n 0 1)=b6
 generalize (v.kind==2&&!inB v.n (-999999999999999) 999999999999999)=b7
 cases b1<;>cases b2<;>cases b3<;>cases b4<;>cases b5<;>cases b6<;>cases b7<;>cases zW 32 126 v.s<;>rfl
theorem rcheckPart_eval (v:Val) (h:v.vb≤lim):zj Crc f112 [.agg v.enc]=some (int (headV v)):=by
 have hvb:=kM v
 have hsl:v.s.length≤lim:=by omega
 refine zb rfl ?_
 have hh:=headV_eq v
 obtain⟨a1,ea1⟩:∃b,(!inB v.kind 0 5)=b:=⟨_,rfl⟩
 obtain⟨a2,ea2⟩:∃b,(v.kind != 1&&v.kind != 2&&v.n != 0)=b:=⟨_,rfl⟩
 obtain⟨a3,ea3⟩:∃b,(v.kind != 3&&!v.s.isEmpty)=b:=⟨_,rfl⟩
 obtain⟨a4,ea4⟩:∃b,(v.kind != 4&&decide (0<v.items.length))=b:=⟨_,rfl⟩
 obtain⟨a5,ea5⟩:∃b,(v.kind != 5&&decide (0<v.fields.length))=b:=⟨_,rfl⟩
 obtain⟨a6,ea6⟩:∃b,(v.kind==1&&!inB v.n 0 1)=b:=⟨_,rfl⟩
 obtain⟨a7,ea7⟩:∃b,(v.kind==2&&!inB v.n (-999999999999999) 999999999999999)=b:=⟨_,rfl⟩
 obtain⟨a8,ea8⟩:∃b,(decide ((500:Int)<v.s.length))=b:=⟨_,rfl⟩
 obtain⟨a9,ea9⟩:∃b,(!zW 32 126 v.s)=b:=⟨_,rfl⟩
 obtain⟨a10,ea10⟩:∃b,(decide ((100:Int)<v.items.length)||decide ((100:Int)<v.fields.length))=b:=⟨_,rfl⟩
 rw[ea1,ea2,ea3,ea4,ea5,ea6,ea7,ea8,ea9,ea10] at hh
 cases a1
 case true=>simp[hsl,ea1,ea2,ea3,ea4,ea5,ea6,ea7,ea8,ea9,ea10,hh,f112]
 cases a2
 case true=>simp[hsl,ea1,ea2,ea3,ea4,ea5,ea6,ea7,ea8,ea9,ea10,hh,f112]
 cases a3
 case true=>simp[hsl,ea1,ea2,ea3,ea4,ea5,ea6,ea7,ea8,ea9,ea10,hh,f112]
 cases a4
 case true=>simp[hsl,ea1,ea2,ea3,ea4,ea5,ea6,ea7,ea8,ea9,ea10,hh,f112]
 cases a5
 case true=>simp[hsl,ea1,ea2,ea3,ea4,ea5,ea6,ea7,ea8,ea9,ea10,hh,f112]
 cases a6
 case true=>simp[hsl,ea1,ea2,ea3,ea4,ea5,ea6,ea7,ea8,ea9,ea10,hh,f112]
 cases a7
 case true=>simp[hsl,ea1,ea2,ea3,ea4,ea5,ea6,ea7,ea8,ea9,ea10,hh,f112]
 cases a8
 case true=>simp[hsl,ea1,ea2,ea3,ea4,ea5,ea6,ea7,ea8,ea9,ea10,hh,f112]
 cases a9
 case true=>simp[hsl,ea1,ea2,ea3,ea4,ea5,ea6,ea7,ea8,ea9,ea10,hh,f112]
 cases a10
 case true=>simp[hsl,ea1,ea2,ea3,ea4,ea5,ea6,ea7,ea8,ea9,ea10,hh,f112]
 simp[hsl,ea1,ea2,ea3,ea4,ea5,ea6,ea7,ea8,ea9,ea10,hh,f112]
theorem rcheckPart_sound:za prog 112 (GV fun v=>int (headV v)) :=
 zO (fn:=f112) (zm (q:=[113,114]) mixed ⟨wZ,fun _=>zg _ _,jd,fun _=>zg _ _,trivial⟩:AM.Good Crc _) ⟨_,func112,by kernel_rfl,rfl,by kernel_rfl⟩ false [] _ fun args r h=>by
  obtain⟨v,rfl,hv,rfl⟩:=xW h
  exact⟨by simp[f112],_,rcheckPart_eval v hv.1,zM _⟩
noncomputable abbrev Cra (n:Nat):Ctx:=zF prog [(75,zf false [] (FV (fun v=>int v.fault) n)),(112,GV fun v=>int (headV v)),(113,zf false [] (F3 inB)),(114,zf false [] (FS (zW 32 126)))]
@[simp] theorem qra2 (n:Nat):wo (Cra n) 114:=qv (by rfl) (zg _ _)
theorem cName_ref (a:List UInt8):(!inB a.length 1 60||!zW 32 126 a)=cName a:=by
 unfold cName inB
 cases a with
 | nil=>rfl
 | cons c a =>
   generalize zW 32 126 (c::a)=x
   rw[Bool.eq_iff_iff]
   cases x<;>simp<;>omega
theorem checkAll_eval (n:Nat) (v:Val) (h:v.vb≤lim∧v.vb≤n+1):zj (Cra n) f75 [.agg v.enc]=some (int v.fault):=by
 have hvb:=kM v
 have hl1:=qp v.items
 have hl2:=qL v.fields
 obtain⟨ha,hb⟩:=h
 have hsp:=fun hp nx=>vi (fun v=>int (headV v)) v hp nx ha
 unfold lim at ha
 have hf:=fault_eq v
 refine zb rfl ?_
 by_cases hh:headV v=0
 case neg =>
  have hh2:(headV v != 0)=true:=by simpa using hh
  have hf':v.fault=headV v:=by rw[hf];exact if_neg hh
  simp[hsp,hh2,hf',f75]
 have hf:v.fault=if faultV v.items=0 then faultF none v.fields else faultV v.items:=by rw[hf];exact if_pos hh
 simp[hsp,hh]
 refine zy (fun k σ hp nx=>σ 1=.ref 0 0 0∧σ 16=.sl 5 (v.items.map Val.enc)∧σ 17=int v.items.length∧σ 18=int k∧1≤nx∧hp 0=some ⟨63,5,false,[v.enc]⟩∧faultV v.items=faultV (v.items.drop k)) v.items.length
  ⟨by simp,by simp,by simp,by simp,by simp,by simp,by simp⟩ ?_
 rintro k σ hp nx hk ⟨h1,h70,h71,h72,hnx,b0,he⟩
 have n0:¬0=nx:=by omega
 by_cases hlt:k<v.items.length
 ·have hm:=q8 (List.getElem_mem hlt)
  have hw:IntKind.i64.wrap ((k:Int)+1)=(k:Int)+1:=zh (by omega) (by omega)
  have hcall:=fun hp nx=>FV_call (fun v=>int v.fault) n v.items[k] hp nx ⟨by unfold lim;omega,by omega⟩
  rw[faultV_drop hlt] at he
  by_cases hz:v.items[k].fault=0
  ·rw[if_pos hz] at he
   simp[h1,h70,h71,h72,hlt,hcall,hz,hw]
   and_intros<;>first | omega | exact he | simp[n0,b0]
  ·rw[if_neg hz] at he
   have hz2:(v.items[k].fault != 0)=true:=by simpa using hz
   rw[he,if_neg hz] at hf
   simp[h1,h70,h71,h72,hlt,hcall,hz2,hf,f75]
 ·obtain rfl:k=v.items.length:=by omega
  rw[List.drop_length] at he
  have he:faultV v.items=0:=by rw[he];rfl
  rw[he,if_pos rfl] at hf
  simp[h1,h70,h71,h72,b0]
  refine zy (fun k σ hp nx=>σ 1=.ref 0 0 0∧σ 29=.sl 6 (v.fields.map encF)∧σ 30=int v.fields.length∧σ 31=int k∧1≤nx∧hp 0=some ⟨63,5,false,[v.enc]⟩∧v.fault=faultF (jC v.fields k) (v.fields.drop k)) v.fields.length
   ⟨by simp[h1],by simp,by simp,by simp,hnx,b0,by simp[hf,jC]⟩ ?_
  clear h1 h70 h71 h72 hnx b0 hlt hk n0 nx hp σ hf
  rintro k σ hp nx hk ⟨h1,h83,h84,h85,hnx,b0,hf⟩
  have n0:¬0=nx:=by omega
  by_cases hlt:k<v.fields.length
  ·have hm:=yn (List.getElem_mem hlt)
   have hw:IntKind.i64.wrap ((k:Int)+1)=(k:Int)+1:=zh (by omega) (by omega)
   have hnl:v.fields[k].1.length≤lim:=by unfold lim;omega
   have hcall:=fun hp nx=>FV_call (fun v=>int v.fault) n v.fields[k].2 hp nx ⟨by unfold lim;omega,by omega⟩
   have en:=cName_ref v.fields[k].1
   rw[faultF_drop hlt] at hf
   cases d1:cName v.fields[k].1
   case true=>simp[h1,h83,h84,h85,hlt,hnl,en,d1,hf,f75]
   have hpv:jC v.fields (k+1)=some v.fields[k].1:=by simp[jC,hlt]
   simp only[d1,Bool.false_eq_true,if_false] at hf
   by_cases k0:k=0
   ·subst k0
    simp only[jC,cPrev,if_true,Bool.false_eq_true,if_false] at hf
    by_cases hz:v.fields[0].2.fault=0
    ·rw[if_pos hz] at hf
     have w1:IntKind.i64.wrap 1=1:=zh (by omega) (by omega)
     simp[h1,h83,h84,h85,hlt,hnl,en,d1,hcall,hz,w1]
     and_intros<;>first | omega | (rw[hf];rw[hpv];simp;done) | simp[n0,b0]
    ·rw[if_neg hz] at hf
     have hz2:(v.fields[0].2.fault != 0)=true:=by simpa using hz
     simp[h1,h83,h84,h85,hlt,hnl,en,d1,hcall,hz2,hf,f75]
   ·obtain⟨j,rfl⟩:∃j,k=j+1:=⟨k - 1,by omega⟩
    have hj:j<v.fields.length:=by omega
    have wj:IntKind.i64.wrap ((j:Int)+1 - 1)=(j:Int):=by rw[zh (by omega) (by omega)];omega
    have wj':IntKind.i64.wrap (j:Int)=(j:Int):=zh (by omega) (by omega)
    have j1:((j:Int)+1).toNat=j+1:=by omega
    have j2:0<(j:Int)+1:=by omega
    have j3:0≤(j:Int)+1:=by omega
    have j4:(j:Int)+1<v.fields.length:=by omega
    have wk:IntKind.i64.wrap ((j:Int)+1+1)=(j:Int)+1+1:=zh (by omega) (by omega)
    have el:(Op.bytesLess v.fields[j+1].1 v.fields[j].1||v.fields[j+1].1==v.fields[j].1)=leB v.fields[j+1].1 v.fields[j].1:=rfl
    have hpj:jC v.fields (j+1)=some v.fields[j].1:=by simp[jC,hj]
    simp only[hpj,cPrev] at hf
    cases d2:leB v.fields[j+1].1 v.fields[j].1
    case true =>
     simp only[d2,if_true] at hf
     simp[h1,h83,h84,h85,hlt,hj,hnl,en,d1,hcall,b0,n0,wj,wj',j1,j2,j3,j4,el,d2,hf,f75]
    simp only[d2,Bool.false_eq_true,if_false] at hf
    by_cases hz:v.fields[j+1].2.fault=0
    ·rw[if_pos hz] at hf
     simp[h1,h83,h84,h85,hlt,hj,hnl,en,d1,hcall,b0,n0,wj,wj',j1,j2,j3,j4,el,d2,hz,wk]
     and_intros<;>first | omega | (rw[hf];rw[hpv]) | simp[n0,b0]
    ·rw[if_neg hz] at hf
     have hz2:(v.fields[j+1].2.fault != 0)=true:=by simpa using hz
     simp[h1,h83,h84,h85,hlt,hj,hnl,en,d1,hcall,b0,n0,wj,wj',j1,j2,j3,j4,el,d2,hz2,hf,f75]
  ·obtain rfl:k=v.fields.length:=by omega
   rw[List.drop_length] at hf
   have hf:v.fault=0:=by rw[hf];rfl
   simp[h1,h83,h84,h85,hf,f75]
set_option maxRecDepth 100000 in
theorem checkAll_sound:∀n,za prog 75 (zf false [] (FV (fun v=>int v.fault) n)):=by
 intro n
 induction n with
 | zero=>exact FV_zero ⟨_,func75,by kernel_rfl,by kernel_rfl⟩
 | succ n ih =>
   have hg:AM.Good (Cra n) (fun g=>[113,114].contains g):=zm mixed ⟨ih,by simp,rcheckPart_sound,by simp,wZ,fun _=>zg _ _,jd,fun _=>zg _ _,trivial⟩
   exact zO (fn:=f75) hg ⟨_,func75,by kernel_rfl,rfl,by kernel_rfl⟩ false [] _ fun args r h=>by
    obtain⟨v,rfl,hv,rfl⟩:=xW h
    exact⟨Nat.le_trans (Nat.le_refl 1) (by decide),_,checkAll_eval n v hv,zM _⟩
noncomputable abbrev Crch:Ctx:=zF prog [(75,GV fun v=>int v.fault),(74,zf false [] (FV2 (fun v l=>.tup [int (v.rp l).1,boo (v.rp l).2]) 1 9 lim))]
theorem rcheck_sound:za prog 50 (GV fun v=>int v.check) :=
 zO (fn:=f50) (zm (q:=[]) mixed ⟨checkAll_sound lim,by simp,rparts_sound lim,by simp,trivial⟩:AM.Good Crch _) ⟨_,func50,by kernel_rfl,rfl,by kernel_rfl⟩ false [] _ fun args r h=>by
  obtain⟨v,rfl,hv,rfl⟩:=xW h
  have h1:=fun hp nx=>vi (fun v=>int v.fault) v hp nx hv.1
  have h2:=fun hp nx=>FV2_call (fun v l=>.tup [int (v.rp l).1,boo (v.rp l).2]) 1 9 lim v 1 hp nx ⟨hv.1,hv.1,by omega,by omega⟩
  refine⟨by simp[f50],_,zb rfl ?_,zM _⟩
  have hl:=large_eq v
  have hc0:((v.rp 1).2||decide (1000<(v.rp 1).1))=cutB (v.rp 1):=rfl
  unfold Val.check
  rw[←hl]
  cases hc:cutB (v.rp 1)
  ·simp[h1,h2,hc0,hc,f50]
  ·simp[h1,h2,hc0,hc,f50]
def cmpI (a b:Int):Int:=if a<b then -1 else if b<a then 1 else 0
def cmpS (a b:List UInt8):Int:=if Op.bytesLess a b then -1 else if Op.bytesLess a b||a==b then 0 else 1
def F2I (f:Int→Int→Int):List PV→Option PV
 | [.v (.int .i64 a),.v (.int .i64 b)]=>some (int (f a b))
 | _=>none
theorem F2I_inv {f:Int→Int→Int} {args:List PV} {r:PV} (h:F2I f args=some r):∃a b,args=[int a,int b]∧r=int (f a b):=by
 unfold F2I at h
 split at h
 ·injection h with h;exact⟨_,_,rfl,h.symm⟩
 ·cases h
@[simp] theorem F2I_call (f:Int→Int→Int) (a b:Int) (hp:Hp) (nx:Nat):zf false [] (F2I f) [.v (.int .i64 a),.v (.int .i64 b)] hp nx=some (int (f a b),hp,nx):=zK rfl rfl (.inl rfl)
def isNaNI:List PV→Option PV
 | [.v (.int .i64 _)]=>some (boo false)
 | _=>none
def isNaNS:List PV→Option PV
 | [.v (.string _)]=>some (boo false)
 | _=>none
@[simp] theorem isNaNI_call (a:Int) (hp:Hp) (nx:Nat):zf false [] isNaNI [.v (.int .i64 a)] hp nx=some (boo false,hp,nx):=zK rfl rfl (.inl rfl)
@[simp] theorem isNaNS_call (a:ByteArray) (hp:Hp) (nx:Nat):zf false [] isNaNS [.v (.string a)] hp nx=some (boo false,hp,nx):=zK rfl rfl (.inl rfl)
theorem isNaNI_sound:za prog 93 (zf false [] isNaNI) :=
 zO (fn:=f93) wT ⟨_,func93,by kernel_rfl,rfl,by kernel_rfl⟩ false [] _ fun args r h=>by
  unfold isNaNI at h
  split at h
  ·injection h with h;subst h
   exact⟨by simp[f93],_,zb rfl (by simp[f93]),zM _⟩
  ·cases h
theorem isNaNS_sound:za prog 115 (zf false [] isNaNS) :=
 zO (fn:=f115) wT ⟨_,func115,by kernel_rfl,rfl,by kernel_rfl⟩ false [] _ fun args r h=>by
  unfold isNaNS at h
  split at h
  ·injection h with h;subst h
   exact⟨by simp[f115],_,zb rfl (by simp[f115]),zM _⟩
  ·cases h
noncomputable abbrev Cnn:Ctx:=zF prog [(93,zf false [] isNaNI),(115,zf false [] isNaNS)]
theorem goodnn:AM.Good Cnn (fun g=>[93,115].contains g):=zm mixed ⟨isNaNI_sound,fun _=>zg _ _,isNaNS_sound,fun _=>zg _ _,trivial⟩
theorem yX:za prog 60 (zf false [] (F2I cmpI)) :=
 zO (fn:=f60) goodnn ⟨_,func60,by kernel_rfl,rfl,by kernel_rfl⟩ false [] _ fun args r h=>by
  obtain⟨a,b,rfl,rfl⟩:=F2I_inv h
  refine⟨by simp[f60],_,zb rfl ?_,zM _⟩
  unfold cmpI
  by_cases h1:a<b
  ·simp[h1,f60]
  ·by_cases h2:b<a
   ·simp[h1,h2,f60]
   ·simp[h1,h2,f60]
noncomputable def F2S (f:List UInt8→List UInt8→Int):List PV→Option PV:=zH (α:=List UInt8×List UInt8) (fun a=>[str a.1,str a.2]) (fun _=>True) (fun a=>int (f a.1 a.2))
@[simp] theorem F2S_call (f:List UInt8→List UInt8→Int) (a b:List UInt8) (hp:Hp) (nx:Nat):zf false [] (F2S f) [str a,str b] hp nx=some (int (f a b),hp,nx) :=
 zK rfl (zn (enc:=fun a:List UInt8×List UInt8=>[str a.1,str a.2]) (a:=(a,b)) (fun a b e=>by
  obtain⟨a1,a2⟩:=a;obtain⟨b1,b2⟩:=b
  simp only[List.cons.injEq,and_true] at e
  rw[qt e.1,qt e.2]) trivial) (.inl rfl)
theorem cmpS_sound:za prog 76 (zf false [] (F2S cmpS)) :=
 zO (fn:=f76) goodnn ⟨_,func76,by kernel_rfl,rfl,by kernel_rfl⟩ false [] _ fun args r h=>by
  obtain⟨⟨a,b⟩,rfl,_,rfl⟩:=ze h
  refine⟨by simp[f76],_,zb rfl ?_,zM _⟩
  simp only[cmpS]
  cases h1:Op.bytesLess a b
  ·cases h2:(a==b)
   ·simp[h1,h2,f76]
   ·simp[h1,h2,f76]
  ·simp[h1,f76]
@[simp] theorem cmpI_self (a:Int):cmpI a a=0:=by simp[cmpI]
noncomputable abbrev cmpB:=Lib.compareBytes
theorem cmpString_sound:za prog 94 (zf false [] (F2S cmpB)) :=
 sound_scalar ⟨_,func94,by kernel_rfl,by kernel_rfl⟩ fun args r h=>by
  obtain⟨⟨a,b⟩,rfl,_,rfl⟩:=ze h
  exact⟨[.string ⟨a.toArray⟩,.string ⟨b.toArray⟩],rfl,by simp[lit],_,rfl,rfl,fun w=>by simpa using Tryz.bytealg_CompareString ⟨a.toArray⟩ ⟨b.toArray⟩ w⟩
noncomputable abbrev Cstr:Ctx:=zF prog [(94,zf false [] (F2S cmpB))]
theorem yE:za prog 61 (zf false [] (F2S cmpB)) :=
 zO (fn:=f61) (zm (q:=[]) mixed ⟨cmpString_sound,by simp,trivial⟩:AM.Good Cstr _) ⟨_,func61,by kernel_rfl,rfl,by kernel_rfl⟩ false [] _ fun args r h=>by
  obtain⟨⟨a,b⟩,rfl,_,rfl⟩:=ze h
  exact⟨by simp[f61],_,zb rfl (by simp[f61]),zM _⟩
def orL:List Int→Int
 | []=>0
 | n::l=>if n=0 then orL l else n
def encN (l:List Int):List (List PV):=l.map fun n=>[int n]
@[simp] theorem encN_length (l:List Int):(encN l).length=l.length:=by simp[encN]
@[simp] theorem encN_at {l:List Int} {k:Nat} (h:k<(encN l).length):(encN l)[k]=[int (l[k]'(by simpa using h))]:=by simp[encN]
theorem encN_inj {a b:List Int} (h:encN a=encN b):a=b:=ve (fun x y e=>by simp only[List.cons.injEq,and_true] at e;exact zG e) h
noncomputable def FOr:List PV→Option PV:=zH (α:=List Int) (fun l=>[.sl 1 (encN l)]) (fun l=>l.length≤lim) (fun l=>int (orL l))
theorem or_eval (l:List Int) (hl:l.length≤lim):zj C0 f95 [.sl 1 (encN l)]=some (int (orL l)):=by
 refine zb rfl ?_
 unfold lim at hl
 simp
 refine zy (fun k σ hp nx=>σ 3=int 0∧σ 6=.sl 1 (encN l)∧σ 7=int l.length∧σ 8=int k∧orL l=orL (l.drop k)) l.length ⟨by simp,by simp,by simp,by simp,by simp⟩ ?_
 rintro k σ hp nx hk ⟨h3,h6,h7,h8,he⟩
 by_cases hlt:k<l.length
 ·have hw:IntKind.i64.wrap ((k:Int)+1)=(k:Int)+1:=zh (by omega) (by omega)
  rw[List.drop_eq_getElem_cons hlt] at he
  simp only[orL] at he
  by_cases hz:l[k]=0
  ·rw[if_pos hz] at he
   simp[h3,h6,h7,h8,hlt,hz,hw]
   exact⟨hlt,he⟩
  ·rw[if_neg hz] at he
   have hz':(l[k] != 0)=true:=by simpa using hz
   simp[h3,h6,h7,h8,hlt,hz',he,f95]
 ·obtain rfl:k=l.length:=by omega
  rw[List.drop_length] at he
  simp[h3,h6,h7,h8,he,orL,f95]
theorem or_sound:za prog 95 (zf false [] FOr) :=
 zO (fn:=f95) wT ⟨_,func95,by kernel_rfl,rfl,by kernel_rfl⟩ false [] _ fun args r h=>by
  obtain⟨l,rfl,hp,rfl⟩:=ze h
  exact⟨by simp[f95],_,or_eval l hp,zM _⟩
theorem or_call (l:List Int) (hp:Hp) (nx id:Nat) (e:Nat) (h:l.length≤lim) (hh:hp id=some ⟨e,1,true,encN l⟩):zf false [] FOr [.own id 0 l.length] hp nx=some (int (orL l),hp,nx):=by
 have ht:(encN l).take l.length=encN l:=List.take_of_length_le (by simp)
 refine zK (show zi hp [.own id 0 l.length]=some ([.sl 1 (encN l)],upd hp id none) by simp[hh,ht]) ?_ (.inl rfl)
 exact zn (enc:=fun l:List Int=>[PV.sl 1 (encN l)]) (a:=l) (fun a b e=>by simp only[List.cons.injEq,and_true] at e;injection e with _ e;exact encN_inj e) h
def yP (l:List UInt8):Bool:=!l.isEmpty&&digs l
noncomputable def zT (a b:List UInt8):Int:=if yP a=true then (if yP b=true then orL [cmpI (Lib.trimLeftB a 48).length (Lib.trimLeftB b 48).length,cmpB (Lib.trimLeftB a 48) (Lib.trimLeftB b 48)] else -1) else if yP b=true then 1 else cmpB a b
noncomputable abbrev Ccp:Ctx:=zF prog [(216,zf false [] (FS digs)),(156,zf false [] (FTT tlP fun _ b=>one7 b)),(60,zf false [] (F2I cmpI)),(61,zf false [] (F2S cmpB)),(95,zf false [] FOr)]
theorem goodcp:AM.Good Ccp (fun g=>[216].contains g):=zm mixed ⟨jf,fun _=>zg _ _,jK,by simp,yX,by simp,yE,by simp,or_sound,by simp,trivial⟩
@[simp] theorem quietcp:wo Ccp 216:=qv (by rfl) (zg _ _)
theorem tl_call (a:List UInt8) (hp:Hp) (nx:Nat) (h:a.length≤lim):zf false [] (FTT tlP fun _ b=>one7 b) [str a,str [48]] hp nx=some (str (Lib.trimLeftB a 48),hp,nx):=w7 _ _ a [48] hp nx h (by decide) ⟨48,rfl,by decide⟩ rfl
theorem comparePre_eval (a b:List UInt8) (ha:a.length≤lim) (hb:b.length≤lim):zj Ccp f195 [str a,str b]=some (int (zT a b)):=by
 refine zb rfl ?_
 have da:=fun hp nx=>wi digs a hp nx ha
 have db:=fun hp nx=>wi digs b hp nx hb
 have ta:=fun hp nx=>tl_call a hp nx ha
 have tb:=fun hp nx=>tl_call b hp nx hb
 have ea:(!a.isEmpty&&digs a)=yP a:=rfl
 have eb:(!b.isEmpty&&digs b)=yP b:=rfl
 cases h1:yP a<;>cases h2:yP b
 ·simp[da,db,ea,eb,h1,h2,zT,f195]
 ·simp[da,db,ea,eb,h1,h2,zT,f195]
 ·simp[da,db,ea,eb,h1,h2,zT,f195]
 ·have ho:∀(hp:Hp) (nx id:Nat),hp id=some ⟨3,1,true,[[int (cmpI (Lib.trimLeftB a 48).length (Lib.trimLeftB b 48).length)],[int (cmpB (Lib.trimLeftB a 48) (Lib.trimLeftB b 48))]]⟩→zf false [] FOr [.own id 0 2] hp nx=some (int (orL [cmpI (Lib.trimLeftB a 48).length (Lib.trimLeftB b 48).length,cmpB (Lib.trimLeftB a 48) (Lib.trimLeftB b 48)]),hp,nx):=fun hp nx id hh=>or_call [_,_] hp nx id _ (by show 2≤lim;decide) hh
  simp[da,db,ta,tb,ea,eb,h1,h2,ho,zd,zl,zc,zT,f195]
theorem comparePre_sound:za prog 195 (zf false [] (FTT (fun a b=>int (zT a b)) fun _ _=>True)) :=
 zO (fn:=f195) goodcp ⟨_,func195,by kernel_rfl,rfl,by kernel_rfl⟩ false [] _ fun args r h=>by
  obtain⟨a,b,rfl,h1,h2,_,rfl⟩:=wL h
  exact⟨by simp[f195],_,comparePre_eval a b h1 h2,zM _⟩
theorem cpre_call (a b:List UInt8) (hp:Hp) (nx:Nat) (h:a.length≤lim) (h2:b.length≤lim):zf false [] (FTT (fun a b=>int (zT a b)) fun _ _=>True) [str a,str b] hp nx=some (int (zT a b),hp,nx):=w7 _ _ a b hp nx h h2 trivial rfl
def lexL {α:Type} (c:α→α→Int):List α→List α→Int
 | [],[]=>0
 | [],_::_=>-1
 | _::_,[]=>1
 | x::a,y::b=>if c x y=0 then lexL c a b else c x y
noncomputable abbrev Ccf:Ctx:=zF prog [(195,zf false [] (FTT (fun a b=>int (zT a b)) fun _ _=>True))]
theorem goodcf:AM.Good Ccf (fun g=>([]:List Nat).contains g):=zm mixed ⟨comparePre_sound,by simp,trivial⟩
def wJ (l:List (List UInt8)):Prop:=l.length≤lim∧∀p∈l,p.length≤lim
theorem compareFuncT_eval (a b:List (List UInt8)) (ha:wJ a) (hb:wJ b):zj Ccf f194 [.sl 1 (encT a),.sl 1 (encT b),.fn (.func 195) [] []]=some (int (lexL zT a b)):=by
 refine zb rfl ?_
 obtain⟨ha,hap⟩:=ha
 obtain⟨hb,hbp⟩:=hb
 unfold lim at ha hb
 simp
 refine zy (fun k σ hp nx=>σ 0=.sl 1 (encT a)∧σ 1=.sl 1 (encT b)∧σ 2=.fn (.func 195) [] []∧σ 11=.sl 1 (encT a)∧σ 12=int a.length∧σ 13=int k∧k≤b.length∧lexL zT a b=lexL zT (a.drop k) (b.drop k)) a.length
  ⟨by simp,by simp,by simp,by simp,by simp,by simp,by simp,by simp⟩ ?_
 rintro k σ hp nx hk ⟨h0,h1,h2,h11,h12,h13,hkb,he⟩
 by_cases hlt:k<a.length
 ·have hw:IntKind.i64.wrap ((k:Int)+1)=(k:Int)+1:=zh (by omega) (by omega)
  by_cases hltb:k<b.length
  ·have hltb':¬b.length≤k:=by omega
   have hc:=fun hp nx=>cpre_call a[k] b[k] hp nx (hap _ (List.getElem_mem hlt)) (hbp _ (List.getElem_mem hltb))
   rw[List.drop_eq_getElem_cons hlt,List.drop_eq_getElem_cons hltb] at he
   simp only[lexL] at he
   by_cases hz:zT a[k] b[k]=0
   ·rw[if_pos hz] at he
    simp[h0,h1,h2,h11,h12,h13,hlt,hltb,hltb',hc,hz,hw]
    exact⟨hlt,by omega,he⟩
   ·rw[if_neg hz] at he
    have hz':(zT a[k] b[k] != 0)=true:=by simpa using hz
    simp[h0,h1,h2,h11,h12,h13,hlt,hltb,hltb',hc,hz',he,f194]
  ·obtain rfl:k=b.length:=by omega
   rw[List.drop_eq_getElem_cons hlt,List.drop_length] at he
   simp only[lexL] at he
   simp[h0,h1,h2,h11,h12,h13,hlt,he,f194]
 ·obtain rfl:k=a.length:=by omega
  rw[List.drop_length] at he
  by_cases hl:a.length<b.length
  ·rw[List.drop_eq_getElem_cons hl] at he
   simp only[lexL] at he
   simp[h0,h1,h2,h11,h12,h13,hl,he,f194]
  ·rw[List.drop_of_length_le (by omega)] at he
   simp only[lexL] at he
   have hl':¬((a.length:Int)<b.length):=by omega
   simp[h0,h1,h2,h11,h12,h13,hl,he,f194]
noncomputable def FCf:List PV→Option PV:=zH (α:=List (List UInt8)×List (List UInt8)) (fun a=>[.sl 1 (encT a.1),.sl 1 (encT a.2),.fn (.func 195) [] []]) (fun a=>wJ a.1∧wJ a.2) (fun a=>int (lexL zT a.1 a.2))
theorem cf_inj:∀a b:List (List UInt8)×List (List UInt8),[PV.sl 1 (encT a.1),.sl 1 (encT a.2),.fn (.func 195) [] []]=[.sl 1 (encT b.1),.sl 1 (encT b.2),.fn (.func 195) [] []]→a=b:=by
 rintro⟨a1,a2⟩ ⟨b1,b2⟩ e
 simp only[List.cons.injEq,and_true] at e
 obtain⟨e1,e2⟩:=e
 injection e1 with _ e1
 injection e2 with _ e2
 rw[w8 e1,w8 e2]
theorem compareFuncT_sound:za prog 194 (zf false [] FCf) :=
 zO (fn:=f194) goodcf ⟨_,func194,by kernel_rfl,rfl,by kernel_rfl⟩ false [] _ fun args r h=>by
  obtain⟨⟨a,b⟩,rfl,⟨h1,h2⟩,rfl⟩:=ze h
  exact⟨by simp[f194],_,compareFuncT_eval a b h1 h2,zM _⟩
theorem cf_call (a b:List (List UInt8)) (hp:Hp) (nx:Nat) (h1:wJ a) (h2:wJ b):zf false [] FCf [.sl 1 (encT a),.sl 1 (encT b),.fn (.func 195) [] []] hp nx=some (int (lexL zT a b),hp,nx) :=
 zK (hp1:=hp) (by simp) (zn (enc:=fun a:List (List UInt8)×List (List UInt8)=>[PV.sl 1 (encT a.1),.sl 1 (encT a.2),.fn (.func 195) [] []]) (a:=(a,b)) cf_inj ⟨h1,h2⟩) (.inl rfl)
noncomputable def cmpV (v w:Ver):Int:=if orL [cmpI v.a w.a,cmpI v.b w.b,cmpI v.c w.c]=0 then (if v.pre.length=0 then (if w.pre.length=0 then 0 else 1) else if w.pre.length=0 then -1 else lexL zT v.pre w.pre) else orL [cmpI v.a w.a,cmpI v.b w.b,cmpI v.c w.c]
noncomputable abbrev Ccv:Ctx:=zF prog [(60,zf false [] (F2I cmpI)),(95,zf false [] FOr),(194,zf false [] FCf)]
theorem goodcv:AM.Good Ccv (fun g=>[60,95].contains g):=zm mixed ⟨yX,fun _=>zg _ _,or_sound,fun _=>zg _ _,compareFuncT_sound,by simp,trivial⟩
theorem compareVersions_eval (v w:Ver) (hv:v.small) (hw:w.small):zj Ccv f149 [.agg v.enc,.agg w.enc]=some (int (cmpV v w)):=by
 obtain⟨a,b,c,p⟩:=v
 obtain⟨a',b',c',p'⟩:=w
 refine zb rfl ?_
 have hcf:=fun hp nx=>cf_call p p' hp nx hv hw
 obtain⟨o,ho⟩:∃o,orL [cmpI a a',cmpI b b',cmpI c c']=o:=⟨_,rfl⟩
 have hor:∀(hp:Hp) (nx id:Nat),hp id=some ⟨3,1,true,[[int (cmpI a a')],[int (cmpI b b')],[int (cmpI c c')]]⟩→zf false [] FOr [.own id 0 3] hp nx=some (int o,hp,nx):=fun hp nx id hh=>ho ▸ or_call [_,_,_] hp nx id _ (by show 3≤lim;decide) hh
 have hval:cmpV ⟨a,b,c,p⟩ ⟨a',b',c',p'⟩=if o=0 then (if p.length=0 then (if p'.length=0 then 0 else 1) else if p'.length=0 then -1 else lexL zT p p') else o:=by rw[←ho];rfl
 rw[hval]
 by_cases h1:o=0
 ·subst h1
  by_cases h2:p.length=0<;>by_cases h3:p'.length=0
  ·simp[Ver.enc,hor,zd,zl,zc,h2,h3,f149]
  ·have h3':((p'.length:Int)==0)=false:=by simpa using h3
   simp[Ver.enc,hor,zd,zl,zc,h2,h3,h3',f149]
  ·have h2':((p.length:Int)==0)=false:=by simpa using h2
   simp[Ver.enc,hor,zd,zl,zc,h2,h3,h2',f149]
  ·have h2':((p.length:Int)==0)=false:=by simpa using h2
   have h3':((p'.length:Int)==0)=false:=by simpa using h3
   simp[Ver.enc,hor,zd,zl,zc,h2,h3,h2',h3',hcf,f149]
 ·have h1':(o != 0)=true:=by simpa using h1
  simp[Ver.enc,hor,zd,zl,zc,h1,h1',f149]
noncomputable def FVV2 (f:Ver→Ver→PV):List PV→Option PV:=zH (α:=Ver×Ver) (fun a=>[.agg a.1.enc,.agg a.2.enc]) (fun a=>a.1.small∧a.2.small) (fun a=>f a.1 a.2)
theorem vv_inj:∀a b:Ver×Ver,[PV.agg a.1.enc,.agg a.2.enc]=[.agg b.1.enc,.agg b.2.enc]→a=b:=by
 rintro⟨a1,a2⟩ ⟨b1,b2⟩ e
 simp only[List.cons.injEq,and_true] at e
 obtain⟨e1,e2⟩:=e
 injection e1 with e1
 injection e2 with e2
 rw[vK e1,vK e2]
theorem compareVersions_sound:za prog 149 (zC [.g vpat,.g vpat] (FVV2 fun v w=>int (cmpV v w))) :=
 zP (fn:=f149) goodcv ⟨_,func149,by kernel_rfl,rfl,by kernel_rfl⟩ _ _ fun args r h=>by
  obtain⟨⟨v,w⟩,rfl,⟨h1,h2⟩,rfl⟩:=ze h
  exact⟨by simp[f149],_,compareVersions_eval v w h1 h2,Stands.refl _⟩
theorem cv_call (v w:Ver) (hp:Hp) (nx:Nat) (h1:v.small) (h2:w.small):zC [.g vpat,.g vpat] (FVV2 fun v w=>int (cmpV v w)) [.agg v.enc,.agg w.enc] hp nx=some (int (cmpV v w),hp,nx) :=
 wy (show zi hp [.agg v.enc,.agg w.enc]=some ([.agg v.enc,.agg w.enc],hp) by simp[Ver.enc]) (zn (enc:=fun a:Ver×Ver=>[PV.agg a.1.enc,.agg a.2.enc]) (a:=(v,w)) vv_inj ⟨h1,h2⟩) (.inl rfl)
structure Cut where
 v:Ver
 after:Bool
def Cut.enc (c:Cut):List PV:=[int c.v.a,int c.v.b,int c.v.c,.sl 1 (encT c.v.pre),boo c.after]
abbrev cpat:List (Option Nat):=[none,none,none,some 1,none]
theorem jj {a b:Cut} (h:a.enc=b.enc):a=b:=by
 obtain⟨⟨a1,a2,a3,a4⟩,a5⟩:=a
 obtain⟨⟨b1,b2,b3,b4⟩,b5⟩:=b
 simp only[Cut.enc,List.cons.injEq,and_true] at h
 obtain⟨h1,h2,h3,h4,h5⟩:=h
 injection h4 with _ h4
 rw[zG h1,zG h2,zG h3,w8 h4,jY h5]
noncomputable def cmpC (a b:Cut):Int:=if cmpV a.v b.v=0 then (if a.after=b.after then 0 else if b.after=true then -1 else 1) else cmpV a.v b.v
noncomputable def FCC (f:Cut→Cut→PV):List PV→Option PV:=zH (α:=Cut×Cut) (fun a=>[.agg a.1.enc,.agg a.2.enc]) (fun a=>a.1.v.small∧a.2.v.small) (fun a=>f a.1 a.2)
theorem cc_inj:∀a b:Cut×Cut,[PV.agg a.1.enc,.agg a.2.enc]=[.agg b.1.enc,.agg b.2.enc]→a=b:=by
 rintro⟨a1,a2⟩ ⟨b1,b2⟩ e
 simp only[List.cons.injEq,and_true] at e
 obtain⟨e1,e2⟩:=e
 injection e1 with e1
 injection e2 with e2
 rw[jj e1,jj e2]
noncomputable abbrev Ccu:Ctx:=zF prog [(149,zC [.g vpat,.g vpat] (FVV2 fun v w=>int (cmpV v w)))]
theorem goodcu:AM.Good Ccu (fun g=>([]:List Nat).contains g):=zm mixed ⟨compareVersions_sound,by simp,trivial⟩
theorem compareCuts_eval (x y:Cut) (hx:x.v.small) (hy:y.v.small):zj Ccu f108 [.agg x.enc,.agg y.enc]=some (int (cmpC x y)):=by
 obtain⟨⟨a,b,c,p⟩,f⟩:=x
 obtain⟨⟨a',b',c',p'⟩,f'⟩:=y
 refine zb rfl ?_
 have hcv:=fun hp nx=>cv_call ⟨a,b,c,p⟩ ⟨a',b',c',p'⟩ hp nx hx hy
 simp only[Ver.enc] at hcv
 by_cases h1:cmpV ⟨a,b,c,p⟩ ⟨a',b',c',p'⟩=0
 ·cases f<;>cases f'<;>simp[Cut.enc,hcv,h1,cmpC,f108]
 ·have h1':(cmpV ⟨a,b,c,p⟩ ⟨a',b',c',p'⟩ != 0)=true:=by simpa using h1
  simp[Cut.enc,hcv,h1,h1',cmpC,f108]
theorem yp:za prog 108 (zC [.g cpat,.g cpat] (FCC fun v w=>int (cmpC v w))) :=
 zP (fn:=f108) goodcu ⟨_,func108,by kernel_rfl,rfl,by kernel_rfl⟩ _ _ fun args r h=>by
  obtain⟨⟨v,w⟩,rfl,⟨h1,h2⟩,rfl⟩:=ze h
  exact⟨by simp[f108],_,compareCuts_eval v w h1 h2,Stands.refl _⟩
theorem cc_call (x y:Cut) (u v:PV) (hp:Hp) (nx:Nat) (hu:(Sh.g cpat).fix u=.agg x.enc) (hv:(Sh.g cpat).fix v=.agg y.enc) (hf:zi hp [u,v]=some ([u,v],hp)) (h1:x.v.small) (h2:y.v.small):zC [.g cpat,.g cpat] (FCC fun v w=>int (cmpC v w)) [u,v] hp nx=some (int (cmpC x y),hp,nx) :=
 wy hf (by
  show FCC _ [(Sh.g cpat).fix u,(Sh.g cpat).fix v]=_
  rw[hu,hv]
  exact zn (enc:=fun a:Cut×Cut=>[PV.agg a.1.enc,.agg a.2.enc]) (a:=(x,y)) cc_inj ⟨h1,h2⟩) (.inl rfl)
end Go.Proofs.YtpeaooooimfihaaGreatDoor
