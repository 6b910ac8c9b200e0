/-
The reference's Compare of two values.
Plain law: conditions, as the reference counts and checks them.
The reference's versions: digits, numbers, parts of Pre, comparing.
The reference's versions: comparing versions and cuts, what a range covers, reading.
Plain law: versions that can be partial, as the reference reads them.
-/
import Derived.Test.YtdkfdoeijcfbhaaGreatDoorG15
import Derived.Test.YtdkfdoeijcfbhaaGreatDoorG21
import Derived.Test.YtdkfdoeijcfbhaaGreatDoorG19
import Derived.Test.YtdkfdoeijcfbhaaGreatDoorG16
import Derived.Test.YtdkfdoeijcfbhaaGreatDoorG17
import Derived.Test.YtdkfdoeijcfbhaaGreatDoorG18
set_option maxRecDepth 8000
namespace Go.Proofs.YtdkfdoeijcfbhaaGreatDoor
open Go.Proofs.Tryz
open Go.RowKit Go.AM
theorem zb1:∀a b:List UInt8,cmpS a b=cmpB a b
 | [],[]=>by simp[cmpS,cmpB,Lib.compareBytes,Op.bytesLess]
 | [],_::_=>by simp[cmpS,cmpB,Lib.compareBytes,Op.bytesLess]
 | _::_,[]=>by simp[cmpS,cmpB,Lib.compareBytes,Op.bytesLess]
 | a::x,b::y=>by
   have ih:=zb1 x y
   unfold cmpS cmpB at ih ⊢
   rcases zbH a b with h | rfl | h
   ·simp[Lib.compareBytes,Op.bytesLess,h]
   ·simpa[Lib.compareBytes,Op.bytesLess,Jt] using ih
   ·have hne:¬a=b:=fun e=>Jt b (e ▸ h)
    simp[Lib.compareBytes,Op.bytesLess,h,VA h,hne]
theorem QU {a b:Int} (h:cmpI a b=0):a=b:=by
 unfold cmpI at h
 split at h
 ·cases h
 ·split at h
  ·cases h
  ·omega
theorem VJ {α:Type} (c:α→α→Int) {a b:List α} {m:Nat} (h1:m≤a.length) (h2:m≤b.length) (h3:m=a.length∨m=b.length):lexL c (a.drop m) (b.drop m)=cmpI a.length b.length:=by
 unfold cmpI
 by_cases ha:m<a.length
 ·have hb:m=b.length:=by omega
  rw[List.drop_eq_getElem_cons ha,List.drop_of_length_le (l:=b) (by omega),if_neg (by omega),if_pos (by omega)]
  rfl
 ·rw[List.drop_of_length_le (l:=a) (by omega)]
  by_cases hb:m<b.length
  ·rw[List.drop_eq_getElem_cons hb,if_pos (by omega)]
   rfl
  ·rw[List.drop_of_length_le (l:=b) (by omega),if_neg (by omega),if_neg (by omega)]
   rfl
theorem zaD (a b:Nat):∃m:Nat,(if b<a then (b:Int) else a)=m∧m≤a∧m≤b∧(m=a∨m=b):=by
 by_cases h:b<a
 ·exact⟨b,by rw[if_pos h],by omega,Nat.le_refl _,.inr rfl⟩
 ·exact⟨a,by rw[if_neg h],Nat.le_refl _,by omega,.inl rfl⟩
theorem JG (f g:List UInt8×Val):yc f g=if cmpB f.1 g.1=0 then qo f.2 g.2 else cmpB f.1 g.1:=by
 unfold yc
 simp only[orL]
 split
 ·split
  ·rename_i h;rw[h]
  ·rfl
 ·rfl
noncomputable abbrev Crcm (n:Nat):Ctx:=zF prog [(92,zd false [] (FCV n)),(131,zd false [] (F2I cmpI)),(146,zd false [] (F2S cmpS))]
set_option maxHeartbeats 1000000 in
theorem rcompare_eval (n:Nat) (a b:Val) (h:a.vb≤lim∧a.vb≤n+1∧b.vb≤lim):zi (Crcm n) f92 [.agg a.enc,.agg b.enc]=some (int (qo a b)):=by
 obtain⟨h1,h2,h3⟩:=h
 have va:=ZX a
 have vb:=ZX b
 have la:=wp a.items
 have lb:=wp b.items
 have fa:=wT a.fields
 have fb:=wT b.fields
 unfold lim at h1 h3
 refine zb rfl ?_
 have hcv:=QC a b
 by_cases hk:a.kind=b.kind
 case neg =>
  rw[if_neg hk] at hcv
  have e0:(cmpI a.kind b.kind != 0)=true:=by
   rw[bne_iff_ne];exact fun e=>hk (QU e)
  simp[e0,hcv,f92]
 rw[if_pos hk] at hcv
 by_cases k1:a.kind=1
 ·rw[if_pos (.inl k1)] at hcv
  have kb:b.kind=1:=by omega
  simp[k1,kb,hcv,f92]
 by_cases k2:a.kind=2
 ·rw[if_pos (.inr k2)] at hcv
  have kb:b.kind=2:=by omega
  simp[k2,kb,hcv,f92]
 rw[if_neg (by omega)] at hcv
 by_cases k3:a.kind=3
 ·rw[if_pos k3] at hcv
  have kb:b.kind=3:=by omega
  have hs:=zb1 a.s b.s
  simp[k3,kb,hcv,hs,f92]
 rw[if_neg k3] at hcv
 by_cases k4:a.kind=4
 ·rw[if_pos k4] at hcv
  have kb:b.kind=4:=by omega
  obtain⟨m,hm,hma,hmb,hmm⟩:=zaD a.items.length b.items.length
  rw[hcv]
  simp[k4,kb,hm]
  refine zq (fun k σ hp nx=>σ 2=.ref 0 0 0∧σ 3=.ref 1 0 0∧σ 43=int m∧σ 44=int k∧hp 0=some ⟨117,5,false,[a.enc]⟩∧hp 1=some ⟨117,5,false,[b.enc]⟩∧lexL qo a.items b.items=lexL qo (a.items.drop k) (b.items.drop k)) m
   ⟨by simp,by simp,by simp,by simp,by simp,by simp,by simp⟩ ?_
  rintro k σ hp nx hk ⟨h2,h3,h43,h44,b0,b1,he⟩
  by_cases hlt:k<m
  ·have hka:k<a.items.length:=by omega
   have hkb:k<b.items.length:=by omega
   have ma:=yA (List.getElem_mem hka)
   have mb:=yA (List.getElem_mem hkb)
   have hc:=fun hp nx=>Zg n a.items[k] b.items[k] hp nx ⟨by unfold lim;omega,by omega,by unfold lim;omega⟩
   have hw:IntKind.i64.wrap ((k:Int)+1)=(k:Int)+1:=zc (by omega) (by omega)
   rw[List.drop_eq_getElem_cons hka,List.drop_eq_getElem_cons hkb] at he
   simp only[lexL] at he
   by_cases hz:qo a.items[k] b.items[k]=0
   ·rw[if_pos hz] at he
    simp[h2,h3,h43,h44,b0,b1,hlt,hka,hkb,hc,hz,hw]
    exact⟨hlt,he⟩
   ·rw[if_neg hz] at he
    have hz':(qo a.items[k] b.items[k] != 0)=true:=by simpa using hz
    simp[h2,h3,h43,h44,b0,b1,hlt,hka,hkb,hc,hz',he,f92]
  ·obtain rfl:k=m:=by omega
   rw[VJ qo hma hmb hmm] at he
   simp[h2,h3,h43,h44,b0,b1,he,f92]
 rw[if_neg k4] at hcv
 by_cases k5:a.kind=5
 ·rw[if_pos k5] at hcv
  have kb:b.kind=5:=by omega
  obtain⟨m,hm,hma,hmb,hmm⟩:=zaD a.fields.length b.fields.length
  rw[hcv]
  simp[k5,kb,hm]
  refine zq (fun k σ hp nx=>σ 2=.ref 0 0 0∧σ 3=.ref 1 0 0∧σ 77=int m∧σ 78=int k∧hp 0=some ⟨117,5,false,[a.enc]⟩∧hp 1=some ⟨117,5,false,[b.enc]⟩∧lexL yc a.fields b.fields=lexL yc (a.fields.drop k) (b.fields.drop k)) m
   ⟨by simp,by simp,by simp,by simp,by simp,by simp,by simp⟩ ?_
  rintro k σ hp nx hk ⟨h2,h3,h43,h44,b0,b1,he⟩
  by_cases hlt:k<m
  ·have hka:k<a.fields.length:=by omega
   have hkb:k<b.fields.length:=by omega
   have ma:=ki (List.getElem_mem hka)
   have mb:=ki (List.getElem_mem hkb)
   have hc:=fun hp nx=>Zg n a.fields[k].2 b.fields[k].2 hp nx ⟨by unfold lim;omega,by omega,by unfold lim;omega⟩
   have hs:=zb1 a.fields[k].1 b.fields[k].1
   have hw:IntKind.i64.wrap ((k:Int)+1)=(k:Int)+1:=zc (by omega) (by omega)
   rw[List.drop_eq_getElem_cons hka,List.drop_eq_getElem_cons hkb] at he
   simp only[lexL] at he
   rw[JG] at he
   by_cases hn:cmpB a.fields[k].1 b.fields[k].1=0
   ·rw[if_pos hn] at he
    by_cases hz:qo a.fields[k].2 b.fields[k].2=0
    ·rw[if_pos hz] at he
     simp[h2,h3,h43,h44,b0,b1,hlt,hka,hkb,hc,hs,hn,hz,hw]
     exact⟨hlt,he⟩
    ·rw[if_neg hz] at he
     have hz':(qo a.fields[k].2 b.fields[k].2 != 0)=true:=by simpa using hz
     simp[h2,h3,h43,h44,b0,b1,hlt,hka,hkb,hc,hs,hn,hz',he,f92]
   ·rw[if_neg hn,if_neg hn] at he
    have hn':(cmpB a.fields[k].1 b.fields[k].1==0)=false:=by simpa using hn
    have hn2:(cmpB a.fields[k].1 b.fields[k].1 != 0)=true:=by simpa using hn
    simp[h2,h3,h43,h44,b0,b1,hlt,hka,hkb,hc,hs,hn',hn2,he,f92]
  ·obtain rfl:k=m:=by omega
   rw[VJ yc hma hmb hmm] at he
   simp[h2,h3,h43,h44,b0,b1,he,f92]
 rw[if_neg k5] at hcv
 have e1:(a.kind==1)=false:=by simpa using k1
 have e2:(a.kind==2)=false:=by simpa using k2
 have e3:(a.kind==3)=false:=by simpa using k3
 have e4:(a.kind==4)=false:=by simpa using k4
 have e5:(a.kind==5)=false:=by simpa using k5
 have e0:cmpI a.kind b.kind=0:=by rw[hk];simp
 simp[e0,e1,e2,e3,e4,e5,hcv,f92]
set_option maxRecDepth 100000 in
theorem rcompare_sound:∀n,za prog 92 (zd false [] (FCV n)):=by
 intro n
 induction n with
 | zero =>
   exact Y8 ⟨_,func92,by kernel_rfl,by kernel_rfl⟩ fun args r h=>by
    obtain⟨a,b,_,h2,_⟩:=Vp h
    have:=WX a
    omega
 | succ n ih =>
   have hg:AM.Good (Crcm n) (fun g=>([]:List Nat).contains g):=zk mixed ⟨ih,by simp,jV,by simp,Kx,by simp,trivial⟩
   exact zI (fn:=f92) hg ⟨_,func92,by kernel_rfl,rfl,by kernel_rfl⟩ false [] _ fun args r h=>by
    obtain⟨a,b,rfl,h1,rfl⟩:=Vp h
    exact⟨Nat.le_trans (Nat.le_refl 2) (by decide),_,rcompare_eval n a b h1,zG _⟩
def cutC (s:Int×Bool):Bool:=s.2||decide (200<s.1)
def zcw (s r:Int×Bool):Int×Bool:=if cutC s then s else (s.1+r.1,s.2||r.2)
mutual
def Cnd.rp:Cnd→Int→Int×Bool
 | .mk _ _ _ _ _ _ xs,l=>rpC xs l (1,decide (20<l))
def rpC:List Cnd→Int→Int×Bool→Int×Bool
 | [],_,s=>s
 | c::cs,l,s=>rpC cs l (zcw s (c.rp (l+1)))
end
theorem zdW (c:Cnd) (l:Int):c.rp l=rpC c.args l (1,decide (20<l)):=by cases c;rfl
theorem Yx {l:Int} {s:Int×Bool} (h:cutC s=true):∀xs:List Cnd,rpC xs l s=s
 | []=>rfl
 | c::cs=>by
   have:zcw s (c.rp (l+1))=s:=if_pos h
   simp only[rpC]
   rw[this]
   exact Yx h cs
theorem rpC_drop {xs:List Cnd} {l:Int} {s:Int×Bool} {k:Nat} (h:k<xs.length):rpC (xs.drop k) l s=rpC (xs.drop (k+1)) l (zcw s (xs[k].rp (l+1))):=by
 rw[List.drop_eq_getElem_cons h,rpC]
structure RPC (xs:List Cnd) (l:Int) (s r:Int×Bool):Prop where
 lo:s.1≤r.1
 hi:r.1≤s.1+partsC xs
 deep:r.2=true→s.2=true∨20<l+(levelsC xs:Int)
 all:cutC r=false→r.1=s.1+partsC xs∧(xs≠[]→l+(levelsC xs:Int)≤20)
theorem zb2 (c:Cnd):∀l,0≤(c.rp l).1∧(c.rp l).1≤c.parts∧((c.rp l).2=true→20<l+(c.levels:Int) - 1)∧(cutC (c.rp l)=false→(c.rp l).1=c.parts∧l+(c.levels:Int) - 1≤20):=by
 induction c using Cnd.ind with
 | h k a o v p n ys ih =>
   intro l
   have key:∀(xs:List Cnd) (s:Int×Bool),0≤s.1→(∀x∈xs,x∈ys)→RPC xs l s (rpC xs l s):=by
    intro xs
    induction xs with
    | nil=>intro s _ _;exact⟨by simp[rpC],by simp[rpC,partsC],fun h=>.inl (by simpa[rpC] using h),fun _=>⟨by simp[rpC,partsC],fun h=>absurd rfl h⟩⟩
    | cons x xs ihx =>
      intro s h0 hm
      by_cases hc:cutC s=true
      ·rw[Yx hc]
       exact⟨by omega,by omega,fun h=>.inl h,fun h=>by rw[hc] at h;cases h⟩
      ·have e:rpC (x::xs) l s=rpC xs l (s.1+(x.rp (l+1)).1,s.2||(x.rp (l+1)).2):=by
        simp only[rpC,zcw,hc];rfl
       rw[e]
       obtain⟨g1,g2,g3,g4⟩:=ih x (hm x (by simp)) (l+1)
       have hr:=ihx (s.1+(x.rp (l+1)).1,s.2||(x.rp (l+1)).2) (by simp only;omega) (fun y hy=>hm y (by simp[hy]))
       have hpi:partsC (x::xs)=x.parts+partsC xs:=by simp[partsC]
       have hlv:levelsC (x::xs)=max x.levels (levelsC xs):=by simp[levelsC]
       have hlo:=hr.lo
       have hhi:=hr.hi
       simp only at hlo hhi
       refine⟨by omega,by rw[hpi];omega,fun h=>?_,fun h=>?_⟩
       ·rw[hlv]
        rcases hr.deep h with h | h
        ·simp only[Bool.or_eq_true] at h
         rcases h with h | h
         ·exact .inl h
         ·right;have:=g3 h;omega
        ·right;omega
       ·obtain⟨a1,a2⟩:=hr.all h
        have hx:cutC (x.rp (l+1))=false:=by
         simp only[cutC,Bool.or_eq_false_iff,decide_eq_false_iff_not] at h hc ⊢
         refine⟨?_,by omega⟩
         cases hd:(x.rp (l+1)).2 with
         | false=>rfl
         | true =>
           exfalso
           have hst:cutC (s.1+(x.rp (l+1)).1,s.2||(x.rp (l+1)).2)=true:=by simp[cutC,hd]
           rw[Yx hst] at h
           simp[hd] at h
        obtain⟨b1,b2⟩:=g4 hx
        simp only at a1
        refine⟨by rw[hpi];omega,fun _=>?_⟩
        rw[hlv]
        by_cases hn:xs=[]
        ·subst hn;simp only[levelsC];omega
        ·have:=a2 hn;omega
   have hk:=key ys (1,decide (20<l)) (by simp) fun x hx=>hx
   rw[zdW,Qu,Wq]
   simp only[Cnd.args]
   have k1:=hk.lo
   have k2:=hk.hi
   simp only at k1 k2
   refine⟨by omega,by omega,fun h=>?_,fun h=>?_⟩
   ·rcases hk.deep h with h | h
    ·simp at h;omega
    ·omega
   ·obtain⟨a1,a2⟩:=hk.all h
    simp only at a1
    refine⟨by omega,?_⟩
    by_cases hn:ys=[]
    ·rw[hn] at h ⊢
     simp[rpC,cutC] at h
     simp only[levelsC]
     omega
    ·have:=a2 hn;omega
theorem clarge_eq (c:Cnd):cutC (c.rp 1)=(decide ((200:Int)<c.parts)||decide ((20:Int)<c.levels)):=by
 obtain⟨h1,h2,h3,h4⟩:=zb2 c 1
 rw[Bool.eq_iff_iff]
 constructor
 ·intro h
  simp only[cutC,Bool.or_eq_true,decide_eq_true_eq] at h ⊢
  rcases h with h | h
  ·right;have:=h3 h;omega
  ·left;omega
 ·intro h
  refine Decidable.byContradiction fun hn=>?_
  have hn:cutC (c.rp 1)=false:=by simpa using hn
  obtain⟨a1,a2⟩:=h4 hn
  simp only[cutC,Bool.or_eq_false_iff,decide_eq_false_iff_not] at hn
  simp only[Bool.or_eq_true,decide_eq_true_eq] at h
  omega
theorem X7 (a b:Int):cmpI a b<0↔0<cmpI b a:=by
 unfold cmpI
 by_cases h1:a<b
 ·rw[if_pos h1,if_neg (by omega),if_pos h1];omega
 ·by_cases h2:b<a
  ·rw[if_neg h1,if_pos h2,if_pos h2];omega
  ·rw[if_neg h1,if_neg h2,if_neg h2,if_neg h1]
theorem JH (a b:List UInt8):cmpB a b<0↔0<cmpB b a:=by
 have h1:=Wz a b
 have h2:=Wz b a
 have h3:=yV a b
 have h4:=yV b a
 constructor
 ·intro h
  have hl:=h1.1 h
  have g1:¬cmpB b a<0:=fun hn=>by
   have:=vx hl (h2.1 hn)
   rw[zbL] at this
   cases this
  have g2:¬cmpB b a=0:=fun e=>by
   have:=h4.1 e
   have:=h3.2 this.symm
   omega
  omega
 ·intro h
  refine Decidable.byContradiction fun hn=>?_
  have h5:¬a=b:=fun e=>by have:=h4.2 e.symm;omega
  have h6:leB a b=false:=by
   unfold leB
   rw[Bool.or_eq_false_iff]
   refine⟨?_,by simpa using h5⟩
   cases hx:Op.bytesLess a b with
   | false=>rfl
   | true=>exact absurd (h1.2 hx) hn
  have:=h2.2 (kV h6)
  omega
theorem JI {α:Type} {c:α→α→Int}:∀{a b:List α},(∀x∈a,∀y∈b,c x y<0↔0<c y x)→(∀x∈a,∀y∈b,c x y=0↔c y x=0)→(lexL c a b<0↔0<lexL c b a)∧(lexL c a b=0↔lexL c b a=0)
 | [],[],_,_=>by simp[lexL]
 | [],_::_,_,_=>by simp[lexL]
 | _::_,[],_,_=>by simp[lexL]
 | x::a,y::b,h1,h2=>by
   have ih:=JI (a:=a) (b:=b) (fun u hu v hv=>h1 u (by simp[hu]) v (by simp[hv])) (fun u hu v hv=>h2 u (by simp[hu]) v (by simp[hv]))
   have g1:=h1 x (by simp) y (by simp)
   have g2:=h2 x (by simp) y (by simp)
   simp only[lexL]
   by_cases e:c x y=0
   ·rw[if_pos e,if_pos (g2.1 e)];exact ih
   ·rw[if_neg e,if_neg fun e'=>e (g2.2 e')];exact⟨g1,g2⟩
theorem JJ {α:Type} {c:α→α→Int} {x y:α} (h1:c x y<0↔0<c y x) (h2:c y x<0↔0<c x y):c x y=0↔c y x=0:=by omega
theorem JK:∀(n:Nat) (a b:Val),a.vb+b.vb≤n→(qo a b<0↔0<qo b a)
 | 0,a,b,h=>by have:=WX a;omega
 | n+1,a,b,h=>by
   have ih:=JK n
   have va:=ZX a
   have vb:=ZX b
   rw[QC a b,QC b a]
   by_cases hk:a.kind=b.kind
   case neg =>
    rw[if_neg hk,if_neg fun e=>hk e.symm]
    exact X7 _ _
   rw[if_pos hk,if_pos hk.symm,←hk]
   split
   ·exact X7 _ _
   split
   ·exact JH _ _
   split
   ·have hv:∀x∈a.items,∀y∈b.items,(qo x y<0↔0<qo y x)∧(qo y x<0↔0<qo x y):=fun x hx y hy=>by
     have:=yA hx
     have:=yA hy
     exact⟨ih x y (by omega),ih y x (by omega)⟩
    exact (JI (fun x hx y hy=>(hv x hx y hy).1) fun x hx y hy=>JJ (hv x hx y hy).1 (hv x hx y hy).2).1
   split
   ·have hv:∀x∈a.fields,∀y∈b.fields,(yc x y<0↔0<yc y x)∧(yc y x<0↔0<yc x y):=fun x hx y hy=>by
     have:=ki hx
     have:=ki hy
     have h1:=ih x.2 y.2 (by omega)
     have h2:=ih y.2 x.2 (by omega)
     have b1:=JH x.1 y.1
     have b2:=JH y.1 x.1
     have b3:=JJ b1 b2
     rw[JG,JG]
     by_cases e:cmpB x.1 y.1=0
     ·rw[if_pos e,if_pos (b3.1 e)];exact⟨h1,h2⟩
     ·rw[if_neg e,if_neg fun e'=>e (b3.2 e')];exact⟨b1,b2⟩
    exact (JI (fun x hx y hy=>(hv x hx y hy).1) fun x hx y hy=>JJ (hv x hx y hy).1 (hv x hx y hy).2).1
   ·simp
theorem cmpVal_turn (a b:Val):qo b a≤0↔0≤qo a b:=by
 have:=JK _ a b (Nat.le_refl _)
 omega
def zaE (c:Cnd):Bool:=!((!(c.kind==4)&&(!c.attr.isEmpty||c.op != 0))||(c.kind != 5&&!c.name.isEmpty))&&!((!((c.kind==4)&&QH c.op)&&decide (0<c.vals.length))||(!((c.kind==4)&&ZD c.op)&&!c.pat.isEmpty)) &&
 (if c.kind=3 then (c.args.length:Int)==1 else if c.kind=4∨c.kind=5 then ((c.args.length:Int)==0&&(!jf c.op||(c.vals.length:Int)==1)) else true)
theorem form_same (c:Cnd) (h:inB c.kind 1 5=true):zaE c=!kU c:=by
 have hk:c.kind=1∨c.kind=2∨c.kind=3∨c.kind=4∨c.kind=5:=by simp[inB] at h;omega
 have ha:(decide (0<c.args.length))=!((c.args.length:Int)==0):=by
  cases c.args with
  | nil=>rfl
  | cons x l=>simp;omega
 have hv1:((c.vals.length:Int) != 1)=!((c.vals.length:Int)==1):=rfl
 have ha1:((c.args.length:Int) != 1)=!((c.args.length:Int)==1):=rfl
 have ho1:(c.op != 0)=!(c.op==0):=rfl
 have hz:c.op=0→jf c.op=false:=fun e=>by rw[e];rfl
 unfold zaE kU w1F w2F w3F w4F w5F w6F w7F
 rw[ha,hv1,ha1,ho1]
 generalize c.attr.isEmpty=x1
 generalize c.name.isEmpty=x3
 generalize decide (0<c.vals.length)=x4
 generalize c.pat.isEmpty=x5
 generalize QH c.op=x6
 generalize ZD c.op=x7
 generalize ((c.vals.length:Int)==1)=x9
 generalize ((c.args.length:Int)==0)=x10
 generalize ((c.args.length:Int)==1)=x11
 by_cases h0:c.op=0
 ·rw[hz h0,h0]
  rcases hk with k | k | k | k | k<;>rw[k]<;>cases x1<;>cases x3<;>cases x4<;>cases x5<;>cases x10<;>simp[inB]<;>cases x6<;>cases x7<;>rfl
 ·have h0':(c.op==0)=false:=by simpa using h0
  rw[h0']
  generalize jf c.op=x8
  rcases hk with k | k | k | k | k<;>rw[k]<;>cases x1<;>cases x3<;>cases x4<;>cases x5<;>cases x10<;>simp[inB]<;>cases x6<;>cases x7<;>cases x8<;>cases x9<;>rfl
def digI (n:Int):Bool:=decide (48≤n)&&decide (n≤57)
theorem zdX (c:UInt8):digI c.toNat=digB c:=by
 rw[Bool.eq_iff_iff];simp[digI,digB,pr];omega
theorem ZR:za prog 318 (zd false [] (F1b digI)) :=
 zI (fn:=f318) qA ⟨_,func318,by kernel_rfl,rfl,by kernel_rfl⟩ false [] _ fun args r h=>by
  obtain⟨a,rfl,rfl⟩:=zar h
  exact⟨by simp[f318],_,zb rfl (by simp[f318,digI]),zG _⟩
noncomputable abbrev Crd:Ctx:=zF prog [(318,zd false [] (F1b digI))]
theorem goodrd:AM.Good Crd (fun g=>[318].contains g):=zk mixed ⟨ZR,fun _=>zh _ _,trivial⟩
theorem rAllDigits_eval (l:List UInt8) (hl:l.length≤lim):zi Crd f354 [str l]=some (boo (jN l)):=by
 refine zb rfl ?_
 unfold lim at hl
 simp
 refine zq (fun k σ hp nx=>σ 0=str l∧σ 5=int l.length∧σ 6=int k∧digs l=digs (l.drop k)) l.length ⟨by simp,by simp,by simp,by simp⟩ ?_
 rintro k σ hp nx hk ⟨h0,h5,h6,he⟩
 by_cases hlt:k<l.length
 ·have hw:IntKind.i64.wrap ((k:Int)+1)=(k:Int)+1:=zc (by omega) (by omega)
  rw[Y5 hlt] at he
  have ho:=zdX l[k]
  cases hc:digB l[k]
  ·have he:digs l=false:=by rw[he,hc];rfl
   rw[hc] at ho
   simp[h0,h5,h6,hlt,he,ho,jN,f354]
  ·rw[hc] at ho
   simp[h0,h5,h6,hlt,ho,hw]
   exact⟨hlt,by rw[he,hc];rfl⟩
 ·obtain rfl:k=l.length:=by omega
  have he:digs l=true:=by rw[he,List.drop_length];rfl
  simp[h0,h5,h6,he,jN,f354]
theorem rAllDigits_sound:za prog 354 (zd false [] (FS jN)) :=
 zI (fn:=f354) goodrd ⟨_,func354,by kernel_rfl,rfl,by kernel_rfl⟩ false [] _ fun args r h=>by
  obtain⟨l,rfl,hp,rfl⟩:=ze h
  exact⟨by simp[f354],_,rAllDigits_eval l hp,zG _⟩
def xS (l:List UInt8):Bool:=l.isEmpty||(l.headD 0==48&&!(l==[48]))
theorem whole_ref (l:List UInt8):(!xS l&&digs l)=qG l:=by
 cases l with
 | nil=>rfl
 | cons c l =>
   cases l with
   | nil =>
     by_cases h:c=48
     ·subst h;rfl
     ·simp[xS,qG,h]
   | cons d l=>simp[xS,qG]
theorem rnumber_eval (l:List UInt8) (hl:l.length≤lim):zi C0 f317 [str l]=some (boo (qG l)):=by
 refine zb rfl ?_
 unfold lim at hl
 rw[←whole_ref]
 cases hb:xS l
 case true =>
  cases l with
  | nil=>simp[xS,f317]
  | cons c l =>
    simp only[xS,List.isEmpty_cons,List.headD_cons,Bool.false_or,Bool.and_eq_true,beq_iff_eq,Bool.not_eq_true',beq_eq_false_iff_ne] at hb
    obtain⟨rfl,hb⟩:=hb
    have hb':l.isEmpty=false:=by cases l with
     | nil=>exact absurd rfl hb
     | cons d l=>rfl
    simp[hb',f317]
 case false =>
  have hne:l≠[]:=fun e=>by subst e;simp[xS] at hb
  have h0:0<l.length:=List.length_pos_iff.2 hne
  have hemp:(l==[])=false:=by simpa using hne
  have hh:((l[0].toNat:Int)==48&&!(l==[48]))=false:=by
   cases l with
   | nil=>exact absurd rfl hne
   | cons c l =>
     have e1:((c.toNat:Int)==48)=(c==48):=by rw[Bool.eq_iff_iff];simp[←UInt8.toNat_inj];omega
     simp only[List.getElem_cons_zero,e1]
     simpa[xS] using hb
  have hh':((l[0].toNat:Int)==48&&l != [48])=false:=hh
  simp[hemp,hne,h0,hh,hh']
  refine zq (fun k σ hp nx=>σ 0=str l∧σ 16=int l.length∧σ 17=int k∧digs l=digs (l.drop k)) l.length ⟨by simp,by simp,by simp,by simp⟩ ?_
  rintro k σ hp nx hk ⟨g0,h16,h17,he⟩
  by_cases hlt:k<l.length
  ·have hw:IntKind.i64.wrap ((k:Int)+1)=(k:Int)+1:=zc (by omega) (by omega)
   rw[Y5 hlt] at he
   have ho:=WV 48 57 l[k]
   simp only[Int.cast_ofNat_Int] at ho
   cases hc:digB l[k]
   ·have he:digs l=false:=by rw[he,hc];rfl
    have hc':pr 48 57 l[k]=false:=hc
    simp[g0,h16,h17,hlt,he,ho,hc',f317]
   ·have hc':pr 48 57 l[k]=true:=hc
    simp[g0,h16,h17,hlt,ho,hc',hw]
    exact⟨hlt,by rw[he,hc];rfl⟩
  ·obtain rfl:k=l.length:=by omega
   have he:digs l=true:=by rw[he,List.drop_length];rfl
   simp[g0,h16,h17,he,f317]
theorem QV:za prog 317 (zd false [] (FS qG)) :=
 zI (fn:=f317) qA ⟨_,func317,by kernel_rfl,rfl,by kernel_rfl⟩ false [] _ fun args r h=>by
  obtain⟨l,rfl,hp,rfl⟩:=ze h
  exact⟨by simp[f317],_,rnumber_eval l hp,zG _⟩
def letC (c:UInt8):Bool:=pr 97 122 c||pr 65 90 c||c==45
theorem X8 (c:UInt8):preC c=(letC c||digB c):=by
 simp only[preC,letC,digB]
 cases pr 97 122 c<;>cases pr 65 90 c<;>cases pr 48 57 c<;>simp
theorem let_dig (c:UInt8) (h:letC c=true):digB c=false:=by
 cases hd:digB c with
 | false=>rfl
 | true =>
   simp only[letC,digB,pr,Bool.or_eq_true,Bool.and_eq_true,decide_eq_true_eq,beq_iff_eq] at h hd
   rcases h with (h | h) | rfl
   ·omega
   ·omega
   ·simp at hd
theorem badPre_eq (l:List UInt8) (h:l.all preC=true):(inB l.length 1 20&&(!(l.all fun c=>!letC c)||qG l))=!qw l:=by
 have e:(l.all fun c=>!letC c)=digs l:=by
  induction l with
  | nil=>rfl
  | cons c l ih =>
    simp only[List.all_cons,Bool.and_eq_true] at h
    have h1:=h.1
    rw[X8] at h1
    rw[List.all_cons,ih h.2]
    show _=(digB c&&digs l)
    cases hl:letC c
    ·rw[hl,Bool.false_or] at h1;rw[h1];rfl
    ·rw[let_dig c hl];rfl
 rw[e]
 unfold qw preB
 rw[h]
 cases l with
 | nil=>rfl
 | cons c l =>
   rw[Bool.eq_iff_iff]
   simp[inB]
   omega
theorem badPre_not (l:List UInt8) (h:l.all preC=false):qw l=true:=by
 unfold qw preB
 rw[h]
 simp
noncomputable abbrev Crip:Ctx:=zF prog [(318,zd false [] (F1b digI)),(202,zd false [] (F3 inB)),(317,zd false [] (FS qG))]
theorem goodrip:AM.Good Crip (fun g=>[318,202,317].contains g):=zk mixed ⟨ZR,fun _=>zh _ _,yN,fun _=>zh _ _,QV,fun _=>zh _ _,trivial⟩
@[simp] theorem quietrip2:wn Crip 317:=qm (by rfl) (zh _ _)
theorem risPre_eval (l:List UInt8) (hl:l.length≤lim):zi Crip f271 [str l]=some (boo (!qw l)):=by
 refine zb rfl ?_
 have hnum:=fun hp nx=>wV qG l hp nx hl
 unfold lim at hl
 simp
 refine zq (fun k σ hp nx=>σ 0=str l∧σ 3=boo ((l.take k).all fun c=>!letC c)∧σ 8=int l.length∧σ 9=int k∧l.all preC=(l.drop k).all preC) l.length ⟨by simp,by simp,by simp,by simp,by simp⟩ ?_
 rintro k σ hp nx hk ⟨h0,h3,h8,h9,he⟩
 by_cases hlt:k<l.length
 ·have hw:IntKind.i64.wrap ((k:Int)+1)=(k:Int)+1:=zc (by omega) (by omega)
  rw[Xs hlt,X8] at he
  have ho:(decide ((97:Int)≤l[k].toNat)&&decide ((l[k].toNat:Int)≤122)||decide ((65:Int)≤l[k].toNat)&&decide ((l[k].toNat:Int)≤90)||((l[k].toNat:Int)==45))=letC l[k]:=by
   have e1:((l[k].toNat:Int)==45)=(l[k]==45):=by
    rw[Bool.eq_iff_iff];simp[←UInt8.toNat_inj];omega
   rw[e1,Bool.eq_iff_iff]
   simp[letC,pr,←UInt8.toNat_inj]
   omega
  have hd:=zdX l[k]
  have ht:((l.take (k+1)).all fun c=>!letC c)=(((l.take k).all fun c=>!letC c)&&!letC l[k]):=by rw[List.take_succ_eq_append_getElem hlt,List.all_append];simp
  obtain⟨T,hT⟩:∃T,((l.take k).all fun c=>!letC c)=T:=⟨_,rfl⟩
  rw[hT] at h3 ht
  cases hc:letC l[k]
  ·cases hg:digB l[k]
   ·rw[hc,hg] at he
    have he:l.all preC=false:=he
    have hb:=badPre_not l he
    rw[hc] at ho;rw[hg] at hd
    simp[h0,h3,h8,h9,hlt,ho,hd,hb,-List.all_eq_true,-List.all_eq_false,f271]
   ·rw[hc,hg] at he
    rw[hc] at ho ht;rw[hg] at hd
    simp[h0,h3,h8,h9,hlt,ho,hd,hw,-List.all_eq_true,-List.all_eq_false]
    exact⟨hlt,by rw[ht];simp,he⟩
  ·rw[hc] at he ho ht
   simp[h0,h3,h8,h9,hlt,ho,hw,-List.all_eq_true,-List.all_eq_false]
   exact⟨hlt,by rw[ht];simp,he⟩
 ·obtain rfl:k=l.length:=by omega
  have he:l.all preC=true:=by rw[he,List.drop_length];rfl
  have hb:=badPre_eq l he
  rw[List.take_length] at h3
  obtain⟨T,hT⟩:∃T,(l.all fun c=>!letC c)=T:=⟨_,rfl⟩
  rw[hT] at h3 hb
  simp[h0,h3,h8,h9,hnum,hb,-List.all_eq_true,-List.all_eq_false,f271]
theorem risPre_sound:za prog 271 (zd false [] (FS fun l=>!qw l)) :=
 zI (fn:=f271) goodrip ⟨_,func271,by kernel_rfl,rfl,by kernel_rfl⟩ false [] _ fun args r h=>by
  obtain⟨l,rfl,hp,rfl⟩:=ze h
  exact⟨by simp[f271],_,risPre_eval l hp,zG _⟩
theorem risOpen_eval (l:List UInt8):zi C0 f209 [str l]=some (boo (qI l)):=by
 refine zb rfl ?_
 have e:qI l=(l==[42]||l==[120]||l==[88]):=by unfold qI;cases l==[42]<;>cases l==[120]<;>cases l==[88]<;>rfl
 rw[e]
 cases h1:(l==[42])
 ·cases h2:(l==[120])
  ·simp[h1,h2,f209]
  ·simp[h1,h2,f209]
 ·simp[h1,f209]
theorem risOpen_sound:za prog 209 (zd false [] (FS qI)) :=
 zI (fn:=f209) qA ⟨_,func209,by kernel_rfl,rfl,by kernel_rfl⟩ false [] _ fun args r h=>by
  obtain⟨l,rfl,hp,rfl⟩:=ze h
  exact⟨by simp[f209],_,risOpen_eval l,zG _⟩
noncomputable def FNm:List PV→Option PV:=zH (α:=List UInt8) (fun l=>[str l,int 6]) (fun l=>l.length≤lim) Qw
theorem FNm_call (l:List UInt8) (hp:Hp) (nx:Nat) (h:l.length≤lim):zd false [] FNm [str l,int 6] hp nx=some (.tup [int ((vnum l).getD 0),boo (vnum l).isSome],hp,nx) :=
 zy rfl (zm (enc:=fun l:List UInt8=>[str l,int 6]) (a:=l) (fun a b e=>by simp only[List.cons.injEq,and_true] at e;exact zV e) h) (.inl rfl)
noncomputable abbrev Crnm:Ctx:=zF prog [(317,zd false [] (FS qG)),(300,zd false [] FAt)]
theorem goodrnm:AM.Good Crnm (fun g=>[317].contains g):=zk mixed ⟨QV,fun _=>zh _ _,Ks,by simp,trivial⟩
theorem rNumber_eval (l:List UInt8) (hl:l.length≤lim):zi Crnm f270 [str l,int 6]=some (Qw l):=by
 refine zb rfl ?_
 have hw:=fun hp nx=>wV qG l hp nx hl
 cases h1:qG l
 ·simp[hw,h1,Qw,vnum,qi,f270]
 ·by_cases h2:l.length≤6
  ·have h3:¬((6:Int)<l.length):=by omega
   have ha:=fun hp nx=>Xt l hp nx (by omega) h1
   simp[hw,h1,h2,h3,ha,Qw,vnum,qi,f270]
  ·have h3:(6:Int)<l.length:=by omega
   have h2':6<l.length:=by omega
   simp[hw,h1,h2,h2',h3,Qw,vnum,qi,f270]
theorem rNumber_sound:za prog 270 (zd false [] FNm) :=
 zI (fn:=f270) goodrnm ⟨_,func270,by kernel_rfl,rfl,by kernel_rfl⟩ false [] _ fun args r h=>by
  obtain⟨l,rfl,hp,rfl⟩:=ze h
  exact⟨by simp[f270],_,rNumber_eval l hp,zG _⟩
noncomputable abbrev Crcp:Ctx:=zF prog [(354,zd false [] (FS jN)),(264,zd false [] (FTT tlP fun _ b=>one7 b)),(131,zd false [] (F2I cmpI)),(146,zd false [] (F2S cmpS)),(184,zd false [] FOr)]
theorem goodrcp:AM.Good Crcp (fun g=>([]:List Nat).contains g):=zk mixed ⟨rAllDigits_sound,by simp,kR,by simp,jV,by simp,Kx,by simp,QB,by simp,trivial⟩
theorem rcomparePre_eval (a b:List UInt8) (ha:a.length≤lim) (hb:b.length≤lim):zi Crcp f341 [str a,str b]=some (int (z7 a b)):=by
 refine zb rfl ?_
 have da:=fun hp nx=>wV jN a hp nx ha
 have db:=fun hp nx=>wV jN b hp nx hb
 have ta:=fun hp nx=>Vo a hp nx ha
 have tb:=fun hp nx=>Vo b hp nx hb
 have eS:=zb1
 cases h1:jN a<;>cases h2:jN b
 ·simp[da,db,h1,h2,z7,eS,f341]
 ·simp[da,db,h1,h2,z7,f341]
 ·simp[da,db,h1,h2,z7,f341]
 ·have ho:∀(hp:Hp) (nx id:Nat),hp id=some ⟨3,1,true,[[int (cmpI (Lib.trimLeftB a 48).length (Lib.trimLeftB b 48).length)],[int (cmpB (Lib.trimLeftB a 48) (Lib.trimLeftB b 48))]]⟩→zd false [] FOr [.own id 0 2] hp nx=some (int (orL [cmpI (Lib.trimLeftB a 48).length (Lib.trimLeftB b 48).length,cmpB (Lib.trimLeftB a 48) (Lib.trimLeftB b 48)]),hp,nx):=fun hp nx id hh=>Y7 [_,_] hp nx id _ (by show 2≤lim;decide) hh
  simp[da,db,ta,tb,h1,h2,ho,eS,zf,zn,zg,z7,f341]
theorem rcomparePre_sound:za prog 341 (zd false [] (FTT (fun a b=>int (z7 a b)) fun _ _=>True)) :=
 zI (fn:=f341) goodrcp ⟨_,func341,by kernel_rfl,rfl,by kernel_rfl⟩ false [] _ fun args r h=>by
  obtain⟨a,b,rfl,h1,h2,_,rfl⟩:=yO h
  exact⟨by simp[f341],_,rcomparePre_eval a b h1 h2,zG _⟩
noncomputable abbrev Crcv:Ctx:=zF prog [(131,zd false [] (F2I cmpI)),(184,zd false [] FOr),(341,zd false [] (FTT (fun a b=>int (z7 a b)) fun _ _=>True))]
theorem goodrcv:AM.Good Crcv (fun g=>[131,184,341].contains g):=zk mixed ⟨jV,fun _=>zh _ _,QB,fun _=>zh _ _,rcomparePre_sound,fun _=>zh _ _,trivial⟩
set_option maxHeartbeats 1000000 in
theorem rcompareVersions_eval (v w:Ver) (hv:v.small) (hw:w.small):zi Crcv f319 [.agg v.enc,.agg w.enc]=some (int (cmpV v w)):=by
 obtain⟨a,b,c,p⟩:=v
 obtain⟨a',b',c',p'⟩:=w
 obtain⟨hp1,hp2⟩:=hv
 obtain⟨hq1,hq2⟩:=hw
 simp only at hp1 hp2 hq1 hq2
 refine zb rfl ?_
 obtain⟨o,ho⟩:∃o,orL [cmpI a a',cmpI b b',cmpI c c']=o:=⟨_,rfl⟩
 have hor:∀(hp:Hp) (nx id:Nat),hp id=some ⟨3,1,true,[[int (cmpI a a')],[int (cmpI b b')],[int (cmpI c c')]]⟩→zd false [] FOr [.own id 0 3] hp nx=some (int o,hp,nx):=fun hp nx id hh=>ho ▸ Y7 [_,_,_] hp nx id _ (by show 3≤lim;decide) hh
 have hval:cmpV ⟨a,b,c,p⟩ ⟨a',b',c',p'⟩=if o=0 then (if p.length=0 then (if p'.length=0 then 0 else 1) else if p'.length=0 then -1 else lexL z7 p p') else o:=by rw[←ho];rfl
 by_cases h1:o=0
 case neg =>
  have h1':(o != 0)=true:=by simpa using h1
  simp[Ver.enc,hor,zf,zn,zg,h1,h1',hval,f319]
 subst h1
 have hel:(encT p).length=p.length:=by simp[encT]
 have hel':(encT p').length=p'.length:=by simp[encT]
 by_cases h2:p.length=0
 ·have hc:cmpI p'.length 0=if p'.length=0 then 0 else 1:=by unfold cmpI;split<;>(try split)<;>(try split)<;>first | omega | rfl
  simp[Ver.enc,hor,zf,zn,zg,h2,hval,hel,hel',hc,f319]
 by_cases h3:p'.length=0
 ·have h2':((p.length:Int)==0)=false:=by simpa using h2
  have hc:cmpI 0 p.length=-1:=by unfold cmpI;rw[if_pos (by omega)]
  simp[Ver.enc,hor,zf,zn,zg,h2,h2',h3,hval,hel,hel',hc,f319]
 have h2':((p.length:Int)==0)=false:=by simpa using h2
 have h3':((p'.length:Int)==0)=false:=by simpa using h3
 obtain⟨m,hm,hma,hmb,hmab⟩:=zaD p.length p'.length
 unfold lim at hp1 hq1
 have hval:cmpV ⟨a,b,c,p⟩ ⟨a',b',c',p'⟩=lexL z7 p p':=by rw[hval];simp[h2,h3]
 rw[hval]
 simp[Ver.enc,hor,zf,zn,zg,h2',h3',hel,hel',hm]
 refine zq (fun k σ hp nx=>σ 2=.ref 0 0 0∧σ 3=.ref 1 0 0∧hp 0=some ⟨187,4,false,[[int a,int b,int c,.sl 1 (encT p)]]⟩∧hp 1=some ⟨187,4,false,[[int a',int b',int c',.sl 1 (encT p')]]⟩∧σ 51=int m∧σ 52=int k∧lexL z7 p p'=lexL z7 (p.drop k) (p'.drop k)) m
  ⟨by simp,by simp,by simp,by simp,by simp,by simp,by simp⟩ ?_
 rintro k σ hp nx hk ⟨g2,g3,b0,b1,g51,g52,he⟩
 by_cases hlt:k<m
 ·have hlp:k<p.length:=by omega
  have hlq:k<p'.length:=by omega
  have hwk:IntKind.i64.wrap ((k:Int)+1)=(k:Int)+1:=zc (by omega) (by omega)
  have hc:=fun hp nx=>Xv p[k] p'[k] hp nx (hp2 _ (List.getElem_mem hlp)) (hq2 _ (List.getElem_mem hlq))
  have hg:=Qy hlp
  have hg':=Qy hlq
  rw[List.drop_eq_getElem_cons hlp,List.drop_eq_getElem_cons hlq] at he
  simp only[lexL] at he
  by_cases hz:z7 p[k] p'[k]=0
  ·rw[if_pos hz] at he
   simp[g2,g3,g51,g52,b0,b1,hlt,hlp,hlq,hel,hel',hg,hg',hc,hz,hwk]
   exact⟨by omega,he⟩
  ·rw[if_neg hz] at he
   have hz':(z7 p[k] p'[k] != 0)=true:=by simpa using hz
   simp[g2,g3,g51,g52,b0,b1,hlt,hlp,hlq,hel,hel',hg,hg',hc,hz',he,f319]
 ·obtain rfl:k=m:=by omega
  rw[VJ z7 hma hmb hmab] at he
  simp[g2,g3,g51,g52,b0,b1,hel,hel',he,f319]
theorem rcompareVersions_sound:za prog 319 (zJ [.g vpat,.g vpat] (FVV2 fun v w=>int (cmpV v w))) :=
 zX (fn:=f319) goodrcv ⟨_,func319,by kernel_rfl,rfl,by kernel_rfl⟩ _ _ fun args r h=>by
  obtain⟨⟨v,w⟩,rfl,⟨h1,h2⟩,rfl⟩:=ze h
  exact⟨by simp[f319],_,rcompareVersions_eval v w h1 h2,Stands.refl _⟩
noncomputable abbrev Crcu:Ctx:=zF prog [(319,zJ [.g vpat,.g vpat] (FVV2 fun v w=>int (cmpV v w)))]
theorem goodrcu:AM.Good Crcu (fun g=>([]:List Nat).contains g):=zk mixed ⟨rcompareVersions_sound,by simp,trivial⟩
theorem rcompareCuts_eval (x y:Cut) (hx:x.v.small) (hy:y.v.small):zi Crcu f275 [.agg x.enc,.agg y.enc]=some (int (cmpC x y)):=by
 obtain⟨⟨a,b,c,p⟩,f⟩:=x
 obtain⟨⟨a',b',c',p'⟩,f'⟩:=y
 refine zb rfl ?_
 have hcv:=fun hp nx=>zcW ⟨a,b,c,p⟩ ⟨a',b',c',p'⟩ hp nx hx hy
 simp only[Ver.enc] at hcv
 by_cases h1:cmpV ⟨a,b,c,p⟩ ⟨a',b',c',p'⟩=0
 ·cases f<;>cases f'<;>simp[Cut.enc,hcv,h1,cmpC,f275]
 ·have h1':(cmpV ⟨a,b,c,p⟩ ⟨a',b',c',p'⟩==0)=false:=by simpa using h1
  simp[Cut.enc,hcv,h1,h1',cmpC,f275]
theorem yW:za prog 275 (zJ [.g cpat,.g cpat] (FCC fun v w=>int (cmpC v w))) :=
 zX (fn:=f275) goodrcu ⟨_,func275,by kernel_rfl,rfl,by kernel_rfl⟩ _ _ fun args r h=>by
  obtain⟨⟨v,w⟩,rfl,⟨h1,h2⟩,rfl⟩:=ze h
  exact⟨by simp[f275],_,rcompareCuts_eval v w h1 h2,Stands.refl _⟩
theorem covA_drop {l:List Str} {c:Cut} {k:Nat} (h:k<l.length):covA (l.drop k) c=(covB l[k] c||covA (l.drop (k+1)) c):=by
 rw[List.drop_eq_getElem_cons h];rfl
noncomputable abbrev Crco:Ctx:=zF prog [(275,zJ [.g cpat,.g cpat] (FCC fun v w=>int (cmpC v w)))]
theorem goodrco:AM.Good Crco (fun g=>[275].contains g):=zk mixed ⟨yW,fun _=>qF _ _,trivial⟩
theorem rcovers_eval (l:List Str) (c:Cut) (hl:wC l) (hc:c.v.small):zi Crco f215 [.sl 11 (encR l),.agg c.enc]=some (boo (covA l c)):=by
 obtain⟨hl1,hl2⟩:=hl
 refine zb rfl ?_
 unfold lim at hl1
 have hel:(encR l).length=l.length:=by simp[encR]
 simp[hel,Cut.enc]
 refine zq (fun k σ hp nx=>σ 3=.ref 0 0 0∧1≤nx∧hp 0=some ⟨189,5,false,[c.enc]⟩∧σ 7=.sl 11 (encR l)∧σ 8=int l.length∧σ 9=int k∧covA l c=covA (l.drop k) c) l.length
  ⟨by simp,by simp,by simp[Cut.enc],by simp,by simp,by simp,by simp⟩ ?_
 rintro k σ hp nx hk ⟨h3,hnx,b0,h7,h8,h9,he⟩
 by_cases hlt:k<l.length
 ·have hw:IntKind.i64.wrap ((k:Int)+1)=(k:Int)+1:=zc (by omega) (by omega)
  obtain⟨s,hs⟩:∃s,l[k]=s:=⟨_,rfl⟩
  have hss:s.small:=hl2 s (by rw[←hs];exact List.getElem_mem hlt)
  have hke:∀h:k<(encR l).length,(encR l)[k]=s.enc:=fun h=>by simp[encR,hs]
  have h1:=fun hp nx=>Zj s.lo c hp nx hss.1 hc
  have h2:=fun hp nx=>Zj c s.hi hp nx hc hss.2
  have n0:¬0=nx:=by omega
  have n1:¬nx=0:=by omega
  rw[covA_drop hlt,hs] at he
  have hcb:covB s c=(decide (cmpC s.lo c≤0)&&(s.endless||decide (cmpC c s.hi<0))):=rfl
  simp only[Str.enc,Cut.enc,List.cons_append,List.nil_append] at h1 h2 hke b0
  cases hb:covB s c
  ·rw[hb,Bool.false_or] at he
   rw[hb] at hcb
   by_cases ha:cmpC s.lo c≤0
   ·rw[decide_eq_true ha,Bool.true_and] at hcb
    have hcb':=hcb.symm
    rw[Bool.or_eq_false_iff] at hcb'
    simp[h3,h7,h8,h9,hlt,hel,hke,h1,h2,b0,n0,n1,ha,hcb'.1,hcb'.2,hw,-decide_eq_false_iff_not]
    exact⟨by omega,rfl,he⟩
   ·simp[h3,h7,h8,h9,hlt,hel,hke,h1,h2,b0,n0,n1,ha,hw]
    exact⟨by omega,rfl,he⟩
  ·rw[hb,Bool.true_or] at he
   rw[hb] at hcb
   have hcb':=hcb.symm
   simp only[Bool.and_eq_true,decide_eq_true_eq] at hcb'
   have hcc:=hcb'.2
   cases hen:s.endless
   ·rw[hen,Bool.false_or,decide_eq_true_eq] at hcc
    simp[h3,h7,h8,h9,hlt,hel,hke,h1,h2,b0,n0,n1,hcb'.1,hen,hcc,he,f215]
   ·simp[h3,h7,h8,h9,hlt,hel,hke,h1,h2,b0,n0,n1,hcb'.1,hen,he,f215]
 ·obtain rfl:k=l.length:=by omega
  have he:covA l c=false:=by rw[he,List.drop_length];rfl
  simp[h3,h7,h8,h9,he,f215]
theorem rcovers_sound:za prog 215 (zJ [.s 11 spat,.g cpat] (FRC fun l c=>boo (covA l c))) :=
 zX (fn:=f215) goodrco ⟨_,func215,by kernel_rfl,rfl,by kernel_rfl⟩ _ _ fun args r h=>by
  obtain⟨⟨l,c⟩,rfl,⟨h1,h2⟩,rfl⟩:=ze h
  exact⟨by simp[f215],_,rcovers_eval l c h1 h2,Stands.refl _⟩
def xf (w:Int) (a b:Bool):Bool:=if w=0 then a||b else if w=1 then a&&b else a&&!b
def FTk:List PV→Option PV
 | [.v (.int .i64 w),.v (.bool a),.v (.bool b)]=>some (boo (xf w a b))
 | _=>none
@[simp] theorem QW (w:Int) (a b:Bool) (hp:Hp) (nx:Nat):zd false [] FTk [.v (.int .i64 w),.v (.bool a),.v (.bool b)] hp nx=some (boo (xf w a b),hp,nx):=zy rfl rfl (.inl rfl)
theorem takes_sound:za prog 214 (zd false [] FTk) :=
 zI (fn:=f214) qA ⟨_,func214,by kernel_rfl,rfl,by kernel_rfl⟩ false [] _ fun args r h=>by
  have:∃w a b,args=[int w,boo a,boo b]∧r=boo (xf w a b):=by
   unfold FTk at h
   split at h
   ·injection h with h;exact⟨_,_,_,rfl,h.symm⟩
   ·cases h
  obtain⟨w,a,b,rfl,rfl⟩:=this
  refine⟨by simp[f214],_,zb rfl ?_,zG _⟩
  by_cases h0:w=0
  ·subst h0
   simp[xf,f214]
  ·have h0':(w==0)=false:=by simpa using h0
   by_cases h1:w=1
   ·subst h1
    simp[xf,f214]
   ·have h1':(w==1)=false:=by simpa using h1
    simp[h0,h0',h1,h1',xf,f214]
def wI (st:Part×Bool) (i:Nat) (t:List UInt8):Option (Part×Bool) :=
 if qI t=true then some (st.1,true) else if st.2=false∧(vnum t).isSome=true then some (st.1.put i ((vnum t).getD 0),false) else none
def wy:Part×Bool→Nat→List (List UInt8)→Option (Part×Bool)
 | st,_,[]=>some st
 | st,i,t::l=>match wI st i t with
   | some q=>wy q (i+1) l
   | none=>none
def rdR (s:List UInt8):Option Part:=if 3<(zA (Lib.cut s [45]).1 [46]).length then none else
 match wy (part0,false) 0 (zA (Lib.cut s [45]).1 [46]) with
 | none=>none
 | some st=>if (jA s).any qw=true then none else if ((Lib.cut s [45]).2.2=false∨st.1.has=3)∧(jA s).length≤10 then some { st.1 with pre:=jA s } else none
def rdOk (s:List UInt8):Option Part:=match rdR s with
 | some p=>if p.has=0 then none else some p
 | none=>none
theorem Zz {t:List UInt8} (h:qI t=true):vnum t=none:=by
 simp only[qI,Bool.or_eq_true,beq_iff_eq] at h
 rcases h with (rfl | rfl) | rfl<;>rfl
theorem zaF (p:Part) (i:Nat) (n:Int):(p.put i n).has=p.has+1∧(p.put i n).pre=p.pre:=by
 unfold Part.put
 split<;>exact⟨rfl,rfl⟩
theorem JL:∀(l:List (List UInt8)) (p:Part) (i:Nat),p.has<i→i≠0→(wy (p,true) i l).map (·.1)=qn p i l∧∀st,wy (p,true) i l=some st→st.1=p
 | [],p,i,_,_=>⟨rfl,fun st h=>by simp only[wy] at h;injection h with h;rw[←h]⟩
 | t::l,p,i,h,hi=>by
   have hne:¬p.has=i:=by omega
   obtain⟨h1,h2⟩:=JL l p (i+1) (by omega) (by omega)
   by_cases ho:qI t=true
   ·have e1:wI (p,true) i t=some (p,true):=by simp[wI,ho]
    have e2:zY p i t=some p:=by simp[zY,ho,hi,Zz ho]
    simp only[wy,qn,e1,e2]
    exact⟨h1,h2⟩
   ·have e1:wI (p,true) i t=none:=by simp[wI,ho]
    have e2:zY p i t=none:=by simp[zY,ho,hne]
    simp only[wy,qn,e1,e2]
    exact⟨rfl,fun st h=>by cases h⟩
theorem zb3:∀(l:List (List UInt8)) (p:Part) (i:Nat),p.has=i→i≠0→(wy (p,false) i l).map (·.1)=qn p i l
 | [],p,i,_,_=>rfl
 | t::l,p,i,h,hi=>by
   by_cases ho:qI t=true
   ·have e1:wI (p,false) i t=some (p,true):=by simp[wI,ho]
    have e2:zY p i t=some p:=by simp[zY,ho,hi,Zz ho]
    simp only[wy,qn,e1,e2]
    exact (JL l p (i+1) (by omega) (by omega)).1
   ·cases hv:vnum t with
    | none =>
      have e1:wI (p,false) i t=none:=by simp[wI,ho,hv]
      have e2:zY p i t=none:=by simp[zY,ho,hv]
      simp only[wy,qn,e1,e2]
      rfl
    | some n =>
      have e1:wI (p,false) i t=some (p.put i n,false):=by simp[wI,ho,hv]
      have e2:zY p i t=some (p.put i n):=by simp[zY,hv,h]
      simp only[wy,qn,e1,e2]
      exact zb3 l (p.put i n) (i+1) (by rw[(zaF p i n).1];omega) (by omega)
theorem fold_same (t:List UInt8) (l:List (List UInt8)):(∃st,wy (part0,false) 0 (t::l)=some st∧((st.1.has=0∧qn part0 0 (t::l)=none)∨(1≤st.1.has∧qn part0 0 (t::l)=some st.1)))∨(wy (part0,false) 0 (t::l)=none∧qn part0 0 (t::l)=none):=by
 by_cases ho:qI t=true
 ·have e1:wI (part0,false) 0 t=some (part0,true):=by simp[wI,ho]
  have e2:zY part0 0 t=none:=by simp[zY,Zz ho]
  simp only[wy,qn,e1,e2]
  cases hf:wy (part0,true) 1 l with
  | none=>exact .inr ⟨by simp,trivial⟩
  | some st =>
    have:=(JL l part0 1 (by show (0:Int)<1;omega) (by omega)).2 st hf
    exact .inl ⟨st,by simp,.inl ⟨by rw[this];rfl,trivial⟩⟩
 ·cases hv:vnum t with
  | none =>
    have e1:wI (part0,false) 0 t=none:=by simp[wI,ho,hv]
    have e2:zY part0 0 t=none:=by simp[zY,ho,hv]
    simp only[wy,qn,e1,e2]
    exact .inr ⟨trivial,trivial⟩
  | some n =>
    have e1:wI (part0,false) 0 t=some (part0.put 0 n,false):=by simp[wI,ho,hv]
    have e2:zY part0 0 t=some (part0.put 0 n):=by simp[zY,hv,part0]
    have hh:(part0.put 0 n).has=1:=by rw[(zaF part0 0 n).1];rfl
    have hs:=zb3 l (part0.put 0 n) 1 hh (by omega)
    simp only[wy,qn,e1,e2]
    cases hf:wy (part0.put 0 n,false) 1 l with
    | none =>
      rw[hf] at hs
      exact .inr ⟨by simp,by simpa using hs.symm⟩
    | some st =>
      rw[hf] at hs
      simp only[Option.map_some] at hs
      refine .inl ⟨st,by simp,.inr ⟨?_,by simpa using hs.symm⟩⟩
      have hfp:qn part0 0 (t::l)=some st.1:=by simp only[qn,e2];simpa using hs.symm
      have:=(Vw (t::l) part0 st.1 0 hfp (by simp[part0])).2.2.2.2.2.1
      exact this (by simp)
theorem cut_no {s:List UInt8} (h:Lib.contains s [45]=false):Lib.cut s [45]=(s,[],false):=by
 unfold Lib.contains at h
 rw[decide_eq_false_iff_not] at h
 unfold Lib.cut
 rw[if_neg h]
theorem cut_yes {s:List UInt8} (h:Lib.contains s [45]=true):(Lib.cut s [45]).2.2=true:=by
 unfold Lib.contains at h
 rw[decide_eq_true_eq] at h
 unfold Lib.cut
 rw[if_pos h]
theorem chk_pre (a b c:Int) (l:List (List UInt8)) (ha:0≤a∧a≤999999) (hb:0≤b∧b≤999999) (hc:0≤c∧c≤999999):chkV ⟨a,b,c,l⟩=0↔l.any qw=false∧l.length≤10:=by
 have h1:inB a 0 999999=true∧inB b 0 999999=true∧inB c 0 999999=true:=by simp[inB];omega
 unfold chkV
 rw[if_pos h1]
 simp only
 by_cases h2:10<l.length
 ·rw[if_pos h2]
  constructor
  ·intro h;cases h
  ·rintro⟨_,h⟩;omega
 ·rw[if_neg h2]
  cases h3:l.any qw
  ·simp;omega
  ·simp
theorem VK (s:List UInt8):rdOk s=if (zr s).2=true then some (zr s).1 else none:=by
 cases hc:Lib.contains s [45]
 ·have hcut:=cut_no hc
  have hpre:jA s=[]:=by unfold jA;rw[hcut];rfl
  unfold rdOk rdR zr
  simp only[hc,Bool.false_eq_true,if_false,hcut,hpre]
  by_cases h3:3<(zA s [46]).length
  ·rw[if_pos h3,if_pos h3];rfl
  rw[if_neg h3,if_neg h3]
  obtain⟨t,l,hl⟩:∃t l,zA s [46]=t::l:=by
   cases h:zA s [46] with
   | nil=>exact absurd h (XE _ _)
   | cons t l=>exact⟨t,l,rfl⟩
  rw[hl]
  rcases fold_same t l with⟨st,h1,⟨h2,h4⟩ | ⟨h2,h4⟩⟩ | ⟨h1,h4⟩
  ·rw[h1,h4]
   simp[h2]
  ·have hp:st.1.pre=[]:=(Vw (t::l) part0 st.1 0 h4 (by simp[part0])).2.2.2.2.2.2
   have he:({ st.1 with pre:=[] }:Part)=st.1:=by
    obtain⟨⟨a,b,c,d,e⟩,f⟩:=st
    simp only at hp
    subst hp
    rfl
   have h0:¬st.1.has=0:=by omega
   rw[h1,h4]
   simp[h0,he]
  ·rw[h1,h4];rfl
 ·have hcut:=cut_yes hc
  unfold rdOk rdR zr
  rw[if_pos hc,hcut]
  simp only[Bool.true_eq_false,false_or]
  obtain⟨l,hl⟩:∃l,zA (Lib.cut s [45]).1 [46]=l:=⟨_,rfl⟩
  obtain⟨pre,hpre⟩:∃pre,jA s=pre:=⟨_,rfl⟩
  rw[hl,hpre]
  have hlong:∀(m:List (List UInt8)) (st st':Part×Bool) (i:Nat),wy st i m=some st'→st'.1.has≤st.1.has+m.length:=by
   intro m
   induction m with
   | nil=>intro st st' i h;simp only[wy] at h;injection h with h;rw[←h];simp
   | cons t m ih =>
     intro st st' i h
     simp only[wy] at h
     cases hs:wI st i t with
     | none=>rw[hs] at h;cases h
     | some q =>
       rw[hs] at h
       have h1:=ih q st' (i+1) h
       have h2:q.1.has≤st.1.has+1:=by
        unfold wI at hs
        split at hs
        ·injection hs with hs;rw[←hs];simp only;omega
        ·split at hs
         ·injection hs with hs;rw[←hs];simp only;rw[(zaF _ _ _).1];omega
         ·cases hs
       simp only[List.length_cons]
       omega
  by_cases h3:l.length=3
  ·obtain⟨p0,p1,p2,rfl⟩:∃a b c,l=[a,b,c]:=zex h3
   unfold rdV
   rw[hl,hpre]
   simp only
   have hno:¬3 < [p0,p1,p2].length:=by simp
   rw[if_neg hno]
   cases v0:vnum p0 with
   | none =>
     have hf:∀st,wy (part0,false) 0 [p0,p1,p2]=some st→st.1.has≤2:=by
      intro st h
      simp only[wy] at h
      cases hs:wI (part0,false) 0 p0 with
      | none=>rw[hs] at h;cases h
      | some q =>
        rw[hs] at h
        have hq:q.1.has=0:=by
         unfold wI at hs
         split at hs
         ·injection hs with hs;rw[←hs];rfl
         ·rw[v0] at hs;simp at hs
        have:=hlong [p1,p2] q st 1 (by simpa[wy] using h)
        simp only[List.length_cons,List.length_nil] at this
        omega
     cases hfr:wy (part0,false) 0 [p0,p1,p2] with
     | none=>rfl
     | some st =>
       have h2:=hf st hfr
       have hne:¬(st.1.has=3∧pre.length≤10):=by omega
       simp only[if_neg hne]
       cases pre.any qw<;>rfl
   | some a =>
     have o0:qI p0=false:=by
      cases h:qI p0 with
      | false=>rfl
      | true=>rw[Zz h] at v0;cases v0
     have s0:wI (part0,false) 0 p0=some (part0.put 0 a,false):=by simp[wI,o0,v0]
     cases v1:vnum p1 with
     | none =>
       have hf:∀st,wy (part0,false) 0 [p0,p1,p2]=some st→st.1.has≤2:=by
        intro st h
        simp only[wy,s0] at h
        cases hs:wI (part0.put 0 a,false) (0+1) p1 with
        | none=>rw[hs] at h;cases h
        | some q =>
          rw[hs] at h
          have hq:q.1.has=1:=by
           unfold wI at hs
           split at hs
           ·injection hs with hs;rw[←hs];rfl
           ·rw[v1] at hs;simp at hs
          have:=hlong [p2] q st 2 (by simpa[wy] using h)
          simp only[List.length_cons,List.length_nil] at this
          omega
       cases hfr:wy (part0,false) 0 [p0,p1,p2] with
       | none=>rfl
       | some st =>
         have h2:=hf st hfr
         have hne:¬(st.1.has=3∧pre.length≤10):=by omega
         simp only[if_neg hne]
         cases pre.any qw<;>rfl
     | some b =>
       have o1:qI p1=false:=by
        cases h:qI p1 with
        | false=>rfl
        | true=>rw[Zz h] at v1;cases v1
       have s1:wI (part0.put 0 a,false) (0+1) p1=some ((part0.put 0 a).put 1 b,false):=by simp[wI,o1,v1]
       cases v2:vnum p2 with
       | none =>
         have hf:∀st,wy (part0,false) 0 [p0,p1,p2]=some st→st.1.has≤2:=by
          intro st h
          simp only[wy,s0,s1] at h
          cases hs:wI ((part0.put 0 a).put 1 b,false) (0+1+1) p2 with
          | none=>rw[hs] at h;cases h
          | some q =>
            rw[hs] at h
            have hq:q.1.has=2:=by
             unfold wI at hs
             split at hs
             ·injection hs with hs;rw[←hs];rfl
             ·rw[v2] at hs;simp at hs
            simp only at h
            injection h with h
            rw[←h];omega
         cases hfr:wy (part0,false) 0 [p0,p1,p2] with
         | none=>rfl
         | some st =>
           have h2:=hf st hfr
           have hne:¬(st.1.has=3∧pre.length≤10):=by omega
           simp only[if_neg hne]
           cases pre.any qw<;>rfl
       | some c =>
         have o2:qI p2=false:=by
          cases h:qI p2 with
          | false=>rfl
          | true=>rw[Zz h] at v2;cases v2
         have s2:wI ((part0.put 0 a).put 1 b,false) (0+1+1) p2=some (((part0.put 0 a).put 1 b).put 2 c,false):=by simp[wI,o2,v2]
         have hfr:wy (part0,false) 0 [p0,p1,p2]=some (((part0.put 0 a).put 1 b).put 2 c,false):=by simp only[wy,s0,s1,s2]
         rw[hfr]
         have hck:=chk_pre a b c pre (Zl v0) (Zl v1) (Zl v2)
         by_cases hz:chkV ⟨a,b,c,pre⟩=0
         ·obtain⟨hb1,hb2⟩:=hck.1 hz
          simp[hz,hb1,hb2,part0,Part.put]
         ·have hno:¬(pre.any qw=false∧pre.length≤10):=fun h=>hz (hck.2 h)
          cases hb1:pre.any qw
          ·have hb2:¬pre.length≤10:=fun h=>hno ⟨hb1,h⟩
           simp[hz,hb2]
          ·simp[hz]
  ·have hd:rdV s=none:=by
    unfold rdV
    rw[hl]
    split
    ·exact absurd rfl h3
    ·rfl
   rw[hd]
   simp only[Bool.false_eq_true,if_false]
   by_cases h4:3<l.length
   ·rw[if_pos h4]
   rw[if_neg h4]
   cases hfr:wy (part0,false) 0 l with
   | none=>rfl
   | some st =>
     have h5:=hlong l (part0,false) st 0 hfr
     have h6:st.1.has≤2:=by
      have:(part0:Part).has=0:=rfl
      simp only[this] at h5
      omega
     have hne:¬(st.1.has=3∧pre.length≤10):=by omega
     simp only[if_neg hne]
     cases pre.any qw<;>rfl
end Go.Proofs.YtdkfdoeijcfbhaaGreatDoor
