/-
Plain law: ranges in order; what is put together says where it covers, and is the one range that says so.
Plain law: what the reference reads as a range is what the program reads.
-/
import Derived.Test.YtpeaooooimfihaaGreatDoorG19
import Derived.Test.YtpeaooooimfihaaGreatDoorG20
import Derived.Test.YtpeaooooimfihaaGreatDoorG22
import Derived.Test.YtpeaooooimfihaaGreatDoorG23
set_option maxRecDepth 8000
namespace Go.Proofs.YtpeaooooimfihaaGreatDoor
open Go.RowKit Go.AM
theorem TO.ltle {α:Type} {c:α→α→Int} (h:TO c) {x y z:α} (h1:c x y<0) (h2:c y z≤0):c x z<0:=by
 rcases Int.lt_or_eq_of_le h2 with h2 | h2
 ·exact h.trans h1 h2
 ·have h3:=h.tr x y z (by omega) (by omega)
  rcases Int.lt_or_eq_of_le h3 with h4 | h4
  ·exact h4
  ·have e1:=(h.eq y z).1 h2
   have e2:=(h.eq x z).1 h4
   have:=h.tr y z x (by omega) (by omega)
   have:=(h.flip x y).1 h1
   omega
theorem TO.lelt {α:Type} {c:α→α→Int} (h:TO c) {x y z:α} (h1:c x y≤0) (h2:c y z<0):c x z<0:=by
 have h3:=h.tr x y z h1 (by omega)
 rcases Int.lt_or_eq_of_le h3 with h4 | h4
 ·exact h4
 ·have e2:=(h.eq x z).1 h4
  have:=h.tr z x y (by omega) h1
  have:=(h.flip y z).1 h2
  omega
theorem TO.irr {α:Type} {c:α→α→Int} (h:TO c) (x:α):¬c x x<0:=by rw[h.refl];omega
theorem TO.notlt {α:Type} {c:α→α→Int} (h:TO c) {x y:α} (h1:¬c x y<0):c y x≤0:=(h.le y x).2 (by omega)
theorem TO.notle {α:Type} {c:α→α→Int} (h:TO c) {x y:α} (h1:¬c x y≤0):c y x<0:=(h.flip y x).2 (by omega)
theorem orL2 {a b:Int} (h:orL [a,b]=0):a=0∧b=0:=by
 simp only[orL] at h
 split at h
 ·rename_i e
  split at h
  ·rename_i e2;exact⟨e,e2⟩
  ·rename_i e2;exact absurd h e2
 ·rename_i e;exact absurd h e
theorem orL3 {a b c:Int} (h:orL [a,b,c]=0):a=0∧b=0∧c=0:=by
 simp only[orL] at h
 split at h
 ·rename_i e
  split at h
  ·rename_i e2
   split at h
   ·rename_i e3;exact⟨e,e2,e3⟩
   ·rename_i e3;exact absurd h e3
  ·rename_i e2;exact absurd h e2
 ·rename_i e;exact absurd h e
theorem trim_whole {p q:List UInt8} (hp:qr p=true) (hq:qr q=true) (h:Lib.trimLeftB p 48=Lib.trimLeftB q 48):p=q:=by
 have key:∀p:List UInt8,qr p=true→(p=[48]∧Lib.trimLeftB p 48=[])∨(Lib.trimLeftB p 48=p∧p≠[]):=by
  intro p hp
  cases p with
  | nil=>simp[qr] at hp
  | cons c l =>
    by_cases hc:c=48
    ·subst hc
     cases l with
     | nil=>exact .inl ⟨rfl,rfl⟩
     | cons d l=>simp[qr] at hp
    ·refine .inr ⟨?_,by simp⟩
     unfold Lib.trimLeftB
     rw[List.dropWhile_cons_of_neg (by simpa using hc)]
 rcases key p hp with⟨h1,h2⟩ | ⟨h1,h2⟩<;>rcases key q hq with⟨h3,h4⟩ | ⟨h3,h4⟩
 ·rw[h1,h3]
 ·rw[h2,h3] at h;exact absurd h.symm h4
 ·rw[h1,h4] at h;exact absurd h h2
 ·rw[h1,h3] at h;exact h
theorem badPre_ne {p:List UInt8} (h:qg p=false):p≠[]∧(digs p=true→qr p=true):=by
 simp only[qg,Bool.or_eq_false_iff] at h
 obtain⟨⟨_,h2⟩,h3⟩:=h
 refine⟨fun e=>by subst e;simp[preB] at h2,fun hd=>?_⟩
 rw[hd] at h3
 simpa using h3
theorem cmpPre_eq {p q:List UInt8} (hp:qg p=false) (hq:qg q=false) (h:zT p q=0):p=q:=by
 obtain⟨p1,p2⟩:=badPre_ne hp
 obtain⟨q1,q2⟩:=badPre_ne hq
 have ep:yP p=digs p:=by cases p<;>simp_all[yP]
 have eq_:yP q=digs q:=by cases q<;>simp_all[yP]
 unfold zT at h
 rw[ep,eq_] at h
 cases hdp:digs p<;>cases hdq:digs q<;>simp only[hdp,hdq,if_true,Bool.false_eq_true,if_false] at h
 ·exact (ke p q).1 h
 ·cases h
 ·cases h
 ·obtain⟨_,h2⟩:=orL2 h
  exact trim_whole (p2 hdp) (q2 hdq) ((ke _ _).1 h2)
theorem lexL_eq {α:Type} {c:α→α→Int}:∀{a b:List α},(∀x∈a,∀y∈b,c x y=0→x=y)→lexL c a b=0→a=b
 | [],[],_,_=>rfl
 | [],_::_,_,h=>by simp[lexL] at h
 | _::_,[],_,h=>by simp[lexL] at h
 | x::a,y::b,he,h=>by
   simp only[lexL] at h
   split at h
   ·rename_i e
    rw[he x (by simp) y (by simp) e,lexL_eq (fun u hu v hv=>he u (by simp[hu]) v (by simp[hv])) h]
   ·rename_i e;exact absurd h e
theorem cmpC_eq {a b:Cut} (ha:a.good) (hb:b.good) (h:cmpC a b=0):a=b:=by
 obtain⟨⟨a1,a2,a3,a4⟩,a5⟩:=a
 obtain⟨⟨b1,b2,b3,b4⟩,b5⟩:=b
 unfold cmpC at h
 split at h
 ·rename_i hv
  have h5:a5=b5:=by
   split at h
   ·rename_i e;exact e
   ·split at h<;>cases h
  unfold cmpV at hv
  split at hv
  ·rename_i ho
   obtain⟨o1,o2,o3⟩:=orL3 ho
   have e1:=cmpI_zero o1
   have e2:=cmpI_zero o2
   have e3:=cmpI_zero o3
   have e4:a4=b4:=by
    simp only at hv
    split at hv
    ·rename_i l1
     split at hv
     ·rename_i l2;rw[List.length_eq_zero_iff.1 l1,List.length_eq_zero_iff.1 l2]
     ·cases hv
    ·split at hv
     ·cases hv
     ·exact lexL_eq (fun x hx y hy=>cmpPre_eq (ha.2 x hx) (hb.2 y hy)) hv
   simp only at e1 e2 e3
   rw[e1,e2,e3,e4,h5]
  ·rename_i ho;exact absurd hv ho
 ·rename_i hv;exact absurd h hv
mutual
def rnC (is:Cut→Bool):List Cut→List Str
 | []=>[]
 | c::l=>if is c=true then rnO is c l else rnC is l
def rnO (is:Cut→Bool) (s:Cut):List Cut→List Str
 | []=>[qn s]
 | c::l=>if is c=true then rnO is s l else betw s c::rnC is l
end
theorem setLast_snoc (out:List Str) (s c:Cut):jk (out++[qn s]) c=out++[betw s c]:=by
 unfold jk
 rw[List.getLast?_append]
 simp[qn,betw]
theorem swL_rn (is:Cut→Bool):∀(l:List Cut) (out:List Str),(swL is l (false,out)).2=out++rnC is l∧∀s,(swL is l (true,out++[qn s])).2=out++rnO is s l
 | [],out=>⟨by simp[swL,rnC],fun s=>by simp[swL,rnO]⟩
 | c::l,out=>by
   have e1:∀st,swL is (c::l) st=swL is l (swS is st c):=fun _=>rfl
   constructor
   ·rw[e1]
    cases h:is c
    ·have:swS is (false,out) c=(false,out):=by simp[swS,h]
     rw[this,(swL_rn is l out).1,rnC,h,if_neg (by simp)]
    ·have:swS is (false,out) c=(true,out++[qn c]):=by simp[swS,h]
     rw[this,(swL_rn is l out).2 c,rnC,h,if_pos rfl]
   ·intro s
    rw[e1]
    cases h:is c
    ·have:swS is (true,out++[qn s]) c=(false,out++[betw s c]):=by simp[swS,h,setLast_snoc]
     rw[this,(swL_rn is l (out++[betw s c])).1,rnO,h,if_neg (by simp),List.append_assoc]
     rfl
    ·have:swS is (true,out++[qn s]) c=(true,out++[qn s]):=by simp[swS,h]
     rw[this,(swL_rn is l out).2 s,rnO,h,if_pos rfl]
noncomputable def cutsU (a b:List Str):List Cut:=uniqC (jD (zI a++zI b))
theorem combL_rn (f:Bool→Bool→Bool) (a b:List Str):wO f a b=rnC (fun c=>f (covA a c) (covA b c)) (cutsU a b):=by
 unfold wO
 rw[swL_uniq,(swL_rn _ _ []).1]
 rfl
theorem vy (a b:List Str) (c:Cut):c∈cutsU a b↔c∈zI a∨c∈zI b:=by
 unfold cutsU
 rw[uniqC_mem,(wN _).mem_iff,List.mem_append]
theorem cuts_good {l:List Str} (h:goodR l):∀c∈zI l,c.good:=kd h
theorem vA {a b:List Str} (ha:goodR a) (hb:goodR b):(cutsU a b).Pairwise fun x y=>cmpC x y<0:=by
 refine uniqC_sorted _ (fun x hx y hy h=>?_) (sortCu_sorted _)
 have g:∀z∈jD (zI a++zI b),z.good:=fun z hz=>by
  rcases List.mem_append.1 ((wN _).mem_iff.1 hz) with h | h
  ·exact cuts_good ha z h
  ·exact cuts_good hb z h
 exact cmpC_eq (g x hx) (g y hy) h
def CanR:Option Cut→List Str→Prop
 | _,[]=>True
 | lo,s::l=>(∀q,lo=some q→cmpC q s.lo<0)∧if s.endless=true then l=[]∧s.hi=cut0 else cmpC s.lo s.hi<0∧CanR (some s.hi) l
theorem canR_none {lo:Option Cut} {l:List Str} (h:CanR lo l):CanR none l:=by
 cases l with
 | nil=>trivial
 | cons s l=>exact⟨fun q e=>(by cases e),h.2⟩
theorem rn_can (is:Cut→Bool):∀(l:List Cut),l.Pairwise (fun x y=>cmpC x y<0)→(∀lo:Option Cut,(∀q,lo=some q→∀x∈l,cmpC q x<0)→CanR lo (rnC is l))∧∀(lo:Option Cut) (s:Cut),(∀q,lo=some q→cmpC q s<0)→(∀x∈l,cmpC s x<0)→CanR lo (rnO is s l)
 | [],_=>⟨fun _ _=>trivial,fun lo s h _=>⟨h,by simp[qn]⟩⟩
 | c::l,hs=>by
   obtain⟨h1,h2⟩:=List.pairwise_cons.1 hs
   obtain⟨i1,i2⟩:=rn_can is l h2
   constructor
   ·intro lo hlo
    rw[rnC]
    split
    ·exact i2 lo c (fun q hq=>hlo q hq c (by simp)) h1
    ·exact i1 lo fun q hq x hx=>hlo q hq x (by simp[hx])
   ·intro lo s hlo hsl
    rw[rnO]
    split
    ·exact i2 lo s hlo fun x hx=>hsl x (by simp[hx])
    ·refine⟨hlo,?_⟩
     simp only[betw,Bool.false_eq_true,if_false]
     exact⟨hsl c (by simp),i1 (some c) fun q hq x hx=>by injection hq with hq;rw[←hq];exact h1 x hx⟩
noncomputable def kg (is:Cut→Bool):Bool→List Cut→Cut→Bool
 | d,[],_=>d
 | d,x::l,c=>if cmpC x c≤0 then kg is (is x) l c else d
theorem jq:∀{l:List Str} {lo c:Cut},CanR (some lo) l→cmpC c lo≤0→covA l c=false
 | [],_,_,_,_=>rfl
 | s::l,lo,c,h,hc=>by
   have h1:cmpC lo s.lo<0:=h.1 lo rfl
   have h2:cmpC c s.lo<0:=cmpC_to.lelt hc h1
   have h3:covB s c=false:=by
    have:=(cmpC_to.flip c s.lo).1 h2
    simp[covB,show ¬cmpC s.lo c≤0 by omega]
   have h4:covA l c=false:=by
    have hh:=h.2
    split at hh
    ·rw[hh.1];rfl
    ·exact jq hh.2 (Int.le_of_lt (cmpC_to.trans h2 hh.1))
   unfold covA at h4 ⊢
   rw[List.any_cons,h3,h4]
   rfl
theorem rn_cov (is:Cut→Bool) (c:Cut):∀(l:List Cut),l.Pairwise (fun x y=>cmpC x y<0)→covA (rnC is l) c=kg is false l c∧∀s,(∀x∈l,cmpC s x<0)→covA (rnO is s l) c=if cmpC s c≤0 then kg is true l c else false
 | [],_=>⟨rfl,fun s _=>by simp[rnO,covA,covB,qn,kg]⟩
 | x::l,hs=>by
   obtain⟨h1,h2⟩:=List.pairwise_cons.1 hs
   obtain⟨i1,i2⟩:=rn_cov is c l h2
   have hcan:=rn_can is l h2
   constructor
   ·rw[rnC,kg]
    cases hx:is x
    ·rw[if_neg (by simp),i1]
     split
     ·rfl
     ·rename_i hn
      cases l with
      | nil=>rfl
      | cons y l =>
        have hlt:=cmpC_to.trans (cmpC_to.notle hn) (h1 y (by simp))
        have:=(cmpC_to.flip c y).1 hlt
        simp only[kg]
        rw[if_neg (by omega)]
    ·rw[if_pos rfl,i2 x h1]
   ·intro s hsl
    have hsx:=hsl x (by simp)
    rw[rnO,kg]
    cases hx:is x
    ·rw[if_neg (by simp)]
     have hcb:=(hcan.1 (some x) fun q hq y hy=>by injection hq with hq;rw[←hq];exact h1 y hy)
     have e:covA (betw s x::rnC is l) c=(covB (betw s x) c||covA (rnC is l) c):=rfl
     rw[e]
     by_cases hxc:cmpC x c≤0
     ·have hsc:cmpC s c≤0:=Int.le_of_lt (cmpC_to.ltle hsx hxc)
      have hb:covB (betw s x) c=false:=by
       have:=(cmpC_to.le x c).1 hxc
       simp[covB,betw,show ¬cmpC c x<0 by omega]
      rw[hb,if_pos hsc,if_pos hxc,Bool.false_or,i1]
     ·have hcx:=cmpC_to.notle hxc
      have hz:covA (rnC is l) c=false:=jq hcb (Int.le_of_lt hcx)
      rw[hz,Bool.or_false,if_neg hxc]
      simp only[covB,betw,hcx,Bool.false_or,decide_true,Bool.and_true]
      by_cases hsc:cmpC s c≤0<;>simp[hsc]
    ·rw[if_pos rfl,i2 s fun y hy=>hsl y (by simp[hy])]
     by_cases hxc:cmpC x c≤0
     ·rw[if_pos hxc]
     ·rw[if_neg hxc]
      have hlast:kg is true l c=true:=by
       cases l with
       | nil=>rfl
       | cons y l =>
         have hlt:=cmpC_to.trans (cmpC_to.notle hxc) (h1 y (by simp))
         have:=(cmpC_to.flip c y).1 hlt
         simp only[kg]
         rw[if_neg (by omega)]
      rw[hlast]
theorem cov_same {a:List Str} {x c:Cut} (hxc:cmpC x c≤0) (h:∀y∈zI a,cmpC y c≤0→cmpC y x≤0):covA a c=covA a x:=by
 induction a with
 | nil=>rfl
 | cons s a ih =>
   have e:∀c,covA (s::a) c=(covB s c||covA a c):=fun _=>rfl
   rw[e,e,ih fun y hy=>h y (by rw[zI];exact List.mem_append_right _ hy)]
   congr 1
   have hlo:s.lo∈zI (s::a):=by rw[zI];apply List.mem_append_left;split<;>simp
   have k1:cmpC s.lo c≤0↔cmpC s.lo x≤0:=⟨h _ hlo,fun g=>cmpC_to.tr _ _ _ g hxc⟩
   unfold covB
   cases he:s.endless
   ·have hhi:s.hi∈zI (s::a):=by rw[zI,he];simp
    have k2:cmpC c s.hi<0↔cmpC x s.hi<0:=by
     constructor
     ·exact fun g=>cmpC_to.lelt hxc g
     ·intro g
      refine Decidable.byContradiction fun hn=>?_
      have g2:=h _ hhi (cmpC_to.notlt hn)
      exact cmpC_to.irr x (cmpC_to.ltle g g2)
    simp only[k1,k2]
   ·simp only[k1,Bool.true_or]
theorem cov_first {a:List Str} {c:Cut} (h:∀y∈zI a,¬cmpC y c≤0):covA a c=false:=by
 induction a with
 | nil=>rfl
 | cons s a ih =>
   have e:covA (s::a) c=(covB s c||covA a c):=rfl
   have hlo:s.lo∈zI (s::a):=by rw[zI];apply List.mem_append_left;split<;>simp
   rw[e,ih fun y hy=>h y (by rw[zI];exact List.mem_append_right _ hy)]
   simp[covB,h _ hlo]
theorem lastIs_spec (is:Cut→Bool) (c:Cut):∀(l:List Cut) (d:Bool),l.Pairwise (fun x y=>cmpC x y<0)→(kg is d l c=d∧∀y∈l,¬cmpC y c≤0)∨∃x∈l,cmpC x c≤0∧kg is d l c=is x∧∀y∈l,cmpC y c≤0→cmpC y x≤0
 | [],d,_=>.inl ⟨rfl,fun y hy=>by cases hy⟩
 | x::l,d,hs=>by
   obtain⟨h1,h2⟩:=List.pairwise_cons.1 hs
   by_cases hx:cmpC x c≤0
   ·right
    simp only[kg,if_pos hx]
    rcases lastIs_spec is c l (is x) h2 with⟨e,hn⟩ | ⟨z,hz,hzc,e,hn⟩
    ·refine⟨x,by simp,hx,e,fun y hy hyc=>?_⟩
     rcases List.mem_cons.1 hy with rfl | hy
     ·rw[cmpC_to.refl];exact Int.le_refl _
     ·exact absurd hyc (hn y hy)
    ·refine⟨z,by simp[hz],hzc,e,fun y hy hyc=>?_⟩
     rcases List.mem_cons.1 hy with rfl | hy
     ·exact Int.le_of_lt (h1 z hz)
     ·exact hn y hy hyc
   ·left
    simp only[kg,if_neg hx]
    refine⟨trivial,fun y hy hyc=>?_⟩
    rcases List.mem_cons.1 hy with rfl | hy
    ·exact hx hyc
    ·exact hx (Int.le_of_lt (cmpC_to.ltle (h1 y hy) hyc))
theorem comb_cov {f:Bool→Bool→Bool} (hf:f false false=false) {a b:List Str} (ha:goodR a) (hb:goodR b) (c:Cut):covA (wO f a b) c=f (covA a c) (covA b c):=by
 have hs:=vA ha hb
 rw[combL_rn,(rn_cov _ c _ hs).1]
 rcases lastIs_spec (fun c=>f (covA a c) (covA b c)) c (cutsU a b) false hs with⟨e,hn⟩ | ⟨x,hx,hxc,e,hn⟩
 ·rw[e,cov_first fun y hy=>hn y ((vy a b y).2 (.inl hy)),cov_first fun y hy=>hn y ((vy a b y).2 (.inr hy)),hf]
 ·rw[e,cov_same hxc fun y hy=>hn y ((vy a b y).2 (.inl hy)),cov_same hxc fun y hy=>hn y ((vy a b y).2 (.inr hy))]
theorem comb_can {f:Bool→Bool→Bool} {a b:List Str} (ha:goodR a) (hb:goodR b):CanR none (wO f a b):=by
 rw[combL_rn]
 exact (rn_can _ _ (vA ha hb)).1 none fun q e=>by cases e
theorem canR_eq:∀{l m:List Str} {lo lo':Option Cut},CanR lo l→CanR lo' m→goodR l→goodR m→(∀c,c.good→covA l c=covA m c)→l=m
 | [],[],_,_,_,_,_,_,_=>rfl
 | [],t::m,_,lo',_,h2,_,gm,h=>by
   have:=h t.lo (gm t (by simp)).1
   have hc:covA (t::m) t.lo=true:=by
    have hb:covB t t.lo=true:=by
     have hh:=h2.2
     unfold covB
     rw[cmpC_to.refl]
     split at hh
     ·rename_i e;simp[e]
     ·simp[hh.1]
    unfold covA;rw[List.any_cons,hb];rfl
   rw[hc] at this
   cases this
 | s::l,[],lo,_,h1,_,gl,_,h=>by
   have:=h s.lo (gl s (by simp)).1
   have hc:covA (s::l) s.lo=true:=by
    have hb:covB s s.lo=true:=by
     have hh:=h1.2
     unfold covB
     rw[cmpC_to.refl]
     split at hh
     ·rename_i e;simp[e]
     ·simp[hh.1]
    unfold covA;rw[List.any_cons,hb];rfl
   rw[hc] at this
   cases this
 | s::l,t::m,lo,lo',h1,h2,gl,gm,h=>by
   have head:∀{s:Str} {l:List Str} {lo:Option Cut},CanR lo (s::l)→covB s s.lo=true:=fun {s l lo} h1=>by
    have hh:=h1.2
    unfold covB
    rw[cmpC_to.refl]
    split at hh
    ·rename_i e;simp[e]
    ·simp[hh.1]
   have tail:∀{s:Str} {l:List Str} {lo:Option Cut} {c:Cut},CanR lo (s::l)→(s.endless=false→cmpC c s.hi≤0)→covA (s::l) c=covB s c:=fun {s l lo c} h1 hc=>by
    have hh:=h1.2
    have e:covA (s::l) c=(covB s c||covA l c):=rfl
    rw[e]
    cases he:s.endless
    ·rw[he,if_neg (by simp)] at hh
     rw[jq hh.2 (hc he),Bool.or_false]
    ·rw[he,if_pos rfl] at hh
     rw[hh.1];simp[covA]
   have before:∀{s:Str} {l:List Str} {lo:Option Cut} {c:Cut},CanR lo (s::l)→cmpC c s.lo<0→covA (s::l) c=false:=fun {s l lo c} h1 hc=>by
    have hh:=h1.2
    rw[tail h1 fun he=>?_]
    ·have:=(cmpC_to.flip c s.lo).1 hc
     simp[covB,show ¬cmpC s.lo c≤0 by omega]
    ·rw[he,if_neg (by simp)] at hh
     exact Int.le_of_lt (cmpC_to.trans hc hh.1)
   have gs:=gl s (by simp)
   have gt:=gm t (by simp)
   have hcs:covA (s::l) s.lo=true:=by unfold covA;rw[List.any_cons,head h1];rfl
   have hct:covA (t::m) t.lo=true:=by unfold covA;rw[List.any_cons,head h2];rfl
   have elo:s.lo=t.lo:=by
    refine cmpC_eq gs.1 gt.1 ?_
    have n1:¬cmpC s.lo t.lo<0:=fun hlt=>by
     have:=h s.lo gs.1
     rw[hcs,before h2 hlt] at this
     cases this
    have n2:¬cmpC t.lo s.lo<0:=fun hlt=>by
     have:=h t.lo gt.1
     rw[hct,before h1 hlt] at this
     cases this
    have:=(cmpC_to.flip s.lo t.lo)
    have:=(cmpC_to.flip t.lo s.lo)
    omega
   have hh1:=h1.2
   have hh2:=h2.2
   cases e1:s.endless<;>cases e2:t.endless
   ·rw[e1,if_neg (by simp)] at hh1
    rw[e2,if_neg (by simp)] at hh2
    have c1:covA (s::l) s.hi=false:=by
     rw[tail h1 fun _=>by rw[cmpC_to.refl];exact Int.le_refl _]
     simp[covB,e1,cmpC_to.refl]
    have c2:covA (t::m) t.hi=false:=by
     rw[tail h2 fun _=>by rw[cmpC_to.refl];exact Int.le_refl _]
     simp[covB,e2,cmpC_to.refl]
    have ehi:s.hi=t.hi:=by
     refine cmpC_eq gs.2 gt.2 ?_
     have n1:¬cmpC s.hi t.hi<0:=fun hlt=>by
      have:=h s.hi gs.2
      rw[c1,tail h2 fun _=>Int.le_of_lt hlt] at this
      have h3:cmpC t.lo s.hi≤0:=by rw[←elo];exact Int.le_of_lt hh1.1
      simp[covB,hlt,h3] at this
     have n2:¬cmpC t.hi s.hi<0:=fun hlt=>by
      have:=h t.hi gt.2
      rw[c2,tail h1 fun _=>Int.le_of_lt hlt] at this
      have h3:cmpC s.lo t.hi≤0:=by rw[elo];exact Int.le_of_lt hh2.1
      simp[covB,hlt,h3] at this
     have:=(cmpC_to.flip s.hi t.hi)
     have:=(cmpC_to.flip t.hi s.hi)
     omega
    have est:s=t:=by
     obtain⟨a,b,c⟩:=s
     obtain⟨a',b',c'⟩:=t
     simp only at elo ehi e1 e2
     rw[elo,ehi,e1,e2]
    subst est
    rw[canR_eq hh1.2 hh2.2 (fun x hx=>gl x (by simp[hx])) (fun x hx=>gm x (by simp[hx])) fun c hc=>?_]
    by_cases hle:cmpC c s.hi≤0
    ·rw[jq hh1.2 hle,jq hh2.2 hle]
    ·have:=h c hc
     have hb:covB s c=false:=by
      have:=cmpC_to.notle hle
      simp[covB,e1,show ¬cmpC c s.hi<0 by omega]
     unfold covA at this ⊢
     rw[List.any_cons,List.any_cons,hb] at this
     exact this
   ·rw[e1,if_neg (by simp)] at hh1
    have:=h s.hi gs.2
    have c1:covA (s::l) s.hi=false:=by
     rw[tail h1 fun _=>by rw[cmpC_to.refl];exact Int.le_refl _]
     simp[covB,e1,cmpC_to.refl]
    have h3:cmpC t.lo s.hi≤0:=by rw[←elo];exact Int.le_of_lt hh1.1
    rw[c1,tail h2 fun e=>by rw[e2] at e;cases e] at this
    simp[covB,e2,h3] at this
   ·rw[e2,if_neg (by simp)] at hh2
    have:=h t.hi gt.2
    have c1:covA (t::m) t.hi=false:=by
     rw[tail h2 fun _=>by rw[cmpC_to.refl];exact Int.le_refl _]
     simp[covB,e2,cmpC_to.refl]
    have h3:cmpC s.lo t.hi≤0:=by rw[elo];exact Int.le_of_lt hh2.1
    rw[c1,tail h1 fun e=>by rw[e1] at e;cases e] at this
    simp[covB,e1,h3] at this
   ·rw[e1,if_pos rfl] at hh1
    rw[e2,if_pos rfl] at hh2
    obtain⟨a,b,c⟩:=s
    obtain⟨a',b',c'⟩:=t
    simp only at elo e1 e2 hh1 hh2
    rw[hh1.1,hh2.1,elo,e1,e2,hh1.2,hh2.2]
theorem least_le {c:Cut} (hp:0≤c.v.a∧0≤c.v.b∧0≤c.v.c):cmpC leastC c≤0:=by
 obtain⟨⟨a,b,d,p⟩,f⟩:=c
 obtain⟨h1,h2,h3⟩:=hp
 simp only at h1 h2 h3
 have hcm:∀x:Int,0≤x→cmpI 0 x=0∧x=0∨cmpI 0 x<0:=by
  intro x hx
  unfold cmpI
  split
  ·right;omega
  ·split
   ·omega
   ·left;omega
 have hpre:zT [48] (p.headD [48])≤0:=by
  have d1:yP [48]=true:=by decide
  unfold zT
  rw[d1]
  have t1:Lib.trimLeftB [48] 48=[]:=by decide
  simp only[if_true,t1]
  split
  ·obtain⟨q,hq⟩:∃q,Lib.trimLeftB (p.headD [48]) 48=q:=⟨_,rfl⟩
   rw[hq]
   cases q with
   | nil=>decide
   | cons x q =>
     have:cmpI (([]:List UInt8).length) ((x::q).length)<0:=by
      rcases hcm ((x::q).length) (by omega) with⟨_,h⟩ | h
      ·simp at h;omega
      ·exact h
     simp only[orL]
     rw[if_neg (by omega)]
     omega
  ·omega
 have hv:cmpV ⟨0,0,0,[[48]]⟩ ⟨a,b,d,p⟩≤0:=by
  unfold cmpV
  simp only
  rcases hcm a h1 with⟨e1,_⟩ | e1
  ·rcases hcm b h2 with⟨e2,_⟩ | e2
   ·rcases hcm d h3 with⟨e3,_⟩ | e3
    ·have ho:orL [cmpI 0 a,cmpI 0 b,cmpI 0 d]=0:=by simp[orL,e1,e2,e3]
     rw[if_pos ho,if_neg (by simp)]
     split
     ·omega
     ·cases p with
      | nil=>rename_i h;exact absurd rfl h
      | cons q p =>
        simp only[lexL]
        split
        ·cases p<;>simp[lexL]
        ·simpa using hpre
    ·have ho:orL [cmpI 0 a,cmpI 0 b,cmpI 0 d]=cmpI 0 d:=by
      simp only[orL,e1,e2,if_true]
      rw[if_neg (by omega)]
     rw[ho,if_neg (by omega)];omega
   ·have ho:orL [cmpI 0 a,cmpI 0 b,cmpI 0 d]=cmpI 0 b:=by
     simp only[orL,e1,if_true]
     rw[if_neg (by omega)]
    rw[ho,if_neg (by omega)];omega
  ·have ho:orL [cmpI 0 a,cmpI 0 b,cmpI 0 d]=cmpI 0 a:=by
    simp only[orL]
    rw[if_neg (by omega)]
   rw[ho,if_neg (by omega)];omega
 have e:cmpC leastC ⟨⟨a,b,d,p⟩,f⟩=if cmpV ⟨0,0,0,[[48]]⟩ ⟨a,b,d,p⟩=0 then (if false=f then 0 else if f=true then -1 else 1) else cmpV ⟨0,0,0,[[48]]⟩ ⟨a,b,d,p⟩:=rfl
 rw[e]
 by_cases h0:cmpV ⟨0,0,0,[[48]]⟩ ⟨a,b,d,p⟩=0
 ·rw[if_pos h0]
  cases f<;>simp
 ·rw[if_neg h0]
  exact hv
def posC (c:Cut):Prop:=0≤c.v.a∧0≤c.v.b∧0≤c.v.c
def posR (l:List Str):Prop:=∀s∈l,posC s.lo∧posC s.hi
theorem all_good:goodR [qn leastC]:=(jn wv).2
theorem meet_all {m:List Str} {lo:Option Cut} (hc:CanR lo m) (hg:goodR m) (hp:posR m):wO and m [qn leastC]=m:=by
 refine canR_eq (comb_can hg all_good) (canR_none hc) (wA _ hg all_good) hg fun c _=>?_
 rw[comb_cov rfl hg all_good]
 cases hm:covA m c
 ·rfl
 ·have:cmpC leastC c≤0:=by
   unfold covA at hm
   rw[List.any_eq_true] at hm
   obtain⟨s,hs,hb⟩:=hm
   simp only[covB,Bool.and_eq_true,decide_eq_true_eq] at hb
   exact cmpC_to.tr _ _ _ (least_le (hp s hs).1) hb.1
  simp[covA,covB,qn,this]
theorem comb_comm {f:Bool→Bool→Bool} (hf:f false false=false) (hfc:∀x y,f x y=f y x) {a b:List Str} (ha:goodR a) (hb:goodR b):wO f a b=wO f b a:=by
 refine canR_eq (comb_can ha hb) (comb_can hb ha) (wA _ ha hb) (wA _ hb ha) fun c _=>?_
 rw[comb_cov hf ha hb,comb_cov hf hb ha,hfc]
theorem btw_can (a b:Cut):CanR none (btw a b):=by
 unfold btw
 split
 ·trivial
 ·exact⟨fun q e=>(by cases e),by simp only[betw,Bool.false_eq_true,if_false];exact⟨by omega,trivial⟩⟩
theorem from_can (a:Cut):CanR none [qn a]:=⟨fun q e=>(by cases e),by simp[qn]⟩
theorem combL_pos (f:Bool→Bool→Bool) {a b:List Str} (ha:posR a) (hb:posR b):posR (wO f a b):=combL_all (Q:=posC) (by simp[posC,cut0]) f ha hb
noncomputable def oneX (o:List UInt8) (p:Part):List Str×Bool:=if (strS (cOf o p)).2=true then ((strS (cOf o p)).1,true) else ([],false)
noncomputable def jO:List Str→Bool→List Tok→Option (List Str×Bool)
 | out,ok,[]=>some (out,ok)
 | out,ok,a::l=>if a.1=[]∧qw a.2=true then jO out ok l else match rdOk a.2 with
   | none=>none
   | some p=>jO (wO and out (oneX a.1 p).1) (ok&&(oneX a.1 p).2) l
def dash:List Tok→Option (List UInt8×List UInt8)
 | [a,b,c]=>if b=([],[45])∧a.1=[]∧c.1=[] then some (a.2,c.2) else none
 | _=>none
noncomputable def btwX (p q:Part):List Str×Bool:=if kC q=true then (btw (lowC p) (yh q),true) else ([],false)
noncomputable def altX (t:List UInt8):Option (List Str×Bool):=match tokW (qG t) with
 | none=>none
 | some l=>if l=[] then none else match dash l with
   | some a=>match rdOk a.1,rdOk a.2 with
     | some p,some q=>some (btwX p q)
     | _,_=>none
   | none=>jO [qn leastC] true l
noncomputable def vB:List Str→Bool→List (List UInt8)→Option (List Str×Bool)
 | out,ok,[]=>some (out,ok)
 | out,ok,s::l=>match altX s with
   | none=>none
   | some m=>vB (wO or out m.1) (ok&&m.2) l
noncomputable def jH (t:List UInt8):List Str×Int:=if (400:Int)<t.length then ([],2) else match vB [] true (zu t [124,124]) with
 | none=>([],10)
 | some o=>if o.2=false then ([],1) else if (100:Int)<o.1.length then ([],2) else (o.1,0)
def yT (a:Tok):Option Cpn:=if a.1=[]∧qw a.2=true then some cAll else if (zo a.2).2=true then some (cOf a.1 (zo a.2).1) else none
def mapO:List Tok→Option (List Cpn)
 | []=>some []
 | a::l=>match yT a with
   | none=>none
   | some c=>(mapO l).map (c::·)
theorem opW_nil {w:List UInt8} (hw:w≠[]) (h:(opW sgs w).2=[]):(opW sgs w).1≠[]:=fun e=>by
 have:=yS sgs w
 rw[h,e] at this
 exact hw (by simpa using this.symm)
theorem rd_empty:(zo []).2=false:=by decide
theorem rd_dash:zo [45]=(⟨0,0,0,3,[]⟩,false):=by rfl
theorem altN_tok:∀(n:Nat) (ws:List (List UInt8)),ws.length≤n→(∀w∈ws,w≠[])→altN n ws=(tokW ws).bind mapO
 | n,[],_,_=>by cases n<;>rfl
 | 0,w::ws,h,_=>by simp at h
 | n+1,[w],_,hw=>by
   have hw0:=hw w (by simp)
   simp only[altN,tokW]
   by_cases hr:(opW sgs w).2=[]
   ·have ho:=opW_nil hw0 hr
    have:altS w []=none:=by
     unfold altS
     rw[if_neg (fun h=>ho h.1),if_neg (fun h=>h.2.2 rfl),hr,rd_empty]
     simp
    rw[this,if_pos hr]
    rfl
   ·rw[if_neg hr]
    have:altS w []=(yT (opW sgs w)).map fun c=>(c,[]):=by
     unfold altS yT
     by_cases h1:(opW sgs w).1=[]∧qw (opW sgs w).2=true
     ·rw[if_pos h1,if_pos h1];rfl
     ·rw[if_neg h1,if_neg h1,if_neg (fun h=>h.2.2 rfl)]
      split<;>rfl
    rw[this]
    simp only[Option.bind_some,mapO]
    cases yT (opW sgs w) with
    | none=>rfl
    | some c=>cases n<;>rfl
 | n+1,w::x::ws,hl,hw=>by
   have hw0:=hw w (by simp)
   simp only[List.length_cons] at hl
   simp only[altN,tokW]
   by_cases hr:(opW sgs w).2=[]
   ·have ho:=opW_nil hw0 hr
    rw[if_pos hr]
    have:altS w (x::ws)=(yT ((opW sgs w).1,x)).map fun c=>(c,ws):=by
     unfold altS yT
     rw[if_neg (fun h=>ho h.1),if_pos ⟨ho,hr,by simp⟩,if_neg (fun h=>ho h.1)]
     simp only
     split<;>rfl
    rw[this]
    have ih:=altN_tok n ws (by omega) (fun y hy=>hw y (by simp[hy]))
    cases ht:tokW ws with
    | none =>
      rw[ht] at ih
      simp only[Option.map_none,Option.bind_none]
      cases yT ((opW sgs w).1,x) with
      | none=>rfl
      | some c=>simp only[Option.map_some,ih];rfl
    | some l =>
      rw[ht] at ih
      simp only[Option.map_some,Option.bind_some,mapO]
      cases yT ((opW sgs w).1,x) with
      | none=>rfl
      | some c=>simp only[Option.map_some,ih];rfl
   ·rw[if_neg hr]
    have:altS w (x::ws)=(yT (opW sgs w)).map fun c=>(c,x::ws):=by
     unfold altS yT
     by_cases h1:(opW sgs w).1=[]∧qw (opW sgs w).2=true
     ·rw[if_pos h1,if_pos h1];rfl
     ·rw[if_neg h1,if_neg h1,if_neg (fun h=>hr h.2.1)]
      split<;>rfl
    rw[this]
    have ih:=altN_tok n (x::ws) (by simp only[List.length_cons];omega) (fun y hy=>hw y (by simp[List.mem_cons.1 hy]))
    cases ht:tokW (x::ws) with
    | none =>
      rw[ht] at ih
      simp only[Option.map_none,Option.bind_none]
      cases yT (opW sgs w) with
      | none=>rfl
      | some c=>simp only[Option.map_some,ih];rfl
    | some l =>
      rw[ht] at ih
      simp only[Option.map_some,Option.bind_some,mapO]
      cases yT (opW sgs w) with
      | none=>rfl
      | some c=>simp only[Option.map_some,ih];rfl
theorem tok_plain:∀(ws:List (List UInt8)) (l:List Tok),(∀w∈ws,w≠[])→tokW ws=some l→(∀a∈l,a.1=[])→ws=l.map (·.2)
 | [],l,_,h,_=>by simp only[tokW] at h;injection h with h;subst h;rfl
 | [w],l,hw,h,hl=>by
   simp only[tokW] at h
   split at h
   ·cases h
   ·injection h with h
    subst h
    have:=hl (opW sgs w) (by simp)
    have hd:=yS sgs w
    rw[this] at hd
    simp only[List.map_cons,List.map_nil,hd,List.length_nil,List.drop_zero]
 | w::x::ws,l,hw,h,hl=>by
   simp only[tokW] at h
   split at h
   ·rename_i hr
    cases e:tokW ws with
    | none=>rw[e] at h;cases h
    | some l' =>
      rw[e] at h
      simp only[Option.map_some,Option.some.injEq] at h
      subst h
      exact absurd (hl ((opW sgs w).1,x) (by simp)) (opW_nil (hw w (by simp)) hr)
   ·cases e:tokW (x::ws) with
    | none=>rw[e] at h;cases h
    | some l' =>
      rw[e] at h
      simp only[Option.map_some,Option.some.injEq] at h
      subst h
      have h1:=hl (opW sgs w) (by simp)
      have hd:=yS sgs w
      rw[h1] at hd
      rw[tok_plain (x::ws) l' (fun y hy=>hw y (by simp[List.mem_cons.1 hy])) e fun a ha=>hl a (by simp[ha])]
      simp only[List.map_cons,hd,List.length_nil,List.drop_zero]
theorem vnum_head {c:UInt8} {l:List UInt8} (h:digB c=false):vnum (c::l)=none:=by
 unfold vnum
 rw[if_neg]
 rintro⟨h1,_⟩
 have:=(whole_ne h1).2
 simp only[digs,List.all_cons,h,Bool.false_and] at this
 cases this
theorem split_head {c d:UInt8} (h:c≠d) (l:List UInt8):∃p ps,zu (c::l) [d]=(c::p)::ps:=by
 obtain⟨p,ps,e⟩:=sp1_ne d l
 rw[splitL_sp1]
 exact⟨p,ps,by simp[sp1,h,e]⟩
theorem rd_sign {c:UInt8} {l:List UInt8} (h1:digB c=false) (h2:c≠45) (h3:c≠46):(zo (c::l)).2=false:=by
 unfold zo
 split
 ·have hcut:∃q,(Lib.cut (c::l) [45]).1=c::q:=by
   unfold Lib.cut
   split
   ·rename_i hi
    have hne:¬(45:UInt8)=c:=fun e=>h2 e.symm
    rcases Lib.index_spec l [45] with⟨e,_⟩ | ⟨i,e,_⟩
    ·simp[Lib.index,hne,e] at hi
    ·have he:Lib.index (c::l) [45]=((i+1:Nat):Int):=by
      have:¬((i:Int)=-1):=by omega
      simp[Lib.index,hne,e,this]
     rw[he]
     exact⟨l.take i,by simp⟩
   ·exact⟨l,rfl⟩
  obtain⟨q,hq⟩:=hcut
  obtain⟨p,ps,e⟩:=split_head h3 q
  have:rdV (c::l)=none:=by
   unfold rdV
   rw[hq,e]
   split
   ·rename_i heq
    injection heq with heq _
    subst heq
    rw[vnum_head h1]
   ·rfl
  rw[this]
 ·split
  ·rfl
  ·obtain⟨p,ps,e⟩:=split_head h3 l
   rw[e]
   have:zZ part0 0 ((c::p)::ps)=none:=by
    simp[zZ,zR,vnum_head h1]
   rw[this]
theorem opW_head:∀(gs:List (List UInt8)) (w:List UInt8),(opW gs w).1≠[]→(opW gs w).1∈gs∧(opW gs w).1 <+: w
 | [],w,h=>by simp[opW] at h
 | g::gs,w,h=>by
   simp only[opW] at h ⊢
   split
   ·rename_i hp;exact⟨by simp,List.isPrefixOf_iff_prefix.1 hp⟩
   ·rename_i hp
    rw[if_neg hp] at h
    have:=opW_head gs w h
    exact⟨by simp[this.1],this.2⟩
theorem sign_rd {w:List UInt8} (h:(opW sgs w).1≠[]):(zo w).2=false:=by
 obtain⟨h1,r,hr⟩:=opW_head sgs w h
 obtain⟨g,hg⟩:∃g,(opW sgs w).1=g:=⟨_,rfl⟩
 rw[hg] at h1 hr
 rw[←hr]
 simp only[sgs,List.mem_cons,List.not_mem_nil,or_false] at h1
 rcases h1 with rfl | rfl | rfl | rfl | rfl | rfl | rfl<;>exact rd_sign (by decide) (by decide) (by decide)
theorem ev_none (a:Tok):yT a=none↔¬(a.1=[]∧qw a.2=true)∧rdOk a.2=none:=by
 unfold yT
 rw[rd_same]
 by_cases h:a.1=[]∧qw a.2=true
 ·simp[h]
 ·rw[if_neg h]
  cases (zo a.2).2<;>simp[h]
theorem kh:∀(l:List Tok) (out:List Str) (ok:Bool),jO out ok l=none↔mapO l=none
 | [],out,ok=>by simp[jO,mapO]
 | a::l,out,ok=>by
   simp only[jO,mapO]
   by_cases h:a.1=[]∧qw a.2=true
   ·have:yT a=some cAll:=by unfold yT;rw[if_pos h]
    rw[if_pos h,this,kh l out ok]
    simp
   ·rw[if_neg h]
    cases hr:rdOk a.2 with
    | none=>rw[(ev_none a).2 ⟨h,hr⟩];simp
    | some p =>
      cases he:yT a with
      | none=>rw[((ev_none a).1 he).2] at hr;cases hr
      | some c=>simp only[kh l];simp
theorem loop_bad:∀(l:List Tok) (out:List Str) (m:List Str×Bool),jO out false l=some m→m.2=false
 | [],out,m,h=>by simp only[jO] at h;injection h with h;rw[←h]
 | a::l,out,m,h=>by
   simp only[jO] at h
   split at h
   ·exact loop_bad l out m h
   ·split at h
    ·cases h
    ·exact loop_bad l _ m (by simpa using h)
theorem strS_all:strS cAll=([qn leastC],true):=by simp[strS,cAll]
theorem low_pos {p:Part} (h:p.ok):posC (lowC p):=⟨h.1.1,h.2.1.1,h.2.2.1.1⟩
theorem raised_pos {p:Part} (h:p.ok) (i:Nat):posC (qB p i):=by
 have h1:=h.1.1
 have h2:=h.2.1.1
 have h3:=h.2.2.1.1
 unfold qB posC
 split<;>simp only<;>omega
theorem high_pos {p:Part} (h:p.ok):posC (yh p):=by
 unfold yh
 split
 ·exact raised_pos h _
 ·exact low_pos h
theorem least_pos:posC leastC:=by simp[posC,leastC]
theorem cut0_pos:posC cut0:=by simp[posC,cut0]
theorem xx {a b:Cut} (ha:posC a) (hb:posC b):posR (btw a b):=by
 unfold btw
 split
 ·intro s hs;cases hs
 ·intro s hs
  rw[List.mem_singleton] at hs
  rw[hs]
  exact⟨ha,hb⟩
theorem from_pos {a:Cut} (ha:posC a):posR [qn a]:=fun s hs=>by
 rw[List.mem_singleton] at hs
 rw[hs]
 exact⟨ha,cut0_pos⟩
theorem strS_pos {c:Cpn} (hc:c.good):posR (strS c).1:=by
 obtain⟨_,hc⟩:=hc
 unfold strS
 by_cases h0:c.sign=qX
 ·rw[if_pos h0];exact from_pos least_pos
 rw[if_neg h0]
 obtain⟨⟨hp,_⟩,ht⟩:=hc.resolve_left h0
 have hl:=low_pos hp
 have hh:=high_pos hp
 split
 ·exact from_pos hl
 split
 ·exact xx least_pos hl
 split
 ·exact from_pos hh
 split
 ·exact xx least_pos hh
 split
 ·rename_i e;exact xx hl (high_pos (ht e).1)
 split
 ·exact xx hl (raised_pos hp _)
 split
 ·exact xx hl (raised_pos hp _)
 ·exact xx hl hh
def sgOk (o:List UInt8):Prop:=o=[]∨o∈sgs
theorem tok_sg:∀(ws:List (List UInt8)) (l:List Tok),tokW ws=some l→∀a∈l,sgOk a.1
 | [],l,h,a,ha=>by simp only[tokW] at h;injection h with h;subst h;cases ha
 | [w],l,h,a,ha=>by
   simp only[tokW] at h
   split at h
   ·cases h
   ·injection h with h
    subst h
    rw[List.mem_singleton] at ha
    rw[ha]
    exact vU sgs w
 | w::x::ws,l,h,a,ha=>by
   simp only[tokW] at h
   split at h
   ·cases e:tokW ws with
    | none=>rw[e] at h;cases h
    | some l' =>
      rw[e] at h
      simp only[Option.map_some,Option.some.injEq] at h
      subst h
      rcases List.mem_cons.1 ha with rfl | ha
      ·exact vU sgs w
      ·exact tok_sg ws l' e a ha
   ·cases e:tokW (x::ws) with
    | none=>rw[e] at h;cases h
    | some l' =>
      rw[e] at h
      simp only[Option.map_some,Option.some.injEq] at h
      subst h
      rcases List.mem_cons.1 ha with rfl | ha
      ·exact vU sgs w
      ·exact tok_sg (x::ws) l' e a ha
theorem yA {s:List UInt8} {p:Part} (h:rdOk s=some p):(zo s).2=true∧(zo s).1=p∧p.ok∧jm p.pre:=by
 rw[rd_same] at h
 split at h
 ·rename_i e
  injection h with h
  have:=vw e
  rw[h] at this
  exact⟨e,h,this⟩
 ·cases h
theorem cOf_good {o:List UInt8} {p:Part} (ho:sgOk o) (hp:p.ok) (hg:jm p.pre):(cOf o p).good:=by
 have:=sgs_sign ho
 exact⟨this.1,.inr ⟨⟨hp,hg⟩,fun e=>absurd e this.2⟩⟩
theorem loop_meet:∀(l:List Tok) (out:List Str) (cs:List Cpn) (m:List Str×Bool),(∀a∈l,sgOk a.1)→CanR none out→goodR out→posR out→mapO l=some cs→jO out true l=some m→meetL cs out=if m.2=true then some m.1 else none
 | [],out,cs,m,_,_,_,_,hc,hm=>by
   simp only[mapO] at hc
   simp only[jO] at hm
   injection hc with hc
   injection hm with hm
   subst hc;subst hm
   rfl
 | a::l,out,cs,m,hs,h1,h2,h3,hc,hm=>by
   simp only[mapO] at hc
   simp only[jO] at hm
   have hs':∀b∈l,sgOk b.1:=fun b hb=>hs b (by simp[hb])
   by_cases h:a.1=[]∧qw a.2=true
   ·have he:yT a=some cAll:=by unfold yT;rw[if_pos h]
    rw[if_pos h] at hm
    rw[he] at hc
    simp only at hc
    cases hl:mapO l with
    | none=>rw[hl] at hc;cases hc
    | some cs' =>
      rw[hl] at hc
      simp only[Option.map_some,Option.some.injEq] at hc
      subst hc
      simp only[meetL,strS_all,if_true]
      rw[meet_all h1 h2 h3]
      exact loop_meet l out cs' m hs' h1 h2 h3 hl hm
   ·rw[if_neg h] at hm
    cases hr:rdOk a.2 with
    | none=>rw[hr] at hm;cases hm
    | some p =>
      rw[hr] at hm
      simp only at hm
      obtain⟨e1,e2,e3,e4⟩:=yA hr
      have he:yT a=some (cOf a.1 p):=by unfold yT;rw[if_neg h,if_pos e1,e2]
      rw[he] at hc
      simp only at hc
      cases hl:mapO l with
      | none=>rw[hl] at hc;cases hc
      | some cs' =>
        rw[hl] at hc
        simp only[Option.map_some,Option.some.injEq] at hc
        subst hc
        have hg:=cOf_good (hs a (by simp)) e3 e4
        simp only[meetL]
        unfold oneX at hm
        cases hk:(strS (cOf a.1 p)).2
        ·rw[hk] at hm
         simp only[Bool.false_eq_true,if_false,Bool.and_false] at hm ⊢
         rw[loop_bad l _ m hm]
         simp
        ·rw[hk] at hm
         simp only[if_true,Bool.and_true] at hm ⊢
         exact loop_meet l _ cs' m hs' (comb_can h2 (strS_good hg).2) (wA and h2 (strS_good hg).2) (combL_pos and h3 (strS_pos hg)) hl hm
theorem mapO_dash:∀(l:List Tok),(∃a∈l,a.2=[45])→mapO l=none
 | [],h=>by obtain⟨a,ha,_⟩:=h;cases ha
 | a::l,h=>by
   simp only[mapO]
   obtain⟨b,hb,e⟩:=h
   rcases List.mem_cons.1 hb with rfl | hb
   ·have:yT b=none:=by
     unfold yT
     rw[e,rd_dash]
     simp[qw]
    rw[this]
   ·rw[mapO_dash l ⟨b,hb,e⟩]
    cases yT a<;>rfl
theorem wds_ne (t:List UInt8):∀w∈qG t,w≠[]:=fun w hw=>by
 unfold qG zL at hw
 have:=(List.mem_filter.1 hw).2
 simpa[emp] using this
theorem dash_some {l:List Tok} {a:List UInt8×List UInt8} (h:dash l=some a):l=[([],a.1),([],[45]),([],a.2)]:=by
 unfold dash at h
 split at h
 ·rename_i x y z
  split at h
  ·rename_i hc
   injection h with h
   obtain⟨h1,h2,h3⟩:=hc
   obtain⟨x1,x2⟩:=x
   obtain⟨z1,z2⟩:=z
   simp only at h2 h3 h
   rw[←h,h1,h2,h3]
  ·cases h
 ·cases h
theorem opW_dash:opW sgs [45]=([],[45]):=by decide
theorem alt_same (t:List UInt8):((altR t).2=false→altX t=none)∧((altR t).2=true→∃m,altX t=some m∧meetL (altR t).1 [qn leastC]=if m.2=true then some m.1 else none):=by
 have hw:=wds_ne t
 have gen:∀ws,qG t=ws→altR t=(match altN ws.length ws with
   | some l=>(l,!l.isEmpty)
   | none=>([],false))→(∀l,tokW ws=some l→dash l=none)→((altR t).2=false→altX t=none)∧((altR t).2=true→∃m,altX t=some m∧meetL (altR t).1 [qn leastC]=if m.2=true then some m.1 else none):=by
  intro ws he ha hd
  rw[he] at hw
  rw[altN_tok ws.length ws (Nat.le_refl _) hw] at ha
  rw[ha]
  unfold altX
  rw[he]
  cases ht:tokW ws with
  | none=>exact⟨fun _=>rfl,fun h=>by cases h⟩
  | some l =>
    have hdl:=hd l ht
    simp only[Option.bind_some]
    by_cases hl:l=[]
    ·subst hl
     simp[mapO]
    ·rw[if_neg hl,hdl]
     simp only
     have hnl:=kh l [qn leastC] true
     cases hm:mapO l with
     | none=>exact⟨fun _=>hnl.2 hm,fun h=>by cases h⟩
     | some cs =>
       have hcs:cs≠[]:=by
        cases l with
        | nil=>exact absurd rfl hl
        | cons a l =>
          simp only[mapO] at hm
          split at hm
          ·cases hm
          ·cases h:mapO l<;>rw[h] at hm<;>simp at hm
           rw[←hm];simp
       have hemp:cs.isEmpty=false:=by cases cs<;>simp_all
       cases hx:jO [qn leastC] true l with
       | none=>rw[hnl.1 hx] at hm;cases hm
       | some m=>exact⟨fun h=>by simp[hemp] at h,fun _=>⟨m,rfl,loop_meet l _ cs m (tok_sg ws l ht) (from_can _) all_good (from_pos least_pos) hm hx⟩⟩
 obtain⟨ws,he⟩:∃ws,qG t=ws:=⟨_,rfl⟩
 by_cases hform:∃a c,ws=[a,[45],c]
 ·obtain⟨a,c,rfl⟩:=hform
  have ha:altR t=([⟨[45],(zo a).1,(zo c).1⟩],(zo a).2&&(zo c).2):=by
   unfold altR
   rw[wds_split,he]
   simp
  rw[he] at hw
  have hda:a≠[]:=hw a (by simp)
  have hdc:c≠[]:=hw c (by simp)
  by_cases hoa:(opW sgs a).1=[]
  ·by_cases hoc:(opW sgs c).1=[]
   ·have e1:opW sgs a=([],a):=by
     have:=yS sgs a
     rw[hoa] at this
     exact Prod.ext hoa (by simpa using this)
    have e2:opW sgs c=([],c):=by
     have:=yS sgs c
     rw[hoc] at this
     exact Prod.ext hoc (by simpa using this)
    have ht:tokW [a,[45],c]=some [([],a),([],[45]),([],c)]:=by
     rw[kf _ _ (by rw[e1];exact hda),kf _ _ (by rw[opW_dash];simp),kf _ _ (by rw[e2];exact hdc),e1,e2,opW_dash]
     rfl
    have hx:altX t=match rdOk a,rdOk c with
      | some p,some q=>some (btwX p q)
      | _,_=>none:=by
     unfold altX
     rw[he,ht]
     simp only[List.cons_ne_nil,if_false,reduceCtorEq]
     rfl
    rw[hx,ha]
    cases hra:rdOk a with
    | none =>
      rw[rd_same] at hra
      have:(zo a).2=false:=by
       cases h:(zo a).2 with
       | false=>rfl
       | true=>rw[h] at hra;simp at hra
      rw[this]
      exact⟨fun _=>rfl,fun h=>by cases h⟩
    | some p =>
      obtain⟨p1,p2,p3,p4⟩:=yA hra
      cases hrc:rdOk c with
      | none =>
        rw[rd_same] at hrc
        have:(zo c).2=false:=by
         cases h:(zo c).2 with
         | false=>rfl
         | true=>rw[h] at hrc;simp at hrc
        rw[this,Bool.and_false]
        exact⟨fun _=>rfl,fun h=>by cases h⟩
      | some q =>
        obtain⟨q1,q2,q3,q4⟩:=yA hrc
        rw[p1,q1,p2,q2]
        refine⟨fun h=>(by cases h),fun _=>⟨btwX p q,rfl,?_⟩⟩
        have hs:strS ⟨[45],p,q⟩=(btw (lowC p) (yh q),kC q):=by simp[strS,qX]
        simp only[meetL,hs]
        unfold btwX
        have hg:goodR (btw (lowC p) (yh q)):=(jE (low_good p4) (high_good q4)).2
        cases hk:kC q
        ·simp
        ·simp only[if_true]
         rw[comb_comm rfl Bool.and_comm all_good hg,meet_all (btw_can _ _) hg (xx (low_pos p3) (high_pos q3))]
   ·have hbad:(altR t).2=false:=by rw[ha,sign_rd hoc,Bool.and_false]
    refine⟨fun _=>?_,fun h=>by rw[hbad] at h;cases h⟩
    have e1:opW sgs a=([],a):=by
     have:=yS sgs a
     rw[hoa] at this
     exact Prod.ext hoa (by simpa using this)
    unfold altX
    rw[he,kf _ _ (by rw[e1];exact hda),kf _ _ (by rw[opW_dash];simp)]
    simp only[tokW]
    split
    ·rfl
    ·rename_i l hl
     cases hc2:(if (opW sgs c).2=[] then none else some [opW sgs c]:Option (List Tok)) with
     | none=>rw[hc2] at hl;cases hl
     | some k =>
       have hk:k=[opW sgs c]:=by
        split at hc2
        ·cases hc2
        ·injection hc2 with hc2;exact hc2.symm
       rw[hc2] at hl
       simp only[Option.map_some,Option.some.injEq,e1,opW_dash] at hl
       subst hl
       subst hk
       simp only[List.cons_ne_nil,if_false,reduceCtorEq]
       have hdn:dash [(([]:List UInt8),a),([],[45]),opW sgs c]=none:=by simp[dash,hoc]
       rw[hdn]
       simp only
       rw[kh]
       exact mapO_dash _ ⟨([],[45]),by simp,rfl⟩
  ·have hbad:(altR t).2=false:=by rw[ha,sign_rd hoa];rfl
   refine⟨fun _=>?_,fun h=>by rw[hbad] at h;cases h⟩
   unfold altX
   rw[he]
   simp only[tokW]
   by_cases hra:(opW sgs a).2=[]
   ·rw[if_pos hra]
    split
    ·rfl
    ·rename_i l hl
     cases hc2:(if (opW sgs c).2=[] then none else some [opW sgs c]:Option (List Tok)) with
     | none=>rw[hc2] at hl;cases hl
     | some k =>
       rw[hc2] at hl
       simp only[Option.map_some,Option.some.injEq] at hl
       subst hl
       simp only[List.cons_ne_nil,if_false,reduceCtorEq]
       have hdn:dash (((opW sgs a).1,[45])::k)=none:=by
        unfold dash
        split
        ·rename_i x y z heq
         injection heq with h1 _
         rw[←h1]
         simp[hoa]
        ·rfl
       rw[hdn]
       simp only
       rw[kh]
       exact mapO_dash _ ⟨((opW sgs a).1,[45]),by simp,rfl⟩
   ·rw[if_neg hra]
    simp only[opW_dash,List.cons_ne_nil,if_false,reduceCtorEq]
    split
    ·rfl
    ·rename_i l hl
     cases hc2:(if (opW sgs c).2=[] then none else some [opW sgs c]:Option (List Tok)) with
     | none=>rw[hc2] at hl;cases hl
     | some k =>
       rw[hc2] at hl
       simp only[Option.map_some,Option.some.injEq] at hl
       subst hl
       simp only[List.cons_ne_nil,if_false,reduceCtorEq]
       have hdn:dash (opW sgs a::([],[45])::k)=none:=by
        unfold dash
        split
        ·rename_i x y z heq
         injection heq with h1 _
         rw[←h1]
         simp[hoa]
        ·rfl
       rw[hdn]
       simp only
       rw[kh]
       exact mapO_dash _ ⟨([],[45]),by simp,rfl⟩
 ·refine gen ws he ?_ ?_
  ·unfold altR
   rw[wds_split,he]
   split
   ·rename_i a b c
    rw[if_neg (fun e=>hform ⟨a,c,by rw[e]⟩)]
    rfl
   ·rfl
  ·intro l ht
   cases hd:dash l with
   | none=>rfl
   | some a =>
     have hl:=dash_some hd
     rw[he] at hw
     have:=tok_plain ws l hw ht (by rw[hl];simp)
     rw[hl] at this
     exact absurd ⟨a.1,a.2,this⟩ hform
theorem joinX_none:∀(l:List (List UInt8)) (out:List Str) (ok:Bool),vB out ok l=none↔rrA l=none
 | [],out,ok=>by simp[vB,rrA]
 | s::l,out,ok=>by
   obtain⟨h1,h2⟩:=alt_same s
   simp only[vB,rrA]
   cases h:(altR s).2
   ·rw[h1 h];simp
   ·obtain⟨m,e,_⟩:=h2 h
    rw[e]
    simp only[joinX_none l,if_true]
    cases rrA l<;>simp
theorem joinX_bad:∀(l:List (List UInt8)) (out:List Str) (m:List Str×Bool),vB out false l=some m→m.2=false
 | [],out,m,h=>by simp only[vB] at h;injection h with h;rw[←h]
 | a::l,out,m,h=>by
   simp only[vB] at h
   split at h
   ·cases h
   ·exact joinX_bad l _ m (by simpa using h)
theorem joinX_same:∀(l:List (List UInt8)) (out:List Str) (ls:List (List Cpn)) (m:List Str×Bool),rrA l=some ls→vB out true l=some m→joinL ls out=if m.2=true then some m.1 else none
 | [],out,ls,m,hc,hm=>by
   simp only[rrA] at hc
   simp only[vB] at hm
   injection hc with hc
   injection hm with hm
   subst hc;subst hm
   rfl
 | s::l,out,ls,m,hc,hm=>by
   obtain⟨h1,h2⟩:=alt_same s
   simp only[rrA] at hc
   simp only[vB] at hm
   cases h:(altR s).2
   ·rw[h] at hc;simp at hc
   ·rw[h] at hc
    simp only[if_true] at hc
    obtain⟨k,e,hk⟩:=h2 h
    rw[e] at hm
    simp only[Bool.true_and] at hm
    cases hl:rrA l with
    | none=>rw[hl] at hc;cases hc
    | some ls' =>
      rw[hl] at hc
      simp only[Option.map_some,Option.some.injEq] at hc
      subst hc
      simp only[joinL,hk]
      cases hk2:k.2
      ·rw[hk2] at hm
       rw[joinX_bad l _ m hm]
       simp
      ·rw[hk2] at hm
       simp only[if_true]
       exact joinX_same l _ ls' m hl hm
theorem rdRange_same (t:List UInt8):jH t=jo t:=by
 unfold jH jo
 split
 ·rfl
 ·cases hr:rrA (zu t [124,124]) with
  | none=>rw[(joinX_none _ [] true).2 hr]
  | some ls =>
    cases hj:vB [] true (zu t [124,124]) with
    | none=>rw[(joinX_none _ _ _).1 hj] at hr;cases hr
    | some m =>
      have:=joinX_same _ _ ls m hr hj
      simp only[this]
      cases hm:m.2
      ·simp
      ·simp
end Go.Proofs.YtpeaooooimfihaaGreatDoor
