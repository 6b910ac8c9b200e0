/-
Plain law: what the reference reads as a range is what the program reads.
The reference's ranges: the range of a comparison, the words of an alternative.
The reference's ranges: the range from a version to another one.
The reference's ranges: two of them in one row.
-/
import Derived.Test.YtdkfdoeijcfbhaaGreatDoorG27
import Derived.Test.YtdkfdoeijcfbhaaGreatDoorG26
import Derived.Test.YtdkfdoeijcfbhaaGreatDoorG20
set_option maxRecDepth 8000
namespace Go.Proofs.YtdkfdoeijcfbhaaGreatDoor
open Go.Proofs.Tryz
open Go.RowKit Go.AM
noncomputable def oneX (o:List UInt8) (p:Part):List Str×Bool:=if (strS (cOf o p)).2=true then ((strS (cOf o p)).1,true) else ([],false)
noncomputable def kY:List Str→Bool→List Tok→Option (List Str×Bool)
 | out,ok,[]=>some (out,ok)
 | out,ok,a::l=>if a.1=[]∧qI a.2=true then kY out ok l else match rdOk a.2 with
   | none=>none
   | some p=>kY (yC and out (oneX a.1 p).1) (ok&&(oneX a.1 p).2) l
def dash:List Tok→Option (List UInt8×List UInt8)
 | [a,b,c]=>if b=([],[45])∧a.1=[]∧c.1=[] then some (a.2,c.2) else none
 | _=>none
noncomputable def btwX (p q:Part):List Str×Bool:=if vR q=true then (btw (lowC p) (y7 q),true) else ([],false)
noncomputable def altX (t:List UInt8):Option (List Str×Bool):=match tokW (we t) with
 | none=>none
 | some l=>if l=[] then none else match dash l with
   | some a=>match rdOk a.1,rdOk a.2 with
     | some p,some q=>some (btwX p q)
     | _,_=>none
   | none=>kY [qC leastC] true l
noncomputable def xV:List Str→Bool→List (List UInt8)→Option (List Str×Bool)
 | out,ok,[]=>some (out,ok)
 | out,ok,s::l=>match altX s with
   | none=>none
   | some m=>xV (yC or out m.1) (ok&&m.2) l
noncomputable def kN (t:List UInt8):List Str×Int:=if (400:Int)<t.length then ([],2) else match xV [] true (zA t [124,124]) with
 | none=>([],10)
 | some o=>if o.2=false then ([],1) else if (100:Int)<o.1.length then ([],2) else (o.1,0)
def jT (a:Tok):Option Cpn:=if a.1=[]∧qI a.2=true then some cAll else if (zr a.2).2=true then some (cOf a.1 (zr a.2).1) else none
def mapO:List Tok→Option (List Cpn)
 | []=>some []
 | a::l=>match jT a with
   | none=>none
   | some c=>(mapO l).map (c::·)
theorem zaL {w:List UInt8} (hw:w≠[]) (h:(opW sgs w).2=[]):(opW sgs w).1≠[]:=fun e=>by
 have:=jS sgs w
 rw[h,e] at this
 exact hw (by simpa using this.symm)
theorem rd_empty:(zr []).2=false:=by decide
theorem rd_dash:zr [45]=(⟨0,0,0,3,[]⟩,false):=by rfl
theorem VN:∀(n:Nat) (ws:List (List UInt8)),ws.length≤n→(∀w∈ws,w≠[])→altN n ws=(tokW ws).bind mapO
 | n,[],_,_=>by cases n<;>rfl
 | 0,w::ws,h,_=>by simp at h
 | n+1,[w],_,hw=>by
   have hw0:=hw w (by simp)
   simp only[altN,tokW]
   by_cases hr:(opW sgs w).2=[]
   ·have ho:=zaL hw0 hr
    have:altS w []=none:=by
     unfold altS
     rw[if_neg (fun h=>ho h.1),if_neg (fun h=>h.2.2 rfl),hr,rd_empty]
     simp
    rw[this,if_pos hr]
    rfl
   ·rw[if_neg hr]
    have:altS w []=(jT (opW sgs w)).map fun c=>(c,[]):=by
     unfold altS jT
     by_cases h1:(opW sgs w).1=[]∧qI (opW sgs w).2=true
     ·rw[if_pos h1,if_pos h1];rfl
     ·rw[if_neg h1,if_neg h1,if_neg (fun h=>h.2.2 rfl)]
      split<;>rfl
    rw[this]
    simp only[Option.bind_some,mapO]
    cases jT (opW sgs w) with
    | none=>rfl
    | some c=>cases n<;>rfl
 | n+1,w::x::ws,hl,hw=>by
   have hw0:=hw w (by simp)
   simp only[List.length_cons] at hl
   simp only[altN,tokW]
   by_cases hr:(opW sgs w).2=[]
   ·have ho:=zaL hw0 hr
    rw[if_pos hr]
    have:altS w (x::ws)=(jT ((opW sgs w).1,x)).map fun c=>(c,ws):=by
     unfold altS jT
     rw[if_neg (fun h=>ho h.1),if_pos ⟨ho,hr,by simp⟩,if_neg (fun h=>ho h.1)]
     simp only
     split<;>rfl
    rw[this]
    have ih:=VN n ws (by omega) (fun y hy=>hw y (by simp[hy]))
    cases ht:tokW ws with
    | none =>
      rw[ht] at ih
      simp only[Option.map_none,Option.bind_none]
      cases jT ((opW sgs w).1,x) with
      | none=>rfl
      | some c=>simp only[Option.map_some,ih];rfl
    | some l =>
      rw[ht] at ih
      simp only[Option.map_some,Option.bind_some,mapO]
      cases jT ((opW sgs w).1,x) with
      | none=>rfl
      | some c=>simp only[Option.map_some,ih];rfl
   ·rw[if_neg hr]
    have:altS w (x::ws)=(jT (opW sgs w)).map fun c=>(c,x::ws):=by
     unfold altS jT
     by_cases h1:(opW sgs w).1=[]∧qI (opW sgs w).2=true
     ·rw[if_pos h1,if_pos h1];rfl
     ·rw[if_neg h1,if_neg h1,if_neg (fun h=>hr h.2.1)]
      split<;>rfl
    rw[this]
    have ih:=VN n (x::ws) (by simp only[List.length_cons];omega) (fun y hy=>hw y (by simp[List.mem_cons.1 hy]))
    cases ht:tokW (x::ws) with
    | none =>
      rw[ht] at ih
      simp only[Option.map_none,Option.bind_none]
      cases jT (opW sgs w) with
      | none=>rfl
      | some c=>simp only[Option.map_some,ih];rfl
    | some l =>
      rw[ht] at ih
      simp only[Option.map_some,Option.bind_some,mapO]
      cases jT (opW sgs w) with
      | none=>rfl
      | some c=>simp only[Option.map_some,ih];rfl
theorem zad:∀(ws:List (List UInt8)) (l:List Tok),(∀w∈ws,w≠[])→tokW ws=some l→(∀a∈l,a.1=[])→ws=l.map (·.2)
 | [],l,_,h,_=>by simp only[tokW] at h;injection h with h;subst h;rfl
 | [w],l,hw,h,hl=>by
   simp only[tokW] at h
   split at h
   ·cases h
   ·injection h with h
    subst h
    have:=hl (opW sgs w) (by simp)
    have hd:=jS sgs w
    rw[this] at hd
    simp only[List.map_cons,List.map_nil,hd,List.length_nil,List.drop_zero]
 | w::x::ws,l,hw,h,hl=>by
   simp only[tokW] at h
   split at h
   ·rename_i hr
    cases e:tokW ws with
    | none=>rw[e] at h;cases h
    | some l' =>
      rw[e] at h
      simp only[Option.map_some,Option.some.injEq] at h
      subst h
      exact absurd (hl ((opW sgs w).1,x) (by simp)) (zaL (hw w (by simp)) hr)
   ·cases e:tokW (x::ws) with
    | none=>rw[e] at h;cases h
    | some l' =>
      rw[e] at h
      simp only[Option.map_some,Option.some.injEq] at h
      subst h
      have h1:=hl (opW sgs w) (by simp)
      have hd:=jS sgs w
      rw[h1] at hd
      rw[zad (x::ws) l' (fun y hy=>hw y (by simp[List.mem_cons.1 hy])) e fun a ha=>hl a (by simp[ha])]
      simp only[List.map_cons,hd,List.length_nil,List.drop_zero]
theorem zae {c:UInt8} {l:List UInt8} (h:digB c=false):vnum (c::l)=none:=by
 unfold vnum
 rw[if_neg]
 rintro⟨h1,_⟩
 have:=(Vl h1).2
 simp only[digs,List.all_cons,h,Bool.false_and] at this
 cases this
theorem KU {c d:UInt8} (h:c≠d) (l:List UInt8):∃p ps,zA (c::l) [d]=(c::p)::ps:=by
 obtain⟨p,ps,e⟩:=zdY d l
 rw[WG]
 exact⟨p,ps,by simp[sp1,h,e]⟩
theorem rd_sign {c:UInt8} {l:List UInt8} (h1:digB c=false) (h2:c≠45) (h3:c≠46):(zr (c::l)).2=false:=by
 unfold zr
 split
 ·have hcut:∃q,(Lib.cut (c::l) [45]).1=c::q:=by
   unfold Lib.cut
   split
   ·rename_i hi
    have hne:¬(45:UInt8)=c:=fun e=>h2 e.symm
    rcases Lib.index_spec l [45] with⟨e,_⟩ | ⟨i,e,_⟩
    ·simp[Lib.index,hne,e] at hi
    ·have he:Lib.index (c::l) [45]=((i+1:Nat):Int):=by
      have:¬((i:Int)=-1):=by omega
      simp[Lib.index,hne,e,this]
     rw[he]
     exact⟨l.take i,by simp⟩
   ·exact⟨l,rfl⟩
  obtain⟨q,hq⟩:=hcut
  obtain⟨p,ps,e⟩:=KU h3 q
  have:rdV (c::l)=none:=by
   unfold rdV
   rw[hq,e]
   split
   ·rename_i heq
    injection heq with heq _
    subst heq
    rw[zae h1]
   ·rfl
  rw[this]
 ·split
  ·rfl
  ·obtain⟨p,ps,e⟩:=KU h3 l
   rw[e]
   have:qn part0 0 ((c::p)::ps)=none:=by
    simp[qn,zY,zae h1]
   rw[this]
theorem VO:∀(gs:List (List UInt8)) (w:List UInt8),(opW gs w).1≠[]→(opW gs w).1∈gs∧(opW gs w).1 <+: w
 | [],w,h=>by simp[opW] at h
 | g::gs,w,h=>by
   simp only[opW] at h ⊢
   split
   ·rename_i hp;exact⟨by simp,List.isPrefixOf_iff_prefix.1 hp⟩
   ·rename_i hp
    rw[if_neg hp] at h
    have:=VO gs w h
    exact⟨by simp[this.1],this.2⟩
theorem zdo {w:List UInt8} (h:(opW sgs w).1≠[]):(zr w).2=false:=by
 obtain⟨h1,r,hr⟩:=VO sgs w h
 obtain⟨g,hg⟩:∃g,(opW sgs w).1=g:=⟨_,rfl⟩
 rw[hg] at h1 hr
 rw[←hr]
 simp only[sgs,List.mem_cons,List.not_mem_nil,or_false] at h1
 rcases h1 with rfl | rfl | rfl | rfl | rfl | rfl | rfl<;>exact rd_sign (by decide) (by decide) (by decide)
theorem zdp (a:Tok):jT a=none↔¬(a.1=[]∧qI a.2=true)∧rdOk a.2=none:=by
 unfold jT
 rw[VK]
 by_cases h:a.1=[]∧qI a.2=true
 ·simp[h]
 ·rw[if_neg h]
  cases (zr a.2).2<;>simp[h]
theorem vD:∀(l:List Tok) (out:List Str) (ok:Bool),kY out ok l=none↔mapO l=none
 | [],out,ok=>by simp[kY,mapO]
 | a::l,out,ok=>by
   simp only[kY,mapO]
   by_cases h:a.1=[]∧qI a.2=true
   ·have:jT a=some cAll:=by unfold jT;rw[if_pos h]
    rw[if_pos h,this,vD l out ok]
    simp
   ·rw[if_neg h]
    cases hr:rdOk a.2 with
    | none=>rw[(zdp a).2 ⟨h,hr⟩];simp
    | some p =>
      cases he:jT a with
      | none=>rw[((zdp a).1 he).2] at hr;cases hr
      | some c=>simp only[vD l];simp
theorem VP:∀(l:List Tok) (out:List Str) (m:List Str×Bool),kY out false l=some m→m.2=false
 | [],out,m,h=>by simp only[kY] at h;injection h with h;rw[←h]
 | a::l,out,m,h=>by
   simp only[kY] at h
   split at h
   ·exact VP l out m h
   ·split at h
    ·cases h
    ·exact VP l _ m (by simpa using h)
theorem strS_all:strS cAll=([qC leastC],true):=by simp[strS,cAll]
theorem zaM {p:Part} (h:p.ok):posC (lowC p):=⟨h.1.1,h.2.1.1,h.2.2.1.1⟩
theorem WH {p:Part} (h:p.ok) (i:Nat):posC (qP p i):=by
 have h1:=h.1.1
 have h2:=h.2.1.1
 have h3:=h.2.2.1.1
 unfold qP posC
 split<;>simp only<;>omega
theorem VQ {p:Part} (h:p.ok):posC (y7 p):=by
 unfold y7
 split
 ·exact WH h _
 ·exact zaM h
theorem Q5:posC leastC:=by simp[posC,leastC]
theorem cut0_pos:posC cut0:=by simp[posC,cut0]
theorem Qe {a b:Cut} (ha:posC a) (hb:posC b):posR (btw a b):=by
 unfold btw
 split
 ·intro s hs;cases hs
 ·intro s hs
  rw[List.mem_singleton] at hs
  rw[hs]
  exact⟨ha,hb⟩
theorem Yz {a:Cut} (ha:posC a):posR [qC a]:=fun s hs=>by
 rw[List.mem_singleton] at hs
 rw[hs]
 exact⟨ha,cut0_pos⟩
theorem strS_pos {c:Cpn} (hc:c.good):posR (strS c).1:=by
 obtain⟨_,hc⟩:=hc
 unfold strS
 by_cases h0:c.sign=wG
 ·rw[if_pos h0];exact Yz Q5
 rw[if_neg h0]
 obtain⟨⟨hp,_⟩,ht⟩:=hc.resolve_left h0
 have hl:=zaM hp
 have hh:=VQ hp
 split
 ·exact Yz hl
 split
 ·exact Qe Q5 hl
 split
 ·exact Yz hh
 split
 ·exact Qe Q5 hh
 split
 ·rename_i e;exact Qe hl (VQ (ht e).1)
 split
 ·exact Qe hl (WH hp _)
 split
 ·exact Qe hl (WH hp _)
 ·exact Qe hl hh
def sgOk (o:List UInt8):Prop:=o=[]∨o∈sgs
theorem zaf:∀(ws:List (List UInt8)) (l:List Tok),tokW ws=some l→∀a∈l,sgOk a.1
 | [],l,h,a,ha=>by simp only[tokW] at h;injection h with h;subst h;cases ha
 | [w],l,h,a,ha=>by
   simp only[tokW] at h
   split at h
   ·cases h
   ·injection h with h
    subst h
    rw[List.mem_singleton] at ha
    rw[ha]
    exact Zm sgs w
 | w::x::ws,l,h,a,ha=>by
   simp only[tokW] at h
   split at h
   ·cases e:tokW ws with
    | none=>rw[e] at h;cases h
    | some l' =>
      rw[e] at h
      simp only[Option.map_some,Option.some.injEq] at h
      subst h
      rcases List.mem_cons.1 ha with rfl | ha
      ·exact Zm sgs w
      ·exact zaf ws l' e a ha
   ·cases e:tokW (x::ws) with
    | none=>rw[e] at h;cases h
    | some l' =>
      rw[e] at h
      simp only[Option.map_some,Option.some.injEq] at h
      subst h
      rcases List.mem_cons.1 ha with rfl | ha
      ·exact Zm sgs w
      ·exact zaf (x::ws) l' e a ha
theorem jz {s:List UInt8} {p:Part} (h:rdOk s=some p):(zr s).2=true∧(zr s).1=p∧p.ok∧kq p.pre:=by
 rw[VK] at h
 split at h
 ·rename_i e
  injection h with h
  have:=xJ e
  rw[h] at this
  exact⟨e,h,this⟩
 ·cases h
theorem zb9 {o:List UInt8} {p:Part} (ho:sgOk o) (hp:p.ok) (hg:kq p.pre):(cOf o p).good:=by
 have:=zbt ho
 exact⟨this.1,.inr ⟨⟨hp,hg⟩,fun e=>absurd e this.2⟩⟩
theorem JR:∀(l:List Tok) (out:List Str) (cs:List Cpn) (m:List Str×Bool),(∀a∈l,sgOk a.1)→CanR none out→goodR out→posR out→mapO l=some cs→kY out true l=some m→Yk cs out=if m.2=true then some m.1 else none
 | [],out,cs,m,_,_,_,_,hc,hm=>by
   simp only[mapO] at hc
   simp only[kY] at hm
   injection hc with hc
   injection hm with hm
   subst hc;subst hm
   rfl
 | a::l,out,cs,m,hs,h1,h2,h3,hc,hm=>by
   simp only[mapO] at hc
   simp only[kY] at hm
   have hs':∀b∈l,sgOk b.1:=fun b hb=>hs b (by simp[hb])
   by_cases h:a.1=[]∧qI a.2=true
   ·have he:jT a=some cAll:=by unfold jT;rw[if_pos h]
    rw[if_pos h] at hm
    rw[he] at hc
    simp only at hc
    cases hl:mapO l with
    | none=>rw[hl] at hc;cases hc
    | some cs' =>
      rw[hl] at hc
      simp only[Option.map_some,Option.some.injEq] at hc
      subst hc
      simp only[Yk,strS_all,if_true]
      rw[zb8 h1 h2 h3]
      exact JR l out cs' m hs' h1 h2 h3 hl hm
   ·rw[if_neg h] at hm
    cases hr:rdOk a.2 with
    | none=>rw[hr] at hm;cases hm
    | some p =>
      rw[hr] at hm
      simp only at hm
      obtain⟨e1,e2,e3,e4⟩:=jz hr
      have he:jT a=some (cOf a.1 p):=by unfold jT;rw[if_neg h,if_pos e1,e2]
      rw[he] at hc
      simp only at hc
      cases hl:mapO l with
      | none=>rw[hl] at hc;cases hc
      | some cs' =>
        rw[hl] at hc
        simp only[Option.map_some,Option.some.injEq] at hc
        subst hc
        have hg:=zb9 (hs a (by simp)) e3 e4
        simp only[Yk]
        unfold oneX at hm
        cases hk:(strS (cOf a.1 p)).2
        ·rw[hk] at hm
         simp only[Bool.false_eq_true,if_false,Bool.and_false] at hm ⊢
         rw[VP l _ m hm]
         simp
        ·rw[hk] at hm
         simp only[if_true,Bool.and_true] at hm ⊢
         exact JR l _ cs' m hs' (Yy h2 (QG hg).2) (ym and h2 (QG hg).2) (combL_pos and h3 (strS_pos hg)) hl hm
theorem Q6:∀(l:List Tok),(∃a∈l,a.2=[45])→mapO l=none
 | [],h=>by obtain⟨a,ha,_⟩:=h;cases ha
 | a::l,h=>by
   simp only[mapO]
   obtain⟨b,hb,e⟩:=h
   rcases List.mem_cons.1 hb with rfl | hb
   ·have:jT b=none:=by
     unfold jT
     rw[e,rd_dash]
     simp[qI]
    rw[this]
   ·rw[Q6 l ⟨b,hb,e⟩]
    cases jT a<;>rfl
theorem wds_ne (t:List UInt8):∀w∈we t,w≠[]:=fun w hw=>by
 unfold we zW at hw
 have:=(List.mem_filter.1 hw).2
 simpa[emp] using this
theorem dash_some {l:List Tok} {a:List UInt8×List UInt8} (h:dash l=some a):l=[([],a.1),([],[45]),([],a.2)]:=by
 unfold dash at h
 split at h
 ·rename_i x y z
  split at h
  ·rename_i hc
   injection h with h
   obtain⟨h1,h2,h3⟩:=hc
   obtain⟨x1,x2⟩:=x
   obtain⟨z1,z2⟩:=z
   simp only at h2 h3 h
   rw[←h,h1,h2,h3]
  ·cases h
 ·cases h
theorem Q7:opW sgs [45]=([],[45]):=by decide
theorem zca (t:List UInt8):((altR t).2=false→altX t=none)∧((altR t).2=true→∃m,altX t=some m∧Yk (altR t).1 [qC leastC]=if m.2=true then some m.1 else none):=by
 have hw:=wds_ne t
 have gen:∀ws,we t=ws→altR t=(match altN ws.length ws with
   | some l=>(l,!l.isEmpty)
   | none=>([],false))→(∀l,tokW ws=some l→dash l=none)→((altR t).2=false→altX t=none)∧((altR t).2=true→∃m,altX t=some m∧Yk (altR t).1 [qC leastC]=if m.2=true then some m.1 else none):=by
  intro ws he ha hd
  rw[he] at hw
  rw[VN ws.length ws (Nat.le_refl _) hw] at ha
  rw[ha]
  unfold altX
  rw[he]
  cases ht:tokW ws with
  | none=>exact⟨fun _=>rfl,fun h=>by cases h⟩
  | some l =>
    have hdl:=hd l ht
    simp only[Option.bind_some]
    by_cases hl:l=[]
    ·subst hl
     simp[mapO]
    ·rw[if_neg hl,hdl]
     simp only
     have hnl:=vD l [qC leastC] true
     cases hm:mapO l with
     | none=>exact⟨fun _=>hnl.2 hm,fun h=>by cases h⟩
     | some cs =>
       have hcs:cs≠[]:=by
        cases l with
        | nil=>exact absurd rfl hl
        | cons a l =>
          simp only[mapO] at hm
          split at hm
          ·cases hm
          ·cases h:mapO l<;>rw[h] at hm<;>simp at hm
           rw[←hm];simp
       have hemp:cs.isEmpty=false:=by cases cs<;>simp_all
       cases hx:kY [qC leastC] true l with
       | none=>rw[hnl.1 hx] at hm;cases hm
       | some m=>exact⟨fun h=>by simp[hemp] at h,fun _=>⟨m,rfl,JR l _ cs m (zaf ws l ht) (from_can _) Q4 (Yz Q5) hm hx⟩⟩
 obtain⟨ws,he⟩:∃ws,we t=ws:=⟨_,rfl⟩
 by_cases hform:∃a c,ws=[a,[45],c]
 ·obtain⟨a,c,rfl⟩:=hform
  have ha:altR t=([⟨[45],(zr a).1,(zr c).1⟩],(zr a).2&&(zr c).2):=by
   unfold altR
   rw[JP,he]
   simp
  rw[he] at hw
  have hda:a≠[]:=hw a (by simp)
  have hdc:c≠[]:=hw c (by simp)
  by_cases hoa:(opW sgs a).1=[]
  ·by_cases hoc:(opW sgs c).1=[]
   ·have e1:opW sgs a=([],a):=by
     have:=jS sgs a
     rw[hoa] at this
     exact Prod.ext hoa (by simpa using this)
    have e2:opW sgs c=([],c):=by
     have:=jS sgs c
     rw[hoc] at this
     exact Prod.ext hoc (by simpa using this)
    have ht:tokW [a,[45],c]=some [([],a),([],[45]),([],c)]:=by
     rw[vB _ _ (by rw[e1];exact hda),vB _ _ (by rw[Q7];simp),vB _ _ (by rw[e2];exact hdc),e1,e2,Q7]
     rfl
    have hx:altX t=match rdOk a,rdOk c with
      | some p,some q=>some (btwX p q)
      | _,_=>none:=by
     unfold altX
     rw[he,ht]
     simp only[List.cons_ne_nil,if_false,reduceCtorEq]
     rfl
    rw[hx,ha]
    cases hra:rdOk a with
    | none =>
      rw[VK] at hra
      have:(zr a).2=false:=by
       cases h:(zr a).2 with
       | false=>rfl
       | true=>rw[h] at hra;simp at hra
      rw[this]
      exact⟨fun _=>rfl,fun h=>by cases h⟩
    | some p =>
      obtain⟨p1,p2,p3,p4⟩:=jz hra
      cases hrc:rdOk c with
      | none =>
        rw[VK] at hrc
        have:(zr c).2=false:=by
         cases h:(zr c).2 with
         | false=>rfl
         | true=>rw[h] at hrc;simp at hrc
        rw[this,Bool.and_false]
        exact⟨fun _=>rfl,fun h=>by cases h⟩
      | some q =>
        obtain⟨q1,q2,q3,q4⟩:=jz hrc
        rw[p1,q1,p2,q2]
        refine⟨fun h=>(by cases h),fun _=>⟨btwX p q,rfl,?_⟩⟩
        have hs:strS ⟨[45],p,q⟩=(btw (lowC p) (y7 q),vR q):=by simp[strS,wG]
        simp only[Yk,hs]
        unfold btwX
        have hg:goodR (btw (lowC p) (y7 q)):=(kK (Vx p4) (QF q4)).2
        cases hk:vR q
        ·simp
        ·simp only[if_true]
         rw[comb_comm rfl Bool.and_comm Q4 hg,zb8 (btw_can _ _) hg (Qe (zaM p3) (VQ q3))]
   ·have hbad:(altR t).2=false:=by rw[ha,zdo hoc,Bool.and_false]
    refine⟨fun _=>?_,fun h=>by rw[hbad] at h;cases h⟩
    have e1:opW sgs a=([],a):=by
     have:=jS sgs a
     rw[hoa] at this
     exact Prod.ext hoa (by simpa using this)
    unfold altX
    rw[he,vB _ _ (by rw[e1];exact hda),vB _ _ (by rw[Q7];simp)]
    simp only[tokW]
    split
    ·rfl
    ·rename_i l hl
     cases hc2:(if (opW sgs c).2=[] then none else some [opW sgs c]:Option (List Tok)) with
     | none=>rw[hc2] at hl;cases hl
     | some k =>
       have hk:k=[opW sgs c]:=by
        split at hc2
        ·cases hc2
        ·injection hc2 with hc2;exact hc2.symm
       rw[hc2] at hl
       simp only[Option.map_some,Option.some.injEq,e1,Q7] at hl
       subst hl
       subst hk
       simp only[List.cons_ne_nil,if_false,reduceCtorEq]
       have hdn:dash [(([]:List UInt8),a),([],[45]),opW sgs c]=none:=by simp[dash,hoc]
       rw[hdn]
       simp only
       rw[vD]
       exact Q6 _ ⟨([],[45]),by simp,rfl⟩
  ·have hbad:(altR t).2=false:=by rw[ha,zdo hoa];rfl
   refine⟨fun _=>?_,fun h=>by rw[hbad] at h;cases h⟩
   unfold altX
   rw[he]
   simp only[tokW]
   by_cases hra:(opW sgs a).2=[]
   ·rw[if_pos hra]
    split
    ·rfl
    ·rename_i l hl
     cases hc2:(if (opW sgs c).2=[] then none else some [opW sgs c]:Option (List Tok)) with
     | none=>rw[hc2] at hl;cases hl
     | some k =>
       rw[hc2] at hl
       simp only[Option.map_some,Option.some.injEq] at hl
       subst hl
       simp only[List.cons_ne_nil,if_false,reduceCtorEq]
       have hdn:dash (((opW sgs a).1,[45])::k)=none:=by
        unfold dash
        split
        ·rename_i x y z heq
         injection heq with h1 _
         rw[←h1]
         simp[hoa]
        ·rfl
       rw[hdn]
       simp only
       rw[vD]
       exact Q6 _ ⟨((opW sgs a).1,[45]),by simp,rfl⟩
   ·rw[if_neg hra]
    simp only[Q7,List.cons_ne_nil,if_false,reduceCtorEq]
    split
    ·rfl
    ·rename_i l hl
     cases hc2:(if (opW sgs c).2=[] then none else some [opW sgs c]:Option (List Tok)) with
     | none=>rw[hc2] at hl;cases hl
     | some k =>
       rw[hc2] at hl
       simp only[Option.map_some,Option.some.injEq] at hl
       subst hl
       simp only[List.cons_ne_nil,if_false,reduceCtorEq]
       have hdn:dash (opW sgs a::([],[45])::k)=none:=by
        unfold dash
        split
        ·rename_i x y z heq
         injection heq with h1 _
         rw[←h1]
         simp[hoa]
        ·rfl
       rw[hdn]
       simp only
       rw[vD]
       exact Q6 _ ⟨([],[45]),by simp,rfl⟩
 ·refine gen ws he ?_ ?_
  ·unfold altR
   rw[JP,he]
   split
   ·rename_i a b c
    rw[if_neg (fun e=>hform ⟨a,c,by rw[e]⟩)]
    rfl
   ·rfl
  ·intro l ht
   cases hd:dash l with
   | none=>rfl
   | some a =>
     have hl:=dash_some hd
     rw[he] at hw
     have:=zad ws l hw ht (by rw[hl];simp)
     rw[hl] at this
     exact absurd ⟨a.1,a.2,this⟩ hform
theorem WI:∀(l:List (List UInt8)) (out:List Str) (ok:Bool),xV out ok l=none↔rrA l=none
 | [],out,ok=>by simp[xV,rrA]
 | s::l,out,ok=>by
   obtain⟨h1,h2⟩:=zca s
   simp only[xV,rrA]
   cases h:(altR s).2
   ·rw[h1 h];simp
   ·obtain⟨m,e,_⟩:=h2 h
    rw[e]
    simp only[WI l,if_true]
    cases rrA l<;>simp
theorem zag:∀(l:List (List UInt8)) (out:List Str) (m:List Str×Bool),xV out false l=some m→m.2=false
 | [],out,m,h=>by simp only[xV] at h;injection h with h;rw[←h]
 | a::l,out,m,h=>by
   simp only[xV] at h
   split at h
   ·cases h
   ·exact zag l _ m (by simpa using h)
theorem KV:∀(l:List (List UInt8)) (out:List Str) (ls:List (List Cpn)) (m:List Str×Bool),rrA l=some ls→xV out true l=some m→Vy ls out=if m.2=true then some m.1 else none
 | [],out,ls,m,hc,hm=>by
   simp only[rrA] at hc
   simp only[xV] at hm
   injection hc with hc
   injection hm with hm
   subst hc;subst hm
   rfl
 | s::l,out,ls,m,hc,hm=>by
   obtain⟨h1,h2⟩:=zca s
   simp only[rrA] at hc
   simp only[xV] at hm
   cases h:(altR s).2
   ·rw[h] at hc;simp at hc
   ·rw[h] at hc
    simp only[if_true] at hc
    obtain⟨k,e,hk⟩:=h2 h
    rw[e] at hm
    simp only[Bool.true_and] at hm
    cases hl:rrA l with
    | none=>rw[hl] at hc;cases hc
    | some ls' =>
      rw[hl] at hc
      simp only[Option.map_some,Option.some.injEq] at hc
      subst hc
      simp only[Vy,hk]
      cases hk2:k.2
      ·rw[hk2] at hm
       rw[zag l _ m hm]
       simp
      ·rw[hk2] at hm
       simp only[if_true]
       exact KV l _ ls' m hl hm
theorem rdRange_same (t:List UInt8):kN t=ku t:=by
 unfold kN ku
 split
 ·rfl
 ·cases hr:rrA (zA t [124,124]) with
  | none=>rw[(WI _ [] true).2 hr]
  | some ls =>
    cases hj:xV [] true (zA t [124,124]) with
    | none=>rw[(WI _ _ _).1 hj] at hr;cases hr
    | some m =>
      have:=KV _ _ ls m hr hj
      simp only[this]
      cases hm:m.2
      ·simp
      ·simp
noncomputable def ZF (o:List UInt8) (v:Ver) (m:Int):PV:=.tup [.sl 11 (encR (oneX o (v.part m)).1),int (if (oneX o (v.part m)).2=true then 0 else 1)]
noncomputable def FOVI:List PV→Option PV:=zH (α:=List UInt8×Ver×Int) (fun a=>[str a.1,.agg a.2.1.enc,int a.2.2]) (fun a=>sgOk a.1∧a.2.1.ok∧1≤a.2.2∧a.2.2≤3) (fun a=>ZF a.1 a.2.1 a.2.2)
theorem FOVI_call (o:List UInt8) (v:Ver) (m:Int) (hp:Hp) (nx:Nat) (ho:sgOk o) (hv:v.ok) (hm:1≤m∧m≤3):zJ [.a,.g vpat] FOVI [str o,.agg v.enc,int m] hp nx=some (ZF o v m,hp,nx) :=
 yi (show zj hp [str o,.agg v.enc,int m]=some ([str o,.agg v.enc,int m],hp) by simp[Ver.enc]) (by
  show FOVI [str o,(Sh.g vpat).fix (.agg v.enc),int m]=_
  rw[ZA]
  exact zm (enc:=fun a:List UInt8×Ver×Int=>[str a.1,PV.agg a.2.1.enc,int a.2.2]) (a:=(o,v,m)) (fun x y e=>by
   obtain⟨x1,x2,x3⟩:=x;obtain⟨y1,y2,y3⟩:=y
   simp only[List.cons.injEq,and_true] at e
   obtain⟨e1,e2,e3⟩:=e
   injection e2 with e2
   rw[zV e1,Zf e2,zB e3]) ⟨ho,hv,hm⟩) (.inr (by simp[Ver.enc]))
abbrev qst:List Nat:=[208,268,272,273]
noncomputable abbrev Crst:Ctx:=zF prog [(267,zJ [.g vpat] (FVI kX fun m=>1≤m∧m≤3)),(208,zJ [] (ZZ KA)),(268,zJ [.g cpat,.g cpat] (FCC btwP)),(272,zJ [.g vpat] (FVI yX fun i=>0≤i∧i<3)),(273,zJ [.g vpat] (FVI yY fun m=>1≤m∧m≤3))]
theorem goodrst:AM.Good Crst (fun g=>qst.contains g):=zk mixed ⟨Ye,by simp,Yd,fun _=>qF _ _,JO,fun _=>qF _ _,Q0,fun _=>qF _ _,rcaret_sound,fun _=>qF _ _,trivial⟩
theorem Ver.ok.small {v:Ver} (h:v.ok):yx v.pre:=h.2.2.2
set_option maxHeartbeats 2000000 in
theorem rstretch_eval (o:List UInt8) (v:Ver) (m:Int) (ho:sgOk o) (hv:v.ok) (hm:1≤m∧m≤3):∃r0,zi Crst f211 [str o,.agg v.enc,int m]=some r0∧Stands r0 (ZF o v m):=by
 refine qv (sh:=.s 11 spat) rfl ?_
 have hsm:=hv.small
 have hup:=fun hp nx=>QX kX (fun m=>1≤m∧m≤3) v m (.agg v.enc) hp nx hv hm (ZA v) (QY v hp) (QZ v)
 have hct:=fun hp nx=>QX yY (fun m=>1≤m∧m≤3) v m (.agg v.enc) hp nx hv hm (ZA v) (QY v hp) (QZ v)
 have hra:=fun (i:Int) (hi:0≤i∧i<3) hp nx=>QX yX (fun i=>0≤i∧i<3) v i (.agg v.enc) hp nx hv hi (ZA v) (QY v hp) (QZ v)
 have hle:∀(hp:Hp) (nx:Nat),zJ [] (ZZ KA) [] hp nx=some (.agg [int leastC.v.a,int leastC.v.b,int leastC.v.c,.sl 1 (encT leastC.v.pre),boo leastC.after],hp,nx):=fun hp nx=>jW _ hp nx
 have hlo:lowC (v.part m)=⟨v,false⟩:=rfl
 have hsp:yx (v.part m).pre:=hsm
 have hb1:=fun hp nx=>kT leastC (lowC (v.part m)) hp nx zbi (ju hsp)
 have hb2:=fun hp nx=>kT leastC (y7 (v.part m)) hp nx zbi (jX hsp)
 have hb3:=fun hp nx=>kT (lowC (v.part m)) (y7 (v.part m)) hp nx (ju hsp) (jX hsp)
 have hb4:=fun i hp nx=>kT (lowC (v.part m)) (qP (v.part m) i) hp nx (ju hsp) (xC _ i)
 have hrp:=fun i=>JN v 3 m i
 simp only[btwP,hlo,Ver.enc,Cut.enc,kX,QD,yY,yX,yd,(hrp _).1,(hrp _).2] at hup hct hra hb1 hb2 hb3 hb4
 have hw:IntKind.i64.wrap (m - 1)=m - 1:=zc (by omega) (by omega)
 have hhas:(v.part m).has=m:=rfl
 have nall:∀o':List UInt8,o'=o→o'≠wG:=fun o' e=>by
  subst e
  rcases ho with rfl | ho
  ·decide
  ·intro e;rw[e] at ho;revert ho;decide
 have n45:o≠[45]:=by
  rcases ho with rfl | ho
  ·decide
  ·intro e;rw[e] at ho;revert ho;decide
 have n0:=nall o rfl
 have one:∀(X:List Str) (b:Bool),strS (cOf o (v.part m))=(X,b)→oneX o (v.part m)=if b=true then (X,true) else ([],false):=fun X b h=>by unfold oneX;rw[h]
 by_cases s1:o=[62,61]
 ·subst s1
  have hval:=one [qC (lowC (v.part m))] true (by simp[strS,cOf,wG])
  simp at hval
  simp[Ver.enc,Cut.enc,hup,zt,zM,zf,zn,zg,zE,ZF,hval,hlo,encR,qC,Str.enc,cut0,f211]
 have e1:(o==[62,61])=false:=by simpa using s1
 by_cases s2:o=[60]
 ·subst s2
  have hval:=one (btw leastC (lowC (v.part m))) true (by simp[strS,cOf,wG])
  simp at hval
  simp[Ver.enc,Cut.enc,hup,hle,hb1,e1,zt,zM,zf,zn,zg,zE,ZF,hval,hlo,encR,Str.enc,f211]
 have e2:(o==[60])=false:=by simpa using s2
 by_cases s3:o=[62]
 ·subst s3
  have hval:=one [qC (y7 (v.part m))] (vR (v.part m)) (by simp[strS,cOf,wG])
  cases hB:vR (v.part m)
  ·rw[hB] at hval hup
   simp at hval
   simp[Ver.enc,Cut.enc,hup,e1,e2,zt,zM,zf,zn,zg,zE,ZF,hval,encR,f211]
  ·rw[hB] at hval hup
   simp at hval
   simp[Ver.enc,Cut.enc,hup,e1,e2,zt,zM,zf,zn,zg,zE,ZF,hval,encR,qC,Str.enc,cut0,f211]
 have e3:(o==[62])=false:=by simpa using s3
 by_cases s4:o=[60,61]
 ·subst s4
  have hval:=one (btw leastC (y7 (v.part m))) (vR (v.part m)) (by simp[strS,cOf,wG])
  cases hB:vR (v.part m)
  ·rw[hB] at hval hup
   simp at hval
   simp[Ver.enc,Cut.enc,hup,hle,hb2,e1,e2,e3,zt,zM,zE,ZF,hval,encR,f211]
  ·rw[hB] at hval hup
   simp at hval
   simp[Ver.enc,Cut.enc,hup,hle,hb2,e1,e2,e3,zt,zM,zE,ZF,hval,encR,Str.enc,Cut.enc,f211]
 have e4:(o==[60,61])=false:=by simpa using s4
 by_cases s6:o=[126]
 ·subst s6
  have hval:=one (btw (lowC (v.part m)) (qP (v.part m) (min (m - 1) 1).toNat)) (yq (v.part m) (min (m - 1) 1).toNat) (by simp[strS,cOf,wG,hhas])
  have hmin:(if 1<m - 1 then 1 else m - 1)=(((min (m - 1) 1).toNat:Nat):Int):=by split<;>omega
  have hmn:(min (m - 1) 1).toNat<3:=by omega
  have hra1:=hra (((min (m - 1) 1).toNat:Nat):Int) (by omega)
  simp only[Int.toNat_natCast] at hra1
  rw[←hmin] at hra1
  obtain⟨i,hi⟩:∃i,(min (m - 1) 1).toNat=i:=⟨_,rfl⟩
  rw[hi] at hval hra1
  have hb5:=fun hp nx=>hb4 i hp nx
  cases hB:yq (v.part m) i
  ·rw[hB] at hval hra1
   simp at hval
   simp[Ver.enc,Cut.enc,hup,hw,hra1,hb5,e1,e2,e3,e4,zt,zM,zE,ZF,hval,encR,f211]
  ·rw[hB] at hval hra1
   simp at hval
   simp[Ver.enc,Cut.enc,hup,hw,hra1,hb5,e1,e2,e3,e4,zt,zM,zE,ZF,hval,hlo,encR,Str.enc,f211]
 have e6:(o==[126])=false:=by simpa using s6
 by_cases s7:o=[94]
 ·subst s7
  have hval:=one (btw (lowC (v.part m)) (qP (v.part m) (wA (v.part m)))) (yq (v.part m) (wA (v.part m))) (by simp[strS,cOf,wG])
  have hci:=caretI_lt (v.part m)
  have hra1:=hra ((wA (v.part m):Nat):Int) (by omega)
  simp only[Int.toNat_natCast] at hra1
  obtain⟨i,hi⟩:∃i,wA (v.part m)=i:=⟨_,rfl⟩
  rw[hi] at hval hra1 hct
  have hb5:=fun hp nx=>hb4 i hp nx
  cases hB:yq (v.part m) i
  ·rw[hB] at hval hra1
   simp at hval
   simp[Ver.enc,Cut.enc,hup,hct,hra1,hb5,e1,e2,e3,e4,e6,zt,zM,zE,ZF,hval,encR,f211]
  ·rw[hB] at hval hra1
   simp at hval
   simp[Ver.enc,Cut.enc,hup,hct,hra1,hb5,e1,e2,e3,e4,e6,zt,zM,zE,ZF,hval,hlo,encR,Str.enc,f211]
 have e7:(o==[94])=false:=by simpa using s7
 have hval:=one (btw (lowC (v.part m)) (y7 (v.part m))) (vR (v.part m)) (by simp[strS,cOf,n0,s1,s2,s3,s4,n45,s6,s7])
 cases hB:vR (v.part m)
 ·rw[hB] at hval hup
  simp at hval
  simp[Ver.enc,Cut.enc,hup,hb3,e1,e2,e3,e4,e6,e7,zt,zM,zE,ZF,hval,encR,f211]
 ·rw[hB] at hval hup
  simp at hval
  simp[Ver.enc,Cut.enc,hup,hb3,e1,e2,e3,e4,e6,e7,zt,zM,zE,ZF,hval,hlo,encR,Str.enc,f211]
theorem rstretch_sound:za prog 211 (zJ [.a,.g vpat] FOVI) :=
 zX (fn:=f211) goodrst ⟨_,func211,by kernel_rfl,rfl,by kernel_rfl⟩ _ _ fun args r h=>by
  obtain⟨⟨o,v,m⟩,rfl,⟨h1,h2,h5⟩,rfl⟩:=ze h
  obtain⟨r0,h3,h4⟩:=rstretch_eval o v m h1 h2 h5
  exact⟨by simp[f211],r0,h3,h4⟩
def encK (l:List Tok):List (List PV):=l.map fun a=>[str a.1,str a.2]
def wdsR (s:List UInt8):List Tok×Bool:=match tokW (we s) with
 | some l=>(l,!l.isEmpty)
 | none=>([],false)
def wdsP (s:List UInt8):PV:=.tup [.sl 2 (encK (wdsR s).1),boo (wdsR s).2]
noncomputable abbrev Crwo:Ctx:=zF prog [(263,zd false [] (FTT tbP fun _ b=>one7 b)),(265,zd false [] (FSP ropP)),(264,zd false [] (FTT tlP fun _ b=>one7 b)),(266,zd false [] (FSB ibP))]
theorem goodrwo:AM.Good Crwo (fun g=>([]:List Nat).contains g):=zk mixed ⟨sTrim_sound,by simp,roperator_sound,by simp,kR,by simp,indexByte_sound,by simp,trivial⟩
theorem zah (a:List UInt8) (hp:Hp) (nx:Nat) (h:a.length≤lim):zd false [] (FTT tlP fun _ b=>one7 b) [str a,str [32]] hp nx=some (str (Lib.trimLeftB a 32),hp,nx):=jj _ _ a [32] hp nx h (by decide) ⟨32,rfl,by decide⟩ rfl
theorem tb32_call (a:List UInt8) (hp:Hp) (nx:Nat) (h:a.length≤lim):zd false [] (FTT tbP fun _ b=>one7 b) [str a,str [32]] hp nx=some (str (Lib.trimB a 32),hp,nx):=jj _ _ a [32] hp nx h (by decide) ⟨32,rfl,by decide⟩ rfl
theorem zen:∀s:List UInt8,(Lib.indexByte s 32=((hd s).length:Int)∧(hd s).length<s.length)∨(Lib.indexByte s 32=-1∧hd s=s)
 | []=>.inr ⟨rfl,rfl⟩
 | c::s=>by
   by_cases hc:c=32
   ·subst hc
    exact .inl ⟨by simp[Lib.indexByte,hd],by simp[hd]⟩
   ·have hh:hd (c::s)=c::hd s:=by simp[hd,hc]
    rcases zen s with⟨h1,h2⟩ | ⟨h1,h2⟩
    ·refine .inl ⟨?_,by rw[hh];simpa using h2⟩
     rw[hh]
     have:¬Lib.indexByte s 32=-1:=by omega
     simp[Lib.indexByte,hc,h1]
     try omega
    ·refine .inr ⟨?_,by rw[hh,h2]⟩
     simp[Lib.indexByte,hc,h1]
theorem hd_take (s:List UInt8):s.take (hd s).length=hd s∧s.drop (hd s).length=tl s:=by
 have h:=X9 s
 exact⟨(List.prefix_iff_eq_take.1 ⟨tl s,h⟩).symm,by have:=congrArg (List.drop (hd s).length) h;simpa using this.symm⟩
def lenS:PV→Nat
 | .v (.string s)=>s.size
 | _=>0
theorem VR (l:List Tok):(encK l).length=l.length:=by simp[encK]
theorem encK_fix (l:List Tok):(encK l).map (fixC [none,none])=encK l:=by simp[encK]
def WoI (s0:List UInt8) (st:St):Prop:=∃(s:List UInt8) (l:List Tok),st.σ 0=str s∧zdE s∧s.length+l.length≤s0.length∧OwnS st.hp st.nx 250 2 (st.σ 4) (encK l)∧tokW (we s0)=(tokW (we s)).map (l++·)
theorem zd2 {s0 s:List UInt8} {l:List Tok} {a:Tok} {st:St} (h0:st.σ 0=str (Lib.trimLeftB s 32)) (hs:(Lib.trimLeftB s 32).length+(l.length+1)≤s0.length) (hO:OwnS st.hp st.nx 250 2 (st.σ 4) (encK l++[[str a.1,str a.2]])) (he:tokW (we s0)=(tokW (we s)).map (fun x=>l++[a]++x)):WoI s0 st :=
 ⟨Lib.trimLeftB s 32,l++[a],h0,vZ s,by simpa using hs,by simpa[encK] using hO,by rw[he,Q1]⟩
set_option maxHeartbeats 2000000 in
theorem rwords_eval (t:List UInt8) (ht:t.length≤lim):∃r0,zi Crwo f206 [str t]=some r0∧Stands r0 (wdsP t):=by
 refine qv (sh:=.s 2 [none,none]) rfl ?_
 have htb:=fun hp nx=>tb32_call t hp nx ht
 have hlen:(Lib.trimB t 32).length≤t.length:=by
  have h1:=Q2 (Lib.trimRightB t 32)
  have h2:(Lib.trimRightB t 32).length≤t.length:=by
   unfold Lib.trimRightB
   rw[List.length_reverse]
   exact Nat.le_trans (List.dropWhile_sublist _).length_le (by simp)
  exact Nat.le_trans h1 h2
 have hR:∀l:List Tok,tokW (we t)=some l→wdsR t=(l,!l.isEmpty):=fun l h=>by unfold wdsR;rw[h]
 have hN:tokW (we t)=none→wdsR t=([],false):=fun h=>by unfold wdsR;rw[h]
 simp[htb]
 refine yM (WoI t) (fun st=>lenS (st.σ 0)) ⟨Lib.trimB t 32,[],by simp,vZ _,by simpa using hlen,.inl ⟨by simp,rfl⟩,by rw[wds_trim];cases tokW (we t)<;>rfl⟩ ?_
 rintro⟨σ,hp,nx⟩ ⟨s,l,h0,htr,hsl,hO,he⟩
 simp only at h0 hO
 by_cases hs:s=[]
 ·subst hs
  have he':tokW (we t)=some l:=by rw[he,zaG];simp[tokW]
  have hr:=hR l he'
  have hfx:=encK_fix l
  have hkl:=VR l
  have hb1:(decide (0<l.length))=!l.isEmpty:=by cases l<;>simp
  rcases hO with⟨h4,hn⟩ | ⟨id,hid,h4,hb⟩
  ·have hl:l=[]:=by simpa[encK] using hn
   subst hl
   simp[h0,h4,zE,wdsP,hr,encK,f206]
  ·rw[hkl] at h4
   have htk:(encK l).take l.length=encK l:=List.take_of_length_le (by omega)
   simp[h0,h4,hb,hkl,htk,hfx,hb1,zE,wdsP,hr,f206]
 ·have hh:hd s≠[]:=htr.resolve_left hs
  have hs':s.isEmpty=false:=by cases s with
   | nil=>exact absurd rfl hs
   | cons c s=>rfl
  have hst:=cut_step hh
  have hlt:=fun h=>cut_less (s:=s) h
  unfold lim at ht
  have hslim:s.length≤lim:=by unfold lim;omega
  have hop:=fun hp nx=>Yo ropP s hp nx hslim rfl
  have hdr:=jS sgs s
  have hpx:(opW sgs s).1.length≤s.length:=by
   rcases Zm sgs s with h | h
   ·rw[h];simp
   ·by_cases hz:(opW sgs s).1=[]
    ·rw[hz];simp
    ·exact (VO sgs s hz).2.length_le
  have hrl:=Z0 sgs s
  simp only[ropP] at hop
  unfold cutW at hst hlt
  simp only at hst hlt
  obtain⟨o,r,hor⟩:∃o r,opW sgs s=(o,r):=⟨_,_,rfl⟩
  rw[hor] at hop hdr hpx hrl hst hlt
  simp only at hop hdr hpx hrl hst hlt
  have htl:=fun hp nx=>zah r hp nx (by unfold lim;omega)
  have htk:(s.drop o.length).take (s.length - o.length)=r:=by rw[hdr];exact List.take_of_length_le (by simp)
  obtain⟨s1,hs1⟩:∃s1,Lib.trimLeftB r 32=s1:=⟨_,rfl⟩
  have hs1l:s1.length≤s.length:=by rw[←hs1];exact Nat.le_trans (Q2 r) hrl
  rw[hs1] at htl hst hlt
  have hix:∀hp nx,zd false [] (FSB ibP) [str s1,.v (.int .u8 32)] hp nx=some (int (Lib.indexByte s1 32),hp,nx):=fun hp nx=>FSB_call ibP s1 32 hp nx (by unfold lim;omega) rfl
  obtain⟨ht1,ht2⟩:=hd_take s1
  have htk2:(s1.drop (hd s1).length).take (s1.length - (hd s1).length)=tl s1:=by rw[ht2];exact List.take_of_length_le (by rw[←ht2];simp)
  have hhl:(hd s1).length≤s1.length:=by have:=congrArg List.length (X9 s1);rw[List.length_append] at this;omega
  have htl2:=fun hp nx=>zah (tl s1) hp nx (by have:=congrArg List.length (X9 s1);rw[List.length_append] at this;unfold lim;omega)
  have hkl:=VR l
  have hap:=OwnS.append1 (P:=prog) (t:=246) (c:=[str o,str (hd s1)]) hO el246 sz250 by250 ze250 rfl (by omega) (by rw[hkl];unfold maxLen;omega) (by rw[hkl];omega)
  have hoe:(s.isEmpty)=false:=hs'
  by_cases hz:hd s1=[]
  ·rw[if_pos hz] at hst
   rw[hst] at he
   have hr:=hN he
   rcases zen s1 with⟨hi,hil⟩ | ⟨hi,hie⟩
   ·rw[hz] at hi
    simp at hi
    simp[h0,hs,hs',hop,hpx,htk,htl,hix,hi,zE,wdsP,hr,encK,f206]
   ·have hs1e:s1=[]:=by rw[←hie];exact hz
    subst hs1e
    simp[h0,hs,hs',hop,hpx,htk,htl,hix,hi,zE,wdsP,hr,encK,f206]
  ·have hlt':=hlt hz
   rw[if_neg hz] at hst
   rw[hst] at he
   have hzl:¬(hd s1).length=0:=fun e=>hz (List.length_eq_zero_iff.1 e)
   have htll:=Q2 (tl s1)
   have he2:tokW (we t)=(tokW (we (tl s1))).map (fun x=>l++[((o,hd s1):Tok)]++x):=by
    rw[he];cases tokW (we (tl s1))<;>simp
   have hm:lenS (str (Lib.trimLeftB (tl s1) 32))<lenS (σ 0):=by rw[h0];simp[lenS];omega
   rw[h0] at hm
   have hnn:¬((hd s1).length:Int)<0:=by omega
   have hz0:(((hd s1).length:Int)==0)=false:=by simpa using hz
   rcases zen s1 with⟨hi,hil⟩ | ⟨hi,hie⟩
   ·simp[h0,hs,hs',hop,hpx,htk,htl,hix,hi,hnn,hz0,hz,hzl,hhl,ht1,htk2,htl2,hap,zt,zM,zf,zn,zg]
    exact⟨zd2 (s:=tl s1) (l:=l) (a:=(o,hd s1)) (by simp) (by omega) (by simpa using OwnS.after) he2,by simpa[lenS] using hm⟩
   ·rw[hie] at hzl ht1 htk2 hhl hap he2
    have hzl':s1≠[]:=fun e=>hzl (by rw[e];rfl)
    rw[hie] at hz0
    have hte:tl s1=[]:=by
     have:=congrArg List.length (X9 s1)
     rw[List.length_append,hie] at this
     exact List.length_eq_zero_iff.1 (by omega)
    rw[hte] at htl2 he2 htll hm
    simp[h0,hs,hs',hop,hpx,htk,htl,hix,hi,hz0,hzl,hzl',htl2,hap,zt,zM,zf,zn,zg]
    exact⟨zd2 (s:=[]) (l:=l) (a:=(o,s1)) (by simp) (by have h9:=List.length_pos_iff.2 hs;rw[show Lib.trimLeftB [] 32=[] from rfl,List.length_nil];omega) (by simpa using OwnS.after) he2,by simpa[lenS] using hm⟩
theorem rwords_sound:za prog 206 (zd false [] (FSP wdsP)) :=
 yw (fn:=f206) goodrwo ⟨_,func206,by kernel_rfl,rfl,by kernel_rfl⟩ false [] _ fun args r h w S vs hz=>by
  obtain⟨l,rfl,hp,rfl⟩:=ze h
  obtain⟨r0,h1,h2⟩:=rwords_eval l hp
  exact⟨_,r0,hz,by simp[f206],h1,h2⟩
theorem VS {s:List UInt8} {p:Part} (h:rdOk s=some p):(rvR s).2.2=true∧(rvR s).2.1=p.has∧(rvR s).2.1≠0∧p=(rvR s).1.part (rvR s).2.1∧(rvR s).1.ok∧1≤p.has∧p.has≤3:=by
 have h':=h
 rw[zdl] at h
 split at h
 ·rename_i hc
  injection h with h
  obtain⟨_,_,hp,hg⟩:=jz h'
  subst h
  obtain⟨a,b,c,⟨d1,d2⟩,e⟩:=hp
  exact⟨hc.1,rfl,hc.2,rfl,⟨a,b,c,e⟩,d1,d2⟩
 ·cases h
theorem VT {s:List UInt8} (h:rdOk s=none):(rvR s).2.2=false∨(rvR s).2.1=0:=by
 rw[zdl] at h
 split at h
 ·cases h
 ·rename_i hc
  by_cases h0:(rvR s).2.1=0
  ·exact .inr h0
  ·left
   cases hb:(rvR s).2.2
   ·rfl
   ·exact absurd ⟨hb,h0⟩ hc
noncomputable def btwR (a b:List UInt8):List Str×Int:=match rdOk a,rdOk b with
 | some p,some q=>((btwX p q).1,if (btwX p q).2=true then 0 else 1)
 | _,_=>([],10)
noncomputable def JS (a b:List UInt8):PV:=.tup [.sl 11 (encR (btwR a b).1),int (btwR a b).2]
def one1 (a b:List UInt8):Prop:=a.length+1≤lim∧b.length+1≤lim
noncomputable abbrev Crbt:Ctx:=zF prog [(210,zd false [] (FSP1 rvP)),(267,zJ [.g vpat] (FVI kX fun m=>1≤m∧m≤3)),(268,zJ [.g cpat,.g cpat] (FCC btwP))]
theorem goodrbt:AM.Good Crbt (fun g=>([]:List Nat).contains g):=zk mixed ⟨kM,by simp,Ye,by simp,JO,by simp,trivial⟩
set_option maxHeartbeats 1000000 in
theorem rbetween_eval (a b:List UInt8) (hab:one1 a b):∃r0,zi Crbt f207 [str a,str b]=some r0∧Stands r0 (JS a b):=by
 obtain⟨ha,hb⟩:=hab
 refine qv (sh:=.s 11 spat) rfl ?_
 have ra:=fun hp nx=>yP rvP a hp nx ha
 have rb:=fun hp nx=>yP rvP b hp nx hb
 simp only[rvP,Ver.enc] at ra rb
 cases hA:rdOk a with
 | none =>
   have hv:btwR a b=([],10):=by unfold btwR;rw[hA]
   rcases VT hA with h | h
   ·simp[ra,rb,h,zE,JS,hv,encR,f207]
   ·cases h1:(rvR a).2.2<;>cases h2:(rvR b).2.2<;>simp[ra,rb,h,h1,h2,zE,JS,hv,encR,f207]
 | some p =>
   obtain⟨p1,p2,p3,p4,p5,p6,p7⟩:=VS hA
   have p3':((rvR a).2.1==0)=false:=by simpa using p3
   cases hB:rdOk b with
   | none =>
     have hv:btwR a b=([],10):=by unfold btwR;rw[hA,hB]
     rcases VT hB with h | h
     ·simp[ra,rb,p1,p3',h,zE,JS,hv,encR,f207]
     ·cases h2:(rvR b).2.2<;>simp[ra,rb,p1,p3',h,h2,zE,JS,hv,encR,f207]
   | some q =>
     obtain⟨q1,q2,q3,q4,q5,q6,q7⟩:=VS hB
     have q3':((rvR b).2.1==0)=false:=by simpa using q3
     have hv:btwR a b=((btwX p q).1,if (btwX p q).2=true then 0 else 1):=by unfold btwR;rw[hA,hB]
     rw[←q2] at q6 q7
     have hup:=fun hp nx=>QX kX (fun m=>1≤m∧m≤3) (rvR b).1 (rvR b).2.1 (.agg (rvR b).1.enc) hp nx q5 ⟨q6,q7⟩ (ZA _) (QY _ hp) (QZ _)
     have hlo:lowC p=⟨(rvR a).1,false⟩:=by rw[p4];rfl
     have hsp:yx p.pre:=by rw[p4];exact p5.small
     have hsq:yx q.pre:=by rw[q4];exact q5.small
     have hbt:=fun hp nx=>kT (lowC p) (y7 q) hp nx (ju hsp) (jX hsq)
     simp only[btwP,hlo,Ver.enc,Cut.enc,kX,QD,←q4] at hup hbt
     cases hh:vR q
     ·rw[hh] at hup
      have hx:btwX p q=([],false):=by unfold btwX;rw[hh];rfl
      rw[hx] at hv
      simp[ra,rb,p1,p3',q1,q3',hup,zE,JS,hv,encR,f207]
     ·rw[hh] at hup
      have hx:btwX p q=(btw (lowC p) (y7 q),true):=by unfold btwX;rw[hh];rfl
      rw[hx] at hv
      simp[ra,rb,p1,p3',q1,q3',hup,hbt,zt,zM,zE,JS,hv,hlo,encR,Str.enc,Cut.enc,f207]
theorem rbetween_sound:za prog 207 (zd false [] (zH (α:=List UInt8×List UInt8) (fun a=>[str a.1,str a.2]) (fun a=>one1 a.1 a.2) fun a=>JS a.1 a.2)) :=
 yw (fn:=f207) goodrbt ⟨_,func207,by kernel_rfl,rfl,by kernel_rfl⟩ false [] _ fun args r h w S vs hz=>by
  obtain⟨⟨a,b⟩,rfl,hp,rfl⟩:=ze h
  obtain⟨r0,h1,h2⟩:=rbetween_eval a b hp
  exact⟨_,r0,hz,by simp[f207],h1,h2⟩
noncomputable def FBt2:List PV→Option PV:=zH (α:=List UInt8×List UInt8) (fun a=>[str a.1,str a.2]) (fun a=>one1 a.1 a.2) fun a=>JS a.1 a.2
theorem FBt2_call (a b:List UInt8) (hp:Hp) (nx:Nat) (h:one1 a b):zd false [] FBt2 [str a,str b] hp nx=some (JS a b,hp,nx) :=
 zy rfl (zm (enc:=fun a:List UInt8×List UInt8=>[str a.1,str a.2]) (a:=(a,b)) za8 h) (.inr (by simp))
end Go.Proofs.YtdkfdoeijcfbhaaGreatDoor
namespace Go.Proofs
open Go.Shelf
def Tryz.growR_ren:Go.Shelf.Ren:=⟨fun | 4=>274 | n=>n,fun | 22=>123 | 25=>191 | 0=>0 | 3=>3 | 4=>4 | 9=>9 | 20=>20 | n=>n,fun | n=>n⟩
theorem Tryz.growR:Go.Proofs.Lays8.n4 prog Tryz.growR_ren:={
 mixed:=by kernel_rfl
 f4:=⟨f274.name,by decide,func274.trans (congrArg some (by kernel_rfl))⟩
 t0:=underlying0
 a0:=isAgg0
 z0:=sizeOf0
 v0:=zeroValue0
 t3:=underlying3
 a3:=isAgg3
 z3:=sizeOf3
 v3:=zeroValue3
 t4:=underlying4
 a4:=isAgg4
 z4:=sizeOf4
 v4:=zeroValue4
 t9:=underlying9
 a9:=isAgg9
 z9:=sizeOf9
 v9:=zeroValue9
 t20:=underlying20
 a20:=isAgg20
 z20:=sizeOf20
 v20:=zeroValue20
 t22:=underlying123
 a22:=isAgg123
 z22:=sizeOf123
 v22:=zeroValue123 }
end Go.Proofs
namespace Go.Proofs.YtdkfdoeijcfbhaaGreatDoor
open Go.Proofs.Tryz
open Go.RowKit Go.AM
theorem growR_sound:za prog 274 (zcu 191 11 120) :=
 hGrow_sound ⟨_,func274,by decide,by kernel_rfl⟩ zcr (by decide) (GrowOk.of Tryz.growR zcr zcM zcN rfl (by omega))
noncomputable def zeo (out:List Str→List Str→PV) (pre:List Str→List Str→Prop):List PV→Option PV:=zH (α:=List Str×List Str) (fun a=>[.sl 1 [[.sl 11 (a.1.map Str.enc)],[.sl 11 (a.2.map Str.enc)]]]) (fun a=>pre a.1 a.2) (fun a=>out a.1 a.2)
noncomputable abbrev CcatR:Ctx:=zF prog [(274,zcu 191 11 120)]
theorem concatR_eval (a b:List Str) (ha:a.length≤lim) (hb:b.length≤lim):∃r0,zi CcatR f212 [.sl 1 [[.sl 11 (a.map Str.enc)],[.sl 11 (b.map Str.enc)]]]=some r0∧Stands r0 (.sl 11 ((a++b).map Str.enc)):=by
 have hfin:∀{code},f212.body=some code→EvC CcatR code ⟨yE [.sl 1 [[.sl 11 (a.map Str.enc)],[.sl 11 (b.map Str.enc)]]],fun _=>none,0⟩ (retK CcatR.P f212 (J1 (.sl 11 ((a++b).map Str.enc))))→∃r0,zi CcatR f212 [.sl 1 [[.sl 11 (a.map Str.enc)],[.sl 11 (b.map Str.enc)]]]=some r0∧Stands r0 (.sl 11 ((a++b).map Str.enc)):=by
  intro code hb h
  obtain⟨r0,h1,h2⟩:=kE hb h
  exact⟨r0,h1,fun w S u hr=>Qn hr h2⟩
 refine hfin rfl ?_
 unfold lim at ha hb
 let cs:List (List Str):=[a,b]
 have hcs:cs=[a,b]:=rfl
 simp
 refine zq (fun k σ hp nx=>σ 0=.sl 1 [[.sl 11 (a.map Str.enc)],[.sl 11 (b.map Str.enc)]]∧σ 9=.sl 1 [[.sl 11 (a.map Str.enc)],[.sl 11 (b.map Str.enc)]]∧σ 10=int 2∧σ 11=int k∧σ 3=int (((cs.take k).map List.length).sum:Nat)) 2
  ⟨by simp,by simp,by simp,by simp,by simp⟩ ?_
 rintro k σ hp nx hk ⟨h0,h9,h10,h11,h3⟩
 obtain rfl | rfl | rfl:k=0∨k=1∨k=2:=by omega
 ·simp[hcs] at h3
  have w1:IntKind.i64.wrap (a.length:Int)=a.length:=zc (by omega) (by omega)
  have w2:IntKind.i64.wrap 1=1:=zc (by omega) (by omega)
  have w3:¬(a.length:Int)<0:=by omega
  simp[h0,h9,h10,h11,h3,w1,w2,w3,hcs]
 ·simp[hcs] at h3
  have w1:IntKind.i64.wrap ((a.length:Int)+b.length)=a.length+b.length:=zc (by omega) (by omega)
  have w2:IntKind.i64.wrap 2=2:=zc (by omega) (by omega)
  have w3:¬(a.length:Int)+b.length<0:=by omega
  simp[h0,h9,h10,h11,h3,w1,w2,w3,hcs]
 ·simp[hcs] at h3
  have hg:∀hp nx,∃v hp' nx',zcu 191 11 120 [.nil,int ((a.length:Int)+b.length)] hp nx=some (v,hp',nx')∧OwnS hp' nx' 191 11 v []:=fun hp nx=>by
   by_cases hz:(a.length:Int)+b.length=0
   ·exact⟨.nil,hp,nx,by simp[zcu,hz],.inl ⟨rfl,rfl⟩⟩
   ·exact⟨.own nx 0 0,upd hp nx (some ⟨191,11,true,[]⟩),nx+1,by
     show (if (a.length:Int)+b.length=0 then _ else _)=_
     rw[if_neg hz,if_pos ⟨by omega,by omega,by omega⟩],.inr ⟨nx,by omega,rfl,by simp⟩⟩
  obtain⟨v,hp',nx',hg1,hO⟩:=hg hp nx
  simp[h0,h9,h10,h11,h3,hg1]
  refine zq (fun k σ hp nx=>σ 25=.sl 1 [[.sl 11 (a.map Str.enc)],[.sl 11 (b.map Str.enc)]]∧σ 26=int 2∧σ 27=int k∧OwnS hp nx 191 11 (σ 6) (((cs.take k).flatten).map Str.enc)) 2
   ⟨by simp,by simp,by simp,by simpa using hO⟩ ?_
  rintro k σ hp nx hk ⟨h25,h26,h27,hO⟩
  obtain rfl | rfl | rfl:k=0∨k=1∨k=2:=by omega
  ·simp[hcs] at hO
   obtain⟨v',hp',nx',ha1,hO',_⟩:=hO.appendL (P:=prog) (t:=123) (ys:=a.map Str.enc) zdx zcr zcM zcN rfl (by omega) (by simp[maxLen];omega) (by simp;omega)
   have w2:IntKind.i64.wrap 1=1:=zc (by omega) (by omega)
   simp at hO'
   simp[h25,h26,h27,ha1,w2,hcs]
   exact hO'
  ·simp[hcs] at hO
   obtain⟨v',hp',nx',ha1,hO',_⟩:=hO.appendL (P:=prog) (t:=123) (ys:=b.map Str.enc) zdx zcr zcM zcN rfl (by omega) (by simp[maxLen];omega) (by simp;omega)
   have w2:IntKind.i64.wrap 2=2:=zc (by omega) (by omega)
   simp[h25,h26,h27,ha1,w2,hcs]
   simpa using hO'
  ·simp[hcs] at hO
   have:=hO.freeze nx
   simp[h25,h26,h27,f212]
   exact this
noncomputable def zcx:List PV→Option PV:=zeo (fun a b=>.sl 11 ((a++b).map Str.enc)) fun a b=>a.length≤lim∧b.length≤lim
theorem concatR_sound:za prog 212 (zd true [] zcx) :=
 yw (fn:=f212) (zk (q:=[]) mixed ⟨growR_sound,by simp,trivial⟩:AM.Good CcatR _) ⟨_,func212,by kernel_rfl,rfl,by kernel_rfl⟩ true [] _ fun args r h w S vs hz=>by
  unfold zcx zeo at h
  obtain⟨⟨a,b⟩,rfl,hx,rfl⟩:=ze h
  obtain⟨r0,h1,h2⟩:=concatR_eval a b hx.1 hx.2
  exact⟨_,r0,hz,Nat.le_trans (Nat.le_refl 1) (by decide),h1,h2⟩
end Go.Proofs.YtdkfdoeijcfbhaaGreatDoor
