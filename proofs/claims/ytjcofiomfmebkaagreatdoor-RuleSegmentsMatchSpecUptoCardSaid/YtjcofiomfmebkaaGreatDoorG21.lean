/-
Plain law: what the reference reads as a range is what the program reads.
-/
import Derived.Test.YtjcofiomfmebkaaGreatDoorG20
import Derived.Test.YtjcofiomfmebkaaGreatDoorG19
import Derived.Test.YtjcofiomfmebkaaGreatDoorG18
import Derived.Shelf.Spec.SlicesGrow
set_option maxRecDepth 8000
namespace Go.Proofs.YtjcofiomfmebkaaGreatDoor
open Go.Proofs.Tryz
open Go.RowKit Go.AM
noncomputable def zfW (o:List UInt8) (p:Part):List Str×Bool:=if (vy (cOf o p)).2=true then ((vy (cOf o p)).1,true) else ([],false)
noncomputable def vC:List Str→Bool→List Tok→Option (List Str×Bool)
 | out,ok,[]=>some (out,ok)
 | out,ok,a::l=>if a.1=[]∧qH a.2=true then vC out ok l else match QX a.2 with
   | none=>none
   | some p=>vC (yS and out (zfW a.1 p).1) (ok&&(zfW a.1 p).2) l
def zdM:List Tok→Option (List UInt8×List UInt8)
 | [a,b,c]=>if b=([],[45])∧a.1=[]∧c.1=[] then some (a.2,c.2) else none
 | _=>none
noncomputable def zhC (p q:Part):List Str×Bool:=if xz q=true then (btw (Qq p) (jq q),true) else ([],false)
noncomputable def zcm (t:List UInt8):Option (List Str×Bool):=match jy (wd t) with
 | none=>none
 | some l=>if l=[] then none else match zdM l with
   | some a=>match QX a.1,QX a.2 with
     | some p,some q=>some (zhC p q)
     | _,_=>none
   | none=>vC [qz leastC] true l
noncomputable def ZK:List Str→Bool→List (List UInt8)→Option (List Str×Bool)
 | out,ok,[]=>some (out,ok)
 | out,ok,s::l=>match zcm s with
   | none=>none
   | some m=>ZK (yS or out m.1) (ok&&m.2) l
noncomputable def vp (t:List UInt8):List Str×Int:=if (400:Int)<t.length then ([],2) else match ZK [] true (zy t [124,124]) with
 | none=>([],10)
 | some o=>if o.2=false then ([],1) else if (100:Int)<o.1.length then ([],2) else (o.1,0)
def kj (a:Tok):Option Cpn:=if a.1=[]∧qH a.2=true then some zi3 else if (zt a.2).2=true then some (cOf a.1 (zt a.2).1) else none
def zbA:List Tok→Option (List Cpn)
 | []=>some []
 | a::l=>match kj a with
   | none=>none
   | some c=>(zbA l).map (c::·)
theorem zfX {w:List UInt8} (hw:w≠[]) (h:(opW sgs w).2=[]):(opW sgs w).1≠[]:=fun e=>by
 have:=ki sgs w
 rw[h,e] at this
 exact hw (by simpa using this.symm)
theorem zoV:(zt []).2=false:=by decide
theorem zrx:zt [45]=(⟨0,0,0,3,[]⟩,false):=by rfl
theorem zbB:∀(n:Nat) (ws:List (List UInt8)),ws.length≤n→(∀w∈ws,w≠[])→wM n ws=(jy ws).bind zbA
 | n,[],_,_=>by cases n<;>rfl
 | 0,w::ws,h,_=>by simp at h
 | n+1,[w],_,hw=>by
   have hw0:=hw w (by simp)
   simp only[wM,jy]
   by_cases hr:(opW sgs w).2=[]
   ·have ho:=zfX hw0 hr
    have:ke w []=none:=by
     unfold ke
     rw[if_neg (fun h=>ho h.1),if_neg (fun h=>h.2.2 rfl),hr,zoV]
     simp
    rw[this,if_pos hr]
    rfl
   ·rw[if_neg hr]
    have:ke w []=(kj (opW sgs w)).map fun c=>(c,[]):=by
     unfold ke kj
     by_cases h1:(opW sgs w).1=[]∧qH (opW sgs w).2=true
     ·rw[if_pos h1,if_pos h1];rfl
     ·rw[if_neg h1,if_neg h1,if_neg (fun h=>h.2.2 rfl)]
      split<;>rfl
    rw[this]
    simp only[Option.bind_some,zbA]
    cases kj (opW sgs w) with
    | none=>rfl
    | some c=>cases n<;>rfl
 | n+1,w::x::ws,hl,hw=>by
   have hw0:=hw w (by simp)
   simp only[List.length_cons] at hl
   simp only[wM,jy]
   by_cases hr:(opW sgs w).2=[]
   ·have ho:=zfX hw0 hr
    rw[if_pos hr]
    have:ke w (x::ws)=(kj ((opW sgs w).1,x)).map fun c=>(c,ws):=by
     unfold ke kj
     rw[if_neg (fun h=>ho h.1),if_pos ⟨ho,hr,by simp⟩,if_neg (fun h=>ho h.1)]
     simp only
     split<;>rfl
    rw[this]
    have ih:=zbB n ws (by omega) (fun y hy=>hw y (by simp[hy]))
    cases ht:jy ws with
    | none =>
      rw[ht] at ih
      simp only[Option.map_none,Option.bind_none]
      cases kj ((opW sgs w).1,x) with
      | none=>rfl
      | some c=>simp only[Option.map_some,ih];rfl
    | some l =>
      rw[ht] at ih
      simp only[Option.map_some,Option.bind_some,zbA]
      cases kj ((opW sgs w).1,x) with
      | none=>rfl
      | some c=>simp only[Option.map_some,ih];rfl
   ·rw[if_neg hr]
    have:ke w (x::ws)=(kj (opW sgs w)).map fun c=>(c,x::ws):=by
     unfold ke kj
     by_cases h1:(opW sgs w).1=[]∧qH (opW sgs w).2=true
     ·rw[if_pos h1,if_pos h1];rfl
     ·rw[if_neg h1,if_neg h1,if_neg (fun h=>hr h.2.1)]
      split<;>rfl
    rw[this]
    have ih:=zbB n (x::ws) (by simp only[List.length_cons];omega) (fun y hy=>hw y (by simp[List.mem_cons.1 hy]))
    cases ht:jy (x::ws) with
    | none =>
      rw[ht] at ih
      simp only[Option.map_none,Option.bind_none]
      cases kj (opW sgs w) with
      | none=>rfl
      | some c=>simp only[Option.map_some,ih];rfl
    | some l =>
      rw[ht] at ih
      simp only[Option.map_some,Option.bind_some,zbA]
      cases kj (opW sgs w) with
      | none=>rfl
      | some c=>simp only[Option.map_some,ih];rfl
theorem zdN:∀(ws:List (List UInt8)) (l:List Tok),(∀w∈ws,w≠[])→jy ws=some l→(∀a∈l,a.1=[])→ws=l.map (·.2)
 | [],l,_,h,_=>by simp only[jy] at h;injection h with h;subst h;rfl
 | [w],l,hw,h,hl=>by
   simp only[jy] at h
   split at h
   ·cases h
   ·injection h with h
    subst h
    have:=hl (opW sgs w) (by simp)
    have hd:=ki sgs w
    rw[this] at hd
    simp only[List.map_cons,List.map_nil,hd,List.length_nil,List.drop_zero]
 | w::x::ws,l,hw,h,hl=>by
   simp only[jy] at h
   split at h
   ·rename_i hr
    cases e:jy ws with
    | none=>rw[e] at h;cases h
    | some l' =>
      rw[e] at h
      simp only[Option.map_some,Option.some.injEq] at h
      subst h
      exact absurd (hl ((opW sgs w).1,x) (by simp)) (zfX (hw w (by simp)) hr)
   ·cases e:jy (x::ws) with
    | none=>rw[e] at h;cases h
    | some l' =>
      rw[e] at h
      simp only[Option.map_some,Option.some.injEq] at h
      subst h
      have h1:=hl (opW sgs w) (by simp)
      have hd:=ki sgs w
      rw[h1] at hd
      rw[zdN (x::ws) l' (fun y hy=>hw y (by simp[List.mem_cons.1 hy])) e fun a ha=>hl a (by simp[ha])]
      simp only[List.map_cons,hd,List.length_nil,List.drop_zero]
theorem zdO {c:UInt8} {l:List UInt8} (h:zaY c=false):jJ (c::l)=none:=by
 unfold jJ
 rw[if_neg]
 rintro⟨h1,_⟩
 have:=(zaZ h1).2
 simp only[vg,List.all_cons,h,Bool.false_and] at this
 cases this
theorem zaj {c d:UInt8} (h:c≠d) (l:List UInt8):∃p ps,zy (c::l) [d]=(c::p)::ps:=by
 obtain⟨p,ps,e⟩:=zqc d l
 rw[YB]
 exact⟨p,ps,by simp[sp1,h,e]⟩
theorem zry {c:UInt8} {l:List UInt8} (h1:zaY c=false) (h2:c≠45) (h3:c≠46):(zt (c::l)).2=false:=by
 unfold zt
 split
 ·have hcut:∃q,(Lib.cut (c::l) [45]).1=c::q:=by
   unfold Lib.cut
   split
   ·rename_i hi
    have hne:¬(45:UInt8)=c:=fun e=>h2 e.symm
    rcases Lib.index_spec l [45] with⟨e,_⟩ | ⟨i,e,_⟩
    ·simp[Lib.index,hne,e] at hi
    ·have he:Lib.index (c::l) [45]=((i+1:Nat):Int):=by
      have:¬((i:Int)=-1):=by omega
      simp[Lib.index,hne,e,this]
     rw[he]
     exact⟨l.take i,by simp⟩
   ·exact⟨l,rfl⟩
  obtain⟨q,hq⟩:=hcut
  obtain⟨p,ps,e⟩:=zaj h3 q
  have:rdV (c::l)=none:=by
   unfold rdV
   rw[hq,e]
   split
   ·rename_i heq
    injection heq with heq _
    subst heq
    rw[zdO h1]
   ·rfl
  rw[this]
 ·split
  ·rfl
  ·obtain⟨p,ps,e⟩:=zaj h3 l
   rw[e]
   have:qq part0 0 ((c::p)::ps)=none:=by
    simp[qq,z8,zdO h1]
   rw[this]
theorem zbC:∀(gs:List (List UInt8)) (w:List UInt8),(opW gs w).1≠[]→(opW gs w).1∈gs∧(opW gs w).1 <+: w
 | [],w,h=>by simp[opW] at h
 | g::gs,w,h=>by
   simp only[opW] at h ⊢
   split
   ·rename_i hp;exact⟨by simp,List.isPrefixOf_iff_prefix.1 hp⟩
   ·rename_i hp
    rw[if_neg hp] at h
    have:=zbC gs w h
    exact⟨by simp[this.1],this.2⟩
theorem zlY {w:List UInt8} (h:(opW sgs w).1≠[]):(zt w).2=false:=by
 obtain⟨h1,r,hr⟩:=zbC sgs w h
 obtain⟨g,hg⟩:∃g,(opW sgs w).1=g:=⟨_,rfl⟩
 rw[hg] at h1 hr
 rw[←hr]
 simp only[sgs,List.mem_cons,List.not_mem_nil,or_false] at h1
 rcases h1 with rfl | rfl | rfl | rfl | rfl | rfl | rfl<;>exact zry (by decide) (by decide) (by decide)
theorem zlZ (a:Tok):kj a=none↔¬(a.1=[]∧qH a.2=true)∧QX a.2=none:=by
 unfold kj
 rw[zbw]
 by_cases h:a.1=[]∧qH a.2=true
 ·simp[h]
 ·rw[if_neg h]
  cases (zt a.2).2<;>simp[h]
theorem v7:∀(l:List Tok) (out:List Str) (ok:Bool),vC out ok l=none↔zbA l=none
 | [],out,ok=>by simp[vC,zbA]
 | a::l,out,ok=>by
   simp only[vC,zbA]
   by_cases h:a.1=[]∧qH a.2=true
   ·have:kj a=some zi3:=by unfold kj;rw[if_pos h]
    rw[if_pos h,this,v7 l out ok]
    simp
   ·rw[if_neg h]
    cases hr:QX a.2 with
    | none=>rw[(zlZ a).2 ⟨h,hr⟩];simp
    | some p =>
      cases he:kj a with
      | none=>rw[((zlZ a).1 he).2] at hr;cases hr
      | some c=>simp only[v7 l];simp
theorem zbD:∀(l:List Tok) (out:List Str) (m:List Str×Bool),vC out false l=some m→m.2=false
 | [],out,m,h=>by simp only[vC] at h;injection h with h;rw[←h]
 | a::l,out,m,h=>by
   simp only[vC] at h
   split at h
   ·exact zbD l out m h
   ·split at h
    ·cases h
    ·exact zbD l _ m (by simpa using h)
theorem zoW:vy zi3=([qz leastC],true):=by simp[vy,zi3]
theorem zfY {p:Part} (h:p.ok):zfV (Qq p):=⟨h.1.1,h.2.1.1,h.2.2.1.1⟩
theorem YC {p:Part} (h:p.ok) (i:Nat):zfV (qV p i):=by
 have h1:=h.1.1
 have h2:=h.2.1.1
 have h3:=h.2.2.1.1
 unfold qV zfV
 split<;>simp only<;>omega
theorem zbE {p:Part} (h:p.ok):zfV (jq p):=by
 unfold jq
 split
 ·exact YC h _
 ·exact zfY h
theorem WH:zfV leastC:=by simp[zfV,leastC]
theorem zoX:zfV cut0:=by simp[zfV,cut0]
theorem QM {a b:Cut} (ha:zfV a) (hb:zfV b):zqg (btw a b):=by
 unfold btw
 split
 ·intro s hs;cases hs
 ·intro s hs
  rw[List.mem_singleton] at hs
  rw[hs]
  exact⟨ha,hb⟩
theorem JU {a:Cut} (ha:zfV a):zqg [qz a]:=fun s hs=>by
 rw[List.mem_singleton] at hs
 rw[hs]
 exact⟨ha,zoX⟩
theorem zoY {c:Cpn} (hc:c.good):zqg (vy c).1:=by
 obtain⟨_,hc⟩:=hc
 unfold vy
 by_cases h0:c.sign=wK
 ·rw[if_pos h0];exact JU WH
 rw[if_neg h0]
 obtain⟨⟨hp,_⟩,ht⟩:=hc.resolve_left h0
 have hl:=zfY hp
 have hh:=zbE hp
 split
 ·exact JU hl
 split
 ·exact QM WH hl
 split
 ·exact JU hh
 split
 ·exact QM WH hh
 split
 ·rename_i e;exact QM hl (zbE (ht e).1)
 split
 ·exact QM hl (YC hp _)
 split
 ·exact QM hl (YC hp _)
 ·exact QM hl hh
def znq (o:List UInt8):Prop:=o=[]∨o∈sgs
theorem zdP:∀(ws:List (List UInt8)) (l:List Tok),jy ws=some l→∀a∈l,znq a.1
 | [],l,h,a,ha=>by simp only[jy] at h;injection h with h;subst h;cases ha
 | [w],l,h,a,ha=>by
   simp only[jy] at h
   split at h
   ·cases h
   ·injection h with h
    subst h
    rw[List.mem_singleton] at ha
    rw[ha]
    exact Z2 sgs w
 | w::x::ws,l,h,a,ha=>by
   simp only[jy] at h
   split at h
   ·cases e:jy ws with
    | none=>rw[e] at h;cases h
    | some l' =>
      rw[e] at h
      simp only[Option.map_some,Option.some.injEq] at h
      subst h
      rcases List.mem_cons.1 ha with rfl | ha
      ·exact Z2 sgs w
      ·exact zdP ws l' e a ha
   ·cases e:jy (x::ws) with
    | none=>rw[e] at h;cases h
    | some l' =>
      rw[e] at h
      simp only[Option.map_some,Option.some.injEq] at h
      subst h
      rcases List.mem_cons.1 ha with rfl | ha
      ·exact Z2 sgs w
      ·exact zdP (x::ws) l' e a ha
theorem jM {s:List UInt8} {p:Part} (h:QX s=some p):(zt s).2=true∧(zt s).1=p∧p.ok∧kJ p.pre:=by
 rw[zbw] at h
 split at h
 ·rename_i e
  injection h with h
  have:=ZG e
  rw[h] at this
  exact⟨e,h,this⟩
 ·cases h
theorem zhD {o:List UInt8} {p:Part} (ho:znq o) (hp:p.ok) (hg:kJ p.pre):(cOf o p).good:=by
 have:=zhv ho
 exact⟨this.1,.inr ⟨⟨hp,hg⟩,fun e=>absurd e this.2⟩⟩
theorem K7:∀(l:List Tok) (out:List Str) (cs:List Cpn) (m:List Str×Bool),(∀a∈l,znq a.1)→zeO none out→goodR out→zqg out→zbA l=some cs→vC out true l=some m→QJ cs out=if m.2=true then some m.1 else none
 | [],out,cs,m,_,_,_,_,hc,hm=>by
   simp only[zbA] at hc
   simp only[vC] at hm
   injection hc with hc
   injection hm with hm
   subst hc;subst hm
   rfl
 | a::l,out,cs,m,hs,h1,h2,h3,hc,hm=>by
   simp only[zbA] at hc
   simp only[vC] at hm
   have hs':∀b∈l,znq b.1:=fun b hb=>hs b (by simp[hb])
   by_cases h:a.1=[]∧qH a.2=true
   ·have he:kj a=some zi3:=by unfold kj;rw[if_pos h]
    rw[if_pos h] at hm
    rw[he] at hc
    simp only at hc
    cases hl:zbA l with
    | none=>rw[hl] at hc;cases hc
    | some cs' =>
      rw[hl] at hc
      simp only[Option.map_some,Option.some.injEq] at hc
      subst hc
      simp only[QJ,zoW,if_true]
      rw[zhB h1 h2 h3]
      exact K7 l out cs' m hs' h1 h2 h3 hl hm
   ·rw[if_neg h] at hm
    cases hr:QX a.2 with
    | none=>rw[hr] at hm;cases hm
    | some p =>
      rw[hr] at hm
      simp only at hm
      obtain⟨e1,e2,e3,e4⟩:=jM hr
      have he:kj a=some (cOf a.1 p):=by unfold kj;rw[if_neg h,if_pos e1,e2]
      rw[he] at hc
      simp only at hc
      cases hl:zbA l with
      | none=>rw[hl] at hc;cases hc
      | some cs' =>
        rw[hl] at hc
        simp only[Option.map_some,Option.some.injEq] at hc
        subst hc
        have hg:=zhD (hs a (by simp)) e3 e4
        simp only[QJ]
        unfold zfW at hm
        cases hk:(vy (cOf a.1 p)).2
        ·rw[hk] at hm
         simp only[Bool.false_eq_true,if_false,Bool.and_false] at hm ⊢
         rw[zbD l _ m hm]
         simp
        ·rw[hk] at hm
         simp only[if_true,Bool.and_true] at hm ⊢
         exact K7 l _ cs' m hs' (JT h2 (ZH hg).2) (wI and h2 (ZH hg).2) (zlX and h3 (zoY hg)) hl hm
theorem WI:∀(l:List Tok),(∃a∈l,a.2=[45])→zbA l=none
 | [],h=>by obtain⟨a,ha,_⟩:=h;cases ha
 | a::l,h=>by
   simp only[zbA]
   obtain⟨b,hb,e⟩:=h
   rcases List.mem_cons.1 hb with rfl | hb
   ·have:kj b=none:=by
     unfold kj
     rw[e,zrx]
     simp[qH]
    rw[this]
   ·rw[WI l ⟨b,hb,e⟩]
    cases kj a<;>rfl
theorem ztC (t:List UInt8):∀w∈wd t,w≠[]:=fun w hw=>by
 unfold wd z7 at hw
 have:=(List.mem_filter.1 hw).2
 simpa[emp] using this
theorem zl0 {l:List Tok} {a:List UInt8×List UInt8} (h:zdM l=some a):l=[([],a.1),([],[45]),([],a.2)]:=by
 unfold zdM at h
 split at h
 ·rename_i x y z
  split at h
  ·rename_i hc
   injection h with h
   obtain⟨h1,h2,h3⟩:=hc
   obtain⟨x1,x2⟩:=x
   obtain⟨z1,z2⟩:=z
   simp only at h2 h3 h
   rw[←h,h1,h2,h3]
  ·cases h
 ·cases h
theorem WJ:opW sgs [45]=([],[45]):=by decide
theorem zhE (t:List UInt8):((Yd t).2=false→zcm t=none)∧((Yd t).2=true→∃m,zcm t=some m∧QJ (Yd t).1 [qz leastC]=if m.2=true then some m.1 else none):=by
 have hw:=ztC t
 have gen:∀ws,wd t=ws→Yd t=(match wM ws.length ws with
   | some l=>(l,!l.isEmpty)
   | none=>([],false))→(∀l,jy ws=some l→zdM l=none)→((Yd t).2=false→zcm t=none)∧((Yd t).2=true→∃m,zcm t=some m∧QJ (Yd t).1 [qz leastC]=if m.2=true then some m.1 else none):=by
  intro ws he ha hd
  rw[he] at hw
  rw[zbB ws.length ws (Nat.le_refl _) hw] at ha
  rw[ha]
  unfold zcm
  rw[he]
  cases ht:jy ws with
  | none=>exact⟨fun _=>rfl,fun h=>by cases h⟩
  | some l =>
    have hdl:=hd l ht
    simp only[Option.bind_some]
    by_cases hl:l=[]
    ·subst hl
     simp[zbA]
    ·rw[if_neg hl,hdl]
     simp only
     have hnl:=v7 l [qz leastC] true
     cases hm:zbA l with
     | none=>exact⟨fun _=>hnl.2 hm,fun h=>by cases h⟩
     | some cs =>
       have hcs:cs≠[]:=by
        cases l with
        | nil=>exact absurd rfl hl
        | cons a l =>
          simp only[zbA] at hm
          split at hm
          ·cases hm
          ·cases h:zbA l<;>rw[h] at hm<;>simp at hm
           rw[←hm];simp
       have hemp:cs.isEmpty=false:=by cases cs<;>simp_all
       cases hx:vC [qz leastC] true l with
       | none=>rw[hnl.1 hx] at hm;cases hm
       | some m=>exact⟨fun h=>by simp[hemp] at h,fun _=>⟨m,rfl,K7 l _ cs m (zdP ws l ht) (zoU _) WG (JU WH) hm hx⟩⟩
 obtain⟨ws,he⟩:∃ws,wd t=ws:=⟨_,rfl⟩
 by_cases hform:∃a c,ws=[a,[45],c]
 ·obtain⟨a,c,rfl⟩:=hform
  have ha:Yd t=([⟨[45],(zt a).1,(zt c).1⟩],(zt a).2&&(zt c).2):=by
   unfold Yd
   rw[K5,he]
   simp
  rw[he] at hw
  have hda:a≠[]:=hw a (by simp)
  have hdc:c≠[]:=hw c (by simp)
  by_cases hoa:(opW sgs a).1=[]
  ·by_cases hoc:(opW sgs c).1=[]
   ·have e1:opW sgs a=([],a):=by
     have:=ki sgs a
     rw[hoa] at this
     exact Prod.ext hoa (by simpa using this)
    have e2:opW sgs c=([],c):=by
     have:=ki sgs c
     rw[hoc] at this
     exact Prod.ext hoc (by simpa using this)
    have ht:jy [a,[45],c]=some [([],a),([],[45]),([],c)]:=by
     rw[vZ _ _ (by rw[e1];exact hda),vZ _ _ (by rw[WJ];simp),vZ _ _ (by rw[e2];exact hdc),e1,e2,WJ]
     rfl
    have hx:zcm t=match QX a,QX c with
      | some p,some q=>some (zhC p q)
      | _,_=>none:=by
     unfold zcm
     rw[he,ht]
     simp only[List.cons_ne_nil,if_false,reduceCtorEq]
     rfl
    rw[hx,ha]
    cases hra:QX a with
    | none =>
      rw[zbw] at hra
      have:(zt a).2=false:=by
       cases h:(zt a).2 with
       | false=>rfl
       | true=>rw[h] at hra;simp at hra
      rw[this]
      exact⟨fun _=>rfl,fun h=>by cases h⟩
    | some p =>
      obtain⟨p1,p2,p3,p4⟩:=jM hra
      cases hrc:QX c with
      | none =>
        rw[zbw] at hrc
        have:(zt c).2=false:=by
         cases h:(zt c).2 with
         | false=>rfl
         | true=>rw[h] at hrc;simp at hrc
        rw[this,Bool.and_false]
        exact⟨fun _=>rfl,fun h=>by cases h⟩
      | some q =>
        obtain⟨q1,q2,q3,q4⟩:=jM hrc
        rw[p1,q1,p2,q2]
        refine⟨fun h=>(by cases h),fun _=>⟨zhC p q,rfl,?_⟩⟩
        have hs:vy ⟨[45],p,q⟩=(btw (Qq p) (jq q),xz q):=by simp[vy,wK]
        simp only[QJ,hs]
        unfold zhC
        have hg:goodR (btw (Qq p) (jq q)):=(vo (zbu p4) (Wy q4)).2
        cases hk:xz q
        ·simp
        ·simp only[if_true]
         rw[zlW rfl Bool.and_comm WG hg,zhB (zrw _ _) hg (QM (zfY p3) (zbE q3))]
   ·have hbad:(Yd t).2=false:=by rw[ha,zlY hoc,Bool.and_false]
    refine⟨fun _=>?_,fun h=>by rw[hbad] at h;cases h⟩
    have e1:opW sgs a=([],a):=by
     have:=ki sgs a
     rw[hoa] at this
     exact Prod.ext hoa (by simpa using this)
    unfold zcm
    rw[he,vZ _ _ (by rw[e1];exact hda),vZ _ _ (by rw[WJ];simp)]
    simp only[jy]
    split
    ·rfl
    ·rename_i l hl
     cases hc2:(if (opW sgs c).2=[] then none else some [opW sgs c]:Option (List Tok)) with
     | none=>rw[hc2] at hl;cases hl
     | some k =>
       have hk:k=[opW sgs c]:=by
        split at hc2
        ·cases hc2
        ·injection hc2 with hc2;exact hc2.symm
       rw[hc2] at hl
       simp only[Option.map_some,Option.some.injEq,e1,WJ] at hl
       subst hl
       subst hk
       simp only[List.cons_ne_nil,if_false,reduceCtorEq]
       have hdn:zdM [(([]:List UInt8),a),([],[45]),opW sgs c]=none:=by simp[zdM,hoc]
       rw[hdn]
       simp only
       rw[v7]
       exact WI _ ⟨([],[45]),by simp,rfl⟩
  ·have hbad:(Yd t).2=false:=by rw[ha,zlY hoa];rfl
   refine⟨fun _=>?_,fun h=>by rw[hbad] at h;cases h⟩
   unfold zcm
   rw[he]
   simp only[jy]
   by_cases hra:(opW sgs a).2=[]
   ·rw[if_pos hra]
    split
    ·rfl
    ·rename_i l hl
     cases hc2:(if (opW sgs c).2=[] then none else some [opW sgs c]:Option (List Tok)) with
     | none=>rw[hc2] at hl;cases hl
     | some k =>
       rw[hc2] at hl
       simp only[Option.map_some,Option.some.injEq] at hl
       subst hl
       simp only[List.cons_ne_nil,if_false,reduceCtorEq]
       have hdn:zdM (((opW sgs a).1,[45])::k)=none:=by
        unfold zdM
        split
        ·rename_i x y z heq
         injection heq with h1 _
         rw[←h1]
         simp[hoa]
        ·rfl
       rw[hdn]
       simp only
       rw[v7]
       exact WI _ ⟨((opW sgs a).1,[45]),by simp,rfl⟩
   ·rw[if_neg hra]
    simp only[WJ,List.cons_ne_nil,if_false,reduceCtorEq]
    split
    ·rfl
    ·rename_i l hl
     cases hc2:(if (opW sgs c).2=[] then none else some [opW sgs c]:Option (List Tok)) with
     | none=>rw[hc2] at hl;cases hl
     | some k =>
       rw[hc2] at hl
       simp only[Option.map_some,Option.some.injEq] at hl
       subst hl
       simp only[List.cons_ne_nil,if_false,reduceCtorEq]
       have hdn:zdM (opW sgs a::([],[45])::k)=none:=by
        unfold zdM
        split
        ·rename_i x y z heq
         injection heq with h1 _
         rw[←h1]
         simp[hoa]
        ·rfl
       rw[hdn]
       simp only
       rw[v7]
       exact WI _ ⟨([],[45]),by simp,rfl⟩
 ·refine gen ws he ?_ ?_
  ·unfold Yd
   rw[K5,he]
   split
   ·rename_i a b c
    rw[if_neg (fun e=>hform ⟨a,c,by rw[e]⟩)]
    rfl
   ·rfl
  ·intro l ht
   cases hd:zdM l with
   | none=>rfl
   | some a =>
     have hl:=zl0 hd
     rw[he] at hw
     have:=zdN ws l hw ht (by rw[hl];simp)
     rw[hl] at this
     exact absurd ⟨a.1,a.2,this⟩ hform
theorem YD:∀(l:List (List UInt8)) (out:List Str) (ok:Bool),ZK out ok l=none↔rrA l=none
 | [],out,ok=>by simp[ZK,rrA]
 | s::l,out,ok=>by
   obtain⟨h1,h2⟩:=zhE s
   simp only[ZK,rrA]
   cases h:(Yd s).2
   ·rw[h1 h];simp
   ·obtain⟨m,e,_⟩:=h2 h
    rw[e]
    simp only[YD l,if_true]
    cases rrA l<;>simp
theorem zdQ:∀(l:List (List UInt8)) (out:List Str) (m:List Str×Bool),ZK out false l=some m→m.2=false
 | [],out,m,h=>by simp only[ZK] at h;injection h with h;rw[←h]
 | a::l,out,m,h=>by
   simp only[ZK] at h
   split at h
   ·cases h
   ·exact zdQ l _ m (by simpa using h)
theorem zak:∀(l:List (List UInt8)) (out:List Str) (ls:List (List Cpn)) (m:List Str×Bool),rrA l=some ls→ZK out true l=some m→JG ls out=if m.2=true then some m.1 else none
 | [],out,ls,m,hc,hm=>by
   simp only[rrA] at hc
   simp only[ZK] at hm
   injection hc with hc
   injection hm with hm
   subst hc;subst hm
   rfl
 | s::l,out,ls,m,hc,hm=>by
   obtain⟨h1,h2⟩:=zhE s
   simp only[rrA] at hc
   simp only[ZK] at hm
   cases h:(Yd s).2
   ·rw[h] at hc;simp at hc
   ·rw[h] at hc
    simp only[if_true] at hc
    obtain⟨k,e,hk⟩:=h2 h
    rw[e] at hm
    simp only[Bool.true_and] at hm
    cases hl:rrA l with
    | none=>rw[hl] at hc;cases hc
    | some ls' =>
      rw[hl] at hc
      simp only[Option.map_some,Option.some.injEq] at hc
      subst hc
      simp only[JG,hk]
      cases hk2:k.2
      ·rw[hk2] at hm
       rw[zdQ l _ m hm]
       simp
      ·rw[hk2] at hm
       simp only[if_true]
       exact zak l _ ls' m hl hm
theorem zdR (t:List UInt8):vp t=yD t:=by
 unfold vp yD
 split
 ·rfl
 ·cases hr:rrA (zy t [124,124]) with
  | none=>rw[(YD _ [] true).2 hr]
  | some ls =>
    cases hj:ZK [] true (zy t [124,124]) with
    | none=>rw[(YD _ _ _).1 hj] at hr;cases hr
    | some m =>
      have:=zak _ _ ls m hr hj
      simp only[this]
      cases hm:m.2
      ·simp
      ·simp
noncomputable def Qd (o:List UInt8) (v:Ver) (m:Int):PV:=.tup [.sl 11 (zN (zfW o (v.part m)).1),int (if (zfW o (v.part m)).2=true then 0 else 1)]
noncomputable def zuJ:List PV→Option PV:=zJ (α:=List UInt8×Ver×Int) (fun a=>[str a.1,.agg a.2.1.enc,int a.2.2]) (fun a=>znq a.1∧a.2.1.ok∧1≤a.2.2∧a.2.2≤3) (fun a=>Qd a.1 a.2.1 a.2.2)
theorem zl1 (o:List UInt8) (v:Ver) (m:Int) (hp:Hp) (nx:Nat) (ho:znq o) (hv:v.ok) (hm:1≤m∧m≤3):zG [.a,.g jP] zuJ [str o,.agg v.enc,int m] hp nx=some (Qd o v m,hp,nx) :=
 yp (show zj hp [str o,.agg v.enc,int m]=some ([str o,.agg v.enc,int m],hp) by simp[Ver.enc]) (by
  show zuJ [str o,(Sh.g jP).fix (.agg v.enc),int m]=_
  rw[Z3]
  exact zm (enc:=fun a:List UInt8×Ver×Int=>[str a.1,PV.agg a.2.1.enc,int a.2.2]) (a:=(o,v,m)) (fun x y e=>by
   obtain⟨x1,x2,x3⟩:=x;obtain⟨y1,y2,y3⟩:=y
   simp only[List.cons.injEq,and_true] at e
   obtain⟨e1,e2,e3⟩:=e
   injection e2 with e2
   rw[qg e1,vi e2,zP e3]) ⟨ho,hv,hm⟩) (.inr (by simp[Ver.enc]))
abbrev qst:List Nat:=[209,243,244,245]
noncomputable abbrev zwe:Ctx:=zC prog [(242,zG [.g jP] (FVI vB fun m=>1≤m∧m≤3)),(209,zG [] (QF zab)),(243,zG [.g y8,.g y8] (FCC zbb)),(244,zG [.g jP] (FVI jj fun i=>0≤i∧i<3)),(245,zG [.g jP] (FVI jk fun m=>1≤m∧m≤3))]
theorem zrz:AM.Good zwe (fun g=>qst.contains g):=zk mixed ⟨Jh,by simp,Jg,fun _=>qv _ _,K3,fun _=>qv _ _,WC,fun _=>qv _ _,zdG,fun _=>qv _ _,trivial⟩
theorem Ver.ok.small {v:Ver} (h:v.ok):yL v.pre:=h.2.2.2
set_option maxHeartbeats 2000000 in
theorem zbF (o:List UInt8) (v:Ver) (m:Int) (ho:znq o) (hv:v.ok) (hm:1≤m∧m≤3):∃r0,zg zwe f211 [str o,.agg v.enc,int m]=some r0∧Stands r0 (Qd o v m):=by
 refine qt (sh:=.s 11 y9) rfl ?_
 have hsm:=hv.small
 have hup:=fun hp nx=>Wz vB (fun m=>1≤m∧m≤3) v m (.agg v.enc) hp nx hv hm (Z3 v) (WA v hp) (WB v)
 have hct:=fun hp nx=>Wz jk (fun m=>1≤m∧m≤3) v m (.agg v.enc) hp nx hv hm (Z3 v) (WA v hp) (WB v)
 have hra:=fun (i:Int) (hi:0≤i∧i<3) hp nx=>Wz jj (fun i=>0≤i∧i<3) v i (.agg v.enc) hp nx hv hi (Z3 v) (WA v hp) (WB v)
 have hle:∀(hp:Hp) (nx:Nat),zG [] (QF zab) [] hp nx=some (.agg [int leastC.v.a,int leastC.v.b,int leastC.v.c,.sl 1 (zD leastC.v.pre),boo leastC.after],hp,nx):=fun hp nx=>kr _ hp nx
 have hlo:Qq (v.part m)=⟨v,false⟩:=rfl
 have hsp:yL (v.part m).pre:=hsm
 have hb1:=fun hp nx=>vA leastC (Qq (v.part m)) hp nx zhj (jK hsp)
 have hb2:=fun hp nx=>vA leastC (jq (v.part m)) hp nx zhj (ku hsp)
 have hb3:=fun hp nx=>vA (Qq (v.part m)) (jq (v.part m)) hp nx (jK hsp) (ku hsp)
 have hb4:=fun i hp nx=>vA (Qq (v.part m)) (qV (v.part m) i) hp nx (jK hsp) (Zx _ i)
 have hrp:=fun i=>K2 v 3 m i
 simp only[zbb,hlo,Ver.enc,Cut.enc,vB,Wn,jk,jj,yn,(hrp _).1,(hrp _).2] at hup hct hra hb1 hb2 hb3 hb4
 have hw:IntKind.i64.wrap (m - 1)=m - 1:=zc (by omega) (by omega)
 have hhas:(v.part m).has=m:=rfl
 have nall:∀o':List UInt8,o'=o→o'≠wK:=fun o' e=>by
  subst e
  rcases ho with rfl | ho
  ·decide
  ·intro e;rw[e] at ho;revert ho;decide
 have n45:o≠[45]:=by
  rcases ho with rfl | ho
  ·decide
  ·intro e;rw[e] at ho;revert ho;decide
 have n0:=nall o rfl
 have one:∀(X:List Str) (b:Bool),vy (cOf o (v.part m))=(X,b)→zfW o (v.part m)=if b=true then (X,true) else ([],false):=fun X b h=>by unfold zfW;rw[h]
 by_cases s1:o=[62,61]
 ·subst s1
  have hval:=one [qz (Qq (v.part m))] true (by simp[vy,cOf,wK])
  simp at hval
  simp[Ver.enc,Cut.enc,hup,zx,zR,zh,zo,zf,zF,Qd,hval,hlo,zN,qz,Str.enc,cut0,f211]
 have e1:(o==[62,61])=false:=by simpa using s1
 by_cases s2:o=[60]
 ·subst s2
  have hval:=one (btw leastC (Qq (v.part m))) true (by simp[vy,cOf,wK])
  simp at hval
  simp[Ver.enc,Cut.enc,hup,hle,hb1,e1,zx,zR,zh,zo,zf,zF,Qd,hval,hlo,zN,Str.enc,f211]
 have e2:(o==[60])=false:=by simpa using s2
 by_cases s3:o=[62]
 ·subst s3
  have hval:=one [qz (jq (v.part m))] (xz (v.part m)) (by simp[vy,cOf,wK])
  cases hB:xz (v.part m)
  ·rw[hB] at hval hup
   simp at hval
   simp[Ver.enc,Cut.enc,hup,e1,e2,zx,zR,zh,zo,zf,zF,Qd,hval,zN,f211]
  ·rw[hB] at hval hup
   simp at hval
   simp[Ver.enc,Cut.enc,hup,e1,e2,zx,zR,zh,zo,zf,zF,Qd,hval,zN,qz,Str.enc,cut0,f211]
 have e3:(o==[62])=false:=by simpa using s3
 by_cases s4:o=[60,61]
 ·subst s4
  have hval:=one (btw leastC (jq (v.part m))) (xz (v.part m)) (by simp[vy,cOf,wK])
  cases hB:xz (v.part m)
  ·rw[hB] at hval hup
   simp at hval
   simp[Ver.enc,Cut.enc,hup,hle,hb2,e1,e2,e3,zx,zR,zF,Qd,hval,zN,f211]
  ·rw[hB] at hval hup
   simp at hval
   simp[Ver.enc,Cut.enc,hup,hle,hb2,e1,e2,e3,zx,zR,zF,Qd,hval,zN,Str.enc,Cut.enc,f211]
 have e4:(o==[60,61])=false:=by simpa using s4
 by_cases s6:o=[126]
 ·subst s6
  have hval:=one (btw (Qq (v.part m)) (qV (v.part m) (min (m - 1) 1).toNat)) (yB (v.part m) (min (m - 1) 1).toNat) (by simp[vy,cOf,wK,hhas])
  have hmin:(if 1<m - 1 then 1 else m - 1)=(((min (m - 1) 1).toNat:Nat):Int):=by split<;>omega
  have hmn:(min (m - 1) 1).toNat<3:=by omega
  have hra1:=hra (((min (m - 1) 1).toNat:Nat):Int) (by omega)
  simp only[Int.toNat_natCast] at hra1
  rw[←hmin] at hra1
  obtain⟨i,hi⟩:∃i,(min (m - 1) 1).toNat=i:=⟨_,rfl⟩
  rw[hi] at hval hra1
  have hb5:=fun hp nx=>hb4 i hp nx
  cases hB:yB (v.part m) i
  ·rw[hB] at hval hra1
   simp at hval
   simp[Ver.enc,Cut.enc,hup,hw,hra1,hb5,e1,e2,e3,e4,zx,zR,zF,Qd,hval,zN,f211]
  ·rw[hB] at hval hra1
   simp at hval
   simp[Ver.enc,Cut.enc,hup,hw,hra1,hb5,e1,e2,e3,e4,zx,zR,zF,Qd,hval,hlo,zN,Str.enc,f211]
 have e6:(o==[126])=false:=by simpa using s6
 by_cases s7:o=[94]
 ·subst s7
  have hval:=one (btw (Qq (v.part m)) (qV (v.part m) (wD (v.part m)))) (yB (v.part m) (wD (v.part m))) (by simp[vy,cOf,wK])
  have hci:=zlu (v.part m)
  have hra1:=hra ((wD (v.part m):Nat):Int) (by omega)
  simp only[Int.toNat_natCast] at hra1
  obtain⟨i,hi⟩:∃i,wD (v.part m)=i:=⟨_,rfl⟩
  rw[hi] at hval hra1 hct
  have hb5:=fun hp nx=>hb4 i hp nx
  cases hB:yB (v.part m) i
  ·rw[hB] at hval hra1
   simp at hval
   simp[Ver.enc,Cut.enc,hup,hct,hra1,hb5,e1,e2,e3,e4,e6,zx,zR,zF,Qd,hval,zN,f211]
  ·rw[hB] at hval hra1
   simp at hval
   simp[Ver.enc,Cut.enc,hup,hct,hra1,hb5,e1,e2,e3,e4,e6,zx,zR,zF,Qd,hval,hlo,zN,Str.enc,f211]
 have e7:(o==[94])=false:=by simpa using s7
 have hval:=one (btw (Qq (v.part m)) (jq (v.part m))) (xz (v.part m)) (by simp[vy,cOf,n0,s1,s2,s3,s4,n45,s6,s7])
 cases hB:xz (v.part m)
 ·rw[hB] at hval hup
  simp at hval
  simp[Ver.enc,Cut.enc,hup,hb3,e1,e2,e3,e4,e6,e7,zx,zR,zF,Qd,hval,zN,f211]
 ·rw[hB] at hval hup
  simp at hval
  simp[Ver.enc,Cut.enc,hup,hb3,e1,e2,e3,e4,e6,e7,zx,zR,zF,Qd,hval,hlo,zN,Str.enc,f211]
theorem Xn:za prog 211 (zG [.a,.g jP] zuJ) :=
 zZ (fn:=f211) zrz ⟨_,func211,by kernel_rfl,rfl,by kernel_rfl⟩ _ _ fun args r h=>by
  obtain⟨⟨o,v,m⟩,rfl,⟨h1,h2,h5⟩,rfl⟩:=ze h
  obtain⟨r0,h3,h4⟩:=zbF o v m h1 h2 h5
  exact⟨by simp[f211],r0,h3,h4⟩
def YE (l:List Tok):List (List PV):=l.map fun a=>[str a.1,str a.2]
def zkg (s:List UInt8):List Tok×Bool:=match jy (wd s) with
 | some l=>(l,!l.isEmpty)
 | none=>([],false)
def znr (s:List UInt8):PV:=.tup [.sl 2 (YE (zkg s).1),boo (zkg s).2]
noncomputable abbrev zwf:Ctx:=zC prog [(141,zd false [] (FTT tbP fun _ b=>zle b)),(240,zd false [] (FSP zru)),(239,zd false [] (FTT tlP fun _ b=>zle b)),(241,zd false [] (FSB ibP))]
theorem zrA:AM.Good zwf (fun g=>([]:List Nat).contains g):=zk mixed ⟨Kv,by simp,K4,by simp,vu,by simp,Kw,by simp,trivial⟩
theorem zdS (a:List UInt8) (hp:Hp) (nx:Nat) (h:a.length≤lim):zd false [] (FTT tlP fun _ b=>zle b) [str a,str [32]] hp nx=some (str (Lib.trimLeftB a 32),hp,nx):=wq _ _ a [32] hp nx h (by decide) ⟨32,rfl,by decide⟩ rfl
theorem zl2 (a:List UInt8) (hp:Hp) (nx:Nat) (h:a.length≤lim):zd false [] (FTT tbP fun _ b=>zle b) [str a,str [32]] hp nx=some (str (Lib.trimB a 32),hp,nx):=wq _ _ a [32] hp nx h (by decide) ⟨32,rfl,by decide⟩ rfl
theorem zrB:∀s:List UInt8,(Lib.indexByte s 32=((hd s).length:Int)∧(hd s).length<s.length)∨(Lib.indexByte s 32=-1∧hd s=s)
 | []=>.inr ⟨rfl,rfl⟩
 | c::s=>by
   by_cases hc:c=32
   ·subst hc
    exact .inl ⟨by simp[Lib.indexByte,hd],by simp[hd]⟩
   ·have hh:hd (c::s)=c::hd s:=by simp[hd,hc]
    rcases zrB s with⟨h1,h2⟩ | ⟨h1,h2⟩
    ·refine .inl ⟨?_,by rw[hh];simpa using h2⟩
     rw[hh]
     have:¬Lib.indexByte s 32=-1:=by omega
     simp[Lib.indexByte,hc,h1]
     try omega
    ·refine .inr ⟨?_,by rw[hh,h2]⟩
     simp[Lib.indexByte,hc,h1]
theorem zrC (s:List UInt8):s.take (hd s).length=hd s∧s.drop (hd s).length=tl s:=by
 have h:=zdH s
 exact⟨(List.prefix_iff_eq_take.1 ⟨tl s,h⟩).symm,by have:=congrArg (List.drop (hd s).length) h;simpa using this.symm⟩
def zsI:PV→Nat
 | .v (.string s)=>s.size
 | _=>0
theorem zbG (l:List Tok):(YE l).length=l.length:=by simp[YE]
theorem zoZ (l:List Tok):(YE l).map (Yc [none,none])=YE l:=by simp[YE]
def WoI (s0:List UInt8) (st:St):Prop:=∃(s:List UInt8) (l:List Tok),st.σ 0=str s∧zoO s∧s.length+l.length≤s0.length∧OwnS st.hp st.nx 218 2 (st.σ 4) (YE l)∧jy (wd s0)=(jy (wd s)).map (l++·)
theorem zqh {s0 s:List UInt8} {l:List Tok} {a:Tok} {st:St} (h0:st.σ 0=str (Lib.trimLeftB s 32)) (hs:(Lib.trimLeftB s 32).length+(l.length+1)≤s0.length) (hO:OwnS st.hp st.nx 218 2 (st.σ 4) (YE l++[[str a.1,str a.2]])) (he:jy (wd s0)=(jy (wd s)).map (fun x=>l++[a]++x)):WoI s0 st :=
 ⟨Lib.trimLeftB s 32,l++[a],h0,xE s,by simpa using hs,by simpa[YE] using hO,by rw[he,WD]⟩
set_option maxHeartbeats 2000000 in
theorem zfZ (t:List UInt8) (ht:t.length≤lim):∃r0,zg zwf f207 [str t]=some r0∧Stands r0 (znr t):=by
 refine qt (sh:=.s 2 [none,none]) rfl ?_
 have htb:=fun hp nx=>zl2 t hp nx ht
 have hlen:(Lib.trimB t 32).length≤t.length:=by
  have h1:=WE (Lib.trimRightB t 32)
  have h2:(Lib.trimRightB t 32).length≤t.length:=by
   unfold Lib.trimRightB
   rw[List.length_reverse]
   exact Nat.le_trans (List.dropWhile_sublist _).length_le (by simp)
  exact Nat.le_trans h1 h2
 have hR:∀l:List Tok,jy (wd t)=some l→zkg t=(l,!l.isEmpty):=fun l h=>by unfold zkg;rw[h]
 have hN:jy (wd t)=none→zkg t=([],false):=fun h=>by unfold zkg;rw[h]
 simp[htb]
 refine kX (WoI t) (fun st=>zsI (st.σ 0)) ⟨Lib.trimB t 32,[],by simp,xE _,by simpa using hlen,.inl ⟨by simp,rfl⟩,by rw[zoN];cases jy (wd t)<;>rfl⟩ ?_
 rintro⟨σ,hp,nx⟩ ⟨s,l,h0,htr,hsl,hO,he⟩
 simp only at h0 hO
 by_cases hs:s=[]
 ·subst hs
  have he':jy (wd t)=some l:=by rw[he,zfQ];simp[jy]
  have hr:=hR l he'
  have hfx:=zoZ l
  have hkl:=zbG l
  have hb1:(decide (0<l.length))=!l.isEmpty:=by cases l<;>simp
  rcases hO with⟨h4,hn⟩ | ⟨id,hid,h4,hb⟩
  ·have hl:l=[]:=by simpa[YE] using hn
   subst hl
   simp[h0,h4,zF,znr,hr,YE,f207]
  ·rw[hkl] at h4
   have htk:(YE l).take l.length=YE l:=List.take_of_length_le (by omega)
   simp[h0,h4,hb,hkl,htk,hfx,hb1,zF,znr,hr,f207]
 ·have hh:hd s≠[]:=htr.resolve_left hs
  have hs':s.isEmpty=false:=by cases s with
   | nil=>exact absurd rfl hs
   | cons c s=>rfl
  have hst:=zoR hh
  have hlt:=fun h=>zoS (s:=s) h
  unfold lim at ht
  have hslim:s.length≤lim:=by unfold lim;omega
  have hop:=fun hp nx=>JR zru s hp nx hslim rfl
  have hdr:=ki sgs s
  have hpx:(opW sgs s).1.length≤s.length:=by
   rcases Z2 sgs s with h | h
   ·rw[h];simp
   ·by_cases hz:(opW sgs s).1=[]
    ·rw[hz];simp
    ·exact (zbC sgs s hz).2.length_le
  have hrl:=QG sgs s
  simp only[zru] at hop
  unfold zoQ at hst hlt
  simp only at hst hlt
  obtain⟨o,r,hor⟩:∃o r,opW sgs s=(o,r):=⟨_,_,rfl⟩
  rw[hor] at hop hdr hpx hrl hst hlt
  simp only at hop hdr hpx hrl hst hlt
  have htl:=fun hp nx=>zdS r hp nx (by unfold lim;omega)
  have htk:(s.drop o.length).take (s.length - o.length)=r:=by rw[hdr];exact List.take_of_length_le (by simp)
  obtain⟨s1,hs1⟩:∃s1,Lib.trimLeftB r 32=s1:=⟨_,rfl⟩
  have hs1l:s1.length≤s.length:=by rw[←hs1];exact Nat.le_trans (WE r) hrl
  rw[hs1] at htl hst hlt
  have hix:∀hp nx,zd false [] (FSB ibP) [str s1,.v (.int .u8 32)] hp nx=some (int (Lib.indexByte s1 32),hp,nx):=fun hp nx=>zob ibP s1 32 hp nx (by unfold lim;omega) rfl
  obtain⟨ht1,ht2⟩:=zrC s1
  have htk2:(s1.drop (hd s1).length).take (s1.length - (hd s1).length)=tl s1:=by rw[ht2];exact List.take_of_length_le (by rw[←ht2];simp)
  have hhl:(hd s1).length≤s1.length:=by have:=congrArg List.length (zdH s1);rw[List.length_append] at this;omega
  have htl2:=fun hp nx=>zdS (tl s1) hp nx (by have:=congrArg List.length (zdH s1);rw[List.length_append] at this;unfold lim;omega)
  have hkl:=zbG l
  have hap:=OwnS.append1 (P:=prog) (t:=214) (c:=[str o,str (hd s1)]) hO zu5 zu6 zu7 zu8 rfl (by omega) (by rw[hkl];unfold maxLen;omega) (by rw[hkl];omega)
  have hoe:(s.isEmpty)=false:=hs'
  by_cases hz:hd s1=[]
  ·rw[if_pos hz] at hst
   rw[hst] at he
   have hr:=hN he
   rcases zrB s1 with⟨hi,hil⟩ | ⟨hi,hie⟩
   ·rw[hz] at hi
    simp at hi
    simp[h0,hs,hs',hop,hpx,htk,htl,hix,hi,zF,znr,hr,YE,f207]
   ·have hs1e:s1=[]:=by rw[←hie];exact hz
    subst hs1e
    simp[h0,hs,hs',hop,hpx,htk,htl,hix,hi,zF,znr,hr,YE,f207]
  ·have hlt':=hlt hz
   rw[if_neg hz] at hst
   rw[hst] at he
   have hzl:¬(hd s1).length=0:=fun e=>hz (List.length_eq_zero_iff.1 e)
   have htll:=WE (tl s1)
   have he2:jy (wd t)=(jy (wd (tl s1))).map (fun x=>l++[((o,hd s1):Tok)]++x):=by
    rw[he];cases jy (wd (tl s1))<;>simp
   have hm:zsI (str (Lib.trimLeftB (tl s1) 32))<zsI (σ 0):=by rw[h0];simp[zsI];omega
   rw[h0] at hm
   have hnn:¬((hd s1).length:Int)<0:=by omega
   have hz0:(((hd s1).length:Int)==0)=false:=by simpa using hz
   rcases zrB s1 with⟨hi,hil⟩ | ⟨hi,hie⟩
   ·simp[h0,hs,hs',hop,hpx,htk,htl,hix,hi,hnn,hz0,hz,hzl,hhl,ht1,htk2,htl2,hap,zx,zR,zh,zo,zf]
    exact⟨zqh (s:=tl s1) (l:=l) (a:=(o,hd s1)) (by simp) (by omega) (by simpa using OwnS.after) he2,by simpa[zsI] using hm⟩
   ·rw[hie] at hzl ht1 htk2 hhl hap he2
    have hzl':s1≠[]:=fun e=>hzl (by rw[e];rfl)
    rw[hie] at hz0
    have hte:tl s1=[]:=by
     have:=congrArg List.length (zdH s1)
     rw[List.length_append,hie] at this
     exact List.length_eq_zero_iff.1 (by omega)
    rw[hte] at htl2 he2 htll hm
    simp[h0,hs,hs',hop,hpx,htk,htl,hix,hi,hz0,hzl,hzl',htl2,hap,zx,zR,zh,zo,zf]
    exact⟨zqh (s:=[]) (l:=l) (a:=(o,s1)) (by simp) (by have h9:=List.length_pos_iff.2 hs;rw[show Lib.trimLeftB [] 32=[] from rfl,List.length_nil];omega) (by simpa using OwnS.after) he2,by simpa[zsI] using hm⟩
theorem zdT:za prog 207 (zd false [] (FSP znr)) :=
 xw (fn:=f207) zrA ⟨_,func207,by kernel_rfl,rfl,by kernel_rfl⟩ false [] _ fun args r h w S vs hz=>by
  obtain⟨l,rfl,hp,rfl⟩:=ze h
  obtain⟨r0,h1,h2⟩:=zfZ l hp
  exact⟨_,r0,hz,by simp[f207],h1,h2⟩
theorem zbH {s:List UInt8} {p:Part} (h:QX s=some p):(rvR s).2.2=true∧(rvR s).2.1=p.has∧(rvR s).2.1≠0∧p=(rvR s).1.part (rvR s).2.1∧(rvR s).1.ok∧1≤p.has∧p.has≤3:=by
 have h':=h
 rw[zlQ] at h
 split at h
 ·rename_i hc
  injection h with h
  obtain⟨_,_,hp,hg⟩:=jM h'
  subst h
  obtain⟨a,b,c,⟨d1,d2⟩,e⟩:=hp
  exact⟨hc.1,rfl,hc.2,rfl,⟨a,b,c,e⟩,d1,d2⟩
 ·cases h
theorem zbI {s:List UInt8} (h:QX s=none):(rvR s).2.2=false∨(rvR s).2.1=0:=by
 rw[zlQ] at h
 split at h
 ·cases h
 ·rename_i hc
  by_cases h0:(rvR s).2.1=0
  ·exact .inr h0
  ·left
   cases hb:(rvR s).2.2
   ·rfl
   ·exact absurd ⟨hb,h0⟩ hc
noncomputable def zl3 (a b:List UInt8):List Str×Int:=match QX a,QX b with
 | some p,some q=>((zhC p q).1,if (zhC p q).2=true then 0 else 1)
 | _,_=>([],10)
noncomputable def K8 (a b:List UInt8):PV:=.tup [.sl 11 (zN (zl3 a b).1),int (zl3 a b).2]
def zuK (a b:List UInt8):Prop:=a.length+1≤lim∧b.length+1≤lim
noncomputable abbrev zwg:Ctx:=zC prog [(159,zd false [] (VU rvP)),(242,zG [.g jP] (FVI vB fun m=>1≤m∧m≤3)),(243,zG [.g y8,.g y8] (FCC zbb))]
theorem zrD:AM.Good zwg (fun g=>([]:List Nat).contains g):=zk mixed ⟨ji,by simp,Jh,by simp,K3,by simp,trivial⟩
set_option maxHeartbeats 1000000 in
theorem zbJ (a b:List UInt8) (hab:zuK a b):∃r0,zg zwg f208 [str a,str b]=some r0∧Stands r0 (K8 a b):=by
 obtain⟨ha,hb⟩:=hab
 refine qt (sh:=.s 11 y9) rfl ?_
 have ra:=fun hp nx=>wu rvP a hp nx ha
 have rb:=fun hp nx=>wu rvP b hp nx hb
 simp only[rvP,Ver.enc] at ra rb
 cases hA:QX a with
 | none =>
   have hv:zl3 a b=([],10):=by unfold zl3;rw[hA]
   rcases zbI hA with h | h
   ·simp[ra,rb,h,zF,K8,hv,zN,f208]
   ·cases h1:(rvR a).2.2<;>cases h2:(rvR b).2.2<;>simp[ra,rb,h,h1,h2,zF,K8,hv,zN,f208]
 | some p =>
   obtain⟨p1,p2,p3,p4,p5,p6,p7⟩:=zbH hA
   have p3':((rvR a).2.1==0)=false:=by simpa using p3
   cases hB:QX b with
   | none =>
     have hv:zl3 a b=([],10):=by unfold zl3;rw[hA,hB]
     rcases zbI hB with h | h
     ·simp[ra,rb,p1,p3',h,zF,K8,hv,zN,f208]
     ·cases h2:(rvR b).2.2<;>simp[ra,rb,p1,p3',h,h2,zF,K8,hv,zN,f208]
   | some q =>
     obtain⟨q1,q2,q3,q4,q5,q6,q7⟩:=zbH hB
     have q3':((rvR b).2.1==0)=false:=by simpa using q3
     have hv:zl3 a b=((zhC p q).1,if (zhC p q).2=true then 0 else 1):=by unfold zl3;rw[hA,hB]
     rw[←q2] at q6 q7
     have hup:=fun hp nx=>Wz vB (fun m=>1≤m∧m≤3) (rvR b).1 (rvR b).2.1 (.agg (rvR b).1.enc) hp nx q5 ⟨q6,q7⟩ (Z3 _) (WA _ hp) (WB _)
     have hlo:Qq p=⟨(rvR a).1,false⟩:=by rw[p4];rfl
     have hsp:yL p.pre:=by rw[p4];exact p5.small
     have hsq:yL q.pre:=by rw[q4];exact q5.small
     have hbt:=fun hp nx=>vA (Qq p) (jq q) hp nx (jK hsp) (ku hsq)
     simp only[zbb,hlo,Ver.enc,Cut.enc,vB,Wn,←q4] at hup hbt
     cases hh:xz q
     ·rw[hh] at hup
      have hx:zhC p q=([],false):=by unfold zhC;rw[hh];rfl
      rw[hx] at hv
      simp[ra,rb,p1,p3',q1,q3',hup,zF,K8,hv,zN,f208]
     ·rw[hh] at hup
      have hx:zhC p q=(btw (Qq p) (jq q),true):=by unfold zhC;rw[hh];rfl
      rw[hx] at hv
      simp[ra,rb,p1,p3',q1,q3',hup,hbt,zx,zR,zF,K8,hv,hlo,zN,Str.enc,Cut.enc,f208]
theorem Xo:za prog 208 (zd false [] (zJ (α:=List UInt8×List UInt8) (fun a=>[str a.1,str a.2]) (fun a=>zuK a.1 a.2) fun a=>K8 a.1 a.2)) :=
 xw (fn:=f208) zrD ⟨_,func208,by kernel_rfl,rfl,by kernel_rfl⟩ false [] _ fun args r h w S vs hz=>by
  obtain⟨⟨a,b⟩,rfl,hp,rfl⟩:=ze h
  obtain⟨r0,h1,h2⟩:=zbJ a b hp
  exact⟨_,r0,hz,by simp[f208],h1,h2⟩
noncomputable def zwh:List PV→Option PV:=zJ (α:=List UInt8×List UInt8) (fun a=>[str a.1,str a.2]) (fun a=>zuK a.1 a.2) fun a=>K8 a.1 a.2
theorem zl4 (a b:List UInt8) (hp:Hp) (nx:Nat) (h:zuK a b):zd false [] zwh [str a,str b] hp nx=some (K8 a b,hp,nx) :=
 zH rfl (zm (enc:=fun a:List UInt8×List UInt8=>[str a.1,str a.2]) (a:=(a,b)) zk8 h) (.inr (by simp))
end Go.Proofs.YtjcofiomfmebkaaGreatDoor
namespace Go.AM
open Go.RowKit Go.Proofs
variable {dr:Prop}
def GrowOk (P:Program) (f e s by_:Nat):Prop :=
 (∀w,Calls P f #[.slice none 0 0,.int .i64 0] w fun r w'=>r=.returned (.slice none 0 0)∧w'=w) ∧
 ∀(n:Nat) (w:World),0<n→n*by_≤140737488355328→n≤4611686018427387904→Calls P f #[.slice none 0 0,.int .i64 n] w fun r w' =>
  ∃cap cur,cap≤maxLen∧cur.size=cap*s∧r=.returned (.slice (some ⟨w.heap.size,0,none⟩) 0 cap)∧w'=w.drew.alloc (.cells cur e)
theorem GrowOk.of {P:Program} {ρ:Go.Shelf.Ren} (L:Lays8.n4 P ρ) {s by_:Nat} {z:List PV} (hs:zS P (ρ.t 25)=some s) (hb:wL P (ρ.t 25)=some by_) (hz:wy P (ρ.t 25)=some z) (hl:z.length=s) (h0:0<s):GrowOk P (ρ.f 4) (ρ.t 25) s by_:=by
 obtain⟨i,v,hi,hv,hc⟩:=ky hz
 obtain⟨i',hi',his⟩:=kT hs
 rw[hi] at hi'
 injection hi' with hi'
 subst hi'
 have hib:i.bytes=by_:=by
  unfold wL at hb
  rw[hi] at hb
  simpa using hb
 have hzc:v.cells.size=s:=by
  have:=(qL (w:=default) (S:=fun _=>False) hc).1
  rw[hl] at this
  simpa using this.symm
 refine⟨fun w=>Any8.slices_Grow_room L none 0 0 0 w (by omega) (by omega) (by omega) (by omega),fun n w hn hb hm=>?_⟩
 refine (Any8.slices_Grow_grow L i v hi hv (by omega) none 0 0 n [] w (by omega) (by omega) (by rw[hib];simpa using hb) (by omega) (by simp) (fun _=>rfl) (fun a h=>(nomatch h))).mono fun r w' hh=>?_
 obtain⟨rfl,rfl⟩:=hh
 rw[Nat.zero_add] at *
 have hge:n≤grownCap w n 0 (ρ.t 25):=grownCap_ge _ _ _ _
 refine⟨_,_,grownCap_le_maxLen w n 0 (ρ.t 25) (by unfold maxLen;omega),?_,rfl,rfl⟩
 rw[Array.size_append,Array.size_append,size_zeroCells,size_zeroCells,hzc]
 simp only[List.size_toArray,List.length_nil,Nat.zero_add,Nat.sub_zero]
 rw[←Nat.add_mul]
 congr 1
 omega
def zjh (e s by_:Nat):AM.Spec:=fun args hp nx=>match args with
 | [.nil,.v (.int .i64 n)]=>if n=0 then some (.nil,hp,nx) else if 0<n∧n*by_≤140737488355328∧n≤4611686018427387904 then some (.own nx 0 0,upd hp nx (some ⟨e,s,true,[]⟩),nx+1) else none
 | _=>none
theorem zf0 {P:Program} {f e s by_:Nat} (hfn:∃fn,P.funcs[f]?=some fn∧(fn.name== "runtime.NumGoroutine")=false∧fn.body.isNone=false) (hsz:zS P e=some s) (hs0:0<s) (h:GrowOk P f e s by_):jt dr P f (zjh e s by_):=by
 refine⟨hfn,?_⟩
 intro args hp nx r hp' nx' hh w S G vs hi hz
 unfold zjh at hh
 split at hh
 ·rename_i n
  obtain⟨u,us,rfl,hu,hz'⟩:=hz.uncons
  obtain⟨v,us,rfl,hv,hz'⟩:=hz'.uncons
  obtain rfl:=hz'.unnil
  obtain rfl:=hu.nil_inv
  obtain⟨rfl,_⟩:=hv.v_inv
  split at hh
  ·rename_i hn
   subst hn
   injection hh with hh
   injection hh with e1 hh
   injection hh with e2 e3
   subst e1;subst e2;subst e3
   refine (h.1 w).mono fun r w' hr=>?_
   obtain⟨rfl,rfl⟩:=hr
   exact⟨_,_,_,rfl,.refl hi,.c .nil⟩
  ·split at hh
   ·rename_i hn0 hc
    injection hh with hh
    injection hh with e1 hh
    injection hh with e2 e3
    subst e1;subst e2;subst e3
    obtain⟨m,rfl⟩:∃m:Nat,n=m:=⟨n.toNat,by omega⟩
    refine (h.2 m w (by omega) (Int.ofNat_le.1 (by rw[Int.natCast_mul];exact hc.2.1)) (by have:=hc.2.2;omega)).mono fun r w' hr=>?_
    obtain⟨cap,cur,h1,h2,rfl,rfl⟩:=hr
    have k1:=Stp.drew (dr:=dr) hi
    obtain⟨i,hii,hisz⟩:=kT hsz
    have k2:=Stp.alloc (dr:=dr) k1.inv cur e true [] s hs0 (by rw[hii];simp[hisz]) (by simp) (by simp) (by simp)
    refine⟨_,_,_,rfl,k1.trans k2,?_⟩
    have:=RepO.own (w:=w.drew.alloc (.cells cur e)) (S:=S) (G:=upd G nx ⟨w.drew.heap.size,cur.size,s⟩) (nx:=nx+1) (id:=nx) (off:=0) (n:=0) (cap:=cap) (by omega) (by omega) h1 (by rw[qd];show (0+cap)*s=cur.size;rw[h2,Nat.zero_add]) (by rw[qd];exact hs0)
    rw[qd] at this
    have e0:0*s=0:=Nat.zero_mul s
    simp only[e0] at this
    exact this
   ·cases hh
 ·cases hh
theorem OwnS.appendL {P:Program} {hp:Hp} {nx e s by_:Nat} {v:PV} {xs:List (List PV)} {ys:List (List PV)} {z:List PV} {t:TypeId} (h:OwnS hp nx e s v xs) (ht:qG P t=some e) (hs:zS P e=some s) (hb:wL P e=some by_) (hz:wy P e=some z)
  (hzl:z.length=s) (h0:0<s) (h1:xs.length+ys.length≤maxLen) (h2:(xs.length+ys.length)*by_≤140737488355328) :
  ∃v' hp' nx',qY P hp nx t t v (.sl s ys)=some (v',hp',nx')∧OwnS hp' nx' e s v' (xs++ys)∧nx≤nx':=by
 rcases h with⟨rfl,rfl⟩ | ⟨id,hid,rfl,hh⟩
 ·simp at h1 h2
  by_cases hy:ys=[]
  ·subst hy
   exact⟨.nil,hp,nx,by simp[qY,ht,hs,hb,hz,hzl,h0,AM.view,maxLen],.inl ⟨rfl,rfl⟩,Nat.le_refl _⟩
  ·exact⟨.own nx 0 ys.length,_,nx+1,by simp[qY,ht,hs,hb,hz,hzl,h0,h1,h2,AM.view,hy];rfl,.inr ⟨nx,by omega,by simp,by simp⟩,by omega⟩
 ·exact⟨.own nx 0 (xs.length+ys.length),_,nx+1,by simp[qY,ht,hs,hb,hz,hzl,h0,h1,h2,AM.view,hh];rfl,.inr ⟨nx,by omega,by simp,by simp⟩,by omega⟩
end Go.AM
namespace Go.Proofs
open Go.Shelf
def Tryz.growR_ren:Go.Shelf.Ren:=⟨fun | 4=>246 | n=>n,fun | 22=>118 | 25=>164 | 0=>0 | 3=>3 | 4=>4 | 9=>9 | 20=>20 | n=>n,fun | n=>n⟩
theorem Tryz.growR:Go.Proofs.Lays8.n4 prog Tryz.growR_ren:={
 mixed:=by kernel_rfl
 f4:=⟨f246.name,by decide,func246.trans (congrArg some (by kernel_rfl))⟩
 t0:=underlying0
 a0:=isAgg0
 z0:=sizeOf0
 v0:=zeroValue0
 t3:=underlying3
 a3:=isAgg3
 z3:=sizeOf3
 v3:=zeroValue3
 t4:=underlying4
 a4:=isAgg4
 z4:=sizeOf4
 v4:=zeroValue4
 t9:=underlying9
 a9:=isAgg9
 z9:=sizeOf9
 v9:=zeroValue9
 t20:=underlying20
 a20:=isAgg20
 z20:=sizeOf20
 v20:=zeroValue20
 t22:=underlying118
 a22:=isAgg118
 z22:=sizeOf118
 v22:=zeroValue118 }
end Go.Proofs
namespace Go.Proofs.YtjcofiomfmebkaaGreatDoor
open Go.Proofs.Tryz
open Go.RowKit Go.AM
theorem zf1:za prog 246 (zjh 164 11 120) :=
 zf0 ⟨_,func246,by decide,by kernel_rfl⟩ ziL (by decide) (GrowOk.of Tryz.growR ziL zk3 zk4 rfl (by omega))
noncomputable def zrE (out:List Str→List Str→PV) (pre:List Str→List Str→Prop):List PV→Option PV:=zJ (α:=List Str×List Str) (fun a=>[.sl 1 [[.sl 11 (a.1.map Str.enc)],[.sl 11 (a.2.map Str.enc)]]]) (fun a=>pre a.1 a.2) (fun a=>out a.1 a.2)
noncomputable abbrev CcatR:Ctx:=zC prog [(246,zjh 164 11 120)]
theorem zdU (a b:List Str) (ha:a.length≤lim) (hb:b.length≤lim):∃r0,zg CcatR f212 [.sl 1 [[.sl 11 (a.map Str.enc)],[.sl 11 (b.map Str.enc)]]]=some r0∧Stands r0 (.sl 11 ((a++b).map Str.enc)):=by
 have hfin:∀{code},f212.body=some code→EvC CcatR code ⟨yF [.sl 1 [[.sl 11 (a.map Str.enc)],[.sl 11 (b.map Str.enc)]]],fun _=>none,0⟩ (zcL CcatR.P f212 (zfd (.sl 11 ((a++b).map Str.enc))))→∃r0,zg CcatR f212 [.sl 1 [[.sl 11 (a.map Str.enc)],[.sl 11 (b.map Str.enc)]]]=some r0∧Stands r0 (.sl 11 ((a++b).map Str.enc)):=by
  intro code hb h
  obtain⟨r0,h1,h2⟩:=Zo hb h
  exact⟨r0,h1,fun w S u hr=>zg5 hr h2⟩
 refine hfin rfl ?_
 unfold lim at ha hb
 let cs:List (List Str):=[a,b]
 have hcs:cs=[a,b]:=rfl
 simp
 refine zu (fun k σ hp nx=>σ 0=.sl 1 [[.sl 11 (a.map Str.enc)],[.sl 11 (b.map Str.enc)]]∧σ 9=.sl 1 [[.sl 11 (a.map Str.enc)],[.sl 11 (b.map Str.enc)]]∧σ 10=int 2∧σ 11=int k∧σ 3=int (((cs.take k).map List.length).sum:Nat)) 2
  ⟨by simp,by simp,by simp,by simp,by simp⟩ ?_
 rintro k σ hp nx hk ⟨h0,h9,h10,h11,h3⟩
 obtain rfl | rfl | rfl:k=0∨k=1∨k=2:=by omega
 ·simp[hcs] at h3
  have w1:IntKind.i64.wrap (a.length:Int)=a.length:=zc (by omega) (by omega)
  have w2:IntKind.i64.wrap 1=1:=zc (by omega) (by omega)
  have w3:¬(a.length:Int)<0:=by omega
  simp[h0,h9,h10,h11,h3,w1,w2,w3,hcs]
 ·simp[hcs] at h3
  have w1:IntKind.i64.wrap ((a.length:Int)+b.length)=a.length+b.length:=zc (by omega) (by omega)
  have w2:IntKind.i64.wrap 2=2:=zc (by omega) (by omega)
  have w3:¬(a.length:Int)+b.length<0:=by omega
  simp[h0,h9,h10,h11,h3,w1,w2,w3,hcs]
 ·simp[hcs] at h3
  have hg:∀hp nx,∃v hp' nx',zjh 164 11 120 [.nil,int ((a.length:Int)+b.length)] hp nx=some (v,hp',nx')∧OwnS hp' nx' 164 11 v []:=fun hp nx=>by
   by_cases hz:(a.length:Int)+b.length=0
   ·exact⟨.nil,hp,nx,by simp[zjh,hz],.inl ⟨rfl,rfl⟩⟩
   ·exact⟨.own nx 0 0,upd hp nx (some ⟨164,11,true,[]⟩),nx+1,by
     show (if (a.length:Int)+b.length=0 then _ else _)=_
     rw[if_neg hz,if_pos ⟨by omega,by omega,by omega⟩],.inr ⟨nx,by omega,rfl,by simp⟩⟩
  obtain⟨v,hp',nx',hg1,hO⟩:=hg hp nx
  simp[h0,h9,h10,h11,h3,hg1]
  refine zu (fun k σ hp nx=>σ 25=.sl 1 [[.sl 11 (a.map Str.enc)],[.sl 11 (b.map Str.enc)]]∧σ 26=int 2∧σ 27=int k∧OwnS hp nx 164 11 (σ 6) (((cs.take k).flatten).map Str.enc)) 2
   ⟨by simp,by simp,by simp,by simpa using hO⟩ ?_
  rintro k σ hp nx hk ⟨h25,h26,h27,hO⟩
  obtain rfl | rfl | rfl:k=0∨k=1∨k=2:=by omega
  ·simp[hcs] at hO
   obtain⟨v',hp',nx',ha1,hO',_⟩:=hO.appendL (P:=prog) (t:=118) (ys:=a.map Str.enc) zn9 ziL zk3 zk4 rfl (by omega) (by simp[maxLen];omega) (by simp;omega)
   have w2:IntKind.i64.wrap 1=1:=zc (by omega) (by omega)
   simp at hO'
   simp[h25,h26,h27,ha1,w2,hcs]
   exact hO'
  ·simp[hcs] at hO
   obtain⟨v',hp',nx',ha1,hO',_⟩:=hO.appendL (P:=prog) (t:=118) (ys:=b.map Str.enc) zn9 ziL zk3 zk4 rfl (by omega) (by simp[maxLen];omega) (by simp;omega)
   have w2:IntKind.i64.wrap 2=2:=zc (by omega) (by omega)
   simp[h25,h26,h27,ha1,w2,hcs]
   simpa using hO'
  ·simp[hcs] at hO
   have:=hO.freeze nx
   simp[h25,h26,h27,f212]
   exact this
noncomputable def zji:List PV→Option PV:=zrE (fun a b=>.sl 11 ((a++b).map Str.enc)) fun a b=>a.length≤lim∧b.length≤lim
theorem zbK:za prog 212 (zd true [] zji) :=
 xw (fn:=f212) (zk (q:=[]) mixed ⟨zf1,by simp,trivial⟩:AM.Good CcatR _) ⟨_,func212,by kernel_rfl,rfl,by kernel_rfl⟩ true [] _ fun args r h w S vs hz=>by
  unfold zji zrE at h
  obtain⟨⟨a,b⟩,rfl,hx,rfl⟩:=ze h
  obtain⟨r0,h1,h2⟩:=zdU a b hx.1 hx.2
  exact⟨_,r0,hz,Nat.le_trans (Nat.le_refl 1) (by decide),h1,h2⟩
end Go.Proofs.YtjcofiomfmebkaaGreatDoor
