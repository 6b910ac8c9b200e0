/-
The reference's versions: comparing versions and cuts, what a range covers, reading.
Plain law: versions that can be partial, as the reference reads them.
The reference's versions: reading one that can be partial.
The reference's ranges: the least cut, raised cuts, the range of a comparison, operators.
Plain law: the words of an alternative, as the reference cuts them.
-/
import Derived.Test.YtpeaooooimfihaaGreatDoorG22
import Derived.Test.YtpeaooooimfihaaGreatDoorG20
import Derived.Test.YtpeaooooimfihaaGreatDoorG18
set_option maxRecDepth 8000
namespace Go.Proofs.YtpeaooooimfihaaGreatDoor
open Go.Proofs.Tryz
open Go.RowKit Go.AM
noncomputable abbrev Crcv:Ctx:=zF prog [(60,zf false [] (F2I cmpI)),(95,zf false [] FOr),(224,zf false [] (FTT (fun a b=>int (zT a b)) fun _ _=>True))]
theorem goodrcv:AM.Good Crcv (fun g=>[60,95,224].contains g):=zm mixed ⟨yX,fun _=>zg _ _,or_sound,fun _=>zg _ _,rcomparePre_sound,fun _=>zg _ _,trivial⟩
set_option maxHeartbeats 1000000 in
theorem rcompareVersions_eval (v w:Ver) (hv:v.small) (hw:w.small):zj Crcv f203 [.agg v.enc,.agg w.enc]=some (int (cmpV v w)):=by
 obtain⟨a,b,c,p⟩:=v
 obtain⟨a',b',c',p'⟩:=w
 obtain⟨hp1,hp2⟩:=hv
 obtain⟨hq1,hq2⟩:=hw
 simp only at hp1 hp2 hq1 hq2
 refine zb rfl ?_
 obtain⟨o,ho⟩:∃o,orL [cmpI a a',cmpI b b',cmpI c c']=o:=⟨_,rfl⟩
 have hor:∀(hp:Hp) (nx id:Nat),hp id=some ⟨3,1,true,[[int (cmpI a a')],[int (cmpI b b')],[int (cmpI c c')]]⟩→zf false [] FOr [.own id 0 3] hp nx=some (int o,hp,nx):=fun hp nx id hh=>ho ▸ or_call [_,_,_] hp nx id _ (by show 3≤lim;decide) hh
 have hval:cmpV ⟨a,b,c,p⟩ ⟨a',b',c',p'⟩=if o=0 then (if p.length=0 then (if p'.length=0 then 0 else 1) else if p'.length=0 then -1 else lexL zT p p') else o:=by rw[←ho];rfl
 by_cases h1:o=0
 case neg =>
  have h1':(o != 0)=true:=by simpa using h1
  simp[Ver.enc,hor,zd,zl,zc,h1,h1',hval,f203]
 subst h1
 have hel:(encT p).length=p.length:=by simp[encT]
 have hel':(encT p').length=p'.length:=by simp[encT]
 by_cases h2:p.length=0
 ·have hc:cmpI p'.length 0=if p'.length=0 then 0 else 1:=by unfold cmpI;split<;>(try split)<;>(try split)<;>first | omega | rfl
  simp[Ver.enc,hor,zd,zl,zc,h2,hval,hel,hel',hc,f203]
 by_cases h3:p'.length=0
 ·have h2':((p.length:Int)==0)=false:=by simpa using h2
  have hc:cmpI 0 p.length=-1:=by unfold cmpI;rw[if_pos (by omega)]
  simp[Ver.enc,hor,zd,zl,zc,h2,h2',h3,hval,hel,hel',hc,f203]
 have h2':((p.length:Int)==0)=false:=by simpa using h2
 have h3':((p'.length:Int)==0)=false:=by simpa using h3
 obtain⟨m,hm,hma,hmb,hmab⟩:=min_nat p.length p'.length
 unfold lim at hp1 hq1
 have hval:cmpV ⟨a,b,c,p⟩ ⟨a',b',c',p'⟩=lexL zT p p':=by rw[hval];simp[h2,h3]
 rw[hval]
 simp[Ver.enc,hor,zd,zl,zc,h2',h3',hel,hel',hm]
 refine zy (fun k σ hp nx=>σ 2=.ref 0 0 0∧σ 3=.ref 1 0 0∧hp 0=some ⟨102,4,false,[[int a,int b,int c,.sl 1 (encT p)]]⟩∧hp 1=some ⟨102,4,false,[[int a',int b',int c',.sl 1 (encT p')]]⟩∧σ 51=int m∧σ 52=int k∧lexL zT p p'=lexL zT (p.drop k) (p'.drop k)) m
  ⟨by simp,by simp,by simp,by simp,by simp,by simp,by simp⟩ ?_
 rintro k σ hp nx hk ⟨g2,g3,b0,b1,g51,g52,he⟩
 by_cases hlt:k<m
 ·have hlp:k<p.length:=by omega
  have hlq:k<p'.length:=by omega
  have hwk:IntKind.i64.wrap ((k:Int)+1)=(k:Int)+1:=zh (by omega) (by omega)
  have hc:=fun hp nx=>cpre_call p[k] p'[k] hp nx (hp2 _ (List.getElem_mem hlp)) (hq2 _ (List.getElem_mem hlq))
  have hg:=xQ hlp
  have hg':=xQ hlq
  rw[List.drop_eq_getElem_cons hlp,List.drop_eq_getElem_cons hlq] at he
  simp only[lexL] at he
  by_cases hz:zT p[k] p'[k]=0
  ·rw[if_pos hz] at he
   simp[g2,g3,g51,g52,b0,b1,hlt,hlp,hlq,hel,hel',hg,hg',hc,hz,hwk]
   exact⟨by omega,he⟩
  ·rw[if_neg hz] at he
   have hz':(zT p[k] p'[k] != 0)=true:=by simpa using hz
   simp[g2,g3,g51,g52,b0,b1,hlt,hlp,hlq,hel,hel',hg,hg',hc,hz',he,f203]
 ·obtain rfl:k=m:=by omega
  rw[lexL_end zT hma hmb hmab] at he
  simp[g2,g3,g51,g52,b0,b1,hel,hel',he,f203]
theorem rcompareVersions_sound:za prog 203 (zC [.g vpat,.g vpat] (FVV2 fun v w=>int (cmpV v w))) :=
 zP (fn:=f203) goodrcv ⟨_,func203,by kernel_rfl,rfl,by kernel_rfl⟩ _ _ fun args r h=>by
  obtain⟨⟨v,w⟩,rfl,⟨h1,h2⟩,rfl⟩:=ze h
  exact⟨by simp[f203],_,rcompareVersions_eval v w h1 h2,Stands.refl _⟩
noncomputable abbrev Crcu:Ctx:=zF prog [(203,zC [.g vpat,.g vpat] (FVV2 fun v w=>int (cmpV v w)))]
theorem goodrcu:AM.Good Crcu (fun g=>([]:List Nat).contains g):=zm mixed ⟨rcompareVersions_sound,by simp,trivial⟩
theorem rcompareCuts_eval (x y:Cut) (hx:x.v.small) (hy:y.v.small):zj Crcu f167 [.agg x.enc,.agg y.enc]=some (int (cmpC x y)):=by
 obtain⟨⟨a,b,c,p⟩,f⟩:=x
 obtain⟨⟨a',b',c',p'⟩,f'⟩:=y
 refine zb rfl ?_
 have hcv:=fun hp nx=>cv_call ⟨a,b,c,p⟩ ⟨a',b',c',p'⟩ hp nx hx hy
 simp only[Ver.enc] at hcv
 by_cases h1:cmpV ⟨a,b,c,p⟩ ⟨a',b',c',p'⟩=0
 ·cases f<;>cases f'<;>simp[Cut.enc,hcv,h1,cmpC,f167]
 ·have h1':(cmpV ⟨a,b,c,p⟩ ⟨a',b',c',p'⟩==0)=false:=by simpa using h1
  simp[Cut.enc,hcv,h1,h1',cmpC,f167]
theorem yd:za prog 167 (zC [.g cpat,.g cpat] (FCC fun v w=>int (cmpC v w))) :=
 zP (fn:=f167) goodrcu ⟨_,func167,by kernel_rfl,rfl,by kernel_rfl⟩ _ _ fun args r h=>by
  obtain⟨⟨v,w⟩,rfl,⟨h1,h2⟩,rfl⟩:=ze h
  exact⟨by simp[f167],_,rcompareCuts_eval v w h1 h2,Stands.refl _⟩
theorem covA_drop {l:List Str} {c:Cut} {k:Nat} (h:k<l.length):covA (l.drop k) c=(covB l[k] c||covA (l.drop (k+1)) c):=by
 rw[List.drop_eq_getElem_cons h];rfl
noncomputable abbrev Crco:Ctx:=zF prog [(167,zC [.g cpat,.g cpat] (FCC fun v w=>int (cmpC v w)))]
theorem goodrco:AM.Good Crco (fun g=>[167].contains g):=zm mixed ⟨yd,fun _=>qq _ _,trivial⟩
theorem rcovers_eval (l:List Str) (c:Cut) (hl:qW l) (hc:c.v.small):zj Crco f126 [.sl 11 (encR l),.agg c.enc]=some (boo (covA l c)):=by
 obtain⟨hl1,hl2⟩:=hl
 refine zb rfl ?_
 unfold lim at hl1
 have hel:(encR l).length=l.length:=by simp[encR]
 simp[hel,Cut.enc]
 refine zy (fun k σ hp nx=>σ 3=.ref 0 0 0∧1≤nx∧hp 0=some ⟨104,5,false,[c.enc]⟩∧σ 7=.sl 11 (encR l)∧σ 8=int l.length∧σ 9=int k∧covA l c=covA (l.drop k) c) l.length
  ⟨by simp,by simp,by simp[Cut.enc],by simp,by simp,by simp,by simp⟩ ?_
 rintro k σ hp nx hk ⟨h3,hnx,b0,h7,h8,h9,he⟩
 by_cases hlt:k<l.length
 ·have hw:IntKind.i64.wrap ((k:Int)+1)=(k:Int)+1:=zh (by omega) (by omega)
  obtain⟨s,hs⟩:∃s,l[k]=s:=⟨_,rfl⟩
  have hss:s.small:=hl2 s (by rw[←hs];exact List.getElem_mem hlt)
  have hke:∀h:k<(encR l).length,(encR l)[k]=s.enc:=fun h=>by simp[encR,hs]
  have h1:=fun hp nx=>vR s.lo c hp nx hss.1 hc
  have h2:=fun hp nx=>vR c s.hi hp nx hc hss.2
  have n0:¬0=nx:=by omega
  have n1:¬nx=0:=by omega
  rw[covA_drop hlt,hs] at he
  have hcb:covB s c=(decide (cmpC s.lo c≤0)&&(s.endless||decide (cmpC c s.hi<0))):=rfl
  simp only[Str.enc,Cut.enc,List.cons_append,List.nil_append] at h1 h2 hke b0
  cases hb:covB s c
  ·rw[hb,Bool.false_or] at he
   rw[hb] at hcb
   by_cases ha:cmpC s.lo c≤0
   ·rw[decide_eq_true ha,Bool.true_and] at hcb
    have hcb':=hcb.symm
    rw[Bool.or_eq_false_iff] at hcb'
    simp[h3,h7,h8,h9,hlt,hel,hke,h1,h2,b0,n0,n1,ha,hcb'.1,hcb'.2,hw,-decide_eq_false_iff_not]
    exact⟨by omega,rfl,he⟩
   ·simp[h3,h7,h8,h9,hlt,hel,hke,h1,h2,b0,n0,n1,ha,hw]
    exact⟨by omega,rfl,he⟩
  ·rw[hb,Bool.true_or] at he
   rw[hb] at hcb
   have hcb':=hcb.symm
   simp only[Bool.and_eq_true,decide_eq_true_eq] at hcb'
   have hcc:=hcb'.2
   cases hen:s.endless
   ·rw[hen,Bool.false_or,decide_eq_true_eq] at hcc
    simp[h3,h7,h8,h9,hlt,hel,hke,h1,h2,b0,n0,n1,hcb'.1,hen,hcc,he,f126]
   ·simp[h3,h7,h8,h9,hlt,hel,hke,h1,h2,b0,n0,n1,hcb'.1,hen,he,f126]
 ·obtain rfl:k=l.length:=by omega
  have he:covA l c=false:=by rw[he,List.drop_length];rfl
  simp[h3,h7,h8,h9,he,f126]
theorem rcovers_sound:za prog 126 (zC [.s 11 spat,.g cpat] (FRC fun l c=>boo (covA l c))) :=
 zP (fn:=f126) goodrco ⟨_,func126,by kernel_rfl,rfl,by kernel_rfl⟩ _ _ fun args r h=>by
  obtain⟨⟨l,c⟩,rfl,⟨h1,h2⟩,rfl⟩:=ze h
  exact⟨by simp[f126],_,rcovers_eval l c h1 h2,Stands.refl _⟩
def kP (w:Int) (a b:Bool):Bool:=if w=0 then a||b else if w=1 then a&&b else a&&!b
def FTk:List PV→Option PV
 | [.v (.int .i64 w),.v (.bool a),.v (.bool b)]=>some (boo (kP w a b))
 | _=>none
@[simp] theorem FTk_call (w:Int) (a b:Bool) (hp:Hp) (nx:Nat):zf false [] FTk [.v (.int .i64 w),.v (.bool a),.v (.bool b)] hp nx=some (boo (kP w a b),hp,nx):=zK rfl rfl (.inl rfl)
theorem takes_sound:za prog 125 (zf false [] FTk) :=
 zO (fn:=f125) wT ⟨_,func125,by kernel_rfl,rfl,by kernel_rfl⟩ false [] _ fun args r h=>by
  have:∃w a b,args=[int w,boo a,boo b]∧r=boo (kP w a b):=by
   unfold FTk at h
   split at h
   ·injection h with h;exact⟨_,_,_,rfl,h.symm⟩
   ·cases h
  obtain⟨w,a,b,rfl,rfl⟩:=this
  refine⟨by simp[f125],_,zb rfl ?_,zM _⟩
  by_cases h0:w=0
  ·subst h0
   simp[kP,f125]
  ·have h0':(w==0)=false:=by simpa using h0
   by_cases h1:w=1
   ·subst h1
    simp[kP,f125]
   ·have h1':(w==1)=false:=by simpa using h1
    simp[h0,h0',h1,h1',kP,f125]
def qY (st:Part×Bool) (i:Nat) (t:List UInt8):Option (Part×Bool) :=
 if qw t=true then some (st.1,true) else if st.2=false∧(vnum t).isSome=true then some (st.1.put i ((vnum t).getD 0),false) else none
def qQ:Part×Bool→Nat→List (List UInt8)→Option (Part×Bool)
 | st,_,[]=>some st
 | st,i,t::l=>match qY st i t with
   | some q=>qQ q (i+1) l
   | none=>none
def rdR (s:List UInt8):Option Part:=if 3<(zu (Lib.cut s [45]).1 [46]).length then none else
 match qQ (part0,false) 0 (zu (Lib.cut s [45]).1 [46]) with
 | none=>none
 | some st=>if (yD s).any qg=true then none else if ((Lib.cut s [45]).2.2=false∨st.1.has=3)∧(yD s).length≤10 then some { st.1 with pre:=yD s } else none
def rdOk (s:List UInt8):Option Part:=match rdR s with
 | some p=>if p.has=0 then none else some p
 | none=>none
theorem vV {t:List UInt8} (h:qw t=true):vnum t=none:=by
 simp only[qw,Bool.or_eq_true,beq_iff_eq] at h
 rcases h with (rfl | rfl) | rfl<;>rfl
theorem put_has (p:Part) (i:Nat) (n:Int):(p.put i n).has=p.has+1∧(p.put i n).pre=p.pre:=by
 unfold Part.put
 split<;>exact⟨rfl,rfl⟩
theorem fold_open:∀(l:List (List UInt8)) (p:Part) (i:Nat),p.has<i→i≠0→(qQ (p,true) i l).map (·.1)=zZ p i l∧∀st,qQ (p,true) i l=some st→st.1=p
 | [],p,i,_,_=>⟨rfl,fun st h=>by simp only[qQ] at h;injection h with h;rw[←h]⟩
 | t::l,p,i,h,hi=>by
   have hne:¬p.has=i:=by omega
   obtain⟨h1,h2⟩:=fold_open l p (i+1) (by omega) (by omega)
   by_cases ho:qw t=true
   ·have e1:qY (p,true) i t=some (p,true):=by simp[qY,ho]
    have e2:zR p i t=some p:=by simp[zR,ho,hi,vV ho]
    simp only[qQ,zZ,e1,e2]
    exact⟨h1,h2⟩
   ·have e1:qY (p,true) i t=none:=by simp[qY,ho]
    have e2:zR p i t=none:=by simp[zR,ho,hne]
    simp only[qQ,zZ,e1,e2]
    exact⟨rfl,fun st h=>by cases h⟩
theorem fold_num:∀(l:List (List UInt8)) (p:Part) (i:Nat),p.has=i→i≠0→(qQ (p,false) i l).map (·.1)=zZ p i l
 | [],p,i,_,_=>rfl
 | t::l,p,i,h,hi=>by
   by_cases ho:qw t=true
   ·have e1:qY (p,false) i t=some (p,true):=by simp[qY,ho]
    have e2:zR p i t=some p:=by simp[zR,ho,hi,vV ho]
    simp only[qQ,zZ,e1,e2]
    exact (fold_open l p (i+1) (by omega) (by omega)).1
   ·cases hv:vnum t with
    | none =>
      have e1:qY (p,false) i t=none:=by simp[qY,ho,hv]
      have e2:zR p i t=none:=by simp[zR,ho,hv]
      simp only[qQ,zZ,e1,e2]
      rfl
    | some n =>
      have e1:qY (p,false) i t=some (p.put i n,false):=by simp[qY,ho,hv]
      have e2:zR p i t=some (p.put i n):=by simp[zR,hv,h]
      simp only[qQ,zZ,e1,e2]
      exact fold_num l (p.put i n) (i+1) (by rw[(put_has p i n).1];omega) (by omega)
theorem fold_same (t:List UInt8) (l:List (List UInt8)):(∃st,qQ (part0,false) 0 (t::l)=some st∧((st.1.has=0∧zZ part0 0 (t::l)=none)∨(1≤st.1.has∧zZ part0 0 (t::l)=some st.1)))∨(qQ (part0,false) 0 (t::l)=none∧zZ part0 0 (t::l)=none):=by
 by_cases ho:qw t=true
 ·have e1:qY (part0,false) 0 t=some (part0,true):=by simp[qY,ho]
  have e2:zR part0 0 t=none:=by simp[zR,vV ho]
  simp only[qQ,zZ,e1,e2]
  cases hf:qQ (part0,true) 1 l with
  | none=>exact .inr ⟨by simp,trivial⟩
  | some st =>
    have:=(fold_open l part0 1 (by show (0:Int)<1;omega) (by omega)).2 st hf
    exact .inl ⟨st,by simp,.inl ⟨by rw[this];rfl,trivial⟩⟩
 ·cases hv:vnum t with
  | none =>
    have e1:qY (part0,false) 0 t=none:=by simp[qY,ho,hv]
    have e2:zR part0 0 t=none:=by simp[zR,ho,hv]
    simp only[qQ,zZ,e1,e2]
    exact .inr ⟨trivial,trivial⟩
  | some n =>
    have e1:qY (part0,false) 0 t=some (part0.put 0 n,false):=by simp[qY,ho,hv]
    have e2:zR part0 0 t=some (part0.put 0 n):=by simp[zR,hv,part0]
    have hh:(part0.put 0 n).has=1:=by rw[(put_has part0 0 n).1];rfl
    have hs:=fold_num l (part0.put 0 n) 1 hh (by omega)
    simp only[qQ,zZ,e1,e2]
    cases hf:qQ (part0.put 0 n,false) 1 l with
    | none =>
      rw[hf] at hs
      exact .inr ⟨by simp,by simpa using hs.symm⟩
    | some st =>
      rw[hf] at hs
      simp only[Option.map_some] at hs
      refine .inl ⟨st,by simp,.inr ⟨?_,by simpa using hs.symm⟩⟩
      have hfp:zZ part0 0 (t::l)=some st.1:=by simp only[zZ,e2];simpa using hs.symm
      have:=(fold_ok (t::l) part0 st.1 0 hfp (by simp[part0])).2.2.2.2.2.1
      exact this (by simp)
theorem cut_no {s:List UInt8} (h:Lib.contains s [45]=false):Lib.cut s [45]=(s,[],false):=by
 unfold Lib.contains at h
 rw[decide_eq_false_iff_not] at h
 unfold Lib.cut
 rw[if_neg h]
theorem cut_yes {s:List UInt8} (h:Lib.contains s [45]=true):(Lib.cut s [45]).2.2=true:=by
 unfold Lib.contains at h
 rw[decide_eq_true_eq] at h
 unfold Lib.cut
 rw[if_pos h]
theorem chk_pre (a b c:Int) (l:List (List UInt8)) (ha:0≤a∧a≤999999) (hb:0≤b∧b≤999999) (hc:0≤c∧c≤999999):chkV ⟨a,b,c,l⟩=0↔l.any qg=false∧l.length≤10:=by
 have h1:inB a 0 999999=true∧inB b 0 999999=true∧inB c 0 999999=true:=by simp[inB];omega
 unfold chkV
 rw[if_pos h1]
 simp only
 by_cases h2:10<l.length
 ·rw[if_pos h2]
  constructor
  ·intro h;cases h
  ·rintro⟨_,h⟩;omega
 ·rw[if_neg h2]
  cases h3:l.any qg
  ·simp;omega
  ·simp
theorem rd_same (s:List UInt8):rdOk s=if (zo s).2=true then some (zo s).1 else none:=by
 cases hc:Lib.contains s [45]
 ·have hcut:=cut_no hc
  have hpre:yD s=[]:=by unfold yD;rw[hcut];rfl
  unfold rdOk rdR zo
  simp only[hc,Bool.false_eq_true,if_false,hcut,hpre]
  by_cases h3:3<(zu s [46]).length
  ·rw[if_pos h3,if_pos h3];rfl
  rw[if_neg h3,if_neg h3]
  obtain⟨t,l,hl⟩:∃t l,zu s [46]=t::l:=by
   cases h:zu s [46] with
   | nil=>exact absurd h (splitL_ne _ _)
   | cons t l=>exact⟨t,l,rfl⟩
  rw[hl]
  rcases fold_same t l with⟨st,h1,⟨h2,h4⟩ | ⟨h2,h4⟩⟩ | ⟨h1,h4⟩
  ·rw[h1,h4]
   simp[h2]
  ·have hp:st.1.pre=[]:=(fold_ok (t::l) part0 st.1 0 h4 (by simp[part0])).2.2.2.2.2.2
   have he:({ st.1 with pre:=[] }:Part)=st.1:=by
    obtain⟨⟨a,b,c,d,e⟩,f⟩:=st
    simp only at hp
    subst hp
    rfl
   have h0:¬st.1.has=0:=by omega
   rw[h1,h4]
   simp[h0,he]
  ·rw[h1,h4];rfl
 ·have hcut:=cut_yes hc
  unfold rdOk rdR zo
  rw[if_pos hc,hcut]
  simp only[Bool.true_eq_false,false_or]
  obtain⟨l,hl⟩:∃l,zu (Lib.cut s [45]).1 [46]=l:=⟨_,rfl⟩
  obtain⟨pre,hpre⟩:∃pre,yD s=pre:=⟨_,rfl⟩
  rw[hl,hpre]
  have hlong:∀(m:List (List UInt8)) (st st':Part×Bool) (i:Nat),qQ st i m=some st'→st'.1.has≤st.1.has+m.length:=by
   intro m
   induction m with
   | nil=>intro st st' i h;simp only[qQ] at h;injection h with h;rw[←h];simp
   | cons t m ih =>
     intro st st' i h
     simp only[qQ] at h
     cases hs:qY st i t with
     | none=>rw[hs] at h;cases h
     | some q =>
       rw[hs] at h
       have h1:=ih q st' (i+1) h
       have h2:q.1.has≤st.1.has+1:=by
        unfold qY at hs
        split at hs
        ·injection hs with hs;rw[←hs];simp only;omega
        ·split at hs
         ·injection hs with hs;rw[←hs];simp only;rw[(put_has _ _ _).1];omega
         ·cases hs
       simp only[List.length_cons]
       omega
  by_cases h3:l.length=3
  ·obtain⟨p0,p1,p2,rfl⟩:∃a b c,l=[a,b,c]:=three h3
   unfold rdV
   rw[hl,hpre]
   simp only
   have hno:¬3 < [p0,p1,p2].length:=by simp
   rw[if_neg hno]
   cases v0:vnum p0 with
   | none =>
     have hf:∀st,qQ (part0,false) 0 [p0,p1,p2]=some st→st.1.has≤2:=by
      intro st h
      simp only[qQ] at h
      cases hs:qY (part0,false) 0 p0 with
      | none=>rw[hs] at h;cases h
      | some q =>
        rw[hs] at h
        have hq:q.1.has=0:=by
         unfold qY at hs
         split at hs
         ·injection hs with hs;rw[←hs];rfl
         ·rw[v0] at hs;simp at hs
        have:=hlong [p1,p2] q st 1 (by simpa[qQ] using h)
        simp only[List.length_cons,List.length_nil] at this
        omega
     cases hfr:qQ (part0,false) 0 [p0,p1,p2] with
     | none=>rfl
     | some st =>
       have h2:=hf st hfr
       have hne:¬(st.1.has=3∧pre.length≤10):=by omega
       simp only[if_neg hne]
       cases pre.any qg<;>rfl
   | some a =>
     have o0:qw p0=false:=by
      cases h:qw p0 with
      | false=>rfl
      | true=>rw[vV h] at v0;cases v0
     have s0:qY (part0,false) 0 p0=some (part0.put 0 a,false):=by simp[qY,o0,v0]
     cases v1:vnum p1 with
     | none =>
       have hf:∀st,qQ (part0,false) 0 [p0,p1,p2]=some st→st.1.has≤2:=by
        intro st h
        simp only[qQ,s0] at h
        cases hs:qY (part0.put 0 a,false) (0+1) p1 with
        | none=>rw[hs] at h;cases h
        | some q =>
          rw[hs] at h
          have hq:q.1.has=1:=by
           unfold qY at hs
           split at hs
           ·injection hs with hs;rw[←hs];rfl
           ·rw[v1] at hs;simp at hs
          have:=hlong [p2] q st 2 (by simpa[qQ] using h)
          simp only[List.length_cons,List.length_nil] at this
          omega
       cases hfr:qQ (part0,false) 0 [p0,p1,p2] with
       | none=>rfl
       | some st =>
         have h2:=hf st hfr
         have hne:¬(st.1.has=3∧pre.length≤10):=by omega
         simp only[if_neg hne]
         cases pre.any qg<;>rfl
     | some b =>
       have o1:qw p1=false:=by
        cases h:qw p1 with
        | false=>rfl
        | true=>rw[vV h] at v1;cases v1
       have s1:qY (part0.put 0 a,false) (0+1) p1=some ((part0.put 0 a).put 1 b,false):=by simp[qY,o1,v1]
       cases v2:vnum p2 with
       | none =>
         have hf:∀st,qQ (part0,false) 0 [p0,p1,p2]=some st→st.1.has≤2:=by
          intro st h
          simp only[qQ,s0,s1] at h
          cases hs:qY ((part0.put 0 a).put 1 b,false) (0+1+1) p2 with
          | none=>rw[hs] at h;cases h
          | some q =>
            rw[hs] at h
            have hq:q.1.has=2:=by
             unfold qY at hs
             split at hs
             ·injection hs with hs;rw[←hs];rfl
             ·rw[v2] at hs;simp at hs
            simp only at h
            injection h with h
            rw[←h];omega
         cases hfr:qQ (part0,false) 0 [p0,p1,p2] with
         | none=>rfl
         | some st =>
           have h2:=hf st hfr
           have hne:¬(st.1.has=3∧pre.length≤10):=by omega
           simp only[if_neg hne]
           cases pre.any qg<;>rfl
       | some c =>
         have o2:qw p2=false:=by
          cases h:qw p2 with
          | false=>rfl
          | true=>rw[vV h] at v2;cases v2
         have s2:qY ((part0.put 0 a).put 1 b,false) (0+1+1) p2=some (((part0.put 0 a).put 1 b).put 2 c,false):=by simp[qY,o2,v2]
         have hfr:qQ (part0,false) 0 [p0,p1,p2]=some (((part0.put 0 a).put 1 b).put 2 c,false):=by simp only[qQ,s0,s1,s2]
         rw[hfr]
         have hck:=chk_pre a b c pre (vT v0) (vT v1) (vT v2)
         by_cases hz:chkV ⟨a,b,c,pre⟩=0
         ·obtain⟨hb1,hb2⟩:=hck.1 hz
          simp[hz,hb1,hb2,part0,Part.put]
         ·have hno:¬(pre.any qg=false∧pre.length≤10):=fun h=>hz (hck.2 h)
          cases hb1:pre.any qg
          ·have hb2:¬pre.length≤10:=fun h=>hno ⟨hb1,h⟩
           simp[hz,hb2]
          ·simp[hz]
  ·have hd:rdV s=none:=by
    unfold rdV
    rw[hl]
    split
    ·exact absurd rfl h3
    ·rfl
   rw[hd]
   simp only[Bool.false_eq_true,if_false]
   by_cases h4:3<l.length
   ·rw[if_pos h4]
   rw[if_neg h4]
   cases hfr:qQ (part0,false) 0 l with
   | none=>rfl
   | some st =>
     have h5:=hlong l (part0,false) st 0 hfr
     have h6:st.1.has≤2:=by
      have:(part0:Part).has=0:=rfl
      simp only[this] at h5
      omega
     have hne:¬(st.1.has=3∧pre.length≤10):=by omega
     simp only[if_neg hne]
     cases pre.any qg<;>rfl
end Go.Proofs.YtpeaooooimfihaaGreatDoor
namespace Go.AM
open Go.RowKit
def pureF3 (sh:Sh) (r y z:PV) (x:PV) (hp:Hp) (_:Nat):Prop:=∃r0,(AM.freeze hp x).map (·.1)=some (.tup [r0,y,z])∧sh.fix r0=r
theorem evalPureF3_of {C:Ctx} {fn:Func} {code:Code} {args:List PV} {sh:Sh} {r y z:PV} (hb:fn.body=some code)
  (h:EvC C code ⟨yH args,fun _=>none,0⟩ (retK C.P fn (pureF3 sh r y z))):∃r0,zj C fn args=some r0∧Stands r0 (.tup [r,y,z]):=by
 obtain⟨x,hp',nx',h1,r0,h2,h3⟩:=zN hb h
 exact⟨.tup [r0,y,z],by unfold zj;simp only[h1];exact h2,h3 ▸ (StandsL.cons (vH sh r0) (.cons (Stands.refl y) (.cons (Stands.refl z) .nil))).tup⟩
end Go.AM
namespace Go.Proofs.YtpeaooooimfihaaGreatDoor
open Go.Proofs.Tryz
open Go.RowKit Go.AM
def rvR (s:List UInt8):Ver×Int×Bool:=if 3<(zu (Lib.cut s [45]).1 [46]).length then (ver0,0,false) else
 match qQ (part0,false) 0 (zu (Lib.cut s [45]).1 [46]) with
 | none=>(ver0,0,false)
 | some st=>if (yD s).any qg=true then (⟨st.1.n0,st.1.n1,st.1.n2,yD s⟩,0,false) else (⟨st.1.n0,st.1.n1,st.1.n2,yD s⟩,st.1.has,(!(Lib.cut s [45]).2.2||st.1.has==3)&&decide ((yD s).length≤10))
def rvP (s:List UInt8):PV:=.tup [.agg (rvR s).1.enc,int (rvR s).2.1,boo (rvR s).2.2]
theorem foldR_drop {st:Part×Bool} {k:Nat} {l:List (List UInt8)} (h:k<l.length):qQ st k (l.drop k)=match qY st k l[k] with
  | some q=>qQ q (k+1) (l.drop (k+1))
  | none=>none:=by
 rw[List.drop_eq_getElem_cons h]
 rfl
noncomputable abbrev Crrv:Ctx:=zF prog [(161,zf false [] (FTT cutP fun _ _=>True)),(77,qT [] FSp),(162,zf false [] FNm),(163,zf false [] (FS fun l=>!qg l))]
theorem goodrrv:AM.Good Crrv (fun g=>([]:List Nat).contains g):=zm mixed ⟨sCut_sound,by simp,je,by simp,rNumber_sound,by simp,risPre_sound,by simp,trivial⟩
set_option maxHeartbeats 2000000 in
theorem rreadVersion_eval (t:List UInt8) (ht:t.length+1≤lim):∃r0,zj Crrv f121 [str t]=some r0∧Stands r0 (rvP t):=by
 refine evalPureF3_of (sh:=.g vpat) (r:=.agg (rvR t).1.enc) (y:=int (rvR t).2.1) (z:=boo (rvR t).2.2) rfl ?_
 have hcl:=cut_le t [45]
 have hcut:=fun hp nx=>cut_call t [45] hp nx (by omega) (by decide)
 have hsp:=fun hp nx=>yl (Lib.cut t [45]).1 [46] hp nx (by omega) (by decide) (by decide)
 have hsp2:=fun hp nx=>yl (Lib.cut t [45]).2.1 [46] hp nx (by omega) (by decide) (by decide)
 have hpl:∀p∈zu (Lib.cut t [45]).1 [46],p.length≤lim:=fun p hp=>by have:=wz hp;omega
 have hql:∀p∈zu (Lib.cut t [45]).2.1 [46],p.length≤lim:=fun p hp=>by have:=wz hp;omega
 have hqn:(zu (Lib.cut t [45]).2.1 [46]).length≤lim:=by have:=wS (s:=(Lib.cut t [45]).2.1) (sep:=[46]) (by simp);omega
 have hrp:yD t=if (Lib.cut t [45]).2.2=true then zu (Lib.cut t [45]).2.1 [46] else []:=rfl
 have hrv:rvR t=if 3<(zu (Lib.cut t [45]).1 [46]).length then (ver0,0,false) else
   match qQ (part0,false) 0 (zu (Lib.cut t [45]).1 [46]) with
   | none=>(ver0,0,false)
   | some st=>if (yD t).any qg=true then (⟨st.1.n0,st.1.n1,st.1.n2,yD t⟩,0,false) else (⟨st.1.n0,st.1.n1,st.1.n2,yD t⟩,st.1.has,(!(Lib.cut t [45]).2.2||st.1.has==3)&&decide ((yD t).length≤10)):=rfl
 obtain⟨l,hl⟩:∃l,zu (Lib.cut t [45]).1 [46]=l:=⟨_,rfl⟩
 obtain⟨pl,hpl2⟩:∃pl,zu (Lib.cut t [45]).2.1 [46]=pl:=⟨_,rfl⟩
 obtain⟨c1,c2,c3,hc⟩:∃c1 c2 c3,Lib.cut t [45]=(c1,c2,c3):=⟨_,_,_,rfl⟩
 rw[hc] at hcut hsp hsp2 hl hpl2 hrp hrv hpl hql hqn
 simp only at hcut hsp hsp2 hl hpl2 hrp hrv hpl hql hqn
 rw[hl] at hrv hpl
 rw[hpl2] at hrp hql hqn
 simp only[hl,blkT] at hsp
 simp only[hpl2,blkT] at hsp2
 unfold lim at hqn
 by_cases h3:3<l.length
 ·have h3':(3:Int)<l.length:=by omega
  rw[if_pos h3] at hrv
  simp[hcut,hsp,h3,h3',rvP,hrv,pureF3,ver0,Ver.enc,f121]
 have h3':¬(3:Int)<l.length:=by omega
 rw[if_neg h3] at hrv
 simp[hcut,hsp,h3,h3']
 refine zy (fun k σ hp nx=>∃(p:Part) (op:Bool),p.pre=[]∧σ 2=.ref 0 0 0∧σ 3=int p.has∧σ 4=boo false∧σ 6=str c2∧σ 7=boo c3∧σ 8=.ref 1 0 0∧σ 9=boo op∧σ 29=.own 2 0 l.length∧σ 30=int l.length∧σ 31=int k∧p.has≤k∧0≤p.has∧nx=3 ∧
   hp 0=some ⟨102,4,false,[[int 0,int 0,int 0,.nil]]⟩∧hp 1=some ⟨92,3,false,[[int p.n0,int p.n1,int p.n2]]⟩∧hp 2=some ⟨9,1,true,encT l⟩∧qQ (part0,false) 0 l=qQ (p,op) k (l.drop k)) l.length
  ⟨part0,false,rfl,by simp,by simp[part0],by simp,by simp,by simp,by simp,by simp,by simp,by simp,by simp,by simp[part0],by simp[part0],by simp,by simp,by simp[part0],(by simp;rfl),by simp⟩ ?_
 rintro k σ hp nx hk ⟨p,op,hpp,h2,g3,h4,h6,h7,h8,h9,h29,h30,h31,hh,hh0,hnx,b0,b1,b2,he⟩
 subst hnx
 by_cases hlt:k<l.length
 ·have hn:=fun hp nx=>FNm_call l[k] hp nx (hpl _ (List.getElem_mem hlt))
  have hw:IntKind.i64.wrap ((k:Int)+1)=(k:Int)+1:=zh (by omega) (by omega)
  have hw2:IntKind.i64.wrap (p.has+1)=p.has+1:=zh (by omega) (by omega)
  have hop:(l[k]==[120]||l[k]==[88]||l[k]==[42])=qw l[k]:=rfl
  have hgk:=xQ hlt
  have hel:(encT l).length=l.length:=by simp[encT]
  rw[foldR_drop hlt] at he
  cases ho:qw l[k]
  ·rw[ho] at hop
   cases hv:(vnum l[k]).isSome
   ·have hs:qY (p,op) k l[k]=none:=by simp[qY,ho,hv]
    rw[hs] at he
    rw[he] at hrv
    simp only at hrv
    simp[h2,g3,h4,h6,h7,h8,h9,h29,h30,h31,b0,b1,b2,hlt,hel,hgk,hn,hop,hv,rvP,hrv,pureF3,ver0,Ver.enc,f121]
   ·cases op
    ·have hs:qY (p,false) k l[k]=some (p.put k ((vnum l[k]).getD 0),false):=by simp[qY,ho,hv]
     rw[hs] at he
     simp only at he
     obtain⟨n0,n1,n2,has,pre⟩:=p
     simp only at hpp hh hh0 hw2 b1 g3
     subst hpp
     have hk3:k=0∨k=1∨k=2:=by omega
     rcases hk3 with rfl | rfl | rfl
     ·have hlt':(0:Int)<(l.length:Int):=by omega
      simp[h2,g3,h4,h6,h7,h8,h9,h29,h30,h31,b0,b1,b2,hlt,hlt',hel,hgk,hn,hop,hv,hw,hw2]
      refine⟨by omega,_,?_,?_,?_,?_,?_,(by simpa using he)⟩<;>simp[Part.put]<;>omega
     ·have hlt':(1:Int)<(l.length:Int):=by omega
      simp[h2,g3,h4,h6,h7,h8,h9,h29,h30,h31,b0,b1,b2,hlt,hlt',hel,hgk,hn,hop,hv,hw,hw2]
      refine⟨by omega,_,?_,?_,?_,?_,?_,(by simpa using he)⟩<;>simp[Part.put]<;>omega
     ·have hlt':(2:Int)<(l.length:Int):=by omega
      simp[h2,g3,h4,h6,h7,h8,h9,h29,h30,h31,b0,b1,b2,hlt,hlt',hel,hgk,hn,hop,hv,hw,hw2]
      refine⟨by omega,_,?_,?_,?_,?_,?_,(by simpa using he)⟩<;>simp[Part.put]<;>omega
    ·have hs:qY (p,true) k l[k]=none:=by simp[qY,ho]
     rw[hs] at he
     rw[he] at hrv
     simp only at hrv
     simp[h2,g3,h4,h6,h7,h8,h9,h29,h30,h31,b0,b1,b2,hlt,hel,hgk,hn,hop,rvP,hrv,pureF3,ver0,Ver.enc,f121]
  ·have hs:qY (p,op) k l[k]=some (p,true):=by simp[qY,ho]
   rw[hs] at he
   rw[ho] at hop
   simp[h2,g3,h4,h6,h7,h8,h9,h29,h30,h31,b0,b1,b2,hlt,hel,hgk,hop,hw]
   exact⟨by omega,p,hpp,rfl,by omega,hh0,⟨rfl,rfl,rfl⟩,he⟩
 ·obtain rfl:k=l.length:=by omega
  rw[List.drop_length] at he
  simp only[qQ] at he
  rw[he] at hrv
  simp only at hrv
  have hbe:((p.has:Int)==3)=(p.has==3):=rfl
  cases c3
  ·rw[if_neg (by simp)] at hrp
   rw[hrp] at hrv
   simp at hrv
   simp[h2,g3,h4,h6,h7,h8,h9,h29,h30,h31,b0,b1,b2,zw,zJ,rvP,hrv,pureF3,Ver.enc,encT,f121]
  ·rw[if_pos rfl] at hrp
   rw[hrp] at hrv
   have hel2:(encT pl).length=pl.length:=by simp[encT]
   simp[h2,g3,h4,h6,h7,h8,h9,h29,h30,h31,b0,b1,b2,hsp2,zw,zJ]
   refine zy (fun k σ hp nx=>σ 2=.ref 0 0 0∧σ 3=int p.has∧σ 4=boo false∧σ 7=boo true∧σ 75=.own 3 0 pl.length∧σ 76=int pl.length∧σ 77=int k∧hp 0=some ⟨102,4,false,[[int p.n0,int p.n1,int p.n2,.own 3 0 pl.length]]⟩∧hp 3=some ⟨9,1,true,encT pl⟩∧pl.any qg=(pl.drop k).any qg) pl.length
    ⟨by simp[h2],by simp[g3],by simp[h4],by simp[h7],by simp,by simp,by simp,by simp,(by simp;rfl),by simp⟩ ?_
   clear h2 g3 h4 h6 h7 h8 h9 h29 h30 h31 b0 b1 b2 hk hlt hh σ hp
   rintro k σ hp nx hk ⟨h2,g3,h4,h7,h75,h76,h77,b0,b3,hx⟩
   by_cases hlt:k<pl.length
   ·have hw:IntKind.i64.wrap ((k:Int)+1)=(k:Int)+1:=zh (by omega) (by omega)
    have hgk:=xQ hlt
    have hip:=fun hp nx=>wi (fun l=>!qg l) pl[k] hp nx (hql _ (List.getElem_mem hlt))
    rw[List.drop_eq_getElem_cons hlt,List.any_cons] at hx
    cases hb:qg pl[k]
    ·rw[hb,Bool.false_or] at hx
     simp[h2,g3,h4,h7,h75,h76,h77,b0,b3,hlt,hel2,hgk,hip,hb,hw]
     exact⟨by omega,hx⟩
    ·rw[hb,Bool.true_or] at hx
     rw[hx,if_pos rfl] at hrv
     simp[h2,g3,h4,h7,h75,h76,h77,b0,b3,hlt,hel2,hgk,hip,hb,rvP,hrv,pureF3,Ver.enc,f121]
   ·obtain rfl:k=pl.length:=by omega
    rw[List.drop_length,List.any_nil] at hx
    rw[hx,if_neg (by simp)] at hrv
    have hd:decide (pl.length≤10)=decide ((pl.length:Int)≤10):=by congr 1;exact propext ⟨fun h=>by omega,fun h=>by omega⟩
    rw[hd] at hrv
    simp[h2,g3,h4,h7,h75,h76,h77,b0,b3,rvP,hrv,pureF3,Ver.enc,f121]
theorem jG:za prog 121 (zf false [] (FSP1 rvP)) :=
 xN (fn:=f121) goodrrv ⟨_,func121,by kernel_rfl,rfl,by kernel_rfl⟩ false [] _ fun args r h w S vs hz=>by
  obtain⟨l,rfl,hp,rfl⟩:=ze h
  obtain⟨r0,h1,h2⟩:=rreadVersion_eval l hp
  exact⟨_,r0,hz,by simp[f121],h1,h2⟩
theorem rv_rdOk (s:List UInt8):rdOk s=if (rvR s).2.2=true∧(rvR s).2.1≠0 then some ⟨(rvR s).1.a,(rvR s).1.b,(rvR s).1.c,(rvR s).2.1,(rvR s).1.pre⟩ else none:=by
 unfold rdOk rdR rvR
 by_cases h3:3<(zu (Lib.cut s [45]).1 [46]).length
 ·rw[if_pos h3,if_pos h3];simp
 rw[if_neg h3,if_neg h3]
 cases qQ (part0,false) 0 (zu (Lib.cut s [45]).1 [46]) with
 | none=>simp
 | some st =>
   simp only
   cases hb:(yD s).any qg
   ·simp only[Bool.false_eq_true,if_false]
    by_cases hc:((Lib.cut s [45]).2.2=false∨st.1.has=3)∧(yD s).length≤10
    ·rw[if_pos hc]
     have hc':((!(Lib.cut s [45]).2.2||st.1.has==3)&&decide ((yD s).length≤10))=true:=by
      simp only[Bool.and_eq_true,Bool.or_eq_true,Bool.not_eq_true',beq_iff_eq,decide_eq_true_eq];exact hc
     simp only[hc',true_and]
     by_cases h0:st.1.has=0
     ·simp[h0]
     ·simp[h0]
    ·rw[if_neg hc]
     have hc':¬((!(Lib.cut s [45]).2.2||st.1.has==3)&&decide ((yD s).length≤10))=true:=by
      simp only[Bool.and_eq_true,Bool.or_eq_true,Bool.not_eq_true',beq_iff_eq,decide_eq_true_eq];exact hc
     simp only[hc',false_and,if_false]
     simp
   ·simp
theorem rleast_eval:zj C0 f119 []=some (.agg leastC.enc):=by
 refine zb rfl ?_
 simp[leastC,Cut.enc,encT,str,zw,zJ,zd,zl,zc,qi,f119]
theorem rleast_sound:za prog 119 (zC [] (xn (.agg leastC.enc))) :=
 zP (fn:=f119) wT ⟨_,func119,by kernel_rfl,rfl,by kernel_rfl⟩ _ _ fun args r h=>by
  obtain⟨_,rfl,_,rfl⟩:=ze h
  exact⟨by simp[f119],_,rleast_eval,Stands.refl _⟩
def Ver.part (v:Ver) (m:Int):Part:=⟨v.a,v.b,v.c,m,v.pre⟩
def Ver.ok (v:Ver):Prop:=(0≤v.a∧v.a≤999999)∧(0≤v.b∧v.b≤999999)∧(0≤v.c∧v.c≤999999)∧wJ v.pre
noncomputable def FVI (f:Ver→Int→PV) (pre:Int→Prop):List PV→Option PV:=zH (α:=Ver×Int) (fun a=>[.agg a.1.enc,int a.2]) (fun a=>a.1.ok∧pre a.2) (fun a=>f a.1 a.2)
theorem vi_inj:∀a b:Ver×Int,[PV.agg a.1.enc,int a.2]=[PV.agg b.1.enc,int b.2]→a=b:=by
 rintro⟨a1,a2⟩ ⟨b1,b2⟩ e
 simp only[List.cons.injEq,and_true] at e
 obtain⟨e1,e2⟩:=e
 injection e1 with e1
 rw[vK e1,zG e2]
theorem FVI_call (f:Ver→Int→PV) (pre:Int→Prop) (v:Ver) (i:Int) (u:PV) (hp:Hp) (nx:Nat) (h:v.ok) (hi:pre i) (hu:(Sh.g vpat).fix u=.agg v.enc) (hf:zA hp u=some (u,hp)) (hn:u.noOwn=true):zC [.g vpat] (FVI f pre) [u,int i] hp nx=some (f v i,hp,nx) :=
 wy (show zi hp [u,int i]=some ([u,int i],hp) by simp only[zi,hf];rfl) (by
  show FVI f pre [(Sh.g vpat).fix u,int i]=_
  rw[hu]
  exact zn (enc:=fun a:Ver×Int=>[PV.agg a.1.enc,int a.2]) (a:=(v,i)) vi_inj ⟨h,hi⟩) (.inr (by rw[List.all_cons,hn];rfl))
theorem vW (v:Ver):(Sh.g vpat).fix (.agg v.enc)=.agg v.enc:=by simp[Ver.enc]
theorem venc_frz (v:Ver) (hp:Hp):zA hp (.agg v.enc)=some (.agg v.enc,hp):=by simp[Ver.enc]
theorem venc_own (v:Ver):PV.noOwn (.agg v.enc)=true:=by simp[Ver.enc]
def ye (v:Ver) (i:Int):PV:=wu (v.part 3) i.toNat
noncomputable abbrev Crra:Ctx:=yc prog [] 7 [(6,4),(28,4),(30,4),(32,4),(38,4)] [4,6,28,30,32,38] []
theorem goodrra:AM.Good Crra (fun g=>([]:List Nat).contains g):=good_ofDL mixed trivial trivial
theorem rraised_eval (v:Ver) (i:Int) (hv:v.ok) (hi:0≤i∧i<3):∃r0,zj Crra f164 [.agg v.enc,int i]=some r0∧Stands r0 (ye v i):=by
 obtain⟨a,b,c,e⟩:=v
 obtain⟨⟨a1,a2⟩,⟨b1,b2⟩,⟨c1,c2⟩,_⟩:=hv
 simp only at a1 a2 b1 b2 c1 c2
 refine qe (sh:=.g cpat) rfl ?_
 have wa:IntKind.i64.wrap (a+1)=a+1:=zh (by omega) (by omega)
 have wb:IntKind.i64.wrap (b+1)=b+1:=zh (by omega) (by omega)
 have wc:IntKind.i64.wrap (c+1)=c+1:=zh (by omega) (by omega)
 rcases (by omega:i=0∨i=1∨i=2) with rfl | rfl | rfl
 ·simp[Ver.enc,zw,zJ,wa]
  rw[zk]
  simp
  rw[zk]
  simp
  rw[zk]
  simp
  rw[qC (zX (j9 (by simp;exact⟨rfl,rfl,rfl⟩) (by simp;exact⟨rfl,rfl,rfl⟩) (by omega) (by simp;rfl) rfl) (zX (qF (by simp;rfl)) (zX (qF (by simp;rfl)) (zX (qF (by simp;rfl)) (zX (qF (by simp;rfl)) (j8 _))))))
   (wK (by simp;exact⟨rfl,rfl,rfl⟩) (by simp) (by simp;rfl) rfl (wK (by simp;exact⟨rfl,rfl,rfl⟩) (by simp) (by simp;rfl) rfl (q9 (by simp;rfl) (q9 (by simp;rfl) (q9 (by simp;rfl) (q9 (by simp;rfl) (vP _)))))))]
  simp[zw,zJ,zd,zl,zc,zx,ye,Ver.part,wu,qB,wE,Cut.enc,encT,str,f164]
  exact⟨_,⟨rfl,rfl⟩,rfl⟩
 ·simp[Ver.enc,zw,zJ,wb]
  rw[zk]
  simp
  rw[zk]
  simp
  rw[qC (zX (j9 (by simp;exact⟨rfl,rfl,rfl⟩) (by simp;exact⟨rfl,rfl,rfl⟩) (by omega) (by simp;rfl) rfl) (zX (qF (by simp;rfl)) (zX (qF (by simp;rfl)) (zX (qF (by simp;rfl)) (zX (qF (by simp;rfl)) (j8 _))))))
   (wK (by simp;exact⟨rfl,rfl,rfl⟩) (by simp) (by simp;rfl) rfl (wK (by simp;exact⟨rfl,rfl,rfl⟩) (by simp) (by simp;rfl) rfl (q9 (by simp;rfl) (q9 (by simp;rfl) (q9 (by simp;rfl) (q9 (by simp;rfl) (vP _)))))))]
  simp[zw,zJ,zd,zl,zc,zx,ye,Ver.part,wu,qB,wE,Cut.enc,encT,str,f164]
  exact⟨_,⟨rfl,rfl⟩,rfl⟩
 ·simp[Ver.enc,zw,zJ,wc]
  rw[zk]
  simp
  rw[qC (zX (j9 (by simp;exact⟨rfl,rfl,rfl⟩) (by simp;exact⟨rfl,rfl,rfl⟩) (by omega) (by simp;rfl) rfl) (zX (qF (by simp;rfl)) (zX (qF (by simp;rfl)) (zX (qF (by simp;rfl)) (zX (qF (by simp;rfl)) (j8 _))))))
   (wK (by simp;exact⟨rfl,rfl,rfl⟩) (by simp) (by simp;rfl) rfl (wK (by simp;exact⟨rfl,rfl,rfl⟩) (by simp) (by simp;rfl) rfl (q9 (by simp;rfl) (q9 (by simp;rfl) (q9 (by simp;rfl) (q9 (by simp;rfl) (vP _)))))))]
  simp[zw,zJ,zd,zl,zc,zx,ye,Ver.part,wu,qB,wE,Cut.enc,encT,str,f164]
  exact⟨_,⟨rfl,rfl⟩,rfl⟩
theorem rraised_sound:za prog 164 (zC [.g vpat] (FVI ye fun i=>0≤i∧i<3)) :=
 zP (fn:=f164) goodrra ⟨_,func164,by kernel_rfl,rfl,by kernel_rfl⟩ _ _ fun args r h=>by
  obtain⟨⟨p,i⟩,rfl,⟨h1,h2⟩,rfl⟩:=ze h
  obtain⟨r0,h3,h4⟩:=rraised_eval p i h1 h2
  exact⟨by simp[f164],r0,h3,h4⟩
def jN (v:Ver) (m:Int):PV:=highP (v.part m)
noncomputable abbrev Crup:Ctx:=zF prog [(164,zC [.g vpat] (FVI ye fun i=>0≤i∧i<3))]
theorem goodrup:AM.Good Crup (fun g=>([]:List Nat).contains g):=zm mixed ⟨rraised_sound,by simp,trivial⟩
theorem raised_part (v:Ver) (m n:Int) (i:Nat):qB (v.part m) i=qB (v.part n) i∧wE (v.part m) i=wE (v.part n) i:=by
 match i with
 | 0=>exact⟨rfl,rfl⟩
 | 1=>exact⟨rfl,rfl⟩
 | _+2=>exact⟨rfl,rfl⟩
theorem rupper_eval (v:Ver) (m:Int) (hv:v.ok) (hm:1≤m∧m≤3):zj Crup f159 [.agg v.enc,int m]=some (jN v m):=by
 refine zb rfl ?_
 have hr:=fun hp nx=>FVI_call ye (fun i=>0≤i∧i<3) v (m - 1) (.agg v.enc) hp nx hv
 obtain⟨e1,e2⟩:=raised_part v m 3 (m - 1).toNat
 have hw:IntKind.i64.wrap (m - 1)=m - 1:=zh (by omega) (by omega)
 by_cases h3:m=3
 ·subst h3
  simp[Ver.enc,zw,zJ,jN,highP,yh,kC,Ver.part,Cut.enc,qi,f159]
 ·have hr:=fun hp nx=>hr hp nx (by omega) (vW v) (venc_frz v hp) (venc_own v)
  have h3':(m==3)=false:=by simpa using h3
  have h3'':m<3:=by omega
  simp only[ye,wu,Ver.enc,Cut.enc,←e1,←e2] at hr
  have e5:(v.part m).has=m:=rfl
  simp[Ver.enc,h3',hw,hr,jN,highP,yh,kC,e5,h3'',Cut.enc,qi,f159]
theorem rupper_sound:za prog 159 (zC [.g vpat] (FVI jN fun m=>1≤m∧m≤3)) :=
 zP (fn:=f159) goodrup ⟨_,func159,by kernel_rfl,rfl,by kernel_rfl⟩ _ _ fun args r h=>by
  obtain⟨⟨p,i⟩,rfl,⟨h1,h2⟩,rfl⟩:=ze h
  exact⟨by simp[f159],_,rupper_eval p i h1 h2,Stands.refl _⟩
noncomputable abbrev Crct:Ctx:=zF prog []
theorem goodrct:AM.Good Crct (fun g=>([]:List Nat).contains g):=zm mixed trivial
def yf (v:Ver) (m:Int):PV:=int (qU (v.part m))
theorem rcaret_eval (v:Ver) (m:Int) (hm:1≤m∧m≤3):zj Crct f165 [.agg v.enc,int m]=some (yf v m):=by
 obtain⟨a,b,c,e⟩:=v
 refine zb rfl ?_
 rcases (by omega:m=1∨m=2∨m=3) with rfl | rfl | rfl
 ·simp[Ver.enc,zd,zl,zc,qS]
  rw[zk]
  by_cases ha:a=0
  ·have ha':(a != 0)=false:=by simpa using ha
   simp[ha']
   rw[zk]
   simp[yf,qU,Ver.part,f165]
  ·have ha':(a != 0)=true:=by simpa using ha
   simp[ha',yf,qU,Ver.part,f165]
 ·simp[Ver.enc,zd,zl,zc,qS]
  rw[zk]
  by_cases ha:a=0
  ·have ha':(a != 0)=false:=by simpa using ha
   simp[ha']
   rw[zk]
   by_cases hb:b=0
   ·have hb':(b != 0)=false:=by simpa using hb
    simp[hb']
    rw[zk]
    simp[yf,qU,Ver.part,ha,f165]
   ·have hb':(b != 0)=true:=by simpa using hb
    simp[hb',yf,qU,Ver.part,ha,f165]
  ·have ha':(a != 0)=true:=by simpa using ha
   simp[ha',yf,qU,Ver.part,ha,f165]
 ·simp[Ver.enc,zd,zl,zc,qS]
  rw[zk]
  by_cases ha:a=0
  ·have ha':(a != 0)=false:=by simpa using ha
   simp[ha']
   rw[zk]
   by_cases hb:b=0
   ·have hb':(b != 0)=false:=by simpa using hb
    simp[hb']
    rw[zk]
    by_cases hc:c=0
    ·have hc':(c != 0)=false:=by simpa using hc
     simp[hc']
     rw[zk]
     simp[yf,qU,Ver.part,ha,hb,f165]
    ·have hc':(c != 0)=true:=by simpa using hc
     simp[hc',yf,qU,Ver.part,ha,hb,f165]
   ·have hb':(b != 0)=true:=by simpa using hb
    simp[hb',yf,qU,Ver.part,ha,hb,f165]
  ·have ha':(a != 0)=true:=by simpa using ha
   simp[ha',yf,qU,Ver.part,ha,f165]
theorem rcaret_sound:za prog 165 (zC [.g vpat] (FVI yf fun m=>1≤m∧m≤3)) :=
 zP (fn:=f165) goodrct ⟨_,func165,by kernel_rfl,rfl,by kernel_rfl⟩ _ _ fun args r h=>by
  obtain⟨⟨p,i⟩,rfl,⟨h1,h2⟩,rfl⟩:=ze h
  exact⟨by simp[f165],_,rcaret_eval p i h2,Stands.refl _⟩
noncomputable abbrev Crut:Ctx:=zF prog [(167,zC [.g cpat,.g cpat] (FCC fun v w=>int (cmpC v w)))]
theorem goodrut:AM.Good Crut (fun g=>([]:List Nat).contains g):=zm mixed ⟨yd,by simp,trivial⟩
theorem rupTo_eval (x y:Cut) (hx:x.v.small) (hy:y.v.small):∃r0,zj Crut f160 [.agg x.enc,.agg y.enc]=some r0∧Stands r0 (btwP x y):=by
 refine jx (sh:=.s 11 spat) rfl ?_
 have hc:=fun hp nx=>cc_call x y (.agg x.enc) (.agg y.enc) hp nx (by simp[Cut.enc]) (by simp[Cut.enc]) (by simp[Cut.enc]) hx hy
 simp only[Cut.enc] at hc
 by_cases h:0≤cmpC x y
 ·simp[Cut.enc,hc,h,pureF,btwP,btw,encR,f160]
 ·simp[Cut.enc,hc,h,zw,zJ,zd,zl,zc,pureF,btwP,btw,encR,betw,Str.enc,f160]
theorem rupTo_sound:za prog 160 (zC [.g cpat,.g cpat] (FCC btwP)) :=
 zP (fn:=f160) goodrut ⟨_,func160,by kernel_rfl,rfl,by kernel_rfl⟩ _ _ fun args r h=>by
  obtain⟨⟨v,w⟩,rfl,⟨h1,h2⟩,rfl⟩:=ze h
  obtain⟨r0,h3,h4⟩:=rupTo_eval v w h1 h2
  exact⟨by simp[f160],r0,h3,h4⟩
noncomputable abbrev Crop:Ctx:=zF prog [(138,zf false [] (FTT hpP fun _ _=>True))]
theorem goodrop:AM.Good Crop (fun g=>([]:List Nat).contains g):=zm mixed ⟨hasPrefix_sound,by simp,trivial⟩
def ropP (s:List UInt8):PV:=str (opW sgs s).1
theorem roperator_eval (s:List UInt8) (h:s.length≤lim):zj Crop f157 [str s]=some (ropP s):=by
 refine zb rfl ?_
 have hb:∀hp nx,zd prog hp nx 45 7 [(0,str [62,61]),(1,str [60,61]),(2,str [62]),(3,str [60]),(4,str [61]),(5,str [126]),(6,str [94])]=some (.own nx 0 7,upd hp nx (some ⟨9,1,true,encT sgs⟩),nx+1):=fun hp nx=>by
  simp[zd,zl,zc,sgs,str]
 simp[str] at hb
 simp[hb]
 refine zy (fun k σ hp nx=>σ 0=str s∧σ 5=.own 0 0 7∧σ 6=int 7∧σ 7=int k∧hp 0=some ⟨9,1,true,encT sgs⟩∧opW sgs s=opW (sgs.drop k) s) 7 ⟨by simp,by simp,by simp,by simp,by simp,by simp⟩ ?_
 rintro k σ hp nx hk ⟨h0,h8,h9,h10,b0,he⟩
 by_cases hlt:k<7
 ·have hl:k<sgs.length:=hlt
  have hgl:sgs[k].length≤lim:=by
   have:∀q∈sgs,q.length≤lim:=by decide
   exact this _ (List.getElem_mem hl)
  have hc:=fun hp nx=>hp_call s sgs[k] hp nx h hgl
  have hw:IntKind.i64.wrap ((k:Int)+1)=(k:Int)+1:=zh (by omega) (by omega)
  have hk7:(k:Int)<7:=by omega
  rw[List.drop_eq_getElem_cons hl] at he
  simp only[opW] at he
  by_cases hp:(sgs[k]).isPrefixOf s=true
  ·rw[if_pos hp] at he
   simp[h0,h8,h9,h10,b0,hk7,hlt,hl,hc,hp,hw,ropP,he,qi,f157]
  ·rw[if_neg hp] at he
   have hp':(sgs[k]).isPrefixOf s=false:=Bool.eq_false_iff.2 hp
   simp[h0,h8,h9,h10,b0,hk7,hlt,hl,hc,hp',hw]
   exact⟨by omega,he⟩
 ·obtain rfl:k=7:=by omega
  rw[show sgs.drop 7=[] from rfl] at he
  simp only[opW] at he
  simp[h0,h8,h9,h10,ropP,he,qi,f157]
theorem roperator_sound:za prog 157 (zf false [] (FSP ropP)) :=
 zO (fn:=f157) goodrop ⟨_,func157,by kernel_rfl,rfl,by kernel_rfl⟩ false [] _ fun args r h=>by
  obtain⟨l,rfl,hp,rfl⟩:=ze h
  exact⟨by simp[f157],_,roperator_eval l hp,zM _⟩
def sp1 (c:UInt8):List UInt8→List (List UInt8)
 | []=>[[]]
 | b::l=>if b=c then []::sp1 c l else match sp1 c l with
   | []=>[[b]]
   | p::ps=>(b::p)::ps
theorem sp1_ne (c:UInt8):∀l,∃p ps,sp1 c l=p::ps
 | []=>⟨[],[],rfl⟩
 | b::l=>by
   unfold sp1
   split
   ·exact⟨_,_,rfl⟩
   ·split
    ·exact⟨_,_,rfl⟩
    ·exact⟨_,_,rfl⟩
theorem xv {s sep:List UInt8} (h:Lib.index s sep=-1):zu s sep=[s]:=by
 unfold zu Lib.split
 rw[Lib.count_miss h]
 rfl
theorem splitL_hit {s sep:List UInt8} {i:Nat} (hne:sep≠[]) (h:Lib.index s sep=i):zu s sep=s.take i::zu (s.drop (i+sep.length)) sep:=by
 unfold zu Lib.split
 rw[Lib.count_hit hne h,Nat.add_comm 1,splitK_hit h]
theorem splitL_sp1 (c:UInt8):∀s:List UInt8,zu s [c]=sp1 c s
 | []=>xv rfl
 | b::l=>by
   have ih:=splitL_sp1 c l
   by_cases h:b=c
   ·subst h
    have hi:Lib.index (b::l) [b]=((0:Nat):Int):=by simp[Lib.index]
    rw[splitL_hit (by simp) hi]
    simp[sp1,ih]
   ·have hc:¬c=b:=fun e=>h e.symm
    rcases Lib.index_spec l [c] with⟨h1,_⟩ | ⟨i,h1,_⟩
    ·have hi:Lib.index (b::l) [c]=-1:=by simp[Lib.index,hc,h1]
     rw[xv hi]
     rw[xv h1] at ih
     simp[sp1,h,←ih]
    ·have hi:Lib.index (b::l) [c]=((i+1:Nat):Int):=by
      have:¬((i:Int)=-1):=by omega
      simp[Lib.index,hc,h1,this]
     rw[splitL_hit (by simp) hi]
     rw[splitL_hit (by simp) h1] at ih
     simp only[sp1,if_neg h,←ih]
     simp
def qG (s:List UInt8):List (List UInt8):=zL (sp1 32 s)
theorem wds_split (s:List UInt8):zL (zu s [32])=qG s:=by rw[splitL_sp1];rfl
theorem wds_nil:qG []=[]:=rfl
theorem xw (x:List UInt8) (l:List (List UInt8)):zL (x::l)=if x=[] then zL l else x::zL l:=by
 cases x<;>simp[zL,emp]
theorem wds_sp (s:List UInt8):qG (32::s)=qG s:=by
 simp[qG,sp1,xw]
theorem wds_trimL:∀s:List UInt8,qG (Lib.trimLeftB s 32)=qG s
 | []=>rfl
 | b::l=>by
   unfold Lib.trimLeftB
   by_cases h:b=32
   ·subst h
    rw[List.dropWhile_cons_of_pos (by simp),wds_sp]
    exact wds_trimL l
   ·rw[List.dropWhile_cons_of_neg (by simpa using h)]
theorem sp1_snoc (c:UInt8):∀s:List UInt8,sp1 c (s++[c])=sp1 c s++[[]]
 | []=>by simp[sp1]
 | b::l=>by
   have ih:=sp1_snoc c l
   obtain⟨p,ps,e⟩:=sp1_ne c l
   by_cases h:b=c
   ·simp[sp1,h,ih]
   ·simp[sp1,h,ih,e]
theorem wds_snoc (s:List UInt8):qG (s++[32])=qG s:=by
 unfold qG
 rw[sp1_snoc]
 simp[zL,emp]
theorem wds_trimR (s:List UInt8):qG (Lib.trimRightB s 32)=qG s:=by
 have key:∀m:List UInt8,qG ((m.dropWhile (·==32)).reverse)=qG m.reverse:=by
  intro m
  induction m with
  | nil=>rfl
  | cons b m ih =>
    by_cases h:b=32
    ·subst h
     rw[List.dropWhile_cons_of_pos (by simp),ih,List.reverse_cons,wds_snoc]
    ·rw[List.dropWhile_cons_of_neg (by simpa using h)]
 have:=key s.reverse
 rwa [List.reverse_reverse] at this
theorem wds_trim (s:List UInt8):qG (Lib.trimB s 32)=qG s:=by
 unfold Lib.trimB
 rw[wds_trimL,wds_trimR]
def hd (s:List UInt8):List UInt8:=s.takeWhile (· != 32)
def tl (s:List UInt8):List UInt8:=s.dropWhile (· != 32)
theorem hd_tl (s:List UInt8):hd s++tl s=s:=List.takeWhile_append_dropWhile
theorem sp1_run:∀(u:List UInt8),(∀c∈u,c≠32)→∀r,(sp1 32 (u++32::r)=u::sp1 32 r)∧sp1 32 u=[u]
 | [],_,r=>⟨by simp[sp1],rfl⟩
 | b::u,h,r=>by
   obtain⟨h1,h2⟩:=sp1_run u (fun c hc=>h c (by simp[hc])) r
   have hb:¬b=32:=h b (by simp)
   constructor
   ·rw[List.cons_append,sp1,if_neg hb,h1]
   ·rw[sp1,if_neg hb,h2]
theorem hd_no (s:List UInt8):∀c∈hd s,c≠32:=fun c hc=>by
 have:=List.all_takeWhile (p:=fun c:UInt8=>c != 32) (l:=s)
 rw[List.all_eq_true] at this
 simpa using this c hc
theorem tl_head (s:List UInt8):tl s=[]∨∃r,tl s=32::r:=by
 unfold tl
 induction s with
 | nil=>exact .inl rfl
 | cons b s ih =>
   by_cases h:b=32
   ·subst h;rw[List.dropWhile_cons_of_neg (by simp)];exact .inr ⟨s,rfl⟩
   ·rw[List.dropWhile_cons_of_pos (by simpa using h)];exact ih
theorem wds_word {s:List UInt8} (h:hd s≠[]):qG s=hd s::qG (tl s):=by
 have e:=hd_tl s
 rcases tl_head s with h1 | ⟨r,h1⟩
 ·rw[h1,List.append_nil] at e
  rw[h1,wds_nil]
  conv=>lhs;rw[←e]
  unfold qG
  rw[(sp1_run (hd s) (hd_no s) []).2,xw,if_neg h]
  rfl
 ·rw[h1] at e ⊢
  rw[wds_sp]
  conv=>lhs;rw[←e]
  unfold qG
  rw[(sp1_run (hd s) (hd_no s) r).1,xw,if_neg h]
def trimd (s:List UInt8):Prop:=s=[]∨hd s≠[]
theorem kH:∀s:List UInt8,trimd (Lib.trimLeftB s 32)
 | []=>.inl rfl
 | b::l=>by
   unfold Lib.trimLeftB
   by_cases h:b=32
   ·subst h
    rw[List.dropWhile_cons_of_pos (by simp)]
    exact kH l
   ·rw[List.dropWhile_cons_of_neg (by simpa using h)]
    exact .inr (by simp[hd,h])
theorem trimL_id {s:List UInt8} (h:trimd s):Lib.trimLeftB s 32=s:=by
 cases s with
 | nil=>rfl
 | cons b l =>
   rcases h with h | h
   ·cases h
   ·unfold Lib.trimLeftB
    by_cases hb:b=32
    ·subst hb;exact absurd (by simp[hd]) h
    ·rw[List.dropWhile_cons_of_neg (by simpa using hb)]
theorem trimL_len (s:List UInt8):(Lib.trimLeftB s 32).length≤s.length:=(List.dropWhile_sublist _).length_le
theorem pre_hd {g:List UInt8} (hg:∀c∈g,c≠32) (s:List UInt8):g.isPrefixOf s=g.isPrefixOf (hd s):=by
 induction g generalizing s with
 | nil=>simp
 | cons a g ih =>
   cases s with
   | nil=>rfl
   | cons b s =>
     have ha:=hg a (by simp)
     by_cases hb:b=32
     ·subst hb
      have e:hd (32::s)=[]:=by simp[hd]
      rw[e]
      simp[List.isPrefixOf,ha]
     ·have e:hd (b::s)=b::hd s:=by simp[hd,hb]
      rw[e]
      simp only[List.isPrefixOf]
      rw[ih (fun c hc=>hg c (by simp[hc])) s]
theorem opW_hd:∀(gs:List (List UInt8)) (_:∀g∈gs,∀c∈g,c≠32) (s:List UInt8),opW gs s=((opW gs (hd s)).1,(opW gs (hd s)).2++tl s)
 | [],_,s=>by simp[opW,hd_tl]
 | g::gs,h,s=>by
   have hp:=pre_hd (h g (by simp)) s
   simp only[opW]
   rw[hp]
   split
   ·rename_i hq
    have hl:=(List.isPrefixOf_iff_prefix.1 hq).length_le
    have e:=hd_tl s
    conv=>lhs;rw[←e]
    rw[List.drop_append_of_le_length hl]
   ·exact opW_hd gs (fun g hg=>h g (by simp[hg])) s
theorem sgs_no:∀g∈sgs,∀c∈g,c≠32:=by decide
theorem yS:∀(gs:List (List UInt8)) (s:List UInt8),(opW gs s).2=s.drop (opW gs s).1.length
 | [],s=>rfl
 | g::gs,s=>by
   simp only[opW]
   split
   ·rfl
   ·exact yS gs s
theorem opW_suffix (gs:List (List UInt8)) (s:List UInt8):(opW gs s).2 <:+ s:=by rw[yS];exact List.drop_suffix _ _
abbrev Tok:=List UInt8×List UInt8
def tokW:List (List UInt8)→Option (List Tok)
 | []=>some []
 | [w]=>if (opW sgs w).2=[] then none else some [opW sgs w]
 | w::x::ws=>if (opW sgs w).2=[] then (tokW ws).map (((opW sgs w).1,x)::·) else (tokW (x::ws)).map (opW sgs w::·)
theorem kf (w:List UInt8) (ws:List (List UInt8)) (h:(opW sgs w).2≠[]):tokW (w::ws)=(tokW ws).map (opW sgs w::·):=by
 cases ws with
 | nil=>simp[tokW,h]
 | cons x ws=>simp[tokW,h]
def cutW (s:List UInt8):Tok×List UInt8:=((((opW sgs s).1,hd (Lib.trimLeftB (opW sgs s).2 32)):Tok),tl (Lib.trimLeftB (opW sgs s).2 32))
theorem cut_step {s:List UInt8} (h:hd s≠[]):tokW (qG s)=if (cutW s).1.2=[] then none else (tokW (qG (cutW s).2)).map ((cutW s).1::·):=by
 have ho:=opW_hd sgs sgs_no s
 obtain⟨o,r,hor⟩:∃o r,opW sgs (hd s)=(o,r):=⟨_,_,rfl⟩
 rw[hor] at ho
 simp only at ho
 have hrs:∀c∈r,c≠32:=fun c hc=>by
  have:=opW_suffix sgs (hd s)
  rw[hor] at this
  exact hd_no s c (this.mem hc)
 rw[wds_word h]
 by_cases hr:r=[]
 ·subst hr
  rw[List.nil_append] at ho
  unfold cutW
  rw[ho]
  simp only
  obtain⟨u,hu⟩:∃u,Lib.trimLeftB (tl s) 32=u:=⟨_,rfl⟩
  have hw:qG (tl s)=qG u:=by rw[←hu,wds_trimL]
  have ht:trimd u:=by rw[←hu];exact kH _
  rw[hu,hw]
  rcases ht with rfl | ht
  ·rw[wds_nil,if_pos (show hd []=[] from rfl)]
   simp[tokW,hor]
  ·rw[wds_word ht,if_neg ht]
   simp[tokW,hor]
 ·have h1:Lib.trimLeftB (r++tl s) 32=r++tl s:=by
   cases r with
   | nil=>exact absurd rfl hr
   | cons b r =>
     have hb:=hrs b (by simp)
     exact trimL_id (.inr (by simp[hd,hb]))
  have h2:hd (r++tl s)=r:=by
   unfold hd
   rw[List.takeWhile_append_of_pos (fun c hc=>by simpa using hrs c hc)]
   rcases tl_head s with e | ⟨q,e⟩<;>rw[e]<;>simp
  have h3:tl (r++tl s)=tl s:=by
   unfold tl
   rw[List.dropWhile_append_of_pos (fun c hc=>by simpa using hrs c hc)]
   rcases tl_head s with e | ⟨q,e⟩
   ·have e':List.dropWhile (fun x=>x != 32) s=[]:=e
    rw[e'];rfl
   ·have e':List.dropWhile (fun x=>x != 32) s=32::q:=e
    rw[e'];rfl
  unfold cutW
  rw[ho]
  simp only
  rw[h1,h2,h3,if_neg hr,kf _ _ (by rw[hor];exact hr),hor]
theorem cut_less {s:List UInt8} (h:(cutW s).1.2≠[]):(cutW s).2.length<s.length:=by
 unfold cutW at h ⊢
 simp only at h ⊢
 have h1:=hd_tl (Lib.trimLeftB (opW sgs s).2 32)
 have h2:=congrArg List.length h1
 rw[List.length_append] at h2
 have h3:=trimL_len (opW sgs s).2
 have h4:=xo sgs s
 have h5:=List.length_pos_iff.2 h
 omega
end Go.Proofs.YtpeaooooimfihaaGreatDoor
