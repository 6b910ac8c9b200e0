/-
value.Within: the check of a range, whether a version is in it; strings.HasSuffix.
Texts that are like a pattern: the plain law. The greedy search and the table both answer 'Lk'.
rule.Like: the program's search.
rule.passes: whether a value passes a test.
slices.ContainsFunc at conditions, with a function of the program's.
-/
import Derived.Test.YtanbabpnlgfcpaaGreatDoorG20
import Derived.Test.YtanbabpnlgfcpaaGreatDoorG18
import Derived.Test.YtanbabpnlgfcpaaGreatDoorG12
import Derived.Lib.TrimByte
import Derived.Test.YtanbabpnlgfcpaaGreatDoorG19
set_option maxRecDepth 8000
namespace Go.Proofs.YtanbabpnlgfcpaaGreatDoor
open Go.Proofs.Tryz
open Go.RowKit Go.AM
def hsP (a b:List UInt8):PV:=boo (Lib.hasSuffix a b)
theorem hasSuffix0_eval (a b:List UInt8) (h1:a.length≤lim) (h2:b.length≤lim):zi Cw0 f136 [str a,str b]=some (hsP a b):=by
 refine zb rfl ?_
 have hs:=Lib.hasSuffix_of_drop a b
 unfold lim at h1 h2
 by_cases h:b.length≤a.length
 ·rw[decide_eq_true h,Bool.true_and] at hs
  have w1:IntKind.i64.wrap ((a.length:Int) - b.length)=((a.length - b.length:Nat):Int):=by rw[zd (by omega) (by omega)];omega
  have e2:(a.drop (a.length - b.length)).take (a.length - (a.length - b.length))=a.drop (a.length - b.length):=List.take_of_length_le (by simp)
  simp[h,w1,hsP,←hs,e2,f136]
 ·rw[decide_eq_false h,Bool.false_and] at hs
  have h':¬((b.length:Int)≤a.length):=by omega
  simp[h,h',hsP,←hs,f136]
theorem hasSuffix0_sound:za prog 136 (zc false [] (FTT hsP fun _ _=>True)) :=
 zJ (fn:=f136) goodw0 ⟨_,func136,by kernel_rfl,rfl,by kernel_rfl⟩ false [] _ fun args r h=>by
  obtain⟨a,b,rfl,h1,h2,_,rfl⟩:=wq h
  exact⟨by simp[f136],_,hasSuffix0_eval a b h1 h2,zI _⟩
theorem hs_call (a b:List UInt8) (hp:Hp) (nx:Nat) (h:a.length≤lim) (h2:b.length≤lim):zc false [] (FTT hsP fun _ _=>True) [str a,str b] hp nx=some (boo (Lib.hasSuffix a b),hp,nx):=ww _ _ a b hp nx h h2 trivial rfl
noncomputable abbrev Chsf:Ctx:=zA prog [(136,zc false [] (FTT hsP fun _ _=>True))]
theorem hasSuffix_sound:za prog 118 (zc false [] (FTT hsP fun _ _=>True)) :=
 zJ (fn:=f118) (zk (q:=[]) mixed ⟨hasSuffix0_sound,by simp,trivial⟩:AM.Good Chsf _) ⟨_,func118,by kernel_rfl,rfl,by kernel_rfl⟩ false [] _ fun args r h=>by
  obtain⟨a,b,rfl,h1,h2,_,rfl⟩:=wq h
  exact⟨by simp[f118],_,zb rfl (by simp[hs_call,h1,h2,hsP,f118]),zI _⟩
noncomputable def FCu (f:Cut→PV):List PV→Option PV:=zG (α:=Cut) (fun c=>[.agg c.enc]) (fun c=>c.v.small) f
theorem FCu_call (f:Cut→PV) (c:Cut) (hp:Hp) (nx:Nat) (h:c.v.small) (hf:(f c).flat=true):zc false [] (FCu f) [.agg c.enc] hp nx=some (f c,hp,nx) :=
 zt (hp1:=hp) (show zh hp [.agg c.enc]=some ([.agg c.enc],hp) by simp[Cut.enc]) (zn (enc:=fun c:Cut=>[PV.agg c.enc]) (a:=c) (fun a b e=>by
  simp only[List.cons.injEq,and_true,PV.agg.injEq] at e
  exact yC e) h) (.inl hf)
def zeroC (c:Cut):Bool:=c.v.a==0&&(c.v.b==0&&(c.v.c==0&&((c.v.pre.length:Int)==0&&!c.after)))
theorem isZero_eval (c:Cut):zi Cw0 f189 [.agg c.enc]=some (boo (zeroC c)):=by
 refine zb rfl ?_
 obtain⟨⟨x,y,z,p⟩,f⟩:=c
 by_cases h1:x=0
 case neg =>
  have h1':(x==0)=false:=by simpa using h1
  simp[Cut.enc,h1',zeroC,f189]
 by_cases h2:y=0
 case neg =>
  have h2':(y==0)=false:=by simpa using h2
  simp[Cut.enc,h1,h2',zeroC,f189]
 by_cases h3:z=0
 case neg =>
  have h3':(z==0)=false:=by simpa using h3
  simp[Cut.enc,h1,h2,h3',zeroC,f189]
 cases h4:((p.length:Int)==0)
 ·simp[Cut.enc,h1,h2,h3,h4,zeroC,f189]
 ·cases f<;>simp[Cut.enc,h1,h2,h3,h4,zeroC,f189]
theorem isZero_sound:za prog 189 (zc false [] (FCu fun c=>boo (zeroC c))) :=
 zJ (fn:=f189) goodw0 ⟨_,func189,by kernel_rfl,rfl,by kernel_rfl⟩ false [] _ fun args r h=>by
  obtain⟨c,rfl,_,rfl⟩:=zf h
  exact⟨by simp[f189],_,isZero_eval c,zI _⟩
noncomputable def behC (v:Ver) (c:Cut):Bool:=decide (0<cmpV v c.v)||(cmpV v c.v==0&&!c.after)
noncomputable def FVC (f:Ver→Cut→PV):List PV→Option PV:=zG (α:=Ver×Cut) (fun a=>[.agg a.1.enc,.agg a.2.enc]) (fun a=>a.1.small∧a.2.v.small) (fun a=>f a.1 a.2)
theorem FVC_call (f:Ver→Cut→PV) (v:Ver) (c:Cut) (hp:Hp) (nx:Nat) (h:v.small) (h2:c.v.small) (hf:(f v c).flat=true):zc false [] (FVC f) [.agg v.enc,.agg c.enc] hp nx=some (f v c,hp,nx) :=
 zt (hp1:=hp) (show zh hp [.agg v.enc,.agg c.enc]=some ([.agg v.enc,.agg c.enc],hp) by simp[Cut.enc,Ver.enc]) (zn (enc:=fun a:Ver×Cut=>[PV.agg a.1.enc,.agg a.2.enc]) (a:=(v,c)) (fun a b e=>by
  obtain⟨a1,a2⟩:=a;obtain⟨b1,b2⟩:=b
  simp only[List.cons.injEq,and_true,PV.agg.injEq] at e
  rw[vF e.1,yC e.2]) ⟨h,h2⟩) (.inl hf)
theorem behind_eval (v:Ver) (c:Cut) (h:v.small) (h2:c.v.small):zi Ccu f154 [.agg v.enc,.agg c.enc]=some (boo (behC v c)):=by
 refine zb rfl ?_
 have hcv:=fun hp nx=>cv_call v c.v hp nx h h2
 simp only[Ver.enc] at hcv
 by_cases h1:0<cmpV v c.v
 ·simp[Cut.enc,Ver.enc,hcv,h1,behC,f154]
 by_cases h3:cmpV v c.v=0
 ·cases h4:c.after<;>simp[Cut.enc,Ver.enc,hcv,h3,h4,behC,f154]
 ·have h3':(cmpV v c.v==0)=false:=by simpa using h3
  simp[Cut.enc,Ver.enc,hcv,h1,h3',behC,f154]
theorem behind_sound:za prog 154 (zc false [] (FVC fun v c=>boo (behC v c))) :=
 zJ (fn:=f154) goodcu ⟨_,func154,by kernel_rfl,rfl,by kernel_rfl⟩ false [] _ fun args r h=>by
  obtain⟨⟨v,c⟩,rfl,⟨h1,h2⟩,rfl⟩:=zf h
  exact⟨by simp[f154],_,behind_eval v c h1 h2,zI _⟩
noncomputable def xw (s:Str):Int:=if s.endless=true then (if zeroC s.hi=true then 0 else 3) else if chkV s.hi.v=0 then (if 0≤cmpC s.lo s.hi then 8 else 0) else chkV s.hi.v
noncomputable def xZ (p:Option Str) (s:Str):Bool:=match p with
 | none=>false
 | some q=>q.endless||decide (0≤cmpC q.hi s.lo)
noncomputable def rngG:Option Str→List Str→Int
 | _,[]=>0
 | p,s::l=>if chkV s.lo.v=0 then (if xw s=0 then (if xZ p s=true then 8 else rngG (some s) l) else xw s) else chkV s.lo.v
theorem rngG_drop {l:List Str} {k:Nat} (h:k<l.length) (p:Option Str):rngG p (l.drop k)=if chkV l[k].lo.v=0 then (if xw l[k]=0 then (if xZ p l[k]=true then 8 else rngG (some l[k]) (l.drop (k+1))) else xw l[k]) else chkV l[k].lo.v:=by
 rw[List.drop_eq_getElem_cons h,rngG]
def prevR (l:List Str) (k:Nat):Option Str:=if k=0 then none else l[k - 1]?
noncomputable def rngF (l:List Str):Int:=if (100:Int)<l.length then 2 else rngG none l
noncomputable def inS (v:Ver) (s:Str):Bool:=behC v s.lo&&(s.endless||!behC v s.hi)
noncomputable abbrev Ccrg:Ctx:=zA prog [(142,zR [.g vpat] (FVr fun v=>int (chkV v))),(189,zc false [] (FCu fun c=>boo (zeroC c))),(186,zR [.g cpat,.g cpat] (FCC fun v w=>int (cmpC v w)))]
theorem goodcrg:AM.Good Ccrg (fun g=>[186].contains g):=zk mixed ⟨ya,by simp,isZero_sound,by simp,wE,fun _=>wU _ _,trivial⟩
theorem crg_known:kz Ccrg (fun g=>[186].contains g) 151 f151:=⟨_,func151,by kernel_rfl,rfl,by kernel_rfl⟩
theorem ckv_call (v:Ver) (hp:Hp) (nx:Nat) (h:v.small):zR [.g vpat] (FVr fun v=>int (chkV v)) [.agg v.enc] hp nx=some (int (chkV v),hp,nx):=FVr_call (fun v=>int (chkV v)) v (.agg v.enc) hp hp nx (.agg v.enc) (by simp[Ver.enc]) (by simp[Ver.enc]) h rfl
set_option maxHeartbeats 2000000 in
theorem checkRange_eval (l:List Str) (hl:qW l):zi Ccrg f151 [.sl 11 (encR l)]=some (int (rngF l)):=by
 obtain⟨hlen,hsm⟩:=hl
 unfold lim at hlen
 have hel:(encR l).length=l.length:=by simp[encR]
 have hke:∀(k:Nat) (h:k<(encR l).length) (h':k<l.length),(encR l)[k]=l[k].enc:=fun k h h'=>by simp[encR]
 refine zb rfl ?_
 by_cases c0:(100:Int)<l.length
 ·have hv:rngF l=2:=by unfold rngF;rw[if_pos c0]
  simp[hel,c0,hv,f151]
 simp[hel,c0]
 refine zC (fun k σ hp nx=>σ 0=.sl 11 (encR l)∧σ 10=.sl 11 (encR l)∧σ 11=int l.length∧σ 12=int k∧rngG none l=rngG (prevR l k) (l.drop k)) l.length ⟨by simp,by simp,by simp,by simp,by simp[prevR]⟩ ?_
 rintro k σ hp nx hk ⟨h0,h10,h11,h12,he⟩
 by_cases hlt:k<l.length
 ·have hw:IntKind.i64.wrap ((k:Int)+1)=(k:Int)+1:=zd (by omega) (by omega)
  obtain⟨s,hs⟩:∃s,l[k]=s:=⟨_,rfl⟩
  have hss:=hsm s (by rw[←hs];exact List.getElem_mem hlt)
  have hlt2:k<(encR l).length:=by omega
  have hkk:=hke k hlt2 hlt
  rw[hs] at hkk
  have hpv:prevR l (k+1)=some s:=by simp[prevR,hlt,hs]
  have g1:=fun hp nx=>ckv_call s.lo.v hp nx hss.1
  have g2:=fun hp nx=>ckv_call s.hi.v hp nx hss.2
  have g3:=fun hp nx=>FCu_call (fun c=>boo (zeroC c)) s.hi hp nx hss.2 rfl
  have g4:=fun hp nx=>xW s.lo s.hi hp nx hss.1 hss.2
  simp only[Ver.enc,Cut.enc] at g1 g2 g3 g4
  rw[rngG_drop hlt,hs] at he
  by_cases d1:chkV s.lo.v=0
  case neg =>
   rw[if_neg d1] at he
   have d1':(chkV s.lo.v != 0)=true:=by simpa using d1
   have hv:rngF l=chkV s.lo.v:=by unfold rngF;rw[if_neg c0,he]
   simp[h0,h10,h11,h12,hel,hlt,hlt2,hkk,Str.enc,Cut.enc,g1,d1',hv,f151]
  rw[if_pos d1] at he
  by_cases d2:xw s=0
  case neg =>
   rw[if_neg d2] at he
   have hv:rngF l=xw s:=by unfold rngF;rw[if_neg c0,he]
   cases e1:s.endless
   ·by_cases e2:chkV s.hi.v=0
    ·by_cases e3:0≤cmpC s.lo s.hi
     ·have hf:xw s=8:=by unfold xw;rw[e1,if_neg (by simp),if_pos e2,if_pos e3]
      simp[h0,h10,h11,h12,hel,hlt,hlt2,hkk,Str.enc,Cut.enc,g1,g2,g4,d1,e1,e2,e3,hv,hf,f151]
     ·exact absurd (by unfold xw;rw[e1,if_neg (by simp),if_pos e2,if_neg e3]) d2
    ·have e2':(chkV s.hi.v != 0)=true:=by simpa using e2
     have hf:xw s=chkV s.hi.v:=by unfold xw;rw[e1,if_neg (by simp),if_neg e2]
     simp[h0,h10,h11,h12,hel,hlt,hlt2,hkk,Str.enc,Cut.enc,g1,g2,d1,e1,e2',hv,hf,f151]
   ·cases e2:zeroC s.hi
    ·have hf:xw s=3:=by unfold xw;rw[e1,if_pos rfl,e2,if_neg (by simp)]
     simp[h0,h10,h11,h12,hel,hlt,hlt2,hkk,Str.enc,Cut.enc,g1,g3,d1,e1,e2,hv,hf,f151]
    ·exact absurd (by unfold xw;rw[e1,if_pos rfl,e2,if_pos rfl]) d2
  rw[if_pos d2] at he
  have hen:(s.endless=true∧zeroC s.hi=true)∨(s.endless=false∧chkV s.hi.v=0∧¬0≤cmpC s.lo s.hi):=by
   unfold xw at d2
   cases e1:s.endless
   ·rw[e1,if_neg (by simp)] at d2
    by_cases e2:chkV s.hi.v=0
    ·rw[if_pos e2] at d2
     by_cases e3:0≤cmpC s.lo s.hi
     ·rw[if_pos e3] at d2;omega
     ·exact .inr ⟨rfl,e2,e3⟩
    ·rw[if_neg e2] at d2;exact absurd d2 e2
   ·rw[e1,if_pos rfl] at d2
    cases e2:zeroC s.hi
    ·rw[e2,if_neg (by simp)] at d2;omega
    ·exact .inl ⟨rfl,rfl⟩
  by_cases k0:k=0
  ·subst k0
   have w1:IntKind.i64.wrap 1=1:=zd (by omega) (by omega)
   simp only[prevR,xZ,if_true,Bool.false_eq_true,if_false] at he
   have hfin:rngG none l=rngG (prevR l 1) l.tail:=by rw[he,hpv];simp
   rcases hen with⟨e1,e2⟩ | ⟨e1,e2,e3⟩
   ·simp[h0,h10,h11,h12,hel,hlt,hlt2,hkk,Str.enc,Cut.enc,g1,g3,d1,e1,e2,w1]
    exact⟨by omega,hfin⟩
   ·simp[h0,h10,h11,h12,hel,hlt,hlt2,hkk,Str.enc,Cut.enc,g1,g2,g4,d1,e1,e2,e3,w1]
    exact⟨by omega,hfin⟩
  ·obtain⟨j,rfl⟩:∃j,k=j+1:=⟨k - 1,by omega⟩
   have hj:j<l.length:=by omega
   have hj2:j<(encR l).length:=by omega
   obtain⟨q,hq⟩:∃q,l[j]=q:=⟨_,rfl⟩
   have hqq:=hsm q (by rw[←hq];exact List.getElem_mem hj)
   have hkj:=hke j hj2 hj
   rw[hq] at hkj
   have wj:IntKind.i64.wrap ((j:Int)+1 - 1)=(j:Int):=by rw[zd (by omega) (by omega)];omega
   have wj':IntKind.i64.wrap (j:Int)=(j:Int):=zd (by omega) (by omega)
   have j1:((j:Int)+1).toNat=j+1:=by omega
   have j2:0<(j:Int)+1:=by omega
   have j3:0≤(j:Int)+1:=by omega
   have j4:(j:Int)+1<l.length:=by omega
   have wk:IntKind.i64.wrap ((j:Int)+1+1)=(j:Int)+1+1:=zd (by omega) (by omega)
   have hpj:prevR l (j+1)=some q:=by simp[prevR,hj,hq]
   have g5:=fun hp nx=>xW q.hi s.lo hp nx hqq.2 hss.1
   simp only[Cut.enc] at g5
   rw[hpj] at he
   cases o1:q.endless
   ·by_cases o2:0≤cmpC q.hi s.lo
    ·have ho:xZ (some q) s=true:=by simp[xZ,o2]
     rw[ho,if_pos rfl] at he
     have hv:rngF l=8:=by unfold rngF;rw[if_neg c0,he]
     rcases hen with⟨e1,e2⟩ | ⟨e1,e2,e3⟩
     ·simp[h0,h10,h11,h12,hel,hlt,hlt2,hkk,hj,hj2,hkj,Str.enc,Cut.enc,g1,g3,g5,d1,e1,e2,o1,o2,wj,wj',j1,j2,j3,j4,hv,f151]
     ·simp[h0,h10,h11,h12,hel,hlt,hlt2,hkk,hj,hj2,hkj,Str.enc,Cut.enc,g1,g2,g4,g5,d1,e1,e2,e3,o1,o2,wj,wj',j1,j2,j3,j4,hv,f151]
    ·have ho:xZ (some q) s=false:=by simp[xZ,o1];omega
     rw[ho,if_neg (by simp)] at he
     rcases hen with⟨e1,e2⟩ | ⟨e1,e2,e3⟩
     ·simp[h0,h10,h11,h12,hel,hlt,hlt2,hkk,hj,hj2,hkj,Str.enc,Cut.enc,g1,g3,g5,d1,e1,e2,o1,o2,wj,wj',j1,j2,j3,j4,wk]
      exact⟨by omega,by rw[he,hpv]⟩
     ·simp[h0,h10,h11,h12,hel,hlt,hlt2,hkk,hj,hj2,hkj,Str.enc,Cut.enc,g1,g2,g4,g5,d1,e1,e2,e3,o1,o2,wj,wj',j1,j2,j3,j4,wk]
      exact⟨by omega,by rw[he,hpv]⟩
   ·have ho:xZ (some q) s=true:=by simp[xZ,o1]
    rw[ho,if_pos rfl] at he
    have hv:rngF l=8:=by unfold rngF;rw[if_neg c0,he]
    rcases hen with⟨e1,e2⟩ | ⟨e1,e2,e3⟩
    ·simp[h0,h10,h11,h12,hel,hlt,hlt2,hkk,hj,hj2,hkj,Str.enc,Cut.enc,g1,g3,d1,e1,e2,o1,wj,wj',j1,j2,j3,j4,hv,f151]
    ·simp[h0,h10,h11,h12,hel,hlt,hlt2,hkk,hj,hj2,hkj,Str.enc,Cut.enc,g1,g2,g4,d1,e1,e2,e3,o1,wj,wj',j1,j2,j3,j4,hv,f151]
 ·obtain rfl:k=l.length:=by omega
  rw[List.drop_length] at he
  have hv:rngF l=0:=by unfold rngF;rw[if_neg c0,he];rfl
  simp[h0,h10,h11,h12,hv,f151]
noncomputable def FRs (f:List Str→PV):List PV→Option PV:=zG (α:=List Str) (fun l=>[.sl 11 (encR l)]) qW f
theorem FRs_call (f:List Str→PV) (l:List Str) (hp:Hp) (nx:Nat) (h:qW l) (hf:(f l).flat=true):zc false [] (FRs f) [.sl 11 (encR l)] hp nx=some (f l,hp,nx) :=
 zt rfl (zn (enc:=fun l:List Str=>[PV.sl 11 (encR l)]) (a:=l) (fun a b e=>by
  simp only[List.cons.injEq,and_true] at e
  injection e with _ e
  exact jU e) h) (.inl hf)
theorem checkRange_sound:za prog 151 (zc false [] (FRs fun l=>int (rngF l))) :=
 zJ (fn:=f151) goodcrg crg_known false [] _ fun args r h=>by
  obtain⟨l,rfl,h1,rfl⟩:=zf h
  exact⟨Nat.le_trans (Nat.le_refl 1) (by decide),_,checkRange_eval l h1,zI _⟩
noncomputable abbrev Cwt1:Ctx:=zA prog [(154,zc false [] (FVC fun v c=>boo (behC v c)))]
noncomputable abbrev wt1S:AM.Spec:=hRun Cwt1 f153
set_option maxRecDepth 100000 in
theorem wt1_sound:za prog 153 wt1S:=zs (code:=_) (zk (q:=[]) mixed ⟨behind_sound,by simp,trivial⟩:AM.Good Cwt1 _) ⟨func153,by kernel_rfl,rfl,by kernel_rfl⟩
def boxV (v:Ver):Blk:=⟨177,4,false,[v.enc]⟩
theorem wt1_run (v:Ver) (s:Str) (hv:v.small) (h1:s.lo.v.small) (h2:s.hi.v.small) (hp:Hp) (nx id:Nat) (hid:id<nx) (hh:hp id=some (boxV v)):wt1S [.agg s.enc,.ref id 0 0] hp nx=some (boo (inS v s),upd hp nx (some ⟨216,11,false,[s.enc]⟩),nx+1):=by
 unfold wt1S hRun
 rw[if_pos (by simp[f153])]
 refine zZ rfl ?_
 have g1:=fun hp nx=>FVC_call (fun v c=>boo (behC v c)) v s.lo hp nx hv h1 rfl
 have g2:=fun hp nx=>FVC_call (fun v c=>boo (behC v c)) v s.hi hp nx hv h2 rfl
 have e1:¬id=nx:=by omega
 simp only[boxV,Ver.enc] at hh
 simp only[Cut.enc,Ver.enc] at g1 g2
 cases b1:behC v s.lo
 ·simp[Str.enc,Cut.enc,hh,e1,g1,b1,inS,f153]
 ·cases b2:s.endless
  ·simp[Str.enc,Cut.enc,hh,e1,g1,g2,b1,b2,inS,f153]
  ·simp[Str.enc,Cut.enc,hh,e1,g1,b1,b2,inS,f153]
noncomputable def wthF (v:Ver) (l:List Str):Bool×Int:=if chkV v=0 then (if rngF l=0 then (l.any (inS v),0) else (false,rngF l)) else (false,chkV v)
noncomputable def wthP (v:Ver) (l:List Str):PV:=.tup [boo (wthF v l).1,int (wthF v l).2]
noncomputable def FVR (f:Ver→List Str→PV):List PV→Option PV:=zG (α:=Ver×List Str) (fun a=>[.agg a.1.enc,.sl 11 (encR a.2)]) (fun a=>a.1.small∧qW a.2) (fun a=>f a.1 a.2)
theorem FVR_call (f:Ver→List Str→PV) (v:Ver) (l:List Str) (hp:Hp) (nx:Nat) (h:v.small) (h2:qW l) (hf:(f v l).flat=true):zc false [] (FVR f) [.agg v.enc,.sl 11 (encR l)] hp nx=some (f v l,hp,nx) :=
 zt (hp1:=hp) (show zh hp [.agg v.enc,.sl 11 (encR l)]=some ([.agg v.enc,.sl 11 (encR l)],hp) by simp[Ver.enc]) (zn (enc:=fun a:Ver×List Str=>[PV.agg a.1.enc,.sl 11 (encR a.2)]) (a:=(v,l)) (fun a b e=>by
  obtain⟨a1,a2⟩:=a;obtain⟨b1,b2⟩:=b
  simp only[List.cons.injEq,and_true,PV.agg.injEq] at e
  obtain⟨e1,e2⟩:=e
  injection e2 with _ e2
  rw[vF e1,jU e2]) ⟨h,h2⟩) (.inl hf)
noncomputable abbrev TAwt:Tab:=[(153,wt1S)]
noncomputable abbrev Cwth:Ctx:=zA prog [(142,zR [.g vpat] (FVr fun v=>int (chkV v))),(151,zc false [] (FRs fun l=>int (rngF l))),(152,rqctS TAwt)]
theorem within_eval (v:Ver) (l:List Str) (hv:v.small) (hl:qW l):zi Cwth f123 [.agg v.enc,.sl 11 (encR l)]=some (wthP v l):=by
 refine zb rfl ?_
 have g1:=fun hp nx=>ckv_call v hp nx hv
 have g2:=fun hp nx=>FRs_call (fun l=>int (rngF l)) l hp nx hl rfl
 obtain⟨r,hp',nx',e1,rfl,_,_,_⟩:=rqct_run (σ:=Unit) (T:=fun _=>False) (Rep:=fun _ hp=>hp 0=some (boxV v)) (step:=fun _ s=>(inS v s,())) (Ta:=TAwt) (g:=153) (sp:=wt1S) (fi:=[]) (cap:=[.ref 0 0 0]) (nx0:=1) (by simp) l hl.1
  (fun _ s hp nx hs hn hr=>⟨_,_,_,wt1_run v s hv (hl.2 s hs).1 (hl.2 s hs).2 hp nx 0 (by omega) hr,rfl,(ze _ _ _ _ (by omega)).trans hr,by omega,fun j hj _=>ze _ _ _ _ (by omega)⟩) () (upd (fun _=>none) 0 (some (boxV v))) 1 (Nat.le_refl _) (by simp)
 rw[jZ] at e1
 simp only[boxV,Ver.enc] at e1
 rw[show l.map Str.enc=encR l from rfl] at e1
 simp only[Ver.enc] at g1
 by_cases c1:chkV v=0
 case neg =>
  have c1':(chkV v != 0)=true:=by simpa using c1
  have hw:wthF v l=(false,chkV v):=by unfold wthF;rw[if_neg c1]
  simp[Ver.enc,g1,c1',wthP,hw,zU,f123]
 by_cases c2:rngF l=0
 case neg =>
  have c2':(rngF l != 0)=true:=by simpa using c2
  have hw:wthF v l=(false,rngF l):=by unfold wthF;rw[if_pos c1,if_neg c2]
  simp[Ver.enc,g1,c1,g2,c2',wthP,hw,zU,f123]
 have hw:wthF v l=(l.any (inS v),0):=by unfold wthF;rw[if_pos c1,if_pos c2]
 simp[Ver.enc,g1,c1,g2,c2,e1,wthP,hw,zU,f123]
theorem within2_sound:za prog 123 (zc false [] (FVR wthP)) :=
 zJ (fn:=f123) (zk (q:=[]) mixed ⟨ya,by simp,checkRange_sound,by simp,rqct_sound ⟨wt1_sound,by simp,trivial⟩,by simp,trivial⟩:AM.Good Cwth _) ⟨_,func123,by kernel_rfl,rfl,by kernel_rfl⟩ false [] _ fun args r h=>by
  obtain⟨⟨v,l⟩,rfl,⟨h1,h2⟩,rfl⟩:=zf h
  exact⟨by simp[f123],_,within_eval v l h1 h2,zI _⟩
end Go.Proofs.YtanbabpnlgfcpaaGreatDoor
namespace Go.LikeLaw
inductive Lk:List UInt8→List UInt8→Prop
 | nil:Lk [] []
 | star0 {t p:List UInt8}:Lk t p→Lk t (42::p)
 | star1 {c:UInt8} {t p:List UInt8}:Lk t (42::p)→Lk (c::t) (42::p)
 | one {c q:UInt8} {t p:List UInt8}:q≠42→(q=63∨q=c)→Lk t p→Lk (c::t) (q::p)
theorem star_iff {t p:List UInt8}:Lk t (42::p)↔∃t1 t2,t=t1++t2∧Lk t2 p:=by
 constructor
 ·intro h
  generalize hq:(42::p:List UInt8)=q at h
  induction h with
  | nil=>cases hq
  | star0 h _=>cases hq;exact⟨[],_,rfl,h⟩
  | @star1 c t p' h ih =>
    obtain⟨t1,t2,rfl,h2⟩:=ih hq
    exact⟨c::t1,t2,rfl,h2⟩
  | one hne _ _=>cases hq;exact absurd rfl hne
 ·rintro⟨t1,t2,rfl,h⟩
  induction t1 with
  | nil=>exact .star0 h
  | cons c t1 ih=>exact .star1 ih
theorem one_iff {c q:UInt8} {t p:List UInt8} (hq:q≠42):Lk (c::t) (q::p)↔(q=63∨q=c)∧Lk t p:=by
 constructor
 ·intro h
  cases h with
  | star0=>exact absurd rfl hq
  | star1=>exact absurd rfl hq
  | one _ h1 h2=>exact⟨h1,h2⟩
 ·rintro⟨h1,h2⟩;exact .one hq h1 h2
theorem nil_left {q:UInt8} {p:List UInt8} (hq:q≠42):¬Lk [] (q::p):=by
 intro h;cases h;exact hq rfl
theorem nil_all {p:List UInt8}:Lk [] p↔∀q∈p,q=42:=by
 induction p with
 | nil=>simp[Lk.nil]
 | cons q p ih =>
   by_cases hq:q=42
   ·subst hq
    rw[star_iff]
    constructor
    ·rintro⟨t1,t2,h,h2⟩
     obtain⟨_,rfl⟩:=List.append_eq_nil_iff.1 h.symm
     simpa using ih.1 h2
    ·intro h
     exact⟨[],[],rfl,ih.2 fun x hx=>h x (by simp[hx])⟩
   ·constructor
    ·intro h;exact absurd h (nil_left hq)
    ·intro h;exact absurd (h q (by simp)) hq
theorem append {t1 p1 t2 p2:List UInt8} (h1:Lk t1 p1) (h2:Lk t2 p2):Lk (t1++t2) (p1++p2):=by
 induction h1 with
 | nil=>exact h2
 | star0 _ ih=>exact .star0 ih
 | star1 _ ih=>exact .star1 ih
 | one a b _ ih=>exact .one a b ih
theorem split {p2:List UInt8}:∀{p1 t:List UInt8},Lk t (p1++p2)→∃t1 t2,t=t1++t2∧Lk t1 p1∧Lk t2 p2
 | [],t,h=>⟨[],t,rfl,.nil,h⟩
 | q::p1,t,h=>by
   by_cases hq:q=42
   ·subst hq
    obtain⟨a,b,rfl,hb⟩:=star_iff.1 h
    obtain⟨t1,t2,rfl,h1,h2⟩:=split hb
    exact⟨a++t1,t2,by simp,star_iff.2 ⟨a,t1,rfl,h1⟩,h2⟩
   ·cases t with
    | nil=>exact absurd h (nil_left hq)
    | cons c t =>
      obtain⟨a,b⟩:=(one_iff hq).1 h
      obtain⟨t1,t2,rfl,h1,h2⟩:=split b
      exact⟨c::t1,t2,rfl,.one hq a h1,h2⟩
theorem seg {s:List UInt8} (hs:∀q∈s,q≠42) {p:List UInt8}:∀{t:List UInt8},Lk t (s++p)→s.length≤t.length∧Lk (t.drop s.length) p:=by
 induction s with
 | nil=>intro t h;exact⟨by simp,h⟩
 | cons q s ih =>
   intro t h
   have hq:q≠42:=hs q (by simp)
   cases t with
   | nil=>exact absurd h (nil_left hq)
   | cons c t =>
     obtain⟨_,b⟩:=(one_iff hq).1 h
     obtain⟨h1,h2⟩:=ih (fun x hx=>hs x (by simp[hx])) b
     exact⟨by simp;omega,by simpa using h2⟩
structure Inv (t p:List UInt8) (star:Int) (fr i k:Nat):Prop where
 hi:i≤t.length
 hk:k≤p.length
 none_:star<0→star=-1∧(Lk t p↔Lk (t.drop i) (p.drop k))
 some_:0≤star→∃s,p.drop (star.toNat+1)=s++p.drop k∧star.toNat+1+s.length=k∧fr+s.length=i∧(∀q∈s,q≠42) ∧
  (∀r,Lk (t.drop i) r→Lk (t.drop fr) (s++r))∧(Lk t p↔∃f,fr≤f∧f≤t.length∧Lk (t.drop f) (p.drop (star.toNat+1)))
theorem Inv.start (t p:List UInt8):Inv t p (-1) 0 0 0:=⟨by simp,by simp,fun _=>⟨rfl,by simp⟩,fun h=>by omega⟩
theorem vo {l:List UInt8} {k:Nat} (h:k<l.length):l.drop k=l[k]::l.drop (k+1):=List.drop_eq_getElem_cons h
theorem Inv.atStar {t p:List UInt8} {star:Int} {fr i k:Nat} (h:Inv t p star fr i k) (hk:k<p.length) (hq:p[k]=42):Inv t p k i i (k+1):=by
 have hd:=vo hk
 rw[hq] at hd
 have key:Lk (t.drop i) (p.drop k)↔∃f,i≤f∧f≤t.length∧Lk (t.drop f) (p.drop (k+1)):=by
  rw[hd,star_iff]
  constructor
  ·rintro⟨t1,t2,e,h2⟩
   have hl:t1.length+t2.length=t.length - i:=by
    have:=congrArg List.length e
    simp at this
    omega
   refine⟨i+t1.length,by omega,by have:=h.hi;omega,?_⟩
   rw[←List.drop_drop,e]
   simpa using h2
  ·rintro⟨f,h1,h2,h3⟩
   refine⟨(t.drop i).take (f - i),t.drop f,?_,h3⟩
   rw[show t.drop f=(t.drop i).drop (f - i) by rw[List.drop_drop];congr 1;omega]
   exact (List.take_append_drop _ _).symm
 refine⟨h.hi,by omega,fun hh=>by omega,fun _=>⟨[],by simp,by simp,by simp,by simp,fun r hr=>by simpa using hr,?_⟩⟩
 have e1:(k:Int).toNat=k:=by simp
 rw[e1]
 by_cases hs:star<0
 ·rw[(h.none_ hs).2,key]
 ·obtain⟨s,s1,s2,s3,s4,s5,s6⟩:=h.some_ (by omega)
  rw[s6]
  constructor
  ·rintro⟨f,f1,f2,f3⟩
   rw[s1] at f3
   obtain⟨g1,g2⟩:=seg s4 f3
   rw[List.drop_drop] at g2
   simp at g1
   rw[hd,star_iff] at g2
   obtain⟨t1,t2,e,h2⟩:=g2
   have hl:t1.length+t2.length=t.length - (f+s.length):=by
    have:=congrArg List.length e
    simp at this
    omega
   refine⟨f+s.length+t1.length,by omega,by omega,?_⟩
   rw[←List.drop_drop,e]
   simpa using h2
  ·rintro hf
   exact⟨fr,Nat.le_refl _,by have:=h.hi;omega,by rw[s1];exact s5 _ (key.2 hf)⟩
theorem Inv.fit {t p:List UInt8} {star:Int} {fr i k:Nat} (h:Inv t p star fr i k) (hi:i<t.length) (hk:k<p.length) (hq:p[k]≠42) (hc:p[k]=63∨p[k]=t[i]):Inv t p star fr (i+1) (k+1):=by
 have hd:=vo hk
 have ht:=vo hi
 refine⟨by omega,by omega,fun hs=>⟨(h.none_ hs).1,?_⟩,fun hs=>?_⟩
 ·rw[(h.none_ hs).2,hd,ht,one_iff hq]
  exact⟨fun h=>h.2,fun h=>⟨hc,h⟩⟩
 ·obtain⟨s,s1,s2,s3,s4,s5,s6⟩:=h.some_ hs
  refine⟨s++[p[k]],by rw[s1,hd];simp,by simp;omega,by simp;omega,?_,?_,s6⟩
  ·intro q hq'
   rcases List.mem_append.1 hq' with h | h
   ·exact s4 q h
   ·simp at h;rw[h];exact hq
  ·intro r hr
   rw[List.append_assoc]
   refine s5 _ ?_
   rw[ht]
   exact .one hq hc hr
theorem noFit {t p:List UInt8} {i k:Nat} (hi:i<t.length) (h:k<p.length→∀hk:k<p.length,p[k]≠42∧¬(p[k]=63∨p[k]=t[i])):¬Lk (t.drop i) (p.drop k):=by
 intro hl
 rw[vo hi] at hl
 by_cases hk:k<p.length
 ·rw[vo hk] at hl
  obtain⟨a,b⟩:=h hk hk
  exact b ((one_iff a).1 hl).1
 ·rw[@List.drop_eq_nil_of_le _ p _ (by omega)] at hl
  cases hl
theorem Inv.none {t p:List UInt8} {star:Int} {fr i k:Nat} (h:Inv t p star fr i k) (hs:star<0) (hn:¬Lk (t.drop i) (p.drop k)):¬Lk t p:=by
 rw[(h.none_ hs).2];exact hn
theorem Inv.back {t p:List UInt8} {star:Int} {fr i k:Nat} (h:Inv t p star fr i k) (hi:i<t.length) (hs:0≤star) (hn:¬Lk (t.drop i) (p.drop k)):Inv t p star (fr+1) (fr+1) (star.toNat+1):=by
 obtain⟨s,s1,s2,s3,s4,s5,s6⟩:=h.some_ hs
 have hk:=h.hk
 refine⟨by omega,by omega,fun h=>by omega,fun _=>⟨[],by simp,by simp,by simp,by simp,fun r hr=>by simpa using hr,?_⟩⟩
 rw[s6]
 constructor
 ·rintro⟨f,f1,f2,f3⟩
  by_cases hf:f=fr
  ·subst hf
   rw[s1] at f3
   obtain⟨g1,g2⟩:=seg s4 f3
   rw[List.drop_drop,s3] at g2
   exact absurd g2 hn
  ·exact⟨f,by omega,f2,f3⟩
 ·rintro⟨f,f1,f2,f3⟩
  exact⟨f,by omega,f2,f3⟩
theorem Inv.done {t p:List UInt8} {star:Int} {fr i k:Nat} (h:Inv t p star fr i k) (hi:i=t.length):Lk t p↔∀q∈p.drop k,q=42:=by
 have e:t.drop i=[]:=List.drop_eq_nil_of_le (by omega)
 rw[←nil_all]
 by_cases hs:star<0
 ·rw[(h.none_ hs).2,e]
 ·obtain⟨s,s1,s2,s3,s4,s5,s6⟩:=h.some_ (by omega)
  rw[s6,s1]
  constructor
  ·rintro⟨f,f1,f2,f3⟩
   obtain⟨g1,g2⟩:=seg s4 f3
   simp at g1
   rwa [List.drop_drop,List.drop_eq_nil_of_le (by omega)] at g2
  ·intro hl
   exact⟨fr,Nat.le_refl _,by omega,s5 _ (by rw[e];exact hl)⟩
def meas (n m:Nat) (star:Int) (fr i:Nat):Nat:=((m:Int) - star).toNat*((n+2)*(n+2))+(n - fr)*(n+2)+(n - i)
end Go.LikeLaw
namespace Go.Proofs.YtanbabpnlgfcpaaGreatDoor
open Go.Proofs.Tryz
open Go.RowKit Go.AM Go.LikeLaw
theorem dw_nil (l:List UInt8):l.dropWhile (·==42)=[]↔∀q∈l,q=42:=by
 induction l with
 | nil=>simp
 | cons x l ih =>
   by_cases hx:x=42
   ·simp[hx,ih]
   ·simp[hx]
theorem trimB_nil (l:List UInt8):Lib.trimB l 42=[]↔∀q∈l,q=42:=by
 unfold Lib.trimB Lib.trimLeftB Lib.trimRightB
 rw[dw_nil]
 constructor
 ·intro h
  have key:∀m:List UInt8,(∀q∈m.dropWhile (·==42),q=42)→∀q∈m,q=42:=by
   intro m
   induction m with
   | nil=>simp
   | cons x m ih =>
     by_cases hx:x=42
     ·subst hx
      simp only[List.dropWhile_cons,beq_self_eq_true,if_true]
      intro hm q hq
      rcases List.mem_cons.1 hq with rfl | hq
      ·rfl
      ·exact ih hm q hq
     ·have hxb:(x==42)=false:=by simpa using hx
      simp only[List.dropWhile_cons,hxb,Bool.false_eq_true,if_false]
      intro hm
      exact absurd (hm x (by simp)) hx
  intro q hq
  exact key l.reverse (fun q hq=>h q (by simpa using hq)) q (by simpa using hq)
 ·intro h q hq
  have hq':=List.mem_reverse.1 hq
  exact h q (List.mem_reverse.1 ((List.dropWhile_sublist _).mem hq'))
noncomputable abbrev Clk:Ctx:=zA prog [(138,zc false [] (FTT tbP fun _ b=>one7 b))]
theorem goodlk:AM.Good Clk (fun g=>[138].contains g):=zk mixed ⟨sTrim_sound,fun _=>zg _ _,trivial⟩
theorem trim42_call (a:List UInt8) (hp:Hp) (nx:Nat) (h:a.length≤lim):zc false [] (FTT tbP fun _ b=>one7 b) [str a,str [42]] hp nx=some (str (Lib.trimB a 42),hp,nx):=ww _ _ a [42] hp nx h (by decide) ⟨42,rfl,by decide⟩ rfl
theorem meas_star {n m:Nat} {star:Int} {fr i k:Nat} (h1:star<k) (h2:k<m):meas n m k i i<meas n m star fr i:=by
 unfold meas
 obtain⟨d,hd⟩:∃d:Nat,((m:Int) - star).toNat=((m:Int) - (k:Int)).toNat+1+d:=⟨((m:Int) - star).toNat - ((m:Int) - (k:Int)).toNat - 1,by omega⟩
 have e1:(((m:Int) - (k:Int)).toNat+1+d)*((n+2)*(n+2))=((m:Int) - (k:Int)).toNat*((n+2)*(n+2))+(n+2)*(n+2)+d*((n+2)*(n+2)):=by rw[Nat.add_mul (_+1) d,Nat.add_mul _ 1,Nat.one_mul]
 rw[hd,e1]
 have h3:(n - i)*(n+2)≤n*(n+2):=Nat.mul_le_mul_right _ (by omega)
 have h4:(n+2)*(n+2)=n*(n+2)+2*(n+2):=by rw[Nat.add_mul]
 omega
theorem meas_back {n m:Nat} {star:Int} {fr i:Nat} (h1:fr≤i) (h2:i<n):meas n m star (fr+1) (fr+1)<meas n m star fr i:=by
 unfold meas
 have:n - fr=(n - (fr+1))+1:=by omega
 have e1:(n - (fr+1)+1)*(n+2)=(n - (fr+1))*(n+2)+(n+2):=by rw[Nat.add_mul _ 1,Nat.one_mul]
 rw[this,e1]
 omega
theorem meas_fit {n m:Nat} {star:Int} {fr i:Nat} (h2:i<n):meas n m star fr (i+1)<meas n m star fr i:=by
 unfold meas
 omega
open Classical in
noncomputable def likeB (t p:List UInt8):Bool:=decide (Lk t p)
theorem likeB_false {t p:List UInt8} (h:¬Lk t p):likeB t p=false:=by simp[likeB,h]
structure LInv (t p:List UInt8) (star:Int) (fr i k:Nat):Prop extends LikeLaw.Inv t p star fr i k where
 s0:-1≤star
 s1:star<k
 f1:fr≤i
theorem like_eval (t p:List UInt8) (ht:t.length≤lim) (hp:p.length≤lim):zi Clk f120 [str t,str p]=some (boo (likeB t p)):=by
 have hct:=trim42_call
 refine zb rfl ?_
 simp
 refine wv (fun st=>∃(star:Int) (fr i k:Nat),st.σ 0=str t∧st.σ 1=str p∧st.σ 5=int star∧st.σ 6=int fr∧st.σ 7=int i∧st.σ 8=int k∧LInv t p star fr i k)
  (fun st=>meas t.length p.length (jn (st.σ 5)) (jn (st.σ 6)).toNat (jn (st.σ 7)).toNat) ⟨-1,0,0,0,by simp,by simp,by simp,by simp,by simp,by simp,LikeLaw.Inv.start t p,by omega,by omega,by omega⟩ ?_
 rintro⟨σ,hp,nx⟩ ⟨star,fr,i,k,h0,h1,h5,h6,h7,h8,hI⟩
 simp only at h0 h1 h5 h6 h7 h8
 have hk:=hI.hk
 have hil:=hI.hi
 have s0:=hI.s0
 have s1:=hI.s1
 have f1:=hI.f1
 unfold lim at *
 by_cases hi:i<t.length
 ·have hnf:(∀hk:k<p.length,p[k]≠42∧¬(p[k]=63∨p[k]=t[i]))→¬Lk (t.drop i) (p.drop k):=fun h=>noFit hi fun _=>h
  have bad:(∀hk:k<p.length,p[k]≠42∧¬(p[k]=63∨p[k]=t[i]))→(star<0→likeB t p=false)∧(0≤star→LInv t p star (fr+1) (fr+1) (star.toNat+1)):=fun h =>
   ⟨fun hs=>likeB_false (hI.none hs (hnf h)),fun hs=>⟨hI.back hi hs (hnf h),by omega,by omega,by omega⟩⟩
  have wf:IntKind.i64.wrap ((fr:Int)+1)=((fr+1:Nat):Int):=by rw[zd (by omega) (by omega)];omega
  have wi:IntKind.i64.wrap ((i:Int)+1)=((i+1:Nat):Int):=by rw[zd (by omega) (by omega)];omega
  have wk:IntKind.i64.wrap ((k:Int)+1)=((k+1:Nat):Int):=by rw[zd (by omega) (by omega)];omega
  by_cases hk1:k<p.length
  ·by_cases hs:p[k]=42
   ·simp[h0,h1,h5,h6,h7,h8,hi,hk1,hs]
    exact⟨⟨i,rfl,i,rfl,k+1,wk,hI.atStar hk1 hs,by omega,by omega,by omega⟩,meas_star hI.s1 hk1⟩
   ·have hsb:((p[k].toNat:Int)==42)=false:=by rw[show (42:Int)=((42:UInt8).toNat:Int) from rfl,u8_eq];simpa using hs
    by_cases hq:p[k]=63
    ·simp[h0,h1,h5,h6,h7,h8,hi,hk1,hq]
     exact⟨⟨fr,rfl,i+1,wi,k+1,wk,hI.fit hi hk1 hs (.inl hq),by omega,by omega,by omega⟩,by rw[wi];exact meas_fit hi⟩
    ·have hqb:((p[k].toNat:Int)==63)=false:=by rw[show (63:Int)=((63:UInt8).toNat:Int) from rfl,u8_eq];simpa using hq
     by_cases hc:p[k]=t[i]
     ·have hcb:((p[k].toNat:Int)==(t[i].toNat:Int))=true:=by rw[u8_eq];simp[hc]
      simp[h0,h1,h5,h6,h7,h8,hi,hk1,hsb,hqb,hcb]
      exact⟨⟨fr,rfl,i+1,wi,k+1,wk,hI.fit hi hk1 hs (.inr hc),by omega,by omega,by omega⟩,by rw[wi];exact meas_fit hi⟩
     ·have hcb:((p[k].toNat:Int)==(t[i].toNat:Int))=false:=by rw[u8_eq];simp[hc]
      obtain⟨b1,b2⟩:=bad fun _=>⟨hs,by simp[hq,hc]⟩
      by_cases hst:0≤star
      ·have ws:IntKind.i64.wrap (star+1)=((star.toNat+1:Nat):Int):=by rw[zd (by omega) (by omega)];omega
       simp[h0,h1,h5,h6,h7,h8,hi,hk1,hsb,hqb,hcb,hst]
       exact⟨⟨fr+1,wf,fr+1,wf,star.toNat+1,ws,b2 hst⟩,by rw[wf];exact meas_back f1 hi⟩
      ·simp[h0,h1,h5,h6,h7,h8,hi,hk1,hsb,hqb,hcb,hst,f120,b1 (by omega)]
  ·obtain⟨b1,b2⟩:=bad fun h=>absurd h hk1
   by_cases hst:0≤star
   ·have ws:IntKind.i64.wrap (star+1)=((star.toNat+1:Nat):Int):=by rw[zd (by omega) (by omega)];omega
    simp[h0,h1,h5,h6,h7,h8,hi,hk1,hst]
    exact⟨⟨fr+1,wf,fr+1,wf,star.toNat+1,ws,b2 hst⟩,by rw[wf];exact meas_back f1 hi⟩
   ·simp[h0,h1,h5,h6,h7,h8,hi,hk1,hst,f120,b1 (by omega)]
 ·have hd:=hI.done (by omega)
  have hl:(p.drop k).length≤lim:=by simp[lim];omega
  have hb:(Lib.trimB (p.drop k) 42).isEmpty=likeB t p:=by
   rw[Bool.eq_iff_iff]
   simp only[List.isEmpty_iff,trimB_nil,likeB,decide_eq_true_eq,hd]
  have hl2:((p.drop k).take (p.length - k))=p.drop k:=List.take_of_length_le (by simp)
  simp[h0,h1,h5,h6,h7,h8,hi,hk,hl2,hb,hct (p.drop k) hp nx hl,f120]
noncomputable def likP (a b:List UInt8):PV:=boo (likeB a b)
theorem like_sound:za prog 120 (zc false [] (FTT likP fun _ _=>True)) :=
 zJ (fn:=f120) goodlk ⟨_,func120,by kernel_rfl,rfl,by kernel_rfl⟩ false [] _ fun args r h=>by
  obtain⟨a,b,rfl,h1,h2,_,rfl⟩:=wq h
  exact⟨by simp[f120],_,like_eval a b h1 h2,zI _⟩
end Go.Proofs.YtanbabpnlgfcpaaGreatDoor
namespace Go.Proofs.YtanbabpnlgfcpaaGreatDoor
open Go.Proofs.Tryz
open Go.RowKit Go.AM
theorem joinL_good:∀(ls:List (List Cpn)) (o r:List Str),(∀a∈ls,∀c∈a,c.good)→goodR o→joinL ls o=some r→goodR r
 | [],o,r,_,ho,h=>by simp only[joinL] at h;injection h with h;subst h;exact ho
 | l::ls,o,r,hl,ho,h=>by
   simp only[joinL] at h
   split at h
   ·rename_i m hm
    have hg:goodR [yj leastC]:=(vk yq).2
    exact joinL_good ls _ r (fun a ha=>hl a (by simp[ha])) (vL or ho (meetL_good l _ m (hl l (by simp)) hg hm).1) h
   ·cases h
theorem rdRange_small (t:List UInt8):qW (yO t).1:=by
 have h0:qW []:=⟨by simp,fun s hs=>by cases hs⟩
 unfold yO
 split
 ·exact h0
 rename_i h400
 split
 ·exact h0
 rename_i ls hls
 split
 ·exact h0
 rename_i o ho
 split
 ·exact h0
 rename_i h100
 have hg:=(rrA_good _ ls t.length (fun s hs=>jc hs) hls).1
 exact goodR.small (joinL_good ls [] o (fun a ha c hc=>(hg a ha).1 c hc) (fun s hs=>by cases hs) ho) (show o.length≤lim by unfold lim;omega)
theorem chkV_small {v:Ver} (h:chkV v=0):v.small:=by
 unfold chkV at h
 split at h
 case isFalse=>omega
 split at h
 ·omega
 rename_i hl
 split at h
 ·omega
 rename_i hb
 refine⟨by unfold lim;omega,fun p hp=>?_⟩
 have:¬yB p=true:=fun hh=>hb (List.any_eq_true.2 ⟨p,hp,hh⟩)
 unfold yB at this
 simp only[Bool.or_eq_true,decide_eq_true_eq,not_or] at this
 unfold lim
 omega
theorem rdV_small {t:List UInt8} {v:Ver} (h:rdV t=some v):chkV v=0∧v.small:=by
 have key:chkV v=0:=by
  unfold rdV at h
  split at h
  ·split at h
   ·split at h
    ·rename_i hc
     injection h with h
     rw[←h];exact hc
    ·cases h
   ·cases h
  ·cases h
 exact⟨key,chkV_small key⟩
noncomputable def lessV (l:List Val) (v:Val) (k:Nat):Bool:=match l[k]? with
 | some x=>decide (qM x v<0)
 | none=>false
noncomputable def bsV (l:List Val) (v:Val):Nat×Bool:=(bsGo (lessV l v) 0 l.length,match l[bsGo (lessV l v) 0 l.length]? with
 | some x=>qM x v==0
 | none=>false)
noncomputable def FLv (f:List Val→Val→PV) (fs:List PV):List PV→Option PV:=zG (α:=List Val×Val) (fun a=>.sl 5 (a.1.map Val.enc)::.agg a.2.enc::fs) (fun a=>vbs a.1≤lim∧a.2.vb≤lim) (fun a=>f a.1 a.2)
theorem lv_inj {fs:List PV}:∀a b:List Val×Val,PV.sl 5 (a.1.map Val.enc)::.agg a.2.enc::fs=PV.sl 5 (b.1.map Val.enc)::.agg b.2.enc::fs→a=b:=by
 rintro⟨a1,a2⟩ ⟨b1,b2⟩ e
 simp only[List.cons.injEq,and_true,PV.agg.injEq] at e
 obtain⟨e1,e2⟩:=e
 injection e1 with _ e1
 rw[vals_inj e1,km e2]
noncomputable def lvT (l:List Val) (v:Val):PV:=.tup [int (bsV l v).1,boo (bsV l v).2]
def fnVc:PV:=.fn (.func 115) [] []
theorem bsv_call (l:List Val) (v:Val) (hp:Hp) (nx:Nat) (h:vbs l≤lim) (h2:v.vb≤lim):zc false [] (FLv lvT [fnVc]) [.sl 5 (l.map Val.enc),.agg v.enc,fnVc] hp nx=some (lvT l v,hp,nx) :=
 zt (hp1:=hp) (show zh hp [.sl 5 (l.map Val.enc),.agg v.enc,fnVc]=some ([.sl 5 (l.map Val.enc),.agg v.enc,fnVc],hp) by simp[yQ v,fnVc]) (zn (enc:=fun a:List Val×Val=>PV.sl 5 (a.1.map Val.enc)::.agg a.2.enc::[fnVc]) (a:=(l,v)) lv_inj ⟨h,h2⟩) (.inl rfl)
theorem am_call (l:List Val) (v:Val) (hp:Hp) (nx:Nat) (h:vbs l≤lim) (h2:v.vb≤lim):zc false [] (FLv (fun l v=>boo (bsV l v).2) []) [.sl 5 (l.map Val.enc),.agg v.enc] hp nx=some (boo (bsV l v).2,hp,nx) :=
 zt (hp1:=hp) (show zh hp [.sl 5 (l.map Val.enc),.agg v.enc]=some ([.sl 5 (l.map Val.enc),.agg v.enc],hp) by simp[yQ v]) (zn (enc:=fun a:List Val×Val=>PV.sl 5 (a.1.map Val.enc)::.agg a.2.enc::[]) (a:=(l,v)) lv_inj ⟨h,h2⟩) (.inl rfl)
noncomputable abbrev Cbsv:Ctx:=zA prog [(115,zc false [] (FCV lim))]
theorem goodbsv:AM.Good Cbsv (fun g=>[115].contains g):=zk mixed ⟨xc lim,fun _=>zg _ _,trivial⟩
theorem bsv_eval (l:List Val) (v:Val) (hb:vbs l≤lim) (hv:v.vb≤lim):zi Cbsv f114 [.sl 5 (l.map Val.enc),.agg v.enc,fnVc]=some (lvT l v):=by
 have hl:=wW l
 unfold lim at hb hv
 refine zb rfl ?_
 simp[fnVc]
 refine wv (fun st=>st.σ 0=.sl 5 (l.map Val.enc)∧st.σ 2=.fn (.func 115) [] []∧st.σ 4=.ref 0 0 0∧st.σ 8=int l.length∧st.hp 0=some ⟨87,5,false,[v.enc]⟩∧∃lo hi:Nat,lo≤hi∧hi≤l.length∧st.σ 9=int lo∧st.σ 10=int hi∧bsGo (lessV l v) 0 l.length=bsGo (lessV l v) lo hi)
  (fun st=>(jn (st.σ 10)).toNat - (jn (st.σ 9)).toNat) ⟨by simp,by simp,by simp,by simp,by simp,0,l.length,by simp,by simp,by simp,by simp,rfl⟩ ?_
 rintro⟨σ,hp,nx⟩ ⟨h0,h2,h4,h8,b0,lo,hi,hlh,hhi,h9,h10,he⟩
 simp only at h0 h2 h4 h8 h9 h10 b0
 have hcall:=fun (k:Nat) (hk:k<l.length) hp nx=>FCV_call lim l[k] v hp nx ⟨by have:=jC (List.getElem_mem hk);unfold lim;omega,by have:=jC (List.getElem_mem hk);unfold lim;omega,by unfold lim;omega⟩
 by_cases hlt:lo<hi
 ·have w1:IntKind.i64.wrap ((lo:Int)+hi)=(lo:Int)+hi:=zd (by omega) (by omega)
  have hml:(lo+hi) / 2<l.length:=by omega
  obtain⟨m,hm⟩:∃m,m=(lo+hi) / 2:=⟨_,rfl⟩
  have hmid:IntKind.i64.wrap ((IntKind.u64.wrap ((lo:Int)+hi)).fdiv (2 ^ min 1 IntKind.u64.bits))=(m:Int):=by
   have e1:IntKind.u64.wrap ((lo:Int)+hi)=(lo:Int)+hi:=by rw[IntKind.wrap_u64];omega
   have e2:(2 ^ min 1 IntKind.u64.bits:Int)=2:=by decide
   rw[e1,e2,Int.fdiv_eq_ediv_of_nonneg _ (by omega),zd (by omega) (by omega)]
   omega
  have hml':m<l.length:=by omega
  have wm:IntKind.i64.wrap ((m:Int)+1)=(m:Int)+1:=zd (by omega) (by omega)
  have hla:lessV l v m=decide (qM l[m] v<0):=by simp[lessV,hml']
  rw[yd (lo:=lo) hlt,←hm,hla] at he
  have hcm:=hcall m hml'
  by_cases hc:qM l[m] v<0
  ·simp only[hc,decide_true,if_true] at he
   simp[h0,h2,h4,h8,h9,h10,b0,hlt,w1,hmid,hml',hcm,hc,wm]
   exact⟨⟨m+1,hi,by omega,hhi,by omega,rfl,he⟩,by omega⟩
  ·simp only[hc,decide_false,Bool.false_eq_true,if_false] at he
   simp[h0,h2,h4,h8,h9,h10,b0,hlt,w1,hmid,hml',hcm,hc]
   exact⟨⟨lo,m,by omega,by omega,rfl,rfl,he⟩,by omega⟩
 ·have he:bsGo (lessV l v) 0 l.length=lo:=by rw[he,jA (lo:=lo) hlt]
  unfold lvT bsV
  rw[he]
  by_cases hlo:lo<l.length
  ·have hcm:=hcall lo hlo
   simp[h0,h2,h4,h8,h9,h10,b0,hlt,hlo,hcm,f114,zU]
  ·have hlo':l[lo]?=none:=List.getElem?_eq_none (by omega)
   simp[h0,h2,h4,h8,h9,h10,b0,hlt,hlo,hlo',f114,zU]
theorem bsv_sound:za prog 114 (zc false [] (FLv lvT [fnVc])) :=
 zJ (fn:=f114) goodbsv ⟨_,func114,by kernel_rfl,rfl,by kernel_rfl⟩ false [] _ fun args r h=>by
  obtain⟨⟨l,v⟩,rfl,⟨h1,h2⟩,rfl⟩:=zf h
  exact⟨Nat.le_trans (Nat.le_refl 3) (by decide),_,bsv_eval l v h1 h2,zI _⟩
noncomputable abbrev Cam:Ctx:=zA prog [(114,zc false [] (FLv lvT [fnVc]))]
theorem among_sound:za prog 96 (zc false [] (FLv (fun l v=>boo (bsV l v).2) [])) :=
 zJ (fn:=f96) (zk (q:=[]) mixed ⟨bsv_sound,by simp,trivial⟩:AM.Good Cam _) ⟨_,func96,by kernel_rfl,rfl,by kernel_rfl⟩ false [] _ fun args r h=>by
  obtain⟨⟨l,v⟩,rfl,⟨h1,h2⟩,rfl⟩:=zf h
  have hc:∀hp nx,zc false [] (FLv lvT [fnVc]) [.sl 5 (l.map Val.enc),.agg v.enc,.fn (.func 115) [] []] hp nx=some (.tup [int (bsV l v).1,boo (bsV l v).2],hp,nx):=fun hp nx=>bsv_call l v hp nx h1 h2
  exact⟨by simp[f96],_,zb rfl (by simp[hc,f96]),zI _⟩
def ordF (op n w:Int):Bool:=if op=3 then decide (n<w) else if op=4 then decide (n≤w) else if op=5 then decide (w<n) else decide (w≤n)
noncomputable def FOd:List PV→Option PV:=zG (α:=Int×Int×Int) (fun a=>[int a.1,int a.2.1,int a.2.2]) (fun _=>True) (fun a=>boo (ordF a.1 a.2.1 a.2.2))
theorem FOd_call (a b c:Int) (hp:Hp) (nx:Nat):zc false [] FOd [int a,int b,int c] hp nx=some (boo (ordF a b c),hp,nx) :=
 zt rfl (zn (enc:=fun a:Int×Int×Int=>[int a.1,int a.2.1,int a.2.2]) (a:=(a,b,c)) (fun x y e=>by
  obtain⟨x1,x2,x3⟩:=x;obtain⟨y1,y2,y3⟩:=y
  simp only[List.cons.injEq,and_true] at e
  rw[zD e.1,zD e.2.1,zD e.2.2]) trivial) (.inl rfl)
theorem ordered_sound:za prog 100 (zc false [] FOd) :=
 zJ (fn:=f100) wA ⟨_,func100,by kernel_rfl,rfl,by kernel_rfl⟩ false [] _ fun args r h=>by
  obtain⟨⟨a,b,c⟩,rfl,_,rfl⟩:=zf h
  refine⟨by simp[f100],_,zb rfl ?_,zI _⟩
  by_cases h1:a=3
  ·simp[h1,ordF,f100]
  have h1':(a==3)=false:=by simpa using h1
  by_cases h2:a=4
  ·simp[h2,ordF,f100]
  have h2':(a==4)=false:=by simpa using h2
  by_cases h3:a=5
  ·simp[h3,ordF,f100]
  have h3':(a==5)=false:=by simpa using h3
  simp[h1,h1',h2,h2',h3,h3',ordF,f100]
noncomputable def verF (s p:List UInt8):Bool:=match rdV s with
 | none=>false
 | some v=>(wthF v (yO p).1).1
noncomputable def fitF (op:Int) (s p:List UInt8):Bool:=if op=7 then p.isPrefixOf s else if op=8 then Lib.hasSuffix s p else if op=9 then Lib.contains s p else if op=10 then likeB s p else verF s p
noncomputable def FFt:List PV→Option PV:=zG (α:=Int×List UInt8×List UInt8) (fun a=>[int a.1,str a.2.1,str a.2.2]) (fun a=>a.2.1.length+1≤lim∧a.2.2.length+1≤lim) (fun a=>boo (fitF a.1 a.2.1 a.2.2))
theorem FFt_call (a:Int) (b c:List UInt8) (hp:Hp) (nx:Nat) (h:b.length+1≤lim) (h2:c.length+1≤lim):zc false [] FFt [int a,str b,str c] hp nx=some (boo (fitF a b c),hp,nx) :=
 zt rfl (zn (enc:=fun a:Int×List UInt8×List UInt8=>[int a.1,str a.2.1,str a.2.2]) (a:=(a,b,c)) (fun x y e=>by
  obtain⟨x1,x2,x3⟩:=x;obtain⟨y1,y2,y3⟩:=y
  simp only[List.cons.injEq,and_true] at e
  rw[zD e.1,zM e.2.1,zM e.2.2]) ⟨h,h2⟩) (.inl rfl)
noncomputable abbrev Cfts:Ctx:=zA prog [(117,zc false [] (FTT hpP fun _ _=>True)),(118,zc false [] (FTT hsP fun _ _=>True)),(119,zc false [] (FTT hasP fun _ _=>True)),(120,zc false [] (FTT likP fun _ _=>True)),(121,zc false [] (FSP1 rdP)),(122,zc false [] (FSP1 rrP)),(123,zc false [] (FVR wthP))]
theorem fits_eval (a:Int) (b c:List UInt8) (h:b.length+1≤lim) (h2:c.length+1≤lim):zi Cfts f101 [int a,str b,str c]=some (boo (fitF a b c)):=by
 refine zb rfl ?_
 have g7:=fun hp nx=>hp_call b c hp nx (by omega) (by omega)
 have g8:=fun hp nx=>hs_call b c hp nx (by omega) (by omega)
 have g9:∀hp nx,zc false [] (FTT hasP fun _ _=>True) [str b,str c] hp nx=some (boo (Lib.contains b c),hp,nx):=fun hp nx=>ww _ _ b c hp nx (by omega) (by omega) trivial rfl
 have g10:∀hp nx,zc false [] (FTT likP fun _ _=>True) [str b,str c] hp nx=some (boo (likeB b c),hp,nx):=fun hp nx=>ww _ _ b c hp nx (by omega) (by omega) trivial rfl
 have g11:=fun hp nx=>jS rdP b hp nx h
 have g12:=fun hp nx=>jS rrP c hp nx h2
 by_cases h7:a=7
 ·simp[h7,g7,fitF,f101]
 have h7':(a==7)=false:=by simpa using h7
 by_cases h8:a=8
 ·simp[h8,g8,fitF,f101]
 have h8':(a==8)=false:=by simpa using h8
 by_cases h9:a=9
 ·simp[h9,g9,fitF,f101]
 have h9':(a==9)=false:=by simpa using h9
 by_cases h10:a=10
 ·simp[h10,g10,fitF,f101]
 have h10':(a==10)=false:=by simpa using h10
 have hv:fitF a b c=verF b c:=by unfold fitF;rw[if_neg h7,if_neg h8,if_neg h9,if_neg h10]
 rw[hv]
 unfold verF
 cases hr:rdV b with
 | none =>
   simp only[rdP,hr] at g11
   simp[h7',h8',h9',h10',g11,ver0,Ver.enc,f101]
 | some v =>
   have hs:=(rdV_small hr).2
   have g13:=fun hp nx=>FVR_call wthP v (yO c).1 hp nx hs (rdRange_small c) rfl
   simp only[rdP,hr] at g11
   simp only[rrP] at g12
   simp only[wthP] at g13
   simp only[Ver.enc] at g11 g13
   simp[h7',h8',h9',h10',g11,g12,g13,f101]
theorem fits_sound:za prog 101 (zc false [] FFt) :=
 zJ (fn:=f101) (zk (q:=[]) mixed ⟨hasPrefix_sound,by simp,hasSuffix_sound,by simp,xa,by simp,like_sound,by simp,jT,by simp,vm,by simp,within2_sound,by simp,trivial⟩:AM.Good Cfts _) ⟨_,func101,by kernel_rfl,rfl,by kernel_rfl⟩ false [] _ fun args r h=>by
  obtain⟨⟨a,b,c⟩,rfl,⟨h1,h2⟩,rfl⟩:=zf h
  exact⟨by simp[f101],_,fits_eval a b c h1 h2,zI _⟩
def boxC (c:Cnd):Blk:=⟨68,7,false,[c.enc]⟩
noncomputable abbrev Cps1:Ctx:=zA prog [(96,zc false [] (FLv (fun l v=>boo (bsV l v).2) []))]
noncomputable abbrev ps1S:AM.Spec:=hRun Cps1 f98
set_option maxRecDepth 100000 in
theorem ps1_sound:za prog 98 ps1S:=zs (code:=_) (zk (q:=[]) mixed ⟨among_sound,by simp,trivial⟩:AM.Good Cps1 _) ⟨func98,by kernel_rfl,rfl,by kernel_rfl⟩
theorem ps1_run (c:Cnd) (v:Val) (hc:c.cb≤lim) (hv:v.vb≤lim) (hp:Hp) (nx id:Nat) (hid:id<nx) (hh:hp id=some (boxC c)):ps1S [.agg v.enc,.ref id 0 0] hp nx=some (boo (bsV c.vals v).2,upd hp nx (some ⟨87,5,false,[v.enc]⟩),nx+1):=by
 have hcb:=cb_eq c
 unfold ps1S hRun
 rw[if_pos (by simp[f98])]
 refine zZ rfl ?_
 have g1:=fun hp nx=>am_call c.vals v hp nx (by omega) hv
 have e1:¬id=nx:=by omega
 simp only[boxC] at hh
 simp[hh,e1,g1,f98]
def headN (l:List Val):Int:=match l with
 | []=>0
 | x::_=>x.n
noncomputable def x0 (c:Cnd) (v:Val):Bool:=if c.op=1 then true else if c.op=2 then (bsV c.vals v).2 else if c.op=12 then v.kind==4&&v.items.any (fun x=>(bsV c.vals x).2) else if vR c.op=true then v.kind==2&&ordF c.op v.n (headN c.vals) else v.kind==3&&fitF c.op v.s c.pat
noncomputable def FPs:List PV→Option PV:=zG (α:=Cnd×Val) (fun a=>[.agg a.1.enc,.agg a.2.enc]) (fun a=>a.1.cb≤lim∧a.2.vb≤lim∧(vR a.1.op=true→0<a.1.vals.length)) (fun a=>boo (x0 a.1 a.2))
theorem FPs_call (c:Cnd) (v:Val) (hp:Hp) (nx:Nat) (h:c.cb≤lim) (h2:v.vb≤lim) (h3:vR c.op=true→0<c.vals.length):zc false [] FPs [.agg c.enc,.agg v.enc] hp nx=some (boo (x0 c v),hp,nx) :=
 zt (hp1:=hp) (show zh hp [.agg c.enc,.agg v.enc]=some ([.agg c.enc,.agg v.enc],hp) by simp[yQ v,ql]) (zn (enc:=fun a:Cnd×Val=>[PV.agg a.1.enc,.agg a.2.enc]) (a:=(c,v)) (fun a b e=>by
  obtain⟨a1,a2⟩:=a;obtain⟨b1,b2⟩:=b
  simp only[List.cons.injEq,and_true,PV.agg.injEq] at e
  rw[xS e.1,km e.2]) ⟨h,h2,h3⟩) (.inl rfl)
noncomputable abbrev TAps:Tab:=[(98,ps1S)]
noncomputable abbrev Cps:Ctx:=zA prog [(96,zc false [] (FLv (fun l v=>boo (bsV l v).2) [])),(97,vqctS TAps),(99,zc false [] (FIb vR)),(100,zc false [] FOd),(101,zc false [] FFt)]
theorem goodps:AM.Good Cps (fun g=>([]:List Nat).contains g):=zk mixed ⟨among_sound,by simp,vqct_sound ⟨ps1_sound,by simp,trivial⟩,by simp,xu,by simp,ordered_sound,by simp,fits_sound,by simp,trivial⟩
theorem ps_known:kz Cps (fun g=>([]:List Nat).contains g) 62 f62:=⟨_,func62,by kernel_rfl,rfl,by kernel_rfl⟩
theorem passes_eval (c:Cnd) (v:Val) (hc:c.cb≤lim) (hv:v.vb≤lim) (h3:vR c.op=true→0<c.vals.length):zi Cps f62 [.agg c.enc,.agg v.enc]=some (boo (x0 c v)):=by
 have hcb:=cb_eq c
 have hvb:=vb_eq v
 refine zb rfl ?_
 have hlim:lim=2097152:=rfl
 by_cases o1:c.op=1
 ·have hw:x0 c v=true:=by unfold x0;rw[if_pos o1]
  simp[o1,hw,f62]
 have o1':(c.op==1)=false:=by simpa using o1
 by_cases o2:c.op=2
 ·have hw:x0 c v=(bsV c.vals v).2:=by unfold x0;rw[if_neg o1,if_pos o2]
  have g1:=fun hp nx=>am_call c.vals v hp nx (by omega) hv
  simp[o2,g1,hw,f62]
 have o2':(c.op==2)=false:=by simpa using o2
 by_cases o3:c.op=12
 ·have hw:x0 c v=(v.kind==4&&v.items.any fun x=>(bsV c.vals x).2):=by unfold x0;rw[if_neg o1,if_neg o2,if_pos o3]
  have hil:=wW v.items
  have him:=fun x (hx:x∈v.items)=>jC hx
  obtain⟨r,hp',nx',e1,rfl,_,_,_⟩:=vqct_run (σ:=Unit) (T:=fun _=>False) (Rep:=fun _ hp=>hp 0=some (boxC c)) (step:=fun _ x=>((bsV c.vals x).2,())) (Ta:=TAps) (g:=98) (sp:=ps1S) (fi:=[]) (cap:=[.ref 0 0 0]) (nx0:=1) (by simp) v.items (by omega)
   (fun _ x hp nx hx hn hr=>⟨_,_,_,ps1_run c x hc (by have:=him x hx;omega) hp nx 0 (by omega) hr,rfl,(ze _ _ _ _ (by omega)).trans hr,by omega,fun j hj _=>ze _ _ _ _ (by omega)⟩) () (upd (upd (fun _=>none) 0 (some (boxC c))) 1 (some ⟨87,5,false,[v.enc]⟩)) 2 (by omega) (by simp)
  rw[jZ] at e1
  simp only[boxC] at e1
  rw[hw]
  cases k4:v.kind==4
  ·simp[o3,k4,f62]
  ·simp[o3,k4,e1,f62]
 have o3':(c.op==12)=false:=by simpa using o3
 cases o4:vR c.op
 ·have hw:x0 c v=(v.kind==3&&fitF c.op v.s c.pat):=by unfold x0;rw[if_neg o1,if_neg o2,if_neg o3,o4,if_neg (by simp)]
  have g1:=fun hp nx=>FFt_call c.op v.s c.pat hp nx (by omega) (by omega)
  rw[hw]
  cases k3:v.kind==3
  ·simp[o1',o2',o3',o4,k3,f62]
  ·simp[o1',o2',o3',o4,k3,g1,f62]
 ·have hw:x0 c v=(v.kind==2&&ordF c.op v.n (headN c.vals)):=by unfold x0;rw[if_neg o1,if_neg o2,if_neg o3,if_pos o4]
  have hl:=h3 o4
  obtain⟨x,l,hx⟩:∃x l,c.vals=x::l:=by
   cases hcv:c.vals with
   | nil=>rw[hcv] at hl;cases hl
   | cons x l=>exact⟨x,l,rfl⟩
  have g1:=fun hp nx=>FOd_call c.op v.n x.n hp nx
  rw[hw]
  have hh:headN c.vals=x.n:=by rw[hx];rfl
  rw[hh]
  cases k2:v.kind==2
  ·simp[o1',o2',o3',o4,k2,f62]
  ·simp[o1',o2',o3',o4,k2,hx,g1,f62]
theorem passes_sound:za prog 62 (zc false [] FPs) :=
 zJ (fn:=f62) goodps ps_known false [] _ fun args r h=>by
  obtain⟨⟨c,v⟩,rfl,⟨h1,h2,h3⟩,rfl⟩:=zf h
  exact⟨by simp[f62],_,passes_eval c v h1 h2 h3,zI _⟩
noncomputable def cqixS (Ta:Tab):AM.Spec:=hRun (zA prog Ta) f91
noncomputable def cqctS (Ta:Tab):AM.Spec:=hRun (zA prog [(91,cqixS Ta)]) f57
set_option maxRecDepth 100000 in
theorem cqix_sound {Ta:Tab} (h:AllD True prog [] Ta):za prog 91 (cqixS Ta):=zs (code:=_) (zk (q:=[]) mixed h) ⟨func91,by kernel_rfl,rfl,by kernel_rfl⟩
set_option maxRecDepth 100000 in
theorem cqct_sound {Ta:Tab} (h:AllD True prog [] Ta):za prog 57 (cqctS Ta):=zs (code:=_) (zk (q:=[]) (l:=[(91,cqixS Ta)]) mixed ⟨cqix_sound h,by simp,trivial⟩) ⟨func57,by kernel_rfl,rfl,by kernel_rfl⟩
theorem cqct_run {σ:Type} {T:Nat→Prop} {Rep:σ→Hp→Prop} {step:σ→Cnd→Bool×σ} {Ta:Tab} {g:Nat} {sp:AM.Spec} {fi cap:List PV} {nx0:Nat} (hg:lookup Ta g=some sp) (xs:List Cnd) (hl:xs.length≤lim)
  (hS:∀s x hp nx,x∈xs→nx0≤nx→Rep s hp→∃r hp' nx',sp (fi++.agg x.enc::cap) hp nx=some (r,hp',nx')∧qL T Rep (boo (step s x).1) (step s x).2 hp nx r hp' nx')
  (s0:σ) (hp0:Hp) (nx1:Nat) (hn:nx0≤nx1) (hr:Rep s0 hp0) :
  ∃r hp' nx',cqctS Ta [.sl 7 (xs.map Cnd.enc),.fn (.func g) fi cap] hp0 nx1=some (r,hp',nx')∧qL T Rep (boo (zT step s0 xs).1) (zT step s0 xs).2 hp0 nx1 r hp' nx':=by
 have key:∃r hp' nx',cqixS Ta [.sl 7 (xs.map Cnd.enc),.fn (.func g) fi cap] hp0 nx1=some (r,hp',nx')∧∃z:Int,r=int z∧decide (0≤z)=(zT step s0 xs).1∧qL T Rep (int z) (zT step s0 xs).2 hp0 nx1 r hp' nx':=by
  unfold cqixS hRun
  rw[if_pos (by simp[f91])]
  refine zu rfl ?_
  unfold lim at hl
  simp
  refine zC (fun k σ hp nx=>σ 0=.sl 7 (xs.map Cnd.enc)∧σ 1=.fn (.func g) fi cap∧σ 7=int xs.length∧σ 8=int k∧nx1≤nx∧(∀j,j<nx1→¬T j→hp j=hp0 j)∧∃s,Rep s hp∧zT step s0 xs=zT step s (xs.drop k)) xs.length ⟨by simp,by simp,by simp,by simp,Nat.le_refl _,fun _ _ _=>rfl,s0,hr,by simp⟩ ?_
  rintro k σ hp nx hk ⟨h0,h1,h7,h8,hnx,hfr,s,hrs,he⟩
  by_cases hlt:k<xs.length
  ·have hw:IntKind.i64.wrap ((k:Int)+1)=(k:Int)+1:=zd (by omega) (by omega)
   obtain⟨x,hx⟩:∃x,xs[k]=x:=⟨_,rfl⟩
   obtain⟨r,hp2,nx2,e1,rfl,r2,n2,f2⟩:=hS s x hp nx (by rw[←hx];exact List.getElem_mem hlt) (by omega) hrs
   rw[List.drop_eq_getElem_cons hlt,hx] at he
   have hf2:∀j,j<nx1→¬T j→hp2 j=hp0 j:=fun j hj ht=>by rw[f2 j (by omega) ht];exact hfr j hj ht
   cases hst:(step s x).1
   ·rw[yu hst] at he
    rw[hst] at e1
    simp[h0,h1,h7,h8,hlt,hx,hg,e1,hw]
    exact⟨by omega,by omega,hf2,_,r2,he⟩
   ·rw[jf hst] at he
    rw[hst] at e1
    simp[h0,h1,h7,h8,hlt,hx,hg,e1,he,qL,f91]
    exact⟨r2,by omega,hf2⟩
  ·obtain rfl:k=xs.length:=by omega
   rw[List.drop_length] at he
   simp only[zT] at he
   simp[h0,h1,h7,h8,he,qL,f91]
   exact⟨hrs,hnx,hfr⟩
 obtain⟨r,hp',nx',e1,z,rfl,hz,_,k2,k3,k4⟩:=key
 unfold cqctS hRun
 rw[if_pos (by simp[f57])]
 refine zu rfl ?_
 simp[e1,hz,qL,f57]
 exact⟨k2,k3,k4⟩
end Go.Proofs.YtanbabpnlgfcpaaGreatDoor
