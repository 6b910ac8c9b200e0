/-
The reference's ranges: the range of a comparison, the words of an alternative.
The reference's ranges: the range from a version to another one.
The abstract machine, part 29: slices.Grow of nil; append of a whole slice.
The reference's ranges: two of them in one row.
The abstract machine, part 32: slices.Insert of one element into a slice of one's own.
What slices.Insert asks of the model at elements of several cells: copying, laying zero elements behind.
-/
import Derived.Test.YtpeaooooimfihaaGreatDoorG23
import Derived.Test.YtpeaooooimfihaaGreatDoorG24
import Derived.Test.YtpeaooooimfihaaGreatDoorG19
import Derived.Shelf.Spec.SlicesGrow
import Derived.Test.YtpeaooooimfihaaGreatDoorG9
import Derived.Laws.CopyRow
import Derived.Lib.Overlaps
import Derived.Lib.AppendZerosOnto
import Derived.Laws.NewBlocks
set_option maxRecDepth 8000
namespace Go.Proofs.YtpeaooooimfihaaGreatDoor
open Go.Proofs.Tryz
open Go.RowKit Go.AM
noncomputable def vY (o:List UInt8) (v:Ver) (m:Int):PV:=.tup [.sl 11 (encR (oneX o (v.part m)).1),int (if (oneX o (v.part m)).2=true then 0 else 1)]
noncomputable def FOVI:List PV→Option PV:=zH (α:=List UInt8×Ver×Int) (fun a=>[str a.1,.agg a.2.1.enc,int a.2.2]) (fun a=>sgOk a.1∧a.2.1.ok∧1≤a.2.2∧a.2.2≤3) (fun a=>vY a.1 a.2.1 a.2.2)
theorem FOVI_call (o:List UInt8) (v:Ver) (m:Int) (hp:Hp) (nx:Nat) (ho:sgOk o) (hv:v.ok) (hm:1≤m∧m≤3):zC [.a,.g vpat] FOVI [str o,.agg v.enc,int m] hp nx=some (vY o v m,hp,nx) :=
 wy (show zi hp [str o,.agg v.enc,int m]=some ([str o,.agg v.enc,int m],hp) by simp[Ver.enc]) (by
  show FOVI [str o,(Sh.g vpat).fix (.agg v.enc),int m]=_
  rw[vW]
  exact zn (enc:=fun a:List UInt8×Ver×Int=>[str a.1,PV.agg a.2.1.enc,int a.2.2]) (a:=(o,v,m)) (fun x y e=>by
   obtain⟨x1,x2,x3⟩:=x;obtain⟨y1,y2,y3⟩:=y
   simp only[List.cons.injEq,and_true] at e
   obtain⟨e1,e2,e3⟩:=e
   injection e2 with e2
   rw[qt e1,vK e2,zG e3]) ⟨ho,hv,hm⟩) (.inr (by simp[Ver.enc]))
abbrev qst:List Nat:=[119,160,164,165]
noncomputable abbrev Crst:Ctx:=zF prog [(159,zC [.g vpat] (FVI jN fun m=>1≤m∧m≤3)),(119,zC [] (xn leastP)),(160,zC [.g cpat,.g cpat] (FCC btwP)),(164,zC [.g vpat] (FVI ye fun i=>0≤i∧i<3)),(165,zC [.g vpat] (FVI yf fun m=>1≤m∧m≤3))]
theorem goodrst:AM.Good Crst (fun g=>qst.contains g):=zm mixed ⟨rupper_sound,by simp,rleast_sound,fun _=>qq _ _,rupTo_sound,fun _=>qq _ _,rraised_sound,fun _=>qq _ _,rcaret_sound,fun _=>qq _ _,trivial⟩
theorem Ver.ok.small {v:Ver} (h:v.ok):wJ v.pre:=h.2.2.2
set_option maxHeartbeats 2000000 in
theorem rstretch_eval (o:List UInt8) (v:Ver) (m:Int) (ho:sgOk o) (hv:v.ok) (hm:1≤m∧m≤3):∃r0,zj Crst f122 [str o,.agg v.enc,int m]=some r0∧Stands r0 (vY o v m):=by
 refine qe (sh:=.s 11 spat) rfl ?_
 have hsm:=hv.small
 have hup:=fun hp nx=>FVI_call jN (fun m=>1≤m∧m≤3) v m (.agg v.enc) hp nx hv hm (vW v) (venc_frz v hp) (venc_own v)
 have hct:=fun hp nx=>FVI_call yf (fun m=>1≤m∧m≤3) v m (.agg v.enc) hp nx hv hm (vW v) (venc_frz v hp) (venc_own v)
 have hra:=fun (i:Int) (hi:0≤i∧i<3) hp nx=>FVI_call ye (fun i=>0≤i∧i<3) v i (.agg v.enc) hp nx hv hi (vW v) (venc_frz v hp) (venc_own v)
 have hle:∀(hp:Hp) (nx:Nat),zC [] (xn leastP) [] hp nx=some (.agg [int leastC.v.a,int leastC.v.b,int leastC.v.c,.sl 1 (encT leastC.v.pre),boo leastC.after],hp,nx):=fun hp nx=>yY _ hp nx
 have hlo:lowC (v.part m)=⟨v,false⟩:=rfl
 have hsp:wJ (v.part m).pre:=hsm
 have hb1:=fun hp nx=>jM leastC (lowC (v.part m)) hp nx small0 (yz hsp)
 have hb2:=fun hp nx=>jM leastC (yh (v.part m)) hp nx small0 (yZ hsp)
 have hb3:=fun hp nx=>jM (lowC (v.part m)) (yh (v.part m)) hp nx (yz hsp) (yZ hsp)
 have hb4:=fun i hp nx=>jM (lowC (v.part m)) (qB (v.part m) i) hp nx (yz hsp) (vo _ i)
 have hrp:=fun i=>raised_part v 3 m i
 simp only[btwP,hlo,Ver.enc,Cut.enc,jN,highP,yf,ye,wu,(hrp _).1,(hrp _).2] at hup hct hra hb1 hb2 hb3 hb4
 have hw:IntKind.i64.wrap (m - 1)=m - 1:=zh (by omega) (by omega)
 have hhas:(v.part m).has=m:=rfl
 have nall:∀o':List UInt8,o'=o→o'≠qX:=fun o' e=>by
  subst e
  rcases ho with rfl | ho
  ·decide
  ·intro e;rw[e] at ho;revert ho;decide
 have n45:o≠[45]:=by
  rcases ho with rfl | ho
  ·decide
  ·intro e;rw[e] at ho;revert ho;decide
 have n0:=nall o rfl
 have one:∀(X:List Str) (b:Bool),strS (cOf o (v.part m))=(X,b)→oneX o (v.part m)=if b=true then (X,true) else ([],false):=fun X b h=>by unfold oneX;rw[h]
 by_cases s1:o=[62,61]
 ·subst s1
  have hval:=one [qn (lowC (v.part m))] true (by simp[strS,cOf,qX])
  simp at hval
  simp[Ver.enc,Cut.enc,hup,zw,zJ,zd,zl,zc,zx,vY,hval,hlo,encR,qn,Str.enc,cut0,f122]
 have e1:(o==[62,61])=false:=by simpa using s1
 by_cases s2:o=[60]
 ·subst s2
  have hval:=one (btw leastC (lowC (v.part m))) true (by simp[strS,cOf,qX])
  simp at hval
  simp[Ver.enc,Cut.enc,hup,hle,hb1,e1,zw,zJ,zd,zl,zc,zx,vY,hval,hlo,encR,Str.enc,f122]
 have e2:(o==[60])=false:=by simpa using s2
 by_cases s3:o=[62]
 ·subst s3
  have hval:=one [qn (yh (v.part m))] (kC (v.part m)) (by simp[strS,cOf,qX])
  cases hB:kC (v.part m)
  ·rw[hB] at hval hup
   simp at hval
   simp[Ver.enc,Cut.enc,hup,e1,e2,zw,zJ,zd,zl,zc,zx,vY,hval,encR,f122]
  ·rw[hB] at hval hup
   simp at hval
   simp[Ver.enc,Cut.enc,hup,e1,e2,zw,zJ,zd,zl,zc,zx,vY,hval,encR,qn,Str.enc,cut0,f122]
 have e3:(o==[62])=false:=by simpa using s3
 by_cases s4:o=[60,61]
 ·subst s4
  have hval:=one (btw leastC (yh (v.part m))) (kC (v.part m)) (by simp[strS,cOf,qX])
  cases hB:kC (v.part m)
  ·rw[hB] at hval hup
   simp at hval
   simp[Ver.enc,Cut.enc,hup,hle,hb2,e1,e2,e3,zw,zJ,zx,vY,hval,encR,f122]
  ·rw[hB] at hval hup
   simp at hval
   simp[Ver.enc,Cut.enc,hup,hle,hb2,e1,e2,e3,zw,zJ,zx,vY,hval,encR,Str.enc,Cut.enc,f122]
 have e4:(o==[60,61])=false:=by simpa using s4
 by_cases s6:o=[126]
 ·subst s6
  have hval:=one (btw (lowC (v.part m)) (qB (v.part m) (min (m - 1) 1).toNat)) (wE (v.part m) (min (m - 1) 1).toNat) (by simp[strS,cOf,qX,hhas])
  have hmin:(if 1<m - 1 then 1 else m - 1)=(((min (m - 1) 1).toNat:Nat):Int):=by split<;>omega
  have hmn:(min (m - 1) 1).toNat<3:=by omega
  have hra1:=hra (((min (m - 1) 1).toNat:Nat):Int) (by omega)
  simp only[Int.toNat_natCast] at hra1
  rw[←hmin] at hra1
  obtain⟨i,hi⟩:∃i,(min (m - 1) 1).toNat=i:=⟨_,rfl⟩
  rw[hi] at hval hra1
  have hb5:=fun hp nx=>hb4 i hp nx
  cases hB:wE (v.part m) i
  ·rw[hB] at hval hra1
   simp at hval
   simp[Ver.enc,Cut.enc,hup,hw,hra1,hb5,e1,e2,e3,e4,zw,zJ,zx,vY,hval,encR,f122]
  ·rw[hB] at hval hra1
   simp at hval
   simp[Ver.enc,Cut.enc,hup,hw,hra1,hb5,e1,e2,e3,e4,zw,zJ,zx,vY,hval,hlo,encR,Str.enc,f122]
 have e6:(o==[126])=false:=by simpa using s6
 by_cases s7:o=[94]
 ·subst s7
  have hval:=one (btw (lowC (v.part m)) (qB (v.part m) (qU (v.part m)))) (wE (v.part m) (qU (v.part m))) (by simp[strS,cOf,qX])
  have hci:=caretI_lt (v.part m)
  have hra1:=hra ((qU (v.part m):Nat):Int) (by omega)
  simp only[Int.toNat_natCast] at hra1
  obtain⟨i,hi⟩:∃i,qU (v.part m)=i:=⟨_,rfl⟩
  rw[hi] at hval hra1 hct
  have hb5:=fun hp nx=>hb4 i hp nx
  cases hB:wE (v.part m) i
  ·rw[hB] at hval hra1
   simp at hval
   simp[Ver.enc,Cut.enc,hup,hct,hra1,hb5,e1,e2,e3,e4,e6,zw,zJ,zx,vY,hval,encR,f122]
  ·rw[hB] at hval hra1
   simp at hval
   simp[Ver.enc,Cut.enc,hup,hct,hra1,hb5,e1,e2,e3,e4,e6,zw,zJ,zx,vY,hval,hlo,encR,Str.enc,f122]
 have e7:(o==[94])=false:=by simpa using s7
 have hval:=one (btw (lowC (v.part m)) (yh (v.part m))) (kC (v.part m)) (by simp[strS,cOf,n0,s1,s2,s3,s4,n45,s6,s7])
 cases hB:kC (v.part m)
 ·rw[hB] at hval hup
  simp at hval
  simp[Ver.enc,Cut.enc,hup,hb3,e1,e2,e3,e4,e6,e7,zw,zJ,zx,vY,hval,encR,f122]
 ·rw[hB] at hval hup
  simp at hval
  simp[Ver.enc,Cut.enc,hup,hb3,e1,e2,e3,e4,e6,e7,zw,zJ,zx,vY,hval,hlo,encR,Str.enc,f122]
theorem rstretch_sound:za prog 122 (zC [.a,.g vpat] FOVI) :=
 zP (fn:=f122) goodrst ⟨_,func122,by kernel_rfl,rfl,by kernel_rfl⟩ _ _ fun args r h=>by
  obtain⟨⟨o,v,m⟩,rfl,⟨h1,h2,h5⟩,rfl⟩:=ze h
  obtain⟨r0,h3,h4⟩:=rstretch_eval o v m h1 h2 h5
  exact⟨by simp[f122],r0,h3,h4⟩
def encK (l:List Tok):List (List PV):=l.map fun a=>[str a.1,str a.2]
def wdsR (s:List UInt8):List Tok×Bool:=match tokW (qG s) with
 | some l=>(l,!l.isEmpty)
 | none=>([],false)
def wdsP (s:List UInt8):PV:=.tup [.sl 2 (encK (wdsR s).1),boo (wdsR s).2]
noncomputable abbrev Crwo:Ctx:=zF prog [(155,zf false [] (FTT tbP fun _ b=>one7 b)),(157,zf false [] (FSP ropP)),(156,zf false [] (FTT tlP fun _ b=>one7 b)),(158,zf false [] (FSB ibP))]
theorem goodrwo:AM.Good Crwo (fun g=>([]:List Nat).contains g):=zm mixed ⟨sTrim_sound,by simp,roperator_sound,by simp,jK,by simp,indexByte_sound,by simp,trivial⟩
theorem tl32_call (a:List UInt8) (hp:Hp) (nx:Nat) (h:a.length≤lim):zf false [] (FTT tlP fun _ b=>one7 b) [str a,str [32]] hp nx=some (str (Lib.trimLeftB a 32),hp,nx):=w7 _ _ a [32] hp nx h (by decide) ⟨32,rfl,by decide⟩ rfl
theorem tb32_call (a:List UInt8) (hp:Hp) (nx:Nat) (h:a.length≤lim):zf false [] (FTT tbP fun _ b=>one7 b) [str a,str [32]] hp nx=some (str (Lib.trimB a 32),hp,nx):=w7 _ _ a [32] hp nx h (by decide) ⟨32,rfl,by decide⟩ rfl
theorem ib_hd:∀s:List UInt8,(Lib.indexByte s 32=((hd s).length:Int)∧(hd s).length<s.length)∨(Lib.indexByte s 32=-1∧hd s=s)
 | []=>.inr ⟨rfl,rfl⟩
 | c::s=>by
   by_cases hc:c=32
   ·subst hc
    exact .inl ⟨by simp[Lib.indexByte,hd],by simp[hd]⟩
   ·have hh:hd (c::s)=c::hd s:=by simp[hd,hc]
    rcases ib_hd s with⟨h1,h2⟩ | ⟨h1,h2⟩
    ·refine .inl ⟨?_,by rw[hh];simpa using h2⟩
     rw[hh]
     have:¬Lib.indexByte s 32=-1:=by omega
     simp[Lib.indexByte,hc,h1]
     try omega
    ·refine .inr ⟨?_,by rw[hh,h2]⟩
     simp[Lib.indexByte,hc,h1]
theorem hd_take (s:List UInt8):s.take (hd s).length=hd s∧s.drop (hd s).length=tl s:=by
 have h:=hd_tl s
 exact⟨(List.prefix_iff_eq_take.1 ⟨tl s,h⟩).symm,by have:=congrArg (List.drop (hd s).length) h;simpa using this.symm⟩
def lenS:PV→Nat
 | .v (.string s)=>s.size
 | _=>0
theorem encK_len (l:List Tok):(encK l).length=l.length:=by simp[encK]
theorem encK_fix (l:List Tok):(encK l).map (fixC [none,none])=encK l:=by simp[encK]
def WoI (s0:List UInt8) (st:St):Prop:=∃(s:List UInt8) (l:List Tok),st.σ 0=str s∧trimd s∧s.length+l.length≤s0.length∧OwnS st.hp st.nx 145 2 (st.σ 4) (encK l)∧tokW (qG s0)=(tokW (qG s)).map (l++·)
theorem woI_mk {s0 s:List UInt8} {l:List Tok} {a:Tok} {st:St} (h0:st.σ 0=str (Lib.trimLeftB s 32)) (hs:(Lib.trimLeftB s 32).length+(l.length+1)≤s0.length) (hO:OwnS st.hp st.nx 145 2 (st.σ 4) (encK l++[[str a.1,str a.2]])) (he:tokW (qG s0)=(tokW (qG s)).map (fun x=>l++[a]++x)):WoI s0 st :=
 ⟨Lib.trimLeftB s 32,l++[a],h0,kH s,by simpa using hs,by simpa[encK] using hO,by rw[he,wds_trimL]⟩
set_option maxHeartbeats 2000000 in
theorem rwords_eval (t:List UInt8) (ht:t.length≤lim):∃r0,zj Crwo f117 [str t]=some r0∧Stands r0 (wdsP t):=by
 refine qe (sh:=.s 2 [none,none]) rfl ?_
 have htb:=fun hp nx=>tb32_call t hp nx ht
 have hlen:(Lib.trimB t 32).length≤t.length:=by
  have h1:=trimL_len (Lib.trimRightB t 32)
  have h2:(Lib.trimRightB t 32).length≤t.length:=by
   unfold Lib.trimRightB
   rw[List.length_reverse]
   exact Nat.le_trans (List.dropWhile_sublist _).length_le (by simp)
  exact Nat.le_trans h1 h2
 have hR:∀l:List Tok,tokW (qG t)=some l→wdsR t=(l,!l.isEmpty):=fun l h=>by unfold wdsR;rw[h]
 have hN:tokW (qG t)=none→wdsR t=([],false):=fun h=>by unfold wdsR;rw[h]
 simp[htb]
 refine EvC_loop (WoI t) (fun st=>lenS (st.σ 0)) ⟨Lib.trimB t 32,[],by simp,kH _,by simpa using hlen,.inl ⟨by simp,rfl⟩,by rw[wds_trim];cases tokW (qG t)<;>rfl⟩ ?_
 rintro⟨σ,hp,nx⟩ ⟨s,l,h0,htr,hsl,hO,he⟩
 simp only at h0 hO
 by_cases hs:s=[]
 ·subst hs
  have he':tokW (qG t)=some l:=by rw[he,wds_nil];simp[tokW]
  have hr:=hR l he'
  have hfx:=encK_fix l
  have hkl:=encK_len l
  have hb1:(decide (0<l.length))=!l.isEmpty:=by cases l<;>simp
  rcases hO with⟨h4,hn⟩ | ⟨id,hid,h4,hb⟩
  ·have hl:l=[]:=by simpa[encK] using hn
   subst hl
   simp[h0,h4,zx,wdsP,hr,encK,f117]
  ·rw[hkl] at h4
   have htk:(encK l).take l.length=encK l:=List.take_of_length_le (by omega)
   simp[h0,h4,hb,hkl,htk,hfx,hb1,zx,wdsP,hr,f117]
 ·have hh:hd s≠[]:=htr.resolve_left hs
  have hs':s.isEmpty=false:=by cases s with
   | nil=>exact absurd rfl hs
   | cons c s=>rfl
  have hst:=cut_step hh
  have hlt:=fun h=>cut_less (s:=s) h
  unfold lim at ht
  have hslim:s.length≤lim:=by unfold lim;omega
  have hop:=fun hp nx=>FSP_call ropP s hp nx hslim rfl
  have hdr:=yS sgs s
  have hpx:(opW sgs s).1.length≤s.length:=by
   rcases vU sgs s with h | h
   ·rw[h];simp
   ·by_cases hz:(opW sgs s).1=[]
    ·rw[hz];simp
    ·exact (opW_head sgs s hz).2.length_le
  have hrl:=xo sgs s
  simp only[ropP] at hop
  unfold cutW at hst hlt
  simp only at hst hlt
  obtain⟨o,r,hor⟩:∃o r,opW sgs s=(o,r):=⟨_,_,rfl⟩
  rw[hor] at hop hdr hpx hrl hst hlt
  simp only at hop hdr hpx hrl hst hlt
  have htl:=fun hp nx=>tl32_call r hp nx (by unfold lim;omega)
  have htk:(s.drop o.length).take (s.length - o.length)=r:=by rw[hdr];exact List.take_of_length_le (by simp)
  obtain⟨s1,hs1⟩:∃s1,Lib.trimLeftB r 32=s1:=⟨_,rfl⟩
  have hs1l:s1.length≤s.length:=by rw[←hs1];exact Nat.le_trans (trimL_len r) hrl
  rw[hs1] at htl hst hlt
  have hix:∀hp nx,zf false [] (FSB ibP) [str s1,.v (.int .u8 32)] hp nx=some (int (Lib.indexByte s1 32),hp,nx):=fun hp nx=>FSB_call ibP s1 32 hp nx (by unfold lim;omega) rfl
  obtain⟨ht1,ht2⟩:=hd_take s1
  have htk2:(s1.drop (hd s1).length).take (s1.length - (hd s1).length)=tl s1:=by rw[ht2];exact List.take_of_length_le (by rw[←ht2];simp)
  have hhl:(hd s1).length≤s1.length:=by have:=congrArg List.length (hd_tl s1);rw[List.length_append] at this;omega
  have htl2:=fun hp nx=>tl32_call (tl s1) hp nx (by have:=congrArg List.length (hd_tl s1);rw[List.length_append] at this;unfold lim;omega)
  have hkl:=encK_len l
  have hap:=OwnS.append1 (P:=prog) (t:=141) (c:=[str o,str (hd s1)]) hO el141 sz145 by145 ze145 rfl (by omega) (by rw[hkl];unfold maxLen;omega) (by rw[hkl];omega)
  have hoe:(s.isEmpty)=false:=hs'
  by_cases hz:hd s1=[]
  ·rw[if_pos hz] at hst
   rw[hst] at he
   have hr:=hN he
   rcases ib_hd s1 with⟨hi,hil⟩ | ⟨hi,hie⟩
   ·rw[hz] at hi
    simp at hi
    simp[h0,hs,hs',hop,hpx,htk,htl,hix,hi,zx,wdsP,hr,encK,f117]
   ·have hs1e:s1=[]:=by rw[←hie];exact hz
    subst hs1e
    simp[h0,hs,hs',hop,hpx,htk,htl,hix,hi,zx,wdsP,hr,encK,f117]
  ·have hlt':=hlt hz
   rw[if_neg hz] at hst
   rw[hst] at he
   have hzl:¬(hd s1).length=0:=fun e=>hz (List.length_eq_zero_iff.1 e)
   have htll:=trimL_len (tl s1)
   have he2:tokW (qG t)=(tokW (qG (tl s1))).map (fun x=>l++[((o,hd s1):Tok)]++x):=by
    rw[he];cases tokW (qG (tl s1))<;>simp
   have hm:lenS (str (Lib.trimLeftB (tl s1) 32))<lenS (σ 0):=by rw[h0];simp[lenS];omega
   rw[h0] at hm
   have hnn:¬((hd s1).length:Int)<0:=by omega
   have hz0:(((hd s1).length:Int)==0)=false:=by simpa using hz
   rcases ib_hd s1 with⟨hi,hil⟩ | ⟨hi,hie⟩
   ·simp[h0,hs,hs',hop,hpx,htk,htl,hix,hi,hnn,hz0,hz,hzl,hhl,ht1,htk2,htl2,hap,zw,zJ,zd,zl,zc]
    exact⟨woI_mk (s:=tl s1) (l:=l) (a:=(o,hd s1)) (by simp) (by omega) (by simpa using OwnS.after) he2,by simpa[lenS] using hm⟩
   ·rw[hie] at hzl ht1 htk2 hhl hap he2
    have hzl':s1≠[]:=fun e=>hzl (by rw[e];rfl)
    rw[hie] at hz0
    have hte:tl s1=[]:=by
     have:=congrArg List.length (hd_tl s1)
     rw[List.length_append,hie] at this
     exact List.length_eq_zero_iff.1 (by omega)
    rw[hte] at htl2 he2 htll hm
    simp[h0,hs,hs',hop,hpx,htk,htl,hix,hi,hz0,hzl,hzl',htl2,hap,zw,zJ,zd,zl,zc]
    exact⟨woI_mk (s:=[]) (l:=l) (a:=(o,s1)) (by simp) (by have h9:=List.length_pos_iff.2 hs;rw[show Lib.trimLeftB [] 32=[] from rfl,List.length_nil];omega) (by simpa using OwnS.after) he2,by simpa[lenS] using hm⟩
theorem rwords_sound:za prog 117 (zf false [] (FSP wdsP)) :=
 xN (fn:=f117) goodrwo ⟨_,func117,by kernel_rfl,rfl,by kernel_rfl⟩ false [] _ fun args r h w S vs hz=>by
  obtain⟨l,rfl,hp,rfl⟩:=ze h
  obtain⟨r0,h1,h2⟩:=rwords_eval l hp
  exact⟨_,r0,hz,by simp[f117],h1,h2⟩
theorem rdOk_ver {s:List UInt8} {p:Part} (h:rdOk s=some p):(rvR s).2.2=true∧(rvR s).2.1=p.has∧(rvR s).2.1≠0∧p=(rvR s).1.part (rvR s).2.1∧(rvR s).1.ok∧1≤p.has∧p.has≤3:=by
 have h':=h
 rw[rv_rdOk] at h
 split at h
 ·rename_i hc
  injection h with h
  obtain⟨_,_,hp,hg⟩:=yA h'
  subst h
  obtain⟨a,b,c,⟨d1,d2⟩,e⟩:=hp
  exact⟨hc.1,rfl,hc.2,rfl,⟨a,b,c,e⟩,d1,d2⟩
 ·cases h
theorem rdOk_not {s:List UInt8} (h:rdOk s=none):(rvR s).2.2=false∨(rvR s).2.1=0:=by
 rw[rv_rdOk] at h
 split at h
 ·cases h
 ·rename_i hc
  by_cases h0:(rvR s).2.1=0
  ·exact .inr h0
  ·left
   cases hb:(rvR s).2.2
   ·rfl
   ·exact absurd ⟨hb,h0⟩ hc
noncomputable def btwR (a b:List UInt8):List Str×Int:=match rdOk a,rdOk b with
 | some p,some q=>((btwX p q).1,if (btwX p q).2=true then 0 else 1)
 | _,_=>([],10)
noncomputable def btwRP (a b:List UInt8):PV:=.tup [.sl 11 (encR (btwR a b).1),int (btwR a b).2]
def one1 (a b:List UInt8):Prop:=a.length+1≤lim∧b.length+1≤lim
noncomputable abbrev Crbt:Ctx:=zF prog [(121,zf false [] (FSP1 rvP)),(159,zC [.g vpat] (FVI jN fun m=>1≤m∧m≤3)),(160,zC [.g cpat,.g cpat] (FCC btwP))]
theorem goodrbt:AM.Good Crbt (fun g=>([]:List Nat).contains g):=zm mixed ⟨jG,by simp,rupper_sound,by simp,rupTo_sound,by simp,trivial⟩
set_option maxHeartbeats 1000000 in
theorem rbetween_eval (a b:List UInt8) (hab:one1 a b):∃r0,zj Crbt f118 [str a,str b]=some r0∧Stands r0 (btwRP a b):=by
 obtain⟨ha,hb⟩:=hab
 refine qe (sh:=.s 11 spat) rfl ?_
 have ra:=fun hp nx=>yb rvP a hp nx ha
 have rb:=fun hp nx=>yb rvP b hp nx hb
 simp only[rvP,Ver.enc] at ra rb
 cases hA:rdOk a with
 | none =>
   have hv:btwR a b=([],10):=by unfold btwR;rw[hA]
   rcases rdOk_not hA with h | h
   ·simp[ra,rb,h,zx,btwRP,hv,encR,f118]
   ·cases h1:(rvR a).2.2<;>cases h2:(rvR b).2.2<;>simp[ra,rb,h,h1,h2,zx,btwRP,hv,encR,f118]
 | some p =>
   obtain⟨p1,p2,p3,p4,p5,p6,p7⟩:=rdOk_ver hA
   have p3':((rvR a).2.1==0)=false:=by simpa using p3
   cases hB:rdOk b with
   | none =>
     have hv:btwR a b=([],10):=by unfold btwR;rw[hA,hB]
     rcases rdOk_not hB with h | h
     ·simp[ra,rb,p1,p3',h,zx,btwRP,hv,encR,f118]
     ·cases h2:(rvR b).2.2<;>simp[ra,rb,p1,p3',h,h2,zx,btwRP,hv,encR,f118]
   | some q =>
     obtain⟨q1,q2,q3,q4,q5,q6,q7⟩:=rdOk_ver hB
     have q3':((rvR b).2.1==0)=false:=by simpa using q3
     have hv:btwR a b=((btwX p q).1,if (btwX p q).2=true then 0 else 1):=by unfold btwR;rw[hA,hB]
     rw[←q2] at q6 q7
     have hup:=fun hp nx=>FVI_call jN (fun m=>1≤m∧m≤3) (rvR b).1 (rvR b).2.1 (.agg (rvR b).1.enc) hp nx q5 ⟨q6,q7⟩ (vW _) (venc_frz _ hp) (venc_own _)
     have hlo:lowC p=⟨(rvR a).1,false⟩:=by rw[p4];rfl
     have hsp:wJ p.pre:=by rw[p4];exact p5.small
     have hsq:wJ q.pre:=by rw[q4];exact q5.small
     have hbt:=fun hp nx=>jM (lowC p) (yh q) hp nx (yz hsp) (yZ hsq)
     simp only[btwP,hlo,Ver.enc,Cut.enc,jN,highP,←q4] at hup hbt
     cases hh:kC q
     ·rw[hh] at hup
      have hx:btwX p q=([],false):=by unfold btwX;rw[hh];rfl
      rw[hx] at hv
      simp[ra,rb,p1,p3',q1,q3',hup,zx,btwRP,hv,encR,f118]
     ·rw[hh] at hup
      have hx:btwX p q=(btw (lowC p) (yh q),true):=by unfold btwX;rw[hh];rfl
      rw[hx] at hv
      simp[ra,rb,p1,p3',q1,q3',hup,hbt,zw,zJ,zx,btwRP,hv,hlo,encR,Str.enc,Cut.enc,f118]
theorem rbetween_sound:za prog 118 (zf false [] (zH (α:=List UInt8×List UInt8) (fun a=>[str a.1,str a.2]) (fun a=>one1 a.1 a.2) fun a=>btwRP a.1 a.2)) :=
 xN (fn:=f118) goodrbt ⟨_,func118,by kernel_rfl,rfl,by kernel_rfl⟩ false [] _ fun args r h w S vs hz=>by
  obtain⟨⟨a,b⟩,rfl,hp,rfl⟩:=ze h
  obtain⟨r0,h1,h2⟩:=rbetween_eval a b hp
  exact⟨_,r0,hz,by simp[f118],h1,h2⟩
noncomputable def FBt2:List PV→Option PV:=zH (α:=List UInt8×List UInt8) (fun a=>[str a.1,str a.2]) (fun a=>one1 a.1 a.2) fun a=>btwRP a.1 a.2
theorem FBt2_call (a b:List UInt8) (hp:Hp) (nx:Nat) (h:one1 a b):zf false [] FBt2 [str a,str b] hp nx=some (btwRP a b,hp,nx) :=
 zK rfl (zn (enc:=fun a:List UInt8×List UInt8=>[str a.1,str a.2]) (a:=(a,b)) ss_inj h) (.inr (by simp))
end Go.Proofs.YtpeaooooimfihaaGreatDoor
namespace Go.AM
open Go.RowKit Go.Proofs
variable {dr:Prop}
def GrowOk (P:Program) (f e s by_:Nat):Prop :=
 (∀w,Calls P f #[.slice none 0 0,.int .i64 0] w fun r w'=>r=.returned (.slice none 0 0)∧w'=w) ∧
 ∀(n:Nat) (w:World),0<n→n*by_≤140737488355328→n≤4611686018427387904→Calls P f #[.slice none 0 0,.int .i64 n] w fun r w' =>
  ∃cap cur,cap≤maxLen∧cur.size=cap*s∧r=.returned (.slice (some ⟨w.heap.size,0,none⟩) 0 cap)∧w'=w.drew.alloc (.cells cur e)
theorem GrowOk.of {P:Program} {ρ:Go.Shelf.Ren} (L:Lays8.n4 P ρ) {s by_:Nat} {z:List PV} (hs:zS P (ρ.t 25)=some s) (hb:yi P (ρ.t 25)=some by_) (hz:wD P (ρ.t 25)=some z) (hl:z.length=s) (h0:0<s):GrowOk P (ρ.f 4) (ρ.t 25) s by_:=by
 obtain⟨i,v,hi,hv,hc⟩:=ko hz
 obtain⟨i',hi',his⟩:=ju hs
 rw[hi] at hi'
 injection hi' with hi'
 subst hi'
 have hib:i.bytes=by_:=by
  unfold yi at hb
  rw[hi] at hb
  simpa using hb
 have hzc:v.cells.size=s:=by
  have:=(qE (w:=default) (S:=fun _=>False) hc).1
  rw[hl] at this
  simpa using this.symm
 refine⟨fun w=>Any8.slices_Grow_room L none 0 0 0 w (by omega) (by omega) (by omega) (by omega),fun n w hn hb hm=>?_⟩
 refine (Any8.slices_Grow_grow L i v hi hv (by omega) none 0 0 n [] w (by omega) (by omega) (by rw[hib];simpa using hb) (by omega) (by simp) (fun _=>rfl) (fun a h=>(nomatch h))).mono fun r w' hh=>?_
 obtain⟨rfl,rfl⟩:=hh
 rw[Nat.zero_add] at *
 have hge:n≤grownCap w n 0 (ρ.t 25):=grownCap_ge _ _ _ _
 refine⟨_,_,grownCap_le_maxLen w n 0 (ρ.t 25) (by unfold maxLen;omega),?_,rfl,rfl⟩
 rw[Array.size_append,Array.size_append,size_zeroCells,size_zeroCells,hzc]
 simp only[List.size_toArray,List.length_nil,Nat.zero_add,Nat.sub_zero]
 rw[←Nat.add_mul]
 congr 1
 omega
def hGrow (e s by_:Nat):AM.Spec:=fun args hp nx=>match args with
 | [.nil,.v (.int .i64 n)]=>if n=0 then some (.nil,hp,nx) else if 0<n∧n*by_≤140737488355328∧n≤4611686018427387904 then some (.own nx 0 0,upd hp nx (some ⟨e,s,true,[]⟩),nx+1) else none
 | _=>none
theorem hGrow_sound {P:Program} {f e s by_:Nat} (hfn:∃fn,P.funcs[f]?=some fn∧(fn.name== "runtime.NumGoroutine")=false∧fn.body.isNone=false) (hsz:zS P e=some s) (hs0:0<s) (h:GrowOk P f e s by_):SpecD dr P f (hGrow e s by_):=by
 refine⟨hfn,?_⟩
 intro args hp nx r hp' nx' hh w S G vs hi hz
 unfold hGrow at hh
 split at hh
 ·rename_i n
  obtain⟨u,us,rfl,hu,hz'⟩:=hz.uncons
  obtain⟨v,us,rfl,hv,hz'⟩:=hz'.uncons
  obtain rfl:=hz'.unnil
  obtain rfl:=hu.nil_inv
  obtain⟨rfl,_⟩:=hv.v_inv
  split at hh
  ·rename_i hn
   subst hn
   injection hh with hh
   injection hh with e1 hh
   injection hh with e2 e3
   subst e1;subst e2;subst e3
   refine (h.1 w).mono fun r w' hr=>?_
   obtain⟨rfl,rfl⟩:=hr
   exact⟨_,_,_,rfl,.refl hi,.c .nil⟩
  ·split at hh
   ·rename_i hn0 hc
    injection hh with hh
    injection hh with e1 hh
    injection hh with e2 e3
    subst e1;subst e2;subst e3
    obtain⟨m,rfl⟩:∃m:Nat,n=m:=⟨n.toNat,by omega⟩
    refine (h.2 m w (by omega) (Int.ofNat_le.1 (by rw[Int.natCast_mul];exact hc.2.1)) (by have:=hc.2.2;omega)).mono fun r w' hr=>?_
    obtain⟨cap,cur,h1,h2,rfl,rfl⟩:=hr
    have k1:=Stp.drew (dr:=dr) hi
    obtain⟨i,hii,hisz⟩:=ju hsz
    have k2:=Stp.alloc (dr:=dr) k1.inv cur e true [] s hs0 (by rw[hii];simp[hisz]) (by simp) (by simp) (by simp)
    refine⟨_,_,_,rfl,k1.trans k2,?_⟩
    have:=RepO.own (w:=w.drew.alloc (.cells cur e)) (S:=S) (G:=upd G nx ⟨w.drew.heap.size,cur.size,s⟩) (nx:=nx+1) (id:=nx) (off:=0) (n:=0) (cap:=cap) (by omega) (by omega) h1 (by rw[zQ];show (0+cap)*s=cur.size;rw[h2,Nat.zero_add]) (by rw[zQ];exact hs0)
    rw[zQ] at this
    have e0:0*s=0:=Nat.zero_mul s
    simp only[e0] at this
    exact this
   ·cases hh
 ·cases hh
theorem OwnS.appendL {P:Program} {hp:Hp} {nx e s by_:Nat} {v:PV} {xs:List (List PV)} {ys:List (List PV)} {z:List PV} {t:TypeId} (h:OwnS hp nx e s v xs) (ht:qI P t=some e) (hs:zS P e=some s) (hb:yi P e=some by_) (hz:wD P e=some z)
  (hzl:z.length=s) (h0:0<s) (h1:xs.length+ys.length≤maxLen) (h2:(xs.length+ys.length)*by_≤140737488355328) :
  ∃v' hp' nx',qM P hp nx t t v (.sl s ys)=some (v',hp',nx')∧OwnS hp' nx' e s v' (xs++ys)∧nx≤nx':=by
 rcases h with⟨rfl,rfl⟩ | ⟨id,hid,rfl,hh⟩
 ·simp at h1 h2
  by_cases hy:ys=[]
  ·subst hy
   exact⟨.nil,hp,nx,by simp[qM,ht,hs,hb,hz,hzl,h0,AM.view,maxLen],.inl ⟨rfl,rfl⟩,Nat.le_refl _⟩
  ·exact⟨.own nx 0 ys.length,_,nx+1,by simp[qM,ht,hs,hb,hz,hzl,h0,h1,h2,AM.view,hy];rfl,.inr ⟨nx,by omega,by simp,by simp⟩,by omega⟩
 ·exact⟨.own nx 0 (xs.length+ys.length),_,nx+1,by simp[qM,ht,hs,hb,hz,hzl,h0,h1,h2,AM.view,hh];rfl,.inr ⟨nx,by omega,by simp,by simp⟩,by omega⟩
end Go.AM
namespace Go.Proofs
open Go.Shelf
def Tryz.growR_ren:Go.Shelf.Ren:=⟨fun | 4=>166 | n=>n,fun | 22=>69 | 25=>106 | 0=>0 | 3=>3 | 4=>4 | 9=>9 | 20=>20 | n=>n,fun | n=>n⟩
theorem Tryz.growR:Go.Proofs.Lays8.n4 prog Tryz.growR_ren:={
 mixed:=by kernel_rfl
 f4:=⟨f166.name,by decide,func166.trans (congrArg some (by kernel_rfl))⟩
 t0:=underlying0
 a0:=isAgg0
 z0:=sizeOf0
 v0:=zeroValue0
 t3:=underlying3
 a3:=isAgg3
 z3:=sizeOf3
 v3:=zeroValue3
 t4:=underlying4
 a4:=isAgg4
 z4:=sizeOf4
 v4:=zeroValue4
 t9:=underlying9
 a9:=isAgg9
 z9:=sizeOf9
 v9:=zeroValue9
 t20:=underlying20
 a20:=isAgg20
 z20:=sizeOf20
 v20:=zeroValue20
 t22:=underlying69
 a22:=isAgg69
 z22:=sizeOf69
 v22:=zeroValue69 }
end Go.Proofs
namespace Go.Proofs.YtpeaooooimfihaaGreatDoor
open Go.Proofs.Tryz
open Go.RowKit Go.AM
theorem growR_sound:za prog 166 (hGrow 106 11 120) :=
 hGrow_sound ⟨_,func166,by decide,by kernel_rfl⟩ sz106 (by decide) (GrowOk.of Tryz.growR sz106 by106 ze106 rfl (by omega))
noncomputable def FCatR (out:List Str→List Str→PV) (pre:List Str→List Str→Prop):List PV→Option PV:=zH (α:=List Str×List Str) (fun a=>[.sl 1 [[.sl 11 (a.1.map Str.enc)],[.sl 11 (a.2.map Str.enc)]]]) (fun a=>pre a.1 a.2) (fun a=>out a.1 a.2)
noncomputable abbrev CcatR:Ctx:=zF prog [(166,hGrow 106 11 120)]
theorem concatR_eval (a b:List Str) (ha:a.length≤lim) (hb:b.length≤lim):∃r0,zj CcatR f123 [.sl 1 [[.sl 11 (a.map Str.enc)],[.sl 11 (b.map Str.enc)]]]=some r0∧Stands r0 (.sl 11 ((a++b).map Str.enc)):=by
 have hfin:∀{code},f123.body=some code→EvC CcatR code ⟨yH [.sl 1 [[.sl 11 (a.map Str.enc)],[.sl 11 (b.map Str.enc)]]],fun _=>none,0⟩ (retK CcatR.P f123 (pureN (.sl 11 ((a++b).map Str.enc))))→∃r0,zj CcatR f123 [.sl 1 [[.sl 11 (a.map Str.enc)],[.sl 11 (b.map Str.enc)]]]=some r0∧Stands r0 (.sl 11 ((a++b).map Str.enc)):=by
  intro code hb h
  obtain⟨r0,h1,h2⟩:=evalPureN_of hb h
  exact⟨r0,h1,fun w S u hr=>up_rep hr h2⟩
 refine hfin rfl ?_
 unfold lim at ha hb
 let cs:List (List Str):=[a,b]
 have hcs:cs=[a,b]:=rfl
 simp
 refine zy (fun k σ hp nx=>σ 0=.sl 1 [[.sl 11 (a.map Str.enc)],[.sl 11 (b.map Str.enc)]]∧σ 9=.sl 1 [[.sl 11 (a.map Str.enc)],[.sl 11 (b.map Str.enc)]]∧σ 10=int 2∧σ 11=int k∧σ 3=int (((cs.take k).map List.length).sum:Nat)) 2
  ⟨by simp,by simp,by simp,by simp,by simp⟩ ?_
 rintro k σ hp nx hk ⟨h0,h9,h10,h11,h3⟩
 obtain rfl | rfl | rfl:k=0∨k=1∨k=2:=by omega
 ·simp[hcs] at h3
  have w1:IntKind.i64.wrap (a.length:Int)=a.length:=zh (by omega) (by omega)
  have w2:IntKind.i64.wrap 1=1:=zh (by omega) (by omega)
  have w3:¬(a.length:Int)<0:=by omega
  simp[h0,h9,h10,h11,h3,w1,w2,w3,hcs]
 ·simp[hcs] at h3
  have w1:IntKind.i64.wrap ((a.length:Int)+b.length)=a.length+b.length:=zh (by omega) (by omega)
  have w2:IntKind.i64.wrap 2=2:=zh (by omega) (by omega)
  have w3:¬(a.length:Int)+b.length<0:=by omega
  simp[h0,h9,h10,h11,h3,w1,w2,w3,hcs]
 ·simp[hcs] at h3
  have hg:∀hp nx,∃v hp' nx',hGrow 106 11 120 [.nil,int ((a.length:Int)+b.length)] hp nx=some (v,hp',nx')∧OwnS hp' nx' 106 11 v []:=fun hp nx=>by
   by_cases hz:(a.length:Int)+b.length=0
   ·exact⟨.nil,hp,nx,by simp[hGrow,hz],.inl ⟨rfl,rfl⟩⟩
   ·exact⟨.own nx 0 0,upd hp nx (some ⟨106,11,true,[]⟩),nx+1,by
     show (if (a.length:Int)+b.length=0 then _ else _)=_
     rw[if_neg hz,if_pos ⟨by omega,by omega,by omega⟩],.inr ⟨nx,by omega,rfl,by simp⟩⟩
  obtain⟨v,hp',nx',hg1,hO⟩:=hg hp nx
  simp[h0,h9,h10,h11,h3,hg1]
  refine zy (fun k σ hp nx=>σ 25=.sl 1 [[.sl 11 (a.map Str.enc)],[.sl 11 (b.map Str.enc)]]∧σ 26=int 2∧σ 27=int k∧OwnS hp nx 106 11 (σ 6) (((cs.take k).flatten).map Str.enc)) 2
   ⟨by simp,by simp,by simp,by simpa using hO⟩ ?_
  rintro k σ hp nx hk ⟨h25,h26,h27,hO⟩
  obtain rfl | rfl | rfl:k=0∨k=1∨k=2:=by omega
  ·simp[hcs] at hO
   obtain⟨v',hp',nx',ha1,hO',_⟩:=hO.appendL (P:=prog) (t:=69) (ys:=a.map Str.enc) el69 sz106 by106 ze106 rfl (by omega) (by simp[maxLen];omega) (by simp;omega)
   have w2:IntKind.i64.wrap 1=1:=zh (by omega) (by omega)
   simp at hO'
   simp[h25,h26,h27,ha1,w2,hcs]
   exact hO'
  ·simp[hcs] at hO
   obtain⟨v',hp',nx',ha1,hO',_⟩:=hO.appendL (P:=prog) (t:=69) (ys:=b.map Str.enc) el69 sz106 by106 ze106 rfl (by omega) (by simp[maxLen];omega) (by simp;omega)
   have w2:IntKind.i64.wrap 2=2:=zh (by omega) (by omega)
   simp[h25,h26,h27,ha1,w2,hcs]
   simpa using hO'
  ·simp[hcs] at hO
   have:=hO.freeze nx
   simp[h25,h26,h27,f123]
   exact this
noncomputable def catRF:List PV→Option PV:=FCatR (fun a b=>.sl 11 ((a++b).map Str.enc)) fun a b=>a.length≤lim∧b.length≤lim
theorem concatR_sound:za prog 123 (zf true [] catRF) :=
 xN (fn:=f123) (zm (q:=[]) mixed ⟨growR_sound,by simp,trivial⟩:AM.Good CcatR _) ⟨_,func123,by kernel_rfl,rfl,by kernel_rfl⟩ true [] _ fun args r h w S vs hz=>by
  unfold catRF FCatR at h
  obtain⟨⟨a,b⟩,rfl,hx,rfl⟩:=ze h
  obtain⟨r0,h1,h2⟩:=concatR_eval a b hx.1 hx.2
  exact⟨_,r0,hz,Nat.le_trans (Nat.le_refl 1) (by decide),h1,h2⟩
end Go.Proofs.YtpeaooooimfihaaGreatDoor
namespace Go.AM
open Go.RowKit Go.Proofs
variable {dr:Prop}
section
variable {P:Program} {hp:Hp} {nx:Nat}
def InsOk (P:Program) (f e s by_:Nat):Prop :=
 ∀(w:World) (g vb n i cap vc:Nat) (cur vcur:Array Value) (tv:TypeId),i<n→n≤cap→cap≤maxLen→n+1≤maxLen→(n+1)*by_≤140737488355328→g≠vb→1≤vc→vc≤maxLen →
  w.heap[g]?=some (.cells cur e (0,0))→cur.size=cap*s→w.heap[vb]?=some (.cells vcur tv (0,0))→vcur.size=vc*s→(∀j v,j<n*s→cur[j]?=some v→v.oneCell'=true)→(∀j v,j<s→vcur[j]?=some v→v.oneCell'=true) →
  Calls P f #[.slice (some ⟨g,0,none⟩) n cap,.int .i64 i,.slice (some ⟨vb,0,none⟩) 1 vc] w fun r w'=>∃(g' cap':Nat) (cur':Array Value),n+1≤cap'∧cap'≤maxLen∧r=.returned (.slice (some ⟨g',0,none⟩) ((n+1:Nat)) cap') ∧
   (g'=g∨w.heap.size≤g')∧w'.heap[g']?=some (.cells cur' e (0,0))∧cur'.size=cap'*s∧Fr True w (fun b=>b=g') w' ∧
   ∀j,j<(n+1)*s→cur'[j]?=(cur.toList.take (i*s)++vcur.toList.take s++(cur.toList.take (n*s)).drop (i*s))[j]?
def hInsF (e s by_:Nat):AM.Spec:=fun args hp nx=>match args with
 | [.own id 0 n,.v (.int .i64 i),.own id2 0 1]=>match hp id,hp id2 with
   | some b,some b2=>match b2.es with
     | [c]=>if id≠id2∧b.arr=true∧b2.arr=true∧b.e=e∧b.s=s∧b2.s=s∧b.es.length=n∧0≤i∧i<n∧(n+1)*by_≤140737488355328∧n+1≤maxLen then
       some (.own nx 0 (n+1),upd (upd hp id none) nx (some ⟨e,s,true,b.es.take i.toNat++c::b.es.drop i.toNat⟩),nx+1) else none
     | _=>none
   | _,_=>none
 | _=>none
theorem row_at {es:List (List PV)} {s i j:Nat} (hl:∀c∈es,c.length=s) {c:List PV} {pv:PV} (hi:es[i]?=some c) (hj:c[j]?=some pv):j<s∧i<es.length∧i*s+j<es.length*s:=by
 have h1:j<s:=by rw[←hl c (List.mem_of_getElem? hi)];exact (List.getElem?_eq_some_iff.1 hj).1
 have h2:i<es.length:=(List.getElem?_eq_some_iff.1 hi).1
 exact⟨h1,h2,y9 h2 h1⟩
theorem hInsF_sound {f e s by_:Nat} (hfn:∃fn,P.funcs[f]?=some fn∧(fn.name== "runtime.NumGoroutine")=false∧fn.body.isNone=false) (hsz:zS P e=some s) (hs0:0<s) (h:InsOk P f e s by_):SpecD dr P f (hInsF e s by_):=by
 refine⟨hfn,?_⟩
 intro args hp nx r hp' nx' hh w S G vs hi hz
 unfold hInsF at hh
 split at hh
 case h_2=>cases hh
 rename_i id n i id2
 split at hh
 case h_2=>cases hh
 rename_i b b2 hb hb2
 split at hh
 case h_2=>cases hh
 rename_i c hc
 split at hh
 case isFalse=>cases hh
 rename_i hk
 obtain⟨k1,k2,k3,k4,k5,k6,k7,k8,k9,k10,k11⟩:=hk
 injection hh with hh
 injection hh with e1 hh
 injection hh with e2 e3
 subst e1;subst e2;subst e3
 obtain⟨u0,us,rfl,hu0,hz'⟩:=hz.uncons
 obtain⟨u1,us,rfl,hu1,hz'⟩:=hz'.uncons
 obtain⟨u2,us,rfl,hu2,hz'⟩:=hz'.uncons
 obtain rfl:=hz'.unnil
 obtain⟨rfl,_⟩:=hu1.v_inv
 have hop:=hu0.own_pos
 have hop2:=hu2.own_pos
 obtain⟨cap,g1,g2,g3,g4,rfl⟩:=hu0.own_inv
 obtain⟨vc,v1,v2,v3,v4,rfl⟩:=hu2.own_inv
 have hbr:=hi.live id b hb
 have hbr2:=hi.live id2 b2 hb2
 have hgs:(G id).s=s:=by rw[←hbr.bs];exact k5
 have hgs2:(G id2).s=s:=by rw[←hbr2.bs];exact k6
 obtain⟨cur,q1,q2,q3⟩:=hbr.row hop
 obtain⟨vcur,r1,r2,r3⟩:=hbr2.row hop2
 rw[hgs] at q3 g4
 rw[hgs2] at r3 v4
 rw[k4] at q1
 have z0:0*(G id).s=0:=Nat.zero_mul _
 have z1:0*(G id2).s=0:=Nat.zero_mul _
 rw[z0,z1]
 have hne:(G id).g≠(G id2).g:=fun e=>k1 (hi.inj id id2 b b2 hb hb2 e)
 have hlen:∀c∈b.es,c.length=s:=fun c hc=>by rw[←hgs];exact hbr.len hop c hc
 have hlc:c.length=s:=by rw[←hgs2];exact hbr2.len hop2 c (by rw[hc];simp)
 obtain⟨m,rfl⟩:∃m:Nat,i=m:=⟨i.toNat,by omega⟩
 have hmn:m<n:=by omega
 have key:=h w (G id).g (G id2).g n m cap vc cur vcur b2.e hmn g2 g3 k11 k10 hne v2 v3 q1 (by rw[q2,←g4,Nat.zero_add]) r1 (by rw[r2,←v4,Nat.zero_add])
  (fun j v hj hv=>by
   have hd:=Nat.div_add_mod j s
   have hm:=Nat.mod_lt j hs0
   have hdl:j / s<b.es.length:=by rw[k7];exact (Nat.div_lt_iff_lt_mul hs0).2 hj
   obtain⟨row,hrow⟩:∃row,b.es[j / s]?=some row:=⟨_,List.getElem?_eq_getElem hdl⟩
   have hrl:=hlen row (List.mem_of_getElem? hrow)
   obtain⟨pv,hpv⟩:∃pv,row[j % s]?=some pv:=⟨_,List.getElem?_eq_getElem (by omega)⟩
   obtain⟨u,a1,a2⟩:=q3 (j / s) (j % s) row pv hrow hpv
   rw[Nat.mul_comm,hd,hv] at a1
   injection a1 with a1
   rw[a1]
   exact a2.2.2)
  (fun j v hj hv=>by
   obtain⟨pv,hpv⟩:∃pv,c[j]?=some pv:=⟨_,List.getElem?_eq_getElem (by omega)⟩
   obtain⟨u,a1,a2⟩:=r3 0 j c pv (by rw[hc];rfl) hpv
   rw[Nat.zero_mul,Nat.zero_add,hv] at a1
   injection a1 with a1
   rw[a1]
   exact a2.2.2)
 refine key.mono fun e w' hr=>?_
 obtain⟨g',cap',cur',p1,p2,rfl,p4,p5,p6,p7,p8⟩:=hr
 have hsub:∀id' b',upd hp id none id'=some b'→hp id'=some b':=fun id' b' h=>wW h
 have hlive:∀id' b',upd hp id none id'=some b'→(G id').g≠g':=fun id' b' hb' e=>by
  have hb0:=hsub id' b' hb'
  rcases p4 with rfl | p4
  ·have:=hi.inj id' id b' b hb0 hb e
   subst this
   rw[zQ] at hb'
   cases hb'
  ·have:=(hi.live id' b' hb0).lt
   omega
 have hnS:¬S g':=fun hS=>by
  rcases p4 with rfl | p4
  ·exact hi.apart id b hb hS
  ·have:=hi.st _ hS;omega
 have htl:(b.es.take m++c::b.es.drop m).length=n+1:=by simp;omega
 have hrl:∀c'∈b.es.take m++c::b.es.drop m,c'.length=s:=fun c' hc'=>by
  rcases List.mem_append.1 hc' with h | h
  ·exact hlen c' (List.mem_of_mem_take h)
  ·rcases List.mem_cons.1 h with rfl | h
   ·exact hlc
   ·exact hlen c' (List.mem_of_mem_drop h)
 have hcl:(cur.toList.take (n*s)).length=n*s:=by
  have:n*s≤cap*s:=Nat.mul_le_mul_right _ g2
  simp only[List.length_take,Array.length_toList]
  rw[q2,←g4,Nat.zero_add]
  exact Nat.min_eq_left this
 have hms:m*s≤n*s:=Nat.mul_le_mul_right _ (by omega)
 have hcl1:(cur.toList.take (m*s)).length=m*s:=by
  have:cur.toList.length=cap*s:=by rw[Array.length_toList,q2,←g4,Nat.zero_add]
  have h2:n*s≤cap*s:=Nat.mul_le_mul_right _ g2
  simp only[List.length_take,this]
  omega
 have hvl:(vcur.toList.take s).length=s:=by
  have:vcur.toList.length=vc*s:=by rw[Array.length_toList,r2,←v4,Nat.zero_add]
  have h2:1*s≤vc*s:=Nat.mul_le_mul_right _ v2
  simp only[List.length_take,this]
  omega
 have k:=Stp.adopt (dr:=dr) (hp1:=upd hp id none) hi hsub ⟨g',cur'.size,s⟩ e true (b.es.take m++c::b.es.drop m) cur' p7.os p7.tape p7.output p7.size (p7.drawn trivial) (fun _=>False) (fun _ h=>h.elim)
  (fun b' hb' hne' _=>p7.block b' hb' hne') hlive hnS (by
   rcases p4 with rfl | p4
   ·exact .inl ⟨id,b,hb,rfl⟩
   ·exact .inr p4) hs0 (by simpa[zS] using hsz) hrl (by rw[htl,p6];exact Nat.mul_le_mul_right _ p1) p5 rfl
  (fun i' j c' pv hi' hj=>by
   obtain⟨b1,b2',b3⟩:=row_at hrl hi' hj
   rw[htl] at b2' b3
   have hcell:=p8 (i'*s+j) b3
   show ∃u,cur'[i'*s+j]?=some u∧_
   rw[hcell]
   have hrep:∀u,CellRep w S G nx b.arr pv u→CellRep w S G nx true pv u:=fun u hu=>by rw[k2] at hu;exact hu
   have hrep2:∀u,CellRep w S G nx b2.arr pv u→CellRep w S G nx true pv u:=fun u hu=>by rw[k3] at hu;exact hu
   rcases Nat.lt_trichotomy i' m with hlt | heq | hgt
   ·rw[List.getElem?_append_left (by rw[List.length_take,k7];omega),List.getElem?_take,if_pos hlt] at hi'
    obtain⟨u,a1,a2⟩:=q3 i' j c' pv hi' hj
    have hlt2:i'*s+j<m*s:=y9 hlt b1
    refine⟨u,?_,hrep u a2⟩
    rw[List.append_assoc,List.getElem?_append_left (by rw[hcl1];exact hlt2),List.getElem?_take,if_pos hlt2]
    simpa using a1
   ·subst heq
    rw[List.getElem?_append_right (by rw[List.length_take,k7];omega)] at hi'
    rw[List.length_take,k7,Nat.min_eq_left (by omega),Nat.sub_self] at hi'
    simp only[List.getElem?_cons_zero,Option.some.injEq] at hi'
    subst hi'
    obtain⟨u,a1,a2⟩:=r3 0 j c pv (by rw[hc];rfl) hj
    rw[Nat.zero_mul,Nat.zero_add] at a1
    refine⟨u,?_,hrep2 u a2⟩
    rw[List.append_assoc,List.getElem?_append_right (by rw[hcl1];omega),hcl1,Nat.add_sub_cancel_left,List.getElem?_append_left (by rw[hvl];exact b1),List.getElem?_take,if_pos b1]
    simpa using a1
   ·obtain⟨d,rfl⟩:∃d,i'=d+1:=⟨i' - 1,by omega⟩
    rw[List.getElem?_append_right (by rw[List.length_take,k7];omega)] at hi'
    rw[List.length_take,k7,Nat.min_eq_left (by omega),show d+1 - m=(d - m)+1 by omega,List.getElem?_cons_succ,List.getElem?_drop,show m+(d - m)=d by omega] at hi'
    obtain⟨u,a1,a2⟩:=q3 d j c' pv hi' hj
    have hdn:d<n:=by omega
    have hdl:=y9 (s:=s) hdn b1
    have hmd:m*s≤d*s:=Nat.mul_le_mul_right _ (by omega)
    refine⟨u,?_,hrep u a2⟩
    rw[List.getElem?_append_right (by rw[List.length_append,hcl1,hvl,Nat.add_mul,Nat.one_mul];omega),List.length_append,hcl1,hvl,List.getElem?_drop,
     show m*s+((d+1)*s+j - (m*s+s))=d*s+j by rw[Nat.add_mul,Nat.one_mul];omega,List.getElem?_take,if_pos hdl]
    simpa using a1)
 refine⟨_,_,_,rfl,k,?_⟩
 have:=RepO.own (w:=w') (S:=S) (G:=upd G nx ⟨g',cur'.size,s⟩) (nx:=nx+1) (id:=nx) (off:=0) (n:=n+1) (cap:=cap') (by omega) p1 p2 (by rw[zQ];show (0+cap')*s=cur'.size;rw[p6,Nat.zero_add]) (by rw[zQ];exact hs0)
 rw[zQ] at this
 simpa using this
noncomputable def hIns (C:Ctx) (fn:Func) (e s by_:Nat):AM.Spec:=fun args hp nx=>match hInsF e s by_ args hp nx with
 | some r=>some r
 | none=>hRun C fn args hp nx
theorem hIns_sound {C:Ctx} {fn:Func} {f e s by_:Nat} (h1:SpecD dr P f (hInsF e s by_)) (h2:SpecD dr P f (hRun C fn)):SpecD dr P f (hIns C fn e s by_):=by
 refine⟨h1.1,fun args hp nx r hp' nx' h=>?_⟩
 unfold hIns at h
 split at h
 ·rename_i q hq
  injection h with h
  subst h
  exact h1.2 args hp nx r hp' nx' hq
 ·exact h2.2 args hp nx r hp' nx' h
end
end Go.AM
namespace Go.AM
open Go.RowKit Go.Proofs Go.Lib
variable {dr:Prop}
variable {P:Program}
theorem yU (w:World) (dT sT ty elem:TypeId) (k m g o dLen dCap:Nat) (a:Addr) (sLen sCap:Nat) (cur:Array Value) (t:TypeId) (cs:List Value)
  (hu:P.underlying dT=some (.slice elem)) (hs:zS P elem=some k)
  (hg:w.heap[g]?=some (.cells cur t (0,0))) (hm:Nat.min sLen dLen=m) (hn:cs.length=m*k)
  (hsrc:∀j v,cs[j]?=some v→w.cell? (a.add j)=some v) (hfit:o+cs.length≤cur.size) (h1:∀v∈cs,v.oneCell'=true) :
  (Builtin.copy_ #[dT,sT] ty #[.slice (some ⟨g,o,none⟩) dLen dCap,.slice (some a) sLen sCap]).run P w =
   .ok (goInt m) (w.setRow g (cur.toList.take o++cs++cur.toList.drop (o+cs.length)).toArray):=by
 have hl:=run_loadCells_list (P:=P) w a cs hsrc
 have hst:=run_storeCells_at P g o t cs 0 cur w hg (by simpa using hfit) h1
 unfold zS at hs
 cases hq:P.info? elem with
 | none=>simp[hq] at hs
 | some i =>
   have hi:i.size=k:=by simpa[hq] using hs
   simp[Builtin.copy_,run_underlying hu,Builtin.lenOf,Builtin.firstCells,sizeOf,typeInfo,hq,hi,hm,←hn,hl,hst]
theorem cell_row {w:World} {g e:Nat} {cur:Array Value} (h:w.heap[g]?=some (.cells cur e (0,0))) (j:Nat):w.cell? ⟨g,j,none⟩=cur[j]?:=by simp[World.cell?,h]
theorem froz_row {w:World} {g e:Nat} {cur:Array Value} (h:w.heap[g]?=some (.cells cur e (0,0))) (j:Nat):w.frozen? ⟨g,j,none⟩=false:=by simp[World.frozen?,h]
theorem shape_row {w:World} {g e:Nat} {cur:Array Value} (h:w.heap[g]?=some (.cells cur e (0,0))):w.shape? g=some (e,cur.size):=by simp[World.shape?,h]
theorem ki {w:World} {g k:Nat} (cs:Array Value) (h:k≠g):(w.setRow g cs).heap[k]?=w.heap[k]?:=by
 have:¬g=k:=fun e=>h e.symm
 simp[World.setRow,Array.getElem?_modify,this]
theorem fr_setRow (w:World) (g:Nat) (cs:Array Value):Fr dr w (fun b=>b=g) (w.setRow g cs) :=
 ⟨rfl,rfl,rfl,by simp[World.setRow],fun _=>Nat.le_refl _,fun k _ hk=>ki cs hk⟩
def qH (l:List Value) (o:Nat) (cs:List Value):List Value:=l.take o++cs++l.drop (o+cs.length)
theorem wg {l cs:List Value} {o:Nat} (h:o+cs.length≤l.length):(qH l o cs).length=l.length:=by
 unfold qH
 simp
 omega
theorem shift_get {l vs:List Value} {n i s:Nat} (hi:i≤n) (hl:(n+1)*s≤l.length) (hv:vs.length=s) (j:Nat) (hj:j<(n+1)*s) :
  (qH (qH l ((i+1)*s) ((l.take (n*s)).drop (i*s))) (i*s) vs)[j]?=(l.take (i*s)++vs++(l.take (n*s)).drop (i*s))[j]?:=by
 have e1:(i+1)*s=i*s+s:=by rw[Nat.add_mul,Nat.one_mul]
 have e2:(n+1)*s=n*s+s:=by rw[Nat.add_mul,Nat.one_mul]
 have h1:i*s≤n*s:=Nat.mul_le_mul_right _ hi
 rw[e2] at hl hj
 rw[e1]
 generalize n*s=N at *
 generalize i*s=I at *
 subst hv
 have hc:((l.take N).drop I).length=N - I:=by simp;omega
 have hb:I+vs.length+((l.take N).drop I).length≤l.length:=by rw[hc];omega
 have hs1:(qH l (I+vs.length) ((l.take N).drop I)).length=l.length:=wg hb
 have g1:=we (qH l (I+vs.length) ((l.take N).drop I)) vs I j (by rw[hs1];omega)
 have g2:=we l ((l.take N).drop I) (I+vs.length) j hb
 have k1:(qH (qH l (I+vs.length) ((l.take N).drop I)) I vs)[j]?=if I≤j∧j<I+vs.length then vs[j - I]? else (qH l (I+vs.length) ((l.take N).drop I))[j]?:=g1
 have k2:(qH l (I+vs.length) ((l.take N).drop I))[j]?=if I+vs.length≤j∧j<I+vs.length+((l.take N).drop I).length then ((l.take N).drop I)[j - (I+vs.length)]? else l[j]?:=g2
 have ht:(l.take I).length=I:=by simp;omega
 rw[k1,k2,List.append_assoc]
 by_cases h2:j<I
 ·rw[if_neg (by omega),if_neg (by omega),List.getElem?_append_left (by omega),List.getElem?_take,if_pos h2]
 ·rw[List.getElem?_append_right (by omega),ht]
  by_cases h3:j<I+vs.length
  ·rw[if_pos (by omega),List.getElem?_append_left (by omega)]
  ·rw[if_neg (by omega),if_pos (by omega),List.getElem?_append_right (by omega)]
   congr 1
   omega
theorem grow_get {R olds vs cs:List Value} {I:Nat} (hR:olds.length=I) (ho:∀j,j<I→R[j]?=olds[j]?) (hl:I+vs.length+cs.length≤R.length) (j:Nat) (hj:j<I+vs.length+cs.length) :
  (qH (qH R I vs) (I+vs.length) cs)[j]?=(olds++vs++cs)[j]?:=by
 have hs1:(qH R I vs).length=R.length:=wg (by omega)
 have g1:=we (qH R I vs) cs (I+vs.length) j (by rw[hs1];omega)
 have g2:=we R vs I j (by omega)
 have k1:(qH (qH R I vs) (I+vs.length) cs)[j]?=if I+vs.length≤j∧j<I+vs.length+cs.length then cs[j - (I+vs.length)]? else (qH R I vs)[j]?:=g1
 have k2:(qH R I vs)[j]?=if I≤j∧j<I+vs.length then vs[j - I]? else R[j]?:=g2
 rw[k1,k2,List.append_assoc]
 by_cases h2:j<I
 ·rw[if_neg (by omega),if_neg (by omega),List.getElem?_append_left (by omega),ho j h2]
 ·rw[List.getElem?_append_right (by omega),hR]
  by_cases h3:j<I+vs.length
  ·rw[if_neg (by omega),if_pos (by omega),List.getElem?_append_left (by omega)]
  ·rw[if_pos (by omega),List.getElem?_append_right (by omega)]
   congr 1
   omega
theorem info_all {e s by_:Nat} {z:List PV} (hs:zS P e=some s) (hb:yi P e=some by_) (hz:wD P e=some z) (hl:z.length=s):∃i v,P.info? e=some i∧i.zero=some v∧i.size=s∧i.bytes=by_∧v.cells.size=s:=by
 obtain⟨i,v,hi,hv,hc⟩:=ko hz
 obtain⟨i',hi',his⟩:=ju hs
 rw[hi] at hi'
 injection hi' with hi'
 subst hi'
 refine⟨i,v,hi,hv,his,?_,?_⟩
 ·unfold yi at hb
  rw[hi] at hb
  simpa using hb
 ·have:=(qE (w:=default) (S:=fun _=>False) hc).1
  rw[hl] at this
  simpa using this.symm
theorem alloc_new {w:World} (o:Obj):(w.alloc o).heap[w.heap.size]?=some o:=by
 show (w.heap.push o)[w.heap.size]?=some o
 simp
theorem alloc_old {w:World} (o:Obj) {k:Nat} (h:k<w.heap.size):(w.alloc o).heap[k]?=w.heap[k]?:=by
 have:¬k=w.heap.size:=by omega
 show (w.heap.push o)[k]?=_
 simp[Array.getElem?_push,this]
theorem setRow_size {w:World} {g:Nat} (cs:Array Value):(w.setRow g cs).heap.size=w.heap.size:=by simp[World.setRow]
theorem alloc_size {w:World} (o:Obj):(w.alloc o).heap.size=w.heap.size+1:=by
 show (w.heap.push o).size=_
 simp
end Go.AM
