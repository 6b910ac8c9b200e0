/-
The reference's CheckCond: values, pattern, parts.
Ranges: the reference's check.
The reference's books: an experiment, the check of a book.
The reference's books: the check of a book is the program's.
What an experiment has at a time (the program's Has).
-/
import Derived.Test.YtdkfdoeijcfbhaaGreatDoorG30
import Derived.Test.YtdkfdoeijcfbhaaGreatDoorG21
import Derived.Test.YtdkfdoeijcfbhaaGreatDoorG25
import Derived.Test.YtdkfdoeijcfbhaaGreatDoorG24
set_option maxRecDepth 8000
namespace Go.Proofs.YtdkfdoeijcfbhaaGreatDoor
open Go.Proofs.Tryz
open Go.RowKit Go.AM
noncomputable abbrev zeC:Ctx:=zF prog [(91,GV fun v=>int v.check),(89,zd false [] (FIb jf)),(92,zd false [] (FCV lim))]
theorem goodrcvq:AM.Good zeC (fun g=>[92].contains g):=zk mixed ⟨rcheck_sound,by simp,WM,by simp,rcompare_sound lim,fun _=>zh _ _,trivial⟩
set_option maxHeartbeats 1000000 in
theorem rcheckValues_eval (c:Cnd) (h:c.cb≤lim):zi zeC f58 [.agg c.enc]=some (int (kA c.op c.vals)):=by
 have hcb:=Vg c
 obtain⟨l,hl⟩:∃l,c.vals=l:=⟨_,rfl⟩
 obtain⟨op,ho⟩:∃op,c.op=op:=⟨_,rfl⟩
 have hlen:=wp l
 rw[hl] at hcb
 rw[hl,ho]
 unfold lim at h
 refine zb rfl ?_
 by_cases h100:(100:Int)<l.length
 ·have hv:kA op l=2:=by unfold kA;rw[if_pos h100]
  simp[hl,h100,hv,f58]
 have hv:kA op l=valF op none l:=by unfold kA;rw[if_neg h100]
 rw[hv]
 simp[hl,h100]
 refine zq (fun k σ hp nx=>σ 1=.ref 0 0 0∧σ 11=.sl 5 (l.map Val.enc)∧σ 12=int l.length∧σ 13=int k∧1≤nx∧hp 0=some ⟨25,7,false,[c.enc]⟩∧valF op none l=valF op (xc l k) (l.drop k)) l.length
  ⟨by simp,by simp,by simp,by simp,by simp,by simp,by simp[xc]⟩ ?_
 rintro k σ hp nx hk ⟨h1,h11,h12,h13,hnx,b0,he⟩
 have n0:¬0=nx:=by omega
 by_cases hlt:k<l.length
 ·have hm:=yA (List.getElem_mem hlt)
  have hw:IntKind.i64.wrap ((k:Int)+1)=(k:Int)+1:=zc (by omega) (by omega)
  have hck:=fun hp nx=>xw (fun v=>int v.check) l[k] hp nx (by unfold lim;omega)
  rw[List.drop_eq_getElem_cons hlt] at he
  simp only[valF] at he
  have hpn:xc l (k+1)=some l[k]:=by simp[xc,hlt]
  have hty0:zc5 op l[k]=(l[k].kind==0||jf op&&l[k].kind != 2):=rfl
  by_cases hz:l[k].check=0
  case neg =>
   rw[if_neg hz] at he
   have hz2:(l[k].check != 0)=true:=by simpa using hz
   simp[hl,ho,h1,b0,n0,h11,h12,h13,hlt,hck,hz2,he,f58]
  rw[if_pos hz] at he
  cases hty:zc5 op l[k]
  case true =>
   rw[hty,if_pos rfl] at he
   rw[hty] at hty0
   by_cases k0:l[k].kind=0
   ·simp[hl,ho,h1,b0,n0,h11,h12,h13,hlt,hck,hz,k0,he,f58]
   ·have k0':(l[k].kind==0)=false:=by simpa using k0
    rw[k0',Bool.false_or] at hty0
    have hty0':=hty0.symm
    rw[Bool.and_eq_true] at hty0'
    simp[hl,ho,h1,b0,n0,h11,h12,h13,hlt,hck,hz,k0',hty0'.1,hty0'.2,he,f58]
  rw[hty,if_neg (by simp)] at he
  rw[hty] at hty0
  have hty1:=hty0.symm
  rw[Bool.or_eq_false_iff] at hty1
  obtain⟨t1,t2⟩:=hty1
  have t3:jf op=false∨(l[k].kind != 2)=false:=by
   cases hi:jf op
   ·exact .inl rfl
   ·rw[hi,Bool.true_and] at t2;exact .inr t2
  by_cases k0:k=0
  ·subst k0
   have hp0:Jl (xc l 0) l[0]=false:=rfl
   rw[hp0,if_neg (by simp)] at he
   have hfin:valF op none l=valF op (xc l 1) l.tail:=by rw[he,show xc l 1=some l[0] from hpn];simp
   cases hi:jf op
   ·simp[hl,ho,h1,b0,n0,h11,h12,h13,hlt,hck,hz,t1,hi,hw]
    exact⟨by omega,hfin⟩
   ·have t4:(l[0].kind != 2)=false:=t3.resolve_left (by rw[hi];simp)
    simp[hl,ho,h1,b0,n0,h11,h12,h13,hlt,hck,hz,t1,hi,t4,hw]
    exact⟨by omega,hfin⟩
  ·obtain⟨j,rfl⟩:∃j,k=j+1:=⟨k - 1,by omega⟩
   have hj:j<l.length:=by omega
   have hmj:=yA (List.getElem_mem hj)
   have wj:IntKind.i64.wrap ((j:Int)+1 - 1)=(j:Int):=by rw[zc (by omega) (by omega)];omega
   have wj':IntKind.i64.wrap (j:Int)=(j:Int):=zc (by omega) (by omega)
   have j1:((j:Int)+1).toNat=j+1:=by omega
   have j2:0<(j:Int)+1:=by omega
   have j3:0≤(j:Int)+1:=by omega
   have j4:(j:Int)+1<l.length:=by omega
   have hcm:=fun hp nx=>Zg lim l[j+1] l[j] hp nx ⟨by unfold lim;omega,by unfold lim;omega,by unfold lim;omega⟩
   have hpv:Jl (xc l (j+1)) l[j+1]=decide (qo l[j+1] l[j]≤0):=by
    simp only[xc,Jl]
    simp[hj,cmpVal_turn]
   rw[hpv] at he
   by_cases hc:qo l[j+1] l[j]≤0
   ·have hc':decide (qo l[j+1] l[j]≤0)=true:=by simpa using hc
    rw[if_pos hc'] at he
    cases hi:jf op
    ·simp[hl,ho,h1,b0,n0,h11,h12,h13,hlt,hj,hck,hz,t1,hi,hw,wj,wj',j1,j2,j3,j4,hcm,hc,he,f58]
    ·have t4:(l[j+1].kind != 2)=false:=t3.resolve_left (by rw[hi];simp)
     simp[hl,ho,h1,b0,n0,h11,h12,h13,hlt,hj,hck,hz,t1,hi,t4,hw,wj,wj',j1,j2,j3,j4,hcm,hc,he,f58]
   ·have hc':¬decide (qo l[j+1] l[j]≤0)=true:=by simpa using hc
    rw[if_neg hc'] at he
    have wk:IntKind.i64.wrap ((j:Int)+1+1)=(j:Int)+1+1:=zc (by omega) (by omega)
    have hfin:valF op none l=valF op (xc l (j+1+1)) (l.drop (j+1+1)):=by rw[he,hpn]
    cases hi:jf op
    ·simp[hl,ho,h1,b0,n0,h11,h12,h13,hlt,hj,hck,hz,t1,hi,wk,wj,wj',j1,j2,j3,j4,hcm,hc]
     exact⟨by omega,hfin⟩
    ·have t4:(l[j+1].kind != 2)=false:=t3.resolve_left (by rw[hi];simp)
     simp[hl,ho,h1,b0,n0,h11,h12,h13,hlt,hj,hck,hz,t1,hi,t4,wk,wj,wj',j1,j2,j3,j4,hcm,hc]
     exact⟨by omega,hfin⟩
 ·obtain rfl:k=l.length:=by omega
  rw[List.drop_length] at he
  simp only[valF] at he
  simp[h1,h11,h12,h13,he,f58]
theorem rcheckValues_sound:za prog 58 (GC fun c=>int (kA c.op c.vals)) :=
 zI (fn:=f58) goodrcvq ⟨_,func58,by kernel_rfl,rfl,by kernel_rfl⟩ false [] _ fun args r h=>by
  obtain⟨c,rfl,hc,rfl⟩:=xx h
  exact⟨Nat.le_trans (Nat.le_refl 1) (by decide),_,rcheckValues_eval c hc.1,zG _⟩
noncomputable abbrev zeD:Ctx:=zF prog [(93,zd false [] (FSP1 rrP))]
theorem goodrptq:AM.Good zeD (fun g=>([]:List Nat).contains g):=zk mixed ⟨rReadRange_sound,by simp,trivial⟩
theorem rcheckPattern_eval (c:Cnd) (h:c.cb≤lim):zi zeD f59 [.agg c.enc]=some (int (patF c.op c.pat)):=by
 have hcb:=Vg c
 obtain⟨s,hs⟩:∃s,c.pat=s:=⟨_,rfl⟩
 obtain⟨op,ho⟩:∃op,c.op=op:=⟨_,rfl⟩
 rw[hs] at hcb
 rw[hs,ho]
 unfold lim at h
 refine zb rfl ?_
 by_cases h500:(500:Int)<s.length
 ·have hv:patF op s=2:=by unfold patF;rw[if_pos h500]
  simp[hs,h500,hv,f59]
 have hrr:=fun hp nx=>yP rrP s hp nx (by unfold lim;omega)
 simp only[rrP] at hrr
 have hv:patF op s=if zS 32 126 s=true then (if op=11 then (ku s).2 else 0) else 1:=by unfold patF;rw[if_neg h500]
 simp[hs,h500]
 refine zq (fun k σ hp nx=>σ 1=.ref 0 0 0∧σ 12=int s.length∧σ 13=int k∧hp 0=some ⟨25,7,false,[c.enc]⟩∧zS 32 126 s=zS 32 126 (s.drop k)) s.length ⟨by simp,by simp,by simp,by simp,by simp⟩ ?_
 rintro k σ hp nx hk ⟨h1,h12,h13,b0,he⟩
 by_cases hlt:k<s.length
 ·have hw:IntKind.i64.wrap ((k:Int)+1)=(k:Int)+1:=zc (by omega) (by omega)
  rw[yF hlt] at he
  have ho':=WV 32 126 s[k]
  simp only[Int.cast_ofNat_Int] at ho'
  cases hc:pr 32 126 s[k]
  ·have he:zS 32 126 s=false:=by rw[he,hc];rfl
   rw[he,if_neg (by simp)] at hv
   simp[h1,b0,hs,h12,h13,hlt,hv,ho',hc,f59]
  ·simp[h1,b0,hs,h12,h13,hlt,ho',hc,hw]
   exact⟨hlt,by rw[he,hc];rfl⟩
 ·obtain rfl:k=s.length:=by omega
  have he:zS 32 126 s=true:=by rw[he,List.drop_length];rfl
  rw[he,if_pos rfl] at hv
  by_cases h11:op=11
  ·rw[if_pos h11] at hv
   subst h11
   simp[h1,b0,hs,ho,h12,h13,hrr,hv,f59]
  ·rw[if_neg h11] at hv
   have h11':(op==11)=false:=by simpa using h11
   simp[h1,b0,hs,ho,h12,h13,h11',hv,f59]
theorem rcheckPattern_sound:za prog 59 (GC fun c=>int (patF c.op c.pat)) :=
 zI (fn:=f59) goodrptq ⟨_,func59,by kernel_rfl,rfl,by kernel_rfl⟩ false [] _ fun args r h=>by
  obtain⟨c,rfl,hc,rfl⟩:=xx h
  exact⟨Nat.le_trans (Nat.le_refl 1) (by decide),_,rcheckPattern_eval c hc.1,zG _⟩
theorem pat_idle {c:Cnd} (h1:kU c=false) (h2:patC c=false):patF c.op c.pat=0:=by
 have hz:∀op,op≠11→patF op []=0:=fun op h=>by simp[patF,h]
 have hw:w1F c=false∧w5F c=false:=by
  unfold kU at h1
  simp only[Bool.or_eq_false_iff] at h1
  exact⟨h1.1.1.1.1.1.1,h1.1.1.2⟩
 obtain⟨w1,w5⟩:=hw
 unfold patC at h2
 cases hk:c.kind==4
 ·simp only[w1F,hk,Bool.not_false,Bool.true_and,Bool.or_eq_false_iff] at w1
  obtain⟨⟨⟨_,x2⟩,_⟩,x4⟩:=w1
  have e1:c.op=0:=by simpa using x2
  have e2:c.pat=[]:=by simpa using x4
  rw[e1,e2]
  exact hz 0 (by decide)
 ·rw[hk,Bool.true_and] at h2
  simp only[w5F,hk,h2,Bool.true_and,Bool.not_false] at w5
  have e2:c.pat=[]:=by simpa using w5
  rw[e2]
  refine hz _ fun e=>?_
  rw[e] at h2
  revert h2
  decide
noncomputable abbrev zeE (n:Nat):Ctx:=zF prog [(24,zd false [] (FC (fun c=>int c.fault) n)),(56,GC fun c=>boo (zaE c)),(57,zd false [] (FS qj)),(58,GC fun c=>int (kA c.op c.vals)),(59,GC fun c=>int (patF c.op c.pat))]
set_option maxHeartbeats 2000000 in
theorem rcheckParts_eval (n:Nat) (c:Cnd) (h:c.cb≤lim∧c.cb≤n+1):zi (zeE n) f24 [.agg c.enc]=some (int c.fault):=by
 have hcb:=Vg c
 have hl1:=vp c.args
 obtain⟨ha,hb⟩:=h
 have hf:=XI c
 have hfo:=fun hp nx=>kQ (fun c=>boo (zaE c)) c hp nx ha
 have hva:=fun hp nx=>kQ (fun c=>int (kA c.op c.vals)) c hp nx ha
 have hpa:=fun hp nx=>kQ (fun c=>int (patF c.op c.pat)) c hp nx ha
 have hna:c.attr.length≤lim:=by omega
 have hnn:c.name.length≤lim:=by omega
 unfold lim at ha
 refine zb rfl ?_
 refine yZ (fun st=>st.σ 1=.ref 0 0 0∧st.hp 0=some ⟨25,7,false,[c.enc]⟩∧st.nx=1) (by simp) ?_
 rintro⟨σ,hp,nx⟩ ⟨h1,b0,hnx⟩
 simp only at h1 b0 hnx
 subst hnx
 have hk0:XH c=!inB c.kind 1 5:=rfl
 refine yZ (fun st=>st.σ 1=.ref 0 0 0∧st.hp 0=some ⟨25,7,false,[c.enc]⟩∧st.nx=1∧XH c=false∧opC c=false∧kU c=false∧J7 c=false) ?_ ?_
 ·by_cases k1:c.kind<1
  ·have hv:XH c=true:=by rw[hk0];simp[inB];omega
   simp[h1,b0,k1,hf,jg,hv,f24]
  by_cases k5:5<c.kind
  ·have hv:XH c=true:=by rw[hk0];simp[inB];omega
   simp[h1,b0,k1,k5,hf,jg,hv,f24]
  have hv1:XH c=false:=by rw[hk0];simp[inB];omega
  have hform:=form_same c (by simp[inB];omega)
  rw[hform] at hfo
  by_cases k4:c.kind=4
  ·have hop:opC c=!inB c.op 1 12:=by unfold opC;rw[k4];rfl
   have hnm:J7 c=!qj c.attr:=by unfold J7;rw[k4];simp
   by_cases o1:c.op<1
   ·have hv:opC c=true:=by rw[hop];simp[inB];omega
    simp[h1,b0,k4,o1,hf,jg,hv,f24]
   by_cases o2:12<c.op
   ·have hv:opC c=true:=by rw[hop];simp[inB];omega
    simp[h1,b0,k4,o1,o2,hf,jg,hv,f24]
   have hv2:opC c=false:=by rw[hop];simp[inB];omega
   cases hff:kU c
   case true=>simp[h1,b0,k4,o1,o2,hfo,hff,hf,jg,hv1,hv2,f24]
   cases hn:qj c.attr
   ·rw[hn] at hnm
    simp[h1,b0,k4,o1,o2,hfo,hff,hna,hn,hf,jg,hv1,hv2,hnm,f24]
   ·rw[hn] at hnm
    simp[h1,b0,k4,o1,o2,hfo,hff,hna,hn,hv1,hv2,hnm]
  have k4':(c.kind==4)=false:=by simpa using k4
  have hv2:opC c=false:=by unfold opC;rw[k4'];rfl
  cases hff:kU c
  case true=>simp[h1,b0,k1,k5,k4',hfo,hff,hf,jg,hv1,hv2,f24]
  by_cases k55:c.kind=5
  ·have hnm:J7 c=!qj c.name:=by unfold J7;rw[k55];simp
   cases hn:qj c.name
   ·rw[hn] at hnm
    simp[h1,b0,k55,hfo,hff,hnn,hn,hf,jg,hv1,hv2,hnm,f24]
   ·rw[hn] at hnm
    simp[h1,b0,k55,hfo,hff,hnn,hn,hv1,hv2,hnm]
  ·have k55':(c.kind==5)=false:=by simpa using k55
   have hnm:J7 c=false:=by unfold J7;rw[k4',k55'];rfl
   simp[h1,b0,k1,k5,k4',k55',hfo,hff,hv1,hv2,hnm]
 clear h1 b0 σ hp hfo
 rintro⟨σ,hp,nx⟩ ⟨h1,b0,hnx,c1,c2,c3,c4⟩
 simp only at h1 b0 hnx
 subst hnx
 by_cases c5:kA c.op c.vals=0
 case neg =>
  have c5':(kA c.op c.vals != 0)=true:=by simpa using c5
  simp[h1,b0,hva,c5,c5',hf,jg,c1,c2,c3,c4,f24]
 by_cases c7:patF c.op c.pat=0
 case neg =>
  have c7':(patF c.op c.pat != 0)=true:=by simpa using c7
  have c6:patC c=true:=by cases hx:patC c;exact absurd (pat_idle c3 hx) c7;rfl
  simp[h1,b0,hva,hpa,c5,c7,c7',hf,jg,c1,c2,c3,c4,c6,f24]
 have hh:jg c=0:=by simp[jg,c1,c2,c3,c4,c5,c7]
 have hf':c.fault=faultC c.args:=by rw[hf,if_pos hh]
 simp[h1,b0,hva,hpa,c5,c7]
 refine zq (fun k σ hp nx=>σ 64=.sl 7 (c.args.map Cnd.enc)∧σ 65=int c.args.length∧σ 66=int k∧faultC c.args=faultC (c.args.drop k)) c.args.length ⟨by simp,by simp,by simp,by simp⟩ ?_
 clear h1 b0 σ hp
 rintro k σ hp nx hk ⟨h73,h74,h75,he⟩
 by_cases hlt:k<c.args.length
 ·have hm:=Wp (List.getElem_mem hlt)
  have hw:IntKind.i64.wrap ((k:Int)+1)=(k:Int)+1:=zc (by omega) (by omega)
  have hcall:=fun hp nx=>Y2 (fun c=>int c.fault) n c.args[k] hp nx ⟨by unfold lim;omega,by omega⟩
  rw[Z4 hlt] at he
  by_cases hz:c.args[k].fault=0
  ·rw[if_pos hz] at he
   simp[h73,h74,h75,hlt,hcall,hz,hw]
   exact⟨by omega,he⟩
  ·rw[if_neg hz] at he
   have hz2:(c.args[k].fault != 0)=true:=by simpa using hz
   simp[h73,h74,h75,hlt,hcall,hz2,hf',he,f24]
 ·obtain rfl:k=c.args.length:=by omega
  rw[List.drop_length] at he
  have he:faultC c.args=0:=by rw[he];rfl
  simp[h73,h74,h75,hf',he,f24]
set_option maxRecDepth 100000 in
theorem rcheckParts_sound:∀n,za prog 24 (zd false [] (FC (fun c=>int c.fault) n)):=by
 intro n
 induction n with
 | zero=>exact zau ⟨_,func24,by kernel_rfl,by kernel_rfl⟩
 | succ n ih =>
   have hg:AM.Good (zeE n) (fun g=>([]:List Nat).contains g):=zk mixed ⟨ih,by simp,rformed_sound,by simp,vO,by simp,rcheckValues_sound,by simp,rcheckPattern_sound,by simp,trivial⟩
   exact zI (fn:=f24) hg ⟨_,func24,by kernel_rfl,rfl,by kernel_rfl⟩ false [] _ fun args r h=>by
    obtain⟨c,rfl,hc,rfl⟩:=xx h
    exact⟨Nat.le_trans (Nat.le_refl 1) (by decide),_,rcheckParts_eval n c hc,zG _⟩
noncomputable abbrev Crccq:Ctx:=zF prog [(24,GC fun c=>int c.fault),(23,GC fun c=>boo (cutC (c.rp 1)))]
theorem rccheck_sound:za prog 8 (GC fun c=>int c.check) :=
 zI (fn:=Tryz.f8) (zk (q:=[]) mixed ⟨rcheckParts_sound lim,by simp,rlarge_sound,by simp,trivial⟩:AM.Good Crccq _) ⟨_,func8,by kernel_rfl,rfl,by kernel_rfl⟩ false [] _ fun args r h=>by
  obtain⟨c,rfl,hc,rfl⟩:=xx h
  have h1:=fun hp nx=>kQ (fun c=>int c.fault) c hp nx hc.1
  have h2:=fun hp nx=>kQ (fun c=>boo (cutC (c.rp 1))) c hp nx hc.1
  have hl:=clarge_eq c
  refine⟨Nat.le_trans (Nat.le_refl 1) (by decide),_,zb rfl ?_,zG _⟩
  unfold Cnd.check
  rw[←hl]
  cases hk:cutC (c.rp 1)
  ·simp[h1,h2,hk,Tryz.f8]
  ·simp[h1,h2,hk,Tryz.f8]
theorem rcheckRanges_eval (l:List Rg) (n:Int) (hn:1≤n∧n≤20):zi C0 f160 [.sl 3 (l.map encG),int n]=some (int (wX l n)):=by
 refine zb rfl ?_
 rw[wX]
 by_cases c1:l.length=0
 ·have:l=[]:=List.length_eq_zero_iff.1 c1
  subst this
  simp[f160]
 have c1':¬l=[]:=fun h=>c1 (by rw[h];rfl)
 have c0:((l.length:Int)==0)=false:=by simpa using c1'
 by_cases c2:(200:Int)<l.length
 ·simp[c0,c1,c1',c2,f160]
 simp[c0,c1,c1',c2]
 refine zq (fun k σ hp nx=>σ 0=.sl 3 (l.map encG)∧σ 1=int n∧σ 16=.sl 3 (l.map encG)∧σ 17=int l.length∧σ 18=int k∧∃a:Int,σ 5=int a∧rgF n 0 none l=rgF n a (QL l k) (l.drop k)) l.length
  ⟨by simp,by simp,by simp,by simp,by simp,0,by simp,by simp[QL]⟩ ?_
 rintro k σ hp nx hk ⟨h0,h1,h16,h17,h18,a,h5,hf⟩
 by_cases hlt:k<l.length
 ·have hw:IntKind.i64.wrap ((k:Int)+1)=(k:Int)+1:=zc (by omega) (by omega)
  rw[zbF hlt] at hf
  have ed:(decide (l[k].2.2<0)||decide (n≤l[k].2.2))=!inB l[k].2.2 0 (n - 1):=by
   simp only[inB]
   by_cases a1:l[k].2.2<0<;>by_cases a2:n≤l[k].2.2<;>simp[a1,a2]<;>omega
  cases d1:inB l[k].2.2 0 (n - 1)
  case false =>
   rw[d1] at hf ed
   simp at hf
   simp only[Bool.not_false] at ed
   simp[h0,h1,h5,h16,h17,h18,hlt,ed,hf,f160]
  rw[d1] at ed
  simp only[Bool.not_true] at ed
  simp only[d1,if_true] at hf
  have eo:((l[k].1 != a)||decide (l[k].2.1≤l[k].1))=rgO a l[k]:=rfl
  cases d2:rgO a l[k]
  case true =>
   rw[d2] at eo hf
   simp only[if_true] at hf
   simp[h0,h1,h5,h16,h17,h18,hlt,ed,eo,hf,f160]
  rw[d2] at eo
  simp only[d2,Bool.false_eq_true,if_false] at hf
  by_cases d3:(100000:Int)<l[k].2.1
  ·rw[if_pos d3] at hf
   simp[h0,h1,h5,h16,h17,h18,hlt,ed,eo,d3,hf,f160]
  rw[if_neg d3] at hf
  have hpv:QL l (k+1)=some l[k].2.2:=by simp[QL,hlt]
  by_cases k0:k=0
  ·subst k0
   simp only[QL,if_true,rgT,Bool.false_eq_true,if_false] at hf
   have w1:IntKind.i64.wrap 1=1:=zc (by omega) (by omega)
   simp[h0,h1,h5,h16,h17,h18,hlt,ed,eo,d3,w1]
   exact⟨hlt,by rw[hf,hpv];simp⟩
  ·obtain⟨j,rfl⟩:∃j,k=j+1:=⟨k - 1,by omega⟩
   have hj:j<l.length:=by omega
   have wj:IntKind.i64.wrap ((j:Int)+1 - 1)=(j:Int):=by rw[zc (by omega) (by omega)];omega
   have wj':IntKind.i64.wrap (j:Int)=(j:Int):=zc (by omega) (by omega)
   have j1:((j:Int)+1).toNat=j+1:=by omega
   have j2:0<(j:Int)+1:=by omega
   have j3:0≤(j:Int)+1:=by omega
   have j4:(j:Int)+1<l.length:=by omega
   have wk:IntKind.i64.wrap ((j:Int)+1+1)=(j:Int)+1+1:=zc (by omega) (by omega)
   have hpj:QL l (j+1)=some l[j].2.2:=by simp[QL,hj]
   have et:(l[j+1].2.2==l[j].2.2)=rgT (some l[j].2.2) l[j+1]:=BEq.comm
   rw[hpj] at hf
   cases d4:rgT (some l[j].2.2) l[j+1]
   ·rw[d4] at et
    simp only[d4,Bool.false_eq_true,if_false] at hf
    simp[h0,h1,h5,h16,h17,h18,hlt,hj,ed,eo,d3,et,wj,wj',j1,j2,j3,j4,wk]
    exact⟨by omega,by rw[hf,hpv]⟩
   ·rw[d4] at et
    simp only[d4,if_true] at hf
    simp[h0,h1,h5,h16,h17,h18,hlt,hj,ed,eo,d3,et,wj,wj',j1,j2,j3,j4,hf,f160]
 ·obtain rfl:k=l.length:=by omega
  rw[List.drop_length,rgF] at hf
  by_cases ha:a=100000
  ·rw[if_pos ha] at hf
   simp[h0,h1,h5,h16,h17,h18,ha,hf,f160]
  ·rw[if_neg ha] at hf
   have ha':(a != 100000)=true:=by simpa using ha
   simp[h0,h1,h5,h16,h17,h18,ha',hf,f160]
theorem rcheckRanges_sound:za prog 160 (zd false [] (FRN (fun l n=>int (wX l n)) fun _ n=>1≤n∧n≤20)) :=
 zI (fn:=f160) qA ⟨_,func160,by kernel_rfl,rfl,by kernel_rfl⟩ false [] _ fun args r h=>by
  obtain⟨⟨l,n⟩,rfl,hn,rfl⟩:=ze h
  exact⟨Nat.le_trans (Nat.le_refl 2) (by decide),_,rcheckRanges_eval l n hn,zG _⟩
end Go.Proofs.YtdkfdoeijcfbhaaGreatDoor
namespace Go.Proofs.YtdkfdoeijcfbhaaGreatDoor
open Go.Proofs.Tryz
open Go.RowKit Go.AM Go.SpanLaw
def ZH (xs:List Xp) (k:Nat):List UInt8:=if k=0 then [] else match xs[k - 1]? with
 | some x=>x.name
 | none=>[]
noncomputable def expR (b:Bk) (k:Nat):Int:=match b.exps[k]? with
 | some x=>(expF b.layers (ZH b.exps k) (wJ b k) x).1
 | none=>0
theorem zdq {b:Bk} {k:Nat} (h:k<b.exps.length):expR b k=(expF b.layers (ZH b.exps k) (wJ b k) b.exps[k]).1:=by
 unfold expR
 rw[List.getElem?_eq_getElem h]
theorem saltsL_succ {b:Bk} {k:Nat} (h:k<b.exps.length):wJ b (k+1)=wJ b k++[b.exps[k].salt]:=by
 have:(b.exps.take (k+1)).map Xp.salt=(b.exps.take k).map Xp.salt++[b.exps[k].salt]:=by rw[List.take_succ_eq_append_getElem h,List.map_append];rfl
 unfold wJ
 rw[this]
 simp only[List.append_assoc]
theorem KZ {xs:List Xp} {k:Nat} (h:k<xs.length):ZH xs (k+1)=xs[k].name:=by simp[ZH,h]
theorem exps_step {b:Bk} {k:Nat} (h:k<b.exps.length):(vA b.layers (ZH b.exps k) (wJ b k) (b.exps.drop k)).1=if expR b k=0 then (vA b.layers (ZH b.exps (k+1)) (wJ b (k+1)) (b.exps.drop (k+1))).1 else expR b k:=by
 rw[List.drop_eq_getElem_cons h,vA,zdq h]
 by_cases hz:(expF b.layers (ZH b.exps k) (wJ b k) b.exps[k]).1=0
 ·rw[if_pos hz,if_pos hz,expF_l hz,KZ h,saltsL_succ h]
 ·rw[if_neg hz,if_neg hz]
noncomputable def FEx:List PV→Option PV:=zH (α:=Bk×Nat) (fun a=>[.nil,.agg a.1.enc,int a.2,boo true]) (fun a=>(a.1.cb≤lim∧UpN (a.1.layers.map Lyr.name))∧a.2<a.1.exps.length) (fun a=>int (expR a.1 a.2))
theorem FEx_call (b:Bk) (n:Nat) (hp:Hp) (nx:Nat) (h:b.cb≤lim) (hu:UpN (b.layers.map Lyr.name)) (hn:n<b.exps.length):zd false [] FEx [.nil,.agg b.enc,int n,boo true] hp nx=some (int (expR b n),hp,nx) :=
 zy (hp1:=hp) (show zj hp [.nil,.agg b.enc,int n,boo true]=some ([.nil,.agg b.enc,int n,boo true],hp) by
  have h0:zK hp .nil=some (.nil,hp):=rfl
  simp only[zj,h0,jw];rfl) (zm (enc:=fun a:Bk×Nat=>[PV.nil,.agg a.1.enc,int a.2,boo true]) (a:=(b,n)) (fun x y e=>by
  obtain⟨x1,x2⟩:=x;obtain⟨y1,y2⟩:=y
  simp only[List.cons.injEq,and_true,true_and,PV.agg.injEq] at e
  have:=zB e.2
  rw[QM e.1,show x2=y2 by omega]) ⟨⟨h,hu⟩,hn⟩) (.inl rfl)
abbrev qrex:List Nat:=[159,157]
noncomputable abbrev Crex:Ctx:=zF prog [(155,zd false [] (FNb fun a b c=>int (jF a b c))),(69,zd false [] (FBS fun b s=>QN (wQ s b.layers))),(57,zd false [] (FS qj)),(8,GC fun c=>int c.check),(156,zd false [] (FS Z8)),(159,zd false [] (FBn fun b n=>.sl 1 (encT (wJ b n)))),(157,zd false [1] (FTS fun l v=>boo (decide (v∈l)))),(160,zd false [] (FRN (fun l n=>int (wX l n)) fun _ n=>1≤n∧n≤20)),(161,zd false [] (FPh fun l=>int (qQ l)))]
theorem goodrex:AM.Good Crex (fun g=>qrex.contains g):=zk mixed ⟨Qa,by simp,jm,by simp,vO,by simp,rccheck_sound,by simp,vW,by simp,rsalts_sound,fun _=>zh _ _,kx,fun _=>zh _ _,rcheckRanges_sound,by simp,rphases_sound,by simp,trivial⟩
set_option maxHeartbeats 4000000 in
theorem rexp_eval (b:Bk) (n:Nat) (hb:b.cb≤lim) (hu:UpN (b.layers.map Lyr.name)) (hn:n<b.exps.length):zi Crex f102 [.nil,.agg b.enc,int n,boo true]=some (int (expR b n)):=by
 refine zb rfl ?_
 have hL:=zN jh b.layers
 have hH:=zN Wy b.holds
 have hX:=zN xM b.exps
 have hbc:b.cb=sumB Lyr.cb b.layers+sumB Hld.cb b.holds+sumB Xp.cb b.exps:=rfl
 have hval:=zdq hn
 obtain⟨x,hx⟩:∃x,b.exps[n]=x:=⟨_,rfl⟩
 have hmx:=qt (f:=Xp.cb) (List.getElem_mem hn)
 rw[hx] at hval hmx
 have hxc:x.cb=x.name.length+x.layer.length+x.flag.length+x.cond.cb+x.salt.length+x.arms.length+sumB Phs.cb x.phases:=rfl
 have hlo:=fun hp nx=>QO (fun b s=>QN (wQ s b.layers)) b x.layer hp nx hb
 have hsa:=fun hp nx=>FBn_call (fun b n=>.sl 1 (encT (wJ b n))) b n hp nx ⟨hb,by omega⟩
 have hsn:(wJ b n).length≤lim:=by unfold wJ;simp;omega
 have hct:=fun hp nx=>zbQ (fun l v=>boo (decide (v∈l))) (wJ b n) x.salt hp nx hsn
 simp only[Bk.enc] at hlo hsa
 unfold lim at hb
 have hnm:=fun hp nx=>VF (fun a b c=>int (jF a b c)) x.name (ZH b.exps n) (decide (n=0)) hp nx (by unfold lim;omega) rfl
 have hnf:jF x.name (ZH b.exps n) (decide (n=0))=wY x.name (ZH b.exps n):=by
  rw[Qb]
  by_cases n0:n=0
  ·subst n0;simp[ZH]
  ·simp[n0]
 simp only[hnf] at hnm
 have hfl:x.flag.length≤lim:=by unfold lim;omega
 have hsl:x.salt.length≤lim:=by unfold lim;omega
 have hcc:=fun hp nx=>kQ (fun c=>int c.check) x.cond hp nx (by unfold lim;omega)
 have hrg:=fun hp nx=>zbG (fun l n=>int (wX l n)) (fun _ n=>1≤n∧n≤20) x.arms 20 hp nx ⟨by omega,by omega⟩
 have hph:=fun hp nx=>zbN (fun l=>int (qQ l)) x.phases hp nx (by unfold lim;omega)
 simp only[ww] at hcc
 have hk0:((n:Int)==0)=decide (n=0):=by
  rw[Bool.eq_iff_iff];simp
 refine yZ (fun st=>st.σ 0=.nil∧st.σ 2=int n∧st.σ 3=boo true∧st.σ 5=.ref 0 0 0∧st.hp 0=some ⟨35,3,false,[b.enc]⟩∧st.nx=1) (by simp[Bk.enc]) ?_
 rintro⟨σ,hp,nx⟩ ⟨h0,h2,h3,h5,b0,hnx⟩
 simp only at h0 h2 h3 h5 b0 hnx
 subst hnx
 have b0':=b0
 simp only[Bk.enc] at b0'
 refine yZ (fun st=>st.σ 0=.nil∧st.σ 2=int n∧st.σ 3=boo true∧st.σ 5=.ref 0 0 0∧st.hp 0=some ⟨35,3,false,[b.enc]⟩∧st.nx=2∧st.σ 9=.ref 1 0 0∧st.hp 1=some ⟨66,13,false,[x.enc]⟩) (by simp[h0,h2,h3,h5,b0',hn,hx,zw,Bk.enc]) ?_
 clear h0 h2 h3 h5 b0 b0' σ hp
 rintro⟨σ,hp,nx⟩ ⟨h0,h2,h3,h5,b0,hnx,h9,b1⟩
 simp only at h0 h2 h3 h5 b0 hnx h9 b1
 subst hnx
 refine yZ (fun st=>st.σ 0=.nil∧st.σ 2=int n∧st.σ 3=boo true∧st.σ 5=.ref 0 0 0∧st.hp 0=some ⟨35,3,false,[b.enc]⟩∧st.nx=2∧st.σ 9=.ref 1 0 0∧st.hp 1=some ⟨66,13,false,[x.enc]⟩∧st.σ 10=str []) (by simp[h0,h2,h3,h5,b0,h9,b1]) ?_
 clear h0 h2 h3 h5 b0 h9 b1 σ hp
 rintro⟨σ,hp,nx⟩ ⟨h0,h2,h3,h5,b0,hnx,h9,b1,h10⟩
 simp only at h0 h2 h3 h5 b0 hnx h9 b1 h10
 subst hnx
 refine yZ (fun st=>st.σ 0=.nil∧st.σ 2=int n∧st.σ 3=boo true∧st.σ 5=.ref 0 0 0∧st.hp 0=some ⟨35,3,false,[b.enc]⟩∧st.nx=2∧st.σ 9=.ref 1 0 0∧st.hp 1=some ⟨66,13,false,[x.enc]⟩∧st.σ 10=str (ZH b.exps n)) ?_ ?_
 ·have b0':=b0
  simp only[Bk.enc] at b0'
  by_cases n0:n=0
  ·subst n0
   simp[h0,h2,h3,h5,b0,h9,b1,h10,ZH]
  ·obtain⟨j,rfl⟩:∃j,n=j+1:=⟨n - 1,by omega⟩
   have hj:j<b.exps.length:=by omega
   have wj:IntKind.i64.wrap ((j:Int)+1 - 1)=(j:Int):=by rw[zc (by omega) (by omega)];omega
   have wj':IntKind.i64.wrap (j:Int)=(j:Int):=zc (by omega) (by omega)
   have j2:0<(j:Int)+1:=by omega
   have hpn:=KZ hj
   simp[h0,h2,h3,h5,b0',h9,b1,h10,j2,wj,wj',hj,hpn,zw,Bk.enc]
 clear h0 h2 h3 h5 b0 h9 b1 h10 σ hp
 rintro⟨σ,hp,nx⟩ ⟨h0,h2,h3,h5,b0,hnx,h9,b1,h10⟩
 simp only at h0 h2 h3 h5 b0 hnx h9 b1 h10
 subst hnx
 simp only[Bk.enc] at b0
 simp only[zw] at b1
 obtain⟨pn,hpn⟩:∃pn,ZH b.exps n=pn:=⟨_,rfl⟩
 rw[hpn] at h10 hnm hval
 obtain⟨l,hl⟩:∃l,wJ b n=l:=⟨_,rfl⟩
 rw[hl] at hsa hct hval
 unfold expF at hval
 by_cases c1:wY x.name pn=0
 case neg =>
  rw[if_neg c1] at hval
  have c1':(wY x.name pn != 0)=true:=by simpa using c1
  simp[h0,h2,h3,h5,b0,h9,b1,h10,hk0,hnm,c1',hval,f102]
 rw[if_pos c1] at hval
 rcases JF hu x.layer with⟨f1,q,hq,_,f2⟩ | ⟨f1,f2⟩
 case inr =>
  rw[f1,if_neg (by simp)] at hval
  simp only[f2,WE] at hlo
  simp[h0,h2,h3,h5,b0,h9,b1,h10,hk0,hnm,c1,hlo,hval,f102]
 rw[f1,if_pos rfl] at hval
 simp only[f2,Zx] at hlo
 cases c3:qj x.flag
 ·rw[c3,if_neg (by simp)] at hval
  simp[h0,h2,h3,h5,b0,h9,b1,h10,hk0,hnm,c1,hlo,hfl,c3,hval,f102]
 rw[c3,if_pos rfl] at hval
 by_cases c4:x.cond.check=0
 case neg =>
  rw[if_neg c4] at hval
  have c4':(x.cond.check != 0)=true:=by simpa using c4
  simp[h0,h2,h3,h5,b0,h9,b1,h10,hk0,hnm,c1,hlo,hfl,c3,hcc,c4',hval,f102]
 rw[if_pos c4] at hval
 cases s1:Z8 x.salt
 ·have c5:wH l x.salt=3:=by simp[wH,s1]
  rw[c5] at hval
  simp at hval
  simp[h0,h2,h3,h5,b0,h9,b1,h10,hk0,hnm,c1,hlo,hfl,c3,hcc,c4,hsl,s1,hval,f102]
 by_cases s2:x.salt∈l
 ·have c5:wH l x.salt=7:=by simp[wH,s1,s2]
  rw[c5] at hval
  simp at hval
  rw[decide_eq_true s2] at hct
  simp[h0,h2,h3,h5,b0,h9,b1,h10,hk0,hnm,c1,hlo,hfl,c3,hcc,c4,hsl,s1,hsa,hct,hval,f102]
 have c5:wH l x.salt=0:=by simp[wH,s1,s2]
 rw[if_pos c5] at hval
 rw[decide_eq_false s2] at hct
 by_cases c6:wX x.arms 20=0
 case neg =>
  rw[if_neg c6] at hval
  have c6':(wX x.arms 20 != 0)=true:=by simpa using c6
  simp[h0,h2,h3,h5,b0,h9,b1,h10,hk0,hnm,c1,hlo,hfl,c3,hcc,c4,hsl,s1,hsa,hct,hrg,c6',hval,f102]
 rw[if_pos c6] at hval
 simp[h0,h2,h3,h5,b0,h9,b1,h10,hk0,hnm,c1,hlo,hfl,c3,hcc,c4,hsl,s1,hsa,hct,hrg,c6,hph,hval,f102]
set_option maxRecDepth 100000 in
theorem rexp_sound:za prog 102 (zd false [] FEx) :=
 zI (fn:=f102) goodrex ⟨_,func102,by kernel_rfl,rfl,by kernel_rfl⟩ false [] _ fun args r h=>by
  obtain⟨⟨b,n⟩,rfl,⟨⟨h1,h2⟩,h3⟩,rfl⟩:=ze h
  exact⟨by simp[f102],_,rexp_eval b n h1 h2 h3,zG _⟩
def clR1 (x:Xp) (rest:Int) (y:Xp):Bool:=decide (y.layer=x.layer)&&(ky y x rest||ky x y rest)
theorem cls_same {b:Bk} (h1:(qh [] [] b.layers).1=0) (h2:∀y∈b.exps,qQ y.phases=0∧(bsN (b.layers.map Lyr.name) y.layer).2=true) {x y:Xp} (hx:x∈b.exps) (hy:y∈b.exps):cls1 x (w8 b.layers x.layer) y=clR1 x (w8 b.layers x.layer) y:=by
 have hr:0≤w8 b.layers x.layer:=by
  unfold w8
  split
  ·rename_i z hz
   exact (xR h1 z (List.mem_of_getElem? hz)).1
  ·omega
 unfold cls1 clR1
 rw[clash_same hr (jY (h2 x hx).1) (jY (h2 y hy).1) (qR (h2 x hx).1) (qR (h2 y hy).1)]
noncomputable def FBo:List PV→Option PV:=zH (α:=Bk) (fun b=>[.nil,.agg b.enc,boo true]) (fun b=>b.cb≤lim) (fun b=>int (zP b))
theorem FBo_call (b:Bk) (hp:Hp) (nx:Nat) (h:b.cb≤lim):zd false [] FBo [.nil,.agg b.enc,boo true] hp nx=some (int (zP b),hp,nx) :=
 zy (hp1:=hp) (show zj hp [.nil,.agg b.enc,boo true]=some ([.nil,.agg b.enc,boo true],hp) by
  have h0:zK hp .nil=some (.nil,hp):=rfl
  simp only[zj,h0,jw];rfl) (zm (enc:=fun b:Bk=>[PV.nil,.agg b.enc,boo true]) (a:=b) (fun x y e=>by
  simp only[List.cons.injEq,and_true,true_and,PV.agg.injEq] at e
  exact QM e) h) (.inl rfl)
noncomputable abbrev Crbk:Ctx:=zF prog [(100,zd false [] (FLys fun l=>int (qh [] [] l).1)),(101,zd false [] (FBu fun b=>int (qZ b.layers [] (b.layers.map Lyr.salt) b.holds).1)),(102,zd false [] FEx),(69,zd false [] (FBS fun b s=>QN (wQ s b.layers))),(103,zd false [] FClR)]
theorem goodrbk:AM.Good Crbk (fun g=>([]:List Nat).contains g):=zk mixed ⟨rlayers_sound,by simp,rholds_sound,by simp,rexp_sound,by simp,jm,by simp,rclash_sound,by simp,trivial⟩
theorem zci {α:Type} {f g:α→Bool}:∀{l:List α},(∀y∈l,f y=g y)→l.any f=l.any g
 | [],_=>rfl
 | x::l,h=>by
   rw[List.any_cons,List.any_cons,h x (by simp),zci fun y hy=>h y (by simp[hy])]
set_option maxHeartbeats 4000000 in
theorem rbook_eval (b:Bk) (hb:b.cb≤lim):zi Crbk f63 [.nil,.agg b.enc,boo true]=some (int (zP b)):=by
 refine zb rfl ?_
 have hL:=zN jh b.layers
 have hH:=zN Wy b.holds
 have hX:=zN xM b.exps
 have hbc:b.cb=sumB Lyr.cb b.layers+sumB Hld.cb b.holds+sumB Xp.cb b.exps:=rfl
 have hly:=fun hp nx=>FLys_call (fun l=>int (qh [] [] l).1) b.layers hp nx (by omega)
 by_cases a1:(20:Int)<b.layers.length
 ·have hv:zP b=2:=by unfold zP;rw[if_pos (.inl a1)]
  simp[Bk.enc,a1,hv,f63]
 by_cases a2:(10:Int)<b.holds.length
 ·have hv:zP b=2:=by unfold zP;rw[if_pos (.inr (.inl a2))]
  simp[Bk.enc,a1,a2,hv,f63]
 by_cases a3:(100:Int)<b.exps.length
 ·have hv:zP b=2:=by unfold zP;rw[if_pos (.inr (.inr a3))]
  simp[Bk.enc,a1,a2,a3,hv,f63]
 have hv0:zP b=if (qh [] [] b.layers).1=0 then
   (if (qZ b.layers [] (qh [] [] b.layers).2 b.holds).1=0 then
    (if (vA b.layers [] (qZ b.layers [] (qh [] [] b.layers).2 b.holds).2 b.exps).1=0 then (if clsF b.layers b.exps 0 b.exps=true then 13 else 0)
     else (vA b.layers [] (qZ b.layers [] (qh [] [] b.layers).2 b.holds).2 b.exps).1)
    else (qZ b.layers [] (qh [] [] b.layers).2 b.holds).1)
  else (qh [] [] b.layers).1:=by unfold zP;rw[if_neg (by omega)]
 by_cases c1:(qh [] [] b.layers).1=0
 case neg =>
  rw[if_neg c1] at hv0
  have c1':((qh [] [] b.layers).1 != 0)=true:=by simpa using c1
  simp[Bk.enc,a1,a2,a3,hly,c1',hv0,f63]
 obtain⟨_,hu,hsl⟩:=JD c1
 rw[List.nil_append] at hsl
 rw[if_pos c1,hsl] at hv0
 rw[c1] at hly
 have hho:=fun hp nx=>FBu_call (fun b=>int (qZ b.layers [] (b.layers.map Lyr.salt) b.holds).1) b hp nx hb hu
 have hhoE:=hho
 simp only[Bk.enc] at hhoE
 by_cases c2:(qZ b.layers [] (b.layers.map Lyr.salt) b.holds).1=0
 case neg =>
  rw[if_neg c2] at hv0
  have c2':((qZ b.layers [] (b.layers.map Lyr.salt) b.holds).1 != 0)=true:=by simpa using c2
  simp[Bk.enc,a1,a2,a3,hly,hhoE,c2',hv0,f63]
 have hsh:=zdi c2
 rw[if_pos c2] at hv0
 rw[c2] at hhoE
 have hs0:(qZ b.layers [] (b.layers.map Lyr.salt) b.holds).2=wJ b 0:=by rw[hsh];simp[wJ]
 rw[hs0] at hv0
 have hex:=fun k hk hp nx=>FEx_call b k hp nx hb hu hk
 simp only[Bk.enc] at hex
 simp[Bk.enc,a1,a2,a3,hly,hhoE]
 refine zq (fun k σ hp nx=>σ 0=.nil∧σ 2=boo true∧σ 4=.ref 0 0 0∧σ 45=.sl 13 (b.exps.map Xp.enc)∧σ 46=int b.exps.length∧σ 47=int k∧1≤nx∧hp 0=some ⟨35,3,false,[b.enc]⟩∧(vA b.layers [] (wJ b 0) b.exps).1=(vA b.layers (ZH b.exps k) (wJ b k) (b.exps.drop k)).1) b.exps.length
  ⟨by simp,by simp,by simp,by simp,by simp,by simp,by simp,by simp[Bk.enc],by simp[ZH]⟩ ?_
 rintro k σ hp nx hk ⟨h0,h2,h4,h45,h46,h47,hnx,b0,he⟩
 have b0':=b0
 simp only[Bk.enc] at b0'
 by_cases hlt:k<b.exps.length
 ·have hw:IntKind.i64.wrap ((k:Int)+1)=(k:Int)+1:=zc (by omega) (by omega)
  have hexk:=hex k hlt
  rw[exps_step hlt] at he
  by_cases hz:expR b k=0
  ·rw[if_pos hz] at he
   simp[h0,h2,h4,h45,h46,h47,hlt,b0',hexk,hz,hw]
   exact⟨by omega,hnx,rfl,he⟩
  ·rw[if_neg hz] at he
   have hz':(expR b k != 0)=true:=by simpa using hz
   rw[he,if_neg hz] at hv0
   simp[h0,h2,h4,h45,h46,h47,hlt,b0',hexk,hz',hv0,f63]
 obtain rfl:k=b.exps.length:=by omega
 rw[List.drop_length] at he
 simp only[vA] at he
 rw[he,if_pos rfl] at hv0
 have hok:=VE he
 have hcb:∀x∈b.exps,x.okC:=fun x hx=>⟨jY (hok x hx).1,by have:=qt (f:=Xp.cb) hx;omega⟩
 have hlo:=fun s hp nx=>QO (fun b s=>QN (wQ s b.layers)) b s hp nx hb
 simp only[Bk.enc] at hlo
 simp[h0,h2,h4,h45,h46,h47,b0']
 refine zq (fun i σ hp nx=>σ 4=.ref 0 0 0∧σ 60=.sl 13 (b.exps.map Xp.enc)∧σ 61=int b.exps.length∧σ 62=int i∧1≤nx∧hp 0=some ⟨35,3,false,[b.enc]⟩∧clsF b.layers b.exps 0 b.exps=clsF b.layers b.exps i (b.exps.drop i)) b.exps.length
  ⟨by simp[h4],by simp,by simp,by simp,hnx,b0,by simp⟩ ?_
 clear h0 h2 h4 h45 h46 h47 hnx b0 b0' hk hlt σ hp nx
 rintro i σ hp nx hi ⟨h4,h60,h61,h62,hnx,b0,hc⟩
 have b0':=b0
 simp only[Bk.enc] at b0'
 by_cases hlt:i<b.exps.length
 ·obtain⟨x,hx⟩:∃x,b.exps[i]=x:=⟨_,rfl⟩
  have hxm:x∈b.exps:=by rw[←hx];exact List.getElem_mem hlt
  have hw:IntKind.i64.wrap ((i:Int)+1)=(i:Int)+1:=zc (by omega) (by omega)
  rw[List.drop_eq_getElem_cons hlt,hx,clsF,zci (g:=clR1 x (w8 b.layers x.layer)) fun y hy=>cls_same c1 hok hxm (List.mem_of_mem_take hy)] at hc
  obtain⟨f1,q,hq,f3,f2⟩:(bsN (b.layers.map Lyr.name) x.layer).2=true∧∃j,∃hj:j<b.layers.length,(bsN (b.layers.map Lyr.name) x.layer).1=j∧wQ x.layer b.layers=some b.layers[j]:=by
   rcases JF hu x.layer with h | ⟨h,_⟩
   ·exact h
   ·rw[(hok x hxm).2] at h;cases h
  obtain⟨z,hz⟩:∃z,b.layers[q]=z:=⟨_,rfl⟩
  have hzr:=xR c1 z (by rw[←hz];exact List.getElem_mem hq)
  have hrest:w8 b.layers x.layer=z.rest:=by unfold w8;rw[f3,List.getElem?_eq_getElem hq,hz]
  rw[hz] at f2
  rw[hrest] at hc
  have hlo1:=fun hp nx=>hlo x.layer hp nx
  simp only[f2,Zx] at hlo1
  obtain⟨es,hes⟩:∃es,b.exps.take i=es:=⟨_,rfl⟩
  have hesl:es.length=i:=by rw[←hes];simp;omega
  have hesm:∀y∈es,y∈b.exps:=fun y hy=>List.mem_of_mem_take (by rw[hes];exact hy)
  have hsx:=fun hp=>slX hp b.exps i (by omega)
  rw[hes] at hc hsx
  have n0:¬0=nx:=by omega
  obtain⟨P,hP⟩:∃P,nx=P:=⟨_,rfl⟩
  simp[h4,h60,h61,h62,hlt,hx,zw,b0',n0,hsx,hesl]
  rw[hP]
  refine zq (fun k σ hp nx=>σ 4=.ref 0 0 0∧σ 60=.sl 13 (b.exps.map Xp.enc)∧σ 61=int b.exps.length∧σ 62=int i∧σ 12=.ref P 0 0∧σ 70=.sl 13 (es.map Xp.enc)∧σ 71=int i∧σ 72=int k∧P<nx∧hp 0=some ⟨35,3,false,[b.enc]⟩∧hp P=some ⟨66,13,false,[x.enc]⟩∧clsF b.layers b.exps 0 b.exps=((es.drop k).any (clR1 x z.rest)||clsF b.layers b.exps (i+1) (b.exps.drop (i+1)))) i
   ⟨by simp[h4],by simp[h60],by simp[h61],by simp[h62],by simp,by simp,by simp,by simp,(by show P<P+1;omega),by simp[show ¬0=P by omega,b0],by simp[zw],by simpa using hc⟩ ?_
  clear h4 h60 h61 h62 b0 b0' hc n0 hi hP hnx σ hp nx
  rintro k σ hp nx hk ⟨h4,h60,h61,h62,h12,h70,h71,h72,hPn,b0,bP,hc⟩
  have n0:¬0=nx:=by omega
  have nP:¬P=nx:=by omega
  have nP1:¬P=nx+1:=by omega
  have b0':=b0
  simp only[Bk.enc] at b0'
  have bP':=bP
  simp only[zw] at bP'
  by_cases hltk:k<i
  ·have hltk':k<es.length:=by omega
   obtain⟨y,hy⟩:∃y,es[k]=y:=⟨_,rfl⟩
   have hym:y∈b.exps:=hesm y (by rw[←hy];exact List.getElem_mem hltk')
   have hwk:IntKind.i64.wrap ((k:Int)+1)=(k:Int)+1:=zc (by omega) (by omega)
   rw[List.drop_eq_getElem_cons hltk',List.any_cons,hy] at hc
   have hcl1:=fun hp nx=>X6 y x z.rest hp nx ⟨hcb y hym,hcb x hxm,hzr⟩
   have hcl2:=fun hp nx=>X6 x y z.rest hp nx ⟨hcb x hxm,hcb y hym,hzr⟩
   simp only[zw] at hcl1 hcl2
   have hd:clR1 x z.rest y=(decide (y.layer=x.layer)&&(ky y x z.rest||ky x y z.rest)):=rfl
   by_cases hl:y.layer=x.layer
   ·rw[decide_eq_true hl,Bool.true_and] at hd
    have hl':(y.layer==x.layer)=true:=by simpa using hl
    cases k1:ky y x z.rest
    ·rw[k1] at hcl1 hd
     cases k2:ky x y z.rest
     ·rw[k2] at hcl2 hd
      rw[hd] at hc
      simp[h4,h60,h61,h62,h12,h70,h71,h72,hltk,hltk',hy,zw,b0',bP',n0,nP,nP1,hlo1,hl',hcl1,hcl2,hwk]
      exact⟨by omega,by omega,rfl,by simpa using hc⟩
     ·rw[k2] at hcl2 hd
      rw[hd] at hc
      rw[hc] at hv0
      simp at hv0
      simp[h4,h60,h61,h62,h12,h70,h71,h72,hltk,hltk',hy,zw,b0',bP',n0,nP,nP1,hlo1,hl',hcl1,hcl2,hv0,f63]
    ·rw[k1] at hcl1 hd
     rw[hd] at hc
     rw[hc] at hv0
     simp at hv0
     simp[h4,h60,h61,h62,h12,h70,h71,h72,hltk,hltk',hy,zw,b0',bP',n0,nP,nP1,hlo1,hl',hcl1,hv0,f63]
   ·rw[decide_eq_false hl,Bool.false_and] at hd
    have hl':(y.layer==x.layer)=false:=by simpa using hl
    rw[hd,Bool.false_or] at hc
    simp[h4,h60,h61,h62,h12,h70,h71,h72,hltk,hltk',hy,zw,b0',bP',n0,nP,nP1,hlo1,hl',hwk]
    exact⟨by omega,by omega,rfl,hc⟩
  ·obtain rfl:k=i:=by omega
   rw[List.drop_of_length_le (by omega),List.any_nil,Bool.false_or] at hc
   simp[h4,h60,h61,h62,h12,h70,h71,h72,hw]
   exact⟨by omega,by omega,b0,hc⟩
 ·obtain rfl:i=b.exps.length:=by omega
  rw[List.drop_length] at hc
  simp only[clsF] at hc
  rw[hc] at hv0
  simp at hv0
  simp[h4,h60,h61,h62,hv0,f63]
set_option maxRecDepth 100000 in
theorem rbook_sound:za prog 63 (zd false [] FBo) :=
 zI (fn:=f63) goodrbk ⟨_,func63,by kernel_rfl,rfl,by kernel_rfl⟩ false [] _ fun args r h=>by
  obtain⟨b,rfl,hx,rfl⟩:=ze h
  exact⟨by simp[f63],_,rbook_eval b hx,zG _⟩
noncomputable abbrev Crcb:Ctx:=zF prog [(63,zd false [] FBo)]
set_option maxRecDepth 20000 in
theorem rcb_eval (b:Bk) (h:b.cb≤lim):zi Crcb f28 [.agg b.enc]=some (int (zP b)):=by
 refine zb rfl ?_
 have hc:=fun hp nx=>FBo_call b hp nx h
 simp only[Bk.enc] at hc
 simp[Bk.enc,hc,f28]
theorem zan:za prog 28 (zd false [] (FBk fun b=>int (zP b))) :=
 zI (fn:=f28) (zk (q:=[]) mixed ⟨rbook_sound,by simp,trivial⟩:AM.Good Crcb _) ⟨_,func28,by kernel_rfl,rfl,by kernel_rfl⟩ false [] _ fun args r h=>by
  obtain⟨b,rfl,hx,rfl⟩:=ze h
  exact⟨by simp[f28],_,rcb_eval b hx,zG _⟩
noncomputable def chkX (b:Bk) (s:List UInt8) (n:Int):Int:=if zP b=0 then (if (bsN (b.exps.map Xp.name) s).2=true then (if ji n=true then 0 else 1) else 5) else zP b
noncomputable def Wb (b:Bk) (s:List UInt8) (n:Int):Nat:=if chkX b s n=0 then (bsN (b.exps.map Xp.name) s).1 else 0
noncomputable abbrev Ccx:Ctx:=zF prog [(60,zd false [] (FBk fun b=>int (zP b))),(61,zd false [] FOfX),(62,zd false [] (FIb ji))]
theorem goodcx:AM.Good Ccx (fun g=>([]:List Nat).contains g):=zk mixed ⟨XV,by simp,ofX_sound,by simp,xN,by simp,trivial⟩
theorem cx_eval (b:Bk) (s:List UInt8) (n:Int) (h:b.cb≤lim):zi Ccx f25 [.agg b.enc,str s,int n]=some (.tup [int (Wb b s n),int (chkX b s n)]):=by
 refine zb rfl ?_
 have hlen:=zN xM b.exps
 have hbc:b.cb=sumB Lyr.cb b.layers+sumB Hld.cb b.holds+sumB Xp.cb b.exps:=rfl
 have hk:=fun hp nx=>Yu (fun b=>int (zP b)) b hp nx h
 unfold lim at h
 have hof:=fun hp nx=>FOfX_call b.exps s hp nx (by unfold lim;omega)
 simp only[Bk.enc] at hk
 by_cases c1:zP b=0
 case neg =>
  have hv:chkX b s n=zP b:=by unfold chkX;rw[if_neg c1]
  have hi:Wb b s n=0:=by unfold Wb;rw[hv,if_neg c1]
  have c1':(zP b != 0)=true:=by simpa using c1
  simp[Bk.enc,hk,c1',hv,hi,qi,f25]
 cases c2:(bsN (b.exps.map Xp.name) s).2
 ·have hv:chkX b s n=5:=by unfold chkX;rw[if_pos c1,c2,if_neg (by simp)]
  have hi:Wb b s n=0:=by unfold Wb;rw[hv,if_neg (by decide)]
  simp[Bk.enc,hk,c1,hof,c2,hv,hi,qi,f25]
 cases c3:ji n
 ·have hv:chkX b s n=1:=by unfold chkX;rw[if_pos c1,c2,if_pos rfl,c3,if_neg (by simp)]
  have hi:Wb b s n=0:=by unfold Wb;rw[hv,if_neg (by decide)]
  simp[Bk.enc,hk,c1,hof,c2,c3,hv,hi,qi,f25]
 ·have hv:chkX b s n=0:=by unfold chkX;rw[if_pos c1,c2,if_pos rfl,c3,if_pos rfl]
  have hi:Wb b s n=(bsN (b.exps.map Xp.name) s).1:=by unfold Wb;rw[hv,if_pos rfl]
  simp[Bk.enc,hk,c1,hof,c2,c3,hv,hi,qi,f25]
set_option maxRecDepth 100000 in
theorem cx_sound:za prog 25 (zd false [] (FBNI fun b s n=>.tup [int (Wb b s n),int (chkX b s n)])) :=
 zI (fn:=f25) goodcx ⟨_,func25,by kernel_rfl,rfl,by kernel_rfl⟩ false [] _ fun args r h=>by
  obtain⟨⟨b,s,n⟩,rfl,hx,rfl⟩:=ze h
  exact⟨by simp[f25],_,cx_eval b s n hx,zG _⟩
theorem cloneP_eval (es:List (List PV)) (hl:es.length≤lim) (y:PV) (hy:SlOf 2 es y):∃r0,zi C0 f26 [y]=some r0∧Stands r0 (.sl 2 es):=by
 refine qz rfl ?_
 cases hy with
 | nil =>
   simp[binA,j6,f26]
   exact⟨_,by simp,.nilOr (.inl ⟨rfl,rfl⟩)⟩
 | em =>
   simp[binA,j6,f26,zf,qK,AM.view,maxLen,zn,zg]
   exact⟨_,by simp,.refl _⟩
 | @sl c es =>
   unfold lim at hl
   simp at hl
   have m1:es.length+1≤maxLen:=by unfold maxLen;omega
   have m2:(es.length+1)*16≤140737488355328:=by omega
   simp[binA,j6,f26,zf,qK,AM.view,zn,zg,m1,m2]
   exact⟨_,by simp,.refl _⟩
theorem Yf:za prog 26 (zd false [] (FP (fun l=>.sl 2 (l.map encS)) fun l=>l.length≤lim)) :=
 yw (fn:=f26) qA ⟨_,func26,by kernel_rfl,rfl,by kernel_rfl⟩ false [] _ fun args r h w S vs hz=>by
  obtain⟨l,rfl,hx,rfl⟩:=ze h
  obtain⟨u,rfl,hr⟩:=vL hz
  obtain⟨y,hy,hr2⟩:=Vh hr
  obtain⟨r0,h1,h2⟩:=cloneP_eval (l.map encS) (by simpa using hx) y hy
  exact⟨_,r0,.cons hr2 .nil,Nat.le_trans (Nat.le_refl 1) (by decide),h1,h2⟩
noncomputable def hasR (b:Bk) (s:List UInt8) (n:Int):List Sp×Int:=if chkX b s n=0 then (match b.exps[(bsN (b.exps.map Xp.name) s).1]? with
 | some x=>(hasG [] n x.phases,0)
 | none=>([],0)) else ([],chkX b s n)
theorem chkX_ok {b:Bk} {s:List UInt8} {n:Int} (h:chkX b s n=0):zP b=0∧(bsN (b.exps.map Xp.name) s).2=true∧ji n=true:=by
 unfold chkX at h
 split at h
 ·rename_i c1
  split at h
  ·rename_i c2
   split at h
   ·rename_i c3;exact⟨c1,c2,c3⟩
   ·exact absurd h (by simp)
  ·exact absurd h (by simp)
 ·rename_i c;exact absurd h c
noncomputable abbrev Chx:Ctx:=zF prog [(25,zd false [] (FBNI fun b s n=>.tup [int (Wb b s n),int (chkX b s n)])),(27,zd false [] (FXI (fun x n=>.sl 2 ((hasG [] n x.phases).map encS)) fun x _=>x.phases.length≤lim)),(26,zd false [] (FP (fun l=>.sl 2 (l.map encS)) fun l=>l.length≤lim))]
theorem goodhx:AM.Good Chx (fun g=>([]:List Nat).contains g):=zk mixed ⟨cx_sound,by simp,KO,by simp,Yf,by simp,trivial⟩
theorem Has_eval (b:Bk) (s:List UInt8) (n:Int) (hb:b.cb≤lim):∃r0,zi Chx Tryz.f9 [.agg b.enc,str s,int n]=some r0∧Stands r0 (wW (hasR b s n)):=by
 refine qz rfl ?_
 have hbc:b.cb=sumB Lyr.cb b.layers+sumB Hld.cb b.holds+sumB Xp.cb b.exps:=rfl
 have hcl:=fun hp nx=>jx (fun b s n=>.tup [int (Wb b s n),int (chkX b s n)]) b s n hp nx hb
 simp only[Bk.enc] at hcl
 by_cases c1:chkX b s n=0
 case neg =>
  have hv:hasR b s n=([],chkX b s n):=by unfold hasR;rw[if_neg c1]
  have c1':(chkX b s n != 0)=true:=by simpa using c1
  rw[hv]
  simp[Bk.enc,hcl,c1',Tryz.f9]
  exact⟨_,by simp,yf _⟩
 obtain⟨_,hfl,_⟩:=chkX_ok c1
 have hci:Wb b s n=(bsN (b.exps.map Xp.name) s).1:=by unfold Wb;rw[if_pos c1]
 obtain⟨q,hq⟩:∃q,(bsN (b.exps.map Xp.name) s).1=q:=⟨_,rfl⟩
 have hql:q<b.exps.length:=by have:=zbK hfl;rw[hq] at this;simpa using this
 obtain⟨x,hx⟩:∃x,b.exps[q]=x:=⟨_,rfl⟩
 have hxm:x∈b.exps:=by rw[←hx];exact List.getElem_mem hql
 have hmx:=qt (f:=Xp.cb) hxm
 have hxc:x.cb=x.name.length+x.layer.length+x.flag.length+x.cond.cb+x.salt.length+x.arms.length+sumB Phs.cb x.phases:=rfl
 have hxpl:=zN jC x.phases
 have hv:hasR b s n=(hasG [] n x.phases,0):=by unfold hasR;rw[if_pos c1,hq,List.getElem?_eq_getElem hql,hx]
 have hcl2:=hcl
 rw[c1,hci,hq] at hcl2
 have hhc:=fun hp nx=>Yv (fun x n=>.sl 2 ((hasG [] n x.phases).map encS)) (fun x _=>x.phases.length≤lim) x n hp nx (by unfold lim at hb ⊢;omega)
 have hlen:(hasG [] n x.phases).length≤lim:=by
  have:(hasG [] n x.phases).length≤sumB Phs.cb x.phases:=by
   have key:∀(l:List Phs) (acc:List Sp),(hasG acc n l).length≤acc.length+sumB Phs.cb l:=by
    intro l
    induction l with
    | nil=>intro acc;simp[hasG]
    | cons p l ih =>
      intro acc
      have h1:=ih (if p.at_≤n then p.spans else acc)
      have hpc:p.cb=1+p.spans.length:=rfl
      simp only[hasG,sumB,List.map_cons,List.sum_cons] at *
      split at h1<;>rename_i c<;>simp only[c,if_true,if_false]<;>omega
   simpa using key x.phases []
  unfold lim at hb ⊢
  omega
 have hcc:=fun hp nx=>Wv (fun l=>.sl 2 (l.map encS)) (fun l=>l.length≤lim) (hasG [] n x.phases) hp nx hlen
 simp only[zw] at hhc
 rw[hv]
 simp[Bk.enc,hcl2,hql,hx,zw,hhc,hcc,Tryz.f9]
 exact⟨wW (hasG [] n x.phases,0),by simp[wW],.refl _⟩
set_option maxRecDepth 100000 in
theorem Has_sound:za prog 9 (zd false [] (FBNI fun b s n=>wW (hasR b s n))) :=
 yw (fn:=Tryz.f9) goodhx ⟨_,func9,by kernel_rfl,rfl,by kernel_rfl⟩ false [] _ fun args r h w S vs hz=>by
  obtain⟨⟨b,s,n⟩,rfl,hx,rfl⟩:=ze h
  obtain⟨r0,h1,h2⟩:=Has_eval b s n hx
  exact⟨_,r0,hz,by simp[Tryz.f9],h1,h2⟩
end Go.Proofs.YtdkfdoeijcfbhaaGreatDoor
