/-
The range of a comparison.
Words: operators, slices.DeleteFunc at texts.
-/
import Derived.Test.YtanbabpnlgfcpaaGreatDoorG14
set_option maxRecDepth 8000
namespace Go.Proofs.YtanbabpnlgfcpaaGreatDoor
open Go.Proofs.Tryz
open Go.RowKit Go.AM
structure Cpn where
 sign:List UInt8
 p:Part
 tu:Part
def Cpn.enc (c:Cpn):List PV:=[str c.sign,int c.p.n0,int c.p.n1,int c.p.n2,int c.p.has,.sl 1 (encT c.p.pre),int c.tu.n0,int c.tu.n1,int c.tu.n2,int c.tu.has,.sl 1 (encT c.tu.pre)]
abbrev mpat:List (Option Nat):=[none,none,none,none,none,some 1,none,none,none,none,some 1]
theorem cpenc_inj {a b:Cpn} (h:a.enc=b.enc):a=b:=by
 obtain⟨a0,⟨a1,a2,a3,a4,a5⟩,⟨a6,a7,a8,a9,a10⟩⟩:=a
 obtain⟨b0,⟨b1,b2,b3,b4,b5⟩,⟨b6,b7,b8,b9,b10⟩⟩:=b
 simp only[Cpn.enc,List.cons.injEq,and_true] at h
 obtain⟨h0,h1,h2,h3,h4,h5,h6,h7,h8,h9,h10⟩:=h
 injection h5 with _ h5
 injection h10 with _ h10
 rw[zM h0,zD h1,zD h2,zD h3,zD h4,qT h5,zD h6,zD h7,zD h8,zD h9,qT h10]
def wP:List UInt8:=[97,108,108]
def Cpn.ok (c:Cpn):Prop:=c.sign.length≤lim∧(c.sign=wP∨(c.p.ok∧(c.sign=[45]→c.tu.ok)))
def kB (p:Part):Nat:=if 1<p.has∧p.n0=0 then (if 2<p.has∧p.n1=0 then 2 else 1) else 0
noncomputable def strS (c:Cpn):List Str×Bool :=
 if c.sign=wP then ([yj leastC],true)
 else if c.sign=[62,61] then ([yj (lowC c.p)],true)
 else if c.sign=[60] then (btw leastC (lowC c.p),true)
 else if c.sign=[62] then ([yj (xU c.p)],highB c.p)
 else if c.sign=[60,61] then (btw leastC (xU c.p),highB c.p)
 else if c.sign=[45] then (btw (lowC c.p) (xU c.tu),highB c.tu)
 else if c.sign=[126] then (btw (lowC c.p) (yc c.p (min (c.p.has - 1) 1).toNat),xr c.p (min (c.p.has - 1) 1).toNat)
 else if c.sign=[94] then (btw (lowC c.p) (yc c.p (kB c.p)),xr c.p (kB c.p))
 else (btw (lowC c.p) (xU c.p),highB c.p)
noncomputable def strP (c:Cpn):PV:=.tup [.sl 11 (encR (strS c).1),boo (strS c).2]
def lowP (p:Part):PV:=.agg (lowC p).enc
def leastP:PV:=.agg leastC.enc
noncomputable abbrev Cstt:Ctx:=zA prog [(181,zR [.g ppat] (FPt lowP)),(183,zR [.g ppat] (FPa highP)),(184,zR [.g ppat] (FPi jq)),(180,zR [] (FUnit leastP)),(145,zR [] (FUnit everyP)),(182,zR [.g cpat,.g cpat] (FCC btwP))]
theorem goodstt:AM.Good Cstt (fun g=>[180,182].contains g):=zk mixed ⟨low_sound,by simp,high_sound,by simp,raised_sound,by simp,least_sound,fun _=>wU _ _,kA,by simp,between_sound,fun _=>wU _ _,trivial⟩
theorem small0:leastC.v.small:=⟨by decide,fun p hp=>by simp[leastC] at hp;subst hp;decide⟩
theorem raised_small (p:Part) (i:Nat):(yc p i).v.small:=by
 have h:(yc p i).v.pre=[[48]]:=by unfold yc;split<;>rfl
 exact⟨by rw[h];decide,fun q hq=>by rw[h] at hq;simp at hq;subst hq;decide⟩
theorem xV {p:Part} (h:yR p.pre):(lowC p).v.small:=h
theorem high_small {p:Part} (h:yR p.pre):(xU p).v.small:=by
 unfold xU
 split
 ·exact raised_small _ _
 ·exact h
theorem cutfix (c:Cut):(Sh.g cpat).fix (.agg c.enc)=.agg c.enc:=by simp[Cut.enc]
theorem cutfrz (c:Cut) (hp:Hp):zF hp (.agg c.enc)=some (.agg c.enc,hp):=by simp[Cut.enc]
theorem bt_call (x y:Cut) (hp:Hp) (nx:Nat) (h1:x.v.small) (h2:y.v.small):zR [.g cpat,.g cpat] (FCC btwP) [.agg x.enc,.agg y.enc] hp nx=some (btwP x y,hp,nx) :=
 w9 (show zh hp [.agg x.enc,.agg y.enc]=some ([.agg x.enc,.agg y.enc],hp) by simp only[zh,cutfrz]) (by
  show FCC _ [(Sh.g cpat).fix (.agg x.enc),(Sh.g cpat).fix (.agg y.enc)]=_
  rw[cutfix,cutfix]
  exact zn (enc:=fun a:Cut×Cut=>[PV.agg a.1.enc,.agg a.2.enc]) (a:=(x,y)) cc_inj ⟨h1,h2⟩) (.inr (by simp[Cut.enc]))
theorem stretches_eval (c:Cpn) (hc:c.ok):∃r0,zi Cstt f146 [.agg c.enc]=some r0∧Stands r0 (strP c):=by
 obtain⟨sign,p,tu⟩:=c
 obtain⟨_,hc⟩:=hc
 simp only at hc
 refine wC (sh:=.s 11 spat) rfl ?_
 have hlo:=fun hp nx=>FPt_call lowP p hp nx
 have hle:∀(hp:Hp) (nx:Nat),zR [] (FUnit leastP) [] hp nx=some (.agg [int leastC.v.a,int leastC.v.b,int leastC.v.c,.sl 1 (encT leastC.v.pre),boo leastC.after],hp,nx):=fun hp nx=>vH _ hp nx
 have hev:∀(hp:Hp) (nx:Nat),zR [] (FUnit everyP) [] hp nx=some (.sl 11 (encR [yj leastC]),hp,nx):=fun hp nx=>vH _ hp nx
 simp only[lowP,Part.enc,Cut.enc] at hlo
 by_cases s0:sign=wP
 ·subst s0
  simp[Cpn.enc,hlo,hev,wP,z7,strP,strS,encR,yj,Str.enc,Cut.enc,cut0,f146]
 obtain⟨hp,ht⟩:=hc.resolve_left s0
 have hsm:yR p.pre:=hp.2.2.2.2
 have e0:(sign==[97,108,108])=false:=by simpa[wP] using s0
 by_cases s1:sign=[62,61]
 ·subst s1
  simp[Cpn.enc,hlo,e0,zK,z8,zl,zx,zm,wP,z7,strP,strS,encR,yj,Str.enc,Cut.enc,cut0,f146]
 have e1:(sign==[62,61])=false:=by simpa using s1
 have hb1:=fun hp nx=>bt_call leastC (lowC p) hp nx small0 (xV hsm)
 have hb2:=fun hp nx=>bt_call leastC (xU p) hp nx small0 (high_small hsm)
 have hhi:=fun hp' nx=>FPa_call highP p (.agg p.enc) hp' nx hp (by simp[Part.enc]) (enc_frz p hp') (by simp[Part.enc])
 simp only[btwP,highP,Part.enc,Cut.enc] at hb1 hb2 hhi
 by_cases s2:sign=[60]
 ·subst s2
  simp[Cpn.enc,hlo,hle,hb1,e0,e1,wP,z7,strP,strS,encR,Str.enc,Cut.enc,f146]
 have e2:(sign==[60])=false:=by simpa using s2
 by_cases s3:sign=[62]
 ·subst s3
  simp[Cpn.enc,hlo,hhi,e0,e1,e2,zK,z8,zl,zx,zm,wP,z7,strP,strS,encR,yj,Str.enc,Cut.enc,cut0,f146]
 have e3:(sign==[62])=false:=by simpa using s3
 by_cases s4:sign=[60,61]
 ·subst s4
  simp[Cpn.enc,hlo,hhi,hle,hb2,e0,e1,e2,e3,zK,z8,zl,zx,zm,wP,z7,strP,strS,encR,yj,Str.enc,Cut.enc,cut0,f146]
 have e4:(sign==[60,61])=false:=by simpa using s4
 by_cases s5:sign=[45]
 ·subst s5
  have hto:=ht rfl
  have hb3:=fun hp nx=>bt_call (lowC p) (xU tu) hp nx (xV hsm) (high_small hto.2.2.2.2)
  have hht:=fun hp' nx=>FPa_call highP tu (.agg tu.enc) hp' nx hto (by simp[Part.enc]) (enc_frz tu hp') (by simp[Part.enc])
  simp only[btwP,highP,Part.enc,Cut.enc] at hb3 hht
  simp[Cpn.enc,hlo,hht,hb3,e0,e1,e2,e3,e4,zK,z8,zl,zx,zm,wP,z7,strP,strS,encR,yj,Str.enc,Cut.enc,cut0,f146]
 have e5:(sign==[45])=false:=by simpa using s5
 have hra:=fun i (hi:i<3) hp' nx=>FPi_call jq p i (.agg p.enc) hp' nx hp hi (by simp[Part.enc]) (enc_frz p hp') (by simp[Part.enc])
 have hb4:=fun i hp nx=>bt_call (lowC p) (yc p i) hp nx (xV hsm) (raised_small p i)
 simp only[btwP,jq,Part.enc,Cut.enc] at hra hb4
 have hw:IntKind.i64.wrap (p.has - 1)=p.has - 1:=zd (by have:=hp.2.2.2.1;omega) (by have:=hp.2.2.2.1;omega)
 by_cases s6:sign=[126]
 ·subst s6
  have hm:(if 1<p.has - 1 then 1 else p.has - 1)=(((min (p.has - 1) 1).toNat:Nat):Int):=by have:=hp.2.2.2.1;split<;>omega
  have hra1:=hra (min (p.has - 1) 1).toNat (by omega)
  rw[←hm] at hra1
  simp[Cpn.enc,hlo,hra1,hb4,hw,e0,e1,e2,e3,e4,e5,zK,z8,zl,zx,zm,wP,z7,strP,strS,encR,yj,Str.enc,Cut.enc,cut0,f146]
 have e6:(sign==[126])=false:=by simpa using s6
 by_cases s7:sign=[94]
 ·subst s7
  have hs3:(2:Int)<p.has→p.has=3:=by have:=hp.2.2.2.1;omega
  by_cases hA:1<p.has
  ·have hA':(0:Int)<p.has - 1:=by omega
   by_cases hn0:p.n0=0
   ·have hn0t:(p.n0==0)=true:=by simpa using hn0
    by_cases hB:2<p.has
    ·have hB':(1:Int)<p.has - 1:=by omega
     have hC':¬(2:Int)<p.has - 1:=by have:=hp.2.2.2.1;omega
     by_cases hn1:p.n1=0
     ·have hn1t:(p.n1==0)=true:=by simpa using hn1
      have hci:kB p=2:=by simp[kB,hA,hA',hB,hB',hC',hn0,hn1]
      have hra1:=hra 2 (by omega)
      rw[show ((2:Nat):Int)=2 from rfl] at hra1
      simp[Cpn.enc,hlo,hw,e0,e1,e2,e3,e4,e5,e6,hA,hA',hB,hB',hC',hn0t,hn1t,wP]
      rw[zq]
      simp[Cpn.enc,hlo,hw,e0,e1,e2,e3,e4,e5,e6,hA,hA',hB,hB',hC',hn0t,hn1t]
      rw[zq]
      simp[Cpn.enc,hlo,hw,e0,e1,e2,e3,e4,e5,e6,hA,hA',hB,hB',hC',hn0t,hn1t]
      rw[zq]
      simp[Cpn.enc,hlo,hw,e0,e1,e2,e3,e4,e5,e6,hra1,hb4,hci,hA,hA',hB,hB',hC',hn0t,hn1t,zK,z8,zl,zx,zm,wP,z7,strP,strS,encR,yj,Str.enc,Cut.enc,cut0,f146]
     ·have hn1':(p.n1==0)=false:=by simpa using hn1
      have hci:kB p=1:=by simp[kB,hA,hA',hB,hB',hn0,hn1,hn1']
      have hra1:=hra 1 (by omega)
      rw[show ((1:Nat):Int)=1 from rfl] at hra1
      simp[Cpn.enc,hlo,hw,e0,e1,e2,e3,e4,e5,e6,hA,hA',hB,hB',hn0t,hn1',wP]
      rw[zq]
      simp[Cpn.enc,hlo,hw,e0,e1,e2,e3,e4,e5,e6,hA,hA',hB,hB',hn0t,hn1']
      rw[zq]
      simp[Cpn.enc,hlo,hw,e0,e1,e2,e3,e4,e5,e6,hra1,hb4,hci,hA,hA',hB,hB',hn0t,hn1',zK,z8,zl,zx,zm,wP,z7,strP,strS,encR,yj,Str.enc,Cut.enc,cut0,f146]
    ·have hB':¬(1:Int)<p.has - 1:=by omega
     have hci:kB p=1:=by simp[kB,hA,hA',hB,hB',hn0]
     have hra1:=hra 1 (by omega)
     rw[show ((1:Nat):Int)=1 from rfl] at hra1
     simp[Cpn.enc,hlo,hw,e0,e1,e2,e3,e4,e5,e6,hA,hA',hB,hB',hn0t,wP]
     rw[zq]
     simp[Cpn.enc,hlo,hw,e0,e1,e2,e3,e4,e5,e6,hA,hA',hB,hB',hn0t]
     rw[zq]
     simp[Cpn.enc,hlo,hw,e0,e1,e2,e3,e4,e5,e6,hra1,hb4,hci,hA,hA',hB,hB',hn0t,zK,z8,zl,zx,zm,wP,z7,strP,strS,encR,yj,Str.enc,Cut.enc,cut0,f146]
   ·have hn0':(p.n0==0)=false:=by simpa using hn0
    have hci:kB p=0:=by simp[kB,hA,hA',hn0,hn0']
    have hra1:=hra 0 (by omega)
    rw[show ((0:Nat):Int)=0 from rfl] at hra1
    simp[Cpn.enc,hlo,hw,e0,e1,e2,e3,e4,e5,e6,hA,hA',hn0',wP]
    rw[zq]
    simp[Cpn.enc,hlo,hw,e0,e1,e2,e3,e4,e5,e6,hra1,hb4,hci,hA,hA',hn0',zK,z8,zl,zx,zm,wP,z7,strP,strS,encR,yj,Str.enc,Cut.enc,cut0,f146]
  ·have hA':¬(0:Int)<p.has - 1:=by omega
   have hci:kB p=0:=by simp[kB,hA,hA']
   have hra1:=hra 0 (by omega)
   rw[show ((0:Nat):Int)=0 from rfl] at hra1
   simp[Cpn.enc,hlo,hw,e0,e1,e2,e3,e4,e5,e6,hA,hA',wP]
   rw[zq]
   simp[Cpn.enc,hlo,hw,e0,e1,e2,e3,e4,e5,e6,hra1,hb4,hci,hA,hA',zK,z8,zl,zx,zm,wP,z7,strP,strS,encR,yj,Str.enc,Cut.enc,cut0,f146]
 have e7:(sign==[94])=false:=by simpa using s7
 have hb5:=fun hp nx=>bt_call (lowC p) (xU p) hp nx (xV hsm) (high_small hsm)
 simp only[btwP,Cut.enc] at hb5
 simp only[wP] at s0
 have e1':=s1
 simp[Cpn.enc,hlo,hhi,hb5,e0,e1,e2,e3,e4,e5,e6,e7,s0,s1,s2,s3,s4,s5,s6,s7,zK,z8,zl,zx,zm,wP,z7,strP,strS,encR,yj,Str.enc,Cut.enc,cut0,f146]
noncomputable def FCm (f:Cpn→PV):List PV→Option PV:=zG (α:=Cpn) (fun c=>[.agg c.enc]) Cpn.ok f
theorem stretches_sound:za prog 146 (zR [.g mpat] (FCm strP)) :=
 qB (fn:=f146) goodstt ⟨_,func146,by kernel_rfl,rfl,by kernel_rfl⟩ _ _ fun args r h=>by
  obtain⟨c,rfl,h1,rfl⟩:=zf h
  obtain⟨r0,h3,h4⟩:=stretches_eval c h1
  exact⟨by simp[f146],r0,h3,h4⟩
def sgs:List (List UInt8):=[[62,61],[60,61],[62],[60],[61],[126],[94]]
def opW:List (List UInt8)→List UInt8→List UInt8×List UInt8
 | [],s=>([],s)
 | g::l,s=>if g.isPrefixOf s=true then (g,s.drop g.length) else opW l s
def opP (s:List UInt8):PV:=.tup [str (opW sgs s).1,str (opW sgs s).2]
noncomputable abbrev Cop:Ctx:=zA prog [(205,zc false [] (FTT cpP fun _ _=>True))]
theorem goodop:AM.Good Cop (fun g=>([]:List Nat).contains g):=zk mixed ⟨cutPrefix_sound,by simp,trivial⟩
theorem operator_eval (s:List UInt8) (h:s.length≤lim):zi Cop f178 [str s]=some (opP s):=by
 refine zb rfl ?_
 have hb:∀hp nx,zl prog hp nx 102 7 [(0,str [62,61]),(1,str [60,61]),(2,str [62]),(3,str [60]),(4,str [61]),(5,str [126]),(6,str [94])]=some (.own nx 0 7,upd hp nx (some ⟨9,1,true,encT sgs⟩),nx+1):=fun hp nx=>by
  simp[zl,zx,zm,sgs,str]
 simp[str] at hb
 simp[hb]
 refine zC (fun k σ hp nx=>σ 0=str s∧σ 8=.own 0 0 7∧σ 9=int 7∧σ 10=int k∧hp 0=some ⟨9,1,true,encT sgs⟩∧opW sgs s=opW (sgs.drop k) s) 7 ⟨by simp,by simp,by simp,by simp,by simp,by simp⟩ ?_
 rintro k σ hp nx hk ⟨h0,h8,h9,h10,b0,he⟩
 by_cases hlt:k<7
 ·have hl:k<sgs.length:=hlt
  have hgl:sgs[k].length≤lim:=by
   have:∀q∈sgs,q.length≤lim:=by decide
   exact this _ (List.getElem_mem hl)
  have hc:=fun hp nx=>cp_call s sgs[k] hp nx h hgl
  have hw:IntKind.i64.wrap ((k:Int)+1)=(k:Int)+1:=zd (by omega) (by omega)
  have hk7:(k:Int)<7:=by omega
  rw[List.drop_eq_getElem_cons hl] at he
  simp only[opW] at he
  by_cases hp:(sgs[k]).isPrefixOf s=true
  ·rw[if_pos hp] at he
   simp[h0,h8,h9,h10,b0,hk7,hlt,hl,hc,hp,hw,opP,he,zU,f178]
  ·rw[if_neg hp] at he
   have hp':(sgs[k]).isPrefixOf s=false:=Bool.eq_false_iff.2 hp
   simp[h0,h8,h9,h10,b0,hk7,hlt,hl,hc,hp',hw]
   exact⟨by omega,he⟩
 ·obtain rfl:k=7:=by omega
  rw[show sgs.drop 7=[] from rfl] at he
  simp only[opW] at he
  simp[h0,h8,h9,h10,opP,he,zU, f178]
theorem operator_sound:za prog 178 (zc false [] (FSP opP)) :=
 zJ (fn:=f178) goodop ⟨_,func178,by kernel_rfl,rfl,by kernel_rfl⟩ false [] _ fun args r h=>by
  obtain⟨l,rfl,hp,rfl⟩:=zf h
  exact⟨by simp[f178],_,operator_eval l hp,zI _⟩
def emp (l:List UInt8):Bool:=l.isEmpty
theorem alt1_sound:za prog 176 (zc false [] (FS emp)) :=
 zJ (fn:=f176) wA ⟨_,func176,by kernel_rfl,rfl,by kernel_rfl⟩ false [] _ fun args r h=>by
  obtain⟨l,rfl,hp,rfl⟩:=zf h
  exact⟨by simp[f176],_,zb rfl (by simp[zU,emp,f176]),zI _⟩
def idxE:Nat→List (List UInt8)→Int
 | _,[]=>-1
 | k,x::l=>if x=[] then k else idxE (k+1) l
def fnE:PV:=.fn (.func 176) [] []
noncomputable def FIx:List PV→Option PV:=zG (α:=List (List UInt8)) (fun l=>[.sl 1 (encT l),fnE]) yR (fun l=>int (idxE 0 l))
noncomputable abbrev Cixf:Ctx:=zA prog [(176,zc false [] (FS emp))]
theorem goodixf:AM.Good Cixf (fun g=>([]:List Nat).contains g):=zk mixed ⟨alt1_sound,by simp,trivial⟩
theorem indexFuncE_eval (l:List (List UInt8)) (h:yR l):zi Cixf f103 [.sl 1 (encT l),fnE]=some (int (idxE 0 l)):=by
 refine zb rfl ?_
 obtain⟨hl,hps⟩:=h
 unfold lim at hl
 simp[fnE]
 refine zC (fun k σ hp nx=>σ 0=.sl 1 (encT l)∧σ 1=fnE∧σ 7=int l.length∧σ 8=int k∧idxE 0 l=idxE k (l.drop k)) l.length ⟨by simp,by simp[fnE],by simp,by simp,by simp⟩ ?_
 rintro k σ hp nx hk ⟨h0,h1,h7,h8,he⟩
 by_cases hlt:k<l.length
 ·have hw:IntKind.i64.wrap ((k:Int)+1)=(k:Int)+1:=zd (by omega) (by omega)
  have hc:=fun hp' nx=>yM emp l[k] hp' nx (hps _ (List.getElem_mem hlt))
  rw[List.drop_eq_getElem_cons hlt] at he
  simp only[idxE] at he
  by_cases hz:l[k]=[]
  ·rw[if_pos hz] at he
   have hz':emp l[k]=true:=by simpa[emp] using hz
   simp[h0,h1,h7,h8,fnE,hlt,hc,hz',hw,he,zU,f103]
  ·rw[if_neg hz] at he
   have hz':emp l[k]=false:=by simpa[emp] using hz
   simp[h0,h1,h7,h8,fnE,hlt,hc,hz',hw]
   exact⟨hlt,he⟩
 ·obtain rfl:k=l.length:=by omega
  rw[List.drop_length] at he
  simp only[idxE] at he
  simp[h0,h1,h7,h8,he,zU,f103]
theorem fixe_inj:∀a b:List (List UInt8),[PV.sl 1 (encT a),fnE]=[PV.sl 1 (encT b),fnE]→a=b:=fun a b e=>by
 simp only[List.cons.injEq,and_true] at e
 injection e with _ e
 exact qT e
theorem indexFuncE_sound:za prog 103 (zc false [] FIx) :=
 zJ (fn:=f103) goodixf ⟨_,func103,by kernel_rfl,rfl,by kernel_rfl⟩ false [] _ fun args r h=>by
  obtain⟨l,rfl,hp,rfl⟩:=zf h
  exact⟨by simp[f103],_,indexFuncE_eval l hp,zI _⟩
theorem ixe_call (l:List (List UInt8)) (hp:Hp) (nx id:Nat) (h:yR l) (hh:hp id=some (blkT l)):zc false [] FIx [.own id 0 l.length,fnE] hp nx=some (int (idxE 0 l),hp,nx):=by
 have ht:(encT l).take l.length=encT l:=List.take_of_length_le (by simp)
 refine zt (show zh hp [.own id 0 l.length,fnE]=some ([.sl 1 (encT l),fnE],upd hp id none) by
  have:hp id=some ⟨9,1,true,encT l⟩:=hh
  simp[fnE,this,ht]) (zn (enc:=fun l:List (List UInt8)=>[PV.sl 1 (encT l),fnE]) (a:=l) fixe_inj h) (.inl rfl)
def qa (l:List (List UInt8)):List (List UInt8):=l.filter fun x=>!emp x
theorem idxE_spec:∀(l:List (List UInt8)) (k:Nat),(idxE k l=-1∧qa l=l)∨∃i,∃h:i<l.length,idxE k l=((k+i:Nat):Int)∧emp l[i]=true∧qa (l.take i)=l.take i
 | [],k=>.inl ⟨rfl,rfl⟩
 | x::l,k=>by
   by_cases hx:x=[]
   ·exact .inr ⟨0,by simp,by simp[idxE,hx],by simp[emp,hx],by simp[qa]⟩
   ·have hx':emp x=false:=by simpa[emp] using hx
    rcases idxE_spec l (k+1) with⟨h1,h2⟩ | ⟨i,h,h1,h2,h3⟩
    ·exact .inl ⟨by simp[idxE,hx,h1],by simp only[qa,List.filter_cons,hx'];simpa[qa] using h2⟩
    ·refine .inr ⟨i+1,by simpa using h,by simp only[idxE,if_neg hx,h1];congr 1;omega,by simpa using h2,?_⟩
     simp only[List.take_succ_cons,qa,List.filter_cons,hx']
     simpa[qa] using h3
theorem vJ {l:List (List UInt8)} {j:Nat} (h:j<l.length):qa (l.take (j+1))=if emp l[j]=true then qa (l.take j) else qa (l.take j)++[l[j]]:=by
 rw[List.take_succ_eq_append_getElem h]
 simp only[qa,List.filter_append,List.filter_cons,List.filter_nil]
 cases emp l[j]<;>simp
theorem encT_append (a b:List (List UInt8)):encT (a++b)=encT a++encT b:=by simp[encT]
theorem row_split {l:List (List UInt8)} {i:Nat} (h:i<l.length):encT l=encT (l.take i)++[str l[i]]::encT (l.drop (i+1)):=by
 rw[←xO,←encT_append,←List.drop_eq_getElem_cons h,List.take_append_drop]
noncomputable abbrev Cdf:Ctx:=zA prog [(176,zc false [] (FS emp)),(103,zc false [] FIx)]
theorem gooddf:AM.Good Cdf (fun g=>([]:List Nat).contains g):=zk mixed ⟨alt1_sound,by simp,indexFuncE_sound,by simp,trivial⟩
set_option maxRecDepth 100000 in
theorem deleteFunc_sound:za prog 175 (hRun Cdf f175):=zs (code:=_) gooddf ⟨func175,by kernel_rfl,rfl,by kernel_rfl⟩
def DelQ (l:List (List UInt8)) (id:Nat) (hp:Hp) (nx:Nat) (x:PV) (hp':Hp) (nx':Nat):Prop:=x=.own id 0 (qa l).length∧nx'=nx∧(∃pad,hp' id=some ⟨9,1,true,encT (qa l)++pad⟩)∧∀j,j≠id→hp' j=hp j
theorem delete_run (l:List (List UInt8)) (hp0:Hp) (nx0 id:Nat) (h:yR l) (hh:hp0 id=some (blkT l)):∃x hp' nx',hRun Cdf f175 [.own id 0 l.length,fnE] hp0 nx0=some (x,hp',nx')∧DelQ l id hp0 nx0 x hp' nx':=by
 unfold hRun
 rw[if_pos (by simp[f175])]
 refine zu rfl ?_
 have hix:=ixe_call l hp0 nx0 id h hh
 obtain⟨hl,hps⟩:=h
 unfold lim at hl
 simp only[fnE] at hix
 have hb0:hp0 id=some ⟨9,1,true,encT l⟩:=hh
 rcases idxE_spec l 0 with⟨e1,e2⟩ | ⟨i,hi,e1,e2,e3⟩
 ·rw[e1] at hix
  simp[fnE,hix,DelQ,e2,f175]
  exact⟨[],by simpa using hb0⟩
 ·rw[e1] at hix
  have hi1:((i:Int)==-1)=false:=by simp
  have hwi:IntKind.i64.wrap ((i:Int)+1)=(i:Int)+1:=zd (by omega) (by omega)
  simp[fnE,hix,hi1,hwi]
  refine zC (fun k σ hp nx=>σ 0=.own id 0 l.length∧σ 1=fnE∧σ 5=int (qa (l.take (i+1+k))).length∧σ 6=int ((i:Int)+1+k)∧nx=nx0∧(∀j,j≠id→hp j=hp0 j) ∧
    ∃mid,hp id=some ⟨9,1,true,encT (qa (l.take (i+1+k)))++mid++encT (l.drop (i+1+k))⟩∧(qa (l.take (i+1+k))).length+mid.length=i+1+k∧0<mid.length∧∀c∈mid,c.length=1) (l.length - (i+1))
   ⟨by simp,by simp[fnE],by simp[vJ hi,e2,e3];omega,by simp,rfl,fun _ _=>rfl,[[str l[i]]],by simp[vJ hi,e2,e3,hb0];exact row_split hi,by simp[vJ hi,e2,e3];omega,by simp,by simp⟩ ?_
  rintro k σ hp nx hk ⟨h0,h1,h5,h6,rfl,hfr,mid,hb,hml,hm0,hm1⟩
  obtain⟨j,hj⟩:∃j,i+1+k=j:=⟨_,rfl⟩
  have h6':σ 6=int j:=by rw[h6];congr 2;omega
  rw[hj] at h5 hb hml
  by_cases hlt:j<l.length
  ·have hc:=fun hp' nx=>yM emp l[j] hp' nx (hps _ (List.getElem_mem hlt))
   have hwj:IntKind.i64.wrap ((j:Int)+1)=(j:Int)+1:=zd (by omega) (by omega)
   have hww:IntKind.i64.wrap (((qa (l.take j)).length:Int)+1)=((qa (l.take j)).length:Int)+1:=zd (by omega) (by omega)
   have hget:(encT (qa (l.take j))++mid++encT (l.drop j))[j]?=some [str l[j]]:=by
    rw[List.getElem?_append_right (by simp;omega),List.drop_eq_getElem_cons hlt,xO]
    rw[show j - (encT (qa (l.take j))++mid).length=0 by simp;omega]
    rfl
   have hlen:(encT (qa (l.take j))++mid++encT (l.drop j)).length=l.length:=by simp;omega
   obtain⟨rows,hrows⟩:∃rows,encT (qa (l.take j))++mid++encT (l.drop j)=rows:=⟨_,rfl⟩
   rw[hrows] at hb hget hlen
   have hget2:∀h:j<rows.length,rows[j]=[str l[j]]:=fun h=>(List.getElem?_eq_some_iff.1 hget).2
   have hwt:=vJ hlt
   have hjj:i+1+(k+1)=j+1:=by omega
   have hwi:(qa (l.take j)).length<l.length:=by omega
   cases he:emp l[j]
   ·rw[he,if_neg (by simp)] at hwt
    obtain⟨y,mid',rfl,hmid'⟩:∃y mid',mid=[y]::mid'∧∀c∈mid',c.length=1:=by
     cases mid with
     | nil=>simp at hm0
     | cons x mid' =>
       have:=hm1 x (by simp)
       match x,this with
       | [y],_=>exact⟨y,mid',rfl,fun c hc=>hm1 c (by simp[hc])⟩
    have hg3:∀h:(qa (l.take j)).length<rows.length,rows[(qa (l.take j)).length]=[y]:=fun h=>by
     have:rows[(qa (l.take j)).length]?=some [y]:=by
      rw[←hrows,List.append_assoc,List.getElem?_append_right (by simp)]
      simp
     exact (List.getElem?_eq_some_iff.1 this).2
    have hset:rows.set (qa (l.take j)).length [str l[j]]=encT (qa (l.take j))++([str l[j]]::mid'++encT (l.drop j)):=by
     rw[←hrows,List.append_assoc,List.set_append_right _ _ (by simp)]
     simp
    simp only[List.length_cons] at hml
    simp[h0,h1,h5,h6',fnE,hlt,hb,hget2,hc,he,hwj,hww,hwi,hlen,hg3,hset,hjj,hwt]
    refine⟨by omega,by omega,fun q hq=>by rw[ze _ _ _ _ hq];exact hfr q hq,mid'++[[str l[j]]],?_,by simp;omega,by simp,?_⟩
    ·rw[encT_append]
     simp
     rw[List.drop_eq_getElem_cons hlt,xO]
    ·intro c hc
     rcases List.mem_append.1 hc with hc | hc
     ·exact hmid' c hc
     ·simp at hc;subst hc;rfl
   ·rw[he,if_pos rfl] at hwt
    simp[h0,h1,h5,h6',fnE,hlt,hb,hget2,hc,he,hwj,hjj,hwt,hlen]
    refine⟨by omega,by omega,hfr,mid++[[str l[j]]],?_,by simp;omega,by simp,?_⟩
    ·rw[←hrows]
     simp
     rw[List.drop_eq_getElem_cons hlt,xO]
    ·intro c hc
     rcases List.mem_append.1 hc with hc | hc
     ·exact hm1 c hc
     ·simp at hc;subst hc;rfl
  ·obtain rfl:j=l.length:=by omega
   rw[List.take_length] at h5 hb hml
   rw[List.drop_length,encT_nil,List.append_nil] at hb
   have hn1:¬(l.length:Int)<l.length:=by omega
   have hwle:(qa l).length≤l.length:=by omega
   have hsub:l.length - (qa l).length=mid.length:=by omega
   have hcl:clearA prog hp nx 102 (.own id (qa l).length mid.length)=some (.tup [],upd hp id (some ⟨9,1,true,encT (qa l)++List.replicate mid.length [str []]⟩),nx):=by
    have ht:(encT (qa l)++mid).take (qa l).length=encT (qa l):=by rw[List.take_append_of_le_length (by simp),encT_take]
    have hd:(encT (qa l)++mid).drop ((qa l).length+mid.length)=[]:=List.drop_of_length_le (by simp)
    simp[clearA,hb,ht,hd,hm0,str]
   have hs1:∀hp:Hp,hp id=some ⟨9,1,true,encT (qa l)++mid⟩→wo prog hp 102 (.own id 0 l.length) (some (some (int (qa l).length))) none=some (.own id (qa l).length mid.length):=fun hp hh=>by
    have:¬l.length=(qa l).length:=by omega
    simp[wo,hh,wG,hwle,hsub,this]
    intro e
    rw[e] at hsub ⊢
    simp at hsub
    simp[hsub]
   have hs2:∀(hp:Hp) (r:List (List PV)),hp id=some ⟨9,1,true,r⟩→wo prog hp 102 (.own id 0 l.length) none (some (some (int (qa l).length)))=some (.own id 0 (qa l).length):=fun hp r hh=>by
    simp[wo,hh,wG,hwle]
   have hs1':=hs1 hp hb
   have hs2':=hs2 (upd hp id (some ⟨9,1,true,encT (qa l)++List.replicate mid.length [str []]⟩)) _ (by simp;rfl)
   simp[h0,h1,h5,h6',fnE,hb,hs1',hs2',hcl,f175]
   exact⟨rfl,rfl,⟨_,by simp;rfl⟩,fun q hq=>by rw[ze _ _ _ _ hq];exact hfr q hq⟩
end Go.Proofs.YtanbabpnlgfcpaaGreatDoor
