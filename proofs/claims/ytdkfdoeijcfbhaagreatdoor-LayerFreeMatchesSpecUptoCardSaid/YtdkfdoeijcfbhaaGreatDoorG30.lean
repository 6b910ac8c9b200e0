/-
The reference's ranges: two of them put together.
The reference's ranges: an alternative.
The reference's ReadRange.
The reference's CheckCond: what it computes.
-/
import Derived.Test.YtdkfdoeijcfbhaaGreatDoorG29
import Derived.Test.YtdkfdoeijcfbhaaGreatDoorG18
import Derived.Test.YtdkfdoeijcfbhaaGreatDoorG26
set_option maxRecDepth 8000
namespace Go.Proofs.YtdkfdoeijcfbhaaGreatDoor
open Go.Proofs.Tryz
open Go.RowKit Go.AM
theorem catR_call {a b:List Str} (ha:a.length≤lim) (hb:b.length≤lim) {hp:Hp} {nx id e:Nat} (h:hp id=some ⟨e,1,true,[[.sl 11 (encR a)],[.sl 11 (encR b)]]⟩) :
  zd true [] zcx [.own id 0 2] hp nx=some (.sl 11 (encR (a++b)),upd hp id none,nx):=by
 have hF:zcx [.sl 1 [[.sl 11 (encR a)],[.sl 11 (encR b)]]]=some (.sl 11 (encR (a++b))):=by
  unfold zcx zeo
  exact zm (enc:=fun a:List Str×List Str=>[PV.sl 1 [[.sl 11 (a.1.map Str.enc)],[.sl 11 (a.2.map Str.enc)]]]) (a:=(a,b)) (fun x y e=>by
   obtain⟨x1,x2⟩:=x
   obtain⟨y1,y2⟩:=y
   simp only[List.cons.injEq,and_true] at e
   injection e with _ e
   simp only[List.cons.injEq,and_true] at e
   obtain⟨e1,e2⟩:=e
   injection e1 with _ e1
   injection e2 with _ e2
   rw[jd e1,jd e2]) ⟨ha,hb⟩
 simp[zd,zj,zK,qM,h,qc,hF,PV.flat,PV.noOwn]
noncomputable abbrev Ctog:Ctx:=zF prog [(212,zd true [] zcx),(213,yr [.s 5 cpat] FSc),(215,zJ [.s 11 spat,.g cpat] (FRC fun l c=>boo (covA l c))),(214,zd false [] FTk)]
theorem goodtog:AM.Good Ctog (fun g=>[215,214].contains g):=zk mixed ⟨concatR_sound,by simp,rsorted_sound,by simp,rcovers_sound,fun _=>qF _ _,takes_sound,fun _=>zh _ _,trivial⟩
set_option maxHeartbeats 4000000 in
theorem rtog_eval (w:Int) (a b:List Str) (ha:wC a) (hb:wC b) (hga:goodR a) (hgb:goodR b) :
  ∃x hp nx,qH Ctog f149 [int w,.sl 11 (encR a),.sl 11 (encR b)] (fun _=>none) 0=some (x,hp,nx)∧zc2 spat (xI (xf w) a b) x hp nx:=by
 refine zD rfl ?_
 have hsa:=ha
 have hsb:=hb
 obtain⟨ha1,ha2⟩:=ha
 obtain⟨hb1,hb2⟩:=hb
 have hcat:=fun hp nx id e h=>catR_call ha1 hb1 (hp:=hp) (nx:=nx) (id:=id) (e:=e) h
 unfold lim at ha1 hb1
 have hins:=comb_ins (xf w) hga hgb
 obtain⟨l,hl⟩:∃l,a++b=l:=⟨_,rfl⟩
 rw[hl] at hins hcat
 have hll:l.length≤2097152:=by rw[←hl];simp;omega
 have hlsm:∀s∈l,s.small:=fun s hs=>by
  rw[←hl] at hs
  rcases List.mem_append.1 hs with h | h
  ·exact ha2 s h
  ·exact hb2 s h
 have hel:(encR l).length=l.length:=by simp[encR]
 have hcat':=hcat (upd (fun _=>none) 0 (some ⟨123,1,true,[[.sl 11 (encR a)],[.sl 11 (encR b)]]⟩)) 1 0 123 (by simp)
 simp[zf,zn,zg,hcat',hel]
 refine zq (fun k σ hp nx=>σ 0=int w∧σ 1=.sl 11 (encR a)∧σ 2=.sl 11 (encR b)∧OwnS hp nx 189 5 (σ 7) (z8 (zT (l.take k))) ∧
   σ 18=.sl 11 (encR l)∧σ 19=int l.length∧σ 20=int k) l.length
   ⟨by simp,by simp,by simp,.inl ⟨by simp,by simp[zT,z8]⟩,by simp,by simp,by simp⟩ ?_
 rintro k σ hp nx hk ⟨h0,h1,h2,hO,h25,h26,h27⟩
 by_cases hltk:k<l.length
 ·have hwk:IntKind.i64.wrap ((k:Int)+1)=(k:Int)+1:=zc (by omega) (by omega)
  have hke:∀h:k<(encR l).length,(encR l)[k]=l[k].enc:=fun h=>by simp[encR]
  have hcn:=je (l.take k)
  rw[List.length_take] at hcn
  have hct:=XC hltk
  obtain⟨xs,hxs⟩:∃xs,z8 (zT (l.take k))=xs:=⟨_,rfl⟩
  have hxl:xs.length≤4194304:=by rw[←hxs];simp[z8];omega
  rw[hxs] at hO
  have hE:z8 (zT (l.take (k+1)))=xs++(if l[k].endless=true then [l[k].lo] else [l[k].lo,l[k].hi]).map Cut.enc:=by
   rw[hct,XD,hxs];rfl
  have hkn:=fun hp'=>zU hO hp' nx (zbr hO (Nat.le_refl _))
  obtain⟨s,hs⟩:∃s,l[k]=s:=⟨_,rfl⟩
  rw[hs] at hct hke hE
  have hap1:=OwnS.append1 (P:=prog) (t:=238) (c:=s.lo.enc) (hO.more (some ⟨191,11,false,[s.enc]⟩)) Xi Vd zcp zcq rfl (by omega) (by unfold maxLen;omega) (by omega)
  have hO1:=OwnS.after (hp:=upd hp nx (some ⟨191,11,false,[s.enc]⟩)) (nx:=nx+1) (e:=189) (s:=5) (v:=σ 7) (xs:=xs) (c:=s.lo.enc) (tmp:=some ⟨189,5,true,[s.lo.enc]⟩)
  have hap2:=OwnS.append1 (P:=prog) (t:=238) (c:=s.hi.enc) hO1 Xi Vd zcp zcq rfl (by omega) (by simp;unfold maxLen;omega) (by simp;omega)
  rw[show (xs++[s.lo.enc]).length=xs.length+1 by simp,List.append_assoc,show[s.lo.enc]++[s.hi.enc]=[s.lo.enc,s.hi.enc] from rfl] at hap2
  have hO2:=OwnS.after (hp:=upd (vn (σ 7) (upd (upd hp nx (some ⟨191,11,false,[s.enc]⟩)) (nx+1) (some ⟨189,5,true,[s.lo.enc]⟩))) (nx+1+1) (some ⟨189,5,true,xs++[s.lo.enc]⟩)) (nx:=nx+1+2) (e:=189) (s:=5) (v:=.own (nx+1+1) 0 (xs.length+1)) (xs:=xs++[s.lo.enc]) (c:=s.hi.enc) (tmp:=some ⟨189,5,true,[s.hi.enc]⟩)
  rw[show (xs++[s.lo.enc]).length=xs.length+1 by simp,List.append_assoc,show[s.lo.enc]++[s.hi.enc]=[s.lo.enc,s.hi.enc] from rfl] at hO2
  simp only[Str.enc,Cut.enc,List.cons_append,List.nil_append] at hap1 hap2 hO1 hO2 hke
  have m1:¬nx=nx+1+1:=by omega
  have m2:¬nx=nx+1+2:=by omega
  have m3:¬nx=nx+1+2+1:=by omega
  cases hen:s.endless
  ·rw[hen] at hct
   rw[hen] at hap1 hap2 hO1 hO2 hke
   simp[h0,h1,h2,h25,h26,h27,hltk,hel,hke,hap1,hap2,hkn,hwk,m1,m2,m3,zf,zn,zg]
   refine⟨by omega,?_⟩
   rw[hE,hen]
   simp only[Bool.false_eq_true,if_false,List.map_cons,List.map_nil,Cut.enc]
   exact hO2
  ·rw[hen] at hct
   rw[hen] at hap1 hap2 hO1 hO2 hke
   simp[h0,h1,h2,h25,h26,h27,hltk,hel,hke,hap1,hkn,hwk,m1,m2,m3,zf,zn,zg]
   refine⟨by omega,?_⟩
   rw[hE,hen]
   simp only[if_true,List.map_cons,List.map_nil,Cut.enc]
   exact hO1
 ·obtain rfl:k=l.length:=by omega
  rw[List.take_length] at hO
  have hsm:∀c∈zT l,c.v.small:=vv (Q:=fun c=>c.v.small) hlsm
  have hcl:=je l
  obtain⟨v,hp',nx',hsort,hO',hnx'⟩:=rsorted_call hO hsm (by omega)
  obtain⟨cs,hcs⟩:∃cs,yp (zT l)=cs:=⟨_,rfl⟩
  have hcsl:cs.length≤4194304:=by have:=WJ (zT l) [];rw[←hcs];unfold yp;simp at this;omega
  have hcsm:∀c∈cs,c.v.small:=fun c hc=>by
   rw[←hcs] at hc
   rcases WK hc with h | h
   ·exact hsm c h
   ·cases h
  rw[hcs] at hins hO'
  have hfin:=hins
  obtain⟨is,his⟩:∃is:Cut→Bool,(fun c=>xf w (covA a c) (covA b c))=is:=⟨_,rfl⟩
  have hisc:∀c,xf w (covA a c) (covA b c)=is c:=fun c=>by rw[←his]
  rw[his] at hfin
  clear hO hcs hsm hins
  have hlen:=hO'.len Xi
  have hel2:(z8 cs).length=cs.length:=by simp[z8]
  rw[hel2] at hlen
  simp[h0,h1,h2,h25,h26,h27,hsort,hlen]
  refine zq (fun k σ hp nx=>σ 0=int w∧σ 1=.sl 11 (encR a)∧σ 2=.sl 11 (encR b)∧σ 40=v∧σ 41=int cs.length∧σ 42=int k∧OwnS hp nx 189 5 v (z8 cs)∧∃xs,OwnS hp nx 191 11 (σ 10) xs∧xs.map (fixC spat)=encR (swL is (cs.take k) (false,[])).2 ∧
    σ 11=boo (swL is (cs.take k) (false,[])).1∧(∀id n m,v=.own id 0 n→σ 10≠.own id 0 m)∧((swL is (cs.take k) (false,[])).1=true→(swL is (cs.take k) (false,[])).2≠[])∧xs.length≤k∧(xs=[]→σ 10=.nil)) cs.length
   ⟨by simp[h0],by simp[h1],by simp[h2],by simp,by simp,by simp,hO',[],.inl ⟨by simp,rfl⟩,by simp[swL,encR],by simp[swL],by simp,by simp[swL],by simp,by simp⟩ ?_
  clear h0 h1 h2 h25 h26 h27 hO' hk hltk σ hp nx hsort hlen hnx' hp' nx'
  rintro k σ hp nx hk ⟨h0,h1,h2,h48,h49,h50,hO,xs,hX,hxs,h13,hap,hop,hxk,hxn⟩
  by_cases hltk:k<cs.length
  ·have hwk:IntKind.i64.wrap ((k:Int)+1)=(k:Int)+1:=zc (by omega) (by omega)
   obtain⟨id,hid,rfl,hh⟩:=hO.at_ (by rw[hel2];omega)
   have hst:=zbq is hltk (false,[])
   obtain⟨st,hst0⟩:∃st,swL is (cs.take k) (false,[])=st:=⟨_,rfl⟩
   obtain⟨c,hc⟩:∃c,cs[k]=c:=⟨_,rfl⟩
   rw[hc,hst0] at hst
   rw[hst0] at hxs h13 hop
   have hopn:=zbp is st c hop
   have hcsmall:c.v.small:=hcsm c (by rw[←hc];exact List.getElem_mem hltk)
   have hke:∀h:k<(z8 cs).length,(z8 cs)[k]=c.enc:=fun h=>by simp[z8,hc]
   have hca:=fun hp nx=>Yp a c hp nx hsa hcsmall
   have hcb:=fun hp nx=>Yp b c hp nx hsb hcsmall
   have hcall':=fun hp nx=>QW w (covA a c) (covA b c) hp nx
   rw[hisc c] at hcall'
   simp only[Cut.enc] at hca hcb hke
   have m0:¬id=nx:=by omega
   have m1:¬id=nx+1:=by omega
   have m2:¬id=nx+1+1:=by omega
   rw[hel2] at hO
   have hki:=fun hp'=>zU hX hp' id (fun n=>hap id _ n rfl)
   have hswS:swS is st c=(is c,if (is c&&!st.1)=true then st.2++[qC c] else if (!is c&&st.1)=true then kp st.2 c else st.2):=rfl
   rw[hswS] at hst
   rw[hswS] at hopn
   simp only at hopn
   obtain⟨op,out⟩:=st
   simp only at hxs h13 hop hopn
   cases hb:is c<;>cases op
   ·rw[hb] at hcall' hst
    simp at hst
    simp[h0,h1,h2,h48,h49,h50,hel2,hltk,hh,hke,hca,hcb,hcall',-QW,h13,hwk,m0,hst]
    exact⟨by omega,hO.more _,xs,hX.more _,hxs,fun i n m e _=>hap i _ m (by rw[e]),by omega,hxn⟩
   ·rw[hb] at hcall' hst
    simp at hst
    have hne:=hop rfl
    obtain⟨m,hm⟩:∃m,out.length=m+1:=⟨out.length - 1,by have:=List.length_pos_iff.2 hne;omega⟩
    have hxl:xs.length=m+1:=by have:=congrArg List.length hxs;simp[encR] at this;omega
    obtain⟨id2,hid2,h12,hh2⟩:=hX.at_ (by omega)
    have hid12:¬id2=id:=fun e=>hap id _ _ rfl (by rw[h12,e])
    have hid21:¬id=id2:=fun e=>hid12 e.symm
    have p0:¬id2=nx:=by omega
    rw[hxl] at h12
    have hlm:m<xs.length:=by omega
    have hlo:m<out.length:=by omega
    have hrm:fixC spat xs[m]=out[m].enc:=by
     have e1:(xs.map (fixC spat))[m]?=(encR out)[m]?:=by rw[hxs]
     simp only[List.getElem?_map,List.getElem?_eq_getElem hlm,encR,List.getElem?_eq_getElem hlo,Option.map_some,Option.some.injEq] at e1
     exact e1
    obtain⟨x3,x5,x6,x7,x8,x9,x10,hrow,hn3,hcell⟩:=XB hrm
    have wm:IntKind.i64.wrap (m:Int)=(m:Int):=zc (by omega) (by omega)
    have wm1:IntKind.i64.wrap ((m:Int)+1 - 1)=(m:Int):=by rw[zc (by omega) (by omega)];omega
    simp[h0,h1,h2,h48,h49,h50,hel2,hltk,hh,hke,hca,hcb,hcall',-QW,h13,hwk,m0,hst,h12,hh2,p0,wm,wm1,hlm,hrow,hcell,qO]
    refine⟨by omega,.inr ⟨id,by omega,by rw[hel2],by simp[hid21,m0,hh]⟩,xs.set m [int out[m].lo.v.a,int out[m].lo.v.b,int out[m].lo.v.c,x3,boo out[m].lo.after,int c.v.a,int c.v.b,int c.v.c,.sl 1 (encT c.v.pre),boo c.after,boo false],.inr ⟨id2,by omega,by simp[hxl],by simp⟩,?_,fun i n k' e _ e2=>absurd (e2.trans e.symm) hid12,by simp;omega,fun e=>by have:=congrArg List.length e;rw[List.length_set,hxl] at this;cases this⟩
    rw[List.map_set,hxs,Jf hlo hm c,encR,encR,List.map_set]
    simp[hn3,Str.enc,Cut.enc]
   ·rw[hb] at hcall' hst
    simp at hst
    have hap1:=OwnS.append1 (P:=prog) (t:=123) (c:=[int c.v.a,int c.v.b,int c.v.c,.sl 1 (encT c.v.pre),boo c.after,int 0,int 0,int 0,.nil,boo false,boo true]) (hX.more (some ⟨189,5,false,[c.enc]⟩)) zdx zcr zcM zcN rfl (by omega) (by unfold maxLen;omega) (by omega)
    simp only[Cut.enc] at hap1
    simp[h0,h1,h2,h48,h49,h50,hel2,hltk,hh,hke,hca,hcb,hcall',-QW,h13,hwk,m0,hst,hap1,zt,zM,zf,zn,zg]
    refine⟨by omega,.inr ⟨id,by omega,by rw[hel2],by simp[hki,hh,m0,m1,m2]⟩,xs++[[int c.v.a,int c.v.b,int c.v.c,.sl 1 (encT c.v.pre),boo c.after,int 0,int 0,int 0,.nil,boo false,boo true]],by simpa using OwnS.after,?_,fun i n m e _ e2=>by omega,by simp;omega⟩
    rw[List.map_append,hxs]
    simp[encR,qC,Str.enc,Cut.enc,cut0,encT]
   ·rw[hb] at hcall' hst
    simp at hst
    simp[h0,h1,h2,h48,h49,h50,hel2,hltk,hh,hke,hca,hcb,hcall',-QW,h13,hwk,m0,hst]
    exact⟨by omega,hO.more _,xs,hX.more _,hxs,fun i n m e _=>hap i _ m (by rw[e]),hop rfl,by omega,hxn⟩
  ·obtain rfl:k=cs.length:=by omega
   rw[List.take_length] at hxs
   rw[←hfin] at hxs
   have hxl:xs.length=(yC (xf w) a b).length:=by have:=congrArg List.length hxs;simpa[encR] using this
   simp[h0,h1,h2,h48,h49,h50,f149]
   unfold xI
   rcases hX with⟨h12,rfl⟩ | ⟨id2,hid2,h12,hh2⟩
   ·rw[if_pos (List.length_eq_zero_iff.1 hxl.symm)]
    exact h12
   ·by_cases hz:yC (xf w) a b=[]
    ·rw[if_pos hz]
     rw[hz] at hxl
     exact hxn (List.length_eq_zero_iff.1 hxl)
    ·rw[if_neg hz]
     refine⟨id2,_,h12,hh2,rfl,?_⟩
     simp only[fixB,hxs]
noncomputable def FTog:List PV→Option (Option Blk):=zH (α:=Int×List Str×List Str) (fun a=>[int a.1,.sl 11 (encR a.2.1),.sl 11 (encR a.2.2)]) (fun a=>(wC a.2.1∧wC a.2.2)∧goodR a.2.1∧goodR a.2.2) (fun a=>xI (xf a.1) a.2.1 a.2.2)
theorem tog_inj:∀a b:Int×List Str×List Str,[int a.1,PV.sl 11 (encR a.2.1),.sl 11 (encR a.2.2)]=[int b.1,.sl 11 (encR b.2.1),.sl 11 (encR b.2.2)]→a=b:=by
 rintro⟨w1,a1,a2⟩ ⟨w2,b1,b2⟩ e
 simp only[List.cons.injEq,and_true] at e
 obtain⟨e0,e1,e2⟩:=e
 injection e0 with e0
 injection e0 with _ e0
 injection e1 with _ e1
 injection e2 with _ e2
 rw[e0,jd e1,jd e2]
set_option maxRecDepth 100000 in
theorem KY:za prog 149 (yr [.a,.s 11 spat,.s 11 spat] FTog) :=
 vT (fn:=f149) goodtog ⟨_,func149,by kernel_rfl,rfl,by kernel_rfl⟩ _ spat _ fun args r h=>by
  obtain⟨⟨w,a,b⟩,rfl,⟨⟨h1,h2⟩,h3,h4⟩,rfl⟩:=ze h
  exact⟨by simp[f149],rtog_eval w a b h1 h2 h3 h4⟩
def HasW (hp:Hp) (nx:Nat) (v:PV) (m:List Str):Prop:=(v=.nil∧m=[])∨∃id xs,id<nx∧v=.own id 0 xs.length∧hp id=some ⟨191,11,true,xs⟩∧xs.map (fixC spat)=encR m
theorem HasW.frz {hp:Hp} {nx:Nat} {v:PV} {m:List Str} (h:HasW hp nx v m):∃y hp1,zK hp v=some (y,hp1)∧(Sh.s 11 spat).fix y=.sl 11 (encR m)∧(∀j,(∀n,v≠.own j 0 n)→hp1 j=hp j):=by
 rcases h with⟨rfl,rfl⟩ | ⟨id,xs,h1,rfl,h2,h3⟩
 ·exact⟨_,hp,rfl,rfl,fun _ _=>rfl⟩
 ·exact⟨.sl 11 xs,upd hp id none,by simp[h2],by rw[Sh.fix_s,h3],fun j hj=>zl _ _ _ _ fun e=>hj _ (by subst e;rfl)⟩
theorem HasW.keep {hp hp':Hp} {nx nx':Nat} {v:PV} {m:List Str} (h:HasW hp nx v m) (hn:nx≤nx') (hh:∀id,id<nx→(∀n,v=.own id 0 n→hp' id=hp id)):HasW hp' nx' v m:=by
 rcases h with⟨rfl,rfl⟩ | ⟨id,xs,h1,rfl,h2,h3⟩
 ·exact .inl ⟨rfl,rfl⟩
 ·exact .inr ⟨id,xs,by omega,rfl,by rw[hh id h1 _ rfl];exact h2,h3⟩
theorem HasW.len {hp:Hp} {nx:Nat} {v:PV} {m:List Str} (h:HasW hp nx v m):lenA prog 123 v=some (int m.length):=by
 rcases h with⟨rfl,rfl⟩ | ⟨id,xs,h1,rfl,h2,h3⟩
 ·simp
 ·have:=congrArg List.length h3
  simp[encR] at this
  simp[this]
theorem HasW.box {hp:Hp} {nx:Nat} {v:PV} {m:List Str} (h:HasW hp nx v m) {j:Nat} {b:Blk} (hb:hp j=some b) (he:b.e≠191):∀n,v≠.own j 0 n:=by
 rcases h with⟨rfl,rfl⟩ | ⟨id,xs,h1,rfl,h2,h3⟩
 ·intro n e;cases e
 ·intro n e
  injection e with e
  subst e
  rw[h2] at hb
  injection hb with hb
  subst hb
  exact he rfl
theorem zcf (way:Int) (f:Bool→Bool→Bool) (hf:xf way=f) {hp:Hp} {nx:Nat} {v:PV} {a b:List Str} (ha:HasW hp nx v a) (h1:wC a) (h2:wC b) (h3:goodR a) (h4:goodR b) :
  ∃x hp' nx',yr [.a,.s 11 spat,.s 11 spat] FTog [int way,v,.sl 11 (encR b)] hp nx=some (x,hp',nx')∧HasW hp' nx' x (yC f a b)∧nx≤nx'∧∀j,j<nx→(∀n,v≠.own j 0 n)→hp' j=hp j:=by
 obtain⟨y,hp1,f1,e1,k1⟩:=ha.frz
 have hfr:zj hp [int way,v,.sl 11 (encR b)]=some ([int way,y,.sl 11 (encR b)],hp1):=by
  have f0:zK hp (int way)=some (int way,hp):=rfl
  have f2:zK hp1 (.sl 11 (encR b))=some (.sl 11 (encR b),hp1):=rfl
  simp only[zj,f0,f1,f2]
 have hF:FTog (fixL [.a,.s 11 spat,.s 11 spat] (qc [] [int way,y,.sl 11 (encR b)]))=some (xI f a b):=by
  show FTog [Sh.a.fix (int way),(Sh.s 11 spat).fix y,(Sh.s 11 spat).fix (.sl 11 (encR b))]=_
  rw[e1,Zk,←hf]
  exact zm (enc:=fun a:Int×List Str×List Str=>[int a.1,PV.sl 11 (encR a.2.1),.sl 11 (encR a.2.2)]) (a:=(way,a,b)) tog_inj ⟨⟨h1,h2⟩,h3,h4⟩
 unfold yr wg
 by_cases hz:yC f a b=[]
 ·have hF':=hF
  unfold xI at hF'
  rw[if_pos hz] at hF'
  simp only[hfr,hF']
  exact⟨_,_,_,rfl,.inl ⟨rfl,hz⟩,Nat.le_refl _,fun j _ q1=>k1 j q1⟩
 ·have hF':=hF
  unfold xI at hF'
  rw[if_neg hz] at hF'
  simp only[hfr,hF']
  exact⟨_,_,_,rfl,.inr ⟨nx,encR (yC f a b),by omega,rfl,by simp,by have:=Zk (yC f a b);simpa[Sh.fix_s] using this⟩,by omega,fun j hj q1=>by rw[zl _ _ _ _ (by omega)];exact k1 j q1⟩
theorem take1:xf 1=and:=by funext a b;simp[xf]
theorem take0:xf 0=or:=by funext a b;simp[xf]
end Go.Proofs.YtdkfdoeijcfbhaaGreatDoor
namespace Go.AM
open Go.RowKit
def cutK (Q:St→Prop) (K:Exit→St→Prop) (e:Exit) (st:St):Prop:=match e with
 | .normal=>Q st
 | e=>K e st
@[simp] theorem cutK_n (Q:St→Prop) (K:Exit→St→Prop) (st:St):cutK Q K .normal st=Q st:=rfl
@[simp] theorem cutK_r (Q:St→Prop) (K:Exit→St→Prop) (st:St):cutK Q K .ret st=K .ret st:=rfl
@[simp] theorem cutK_e (Q:St→Prop) (K:Exit→St→Prop) (i:Nat) (st:St):cutK Q K (.exit i) st=K (.exit i) st:=rfl
theorem yZ {C:Ctx} {a b:Code} {st:St} {K:Exit→St→Prop} (Q:St→Prop) (h1:EvC C a st (cutK Q K)) (h2:∀st,Q st→EvC C b st K):EvC C (.seq a b) st K:=by
 rw[zcF]
 refine h1.mono fun e st hk=>?_
 cases e
 case normal=>exact h2 _ hk
 all_goals exact hk
end Go.AM
namespace Go.Proofs.YtdkfdoeijcfbhaaGreatDoor
open Go.Proofs.Tryz
open Go.RowKit Go.AM
theorem zaO:∀(ws:List (List UInt8)) (l:List Tok) (n:Nat),tokW ws=some l→(∀w∈ws,w.length≤n)→l.length≤ws.length∧∀a∈l,a.2.length≤n
 | [],l,n,h,_=>by simp only[tokW] at h;injection h with h;subst h;simp
 | [w],l,n,h,hw=>by
   simp only[tokW] at h
   split at h
   ·cases h
   ·injection h with h
    subst h
    refine⟨by simp,fun a ha=>?_⟩
    rw[List.mem_singleton] at ha
    rw[ha]
    exact Nat.le_trans (Z0 sgs w) (hw w (by simp))
 | w::x::ws,l,n,h,hw=>by
   simp only[tokW] at h
   split at h
   ·cases e:tokW ws with
    | none=>rw[e] at h;cases h
    | some l' =>
      rw[e] at h
      simp only[Option.map_some,Option.some.injEq] at h
      subst h
      obtain⟨h1,h2⟩:=zaO ws l' n e fun y hy=>hw y (by simp[hy])
      refine⟨by simp;omega,fun a ha=>?_⟩
      rcases List.mem_cons.1 ha with rfl | ha
      ·exact hw x (by simp)
      ·exact h2 a ha
   ·cases e:tokW (x::ws) with
    | none=>rw[e] at h;cases h
    | some l' =>
      rw[e] at h
      simp only[Option.map_some,Option.some.injEq] at h
      subst h
      obtain⟨h1,h2⟩:=zaO (x::ws) l' n e fun y hy=>hw y (by simp[List.mem_cons.1 hy])
      refine⟨by simp at h1 ⊢;omega,fun a ha=>?_⟩
      rcases List.mem_cons.1 ha with rfl | ha
      ·exact Nat.le_trans (Z0 sgs w) (hw w (by simp))
      ·exact h2 a ha
theorem zcg {t:List UInt8} {l:List Tok} (h:tokW (we t)=some l):l.length≤t.length+1∧∀a∈l,a.2.length≤t.length:=by
 have hw:zW (zA t [32])=we t:=JP t
 obtain⟨h1,h2⟩:=zaO _ l t.length h fun w hw'=>by
  rw[←hw] at hw'
  exact yl (List.mem_filter.1 hw').1
 have h3:(we t).length≤t.length+1:=by rw[←hw];exact Nat.le_trans (List.length_filter_le _ _) (yH (by simp))
 exact⟨by omega,h2⟩
theorem zam {o:List UInt8} {p:Part} (ho:sgOk o) (hp:p.ok) (hg:kq p.pre):goodR (oneX o p).1∧(oneX o p).1.length≤1:=by
 obtain⟨h1,h2⟩:=QG (zb9 ho hp hg)
 unfold oneX
 by_cases h:(strS (cOf o p)).2=true
 ·rw[if_pos h];exact⟨h2,h1⟩
 ·rw[if_neg h];exact⟨(fun s hs=>by cases hs),by simp⟩
theorem bstr_eq (a b:List UInt8):((⟨a.toArray⟩:ByteArray)==⟨b.toArray⟩)=decide (a=b):=by
 show (a.toArray==b.toArray)=_
 by_cases h:a=b<;>simp[h]
theorem binW (a b c d:List UInt8):binA prog .eql 250 (.agg [str a,str b]) (.agg [str c,str d])=some (boo (decide (a=c)&&decide (b=d))):=by
 simp only[binA,fl250,qe,Option.map_some,Bool.and_true,bstr_eq]
noncomputable def ZG (t:List UInt8):List Str×Int:=match altX t with
 | none=>([],10)
 | some m=>(m.1,if m.2=true then 0 else 1)
noncomputable def Qf (t:List UInt8):PV:=.tup [.sl 11 (encR (ZG t).1),int (ZG t).2]
def AltI (l:List Tok) (k:Nat) (hp:Hp) (nx:Nat) (v w:PV):Prop:=∃o ok,HasW hp nx v o∧goodR o∧o.length≤k+1∧w=int (if ok=true then 0 else 1)∧kY [qC leastC] true l=kY o ok (l.drop k)
noncomputable abbrev zeB:Ctx:=zF prog [(206,zd false [] (FSP wdsP)),(207,zd false [] FBt2),(208,zJ [] (ZZ KA)),(209,zd false [] (FS qI)),(210,zd false [] (FSP1 rvP)),(211,zJ [.a,.g vpat] FOVI),(149,yr [.a,.s 11 spat,.s 11 spat] FTog)]
theorem goodralt:AM.Good zeB (fun g=>[207].contains g):=zk mixed ⟨rwords_sound,by simp,rbetween_sound,fun _=>zh _ _,Yd,by simp,risOpen_sound,by simp,kM,by simp,rstretch_sound,by simp,KY,by simp,trivial⟩
set_option maxHeartbeats 4000000 in
theorem ralt_eval (t:List UInt8) (ht:t.length+1≤lim):∃r0,zi zeB f148 [str t]=some r0∧Stands r0 (Qf t):=by
 refine qv (sh:=.s 11 spat) rfl ?_
 have hwo:∀(hp:Hp) (nx:Nat),zd false [] (FSP wdsP) [str t] hp nx=some (wdsP t,hp,nx):=fun hp nx=>zy rfl (zm (enc:=fun l:List UInt8=>[str l]) (a:=t) (fun a b e=>zV (by injection e)) (by show t.length≤lim;omega)) (.inr (by simp))
 refine yZ (fun st=>st.σ 0=str t) (by simp) ?_
 rintro⟨σ,hp,nx⟩ h0
 simp only at h0
 refine yZ (fun st=>st.σ 4=.sl 2 (encK (wdsR t).1)∧st.σ 5=boo (wdsR t).2) (by simp[h0,hwo,wdsP]) ?_
 clear h0 σ hp nx
 rintro⟨σ,hp,nx⟩ ⟨h4,h5⟩
 simp only at h4 h5
 cases htk:tokW (we t) with
 | none =>
   have hr:wdsR t=([],false):=by unfold wdsR;rw[htk]
   have hv:ZG t=([],10):=by unfold ZG altX;rw[htk]
   rw[hr] at h4 h5
   simp[h4,h5,zE,Qf,hv,encR,f148]
 | some l =>
 have hr:wdsR t=(l,!l.isEmpty):=by unfold wdsR;rw[htk]
 rw[hr] at h4 h5
 simp only at h4 h5
 by_cases hl0:l=[]
 ·have hv:ZG t=([],10):=by unfold ZG altX;rw[htk];simp only;rw[if_pos hl0]
  subst hl0
  simp[h4,h5,zE,Qf,hv,encR,f148]
 have hv0:altX t=match dash l with
  | some a=>match rdOk a.1,rdOk a.2 with
    | some p,some q=>some (btwX p q)
    | _,_=>none
  | none=>kY [qC leastC] true l:=by unfold altX;rw[htk];simp only;rw[if_neg hl0];rfl
 have hle:l.isEmpty=false:=by cases l<;>simp at hl0 ⊢
 rw[hle] at h5
 obtain⟨hll,hla⟩:=zcg htk
 have hsg:=zaf _ l htk
 have hkl:=VR l
 unfold lim at ht
 refine yZ (fun st=>st.σ 4=.sl 2 (encK l)) (by simp[h5,h4]) ?_
 clear h4 h5 σ hp nx
 rintro⟨σ,hp,nx⟩ h4
 simp only at h4
 refine yZ (fun st=>st.σ 4=.sl 2 (encK l)∧dash l=none) ?_ ?_
 ·by_cases h3:l.length=3
  ·match l,h3 with
   | [a,b,c],_ =>
   obtain⟨a1,a2⟩:=a
   obtain⟨b1,b2⟩:=b
   obtain⟨c1,c2⟩:=c
   have hd:dash [(a1,a2),(b1,b2),(c1,c2)]=if (b1,b2)=(([],[45]):Tok)∧a1=[]∧c1=[] then some (a2,c2) else none:=rfl
   have ha2:a2.length≤t.length:=hla (a1,a2) (by simp)
   have hc2:c2.length≤t.length:=hla (c1,c2) (by simp)
   have hbt:=fun hp nx=>FBt2_call a2 c2 hp nx ⟨by unfold lim;omega,by unfold lim;omega⟩
   by_cases k1:b1=[]
   ·subst k1
    by_cases k2:b2=[45]
    ·subst k2
     by_cases k3:a1=[]
     ·subst k3
      by_cases k4:c1=[]
      ·subst k4
       rw[if_pos ⟨rfl,rfl,rfl⟩] at hd
       rw[hd] at hv0
       have hv:ZG t=btwR a2 c2:=by
        unfold ZG btwR
        rw[hv0]
        simp only
        cases h1:rdOk a2<;>cases h2:rdOk c2<;>simp
       have hfx:=Zk (btwR a2 c2).1
       simp only[Sh.fix_s,PV.sl.injEq,true_and] at hfx
       simp only[JS] at hbt
       simp[h4,encK,hbt,binW,zt,zM,zE,Qf,hv,hfx,f148]
      ·rw[if_neg (fun h=>k4 h.2.2)] at hd
       have e4:c1.isEmpty=false:=by cases c1 with
        | nil=>exact absurd rfl k4
        | cons=>rfl
       simp[h4,encK,binW,zt,zM,e4,hd]
     ·rw[if_neg (fun h=>k3 h.2.1)] at hd
      have e3:a1.isEmpty=false:=by cases a1 with
       | nil=>exact absurd rfl k3
       | cons=>rfl
      simp[h4,encK,binW,zt,zM,e3,hd]
    ·rw[if_neg (fun h=>k2 (by have:=h.1;injection this))] at hd
     simp[h4,encK,binW,zt,zM,k2,hd]
   ·rw[if_neg (fun h=>k1 (by have:=h.1;injection this))] at hd
    simp[h4,encK,binW,zt,zM,k1,hd]
  ·have hd:dash l=none:=by
    unfold dash
    split
    ·rename_i a b c
     exact absurd rfl h3
    ·rfl
   have hn3:((l.length:Int)==3)=false:=by rw[beq_eq_false_iff_ne];omega
   simp[h4,hkl,hn3,hd]
 clear h4 σ hp nx
 rintro⟨σ,hp,nx⟩ ⟨h4,hd⟩
 simp only at h4
 rw[hd] at hv0
 simp only at hv0
 have hle:∀(hp:Hp) (nx:Nat),zJ [] (ZZ KA) [] hp nx=some (.agg [int leastC.v.a,int leastC.v.b,int leastC.v.c,.sl 1 (encT leastC.v.pre),boo leastC.after],hp,nx):=fun hp nx=>jW _ hp nx
 simp[h4,hkl,hle,zt,zM,zf,zn,zg]
 refine zq (fun k σ hp nx=>σ 60=.sl 2 (encK l)∧σ 61=int l.length∧σ 62=int k∧AltI l k hp nx (σ 6) (σ 7)) l.length
  ⟨by simp,by simp,by simp,[qC leastC],true,.inr ⟨nx,[[int leastC.v.a,int leastC.v.b,int leastC.v.c,.sl 1 (encT leastC.v.pre),boo leastC.after,int 0,int 0,int 0,.nil,boo false,boo true]],by simp,by simp,by simp,by simp[encR,qC,Str.enc,Cut.enc,cut0,encT]⟩,(kr ye).2,by simp,by simp,by simp⟩ ?_
 clear h4 σ hp nx
 rintro k σ hp nx hk ⟨h60,h61,h62,o,ok,hM,hgo,hol,h7,hlo⟩
 by_cases hltk:k<l.length
 ·have hwk:IntKind.i64.wrap ((k:Int)+1)=(k:Int)+1:=zc (by omega) (by omega)
  obtain⟨a,ha⟩:∃a,l[k]=a:=⟨_,rfl⟩
  have ham:a∈l:=by rw[←ha];exact List.getElem_mem hltk
  have hke:∀h:k<(encK l).length,(encK l)[k]=[str a.1,str a.2]:=fun h=>by simp[encK,ha]
  have hal:=hla a ham
  have hop:=fun hp nx=>wV qI a.2 hp nx (by unfold lim;omega)
  have hrv:=fun hp nx=>yP rvP a.2 hp nx (by unfold lim;omega)
  simp only[rvP,Ver.enc] at hrv
  rw[List.drop_eq_getElem_cons hltk,ha] at hlo
  simp only[kY] at hlo
  have hie:a.1≠[]→a.1.isEmpty=false:=fun h=>by cases he:a.1 with
   | nil=>exact absurd he h
   | cons=>rfl
  by_cases hskip:a.1=[]∧qI a.2=true
  ·rw[if_pos hskip] at hlo
   obtain⟨hs1,hs2⟩:=hskip
   simp[h60,h61,h62,hltk,hkl,hke,hs1,hop,hs2,hwk]
   exact⟨by omega,o,ok,hM.keep (by omega) fun id hid n e=>zl _ _ _ _ (by omega),hgo,by omega,h7,hlo⟩
  ·rw[if_neg hskip] at hlo
   have hM1:∀b1 b2,HasW (upd (upd hp nx b1) (nx+1) b2) (nx+1+1) (σ 6) o:=fun b1 b2=>hM.keep (by omega) fun id hid n e=>by rw[zl _ _ _ _ (by omega),zl _ _ _ _ (by omega)]
   have n1:¬nx=nx+1:=by omega
   cases hrd:rdOk a.2 with
   | none =>
     rw[hrd] at hlo
     simp only at hlo
     have hv:ZG t=([],10):=by unfold ZG;rw[hv0,hlo]
     have hno:=VT hrd
     by_cases hs1:a.1=[]
     ·have hs2:qI a.2=false:=by cases hb:qI a.2;rfl;exact absurd ⟨hs1,hb⟩ hskip
      rcases hno with hno | hno
      ·simp[h60,h61,h62,hltk,hkl,hke,hs1,hop,hs2,hrv,hno,zE,Qf,hv,encR,f148]
      ·cases hb:(rvR a.2).2.2<;>simp[h60,h61,h62,hltk,hkl,hke,hs1,hop,hs2,hrv,hno,hb,zE,Qf,hv,encR,f148]
     ·have hs1:=hie hs1
      rcases hno with hno | hno
      ·simp[h60,h61,h62,hltk,hkl,hke,hs1,hrv,hno,zE,Qf,hv,encR,f148]
      ·cases hb:(rvR a.2).2.2<;>simp[h60,h61,h62,hltk,hkl,hke,hs1,hrv,hno,hb,zE,Qf,hv,encR,f148]
   | some p =>
     rw[hrd] at hlo
     simp only at hlo
     obtain⟨p1,p2,p3,p4,p5,p6,p7⟩:=VS hrd
     obtain⟨_,_,q3,q4⟩:=jz hrd
     have p3':((rvR a.2).2.1==0)=false:=by simpa using p3
     rw[←p2] at p6 p7
     have hso:=fun hp nx=>FOVI_call a.1 (rvR a.2).1 (rvR a.2).2.1 hp nx (hsg a ham) p5 ⟨p6,p7⟩
     simp only[ZF,←p4,Ver.enc] at hso
     obtain⟨g1,g2⟩:=zam (hsg a ham) q3 q4
     have hlm:=xH and o (oneX a.1 p).1
     obtain⟨x,hp',nx',htog,hX,hnx',_⟩:=zcf 1 and take1 (hM1 (some ⟨250,2,false,[[str a.1,str a.2]]⟩) (some ⟨187,4,false,[(rvR a.2).1.enc]⟩)) (hgo.small (by unfold lim;omega)) (g1.small (by unfold lim;omega)) hgo g1
     simp only[Ver.enc] at htog
     have hfin:∀n:Int,n=(if (ok&&(oneX a.1 p).2)=true then 0 else 1)→AltI l (k+1) hp' nx' x (int n):=fun n hn=>⟨_,_,hX,ym and hgo g1,by omega,by rw[hn],hlo⟩
     by_cases hs1:a.1=[]
     ·have hs2:qI a.2=false:=by cases hb:qI a.2;rfl;exact absurd ⟨hs1,hb⟩ hskip
      rw[hs1] at hso htog hfin hke
      cases hb:(oneX [] p).2
      ·rw[hb] at hso hfin
       simp[h60,h61,h62,hltk,hkl,hke,hop,hs2,hrv,p1,p3',n1,hso,htog,hwk]
       exact⟨by omega,hfin 1 (by simp)⟩
      ·rw[hb] at hso hfin
       simp[h60,h61,h62,hltk,hkl,hke,hop,hs2,hrv,p1,p3',n1,hso,htog,hwk]
       exact⟨by omega,by rw[h7];exact hfin _ (by simp)⟩
     ·have hs1:=hie hs1
      cases hb:(oneX a.1 p).2
      ·rw[hb] at hso hfin
       simp[h60,h61,h62,hltk,hkl,hke,hs1,hrv,p1,p3',n1,hso,htog,hwk]
       exact⟨by omega,hfin 1 (by simp)⟩
      ·rw[hb] at hso hfin
       simp[h60,h61,h62,hltk,hkl,hke,hs1,hrv,p1,p3',n1,hso,htog,hwk]
       exact⟨by omega,by rw[h7];exact hfin _ (by simp)⟩
 ·obtain rfl:k=l.length:=by omega
  rw[List.drop_length] at hlo
  simp only[kY] at hlo
  have hv:ZG t=(o,if ok=true then 0 else 1):=by unfold ZG;rw[hv0,hlo]
  rcases hM with⟨h6,rfl⟩ | ⟨id,xs,hid,h6,hb,hxs⟩
  ·simp[h60,h61,h62,h6,h7,zE,Qf,hv,encR,f148]
  ·simp[h60,h61,h62,h6,h7,hb,hxs,zE,Qf,hv,f148]
theorem ralt_sound:za prog 148 (zd false [] (FSP1 Qf)) :=
 yw (fn:=f148) goodralt ⟨_,func148,by kernel_rfl,rfl,by kernel_rfl⟩ false [] _ fun args r h w S vs hz=>by
  obtain⟨l,rfl,hp,rfl⟩:=ze h
  obtain⟨r0,h1,h2⟩:=ralt_eval l hp
  exact⟨_,r0,hz,by simp[f148],h1,h2⟩
theorem WL:∀(l:List Tok) (out:List Str) (ok:Bool) (m:List Str×Bool),(∀a∈l,sgOk a.1)→goodR out→kY out ok l=some m→goodR m.1∧m.1.length≤out.length+l.length
 | [],out,ok,m,_,h,e=>by
   simp only[kY] at e
   injection e with e
   subst e
   exact⟨h,by simp⟩
 | a::l,out,ok,m,hs,h,e=>by
   simp only[kY] at e
   have hs':∀b∈l,sgOk b.1:=fun b hb=>hs b (by simp[hb])
   split at e
   ·obtain⟨h1,h2⟩:=WL l out ok m hs' h e
    exact⟨h1,by simp;omega⟩
   ·cases hr:rdOk a.2 with
    | none=>rw[hr] at e;cases e
    | some p =>
      rw[hr] at e
      simp only at e
      obtain⟨_,_,q3,q4⟩:=jz hr
      obtain⟨g1,g2⟩:=zam (hs a (by simp)) q3 q4
      have hlm:=xH and out (oneX a.1 p).1
      obtain⟨h1,h2⟩:=WL l _ _ m hs' (ym and h g1) e
      exact⟨h1,by simp;omega⟩
theorem altX_good {t:List UInt8} {m:List Str×Bool} (h:altX t=some m):goodR m.1∧m.1.length≤t.length+2:=by
 unfold altX at h
 cases htk:tokW (we t) with
 | none=>rw[htk] at h;cases h
 | some l =>
   rw[htk] at h
   simp only at h
   split at h
   ·cases h
   ·cases hd:dash l with
    | none =>
      rw[hd] at h
      simp only at h
      obtain⟨h1,h2⟩:=WL l _ _ m (zaf _ l htk) (kr ye).2 h
      have:=(zcg htk).1
      exact⟨h1,by simp at h2;omega⟩
    | some a =>
      rw[hd] at h
      simp only at h
      cases hp:rdOk a.1 with
      | none=>rw[hp] at h;simp at h
      | some p =>
        cases hq:rdOk a.2 with
        | none=>rw[hp,hq] at h;simp at h
        | some q =>
          rw[hp,hq] at h
          simp only[Option.some.injEq] at h
          obtain⟨_,_,p3,p4⟩:=jz hp
          obtain⟨_,_,q3,q4⟩:=jz hq
          rw[←h]
          unfold btwX
          split
          ·have:=kK (Vx p4) (QF q4)
           exact⟨this.2,by simp only;omega⟩
          ·exact⟨(fun s hs=>by cases hs),by simp⟩
def RrI (parts:List (List UInt8)) (k:Nat) (hp:Hp) (nx:Nat) (v w:PV):Prop:=∃o ok,HasW hp nx v o∧goodR o∧o.length≤k*500∧w=int (if ok=true then 0 else 1)∧xV [] true parts=xV o ok (parts.drop k)
noncomputable abbrev Crrr:Ctx:=zF prog [(147,wg [] FSp),(148,zd false [] (FSP1 Qf)),(149,yr [.a,.s 11 spat,.s 11 spat] FTog)]
theorem goodrrr:AM.Good Crrr (fun g=>([]:List Nat).contains g):=zk mixed ⟨kj,by simp,ralt_sound,by simp,KY,by simp,trivial⟩
set_option maxHeartbeats 4000000 in
theorem rReadRange_eval (t:List UInt8) (ht:t.length+1≤lim):∃r0,zi Crrr f93 [str t]=some r0∧Stands r0 (rrP t):=by
 refine qv (sh:=.s 11 spat) rfl ?_
 have hrr:rrP t=.tup [.sl 11 (encR (kN t).1),int (kN t).2]:=by rw[rdRange_same];rfl
 rw[hrr]
 by_cases h400:(400:Int)<t.length
 ·have hv:kN t=([],2):=by unfold kN;rw[if_pos h400]
  simp[h400,hv,encR,zE,f93]
 have hsp:=fun hp nx=>jb t [124,124] hp nx (by omega) (by decide) (by decide)
 obtain⟨parts,hparts⟩:∃parts,zA t [124,124]=parts:=⟨_,rfl⟩
 have hpl:∀p∈parts,p.length≤400:=fun p hp=>by have:=yl (by rw[hparts];exact hp);omega
 have hpn:parts.length≤401:=by have:=yH (s:=t) (sep:=[124,124]) (by simp);rw[hparts] at this;omega
 have hval:kN t=match xV [] true parts with
  | none=>([],10)
  | some o=>if o.2=false then ([],1) else if (100:Int)<o.1.length then ([],2) else (o.1,0):=by unfold kN;rw[if_neg h400,hparts];rfl
 rw[hparts] at hsp
 simp[h400,hsp]
 refine zq (fun k σ hp nx=>σ 14=.own 0 0 parts.length∧σ 15=int parts.length∧σ 16=int k∧1≤nx∧hp 0=some (blkT parts)∧RrI parts k hp nx (σ 4) (σ 5)) parts.length
  ⟨by simp,by simp,by simp,by simp,by simp,[],true,.inl ⟨by simp,rfl⟩,(fun s hs=>by cases hs),by simp,by simp,by simp⟩ ?_
 rintro k σ hp nx hk ⟨h14,h15,h16,hnx,b0,o,ok,hM,hgo,hol,h5,hlo⟩
 by_cases hltk:k<parts.length
 ·have hwk:IntKind.i64.wrap ((k:Int)+1)=(k:Int)+1:=zc (by omega) (by omega)
  obtain⟨s,hs⟩:∃s,parts[k]=s:=⟨_,rfl⟩
  have hsl:s.length≤400:=hpl s (by rw[←hs];exact List.getElem_mem hltk)
  have halt:=fun hp nx=>yP Qf s hp nx (by unfold lim;omega)
  have b0':hp 0=some ⟨9,1,true,parts.map fun p=>[str p]⟩:=b0
  rw[List.drop_eq_getElem_cons hltk,hs] at hlo
  simp only[xV] at hlo
  cases hal:altX s with
  | none =>
    rw[hal] at hlo
    simp only at hlo
    rw[hlo] at hval
    simp only at hval
    have hx:ZG s=([],10):=by unfold ZG;rw[hal]
    simp only[Qf,hx] at halt
    simp[h14,h15,h16,hltk,b0',hs,halt,hval,encR,zE,f93]
  | some m =>
    rw[hal] at hlo
    simp only at hlo
    have hx:ZG s=(m.1,if m.2=true then 0 else 1):=by unfold ZG;rw[hal]
    obtain⟨g1,g2⟩:=altX_good hal
    have hlm:=xH or o m.1
    obtain⟨x,hp',nx',htog,hX,hnx',hfr⟩:=zcf 0 or take0 hM (hgo.small (by unfold lim;omega)) (g1.small (by unfold lim;omega)) hgo g1
    have b0n:hp' 0=some (blkT parts):=by rw[hfr 0 (by omega) (hM.box b0' (by simp))];exact b0
    have hfin:∀n:Int,n=(if (ok&&m.2)=true then 0 else 1)→RrI parts (k+1) hp' nx' x (int n):=fun n hn=>⟨_,_,hX,ym or hgo g1,by omega,by rw[hn],hlo⟩
    simp only[Qf,hx] at halt
    cases hb:m.2
    ·rw[hb] at halt hfin
     simp at halt
     simp[h14,h15,h16,hltk,b0',hs,halt,htog,hwk]
     exact⟨by omega,by omega,b0n,hfin 1 (by simp)⟩
    ·rw[hb] at halt hfin
     simp at halt
     simp[h14,h15,h16,hltk,b0',hs,halt,htog,hwk]
     exact⟨by omega,by omega,b0n,by rw[h5];exact hfin _ (by simp)⟩
 ·obtain rfl:k=parts.length:=by omega
  rw[List.drop_length] at hlo
  simp only[xV] at hlo
  rw[hlo] at hval
  simp only at hval
  cases ok
  ·simp at hval h5
   simp[h14,h15,h16,h5,hval,encR,zE,f93]
  ·simp at hval h5
   have hlen:=hM.len
   by_cases h100:(100:Int)<o.length
   ·have h100':100<o.length:=by omega
    rw[if_pos h100] at hval
    simp[h14,h15,h16,h5,hlen,h100,hval,encR,zE,f93]
   ·have h100':¬100<o.length:=by omega
    rw[if_neg h100] at hval
    rcases hM with⟨h4,rfl⟩ | ⟨id,xs,hid,h4,hb,hxs⟩
    ·simp[h14,h15,h16,h5,h4,hval,encR,zE,f93]
    ·rw[h4] at hlen
     have hxl:xs.length=o.length:=by have:=congrArg List.length hxs;simpa[encR] using this
     have h101:¬(100:Int)<xs.length:=by omega
     simp[h14,h15,h16,h5,h4,h101,hb,hxs,hval,zE,f93]
theorem rReadRange_sound:za prog 93 (zd false [] (FSP1 rrP)) :=
 yw (fn:=f93) goodrrr ⟨_,func93,by kernel_rfl,rfl,by kernel_rfl⟩ false [] _ fun args r h w S vs hz=>by
  obtain⟨l,rfl,hp,rfl⟩:=ze h
  obtain⟨r0,h1,h2⟩:=rReadRange_eval l hp
  exact⟨_,r0,hz,by simp[f93],h1,h2⟩
theorem WM:za prog 89 (zd false [] (FIb jf)) :=
 zI (fn:=f89) qA ⟨_,func89,by kernel_rfl,rfl,by kernel_rfl⟩ false [] _ fun args r h=>by
  obtain⟨a,rfl,rfl⟩:=xK h
  refine⟨by simp[f89],_,zb rfl ?_,zG _⟩
  by_cases h1:3≤a<;>simp[h1,jf,inB,qi,f89]
theorem rwithP_sound:za prog 45 (zd false [] (FIb ZD)) :=
 zI (fn:=f45) qA ⟨_,func45,by kernel_rfl,rfl,by kernel_rfl⟩ false [] _ fun args r h=>by
  obtain⟨a,rfl,rfl⟩:=xK h
  refine⟨by simp[f45],_,zb rfl ?_,zG _⟩
  by_cases h1:7≤a<;>simp[h1,ZD,inB,qi,f45]
noncomputable abbrev Crwv:Ctx:=zF prog [(89,zd false [] (FIb jf))]
theorem goodrwv:AM.Good Crwv (fun g=>([]:List Nat).contains g):=zk mixed ⟨WM,by simp,trivial⟩
theorem usesV_or (a:Int):QH a=(a==2||jf a||a==12):=by
 unfold QH jf inB
 by_cases h:a=2
 ·subst h;decide
 ·have h2:(a==2)=false:=by simpa using h
  rw[h2]
  congr 1
  rw[Bool.eq_iff_iff]
  simp
  omega
theorem rwithV_sound:za prog 88 (zd false [] (FIb QH)) :=
 zI (fn:=f88) goodrwv ⟨_,func88,by kernel_rfl,rfl,by kernel_rfl⟩ false [] _ fun args r h=>by
  obtain⟨a,rfl,rfl⟩:=xK h
  refine⟨by simp[f88],_,zb rfl ?_,zG _⟩
  rw[usesV_or]
  cases h1:a==2<;>cases h2:jf a<;>simp[h1,h2,qi,f88]
noncomputable def FCL (n:Nat):List PV→Option PV:=zH (α:=Cnd×Int) (fun a=>[.agg a.1.enc,int a.2]) (fun a=>a.1.cb≤lim∧a.1.cb≤n∧0≤a.2∧a.2+a.1.cb≤2097152) (fun a=>.tup [int (a.1.rp a.2).1,boo (a.1.rp a.2).2])
theorem zch (n:Nat) (c:Cnd) (l:Int) (hp:Hp) (nx:Nat) (h:c.cb≤lim∧c.cb≤n∧0≤l∧l+c.cb≤2097152):zd false [] (FCL n) [.agg c.enc,int l] hp nx=some (.tup [int (c.rp l).1,boo (c.rp l).2],hp,nx) :=
 zy (hp1:=hp) (show zj hp [.agg c.enc,int l]=some ([.agg c.enc,int l],hp) by simp only[zj,Y1];rfl) (zm (enc:=fun a:Cnd×Int=>[.agg a.1.enc,int a.2]) (a:=(c,l)) (fun x y e=>by
  obtain⟨x1,x2⟩:=x;obtain⟨y1,y2⟩:=y
  simp only[List.cons.injEq,and_true,PV.agg.injEq] at e
  rw[Vf e.1,zB e.2]) h) (.inl rfl)
noncomputable abbrev Crpa (n:Nat):Ctx:=zF prog [(55,zd false [] (FCL n))]
def PaI (c:Cnd) (l:Int) (k:Nat) (v w:PV):Prop:=∃s:Int×Bool,v=int s.1∧w=boo s.2∧0≤s.1∧s.1+partsC (c.args.drop k)≤1048577∧c.rp l=rpC (c.args.drop k) l s
theorem cutC_def (s:Int×Bool):(s.2||decide (200<s.1))=cutC s:=rfl
theorem rcparts_eval (n:Nat) (c:Cnd) (l:Int) (h:c.cb≤lim∧c.cb≤n+1∧0≤l∧l+c.cb≤2097152):zi (Crpa n) f55 [.agg c.enc,int l]=some (.tup [int (c.rp l).1,boo (c.rp l).2]):=by
 have hcb:=Vg c
 have hpe:=zdW c l
 have hl1:=vp c.args
 have hpp:=Wr c.args fun x hx=>Y0 x
 obtain⟨ha,hb,hl0,hlc⟩:=h
 unfold lim at ha
 refine zb rfl ?_
 simp
 refine zq (fun k σ hp nx=>σ 1=int l∧σ 15=.sl 7 (c.args.map Cnd.enc)∧σ 16=int c.args.length∧σ 17=int k∧PaI c l k (σ 6) (σ 7)) c.args.length
  ⟨by simp,by simp,by simp,by simp,(1,decide (20<l)),by simp,by simp,by simp,by rw[List.drop_zero];simp only;omega,by rw[hpe,List.drop_zero]⟩ ?_
 rintro k σ hp nx hk ⟨h1,h15,h16,h17,s,h6,h7,hs0,hs1,he⟩
 by_cases hlt:k<c.args.length
 ·have hm:=Wp (List.getElem_mem hlt)
  have hw:IntKind.i64.wrap ((k:Int)+1)=(k:Int)+1:=zc (by omega) (by omega)
  have hwl:IntKind.i64.wrap (l+1)=l+1:=zc (by omega) (by omega)
  have hdr:partsC (c.args.drop k)=c.args[k].parts+partsC (c.args.drop (k+1)):=by rw[List.drop_eq_getElem_cons hlt,partsC]
  have hcd:=cutC_def s
  cases hc:cutC s
  ·rw[hc] at hcd
   have hcd':=hcd
   rw[Bool.or_eq_false_iff] at hcd'
   obtain⟨d1,d2⟩:=hcd'
   have d2':¬200<s.1:=by simpa using d2
   obtain⟨g1,g2,_,_⟩:=zb2 c.args[k] (l+1)
   have hcall:=fun hp nx=>zch n c.args[k] (l+1) hp nx ⟨by unfold lim;omega,by omega,by omega,by omega⟩
   rw[rpC_drop hlt] at he
   have hst:zcw s (c.args[k].rp (l+1))=(s.1+(c.args[k].rp (l+1)).1,s.2||(c.args[k].rp (l+1)).2):=by unfold zcw;rw[hc];rfl
   rw[hst] at he
   have hws:IntKind.i64.wrap (s.1+(c.args[k].rp (l+1)).1)=s.1+(c.args[k].rp (l+1)).1:=zc (by omega) (by omega)
   simp[h1,h15,h16,h17,h6,h7,d1,d2',hlt,hcall,hw,hwl,hws]
   exact⟨by omega,(s.1+(c.args[k].rp (l+1)).1,s.2||(c.args[k].rp (l+1)).2),rfl,by simp[d1],by simp only;omega,by simp only;omega,he⟩
  ·rw[hc] at hcd
   rw[Yx hc] at he
   cases hd:s.2
   ·rw[hd] at hcd
    simp at hcd
    simp[h1,h15,h16,h17,h6,h7,hd,hcd,hlt,he,qi,f55]
   ·simp[h1,h15,h16,h17,h6,h7,hd,hlt,he,qi,f55]
 ·obtain rfl:k=c.args.length:=by omega
  rw[List.drop_length] at he
  simp only[rpC] at he
  simp[h1,h15,h16,h17,h6,h7,he,qi,f55]
set_option maxRecDepth 100000 in
theorem rcparts_sound:∀n,za prog 55 (zd false [] (FCL n)):=by
 intro n
 induction n with
 | zero =>
   exact Y8 ⟨_,func55,by kernel_rfl,by kernel_rfl⟩ fun args r h=>by
    obtain⟨⟨c,l⟩,_,⟨_,h2,_⟩,_⟩:=ze h
    have:=za7 c
    simp only at h2
    omega
 | succ n ih =>
   have hg:AM.Good (Crpa n) (fun g=>([]:List Nat).contains g):=zk mixed ⟨ih,by simp,trivial⟩
   exact zI (fn:=f55) hg ⟨_,func55,by kernel_rfl,rfl,by kernel_rfl⟩ false [] _ fun args r h=>by
    obtain⟨⟨c,l⟩,rfl,hc,rfl⟩:=ze h
    exact⟨Nat.le_trans (Nat.le_refl 2) (by decide),_,rcparts_eval n c l hc,zG _⟩
noncomputable abbrev Crla:Ctx:=zF prog [(55,zd false [] (FCL lim))]
theorem rlarge_sound:za prog 23 (GC fun c=>boo (cutC (c.rp 1))) :=
 zI (fn:=f23) (zk (q:=[]) mixed ⟨rcparts_sound lim,by simp,trivial⟩:AM.Good Crla _) ⟨_,func23,by kernel_rfl,rfl,by kernel_rfl⟩ false [] _ fun args r h=>by
  obtain⟨c,rfl,hc,rfl⟩:=xx h
  have hc1:=hc.1
  unfold lim at hc1
  have h1:=fun hp nx=>zch lim c 1 hp nx ⟨hc.1,hc.1,by omega,by omega⟩
  refine⟨Nat.le_trans (Nat.le_refl 1) (by decide),_,zb rfl ?_,zG _⟩
  unfold cutC
  cases hd:(c.rp 1).2
  ·simp[h1,hd,qi,f23]
  ·simp[h1,hd,qi,f23]
def f1R (c:Cnd):Bool:=(!(c.kind==4)&&(!c.attr.isEmpty||c.op != 0))||(c.kind != 5&&!c.name.isEmpty)
def f2R (c:Cnd):Bool:=(!((c.kind==4)&&QH c.op)&&decide (0<c.vals.length))||(!((c.kind==4)&&ZD c.op)&&!c.pat.isEmpty)
noncomputable abbrev Crfo:Ctx:=zF prog [(88,zd false [] (FIb QH)),(45,zd false [] (FIb ZD)),(89,zd false [] (FIb jf))]
theorem goodrfo:AM.Good Crfo (fun g=>([]:List Nat).contains g):=zk mixed ⟨rwithV_sound,by simp,rwithP_sound,by simp,WM,by simp,trivial⟩
set_option maxHeartbeats 4000000 in
theorem rformed_eval (c:Cnd) (h:c.cb≤lim):zi Crfo f56 [.agg c.enc]=some (boo (zaE c)):=by
 refine zb rfl ?_
 have hf:zaE c=(!f1R c&&!f2R c&&(if c.kind=3 then (c.args.length:Int)==1 else if c.kind=4∨c.kind=5 then ((c.args.length:Int)==0&&(!jf c.op||(c.vals.length:Int)==1)) else true)):=rfl
 refine yZ (fun st=>st.σ 1=.ref 0 0 0∧st.hp 0=some ⟨25,7,false,[c.enc]⟩) (by simp) ?_
 rintro⟨σ,hp,nx⟩ ⟨h1,b0⟩
 simp only at h1 b0
 refine yZ (fun st=>st.σ 1=.ref 0 0 0∧st.hp 0=some ⟨25,7,false,[c.enc]⟩∧st.σ 3=boo (c.kind==4)) (by simp[h1,b0]) ?_
 clear h1 b0 σ hp nx
 rintro⟨σ,hp,nx⟩ ⟨h1,b0,h3⟩
 simp only at h1 b0 h3
 refine yZ (fun st=>st.σ 1=.ref 0 0 0∧st.hp 0=some ⟨25,7,false,[c.enc]⟩∧st.σ 3=boo (c.kind==4)∧f1R c=false) ?_ ?_
 ·by_cases k4:c.kind=4
  ·have k5:(c.kind==5)=false:=by rw[k4];rfl
   have k4':(c.kind==4)=true:=by rw[k4];rfl
   cases hn:c.name.isEmpty
   ·have hv:f1R c=true:=by simp[f1R,k4,hn]
    rw[hv] at hf
    simp[h1,b0,h3,k4,hn,hf,qi,f56]
   ·have hv:f1R c=false:=by simp[f1R,k4,hn]
    simp[h1,b0,h3,k4,hn,hv]
  ·have k4':(c.kind==4)=false:=by simpa using k4
   cases hx:(!c.attr.isEmpty||c.op != 0)
   ·have hx':=hx
    rw[Bool.or_eq_false_iff] at hx'
    obtain⟨x1,x2⟩:=hx'
    simp at x1 x2
    by_cases k5:c.kind=5
    ·have hv:f1R c=false:=by simp[f1R,k5,hx]
     simp[h1,b0,h3,k5,x1,x2,hv]
    ·have k5':(c.kind==5)=false:=by simpa using k5
     have k5n:(c.kind != 5)=true:=by simp[bne,k5']
     cases hn:c.name.isEmpty
     ·have hv:f1R c=true:=by simp[f1R,k5,hn]
      rw[hv] at hf
      simp[h1,b0,h3,k4,k4',k5n,x1,x2,hn,hf,qi,f56]
     ·have hv:f1R c=false:=by simp[f1R,hx,hn]
      simp[h1,b0,h3,k4,k4',k5n,x1,x2,hn,hv]
   ·have hv:f1R c=true:=by simp[f1R,k4,hx]
    rw[hv] at hf
    cases ha:c.attr.isEmpty
    ·simp[h1,b0,h3,k4,k4',ha,hf,qi,f56]
    ·rw[ha] at hx
     have hx':(c.op==0)=false:=by simpa using hx
     have hx2:(c.op != 0)=true:=by simpa using hx
     simp[h1,b0,h3,k4,k4',ha,hx',hx2,hf,qi,f56]
 clear h1 b0 h3 σ hp nx
 rintro⟨σ,hp,nx⟩ ⟨h1,b0,h3,hv1⟩
 simp only at h1 b0 h3
 rw[hv1] at hf
 refine yZ (fun st=>st.σ 1=.ref 0 0 0∧st.hp 0=some ⟨25,7,false,[c.enc]⟩∧f2R c=false) ?_ ?_
 ·have hkey:∀a b:Bool,((c.kind==4)&&QH c.op)=a→((c.kind==4)&&ZD c.op)=b→f2R c=((!a&&decide (0<c.vals.length))||(!b&&!c.pat.isEmpty)):=fun a b e1 e2=>by unfold f2R;rw[e1,e2]
  by_cases k4:c.kind=4
  ·have k4':(c.kind==4)=true:=by rw[k4];rfl
   cases u1:QH c.op<;>cases u2:ZD c.op<;>cases hp1:c.pat.isEmpty<;>by_cases hl:0<c.vals.length <;>
    (have hv:=hkey _ _ rfl rfl;rw[k4',u1,u2,hp1] at hv;simp[hl] at hv;simp[h1,b0,h3,k4,u1,u2,hp1,hl,hv,hf,qi,f56])
  ·have k4':(c.kind==4)=false:=by simpa using k4
   cases hp1:c.pat.isEmpty<;>by_cases hl:0<c.vals.length <;>
    (have hv:=hkey _ _ rfl rfl;rw[k4',hp1] at hv;simp[hl] at hv;simp[h1,b0,h3,k4,k4',hp1,hl,hv,hf,qi,f56])
 clear h1 b0 h3 σ hp nx
 rintro⟨σ,hp,nx⟩ ⟨h1,b0,hv2⟩
 simp only at h1 b0
 rw[hv2] at hf
 simp only[Bool.not_false,Bool.true_and] at hf
 by_cases k3:c.kind=3
 ·rw[if_pos k3] at hf
  simp[h1,b0,k3,hf,qi,f56]
 have k3':(c.kind==3)=false:=by simpa using k3
 rw[if_neg k3] at hf
 by_cases k45:c.kind=4∨c.kind=5
 ·rw[if_pos k45] at hf
  cases ha:((c.args.length:Int)==0)<;>cases ho:jf c.op<;>rcases k45 with k | k <;>
   simp[h1,b0,k,ha,ho,hf,qi,f56]
 ·rw[if_neg k45] at hf
  have k4':(c.kind==4)=false:=by simp;omega
  have k5':(c.kind==5)=false:=by simp;omega
  simp[h1,b0,k3',k4',k5',hf,qi,f56]
theorem rformed_sound:za prog 56 (GC fun c=>boo (zaE c)) :=
 zI (fn:=f56) goodrfo ⟨_,func56,by kernel_rfl,rfl,by kernel_rfl⟩ false [] _ fun args r h=>by
  obtain⟨c,rfl,hc,rfl⟩:=xx h
  exact⟨by simp[f56],_,rformed_eval c hc.1,zG _⟩
end Go.Proofs.YtdkfdoeijcfbhaaGreatDoor
