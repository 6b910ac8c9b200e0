/-
combine.
Copies of versions and stretches.
Plain law: what is read of a range is right, and small.
strings.SplitSeq: the function over which a loop ranges gives the parts, one a round.
-/
import Derived.Test.YtpeaooooimfihaaGreatDoorG19
import Derived.Test.YtpeaooooimfihaaGreatDoorG15
import Derived.Test.YtpeaooooimfihaaGreatDoorG12
import Derived.RangeFuncBox
import Derived.RangeFuncLeaves
import Derived.Shelf.Abstract
import Derived.WalkKit
import Derived.OwnWalkIn
import Derived.TacticsInMore
import Derived.LoopNIn
import Derived.LoopIn
set_option maxRecDepth 8000
namespace Go.Proofs.YtpeaooooimfihaaGreatDoor
open Go.Proofs.Tryz
open Go.RowKit Go.AM
theorem sortCuts_sound:za prog 107 (hSort 5 108 cfC domC) :=
 hSort_sound (by decide) ⟨_,func107,by kernel_rfl,by kernel_rfl⟩ Tryz.sortC_ok cmpOkC
noncomputable def FBB (f:Bool→Bool→Bool):List PV→Option PV:=zH (α:=Bool×Bool) (fun a=>[boo a.1,boo a.2]) (fun _=>True) (fun a=>boo (f a.1 a.2))
theorem FBB_call (f:Bool→Bool→Bool) (a b:Bool) (hp:Hp) (nx:Nat):zf false [] (FBB f) [boo a,boo b] hp nx=some (boo (f a b),hp,nx) :=
 zK rfl (zn (enc:=fun a:Bool×Bool=>[boo a.1,boo a.2]) (a:=(a,b)) (fun x y e=>by
  obtain⟨x1,x2⟩:=x
  obtain⟨y1,y2⟩:=y
  simp only[List.cons.injEq,and_true] at e
  rw[jY e.1,jY e.2]) trivial) (.inl rfl)
theorem rrAnd_sound:za prog 70 (zf false [] (FBB and)) :=
 zO (fn:=f70) wT ⟨_,func70,by kernel_rfl,rfl,by kernel_rfl⟩ false [] _ fun args r h=>by
  obtain⟨⟨a,b⟩,rfl,_,rfl⟩:=ze h
  exact⟨by simp[f70],_,zb rfl (by cases a<;>simp[qi,f70]),zM _⟩
theorem rrOr_sound:za prog 71 (zf false [] (FBB or)) :=
 zO (fn:=f71) wT ⟨_,func71,by kernel_rfl,rfl,by kernel_rfl⟩ false [] _ fun args r h=>by
  obtain⟨⟨a,b⟩,rfl,_,rfl⟩:=ze h
  exact⟨by simp[f71],_,zb rfl (by cases a<;>simp[qi,f71]),zM _⟩
theorem sortCuts_call {hp:Hp} {nx:Nat} {v:PV} {l:List Cut} (h:OwnS hp nx 104 5 v (zU l)) (hs:∀c∈l,c.v.small) (hl:l.length<4611686018427387904) :
  ∃hp',hSort 5 108 cfC domC [v,.fn (.func 108) [] []] hp nx=some (.tup [],hp',nx)∧OwnS hp' nx 104 5 v (zU (jD l))∧∀j,(∀n,v≠.own j 0 n)→hp' j=hp j:=by
 have hlen:(zU (jD l)).length=(zU l).length:=by
  have:=(wN l).length_eq
  simpa[zU] using this
 rcases h with⟨rfl,he⟩ | ⟨id,h1,rfl,h2⟩
 ·refine⟨hp,rfl,.inl ⟨rfl,?_⟩,fun _ _=>rfl⟩
  rw[he] at hlen
  exact List.length_eq_zero_iff.1 hlen
 ·by_cases h0:(zU l).length=0
  ·refine⟨hp,by simp only[hSort,if_pos h0],?_,fun _ _=>rfl⟩
   have e1:zU l=[]:=List.length_eq_zero_iff.1 h0
   rw[e1] at hlen h2
   have e2:=List.length_eq_zero_iff.1 hlen
   rw[e1,e2]
   exact .inr ⟨id,h1,rfl,h2⟩
  ·refine⟨upd hp id (some ⟨104,5,true,zU (jD l)⟩),?_,.inr ⟨id,h1,by rw[hlen],by simp⟩,fun j hj=>qd _ _ _ _ fun e=>hj (zU l).length (by subst e;rfl)⟩
   unfold hSort
   simp only[if_neg h0,h2]
   rw[if_pos ⟨rfl,rfl,rfl,by simp,by simpa[zU] using hl,by simpa using weakC l,fun x hx=>by
    simp only[List.drop_zero,List.take_length] at hx
    obtain⟨c,hc,rfl⟩:=List.mem_map.1 hx
    exact⟨c,rfl,hs c hc⟩⟩]
   simp[sortCu_enc]
theorem row_cells {c:List PV} {s:Str} (h:fixC spat c=s.enc):∃x3 x5 x6 x7 x8 x9 x10,c=[int s.lo.v.a,int s.lo.v.b,int s.lo.v.c,x3,boo s.lo.after,x5,x6,x7,x8,x9,x10]∧n1 1 x3=.sl 1 (encT s.lo.v.pre)∧x3.isCell=true:=by
 have hl:=wp spat c
 rw[h] at hl
 simp[Str.enc,Cut.enc] at hl
 match c,hl with
 | [c0,c1,c2,c3,c4,c5,c6,c7,c8,c9,c10],_ =>
   simp[Str.enc,Cut.enc] at h
   obtain⟨h0,h1,h2,h3,h4,h5,h6,h7,h8,h9,h10⟩:=h
   subst h0;subst h1;subst h2;subst h4
   refine⟨c3,c5,c6,c7,c8,c9,c10,rfl,h3,?_⟩
   cases c3<;>first | rfl | (simp[n1] at h3)
theorem setLast_set {out:List Str} {m:Nat} (hm:m<out.length) (he:out.length=m+1) (c:Cut):jk out c=out.set m ⟨out[m].lo,c,false⟩:=by
 unfold jk
 have h0:out≠[]:=by rintro rfl;simp at hm
 rw[List.getLast?_eq_some_getLast h0]
 have h1:out.getLast h0=out[m]:=by
  rw[List.getLast_eq_getElem]
  congr 1
  omega
 simp only[h1]
 apply List.ext_getElem
 ·simp;omega
 ·intro i hi hi'
  rw[List.getElem_set]
  split
  ·rename_i e
   subst e
   rw[List.getElem_append_right (by simp;omega)]
   simp
  ·rw[List.getElem_append_left (by simp at hi ⊢;omega)]
   simp
theorem swS_open (is:Cut→Bool) (st:Bool×List Str) (c:Cut) (h:st.1=true→st.2≠[]):(swS is st c).1=true→(swS is st c).2≠[]:=by
 obtain⟨o,out⟩:=st
 unfold swS
 cases is c<;>cases o<;>simp at h ⊢<;>assumption
theorem cov_call (l:List Str) (c:Cut) (hp:Hp) (nx:Nat) (hl:qW l) (hc:c.v.small):zC [.s 11 spat,.g cpat] (FRC fun l c=>boo (covA l c)) [.sl 11 (encR l),.agg c.enc] hp nx=some (boo (covA l c),hp,nx) :=
 wy (show zi hp [.sl 11 (encR l),.agg c.enc]=some ([.sl 11 (encR l),.agg c.enc],hp) by simp[Cut.enc]) (by
  have e1:(Sh.s 11 spat).fix (.sl 11 (encR l))=.sl 11 (encR l):=by
   simp only[Sh.fix_s,encR,List.map_map]
   congr 1
  have e2:(Sh.g cpat).fix (.agg c.enc)=.agg c.enc:=by simp[Cut.enc]
  show FRC _ [(Sh.s 11 spat).fix (.sl 11 (encR l)),(Sh.g cpat).fix (.agg c.enc)]=_
  rw[e1,e2]
  exact zn (enc:=fun a:List Str×Cut=>[PV.sl 11 (encR a.1),.agg a.2.enc]) (a:=(l,c)) rc_inj ⟨hl,hc⟩) (.inl rfl)
noncomputable abbrev Ccmb:Ctx:=zF prog [(107,hSort 5 108 cfC domC),(109,zC [.s 11 spat,.g cpat] (FRC fun l c=>boo (covA l c))),
 (70,zf false [] (FBB and)),(71,zf false [] (FBB or))]
theorem goodcmb:AM.Good Ccmb (fun g=>[109].contains g):=zm mixed ⟨sortCuts_sound,by simp,covers_sound,fun _=>qq _ _,rrAnd_sound,by simp,rrOr_sound,by simp,trivial⟩
theorem cuts_take {l:List Str} {k:Nat} (h:k<l.length):zI (l.take (k+1))=zI (l.take k)++(if l[k].endless=true then [l[k].lo] else [l[k].lo,l[k].hi]):=by
 rw[List.take_succ_eq_append_getElem h,yR]
 simp[zI]
theorem swL_take (is:Cut→Bool) {l:List Cut} {k:Nat} (h:k<l.length) (st:Bool×List Str):swL is (l.take (k+1)) st=swS is (swL is (l.take k) st) l[k]:=by
 unfold swL
 rw[List.take_succ_eq_append_getElem h,List.foldl_append]
 rfl
theorem encCs_app (a b:List Cut):zU (a++b)=zU a++zU b:=by simp[zU]
noncomputable def vv (f:Bool→Bool→Bool) (a b:List Str):Option Blk:=if wO f a b=[] then none else some ⟨106,11,true,encR (wO f a b)⟩
theorem killV_own (i o n:Nat) (hp:Hp):killV (.own i o n) hp=upd hp i none:=rfl
theorem ownS_far {hp:Hp} {nx e s:Nat} {v:PV} {xs:List (List PV)} (h:OwnS hp nx e s v xs) {j:Nat} (hj:nx≤j):∀n,v≠.own j 0 n:=by
 rcases h with⟨rfl,_⟩ | ⟨id,h1,rfl,_⟩
 ·intro n e;cases e
 ·intro n e;injection e with e;omega
set_option maxHeartbeats 4000000 in
theorem combine_eval (f:Bool→Bool→Bool) (hv:PV) (hcall:∀x y hp nx,qN Ccmb hp nx (some hv) [boo x,boo y]=some (boo (f x y),hp,nx)) (a b:List Str) (ha:qW a) (hb:qW b) :
  ∃x hp nx,qj Ccmb f69 [.sl 11 (encR a),.sl 11 (encR b),hv] (fun _=>none) 0=some (x,hp,nx)∧OwnRN spat (vv f a b) x hp nx:=by
 refine zN rfl ?_
 have hsa:=ha
 have hsb:=hb
 obtain⟨ha1,ha2⟩:=ha
 obtain⟨hb1,hb2⟩:=hb
 unfold lim at ha1 hb1
 obtain⟨ls,hls⟩:∃ls:List (List Str),[a,b]=ls:=⟨_,rfl⟩
 obtain⟨rows,hrows⟩:∃rows:List (List PV),[[PV.sl 11 (encR a)],[.sl 11 (encR b)]]=rows:=⟨_,rfl⟩
 have hrow:∀i,i<2→∃l:List Str,(zI (ls.take (i+1)).flatten=zI (ls.take i).flatten++zI l)∧rows[i]?=some [PV.sl 11 (encR l)]∧l.length≤1048576∧(∀s∈l,s.small)∧(zI (ls.take i).flatten).length≤2097152:=by
  intro i hi
  rw[←hls,←hrows]
  rcases (by omega:i=0∨i=1) with rfl | rfl
  ·exact⟨a,by simp[zI],rfl,ha1,ha2,by simp[zI]⟩
  ·exact⟨b,by simp[yR],rfl,hb1,hb2,by have:=yr a;simp;omega⟩
 simp[zd,zl,zc,hrows]
 refine zy (fun i σ hp nx=>σ 0=.sl 11 (encR a)∧σ 1=.sl 11 (encR b)∧σ 2=hv∧σ 19=.own 0 0 2∧σ 20=int 2∧σ 21=int i∧1≤nx∧hp 0=some ⟨69,1,true,rows⟩∧(∀n,σ 7≠.own 0 0 n)∧OwnS hp nx 104 5 (σ 7) (zU (zI (ls.take i).flatten))) 2
  ⟨by simp,by simp,by simp,by simp,by simp,by simp,by simp,by simp,by simp,.inl ⟨by simp,by simp[zI,zU]⟩⟩ ?_
 rintro i σ hp nx hi ⟨h0,h1,h2,h19,h20,h21,hnx,b0,hn7,hO⟩
 by_cases hlt:i<2
 ·obtain⟨l,hl,hr,hll,hls2,hcl⟩:=hrow i hlt
  obtain⟨hr1,hr2⟩:=List.getElem?_eq_some_iff.1 hr
  have hw:IntKind.i64.wrap ((i:Int)+1)=(i:Int)+1:=zh (by omega) (by omega)
  have hel:(encR l).length=l.length:=by simp[encR]
  have hltI:(i:Int)<2:=by omega
  simp[h0,h1,h2,h19,h20,h21,hltI,hlt,b0,hr1,hr2,hel]
  refine zy (fun k σ hp nx=>σ 0=.sl 11 (encR a)∧σ 1=.sl 11 (encR b)∧σ 2=hv∧σ 19=.own 0 0 2∧σ 20=int 2∧σ 21=int i∧1≤nx∧hp 0=some ⟨69,1,true,rows⟩∧(∀n,σ 7≠.own 0 0 n)∧OwnS hp nx 104 5 (σ 7) (zU (zI (ls.take i).flatten++zI (l.take k))) ∧
   σ 25=.sl 11 (encR l)∧σ 26=int l.length∧σ 27=int k) l.length
   ⟨by simp[h0],by simp[h1],by simp[h2],by simp[h19],by simp[h20],by simp[h21],hnx,b0,by simpa using hn7,by simpa[zI] using hO,by simp,by simp,by simp⟩ ?_
  clear h0 h1 h2 h19 h20 h21 hnx b0 hn7 hO hi σ hp nx
  rintro k σ hp nx hk ⟨h0,h1,h2,h19,h20,h21,hnx,b0,hn7,hO,h25,h26,h27⟩
  by_cases hltk:k<l.length
  ·have hwk:IntKind.i64.wrap ((k:Int)+1)=(k:Int)+1:=zh (by omega) (by omega)
   have hke:∀h:k<(encR l).length,(encR l)[k]=l[k].enc:=fun h=>by simp[encR]
   have hcn:=yr (l.take k)
   rw[List.length_take] at hcn
   have hct:=cuts_take hltk
   obtain⟨xs,hxs⟩:∃xs,zU (zI (ls.take i).flatten++zI (l.take k))=xs:=⟨_,rfl⟩
   have hxl:xs.length≤4194304+2:=by rw[←hxs];simp[zU];omega
   rw[hxs] at hO
   have hE:zU (zI (ls.take i).flatten++zI (l.take (k+1)))=xs++(if l[k].endless=true then [l[k].lo] else [l[k].lo,l[k].hi]).map Cut.enc:=by
    rw[hct,←List.append_assoc,encCs_app,hxs];rfl
   have hkn:=fun hp'=>qu hO hp' nx (ownS_far hO (Nat.le_refl _))
   have hk0:=fun hp'=>qu hO hp' 0 hn7
   obtain⟨s,hs⟩:∃s,l[k]=s:=⟨_,rfl⟩
   rw[hs] at hct hke hE
   have hap1:=OwnS.append1 (P:=prog) (t:=133) (c:=s.lo.enc) (hO.more (some ⟨106,11,false,[s.enc]⟩)) el133 sz104 by104 ze104 rfl (by omega) (by unfold maxLen;omega) (by omega)
   have hO1:=OwnS.after (hp:=upd hp nx (some ⟨106,11,false,[s.enc]⟩)) (nx:=nx+1) (e:=104) (s:=5) (v:=σ 7) (xs:=xs) (c:=s.lo.enc) (tmp:=some ⟨104,5,true,[s.lo.enc]⟩)
   have hap2:=OwnS.append1 (P:=prog) (t:=133) (c:=s.hi.enc) hO1 el133 sz104 by104 ze104 rfl (by omega) (by simp;unfold maxLen;omega) (by simp;omega)
   rw[show (xs++[s.lo.enc]).length=xs.length+1 by simp,List.append_assoc,show[s.lo.enc]++[s.hi.enc]=[s.lo.enc,s.hi.enc] from rfl] at hap2
   have hO2:=OwnS.after (hp:=upd (killV (σ 7) (upd (upd hp nx (some ⟨106,11,false,[s.enc]⟩)) (nx+1) (some ⟨104,5,true,[s.lo.enc]⟩))) (nx+1+1) (some ⟨104,5,true,xs++[s.lo.enc]⟩)) (nx:=nx+1+2) (e:=104) (s:=5) (v:=.own (nx+1+1) 0 (xs.length+1)) (xs:=xs++[s.lo.enc]) (c:=s.hi.enc) (tmp:=some ⟨104,5,true,[s.hi.enc]⟩)
   rw[show (xs++[s.lo.enc]).length=xs.length+1 by simp,List.append_assoc,show[s.lo.enc]++[s.hi.enc]=[s.lo.enc,s.hi.enc] from rfl] at hO2
   simp only[Str.enc,Cut.enc,List.cons_append,List.nil_append] at hap1 hap2 hO1 hO2 hke
   have m1:¬nx=nx+1+1:=by omega
   have m2:¬nx=nx+1+2:=by omega
   have m3:¬nx=nx+1+2+1:=by omega
   have n1:¬0=nx:=by omega
   have n2:¬0=nx+1:=by omega
   have n3:¬0=nx+2:=by omega
   have n4:¬0=nx+3:=by omega
   have n5:¬0=nx+4:=by omega
   cases hen:s.endless
   ·rw[hen] at hct
    rw[hen] at hap1 hap2 hO1 hO2 hke
    simp[h0,h1,h2,h19,h20,h21,h25,h26,h27,hltk,hel,hke,hap1,hap2,hkn,hwk,m1,m2,m3,zd,zl,zc]
    refine⟨by omega,?_,?_⟩
    ·simp[killV_own,hk0,b0,n1]
    ·rw[hE,hen]
     simp only[Bool.false_eq_true,if_false,List.map_cons,List.map_nil,Cut.enc]
     exact hO2
   ·rw[hen] at hct
    rw[hen] at hap1 hap2 hO1 hO2 hke
    simp[h0,h1,h2,h19,h20,h21,h25,h26,h27,hltk,hel,hke,hap1,hkn,hwk,m1,m2,m3,zd,zl,zc]
    refine⟨by omega,?_,?_⟩
    ·simp[hk0,b0,n1]
    ·rw[hE,hen]
     simp only[if_true,List.map_cons,List.map_nil,Cut.enc]
     exact hO1
  ·obtain rfl:k=l.length:=by omega
   rw[List.take_length,←hl] at hO
   simp[h0,h1,h2,h19,h20,h21,h25,h26,h27,hw]
   exact⟨by omega,hnx,b0,hn7,hO⟩
 ·obtain rfl:i=2:=by omega
  have hls3:(ls.take 2).flatten=a++b:=by rw[←hls];simp
  rw[hls3] at hO
  have hsm:∀c∈zI (a++b),c.v.small:=kd (Q:=fun c=>c.v.small) fun s hs=>by
   rcases List.mem_append.1 hs with h | h
   ·exact ha2 s h
   ·exact hb2 s h
  have hcl:=yr (a++b)
  rw[List.length_append] at hcl
  obtain⟨hp',hsort,hO',hfr'⟩:=sortCuts_call hO hsm (by omega)
  obtain⟨v,hv7⟩:∃v,σ 7=v:=⟨_,rfl⟩
  obtain⟨cs,hcs⟩:∃cs,jD (zI (a++b))=cs:=⟨_,rfl⟩
  have hcsl:cs.length≤4194304:=by rw[←hcs,(wN _).length_eq];omega
  have hcsm:∀c∈cs,c.v.small:=fun c hc=>hsm c ((wN _).mem_iff.1 (by rw[hcs];exact hc))
  have hfin:wO f a b=(swL (fun c=>f (covA a c) (covA b c)) cs (false,[])).2:=by rw[←hcs,yR];rfl
  obtain⟨is,his⟩:∃is:Cut→Bool,(fun c=>f (covA a c) (covA b c))=is:=⟨_,rfl⟩
  have hisc:∀c,f (covA a c) (covA b c)=is c:=fun c=>by rw[←his]
  rw[his] at hfin
  rw[hv7] at hsort hO'
  rw[hcs] at hO'
  clear hO hcs hsm hrow hls3
  have hlen:=hO'.len el133
  have hel:(zU cs).length=cs.length:=by simp[zU]
  rw[hel] at hlen
  simp[h0,h1,h2,h19,h20,h21,hv7,hsort,hlen]
  refine zy (fun k σ hp nx=>σ 0=.sl 11 (encR a)∧σ 1=.sl 11 (encR b)∧σ 2=hv∧σ 48=v∧σ 49=int cs.length∧σ 50=int k∧OwnS hp nx 104 5 v (zU cs)∧∃xs,OwnS hp nx 106 11 (σ 12) xs∧xs.map (fixC spat)=encR (swL is (cs.take k) (false,[])).2 ∧
    σ 13=boo (swL is (cs.take k) (false,[])).1∧(∀id n m,v=.own id 0 n→σ 12≠.own id 0 m)∧((swL is (cs.take k) (false,[])).1=true→(swL is (cs.take k) (false,[])).2≠[])∧xs.length≤k∧(xs=[]→σ 12=.nil)) cs.length
   ⟨by simp[h0],by simp[h1],by simp[h2],by simp,by simp,by simp,hO',[],.inl ⟨by simp,rfl⟩,by simp[swL,encR],by simp[swL],by simp,by simp[swL],by simp,by simp⟩ ?_
  clear h0 h1 h2 h19 h20 h21 hnx b0 hn7 hO' hi σ hp nx hlt hsort hlen hfr' hv7 hp'
  rintro k σ hp nx hk ⟨h0,h1,h2,h48,h49,h50,hO,xs,hX,hxs,h13,hap,hop,hxk,hxn⟩
  by_cases hltk:k<cs.length
  ·have hwk:IntKind.i64.wrap ((k:Int)+1)=(k:Int)+1:=zh (by omega) (by omega)
   obtain⟨id,hid,rfl,hh⟩:=hO.at_ (by rw[hel];omega)
   have hst:=swL_take is hltk (false,[])
   obtain⟨st,hst0⟩:∃st,swL is (cs.take k) (false,[])=st:=⟨_,rfl⟩
   obtain⟨c,hc⟩:∃c,cs[k]=c:=⟨_,rfl⟩
   rw[hc,hst0] at hst
   rw[hst0] at hxs h13 hop
   have hopn:=swS_open is st c hop
   have hcsmall:c.v.small:=hcsm c (by rw[←hc];exact List.getElem_mem hltk)
   have hke:∀h:k<(zU cs).length,(zU cs)[k]=c.enc:=fun h=>by simp[zU,hc]
   have hca:=fun hp nx=>cov_call a c hp nx hsa hcsmall
   have hcb:=fun hp nx=>cov_call b c hp nx hsb hcsmall
   have hcall':=fun hp nx=>hcall (covA a c) (covA b c) hp nx
   rw[hisc c] at hcall'
   simp only[Cut.enc] at hca hcb hke
   have m0:¬id=nx:=by omega
   have m1:¬id=nx+1:=by omega
   have m2:¬id=nx+1+1:=by omega
   rw[hel] at hO
   have hki:=fun hp'=>qu hX hp' id (fun n=>hap id _ n rfl)
   have hswS:swS is st c=(is c,if (is c&&!st.1)=true then st.2++[qn c] else if (!is c&&st.1)=true then jk st.2 c else st.2):=rfl
   rw[hswS] at hst
   rw[hswS] at hopn
   simp only at hopn
   obtain⟨op,out⟩:=st
   simp only at hxs h13 hop hopn
   cases hb:is c<;>cases op
   ·rw[hb] at hcall' hst
    simp at hst
    simp[h0,h1,h2,h48,h49,h50,hel,hltk,hh,hke,hca,hcb,hcall',h13,hwk,m0,hst]
    exact⟨by omega,hO.more _,xs,hX.more _,hxs,fun i n m e _=>hap i _ m (by rw[e]),by omega,hxn⟩
   ·rw[hb] at hcall' hst
    simp at hst
    have hne:=hop rfl
    obtain⟨m,hm⟩:∃m,out.length=m+1:=⟨out.length - 1,by have:=List.length_pos_iff.2 hne;omega⟩
    have hxl:xs.length=m+1:=by have:=congrArg List.length hxs;simp[encR] at this;omega
    obtain⟨id2,hid2,h12,hh2⟩:=hX.at_ (by omega)
    have hid12:¬id2=id:=fun e=>hap id _ _ rfl (by rw[h12,e])
    have hid21:¬id=id2:=fun e=>hid12 e.symm
    have p0:¬id2=nx:=by omega
    rw[hxl] at h12
    have hlm:m<xs.length:=by omega
    have hlo:m<out.length:=by omega
    have hrm:fixC spat xs[m]=out[m].enc:=by
     have e1:(xs.map (fixC spat))[m]?=(encR out)[m]?:=by rw[hxs]
     simp only[List.getElem?_map,List.getElem?_eq_getElem hlm,encR,List.getElem?_eq_getElem hlo,Option.map_some,Option.some.injEq] at e1
     exact e1
    obtain⟨x3,x5,x6,x7,x8,x9,x10,hrow,hn3,hcell⟩:=row_cells hrm
    have wm:IntKind.i64.wrap (m:Int)=(m:Int):=zh (by omega) (by omega)
    have wm1:IntKind.i64.wrap ((m:Int)+1 - 1)=(m:Int):=by rw[zh (by omega) (by omega)];omega
    simp[h0,h1,h2,h48,h49,h50,hel,hltk,hh,hke,hca,hcb,hcall',h13,hwk,m0,hst,h12,hh2,p0,wm,wm1,hlm,hrow,hcell,qy]
    refine⟨by omega,.inr ⟨id,by omega,by rw[hel],by simp[hid21,m0,hh]⟩,xs.set m [int out[m].lo.v.a,int out[m].lo.v.b,int out[m].lo.v.c,x3,boo out[m].lo.after,int c.v.a,int c.v.b,int c.v.c,.sl 1 (encT c.v.pre),boo c.after,boo false],.inr ⟨id2,by omega,by simp[hxl],by simp⟩,?_,fun i n k' e _ e2=>absurd (e2.trans e.symm) hid12,by simp;omega,fun e=>by have:=congrArg List.length e;rw[List.length_set,hxl] at this;cases this⟩
    rw[List.map_set,hxs,setLast_set hlo hm c,encR,encR,List.map_set]
    simp[hn3,Str.enc,Cut.enc]
   ·rw[hb] at hcall' hst
    simp at hst
    have hap1:=OwnS.append1 (P:=prog) (t:=69) (c:=[int c.v.a,int c.v.b,int c.v.c,.sl 1 (encT c.v.pre),boo c.after,int 0,int 0,int 0,.nil,boo false,boo true]) (hX.more (some ⟨104,5,false,[c.enc]⟩)) el69 sz106 by106 ze106 rfl (by omega) (by unfold maxLen;omega) (by omega)
    simp only[Cut.enc] at hap1
    simp[h0,h1,h2,h48,h49,h50,hel,hltk,hh,hke,hca,hcb,hcall',h13,hwk,m0,hst,hap1,zw,zJ,zd,zl,zc]
    refine⟨by omega,.inr ⟨id,by omega,by rw[hel],by simp[hki,hh,m0,m1,m2]⟩,xs++[[int c.v.a,int c.v.b,int c.v.c,.sl 1 (encT c.v.pre),boo c.after,int 0,int 0,int 0,.nil,boo false,boo true]],by simpa using OwnS.after,?_,fun i n m e _ e2=>by omega,by simp;omega⟩
    rw[List.map_append,hxs]
    simp[encR,qn,Str.enc,Cut.enc,cut0,encT]
   ·rw[hb] at hcall' hst
    simp at hst
    simp[h0,h1,h2,h48,h49,h50,hel,hltk,hh,hke,hca,hcb,hcall',h13,hwk,m0,hst]
    exact⟨by omega,hO.more _,xs,hX.more _,hxs,fun i n m e _=>hap i _ m (by rw[e]),hop rfl,by omega,hxn⟩
  ·obtain rfl:k=cs.length:=by omega
   rw[List.take_length] at hxs
   rw[←hfin] at hxs
   have hxl:xs.length=(wO f a b).length:=by have:=congrArg List.length hxs;simpa[encR] using this
   simp[h0,h1,h2,h48,h49,h50,f69]
   unfold vv
   rcases hX with⟨h12,rfl⟩ | ⟨id2,hid2,h12,hh2⟩
   ·rw[if_pos (List.length_eq_zero_iff.1 hxl.symm)]
    exact h12
   ·by_cases hz:wO f a b=[]
    ·rw[if_pos hz]
     rw[hz] at hxl
     exact hxn (List.length_eq_zero_iff.1 hxl)
    ·rw[if_neg hz]
     refine⟨id2,_,h12,hh2,rfl,?_⟩
     simp only[fixB,hxs]
theorem vS (l:List Str):(Sh.s 11 spat).fix (.sl 11 (encR l))=.sl 11 (encR l):=by
 simp only[Sh.fix_s,encR,List.map_map]
 congr 1
noncomputable def FCmb:List PV→Option (Option Blk):=fun args =>
 match zH (α:=List Str×List Str) (fun a=>[.sl 11 (encR a.1),.sl 11 (encR a.2),.fn (.func 70) [] []]) (fun a=>qW a.1∧qW a.2) (fun a=>vv and a.1 a.2) args with
 | some r=>some r
 | none=>zH (α:=List Str×List Str) (fun a=>[.sl 11 (encR a.1),.sl 11 (encR a.2),.fn (.func 71) [] []]) (fun a=>qW a.1∧qW a.2) (fun a=>vv or a.1 a.2) args
theorem cmb_inj (g:PV):∀a b:List Str×List Str,[PV.sl 11 (encR a.1),.sl 11 (encR a.2),g]=[.sl 11 (encR b.1),.sl 11 (encR b.2),g]→a=b:=by
 rintro⟨a1,a2⟩ ⟨b1,b2⟩ e
 simp only[List.cons.injEq,and_true] at e
 obtain⟨e1,e2⟩:=e
 injection e1 with _ e1
 injection e2 with _ e2
 rw[yq e1,yq e2]
set_option maxRecDepth 100000 in
theorem combine_sound:za prog 69 (wF [.s 11 spat,.s 11 spat] FCmb) :=
 kE (fn:=f69) goodcmb ⟨_,func69,by kernel_rfl,rfl,by kernel_rfl⟩ _ spat _ fun args r h=>by
  unfold FCmb at h
  split at h
  ·rename_i r0 h0
   injection h with h;subst h
   obtain⟨⟨a,b⟩,rfl,⟨h1,h2⟩,rfl⟩:=ze h0
   exact⟨by simp[f69],combine_eval and _ (fun x y hp nx=>by simp[FBB_call]) a b h1 h2⟩
  ·obtain⟨⟨a,b⟩,rfl,⟨h1,h2⟩,rfl⟩:=ze h
   exact⟨by simp[f69],combine_eval or _ (fun x y hp nx=>by simp[FBB_call]) a b h1 h2⟩
theorem cloneT_eval (args:List PV) (r:Option Blk) (h:j6 9 1 args=some r):args.length≤f152.ntmps∧∃x hp nx,qj C0 f152 args (fun _=>none) 0=some (x,hp,nx)∧OwnR r x hp nx:=by
 unfold j6 at h
 split at h
 ·injection h with h;subst h
  exact⟨by simp[f152],zN rfl (by simp[binA,xA,f152,OwnR])⟩
 ·injection h with h;subst h
  exact⟨by simp[f152],zN rfl (by simp[binA,xA,f152,OwnR,zd,qM,AM.view,maxLen,zl,zc])⟩
 ·rename_i es
  split at h
  ·rename_i hc
   obtain⟨rfl,hne,hl⟩:=hc
   injection h with h;subst h
   cases es with
   | nil=>exact absurd rfl hne
   | cons c es =>
     unfold lim at hl
     simp at hl
     have m1:es.length+1≤maxLen:=by unfold maxLen;omega
     have m2:(es.length+1)*16≤140737488355328:=by omega
     refine⟨by simp[f152],zN rfl ?_⟩
     simp[binA,xA,f152,OwnR,zd,qM,AM.view,zl,zc,m1,m2]
  ·cases h
 ·cases h
theorem cloneT_sound:za prog 152 (qT [] (j6 9 1)) :=
 jw (fn:=f152) (code:=_) wT ⟨func152,by kernel_rfl,rfl,by kernel_rfl⟩ [] _ cloneT_eval
def idV (v:Ver):PV:=.agg v.enc
def idS (s:Str):PV:=.agg s.enc
noncomputable def FVe (f:Ver→PV):List PV→Option PV:=zH (α:=Ver) (fun v=>[.agg v.enc]) (fun v=>v.pre.length≤lim) f
theorem FVe_call (f:Ver→PV) (v:Ver) (hp:Hp) (nx:Nat) (h:v.pre.length≤lim):zC [.g vpat] (FVe f) [.agg v.enc] hp nx=some (f v,hp,nx) :=
 wy (show zi hp [.agg v.enc]=some ([.agg v.enc],hp) by simp[Ver.enc]) (by
  have e1:(Sh.g vpat).fix (.agg v.enc)=.agg v.enc:=by simp[Ver.enc]
  show FVe f [(Sh.g vpat).fix (.agg v.enc)]=_
  rw[e1]
  exact zn (enc:=fun v:Ver=>[PV.agg v.enc]) (a:=v) (fun a b e=>by simp only[List.cons.injEq,and_true] at e;injection e with e;exact vK e) h) (.inr (by simp[Ver.enc]))
noncomputable abbrev Ccpv:Ctx:=zF prog [(152,qT [] (j6 9 1))]
theorem goodcpv:AM.Good Ccpv (fun g=>([]:List Nat).contains g):=zm mixed ⟨cloneT_sound,by simp,trivial⟩
theorem copyVersion_eval (v:Ver) (y:PV) (hy:SlOf 1 (encT v.pre) y) (hl:v.pre.length≤lim):∃r0,zj Ccpv f110 [.agg [int v.a,int v.b,int v.c,y]]=some r0∧Stands r0 (.agg v.enc):=by
 obtain⟨a,b,c,p⟩:=v
 refine jx (sh:=.g vpat) rfl ?_
 simp only at hl hy
 generalize hT:encT p=T at hy
 have hTl:T.length≤lim:=by rw[←hT];simpa[encT] using hl
 cases hy with
 | nil=>simp[qT,ql,j6,pureF,Ver.enc,hT,f110]
 | em=>simp[qT,ql,j6,pureF,Ver.enc,hT,f110]
 | sl =>
   rename_i c0 es
   simp only[List.length_cons] at hTl
   simp[qT,ql,j6,pureF,Ver.enc,hT,hTl,f110]
theorem copyVersion_sound:za prog 110 (zC [.g vpat] (FVe idV)) :=
 xN (fn:=f110) goodcpv ⟨_,func110,by kernel_rfl,rfl,by kernel_rfl⟩ false [] _ fun args r h w S vs hz=>by
  obtain⟨v,e,hv,rfl⟩:=ze h
  have hz':=vI (hs:=[.g vpat]) hz
  rw[e] at hz'
  obtain⟨u,hu,hr⟩:=zip_one hz'
  subst hu
  obtain⟨y,hy,hr2⟩:=rep_agg_set hr (j:=3) (s:=1) (es:=encT v.pre) (by simp[Ver.enc])
  obtain⟨r0,h1,h2⟩:=copyVersion_eval v y hy hv
  exact⟨_,r0,.cons hr2 .nil,by simp[f110],by simpa[Ver.enc] using h1,h2⟩
noncomputable def FSt (f:Str→PV):List PV→Option PV:=zH (α:=Str) (fun s=>[.agg s.enc]) Str.small f
theorem FSt_call (f:Str→PV) (s:Str) (u:PV) (hp:Hp) (nx:Nat) (h:s.small) (hu:(Sh.g spat).fix u=.agg s.enc) (hf:zA hp u=some (u,hp)) (hn:u.noOwn=true):zC [.g spat] (FSt f) [u] hp nx=some (f s,hp,nx) :=
 wy (show zi hp [u]=some ([u],hp) by simp only[zi,hf]) (by
  show FSt f [(Sh.g spat).fix u]=_
  rw[hu]
  exact zn (enc:=fun v:Str=>[PV.agg v.enc]) (a:=s) (fun a b e=>by simp only[List.cons.injEq,and_true] at e;injection e with e;exact strenc_inj e) h) (.inr (by rw[List.all_cons,hn];rfl))
noncomputable abbrev Ccps:Ctx:=zF prog [(110,zC [.g vpat] (FVe idV))]
theorem goodcps:AM.Good Ccps (fun g=>[110].contains g):=zm mixed ⟨copyVersion_sound,fun _=>qq _ _,trivial⟩
theorem copyStretch_eval (s:Str) (hs:s.small):zj Ccps f72 [.agg s.enc]=some (.agg s.enc):=by
 refine zb rfl ?_
 have h1:∀hp nx,zC [.g vpat] (FVe idV) [.agg [int s.lo.v.a,int s.lo.v.b,int s.lo.v.c,.sl 1 (encT s.lo.v.pre)]] hp nx=some (.agg [int s.lo.v.a,int s.lo.v.b,int s.lo.v.c,.sl 1 (encT s.lo.v.pre)],hp,nx):=fun hp nx=>FVe_call idV s.lo.v hp nx hs.1.1
 have h2:∀hp nx,zC [.g vpat] (FVe idV) [.agg [int s.hi.v.a,int s.hi.v.b,int s.hi.v.c,.sl 1 (encT s.hi.v.pre)]] hp nx=some (.agg [int s.hi.v.a,int s.hi.v.b,int s.hi.v.c,.sl 1 (encT s.hi.v.pre)],hp,nx):=fun hp nx=>FVe_call idV s.hi.v hp nx hs.2.1
 simp[Str.enc,Cut.enc,h1,h2,qi,f72,qy]
theorem copyStretch_sound:za prog 72 (zC [.g spat] (FSt idS)) :=
 zP (fn:=f72) goodcps ⟨_,func72,by kernel_rfl,rfl,by kernel_rfl⟩ _ _ fun args r h=>by
  obtain⟨s,rfl,h1,rfl⟩:=ze h
  exact⟨by simp[f72],_,copyStretch_eval s h1,Stands.refl _⟩
theorem vT {l:List UInt8} {n:Int} (h:vnum l=some n):0≤n∧n≤999999:=by
 unfold vnum at h
 split at h
 ·rename_i hc
  injection h with h
  obtain⟨h1,h2⟩:=whole_ne hc.1
  obtain⟨m,h3,h4⟩:=vg l 0 h2
  have h5:Lib.decNat l=some m:=by
   unfold Lib.decNat
   rw[if_neg (by simpa using h1)]
   exact h3
  have h6:m<10 ^ 6:=Nat.lt_of_lt_of_le (by simpa using h4) (Nat.pow_le_pow_right (by omega) hc.2)
  have h7:n=(m:Int):=by rw[←h];unfold numB;rw[h5];rfl
  omega
 ·cases h
theorem chkV_zero {v:Ver} (h:chkV v=0):(0≤v.a∧v.a≤999999)∧(0≤v.b∧v.b≤999999)∧(0≤v.c∧v.c≤999999)∧v.pre.length≤10∧∀p∈v.pre,qg p=false:=by
 unfold chkV at h
 split at h
 ·rename_i hc
  simp only[inB,Bool.and_eq_true,decide_eq_true_eq] at hc
  split at h
  ·cases h
  ·rename_i hl
   split at h
   ·cases h
   ·rename_i hb
    refine⟨hc.1,hc.2.1,hc.2.2,by omega,fun p hp=>?_⟩
    cases hq:qg p with
    | false=>rfl
    | true=>exact absurd (List.any_eq_true.2 ⟨p,hp,hq⟩) hb
 ·cases h
theorem rdV_chk {t:List UInt8} {v:Ver} (h:rdV t=some v):chkV v=0:=by
 unfold rdV at h
 split at h
 ·split at h
  ·split at h
   ·rename_i hc
    injection h with h
    rw[←h];exact hc
   ·cases h
  ·cases h
 ·cases h
theorem badPre_len {p:List UInt8} (h:qg p=false):p.length≤20:=by
 simp only[qg,Bool.or_eq_false_iff,decide_eq_false_iff_not] at h
 omega
theorem fold_ok:∀(l:List (List UInt8)) (p q:Part) (i:Nat),zZ p i l=some q→(0≤p.n0∧p.n0≤999999)∧(0≤p.n1∧p.n1≤999999)∧(0≤p.n2∧p.n2≤999999)∧0≤p.has∧p.has≤i∧(1≤i→1≤p.has)∧p.pre=[] →
  (0≤q.n0∧q.n0≤999999)∧(0≤q.n1∧q.n1≤999999)∧(0≤q.n2∧q.n2≤999999)∧0≤q.has∧q.has≤i+l.length∧(1≤i+l.length→1≤q.has)∧q.pre=[]
 | [],p,q,i,h,hp=>by
   simp only[zZ] at h
   injection h with h
   subst h
   simpa using hp
 | t::l,p,q,i,h,hp=>by
   simp only[zZ] at h
   split at h
   ·rename_i r hs
    obtain⟨a,b,c,d,e,f,g⟩:=hp
    have hr:(0≤r.n0∧r.n0≤999999)∧(0≤r.n1∧r.n1≤999999)∧(0≤r.n2∧r.n2≤999999)∧0≤r.has∧r.has≤(i+1:Nat)∧(1≤i+1→1≤r.has)∧r.pre=[]:=by
     unfold zR at hs
     split at hs
     ·rename_i hv
      injection hs with hs
      obtain⟨n,hn⟩:=Option.isSome_iff_exists.1 hv.1
      have hb:=vT hn
      rw[hn] at hs
      simp only[Option.getD_some] at hs
      subst hs
      have hh:=hv.2
      unfold Part.put
      split<;>simp only<;>refine⟨?_,?_,?_,?_,?_,?_,g⟩<;>first | assumption | omega
     ·split at hs
      ·rename_i ho
       injection hs with hs
       subst hs
       exact⟨a,b,c,d,by omega,fun _=>f (by omega),g⟩
      ·cases hs
    have:=fold_ok l r q (i+1) h hr
    rw[List.length_cons]
    refine⟨this.1,this.2.1,this.2.2.1,this.2.2.2.1,?_,?_,this.2.2.2.2.2.2⟩
    ·have:=this.2.2.2.2.1;omega
    ·intro _;exact this.2.2.2.2.2.1 (by omega)
   ·cases h
def jm (l:List (List UInt8)):Prop:=l.length≤10∧∀p∈l,qg p=false
theorem kF {l:List (List UInt8)} (h:jm l):wJ l:=⟨by have:=h.1;unfold lim;omega,fun p hp=>by have:=badPre_len (h.2 p hp);unfold lim;omega⟩
theorem splitL_ne (s sep:List UInt8):zu s sep≠[]:=by
 unfold zu Lib.split
 intro h
 cases hc:Lib.count s sep with
 | zero=>rw[hc] at h;cases h
 | succ n =>
   rw[hc] at h
   simp only[Lib.splitK] at h
   split at h<;>cases h
theorem vw {t:List UInt8} (h:(zo t).2=true):(zo t).1.ok∧jm (zo t).1.pre:=by
 unfold zo at h ⊢
 split at h
 ·rename_i hc
  rw[if_pos hc]
  split at h
  ·rename_i v hv
   obtain⟨h1,h2,h3,h4,h5⟩:=chkV_zero (rdV_chk hv)
   exact⟨⟨h1,h2,h3,⟨by simp,by simp⟩,kF ⟨h4,h5⟩⟩,h4,h5⟩
  ·cases h
 ·rename_i hc
  rw[if_neg hc]
  split at h
  ·cases h
  ·rename_i hl
   rw[if_neg hl]
   split at h
   ·rename_i p hp
    have:=fold_ok _ part0 p 0 hp (by simp[part0])
    obtain⟨h1,h2,h3,h4,h5,h6,h7⟩:=this
    have hn:=List.length_pos_iff.2 (splitL_ne t [46])
    have hg:jm p.pre:=by rw[h7];exact⟨by simp,by simp⟩
    exact⟨⟨h1,h2,h3,⟨h6 (by omega),by show p.has≤3;omega⟩,kF hg⟩,hg⟩
   ·cases h
def Cpn.good (c:Cpn):Prop:=c.sign.length≤3∧(c.sign=qX∨((c.p.ok∧jm c.p.pre)∧(c.sign=[45]→c.tu.ok∧jm c.tu.pre)))
theorem Cpn.good.ok {c:Cpn} (h:c.good):c.ok:=⟨by have:=h.1;unfold lim;omega,h.2.imp id fun⟨h1,h2⟩=>⟨h1.1,fun e=>(h2 e).1⟩⟩
theorem vU:∀(gs:List (List UInt8)) (s:List UInt8),(opW gs s).1=[]∨(opW gs s).1∈gs
 | [],s=>.inl rfl
 | g::l,s=>by
   simp only[opW]
   split
   ·exact .inr (by simp)
   ·exact (vU l s).imp id fun h=>by simp[h]
theorem sgs_sign {s:List UInt8} (h:s=[]∨s∈sgs):s.length≤3∧s≠[45]:=by
 rcases h with rfl | h
 ·simp
 ·simp only[sgs,List.mem_cons,List.not_mem_nil,or_false] at h
  rcases h with rfl | rfl | rfl | rfl | rfl | rfl | rfl<;>simp
theorem altS_good {w:List UInt8} {l l':List (List UInt8)} {c:Cpn} (h:altS w l=some (c,l')):c.good∧l'.length≤l.length:=by
 refine⟨?_,altS_len h⟩
 have hsg:=sgs_sign (vU sgs w)
 unfold altS at h
 split at h
 ·injection h with h;injection h with h _;subst h
  exact⟨by simp[cAll,qX],.inl rfl⟩
 ·split at h
  ·split at h
   ·split at h
    ·rename_i hr
     injection h with h;injection h with h _;subst h
     exact⟨hsg.1,.inr ⟨vw hr,fun e=>absurd e hsg.2⟩⟩
    ·cases h
   ·cases h
  ·split at h
   ·rename_i hr
    injection h with h;injection h with h _;subst h
    exact⟨hsg.1,.inr ⟨vw hr,fun e=>absurd e hsg.2⟩⟩
   ·cases h
theorem altN_good:∀(n:Nat) (ws:List (List UInt8)) (l:List Cpn),altN n ws=some l→(∀c∈l,c.good)∧l.length≤ws.length
 | 0,ws,l,h=>by
   simp only[altN] at h;injection h with h;subst h
   exact⟨by simp,by simp⟩
 | n+1,[],l,h=>by
   simp only[altN] at h;injection h with h;subst h
   exact⟨by simp,by simp⟩
 | n+1,w::ws,l,h=>by
   simp only[altN] at h
   split at h
   ·rename_i c l' hs
    obtain⟨h1,h2⟩:=altS_good hs
    cases ha:altN n l' with
    | none=>rw[ha] at h;cases h
    | some r =>
      rw[ha] at h
      simp only[Option.map_some,Option.some.injEq] at h
      subst h
      obtain⟨h3,h4⟩:=altN_good n l' r ha
      refine⟨fun x hx=>?_,by simp;omega⟩
      rcases List.mem_cons.1 hx with rfl | hx
      ·exact h1
      ·exact h3 x hx
   ·cases h
theorem altR_good {t:List UInt8} (h:(altR t).2=true):(∀c∈(altR t).1,c.good)∧(altR t).1.length≤t.length+1:=by
 have hw:(zL (zu t [32])).length≤t.length+1:=Nat.le_trans (List.length_filter_le _ _) (wS (by simp))
 have key:∀ws:List (List UInt8),ws=zL (zu t [32])→((match altN ws.length ws with
   | some l=>(l,!l.isEmpty)
   | none=>([],false)):List Cpn×Bool).2=true→(∀c∈((match altN ws.length ws with
   | some l=>(l,!l.isEmpty)
   | none=>([],false)):List Cpn×Bool).1,c.good)∧((match altN ws.length ws with
   | some l=>(l,!l.isEmpty)
   | none=>([],false)):List Cpn×Bool).1.length≤t.length+1:=by
  intro ws hws hk
  cases ha:altN ws.length ws with
  | none=>rw[ha] at hk;cases hk
  | some l =>
    obtain⟨h1,h2⟩:=altN_good _ _ _ ha
    exact⟨h1,by rw[hws] at h2;exact Nat.le_trans h2 hw⟩
 unfold altR at h ⊢
 split at h
 ·rename_i a b c hws
  split at h
  ·rename_i hb
   simp only[Bool.and_eq_true] at h
   rw[if_pos hb]
   refine⟨fun x hx=>?_,by simp⟩
   simp only[List.mem_singleton] at hx
   subst hx
   exact⟨by simp,.inr ⟨vw h.1,fun _=>vw h.2⟩⟩
  ·rename_i hb
   rw[if_neg hb]
   have:=key [a,b,c] (by rw[hws]) h
   exact this
 ·exact key _ rfl h
def Cut.good (c:Cut):Prop:=jm c.v.pre
theorem Cut.good.small {c:Cut} (h:c.good):c.v.small:=kF h
theorem cut0_good:cut0.good:=⟨by simp[cut0],by simp[cut0]⟩
theorem wv:leastC.good:=⟨by simp[leastC],by simp[leastC,qg,preB,preC,digs,qr,digB,pr]⟩
theorem xq (p:Part) (i:Nat):(qB p i).good:=by
 have h:(qB p i).v.pre=[[48]]:=by unfold qB;split<;>rfl
 have:=wv
 unfold Cut.good at this ⊢
 rw[h]
 exact this
theorem low_good {p:Part} (h:jm p.pre):(lowC p).good:=h
theorem high_good {p:Part} (h:jm p.pre):(yh p).good:=by
 unfold yh
 split
 ·exact xq _ _
 ·exact h
theorem jE {a b:Cut} (ha:a.good) (hb:b.good):(btw a b).length≤1∧∀s∈btw a b,s.lo.good∧s.hi.good:=by
 unfold btw
 split
 ·exact⟨by simp,by simp⟩
 ·refine⟨by simp,fun s hs=>?_⟩
  simp only[List.mem_singleton] at hs
  subst hs
  exact⟨ha,hb⟩
theorem jn {a:Cut} (ha:a.good):([qn a]:List Str).length≤1∧∀s∈[qn a],s.lo.good∧s.hi.good:=by
 refine⟨by simp,fun s hs=>?_⟩
 simp only[List.mem_singleton] at hs
 subst hs
 exact⟨ha,cut0_good⟩
theorem strS_good {c:Cpn} (hc:c.good):(strS c).1.length≤1∧∀s∈(strS c).1,s.lo.good∧s.hi.good:=by
 obtain⟨_,hc⟩:=hc
 unfold strS
 by_cases h0:c.sign=qX
 ·rw[if_pos h0];exact jn wv
 rw[if_neg h0]
 obtain⟨⟨_,hp⟩,ht⟩:=hc.resolve_left h0
 have hl:=low_good hp
 have hh:=high_good hp
 split
 ·exact jn hl
 split
 ·exact jE wv hl
 split
 ·exact jn hh
 split
 ·exact jE wv hh
 split
 ·rename_i e;exact jE hl (high_good (ht e).2)
 split
 ·exact jE hl (xq _ _)
 split
 ·exact jE hl (xq _ _)
 ·exact jE hl hh
def goodR (l:List Str):Prop:=∀s∈l,s.lo.good∧s.hi.good
theorem goodR.small {l:List Str} (h:goodR l) (hl:l.length≤lim):qW l:=⟨hl,fun s hs=>⟨(h s hs).1.small,(h s hs).2.small⟩⟩
theorem wA (f:Bool→Bool→Bool) {a b:List Str} (ha:goodR a) (hb:goodR b):goodR (wO f a b):=combL_all cut0_good f ha hb
def rrA:List (List UInt8)→Option (List (List Cpn))
 | []=>some []
 | s::l=>if (altR s).2=true then (rrA l).map ((altR s).1::·) else none
noncomputable def meetL:List Cpn→List Str→Option (List Str)
 | [],m=>some m
 | c::l,m=>if (strS c).2=true then meetL l (wO and m (strS c).1) else none
noncomputable def joinL:List (List Cpn)→List Str→Option (List Str)
 | [],o=>some o
 | l::ls,o=>match meetL l [qn leastC] with
   | some m=>joinL ls (wO or o m)
   | none=>none
noncomputable def jo (t:List UInt8):List Str×Int:=if (400:Int)<t.length then ([],2) else match rrA (zu t [124,124]) with
 | none=>([],10)
 | some ls=>match joinL ls [] with
   | none=>([],1)
   | some o=>if (100:Int)<o.length then ([],2) else (o,0)
theorem rrA_good:∀(l:List (List UInt8)) (ls:List (List Cpn)) (n:Nat),(∀s∈l,s.length≤n)→rrA l=some ls→(∀a∈ls,(∀c∈a,c.good)∧a.length≤n+1)∧ls.length=l.length
 | [],ls,n,_,h=>by
   simp only[rrA] at h;injection h with h;subst h
   exact⟨by simp,rfl⟩
 | s::l,ls,n,hn,h=>by
   simp only[rrA] at h
   split at h
   ·rename_i hs
    cases ha:rrA l with
    | none=>rw[ha] at h;cases h
    | some r =>
      rw[ha] at h
      simp only[Option.map_some,Option.some.injEq] at h
      subst h
      obtain⟨h1,h2⟩:=rrA_good l r n (fun x hx=>hn x (by simp[hx])) ha
      obtain⟨h3,h4⟩:=altR_good hs
      have:=hn s (by simp)
      refine⟨fun a ha=>?_,by simp[h2]⟩
      rcases List.mem_cons.1 ha with rfl | ha
      ·exact⟨h3,by omega⟩
      ·exact h1 a ha
   ·cases h
attribute [local go_sem] Oper.semAt_some
theorem spec_calls {P:Program} {g:FuncId} {F:List PV→Option PV} {us:List Value} {v:Value} (h:SpecD True P g (zf false [] F)) (hF:zf false [] F (us.map PV.v) (fun _=>none) 0=some (.v v,fun _=>none,0)) (hl:∀u∈us,lit u=true) {W:World} (hG:Glo P W fun b=>b<W.heap.size) :
  Calls P g us.toArray W fun e w'=>e=.returned v∧Fr True W (fun _=>False) w':=by
 have hz:Zip (RepO W (fun b=>b<W.heap.size) (fun _=>⟨0,0,0⟩) 0) (us.map PV.v) us:=by
  induction us with
  | nil=>exact .nil
  | cons u us ih=>exact .cons (.c (.v (hl u (by simp)))) (by
    clear hF
    have:∀us:List Value,(∀u∈us,lit u=true)→Zip (RepO W (fun b=>b<W.heap.size) (fun _=>⟨0,0,0⟩) 0) (us.map PV.v) us:=by
     intro us
     induction us with
     | nil=>intro _;exact .nil
     | cons u us ih=>intro h;exact .cons (.c (.v (h u (by simp)))) (ih fun x hx=>h x (by simp[hx]))
    exact this us fun x hx=>hl x (by simp[hx]))
 refine (h.2 _ _ _ _ _ _ hF W (fun b=>b<W.heap.size) (fun _=>⟨0,0,0⟩) us (inv_empty _ (fun b hb=>hb) hG) hz).mono fun e w' hh=>?_
 obtain⟨x,S',G',rfl,st,hx⟩:=hh
 obtain⟨rfl,_⟩:=hx.v_inv
 exact⟨rfl,⟨st.fr.os,st.fr.tape,st.fr.output,st.fr.size,st.fr.drawn,fun k hk _=>st.fr.block k hk fun⟨_,_,h,_⟩=>by cases h⟩⟩
theorem fr_cell {W W':World} {L:Nat→Prop} (h:Fr True W L W') {a:Addr} {v:Value} (hc:W.cell? a=some v) (hn:¬L a.block):W'.cell? a=some v:=by
 rw[←hc]
 exact World.cell?_of_block (h.block _ (cell_lt hc) hn)
def encB (l:List (List UInt8)):List Value:=l.map fun p=>.string ⟨p.toArray⟩
def strAt (w:World) (b:Nat):Nat:=match w.cell? ⟨b,0,none⟩ with
 | some (.string s)=>s.size
 | _=>0
def CellAt (w:World) (b:Nat) (v:Value):Prop:=∃cs ty,w.heap[b]?=some (.cells cs ty (0,0))∧cs[0]?=some v
theorem CellAt.cell {w:World} {b:Nat} {v:Value} (h:CellAt w b v):w.cell? ⟨b,0,none⟩=some v:=by
 obtain⟨cs,ty,h1,h2⟩:=h
 simp[World.cell?,h1,h2]
theorem CellAt.free {w:World} {b:Nat} {v:Value} (h:CellAt w b v):w.frozen? ⟨b,0,none⟩=false:=by
 obtain⟨cs,ty,h1,h2⟩:=h
 simp[World.frozen?,h1]
theorem CellAt.same {w w':World} {b:Nat} {v:Value} (h:CellAt w b v) (e:w'.heap[b]?=w.heap[b]?):CellAt w' b v:=by
 obtain⟨cs,ty,h1,h2⟩:=h
 exact⟨cs,ty,e.trans h1,h2⟩
theorem CellAt.lt {w:World} {b:Nat} {v:Value} (h:CellAt w b v):b<w.heap.size:=by
 obtain⟨cs,ty,h1,h2⟩:=h
 exact (Array.getElem?_eq_some_iff.1 h1).1
theorem CellAt.set {w:World} {b:Nat} {v:Value} (u:Value) (h:CellAt w b v):CellAt (w.setCell ⟨b,0,none⟩ u) b u:=by
 obtain⟨cs,ty,h1,h2⟩:=h
 have hl:=(Array.getElem?_eq_some_iff.1 h2).1
 refine⟨cs.setIfInBounds 0 u,ty,?_,by simp[hl]⟩
 simp[World.setCell,Array.getElem?_modify,h1]
theorem CellAt.setFr {w:World} {b:Nat} (u:Value) (B:Nat→Prop) (hB:B b):Fr True w B (w.setCell ⟨b,0,none⟩ u) :=
 ⟨rfl,rfl,rfl,by simp[World.setCell],fun _=>Nat.le_refl _,fun k _ hn=>by
  have:¬b=k:=fun e=>hn (e ▸ hB)
  simp[World.setCell,Array.getElem?_modify,this]⟩
theorem CellAt.str {w:World} {b:Nat} {s:ByteArray} (h:CellAt w b (.string s)):strAt w b=s.size:=by
 unfold strAt
 rw[h.cell]
set_option maxRecDepth 100000 in
set_option maxHeartbeats 2000000 in
theorem splitSeq1_in (n l B1 B2 B3:Nat) (sep t:List UInt8) (hs1:1≤sep.length) (hs2:sep.length≤lim) (ht:t.length≤lim) (h12:B1≠B2) (h23:B3≠B2) (J Jx:List Value→World→Prop)
  (hJ:∀pre W W',J pre W→Fr True W (fun b=>b=B1∨b=B2∨b=B3) W'→J pre W') (hGl:∀pre W,J pre W→Glo prog W fun b=>b<W.heap.size)
  (hY:∀pre x W,J pre W→(encB (zu t sep))[pre.length]?=some x→YieldAt Fence.wide n prog l #[x] W fun e W'=>(e=.returned (.bool true)∧J (pre++[x]) W'∧(∀b,(b=B1∨b=B2∨b=B3)→W'.heap[b]?=W.heap[b]?)∧W.heap.size≤W'.heap.size)∨(e=.returned (.bool false)∧Jx (pre++[x]) W'))
  (W:World) (h0:J [] W) (h1:W.cell? ⟨B1,0,none⟩=some (.string ⟨sep.toArray⟩)) (h2:CellAt W B2 (.string ⟨t.toArray⟩)) (h3:W.cell? ⟨B3,0,none⟩=some (.int .i64 0)) :
  CallsIn Fence.wide (n+1) prog 140 #[.func (.yield l) #[] #[],.pointer (some ⟨B1,0,none⟩),.pointer (some ⟨B2,0,none⟩),.pointer (some ⟨B3,0,none⟩)] W fun e W'=>(∃v,e=.returned v)∧(J (encB (zu t sep)) W'∨∃pre,Jx pre W'):=by
 refine callsIn_of_wp func140 rfl trivial ?_ rfl
 simp only[Tryz.ntmps140,List.size_toArray,List.length_cons,List.length_nil,Nat.reduceAdd,Nat.reduceSub,Array.replicate_succ,Array.replicate_zero,List.push_toArray,List.append_toArray,List.nil_append,List.cons_append]
 have h2c:=h2.cell
 have hse:((sep.length:Int)==0)=false:=beq_eq_false_iff_ne.2 (by omega)
 gi_wp2
 try simp only[hse]
 have hx:∀cur:List UInt8,cur.length≤lim→∀wr:World,Glo prog wr (fun b=>b<wr.heap.size)→Calls prog 85 #[.string ⟨cur.toArray⟩,.string ⟨sep.toArray⟩] wr fun e w'=>e=.returned (.int .i64 (Lib.index cur sep))∧Fr True wr (fun _=>False) w':=fun cur hc wr hg=>by
  exact spec_calls (us:=[.string ⟨cur.toArray⟩,.string ⟨sep.toArray⟩]) sIndex_sound (vJ cur sep _ _ hc hs2) (by simp[lit]) hg
 gi_loopw [] (fun wr=>∃(done:List (List UInt8)) (cur:List UInt8),zu t sep=done++zu cur sep∧cur.length≤t.length∧J (encB done) wr∧wr.cell? ⟨B1,0,none⟩=some (.string ⟨sep.toArray⟩)∧CellAt wr B2 (.string ⟨cur.toArray⟩)∧wr.cell? ⟨B3,0,none⟩=some (.int .i64 0))
  (fun wr=>strAt wr B2)
 case atStart=>exact⟨[],t,rfl,Nat.le_refl _,h0,h1,h2,h3⟩
 case round =>
  obtain⟨done,cur,hsp,hcl,hJs,c1,k2,c3⟩:=hrel
  have c2:=k2.cell
  have hg:=hGl _ _ hJs
  gi_wp2
  refine⟨trivial,callsIn_wide.2 ((hx cur (Nat.le_trans hcl ht) wr hg).mono ?_)⟩
  rintro e w1 ⟨rfl,fr⟩
  dsimp only
  have d1:=fr_cell fr c1 (fun h=>h)
  have m2:=k2.same (fr.block _ k2.lt fun h=>h)
  have d2:=m2.cell
  have d3:=fr_cell fr c3 (fun h=>h)
  have hJ1:=hJ _ _ _ hJs ⟨fr.os,fr.tape,fr.output,fr.size,fr.drawn,fun k hk _=>fr.block k hk fun h=>h⟩
  have hel:(encB done).length=done.length:=by simp[encB]
  by_cases hneg:Lib.index cur sep<0
  ·have hsk:zu cur sep=[cur]:=by
    have hm:Lib.index cur sep=-1:=by
     rcases Lib.index_spec cur sep with⟨h,_⟩ | ⟨i,h,_⟩
     ·exact h
     ·omega
    unfold zu Lib.split
    rw[Lib.count_miss hm]
    rfl
   have hu:(encB (zu t sep))[(encB done).length]?=some (.string ⟨cur.toArray⟩):=by
    rw[hsp,hsk,hel]
    simp[encB]
   obtain⟨fn,tmps,assign,body,hy,hR⟩:=hY _ _ w1 hJ1 hu
   gi_wp2
   refine hR.mono ?_
   rintro e W3 (⟨rfl,hJ3,hk3,hz3⟩ | ⟨rfl,hJx3⟩)
   ·gi_wp2
    go_end0
    refine⟨⟨_,rfl⟩,.inl ?_⟩
    rw[hsp,hsk]
    simpa[encB] using hJ3
   ·gi_wp2
    go_end0
    exact⟨⟨_,rfl⟩,.inr ⟨_,hJx3⟩⟩
  ·obtain⟨i,hi⟩:∃i:Nat,Lib.index cur sep=i:=⟨(Lib.index cur sep).toNat,by omega⟩
   have hne:sep≠[]:=by rintro rfl;simp at hs1
   have hsk:zu cur sep=cur.take i::zu (cur.drop (i+sep.length)) sep:=by
    unfold zu Lib.split
    rw[Lib.count_hit hne hi,Nat.add_comm 1,splitK_hit hi]
   have htk:(cur.drop (i+sep.length)).take (cur.length - (i+sep.length))=cur.drop (i+sep.length):=List.take_of_length_le (by simp)
   have hroom:=Lib.index_room cur sep (by omega)
   rw[hi] at hroom
   unfold lim at ht hs2
   have hwi:wrap64 (i:Int)=(i:Int):=by unfold wrap64;omega
   have hu:(encB (zu t sep))[(encB done).length]?=some (.string ⟨(cur.take i).toArray⟩):=by
    rw[hsp,hsk,hel]
    simp[encB]
   obtain⟨fn,tmps,assign,body,hy,hR⟩:=hY _ _ w1 hJ1 hu
   rw[hi]
   gi_wp2
   refine hR.mono ?_
   rintro e W3 (⟨rfl,hJ3,hk3,hz3⟩ | ⟨rfl,hJx3⟩)
   ·have e1:W3.cell? ⟨B1,0,none⟩=some (.string ⟨sep.toArray⟩):=by rw[←d1];exact World.cell?_of_block (hk3 B1 (.inl rfl))
    have o2:=m2.same (hk3 B2 (.inr (.inl rfl)))
    have e2:=o2.cell
    have e4:=o2.free
    have e3:W3.cell? ⟨B3,0,none⟩=some (.int .i64 0):=by rw[←d3];exact World.cell?_of_block (hk3 B3 (.inr (.inr rfl)))
    gi_wp2
    go_roundw
    case rel =>
     refine⟨done++[cur.take i],cur.drop (i+sep.length),by rw[hsp,hsk];simp,by simp;omega,?_,?_,?_,?_⟩
     ·have:=hJ _ _ _ hJ3 (CellAt.setFr (w:=W3) (b:=B2) (.string ⟨(cur.drop (i+sep.length)).toArray⟩) (fun b=>b=B1∨b=B2∨b=B3) (.inr (.inl rfl)))
      simpa[encB] using this
     ·exact fr_cell (CellAt.setFr (w:=W3) (b:=B2) _ (fun b=>b=B2) rfl) e1 h12
     ·exact o2.set (.string ⟨(cur.drop (i+sep.length)).toArray⟩)
     ·exact fr_cell (CellAt.setFr (w:=W3) (b:=B2) _ (fun b=>b=B2) rfl) e3 h23
    case measure =>
     have:=o2.set (.string ⟨(cur.drop (i+sep.length)).toArray⟩)
     rw[this.str,k2.str]
     simp
     omega
   ·gi_wp2
    refine bodyPost_ret (results_none rfl _ _ _) rfl ?_
    exact⟨⟨_,rfl⟩,.inr ⟨_,hJx3⟩⟩
def itSplit:yJ:=fun cap hp=>match cap with
 | [.ref i1 0 0,.ref i2 0 0,.ref i3 0 0]=>match hp i1,hp i2,hp i3 with
   | some ⟨_,1,false,[[.v (.string sep)]]⟩,some ⟨_,1,false,[[.v (.string t)]]⟩,some ⟨_,1,false,[[.v (.int .i64 0)]]⟩ =>
     if i1≠i2∧i3≠i2∧1≤sep.data.toList.length∧sep.data.toList.length≤lim∧t.data.toList.length≤lim then some ((zu t.data.toList sep.data.toList).map str,upd (upd (upd hp i1 none) i2 none) i3 none) else none
   | _,_,_=>none
 | _=>none
theorem live_cell {P:Program} {w:World} {S:Nat→Prop} {G:Nat→GI} {hp:Hp} {nx id e:Nat} {u:Value} (hi:Inv P w S G hp nx) (hb:hp id=some ⟨e,1,false,[[.v u]]⟩):CellAt w (G id).g u:=by
 have hl:=hi.live id _ hb
 have hs:(G id).s=1:=hl.bs.symm
 obtain⟨cur,h1,h2,h3⟩:=hl.row (by omega)
 obtain⟨x,h4,h5⟩:=h3 0 0 [.v u] (.v u) rfl rfl
 obtain⟨rfl,_⟩:=h5.2.1.v_inv
 exact⟨cur,e,h1,by simpa[hs] using h4⟩
set_option maxRecDepth 100000 in
theorem split_iter:IterD True prog 140 itSplit:=by
 refine⟨⟨_,func140,by kernel_rfl,by kernel_rfl⟩,fun cap hp nx xs hp1 h=>?_⟩
 unfold itSplit at h
 split at h
 case h_2=>cases h
 rename_i i1 i2 i3
 split at h
 case h_2=>cases h
 rename_i e1 sep e2 t e3 b1 b2 b3
 split at h
 case isFalse=>cases h
 rename_i hc
 obtain⟨n12,n32,hs1,hs2,ht⟩:=hc
 injection h with h
 injection h with ha hb
 subst ha;subst hb
 have hsub:∀id b,upd (upd (upd hp i1 none) i2 none) i3 none id=some b→hp id=some b∧id≠i1∧id≠i2∧id≠i3:=fun id b hb=>by
  by_cases q3:id=i3
  ·subst q3;rw[zQ] at hb;cases hb
  rw[zp _ _ _ _ q3] at hb
  by_cases q2:id=i2
  ·subst q2;rw[zQ] at hb;cases hb
  rw[zp _ _ _ _ q2] at hb
  by_cases q1:id=i1
  ·subst q1;rw[zQ] at hb;cases hb
  rw[zp _ _ _ _ q1] at hb
  exact⟨hb,q1,q2,q3⟩
 refine⟨encB (zu t.data.toList sep.data.toList),by simp[encB],by simp[encB,lit],fun id b hb=>(hsub id b hb).1,fun w S G vs hi hz=>?_⟩
 obtain⟨v1,r1,rfl,z1,hz⟩:=hz.uncons
 obtain⟨v2,r2,rfl,z2,hz⟩:=hz.uncons
 obtain⟨v3,r3,rfl,z3,hz⟩:=hz.uncons
 obtain rfl:=hz.unnil
 have c1:=live_cell hi b1
 have c2:=live_cell hi b2
 have c3:=live_cell hi b3
 obtain⟨_,rfl⟩:=z1.ref_inv
 obtain⟨_,rfl⟩:=z2.ref_inv
 obtain⟨_,rfl⟩:=z3.ref_inv
 have g12:(G i1).g≠(G i2).g:=fun e=>n12 (hi.inj _ _ _ _ b1 b2 e)
 have g32:(G i3).g≠(G i2).g:=fun e=>n32 (hi.inj _ _ _ _ b3 b2 e)
 refine⟨fun b=>b=(G i1).g∨b=(G i2).g∨b=(G i3).g,?_,?_⟩
 ·have key:∀i blk,hp i=some blk→(i=i1∨i=i2∨i=i3)→qZ hp G (G i).g∧Away S G (upd (upd (upd hp i1 none) i2 none) i3 none) (G i).g:=fun i blk hb hi' =>
   ⟨⟨i,blk,hb,rfl⟩,hi.apart i blk hb,fun id b' hid e=>by
     obtain⟨q0,q1,q2,q3⟩:=hsub id b' hid
     have:=hi.inj _ _ _ _ q0 hb e
     subst this
     rcases hi' with h | h | h
     ·exact q1 h
     ·exact q2 h
     ·exact q3 h⟩
  rintro b (rfl | rfl | rfl)
  ·exact key i1 _ b1 (.inl rfl)
  ·exact key i2 _ b2 (.inr (.inl rfl))
  ·exact key i3 _ b3 (.inr (.inr rfl))
 ·intro n l J Jx hJ hJx hGl hY W h0 hW _
  have:=splitSeq1_in n l (G i1).g (G i2).g (G i3).g sep.data.toList t.data.toList hs1 hs2 ht g12 g32 J Jx hJ hGl hY W h0 (c1.same (hW _ (.inl rfl))).cell (c2.same (hW _ (.inr (.inl rfl)))) (c3.same (hW _ (.inr (.inr rfl)))).cell
  simpa using this
end Go.Proofs.YtpeaooooimfihaaGreatDoor
