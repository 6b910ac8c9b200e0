/-
combine.
-/
import Derived.Test.YtjcofiomfmebkaaGreatDoorG18
import Derived.Test.YtjcofiomfmebkaaGreatDoorG14
set_option maxRecDepth 8000
namespace Go.Proofs.YtjcofiomfmebkaaGreatDoor
open Go.Proofs.Tryz
open Go.RowKit Go.AM
theorem Xl:za prog 198 (zfH 5 199 cfC zuI) :=
 zfI (by decide) ⟨_,func198,by kernel_rfl,by kernel_rfl⟩ Tryz.sortC_ok ztx
noncomputable def FBB (f:Bool→Bool→Bool):List PV→Option PV:=zJ (α:=Bool×Bool) (fun a=>[boo a.1,boo a.2]) (fun _=>True) (fun a=>boo (f a.1 a.2))
theorem zhq (f:Bool→Bool→Bool) (a b:Bool) (hp:Hp) (nx:Nat):zd false [] (FBB f) [boo a,boo b] hp nx=some (boo (f a b),hp,nx) :=
 zH rfl (zm (enc:=fun a:Bool×Bool=>[boo a.1,boo a.2]) (a:=(a,b)) (fun x y e=>by
  obtain⟨x1,x2⟩:=x
  obtain⟨y1,y2⟩:=y
  simp only[List.cons.injEq,and_true] at e
  rw[vR e.1,vR e.2]) trivial) (.inl rfl)
theorem zfL:za prog 151 (zd false [] (FBB and)) :=
 zL (fn:=f151) yl ⟨_,func151,by kernel_rfl,rfl,by kernel_rfl⟩ false [] _ fun args r h=>by
  obtain⟨⟨a,b⟩,rfl,_,rfl⟩:=ze h
  exact⟨by simp[f151],_,zb rfl (by cases a<;>simp[qe,f151]),zK _⟩
theorem zjb:za prog 152 (zd false [] (FBB or)) :=
 zL (fn:=f152) yl ⟨_,func152,by kernel_rfl,rfl,by kernel_rfl⟩ false [] _ fun args r h=>by
  obtain⟨⟨a,b⟩,rfl,_,rfl⟩:=ze h
  exact⟨by simp[f152],_,zb rfl (by cases a<;>simp[qe,f152]),zK _⟩
theorem zbr {hp:Hp} {nx:Nat} {v:PV} {l:List Cut} (h:OwnS hp nx 162 5 v (qb l)) (hs:∀c∈l,c.v.small) (hl:l.length<4611686018427387904) :
  ∃hp',zfH 5 199 cfC zuI [v,.fn (.func 199) [] []] hp nx=some (.tup [],hp',nx)∧OwnS hp' nx 162 5 v (qb (vn l))∧∀j,(∀n,v≠.own j 0 n)→hp' j=hp j:=by
 have hlen:(qb (vn l)).length=(qb l).length:=by
  have:=(yR l).length_eq
  simpa[qb] using this
 rcases h with⟨rfl,he⟩ | ⟨id,h1,rfl,h2⟩
 ·refine⟨hp,rfl,.inl ⟨rfl,?_⟩,fun _ _=>rfl⟩
  rw[he] at hlen
  exact List.length_eq_zero_iff.1 hlen
 ·by_cases h0:(qb l).length=0
  ·refine⟨hp,by simp only[zfH,if_pos h0],?_,fun _ _=>rfl⟩
   have e1:qb l=[]:=List.length_eq_zero_iff.1 h0
   rw[e1] at hlen h2
   have e2:=List.length_eq_zero_iff.1 hlen
   rw[e1,e2]
   exact .inr ⟨id,h1,rfl,h2⟩
  ·refine⟨upd hp id (some ⟨162,5,true,qb (vn l)⟩),?_,.inr ⟨id,h1,by rw[hlen],by simp⟩,fun j hj=>zq _ _ _ _ fun e=>hj (qb l).length (by subst e;rfl)⟩
   unfold zfH
   simp only[if_neg h0,h2]
   rw[if_pos ⟨rfl,rfl,rfl,by simp,by simpa[qb] using hl,by simpa using zrg l,fun x hx=>by
    simp only[List.drop_zero,List.take_length] at hx
    obtain⟨c,hc,rfl⟩:=List.mem_map.1 hx
    exact⟨c,rfl,hs c hc⟩⟩]
   simp[zi9]
theorem zdz {c:List PV} {s:Str} (h:Yc y9 c=s.enc):∃x3 x5 x6 x7 x8 x9 x10,c=[int s.lo.v.a,int s.lo.v.b,int s.lo.v.c,x3,boo s.lo.after,x5,x6,x7,x8,x9,x10]∧n1 1 x3=.sl 1 (zD s.lo.v.pre)∧x3.isCell=true:=by
 have hl:=yk y9 c
 rw[h] at hl
 simp[Str.enc,Cut.enc] at hl
 match c,hl with
 | [c0,c1,c2,c3,c4,c5,c6,c7,c8,c9,c10],_ =>
   simp[Str.enc,Cut.enc] at h
   obtain⟨h0,h1,h2,h3,h4,h5,h6,h7,h8,h9,h10⟩:=h
   subst h0;subst h1;subst h2;subst h4
   refine⟨c3,c5,c6,c7,c8,c9,c10,rfl,h3,?_⟩
   cases c3<;>first | rfl | (simp[n1] at h3)
theorem KY {out:List Str} {m:Nat} (hm:m<out.length) (he:out.length=m+1) (c:Cut):kI out c=out.set m ⟨out[m].lo,c,false⟩:=by
 unfold kI
 have h0:out≠[]:=by rintro rfl;simp at hm
 rw[List.getLast?_eq_some_getLast h0]
 have h1:out.getLast h0=out[m]:=by
  rw[List.getLast_eq_getElem]
  congr 1
  omega
 simp only[h1]
 apply List.ext_getElem
 ·simp;omega
 ·intro i hi hi'
  rw[List.getElem_set]
  split
  ·rename_i e
   subst e
   rw[List.getElem_append_right (by simp;omega)]
   simp
  ·rw[List.getElem_append_left (by simp at hi ⊢;omega)]
   simp
theorem zhr (is:Cut→Bool) (st:Bool×List Str) (c:Cut) (h:st.1=true→st.2≠[]):(swS is st c).1=true→(swS is st c).2≠[]:=by
 obtain⟨o,out⟩:=st
 unfold swS
 cases is c<;>cases o<;>simp at h ⊢<;>assumption
theorem Wx (l:List Str) (c:Cut) (hp:Hp) (nx:Nat) (hl:qK l) (hc:c.v.small):zG [.s 11 y9,.g y8] (FRC fun l c=>boo (wG l c)) [.sl 11 (zN l),.agg c.enc] hp nx=some (boo (wG l c),hp,nx) :=
 yp (show zj hp [.sl 11 (zN l),.agg c.enc]=some ([.sl 11 (zN l),.agg c.enc],hp) by simp[Cut.enc]) (by
  have e1:(Sh.s 11 y9).fix (.sl 11 (zN l))=.sl 11 (zN l):=by
   simp only[Sh.fix_s,zN,List.map_map]
   congr 1
  have e2:(Sh.g y8).fix (.agg c.enc)=.agg c.enc:=by simp[Cut.enc]
  show FRC _ [(Sh.s 11 y9).fix (.sl 11 (zN l)),(Sh.g y8).fix (.agg c.enc)]=_
  rw[e1,e2]
  exact zm (enc:=fun a:List Str×Cut=>[PV.sl 11 (zN a.1),.agg a.2.enc]) (a:=(l,c)) ztt ⟨hl,hc⟩) (.inl rfl)
noncomputable abbrev zvh:Ctx:=zC prog [(198,zfH 5 199 cfC zuI),(200,zG [.s 11 y9,.g y8] (FRC fun l c=>boo (wG l c))),
 (151,zd false [] (FBB and)),(152,zd false [] (FBB or))]
theorem zri:AM.Good zvh (fun g=>[200].contains g):=zk mixed ⟨Xl,by simp,zdo,fun _=>qv _ _,zfL,by simp,zjb,by simp,trivial⟩
theorem zdA {l:List Str} {k:Nat} (h:k<l.length):zV (l.take (k+1))=zV (l.take k)++(if l[k].endless=true then [l[k].lo] else [l[k].lo,l[k].hi]):=by
 rw[List.take_succ_eq_append_getElem h,kg]
 simp[zV]
theorem zhs (is:Cut→Bool) {l:List Cut} {k:Nat} (h:k<l.length) (st:Bool×List Str):swL is (l.take (k+1)) st=swS is (swL is (l.take k) st) l[k]:=by
 unfold swL
 rw[List.take_succ_eq_append_getElem h,List.foldl_append]
 rfl
theorem zdB (a b:List Cut):qb (a++b)=qb a++qb b:=by simp[qb]
noncomputable def ZF (f:Bool→Bool→Bool) (a b:List Str):Option Blk:=if yS f a b=[] then none else some ⟨164,11,true,zN (yS f a b)⟩
theorem zlK (i o n:Nat) (hp:Hp):QC (.own i o n) hp=upd hp i none:=rfl
theorem zht {hp:Hp} {nx e s:Nat} {v:PV} {xs:List (List PV)} (h:OwnS hp nx e s v xs) {j:Nat} (hj:nx≤j):∀n,v≠.own j 0 n:=by
 rcases h with⟨rfl,_⟩ | ⟨id,h1,rfl,_⟩
 ·intro n e;cases e
 ·intro n e;injection e with e;omega
set_option maxHeartbeats 4000000 in
theorem Je (f:Bool→Bool→Bool) (hv:PV) (hcall:∀x y hp nx,wg zvh hp nx (some hv) [boo x,boo y]=some (boo (f x y),hp,nx)) (a b:List Str) (ha:qK a) (hb:qK b) :
  ∃x hp nx,q8 zvh f150 [.sl 11 (zN a),.sl 11 (zN b),hv] (fun _=>none) 0=some (x,hp,nx)∧zlJ y9 (ZF f a b) x hp nx:=by
 refine zM rfl ?_
 have hsa:=ha
 have hsb:=hb
 obtain⟨ha1,ha2⟩:=ha
 obtain⟨hb1,hb2⟩:=hb
 unfold lim at ha1 hb1
 obtain⟨ls,hls⟩:∃ls:List (List Str),[a,b]=ls:=⟨_,rfl⟩
 obtain⟨rows,hrows⟩:∃rows:List (List PV),[[PV.sl 11 (zN a)],[.sl 11 (zN b)]]=rows:=⟨_,rfl⟩
 have hrow:∀i,i<2→∃l:List Str,(zV (ls.take (i+1)).flatten=zV (ls.take i).flatten++zV l)∧rows[i]?=some [PV.sl 11 (zN l)]∧l.length≤2097152∧(∀s∈l,s.small)∧(zV (ls.take i).flatten).length≤4194304:=by
  intro i hi
  rw[←hls,←hrows]
  rcases (by omega:i=0∨i=1) with rfl | rfl
  ·exact⟨a,by simp[zV],rfl,ha1,ha2,by simp[zV]⟩
  ·exact⟨b,by simp[kg],rfl,hb1,hb2,by have:=jw a;simp;omega⟩
 simp[zh,zo,zf,hrows]
 refine zu (fun i σ hp nx=>σ 0=.sl 11 (zN a)∧σ 1=.sl 11 (zN b)∧σ 2=hv∧σ 19=.own 0 0 2∧σ 20=int 2∧σ 21=int i∧1≤nx∧hp 0=some ⟨118,1,true,rows⟩∧(∀n,σ 7≠.own 0 0 n)∧OwnS hp nx 162 5 (σ 7) (qb (zV (ls.take i).flatten))) 2
  ⟨by simp,by simp,by simp,by simp,by simp,by simp,by simp,by simp,by simp,.inl ⟨by simp,by simp[zV,qb]⟩⟩ ?_
 rintro i σ hp nx hi ⟨h0,h1,h2,h19,h20,h21,hnx,b0,hn7,hO⟩
 by_cases hlt:i<2
 ·obtain⟨l,hl,hr,hll,hls2,hcl⟩:=hrow i hlt
  obtain⟨hr1,hr2⟩:=List.getElem?_eq_some_iff.1 hr
  have hw:IntKind.i64.wrap ((i:Int)+1)=(i:Int)+1:=zc (by omega) (by omega)
  have hel:(zN l).length=l.length:=by simp[zN]
  have hltI:(i:Int)<2:=by omega
  simp[h0,h1,h2,h19,h20,h21,hltI,hlt,b0,hr1,hr2,hel]
  refine zu (fun k σ hp nx=>σ 0=.sl 11 (zN a)∧σ 1=.sl 11 (zN b)∧σ 2=hv∧σ 19=.own 0 0 2∧σ 20=int 2∧σ 21=int i∧1≤nx∧hp 0=some ⟨118,1,true,rows⟩∧(∀n,σ 7≠.own 0 0 n)∧OwnS hp nx 162 5 (σ 7) (qb (zV (ls.take i).flatten++zV (l.take k))) ∧
   σ 25=.sl 11 (zN l)∧σ 26=int l.length∧σ 27=int k) l.length
   ⟨by simp[h0],by simp[h1],by simp[h2],by simp[h19],by simp[h20],by simp[h21],hnx,b0,by simpa using hn7,by simpa[zV] using hO,by simp,by simp,by simp⟩ ?_
  clear h0 h1 h2 h19 h20 h21 hnx b0 hn7 hO hi σ hp nx
  rintro k σ hp nx hk ⟨h0,h1,h2,h19,h20,h21,hnx,b0,hn7,hO,h25,h26,h27⟩
  by_cases hltk:k<l.length
  ·have hwk:IntKind.i64.wrap ((k:Int)+1)=(k:Int)+1:=zc (by omega) (by omega)
   have hke:∀h:k<(zN l).length,(zN l)[k]=l[k].enc:=fun h=>by simp[zN]
   have hcn:=jw (l.take k)
   rw[List.length_take] at hcn
   have hct:=zdA hltk
   obtain⟨xs,hxs⟩:∃xs,qb (zV (ls.take i).flatten++zV (l.take k))=xs:=⟨_,rfl⟩
   have hxl:xs.length≤8388608+2:=by rw[←hxs];simp[qb];omega
   rw[hxs] at hO
   have hE:qb (zV (ls.take i).flatten++zV (l.take (k+1)))=xs++(if l[k].endless=true then [l[k].lo] else [l[k].lo,l[k].hi]).map Cut.enc:=by
    rw[hct,←List.append_assoc,zdB,hxs];rfl
   have hkn:=fun hp'=>qM hO hp' nx (zht hO (Nat.le_refl _))
   have hk0:=fun hp'=>qM hO hp' 0 hn7
   obtain⟨s,hs⟩:∃s,l[k]=s:=⟨_,rfl⟩
   rw[hs] at hct hke hE
   have hap1:=OwnS.append1 (P:=prog) (t:=205) (c:=s.lo.enc) (hO.more (some ⟨164,11,false,[s.enc]⟩)) zcX zaT ziJ ziK rfl (by omega) (by unfold maxLen;omega) (by omega)
   have hO1:=OwnS.after (hp:=upd hp nx (some ⟨164,11,false,[s.enc]⟩)) (nx:=nx+1) (e:=162) (s:=5) (v:=σ 7) (xs:=xs) (c:=s.lo.enc) (tmp:=some ⟨162,5,true,[s.lo.enc]⟩)
   have hap2:=OwnS.append1 (P:=prog) (t:=205) (c:=s.hi.enc) hO1 zcX zaT ziJ ziK rfl (by omega) (by simp;unfold maxLen;omega) (by simp;omega)
   rw[show (xs++[s.lo.enc]).length=xs.length+1 by simp,List.append_assoc,show[s.lo.enc]++[s.hi.enc]=[s.lo.enc,s.hi.enc] from rfl] at hap2
   have hO2:=OwnS.after (hp:=upd (QC (σ 7) (upd (upd hp nx (some ⟨164,11,false,[s.enc]⟩)) (nx+1) (some ⟨162,5,true,[s.lo.enc]⟩))) (nx+1+1) (some ⟨162,5,true,xs++[s.lo.enc]⟩)) (nx:=nx+1+2) (e:=162) (s:=5) (v:=.own (nx+1+1) 0 (xs.length+1)) (xs:=xs++[s.lo.enc]) (c:=s.hi.enc) (tmp:=some ⟨162,5,true,[s.hi.enc]⟩)
   rw[show (xs++[s.lo.enc]).length=xs.length+1 by simp,List.append_assoc,show[s.lo.enc]++[s.hi.enc]=[s.lo.enc,s.hi.enc] from rfl] at hO2
   simp only[Str.enc,Cut.enc,List.cons_append,List.nil_append] at hap1 hap2 hO1 hO2 hke
   have m1:¬nx=nx+1+1:=by omega
   have m2:¬nx=nx+1+2:=by omega
   have m3:¬nx=nx+1+2+1:=by omega
   have n1:¬0=nx:=by omega
   have n2:¬0=nx+1:=by omega
   have n3:¬0=nx+2:=by omega
   have n4:¬0=nx+3:=by omega
   have n5:¬0=nx+4:=by omega
   cases hen:s.endless
   ·rw[hen] at hct
    rw[hen] at hap1 hap2 hO1 hO2 hke
    simp[h0,h1,h2,h19,h20,h21,h25,h26,h27,hltk,hel,hke,hap1,hap2,hkn,hwk,m1,m2,m3,zh,zo,zf]
    refine⟨by omega,?_,?_⟩
    ·simp[zlK,hk0,b0,n1]
    ·rw[hE,hen]
     simp only[Bool.false_eq_true,if_false,List.map_cons,List.map_nil,Cut.enc]
     exact hO2
   ·rw[hen] at hct
    rw[hen] at hap1 hap2 hO1 hO2 hke
    simp[h0,h1,h2,h19,h20,h21,h25,h26,h27,hltk,hel,hke,hap1,hkn,hwk,m1,m2,m3,zh,zo,zf]
    refine⟨by omega,?_,?_⟩
    ·simp[hk0,b0,n1]
    ·rw[hE,hen]
     simp only[if_true,List.map_cons,List.map_nil,Cut.enc]
     exact hO1
  ·obtain rfl:k=l.length:=by omega
   rw[List.take_length,←hl] at hO
   simp[h0,h1,h2,h19,h20,h21,h25,h26,h27,hw]
   exact⟨by omega,hnx,b0,hn7,hO⟩
 ·obtain rfl:i=2:=by omega
  have hls3:(ls.take 2).flatten=a++b:=by rw[←hls];simp
  rw[hls3] at hO
  have hsm:∀c∈zV (a++b),c.v.small:=vX (Q:=fun c=>c.v.small) fun s hs=>by
   rcases List.mem_append.1 hs with h | h
   ·exact ha2 s h
   ·exact hb2 s h
  have hcl:=jw (a++b)
  rw[List.length_append] at hcl
  obtain⟨hp',hsort,hO',hfr'⟩:=zbr hO hsm (by omega)
  obtain⟨v,hv7⟩:∃v,σ 7=v:=⟨_,rfl⟩
  obtain⟨cs,hcs⟩:∃cs,vn (zV (a++b))=cs:=⟨_,rfl⟩
  have hcsl:cs.length≤8388608:=by rw[←hcs,(yR _).length_eq];omega
  have hcsm:∀c∈cs,c.v.small:=fun c hc=>hsm c ((yR _).mem_iff.1 (by rw[hcs];exact hc))
  have hfin:yS f a b=(swL (fun c=>f (wG a c) (wG b c)) cs (false,[])).2:=by rw[←hcs,kg];rfl
  obtain⟨is,his⟩:∃is:Cut→Bool,(fun c=>f (wG a c) (wG b c))=is:=⟨_,rfl⟩
  have hisc:∀c,f (wG a c) (wG b c)=is c:=fun c=>by rw[←his]
  rw[his] at hfin
  rw[hv7] at hsort hO'
  rw[hcs] at hO'
  clear hO hcs hsm hrow hls3
  have hlen:=hO'.len zcX
  have hel:(qb cs).length=cs.length:=by simp[qb]
  rw[hel] at hlen
  simp[h0,h1,h2,h19,h20,h21,hv7,hsort,hlen]
  refine zu (fun k σ hp nx=>σ 0=.sl 11 (zN a)∧σ 1=.sl 11 (zN b)∧σ 2=hv∧σ 48=v∧σ 49=int cs.length∧σ 50=int k∧OwnS hp nx 162 5 v (qb cs)∧∃xs,OwnS hp nx 164 11 (σ 12) xs∧xs.map (Yc y9)=zN (swL is (cs.take k) (false,[])).2 ∧
    σ 13=boo (swL is (cs.take k) (false,[])).1∧(∀id n m,v=.own id 0 n→σ 12≠.own id 0 m)∧((swL is (cs.take k) (false,[])).1=true→(swL is (cs.take k) (false,[])).2≠[])∧xs.length≤k∧(xs=[]→σ 12=.nil)) cs.length
   ⟨by simp[h0],by simp[h1],by simp[h2],by simp,by simp,by simp,hO',[],.inl ⟨by simp,rfl⟩,by simp[swL,zN],by simp[swL],by simp,by simp[swL],by simp,by simp⟩ ?_
  clear h0 h1 h2 h19 h20 h21 hnx b0 hn7 hO' hi σ hp nx hlt hsort hlen hfr' hv7 hp'
  rintro k σ hp nx hk ⟨h0,h1,h2,h48,h49,h50,hO,xs,hX,hxs,h13,hap,hop,hxk,hxn⟩
  by_cases hltk:k<cs.length
  ·have hwk:IntKind.i64.wrap ((k:Int)+1)=(k:Int)+1:=zc (by omega) (by omega)
   obtain⟨id,hid,rfl,hh⟩:=hO.at_ (by rw[hel];omega)
   have hst:=zhs is hltk (false,[])
   obtain⟨st,hst0⟩:∃st,swL is (cs.take k) (false,[])=st:=⟨_,rfl⟩
   obtain⟨c,hc⟩:∃c,cs[k]=c:=⟨_,rfl⟩
   rw[hc,hst0] at hst
   rw[hst0] at hxs h13 hop
   have hopn:=zhr is st c hop
   have hcsmall:c.v.small:=hcsm c (by rw[←hc];exact List.getElem_mem hltk)
   have hke:∀h:k<(qb cs).length,(qb cs)[k]=c.enc:=fun h=>by simp[qb,hc]
   have hca:=fun hp nx=>Wx a c hp nx hsa hcsmall
   have hcb:=fun hp nx=>Wx b c hp nx hsb hcsmall
   have hcall':=fun hp nx=>hcall (wG a c) (wG b c) hp nx
   rw[hisc c] at hcall'
   simp only[Cut.enc] at hca hcb hke
   have m0:¬id=nx:=by omega
   have m1:¬id=nx+1:=by omega
   have m2:¬id=nx+1+1:=by omega
   rw[hel] at hO
   have hki:=fun hp'=>qM hX hp' id (fun n=>hap id _ n rfl)
   have hswS:swS is st c=(is c,if (is c&&!st.1)=true then st.2++[qz c] else if (!is c&&st.1)=true then kI st.2 c else st.2):=rfl
   rw[hswS] at hst
   rw[hswS] at hopn
   simp only at hopn
   obtain⟨op,out⟩:=st
   simp only at hxs h13 hop hopn
   cases hb:is c<;>cases op
   ·rw[hb] at hcall' hst
    simp at hst
    simp[h0,h1,h2,h48,h49,h50,hel,hltk,hh,hke,hca,hcb,hcall',h13,hwk,m0,hst]
    exact⟨by omega,hO.more _,xs,hX.more _,hxs,fun i n m e _=>hap i _ m (by rw[e]),by omega,hxn⟩
   ·rw[hb] at hcall' hst
    simp at hst
    have hne:=hop rfl
    obtain⟨m,hm⟩:∃m,out.length=m+1:=⟨out.length - 1,by have:=List.length_pos_iff.2 hne;omega⟩
    have hxl:xs.length=m+1:=by have:=congrArg List.length hxs;simp[zN] at this;omega
    obtain⟨id2,hid2,h12,hh2⟩:=hX.at_ (by omega)
    have hid12:¬id2=id:=fun e=>hap id _ _ rfl (by rw[h12,e])
    have hid21:¬id=id2:=fun e=>hid12 e.symm
    have p0:¬id2=nx:=by omega
    rw[hxl] at h12
    have hlm:m<xs.length:=by omega
    have hlo:m<out.length:=by omega
    have hrm:Yc y9 xs[m]=out[m].enc:=by
     have e1:(xs.map (Yc y9))[m]?=(zN out)[m]?:=by rw[hxs]
     simp only[List.getElem?_map,List.getElem?_eq_getElem hlm,zN,List.getElem?_eq_getElem hlo,Option.map_some,Option.some.injEq] at e1
     exact e1
    obtain⟨x3,x5,x6,x7,x8,x9,x10,hrow,hn3,hcell⟩:=zdz hrm
    have wm:IntKind.i64.wrap (m:Int)=(m:Int):=zc (by omega) (by omega)
    have wm1:IntKind.i64.wrap ((m:Int)+1 - 1)=(m:Int):=by rw[zc (by omega) (by omega)];omega
    simp[h0,h1,h2,h48,h49,h50,hel,hltk,hh,hke,hca,hcb,hcall',h13,hwk,m0,hst,h12,hh2,p0,wm,wm1,hlm,hrow,hcell,qO]
    refine⟨by omega,.inr ⟨id,by omega,by rw[hel],by simp[hid21,m0,hh]⟩,xs.set m [int out[m].lo.v.a,int out[m].lo.v.b,int out[m].lo.v.c,x3,boo out[m].lo.after,int c.v.a,int c.v.b,int c.v.c,.sl 1 (zD c.v.pre),boo c.after,boo false],.inr ⟨id2,by omega,by simp[hxl],by simp⟩,?_,fun i n k' e _ e2=>absurd (e2.trans e.symm) hid12,by simp;omega,fun e=>by have:=congrArg List.length e;rw[List.length_set,hxl] at this;cases this⟩
    rw[List.map_set,hxs,KY hlo hm c,zN,zN,List.map_set]
    simp[hn3,Str.enc,Cut.enc]
   ·rw[hb] at hcall' hst
    simp at hst
    have hap1:=OwnS.append1 (P:=prog) (t:=118) (c:=[int c.v.a,int c.v.b,int c.v.c,.sl 1 (zD c.v.pre),boo c.after,int 0,int 0,int 0,.nil,boo false,boo true]) (hX.more (some ⟨162,5,false,[c.enc]⟩)) zn9 ziL zk3 zk4 rfl (by omega) (by unfold maxLen;omega) (by omega)
    simp only[Cut.enc] at hap1
    simp[h0,h1,h2,h48,h49,h50,hel,hltk,hh,hke,hca,hcb,hcall',h13,hwk,m0,hst,hap1,zx,zR,zh,zo,zf]
    refine⟨by omega,.inr ⟨id,by omega,by rw[hel],by simp[hki,hh,m0,m1,m2]⟩,xs++[[int c.v.a,int c.v.b,int c.v.c,.sl 1 (zD c.v.pre),boo c.after,int 0,int 0,int 0,.nil,boo false,boo true]],by simpa using OwnS.after,?_,fun i n m e _ e2=>by omega,by simp;omega⟩
    rw[List.map_append,hxs]
    simp[zN,qz,Str.enc,Cut.enc,cut0,zD]
   ·rw[hb] at hcall' hst
    simp at hst
    simp[h0,h1,h2,h48,h49,h50,hel,hltk,hh,hke,hca,hcb,hcall',h13,hwk,m0,hst]
    exact⟨by omega,hO.more _,xs,hX.more _,hxs,fun i n m e _=>hap i _ m (by rw[e]),hop rfl,by omega,hxn⟩
  ·obtain rfl:k=cs.length:=by omega
   rw[List.take_length] at hxs
   rw[←hfin] at hxs
   have hxl:xs.length=(yS f a b).length:=by have:=congrArg List.length hxs;simpa[zN] using this
   simp[h0,h1,h2,h48,h49,h50,f150]
   unfold ZF
   rcases hX with⟨h12,rfl⟩ | ⟨id2,hid2,h12,hh2⟩
   ·rw[if_pos (List.length_eq_zero_iff.1 hxl.symm)]
    exact h12
   ·by_cases hz:yS f a b=[]
    ·rw[if_pos hz]
     rw[hz] at hxl
     exact hxn (List.length_eq_zero_iff.1 hxl)
    ·rw[if_neg hz]
     refine⟨id2,_,h12,hh2,rfl,?_⟩
     simp only[zja,hxs]
theorem Z1 (l:List Str):(Sh.s 11 y9).fix (.sl 11 (zN l))=.sl 11 (zN l):=by
 simp only[Sh.fix_s,zN,List.map_map]
 congr 1
noncomputable def zqb:List PV→Option (Option Blk):=fun args =>
 match zJ (α:=List Str×List Str) (fun a=>[.sl 11 (zN a.1),.sl 11 (zN a.2),.fn (.func 151) [] []]) (fun a=>qK a.1∧qK a.2) (fun a=>ZF and a.1 a.2) args with
 | some r=>some r
 | none=>zJ (α:=List Str×List Str) (fun a=>[.sl 11 (zN a.1),.sl 11 (zN a.2),.fn (.func 152) [] []]) (fun a=>qK a.1∧qK a.2) (fun a=>ZF or a.1 a.2) args
theorem zlL (g:PV):∀a b:List Str×List Str,[PV.sl 11 (zN a.1),.sl 11 (zN a.2),g]=[.sl 11 (zN b.1),.sl 11 (zN b.2),g]→a=b:=by
 rintro⟨a1,a2⟩ ⟨b1,b2⟩ e
 simp only[List.cons.injEq,and_true] at e
 obtain⟨e1,e2⟩:=e
 injection e1 with _ e1
 injection e2 with _ e2
 rw[yu e1,yu e2]
set_option maxRecDepth 100000 in
theorem zbs:za prog 150 (yC [.s 11 y9,.s 11 y9] zqb) :=
 xC (fn:=f150) zri ⟨_,func150,by kernel_rfl,rfl,by kernel_rfl⟩ _ y9 _ fun args r h=>by
  unfold zqb at h
  split at h
  ·rename_i r0 h0
   injection h with h;subst h
   obtain⟨⟨a,b⟩,rfl,⟨h1,h2⟩,rfl⟩:=ze h0
   exact⟨by simp[f150],Je and _ (fun x y hp nx=>by simp[zhq]) a b h1 h2⟩
  ·obtain⟨⟨a,b⟩,rfl,⟨h1,h2⟩,rfl⟩:=ze h
   exact⟨by simp[f150],Je or _ (fun x y hp nx=>by simp[zhq]) a b h1 h2⟩
theorem zfM (args:List PV) (r:Option Blk) (h:vj 9 1 args=some r):args.length≤f66.ntmps∧∃x hp nx,q8 C0 f66 args (fun _=>none) 0=some (x,hp,nx)∧zcl r x hp nx:=by
 unfold vj at h
 split at h
 ·injection h with h;subst h
  exact⟨by simp[f66],zM rfl (by simp[QZ,QY,f66,zcl])⟩
 ·injection h with h;subst h
  exact⟨by simp[f66],zM rfl (by simp[QZ,QY,f66,zcl,zh,qY,AM.view,maxLen,zo,zf])⟩
 ·rename_i es
  split at h
  ·rename_i hc
   obtain⟨rfl,hne,hl⟩:=hc
   injection h with h;subst h
   cases es with
   | nil=>exact absurd rfl hne
   | cons c es =>
     unfold lim at hl
     simp at hl
     have m1:es.length+1≤maxLen:=by unfold maxLen;omega
     have m2:(es.length+1)*16≤140737488355328:=by omega
     refine⟨by simp[f66],zM rfl ?_⟩
     simp[QZ,QY,f66,zcl,zh,qY,AM.view,zo,zf,m1,m2]
  ·cases h
 ·cases h
theorem Jf:za prog 66 (qP [] (vj 9 1)) :=
 jH (fn:=f66) (code:=_) yl ⟨func66,by kernel_rfl,rfl,by kernel_rfl⟩ [] _ zfM
def idV (v:Ver):PV:=.agg v.enc
def idS (s:Str):PV:=.agg s.enc
noncomputable def FVe (f:Ver→PV):List PV→Option PV:=zJ (α:=Ver) (fun v=>[.agg v.enc]) (fun v=>v.pre.length≤lim) f
theorem zhu (f:Ver→PV) (v:Ver) (hp:Hp) (nx:Nat) (h:v.pre.length≤lim):zG [.g jP] (FVe f) [.agg v.enc] hp nx=some (f v,hp,nx) :=
 yp (show zj hp [.agg v.enc]=some ([.agg v.enc],hp) by simp[Ver.enc]) (by
  have e1:(Sh.g jP).fix (.agg v.enc)=.agg v.enc:=by simp[Ver.enc]
  show FVe f [(Sh.g jP).fix (.agg v.enc)]=_
  rw[e1]
  exact zm (enc:=fun v:Ver=>[PV.agg v.enc]) (a:=v) (fun a b e=>by simp only[List.cons.injEq,and_true] at e;injection e with e;exact vi e) h) (.inr (by simp[Ver.enc]))
noncomputable abbrev zv6:Ctx:=zC prog [(66,qP [] (vj 9 1))]
theorem zrj:AM.Good zv6 (fun g=>([]:List Nat).contains g):=zk mixed ⟨Jf,by simp,trivial⟩
theorem JE (v:Ver) (y:PV) (hy:SlOf 1 (zD v.pre) y) (hl:v.pre.length≤lim):∃r0,zg zv6 f201 [.agg [int v.a,int v.b,int v.c,y]]=some r0∧Stands r0 (.agg v.enc):=by
 obtain⟨a,b,c,p⟩:=v
 refine vd (sh:=.g jP) rfl ?_
 simp only at hl hy
 generalize hT:zD p=T at hy
 have hTl:T.length≤lim:=by rw[←hT];simpa[zD] using hl
 cases hy with
 | nil=>simp[qP,qw,vj,zaS,Ver.enc,hT,f201]
 | em=>simp[qP,qw,vj,zaS,Ver.enc,hT,f201]
 | sl =>
   rename_i c0 es
   simp only[List.length_cons] at hTl
   simp[qP,qw,vj,zaS,Ver.enc,hT,hTl,f201]
theorem Yx:za prog 201 (zG [.g jP] (FVe idV)) :=
 xw (fn:=f201) zrj ⟨_,func201,by kernel_rfl,rfl,by kernel_rfl⟩ false [] _ fun args r h w S vs hz=>by
  obtain⟨v,e,hv,rfl⟩:=ze h
  have hz':=ZU (hs:=[.g jP]) hz
  rw[e] at hz'
  obtain⟨u,hu,hr⟩:=xq hz'
  subst hu
  obtain⟨y,hy,hr2⟩:=Kp hr (j:=3) (s:=1) (es:=zD v.pre) (by simp[Ver.enc])
  obtain⟨r0,h1,h2⟩:=JE v y hy hv
  exact⟨_,r0,.cons hr2 .nil,by simp[f201],by simpa[Ver.enc] using h1,h2⟩
noncomputable def FSt (f:Str→PV):List PV→Option PV:=zJ (α:=Str) (fun s=>[.agg s.enc]) Str.small f
theorem zoL (f:Str→PV) (s:Str) (u:PV) (hp:Hp) (nx:Nat) (h:s.small) (hu:(Sh.g y9).fix u=.agg s.enc) (hf:zE hp u=some (u,hp)) (hn:u.noOwn=true):zG [.g y9] (FSt f) [u] hp nx=some (f s,hp,nx) :=
 yp (show zj hp [u]=some ([u],hp) by simp only[zj,hf]) (by
  show FSt f [(Sh.g y9).fix u]=_
  rw[hu]
  exact zm (enc:=fun v:Str=>[PV.agg v.enc]) (a:=s) (fun a b e=>by simp only[List.cons.injEq,and_true] at e;injection e with e;exact zae e) h) (.inr (by rw[List.all_cons,hn];rfl))
noncomputable abbrev zv7:Ctx:=zC prog [(201,zG [.g jP] (FVe idV))]
theorem zrk:AM.Good zv7 (fun g=>[201].contains g):=zk mixed ⟨Yx,fun _=>qv _ _,trivial⟩
theorem JF (s:Str) (hs:s.small):zg zv7 f153 [.agg s.enc]=some (.agg s.enc):=by
 refine zb rfl ?_
 have h1:∀hp nx,zG [.g jP] (FVe idV) [.agg [int s.lo.v.a,int s.lo.v.b,int s.lo.v.c,.sl 1 (zD s.lo.v.pre)]] hp nx=some (.agg [int s.lo.v.a,int s.lo.v.b,int s.lo.v.c,.sl 1 (zD s.lo.v.pre)],hp,nx):=fun hp nx=>zhu idV s.lo.v hp nx hs.1.1
 have h2:∀hp nx,zG [.g jP] (FVe idV) [.agg [int s.hi.v.a,int s.hi.v.b,int s.hi.v.c,.sl 1 (zD s.hi.v.pre)]] hp nx=some (.agg [int s.hi.v.a,int s.hi.v.b,int s.hi.v.c,.sl 1 (zD s.hi.v.pre)],hp,nx):=fun hp nx=>zhu idV s.hi.v hp nx hs.2.1
 simp[Str.enc,Cut.enc,h1,h2,qe,f153,qO]
theorem Yy:za prog 153 (zG [.g y9] (FSt idS)) :=
 zZ (fn:=f153) zrk ⟨_,func153,by kernel_rfl,rfl,by kernel_rfl⟩ _ _ fun args r h=>by
  obtain⟨s,rfl,h1,rfl⟩:=ze h
  exact⟨by simp[f153],_,JF s h1,Stands.refl _⟩
theorem jx {l:List UInt8} {n:Int} (h:jJ l=some n):0≤n∧n≤999999:=by
 unfold jJ at h
 split at h
 ·rename_i hc
  injection h with h
  obtain⟨h1,h2⟩:=zaZ hc.1
  obtain⟨m,h3,h4⟩:=Zs l 0 h2
  have h5:Lib.decNat l=some m:=by
   unfold Lib.decNat
   rw[if_neg (by simpa using h1)]
   exact h3
  have h6:m<10 ^ 6:=Nat.lt_of_lt_of_le (by simpa using h4) (Nat.pow_le_pow_right (by omega) hc.2)
  have h7:n=(m:Int):=by rw[←h];unfold zoe;rw[h5];rfl
  omega
 ·cases h
theorem zlM {v:Ver} (h:wV v=0):(0≤v.a∧v.a≤999999)∧(0≤v.b∧v.b≤999999)∧(0≤v.c∧v.c≤999999)∧v.pre.length≤10∧∀p∈v.pre,qf p=false:=by
 unfold wV at h
 split at h
 ·rename_i hc
  simp only[inB,Bool.and_eq_true,decide_eq_true_eq] at hc
  split at h
  ·cases h
  ·rename_i hl
   split at h
   ·cases h
   ·rename_i hb
    refine⟨hc.1,hc.2.1,hc.2.2,by omega,fun p hp=>?_⟩
    cases hq:qf p with
    | false=>rfl
    | true=>exact absurd (List.any_eq_true.2 ⟨p,hp,hq⟩) hb
 ·cases h
theorem zrl {t:List UInt8} {v:Ver} (h:rdV t=some v):wV v=0:=by
 unfold rdV at h
 split at h
 ·split at h
  ·split at h
   ·rename_i hc
    injection h with h
    rw[←h];exact hc
   ·cases h
  ·cases h
 ·cases h
theorem zjc {p:List UInt8} (h:qf p=false):p.length≤20:=by
 simp only[qf,Bool.or_eq_false_iff,decide_eq_false_iff_not] at h
 omega
theorem zbt:∀(l:List (List UInt8)) (p q:Part) (i:Nat),qq p i l=some q→(0≤p.n0∧p.n0≤999999)∧(0≤p.n1∧p.n1≤999999)∧(0≤p.n2∧p.n2≤999999)∧0≤p.has∧p.has≤i∧(1≤i→1≤p.has)∧p.pre=[] →
  (0≤q.n0∧q.n0≤999999)∧(0≤q.n1∧q.n1≤999999)∧(0≤q.n2∧q.n2≤999999)∧0≤q.has∧q.has≤i+l.length∧(1≤i+l.length→1≤q.has)∧q.pre=[]
 | [],p,q,i,h,hp=>by
   simp only[qq] at h
   injection h with h
   subst h
   simpa using hp
 | t::l,p,q,i,h,hp=>by
   simp only[qq] at h
   split at h
   ·rename_i r hs
    obtain⟨a,b,c,d,e,f,g⟩:=hp
    have hr:(0≤r.n0∧r.n0≤999999)∧(0≤r.n1∧r.n1≤999999)∧(0≤r.n2∧r.n2≤999999)∧0≤r.has∧r.has≤(i+1:Nat)∧(1≤i+1→1≤r.has)∧r.pre=[]:=by
     unfold z8 at hs
     split at hs
     ·rename_i hv
      injection hs with hs
      obtain⟨n,hn⟩:=Option.isSome_iff_exists.1 hv.1
      have hb:=jx hn
      rw[hn] at hs
      simp only[Option.getD_some] at hs
      subst hs
      have hh:=hv.2
      unfold Part.put
      split<;>simp only<;>refine⟨?_,?_,?_,?_,?_,?_,g⟩<;>first | assumption | omega
     ·split at hs
      ·rename_i ho
       injection hs with hs
       subst hs
       exact⟨a,b,c,d,by omega,fun _=>f (by omega),g⟩
      ·cases hs
    have:=zbt l r q (i+1) h hr
    rw[List.length_cons]
    refine⟨this.1,this.2.1,this.2.2.1,this.2.2.2.1,?_,?_,this.2.2.2.2.2.2⟩
    ·have:=this.2.2.2.2.1;omega
    ·intro _;exact this.2.2.2.2.2.1 (by omega)
   ·cases h
def kJ (l:List (List UInt8)):Prop:=l.length≤10∧∀p∈l,qf p=false
theorem xD {l:List (List UInt8)} (h:kJ l):yL l:=⟨by have:=h.1;unfold lim;omega,fun p hp=>by have:=zjc (h.2 p hp);unfold lim;omega⟩
theorem zdC (s sep:List UInt8):zy s sep≠[]:=by
 unfold zy Lib.split
 intro h
 cases hc:Lib.count s sep with
 | zero=>rw[hc] at h;cases h
 | succ n =>
   rw[hc] at h
   simp only[Lib.splitK] at h
   split at h<;>cases h
theorem ZG {t:List UInt8} (h:(zt t).2=true):(zt t).1.ok∧kJ (zt t).1.pre:=by
 unfold zt at h ⊢
 split at h
 ·rename_i hc
  rw[if_pos hc]
  split at h
  ·rename_i v hv
   obtain⟨h1,h2,h3,h4,h5⟩:=zlM (zrl hv)
   exact⟨⟨h1,h2,h3,⟨by simp,by simp⟩,xD ⟨h4,h5⟩⟩,h4,h5⟩
  ·cases h
 ·rename_i hc
  rw[if_neg hc]
  split at h
  ·cases h
  ·rename_i hl
   rw[if_neg hl]
   split at h
   ·rename_i p hp
    have:=zbt _ part0 p 0 hp (by simp[part0])
    obtain⟨h1,h2,h3,h4,h5,h6,h7⟩:=this
    have hn:=List.length_pos_iff.2 (zdC t [46])
    have hg:kJ p.pre:=by rw[h7];exact⟨by simp,by simp⟩
    exact⟨⟨h1,h2,h3,⟨h6 (by omega),by show p.has≤3;omega⟩,xD hg⟩,hg⟩
   ·cases h
def Cpn.good (c:Cpn):Prop:=c.sign.length≤3∧(c.sign=wK∨((c.p.ok∧kJ c.p.pre)∧(c.sign=[45]→c.tu.ok∧kJ c.tu.pre)))
theorem Cpn.good.ok {c:Cpn} (h:c.good):c.ok:=⟨by have:=h.1;unfold lim;omega,h.2.imp id fun⟨h1,h2⟩=>⟨h1.1,fun e=>(h2 e).1⟩⟩
theorem Z2:∀(gs:List (List UInt8)) (s:List UInt8),(opW gs s).1=[]∨(opW gs s).1∈gs
 | [],s=>.inl rfl
 | g::l,s=>by
   simp only[opW]
   split
   ·exact .inr (by simp)
   ·exact (Z2 l s).imp id fun h=>by simp[h]
theorem zhv {s:List UInt8} (h:s=[]∨s∈sgs):s.length≤3∧s≠[45]:=by
 rcases h with rfl | h
 ·simp
 ·simp only[sgs,List.mem_cons,List.not_mem_nil,or_false] at h
  rcases h with rfl | rfl | rfl | rfl | rfl | rfl | rfl<;>simp
theorem zlN {w:List UInt8} {l l':List (List UInt8)} {c:Cpn} (h:ke w l=some (c,l')):c.good∧l'.length≤l.length:=by
 refine⟨?_,zow h⟩
 have hsg:=zhv (Z2 sgs w)
 unfold ke at h
 split at h
 ·injection h with h;injection h with h _;subst h
  exact⟨by simp[zi3,wK],.inl rfl⟩
 ·split at h
  ·split at h
   ·split at h
    ·rename_i hr
     injection h with h;injection h with h _;subst h
     exact⟨hsg.1,.inr ⟨ZG hr,fun e=>absurd e hsg.2⟩⟩
    ·cases h
   ·cases h
  ·split at h
   ·rename_i hr
    injection h with h;injection h with h _;subst h
    exact⟨hsg.1,.inr ⟨ZG hr,fun e=>absurd e hsg.2⟩⟩
   ·cases h
theorem zdD:∀(n:Nat) (ws:List (List UInt8)) (l:List Cpn),wM n ws=some l→(∀c∈l,c.good)∧l.length≤ws.length
 | 0,ws,l,h=>by
   simp only[wM] at h;injection h with h;subst h
   exact⟨by simp,by simp⟩
 | n+1,[],l,h=>by
   simp only[wM] at h;injection h with h;subst h
   exact⟨by simp,by simp⟩
 | n+1,w::ws,l,h=>by
   simp only[wM] at h
   split at h
   ·rename_i c l' hs
    obtain⟨h1,h2⟩:=zlN hs
    cases ha:wM n l' with
    | none=>rw[ha] at h;cases h
    | some r =>
      rw[ha] at h
      simp only[Option.map_some,Option.some.injEq] at h
      subst h
      obtain⟨h3,h4⟩:=zdD n l' r ha
      refine⟨fun x hx=>?_,by simp;omega⟩
      rcases List.mem_cons.1 hx with rfl | hx
      ·exact h1
      ·exact h3 x hx
   ·cases h
theorem zlO {t:List UInt8} (h:(Yd t).2=true):(∀c∈(Yd t).1,c.good)∧(Yd t).1.length≤t.length+1:=by
 have hw:(z7 (zy t [32])).length≤t.length+1:=Nat.le_trans (List.length_filter_le _ _) (yY (by simp))
 have key:∀ws:List (List UInt8),ws=z7 (zy t [32])→((match wM ws.length ws with
   | some l=>(l,!l.isEmpty)
   | none=>([],false)):List Cpn×Bool).2=true→(∀c∈((match wM ws.length ws with
   | some l=>(l,!l.isEmpty)
   | none=>([],false)):List Cpn×Bool).1,c.good)∧((match wM ws.length ws with
   | some l=>(l,!l.isEmpty)
   | none=>([],false)):List Cpn×Bool).1.length≤t.length+1:=by
  intro ws hws hk
  cases ha:wM ws.length ws with
  | none=>rw[ha] at hk;cases hk
  | some l =>
    obtain⟨h1,h2⟩:=zdD _ _ _ ha
    exact⟨h1,by rw[hws] at h2;exact Nat.le_trans h2 hw⟩
 unfold Yd at h ⊢
 split at h
 ·rename_i a b c hws
  split at h
  ·rename_i hb
   simp only[Bool.and_eq_true] at h
   rw[if_pos hb]
   refine⟨fun x hx=>?_,by simp⟩
   simp only[List.mem_singleton] at hx
   subst hx
   exact⟨by simp,.inr ⟨ZG h.1,fun _=>ZG h.2⟩⟩
  ·rename_i hb
   rw[if_neg hb]
   have:=key [a,b,c] (by rw[hws]) h
   exact this
 ·exact key _ rfl h
def Cut.good (c:Cut):Prop:=kJ c.v.pre
theorem Cut.good.small {c:Cut} (h:c.good):c.v.small:=xD h
theorem zdE:cut0.good:=⟨by simp[cut0],by simp[cut0]⟩
theorem wS:leastC.good:=⟨by simp[leastC],by simp[leastC,qf,ziQ,X2,vg,qF,zaY,pr]⟩
theorem QI (p:Part) (i:Nat):(qV p i).good:=by
 have h:(qV p i).v.pre=[[48]]:=by unfold qV;split<;>rfl
 have:=wS
 unfold Cut.good at this ⊢
 rw[h]
 exact this
theorem zbu {p:Part} (h:kJ p.pre):(Qq p).good:=h
theorem Wy {p:Part} (h:kJ p.pre):(jq p).good:=by
 unfold jq
 split
 ·exact QI _ _
 ·exact h
theorem vo {a b:Cut} (ha:a.good) (hb:b.good):(btw a b).length≤1∧∀s∈btw a b,s.lo.good∧s.hi.good:=by
 unfold btw
 split
 ·exact⟨by simp,by simp⟩
 ·refine⟨by simp,fun s hs=>?_⟩
  simp only[List.mem_singleton] at hs
  subst hs
  exact⟨ha,hb⟩
theorem jL {a:Cut} (ha:a.good):([qz a]:List Str).length≤1∧∀s∈[qz a],s.lo.good∧s.hi.good:=by
 refine⟨by simp,fun s hs=>?_⟩
 simp only[List.mem_singleton] at hs
 subst hs
 exact⟨ha,zdE⟩
theorem ZH {c:Cpn} (hc:c.good):(vy c).1.length≤1∧∀s∈(vy c).1,s.lo.good∧s.hi.good:=by
 obtain⟨_,hc⟩:=hc
 unfold vy
 by_cases h0:c.sign=wK
 ·rw[if_pos h0];exact jL wS
 rw[if_neg h0]
 obtain⟨⟨_,hp⟩,ht⟩:=hc.resolve_left h0
 have hl:=zbu hp
 have hh:=Wy hp
 split
 ·exact jL hl
 split
 ·exact vo wS hl
 split
 ·exact jL hh
 split
 ·exact vo wS hh
 split
 ·rename_i e;exact vo hl (Wy (ht e).2)
 split
 ·exact vo hl (QI _ _)
 split
 ·exact vo hl (QI _ _)
 ·exact vo hl hh
def goodR (l:List Str):Prop:=∀s∈l,s.lo.good∧s.hi.good
theorem goodR.small {l:List Str} (h:goodR l) (hl:l.length≤lim):qK l:=⟨hl,fun s hs=>⟨(h s hs).1.small,(h s hs).2.small⟩⟩
theorem wI (f:Bool→Bool→Bool) {a b:List Str} (ha:goodR a) (hb:goodR b):goodR (yS f a b):=zdy zdE f ha hb
def rrA:List (List UInt8)→Option (List (List Cpn))
 | []=>some []
 | s::l=>if (Yd s).2=true then (rrA l).map ((Yd s).1::·) else none
noncomputable def QJ:List Cpn→List Str→Option (List Str)
 | [],m=>some m
 | c::l,m=>if (vy c).2=true then QJ l (yS and m (vy c).1) else none
noncomputable def JG:List (List Cpn)→List Str→Option (List Str)
 | [],o=>some o
 | l::ls,o=>match QJ l [qz leastC] with
   | some m=>JG ls (yS or o m)
   | none=>none
noncomputable def yD (t:List UInt8):List Str×Int:=if (400:Int)<t.length then ([],2) else match rrA (zy t [124,124]) with
 | none=>([],10)
 | some ls=>match JG ls [] with
   | none=>([],1)
   | some o=>if (100:Int)<o.length then ([],2) else (o,0)
theorem zai:∀(l:List Cpn) (m r:List Str),(∀c∈l,c.good)→goodR m→QJ l m=some r→goodR r∧r.length≤m.length+l.length
 | [],m,r,_,hm,h=>by
   simp only[QJ] at h;injection h with h;subst h
   exact⟨hm,by simp⟩
 | c::l,m,r,hl,hm,h=>by
   simp only[QJ] at h
   split at h
   ·obtain⟨h1,h2⟩:=ZH (hl c (by simp))
    obtain⟨h3,h4⟩:=zai l _ r (fun x hx=>hl x (by simp[hx])) (wI and hm h2) h
    have:=vY and m (vy c).1
    exact⟨h3,by simp only[List.length_cons];omega⟩
   ·cases h
theorem zbv:∀(l:List (List UInt8)) (ls:List (List Cpn)) (n:Nat),(∀s∈l,s.length≤n)→rrA l=some ls→(∀a∈ls,(∀c∈a,c.good)∧a.length≤n+1)∧ls.length=l.length
 | [],ls,n,_,h=>by
   simp only[rrA] at h;injection h with h;subst h
   exact⟨by simp,rfl⟩
 | s::l,ls,n,hn,h=>by
   simp only[rrA] at h
   split at h
   ·rename_i hs
    cases ha:rrA l with
    | none=>rw[ha] at h;cases h
    | some r =>
      rw[ha] at h
      simp only[Option.map_some,Option.some.injEq] at h
      subst h
      obtain⟨h1,h2⟩:=zbv l r n (fun x hx=>hn x (by simp[hx])) ha
      obtain⟨h3,h4⟩:=zlO hs
      have:=hn s (by simp)
      refine⟨fun a ha=>?_,by simp[h2]⟩
      rcases List.mem_cons.1 ha with rfl | ha
      ·exact⟨h3,by omega⟩
      ·exact h1 a ha
   ·cases h
def wv (st:Part×Bool) (i:Nat) (t:List UInt8):Option (Part×Bool) :=
 if qH t=true then some (st.1,true) else if st.2=false∧(jJ t).isSome=true then some (st.1.put i ((jJ t).getD 0),false) else none
def qS:Part×Bool→Nat→List (List UInt8)→Option (Part×Bool)
 | st,_,[]=>some st
 | st,i,t::l=>match wv st i t with
   | some q=>qS q (i+1) l
   | none=>none
def rdR (s:List UInt8):Option Part:=if 3<(zy (Lib.cut s [45]).1 [46]).length then none else
 match qS (part0,false) 0 (zy (Lib.cut s [45]).1 [46]) with
 | none=>none
 | some st=>if (yb s).any qf=true then none else if ((Lib.cut s [45]).2.2=false∨st.1.has=3)∧(yb s).length≤10 then some { st.1 with pre:=yb s } else none
def QX (s:List UInt8):Option Part:=match rdR s with
 | some p=>if p.has=0 then none else some p
 | none=>none
theorem kh {t:List UInt8} (h:qH t=true):jJ t=none:=by
 simp only[qH,Bool.or_eq_true,beq_iff_eq] at h
 rcases h with (rfl | rfl) | rfl<;>rfl
theorem KZ (p:Part) (i:Nat) (n:Int):(p.put i n).has=p.has+1∧(p.put i n).pre=p.pre:=by
 unfold Part.put
 split<;>exact⟨rfl,rfl⟩
theorem K0:∀(l:List (List UInt8)) (p:Part) (i:Nat),p.has<i→i≠0→(qS (p,true) i l).map (·.1)=qq p i l∧∀st,qS (p,true) i l=some st→st.1=p
 | [],p,i,_,_=>⟨rfl,fun st h=>by simp only[qS] at h;injection h with h;rw[←h]⟩
 | t::l,p,i,h,hi=>by
   have hne:¬p.has=i:=by omega
   obtain⟨h1,h2⟩:=K0 l p (i+1) (by omega) (by omega)
   by_cases ho:qH t=true
   ·have e1:wv (p,true) i t=some (p,true):=by simp[wv,ho]
    have e2:z8 p i t=some p:=by simp[z8,ho,hi,kh ho]
    simp only[qS,qq,e1,e2]
    exact⟨h1,h2⟩
   ·have e1:wv (p,true) i t=none:=by simp[wv,ho]
    have e2:z8 p i t=none:=by simp[z8,ho,hne]
    simp only[qS,qq,e1,e2]
    exact⟨rfl,fun st h=>by cases h⟩
theorem zhw:∀(l:List (List UInt8)) (p:Part) (i:Nat),p.has=i→i≠0→(qS (p,false) i l).map (·.1)=qq p i l
 | [],p,i,_,_=>rfl
 | t::l,p,i,h,hi=>by
   by_cases ho:qH t=true
   ·have e1:wv (p,false) i t=some (p,true):=by simp[wv,ho]
    have e2:z8 p i t=some p:=by simp[z8,ho,hi,kh ho]
    simp only[qS,qq,e1,e2]
    exact (K0 l p (i+1) (by omega) (by omega)).1
   ·cases hv:jJ t with
    | none =>
      have e1:wv (p,false) i t=none:=by simp[wv,ho,hv]
      have e2:z8 p i t=none:=by simp[z8,ho,hv]
      simp only[qS,qq,e1,e2]
      rfl
    | some n =>
      have e1:wv (p,false) i t=some (p.put i n,false):=by simp[wv,ho,hv]
      have e2:z8 p i t=some (p.put i n):=by simp[z8,hv,h]
      simp only[qS,qq,e1,e2]
      exact zhw l (p.put i n) (i+1) (by rw[(KZ p i n).1];omega) (by omega)
theorem zlP (t:List UInt8) (l:List (List UInt8)):(∃st,qS (part0,false) 0 (t::l)=some st∧((st.1.has=0∧qq part0 0 (t::l)=none)∨(1≤st.1.has∧qq part0 0 (t::l)=some st.1)))∨(qS (part0,false) 0 (t::l)=none∧qq part0 0 (t::l)=none):=by
 by_cases ho:qH t=true
 ·have e1:wv (part0,false) 0 t=some (part0,true):=by simp[wv,ho]
  have e2:z8 part0 0 t=none:=by simp[z8,kh ho]
  simp only[qS,qq,e1,e2]
  cases hf:qS (part0,true) 1 l with
  | none=>exact .inr ⟨by simp,trivial⟩
  | some st =>
    have:=(K0 l part0 1 (by show (0:Int)<1;omega) (by omega)).2 st hf
    exact .inl ⟨st,by simp,.inl ⟨by rw[this];rfl,trivial⟩⟩
 ·cases hv:jJ t with
  | none =>
    have e1:wv (part0,false) 0 t=none:=by simp[wv,ho,hv]
    have e2:z8 part0 0 t=none:=by simp[z8,ho,hv]
    simp only[qS,qq,e1,e2]
    exact .inr ⟨trivial,trivial⟩
  | some n =>
    have e1:wv (part0,false) 0 t=some (part0.put 0 n,false):=by simp[wv,ho,hv]
    have e2:z8 part0 0 t=some (part0.put 0 n):=by simp[z8,hv,part0]
    have hh:(part0.put 0 n).has=1:=by rw[(KZ part0 0 n).1];rfl
    have hs:=zhw l (part0.put 0 n) 1 hh (by omega)
    simp only[qS,qq,e1,e2]
    cases hf:qS (part0.put 0 n,false) 1 l with
    | none =>
      rw[hf] at hs
      exact .inr ⟨by simp,by simpa using hs.symm⟩
    | some st =>
      rw[hf] at hs
      simp only[Option.map_some] at hs
      refine .inl ⟨st,by simp,.inr ⟨?_,by simpa using hs.symm⟩⟩
      have hfp:qq part0 0 (t::l)=some st.1:=by simp only[qq,e2];simpa using hs.symm
      have:=(zbt (t::l) part0 st.1 0 hfp (by simp[part0])).2.2.2.2.2.1
      exact this (by simp)
theorem zty {s:List UInt8} (h:Lib.contains s [45]=false):Lib.cut s [45]=(s,[],false):=by
 unfold Lib.contains at h
 rw[decide_eq_false_iff_not] at h
 unfold Lib.cut
 rw[if_neg h]
theorem zrm {s:List UInt8} (h:Lib.contains s [45]=true):(Lib.cut s [45]).2.2=true:=by
 unfold Lib.contains at h
 rw[decide_eq_true_eq] at h
 unfold Lib.cut
 rw[if_pos h]
theorem zrn (a b c:Int) (l:List (List UInt8)) (ha:0≤a∧a≤999999) (hb:0≤b∧b≤999999) (hc:0≤c∧c≤999999):wV ⟨a,b,c,l⟩=0↔l.any qf=false∧l.length≤10:=by
 have h1:inB a 0 999999=true∧inB b 0 999999=true∧inB c 0 999999=true:=by simp[inB];omega
 unfold wV
 rw[if_pos h1]
 simp only
 by_cases h2:10<l.length
 ·rw[if_pos h2]
  constructor
  ·intro h;cases h
  ·rintro⟨_,h⟩;omega
 ·rw[if_neg h2]
  cases h3:l.any qf
  ·simp;omega
  ·simp
theorem zbw (s:List UInt8):QX s=if (zt s).2=true then some (zt s).1 else none:=by
 cases hc:Lib.contains s [45]
 ·have hcut:=zty hc
  have hpre:yb s=[]:=by unfold yb;rw[hcut];rfl
  unfold QX rdR zt
  simp only[hc,Bool.false_eq_true,if_false,hcut,hpre]
  by_cases h3:3<(zy s [46]).length
  ·rw[if_pos h3,if_pos h3];rfl
  rw[if_neg h3,if_neg h3]
  obtain⟨t,l,hl⟩:∃t l,zy s [46]=t::l:=by
   cases h:zy s [46] with
   | nil=>exact absurd h (zdC _ _)
   | cons t l=>exact⟨t,l,rfl⟩
  rw[hl]
  rcases zlP t l with⟨st,h1,⟨h2,h4⟩ | ⟨h2,h4⟩⟩ | ⟨h1,h4⟩
  ·rw[h1,h4]
   simp[h2]
  ·have hp:st.1.pre=[]:=(zbt (t::l) part0 st.1 0 h4 (by simp[part0])).2.2.2.2.2.2
   have he:({ st.1 with pre:=[] }:Part)=st.1:=by
    obtain⟨⟨a,b,c,d,e⟩,f⟩:=st
    simp only at hp
    subst hp
    rfl
   have h0:¬st.1.has=0:=by omega
   rw[h1,h4]
   simp[h0,he]
  ·rw[h1,h4];rfl
 ·have hcut:=zrm hc
  unfold QX rdR zt
  rw[if_pos hc,hcut]
  simp only[Bool.true_eq_false,false_or]
  obtain⟨l,hl⟩:∃l,zy (Lib.cut s [45]).1 [46]=l:=⟨_,rfl⟩
  obtain⟨pre,hpre⟩:∃pre,yb s=pre:=⟨_,rfl⟩
  rw[hl,hpre]
  have hlong:∀(m:List (List UInt8)) (st st':Part×Bool) (i:Nat),qS st i m=some st'→st'.1.has≤st.1.has+m.length:=by
   intro m
   induction m with
   | nil=>intro st st' i h;simp only[qS] at h;injection h with h;rw[←h];simp
   | cons t m ih =>
     intro st st' i h
     simp only[qS] at h
     cases hs:wv st i t with
     | none=>rw[hs] at h;cases h
     | some q =>
       rw[hs] at h
       have h1:=ih q st' (i+1) h
       have h2:q.1.has≤st.1.has+1:=by
        unfold wv at hs
        split at hs
        ·injection hs with hs;rw[←hs];simp only;omega
        ·split at hs
         ·injection hs with hs;rw[←hs];simp only;rw[(KZ _ _ _).1];omega
         ·cases hs
       simp only[List.length_cons]
       omega
  by_cases h3:l.length=3
  ·obtain⟨p0,p1,p2,rfl⟩:∃a b c,l=[a,b,c]:=zqR h3
   unfold rdV
   rw[hl,hpre]
   simp only
   have hno:¬3 < [p0,p1,p2].length:=by simp
   rw[if_neg hno]
   cases v0:jJ p0 with
   | none =>
     have hf:∀st,qS (part0,false) 0 [p0,p1,p2]=some st→st.1.has≤2:=by
      intro st h
      simp only[qS] at h
      cases hs:wv (part0,false) 0 p0 with
      | none=>rw[hs] at h;cases h
      | some q =>
        rw[hs] at h
        have hq:q.1.has=0:=by
         unfold wv at hs
         split at hs
         ·injection hs with hs;rw[←hs];rfl
         ·rw[v0] at hs;simp at hs
        have:=hlong [p1,p2] q st 1 (by simpa[qS] using h)
        simp only[List.length_cons,List.length_nil] at this
        omega
     cases hfr:qS (part0,false) 0 [p0,p1,p2] with
     | none=>rfl
     | some st =>
       have h2:=hf st hfr
       have hne:¬(st.1.has=3∧pre.length≤10):=by omega
       simp only[if_neg hne]
       cases pre.any qf<;>rfl
   | some a =>
     have o0:qH p0=false:=by
      cases h:qH p0 with
      | false=>rfl
      | true=>rw[kh h] at v0;cases v0
     have s0:wv (part0,false) 0 p0=some (part0.put 0 a,false):=by simp[wv,o0,v0]
     cases v1:jJ p1 with
     | none =>
       have hf:∀st,qS (part0,false) 0 [p0,p1,p2]=some st→st.1.has≤2:=by
        intro st h
        simp only[qS,s0] at h
        cases hs:wv (part0.put 0 a,false) (0+1) p1 with
        | none=>rw[hs] at h;cases h
        | some q =>
          rw[hs] at h
          have hq:q.1.has=1:=by
           unfold wv at hs
           split at hs
           ·injection hs with hs;rw[←hs];rfl
           ·rw[v1] at hs;simp at hs
          have:=hlong [p2] q st 2 (by simpa[qS] using h)
          simp only[List.length_cons,List.length_nil] at this
          omega
       cases hfr:qS (part0,false) 0 [p0,p1,p2] with
       | none=>rfl
       | some st =>
         have h2:=hf st hfr
         have hne:¬(st.1.has=3∧pre.length≤10):=by omega
         simp only[if_neg hne]
         cases pre.any qf<;>rfl
     | some b =>
       have o1:qH p1=false:=by
        cases h:qH p1 with
        | false=>rfl
        | true=>rw[kh h] at v1;cases v1
       have s1:wv (part0.put 0 a,false) (0+1) p1=some ((part0.put 0 a).put 1 b,false):=by simp[wv,o1,v1]
       cases v2:jJ p2 with
       | none =>
         have hf:∀st,qS (part0,false) 0 [p0,p1,p2]=some st→st.1.has≤2:=by
          intro st h
          simp only[qS,s0,s1] at h
          cases hs:wv ((part0.put 0 a).put 1 b,false) (0+1+1) p2 with
          | none=>rw[hs] at h;cases h
          | some q =>
            rw[hs] at h
            have hq:q.1.has=2:=by
             unfold wv at hs
             split at hs
             ·injection hs with hs;rw[←hs];rfl
             ·rw[v2] at hs;simp at hs
            simp only at h
            injection h with h
            rw[←h];omega
         cases hfr:qS (part0,false) 0 [p0,p1,p2] with
         | none=>rfl
         | some st =>
           have h2:=hf st hfr
           have hne:¬(st.1.has=3∧pre.length≤10):=by omega
           simp only[if_neg hne]
           cases pre.any qf<;>rfl
       | some c =>
         have o2:qH p2=false:=by
          cases h:qH p2 with
          | false=>rfl
          | true=>rw[kh h] at v2;cases v2
         have s2:wv ((part0.put 0 a).put 1 b,false) (0+1+1) p2=some (((part0.put 0 a).put 1 b).put 2 c,false):=by simp[wv,o2,v2]
         have hfr:qS (part0,false) 0 [p0,p1,p2]=some (((part0.put 0 a).put 1 b).put 2 c,false):=by simp only[qS,s0,s1,s2]
         rw[hfr]
         have hck:=zrn a b c pre (jx v0) (jx v1) (jx v2)
         by_cases hz:wV ⟨a,b,c,pre⟩=0
         ·obtain⟨hb1,hb2⟩:=hck.1 hz
          simp[hz,hb1,hb2,part0,Part.put]
         ·have hno:¬(pre.any qf=false∧pre.length≤10):=fun h=>hz (hck.2 h)
          cases hb1:pre.any qf
          ·have hb2:¬pre.length≤10:=fun h=>hno ⟨hb1,h⟩
           simp[hz,hb2]
          ·simp[hz]
  ·have hd:rdV s=none:=by
    unfold rdV
    rw[hl]
    split
    ·exact absurd rfl h3
    ·rfl
   rw[hd]
   simp only[Bool.false_eq_true,if_false]
   by_cases h4:3<l.length
   ·rw[if_pos h4]
   rw[if_neg h4]
   cases hfr:qS (part0,false) 0 l with
   | none=>rfl
   | some st =>
     have h5:=hlong l (part0,false) st 0 hfr
     have h6:st.1.has≤2:=by
      have:(part0:Part).has=0:=rfl
      simp only[this] at h5
      omega
     have hne:¬(st.1.has=3∧pre.length≤10):=by omega
     simp only[if_neg hne]
     cases pre.any qf<;>rfl
end Go.Proofs.YtjcofiomfmebkaaGreatDoor
