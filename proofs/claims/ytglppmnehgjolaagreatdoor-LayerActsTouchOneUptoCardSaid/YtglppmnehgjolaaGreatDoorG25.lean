/-
Start.
changing: which experiment can be changed at a time.
Grow.
Equality of values, conditions, experiments, as a truth value (plain).
slices.Equal at ranges, however many.
Whether values, conditions, experiments are the same (the law's own functions).
-/
import Derived.Test.YtglppmnehgjolaaGreatDoorG24
import Derived.Test.YtglppmnehgjolaaGreatDoorG23
import Derived.Test.YtglppmnehgjolaaGreatDoorG15
import Derived.Test.YtglppmnehgjolaaGreatDoorG20
import Derived.Test.YtglppmnehgjolaaGreatDoorG19
import Derived.Test.YtglppmnehgjolaaGreatDoorG13
set_option maxRecDepth 8000
namespace Go.Proofs.YtglppmnehgjolaaGreatDoor
open Go.Proofs.Tryz
open Go.RowKit Go.AM Go.SpanLaw
noncomputable def FStt:List PV→Option PV:=zM (α:=Bk×Xp×Int×Int) (fun a=>[.agg a.1.enc,.agg a.2.1.enc,int a.2.2.1,int a.2.2.2]) (fun a=>a.1.cb+a.2.1.cb+100001≤lim) (fun a=>yO (qJ a.1 a.2.1 a.2.2.1 a.2.2.2))
theorem FStt_call (b:Bk) (e:Xp) (n m:Int) (hp:Hp) (nx:Nat) (h:b.cb+e.cb+100001≤lim):zd false [] FStt [.agg b.enc,.agg e.enc,int n,int m] hp nx=some (yO (qJ b e n m),hp,nx) :=
 zJ (hp1:=hp) (show zk hp [.agg b.enc,.agg e.enc,int n,int m]=some ([.agg b.enc,.agg e.enc,int n,int m],hp) by simp only[zk,kj,freeze_xp];rfl) (zq (enc:=fun a:Bk×Xp×Int×Int=>[.agg a.1.enc,.agg a.2.1.enc,int a.2.2.1,int a.2.2.2]) (a:=(b,e,n,m)) (fun x y e=>by
  obtain⟨x1,x2,x3,x4⟩:=x;obtain⟨y1,y2,y3,y4⟩:=y
  simp only[List.cons.injEq,and_true,PV.agg.injEq] at e
  rw[xq e.1,vy e.2.1,zG e.2.2.1,zG e.2.2.2]) h) (.inr (by simp only[List.all_cons,noOwn_bk,noOwn_xp];rfl))
noncomputable abbrev Cstrt:Ctx:=zN prog [(10,zT [.g bkpat] (FBk fun b=>int (qe b))),(11,zT [.s 13 []] FOfX),(12,zd false [] FOfL),(13,zd false [] (F3 inB)),(14,zd false [] (FIb timeB)),(15,zT [.g bkpat] (FBut fun b s t n=>.sl 2 ((yl b s t n).map encS))),(16,zd false [] (FP (fun l=>int (wL l)) fun l=>okS l)),(17,hKeep (hRun Cce f17)),(18,zd false [] (FPN (fun l n=>.sl 2 ((qp l n).map encS)) fun l n=>okS l∧0≤n∧n≤100000)),(19,hShut (hRun Cxb f19)),(20,hSort 13 21 cfX domX),(23,hDeep (zd false [] (FBk fun b=>yO (ym b))))]
theorem goodstrt:AM.Good Cstrt (fun g=>([]:List Nat).contains g):=zr mixed ⟨xcbN_sound,by simp,ofXN_sound,by simp,vF,by simp,ww,by simp,vC,by simp,freeButN_sound,by simp,size_sound,by simp,yS,by simp,first_sound,by simp,XcopyBookS_sound,by simp,sortX_sound,by simp,madeD_sound,by simp,trivial⟩
theorem push_xp {H:Hp} {N lo:Nat} {rx:PV} {xs:List Xp} {E:List PV} (hr:(xs=[]∧rx=.nil)∨lo<N∧rx=.own lo 0 xs.length∧H lo=some ⟨34,13,true,xs.map Xp.enc⟩) (hv:H N=some ⟨34,13,true,[E]⟩) (hl:xs.length+1≤4194304) :
  ∃H',zV prog H (N+1) 24 24 rx (.own N 0 1)=some (.own (N+1) 0 (xs.length+1),H',N+1+1)∧H' (N+1)=some ⟨34,13,true,xs.map Xp.enc++[E]⟩∧∀j,j<N+1→(j=lo→rx=.nil)→H' j=H j:=by
 have m1:xs.length+1≤maxLen:=by unfold maxLen;omega
 have m2:(xs.length+1)*224≤140737488355328:=by omega
 rcases hr with⟨rfl,rfl⟩ | ⟨h1,rfl,h2⟩
 ·exact⟨upd H (N+1) (some ⟨34,13,true,[E]⟩),by simp[zV,viewS,AM.view,hv,maxLen],by simp,fun j hj _=>zc _ _ _ _ (by omega)⟩
 ·refine⟨upd (upd H lo none) (N+1) (some ⟨34,13,true,xs.map Xp.enc++[E]⟩),by simp[zV,viewS,AM.view,hv,h2,m1,m2],by simp,fun j hj hn=>?_⟩
  have:j≠lo:=fun e=>by have:=hn e;cases this
  rw[zc _ _ _ _ (by omega),zc _ _ _ _ this]
set_option maxHeartbeats 4000000 in
theorem Start_eval (b:Bk) (e:Xp) (n at_:Int) (y:PV) (hy:SlOf 13 (b.exps.map Xp.enc) y) (hb:b.cb+e.cb+100001≤lim) :
  ∃r0,zl Cstrt Tryz.f4 [bkY b y,.agg e.enc,int n,int at_]=some r0∧Stands r0 (yO (qJ b e n at_)):=by
 have hlim:lim=2097152:=rfl
 have hbc:b.cb=sumB Lyr.cb b.layers+sumB Hld.cb b.holds+sumB Xp.cb b.exps:=rfl
 have hleL:=qb vA b.layers
 have hleX:=qb xp_pos b.exps
 refine qF rfl ?_
 refine xe (fun σ hp nx=>σ 2=int n∧σ 3=int at_∧σ 4=.ref 0 0 0∧σ 5=.ref 1 0 0∧σ 8=.ref 2 0 0∧hp 0=some ⟨26,3,false,[[.sl 3 (b.layers.map Lyr.enc),.sl 4 (b.holds.map Hld.enc),y]]⟩∧hp 1=some ⟨34,13,false,[e.enc]⟩∧(∃z,hp 2=some ⟨26,3,false,[z]⟩∧z.length=3)∧nx=3) ?_ ?_
 ·simp[bkY,zF,hy.cell]
 rintro σ hp nx ⟨h2,h3,h4,h5,h8,hb0,hb1,⟨z,hc,hz⟩,rfl⟩
 obtain⟨z0,z1,z2,rfl⟩:=list3 z hz
 have hxb:=fun hp nx=>xcbN_call hy hp nx (by omega)
 have hox:=fun hp nx=>ofXN_call hy e.name hp nx (by omega)
 have hol:=fun hp nx=>vE b.layers e.layer hp nx (by omega)
 simp only[bkY] at hxb
 by_cases c1:qe b=0
 case neg =>
  have hv:qJ b e n at_=(emptyB,qe b):=by unfold qJ;rw[if_neg c1]
  have c1':(qe b != 0)=true:=by simpa using c1
  rw[hv]
  simp[zI,zX,h2,h3,h4,h5,h8,hb0,hb1,hc,hxb,c1',Tryz.f4]
  exact⟨_,by simp,qm _⟩
 simp only[c1] at hxb
 obtain⟨⟨ix,is⟩,hX⟩:∃r,bsN (b.exps.map Xp.name) e.name=r:=⟨_,rfl⟩
 obtain⟨⟨il,ly⟩,hL⟩:∃r,bsN (b.layers.map Lyr.name) e.layer=r:=⟨_,rfl⟩
 simp only[hX] at hox
 simp only[hL] at hol
 rw[zF] at hb1
 by_cases c2:e.phases=[]
 case neg =>
  have hv:qJ b e n at_=(emptyB,3):=by unfold qJ;rw[if_pos c1,if_neg c2]
  have c2':0<e.phases.length:=List.length_pos_iff.2 c2
  rw[hv]
  simp[zI,zX,h2,h3,h4,h5,h8,hb0,hb1,hc,hxb,hox,hol,c2',Tryz.f4]
  exact⟨_,by simp,qm _⟩
 cases c3:is
 case true =>
  have hv:qJ b e n at_=(emptyB,7):=by unfold qJ;rw[if_pos c1,if_pos c2,hX];simp only;rw[if_pos c3]
  rw[hv]
  simp[zI,zX,h2,h3,h4,h5,h8,hb0,hb1,hc,hxb,hox,hol,c2,c3,Tryz.f4]
  exact⟨_,by simp,qm _⟩
 cases c4:inB n 1 100000
 case false =>
  have hv:qJ b e n at_=(emptyB,1):=by unfold qJ;rw[if_pos c1,if_pos c2,hX];simp only;rw[if_neg (by simp[c3]),if_neg (by simp[c4])]
  rw[hv]
  simp[zI,zX,h2,h3,h4,h5,h8,hb0,hb1,hc,hxb,hox,hol,c2,c3,c4,Tryz.f4]
  exact⟨_,by simp,qm _⟩
 cases c5:ly
 case false =>
  have hv:qJ b e n at_=(emptyB,5):=by unfold qJ;rw[if_pos c1,if_pos c2,hX,hL];simp only;rw[if_neg (by simp[c3]),if_pos c4,if_neg (by simp[c5])]
  rw[hv]
  simp[zI,zX,h2,h3,h4,h5,h8,hb0,hb1,hc,hxb,hox,hol,c2,c3,c4,c5,Tryz.f4]
  exact⟨_,by simp,qm _⟩
 cases c6:timeB at_
 case false =>
  have hv:qJ b e n at_=(emptyB,1):=by unfold qJ;rw[if_pos c1,if_pos c2,hX,hL];simp only;rw[if_neg (by simp[c3]),if_pos c4,if_pos c5,if_neg (by simp[c6])]
  rw[hv]
  simp[zI,zX,h2,h3,h4,h5,h8,hb0,hb1,hc,hxb,hox,hol,c2,c3,c4,c5,c6,Tryz.f4]
  exact⟨_,by simp,qm _⟩
 have hfb:=fun hp nx=>freeButN_call hy e.layer [] at_ hp nx ⟨by omega,c1,by rw[hL];exact c5⟩
 obtain⟨Fr,hFr⟩:∃Fr,yl b e.layer [] at_=Fr:=⟨_,rfl⟩
 have hFok:okS Fr:=by rw[←hFr];exact free_okS c1 _ _ _
 simp only[bkY,hFr] at hfb
 have hsz:=fun hp nx=>yy (fun l=>int (wL l)) (fun l=>okS l) Fr hp nx hFok
 have hn:=(inB_iff n 1 100000).1 c4
 by_cases c7:wL Fr<n
 ·have hv:qJ b e n at_=(emptyB,9):=by unfold qJ;rw[if_pos c1,if_pos c2,hX,hL];simp only;rw[if_neg (by simp[c3]),if_pos c4,if_pos c5,if_pos c6,hFr,if_pos c7]
  rw[hv]
  simp[zI,zX,h2,h3,h4,h5,h8,hb0,hb1,hc,hxb,hox,hol,c2,c3,c4,c5,c6,hfb,hsz,c7,Tryz.f4]
  exact⟨_,by simp,qm _⟩
 obtain⟨f,hf⟩:∃f,qp Fr n=f:=⟨_,rfl⟩
 obtain⟨o1,o2,o3⟩:=first_ok hFok (n:=n) (by omega) (by omega)
 rw[hf] at o1 o2 o3
 have hfi:=fun hp nx=>FPN_call (fun l n=>.sl 2 ((qp l n).map encS)) (fun l n=>okS l∧0≤n∧n≤100000) Fr n hp nx ⟨hFok,by omega,by omega⟩
 simp only[hf] at hfi
 obtain⟨x',hx'⟩:∃x',e.begun at_ f=x':=⟨_,rfl⟩
 have hv:qJ b e n at_=ym ⟨b.layers,b.holds,wP (b.exps++[x'])⟩:=by unfold qJ;rw[if_pos c1,if_pos c2,hX,hL];simp only;rw[if_neg (by simp[c3]),if_pos c4,if_pos c5,if_pos c6,hFr,if_neg c7,hf,hx']
 have hcb:Bk.cb ⟨b.layers,b.holds,wP (b.exps++[x'])⟩≤lim:=by
  have h1:=add_cb b e at_ f
  have h2:=o1.2.2.2
  rw[hx'] at h1
  omega
 obtain⟨r,hpA,nxA,d1,d2,⟨row,rfl,mid,ra,rp,rfl,d3,d4,d5,d6⟩,d7⟩:=jO e (by omega) hp 3
 have hrow:[str e.name,str e.layer,str e.flag]++e.cond.enc++[str e.salt,ra,rp]=[str e.name,str e.layer,str e.flag,int e.cond.kind,str e.cond.attr,int e.cond.op,.sl 5 (e.cond.vals.map Val.enc),str e.cond.pat,str e.cond.name,.sl 7 (e.cond.args.map Cnd.enc),str e.salt,ra,rp]:=by rw[qt];rfl
 rw[zF,hrow] at d1
 obtain⟨HA,hHA⟩:∃h:Hp,upd hpA nxA (some (⟨34,13,false,[[str e.name,str e.layer,str e.flag,int e.cond.kind,str e.cond.attr,int e.cond.op,.sl 5 (e.cond.vals.map Val.enc),str e.cond.pat,str e.cond.name,.sl 7 (e.cond.args.map Cnd.enc),str e.salt,ra,rp]]⟩:Blk))=h:=⟨_,rfl⟩
 obtain⟨HB0,hHB0⟩:∃h:Hp,upd HA (nxA+1) (some (⟨58,2,true,[[int at_,.sl 2 (f.map encS)]]⟩:Blk))=h:=⟨_,rfl⟩
 have bs1:zh prog HA (nxA+1) 32 1 [(0,.agg [int at_,.sl 2 (f.map encS)])]=some (.own (nxA+1) 0 1,HB0,nxA+1+1):=by
  rw[←hHB0];simp[zh,zt,zj]
 have bA:HB0 nxA=some ⟨34,13,false,[[str e.name,str e.layer,str e.flag,int e.cond.kind,str e.cond.attr,int e.cond.op,.sl 5 (e.cond.vals.map Val.enc),str e.cond.pat,str e.cond.name,.sl 7 (e.cond.args.map Cnd.enc),str e.salt,ra,rp]]⟩:=by rw[←hHB0,zc _ _ _ _ (by omega),←hHA,wI]
 obtain⟨HB,hHB⟩:∃h:Hp,upd HB0 nxA (some (⟨34,13,false,[[str e.name,str e.layer,str e.flag,int e.cond.kind,str e.cond.attr,int e.cond.op,.sl 5 (e.cond.vals.map Val.enc),str e.cond.pat,str e.cond.name,.sl 7 (e.cond.args.map Cnd.enc),str e.salt,ra,.own (nxA+1) 0 1]]⟩:Blk))=h:=⟨_,rfl⟩
 have oB:∀j,j<nxA→HB j=hpA j:=fun j hj=>by rw[←hHB,zc _ _ _ _ (by omega),←hHB0,zc _ _ _ _ (by omega),←hHA,zc _ _ _ _ (by omega)]
 have bB:HB nxA=some ⟨34,13,false,[[str e.name,str e.layer,str e.flag,int e.cond.kind,str e.cond.attr,int e.cond.op,.sl 5 (e.cond.vals.map Val.enc),str e.cond.pat,str e.cond.name,.sl 7 (e.cond.args.map Cnd.enc),str e.salt,ra,.own (nxA+1) 0 1]]⟩:=by rw[←hHB,wI]
 have pB:HB (nxA+1)=some ⟨58,2,true,[[int at_,.sl 2 (f.map encS)]]⟩:=by rw[←hHB,zc _ _ _ _ (by omega),←hHB0,wI]
 have hB0:HB 0=some ⟨26,3,false,[[.sl 3 (b.layers.map Lyr.enc),.sl 4 (b.holds.map Hld.enc),y]]⟩:=by rw[oB 0 (by omega),d7 0 (by omega)];exact hb0
 have hB2:HB 2=some ⟨26,3,false,[[z0,z1,z2]]⟩:=by rw[oB 2 (by omega),d7 2 (by omega)];exact hc
 obtain⟨r,hpC,nxC,s1,s2,⟨q,rl,rh,rx,rfl,q1,q2,q3,q4,q5⟩,s4⟩:=XcopyBook_shut b y hy (by omega) HB (nxA+1+1)
 simp only[bkY] at s1
 have hrx:rx.isCell=true:=by rcases q5 with⟨_,rfl⟩ | ⟨_,rfl,_⟩<;>rfl
 obtain⟨HC,hHC⟩:∃h:Hp,upd hpC nxC (some (⟨26,3,false,[[rl,rh,rx]]⟩:Blk))=h:=⟨_,rfl⟩
 have oC:∀j,j≠nxC→HC j=hpC j:=fun j hj=>by rw[←hHC,zc _ _ _ _ hj]
 have bC:HC nxC=some ⟨26,3,false,[[rl,rh,rx]]⟩:=by rw[←hHC,wI]
 have xC:HC nxA=some ⟨34,13,false,[[str e.name,str e.layer,str e.flag,int e.cond.kind,str e.cond.attr,int e.cond.op,.sl 5 (e.cond.vals.map Val.enc),str e.cond.pat,str e.cond.name,.sl 7 (e.cond.args.map Cnd.enc),str e.salt,ra,.own (nxA+1) 0 1]]⟩:=by rw[oC _ (by omega),s4 _ (by omega)];exact bB
 have pC:HC (nxA+1)=some ⟨58,2,true,[[int at_,.sl 2 (f.map encS)]]⟩:=by rw[oC _ (by omega),s4 _ (by omega)];exact pB
 have rC:CopyS HC 3 mid 97 3 ra (e.arms.map encG):=d5.same (Nat.le_refl _) (Nat.le_refl _) fun j g1 g2=>by rw[oC _ (by omega),s4 _ (by omega),oB _ (by omega)]
 have xR:XRow HC 3 (nxA+1+1) x' ([str e.name,str e.layer,str e.flag]++e.cond.enc++[str e.salt,ra,.own (nxA+1) 0 1]):=by
  rw[←hx']
  exact⟨mid,ra,.own (nxA+1) 0 1,rfl,by omega,by omega,rC,.inr ⟨by simp[Xp.begun],nxA+1,by omega,by omega,rfl,pC⟩⟩
 obtain⟨hpD,f1,f2⟩:=xR.freeze
 have hrow2:[str e.name,str e.layer,str e.flag]++e.cond.enc++[str e.salt,ra,.own (nxA+1) 0 1]=[str e.name,str e.layer,str e.flag,int e.cond.kind,str e.cond.attr,int e.cond.op,.sl 5 (e.cond.vals.map Val.enc),str e.cond.pat,str e.cond.name,.sl 7 (e.cond.args.map Cnd.enc),str e.salt,ra,.own (nxA+1) 0 1]:=by rw[qt];rfl
 rw[hrow2] at f1
 obtain⟨E,hE⟩:∃E,x'.enc=E:=⟨_,rfl⟩
 have hEl:E.length=13:=by rw[←hE,zF];rfl
 have hEc:E.all PV.isCell=true:=by rw[←hE,zF];rfl
 rw[hE] at f1
 obtain⟨HD,hHD⟩:∃h:Hp,upd hpD (nxC+1) (some (⟨34,13,true,[E]⟩:Blk))=h:=⟨_,rfl⟩
 have bs2:zh prog HC (nxC+1) 24 1 [(0,.agg [str e.name,str e.layer,str e.flag,int e.cond.kind,str e.cond.attr,int e.cond.op,.sl 5 (e.cond.vals.map Val.enc),str e.cond.pat,str e.cond.name,.sl 7 (e.cond.args.map Cnd.enc),str e.salt,ra,.own (nxA+1) 0 1])]=some (.own (nxC+1) 0 1,HD,nxC+1+1):=by
  have hfv:zC HC (.agg [str e.name,str e.layer,str e.flag,int e.cond.kind,str e.cond.attr,int e.cond.op,.sl 5 (e.cond.vals.map Val.enc),str e.cond.pat,str e.cond.name,.sl 7 (e.cond.args.map Cnd.enc),str e.salt,ra,.own (nxA+1) 0 1])=some (.agg E,hpD):=by simp only[zC,f1]
  simp[-zC,-List.all_eq_true,zh,zj,hfv,zt,hEl,hEc,hHD]
 have oD:∀j,j≠nxC+1→(j<3∨nxA+1+1≤j)→HD j=HC j:=fun j h1 h2=>by rw[←hHD,zc _ _ _ _ h1,f2 j h2]
 have vD:HD (nxC+1)=some ⟨34,13,true,[E]⟩:=by rw[←hHD,wI]
 obtain⟨HE,ap,e1,e2⟩:=push_xp (H:=HD) (N:=nxC+1) (lo:=q+2) (rx:=rx) (xs:=b.exps) (E:=E) (by
  rcases q5 with⟨g1,g2⟩ | ⟨g1,g2,g3⟩
  ·exact .inl ⟨g1,g2⟩
  ·exact .inr ⟨by omega,g2,by rw[oD _ (by omega) (by omega),oC _ (by omega)];exact g3⟩) vD (by omega)
 have bE:HE nxC=some ⟨26,3,false,[[rl,rh,rx]]⟩:=by rw[e2 nxC (by omega) (fun g=>by rcases q5 with⟨_,h⟩ | ⟨h,_⟩;exact h;omega),oD _ (by omega) (by omega)];exact bC
 obtain⟨HF,hHF⟩:∃h:Hp,upd HE nxC (some (⟨26,3,false,[[rl,rh,.own (nxC+1+1) 0 (b.exps.length+1)]]⟩:Blk))=h:=⟨_,rfl⟩
 have bF:HF nxC=some ⟨26,3,false,[[rl,rh,.own (nxC+1+1) 0 (b.exps.length+1)]]⟩:=by rw[←hHF,wI]
 have xF:HF (nxC+1+1)=some ⟨34,13,true,(b.exps++[x']).map Xp.enc⟩:=by rw[←hHF,zc _ _ _ _ (by omega),e1,List.map_append,List.map_cons,List.map_nil,hE]
 obtain⟨HG,so,g1,g2⟩:=sortX_call (l:=b.exps++[x']) (by simp;omega) (hp:=HF) (nx:=nxC+1+1+1) (v:=.own (nxC+1+1) 0 (b.exps.length+1)) (.inr ⟨nxC+1+1,by omega,by simp,xF⟩)
 have g2':∀j,j≠nxC+1+1→HG j=HF j:=fun j hj=>g2 j fun m e=>by injection e with e _ _;exact hj e.symm
 have bG:HG nxC=some ⟨26,3,false,[[rl,rh,.own (nxC+1+1) 0 (b.exps.length+1)]]⟩:=by rw[g2' _ (by omega)];exact bF
 have oG:∀j,(j<3∨nxA+1+1≤j)→j<nxC→(j=q+2→rx=.nil)→HG j=hpC j:=fun j h1 h2 h3=>by rw[g2' _ (by omega),←hHF,zc _ _ _ _ (by omega),e2 j (by omega) h3,oD _ (by omega) h1,oC _ (by omega)]
 obtain⟨hpM,m1,m2⟩:=madeD_call (nx:=nxC+1+1+1) (rl:=rl) (rh:=rh) (rx:=.own (nxC+1+1) 0 (b.exps.length+1)) (b:=⟨b.layers,b.holds,wP (b.exps++[x'])⟩) (hp:=HG) (l:=q) (q3.same (Nat.le_refl _) (Nat.le_refl _) fun j h1 h2=>oG j (by omega) (by omega) (by omega)) (q4.same (Nat.le_refl _) (Nat.le_refl _) fun j h1 h2=>oG j (by omega) (by omega) (by omega)) (fun h hh=>by
  rcases g1 with⟨g,_⟩ | ⟨id,_,g,gb⟩
  ·cases g
  ·injection g with ge1 ge2 ge3
   subst ge1
   have hhx:=hh (nxC+1+1) (by omega)
   rw[gb] at hhx
   refine⟨upd h (nxC+1+1) none,?_,fun j hj=>zc _ _ _ _ (by omega)⟩
   simp[y9,zP,hhx,ge3,List.take_of_length_le]) hcb
 have hM2:hpM 2=some ⟨26,3,false,[[z0,z1,z2]]⟩:=by rw[m2 2 (by omega),oG 2 (by omega) (by omega) (by omega),s4 2 (by omega)];exact hB2
 obtain⟨⟨B,fl⟩,hR⟩:∃r,ym ⟨b.layers,b.holds,wP (b.exps++[x'])⟩=r:=⟨_,rfl⟩
 have hbt:yO (B,fl)=.tup [.agg [.sl 3 (B.layers.map Lyr.enc),.sl 4 (B.holds.map Hld.enc),.sl 13 (B.exps.map Xp.enc)],int fl]:=rfl
 rw[hR,hbt] at m1
 rw[hv,hR,hbt]
 have hra:=d5.cell
 have hrp:=d6.cell
 simp only[c2,List.map_nil] at d1 hb1
 have k1:¬nxC=nxA:=by omega
 have k2:¬nxA=nxC:=by omega
 simp[-zC,zI,zX,h2,h3,h4,h5,h8,hb0,hb1,hc,hxb,hox,hol,c2,c3,c4,c5,c6,hfb,hsz,c7,d1,hra,hrp,hHA,hfi,bs1,bA,hHB,hB0,s1,q3.cell,q4.cell,hrx,hHC,bC,xC,bs2,ap,bE,hHF,bF,so,bG,m1,hM2,k1,k2,Tryz.f4]
 exact⟨_,by simp,.refl _⟩
set_option maxRecDepth 100000 in
theorem Start_sound:za prog 4 (zd false [] FStt) :=
 yK (fn:=Tryz.f4) goodstrt ⟨_,func4,by kernel_rfl,rfl,by kernel_rfl⟩ false [] _ fun args r h w S vs hz=>by
  obtain⟨⟨b,e,n,m⟩,rfl,hx,rfl⟩:=zg h
  obtain⟨u,us,rfl,hu,hz'⟩:=hz.uncons
  obtain⟨y,hy,hr2⟩:=yt hu (j:=2) (s:=13) (es:=b.exps.map Xp.enc) (by simp[Bk.enc])
  have henc:PV.agg (b.enc.set 2 y)=bkY b y:=rfl
  rw[henc] at hr2
  obtain⟨r0,h1,h2⟩:=Start_eval b e n m y hy hx
  exact⟨_,r0,.cons hr2 hz',Nat.le_trans (Nat.le_refl 4) (by decide),h1,h2⟩
theorem chg1_run (p:Phs) (n:Int) (hp:Hp) (nx id:Nat) (hid:id<nx) (hh:hp id=some ⟨3,1,false,[[int n]]⟩) :
  hRun C0 f62 [.agg p.enc,.ref id 0 0] hp nx=some (boo (decide (n≤p.at_)),upd hp nx (some ⟨58,2,false,[p.enc]⟩),nx+1):=by
 unfold hRun
 rw[if_pos (by simp[f62])]
 refine wu rfl ?_
 have e1:¬id=nx:=by omega
 simp[Phs.enc,hh,e1,f62]
set_option maxRecDepth 100000 in
theorem chg1_sound:za prog 62 (hRun C0 f62):=zS (code:=_) q7 ⟨func62,by kernel_rfl,rfl,by kernel_rfl⟩
def lateI (n:Int):Nat→List Phs→Int
 | _,[]=>-1
 | k,p::l=>if decide (n≤p.at_)=true then k else lateI n (k+1) l
theorem lateI_any (n:Int):∀(l:List Phs) (k:Nat),decide (0≤lateI n k l)=lateF n l
 | [],k=>by simp[lateI,lateF]
 | p::l,k=>by
   by_cases h:decide (n≤p.at_)=true
   ·have e:lateI n k (p::l)=k:=by simp only[lateI,if_pos h]
    rw[e,lateF,List.any_cons,h];simp
   ·have e:lateI n k (p::l)=lateI n (k+1) l:=by simp only[lateI,if_neg h]
    rw[e,lateI_any n l (k+1),lateF,lateF,List.any_cons,Bool.eq_false_iff.2 h];rfl
noncomputable abbrev Cpix:Ctx:=zN prog [(62,hRun C0 f62)]
theorem goodpix:AM.Good Cpix (fun g=>([]:List Nat).contains g):=zr mixed ⟨chg1_sound,by simp,trivial⟩
set_option maxRecDepth 100000 in
theorem pix_sound:za prog 89 (hRun Cpix f89):=zS (code:=_) goodpix ⟨func89,by kernel_rfl,rfl,by kernel_rfl⟩
def fnL (id:Nat):PV:=.fn (.func 62) [] [.ref id 0 0]
theorem pix_run (l:List Phs) (n:Int) (hl:l.length≤lim) (hp0:Hp) (nx0 id:Nat) (hid:id<nx0) (hh:hp0 id=some ⟨3,1,false,[[int n]]⟩) :
  ∃x hp' nx',hRun Cpix f89 [.sl 2 (l.map Phs.enc),fnL id] hp0 nx0=some (x,hp',nx')∧KeepQ (int (lateI n 0 l)) hp0 nx0 x hp' nx':=by
 unfold hRun
 rw[if_pos (by simp[f89])]
 refine zn rfl ?_
 unfold lim at hl
 simp[fnL]
 refine zD (fun k σ hp nx=>σ 0=.sl 2 (l.map Phs.enc)∧σ 1=fnL id∧σ 7=int l.length∧σ 8=int k∧nx0≤nx∧(∀j,j<nx0→hp j=hp0 j)∧lateI n 0 l=lateI n k (l.drop k)) l.length ⟨by simp,by simp[fnL],by simp,by simp,Nat.le_refl _,fun _ _=>rfl,by simp⟩ ?_
 rintro k σ hp nx hk ⟨h0,h1,h7,h8,hnx,hfr,he⟩
 by_cases hlt:k<l.length
 ·have hw:IntKind.i64.wrap ((k:Int)+1)=(k:Int)+1:=zi (by omega) (by omega)
  obtain⟨p,hx⟩:∃p,l[k]=p:=⟨_,rfl⟩
  have hrun:=chg1_run p n hp nx id (by omega) (by rw[hfr id hid];exact hh)
  simp only[Phs.enc] at hrun
  rw[List.drop_eq_getElem_cons hlt,hx] at he
  simp only[lateI] at he
  cases hz:decide (n≤p.at_)
  ·rw[hz,if_neg (by simp)] at he
   rw[hz] at hrun
   simp[h0,h1,h7,h8,fnL,hlt,hx,Phs.enc,hrun,hw]
   exact⟨hlt,by omega,fun j hj=>by rw[zc _ _ _ _ (by omega)];exact hfr j hj,he⟩
  ·rw[hz,if_pos rfl] at he
   rw[hz] at hrun
   simp[h0,h1,h7,h8,fnL,hlt,hx,Phs.enc,hrun,hw,f89]
   exact⟨by rw[he],by omega,fun j hj=>by rw[zc _ _ _ _ (by omega)];exact hfr j hj⟩
 ·obtain rfl:k=l.length:=by omega
  rw[List.drop_length] at he
  simp only[lateI] at he
  simp[h0,h1,h7,h8,f89]
  exact⟨by rw[he],hnx,hfr⟩
noncomputable abbrev Cpcf:Ctx:=zN prog [(89,hRun Cpix f89)]
theorem goodpcf:AM.Good Cpcf (fun g=>([]:List Nat).contains g):=zr mixed ⟨pix_sound,by simp,trivial⟩
set_option maxRecDepth 100000 in
theorem pcf_sound:za prog 61 (hRun Cpcf f61):=zS (code:=_) goodpcf ⟨func61,by kernel_rfl,rfl,by kernel_rfl⟩
theorem pcf_run (l:List Phs) (n:Int) (hl:l.length≤lim) (hp0:Hp) (nx0 id:Nat) (hid:id<nx0) (hh:hp0 id=some ⟨3,1,false,[[int n]]⟩) :
  ∃x hp' nx',hRun Cpcf f61 [.sl 2 (l.map Phs.enc),fnL id] hp0 nx0=some (x,hp',nx')∧KeepQ (boo (lateF n l)) hp0 nx0 x hp' nx':=by
 unfold hRun
 rw[if_pos (by simp[f61])]
 refine zn rfl ?_
 obtain⟨x,hp',nx',h1,h2,h3,h4⟩:=pix_run l n hl hp0 nx0 id hid hh
 subst h2
 have ha:=lateI_any n l 0
 simp only[fnL] at h1
 simp[fnL,h1,ha,KeepQ,h3,f61]
 exact h4
noncomputable def chgR (b:Bk) (s:List UInt8) (n:Int):Nat×List Sp×Int :=
 if chkX b s n=0 then
  match b.exps[(bsN (b.exps.map Xp.name) s).1]? with
  | none=>(0,[],5)
  | some x=>if (lateF n x.phases||(hasG [] n x.phases).isEmpty)=true then (0,[],11) else ((bsN (b.exps.map Xp.name) s).1,hasG [] n x.phases,0)
 else (0,[],chkX b s n)
def chgTup (r:Nat×List Sp×Int):PV:=.tup [int r.1,.sl 2 (r.2.1.map encS),int r.2.2]
noncomputable def chgOut (b:Bk) (s:List UInt8) (n:Int):PV:=chgTup (chgR b s n)
noncomputable abbrev Cchg:Ctx:=zN prog [(24,zd false [] (FBNI fun b s n=>.tup [int (kJ b s n),int (chkX b s n)])),(26,zd false [] (FXI (fun x n=>.sl 2 ((hasG [] n x.phases).map encS)) fun x _=>x.phases.length≤lim)),(61,hRun Cpcf f61)]
theorem goodchg:AM.Good Cchg (fun g=>([]:List Nat).contains g):=zr mixed ⟨cx_sound,by simp,hasX_sound,by simp,pcf_sound,by simp,trivial⟩
theorem stands_chg (k:Int):Stands (.tup [int 0,.nil,int k]) (chgTup (0,[],k)):=by
 have h:Stands (.nil) (.sl 2 []):=j7 (.s 2 []) _
 exact StandsL.tup (.cons (.refl _) (.cons h (.cons (.refl _) .nil)))
set_option maxHeartbeats 1000000 in
theorem changing_eval (b:Bk) (s:List UInt8) (n:Int) (hb:b.cb≤lim):∃r0,zl Cchg f31 [.agg b.enc,str s,int n]=some r0∧Stands r0 (chgTup (chgR b s n)):=by
 refine qF rfl ?_
 have hck:=fun hp nx=>km (fun b s n=>.tup [int (kJ b s n),int (chkX b s n)]) b s n hp nx hb
 simp only[Bk.enc] at hck
 by_cases c1:chkX b s n=0
 case neg =>
  have hc:chgR b s n=(0,[],chkX b s n):=by unfold chgR;rw[if_neg c1]
  have c1':(chkX b s n != 0)=true:=by simpa using c1
  rw[hc]
  simp[Bk.enc,hck,c1',f31]
  exact⟨_,by simp,stands_chg _⟩
 obtain⟨k1,k2,k3⟩:=chkX_ok c1
 obtain⟨q,hq⟩:∃q,(bsN (b.exps.map Xp.name) s).1=q:=⟨_,rfl⟩
 have hi:kJ b s n=q:=by unfold kJ;rw[if_pos c1,hq]
 have hql:q<b.exps.length:=by have:=bsN_lt k2;rw[hq] at this;simpa using this
 obtain⟨x,hx⟩:∃x,b.exps[q]=x:=⟨_,rfl⟩
 have hxq:b.exps[q]?=some x:=by rw[List.getElem?_eq_getElem hql,hx]
 have hxm:x∈b.exps:=List.mem_of_getElem? hxq
 have hxc:=qL (f:=Xp.cb) hxm
 have hbc:b.cb=sumB Lyr.cb b.layers+sumB Hld.cb b.holds+sumB Xp.cb b.exps:=rfl
 have hxe:x.cb=x.name.length+x.layer.length+x.flag.length+x.cond.cb+x.salt.length+x.arms.length+sumB Phs.cb x.phases:=rfl
 have hxpl:=qb kC x.phases
 have hha:=fun hp nx=>FXI_call (fun x n=>.sl 2 ((hasG [] n x.phases).map encS)) (fun x _=>x.phases.length≤lim) x n hp nx (by omega)
 obtain⟨A,hA⟩:∃A,hasG [] n x.phases=A:=⟨_,rfl⟩
 simp only[hA,zF] at hha
 simp only[hi,c1] at hck
 have hch:∀(hp0:Hp) (nx0:Nat),1<nx0→hp0 1=some ⟨3,1,false,[[int n]]⟩→∃hp' nx',hRun Cpcf f61 [.sl 2 (x.phases.map Phs.enc),fnL 1] hp0 nx0=some (boo (lateF n x.phases),hp',nx'):=fun hp0 nx0 h1 h2=>by
  obtain⟨z,hp',nx',g1,rfl,_,_⟩:=pcf_run x.phases n (by omega) hp0 nx0 1 h1 h2
  exact⟨hp',nx',g1⟩
 have hcR:chgR b s n=if (lateF n x.phases||A.isEmpty)=true then (0,[],11) else (q,A,0):=by unfold chgR;rw[if_pos c1,hq,hxq];simp only;rw[hA]
 rw[hcR]
 refine xe (fun σ hp nx=>σ 1=str s∧σ 3=.ref 0 0 0∧σ 5=.ref 1 0 0∧hp 0=some ⟨26,3,false,[b.enc]⟩∧hp 1=some ⟨3,1,false,[[int n]]⟩∧nx=2) (by simp[Bk.enc]) ?_
 rintro σ hp nx ⟨h1,h3,h5,hb0,hb1,rfl⟩
 obtain⟨hpB,hB⟩:∃h:Hp,upd hp 2 (some (⟨34,13,false,[x.enc]⟩:Blk))=h:=⟨_,rfl⟩
 have bB:hpB 2=some ⟨34,13,false,[x.enc]⟩:=by rw[←hB,wI]
 have b1:hpB 1=some ⟨3,1,false,[[int n]]⟩:=by rw[←hB,zc _ _ _ _ (by omega)];exact hb1
 obtain⟨hp',nx',g⟩:=hch hpB 3 (by omega) b1
 rw[zF] at hB bB
 simp only[Bk.enc] at hb0
 simp only[fnL] at g
 cases hl:lateF n x.phases
 ·rw[hl] at g
  cases A with
  | nil =>
    simp only[List.map_nil] at hha
    simp[h1,h3,h5,hb0,hb1,Bk.enc,hck,hql,hx,zF,hB,bB,b1,hha,g,f31]
    exact⟨_,by simp,stands_chg _⟩
  | cons a A =>
    simp only[List.map_cons] at hha
    have hnz:((A.length:Int)+1==0)=false:=beq_eq_false_iff_ne.2 (by omega)
    simp[hnz,h1,h3,h5,hb0,hb1,Bk.enc,hck,hql,hx,zF,hB,bB,b1,hha,g,f31]
    exact⟨chgTup (q,a::A,0),by simp[chgTup],.refl _⟩
 ·rw[hl] at g
  simp[h1,h3,h5,hb0,hb1,Bk.enc,hck,hql,hx,zF,hB,bB,b1,hha,g,f31]
  exact⟨_,by simp,stands_chg _⟩
set_option maxRecDepth 100000 in
theorem changing_sound:za prog 31 (zd false [] (FBNI chgOut)) :=
 yK (fn:=f31) goodchg ⟨_,func31,by kernel_rfl,rfl,by kernel_rfl⟩ false [] _ fun args r h w S vs hz=>by
  obtain⟨⟨b,s,n⟩,rfl,hx,rfl⟩:=zg h
  obtain⟨r0,h1,h2⟩:=changing_eval b s n hx
  exact⟨_,r0,hz,Nat.le_trans (Nat.le_refl 3) (by decide),h1,h2⟩
noncomputable abbrev Cgr:Ctx:=vJ prog [(31,zd false [] (FBNI chgOut)),(13,zd false [] (F3 inB)),(15,zd false [] (FBut fun b s t n=>.sl 2 ((yl b s t n).map encS))),(32,zd false [] (FPP (fun a b=>.sl 2 ((mins a b).map encS)) fun a b=>okS a∧okS b)),(16,zd false [] (FP (fun l=>int (wL l)) fun l=>okS l)),(18,zd false [] (FPN (fun l n=>.sl 2 ((qp l n).map encS)) fun l n=>okS l∧0≤n∧n≤100000)),(35,zd true [] catF),(34,zd false [] (FP (fun l=>.sl 2 ((togL (wq l)).map encS)) fun l=>Small l∧l.length≤2097152)),(33,zd false [] FChd)] (fun | 9=>[4] | _=>[]) [35]
abbrev qgr:List Nat:=[31,13,15,32,16,18,34,33]
theorem goodgr:AM.Good Cgr (fun g=>qgr.contains g):=good_ofV mixed ⟨changing_sound,fun _=>zf _ _,ww,fun _=>zf _ _,freeBut_sound,fun _=>zf _ _,minus2_sound,fun _=>zf _ _,size_sound,fun _=>zf _ _,first_sound,fun _=>zf _ _,concat_sound,by simp,together_sound,fun _=>zf _ _,changed_sound,fun _=>zf _ _,trivial⟩ ⟨fun _=>w7 _ _ _,fun _=>w7 _ _ _,fun _=>w7 _ _ _,fun _=>w7 _ _ _,fun _=>w7 _ _ _,fun _=>w7 _ _ _,fun _=>w7 _ _ _,fun _=>w7 _ _ _,fun _=>w7 _ _ _,trivial⟩
set_option maxHeartbeats 4000000 in
theorem Grow_eval (b:Bk) (s:List UInt8) (n at_:Int) (hb:b.cb+100001≤lim):∃r0,zl Cgr Tryz.f8 [.agg b.enc,str s,int n,int at_]=some r0∧Stands r0 (yO (y8 b s n at_)):=by
 refine qF rfl ?_
 have hb0:b.cb≤lim:=by omega
 have hcg:=fun hp nx=>km chgOut b s at_ hp nx hb0
 have hwi:=fun hp nx=>F3_call inB n 1 100000 hp nx
 simp only[Bk.enc] at hcg
 by_cases c1:chkX b s at_=0
 case neg =>
  have hv:y8 b s n at_=(emptyB,chkX b s at_):=by unfold y8;rw[if_neg c1]
  have hc:chgR b s at_=(0,[],chkX b s at_):=by unfold chgR;rw[if_neg c1]
  have c1':(chkX b s at_ != 0)=true:=by simpa using c1
  rw[hv]
  simp only[chgOut,hc,chgTup] at hcg
  simp[Bk.enc,zI,zX,hcg,c1',Tryz.f8]
  exact⟨_,by simp,qm _⟩
 obtain⟨k1,k2,k3⟩:=chkX_ok c1
 obtain⟨q,hq⟩:∃q,(bsN (b.exps.map Xp.name) s).1=q:=⟨_,rfl⟩
 have hql:q<b.exps.length:=by have:=bsN_lt k2;rw[hq] at this;simpa using this
 obtain⟨x,hx⟩:∃x,b.exps[q]=x:=⟨_,rfl⟩
 have hxq:b.exps[q]?=some x:=by rw[List.getElem?_eq_getElem hql,hx]
 have hxm:x∈b.exps:=List.mem_of_getElem? hxq
 obtain⟨hyr,hex,_⟩:=chk_ok k1
 obtain⟨A,hA⟩:∃A,hasG [] at_ x.phases=A:=⟨_,rfl⟩
 have hAok:okS A:=by
  rcases hasG_or at_ x.phases [] with e | ⟨p,hp,e⟩
  ·rw[hA] at e;rw[e];exact okS_nil
  ·rw[hA] at e;rw[e];exact okS_of (qV (hex x hxm).1 p hp)
 have hAF:zL A=0:=by
  rcases hasG_or at_ x.phases [] with e | ⟨p,hp,e⟩
  ·rw[hA] at e;rw[e];rfl
  ·rw[hA] at e;rw[e];exact qV (hex x hxm).1 p hp
 by_cases c2:(lateF at_ x.phases||A.isEmpty)=true
 ·have hv:y8 b s n at_=(emptyB,11):=by unfold y8;rw[if_pos c1,hq,hxq];simp only;rw[hA,if_pos c2]
  have hc:chgR b s at_=(0,[],11):=by unfold chgR;rw[if_pos c1,hq,hxq];simp only;rw[hA,if_pos c2]
  rw[hv]
  simp only[chgOut,hc,chgTup] at hcg
  simp[Bk.enc,zI,zX,hcg,Tryz.f8]
  exact⟨_,by simp,qm _⟩
 have hc:chgR b s at_=(q,A,0):=by unfold chgR;rw[if_pos c1,hq,hxq];simp only;rw[hA,if_neg c2]
 simp only[chgOut,hc,chgTup] at hcg
 cases c3:inB n 1 100000
 ·have hv:y8 b s n at_=(emptyB,1):=by unfold y8;rw[if_pos c1,hq,hxq];simp only;rw[hA,if_neg c2,c3,if_neg (by simp)]
  rw[hv]
  simp only[c3] at hwi
  simp[Bk.enc,zI,zX,hcg,hwi,Tryz.f8]
  exact⟨_,by simp,qm _⟩
 have hn:=(inB_iff n 1 100000).1 c3
 simp only[c3] at hwi
 have hfb:=fun hp nx=>FBut_call (fun b s t n=>.sl 2 ((yl b s t n).map encS)) b x.layer s at_ hp nx ⟨hb0,k1,(hex x hxm).2⟩
 obtain⟨Fr,hFr⟩:∃Fr,yl b x.layer s at_=Fr:=⟨_,rfl⟩
 have hFok:okS Fr:=by rw[←hFr];exact free_okS k1 _ _ _
 have hmi:=fun hp nx=>jM (fun a b=>.sl 2 ((mins a b).map encS)) (fun a b=>okS a∧okS b) Fr A hp nx ⟨hFok,hAok⟩
 obtain⟨M,hM⟩:∃M,mins Fr A=M:=⟨_,rfl⟩
 have hMok:okS M:=by rw[←hM];exact (min_ok hFok hAok).1
 have hsz:=fun hp nx=>yy (fun l=>int (wL l)) (fun l=>okS l) M hp nx hMok
 simp only[Bk.enc,hFr] at hfb
 simp only[hM] at hmi
 by_cases c4:wL M<n
 ·have hv:y8 b s n at_=(emptyB,9):=by unfold y8;rw[if_pos c1,hq,hxq];simp only;rw[hA,if_neg c2,if_pos c3,hFr,hM,if_pos c4]
  rw[hv]
  simp[Bk.enc,zI,zX,hcg,hwi,hql,hx,zF,hfb,hmi,hsz,c4,Tryz.f8]
  exact⟨_,by simp,qm _⟩
 obtain⟨f,hf⟩:∃f,qp M n=f:=⟨_,rfl⟩
 have hv:y8 b s n at_=ym (b.put q at_ (uniL A f)):=by unfold y8;rw[if_pos c1,hq,hxq];simp only;rw[hA,if_neg c2,if_pos c3,hFr,hM,if_neg c4,hf]
 obtain⟨o1,o2,o3⟩:=first_ok hMok (n:=n) (by omega) (by omega)
 rw[hf] at o1 o2 o3
 have hfi:=fun hp nx=>FPN_call (fun l n=>.sl 2 ((qp l n).map encS)) (fun l n=>okS l∧0≤n∧n≤100000) M n hp nx ⟨hMok,by omega,by omega⟩
 simp only[hf] at hfi
 have hbs:∀hp nx,zh prog hp nx 119 2 [(0,.sl 2 (A.map encS)),(1,.sl 2 (f.map encS))]=some (.own nx 0 2,upd hp nx (some ⟨38,1,true,[[.sl 2 (A.map encS)],[.sl 2 (f.map encS)]]⟩),nx+1):=fun hp nx=>by
  simp[zh,zt,zj]
 have hcc:=fun hp nx=>concat_call hAok.2.2.2 o1.2.2.2 (hp:=upd hp nx (some ⟨38,1,true,[[.sl 2 (A.map encS)],[.sl 2 (f.map encS)]]⟩)) (nx:=nx+1) (id:=nx) (e:=38) (by simp)
 have hsm:Small (A++f):=by
  have hbb:∀{l:List Sp},okS l→∀s∈l,0≤s.1∧s.1≤100000:=fun {l} h s hs=>by
   have h1:=h.2.2.1 s hs
   have h2:=h.2.1 s hs
   have h3:=wN h.1 s hs
   omega
  intro s hs
  rcases List.mem_append.1 hs with h | h
  ·exact hbb hAok s h
  ·exact hbb o1 s h
 have hto:=fun hp nx=>yy (fun l=>.sl 2 ((togL (wq l)).map encS)) (fun l=>Small l∧l.length≤2097152) (A++f) hp nx ⟨hsm,by have:=hAok.2.2.2;have:=o1.2.2.2;simp only[List.length_append];omega⟩
 have hun:togL (wq (A++f))=uniL A f:=rfl
 have hUok:=uniL_okS hAok o1
 have hne:x.phases≠[]:=by
  intro e
  rw[e] at hA
  simp only[hasG] at hA
  subst hA
  simp at c2
 have hch:=fun hp nx=>FChd_call b q at_ (uniL A f) hp nx ⟨by have:=hUok.2.2.2;omega,x,hxq,hne⟩
 simp only[List.map_append,hun] at hcc hto
 obtain⟨⟨B,fl⟩,hR⟩:∃r,ym (b.put q at_ (uniL A f))=r:=⟨_,rfl⟩
 have hbt:yO (B,fl)=.tup [.agg [.sl 3 (B.layers.map Lyr.enc),.sl 4 (B.holds.map Hld.enc),.sl 13 (B.exps.map Xp.enc)],int fl]:=rfl
 simp only[hR,hbt,Bk.enc] at hch
 rw[hv,hR,hbt]
 simp[Bk.enc,zI,zX,hcg,hwi,hql,hx,zF,hfb,hmi,hsz,c4]
 rw[wz (wA (id:=0) (i:=0) (j:=0) (by simp) (by simp) (by simp;rfl) rfl (wS _))]
 simp[Bk.enc,hcg,hwi,hql,hx,zF,hfb,hmi,hsz,c4,hfi,hbs,hcc,hto,hch,Tryz.f8]
 exact⟨_,by simp,.refl _⟩
noncomputable def FGrw:List PV→Option PV:=zM (α:=Bk×List UInt8×Int×Int) (fun a=>[.agg a.1.enc,str a.2.1,int a.2.2.1,int a.2.2.2]) (fun a=>a.1.cb+100001≤lim) (fun a=>yO (y8 a.1 a.2.1 a.2.2.1 a.2.2.2))
theorem FGrw_call (b:Bk) (s:List UInt8) (n m:Int) (hp:Hp) (nx:Nat) (h:b.cb+100001≤lim):zd false [] FGrw [.agg b.enc,str s,int n,int m] hp nx=some (yO (y8 b s n m),hp,nx) :=
 zJ (hp1:=hp) (show zk hp [.agg b.enc,str s,int n,int m]=some ([.agg b.enc,str s,int n,int m],hp) by simp only[zk,kj];rfl) (zq (enc:=fun a:Bk×List UInt8×Int×Int=>[.agg a.1.enc,str a.2.1,int a.2.2.1,int a.2.2.2]) (a:=(b,s,n,m)) (fun x y e=>by
  obtain⟨x1,x2,x3,x4⟩:=x;obtain⟨y1,y2,y3,y4⟩:=y
  simp only[List.cons.injEq,and_true,PV.agg.injEq] at e
  rw[xq e.1,qa e.2.1,zG e.2.2.1,zG e.2.2.2]) h) (.inr (by simp only[List.all_cons,noOwn_bk];rfl))
set_option maxRecDepth 100000 in
theorem Grow_sound:za prog 8 (zd false [] FGrw) :=
 yK (fn:=Tryz.f8) goodgr ⟨_,func8,by kernel_rfl,rfl,by kernel_rfl⟩ false [] _ fun args r h w S vs hz=>by
  obtain⟨⟨b,s,n,m⟩,rfl,hx,rfl⟩:=zg h
  obtain⟨r0,h1,h2⟩:=Grow_eval b s n m hx
  exact⟨_,r0,hz,by simp[Tryz.f8],h1,h2⟩
end Go.Proofs.YtglppmnehgjolaaGreatDoor
namespace Go.Proofs.YtglppmnehgjolaaGreatDoor
open Go.Proofs.Tryz
open Go.RowKit Go.AM
open Classical in
noncomputable def eqA {α:Type} (a b:α):Bool:=decide (a=b)
open Classical in
theorem yP {α:Type} (a b:α):eqA a b=true↔a=b:=by unfold eqA;exact decide_eq_true_iff
theorem eqA_refl {α:Type} (a:α):eqA a a=true:=(yP a a).2 rfl
theorem eqA_and {α β γ:Type} {a b:α} {c d:β} {e f:γ} (h:a=b↔c=d∧e=f):eqA a b=(eqA c d&&eqA e f):=by rw[Bool.eq_iff_iff,Bool.and_eq_true,yP,yP,yP];exact h
theorem eqA_cons {α:Type} (a b:α) (l m:List α):eqA (a::l) (b::m)=(eqA a b&&eqA l m):=eqA_and (by simp)
theorem eqA_len {α:Type} {l m:List α} (h:l.length≠m.length):eqA l m=false:=by
 cases hc:eqA l m
 ·rfl
 ·exact (h (congrArg List.length ((yP l m).1 hc))).elim
theorem eqA_drop {α:Type} {a b:List α} {k:Nat} (ha:k<a.length) (hb:k<b.length):eqA (a.drop k) (b.drop k)=(eqA a[k] b[k]&&eqA (a.drop (k+1)) (b.drop (k+1))):=by
 rw[List.drop_eq_getElem_cons ha,List.drop_eq_getElem_cons hb,eqA_cons]
theorem eqA_val (a b:Val):eqA a b=((a.kind==b.kind)&&((a.n==b.n)&&((a.s==b.s)&&(eqA a.items b.items&&eqA a.fields b.fields)))):=by
 rw[Bool.eq_iff_iff]
 simp only[Bool.and_eq_true,yP,beq_iff_eq]
 cases a;cases b
 simp[Val.kind,Val.n,Val.s,Val.items,Val.fields]
theorem eqA_fld (a b:List UInt8×Val):eqA a b=((a.1==b.1)&&eqA a.2 b.2):=by
 rw[Bool.eq_iff_iff]
 simp only[Bool.and_eq_true,yP,beq_iff_eq]
 obtain⟨a1,a2⟩:=a;obtain⟨b1,b2⟩:=b
 simp
theorem eqA_cnd (a b:Cnd):eqA a b=((a.kind==b.kind)&&((a.attr==b.attr)&&((a.op==b.op)&&((a.pat==b.pat)&&((a.name==b.name)&&(eqA a.vals b.vals&&eqA a.args b.args)))))):=by
 rw[Bool.eq_iff_iff]
 simp only[Bool.and_eq_true,yP,beq_iff_eq]
 cases a;cases b
 simp only[Cnd.kind,Cnd.attr,Cnd.op,Cnd.pat,Cnd.name,Cnd.vals,Cnd.args,Cnd.mk.injEq]
 constructor
 ·rintro⟨h1,h2,h3,h4,h5,h6,h7⟩;exact⟨h1,h2,h3,h5,h6,h4,h7⟩
 ·rintro⟨h1,h2,h3,h4,h5,h6,h7⟩;exact⟨h1,h2,h3,h6,h4,h5,h7⟩
theorem eqA_phs (a b:Phs):eqA a b=((a.at_==b.at_)&&eqA a.spans b.spans):=by
 rw[Bool.eq_iff_iff]
 simp only[Bool.and_eq_true,yP,beq_iff_eq]
 cases a;cases b
 simp
theorem eqA_xp (a b:Xp):eqA a b=((a.name==b.name)&&((a.layer==b.layer)&&((a.flag==b.flag)&&((a.salt==b.salt)&&(eqA a.cond b.cond&&(eqA a.arms b.arms&&eqA a.phases b.phases)))))):=by
 rw[Bool.eq_iff_iff]
 simp only[Bool.and_eq_true,yP,beq_iff_eq]
 cases a;cases b
 simp only[Xp.mk.injEq]
 constructor
 ·rintro⟨h1,h2,h3,h4,h5,h6,h7⟩;exact⟨h1,h2,h3,h5,h4,h6,h7⟩
 ·rintro⟨h1,h2,h3,h4,h5,h6,h7⟩;exact⟨h1,h2,h3,h5,h4,h6,h7⟩
noncomputable def FRR2 (out:List Rg→List Rg→PV) (pre:List Rg→List Rg→Prop):List PV→Option PV:=zM (α:=List Rg×List Rg) (fun a=>[.sl 3 (a.1.map encG),.sl 3 (a.2.map encG)]) (fun a=>pre a.1 a.2) (fun a=>out a.1 a.2)
theorem FRR2_call (out:List Rg→List Rg→PV) (pre:List Rg→List Rg→Prop) (l m:List Rg) (hp:Hp) (nx:Nat) (h:pre l m):zd false [] (FRR2 out pre) [.sl 3 (l.map encG),.sl 3 (m.map encG)] hp nx=some (out l m,hp,nx) :=
 zJ rfl (zq (enc:=fun a:List Rg×List Rg=>[PV.sl 3 (a.1.map encG),PV.sl 3 (a.2.map encG)]) (a:=(l,m)) (fun a b e=>by
  obtain⟨a1,a2⟩:=a;obtain⟨b1,b2⟩:=b
  simp only[List.cons.injEq,and_true] at e
  rw[xa e.1,xa e.2]) h) (.inr rfl)
theorem eqR_drop2 {a b:List Rg} {k:Nat} (ha:k<a.length) (hb:k<b.length):decide (a.drop k=b.drop k)=(decide (a[k]=b[k])&&decide (a.drop (k+1)=b.drop (k+1))):=by
 rw[List.drop_eq_getElem_cons ha,List.drop_eq_getElem_cons hb,←Bool.decide_and]
 congr 1
 simp only[List.cons.injEq]
theorem binR2 (x y z u v w:Int):binA prog .neq 97 (.agg [int x,int y,int z]) (.agg [int u,int v,int w])=some (boo (!(decide (x=u)&&(decide (y=v)&&decide (z=w))))):=by
 simp only[binA,fl97,qf,if_true,Option.map_some,Bool.and_true]
 rfl
theorem rg_ext2 {a b:Rg}:decide (a=b)=(decide (a.1=b.1)&&(decide (a.2.1=b.2.1)&&decide (a.2.2=b.2.2))):=by
 simp[Prod.ext_iff]
theorem equalR_eval2 (a b:List Rg) (ha:a.length≤lim):zl C0 f58 [.sl 3 (a.map encG),.sl 3 (b.map encG)]=some (boo (decide (a=b))):=by
 refine ze rfl ?_
 unfold lim at ha
 by_cases hl:a.length=b.length
 case neg =>
  have hl':((a.length:Int) != (b.length:Int))=true:=by simp;omega
  have hne:¬a=b:=fun e=>hl (by rw[e])
  simp[hl',hne,f58]
 have hl':((a.length:Int) != (b.length:Int))=false:=by simp[hl]
 simp[hl']
 refine zD (fun k σ hp nx=>σ 0=.sl 3 (a.map encG)∧σ 1=.sl 3 (b.map encG)∧σ 12=int a.length∧σ 13=int k∧decide (a=b)=decide (a.drop k=b.drop k)) a.length
  ⟨by simp,by simp,by simp,by simp,by simp⟩ ?_
 rintro k σ hp nx hk ⟨h0,h1,h12,h13,hf⟩
 by_cases hlt:k<a.length
 ·have hlt':k<b.length:=by omega
  have hw:IntKind.i64.wrap ((k:Int)+1)=(k:Int)+1:=zi (by omega) (by omega)
  rw[eqR_drop2 hlt hlt',rg_ext2] at hf
  by_cases d1:a[k].1=b[k].1<;>by_cases d2:a[k].2.1=b[k].2.1<;>by_cases d3:a[k].2.2=b[k].2.2<;>simp only[d1,d2,d3,decide_true,decide_false,Bool.and_true,Bool.true_and,Bool.and_false,Bool.false_and] at hf
  ·simp[h0,h1,h12,h13,hlt,hlt',d1,d2,d3,hw,binR2]
   exact⟨hlt,by simpa using hf⟩
  all_goals simp[h0,h1,h12,h13,hlt,hlt',d1,d2,d3,hf,binR2,f58]
 ·obtain rfl:k=a.length:=by omega
  rw[List.drop_length,hl,List.drop_length] at hf
  simp[h0,h1,h12,h13,hf,f58]
theorem equalR_sound2:za prog 58 (zd false [] (FRR2 (fun a b=>boo (decide (a=b))) fun a _=>a.length≤lim)) :=
 zZ (fn:=f58) q7 ⟨_,func58,by kernel_rfl,rfl,by kernel_rfl⟩ false [] _ fun args r h=>by
  obtain⟨⟨a,b⟩,rfl,hx,rfl⟩:=zg h
  exact⟨Nat.le_trans (Nat.le_refl 2) (by decide),_,equalR_eval2 a b hx,zY _⟩
end Go.Proofs.YtglppmnehgjolaaGreatDoor
namespace Go.Proofs.YtglppmnehgjolaaGreatDoor
open Go.Proofs.Tryz
open Go.RowKit Go.AM Go.SpanLaw
noncomputable def Fsve (n:Nat):List PV→Option PV:=zM (α:=Val×Val) (fun a=>[.agg a.1.enc,.agg a.2.enc]) (fun a=>a.1.vb≤lim∧a.1.vb≤n∧a.2.vb≤lim) (fun a=>boo (eqA a.1 a.2))
theorem Fsve_call (n:Nat) (a b:Val) (hp:Hp) (nx:Nat) (h:a.vb≤lim∧a.vb≤n∧b.vb≤lim):zd false [] (Fsve n) [.agg a.enc,.agg b.enc] hp nx=some (boo (eqA a b),hp,nx) :=
 zJ (hp1:=hp) (show zk hp [.agg a.enc,.agg b.enc]=some ([.agg a.enc,.agg b.enc],hp) by simp only[zk,j6])
  (zq (enc:=fun a:Val×Val=>[.agg a.1.enc,.agg a.2.enc]) (a:=(a,b)) (fun x y e=>by
   obtain⟨x1,x2⟩:=x;obtain⟨y1,y2⟩:=y
   simp only[List.cons.injEq,and_true,PV.agg.injEq] at e
   rw[ve e.1,ve e.2]) h) (.inl rfl)
theorem sv_lenA {n:Nat} {a b:List Val} (h:(vbs a≤lim∧vbs a≤n)∧vbs b≤lim):a.length≤lim:=by have:=wC a;omega
theorem sv_lenB {n:Nat} {a b:List Val} (h:(vbs a≤lim∧vbs a≤n)∧vbs b≤lim):b.length≤lim:=by have:=wC b;omega
theorem sv_mem {n:Nat} {a b:List Val} (h:(vbs a≤lim∧vbs a≤n)∧vbs b≤lim) {x y:Val} (hx:x∈a) (hy:y∈b):x.vb≤lim∧x.vb≤n∧y.vb≤lim:=by have:=jm hx;have:=jm hy;omega
noncomputable abbrev Csv4 (n:Nat):Ctx:=zN prog [(86,zd false [] (Fsve n))]
theorem sv_eval (n:Nat) (a b:List (Val)) (h:(vbs a≤lim∧vbs a≤n)∧vbs b≤lim):zl (Csv4 n) f85 [.sl 5 (a.map Val.enc),.sl 5 (b.map Val.enc),.fn (.func 86) [] []]=some (boo (eqA a b)):=by
 refine ze rfl ?_
 have la:=sv_lenA h
 have lb:=sv_lenB h
 unfold lim at la lb
 by_cases hl:a.length=b.length
 case neg =>
  have hne:eqA a b=false:=eqA_len hl
  have hl':((a.length:Int)==b.length)=false:=beq_eq_false_iff_ne.2 (by omega)
  have hl2:((a.length:Int) != b.length)=true:=by rw[bne,hl'];rfl
  simp[hl2,hne,f85]
 have hl2:((a.length:Int) != b.length)=false:=by rw[hl];simp
 simp[hl2]
 refine zD (fun k σ hp nx=>σ 0=.sl 5 (a.map Val.enc)∧σ 1=.sl 5 (b.map Val.enc)∧σ 2=.fn (.func 86) [] []∧σ 15=.sl 5 (a.map Val.enc)∧σ 16=int a.length∧σ 17=int k∧eqA a b=eqA (a.drop k) (b.drop k)) a.length
  ⟨by simp,by simp,by simp,by simp,by simp[hl],by simp,by simp⟩ ?_
 rintro k σ hp nx hk ⟨h0,h1,h2,h11,h12,h13,he⟩
 by_cases hlt:k<a.length
 ·have hltb:k<b.length:=by omega
  have hw:IntKind.i64.wrap ((k:Int)+1)=(k:Int)+1:=zi (by omega) (by omega)
  obtain⟨x,hx⟩:∃x,a[k]=x:=⟨_,rfl⟩
  obtain⟨y,hy⟩:∃y,b[k]=y:=⟨_,rfl⟩
  have hc:=fun hp nx=>Fsve_call n x y hp nx (by rw[←hx,←hy];exact sv_mem h (List.getElem_mem hlt) (List.getElem_mem hltb))
  rw[eqA_drop hlt hltb,hx,hy] at he
  cases hz:eqA x y
  ·rw[hz,Bool.false_and] at he
   simp[h0,h1,h2,h11,h12,h13,hlt,hltb,hx,hy,hc,hz,he,f85]
  ·rw[hz,Bool.true_and] at he
   simp[h0,h1,h2,h11,h12,h13,hlt,hltb,hx,hy,hc,hz,hw]
   exact⟨by omega,he⟩
 ·obtain rfl:k=a.length:=by omega
  rw[List.drop_length,hl,List.drop_length,eqA_refl] at he
  simp[h0,h1,h2,h11,h12,h13,he,f85]
noncomputable def Lsv (n:Nat):List PV→Option PV:=zM (α:=List (Val)×List (Val)) (fun a=>[.sl 5 (a.1.map Val.enc),.sl 5 (a.2.map Val.enc),.fn (.func 86) [] []]) (fun p=>let a:=p.1;let b:=p.2;(vbs a≤lim∧vbs a≤n)∧vbs b≤lim) (fun a=>boo (eqA a.1 a.2))
theorem Lsv_call (n:Nat) (a b:List (Val)) (hp:Hp) (nx:Nat) (h:(vbs a≤lim∧vbs a≤n)∧vbs b≤lim):zd false [] (Lsv n) [.sl 5 (a.map Val.enc),.sl 5 (b.map Val.enc),.fn (.func 86) [] []] hp nx=some (boo (eqA a b),hp,nx) :=
 zJ (hp1:=hp) (by simp) (zq (enc:=fun a:List (Val)×List (Val)=>[PV.sl 5 (a.1.map Val.enc),.sl 5 (a.2.map Val.enc),.fn (.func 86) [] []]) (a:=(a,b)) (fun x y e=>by
   obtain⟨x1,x2⟩:=x;obtain⟨y1,y2⟩:=y
   simp only[List.cons.injEq,and_true] at e
   obtain⟨e1,e2⟩:=e
   injection e1 with _ e1
   injection e2 with _ e2
   rw[vm e1,vm e2]) h) (.inl rfl)
theorem sv_sound (n:Nat) (hs:za prog 86 (zd false [] (Fsve n))):za prog 85 (zd false [] (Lsv n)) :=
 zZ (fn:=f85) (zr (q:=[]) mixed ⟨hs,by simp,trivial⟩:AM.Good (Csv4 n) _) ⟨_,func85,by kernel_rfl,rfl,by kernel_rfl⟩ false [] _ fun args r h=>by
  obtain⟨⟨a,b⟩,rfl,hx,rfl⟩:=zg h
  exact⟨Nat.le_trans (Nat.le_refl 3) (by decide),_,sv_eval n a b hx,zY _⟩
noncomputable def Fsfe (n:Nat):List PV→Option PV:=zM (α:=(List UInt8×Val)×(List UInt8×Val)) (fun a=>[.agg (encF a.1),.agg (encF a.2)]) (fun a=>(a.1.2.vb≤lim∧a.1.2.vb≤n∧a.2.2.vb≤lim)) (fun a=>boo (eqA a.1 a.2))
theorem Fsfe_call (n:Nat) (a b:List UInt8×Val) (hp:Hp) (nx:Nat) (h:a.2.vb≤lim∧a.2.vb≤n∧b.2.vb≤lim):zd false [] (Fsfe n) [.agg (encF a),.agg (encF b)] hp nx=some (boo (eqA a b),hp,nx) :=
 zJ (hp1:=hp) (show zk hp [.agg (encF a),.agg (encF b)]=some ([.agg (encF a),.agg (encF b)],hp) by simp[encF])
  (zq (enc:=fun a:(List UInt8×Val)×(List UInt8×Val)=>[.agg (encF a.1),.agg (encF a.2)]) (a:=(a,b)) (fun x y e=>by
   obtain⟨x1,x2⟩:=x;obtain⟨y1,y2⟩:=y
   have e1:encF x1=encF y1∧encF x2=encF y2:=by
    simp only[List.cons.injEq,and_true,PV.agg.injEq] at e
    exact⟨List.cons.injEq .. ▸ e.1,List.cons.injEq .. ▸ e.2⟩
   rw[vk e1.1,vk e1.2]) h) (.inl rfl)
theorem sf_lenA {n:Nat} {a b:List (List UInt8×Val)} (h:(fbs a≤lim∧fbs a≤n)∧fbs b≤lim):a.length≤lim:=by have:=yd a;omega
theorem sf_lenB {n:Nat} {a b:List (List UInt8×Val)} (h:(fbs a≤lim∧fbs a≤n)∧fbs b≤lim):b.length≤lim:=by have:=yd b;omega
theorem sf_mem {n:Nat} {a b:List (List UInt8×Val)} (h:(fbs a≤lim∧fbs a≤n)∧fbs b≤lim) {x y:List UInt8×Val} (hx:x∈a) (hy:y∈b):x.2.vb≤lim∧x.2.vb≤n∧y.2.vb≤lim:=by have:=vf hx;have:=vf hy;omega
noncomputable abbrev Csf (n:Nat):Ctx:=zN prog [(107,zd false [] (Fsfe n))]
theorem sf_eval (n:Nat) (a b:List (List UInt8×Val)) (h:(fbs a≤lim∧fbs a≤n)∧fbs b≤lim):zl (Csf n) f106 [.sl 6 (a.map encF),.sl 6 (b.map encF),.fn (.func 107) [] []]=some (boo (eqA a b)):=by
 refine ze rfl ?_
 have la:=sf_lenA h
 have lb:=sf_lenB h
 unfold lim at la lb
 by_cases hl:a.length=b.length
 case neg =>
  have hne:eqA a b=false:=eqA_len hl
  have hl':((a.length:Int)==b.length)=false:=beq_eq_false_iff_ne.2 (by omega)
  have hl2:((a.length:Int) != b.length)=true:=by rw[bne,hl'];rfl
  simp[hl2,hne,f106]
 have hl2:((a.length:Int) != b.length)=false:=by rw[hl];simp
 simp[hl2]
 refine zD (fun k σ hp nx=>σ 0=.sl 6 (a.map encF)∧σ 1=.sl 6 (b.map encF)∧σ 2=.fn (.func 107) [] []∧σ 15=.sl 6 (a.map encF)∧σ 16=int a.length∧σ 17=int k∧eqA a b=eqA (a.drop k) (b.drop k)) a.length
  ⟨by simp,by simp,by simp,by simp,by simp[hl],by simp,by simp⟩ ?_
 rintro k σ hp nx hk ⟨h0,h1,h2,h11,h12,h13,he⟩
 by_cases hlt:k<a.length
 ·have hltb:k<b.length:=by omega
  have hw:IntKind.i64.wrap ((k:Int)+1)=(k:Int)+1:=zi (by omega) (by omega)
  obtain⟨x,hx⟩:∃x,a[k]=x:=⟨_,rfl⟩
  obtain⟨y,hy⟩:∃y,b[k]=y:=⟨_,rfl⟩
  have hc:=fun hp nx=>Fsfe_call n x y hp nx (by rw[←hx,←hy];exact sf_mem h (List.getElem_mem hlt) (List.getElem_mem hltb))
  rw[eqA_drop hlt hltb,hx,hy] at he
  cases hz:eqA x y
  ·rw[hz,Bool.false_and] at he
   simp[h0,h1,h2,h11,h12,h13,hlt,hltb,hx,hy,hc,hz,he,f106]
  ·rw[hz,Bool.true_and] at he
   simp[h0,h1,h2,h11,h12,h13,hlt,hltb,hx,hy,hc,hz,hw]
   exact⟨by omega,he⟩
 ·obtain rfl:k=a.length:=by omega
  rw[List.drop_length,hl,List.drop_length,eqA_refl] at he
  simp[h0,h1,h2,h11,h12,h13,he,f106]
noncomputable def Lsf (n:Nat):List PV→Option PV:=zM (α:=List (List UInt8×Val)×List (List UInt8×Val)) (fun a=>[.sl 6 (a.1.map encF),.sl 6 (a.2.map encF),.fn (.func 107) [] []]) (fun p=>let a:=p.1;let b:=p.2;(fbs a≤lim∧fbs a≤n)∧fbs b≤lim) (fun a=>boo (eqA a.1 a.2))
theorem Lsf_call (n:Nat) (a b:List (List UInt8×Val)) (hp:Hp) (nx:Nat) (h:(fbs a≤lim∧fbs a≤n)∧fbs b≤lim):zd false [] (Lsf n) [.sl 6 (a.map encF),.sl 6 (b.map encF),.fn (.func 107) [] []] hp nx=some (boo (eqA a b),hp,nx) :=
 zJ (hp1:=hp) (by simp) (zq (enc:=fun a:List (List UInt8×Val)×List (List UInt8×Val)=>[PV.sl 6 (a.1.map encF),.sl 6 (a.2.map encF),.fn (.func 107) [] []]) (a:=(a,b)) (fun x y e=>by
   obtain⟨x1,x2⟩:=x;obtain⟨y1,y2⟩:=y
   simp only[List.cons.injEq,and_true] at e
   obtain⟨e1,e2⟩:=e
   injection e1 with _ e1
   injection e2 with _ e2
   rw[Zg e1,Zg e2]) h) (.inl rfl)
theorem sf_sound (n:Nat) (hs:za prog 107 (zd false [] (Fsfe n))):za prog 106 (zd false [] (Lsf n)) :=
 zZ (fn:=f106) (zr (q:=[]) mixed ⟨hs,by simp,trivial⟩:AM.Good (Csf n) _) ⟨_,func106,by kernel_rfl,rfl,by kernel_rfl⟩ false [] _ fun args r h=>by
  obtain⟨⟨a,b⟩,rfl,hx,rfl⟩:=zg h
  exact⟨Nat.le_trans (Nat.le_refl 3) (by decide),_,sf_eval n a b hx,zY _⟩
noncomputable abbrev Csf1 (n:Nat):Ctx:=zN prog [(86,zd false [] (Fsve n))]
@[simp] theorem qsf1 (n:Nat):qE (Csf1 n) 86:=zW (by rfl) (zf _ _)
theorem sameField_eval (n:Nat) (a b:List UInt8×Val) (h:a.2.vb≤lim∧a.2.vb≤n∧b.2.vb≤lim):zl (Csf1 n) f107 [.agg (encF a),.agg (encF b)]=some (boo (eqA a b)):=by
 refine ze rfl ?_
 have hc:=fun hp nx=>Fsve_call n a.2 b.2 hp nx h
 simp[encF,hc,eqA_fld,f107]
theorem sameField_sound (n:Nat) (hs:za prog 86 (zd false [] (Fsve n))):za prog 107 (zd false [] (Fsfe n)) :=
 zZ (fn:=f107) (zr (q:=[86]) mixed ⟨hs,fun _=>zf _ _,trivial⟩:AM.Good (Csf1 n) _) ⟨_,func107,by kernel_rfl,rfl,by kernel_rfl⟩ false [] _ fun args r h=>by
  obtain⟨⟨a,b⟩,rfl,hx,rfl⟩:=zg h
  exact⟨Nat.le_trans (Nat.le_refl 2) (by decide),_,sameField_eval n a b hx,zY _⟩
abbrev qsv1:List Nat:=[85,106]
noncomputable abbrev Csv1 (n:Nat):Ctx:=zN prog [(85,zd false [] (Lsv n)),(106,zd false [] (Lsf n))]
@[simp] theorem qsv1a (n:Nat):qE (Csv1 n) 85:=zW (by rfl) (zf _ _)
@[simp] theorem qsv1b (n:Nat):qE (Csv1 n) 106:=zW (by rfl) (zf _ _)
theorem sameValue_eval (n:Nat) (a b:Val) (h:a.vb≤lim∧a.vb≤n+1∧b.vb≤lim):zl (Csv1 n) f86 [.agg a.enc,.agg b.enc]=some (boo (eqA a b)):=by
 refine ze rfl ?_
 have ha:=vb_eq a
 have hb:=vb_eq b
 have h1:=fun hp nx=>Lsv_call n a.items b.items hp nx (by omega)
 have h2:=fun hp nx=>Lsf_call n a.fields b.fields hp nx (by omega)
 simp[h1,h2,eqA_val,Bool.and_assoc,f86]
set_option maxRecDepth 100000 in
theorem sameValue_sound:∀n,za prog 86 (zd false [] (Fsve n)):=by
 intro n
 induction n with
 | zero =>
   exact spec_none ⟨_,func86,by kernel_rfl,by kernel_rfl⟩ fun args r h=>by
    obtain⟨⟨a,b⟩,rfl,hx,rfl⟩:=zg h
    have:=vb_pos a
    simp only at hx
    omega
 | succ n ih =>
   have hg:AM.Good (Csv1 n) (fun g=>qsv1.contains g):=zr mixed ⟨sv_sound n ih,fun _=>zf _ _,sf_sound n (sameField_sound n ih),fun _=>zf _ _,trivial⟩
   exact zZ (fn:=f86) hg ⟨_,func86,by kernel_rfl,rfl,by kernel_rfl⟩ false [] _ fun args r h=>by
    obtain⟨⟨a,b⟩,rfl,hx,rfl⟩:=zg h
    exact⟨Nat.le_trans (Nat.le_refl 2) (by decide),_,sameValue_eval n a b hx,zY _⟩
noncomputable def Fsce (n:Nat):List PV→Option PV:=zM (α:=Cnd×Cnd) (fun a=>[.agg a.1.enc,.agg a.2.enc]) (fun a=>a.1.cb≤lim∧a.1.cb≤n∧a.2.cb≤lim) (fun a=>boo (eqA a.1 a.2))
theorem Fsce_call (n:Nat) (a b:Cnd) (hp:Hp) (nx:Nat) (h:a.cb≤lim∧a.cb≤n∧b.cb≤lim):zd false [] (Fsce n) [.agg a.enc,.agg b.enc] hp nx=some (boo (eqA a b),hp,nx) :=
 zJ (hp1:=hp) (show zk hp [.agg a.enc,.agg b.enc]=some ([.agg a.enc,.agg b.enc],hp) by simp only[zk,xB])
  (zq (enc:=fun a:Cnd×Cnd=>[.agg a.1.enc,.agg a.2.enc]) (a:=(a,b)) (fun x y e=>by
   obtain⟨x1,x2⟩:=x;obtain⟨y1,y2⟩:=y
   simp only[List.cons.injEq,and_true,PV.agg.injEq] at e
   rw[Za e.1,Za e.2]) h) (.inl rfl)
theorem sc_lenA {n:Nat} {a b:List Cnd} (h:(cbs a≤lim∧cbs a≤n)∧cbs b≤lim):a.length≤lim:=by have:=jd a;omega
theorem sc_lenB {n:Nat} {a b:List Cnd} (h:(cbs a≤lim∧cbs a≤n)∧cbs b≤lim):b.length≤lim:=by have:=jd b;omega
theorem sc_mem {n:Nat} {a b:List Cnd} (h:(cbs a≤lim∧cbs a≤n)∧cbs b≤lim) {x y:Cnd} (hx:x∈a) (hy:y∈b):x.cb≤lim∧x.cb≤n∧y.cb≤lim:=by have:=xA hx;have:=xA hy;omega
theorem encCn_inj {a b:List Cnd} (h:a.map Cnd.enc=b.map Cnd.enc):a=b:=qZ (fun _ _=>Za) h
noncomputable abbrev Csc (n:Nat):Ctx:=zN prog [(57,zd false [] (Fsce n))]
theorem sc_eval (n:Nat) (a b:List (Cnd)) (h:(cbs a≤lim∧cbs a≤n)∧cbs b≤lim):zl (Csc n) f87 [.sl 7 (a.map Cnd.enc),.sl 7 (b.map Cnd.enc),.fn (.func 57) [] []]=some (boo (eqA a b)):=by
 refine ze rfl ?_
 have la:=sc_lenA h
 have lb:=sc_lenB h
 unfold lim at la lb
 by_cases hl:a.length=b.length
 case neg =>
  have hne:eqA a b=false:=eqA_len hl
  have hl':((a.length:Int)==b.length)=false:=beq_eq_false_iff_ne.2 (by omega)
  have hl2:((a.length:Int) != b.length)=true:=by rw[bne,hl'];rfl
  simp[hl2,hne,f87]
 have hl2:((a.length:Int) != b.length)=false:=by rw[hl];simp
 simp[hl2]
 refine zD (fun k σ hp nx=>σ 0=.sl 7 (a.map Cnd.enc)∧σ 1=.sl 7 (b.map Cnd.enc)∧σ 2=.fn (.func 57) [] []∧σ 15=.sl 7 (a.map Cnd.enc)∧σ 16=int a.length∧σ 17=int k∧eqA a b=eqA (a.drop k) (b.drop k)) a.length
  ⟨by simp,by simp,by simp,by simp,by simp[hl],by simp,by simp⟩ ?_
 rintro k σ hp nx hk ⟨h0,h1,h2,h11,h12,h13,he⟩
 by_cases hlt:k<a.length
 ·have hltb:k<b.length:=by omega
  have hw:IntKind.i64.wrap ((k:Int)+1)=(k:Int)+1:=zi (by omega) (by omega)
  obtain⟨x,hx⟩:∃x,a[k]=x:=⟨_,rfl⟩
  obtain⟨y,hy⟩:∃y,b[k]=y:=⟨_,rfl⟩
  have hc:=fun hp nx=>Fsce_call n x y hp nx (by rw[←hx,←hy];exact sc_mem h (List.getElem_mem hlt) (List.getElem_mem hltb))
  rw[eqA_drop hlt hltb,hx,hy] at he
  cases hz:eqA x y
  ·rw[hz,Bool.false_and] at he
   simp[h0,h1,h2,h11,h12,h13,hlt,hltb,hx,hy,hc,hz,he,f87]
  ·rw[hz,Bool.true_and] at he
   simp[h0,h1,h2,h11,h12,h13,hlt,hltb,hx,hy,hc,hz,hw]
   exact⟨by omega,he⟩
 ·obtain rfl:k=a.length:=by omega
  rw[List.drop_length,hl,List.drop_length,eqA_refl] at he
  simp[h0,h1,h2,h11,h12,h13,he,f87]
noncomputable def Lsc (n:Nat):List PV→Option PV:=zM (α:=List (Cnd)×List (Cnd)) (fun a=>[.sl 7 (a.1.map Cnd.enc),.sl 7 (a.2.map Cnd.enc),.fn (.func 57) [] []]) (fun p=>let a:=p.1;let b:=p.2;(cbs a≤lim∧cbs a≤n)∧cbs b≤lim) (fun a=>boo (eqA a.1 a.2))
theorem Lsc_call (n:Nat) (a b:List (Cnd)) (hp:Hp) (nx:Nat) (h:(cbs a≤lim∧cbs a≤n)∧cbs b≤lim):zd false [] (Lsc n) [.sl 7 (a.map Cnd.enc),.sl 7 (b.map Cnd.enc),.fn (.func 57) [] []] hp nx=some (boo (eqA a b),hp,nx) :=
 zJ (hp1:=hp) (by simp) (zq (enc:=fun a:List (Cnd)×List (Cnd)=>[PV.sl 7 (a.1.map Cnd.enc),.sl 7 (a.2.map Cnd.enc),.fn (.func 57) [] []]) (a:=(a,b)) (fun x y e=>by
   obtain⟨x1,x2⟩:=x;obtain⟨y1,y2⟩:=y
   simp only[List.cons.injEq,and_true] at e
   obtain⟨e1,e2⟩:=e
   injection e1 with _ e1
   injection e2 with _ e2
   rw[encCn_inj e1,encCn_inj e2]) h) (.inl rfl)
theorem sc_sound (n:Nat) (hs:za prog 57 (zd false [] (Fsce n))):za prog 87 (zd false [] (Lsc n)) :=
 zZ (fn:=f87) (zr (q:=[]) mixed ⟨hs,by simp,trivial⟩:AM.Good (Csc n) _) ⟨_,func87,by kernel_rfl,rfl,by kernel_rfl⟩ false [] _ fun args r h=>by
  obtain⟨⟨a,b⟩,rfl,hx,rfl⟩:=zg h
  exact⟨Nat.le_trans (Nat.le_refl 3) (by decide),_,sc_eval n a b hx,zY _⟩
abbrev qsc1:List Nat:=[85,87]
noncomputable abbrev Csc1 (n:Nat):Ctx:=zN prog [(85,zd false [] (Lsv lim)),(87,zd false [] (Lsc n))]
@[simp] theorem qsc1a (n:Nat):qE (Csc1 n) 85:=zW (by rfl) (zf _ _)
@[simp] theorem qsc1b (n:Nat):qE (Csc1 n) 87:=zW (by rfl) (zf _ _)
theorem sameCond_eval (n:Nat) (a b:Cnd) (h:a.cb≤lim∧a.cb≤n+1∧b.cb≤lim):zl (Csc1 n) f57 [.agg a.enc,.agg b.enc]=some (boo (eqA a b)):=by
 refine ze rfl ?_
 have ha:=cb_eq a
 have hb:=cb_eq b
 have h1:=fun hp nx=>Lsv_call lim a.vals b.vals hp nx (by omega)
 have h2:=fun hp nx=>Lsc_call n a.args b.args hp nx (by omega)
 simp[h1,h2,eqA_cnd,Bool.and_assoc,f57]
set_option maxRecDepth 100000 in
theorem sameCond_sound:∀n,za prog 57 (zd false [] (Fsce n)):=by
 intro n
 induction n with
 | zero =>
   exact spec_none ⟨_,func57,by kernel_rfl,by kernel_rfl⟩ fun args r h=>by
    obtain⟨⟨a,b⟩,rfl,hx,rfl⟩:=zg h
    have:=cb_pos a
    simp only at hx
    omega
 | succ n ih =>
   have hg:AM.Good (Csc1 n) (fun g=>qsc1.contains g):=zr mixed ⟨sv_sound lim (sameValue_sound lim),fun _=>zf _ _,sc_sound n ih,fun _=>zf _ _,trivial⟩
   exact zZ (fn:=f57) hg ⟨_,func57,by kernel_rfl,rfl,by kernel_rfl⟩ false [] _ fun args r h=>by
    obtain⟨⟨a,b⟩,rfl,hx,rfl⟩:=zg h
    exact⟨Nat.le_trans (Nat.le_refl 2) (by decide),_,sameCond_eval n a b hx,zY _⟩
end Go.Proofs.YtglppmnehgjolaaGreatDoor
