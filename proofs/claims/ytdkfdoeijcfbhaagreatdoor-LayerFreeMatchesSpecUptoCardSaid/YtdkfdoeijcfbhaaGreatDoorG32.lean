/-
The reference's spans of a layer: what an experiment has, the layer, what is free.
The reference's spans of a layer: what is free.
slices.Insert of one piece ahead of the end.
-/
import Derived.Test.YtdkfdoeijcfbhaaGreatDoorG31
import Derived.Test.YtdkfdoeijcfbhaaGreatDoorG29
import Derived.Test.YtdkfdoeijcfbhaaGreatDoorG11
import Derived.Shelf.Spec.SlicesInsert
set_option maxRecDepth 8000
namespace Go.Proofs.YtdkfdoeijcfbhaaGreatDoor
open Go.Proofs.Tryz
open Go.RowKit Go.AM Go.SpanLaw
theorem runionN (kill:Bool) (ns:List Nat):za prog 112 (zd kill ns (FPP (fun a b=>.sl 2 ((uniL a b).map encS)) fun a b=>okS a∧okS b)) :=
 yw (fn:=f112) (zk (q:=[109]) mixed ⟨KI,by simp,XO,fun _=>zh _ _,XQ,by simp,trivial⟩:AM.Good Csw _) ⟨_,func112,by kernel_rfl,rfl,by kernel_rfl⟩ kill ns _ fun args r h w S vs hz=>by
  obtain⟨⟨a,b⟩,rfl,⟨ha,hb⟩,rfl⟩:=ze h
  obtain⟨d,hd,r0,h1,h2⟩:=runion_eval a b ha hb
  obtain⟨u1,u2⟩:=KJ ha hb
  have e:d=uniL a b:=Yq hd.canon u1 fun k=>by
   rw[hd.holds,u2]
   constructor
   ·exact fun g=>g.2.2
   ·intro g
    have:0≤k∧k<100000:=g.elim (Ww ha) (Ww hb)
    exact⟨this.1,this.2,g⟩
  rw[e] at h2
  exact⟨_,r0,hz,Nat.le_trans (Nat.le_refl 2) (by decide),h1,h2⟩
theorem rminusN (kill:Bool) (ns:List Nat):za prog 70 (zd kill ns (FPP (fun a b=>.sl 2 ((mins a b).map encS)) fun a b=>okS a∧okS b)) :=
 yw (fn:=f70) (zk (q:=[109]) mixed ⟨KI,by simp,XO,fun _=>zh _ _,XQ,by simp,trivial⟩:AM.Good Csw _) ⟨_,func70,by kernel_rfl,rfl,by kernel_rfl⟩ kill ns _ fun args r h w S vs hz=>by
  obtain⟨⟨a,b⟩,rfl,⟨ha,hb⟩,rfl⟩:=ze h
  obtain⟨d,hd,r0,h1,h2⟩:=rminus_eval a b ha hb
  have c1:=ha.1
  have c2:=hb.1
  have e:d=mins a b:=Yq hd.canon (Zn c1 c2) fun k=>by
   rw[hd.holds,Yr c1 c2]
   constructor
   ·exact fun g=>g.2.2
   ·intro g
    have:=Ww ha g.1
    exact⟨this.1,this.2,g⟩
  rw[e] at h2
  exact⟨_,r0,hz,Nat.le_trans (Nat.le_refl 2) (by decide),h1,h2⟩
def SpV (v:PV) (d:List Sp):Prop:=v=.sl 2 (d.map encS)∨(v=.nil∧d=[])
theorem uni_call {v:PV} {a b:List Sp} (hv:SpV v a) (hp:Hp) (nx:Nat) (ha:okS a) (hb:okS b):zd false [2,2] (FPP (fun a b=>.sl 2 ((uniL a b).map encS)) fun a b=>okS a∧okS b) [v,.sl 2 (b.map encS)] hp nx=some (.sl 2 ((uniL a b).map encS),hp,nx):=by
 have hs:FPP (fun a b=>.sl 2 ((uniL a b).map encS)) (fun a b=>okS a∧okS b) [.sl 2 (a.map encS),.sl 2 (b.map encS)]=some (.sl 2 ((uniL a b).map encS)) :=
  zm (enc:=fun a:List Sp×List Sp=>[PV.sl 2 (a.1.map encS),.sl 2 (a.2.map encS)]) (a:=(a,b)) (fun a b e=>by
   obtain⟨a1,a2⟩:=a;obtain⟨b1,b2⟩:=b
   simp only[List.cons.injEq,and_true] at e
   rw[wP e.1,wP e.2]) ⟨ha,hb⟩
 rcases hv with rfl | ⟨rfl,rfl⟩
 ·exact zy rfl hs (.inr rfl)
 ·exact zy rfl hs (.inr rfl)
theorem min_call {v:PV} {a b:List Sp} {hp:Hp} (hv:v=.sl 2 (a.map encS)∨∃id,v=.own id 0 a.length∧hp id=some ⟨41,2,true,a.map encS⟩) (nx:Nat) (ha:okS a) (hb:okS b):∃hp',zd true [2,2] (FPP (fun a b=>.sl 2 ((mins a b).map encS)) fun a b=>okS a∧okS b) [v,.sl 2 (b.map encS)] hp nx=some (.sl 2 ((mins a b).map encS),hp',nx)∧∀j blk,hp j=some blk→blk.arr=false→hp' j=some blk:=by
 have hs:FPP (fun a b=>.sl 2 ((mins a b).map encS)) (fun a b=>okS a∧okS b) [.sl 2 (a.map encS),.sl 2 (b.map encS)]=some (.sl 2 ((mins a b).map encS)) :=
  zm (enc:=fun a:List Sp×List Sp=>[PV.sl 2 (a.1.map encS),.sl 2 (a.2.map encS)]) (a:=(a,b)) (fun a b e=>by
   obtain⟨a1,a2⟩:=a;obtain⟨b1,b2⟩:=b
   simp only[List.cons.injEq,and_true] at e
   rw[wP e.1,wP e.2]) ⟨ha,hb⟩
 rcases hv with rfl | ⟨id,rfl,hh⟩
 ·exact⟨hp,zy rfl hs (.inr rfl),fun _ _ h _=>h⟩
 ·refine⟨upd hp id none,?_,fun j blk hj ha=>by
   rw[zl _ _ _ _ (fun e=>by subst e;rw[hh] at hj;injection hj with hj;subst hj;cases ha)];exact hj⟩
  have hf:zj hp [.own id 0 a.length,.sl 2 (b.map encS)]=some ([.sl 2 (a.map encS),.sl 2 (b.map encS)],upd hp id none):=by
   simp[hh]
   try rw[List.take_of_length_le (by simp)]
  unfold zd
  rw[hf]
  simp only
  rw[show qc [2,2] [PV.sl 2 (a.map encS),.sl 2 (b.map encS)]=[.sl 2 (a.map encS),.sl 2 (b.map encS)] from rfl,hs]
  simp[PV.noOwn]
theorem spansAt_eval (x:Xp) (n:Int) (h:x.phases.length≤lim):∃r0,zi C0 f31 [.agg x.enc,int n]=some r0∧Stands r0 (.sl 2 ((hasG [] n x.phases).map encS)):=by
 refine qz rfl ?_
 unfold lim at h
 rw[zw]
 simp
 refine zq (fun k σ hp nx=>σ 1=int n∧σ 9=.sl 2 (x.phases.map Phs.enc)∧σ 10=int x.phases.length∧σ 11=int k∧∃d,SpV (σ 5) d∧hasG [] n x.phases=hasG d n (x.phases.drop k)) x.phases.length
  ⟨by simp,by simp,by simp,by simp,[],.inr ⟨by simp,rfl⟩,by simp⟩ ?_
 rintro k σ hp nx hk ⟨h1,h9,h10,h11,d,hd,he⟩
 by_cases hlt:k<x.phases.length
 ·obtain⟨p,hp0⟩:∃p,x.phases[k]=p:=⟨_,rfl⟩
  rw[List.drop_eq_getElem_cons hlt,hp0] at he
  simp only[hasG] at he
  have hw:IntKind.i64.wrap ((k:Int)+1)=(k:Int)+1:=zc (by omega) (by omega)
  by_cases hc:p.at_≤n
  ·rw[if_pos hc] at he
   simp[h1,h9,h10,h11,hlt,hp0,Phs.enc,hc,hw]
   exact⟨by omega,p.spans,.inl rfl,he⟩
  ·rw[if_neg hc] at he
   simp[h1,h9,h10,h11,hlt,hp0,Phs.enc,hc,hw]
   exact⟨by omega,d,hd,he⟩
 ·obtain rfl:k=x.phases.length:=by omega
  rw[List.drop_length] at he
  simp only[hasG] at he
  rw[he]
  rcases hd with hd | ⟨hd,rfl⟩
  ·simp[h1,h9,h10,h11,hd,f31]
   exact⟨_,by simp,.refl _⟩
  ·simp[h1,h9,h10,h11,hd,f31]
   exact⟨_,by simp,.nilOr (.inl ⟨rfl,rfl⟩)⟩
theorem Wc:za prog 31 (zd false [] (FXI (fun x n=>.sl 2 ((hasG [] n x.phases).map encS)) fun x _=>x.phases.length≤lim)) :=
 yw (fn:=f31) qA ⟨_,func31,by kernel_rfl,rfl,by kernel_rfl⟩ false [] _ fun args r h w S vs hz=>by
  obtain⟨⟨x,n⟩,rfl,hx,rfl⟩:=ze h
  obtain⟨r0,h1,h2⟩:=spansAt_eval x n hx
  exact⟨_,r0,hz,by simp[f31],h1,h2⟩
def lyE:Option Lyr→List PV
 | some y=>[str y.name,str y.salt,int y.rest]
 | none=>[str [],str [],int 0]
noncomputable def lyrR (b:Bk) (s:List UInt8) (n:Int):PV:=if chkL b s n=0 then .tup [.agg (lyE (wQ s b.layers)),int 0] else .tup [.agg [str [],str [],int 0],int (chkL b s n)]
noncomputable abbrev Croy:Ctx:=zF prog [(28,zd false [] (FBk fun b=>int (zP b))),(69,zd false [] (FBS fun b s=>QN (wQ s b.layers))),(30,zd false [] (FIb ji))]
theorem goodroy:AM.Good Croy (fun g=>([]:List Nat).contains g):=zk mixed ⟨zan,by simp,jm,by simp,vV,by simp,trivial⟩
set_option maxHeartbeats 1000000 in
theorem ofLayer_eval (b:Bk) (s:List UInt8) (n:Int) (h:b.cb≤lim):zi Croy f35 [.agg b.enc,str s,int n]=some (lyrR b s n):=by
 refine zb rfl ?_
 have hk:=fun hp nx=>Yu (fun b=>int (zP b)) b hp nx h
 have hlo:=fun hp nx=>QO (fun b s=>QN (wQ s b.layers)) b s hp nx h
 simp only[Bk.enc] at hk hlo
 by_cases c1:zP b=0
 case neg =>
  have hv:chkL b s n=zP b:=by unfold chkL;rw[if_neg c1]
  have hr:lyrR b s n=.tup [.agg [str [],str [],int 0],int (zP b)]:=by unfold lyrR;rw[hv,if_neg c1]
  have c1':(zP b != 0)=true:=by simpa using c1
  rw[hr]
  simp[Bk.enc,hk,c1',qi,zt,zM,f35]
 have hu:=(zdk c1).1
 rcases JF hu s with⟨c2,q,hq,_,f2⟩ | ⟨c2,f2⟩
 case inr =>
  have hv:chkL b s n=5:=by unfold chkL;rw[if_pos c1,c2,if_neg (by simp)]
  have hr:lyrR b s n=.tup [.agg [str [],str [],int 0],int 5]:=by unfold lyrR;rw[hv,if_neg (by simp)]
  simp only[f2,WE] at hlo
  rw[hr]
  simp[Bk.enc,hk,c1,hlo,qi,zt,zM,f35]
 simp only[f2,Zx] at hlo
 cases c3:ji n
 ·have hv:chkL b s n=1:=by unfold chkL;rw[if_pos c1,c2,if_pos rfl,c3,if_neg (by simp)]
  have hr:lyrR b s n=.tup [.agg [str [],str [],int 0],int 1]:=by unfold lyrR;rw[hv,if_neg (by simp)]
  rw[hr]
  simp[Bk.enc,hk,c1,hlo,c3,qi,zt,zM,f35]
 ·have hv:chkL b s n=0:=by unfold chkL;rw[if_pos c1,c2,if_pos rfl,c3,if_pos rfl]
  have hr:lyrR b s n=.tup [.agg (lyE (some b.layers[q])),int 0]:=by unfold lyrR;rw[hv,if_pos rfl,f2]
  rw[hr]
  simp[Bk.enc,hk,c1,hlo,c3,lyE,qi,zt,zM,f35]
set_option maxRecDepth 100000 in
theorem Wd:za prog 35 (zd false [] (FBNI lyrR)) :=
 zI (fn:=f35) goodroy ⟨_,func35,by kernel_rfl,rfl,by kernel_rfl⟩ false [] _ fun args r h=>by
  obtain⟨⟨b,s,n⟩,rfl,hx,rfl⟩:=ze h
  exact⟨by simp[f35],_,ofLayer_eval b s n hx,zG _⟩
noncomputable abbrev Crhx:Ctx:=zF prog [(28,zd false [] (FBk fun b=>int (zP b))),(29,zd false [] (FBS fun b s=>int (atI s 0 b.exps))),(30,zd false [] (FIb ji)),(31,zd false [] (FXI (fun x n=>.sl 2 ((hasG [] n x.phases).map encS)) fun x _=>x.phases.length≤lim)),(26,zd false [] (FP (fun l=>.sl 2 (l.map encS)) fun l=>l.length≤lim))]
theorem goodrhx:AM.Good Crhx (fun g=>([]:List Nat).contains g):=zk mixed ⟨zan,by simp,rAt_sound,by simp,vV,by simp,Wc,by simp,Yf,by simp,trivial⟩
theorem rHas_eval (b:Bk) (s:List UInt8) (n:Int) (hb:b.cb≤lim):∃r0,zi Crhx f10 [.agg b.enc,str s,int n]=some r0∧Stands r0 (wW (hasR b s n)):=by
 refine qz rfl ?_
 have hbc:b.cb=sumB Lyr.cb b.layers+sumB Hld.cb b.holds+sumB Xp.cb b.exps:=rfl
 have hk:=fun hp nx=>Yu (fun b=>int (zP b)) b hp nx hb
 have hat:=fun hp nx=>QO (fun b s=>int (atI s 0 b.exps)) b s hp nx hb
 simp only[Bk.enc] at hk hat
 by_cases c1:zP b=0
 case neg =>
  have hx:chkX b s n=zP b:=by unfold chkX;rw[if_neg c1]
  have hv:hasR b s n=([],zP b):=by unfold hasR;rw[hx,if_neg c1]
  have c1':(zP b != 0)=true:=by simpa using c1
  rw[hv]
  simp[Bk.enc,hk,c1',f10]
  exact⟨_,by simp,yf _⟩
 have hu:=(zdk c1).2
 rcases at_bs hu s with⟨c2,f2⟩ | ⟨c2,f2⟩
 case inr =>
  have hx:chkX b s n=5:=by unfold chkX;rw[if_pos c1,c2,if_neg (by simp)]
  have hv:hasR b s n=([],5):=by unfold hasR;rw[hx,if_neg (by simp)]
  rw[f2] at hat
  rw[hv]
  simp[Bk.enc,hk,c1,hat,f10]
  exact⟨_,by simp,yf _⟩
 obtain⟨q,hq⟩:∃q,(bsN (b.exps.map Xp.name) s).1=q:=⟨_,rfl⟩
 have hql:q<b.exps.length:=by have:=zbK c2;rw[hq] at this;simpa using this
 rw[f2,hq] at hat
 have hq0:¬(q:Int)<0:=by omega
 cases c3:ji n
 ·have hx:chkX b s n=1:=by unfold chkX;rw[if_pos c1,c2,if_pos rfl,c3,if_neg (by simp)]
  have hv:hasR b s n=([],1):=by unfold hasR;rw[hx,if_neg (by simp)]
  rw[hv]
  simp[Bk.enc,hk,c1,hat,hq0,c3,f10]
  exact⟨_,by simp,yf _⟩
 have hx0:chkX b s n=0:=by unfold chkX;rw[if_pos c1,c2,if_pos rfl,c3,if_pos rfl]
 obtain⟨x,hx⟩:∃x,b.exps[q]=x:=⟨_,rfl⟩
 have hxm:x∈b.exps:=by rw[←hx];exact List.getElem_mem hql
 have hmx:=qt (f:=Xp.cb) hxm
 have hxc:x.cb=x.name.length+x.layer.length+x.flag.length+x.cond.cb+x.salt.length+x.arms.length+sumB Phs.cb x.phases:=rfl
 have hxpl:=zN jC x.phases
 have hv:hasR b s n=(hasG [] n x.phases,0):=by unfold hasR;rw[if_pos hx0,hq,List.getElem?_eq_getElem hql,hx]
 have hhc:=fun hp nx=>Yv (fun x n=>.sl 2 ((hasG [] n x.phases).map encS)) (fun x _=>x.phases.length≤lim) x n hp nx (by unfold lim at hb ⊢;omega)
 have hlen:(hasG [] n x.phases).length≤lim:=by have:=QR n x.phases;unfold lim at hb ⊢;omega
 have hcc:=fun hp nx=>Wv (fun l=>.sl 2 (l.map encS)) (fun l=>l.length≤lim) (hasG [] n x.phases) hp nx hlen
 simp only[zw] at hhc
 rw[hv]
 simp[Bk.enc,hk,c1,hat,hq0,c3,hql,hx,zw,hhc,hcc,f10]
 exact⟨wW (hasG [] n x.phases,0),by simp[wW],.refl _⟩
set_option maxRecDepth 100000 in
theorem rHas_sound:za prog 10 (zd false [] (FBNI fun b s n=>wW (hasR b s n))) :=
 yw (fn:=f10) goodrhx ⟨_,func10,by kernel_rfl,rfl,by kernel_rfl⟩ false [] _ fun args r h w S vs hz=>by
  obtain⟨⟨b,s,n⟩,rfl,hx,rfl⟩:=ze h
  obtain⟨r0,h1,h2⟩:=rHas_eval b s n hx
  exact⟨_,r0,hz,by simp[f10],h1,h2⟩
theorem K0 {l:List Sp} (hc:qY (-1) l) (hm:∀k,mem l k→0≤k∧k<100000):okS l:=by
 have hpos:=yU hc
 have hb:Below 100000 l:=fun s hs=>by
  have hp:=hpos s hs
  have:=hm (s.2 - 1) ⟨s,hs,by omega,by omega⟩
  omega
 refine⟨hc,hb,fun s hs=>(hm s.1 ⟨s,hs,Int.le_refl _,hpos s hs⟩).1,?_⟩
 rcases hL:l with _ | ⟨s,m⟩
 ·simp
 ·rw[hL] at hc hb hm
  have h0:=(hm s.1 ⟨s,by simp,Int.le_refl _,by have:=hc.2.1;omega⟩).1
  have h1:=QP hc.2.2 (fun x hx=>hb x (by simp[hx])) (hb s (by simp))
  have h4:=hc.2.1
  simp only[List.length_cons]
  omega
theorem zd3 {a b:List Sp} (ha:okS a) (hb:okS b):okS (uniL a b)∧∀k,mem (uniL a b) k↔mem a k∨mem b k:=by
 obtain⟨h1,h2⟩:=KJ ha hb
 exact⟨K0 h1 fun k hk=>((h2 k).1 hk).elim (Ww ha) (Ww hb),h2⟩
theorem zd4 {a b:List Sp} (ha:okS a) (hb:okS b):okS (mins a b)∧∀k,mem (mins a b) k↔mem a k∧¬mem b k:=by
 have h2:∀k,mem (mins a b) k↔mem a k∧¬mem b k:=fun k=>Yr ha.1 hb.1
 exact⟨K0 (Zn ha.1 hb.1) fun k hk=>Ww ha ((h2 k).1 hk).1,h2⟩
theorem zaP:okS []:=⟨trivial,(fun s hs=>by cases hs),(fun s hs=>by cases hs),by simp⟩
theorem VV (k:Int):¬mem [] k:=fun⟨s,hs,_⟩=>by cases hs
noncomputable def ufR (rest n:Int) (x:Xp):Nat→List Sp→List Phs→List Sp
 | _,out,[]=>out
 | i,out,p::l=>ufR rest n x (i+1) (if n<endR x.phases i+rest then uniL out p.spans else out) l
theorem YB {rest n:Int} (hr:0≤rest) (hn:0≤n∧n≤4000000000) (x:Xp):∀(l:List Phs) (i:Nat) (out:List Sp),(∀p∈l,qa p.spans=0)→okS out→okS (ufR rest n x i out l)∧∀k,mem (ufR rest n x i out l) k↔mem out k∨mem (unfG rest n x.phases i l) k
 | [],i,out,_,ho=>⟨ho,fun k=>by simp only[ufR,unfG];exact⟨.inl,fun h=>h.elim id fun h=>absurd h (VV k)⟩⟩
 | p::l,i,out,hs,ho=>by
   have hp:=zbA (hs p (by simp))
   have hs':∀q∈l,qa q.spans=0:=fun q hq=>hs q (by simp[hq])
   have he:=QS (l:=x.phases) (i:=i) (t:=n) hn hr
   simp only[ufR,unfG]
   by_cases hc:n<endR x.phases i+rest
   ·rw[if_pos hc,if_pos (he.2 hc)]
    obtain⟨u1,u2⟩:=zd3 ho hp
    obtain⟨h1,h2⟩:=YB hr hn x l (i+1) _ hs' u1
    exact⟨h1,fun k=>by rw[h2,u2,mem_append,or_assoc]⟩
   ·rw[if_neg hc,if_neg fun h=>hc (he.1 h),List.nil_append]
    exact YB hr hn x l (i+1) out hs' ho
noncomputable def frR (y:Lyr) (n:Int):List Sp→List Xp→List Sp
 | out,[]=>out
 | out,e::l=>frR y n (if e.layer=y.name∧e.name≠[] then mins out (ufR y.rest n e 0 [] e.phases) else out) l
theorem YC {y:Lyr} {n:Int} (hr:0≤y.rest) (hn:0≤n∧n≤4000000000):∀(l:List Xp) (out:List Sp),(∀x∈l,∀p∈x.phases,qa p.spans=0)→okS out→okS (frR y n out l)∧∀k,mem (frR y n out l) k↔mem out k∧¬mem (unf y.name [] y.rest n l) k
 | [],out,_,ho=>⟨ho,fun k=>by simp only[frR,unf];exact⟨fun h=>⟨h,VV k⟩,fun h=>h.1⟩⟩
 | e::l,out,hs,ho=>by
   have hs':∀x∈l,∀p∈x.phases,qa p.spans=0:=fun x hx=>hs x (by simp[hx])
   simp only[frR,unf]
   by_cases hl:e.layer=y.name
   ·by_cases hm:e.name=[]
    ·rw[if_neg fun h=>h.2 hm,if_pos hl,if_pos hm,List.nil_append]
     exact YC hr hn l out hs' ho
    ·rw[if_pos ⟨hl,hm⟩,if_pos hl,if_neg hm]
     obtain⟨u1,u2⟩:=YB hr hn e e.phases 0 [] (hs e (by simp)) zaP
     obtain⟨m1,m2⟩:=zd4 ho u1
     obtain⟨h1,h2⟩:=YC hr hn l _ hs' m1
     refine⟨h1,fun k=>?_⟩
     rw[h2,m2,u2,mem_append]
     constructor
     ·rintro⟨⟨g1,g2⟩,g3⟩
      exact⟨g1,fun h=>h.elim (fun h=>g2 (.inr h)) g3⟩
     ·rintro⟨g1,g2⟩
      exact⟨⟨g1,fun h=>h.elim (VV k) fun h=>g2 (.inl h)⟩,fun h=>g2 (.inr h)⟩
   ·rw[if_neg fun h=>hl h.1,if_neg hl,List.nil_append]
    exact YC hr hn l out hs' ho
theorem zd5:okS [((0:Int),(100000:Int))]:=⟨⟨by omega,by omega,trivial⟩,(fun s hs=>by simp at hs;subst hs;simp),(fun s hs=>by simp at hs;subst hs;simp),by simp⟩
theorem JX {n:Int} (h:ji n=true):0≤n∧n≤4000000000:=(zay _ _ _).1 h
theorem frR_same {b:Bk} (h:zP b=0) {s:List UInt8} {n:Int} (hn:ji n=true) {y:Lyr} (hy:y.name=s) (hr:w8 b.layers s=y.rest):frR y n [(0,100000)] b.exps=yI b s [] n:=by
 have hp:=KP h s
 rw[hr] at hp
 obtain⟨f1,f2⟩:=YC (y:=y) hp.1 (JX hn) b.exps [(0,100000)] (fun x hx p hp=>qR ((ZQ h).2.1 x hx).1 p hp) zd5
 obtain⟨g1,_,_,g2⟩:=free_right h s [] n
 exact Yq f1.1 g1 fun k=>by rw[f2,g2,hy,hr]
def okX (x:Xp):Prop:=x.okC∧∀p∈x.phases,qa p.spans=0
noncomputable def FUf:List PV→Option PV:=zH (α:=Xp×Int×Int) (fun a=>[.agg a.1.enc,int a.2.1,int a.2.2]) (fun a=>okX a.1∧(0≤a.2.1∧a.2.1≤100000000)∧0≤a.2.2∧a.2.2≤4000000000) (fun a=>.sl 2 ((ufR a.2.1 a.2.2 a.1 0 [] a.1.phases).map encS))
theorem FUf_call (x:Xp) (rest n:Int) (hp:Hp) (nx:Nat) (h:okX x∧(0≤rest∧rest≤100000000)∧0≤n∧n≤4000000000):zd false [] FUf [.agg x.enc,int rest,int n] hp nx=some (.sl 2 ((ufR rest n x 0 [] x.phases).map encS),hp,nx) :=
 zy (hp1:=hp) (show zj hp [.agg x.enc,int rest,int n]=some ([.agg x.enc,int rest,int n],hp) by simp only[zj,xQ];rfl) (zm (enc:=fun a:Xp×Int×Int=>[.agg a.1.enc,int a.2.1,int a.2.2]) (a:=(x,rest,n)) (fun x y e=>by
  obtain⟨x1,x2,x3⟩:=x;obtain⟨y1,y2,y3⟩:=y
  simp only[List.cons.injEq,and_true,PV.agg.injEq] at e
  rw[xL e.1,zB e.2.1,zB e.2.2]) h) (.inr (by simp only[List.all_cons,VB];rfl))
noncomputable abbrev Cruf:Ctx:=zF prog [(111,zd false [] (FXn fun x i=>int (endR x.phases i))),(112,zd false [2,2] (FPP (fun a b=>.sl 2 ((uniL a b).map encS)) fun a b=>okS a∧okS b))]
theorem goodruf:AM.Good Cruf (fun g=>([]:List Nat).contains g):=zk mixed ⟨KR,by simp,runionN _ _,by simp,trivial⟩
def UfI (rest n:Int) (x:Xp) (k:Nat) (v:PV):Prop:=∃d,SpV v d∧okS d∧ufR rest n x 0 [] x.phases=ufR rest n x k d (x.phases.drop k)
set_option maxHeartbeats 1000000 in
theorem unfree_eval (x:Xp) (rest n:Int) (hx:okX x) (hr:0≤rest∧rest≤100000000) (hn:0≤n∧n≤4000000000):∃r0,zi Cruf f71 [.agg x.enc,int rest,int n]=some r0∧Stands r0 (.sl 2 ((ufR rest n x 0 [] x.phases).map encS)):=by
 refine qz rfl ?_
 obtain⟨⟨hta,hca⟩,hsp⟩:=hx
 have hla:=zN jC x.phases
 have xca:x.cb=x.name.length+x.layer.length+x.flag.length+x.cond.cb+x.salt.length+x.arms.length+sumB Phs.cb x.phases:=rfl
 unfold lim at hca
 simp[zw]
 refine zq (fun k σ hp nx=>σ 1=int rest∧σ 2=int n∧σ 3=.ref 0 0 0∧σ 11=.sl 2 (x.phases.map Phs.enc)∧σ 12=int x.phases.length∧σ 13=int k∧1≤nx∧hp 0=some ⟨66,13,false,[x.enc]⟩∧UfI rest n x k (σ 7)) x.phases.length
  ⟨by simp,by simp,by simp,by simp,by simp,by simp,by simp,by simp[zw],[],.inr ⟨by simp,rfl⟩,zaP,by simp⟩ ?_
 rintro k σ hp nx hk ⟨h1,h2,h3,h11,h12,h13,hnx,b0,d,hd,hok,he⟩
 by_cases hlt:k<x.phases.length
 ·obtain⟨p,hpd⟩:∃p,x.phases[k]=p:=⟨_,rfl⟩
  have hpm:p∈x.phases:=by rw[←hpd];exact List.getElem_mem hlt
  rw[List.drop_eq_getElem_cons hlt,hpd] at he
  simp only[ufR] at he
  have hw:IntKind.i64.wrap ((k:Int)+1)=(k:Int)+1:=zc (by omega) (by omega)
  have hea:=KT hta k
  have wa:IntKind.i64.wrap (endR x.phases k+rest)=endR x.phases k+rest:=zc (by omega) (by omega)
  have hce:=fun hp nx=>zbW (fun x i=>int (endR x.phases i)) x k hp nx ⟨by unfold lim;omega,by unfold lim;omega⟩
  have hcu:=fun hp nx=>uni_call hd hp nx hok (zbA (hsp p hpm))
  have n0:¬0=nx:=by omega
  simp only[zw] at b0 hce
  by_cases hc:n<endR x.phases k+rest
  ·rw[if_pos hc] at he
   simp[h1,h2,h3,h11,h12,h13,hlt,hpd,Phs.enc,b0,n0,hce,wa,hc,hcu,hw]
   exact⟨by omega,(zw x).symm,_,.inl rfl,(zd3 hok (zbA (hsp p hpm))).1,he⟩
  ·rw[if_neg hc] at he
   simp[h1,h2,h3,h11,h12,h13,hlt,hpd,Phs.enc,b0,n0,hce,wa,hc,hw]
   exact⟨by omega,(zw x).symm,d,hd,hok,he⟩
 ·obtain rfl:k=x.phases.length:=by omega
  rw[List.drop_length] at he
  simp only[ufR] at he
  rw[he]
  rcases hd with hd | ⟨hd,rfl⟩
  ·simp[h1,h2,h3,h11,h12,h13,hd,f71]
   exact⟨_,by simp,.refl _⟩
  ·simp[h1,h2,h3,h11,h12,h13,hd,f71]
   exact⟨_,by simp,.nilOr (.inl ⟨rfl,rfl⟩)⟩
theorem unfree_sound:za prog 71 (zd false [] FUf) :=
 yw (fn:=f71) goodruf ⟨_,func71,by kernel_rfl,rfl,by kernel_rfl⟩ false [] _ fun args r h w S vs hz=>by
  obtain⟨⟨x,rest,n⟩,rfl,⟨g1,g2,g3⟩,rfl⟩:=ze h
  obtain⟨r0,h1,h2⟩:=unfree_eval x rest n g1 g2 g3
  exact⟨_,r0,hz,by simp[f71],h1,h2⟩
noncomputable def FFr:List PV→Option PV:=zH (α:=Bk×Lyr×Int) (fun a=>[.agg a.1.enc,.agg a.2.1.enc,int a.2.2,str []]) (fun a=>(a.1.cb≤lim∧zP a.1=0)∧(0≤a.2.1.rest∧a.2.1.rest≤100000000)∧ji a.2.2=true) (fun a=>.sl 2 ((frR a.2.1 a.2.2 [(0,100000)] a.1.exps).map encS))
theorem FFr_call (b:Bk) (y:Lyr) (n:Int) (hp:Hp) (nx:Nat) (h:(b.cb≤lim∧zP b=0)∧(0≤y.rest∧y.rest≤100000000)∧ji n=true):zd false [] FFr [.agg b.enc,.agg y.enc,int n,str []] hp nx=some (.sl 2 ((frR y n [(0,100000)] b.exps).map encS),hp,nx) :=
 zy (hp1:=hp) (show zj hp [.agg b.enc,.agg y.enc,int n,str []]=some ([.agg b.enc,.agg y.enc,int n,str []],hp) by
  have h0:zK hp (.agg y.enc)=some (.agg y.enc,hp):=by simp[Lyr.enc]
  simp only[zj,jw,h0];rfl) (zm (enc:=fun a:Bk×Lyr×Int=>[.agg a.1.enc,.agg a.2.1.enc,int a.2.2,str []]) (a:=(b,y,n)) (fun x y e=>by
  obtain⟨x1,x2,x3⟩:=x;obtain⟨y1,y2,y3⟩:=y
  simp only[List.cons.injEq,and_true,PV.agg.injEq] at e
  rw[QM e.1,Wx e.2.1,zB e.2.2]) h) (.inr (by simp only[List.all_cons,Zs];simp[Lyr.enc]))
def SpO (hp:Hp) (nx:Nat) (v:PV) (d:List Sp):Prop:=v=.sl 2 (d.map encS)∨∃id,id<nx∧v=.own id 0 d.length∧hp id=some ⟨41,2,true,d.map encS⟩
def FrI (b:Bk) (y:Lyr) (n:Int) (k:Nat) (hp:Hp) (nx:Nat) (v:PV):Prop:=∃d,SpO hp nx v d∧okS d∧frR y n [(0,100000)] b.exps=frR y n d (b.exps.drop k)
noncomputable abbrev Crfr:Ctx:=zF prog [(71,zd false [] FUf),(70,zd true [2,2] (FPP (fun a b=>.sl 2 ((mins a b).map encS)) fun a b=>okS a∧okS b))]
theorem goodrfr:AM.Good Crfr (fun g=>([]:List Nat).contains g):=zk mixed ⟨unfree_sound,by simp,rminusN _ _,by simp,trivial⟩
set_option maxHeartbeats 2000000 in
theorem rfree_eval (b:Bk) (y:Lyr) (n:Int) (hb:b.cb≤lim) (hchk:zP b=0) (hr:0≤y.rest∧y.rest≤100000000) (hn:ji n=true):∃r0,zi Crfr f37 [.agg b.enc,.agg y.enc,int n,str []]=some r0∧Stands r0 (.sl 2 ((frR y n [(0,100000)] b.exps).map encS)):=by
 refine qz rfl ?_
 have hlen:=zN xM b.exps
 have hbc:b.cb=sumB Lyr.cb b.layers+sumB Hld.cb b.holds+sumB Xp.cb b.exps:=rfl
 have hcb:∀x∈b.exps,okX x:=fun x hx=>⟨⟨jY ((ZQ hchk).2.1 x hx).1,by have:=qt (f:=Xp.cb) hx;omega⟩,qR ((ZQ hchk).2.1 x hx).1⟩
 have htn:=JX hn
 unfold lim at hb
 simp[Bk.enc,Lyr.enc,zt,zM,zf,zn,zg]
 refine zq (fun k σ hp nx=>σ 2=int n∧σ 3=str []∧σ 5=.ref 1 0 0∧σ 15=.sl 13 (b.exps.map Xp.enc)∧σ 16=int b.exps.length∧σ 17=int k∧2≤nx∧hp 1=some ⟨74,3,false,[y.enc]⟩∧FrI b y n k hp nx (σ 9)) b.exps.length
  ⟨by simp,by simp,by simp,by simp,by simp,by simp,by simp,by simp[Lyr.enc],[(0,100000)],.inr ⟨2,by simp,by simp,by simp[encS]⟩,zd5,by simp⟩ ?_
 rintro k σ hp nx hk ⟨h2,h3,h5,h15,h16,h17,hnx,b1,d,hd,hok,he⟩
 have n1:¬1=nx:=by omega
 by_cases hlt:k<b.exps.length
 ·obtain⟨x,hx⟩:∃x,b.exps[k]=x:=⟨_,rfl⟩
  have hxm:x∈b.exps:=by rw[←hx];exact List.getElem_mem hlt
  rw[List.drop_eq_getElem_cons hlt,hx] at he
  simp only[frR] at he
  have hw:IntKind.i64.wrap ((k:Int)+1)=(k:Int)+1:=zc (by omega) (by omega)
  simp only[Lyr.enc] at b1
  have hd1:∀t,SpO (upd hp nx t) (nx+1) (σ 9) d:=fun t=>by
   rcases hd with hd | ⟨id,h1,h2,h4⟩
   ·exact .inl hd
   ·exact .inr ⟨id,by omega,h2,by rw[zl _ _ _ _ (by omega)];exact h4⟩
  by_cases hl:x.layer=y.name
  ·have hl':(x.layer==y.name)=true:=by simpa using hl
   by_cases hm:x.name=[]
   ·rw[if_neg fun h=>h.2 hm] at he
    simp[h2,h3,h5,h15,h16,h17,hlt,hx,zw,b1,n1,hl',hm,hw]
    exact⟨by omega,by omega,rfl,d,hd1 _,hok,he⟩
   ·rw[if_pos ⟨hl,hm⟩] at he
    have hme:x.name.isEmpty=false:=by cases hn:x.name with
     | nil=>exact absurd hn hm
     | cons=>rfl
    obtain⟨u1,u2⟩:=YB hr.1 htn x x.phases 0 [] (hcb x hxm).2 zaP
    have huf:=fun hp nx=>FUf_call x y.rest n hp nx ⟨hcb x hxm,hr,htn⟩
    obtain⟨hp',hmin,hkeep⟩:=min_call (hp:=upd hp nx (some ⟨66,13,false,[x.enc]⟩)) (v:=σ 9) (a:=d) ((hd1 _).imp id fun⟨id,_,h2,h4⟩=>⟨id,h2,h4⟩) (nx+1) hok u1
    have b1':hp' 1=some ⟨74,3,false,[[str y.name,str y.salt,int y.rest]]⟩:=hkeep 1 _ (by rw[zl _ _ _ _ n1];exact b1) rfl
    simp only[zw] at huf hmin
    simp[h2,h3,h5,h15,h16,h17,hlt,hx,zw,b1,n1,hl',hme,huf,hmin,hw]
    exact⟨by omega,by omega,b1',_,.inl rfl,(zd4 hok u1).1,he⟩
  ·rw[if_neg fun h=>hl h.1] at he
   have hl':(x.layer==y.name)=false:=by simpa using hl
   simp[h2,h3,h5,h15,h16,h17,hlt,hx,zw,b1,n1,hl',hw]
   exact⟨by omega,by omega,rfl,d,hd1 _,hok,he⟩
 ·obtain rfl:k=b.exps.length:=by omega
  rw[List.drop_length] at he
  simp only[frR] at he
  rw[he]
  rcases hd with hd | ⟨id,g1,g2,g3⟩
  ·simp[h2,h3,h5,h15,h16,h17,hd,f37]
   exact⟨_,by simp,.refl _⟩
  ·have htk:(d.map encS).take d.length=d.map encS:=List.take_of_length_le (by simp)
   simp[h2,h3,h5,h15,h16,h17,g2,f37]
   exact⟨.sl 2 (d.map encS),by simp[g3,htk],.refl _⟩
theorem rfree_sound:za prog 37 (zd false [] FFr) :=
 yw (fn:=f37) goodrfr ⟨_,func37,by kernel_rfl,rfl,by kernel_rfl⟩ false [] _ fun args r h w S vs hz=>by
  obtain⟨⟨b,y,n⟩,rfl,⟨⟨g1,g2⟩,g3,g4⟩,rfl⟩:=ze h
  obtain⟨r0,h1,h2⟩:=rfree_eval b y n g1 g2 g3 g4
  exact⟨_,r0,hz,by simp[f37],h1,h2⟩
noncomputable abbrev CrFr:Ctx:=zF prog [(35,zd false [] (FBNI lyrR)),(37,zd false [] FFr),(36,zd false [] (FP (fun l=>wW (limR l)) fun _=>True))]
theorem goodrFr:AM.Good CrFr (fun g=>([]:List Nat).contains g):=zk mixed ⟨Wd,by simp,rfree_sound,by simp,few_sound,by simp,trivial⟩
theorem zd6 {b:Bk} {s:List UInt8} {n:Int} (hb:b.cb≤lim) (h:chkL b s n=0):∃y,wQ s b.layers=some y∧y.name=s∧w8 b.layers s=y.rest∧(0≤y.rest∧y.rest≤100000000):=by
 obtain⟨⟨_,c1,c2⟩,_⟩:=WB hb h
 have hu:=(zdk c1).1
 rcases JF hu s with⟨_,q,hq,f1,f2⟩ | ⟨e,_⟩
 ·refine⟨b.layers[q],f2,?_,?_,(ZQ c1).1 _ (List.getElem_mem hq)⟩
  ·have:=zbJ c2
   rw[f1,List.getElem?_map,List.getElem?_eq_getElem hq] at this
   simpa using this
  ·unfold w8;rw[f1,List.getElem?_eq_getElem hq]
 ·rw[c2] at e;cases e
theorem rFree_eval (b:Bk) (s:List UInt8) (n:Int) (hb:b.cb≤lim):∃r0,zi CrFr f13 [.agg b.enc,str s,int n]=some r0∧Stands r0 (wW (xd b s n)):=by
 refine qz rfl ?_
 have hcl:∀(hp:Hp) (nx:Nat),zd false [] (FBNI lyrR) [.agg b.enc,str s,int n] hp nx=some (lyrR b s n,hp,nx):=fun hp nx=>jx lyrR b s n hp nx hb
 simp only[Bk.enc] at hcl
 by_cases c1:chkL b s n=0
 case neg =>
  have hv:xd b s n=([],chkL b s n):=by unfold xd;rw[if_neg c1]
  have hl:lyrR b s n=.tup [.agg [str [],str [],int 0],int (chkL b s n)]:=by unfold lyrR;rw[if_neg c1]
  have c1':(chkL b s n != 0)=true:=by simpa using c1
  rw[hl] at hcl
  rw[hv]
  simp[Bk.enc,hcl,c1',f13]
  exact⟨_,by simp,yf _⟩
 ·obtain⟨⟨_,hchk,_⟩,htm⟩:=WB hb c1
  obtain⟨y,f1,f2,f3,f4⟩:=zd6 hb c1
  have hl:lyrR b s n=.tup [.agg [str y.name,str y.salt,int y.rest],int 0]:=by unfold lyrR;rw[if_pos c1,f1];rfl
  have hv:xd b s n=limR (yI b s [] n):=by unfold xd;rw[if_pos c1]
  have hfr:∀(hp:Hp) (nx:Nat),zd false [] FFr [.agg b.enc,.agg y.enc,int n,.v (.string ⟨#[]⟩)] hp nx=some (.sl 2 ((yI b s [] n).map encS),hp,nx):=fun hp nx=>by rw[←frR_same hchk htm f2 f3];exact FFr_call b y n hp nx ⟨⟨hb,hchk⟩,f4,htm⟩
  have hli:∀hp nx,zd false [] (FP (fun l=>wW (limR l)) fun _=>True) [.sl 2 ((yI b s [] n).map encS)] hp nx=some (.tup [.sl 2 ((limR (yI b s [] n)).1.map encS),int (limR (yI b s [] n)).2],hp,nx):=fun hp nx=>Wv (fun l=>wW (limR l)) (fun _=>True) (yI b s [] n) hp nx trivial
  rw[hl] at hcl
  simp only[Bk.enc,Lyr.enc] at hfr
  rw[hv]
  simp[Bk.enc,hcl,hfr,hli,f13]
  exact⟨wW (limR (yI b s [] n)),by simp[wW],.refl _⟩
set_option maxRecDepth 100000 in
theorem rFree_sound:za prog 13 (zd false [] (FBNI fun b s n=>wW (xd b s n))) :=
 yw (fn:=f13) goodrFr ⟨_,func13,by kernel_rfl,rfl,by kernel_rfl⟩ false [] _ fun args r h w S vs hz=>by
  obtain⟨⟨b,s,n⟩,rfl,hx,rfl⟩:=ze h
  obtain⟨r0,h1,h2⟩:=rFree_eval b s n hx
  exact⟨_,r0,hz,by simp[f13],h1,h2⟩
end Go.Proofs.YtdkfdoeijcfbhaaGreatDoor
namespace Go.Proofs.YtdkfdoeijcfbhaaGreatDoor
open Go.Proofs.Tryz
open Go.RowKit Go.Lib Go.AM
attribute [local go_sem] Oper.semAt_some
set_option maxHeartbeats 4000000 in
set_option maxRecDepth 100000 in
theorem insP_shift (w:World) (g vb n i cap vc:Nat) (cur vcur:Array Value) (tv:TypeId) (hi:i<n) (hroom:n+1≤cap) (hc63:cap≤9223372036854775807) (hne:g≠vb) (hv1:1≤vc)
  (hg:w.heap[g]?=some (.cells cur 47 (0,0))) (hcs:cur.size=cap*3) (hv:w.heap[vb]?=some (.cells vcur tv (0,0))) (hvs:vcur.size=vc*3)
  (h1c:∀j v,j<n*3→cur[j]?=some v→v.oneCell'=true) (h1v:∀j v,j<3→vcur[j]?=some v→v.oneCell'=true) :
  Calls prog 40 #[.slice (some ⟨g,0,none⟩) n cap,.int .i64 i,.slice (some ⟨vb,0,none⟩) 1 vc] w fun e w' =>
   e=.returned (.slice (some ⟨g,0,none⟩) (n+1) cap)∧w'.heap[g]?=some (.cells (qx (qx cur.toList ((i+1)*3) ((cur.toList.take (n*3)).drop (i*3))) (i*3) (vcur.toList.take 3)).toArray 47 (0,0))∧Fr w (fun b=>b=g) w':=by
 have t3:=underlying3;have a3:=isAgg3;have z3:=sizeOf3;have v3:=zeroValue3
 have t4:=underlying4;have a4:=isAgg4;have z4:=sizeOf4;have v4:=zeroValue4
 have t24:=underlying42;have a24:=isAgg42;have z24:=sizeOf42;have v24:=zeroValue42
 have t9:=underlying47;have a9:=isAgg47;have z9:=sizeOf47
 have u3:=run_underlying t3;have u4:=run_underlying t4;have u24:=run_underlying t24
 have hz2:¬((i:Int)=(n:Int)):=by omega
 have hov:∀o lb cb,(callFunc 74 #[.slice (some ⟨vb,0,none⟩) 1 vc,.slice (some ⟨g,o,none⟩) lb cb]).run prog w=.ok (.value (.bool false)) w:=fun o lb cb=>by
  rw[run_callFunc_extern func74 (by kernel_rfl) (by kernel_rfl) (by kernel_rfl) (e:=Extern.SlicesOverlaps.overlaps #[42,42] #[4]) (by kernel_rfl),
   Lib.run_overlaps_apart w 42 4 47 t24 3 z9 ⟨vb,0,none⟩ ⟨g,o,none⟩ 1 vc lb cb (fun e=>hne e.symm) _ _ _ _ (Q8 hv) (Q8 hg) (by rw[hcs];omega) (YA hv 0) (YA hv _)]
  rfl
 have mixed:prog.follows .mixedOrders=true:=by kernel_rfl
 have hw1:IntKind.i64.wrap ((i:Int)+1)=(i:Int)+1:=by rw[IntKind.wrap_i64];omega
 have hw2:IntKind.i64.wrap ((n:Int)+1)=(n:Int)+1:=by rw[IntKind.wrap_i64];omega
 have hb1:(0:Int)≤(i:Int)+1:=by omega
 have hb5:(0:Int)≤(n:Int)+1:=by omega
 have hin:i≤n:=by omega
 have htn:((i:Int)+1).toNat=i+1:=by omega
 have htn2:((n:Int)+1).toNat=n+1:=by omega
 have hb2:¬(cap=i+1):=by omega
 have hb3:(i:Int)≤(n:Int)+1:=by omega
 have hb4:¬(cap=i):=by omega
 have hb6:¬((cap:Int)<(n:Int)+1):=by omega
 have hs5:zR prog 47=some 3:=sz47
 obtain⟨cs,hcsd⟩:∃cs,(cur.toList.take (n*3)).drop (i*3)=cs:=⟨_,rfl⟩
 obtain⟨vs,hvsd⟩:∃vs,vcur.toList.take 3=vs:=⟨_,rfl⟩
 have hcl:cs.length=(n - i)*3:=by rw[←hcsd];simp;omega
 have hvl:vs.length=1*3:=by rw[←hvsd];simp;omega
 have hcget:∀j v,cs[j]?=some v→cur[i*3+j]?=some v∧i*3+j<n*3:=fun j v hj=>by
  rw[←hcsd,List.getElem?_drop,List.getElem?_take] at hj
  split at hj
  ·exact⟨by simpa using hj,by assumption⟩
  ·cases hj
 have hvget:∀j v,vs[j]?=some v→vcur[j]?=some v∧j<3:=fun j v hj=>by
  rw[←hvsd,List.getElem?_take] at hj
  split at hj
  ·exact⟨by simpa using hj,by assumption⟩
  ·cases hj
 have hc1:∀v∈cs,v.oneCell'=true:=fun v hv=>by
  obtain⟨j,hj⟩:=List.mem_iff_getElem?.1 hv
  obtain⟨a,b⟩:=hcget j v hj
  exact h1c _ v b a
 have hv1':∀v∈vs,v.oneCell'=true:=fun v hv=>by
  obtain⟨j,hj⟩:=List.mem_iff_getElem?.1 hv
  obtain⟨a,b⟩:=hvget j v hj
  exact h1v _ v b a
 obtain⟨row1,hrow1⟩:∃row1,qx cur.toList ((i+1)*3) cs=row1:=⟨_,rfl⟩
 have hr1l:row1.length=cap*3:=by rw[←hrow1,qu (by rw[hcl,Array.length_toList,hcs];omega),Array.length_toList,hcs]
 have hcp1:∀ty dc sc,(Builtin.copy_ #[42,42] ty #[.slice (some ⟨g,(i+1)*3,none⟩) (n - i) dc,.slice (some ⟨g,i*3,none⟩) (n+1 - i) sc]).run prog w.drew=.ok (goInt ((n - i:Nat):Int)) (w.drew.setRow g row1.toArray):=fun ty dc sc=>by
  rw[←hrow1]
  exact wt w.drew _ _ ty 47 3 (n - i) g ((i+1)*3) (n - i) dc ⟨g,i*3,none⟩ (n+1 - i) sc cur 47 cs t24 hs5 hg (by simp only[Nat.min_def];split<;>omega) hcl
   (fun j v hj=>by rw[Addr.add_lit];exact (jn hg _).trans (hcget j v hj).1) (by rw[hcl,hcs];omega) hc1
 have hcp2:∀(W:World),W.heap[g]?=some (.cells row1.toArray 47 (0,0))→W.heap[vb]?=some (.cells vcur tv (0,0))→∀ty dc,(Builtin.copy_ #[42,42] ty #[.slice (some ⟨g,i*3,none⟩) (n+1 - i) dc,.slice (some ⟨vb,0,none⟩) 1 vc]).run prog W=.ok (goInt ((1:Nat):Int)) (W.setRow g (qx row1 (i*3) vs).toArray):=fun W hWg hWv ty dc=>by
  have:=wt W 42 42 ty 47 3 1 g (i*3) (n+1 - i) dc ⟨vb,0,none⟩ 1 vc row1.toArray 47 vs t24 hs5 hWg (by simp only[Nat.min_def];split<;>omega) hvl
   (fun j v hj=>by rw[Addr.add_lit,Nat.zero_add];exact (jn hWv _).trans (hvget j v hj).1) (by rw[hvl,List.size_toArray,hr1l];omega) hv1'
  exact this
 have hWg:(w.drew.setRow g row1.toArray).heap[g]?=some (.cells row1.toArray 47 (0,0)):=setRow_heap _ _ _ _ _ _ hg
 have hWv:(w.drew.setRow g row1.toArray).heap[vb]?=some (.cells vcur tv (0,0)):=(yn _ (fun e=>hne e.symm)).trans hv
 have hfin:∀W,W=(w.drew.setRow g row1.toArray).setRow g (qx row1 (i*3) vs).toArray→W.heap[g]?=some (.cells (qx row1 (i*3) vs).toArray 47 (0,0))∧Fr w (fun b=>b=g) W:=fun W e=>by
  subst e
  refine⟨setRow_heap _ _ _ _ _ _ hWg,?_⟩
  exact ((Fr.drew w (fun b=>b=g)).trans (Q9 w.drew g _) fun _ _ h=>h).trans (Q9 _ g _) fun _ _ h=>h
 rw[hcsd,hvsd,hrow1]
 clear hcsd hvsd hcl hvl hcget hvget hc1 hv1' hrow1 hr1l
 go_enter func40,Tryz.ntmps40
 go_wp2_with (simp only[hov])
 go_region_law_o (refine step_copy_runI rfl _ _ 42 42 rfl _ _ (by simp[Act.eval,Act.put]) (by simp[Act.eval,Act.put]) (hcp1 _ _ _) ?_)
 go_wp2_with (at_builtin;refine wpList_copy_runI _ rfl _ _ 42 42 rfl _ _ rfl rfl (hcp2 _ hWg hWv _ _) ?_)
 go_ret
 exact⟨rfl,hfin _ rfl⟩
set_option maxHeartbeats 4000000 in
set_option maxRecDepth 100000 in
theorem insP_grow (w:World) (g vb n i cap vc:Nat) (cur vcur:Array Value) (tv:TypeId) (hi:i<n) (hnc:n≤cap) (hroom:cap<n+1) (hbig:(n+1)*32≤140737488355328) (hv1:1≤vc)
  (hg:w.heap[g]?=some (.cells cur 47 (0,0))) (hcs:cur.size=cap*3) (hv:w.heap[vb]?=some (.cells vcur tv (0,0))) (hvs:vcur.size=vc*3)
  (h1c:∀j v,j<n*3→cur[j]?=some v→v.oneCell'=true) (h1v:∀j v,j<3→vcur[j]?=some v→v.oneCell'=true) :
  Calls prog 40 #[.slice (some ⟨g,0,none⟩) n cap,.int .i64 i,.slice (some ⟨vb,0,none⟩) 1 vc] w fun e w' =>
   ∃(G:Nat) (R:List Value),n+1≤G∧G≤maxLen∧R.length=G*3∧(∀j,j<i*3→R[j]?=(cur.toList.take (i*3))[j]?)∧e=.returned (.slice (some ⟨w.heap.size,0,none⟩) (n+1) G) ∧
    w'.heap[w.heap.size]?=some (.cells (qx (qx R (i*3) (vcur.toList.take 3)) ((i+1)*3) ((cur.toList.take (n*3)).drop (i*3))).toArray 47 (0,0))∧Fr w (fun b=>b=w.heap.size) w':=by
 have t3:=underlying3;have a3:=isAgg3;have z3:=sizeOf3;have v3:=zeroValue3
 have t4:=underlying4;have a4:=isAgg4;have z4:=sizeOf4;have v4:=zeroValue4
 have t24:=underlying42;have a24:=isAgg42;have z24:=sizeOf42;have v24:=zeroValue42
 have t9:=underlying47;have a9:=isAgg47;have z9:=sizeOf47
 have u3:=run_underlying t3;have u4:=run_underlying t4;have u24:=run_underlying t24
 obtain⟨i0,z0,hi0,hz0,his,hib,hzc⟩:=zcc (P:=prog) sz47 by47 ze47 rfl
 have hz2:¬((i:Int)=(n:Int)):=by omega
 have hz3:(cap:Int)<(n:Int)+1:=by omega
 have mixed:prog.follows .mixedOrders=true:=by kernel_rfl
 have hw1:IntKind.i64.wrap ((i:Int)+1)=(i:Int)+1:=by rw[IntKind.wrap_i64];omega
 have hw2:IntKind.i64.wrap ((n:Int)+1)=(n:Int)+1:=by rw[IntKind.wrap_i64];omega
 have hw3:IntKind.i64.wrap ((n:Int)+1 - i)=(n:Int)+1 - i:=by rw[IntKind.wrap_i64];omega
 have hb1:(0:Int)≤(i:Int)+1:=by omega
 have hin:i≤n:=by omega
 have htn:((i:Int)+1).toNat=i+1:=by omega
 have hkk:(n:Int)+1 - (i:Int)=((n+1 - i:Nat):Int):=by omega
 have hik:i+(n+1 - i)=n+1:=by omega
 have hb3:(i:Int)≤(n:Int):=by omega
 have hbw:g<w.heap.size:=(Array.getElem?_eq_some_iff.1 hg).1
 have hvw:vb<w.heap.size:=(Array.getElem?_eq_some_iff.1 hv).1
 have hs5:zR prog 47=some 3:=sz47
 obtain⟨olds,hod⟩:∃olds,cur.toList.take (i*3)=olds:=⟨_,rfl⟩
 obtain⟨cs,hcsd⟩:∃cs,(cur.toList.take (n*3)).drop (i*3)=cs:=⟨_,rfl⟩
 obtain⟨vs,hvsd⟩:∃vs,vcur.toList.take 3=vs:=⟨_,rfl⟩
 have hol:olds.length=i*3:=by rw[←hod];simp;omega
 have hcl:cs.length=(n - i)*3:=by rw[←hcsd];simp;omega
 have hvl:vs.length=1*3:=by rw[←hvsd];simp;omega
 have hoget:∀j v,olds[j]?=some v→cur[j]?=some v:=fun j v hj=>by
  rw[←hod,List.getElem?_take] at hj
  split at hj
  ·simpa using hj
  ·cases hj
 have hcget:∀j v,cs[j]?=some v→cur[i*3+j]?=some v∧i*3+j<n*3:=fun j v hj=>by
  rw[←hcsd,List.getElem?_drop,List.getElem?_take] at hj
  split at hj
  ·exact⟨by simpa using hj,by assumption⟩
  ·cases hj
 have hvget:∀j v,vs[j]?=some v→vcur[j]?=some v∧j<3:=fun j v hj=>by
  rw[←hvsd,List.getElem?_take] at hj
  split at hj
  ·exact⟨by simpa using hj,by assumption⟩
  ·cases hj
 have hc1:∀v∈cs,v.oneCell'=true:=fun v hv=>by
  obtain⟨j,hj⟩:=List.mem_iff_getElem?.1 hv
  obtain⟨a,b⟩:=hcget j v hj
  exact h1c _ v b a
 have hv1':∀v∈vs,v.oneCell'=true:=fun v hv=>by
  obtain⟨j,hj⟩:=List.mem_iff_getElem?.1 hv
  obtain⟨a,b⟩:=hvget j v hj
  exact h1v _ v b a
 have hold:(Builtin.firstCells i0.size i (.slice (some ⟨g,0,none⟩) i cap)).run prog w.drew=.ok olds.toArray w.drew:=by
  rw[his]
  exact run_firstCells_some w.drew 3 i ⟨g,0,none⟩ i cap olds hol (fun j v hj=>by
   rw[Addr.add_lit,Nat.zero_add]
   exact (jn hg j).trans (hoget j v hj))
 obtain⟨G,hG⟩:∃G,grownCap w (n+1) cap 47=G:=⟨_,rfl⟩
 obtain⟨ROW,hROW⟩:∃ROW,olds.toArray++Builtin.zeroCells z0.cells (n+1 - i)++Builtin.zeroCells z0.cells (G - (n+1))=ROW:=⟨_,rfl⟩
 have hGn:n+1≤G:=by rw[←hG];exact grownCap_ge w _ _ _
 have hGm:G≤maxLen:=by rw[←hG];exact grownCap_le_maxLen w (n+1) cap 47 (by unfold maxLen;omega)
 have hrz:∀ty,(Builtin.append_ #[42,3] ty #[.slice (some ⟨g,0,none⟩) i cap,.int .i64 ((n:Int)+1 - (i:Int))]).run prog w =
   .ok (.slice (some ⟨w.heap.size,0,none⟩) (n+1) G) (w.drew.alloc (.cells ROW 47)):=fun ty=>by
  have h:=Lib.run_append_grow_zeros w 42 3 ty 47 i0 z0 .i64 .i64 t24 t3 hi0 hz0 (some ⟨g,0,none⟩) i cap olds hold (n+1 - i) (by omega) (by omega) (by omega) (by omega) (by rw[hib];omega) (by rw[hib,hik];exact growslice_fits hroom hbig)
  rw[hik,hG,hROW] at h
  rw[hkk]
  exact h
 have hRl:ROW.size=G*3:=by
  rw[←hROW,Array.size_append,Array.size_append,size_zeroCells,size_zeroCells,hzc,List.size_toArray,hol]
  omega
 have hRo:∀j,j<i*3→ROW.toList[j]?=olds[j]?:=fun j hj=>by
  rw[←hROW]
  rw[Array.toList_append,Array.toList_append,List.append_assoc]
  exact List.getElem?_append_left (show j<olds.length by omega)
 obtain⟨N,hN⟩:∃N,w.heap.size=N:=⟨_,rfl⟩
 obtain⟨W1,hW1⟩:∃W1,w.drew.alloc (.cells ROW 47)=W1:=⟨_,rfl⟩
 have hW1N:W1.heap[N]?=some (.cells ROW 47 (0,0)):=by rw[←hW1,←hN];exact zak (w:=w.drew) _
 have hW1g:W1.heap[g]?=some (.cells cur 47 (0,0)):=by rw[←hW1];exact (vE (w:=w.drew) _ hbw).trans hg
 have hW1v:W1.heap[vb]?=some (.cells vcur tv (0,0)):=by rw[←hW1];exact (vE (w:=w.drew) _ hvw).trans hv
 obtain⟨row1,hrow1⟩:∃row1,qx ROW.toList (i*3) vs=row1:=⟨_,rfl⟩
 have hr1l:row1.length=G*3:=by rw[←hrow1,qu (by rw[hvl,Array.length_toList,hRl];omega),Array.length_toList,hRl]
 have hcpA:∀(W:World),W.heap[N]?=some (.cells ROW 47 (0,0))→W.heap[vb]?=some (.cells vcur tv (0,0))→∀ty dc,(Builtin.copy_ #[42,42] ty #[.slice (some ⟨N,i*3,none⟩) (n+1 - i) dc,.slice (some ⟨vb,0,none⟩) 1 vc]).run prog W=.ok (goInt ((1:Nat):Int)) (W.setRow N row1.toArray):=fun W hWg hWv ty dc=>by
  rw[←hrow1]
  have:=wt W 42 42 ty 47 3 1 N (i*3) (n+1 - i) dc ⟨vb,0,none⟩ 1 vc ROW 47 vs t24 hs5 hWg (by simp only[Nat.min_def];split<;>omega) hvl
   (fun j v hj=>by rw[Addr.add_lit,Nat.zero_add];exact (jn hWv _).trans (hvget j v hj).1) (by rw[hvl,hRl];omega) hv1'
  exact this
 have hcpB:∀(W:World),W.heap[N]?=some (.cells row1.toArray 47 (0,0))→W.heap[g]?=some (.cells cur 47 (0,0))→∀ty dc sc,(Builtin.copy_ #[42,42] ty #[.slice (some ⟨N,(i+1)*3,none⟩) (n - i) dc,.slice (some ⟨g,i*3,none⟩) (n - i) sc]).run prog W=.ok (goInt ((n - i:Nat):Int)) (W.setRow N (qx row1 ((i+1)*3) cs).toArray):=fun W hWg hWv ty dc sc=>by
  have:=wt W 42 42 ty 47 3 (n - i) N ((i+1)*3) (n - i) dc ⟨g,i*3,none⟩ (n - i) sc row1.toArray 47 cs t24 hs5 hWg (by simp only[Nat.min_def];split<;>omega) hcl
   (fun j v hj=>by rw[Addr.add_lit];exact (jn hWv _).trans (hcget j v hj).1) (by rw[hcl,List.size_toArray,hr1l];omega) hc1
  exact this
 have hgN:g≠N:=by omega
 have hvN:vb≠N:=by omega
 have hW2N:(W1.setRow N row1.toArray).heap[N]?=some (.cells row1.toArray 47 (0,0)):=setRow_heap _ _ _ _ _ _ hW1N
 have hW2g:(W1.setRow N row1.toArray).heap[g]?=some (.cells cur 47 (0,0)):=(yn _ hgN).trans hW1g
 have hfin:∀W:World,W.heap=((W1.setRow N row1.toArray).setRow N (qx row1 ((i+1)*3) cs).toArray).heap→W.os=w.os→W.tape=w.tape→W.output=w.output→w.drawn≤W.drawn→W.heap[N]?=some (.cells (qx row1 ((i+1)*3) cs).toArray 47 (0,0))∧Fr w (fun b=>b=N) W:=fun W e1 e2 e3 e4 e5=>by
  refine⟨by rw[e1];exact setRow_heap _ _ _ _ _ _ hW2N,e2,e3,e4,?_,e5,fun k hk hn=>?_⟩
  ·rw[e1,←hW1]
   rw[setRow_size,setRow_size,KX]
   exact Nat.le_succ _
  ·rw[e1,yn _ hn,yn _ hn,←hW1]
   exact vE (w:=w.drew) _ hk
 have hm1:G≤9223372036854775807:=by unfold maxLen at hGm;omega
 have hGi:¬(G=i):=by omega
 have hGim:¬(G=i+1):=by omega
 have hci:¬(cap=i):=by omega
 rw[hN,hcsd,hvsd,hod]
 rw[hN,hW1] at hrz
 clear hcsd hvsd hod hcl hvl hol hcget hvget hoget hc1 hv1' hold hG hROW hkk hik hi0 hz0 his hib hzc hr1l
 go_enter func40,Tryz.ntmps40
 go_wp2_with (first
  | (at_builtin;refine Lib.wpList_append_run _ rfl _ _ _ _ rfl _ _ rfl rfl _ _ (hrz _) ?_)
  | (at_builtin;refine wpList_copy_runI _ rfl _ _ 42 42 rfl _ _ rfl rfl (hcpA _ hW1N hW1v _ _) ?_)
  | (at_builtin;refine wpList_copy_runI _ rfl _ _ 42 42 rfl _ _ rfl rfl (hcpB _ hW2N hW2g _ _ _) ?_))
 go_region_law_o (refine step_copy_runI rfl _ _ 42 42 rfl (.slice (some ⟨N,(i+1)*3,none⟩) (n - i) (G - (i+1))) (.slice (some ⟨g,i*3,none⟩) (n - i) (cap - i)) (by simp[Act.eval,Act.put]) (by simp[Act.eval,Act.put]) (hcpB (W1.setRow N row1.toArray).drew hW2N hW2g 3 (G - (i+1)) (cap - i)) ?_)
 go_wp2
 go_ret
 subst hW1
 subst hrow1
 refine⟨G,ROW.toList,hGn,hGm,by simpa using hRl,hRo,rfl,?_⟩
 refine hfin _ ?_ ?_ ?_ ?_ ?_
 ·rfl
 ·rfl
 ·rfl
 ·rfl
 ·first | exact Nat.le_succ _ | exact Nat.le_trans (Nat.le_succ _) (Nat.le_succ _)
theorem insP_ok:zep prog 40 47 3 32:=by
 intro w g vb n i cap vc cur vcur tv hi hnc hcm hnm hbig hne hv1 hvm hg hcs hv hvs h1c h1v
 have hvl:(vcur.toList.take 3).length=3:=by simp;omega
 have hcl:((cur.toList.take (n*3)).drop (i*3)).length=(n - i)*3:=by simp;omega
 unfold maxLen at hcm
 by_cases hroom:n+1≤cap
 ·refine (insP_shift w g vb n i cap vc cur vcur tv hi hroom hcm hne hv1 hg hcs hv hvs h1c h1v).mono fun e w' hh=>?_
  obtain⟨rfl,h1,h2⟩:=hh
  refine⟨g,cap,_,hroom,by unfold maxLen;exact hcm,rfl,.inl rfl,h1,?_,h2,fun j hj=>?_⟩
  ·rw[List.size_toArray,qu (by rw[qu (by rw[hcl,Array.length_toList,hcs];omega),hvl,Array.length_toList,hcs];omega),qu (by rw[hcl,Array.length_toList,hcs];omega),Array.length_toList,hcs]
  ·have:=zaj (l:=cur.toList) (vs:=vcur.toList.take 3) (n:=n) (i:=i) (s:=3) (by omega) (by rw[Array.length_toList,hcs];omega) hvl j hj
   simpa using this
 ·refine (insP_grow w g vb n i cap vc cur vcur tv hi hnc (by omega) hbig hv1 hg hcs hv hvs h1c h1v).mono fun e w' hh=>?_
  obtain⟨G,R,g1,g2,g3,g4,rfl,h1,h2⟩:=hh
  have hol:(cur.toList.take (i*3)).length=i*3:=by simp;omega
  have e1:(i+1)*3=i*3+(vcur.toList.take 3).length:=by rw[hvl];omega
  rw[e1] at h1
  refine⟨w.heap.size,G,_,g1,g2,rfl,.inr (Nat.le_refl _),h1,?_,h2,fun j hj=>?_⟩
  ·rw[List.size_toArray,qu (by rw[qu (by rw[hvl];omega),hcl,hvl];omega),qu (by rw[hvl];omega),g3]
  ·have:=zcb (R:=R) (olds:=cur.toList.take (i*3)) (vs:=vcur.toList.take 3) (cs:=(cur.toList.take (n*3)).drop (i*3)) (I:=i*3) hol g4 (by rw[hvl,hcl,g3];omega) j (by rw[hvl,hcl];omega)
   simpa using this
end Go.Proofs.YtdkfdoeijcfbhaaGreatDoor
