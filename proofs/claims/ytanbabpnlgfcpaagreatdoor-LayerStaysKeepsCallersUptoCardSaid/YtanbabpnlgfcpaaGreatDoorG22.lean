/-
Segments: what is known, circles.
Segments: a segment by itself; the check of all.
Attributes: the binary search of the program, the reference's search.
The plain law of spans: lists of pairs (from, to); what they hold; the one form that a set has.
Spans: the checks and the sizes, of the program and of the reference.
Spans: sizes, first.
-/
import Derived.Test.YtanbabpnlgfcpaaGreatDoorG20
import Derived.Test.YtanbabpnlgfcpaaGreatDoorG19
import Derived.Test.YtanbabpnlgfcpaaGreatDoorG10
import Derived.Test.YtanbabpnlgfcpaaGreatDoorG13
set_option maxRecDepth 8000
namespace Go.Proofs.YtanbabpnlgfcpaaGreatDoor
open Go.Proofs.Tryz
open Go.RowKit Go.AM
def boxL (l:List Sgm):Blk:=⟨22,1,false,[[.sl 10 (l.map Sgm.enc)]]⟩
noncomputable abbrev Ckn1:Ctx:=zA prog [(59,zc false [] FOfSg)]
noncomputable abbrev kn1S:AM.Spec:=hRun Ckn1 f77
set_option maxRecDepth 100000 in
theorem kn1_sound:za prog 77 kn1S:=zs (code:=_) (zk (q:=[]) mixed ⟨ofSg_sound,by simp,trivial⟩:AM.Good Ckn1 _) ⟨func77,by kernel_rfl,rfl,by kernel_rfl⟩
theorem kn1_run (l:List Sgm) (n:List UInt8) (hl:l.length≤lim) (hp:Hp) (nx id:Nat) (hh:hp id=some (boxL l)):kn1S [str n,.ref id 0 0] hp nx=some (boo (kr l n),hp,nx):=by
 unfold kn1S hRun
 rw[if_pos (by simp[f77])]
 refine zZ rfl ?_
 have h1:=fun hp nx=>FOfSg_call l n hp nx hl
 simp[boxL] at hh
 simp[hh,h1,kr,f77]
theorem foldT_all {f:List UInt8→Bool}:∀l:List (List UInt8),(zT (fun (_:Unit) n=>(!f n,())) () l).1=!(l.all f)
 | []=>rfl
 | a::l=>by
   cases h:f a
   ·simp[zT,h]
   ·simp[zT,h,foldT_all l]
noncomputable def FKn:List PV→Option PV:=zG (α:=List Sgm×Cnd) (fun a=>[.sl 10 (a.1.map Sgm.enc),.agg a.2.enc]) (fun a=>a.1.length≤lim∧a.2.cb≤lim) (fun a=>boo (xY a.1 a.2))
theorem FKn_call (l:List Sgm) (c:Cnd) (hp:Hp) (nx:Nat) (h:l.length≤lim) (h2:c.cb≤lim):zc false [] FKn [.sl 10 (l.map Sgm.enc),.agg c.enc] hp nx=some (boo (xY l c),hp,nx) :=
 zt (hp1:=hp) (show zh hp [.sl 10 (l.map Sgm.enc),.agg c.enc]=some ([.sl 10 (l.map Sgm.enc),.agg c.enc],hp) by simp[ql]) (zn (enc:=fun a:List Sgm×Cnd=>[PV.sl 10 (a.1.map Sgm.enc),.agg a.2.enc]) (a:=(l,c)) (fun a b e=>by
  obtain⟨a1,a2⟩:=a;obtain⟨b1,b2⟩:=b
  simp only[List.cons.injEq,and_true,PV.agg.injEq] at e
  rw[sgms_inj e.1,xS e.2]) ⟨h,h2⟩) (.inl rfl)
noncomputable abbrev Ckn:Ctx:=zA prog [(76,eachS 77 kn1S lim)]
theorem known_eval (l:List Sgm) (c:Cnd) (hl:l.length≤lim) (hc:c.cb≤lim):zi Ckn f46 [.sl 10 (l.map Sgm.enc),.agg c.enc]=some (boo (xY l c)):=by
 refine zb rfl ?_
 obtain⟨x,hp',nx',e1,rfl,_,_,_⟩:=each_run (σ:=Unit) (T:=fun _=>False) (Rep:=fun _ hp=>hp 0=some (boxL l)) (step:=fun _ n=>(!kr l n,())) (Q:=fun _=>True) (g:=77) (sp:=kn1S) (cap:=[.ref 0 0 0]) (nx0:=2) (by decide) (fun _ h=>h.elim)
  (fun _ hp j b hj h=>by rw[ze _ _ _ _ (by omega)];exact h) (fun _ n hp nx _ _ _ h=>⟨_,hp,nx,kn1_run l n hl hp nx 0 h,by simp,h,Nat.le_refl _,fun _ _ _=>rfl⟩) lim c () (upd (upd (fun _=>none) 0 (some (boxL l))) 1 (some ⟨68,7,false,[c.enc]⟩)) 2 hc hc (fun _ _=>trivial) (Nat.le_refl _) (by simp)
 rw[foldT_all] at e1
 simp only[boxL,Bool.not_not] at e1
 simp[e1,xY,zU,f46]
theorem known_sound:za prog 46 (zc false [] FKn) :=
 zJ (fn:=f46) (zk (q:=[]) mixed ⟨each_sound kn1_sound lim,by simp,trivial⟩:AM.Good Ckn _) ⟨_,func46,by kernel_rfl,rfl,by kernel_rfl⟩ false [] _ fun args r h=>by
  obtain⟨⟨l,c⟩,rfl,⟨h1,h2⟩,rfl⟩:=zf h
  exact⟨by simp[f46],_,known_eval l c h1 h2,zI _⟩
def blkI (st:List Int):Blk:=⟨3,1,true,st.map fun z=>[int z]⟩
noncomputable def ci1S (sp:AM.Spec):AM.Spec:=hRun (zA prog [(59,zc false [] FOfSg),(47,sp)]) f78
noncomputable def circS:Nat→AM.Spec
 | 0=>fun _ _ _=>none
 | n+1=>hRun (zA prog [(76,eachS 78 (ci1S (circS n)) lim)]) f47
set_option maxRecDepth 100000 in
theorem ci1_sound {sp:AM.Spec} (h:za prog 47 sp):za prog 78 (ci1S sp) :=
 zs (code:=_) (zk (q:=[]) (l:=[(59,zc false [] FOfSg),(47,sp)]) mixed ⟨ofSg_sound,by simp,h,by simp,trivial⟩) ⟨func78,by kernel_rfl,rfl,by kernel_rfl⟩
set_option maxRecDepth 100000 in
theorem circ_sound:∀n,za prog 47 (circS n)
 | 0=>jY ⟨_,func47,by kernel_rfl,by kernel_rfl⟩
 | n+1=>zs (code:=_) (zk (q:=[]) (l:=[(76,eachS 78 (ci1S (circS n)) lim)]) mixed ⟨each_sound (ci1_sound (circ_sound n)) lim,by simp,trivial⟩) ⟨func47,by kernel_rfl,rfl,by kernel_rfl⟩
theorem foldT_map {S α β:Type} (f:S→β→Bool×S) (m:α→β):∀(s:S) (l:List α),zT (fun s a=>f s (m a)) s l=zT f s (l.map m)
 | _,[]=>rfl
 | s,a::l=>by simp only[List.map_cons,zT,foldT_map f m _ l]
theorem set_map (st:List Int) (i:Nat) (v:Int):(st.map fun z=>[int z]).set i [int v]=(st.set i v).map fun z=>[int z]:=by rw[List.map_set]
set_option maxHeartbeats 2000000 in
theorem circ_run (l:List Sgm) (hl:sgb l≤lim) (hk:∀s∈l,∀n∈s.cond.names,kr l n=true) (ids:Nat):∀(n:Nat) (st:List Int) (i:Nat) (hp:Hp) (nx:Nat),yS st<n→st.length=l.length→i<l.length→ids<nx→hp ids=some (blkI st) →
  ∃x hp' nx',circS n [.sl 10 (l.map Sgm.enc),.own ids 0 l.length,int i] hp nx=some (x,hp',nx')∧qL (·=ids) (fun st hp=>hp ids=some (blkI st)) (boo (wQ (q7 l) n st i).1) (wQ (q7 l) n st i).2 hp nx x hp' nx'
 | 0,_,_,_,_,h,_,_,_,_=>absurd h (by omega)
 | n+1,st,i,hp0,nx1,hw,hsl,hil,hid,hb0=>by
   have hle:=sgb_len l
   have hm:=sgb_mem (List.getElem_mem hil)
   have hmc:l[i].cb=1+l[i].name.length+tbs l[i].ins+tbs l[i].outs+l[i].cond.cb:=rfl
   unfold lim at hl
   have ni:¬ids=nx1:=by omega
   have ni2:¬ids=nx1+1:=by omega
   have hsi:i<st.length:=by omega
   have hb:=hb0
   simp[blkI] at hb
   unfold circS hRun
   rw[if_pos (by simp[f47])]
   refine zu rfl ?_
   by_cases hz:st[i]=0
   case neg =>
    have hv:wQ (q7 l) (n+1) st i=(decide (st[i]?=some 1),st):=by
     simp only[wQ]
     rw[if_neg (by rw[List.getElem?_eq_getElem hsi];simpa using hz)]
    have hz':(st[i] != 0)=true:=by simpa using hz
    have h1:decide (st[i]?=some 1)=(st[i]==1):=by rw[List.getElem?_eq_getElem hsi,Bool.eq_iff_iff];simp
    rw[hv,h1]
    simp[hb,ni,ni2,hil,hsi,hz',qL,f47]
    exact⟨rfl,by omega,fun j hj hn=>by rw[ze _ _ _ _ (by omega),ze _ _ _ _ (by omega)]⟩
   have h0:st[i]?=some 0:=by rw[List.getElem?_eq_getElem hsi,hz]
   have hwc:=count_set h0 (v:=1) (by decide)
   have hsucc:q7 l i=l[i].cond.names.map (idxG l):=by unfold q7;rw[List.getElem?_eq_getElem hil]
   have hv:wQ (q7 l) (n+1) st i=((zT (wQ (q7 l) n) (st.set i 1) (q7 l i)).1,(zT (wQ (q7 l) n) (st.set i 1) (q7 l i)).2.set i 2):=by simp only[wQ];rw[if_pos h0]
   have hkp:=jX (wp (q7 l) n) (q7 l i) (st.set i 1)
   obtain⟨x,hp2,nx2,e1,rfl,⟨r2,r2b,r2c,r2d,r2e⟩,n2,f2⟩:=each_run (σ:=List Int) (T:=(·=ids)) (Rep:=fun s hp=>hp ids=some (blkI s)∧s.length=l.length∧yS s<n∧hp nx1=some (boxL l)∧hp (nx1+1)=some ⟨111,1,false,[[.own ids 0 l.length]]⟩) (step:=fun s m=>wQ (q7 l) n s (idxG l m)) (Q:=fun m=>kr l m=true) (g:=78)
    (sp:=ci1S (circS n)) (cap:=[.ref nx1 0 0,.ref (nx1+1) 0 0]) (nx0:=nx1+2) (by decide) (fun j hj=>by omega)
    (fun s hp j b hj ⟨g1,g2,g3,g4,g5⟩=>⟨by rw[ze _ _ _ _ (by omega)];exact g1,g2,g3,by rw[ze _ _ _ _ (by omega)];exact g4,by rw[ze _ _ _ _ (by omega)];exact g5⟩)
    (fun s m hp nx hq hml hn ⟨g1,g2,g3,g4,g5⟩=>by
     have hix:=idx_lt hq
     have h1:=fun hp nx=>FOfSg_call l m hp nx (by unfold lim;omega)
     obtain⟨x,hp2,nx2,e1,rfl,r2,n2,f2⟩:=circ_run l (by unfold lim;omega) hk ids n s (idxG l m) hp nx g3 g2 hix (by omega) g1
     have hkq:=wp (q7 l) n s (idxG l m)
     refine⟨_,hp2,nx2,?_,rfl,⟨r2,by rw[hkq.len];exact g2,Nat.lt_of_le_of_lt hkq.wh g3,by rw[f2 nx1 (by omega) (by omega)];exact g4,by rw[f2 (nx1+1) (by omega) (by omega)];exact g5⟩,n2,f2⟩
     unfold ci1S hRun
     rw[if_pos (by simp[f78])]
     refine zZ rfl ?_
     simp only[boxL] at g4
     simp only[idxG] at e1
     simp[g4,g5,h1,e1,idxG,f78])
    lim l[i].cond (st.set i 1) (upd (upd (upd hp0 nx1 (some (boxL l))) (nx1+1) (some ⟨111,1,false,[[.own ids 0 l.length]]⟩)) ids (some (blkI (st.set i 1)))) (nx1+2) (by unfold lim;omega) (by unfold lim;omega) (fun m hm=>hk _ (List.getElem_mem hil) m hm) (Nat.le_refl _)
    ⟨by simp,by simp[hsl],by omega,by rw[ze _ _ _ _ (by omega),ze _ _ _ _ (by omega)];simp,by rw[ze _ _ _ _ (by omega)];simp⟩
   rw[foldT_map (wQ (q7 l) n) (idxG l),←hsucc] at e1 r2
   rw[hv]
   simp only[boxL,blkI,←set_map] at e1
   simp only[blkI] at r2
   have ni3:¬nx1=ids:=by omega
   have ni4:¬nx1+1=ids:=by omega
   have hrl:i<(zT (wQ (q7 l) n) (st.set i 1) (q7 l i)).2.length:=by rw[hkp.len,List.length_set];exact hsi
   simp[hb,ni,ni2,ni3,ni4,hil,hsi,hz,e1,r2,r2d,r2e,hrl,qL,f47]
   exact⟨by rw[set_map];rfl,by omega,fun j hj hn=>by rw[ze _ _ _ _ hn,f2 j (by omega) hn,ze _ _ _ _ hn,ze _ _ _ _ (by omega),ze _ _ _ _ (by omega)]⟩
noncomputable abbrev Css1:Ctx:=zA prog [(74,zc false [] (FKs hkP))]
noncomputable abbrev ss1S:AM.Spec:=hRun Css1 f73
set_option maxRecDepth 100000 in
theorem ss1_sound:za prog 73 ss1S:=zs (code:=_) (zk (q:=[]) mixed ⟨hasKey_sound,by simp,trivial⟩:AM.Good Css1 _) ⟨func73,by kernel_rfl,rfl,by kernel_rfl⟩
def boxS (s:Sgm):Blk:=⟨108,10,false,[s.enc]⟩
theorem ss1_run (s:Sgm) (k:List UInt8) (h1:tbs s.outs≤lim) (h2:k.length≤lim) (hp:Hp) (nx id:Nat) (hh:hp id=some (boxS s)):ss1S [str k,.ref id 0 0] hp nx=some (boo (bsN s.outs k).2,hp,nx):=by
 unfold ss1S hRun
 rw[if_pos (by simp[f73])]
 refine zZ rfl ?_
 have hc:=fun hp nx=>hk_call s.outs k hp nx h1 h2
 simp[boxS] at hh
 simp[hh,hc,f73]
def xe (f:List UInt8→Bool):Nat→List (List UInt8)→Int
 | _,[]=>-1
 | k,s::l=>if f s=true then k else xe f (k+1) l
theorem firstI_any (f:List UInt8→Bool):∀(l:List (List UInt8)) (k:Nat),decide (0≤xe f k l)=l.any f
 | [],k=>by simp[xe]
 | s::l,k=>by
   cases h:f s
   ·rw[xe,h,if_neg (by simp),firstI_any f l (k+1),List.any_cons,h];rfl
   ·rw[xe,h,if_pos rfl,List.any_cons,h];simp
noncomputable abbrev Csix:Ctx:=zA prog [(73,ss1S)]
noncomputable abbrev sixS:AM.Spec:=hRun Csix f103
set_option maxRecDepth 100000 in
theorem six_sound:za prog 103 sixS:=zs (code:=_) (zk (q:=[]) mixed ⟨ss1_sound,by simp,trivial⟩:AM.Good Csix _) ⟨func103,by kernel_rfl,rfl,by kernel_rfl⟩
def fnSs (id:Nat):PV:=.fn (.func 73) [] [.ref id 0 0]
theorem six_run (s:Sgm) (hs:s.cb≤lim) (hp:Hp) (nx id:Nat) (hh:hp id=some (boxS s)) :
  sixS [.sl 1 (encT s.ins),fnSs id] hp nx=some (int (xe (fun k=>(bsN s.outs k).2) 0 s.ins),hp,nx):=by
 have hmc:s.cb=1+s.name.length+tbs s.ins+tbs s.outs+s.cond.cb:=rfl
 have hle:=tbs_len s.ins
 have hm:=fun k (hk:k∈s.ins)=>tbs_mem hk
 unfold lim at hs
 unfold sixS hRun
 rw[if_pos (by simp[f103])]
 refine zZ rfl ?_
 have hel:(encT s.ins).length=s.ins.length:=by simp[encT]
 simp[fnSs,hel]
 refine zC (fun k σ hp1 nx1=>σ 0=.sl 1 (encT s.ins)∧σ 1=fnSs id∧σ 7=int s.ins.length∧σ 8=int k∧hp1=hp∧nx1=nx∧xe (fun k=>(bsN s.outs k).2) 0 s.ins=xe (fun k=>(bsN s.outs k).2) k (s.ins.drop k)) s.ins.length ⟨by simp,by simp[fnSs],by simp,by simp,rfl,rfl,by simp⟩ ?_
 rintro k σ hp1 nx1 hk ⟨h0,h1,h7,h8,rfl,rfl,he⟩
 by_cases hlt:k<s.ins.length
 ·have hw:IntKind.i64.wrap ((k:Int)+1)=(k:Int)+1:=zd (by omega) (by omega)
  obtain⟨y,hy⟩:∃y,s.ins[k]=y:=⟨_,rfl⟩
  have hmy:=hm y (by rw[←hy];exact List.getElem_mem hlt)
  have hlt2:k<(encT s.ins).length:=by omega
  have hke:(encT s.ins)[k]=[str y]:=by simp[encT,hy]
  have hrun:=ss1_run s y (by unfold lim;omega) (by unfold lim;omega) hp1 nx1 id hh
  rw[List.drop_eq_getElem_cons hlt,hy,xe] at he
  cases hz:(bsN s.outs y).2
  ·rw[hz,if_neg (by simp)] at he
   rw[hz] at hrun
   simp[h0,h1,h7,h8,fnSs,hlt,hel,hlt2,hke,hrun,hw]
   exact⟨by omega,he⟩
  ·rw[hz,if_pos rfl] at he
   rw[hz] at hrun
   simp[h0,h1,h7,h8,fnSs,hlt,hel,hlt2,hke,hrun,hw,he,f103]
 ·obtain rfl:k=s.ins.length:=by omega
  rw[List.drop_length] at he
  simp only[xe] at he
  simp[h0,h1,h7,h8,he,f103]
noncomputable abbrev Csct:Ctx:=zA prog [(103,sixS)]
noncomputable abbrev sctS:AM.Spec:=hRun Csct f72
set_option maxRecDepth 100000 in
theorem sct_sound:za prog 72 sctS:=zs (code:=_) (zk (q:=[]) mixed ⟨six_sound,by simp,trivial⟩:AM.Good Csct _) ⟨func72,by kernel_rfl,rfl,by kernel_rfl⟩
theorem sct_run (s:Sgm) (hs:s.cb≤lim) (hp:Hp) (nx id:Nat) (hh:hp id=some (boxS s)) :
  sctS [.sl 1 (encT s.ins),fnSs id] hp nx=some (boo (s.ins.any fun k=>(bsN s.outs k).2),hp,nx):=by
 unfold sctS hRun
 rw[if_pos (by simp[f72])]
 refine zZ rfl ?_
 have h1:=six_run s hs hp nx id hh
 have ha:=firstI_any (fun k=>(bsN s.outs k).2) s.ins 0
 simp only[fnSs] at h1
 simp[fnSs,h1,ha,f72]
noncomputable def FSgm (out:Sgm→PV):List PV→Option PV:=zG (α:=Sgm) (fun s=>[.agg s.enc]) (fun s=>s.cb≤lim) out
theorem FSgm_call (out:Sgm→PV) (s:Sgm) (hp:Hp) (nx:Nat) (h:s.cb≤lim) (hf:(out s).flat=true):zc false [] (FSgm out) [.agg s.enc] hp nx=some (out s,hp,nx) :=
 zt (hp1:=hp) (show zh hp [.agg s.enc]=some ([.agg s.enc],hp) by simp[ye]) (zn (enc:=fun s:Sgm=>[PV.agg s.enc]) (a:=s) (fun a b e=>by
  simp only[List.cons.injEq,and_true,PV.agg.injEq] at e
  exact sgm_inj e) h) (.inl hf)
noncomputable abbrev Csg1:Ctx:=zA prog [(71,zc false [] (FTl (fun l=>int (kD l)) fun l=>tbs l≤lim)),(72,sctS),(75,GC fun c=>int c.check)]
theorem any_has {l m:List (List UInt8)} (hm:UpN m):(l.any fun k=>(bsN m k).2)=l.any fun k=>m.contains k:=by
 congr 1
 funext k
 exact bsN_any hm k
theorem checkSegment_eval (s:Sgm) (h:s.cb≤lim):zi Csg1 f45 [.agg s.enc]=some (int (segF s)):=by
 have hmc:s.cb=1+s.name.length+tbs s.ins+tbs s.outs+s.cond.cb:=rfl
 unfold lim at h
 have k1:=fun hp nx=>FTl_call (fun l=>int (kD l)) (fun l=>tbs l≤lim) s.ins hp nx (by unfold lim;omega) rfl
 have k2:=fun hp nx=>FTl_call (fun l=>int (kD l)) (fun l=>tbs l≤lim) s.outs hp nx (by unfold lim;omega) rfl
 have k3:=fun hp nx=>GC_call (fun c=>int c.check) s.cond hp nx (by unfold lim;omega)
 refine zb rfl ?_
 simp[zl,zx,zm]
 rw[zq]
 by_cases c1:kD s.ins=0
 case neg =>
  have hv:segF s=kD s.ins:=by unfold segF;rw[if_neg c1]
  have c1':(kD s.ins != 0)=true:=by simpa using c1
  simp[k1,c1',hv,zU,f45]
 have w1:IntKind.i64.wrap 1=1:=zd (by omega) (by omega)
 have w2:IntKind.i64.wrap 2=2:=zd (by omega) (by omega)
 simp[k1,c1,w1]
 rw[zq]
 by_cases c2:kD s.outs=0
 case neg =>
  have hv:segF s=kD s.outs:=by unfold segF;rw[if_pos c1,if_neg c2]
  have c2':(kD s.outs != 0)=true:=by simpa using c2
  simp[k2,c2',hv,zU,f45]
 simp[k2,c2,w2]
 rw[zq]
 have h5:=sct_run s (by unfold lim;omega) (upd (upd (fun _=>none) 0 (some (boxS s))) 1 (some ⟨102,1,true,[[.sl 1 (encT s.ins)],[.sl 1 (encT s.outs)]]⟩)) 2 0 (by simp)
 rw[any_has (keysF_up c2)] at h5
 simp only[fnSs,boxS] at h5
 cases c3:s.ins.any fun k=>s.outs.contains k
 ·have hv:segF s=s.cond.check:=by unfold segF;rw[if_pos c1,if_pos c2,c3,if_neg (by simp)]
  rw[c3] at h5
  simp[h5,k3,hv,zU,f45]
 ·have hv:segF s=7:=by unfold segF;rw[if_pos c1,if_pos c2,c3,if_pos rfl]
  rw[c3] at h5
  simp[h5,hv,zU,f45]
theorem checkSegment_sound:za prog 45 (zc false [] (FSgm fun s=>int (segF s))) :=
 zJ (fn:=f45) (zk (q:=[]) mixed ⟨checkKeys_sound,by simp,sct_sound,by simp,vn,by simp,trivial⟩:AM.Good Csg1 _) ⟨_,func45,by kernel_rfl,rfl,by kernel_rfl⟩ false [] _ fun args r h=>by
  obtain⟨s,rfl,h1,rfl⟩:=zf h
  exact⟨by simp[f45],_,checkSegment_eval s h1,zI _⟩
def xf (l:List Sgm) (k:Nat):Option (List UInt8):=if k=0 then none else (l[k - 1]?).map Sgm.name
noncomputable def FSs (out:List Sgm→PV):List PV→Option PV:=zG (α:=List Sgm) (fun l=>[.sl 10 (l.map Sgm.enc)]) (fun l=>sgb l≤lim) out
theorem FSs_call (out:List Sgm→PV) (l:List Sgm) (hp:Hp) (nx:Nat) (h:sgb l≤lim) (hf:(out l).flat=true):zc false [] (FSs out) [.sl 10 (l.map Sgm.enc)] hp nx=some (out l,hp,nx) :=
 zt rfl (zn (enc:=fun l:List Sgm=>[PV.sl 10 (l.map Sgm.enc)]) (a:=l) (fun a b e=>by
  simp only[List.cons.injEq,and_true] at e
  exact sgms_inj e) h) (.inl hf)
noncomputable abbrev Csgs:Ctx:=zA prog [(33,zc false [] (FS qh)),(45,zc false [] (FSgm fun s=>int (segF s))),(46,zc false [] FKn),(47,circS 2097153)]
theorem goodsgs:AM.Good Csgs (fun g=>([]:List Nat).contains g):=zk mixed ⟨wV,by simp,checkSegment_sound,by simp,known_sound,by simp,circ_sound _,by simp,trivial⟩
theorem sgs_known:kz Csgs (fun g=>([]:List Nat).contains g) 29 f29:=⟨_,func29,by kernel_rfl,rfl,by kernel_rfl⟩
set_option maxHeartbeats 2000000 in
theorem checkSegments_eval (l:List Sgm) (h:sgb l≤lim):zi Csgs f29 [.sl 10 (l.map Sgm.enc)]=some (int (yt l)):=by
 have hlen:=sgb_len l
 have hlim:lim=2097152:=rfl
 refine zb rfl ?_
 by_cases c0:(100:Int)<l.length
 ·have hv:yt l=2:=by unfold yt;rw[if_pos c0]
  simp[c0,hv,f29]
 refine yf (fun σ hp nx=>σ 0=.sl 10 (l.map Sgm.enc)) (by simp) ?_
 rintro σ hp nx h0
 refine yf (fun σ hp nx=>σ 0=.sl 10 (l.map Sgm.enc)) (by simp[h0,c0]) ?_
 clear h0 σ hp nx
 rintro σ hp nx h0
 refine yf (fun σ hp nx=>σ 0=.sl 10 (l.map Sgm.enc)∧segsG none l=0) ?_ ?_
 ·simp[h0]
  refine zC (fun k σ hp nx=>σ 0=.sl 10 (l.map Sgm.enc)∧σ 13=.sl 10 (l.map Sgm.enc)∧σ 14=int l.length∧σ 15=int k∧segsG none l=segsG (xf l k) (l.drop k)) l.length ⟨by simp[h0],by simp,by simp,by simp,by simp[xf]⟩ ?_
  clear h0 σ hp nx
  rintro k σ hp nx hk ⟨h0,h13,h14,h15,he⟩
  by_cases hlt:k<l.length
  ·have hw:IntKind.i64.wrap ((k:Int)+1)=(k:Int)+1:=zd (by omega) (by omega)
   obtain⟨s,hs⟩:∃s,l[k]=s:=⟨_,rfl⟩
   have hm:=sgb_mem (List.getElem_mem hlt)
   rw[hs] at hm
   have hmc:s.cb=1+s.name.length+tbs s.ins+tbs s.outs+s.cond.cb:=rfl
   have hnl:s.name.length≤lim:=by omega
   have hpv:xf l (k+1)=some s.name:=by simp[xf,hlt,hs]
   have hcs:=fun hp nx=>FSgm_call (fun s=>int (segF s)) s hp nx (by omega) rfl
   rw[segsG_drop hlt,hs] at he
   cases d1:qh s.name
   ·rw[d1,if_neg (by simp)] at he
    have hv:yt l=5:=by unfold yt;rw[if_neg c0,he,if_neg (by decide)]
    simp[h0,h13,h14,h15,hlt,hs,hnl,d1,hv,f29]
   rw[d1,if_pos rfl] at he
   have key:jD (xf l k) s.name=true∨jD (xf l k) s.name=false:=by cases jD (xf l k) s.name<;>simp
   by_cases k0:k=0
   ·subst k0
    have w1:IntKind.i64.wrap 1=1:=zd (by omega) (by omega)
    simp only[xf,jD,if_true,Bool.false_eq_true,if_false] at he
    by_cases c2:segF s=0
    ·rw[if_pos c2] at he
     simp[h0,h13,h14,h15,hlt,hs,hnl,d1,hcs,c2,w1]
     exact⟨by omega,by rw[he,hpv];simp⟩
    ·rw[if_neg c2] at he
     have c2':(segF s != 0)=true:=by simpa using c2
     have hv:yt l=segF s:=by unfold yt;rw[if_neg c0,he,if_neg c2]
     simp[h0,h13,h14,h15,hlt,hs,hnl,d1,hcs,c2',hv,f29]
   ·obtain⟨j,rfl⟩:∃j,k=j+1:=⟨k - 1,by omega⟩
    have hj:j<l.length:=by omega
    have wj:IntKind.i64.wrap ((j:Int)+1 - 1)=(j:Int):=by rw[zd (by omega) (by omega)];omega
    have wj':IntKind.i64.wrap (j:Int)=(j:Int):=zd (by omega) (by omega)
    have j1:((j:Int)+1).toNat=j+1:=by omega
    have j2:0<(j:Int)+1:=by omega
    have j3:0≤(j:Int)+1:=by omega
    have j4:(j:Int)+1<l.length:=by omega
    have wk:IntKind.i64.wrap ((j:Int)+1+1)=(j:Int)+1+1:=zd (by omega) (by omega)
    have el:(Op.bytesLess s.name l[j].name||s.name==l[j].name)=leB s.name l[j].name:=rfl
    have hpj:xf l (j+1)=some l[j].name:=by simp[xf,hj]
    simp only[hpj,jD] at he
    cases d2:leB s.name l[j].name
    ·rw[d2,if_neg (by simp)] at he
     by_cases c2:segF s=0
     ·rw[if_pos c2] at he
      simp[h0,h13,h14,h15,hlt,hj,hs,hnl,d1,wj,wj',j1,j2,j3,j4,el,d2,wk,hcs,c2]
      exact⟨by omega,by rw[he,hpv]⟩
     ·rw[if_neg c2] at he
      have c2':(segF s != 0)=true:=by simpa using c2
      have hv:yt l=segF s:=by unfold yt;rw[if_neg c0,he,if_neg c2]
      simp[h0,h13,h14,h15,hlt,hj,hs,hnl,d1,wj,wj',j1,j2,j3,j4,el,d2,hcs,c2',hv,f29]
    ·rw[d2,if_pos rfl] at he
     have hv:yt l=8:=by unfold yt;rw[if_neg c0,he,if_neg (by decide)]
     simp[h0,h13,h14,h15,hlt,hj,hs,hnl,d1,wj,wj',j1,j2,j3,j4,el,d2,hv,f29]
  ·obtain rfl:k=l.length:=by omega
   rw[List.drop_length] at he
   have he:segsG none l=0:=by rw[he];rfl
   simp[h0,h13,h14,h15,he]
 clear h0 σ hp nx
 rintro σ hp nx ⟨h0,hG⟩
 refine yf (fun σ hp nx=>σ 0=.sl 10 (l.map Sgm.enc)∧(l.all fun s=>xY l s.cond)=true) ?_ ?_
 ·simp[h0]
  refine zC (fun k σ hp nx=>σ 0=.sl 10 (l.map Sgm.enc)∧σ 43=.sl 10 (l.map Sgm.enc)∧σ 44=int l.length∧σ 45=int k∧(l.all fun s=>xY l s.cond)=(l.drop k).all fun s=>xY l s.cond) l.length ⟨by simp[h0],by simp,by simp,by simp,by simp⟩ ?_
  clear h0 σ hp nx
  rintro k σ hp nx hk ⟨h0,h43,h44,h45,he⟩
  by_cases hlt:k<l.length
  ·have hw:IntKind.i64.wrap ((k:Int)+1)=(k:Int)+1:=zd (by omega) (by omega)
   obtain⟨s,hs⟩:∃s,l[k]=s:=⟨_,rfl⟩
   have hm:=sgb_mem (List.getElem_mem hlt)
   rw[hs] at hm
   have hmc:s.cb=1+s.name.length+tbs s.ins+tbs s.outs+s.cond.cb:=rfl
   have hkn:=fun hp nx=>FKn_call l s.cond hp nx (by omega) (by omega)
   rw[List.drop_eq_getElem_cons hlt,hs,List.all_cons] at he
   cases c1:xY l s.cond
   ·rw[c1,Bool.false_and] at he
    have hv:yt l=9:=by unfold yt;rw[if_neg c0,if_pos hG,he,if_neg (by simp)]
    simp[h0,h43,h44,h45,hlt,hs,hkn,c1,hv,f29]
   ·rw[c1,Bool.true_and] at he
    simp[h0,h43,h44,h45,hlt,hs,hkn,c1,hw]
    exact⟨by omega,he⟩
  ·obtain rfl:k=l.length:=by omega
   rw[List.drop_length] at he
   simp only[List.all_nil] at he
   simp[h0,h43,h44,h45]
   exact List.all_eq_true.1 he
 clear h0 σ hp nx
 rintro σ hp nx ⟨h0,hK⟩
 have hkn:∀s∈l,∀n∈s.cond.names,kr l n=true:=fun s hs n hn=>List.all_eq_true.1 (List.all_eq_true.1 hK s hs) n hn
 have hm1:l.length≤maxLen:=by unfold maxLen;omega
 have hm2:l.length*8≤140737488355328:=by omega
 simp[h0,y9,hm1,hm2]
 obtain⟨P,hP⟩:∃P,nx=P:=⟨_,rfl⟩
 rw[hP]
 refine zC (fun k σ hp nx=>σ 0=.sl 10 (l.map Sgm.enc)∧σ 8=.own P 0 l.length∧σ 59=int l.length∧σ 60=int k∧P<nx∧∃st:List Int,st.length=l.length∧yS st<2097153∧hp P=some (blkI st)∧loopF l=(loopG l st ((List.range l.length).drop k)).1) l.length
  ⟨by simp[h0],by simp,by simp,by simp,by simp,List.replicate l.length 0,by simp,by rw[whites_rep];omega,by simp[blkI],by simp[loopF]⟩ ?_
 clear h0 hP σ hp nx
 rintro k σ hp nx hk ⟨h0,h8,h59,h60,hPn,st,hsl,hws,hb,he⟩
 by_cases hlt:k<l.length
 ·have hw:IntKind.i64.wrap ((k:Int)+1)=(k:Int)+1:=zd (by omega) (by omega)
  obtain⟨x,hp2,nx2,e1,rfl,r2,n2,f2⟩:=circ_run l h hkn P 2097153 st k hp nx hws hsl hlt hPn hb
  have hkp:=wp (q7 l) 2097153 st k
  rw[List.drop_eq_getElem_cons (by simpa using hlt),List.getElem_range] at he
  unfold loopG at he
  cases hc:(wQ (q7 l) 2097153 st k).1
  ·rw[yu hc] at he
   rw[hc] at e1
   simp[h0,h8,h59,h60,hlt,e1,hw]
   exact⟨by omega,by omega,_,by rw[hkp.len];exact hsl,Nat.lt_of_le_of_lt hkp.wh hws,r2,by rw[he];rfl⟩
  ·rw[jf hc] at he
   rw[hc] at e1
   have hv:yt l=12:=by unfold yt;rw[if_neg c0,if_pos hG,if_pos hK,if_pos he]
   simp[h0,h8,h59,h60,hlt,e1,hv,f29]
 ·obtain rfl:k=l.length:=by omega
  have he:loopF l=false:=by
   rw[he,List.drop_of_length_le (by simp)]
   rfl
  have hv:yt l=0:=by unfold yt;rw[if_neg c0,if_pos hG,if_pos hK,he,if_neg (by simp)]
  simp[h0,h8,h59,h60,hv,f29]
theorem checkSegments_sound:za prog 29 (zc false [] (FSs fun l=>int (yt l))) :=
 zJ (fn:=f29) goodsgs sgs_known false [] _ fun args r h=>by
  obtain⟨l,rfl,h1,rfl⟩:=zf h
  exact⟨Nat.le_trans (Nat.le_refl 1) (by decide),_,checkSegments_eval l h1,zI _⟩
noncomputable def FFS (f:List UInt8×Val→List UInt8→PV):List PV→Option PV:=zG (α:=(List UInt8×Val)×List UInt8) (fun a=>[.agg (encF a.1),str a.2]) (fun _=>True) (fun a=>f a.1 a.2)
theorem freeze_encF (hp:Hp) (x:List UInt8×Val):zF hp (.agg (encF x))=some (.agg (encF x),hp):=by simp[encF]
theorem noOwn_encF (x:List UInt8×Val):PV.noOwn (.agg (encF x))=true:=by
 have:=noOwn_enc x.2
 simp only[PV.noOwn,Bool.not_eq_true',encF,List.any_cons] at this ⊢
 simpa using this
theorem FFS_call (f:List UInt8×Val→List UInt8→PV) (x:List UInt8×Val) (s:List UInt8) (hp:Hp) (nx:Nat):zc false [] (FFS f) [.agg (encF x),str s] hp nx=some (f x s,hp,nx) :=
 zt (hp1:=hp) (show zh hp [.agg (encF x),str s]=some ([.agg (encF x),str s],hp) by simp only[zh,freeze_encF];simp)
  (zn (enc:=fun a:(List UInt8×Val)×List UInt8=>[PV.agg (encF a.1),str a.2]) (a:=(x,s)) (fun a b e=>by
   obtain⟨a1,a2⟩:=a;obtain⟨b1,b2⟩:=b
   simp only[List.cons.injEq,and_true,PV.agg.injEq] at e
   obtain⟨e1,e2⟩:=e
   have e1:encF a1=encF b1:=by simpa only[encF,List.cons.injEq] using e1
   rw[encF_inj e1,zM e2]) trivial) (.inr (by simp only[List.all_cons,noOwn_encF,List.all_nil];rfl))
noncomputable abbrev Cac:Ctx:=zA prog [(67,zc false [] (F2S cmpB))]
theorem attrCmp_sound:za prog 95 (zc false [] (FFS fun x s=>int (cmpB x.1 s))) :=
 zJ (fn:=f95) (zk (q:=[]) mixed ⟨qD,by simp,trivial⟩:AM.Good Cac _) ⟨_,func95,by kernel_rfl,rfl,by kernel_rfl⟩ false [] _ fun args r h=>by
  obtain⟨⟨x,s⟩,rfl,_,rfl⟩:=zf h
  exact⟨by simp[f95],_,zb rfl (by simp[f95,encF]),zI _⟩
noncomputable def lessAt (l:List (List UInt8×Val)) (s:List UInt8) (k:Nat):Bool:=match l[k]? with
 | some x=>decide (cmpB x.1 s<0)
 | none=>false
noncomputable def vT (l:List (List UInt8×Val)) (s:List UInt8):Nat×Bool:=(bsGo (lessAt l s) 0 l.length,match l[bsGo (lessAt l s) 0 l.length]? with
 | some x=>cmpB x.1 s==0
 | none=>false)
noncomputable def FBsA (g:Nat):List PV→Option PV:=zG (α:=List (List UInt8×Val)×List UInt8) (fun a=>[.sl 6 (a.1.map encF),str a.2,.fn (.func g) [] []]) (fun a=>a.1.length≤lim) (fun a=>.tup [int (vT a.1 a.2).1,boo (vT a.1 a.2).2])
theorem FBsA_call (g:Nat) (l:List (List UInt8×Val)) (s:List UInt8) (hp:Hp) (nx:Nat) (h:l.length≤lim):zc false [] (FBsA g) [.sl 6 (l.map encF),str s,.fn (.func g) [] []] hp nx=some (.tup [int (vT l s).1,boo (vT l s).2],hp,nx) :=
 zt rfl (zn (enc:=fun a:List (List UInt8×Val)×List UInt8=>[PV.sl 6 (a.1.map encF),str a.2,.fn (.func g) [] []]) (a:=(l,s)) (fun a b e=>by
  obtain⟨a1,a2⟩:=a;obtain⟨b1,b2⟩:=b
  simp only[List.cons.injEq,and_true] at e
  obtain⟨e1,e2⟩:=e
  injection e1 with _ e1
  rw[qH (fun _ _=>encF_inj) e1,zM e2]) h) (.inl rfl)
noncomputable abbrev Cbs:Ctx:=zA prog [(95,zc false [] (FFS fun x s=>int (cmpB x.1 s)))]
theorem bs_eval (l:List (List UInt8×Val)) (s:List UInt8) (hl:l.length≤lim):zi Cbs f94 [.sl 6 (l.map encF),str s,.fn (.func 95) [] []]=some (.tup [int (vT l s).1,boo (vT l s).2]):=by
 refine zb rfl ?_
 unfold lim at hl
 simp
 refine wv (fun st=>st.σ 0=.sl 6 (l.map encF)∧st.σ 1=str s∧st.σ 2=.fn (.func 95) [] []∧st.σ 8=int l.length∧∃lo hi:Nat,lo≤hi∧hi≤l.length∧st.σ 9=int lo∧st.σ 10=int hi∧bsGo (lessAt l s) 0 l.length=bsGo (lessAt l s) lo hi)
  (fun st=>(jn (st.σ 10)).toNat - (jn (st.σ 9)).toNat) ⟨by simp,by simp,by simp,by simp,0,l.length,by simp,by simp,by simp,by simp,rfl⟩ ?_
 rintro⟨σ,hp,nx⟩ ⟨h0,h1,h2,h8,lo,hi,hlh,hhi,h9,h10,he⟩
 simp only at h0 h1 h2 h8 h9 h10
 by_cases hlt:lo<hi
 ·have hcall:=fun x hp nx=>FFS_call (fun x s=>int (cmpB x.1 s)) x s hp nx
  have w1:IntKind.i64.wrap ((lo:Int)+hi)=(lo:Int)+hi:=zd (by omega) (by omega)
  have hml:(lo+hi) / 2<l.length:=by omega
  obtain⟨m,hm⟩:∃m,m=(lo+hi) / 2:=⟨_,rfl⟩
  have hmid:IntKind.i64.wrap ((IntKind.u64.wrap ((lo:Int)+hi)).fdiv (2 ^ min 1 IntKind.u64.bits))=(m:Int):=by
   have e1:IntKind.u64.wrap ((lo:Int)+hi)=(lo:Int)+hi:=by rw[IntKind.wrap_u64];omega
   have e2:(2 ^ min 1 IntKind.u64.bits:Int)=2:=by decide
   rw[e1,e2,Int.fdiv_eq_ediv_of_nonneg _ (by omega),zd (by omega) (by omega)]
   omega
  have hml':m<l.length:=by omega
  have wm:IntKind.i64.wrap ((m:Int)+1)=(m:Int)+1:=zd (by omega) (by omega)
  have hla:lessAt l s m=decide (cmpB l[m].1 s<0):=by simp[lessAt,hml']
  rw[yd (lo:=lo) hlt,←hm,hla] at he
  have hcm:=hcall l[m]
  simp only[encF] at hcm
  by_cases hc:cmpB l[m].1 s<0
  ·simp only[hc,decide_true,if_true] at he
   simp[h0,h1,h2,h8,h9,h10,hlt,w1,hmid,hml',hcm,hc,wm]
   exact⟨⟨m+1,hi,by omega,hhi,by omega,rfl,he⟩,by omega⟩
  ·simp only[hc,decide_false,Bool.false_eq_true,if_false] at he
   simp[h0,h1,h2,h8,h9,h10,hlt,w1,hmid,hml',hcm,hc]
   exact⟨⟨lo,m,by omega,by omega,rfl,rfl,he⟩,by omega⟩
 ·have he:bsGo (lessAt l s) 0 l.length=lo:=by rw[he,jA (lo:=lo) hlt]
  have hcall:=fun x hp nx=>FFS_call (fun x s=>int (cmpB x.1 s)) x s hp nx
  unfold vT
  rw[he]
  by_cases hlo:lo<l.length
  ·have hcm:=hcall l[lo]
   simp only[encF] at hcm
   simp[h0,h1,h2,h8,h9,h10,hlt,hlo,hcm,f94,zU]
  ·have hlo':l[lo]?=none:=List.getElem?_eq_none (by omega)
   simp[h0,h1,h2,h8,h9,h10,hlt,hlo,hlo',f94,zU]
theorem bs_sound:za prog 94 (zc false [] (FBsA 95)) :=
 zJ (fn:=f94) (zk (q:=[95]) mixed ⟨attrCmp_sound,fun _=>zg _ _,trivial⟩:AM.Good Cbs _) ⟨_,func94,by kernel_rfl,rfl,by kernel_rfl⟩ false [] _ fun args r h=>by
  obtain⟨⟨l,s⟩,rfl,hl,rfl⟩:=zf h
  exact⟨Nat.le_trans (Nat.le_refl 3) (by decide),_,bs_eval l s hl,zI _⟩
def noVal:Val:=.mk 0 0 [] [] []
def textVal (s:List UInt8):Val:=.mk 3 0 s [] []
def keyW:List UInt8:=[107,101,121]
noncomputable def Ctxt.find (x:Ctxt) (s:List UInt8):Val×Bool :=
 if s==keyW then (textVal x.key,true) else match x.attrs[(vT x.attrs s).1]? with
  | some a=>if (vT x.attrs s).2 then (a.2,true) else (noVal,false)
  | none=>(noVal,false)
noncomputable def FXS (out:Ctxt→List UInt8→PV) (pre:Ctxt→List UInt8→Prop):List PV→Option PV:=zG (α:=Ctxt×List UInt8) (fun a=>[.agg a.1.enc,str a.2]) (fun a=>a.1.cb≤lim∧a.2.length≤lim∧pre a.1 a.2) (fun a=>out a.1 a.2)
theorem FXS_call (out:Ctxt→List UInt8→PV) (pre:Ctxt→List UInt8→Prop) (x:Ctxt) (s:List UInt8) (hp:Hp) (nx:Nat) (h:x.cb≤lim∧s.length≤lim∧pre x s):zc false [] (FXS out pre) [.agg x.enc,str s] hp nx=some (out x s,hp,nx) :=
 zt (hp1:=hp) (show zh hp [.agg x.enc,str s]=some ([.agg x.enc,str s],hp) by simp only[zh,freeze_ctxt];simp)
  (zn (enc:=fun a:Ctxt×List UInt8=>[PV.agg a.1.enc,str a.2]) (a:=(x,s)) (fun a b e=>by
   obtain⟨a1,a2⟩:=a;obtain⟨b1,b2⟩:=b
   simp only[List.cons.injEq,and_true,PV.agg.injEq] at e
   rw[ctxt_inj e.1,zM e.2]) h) (.inr (by simp only[List.all_cons,noOwn_ctxt,List.all_nil];rfl))
theorem bsOut_lt {l:List (List UInt8×Val)} {s:List UInt8} (h:(vT l s).2=true):(vT l s).1<l.length:=by
 unfold vT at h ⊢
 simp only at h ⊢
 split at h
 ·rename_i x hx;exact (List.getElem?_eq_some_iff.1 hx).1
 ·cases h
def valTup (r:Val×Bool):PV:=.tup [.agg r.1.enc,boo r.2]
noncomputable abbrev Cxa:Ctx:=zA prog [(94,zc false [] (FBsA 95))]
theorem stands0 (k n:Int) (s:List UInt8):Stands (.agg [int k,int n,str s,.nil,.nil]) (.agg (Val.mk k n s [] []).enc):=by
 rw[yQ]
 exact StandsL.agg (.cons (.refl _) (.cons (.refl _) (.cons (.refl _) (.cons (.nilOr (.inl ⟨rfl,rfl⟩)) (.cons (.nilOr (.inl ⟨rfl,rfl⟩)) .nil)))))
theorem attrOf_eval (x:Ctxt) (s:List UInt8) (h:x.cb≤lim):∃r0,zi Cxa f61 [.agg x.enc,str s]=some r0∧Stands r0 (valTup (x.find s)):=by
 have hcb:=xcb_eq x
 have hl2:=yn x.attrs
 have hbs:=fun hp nx=>FBsA_call 95 x.attrs s hp nx (by omega)
 refine wS rfl ?_
 have hne:(s==keyW)=false→(vT x.attrs s).2=false→x.find s=(noVal,false):=fun h1 h2=>by
  unfold Ctxt.find
  rw[h1,h2]
  simp only[Bool.false_eq_true,if_false]
  split<;>rfl
 cases hk:(s==keyW)
 ·have hk':(s==[107,101,121])=false:=hk
  cases hb:(vT x.attrs s).2
  ·rw[hne hk hb]
   simp[Ctxt.enc,hk',hbs,hb,zK,z8,f61]
   refine⟨.tup [.agg [int 0,int 0,str [],.nil,.nil],boo false],by simp,?_⟩
   exact StandsL.tup (.cons (stands0 0 0 []) (.cons (.refl _) .nil))
  ·have hlt:=bsOut_lt hb
   have hf:x.find s=(x.attrs[(vT x.attrs s).1].2,true):=by
    unfold Ctxt.find
    rw[hk,hb]
    simp[hlt]
   rw[hf]
   simp[Ctxt.enc,hk',hbs,hb,hlt,f61]
   refine⟨valTup (x.attrs[(vT x.attrs s).1].2,true),by simp[valTup],.refl _⟩
 ·have hk':(s==[107,101,121])=true:=hk
  have hf:x.find s=(textVal x.key,true):=by unfold Ctxt.find;rw[hk];rfl
  rw[hf]
  simp[Ctxt.enc,hk',zK,z8,f61]
  refine⟨.tup [.agg [int 3,int 0,str x.key,.nil,.nil],boo true],by simp,?_⟩
  exact StandsL.tup (.cons (stands0 3 0 x.key) (.cons (.refl _) .nil))
theorem attrOf_sound:za prog 61 (zc false [] (FXS (fun x s=>valTup (x.find s)) fun _ _=>True)) :=
 xN (fn:=f61) (zk (q:=[]) mixed ⟨bs_sound,by simp,trivial⟩:AM.Good Cxa _) ⟨_,func61,by kernel_rfl,rfl,by kernel_rfl⟩ false [] _ fun args r h w S vs hz=>by
  obtain⟨⟨x,s⟩,rfl,hx,rfl⟩:=zf h
  obtain⟨r0,h1,h2⟩:=attrOf_eval x s hx.1
  exact⟨_,r0,hz,Nat.le_trans (Nat.le_refl 2) (by decide),h1,h2⟩
end Go.Proofs.YtanbabpnlgfcpaaGreatDoor
namespace Go.SpanLaw
abbrev Sp:=Int×Int
def vp:Int→List Sp→Prop
 | _,[]=>True
 | lo,s::l=>lo<s.1∧s.1<s.2∧vp s.2 l
def mem (l:List Sp) (k:Int):Prop:=∃s∈l,s.1≤k∧k<s.2
theorem mem_nil (k:Int):¬mem [] k:=by simp[mem]
theorem mem_cons (s:Sp) (l:List Sp) (k:Int):mem (s::l) k↔(s.1≤k∧k<s.2)∨mem l k:=by simp[mem]
theorem mem_one (f t k:Int):mem [(f,t)] k↔f≤k∧k<t:=by simp[mem]
theorem mem_append (l m:List Sp) (k:Int):mem (l++m) k↔mem l k∨mem m k:=by simp[mem,or_and_right,exists_or]
theorem canon_mem:∀{lo:Int} {l:List Sp},vp lo l→∀{k:Int},mem l k→lo<k
 | _,[],_,k,h=>absurd h (mem_nil k)
 | lo,s::l,hc,k,h=>by
   rcases (mem_cons s l k).1 h with h | h
   ·have:=hc.1;omega
   ·have:=canon_mem hc.2.2 h
    have:=hc.1;have:=hc.2.1;omega
theorem canon_lo {lo lo':Int} {l:List Sp} (h:vp lo l) (hl:lo'≤lo):vp lo' l:=by
 cases l with
 | nil=>trivial
 | cons s l=>exact⟨by have:=h.1;omega,h.2⟩
def ku (from_ to:Int):List Sp→List Sp
 | []=>if from_<to then [(from_,to)] else []
 | b::l=>if b.1<to then (if from_<b.1 then (from_,b.1)::ku (max from_ b.2) to l else ku (max from_ b.2) to l) else if from_<to then [(from_,to)] else []
def skip (x:Int):List Sp→List Sp
 | []=>[]
 | b::l=>if b.2≤x then skip x l else b::l
def mins:List Sp→List Sp→List Sp
 | [],_=>[]
 | s::a,b=>ku s.1 s.2 (skip s.1 b)++mins a (skip s.1 b)
theorem skip_canon:∀{lo x:Int} {b:List Sp},vp lo b→vp lo (skip x b)
 | _,_,[],_=>trivial
 | lo,x,s::b,h=>by
   unfold skip
   split
   ·exact skip_canon (canon_lo h.2.2 (by have:=h.1;have:=h.2.1;omega))
   ·exact h
theorem skip_mem:∀{x:Int} {b:List Sp} {k:Int},x≤k→(mem (skip x b) k↔mem b k)
 | _,[],_,_=>Iff.rfl
 | x,s::b,k,h=>by
   unfold skip
   split
   ·rw[skip_mem h,mem_cons]
    constructor
    ·exact .inr
    ·rintro (g | g)
     ·omega
     ·exact g
   ·exact Iff.rfl
theorem piece_mem:∀{lo f t:Int} {b:List Sp} {k:Int},vp lo b→(mem (ku f t b) k↔f≤k∧k<t∧¬mem b k)
 | _,f,t,[],k,_=>by
   unfold ku
   split
   ·simp[mem]
   ·simp[mem];omega
 | lo,f,t,s::b,k,h=>by
   have hs:=h.2.1
   have hb:mem b k→s.2<k:=fun g=>canon_mem h.2.2 g
   have ih:=@piece_mem s.2 (max f s.2) t b k h.2.2
   have m1:f≤max f s.2:=Int.le_max_left _ _
   have m2:s.2≤max f s.2:=Int.le_max_right _ _
   have m3:max f s.2=f∨max f s.2=s.2:=by omega
   rw[mem_cons]
   unfold ku
   generalize max f s.2=m at ih m1 m2 m3 ⊢
   split
   ·split
    ·rw[mem_cons,ih]
     show (f≤k∧k<s.1)∨_↔_
     by_cases g:mem b k
     ·have:=hb g;simp only[g,not_true_eq_false,and_false,or_true,or_false,iff_false];omega
     ·simp only[g,not_false_eq_true,and_true,or_false];omega
    ·rw[ih]
     by_cases g:mem b k
     ·simp only[g,not_true_eq_false,and_false,or_true]
     ·simp only[g,not_false_eq_true,and_true,or_false];omega
   ·split
    ·rw[mem_one]
     by_cases g:mem b k
     ·have:=hb g;simp only[g,or_true,not_true_eq_false,and_false,iff_false];omega
     ·simp only[g,or_false];omega
    ·constructor
     ·intro g;exact absurd g (mem_nil k)
     ·intro g;omega
def Below (hi:Int) (l:List Sp):Prop:=∀s∈l,s.2≤hi
theorem mins_mem:∀{lo blo:Int} {a b:List Sp} {k:Int},vp lo a→vp blo b→(mem (mins a b) k↔mem a k∧¬mem b k)
 | _,_,[],b,k,_,_=>by simp[mins,mem]
 | lo,blo,s::a,b,k,ha,hb=>by
   have hs:=ha.2.1
   rw[mins,mem_append,piece_mem (skip_canon hb),mins_mem ha.2.2 (skip_canon hb),mem_cons]
   have hk:mem a k→s.2<k:=fun g=>canon_mem ha.2.2 g
   by_cases g:s.1≤k
   ·rw[skip_mem g]
    by_cases g1:mem a k<;>by_cases g2:mem b k<;>simp[g1,g2]
   ·have g1:¬mem a k:=fun h=>by have:=hk h;omega
    simp only[g1,or_false,false_and]
    constructor
    ·intro h;omega
    ·intro h;omega
structure Swept (op:Int→Prop) (at_:Int) (out:List Sp):Prop where
 canon:vp (-1) out
 below:Below at_ out
 holds:∀k,mem out k↔0≤k∧k<at_∧op k
def sizeL:List Sp→Int
 | []=>0
 | s::l=>(s.2 - s.1)+sizeL l
end Go.SpanLaw
namespace Go.Proofs.YtanbabpnlgfcpaaGreatDoor
open Go.Proofs.Tryz
open Go.RowKit Go.AM Go.SpanLaw
abbrev encS (s:Sp):List PV:=[int s.1,int s.2]
theorem encS_inj {a b:Sp} (h:encS a=encS b):a=b:=by
 simp only[List.cons.injEq,and_true,PV.v.injEq,Value.int.injEq,true_and] at h
 exact Prod.ext h.1 h.2
theorem yE {a b:List Sp} (h:PV.sl 2 (a.map encS)=PV.sl 2 (b.map encS)):a=b:=by
 injection h with _ h
 exact qH (fun _ _=>encS_inj) h
def spR (s:Sp):Bool:=!inB s.1 0 99999||decide ((100000:Int)<s.2)
def spO (p:Option Int) (s:Sp):Bool:=decide (s.2≤s.1)||(match p with
 | none=>false
 | some q=>decide (s.1≤q))
def spF:Option Int→List Sp→Int
 | _,[]=>0
 | p,s::l=>if spR s then 1 else if spO p s then 8 else spF (some s.2) l
theorem spF_drop {l:List Sp} {k:Nat} (h:k<l.length) (p:Option Int):spF p (l.drop k)=if spR l[k] then 1 else if spO p l[k] then 8 else spF (some l[k].2) (l.drop (k+1)):=by
 rw[List.drop_eq_getElem_cons h,spF]
def prevS (l:List Sp) (k:Nat):Option Int:=if k=0 then none else (l[k - 1]?).map (·.2)
def qx (l:List Sp):Int:=if (100:Int)<l.length then 2 else spF none l
theorem yg:za prog 32 (zc false [] (F3 inB)) :=
 zJ (fn:=f32) wA ⟨_,func32,by kernel_rfl,rfl,by kernel_rfl⟩ false [] _ fun args r h=>by
  obtain⟨a,b,c,rfl,rfl⟩:=F3_inv h
  exact⟨by simp[f32],_,zb rfl (by simp[f32,inB]),zI _⟩
noncomputable abbrev Cwl:Ctx:=zA prog [(32,zc false [] (F3 inB))]
theorem checkSpans_eval (l:List Sp):zi Cwl f27 [.sl 2 (l.map encS)]=some (int (qx l)):=by
 refine zb rfl ?_
 rw[qx]
 by_cases c2:(100:Int)<l.length
 ·simp[c2,f27]
 simp[c2]
 refine zC (fun k σ hp nx=>σ 0=.sl 2 (l.map encS)∧σ 8=.sl 2 (l.map encS)∧σ 9=int l.length∧σ 10=int k∧spF none l=spF (prevS l k) (l.drop k)) l.length
  ⟨by simp,by simp,by simp,by simp,by simp[prevS]⟩ ?_
 rintro k σ hp nx hk ⟨h0,h8,h9,h10,hf⟩
 by_cases hlt:k<l.length
 ·have hw:IntKind.i64.wrap ((k:Int)+1)=(k:Int)+1:=zd (by omega) (by omega)
  have en:(!inB l[k].1 0 99999||decide ((100000:Int)<l[k].2))=spR l[k]:=rfl
  rw[spF_drop hlt] at hf
  cases d1:spR l[k]
  case true =>
   rw[d1] at en hf
   simp[h0,h8,h9,h10,hlt,en,hf,f27]
  rw[d1] at en
  simp only[d1,Bool.false_eq_true,if_false] at hf
  have hpv:prevS l (k+1)=some l[k].2:=by simp[prevS,hlt]
  by_cases k0:k=0
  ·subst k0
   simp only[prevS,if_true,spO,Bool.or_false] at hf
   by_cases d2:l[0].2≤l[0].1
   ·simp only[d2,decide_true,if_true] at hf
    simp[h0,h8,h9,h10,hlt,en,d2,hf,f27]
   ·simp only[d2,decide_false,Bool.false_eq_true,if_false] at hf
    have w1:IntKind.i64.wrap 1=1:=zd (by omega) (by omega)
    simp[h0,h8,h9,h10,hlt,en,d2,w1]
    and_intros<;>first | omega | (rw[hf];rw[hpv];done) | (rw[hf];rw[hpv];simp)
  ·obtain⟨j,rfl⟩:∃j,k=j+1:=⟨k - 1,by omega⟩
   have hj:j<l.length:=by omega
   have wj:IntKind.i64.wrap ((j:Int)+1 - 1)=(j:Int):=by rw[zd (by omega) (by omega)];omega
   have wj':IntKind.i64.wrap (j:Int)=(j:Int):=zd (by omega) (by omega)
   have j1:((j:Int)+1).toNat=j+1:=by omega
   have j2:0<(j:Int)+1:=by omega
   have j3:0≤(j:Int)+1:=by omega
   have j4:(j:Int)+1<l.length:=by omega
   have wk:IntKind.i64.wrap ((j:Int)+1+1)=(j:Int)+1+1:=zd (by omega) (by omega)
   have hpj:prevS l (j+1)=some l[j].2:=by simp[prevS,hj]
   have eo:(decide (l[j+1].2≤l[j+1].1)||decide (l[j+1].1≤l[j].2))=spO (some l[j].2) l[j+1]:=rfl
   rw[hpj] at hf
   cases d2:spO (some l[j].2) l[j+1]
   ·rw[d2] at eo
    simp only[d2,Bool.false_eq_true,if_false] at hf
    simp[h0,h8,h9,h10,hlt,hj,en,wj,wj',j1,j2,j3,j4,eo,wk]
    and_intros<;>first | omega | (rw[hf];rw[hpv])
   ·rw[d2] at eo
    simp only[d2,if_true] at hf
    simp[h0,h8,h9,h10,hlt,hj,en,wj,wj',j1,j2,j3,j4,eo,hf,f27]
 ·obtain rfl:k=l.length:=by omega
  rw[List.drop_length] at hf
  have hf:spF none l=0:=by rw[hf];rfl
  simp[h0,h8,h9,h10,hf,f27]
noncomputable def FP (out:List Sp→PV) (pre:List Sp→Prop):List PV→Option PV:=zG (α:=List Sp) (fun l=>[.sl 2 (l.map encS)]) pre out
theorem FP_call (out:List Sp→PV) (pre:List Sp→Prop) (l:List Sp) (hp:Hp) (nx:Nat) (h:pre l):zc false [] (FP out pre) [.sl 2 (l.map encS)] hp nx=some (out l,hp,nx) :=
 zt rfl (zn (enc:=fun l:List Sp=>[PV.sl 2 (l.map encS)]) (a:=l) (fun a b e=>by simp only[List.cons.injEq,and_true] at e;exact yE e) h) (.inr rfl)
theorem kC:za prog 27 (zc false [] (FP (fun l=>int (qx l)) fun _=>True)) :=
 zJ (fn:=f27) (zk (q:=[32]) mixed ⟨yg,fun _=>zg _ _,trivial⟩:AM.Good Cwl _) ⟨_,func27,by kernel_rfl,rfl,by kernel_rfl⟩ false [] _ fun args r h=>by
  obtain⟨l,rfl,_,rfl⟩:=zf h
  exact⟨Nat.le_trans (Nat.le_refl 1) (by decide),_,checkSpans_eval l,zI _⟩
theorem spF_right:∀{l:List Sp} {p:Option Int},spF p l=0→vp (p.getD (-1)) l∧Below 100000 l∧∀s∈l,0≤s.1
 | [],_,_=>⟨trivial,fun s hs=>absurd hs (by simp),fun s hs=>absurd hs (by simp)⟩
 | s::l,p,h=>by
   simp only[spF] at h
   split at h
   ·cases h
   split at h
   ·cases h
   rename_i h1 h2
   obtain⟨g1,g2,g3⟩:=spF_right h
   simp only[spR,inB,Bool.or_eq_true,Bool.not_eq_true',Bool.and_eq_false_iff,decide_eq_false_iff_not,decide_eq_true_eq,not_or] at h1
   simp only[spO,Bool.or_eq_true,decide_eq_true_eq,not_or] at h2
   refine⟨⟨?_,by omega,g1⟩,fun x hx=>?_,fun x hx=>?_⟩
   ·cases p with
    | none=>show -1<s.1;omega
    | some q=>have:=h2.2;simp at this;exact this
   ·rcases List.mem_cons.1 hx with rfl | hx
    ·omega
    ·exact g2 x hx
   ·rcases List.mem_cons.1 hx with rfl | hx
    ·omega
    ·exact g3 x hx
theorem kv {l:List Sp} (h:qx l=0):vp (-1) l∧Below 100000 l∧(∀s∈l,0≤s.1)∧l.length≤100:=by
 unfold qx at h
 split at h
 ·cases h
 ·obtain⟨g1,g2,g3⟩:=spF_right h
  exact⟨g1,g2,g3,by omega⟩
def okS (b:List Sp):Prop:=vp (-1) b∧Below 100000 b∧(∀s∈b,0≤s.1)∧b.length≤100000
theorem okS_of {b:List Sp} (h:qx b=0):okS b:=by
 obtain⟨h1,h2,h3,h4⟩:=kv h
 exact⟨h1,h2,h3,by omega⟩
theorem size_drop {l:List Sp} {k:Nat} (h:k<l.length):sizeL (l.drop k)=(l[k].2 - l[k].1)+sizeL (l.drop (k+1)):=by
 rw[List.drop_eq_getElem_cons h,sizeL]
theorem canon_pos:∀{lo:Int} {l:List Sp},vp lo l→∀s∈l,s.1<s.2
 | _,r::l,h,s,hs=>by
   rcases List.mem_cons.1 hs with rfl | hs
   ·exact h.2.1
   ·exact canon_pos h.2.2 s hs
theorem size_eval (l:List Sp) (h:okS l):zi C0 f28 [.sl 2 (l.map encS)]=some (int (sizeL l)):=by
 obtain⟨hc,hb,hp0,hl⟩:=h
 refine zb rfl ?_
 simp
 refine zC (fun k σ hp nx=>σ 6=.sl 2 (l.map encS)∧σ 7=int l.length∧σ 8=int k∧∃acc:Int,σ 3=int acc∧acc+sizeL (l.drop k)=sizeL l∧0≤acc∧acc≤100000*k) l.length
  ⟨by simp,by simp,by simp,0,by simp,by simp,by simp,by simp⟩ ?_
 rintro k σ hp nx hk ⟨h6,h7,h8,acc,h3,ha,ha0,ha1⟩
 by_cases hlt:k<l.length
 ·have hw:IntKind.i64.wrap ((k:Int)+1)=(k:Int)+1:=zd (by omega) (by omega)
  have hm:=List.getElem_mem hlt
  have b1:=hb _ hm
  have b2:=hp0 _ hm
  have b3:=canon_pos hc _ hm
  have w1:IntKind.i64.wrap (l[k].2 - l[k].1)=l[k].2 - l[k].1:=zd (by omega) (by omega)
  have w2:IntKind.i64.wrap (acc+(l[k].2 - l[k].1))=acc+(l[k].2 - l[k].1):=zd (by omega) (by omega)
  rw[size_drop hlt] at ha
  simp[h3,h6,h7,h8,hlt,hw,w1,w2]
  omega
 ·obtain rfl:k=l.length:=by omega
  rw[List.drop_length,sizeL] at ha
  have ha:acc=sizeL l:=by omega
  simp[h3,h6,h7,h8,ha,f28]
theorem size_sound:za prog 28 (zc false [] (FP (fun l=>int (sizeL l)) fun l=>okS l)) :=
 zJ (fn:=f28) wA ⟨_,func28,by kernel_rfl,rfl,by kernel_rfl⟩ false [] _ fun args r h=>by
  obtain⟨l,rfl,hl,rfl⟩:=zf h
  exact⟨Nat.le_trans (Nat.le_refl 1) (by decide),_,size_eval l hl,zI _⟩
def sizeR (l:List Sp):Int×Int:=if qx l=0 then (sizeL l,0) else (0,qx l)
def twoI (r:Int×Int):PV:=.tup [int r.1,int r.2]
noncomputable abbrev Csz:Ctx:=zA prog [(27,zc false [] (FP (fun l=>int (qx l)) fun _=>True)),(28,zc false [] (FP (fun l=>int (sizeL l)) fun l=>okS l))]
theorem Size_eval (l:List Sp):zi Csz f13 [.sl 2 (l.map encS)]=some (twoI (sizeR l)):=by
 have c1:=fun hp nx=>FP_call (fun l=>int (qx l)) (fun _=>True) l hp nx trivial
 refine zb rfl ?_
 unfold sizeR
 by_cases hf:qx l=0
 ·have c2:=fun hp nx=>FP_call (fun l=>int (sizeL l)) (fun l=>okS l) l hp nx (okS_of hf)
  simp[c1,c2,hf,twoI,zU,f13]
 ·have hf':(qx l != 0)=true:=by simpa using hf
  simp[c1,hf,hf',twoI,zU,f13]
theorem Size_sound:za prog 13 (zc false [] (FP (fun l=>twoI (sizeR l)) fun _=>True)) :=
 zJ (fn:=f13) (zk (q:=[]) mixed ⟨kC,by simp,size_sound,by simp,trivial⟩:AM.Good Csz _) ⟨_,func13,by kernel_rfl,rfl,by kernel_rfl⟩ false [] _ fun args r h=>by
  obtain⟨l,rfl,_,rfl⟩:=zf h
  exact⟨Nat.le_trans (Nat.le_refl 1) (by decide),_,Size_eval l,zI _⟩
def spTup (r:List Sp×Int):PV:=.tup [.sl 2 (r.1.map encS),int r.2]
theorem stands_nilS (k:Int):Stands (.tup [.nil,int k]) (spTup ([],k)) :=
 StandsL.tup (.cons (.nilOr (.inl ⟨rfl,rfl⟩)) (.cons (.refl _) .nil))
noncomputable def FPP (out:List Sp→List Sp→PV) (pre:List Sp→List Sp→Prop):List PV→Option PV:=zG (α:=List Sp×List Sp) (fun a=>[.sl 2 (a.1.map encS),.sl 2 (a.2.map encS)]) (fun a=>pre a.1 a.2) (fun a=>out a.1 a.2)
theorem FPP_call (out:List Sp→List Sp→PV) (pre:List Sp→List Sp→Prop) (a b:List Sp) (hp:Hp) (nx:Nat) (h:pre a b):zc false [] (FPP out pre) [.sl 2 (a.map encS),.sl 2 (b.map encS)] hp nx=some (out a b,hp,nx) :=
 zt rfl (zn (enc:=fun a:List Sp×List Sp=>[PV.sl 2 (a.1.map encS),.sl 2 (a.2.map encS)]) (a:=(a,b)) (fun a b e=>by
  obtain⟨a1,a2⟩:=a;obtain⟨b1,b2⟩:=b
  simp only[List.cons.injEq,and_true] at e
  rw[yE e.1,yE e.2]) h) (.inr rfl)
end Go.Proofs.YtanbabpnlgfcpaaGreatDoor
