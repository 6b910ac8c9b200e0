/-
The reference's ranges: an alternative.
The reference's ReadRange.
The reference's CheckCond: what it computes.
The reference's CheckCond: values, pattern, parts.
The reference's printing of conditions: write, Print; the law.
-/
import Derived.Test.YtpeaooooimfihaaGreatDoorG26
import Derived.Test.YtpeaooooimfihaaGreatDoorG20
import Derived.Test.YtpeaooooimfihaaGreatDoorG22
set_option maxRecDepth 8000
namespace Go.Proofs.YtpeaooooimfihaaGreatDoor
open Go.Proofs.Tryz
open Go.RowKit Go.AM
theorem tok_len:∀(ws:List (List UInt8)) (l:List Tok) (n:Nat),tokW ws=some l→(∀w∈ws,w.length≤n)→l.length≤ws.length∧∀a∈l,a.2.length≤n
 | [],l,n,h,_=>by simp only[tokW] at h;injection h with h;subst h;simp
 | [w],l,n,h,hw=>by
   simp only[tokW] at h
   split at h
   ·cases h
   ·injection h with h
    subst h
    refine⟨by simp,fun a ha=>?_⟩
    rw[List.mem_singleton] at ha
    rw[ha]
    exact Nat.le_trans (xo sgs w) (hw w (by simp))
 | w::x::ws,l,n,h,hw=>by
   simp only[tokW] at h
   split at h
   ·cases e:tokW ws with
    | none=>rw[e] at h;cases h
    | some l' =>
      rw[e] at h
      simp only[Option.map_some,Option.some.injEq] at h
      subst h
      obtain⟨h1,h2⟩:=tok_len ws l' n e fun y hy=>hw y (by simp[hy])
      refine⟨by simp;omega,fun a ha=>?_⟩
      rcases List.mem_cons.1 ha with rfl | ha
      ·exact hw x (by simp)
      ·exact h2 a ha
   ·cases e:tokW (x::ws) with
    | none=>rw[e] at h;cases h
    | some l' =>
      rw[e] at h
      simp only[Option.map_some,Option.some.injEq] at h
      subst h
      obtain⟨h1,h2⟩:=tok_len (x::ws) l' n e fun y hy=>hw y (by simp[List.mem_cons.1 hy])
      refine⟨by simp at h1 ⊢;omega,fun a ha=>?_⟩
      rcases List.mem_cons.1 ha with rfl | ha
      ·exact Nat.le_trans (xo sgs w) (hw w (by simp))
      ·exact h2 a ha
theorem wdsR_len {t:List UInt8} {l:List Tok} (h:tokW (qG t)=some l):l.length≤t.length+1∧∀a∈l,a.2.length≤t.length:=by
 have hw:zL (zu t [32])=qG t:=wds_split t
 obtain⟨h1,h2⟩:=tok_len _ l t.length h fun w hw'=>by
  rw[←hw] at hw'
  exact wz (List.mem_filter.1 hw').1
 have h3:(qG t).length≤t.length+1:=by rw[←hw];exact Nat.le_trans (List.length_filter_le _ _) (wS (by simp))
 exact⟨by omega,h2⟩
theorem oneX_good {o:List UInt8} {p:Part} (ho:sgOk o) (hp:p.ok) (hg:jm p.pre):goodR (oneX o p).1∧(oneX o p).1.length≤1:=by
 obtain⟨h1,h2⟩:=strS_good (cOf_good ho hp hg)
 unfold oneX
 by_cases h:(strS (cOf o p)).2=true
 ·rw[if_pos h];exact⟨h2,h1⟩
 ·rw[if_neg h];exact⟨(fun s hs=>by cases hs),by simp⟩
theorem bstr_eq (a b:List UInt8):((⟨a.toArray⟩:ByteArray)==⟨b.toArray⟩)=decide (a=b):=by
 show (a.toArray==b.toArray)=_
 by_cases h:a=b<;>simp[h]
theorem binW (a b c d:List UInt8):binA prog .eql 145 (.agg [str a,str b]) (.agg [str c,str d])=some (boo (decide (a=c)&&decide (b=d))):=by
 simp only[binA,fl145,zY,Option.map_some,Bool.and_true,bstr_eq]
noncomputable def vZ (t:List UInt8):List Str×Int:=match altX t with
 | none=>([],10)
 | some m=>(m.1,if m.2=true then 0 else 1)
noncomputable def xy (t:List UInt8):PV:=.tup [.sl 11 (encR (vZ t).1),int (vZ t).2]
def AltI (l:List Tok) (k:Nat) (hp:Hp) (nx:Nat) (v w:PV):Prop:=∃o ok,HasW hp nx v o∧goodR o∧o.length≤k+1∧w=int (if ok=true then 0 else 1)∧jO [qn leastC] true l=jO o ok (l.drop k)
noncomputable abbrev Cralt:Ctx:=zF prog [(117,zf false [] (FSP wdsP)),(118,zf false [] FBt2),(119,zC [] (xn leastP)),(120,zf false [] (FS qw)),(121,zf false [] (FSP1 rvP)),(122,zC [.a,.g vpat] FOVI),(79,wF [.a,.s 11 spat,.s 11 spat] FTog)]
theorem goodralt:AM.Good Cralt (fun g=>[118].contains g):=zm mixed ⟨rwords_sound,by simp,rbetween_sound,fun _=>zg _ _,rleast_sound,by simp,risOpen_sound,by simp,jG,by simp,rstretch_sound,by simp,rtog_sound,by simp,trivial⟩
set_option maxHeartbeats 4000000 in
theorem ralt_eval (t:List UInt8) (ht:t.length+1≤lim):∃r0,zj Cralt f78 [str t]=some r0∧Stands r0 (xy t):=by
 refine qe (sh:=.s 11 spat) rfl ?_
 have hwo:∀(hp:Hp) (nx:Nat),zf false [] (FSP wdsP) [str t] hp nx=some (wdsP t,hp,nx):=fun hp nx=>zK rfl (zn (enc:=fun l:List UInt8=>[str l]) (a:=t) (fun a b e=>qt (by injection e)) (by show t.length≤lim;omega)) (.inr (by simp))
 refine qR (fun st=>st.σ 0=str t) (by simp) ?_
 rintro⟨σ,hp,nx⟩ h0
 simp only at h0
 refine qR (fun st=>st.σ 4=.sl 2 (encK (wdsR t).1)∧st.σ 5=boo (wdsR t).2) (by simp[h0,hwo,wdsP]) ?_
 clear h0 σ hp nx
 rintro⟨σ,hp,nx⟩ ⟨h4,h5⟩
 simp only at h4 h5
 cases htk:tokW (qG t) with
 | none =>
   have hr:wdsR t=([],false):=by unfold wdsR;rw[htk]
   have hv:vZ t=([],10):=by unfold vZ altX;rw[htk]
   rw[hr] at h4 h5
   simp[h4,h5,zx,xy,hv,encR,f78]
 | some l =>
 have hr:wdsR t=(l,!l.isEmpty):=by unfold wdsR;rw[htk]
 rw[hr] at h4 h5
 simp only at h4 h5
 by_cases hl0:l=[]
 ·have hv:vZ t=([],10):=by unfold vZ altX;rw[htk];simp only;rw[if_pos hl0]
  subst hl0
  simp[h4,h5,zx,xy,hv,encR,f78]
 have hv0:altX t=match dash l with
  | some a=>match rdOk a.1,rdOk a.2 with
    | some p,some q=>some (btwX p q)
    | _,_=>none
  | none=>jO [qn leastC] true l:=by unfold altX;rw[htk];simp only;rw[if_neg hl0];rfl
 have hle:l.isEmpty=false:=by cases l<;>simp at hl0 ⊢
 rw[hle] at h5
 obtain⟨hll,hla⟩:=wdsR_len htk
 have hsg:=tok_sg _ l htk
 have hkl:=encK_len l
 unfold lim at ht
 refine qR (fun st=>st.σ 4=.sl 2 (encK l)) (by simp[h5,h4]) ?_
 clear h4 h5 σ hp nx
 rintro⟨σ,hp,nx⟩ h4
 simp only at h4
 refine qR (fun st=>st.σ 4=.sl 2 (encK l)∧dash l=none) ?_ ?_
 ·by_cases h3:l.length=3
  ·match l,h3 with
   | [a,b,c],_ =>
   obtain⟨a1,a2⟩:=a
   obtain⟨b1,b2⟩:=b
   obtain⟨c1,c2⟩:=c
   have hd:dash [(a1,a2),(b1,b2),(c1,c2)]=if (b1,b2)=(([],[45]):Tok)∧a1=[]∧c1=[] then some (a2,c2) else none:=rfl
   have ha2:a2.length≤t.length:=hla (a1,a2) (by simp)
   have hc2:c2.length≤t.length:=hla (c1,c2) (by simp)
   have hbt:=fun hp nx=>FBt2_call a2 c2 hp nx ⟨by unfold lim;omega,by unfold lim;omega⟩
   by_cases k1:b1=[]
   ·subst k1
    by_cases k2:b2=[45]
    ·subst k2
     by_cases k3:a1=[]
     ·subst k3
      by_cases k4:c1=[]
      ·subst k4
       rw[if_pos ⟨rfl,rfl,rfl⟩] at hd
       rw[hd] at hv0
       have hv:vZ t=btwR a2 c2:=by
        unfold vZ btwR
        rw[hv0]
        simp only
        cases h1:rdOk a2<;>cases h2:rdOk c2<;>simp
       have hfx:=vS (btwR a2 c2).1
       simp only[Sh.fix_s,PV.sl.injEq,true_and] at hfx
       simp only[btwRP] at hbt
       simp[h4,encK,hbt,binW,zw,zJ,zx,xy,hv,hfx,f78]
      ·rw[if_neg (fun h=>k4 h.2.2)] at hd
       have e4:c1.isEmpty=false:=by cases c1 with
        | nil=>exact absurd rfl k4
        | cons=>rfl
       simp[h4,encK,binW,zw,zJ,e4,hd]
     ·rw[if_neg (fun h=>k3 h.2.1)] at hd
      have e3:a1.isEmpty=false:=by cases a1 with
       | nil=>exact absurd rfl k3
       | cons=>rfl
      simp[h4,encK,binW,zw,zJ,e3,hd]
    ·rw[if_neg (fun h=>k2 (by have:=h.1;injection this))] at hd
     simp[h4,encK,binW,zw,zJ,k2,hd]
   ·rw[if_neg (fun h=>k1 (by have:=h.1;injection this))] at hd
    simp[h4,encK,binW,zw,zJ,k1,hd]
  ·have hd:dash l=none:=by
    unfold dash
    split
    ·rename_i a b c
     exact absurd rfl h3
    ·rfl
   have hn3:((l.length:Int)==3)=false:=by rw[beq_eq_false_iff_ne];omega
   simp[h4,hkl,hn3,hd]
 clear h4 σ hp nx
 rintro⟨σ,hp,nx⟩ ⟨h4,hd⟩
 simp only at h4
 rw[hd] at hv0
 simp only at hv0
 have hle:∀(hp:Hp) (nx:Nat),zC [] (xn leastP) [] hp nx=some (.agg [int leastC.v.a,int leastC.v.b,int leastC.v.c,.sl 1 (encT leastC.v.pre),boo leastC.after],hp,nx):=fun hp nx=>yY _ hp nx
 simp[h4,hkl,hle,zw,zJ,zd,zl,zc]
 refine zy (fun k σ hp nx=>σ 60=.sl 2 (encK l)∧σ 61=int l.length∧σ 62=int k∧AltI l k hp nx (σ 6) (σ 7)) l.length
  ⟨by simp,by simp,by simp,[qn leastC],true,.inr ⟨nx,[[int leastC.v.a,int leastC.v.b,int leastC.v.c,.sl 1 (encT leastC.v.pre),boo leastC.after,int 0,int 0,int 0,.nil,boo false,boo true]],by simp,by simp,by simp,by simp[encR,qn,Str.enc,Cut.enc,cut0,encT]⟩,(jn wv).2,by simp,by simp,by simp⟩ ?_
 clear h4 σ hp nx
 rintro k σ hp nx hk ⟨h60,h61,h62,o,ok,hM,hgo,hol,h7,hlo⟩
 by_cases hltk:k<l.length
 ·have hwk:IntKind.i64.wrap ((k:Int)+1)=(k:Int)+1:=zh (by omega) (by omega)
  obtain⟨a,ha⟩:∃a,l[k]=a:=⟨_,rfl⟩
  have ham:a∈l:=by rw[←ha];exact List.getElem_mem hltk
  have hke:∀h:k<(encK l).length,(encK l)[k]=[str a.1,str a.2]:=fun h=>by simp[encK,ha]
  have hal:=hla a ham
  have hop:=fun hp nx=>wi qw a.2 hp nx (by unfold lim;omega)
  have hrv:=fun hp nx=>yb rvP a.2 hp nx (by unfold lim;omega)
  simp only[rvP,Ver.enc] at hrv
  rw[List.drop_eq_getElem_cons hltk,ha] at hlo
  simp only[jO] at hlo
  have hie:a.1≠[]→a.1.isEmpty=false:=fun h=>by cases he:a.1 with
   | nil=>exact absurd he h
   | cons=>rfl
  by_cases hskip:a.1=[]∧qw a.2=true
  ·rw[if_pos hskip] at hlo
   obtain⟨hs1,hs2⟩:=hskip
   simp[h60,h61,h62,hltk,hkl,hke,hs1,hop,hs2,hwk]
   exact⟨by omega,o,ok,hM.keep (by omega) fun id hid n e=>qd _ _ _ _ (by omega),hgo,by omega,h7,hlo⟩
  ·rw[if_neg hskip] at hlo
   have hM1:∀b1 b2,HasW (upd (upd hp nx b1) (nx+1) b2) (nx+1+1) (σ 6) o:=fun b1 b2=>hM.keep (by omega) fun id hid n e=>by rw[qd _ _ _ _ (by omega),qd _ _ _ _ (by omega)]
   have n1:¬nx=nx+1:=by omega
   cases hrd:rdOk a.2 with
   | none =>
     rw[hrd] at hlo
     simp only at hlo
     have hv:vZ t=([],10):=by unfold vZ;rw[hv0,hlo]
     have hno:=rdOk_not hrd
     by_cases hs1:a.1=[]
     ·have hs2:qw a.2=false:=by cases hb:qw a.2;rfl;exact absurd ⟨hs1,hb⟩ hskip
      rcases hno with hno | hno
      ·simp[h60,h61,h62,hltk,hkl,hke,hs1,hop,hs2,hrv,hno,zx,xy,hv,encR,f78]
      ·cases hb:(rvR a.2).2.2<;>simp[h60,h61,h62,hltk,hkl,hke,hs1,hop,hs2,hrv,hno,hb,zx,xy,hv,encR,f78]
     ·have hs1:=hie hs1
      rcases hno with hno | hno
      ·simp[h60,h61,h62,hltk,hkl,hke,hs1,hrv,hno,zx,xy,hv,encR,f78]
      ·cases hb:(rvR a.2).2.2<;>simp[h60,h61,h62,hltk,hkl,hke,hs1,hrv,hno,hb,zx,xy,hv,encR,f78]
   | some p =>
     rw[hrd] at hlo
     simp only at hlo
     obtain⟨p1,p2,p3,p4,p5,p6,p7⟩:=rdOk_ver hrd
     obtain⟨_,_,q3,q4⟩:=yA hrd
     have p3':((rvR a.2).2.1==0)=false:=by simpa using p3
     rw[←p2] at p6 p7
     have hso:=fun hp nx=>FOVI_call a.1 (rvR a.2).1 (rvR a.2).2.1 hp nx (hsg a ham) p5 ⟨p6,p7⟩
     simp only[vY,←p4,Ver.enc] at hso
     obtain⟨g1,g2⟩:=oneX_good (hsg a ham) q3 q4
     have hlm:=vu and o (oneX a.1 p).1
     obtain⟨x,hp',nx',htog,hX,hnx',_⟩:=tog_call 1 and take1 (hM1 (some ⟨145,2,false,[[str a.1,str a.2]]⟩) (some ⟨102,4,false,[(rvR a.2).1.enc]⟩)) (hgo.small (by unfold lim;omega)) (g1.small (by unfold lim;omega)) hgo g1
     simp only[Ver.enc] at htog
     have hfin:∀n:Int,n=(if (ok&&(oneX a.1 p).2)=true then 0 else 1)→AltI l (k+1) hp' nx' x (int n):=fun n hn=>⟨_,_,hX,wA and hgo g1,by omega,by rw[hn],hlo⟩
     by_cases hs1:a.1=[]
     ·have hs2:qw a.2=false:=by cases hb:qw a.2;rfl;exact absurd ⟨hs1,hb⟩ hskip
      rw[hs1] at hso htog hfin hke
      cases hb:(oneX [] p).2
      ·rw[hb] at hso hfin
       simp[h60,h61,h62,hltk,hkl,hke,hop,hs2,hrv,p1,p3',n1,hso,htog,hwk]
       exact⟨by omega,hfin 1 (by simp)⟩
      ·rw[hb] at hso hfin
       simp[h60,h61,h62,hltk,hkl,hke,hop,hs2,hrv,p1,p3',n1,hso,htog,hwk]
       exact⟨by omega,by rw[h7];exact hfin _ (by simp)⟩
     ·have hs1:=hie hs1
      cases hb:(oneX a.1 p).2
      ·rw[hb] at hso hfin
       simp[h60,h61,h62,hltk,hkl,hke,hs1,hrv,p1,p3',n1,hso,htog,hwk]
       exact⟨by omega,hfin 1 (by simp)⟩
      ·rw[hb] at hso hfin
       simp[h60,h61,h62,hltk,hkl,hke,hs1,hrv,p1,p3',n1,hso,htog,hwk]
       exact⟨by omega,by rw[h7];exact hfin _ (by simp)⟩
 ·obtain rfl:k=l.length:=by omega
  rw[List.drop_length] at hlo
  simp only[jO] at hlo
  have hv:vZ t=(o,if ok=true then 0 else 1):=by unfold vZ;rw[hv0,hlo]
  rcases hM with⟨h6,rfl⟩ | ⟨id,xs,hid,h6,hb,hxs⟩
  ·simp[h60,h61,h62,h6,h7,zx,xy,hv,encR,f78]
  ·simp[h60,h61,h62,h6,h7,hb,hxs,zx,xy,hv,f78]
theorem ralt_sound:za prog 78 (zf false [] (FSP1 xy)) :=
 xN (fn:=f78) goodralt ⟨_,func78,by kernel_rfl,rfl,by kernel_rfl⟩ false [] _ fun args r h w S vs hz=>by
  obtain⟨l,rfl,hp,rfl⟩:=ze h
  obtain⟨r0,h1,h2⟩:=ralt_eval l hp
  exact⟨_,r0,hz,by simp[f78],h1,h2⟩
theorem loopX_good:∀(l:List Tok) (out:List Str) (ok:Bool) (m:List Str×Bool),(∀a∈l,sgOk a.1)→goodR out→jO out ok l=some m→goodR m.1∧m.1.length≤out.length+l.length
 | [],out,ok,m,_,h,e=>by
   simp only[jO] at e
   injection e with e
   subst e
   exact⟨h,by simp⟩
 | a::l,out,ok,m,hs,h,e=>by
   simp only[jO] at e
   have hs':∀b∈l,sgOk b.1:=fun b hb=>hs b (by simp[hb])
   split at e
   ·obtain⟨h1,h2⟩:=loopX_good l out ok m hs' h e
    exact⟨h1,by simp;omega⟩
   ·cases hr:rdOk a.2 with
    | none=>rw[hr] at e;cases e
    | some p =>
      rw[hr] at e
      simp only at e
      obtain⟨_,_,q3,q4⟩:=yA hr
      obtain⟨g1,g2⟩:=oneX_good (hs a (by simp)) q3 q4
      have hlm:=vu and out (oneX a.1 p).1
      obtain⟨h1,h2⟩:=loopX_good l _ _ m hs' (wA and h g1) e
      exact⟨h1,by simp;omega⟩
theorem altX_good {t:List UInt8} {m:List Str×Bool} (h:altX t=some m):goodR m.1∧m.1.length≤t.length+2:=by
 unfold altX at h
 cases htk:tokW (qG t) with
 | none=>rw[htk] at h;cases h
 | some l =>
   rw[htk] at h
   simp only at h
   split at h
   ·cases h
   ·cases hd:dash l with
    | none =>
      rw[hd] at h
      simp only at h
      obtain⟨h1,h2⟩:=loopX_good l _ _ m (tok_sg _ l htk) (jn wv).2 h
      have:=(wdsR_len htk).1
      exact⟨h1,by simp at h2;omega⟩
    | some a =>
      rw[hd] at h
      simp only at h
      cases hp:rdOk a.1 with
      | none=>rw[hp] at h;simp at h
      | some p =>
        cases hq:rdOk a.2 with
        | none=>rw[hp,hq] at h;simp at h
        | some q =>
          rw[hp,hq] at h
          simp only[Option.some.injEq] at h
          obtain⟨_,_,p3,p4⟩:=yA hp
          obtain⟨_,_,q3,q4⟩:=yA hq
          rw[←h]
          unfold btwX
          split
          ·have:=jE (low_good p4) (high_good q4)
           exact⟨this.2,by simp only;omega⟩
          ·exact⟨(fun s hs=>by cases hs),by simp⟩
def RrI (parts:List (List UInt8)) (k:Nat) (hp:Hp) (nx:Nat) (v w:PV):Prop:=∃o ok,HasW hp nx v o∧goodR o∧o.length≤k*500∧w=int (if ok=true then 0 else 1)∧vB [] true parts=vB o ok (parts.drop k)
noncomputable abbrev Crrr:Ctx:=zF prog [(77,qT [] FSp),(78,zf false [] (FSP1 xy)),(79,wF [.a,.s 11 spat,.s 11 spat] FTog)]
theorem goodrrr:AM.Good Crrr (fun g=>([]:List Nat).contains g):=zm mixed ⟨je,by simp,ralt_sound,by simp,rtog_sound,by simp,trivial⟩
set_option maxHeartbeats 4000000 in
theorem rReadRange_eval (t:List UInt8) (ht:t.length+1≤lim):∃r0,zj Crrr f52 [str t]=some r0∧Stands r0 (rrP t):=by
 refine qe (sh:=.s 11 spat) rfl ?_
 have hrr:rrP t=.tup [.sl 11 (encR (jH t).1),int (jH t).2]:=by rw[rdRange_same];rfl
 rw[hrr]
 by_cases h400:(400:Int)<t.length
 ·have hv:jH t=([],2):=by unfold jH;rw[if_pos h400]
  simp[h400,hv,encR,zx,f52]
 have hsp:=fun hp nx=>yl t [124,124] hp nx (by omega) (by decide) (by decide)
 obtain⟨parts,hparts⟩:∃parts,zu t [124,124]=parts:=⟨_,rfl⟩
 have hpl:∀p∈parts,p.length≤400:=fun p hp=>by have:=wz (by rw[hparts];exact hp);omega
 have hpn:parts.length≤401:=by have:=wS (s:=t) (sep:=[124,124]) (by simp);rw[hparts] at this;omega
 have hval:jH t=match vB [] true parts with
  | none=>([],10)
  | some o=>if o.2=false then ([],1) else if (100:Int)<o.1.length then ([],2) else (o.1,0):=by unfold jH;rw[if_neg h400,hparts];rfl
 rw[hparts] at hsp
 simp[h400,hsp]
 refine zy (fun k σ hp nx=>σ 14=.own 0 0 parts.length∧σ 15=int parts.length∧σ 16=int k∧1≤nx∧hp 0=some (blkT parts)∧RrI parts k hp nx (σ 4) (σ 5)) parts.length
  ⟨by simp,by simp,by simp,by simp,by simp,[],true,.inl ⟨by simp,rfl⟩,(fun s hs=>by cases hs),by simp,by simp,by simp⟩ ?_
 rintro k σ hp nx hk ⟨h14,h15,h16,hnx,b0,o,ok,hM,hgo,hol,h5,hlo⟩
 by_cases hltk:k<parts.length
 ·have hwk:IntKind.i64.wrap ((k:Int)+1)=(k:Int)+1:=zh (by omega) (by omega)
  obtain⟨s,hs⟩:∃s,parts[k]=s:=⟨_,rfl⟩
  have hsl:s.length≤400:=hpl s (by rw[←hs];exact List.getElem_mem hltk)
  have halt:=fun hp nx=>yb xy s hp nx (by unfold lim;omega)
  have b0':hp 0=some ⟨9,1,true,parts.map fun p=>[str p]⟩:=b0
  rw[List.drop_eq_getElem_cons hltk,hs] at hlo
  simp only[vB] at hlo
  cases hal:altX s with
  | none =>
    rw[hal] at hlo
    simp only at hlo
    rw[hlo] at hval
    simp only at hval
    have hx:vZ s=([],10):=by unfold vZ;rw[hal]
    simp only[xy,hx] at halt
    simp[h14,h15,h16,hltk,b0',hs,halt,hval,encR,zx,f52]
  | some m =>
    rw[hal] at hlo
    simp only at hlo
    have hx:vZ s=(m.1,if m.2=true then 0 else 1):=by unfold vZ;rw[hal]
    obtain⟨g1,g2⟩:=altX_good hal
    have hlm:=vu or o m.1
    obtain⟨x,hp',nx',htog,hX,hnx',hfr⟩:=tog_call 0 or take0 hM (hgo.small (by unfold lim;omega)) (g1.small (by unfold lim;omega)) hgo g1
    have b0n:hp' 0=some (blkT parts):=by rw[hfr 0 (by omega) (hM.box b0' (by simp))];exact b0
    have hfin:∀n:Int,n=(if (ok&&m.2)=true then 0 else 1)→RrI parts (k+1) hp' nx' x (int n):=fun n hn=>⟨_,_,hX,wA or hgo g1,by omega,by rw[hn],hlo⟩
    simp only[xy,hx] at halt
    cases hb:m.2
    ·rw[hb] at halt hfin
     simp at halt
     simp[h14,h15,h16,hltk,b0',hs,halt,htog,hwk]
     exact⟨by omega,by omega,b0n,hfin 1 (by simp)⟩
    ·rw[hb] at halt hfin
     simp at halt
     simp[h14,h15,h16,hltk,b0',hs,halt,htog,hwk]
     exact⟨by omega,by omega,b0n,by rw[h5];exact hfin _ (by simp)⟩
 ·obtain rfl:k=parts.length:=by omega
  rw[List.drop_length] at hlo
  simp only[vB] at hlo
  rw[hlo] at hval
  simp only at hval
  cases ok
  ·simp at hval h5
   simp[h14,h15,h16,h5,hval,encR,zx,f52]
  ·simp at hval h5
   have hlen:=hM.len
   by_cases h100:(100:Int)<o.length
   ·have h100':100<o.length:=by omega
    rw[if_pos h100] at hval
    simp[h14,h15,h16,h5,hlen,h100,hval,encR,zx,f52]
   ·have h100':¬100<o.length:=by omega
    rw[if_neg h100] at hval
    rcases hM with⟨h4,rfl⟩ | ⟨id,xs,hid,h4,hb,hxs⟩
    ·simp[h14,h15,h16,h5,h4,hval,encR,zx,f52]
    ·rw[h4] at hlen
     have hxl:xs.length=o.length:=by have:=congrArg List.length hxs;simpa[encR] using this
     have h101:¬(100:Int)<xs.length:=by omega
     simp[h14,h15,h16,h5,h4,h101,hb,hxs,hval,zx,f52]
theorem rReadRange_sound:za prog 52 (zf false [] (FSP1 rrP)) :=
 xN (fn:=f52) goodrrr ⟨_,func52,by kernel_rfl,rfl,by kernel_rfl⟩ false [] _ fun args r h w S vs hz=>by
  obtain⟨l,rfl,hp,rfl⟩:=ze h
  obtain⟨r0,h1,h2⟩:=rReadRange_eval l hp
  exact⟨_,r0,hz,by simp[f52],h1,h2⟩
theorem rofN_sound:za prog 48 (zf false [] (FIb yt)) :=
 zO (fn:=f48) wT ⟨_,func48,by kernel_rfl,rfl,by kernel_rfl⟩ false [] _ fun args r h=>by
  obtain⟨a,rfl,rfl⟩:=FIb_inv h
  refine⟨by simp[f48],_,zb rfl ?_,zM _⟩
  by_cases h1:3≤a<;>simp[h1,yt,inB,qi,f48]
theorem rwithP_sound:za prog 20 (zf false [] (FIb js)) :=
 zO (fn:=f20) wT ⟨_,func20,by kernel_rfl,rfl,by kernel_rfl⟩ false [] _ fun args r h=>by
  obtain⟨a,rfl,rfl⟩:=FIb_inv h
  refine⟨by simp[f20],_,zb rfl ?_,zM _⟩
  by_cases h1:7≤a<;>simp[h1,js,inB,qi,f20]
noncomputable abbrev Crwv:Ctx:=zF prog [(48,zf false [] (FIb yt))]
theorem goodrwv:AM.Good Crwv (fun g=>([]:List Nat).contains g):=zm mixed ⟨rofN_sound,by simp,trivial⟩
theorem usesV_or (a:Int):kN a=(a==2||yt a||a==12):=by
 unfold kN yt inB
 by_cases h:a=2
 ·subst h;decide
 ·have h2:(a==2)=false:=by simpa using h
  rw[h2]
  congr 1
  rw[Bool.eq_iff_iff]
  simp
  omega
theorem rwithV_sound:za prog 47 (zf false [] (FIb kN)) :=
 zO (fn:=f47) goodrwv ⟨_,func47,by kernel_rfl,rfl,by kernel_rfl⟩ false [] _ fun args r h=>by
  obtain⟨a,rfl,rfl⟩:=FIb_inv h
  refine⟨by simp[f47],_,zb rfl ?_,zM _⟩
  rw[usesV_or]
  cases h1:a==2<;>cases h2:yt a<;>simp[h1,h2,qi,f47]
noncomputable def FCL (n:Nat):List PV→Option PV:=zH (α:=Cnd×Int) (fun a=>[.agg a.1.enc,int a.2]) (fun a=>a.1.cb≤lim∧a.1.cb≤n∧0≤a.2∧a.2+a.1.cb≤2097152) (fun a=>.tup [int (a.1.rp a.2).1,boo (a.1.rp a.2).2])
theorem FCL_call (n:Nat) (c:Cnd) (l:Int) (hp:Hp) (nx:Nat) (h:c.cb≤lim∧c.cb≤n∧0≤l∧l+c.cb≤2097152):zf false [] (FCL n) [.agg c.enc,int l] hp nx=some (.tup [int (c.rp l).1,boo (c.rp l).2],hp,nx) :=
 zK (hp1:=hp) (show zi hp [.agg c.enc,int l]=some ([.agg c.enc,int l],hp) by simp only[zi,kA];rfl) (zn (enc:=fun a:Cnd×Int=>[.agg a.1.enc,int a.2]) (a:=(c,l)) (fun x y e=>by
  obtain⟨x1,x2⟩:=x;obtain⟨y1,y2⟩:=y
  simp only[List.cons.injEq,and_true,PV.agg.injEq] at e
  rw[xX e.1,zG e.2]) h) (.inl rfl)
noncomputable abbrev Crpa (n:Nat):Ctx:=zF prog [(30,zf false [] (FCL n))]
def PaI (c:Cnd) (l:Int) (k:Nat) (v w:PV):Prop:=∃s:Int×Bool,v=int s.1∧w=boo s.2∧0≤s.1∧s.1+partsC (c.args.drop k)≤1048577∧c.rp l=rpC (c.args.drop k) l s
theorem cutC_def (s:Int×Bool):(s.2||decide (200<s.1))=cutC s:=rfl
theorem rcparts_eval (n:Nat) (c:Cnd) (l:Int) (h:c.cb≤lim∧c.cb≤n+1∧0≤l∧l+c.cb≤2097152):zj (Crpa n) f30 [.agg c.enc,int l]=some (.tup [int (c.rp l).1,boo (c.rp l).2]):=by
 have hcb:=cb_eq c
 have hpe:=crp_eq c l
 have hl1:=yo c.args
 have hpp:=partsC_le' c.args fun x hx=>cparts_le x
 obtain⟨ha,hb,hl0,hlc⟩:=h
 unfold lim at ha
 refine zb rfl ?_
 simp
 refine zy (fun k σ hp nx=>σ 1=int l∧σ 15=.sl 7 (c.args.map Cnd.enc)∧σ 16=int c.args.length∧σ 17=int k∧PaI c l k (σ 6) (σ 7)) c.args.length
  ⟨by simp,by simp,by simp,by simp,(1,decide (20<l)),by simp,by simp,by simp,by rw[List.drop_zero];simp only;omega,by rw[hpe,List.drop_zero]⟩ ?_
 rintro k σ hp nx hk ⟨h1,h15,h16,h17,s,h6,h7,hs0,hs1,he⟩
 by_cases hlt:k<c.args.length
 ·have hm:=vk (List.getElem_mem hlt)
  have hw:IntKind.i64.wrap ((k:Int)+1)=(k:Int)+1:=zh (by omega) (by omega)
  have hwl:IntKind.i64.wrap (l+1)=l+1:=zh (by omega) (by omega)
  have hdr:partsC (c.args.drop k)=c.args[k].parts+partsC (c.args.drop (k+1)):=by rw[List.drop_eq_getElem_cons hlt,partsC]
  have hcd:=cutC_def s
  cases hc:cutC s
  ·rw[hc] at hcd
   have hcd':=hcd
   rw[Bool.or_eq_false_iff] at hcd'
   obtain⟨d1,d2⟩:=hcd'
   have d2':¬200<s.1:=by simpa using d2
   obtain⟨g1,g2,_,_⟩:=crp_spec c.args[k] (l+1)
   have hcall:=fun hp nx=>FCL_call n c.args[k] (l+1) hp nx ⟨by unfold lim;omega,by omega,by omega,by omega⟩
   rw[rpC_drop hlt] at he
   have hst:stepC s (c.args[k].rp (l+1))=(s.1+(c.args[k].rp (l+1)).1,s.2||(c.args[k].rp (l+1)).2):=by unfold stepC;rw[hc];rfl
   rw[hst] at he
   have hws:IntKind.i64.wrap (s.1+(c.args[k].rp (l+1)).1)=s.1+(c.args[k].rp (l+1)).1:=zh (by omega) (by omega)
   simp[h1,h15,h16,h17,h6,h7,d1,d2',hlt,hcall,hw,hwl,hws]
   exact⟨by omega,(s.1+(c.args[k].rp (l+1)).1,s.2||(c.args[k].rp (l+1)).2),rfl,by simp[d1],by simp only;omega,by simp only;omega,he⟩
  ·rw[hc] at hcd
   rw[rpC_stop hc] at he
   cases hd:s.2
   ·rw[hd] at hcd
    simp at hcd
    simp[h1,h15,h16,h17,h6,h7,hd,hcd,hlt,he,qi,f30]
   ·simp[h1,h15,h16,h17,h6,h7,hd,hlt,he,qi,f30]
 ·obtain rfl:k=c.args.length:=by omega
  rw[List.drop_length] at he
  simp only[rpC] at he
  simp[h1,h15,h16,h17,h6,h7,he,qi,f30]
set_option maxRecDepth 100000 in
theorem rcparts_sound:∀n,za prog 30 (zf false [] (FCL n)):=by
 intro n
 induction n with
 | zero =>
   exact spec_none ⟨_,func30,by kernel_rfl,by kernel_rfl⟩ fun args r h=>by
    obtain⟨⟨c,l⟩,_,⟨_,h2,_⟩,_⟩:=ze h
    have:=cb_pos c
    simp only at h2
    omega
 | succ n ih =>
   have hg:AM.Good (Crpa n) (fun g=>([]:List Nat).contains g):=zm mixed ⟨ih,by simp,trivial⟩
   exact zO (fn:=f30) hg ⟨_,func30,by kernel_rfl,rfl,by kernel_rfl⟩ false [] _ fun args r h=>by
    obtain⟨⟨c,l⟩,rfl,hc,rfl⟩:=ze h
    exact⟨Nat.le_trans (Nat.le_refl 2) (by decide),_,rcparts_eval n c l hc,zM _⟩
noncomputable abbrev Crla:Ctx:=zF prog [(30,zf false [] (FCL lim))]
theorem rlarge_sound:za prog 14 (GC fun c=>boo (cutC (c.rp 1))) :=
 zO (fn:=f14) (zm (q:=[]) mixed ⟨rcparts_sound lim,by simp,trivial⟩:AM.Good Crla _) ⟨_,func14,by kernel_rfl,rfl,by kernel_rfl⟩ false [] _ fun args r h=>by
  obtain⟨c,rfl,hc,rfl⟩:=j5 h
  have hc1:=hc.1
  unfold lim at hc1
  have h1:=fun hp nx=>FCL_call lim c 1 hp nx ⟨hc.1,hc.1,by omega,by omega⟩
  refine⟨Nat.le_trans (Nat.le_refl 1) (by decide),_,zb rfl ?_,zM _⟩
  unfold cutC
  cases hd:(c.rp 1).2
  ·simp[h1,hd,qi,f14]
  ·simp[h1,hd,qi,f14]
def f1R (c:Cnd):Bool:=(!(c.kind==4)&&(!c.attr.isEmpty||c.op != 0))||(c.kind != 5&&!c.name.isEmpty)
def f2R (c:Cnd):Bool:=(!((c.kind==4)&&kN c.op)&&decide (0<c.vals.length))||(!((c.kind==4)&&js c.op)&&!c.pat.isEmpty)
noncomputable abbrev Crfo:Ctx:=zF prog [(47,zf false [] (FIb kN)),(20,zf false [] (FIb js)),(48,zf false [] (FIb yt))]
theorem goodrfo:AM.Good Crfo (fun g=>([]:List Nat).contains g):=zm mixed ⟨rwithV_sound,by simp,rwithP_sound,by simp,rofN_sound,by simp,trivial⟩
set_option maxHeartbeats 4000000 in
theorem rformed_eval (c:Cnd) (h:c.cb≤lim):zj Crfo f31 [.agg c.enc]=some (boo (formR c)):=by
 refine zb rfl ?_
 have hf:formR c=(!f1R c&&!f2R c&&(if c.kind=3 then (c.args.length:Int)==1 else if c.kind=4∨c.kind=5 then ((c.args.length:Int)==0&&(!yt c.op||(c.vals.length:Int)==1)) else true)):=rfl
 refine qR (fun st=>st.σ 1=.ref 0 0 0∧st.hp 0=some ⟨25,7,false,[c.enc]⟩) (by simp) ?_
 rintro⟨σ,hp,nx⟩ ⟨h1,b0⟩
 simp only at h1 b0
 refine qR (fun st=>st.σ 1=.ref 0 0 0∧st.hp 0=some ⟨25,7,false,[c.enc]⟩∧st.σ 3=boo (c.kind==4)) (by simp[h1,b0]) ?_
 clear h1 b0 σ hp nx
 rintro⟨σ,hp,nx⟩ ⟨h1,b0,h3⟩
 simp only at h1 b0 h3
 refine qR (fun st=>st.σ 1=.ref 0 0 0∧st.hp 0=some ⟨25,7,false,[c.enc]⟩∧st.σ 3=boo (c.kind==4)∧f1R c=false) ?_ ?_
 ·by_cases k4:c.kind=4
  ·have k5:(c.kind==5)=false:=by rw[k4];rfl
   have k4':(c.kind==4)=true:=by rw[k4];rfl
   cases hn:c.name.isEmpty
   ·have hv:f1R c=true:=by simp[f1R,k4,hn]
    rw[hv] at hf
    simp[h1,b0,h3,k4,hn,hf,qi,f31]
   ·have hv:f1R c=false:=by simp[f1R,k4,hn]
    simp[h1,b0,h3,k4,hn,hv]
  ·have k4':(c.kind==4)=false:=by simpa using k4
   cases hx:(!c.attr.isEmpty||c.op != 0)
   ·have hx':=hx
    rw[Bool.or_eq_false_iff] at hx'
    obtain⟨x1,x2⟩:=hx'
    simp at x1 x2
    by_cases k5:c.kind=5
    ·have hv:f1R c=false:=by simp[f1R,k5,hx]
     simp[h1,b0,h3,k5,x1,x2,hv]
    ·have k5':(c.kind==5)=false:=by simpa using k5
     have k5n:(c.kind != 5)=true:=by simp[bne,k5']
     cases hn:c.name.isEmpty
     ·have hv:f1R c=true:=by simp[f1R,k5,hn]
      rw[hv] at hf
      simp[h1,b0,h3,k4,k4',k5n,x1,x2,hn,hf,qi,f31]
     ·have hv:f1R c=false:=by simp[f1R,hx,hn]
      simp[h1,b0,h3,k4,k4',k5n,x1,x2,hn,hv]
   ·have hv:f1R c=true:=by simp[f1R,k4,hx]
    rw[hv] at hf
    cases ha:c.attr.isEmpty
    ·simp[h1,b0,h3,k4,k4',ha,hf,qi,f31]
    ·rw[ha] at hx
     have hx':(c.op==0)=false:=by simpa using hx
     have hx2:(c.op != 0)=true:=by simpa using hx
     simp[h1,b0,h3,k4,k4',ha,hx',hx2,hf,qi,f31]
 clear h1 b0 h3 σ hp nx
 rintro⟨σ,hp,nx⟩ ⟨h1,b0,h3,hv1⟩
 simp only at h1 b0 h3
 rw[hv1] at hf
 refine qR (fun st=>st.σ 1=.ref 0 0 0∧st.hp 0=some ⟨25,7,false,[c.enc]⟩∧f2R c=false) ?_ ?_
 ·have hkey:∀a b:Bool,((c.kind==4)&&kN c.op)=a→((c.kind==4)&&js c.op)=b→f2R c=((!a&&decide (0<c.vals.length))||(!b&&!c.pat.isEmpty)):=fun a b e1 e2=>by unfold f2R;rw[e1,e2]
  by_cases k4:c.kind=4
  ·have k4':(c.kind==4)=true:=by rw[k4];rfl
   cases u1:kN c.op<;>cases u2:js c.op<;>cases hp1:c.pat.isEmpty<;>by_cases hl:0<c.vals.length <;>
    (have hv:=hkey _ _ rfl rfl;rw[k4',u1,u2,hp1] at hv;simp[hl] at hv;simp[h1,b0,h3,k4,u1,u2,hp1,hl,hv,hf,qi,f31])
  ·have k4':(c.kind==4)=false:=by simpa using k4
   cases hp1:c.pat.isEmpty<;>by_cases hl:0<c.vals.length <;>
    (have hv:=hkey _ _ rfl rfl;rw[k4',hp1] at hv;simp[hl] at hv;simp[h1,b0,h3,k4,k4',hp1,hl,hv,hf,qi,f31])
 clear h1 b0 h3 σ hp nx
 rintro⟨σ,hp,nx⟩ ⟨h1,b0,hv2⟩
 simp only at h1 b0
 rw[hv2] at hf
 simp only[Bool.not_false,Bool.true_and] at hf
 by_cases k3:c.kind=3
 ·rw[if_pos k3] at hf
  simp[h1,b0,k3,hf,qi,f31]
 have k3':(c.kind==3)=false:=by simpa using k3
 rw[if_neg k3] at hf
 by_cases k45:c.kind=4∨c.kind=5
 ·rw[if_pos k45] at hf
  cases ha:((c.args.length:Int)==0)<;>cases ho:yt c.op<;>rcases k45 with k | k <;>
   simp[h1,b0,k,ha,ho,hf,qi,f31]
 ·rw[if_neg k45] at hf
  have k4':(c.kind==4)=false:=by simp;omega
  have k5':(c.kind==5)=false:=by simp;omega
  simp[h1,b0,k3',k4',k5',hf,qi,f31]
theorem rformed_sound:za prog 31 (GC fun c=>boo (formR c)) :=
 zO (fn:=f31) goodrfo ⟨_,func31,by kernel_rfl,rfl,by kernel_rfl⟩ false [] _ fun args r h=>by
  obtain⟨c,rfl,hc,rfl⟩:=j5 h
  exact⟨by simp[f31],_,rformed_eval c hc.1,zM _⟩
noncomputable abbrev Crcvq:Ctx:=zF prog [(50,GV fun v=>int v.check),(48,zf false [] (FIb yt)),(51,zf false [] (FCV lim))]
theorem goodrcvq:AM.Good Crcvq (fun g=>[51].contains g):=zm mixed ⟨rcheck_sound,by simp,rofN_sound,by simp,rcompare_sound lim,fun _=>zg _ _,trivial⟩
set_option maxHeartbeats 1000000 in
theorem rcheckValues_eval (c:Cnd) (h:c.cb≤lim):zj Crcvq f33 [.agg c.enc]=some (int (yG c.op c.vals)):=by
 have hcb:=cb_eq c
 obtain⟨l,hl⟩:∃l,c.vals=l:=⟨_,rfl⟩
 obtain⟨op,ho⟩:∃op,c.op=op:=⟨_,rfl⟩
 have hlen:=qp l
 rw[hl] at hcb
 rw[hl,ho]
 unfold lim at h
 refine zb rfl ?_
 by_cases h100:(100:Int)<l.length
 ·have hv:yG op l=2:=by unfold yG;rw[if_pos h100]
  simp[hl,h100,hv,f33]
 have hv:yG op l=valF op none l:=by unfold yG;rw[if_neg h100]
 rw[hv]
 simp[hl,h100]
 refine zy (fun k σ hp nx=>σ 1=.ref 0 0 0∧σ 11=.sl 5 (l.map Val.enc)∧σ 12=int l.length∧σ 13=int k∧1≤nx∧hp 0=some ⟨25,7,false,[c.enc]⟩∧valF op none l=valF op (kO l k) (l.drop k)) l.length
  ⟨by simp,by simp,by simp,by simp,by simp,by simp,by simp[kO]⟩ ?_
 rintro k σ hp nx hk ⟨h1,h11,h12,h13,hnx,b0,he⟩
 have n0:¬0=nx:=by omega
 by_cases hlt:k<l.length
 ·have hm:=q8 (List.getElem_mem hlt)
  have hw:IntKind.i64.wrap ((k:Int)+1)=(k:Int)+1:=zh (by omega) (by omega)
  have hck:=fun hp nx=>vi (fun v=>int v.check) l[k] hp nx (by unfold lim;omega)
  rw[List.drop_eq_getElem_cons hlt] at he
  simp only[valF] at he
  have hpn:kO l (k+1)=some l[k]:=by simp[kO,hlt]
  have hty0:typeF op l[k]=(l[k].kind==0||yt op&&l[k].kind != 2):=rfl
  by_cases hz:l[k].check=0
  case neg =>
   rw[if_neg hz] at he
   have hz2:(l[k].check != 0)=true:=by simpa using hz
   simp[hl,ho,h1,b0,n0,h11,h12,h13,hlt,hck,hz2,he,f33]
  rw[if_pos hz] at he
  cases hty:typeF op l[k]
  case true =>
   rw[hty,if_pos rfl] at he
   rw[hty] at hty0
   by_cases k0:l[k].kind=0
   ·simp[hl,ho,h1,b0,n0,h11,h12,h13,hlt,hck,hz,k0,he,f33]
   ·have k0':(l[k].kind==0)=false:=by simpa using k0
    rw[k0',Bool.false_or] at hty0
    have hty0':=hty0.symm
    rw[Bool.and_eq_true] at hty0'
    simp[hl,ho,h1,b0,n0,h11,h12,h13,hlt,hck,hz,k0',hty0'.1,hty0'.2,he,f33]
  rw[hty,if_neg (by simp)] at he
  rw[hty] at hty0
  have hty1:=hty0.symm
  rw[Bool.or_eq_false_iff] at hty1
  obtain⟨t1,t2⟩:=hty1
  have t3:yt op=false∨(l[k].kind != 2)=false:=by
   cases hi:yt op
   ·exact .inl rfl
   ·rw[hi,Bool.true_and] at t2;exact .inr t2
  by_cases k0:k=0
  ·subst k0
   have hp0:cPrevV (kO l 0) l[0]=false:=rfl
   rw[hp0,if_neg (by simp)] at he
   have hfin:valF op none l=valF op (kO l 1) l.tail:=by rw[he,show kO l 1=some l[0] from hpn];simp
   cases hi:yt op
   ·simp[hl,ho,h1,b0,n0,h11,h12,h13,hlt,hck,hz,t1,hi,hw]
    exact⟨by omega,hfin⟩
   ·have t4:(l[0].kind != 2)=false:=t3.resolve_left (by rw[hi];simp)
    simp[hl,ho,h1,b0,n0,h11,h12,h13,hlt,hck,hz,t1,hi,t4,hw]
    exact⟨by omega,hfin⟩
  ·obtain⟨j,rfl⟩:∃j,k=j+1:=⟨k - 1,by omega⟩
   have hj:j<l.length:=by omega
   have hmj:=q8 (List.getElem_mem hj)
   have wj:IntKind.i64.wrap ((j:Int)+1 - 1)=(j:Int):=by rw[zh (by omega) (by omega)];omega
   have wj':IntKind.i64.wrap (j:Int)=(j:Int):=zh (by omega) (by omega)
   have j1:((j:Int)+1).toNat=j+1:=by omega
   have j2:0<(j:Int)+1:=by omega
   have j3:0≤(j:Int)+1:=by omega
   have j4:(j:Int)+1<l.length:=by omega
   have hcm:=fun hp nx=>vO lim l[j+1] l[j] hp nx ⟨by unfold lim;omega,by unfold lim;omega,by unfold lim;omega⟩
   have hpv:cPrevV (kO l (j+1)) l[j+1]=decide (z8 l[j+1] l[j]≤0):=by
    simp only[kO,cPrevV]
    simp[hj,cmpVal_turn]
   rw[hpv] at he
   by_cases hc:z8 l[j+1] l[j]≤0
   ·have hc':decide (z8 l[j+1] l[j]≤0)=true:=by simpa using hc
    rw[if_pos hc'] at he
    cases hi:yt op
    ·simp[hl,ho,h1,b0,n0,h11,h12,h13,hlt,hj,hck,hz,t1,hi,hw,wj,wj',j1,j2,j3,j4,hcm,hc,he,f33]
    ·have t4:(l[j+1].kind != 2)=false:=t3.resolve_left (by rw[hi];simp)
     simp[hl,ho,h1,b0,n0,h11,h12,h13,hlt,hj,hck,hz,t1,hi,t4,hw,wj,wj',j1,j2,j3,j4,hcm,hc,he,f33]
   ·have hc':¬decide (z8 l[j+1] l[j]≤0)=true:=by simpa using hc
    rw[if_neg hc'] at he
    have wk:IntKind.i64.wrap ((j:Int)+1+1)=(j:Int)+1+1:=zh (by omega) (by omega)
    have hfin:valF op none l=valF op (kO l (j+1+1)) (l.drop (j+1+1)):=by rw[he,hpn]
    cases hi:yt op
    ·simp[hl,ho,h1,b0,n0,h11,h12,h13,hlt,hj,hck,hz,t1,hi,wk,wj,wj',j1,j2,j3,j4,hcm,hc]
     exact⟨by omega,hfin⟩
    ·have t4:(l[j+1].kind != 2)=false:=t3.resolve_left (by rw[hi];simp)
     simp[hl,ho,h1,b0,n0,h11,h12,h13,hlt,hj,hck,hz,t1,hi,t4,wk,wj,wj',j1,j2,j3,j4,hcm,hc]
     exact⟨by omega,hfin⟩
 ·obtain rfl:k=l.length:=by omega
  rw[List.drop_length] at he
  simp only[valF] at he
  simp[h1,h11,h12,h13,he,f33]
theorem rcheckValues_sound:za prog 33 (GC fun c=>int (yG c.op c.vals)) :=
 zO (fn:=f33) goodrcvq ⟨_,func33,by kernel_rfl,rfl,by kernel_rfl⟩ false [] _ fun args r h=>by
  obtain⟨c,rfl,hc,rfl⟩:=j5 h
  exact⟨Nat.le_trans (Nat.le_refl 1) (by decide),_,rcheckValues_eval c hc.1,zM _⟩
noncomputable abbrev Crptq:Ctx:=zF prog [(52,zf false [] (FSP1 rrP))]
theorem goodrptq:AM.Good Crptq (fun g=>([]:List Nat).contains g):=zm mixed ⟨rReadRange_sound,by simp,trivial⟩
theorem rcheckPattern_eval (c:Cnd) (h:c.cb≤lim):zj Crptq f34 [.agg c.enc]=some (int (patF c.op c.pat)):=by
 have hcb:=cb_eq c
 obtain⟨s,hs⟩:∃s,c.pat=s:=⟨_,rfl⟩
 obtain⟨op,ho⟩:∃op,c.op=op:=⟨_,rfl⟩
 rw[hs] at hcb
 rw[hs,ho]
 unfold lim at h
 refine zb rfl ?_
 by_cases h500:(500:Int)<s.length
 ·have hv:patF op s=2:=by unfold patF;rw[if_pos h500]
  simp[hs,h500,hv,f34]
 have hrr:=fun hp nx=>yb rrP s hp nx (by unfold lim;omega)
 simp only[rrP] at hrr
 have hv:patF op s=if zW 32 126 s=true then (if op=11 then (jo s).2 else 0) else 1:=by unfold patF;rw[if_neg h500]
 simp[hs,h500]
 refine zy (fun k σ hp nx=>σ 1=.ref 0 0 0∧σ 12=int s.length∧σ 13=int k∧hp 0=some ⟨25,7,false,[c.enc]⟩∧zW 32 126 s=zW 32 126 (s.drop k)) s.length ⟨by simp,by simp,by simp,by simp,by simp⟩ ?_
 rintro k σ hp nx hk ⟨h1,h12,h13,b0,he⟩
 by_cases hlt:k<s.length
 ·have hw:IntKind.i64.wrap ((k:Int)+1)=(k:Int)+1:=zh (by omega) (by omega)
  rw[jz hlt] at he
  have ho':=pr_out 32 126 s[k]
  simp only[Int.cast_ofNat_Int] at ho'
  cases hc:pr 32 126 s[k]
  ·have he:zW 32 126 s=false:=by rw[he,hc];rfl
   rw[he,if_neg (by simp)] at hv
   simp[h1,b0,hs,h12,h13,hlt,hv,ho',hc,f34]
  ·simp[h1,b0,hs,h12,h13,hlt,ho',hc,hw]
   exact⟨hlt,by rw[he,hc];rfl⟩
 ·obtain rfl:k=s.length:=by omega
  have he:zW 32 126 s=true:=by rw[he,List.drop_length];rfl
  rw[he,if_pos rfl] at hv
  by_cases h11:op=11
  ·rw[if_pos h11] at hv
   subst h11
   simp[h1,b0,hs,ho,h12,h13,hrr,hv,f34]
  ·rw[if_neg h11] at hv
   have h11':(op==11)=false:=by simpa using h11
   simp[h1,b0,hs,ho,h12,h13,h11',hv,f34]
theorem rcheckPattern_sound:za prog 34 (GC fun c=>int (patF c.op c.pat)) :=
 zO (fn:=f34) goodrptq ⟨_,func34,by kernel_rfl,rfl,by kernel_rfl⟩ false [] _ fun args r h=>by
  obtain⟨c,rfl,hc,rfl⟩:=j5 h
  exact⟨Nat.le_trans (Nat.le_refl 1) (by decide),_,rcheckPattern_eval c hc.1,zM _⟩
theorem pat_idle {c:Cnd} (h1:jp c=false) (h2:patC c=false):patF c.op c.pat=0:=by
 have hz:∀op,op≠11→patF op []=0:=fun op h=>by simp[patF,h]
 have hw:w1F c=false∧w5F c=false:=by
  unfold jp at h1
  simp only[Bool.or_eq_false_iff] at h1
  exact⟨h1.1.1.1.1.1.1,h1.1.1.2⟩
 obtain⟨w1,w5⟩:=hw
 unfold patC at h2
 cases hk:c.kind==4
 ·simp only[w1F,hk,Bool.not_false,Bool.true_and,Bool.or_eq_false_iff] at w1
  obtain⟨⟨⟨_,x2⟩,_⟩,x4⟩:=w1
  have e1:c.op=0:=by simpa using x2
  have e2:c.pat=[]:=by simpa using x4
  rw[e1,e2]
  exact hz 0 (by decide)
 ·rw[hk,Bool.true_and] at h2
  simp only[w5F,hk,h2,Bool.true_and,Bool.not_false] at w5
  have e2:c.pat=[]:=by simpa using w5
  rw[e2]
  refine hz _ fun e=>?_
  rw[e] at h2
  revert h2
  decide
noncomputable abbrev Crcpq (n:Nat):Ctx:=zF prog [(15,zf false [] (FC (fun c=>int c.fault) n)),(31,GC fun c=>boo (formR c)),(32,zf false [] (FS qK)),(33,GC fun c=>int (yG c.op c.vals)),(34,GC fun c=>int (patF c.op c.pat))]
set_option maxHeartbeats 2000000 in
theorem rcheckParts_eval (n:Nat) (c:Cnd) (h:c.cb≤lim∧c.cb≤n+1):zj (Crcpq n) f15 [.agg c.enc]=some (int c.fault):=by
 have hcb:=cb_eq c
 have hl1:=yo c.args
 obtain⟨ha,hb⟩:=h
 have hf:=cfault_eq c
 have hfo:=fun hp nx=>yC (fun c=>boo (formR c)) c hp nx ha
 have hva:=fun hp nx=>yC (fun c=>int (yG c.op c.vals)) c hp nx ha
 have hpa:=fun hp nx=>yC (fun c=>int (patF c.op c.pat)) c hp nx ha
 have hna:c.attr.length≤lim:=by omega
 have hnn:c.name.length≤lim:=by omega
 unfold lim at ha
 refine zb rfl ?_
 refine qR (fun st=>st.σ 1=.ref 0 0 0∧st.hp 0=some ⟨25,7,false,[c.enc]⟩∧st.nx=1) (by simp) ?_
 rintro⟨σ,hp,nx⟩ ⟨h1,b0,hnx⟩
 simp only at h1 b0 hnx
 subst hnx
 have hk0:kindC c=!inB c.kind 1 5:=rfl
 refine qR (fun st=>st.σ 1=.ref 0 0 0∧st.hp 0=some ⟨25,7,false,[c.enc]⟩∧st.nx=1∧kindC c=false∧opC c=false∧jp c=false∧nameC c=false) ?_ ?_
 ·by_cases k1:c.kind<1
  ·have hv:kindC c=true:=by rw[hk0];simp[inB];omega
   simp[h1,b0,k1,hf,wU,hv,f15]
  by_cases k5:5<c.kind
  ·have hv:kindC c=true:=by rw[hk0];simp[inB];omega
   simp[h1,b0,k1,k5,hf,wU,hv,f15]
  have hv1:kindC c=false:=by rw[hk0];simp[inB];omega
  have hform:=form_same c (by simp[inB];omega)
  rw[hform] at hfo
  by_cases k4:c.kind=4
  ·have hop:opC c=!inB c.op 1 12:=by unfold opC;rw[k4];rfl
   have hnm:nameC c=!qK c.attr:=by unfold nameC;rw[k4];simp
   by_cases o1:c.op<1
   ·have hv:opC c=true:=by rw[hop];simp[inB];omega
    simp[h1,b0,k4,o1,hf,wU,hv,f15]
   by_cases o2:12<c.op
   ·have hv:opC c=true:=by rw[hop];simp[inB];omega
    simp[h1,b0,k4,o1,o2,hf,wU,hv,f15]
   have hv2:opC c=false:=by rw[hop];simp[inB];omega
   cases hff:jp c
   case true=>simp[h1,b0,k4,o1,o2,hfo,hff,hf,wU,hv1,hv2,f15]
   cases hn:qK c.attr
   ·rw[hn] at hnm
    simp[h1,b0,k4,o1,o2,hfo,hff,hna,hn,hf,wU,hv1,hv2,hnm,f15]
   ·rw[hn] at hnm
    simp[h1,b0,k4,o1,o2,hfo,hff,hna,hn,hv1,hv2,hnm]
  have k4':(c.kind==4)=false:=by simpa using k4
  have hv2:opC c=false:=by unfold opC;rw[k4'];rfl
  cases hff:jp c
  case true=>simp[h1,b0,k1,k5,k4',hfo,hff,hf,wU,hv1,hv2,f15]
  by_cases k55:c.kind=5
  ·have hnm:nameC c=!qK c.name:=by unfold nameC;rw[k55];simp
   cases hn:qK c.name
   ·rw[hn] at hnm
    simp[h1,b0,k55,hfo,hff,hnn,hn,hf,wU,hv1,hv2,hnm,f15]
   ·rw[hn] at hnm
    simp[h1,b0,k55,hfo,hff,hnn,hn,hv1,hv2,hnm]
  ·have k55':(c.kind==5)=false:=by simpa using k55
   have hnm:nameC c=false:=by unfold nameC;rw[k4',k55'];rfl
   simp[h1,b0,k1,k5,k4',k55',hfo,hff,hv1,hv2,hnm]
 clear h1 b0 σ hp hfo
 rintro⟨σ,hp,nx⟩ ⟨h1,b0,hnx,c1,c2,c3,c4⟩
 simp only at h1 b0 hnx
 subst hnx
 by_cases c5:yG c.op c.vals=0
 case neg =>
  have c5':(yG c.op c.vals != 0)=true:=by simpa using c5
  simp[h1,b0,hva,c5,c5',hf,wU,c1,c2,c3,c4,f15]
 by_cases c7:patF c.op c.pat=0
 case neg =>
  have c7':(patF c.op c.pat != 0)=true:=by simpa using c7
  have c6:patC c=true:=by cases hx:patC c;exact absurd (pat_idle c3 hx) c7;rfl
  simp[h1,b0,hva,hpa,c5,c7,c7',hf,wU,c1,c2,c3,c4,c6,f15]
 have hh:wU c=0:=by simp[wU,c1,c2,c3,c4,c5,c7]
 have hf':c.fault=faultC c.args:=by rw[hf,if_pos hh]
 simp[h1,b0,hva,hpa,c5,c7]
 refine zy (fun k σ hp nx=>σ 64=.sl 7 (c.args.map Cnd.enc)∧σ 65=int c.args.length∧σ 66=int k∧faultC c.args=faultC (c.args.drop k)) c.args.length ⟨by simp,by simp,by simp,by simp⟩ ?_
 clear h1 b0 σ hp
 rintro k σ hp nx hk ⟨h73,h74,h75,he⟩
 by_cases hlt:k<c.args.length
 ·have hm:=vk (List.getElem_mem hlt)
  have hw:IntKind.i64.wrap ((k:Int)+1)=(k:Int)+1:=zh (by omega) (by omega)
  have hcall:=fun hp nx=>FC_call (fun c=>int c.fault) n c.args[k] hp nx ⟨by unfold lim;omega,by omega⟩
  rw[xt hlt] at he
  by_cases hz:c.args[k].fault=0
  ·rw[if_pos hz] at he
   simp[h73,h74,h75,hlt,hcall,hz,hw]
   exact⟨by omega,he⟩
  ·rw[if_neg hz] at he
   have hz2:(c.args[k].fault != 0)=true:=by simpa using hz
   simp[h73,h74,h75,hlt,hcall,hz2,hf',he,f15]
 ·obtain rfl:k=c.args.length:=by omega
  rw[List.drop_length] at he
  have he:faultC c.args=0:=by rw[he];rfl
  simp[h73,h74,h75,hf',he,f15]
set_option maxRecDepth 100000 in
theorem rcheckParts_sound:∀n,za prog 15 (zf false [] (FC (fun c=>int c.fault) n)):=by
 intro n
 induction n with
 | zero=>exact FC_zero ⟨_,func15,by kernel_rfl,by kernel_rfl⟩
 | succ n ih =>
   have hg:AM.Good (Crcpq n) (fun g=>([]:List Nat).contains g):=zm mixed ⟨ih,by simp,rformed_sound,by simp,rIsName_sound,by simp,rcheckValues_sound,by simp,rcheckPattern_sound,by simp,trivial⟩
   exact zO (fn:=f15) hg ⟨_,func15,by kernel_rfl,rfl,by kernel_rfl⟩ false [] _ fun args r h=>by
    obtain⟨c,rfl,hc,rfl⟩:=j5 h
    exact⟨Nat.le_trans (Nat.le_refl 1) (by decide),_,rcheckParts_eval n c hc,zM _⟩
noncomputable abbrev Crccq:Ctx:=zF prog [(15,GC fun c=>int c.fault),(14,GC fun c=>boo (cutC (c.rp 1)))]
theorem rccheck_sound:za prog 7 (GC fun c=>int c.check) :=
 zO (fn:=Tryz.f7) (zm (q:=[]) mixed ⟨rcheckParts_sound lim,by simp,rlarge_sound,by simp,trivial⟩:AM.Good Crccq _) ⟨_,func7,by kernel_rfl,rfl,by kernel_rfl⟩ false [] _ fun args r h=>by
  obtain⟨c,rfl,hc,rfl⟩:=j5 h
  have h1:=fun hp nx=>yC (fun c=>int c.fault) c hp nx hc.1
  have h2:=fun hp nx=>yC (fun c=>boo (cutC (c.rp 1))) c hp nx hc.1
  have hl:=clarge_eq c
  refine⟨Nat.le_trans (Nat.le_refl 1) (by decide),_,zb rfl ?_,zM _⟩
  unfold Cnd.check
  rw[←hl]
  cases hk:cutC (c.rp 1)
  ·simp[h1,h2,hk,Tryz.f7]
  ·simp[h1,h2,hk,Tryz.f7]
end Go.Proofs.YtpeaooooimfihaaGreatDoor
namespace Go.Proofs.YtpeaooooimfihaaGreatDoor
open Go.Proofs.Tryz
open Go.RowKit Go.AM Go.PrLaw
theorem joinC_len (l:List Cnd) (h:∀x∈l,COk x):(Lib.join (l.map Cnd.show) [44,32]).length≤30*cbs l:=by
 have j:=kx [44,32] (l.map Cnd.show)
 refine Nat.le_trans j ?_
 clear j
 induction l with
 | nil=>simp
 | cons v l ih =>
   have a:=cshow_len v (h v (by simp))
   have b:=ih fun x hx=>h x (by simp[hx])
   simp only[List.map_cons,List.sum_cons,cbs,List.length_cons,List.length_nil] at b ⊢
   omega
noncomputable def FCw (n:Nat):List PV→Option PV:=zH (α:=Cnd) (fun c=>[.agg c.enc]) (fun c=>COk c∧c.cb≤lim∧c.cb≤n) (fun c=>str c.show)
theorem FCw_call (n:Nat) (c:Cnd) (hp:Hp) (nx:Nat) (h:COk c∧c.cb≤lim∧c.cb≤n):zf false [] (FCw n) [.agg c.enc] hp nx=some (str c.show,hp,nx) :=
 zK (hp1:=hp) (show zi hp [.agg c.enc]=some ([.agg c.enc],hp) by simp only[zi,kA]) (zn (enc:=fun c:Cnd=>[.agg c.enc]) (a:=c) (fun a b e=>by simp only[List.cons.injEq,and_true,PV.agg.injEq] at e;exact xX e) h) (.inl rfl)
theorem FCw_zero {f:FuncId} (hfn:∃fn,prog.funcs[f]?=some fn∧(fn.name== "runtime.NumGoroutine")=false∧fn.body.isNone=false):SpecD False prog f (zf false [] (FCw 0)):=by
 refine⟨hfn,fun args hp nx r hp' nx' h=>?_⟩
 unfold zf at h
 split at h
 ·split at h
  ·rename_i hF
   obtain⟨c,_,hc,_⟩:=ze hF
   have:=cb_pos c
   omega
  ·cases h
 ·cases h
abbrev qcw (n:Nat):List Nat:=[20,21,22,23]
noncomputable abbrev Ccw (n:Nat):Ctx:=zF prog [(11,zf false [] (FCw n)),(19,hJn),(20,zf false [] (FIb js)),(21,zf false [] FOw),(22,zf false [] FQr),(23,zf false [] FVt)]
set_option maxHeartbeats 4000000 in
theorem rcwrite_eval (n:Nat) (c:Cnd) (h:COk c∧c.cb≤lim∧c.cb≤n+1):zj (Ccw n) f11 [.agg c.enc]=some (str c.show):=by
 obtain⟨hok,hcb,hcn⟩:=h
 have hcbe:=cb_eq c
 have hl1:=yo c.args
 have hkd:=hok.kind
 have hjl:=joinC_len c.args hok.args
 have hqt:=fun hp nx=>FQr_call c.pat hp nx (by omega)
 have hvt:=fun hp nx=>FVt_call c.vals hp nx hok.vals (by omega)
 have hql:=jA c.pat
 have hvl:=valsB_len c.vals hok.vals
 have hsl:=sgn_len c.op
 unfold lim at hcb
 refine zb rfl ?_
 refine qR (fun st=>st.σ 1=.ref 0 0 0∧st.nx=1∧st.hp 0=some ⟨25,7,false,[c.enc]⟩) (by simp) ?_
 rintro⟨σ,hp,nx⟩ ⟨h1,hn,b0⟩
 simp only at h1 hn b0
 subst hn
 refine qR (fun st=>st.σ 1=.ref 0 0 0∧st.nx=1∧st.hp 0=some ⟨25,7,false,[c.enc]⟩∧st.σ 3=.nil) (by simp[h1,b0]) ?_
 clear h1 b0 σ hp
 rintro⟨σ,hp,nx⟩ ⟨h1,hn,b0,h3⟩
 simp only at h1 hn b0 h3
 subst hn
 refine qR (fun st=>st.σ 1=.ref 0 0 0∧st.hp 0=some ⟨25,7,false,[c.enc]⟩∧(∀m,st.σ 3≠.own 0 0 m)∧OwnS st.hp st.nx 9 1 (st.σ 3) (encT (c.args.map Cnd.show))) ?_ ?_
 ·simp[h1,b0]
  refine zy (fun k σ hp nx=>σ 1=.ref 0 0 0∧1≤nx∧hp 0=some ⟨25,7,false,[c.enc]⟩∧σ 8=.sl 7 (c.args.map Cnd.enc)∧σ 9=int c.args.length∧σ 10=int k∧(∀m,σ 3≠.own 0 0 m)∧OwnS hp nx 9 1 (σ 3) (encT ((c.args.map Cnd.show).take k))) c.args.length ⟨by simp[h1],by simp,b0,by simp,by simp,by simp,by simp[h3],.inl ⟨by simp[h3],rfl⟩⟩ ?_
  clear h1 b0 h3 σ hp
  rintro k σ hp nx hkl ⟨h1,hnx,b0,h30,h31,h32,hne,hO⟩
  by_cases hlt:k<c.args.length
  ·have hw:IntKind.i64.wrap ((k:Int)+1)=(k:Int)+1:=zh (by omega) (by omega)
   have hmem:=List.getElem_mem hlt
   have hm:=vk hmem
   have hxo:=hok.args _ hmem
   have hE:=yv (c.args.map Cnd.show) k (by simpa using hlt)
   rw[List.getElem_map] at hE
   obtain⟨x,hx⟩:∃x,c.args[k]=x:=⟨_,rfl⟩
   rw[hx] at hm hxo hE
   obtain⟨ys,hys⟩:∃ys,encT ((c.args.map Cnd.show).take k)=ys:=⟨_,rfl⟩
   have hyl:ys.length≤1048576:=by rw[←hys];simp;omega
   rw[hys] at hO hE
   have hcall:=fun hp nx=>FCw_call n x hp nx ⟨hxo,by unfold lim;omega,by omega⟩
   have hO1:=hO.more (some ⟨25,7,false,[x.enc]⟩)
   have hap:=OwnS.append1 (P:=prog) (t:=45) (c:=[str x.show]) hO1 el45 sz9 by9 ze9 rfl (by omega) (by unfold maxLen;omega) (by omega)
   have hk0:=fun hp'=>qu hO hp' 0 hne
   simp[h1,h30,h31,h32,hlt,hx,hcall,hap,hw,zd,zl,zc]
   exact⟨by omega,by simp[hk0,show ¬0=nx by omega,show ¬0=nx+1 by omega,b0],by rw[hE];simpa using OwnS.after⟩
  ·obtain rfl:k=c.args.length:=by omega
   rw[List.take_of_length_le (by simp)] at hO
   simp[h1,h30,h31,h32]
   exact⟨b0,hne,hO⟩
 clear h1 b0 h3 σ hp
 rintro⟨σ,hp,nx⟩ ⟨h1,b0,hne,hO⟩
 simp only at h1 b0 hne hO
 obtain⟨J,hJ⟩:∃J,Lib.join (c.args.map Cnd.show) [44,32]=J:=⟨_,rfl⟩
 have hjn:=fun nx=>jn_own [44,32] hO (by simp;omega) (by omega) nx
 rw[hJ] at hjn hjl
 have m1:1+J.length≤maxLen:=by unfold maxLen;omega
 have m2:J.length+1+1≤maxLen:=by unfold maxLen;omega
 refine qR (fun st=>st.σ 1=.ref 0 0 0∧st.hp 0=some ⟨25,7,false,[c.enc]⟩∧st.σ 6=str ([40]++(J++[41]))) (by simp[h1,b0,hjn,m1,m2]) ?_
 clear h1 b0 hne hO hjn σ hp nx
 rintro⟨σ,hp,nx⟩ ⟨h1,b0,h6⟩
 simp only at h1 b0 h6
 by_cases k4:c.kind=4
 ·have ht:c.show=kG c:=by rw[jF,if_pos k4]
  obtain⟨o1,o2⟩:=hok.op k4
  have how:=fun hp nx=>FOw_call c.op hp nx ⟨by omega,o2⟩
  by_cases hop:c.op=1
  ·have hm:5+c.attr.length≤maxLen:=by unfold maxLen;omega
   have hts:c.show=[104,97,115,32,46]++c.attr:=by rw[ht,kG,if_pos hop]
   simp[h1,b0,k4,hop,hm,hts,f11]
  ·have hop':(c.op==1)=false:=beq_eq_false_iff_ne.2 hop
   obtain⟨S,hS⟩:∃S,sgn c.op=S:=⟨_,rfl⟩
   rw[hS] at how hsl
   have n1:1+c.attr.length≤maxLen:=by unfold maxLen;omega
   have n2:c.attr.length+1+1≤maxLen:=by unfold maxLen;omega
   have n3:c.attr.length+1+1+S.length≤maxLen:=by unfold maxLen;omega
   have n4:c.attr.length+(S.length+1)+1+1≤maxLen:=by unfold maxLen;omega
   cases hup:js c.op
   ·obtain⟨V,hV⟩:∃V,valsB c.vals=V:=⟨_,rfl⟩
    rw[hV] at hvt hvl
    have hts:c.show=[46]++(c.attr++([32]++(S++([32]++V)))):=by rw[ht,kG,if_neg hop,tailB,hup,hS,hV];rfl
    have n5:c.attr.length+(S.length+1+1)+1+V.length≤maxLen:=by unfold maxLen;omega
    simp[h1,b0,k4,hop',hup,how,hvt,n1,n2,n3,n4,n5,hts,f11]
   ·obtain⟨V,hV⟩:∃V,quoB c.pat=V:=⟨_,rfl⟩
    rw[hV] at hqt hql
    have hts:c.show=[46]++(c.attr++([32]++(S++([32]++V)))):=by rw[ht,kG,if_neg hop,tailB,hup,hS,hV];rfl
    have n5:c.attr.length+(S.length+1+1)+1+V.length≤maxLen:=by unfold maxLen;omega
    simp[h1,b0,k4,hop',hup,how,hqt,n1,n2,n3,n4,n5,hts,f11]
 by_cases k5:c.kind=5
 ·have hts:c.show=[105,110,32]++c.name:=by rw[jF,if_neg k4,if_pos k5]
  have hm:3+c.name.length≤maxLen:=by unfold maxLen;omega
  simp[h1,b0,k5,hm,hts,f11]
 have hts:c.show=xu c.kind++([40]++(J++[41])):=by rw[jF,if_neg k4,if_neg k5,hJ]
 have m3:3+(J.length+1+1)≤maxLen:=by unfold maxLen;omega
 rcases (by omega:c.kind=1∨c.kind=2∨c.kind=3) with hk | hk | hk<;>rw[hk] at hts <;>
  simp[h1,b0,h6,hk,m3,hts,xu,f11]
set_option maxRecDepth 100000 in
theorem rcwrite_sound:∀n,SpecD False prog 11 (zf false [] (FCw n)):=by
 intro n
 induction n with
 | zero=>exact FCw_zero ⟨_,func11,by kernel_rfl,by kernel_rfl⟩
 | succ n ih =>
   have hg:AM.GoodD False (Ccw n) (fun g=>(qcw n).contains g):=zm mixed ⟨ih,by simp,join_sound,by simp,rwithP_sound.lax,fun _=>zg _ _,opWord_sound.lax,fun _=>zg _ _,rquote_sound,fun _=>zg _ _,rvals_sound,fun _=>zg _ _,trivial⟩
   exact zO (fn:=f11) hg ⟨_,func11,by kernel_rfl,rfl,by kernel_rfl⟩ false [] _ fun args r h=>by
    obtain⟨c,rfl,hc,rfl⟩:=ze h
    exact⟨Nat.le_trans (Nat.le_refl 1) (by decide),_,rcwrite_eval n c hc,zM _⟩
end Go.Proofs.YtpeaooooimfihaaGreatDoor
