/-
The reference's ranges: an alternative.
-/
import Derived.Test.YtjcofiomfmebkaaGreatDoorG23
import Derived.Test.YtjcofiomfmebkaaGreatDoorG22
import Derived.Test.YtjcofiomfmebkaaGreatDoorG14
import Derived.Test.YtjcofiomfmebkaaGreatDoorG17
import Derived.Test.YtjcofiomfmebkaaGreatDoorG10
set_option maxRecDepth 8000
namespace Go.Proofs.YtjcofiomfmebkaaGreatDoor
open Go.Proofs.Tryz
open Go.RowKit Go.AM
theorem zf5:∀(ws:List (List UInt8)) (l:List Tok) (n:Nat),jy ws=some l→(∀w∈ws,w.length≤n)→l.length≤ws.length∧∀a∈l,a.2.length≤n
 | [],l,n,h,_=>by simp only[jy] at h;injection h with h;subst h;simp
 | [w],l,n,h,hw=>by
   simp only[jy] at h
   split at h
   ·cases h
   ·injection h with h
    subst h
    refine⟨by simp,fun a ha=>?_⟩
    rw[List.mem_singleton] at ha
    rw[ha]
    exact Nat.le_trans (QG sgs w) (hw w (by simp))
 | w::x::ws,l,n,h,hw=>by
   simp only[jy] at h
   split at h
   ·cases e:jy ws with
    | none=>rw[e] at h;cases h
    | some l' =>
      rw[e] at h
      simp only[Option.map_some,Option.some.injEq] at h
      subst h
      obtain⟨h1,h2⟩:=zf5 ws l' n e fun y hy=>hw y (by simp[hy])
      refine⟨by simp;omega,fun a ha=>?_⟩
      rcases List.mem_cons.1 ha with rfl | ha
      ·exact hw x (by simp)
      ·exact h2 a ha
   ·cases e:jy (x::ws) with
    | none=>rw[e] at h;cases h
    | some l' =>
      rw[e] at h
      simp only[Option.map_some,Option.some.injEq] at h
      subst h
      obtain⟨h1,h2⟩:=zf5 (x::ws) l' n e fun y hy=>hw y (by simp[List.mem_cons.1 hy])
      refine⟨by simp at h1 ⊢;omega,fun a ha=>?_⟩
      rcases List.mem_cons.1 ha with rfl | ha
      ·exact Nat.le_trans (QG sgs w) (hw w (by simp))
      ·exact h2 a ha
theorem zhJ {t:List UInt8} {l:List Tok} (h:jy (wd t)=some l):l.length≤t.length+1∧∀a∈l,a.2.length≤t.length:=by
 have hw:z7 (zy t [32])=wd t:=K5 t
 obtain⟨h1,h2⟩:=zf5 _ l t.length h fun w hw'=>by
  rw[←hw] at hw'
  exact w8 (List.mem_filter.1 hw').1
 have h3:(wd t).length≤t.length+1:=by rw[←hw];exact Nat.le_trans (List.length_filter_le _ _) (yY (by simp))
 exact⟨by omega,h2⟩
theorem zd3 {o:List UInt8} {p:Part} (ho:znq o) (hp:p.ok) (hg:kJ p.pre):goodR (zfW o p).1∧(zfW o p).1.length≤1:=by
 obtain⟨h1,h2⟩:=ZH (zhD ho hp hg)
 unfold zfW
 by_cases h:(vy (cOf o p)).2=true
 ·rw[if_pos h];exact⟨h2,h1⟩
 ·rw[if_neg h];exact⟨(fun s hs=>by cases hs),by simp⟩
theorem zrM (a b:List UInt8):((⟨a.toArray⟩:ByteArray)==⟨b.toArray⟩)=decide (a=b):=by
 show (a.toArray==b.toArray)=_
 by_cases h:a=b<;>simp[h]
theorem ztJ (a b c d:List UInt8):QZ prog .eql 218 (.agg [str a,str b]) (.agg [str c,str d])=some (boo (decide (a=c)&&decide (b=d))):=by
 simp only[QZ,zu9,qp,Option.map_some,Bool.and_true,zrM]
noncomputable def Qe (t:List UInt8):List Str×Int:=match zcm t with
 | none=>([],10)
 | some m=>(m.1,if m.2=true then 0 else 1)
noncomputable def QO (t:List UInt8):PV:=.tup [.sl 11 (zN (Qe t).1),int (Qe t).2]
def zwl (l:List Tok) (k:Nat) (hp:Hp) (nx:Nat) (v w:PV):Prop:=∃o ok,HasW hp nx v o∧goodR o∧o.length≤k+1∧w=int (if ok=true then 0 else 1)∧vC [qz leastC] true l=vC o ok (l.drop k)
noncomputable abbrev ztK:Ctx:=zC prog [(207,zd false [] (FSP znr)),(208,zd false [] zwh),(209,zG [] (QF zab)),(210,zd false [] (FS qH)),(159,zd false [] (VU rvP)),(211,zG [.a,.g jP] zuJ),(162,yC [.a,.s 11 y9,.s 11 y9] zsJ)]
theorem zo9:AM.Good ztK (fun g=>[208].contains g):=zk mixed ⟨zdT,by simp,Xo,fun _=>zi _ _,Jg,by simp,zbl,by simp,ji,by simp,Xn,by simp,zal,by simp,trivial⟩
set_option maxHeartbeats 4000000 in
theorem zme (t:List UInt8) (ht:t.length+1≤lim):∃r0,zg ztK f161 [str t]=some r0∧Stands r0 (QO t):=by
 refine qt (sh:=.s 11 y9) rfl ?_
 have hwo:∀(hp:Hp) (nx:Nat),zd false [] (FSP znr) [str t] hp nx=some (znr t,hp,nx):=fun hp nx=>zH rfl (zm (enc:=fun l:List UInt8=>[str l]) (a:=t) (fun a b e=>qg (by injection e)) (by show t.length≤lim;omega)) (.inr (by simp))
 refine kL (fun st=>st.σ 0=str t) (by simp) ?_
 rintro⟨σ,hp,nx⟩ h0
 simp only at h0
 refine kL (fun st=>st.σ 4=.sl 2 (YE (zkg t).1)∧st.σ 5=boo (zkg t).2) (by simp[h0,hwo,znr]) ?_
 clear h0 σ hp nx
 rintro⟨σ,hp,nx⟩ ⟨h4,h5⟩
 simp only at h4 h5
 cases htk:jy (wd t) with
 | none =>
   have hr:zkg t=([],false):=by unfold zkg;rw[htk]
   have hv:Qe t=([],10):=by unfold Qe zcm;rw[htk]
   rw[hr] at h4 h5
   simp[h4,h5,zF,QO,hv,zN,f161]
 | some l =>
 have hr:zkg t=(l,!l.isEmpty):=by unfold zkg;rw[htk]
 rw[hr] at h4 h5
 simp only at h4 h5
 by_cases hl0:l=[]
 ·have hv:Qe t=([],10):=by unfold Qe zcm;rw[htk];simp only;rw[if_pos hl0]
  subst hl0
  simp[h4,h5,zF,QO,hv,zN,f161]
 have hv0:zcm t=match zdM l with
  | some a=>match QX a.1,QX a.2 with
    | some p,some q=>some (zhC p q)
    | _,_=>none
  | none=>vC [qz leastC] true l:=by unfold zcm;rw[htk];simp only;rw[if_neg hl0];rfl
 have hle:l.isEmpty=false:=by cases l<;>simp at hl0 ⊢
 rw[hle] at h5
 obtain⟨hll,hla⟩:=zhJ htk
 have hsg:=zdP _ l htk
 have hkl:=zbG l
 unfold lim at ht
 refine kL (fun st=>st.σ 4=.sl 2 (YE l)) (by simp[h5,h4]) ?_
 clear h4 h5 σ hp nx
 rintro⟨σ,hp,nx⟩ h4
 simp only at h4
 refine kL (fun st=>st.σ 4=.sl 2 (YE l)∧zdM l=none) ?_ ?_
 ·by_cases h3:l.length=3
  ·match l,h3 with
   | [a,b,c],_ =>
   obtain⟨a1,a2⟩:=a
   obtain⟨b1,b2⟩:=b
   obtain⟨c1,c2⟩:=c
   have hd:zdM [(a1,a2),(b1,b2),(c1,c2)]=if (b1,b2)=(([],[45]):Tok)∧a1=[]∧c1=[] then some (a2,c2) else none:=rfl
   have ha2:a2.length≤t.length:=hla (a1,a2) (by simp)
   have hc2:c2.length≤t.length:=hla (c1,c2) (by simp)
   have hbt:=fun hp nx=>zl4 a2 c2 hp nx ⟨by unfold lim;omega,by unfold lim;omega⟩
   by_cases k1:b1=[]
   ·subst k1
    by_cases k2:b2=[45]
    ·subst k2
     by_cases k3:a1=[]
     ·subst k3
      by_cases k4:c1=[]
      ·subst k4
       rw[if_pos ⟨rfl,rfl,rfl⟩] at hd
       rw[hd] at hv0
       have hv:Qe t=zl3 a2 c2:=by
        unfold Qe zl3
        rw[hv0]
        simp only
        cases h1:QX a2<;>cases h2:QX c2<;>simp
       have hfx:=Z1 (zl3 a2 c2).1
       simp only[Sh.fix_s,PV.sl.injEq,true_and] at hfx
       simp only[K8] at hbt
       simp[h4,YE,hbt,ztJ,zx,zR,zF,QO,hv,hfx,f161]
      ·rw[if_neg (fun h=>k4 h.2.2)] at hd
       have e4:c1.isEmpty=false:=by cases c1 with
        | nil=>exact absurd rfl k4
        | cons=>rfl
       simp[h4,YE,ztJ,zx,zR,e4,hd]
     ·rw[if_neg (fun h=>k3 h.2.1)] at hd
      have e3:a1.isEmpty=false:=by cases a1 with
       | nil=>exact absurd rfl k3
       | cons=>rfl
      simp[h4,YE,ztJ,zx,zR,e3,hd]
    ·rw[if_neg (fun h=>k2 (by have:=h.1;injection this))] at hd
     simp[h4,YE,ztJ,zx,zR,k2,hd]
   ·rw[if_neg (fun h=>k1 (by have:=h.1;injection this))] at hd
    simp[h4,YE,ztJ,zx,zR,k1,hd]
  ·have hd:zdM l=none:=by
    unfold zdM
    split
    ·rename_i a b c
     exact absurd rfl h3
    ·rfl
   have hn3:((l.length:Int)==3)=false:=by rw[beq_eq_false_iff_ne];omega
   simp[h4,hkl,hn3,hd]
 clear h4 σ hp nx
 rintro⟨σ,hp,nx⟩ ⟨h4,hd⟩
 simp only at h4
 rw[hd] at hv0
 simp only at hv0
 have hle:∀(hp:Hp) (nx:Nat),zG [] (QF zab) [] hp nx=some (.agg [int leastC.v.a,int leastC.v.b,int leastC.v.c,.sl 1 (zD leastC.v.pre),boo leastC.after],hp,nx):=fun hp nx=>kr _ hp nx
 simp[h4,hkl,hle,zx,zR,zh,zo,zf]
 refine zu (fun k σ hp nx=>σ 60=.sl 2 (YE l)∧σ 61=int l.length∧σ 62=int k∧zwl l k hp nx (σ 6) (σ 7)) l.length
  ⟨by simp,by simp,by simp,[qz leastC],true,.inr ⟨nx,[[int leastC.v.a,int leastC.v.b,int leastC.v.c,.sl 1 (zD leastC.v.pre),boo leastC.after,int 0,int 0,int 0,.nil,boo false,boo true]],by simp,by simp,by simp,by simp[zN,qz,Str.enc,Cut.enc,cut0,zD]⟩,(jL wS).2,by simp,by simp,by simp⟩ ?_
 clear h4 σ hp nx
 rintro k σ hp nx hk ⟨h60,h61,h62,o,ok,hM,hgo,hol,h7,hlo⟩
 by_cases hltk:k<l.length
 ·have hwk:IntKind.i64.wrap ((k:Int)+1)=(k:Int)+1:=zc (by omega) (by omega)
  obtain⟨a,ha⟩:∃a,l[k]=a:=⟨_,rfl⟩
  have ham:a∈l:=by rw[←ha];exact List.getElem_mem hltk
  have hke:∀h:k<(YE l).length,(YE l)[k]=[str a.1,str a.2]:=fun h=>by simp[YE,ha]
  have hal:=hla a ham
  have hop:=fun hp nx=>wO qH a.2 hp nx (by unfold lim;omega)
  have hrv:=fun hp nx=>wu rvP a.2 hp nx (by unfold lim;omega)
  simp only[rvP,Ver.enc] at hrv
  rw[List.drop_eq_getElem_cons hltk,ha] at hlo
  simp only[vC] at hlo
  have hie:a.1≠[]→a.1.isEmpty=false:=fun h=>by cases he:a.1 with
   | nil=>exact absurd he h
   | cons=>rfl
  by_cases hskip:a.1=[]∧qH a.2=true
  ·rw[if_pos hskip] at hlo
   obtain⟨hs1,hs2⟩:=hskip
   simp[h60,h61,h62,hltk,hkl,hke,hs1,hop,hs2,hwk]
   exact⟨by omega,o,ok,hM.keep (by omega) fun id hid n e=>zq _ _ _ _ (by omega),hgo,by omega,h7,hlo⟩
  ·rw[if_neg hskip] at hlo
   have hM1:∀b1 b2,HasW (upd (upd hp nx b1) (nx+1) b2) (nx+1+1) (σ 6) o:=fun b1 b2=>hM.keep (by omega) fun id hid n e=>by rw[zq _ _ _ _ (by omega),zq _ _ _ _ (by omega)]
   have n1:¬nx=nx+1:=by omega
   cases hrd:QX a.2 with
   | none =>
     rw[hrd] at hlo
     simp only at hlo
     have hv:Qe t=([],10):=by unfold Qe;rw[hv0,hlo]
     have hno:=zbI hrd
     by_cases hs1:a.1=[]
     ·have hs2:qH a.2=false:=by cases hb:qH a.2;rfl;exact absurd ⟨hs1,hb⟩ hskip
      rcases hno with hno | hno
      ·simp[h60,h61,h62,hltk,hkl,hke,hs1,hop,hs2,hrv,hno,zF,QO,hv,zN,f161]
      ·cases hb:(rvR a.2).2.2<;>simp[h60,h61,h62,hltk,hkl,hke,hs1,hop,hs2,hrv,hno,hb,zF,QO,hv,zN,f161]
     ·have hs1:=hie hs1
      rcases hno with hno | hno
      ·simp[h60,h61,h62,hltk,hkl,hke,hs1,hrv,hno,zF,QO,hv,zN,f161]
      ·cases hb:(rvR a.2).2.2<;>simp[h60,h61,h62,hltk,hkl,hke,hs1,hrv,hno,hb,zF,QO,hv,zN,f161]
   | some p =>
     rw[hrd] at hlo
     simp only at hlo
     obtain⟨p1,p2,p3,p4,p5,p6,p7⟩:=zbH hrd
     obtain⟨_,_,q3,q4⟩:=jM hrd
     have p3':((rvR a.2).2.1==0)=false:=by simpa using p3
     rw[←p2] at p6 p7
     have hso:=fun hp nx=>zl1 a.1 (rvR a.2).1 (rvR a.2).2.1 hp nx (hsg a ham) p5 ⟨p6,p7⟩
     simp only[Qd,←p4,Ver.enc] at hso
     obtain⟨g1,g2⟩:=zd3 (hsg a ham) q3 q4
     have hlm:=vY and o (zfW a.1 p).1
     obtain⟨x,hp',nx',htog,hX,hnx',_⟩:=zhI 1 and zvi (hM1 (some ⟨218,2,false,[[str a.1,str a.2]]⟩) (some ⟨115,4,false,[(rvR a.2).1.enc]⟩)) (hgo.small (by unfold lim;omega)) (g1.small (by unfold lim;omega)) hgo g1
     simp only[Ver.enc] at htog
     have hfin:∀n:Int,n=(if (ok&&(zfW a.1 p).2)=true then 0 else 1)→zwl l (k+1) hp' nx' x (int n):=fun n hn=>⟨_,_,hX,wI and hgo g1,by omega,by rw[hn],hlo⟩
     by_cases hs1:a.1=[]
     ·have hs2:qH a.2=false:=by cases hb:qH a.2;rfl;exact absurd ⟨hs1,hb⟩ hskip
      rw[hs1] at hso htog hfin hke
      cases hb:(zfW [] p).2
      ·rw[hb] at hso hfin
       simp[h60,h61,h62,hltk,hkl,hke,hop,hs2,hrv,p1,p3',n1,hso,htog,hwk]
       exact⟨by omega,hfin 1 (by simp)⟩
      ·rw[hb] at hso hfin
       simp[h60,h61,h62,hltk,hkl,hke,hop,hs2,hrv,p1,p3',n1,hso,htog,hwk]
       exact⟨by omega,by rw[h7];exact hfin _ (by simp)⟩
     ·have hs1:=hie hs1
      cases hb:(zfW a.1 p).2
      ·rw[hb] at hso hfin
       simp[h60,h61,h62,hltk,hkl,hke,hs1,hrv,p1,p3',n1,hso,htog,hwk]
       exact⟨by omega,hfin 1 (by simp)⟩
      ·rw[hb] at hso hfin
       simp[h60,h61,h62,hltk,hkl,hke,hs1,hrv,p1,p3',n1,hso,htog,hwk]
       exact⟨by omega,by rw[h7];exact hfin _ (by simp)⟩
 ·obtain rfl:k=l.length:=by omega
  rw[List.drop_length] at hlo
  simp only[vC] at hlo
  have hv:Qe t=(o,if ok=true then 0 else 1):=by unfold Qe;rw[hv0,hlo]
  rcases hM with⟨h6,rfl⟩ | ⟨id,xs,hid,h6,hb,hxs⟩
  ·simp[h60,h61,h62,h6,h7,zF,QO,hv,zN,f161]
  ·simp[h60,h61,h62,h6,h7,hb,hxs,zF,QO,hv,f161]
theorem zjq:za prog 161 (zd false [] (VU QO)) :=
 xw (fn:=f161) zo9 ⟨_,func161,by kernel_rfl,rfl,by kernel_rfl⟩ false [] _ fun args r h w S vs hz=>by
  obtain⟨l,rfl,hp,rfl⟩:=ze h
  obtain⟨r0,h1,h2⟩:=zme l hp
  exact⟨_,r0,hz,by simp[f161],h1,h2⟩
theorem YH:∀(l:List Tok) (out:List Str) (ok:Bool) (m:List Str×Bool),(∀a∈l,znq a.1)→goodR out→vC out ok l=some m→goodR m.1∧m.1.length≤out.length+l.length
 | [],out,ok,m,_,h,e=>by
   simp only[vC] at e
   injection e with e
   subst e
   exact⟨h,by simp⟩
 | a::l,out,ok,m,hs,h,e=>by
   simp only[vC] at e
   have hs':∀b∈l,znq b.1:=fun b hb=>hs b (by simp[hb])
   split at e
   ·obtain⟨h1,h2⟩:=YH l out ok m hs' h e
    exact⟨h1,by simp;omega⟩
   ·cases hr:QX a.2 with
    | none=>rw[hr] at e;cases e
    | some p =>
      rw[hr] at e
      simp only at e
      obtain⟨_,_,q3,q4⟩:=jM hr
      obtain⟨g1,g2⟩:=zd3 (hs a (by simp)) q3 q4
      have hlm:=vY and out (zfW a.1 p).1
      obtain⟨h1,h2⟩:=YH l _ _ m hs' (wI and h g1) e
      exact⟨h1,by simp;omega⟩
theorem zmf {t:List UInt8} {m:List Str×Bool} (h:zcm t=some m):goodR m.1∧m.1.length≤t.length+2:=by
 unfold zcm at h
 cases htk:jy (wd t) with
 | none=>rw[htk] at h;cases h
 | some l =>
   rw[htk] at h
   simp only at h
   split at h
   ·cases h
   ·cases hd:zdM l with
    | none =>
      rw[hd] at h
      simp only at h
      obtain⟨h1,h2⟩:=YH l _ _ m (zdP _ l htk) (jL wS).2 h
      have:=(zhJ htk).1
      exact⟨h1,by simp at h2;omega⟩
    | some a =>
      rw[hd] at h
      simp only at h
      cases hp:QX a.1 with
      | none=>rw[hp] at h;simp at h
      | some p =>
        cases hq:QX a.2 with
        | none=>rw[hp,hq] at h;simp at h
        | some q =>
          rw[hp,hq] at h
          simp only[Option.some.injEq] at h
          obtain⟨_,_,p3,p4⟩:=jM hp
          obtain⟨_,_,q3,q4⟩:=jM hq
          rw[←h]
          unfold zhC
          split
          ·have:=vo (zbu p4) (Wy q4)
           exact⟨this.2,by simp only;omega⟩
          ·exact⟨(fun s hs=>by cases hs),by simp⟩
def RrI (parts:List (List UInt8)) (k:Nat) (hp:Hp) (nx:Nat) (v w:PV):Prop:=∃o ok,HasW hp nx v o∧goodR o∧o.length≤k*500∧w=int (if ok=true then 0 else 1)∧ZK [] true parts=ZK o ok (parts.drop k)
noncomputable abbrev zwm:Ctx:=zC prog [(143,qP [] FSp),(161,zd false [] (VU QO)),(162,yC [.a,.s 11 y9,.s 11 y9] zsJ)]
theorem zrN:AM.Good zwm (fun g=>([]:List Nat).contains g):=zk mixed ⟨kF,by simp,zjq,by simp,zal,by simp,trivial⟩
set_option maxHeartbeats 4000000 in
theorem Vg (t:List UInt8) (ht:t.length+1≤lim):∃r0,zg zwm f120 [str t]=some r0∧Stands r0 (rrP t):=by
 refine qt (sh:=.s 11 y9) rfl ?_
 have hrr:rrP t=.tup [.sl 11 (zN (vp t).1),int (vp t).2]:=by rw[zdR];rfl
 rw[hrr]
 by_cases h400:(400:Int)<t.length
 ·have hv:vp t=([],2):=by unfold vp;rw[if_pos h400]
  simp[h400,hv,zN,zF,f120]
 have hsp:=fun hp nx=>jv t [124,124] hp nx (by omega) (by decide) (by decide)
 obtain⟨parts,hparts⟩:∃parts,zy t [124,124]=parts:=⟨_,rfl⟩
 have hpl:∀p∈parts,p.length≤400:=fun p hp=>by have:=w8 (by rw[hparts];exact hp);omega
 have hpn:parts.length≤401:=by have:=yY (s:=t) (sep:=[124,124]) (by simp);rw[hparts] at this;omega
 have hval:vp t=match ZK [] true parts with
  | none=>([],10)
  | some o=>if o.2=false then ([],1) else if (100:Int)<o.1.length then ([],2) else (o.1,0):=by unfold vp;rw[if_neg h400,hparts];rfl
 rw[hparts] at hsp
 simp[h400,hsp]
 refine zu (fun k σ hp nx=>σ 14=.own 0 0 parts.length∧σ 15=int parts.length∧σ 16=int k∧1≤nx∧hp 0=some (zaW parts)∧RrI parts k hp nx (σ 4) (σ 5)) parts.length
  ⟨by simp,by simp,by simp,by simp,by simp,[],true,.inl ⟨by simp,rfl⟩,(fun s hs=>by cases hs),by simp,by simp,by simp⟩ ?_
 rintro k σ hp nx hk ⟨h14,h15,h16,hnx,b0,o,ok,hM,hgo,hol,h5,hlo⟩
 by_cases hltk:k<parts.length
 ·have hwk:IntKind.i64.wrap ((k:Int)+1)=(k:Int)+1:=zc (by omega) (by omega)
  obtain⟨s,hs⟩:∃s,parts[k]=s:=⟨_,rfl⟩
  have hsl:s.length≤400:=hpl s (by rw[←hs];exact List.getElem_mem hltk)
  have halt:=fun hp nx=>wu QO s hp nx (by unfold lim;omega)
  have b0':hp 0=some ⟨9,1,true,parts.map fun p=>[str p]⟩:=b0
  rw[List.drop_eq_getElem_cons hltk,hs] at hlo
  simp only[ZK] at hlo
  cases hal:zcm s with
  | none =>
    rw[hal] at hlo
    simp only at hlo
    rw[hlo] at hval
    simp only at hval
    have hx:Qe s=([],10):=by unfold Qe;rw[hal]
    simp only[QO,hx] at halt
    simp[h14,h15,h16,hltk,b0',hs,halt,hval,zN,zF,f120]
  | some m =>
    rw[hal] at hlo
    simp only at hlo
    have hx:Qe s=(m.1,if m.2=true then 0 else 1):=by unfold Qe;rw[hal]
    obtain⟨g1,g2⟩:=zmf hal
    have hlm:=vY or o m.1
    obtain⟨x,hp',nx',htog,hX,hnx',hfr⟩:=zhI 0 or zvj hM (hgo.small (by unfold lim;omega)) (g1.small (by unfold lim;omega)) hgo g1
    have b0n:hp' 0=some (zaW parts):=by rw[hfr 0 (by omega) (hM.box b0' (by simp))];exact b0
    have hfin:∀n:Int,n=(if (ok&&m.2)=true then 0 else 1)→RrI parts (k+1) hp' nx' x (int n):=fun n hn=>⟨_,_,hX,wI or hgo g1,by omega,by rw[hn],hlo⟩
    simp only[QO,hx] at halt
    cases hb:m.2
    ·rw[hb] at halt hfin
     simp at halt
     simp[h14,h15,h16,hltk,b0',hs,halt,htog,hwk]
     exact⟨by omega,by omega,b0n,hfin 1 (by simp)⟩
    ·rw[hb] at halt hfin
     simp at halt
     simp[h14,h15,h16,hltk,b0',hs,halt,htog,hwk]
     exact⟨by omega,by omega,b0n,by rw[h5];exact hfin _ (by simp)⟩
 ·obtain rfl:k=parts.length:=by omega
  rw[List.drop_length] at hlo
  simp only[ZK] at hlo
  rw[hlo] at hval
  simp only at hval
  cases ok
  ·simp at hval h5
   simp[h14,h15,h16,h5,hval,zN,zF,f120]
  ·simp at hval h5
   have hlen:=hM.len
   by_cases h100:(100:Int)<o.length
   ·have h100':100<o.length:=by omega
    rw[if_pos h100] at hval
    simp[h14,h15,h16,h5,hlen,h100,hval,zN,zF,f120]
   ·have h100':¬100<o.length:=by omega
    rw[if_neg h100] at hval
    rcases hM with⟨h4,rfl⟩ | ⟨id,xs,hid,h4,hb,hxs⟩
    ·simp[h14,h15,h16,h5,h4,hval,zN,zF,f120]
    ·rw[h4] at hlen
     have hxl:xs.length=o.length:=by have:=congrArg List.length hxs;simpa[zN] using this
     have h101:¬(100:Int)<xs.length:=by omega
     simp[h14,h15,h16,h5,h4,h101,hb,hxs,hval,zF,f120]
theorem xR:za prog 120 (zd false [] (VU rrP)) :=
 xw (fn:=f120) zrN ⟨_,func120,by kernel_rfl,rfl,by kernel_rfl⟩ false [] _ fun args r h w S vs hz=>by
  obtain⟨l,rfl,hp,rfl⟩:=ze h
  obtain⟨r0,h1,h2⟩:=Vg l hp
  exact⟨_,r0,hz,by simp[f120],h1,h2⟩
inductive Cnd where
 | mk (kind:Int) (attr:List UInt8) (op:Int) (vals:List Val) (pat name:List UInt8) (args:List Cnd)
namespace Cnd
def kind:Cnd→Int | .mk k _ _ _ _ _ _=>k
def attr:Cnd→List UInt8 | .mk _ a _ _ _ _ _=>a
def op:Cnd→Int | .mk _ _ o _ _ _ _=>o
def vals:Cnd→List Val | .mk _ _ _ v _ _ _=>v
def pat:Cnd→List UInt8 | .mk _ _ _ _ p _ _=>p
def name:Cnd→List UInt8 | .mk _ _ _ _ _ n _=>n
def args:Cnd→List Cnd | .mk _ _ _ _ _ _ l=>l
end Cnd
theorem Cnd.ind {P:Cnd→Prop} (h:∀k a o v p n l,(∀x∈l,P x)→P (.mk k a o v p n l)) (c:Cnd):P c :=
 Cnd.rec (motive_1:=P) (motive_2:=fun l=>∀x∈l,P x) (fun k a o v p n l hl=>h k a o v p n l hl) (by simp)
  (fun x l hx hl y hy=>by
   rcases List.mem_cons.1 hy with rfl | hy
   ·exact hx
   ·exact hl y hy) c
mutual
def Cnd.enc:Cnd→List PV
 | .mk k a o v p n l=>[int k,str a,int o,.sl 5 (v.map Val.enc),str p,str n,.sl 7 (encCds l)]
def encCds:List Cnd→List (List PV)
 | []=>[]
 | c::l=>c.enc::encCds l
end
theorem zam:∀l:List Cnd,encCds l=l.map Cnd.enc
 | []=>rfl
 | c::l=>by simp[encCds,zam l]
theorem qc (c:Cnd):c.enc=[int c.kind,str c.attr,int c.op,.sl 5 (c.vals.map Val.enc),str c.pat,str c.name,.sl 7 (c.args.map Cnd.enc)]:=by
 cases c with
 | mk k a o v p n l=>simp[Cnd.enc,zam,Cnd.kind,Cnd.attr,Cnd.op,Cnd.vals,Cnd.pat,Cnd.name,Cnd.args]
@[simp] theorem cenc_length (c:Cnd):c.enc.length=7:=by rw[qc];rfl
@[simp] theorem zjr (c:Cnd):c.enc.all PV.isCell=true:=by rw[qc];rfl
@[simp] theorem cenc_cells' (c:Cnd):(∀x,x∈c.enc→PV.isCell x=true)=True:=by
 have:=zjr c
 rw[List.all_eq_true] at this
 exact eq_true this
@[simp] theorem WM (c:Cnd):c.enc.take 7=c.enc:=List.take_of_length_le (by simp)
@[simp] theorem cenc_0 (c:Cnd) (h:0<c.enc.length):c.enc[0]=int c.kind:=by simp[qc c]
@[simp] theorem cenc_1 (c:Cnd) (h:1<c.enc.length):c.enc[1]=str c.attr:=by simp[qc c]
@[simp] theorem cenc_2 (c:Cnd) (h:2<c.enc.length):c.enc[2]=int c.op:=by simp[qc c]
@[simp] theorem cenc_3 (c:Cnd) (h:3<c.enc.length):c.enc[3]=.sl 5 (c.vals.map Val.enc):=by simp[qc c]
@[simp] theorem cenc_4 (c:Cnd) (h:4<c.enc.length):c.enc[4]=str c.pat:=by simp[qc c]
@[simp] theorem cenc_5 (c:Cnd) (h:5<c.enc.length):c.enc[5]=str c.name:=by simp[qc c]
@[simp] theorem cenc_6 (c:Cnd) (h:6<c.enc.length):c.enc[6]=.sl 7 (c.args.map Cnd.enc):=by simp[qc c]
theorem zhK {a b:List Val} (h:a.map Val.enc=b.map Val.enc):a=b:=yz (fun _ _=>jR) h
theorem jE:∀{a b:Cnd},a.enc=b.enc→a=b:=by
 intro a
 induction a using Cnd.ind with
 | h k a o v p n l hl =>
   intro b e
   cases b with
   | mk k' a' o' v' p' n' l' =>
     simp only[qc,Cnd.kind,Cnd.attr,Cnd.op,Cnd.vals,Cnd.pat,Cnd.name,Cnd.args,List.cons.injEq,and_true] at e
     obtain⟨e1,e2,e3,e4,e5,e6,e7⟩:=e
     obtain rfl:=zP e1
     obtain rfl:=qg e2
     obtain rfl:=zP e3
     injection e4 with _ e4
     obtain rfl:=zhK e4
     obtain rfl:=qg e5
     obtain rfl:=qg e6
     injection e7 with _ e7
     rw[ZX (fun x hx y=>hl x hx) e7]
mutual
def Cnd.cb:Cnd→Nat
 | .mk _ a _ v p n l=>1+a.length+vbs v+p.length+n.length+cbs l
def cbs:List Cnd→Nat
 | []=>0
 | c::l=>c.cb+cbs l
end
theorem xF (c:Cnd):c.cb=1+c.attr.length+vbs c.vals+c.pat.length+c.name.length+cbs c.args:=by cases c;rfl
theorem Vh (c:Cnd):0<c.cb:=by rw[xF];omega
theorem jl:∀{l:List Cnd} {x:Cnd},x∈l→x.cb≤cbs l
 | y::l,x,h=>by
   simp only[cbs]
   rcases List.mem_cons.1 h with rfl | h
   ·omega
   ·have:=jl h;omega
theorem wJ:∀l:List Cnd,l.length≤cbs l
 | []=>by simp[cbs]
 | c::l=>by have:=wJ l;have:=Vh c;simp only[cbs,List.length_cons];omega
mutual
def Cnd.parts:Cnd→Nat
 | .mk _ _ _ _ _ _ l=>1+partsC l
def partsC:List Cnd→Nat
 | []=>0
 | c::l=>c.parts+partsC l
end
mutual
def Cnd.levels:Cnd→Nat
 | .mk _ _ _ _ _ _ l=>levelsC l+1
def levelsC:List Cnd→Nat
 | []=>0
 | c::l=>max c.levels (levelsC l)
end
theorem WN (c:Cnd):c.parts=1+partsC c.args:=by cases c;rfl
theorem YI (c:Cnd):c.levels=levelsC c.args+1:=by cases c;rfl
theorem YJ (l:List Cnd) (h:∀x∈l,x.parts≤x.cb):partsC l≤cbs l:=by
 induction l with
 | nil=>simp[partsC]
 | cons v l ih=>have:=h v (by simp);have:=ih fun x hx=>h x (by simp[hx]);simp only[partsC,cbs];omega
theorem Vi (c:Cnd):c.parts≤c.cb:=by
 induction c using Cnd.ind with
 | h k a o v p n l hl =>
   have:=YJ l hl
   rw[WN,xF]
   simp only[Cnd.args]
   omega
theorem zf6 (l:List Cnd) (h:∀x∈l,x.levels≤x.parts):levelsC l≤partsC l:=by
 induction l with
 | nil=>simp[levelsC]
 | cons v l ih=>have:=h v (by simp);have:=ih fun x hx=>h x (by simp[hx]);simp only[partsC,levelsC];omega
theorem zjs (c:Cnd):c.levels≤c.parts:=by
 induction c using Cnd.ind with
 | h k a o v p n l hl =>
   have:=zf6 l hl
   rw[WN,YI]
   simp only[Cnd.args]
   omega
theorem WO (a b:List Cnd):partsC (a++b)=partsC a+partsC b:=by
 induction a with
 | nil=>simp[partsC]
 | cons v a ih=>simp only[List.cons_append,partsC,ih];omega
theorem Xs (a b:List Cnd):levelsC (a++b)=max (levelsC a) (levelsC b):=by
 induction a with
 | nil=>simp[levelsC]
 | cons v a ih=>simp only[List.cons_append,levelsC,ih];omega
theorem zvk {l:List Cnd} {k:Nat} (h:k<l.length):partsC (l.take (k+1))=partsC (l.take k)+l[k].parts∧levelsC (l.take (k+1))=max (levelsC (l.take k)) l[k].levels:=by
 rw[List.take_succ_eq_append_getElem h,WO,Xs]
 simp[partsC,levelsC]
theorem zd4 (l:List Cnd) (k:Nat):partsC (l.take k)≤partsC l:=by
 have:=WO (l.take k) (l.drop k)
 rw[List.take_append_drop] at this
 omega
noncomputable def FC (out:Cnd→PV) (n:Nat):List PV→Option PV:=zJ (α:=Cnd) (fun c=>[.agg c.enc]) (fun c=>c.cb≤lim∧c.cb≤n) out
theorem zvl (out:Cnd→PV) (n:Nat) (c:Cnd) (h:c.cb≤lim∧c.cb≤n):FC out n [.agg c.enc]=some (out c) :=
 zm (enc:=fun c:Cnd=>[.agg c.enc]) (a:=c) (fun a b e=>by simp only[List.cons.injEq,and_true,PV.agg.injEq] at e;exact jE e) h
@[simp] theorem freezeCells_cenc (hp:Hp) (c:Cnd):zW hp c.enc=some (c.enc,hp):=by rw[qc];simp
theorem Vj (hp:Hp) (c:Cnd):zE hp (.agg c.enc)=some (.agg c.enc,hp):=by
 rw[qc]
 simp
theorem zjt (c:Cnd):PV.noOwn (.agg c.enc)=true:=by
 rw[qc]
 simp
theorem vD (out:Cnd→PV) (n:Nat) (c:Cnd) (hp:Hp) (nx:Nat) (h:c.cb≤lim∧c.cb≤n):zd false [] (FC out n) [.agg c.enc] hp nx=some (out c,hp,nx) :=
 zH (hp1:=hp) (show zj hp [.agg c.enc]=some ([.agg c.enc],hp) by simp only[zj,Vj]) (zvl out n c h) (.inr (by simp only[List.all_cons,zjt,List.all_nil,Bool.and_self]))
theorem xS {out:Cnd→PV} {n:Nat} {args:List PV} {r:PV} (h:FC out n args=some r):∃c:Cnd,args=[.agg c.enc]∧(c.cb≤lim∧c.cb≤n)∧r=out c:=ze h
theorem zbP {out:Cnd→PV} {f:FuncId} (hfn:∃fn,prog.funcs[f]?=some fn∧(fn.name== "runtime.NumGoroutine")=false∧fn.body.isNone=false):za prog f (zd false [] (FC out 0)):=by
 refine⟨hfn,fun args hp nx r hp' nx' h=>?_⟩
 unfold zd at h
 split at h
 ·split at h
  ·rename_i r0 hF
   obtain⟨c,_,hc,_⟩:=xS hF
   have:=Vh c
   omega
  ·cases h
 ·cases h
noncomputable abbrev GC (out:Cnd→PV):AM.Spec:=zd false [] (FC out lim)
theorem vE (out:Cnd→PV) (c:Cnd) (hp:Hp) (nx:Nat) (h:c.cb≤lim):GC out [.agg c.enc] hp nx=some (out c,hp,nx):=vD out lim c hp nx ⟨h,h⟩
def WP (op:Int):Bool:=inB op 2 6||op==12
def kR (op:Int):Bool:=inB op 7 11
def ww (op:Int):Bool:=inB op 3 6
noncomputable abbrev Cwi:Ctx:=zC prog [(34,zd false [] (F3 inB))]
theorem zmg:AM.Good Cwi (fun g=>[34].contains g):=zk mixed ⟨jI,fun _=>zi _ _,trivial⟩
def FIb (f:Int→Bool):List PV→Option PV
 | [.v (.int .i64 a)]=>some (boo (f a))
 | _=>none
theorem YK {f:Int→Bool} {args:List PV} {r:PV} (h:FIb f args=some r):∃a,args=[int a]∧r=boo (f a):=by
 unfold FIb at h
 split at h
 ·injection h with h;exact⟨_,rfl,h.symm⟩
 ·cases h
@[simp] theorem FIb_call (f:Int→Bool) (a:Int) (hp:Hp) (nx:Nat):zd false [] (FIb f) [.v (.int .i64 a)] hp nx=some (boo (f a),hp,nx):=zH rfl rfl (.inl rfl)
theorem zf7:za prog 122 (zd false [] (FIb WP)) :=
 zL (fn:=f122) zmg ⟨_,func122,by kernel_rfl,rfl,by kernel_rfl⟩ false [] _ fun args r h=>by
  obtain⟨a,rfl,rfl⟩:=YK h
  exact⟨by simp[f122],_,zb rfl (by simp[WP,f122]),zK _⟩
theorem Vk:za prog 97 (zd false [] (FIb kR)) :=
 zL (fn:=f97) zmg ⟨_,func97,by kernel_rfl,rfl,by kernel_rfl⟩ false [] _ fun args r h=>by
  obtain⟨a,rfl,rfl⟩:=YK h
  exact⟨by simp[f97],_,zb rfl (by simp[kR,f97]),zK _⟩
theorem QP:za prog 81 (zd false [] (FIb ww)) :=
 zL (fn:=f81) zmg ⟨_,func81,by kernel_rfl,rfl,by kernel_rfl⟩ false [] _ fun args r h=>by
  obtain⟨a,rfl,rfl⟩:=YK h
  exact⟨by simp[f81],_,zb rfl (by simp[ww,f81]),zK _⟩
noncomputable abbrev Cms (n:Nat):Ctx:=zC prog [(62,zd false [] (FC (fun c=>.tup [int c.parts,int c.levels]) n))]
theorem zd5 (n:Nat) (c:Cnd) (h:c.cb≤lim∧c.cb≤n+1):zg (Cms n) f62 [.agg c.enc]=some (.tup [int c.parts,int c.levels]):=by
 have hpl:=Vi c
 have hpe:=WN c
 have hcb:=xF c
 have hle:=YI c
 have hll:=zjs c
 have hl1:=wJ c.args
 obtain⟨ha,hb⟩:=h
 unfold lim at ha
 refine zb rfl ?_
 simp
 refine zu (fun k σ hp nx=>σ 9=.sl 7 (c.args.map Cnd.enc)∧σ 10=int c.args.length∧σ 11=int k∧σ 2=int ((1+partsC (c.args.take k):Nat):Int)∧σ 3=int (levelsC (c.args.take k))) c.args.length
  ⟨by simp,by simp,by simp,by simp[partsC],by simp[levelsC]⟩ ?_
 rintro k σ hp nx hk ⟨h9,h10,h11,h2,h3⟩
 by_cases hlt:k<c.args.length
 ·obtain⟨t1,t2⟩:=zvk hlt
  have hm:=jl (List.getElem_mem hlt)
  have hw:IntKind.i64.wrap ((k:Int)+1)=(k:Int)+1:=zc (by omega) (by omega)
  have hple:=zd4 c.args k
  have hple2:=zd4 c.args (k+1)
  have hpp:=YJ c.args fun x hx=>Vi x
  have hcall:=fun hp nx=>vD (fun c=>.tup [int c.parts,int c.levels]) n c.args[k] hp nx ⟨by unfold lim;omega,by omega⟩
  have w1:IntKind.i64.wrap (((1+partsC (c.args.take k):Nat):Int)+c.args[k].parts)=((1+partsC (c.args.take (k+1)):Nat):Int):=by rw[zc (by omega) (by omega),t1];omega
  have w2:(if (levelsC (c.args.take k))<c.args[k].levels then (c.args[k].levels:Int) else levelsC (c.args.take k))=(levelsC (c.args.take (k+1)):Int):=by rw[t2];split<;>omega
  simp[h2,h3,h9,h10,h11,hlt,hcall,hw]
  exact⟨by omega,by rw[zc (by omega) (by omega),t1];omega,w2⟩
 ·obtain rfl:k=c.args.length:=by omega
  rw[List.take_length] at h2 h3
  have w1:IntKind.i64.wrap ((levelsC c.args:Int)+1)=(c.levels:Int):=by rw[zc (by omega) (by omega),hle];omega
  simp[h2,h3,h9,h10,h11,w1,qe,f62]
  omega
set_option maxRecDepth 100000 in
theorem zbQ:∀n,za prog 62 (zd false [] (FC (fun c=>.tup [int c.parts,int c.levels]) n)):=by
 intro n
 induction n with
 | zero=>exact zbP ⟨_,func62,by kernel_rfl,by kernel_rfl⟩
 | succ n ih =>
   have hg:AM.Good (Cms n) (fun g=>([]:List Nat).contains g):=zk mixed ⟨ih,by simp,trivial⟩
   exact zL (fn:=f62) hg ⟨_,func62,by kernel_rfl,rfl,by kernel_rfl⟩ false [] _ fun args r h=>by
    obtain⟨c,rfl,hc,rfl⟩:=xS h
    exact⟨Nat.le_trans (Nat.le_refl 1) (by decide),_,zd5 n c hc,zK _⟩
def w1F (c:Cnd):Bool:=!(c.kind==4)&&(!c.attr.isEmpty||c.op != 0||decide (0<c.vals.length)||!c.pat.isEmpty)
def w2F (c:Cnd):Bool:=c.kind != 5&&!c.name.isEmpty
def w3F (c:Cnd):Bool:=!inB c.kind 1 3&&decide (0<c.args.length)
def w4F (c:Cnd):Bool:=c.kind==4&&!WP c.op&&decide (0<c.vals.length)
def w5F (c:Cnd):Bool:=c.kind==4&&!kR c.op&&!c.pat.isEmpty
def w6F (c:Cnd):Bool:=c.kind==3&&(c.args.length:Int) != 1
def w7F (c:Cnd):Bool:=c.kind==4&&ww c.op&&(c.vals.length:Int) != 1
def kS (c:Cnd):Bool:=w1F c||w2F c||w3F c||w4F c||w5F c||w6F c||w7F c
noncomputable abbrev Cfo:Ctx:=zC prog [(34,zd false [] (F3 inB)),(122,zd false [] (FIb WP)),(97,zd false [] (FIb kR)),(81,zd false [] (FIb ww))]
theorem ztL:AM.Good Cfo (fun g=>[34,122,97,81].contains g):=zk mixed ⟨jI,fun _=>zi _ _,zf7,fun _=>zi _ _,Vk,fun _=>zi _ _,QP,fun _=>zi _ _,trivial⟩
@[simp] theorem quietfo2:yj Cfo 122:=qN (by rfl) (zi _ _)
@[simp] theorem quietfo3:yj Cfo 97:=qN (by rfl) (zi _ _)
@[simp] theorem quietfo4:yj Cfo 81:=qN (by rfl) (zi _ _)
theorem Xt (c:Cnd) (h:c.cb≤lim):zg Cfo f95 [.agg c.enc]=some (int (if kS c=true then 3 else 0)):=by
 refine zb rfl ?_
 have e1:(!(c.kind==4)&&(!c.attr.isEmpty||c.op != 0||decide (0<c.vals.length)||!c.pat.isEmpty))=w1F c:=rfl
 have e2:(c.kind != 5&&!c.name.isEmpty)=w2F c:=rfl
 have e3:(!inB c.kind 1 3&&decide (0<c.args.length))=w3F c:=rfl
 have e4:(c.kind==4&&!WP c.op&&decide (0<c.vals.length))=w4F c:=rfl
 have e5:(c.kind==4&&!kR c.op&&!c.pat.isEmpty)=w5F c:=rfl
 have e6:(c.kind==3&&(c.args.length:Int) != 1)=w6F c:=rfl
 have e7:(c.kind==4&&ww c.op&&(c.vals.length:Int) != 1)=w7F c:=rfl
 cases h1:w1F c
 case true=>simp[e1,h1,kS,f95]
 cases h2:w2F c
 case true=>simp[e1,h1,e2,h2,kS,f95]
 cases h3:w3F c
 case true=>simp[e1,h1,e2,h2,e3,h3,kS,f95]
 cases h4:w4F c
 case true=>simp[e1,h1,e2,h2,e3,h3,e4,h4,kS,f95]
 cases h5:w5F c
 case true=>simp[e1,h1,e2,h2,e3,h3,e4,h4,e5,h5,kS,f95]
 cases h6:w6F c
 case true=>simp[e1,h1,e2,h2,e3,h3,e4,h4,e5,h5,e6,h6,kS,f95]
 cases h7:w7F c
 case true=>simp[e1,h1,e2,h2,e3,h3,e4,h4,e5,h5,e6,h6,e7,h7,kS,f95]
 simp[e1,h1,e2,h2,e3,h3,e4,h4,e5,h5,e6,h6,e7,h7,kS,f95]
theorem Vl:za prog 95 (GC fun c=>int (if kS c=true then 3 else 0)) :=
 zL (fn:=f95) ztL ⟨_,func95,by kernel_rfl,rfl,by kernel_rfl⟩ false [] _ fun args r h=>by
  obtain⟨c,rfl,hc,rfl⟩:=xS h
  exact⟨by simp[f95],_,Xt c hc.1,zK _⟩
noncomputable def Ji (p:Option Val) (v:Val):Bool:=match p with
 | none=>false
 | some p=>decide (0≤zO p v)
def zmh (op:Int) (v:Val):Bool:=v.kind==0||ww op&&v.kind != 2
noncomputable def zcn (op:Int):Option Val→List Val→Int
 | _,[]=>0
 | p,v::l=>if v.check=0 then (if zmh op v=true then 6 else if Ji p v=true then 8 else zcn op (some v) l) else v.check
noncomputable def kM (op:Int) (l:List Val):Int:=if (100:Int)<l.length then 2 else zcn op none l
def xY (l:List Val) (k:Nat):Option Val:=if k=0 then none else l[k - 1]?
noncomputable def FIv (f:Int→List Val→PV):List PV→Option PV:=zJ (α:=Int×List Val) (fun a=>[int a.1,.sl 5 (a.2.map Val.enc)]) (fun a=>vbs a.2≤lim) (fun a=>f a.1 a.2)
theorem zpa (f:Int→List Val→PV) (op:Int) (l:List Val) (hp:Hp) (nx:Nat) (h:vbs l≤lim):zd false [] (FIv f) [int op,.sl 5 (l.map Val.enc)] hp nx=some (f op l,hp,nx) :=
 zH (hp1:=hp) (show zj hp [int op,.sl 5 (l.map Val.enc)]=some ([int op,.sl 5 (l.map Val.enc)],hp) by simp) (zm (enc:=fun a:Int×List Val=>[int a.1,.sl 5 (a.2.map Val.enc)]) (a:=(op,l)) (fun x y e=>by
  obtain⟨x1,x2⟩:=x;obtain⟨y1,y2⟩:=y
  simp only[List.cons.injEq,and_true] at e
  obtain⟨e1,e2⟩:=e
  injection e2 with _ e2
  rw[zP e1,KS e2]) h) (.inr (by simp))
noncomputable abbrev zvm:Ctx:=zC prog [(27,GV fun v=>int v.check),(81,zd false [] (FIb ww)),(107,zd false [] (FCV lim))]
theorem zrO:AM.Good zvm (fun g=>[81,107].contains g):=zk mixed ⟨KF,by simp,QP,fun _=>zi _ _,Qs lim,fun _=>zi _ _,trivial⟩
@[simp] theorem quietcv2a:yj zvm 81:=qN (by rfl) (zi _ _)
theorem JH (op:Int) (l:List Val) (h:vbs l≤lim):zg zvm f96 [int op,.sl 5 (l.map Val.enc)]=some (int (kM op l)):=by
 have hlen:=qD l
 unfold lim at h
 refine zb rfl ?_
 by_cases h100:(100:Int)<l.length
 ·have hv:kM op l=2:=by unfold kM;rw[if_pos h100]
  simp[h100,hv,f96]
 have hv:kM op l=zcn op none l:=by unfold kM;rw[if_neg h100]
 rw[hv]
 simp[h100]
 refine zu (fun k σ hp nx=>σ 0=int op∧σ 1=.sl 5 (l.map Val.enc)∧σ 11=.sl 5 (l.map Val.enc)∧σ 12=int l.length∧σ 13=int k∧zcn op none l=zcn op (xY l k) (l.drop k)) l.length
  ⟨by simp,by simp,by simp,by simp,by simp,by simp[xY]⟩ ?_
 rintro k σ hp nx hk ⟨h0,h1,h11,h12,h13,he⟩
 by_cases hlt:k<l.length
 ·have hm:=wA (List.getElem_mem hlt)
  have hw:IntKind.i64.wrap ((k:Int)+1)=(k:Int)+1:=zc (by omega) (by omega)
  have hck:=fun hp nx=>vv (fun v=>int v.check) l[k] hp nx (by unfold lim;omega)
  rw[List.drop_eq_getElem_cons hlt] at he
  simp only[zcn] at he
  have hpn:xY l (k+1)=some l[k]:=by simp[xY,hlt]
  have ety:(l[k].kind==0||ww op&&l[k].kind != 2)=zmh op l[k]:=rfl
  by_cases hz:l[k].check=0
  case neg =>
   rw[if_neg hz] at he
   have hz2:(l[k].check != 0)=true:=by simpa using hz
   simp[h0,h1,h11,h12,h13,hlt,hck,hz2,he,f96]
  rw[if_pos hz] at he
  cases hty:zmh op l[k]
  case true =>
   rw[hty,if_pos rfl] at he
   simp[h0,h1,h11,h12,h13,hlt,hck,hz,ety,hty,he,f96]
  rw[hty,if_neg (by simp)] at he
  by_cases k0:k=0
  ·subst k0
   have hp0:Ji (xY l 0) l[0]=false:=rfl
   rw[hp0,if_neg (by simp)] at he
   simp[h0,h1,h11,h12,h13,hlt,hck,hz,ety,hty,hw]
   exact⟨by omega,by rw[he,show xY l 1=some l[0] from hpn];simp⟩
  ·obtain⟨j,rfl⟩:∃j,k=j+1:=⟨k - 1,by omega⟩
   have hj:j<l.length:=by omega
   have hmj:=wA (List.getElem_mem hj)
   have wj:IntKind.i64.wrap ((j:Int)+1 - 1)=(j:Int):=by rw[zc (by omega) (by omega)];omega
   have wj':IntKind.i64.wrap (j:Int)=(j:Int):=zc (by omega) (by omega)
   have j1:((j:Int)+1).toNat=j+1:=by omega
   have j2:0<(j:Int)+1:=by omega
   have j3:0≤(j:Int)+1:=by omega
   have j4:(j:Int)+1<l.length:=by omega
   have hcm:=fun hp nx=>vm lim l[j] l[j+1] hp nx ⟨by unfold lim;omega,by unfold lim;omega,by unfold lim;omega⟩
   have hpv:Ji (xY l (j+1)) l[j+1]=decide (0≤zO l[j] l[j+1]):=by simp[xY,hj,Ji]
   rw[hpv] at he
   by_cases hc:0≤zO l[j] l[j+1]
   ·have hc':decide (0≤zO l[j] l[j+1])=true:=by simpa using hc
    rw[if_pos hc'] at he
    simp[h0,h1,h11,h12,h13,hlt,hj,hck,hz,ety,hty,hw,wj,wj',j1,j2,j3,j4,hcm,hc,he,f96]
   ·have hc':¬decide (0≤zO l[j] l[j+1])=true:=by simpa using hc
    rw[if_neg hc'] at he
    have wk:IntKind.i64.wrap ((j:Int)+1+1)=(j:Int)+1+1:=zc (by omega) (by omega)
    simp[h0,h1,h11,h12,h13,hlt,hj,hck,hz,ety,hty,wk,wj,wj',j1,j2,j3,j4,hcm,hc]
    exact⟨by omega,by rw[he,hpn]⟩
 ·obtain rfl:k=l.length:=by omega
  rw[List.drop_length] at he
  simp only[zcn] at he
  simp[h0,h1,h11,h12,h13,he,f96]
theorem YL:za prog 96 (zd false [] (FIv fun op l=>int (kM op l))) :=
 zL (fn:=f96) zrO ⟨_,func96,by kernel_rfl,rfl,by kernel_rfl⟩ false [] _ fun args r h=>by
  obtain⟨⟨op,l⟩,rfl,hc,rfl⟩:=ze h
  exact⟨by simp[f96],_,JH op l hc,zK _⟩
noncomputable def JV (op:Int) (s:List UInt8):Int:=if (500:Int)<s.length then 2 else if zU 32 126 s=true then (if op=11 then (yD s).2 else 0) else 1
noncomputable def FIs (f:Int→List UInt8→PV):List PV→Option PV:=zJ (α:=Int×List UInt8) (fun a=>[int a.1,str a.2]) (fun a=>a.2.length≤lim) (fun a=>f a.1 a.2)
theorem zpb (f:Int→List UInt8→PV) (op:Int) (s:List UInt8) (hp:Hp) (nx:Nat) (h:s.length≤lim):zd false [] (FIs f) [int op,str s] hp nx=some (f op s,hp,nx) :=
 zH rfl (zm (enc:=fun a:Int×List UInt8=>[int a.1,str a.2]) (a:=(op,s)) (fun x y e=>by
  obtain⟨x1,x2⟩:=x;obtain⟨y1,y2⟩:=y
  simp only[List.cons.injEq,and_true] at e
  rw[zP e.1,qg e.2]) h) (.inr (by simp))
noncomputable abbrev Cpt:Ctx:=zC prog [(114,zd false [] (VU rrP))]
theorem ztM:AM.Good Cpt (fun g=>([]:List Nat).contains g):=zk mixed ⟨ZL,by simp,trivial⟩
theorem YM (op:Int) (s:List UInt8) (h:s.length≤lim):zg Cpt f98 [int op,str s]=some (int (JV op s)):=by
 unfold lim at h
 refine zb rfl ?_
 by_cases h500:(500:Int)<s.length
 ·have hv:JV op s=2:=by unfold JV;rw[if_pos h500]
  simp[h500,hv,f98]
 have hrr:=fun hp nx=>wu rrP s hp nx (by unfold lim;omega)
 simp only[rrP] at hrr
 have hv:JV op s=if zU 32 126 s=true then (if op=11 then (yD s).2 else 0) else 1:=by unfold JV;rw[if_neg h500]
 simp[h500]
 refine zu (fun k σ hp nx=>σ 0=int op∧σ 1=str s∧σ 12=int s.length∧σ 13=int k∧zU 32 126 s=zU 32 126 (s.drop k)) s.length ⟨by simp,by simp,by simp,by simp,by simp⟩ ?_
 rintro k σ hp nx hk ⟨h0,h1,h12,h13,he⟩
 by_cases hlt:k<s.length
 ·have hw:IntKind.i64.wrap ((k:Int)+1)=(k:Int)+1:=zc (by omega) (by omega)
  rw[yX hlt] at he
  have ho:=Y5 32 126 s[k]
  simp only[Int.cast_ofNat_Int] at ho
  cases hc:pr 32 126 s[k]
  ·have he:zU 32 126 s=false:=by rw[he,hc];rfl
   rw[he,if_neg (by simp)] at hv
   simp[h0,h1,h12,h13,hlt,hv,ho,hc,f98]
  ·simp[h0,h1,h12,h13,hlt,ho,hc,hw]
   exact⟨hlt,by rw[he,hc];rfl⟩
 ·obtain rfl:k=s.length:=by omega
  have he:zU 32 126 s=true:=by rw[he,List.drop_length];rfl
  rw[he,if_pos rfl] at hv
  by_cases h11:op=11
  ·rw[if_pos h11] at hv
   subst h11
   simp[h0,h1,h12,h13,hrr,hv,f98]
  ·rw[if_neg h11] at hv
   have h11':(op==11)=false:=by simpa using h11
   simp[h0,h1,h12,h13,h11',hv,f98]
theorem WQ:za prog 98 (zd false [] (FIs fun op s=>int (JV op s))) :=
 zL (fn:=f98) ztM ⟨_,func98,by kernel_rfl,rfl,by kernel_rfl⟩ false [] _ fun args r h=>by
  obtain⟨⟨op,s⟩,rfl,hc,rfl⟩:=ze h
  exact⟨by simp[f98],_,YM op s hc,zK _⟩
def Xu (c:Cnd):Bool:=!inB c.kind 1 5
def opC (c:Cnd):Bool:=c.kind==4&&!inB c.op 1 12
def Xv (c:Cnd):Bool:=(c.kind==4&&!qi c.attr)||(c.kind==5&&!qi c.name)
def zrP (c:Cnd):Bool:=c.kind==4&&kR c.op
noncomputable def jm (c:Cnd):Int:=if (Xu c||opC c)=true then 4 else if kS c=true then 3 else if Xv c=true then 5 else if kM c.op c.vals=0 then (if zrP c=true then JV c.op c.pat else 0) else kM c.op c.vals
mutual
noncomputable def Cnd.fault:Cnd→Int
 | .mk k a o v p n l=>if jm (.mk k a o v p n l)=0 then faultC l else jm (.mk k a o v p n l)
noncomputable def faultC:List Cnd→Int
 | []=>0
 | c::l=>if c.fault=0 then faultC l else c.fault
end
theorem WR (c:Cnd):c.fault=if jm c=0 then faultC c.args else jm c:=by cases c;simp only[Cnd.fault];rfl
theorem QQ {l:List Cnd} {k:Nat} (h:k<l.length):faultC (l.drop k)=if l[k].fault=0 then faultC (l.drop (k+1)) else l[k].fault:=by
 rw[List.drop_eq_getElem_cons h,faultC]
noncomputable abbrev ztN (n:Nat):Ctx:=zC prog [(63,zd false [] (FC (fun c=>int c.fault) n)),(34,zd false [] (F3 inB)),(95,GC fun c=>int (if kS c=true then 3 else 0)),(15,zd false [] (FS qi)),
 (96,zd false [] (FIv fun op l=>int (kM op l))),(97,zd false [] (FIb kR)),(98,zd false [] (FIs fun op s=>int (JV op s)))]
@[simp] theorem quietcp2a (n:Nat):yj (ztN n) 34:=qN (by rfl) (zi _ _)
@[simp] theorem quietcp2b (n:Nat):yj (ztN n) 15:=qN (by rfl) (zi _ _)
@[simp] theorem quietcp2c (n:Nat):yj (ztN n) 97:=qN (by rfl) (zi _ _)
theorem Vm (n:Nat) (c:Cnd) (h:c.cb≤lim∧c.cb≤n+1):zg (ztN n) f63 [.agg c.enc]=some (int c.fault):=by
 have hcb:=xF c
 have hl1:=wJ c.args
 obtain⟨ha,hb⟩:=h
 have hf:=WR c
 have hfo:=fun hp nx=>vE (fun c=>int (if kS c=true then 3 else 0)) c hp nx ha
 have hva:=fun hp nx=>zpa (fun op l=>int (kM op l)) c.op c.vals hp nx (by omega)
 have hpa:=fun hp nx=>zpb (fun op s=>int (JV op s)) c.op c.pat hp nx (by omega)
 have hna:c.attr.length≤lim:=by omega
 have hnn:c.name.length≤lim:=by omega
 unfold lim at ha
 refine zb rfl ?_
 have e1:(!inB c.kind 1 5)=Xu c:=rfl
 have e2:(c.kind==4&&!inB c.op 1 12)=opC c:=rfl
 have e3:((c.kind==4&&!qi c.attr)||(c.kind==5&&!qi c.name))=Xv c:=rfl
 have e4:(c.kind==4&&kR c.op)=zrP c:=rfl
 cases c1:Xu c
 case true=>simp[e1,c1,hf,jm,f63]
 cases c2:opC c
 case true=>simp[e1,c1,e2,c2,hf,jm,f63]
 cases c3:kS c
 case true=>simp[e1,c1,e2,c2,hfo,c3,hf,jm,f63]
 cases c4:Xv c
 case true=>simp[e1,c1,e2,c2,hfo,c3,hna,hnn,e3,c4,hf,jm,f63]
 by_cases c5:kM c.op c.vals=0
 case neg =>
  have c5':(kM c.op c.vals != 0)=true:=by simpa using c5
  simp[e1,c1,e2,c2,hfo,c3,hna,hnn,e3,c4,hva,c5,c5',hf,jm,f63]
 have hbody:∀(hh:jm c=0),c.fault=faultC c.args:=fun hh=>by rw[hf,if_pos hh]
 cases c6:zrP c
 case false =>
  have hh:jm c=0:=by simp[jm,c1,c2,c3,c4,c5,c6]
  have hf':=hbody hh
  simp[e1,c1,e2,c2,hfo,c3,hna,hnn,e3,c4,hva,c5,e4,c6]
  refine zu (fun k σ hp nx=>σ 73=.sl 7 (c.args.map Cnd.enc)∧σ 74=int c.args.length∧σ 75=int k∧faultC c.args=faultC (c.args.drop k)) c.args.length ⟨by simp,by simp,by simp,by simp⟩ ?_
  rintro k σ hp nx hk ⟨h73,h74,h75,he⟩
  by_cases hlt:k<c.args.length
  ·have hm:=jl (List.getElem_mem hlt)
   have hw:IntKind.i64.wrap ((k:Int)+1)=(k:Int)+1:=zc (by omega) (by omega)
   have hcall:=fun hp nx=>vD (fun c=>int c.fault) n c.args[k] hp nx ⟨by unfold lim;omega,by omega⟩
   rw[QQ hlt] at he
   by_cases hz:c.args[k].fault=0
   ·rw[if_pos hz] at he
    simp[h73,h74,h75,hlt,hcall,hz,hw]
    exact⟨by omega,he⟩
   ·rw[if_neg hz] at he
    have hz2:(c.args[k].fault != 0)=true:=by simpa using hz
    simp[h73,h74,h75,hlt,hcall,hz2,hf',he,f63]
  ·obtain rfl:k=c.args.length:=by omega
   rw[List.drop_length] at he
   have he:faultC c.args=0:=by rw[he];rfl
   simp[h73,h74,h75,hf',he,f63]
 case true =>
  by_cases c7:JV c.op c.pat=0
  case neg =>
   have c7':(JV c.op c.pat != 0)=true:=by simpa using c7
   simp[e1,c1,e2,c2,hfo,c3,hna,hnn,e3,c4,hva,c5,e4,c6,hpa,c7,c7',hf,jm,f63]
  have hh:jm c=0:=by simp[jm,c1,c2,c3,c4,c5,c6,c7]
  have hf':=hbody hh
  simp[e1,c1,e2,c2,hfo,c3,hna,hnn,e3,c4,hva,c5,e4,c6,hpa,c7]
  refine zu (fun k σ hp nx=>σ 73=.sl 7 (c.args.map Cnd.enc)∧σ 74=int c.args.length∧σ 75=int k∧faultC c.args=faultC (c.args.drop k)) c.args.length ⟨by simp,by simp,by simp,by simp⟩ ?_
  rintro k σ hp nx hk ⟨h73,h74,h75,he⟩
  by_cases hlt:k<c.args.length
  ·have hm:=jl (List.getElem_mem hlt)
   have hw:IntKind.i64.wrap ((k:Int)+1)=(k:Int)+1:=zc (by omega) (by omega)
   have hcall:=fun hp nx=>vD (fun c=>int c.fault) n c.args[k] hp nx ⟨by unfold lim;omega,by omega⟩
   rw[QQ hlt] at he
   by_cases hz:c.args[k].fault=0
   ·rw[if_pos hz] at he
    simp[h73,h74,h75,hlt,hcall,hz,hw]
    exact⟨by omega,he⟩
   ·rw[if_neg hz] at he
    have hz2:(c.args[k].fault != 0)=true:=by simpa using hz
    simp[h73,h74,h75,hlt,hcall,hz2,hf',he,f63]
  ·obtain rfl:k=c.args.length:=by omega
   rw[List.drop_length] at he
   have he:faultC c.args=0:=by rw[he];rfl
   simp[h73,h74,h75,hf',he,f63]
set_option maxRecDepth 100000 in
theorem JI:∀n,za prog 63 (zd false [] (FC (fun c=>int c.fault) n)):=by
 intro n
 induction n with
 | zero=>exact zbP ⟨_,func63,by kernel_rfl,by kernel_rfl⟩
 | succ n ih =>
   have hg:AM.Good (ztN n) (fun g=>[34,15,97].contains g):=zk mixed ⟨ih,by simp,jI,fun _=>zi _ _,Vl,by simp,vf,fun _=>zi _ _,YL,by simp,Vk,fun _=>zi _ _,WQ,by simp,trivial⟩
   exact zL (fn:=f63) hg ⟨_,func63,by kernel_rfl,rfl,by kernel_rfl⟩ false [] _ fun args r h=>by
    obtain⟨c,rfl,hc,rfl⟩:=xS h
    exact⟨Nat.le_trans (Nat.le_refl 1) (by decide),_,Vm n c hc,zK _⟩
noncomputable def Cnd.check (c:Cnd):Int:=if (decide ((200:Int)<c.parts)||decide ((20:Int)<c.levels))=true then 2 else c.fault
noncomputable abbrev zwS:Ctx:=zC prog [(63,GC fun c=>int c.fault),(62,GC fun c=>.tup [int c.parts,int c.levels])]
theorem zd6:za prog 39 (GC fun c=>int c.check) :=
 zL (fn:=f39) (zk (q:=[]) mixed ⟨JI lim,by simp,zbQ lim,by simp,trivial⟩:AM.Good zwS _) ⟨_,func39,by kernel_rfl,rfl,by kernel_rfl⟩ false [] _ fun args r h=>by
  obtain⟨c,rfl,hc,rfl⟩:=xS h
  have h1:=fun hp nx=>vE (fun c=>int c.fault) c hp nx hc.1
  have h2:=fun hp nx=>vE (fun c=>.tup [int c.parts,int c.levels]) c hp nx hc.1
  refine⟨by simp[f39],_,zb rfl ?_,zK _⟩
  cases hk:(decide ((200:Int)<c.parts)||decide ((20:Int)<c.levels))
  ·simp[h1,h2,hk,f39,Cnd.check]
  ·simp[h1,h2,hk,f39,Cnd.check]
structure XS (v:Val) (o3 o4:PV) (hp:Hp) (nx:Nat):Prop where
 b0:hp 0=some ⟨61,5,false,[[int v.kind,int v.n,str v.s,o3,o4]]⟩
 b1:hp 1=some ⟨61,5,false,[[int 0,int 0,.v (.string ⟨#[]⟩),.nil,.nil]]⟩
 s3:OwnS hp nx 61 5 o3 (v.items.map Val.enc)
 s4:OwnS hp nx 95 6 o4 (v.fields.map wF)
 d3:∀id m,id<2→o3≠.own id 0 m
 d4:∀id m,id<2→o4≠.own id 0 m
 d:∀id m m',o3=.own id 0 m→o4≠.own id 0 m'
 nx2:2≤nx
theorem XS.more {v:Val} {o3 o4:PV} {hp:Hp} {nx:Nat} (h:XS v o3 o4 hp nx) (b:Option Blk):XS v o3 o4 (upd hp nx b) (nx+1):=by
 have:=h.nx2
 exact⟨by rw[zq _ _ _ _ (by omega)];exact h.b0,by rw[zq _ _ _ _ (by omega)];exact h.b1,h.s3.more b,h.s4.more b,h.d3,h.d4,h.d,by omega⟩
end Go.Proofs.YtjcofiomfmebkaaGreatDoor
