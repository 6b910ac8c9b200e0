/-
The checker: its holds.
The checker: one experiment (any segment is let in).
The checker: what comes too near; the check of a book.
The check of a book.
What a layer gives: the check, what an experiment has, what is free.
-/
import Derived.Test.YtglppmnehgjolaaGreatDoorG20
set_option maxRecDepth 8000
namespace Go.Proofs.YtglppmnehgjolaaGreatDoor
open Go.Proofs.Tryz
open Go.RowKit Go.AM Go.SpanLaw
def leP (p:Option (List UInt8)) (s:List UInt8):Bool:=match p with
 | none=>false
 | some q=>leB s q
noncomputable def holdLs (L:List Lyr):Option (List UInt8)→List (List UInt8)→Int
 | _,[]=>0
 | p,s::l=>if (bsN (L.map Lyr.name) s).2=true then (if leP p s=true then 8 else holdLs L (some s) l) else 9
noncomputable def holdF (L:List Lyr) (x:Hld):Int:=if inB x.buckets 1 100000=true then (if x.layers.length=0 then 9 else holdLs L none x.layers) else 1
noncomputable def kI (L:List Lyr):List UInt8→List (List UInt8)→List Hld→Int×List (List UInt8)
 | _,l,[]=>(0,l)
 | before,l,x::xs=>if yH x.name before=0 then (if jR l x.salt=0 then (if holdF L x=0 then kI L x.name (jC l x.salt) xs else (holdF L x,jC l x.salt)) else (jR l x.salt,jC l x.salt)) else (yH x.name before,l)
def prevT (l:List (List UInt8)) (k:Nat):Option (List UInt8):=if k=0 then none else l[k - 1]?
noncomputable abbrev Chol:Ctx:=zN prog [(91,zd false [] (FSS2 fun a b=>int (yH a b))),(92,hRun Csal f92),(13,zd false [] (F3 inB)),(12,zd false [] FOfL)]
theorem goodhol:AM.Good Chol (fun g=>([]:List Nat).contains g):=zr mixed ⟨jy,by simp,salt_sound,by simp,ww,by simp,vF,by simp,trivial⟩
set_option maxRecDepth 100000 in
theorem holds_sound:za prog 67 (hRun Chol f67):=zS (code:=_) goodhol ⟨func67,by kernel_rfl,rfl,by kernel_rfl⟩
set_option maxHeartbeats 2000000 in
theorem holds_run (b:Bk) (l:List (List UInt8)) (hb:b.cb≤lim) (any:Bool) (hp0:Hp) (nx0 id m g:Nat) (hid:id<nx0) (hmd:m<nx0) (hne:id≠m) (hc0:hp0 id=some (blkC b m g any)) (hm0:hp0 m=some (blkM l)) :
  ∃x hp' nx',hRun Chol f67 [.ref id 0 0] hp0 nx0=some (x,hp',nx')∧jS (int (kI b.layers [] l b.holds).1) (kI b.layers [] l b.holds).2 m hp0 nx0 x hp' nx':=by
 unfold hRun
 rw[if_pos (by simp[f67])]
 refine zn rfl ?_
 have hlen:=qb hld_pos b.holds
 have hleL:=qb vA b.layers
 have hbc:b.cb=sumB Lyr.cb b.layers+sumB Hld.cb b.holds+sumB Xp.cb b.exps:=rfl
 unfold lim at hb
 have hc:=hc0
 rw[yN] at hc
 simp[hc]
 refine zD (fun k σ hp nx=>σ 0=.ref id 0 0∧σ 16=.sl 4 (b.holds.map Hld.enc)∧σ 17=int b.holds.length∧σ 18=int k∧nx0≤nx∧(∀j,j<nx0→j≠m→hp j=hp0 j)∧∃(before:List UInt8) (l':List (List UInt8)),σ 3=str before∧hp m=some (blkM l')∧kI b.layers [] l b.holds=kI b.layers before l' (b.holds.drop k)) b.holds.length
  ⟨by simp,by simp,by simp,by simp,Nat.le_refl _,fun _ _ _=>rfl,[],l,by simp,hm0,by simp⟩ ?_
 rintro k σ hp nx hk ⟨h0,h16,h17,h18,hnx,hfr,before,l',h3,hm,he⟩
 by_cases hlt:k<b.holds.length
 ·obtain⟨x,hx⟩:∃x,b.holds[k]=x:=⟨_,rfl⟩
  have hmx:=qL (f:=Hld.cb) (List.getElem_mem hlt)
  rw[hx] at hmx
  have hxc:x.cb=1+x.name.length+x.salt.length+sumB (fun s=>1+s.length) x.layers:=rfl
  have hxl:=qb (f:=fun s:List UInt8=>1+s.length) (fun _=>by omega) x.layers
  rw[List.drop_eq_getElem_cons hlt,hx] at he
  simp only[kI] at he
  have hw:IntKind.i64.wrap ((k:Int)+1)=(k:Int)+1:=zi (by omega) (by omega)
  have hnf:=fun hp nx=>FSS2_call (fun a b=>int (yH a b)) x.name before hp nx (by unfold lim;omega) (by simp)
  have nm:¬m=nx:=by omega
  have ni:¬id=nx:=by omega
  have hci:upd hp nx (some ⟨103,4,false,[x.enc]⟩) id=some (blkC b m g any):=by rw[zc _ _ _ _ ni,hfr id hid hne];exact hc0
  have hmi:upd hp nx (some ⟨103,4,false,[x.enc]⟩) m=some (blkM l'):=by rw[zc _ _ _ _ nm];exact hm
  have hsr:=salt_run b l' x.salt (by unfold lim;omega) any _ (nx+1) id m g hci hmi
  simp only[Hld.enc] at hsr
  have hnx':¬nx=m:=by omega
  by_cases c1:yH x.name before=0
  case neg =>
   rw[if_neg c1] at he
   have c1':(yH x.name before != 0)=true:=by simpa using c1
   simp[h0,h3,h16,h17,h18,hlt,hx,Hld.enc,hnf,c1',f67,jS,he]
   exact⟨by omega,by rw[zc _ _ _ _ nm];exact hm,fun j hj hjm=>by rw[zc _ _ _ _ (by omega)];exact hfr j hj hjm⟩
  rw[if_pos c1] at he
  by_cases c2:jR l' x.salt=0
  case neg =>
   rw[if_neg c2] at he
   have c2':(jR l' x.salt != 0)=true:=by simpa using c2
   simp[h0,h3,h16,h17,h18,hlt,hx,Hld.enc,hnf,c1,hsr,c2',f67,jS,he]
   exact⟨by omega,fun j hj hjm=>by rw[zc _ _ _ _ hjm,zc _ _ _ _ (by omega)];exact hfr j hj hjm⟩
  rw[if_pos c2] at he
  cases c3:inB x.buckets 1 100000
  ·have hf:holdF b.layers x=1:=by unfold holdF;rw[c3,if_neg (by simp)]
   rw[hf,if_neg (by decide)] at he
   simp[h0,h3,h16,h17,h18,hlt,hx,Hld.enc,hnf,c1,hsr,c2,c3,hnx',f67,jS,he]
   exact⟨by omega,fun j hj hjm=>by rw[zc _ _ _ _ hjm,zc _ _ _ _ (by omega)];exact hfr j hj hjm⟩
  by_cases c4:x.layers.length=0
  ·have hf:holdF b.layers x=9:=by unfold holdF;rw[c3,if_pos rfl,if_pos c4]
   rw[hf,if_neg (by decide)] at he
   have hel:(encT x.layers).length=0:=by simpa[encT] using c4
   simp[h0,h3,h16,h17,h18,hlt,hx,Hld.enc,hel,hnf,c1,hsr,c2,c3,hnx',f67,jS,he]
   exact⟨by omega,fun j hj hjm=>by rw[zc _ _ _ _ hjm,zc _ _ _ _ (by omega)];exact hfr j hj hjm⟩
  have hf:holdF b.layers x=holdLs b.layers none x.layers:=by unfold holdF;rw[c3,if_pos rfl,if_neg c4]
  rw[hf] at he
  have c4':((x.layers.length:Int)==0)=false:=by rw[beq_eq_false_iff_ne];omega
  have hel:(encT x.layers).length=x.layers.length:=by simp[encT]
  simp[h0,h3,h16,h17,h18,hlt,hx,Hld.enc,hel,hnf,c1,hsr,c2,c3,c4',hnx']
  obtain⟨P,hP⟩:∃P,nx=P:=⟨_,rfl⟩
  rw[hP]
  refine zD (fun i σ hp nx=>σ 0=.ref id 0 0∧σ 16=.sl 4 (b.holds.map Hld.enc)∧σ 17=int b.holds.length∧σ 18=int k∧σ 5=.ref P 0 0∧σ 47=.sl 1 (encT x.layers)∧σ 48=int x.layers.length∧σ 49=int i∧nx0≤P∧P<nx∧hp P=some ⟨103,4,false,[x.enc]⟩∧(∀j,j<nx0→j≠m→hp j=hp0 j)∧hp m=some (blkM (jC l' x.salt))∧holdLs b.layers none x.layers=holdLs b.layers (prevT x.layers i) (x.layers.drop i)) x.layers.length
   ⟨by simp[h0],by simp[h16],by simp[h17],by simp[h18],by simp,by simp,by simp,by simp,by omega,(by show P<P+1;omega),by simp[Hld.enc,show ¬P=m by omega],fun j hj hjm=>by simp only;rw[zc _ _ _ _ hjm,zc _ _ _ _ (by omega)];exact hfr j hj hjm,by simp,by simp[prevT]⟩ ?_
  clear h0 h3 h16 h17 h18 hnx hfr hm hsr hci hmi hnf nm ni hnx' hP σ hp nx
  rintro i σ hp nx hi ⟨h0,h16,h17,h18,h5,h47,h48,h49,hP,hPn,hbP,hfr,hm,hh⟩
  have hci:hp id=some (blkC b m g any):=by rw[hfr id hid hne];exact hc0
  rw[yN] at hci
  by_cases hlti:i<x.layers.length
  ·obtain⟨s,hs⟩:∃s,x.layers[i]=s:=⟨_,rfl⟩
   have hms:=qL (f:=fun s:List UInt8=>1+s.length) (List.getElem_mem hlti)
   rw[hs] at hms
   have hpn:prevT x.layers (i+1)=some s:=by simp[prevT,hlti,hs]
   rw[List.drop_eq_getElem_cons hlti,hs] at hh
   simp only[holdLs] at hh
   have hke:∀h:i<(encT x.layers).length,(encT x.layers)[i]=[str s]:=fun h=>by simp[encT,hs]
   have hof:=fun hp nx=>vE b.layers s hp nx (by unfold lim;omega)
   have hwi:IntKind.i64.wrap ((i:Int)+1)=(i:Int)+1:=zi (by omega) (by omega)
   have hel:i<(encT x.layers).length:=by simp[encT,hlti]
   cases d1:(bsN (b.layers.map Lyr.name) s).2
   ·rw[d1,if_neg (by simp)] at hh
    rw[hh,if_neg (by decide)] at he
    simp[h0,h5,h16,h17,h18,h47,h48,h49,hlti,hel,hke,hci,hof,d1,he,f67,jS]
    exact⟨by omega,hm,hfr⟩
   rw[d1,if_pos rfl] at hh
   by_cases k0:i=0
   ·subst k0
    rw[show leP (prevT x.layers 0) s=false from rfl,if_neg (by simp)] at hh
    simp[h0,h5,h16,h17,h18,h47,h48,h49,hlti,hel,hke,hci,hof,d1,hwi]
    exact⟨by omega,hP,hPn,hbP,hfr,hm,by rw[hh,show prevT x.layers 1=some s from hpn];simp⟩
   ·obtain⟨j,rfl⟩:∃j,i=j+1:=⟨i - 1,by omega⟩
    have hj:j<x.layers.length:=by omega
    have hej:j<(encT x.layers).length:=by simp[encT,hj]
    have hkj:∀h:j<(encT x.layers).length,(encT x.layers)[j]=[str x.layers[j]]:=fun h=>by simp[encT]
    have wj:IntKind.i64.wrap ((j:Int)+1 - 1)=(j:Int):=by rw[zi (by omega) (by omega)];omega
    have wj':IntKind.i64.wrap (j:Int)=(j:Int):=zi (by omega) (by omega)
    have wk:IntKind.i64.wrap ((j:Int)+1+1)=(j:Int)+1+1:=zi (by omega) (by omega)
    have j1:((j:Int)+1).toNat=j+1:=by omega
    have j2:0<(j:Int)+1:=by omega
    have j3:0≤(j:Int)+1:=by omega
    have j4:(j:Int)+1<x.layers.length:=by omega
    have hlp:leP (prevT x.layers (j+1)) s=leB s x.layers[j]:=by simp[prevT,hj,leP]
    rw[hlp] at hh
    have hle:(Op.bytesLess s x.layers[j]||s==x.layers[j])=leB s x.layers[j]:=rfl
    rw[Hld.enc] at hbP
    cases d2:leB s x.layers[j]
    ·rw[d2,if_neg (by simp)] at hh
     simp[h0,h5,h16,h17,h18,h47,h48,h49,hlti,hel,hke,hci,hof,d1,wj,wj',wk,j1,j2,j3,j4,hbP,hej,hkj,hle,d2,hj]
     exact⟨by omega,hP,hPn,rfl,hfr,hm,by rw[hh,hpn]⟩
    ·rw[d2,if_pos rfl] at hh
     rw[hh,if_neg (by decide)] at he
     simp[h0,h5,h16,h17,h18,h47,h48,h49,hlti,hel,hke,hci,hof,d1,wj,wj',wk,j1,j2,j3,j4,hbP,hej,hkj,hle,d2,hj,he,f67,jS]
     exact⟨by omega,hm,hfr⟩
  ·obtain rfl:i=x.layers.length:=by omega
   rw[List.drop_length] at hh
   simp only[holdLs] at hh
   rw[hh,if_pos rfl] at he
   have hnP:¬P=m:=by omega
   rw[Hld.enc] at hbP
   simp[h0,h5,h16,h17,h18,h47,h48,h49,hbP,hw]
   exact⟨by omega,by omega,hfr,_,hm,he⟩
 ·obtain rfl:k=b.holds.length:=by omega
  rw[List.drop_length] at he
  simp only[kI] at he
  simp[h0,h16,h17,h18,f67,jS,he]
  exact⟨hnx,hm,hfr⟩
noncomputable abbrev Cnam:Ctx:=zN prog []
theorem goodnam:AM.Good Cnam (fun g=>[121].contains g):=zr mixed trivial
set_option maxRecDepth 100000 in
theorem names_sound:za prog 95 (hRun Cnam f95):=zS (code:=_) goodnam ⟨func95,by kernel_rfl,rfl,by kernel_rfl⟩
theorem names_run (b:Bk) (c:Cnd) (hp:Hp) (nx id m g:Nat) (hid:id<nx) (hc:hp id=some (blkC b m g true)) :
  ∃hp',hRun Cnam f95 [.ref id 0 0,.agg c.enc] hp nx=some (boo true,hp',nx+2)∧∀j,j<nx→hp' j=hp j:=by
 unfold hRun
 rw[if_pos (by simp[f95])]
 refine⟨upd (upd hp nx (some ⟨80,1,false,[[.ref id 0 0]]⟩)) (nx+1) (some ⟨30,7,false,[c.enc]⟩),?_,fun j hj=>by rw[zc _ _ _ _ (by omega),zc _ _ _ _ (by omega)]⟩
 refine wu rfl ?_
 rw[yN] at hc
 have n1:¬id=nx:=by omega
 have n2:¬id=nx+1:=by omega
 simp[qt,hc,n1,n2,f95]
noncomputable def expF (L:List Lyr) (before:List UInt8) (l:List (List UInt8)) (x:Xp):Int×List (List UInt8) :=
 if yH x.name before=0 then (if (bsN (L.map Lyr.name) x.layer).2=true then (if wE x.flag=true then (if x.cond.check=0 then (if jR l x.salt=0 then (if jx x.arms 20=0 then (wO x.phases,jC l x.salt) else (jx x.arms 20,jC l x.salt)) else (jR l x.salt,jC l x.salt)) else (x.cond.check,l)) else (5,l)) else (9,l)) else (yH x.name before,l)
noncomputable abbrev Cexp:Ctx:=zN prog [(91,zd false [] (FSS2 fun a b=>int (yH a b))),(12,zd false [] FOfL),(93,zd false [] (FS wE)),(94,GC fun c=>int c.check),(95,hRun Cnam f95),(92,hRun Csal f92),(96,zd false [] (FRN (fun l n=>int (jx l n)) fun _ n=>1≤n∧n≤20)),(97,zd false [] (FPh fun l=>int (wO l)))]
theorem goodexp:AM.Good Cexp (fun g=>[12].contains g):=zr mixed ⟨jy,by simp,vF,fun _=>zf _ _,vd,by simp,ccheck_sound,by simp,names_sound,by simp,salt_sound,by simp,checkRanges_sound,by simp,phases_sound,by simp,trivial⟩
set_option maxRecDepth 100000 in
theorem experiment_sound:za prog 68 (hRun Cexp f68):=zS (code:=_) goodexp ⟨func68,by kernel_rfl,rfl,by kernel_rfl⟩
set_option maxHeartbeats 2000000 in
theorem experiment_run (b:Bk) (l:List (List UInt8)) (before:List UInt8) (x:Xp) (hb:b.cb≤lim) (hxb:x.cb≤lim) (hp0:Hp) (nx0 id m g:Nat) (hid:id<nx0) (hmd:m<nx0) (hne:id≠m) (hc0:hp0 id=some (blkC b m g true)) (hm0:hp0 m=some (blkM l)) :
  ∃x1 hp' nx',hRun Cexp f68 [.ref id 0 0,.agg x.enc,str before] hp0 nx0=some (x1,hp',nx')∧jS (int (expF b.layers before l x).1) (expF b.layers before l x).2 m hp0 nx0 x1 hp' nx':=by
 unfold hRun
 rw[if_pos (by simp[f68])]
 refine zn rfl ?_
 have hleL:=qb vA b.layers
 have hbc:b.cb=sumB Lyr.cb b.layers+sumB Hld.cb b.holds+sumB Xp.cb b.exps:=rfl
 have hxc:x.cb=x.name.length+x.layer.length+x.flag.length+x.cond.cb+x.salt.length+x.arms.length+sumB Phs.cb x.phases:=rfl
 unfold lim at hb hxb
 have nm:¬m=nx0:=by omega
 have ni:¬id=nx0:=by omega
 have hnf:=fun hp nx=>FSS2_call (fun a b=>int (yH a b)) x.name before hp nx (by unfold lim;omega) (by simp)
 have hof:=fun hp nx=>vE b.layers x.layer hp nx (by unfold lim;omega)
 have hfl:x.flag.length≤lim:=by unfold lim;omega
 have hcc:=fun hp nx=>GC_call (fun c=>int c.check) x.cond hp nx (by unfold lim;omega)
 have hrg:=fun hp nx=>FRN_call (fun l n=>int (jx l n)) (fun _ n=>1≤n∧n≤20) x.arms 20 hp nx ⟨by omega,by omega⟩
 have hph:=fun hp nx=>FPh_call (fun l=>int (wO l)) x.phases hp nx (by unfold lim;omega)
 obtain⟨hp1,hnr,hk1⟩:=names_run b x.cond (upd hp0 nx0 (some ⟨34,13,false,[x.enc]⟩)) (nx0+1) id m g (by omega) (by rw[zc _ _ _ _ ni];exact hc0)
 have hci:hp1 id=some (blkC b m g true):=by rw[hk1 id (by omega),zc _ _ _ _ ni];exact hc0
 have hmi:hp1 m=some (blkM l):=by rw[hk1 m (by omega),zc _ _ _ _ nm];exact hm0
 have hxi:hp1 nx0=some ⟨34,13,false,[x.enc]⟩:=by rw[hk1 nx0 (by omega)];simp
 have hfr:∀j,j<nx0→hp1 j=hp0 j:=fun j hj=>by rw[hk1 j (by omega),zc _ _ _ _ (by omega)]
 have hsr:=salt_run b l x.salt (by unfold lim;omega) true hp1 (nx0+1+2) id m g hci hmi
 have hnx':¬nx0=m:=by omega
 have hc:=hc0
 rw[yN] at hc
 rw[zF] at hnr hxi
 rw[qt] at hnr
 simp only[qt] at hcc
 rw[zF]
 by_cases c1:yH x.name before=0
 case neg =>
  have hv:expF b.layers before l x=(yH x.name before,l):=by unfold expF;rw[if_neg c1]
  have c1':(yH x.name before != 0)=true:=by simpa using c1
  simp[hnf,c1',hv,f68,jS]
  exact⟨by rw[zc _ _ _ _ nm];exact hm0,fun j hj hjm=>by rw[zc _ _ _ _ (by omega)]⟩
 cases c2:(bsN (b.layers.map Lyr.name) x.layer).2
 ·have hv:expF b.layers before l x=(9,l):=by unfold expF;rw[if_pos c1,c2,if_neg (by simp)]
  simp[hnf,c1,ni,hc,hof,c2,hv,f68,jS]
  exact⟨by rw[zc _ _ _ _ nm];exact hm0,fun j hj hjm=>by rw[zc _ _ _ _ (by omega)]⟩
 cases c3:wE x.flag
 ·have hv:expF b.layers before l x=(5,l):=by unfold expF;rw[if_pos c1,c2,if_pos rfl,c3,if_neg (by simp)]
  simp[hnf,c1,ni,hc,hof,c2,hfl,c3,hv,f68,jS]
  exact⟨by rw[zc _ _ _ _ nm];exact hm0,fun j hj hjm=>by rw[zc _ _ _ _ (by omega)]⟩
 by_cases c4:x.cond.check=0
 case neg =>
  have hv:expF b.layers before l x=(x.cond.check,l):=by unfold expF;rw[if_pos c1,c2,if_pos rfl,c3,if_pos rfl,if_neg c4]
  have c4':(x.cond.check != 0)=true:=by simpa using c4
  simp[hnf,c1,ni,hc,hof,c2,hfl,c3,hcc,c4',hv,f68,jS]
  exact⟨by rw[zc _ _ _ _ nm];exact hm0,fun j hj hjm=>by rw[zc _ _ _ _ (by omega)]⟩
 by_cases c5:jR l x.salt=0
 case neg =>
  have hv:expF b.layers before l x=(jR l x.salt,jC l x.salt):=by unfold expF;rw[if_pos c1,c2,if_pos rfl,c3,if_pos rfl,if_pos c4,if_neg c5]
  have c5':(jR l x.salt != 0)=true:=by simpa using c5
  simp[hnf,c1,ni,hc,hof,c2,hfl,c3,hcc,c4,hnr,hxi,hsr,c5',hv,f68,jS]
  exact⟨by omega,fun j hj hjm=>by rw[zc _ _ _ _ hjm];exact hfr j hj⟩
 by_cases c6:jx x.arms 20=0
 case neg =>
  have hv:expF b.layers before l x=(jx x.arms 20,jC l x.salt):=by unfold expF;rw[if_pos c1,c2,if_pos rfl,c3,if_pos rfl,if_pos c4,if_pos c5,if_neg c6]
  have c6':(jx x.arms 20 != 0)=true:=by simpa using c6
  simp[hnf,c1,ni,hc,hof,c2,hfl,c3,hcc,c4,hnr,hxi,hnx',hsr,c5,hrg,c6',hv,f68,jS]
  exact⟨by omega,fun j hj hjm=>by rw[zc _ _ _ _ hjm];exact hfr j hj⟩
 ·have hv:expF b.layers before l x=(wO x.phases,jC l x.salt):=by unfold expF;rw[if_pos c1,c2,if_pos rfl,c3,if_pos rfl,if_pos c4,if_pos c5,if_pos c6]
  simp[hnf,c1,ni,hc,hof,c2,hfl,c3,hcc,c4,hnr,hxi,hnx',hsr,c5,hrg,c6,hph,hv,f68,jS]
  exact⟨by omega,fun j hj hjm=>by rw[zc _ _ _ _ hjm];exact hfr j hj⟩
def boxX (x:Xp):Blk:=⟨34,13,false,[x.enc]⟩
def boxI (n:Int):Blk:=⟨3,1,false,[[int n]]⟩
def cls1 (x:Xp) (rest:Int) (y:Xp):Bool:=decide (y.layer=x.layer)&&clashB x y rest
noncomputable abbrev Ccl1:Ctx:=zN prog [(99,zd false [] FClash)]
theorem goodcl1:AM.Good Ccl1 (fun g=>[99].contains g):=zr mixed ⟨clash_sound,fun _=>zf _ _,trivial⟩
set_option maxRecDepth 100000 in
theorem cls1_sound:za prog 98 (hRun Ccl1 f98):=zS (code:=_) goodcl1 ⟨func98,by kernel_rfl,rfl,by kernel_rfl⟩
theorem cls1_run (x y:Xp) (rest:Int) (hx:x.okC) (hy:y.okC) (hr:0≤rest∧rest≤100000000) (hp:Hp) (nx xb rb:Nat) (hxb:xb<nx) (hrb:rb<nx) (bx:hp xb=some (boxX x)) (br:hp rb=some (boxI rest)) :
  hRun Ccl1 f98 [.agg y.enc,.ref xb 0 0,.ref rb 0 0] hp nx=some (boo (cls1 x rest y),upd hp nx (some (boxX y)),nx+1):=by
 unfold hRun
 rw[if_pos (by simp[f98])]
 refine wu rfl ?_
 have n1:¬xb=nx:=by omega
 have n2:¬rb=nx:=by omega
 have hcl:=fun hp nx=>FClash_call x y rest hp nx ⟨hx,hy,hr.1,hr.2⟩
 rw[boxX,zF] at bx
 rw[boxI] at br
 simp only[zF] at hcl
 by_cases he:y.layer=x.layer
 ·have hd:(y.layer==x.layer)=true:=by simpa using he
  have hv:cls1 x rest y=clashB x y rest:=by simp[cls1,he]
  simp[zF,boxX,n1,n2,bx,br,hd,hcl,hv,f98]
 ·have hd:(y.layer==x.layer)=false:=by simpa using he
  have hv:cls1 x rest y=false:=by simp[cls1,he]
  simp[zF,boxX,n1,n2,bx,br,hd,hv,f98]
def clsI (x:Xp) (rest:Int):Nat→List Xp→Int
 | _,[]=>-1
 | k,y::l=>if cls1 x rest y=true then k else clsI x rest (k+1) l
theorem clsI_any (x:Xp) (rest:Int):∀(l:List Xp) (k:Nat),decide (0≤clsI x rest k l)=l.any (cls1 x rest)
 | [],k=>by simp[clsI]
 | s::l,k=>by
   by_cases h:cls1 x rest s=true
   ·have e:clsI x rest k (s::l)=k:=by simp only[clsI,if_pos h]
    rw[e,List.any_cons,h];simp
   ·have e:clsI x rest k (s::l)=clsI x rest (k+1) l:=by simp only[clsI,if_neg h]
    rw[e,clsI_any x rest l (k+1),List.any_cons,Bool.eq_false_iff.2 h];rfl
noncomputable abbrev Cxix:Ctx:=zN prog [(98,hRun Ccl1 f98)]
theorem goodxix:AM.Good Cxix (fun g=>([]:List Nat).contains g):=zr mixed ⟨cls1_sound,by simp,trivial⟩
set_option maxRecDepth 100000 in
theorem xix_sound:za prog 56 (hRun Cxix f56):=zS (code:=_) goodxix ⟨func56,by kernel_rfl,rfl,by kernel_rfl⟩
def fnX (xb rb:Nat):PV:=.fn (.func 98) [] [.ref xb 0 0,.ref rb 0 0]
def KeepX (r:PV) (hp:Hp) (nx:Nat) (x:PV) (hp':Hp) (nx':Nat):Prop:=x=r∧nx≤nx'∧∀j,j<nx→hp' j=hp j
theorem xix_run (l:List Xp) (x:Xp) (rest:Int) (hl:l.length≤lim) (hs:∀s∈l,s.okC) (hx:x.okC) (hr:0≤rest∧rest≤100000000) (hp0:Hp) (nx0 xb rb:Nat) (hxb:xb<nx0) (hrb:rb<nx0) (bx:hp0 xb=some (boxX x)) (br:hp0 rb=some (boxI rest)) :
  ∃x1 hp' nx',hRun Cxix f56 [.sl 13 (l.map Xp.enc),fnX xb rb] hp0 nx0=some (x1,hp',nx')∧KeepX (int (clsI x rest 0 l)) hp0 nx0 x1 hp' nx':=by
 unfold hRun
 rw[if_pos (by simp[f56])]
 refine zn rfl ?_
 unfold lim at hl
 simp[fnX]
 refine zD (fun k σ hp nx=>σ 0=.sl 13 (l.map Xp.enc)∧σ 1=fnX xb rb∧σ 7=int l.length∧σ 8=int k∧nx0≤nx∧(∀j,j<nx0→hp j=hp0 j)∧clsI x rest 0 l=clsI x rest k (l.drop k)) l.length ⟨by simp,by simp[fnX],by simp,by simp,Nat.le_refl _,fun _ _=>rfl,by simp⟩ ?_
 rintro k σ hp nx hk ⟨h0,h1,h7,h8,hnx,hfr,he⟩
 by_cases hlt:k<l.length
 ·have hw:IntKind.i64.wrap ((k:Int)+1)=(k:Int)+1:=zi (by omega) (by omega)
  have hrun:=cls1_run x l[k] rest hx (hs _ (List.getElem_mem hlt)) hr hp nx xb rb (by omega) (by omega) (by rw[hfr xb hxb];exact bx) (by rw[hfr rb hrb];exact br)
  simp only[zF] at hrun
  rw[List.drop_eq_getElem_cons hlt] at he
  simp only[clsI] at he
  cases hz:cls1 x rest l[k]
  ·rw[hz,if_neg (by simp)] at he
   rw[hz] at hrun
   simp[h0,h1,h7,h8,fnX,hlt,zF,hrun,hw]
   exact⟨hlt,by omega,fun j hj=>by rw[zc _ _ _ _ (by omega)];exact hfr j hj,he⟩
  ·rw[hz,if_pos rfl] at he
   rw[hz] at hrun
   simp[h0,h1,h7,h8,fnX,hlt,zF,hrun,hw,f56]
   exact⟨by rw[he],by omega,fun j hj=>by rw[zc _ _ _ _ (by omega)];exact hfr j hj⟩
 ·obtain rfl:k=l.length:=by omega
  rw[List.drop_length] at he
  simp only[clsI] at he
  simp[h0,h1,h7,h8,f56]
  exact⟨by rw[he],hnx,hfr⟩
noncomputable abbrev Cxtn:Ctx:=zN prog [(56,hRun Cxix f56)]
theorem goodxtn:AM.Good Cxtn (fun g=>([]:List Nat).contains g):=zr mixed ⟨xix_sound,by simp,trivial⟩
set_option maxRecDepth 100000 in
theorem xtn_sound:za prog 28 (hRun Cxtn f28):=zS (code:=_) goodxtn ⟨func28,by kernel_rfl,rfl,by kernel_rfl⟩
theorem xtn_run (l:List Xp) (x:Xp) (rest:Int) (hl:l.length≤lim) (hs:∀s∈l,s.okC) (hx:x.okC) (hr:0≤rest∧rest≤100000000) (hp0:Hp) (nx0 xb rb:Nat) (hxb:xb<nx0) (hrb:rb<nx0) (bx:hp0 xb=some (boxX x)) (br:hp0 rb=some (boxI rest)) :
  ∃x1 hp' nx',hRun Cxtn f28 [.sl 13 (l.map Xp.enc),fnX xb rb] hp0 nx0=some (x1,hp',nx')∧KeepX (boo (l.any (cls1 x rest))) hp0 nx0 x1 hp' nx':=by
 unfold hRun
 rw[if_pos (by simp[f28])]
 refine zn rfl ?_
 obtain⟨x1,hp',nx',h1,h2,h3,h4⟩:=xix_run l x rest hl hs hx hr hp0 nx0 xb rb hxb hrb bx br
 subst h2
 have ha:=clsI_any x rest l 0
 simp only[fnX] at h1
 simp[fnX,h1,ha,KeepX,h3,f28]
 exact h4
theorem slX (hp:Hp) (l:List Xp) (k:Nat) (h:k≤l.length):wx prog hp 24 (.sl 13 (l.map Xp.enc)) none (some (some (int k)))=some (.sl 13 ((l.take k).map Xp.enc)):=by
 simp[wx,h]
noncomputable def restOf (L:List Lyr) (s:List UInt8):Int:=match L[(bsN (L.map Lyr.name) s).1]? with
 | some y=>y.rest
 | none=>0
noncomputable def clsF (L:List Lyr) (all:List Xp):Nat→List Xp→Bool
 | _,[]=>false
 | i,x::l=>(all.take i).any (cls1 x (restOf L x.layer))||clsF L all (i+1) l
noncomputable abbrev Ccls:Ctx:=zN prog [(12,zd false [] FOfL),(28,hRun Cxtn f28)]
theorem goodcls:AM.Good Ccls (fun g=>[12].contains g):=zr mixed ⟨vF,fun _=>zf _ _,xtn_sound,by simp,trivial⟩
set_option maxRecDepth 100000 in
theorem clashes_sound:za prog 69 (hRun Ccls f69):=zS (code:=_) goodcls ⟨func69,by kernel_rfl,rfl,by kernel_rfl⟩
set_option maxHeartbeats 2000000 in
theorem clashes_run (b:Bk) (hb:b.cb≤lim) (hs:∀x∈b.exps,x.okC∧(bsN (b.layers.map Lyr.name) x.layer).2=true) (hr:∀y∈b.layers,0≤y.rest∧y.rest≤100000000) (any:Bool) (hp0:Hp) (nx0 id m g:Nat) (hid:id<nx0) (hc0:hp0 id=some (blkC b m g any)) :
  ∃x1 hp' nx',hRun Ccls f69 [.ref id 0 0] hp0 nx0=some (x1,hp',nx')∧KeepX (boo (clsF b.layers b.exps 0 b.exps)) hp0 nx0 x1 hp' nx':=by
 unfold hRun
 rw[if_pos (by simp[f69])]
 refine zn rfl ?_
 have hlen:=qb xp_pos b.exps
 have hleL:=qb vA b.layers
 have hbc:b.cb=sumB Lyr.cb b.layers+sumB Hld.cb b.holds+sumB Xp.cb b.exps:=rfl
 unfold lim at hb
 have hc:=hc0
 rw[yN] at hc
 simp[hc]
 refine zD (fun k σ hp nx=>σ 0=.ref id 0 0∧σ 12=.sl 13 (b.exps.map Xp.enc)∧σ 13=int b.exps.length∧σ 14=int k∧nx0≤nx∧(∀j,j<nx0→hp j=hp0 j)∧clsF b.layers b.exps 0 b.exps=clsF b.layers b.exps k (b.exps.drop k)) b.exps.length
  ⟨by simp,by simp,by simp,by simp,Nat.le_refl _,fun _ _=>rfl,by simp⟩ ?_
 rintro k σ hp nx hk ⟨h0,h12,h13,h14,hnx,hfr,he⟩
 by_cases hlt:k<b.exps.length
 ·obtain⟨x,hx⟩:∃x,b.exps[k]=x:=⟨_,rfl⟩
  have hxm:x∈b.exps:=by rw[←hx];exact List.getElem_mem hlt
  obtain⟨hxo,hxl⟩:=hs x hxm
  have hmx:=qL (f:=Xp.cb) hxm
  have hxc:x.cb=x.name.length+x.layer.length+x.flag.length+x.cond.cb+x.salt.length+x.arms.length+sumB Phs.cb x.phases:=rfl
  rw[List.drop_eq_getElem_cons hlt,hx] at he
  simp only[clsF] at he
  have hw:IntKind.i64.wrap ((k:Int)+1)=(k:Int)+1:=zi (by omega) (by omega)
  have hof:=fun hp nx=>vE b.layers x.layer hp nx (by unfold lim;omega)
  obtain⟨q,hq⟩:∃q,(bsN (b.layers.map Lyr.name) x.layer).1=q:=⟨_,rfl⟩
  have hql:q<b.layers.length:=by have:=bsN_lt hxl;rw[hq] at this;simpa using this
  obtain⟨y,hy⟩:∃y,b.layers[q]=y:=⟨_,rfl⟩
  have hyr:=hr y (by rw[←hy];exact List.getElem_mem hql)
  have hrest:restOf b.layers x.layer=y.rest:=by unfold restOf;rw[hq,List.getElem?_eq_getElem hql,hy]
  rw[hrest] at he
  have ni:¬id=nx:=by omega
  have ni2:¬id=nx+1:=by omega
  have hci:hp id=some (blkC b m g any):=by rw[hfr id hid];exact hc0
  rw[yN] at hci
  obtain⟨x1,hp',nx',h1,h2,h3,h4⟩:=xtn_run (b.exps.take k) x y.rest (by unfold lim;simp;omega) (fun s hsm=>(hs s (List.mem_of_mem_take hsm)).1) hxo hyr (upd (upd hp nx (some (boxX x))) (nx+1) (some (boxI y.rest))) (nx+1+1) nx (nx+1) (by omega) (by omega) (by rw[zc _ _ _ _ (by omega)];simp) (by simp)
  subst h2
  simp only[fnX,boxX,boxI,zF,List.map_take] at h1
  have hfr':∀j,j<nx0→hp' j=hp0 j:=fun j hj=>by rw[h4 j (by omega),zc _ _ _ _ (by omega),zc _ _ _ _ (by omega)];exact hfr j hj
  have hsl:=fun hp=>slX hp b.exps k (by omega)
  cases hz:(b.exps.take k).any (cls1 x y.rest)
  ·rw[hz,Bool.false_or] at he
   rw[hz] at h1
   simp[h0,h12,h13,h14,hlt,hx,zF,ni,ni2,hci,hof,hq,hql,hy,Lyr.enc,hsl,h1,hw]
   exact⟨by omega,by omega,hfr',he⟩
  ·rw[hz,Bool.true_or] at he
   rw[hz] at h1
   simp[h0,h12,h13,h14,hlt,hx,zF,ni,ni2,hci,hof,hq,hql,hy,Lyr.enc,hsl,h1,hw,f69,KeepX,he]
   exact⟨by omega,hfr'⟩
 ·obtain rfl:k=b.exps.length:=by omega
  rw[List.drop_length] at he
  simp only[clsF] at he
  simp[h0,h12,h13,h14,f69,KeepX,he]
  exact⟨hnx,hfr⟩
noncomputable def expsF (L:List Lyr):List UInt8→List (List UInt8)→List Xp→Int×List (List UInt8)
 | _,l,[]=>(0,l)
 | before,l,x::xs=>if (expF L before l x).1=0 then expsF L x.name (expF L before l x).2 xs else expF L before l x
noncomputable def qe (b:Bk):Int :=
 if (20:Int)<b.layers.length∨(10:Int)<b.holds.length∨(100:Int)<b.exps.length then 2
 else if (wh [] [] b.layers).1=0 then
  (if (kI b.layers [] (wh [] [] b.layers).2 b.holds).1=0 then
   (if (expsF b.layers [] (kI b.layers [] (wh [] [] b.layers).2 b.holds).2 b.exps).1=0 then (if clsF b.layers b.exps 0 b.exps=true then 13 else 0)
    else (expsF b.layers [] (kI b.layers [] (wh [] [] b.layers).2 b.holds).2 b.exps).1)
   else (kI b.layers [] (wh [] [] b.layers).2 b.holds).1)
 else (wh [] [] b.layers).1
theorem inB_iff (n lo hi:Int):inB n lo hi=true↔lo≤n∧n≤hi:=by simp[inB]
theorem layers_ok:∀{xs:List Lyr} {before:List UInt8} {l:List (List UInt8)},(wh before l xs).1=0→∀y∈xs,0≤y.rest∧y.rest≤100000000
 | [],_,_,_,y,hy=>by simp at hy
 | x::xs,before,l,h,y,hy=>by
   simp only[wh] at h
   split at h
   ·split at h
    ·split at h
     ·rename_i c3
      rcases List.mem_cons.1 hy with rfl | hy
      ·exact (inB_iff _ _ _).1 c3
      ·exact layers_ok h y hy
     ·exact absurd h (by simp)
    ·rename_i c;exact absurd h c
   ·rename_i c;exact absurd h c
theorem phF_ok:∀{xs:List Phs} {p:Option Int} {b:List Sp},phF p b xs=0→timesOk xs
 | [],_,_,_,y,hy=>by simp at hy
 | x::xs,p,b,h,y,hy=>by
   simp only[phF] at h
   split at h
   ·rename_i c1
    split at h
    ·exact absurd h (by simp)
    ·split at h
     ·split at h
      ·exact absurd h (by simp)
      ·rcases List.mem_cons.1 hy with rfl | hy
       ·exact (inB_iff _ _ _).1 c1
       ·exact phF_ok h y hy
     ·rename_i c;exact absurd h c
   ·exact absurd h (by simp)
theorem phasesF_ok {l:List Phs} (h:wO l=0):timesOk l:=by
 unfold wO at h
 split at h
 ·exact absurd h (by simp)
 ·exact phF_ok h
theorem expF_ok {L:List Lyr} {before:List UInt8} {l:List (List UInt8)} {x:Xp} (h:(expF L before l x).1=0):wO x.phases=0∧(bsN (L.map Lyr.name) x.layer).2=true∧jx x.arms 20=0∧x.cond.check=0∧yH x.name before=0:=by
 unfold expF at h
 split at h
 ·rename_i c1
  split at h
  ·rename_i c2
   split at h
   ·split at h
    ·rename_i c4
     split at h
     ·split at h
      ·rename_i c6;exact⟨h,c2,c6,c4,c1⟩
      ·rename_i c;exact absurd h c
     ·rename_i c;exact absurd h c
    ·rename_i c;exact absurd h c
   ·exact absurd h (by simp)
  ·exact absurd h (by simp)
 ·rename_i c;exact absurd h c
theorem exps_ok {L:List Lyr}:∀{xs:List Xp} {before:List UInt8} {l:List (List UInt8)},(expsF L before l xs).1=0→∀y∈xs,wO y.phases=0∧(bsN (L.map Lyr.name) y.layer).2=true
 | [],_,_,_,y,hy=>by simp at hy
 | x::xs,before,l,h,y,hy=>by
   simp only[expsF] at h
   split at h
   ·rename_i c
    rcases List.mem_cons.1 hy with rfl | hy
    ·exact⟨(expF_ok c).1,(expF_ok c).2.1⟩
    ·exact exps_ok h y hy
   ·rename_i c;exact absurd h c
noncomputable abbrev Cchk:Ctx:=zN prog [(66,hRun Clay f66),(67,hRun Chol f67),(68,hRun Cexp f68),(69,hRun Ccls f69)]
theorem goodchk:AM.Good Cchk (fun g=>([]:List Nat).contains g):=zr mixed ⟨layers_sound,by simp,holds_sound,by simp,experiment_sound,by simp,clashes_sound,by simp,trivial⟩
set_option maxRecDepth 100000 in
theorem bkCheck_sound:za prog 39 (hRun Cchk f39):=zS (code:=_) goodchk ⟨func39,by kernel_rfl,rfl,by kernel_rfl⟩
set_option maxHeartbeats 2000000 in
theorem check_run (b:Bk) (hb:b.cb≤lim) (hp0:Hp) (nx0 id m g:Nat) (hid:id<nx0) (hmd:m<nx0) (hne:id≠m) (hc0:hp0 id=some (blkC b m g true)) (hm0:hp0 m=some (blkM [])) :
  ∃x1 hp' nx',hRun Cchk f39 [.ref id 0 0] hp0 nx0=some (x1,hp',nx')∧x1=int (qe b):=by
 unfold hRun
 rw[if_pos (by simp[f39])]
 refine zn rfl ?_
 have hlen:=qb xp_pos b.exps
 have hleL:=qb vA b.layers
 have hleH:=qb hld_pos b.holds
 have hbc:b.cb=sumB Lyr.cb b.layers+sumB Hld.cb b.holds+sumB Xp.cb b.exps:=rfl
 have hb':=hb
 unfold lim at hb
 obtain⟨x1,hp1,nx1,l1,rfl,l3,l4,l5⟩:=layers_run b [] hb' true hp0 nx0 id m g hid hmd hne hc0 hm0
 have hc1:hp1 id=some (blkC b m g true):=by rw[l5 id hid hne];exact hc0
 obtain⟨e1,he1⟩:∃e,wh [] [] b.layers=e:=⟨_,rfl⟩
 rw[he1] at l1 l4
 obtain⟨x2,hp2,nx2,g1,rfl,g3,g4,g5⟩:=holds_run b e1.2 hb' true hp1 nx1 id m g (by omega) (by omega) hne hc1 l4
 have hc2:hp2 id=some (blkC b m g true):=by rw[g5 id (by omega) hne];exact hc1
 obtain⟨e2,he2⟩:∃e,kI b.layers [] e1.2 b.holds=e:=⟨_,rfl⟩
 rw[he2] at g1 g4
 obtain⟨e3,he3⟩:∃e,expsF b.layers [] e2.2 b.exps=e:=⟨_,rfl⟩
 have hc:=hc0
 rw[yN] at hc
 have hcc2:=hc2
 rw[yN] at hcc2
 by_cases a1:(20:Int)<b.layers.length
 ·have hv:qe b=2:=by unfold qe;rw[if_pos (.inl a1)]
  simp[hc,a1,hv,f39]
 by_cases a2:(10:Int)<b.holds.length
 ·have hv:qe b=2:=by unfold qe;rw[if_pos (.inr (.inl a2))]
  simp[hc,a1,a2,hv,f39]
 by_cases a3:(100:Int)<b.exps.length
 ·have hv:qe b=2:=by unfold qe;rw[if_pos (.inr (.inr a3))]
  simp[hc,a1,a2,a3,hv,f39]
 have hv0:qe b=if e1.1=0 then (if e2.1=0 then (if e3.1=0 then (if clsF b.layers b.exps 0 b.exps=true then 13 else 0) else e3.1) else e2.1) else e1.1:=by
  unfold qe;rw[if_neg (by omega),he1,he2,he3]
 by_cases c1:e1.1=0
 case neg =>
  rw[if_neg c1] at hv0
  have c1':(e1.1 != 0)=true:=by simpa using c1
  simp[hc,a1,a2,a3,l1,c1',hv0,f39]
 rw[if_pos c1] at hv0
 by_cases c2:e2.1=0
 case neg =>
  rw[if_neg c2] at hv0
  have c2':(e2.1 != 0)=true:=by simpa using c2
  simp[hc,a1,a2,a3,l1,c1,g1,c2',hv0,f39]
 rw[if_pos c2] at hv0
 simp[hc,a1,a2,a3,l1,c1,g1,c2,hcc2]
 refine zD (fun k σ hp nx=>σ 0=.ref id 0 0∧σ 48=.sl 13 (b.exps.map Xp.enc)∧σ 49=int b.exps.length∧σ 50=int k∧nx0≤nx∧hp id=some (blkC b m g true)∧∃(before:List UInt8) (l':List (List UInt8)),σ 5=str before∧hp m=some (blkM l')∧e3=expsF b.layers before l' (b.exps.drop k)) b.exps.length
  ⟨by simp,by simp,by simp,by simp,by simp;omega,hc2,[],e2.2,by simp,g4,by simp[he3]⟩ ?_
 clear l1 l3 l4 l5 hc1 g1 g3 g4 g5 hc2 hcc2 hc
 rintro k σ hp nx hk ⟨h0,h48,h49,h50,hnx,hcn,before,l',h5,hm,he⟩
 by_cases hlt:k<b.exps.length
 ·obtain⟨x,hx⟩:∃x,b.exps[k]=x:=⟨_,rfl⟩
  have hmx:=qL (f:=Xp.cb) (List.getElem_mem hlt)
  rw[hx] at hmx
  have nm:¬m=nx:=by omega
  have ni:¬id=nx:=by omega
  have hw:IntKind.i64.wrap ((k:Int)+1)=(k:Int)+1:=zi (by omega) (by omega)
  rw[List.drop_eq_getElem_cons hlt,hx] at he
  simp only[expsF] at he
  obtain⟨x3,hp3,nx3,q1,rfl,q3,q4,q5⟩:=experiment_run b l' before x hb' (by unfold lim;omega) (upd hp nx (some (boxX x))) (nx+1) id m g (by omega) (by omega) hne (by rw[zc _ _ _ _ ni];exact hcn) (by rw[zc _ _ _ _ nm];exact hm)
  have hc3:hp3 id=some (blkC b m g true):=by rw[q5 id (by omega) hne,zc _ _ _ _ ni];exact hcn
  have hx3:hp3 nx=some (boxX x):=by rw[q5 nx (by omega) (by omega)];simp
  simp only[boxX,zF] at q1 hx3
  by_cases d1:(expF b.layers before l' x).1=0
  case neg =>
   rw[if_neg d1] at he
   have hv:qe b=(expF b.layers before l' x).1:=by rw[hv0,he,if_neg d1]
   have d1':((expF b.layers before l' x).1 != 0)=true:=by simpa using d1
   simp[h0,h5,h48,h49,h50,hlt,hx,zF,q1,d1',hv,f39]
  ·rw[if_pos d1] at he
   simp[h0,h5,h48,h49,h50,hlt,hx,zF,q1,d1,hx3,hw]
   exact⟨by omega,by omega,hc3,_,q4,he⟩
 ·obtain rfl:k=b.exps.length:=by omega
  rw[List.drop_length] at he
  simp only[expsF] at he
  have hz:(expsF b.layers [] e2.2 b.exps).1=0:=by rw[he3,he]
  have hyr:=layers_ok (by rw[he1];exact c1)
  have hex:=exps_ok hz
  obtain⟨x3,hp3,nx3,q1,rfl,q3,q4⟩:=clashes_run b hb' (fun x hxm=>⟨⟨phasesF_ok (hex x hxm).1,by have:=qL (f:=Xp.cb) hxm;unfold lim;omega⟩,(hex x hxm).2⟩) hyr true hp nx id m g (by omega) hcn
  have hv:qe b=if clsF b.layers b.exps 0 b.exps=true then 13 else 0:=by rw[hv0,he,if_pos rfl]
  cases hcl:clsF b.layers b.exps 0 b.exps
  ·rw[hcl,if_neg (by simp)] at hv
   rw[hcl] at q1
   simp[h0,h48,h49,h50,q1,hv,f39]
  ·rw[hcl,if_pos rfl] at hv
   rw[hcl] at q1
   simp[h0,h48,h49,h50,q1,hv,f39]
@[simp] theorem get_ptrn (σ:Nat→PV):AM.get σ (.const (.pointer none))=some (.v (.pointer none)):=rfl
set_option maxRecDepth 100000 in
theorem checkerOf_sound:za prog 38 (hRun C0 f38):=zS (code:=_) q7 ⟨func38,by kernel_rfl,rfl,by kernel_rfl⟩
theorem checkerOf_run (b:Bk) (hp0:Hp) (nx0:Nat):∃x1 hp' nx',hRun C0 f38 [.nil,.agg b.enc] hp0 nx0=some (x1,hp',nx')∧x1=.ref (nx0+1+1+1) 0 0∧nx'=nx0+1+1+1+1∧hp' (nx0+1)=some (blkM [])∧hp' (nx0+1+1+1)=some (blkC b (nx0+1) (nx0+1+1) false):=by
 unfold hRun
 rw[if_pos (by simp[f38])]
 refine zn rfl ?_
 simp[Bk.enc,zI,zX]
 refine zD (fun k σ hp nx=>σ 14=int 0∧σ 15=int k∧σ 5=.ref (nx0+1+1+1) 0 0∧nx=nx0+1+1+1+1∧hp (nx0+1)=some (blkM [])∧hp (nx0+1+1+1)=some (blkC b (nx0+1) (nx0+1+1) false)) 0
  ⟨by simp,by simp,by simp,by simp,by simp[blkM,entM],by simp[yN]⟩ ?_
 rintro k σ hp nx hk ⟨h14,h15,h5,hnx,hm,hc⟩
 obtain rfl:k=0:=by omega
 simp[h14,h15,h5,hnx,f38]
 exact⟨hm,hc⟩
noncomputable def FBk (out:Bk→PV):List PV→Option PV:=zM (α:=Bk) (fun b=>[.agg b.enc]) (fun b=>b.cb≤lim) out
theorem FBk_call (out:Bk→PV) (b:Bk) (hp:Hp) (nx:Nat) (h:b.cb≤lim):zd false [] (FBk out) [.agg b.enc] hp nx=some (out b,hp,nx) :=
 zJ (hp1:=hp) (show zk hp [.agg b.enc]=some ([.agg b.enc],hp) by simp[Bk.enc]) (zq (enc:=fun b:Bk=>[.agg b.enc]) (a:=b) (fun a b e=>by simp only[List.cons.injEq,and_true,PV.agg.injEq] at e;exact xq e) h) (.inr (by simp[Bk.enc]))
noncomputable abbrev Cxcb:Ctx:=zN prog [(38,hRun C0 f38),(39,hRun Cchk f39)]
set_option maxRecDepth 100000 in
theorem goodxcb:AM.Good Cxcb (fun g=>([]:List Nat).contains g):=zr mixed ⟨checkerOf_sound,by simp,bkCheck_sound,by simp,trivial⟩
set_option maxRecDepth 20000 in
theorem xcb_eval (b:Bk) (h:b.cb≤lim):zl Cxcb f10 [.agg b.enc]=some (int (qe b)):=by
 refine ze rfl ?_
 obtain⟨x1,hp1,nx1,l1,rfl,rfl,l4,l5⟩:=checkerOf_run b (upd (fun _=>none) 0 (some ⟨26,3,false,[b.enc]⟩)) 1
 obtain⟨x2,hp2,nx2,g1,rfl⟩:=check_run b h (upd hp1 4 (some (blkC b 2 3 true))) 5 4 2 3 (by omega) (by omega) (by omega) (by simp) (by rw[zc _ _ _ _ (by omega)];exact l4)
 simp only[Bk.enc] at l1
 rw[yN] at l5 g1
 simp[Bk.enc,l1,l5,g1,qC,f10]
set_option maxRecDepth 100000 in
theorem xcb_sound:za prog 10 (zd false [] (FBk fun b=>int (qe b))) :=
 zZ (fn:=f10) goodxcb ⟨_,func10,by kernel_rfl,rfl,by kernel_rfl⟩ false [] _ fun args r h=>by
  obtain⟨b,rfl,hx,rfl⟩:=zg h
  exact⟨by simp[f10],_,xcb_eval b hx,zY _⟩
end Go.Proofs.YtglppmnehgjolaaGreatDoor
namespace Go.AM
open Go.RowKit
theorem OwnS.appendF {P:Program} {hp:Hp} {nx e s by_:Nat} {v:PV} {xs:List (List PV)} {ys:List (List PV)} {z:List PV} {t:TypeId} (h:OwnS hp nx e s v xs) (ht:qA P t=some e) (hs:zU P e=some s) (hb:wH P e=some by_) (hz:wt P e=some z)
  (hzl:z.length=s) (h0:0<s) (h1:xs.length+ys.length≤maxLen) (h2:(xs.length+ys.length)*by_≤140737488355328) :
  ∃v' hp' nx',zV P hp nx t t v (.sl s ys)=some (v',hp',nx')∧OwnS hp' nx' e s v' (xs++ys)∧nx≤nx'∧∀j,j<nx→(∀n,v≠.own j 0 n)→hp' j=hp j:=by
 rcases h with⟨rfl,rfl⟩ | ⟨id,hid,rfl,hh⟩
 ·simp at h1 h2
  by_cases hy:ys=[]
  ·subst hy
   exact⟨.nil,hp,nx,by simp[zV,ht,hs,hb,hz,hzl,h0,AM.view,maxLen],.inl ⟨rfl,rfl⟩,Nat.le_refl _,fun _ _ _=>rfl⟩
  ·exact⟨.own nx 0 ys.length,_,nx+1,by simp[zV,ht,hs,hb,hz,hzl,h0,h1,h2,AM.view,hy];rfl,.inr ⟨nx,by omega,by simp,by simp⟩,by omega,fun j hj _=>by rw[zc _ _ _ _ (by omega)]⟩
 ·refine⟨.own nx 0 (xs.length+ys.length),_,nx+1,by simp[zV,ht,hs,hb,hz,hzl,h0,h1,h2,AM.view,hh];rfl,.inr ⟨nx,by omega,by simp,by simp⟩,by omega,fun j hj hv=>?_⟩
  have hji:¬j=id:=fun e=>hv xs.length (by rw[e])
  rw[zc _ _ _ _ (by omega),zc _ _ _ _ hji]
end Go.AM
namespace Go.Proofs.YtglppmnehgjolaaGreatDoor
open Go.Proofs.Tryz
open Go.RowKit Go.AM Go.SpanLaw
noncomputable def FBNI (out:Bk→List UInt8→Int→PV):List PV→Option PV:=zM (α:=Bk×List UInt8×Int) (fun a=>[.agg a.1.enc,str a.2.1,int a.2.2]) (fun a=>a.1.cb≤lim) (fun a=>out a.1 a.2.1 a.2.2)
theorem kj (hp:Hp) (b:Bk):zC hp (.agg b.enc)=some (.agg b.enc,hp):=by simp[Bk.enc]
theorem noOwn_bk (b:Bk):PV.noOwn (.agg b.enc)=true:=by simp[Bk.enc]
theorem km (out:Bk→List UInt8→Int→PV) (b:Bk) (s:List UInt8) (n:Int) (hp:Hp) (nx:Nat) (h:b.cb≤lim):zd false [] (FBNI out) [.agg b.enc,str s,int n] hp nx=some (out b s n,hp,nx) :=
 zJ (hp1:=hp) (show zk hp [.agg b.enc,str s,int n]=some ([.agg b.enc,str s,int n],hp) by simp only[zk,kj];rfl) (zq (enc:=fun a:Bk×List UInt8×Int=>[.agg a.1.enc,str a.2.1,int a.2.2]) (a:=(b,s,n)) (fun x y e=>by
  obtain⟨x1,x2,x3⟩:=x;obtain⟨y1,y2,y3⟩:=y
  simp only[List.cons.injEq,and_true,PV.agg.injEq] at e
  rw[xq e.1,qa e.2.1,zG e.2.2]) h) (.inr (by simp only[List.all_cons,noOwn_bk];rfl))
def hasG (acc:List Sp) (n:Int):List Phs→List Sp
 | []=>acc
 | p::l=>hasG (if p.at_≤n then p.spans else acc) n l
noncomputable def FXI (out:Xp→Int→PV) (pre:Xp→Int→Prop):List PV→Option PV:=zM (α:=Xp×Int) (fun a=>[.agg a.1.enc,int a.2]) (fun a=>pre a.1 a.2) (fun a=>out a.1 a.2)
theorem FXI_call (out:Xp→Int→PV) (pre:Xp→Int→Prop) (x:Xp) (n:Int) (hp:Hp) (nx:Nat) (h:pre x n):zd false [] (FXI out pre) [.agg x.enc,int n] hp nx=some (out x n,hp,nx) :=
 zJ (hp1:=hp) (show zk hp [.agg x.enc,int n]=some ([.agg x.enc,int n],hp) by simp only[zk,freeze_xp];rfl) (zq (enc:=fun a:Xp×Int=>[.agg a.1.enc,int a.2]) (a:=(x,n)) (fun x y e=>by
  obtain⟨x1,x2⟩:=x;obtain⟨y1,y2⟩:=y
  simp only[List.cons.injEq,and_true,PV.agg.injEq] at e
  rw[vy e.1,zG e.2]) h) (.inr (by simp only[List.all_cons,noOwn_xp];rfl))
theorem hasX_eval (x:Xp) (n:Int) (h:x.phases.length≤lim):∃r0,zl C0 f26 [.agg x.enc,int n]=some r0∧Stands r0 (.sl 2 ((hasG [] n x.phases).map encS)):=by
 refine qF rfl ?_
 unfold lim at h
 rw[zF]
 simp
 refine zD (fun k σ hp nx=>σ 1=int n∧σ 9=.sl 2 (x.phases.map Phs.enc)∧σ 10=int x.phases.length∧σ 11=int k∧∃d,(σ 5=.sl 2 (d.map encS)∨(σ 5=.nil∧d=[]))∧hasG [] n x.phases=hasG d n (x.phases.drop k)) x.phases.length
  ⟨by simp,by simp,by simp,by simp,[],.inr ⟨by simp,rfl⟩,by simp⟩ ?_
 rintro k σ hp nx hk ⟨h1,h9,h10,h11,d,hd,he⟩
 by_cases hlt:k<x.phases.length
 ·obtain⟨p,hp0⟩:∃p,x.phases[k]=p:=⟨_,rfl⟩
  rw[List.drop_eq_getElem_cons hlt,hp0] at he
  simp only[hasG] at he
  have hw:IntKind.i64.wrap ((k:Int)+1)=(k:Int)+1:=zi (by omega) (by omega)
  by_cases hc:p.at_≤n
  ·rw[if_pos hc] at he
   simp[h1,h9,h10,h11,hlt,hp0,Phs.enc,hc,hw]
   exact⟨by omega,p.spans,rfl,he⟩
  ·rw[if_neg hc] at he
   simp[h1,h9,h10,h11,hlt,hp0,Phs.enc,hc,hw]
   exact⟨by omega,d,hd,he⟩
 ·obtain rfl:k=x.phases.length:=by omega
  rw[List.drop_length] at he
  simp only[hasG] at he
  rw[he]
  rcases hd with hd | ⟨hd,rfl⟩
  ·simp[h1,h9,h10,h11,hd,f26]
   exact⟨_,by simp,.refl _⟩
  ·simp[h1,h9,h10,h11,hd,f26]
   exact⟨_,by simp,.nilOr (.inl ⟨rfl,rfl⟩)⟩
theorem hasX_sound:za prog 26 (zd false [] (FXI (fun x n=>.sl 2 ((hasG [] n x.phases).map encS)) fun x _=>x.phases.length≤lim)) :=
 yK (fn:=f26) q7 ⟨_,func26,by kernel_rfl,rfl,by kernel_rfl⟩ false [] _ fun args r h w S vs hz=>by
  obtain⟨⟨x,n⟩,rfl,hx,rfl⟩:=zg h
  obtain⟨r0,h1,h2⟩:=hasX_eval x n hx
  exact⟨_,r0,hz,by simp[f26],h1,h2⟩
def allS (args:List PV):Option PV:=if args.isEmpty then some (.sl 2 [[int 0,int 100000]]) else none
theorem everythingL_sound:za prog 45 (zd false [] allS) :=
 zZ (fn:=f45) q7 ⟨_,func45,by kernel_rfl,rfl,by kernel_rfl⟩ false [] _ fun args r h=>by
  cases args with
  | nil =>
    injection h with h
    subst h
    have hbs:∀hp nx,zh prog hp nx 38 1 [(0,.agg [int 0,int 100000])]=some (.own nx 0 1,upd hp nx (some ⟨67,2,true,[[int 0,int 100000]]⟩),nx+1):=fun hp nx=>by
     simp[zh,zt,zj]
    exact⟨Nat.zero_le _,_,ze rfl (by simp[zI,zX,hbs,qC,f45]),zY _⟩
  | cons x l=>cases h
theorem everythingL_call (hp:Hp) (nx:Nat):zd false [] allS [] hp nx=some (.sl 2 [[int 0,int 100000]],hp,nx):=zJ (hp1:=hp) rfl rfl (.inr rfl)
noncomputable abbrev togF:List PV→Option PV:=FP (fun l=>.sl 2 ((togL (wq l)).map encS)) fun l=>Small l∧l.length≤2097152
theorem togK_sound:za prog 34 (zd true [2] togF) :=
 yK (fn:=f34) (zr (q:=[]) mixed ⟨vx,by simp,sortS_sound,by simp,trivial⟩:AM.Good Ctg _) ⟨_,func34,by kernel_rfl,rfl,by kernel_rfl⟩ true [2] _ fun args r h w S vs hz=>by
  obtain⟨l,rfl,hx,rfl⟩:=zg h
  obtain⟨u,rfl,hr⟩:=jk hz
  obtain⟨y,hy,hr2⟩:=rep_slOf hr
  obtain⟨r0,h1,h2⟩:=together_eval l (wq l) hx.1 hx.2 (kB hx.1).1 y hy
  exact⟨_,r0,.cons hr2 .nil,Nat.le_trans (Nat.le_refl 1) (by decide),h1,h2⟩
theorem togK_call {hp:Hp} {nx:Nat} {v:PV} {d:List Sp} (hO:OwnS hp nx 67 2 v (d.map encS)) (h:Small d) (hl:d.length≤2097152):∃hp',zd true [2] togF [v] hp nx=some (.sl 2 ((togL (wq d)).map encS),hp',nx):=by
 have hs:togF [.sl 2 (d.map encS)]=some (.sl 2 ((togL (wq d)).map encS)):=zq (enc:=fun l:List Sp=>[PV.sl 2 (l.map encS)]) (a:=d) (fun a b e=>by simp only[List.cons.injEq,and_true] at e;exact wM e) ⟨h,hl⟩
 rcases hO with⟨rfl,h0⟩ | ⟨id,hid,rfl,hh⟩
 ·have hd:d=[]:=by simpa using h0
  subst hd
  exact⟨hp,zJ (hp1:=hp) rfl hs (.inr rfl)⟩
 ·refine⟨upd hp id none,?_⟩
  have hf:zk hp [.own id 0 (d.map encS).length]=some ([.sl 2 (d.map encS)],upd hp id none):=by
   simp[hh]
   rw[List.take_of_length_le (by simp)]
  unfold zd
  rw[hf]
  simp only
  rw[show qr [2] [PV.sl 2 (d.map encS)]=[.sl 2 (d.map encS)] from rfl,hs]
  simp[PV.noOwn]
end Go.Proofs.YtglppmnehgjolaaGreatDoor
