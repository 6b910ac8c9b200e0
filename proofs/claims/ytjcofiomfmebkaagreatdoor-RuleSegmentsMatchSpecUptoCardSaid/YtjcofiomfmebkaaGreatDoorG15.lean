/-
Comparing versions and cuts.
-/
import Derived.Test.YtjcofiomfmebkaaGreatDoorG13
import Derived.Test.YtjcofiomfmebkaaGreatDoorG14
set_option maxRecDepth 8000
namespace Go.Proofs.YtjcofiomfmebkaaGreatDoor
open Go.Proofs.Tryz
open Go.RowKit Go.AM
def orL:List Int→Int
 | []=>0
 | n::l=>if n=0 then orL l else n
def zfw (l:List Int):List (List PV):=l.map fun n=>[int n]
@[simp] theorem encN_length (l:List Int):(zfw l).length=l.length:=by simp[zfw]
@[simp] theorem encN_at {l:List Int} {k:Nat} (h:k<(zfw l).length):(zfw l)[k]=[int (l[k]'(by simpa using h))]:=by simp[zfw]
theorem zop {a b:List Int} (h:zfw a=zfw b):a=b:=yz (fun x y e=>by simp only[List.cons.injEq,and_true] at e;exact zP e) h
noncomputable def FOr:List PV→Option PV:=zJ (α:=List Int) (fun l=>[.sl 1 (zfw l)]) (fun l=>l.length≤lim) (fun l=>int (orL l))
theorem zqU (l:List Int) (hl:l.length≤lim):zg C0 f171 [.sl 1 (zfw l)]=some (int (orL l)):=by
 refine zb rfl ?_
 unfold lim at hl
 simp
 refine zu (fun k σ hp nx=>σ 3=int 0∧σ 6=.sl 1 (zfw l)∧σ 7=int l.length∧σ 8=int k∧orL l=orL (l.drop k)) l.length ⟨by simp,by simp,by simp,by simp,by simp⟩ ?_
 rintro k σ hp nx hk ⟨h3,h6,h7,h8,he⟩
 by_cases hlt:k<l.length
 ·have hw:IntKind.i64.wrap ((k:Int)+1)=(k:Int)+1:=zc (by omega) (by omega)
  rw[List.drop_eq_getElem_cons hlt] at he
  simp only[orL] at he
  by_cases hz:l[k]=0
  ·rw[if_pos hz] at he
   simp[h3,h6,h7,h8,hlt,hz,hw]
   exact⟨hlt,he⟩
  ·rw[if_neg hz] at he
   have hz':(l[k] != 0)=true:=by simpa using hz
   simp[h3,h6,h7,h8,hlt,hz',he,f171]
 ·obtain rfl:k=l.length:=by omega
  rw[List.drop_length] at he
  simp[h3,h6,h7,h8,he,orL,f171]
theorem Wl:za prog 171 (zd false [] FOr) :=
 zL (fn:=f171) yl ⟨_,func171,by kernel_rfl,rfl,by kernel_rfl⟩ false [] _ fun args r h=>by
  obtain⟨l,rfl,hp,rfl⟩:=ze h
  exact⟨by simp[f171],_,zqU l hp,zK _⟩
theorem KI (l:List Int) (hp:Hp) (nx id:Nat) (e:Nat) (h:l.length≤lim) (hh:hp id=some ⟨e,1,true,zfw l⟩):zd false [] FOr [.own id 0 l.length] hp nx=some (int (orL l),hp,nx):=by
 have ht:(zfw l).take l.length=zfw l:=List.take_of_length_le (by simp)
 refine zH (show zj hp [.own id 0 l.length]=some ([.sl 1 (zfw l)],upd hp id none) by simp[hh,ht]) ?_ (.inl rfl)
 exact zm (enc:=fun l:List Int=>[PV.sl 1 (zfw l)]) (a:=l) (fun a b e=>by simp only[List.cons.injEq,and_true] at e;injection e with _ e;exact zop e) h
def kd (l:List UInt8):Bool:=!l.isEmpty&&vg l
noncomputable def qa (a b:List UInt8):Int:=if kd a=true then (if kd b=true then orL [qI (Lib.trimLeftB a 48).length (Lib.trimLeftB b 48).length,wW (Lib.trimLeftB a 48) (Lib.trimLeftB b 48)] else -1) else if kd b=true then 1 else wW a b
noncomputable abbrev Ccp:Ctx:=zC prog [(186,zd false [] (FS vg)),(239,zd false [] (FTT tlP fun _ b=>zle b)),(134,zd false [] (F2I qI)),(25,zd false [] (F2S wW)),(171,zd false [] FOr)]
theorem ztg:AM.Good Ccp (fun g=>[186].contains g):=zk mixed ⟨kG,fun _=>zi _ _,vu,by simp,kq,by simp,wX,by simp,Wl,by simp,trivial⟩
@[simp] theorem quietcp:yj Ccp 186:=qN (by rfl) (zi _ _)
theorem za8 (a:List UInt8) (hp:Hp) (nx:Nat) (h:a.length≤lim):zd false [] (FTT tlP fun _ b=>zle b) [str a,str [48]] hp nx=some (str (Lib.trimLeftB a 48),hp,nx):=wq _ _ a [48] hp nx h (by decide) ⟨48,rfl,by decide⟩ rfl
theorem KJ (a b:List UInt8) (ha:a.length≤lim) (hb:b.length≤lim):zg Ccp f236 [str a,str b]=some (int (qa a b)):=by
 refine zb rfl ?_
 have da:=fun hp nx=>wO vg a hp nx ha
 have db:=fun hp nx=>wO vg b hp nx hb
 have ta:=fun hp nx=>za8 a hp nx ha
 have tb:=fun hp nx=>za8 b hp nx hb
 have ea:(!a.isEmpty&&vg a)=kd a:=rfl
 have eb:(!b.isEmpty&&vg b)=kd b:=rfl
 cases h1:kd a<;>cases h2:kd b
 ·simp[da,db,ea,eb,h1,h2,qa,f236]
 ·simp[da,db,ea,eb,h1,h2,qa,f236]
 ·simp[da,db,ea,eb,h1,h2,qa,f236]
 ·have ho:∀(hp:Hp) (nx id:Nat),hp id=some ⟨3,1,true,[[int (qI (Lib.trimLeftB a 48).length (Lib.trimLeftB b 48).length)],[int (wW (Lib.trimLeftB a 48) (Lib.trimLeftB b 48))]]⟩→zd false [] FOr [.own id 0 2] hp nx=some (int (orL [qI (Lib.trimLeftB a 48).length (Lib.trimLeftB b 48).length,wW (Lib.trimLeftB a 48) (Lib.trimLeftB b 48)]),hp,nx):=fun hp nx id hh=>KI [_,_] hp nx id _ (by show 2≤lim;decide) hh
  simp[da,db,ta,tb,ea,eb,h1,h2,ho,zh,zo,zf,qa,f236]
theorem Jv:za prog 236 (zd false [] (FTT (fun a b=>int (qa a b)) fun _ _=>True)) :=
 zL (fn:=f236) ztg ⟨_,func236,by kernel_rfl,rfl,by kernel_rfl⟩ false [] _ fun args r h=>by
  obtain⟨a,b,rfl,h1,h2,_,rfl⟩:=wP h
  exact⟨by simp[f236],_,KJ a b h1 h2,zK _⟩
theorem zdj (a b:List UInt8) (hp:Hp) (nx:Nat) (h:a.length≤lim) (h2:b.length≤lim):zd false [] (FTT (fun a b=>int (qa a b)) fun _ _=>True) [str a,str b] hp nx=some (int (qa a b),hp,nx):=wq _ _ a b hp nx h h2 trivial rfl
def wo {α:Type} (c:α→α→Int):List α→List α→Int
 | [],[]=>0
 | [],_::_=>-1
 | _::_,[]=>1
 | x::a,y::b=>if c x y=0 then wo c a b else c x y
noncomputable abbrev Ccf:Ctx:=zC prog [(236,zd false [] (FTT (fun a b=>int (qa a b)) fun _ _=>True))]
theorem zth:AM.Good Ccf (fun g=>([]:List Nat).contains g):=zk mixed ⟨Jv,by simp,trivial⟩
def yL (l:List (List UInt8)):Prop:=l.length≤lim∧∀p∈l,p.length≤lim
theorem Yq (a b:List (List UInt8)) (ha:yL a) (hb:yL b):zg Ccf f235 [.sl 1 (zD a),.sl 1 (zD b),.fn (.func 236) [] []]=some (int (wo qa a b)):=by
 refine zb rfl ?_
 obtain⟨ha,hap⟩:=ha
 obtain⟨hb,hbp⟩:=hb
 unfold lim at ha hb
 simp
 refine zu (fun k σ hp nx=>σ 0=.sl 1 (zD a)∧σ 1=.sl 1 (zD b)∧σ 2=.fn (.func 236) [] []∧σ 11=.sl 1 (zD a)∧σ 12=int a.length∧σ 13=int k∧k≤b.length∧wo qa a b=wo qa (a.drop k) (b.drop k)) a.length
  ⟨by simp,by simp,by simp,by simp,by simp,by simp,by simp,by simp⟩ ?_
 rintro k σ hp nx hk ⟨h0,h1,h2,h11,h12,h13,hkb,he⟩
 by_cases hlt:k<a.length
 ·have hw:IntKind.i64.wrap ((k:Int)+1)=(k:Int)+1:=zc (by omega) (by omega)
  by_cases hltb:k<b.length
  ·have hltb':¬b.length≤k:=by omega
   have hc:=fun hp nx=>zdj a[k] b[k] hp nx (hap _ (List.getElem_mem hlt)) (hbp _ (List.getElem_mem hltb))
   rw[List.drop_eq_getElem_cons hlt,List.drop_eq_getElem_cons hltb] at he
   simp only[wo] at he
   by_cases hz:qa a[k] b[k]=0
   ·rw[if_pos hz] at he
    simp[h0,h1,h2,h11,h12,h13,hlt,hltb,hltb',hc,hz,hw]
    exact⟨hlt,by omega,he⟩
   ·rw[if_neg hz] at he
    have hz':(qa a[k] b[k] != 0)=true:=by simpa using hz
    simp[h0,h1,h2,h11,h12,h13,hlt,hltb,hltb',hc,hz',he,f235]
  ·obtain rfl:k=b.length:=by omega
   rw[List.drop_eq_getElem_cons hlt,List.drop_length] at he
   simp only[wo] at he
   simp[h0,h1,h2,h11,h12,h13,hlt,he,f235]
 ·obtain rfl:k=a.length:=by omega
  rw[List.drop_length] at he
  by_cases hl:a.length<b.length
  ·rw[List.drop_eq_getElem_cons hl] at he
   simp only[wo] at he
   simp[h0,h1,h2,h11,h12,h13,hl,he,f235]
  ·rw[List.drop_of_length_le (by omega)] at he
   simp only[wo] at he
   have hl':¬((a.length:Int)<b.length):=by omega
   simp[h0,h1,h2,h11,h12,h13,hl,he,f235]
noncomputable def FCf:List PV→Option PV:=zJ (α:=List (List UInt8)×List (List UInt8)) (fun a=>[.sl 1 (zD a.1),.sl 1 (zD a.2),.fn (.func 236) [] []]) (fun a=>yL a.1∧yL a.2) (fun a=>int (wo qa a.1 a.2))
theorem zti:∀a b:List (List UInt8)×List (List UInt8),[PV.sl 1 (zD a.1),.sl 1 (zD a.2),.fn (.func 236) [] []]=[.sl 1 (zD b.1),.sl 1 (zD b.2),.fn (.func 236) [] []]→a=b:=by
 rintro⟨a1,a2⟩ ⟨b1,b2⟩ e
 simp only[List.cons.injEq,and_true] at e
 obtain⟨e1,e2⟩:=e
 injection e1 with _ e1
 injection e2 with _ e2
 rw[wt e1,wt e2]
theorem Wm:za prog 235 (zd false [] FCf) :=
 zL (fn:=f235) zth ⟨_,func235,by kernel_rfl,rfl,by kernel_rfl⟩ false [] _ fun args r h=>by
  obtain⟨⟨a,b⟩,rfl,⟨h1,h2⟩,rfl⟩:=ze h
  exact⟨by simp[f235],_,Yq a b h1 h2,zK _⟩
theorem zqV (a b:List (List UInt8)) (hp:Hp) (nx:Nat) (h1:yL a) (h2:yL b):zd false [] FCf [.sl 1 (zD a),.sl 1 (zD b),.fn (.func 236) [] []] hp nx=some (int (wo qa a b),hp,nx) :=
 zH (hp1:=hp) (by simp) (zm (enc:=fun a:List (List UInt8)×List (List UInt8)=>[PV.sl 1 (zD a.1),.sl 1 (zD a.2),.fn (.func 236) [] []]) (a:=(a,b)) zti ⟨h1,h2⟩) (.inl rfl)
noncomputable def vU (v w:Ver):Int:=if orL [qI v.a w.a,qI v.b w.b,qI v.c w.c]=0 then (if v.pre.length=0 then (if w.pre.length=0 then 0 else 1) else if w.pre.length=0 then -1 else wo qa v.pre w.pre) else orL [qI v.a w.a,qI v.b w.b,qI v.c w.c]
noncomputable abbrev Ccv:Ctx:=zC prog [(134,zd false [] (F2I qI)),(171,zd false [] FOr),(235,zd false [] FCf)]
theorem ztj:AM.Good Ccv (fun g=>[134,171].contains g):=zk mixed ⟨kq,fun _=>zi _ _,Wl,fun _=>zi _ _,Wm,by simp,trivial⟩
theorem Qb (v w:Ver) (hv:v.small) (hw:w.small):zg Ccv f204 [.agg v.enc,.agg w.enc]=some (int (vU v w)):=by
 obtain⟨a,b,c,p⟩:=v
 obtain⟨a',b',c',p'⟩:=w
 refine zb rfl ?_
 have hcf:=fun hp nx=>zqV p p' hp nx hv hw
 obtain⟨o,ho⟩:∃o,orL [qI a a',qI b b',qI c c']=o:=⟨_,rfl⟩
 have hor:∀(hp:Hp) (nx id:Nat),hp id=some ⟨3,1,true,[[int (qI a a')],[int (qI b b')],[int (qI c c')]]⟩→zd false [] FOr [.own id 0 3] hp nx=some (int o,hp,nx):=fun hp nx id hh=>ho ▸ KI [_,_,_] hp nx id _ (by show 3≤lim;decide) hh
 have hval:vU ⟨a,b,c,p⟩ ⟨a',b',c',p'⟩=if o=0 then (if p.length=0 then (if p'.length=0 then 0 else 1) else if p'.length=0 then -1 else wo qa p p') else o:=by rw[←ho];rfl
 rw[hval]
 by_cases h1:o=0
 ·subst h1
  by_cases h2:p.length=0<;>by_cases h3:p'.length=0
  ·simp[Ver.enc,hor,zh,zo,zf,h2,h3,f204]
  ·have h3':((p'.length:Int)==0)=false:=by simpa using h3
   simp[Ver.enc,hor,zh,zo,zf,h2,h3,h3',f204]
  ·have h2':((p.length:Int)==0)=false:=by simpa using h2
   simp[Ver.enc,hor,zh,zo,zf,h2,h3,h2',f204]
  ·have h2':((p.length:Int)==0)=false:=by simpa using h2
   have h3':((p'.length:Int)==0)=false:=by simpa using h3
   simp[Ver.enc,hor,zh,zo,zf,h2,h3,h2',h3',hcf,f204]
 ·have h1':(o != 0)=true:=by simpa using h1
  simp[Ver.enc,hor,zh,zo,zf,h1,h1',f204]
noncomputable def ztk (f:Ver→Ver→PV):List PV→Option PV:=zJ (α:=Ver×Ver) (fun a=>[.agg a.1.enc,.agg a.2.enc]) (fun a=>a.1.small∧a.2.small) (fun a=>f a.1 a.2)
theorem ztl:∀a b:Ver×Ver,[PV.agg a.1.enc,.agg a.2.enc]=[.agg b.1.enc,.agg b.2.enc]→a=b:=by
 rintro⟨a1,a2⟩ ⟨b1,b2⟩ e
 simp only[List.cons.injEq,and_true] at e
 obtain⟨e1,e2⟩:=e
 injection e1 with e1
 injection e2 with e2
 rw[vi e1,vi e2]
theorem Zu:za prog 204 (zG [.g jP,.g jP] (ztk fun v w=>int (vU v w))) :=
 zZ (fn:=f204) ztj ⟨_,func204,by kernel_rfl,rfl,by kernel_rfl⟩ _ _ fun args r h=>by
  obtain⟨⟨v,w⟩,rfl,⟨h1,h2⟩,rfl⟩:=ze h
  exact⟨by simp[f204],_,Qb v w h1 h2,Stands.refl _⟩
theorem zfx (v w:Ver) (hp:Hp) (nx:Nat) (h1:v.small) (h2:w.small):zG [.g jP,.g jP] (ztk fun v w=>int (vU v w)) [.agg v.enc,.agg w.enc] hp nx=some (int (vU v w),hp,nx) :=
 yp (show zj hp [.agg v.enc,.agg w.enc]=some ([.agg v.enc,.agg w.enc],hp) by simp[Ver.enc]) (zm (enc:=fun a:Ver×Ver=>[PV.agg a.1.enc,.agg a.2.enc]) (a:=(v,w)) ztl ⟨h1,h2⟩) (.inl rfl)
structure Cut where
 v:Ver
 after:Bool
def Cut.enc (c:Cut):List PV:=[int c.v.a,int c.v.b,int c.v.c,.sl 1 (zD c.v.pre),boo c.after]
abbrev y8:List (Option Nat):=[none,none,none,some 1,none]
theorem jg {a b:Cut} (h:a.enc=b.enc):a=b:=by
 obtain⟨⟨a1,a2,a3,a4⟩,a5⟩:=a
 obtain⟨⟨b1,b2,b3,b4⟩,b5⟩:=b
 simp only[Cut.enc,List.cons.injEq,and_true] at h
 obtain⟨h1,h2,h3,h4,h5⟩:=h
 injection h4 with _ h4
 rw[zP h1,zP h2,zP h3,wt h4,vR h5]
noncomputable def qx (a b:Cut):Int:=if vU a.v b.v=0 then (if a.after=b.after then 0 else if b.after=true then -1 else 1) else vU a.v b.v
noncomputable def FCC (f:Cut→Cut→PV):List PV→Option PV:=zJ (α:=Cut×Cut) (fun a=>[.agg a.1.enc,.agg a.2.enc]) (fun a=>a.1.v.small∧a.2.v.small) (fun a=>f a.1 a.2)
theorem zp6:∀a b:Cut×Cut,[PV.agg a.1.enc,.agg a.2.enc]=[.agg b.1.enc,.agg b.2.enc]→a=b:=by
 rintro⟨a1,a2⟩ ⟨b1,b2⟩ e
 simp only[List.cons.injEq,and_true] at e
 obtain⟨e1,e2⟩:=e
 injection e1 with e1
 injection e2 with e2
 rw[jg e1,jg e2]
noncomputable abbrev Ccu:Ctx:=zC prog [(204,zG [.g jP,.g jP] (ztk fun v w=>int (vU v w)))]
theorem zp7:AM.Good Ccu (fun g=>([]:List Nat).contains g):=zk mixed ⟨Zu,by simp,trivial⟩
theorem Jw (x y:Cut) (hx:x.v.small) (hy:y.v.small):zg Ccu f199 [.agg x.enc,.agg y.enc]=some (int (qx x y)):=by
 obtain⟨⟨a,b,c,p⟩,f⟩:=x
 obtain⟨⟨a',b',c',p'⟩,f'⟩:=y
 refine zb rfl ?_
 have hcv:=fun hp nx=>zfx ⟨a,b,c,p⟩ ⟨a',b',c',p'⟩ hp nx hx hy
 simp only[Ver.enc] at hcv
 by_cases h1:vU ⟨a,b,c,p⟩ ⟨a',b',c',p'⟩=0
 ·cases f<;>cases f'<;>simp[Cut.enc,hcv,h1,qx,f199]
 ·have h1':(vU ⟨a,b,c,p⟩ ⟨a',b',c',p'⟩ != 0)=true:=by simpa using h1
  simp[Cut.enc,hcv,h1,h1',qx,f199]
theorem yt:za prog 199 (zG [.g y8,.g y8] (FCC fun v w=>int (qx v w))) :=
 zZ (fn:=f199) zp7 ⟨_,func199,by kernel_rfl,rfl,by kernel_rfl⟩ _ _ fun args r h=>by
  obtain⟨⟨v,w⟩,rfl,⟨h1,h2⟩,rfl⟩:=ze h
  exact⟨by simp[f199],_,Jw v w h1 h2,Stands.refl _⟩
theorem zfy (x y:Cut) (u v:PV) (hp:Hp) (nx:Nat) (hu:(Sh.g y8).fix u=.agg x.enc) (hv:(Sh.g y8).fix v=.agg y.enc) (hf:zj hp [u,v]=some ([u,v],hp)) (h1:x.v.small) (h2:y.v.small):zG [.g y8,.g y8] (FCC fun v w=>int (qx v w)) [u,v] hp nx=some (int (qx x y),hp,nx) :=
 yp hf (by
  show FCC _ [(Sh.g y8).fix u,(Sh.g y8).fix v]=_
  rw[hu,hv]
  exact zm (enc:=fun a:Cut×Cut=>[PV.agg a.1.enc,.agg a.2.enc]) (a:=(x,y)) zp6 ⟨h1,h2⟩) (.inl rfl)
end Go.Proofs.YtjcofiomfmebkaaGreatDoor
namespace Go.AM
open Go.RowKit
def Zv (shs:List Sh) (F:List PV→Option PV):AM.Spec:=zd true [] fun args=>F (zhb shs args)
theorem zfz {C:Ctx} {pf:FuncId→Bool} {f:FuncId} {fn:Func} (hg:AM.Good C pf) (hk:xP C pf f fn) (shs:List Sh) (F:List PV→Option PV)
  (hF:∀args r,F args=some r→args.length≤fn.ntmps∧∃r0,zg C fn args=some r0∧Stands r0 r):za C.P f (Zv shs F) :=
 xw hg hk true [] _ fun args r h w S vs hz=>by
  obtain⟨h1,r0,h2,h3⟩:=hF _ _ h
  exact⟨zhb shs args,r0,ZU hz,h1,h2,h3⟩
theorem zoq {shs:List Sh} {F:List PV→Option PV} {args:List PV} {hp hp1:Hp} {nx:Nat} {ys:List PV} {r:PV} (h1:zj hp args=some (ys,hp1)) (h2:F (zhb shs ys)=some r) (h3:(r.flat=true∨args.all PV.noOwn=true)→hp1=hp) :
  Zv shs F args hp nx=some (r,hp1,nx):=by
 have hn:qw [] ys=ys:=by cases ys<;>rfl
 unfold Zv zd
 simp only[h1,hn,h2]
 split
 ·rename_i h;rw[h3 h]
 ·simp
theorem ziY (shs:List Sh) (F:List PV→Option PV):vr (Zv shs F):=by
 intro args hp nx r hp' nx' h
 unfold Zv zd at h
 split at h
 ·rename_i ys hp1 hf
  split at h
  ·split at h
   ·injection h with h;injection h with _ h;injection h with h1 h2;subst h1;subst h2
    exact⟨Nat.le_refl _,fun id blk _ h1 _=>h1⟩
   ·split at h
    ·injection h with h;injection h with _ h;injection h with h1 h2;subst h1;subst h2
     exact⟨Nat.le_refl _,fun id blk _ h1 h2=>Qp hf h1 h2⟩
    ·cases h
  ·cases h
 ·cases h
def jh (P:Program) (l:Tab) (k:Nat) (D:List (Tmp×Tmp)) (L:List Tmp) (b:List Nat):Ctx:=⟨P,lookup l,fun i=>if i=k then D else [],fun i=>if i=k then L else [],fun g=>b.contains g,fun _=>[],fun _=>none⟩
@[simp] theorem mkCtxDL_P (P:Program) (l:Tab) (k:Nat) (D:List (Tmp×Tmp)) (L:List Tmp) (b:List Nat):(jh P l k D L b).P=P:=rfl
@[simp] theorem call_mkDL (P:Program) (l:Tab) (k:Nat) (D:List (Tmp×Tmp)) (L:List Tmp) (b:List Nat) (hp:Hp) (nx g:Nat) (x y xs:List PV):wg (jh P l k D L b) hp nx (some (.fn (.func g) x y)) xs=(lookup l g).bind fun s=>s (x++xs++y) hp nx:=by
 unfold wg jh
 simp only
 cases lookup l g<;>rfl
@[simp] theorem EvC_region_mkDL (P:Program) (l:Tab) (k:Nat) (D:List (Tmp×Tmp)) (L:List Tmp) (b:List Nat) (i:Nat) (ops:Array Oper) (d:Bool) (st:St) (K:Exit→St→Prop) (h:¬i=k):EvC (jh P l k D L b) (.region i ops d) st K=EvL (jh P l k D L b) ops ops.toList st (Yk K) :=
 vP _ i ops d st K (by simp[jh,h]) (by simp[jh,h])
theorem qX {P:Program} {l:Tab} {k:Nat} {D:List (Tmp×Tmp)} {L:List Tmp} {b:List Nat} {ops:Array Oper} {d:Bool} {st:St} {K:Exit→St→Prop} (h:xM D st) (h2:xi L st):EvC (jh P l k D L b) (.region k ops d) st K=EvL (jh P l k D L b) ops ops.toList st (Yk K) :=
 kB _ k ops d st K (by simpa[jh] using h) (by simpa[jh] using h2)
theorem zdk {P:Program} {l:Tab} {q:List Nat} {k:Nat} {D:List (Tmp×Tmp)} {L:List Tmp} {b:List Nat} (hm:P.follows .mixedOrders=true) (h:ziI True P q l) (hb:zcV b l):AM.Good (jh P l k D L b) (fun g=>q.contains g) :=
 let g:=zha (k:=k) (L:=L) hm h hb
 ⟨g.spec,g.quiet,g.mixed,g.box,fun _ _ h=>by cases h⟩
end Go.AM
namespace Go.Proofs.YtjcofiomfmebkaaGreatDoor
open Go.Proofs.Tryz
open Go.RowKit Go.AM
def ar3 (a b c:Int):PV:=.agg [int a,int b,int c]
noncomputable def zqW:List PV→Option PV:=zJ (α:=Int×Int×Int×List (List UInt8)) (fun a=>[ar3 a.1 a.2.1 a.2.2.1,.sl 1 (zD a.2.2.2)]) (fun _=>True) (fun a=>.agg (⟨a.1,a.2.1,a.2.2.1,a.2.2.2⟩:Ver).enc)
theorem zqX:∀a b:Int×Int×Int×List (List UInt8),[ar3 a.1 a.2.1 a.2.2.1,.sl 1 (zD a.2.2.2)]=[ar3 b.1 b.2.1 b.2.2.1,.sl 1 (zD b.2.2.2)]→a=b:=by
 rintro⟨a1,a2,a3,a4⟩ ⟨b1,b2,b3,b4⟩ e
 simp only[ar3,List.cons.injEq,and_true] at e
 obtain⟨e1,e2⟩:=e
 injection e1 with e1
 simp only[List.cons.injEq,and_true] at e1
 obtain⟨e1,e3,e4⟩:=e1
 injection e2 with _ e2
 rw[zP e1,zP e3,zP e4,wt e2]
theorem zdl (a b c:Int) (p:List (List UInt8)):zg C0 f232 [ar3 a b c,.sl 1 (zD p)]=some (.agg (⟨a,b,c,p⟩:Ver).enc):=by
 refine zb rfl ?_
 simp[ar3,Ver.enc,zx,zR,qe,f232]
theorem xy:za prog 232 (Zv [.a,.s 1 []] zqW) :=
 zfz (fn:=f232) yl ⟨_,func232,by kernel_rfl,rfl,by kernel_rfl⟩ _ _ fun args r h=>by
  obtain⟨⟨a,b,c,p⟩,rfl,_,rfl⟩:=ze h
  exact⟨by simp[f232],_,zdl a b c p,Stands.refl _⟩
theorem Zw (a b c:Int) (p:List (List UInt8)) (y z:PV) (hp hp1:Hp) (nx:Nat) (hy:zE hp y=some (z,hp1)) (hz:n1 1 z=.sl 1 (zD p)) (hn:y.noOwn=true→hp1=hp):Zv [.a,.s 1 []] zqW [ar3 a b c,y] hp nx=some (.agg (⟨a,b,c,p⟩:Ver).enc,hp1,nx) :=
 zoq (ys:=[ar3 a b c,z]) (by
  have h0:zE hp (ar3 a b c)=some (ar3 a b c,hp):=by simp[ar3]
  simp only[zj,h0,hy]) (by
  have:(Sh.s 1 []).fix z=.sl 1 (zD p):=by
   cases z with
   | sl m es=>simp only[n1] at hz;simp only[Sh.fix];rw[←hz];congr 1;exact (List.map_congr_left (fun c _=>by cases c<;>rfl)).trans (List.map_id _)
   | _=>exact hz
  show zqW [ar3 a b c,(Sh.s 1 []).fix z]=_
  rw[this]
  exact zm (enc:=fun a:Int×Int×Int×List (List UInt8)=>[ar3 a.1 a.2.1 a.2.2.1,.sl 1 (zD a.2.2.2)]) (a:=(a,b,c,p)) zqX trivial) (by simpa[ar3,Ver.enc] using hn)
def leastC:Cut:=⟨⟨0,0,0,[[48]]⟩,false⟩
noncomputable def QF (r:PV):List PV→Option PV:=zJ (α:=Unit) (fun _=>[]) (fun _=>True) (fun _=>r)
theorem kr (r:PV) (hp:Hp) (nx:Nat):zG [] (QF r) [] hp nx=some (r,hp,nx):=yp (show zj hp []=some ([],hp) from rfl) (zm (enc:=fun _:Unit=>[]) (a:=()) (fun _ _ _=>rfl) trivial) (.inr rfl)
theorem ziZ:zg C0 f193 []=some (.agg leastC.enc):=by
 refine zb rfl ?_
 simp[leastC,Cut.enc,zD,str,zx,zR,zh,zo,zf,qe,f193]
theorem KK:za prog 193 (zG [] (QF (.agg leastC.enc))) :=
 zZ (fn:=f193) yl ⟨_,func193,by kernel_rfl,rfl,by kernel_rfl⟩ _ _ fun args r h=>by
  obtain⟨_,rfl,_,rfl⟩:=ze h
  exact⟨by simp[f193],_,ziZ,Stands.refl _⟩
structure Str where
 lo:Cut
 hi:Cut
 endless:Bool
def Str.enc (s:Str):List PV:=s.lo.enc++s.hi.enc++[boo s.endless]
def cut0:Cut:=⟨⟨0,0,0,[]⟩,false⟩
abbrev y9:List (Option Nat):=[none,none,none,some 1,none,none,none,none,some 1,none,none]
def qz (c:Cut):Str:=⟨c,cut0,true⟩
def zfA (a b:Cut):Str:=⟨a,b,false⟩
def zN (l:List Str):List (List PV):=l.map Str.enc
def KL:PV:=.sl 11 (zN [qz leastC])
noncomputable abbrev Cev:Ctx:=zC prog [(193,zG [] (QF (.agg leastC.enc)))]
theorem ztm:AM.Good Cev (fun g=>([]:List Nat).contains g):=zk mixed ⟨KK,by simp,trivial⟩
theorem KM:∃r0,zg Cev f148 []=some r0∧Stands r0 KL:=by
 refine vd (sh:=.s 11 y9) rfl ?_
 simp[kr,leastC,Cut.enc,zD,str,zx,zR,zh,zo,zf,zaS,KL,zN,qz,Str.enc,cut0,f148]
theorem xQ:za prog 148 (zG [] (QF KL)) :=
 zZ (fn:=f148) ztm ⟨_,func148,by kernel_rfl,rfl,by kernel_rfl⟩ _ _ fun args r h=>by
  obtain⟨_,rfl,_,rfl⟩:=ze h
  obtain⟨r0,h1,h2⟩:=KM
  exact⟨by simp[f148],r0,h1,h2⟩
theorem za9 {a b:Part} (h:a.enc=b.enc):a=b:=by
 obtain⟨a1,a2,a3,a4,a5⟩:=a
 obtain⟨b1,b2,b3,b4,b5⟩:=b
 simp only[Part.enc,List.cons.injEq,and_true] at h
 obtain⟨h1,h2,h3,h4,h5⟩:=h
 injection h5 with _ h5
 rw[zP h1,zP h2,zP h3,zP h4,wt h5]
def Part.ok (p:Part):Prop:=(0≤p.n0∧p.n0≤999999)∧(0≤p.n1∧p.n1≤999999)∧(0≤p.n2∧p.n2≤999999)∧(1≤p.has∧p.has≤3)∧yL p.pre
noncomputable def FPa (f:Part→PV):List PV→Option PV:=zJ (α:=Part) (fun p=>[.agg p.enc]) Part.ok f
theorem zhh (f:Part→PV) (p:Part) (u:PV) (hp:Hp) (nx:Nat) (h:p.ok) (hu:(Sh.g zc6).fix u=.agg p.enc) (hf:zE hp u=some (u,hp)) (hn:u.noOwn=true):zG [.g zc6] (FPa f) [u] hp nx=some (f p,hp,nx) :=
 yp (show zj hp [u]=some ([u],hp) by simp only[zj,hf]) (by
  show FPa f [(Sh.g zc6).fix u]=_
  rw[hu]
  exact zm (enc:=fun p:Part=>[PV.agg p.enc]) (a:=p) (fun a b e=>by simp only[List.cons.injEq,and_true] at e;injection e with e;exact za9 e) h) (.inr (by rw[List.all_cons,hn];rfl))
noncomputable def FPt (f:Part→PV):List PV→Option PV:=zJ (α:=Part) (fun p=>[.agg p.enc]) (fun _=>True) f
theorem zor (f:Part→PV) (p:Part) (hp:Hp) (nx:Nat):zG [.g zc6] (FPt f) [.agg p.enc] hp nx=some (f p,hp,nx) :=
 yp (show zj hp [.agg p.enc]=some ([.agg p.enc],hp) by simp[Part.enc]) (by
  show FPt f [(Sh.g zc6).fix (.agg p.enc)]=_
  rw[show (Sh.g zc6).fix (.agg p.enc)=.agg p.enc by simp[Part.enc]]
  exact zm (enc:=fun p:Part=>[PV.agg p.enc]) (a:=p) (fun a b e=>by simp only[List.cons.injEq,and_true] at e;injection e with e;exact za9 e) trivial) (.inr (by simp[Part.enc]))
def Qq (p:Part):Cut:=⟨⟨p.n0,p.n1,p.n2,p.pre⟩,false⟩
noncomputable abbrev Clo:Ctx:=zC prog [(232,Zv [.a,.s 1 []] zqW)]
theorem ztn:AM.Good Clo (fun g=>([]:List Nat).contains g):=zk mixed ⟨xy,by simp,trivial⟩
theorem zos (p:Part):zg Clo f194 [.agg p.enc]=some (.agg (Qq p).enc):=by
 obtain⟨a,b,c,d,e⟩:=p
 refine zb rfl ?_
 have hv:=fun hp nx=>Zw a b c e (.sl 1 (zD e)) (.sl 1 (zD e)) hp hp nx (by simp) rfl (fun _=>rfl)
 simp[ar3] at hv
 simp[Part.enc,hv,Qq,Cut.enc,Ver.enc,zx,zR,qe,f194]
theorem zlr:za prog 194 (zG [.g zc6] (FPt fun p=>.agg (Qq p).enc)) :=
 zZ (fn:=f194) ztn ⟨_,func194,by kernel_rfl,rfl,by kernel_rfl⟩ _ _ fun args r h=>by
  obtain⟨p,rfl,_,rfl⟩:=ze h
  exact⟨by simp[f194],_,zos p,Stands.refl _⟩
def qV (p:Part):Nat→Cut
 | 0=>⟨⟨p.n0+1,0,0,[[48]]⟩,false⟩
 | 1=>⟨⟨p.n0,p.n1+1,0,[[48]]⟩,false⟩
 | _=>⟨⟨p.n0,p.n1,p.n2+1,[[48]]⟩,false⟩
def yB (p:Part):Nat→Bool
 | 0=>decide (p.n0+1≤999999)
 | 1=>decide (p.n1+1≤999999)
 | _=>decide (p.n2+1≤999999)
def yn (p:Part) (i:Nat):PV:=.tup [.agg (qV p i).enc,boo (yB p i)]
noncomputable abbrev zvQ:Ctx:=jh prog [(232,Zv [.a,.s 1 []] zqW)] 7 [(6,4),(28,4)] [4,6,28] [232]
theorem zqY:AM.Good zvQ (fun g=>([]:List Nat).contains g):=zdk mixed ⟨xy,by simp,trivial⟩ ⟨fun _=>ziY _ _,trivial⟩
theorem vV (st:St):xM [] st:=fun _ h=>by cases h
theorem qn {a b:Tmp} {D:List (Tmp×Tmp)} {st:St} (h:zgX st a b) (hD:xM D st):xM ((a,b)::D) st:=fun p hp=>by
 rcases List.mem_cons.1 hp with rfl | hp
 ·exact h
 ·exact hD p hp
theorem ZZ (st:St):xi [] st:=fun _ h=>by cases h
theorem yO {s:Tmp} {L:List Tmp} {st:St} {id i j:Nat} {blk:Blk} (h:st.σ s=.ref id i j) (hn:id<st.nx) (hb:st.hp id=some blk) (ha:blk.arr=false) (hL:xi L st) (hs:s<zB:=by decide):xi (s::L) st:=fun t ht=>by
 rcases List.mem_cons.1 ht with rfl | ht
 ·refine⟨⟨fun id' o n e=>(by rw[h] at e;cases e),fun id' i' j' e=>?_⟩,fun hz=>absurd hs (Nat.not_lt.2 hz)⟩
  rw[h] at e
  injection e with e _ _
  subst e
  exact⟨hn,blk,hb,ha⟩
 ·exact hL t ht
theorem wQ {s:Tmp} {L:List Tmp} {st:St} {x:List PV} (h:st.σ s=.tup x) (hL:xi L st) (hs:s<zB:=by decide):xi (s::L) st:=fun t ht=>by
 rcases List.mem_cons.1 ht with rfl | ht
 ·exact⟨⟨fun id' o n e=>(by rw[h] at e;cases e),fun id' i' j' e=>(by rw[h] at e;cases e)⟩,fun hz=>absurd hs (Nat.not_lt.2 hz)⟩
 ·exact hL t ht
theorem vW {a b:Tmp} {st:St} {id i j id' i' j':Nat} {blk:Blk} (h1:st.σ a=.ref id i j) (h2:st.σ b=.ref id' i' j') (h3:id≠id') (h4:st.hp id'=some blk) (h5:blk.arr=false):zgX st a b:=by
 intro id0 i0 j0 e0
 rw[h1] at e0
 injection e0 with e0 _ _
 subst e0
 exact⟨id',i',j',blk,h2,h3,h4,h5⟩
theorem qZ {a b:Tmp} {st:St} {x:List PV} (h1:st.σ a=.tup x):zgX st a b:=by
 intro id0 i0 j0 e0
 rw[h1] at e0
 cases e0
theorem zfB (p:Part) (i:Nat) (hi:i<3) (hp:p.ok):∃r0,zg zvQ f197 [.agg p.enc,int i]=some r0∧Stands r0 (yn p i):=by
 obtain⟨a,b,c,d,e⟩:=p
 obtain⟨⟨a1,a2⟩,⟨b1,b2⟩,⟨c1,c2⟩,_⟩:=hp
 simp only at a1 a2 b1 b2 c1 c2
 refine qt (sh:=.g y8) rfl ?_
 have wa:IntKind.i64.wrap (a+1)=a+1:=zc (by omega) (by omega)
 have wb:IntKind.i64.wrap (b+1)=b+1:=zc (by omega) (by omega)
 have wc:IntKind.i64.wrap (c+1)=c+1:=zc (by omega) (by omega)
 have hv:∀(a b c:Int) (hp:Hp) (nx id:Nat),hp id=some ⟨9,1,true,[[str [48]]]⟩→Zv [.a,.s 1 []] zqW [ar3 a b c,.own id 0 1] hp nx=some (.agg (⟨a,b,c,[[48]]⟩:Ver).enc,upd hp id none,nx):=fun a b c hp nx id hh=>Zw a b c [[48]] (.own id 0 1) (.sl 1 [[str [48]]]) hp (upd hp id none) nx (by simp[hh]) rfl (fun h=>by cases h)
 simp[ar3,str] at hv
 rcases (by omega:i=0∨i=1∨i=2) with rfl | rfl | rfl
 ·simp[Part.enc,wa]
  rw[zl]
  simp
  rw[zl]
  simp
  rw[zl]
  simp
  rw[qX (qn (vW (by simp;exact⟨rfl,rfl,rfl⟩) (by simp;exact⟨rfl,rfl,rfl⟩) (by omega) (by simp;rfl) rfl) (qn (qZ (by simp;rfl)) (vV _)))
   (yO (by simp;exact⟨rfl,rfl,rfl⟩) (by simp) (by simp;rfl) rfl (yO (by simp;exact⟨rfl,rfl,rfl⟩) (by simp) (by simp;rfl) rfl (wQ (by simp;rfl) (ZZ _))))]
  simp[hv,zx,zR,zh,zo,zf,zF,yn,qV,yB,Cut.enc,Ver.enc,f197]
 ·simp[Part.enc,wb]
  rw[zl]
  simp
  rw[zl]
  simp
  rw[qX (qn (vW (by simp;exact⟨rfl,rfl,rfl⟩) (by simp;exact⟨rfl,rfl,rfl⟩) (by omega) (by simp;rfl) rfl) (qn (qZ (by simp;rfl)) (vV _)))
   (yO (by simp;exact⟨rfl,rfl,rfl⟩) (by simp) (by simp;rfl) rfl (yO (by simp;exact⟨rfl,rfl,rfl⟩) (by simp) (by simp;rfl) rfl (wQ (by simp;rfl) (ZZ _))))]
  simp[hv,zx,zR,zh,zo,zf,zF,yn,qV,yB,Cut.enc,Ver.enc,f197]
 ·simp[Part.enc,wc]
  rw[zl]
  simp
  rw[qX (qn (vW (by simp;exact⟨rfl,rfl,rfl⟩) (by simp;exact⟨rfl,rfl,rfl⟩) (by omega) (by simp;rfl) rfl) (qn (qZ (by simp;rfl)) (vV _)))
   (yO (by simp;exact⟨rfl,rfl,rfl⟩) (by simp) (by simp;rfl) rfl (yO (by simp;exact⟨rfl,rfl,rfl⟩) (by simp) (by simp;rfl) rfl (wQ (by simp;rfl) (ZZ _))))]
  simp[hv,zx,zR,zh,zo,zf,zF,yn,qV,yB,Cut.enc,Ver.enc,f197]
noncomputable def FPi (f:Part→Nat→PV):List PV→Option PV:=zJ (α:=Part×Nat) (fun a=>[.agg a.1.enc,int a.2]) (fun a=>a.1.ok∧a.2<3) (fun a=>f a.1 a.2)
theorem zto:∀a b:Part×Nat,[PV.agg a.1.enc,int a.2]=[PV.agg b.1.enc,int b.2]→a=b:=by
 rintro⟨a1,a2⟩ ⟨b1,b2⟩ e
 simp only[List.cons.injEq,and_true] at e
 obtain⟨e1,e2⟩:=e
 injection e1 with e1
 have:=zP e2
 rw[za9 e1,show a2=b2 by omega]
theorem zhi (f:Part→Nat→PV) (p:Part) (i:Nat) (u:PV) (hp:Hp) (nx:Nat) (h:p.ok) (hi:i<3) (hu:(Sh.g zc6).fix u=.agg p.enc) (hf:zE hp u=some (u,hp)) (hn:u.noOwn=true):zG [.g zc6] (FPi f) [u,int i] hp nx=some (f p i,hp,nx) :=
 yp (show zj hp [u,int i]=some ([u,int i],hp) by simp only[zj,hf];rfl) (by
  show FPi f [(Sh.g zc6).fix u,int i]=_
  rw[hu]
  exact zm (enc:=fun a:Part×Nat=>[PV.agg a.1.enc,int a.2]) (a:=(p,i)) zto ⟨h,hi⟩) (.inr (by rw[List.all_cons,hn];rfl))
theorem Jb:za prog 197 (zG [.g zc6] (FPi yn)) :=
 zZ (fn:=f197) zqY ⟨_,func197,by kernel_rfl,rfl,by kernel_rfl⟩ _ _ fun args r h=>by
  obtain⟨⟨p,i⟩,rfl,⟨h1,h2⟩,rfl⟩:=ze h
  obtain⟨r0,h3,h4⟩:=zfB p i h2 h1
  exact⟨by simp[f197],r0,h3,h4⟩
def jq (p:Part):Cut:=if p.has<3 then qV p (p.has - 1).toNat else ⟨⟨p.n0,p.n1,p.n2,p.pre⟩,true⟩
def xz (p:Part):Bool:=if p.has<3 then yB p (p.has - 1).toNat else true
def Wn (p:Part):PV:=.tup [.agg (jq p).enc,boo (xz p)]
noncomputable abbrev Chi:Ctx:=zC prog [(232,Zv [.a,.s 1 []] zqW),(197,zG [.g zc6] (FPi yn))]
theorem ztp:AM.Good Chi (fun g=>([]:List Nat).contains g):=zk mixed ⟨xy,by simp,Jb,by simp,trivial⟩
@[simp] theorem zba (p:Part) (hp:Hp):zE hp (.agg p.enc)=some (.agg p.enc,hp):=by simp[Part.enc]
theorem zls (p:Part) (hp:p.ok):zg Chi f196 [.agg p.enc]=some (Wn p):=by
 have hok:=hp
 obtain⟨_,_,_,⟨h1,h2⟩,_⟩:=hp
 refine zb rfl ?_
 have hr:=fun hp nx=>zhi yn p (p.has - 1).toNat (.agg p.enc) hp nx hok (by omega) (by simp[Part.enc]) (zba p hp) (by simp[Part.enc])
 have e1:(((p.has - 1).toNat:Nat):Int)=p.has - 1:=by omega
 have hw:IntKind.i64.wrap (p.has - 1)=p.has - 1:=zc (by omega) (by omega)
 rw[e1] at hr
 have hv:=fun hp nx=>Zw p.n0 p.n1 p.n2 p.pre (.sl 1 (zD p.pre)) (.sl 1 (zD p.pre)) hp hp nx (by simp) rfl (fun _=>rfl)
 simp[ar3] at hv
 simp only[Part.enc] at hr
 by_cases h3:p.has<3
 ·simp[Part.enc,h3,hr,hw,Wn,jq,xz,yn,Cut.enc,qe,f196]
 ·simp[Part.enc,h3,hv,Wn,jq,xz,Cut.enc,Ver.enc,zx,zR,qe,f196]
theorem zi0:za prog 196 (zG [.g zc6] (FPa Wn)) :=
 zZ (fn:=f196) ztp ⟨_,func196,by kernel_rfl,rfl,by kernel_rfl⟩ _ _ fun args r h=>by
  obtain⟨p,rfl,h1,rfl⟩:=ze h
  exact⟨by simp[f196],_,zls p h1,Stands.refl _⟩
noncomputable def btw (a b:Cut):List Str:=if 0≤qx a b then [] else [zfA a b]
noncomputable def zbb (a b:Cut):PV:=.sl 11 (zN (btw a b))
noncomputable abbrev Cbt:Ctx:=zC prog [(199,zG [.g y8,.g y8] (FCC fun v w=>int (qx v w)))]
theorem ztq:AM.Good Cbt (fun g=>([]:List Nat).contains g):=zk mixed ⟨yt,by simp,trivial⟩
theorem zdm (x y:Cut) (hx:x.v.small) (hy:y.v.small):∃r0,zg Cbt f195 [.agg x.enc,.agg y.enc]=some r0∧Stands r0 (zbb x y):=by
 refine vd (sh:=.s 11 y9) rfl ?_
 have hc:=fun hp nx=>zfy x y (.agg x.enc) (.agg y.enc) hp nx (by simp[Cut.enc]) (by simp[Cut.enc]) (by simp[Cut.enc]) hx hy
 simp only[Cut.enc] at hc
 by_cases h:0≤qx x y
 ·simp[Cut.enc,hc,h,zaS,zbb,btw,zN,f195]
 ·simp[Cut.enc,hc,h,zx,zR,zh,zo,zf,zaS,zbb,btw,zN,zfA,Str.enc,f195]
theorem zbc:za prog 195 (zG [.g y8,.g y8] (FCC zbb)) :=
 zZ (fn:=f195) ztq ⟨_,func195,by kernel_rfl,rfl,by kernel_rfl⟩ _ _ fun args r h=>by
  obtain⟨⟨v,w⟩,rfl,⟨h1,h2⟩,rfl⟩:=ze h
  obtain⟨r0,h3,h4⟩:=zdm v w h1 h2
  exact⟨by simp[f195],r0,h3,h4⟩
structure Cpn where
 sign:List UInt8
 p:Part
 tu:Part
def Cpn.enc (c:Cpn):List PV:=[str c.sign,int c.p.n0,int c.p.n1,int c.p.n2,int c.p.has,.sl 1 (zD c.p.pre),int c.tu.n0,int c.tu.n1,int c.tu.n2,int c.tu.has,.sl 1 (zD c.tu.pre)]
abbrev zot:List (Option Nat):=[none,none,none,none,none,some 1,none,none,none,none,some 1]
theorem zlt {a b:Cpn} (h:a.enc=b.enc):a=b:=by
 obtain⟨a0,⟨a1,a2,a3,a4,a5⟩,⟨a6,a7,a8,a9,a10⟩⟩:=a
 obtain⟨b0,⟨b1,b2,b3,b4,b5⟩,⟨b6,b7,b8,b9,b10⟩⟩:=b
 simp only[Cpn.enc,List.cons.injEq,and_true] at h
 obtain⟨h0,h1,h2,h3,h4,h5,h6,h7,h8,h9,h10⟩:=h
 injection h5 with _ h5
 injection h10 with _ h10
 rw[qg h0,zP h1,zP h2,zP h3,zP h4,wt h5,zP h6,zP h7,zP h8,zP h9,wt h10]
def wK:List UInt8:=[97,108,108]
def Cpn.ok (c:Cpn):Prop:=c.sign.length≤lim∧(c.sign=wK∨(c.p.ok∧(c.sign=[45]→c.tu.ok)))
def wD (p:Part):Nat:=if 1<p.has∧p.n0=0 then (if 2<p.has∧p.n1=0 then 2 else 1) else 0
theorem zlu (p:Part):wD p<3:=by unfold wD;split<;>(try split)<;>omega
noncomputable def vy (c:Cpn):List Str×Bool :=
 if c.sign=wK then ([qz leastC],true)
 else if c.sign=[62,61] then ([qz (Qq c.p)],true)
 else if c.sign=[60] then (btw leastC (Qq c.p),true)
 else if c.sign=[62] then ([qz (jq c.p)],xz c.p)
 else if c.sign=[60,61] then (btw leastC (jq c.p),xz c.p)
 else if c.sign=[45] then (btw (Qq c.p) (jq c.tu),xz c.tu)
 else if c.sign=[126] then (btw (Qq c.p) (qV c.p (min (c.p.has - 1) 1).toNat),yB c.p (min (c.p.has - 1) 1).toNat)
 else if c.sign=[94] then (btw (Qq c.p) (qV c.p (wD c.p)),yB c.p (wD c.p))
 else (btw (Qq c.p) (jq c.p),xz c.p)
noncomputable def Xi (c:Cpn):PV:=.tup [.sl 11 (zN (vy c).1),boo (vy c).2]
def zvf (p:Part):PV:=.agg (Qq p).enc
def zab:PV:=.agg leastC.enc
noncomputable abbrev zvR:Ctx:=zC prog [(194,zG [.g zc6] (FPt zvf)),(196,zG [.g zc6] (FPa Wn)),(197,zG [.g zc6] (FPi yn)),(193,zG [] (QF zab)),(148,zG [] (QF KL)),(195,zG [.g y8,.g y8] (FCC zbb))]
theorem zqZ:AM.Good zvR (fun g=>[193,195].contains g):=zk mixed ⟨zlr,by simp,zi0,by simp,Jb,by simp,KK,fun _=>qv _ _,xQ,by simp,zbc,fun _=>qv _ _,trivial⟩
theorem zhj:leastC.v.small:=⟨by decide,fun p hp=>by simp[leastC] at hp;subst hp;decide⟩
theorem Zx (p:Part) (i:Nat):(qV p i).v.small:=by
 have h:(qV p i).v.pre=[[48]]:=by unfold qV;split<;>rfl
 exact⟨by rw[h];decide,fun q hq=>by rw[h] at hq;simp at hq;subst hq;decide⟩
theorem jK {p:Part} (h:yL p.pre):(Qq p).v.small:=h
theorem ku {p:Part} (h:yL p.pre):(jq p).v.small:=by
 unfold jq
 split
 ·exact Zx _ _
 ·exact h
theorem zhk (c:Cut):(Sh.g y8).fix (.agg c.enc)=.agg c.enc:=by simp[Cut.enc]
theorem zp8 (c:Cut) (hp:Hp):zE hp (.agg c.enc)=some (.agg c.enc,hp):=by simp[Cut.enc]
theorem vA (x y:Cut) (hp:Hp) (nx:Nat) (h1:x.v.small) (h2:y.v.small):zG [.g y8,.g y8] (FCC zbb) [.agg x.enc,.agg y.enc] hp nx=some (zbb x y,hp,nx) :=
 yp (show zj hp [.agg x.enc,.agg y.enc]=some ([.agg x.enc,.agg y.enc],hp) by simp only[zj,zp8]) (by
  show FCC _ [(Sh.g y8).fix (.agg x.enc),(Sh.g y8).fix (.agg y.enc)]=_
  rw[zhk,zhk]
  exact zm (enc:=fun a:Cut×Cut=>[PV.agg a.1.enc,.agg a.2.enc]) (a:=(x,y)) zp6 ⟨h1,h2⟩) (.inr (by simp[Cut.enc]))
theorem Xj (c:Cpn) (hc:c.ok):∃r0,zg zvR f149 [.agg c.enc]=some r0∧Stands r0 (Xi c):=by
 obtain⟨sign,p,tu⟩:=c
 obtain⟨_,hc⟩:=hc
 simp only at hc
 refine qt (sh:=.s 11 y9) rfl ?_
 have hlo:=fun hp nx=>zor zvf p hp nx
 have hle:∀(hp:Hp) (nx:Nat),zG [] (QF zab) [] hp nx=some (.agg [int leastC.v.a,int leastC.v.b,int leastC.v.c,.sl 1 (zD leastC.v.pre),boo leastC.after],hp,nx):=fun hp nx=>kr _ hp nx
 have hev:∀(hp:Hp) (nx:Nat),zG [] (QF KL) [] hp nx=some (.sl 11 (zN [qz leastC]),hp,nx):=fun hp nx=>kr _ hp nx
 simp only[zvf,Part.enc,Cut.enc] at hlo
 by_cases s0:sign=wK
 ·subst s0
  simp[Cpn.enc,hlo,hev,wK,zF,Xi,vy,zN,qz,Str.enc,Cut.enc,cut0,f149]
 obtain⟨hp,ht⟩:=hc.resolve_left s0
 have hsm:yL p.pre:=hp.2.2.2.2
 have e0:(sign==[97,108,108])=false:=by simpa[wK] using s0
 by_cases s1:sign=[62,61]
 ·subst s1
  simp[Cpn.enc,hlo,e0,zx,zR,zh,zo,zf,wK,zF,Xi,vy,zN,qz,Str.enc,Cut.enc,cut0,f149]
 have e1:(sign==[62,61])=false:=by simpa using s1
 have hb1:=fun hp nx=>vA leastC (Qq p) hp nx zhj (jK hsm)
 have hb2:=fun hp nx=>vA leastC (jq p) hp nx zhj (ku hsm)
 have hhi:=fun hp' nx=>zhh Wn p (.agg p.enc) hp' nx hp (by simp[Part.enc]) (zba p hp') (by simp[Part.enc])
 simp only[zbb,Wn,Part.enc,Cut.enc] at hb1 hb2 hhi
 by_cases s2:sign=[60]
 ·subst s2
  simp[Cpn.enc,hlo,hle,hb1,e0,e1,wK,zF,Xi,vy,zN,Str.enc,Cut.enc,f149]
 have e2:(sign==[60])=false:=by simpa using s2
 by_cases s3:sign=[62]
 ·subst s3
  simp[Cpn.enc,hlo,hhi,e0,e1,e2,zx,zR,zh,zo,zf,wK,zF,Xi,vy,zN,qz,Str.enc,Cut.enc,cut0,f149]
 have e3:(sign==[62])=false:=by simpa using s3
 by_cases s4:sign=[60,61]
 ·subst s4
  simp[Cpn.enc,hlo,hhi,hle,hb2,e0,e1,e2,e3,zx,zR,zh,zo,zf,wK,zF,Xi,vy,zN,qz,Str.enc,Cut.enc,cut0,f149]
 have e4:(sign==[60,61])=false:=by simpa using s4
 by_cases s5:sign=[45]
 ·subst s5
  have hto:=ht rfl
  have hb3:=fun hp nx=>vA (Qq p) (jq tu) hp nx (jK hsm) (ku hto.2.2.2.2)
  have hht:=fun hp' nx=>zhh Wn tu (.agg tu.enc) hp' nx hto (by simp[Part.enc]) (zba tu hp') (by simp[Part.enc])
  simp only[zbb,Wn,Part.enc,Cut.enc] at hb3 hht
  simp[Cpn.enc,hlo,hht,hb3,e0,e1,e2,e3,e4,zx,zR,zh,zo,zf,wK,zF,Xi,vy,zN,qz,Str.enc,Cut.enc,cut0,f149]
 have e5:(sign==[45])=false:=by simpa using s5
 have hra:=fun i (hi:i<3) hp' nx=>zhi yn p i (.agg p.enc) hp' nx hp hi (by simp[Part.enc]) (zba p hp') (by simp[Part.enc])
 have hb4:=fun i hp nx=>vA (Qq p) (qV p i) hp nx (jK hsm) (Zx p i)
 simp only[zbb,yn,Part.enc,Cut.enc] at hra hb4
 have hw:IntKind.i64.wrap (p.has - 1)=p.has - 1:=zc (by have:=hp.2.2.2.1;omega) (by have:=hp.2.2.2.1;omega)
 by_cases s6:sign=[126]
 ·subst s6
  have hm:(if 1<p.has - 1 then 1 else p.has - 1)=(((min (p.has - 1) 1).toNat:Nat):Int):=by have:=hp.2.2.2.1;split<;>omega
  have hra1:=hra (min (p.has - 1) 1).toNat (by omega)
  rw[←hm] at hra1
  simp[Cpn.enc,hlo,hra1,hb4,hw,e0,e1,e2,e3,e4,e5,zx,zR,zh,zo,zf,wK,zF,Xi,vy,zN,qz,Str.enc,Cut.enc,cut0,f149]
 have e6:(sign==[126])=false:=by simpa using s6
 by_cases s7:sign=[94]
 ·subst s7
  have hs3:(2:Int)<p.has→p.has=3:=by have:=hp.2.2.2.1;omega
  by_cases hA:1<p.has
  ·have hA':(0:Int)<p.has - 1:=by omega
   by_cases hn0:p.n0=0
   ·have hn0t:(p.n0==0)=true:=by simpa using hn0
    by_cases hB:2<p.has
    ·have hB':(1:Int)<p.has - 1:=by omega
     have hC':¬(2:Int)<p.has - 1:=by have:=hp.2.2.2.1;omega
     by_cases hn1:p.n1=0
     ·have hn1t:(p.n1==0)=true:=by simpa using hn1
      have hci:wD p=2:=by simp[wD,hA,hA',hB,hB',hC',hn0,hn1]
      have hra1:=hra 2 (by omega)
      rw[show ((2:Nat):Int)=2 from rfl] at hra1
      simp[Cpn.enc,hlo,hw,e0,e1,e2,e3,e4,e5,e6,hA,hA',hB,hB',hC',hn0t,hn1t,wK]
      rw[zl]
      simp[Cpn.enc,hlo,hw,e0,e1,e2,e3,e4,e5,e6,hA,hA',hB,hB',hC',hn0t,hn1t]
      rw[zl]
      simp[Cpn.enc,hlo,hw,e0,e1,e2,e3,e4,e5,e6,hA,hA',hB,hB',hC',hn0t,hn1t]
      rw[zl]
      simp[Cpn.enc,hlo,hw,e0,e1,e2,e3,e4,e5,e6,hra1,hb4,hci,hA,hA',hB,hB',hC',hn0t,hn1t,zx,zR,zh,zo,zf,wK,zF,Xi,vy,zN,qz,Str.enc,Cut.enc,cut0,f149]
     ·have hn1':(p.n1==0)=false:=by simpa using hn1
      have hci:wD p=1:=by simp[wD,hA,hA',hB,hB',hn0,hn1,hn1']
      have hra1:=hra 1 (by omega)
      rw[show ((1:Nat):Int)=1 from rfl] at hra1
      simp[Cpn.enc,hlo,hw,e0,e1,e2,e3,e4,e5,e6,hA,hA',hB,hB',hn0t,hn1',wK]
      rw[zl]
      simp[Cpn.enc,hlo,hw,e0,e1,e2,e3,e4,e5,e6,hA,hA',hB,hB',hn0t,hn1']
      rw[zl]
      simp[Cpn.enc,hlo,hw,e0,e1,e2,e3,e4,e5,e6,hra1,hb4,hci,hA,hA',hB,hB',hn0t,hn1',zx,zR,zh,zo,zf,wK,zF,Xi,vy,zN,qz,Str.enc,Cut.enc,cut0,f149]
    ·have hB':¬(1:Int)<p.has - 1:=by omega
     have hci:wD p=1:=by simp[wD,hA,hA',hB,hB',hn0]
     have hra1:=hra 1 (by omega)
     rw[show ((1:Nat):Int)=1 from rfl] at hra1
     simp[Cpn.enc,hlo,hw,e0,e1,e2,e3,e4,e5,e6,hA,hA',hB,hB',hn0t,wK]
     rw[zl]
     simp[Cpn.enc,hlo,hw,e0,e1,e2,e3,e4,e5,e6,hA,hA',hB,hB',hn0t]
     rw[zl]
     simp[Cpn.enc,hlo,hw,e0,e1,e2,e3,e4,e5,e6,hra1,hb4,hci,hA,hA',hB,hB',hn0t,zx,zR,zh,zo,zf,wK,zF,Xi,vy,zN,qz,Str.enc,Cut.enc,cut0,f149]
   ·have hn0':(p.n0==0)=false:=by simpa using hn0
    have hci:wD p=0:=by simp[wD,hA,hA',hn0,hn0']
    have hra1:=hra 0 (by omega)
    rw[show ((0:Nat):Int)=0 from rfl] at hra1
    simp[Cpn.enc,hlo,hw,e0,e1,e2,e3,e4,e5,e6,hA,hA',hn0',wK]
    rw[zl]
    simp[Cpn.enc,hlo,hw,e0,e1,e2,e3,e4,e5,e6,hra1,hb4,hci,hA,hA',hn0',zx,zR,zh,zo,zf,wK,zF,Xi,vy,zN,qz,Str.enc,Cut.enc,cut0,f149]
  ·have hA':¬(0:Int)<p.has - 1:=by omega
   have hci:wD p=0:=by simp[wD,hA,hA']
   have hra1:=hra 0 (by omega)
   rw[show ((0:Nat):Int)=0 from rfl] at hra1
   simp[Cpn.enc,hlo,hw,e0,e1,e2,e3,e4,e5,e6,hA,hA',wK]
   rw[zl]
   simp[Cpn.enc,hlo,hw,e0,e1,e2,e3,e4,e5,e6,hra1,hb4,hci,hA,hA',zx,zR,zh,zo,zf,wK,zF,Xi,vy,zN,qz,Str.enc,Cut.enc,cut0,f149]
 have e7:(sign==[94])=false:=by simpa using s7
 have hb5:=fun hp nx=>vA (Qq p) (jq p) hp nx (jK hsm) (ku hsm)
 simp only[zbb,Cut.enc] at hb5
 simp only[wK] at s0
 have e1':=s1
 simp[Cpn.enc,hlo,hhi,hb5,e0,e1,e2,e3,e4,e5,e6,e7,s0,s1,s2,s3,s4,s5,s6,s7,zx,zR,zh,zo,zf,wK,zF,Xi,vy,zN,qz,Str.enc,Cut.enc,cut0,f149]
noncomputable def FCm (f:Cpn→PV):List PV→Option PV:=zJ (α:=Cpn) (fun c=>[.agg c.enc]) Cpn.ok f
theorem KN:za prog 149 (zG [.g zot] (FCm Xi)) :=
 zZ (fn:=f149) zqZ ⟨_,func149,by kernel_rfl,rfl,by kernel_rfl⟩ _ _ fun args r h=>by
  obtain⟨c,rfl,h1,rfl⟩:=ze h
  obtain⟨r0,h3,h4⟩:=Xj c h1
  exact⟨by simp[f149],r0,h3,h4⟩
end Go.Proofs.YtjcofiomfmebkaaGreatDoor
