/-
Comparisons: cmp.Compare at numbers and texts; a value compared with itself.
Comparing versions and cuts.
value.Compare: how two values are ordered.
Cuts and stretches out of partial versions.
-/
import Derived.Test.YtglppmnehgjolaaGreatDoorG12
import Derived.Lib.Bytealg
import Derived.Test.YtglppmnehgjolaaGreatDoorG11
set_option maxRecDepth 8000
namespace Go.Proofs.YtglppmnehgjolaaGreatDoor
open Go.Proofs.Tryz
open Go.RowKit Go.AM
def cmpI (a b:Int):Int:=if a<b then -1 else if b<a then 1 else 0
def F2I (f:Int→Int→Int):List PV→Option PV
 | [.v (.int .i64 a),.v (.int .i64 b)]=>some (int (f a b))
 | _=>none
theorem F2I_inv {f:Int→Int→Int} {args:List PV} {r:PV} (h:F2I f args=some r):∃a b,args=[int a,int b]∧r=int (f a b):=by
 unfold F2I at h
 split at h
 ·injection h with h;exact⟨_,_,rfl,h.symm⟩
 ·cases h
@[simp] theorem F2I_call (f:Int→Int→Int) (a b:Int) (hp:Hp) (nx:Nat):zd false [] (F2I f) [.v (.int .i64 a),.v (.int .i64 b)] hp nx=some (int (f a b),hp,nx):=zJ rfl rfl (.inl rfl)
def isNaNI:List PV→Option PV
 | [.v (.int .i64 _)]=>some (boo false)
 | _=>none
@[simp] theorem isNaNI_call (a:Int) (hp:Hp) (nx:Nat):zd false [] isNaNI [.v (.int .i64 a)] hp nx=some (boo false,hp,nx):=zJ rfl rfl (.inl rfl)
theorem isNaNI_sound:za prog 158 (zd false [] isNaNI) :=
 zZ (fn:=f158) q7 ⟨_,func158,by kernel_rfl,rfl,by kernel_rfl⟩ false [] _ fun args r h=>by
  unfold isNaNI at h
  split at h
  ·injection h with h;subst h
   exact⟨by simp[f158],_,ze rfl (by simp[f158]),zY _⟩
  ·cases h
noncomputable abbrev Cnn:Ctx:=zN prog [(158,zd false [] isNaNI)]
theorem goodnn:AM.Good Cnn (fun g=>[158].contains g):=zr mixed ⟨isNaNI_sound,fun _=>zf _ _,trivial⟩
theorem cmpI_sound:za prog 143 (zd false [] (F2I cmpI)) :=
 zZ (fn:=f143) goodnn ⟨_,func143,by kernel_rfl,rfl,by kernel_rfl⟩ false [] _ fun args r h=>by
  obtain⟨a,b,rfl,rfl⟩:=F2I_inv h
  refine⟨by simp[f143],_,ze rfl ?_,zY _⟩
  unfold cmpI
  by_cases h1:a<b
  ·simp[h1,f143]
  ·by_cases h2:b<a
   ·simp[h1,h2,f143]
   ·simp[h1,h2,f143]
noncomputable def F2S (f:List UInt8→List UInt8→Int):List PV→Option PV:=zM (α:=List UInt8×List UInt8) (fun a=>[str a.1,str a.2]) (fun _=>True) (fun a=>int (f a.1 a.2))
@[simp] theorem F2S_call (f:List UInt8→List UInt8→Int) (a b:List UInt8) (hp:Hp) (nx:Nat):zd false [] (F2S f) [str a,str b] hp nx=some (int (f a b),hp,nx) :=
 zJ rfl (zq (enc:=fun a:List UInt8×List UInt8=>[str a.1,str a.2]) (a:=(a,b)) (fun a b e=>by
  obtain⟨a1,a2⟩:=a;obtain⟨b1,b2⟩:=b
  simp only[List.cons.injEq,and_true] at e
  rw[qa e.1,qa e.2]) trivial) (.inl rfl)
@[simp] theorem cmpI_self (a:Int):cmpI a a=0:=by simp[cmpI]
noncomputable abbrev cmpB:=Lib.compareBytes
theorem cmpString_sound:za prog 55 (zd false [] (F2S cmpB)) :=
 sound_scalar ⟨_,func55,by kernel_rfl,by kernel_rfl⟩ fun args r h=>by
  obtain⟨⟨a,b⟩,rfl,_,rfl⟩:=zg h
  exact⟨[.string ⟨a.toArray⟩,.string ⟨b.toArray⟩],rfl,by simp[lit],_,rfl,rfl,fun w=>by simpa using Tryz.bytealg_CompareString ⟨a.toArray⟩ ⟨b.toArray⟩ w⟩
noncomputable abbrev Cstr:Ctx:=zN prog [(55,zd false [] (F2S cmpB))]
theorem qS:za prog 22 (zd false [] (F2S cmpB)) :=
 zZ (fn:=f22) (zr (q:=[]) mixed ⟨cmpString_sound,by simp,trivial⟩:AM.Good Cstr _) ⟨_,func22,by kernel_rfl,rfl,by kernel_rfl⟩ false [] _ fun args r h=>by
  obtain⟨⟨a,b⟩,rfl,_,rfl⟩:=zg h
  exact⟨by simp[f22],_,ze rfl (by simp[f22]),zY _⟩
def orL:List Int→Int
 | []=>0
 | n::l=>if n=0 then orL l else n
def encN (l:List Int):List (List PV):=l.map fun n=>[int n]
@[simp] theorem encN_length (l:List Int):(encN l).length=l.length:=by simp[encN]
@[simp] theorem encN_at {l:List Int} {k:Nat} (h:k<(encN l).length):(encN l)[k]=[int (l[k]'(by simpa using h))]:=by simp[encN]
theorem encN_inj {a b:List Int} (h:encN a=encN b):a=b:=qZ (fun x y e=>by simp only[List.cons.injEq,and_true] at e;exact zG e) h
noncomputable def FOr:List PV→Option PV:=zM (α:=List Int) (fun l=>[.sl 1 (encN l)]) (fun l=>l.length≤lim) (fun l=>int (orL l))
theorem or_eval (l:List Int) (hl:l.length≤lim):zl C0 f159 [.sl 1 (encN l)]=some (int (orL l)):=by
 refine ze rfl ?_
 unfold lim at hl
 simp
 refine zD (fun k σ hp nx=>σ 3=int 0∧σ 6=.sl 1 (encN l)∧σ 7=int l.length∧σ 8=int k∧orL l=orL (l.drop k)) l.length ⟨by simp,by simp,by simp,by simp,by simp⟩ ?_
 rintro k σ hp nx hk ⟨h3,h6,h7,h8,he⟩
 by_cases hlt:k<l.length
 ·have hw:IntKind.i64.wrap ((k:Int)+1)=(k:Int)+1:=zi (by omega) (by omega)
  rw[List.drop_eq_getElem_cons hlt] at he
  simp only[orL] at he
  by_cases hz:l[k]=0
  ·rw[if_pos hz] at he
   simp[h3,h6,h7,h8,hlt,hz,hw]
   exact⟨hlt,he⟩
  ·rw[if_neg hz] at he
   have hz':(l[k] != 0)=true:=by simpa using hz
   simp[h3,h6,h7,h8,hlt,hz',he,f159]
 ·obtain rfl:k=l.length:=by omega
  rw[List.drop_length] at he
  simp[h3,h6,h7,h8,he,orL,f159]
theorem or_sound:za prog 159 (zd false [] FOr) :=
 zZ (fn:=f159) q7 ⟨_,func159,by kernel_rfl,rfl,by kernel_rfl⟩ false [] _ fun args r h=>by
  obtain⟨l,rfl,hp,rfl⟩:=zg h
  exact⟨by simp[f159],_,or_eval l hp,zY _⟩
theorem or_call (l:List Int) (hp:Hp) (nx id:Nat) (e:Nat) (h:l.length≤lim) (hh:hp id=some ⟨e,1,true,encN l⟩):zd false [] FOr [.own id 0 l.length] hp nx=some (int (orL l),hp,nx):=by
 have ht:(encN l).take l.length=encN l:=List.take_of_length_le (by simp)
 refine zJ (show zk hp [.own id 0 l.length]=some ([.sl 1 (encN l)],upd hp id none) by simp[hh,ht]) ?_ (.inl rfl)
 exact zq (enc:=fun l:List Int=>[PV.sl 1 (encN l)]) (a:=l) (fun a b e=>by simp only[List.cons.injEq,and_true] at e;injection e with _ e;exact encN_inj e) h
def digs1 (l:List UInt8):Bool:=!l.isEmpty&&digs l
noncomputable def qK (a b:List UInt8):Int:=if digs1 a=true then (if digs1 b=true then orL [cmpI (Lib.trimLeftB a 48).length (Lib.trimLeftB b 48).length,cmpB (Lib.trimLeftB a 48) (Lib.trimLeftB b 48)] else -1) else if digs1 b=true then 1 else cmpB a b
noncomputable abbrev Ccp:Ctx:=zN prog [(219,zd false [] (FS digs)),(226,zd false [] (FTT tlP fun _ b=>one7 b)),(143,zd false [] (F2I cmpI)),(22,zd false [] (F2S cmpB)),(159,zd false [] FOr)]
theorem goodcp:AM.Good Ccp (fun g=>[219].contains g):=zr mixed ⟨jo,fun _=>zf _ _,trimLeft_sound,by simp,cmpI_sound,by simp,qS,by simp,or_sound,by simp,trivial⟩
@[simp] theorem quietcp:qE Ccp 219:=zW (by rfl) (zf _ _)
theorem tl_call (a:List UInt8) (hp:Hp) (nx:Nat) (h:a.length≤lim):zd false [] (FTT tlP fun _ b=>one7 b) [str a,str [48]] hp nx=some (str (Lib.trimLeftB a 48),hp,nx):=jJ _ _ a [48] hp nx h (by decide) ⟨48,rfl,by decide⟩ rfl
theorem comparePre_eval (a b:List UInt8) (ha:a.length≤lim) (hb:b.length≤lim):zl Ccp f208 [str a,str b]=some (int (qK a b)):=by
 refine ze rfl ?_
 have da:=fun hp nx=>yJ digs a hp nx ha
 have db:=fun hp nx=>yJ digs b hp nx hb
 have ta:=fun hp nx=>tl_call a hp nx ha
 have tb:=fun hp nx=>tl_call b hp nx hb
 have ea:(!a.isEmpty&&digs a)=digs1 a:=rfl
 have eb:(!b.isEmpty&&digs b)=digs1 b:=rfl
 cases h1:digs1 a<;>cases h2:digs1 b
 ·simp[da,db,ea,eb,h1,h2,qK,f208]
 ·simp[da,db,ea,eb,h1,h2,qK,f208]
 ·simp[da,db,ea,eb,h1,h2,qK,f208]
 ·have ho:∀(hp:Hp) (nx id:Nat),hp id=some ⟨3,1,true,[[int (cmpI (Lib.trimLeftB a 48).length (Lib.trimLeftB b 48).length)],[int (cmpB (Lib.trimLeftB a 48) (Lib.trimLeftB b 48))]]⟩→zd false [] FOr [.own id 0 2] hp nx=some (int (orL [cmpI (Lib.trimLeftB a 48).length (Lib.trimLeftB b 48).length,cmpB (Lib.trimLeftB a 48) (Lib.trimLeftB b 48)]),hp,nx):=fun hp nx id hh=>or_call [_,_] hp nx id _ (by show 2≤lim;decide) hh
  simp[da,db,ta,tb,ea,eb,h1,h2,ho,zh,zt,zj,qK,f208]
theorem comparePre_sound:za prog 208 (zd false [] (FTT (fun a b=>int (qK a b)) fun _ _=>True)) :=
 zZ (fn:=f208) goodcp ⟨_,func208,by kernel_rfl,rfl,by kernel_rfl⟩ false [] _ fun args r h=>by
  obtain⟨a,b,rfl,h1,h2,_,rfl⟩:=jn h
  exact⟨by simp[f208],_,comparePre_eval a b h1 h2,zY _⟩
theorem cpre_call (a b:List UInt8) (hp:Hp) (nx:Nat) (h:a.length≤lim) (h2:b.length≤lim):zd false [] (FTT (fun a b=>int (qK a b)) fun _ _=>True) [str a,str b] hp nx=some (int (qK a b),hp,nx):=jJ _ _ a b hp nx h h2 trivial rfl
def lexL {α:Type} (c:α→α→Int):List α→List α→Int
 | [],[]=>0
 | [],_::_=>-1
 | _::_,[]=>1
 | x::a,y::b=>if c x y=0 then lexL c a b else c x y
noncomputable abbrev Ccf:Ctx:=zN prog [(208,zd false [] (FTT (fun a b=>int (qK a b)) fun _ _=>True))]
theorem goodcf:AM.Good Ccf (fun g=>([]:List Nat).contains g):=zr mixed ⟨comparePre_sound,by simp,trivial⟩
def yR (l:List (List UInt8)):Prop:=l.length≤lim∧∀p∈l,p.length≤lim
theorem compareFuncT_eval (a b:List (List UInt8)) (ha:yR a) (hb:yR b):zl Ccf f207 [.sl 1 (encT a),.sl 1 (encT b),.fn (.func 208) [] []]=some (int (lexL qK a b)):=by
 refine ze rfl ?_
 obtain⟨ha,hap⟩:=ha
 obtain⟨hb,hbp⟩:=hb
 unfold lim at ha hb
 simp
 refine zD (fun k σ hp nx=>σ 0=.sl 1 (encT a)∧σ 1=.sl 1 (encT b)∧σ 2=.fn (.func 208) [] []∧σ 11=.sl 1 (encT a)∧σ 12=int a.length∧σ 13=int k∧k≤b.length∧lexL qK a b=lexL qK (a.drop k) (b.drop k)) a.length
  ⟨by simp,by simp,by simp,by simp,by simp,by simp,by simp,by simp⟩ ?_
 rintro k σ hp nx hk ⟨h0,h1,h2,h11,h12,h13,hkb,he⟩
 by_cases hlt:k<a.length
 ·have hw:IntKind.i64.wrap ((k:Int)+1)=(k:Int)+1:=zi (by omega) (by omega)
  by_cases hltb:k<b.length
  ·have hltb':¬b.length≤k:=by omega
   have hc:=fun hp nx=>cpre_call a[k] b[k] hp nx (hap _ (List.getElem_mem hlt)) (hbp _ (List.getElem_mem hltb))
   rw[List.drop_eq_getElem_cons hlt,List.drop_eq_getElem_cons hltb] at he
   simp only[lexL] at he
   by_cases hz:qK a[k] b[k]=0
   ·rw[if_pos hz] at he
    simp[h0,h1,h2,h11,h12,h13,hlt,hltb,hltb',hc,hz,hw]
    exact⟨hlt,by omega,he⟩
   ·rw[if_neg hz] at he
    have hz':(qK a[k] b[k] != 0)=true:=by simpa using hz
    simp[h0,h1,h2,h11,h12,h13,hlt,hltb,hltb',hc,hz',he,f207]
  ·obtain rfl:k=b.length:=by omega
   rw[List.drop_eq_getElem_cons hlt,List.drop_length] at he
   simp only[lexL] at he
   simp[h0,h1,h2,h11,h12,h13,hlt,he,f207]
 ·obtain rfl:k=a.length:=by omega
  rw[List.drop_length] at he
  by_cases hl:a.length<b.length
  ·rw[List.drop_eq_getElem_cons hl] at he
   simp only[lexL] at he
   simp[h0,h1,h2,h11,h12,h13,hl,he,f207]
  ·rw[List.drop_of_length_le (by omega)] at he
   simp only[lexL] at he
   have hl':¬((a.length:Int)<b.length):=by omega
   simp[h0,h1,h2,h11,h12,h13,hl,he,f207]
noncomputable def FCf:List PV→Option PV:=zM (α:=List (List UInt8)×List (List UInt8)) (fun a=>[.sl 1 (encT a.1),.sl 1 (encT a.2),.fn (.func 208) [] []]) (fun a=>yR a.1∧yR a.2) (fun a=>int (lexL qK a.1 a.2))
theorem cf_inj:∀a b:List (List UInt8)×List (List UInt8),[PV.sl 1 (encT a.1),.sl 1 (encT a.2),.fn (.func 208) [] []]=[.sl 1 (encT b.1),.sl 1 (encT b.2),.fn (.func 208) [] []]→a=b:=by
 rintro⟨a1,a2⟩ ⟨b1,b2⟩ e
 simp only[List.cons.injEq,and_true] at e
 obtain⟨e1,e2⟩:=e
 injection e1 with _ e1
 injection e2 with _ e2
 rw[w9 e1,w9 e2]
theorem compareFuncT_sound:za prog 207 (zd false [] FCf) :=
 zZ (fn:=f207) goodcf ⟨_,func207,by kernel_rfl,rfl,by kernel_rfl⟩ false [] _ fun args r h=>by
  obtain⟨⟨a,b⟩,rfl,⟨h1,h2⟩,rfl⟩:=zg h
  exact⟨by simp[f207],_,compareFuncT_eval a b h1 h2,zY _⟩
theorem cf_call (a b:List (List UInt8)) (hp:Hp) (nx:Nat) (h1:yR a) (h2:yR b):zd false [] FCf [.sl 1 (encT a),.sl 1 (encT b),.fn (.func 208) [] []] hp nx=some (int (lexL qK a b),hp,nx) :=
 zJ (hp1:=hp) (by simp) (zq (enc:=fun a:List (List UInt8)×List (List UInt8)=>[PV.sl 1 (encT a.1),.sl 1 (encT a.2),.fn (.func 208) [] []]) (a:=(a,b)) cf_inj ⟨h1,h2⟩) (.inl rfl)
noncomputable def cmpV (v w:Ver):Int:=if orL [cmpI v.a w.a,cmpI v.b w.b,cmpI v.c w.c]=0 then (if v.pre.length=0 then (if w.pre.length=0 then 0 else 1) else if w.pre.length=0 then -1 else lexL qK v.pre w.pre) else orL [cmpI v.a w.a,cmpI v.b w.b,cmpI v.c w.c]
noncomputable abbrev Ccv:Ctx:=zN prog [(143,zd false [] (F2I cmpI)),(159,zd false [] FOr),(207,zd false [] FCf)]
theorem goodcv:AM.Good Ccv (fun g=>[143,159].contains g):=zr mixed ⟨cmpI_sound,fun _=>zf _ _,or_sound,fun _=>zf _ _,compareFuncT_sound,by simp,trivial⟩
theorem compareVersions_eval (v w:Ver) (hv:v.small) (hw:w.small):zl Ccv f187 [.agg v.enc,.agg w.enc]=some (int (cmpV v w)):=by
 obtain⟨a,b,c,p⟩:=v
 obtain⟨a',b',c',p'⟩:=w
 refine ze rfl ?_
 have hcf:=fun hp nx=>cf_call p p' hp nx hv hw
 obtain⟨o,ho⟩:∃o,orL [cmpI a a',cmpI b b',cmpI c c']=o:=⟨_,rfl⟩
 have hor:∀(hp:Hp) (nx id:Nat),hp id=some ⟨3,1,true,[[int (cmpI a a')],[int (cmpI b b')],[int (cmpI c c')]]⟩→zd false [] FOr [.own id 0 3] hp nx=some (int o,hp,nx):=fun hp nx id hh=>ho ▸ or_call [_,_,_] hp nx id _ (by show 3≤lim;decide) hh
 have hval:cmpV ⟨a,b,c,p⟩ ⟨a',b',c',p'⟩=if o=0 then (if p.length=0 then (if p'.length=0 then 0 else 1) else if p'.length=0 then -1 else lexL qK p p') else o:=by rw[←ho];rfl
 rw[hval]
 by_cases h1:o=0
 ·subst h1
  by_cases h2:p.length=0<;>by_cases h3:p'.length=0
  ·simp[Ver.enc,hor,zh,zt,zj,h2,h3,f187]
  ·have h3':((p'.length:Int)==0)=false:=by simpa using h3
   simp[Ver.enc,hor,zh,zt,zj,h2,h3,h3',f187]
  ·have h2':((p.length:Int)==0)=false:=by simpa using h2
   simp[Ver.enc,hor,zh,zt,zj,h2,h3,h2',f187]
  ·have h2':((p.length:Int)==0)=false:=by simpa using h2
   have h3':((p'.length:Int)==0)=false:=by simpa using h3
   simp[Ver.enc,hor,zh,zt,zj,h2,h3,h2',h3',hcf,f187]
 ·have h1':(o != 0)=true:=by simpa using h1
  simp[Ver.enc,hor,zh,zt,zj,h1,h1',f187]
noncomputable def FVV2 (f:Ver→Ver→PV):List PV→Option PV:=zM (α:=Ver×Ver) (fun a=>[.agg a.1.enc,.agg a.2.enc]) (fun a=>a.1.small∧a.2.small) (fun a=>f a.1 a.2)
theorem vv_inj:∀a b:Ver×Ver,[PV.agg a.1.enc,.agg a.2.enc]=[.agg b.1.enc,.agg b.2.enc]→a=b:=by
 rintro⟨a1,a2⟩ ⟨b1,b2⟩ e
 simp only[List.cons.injEq,and_true] at e
 obtain⟨e1,e2⟩:=e
 injection e1 with e1
 injection e2 with e2
 rw[venc_inj e1,venc_inj e2]
theorem compareVersions_sound:za prog 187 (zT [.g vpat,.g vpat] (FVV2 fun v w=>int (cmpV v w))) :=
 qo (fn:=f187) goodcv ⟨_,func187,by kernel_rfl,rfl,by kernel_rfl⟩ _ _ fun args r h=>by
  obtain⟨⟨v,w⟩,rfl,⟨h1,h2⟩,rfl⟩:=zg h
  exact⟨by simp[f187],_,compareVersions_eval v w h1 h2,Stands.refl _⟩
theorem cv_call (v w:Ver) (hp:Hp) (nx:Nat) (h1:v.small) (h2:w.small):zT [.g vpat,.g vpat] (FVV2 fun v w=>int (cmpV v w)) [.agg v.enc,.agg w.enc] hp nx=some (int (cmpV v w),hp,nx) :=
 wG (show zk hp [.agg v.enc,.agg w.enc]=some ([.agg v.enc,.agg w.enc],hp) by simp[Ver.enc]) (zq (enc:=fun a:Ver×Ver=>[PV.agg a.1.enc,.agg a.2.enc]) (a:=(v,w)) vv_inj ⟨h1,h2⟩) (.inl rfl)
structure Cut where
 v:Ver
 after:Bool
def Cut.enc (c:Cut):List PV:=[int c.v.a,int c.v.b,int c.v.c,.sl 1 (encT c.v.pre),boo c.after]
abbrev cpat:List (Option Nat):=[none,none,none,some 1,none]
theorem kf {a b:Cut} (h:a.enc=b.enc):a=b:=by
 obtain⟨⟨a1,a2,a3,a4⟩,a5⟩:=a
 obtain⟨⟨b1,b2,b3,b4⟩,b5⟩:=b
 simp only[Cut.enc,List.cons.injEq,and_true] at h
 obtain⟨h1,h2,h3,h4,h5⟩:=h
 injection h4 with _ h4
 rw[zG h1,zG h2,zG h3,w9 h4,j5 h5]
noncomputable def cmpC (a b:Cut):Int:=if cmpV a.v b.v=0 then (if a.after=b.after then 0 else if b.after=true then -1 else 1) else cmpV a.v b.v
noncomputable def FCC (f:Cut→Cut→PV):List PV→Option PV:=zM (α:=Cut×Cut) (fun a=>[.agg a.1.enc,.agg a.2.enc]) (fun a=>a.1.v.small∧a.2.v.small) (fun a=>f a.1 a.2)
theorem cc_inj:∀a b:Cut×Cut,[PV.agg a.1.enc,.agg a.2.enc]=[.agg b.1.enc,.agg b.2.enc]→a=b:=by
 rintro⟨a1,a2⟩ ⟨b1,b2⟩ e
 simp only[List.cons.injEq,and_true] at e
 obtain⟨e1,e2⟩:=e
 injection e1 with e1
 injection e2 with e2
 rw[kf e1,kf e2]
noncomputable abbrev Ccu:Ctx:=zN prog [(187,zT [.g vpat,.g vpat] (FVV2 fun v w=>int (cmpV v w)))]
theorem goodcu:AM.Good Ccu (fun g=>([]:List Nat).contains g):=zr mixed ⟨compareVersions_sound,by simp,trivial⟩
theorem compareCuts_eval (x y:Cut) (hx:x.v.small) (hy:y.v.small):zl Ccu f173 [.agg x.enc,.agg y.enc]=some (int (cmpC x y)):=by
 obtain⟨⟨a,b,c,p⟩,f⟩:=x
 obtain⟨⟨a',b',c',p'⟩,f'⟩:=y
 refine ze rfl ?_
 have hcv:=fun hp nx=>cv_call ⟨a,b,c,p⟩ ⟨a',b',c',p'⟩ hp nx hx hy
 simp only[Ver.enc] at hcv
 by_cases h1:cmpV ⟨a,b,c,p⟩ ⟨a',b',c',p'⟩=0
 ·cases f<;>cases f'<;>simp[Cut.enc,hcv,h1,cmpC,f173]
 ·have h1':(cmpV ⟨a,b,c,p⟩ ⟨a',b',c',p'⟩ != 0)=true:=by simpa using h1
  simp[Cut.enc,hcv,h1,h1',cmpC,f173]
theorem yu:za prog 173 (zT [.g cpat,.g cpat] (FCC fun v w=>int (cmpC v w))) :=
 qo (fn:=f173) goodcu ⟨_,func173,by kernel_rfl,rfl,by kernel_rfl⟩ _ _ fun args r h=>by
  obtain⟨⟨v,w⟩,rfl,⟨h1,h2⟩,rfl⟩:=zg h
  exact⟨by simp[f173],_,compareCuts_eval v w h1 h2,Stands.refl _⟩
theorem cc_call (x y:Cut) (u v:PV) (hp:Hp) (nx:Nat) (hu:(Sh.g cpat).fix u=.agg x.enc) (hv:(Sh.g cpat).fix v=.agg y.enc) (hf:zk hp [u,v]=some ([u,v],hp)) (h1:x.v.small) (h2:y.v.small):zT [.g cpat,.g cpat] (FCC fun v w=>int (cmpC v w)) [u,v] hp nx=some (int (cmpC x y),hp,nx) :=
 wG hf (by
  show FCC _ [(Sh.g cpat).fix u,(Sh.g cpat).fix v]=_
  rw[hu,hv]
  exact zq (enc:=fun a:Cut×Cut=>[PV.agg a.1.enc,.agg a.2.enc]) (a:=(x,y)) cc_inj ⟨h1,h2⟩) (.inl rfl)
mutual
noncomputable def wp:Val→Val→Int
 | .mk k n s is fs,w=>if k=w.kind then (if k=1∨k=2 then cmpI n w.n else if k=3 then cmpB s w.s else if k=4 then cmpVals is w.items else if k=5 then cmpFlds fs w.fields else 0) else cmpI k w.kind
noncomputable def cmpVals:List Val→List Val→Int
 | [],[]=>0
 | [],_::_=>-1
 | _::_,[]=>1
 | a::xs,b::ys=>if wp a b=0 then cmpVals xs ys else wp a b
noncomputable def cmpFlds:List (List UInt8×Val)→List (List UInt8×Val)→Int
 | [],[]=>0
 | [],_::_=>-1
 | _::_,[]=>1
 | (x,a)::xs,g::ys=>if orL [cmpB x g.1,wp a g.2]=0 then cmpFlds xs ys else orL [cmpB x g.1,wp a g.2]
end
noncomputable def jK (f g:List UInt8×Val):Int:=orL [cmpB f.1 g.1,wp f.2 g.2]
theorem cmpVals_eq:∀a b:List Val,cmpVals a b=lexL wp a b
 | [],[]=>rfl
 | [],_::_=>rfl
 | _::_,[]=>rfl
 | a::xs,b::ys=>by simp only[cmpVals,lexL,cmpVals_eq xs ys]
theorem cmpFlds_eq:∀a b:List (List UInt8×Val),cmpFlds a b=lexL jK a b
 | [],[]=>rfl
 | [],_::_=>rfl
 | _::_,[]=>rfl
 | (x,a)::xs,g::ys=>by simp only[cmpFlds,lexL,cmpFlds_eq xs ys,jK];rfl
theorem cmpVal_eq (a b:Val):wp a b=if a.kind=b.kind then (if a.kind=1∨a.kind=2 then cmpI a.n b.n else if a.kind=3 then cmpB a.s b.s else if a.kind=4 then lexL wp a.items b.items else if a.kind=5 then lexL jK a.fields b.fields else 0) else cmpI a.kind b.kind:=by
 cases a with
 | mk k n s is fs =>
   cases b with
   | mk k' n' s' is' fs'=>simp only[wp,cmpVals_eq,cmpFlds_eq,Val.kind,Val.n,Val.s,Val.items,Val.fields];rfl
noncomputable def FCV (n:Nat):List PV→Option PV:=zM (α:=Val×Val) (fun a=>[.agg a.1.enc,.agg a.2.enc]) (fun a=>a.1.vb≤lim∧a.1.vb≤n∧a.2.vb≤lim) (fun a=>int (wp a.1 a.2))
theorem FCV_call (n:Nat) (a b:Val) (hp:Hp) (nx:Nat) (h:a.vb≤lim∧a.vb≤n∧b.vb≤lim):zd false [] (FCV n) [.agg a.enc,.agg b.enc] hp nx=some (int (wp a b),hp,nx) :=
 zJ (hp1:=hp) (show zk hp [.agg a.enc,.agg b.enc]=some ([.agg a.enc,.agg b.enc],hp) by simp only[zk,j6])
  (zq (enc:=fun a:Val×Val=>[.agg a.1.enc,.agg a.2.enc]) (a:=(a,b)) (fun x y e=>by
   obtain⟨x1,x2⟩:=x;obtain⟨y1,y2⟩:=y
   simp only[List.cons.injEq,and_true,PV.agg.injEq] at e
   rw[ve e.1,ve e.2]) h) (.inl rfl)
theorem spec_none {f:FuncId} {F:List PV→Option PV} (hfn:∃fn,prog.funcs[f]?=some fn∧(fn.name== "runtime.NumGoroutine")=false∧fn.body.isNone=false) (h:∀args r,F args=some r→False):za prog f (zd false [] F):=by
 refine⟨hfn,fun args hp nx r hp' nx' hh=>?_⟩
 unfold zd at hh
 split at hh
 ·split at hh
  ·rename_i r0 hF
   exact (h _ _ hF).elim
  ·cases hh
 ·cases hh
theorem vk {a b:List UInt8×Val} (h:encF a=encF b):a=b:=by
 obtain⟨a1,a2⟩:=a;obtain⟨b1,b2⟩:=b
 simp only[encF,List.cons.injEq] at h
 rw[qa h.1,ve h.2]
theorem Zg {a b:List (List UInt8×Val)} (h:a.map encF=b.map encF):a=b:=qZ (fun _ _=>vk) h
theorem vm {a b:List Val} (h:a.map Val.enc=b.map Val.enc):a=b:=qZ (fun _ _=>ve) h
noncomputable abbrev Ccfv (n:Nat):Ctx:=zN prog [(139,zd false [] <| FCV n)]
theorem compareFuncV_eval (n:Nat) (a b:List (Val)) (ha:vbs a≤lim∧vbs a≤n) (hb:vbs b≤lim):zl (Ccfv n) f144 [.sl 5 (a.map Val.enc),.sl 5 (b.map Val.enc),.fn (.func 139) [] []]=some (int (lexL wp a b)):=by
 refine ze rfl ?_
 obtain⟨ha,han⟩:=ha
 have la:=wC a
 have lb:=wC b
 unfold lim at ha hb
 simp
 refine zD (fun k σ hp nx=>σ 0=.sl 5 (a.map Val.enc)∧σ 1=.sl 5 (b.map Val.enc)∧σ 2=.fn (.func 139) [] []∧σ 11=.sl 5 (a.map Val.enc)∧σ 12=int a.length∧σ 13=int k∧k≤b.length∧lexL wp a b=lexL wp (a.drop k) (b.drop k)) a.length
  ⟨by simp,by simp,by simp,by simp,by simp,by simp,by simp,by simp⟩ ?_
 rintro k σ hp nx hk ⟨h0,h1,h2,h11,h12,h13,hkb,he⟩
 by_cases hlt:k<a.length
 ·have hw:IntKind.i64.wrap ((k:Int)+1)=(k:Int)+1:=zi (by omega) (by omega)
  by_cases hltb:k<b.length
  ·have hltb':¬b.length≤k:=by omega
   have ma:=jm (List.getElem_mem hlt)
   have mb:=jm (List.getElem_mem hltb)
   have hc:=fun hp nx=>FCV_call n a[k] b[k] hp nx ⟨by unfold lim;omega,by omega,by unfold lim;omega⟩
   skip
   rw[List.drop_eq_getElem_cons hlt,List.drop_eq_getElem_cons hltb] at he
   simp only[lexL] at he
   by_cases hz:wp a[k] b[k]=0
   ·rw[if_pos hz] at he
    simp[h0,h1,h2,h11,h12,h13,hlt,hltb,hltb',hc,hz,hw]
    exact⟨hlt,by omega,he⟩
   ·rw[if_neg hz] at he
    have hz':(wp a[k] b[k] != 0)=true:=by simpa using hz
    simp[h0,h1,h2,h11,h12,h13,hlt,hltb,hltb',hc,hz',he,f144]
  ·obtain rfl:k=b.length:=by omega
   rw[List.drop_eq_getElem_cons hlt,List.drop_length] at he
   simp only[lexL] at he
   simp[h0,h1,h2,h11,h12,h13,hlt,he,f144]
 ·obtain rfl:k=a.length:=by omega
  rw[List.drop_length] at he
  by_cases hl:a.length<b.length
  ·rw[List.drop_eq_getElem_cons hl] at he
   simp only[lexL] at he
   simp[h0,h1,h2,h11,h12,h13,hl,he,f144]
  ·rw[List.drop_of_length_le (by omega)] at he
   simp only[lexL] at he
   have hl':¬((a.length:Int)<b.length):=by omega
   simp[h0,h1,h2,h11,h12,h13,hl,he,f144]
noncomputable def FLV (n:Nat):List PV→Option PV:=zM (α:=List (Val)×List (Val)) (fun a=>[.sl 5 (a.1.map Val.enc),.sl 5 (a.2.map Val.enc),.fn (.func 139) [] []]) (fun a=>(vbs a.1≤lim∧vbs a.1≤n)∧vbs a.2≤lim) (fun a=>int (lexL wp a.1 a.2))
theorem FLV_call (n:Nat) (a b:List (Val)) (hp:Hp) (nx:Nat) (h:(vbs a≤lim∧vbs a≤n)∧vbs b≤lim):zd false [] (FLV n) [.sl 5 (a.map Val.enc),.sl 5 (b.map Val.enc),.fn (.func 139) [] []] hp nx=some (int (lexL wp a b),hp,nx) :=
 zJ (hp1:=hp) (by simp) (zq (enc:=fun a:List (Val)×List (Val)=>[PV.sl 5 (a.1.map Val.enc),.sl 5 (a.2.map Val.enc),.fn (.func 139) [] []]) (a:=(a,b)) (fun x y e=>by
   obtain⟨x1,x2⟩:=x;obtain⟨y1,y2⟩:=y
   simp only[List.cons.injEq,and_true] at e
   obtain⟨e1,e2⟩:=e
   injection e1 with _ e1
   injection e2 with _ e2
   rw[vm e1,vm e2]) h) (.inl rfl)
noncomputable def FFF (n:Nat):List PV→Option PV:=zM (α:=(List UInt8×Val)×(List UInt8×Val)) (fun a=>[.agg (encF a.1),.agg (encF a.2)]) (fun a=>(a.1.2.vb≤lim∧a.1.2.vb≤n∧a.2.2.vb≤lim)) (fun a=>int (jK a.1 a.2))
theorem FFF_call (n:Nat) (a b:List UInt8×Val) (hp:Hp) (nx:Nat) (h:a.2.vb≤lim∧a.2.vb≤n∧b.2.vb≤lim):zd false [] (FFF n) [.agg (encF a),.agg (encF b)] hp nx=some (int (jK a b),hp,nx) :=
 zJ (hp1:=hp) (show zk hp [.agg (encF a),.agg (encF b)]=some ([.agg (encF a),.agg (encF b)],hp) by simp[encF])
  (zq (enc:=fun a:(List UInt8×Val)×(List UInt8×Val)=>[.agg (encF a.1),.agg (encF a.2)]) (a:=(a,b)) (fun x y e=>by
   obtain⟨x1,x2⟩:=x;obtain⟨y1,y2⟩:=y
   have e1:encF x1=encF y1∧encF x2=encF y2:=by
    simp only[List.cons.injEq,and_true,PV.agg.injEq] at e
    exact⟨List.cons.injEq .. ▸ e.1,List.cons.injEq .. ▸ e.2⟩
   rw[vk e1.1,vk e1.2]) h) (.inl rfl)
noncomputable abbrev Ccfl (n:Nat):Ctx:=zN prog [(22,zd false [] (F2S cmpB)),(139,zd false [] (FCV n)),(159,zd false [] FOr)]
theorem compareFields_eval (n:Nat) (a b:List UInt8×Val) (h:a.2.vb≤lim∧a.2.vb≤n∧b.2.vb≤lim):zl (Ccfl n) f146 [.agg (encF a),.agg (encF b)]=some (int (jK a b)):=by
 refine ze rfl ?_
 have hc:=fun hp nx=>FCV_call n a.2 b.2 hp nx h
 have ho:∀(hp:Hp) (nx id:Nat),hp id=some ⟨3,1,true,[[int (cmpB a.1 b.1)],[int (wp a.2 b.2)]]⟩→zd false [] FOr [.own id 0 2] hp nx=some (int (jK a b),hp,nx):=fun hp nx id hh=>or_call [_,_] hp nx id _ (by show 2≤lim;decide) hh
 simp[encF,hc,ho,zh,zt,zj,f146]
noncomputable abbrev Ccff (n:Nat):Ctx:=zN prog [(146,zd false [] <| FFF n)]
theorem compareFuncF_eval (n:Nat) (a b:List (List UInt8×Val)) (ha:fbs a≤lim∧fbs a≤n) (hb:fbs b≤lim):zl (Ccff n) f145 [.sl 6 (a.map encF),.sl 6 (b.map encF),.fn (.func 146) [] []]=some (int (lexL jK a b)):=by
 refine ze rfl ?_
 obtain⟨ha,han⟩:=ha
 have la:=yd a
 have lb:=yd b
 unfold lim at ha hb
 simp
 refine zD (fun k σ hp nx=>σ 0=.sl 6 (a.map encF)∧σ 1=.sl 6 (b.map encF)∧σ 2=.fn (.func 146) [] []∧σ 11=.sl 6 (a.map encF)∧σ 12=int a.length∧σ 13=int k∧k≤b.length∧lexL jK a b=lexL jK (a.drop k) (b.drop k)) a.length
  ⟨by simp,by simp,by simp,by simp,by simp,by simp,by simp,by simp⟩ ?_
 rintro k σ hp nx hk ⟨h0,h1,h2,h11,h12,h13,hkb,he⟩
 by_cases hlt:k<a.length
 ·have hw:IntKind.i64.wrap ((k:Int)+1)=(k:Int)+1:=zi (by omega) (by omega)
  by_cases hltb:k<b.length
  ·have hltb':¬b.length≤k:=by omega
   have ma:=vf (List.getElem_mem hlt)
   have mb:=vf (List.getElem_mem hltb)
   have hc:=fun hp nx=>FFF_call n a[k] b[k] hp nx ⟨by unfold lim;omega,by omega,by unfold lim;omega⟩
   simp only[encF] at hc
   rw[List.drop_eq_getElem_cons hlt,List.drop_eq_getElem_cons hltb] at he
   simp only[lexL] at he
   by_cases hz:jK a[k] b[k]=0
   ·rw[if_pos hz] at he
    simp[h0,h1,h2,h11,h12,h13,hlt,hltb,hltb',hc,hz,hw]
    exact⟨hlt,by omega,he⟩
   ·rw[if_neg hz] at he
    have hz':(jK a[k] b[k] != 0)=true:=by simpa using hz
    simp[h0,h1,h2,h11,h12,h13,hlt,hltb,hltb',hc,hz',he,f145]
  ·obtain rfl:k=b.length:=by omega
   rw[List.drop_eq_getElem_cons hlt,List.drop_length] at he
   simp only[lexL] at he
   simp[h0,h1,h2,h11,h12,h13,hlt,he,f145]
 ·obtain rfl:k=a.length:=by omega
  rw[List.drop_length] at he
  by_cases hl:a.length<b.length
  ·rw[List.drop_eq_getElem_cons hl] at he
   simp only[lexL] at he
   simp[h0,h1,h2,h11,h12,h13,hl,he,f145]
  ·rw[List.drop_of_length_le (by omega)] at he
   simp only[lexL] at he
   have hl':¬((a.length:Int)<b.length):=by omega
   simp[h0,h1,h2,h11,h12,h13,hl,he,f145]
noncomputable def FLF (n:Nat):List PV→Option PV:=zM (α:=List (List UInt8×Val)×List (List UInt8×Val)) (fun a=>[.sl 6 (a.1.map encF),.sl 6 (a.2.map encF),.fn (.func 146) [] []]) (fun a=>(fbs a.1≤lim∧fbs a.1≤n)∧fbs a.2≤lim) (fun a=>int (lexL jK a.1 a.2))
theorem FLF_call (n:Nat) (a b:List (List UInt8×Val)) (hp:Hp) (nx:Nat) (h:(fbs a≤lim∧fbs a≤n)∧fbs b≤lim):zd false [] (FLF n) [.sl 6 (a.map encF),.sl 6 (b.map encF),.fn (.func 146) [] []] hp nx=some (int (lexL jK a b),hp,nx) :=
 zJ (hp1:=hp) (by simp) (zq (enc:=fun a:List (List UInt8×Val)×List (List UInt8×Val)=>[PV.sl 6 (a.1.map encF),.sl 6 (a.2.map encF),.fn (.func 146) [] []]) (a:=(a,b)) (fun x y e=>by
   obtain⟨x1,x2⟩:=x;obtain⟨y1,y2⟩:=y
   simp only[List.cons.injEq,and_true] at e
   obtain⟨e1,e2⟩:=e
   injection e1 with _ e1
   injection e2 with _ e2
   rw[Zg e1,Zg e2]) h) (.inl rfl)
noncomputable abbrev Ccmv (n:Nat):Ctx:=zN prog [(143,zd false [] (F2I cmpI)),(22,zd false [] (F2S cmpB)),(144,zd false [] (FLV n)),(145,zd false [] (FLF n))]
theorem vcompare_eval (n:Nat) (a b:Val) (h:a.vb≤lim∧a.vb≤n+1∧b.vb≤lim):zl (Ccmv n) f139 [.agg a.enc,.agg b.enc]=some (int (wp a b)):=by
 obtain⟨h1,h2,h3⟩:=h
 have va:=vb_eq a
 have vb:=vb_eq b
 have hv:=fun hp nx=>FLV_call n a.items b.items hp nx ⟨⟨by omega,by omega⟩,by omega⟩
 have hf:=fun hp nx=>FLF_call n a.fields b.fields hp nx ⟨⟨by omega,by omega⟩,by omega⟩
 refine ze rfl ?_
 have hcv:=cmpVal_eq a b
 by_cases hk:a.kind=b.kind
 ·rw[if_pos hk] at hcv
  by_cases k1:a.kind=1
  ·rw[if_pos (.inl k1)] at hcv
   have kb:b.kind=1:=by omega
   simp[k1,kb,hcv,f139]
  by_cases k2:a.kind=2
  ·rw[if_pos (.inr k2)] at hcv
   have kb:b.kind=2:=by omega
   simp[k2,kb,hcv,f139]
  rw[if_neg (by omega)] at hcv
  by_cases k3:a.kind=3
  ·rw[if_pos k3] at hcv
   have kb:b.kind=3:=by omega
   simp[k3,kb,hcv,f139]
  rw[if_neg k3] at hcv
  by_cases k4:a.kind=4
  ·rw[if_pos k4] at hcv
   have kb:b.kind=4:=by omega
   simp[k4,kb,hcv,hv,f139]
  rw[if_neg k4] at hcv
  by_cases k5:a.kind=5
  ·rw[if_pos k5] at hcv
   have kb:b.kind=5:=by omega
   simp[k5,kb,hcv,hf,f139]
  rw[if_neg k5] at hcv
  have e0:(a.kind != b.kind)=false:=by simpa using hk
  have e1:(a.kind==1)=false:=by simpa using k1
  have e2:(a.kind==2)=false:=by simpa using k2
  have e3:(a.kind==3)=false:=by simpa using k3
  have e4:(a.kind==4)=false:=by simpa using k4
  have e5:(a.kind==5)=false:=by simpa using k5
  simp[e0,e1,e2,e3,e4,e5,hcv,f139]
 ·rw[if_neg hk] at hcv
  have e0:(a.kind != b.kind)=true:=by simpa using hk
  simp[e0,hcv,f139]
theorem FCV_inv {n:Nat} {args:List PV} {r:PV} (h:FCV n args=some r):∃a b:Val,args=[.agg a.enc,.agg b.enc]∧(a.vb≤lim∧a.vb≤n∧b.vb≤lim)∧r=int (wp a b):=by
 obtain⟨⟨a,b⟩,h1,h2,h3⟩:=zg h
 exact⟨a,b,h1,h2,h3⟩
set_option maxRecDepth 100000 in
theorem vcompare_sound:∀n,za prog 139 (zd false [] (FCV n)):=by
 intro n
 induction n with
 | zero =>
   exact spec_none ⟨_,func139,by kernel_rfl,by kernel_rfl⟩ fun args r h=>by
    obtain⟨a,b,_,h2,_⟩:=FCV_inv h
    have:=vb_pos a
    omega
 | succ n ih =>
   have g1:AM.Good (Ccfv n) (fun g=>([]:List Nat).contains g):=zr mixed ⟨ih,by simp,trivial⟩
   have s1:za prog 144 (zd false [] (FLV n)) :=
    zZ (fn:=f144) g1 ⟨_,func144,by kernel_rfl,rfl,by kernel_rfl⟩ false [] _ fun args r h=>by
     obtain⟨⟨a,b⟩,rfl,⟨h1,h2⟩,rfl⟩:=zg h
     exact⟨Nat.le_trans (Nat.le_refl 3) (by decide),_,compareFuncV_eval n a b h1 h2,zY _⟩
   have g2:AM.Good (Ccfl n) (fun g=>[22,139,159].contains g):=zr mixed ⟨qS,fun _=>zf _ _,ih,fun _=>zf _ _,or_sound,fun _=>zf _ _,trivial⟩
   have s2:za prog 146 (zd false [] (FFF n)) :=
    zZ (fn:=f146) g2 ⟨_,func146,by kernel_rfl,rfl,by kernel_rfl⟩ false [] _ fun args r h=>by
     obtain⟨⟨a,b⟩,rfl,h1,rfl⟩:=zg h
     exact⟨Nat.le_trans (Nat.le_refl 2) (by decide),_,compareFields_eval n a b h1,zY _⟩
   have g3:AM.Good (Ccff n) (fun g=>([]:List Nat).contains g):=zr mixed ⟨s2,by simp,trivial⟩
   have s3:za prog 145 (zd false [] (FLF n)) :=
    zZ (fn:=f145) g3 ⟨_,func145,by kernel_rfl,rfl,by kernel_rfl⟩ false [] _ fun args r h=>by
     obtain⟨⟨a,b⟩,rfl,⟨h1,h2⟩,rfl⟩:=zg h
     exact⟨Nat.le_trans (Nat.le_refl 3) (by decide),_,compareFuncF_eval n a b h1 h2,zY _⟩
   have g4:AM.Good (Ccmv n) (fun g=>([]:List Nat).contains g):=zr mixed ⟨cmpI_sound,by simp,qS,by simp,s1,by simp,s3,by simp,trivial⟩
   exact zZ (fn:=f139) g4 ⟨_,func139,by kernel_rfl,rfl,by kernel_rfl⟩ false [] _ fun args r h=>by
    obtain⟨a,b,rfl,h1,rfl⟩:=FCV_inv h
    exact⟨Nat.le_trans (Nat.le_refl 2) (by decide),_,vcompare_eval n a b h1,zY _⟩
end Go.Proofs.YtglppmnehgjolaaGreatDoor
namespace Go.AM
open Go.RowKit
def vn (shs:List Sh) (F:List PV→Option PV):AM.Spec:=zd true [] fun args=>F (fixL shs args)
theorem pureK_sound {C:Ctx} {pf:FuncId→Bool} {f:FuncId} {fn:Func} (hg:AM.Good C pf) (hk:KnownF C pf f fn) (shs:List Sh) (F:List PV→Option PV)
  (hF:∀args r,F args=some r→args.length≤fn.ntmps∧∃r0,zl C fn args=some r0∧Stands r0 r):za C.P f (vn shs F) :=
 yK hg hk true [] _ fun args r h w S vs hz=>by
  obtain⟨h1,r0,h2,h3⟩:=hF _ _ h
  exact⟨fixL shs args,r0,vU hz,h1,h2,h3⟩
theorem hPureK_v {shs:List Sh} {F:List PV→Option PV} {args:List PV} {hp hp1:Hp} {nx:Nat} {ys:List PV} {r:PV} (h1:zk hp args=some (ys,hp1)) (h2:F (fixL shs ys)=some r) (h3:(r.flat=true∨args.all PV.noOwn=true)→hp1=hp) :
  vn shs F args hp nx=some (r,hp1,nx):=by
 have hn:qr [] ys=ys:=by cases ys<;>rfl
 unfold vn zd
 simp only[h1,hn,h2]
 split
 ·rename_i h;rw[h3 h]
 ·simp
theorem hPureK_box (shs:List Sh) (F:List PV→Option PV):yb (vn shs F):=by
 intro args hp nx r hp' nx' h
 unfold vn zd at h
 split at h
 ·rename_i ys hp1 hf
  split at h
  ·split at h
   ·injection h with h;injection h with _ h;injection h with h1 h2;subst h1;subst h2
    exact⟨Nat.le_refl _,fun id blk _ h1 _=>h1⟩
   ·split at h
    ·injection h with h;injection h with _ h;injection h with h1 h2;subst h1;subst h2
     exact⟨Nat.le_refl _,fun id blk _ h1 h2=>wY hf h1 h2⟩
    ·cases h
  ·cases h
 ·cases h
def yv (P:Program) (l:Tab) (k:Nat) (D:List (Tmp×Tmp)) (L:List Tmp) (b:List Nat):Ctx:=⟨P,lookup l,fun i=>if i=k then D else [],fun i=>if i=k then L else [],fun g=>b.contains g,fun _=>[],fun _=>none⟩
@[simp] theorem mkCtxDL_P (P:Program) (l:Tab) (k:Nat) (D:List (Tmp×Tmp)) (L:List Tmp) (b:List Nat):(yv P l k D L b).P=P:=rfl
@[simp] theorem call_mkDL (P:Program) (l:Tab) (k:Nat) (D:List (Tmp×Tmp)) (L:List Tmp) (b:List Nat) (hp:Hp) (nx g:Nat) (x y xs:List PV):qN (yv P l k D L b) hp nx (some (.fn (.func g) x y)) xs=(lookup l g).bind fun s=>s (x++xs++y) hp nx:=by
 unfold qN yv
 simp only
 cases lookup l g<;>rfl
@[simp] theorem EvC_region_mkDL (P:Program) (l:Tab) (k:Nat) (D:List (Tmp×Tmp)) (L:List Tmp) (b:List Nat) (i:Nat) (ops:Array Oper) (d:Bool) (st:St) (K:Exit→St→Prop) (h:¬i=k):EvC (yv P l k D L b) (.region i ops d) st K=EvL (yv P l k D L b) ops ops.toList st (xS K) :=
 jc _ i ops d st K (by simp[yv,h]) (by simp[yv,h])
theorem yw {P:Program} {l:Tab} {k:Nat} {D:List (Tmp×Tmp)} {L:List Tmp} {b:List Nat} {ops:Array Oper} {d:Bool} {st:St} {K:Exit→St→Prop} (h:xi D st) (h2:RefsA L st):EvC (yv P l k D L b) (.region k ops d) st K=EvL (yv P l k D L b) ops ops.toList st (xS K) :=
 yq _ k ops d st K (by simpa[yv] using h) (by simpa[yv] using h2)
theorem good_ofDL {P:Program} {l:Tab} {q:List Nat} {k:Nat} {D:List (Tmp×Tmp)} {L:List Tmp} {b:List Nat} (hm:P.follows .mixedOrders=true) (h:AllD True P q l) (hb:AllBox b l):AM.Good (yv P l k D L b) (fun g=>q.contains g) :=
 let g:=good_ofL (k:=k) (L:=L) hm h hb
 ⟨g.spec,g.quiet,g.mixed,g.box,fun _ _ h=>by cases h⟩
end Go.AM
namespace Go.Proofs.YtglppmnehgjolaaGreatDoor
open Go.Proofs.Tryz
open Go.RowKit Go.AM
def ar3 (a b c:Int):PV:=.agg [int a,int b,int c]
noncomputable def FVer:List PV→Option PV:=zM (α:=Int×Int×Int×List (List UInt8)) (fun a=>[ar3 a.1 a.2.1 a.2.2.1,.sl 1 (encT a.2.2.2)]) (fun _=>True) (fun a=>.agg (⟨a.1,a.2.1,a.2.2.1,a.2.2.2⟩:Ver).enc)
theorem ver_inj:∀a b:Int×Int×Int×List (List UInt8),[ar3 a.1 a.2.1 a.2.2.1,.sl 1 (encT a.2.2.2)]=[ar3 b.1 b.2.1 b.2.2.1,.sl 1 (encT b.2.2.2)]→a=b:=by
 rintro⟨a1,a2,a3,a4⟩ ⟨b1,b2,b3,b4⟩ e
 simp only[ar3,List.cons.injEq,and_true] at e
 obtain⟨e1,e2⟩:=e
 injection e1 with e1
 simp only[List.cons.injEq,and_true] at e1
 obtain⟨e1,e3,e4⟩:=e1
 injection e2 with _ e2
 rw[zG e1,zG e3,zG e4,w9 e2]
theorem version_eval (a b c:Int) (p:List (List UInt8)):zl C0 f185 [ar3 a b c,.sl 1 (encT p)]=some (.agg (⟨a,b,c,p⟩:Ver).enc):=by
 refine ze rfl ?_
 simp[ar3,Ver.enc,zI,zX,qC,f185]
theorem kx:za prog 185 (vn [.a,.s 1 []] FVer) :=
 pureK_sound (fn:=f185) q7 ⟨_,func185,by kernel_rfl,rfl,by kernel_rfl⟩ _ _ fun args r h=>by
  obtain⟨⟨a,b,c,p⟩,rfl,_,rfl⟩:=zg h
  exact⟨by simp[f185],_,version_eval a b c p,Stands.refl _⟩
theorem vo (a b c:Int) (p:List (List UInt8)) (y z:PV) (hp hp1:Hp) (nx:Nat) (hy:zC hp y=some (z,hp1)) (hz:n1 1 z=.sl 1 (encT p)) (hn:y.noOwn=true→hp1=hp):vn [.a,.s 1 []] FVer [ar3 a b c,y] hp nx=some (.agg (⟨a,b,c,p⟩:Ver).enc,hp1,nx) :=
 hPureK_v (ys:=[ar3 a b c,z]) (by
  have h0:zC hp (ar3 a b c)=some (ar3 a b c,hp):=by simp[ar3]
  simp only[zk,h0,hy]) (by
  have:(Sh.s 1 []).fix z=.sl 1 (encT p):=by
   cases z with
   | sl m es=>simp only[n1] at hz;simp only[Sh.fix];rw[←hz];congr 1;exact (List.map_congr_left (fun c _=>by cases c<;>rfl)).trans (List.map_id _)
   | _=>exact hz
  show FVer [ar3 a b c,(Sh.s 1 []).fix z]=_
  rw[this]
  exact zq (enc:=fun a:Int×Int×Int×List (List UInt8)=>[ar3 a.1 a.2.1 a.2.2.1,.sl 1 (encT a.2.2.2)]) (a:=(a,b,c,p)) ver_inj trivial) (by simpa[ar3,Ver.enc] using hn)
def leastC:Cut:=⟨⟨0,0,0,[[48]]⟩,false⟩
noncomputable def FUnit (r:PV):List PV→Option PV:=zM (α:=Unit) (fun _=>[]) (fun _=>True) (fun _=>r)
theorem vX (r:PV) (hp:Hp) (nx:Nat):zT [] (FUnit r) [] hp nx=some (r,hp,nx):=wG (show zk hp []=some ([],hp) from rfl) (zq (enc:=fun _:Unit=>[]) (a:=()) (fun _ _ _=>rfl) trivial) (.inr rfl)
theorem least_eval:zl C0 f167 []=some (.agg leastC.enc):=by
 refine ze rfl ?_
 simp[leastC,Cut.enc,encT,str,zI,zX,zh,zt,zj,qC,f167]
theorem least_sound:za prog 167 (zT [] (FUnit (.agg leastC.enc))) :=
 qo (fn:=f167) q7 ⟨_,func167,by kernel_rfl,rfl,by kernel_rfl⟩ _ _ fun args r h=>by
  obtain⟨_,rfl,_,rfl⟩:=zg h
  exact⟨by simp[f167],_,least_eval,Stands.refl _⟩
structure Str where
 lo:Cut
 hi:Cut
 endless:Bool
def Str.enc (s:Str):List PV:=s.lo.enc++s.hi.enc++[boo s.endless]
def cut0:Cut:=⟨⟨0,0,0,[]⟩,false⟩
abbrev spat:List (Option Nat):=[none,none,none,some 1,none,none,none,none,some 1,none,none]
def yx (c:Cut):Str:=⟨c,cut0,true⟩
def betw (a b:Cut):Str:=⟨a,b,false⟩
def encR (l:List Str):List (List PV):=l.map Str.enc
def everyP:PV:=.sl 11 (encR [yx leastC])
noncomputable abbrev Cev:Ctx:=zN prog [(167,zT [] (FUnit (.agg leastC.enc)))]
theorem goodev:AM.Good Cev (fun g=>([]:List Nat).contains g):=zr mixed ⟨least_sound,by simp,trivial⟩
theorem everything_eval:∃r0,zl Cev f149 []=some r0∧Stands r0 everyP:=by
 refine vi (sh:=.s 11 spat) rfl ?_
 simp[vX,leastC,Cut.enc,encT,str,zI,zX,zh,zt,zj,pureF,everyP,encR,yx,Str.enc,cut0,f149]
theorem kG:za prog 149 (zT [] (FUnit everyP)) :=
 qo (fn:=f149) goodev ⟨_,func149,by kernel_rfl,rfl,by kernel_rfl⟩ _ _ fun args r h=>by
  obtain⟨_,rfl,_,rfl⟩:=zg h
  obtain⟨r0,h1,h2⟩:=everything_eval
  exact⟨by simp[f149],r0,h1,h2⟩
theorem penc_inj {a b:Part} (h:a.enc=b.enc):a=b:=by
 obtain⟨a1,a2,a3,a4,a5⟩:=a
 obtain⟨b1,b2,b3,b4,b5⟩:=b
 simp only[Part.enc,List.cons.injEq,and_true] at h
 obtain⟨h1,h2,h3,h4,h5⟩:=h
 injection h5 with _ h5
 rw[zG h1,zG h2,zG h3,zG h4,w9 h5]
def Part.ok (p:Part):Prop:=(0≤p.n0∧p.n0≤999999)∧(0≤p.n1∧p.n1≤999999)∧(0≤p.n2∧p.n2≤999999)∧(1≤p.has∧p.has≤3)∧yR p.pre
noncomputable def FPa (f:Part→PV):List PV→Option PV:=zM (α:=Part) (fun p=>[.agg p.enc]) Part.ok f
theorem FPa_call (f:Part→PV) (p:Part) (u:PV) (hp:Hp) (nx:Nat) (h:p.ok) (hu:(Sh.g ppat).fix u=.agg p.enc) (hf:zC hp u=some (u,hp)) (hn:u.noOwn=true):zT [.g ppat] (FPa f) [u] hp nx=some (f p,hp,nx) :=
 wG (show zk hp [u]=some ([u],hp) by simp only[zk,hf]) (by
  show FPa f [(Sh.g ppat).fix u]=_
  rw[hu]
  exact zq (enc:=fun p:Part=>[PV.agg p.enc]) (a:=p) (fun a b e=>by simp only[List.cons.injEq,and_true] at e;injection e with e;exact penc_inj e) h) (.inr (by rw[List.all_cons,hn];rfl))
noncomputable def FPt (f:Part→PV):List PV→Option PV:=zM (α:=Part) (fun p=>[.agg p.enc]) (fun _=>True) f
theorem FPt_call (f:Part→PV) (p:Part) (hp:Hp) (nx:Nat):zT [.g ppat] (FPt f) [.agg p.enc] hp nx=some (f p,hp,nx) :=
 wG (show zk hp [.agg p.enc]=some ([.agg p.enc],hp) by simp[Part.enc]) (by
  show FPt f [(Sh.g ppat).fix (.agg p.enc)]=_
  rw[show (Sh.g ppat).fix (.agg p.enc)=.agg p.enc by simp[Part.enc]]
  exact zq (enc:=fun p:Part=>[PV.agg p.enc]) (a:=p) (fun a b e=>by simp only[List.cons.injEq,and_true] at e;injection e with e;exact penc_inj e) trivial) (.inr (by simp[Part.enc]))
def lowC (p:Part):Cut:=⟨⟨p.n0,p.n1,p.n2,p.pre⟩,false⟩
noncomputable abbrev Clo:Ctx:=zN prog [(185,vn [.a,.s 1 []] FVer)]
theorem goodlo:AM.Good Clo (fun g=>([]:List Nat).contains g):=zr mixed ⟨kx,by simp,trivial⟩
theorem low_eval (p:Part):zl Clo f168 [.agg p.enc]=some (.agg (lowC p).enc):=by
 obtain⟨a,b,c,d,e⟩:=p
 refine ze rfl ?_
 have hv:=fun hp nx=>vo a b c e (.sl 1 (encT e)) (.sl 1 (encT e)) hp hp nx (by simp) rfl (fun _=>rfl)
 simp[ar3] at hv
 simp[Part.enc,hv,lowC,Cut.enc,Ver.enc,zI,zX,qC,f168]
theorem low_sound:za prog 168 (zT [.g ppat] (FPt fun p=>.agg (lowC p).enc)) :=
 qo (fn:=f168) goodlo ⟨_,func168,by kernel_rfl,rfl,by kernel_rfl⟩ _ _ fun args r h=>by
  obtain⟨p,rfl,_,rfl⟩:=zg h
  exact⟨by simp[f168],_,low_eval p,Stands.refl _⟩
def yk (p:Part):Nat→Cut
 | 0=>⟨⟨p.n0+1,0,0,[[48]]⟩,false⟩
 | 1=>⟨⟨p.n0,p.n1+1,0,[[48]]⟩,false⟩
 | _=>⟨⟨p.n0,p.n1,p.n2+1,[[48]]⟩,false⟩
def xE (p:Part):Nat→Bool
 | 0=>decide (p.n0+1≤999999)
 | 1=>decide (p.n1+1≤999999)
 | _=>decide (p.n2+1≤999999)
def js (p:Part) (i:Nat):PV:=.tup [.agg (yk p i).enc,boo (xE p i)]
noncomputable abbrev Crsd:Ctx:=yv prog [(185,vn [.a,.s 1 []] FVer)] 7 [(6,4),(28,4)] [4,6,28] [185]
theorem goodrsd:AM.Good Crsd (fun g=>([]:List Nat).contains g):=good_ofDL mixed ⟨kx,by simp,trivial⟩ ⟨fun _=>hPureK_box _ _,trivial⟩
theorem apart_nil (st:St):xi [] st:=fun _ h=>by cases h
theorem je {a b:Tmp} {D:List (Tmp×Tmp)} {st:St} (h:apart1 st a b) (hD:xi D st):xi ((a,b)::D) st:=fun p hp=>by
 rcases List.mem_cons.1 hp with rfl | hp
 ·exact h
 ·exact hD p hp
theorem refs_nil (st:St):RefsA [] st:=fun _ h=>by cases h
theorem vY {s:Tmp} {L:List Tmp} {st:St} {id i j:Nat} {blk:Blk} (h:st.σ s=.ref id i j) (hn:id<st.nx) (hb:st.hp id=some blk) (ha:blk.arr=false) (hL:RefsA L st):RefsA (s::L) st:=fun t ht=>by
 rcases List.mem_cons.1 ht with rfl | ht
 ·refine⟨fun id' o n e=>(by rw[h] at e;cases e),fun id' i' j' e=>?_⟩
  rw[h] at e
  injection e with e _ _
  subst e
  exact⟨hn,blk,hb,ha⟩
 ·exact hL t ht
theorem refs_not {s:Tmp} {L:List Tmp} {st:St} {x:List PV} (h:st.σ s=.tup x) (hL:RefsA L st):RefsA (s::L) st:=fun t ht=>by
 rcases List.mem_cons.1 ht with rfl | ht
 ·exact⟨fun id' o n e=>(by rw[h] at e;cases e),fun id' i' j' e=>(by rw[h] at e;cases e)⟩
 ·exact hL t ht
theorem apart_ref {a b:Tmp} {st:St} {id i j id' i' j':Nat} {blk:Blk} (h1:st.σ a=.ref id i j) (h2:st.σ b=.ref id' i' j') (h3:id≠id') (h4:st.hp id'=some blk) (h5:blk.arr=false):apart1 st a b:=by
 intro id0 i0 j0 e0
 rw[h1] at e0
 injection e0 with e0 _ _
 subst e0
 exact⟨id',i',j',blk,h2,h3,h4,h5⟩
theorem apart_not {a b:Tmp} {st:St} {x:List PV} (h1:st.σ a=.tup x):apart1 st a b:=by
 intro id0 i0 j0 e0
 rw[h1] at e0
 cases e0
theorem raised_eval (p:Part) (i:Nat) (hi:i<3) (hp:p.ok):∃r0,zl Crsd f171 [.agg p.enc,int i]=some r0∧Stands r0 (js p i):=by
 obtain⟨a,b,c,d,e⟩:=p
 obtain⟨⟨a1,a2⟩,⟨b1,b2⟩,⟨c1,c2⟩,_⟩:=hp
 simp only at a1 a2 b1 b2 c1 c2
 refine wR (sh:=.g cpat) rfl ?_
 have wa:IntKind.i64.wrap (a+1)=a+1:=zi (by omega) (by omega)
 have wb:IntKind.i64.wrap (b+1)=b+1:=zi (by omega) (by omega)
 have wc:IntKind.i64.wrap (c+1)=c+1:=zi (by omega) (by omega)
 have hv:∀(a b c:Int) (hp:Hp) (nx id:Nat),hp id=some ⟨9,1,true,[[str [48]]]⟩→vn [.a,.s 1 []] FVer [ar3 a b c,.own id 0 1] hp nx=some (.agg (⟨a,b,c,[[48]]⟩:Ver).enc,upd hp id none,nx):=fun a b c hp nx id hh=>vo a b c [[48]] (.own id 0 1) (.sl 1 [[str [48]]]) hp (upd hp id none) nx (by simp[hh]) rfl (fun h=>by cases h)
 simp[ar3,str] at hv
 rcases (by omega:i=0∨i=1∨i=2) with rfl | rfl | rfl
 ·simp[Part.enc,wa]
  rw[zw]
  simp
  rw[zw]
  simp
  rw[zw]
  simp
  rw[yw (je (apart_ref (by simp;exact⟨rfl,rfl,rfl⟩) (by simp;exact⟨rfl,rfl,rfl⟩) (by omega) (by simp;rfl) rfl) (je (apart_not (by simp;rfl)) (apart_nil _)))
   (vY (by simp;exact⟨rfl,rfl,rfl⟩) (by simp) (by simp;rfl) rfl (vY (by simp;exact⟨rfl,rfl,rfl⟩) (by simp) (by simp;rfl) rfl (refs_not (by simp;rfl) (refs_nil _))))]
  simp[hv,zI,zX,zh,zt,zj,qc,js,yk,xE,Cut.enc,Ver.enc,f171]
 ·simp[Part.enc,wb]
  rw[zw]
  simp
  rw[zw]
  simp
  rw[yw (je (apart_ref (by simp;exact⟨rfl,rfl,rfl⟩) (by simp;exact⟨rfl,rfl,rfl⟩) (by omega) (by simp;rfl) rfl) (je (apart_not (by simp;rfl)) (apart_nil _)))
   (vY (by simp;exact⟨rfl,rfl,rfl⟩) (by simp) (by simp;rfl) rfl (vY (by simp;exact⟨rfl,rfl,rfl⟩) (by simp) (by simp;rfl) rfl (refs_not (by simp;rfl) (refs_nil _))))]
  simp[hv,zI,zX,zh,zt,zj,qc,js,yk,xE,Cut.enc,Ver.enc,f171]
 ·simp[Part.enc,wc]
  rw[zw]
  simp
  rw[yw (je (apart_ref (by simp;exact⟨rfl,rfl,rfl⟩) (by simp;exact⟨rfl,rfl,rfl⟩) (by omega) (by simp;rfl) rfl) (je (apart_not (by simp;rfl)) (apart_nil _)))
   (vY (by simp;exact⟨rfl,rfl,rfl⟩) (by simp) (by simp;rfl) rfl (vY (by simp;exact⟨rfl,rfl,rfl⟩) (by simp) (by simp;rfl) rfl (refs_not (by simp;rfl) (refs_nil _))))]
  simp[hv,zI,zX,zh,zt,zj,qc,js,yk,xE,Cut.enc,Ver.enc,f171]
noncomputable def FPi (f:Part→Nat→PV):List PV→Option PV:=zM (α:=Part×Nat) (fun a=>[.agg a.1.enc,int a.2]) (fun a=>a.1.ok∧a.2<3) (fun a=>f a.1 a.2)
theorem pi_inj:∀a b:Part×Nat,[PV.agg a.1.enc,int a.2]=[PV.agg b.1.enc,int b.2]→a=b:=by
 rintro⟨a1,a2⟩ ⟨b1,b2⟩ e
 simp only[List.cons.injEq,and_true] at e
 obtain⟨e1,e2⟩:=e
 injection e1 with e1
 have:=zG e2
 rw[penc_inj e1,show a2=b2 by omega]
theorem FPi_call (f:Part→Nat→PV) (p:Part) (i:Nat) (u:PV) (hp:Hp) (nx:Nat) (h:p.ok) (hi:i<3) (hu:(Sh.g ppat).fix u=.agg p.enc) (hf:zC hp u=some (u,hp)) (hn:u.noOwn=true):zT [.g ppat] (FPi f) [u,int i] hp nx=some (f p i,hp,nx) :=
 wG (show zk hp [u,int i]=some ([u,int i],hp) by simp only[zk,hf];rfl) (by
  show FPi f [(Sh.g ppat).fix u,int i]=_
  rw[hu]
  exact zq (enc:=fun a:Part×Nat=>[PV.agg a.1.enc,int a.2]) (a:=(p,i)) pi_inj ⟨h,hi⟩) (.inr (by rw[List.all_cons,hn];rfl))
theorem raised_sound:za prog 171 (zT [.g ppat] (FPi js)) :=
 qo (fn:=f171) goodrsd ⟨_,func171,by kernel_rfl,rfl,by kernel_rfl⟩ _ _ fun args r h=>by
  obtain⟨⟨p,i⟩,rfl,⟨h1,h2⟩,rfl⟩:=zg h
  obtain⟨r0,h3,h4⟩:=raised_eval p i h2 h1
  exact⟨by simp[f171],r0,h3,h4⟩
def highC (p:Part):Cut:=if p.has<3 then yk p (p.has - 1).toNat else ⟨⟨p.n0,p.n1,p.n2,p.pre⟩,true⟩
def highB (p:Part):Bool:=if p.has<3 then xE p (p.has - 1).toNat else true
def highP (p:Part):PV:=.tup [.agg (highC p).enc,boo (highB p)]
noncomputable abbrev Chi:Ctx:=zN prog [(185,vn [.a,.s 1 []] FVer),(171,zT [.g ppat] (FPi js))]
theorem goodhi:AM.Good Chi (fun g=>([]:List Nat).contains g):=zr mixed ⟨kx,by simp,raised_sound,by simp,trivial⟩
@[simp] theorem enc_frz (p:Part) (hp:Hp):zC hp (.agg p.enc)=some (.agg p.enc,hp):=by simp[Part.enc]
theorem high_eval (p:Part) (hp:p.ok):zl Chi f170 [.agg p.enc]=some (highP p):=by
 have hok:=hp
 obtain⟨_,_,_,⟨h1,h2⟩,_⟩:=hp
 refine ze rfl ?_
 have hr:=fun hp nx=>FPi_call js p (p.has - 1).toNat (.agg p.enc) hp nx hok (by omega) (by simp[Part.enc]) (enc_frz p hp) (by simp[Part.enc])
 have e1:(((p.has - 1).toNat:Nat):Int)=p.has - 1:=by omega
 have hw:IntKind.i64.wrap (p.has - 1)=p.has - 1:=zi (by omega) (by omega)
 rw[e1] at hr
 have hv:=fun hp nx=>vo p.n0 p.n1 p.n2 p.pre (.sl 1 (encT p.pre)) (.sl 1 (encT p.pre)) hp hp nx (by simp) rfl (fun _=>rfl)
 simp[ar3] at hv
 simp only[Part.enc] at hr
 by_cases h3:p.has<3
 ·simp[Part.enc,h3,hr,hw,highP,highC,highB,js,Cut.enc,qC,f170]
 ·simp[Part.enc,h3,hv,highP,highC,highB,Cut.enc,Ver.enc,zI,zX,qC,f170]
theorem high_sound:za prog 170 (zT [.g ppat] (FPa highP)) :=
 qo (fn:=f170) goodhi ⟨_,func170,by kernel_rfl,rfl,by kernel_rfl⟩ _ _ fun args r h=>by
  obtain⟨p,rfl,h1,rfl⟩:=zg h
  exact⟨by simp[f170],_,high_eval p h1,Stands.refl _⟩
noncomputable def btw (a b:Cut):List Str:=if 0≤cmpC a b then [] else [betw a b]
noncomputable def btwP (a b:Cut):PV:=.sl 11 (encR (btw a b))
noncomputable abbrev Cbt:Ctx:=zN prog [(173,zT [.g cpat,.g cpat] (FCC fun v w=>int (cmpC v w)))]
theorem goodbt:AM.Good Cbt (fun g=>([]:List Nat).contains g):=zr mixed ⟨yu,by simp,trivial⟩
theorem between_eval (x y:Cut) (hx:x.v.small) (hy:y.v.small):∃r0,zl Cbt f169 [.agg x.enc,.agg y.enc]=some r0∧Stands r0 (btwP x y):=by
 refine vi (sh:=.s 11 spat) rfl ?_
 have hc:=fun hp nx=>cc_call x y (.agg x.enc) (.agg y.enc) hp nx (by simp[Cut.enc]) (by simp[Cut.enc]) (by simp[Cut.enc]) hx hy
 simp only[Cut.enc] at hc
 by_cases h:0≤cmpC x y
 ·simp[Cut.enc,hc,h,pureF,btwP,btw,encR,f169]
 ·simp[Cut.enc,hc,h,zI,zX,zh,zt,zj,pureF,btwP,btw,encR,betw,Str.enc,f169]
theorem between_sound:za prog 169 (zT [.g cpat,.g cpat] (FCC btwP)) :=
 qo (fn:=f169) goodbt ⟨_,func169,by kernel_rfl,rfl,by kernel_rfl⟩ _ _ fun args r h=>by
  obtain⟨⟨v,w⟩,rfl,⟨h1,h2⟩,rfl⟩:=zg h
  obtain⟨r0,h3,h4⟩:=between_eval v w h1 h2
  exact⟨by simp[f169],r0,h3,h4⟩
end Go.Proofs.YtglppmnehgjolaaGreatDoor
