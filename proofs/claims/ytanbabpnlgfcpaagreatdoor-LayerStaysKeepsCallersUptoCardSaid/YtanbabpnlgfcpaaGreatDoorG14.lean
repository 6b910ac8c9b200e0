/-
Comparing versions and cuts.
value.Compare: how two values are ordered.
Conditions as data: their cells.
Cuts and stretches out of partial versions.
-/
import Derived.Test.YtanbabpnlgfcpaaGreatDoorG13
set_option maxRecDepth 8000
namespace Go.Proofs.YtanbabpnlgfcpaaGreatDoor
open Go.Proofs.Tryz
open Go.RowKit Go.AM
def orL:List Int→Int
 | []=>0
 | n::l=>if n=0 then orL l else n
def encN (l:List Int):List (List PV):=l.map fun n=>[int n]
@[simp] theorem encN_length (l:List Int):(encN l).length=l.length:=by simp[encN]
@[simp] theorem encN_at {l:List Int} {k:Nat} (h:k<(encN l).length):(encN l)[k]=[int (l[k]'(by simpa using h))]:=by simp[encN]
theorem encN_inj {a b:List Int} (h:encN a=encN b):a=b:=qH (fun x y e=>by simp only[List.cons.injEq,and_true] at e;exact zD e) h
noncomputable def FOr:List PV→Option PV:=zG (α:=List Int) (fun l=>[.sl 1 (encN l)]) (fun l=>l.length≤lim) (fun l=>int (orL l))
theorem or_eval (l:List Int) (hl:l.length≤lim):zi C0 f158 [.sl 1 (encN l)]=some (int (orL l)):=by
 refine zb rfl ?_
 unfold lim at hl
 simp
 refine zC (fun k σ hp nx=>σ 3=int 0∧σ 6=.sl 1 (encN l)∧σ 7=int l.length∧σ 8=int k∧orL l=orL (l.drop k)) l.length ⟨by simp,by simp,by simp,by simp,by simp⟩ ?_
 rintro k σ hp nx hk ⟨h3,h6,h7,h8,he⟩
 by_cases hlt:k<l.length
 ·have hw:IntKind.i64.wrap ((k:Int)+1)=(k:Int)+1:=zd (by omega) (by omega)
  rw[List.drop_eq_getElem_cons hlt] at he
  simp only[orL] at he
  by_cases hz:l[k]=0
  ·rw[if_pos hz] at he
   simp[h3,h6,h7,h8,hlt,hz,hw]
   exact⟨hlt,he⟩
  ·rw[if_neg hz] at he
   have hz':(l[k] != 0)=true:=by simpa using hz
   simp[h3,h6,h7,h8,hlt,hz',he,f158]
 ·obtain rfl:k=l.length:=by omega
  rw[List.drop_length] at he
  simp[h3,h6,h7,h8,he,orL,f158]
theorem or_sound:za prog 158 (zc false [] FOr) :=
 zJ (fn:=f158) wA ⟨_,func158,by kernel_rfl,rfl,by kernel_rfl⟩ false [] _ fun args r h=>by
  obtain⟨l,rfl,hp,rfl⟩:=zf h
  exact⟨by simp[f158],_,or_eval l hp,zI _⟩
theorem or_call (l:List Int) (hp:Hp) (nx id:Nat) (e:Nat) (h:l.length≤lim) (hh:hp id=some ⟨e,1,true,encN l⟩):zc false [] FOr [.own id 0 l.length] hp nx=some (int (orL l),hp,nx):=by
 have ht:(encN l).take l.length=encN l:=List.take_of_length_le (by simp)
 refine zt (show zh hp [.own id 0 l.length]=some ([.sl 1 (encN l)],upd hp id none) by simp[hh,ht]) ?_ (.inl rfl)
 exact zn (enc:=fun l:List Int=>[PV.sl 1 (encN l)]) (a:=l) (fun a b e=>by simp only[List.cons.injEq,and_true] at e;injection e with _ e;exact encN_inj e) h
def digs1 (l:List UInt8):Bool:=!l.isEmpty&&digs l
noncomputable def qI (a b:List UInt8):Int:=if digs1 a=true then (if digs1 b=true then orL [cmpI (Lib.trimLeftB a 48).length (Lib.trimLeftB b 48).length,cmpB (Lib.trimLeftB a 48) (Lib.trimLeftB b 48)] else -1) else if digs1 b=true then 1 else cmpB a b
noncomputable abbrev Ccp:Ctx:=zA prog [(173,zc false [] (FS digs)),(236,zc false [] (FTT tlP fun _ b=>one7 b)),(131,zc false [] (F2I cmpI)),(67,zc false [] (F2S cmpB)),(158,zc false [] FOr)]
theorem goodcp:AM.Good Ccp (fun g=>[173].contains g):=zk mixed ⟨jo,fun _=>zg _ _,trimLeft_sound,by simp,cmpI_sound,by simp,qD,by simp,or_sound,by simp,trivial⟩
@[simp] theorem quietcp:wy Ccp 173:=qr (by rfl) (zg _ _)
theorem tl_call (a:List UInt8) (hp:Hp) (nx:Nat) (h:a.length≤lim):zc false [] (FTT tlP fun _ b=>one7 b) [str a,str [48]] hp nx=some (str (Lib.trimLeftB a 48),hp,nx):=ww _ _ a [48] hp nx h (by decide) ⟨48,rfl,by decide⟩ rfl
theorem comparePre_eval (a b:List UInt8) (ha:a.length≤lim) (hb:b.length≤lim):zi Ccp f212 [str a,str b]=some (int (qI a b)):=by
 refine zb rfl ?_
 have da:=fun hp nx=>yM digs a hp nx ha
 have db:=fun hp nx=>yM digs b hp nx hb
 have ta:=fun hp nx=>tl_call a hp nx ha
 have tb:=fun hp nx=>tl_call b hp nx hb
 have ea:(!a.isEmpty&&digs a)=digs1 a:=rfl
 have eb:(!b.isEmpty&&digs b)=digs1 b:=rfl
 cases h1:digs1 a<;>cases h2:digs1 b
 ·simp[da,db,ea,eb,h1,h2,qI,f212]
 ·simp[da,db,ea,eb,h1,h2,qI,f212]
 ·simp[da,db,ea,eb,h1,h2,qI,f212]
 ·have ho:∀(hp:Hp) (nx id:Nat),hp id=some ⟨3,1,true,[[int (cmpI (Lib.trimLeftB a 48).length (Lib.trimLeftB b 48).length)],[int (cmpB (Lib.trimLeftB a 48) (Lib.trimLeftB b 48))]]⟩→zc false [] FOr [.own id 0 2] hp nx=some (int (orL [cmpI (Lib.trimLeftB a 48).length (Lib.trimLeftB b 48).length,cmpB (Lib.trimLeftB a 48) (Lib.trimLeftB b 48)]),hp,nx):=fun hp nx id hh=>or_call [_,_] hp nx id _ (by show 2≤lim;decide) hh
  simp[da,db,ta,tb,ea,eb,h1,h2,ho,zl,zx,zm,qI,f212]
theorem comparePre_sound:za prog 212 (zc false [] (FTT (fun a b=>int (qI a b)) fun _ _=>True)) :=
 zJ (fn:=f212) goodcp ⟨_,func212,by kernel_rfl,rfl,by kernel_rfl⟩ false [] _ fun args r h=>by
  obtain⟨a,b,rfl,h1,h2,_,rfl⟩:=wq h
  exact⟨by simp[f212],_,comparePre_eval a b h1 h2,zI _⟩
theorem cpre_call (a b:List UInt8) (hp:Hp) (nx:Nat) (h:a.length≤lim) (h2:b.length≤lim):zc false [] (FTT (fun a b=>int (qI a b)) fun _ _=>True) [str a,str b] hp nx=some (int (qI a b),hp,nx):=ww _ _ a b hp nx h h2 trivial rfl
def lexL {α:Type} (c:α→α→Int):List α→List α→Int
 | [],[]=>0
 | [],_::_=>-1
 | _::_,[]=>1
 | x::a,y::b=>if c x y=0 then lexL c a b else c x y
noncomputable abbrev Ccf:Ctx:=zA prog [(212,zc false [] (FTT (fun a b=>int (qI a b)) fun _ _=>True))]
theorem goodcf:AM.Good Ccf (fun g=>([]:List Nat).contains g):=zk mixed ⟨comparePre_sound,by simp,trivial⟩
def yR (l:List (List UInt8)):Prop:=l.length≤lim∧∀p∈l,p.length≤lim
theorem compareFuncT_eval (a b:List (List UInt8)) (ha:yR a) (hb:yR b):zi Ccf f211 [.sl 1 (encT a),.sl 1 (encT b),.fn (.func 212) [] []]=some (int (lexL qI a b)):=by
 refine zb rfl ?_
 obtain⟨ha,hap⟩:=ha
 obtain⟨hb,hbp⟩:=hb
 unfold lim at ha hb
 simp
 refine zC (fun k σ hp nx=>σ 0=.sl 1 (encT a)∧σ 1=.sl 1 (encT b)∧σ 2=.fn (.func 212) [] []∧σ 11=.sl 1 (encT a)∧σ 12=int a.length∧σ 13=int k∧k≤b.length∧lexL qI a b=lexL qI (a.drop k) (b.drop k)) a.length
  ⟨by simp,by simp,by simp,by simp,by simp,by simp,by simp,by simp⟩ ?_
 rintro k σ hp nx hk ⟨h0,h1,h2,h11,h12,h13,hkb,he⟩
 by_cases hlt:k<a.length
 ·have hw:IntKind.i64.wrap ((k:Int)+1)=(k:Int)+1:=zd (by omega) (by omega)
  by_cases hltb:k<b.length
  ·have hltb':¬b.length≤k:=by omega
   have hc:=fun hp nx=>cpre_call a[k] b[k] hp nx (hap _ (List.getElem_mem hlt)) (hbp _ (List.getElem_mem hltb))
   rw[List.drop_eq_getElem_cons hlt,List.drop_eq_getElem_cons hltb] at he
   simp only[lexL] at he
   by_cases hz:qI a[k] b[k]=0
   ·rw[if_pos hz] at he
    simp[h0,h1,h2,h11,h12,h13,hlt,hltb,hltb',hc,hz,hw]
    exact⟨hlt,by omega,he⟩
   ·rw[if_neg hz] at he
    have hz':(qI a[k] b[k] != 0)=true:=by simpa using hz
    simp[h0,h1,h2,h11,h12,h13,hlt,hltb,hltb',hc,hz',he,f211]
  ·obtain rfl:k=b.length:=by omega
   rw[List.drop_eq_getElem_cons hlt,List.drop_length] at he
   simp only[lexL] at he
   simp[h0,h1,h2,h11,h12,h13,hlt,he,f211]
 ·obtain rfl:k=a.length:=by omega
  rw[List.drop_length] at he
  by_cases hl:a.length<b.length
  ·rw[List.drop_eq_getElem_cons hl] at he
   simp only[lexL] at he
   simp[h0,h1,h2,h11,h12,h13,hl,he,f211]
  ·rw[List.drop_of_length_le (by omega)] at he
   simp only[lexL] at he
   have hl':¬((a.length:Int)<b.length):=by omega
   simp[h0,h1,h2,h11,h12,h13,hl,he,f211]
noncomputable def FCf:List PV→Option PV:=zG (α:=List (List UInt8)×List (List UInt8)) (fun a=>[.sl 1 (encT a.1),.sl 1 (encT a.2),.fn (.func 212) [] []]) (fun a=>yR a.1∧yR a.2) (fun a=>int (lexL qI a.1 a.2))
theorem cf_inj:∀a b:List (List UInt8)×List (List UInt8),[PV.sl 1 (encT a.1),.sl 1 (encT a.2),.fn (.func 212) [] []]=[.sl 1 (encT b.1),.sl 1 (encT b.2),.fn (.func 212) [] []]→a=b:=by
 rintro⟨a1,a2⟩ ⟨b1,b2⟩ e
 simp only[List.cons.injEq,and_true] at e
 obtain⟨e1,e2⟩:=e
 injection e1 with _ e1
 injection e2 with _ e2
 rw[qT e1,qT e2]
theorem compareFuncT_sound:za prog 211 (zc false [] FCf) :=
 zJ (fn:=f211) goodcf ⟨_,func211,by kernel_rfl,rfl,by kernel_rfl⟩ false [] _ fun args r h=>by
  obtain⟨⟨a,b⟩,rfl,⟨h1,h2⟩,rfl⟩:=zf h
  exact⟨by simp[f211],_,compareFuncT_eval a b h1 h2,zI _⟩
theorem cf_call (a b:List (List UInt8)) (hp:Hp) (nx:Nat) (h1:yR a) (h2:yR b):zc false [] FCf [.sl 1 (encT a),.sl 1 (encT b),.fn (.func 212) [] []] hp nx=some (int (lexL qI a b),hp,nx) :=
 zt (hp1:=hp) (by simp) (zn (enc:=fun a:List (List UInt8)×List (List UInt8)=>[PV.sl 1 (encT a.1),.sl 1 (encT a.2),.fn (.func 212) [] []]) (a:=(a,b)) cf_inj ⟨h1,h2⟩) (.inl rfl)
noncomputable def cmpV (v w:Ver):Int:=if orL [cmpI v.a w.a,cmpI v.b w.b,cmpI v.c w.c]=0 then (if v.pre.length=0 then (if w.pre.length=0 then 0 else 1) else if w.pre.length=0 then -1 else lexL qI v.pre w.pre) else orL [cmpI v.a w.a,cmpI v.b w.b,cmpI v.c w.c]
noncomputable abbrev Ccv:Ctx:=zA prog [(131,zc false [] (F2I cmpI)),(158,zc false [] FOr),(211,zc false [] FCf)]
theorem goodcv:AM.Good Ccv (fun g=>[131,158].contains g):=zk mixed ⟨cmpI_sound,fun _=>zg _ _,or_sound,fun _=>zg _ _,compareFuncT_sound,by simp,trivial⟩
theorem compareVersions_eval (v w:Ver) (hv:v.small) (hw:w.small):zi Ccv f191 [.agg v.enc,.agg w.enc]=some (int (cmpV v w)):=by
 obtain⟨a,b,c,p⟩:=v
 obtain⟨a',b',c',p'⟩:=w
 refine zb rfl ?_
 have hcf:=fun hp nx=>cf_call p p' hp nx hv hw
 obtain⟨o,ho⟩:∃o,orL [cmpI a a',cmpI b b',cmpI c c']=o:=⟨_,rfl⟩
 have hor:∀(hp:Hp) (nx id:Nat),hp id=some ⟨3,1,true,[[int (cmpI a a')],[int (cmpI b b')],[int (cmpI c c')]]⟩→zc false [] FOr [.own id 0 3] hp nx=some (int o,hp,nx):=fun hp nx id hh=>ho ▸ or_call [_,_,_] hp nx id _ (by show 3≤lim;decide) hh
 have hval:cmpV ⟨a,b,c,p⟩ ⟨a',b',c',p'⟩=if o=0 then (if p.length=0 then (if p'.length=0 then 0 else 1) else if p'.length=0 then -1 else lexL qI p p') else o:=by rw[←ho];rfl
 rw[hval]
 by_cases h1:o=0
 ·subst h1
  by_cases h2:p.length=0<;>by_cases h3:p'.length=0
  ·simp[Ver.enc,hor,zl,zx,zm,h2,h3,f191]
  ·have h3':((p'.length:Int)==0)=false:=by simpa using h3
   simp[Ver.enc,hor,zl,zx,zm,h2,h3,h3',f191]
  ·have h2':((p.length:Int)==0)=false:=by simpa using h2
   simp[Ver.enc,hor,zl,zx,zm,h2,h3,h2',f191]
  ·have h2':((p.length:Int)==0)=false:=by simpa using h2
   have h3':((p'.length:Int)==0)=false:=by simpa using h3
   simp[Ver.enc,hor,zl,zx,zm,h2,h3,h2',h3',hcf,f191]
 ·have h1':(o != 0)=true:=by simpa using h1
  simp[Ver.enc,hor,zl,zx,zm,h1,h1',f191]
noncomputable def FVV2 (f:Ver→Ver→PV):List PV→Option PV:=zG (α:=Ver×Ver) (fun a=>[.agg a.1.enc,.agg a.2.enc]) (fun a=>a.1.small∧a.2.small) (fun a=>f a.1 a.2)
theorem vv_inj:∀a b:Ver×Ver,[PV.agg a.1.enc,.agg a.2.enc]=[.agg b.1.enc,.agg b.2.enc]→a=b:=by
 rintro⟨a1,a2⟩ ⟨b1,b2⟩ e
 simp only[List.cons.injEq,and_true] at e
 obtain⟨e1,e2⟩:=e
 injection e1 with e1
 injection e2 with e2
 rw[vF e1,vF e2]
theorem compareVersions_sound:za prog 191 (zR [.g vpat,.g vpat] (FVV2 fun v w=>int (cmpV v w))) :=
 qB (fn:=f191) goodcv ⟨_,func191,by kernel_rfl,rfl,by kernel_rfl⟩ _ _ fun args r h=>by
  obtain⟨⟨v,w⟩,rfl,⟨h1,h2⟩,rfl⟩:=zf h
  exact⟨by simp[f191],_,compareVersions_eval v w h1 h2,Stands.refl _⟩
theorem cv_call (v w:Ver) (hp:Hp) (nx:Nat) (h1:v.small) (h2:w.small):zR [.g vpat,.g vpat] (FVV2 fun v w=>int (cmpV v w)) [.agg v.enc,.agg w.enc] hp nx=some (int (cmpV v w),hp,nx) :=
 w9 (show zh hp [.agg v.enc,.agg w.enc]=some ([.agg v.enc,.agg w.enc],hp) by simp[Ver.enc]) (zn (enc:=fun a:Ver×Ver=>[PV.agg a.1.enc,.agg a.2.enc]) (a:=(v,w)) vv_inj ⟨h1,h2⟩) (.inl rfl)
structure Cut where
 v:Ver
 after:Bool
def Cut.enc (c:Cut):List PV:=[int c.v.a,int c.v.b,int c.v.c,.sl 1 (encT c.v.pre),boo c.after]
abbrev cpat:List (Option Nat):=[none,none,none,some 1,none]
theorem yC {a b:Cut} (h:a.enc=b.enc):a=b:=by
 obtain⟨⟨a1,a2,a3,a4⟩,a5⟩:=a
 obtain⟨⟨b1,b2,b3,b4⟩,b5⟩:=b
 simp only[Cut.enc,List.cons.injEq,and_true] at h
 obtain⟨h1,h2,h3,h4,h5⟩:=h
 injection h4 with _ h4
 rw[zD h1,zD h2,zD h3,qT h4,jP h5]
noncomputable def cmpC (a b:Cut):Int:=if cmpV a.v b.v=0 then (if a.after=b.after then 0 else if b.after=true then -1 else 1) else cmpV a.v b.v
noncomputable def FCC (f:Cut→Cut→PV):List PV→Option PV:=zG (α:=Cut×Cut) (fun a=>[.agg a.1.enc,.agg a.2.enc]) (fun a=>a.1.v.small∧a.2.v.small) (fun a=>f a.1 a.2)
theorem cc_inj:∀a b:Cut×Cut,[PV.agg a.1.enc,.agg a.2.enc]=[.agg b.1.enc,.agg b.2.enc]→a=b:=by
 rintro⟨a1,a2⟩ ⟨b1,b2⟩ e
 simp only[List.cons.injEq,and_true] at e
 obtain⟨e1,e2⟩:=e
 injection e1 with e1
 injection e2 with e2
 rw[yC e1,yC e2]
noncomputable abbrev Ccu:Ctx:=zA prog [(191,zR [.g vpat,.g vpat] (FVV2 fun v w=>int (cmpV v w)))]
theorem goodcu:AM.Good Ccu (fun g=>([]:List Nat).contains g):=zk mixed ⟨compareVersions_sound,by simp,trivial⟩
theorem compareCuts_eval (x y:Cut) (hx:x.v.small) (hy:y.v.small):zi Ccu f186 [.agg x.enc,.agg y.enc]=some (int (cmpC x y)):=by
 obtain⟨⟨a,b,c,p⟩,f⟩:=x
 obtain⟨⟨a',b',c',p'⟩,f'⟩:=y
 refine zb rfl ?_
 have hcv:=fun hp nx=>cv_call ⟨a,b,c,p⟩ ⟨a',b',c',p'⟩ hp nx hx hy
 simp only[Ver.enc] at hcv
 by_cases h1:cmpV ⟨a,b,c,p⟩ ⟨a',b',c',p'⟩=0
 ·cases f<;>cases f'<;>simp[Cut.enc,hcv,h1,cmpC,f186]
 ·have h1':(cmpV ⟨a,b,c,p⟩ ⟨a',b',c',p'⟩ != 0)=true:=by simpa using h1
  simp[Cut.enc,hcv,h1,h1',cmpC,f186]
theorem wE:za prog 186 (zR [.g cpat,.g cpat] (FCC fun v w=>int (cmpC v w))) :=
 qB (fn:=f186) goodcu ⟨_,func186,by kernel_rfl,rfl,by kernel_rfl⟩ _ _ fun args r h=>by
  obtain⟨⟨v,w⟩,rfl,⟨h1,h2⟩,rfl⟩:=zf h
  exact⟨by simp[f186],_,compareCuts_eval v w h1 h2,Stands.refl _⟩
theorem cc_call (x y:Cut) (u v:PV) (hp:Hp) (nx:Nat) (hu:(Sh.g cpat).fix u=.agg x.enc) (hv:(Sh.g cpat).fix v=.agg y.enc) (hf:zh hp [u,v]=some ([u,v],hp)) (h1:x.v.small) (h2:y.v.small):zR [.g cpat,.g cpat] (FCC fun v w=>int (cmpC v w)) [u,v] hp nx=some (int (cmpC x y),hp,nx) :=
 w9 hf (by
  show FCC _ [(Sh.g cpat).fix u,(Sh.g cpat).fix v]=_
  rw[hu,hv]
  exact zn (enc:=fun a:Cut×Cut=>[PV.agg a.1.enc,.agg a.2.enc]) (a:=(x,y)) cc_inj ⟨h1,h2⟩) (.inl rfl)
mutual
noncomputable def qM:Val→Val→Int
 | .mk k n s is fs,w=>if k=w.kind then (if k=1∨k=2 then cmpI n w.n else if k=3 then cmpB s w.s else if k=4 then cmpVals is w.items else if k=5 then cmpFlds fs w.fields else 0) else cmpI k w.kind
noncomputable def cmpVals:List Val→List Val→Int
 | [],[]=>0
 | [],_::_=>-1
 | _::_,[]=>1
 | a::xs,b::ys=>if qM a b=0 then cmpVals xs ys else qM a b
noncomputable def cmpFlds:List (List UInt8×Val)→List (List UInt8×Val)→Int
 | [],[]=>0
 | [],_::_=>-1
 | _::_,[]=>1
 | (x,a)::xs,g::ys=>if orL [cmpB x g.1,qM a g.2]=0 then cmpFlds xs ys else orL [cmpB x g.1,qM a g.2]
end
noncomputable def jz (f g:List UInt8×Val):Int:=orL [cmpB f.1 g.1,qM f.2 g.2]
theorem cmpVals_eq:∀a b:List Val,cmpVals a b=lexL qM a b
 | [],[]=>rfl
 | [],_::_=>rfl
 | _::_,[]=>rfl
 | a::xs,b::ys=>by simp only[cmpVals,lexL,cmpVals_eq xs ys]
theorem cmpFlds_eq:∀a b:List (List UInt8×Val),cmpFlds a b=lexL jz a b
 | [],[]=>rfl
 | [],_::_=>rfl
 | _::_,[]=>rfl
 | (x,a)::xs,g::ys=>by simp only[cmpFlds,lexL,cmpFlds_eq xs ys,jz];rfl
theorem cmpVal_eq (a b:Val):qM a b=if a.kind=b.kind then (if a.kind=1∨a.kind=2 then cmpI a.n b.n else if a.kind=3 then cmpB a.s b.s else if a.kind=4 then lexL qM a.items b.items else if a.kind=5 then lexL jz a.fields b.fields else 0) else cmpI a.kind b.kind:=by
 cases a with
 | mk k n s is fs =>
   cases b with
   | mk k' n' s' is' fs'=>simp only[qM,cmpVals_eq,cmpFlds_eq,Val.kind,Val.n,Val.s,Val.items,Val.fields];rfl
noncomputable def FCV (n:Nat):List PV→Option PV:=zG (α:=Val×Val) (fun a=>[.agg a.1.enc,.agg a.2.enc]) (fun a=>a.1.vb≤lim∧a.1.vb≤n∧a.2.vb≤lim) (fun a=>int (qM a.1 a.2))
theorem FCV_call (n:Nat) (a b:Val) (hp:Hp) (nx:Nat) (h:a.vb≤lim∧a.vb≤n∧b.vb≤lim):zc false [] (FCV n) [.agg a.enc,.agg b.enc] hp nx=some (int (qM a b),hp,nx) :=
 zt (hp1:=hp) (show zh hp [.agg a.enc,.agg b.enc]=some ([.agg a.enc,.agg b.enc],hp) by simp only[zh,freeze_enc])
  (zn (enc:=fun a:Val×Val=>[.agg a.1.enc,.agg a.2.enc]) (a:=(a,b)) (fun x y e=>by
   obtain⟨x1,x2⟩:=x;obtain⟨y1,y2⟩:=y
   simp only[List.cons.injEq,and_true,PV.agg.injEq] at e
   rw[km e.1,km e.2]) h) (.inl rfl)
theorem spec_none {f:FuncId} {F:List PV→Option PV} (hfn:∃fn,prog.funcs[f]?=some fn∧(fn.name== "runtime.NumGoroutine")=false∧fn.body.isNone=false) (h:∀args r,F args=some r→False):za prog f (zc false [] F):=by
 refine⟨hfn,fun args hp nx r hp' nx' hh=>?_⟩
 unfold zc at hh
 split at hh
 ·split at hh
  ·rename_i r0 hF
   exact (h _ _ hF).elim
  ·cases hh
 ·cases hh
theorem encFd_inj {a b:List UInt8×Val} (h:encF a=encF b):a=b:=by
 obtain⟨a1,a2⟩:=a;obtain⟨b1,b2⟩:=b
 simp only[encF,List.cons.injEq] at h
 rw[zM h.1,km h.2]
theorem encFs_inj {a b:List (List UInt8×Val)} (h:a.map encF=b.map encF):a=b:=qH (fun _ _=>encFd_inj) h
theorem encVs_inj {a b:List Val} (h:a.map Val.enc=b.map Val.enc):a=b:=qH (fun _ _=>km) h
noncomputable abbrev Ccfv (n:Nat):Ctx:=zA prog [(115,zc false [] <| FCV n)]
theorem compareFuncV_eval (n:Nat) (a b:List (Val)) (ha:vbs a≤lim∧vbs a≤n) (hb:vbs b≤lim):zi (Ccfv n) f132 [.sl 5 (a.map Val.enc),.sl 5 (b.map Val.enc),.fn (.func 115) [] []]=some (int (lexL qM a b)):=by
 refine zb rfl ?_
 obtain⟨ha,han⟩:=ha
 have la:=wW a
 have lb:=wW b
 unfold lim at ha hb
 simp
 refine zC (fun k σ hp nx=>σ 0=.sl 5 (a.map Val.enc)∧σ 1=.sl 5 (b.map Val.enc)∧σ 2=.fn (.func 115) [] []∧σ 11=.sl 5 (a.map Val.enc)∧σ 12=int a.length∧σ 13=int k∧k≤b.length∧lexL qM a b=lexL qM (a.drop k) (b.drop k)) a.length
  ⟨by simp,by simp,by simp,by simp,by simp,by simp,by simp,by simp⟩ ?_
 rintro k σ hp nx hk ⟨h0,h1,h2,h11,h12,h13,hkb,he⟩
 by_cases hlt:k<a.length
 ·have hw:IntKind.i64.wrap ((k:Int)+1)=(k:Int)+1:=zd (by omega) (by omega)
  by_cases hltb:k<b.length
  ·have hltb':¬b.length≤k:=by omega
   have ma:=jC (List.getElem_mem hlt)
   have mb:=jC (List.getElem_mem hltb)
   have hc:=fun hp nx=>FCV_call n a[k] b[k] hp nx ⟨by unfold lim;omega,by omega,by unfold lim;omega⟩
   skip
   rw[List.drop_eq_getElem_cons hlt,List.drop_eq_getElem_cons hltb] at he
   simp only[lexL] at he
   by_cases hz:qM a[k] b[k]=0
   ·rw[if_pos hz] at he
    simp[h0,h1,h2,h11,h12,h13,hlt,hltb,hltb',hc,hz,hw]
    exact⟨hlt,by omega,he⟩
   ·rw[if_neg hz] at he
    have hz':(qM a[k] b[k] != 0)=true:=by simpa using hz
    simp[h0,h1,h2,h11,h12,h13,hlt,hltb,hltb',hc,hz',he,f132]
  ·obtain rfl:k=b.length:=by omega
   rw[List.drop_eq_getElem_cons hlt,List.drop_length] at he
   simp only[lexL] at he
   simp[h0,h1,h2,h11,h12,h13,hlt,he,f132]
 ·obtain rfl:k=a.length:=by omega
  rw[List.drop_length] at he
  by_cases hl:a.length<b.length
  ·rw[List.drop_eq_getElem_cons hl] at he
   simp only[lexL] at he
   simp[h0,h1,h2,h11,h12,h13,hl,he,f132]
  ·rw[List.drop_of_length_le (by omega)] at he
   simp only[lexL] at he
   have hl':¬((a.length:Int)<b.length):=by omega
   simp[h0,h1,h2,h11,h12,h13,hl,he,f132]
noncomputable def FLV (n:Nat):List PV→Option PV:=zG (α:=List (Val)×List (Val)) (fun a=>[.sl 5 (a.1.map Val.enc),.sl 5 (a.2.map Val.enc),.fn (.func 115) [] []]) (fun a=>(vbs a.1≤lim∧vbs a.1≤n)∧vbs a.2≤lim) (fun a=>int (lexL qM a.1 a.2))
theorem FLV_call (n:Nat) (a b:List (Val)) (hp:Hp) (nx:Nat) (h:(vbs a≤lim∧vbs a≤n)∧vbs b≤lim):zc false [] (FLV n) [.sl 5 (a.map Val.enc),.sl 5 (b.map Val.enc),.fn (.func 115) [] []] hp nx=some (int (lexL qM a b),hp,nx) :=
 zt (hp1:=hp) (by simp) (zn (enc:=fun a:List (Val)×List (Val)=>[PV.sl 5 (a.1.map Val.enc),.sl 5 (a.2.map Val.enc),.fn (.func 115) [] []]) (a:=(a,b)) (fun x y e=>by
   obtain⟨x1,x2⟩:=x;obtain⟨y1,y2⟩:=y
   simp only[List.cons.injEq,and_true] at e
   obtain⟨e1,e2⟩:=e
   injection e1 with _ e1
   injection e2 with _ e2
   rw[encVs_inj e1,encVs_inj e2]) h) (.inl rfl)
noncomputable def FFF (n:Nat):List PV→Option PV:=zG (α:=(List UInt8×Val)×(List UInt8×Val)) (fun a=>[.agg (encF a.1),.agg (encF a.2)]) (fun a=>(a.1.2.vb≤lim∧a.1.2.vb≤n∧a.2.2.vb≤lim)) (fun a=>int (jz a.1 a.2))
theorem FFF_call (n:Nat) (a b:List UInt8×Val) (hp:Hp) (nx:Nat) (h:a.2.vb≤lim∧a.2.vb≤n∧b.2.vb≤lim):zc false [] (FFF n) [.agg (encF a),.agg (encF b)] hp nx=some (int (jz a b),hp,nx) :=
 zt (hp1:=hp) (show zh hp [.agg (encF a),.agg (encF b)]=some ([.agg (encF a),.agg (encF b)],hp) by simp[encF])
  (zn (enc:=fun a:(List UInt8×Val)×(List UInt8×Val)=>[.agg (encF a.1),.agg (encF a.2)]) (a:=(a,b)) (fun x y e=>by
   obtain⟨x1,x2⟩:=x;obtain⟨y1,y2⟩:=y
   have e1:encF x1=encF y1∧encF x2=encF y2:=by
    simp only[List.cons.injEq,and_true,PV.agg.injEq] at e
    exact⟨List.cons.injEq .. ▸ e.1,List.cons.injEq .. ▸ e.2⟩
   rw[encFd_inj e1.1,encFd_inj e1.2]) h) (.inl rfl)
noncomputable abbrev Ccfl (n:Nat):Ctx:=zA prog [(67,zc false [] (F2S cmpB)),(115,zc false [] (FCV n)),(158,zc false [] FOr)]
theorem compareFields_eval (n:Nat) (a b:List UInt8×Val) (h:a.2.vb≤lim∧a.2.vb≤n∧b.2.vb≤lim):zi (Ccfl n) f134 [.agg (encF a),.agg (encF b)]=some (int (jz a b)):=by
 refine zb rfl ?_
 have hc:=fun hp nx=>FCV_call n a.2 b.2 hp nx h
 have ho:∀(hp:Hp) (nx id:Nat),hp id=some ⟨3,1,true,[[int (cmpB a.1 b.1)],[int (qM a.2 b.2)]]⟩→zc false [] FOr [.own id 0 2] hp nx=some (int (jz a b),hp,nx):=fun hp nx id hh=>or_call [_,_] hp nx id _ (by show 2≤lim;decide) hh
 simp[encF,hc,ho,zl,zx,zm,f134]
noncomputable abbrev Ccff (n:Nat):Ctx:=zA prog [(134,zc false [] <| FFF n)]
theorem compareFuncF_eval (n:Nat) (a b:List (List UInt8×Val)) (ha:fbs a≤lim∧fbs a≤n) (hb:fbs b≤lim):zi (Ccff n) f133 [.sl 6 (a.map encF),.sl 6 (b.map encF),.fn (.func 134) [] []]=some (int (lexL jz a b)):=by
 refine zb rfl ?_
 obtain⟨ha,han⟩:=ha
 have la:=yn a
 have lb:=yn b
 unfold lim at ha hb
 simp
 refine zC (fun k σ hp nx=>σ 0=.sl 6 (a.map encF)∧σ 1=.sl 6 (b.map encF)∧σ 2=.fn (.func 134) [] []∧σ 11=.sl 6 (a.map encF)∧σ 12=int a.length∧σ 13=int k∧k≤b.length∧lexL jz a b=lexL jz (a.drop k) (b.drop k)) a.length
  ⟨by simp,by simp,by simp,by simp,by simp,by simp,by simp,by simp⟩ ?_
 rintro k σ hp nx hk ⟨h0,h1,h2,h11,h12,h13,hkb,he⟩
 by_cases hlt:k<a.length
 ·have hw:IntKind.i64.wrap ((k:Int)+1)=(k:Int)+1:=zd (by omega) (by omega)
  by_cases hltb:k<b.length
  ·have hltb':¬b.length≤k:=by omega
   have ma:=xp (List.getElem_mem hlt)
   have mb:=xp (List.getElem_mem hltb)
   have hc:=fun hp nx=>FFF_call n a[k] b[k] hp nx ⟨by unfold lim;omega,by omega,by unfold lim;omega⟩
   simp only[encF] at hc
   rw[List.drop_eq_getElem_cons hlt,List.drop_eq_getElem_cons hltb] at he
   simp only[lexL] at he
   by_cases hz:jz a[k] b[k]=0
   ·rw[if_pos hz] at he
    simp[h0,h1,h2,h11,h12,h13,hlt,hltb,hltb',hc,hz,hw]
    exact⟨hlt,by omega,he⟩
   ·rw[if_neg hz] at he
    have hz':(jz a[k] b[k] != 0)=true:=by simpa using hz
    simp[h0,h1,h2,h11,h12,h13,hlt,hltb,hltb',hc,hz',he,f133]
  ·obtain rfl:k=b.length:=by omega
   rw[List.drop_eq_getElem_cons hlt,List.drop_length] at he
   simp only[lexL] at he
   simp[h0,h1,h2,h11,h12,h13,hlt,he,f133]
 ·obtain rfl:k=a.length:=by omega
  rw[List.drop_length] at he
  by_cases hl:a.length<b.length
  ·rw[List.drop_eq_getElem_cons hl] at he
   simp only[lexL] at he
   simp[h0,h1,h2,h11,h12,h13,hl,he,f133]
  ·rw[List.drop_of_length_le (by omega)] at he
   simp only[lexL] at he
   have hl':¬((a.length:Int)<b.length):=by omega
   simp[h0,h1,h2,h11,h12,h13,hl,he,f133]
noncomputable def FLF (n:Nat):List PV→Option PV:=zG (α:=List (List UInt8×Val)×List (List UInt8×Val)) (fun a=>[.sl 6 (a.1.map encF),.sl 6 (a.2.map encF),.fn (.func 134) [] []]) (fun a=>(fbs a.1≤lim∧fbs a.1≤n)∧fbs a.2≤lim) (fun a=>int (lexL jz a.1 a.2))
theorem FLF_call (n:Nat) (a b:List (List UInt8×Val)) (hp:Hp) (nx:Nat) (h:(fbs a≤lim∧fbs a≤n)∧fbs b≤lim):zc false [] (FLF n) [.sl 6 (a.map encF),.sl 6 (b.map encF),.fn (.func 134) [] []] hp nx=some (int (lexL jz a b),hp,nx) :=
 zt (hp1:=hp) (by simp) (zn (enc:=fun a:List (List UInt8×Val)×List (List UInt8×Val)=>[PV.sl 6 (a.1.map encF),.sl 6 (a.2.map encF),.fn (.func 134) [] []]) (a:=(a,b)) (fun x y e=>by
   obtain⟨x1,x2⟩:=x;obtain⟨y1,y2⟩:=y
   simp only[List.cons.injEq,and_true] at e
   obtain⟨e1,e2⟩:=e
   injection e1 with _ e1
   injection e2 with _ e2
   rw[encFs_inj e1,encFs_inj e2]) h) (.inl rfl)
noncomputable abbrev Ccmv (n:Nat):Ctx:=zA prog [(131,zc false [] (F2I cmpI)),(67,zc false [] (F2S cmpB)),(132,zc false [] (FLV n)),(133,zc false [] (FLF n))]
theorem vcompare_eval (n:Nat) (a b:Val) (h:a.vb≤lim∧a.vb≤n+1∧b.vb≤lim):zi (Ccmv n) f115 [.agg a.enc,.agg b.enc]=some (int (qM a b)):=by
 obtain⟨h1,h2,h3⟩:=h
 have va:=vb_eq a
 have vb:=vb_eq b
 have hv:=fun hp nx=>FLV_call n a.items b.items hp nx ⟨⟨by omega,by omega⟩,by omega⟩
 have hf:=fun hp nx=>FLF_call n a.fields b.fields hp nx ⟨⟨by omega,by omega⟩,by omega⟩
 refine zb rfl ?_
 have hcv:=cmpVal_eq a b
 by_cases hk:a.kind=b.kind
 ·rw[if_pos hk] at hcv
  by_cases k1:a.kind=1
  ·rw[if_pos (.inl k1)] at hcv
   have kb:b.kind=1:=by omega
   simp[k1,kb,hcv,f115]
  by_cases k2:a.kind=2
  ·rw[if_pos (.inr k2)] at hcv
   have kb:b.kind=2:=by omega
   simp[k2,kb,hcv,f115]
  rw[if_neg (by omega)] at hcv
  by_cases k3:a.kind=3
  ·rw[if_pos k3] at hcv
   have kb:b.kind=3:=by omega
   simp[k3,kb,hcv,f115]
  rw[if_neg k3] at hcv
  by_cases k4:a.kind=4
  ·rw[if_pos k4] at hcv
   have kb:b.kind=4:=by omega
   simp[k4,kb,hcv,hv,f115]
  rw[if_neg k4] at hcv
  by_cases k5:a.kind=5
  ·rw[if_pos k5] at hcv
   have kb:b.kind=5:=by omega
   simp[k5,kb,hcv,hf,f115]
  rw[if_neg k5] at hcv
  have e0:(a.kind != b.kind)=false:=by simpa using hk
  have e1:(a.kind==1)=false:=by simpa using k1
  have e2:(a.kind==2)=false:=by simpa using k2
  have e3:(a.kind==3)=false:=by simpa using k3
  have e4:(a.kind==4)=false:=by simpa using k4
  have e5:(a.kind==5)=false:=by simpa using k5
  simp[e0,e1,e2,e3,e4,e5,hcv,f115]
 ·rw[if_neg hk] at hcv
  have e0:(a.kind != b.kind)=true:=by simpa using hk
  simp[e0,hcv,f115]
theorem FCV_inv {n:Nat} {args:List PV} {r:PV} (h:FCV n args=some r):∃a b:Val,args=[.agg a.enc,.agg b.enc]∧(a.vb≤lim∧a.vb≤n∧b.vb≤lim)∧r=int (qM a b):=by
 obtain⟨⟨a,b⟩,h1,h2,h3⟩:=zf h
 exact⟨a,b,h1,h2,h3⟩
set_option maxRecDepth 100000 in
theorem xc:∀n,za prog 115 (zc false [] (FCV n)):=by
 intro n
 induction n with
 | zero =>
   exact spec_none ⟨_,func115,by kernel_rfl,by kernel_rfl⟩ fun args r h=>by
    obtain⟨a,b,_,h2,_⟩:=FCV_inv h
    have:=vb_pos a
    omega
 | succ n ih =>
   have g1:AM.Good (Ccfv n) (fun g=>([]:List Nat).contains g):=zk mixed ⟨ih,by simp,trivial⟩
   have s1:za prog 132 (zc false [] (FLV n)) :=
    zJ (fn:=f132) g1 ⟨_,func132,by kernel_rfl,rfl,by kernel_rfl⟩ false [] _ fun args r h=>by
     obtain⟨⟨a,b⟩,rfl,⟨h1,h2⟩,rfl⟩:=zf h
     exact⟨Nat.le_trans (Nat.le_refl 3) (by decide),_,compareFuncV_eval n a b h1 h2,zI _⟩
   have g2:AM.Good (Ccfl n) (fun g=>[67,115,158].contains g):=zk mixed ⟨qD,fun _=>zg _ _,ih,fun _=>zg _ _,or_sound,fun _=>zg _ _,trivial⟩
   have s2:za prog 134 (zc false [] (FFF n)) :=
    zJ (fn:=f134) g2 ⟨_,func134,by kernel_rfl,rfl,by kernel_rfl⟩ false [] _ fun args r h=>by
     obtain⟨⟨a,b⟩,rfl,h1,rfl⟩:=zf h
     exact⟨Nat.le_trans (Nat.le_refl 2) (by decide),_,compareFields_eval n a b h1,zI _⟩
   have g3:AM.Good (Ccff n) (fun g=>([]:List Nat).contains g):=zk mixed ⟨s2,by simp,trivial⟩
   have s3:za prog 133 (zc false [] (FLF n)) :=
    zJ (fn:=f133) g3 ⟨_,func133,by kernel_rfl,rfl,by kernel_rfl⟩ false [] _ fun args r h=>by
     obtain⟨⟨a,b⟩,rfl,⟨h1,h2⟩,rfl⟩:=zf h
     exact⟨Nat.le_trans (Nat.le_refl 3) (by decide),_,compareFuncF_eval n a b h1 h2,zI _⟩
   have g4:AM.Good (Ccmv n) (fun g=>([]:List Nat).contains g):=zk mixed ⟨cmpI_sound,by simp,qD,by simp,s1,by simp,s3,by simp,trivial⟩
   exact zJ (fn:=f115) g4 ⟨_,func115,by kernel_rfl,rfl,by kernel_rfl⟩ false [] _ fun args r h=>by
    obtain⟨a,b,rfl,h1,rfl⟩:=FCV_inv h
    exact⟨Nat.le_trans (Nat.le_refl 2) (by decide),_,vcompare_eval n a b h1,zI _⟩
inductive Cnd where
 | mk (kind:Int) (attr:List UInt8) (op:Int) (vals:List Val) (pat name:List UInt8) (args:List Cnd)
namespace Cnd
def kind:Cnd→Int | .mk k _ _ _ _ _ _=>k
def attr:Cnd→List UInt8 | .mk _ a _ _ _ _ _=>a
def op:Cnd→Int | .mk _ _ o _ _ _ _=>o
def vals:Cnd→List Val | .mk _ _ _ v _ _ _=>v
def pat:Cnd→List UInt8 | .mk _ _ _ _ p _ _=>p
def name:Cnd→List UInt8 | .mk _ _ _ _ _ n _=>n
def args:Cnd→List Cnd | .mk _ _ _ _ _ _ l=>l
end Cnd
theorem Cnd.ind {P:Cnd→Prop} (h:∀k a o v p n l,(∀x∈l,P x)→P (.mk k a o v p n l)) (c:Cnd):P c :=
 Cnd.rec (motive_1:=P) (motive_2:=fun l=>∀x∈l,P x) (fun k a o v p n l hl=>h k a o v p n l hl) (by simp)
  (fun x l hx hl y hy=>by
   rcases List.mem_cons.1 hy with rfl | hy
   ·exact hx
   ·exact hl y hy) c
mutual
def Cnd.enc:Cnd→List PV
 | .mk k a o v p n l=>[int k,str a,int o,.sl 5 (v.map Val.enc),str p,str n,.sl 7 (encCds l)]
def encCds:List Cnd→List (List PV)
 | []=>[]
 | c::l=>c.enc::encCds l
end
theorem encCds_map:∀l:List Cnd,encCds l=l.map Cnd.enc
 | []=>rfl
 | c::l=>by simp[encCds,encCds_map l]
theorem ql (c:Cnd):c.enc=[int c.kind,str c.attr,int c.op,.sl 5 (c.vals.map Val.enc),str c.pat,str c.name,.sl 7 (c.args.map Cnd.enc)]:=by
 cases c with
 | mk k a o v p n l=>simp[Cnd.enc,encCds_map,Cnd.kind,Cnd.attr,Cnd.op,Cnd.vals,Cnd.pat,Cnd.name,Cnd.args]
@[simp] theorem cenc_length (c:Cnd):c.enc.length=7:=by rw[ql];rfl
@[simp] theorem cenc_cells (c:Cnd):c.enc.all PV.isCell=true:=by rw[ql];rfl
@[simp] theorem cenc_cells' (c:Cnd):(∀x,x∈c.enc→PV.isCell x=true)=True:=by
 have:=cenc_cells c
 rw[List.all_eq_true] at this
 exact eq_true this
@[simp] theorem cenc_take (c:Cnd):c.enc.take 7=c.enc:=List.take_of_length_le (by simp)
@[simp] theorem cenc_0 (c:Cnd) (h:0<c.enc.length):c.enc[0]=int c.kind:=by simp[ql c]
@[simp] theorem cenc_1 (c:Cnd) (h:1<c.enc.length):c.enc[1]=str c.attr:=by simp[ql c]
@[simp] theorem cenc_2 (c:Cnd) (h:2<c.enc.length):c.enc[2]=int c.op:=by simp[ql c]
@[simp] theorem cenc_3 (c:Cnd) (h:3<c.enc.length):c.enc[3]=.sl 5 (c.vals.map Val.enc):=by simp[ql c]
@[simp] theorem cenc_4 (c:Cnd) (h:4<c.enc.length):c.enc[4]=str c.pat:=by simp[ql c]
@[simp] theorem cenc_5 (c:Cnd) (h:5<c.enc.length):c.enc[5]=str c.name:=by simp[ql c]
@[simp] theorem cenc_6 (c:Cnd) (h:6<c.enc.length):c.enc[6]=.sl 7 (c.args.map Cnd.enc):=by simp[ql c]
theorem vals_inj {a b:List Val} (h:a.map Val.enc=b.map Val.enc):a=b:=qH (fun _ _=>km) h
theorem xS:∀{a b:Cnd},a.enc=b.enc→a=b:=by
 intro a
 induction a using Cnd.ind with
 | h k a o v p n l hl =>
   intro b e
   cases b with
   | mk k' a' o' v' p' n' l' =>
     simp only[ql,Cnd.kind,Cnd.attr,Cnd.op,Cnd.vals,Cnd.pat,Cnd.name,Cnd.args,List.cons.injEq,and_true] at e
     obtain⟨e1,e2,e3,e4,e5,e6,e7⟩:=e
     obtain rfl:=zD e1
     obtain rfl:=zM e2
     obtain rfl:=zD e3
     injection e4 with _ e4
     obtain rfl:=vals_inj e4
     obtain rfl:=zM e5
     obtain rfl:=zM e6
     injection e7 with _ e7
     rw[vG (fun x hx y=>hl x hx) e7]
mutual
def Cnd.cb:Cnd→Nat
 | .mk _ a _ v p n l=>1+a.length+vbs v+p.length+n.length+cbs l
def cbs:List Cnd→Nat
 | []=>0
 | c::l=>c.cb+cbs l
end
theorem cb_eq (c:Cnd):c.cb=1+c.attr.length+vbs c.vals+c.pat.length+c.name.length+cbs c.args:=by cases c;rfl
theorem cb_pos (c:Cnd):0<c.cb:=by rw[cb_eq];omega
theorem xq:∀{l:List Cnd} {x:Cnd},x∈l→x.cb≤cbs l
 | y::l,x,h=>by
   simp only[cbs]
   rcases List.mem_cons.1 h with rfl | h
   ·omega
   ·have:=xq h;omega
theorem jd:∀l:List Cnd,l.length≤cbs l
 | []=>by simp[cbs]
 | c::l=>by have:=jd l;have:=cb_pos c;simp only[cbs,List.length_cons];omega
mutual
def Cnd.parts:Cnd→Nat
 | .mk _ _ _ _ _ _ l=>1+partsC l
def partsC:List Cnd→Nat
 | []=>0
 | c::l=>c.parts+partsC l
end
mutual
def Cnd.levels:Cnd→Nat
 | .mk _ _ _ _ _ _ l=>levelsC l+1
def levelsC:List Cnd→Nat
 | []=>0
 | c::l=>max c.levels (levelsC l)
end
theorem cparts_eq (c:Cnd):c.parts=1+partsC c.args:=by cases c;rfl
theorem clevels_eq (c:Cnd):c.levels=levelsC c.args+1:=by cases c;rfl
theorem partsC_le' (l:List Cnd) (h:∀x∈l,x.parts≤x.cb):partsC l≤cbs l:=by
 induction l with
 | nil=>simp[partsC]
 | cons v l ih=>have:=h v (by simp);have:=ih fun x hx=>h x (by simp[hx]);simp only[partsC,cbs];omega
theorem cparts_le (c:Cnd):c.parts≤c.cb:=by
 induction c using Cnd.ind with
 | h k a o v p n l hl =>
   have:=partsC_le' l hl
   rw[cparts_eq,cb_eq]
   simp only[Cnd.args]
   omega
theorem levelsC_le' (l:List Cnd) (h:∀x∈l,x.levels≤x.parts):levelsC l≤partsC l:=by
 induction l with
 | nil=>simp[levelsC]
 | cons v l ih=>have:=h v (by simp);have:=ih fun x hx=>h x (by simp[hx]);simp only[partsC,levelsC];omega
theorem clevels_le (c:Cnd):c.levels≤c.parts:=by
 induction c using Cnd.ind with
 | h k a o v p n l hl =>
   have:=levelsC_le' l hl
   rw[cparts_eq,clevels_eq]
   simp only[Cnd.args]
   omega
theorem xT (a b:List Cnd):partsC (a++b)=partsC a+partsC b:=by
 induction a with
 | nil=>simp[partsC]
 | cons v a ih=>simp only[List.cons_append,partsC,ih];omega
theorem levelsC_append (a b:List Cnd):levelsC (a++b)=max (levelsC a) (levelsC b):=by
 induction a with
 | nil=>simp[levelsC]
 | cons v a ih=>simp only[List.cons_append,levelsC,ih];omega
theorem takeC {l:List Cnd} {k:Nat} (h:k<l.length):partsC (l.take (k+1))=partsC (l.take k)+l[k].parts∧levelsC (l.take (k+1))=max (levelsC (l.take k)) l[k].levels:=by
 rw[List.take_succ_eq_append_getElem h,xT,levelsC_append]
 simp[partsC,levelsC]
theorem partsC_le (l:List Cnd) (k:Nat):partsC (l.take k)≤partsC l:=by
 have:=xT (l.take k) (l.drop k)
 rw[List.take_append_drop] at this
 omega
noncomputable def FC (out:Cnd→PV) (n:Nat):List PV→Option PV:=zG (α:=Cnd) (fun c=>[.agg c.enc]) (fun c=>c.cb≤lim∧c.cb≤n) out
theorem FC_eq (out:Cnd→PV) (n:Nat) (c:Cnd) (h:c.cb≤lim∧c.cb≤n):FC out n [.agg c.enc]=some (out c) :=
 zn (enc:=fun c:Cnd=>[.agg c.enc]) (a:=c) (fun a b e=>by simp only[List.cons.injEq,and_true,PV.agg.injEq] at e;exact xS e) h
@[simp] theorem freezeCells_cenc (hp:Hp) (c:Cnd):zP hp c.enc=some (c.enc,hp):=by rw[ql];simp
theorem freeze_cenc (hp:Hp) (c:Cnd):zF hp (.agg c.enc)=some (.agg c.enc,hp):=by
 rw[ql]
 simp
theorem noOwn_cenc (c:Cnd):PV.noOwn (.agg c.enc)=true:=by
 rw[ql]
 simp
theorem FC_call (out:Cnd→PV) (n:Nat) (c:Cnd) (hp:Hp) (nx:Nat) (h:c.cb≤lim∧c.cb≤n):zc false [] (FC out n) [.agg c.enc] hp nx=some (out c,hp,nx) :=
 zt (hp1:=hp) (show zh hp [.agg c.enc]=some ([.agg c.enc],hp) by simp only[zh,freeze_cenc]) (FC_eq out n c h) (.inr (by simp only[List.all_cons,noOwn_cenc,List.all_nil,Bool.and_self]))
theorem FC_inv {out:Cnd→PV} {n:Nat} {args:List PV} {r:PV} (h:FC out n args=some r):∃c:Cnd,args=[.agg c.enc]∧(c.cb≤lim∧c.cb≤n)∧r=out c:=zf h
theorem FC_zero {out:Cnd→PV} {f:FuncId} (hfn:∃fn,prog.funcs[f]?=some fn∧(fn.name== "runtime.NumGoroutine")=false∧fn.body.isNone=false):za prog f (zc false [] (FC out 0)):=by
 refine⟨hfn,fun args hp nx r hp' nx' h=>?_⟩
 unfold zc at h
 split at h
 ·split at h
  ·rename_i r0 hF
   obtain⟨c,_,hc,_⟩:=FC_inv hF
   have:=cb_pos c
   omega
  ·cases h
 ·cases h
noncomputable abbrev GC (out:Cnd→PV):AM.Spec:=zc false [] (FC out lim)
theorem GC_call (out:Cnd→PV) (c:Cnd) (hp:Hp) (nx:Nat) (h:c.cb≤lim):GC out [.agg c.enc] hp nx=some (out c,hp,nx):=FC_call out lim c hp nx ⟨h,h⟩
end Go.Proofs.YtanbabpnlgfcpaaGreatDoor
namespace Go.AM
open Go.RowKit
def kZ (shs:List Sh) (F:List PV→Option PV):AM.Spec:=zc true [] fun args=>F (fixL shs args)
theorem pureK_sound {C:Ctx} {pf:FuncId→Bool} {f:FuncId} {fn:Func} (hg:AM.Good C pf) (hk:kz C pf f fn) (shs:List Sh) (F:List PV→Option PV)
  (hF:∀args r,F args=some r→args.length≤fn.ntmps∧∃r0,zi C fn args=some r0∧Stands r0 r):za C.P f (kZ shs F) :=
 xN hg hk true [] _ fun args r h w S vs hz=>by
  obtain⟨h1,r0,h2,h3⟩:=hF _ _ h
  exact⟨fixL shs args,r0,vC hz,h1,h2,h3⟩
theorem hPureK_v {shs:List Sh} {F:List PV→Option PV} {args:List PV} {hp hp1:Hp} {nx:Nat} {ys:List PV} {r:PV} (h1:zh hp args=some (ys,hp1)) (h2:F (fixL shs ys)=some r) (h3:(r.flat=true∨args.all PV.noOwn=true)→hp1=hp) :
  kZ shs F args hp nx=some (r,hp1,nx):=by
 have hn:qG [] ys=ys:=by cases ys<;>rfl
 unfold kZ zc
 simp only[h1,hn,h2]
 split
 ·rename_i h;rw[h3 h]
 ·simp
theorem hPureK_box (shs:List Sh) (F:List PV→Option PV):jB (kZ shs F):=by
 intro args hp nx r hp' nx' h
 unfold kZ zc at h
 split at h
 ·rename_i ys hp1 hf
  split at h
  ·split at h
   ·injection h with h;injection h with _ h;injection h with h1 h2;subst h1;subst h2
    exact⟨Nat.le_refl _,fun id blk _ h1 _=>h1⟩
   ·split at h
    ·injection h with h;injection h with _ h;injection h with h1 h2;subst h1;subst h2
     exact⟨Nat.le_refl _,fun id blk _ h1 h2=>v8 hf h1 h2⟩
    ·cases h
  ·cases h
 ·cases h
def yo (P:Program) (l:Tab) (k:Nat) (D:List (Tmp×Tmp)) (L:List Tmp) (b:List Nat):Ctx:=⟨P,lookup l,fun i=>if i=k then D else [],fun i=>if i=k then L else [],fun g=>b.contains g,fun _=>[],fun _=>none⟩
@[simp] theorem mkCtxDL_P (P:Program) (l:Tab) (k:Nat) (D:List (Tmp×Tmp)) (L:List Tmp) (b:List Nat):(yo P l k D L b).P=P:=rfl
@[simp] theorem call_mkDL (P:Program) (l:Tab) (k:Nat) (D:List (Tmp×Tmp)) (L:List Tmp) (b:List Nat) (hp:Hp) (nx g:Nat) (x y xs:List PV):qN (yo P l k D L b) hp nx (some (.fn (.func g) x y)) xs=(lookup l g).bind fun s=>s (x++xs++y) hp nx:=by
 unfold qN yo
 simp only
 cases lookup l g<;>rfl
@[simp] theorem EvC_region_mkDL (P:Program) (l:Tab) (k:Nat) (D:List (Tmp×Tmp)) (L:List Tmp) (b:List Nat) (i:Nat) (ops:Array Oper) (d:Bool) (st:St) (K:Exit→St→Prop) (h:¬i=k):EvC (yo P l k D L b) (.region i ops d) st K=EvL (yo P l k D L b) ops ops.toList st (normK K) :=
 jN _ i ops d st K (by simp[yo,h]) (by simp[yo,h])
theorem yp {P:Program} {l:Tab} {k:Nat} {D:List (Tmp×Tmp)} {L:List Tmp} {b:List Nat} {ops:Array Oper} {d:Bool} {st:St} {K:Exit→St→Prop} (h:kx D st) (h2:j8 L st):EvC (yo P l k D L b) (.region k ops d) st K=EvL (yo P l k D L b) ops ops.toList st (normK K) :=
 jl _ k ops d st K (by simpa[yo] using h) (by simpa[yo] using h2)
theorem good_ofDL {P:Program} {l:Tab} {q:List Nat} {k:Nat} {D:List (Tmp×Tmp)} {L:List Tmp} {b:List Nat} (hm:P.follows .mixedOrders=true) (h:AllD True P q l) (hb:AllBox b l):AM.Good (yo P l k D L b) (fun g=>q.contains g) :=
 let g:=good_ofL (k:=k) (L:=L) hm h hb
 ⟨g.spec,g.quiet,g.mixed,g.box,fun _ _ h=>by cases h⟩
end Go.AM
namespace Go.Proofs.YtanbabpnlgfcpaaGreatDoor
open Go.Proofs.Tryz
open Go.RowKit Go.AM
def ar3 (a b c:Int):PV:=.agg [int a,int b,int c]
noncomputable def FVer:List PV→Option PV:=zG (α:=Int×Int×Int×List (List UInt8)) (fun a=>[ar3 a.1 a.2.1 a.2.2.1,.sl 1 (encT a.2.2.2)]) (fun _=>True) (fun a=>.agg (⟨a.1,a.2.1,a.2.2.1,a.2.2.2⟩:Ver).enc)
theorem ver_inj:∀a b:Int×Int×Int×List (List UInt8),[ar3 a.1 a.2.1 a.2.2.1,.sl 1 (encT a.2.2.2)]=[ar3 b.1 b.2.1 b.2.2.1,.sl 1 (encT b.2.2.2)]→a=b:=by
 rintro⟨a1,a2,a3,a4⟩ ⟨b1,b2,b3,b4⟩ e
 simp only[ar3,List.cons.injEq,and_true] at e
 obtain⟨e1,e2⟩:=e
 injection e1 with e1
 simp only[List.cons.injEq,and_true] at e1
 obtain⟨e1,e3,e4⟩:=e1
 injection e2 with _ e2
 rw[zD e1,zD e3,zD e4,qT e2]
theorem version_eval (a b c:Int) (p:List (List UInt8)):zi C0 f206 [ar3 a b c,.sl 1 (encT p)]=some (.agg (⟨a,b,c,p⟩:Ver).enc):=by
 refine zb rfl ?_
 simp[ar3,Ver.enc,zK,z8,zU,f206]
theorem kn:za prog 206 (kZ [.a,.s 1 []] FVer) :=
 pureK_sound (fn:=f206) wA ⟨_,func206,by kernel_rfl,rfl,by kernel_rfl⟩ _ _ fun args r h=>by
  obtain⟨⟨a,b,c,p⟩,rfl,_,rfl⟩:=zf h
  exact⟨by simp[f206],_,version_eval a b c p,Stands.refl _⟩
theorem vc (a b c:Int) (p:List (List UInt8)) (y z:PV) (hp hp1:Hp) (nx:Nat) (hy:zF hp y=some (z,hp1)) (hz:n1 1 z=.sl 1 (encT p)) (hn:y.noOwn=true→hp1=hp):kZ [.a,.s 1 []] FVer [ar3 a b c,y] hp nx=some (.agg (⟨a,b,c,p⟩:Ver).enc,hp1,nx) :=
 hPureK_v (ys:=[ar3 a b c,z]) (by
  have h0:zF hp (ar3 a b c)=some (ar3 a b c,hp):=by simp[ar3]
  simp only[zh,h0,hy]) (by
  have:(Sh.s 1 []).fix z=.sl 1 (encT p):=by
   cases z with
   | sl m es=>simp only[n1] at hz;simp only[Sh.fix];rw[←hz];congr 1;exact (List.map_congr_left (fun c _=>by cases c<;>rfl)).trans (List.map_id _)
   | _=>exact hz
  show FVer [ar3 a b c,(Sh.s 1 []).fix z]=_
  rw[this]
  exact zn (enc:=fun a:Int×Int×Int×List (List UInt8)=>[ar3 a.1 a.2.1 a.2.2.1,.sl 1 (encT a.2.2.2)]) (a:=(a,b,c,p)) ver_inj trivial) (by simpa[ar3,Ver.enc] using hn)
def leastC:Cut:=⟨⟨0,0,0,[[48]]⟩,false⟩
noncomputable def FUnit (r:PV):List PV→Option PV:=zG (α:=Unit) (fun _=>[]) (fun _=>True) (fun _=>r)
theorem vH (r:PV) (hp:Hp) (nx:Nat):zR [] (FUnit r) [] hp nx=some (r,hp,nx):=w9 (show zh hp []=some ([],hp) from rfl) (zn (enc:=fun _:Unit=>[]) (a:=()) (fun _ _ _=>rfl) trivial) (.inr rfl)
theorem least_eval:zi C0 f180 []=some (.agg leastC.enc):=by
 refine zb rfl ?_
 simp[leastC,Cut.enc,encT,str,zK,z8,zl,zx,zm,zU,f180]
theorem least_sound:za prog 180 (zR [] (FUnit (.agg leastC.enc))) :=
 qB (fn:=f180) wA ⟨_,func180,by kernel_rfl,rfl,by kernel_rfl⟩ _ _ fun args r h=>by
  obtain⟨_,rfl,_,rfl⟩:=zf h
  exact⟨by simp[f180],_,least_eval,Stands.refl _⟩
structure Str where
 lo:Cut
 hi:Cut
 endless:Bool
def Str.enc (s:Str):List PV:=s.lo.enc++s.hi.enc++[boo s.endless]
def cut0:Cut:=⟨⟨0,0,0,[]⟩,false⟩
abbrev spat:List (Option Nat):=[none,none,none,some 1,none,none,none,none,some 1,none,none]
def yj (c:Cut):Str:=⟨c,cut0,true⟩
def betw (a b:Cut):Str:=⟨a,b,false⟩
def encR (l:List Str):List (List PV):=l.map Str.enc
def everyP:PV:=.sl 11 (encR [yj leastC])
noncomputable abbrev Cev:Ctx:=zA prog [(180,zR [] (FUnit (.agg leastC.enc)))]
theorem goodev:AM.Good Cev (fun g=>([]:List Nat).contains g):=zk mixed ⟨least_sound,by simp,trivial⟩
theorem everything_eval:∃r0,zi Cev f145 []=some r0∧Stands r0 everyP:=by
 refine kW (sh:=.s 11 spat) rfl ?_
 simp[vH,leastC,Cut.enc,encT,str,zK,z8,zl,zx,zm,pureF,everyP,encR,yj,Str.enc,cut0,f145]
theorem kA:za prog 145 (zR [] (FUnit everyP)) :=
 qB (fn:=f145) goodev ⟨_,func145,by kernel_rfl,rfl,by kernel_rfl⟩ _ _ fun args r h=>by
  obtain⟨_,rfl,_,rfl⟩:=zf h
  obtain⟨r0,h1,h2⟩:=everything_eval
  exact⟨by simp[f145],r0,h1,h2⟩
theorem penc_inj {a b:Part} (h:a.enc=b.enc):a=b:=by
 obtain⟨a1,a2,a3,a4,a5⟩:=a
 obtain⟨b1,b2,b3,b4,b5⟩:=b
 simp only[Part.enc,List.cons.injEq,and_true] at h
 obtain⟨h1,h2,h3,h4,h5⟩:=h
 injection h5 with _ h5
 rw[zD h1,zD h2,zD h3,zD h4,qT h5]
def Part.ok (p:Part):Prop:=(0≤p.n0∧p.n0≤999999)∧(0≤p.n1∧p.n1≤999999)∧(0≤p.n2∧p.n2≤999999)∧(1≤p.has∧p.has≤3)∧yR p.pre
noncomputable def FPa (f:Part→PV):List PV→Option PV:=zG (α:=Part) (fun p=>[.agg p.enc]) Part.ok f
theorem FPa_call (f:Part→PV) (p:Part) (u:PV) (hp:Hp) (nx:Nat) (h:p.ok) (hu:(Sh.g ppat).fix u=.agg p.enc) (hf:zF hp u=some (u,hp)) (hn:u.noOwn=true):zR [.g ppat] (FPa f) [u] hp nx=some (f p,hp,nx) :=
 w9 (show zh hp [u]=some ([u],hp) by simp only[zh,hf]) (by
  show FPa f [(Sh.g ppat).fix u]=_
  rw[hu]
  exact zn (enc:=fun p:Part=>[PV.agg p.enc]) (a:=p) (fun a b e=>by simp only[List.cons.injEq,and_true] at e;injection e with e;exact penc_inj e) h) (.inr (by rw[List.all_cons,hn];rfl))
noncomputable def FPt (f:Part→PV):List PV→Option PV:=zG (α:=Part) (fun p=>[.agg p.enc]) (fun _=>True) f
theorem FPt_call (f:Part→PV) (p:Part) (hp:Hp) (nx:Nat):zR [.g ppat] (FPt f) [.agg p.enc] hp nx=some (f p,hp,nx) :=
 w9 (show zh hp [.agg p.enc]=some ([.agg p.enc],hp) by simp[Part.enc]) (by
  show FPt f [(Sh.g ppat).fix (.agg p.enc)]=_
  rw[show (Sh.g ppat).fix (.agg p.enc)=.agg p.enc by simp[Part.enc]]
  exact zn (enc:=fun p:Part=>[PV.agg p.enc]) (a:=p) (fun a b e=>by simp only[List.cons.injEq,and_true] at e;injection e with e;exact penc_inj e) trivial) (.inr (by simp[Part.enc]))
def lowC (p:Part):Cut:=⟨⟨p.n0,p.n1,p.n2,p.pre⟩,false⟩
noncomputable abbrev Clo:Ctx:=zA prog [(206,kZ [.a,.s 1 []] FVer)]
theorem goodlo:AM.Good Clo (fun g=>([]:List Nat).contains g):=zk mixed ⟨kn,by simp,trivial⟩
theorem low_eval (p:Part):zi Clo f181 [.agg p.enc]=some (.agg (lowC p).enc):=by
 obtain⟨a,b,c,d,e⟩:=p
 refine zb rfl ?_
 have hv:=fun hp nx=>vc a b c e (.sl 1 (encT e)) (.sl 1 (encT e)) hp hp nx (by simp) rfl (fun _=>rfl)
 simp[ar3] at hv
 simp[Part.enc,hv,lowC,Cut.enc,Ver.enc,zK,z8,zU,f181]
theorem low_sound:za prog 181 (zR [.g ppat] (FPt fun p=>.agg (lowC p).enc)) :=
 qB (fn:=f181) goodlo ⟨_,func181,by kernel_rfl,rfl,by kernel_rfl⟩ _ _ fun args r h=>by
  obtain⟨p,rfl,_,rfl⟩:=zf h
  exact⟨by simp[f181],_,low_eval p,Stands.refl _⟩
def yc (p:Part):Nat→Cut
 | 0=>⟨⟨p.n0+1,0,0,[[48]]⟩,false⟩
 | 1=>⟨⟨p.n0,p.n1+1,0,[[48]]⟩,false⟩
 | _=>⟨⟨p.n0,p.n1,p.n2+1,[[48]]⟩,false⟩
def xr (p:Part):Nat→Bool
 | 0=>decide (p.n0+1≤999999)
 | 1=>decide (p.n1+1≤999999)
 | _=>decide (p.n2+1≤999999)
def jq (p:Part) (i:Nat):PV:=.tup [.agg (yc p i).enc,boo (xr p i)]
noncomputable abbrev Crsd:Ctx:=yo prog [(206,kZ [.a,.s 1 []] FVer)] 7 [(6,4),(28,4)] [4,6,28] [206]
theorem goodrsd:AM.Good Crsd (fun g=>([]:List Nat).contains g):=good_ofDL mixed ⟨kn,by simp,trivial⟩ ⟨fun _=>hPureK_box _ _,trivial⟩
theorem apart_nil (st:St):kx [] st:=fun _ h=>by cases h
theorem je {a b:Tmp} {D:List (Tmp×Tmp)} {st:St} (h:apart1 st a b) (hD:kx D st):kx ((a,b)::D) st:=fun p hp=>by
 rcases List.mem_cons.1 hp with rfl | hp
 ·exact h
 ·exact hD p hp
theorem refs_nil (st:St):j8 [] st:=fun _ h=>by cases h
theorem vI {s:Tmp} {L:List Tmp} {st:St} {id i j:Nat} {blk:Blk} (h:st.σ s=.ref id i j) (hn:id<st.nx) (hb:st.hp id=some blk) (ha:blk.arr=false) (hL:j8 L st) (hs:s<zB:=by decide):j8 (s::L) st:=fun t ht=>by
 rcases List.mem_cons.1 ht with rfl | ht
 ·refine⟨⟨fun id' o n e=>(by rw[h] at e;cases e),fun id' i' j' e=>?_⟩,fun hz=>absurd hs (Nat.not_lt.2 hz)⟩
  rw[h] at e
  injection e with e _ _
  subst e
  exact⟨hn,blk,hb,ha⟩
 ·exact hL t ht
theorem refs_not {s:Tmp} {L:List Tmp} {st:St} {x:List PV} (h:st.σ s=.tup x) (hL:j8 L st) (hs:s<zB:=by decide):j8 (s::L) st:=fun t ht=>by
 rcases List.mem_cons.1 ht with rfl | ht
 ·exact⟨⟨fun id' o n e=>(by rw[h] at e;cases e),fun id' i' j' e=>(by rw[h] at e;cases e)⟩,fun hz=>absurd hs (Nat.not_lt.2 hz)⟩
 ·exact hL t ht
theorem apart_ref {a b:Tmp} {st:St} {id i j id' i' j':Nat} {blk:Blk} (h1:st.σ a=.ref id i j) (h2:st.σ b=.ref id' i' j') (h3:id≠id') (h4:st.hp id'=some blk) (h5:blk.arr=false):apart1 st a b:=by
 intro id0 i0 j0 e0
 rw[h1] at e0
 injection e0 with e0 _ _
 subst e0
 exact⟨id',i',j',blk,h2,h3,h4,h5⟩
theorem apart_not {a b:Tmp} {st:St} {x:List PV} (h1:st.σ a=.tup x):apart1 st a b:=by
 intro id0 i0 j0 e0
 rw[h1] at e0
 cases e0
theorem raised_eval (p:Part) (i:Nat) (hi:i<3) (hp:p.ok):∃r0,zi Crsd f184 [.agg p.enc,int i]=some r0∧Stands r0 (jq p i):=by
 obtain⟨a,b,c,d,e⟩:=p
 obtain⟨⟨a1,a2⟩,⟨b1,b2⟩,⟨c1,c2⟩,_⟩:=hp
 simp only at a1 a2 b1 b2 c1 c2
 refine wC (sh:=.g cpat) rfl ?_
 have wa:IntKind.i64.wrap (a+1)=a+1:=zd (by omega) (by omega)
 have wb:IntKind.i64.wrap (b+1)=b+1:=zd (by omega) (by omega)
 have wc:IntKind.i64.wrap (c+1)=c+1:=zd (by omega) (by omega)
 have hv:∀(a b c:Int) (hp:Hp) (nx id:Nat),hp id=some ⟨9,1,true,[[str [48]]]⟩→kZ [.a,.s 1 []] FVer [ar3 a b c,.own id 0 1] hp nx=some (.agg (⟨a,b,c,[[48]]⟩:Ver).enc,upd hp id none,nx):=fun a b c hp nx id hh=>vc a b c [[48]] (.own id 0 1) (.sl 1 [[str [48]]]) hp (upd hp id none) nx (by simp[hh]) rfl (fun h=>by cases h)
 simp[ar3,str] at hv
 rcases (by omega:i=0∨i=1∨i=2) with rfl | rfl | rfl
 ·simp[Part.enc,wa]
  rw[zq]
  simp
  rw[zq]
  simp
  rw[zq]
  simp
  rw[yp (je (apart_ref (by simp;exact⟨rfl,rfl,rfl⟩) (by simp;exact⟨rfl,rfl,rfl⟩) (by omega) (by simp;rfl) rfl) (je (apart_not (by simp;rfl)) (apart_nil _)))
   (vI (by simp;exact⟨rfl,rfl,rfl⟩) (by simp) (by simp;rfl) rfl (vI (by simp;exact⟨rfl,rfl,rfl⟩) (by simp) (by simp;rfl) rfl (refs_not (by simp;rfl) (refs_nil _))))]
  simp[hv,zK,z8,zl,zx,zm,z7,jq,yc,xr,Cut.enc,Ver.enc,f184]
 ·simp[Part.enc,wb]
  rw[zq]
  simp
  rw[zq]
  simp
  rw[yp (je (apart_ref (by simp;exact⟨rfl,rfl,rfl⟩) (by simp;exact⟨rfl,rfl,rfl⟩) (by omega) (by simp;rfl) rfl) (je (apart_not (by simp;rfl)) (apart_nil _)))
   (vI (by simp;exact⟨rfl,rfl,rfl⟩) (by simp) (by simp;rfl) rfl (vI (by simp;exact⟨rfl,rfl,rfl⟩) (by simp) (by simp;rfl) rfl (refs_not (by simp;rfl) (refs_nil _))))]
  simp[hv,zK,z8,zl,zx,zm,z7,jq,yc,xr,Cut.enc,Ver.enc,f184]
 ·simp[Part.enc,wc]
  rw[zq]
  simp
  rw[yp (je (apart_ref (by simp;exact⟨rfl,rfl,rfl⟩) (by simp;exact⟨rfl,rfl,rfl⟩) (by omega) (by simp;rfl) rfl) (je (apart_not (by simp;rfl)) (apart_nil _)))
   (vI (by simp;exact⟨rfl,rfl,rfl⟩) (by simp) (by simp;rfl) rfl (vI (by simp;exact⟨rfl,rfl,rfl⟩) (by simp) (by simp;rfl) rfl (refs_not (by simp;rfl) (refs_nil _))))]
  simp[hv,zK,z8,zl,zx,zm,z7,jq,yc,xr,Cut.enc,Ver.enc,f184]
noncomputable def FPi (f:Part→Nat→PV):List PV→Option PV:=zG (α:=Part×Nat) (fun a=>[.agg a.1.enc,int a.2]) (fun a=>a.1.ok∧a.2<3) (fun a=>f a.1 a.2)
theorem pi_inj:∀a b:Part×Nat,[PV.agg a.1.enc,int a.2]=[PV.agg b.1.enc,int b.2]→a=b:=by
 rintro⟨a1,a2⟩ ⟨b1,b2⟩ e
 simp only[List.cons.injEq,and_true] at e
 obtain⟨e1,e2⟩:=e
 injection e1 with e1
 have:=zD e2
 rw[penc_inj e1,show a2=b2 by omega]
theorem FPi_call (f:Part→Nat→PV) (p:Part) (i:Nat) (u:PV) (hp:Hp) (nx:Nat) (h:p.ok) (hi:i<3) (hu:(Sh.g ppat).fix u=.agg p.enc) (hf:zF hp u=some (u,hp)) (hn:u.noOwn=true):zR [.g ppat] (FPi f) [u,int i] hp nx=some (f p i,hp,nx) :=
 w9 (show zh hp [u,int i]=some ([u,int i],hp) by simp only[zh,hf];rfl) (by
  show FPi f [(Sh.g ppat).fix u,int i]=_
  rw[hu]
  exact zn (enc:=fun a:Part×Nat=>[PV.agg a.1.enc,int a.2]) (a:=(p,i)) pi_inj ⟨h,hi⟩) (.inr (by rw[List.all_cons,hn];rfl))
theorem raised_sound:za prog 184 (zR [.g ppat] (FPi jq)) :=
 qB (fn:=f184) goodrsd ⟨_,func184,by kernel_rfl,rfl,by kernel_rfl⟩ _ _ fun args r h=>by
  obtain⟨⟨p,i⟩,rfl,⟨h1,h2⟩,rfl⟩:=zf h
  obtain⟨r0,h3,h4⟩:=raised_eval p i h2 h1
  exact⟨by simp[f184],r0,h3,h4⟩
def xU (p:Part):Cut:=if p.has<3 then yc p (p.has - 1).toNat else ⟨⟨p.n0,p.n1,p.n2,p.pre⟩,true⟩
def highB (p:Part):Bool:=if p.has<3 then xr p (p.has - 1).toNat else true
def highP (p:Part):PV:=.tup [.agg (xU p).enc,boo (highB p)]
noncomputable abbrev Chi:Ctx:=zA prog [(206,kZ [.a,.s 1 []] FVer),(184,zR [.g ppat] (FPi jq))]
theorem goodhi:AM.Good Chi (fun g=>([]:List Nat).contains g):=zk mixed ⟨kn,by simp,raised_sound,by simp,trivial⟩
@[simp] theorem enc_frz (p:Part) (hp:Hp):zF hp (.agg p.enc)=some (.agg p.enc,hp):=by simp[Part.enc]
theorem high_eval (p:Part) (hp:p.ok):zi Chi f183 [.agg p.enc]=some (highP p):=by
 have hok:=hp
 obtain⟨_,_,_,⟨h1,h2⟩,_⟩:=hp
 refine zb rfl ?_
 have hr:=fun hp nx=>FPi_call jq p (p.has - 1).toNat (.agg p.enc) hp nx hok (by omega) (by simp[Part.enc]) (enc_frz p hp) (by simp[Part.enc])
 have e1:(((p.has - 1).toNat:Nat):Int)=p.has - 1:=by omega
 have hw:IntKind.i64.wrap (p.has - 1)=p.has - 1:=zd (by omega) (by omega)
 rw[e1] at hr
 have hv:=fun hp nx=>vc p.n0 p.n1 p.n2 p.pre (.sl 1 (encT p.pre)) (.sl 1 (encT p.pre)) hp hp nx (by simp) rfl (fun _=>rfl)
 simp[ar3] at hv
 simp only[Part.enc] at hr
 by_cases h3:p.has<3
 ·simp[Part.enc,h3,hr,hw,highP,xU,highB,jq,Cut.enc,zU,f183]
 ·simp[Part.enc,h3,hv,highP,xU,highB,Cut.enc,Ver.enc,zK,z8,zU,f183]
theorem high_sound:za prog 183 (zR [.g ppat] (FPa highP)) :=
 qB (fn:=f183) goodhi ⟨_,func183,by kernel_rfl,rfl,by kernel_rfl⟩ _ _ fun args r h=>by
  obtain⟨p,rfl,h1,rfl⟩:=zf h
  exact⟨by simp[f183],_,high_eval p h1,Stands.refl _⟩
noncomputable def btw (a b:Cut):List Str:=if 0≤cmpC a b then [] else [betw a b]
noncomputable def btwP (a b:Cut):PV:=.sl 11 (encR (btw a b))
noncomputable abbrev Cbt:Ctx:=zA prog [(186,zR [.g cpat,.g cpat] (FCC fun v w=>int (cmpC v w)))]
theorem goodbt:AM.Good Cbt (fun g=>([]:List Nat).contains g):=zk mixed ⟨wE,by simp,trivial⟩
theorem between_eval (x y:Cut) (hx:x.v.small) (hy:y.v.small):∃r0,zi Cbt f182 [.agg x.enc,.agg y.enc]=some r0∧Stands r0 (btwP x y):=by
 refine kW (sh:=.s 11 spat) rfl ?_
 have hc:=fun hp nx=>cc_call x y (.agg x.enc) (.agg y.enc) hp nx (by simp[Cut.enc]) (by simp[Cut.enc]) (by simp[Cut.enc]) hx hy
 simp only[Cut.enc] at hc
 by_cases h:0≤cmpC x y
 ·simp[Cut.enc,hc,h,pureF,btwP,btw,encR,f182]
 ·simp[Cut.enc,hc,h,zK,z8,zl,zx,zm,pureF,btwP,btw,encR,betw,Str.enc,f182]
theorem between_sound:za prog 182 (zR [.g cpat,.g cpat] (FCC btwP)) :=
 qB (fn:=f182) goodbt ⟨_,func182,by kernel_rfl,rfl,by kernel_rfl⟩ _ _ fun args r h=>by
  obtain⟨⟨v,w⟩,rfl,⟨h1,h2⟩,rfl⟩:=zf h
  obtain⟨r0,h3,h4⟩:=between_eval v w h1 h2
  exact⟨by simp[f182],r0,h3,h4⟩
end Go.Proofs.YtanbabpnlgfcpaaGreatDoor
