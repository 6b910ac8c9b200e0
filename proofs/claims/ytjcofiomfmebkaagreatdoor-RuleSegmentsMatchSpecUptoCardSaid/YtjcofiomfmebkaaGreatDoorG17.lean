/-
Plain law: the order of versions and cuts is a total one.
-/
import Derived.Test.YtjcofiomfmebkaaGreatDoorG15
import Derived.Test.YtjcofiomfmebkaaGreatDoorG14
import Derived.Test.YtjcofiomfmebkaaGreatDoorG16
set_option maxRecDepth 8000
namespace Go.Proofs.YtjcofiomfmebkaaGreatDoor
open Go.Proofs.Tryz
open Go.RowKit Go.AM
structure TO {α:Type} (c:α→α→Int):Prop where
 refl:∀x,c x x=0
 flip:∀x y,c x y<0↔0<c y x
 tr:∀x y z,c x y≤0→c y z≤0→c x z≤0
theorem TO.le {α:Type} {c:α→α→Int} (h:TO c) (x y:α):c x y≤0↔0≤c y x:=by
 have:=h.flip y x
 omega
theorem TO.eq {α:Type} {c:α→α→Int} (h:TO c) (x y:α):c x y=0↔c y x=0:=by
 have h1:=h.flip y x
 have h2:=h.flip x y
 omega
theorem TO.trans {α:Type} {c:α→α→Int} (h:TO c) {x y z:α} (h1:c x y<0) (h2:c y z<0):c x z<0:=by
 have h3:=h.tr x y z (by omega) (by omega)
 rcases Int.lt_or_eq_of_le h3 with h4 | h4
 ·exact h4
 ·have h5:=(h.eq x z).1 h4
  have h6:=h.tr z x y (by omega) (by omega)
  have:=(h.flip y z).1 h2
  omega
theorem TO.ntrans {α:Type} {c:α→α→Int} (h:TO c) {x y z:α} (h1:0≤c x y) (h2:0≤c y z):0≤c x z :=
 (h.le z x).1 (h.tr z y x ((h.le z y).2 h2) ((h.le y x).2 h1))
theorem TO.pull {α β:Type} {c:β→β→Int} (h:TO c) (f:α→β):TO fun x y=>c (f x) (f y):=⟨fun _=>h.refl _,fun _ _=>h.flip _ _,fun _ _ _=>h.tr _ _ _⟩
def Zb {α:Type} (c d:α→α→Int) (x y:α):Int:=if c x y=0 then d x y else c x y
theorem TO.lex {α:Type} {c d:α→α→Int} (hc:TO c) (hd:TO d):TO (Zb c d) where
 refl x:=by simp[Zb,hc.refl,hd.refl]
 flip x y:=by
  unfold Zb
  have h1:=hc.flip x y
  have h2:=hc.flip y x
  have h3:=hd.flip x y
  by_cases h:c x y=0
  ·rw[if_pos h,if_pos ((hc.eq x y).1 h)];exact h3
  ·rw[if_neg h,if_neg (fun e=>h ((hc.eq x y).2 e))];exact h1
 tr x y z:=by
  unfold Zb
  intro h1 h2
  by_cases a:c x y=0<;>by_cases b:c y z=0
  ·rw[if_pos a] at h1
   rw[if_pos b] at h2
   have e1:=hc.tr x y z (by omega) (by omega)
   have e2:=hc.tr z y x (by have:=(hc.eq y z).1 b;omega) (by have:=(hc.eq x y).1 a;omega)
   have e3:=(hc.le z x).1 e2
   rw[if_pos (by omega)]
   exact hd.tr x y z h1 h2
  ·rw[if_neg b] at h2
   have e1:=hc.tr x y z (by omega) h2
   by_cases e:c x z=0
   ·exfalso
    have e2:=hc.tr z x y (by have:=(hc.eq x z).1 e;omega) (by omega)
    have:=(hc.flip y z).1 (by omega)
    omega
   ·rw[if_neg e];exact e1
  ·rw[if_neg a] at h1
   have e1:=hc.tr x y z h1 (by omega)
   by_cases e:c x z=0
   ·exfalso
    have e2:=hc.tr y z x (by omega) (by have:=(hc.eq x z).1 e;omega)
    have:=(hc.flip x y).1 (by omega)
    omega
   ·rw[if_neg e];exact e1
  ·rw[if_neg a] at h1
   rw[if_neg b] at h2
   have:=hc.trans (x:=x) (y:=y) (z:=z) (by omega) (by omega)
   rw[if_neg (by omega)]
   omega
theorem TO.zero {α:Type}:TO fun (_ _:α)=>(0:Int):=⟨fun _=>rfl,fun _ _=>by simp,fun _ _ _ _ _=>Int.le_refl _⟩
theorem zbe {α:Type} {c:α→α→Int} (h:TO c):TO (wo c) where
 refl l:=by
  induction l with
  | nil=>rfl
  | cons x l ih=>simp[wo,h.refl,ih]
 flip a b:=by
  induction a generalizing b with
  | nil=>cases b<;>simp[wo]
  | cons x a ih =>
    cases b with
    | nil=>simp[wo]
    | cons y b =>
      simp only[wo]
      by_cases e:c x y=0
      ·rw[if_pos e,if_pos ((h.eq x y).1 e)];exact ih b
      ·rw[if_neg e,if_neg (fun e'=>e ((h.eq x y).2 e'))];exact h.flip x y
 tr a b d:=by
  induction a generalizing b d with
  | nil=>cases d<;>simp[wo]
  | cons x a ih =>
    cases b with
    | nil=>simp[wo]
    | cons y b =>
      cases d with
      | nil=>simp[wo]
      | cons z d =>
        simp only[wo]
        intro h1 h2
        by_cases p:c x y=0<;>by_cases q:c y z=0
        ·rw[if_pos p] at h1
         rw[if_pos q] at h2
         have e1:=h.tr x y z (by omega) (by omega)
         have e2:=h.tr z y x (by have:=(h.eq y z).1 q;omega) (by have:=(h.eq x y).1 p;omega)
         have e3:=(h.le z x).1 e2
         rw[if_pos (by omega)]
         exact ih b d h1 h2
        ·rw[if_neg q] at h2
         have e1:=h.tr x y z (by omega) h2
         by_cases e:c x z=0
         ·exfalso
          have e2:=h.tr z x y (by have:=(h.eq x z).1 e;omega) (by omega)
          have:=(h.flip y z).1 (by omega)
          omega
         ·rw[if_neg e];exact e1
        ·rw[if_neg p] at h1
         have e1:=h.tr x y z h1 (by omega)
         by_cases e:c x z=0
         ·exfalso
          have e2:=h.tr y z x (by omega) (by have:=(h.eq x z).1 e;omega)
          have:=(h.flip x y).1 (by omega)
          omega
         ·rw[if_neg e];exact e1
        ·rw[if_neg p] at h1
         rw[if_neg q] at h2
         have:=h.trans (x:=x) (y:=y) (z:=z) (by omega) (by omega)
         rw[if_neg (by omega)]
         omega
theorem cmpI_to:TO qI:=⟨fun x=>by simp[qI],fun x y=>by unfold qI;split<;>split<;>(try split)<;>omega,fun x y z=>by unfold qI;repeat' split<;>omega⟩
theorem zhn:∀a b:List UInt8,wW a b=wo (fun x y:UInt8=>qI x.toNat y.toNat) a b
 | [],[]=>rfl
 | [],_::_=>rfl
 | _::_,[]=>rfl
 | x::a,y::b=>by
   have ih:=zhn a b
   simp only[wo]
   unfold wW at ih ⊢
   simp only[Lib.compareBytes]
   rcases Nat.lt_trichotomy x.toNat y.toNat with h | h | h
   ·have h1:x<y:=h
    have e:qI x.toNat y.toNat=-1:=by unfold qI;rw[if_pos (by omega)]
    simp[h1,e]
   ·have e:qI x.toNat y.toNat=0:=by unfold qI;rw[if_neg (by omega),if_neg (by omega)]
    have h1:¬x<y:=by show ¬x.toNat<y.toNat;omega
    have h2:¬y<x:=by show ¬y.toNat<x.toNat;omega
    simp[h1,h2,e,ih]
   ·have h1:¬x<y:=by show ¬x.toNat<y.toNat;omega
    have h2:y<x:=h
    have e:qI x.toNat y.toNat=1:=by unfold qI;rw[if_neg (by omega),if_pos (by omega)]
    simp[h1,h2,e]
theorem cmpB_to:TO wW:=by
 have:wW=wo (fun x y:UInt8=>qI x.toNat y.toNat):=by funext a b;exact zhn a b
 rw[this]
 exact zbe (cmpI_to.pull fun x:UInt8=>(x.toNat:Int))
noncomputable def zaf (a:List UInt8):Int×Int×List UInt8×List UInt8:=if kd a=true then (0,(Lib.trimLeftB a 48).length,Lib.trimLeftB a 48,[]) else (1,0,[],a)
theorem zfD (a b:List UInt8):qa a b=Zb (fun x y=>qI x.1 y.1) (Zb (fun x y=>qI x.2.1 y.2.1) (Zb (fun x y=>wW x.2.2.1 y.2.2.1) fun x y=>wW x.2.2.2 y.2.2.2)) (zaf a) (zaf b):=by
 unfold qa zaf Zb
 have r:=cmpB_to.refl []
 have r1:qI 0 0=0:=rfl
 have r2:qI 1 1=0:=rfl
 by_cases h1:kd a=true<;>by_cases h2:kd b=true
 ·simp only[h1,h2,if_true,r1,r,orL]
 ·simp[h1,h2,qI]
 ·simp[h1,h2,qI]
 ·simp[h1,h2,r1,r2,r]
theorem zi6:TO qa:=by
 have:qa=fun a b=>Zb (fun x y=>qI x.1 y.1) (Zb (fun x y=>qI x.2.1 y.2.1) (Zb (fun x y=>wW x.2.2.1 y.2.2.1) fun x y=>wW x.2.2.2 y.2.2.2)) (zaf a) (zaf b):=by funext a b;exact zfD a b
 rw[this]
 exact TO.pull (TO.lex (cmpI_to.pull fun x:Int×Int×List UInt8×List UInt8=>x.1) (TO.lex (cmpI_to.pull fun x:Int×Int×List UInt8×List UInt8=>x.2.1) (TO.lex (cmpB_to.pull fun x:Int×Int×List UInt8×List UInt8=>x.2.2.1) (cmpB_to.pull fun x:Int×Int×List UInt8×List UInt8=>x.2.2.2)))) zaf
def zbf (v:Ver):Int:=if v.pre.length=0 then 1 else 0
theorem zoB (v w:Ver):vU v w=Zb (fun x y=>qI x.a y.a) (Zb (fun x y=>qI x.b y.b) (Zb (fun x y=>qI x.c y.c) (Zb (fun x y=>qI (zbf x) (zbf y)) fun x y=>wo qa x.pre y.pre))) v w:=by
 unfold vU Zb
 by_cases h1:qI v.a w.a=0
 ·by_cases h2:qI v.b w.b=0
  ·by_cases h3:qI v.c w.c=0
   ·simp only[orL,h1,h2,h3,if_true]
    by_cases p:v.pre.length=0<;>by_cases q:w.pre.length=0
    ·have e1:v.pre=[]:=List.length_eq_zero_iff.1 p
     have e2:w.pre=[]:=List.length_eq_zero_iff.1 q
     simp[zbf,p,q,qI,e1,e2,wo]
    ·simp[zbf,p,q,qI]
    ·simp[zbf,p,q,qI]
    ·simp[zbf,p,q,qI]
   ·simp[orL,h1,h2,h3]
  ·simp[orL,h1,h2]
 ·simp[orL,h1]
theorem cmpV_to:TO vU:=by
 have:vU=Zb (fun x y=>qI x.a y.a) (Zb (fun x y=>qI x.b y.b) (Zb (fun x y=>qI x.c y.c) (Zb (fun x y=>qI (zbf x) (zbf y)) fun x y=>wo qa x.pre y.pre))):=by funext a b;exact zoB a b
 rw[this]
 exact TO.lex (cmpI_to.pull fun x:Ver=>x.a) (TO.lex (cmpI_to.pull fun x:Ver=>x.b) (TO.lex (cmpI_to.pull fun x:Ver=>x.c) (TO.lex (cmpI_to.pull zbf) ((zbe zi6).pull fun x:Ver=>x.pre))))
def zsG (c:Cut):Int:=if c.after=true then 1 else 0
theorem zoC (a b:Cut):qx a b=Zb (fun x y=>vU x.v y.v) (fun x y=>qI (zsG x) (zsG y)) a b:=by
 unfold qx Zb
 by_cases h:vU a.v b.v=0
 ·simp only[h,if_true]
  cases ha:a.after<;>cases hb:b.after<;>simp[zsG,ha,hb,qI]
 ·simp[h]
theorem cmpC_to:TO qx:=by
 have:qx=Zb (fun x y=>vU x.v y.v) (fun x y=>qI (zsG x) (zsG y)):=by funext a b;exact zoC a b
 rw[this]
 exact TO.lex (cmpV_to.pull fun x:Cut=>x.v) (cmpI_to.pull zsG)
mutual
noncomputable def zO:Val→Val→Int
 | .mk k n s is fs,w=>if k=w.kind then (if k=1∨k=2 then qI n w.n else if k=3 then wW s w.s else if k=4 then cmpVals is w.items else if k=5 then cmpFlds fs w.fields else 0) else qI k w.kind
noncomputable def cmpVals:List Val→List Val→Int
 | [],[]=>0
 | [],_::_=>-1
 | _::_,[]=>1
 | a::xs,b::ys=>if zO a b=0 then cmpVals xs ys else zO a b
noncomputable def cmpFlds:List (List UInt8×Val)→List (List UInt8×Val)→Int
 | [],[]=>0
 | [],_::_=>-1
 | _::_,[]=>1
 | (x,a)::xs,g::ys=>if orL [wW x g.1,zO a g.2]=0 then cmpFlds xs ys else orL [wW x g.1,zO a g.2]
end
noncomputable def wE (f g:List UInt8×Val):Int:=orL [wW f.1 g.1,zO f.2 g.2]
theorem zag:∀a b:List Val,cmpVals a b=wo zO a b
 | [],[]=>rfl
 | [],_::_=>rfl
 | _::_,[]=>rfl
 | a::xs,b::ys=>by simp only[cmpVals,wo,zag xs ys]
theorem zah:∀a b:List (List UInt8×Val),cmpFlds a b=wo wE a b
 | [],[]=>rfl
 | [],_::_=>rfl
 | _::_,[]=>rfl
 | (x,a)::xs,g::ys=>by simp only[cmpFlds,wo,zah xs ys,wE];rfl
theorem Zy (a b:Val):zO a b=if a.kind=b.kind then (if a.kind=1∨a.kind=2 then qI a.n b.n else if a.kind=3 then wW a.s b.s else if a.kind=4 then wo zO a.items b.items else if a.kind=5 then wo wE a.fields b.fields else 0) else qI a.kind b.kind:=by
 cases a with
 | mk k n s is fs =>
   cases b with
   | mk k' n' s' is' fs'=>simp only[zO,zag,zah,Val.kind,Val.n,Val.s,Val.items,Val.fields];rfl
noncomputable def FCV (n:Nat):List PV→Option PV:=zJ (α:=Val×Val) (fun a=>[.agg a.1.enc,.agg a.2.enc]) (fun a=>a.1.vb≤lim∧a.1.vb≤n∧a.2.vb≤lim) (fun a=>int (zO a.1 a.2))
theorem vm (n:Nat) (a b:Val) (hp:Hp) (nx:Nat) (h:a.vb≤lim∧a.vb≤n∧b.vb≤lim):zd false [] (FCV n) [.agg a.enc,.agg b.enc] hp nx=some (int (zO a b),hp,nx) :=
 zH (hp1:=hp) (show zj hp [.agg a.enc,.agg b.enc]=some ([.agg a.enc,.agg b.enc],hp) by simp only[zj,ZY])
  (zm (enc:=fun a:Val×Val=>[.agg a.1.enc,.agg a.2.enc]) (a:=(a,b)) (fun x y e=>by
   obtain⟨x1,x2⟩:=x;obtain⟨y1,y2⟩:=y
   simp only[List.cons.injEq,and_true,PV.agg.injEq] at e
   rw[jR e.1,jR e.2]) h) (.inl rfl)
theorem KQ {f:FuncId} {F:List PV→Option PV} (hfn:∃fn,prog.funcs[f]?=some fn∧(fn.name== "runtime.NumGoroutine")=false∧fn.body.isNone=false) (h:∀args r,F args=some r→False):za prog f (zd false [] F):=by
 refine⟨hfn,fun args hp nx r hp' nx' hh=>?_⟩
 unfold zd at hh
 split at hh
 ·split at hh
  ·rename_i r0 hF
   exact (h _ _ hF).elim
  ·cases hh
 ·cases hh
theorem KR {a b:List UInt8×Val} (h:wF a=wF b):a=b:=by
 obtain⟨a1,a2⟩:=a;obtain⟨b1,b2⟩:=b
 simp only[wF,List.cons.injEq] at h
 rw[qg h.1,jR h.2]
theorem zdp {a b:List (List UInt8×Val)} (h:a.map wF=b.map wF):a=b:=yz (fun _ _=>KR) h
theorem KS {a b:List Val} (h:a.map Val.enc=b.map Val.enc):a=b:=yz (fun _ _=>jR) h
noncomputable abbrev zvW (n:Nat):Ctx:=zC prog [(107,zd false [] <| FCV n)]
theorem Ys (n:Nat) (a b:List (Val)) (ha:vbs a≤lim∧vbs a≤n) (hb:vbs b≤lim):zg (zvW n) f135 [.sl 5 (a.map Val.enc),.sl 5 (b.map Val.enc),.fn (.func 107) [] []]=some (int (wo zO a b)):=by
 refine zb rfl ?_
 obtain⟨ha,han⟩:=ha
 have la:=qD a
 have lb:=qD b
 unfold lim at ha hb
 simp
 refine zu (fun k σ hp nx=>σ 0=.sl 5 (a.map Val.enc)∧σ 1=.sl 5 (b.map Val.enc)∧σ 2=.fn (.func 107) [] []∧σ 11=.sl 5 (a.map Val.enc)∧σ 12=int a.length∧σ 13=int k∧k≤b.length∧wo zO a b=wo zO (a.drop k) (b.drop k)) a.length
  ⟨by simp,by simp,by simp,by simp,by simp,by simp,by simp,by simp⟩ ?_
 rintro k σ hp nx hk ⟨h0,h1,h2,h11,h12,h13,hkb,he⟩
 by_cases hlt:k<a.length
 ·have hw:IntKind.i64.wrap ((k:Int)+1)=(k:Int)+1:=zc (by omega) (by omega)
  by_cases hltb:k<b.length
  ·have hltb':¬b.length≤k:=by omega
   have ma:=wA (List.getElem_mem hlt)
   have mb:=wA (List.getElem_mem hltb)
   have hc:=fun hp nx=>vm n a[k] b[k] hp nx ⟨by unfold lim;omega,by omega,by unfold lim;omega⟩
   skip
   rw[List.drop_eq_getElem_cons hlt,List.drop_eq_getElem_cons hltb] at he
   simp only[wo] at he
   by_cases hz:zO a[k] b[k]=0
   ·rw[if_pos hz] at he
    simp[h0,h1,h2,h11,h12,h13,hlt,hltb,hltb',hc,hz,hw]
    exact⟨hlt,by omega,he⟩
   ·rw[if_neg hz] at he
    have hz':(zO a[k] b[k] != 0)=true:=by simpa using hz
    simp[h0,h1,h2,h11,h12,h13,hlt,hltb,hltb',hc,hz',he,f135]
  ·obtain rfl:k=b.length:=by omega
   rw[List.drop_eq_getElem_cons hlt,List.drop_length] at he
   simp only[wo] at he
   simp[h0,h1,h2,h11,h12,h13,hlt,he,f135]
 ·obtain rfl:k=a.length:=by omega
  rw[List.drop_length] at he
  by_cases hl:a.length<b.length
  ·rw[List.drop_eq_getElem_cons hl] at he
   simp only[wo] at he
   simp[h0,h1,h2,h11,h12,h13,hl,he,f135]
  ·rw[List.drop_of_length_le (by omega)] at he
   simp only[wo] at he
   have hl':¬((a.length:Int)<b.length):=by omega
   simp[h0,h1,h2,h11,h12,h13,hl,he,f135]
noncomputable def FLV (n:Nat):List PV→Option PV:=zJ (α:=List (Val)×List (Val)) (fun a=>[.sl 5 (a.1.map Val.enc),.sl 5 (a.2.map Val.enc),.fn (.func 107) [] []]) (fun a=>(vbs a.1≤lim∧vbs a.1≤n)∧vbs a.2≤lim) (fun a=>int (wo zO a.1 a.2))
theorem zoD (n:Nat) (a b:List (Val)) (hp:Hp) (nx:Nat) (h:(vbs a≤lim∧vbs a≤n)∧vbs b≤lim):zd false [] (FLV n) [.sl 5 (a.map Val.enc),.sl 5 (b.map Val.enc),.fn (.func 107) [] []] hp nx=some (int (wo zO a b),hp,nx) :=
 zH (hp1:=hp) (by simp) (zm (enc:=fun a:List (Val)×List (Val)=>[PV.sl 5 (a.1.map Val.enc),.sl 5 (a.2.map Val.enc),.fn (.func 107) [] []]) (a:=(a,b)) (fun x y e=>by
   obtain⟨x1,x2⟩:=x;obtain⟨y1,y2⟩:=y
   simp only[List.cons.injEq,and_true] at e
   obtain⟨e1,e2⟩:=e
   injection e1 with _ e1
   injection e2 with _ e2
   rw[KS e1,KS e2]) h) (.inl rfl)
noncomputable def FFF (n:Nat):List PV→Option PV:=zJ (α:=(List UInt8×Val)×(List UInt8×Val)) (fun a=>[.agg (wF a.1),.agg (wF a.2)]) (fun a=>(a.1.2.vb≤lim∧a.1.2.vb≤n∧a.2.2.vb≤lim)) (fun a=>int (wE a.1 a.2))
theorem zoE (n:Nat) (a b:List UInt8×Val) (hp:Hp) (nx:Nat) (h:a.2.vb≤lim∧a.2.vb≤n∧b.2.vb≤lim):zd false [] (FFF n) [.agg (wF a),.agg (wF b)] hp nx=some (int (wE a b),hp,nx) :=
 zH (hp1:=hp) (show zj hp [.agg (wF a),.agg (wF b)]=some ([.agg (wF a),.agg (wF b)],hp) by simp[wF])
  (zm (enc:=fun a:(List UInt8×Val)×(List UInt8×Val)=>[.agg (wF a.1),.agg (wF a.2)]) (a:=(a,b)) (fun x y e=>by
   obtain⟨x1,x2⟩:=x;obtain⟨y1,y2⟩:=y
   have e1:wF x1=wF y1∧wF x2=wF y2:=by
    simp only[List.cons.injEq,and_true,PV.agg.injEq] at e
    exact⟨List.cons.injEq .. ▸ e.1,List.cons.injEq .. ▸ e.2⟩
   rw[KR e1.1,KR e1.2]) h) (.inl rfl)
noncomputable abbrev zvX (n:Nat):Ctx:=zC prog [(25,zd false [] (F2S wW)),(107,zd false [] (FCV n)),(171,zd false [] FOr)]
theorem Wo (n:Nat) (a b:List UInt8×Val) (h:a.2.vb≤lim∧a.2.vb≤n∧b.2.vb≤lim):zg (zvX n) f137 [.agg (wF a),.agg (wF b)]=some (int (wE a b)):=by
 refine zb rfl ?_
 have hc:=fun hp nx=>vm n a.2 b.2 hp nx h
 have ho:∀(hp:Hp) (nx id:Nat),hp id=some ⟨3,1,true,[[int (wW a.1 b.1)],[int (zO a.2 b.2)]]⟩→zd false [] FOr [.own id 0 2] hp nx=some (int (wE a b),hp,nx):=fun hp nx id hh=>KI [_,_] hp nx id _ (by show 2≤lim;decide) hh
 simp[wF,hc,ho,zh,zo,zf,f137]
noncomputable abbrev zvY (n:Nat):Ctx:=zC prog [(137,zd false [] <| FFF n)]
theorem Yt (n:Nat) (a b:List (List UInt8×Val)) (ha:fbs a≤lim∧fbs a≤n) (hb:fbs b≤lim):zg (zvY n) f136 [.sl 6 (a.map wF),.sl 6 (b.map wF),.fn (.func 137) [] []]=some (int (wo wE a b)):=by
 refine zb rfl ?_
 obtain⟨ha,han⟩:=ha
 have la:=qQ a
 have lb:=qQ b
 unfold lim at ha hb
 simp
 refine zu (fun k σ hp nx=>σ 0=.sl 6 (a.map wF)∧σ 1=.sl 6 (b.map wF)∧σ 2=.fn (.func 137) [] []∧σ 11=.sl 6 (a.map wF)∧σ 12=int a.length∧σ 13=int k∧k≤b.length∧wo wE a b=wo wE (a.drop k) (b.drop k)) a.length
  ⟨by simp,by simp,by simp,by simp,by simp,by simp,by simp,by simp⟩ ?_
 rintro k σ hp nx hk ⟨h0,h1,h2,h11,h12,h13,hkb,he⟩
 by_cases hlt:k<a.length
 ·have hw:IntKind.i64.wrap ((k:Int)+1)=(k:Int)+1:=zc (by omega) (by omega)
  by_cases hltb:k<b.length
  ·have hltb':¬b.length≤k:=by omega
   have ma:=yA (List.getElem_mem hlt)
   have mb:=yA (List.getElem_mem hltb)
   have hc:=fun hp nx=>zoE n a[k] b[k] hp nx ⟨by unfold lim;omega,by omega,by unfold lim;omega⟩
   simp only[wF] at hc
   rw[List.drop_eq_getElem_cons hlt,List.drop_eq_getElem_cons hltb] at he
   simp only[wo] at he
   by_cases hz:wE a[k] b[k]=0
   ·rw[if_pos hz] at he
    simp[h0,h1,h2,h11,h12,h13,hlt,hltb,hltb',hc,hz,hw]
    exact⟨hlt,by omega,he⟩
   ·rw[if_neg hz] at he
    have hz':(wE a[k] b[k] != 0)=true:=by simpa using hz
    simp[h0,h1,h2,h11,h12,h13,hlt,hltb,hltb',hc,hz',he,f136]
  ·obtain rfl:k=b.length:=by omega
   rw[List.drop_eq_getElem_cons hlt,List.drop_length] at he
   simp only[wo] at he
   simp[h0,h1,h2,h11,h12,h13,hlt,he,f136]
 ·obtain rfl:k=a.length:=by omega
  rw[List.drop_length] at he
  by_cases hl:a.length<b.length
  ·rw[List.drop_eq_getElem_cons hl] at he
   simp only[wo] at he
   simp[h0,h1,h2,h11,h12,h13,hl,he,f136]
  ·rw[List.drop_of_length_le (by omega)] at he
   simp only[wo] at he
   have hl':¬((a.length:Int)<b.length):=by omega
   simp[h0,h1,h2,h11,h12,h13,hl,he,f136]
noncomputable def FLF (n:Nat):List PV→Option PV:=zJ (α:=List (List UInt8×Val)×List (List UInt8×Val)) (fun a=>[.sl 6 (a.1.map wF),.sl 6 (a.2.map wF),.fn (.func 137) [] []]) (fun a=>(fbs a.1≤lim∧fbs a.1≤n)∧fbs a.2≤lim) (fun a=>int (wo wE a.1 a.2))
theorem zoF (n:Nat) (a b:List (List UInt8×Val)) (hp:Hp) (nx:Nat) (h:(fbs a≤lim∧fbs a≤n)∧fbs b≤lim):zd false [] (FLF n) [.sl 6 (a.map wF),.sl 6 (b.map wF),.fn (.func 137) [] []] hp nx=some (int (wo wE a b),hp,nx) :=
 zH (hp1:=hp) (by simp) (zm (enc:=fun a:List (List UInt8×Val)×List (List UInt8×Val)=>[PV.sl 6 (a.1.map wF),.sl 6 (a.2.map wF),.fn (.func 137) [] []]) (a:=(a,b)) (fun x y e=>by
   obtain⟨x1,x2⟩:=x;obtain⟨y1,y2⟩:=y
   simp only[List.cons.injEq,and_true] at e
   obtain⟨e1,e2⟩:=e
   injection e1 with _ e1
   injection e2 with _ e2
   rw[zdp e1,zdp e2]) h) (.inl rfl)
noncomputable abbrev zvZ (n:Nat):Ctx:=zC prog [(134,zd false [] (F2I qI)),(25,zd false [] (F2S wW)),(135,zd false [] (FLV n)),(136,zd false [] (FLF n))]
theorem zbg (n:Nat) (a b:Val) (h:a.vb≤lim∧a.vb≤n+1∧b.vb≤lim):zg (zvZ n) f107 [.agg a.enc,.agg b.enc]=some (int (zO a b)):=by
 obtain⟨h1,h2,h3⟩:=h
 have va:=j9 a
 have vb:=j9 b
 have hv:=fun hp nx=>zoD n a.items b.items hp nx ⟨⟨by omega,by omega⟩,by omega⟩
 have hf:=fun hp nx=>zoF n a.fields b.fields hp nx ⟨⟨by omega,by omega⟩,by omega⟩
 refine zb rfl ?_
 have hcv:=Zy a b
 by_cases hk:a.kind=b.kind
 ·rw[if_pos hk] at hcv
  by_cases k1:a.kind=1
  ·rw[if_pos (.inl k1)] at hcv
   have kb:b.kind=1:=by omega
   simp[k1,kb,hcv,f107]
  by_cases k2:a.kind=2
  ·rw[if_pos (.inr k2)] at hcv
   have kb:b.kind=2:=by omega
   simp[k2,kb,hcv,f107]
  rw[if_neg (by omega)] at hcv
  by_cases k3:a.kind=3
  ·rw[if_pos k3] at hcv
   have kb:b.kind=3:=by omega
   simp[k3,kb,hcv,f107]
  rw[if_neg k3] at hcv
  by_cases k4:a.kind=4
  ·rw[if_pos k4] at hcv
   have kb:b.kind=4:=by omega
   simp[k4,kb,hcv,hv,f107]
  rw[if_neg k4] at hcv
  by_cases k5:a.kind=5
  ·rw[if_pos k5] at hcv
   have kb:b.kind=5:=by omega
   simp[k5,kb,hcv,hf,f107]
  rw[if_neg k5] at hcv
  have e0:(a.kind != b.kind)=false:=by simpa using hk
  have e1:(a.kind==1)=false:=by simpa using k1
  have e2:(a.kind==2)=false:=by simpa using k2
  have e3:(a.kind==3)=false:=by simpa using k3
  have e4:(a.kind==4)=false:=by simpa using k4
  have e5:(a.kind==5)=false:=by simpa using k5
  simp[e0,e1,e2,e3,e4,e5,hcv,f107]
 ·rw[if_neg hk] at hcv
  have e0:(a.kind != b.kind)=true:=by simpa using hk
  simp[e0,hcv,f107]
theorem zbh {n:Nat} {args:List PV} {r:PV} (h:FCV n args=some r):∃a b:Val,args=[.agg a.enc,.agg b.enc]∧(a.vb≤lim∧a.vb≤n∧b.vb≤lim)∧r=int (zO a b):=by
 obtain⟨⟨a,b⟩,h1,h2,h3⟩:=ze h
 exact⟨a,b,h1,h2,h3⟩
set_option maxRecDepth 100000 in
theorem Qs:∀n,za prog 107 (zd false [] (FCV n)):=by
 intro n
 induction n with
 | zero =>
   exact KQ ⟨_,func107,by kernel_rfl,by kernel_rfl⟩ fun args r h=>by
    obtain⟨a,b,_,h2,_⟩:=zbh h
    have:=Zt a
    omega
 | succ n ih =>
   have g1:AM.Good (zvW n) (fun g=>([]:List Nat).contains g):=zk mixed ⟨ih,by simp,trivial⟩
   have s1:za prog 135 (zd false [] (FLV n)) :=
    zL (fn:=f135) g1 ⟨_,func135,by kernel_rfl,rfl,by kernel_rfl⟩ false [] _ fun args r h=>by
     obtain⟨⟨a,b⟩,rfl,⟨h1,h2⟩,rfl⟩:=ze h
     exact⟨Nat.le_trans (Nat.le_refl 3) (by decide),_,Ys n a b h1 h2,zK _⟩
   have g2:AM.Good (zvX n) (fun g=>[25,107,171].contains g):=zk mixed ⟨wX,fun _=>zi _ _,ih,fun _=>zi _ _,Wl,fun _=>zi _ _,trivial⟩
   have s2:za prog 137 (zd false [] (FFF n)) :=
    zL (fn:=f137) g2 ⟨_,func137,by kernel_rfl,rfl,by kernel_rfl⟩ false [] _ fun args r h=>by
     obtain⟨⟨a,b⟩,rfl,h1,rfl⟩:=ze h
     exact⟨Nat.le_trans (Nat.le_refl 2) (by decide),_,Wo n a b h1,zK _⟩
   have g3:AM.Good (zvY n) (fun g=>([]:List Nat).contains g):=zk mixed ⟨s2,by simp,trivial⟩
   have s3:za prog 136 (zd false [] (FLF n)) :=
    zL (fn:=f136) g3 ⟨_,func136,by kernel_rfl,rfl,by kernel_rfl⟩ false [] _ fun args r h=>by
     obtain⟨⟨a,b⟩,rfl,⟨h1,h2⟩,rfl⟩:=ze h
     exact⟨Nat.le_trans (Nat.le_refl 3) (by decide),_,Yt n a b h1 h2,zK _⟩
   have g4:AM.Good (zvZ n) (fun g=>([]:List Nat).contains g):=zk mixed ⟨kq,by simp,wX,by simp,s1,by simp,s3,by simp,trivial⟩
   exact zL (fn:=f107) g4 ⟨_,func107,by kernel_rfl,rfl,by kernel_rfl⟩ false [] _ fun args r h=>by
    obtain⟨a,b,rfl,h1,rfl⟩:=zbh h
    exact⟨Nat.le_trans (Nat.le_refl 2) (by decide),_,zbg n a b h1,zK _⟩
theorem zho (a b:UInt8):a<b∨a=b∨b<a:=by
 rcases Nat.lt_trichotomy a.toNat b.toNat with h | h | h
 ·exact .inl (UInt8.lt_iff_toNat_lt.2 h)
 ·exact .inr (.inl (UInt8.toNat_inj.1 h))
 ·exact .inr (.inr (UInt8.lt_iff_toNat_lt.2 h))
theorem KT (a:UInt8):¬a<a:=fun h=>Nat.lt_irrefl _ (UInt8.lt_iff_toNat_lt.1 h)
theorem zbi {a b:UInt8} (h:a<b):¬b<a:=fun h'=>Nat.lt_asymm (UInt8.lt_iff_toNat_lt.1 h) (UInt8.lt_iff_toNat_lt.1 h')
theorem zoG {a b c:UInt8} (h:a<b) (h':b<c):a<c:=UInt8.lt_iff_toNat_lt.2 (Nat.lt_trans (UInt8.lt_iff_toNat_lt.1 h) (UInt8.lt_iff_toNat_lt.1 h'))
theorem xA:∀a b:List UInt8,wW a b<0↔Op.bytesLess a b=true
 | [],[]=>by simp[wW,Lib.compareBytes,Op.bytesLess]
 | [],_::_=>by simp[wW,Lib.compareBytes,Op.bytesLess]
 | _::_,[]=>by simp[wW,Lib.compareBytes,Op.bytesLess]
 | a::x,b::y=>by
   have ih:=xA x y
   unfold wW at ih ⊢
   rcases zho a b with h | rfl | h
   ·simp[Lib.compareBytes,Op.bytesLess,h]
   ·simp[Lib.compareBytes,Op.bytesLess,KT,ih]
   ·have hne:¬a=b:=fun e=>KT b (e ▸ h)
    simp[Lib.compareBytes,Op.bytesLess,h,zbi h,hne]
theorem wY:∀a b:List UInt8,wW a b=0↔a=b
 | [],[]=>by simp[wW,Lib.compareBytes]
 | [],_::_=>by simp[wW,Lib.compareBytes]
 | _::_,[]=>by simp[wW,Lib.compareBytes]
 | a::x,b::y=>by
   have ih:=wY x y
   unfold wW at ih ⊢
   rcases zho a b with h | rfl | h
   ·have hne:¬a=b:=fun e=>KT b (e ▸ h)
    simp[Lib.compareBytes,h,hne]
   ·simp[Lib.compareBytes,KT,ih]
   ·have hne:¬a=b:=fun e=>KT b (e ▸ h)
    simp[Lib.compareBytes,h,zbi h,hne]
theorem yZ:∀{a b c:List UInt8},Op.bytesLess a b=true→Op.bytesLess b c=true→Op.bytesLess a c=true
 | _,[],_,h,_=>by simp[Op.bytesLess] at h
 | _,_::_,[],_,h=>by simp[Op.bytesLess] at h
 | [],_::_,_::_,_,_=>by simp[Op.bytesLess]
 | a::x,b::y,c::z,h1,h2=>by
   simp only[Op.bytesLess,Bool.or_eq_true,decide_eq_true_eq,Bool.and_eq_true,beq_iff_eq] at h1 h2 ⊢
   rcases h1 with h1 | ⟨rfl,h1⟩
   ·rcases h2 with h2 | ⟨rfl,h2⟩
    ·exact .inl (zoG h1 h2)
    ·exact .inl h1
   ·rcases h2 with h2 | ⟨rfl,h2⟩
    ·exact .inl h2
    ·exact .inr ⟨rfl,yZ h1 h2⟩
theorem yM:∀{a b:List UInt8},leB a b=false→Op.bytesLess b a=true
 | [],[],h=>by simp[leB] at h
 | [],_::_,h=>by simp[leB,Op.bytesLess] at h
 | _::_,[],_=>by simp[Op.bytesLess]
 | a::x,b::y,h=>by
   simp only[leB,Op.bytesLess,Bool.or_eq_false_iff,decide_eq_false_iff_not,Bool.and_eq_false_iff,beq_eq_false_iff_ne] at h
   obtain⟨⟨h1,h2⟩,h3⟩:=h
   simp only[Op.bytesLess,Bool.or_eq_true,decide_eq_true_eq,Bool.and_eq_true,beq_iff_eq]
   rcases zho a b with g | rfl | g
   ·exact absurd g h1
   ·refine .inr ⟨rfl,yM ?_⟩
    rcases h2 with h2 | h2
    ·exact absurd rfl h2
    ·have:¬x=y:=fun e=>h3 (by rw[e])
     simp[leB,h2,this]
   ·exact .inl g
def bsGo (f:Nat→Bool) (lo hi:Nat):Nat:=if h:lo<hi then (if f ((lo+hi) / 2) then bsGo f ((lo+hi) / 2+1) hi else bsGo f lo ((lo+hi) / 2)) else lo
termination_by hi - lo
decreasing_by all_goals omega
theorem Wq {f:Nat→Bool} {lo hi:Nat} (h:lo<hi):bsGo f lo hi=if f ((lo+hi) / 2) then bsGo f ((lo+hi) / 2+1) hi else bsGo f lo ((lo+hi) / 2):=by rw[bsGo,dif_pos h]
theorem JS {f:Nat→Bool} {lo hi:Nat} (h:¬lo<hi):bsGo f lo hi=lo:=by rw[bsGo,dif_neg h]
theorem KU {f:Nat→Bool} {n m:Nat} (hm:∀k,k<m→f k=true) (hn:∀k,m≤k→k<n→f k=false):∀{lo hi:Nat},lo≤m→m≤hi→hi≤n→bsGo f lo hi=m:=by
 intro lo hi
 induction lo,hi using bsGo.induct (f:=f) with
 | case1 lo hi hlt hf ih =>
   intro h1 h2 h3
   rw[bsGo,dif_pos hlt,if_pos hf]
   refine ih ?_ h2 h3
   apply Nat.succ_le_of_lt
   refine Nat.lt_of_not_le fun hle=>?_
   rw[hn _ hle (by omega)] at hf
   cases hf
 | case2 lo hi hlt hf ih =>
   intro h1 h2 h3
   rw[bsGo,dif_pos hlt,if_neg hf]
   refine ih h1 ?_ (by omega)
   refine Nat.le_of_not_lt fun hle=>?_
   exact hf (hm _ hle)
 | case3 lo hi hlt=>intro h1 h2 _;rw[bsGo,dif_neg hlt];omega
noncomputable def Qc (l:List (List UInt8)) (s:List UInt8) (k:Nat):Bool:=match l[k]? with
 | some x=>decide (wW x s<0)
 | none=>false
noncomputable def bsN (l:List (List UInt8)) (s:List UInt8):Nat×Bool:=(bsGo (Qc l s) 0 l.length,match l[bsGo (Qc l s) 0 l.length]? with
 | some x=>wW x s==0
 | none=>false)
theorem zly {l:List (List UInt8)} {s:List UInt8} (h:(bsN l s).2=true):l[(bsN l s).1]?=some s:=by
 unfold bsN at h ⊢
 simp only at h ⊢
 split at h
 ·rename_i x hx
  rw[hx,(wY x s).1 (by simpa using h)]
 ·cases h
theorem ztu {l:List (List UInt8)} {s:List UInt8} (h:(bsN l s).2=true):(bsN l s).1<l.length:=(List.getElem?_eq_some_iff.1 (zly h)).1
def UpN (l:List (List UInt8)):Prop:=l.Pairwise fun a b=>Op.bytesLess a b=true
theorem Wr (a:List UInt8):Op.bytesLess a a=false:=by
 cases h:Op.bytesLess a a with
 | false=>rfl
 | true =>
   have h1:=(xA a a).2 h
   have h2:=(wY a a).2 rfl
   omega
theorem zlz {l:List (List UInt8)} {s:List UInt8} (hl:UpN l) {j:Nat} (hj:l[j]?=some s):bsN l s=(j,true):=by
 obtain⟨hjl,hje⟩:=List.getElem?_eq_some_iff.1 hj
 have hg:bsGo (Qc l s) 0 l.length=j:=by
  refine KU (n:=l.length) (fun k hk=>?_) (fun k hk hkl=>?_) (Nat.zero_le _) (Nat.le_of_lt hjl) (Nat.le_refl _)
  ·have:=List.pairwise_iff_getElem.1 hl k j (by omega) hjl hk
   rw[hje] at this
   simp[Qc,show k<l.length by omega,(xA _ _).2 this]
  ·rcases Nat.lt_or_eq_of_le hk with h | rfl
   ·have:=List.pairwise_iff_getElem.1 hl j k hjl hkl h
    rw[hje] at this
    have h2:¬wW l[k] s<0:=fun h3=>by
     have:=yZ this ((xA _ _).1 h3)
     rw[Wr] at this
     cases this
    simp[Qc,hkl,h2]
   ·have h2:¬wW s s<0:=by rw[(wY s s).2 rfl];omega
    simp[Qc,hjl,hje,h2]
 unfold bsN
 rw[hg,hj]
 simp[(wY s s).2 rfl]
theorem zhp:∀a b:List UInt8,zoo a b=wW a b
 | [],[]=>by simp[zoo,wW,Lib.compareBytes,Op.bytesLess]
 | [],_::_=>by simp[zoo,wW,Lib.compareBytes,Op.bytesLess]
 | _::_,[]=>by simp[zoo,wW,Lib.compareBytes,Op.bytesLess]
 | a::x,b::y=>by
   have ih:=zhp x y
   unfold zoo wW at ih ⊢
   rcases zho a b with h | rfl | h
   ·simp[Lib.compareBytes,Op.bytesLess,h]
   ·simpa[Lib.compareBytes,Op.bytesLess,KT] using ih
   ·have hne:¬a=b:=fun e=>KT b (e ▸ h)
    simp[Lib.compareBytes,Op.bytesLess,h,zbi h,hne]
theorem Ws {a b:Int} (h:qI a b=0):a=b:=by
 unfold qI at h
 split at h
 ·cases h
 ·split at h
  ·cases h
  ·omega
theorem zbj {α:Type} (c:α→α→Int) {a b:List α} {m:Nat} (h1:m≤a.length) (h2:m≤b.length) (h3:m=a.length∨m=b.length):wo c (a.drop m) (b.drop m)=qI a.length b.length:=by
 unfold qI
 by_cases ha:m<a.length
 ·have hb:m=b.length:=by omega
  rw[List.drop_eq_getElem_cons ha,List.drop_of_length_le (l:=b) (by omega),if_neg (by omega),if_pos (by omega)]
  rfl
 ·rw[List.drop_of_length_le (l:=a) (by omega)]
  by_cases hb:m<b.length
  ·rw[List.drop_eq_getElem_cons hb,if_pos (by omega)]
   rfl
  ·rw[List.drop_of_length_le (l:=b) (by omega),if_neg (by omega),if_neg (by omega)]
   rfl
theorem zfE (a b:Nat):∃m:Nat,(if b<a then (b:Int) else a)=m∧m≤a∧m≤b∧(m=a∨m=b):=by
 by_cases h:b<a
 ·exact⟨b,by rw[if_pos h],by omega,Nat.le_refl _,.inr rfl⟩
 ·exact⟨a,by rw[if_neg h],Nat.le_refl _,by omega,.inl rfl⟩
theorem KV (f g:List UInt8×Val):wE f g=if wW f.1 g.1=0 then zO f.2 g.2 else wW f.1 g.1:=by
 unfold wE
 simp only[orL]
 split
 ·split
  ·rename_i h;rw[h]
  ·rfl
 ·rfl
noncomputable abbrev zv0 (n:Nat):Ctx:=zC prog [(117,zd false [] (FCV n)),(134,zd false [] (F2I qI)),(158,zd false [] (F2S zoo))]
set_option maxHeartbeats 1000000 in
theorem zbk (n:Nat) (a b:Val) (h:a.vb≤lim∧a.vb≤n+1∧b.vb≤lim):zg (zv0 n) f117 [.agg a.enc,.agg b.enc]=some (int (zO a b)):=by
 obtain⟨h1,h2,h3⟩:=h
 have va:=j9 a
 have vb:=j9 b
 have la:=qD a.items
 have lb:=qD b.items
 have fa:=qQ a.fields
 have fb:=qQ b.fields
 unfold lim at h1 h3
 refine zb rfl ?_
 have hcv:=Zy a b
 by_cases hk:a.kind=b.kind
 case neg =>
  rw[if_neg hk] at hcv
  have e0:(qI a.kind b.kind != 0)=true:=by
   rw[bne_iff_ne];exact fun e=>hk (Ws e)
  simp[e0,hcv,f117]
 rw[if_pos hk] at hcv
 by_cases k1:a.kind=1
 ·rw[if_pos (.inl k1)] at hcv
  have kb:b.kind=1:=by omega
  simp[k1,kb,hcv,f117]
 by_cases k2:a.kind=2
 ·rw[if_pos (.inr k2)] at hcv
  have kb:b.kind=2:=by omega
  simp[k2,kb,hcv,f117]
 rw[if_neg (by omega)] at hcv
 by_cases k3:a.kind=3
 ·rw[if_pos k3] at hcv
  have kb:b.kind=3:=by omega
  have hs:=zhp a.s b.s
  simp[k3,kb,hcv,hs,f117]
 rw[if_neg k3] at hcv
 by_cases k4:a.kind=4
 ·rw[if_pos k4] at hcv
  have kb:b.kind=4:=by omega
  obtain⟨m,hm,hma,hmb,hmm⟩:=zfE a.items.length b.items.length
  rw[hcv]
  simp[k4,kb,hm]
  refine zu (fun k σ hp nx=>σ 2=.ref 0 0 0∧σ 3=.ref 1 0 0∧σ 43=int m∧σ 44=int k∧hp 0=some ⟨61,5,false,[a.enc]⟩∧hp 1=some ⟨61,5,false,[b.enc]⟩∧wo zO a.items b.items=wo zO (a.items.drop k) (b.items.drop k)) m
   ⟨by simp,by simp,by simp,by simp,by simp,by simp,by simp⟩ ?_
  rintro k σ hp nx hk ⟨h2,h3,h43,h44,b0,b1,he⟩
  by_cases hlt:k<m
  ·have hka:k<a.items.length:=by omega
   have hkb:k<b.items.length:=by omega
   have ma:=wA (List.getElem_mem hka)
   have mb:=wA (List.getElem_mem hkb)
   have hc:=fun hp nx=>vm n a.items[k] b.items[k] hp nx ⟨by unfold lim;omega,by omega,by unfold lim;omega⟩
   have hw:IntKind.i64.wrap ((k:Int)+1)=(k:Int)+1:=zc (by omega) (by omega)
   rw[List.drop_eq_getElem_cons hka,List.drop_eq_getElem_cons hkb] at he
   simp only[wo] at he
   by_cases hz:zO a.items[k] b.items[k]=0
   ·rw[if_pos hz] at he
    simp[h2,h3,h43,h44,b0,b1,hlt,hka,hkb,hc,hz,hw]
    exact⟨hlt,he⟩
   ·rw[if_neg hz] at he
    have hz':(zO a.items[k] b.items[k] != 0)=true:=by simpa using hz
    simp[h2,h3,h43,h44,b0,b1,hlt,hka,hkb,hc,hz',he,f117]
  ·obtain rfl:k=m:=by omega
   rw[zbj zO hma hmb hmm] at he
   simp[h2,h3,h43,h44,b0,b1,he,f117]
 rw[if_neg k4] at hcv
 by_cases k5:a.kind=5
 ·rw[if_pos k5] at hcv
  have kb:b.kind=5:=by omega
  obtain⟨m,hm,hma,hmb,hmm⟩:=zfE a.fields.length b.fields.length
  rw[hcv]
  simp[k5,kb,hm]
  refine zu (fun k σ hp nx=>σ 2=.ref 0 0 0∧σ 3=.ref 1 0 0∧σ 77=int m∧σ 78=int k∧hp 0=some ⟨61,5,false,[a.enc]⟩∧hp 1=some ⟨61,5,false,[b.enc]⟩∧wo wE a.fields b.fields=wo wE (a.fields.drop k) (b.fields.drop k)) m
   ⟨by simp,by simp,by simp,by simp,by simp,by simp,by simp⟩ ?_
  rintro k σ hp nx hk ⟨h2,h3,h43,h44,b0,b1,he⟩
  by_cases hlt:k<m
  ·have hka:k<a.fields.length:=by omega
   have hkb:k<b.fields.length:=by omega
   have ma:=yA (List.getElem_mem hka)
   have mb:=yA (List.getElem_mem hkb)
   have hc:=fun hp nx=>vm n a.fields[k].2 b.fields[k].2 hp nx ⟨by unfold lim;omega,by omega,by unfold lim;omega⟩
   have hs:=zhp a.fields[k].1 b.fields[k].1
   have hw:IntKind.i64.wrap ((k:Int)+1)=(k:Int)+1:=zc (by omega) (by omega)
   rw[List.drop_eq_getElem_cons hka,List.drop_eq_getElem_cons hkb] at he
   simp only[wo] at he
   rw[KV] at he
   by_cases hn:wW a.fields[k].1 b.fields[k].1=0
   ·rw[if_pos hn] at he
    by_cases hz:zO a.fields[k].2 b.fields[k].2=0
    ·rw[if_pos hz] at he
     simp[h2,h3,h43,h44,b0,b1,hlt,hka,hkb,hc,hs,hn,hz,hw]
     exact⟨hlt,he⟩
    ·rw[if_neg hz] at he
     have hz':(zO a.fields[k].2 b.fields[k].2 != 0)=true:=by simpa using hz
     simp[h2,h3,h43,h44,b0,b1,hlt,hka,hkb,hc,hs,hn,hz',he,f117]
   ·rw[if_neg hn,if_neg hn] at he
    have hn':(wW a.fields[k].1 b.fields[k].1==0)=false:=by simpa using hn
    have hn2:(wW a.fields[k].1 b.fields[k].1 != 0)=true:=by simpa using hn
    simp[h2,h3,h43,h44,b0,b1,hlt,hka,hkb,hc,hs,hn',hn2,he,f117]
  ·obtain rfl:k=m:=by omega
   rw[zbj wE hma hmb hmm] at he
   simp[h2,h3,h43,h44,b0,b1,he,f117]
 rw[if_neg k5] at hcv
 have e1:(a.kind==1)=false:=by simpa using k1
 have e2:(a.kind==2)=false:=by simpa using k2
 have e3:(a.kind==3)=false:=by simpa using k3
 have e4:(a.kind==4)=false:=by simpa using k4
 have e5:(a.kind==5)=false:=by simpa using k5
 have e0:qI a.kind b.kind=0:=by rw[hk];simp
 simp[e0,e1,e2,e3,e4,e5,hcv,f117]
set_option maxRecDepth 100000 in
theorem Qt:∀n,za prog 117 (zd false [] (FCV n)):=by
 intro n
 induction n with
 | zero =>
   exact KQ ⟨_,func117,by kernel_rfl,by kernel_rfl⟩ fun args r h=>by
    obtain⟨a,b,_,h2,_⟩:=zbh h
    have:=Zt a
    omega
 | succ n ih =>
   have hg:AM.Good (zv0 n) (fun g=>([]:List Nat).contains g):=zk mixed ⟨ih,by simp,kq,by simp,zaa,by simp,trivial⟩
   exact zL (fn:=f117) hg ⟨_,func117,by kernel_rfl,rfl,by kernel_rfl⟩ false [] _ fun args r h=>by
    obtain⟨a,b,rfl,h1,rfl⟩:=zbh h
    exact⟨Nat.le_trans (Nat.le_refl 2) (by decide),_,zbk n a b h1,zK _⟩
def zsH (n:Int):Bool:=decide (48≤n)&&decide (n≤57)
theorem zp9 (c:UInt8):zsH c.toNat=zaY c:=by
 rw[Bool.eq_iff_iff];simp[zsH,zaY,pr];omega
theorem Qu:za prog 238 (zd false [] (F1b zsH)) :=
 zL (fn:=f238) yl ⟨_,func238,by kernel_rfl,rfl,by kernel_rfl⟩ false [] _ fun args r h=>by
  obtain⟨a,rfl,rfl⟩:=zff h
  exact⟨by simp[f238],_,zb rfl (by simp[f238,zsH]),zK _⟩
noncomputable abbrev Crd:Ctx:=zC prog [(238,zd false [] (F1b zsH))]
theorem ztv:AM.Good Crd (fun g=>[238].contains g):=zk mixed ⟨Qu,fun _=>zi _ _,trivial⟩
theorem KW (l:List UInt8) (hl:l.length≤lim):zg Crd f282 [str l]=some (boo (kd l)):=by
 refine zb rfl ?_
 unfold lim at hl
 simp
 refine zu (fun k σ hp nx=>σ 0=str l∧σ 5=int l.length∧σ 6=int k∧vg l=vg (l.drop k)) l.length ⟨by simp,by simp,by simp,by simp⟩ ?_
 rintro k σ hp nx hk ⟨h0,h5,h6,he⟩
 by_cases hlt:k<l.length
 ·have hw:IntKind.i64.wrap ((k:Int)+1)=(k:Int)+1:=zc (by omega) (by omega)
  rw[Kx hlt] at he
  have ho:=zp9 l[k]
  cases hc:zaY l[k]
  ·have he:vg l=false:=by rw[he,hc];rfl
   rw[hc] at ho
   simp[h0,h5,h6,hlt,he,ho,kd,f282]
  ·rw[hc] at ho
   simp[h0,h5,h6,hlt,ho,hw]
   exact⟨hlt,by rw[he,hc];rfl⟩
 ·obtain rfl:k=l.length:=by omega
  have he:vg l=true:=by rw[he,List.drop_length];rfl
  simp[h0,h5,h6,he,kd,f282]
theorem JB:za prog 282 (zd false [] (FS kd)) :=
 zL (fn:=f282) ztv ⟨_,func282,by kernel_rfl,rfl,by kernel_rfl⟩ false [] _ fun args r h=>by
  obtain⟨l,rfl,hp,rfl⟩:=ze h
  exact⟨by simp[f282],_,KW l hp,zK _⟩
def Zz (l:List UInt8):Bool:=l.isEmpty||(l.headD 0==48&&!(l==[48]))
theorem zlA (l:List UInt8):(!Zz l&&vg l)=qF l:=by
 cases l with
 | nil=>rfl
 | cons c l =>
   cases l with
   | nil =>
     by_cases h:c=48
     ·subst h;rfl
     ·simp[Zz,qF,h]
   | cons d l=>simp[Zz,qF]
theorem zdq (l:List UInt8) (hl:l.length≤lim):zg C0 f237 [str l]=some (boo (qF l)):=by
 refine zb rfl ?_
 unfold lim at hl
 rw[←zlA]
 cases hb:Zz l
 case true =>
  cases l with
  | nil=>simp[Zz,f237]
  | cons c l =>
    simp only[Zz,List.isEmpty_cons,List.headD_cons,Bool.false_or,Bool.and_eq_true,beq_iff_eq,Bool.not_eq_true',beq_eq_false_iff_ne] at hb
    obtain⟨rfl,hb⟩:=hb
    have hb':l.isEmpty=false:=by cases l with
     | nil=>exact absurd rfl hb
     | cons d l=>rfl
    simp[hb',f237]
 case false =>
  have hne:l≠[]:=fun e=>by subst e;simp[Zz] at hb
  have h0:0<l.length:=List.length_pos_iff.2 hne
  have hemp:(l==[])=false:=by simpa using hne
  have hh:((l[0].toNat:Int)==48&&!(l==[48]))=false:=by
   cases l with
   | nil=>exact absurd rfl hne
   | cons c l =>
     have e1:((c.toNat:Int)==48)=(c==48):=by rw[Bool.eq_iff_iff];simp[←UInt8.toNat_inj];omega
     simp only[List.getElem_cons_zero,e1]
     simpa[Zz] using hb
  have hh':((l[0].toNat:Int)==48&&l != [48])=false:=hh
  simp[hemp,hne,h0,hh,hh']
  refine zu (fun k σ hp nx=>σ 0=str l∧σ 16=int l.length∧σ 17=int k∧vg l=vg (l.drop k)) l.length ⟨by simp,by simp,by simp,by simp⟩ ?_
  rintro k σ hp nx hk ⟨g0,h16,h17,he⟩
  by_cases hlt:k<l.length
  ·have hw:IntKind.i64.wrap ((k:Int)+1)=(k:Int)+1:=zc (by omega) (by omega)
   rw[Kx hlt] at he
   have ho:=Y5 48 57 l[k]
   simp only[Int.cast_ofNat_Int] at ho
   cases hc:zaY l[k]
   ·have he:vg l=false:=by rw[he,hc];rfl
    have hc':pr 48 57 l[k]=false:=hc
    simp[g0,h16,h17,hlt,he,ho,hc',f237]
   ·have hc':pr 48 57 l[k]=true:=hc
    simp[g0,h16,h17,hlt,ho,hc',hw]
    exact⟨hlt,by rw[he,hc];rfl⟩
  ·obtain rfl:k=l.length:=by omega
   have he:vg l=true:=by rw[he,List.drop_length];rfl
   simp[g0,h16,h17,he,f237]
theorem Wt:za prog 237 (zd false [] (FS qF)) :=
 zL (fn:=f237) yl ⟨_,func237,by kernel_rfl,rfl,by kernel_rfl⟩ false [] _ fun args r h=>by
  obtain⟨l,rfl,hp,rfl⟩:=ze h
  exact⟨by simp[f237],_,zdq l hp,zK _⟩
def zeN (c:UInt8):Bool:=pr 97 122 c||pr 65 90 c||c==45
theorem zdr (c:UInt8):X2 c=(zeN c||zaY c):=by
 simp only[X2,zeN,zaY]
 cases pr 97 122 c<;>cases pr 65 90 c<;>cases pr 48 57 c<;>simp
theorem zq9 (c:UInt8) (h:zeN c=true):zaY c=false:=by
 cases hd:zaY c with
 | false=>rfl
 | true =>
   simp only[zeN,zaY,pr,Bool.or_eq_true,Bool.and_eq_true,decide_eq_true_eq,beq_iff_eq] at h hd
   rcases h with (h | h) | rfl
   ·omega
   ·omega
   ·simp at hd
theorem zlB (l:List UInt8) (h:l.all X2=true):(inB l.length 1 20&&(!(l.all fun c=>!zeN c)||qF l))=!qf l:=by
 have e:(l.all fun c=>!zeN c)=vg l:=by
  induction l with
  | nil=>rfl
  | cons c l ih =>
    simp only[List.all_cons,Bool.and_eq_true] at h
    have h1:=h.1
    rw[zdr] at h1
    rw[List.all_cons,ih h.2]
    show _=(zaY c&&vg l)
    cases hl:zeN c
    ·rw[hl,Bool.false_or] at h1;rw[h1];rfl
    ·rw[zq9 c hl];rfl
 rw[e]
 unfold qf ziQ
 rw[h]
 cases l with
 | nil=>rfl
 | cons c l =>
   rw[Bool.eq_iff_iff]
   simp[inB]
   omega
theorem zi7 (l:List UInt8) (h:l.all X2=false):qf l=true:=by
 unfold qf ziQ
 rw[h]
 simp
noncomputable abbrev zvg:Ctx:=zC prog [(238,zd false [] (F1b zsH)),(87,zd false [] (F3 inB)),(237,zd false [] (FS qF))]
theorem zra:AM.Good zvg (fun g=>[238,87,237].contains g):=zk mixed ⟨Qu,fun _=>zi _ _,yr,fun _=>zi _ _,Wt,fun _=>zi _ _,trivial⟩
@[simp] theorem quietrip2:yj zvg 237:=qN (by rfl) (zi _ _)
theorem zfF (l:List UInt8) (hl:l.length≤lim):zg zvg f206 [str l]=some (boo (!qf l)):=by
 refine zb rfl ?_
 have hnum:=fun hp nx=>wO qF l hp nx hl
 unfold lim at hl
 simp
 refine zu (fun k σ hp nx=>σ 0=str l∧σ 3=boo ((l.take k).all fun c=>!zeN c)∧σ 8=int l.length∧σ 9=int k∧l.all X2=(l.drop k).all X2) l.length ⟨by simp,by simp,by simp,by simp,by simp⟩ ?_
 rintro k σ hp nx hk ⟨h0,h3,h8,h9,he⟩
 by_cases hlt:k<l.length
 ·have hw:IntKind.i64.wrap ((k:Int)+1)=(k:Int)+1:=zc (by omega) (by omega)
  rw[zc4 hlt,zdr] at he
  have ho:(decide ((97:Int)≤l[k].toNat)&&decide ((l[k].toNat:Int)≤122)||decide ((65:Int)≤l[k].toNat)&&decide ((l[k].toNat:Int)≤90)||((l[k].toNat:Int)==45))=zeN l[k]:=by
   have e1:((l[k].toNat:Int)==45)=(l[k]==45):=by
    rw[Bool.eq_iff_iff];simp[←UInt8.toNat_inj];omega
   rw[e1,Bool.eq_iff_iff]
   simp[zeN,pr,←UInt8.toNat_inj]
   omega
  have hd:=zp9 l[k]
  have ht:((l.take (k+1)).all fun c=>!zeN c)=(((l.take k).all fun c=>!zeN c)&&!zeN l[k]):=by rw[List.take_succ_eq_append_getElem hlt,List.all_append];simp
  obtain⟨T,hT⟩:∃T,((l.take k).all fun c=>!zeN c)=T:=⟨_,rfl⟩
  rw[hT] at h3 ht
  cases hc:zeN l[k]
  ·cases hg:zaY l[k]
   ·rw[hc,hg] at he
    have he:l.all X2=false:=he
    have hb:=zi7 l he
    rw[hc] at ho;rw[hg] at hd
    simp[h0,h3,h8,h9,hlt,ho,hd,hb,-List.all_eq_true,-List.all_eq_false,f206]
   ·rw[hc,hg] at he
    rw[hc] at ho ht;rw[hg] at hd
    simp[h0,h3,h8,h9,hlt,ho,hd,hw,-List.all_eq_true,-List.all_eq_false]
    exact⟨hlt,by rw[ht];simp,he⟩
  ·rw[hc] at he ho ht
   simp[h0,h3,h8,h9,hlt,ho,hw,-List.all_eq_true,-List.all_eq_false]
   exact⟨hlt,by rw[ht];simp,he⟩
 ·obtain rfl:k=l.length:=by omega
  have he:l.all X2=true:=by rw[he,List.drop_length];rfl
  have hb:=zlB l he
  rw[List.take_length] at h3
  obtain⟨T,hT⟩:∃T,(l.all fun c=>!zeN c)=T:=⟨_,rfl⟩
  rw[hT] at h3 hb
  simp[h0,h3,h8,h9,hnum,hb,-List.all_eq_true,-List.all_eq_false,f206]
theorem Jc:za prog 206 (zd false [] (FS fun l=>!qf l)) :=
 zL (fn:=f206) zra ⟨_,func206,by kernel_rfl,rfl,by kernel_rfl⟩ false [] _ fun args r h=>by
  obtain⟨l,rfl,hp,rfl⟩:=ze h
  exact⟨by simp[f206],_,zfF l hp,zK _⟩
theorem zds (l:List UInt8):zg C0 f210 [str l]=some (boo (qH l)):=by
 refine zb rfl ?_
 have e:qH l=(l==[42]||l==[120]||l==[88]):=by unfold qH;cases l==[42]<;>cases l==[120]<;>cases l==[88]<;>rfl
 rw[e]
 cases h1:(l==[42])
 ·cases h2:(l==[120])
  ·simp[h1,h2,f210]
  ·simp[h1,h2,f210]
 ·simp[h1,f210]
theorem zbl:za prog 210 (zd false [] (FS qH)) :=
 zL (fn:=f210) yl ⟨_,func210,by kernel_rfl,rfl,by kernel_rfl⟩ false [] _ fun args r h=>by
  obtain⟨l,rfl,hp,rfl⟩:=ze h
  exact⟨by simp[f210],_,zds l,zK _⟩
noncomputable def FNm:List PV→Option PV:=zJ (α:=List UInt8) (fun l=>[str l,int 6]) (fun l=>l.length≤lim) Wd
theorem zoH (l:List UInt8) (hp:Hp) (nx:Nat) (h:l.length≤lim):zd false [] FNm [str l,int 6] hp nx=some (.tup [int ((jJ l).getD 0),boo (jJ l).isSome],hp,nx) :=
 zH rfl (zm (enc:=fun l:List UInt8=>[str l,int 6]) (a:=l) (fun a b e=>by simp only[List.cons.injEq,and_true] at e;exact qg e) h) (.inl rfl)
noncomputable abbrev zv1:Ctx:=zC prog [(237,zd false [] (FS qF)),(183,zd false [] FAt)]
theorem zrb:AM.Good zv1 (fun g=>[237].contains g):=zk mixed ⟨Wt,fun _=>zi _ _,X4,by simp,trivial⟩
theorem zdt (l:List UInt8) (hl:l.length≤lim):zg zv1 f205 [str l,int 6]=some (Wd l):=by
 refine zb rfl ?_
 have hw:=fun hp nx=>wO qF l hp nx hl
 cases h1:qF l
 ·simp[hw,h1,Wd,jJ,qe,f205]
 ·by_cases h2:l.length≤6
  ·have h3:¬((6:Int)<l.length):=by omega
   have ha:=fun hp nx=>zc5 l hp nx (by omega) h1
   simp[hw,h1,h2,h3,ha,Wd,jJ,qe,f205]
  ·have h3:(6:Int)<l.length:=by omega
   have h2':6<l.length:=by omega
   simp[hw,h1,h2,h2',h3,Wd,jJ,qe,f205]
theorem zbm:za prog 205 (zd false [] FNm) :=
 zL (fn:=f205) zrb ⟨_,func205,by kernel_rfl,rfl,by kernel_rfl⟩ false [] _ fun args r h=>by
  obtain⟨l,rfl,hp,rfl⟩:=ze h
  exact⟨by simp[f205],_,zdt l hp,zK _⟩
noncomputable abbrev zv2:Ctx:=zC prog [(282,zd false [] (FS kd)),(239,zd false [] (FTT tlP fun _ b=>zle b)),(134,zd false [] (F2I qI)),(158,zd false [] (F2S zoo)),(171,zd false [] FOr)]
theorem zrc:AM.Good zv2 (fun g=>([]:List Nat).contains g):=zk mixed ⟨JB,by simp,vu,by simp,kq,by simp,zaa,by simp,Wl,by simp,trivial⟩
theorem JC (a b:List UInt8) (ha:a.length≤lim) (hb:b.length≤lim):zg zv2 f272 [str a,str b]=some (int (qa a b)):=by
 refine zb rfl ?_
 have da:=fun hp nx=>wO kd a hp nx ha
 have db:=fun hp nx=>wO kd b hp nx hb
 have ta:=fun hp nx=>za8 a hp nx ha
 have tb:=fun hp nx=>za8 b hp nx hb
 have eS:=zhp
 cases h1:kd a<;>cases h2:kd b
 ·simp[da,db,h1,h2,qa,eS,f272]
 ·simp[da,db,h1,h2,qa,f272]
 ·simp[da,db,h1,h2,qa,f272]
 ·have ho:∀(hp:Hp) (nx id:Nat),hp id=some ⟨3,1,true,[[int (qI (Lib.trimLeftB a 48).length (Lib.trimLeftB b 48).length)],[int (wW (Lib.trimLeftB a 48) (Lib.trimLeftB b 48))]]⟩→zd false [] FOr [.own id 0 2] hp nx=some (int (orL [qI (Lib.trimLeftB a 48).length (Lib.trimLeftB b 48).length,wW (Lib.trimLeftB a 48) (Lib.trimLeftB b 48)]),hp,nx):=fun hp nx id hh=>KI [_,_] hp nx id _ (by show 2≤lim;decide) hh
  simp[da,db,ta,tb,h1,h2,ho,eS,zh,zo,zf,qa,f272]
theorem Yu:za prog 272 (zd false [] (FTT (fun a b=>int (qa a b)) fun _ _=>True)) :=
 zL (fn:=f272) zrc ⟨_,func272,by kernel_rfl,rfl,by kernel_rfl⟩ false [] _ fun args r h=>by
  obtain⟨a,b,rfl,h1,h2,_,rfl⟩:=wP h
  exact⟨by simp[f272],_,JC a b h1 h2,zK _⟩
end Go.Proofs.YtjcofiomfmebkaaGreatDoor
