/-
rule.CheckCond: what it computes.
The plain law of spans: lists of pairs (from, to); what they hold; the one form that a set has.
Spans: the checks and the sizes, of the program and of the reference.
Spans: sizes, first.
-/
import Derived.Test.YtglppmnehgjolaaGreatDoorG11
import Derived.Test.YtglppmnehgjolaaGreatDoorG13
import Derived.Test.YtglppmnehgjolaaGreatDoorG17
import Derived.Test.YtglppmnehgjolaaGreatDoorG9
import Derived.Test.YtglppmnehgjolaaGreatDoorG12
set_option maxRecDepth 8000
namespace Go.Proofs.YtglppmnehgjolaaGreatDoor
open Go.Proofs.Tryz
open Go.RowKit Go.AM
def usesV (op:Int):Bool:=inB op 2 6||op==12
def usesP (op:Int):Bool:=inB op 7 11
def isOrd (op:Int):Bool:=inB op 3 6
noncomputable abbrev Cwi:Ctx:=zN prog [(117,zd false [] (F3 inB))]
theorem goodwi:AM.Good Cwi (fun g=>[117].contains g):=zr mixed ⟨jH,fun _=>zf _ _,trivial⟩
def FIb (f:Int→Bool):List PV→Option PV
 | [.v (.int .i64 a)]=>some (boo (f a))
 | _=>none
theorem FIb_inv {f:Int→Bool} {args:List PV} {r:PV} (h:FIb f args=some r):∃a,args=[int a]∧r=boo (f a):=by
 unfold FIb at h
 split at h
 ·injection h with h;exact⟨_,rfl,h.symm⟩
 ·cases h
@[simp] theorem FIb_call (f:Int→Bool) (a:Int) (hp:Hp) (nx:Nat):zd false [] (FIb f) [.v (.int .i64 a)] hp nx=some (boo (f a),hp,nx):=zJ rfl rfl (.inl rfl)
theorem usesV_sound:za prog 136 (zd false [] (FIb usesV)) :=
 zZ (fn:=f136) goodwi ⟨_,func136,by kernel_rfl,rfl,by kernel_rfl⟩ false [] _ fun args r h=>by
  obtain⟨a,rfl,rfl⟩:=FIb_inv h
  exact⟨by simp[f136],_,ze rfl (by simp[usesV,f136]),zY _⟩
theorem usesP_sound:za prog 132 (zd false [] (FIb usesP)) :=
 zZ (fn:=f132) goodwi ⟨_,func132,by kernel_rfl,rfl,by kernel_rfl⟩ false [] _ fun args r h=>by
  obtain⟨a,rfl,rfl⟩:=FIb_inv h
  exact⟨by simp[f132],_,ze rfl (by simp[usesP,f132]),zY _⟩
theorem isOrd_sound:za prog 137 (zd false [] (FIb isOrd)) :=
 zZ (fn:=f137) goodwi ⟨_,func137,by kernel_rfl,rfl,by kernel_rfl⟩ false [] _ fun args r h=>by
  obtain⟨a,rfl,rfl⟩:=FIb_inv h
  exact⟨by simp[f137],_,ze rfl (by simp[isOrd,f137]),zY _⟩
noncomputable abbrev Cms (n:Nat):Ctx:=zN prog [(119,zd false [] (FC (fun c=>.tup [int c.parts,int c.levels]) n))]
theorem measure_eval (n:Nat) (c:Cnd) (h:c.cb≤lim∧c.cb≤n+1):zl (Cms n) f119 [.agg c.enc]=some (.tup [int c.parts,int c.levels]):=by
 have hpl:=cparts_le c
 have hpe:=cparts_eq c
 have hcb:=cb_eq c
 have hle:=clevels_eq c
 have hll:=clevels_le c
 have hl1:=jd c.args
 obtain⟨ha,hb⟩:=h
 unfold lim at ha
 refine ze rfl ?_
 simp
 refine zD (fun k σ hp nx=>σ 9=.sl 7 (c.args.map Cnd.enc)∧σ 10=int c.args.length∧σ 11=int k∧σ 2=int ((1+partsC (c.args.take k):Nat):Int)∧σ 3=int (levelsC (c.args.take k))) c.args.length
  ⟨by simp,by simp,by simp,by simp[partsC],by simp[levelsC]⟩ ?_
 rintro k σ hp nx hk ⟨h9,h10,h11,h2,h3⟩
 by_cases hlt:k<c.args.length
 ·obtain⟨t1,t2⟩:=takeC hlt
  have hm:=xA (List.getElem_mem hlt)
  have hw:IntKind.i64.wrap ((k:Int)+1)=(k:Int)+1:=zi (by omega) (by omega)
  have hple:=partsC_le c.args k
  have hple2:=partsC_le c.args (k+1)
  have hpp:=partsC_le' c.args fun x hx=>cparts_le x
  have hcall:=fun hp nx=>FC_call (fun c=>.tup [int c.parts,int c.levels]) n c.args[k] hp nx ⟨by unfold lim;omega,by omega⟩
  have w1:IntKind.i64.wrap (((1+partsC (c.args.take k):Nat):Int)+c.args[k].parts)=((1+partsC (c.args.take (k+1)):Nat):Int):=by rw[zi (by omega) (by omega),t1];omega
  have w2:(if (levelsC (c.args.take k))<c.args[k].levels then (c.args[k].levels:Int) else levelsC (c.args.take k))=(levelsC (c.args.take (k+1)):Int):=by rw[t2];split<;>omega
  simp[h2,h3,h9,h10,h11,hlt,hcall,hw]
  exact⟨by omega,by rw[zi (by omega) (by omega),t1];omega,w2⟩
 ·obtain rfl:k=c.args.length:=by omega
  rw[List.take_length] at h2 h3
  have w1:IntKind.i64.wrap ((levelsC c.args:Int)+1)=(c.levels:Int):=by rw[zi (by omega) (by omega),hle];omega
  simp[h2,h3,h9,h10,h11,w1,qC,f119]
  omega
set_option maxRecDepth 100000 in
theorem measure_sound:∀n,za prog 119 (zd false [] (FC (fun c=>.tup [int c.parts,int c.levels]) n)):=by
 intro n
 induction n with
 | zero=>exact FC_zero ⟨_,func119,by kernel_rfl,by kernel_rfl⟩
 | succ n ih =>
   have hg:AM.Good (Cms n) (fun g=>([]:List Nat).contains g):=zr mixed ⟨ih,by simp,trivial⟩
   exact zZ (fn:=f119) hg ⟨_,func119,by kernel_rfl,rfl,by kernel_rfl⟩ false [] _ fun args r h=>by
    obtain⟨c,rfl,hc,rfl⟩:=FC_inv h
    exact⟨Nat.le_trans (Nat.le_refl 1) (by decide),_,measure_eval n c hc,zY _⟩
def w1F (c:Cnd):Bool:=!(c.kind==4)&&(!c.attr.isEmpty||c.op != 0||decide (0<c.vals.length)||!c.pat.isEmpty)
def w2F (c:Cnd):Bool:=c.kind != 5&&!c.name.isEmpty
def w3F (c:Cnd):Bool:=!inB c.kind 1 3&&decide (0<c.args.length)
def w4F (c:Cnd):Bool:=c.kind==4&&!usesV c.op&&decide (0<c.vals.length)
def w5F (c:Cnd):Bool:=c.kind==4&&!usesP c.op&&!c.pat.isEmpty
def w6F (c:Cnd):Bool:=c.kind==3&&(c.args.length:Int) != 1
def w7F (c:Cnd):Bool:=c.kind==4&&isOrd c.op&&(c.vals.length:Int) != 1
def formF (c:Cnd):Bool:=w1F c||w2F c||w3F c||w4F c||w5F c||w6F c||w7F c
noncomputable abbrev Cfo:Ctx:=zN prog [(117,zd false [] (F3 inB)),(136,zd false [] (FIb usesV)),(132,zd false [] (FIb usesP)),(137,zd false [] (FIb isOrd))]
theorem goodfo:AM.Good Cfo (fun g=>[117,136,132,137].contains g):=zr mixed ⟨jH,fun _=>zf _ _,usesV_sound,fun _=>zf _ _,usesP_sound,fun _=>zf _ _,isOrd_sound,fun _=>zf _ _,trivial⟩
@[simp] theorem quietfo2:qE Cfo 136:=zW (by rfl) (zf _ _)
@[simp] theorem quietfo3:qE Cfo 132:=zW (by rfl) (zf _ _)
@[simp] theorem quietfo4:qE Cfo 137:=zW (by rfl) (zf _ _)
theorem checkForm_eval (c:Cnd) (h:c.cb≤lim):zl Cfo f130 [.agg c.enc]=some (int (if formF c=true then 3 else 0)):=by
 refine ze rfl ?_
 have e1:(!(c.kind==4)&&(!c.attr.isEmpty||c.op != 0||decide (0<c.vals.length)||!c.pat.isEmpty))=w1F c:=rfl
 have e2:(c.kind != 5&&!c.name.isEmpty)=w2F c:=rfl
 have e3:(!inB c.kind 1 3&&decide (0<c.args.length))=w3F c:=rfl
 have e4:(c.kind==4&&!usesV c.op&&decide (0<c.vals.length))=w4F c:=rfl
 have e5:(c.kind==4&&!usesP c.op&&!c.pat.isEmpty)=w5F c:=rfl
 have e6:(c.kind==3&&(c.args.length:Int) != 1)=w6F c:=rfl
 have e7:(c.kind==4&&isOrd c.op&&(c.vals.length:Int) != 1)=w7F c:=rfl
 cases h1:w1F c
 case true=>simp[e1,h1,formF,f130]
 cases h2:w2F c
 case true=>simp[e1,h1,e2,h2,formF,f130]
 cases h3:w3F c
 case true=>simp[e1,h1,e2,h2,e3,h3,formF,f130]
 cases h4:w4F c
 case true=>simp[e1,h1,e2,h2,e3,h3,e4,h4,formF,f130]
 cases h5:w5F c
 case true=>simp[e1,h1,e2,h2,e3,h3,e4,h4,e5,h5,formF,f130]
 cases h6:w6F c
 case true=>simp[e1,h1,e2,h2,e3,h3,e4,h4,e5,h5,e6,h6,formF,f130]
 cases h7:w7F c
 case true=>simp[e1,h1,e2,h2,e3,h3,e4,h4,e5,h5,e6,h6,e7,h7,formF,f130]
 simp[e1,h1,e2,h2,e3,h3,e4,h4,e5,h5,e6,h6,e7,h7,formF,f130]
theorem checkForm_sound:za prog 130 (GC fun c=>int (if formF c=true then 3 else 0)) :=
 zZ (fn:=f130) goodfo ⟨_,func130,by kernel_rfl,rfl,by kernel_rfl⟩ false [] _ fun args r h=>by
  obtain⟨c,rfl,hc,rfl⟩:=FC_inv h
  exact⟨by simp[f130],_,checkForm_eval c hc.1,zY _⟩
noncomputable def cPrevV (p:Option Val) (v:Val):Bool:=match p with
 | none=>false
 | some p=>decide (0≤wp p v)
def typeF (op:Int) (v:Val):Bool:=v.kind==0||isOrd op&&v.kind != 2
noncomputable def valF (op:Int):Option Val→List Val→Int
 | _,[]=>0
 | p,v::l=>if v.check=0 then (if typeF op v=true then 6 else if cPrevV p v=true then 8 else valF op (some v) l) else v.check
noncomputable def valsF (op:Int) (l:List Val):Int:=if (100:Int)<l.length then 2 else valF op none l
def prevV (l:List Val) (k:Nat):Option Val:=if k=0 then none else l[k - 1]?
noncomputable def FIv (f:Int→List Val→PV):List PV→Option PV:=zM (α:=Int×List Val) (fun a=>[int a.1,.sl 5 (a.2.map Val.enc)]) (fun a=>vbs a.2≤lim) (fun a=>f a.1 a.2)
theorem FIv_call (f:Int→List Val→PV) (op:Int) (l:List Val) (hp:Hp) (nx:Nat) (h:vbs l≤lim):zd false [] (FIv f) [int op,.sl 5 (l.map Val.enc)] hp nx=some (f op l,hp,nx) :=
 zJ (hp1:=hp) (show zk hp [int op,.sl 5 (l.map Val.enc)]=some ([int op,.sl 5 (l.map Val.enc)],hp) by simp) (zq (enc:=fun a:Int×List Val=>[int a.1,.sl 5 (a.2.map Val.enc)]) (a:=(op,l)) (fun x y e=>by
  obtain⟨x1,x2⟩:=x;obtain⟨y1,y2⟩:=y
  simp only[List.cons.injEq,and_true] at e
  obtain⟨e1,e2⟩:=e
  injection e2 with _ e2
  rw[zG e1,vm e2]) h) (.inr (by simp))
noncomputable abbrev Ccv2:Ctx:=zN prog [(138,GV fun v=>int v.check),(137,zd false [] (FIb isOrd)),(139,zd false [] (FCV lim))]
theorem goodcv2:AM.Good Ccv2 (fun g=>[137,139].contains g):=zr mixed ⟨check_sound,by simp,isOrd_sound,fun _=>zf _ _,vcompare_sound lim,fun _=>zf _ _,trivial⟩
@[simp] theorem quietcv2a:qE Ccv2 137:=zW (by rfl) (zf _ _)
theorem checkValues_eval (op:Int) (l:List Val) (h:vbs l≤lim):zl Ccv2 f131 [int op,.sl 5 (l.map Val.enc)]=some (int (valsF op l)):=by
 have hlen:=wC l
 unfold lim at h
 refine ze rfl ?_
 by_cases h100:(100:Int)<l.length
 ·have hv:valsF op l=2:=by unfold valsF;rw[if_pos h100]
  simp[h100,hv,f131]
 have hv:valsF op l=valF op none l:=by unfold valsF;rw[if_neg h100]
 rw[hv]
 simp[h100]
 refine zD (fun k σ hp nx=>σ 0=int op∧σ 1=.sl 5 (l.map Val.enc)∧σ 11=.sl 5 (l.map Val.enc)∧σ 12=int l.length∧σ 13=int k∧valF op none l=valF op (prevV l k) (l.drop k)) l.length
  ⟨by simp,by simp,by simp,by simp,by simp,by simp[prevV]⟩ ?_
 rintro k σ hp nx hk ⟨h0,h1,h11,h12,h13,he⟩
 by_cases hlt:k<l.length
 ·have hm:=jm (List.getElem_mem hlt)
  have hw:IntKind.i64.wrap ((k:Int)+1)=(k:Int)+1:=zi (by omega) (by omega)
  have hck:=fun hp nx=>GV_call (fun v=>int v.check) l[k] hp nx (by unfold lim;omega)
  rw[List.drop_eq_getElem_cons hlt] at he
  simp only[valF] at he
  have hpn:prevV l (k+1)=some l[k]:=by simp[prevV,hlt]
  have ety:(l[k].kind==0||isOrd op&&l[k].kind != 2)=typeF op l[k]:=rfl
  by_cases hz:l[k].check=0
  case neg =>
   rw[if_neg hz] at he
   have hz2:(l[k].check != 0)=true:=by simpa using hz
   simp[h0,h1,h11,h12,h13,hlt,hck,hz2,he,f131]
  rw[if_pos hz] at he
  cases hty:typeF op l[k]
  case true =>
   rw[hty,if_pos rfl] at he
   simp[h0,h1,h11,h12,h13,hlt,hck,hz,ety,hty,he,f131]
  rw[hty,if_neg (by simp)] at he
  by_cases k0:k=0
  ·subst k0
   have hp0:cPrevV (prevV l 0) l[0]=false:=rfl
   rw[hp0,if_neg (by simp)] at he
   simp[h0,h1,h11,h12,h13,hlt,hck,hz,ety,hty,hw]
   exact⟨by omega,by rw[he,show prevV l 1=some l[0] from hpn];simp⟩
  ·obtain⟨j,rfl⟩:∃j,k=j+1:=⟨k - 1,by omega⟩
   have hj:j<l.length:=by omega
   have hmj:=jm (List.getElem_mem hj)
   have wj:IntKind.i64.wrap ((j:Int)+1 - 1)=(j:Int):=by rw[zi (by omega) (by omega)];omega
   have wj':IntKind.i64.wrap (j:Int)=(j:Int):=zi (by omega) (by omega)
   have j1:((j:Int)+1).toNat=j+1:=by omega
   have j2:0<(j:Int)+1:=by omega
   have j3:0≤(j:Int)+1:=by omega
   have j4:(j:Int)+1<l.length:=by omega
   have hcm:=fun hp nx=>FCV_call lim l[j] l[j+1] hp nx ⟨by unfold lim;omega,by unfold lim;omega,by unfold lim;omega⟩
   have hpv:cPrevV (prevV l (j+1)) l[j+1]=decide (0≤wp l[j] l[j+1]):=by simp[prevV,hj,cPrevV]
   rw[hpv] at he
   by_cases hc:0≤wp l[j] l[j+1]
   ·have hc':decide (0≤wp l[j] l[j+1])=true:=by simpa using hc
    rw[if_pos hc'] at he
    simp[h0,h1,h11,h12,h13,hlt,hj,hck,hz,ety,hty,hw,wj,wj',j1,j2,j3,j4,hcm,hc,he,f131]
   ·have hc':¬decide (0≤wp l[j] l[j+1])=true:=by simpa using hc
    rw[if_neg hc'] at he
    have wk:IntKind.i64.wrap ((j:Int)+1+1)=(j:Int)+1+1:=zi (by omega) (by omega)
    simp[h0,h1,h11,h12,h13,hlt,hj,hck,hz,ety,hty,wk,wj,wj',j1,j2,j3,j4,hcm,hc]
    exact⟨by omega,by rw[he,hpn]⟩
 ·obtain rfl:k=l.length:=by omega
  rw[List.drop_length] at he
  simp only[valF] at he
  simp[h0,h1,h11,h12,h13,he,f131]
theorem checkValues_sound:za prog 131 (zd false [] (FIv fun op l=>int (valsF op l))) :=
 zZ (fn:=f131) goodcv2 ⟨_,func131,by kernel_rfl,rfl,by kernel_rfl⟩ false [] _ fun args r h=>by
  obtain⟨⟨op,l⟩,rfl,hc,rfl⟩:=zg h
  exact⟨by simp[f131],_,checkValues_eval op l hc,zY _⟩
noncomputable def patF (op:Int) (s:List UInt8):Int:=if (500:Int)<s.length then 2 else if qH 32 126 s=true then (if op=11 then (vw s).2 else 0) else 1
noncomputable def FIs (f:Int→List UInt8→PV):List PV→Option PV:=zM (α:=Int×List UInt8) (fun a=>[int a.1,str a.2]) (fun a=>a.2.length≤lim) (fun a=>f a.1 a.2)
theorem FIs_call (f:Int→List UInt8→PV) (op:Int) (s:List UInt8) (hp:Hp) (nx:Nat) (h:s.length≤lim):zd false [] (FIs f) [int op,str s] hp nx=some (f op s,hp,nx) :=
 zJ rfl (zq (enc:=fun a:Int×List UInt8=>[int a.1,str a.2]) (a:=(op,s)) (fun x y e=>by
  obtain⟨x1,x2⟩:=x;obtain⟨y1,y2⟩:=y
  simp only[List.cons.injEq,and_true] at e
  rw[zG e.1,qa e.2]) h) (.inr (by simp))
noncomputable abbrev Cpt:Ctx:=zN prog [(140,zd false [] (FSP1 rrP))]
theorem goodpt:AM.Good Cpt (fun g=>([]:List Nat).contains g):=zr mixed ⟨readRange_sound,by simp,trivial⟩
theorem checkPattern_eval (op:Int) (s:List UInt8) (h:s.length≤lim):zl Cpt f133 [int op,str s]=some (int (patF op s)):=by
 unfold lim at h
 refine ze rfl ?_
 by_cases h500:(500:Int)<s.length
 ·have hv:patF op s=2:=by unfold patF;rw[if_pos h500]
  simp[h500,hv,f133]
 have hrr:=fun hp nx=>Zd rrP s hp nx (by unfold lim;omega)
 simp only[rrP] at hrr
 have hv:patF op s=if qH 32 126 s=true then (if op=11 then (vw s).2 else 0) else 1:=by unfold patF;rw[if_neg h500]
 simp[h500]
 refine zD (fun k σ hp nx=>σ 0=int op∧σ 1=str s∧σ 12=int s.length∧σ 13=int k∧qH 32 126 s=qH 32 126 (s.drop k)) s.length ⟨by simp,by simp,by simp,by simp,by simp⟩ ?_
 rintro k σ hp nx hk ⟨h0,h1,h12,h13,he⟩
 by_cases hlt:k<s.length
 ·have hw:IntKind.i64.wrap ((k:Int)+1)=(k:Int)+1:=zi (by omega) (by omega)
  rw[vc hlt] at he
  have ho:=pr_out 32 126 s[k]
  simp only[Int.cast_ofNat_Int] at ho
  cases hc:pr 32 126 s[k]
  ·have he:qH 32 126 s=false:=by rw[he,hc];rfl
   rw[he,if_neg (by simp)] at hv
   simp[h0,h1,h12,h13,hlt,hv,ho,hc,f133]
  ·simp[h0,h1,h12,h13,hlt,ho,hc,hw]
   exact⟨hlt,by rw[he,hc];rfl⟩
 ·obtain rfl:k=s.length:=by omega
  have he:qH 32 126 s=true:=by rw[he,List.drop_length];rfl
  rw[he,if_pos rfl] at hv
  by_cases h11:op=11
  ·rw[if_pos h11] at hv
   subst h11
   simp[h0,h1,h12,h13,hrr,hv,f133]
  ·rw[if_neg h11] at hv
   have h11':(op==11)=false:=by simpa using h11
   simp[h0,h1,h12,h13,h11',hv,f133]
theorem checkPattern_sound:za prog 133 (zd false [] (FIs fun op s=>int (patF op s))) :=
 zZ (fn:=f133) goodpt ⟨_,func133,by kernel_rfl,rfl,by kernel_rfl⟩ false [] _ fun args r h=>by
  obtain⟨⟨op,s⟩,rfl,hc,rfl⟩:=zg h
  exact⟨by simp[f133],_,checkPattern_eval op s hc,zY _⟩
def kindC (c:Cnd):Bool:=!inB c.kind 1 5
def opC (c:Cnd):Bool:=c.kind==4&&!inB c.op 1 12
def nameC (c:Cnd):Bool:=(c.kind==4&&!wE c.attr)||(c.kind==5&&!wE c.name)
def patC (c:Cnd):Bool:=c.kind==4&&usesP c.op
noncomputable def xI (c:Cnd):Int:=if (kindC c||opC c)=true then 4 else if formF c=true then 3 else if nameC c=true then 5 else if valsF c.op c.vals=0 then (if patC c=true then patF c.op c.pat else 0) else valsF c.op c.vals
mutual
noncomputable def Cnd.fault:Cnd→Int
 | .mk k a o v p n l=>if xI (.mk k a o v p n l)=0 then faultC l else xI (.mk k a o v p n l)
noncomputable def faultC:List Cnd→Int
 | []=>0
 | c::l=>if c.fault=0 then faultC l else c.fault
end
theorem cfault_eq (c:Cnd):c.fault=if xI c=0 then faultC c.args else xI c:=by cases c;simp only[Cnd.fault];rfl
theorem faultC_drop {l:List Cnd} {k:Nat} (h:k<l.length):faultC (l.drop k)=if l[k].fault=0 then faultC (l.drop (k+1)) else l[k].fault:=by
 rw[List.drop_eq_getElem_cons h,faultC]
noncomputable abbrev Ccp2 (n:Nat):Ctx:=zN prog [(120,zd false [] (FC (fun c=>int c.fault) n)),(117,zd false [] (F3 inB)),(130,GC fun c=>int (if formF c=true then 3 else 0)),(93,zd false [] (FS wE)),
 (131,zd false [] (FIv fun op l=>int (valsF op l))),(132,zd false [] (FIb usesP)),(133,zd false [] (FIs fun op s=>int (patF op s)))]
@[simp] theorem quietcp2a (n:Nat):qE (Ccp2 n) 117:=zW (by rfl) (zf _ _)
@[simp] theorem quietcp2b (n:Nat):qE (Ccp2 n) 93:=zW (by rfl) (zf _ _)
@[simp] theorem quietcp2c (n:Nat):qE (Ccp2 n) 132:=zW (by rfl) (zf _ _)
theorem ccheckPart_eval (n:Nat) (c:Cnd) (h:c.cb≤lim∧c.cb≤n+1):zl (Ccp2 n) f120 [.agg c.enc]=some (int c.fault):=by
 have hcb:=cb_eq c
 have hl1:=jd c.args
 obtain⟨ha,hb⟩:=h
 have hf:=cfault_eq c
 have hfo:=fun hp nx=>GC_call (fun c=>int (if formF c=true then 3 else 0)) c hp nx ha
 have hva:=fun hp nx=>FIv_call (fun op l=>int (valsF op l)) c.op c.vals hp nx (by omega)
 have hpa:=fun hp nx=>FIs_call (fun op s=>int (patF op s)) c.op c.pat hp nx (by omega)
 have hna:c.attr.length≤lim:=by omega
 have hnn:c.name.length≤lim:=by omega
 unfold lim at ha
 refine ze rfl ?_
 have e1:(!inB c.kind 1 5)=kindC c:=rfl
 have e2:(c.kind==4&&!inB c.op 1 12)=opC c:=rfl
 have e3:((c.kind==4&&!wE c.attr)||(c.kind==5&&!wE c.name))=nameC c:=rfl
 have e4:(c.kind==4&&usesP c.op)=patC c:=rfl
 cases c1:kindC c
 case true=>simp[e1,c1,hf,xI,f120]
 cases c2:opC c
 case true=>simp[e1,c1,e2,c2,hf,xI,f120]
 cases c3:formF c
 case true=>simp[e1,c1,e2,c2,hfo,c3,hf,xI,f120]
 cases c4:nameC c
 case true=>simp[e1,c1,e2,c2,hfo,c3,hna,hnn,e3,c4,hf,xI,f120]
 by_cases c5:valsF c.op c.vals=0
 case neg =>
  have c5':(valsF c.op c.vals != 0)=true:=by simpa using c5
  simp[e1,c1,e2,c2,hfo,c3,hna,hnn,e3,c4,hva,c5,c5',hf,xI,f120]
 have hbody:∀(hh:xI c=0),c.fault=faultC c.args:=fun hh=>by rw[hf,if_pos hh]
 cases c6:patC c
 case false =>
  have hh:xI c=0:=by simp[xI,c1,c2,c3,c4,c5,c6]
  have hf':=hbody hh
  simp[e1,c1,e2,c2,hfo,c3,hna,hnn,e3,c4,hva,c5,e4,c6]
  refine zD (fun k σ hp nx=>σ 73=.sl 7 (c.args.map Cnd.enc)∧σ 74=int c.args.length∧σ 75=int k∧faultC c.args=faultC (c.args.drop k)) c.args.length ⟨by simp,by simp,by simp,by simp⟩ ?_
  rintro k σ hp nx hk ⟨h73,h74,h75,he⟩
  by_cases hlt:k<c.args.length
  ·have hm:=xA (List.getElem_mem hlt)
   have hw:IntKind.i64.wrap ((k:Int)+1)=(k:Int)+1:=zi (by omega) (by omega)
   have hcall:=fun hp nx=>FC_call (fun c=>int c.fault) n c.args[k] hp nx ⟨by unfold lim;omega,by omega⟩
   rw[faultC_drop hlt] at he
   by_cases hz:c.args[k].fault=0
   ·rw[if_pos hz] at he
    simp[h73,h74,h75,hlt,hcall,hz,hw]
    exact⟨by omega,he⟩
   ·rw[if_neg hz] at he
    have hz2:(c.args[k].fault != 0)=true:=by simpa using hz
    simp[h73,h74,h75,hlt,hcall,hz2,hf',he,f120]
  ·obtain rfl:k=c.args.length:=by omega
   rw[List.drop_length] at he
   have he:faultC c.args=0:=by rw[he];rfl
   simp[h73,h74,h75,hf',he,f120]
 case true =>
  by_cases c7:patF c.op c.pat=0
  case neg =>
   have c7':(patF c.op c.pat != 0)=true:=by simpa using c7
   simp[e1,c1,e2,c2,hfo,c3,hna,hnn,e3,c4,hva,c5,e4,c6,hpa,c7,c7',hf,xI,f120]
  have hh:xI c=0:=by simp[xI,c1,c2,c3,c4,c5,c6,c7]
  have hf':=hbody hh
  simp[e1,c1,e2,c2,hfo,c3,hna,hnn,e3,c4,hva,c5,e4,c6,hpa,c7]
  refine zD (fun k σ hp nx=>σ 73=.sl 7 (c.args.map Cnd.enc)∧σ 74=int c.args.length∧σ 75=int k∧faultC c.args=faultC (c.args.drop k)) c.args.length ⟨by simp,by simp,by simp,by simp⟩ ?_
  rintro k σ hp nx hk ⟨h73,h74,h75,he⟩
  by_cases hlt:k<c.args.length
  ·have hm:=xA (List.getElem_mem hlt)
   have hw:IntKind.i64.wrap ((k:Int)+1)=(k:Int)+1:=zi (by omega) (by omega)
   have hcall:=fun hp nx=>FC_call (fun c=>int c.fault) n c.args[k] hp nx ⟨by unfold lim;omega,by omega⟩
   rw[faultC_drop hlt] at he
   by_cases hz:c.args[k].fault=0
   ·rw[if_pos hz] at he
    simp[h73,h74,h75,hlt,hcall,hz,hw]
    exact⟨by omega,he⟩
   ·rw[if_neg hz] at he
    have hz2:(c.args[k].fault != 0)=true:=by simpa using hz
    simp[h73,h74,h75,hlt,hcall,hz2,hf',he,f120]
  ·obtain rfl:k=c.args.length:=by omega
   rw[List.drop_length] at he
   have he:faultC c.args=0:=by rw[he];rfl
   simp[h73,h74,h75,hf',he,f120]
set_option maxRecDepth 100000 in
theorem ccheckPart_sound:∀n,za prog 120 (zd false [] (FC (fun c=>int c.fault) n)):=by
 intro n
 induction n with
 | zero=>exact FC_zero ⟨_,func120,by kernel_rfl,by kernel_rfl⟩
 | succ n ih =>
   have hg:AM.Good (Ccp2 n) (fun g=>[117,93,132].contains g):=zr mixed ⟨ih,by simp,jH,fun _=>zf _ _,checkForm_sound,by simp,vd,fun _=>zf _ _,checkValues_sound,by simp,usesP_sound,fun _=>zf _ _,checkPattern_sound,by simp,trivial⟩
   exact zZ (fn:=f120) hg ⟨_,func120,by kernel_rfl,rfl,by kernel_rfl⟩ false [] _ fun args r h=>by
    obtain⟨c,rfl,hc,rfl⟩:=FC_inv h
    exact⟨Nat.le_trans (Nat.le_refl 1) (by decide),_,ccheckPart_eval n c hc,zY _⟩
noncomputable def Cnd.check (c:Cnd):Int:=if (decide ((200:Int)<c.parts)||decide ((20:Int)<c.levels))=true then 2 else c.fault
noncomputable abbrev Ccch:Ctx:=zN prog [(120,GC fun c=>int c.fault),(119,GC fun c=>.tup [int c.parts,int c.levels])]
theorem ccheck_sound:za prog 94 (GC fun c=>int c.check) :=
 zZ (fn:=f94) (zr (q:=[]) mixed ⟨ccheckPart_sound lim,by simp,measure_sound lim,by simp,trivial⟩:AM.Good Ccch _) ⟨_,func94,by kernel_rfl,rfl,by kernel_rfl⟩ false [] _ fun args r h=>by
  obtain⟨c,rfl,hc,rfl⟩:=FC_inv h
  have h1:=fun hp nx=>GC_call (fun c=>int c.fault) c hp nx hc.1
  have h2:=fun hp nx=>GC_call (fun c=>.tup [int c.parts,int c.levels]) c hp nx hc.1
  refine⟨by simp[f94],_,ze rfl ?_,zY _⟩
  cases hk:(decide ((200:Int)<c.parts)||decide ((20:Int)<c.levels))
  ·simp[h1,h2,hk,f94,Cnd.check]
  ·simp[h1,h2,hk,f94,Cnd.check]
end Go.Proofs.YtglppmnehgjolaaGreatDoor
namespace Go.SpanLaw
abbrev Sp:=Int×Int
def wy:Int→List Sp→Prop
 | _,[]=>True
 | lo,s::l=>lo<s.1∧s.1<s.2∧wy s.2 l
def mem (l:List Sp) (k:Int):Prop:=∃s∈l,s.1≤k∧k<s.2
theorem mem_nil (k:Int):¬mem [] k:=by simp[mem]
theorem mem_cons (s:Sp) (l:List Sp) (k:Int):mem (s::l) k↔(s.1≤k∧k<s.2)∨mem l k:=by simp[mem]
theorem mem_one (f t k:Int):mem [(f,t)] k↔f≤k∧k<t:=by simp[mem]
theorem mem_append (l m:List Sp) (k:Int):mem (l++m) k↔mem l k∨mem m k:=by simp[mem,or_and_right,exists_or]
theorem yG:∀{lo:Int} {l:List Sp},wy lo l→∀{k:Int},mem l k→lo<k
 | _,[],_,k,h=>absurd h (mem_nil k)
 | lo,s::l,hc,k,h=>by
   rcases (mem_cons s l k).1 h with h | h
   ·have:=hc.1;omega
   ·have:=yG hc.2.2 h
    have:=hc.1;have:=hc.2.1;omega
theorem canon_lo {lo lo':Int} {l:List Sp} (h:wy lo l) (hl:lo'≤lo):wy lo' l:=by
 cases l with
 | nil=>trivial
 | cons s l=>exact⟨by have:=h.1;omega,h.2⟩
theorem canon_eq:∀{lo:Int} {l m:List Sp},wy lo l→wy lo m→(∀k,mem l k↔mem m k)→l=m
 | _,[],[],_,_,_=>rfl
 | _,[],s::m,_,hm,h=>by
   exfalso
   have:=(h s.1).2 ((mem_cons s m s.1).2 (.inl ⟨Int.le_refl _,hm.2.1⟩))
   exact mem_nil _ this
 | _,s::l,[],hl,_,h=>by
   exfalso
   have:=(h s.1).1 ((mem_cons s l s.1).2 (.inl ⟨Int.le_refl _,hl.2.1⟩))
   exact mem_nil _ this
 | lo,s::l,r::m,hl,hm,h=>by
   have low:∀{x:Sp} {q:List Sp},wy lo (x::q)→∀{k},mem (x::q) k→x.1≤k:=fun {x q} hc {k} hk=>by
    rcases (mem_cons x q k).1 hk with g | g
    ·exact g.1
    ·have:=yG hc.2.2 g;have:=hc.2.1;omega
   have h1:s.1=r.1:=by
    have a:=low hm ((h s.1).1 ((mem_cons s l s.1).2 (.inl ⟨Int.le_refl _,hl.2.1⟩)))
    have b:=low hl ((h r.1).2 ((mem_cons r m r.1).2 (.inl ⟨Int.le_refl _,hm.2.1⟩)))
    omega
   have high:∀{x:Sp} {q:List Sp},wy lo (x::q)→¬mem (x::q) x.2:=fun {x q} hc hk=>by
    rcases (mem_cons x q x.2).1 hk with g | g
    ·omega
    ·have:=yG hc.2.2 g;omega
   have h2:s.2=r.2:=by
    rcases Int.lt_trichotomy s.2 r.2 with g | g | g
    ·exact absurd ((h s.2).2 ((mem_cons r m s.2).2 (.inl ⟨by have:=hl.2.1;omega,g⟩))) (high hl)
    ·exact g
    ·exact absurd ((h r.2).1 ((mem_cons s l r.2).2 (.inl ⟨by have:=hm.2.1;omega,g⟩))) (high hm)
   have h3:s=r:=Prod.ext h1 h2
   subst h3
   rw[canon_eq hl.2.2 hm.2.2 fun k=>?_]
   have hk:=h k
   rw[mem_cons,mem_cons] at hk
   constructor
   ·intro g
    have:=yG hl.2.2 g
    rcases hk.1 (.inr g) with g' | g'
    ·omega
    ·exact g'
   ·intro g
    have:=yG hm.2.2 g
    rcases hk.2 (.inr g) with g' | g'
    ·omega
    ·exact g'
def tog:Sp→List Sp→List Sp
 | c,[]=>[c]
 | c,s::l=>if s.1≤c.2 then tog (c.1,max c.2 s.2) l else c::tog s l
def togL:List Sp→List Sp
 | []=>[]
 | s::l=>tog s l
def xp:Int→List Sp→Prop
 | _,[]=>True
 | lo,s::l=>lo≤s.1∧s.1<s.2∧xp s.1 l
theorem sorted_lo {lo lo':Int} {l:List Sp} (h:xp lo l) (hl:lo'≤lo):xp lo' l:=by
 cases l with
 | nil=>trivial
 | cons s l=>exact⟨by have:=h.1;omega,h.2⟩
theorem tog_canon:∀{lo:Int} {c:Sp} {l:List Sp},lo<c.1→c.1<c.2→xp c.1 l→wy lo (tog c l)
 | lo,c,[],h1,h2,_=>⟨h1,h2,trivial⟩
 | lo,c,s::l,h1,h2,h3=>by
   unfold tog
   split
   ·exact tog_canon h1 (by show c.1<max c.2 s.2;omega) (sorted_lo h3.2.2 h3.1)
   ·exact⟨h1,h2,tog_canon (by omega) h3.2.1 h3.2.2⟩
theorem tog_mem:∀{c:Sp} {l:List Sp},c.1<c.2→xp c.1 l→∀k,mem (tog c l) k↔(c.1≤k∧k<c.2)∨mem l k
 | c,[],_,_,k=>by simp[tog,mem]
 | c,s::l,h2,h3,k=>by
   unfold tog
   split
   ·rw[tog_mem (c:=(c.1,max c.2 s.2)) (by show c.1<max c.2 s.2;omega) (sorted_lo h3.2.2 h3.1) k,mem_cons]
    have:=h3.1;have:=h3.2.1
    show (c.1≤k∧k<max c.2 s.2)∨mem l k↔_
    constructor
    ·rintro (h | h)
     ·by_cases hk:k<c.2
      ·exact .inl ⟨h.1,hk⟩
      ·exact .inr (.inl ⟨by omega,by omega⟩)
     ·exact .inr (.inr h)
    ·rintro (h | h | h)
     ·exact .inl ⟨h.1,by omega⟩
     ·exact .inl ⟨by omega,by omega⟩
     ·exact .inr h
   ·rw[mem_cons,tog_mem h3.2.1 h3.2.2 k,mem_cons]
theorem togL_canon {lo:Int} {l:List Sp} (h:xp (lo+1) l):wy lo (togL l):=by
 cases l with
 | nil=>trivial
 | cons s l=>exact tog_canon (by have:=h.1;omega) h.2.1 h.2.2
theorem togL_mem {lo:Int} {l:List Sp} (h:xp lo l) (k:Int):mem (togL l) k↔mem l k:=by
 cases l with
 | nil=>exact Iff.rfl
 | cons s l=>rw[mem_cons];exact tog_mem h.2.1 h.2.2 k
def jw (from_ to:Int):List Sp→List Sp
 | []=>if from_<to then [(from_,to)] else []
 | b::l=>if b.1<to then (if from_<b.1 then (from_,b.1)::jw (max from_ b.2) to l else jw (max from_ b.2) to l) else if from_<to then [(from_,to)] else []
def skip (x:Int):List Sp→List Sp
 | []=>[]
 | b::l=>if b.2≤x then skip x l else b::l
def mins:List Sp→List Sp→List Sp
 | [],_=>[]
 | s::a,b=>jw s.1 s.2 (skip s.1 b)++mins a (skip s.1 b)
theorem ki:∀{lo x:Int} {b:List Sp},wy lo b→wy lo (skip x b)
 | _,_,[],_=>trivial
 | lo,x,s::b,h=>by
   unfold skip
   split
   ·exact ki (canon_lo h.2.2 (by have:=h.1;have:=h.2.1;omega))
   ·exact h
theorem skip_mem:∀{x:Int} {b:List Sp} {k:Int},x≤k→(mem (skip x b) k↔mem b k)
 | _,[],_,_=>Iff.rfl
 | x,s::b,k,h=>by
   unfold skip
   split
   ·rw[skip_mem h,mem_cons]
    constructor
    ·exact .inr
    ·rintro (g | g)
     ·omega
     ·exact g
   ·exact Iff.rfl
theorem piece_mem:∀{lo f t:Int} {b:List Sp} {k:Int},wy lo b→(mem (jw f t b) k↔f≤k∧k<t∧¬mem b k)
 | _,f,t,[],k,_=>by
   unfold jw
   split
   ·simp[mem]
   ·simp[mem];omega
 | lo,f,t,s::b,k,h=>by
   have hs:=h.2.1
   have hb:mem b k→s.2<k:=fun g=>yG h.2.2 g
   have ih:=@piece_mem s.2 (max f s.2) t b k h.2.2
   have m1:f≤max f s.2:=Int.le_max_left _ _
   have m2:s.2≤max f s.2:=Int.le_max_right _ _
   have m3:max f s.2=f∨max f s.2=s.2:=by omega
   rw[mem_cons]
   unfold jw
   generalize max f s.2=m at ih m1 m2 m3 ⊢
   split
   ·split
    ·rw[mem_cons,ih]
     show (f≤k∧k<s.1)∨_↔_
     by_cases g:mem b k
     ·have:=hb g;simp only[g,not_true_eq_false,and_false,or_true,or_false,iff_false];omega
     ·simp only[g,not_false_eq_true,and_true,or_false];omega
    ·rw[ih]
     by_cases g:mem b k
     ·simp only[g,not_true_eq_false,and_false,or_true]
     ·simp only[g,not_false_eq_true,and_true,or_false];omega
   ·split
    ·rw[mem_one]
     by_cases g:mem b k
     ·have:=hb g;simp only[g,or_true,not_true_eq_false,and_false,iff_false];omega
     ·simp only[g,or_false];omega
    ·constructor
     ·intro g;exact absurd g (mem_nil k)
     ·intro g;omega
def Below (hi:Int) (l:List Sp):Prop:=∀s∈l,s.2≤hi
theorem canon_append:∀{lo hi:Int} {l m:List Sp},wy lo l→lo≤hi→Below hi l→wy hi m→wy lo (l++m)
 | _,_,[],m,_,hh,_,hm=>canon_lo hm hh
 | lo,hi,s::l,m,hl,hh,hb,hm=>⟨hl.1,hl.2.1,canon_append hl.2.2 (hb s (by simp)) (fun x hx=>hb x (by simp[hx])) hm⟩
theorem xJ:∀{lo blo f t:Int} {b:List Sp},wy blo b→lo<f→wy lo (jw f t b)∧Below t (jw f t b)
 | lo,_,f,t,[],_,hf=>by
   unfold jw
   split
   ·rename_i h;exact⟨⟨hf,h,trivial⟩,fun s hs=>by simp at hs;subst hs;exact Int.le_refl _⟩
   ·exact⟨trivial,fun s hs=>by cases hs⟩
 | lo,blo,f,t,s::b,h,hf=>by
   have hs:=h.2.1
   unfold jw
   split
   ·rename_i h1
    split
    ·rename_i h2
     obtain⟨g1,g2⟩:=@xJ s.1 s.2 (max f s.2) t b h.2.2 (by omega)
     exact⟨⟨hf,h2,g1⟩,fun x hx=>by
      rcases List.mem_cons.1 hx with rfl | hx
      ·show s.1≤t;omega
      ·exact g2 x hx⟩
    ·exact @xJ lo s.2 (max f s.2) t b h.2.2 (by omega)
   ·split
    ·rename_i h;exact⟨⟨hf,h,trivial⟩,fun s hs=>by simp at hs;subst hs;exact Int.le_refl _⟩
    ·exact⟨trivial,fun s hs=>by cases hs⟩
theorem mins_mem:∀{lo blo:Int} {a b:List Sp} {k:Int},wy lo a→wy blo b→(mem (mins a b) k↔mem a k∧¬mem b k)
 | _,_,[],b,k,_,_=>by simp[mins,mem]
 | lo,blo,s::a,b,k,ha,hb=>by
   have hs:=ha.2.1
   rw[mins,mem_append,piece_mem (ki hb),mins_mem ha.2.2 (ki hb),mem_cons]
   have hk:mem a k→s.2<k:=fun g=>yG ha.2.2 g
   by_cases g:s.1≤k
   ·rw[skip_mem g]
    by_cases g1:mem a k<;>by_cases g2:mem b k<;>simp[g1,g2]
   ·have g1:¬mem a k:=fun h=>by have:=hk h;omega
    simp only[g1,or_false,false_and]
    constructor
    ·intro h;omega
    ·intro h;omega
theorem jf:∀{lo blo:Int} {a b:List Sp},wy lo a→wy blo b→wy lo (mins a b)
 | _,_,[],_,_,_=>trivial
 | lo,blo,s::a,b,ha,hb=>by
   have hs:=ha.2.1
   obtain⟨g1,g2⟩:=xJ (lo:=lo) (t:=s.2) (ki (x:=s.1) hb) ha.1
   exact canon_append g1 (by have:=ha.1;omega) g2 (jf ha.2.2 (ki hb))
structure Swept (op:Int→Prop) (at_:Int) (out:List Sp):Prop where
 canon:wy (-1) out
 below:Below at_ out
 holds:∀k,mem out k↔0≤k∧k<at_∧op k
def wL:List Sp→Int
 | []=>0
 | s::l=>(s.2 - s.1)+wL l
end Go.SpanLaw
namespace Go.Proofs.YtglppmnehgjolaaGreatDoor
open Go.Proofs.Tryz
open Go.RowKit Go.AM Go.SpanLaw
abbrev encS (s:Sp):List PV:=[int s.1,int s.2]
theorem encS_inj {a b:Sp} (h:encS a=encS b):a=b:=by
 simp only[List.cons.injEq,and_true,PV.v.injEq,Value.int.injEq,true_and] at h
 exact Prod.ext h.1 h.2
theorem wM {a b:List Sp} (h:PV.sl 2 (a.map encS)=PV.sl 2 (b.map encS)):a=b:=by
 injection h with _ h
 exact qZ (fun _ _=>encS_inj) h
def spR (s:Sp):Bool:=!inB s.1 0 99999||decide ((100000:Int)<s.2)
def spO (p:Option Int) (s:Sp):Bool:=decide (s.2≤s.1)||(match p with
 | none=>false
 | some q=>decide (s.1≤q))
def spF:Option Int→List Sp→Int
 | _,[]=>0
 | p,s::l=>if spR s then 1 else if spO p s then 8 else spF (some s.2) l
theorem spF_drop {l:List Sp} {k:Nat} (h:k<l.length) (p:Option Int):spF p (l.drop k)=if spR l[k] then 1 else if spO p l[k] then 8 else spF (some l[k].2) (l.drop (k+1)):=by
 rw[List.drop_eq_getElem_cons h,spF]
def prevS (l:List Sp) (k:Nat):Option Int:=if k=0 then none else (l[k - 1]?).map (·.2)
def zL (l:List Sp):Int:=if (100:Int)<l.length then 2 else spF none l
theorem ww:za prog 13 (zd false [] (F3 inB)) :=
 zZ (fn:=f13) q7 ⟨_,func13,by kernel_rfl,rfl,by kernel_rfl⟩ false [] _ fun args r h=>by
  obtain⟨a,b,c,rfl,rfl⟩:=F3_inv h
  exact⟨by simp[f13],_,ze rfl (by simp[f13,inB]),zY _⟩
noncomputable abbrev Cwl:Ctx:=zN prog [(13,zd false [] (F3 inB))]
theorem checkSpans_eval (l:List Sp):zl Cwl f27 [.sl 2 (l.map encS)]=some (int (zL l)):=by
 refine ze rfl ?_
 rw[zL]
 by_cases c2:(100:Int)<l.length
 ·simp[c2,f27]
 simp[c2]
 refine zD (fun k σ hp nx=>σ 0=.sl 2 (l.map encS)∧σ 8=.sl 2 (l.map encS)∧σ 9=int l.length∧σ 10=int k∧spF none l=spF (prevS l k) (l.drop k)) l.length
  ⟨by simp,by simp,by simp,by simp,by simp[prevS]⟩ ?_
 rintro k σ hp nx hk ⟨h0,h8,h9,h10,hf⟩
 by_cases hlt:k<l.length
 ·have hw:IntKind.i64.wrap ((k:Int)+1)=(k:Int)+1:=zi (by omega) (by omega)
  have en:(!inB l[k].1 0 99999||decide ((100000:Int)<l[k].2))=spR l[k]:=rfl
  rw[spF_drop hlt] at hf
  cases d1:spR l[k]
  case true =>
   rw[d1] at en hf
   simp[h0,h8,h9,h10,hlt,en,hf,f27]
  rw[d1] at en
  simp only[d1,Bool.false_eq_true,if_false] at hf
  have hpv:prevS l (k+1)=some l[k].2:=by simp[prevS,hlt]
  by_cases k0:k=0
  ·subst k0
   simp only[prevS,if_true,spO,Bool.or_false] at hf
   by_cases d2:l[0].2≤l[0].1
   ·simp only[d2,decide_true,if_true] at hf
    simp[h0,h8,h9,h10,hlt,en,d2,hf,f27]
   ·simp only[d2,decide_false,Bool.false_eq_true,if_false] at hf
    have w1:IntKind.i64.wrap 1=1:=zi (by omega) (by omega)
    simp[h0,h8,h9,h10,hlt,en,d2,w1]
    and_intros<;>first | omega | (rw[hf];rw[hpv];done) | (rw[hf];rw[hpv];simp)
  ·obtain⟨j,rfl⟩:∃j,k=j+1:=⟨k - 1,by omega⟩
   have hj:j<l.length:=by omega
   have wj:IntKind.i64.wrap ((j:Int)+1 - 1)=(j:Int):=by rw[zi (by omega) (by omega)];omega
   have wj':IntKind.i64.wrap (j:Int)=(j:Int):=zi (by omega) (by omega)
   have j1:((j:Int)+1).toNat=j+1:=by omega
   have j2:0<(j:Int)+1:=by omega
   have j3:0≤(j:Int)+1:=by omega
   have j4:(j:Int)+1<l.length:=by omega
   have wk:IntKind.i64.wrap ((j:Int)+1+1)=(j:Int)+1+1:=zi (by omega) (by omega)
   have hpj:prevS l (j+1)=some l[j].2:=by simp[prevS,hj]
   have eo:(decide (l[j+1].2≤l[j+1].1)||decide (l[j+1].1≤l[j].2))=spO (some l[j].2) l[j+1]:=rfl
   rw[hpj] at hf
   cases d2:spO (some l[j].2) l[j+1]
   ·rw[d2] at eo
    simp only[d2,Bool.false_eq_true,if_false] at hf
    simp[h0,h8,h9,h10,hlt,hj,en,wj,wj',j1,j2,j3,j4,eo,wk]
    and_intros<;>first | omega | (rw[hf];rw[hpv])
   ·rw[d2] at eo
    simp only[d2,if_true] at hf
    simp[h0,h8,h9,h10,hlt,hj,en,wj,wj',j1,j2,j3,j4,eo,hf,f27]
 ·obtain rfl:k=l.length:=by omega
  rw[List.drop_length] at hf
  have hf:spF none l=0:=by rw[hf];rfl
  simp[h0,h8,h9,h10,hf,f27]
noncomputable def FP (out:List Sp→PV) (pre:List Sp→Prop):List PV→Option PV:=zM (α:=List Sp) (fun l=>[.sl 2 (l.map encS)]) pre out
theorem yy (out:List Sp→PV) (pre:List Sp→Prop) (l:List Sp) (hp:Hp) (nx:Nat) (h:pre l):zd false [] (FP out pre) [.sl 2 (l.map encS)] hp nx=some (out l,hp,nx) :=
 zJ rfl (zq (enc:=fun l:List Sp=>[PV.sl 2 (l.map encS)]) (a:=l) (fun a b e=>by simp only[List.cons.injEq,and_true] at e;exact wM e) h) (.inr rfl)
theorem yM:za prog 27 (zd false [] (FP (fun l=>int (zL l)) fun _=>True)) :=
 zZ (fn:=f27) (zr (q:=[13]) mixed ⟨ww,fun _=>zf _ _,trivial⟩:AM.Good Cwl _) ⟨_,func27,by kernel_rfl,rfl,by kernel_rfl⟩ false [] _ fun args r h=>by
  obtain⟨l,rfl,_,rfl⟩:=zg h
  exact⟨Nat.le_trans (Nat.le_refl 1) (by decide),_,checkSpans_eval l,zY _⟩
theorem spF_right:∀{l:List Sp} {p:Option Int},spF p l=0→wy (p.getD (-1)) l∧Below 100000 l∧∀s∈l,0≤s.1
 | [],_,_=>⟨trivial,fun s hs=>absurd hs (by simp),fun s hs=>absurd hs (by simp)⟩
 | s::l,p,h=>by
   simp only[spF] at h
   split at h
   ·cases h
   split at h
   ·cases h
   rename_i h1 h2
   obtain⟨g1,g2,g3⟩:=spF_right h
   simp only[spR,inB,Bool.or_eq_true,Bool.not_eq_true',Bool.and_eq_false_iff,decide_eq_false_iff_not,decide_eq_true_eq,not_or] at h1
   simp only[spO,Bool.or_eq_true,decide_eq_true_eq,not_or] at h2
   refine⟨⟨?_,by omega,g1⟩,fun x hx=>?_,fun x hx=>?_⟩
   ·cases p with
    | none=>show -1<s.1;omega
    | some q=>have:=h2.2;simp at this;exact this
   ·rcases List.mem_cons.1 hx with rfl | hx
    ·omega
    ·exact g2 x hx
   ·rcases List.mem_cons.1 hx with rfl | hx
    ·omega
    ·exact g3 x hx
theorem qu {l:List Sp} (h:zL l=0):wy (-1) l∧Below 100000 l∧(∀s∈l,0≤s.1)∧l.length≤100:=by
 unfold zL at h
 split at h
 ·cases h
 ·obtain⟨g1,g2,g3⟩:=spF_right h
  exact⟨g1,g2,g3,by omega⟩
def okS (b:List Sp):Prop:=wy (-1) b∧Below 100000 b∧(∀s∈b,0≤s.1)∧b.length≤100000
theorem okS_of {b:List Sp} (h:zL b=0):okS b:=by
 obtain⟨h1,h2,h3,h4⟩:=qu h
 exact⟨h1,h2,h3,by omega⟩
theorem size_drop {l:List Sp} {k:Nat} (h:k<l.length):wL (l.drop k)=(l[k].2 - l[k].1)+wL (l.drop (k+1)):=by
 rw[List.drop_eq_getElem_cons h,wL]
theorem wN:∀{lo:Int} {l:List Sp},wy lo l→∀s∈l,s.1<s.2
 | _,r::l,h,s,hs=>by
   rcases List.mem_cons.1 hs with rfl | hs
   ·exact h.2.1
   ·exact wN h.2.2 s hs
theorem size_eval (l:List Sp) (h:okS l):zl C0 f16 [.sl 2 (l.map encS)]=some (int (wL l)):=by
 obtain⟨hc,hb,hp0,hl⟩:=h
 refine ze rfl ?_
 simp
 refine zD (fun k σ hp nx=>σ 6=.sl 2 (l.map encS)∧σ 7=int l.length∧σ 8=int k∧∃acc:Int,σ 3=int acc∧acc+wL (l.drop k)=wL l∧0≤acc∧acc≤100000*k) l.length
  ⟨by simp,by simp,by simp,0,by simp,by simp,by simp,by simp⟩ ?_
 rintro k σ hp nx hk ⟨h6,h7,h8,acc,h3,ha,ha0,ha1⟩
 by_cases hlt:k<l.length
 ·have hw:IntKind.i64.wrap ((k:Int)+1)=(k:Int)+1:=zi (by omega) (by omega)
  have hm:=List.getElem_mem hlt
  have b1:=hb _ hm
  have b2:=hp0 _ hm
  have b3:=wN hc _ hm
  have w1:IntKind.i64.wrap (l[k].2 - l[k].1)=l[k].2 - l[k].1:=zi (by omega) (by omega)
  have w2:IntKind.i64.wrap (acc+(l[k].2 - l[k].1))=acc+(l[k].2 - l[k].1):=zi (by omega) (by omega)
  rw[size_drop hlt] at ha
  simp[h3,h6,h7,h8,hlt,hw,w1,w2]
  omega
 ·obtain rfl:k=l.length:=by omega
  rw[List.drop_length,wL] at ha
  have ha:acc=wL l:=by omega
  simp[h3,h6,h7,h8,ha,f16]
theorem size_sound:za prog 16 (zd false [] (FP (fun l=>int (wL l)) fun l=>okS l)) :=
 zZ (fn:=f16) q7 ⟨_,func16,by kernel_rfl,rfl,by kernel_rfl⟩ false [] _ fun args r h=>by
  obtain⟨l,rfl,hl,rfl⟩:=zg h
  exact⟨Nat.le_trans (Nat.le_refl 1) (by decide),_,size_eval l hl,zY _⟩
def sizeR (l:List Sp):Int×Int:=if zL l=0 then (wL l,0) else (0,zL l)
def twoI (r:Int×Int):PV:=.tup [int r.1,int r.2]
noncomputable abbrev Csz:Ctx:=zN prog [(27,zd false [] (FP (fun l=>int (zL l)) fun _=>True)),(16,zd false [] (FP (fun l=>int (wL l)) fun l=>okS l))]
theorem Size_eval (l:List Sp):zl Csz Tryz.f6 [.sl 2 (l.map encS)]=some (twoI (sizeR l)):=by
 have c1:=fun hp nx=>yy (fun l=>int (zL l)) (fun _=>True) l hp nx trivial
 refine ze rfl ?_
 unfold sizeR
 by_cases hf:zL l=0
 ·have c2:=fun hp nx=>yy (fun l=>int (wL l)) (fun l=>okS l) l hp nx (okS_of hf)
  simp[c1,c2,hf,twoI,qC,Tryz.f6]
 ·have hf':(zL l != 0)=true:=by simpa using hf
  simp[c1,hf,hf',twoI,qC,Tryz.f6]
theorem Size_sound:za prog 6 (zd false [] (FP (fun l=>twoI (sizeR l)) fun _=>True)) :=
 zZ (fn:=Tryz.f6) (zr (q:=[]) mixed ⟨yM,by simp,size_sound,by simp,trivial⟩:AM.Good Csz _) ⟨_,func6,by kernel_rfl,rfl,by kernel_rfl⟩ false [] _ fun args r h=>by
  obtain⟨l,rfl,_,rfl⟩:=zg h
  exact⟨Nat.le_trans (Nat.le_refl 1) (by decide),_,Size_eval l,zY _⟩
def qp:List Sp→Int→List Sp
 | [],_=>[]
 | s::l,n=>if n=0 then [] else (s.1,s.1+min n (s.2 - s.1))::qp l (n - min n (s.2 - s.1))
theorem firstL_drop {l:List Sp} {k:Nat} (h:k<l.length) (n:Int):qp (l.drop k) n=if n=0 then [] else (l[k].1,l[k].1+min n (l[k].2 - l[k].1))::qp (l.drop (k+1)) (n - min n (l[k].2 - l[k].1)):=by
 rw[List.drop_eq_getElem_cons h,qp]
theorem first_eval (l:List Sp) (n:Int) (h:okS l) (hn:0≤n∧n≤100000):∃r0,zl C0 f18 [.sl 2 (l.map encS),int n]=some r0∧Stands r0 (.sl 2 ((qp l n).map encS)):=by
 obtain⟨hc,hb,hp0,hl⟩:=h
 have hfin:∀{code},f18.body=some code→EvC C0 code ⟨yD [.sl 2 (l.map encS),int n],fun _=>none,0⟩ (retK C0.P f18 (pureN (.sl 2 ((qp l n).map encS))))→∃r0,zl C0 f18 [.sl 2 (l.map encS),int n]=some r0∧Stands r0 (.sl 2 ((qp l n).map encS)):=by
  intro code hb h
  obtain⟨r0,h1,h2⟩:=jG hb h
  exact⟨r0,h1,fun w S u hr=>up_rep hr h2⟩
 refine hfin rfl ?_
 simp
 refine zD (fun k σ hp nx=>σ 9=.sl 2 (l.map encS)∧σ 10=int l.length∧σ 11=int k∧∃(m:Int) (d:List Sp),σ 1=int m∧OwnS hp nx 67 2 (σ 5) (d.map encS)∧d++qp (l.drop k) m=qp l n∧0≤m∧m≤100000∧d.length≤k) l.length
  ⟨by simp,by simp,by simp,n,[],by simp,.inl (by simp),by simp,hn.1,hn.2,by simp⟩ ?_
 rintro k σ hp nx hk ⟨h9,h10,h11,m,d,h1,hO,hd,hm0,hm1,hdl⟩
 by_cases hlt:k<l.length
 ·have hw:IntKind.i64.wrap ((k:Int)+1)=(k:Int)+1:=zi (by omega) (by omega)
  have hmm:=List.getElem_mem hlt
  have b1:=hb _ hmm
  have b2:=hp0 _ hmm
  have b3:=wN hc _ hmm
  rw[firstL_drop hlt] at hd
  have hO1:=hO.more (some ⟨67,2,false,[encS l[k]]⟩)
  by_cases hz:m=0
  ·subst hz
   rw[if_pos rfl,List.append_nil] at hd
   rw[hd] at hO1
   have:=hO1.freeze (nx+1)
   simp[h1,h9,h10,h11,hlt,f18]
   exact this
  ·rw[if_neg hz] at hd
   have hz':(m==0)=false:=by simpa using hz
   have w1:IntKind.i64.wrap (l[k].2 - l[k].1)=l[k].2 - l[k].1:=zi (by omega) (by omega)
   obtain⟨tk,htk⟩:∃tk,tk=min m (l[k].2 - l[k].1):=⟨_,rfl⟩
   have ht0:0≤tk∧tk≤m∧tk≤100000:=by omega
   have w2:IntKind.i64.wrap (l[k].1+tk)=l[k].1+tk:=zi (by omega) (by omega)
   have w3:IntKind.i64.wrap (m - tk)=m - tk:=zi (by omega) (by omega)
   rw[←htk] at hd
   have htk':(if l[k].2 - l[k].1<m then l[k].2 - l[k].1 else m)=tk:=by split<;>omega
   have hap:=hO1.append1 (P:=prog) (t:=38) (c:=encS (l[k].1,l[k].1+tk)) el38 sz67 by67 ze67 rfl (by omega) (by rw[List.length_map];unfold maxLen;omega) (by rw[List.length_map];omega)
   have hbs:∀hp nx,zh prog hp nx 38 1 [(0,.agg (encS (l[k].1,l[k].1+tk)))]=some (.own nx 0 1,upd hp nx (some ⟨67,2,true,[encS (l[k].1,l[k].1+tk)]⟩),nx+1):=fun hp nx=>by
    simp[zh,zt,zj]
   simp only[encS] at hap hbs
   simp[h1,h9,h10,h11,hlt,hz',w1,htk',w2,w3,hw,zI,zX,hbs,hap]
   refine⟨hlt,d++[(l[k].1,l[k].1+tk)],?_,by rw[List.append_assoc];exact hd,ht0.2.1,by omega,by simp;omega⟩
   rw[List.map_append,List.map_singleton]
   exact .inr ⟨nx+1+1,by omega,by simp,by simp⟩
 ·obtain rfl:k=l.length:=by omega
  rw[List.drop_length,qp,List.append_nil] at hd
  rw[hd] at hO
  have:=hO.freeze nx
  simp[h1,h9,h10,h11,f18]
  exact this
theorem firstL_zero (l:List Sp):qp l 0=[]:=by cases l<;>simp[qp]
noncomputable def FPN (out:List Sp→Int→PV) (pre:List Sp→Int→Prop):List PV→Option PV:=zM (α:=List Sp×Int) (fun a=>[.sl 2 (a.1.map encS),int a.2]) (fun a=>pre a.1 a.2) (fun a=>out a.1 a.2)
theorem FPN_call (out:List Sp→Int→PV) (pre:List Sp→Int→Prop) (l:List Sp) (n:Int) (hp:Hp) (nx:Nat) (h:pre l n):zd false [] (FPN out pre) [.sl 2 (l.map encS),int n] hp nx=some (out l n,hp,nx) :=
 zJ rfl (zq (enc:=fun a:List Sp×Int=>[PV.sl 2 (a.1.map encS),int a.2]) (a:=(l,n)) (fun a b e=>by
  obtain⟨a1,a2⟩:=a;obtain⟨b1,b2⟩:=b
  simp only[List.cons.injEq,and_true] at e
  obtain⟨e1,e2⟩:=e
  injection e2 with e2
  injection e2 with _ e2
  rw[wM e1,e2]) h) (.inr rfl)
theorem first_sound:za prog 18 (zd false [] (FPN (fun l n=>.sl 2 ((qp l n).map encS)) fun l n=>okS l∧0≤n∧n≤100000)) :=
 yK (fn:=f18) q7 ⟨_,func18,by kernel_rfl,rfl,by kernel_rfl⟩ false [] _ fun args r h w S vs hz=>by
  obtain⟨⟨l,n⟩,rfl,hx,rfl⟩:=zg h
  obtain⟨r0,h1,h2⟩:=first_eval l n hx.1 hx.2
  exact⟨_,r0,hz,Nat.le_trans (Nat.le_refl 2) (by decide),h1,h2⟩
def yz (r:List Sp×Int):PV:=.tup [.sl 2 (r.1.map encS),int r.2]
theorem xK (k:Int):Stands (.tup [.nil,int k]) (yz ([],k)) :=
 StandsL.tup (.cons (.nilOr (.inl ⟨rfl,rfl⟩)) (.cons (.refl _) .nil))
noncomputable def FPP (out:List Sp→List Sp→PV) (pre:List Sp→List Sp→Prop):List PV→Option PV:=zM (α:=List Sp×List Sp) (fun a=>[.sl 2 (a.1.map encS),.sl 2 (a.2.map encS)]) (fun a=>pre a.1 a.2) (fun a=>out a.1 a.2)
theorem jM (out:List Sp→List Sp→PV) (pre:List Sp→List Sp→Prop) (a b:List Sp) (hp:Hp) (nx:Nat) (h:pre a b):zd false [] (FPP out pre) [.sl 2 (a.map encS),.sl 2 (b.map encS)] hp nx=some (out a b,hp,nx) :=
 zJ rfl (zq (enc:=fun a:List Sp×List Sp=>[PV.sl 2 (a.1.map encS),.sl 2 (a.2.map encS)]) (a:=(a,b)) (fun a b e=>by
  obtain⟨a1,a2⟩:=a;obtain⟨b1,b2⟩:=b
  simp only[List.cons.injEq,and_true] at e
  rw[wM e.1,wM e.2]) h) (.inr rfl)
def xL (a b:List Sp):Int:=if zL a=0 then zL b else zL a
noncomputable abbrev Ccb:Ctx:=zN prog [(27,zd false [] (FP (fun l=>int (zL l)) fun _=>True))]
theorem checkBoth_eval (a b:List Sp):zl Ccb f36 [.sl 2 (a.map encS),.sl 2 (b.map encS)]=some (int (xL a b)):=by
 have c1:=fun l hp nx=>yy (fun l=>int (zL l)) (fun _=>True) l hp nx trivial
 refine ze rfl ?_
 unfold xL
 by_cases hf:zL a=0
 ·simp[c1,hf,f36]
 ·have hf':(zL a != 0)=true:=by simpa using hf
  simp[c1,hf,hf',f36]
theorem checkBoth_sound:za prog 36 (zd false [] (FPP (fun a b=>int (xL a b)) fun _ _=>True)) :=
 zZ (fn:=f36) (zr (q:=[]) mixed ⟨yM,by simp,trivial⟩:AM.Good Ccb _) ⟨_,func36,by kernel_rfl,rfl,by kernel_rfl⟩ false [] _ fun args r h=>by
  obtain⟨⟨a,b⟩,rfl,_,rfl⟩:=zg h
  exact⟨Nat.le_trans (Nat.le_refl 2) (by decide),_,checkBoth_eval a b,zY _⟩
def limR (l:List Sp):List Sp×Int:=if (100:Int)<l.length then ([],2) else (l,0)
theorem limited_eval (l:List Sp):∃r0,zl C0 f37 [.sl 2 (l.map encS)]=some r0∧Stands r0 (yz (limR l)):=by
 refine qF rfl ?_
 unfold limR
 by_cases hf:(100:Int)<l.length
 ·rw[if_pos hf]
  simp[hf,f37]
  exact⟨_,by simp,xK 2⟩
 ·rw[if_neg hf]
  simp[hf,f37]
  exact⟨yz (l,0),by simp[yz],.refl _⟩
theorem limited_sound:za prog 37 (zd false [] (FP (fun l=>yz (limR l)) fun _=>True)) :=
 yK (fn:=f37) q7 ⟨_,func37,by kernel_rfl,rfl,by kernel_rfl⟩ false [] _ fun args r h w S vs hz=>by
  obtain⟨l,rfl,_,rfl⟩:=zg h
  obtain⟨r0,h1,h2⟩:=limited_eval l
  exact⟨_,r0,hz,Nat.le_trans (Nat.le_refl 1) (by decide),h1,h2⟩
end Go.Proofs.YtglppmnehgjolaaGreatDoor
