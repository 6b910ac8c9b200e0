/-
rule.CheckCond: what it computes.
value.Xcopy: what it computes is the value.
Contexts: CheckContext of the program and of the reference.
The search by halves; the order of texts.
Plain: search in depth and in breadth, ranks, truth values that hang on one another.
-/
import Derived.Test.YtanbabpnlgfcpaaGreatDoorG14
import Derived.Test.YtanbabpnlgfcpaaGreatDoorG18
import Derived.Test.YtanbabpnlgfcpaaGreatDoorG13
import Derived.Test.YtanbabpnlgfcpaaGreatDoorG10
import Derived.WalkKit
set_option maxRecDepth 8000
namespace Go.Proofs.YtanbabpnlgfcpaaGreatDoor
open Go.Proofs.Tryz
open Go.RowKit Go.AM
def usesV (op:Int):Bool:=inB op 2 6||op==12
def usesP (op:Int):Bool:=inB op 7 11
def vR (op:Int):Bool:=inB op 3 6
noncomputable abbrev Cwi:Ctx:=zA prog [(42,zc false [] (F3 inB))]
theorem goodwi:AM.Good Cwi (fun g=>[42].contains g):=zk mixed ⟨jx,fun _=>zg _ _,trivial⟩
def FIb (f:Int→Bool):List PV→Option PV
 | [.v (.int .i64 a)]=>some (boo (f a))
 | _=>none
theorem FIb_inv {f:Int→Bool} {args:List PV} {r:PV} (h:FIb f args=some r):∃a,args=[int a]∧r=boo (f a):=by
 unfold FIb at h
 split at h
 ·injection h with h;exact⟨_,rfl,h.symm⟩
 ·cases h
@[simp] theorem FIb_call (f:Int→Bool) (a:Int) (hp:Hp) (nx:Nat):zc false [] (FIb f) [.v (.int .i64 a)] hp nx=some (boo (f a),hp,nx):=zt rfl rfl (.inl rfl)
theorem usesV_sound:za prog 156 (zc false [] (FIb usesV)) :=
 zJ (fn:=f156) goodwi ⟨_,func156,by kernel_rfl,rfl,by kernel_rfl⟩ false [] _ fun args r h=>by
  obtain⟨a,rfl,rfl⟩:=FIb_inv h
  exact⟨by simp[f156],_,zb rfl (by simp[usesV,f156]),zI _⟩
theorem usesP_sound:za prog 129 (zc false [] (FIb usesP)) :=
 zJ (fn:=f129) goodwi ⟨_,func129,by kernel_rfl,rfl,by kernel_rfl⟩ false [] _ fun args r h=>by
  obtain⟨a,rfl,rfl⟩:=FIb_inv h
  exact⟨by simp[f129],_,zb rfl (by simp[usesP,f129]),zI _⟩
theorem xu:za prog 99 (zc false [] (FIb vR)) :=
 zJ (fn:=f99) goodwi ⟨_,func99,by kernel_rfl,rfl,by kernel_rfl⟩ false [] _ fun args r h=>by
  obtain⟨a,rfl,rfl⟩:=FIb_inv h
  exact⟨by simp[f99],_,zb rfl (by simp[vR,f99]),zI _⟩
noncomputable abbrev Cms (n:Nat):Ctx:=zA prog [(105,zc false [] (FC (fun c=>.tup [int c.parts,int c.levels]) n))]
theorem measure_eval (n:Nat) (c:Cnd) (h:c.cb≤lim∧c.cb≤n+1):zi (Cms n) f105 [.agg c.enc]=some (.tup [int c.parts,int c.levels]):=by
 have hpl:=cparts_le c
 have hpe:=cparts_eq c
 have hcb:=cb_eq c
 have hle:=clevels_eq c
 have hll:=clevels_le c
 have hl1:=jd c.args
 obtain⟨ha,hb⟩:=h
 unfold lim at ha
 refine zb rfl ?_
 simp
 refine zC (fun k σ hp nx=>σ 9=.sl 7 (c.args.map Cnd.enc)∧σ 10=int c.args.length∧σ 11=int k∧σ 2=int ((1+partsC (c.args.take k):Nat):Int)∧σ 3=int (levelsC (c.args.take k))) c.args.length
  ⟨by simp,by simp,by simp,by simp[partsC],by simp[levelsC]⟩ ?_
 rintro k σ hp nx hk ⟨h9,h10,h11,h2,h3⟩
 by_cases hlt:k<c.args.length
 ·obtain⟨t1,t2⟩:=takeC hlt
  have hm:=xq (List.getElem_mem hlt)
  have hw:IntKind.i64.wrap ((k:Int)+1)=(k:Int)+1:=zd (by omega) (by omega)
  have hple:=partsC_le c.args k
  have hple2:=partsC_le c.args (k+1)
  have hpp:=partsC_le' c.args fun x hx=>cparts_le x
  have hcall:=fun hp nx=>FC_call (fun c=>.tup [int c.parts,int c.levels]) n c.args[k] hp nx ⟨by unfold lim;omega,by omega⟩
  have w1:IntKind.i64.wrap (((1+partsC (c.args.take k):Nat):Int)+c.args[k].parts)=((1+partsC (c.args.take (k+1)):Nat):Int):=by rw[zd (by omega) (by omega),t1];omega
  have w2:(if (levelsC (c.args.take k))<c.args[k].levels then (c.args[k].levels:Int) else levelsC (c.args.take k))=(levelsC (c.args.take (k+1)):Int):=by rw[t2];split<;>omega
  simp[h2,h3,h9,h10,h11,hlt,hcall,hw]
  exact⟨by omega,by rw[zd (by omega) (by omega),t1];omega,w2⟩
 ·obtain rfl:k=c.args.length:=by omega
  rw[List.take_length] at h2 h3
  have w1:IntKind.i64.wrap ((levelsC c.args:Int)+1)=(c.levels:Int):=by rw[zd (by omega) (by omega),hle];omega
  simp[h2,h3,h9,h10,h11,w1,zU,f105]
  omega
set_option maxRecDepth 100000 in
theorem measure_sound:∀n,za prog 105 (zc false [] (FC (fun c=>.tup [int c.parts,int c.levels]) n)):=by
 intro n
 induction n with
 | zero=>exact FC_zero ⟨_,func105,by kernel_rfl,by kernel_rfl⟩
 | succ n ih =>
   have hg:AM.Good (Cms n) (fun g=>([]:List Nat).contains g):=zk mixed ⟨ih,by simp,trivial⟩
   exact zJ (fn:=f105) hg ⟨_,func105,by kernel_rfl,rfl,by kernel_rfl⟩ false [] _ fun args r h=>by
    obtain⟨c,rfl,hc,rfl⟩:=FC_inv h
    exact⟨Nat.le_trans (Nat.le_refl 1) (by decide),_,measure_eval n c hc,zI _⟩
def w1F (c:Cnd):Bool:=!(c.kind==4)&&(!c.attr.isEmpty||c.op != 0||decide (0<c.vals.length)||!c.pat.isEmpty)
def w2F (c:Cnd):Bool:=c.kind != 5&&!c.name.isEmpty
def w3F (c:Cnd):Bool:=!inB c.kind 1 3&&decide (0<c.args.length)
def w4F (c:Cnd):Bool:=c.kind==4&&!usesV c.op&&decide (0<c.vals.length)
def w5F (c:Cnd):Bool:=c.kind==4&&!usesP c.op&&!c.pat.isEmpty
def w6F (c:Cnd):Bool:=c.kind==3&&(c.args.length:Int) != 1
def w7F (c:Cnd):Bool:=c.kind==4&&vR c.op&&(c.vals.length:Int) != 1
def xv (c:Cnd):Bool:=w1F c||w2F c||w3F c||w4F c||w5F c||w6F c||w7F c
noncomputable abbrev Cfo:Ctx:=zA prog [(42,zc false [] (F3 inB)),(156,zc false [] (FIb usesV)),(129,zc false [] (FIb usesP)),(99,zc false [] (FIb vR))]
theorem goodfo:AM.Good Cfo (fun g=>[42,156,129,99].contains g):=zk mixed ⟨jx,fun _=>zg _ _,usesV_sound,fun _=>zg _ _,usesP_sound,fun _=>zg _ _,xu,fun _=>zg _ _,trivial⟩
@[simp] theorem quietfo2:wy Cfo 156:=qr (by rfl) (zg _ _)
@[simp] theorem quietfo3:wy Cfo 129:=qr (by rfl) (zg _ _)
@[simp] theorem quietfo4:wy Cfo 99:=qr (by rfl) (zg _ _)
theorem checkForm_eval (c:Cnd) (h:c.cb≤lim):zi Cfo f127 [.agg c.enc]=some (int (if xv c=true then 3 else 0)):=by
 refine zb rfl ?_
 have e1:(!(c.kind==4)&&(!c.attr.isEmpty||c.op != 0||decide (0<c.vals.length)||!c.pat.isEmpty))=w1F c:=rfl
 have e2:(c.kind != 5&&!c.name.isEmpty)=w2F c:=rfl
 have e3:(!inB c.kind 1 3&&decide (0<c.args.length))=w3F c:=rfl
 have e4:(c.kind==4&&!usesV c.op&&decide (0<c.vals.length))=w4F c:=rfl
 have e5:(c.kind==4&&!usesP c.op&&!c.pat.isEmpty)=w5F c:=rfl
 have e6:(c.kind==3&&(c.args.length:Int) != 1)=w6F c:=rfl
 have e7:(c.kind==4&&vR c.op&&(c.vals.length:Int) != 1)=w7F c:=rfl
 cases h1:w1F c
 case true=>simp[e1,h1,xv,f127]
 cases h2:w2F c
 case true=>simp[e1,h1,e2,h2,xv,f127]
 cases h3:w3F c
 case true=>simp[e1,h1,e2,h2,e3,h3,xv,f127]
 cases h4:w4F c
 case true=>simp[e1,h1,e2,h2,e3,h3,e4,h4,xv,f127]
 cases h5:w5F c
 case true=>simp[e1,h1,e2,h2,e3,h3,e4,h4,e5,h5,xv,f127]
 cases h6:w6F c
 case true=>simp[e1,h1,e2,h2,e3,h3,e4,h4,e5,h5,e6,h6,xv,f127]
 cases h7:w7F c
 case true=>simp[e1,h1,e2,h2,e3,h3,e4,h4,e5,h5,e6,h6,e7,h7,xv,f127]
 simp[e1,h1,e2,h2,e3,h3,e4,h4,e5,h5,e6,h6,e7,h7,xv,f127]
theorem checkForm_sound:za prog 127 (GC fun c=>int (if xv c=true then 3 else 0)) :=
 zJ (fn:=f127) goodfo ⟨_,func127,by kernel_rfl,rfl,by kernel_rfl⟩ false [] _ fun args r h=>by
  obtain⟨c,rfl,hc,rfl⟩:=FC_inv h
  exact⟨by simp[f127],_,checkForm_eval c hc.1,zI _⟩
noncomputable def cPrevV (p:Option Val) (v:Val):Bool:=match p with
 | none=>false
 | some p=>decide (0≤qM p v)
def typeF (op:Int) (v:Val):Bool:=v.kind==0||vR op&&v.kind != 2
noncomputable def valF (op:Int):Option Val→List Val→Int
 | _,[]=>0
 | p,v::l=>if v.check=0 then (if typeF op v=true then 6 else if cPrevV p v=true then 8 else valF op (some v) l) else v.check
noncomputable def valsF (op:Int) (l:List Val):Int:=if (100:Int)<l.length then 2 else valF op none l
def prevV (l:List Val) (k:Nat):Option Val:=if k=0 then none else l[k - 1]?
noncomputable def FIv (f:Int→List Val→PV):List PV→Option PV:=zG (α:=Int×List Val) (fun a=>[int a.1,.sl 5 (a.2.map Val.enc)]) (fun a=>vbs a.2≤lim) (fun a=>f a.1 a.2)
theorem FIv_call (f:Int→List Val→PV) (op:Int) (l:List Val) (hp:Hp) (nx:Nat) (h:vbs l≤lim):zc false [] (FIv f) [int op,.sl 5 (l.map Val.enc)] hp nx=some (f op l,hp,nx) :=
 zt (hp1:=hp) (show zh hp [int op,.sl 5 (l.map Val.enc)]=some ([int op,.sl 5 (l.map Val.enc)],hp) by simp) (zn (enc:=fun a:Int×List Val=>[int a.1,.sl 5 (a.2.map Val.enc)]) (a:=(op,l)) (fun x y e=>by
  obtain⟨x1,x2⟩:=x;obtain⟨y1,y2⟩:=y
  simp only[List.cons.injEq,and_true] at e
  obtain⟨e1,e2⟩:=e
  injection e2 with _ e2
  rw[zD e1,encVs_inj e2]) h) (.inr (by simp))
noncomputable abbrev Ccv2:Ctx:=zA prog [(34,GV fun v=>int v.check),(99,zc false [] (FIb vR)),(115,zc false [] (FCV lim))]
theorem goodcv2:AM.Good Ccv2 (fun g=>[99,115].contains g):=zk mixed ⟨check_sound,by simp,xu,fun _=>zg _ _,xc lim,fun _=>zg _ _,trivial⟩
@[simp] theorem quietcv2a:wy Ccv2 99:=qr (by rfl) (zg _ _)
theorem checkValues_eval (op:Int) (l:List Val) (h:vbs l≤lim):zi Ccv2 f128 [int op,.sl 5 (l.map Val.enc)]=some (int (valsF op l)):=by
 have hlen:=wW l
 unfold lim at h
 refine zb rfl ?_
 by_cases h100:(100:Int)<l.length
 ·have hv:valsF op l=2:=by unfold valsF;rw[if_pos h100]
  simp[h100,hv,f128]
 have hv:valsF op l=valF op none l:=by unfold valsF;rw[if_neg h100]
 rw[hv]
 simp[h100]
 refine zC (fun k σ hp nx=>σ 0=int op∧σ 1=.sl 5 (l.map Val.enc)∧σ 11=.sl 5 (l.map Val.enc)∧σ 12=int l.length∧σ 13=int k∧valF op none l=valF op (prevV l k) (l.drop k)) l.length
  ⟨by simp,by simp,by simp,by simp,by simp,by simp[prevV]⟩ ?_
 rintro k σ hp nx hk ⟨h0,h1,h11,h12,h13,he⟩
 by_cases hlt:k<l.length
 ·have hm:=jC (List.getElem_mem hlt)
  have hw:IntKind.i64.wrap ((k:Int)+1)=(k:Int)+1:=zd (by omega) (by omega)
  have hck:=fun hp nx=>GV_call (fun v=>int v.check) l[k] hp nx (by unfold lim;omega)
  rw[List.drop_eq_getElem_cons hlt] at he
  simp only[valF] at he
  have hpn:prevV l (k+1)=some l[k]:=by simp[prevV,hlt]
  have ety:(l[k].kind==0||vR op&&l[k].kind != 2)=typeF op l[k]:=rfl
  by_cases hz:l[k].check=0
  case neg =>
   rw[if_neg hz] at he
   have hz2:(l[k].check != 0)=true:=by simpa using hz
   simp[h0,h1,h11,h12,h13,hlt,hck,hz2,he,f128]
  rw[if_pos hz] at he
  cases hty:typeF op l[k]
  case true =>
   rw[hty,if_pos rfl] at he
   simp[h0,h1,h11,h12,h13,hlt,hck,hz,ety,hty,he,f128]
  rw[hty,if_neg (by simp)] at he
  by_cases k0:k=0
  ·subst k0
   have hp0:cPrevV (prevV l 0) l[0]=false:=rfl
   rw[hp0,if_neg (by simp)] at he
   simp[h0,h1,h11,h12,h13,hlt,hck,hz,ety,hty,hw]
   exact⟨by omega,by rw[he,show prevV l 1=some l[0] from hpn];simp⟩
  ·obtain⟨j,rfl⟩:∃j,k=j+1:=⟨k - 1,by omega⟩
   have hj:j<l.length:=by omega
   have hmj:=jC (List.getElem_mem hj)
   have wj:IntKind.i64.wrap ((j:Int)+1 - 1)=(j:Int):=by rw[zd (by omega) (by omega)];omega
   have wj':IntKind.i64.wrap (j:Int)=(j:Int):=zd (by omega) (by omega)
   have j1:((j:Int)+1).toNat=j+1:=by omega
   have j2:0<(j:Int)+1:=by omega
   have j3:0≤(j:Int)+1:=by omega
   have j4:(j:Int)+1<l.length:=by omega
   have hcm:=fun hp nx=>FCV_call lim l[j] l[j+1] hp nx ⟨by unfold lim;omega,by unfold lim;omega,by unfold lim;omega⟩
   have hpv:cPrevV (prevV l (j+1)) l[j+1]=decide (0≤qM l[j] l[j+1]):=by simp[prevV,hj,cPrevV]
   rw[hpv] at he
   by_cases hc:0≤qM l[j] l[j+1]
   ·have hc':decide (0≤qM l[j] l[j+1])=true:=by simpa using hc
    rw[if_pos hc'] at he
    simp[h0,h1,h11,h12,h13,hlt,hj,hck,hz,ety,hty,hw,wj,wj',j1,j2,j3,j4,hcm,hc,he,f128]
   ·have hc':¬decide (0≤qM l[j] l[j+1])=true:=by simpa using hc
    rw[if_neg hc'] at he
    have wk:IntKind.i64.wrap ((j:Int)+1+1)=(j:Int)+1+1:=zd (by omega) (by omega)
    simp[h0,h1,h11,h12,h13,hlt,hj,hck,hz,ety,hty,wk,wj,wj',j1,j2,j3,j4,hcm,hc]
    exact⟨by omega,by rw[he,hpn]⟩
 ·obtain rfl:k=l.length:=by omega
  rw[List.drop_length] at he
  simp only[valF] at he
  simp[h0,h1,h11,h12,h13,he,f128]
theorem checkValues_sound:za prog 128 (zc false [] (FIv fun op l=>int (valsF op l))) :=
 zJ (fn:=f128) goodcv2 ⟨_,func128,by kernel_rfl,rfl,by kernel_rfl⟩ false [] _ fun args r h=>by
  obtain⟨⟨op,l⟩,rfl,hc,rfl⟩:=zf h
  exact⟨by simp[f128],_,checkValues_eval op l hc,zI _⟩
noncomputable def patF (op:Int) (s:List UInt8):Int:=if (500:Int)<s.length then 2 else if qC 32 126 s=true then (if op=11 then (yO s).2 else 0) else 1
noncomputable def FIs (f:Int→List UInt8→PV):List PV→Option PV:=zG (α:=Int×List UInt8) (fun a=>[int a.1,str a.2]) (fun a=>a.2.length≤lim) (fun a=>f a.1 a.2)
theorem FIs_call (f:Int→List UInt8→PV) (op:Int) (s:List UInt8) (hp:Hp) (nx:Nat) (h:s.length≤lim):zc false [] (FIs f) [int op,str s] hp nx=some (f op s,hp,nx) :=
 zt rfl (zn (enc:=fun a:Int×List UInt8=>[int a.1,str a.2]) (a:=(op,s)) (fun x y e=>by
  obtain⟨x1,x2⟩:=x;obtain⟨y1,y2⟩:=y
  simp only[List.cons.injEq,and_true] at e
  rw[zD e.1,zM e.2]) h) (.inr (by simp))
noncomputable abbrev Cpt:Ctx:=zA prog [(122,zc false [] (FSP1 rrP))]
theorem goodpt:AM.Good Cpt (fun g=>([]:List Nat).contains g):=zk mixed ⟨vm,by simp,trivial⟩
theorem checkPattern_eval (op:Int) (s:List UInt8) (h:s.length≤lim):zi Cpt f130 [int op,str s]=some (int (patF op s)):=by
 unfold lim at h
 refine zb rfl ?_
 by_cases h500:(500:Int)<s.length
 ·have hv:patF op s=2:=by unfold patF;rw[if_pos h500]
  simp[h500,hv,f130]
 have hrr:=fun hp nx=>jS rrP s hp nx (by unfold lim;omega)
 simp only[rrP] at hrr
 have hv:patF op s=if qC 32 126 s=true then (if op=11 then (yO s).2 else 0) else 1:=by unfold patF;rw[if_neg h500]
 simp[h500]
 refine zC (fun k σ hp nx=>σ 0=int op∧σ 1=str s∧σ 12=int s.length∧σ 13=int k∧qC 32 126 s=qC 32 126 (s.drop k)) s.length ⟨by simp,by simp,by simp,by simp,by simp⟩ ?_
 rintro k σ hp nx hk ⟨h0,h1,h12,h13,he⟩
 by_cases hlt:k<s.length
 ·have hw:IntKind.i64.wrap ((k:Int)+1)=(k:Int)+1:=zd (by omega) (by omega)
  rw[kX hlt] at he
  have ho:=pr_out 32 126 s[k]
  simp only[Int.cast_ofNat_Int] at ho
  cases hc:pr 32 126 s[k]
  ·have he:qC 32 126 s=false:=by rw[he,hc];rfl
   rw[he,if_neg (by simp)] at hv
   simp[h0,h1,h12,h13,hlt,hv,ho,hc,f130]
  ·simp[h0,h1,h12,h13,hlt,ho,hc,hw]
   exact⟨hlt,by rw[he,hc];rfl⟩
 ·obtain rfl:k=s.length:=by omega
  have he:qC 32 126 s=true:=by rw[he,List.drop_length];rfl
  rw[he,if_pos rfl] at hv
  by_cases h11:op=11
  ·rw[if_pos h11] at hv
   subst h11
   simp[h0,h1,h12,h13,hrr,hv,f130]
  ·rw[if_neg h11] at hv
   have h11':(op==11)=false:=by simpa using h11
   simp[h0,h1,h12,h13,h11',hv,f130]
theorem checkPattern_sound:za prog 130 (zc false [] (FIs fun op s=>int (patF op s))) :=
 zJ (fn:=f130) goodpt ⟨_,func130,by kernel_rfl,rfl,by kernel_rfl⟩ false [] _ fun args r h=>by
  obtain⟨⟨op,s⟩,rfl,hc,rfl⟩:=zf h
  exact⟨by simp[f130],_,checkPattern_eval op s hc,zI _⟩
def kindC (c:Cnd):Bool:=!inB c.kind 1 5
def opC (c:Cnd):Bool:=c.kind==4&&!inB c.op 1 12
def nameC (c:Cnd):Bool:=(c.kind==4&&!qh c.attr)||(c.kind==5&&!qh c.name)
def patC (c:Cnd):Bool:=c.kind==4&&usesP c.op
noncomputable def vS (c:Cnd):Int:=if (kindC c||opC c)=true then 4 else if xv c=true then 3 else if nameC c=true then 5 else if valsF c.op c.vals=0 then (if patC c=true then patF c.op c.pat else 0) else valsF c.op c.vals
mutual
noncomputable def Cnd.fault:Cnd→Int
 | .mk k a o v p n l=>if vS (.mk k a o v p n l)=0 then faultC l else vS (.mk k a o v p n l)
noncomputable def faultC:List Cnd→Int
 | []=>0
 | c::l=>if c.fault=0 then faultC l else c.fault
end
theorem cfault_eq (c:Cnd):c.fault=if vS c=0 then faultC c.args else vS c:=by cases c;simp only[Cnd.fault];rfl
theorem faultC_drop {l:List Cnd} {k:Nat} (h:k<l.length):faultC (l.drop k)=if l[k].fault=0 then faultC (l.drop (k+1)) else l[k].fault:=by
 rw[List.drop_eq_getElem_cons h,faultC]
noncomputable abbrev Ccp2 (n:Nat):Ctx:=zA prog [(106,zc false [] (FC (fun c=>int c.fault) n)),(42,zc false [] (F3 inB)),(127,GC fun c=>int (if xv c=true then 3 else 0)),(33,zc false [] (FS qh)),
 (128,zc false [] (FIv fun op l=>int (valsF op l))),(129,zc false [] (FIb usesP)),(130,zc false [] (FIs fun op s=>int (patF op s)))]
@[simp] theorem quietcp2a (n:Nat):wy (Ccp2 n) 42:=qr (by rfl) (zg _ _)
@[simp] theorem quietcp2b (n:Nat):wy (Ccp2 n) 33:=qr (by rfl) (zg _ _)
@[simp] theorem quietcp2c (n:Nat):wy (Ccp2 n) 129:=qr (by rfl) (zg _ _)
theorem ccheckPart_eval (n:Nat) (c:Cnd) (h:c.cb≤lim∧c.cb≤n+1):zi (Ccp2 n) f106 [.agg c.enc]=some (int c.fault):=by
 have hcb:=cb_eq c
 have hl1:=jd c.args
 obtain⟨ha,hb⟩:=h
 have hf:=cfault_eq c
 have hfo:=fun hp nx=>GC_call (fun c=>int (if xv c=true then 3 else 0)) c hp nx ha
 have hva:=fun hp nx=>FIv_call (fun op l=>int (valsF op l)) c.op c.vals hp nx (by omega)
 have hpa:=fun hp nx=>FIs_call (fun op s=>int (patF op s)) c.op c.pat hp nx (by omega)
 have hna:c.attr.length≤lim:=by omega
 have hnn:c.name.length≤lim:=by omega
 unfold lim at ha
 refine zb rfl ?_
 have e1:(!inB c.kind 1 5)=kindC c:=rfl
 have e2:(c.kind==4&&!inB c.op 1 12)=opC c:=rfl
 have e3:((c.kind==4&&!qh c.attr)||(c.kind==5&&!qh c.name))=nameC c:=rfl
 have e4:(c.kind==4&&usesP c.op)=patC c:=rfl
 cases c1:kindC c
 case true=>simp[e1,c1,hf,vS,f106]
 cases c2:opC c
 case true=>simp[e1,c1,e2,c2,hf,vS,f106]
 cases c3:xv c
 case true=>simp[e1,c1,e2,c2,hfo,c3,hf,vS,f106]
 cases c4:nameC c
 case true=>simp[e1,c1,e2,c2,hfo,c3,hna,hnn,e3,c4,hf,vS,f106]
 by_cases c5:valsF c.op c.vals=0
 case neg =>
  have c5':(valsF c.op c.vals != 0)=true:=by simpa using c5
  simp[e1,c1,e2,c2,hfo,c3,hna,hnn,e3,c4,hva,c5,c5',hf,vS,f106]
 have hbody:∀(hh:vS c=0),c.fault=faultC c.args:=fun hh=>by rw[hf,if_pos hh]
 cases c6:patC c
 case false =>
  have hh:vS c=0:=by simp[vS,c1,c2,c3,c4,c5,c6]
  have hf':=hbody hh
  simp[e1,c1,e2,c2,hfo,c3,hna,hnn,e3,c4,hva,c5,e4,c6]
  refine zC (fun k σ hp nx=>σ 73=.sl 7 (c.args.map Cnd.enc)∧σ 74=int c.args.length∧σ 75=int k∧faultC c.args=faultC (c.args.drop k)) c.args.length ⟨by simp,by simp,by simp,by simp⟩ ?_
  rintro k σ hp nx hk ⟨h73,h74,h75,he⟩
  by_cases hlt:k<c.args.length
  ·have hm:=xq (List.getElem_mem hlt)
   have hw:IntKind.i64.wrap ((k:Int)+1)=(k:Int)+1:=zd (by omega) (by omega)
   have hcall:=fun hp nx=>FC_call (fun c=>int c.fault) n c.args[k] hp nx ⟨by unfold lim;omega,by omega⟩
   rw[faultC_drop hlt] at he
   by_cases hz:c.args[k].fault=0
   ·rw[if_pos hz] at he
    simp[h73,h74,h75,hlt,hcall,hz,hw]
    exact⟨by omega,he⟩
   ·rw[if_neg hz] at he
    have hz2:(c.args[k].fault != 0)=true:=by simpa using hz
    simp[h73,h74,h75,hlt,hcall,hz2,hf',he,f106]
  ·obtain rfl:k=c.args.length:=by omega
   rw[List.drop_length] at he
   have he:faultC c.args=0:=by rw[he];rfl
   simp[h73,h74,h75,hf',he,f106]
 case true =>
  by_cases c7:patF c.op c.pat=0
  case neg =>
   have c7':(patF c.op c.pat != 0)=true:=by simpa using c7
   simp[e1,c1,e2,c2,hfo,c3,hna,hnn,e3,c4,hva,c5,e4,c6,hpa,c7,c7',hf,vS,f106]
  have hh:vS c=0:=by simp[vS,c1,c2,c3,c4,c5,c6,c7]
  have hf':=hbody hh
  simp[e1,c1,e2,c2,hfo,c3,hna,hnn,e3,c4,hva,c5,e4,c6,hpa,c7]
  refine zC (fun k σ hp nx=>σ 73=.sl 7 (c.args.map Cnd.enc)∧σ 74=int c.args.length∧σ 75=int k∧faultC c.args=faultC (c.args.drop k)) c.args.length ⟨by simp,by simp,by simp,by simp⟩ ?_
  rintro k σ hp nx hk ⟨h73,h74,h75,he⟩
  by_cases hlt:k<c.args.length
  ·have hm:=xq (List.getElem_mem hlt)
   have hw:IntKind.i64.wrap ((k:Int)+1)=(k:Int)+1:=zd (by omega) (by omega)
   have hcall:=fun hp nx=>FC_call (fun c=>int c.fault) n c.args[k] hp nx ⟨by unfold lim;omega,by omega⟩
   rw[faultC_drop hlt] at he
   by_cases hz:c.args[k].fault=0
   ·rw[if_pos hz] at he
    simp[h73,h74,h75,hlt,hcall,hz,hw]
    exact⟨by omega,he⟩
   ·rw[if_neg hz] at he
    have hz2:(c.args[k].fault != 0)=true:=by simpa using hz
    simp[h73,h74,h75,hlt,hcall,hz2,hf',he,f106]
  ·obtain rfl:k=c.args.length:=by omega
   rw[List.drop_length] at he
   have he:faultC c.args=0:=by rw[he];rfl
   simp[h73,h74,h75,hf',he,f106]
set_option maxRecDepth 100000 in
theorem ccheckPart_sound:∀n,za prog 106 (zc false [] (FC (fun c=>int c.fault) n)):=by
 intro n
 induction n with
 | zero=>exact FC_zero ⟨_,func106,by kernel_rfl,by kernel_rfl⟩
 | succ n ih =>
   have hg:AM.Good (Ccp2 n) (fun g=>[42,33,129].contains g):=zk mixed ⟨ih,by simp,jx,fun _=>zg _ _,checkForm_sound,by simp,wV,fun _=>zg _ _,checkValues_sound,by simp,usesP_sound,fun _=>zg _ _,checkPattern_sound,by simp,trivial⟩
   exact zJ (fn:=f106) hg ⟨_,func106,by kernel_rfl,rfl,by kernel_rfl⟩ false [] _ fun args r h=>by
    obtain⟨c,rfl,hc,rfl⟩:=FC_inv h
    exact⟨Nat.le_trans (Nat.le_refl 1) (by decide),_,ccheckPart_eval n c hc,zI _⟩
noncomputable def Cnd.check (c:Cnd):Int:=if (decide ((200:Int)<c.parts)||decide ((20:Int)<c.levels))=true then 2 else c.fault
noncomputable abbrev Ccch:Ctx:=zA prog [(106,GC fun c=>int c.fault),(105,GC fun c=>.tup [int c.parts,int c.levels])]
theorem vn:za prog 75 (GC fun c=>int c.check) :=
 zJ (fn:=f75) (zk (q:=[]) mixed ⟨ccheckPart_sound lim,by simp,measure_sound lim,by simp,trivial⟩:AM.Good Ccch _) ⟨_,func75,by kernel_rfl,rfl,by kernel_rfl⟩ false [] _ fun args r h=>by
  obtain⟨c,rfl,hc,rfl⟩:=FC_inv h
  have h1:=fun hp nx=>GC_call (fun c=>int c.fault) c hp nx hc.1
  have h2:=fun hp nx=>GC_call (fun c=>.tup [int c.parts,int c.levels]) c hp nx hc.1
  refine⟨by simp[f75],_,zb rfl ?_,zI _⟩
  cases hk:(decide ((200:Int)<c.parts)||decide ((20:Int)<c.levels))
  ·simp[h1,h2,hk,f75,Cnd.check]
  ·simp[h1,h2,hk,f75,Cnd.check]
structure XS (v:Val) (o3 o4:PV) (hp:Hp) (nx:Nat):Prop where
 b0:hp 0=some ⟨87,5,false,[[int v.kind,int v.n,str v.s,o3,o4]]⟩
 b1:hp 1=some ⟨87,5,false,[[int 0,int 0,.v (.string ⟨#[]⟩),.nil,.nil]]⟩
 s3:OwnS hp nx 87 5 o3 (v.items.map Val.enc)
 s4:OwnS hp nx 152 6 o4 (v.fields.map encF)
 d3:∀id m,id<2→o3≠.own id 0 m
 d4:∀id m,id<2→o4≠.own id 0 m
 d:∀id m m',o3=.own id 0 m→o4≠.own id 0 m'
 nx2:2≤nx
theorem XS.more {v:Val} {o3 o4:PV} {hp:Hp} {nx:Nat} (h:XS v o3 o4 hp nx) (b:Option Blk):XS v o3 o4 (upd hp nx b) (nx+1):=by
 have:=h.nx2
 exact⟨by rw[ze _ _ _ _ (by omega)];exact h.b0,by rw[ze _ _ _ _ (by omega)];exact h.b1,h.s3.more b,h.s4.more b,h.d3,h.d4,h.d,by omega⟩
structure Ctxt where
 key:List UInt8
 attrs:List (List UInt8×Val)
def Ctxt.enc (x:Ctxt):List PV:=[str x.key,.sl 6 (x.attrs.map encF)]
def Ctxt.cb (x:Ctxt):Nat:=x.key.length+fbs x.attrs
theorem xcb_eq (x:Ctxt):x.cb=x.key.length+fbs x.attrs:=rfl
theorem encF_inj {a b:List UInt8×Val} (h:encF a=encF b):a=b:=by
 simp only[encF,List.cons.injEq] at h
 exact Prod.ext (zM h.1) (km h.2)
theorem ctxt_inj {a b:Ctxt} (h:a.enc=b.enc):a=b:=by
 obtain⟨k,l⟩:=a;obtain⟨k',l'⟩:=b
 simp only[Ctxt.enc,List.cons.injEq,and_true] at h
 obtain⟨h1,h2⟩:=h
 injection h2 with _ h2
 rw[zM h1,qH (fun _ _=>encF_inj) h2]
def cAttr (a:List UInt8):Bool:=!qh a||a==[107,101,121]
def attrsF:Option (List UInt8)→List (List UInt8×Val)→Int
 | _,[]=>0
 | p,(a,v)::l=>if cAttr a then 5 else if jD p a then 8 else if v.check=0 then (if v.kind=0 then 6 else attrsF (some a) l) else v.check
theorem attrsF_drop {l:List (List UInt8×Val)} {k:Nat} (h:k<l.length) (p:Option (List UInt8)):attrsF p (l.drop k)=if cAttr l[k].1 then 5 else if jD p l[k].1 then 8 else if l[k].2.check=0 then (if l[k].2.kind=0 then 6 else attrsF (some l[k].1) (l.drop (k+1))) else l[k].2.check:=by
 rw[List.drop_eq_getElem_cons h,attrsF]
def Ctxt.fault (x:Ctxt):Int:=if yA x.key then (if (50:Int)<x.attrs.length then 2 else attrsF none x.attrs) else 3
noncomputable def FX (out:Ctxt→PV):List PV→Option PV:=zG (α:=Ctxt) (fun x=>[.agg x.enc]) (fun x=>x.cb≤lim) out
theorem freeze_ctxt (hp:Hp) (x:Ctxt):zF hp (.agg x.enc)=some (.agg x.enc,hp):=by simp[Ctxt.enc]
theorem noOwn_ctxt (x:Ctxt):PV.noOwn (.agg x.enc)=true:=by simp[Ctxt.enc]
theorem FX_call (out:Ctxt→PV) (x:Ctxt) (hp:Hp) (nx:Nat) (h:x.cb≤lim):zc false [] (FX out) [.agg x.enc] hp nx=some (out x,hp,nx) :=
 zt (hp1:=hp) (show zh hp [.agg x.enc]=some ([.agg x.enc],hp) by simp only[zh,freeze_ctxt])
  (zn (enc:=fun x:Ctxt=>[PV.agg x.enc]) (a:=x) (fun a b e=>by simp only[List.cons.injEq,and_true,PV.agg.injEq] at e;exact ctxt_inj e) h) (.inr (by simp only[List.all_cons,noOwn_ctxt,List.all_nil,Bool.and_self]))
noncomputable abbrev Ccc:Ctx:=zA prog [(19,zc false [] (FS yA)),(33,zc false [] (FS qh)),(34,GV fun v=>int v.check)]
theorem checkCtx_eval (x:Ctxt) (h:x.cb≤lim):zi Ccc f16 [.agg x.enc]=some (int x.fault):=by
 have hcb:=xcb_eq x
 have hl2:=yn x.attrs
 have hkl:x.key.length≤lim:=by omega
 unfold lim at h
 refine zb rfl ?_
 rw[Ctxt.fault]
 cases c1:yA x.key
 ·simp[Ctxt.enc,hkl,c1,f16]
 by_cases c2:(50:Int)<x.attrs.length
 ·simp[Ctxt.enc,hkl,c1,c2,f16]
 simp[Ctxt.enc,hkl,c1,c2]
 refine zC (fun k σ hp nx=>σ 1=.ref 0 0 0∧σ 15=.sl 6 (x.attrs.map encF)∧σ 16=int x.attrs.length∧σ 17=int k∧1≤nx∧hp 0=some ⟨30,2,false,[[str x.key,.sl 6 (x.attrs.map encF)]]⟩∧attrsF none x.attrs=attrsF (jy x.attrs k) (x.attrs.drop k)) x.attrs.length
  ⟨by simp,by simp,by simp,by simp,by simp,by simp,by simp[jy]⟩ ?_
 rintro k σ hp nx hk ⟨h1,h83,h84,h85,hnx,b0,hf⟩
 have n0:¬0=nx:=by omega
 by_cases hlt:k<x.attrs.length
 ·have hm:=xp (List.getElem_mem hlt)
  have hw:IntKind.i64.wrap ((k:Int)+1)=(k:Int)+1:=zd (by omega) (by omega)
  have hnl:x.attrs[k].1.length≤lim:=by unfold lim;omega
  have hcall:=fun hp nx=>GV_call (fun v=>int v.check) x.attrs[k].2 hp nx (by unfold lim;omega)
  have en:(!qh x.attrs[k].1||x.attrs[k].1==[107,101,121])=cAttr x.attrs[k].1:=rfl
  rw[attrsF_drop hlt] at hf
  cases d1:cAttr x.attrs[k].1
  case true=>simp[h1,h83,h84,h85,hlt,hnl,en,d1,hf,f16]
  have hpv:jy x.attrs (k+1)=some x.attrs[k].1:=by simp[jy,hlt]
  simp only[d1,Bool.false_eq_true,if_false] at hf
  by_cases k0:k=0
  ·subst k0
   simp only[jy,jD,if_true,Bool.false_eq_true,if_false] at hf
   by_cases hz:x.attrs[0].2.check=0
   ·rw[if_pos hz] at hf
    by_cases hkd:x.attrs[0].2.kind=0
    ·rw[if_pos hkd] at hf
     simp[h1,h83,h84,h85,hlt,hnl,en,d1,hcall,hz,hkd,hf,f16]
    ·rw[if_neg hkd] at hf
     have hkb:(x.attrs[0].2.kind==0)=false:=by simpa using hkd
     have w1:IntKind.i64.wrap 1=1:=zd (by omega) (by omega)
     simp[h1,h83,h84,h85,hlt,hnl,en,d1,hcall,hz,hkb,w1]
     and_intros<;>first | omega | (rw[hf];rw[hpv];simp;done) | simp[n0,b0]
   ·rw[if_neg hz] at hf
    have hz2:(x.attrs[0].2.check != 0)=true:=by simpa using hz
    simp[h1,h83,h84,h85,hlt,hnl,en,d1,hcall,hz2,hf,f16]
  ·obtain⟨j,rfl⟩:∃j,k=j+1:=⟨k - 1,by omega⟩
   have hj:j<x.attrs.length:=by omega
   have wj:IntKind.i64.wrap ((j:Int)+1 - 1)=(j:Int):=by rw[zd (by omega) (by omega)];omega
   have wj':IntKind.i64.wrap (j:Int)=(j:Int):=zd (by omega) (by omega)
   have j1:((j:Int)+1).toNat=j+1:=by omega
   have j2:0<(j:Int)+1:=by omega
   have j3:0≤(j:Int)+1:=by omega
   have j4:(j:Int)+1<x.attrs.length:=by omega
   have wk:IntKind.i64.wrap ((j:Int)+1+1)=(j:Int)+1+1:=zd (by omega) (by omega)
   have el:(Op.bytesLess x.attrs[j+1].1 x.attrs[j].1||x.attrs[j+1].1==x.attrs[j].1)=leB x.attrs[j+1].1 x.attrs[j].1:=rfl
   have hpj:jy x.attrs (j+1)=some x.attrs[j].1:=by simp[jy,hj]
   simp only[hpj,jD] at hf
   cases d2:leB x.attrs[j+1].1 x.attrs[j].1
   case true =>
    simp only[d2,if_true] at hf
    simp[h1,h83,h84,h85,hlt,hj,hnl,en,d1,hcall,b0,n0,wj,wj',j1,j2,j3,j4,el,d2,hf,f16]
   simp only[d2,Bool.false_eq_true,if_false] at hf
   by_cases hz:x.attrs[j+1].2.check=0
   ·rw[if_pos hz] at hf
    by_cases hkd:x.attrs[j+1].2.kind=0
    ·rw[if_pos hkd] at hf
     simp[h1,h83,h84,h85,hlt,hj,hnl,en,d1,hcall,b0,n0,wj,wj',j1,j2,j3,j4,el,d2,hz,hkd,hf,f16]
    ·rw[if_neg hkd] at hf
     have hkb:(x.attrs[j+1].2.kind==0)=false:=by simpa using hkd
     simp[h1,h83,h84,h85,hlt,hj,hnl,en,d1,hcall,b0,n0,wj,wj',j1,j2,j3,j4,el,d2,hz,hkb,wk]
     and_intros<;>first | omega | (rw[hf];rw[hpv]) | simp[n0,b0]
   ·rw[if_neg hz] at hf
    have hz2:(x.attrs[j+1].2.check != 0)=true:=by simpa using hz
    simp[h1,h83,h84,h85,hlt,hj,hnl,en,d1,hcall,b0,n0,wj,wj',j1,j2,j3,j4,el,d2,hz2,hf,f16]
 ·obtain rfl:k=x.attrs.length:=by omega
  rw[List.drop_length] at hf
  have hf:attrsF none x.attrs=0:=by rw[hf];rfl
  simp[h1,h83,h84,h85,hf,f16]
theorem checkCtx_sound:za prog 16 (zc false [] (FX fun x=>int x.fault)) :=
 zJ (fn:=f16) (zk (q:=[]) mixed ⟨kj,by simp,wV,by simp,check_sound,by simp,trivial⟩:AM.Good Ccc _) ⟨_,func16,by kernel_rfl,rfl,by kernel_rfl⟩ false [] _ fun args r h=>by
  obtain⟨x,rfl,hx,rfl⟩:=zf h
  exact⟨Nat.le_trans (Nat.le_refl 1) (by decide),_,checkCtx_eval x hx,zI _⟩
theorem u8_tri (a b:UInt8):a<b∨a=b∨b<a:=by
 rcases Nat.lt_trichotomy a.toNat b.toNat with h | h | h
 ·exact .inl (UInt8.lt_iff_toNat_lt.2 h)
 ·exact .inr (.inl (UInt8.toNat_inj.1 h))
 ·exact .inr (.inr (UInt8.lt_iff_toNat_lt.2 h))
theorem u8_irr (a:UInt8):¬a<a:=fun h=>Nat.lt_irrefl _ (UInt8.lt_iff_toNat_lt.1 h)
theorem u8_asymm {a b:UInt8} (h:a<b):¬b<a:=fun h'=>Nat.lt_asymm (UInt8.lt_iff_toNat_lt.1 h) (UInt8.lt_iff_toNat_lt.1 h')
theorem u8_trans {a b c:UInt8} (h:a<b) (h':b<c):a<c:=UInt8.lt_iff_toNat_lt.2 (Nat.lt_trans (UInt8.lt_iff_toNat_lt.1 h) (UInt8.lt_iff_toNat_lt.1 h'))
theorem cmpB_lt:∀a b:List UInt8,cmpB a b<0↔Op.bytesLess a b=true
 | [],[]=>by simp[cmpB,Lib.compareBytes,Op.bytesLess]
 | [],_::_=>by simp[cmpB,Lib.compareBytes,Op.bytesLess]
 | _::_,[]=>by simp[cmpB,Lib.compareBytes,Op.bytesLess]
 | a::x,b::y=>by
   have ih:=cmpB_lt x y
   unfold cmpB at ih ⊢
   rcases u8_tri a b with h | rfl | h
   ·simp[Lib.compareBytes,Op.bytesLess,h]
   ·simp[Lib.compareBytes,Op.bytesLess,u8_irr,ih]
   ·have hne:¬a=b:=fun e=>u8_irr b (e ▸ h)
    simp[Lib.compareBytes,Op.bytesLess,h,u8_asymm h,hne]
theorem jW:∀a b:List UInt8,cmpB a b=0↔a=b
 | [],[]=>by simp[cmpB,Lib.compareBytes]
 | [],_::_=>by simp[cmpB,Lib.compareBytes]
 | _::_,[]=>by simp[cmpB,Lib.compareBytes]
 | a::x,b::y=>by
   have ih:=jW x y
   unfold cmpB at ih ⊢
   rcases u8_tri a b with h | rfl | h
   ·have hne:¬a=b:=fun e=>u8_irr b (e ▸ h)
    simp[Lib.compareBytes,h,hne]
   ·simp[Lib.compareBytes,u8_irr,ih]
   ·have hne:¬a=b:=fun e=>u8_irr b (e ▸ h)
    simp[Lib.compareBytes,h,u8_asymm h,hne]
theorem yr:∀{a b c:List UInt8},Op.bytesLess a b=true→Op.bytesLess b c=true→Op.bytesLess a c=true
 | _,[],_,h,_=>by simp[Op.bytesLess] at h
 | _,_::_,[],_,h=>by simp[Op.bytesLess] at h
 | [],_::_,_::_,_,_=>by simp[Op.bytesLess]
 | a::x,b::y,c::z,h1,h2=>by
   simp only[Op.bytesLess,Bool.or_eq_true,decide_eq_true_eq,Bool.and_eq_true,beq_iff_eq] at h1 h2 ⊢
   rcases h1 with h1 | ⟨rfl,h1⟩
   ·rcases h2 with h2 | ⟨rfl,h2⟩
    ·exact .inl (u8_trans h1 h2)
    ·exact .inl h1
   ·rcases h2 with h2 | ⟨rfl,h2⟩
    ·exact .inl h2
    ·exact .inr ⟨rfl,yr h1 h2⟩
theorem yw:∀{a b:List UInt8},leB a b=false→Op.bytesLess b a=true
 | [],[],h=>by simp[leB] at h
 | [],_::_,h=>by simp[leB,Op.bytesLess] at h
 | _::_,[],_=>by simp[Op.bytesLess]
 | a::x,b::y,h=>by
   simp only[leB,Op.bytesLess,Bool.or_eq_false_iff,decide_eq_false_iff_not,Bool.and_eq_false_iff,beq_eq_false_iff_ne] at h
   obtain⟨⟨h1,h2⟩,h3⟩:=h
   simp only[Op.bytesLess,Bool.or_eq_true,decide_eq_true_eq,Bool.and_eq_true,beq_iff_eq]
   rcases u8_tri a b with g | rfl | g
   ·exact absurd g h1
   ·refine .inr ⟨rfl,yw ?_⟩
    rcases h2 with h2 | h2
    ·exact absurd rfl h2
    ·have:¬x=y:=fun e=>h3 (by rw[e])
     simp[leB,h2,this]
   ·exact .inl g
def bsGo (f:Nat→Bool) (lo hi:Nat):Nat:=if h:lo<hi then (if f ((lo+hi) / 2) then bsGo f ((lo+hi) / 2+1) hi else bsGo f lo ((lo+hi) / 2)) else lo
termination_by hi - lo
decreasing_by all_goals omega
theorem yd {f:Nat→Bool} {lo hi:Nat} (h:lo<hi):bsGo f lo hi=if f ((lo+hi) / 2) then bsGo f ((lo+hi) / 2+1) hi else bsGo f lo ((lo+hi) / 2):=by rw[bsGo,dif_pos h]
theorem jA {f:Nat→Bool} {lo hi:Nat} (h:¬lo<hi):bsGo f lo hi=lo:=by rw[bsGo,dif_neg h]
theorem bsGo_le (f:Nat→Bool) (lo hi:Nat) (h:lo≤hi):lo≤bsGo f lo hi∧bsGo f lo hi≤hi:=by
 induction lo,hi using bsGo.induct (f:=f) with
 | case1 lo hi hlt hf ih=>rw[bsGo,dif_pos hlt,if_pos hf];have:=ih (by omega);omega
 | case2 lo hi hlt hf ih=>rw[bsGo,dif_pos hlt,if_neg hf];have:=ih (by omega);omega
 | case3 lo hi hlt=>rw[bsGo,dif_neg hlt];omega
theorem bsGo_spec {f:Nat→Bool} {n m:Nat} (hm:∀k,k<m→f k=true) (hn:∀k,m≤k→k<n→f k=false):∀{lo hi:Nat},lo≤m→m≤hi→hi≤n→bsGo f lo hi=m:=by
 intro lo hi
 induction lo,hi using bsGo.induct (f:=f) with
 | case1 lo hi hlt hf ih =>
   intro h1 h2 h3
   rw[bsGo,dif_pos hlt,if_pos hf]
   refine ih ?_ h2 h3
   apply Nat.succ_le_of_lt
   refine Nat.lt_of_not_le fun hle=>?_
   rw[hn _ hle (by omega)] at hf
   cases hf
 | case2 lo hi hlt hf ih =>
   intro h1 h2 h3
   rw[bsGo,dif_pos hlt,if_neg hf]
   refine ih h1 ?_ (by omega)
   refine Nat.le_of_not_lt fun hle=>?_
   exact hf (hm _ hle)
 | case3 lo hi hlt=>intro h1 h2 _;rw[bsGo,dif_neg hlt];omega
noncomputable def yD (l:List (List UInt8)) (s:List UInt8) (k:Nat):Bool:=match l[k]? with
 | some x=>decide (cmpB x s<0)
 | none=>false
noncomputable def bsN (l:List (List UInt8)) (s:List UInt8):Nat×Bool:=(bsGo (yD l s) 0 l.length,match l[bsGo (yD l s) 0 l.length]? with
 | some x=>cmpB x s==0
 | none=>false)
theorem bsN_at {l:List (List UInt8)} {s:List UInt8} (h:(bsN l s).2=true):l[(bsN l s).1]?=some s:=by
 unfold bsN at h ⊢
 simp only at h ⊢
 split at h
 ·rename_i x hx
  rw[hx,(jW x s).1 (by simpa using h)]
 ·cases h
theorem bsN_lt {l:List (List UInt8)} {s:List UInt8} (h:(bsN l s).2=true):(bsN l s).1<l.length:=(List.getElem?_eq_some_iff.1 (bsN_at h)).1
def UpN (l:List (List UInt8)):Prop:=l.Pairwise fun a b=>Op.bytesLess a b=true
theorem less_irr (a:List UInt8):Op.bytesLess a a=false:=by
 cases h:Op.bytesLess a a with
 | false=>rfl
 | true =>
   have h1:=(cmpB_lt a a).2 h
   have h2:=(jW a a).2 rfl
   omega
theorem bsN_of {l:List (List UInt8)} {s:List UInt8} (hl:UpN l) {j:Nat} (hj:l[j]?=some s):bsN l s=(j,true):=by
 obtain⟨hjl,hje⟩:=List.getElem?_eq_some_iff.1 hj
 have hg:bsGo (yD l s) 0 l.length=j:=by
  refine bsGo_spec (n:=l.length) (fun k hk=>?_) (fun k hk hkl=>?_) (Nat.zero_le _) (Nat.le_of_lt hjl) (Nat.le_refl _)
  ·have:=List.pairwise_iff_getElem.1 hl k j (by omega) hjl hk
   rw[hje] at this
   simp[yD,show k<l.length by omega,(cmpB_lt _ _).2 this]
  ·rcases Nat.lt_or_eq_of_le hk with h | rfl
   ·have:=List.pairwise_iff_getElem.1 hl j k hjl hkl h
    rw[hje] at this
    have h2:¬cmpB l[k] s<0:=fun h3=>by
     have:=yr this ((cmpB_lt _ _).1 h3)
     rw[less_irr] at this
     cases this
    simp[yD,hkl,h2]
   ·have h2:¬cmpB s s<0:=by rw[(jW s s).2 rfl];omega
    simp[yD,hjl,hje,h2]
 unfold bsN
 rw[hg,hj]
 simp[(jW s s).2 rfl]
end Go.Proofs.YtanbabpnlgfcpaaGreatDoor
namespace Go.AM
def zT {S α:Type} (f:S→α→Bool×S):S→List α→Bool×S
 | s,[]=>(false,s)
 | s,a::l=>if (f s a).1=true then (true,(f s a).2) else zT f (f s a).2 l
theorem foldT_app {S α:Type} (f:S→α→Bool×S):∀(s:S) (l m:List α),zT f s (l++m)=if (zT f s l).1=true then (true,(zT f s l).2) else zT f (zT f s l).2 m
 | s,[],m=>by simp[zT]
 | s,a::l,m=>by
   simp only[List.cons_append,zT]
   split
   ·simp
   ·exact foldT_app f _ l m
def wQ (succ:Nat→List Nat):Nat→List Int→Nat→Bool×List Int
 | 0,st,_=>(false,st)
 | n+1,st,i=>if st[i]?=some 0 then ((zT (wQ succ n) (st.set i 1) (succ i)).1,(zT (wQ succ n) (st.set i 1) (succ i)).2.set i 2) else (decide (st[i]?=some 1),st)
def yS (st:List Int):Nat:=st.count 0
theorem count_set {st:List Int} {i:Nat} {v:Int} (h:st[i]?=some 0) (hv:v≠0):yS (st.set i v)+1=yS st:=by
 unfold yS
 induction st generalizing i with
 | nil=>simp at h
 | cons a l ih =>
   cases i with
   | zero =>
     simp at h
     subst h
     simp[hv]
   | succ i =>
     have:=ih (i:=i) (by simpa using h)
     simp only[List.set_cons_succ,List.count_cons] at this ⊢
     omega
theorem count_set_le {st:List Int} {i:Nat} {v:Int} (hv:v≠0):yS (st.set i v)≤yS st:=by
 unfold yS
 induction st generalizing i with
 | nil=>simp
 | cons a l ih =>
   cases i with
   | zero=>simp[List.count_cons,hv]
   | succ i =>
     have:=ih (i:=i)
     simp only[List.set_cons_succ,List.count_cons] at this ⊢
     omega
structure Kept (st st':List Int):Prop where
 len:st'.length=st.length
 wh:yS st'≤yS st
 black:∀j:Nat,st[j]?=some 2→st'[j]?=some 2
 grey:∀j:Nat,st'[j]?=some 1↔st[j]?=some 1
 vals:(∀v∈st,v=0∨v=1∨v=2)→∀v∈st',v=0∨v=1∨v=2
theorem Kept.refl (st:List Int):Kept st st:=⟨rfl,Nat.le_refl _,fun _ h=>h,fun _=>Iff.rfl,fun h=>h⟩
theorem Kept.trans {a b c:List Int} (h:Kept a b) (g:Kept b c):Kept a c :=
 ⟨g.len.trans h.len,Nat.le_trans g.wh h.wh,fun j hj=>g.black j (h.black j hj),fun j=>(g.grey j).trans (h.grey j),fun hv=>g.vals (h.vals hv)⟩
theorem jX {f:List Int→Nat→Bool×List Int} (hf:∀st i,Kept st (f st i).2):∀(l:List Nat) (st:List Int),Kept st (zT f st l).2
 | [],st=>Kept.refl st
 | a::l,st=>by
   simp only[zT]
   split
   ·exact hf st a
   ·exact (hf st a).trans (jX hf l _)
theorem wp (succ:Nat→List Nat):∀(n:Nat) (st:List Int) (i:Nat),Kept st (wQ succ n st i).2
 | 0,st,i=>Kept.refl st
 | n+1,st,i=>by
   simp only[wQ]
   split
   ·rename_i h0
    have hil:i<st.length:=(List.getElem?_eq_some_iff.1 h0).1
    have hk:=jX (wp succ n) (succ i) (st.set i 1)
    obtain⟨r,hr⟩:∃r,(zT (wQ succ n) (st.set i 1) (succ i)).2=r:=⟨_,rfl⟩
    rw[hr] at hk
    simp only[hr]
    have hl:r.length=st.length:=by rw[hk.len,List.length_set]
    refine⟨by rw[List.length_set,hl],?_,fun j hj=>?_,fun j=>?_,fun hv v hm=>?_⟩
    ·have h1:=hk.wh
     have h2:=count_set h0 (v:=1) (by decide)
     have h3:=count_set_le (st:=r) (i:=i) (v:=2) (by decide)
     omega
    ·by_cases hij:i=j
     ·subst hij;rw[h0] at hj;simp at hj
     ·rw[List.getElem?_set_ne hij]
      exact hk.black j (by rw[List.getElem?_set_ne hij];exact hj)
    ·by_cases hij:i=j
     ·subst hij
      rw[List.getElem?_set_self (by omega),h0]
      simp
     ·rw[List.getElem?_set_ne hij,hk.grey,List.getElem?_set_ne hij]
    ·have hr':=hk.vals (fun v hm=>by
      rcases List.mem_or_eq_of_mem_set hm with h | rfl
      ·exact hv v h
      ·exact .inr (.inl rfl))
     rcases List.mem_or_eq_of_mem_set hm with h | rfl
     ·exact hr' v h
     ·exact .inr (.inr rfl)
   ·exact Kept.refl st
inductive Wayn (E:Nat→Nat→Prop):Nat→Nat→Prop
 | one {a b:Nat}:E a b→Wayn E a b
 | tail {a b c:Nat}:Wayn E a b→E b c→Wayn E a c
theorem Wayn.trans {E:Nat→Nat→Prop} {a b c:Nat} (h:Wayn E a b) (g:Wayn E b c):Wayn E a c:=by
 induction g with
 | one e=>exact .tail h e
 | tail _ e ih=>exact .tail ih e
theorem Wayn.head {E:Nat→Nat→Prop} {a c:Nat} (h:Wayn E a c):∃b,E a b∧(b=c∨Wayn E b c):=by
 induction h with
 | one e=>exact⟨_,e,.inl rfl⟩
 | tail _ e ih =>
   obtain⟨b,h1,h2⟩:=ih
   refine⟨b,h1,.inr ?_⟩
   rcases h2 with rfl | h2
   ·exact .one e
   ·exact .tail h2 e
theorem acc_wayn {E:Nat→Nat→Prop} {a:Nat} (h:Acc (fun x y=>E y x) a):¬Wayn E a a:=by
 induction h with
 | intro x _ ih =>
   intro hw
   obtain⟨y,h1,h2⟩:=hw.head
   rcases h2 with rfl | h2
   ·exact ih y h1 hw
   ·exact ih y h1 (.tail h2 h1)
theorem circF_false (succ:Nat→List Nat):∀(n:Nat) (st:List Int) (i:Nat),(∀v∈st,v=0∨v=1∨v=2)→yS st<n→i<st.length→(∀a,∀b∈succ a,b<st.length)→(∀j:Nat,st[j]?=some 2→Acc (fun x y=>x∈succ y) j)→(wQ succ n st i).1=false →
  (∀j:Nat,(wQ succ n st i).2[j]?=some 2→Acc (fun x y=>x∈succ y) j)∧(wQ succ n st i).2[i]?=some 2
 | 0,st,i,_,hw,_,_,_,_=>by omega
 | n+1,st,i,hv,hw,hi,hs,hb,hf=>by
   simp only[wQ] at hf ⊢
   split at hf
   ·rename_i h0
    rw[if_pos h0]
    simp only at hf ⊢
    have hil:i<st.length:=hi
    have hw1:=count_set h0 (v:=1) (by decide)
    have hv1:∀v∈st.set i 1,v=0∨v=1∨v=2:=fun v hm=>by
     rcases List.mem_or_eq_of_mem_set hm with h | rfl
     ·exact hv v h
     ·exact .inr (.inl rfl)
    have hb1:∀j:Nat,(st.set i 1)[j]?=some 2→Acc (fun x y=>x∈succ y) j:=fun j hj=>by
     by_cases hij:i=j
     ·subst hij;rw[List.getElem?_set_self hil] at hj;simp at hj
     ·rw[List.getElem?_set_ne hij] at hj;exact hb j hj
    have key:∀(l:List Nat) (s:List Int),(∀v∈s,v=0∨v=1∨v=2)→yS s<n→s.length=st.length→(∀b∈l,b<st.length)→(∀j:Nat,s[j]?=some 2→Acc (fun x y=>x∈succ y) j)→(zT (wQ succ n) s l).1=false →
      (∀j:Nat,(zT (wQ succ n) s l).2[j]?=some 2→Acc (fun x y=>x∈succ y) j)∧∀b∈l,(zT (wQ succ n) s l).2[b]?=some 2:=by
     intro l
     induction l with
     | nil=>intro s _ _ _ _ hsb _;exact⟨hsb,fun b hb=>by cases hb⟩
     | cons a l ih =>
       intro s hsv hsw hsl hlm hsb hff
       simp only[zT] at hff ⊢
       split at hff
       ·simp at hff
       ·rename_i hna
        rw[if_neg hna]
        have hk:=wp succ n s a
        obtain⟨g1,g2⟩:=circF_false succ n s a hsv hsw (by rw[hsl];exact hlm a (by simp)) (fun x b hb=>by rw[hsl];exact hs x b hb) hsb (by simpa using hna)
        obtain⟨g3,g4⟩:=ih _ (hk.vals hsv) (Nat.lt_of_le_of_lt hk.wh hsw) (hk.len.trans hsl) (fun b hb=>hlm b (by simp[hb])) g1 hff
        refine⟨g3,fun b hb=>?_⟩
        rcases List.mem_cons.1 hb with rfl | hb
        ·exact (jX (wp succ n) l _).black _ g2
        ·exact g4 b hb
    obtain⟨g1,g2⟩:=key (succ i) (st.set i 1) hv1 (by omega) (by rw[List.length_set]) (hs i) hb1 hf
    have hk:=jX (wp succ n) (succ i) (st.set i 1)
    refine⟨fun j hj=>?_,by rw[List.getElem?_set_self (by rw[hk.len,List.length_set];exact hil)]⟩
    by_cases hij:i=j
    ·subst hij
     exact⟨_,fun b hb=>g1 b (g2 b hb)⟩
    ·rw[List.getElem?_set_ne hij] at hj
     exact g1 j hj
   ·rename_i h0
    rw[if_neg h0]
    simp only at hf ⊢
    refine⟨hb,?_⟩
    have hx:st[i]?=some st[i]:=List.getElem?_eq_getElem hi
    have h1:=hv _ (List.getElem_mem hi)
    rw[hx] at h0 hf ⊢
    rcases h1 with h | h | h
    ·rw[h] at h0;exact (h0 rfl).elim
    ·rw[h] at hf;simp at hf
    ·rw[h]
theorem circF_true (succ:Nat→List Nat):∀(n:Nat) (st:List Int) (i:Nat),(∀g:Nat,st[g]?=some 1→Wayn (fun a b=>b∈succ a) g i)→(wQ succ n st i).1=true→∃c,Wayn (fun a b=>b∈succ a) c c
 | 0,st,i,_,h=>by simp[wQ] at h
 | n+1,st,i,hg,h=>by
   simp only[wQ] at h
   split at h
   ·rename_i h0
    simp only at h
    have hil:i<st.length:=(List.getElem?_eq_some_iff.1 h0).1
    have key:∀(l:List Nat) (s:List Int),(∀g:Nat,s[g]?=some 1↔(st.set i 1)[g]?=some 1)→(∀b∈l,b∈succ i)→(zT (wQ succ n) s l).1=true→∃c,Wayn (fun a b=>b∈succ a) c c:=by
     intro l
     induction l with
     | nil=>intro s _ _ hh;simp[zT] at hh
     | cons a l ih =>
       intro s hsg hls hh
       simp only[zT] at hh
       split at hh
       ·rename_i ha
        refine circF_true succ n s a (fun g hgs=>?_) ha
        have hgs:=(hsg g).1 hgs
        have hE:a∈succ i:=hls a (by simp)
        by_cases hig:i=g
        ·subst hig;exact .one hE
        ·rw[List.getElem?_set_ne hig] at hgs
         exact .tail (hg g hgs) hE
       ·exact ih _ (fun g=>((wp succ n s a).grey g).trans (hsg g)) (fun b hb=>hls b (by simp[hb])) hh
    exact key (succ i) (st.set i 1) (fun _=>Iff.rfl) (fun _ hb=>hb) h
   ·simp at h
    exact⟨i,hg i h⟩
theorem countP_lt {α:Type} {p q:α→Bool}:∀{l:List α},(∀x∈l,p x=true→q x=true)→(∃x∈l,q x=true∧p x=false)→l.countP p<l.countP q
 | [],_,⟨x,hx,_⟩=>by cases hx
 | a::l,h,⟨x,hx,h1,h2⟩=>by
   have hle:l.countP p≤l.countP q:=List.countP_mono_left fun y hy=>h y (by simp[hy])
   rcases List.mem_cons.1 hx with rfl | hx
   ·rw[List.countP_cons,List.countP_cons,h1,h2];simp;omega
   ·have:=countP_lt (l:=l) (fun y hy=>h y (by simp[hy])) ⟨x,hx,h1,h2⟩
    rw[List.countP_cons,List.countP_cons]
    have ha:=h a (by simp)
    cases hp:p a
    ·simp only[Bool.false_eq_true,if_false]
     split<;>omega
    ·rw[ha hp];simp;omega
open Classical in
noncomputable def rankG (E:Nat→Nat→Prop) (N i:Nat):Nat:=(List.range N).countP fun j=>decide (Wayn E i j)
theorem rankG_le (E:Nat→Nat→Prop) (N i:Nat):rankG E N i≤N:=by
 have:=List.countP_le_length (p:=fun j=>@decide (Wayn E i j) (Classical.propDecidable _)) (l:=List.range N)
 rwa [List.length_range] at this
open Classical in
theorem rankG_lt {E:Nat→Nat→Prop} {N i j:Nat} (hj:j<N) (he:E i j) (hn:¬Wayn E j j):rankG E N j<rankG E N i:=by
 refine countP_lt (fun k _ hk=>?_) ⟨j,List.mem_range.2 hj,?_,?_⟩
 ·exact decide_eq_true ((Wayn.one he).trans (of_decide_eq_true hk))
 ·exact decide_eq_true (.one he)
 ·exact decide_eq_false hn
structure Bfs {α:Type} (next:α→List α) (start out queue:List α):Prop where
 nodup:out.Nodup
 strt:∀a∈start,a∈out∨a∈queue
 step:∀a∈out,∀b∈next a,b∈out∨b∈queue
 only:∀(Q:α→Prop),(∀a∈start,Q a)→(∀a b,Q a→b∈next a→Q b)→(∀a∈out,Q a)∧∀a∈queue,Q a
theorem Bfs.begin {α:Type} (next:α→List α) (start:List α):Bfs next start [] start :=
 ⟨.nil,fun a h=>.inr h,(fun a h=>by cases h),fun Q h _=>⟨(fun a h=>by cases h),h⟩⟩
theorem Bfs.skip {α:Type} {next:α→List α} {start out queue:List α} {a:α} (h:Bfs next start out (a::queue)) (ha:a∈out):Bfs next start out queue:=by
 refine⟨h.nodup,fun b hb=>?_,fun b hb c hc=>?_,fun Q h1 h2=>⟨(h.only Q h1 h2).1,fun b hb=>(h.only Q h1 h2).2 b (by simp[hb])⟩⟩
 ·rcases h.strt b hb with h | h
  ·exact .inl h
  ·rcases List.mem_cons.1 h with rfl | h
   ·exact .inl ha
   ·exact .inr h
 ·rcases h.step b hb c hc with h | h
  ·exact .inl h
  ·rcases List.mem_cons.1 h with rfl | h
   ·exact .inl ha
   ·exact .inr h
theorem Bfs.take {α:Type} {next:α→List α} {start out queue:List α} {a:α} (h:Bfs next start out (a::queue)) (ha:a ∉ out):Bfs next start (out++[a]) (queue++next a):=by
 have key:∀b,b∈out∨b∈a::queue→b∈out++[a]∨b∈queue++next a:=fun b hb=>by
  simp only[List.mem_append,List.mem_cons,List.not_mem_nil,or_false] at hb ⊢
  rcases hb with hb | hb | hb
  ·exact .inl (.inl hb)
  ·exact .inl (.inr hb)
  ·exact .inr (.inl hb)
 refine⟨?_,fun b hb=>key b (h.strt b hb),fun b hb c hc=>?_,fun Q h1 h2=>?_⟩
 ·rw[List.nodup_append]
  refine⟨h.nodup,by simp,fun x hx y hy=>?_⟩
  rintro rfl
  simp at hy
  subst hy
  exact ha hx
 ·rcases List.mem_append.1 hb with hb | hb
  ·exact key c (h.step b hb c hc)
  ·simp at hb
   subst hb
   exact .inr (List.mem_append.2 (.inr hc))
 ·obtain⟨g1,g2⟩:=h.only Q h1 h2
  have hq:Q a:=g2 a (by simp)
  refine⟨fun b hb=>?_,fun b hb=>?_⟩
  ·rcases List.mem_append.1 hb with hb | hb
   ·exact g1 b hb
   ·simp at hb;subst hb;exact hq
  ·rcases List.mem_append.1 hb with hb | hb
   ·exact g2 b (by simp[hb])
   ·exact h2 a b hq hb
inductive From {α:Type} (next:α→List α) (start:List α):α→Prop
 | here {a:α}:a∈start→From next start a
 | there {a b:α}:From next start a→b∈next a→From next start b
theorem Bfs.done {α:Type} {next:α→List α} {start out:List α} (h:Bfs next start out []) (a:α):a∈out↔From next start a:=by
 constructor
 ·exact (h.only (From next start) (fun _=>.here) (fun _ _=>.there)).1 a
 ·intro hf
  induction hf with
  | here hm=>exact (h.strt _ hm).resolve_right (by simp)
  | there _ hb ih=>exact (h.step _ ih _ hb).resolve_right (by simp)
def fixT (F:Nat→(Nat→Bool)→Bool):Nat→Nat→Bool
 | 0,_=>false
 | n+1,i=>F i (fixT F n)
theorem fixT_same {F:Nat→(Nat→Bool)→Bool} {succ:Nat→List Nat} {rk:Nat→Nat} (hF:∀i f g,(∀j∈succ i,f j=g j)→F i f=F i g) (hr:∀i,∀j∈succ i,rk j<rk i):∀(r i m k:Nat),rk i≤r→r<m→r<k→fixT F m i=fixT F k i
 | r,i,m,k,h,hm,hk=>by
   obtain⟨m,rfl⟩:∃q,m=q+1:=⟨m - 1,by omega⟩
   obtain⟨k,rfl⟩:∃q,k=q+1:=⟨k - 1,by omega⟩
   simp only[fixT]
   refine hF i _ _ fun j hj=>?_
   have:=hr i j hj
   obtain⟨r',rfl⟩:∃q,r=q+1:=⟨r - 1,by omega⟩
   exact fixT_same hF hr r' j m k (by omega) (by omega) (by omega)
theorem fixT_eq {F:Nat→(Nat→Bool)→Bool} {succ:Nat→List Nat} {rk:Nat→Nat} {N:Nat} (hF:∀i f g,(∀j∈succ i,f j=g j)→F i f=F i g) (hr:∀i,∀j∈succ i,rk j<rk i) (hN:∀i,rk i≤N) (i:Nat):fixT F (N+1) i=F i (fixT F (N+1)):=by
 show F i (fixT F N)=_
 refine hF i _ _ fun j hj=>?_
 have h1:=hr i j hj
 have h2:=hN i
 exact fixT_same hF hr (rk j) j N (N+1) (Nat.le_refl _) (by omega) (by omega)
end Go.AM
