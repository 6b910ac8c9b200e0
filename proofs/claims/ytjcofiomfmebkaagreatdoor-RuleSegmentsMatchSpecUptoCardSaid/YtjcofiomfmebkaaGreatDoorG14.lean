/-
value.Check: what it computes.
-/
import Derived.Test.YtjcofiomfmebkaaGreatDoorG13
import Derived.Test.YtjcofiomfmebkaaGreatDoorG10
import Derived.Lib.Bytealg
set_option maxRecDepth 8000
namespace Go.Proofs.YtjcofiomfmebkaaGreatDoor
open Go.Proofs.Tryz
open Go.RowKit Go.AM
def zlm (k:Int):Bool:=decide (k<0)||decide (5<k)
def Wk (k n:Int) (s:List UInt8) (i f:Nat):Bool:=n != 0&&k != 1&&k != 2||!(s==[])&&k != 3||decide (0<i)&&k != 4||decide (0<f)&&k != 5
def KA (k n:Int):Bool:=k==1&&n != 0&&n != 1
def KB (k n:Int):Bool:=k==2&&(decide (n≤-1000000000000000)||decide (1000000000000000≤n))
def zoi (i f:Nat):Bool:=decide ((100:Int)<i)||decide ((100:Int)<f)
def zoj (s:List UInt8):Bool:=decide ((500:Int)<s.length)
def Qa (k n:Int) (s:List UInt8) (i f:Nat):Int :=
 if zlm k then 4 else if Wk k n s i f then 3 else if KA k n||KB k n then 1 else if zoj s then 2 else if zU 32 126 s then (if zoi i f then 2 else 0) else 1
def leB (a b:List UInt8):Bool:=Op.bytesLess a b||a==b
def zfp (a:List UInt8):Bool:=a.isEmpty||decide ((60:Int)<a.length)||!zU 32 126 a
def yK (prev:Option (List UInt8)) (a:List UInt8):Bool:=match prev with
 | none=>false
 | some p=>leB a p
mutual
def Val.fault:Val→Int
 | .mk k n s is fs=>if Qa k n s is.length fs.length=0 then (if faultV is=0 then faultF none fs else faultV is) else Qa k n s is.length fs.length
def faultV:List Val→Int
 | []=>0
 | v::l=>if v.fault=0 then faultV l else v.fault
def faultF:Option (List UInt8)→List (List UInt8×Val)→Int
 | _,[]=>0
 | prev,(a,v)::l=>if zfp a then 5 else if yK prev a then 8 else if v.fault=0 then faultF (some a) l else v.fault
end
theorem za4 (v:Val):v.fault=if Qa v.kind v.n v.s v.items.length v.fields.length=0 then (if faultV v.items=0 then faultF none v.fields else faultV v.items) else Qa v.kind v.n v.s v.items.length v.fields.length:=by cases v;rfl
theorem zfq:za prog 71 (GV fun v=>boo (Wk v.kind v.n v.s v.items.length v.fields.length)) :=
 zL (fn:=f71) yl ⟨_,func71,by kernel_rfl,rfl,by kernel_rfl⟩ false [] _ fun args r h=>by
  obtain⟨v,rfl,hv,rfl⟩:=Wj h
  exact⟨by simp[f71],_,zb rfl (by simp[f71,Wk]),zK _⟩
noncomputable abbrev Ck (n:Nat):Ctx:=zC prog [(50,zd false [] (FV (fun v=>int v.fault) n)),(71,GV fun v=>boo (Wk v.kind v.n v.s v.items.length v.fields.length)),(72,zd false [] (FS (zU 32 126)))]
@[simp] theorem qk (n:Nat):yj (Ck n) 72:=qN (by rfl) (zi _ _)
theorem KC {l:List Val} {k:Nat} (h:k<l.length):faultV (l.drop k)=if l[k].fault=0 then faultV (l.drop (k+1)) else l[k].fault:=by
 rw[List.drop_eq_getElem_cons h,faultV]
theorem KD {l:List (List UInt8×Val)} {k:Nat} (h:k<l.length) (p:Option (List UInt8)):faultF p (l.drop k)=if zfp l[k].1 then 5 else if yK p l[k].1 then 8 else if l[k].2.fault=0 then faultF (some l[k].1) (l.drop (k+1)) else l[k].2.fault:=by
 rw[List.drop_eq_getElem_cons h,faultF]
def wC (l:List (List UInt8×Val)) (k:Nat):Option (List UInt8):=if k=0 then none else (l[k - 1]?).map (·.1)
theorem Xf (n:Nat) (v:Val) (h:v.vb≤lim∧v.vb≤n+1):zg (Ck n) f50 [.agg v.enc]=some (int v.fault):=by
 have hvb:=j9 v
 have hl1:=qD v.items
 have hl2:=qQ v.fields
 obtain⟨ha,hb⟩:=h
 unfold lim at ha
 have hf:=za4 v
 have hsp:=fun hp nx=>vv (fun v=>boo (Wk v.kind v.n v.s v.items.length v.fields.length)) v hp nx ha
 have hsl:v.s.length≤lim:=by unfold lim;omega
 refine zb rfl ?_
 have e1:(decide (v.kind<0)||decide (5<v.kind))=zlm v.kind:=rfl
 have e2:(v.kind==1&&v.n != 0&&v.n != 1)=KA v.kind v.n:=rfl
 have e3:(v.kind==2&&(decide (v.n≤-1000000000000000)||decide (1000000000000000≤v.n)))=KB v.kind v.n:=rfl
 have e4:(decide ((100:Int)<v.items.length)||decide ((100:Int)<v.fields.length))=zoi v.items.length v.fields.length:=rfl
 have e5:decide ((500:Int)<v.s.length)=zoj v.s:=rfl
 cases c1:zlm v.kind
 case true=>simp[e1,c1,hf,Qa,f50]
 cases c2:Wk v.kind v.n v.s v.items.length v.fields.length
 case true=>simp[e1,c1,hsp,c2,hf,Qa,f50]
 cases c3:KA v.kind v.n
 case true=>simp[e1,c1,hsp,c2,e2,c3,hf,Qa,f50]
 cases c4:KB v.kind v.n
 case true=>simp[e1,c1,hsp,c2,e2,c3,e3,c4,hf,Qa,f50]
 cases c5:zoj v.s
 case true=>simp[e1,c1,hsp,c2,e2,c3,e3,c4,e5,c5,hf,Qa,f50]
 cases c6:zU 32 126 v.s
 case false=>simp[e1,c1,hsp,c2,e2,c3,e3,c4,e5,c5,c6,hsl,hf,Qa,f50]
 cases c7:zoi v.items.length v.fields.length
 case true=>simp[e1,c1,hsp,c2,e2,c3,e3,c4,e5,c5,c6,hsl,e4,c7,hf,Qa,f50]
 have hh:Qa v.kind v.n v.s v.items.length v.fields.length=0:=by simp[Qa,c1,c2,c3,c4,c5,c6,c7]
 rw[hh,if_pos rfl] at hf
 simp[e1,c1,hsp,c2,e2,c3,e3,c4,e5,c5,c6,hsl,e4,c7]
 refine zu (fun k σ hp nx=>σ 1=.ref 0 0 0∧σ 70=.sl 5 (v.items.map Val.enc)∧σ 71=int v.items.length∧σ 72=int k∧1≤nx∧hp 0=some ⟨61,5,false,[v.enc]⟩∧faultV v.items=faultV (v.items.drop k)) v.items.length
  ⟨by simp,by simp,by simp,by simp,by simp,by simp,by simp⟩ ?_
 rintro k σ hp nx hk ⟨h1,h70,h71,h72,hnx,b0,he⟩
 have n0:¬0=nx:=by omega
 by_cases hlt:k<v.items.length
 ·have hm:=wA (List.getElem_mem hlt)
  have hw:IntKind.i64.wrap ((k:Int)+1)=(k:Int)+1:=zc (by omega) (by omega)
  have hcall:=fun hp nx=>Yp (fun v=>int v.fault) n v.items[k] hp nx ⟨by unfold lim;omega,by omega⟩
  rw[KC hlt] at he
  by_cases hz:v.items[k].fault=0
  ·rw[if_pos hz] at he
   simp[h1,h70,h71,h72,hlt,hcall,hz,hw]
   and_intros<;>first | omega | exact he | simp[n0,b0]
  ·rw[if_neg hz] at he
   have hz2:(v.items[k].fault != 0)=true:=by simpa using hz
   rw[he,if_neg hz] at hf
   simp[h1,h70,h71,h72,hlt,hcall,hz2,hf,f50]
 ·obtain rfl:k=v.items.length:=by omega
  rw[List.drop_length] at he
  have he:faultV v.items=0:=by rw[he];rfl
  rw[he,if_pos rfl] at hf
  simp[h1,h70,h71,h72,b0]
  refine zu (fun k σ hp nx=>σ 1=.ref 0 0 0∧σ 83=.sl 6 (v.fields.map wF)∧σ 84=int v.fields.length∧σ 85=int k∧1≤nx∧hp 0=some ⟨61,5,false,[v.enc]⟩∧v.fault=faultF (wC v.fields k) (v.fields.drop k)) v.fields.length
   ⟨by simp[h1],by simp,by simp,by simp,hnx,b0,by simp[hf,wC]⟩ ?_
  clear h1 h70 h71 h72 hnx b0 hlt hk n0 nx hp σ hf
  rintro k σ hp nx hk ⟨h1,h83,h84,h85,hnx,b0,hf⟩
  have n0:¬0=nx:=by omega
  by_cases hlt:k<v.fields.length
  ·have hm:=yA (List.getElem_mem hlt)
   have hw:IntKind.i64.wrap ((k:Int)+1)=(k:Int)+1:=zc (by omega) (by omega)
   have hnl:v.fields[k].1.length≤lim:=by unfold lim;omega
   have hcall:=fun hp nx=>Yp (fun v=>int v.fault) n v.fields[k].2 hp nx ⟨by unfold lim;omega,by omega⟩
   have en:(v.fields[k].1.isEmpty||decide ((60:Int)<v.fields[k].1.length)||!zU 32 126 v.fields[k].1)=zfp v.fields[k].1:=rfl
   rw[KD hlt] at hf
   cases d1:zfp v.fields[k].1
   case true=>simp[h1,h83,h84,h85,hlt,hnl,en,d1,hf,f50]
   have hpv:wC v.fields (k+1)=some v.fields[k].1:=by simp[wC,hlt]
   simp only[d1,Bool.false_eq_true,if_false] at hf
   by_cases k0:k=0
   ·subst k0
    simp only[wC,yK,if_true,Bool.false_eq_true,if_false] at hf
    by_cases hz:v.fields[0].2.fault=0
    ·rw[if_pos hz] at hf
     have w1:IntKind.i64.wrap 1=1:=zc (by omega) (by omega)
     simp[h1,h83,h84,h85,hlt,hnl,en,d1,hcall,hz,w1]
     and_intros<;>first | omega | (rw[hf];rw[hpv];simp;done) | simp[n0,b0]
    ·rw[if_neg hz] at hf
     have hz2:(v.fields[0].2.fault != 0)=true:=by simpa using hz
     simp[h1,h83,h84,h85,hlt,hnl,en,d1,hcall,hz2,hf,f50]
   ·obtain⟨j,rfl⟩:∃j,k=j+1:=⟨k - 1,by omega⟩
    have hj:j<v.fields.length:=by omega
    have wj:IntKind.i64.wrap ((j:Int)+1 - 1)=(j:Int):=by rw[zc (by omega) (by omega)];omega
    have wj':IntKind.i64.wrap (j:Int)=(j:Int):=zc (by omega) (by omega)
    have j1:((j:Int)+1).toNat=j+1:=by omega
    have j2:0<(j:Int)+1:=by omega
    have j3:0≤(j:Int)+1:=by omega
    have j4:(j:Int)+1<v.fields.length:=by omega
    have wk:IntKind.i64.wrap ((j:Int)+1+1)=(j:Int)+1+1:=zc (by omega) (by omega)
    have el:(Op.bytesLess v.fields[j+1].1 v.fields[j].1||v.fields[j+1].1==v.fields[j].1)=leB v.fields[j+1].1 v.fields[j].1:=rfl
    have hpj:wC v.fields (j+1)=some v.fields[j].1:=by simp[wC,hj]
    simp only[hpj,yK] at hf
    cases d2:leB v.fields[j+1].1 v.fields[j].1
    case true =>
     simp only[d2,if_true] at hf
     simp[h1,h83,h84,h85,hlt,hj,hnl,en,d1,hcall,b0,n0,wj,wj',j1,j2,j3,j4,el,d2,hf,f50]
    simp only[d2,Bool.false_eq_true,if_false] at hf
    by_cases hz:v.fields[j+1].2.fault=0
    ·rw[if_pos hz] at hf
     simp[h1,h83,h84,h85,hlt,hj,hnl,en,d1,hcall,b0,n0,wj,wj',j1,j2,j3,j4,el,d2,hz,wk]
     and_intros<;>first | omega | (rw[hf];rw[hpv]) | simp[n0,b0]
    ·rw[if_neg hz] at hf
     have hz2:(v.fields[j+1].2.fault != 0)=true:=by simpa using hz
     simp[h1,h83,h84,h85,hlt,hj,hnl,en,d1,hcall,b0,n0,wj,wj',j1,j2,j3,j4,el,d2,hz2,hf,f50]
  ·obtain rfl:k=v.fields.length:=by omega
   rw[List.drop_length] at hf
   have hf:v.fault=0:=by rw[hf];rfl
   simp[h1,h83,h84,h85,hf,f50]
set_option maxRecDepth 100000 in
theorem KE:∀n,za prog 50 (zd false [] (FV (fun v=>int v.fault) n)):=by
 intro n
 induction n with
 | zero=>exact zfn ⟨_,func50,by kernel_rfl,by kernel_rfl⟩
 | succ n ih =>
   have hg:AM.Good (Ck n) (fun g=>[72].contains g):=zk mixed ⟨ih,by simp,zfq,by simp,X0,fun _=>zi _ _,trivial⟩
   exact zL (fn:=f50) hg ⟨_,func50,by kernel_rfl,rfl,by kernel_rfl⟩ false [] _ fun args r h=>by
    obtain⟨v,rfl,hv,rfl⟩:=Wj h
    exact⟨Nat.le_trans (Nat.le_refl 1) (by decide),_,Xf n v hv,zK _⟩
def Val.check (v:Val):Int:=if decide ((1000:Int)<v.parts)||decide ((8:Int)<v.levels) then 2 else v.fault
noncomputable abbrev Cch:Ctx:=zC prog [(50,GV fun v=>int v.fault),(49,GV fun v=>.tup [int v.parts,int v.levels])]
theorem KF:za prog 27 (GV fun v=>int v.check) :=
 zL (fn:=f27) (zk (q:=[]) mixed ⟨KE lim,by simp,zfo lim,by simp,trivial⟩:AM.Good Cch _) ⟨_,func27,by kernel_rfl,rfl,by kernel_rfl⟩ false [] _ fun args r h=>by
  obtain⟨v,rfl,hv,rfl⟩:=Wj h
  have h1:=fun hp nx=>vv (fun v=>int v.fault) v hp nx hv.1
  have h2:=fun hp nx=>vv (fun v=>.tup [int v.parts,int v.levels]) v hp nx hv.1
  refine⟨by simp[f27],_,zb rfl ?_,zK _⟩
  cases hc:(decide ((1000:Int)<v.parts)||decide ((8:Int)<v.levels))
  ·simp[h1,h2,hc,f27,Val.check]
  ·simp[h1,h2,hc,f27,Val.check]
def vj (e s:Nat):List PV→Option (Option Blk)
 | [.nil]=>some none
 | [.em]=>some (some ⟨e,s,true,[]⟩)
 | [.sl s' es]=>if s'=s∧es≠[]∧es.length≤lim then some (some ⟨e,s,true,es⟩) else none
 | _=>none
def vw (e s:Nat) (es:List (List PV)) (y:PV) (nx:Nat):PV×(Hp→Hp)×Nat:=match y with
 | .nil=>(.nil,fun h=>h,nx)
 | _=>(.own nx 0 es.length,fun h=>upd h nx (some ⟨e,s,true,es⟩),nx+1)
theorem X8 {e s:Nat} {es:List (List PV)} {y:PV} (h:SlOf s es y) (hl:es.length≤lim) (hp:Hp) (nx:Nat):qP [] (vj e s) [y] hp nx=some ((vw e s es y nx).1,(vw e s es y nx).2.1 hp,(vw e s es y nx).2.2):=by
 cases h with
 | nil=>rfl
 | em=>rfl
 | sl=>simp at hl;simp[qP,qw,vj,vw,hl]
theorem zfr {e s:Nat} {es:List (List PV)} {y:PV} {nx:Nat} (hp:Hp) {id:Nat} (h:id<nx):(vw e s es y nx).2.1 hp id=hp id:=by
 unfold vw
 split
 ·rfl
 ·exact zq _ _ _ _ (by omega)
theorem ziV {e s:Nat} {es:List (List PV)} {y:PV} (h:SlOf s es y) (hp:Hp) (nx:Nat):OwnS ((vw e s es y nx).2.1 hp) (vw e s es y nx).2.2 e s (vw e s es y nx).1 es:=by
 cases h with
 | nil=>exact .inl ⟨rfl,rfl⟩
 | em=>exact .inr ⟨nx,by simp[vw],rfl,by simp[vw]⟩
 | sl=>exact .inr ⟨nx,by simp[vw],rfl,by simp[vw]⟩
theorem zfs (args:List PV) (r:Option Blk) (h:vj 61 5 args=some r):args.length≤f116.ntmps∧∃x hp nx,q8 C0 f116 args (fun _=>none) 0=some (x,hp,nx)∧zcl r x hp nx:=by
 unfold vj at h
 split at h
 ·injection h with h;subst h
  exact⟨by simp[f116],zM rfl (by simp[QZ,QY,f116,zcl])⟩
 ·injection h with h;subst h
  exact⟨by simp[f116],zM rfl (by simp[QZ,QY,f116,zcl,zh,qY,AM.view,maxLen,zo,zf])⟩
 ·rename_i es
  split at h
  ·rename_i hc
   obtain⟨rfl,hne,hl⟩:=hc
   injection h with h;subst h
   cases es with
   | nil=>exact absurd rfl hne
   | cons c es =>
     unfold lim at hl
     simp at hl
     have m1:es.length+1≤maxLen:=by unfold maxLen;omega
     have m2:(es.length+1)*80≤140737488355328:=by omega
     refine⟨by simp[f116],zM rfl ?_⟩
     simp[QZ,QY,f116,zcl,zh,qY,AM.view,zo,zf,m1,m2]
  ·cases h
 ·cases h
theorem zdb:za prog 116 (qP [] (vj 61 5)) :=
 jH (fn:=f116) (code:=_) yl ⟨func116,by kernel_rfl,rfl,by kernel_rfl⟩ [] _ zfs
def Val.inner (v:Val):List Val:=v.items++v.fields.map (·.2)
def vx (v:Val) (k:Nat):List (List PV):=(v.items++(v.fields.take k).map (·.2)).map Val.enc
theorem zdc (v:Val):vx v 0=v.items.map Val.enc:=by simp[vx]
theorem zdd {v:Val} {k:Nat} (h:k<v.fields.length):vx v (k+1)=vx v k++[v.fields[k].2.enc]:=by
 unfold vx
 rw[List.take_succ_eq_append_getElem h,List.map_append (f:=fun x:List UInt8×Val=>x.2),←List.append_assoc,List.map_append (f:=Val.enc)]
 rfl
theorem zde (v:Val):vx v v.fields.length=v.inner.map Val.enc:=by simp[vx,Val.inner]
theorem Xg (v:Val) (k:Nat):(vx v k).length≤v.items.length+v.fields.length:=by simp[vx];omega
noncomputable abbrev Cin:Ctx:=zC prog [(116,qP [] (vj 61 5))]
theorem ziW (v:Val) (hv:v.vb≤lim) (y:PV) (hy:SlOf 5 (v.items.map Val.enc) y) :
  ∃r0,zg Cin f85 [.agg (v.enc.set 3 y)]=some r0∧∀(w:World) (S:Nat→Prop) (u:Value),RepC w S r0 u→RepC w S (.sl 5 (v.inner.map Val.enc)) u:=by
 have hvb:=j9 v
 have hl1:=qD v.items
 have hl2:=qQ v.fields
 have hcl:=fun hp nx=>X8 (e:=61) hy (by simp;omega) hp nx
 have hown:=fun hp nx=>ziV (e:=61) hy hp nx
 unfold lim at hv
 have henc:v.enc.set 3 y=[int v.kind,int v.n,str v.s,y,.sl 6 (v.fields.map wF)]:=by rw[js];rfl
 have hfin:∀{code},f85.body=some code→EvC Cin code ⟨yF [.agg (v.enc.set 3 y)],fun _=>none,0⟩ (zcL Cin.P f85 (zfd (.sl 5 (v.inner.map Val.enc))))→∃r0,zg Cin f85 [.agg (v.enc.set 3 y)]=some r0∧∀(w:World) (S:Nat→Prop) (u:Value),RepC w S r0 u→RepC w S (.sl 5 (v.inner.map Val.enc)) u:=by
  intro code hb h
  obtain⟨r0,h1,h2⟩:=Zo hb h
  exact⟨r0,h1,fun w S u hr=>zg5 hr h2⟩
 refine hfin rfl ?_
 rw[henc]
 have ho:=fun hp=>zfr (e:=61) (s:=5) (es:=v.items.map Val.enc) (y:=y) (nx:=1) hp (id:=0) (by omega)
 simp[hy.cell,hcl,ho]
 refine zu (fun k σ hp nx=>σ 10=.sl 6 (v.fields.map wF)∧σ 11=int v.fields.length∧σ 12=int k∧OwnS hp nx 61 5 (σ 3) (vx v k)) v.fields.length
  ⟨by simp,by simp,by simp,by rw[zdc];simpa using hown _ _⟩ ?_
 rintro k σ hp nx hk ⟨h10,h11,h12,hO⟩
 have hle:=Xg v k
 by_cases hlt:k<v.fields.length
 ·have hw:IntKind.i64.wrap ((k:Int)+1)=(k:Int)+1:=zc (by omega) (by omega)
  have hO1:=hO.more (some ⟨95,6,false,[str v.fields[k].1::v.fields[k].2.enc]⟩)
  have hap:=hO1.append1 (P:=prog) (t:=38) (c:=v.fields[k].2.enc) zvM zvN zwN zvO rfl (by omega) (by unfold maxLen;omega) (by omega)
  have hbs:∀hp nx,zh prog hp nx 38 1 [(0,.agg v.fields[k].2.enc)]=some (.own nx 0 1,upd hp nx (some ⟨61,5,true,[v.fields[k].2.enc]⟩),nx+1):=fun hp nx=>by
   simp only[zh,zvM,zvN,zvO,zf,ZY]
   simp[zo]
  simp[h10,h11,h12,hlt,hbs,hw,hap]
  refine⟨hlt,?_⟩
  rw[zdd hlt]
  exact OwnS.after
 ·obtain rfl:k=v.fields.length:=by omega
  rw[zde] at hO
  have:=hO.freeze nx
  simp[h10,h11,h12,f85]
  exact this
theorem zft:za prog 85 (GV fun v=>.sl 5 (v.inner.map Val.enc)) :=
 xw (fn:=f85) (zk (q:=[]) mixed ⟨zdb,by simp,trivial⟩:AM.Good Cin _) ⟨_,func85,by kernel_rfl,rfl,by kernel_rfl⟩ false [] _ fun args r h w S vs hz=>by
  obtain⟨v,rfl,hv,rfl⟩:=Wj h
  obtain⟨u,hu,hr⟩:=xq hz
  subst hu
  obtain⟨y,hy,hr2⟩:=Kp hr (j:=3) (s:=5) (es:=v.items.map Val.enc) (by simp)
  obtain⟨r0,h1,h2⟩:=ziW v hv.1 y hy
  exact⟨_,r0,.cons hr2 .nil,by simp[f85],h1,h2⟩
def X9 (s:Int×Bool):Bool:=s.2||decide (1000<s.1)
def zfu (s r:Int×Bool):Int×Bool:=if X9 s then s else (s.1+r.1,s.2||r.2)
mutual
def Val.rp:Val→Int→Int×Bool
 | .mk _ _ _ is fs,l=>rpF fs l (rpV is l (1,decide (8<l)))
def rpV:List Val→Int→Int×Bool→Int×Bool
 | [],_,s=>s
 | v::vs,l,s=>rpV vs l (zfu s (v.rp (l+1)))
def rpF:List (List UInt8×Val)→Int→Int×Bool→Int×Bool
 | [],_,s=>s
 | (_,v)::vs,l,s=>rpF vs l (zfu s (v.rp (l+1)))
end
def rpI (xs:List Val) (l:Int) (s:Int×Bool):Int×Bool:=xs.foldl (fun s x=>zfu s (x.rp (l+1))) s
theorem zp3:∀(xs:List Val) (l:Int) (s:Int×Bool),rpV xs l s=rpI xs l s
 | [],_,_=>rfl
 | v::vs,l,s=>by simp only[rpV,rpI,List.foldl_cons];exact zp3 vs l _
theorem zp4:∀(xs:List (List UInt8×Val)) (l:Int) (s:Int×Bool),rpF xs l s=rpI (xs.map (·.2)) l s
 | [],_,_=>rfl
 | (a,v)::vs,l,s=>by simp only[rpF,rpI,List.map_cons,List.foldl_cons];exact zp4 vs l _
theorem ztf (v:Val) (l:Int):v.rp l=rpI v.inner l (1,decide (8<l)):=by
 cases v with
 | mk k n s is fs=>simp only[Val.rp,zp3,zp4,Val.inner,Val.items,Val.fields,rpI,List.foldl_append]
theorem za5 {xs:List Val} {l:Int} {s:Int×Bool} (h:X9 s=true):rpI xs l s=s:=by
 induction xs with
 | nil=>rfl
 | cons x xs ih=>simp only[rpI,List.foldl_cons,zfu,h,if_true];exact ih
theorem zok {xs:List Val} {l:Int} {s:Int×Bool} {k:Nat} (h:k<xs.length):rpI (xs.drop k) l s=rpI (xs.drop (k+1)) l (zfu s (xs[k].rp (l+1))):=by
 rw[List.drop_eq_getElem_cons h];rfl
def vT (xs:List Val):Nat:=(xs.map Val.parts).sum
def ym:List Val→Nat
 | []=>0
 | v::l=>max v.levels (ym l)
theorem zln (v:Val):v.parts=1+vT v.inner:=by
 rw[zhe]
 have h1:∀l:List Val,partsV l=vT l:=by
  intro l;induction l with
  | nil=>rfl
  | cons v l ih=>simp[partsV,vT,ih]
 have h2:∀l:List (List UInt8×Val),partsF l=vT (l.map (·.2)):=by
  intro l;induction l with
  | nil=>rfl
  | cons v l ih=>obtain⟨a,v⟩:=v;simp[partsF,vT] at ih ⊢;rw[ih]
 rw[h1,h2]
 simp[vT,Val.inner,Nat.add_assoc]
theorem ziX (v:Val):v.levels=ym v.inner+1:=by
 rw[zc9]
 have h1:∀l:List Val,levelsV l=ym l:=by
  intro l;induction l with
  | nil=>rfl
  | cons v l ih=>simp[levelsV,ym,ih]
 have h2:∀l:List (List UInt8×Val),levelsF l=ym (l.map (·.2)):=by
  intro l;induction l with
  | nil=>rfl
  | cons v l ih=>obtain⟨a,v⟩:=v;simp[levelsF,ym,ih]
 have h3:∀a b:List Val,ym (a++b)=max (ym a) (ym b):=by
  intro a b;induction a with
  | nil=>simp[ym]
  | cons v a ih=>simp only[List.cons_append,ym,ih];omega
 rw[h1,h2,Val.inner,h3]
theorem zdf {v x:Val} (h:x∈v.inner):x.vb<v.vb:=by
 have hvb:=j9 v
 rcases List.mem_append.1 h with h | h
 ·have:=wA h;omega
 ·obtain⟨f,hf,rfl⟩:=List.mem_map.1 h
  have:=yA hf;omega
structure RP (xs:List Val) (l:Int) (s r:Int×Bool):Prop where
 lo:s.1≤r.1
 hi:r.1≤s.1+vT xs
 deep:r.2=true→s.2=true∨8<l+(ym xs:Int)
 all:X9 r=false→r.1=s.1+vT xs∧(xs≠[]→l+(ym xs:Int)≤8)
theorem zlo:∀(b:Nat) (v:Val),v.vb≤b→∀l,0≤(v.rp l).1∧(v.rp l).1≤v.parts∧((v.rp l).2=true→8<l+(v.levels:Int) - 1)∧(X9 (v.rp l)=false→(v.rp l).1=v.parts∧l+(v.levels:Int) - 1≤8):=by
 intro b
 induction b with
 | zero=>intro v hv;have:=Zt v;omega
 | succ b ih =>
   intro v hv l
   have key:∀(xs:List Val) (s:Int×Bool),0≤s.1→(∀x∈xs,x.vb≤b)→RP xs l s (rpI xs l s):=by
    intro xs
    induction xs with
    | nil=>intro s _ _;exact⟨by simp[rpI],by simp[rpI,vT],fun h=>.inl (by simpa[rpI] using h),fun _=>⟨by simp[rpI,vT],fun h=>absurd rfl h⟩⟩
    | cons x xs ihx =>
      intro s h0 hm
      by_cases hc:X9 s=true
      ·rw[za5 hc]
       exact⟨by omega,by omega,fun h=>.inl h,fun h=>by rw[hc] at h;cases h⟩
      ·have e:rpI (x::xs) l s=rpI xs l (s.1+(x.rp (l+1)).1,s.2||(x.rp (l+1)).2):=by
        simp only[rpI,List.foldl_cons,zfu,hc];rfl
       rw[e]
       obtain⟨g1,g2,g3,g4⟩:=ih x (hm x (by simp)) (l+1)
       have hr:=ihx (s.1+(x.rp (l+1)).1,s.2||(x.rp (l+1)).2) (by simp only;omega) (fun y hy=>hm y (by simp[hy]))
       have hpi:vT (x::xs)=x.parts+vT xs:=by simp[vT]
       have hlo:=hr.lo
       have hhi:=hr.hi
       simp only at hlo hhi
       refine⟨by omega,by rw[hpi];omega,fun h=>?_,fun h=>?_⟩
       ·simp only[ym]
        rcases hr.deep h with h | h
        ·simp only[Bool.or_eq_true] at h
         rcases h with h | h
         ·exact .inl h
         ·right;have:=g3 h;omega
        ·right;omega
       ·obtain⟨a1,a2⟩:=hr.all h
        have hx:X9 (x.rp (l+1))=false:=by
         simp only[X9,Bool.or_eq_false_iff,decide_eq_false_iff_not] at h hc ⊢
         refine⟨?_,by omega⟩
         cases hd:(x.rp (l+1)).2 with
         | false=>rfl
         | true =>
           exfalso
           have hst:X9 (s.1+(x.rp (l+1)).1,s.2||(x.rp (l+1)).2)=true:=by simp[X9,hd]
           rw[za5 hst] at h
           simp[hd] at h
        obtain⟨b1,b2⟩:=g4 hx
        simp only at a1
        refine⟨by rw[hpi];omega,fun _=>?_⟩
        simp only[ym]
        by_cases hn:xs=[]
        ·subst hn;simp only[ym];omega
        ·have:=a2 hn;omega
   have hk:=key v.inner (1,decide (8<l)) (by simp) fun x hx=>by have:=zdf hx;omega
   rw[ztf,zln,ziX]
   have k1:=hk.lo
   have k2:=hk.hi
   simp only at k1 k2
   refine⟨by omega,by omega,fun h=>?_,fun h=>?_⟩
   ·rcases hk.deep h with h | h
    ·simp at h;omega
    ·omega
   ·obtain⟨a1,a2⟩:=hk.all h
    simp only at a1
    refine⟨by omega,?_⟩
    by_cases hn:v.inner=[]
    ·rw[hn] at h ⊢
     simp[rpI,X9] at h
     simp only[ym]
     omega
    ·have:=a2 hn;omega
theorem zol (v:Val):X9 (v.rp 1)=(decide ((1000:Int)<v.parts)||decide ((8:Int)<v.levels)):=by
 obtain⟨h1,h2,h3,h4⟩:=zlo v.vb v (Nat.le_refl _) 1
 cases hc:X9 (v.rp 1) with
 | false =>
   obtain⟨a,b⟩:=h4 hc
   simp only[X9,Bool.or_eq_false_iff,decide_eq_false_iff_not] at hc
   symm
   simp only[Bool.or_eq_false_iff,decide_eq_false_iff_not]
   omega
 | true =>
   symm
   simp only[X9,Bool.or_eq_true,decide_eq_true_eq] at hc ⊢
   rcases hc with hc | hc
   ·right;have:=h3 hc;omega
   ·left;omega
noncomputable def FV2 (out:Val→Int→PV) (lo hi:Int) (n:Nat):List PV→Option PV:=zJ (α:=Val×Int) (fun a=>[.agg a.1.enc,int a.2]) (fun a=>a.1.vb≤lim∧a.1.vb≤n∧lo≤a.2∧a.2≤hi) (fun a=>out a.1 a.2)
theorem zhf (out:Val→Int→PV) (lo hi:Int) (n:Nat) (v:Val) (i:Int) (hp:Hp) (nx:Nat) (h:v.vb≤lim∧v.vb≤n∧lo≤i∧i≤hi):zd false [] (FV2 out lo hi n) [.agg v.enc,int i] hp nx=some (out v i,hp,nx) :=
 zH (hp1:=hp) (show zj hp [.agg v.enc,int i]=some ([.agg v.enc,int i],hp) by simp only[zj,ZY];simp)
  (zm (enc:=fun a:Val×Int=>[.agg a.1.enc,int a.2]) (a:=(v,i)) (fun a b e=>by
   obtain⟨a1,a2⟩:=a;obtain⟨b1,b2⟩:=b
   simp only[List.cons.injEq,and_true,PV.agg.injEq] at e
   rw[jR e.1,zP e.2]) h) (.inr (by simp only[List.all_cons,Kz,List.all_nil];rfl))
noncomputable abbrev Crp (n:Nat):Ctx:=zC prog [(58,zd false [] (FV2 (fun v l=>.tup [int (v.rp l).1,boo (v.rp l).2]) 1 9 n)),(85,GV fun v=>.sl 5 (v.inner.map Val.enc))]
theorem zdg (v:Val):v.inner.length<v.vb:=by
 have:=j9 v
 have:=qD v.items
 have:=qQ v.fields
 simp[Val.inner]
 omega
theorem zfv (n:Nat) (v:Val) (l:Int) (h:v.vb≤lim∧v.vb≤n+1∧1≤l∧l≤9):zg (Crp n) f58 [.agg v.enc,int l]=some (.tup [int (v.rp l).1,boo (v.rp l).2]):=by
 obtain⟨ha,hb,hl1,hl2⟩:=h
 have hil:=zdg v
 have hin:=fun hp nx=>vv (fun v=>.sl 5 (v.inner.map Val.enc)) v hp nx ha
 unfold lim at ha
 refine zb rfl ?_
 simp[hin]
 refine zu (fun k σ hp nx=>σ 1=int l∧σ 15=.sl 5 (v.inner.map Val.enc)∧σ 16=int v.inner.length∧σ 17=int k∧∃s:Int×Bool,σ 6=int s.1∧σ 7=boo s.2∧0≤s.1∧s.1≤4000000∧(s.2=false→l≤8)∧v.rp l=rpI (v.inner.drop k) l s) v.inner.length
  ⟨by simp,by simp,by simp,by simp,(1,decide (8<l)),by simp,by simp,by simp,by simp,by simp,by rw[ztf];simp⟩ ?_
 rintro k σ hp nx hk ⟨h1,h15,h16,h17,s,h6,h7,s0,s1,s2,he⟩
 by_cases hlt:k<v.inner.length
 ·have hw:IntKind.i64.wrap ((k:Int)+1)=(k:Int)+1:=zc (by omega) (by omega)
  have hm:=zdf (List.getElem_mem hlt)
  have hec:(s.2||decide (1000<s.1))=X9 s:=rfl
  cases hc:X9 s
  ·have hs2:s.2=false:=by cases h:s.2<;>simp_all[X9]
   have hl8:=s2 hs2
   have wl:IntKind.i64.wrap (l+1)=l+1:=zc (by omega) (by omega)
   have hcall:=fun hp nx=>zhf (fun v l=>.tup [int (v.rp l).1,boo (v.rp l).2]) 1 9 n v.inner[k] (l+1) hp nx ⟨by unfold lim;omega,by omega,by omega,by omega⟩
   obtain⟨g1,g2,g3,g4⟩:=zlo _ v.inner[k] (Nat.le_refl _) (l+1)
   have hpl:=za3 v.inner[k]
   have hs1:s.1≤1000:=by simp[X9] at hc;omega
   have ws:IntKind.i64.wrap (s.1+(v.inner[k].rp (l+1)).1)=s.1+(v.inner[k].rp (l+1)).1:=zc (by omega) (by omega)
   rw[zok hlt] at he
   simp only[zfu,hc,Bool.false_eq_true,if_false] at he
   simp[h1,h15,h16,h17,h6,h7,hlt,hec,hc,hcall,wl,ws,hw]
   refine⟨hlt,?_⟩
   rw[he,hs2]
   cases hd:(v.inner[k].rp (l+1)).2<;>simp[hd]<;>omega
  ·rw[za5 hc] at he
   simp[h1,h15,h16,h17,h6,h7,hlt,hec,hc,he,f58,qe]
 ·obtain rfl:k=v.inner.length:=by omega
  rw[List.drop_length] at he
  have he:v.rp l=s:=he
  simp[h1,h15,h16,h17,h6,h7,he,f58,qe]
theorem zlp {out:Val→Int→PV} {lo hi:Int} {n:Nat} {args:List PV} {r:PV} (h:FV2 out lo hi n args=some r):∃(v:Val) (i:Int),args=[.agg v.enc,int i]∧(v.vb≤lim∧v.vb≤n∧lo≤i∧i≤hi)∧r=out v i:=by
 obtain⟨⟨v,i⟩,h1,h2,h3⟩:=ze h
 exact⟨v,i,h1,h2,h3⟩
theorem zom {out:Val→Int→PV} {lo hi:Int} {f:FuncId} (hfn:∃fn,prog.funcs[f]?=some fn∧(fn.name== "runtime.NumGoroutine")=false∧fn.body.isNone=false):za prog f (zd false [] (FV2 out lo hi 0)):=by
 refine⟨hfn,fun args hp nx r hp' nx' h=>?_⟩
 unfold zd at h
 split at h
 ·split at h
  ·rename_i r0 hF
   obtain⟨v,i,_,hv,_⟩:=zlp hF
   have:=Zt v
   omega
  ·cases h
 ·cases h
set_option maxRecDepth 100000 in
theorem zdh:∀n,za prog 58 (zd false [] (FV2 (fun v l=>.tup [int (v.rp l).1,boo (v.rp l).2]) 1 9 n)):=by
 intro n
 induction n with
 | zero=>exact zom ⟨_,func58,by kernel_rfl,by kernel_rfl⟩
 | succ n ih =>
   have hg:AM.Good (Crp n) (fun g=>([]:List Nat).contains g):=zk mixed ⟨ih,by simp,zft,by simp,trivial⟩
   exact zL (fn:=f58) hg ⟨_,func58,by kernel_rfl,rfl,by kernel_rfl⟩ false [] _ fun args r h=>by
    obtain⟨v,l,rfl,hv,rfl⟩:=zlp h
    exact⟨Nat.le_trans (Nat.le_refl 2) (by decide),_,zfv n v l hv,zK _⟩
noncomputable abbrev Crc:Ctx:=zC prog [(87,zd false [] (F3 inB)),(88,zd false [] (FS (zU 32 126)))]
@[simp] theorem qrc1:yj Crc 87:=qN (by rfl) (zi _ _)
def za6 (v:Val):Int:=Qa v.kind v.n v.s v.items.length v.fields.length
theorem zon (v:Val):za6 v=if (!inB v.kind 0 5) then 4 else if (v.kind != 1&&v.kind != 2&&v.n != 0) then 3 else if (v.kind != 3&&!v.s.isEmpty) then 3 else if (v.kind != 4&&decide (0<v.items.length)) then 3 else if (v.kind != 5&&decide (0<v.fields.length)) then 3 else if (v.kind==1&&!inB v.n 0 1) then 1 else if (v.kind==2&&!inB v.n (-999999999999999) 999999999999999) then 1 else if (decide ((500:Int)<v.s.length)) then 2 else if (!zU 32 126 v.s) then 1 else if (decide ((100:Int)<v.items.length)||decide ((100:Int)<v.fields.length)) then 2 else 0:=by
 unfold za6 Qa
 have q1:zlm v.kind=!inB v.kind 0 5:=by rw[Bool.eq_iff_iff];simp[zlm,inB]
 have q2:Wk v.kind v.n v.s v.items.length v.fields.length=((v.kind != 1&&v.kind != 2&&v.n != 0)||(v.kind != 3&&!v.s.isEmpty)||(v.kind != 4&&decide (0<v.items.length))||(v.kind != 5&&decide (0<v.fields.length))):=by
  unfold Wk
  have:(v.s==[])=v.s.isEmpty:=by cases v.s<;>rfl
  rw[this]
  generalize (v.kind != 1)=x1
  generalize (v.kind != 2)=x2
  generalize (v.kind != 3)=x3
  generalize (v.kind != 4)=x4
  generalize (v.kind != 5)=x5
  generalize (v.n != 0)=x6
  generalize v.s.isEmpty=x7
  generalize decide (0<v.items.length)=x8
  generalize decide (0<v.fields.length)=x9
  cases x1<;>cases x2<;>cases x3<;>cases x4<;>cases x5<;>cases x6<;>cases x7<;>cases x8<;>cases x9<;>rfl
 have q3:KA v.kind v.n=(v.kind==1&&!inB v.n 0 1):=by rw[Bool.eq_iff_iff];simp[KA,inB];omega
 have q4:KB v.kind v.n=(v.kind==2&&!inB v.n (-999999999999999) 999999999999999):=by rw[Bool.eq_iff_iff];simp[KB,inB];omega
 rw[q1,q2,q3,q4,zoj,zoi]
 generalize (!inB v.kind 0 5)=b1
 generalize (v.kind != 1&&v.kind != 2&&v.n != 0)=b2
 generalize (v.kind != 3&&!v.s.isEmpty)=b3
 generalize (v.kind != 4&&decide (0<v.items.length))=b4
 generalize (v.kind != 5&&decide (0<v.fields.length))=b5
 generalize (v.kind==1&&!inB v.n 0 1)=b6
 generalize (v.kind==2&&!inB v.n (-999999999999999) 999999999999999)=b7
 cases b1<;>cases b2<;>cases b3<;>cases b4<;>cases b5<;>cases b6<;>cases b7<;>cases zU 32 126 v.s<;>rfl
theorem KG (v:Val) (h:v.vb≤lim):zg Crc f86 [.agg v.enc]=some (int (za6 v)):=by
 have hvb:=j9 v
 have hsl:v.s.length≤lim:=by omega
 refine zb rfl ?_
 have hh:=zon v
 obtain⟨a1,ea1⟩:∃b,(!inB v.kind 0 5)=b:=⟨_,rfl⟩
 obtain⟨a2,ea2⟩:∃b,(v.kind != 1&&v.kind != 2&&v.n != 0)=b:=⟨_,rfl⟩
 obtain⟨a3,ea3⟩:∃b,(v.kind != 3&&!v.s.isEmpty)=b:=⟨_,rfl⟩
 obtain⟨a4,ea4⟩:∃b,(v.kind != 4&&decide (0<v.items.length))=b:=⟨_,rfl⟩
 obtain⟨a5,ea5⟩:∃b,(v.kind != 5&&decide (0<v.fields.length))=b:=⟨_,rfl⟩
 obtain⟨a6,ea6⟩:∃b,(v.kind==1&&!inB v.n 0 1)=b:=⟨_,rfl⟩
 obtain⟨a7,ea7⟩:∃b,(v.kind==2&&!inB v.n (-999999999999999) 999999999999999)=b:=⟨_,rfl⟩
 obtain⟨a8,ea8⟩:∃b,(decide ((500:Int)<v.s.length))=b:=⟨_,rfl⟩
 obtain⟨a9,ea9⟩:∃b,(!zU 32 126 v.s)=b:=⟨_,rfl⟩
 obtain⟨a10,ea10⟩:∃b,(decide ((100:Int)<v.items.length)||decide ((100:Int)<v.fields.length))=b:=⟨_,rfl⟩
 rw[ea1,ea2,ea3,ea4,ea5,ea6,ea7,ea8,ea9,ea10] at hh
 cases a1
 case true=>simp[hsl,ea1,ea2,ea3,ea4,ea5,ea6,ea7,ea8,ea9,ea10,hh,f86]
 cases a2
 case true=>simp[hsl,ea1,ea2,ea3,ea4,ea5,ea6,ea7,ea8,ea9,ea10,hh,f86]
 cases a3
 case true=>simp[hsl,ea1,ea2,ea3,ea4,ea5,ea6,ea7,ea8,ea9,ea10,hh,f86]
 cases a4
 case true=>simp[hsl,ea1,ea2,ea3,ea4,ea5,ea6,ea7,ea8,ea9,ea10,hh,f86]
 cases a5
 case true=>simp[hsl,ea1,ea2,ea3,ea4,ea5,ea6,ea7,ea8,ea9,ea10,hh,f86]
 cases a6
 case true=>simp[hsl,ea1,ea2,ea3,ea4,ea5,ea6,ea7,ea8,ea9,ea10,hh,f86]
 cases a7
 case true=>simp[hsl,ea1,ea2,ea3,ea4,ea5,ea6,ea7,ea8,ea9,ea10,hh,f86]
 cases a8
 case true=>simp[hsl,ea1,ea2,ea3,ea4,ea5,ea6,ea7,ea8,ea9,ea10,hh,f86]
 cases a9
 case true=>simp[hsl,ea1,ea2,ea3,ea4,ea5,ea6,ea7,ea8,ea9,ea10,hh,f86]
 cases a10
 case true=>simp[hsl,ea1,ea2,ea3,ea4,ea5,ea6,ea7,ea8,ea9,ea10,hh,f86]
 simp[hsl,ea1,ea2,ea3,ea4,ea5,ea6,ea7,ea8,ea9,ea10,hh,f86]
theorem Ju:za prog 86 (GV fun v=>int (za6 v)) :=
 zL (fn:=f86) (zk (q:=[87,88]) mixed ⟨yr,fun _=>zi _ _,kD,fun _=>zi _ _,trivial⟩:AM.Good Crc _) ⟨_,func86,by kernel_rfl,rfl,by kernel_rfl⟩ false [] _ fun args r h=>by
  obtain⟨v,rfl,hv,rfl⟩:=Wj h
  exact⟨by simp[f86],_,KG v hv.1,zK _⟩
noncomputable abbrev Cra (n:Nat):Ctx:=zC prog [(59,zd false [] (FV (fun v=>int v.fault) n)),(86,GV fun v=>int (za6 v)),(87,zd false [] (F3 inB)),(88,zd false [] (FS (zU 32 126)))]
@[simp] theorem qra2 (n:Nat):yj (Cra n) 88:=qN (by rfl) (zi _ _)
theorem zlq (a:List UInt8):(!inB a.length 1 60||!zU 32 126 a)=zfp a:=by
 unfold zfp inB
 cases a with
 | nil=>rfl
 | cons c a =>
   generalize zU 32 126 (c::a)=x
   rw[Bool.eq_iff_iff]
   cases x<;>simp<;>omega
theorem za7 (n:Nat) (v:Val) (h:v.vb≤lim∧v.vb≤n+1):zg (Cra n) f59 [.agg v.enc]=some (int v.fault):=by
 have hvb:=j9 v
 have hl1:=qD v.items
 have hl2:=qQ v.fields
 obtain⟨ha,hb⟩:=h
 have hsp:=fun hp nx=>vv (fun v=>int (za6 v)) v hp nx ha
 unfold lim at ha
 have hf:=za4 v
 refine zb rfl ?_
 by_cases hh:za6 v=0
 case neg =>
  have hh2:(za6 v != 0)=true:=by simpa using hh
  have hf':v.fault=za6 v:=by rw[hf];exact if_neg hh
  simp[hsp,hh2,hf',f59]
 have hf:v.fault=if faultV v.items=0 then faultF none v.fields else faultV v.items:=by rw[hf];exact if_pos hh
 simp[hsp,hh]
 refine zu (fun k σ hp nx=>σ 1=.ref 0 0 0∧σ 16=.sl 5 (v.items.map Val.enc)∧σ 17=int v.items.length∧σ 18=int k∧1≤nx∧hp 0=some ⟨61,5,false,[v.enc]⟩∧faultV v.items=faultV (v.items.drop k)) v.items.length
  ⟨by simp,by simp,by simp,by simp,by simp,by simp,by simp⟩ ?_
 rintro k σ hp nx hk ⟨h1,h70,h71,h72,hnx,b0,he⟩
 have n0:¬0=nx:=by omega
 by_cases hlt:k<v.items.length
 ·have hm:=wA (List.getElem_mem hlt)
  have hw:IntKind.i64.wrap ((k:Int)+1)=(k:Int)+1:=zc (by omega) (by omega)
  have hcall:=fun hp nx=>Yp (fun v=>int v.fault) n v.items[k] hp nx ⟨by unfold lim;omega,by omega⟩
  rw[KC hlt] at he
  by_cases hz:v.items[k].fault=0
  ·rw[if_pos hz] at he
   simp[h1,h70,h71,h72,hlt,hcall,hz,hw]
   and_intros<;>first | omega | exact he | simp[n0,b0]
  ·rw[if_neg hz] at he
   have hz2:(v.items[k].fault != 0)=true:=by simpa using hz
   rw[he,if_neg hz] at hf
   simp[h1,h70,h71,h72,hlt,hcall,hz2,hf,f59]
 ·obtain rfl:k=v.items.length:=by omega
  rw[List.drop_length] at he
  have he:faultV v.items=0:=by rw[he];rfl
  rw[he,if_pos rfl] at hf
  simp[h1,h70,h71,h72,b0]
  refine zu (fun k σ hp nx=>σ 1=.ref 0 0 0∧σ 29=.sl 6 (v.fields.map wF)∧σ 30=int v.fields.length∧σ 31=int k∧1≤nx∧hp 0=some ⟨61,5,false,[v.enc]⟩∧v.fault=faultF (wC v.fields k) (v.fields.drop k)) v.fields.length
   ⟨by simp[h1],by simp,by simp,by simp,hnx,b0,by simp[hf,wC]⟩ ?_
  clear h1 h70 h71 h72 hnx b0 hlt hk n0 nx hp σ hf
  rintro k σ hp nx hk ⟨h1,h83,h84,h85,hnx,b0,hf⟩
  have n0:¬0=nx:=by omega
  by_cases hlt:k<v.fields.length
  ·have hm:=yA (List.getElem_mem hlt)
   have hw:IntKind.i64.wrap ((k:Int)+1)=(k:Int)+1:=zc (by omega) (by omega)
   have hnl:v.fields[k].1.length≤lim:=by unfold lim;omega
   have hcall:=fun hp nx=>Yp (fun v=>int v.fault) n v.fields[k].2 hp nx ⟨by unfold lim;omega,by omega⟩
   have en:=zlq v.fields[k].1
   rw[KD hlt] at hf
   cases d1:zfp v.fields[k].1
   case true=>simp[h1,h83,h84,h85,hlt,hnl,en,d1,hf,f59]
   have hpv:wC v.fields (k+1)=some v.fields[k].1:=by simp[wC,hlt]
   simp only[d1,Bool.false_eq_true,if_false] at hf
   by_cases k0:k=0
   ·subst k0
    simp only[wC,yK,if_true,Bool.false_eq_true,if_false] at hf
    by_cases hz:v.fields[0].2.fault=0
    ·rw[if_pos hz] at hf
     have w1:IntKind.i64.wrap 1=1:=zc (by omega) (by omega)
     simp[h1,h83,h84,h85,hlt,hnl,en,d1,hcall,hz,w1]
     and_intros<;>first | omega | (rw[hf];rw[hpv];simp;done) | simp[n0,b0]
    ·rw[if_neg hz] at hf
     have hz2:(v.fields[0].2.fault != 0)=true:=by simpa using hz
     simp[h1,h83,h84,h85,hlt,hnl,en,d1,hcall,hz2,hf,f59]
   ·obtain⟨j,rfl⟩:∃j,k=j+1:=⟨k - 1,by omega⟩
    have hj:j<v.fields.length:=by omega
    have wj:IntKind.i64.wrap ((j:Int)+1 - 1)=(j:Int):=by rw[zc (by omega) (by omega)];omega
    have wj':IntKind.i64.wrap (j:Int)=(j:Int):=zc (by omega) (by omega)
    have j1:((j:Int)+1).toNat=j+1:=by omega
    have j2:0<(j:Int)+1:=by omega
    have j3:0≤(j:Int)+1:=by omega
    have j4:(j:Int)+1<v.fields.length:=by omega
    have wk:IntKind.i64.wrap ((j:Int)+1+1)=(j:Int)+1+1:=zc (by omega) (by omega)
    have el:(Op.bytesLess v.fields[j+1].1 v.fields[j].1||v.fields[j+1].1==v.fields[j].1)=leB v.fields[j+1].1 v.fields[j].1:=rfl
    have hpj:wC v.fields (j+1)=some v.fields[j].1:=by simp[wC,hj]
    simp only[hpj,yK] at hf
    cases d2:leB v.fields[j+1].1 v.fields[j].1
    case true =>
     simp only[d2,if_true] at hf
     simp[h1,h83,h84,h85,hlt,hj,hnl,en,d1,hcall,b0,n0,wj,wj',j1,j2,j3,j4,el,d2,hf,f59]
    simp only[d2,Bool.false_eq_true,if_false] at hf
    by_cases hz:v.fields[j+1].2.fault=0
    ·rw[if_pos hz] at hf
     simp[h1,h83,h84,h85,hlt,hj,hnl,en,d1,hcall,b0,n0,wj,wj',j1,j2,j3,j4,el,d2,hz,wk]
     and_intros<;>first | omega | (rw[hf];rw[hpv]) | simp[n0,b0]
    ·rw[if_neg hz] at hf
     have hz2:(v.fields[j+1].2.fault != 0)=true:=by simpa using hz
     simp[h1,h83,h84,h85,hlt,hj,hnl,en,d1,hcall,b0,n0,wj,wj',j1,j2,j3,j4,el,d2,hz2,hf,f59]
  ·obtain rfl:k=v.fields.length:=by omega
   rw[List.drop_length] at hf
   have hf:v.fault=0:=by rw[hf];rfl
   simp[h1,h83,h84,h85,hf,f59]
set_option maxRecDepth 100000 in
theorem Xh:∀n,za prog 59 (zd false [] (FV (fun v=>int v.fault) n)):=by
 intro n
 induction n with
 | zero=>exact zfn ⟨_,func59,by kernel_rfl,by kernel_rfl⟩
 | succ n ih =>
   have hg:AM.Good (Cra n) (fun g=>[87,88].contains g):=zk mixed ⟨ih,by simp,Ju,by simp,yr,fun _=>zi _ _,kD,fun _=>zi _ _,trivial⟩
   exact zL (fn:=f59) hg ⟨_,func59,by kernel_rfl,rfl,by kernel_rfl⟩ false [] _ fun args r h=>by
    obtain⟨v,rfl,hv,rfl⟩:=Wj h
    exact⟨Nat.le_trans (Nat.le_refl 1) (by decide),_,za7 n v hv,zK _⟩
noncomputable abbrev zwO:Ctx:=zC prog [(59,GV fun v=>int v.fault),(58,zd false [] (FV2 (fun v l=>.tup [int (v.rp l).1,boo (v.rp l).2]) 1 9 lim))]
theorem Y8:za prog 32 (GV fun v=>int v.check) :=
 zL (fn:=f32) (zk (q:=[]) mixed ⟨Xh lim,by simp,zdh lim,by simp,trivial⟩:AM.Good zwO _) ⟨_,func32,by kernel_rfl,rfl,by kernel_rfl⟩ false [] _ fun args r h=>by
  obtain⟨v,rfl,hv,rfl⟩:=Wj h
  have h1:=fun hp nx=>vv (fun v=>int v.fault) v hp nx hv.1
  have h2:=fun hp nx=>zhf (fun v l=>.tup [int (v.rp l).1,boo (v.rp l).2]) 1 9 lim v 1 hp nx ⟨hv.1,hv.1,by omega,by omega⟩
  refine⟨by simp[f32],_,zb rfl ?_,zK _⟩
  have hl:=zol v
  have hc0:((v.rp 1).2||decide (1000<(v.rp 1).1))=X9 (v.rp 1):=rfl
  unfold Val.check
  rw[←hl]
  cases hc:X9 (v.rp 1)
  ·simp[h1,h2,hc0,hc,f32]
  ·simp[h1,h2,hc0,hc,f32]
def qI (a b:Int):Int:=if a<b then -1 else if b<a then 1 else 0
def zoo (a b:List UInt8):Int:=if Op.bytesLess a b then -1 else if Op.bytesLess a b||a==b then 0 else 1
def F2I (f:Int→Int→Int):List PV→Option PV
 | [.v (.int .i64 a),.v (.int .i64 b)]=>some (int (f a b))
 | _=>none
theorem zqT {f:Int→Int→Int} {args:List PV} {r:PV} (h:F2I f args=some r):∃a b,args=[int a,int b]∧r=int (f a b):=by
 unfold F2I at h
 split at h
 ·injection h with h;exact⟨_,_,rfl,h.symm⟩
 ·cases h
@[simp] theorem F2I_call (f:Int→Int→Int) (a b:Int) (hp:Hp) (nx:Nat):zd false [] (F2I f) [.v (.int .i64 a),.v (.int .i64 b)] hp nx=some (int (f a b),hp,nx):=zH rfl rfl (.inl rfl)
def zhg:List PV→Option PV
 | [.v (.int .i64 _)]=>some (boo false)
 | _=>none
def Y9:List PV→Option PV
 | [.v (.string _)]=>some (boo false)
 | _=>none
@[simp] theorem isNaNI_call (a:Int) (hp:Hp) (nx:Nat):zd false [] zhg [.v (.int .i64 a)] hp nx=some (boo false,hp,nx):=zH rfl rfl (.inl rfl)
@[simp] theorem isNaNS_call (a:ByteArray) (hp:Hp) (nx:Nat):zd false [] Y9 [.v (.string a)] hp nx=some (boo false,hp,nx):=zH rfl rfl (.inl rfl)
theorem zdi:za prog 170 (zd false [] zhg) :=
 zL (fn:=f170) yl ⟨_,func170,by kernel_rfl,rfl,by kernel_rfl⟩ false [] _ fun args r h=>by
  unfold zhg at h
  split at h
  ·injection h with h;subst h
   exact⟨by simp[f170],_,zb rfl (by simp[f170]),zK _⟩
  ·cases h
theorem Ja:za prog 105 (zd false [] Y9) :=
 zL (fn:=f105) yl ⟨_,func105,by kernel_rfl,rfl,by kernel_rfl⟩ false [] _ fun args r h=>by
  unfold Y9 at h
  split at h
  ·injection h with h;subst h
   exact⟨by simp[f105],_,zb rfl (by simp[f105]),zK _⟩
  ·cases h
noncomputable abbrev Cnn:Ctx:=zC prog [(170,zd false [] zhg),(105,zd false [] Y9)]
theorem zp5:AM.Good Cnn (fun g=>[170,105].contains g):=zk mixed ⟨zdi,fun _=>zi _ _,Ja,fun _=>zi _ _,trivial⟩
theorem kq:za prog 134 (zd false [] (F2I qI)) :=
 zL (fn:=f134) zp5 ⟨_,func134,by kernel_rfl,rfl,by kernel_rfl⟩ false [] _ fun args r h=>by
  obtain⟨a,b,rfl,rfl⟩:=zqT h
  refine⟨by simp[f134],_,zb rfl ?_,zK _⟩
  unfold qI
  by_cases h1:a<b
  ·simp[h1,f134]
  ·by_cases h2:b<a
   ·simp[h1,h2,f134]
   ·simp[h1,h2,f134]
noncomputable def F2S (f:List UInt8→List UInt8→Int):List PV→Option PV:=zJ (α:=List UInt8×List UInt8) (fun a=>[str a.1,str a.2]) (fun _=>True) (fun a=>int (f a.1 a.2))
@[simp] theorem F2S_call (f:List UInt8→List UInt8→Int) (a b:List UInt8) (hp:Hp) (nx:Nat):zd false [] (F2S f) [str a,str b] hp nx=some (int (f a b),hp,nx) :=
 zH rfl (zm (enc:=fun a:List UInt8×List UInt8=>[str a.1,str a.2]) (a:=(a,b)) (fun a b e=>by
  obtain⟨a1,a2⟩:=a;obtain⟨b1,b2⟩:=b
  simp only[List.cons.injEq,and_true] at e
  rw[qg e.1,qg e.2]) trivial) (.inl rfl)
theorem zaa:za prog 158 (zd false [] (F2S zoo)) :=
 zL (fn:=f158) zp5 ⟨_,func158,by kernel_rfl,rfl,by kernel_rfl⟩ false [] _ fun args r h=>by
  obtain⟨⟨a,b⟩,rfl,_,rfl⟩:=ze h
  refine⟨by simp[f158],_,zb rfl ?_,zK _⟩
  simp only[zoo]
  cases h1:Op.bytesLess a b
  ·cases h2:(a==b)
   ·simp[h1,h2,f158]
   ·simp[h1,h2,f158]
  ·simp[h1,f158]
theorem jB:∀a:List UInt8,Op.bytesLess a a=false
 | []=>rfl
 | c::a=>by simp[Op.bytesLess,jB a]
@[simp] theorem cmpI_self (a:Int):qI a a=0:=by simp[qI]
noncomputable abbrev wW:=Lib.compareBytes
theorem KH:za prog 48 (zd false [] (F2S wW)) :=
 zcT ⟨_,func48,by kernel_rfl,by kernel_rfl⟩ fun args r h=>by
  obtain⟨⟨a,b⟩,rfl,_,rfl⟩:=ze h
  exact⟨[.string ⟨a.toArray⟩,.string ⟨b.toArray⟩],rfl,by simp[lit],_,rfl,rfl,fun w=>by simpa using Tryz.bytealg_CompareString ⟨a.toArray⟩ ⟨b.toArray⟩ w⟩
noncomputable abbrev zwP:Ctx:=zC prog [(48,zd false [] (F2S wW))]
theorem wX:za prog 25 (zd false [] (F2S wW)) :=
 zL (fn:=f25) (zk (q:=[]) mixed ⟨KH,by simp,trivial⟩:AM.Good zwP _) ⟨_,func25,by kernel_rfl,rfl,by kernel_rfl⟩ false [] _ fun args r h=>by
  obtain⟨⟨a,b⟩,rfl,_,rfl⟩:=ze h
  exact⟨by simp[f25],_,zb rfl (by simp[f25]),zK _⟩
end Go.Proofs.YtjcofiomfmebkaaGreatDoor
