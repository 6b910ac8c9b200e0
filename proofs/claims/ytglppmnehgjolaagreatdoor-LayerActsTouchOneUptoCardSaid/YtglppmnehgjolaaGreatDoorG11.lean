/-
value.Check: what it computes.
Conditions as data: their cells.
The abstract machine, part 25: functions that ask whether a slice is nil.
The abstract machine: nil slices within arguments and results taken for slices without elements; contracts on texts beside package-level variables.
Library functions on strings, off the kit's shelf, at this program (written after what the kit's tool prints): Index, Count, Trim, TrimLeft, IndexByte, Atoi.
-/
import Derived.Test.YtglppmnehgjolaaGreatDoorG9
import Derived.Shelf.Strings.Search2
import Derived.Shelf.Strings.Split
import Derived.Shelf.Strings.Trim
import Derived.Shelf.Strconv.Atoi
import Derived.Ground.Names2Prog
import Derived.Test.YtglppmnehgjolaaGreatDoorProg
set_option maxRecDepth 8000
namespace Go.Proofs.YtglppmnehgjolaaGreatDoor
open Go.Proofs.Tryz
open Go.RowKit Go.AM
def cKind (k:Int):Bool:=decide (k<0)||decide (5<k)
def cSpare (k n:Int) (s:List UInt8) (i f:Nat):Bool:=n != 0&&k != 1&&k != 2||!(s==[])&&k != 3||decide (0<i)&&k != 4||decide (0<f)&&k != 5
def cRange1 (k n:Int):Bool:=k==1&&n != 0&&n != 1
def cRange2 (k n:Int):Bool:=k==2&&(decide (n≤-1000000000000000)||decide (1000000000000000≤n))
def cMany (i f:Nat):Bool:=decide ((100:Int)<i)||decide ((100:Int)<f)
def cLong (s:List UInt8):Bool:=decide ((500:Int)<s.length)
def headF (k n:Int) (s:List UInt8) (i f:Nat):Int :=
 if cKind k then 4 else if cSpare k n s i f then 3 else if cRange1 k n||cRange2 k n then 1 else if cLong s then 2 else if qH 32 126 s then (if cMany i f then 2 else 0) else 1
def leB (a b:List UInt8):Bool:=Op.bytesLess a b||a==b
def cName (a:List UInt8):Bool:=a.isEmpty||decide ((60:Int)<a.length)||!qH 32 126 a
def cPrev (prev:Option (List UInt8)) (a:List UInt8):Bool:=match prev with
 | none=>false
 | some p=>leB a p
mutual
def Val.fault:Val→Int
 | .mk k n s is fs=>if headF k n s is.length fs.length=0 then (if faultV is=0 then faultF none fs else faultV is) else headF k n s is.length fs.length
def faultV:List Val→Int
 | []=>0
 | v::l=>if v.fault=0 then faultV l else v.fault
def faultF:Option (List UInt8)→List (List UInt8×Val)→Int
 | _,[]=>0
 | prev,(a,v)::l=>if cName a then 5 else if cPrev prev a then 8 else if v.fault=0 then faultF (some a) l else v.fault
end
theorem fault_eq (v:Val):v.fault=if headF v.kind v.n v.s v.items.length v.fields.length=0 then (if faultV v.items=0 then faultF none v.fields else faultV v.items) else headF v.kind v.n v.s v.items.length v.fields.length:=by cases v;rfl
theorem spare_sound:za prog 156 (GV fun v=>boo (cSpare v.kind v.n v.s v.items.length v.fields.length)) :=
 zZ (fn:=f156) q7 ⟨_,func156,by kernel_rfl,rfl,by kernel_rfl⟩ false [] _ fun args r h=>by
  obtain⟨v,rfl,hv,rfl⟩:=FV_inv h
  exact⟨by simp[f156],_,ze rfl (by simp[f156,cSpare]),zY _⟩
noncomputable abbrev Ck (n:Nat):Ctx:=zN prog [(142,zd false [] (FV (fun v=>int v.fault) n)),(156,GV fun v=>boo (cSpare v.kind v.n v.s v.items.length v.fields.length)),(157,zd false [] (FS (qH 32 126)))]
@[simp] theorem qk (n:Nat):qE (Ck n) 157:=zW (by rfl) (zf _ _)
theorem faultV_drop {l:List Val} {k:Nat} (h:k<l.length):faultV (l.drop k)=if l[k].fault=0 then faultV (l.drop (k+1)) else l[k].fault:=by
 rw[List.drop_eq_getElem_cons h,faultV]
theorem faultF_drop {l:List (List UInt8×Val)} {k:Nat} (h:k<l.length) (p:Option (List UInt8)):faultF p (l.drop k)=if cName l[k].1 then 5 else if cPrev p l[k].1 then 8 else if l[k].2.fault=0 then faultF (some l[k].1) (l.drop (k+1)) else l[k].2.fault:=by
 rw[List.drop_eq_getElem_cons h,faultF]
def prevOf (l:List (List UInt8×Val)) (k:Nat):Option (List UInt8):=if k=0 then none else (l[k - 1]?).map (·.1)
theorem checkPart_eval (n:Nat) (v:Val) (h:v.vb≤lim∧v.vb≤n+1):zl (Ck n) f142 [.agg v.enc]=some (int v.fault):=by
 have hvb:=vb_eq v
 have hl1:=wC v.items
 have hl2:=yd v.fields
 obtain⟨ha,hb⟩:=h
 unfold lim at ha
 have hf:=fault_eq v
 have hsp:=fun hp nx=>GV_call (fun v=>boo (cSpare v.kind v.n v.s v.items.length v.fields.length)) v hp nx ha
 have hsl:v.s.length≤lim:=by unfold lim;omega
 refine ze rfl ?_
 have e1:(decide (v.kind<0)||decide (5<v.kind))=cKind v.kind:=rfl
 have e2:(v.kind==1&&v.n != 0&&v.n != 1)=cRange1 v.kind v.n:=rfl
 have e3:(v.kind==2&&(decide (v.n≤-1000000000000000)||decide (1000000000000000≤v.n)))=cRange2 v.kind v.n:=rfl
 have e4:(decide ((100:Int)<v.items.length)||decide ((100:Int)<v.fields.length))=cMany v.items.length v.fields.length:=rfl
 have e5:decide ((500:Int)<v.s.length)=cLong v.s:=rfl
 cases c1:cKind v.kind
 case true=>simp[e1,c1,hf,headF,f142]
 cases c2:cSpare v.kind v.n v.s v.items.length v.fields.length
 case true=>simp[e1,c1,hsp,c2,hf,headF,f142]
 cases c3:cRange1 v.kind v.n
 case true=>simp[e1,c1,hsp,c2,e2,c3,hf,headF,f142]
 cases c4:cRange2 v.kind v.n
 case true=>simp[e1,c1,hsp,c2,e2,c3,e3,c4,hf,headF,f142]
 cases c5:cLong v.s
 case true=>simp[e1,c1,hsp,c2,e2,c3,e3,c4,e5,c5,hf,headF,f142]
 cases c6:qH 32 126 v.s
 case false=>simp[e1,c1,hsp,c2,e2,c3,e3,c4,e5,c5,c6,hsl,hf,headF,f142]
 cases c7:cMany v.items.length v.fields.length
 case true=>simp[e1,c1,hsp,c2,e2,c3,e3,c4,e5,c5,c6,hsl,e4,c7,hf,headF,f142]
 have hh:headF v.kind v.n v.s v.items.length v.fields.length=0:=by simp[headF,c1,c2,c3,c4,c5,c6,c7]
 rw[hh,if_pos rfl] at hf
 simp[e1,c1,hsp,c2,e2,c3,e3,c4,e5,c5,c6,hsl,e4,c7]
 refine zD (fun k σ hp nx=>σ 1=.ref 0 0 0∧σ 70=.sl 5 (v.items.map Val.enc)∧σ 71=int v.items.length∧σ 72=int k∧1≤nx∧hp 0=some ⟨128,5,false,[v.enc]⟩∧faultV v.items=faultV (v.items.drop k)) v.items.length
  ⟨by simp,by simp,by simp,by simp,by simp,by simp,by simp⟩ ?_
 rintro k σ hp nx hk ⟨h1,h70,h71,h72,hnx,b0,he⟩
 have n0:¬0=nx:=by omega
 by_cases hlt:k<v.items.length
 ·have hm:=jm (List.getElem_mem hlt)
  have hw:IntKind.i64.wrap ((k:Int)+1)=(k:Int)+1:=zi (by omega) (by omega)
  have hcall:=fun hp nx=>xz (fun v=>int v.fault) n v.items[k] hp nx ⟨by unfold lim;omega,by omega⟩
  rw[faultV_drop hlt] at he
  by_cases hz:v.items[k].fault=0
  ·rw[if_pos hz] at he
   simp[h1,h70,h71,h72,hlt,hcall,hz,hw]
   and_intros<;>first | omega | exact he | simp[n0,b0]
  ·rw[if_neg hz] at he
   have hz2:(v.items[k].fault != 0)=true:=by simpa using hz
   rw[he,if_neg hz] at hf
   simp[h1,h70,h71,h72,hlt,hcall,hz2,hf,f142]
 ·obtain rfl:k=v.items.length:=by omega
  rw[List.drop_length] at he
  have he:faultV v.items=0:=by rw[he];rfl
  rw[he,if_pos rfl] at hf
  simp[h1,h70,h71,h72,b0]
  refine zD (fun k σ hp nx=>σ 1=.ref 0 0 0∧σ 83=.sl 6 (v.fields.map encF)∧σ 84=int v.fields.length∧σ 85=int k∧1≤nx∧hp 0=some ⟨128,5,false,[v.enc]⟩∧v.fault=faultF (prevOf v.fields k) (v.fields.drop k)) v.fields.length
   ⟨by simp[h1],by simp,by simp,by simp,hnx,b0,by simp[hf,prevOf]⟩ ?_
  clear h1 h70 h71 h72 hnx b0 hlt hk n0 nx hp σ hf
  rintro k σ hp nx hk ⟨h1,h83,h84,h85,hnx,b0,hf⟩
  have n0:¬0=nx:=by omega
  by_cases hlt:k<v.fields.length
  ·have hm:=vf (List.getElem_mem hlt)
   have hw:IntKind.i64.wrap ((k:Int)+1)=(k:Int)+1:=zi (by omega) (by omega)
   have hnl:v.fields[k].1.length≤lim:=by unfold lim;omega
   have hcall:=fun hp nx=>xz (fun v=>int v.fault) n v.fields[k].2 hp nx ⟨by unfold lim;omega,by omega⟩
   have en:(v.fields[k].1.isEmpty||decide ((60:Int)<v.fields[k].1.length)||!qH 32 126 v.fields[k].1)=cName v.fields[k].1:=rfl
   rw[faultF_drop hlt] at hf
   cases d1:cName v.fields[k].1
   case true=>simp[h1,h83,h84,h85,hlt,hnl,en,d1,hf,f142]
   have hpv:prevOf v.fields (k+1)=some v.fields[k].1:=by simp[prevOf,hlt]
   simp only[d1,Bool.false_eq_true,if_false] at hf
   by_cases k0:k=0
   ·subst k0
    simp only[prevOf,cPrev,if_true,Bool.false_eq_true,if_false] at hf
    by_cases hz:v.fields[0].2.fault=0
    ·rw[if_pos hz] at hf
     have w1:IntKind.i64.wrap 1=1:=zi (by omega) (by omega)
     simp[h1,h83,h84,h85,hlt,hnl,en,d1,hcall,hz,w1]
     and_intros<;>first | omega | (rw[hf];rw[hpv];simp;done) | simp[n0,b0]
    ·rw[if_neg hz] at hf
     have hz2:(v.fields[0].2.fault != 0)=true:=by simpa using hz
     simp[h1,h83,h84,h85,hlt,hnl,en,d1,hcall,hz2,hf,f142]
   ·obtain⟨j,rfl⟩:∃j,k=j+1:=⟨k - 1,by omega⟩
    have hj:j<v.fields.length:=by omega
    have wj:IntKind.i64.wrap ((j:Int)+1 - 1)=(j:Int):=by rw[zi (by omega) (by omega)];omega
    have wj':IntKind.i64.wrap (j:Int)=(j:Int):=zi (by omega) (by omega)
    have j1:((j:Int)+1).toNat=j+1:=by omega
    have j2:0<(j:Int)+1:=by omega
    have j3:0≤(j:Int)+1:=by omega
    have j4:(j:Int)+1<v.fields.length:=by omega
    have wk:IntKind.i64.wrap ((j:Int)+1+1)=(j:Int)+1+1:=zi (by omega) (by omega)
    have el:(Op.bytesLess v.fields[j+1].1 v.fields[j].1||v.fields[j+1].1==v.fields[j].1)=leB v.fields[j+1].1 v.fields[j].1:=rfl
    have hpj:prevOf v.fields (j+1)=some v.fields[j].1:=by simp[prevOf,hj]
    simp only[hpj,cPrev] at hf
    cases d2:leB v.fields[j+1].1 v.fields[j].1
    case true =>
     simp only[d2,if_true] at hf
     simp[h1,h83,h84,h85,hlt,hj,hnl,en,d1,hcall,b0,n0,wj,wj',j1,j2,j3,j4,el,d2,hf,f142]
    simp only[d2,Bool.false_eq_true,if_false] at hf
    by_cases hz:v.fields[j+1].2.fault=0
    ·rw[if_pos hz] at hf
     simp[h1,h83,h84,h85,hlt,hj,hnl,en,d1,hcall,b0,n0,wj,wj',j1,j2,j3,j4,el,d2,hz,wk]
     and_intros<;>first | omega | (rw[hf];rw[hpv]) | simp[n0,b0]
    ·rw[if_neg hz] at hf
     have hz2:(v.fields[j+1].2.fault != 0)=true:=by simpa using hz
     simp[h1,h83,h84,h85,hlt,hj,hnl,en,d1,hcall,b0,n0,wj,wj',j1,j2,j3,j4,el,d2,hz2,hf,f142]
  ·obtain rfl:k=v.fields.length:=by omega
   rw[List.drop_length] at hf
   have hf:v.fault=0:=by rw[hf];rfl
   simp[h1,h83,h84,h85,hf,f142]
set_option maxRecDepth 100000 in
theorem checkPart_sound:∀n,za prog 142 (zd false [] (FV (fun v=>int v.fault) n)):=by
 intro n
 induction n with
 | zero=>exact FV_zero ⟨_,func142,by kernel_rfl,by kernel_rfl⟩
 | succ n ih =>
   have hg:AM.Good (Ck n) (fun g=>[157].contains g):=zr mixed ⟨ih,by simp,spare_sound,by simp,seen_sound,fun _=>zf _ _,trivial⟩
   exact zZ (fn:=f142) hg ⟨_,func142,by kernel_rfl,rfl,by kernel_rfl⟩ false [] _ fun args r h=>by
    obtain⟨v,rfl,hv,rfl⟩:=FV_inv h
    exact⟨Nat.le_trans (Nat.le_refl 1) (by decide),_,checkPart_eval n v hv,zY _⟩
def Val.check (v:Val):Int:=if decide ((1000:Int)<v.parts)||decide ((8:Int)<v.levels) then 2 else v.fault
noncomputable abbrev Cch:Ctx:=zN prog [(142,GV fun v=>int v.fault),(141,GV fun v=>.tup [int v.parts,int v.levels])]
theorem check_sound:za prog 138 (GV fun v=>int v.check) :=
 zZ (fn:=f138) (zr (q:=[]) mixed ⟨checkPart_sound lim,by simp,count_sound lim,by simp,trivial⟩:AM.Good Cch _) ⟨_,func138,by kernel_rfl,rfl,by kernel_rfl⟩ false [] _ fun args r h=>by
  obtain⟨v,rfl,hv,rfl⟩:=FV_inv h
  have h1:=fun hp nx=>GV_call (fun v=>int v.fault) v hp nx hv.1
  have h2:=fun hp nx=>GV_call (fun v=>.tup [int v.parts,int v.levels]) v hp nx hv.1
  refine⟨by simp[f138],_,ze rfl ?_,zY _⟩
  cases hc:(decide ((1000:Int)<v.parts)||decide ((8:Int)<v.levels))
  ·simp[h1,h2,hc,f138,Val.check]
  ·simp[h1,h2,hc,f138,Val.check]
inductive Cnd where
 | mk (kind:Int) (attr:List UInt8) (op:Int) (vals:List Val) (pat name:List UInt8) (args:List Cnd)
namespace Cnd
def kind:Cnd→Int | .mk k _ _ _ _ _ _=>k
def attr:Cnd→List UInt8 | .mk _ a _ _ _ _ _=>a
def op:Cnd→Int | .mk _ _ o _ _ _ _=>o
def vals:Cnd→List Val | .mk _ _ _ v _ _ _=>v
def pat:Cnd→List UInt8 | .mk _ _ _ _ p _ _=>p
def name:Cnd→List UInt8 | .mk _ _ _ _ _ n _=>n
def args:Cnd→List Cnd | .mk _ _ _ _ _ _ l=>l
end Cnd
theorem Cnd.ind {P:Cnd→Prop} (h:∀k a o v p n l,(∀x∈l,P x)→P (.mk k a o v p n l)) (c:Cnd):P c :=
 Cnd.rec (motive_1:=P) (motive_2:=fun l=>∀x∈l,P x) (fun k a o v p n l hl=>h k a o v p n l hl) (by simp)
  (fun x l hx hl y hy=>by
   rcases List.mem_cons.1 hy with rfl | hy
   ·exact hx
   ·exact hl y hy) c
mutual
def Cnd.enc:Cnd→List PV
 | .mk k a o v p n l=>[int k,str a,int o,.sl 5 (v.map Val.enc),str p,str n,.sl 7 (encCds l)]
def encCds:List Cnd→List (List PV)
 | []=>[]
 | c::l=>c.enc::encCds l
end
theorem encCds_map:∀l:List Cnd,encCds l=l.map Cnd.enc
 | []=>rfl
 | c::l=>by simp[encCds,encCds_map l]
theorem qt (c:Cnd):c.enc=[int c.kind,str c.attr,int c.op,.sl 5 (c.vals.map Val.enc),str c.pat,str c.name,.sl 7 (c.args.map Cnd.enc)]:=by
 cases c with
 | mk k a o v p n l=>simp[Cnd.enc,encCds_map,Cnd.kind,Cnd.attr,Cnd.op,Cnd.vals,Cnd.pat,Cnd.name,Cnd.args]
@[simp] theorem cenc_length (c:Cnd):c.enc.length=7:=by rw[qt];rfl
@[simp] theorem cenc_cells (c:Cnd):c.enc.all PV.isCell=true:=by rw[qt];rfl
@[simp] theorem cenc_cells' (c:Cnd):(∀x,x∈c.enc→PV.isCell x=true)=True:=by
 have:=cenc_cells c
 rw[List.all_eq_true] at this
 exact eq_true this
@[simp] theorem cenc_take (c:Cnd):c.enc.take 7=c.enc:=List.take_of_length_le (by simp)
@[simp] theorem cenc_0 (c:Cnd) (h:0<c.enc.length):c.enc[0]=int c.kind:=by simp[qt c]
@[simp] theorem cenc_1 (c:Cnd) (h:1<c.enc.length):c.enc[1]=str c.attr:=by simp[qt c]
@[simp] theorem cenc_2 (c:Cnd) (h:2<c.enc.length):c.enc[2]=int c.op:=by simp[qt c]
@[simp] theorem cenc_3 (c:Cnd) (h:3<c.enc.length):c.enc[3]=.sl 5 (c.vals.map Val.enc):=by simp[qt c]
@[simp] theorem cenc_4 (c:Cnd) (h:4<c.enc.length):c.enc[4]=str c.pat:=by simp[qt c]
@[simp] theorem cenc_5 (c:Cnd) (h:5<c.enc.length):c.enc[5]=str c.name:=by simp[qt c]
@[simp] theorem cenc_6 (c:Cnd) (h:6<c.enc.length):c.enc[6]=.sl 7 (c.args.map Cnd.enc):=by simp[qt c]
theorem vals_inj {a b:List Val} (h:a.map Val.enc=b.map Val.enc):a=b:=qZ (fun _ _=>ve) h
theorem Za:∀{a b:Cnd},a.enc=b.enc→a=b:=by
 intro a
 induction a using Cnd.ind with
 | h k a o v p n l hl =>
   intro b e
   cases b with
   | mk k' a' o' v' p' n' l' =>
     simp only[qt,Cnd.kind,Cnd.attr,Cnd.op,Cnd.vals,Cnd.pat,Cnd.name,Cnd.args,List.cons.injEq,and_true] at e
     obtain⟨e1,e2,e3,e4,e5,e6,e7⟩:=e
     obtain rfl:=zG e1
     obtain rfl:=qa e2
     obtain rfl:=zG e3
     injection e4 with _ e4
     obtain rfl:=vals_inj e4
     obtain rfl:=qa e5
     obtain rfl:=qa e6
     injection e7 with _ e7
     rw[vR (fun x hx y=>hl x hx) e7]
mutual
def Cnd.cb:Cnd→Nat
 | .mk _ a _ v p n l=>1+a.length+vbs v+p.length+n.length+cbs l
def cbs:List Cnd→Nat
 | []=>0
 | c::l=>c.cb+cbs l
end
theorem cb_eq (c:Cnd):c.cb=1+c.attr.length+vbs c.vals+c.pat.length+c.name.length+cbs c.args:=by cases c;rfl
theorem cb_pos (c:Cnd):0<c.cb:=by rw[cb_eq];omega
theorem xA:∀{l:List Cnd} {x:Cnd},x∈l→x.cb≤cbs l
 | y::l,x,h=>by
   simp only[cbs]
   rcases List.mem_cons.1 h with rfl | h
   ·omega
   ·have:=xA h;omega
theorem jd:∀l:List Cnd,l.length≤cbs l
 | []=>by simp[cbs]
 | c::l=>by have:=jd l;have:=cb_pos c;simp only[cbs,List.length_cons];omega
mutual
def Cnd.parts:Cnd→Nat
 | .mk _ _ _ _ _ _ l=>1+partsC l
def partsC:List Cnd→Nat
 | []=>0
 | c::l=>c.parts+partsC l
end
mutual
def Cnd.levels:Cnd→Nat
 | .mk _ _ _ _ _ _ l=>levelsC l+1
def levelsC:List Cnd→Nat
 | []=>0
 | c::l=>max c.levels (levelsC l)
end
theorem cparts_eq (c:Cnd):c.parts=1+partsC c.args:=by cases c;rfl
theorem clevels_eq (c:Cnd):c.levels=levelsC c.args+1:=by cases c;rfl
theorem partsC_le' (l:List Cnd) (h:∀x∈l,x.parts≤x.cb):partsC l≤cbs l:=by
 induction l with
 | nil=>simp[partsC]
 | cons v l ih=>have:=h v (by simp);have:=ih fun x hx=>h x (by simp[hx]);simp only[partsC,cbs];omega
theorem cparts_le (c:Cnd):c.parts≤c.cb:=by
 induction c using Cnd.ind with
 | h k a o v p n l hl =>
   have:=partsC_le' l hl
   rw[cparts_eq,cb_eq]
   simp only[Cnd.args]
   omega
theorem levelsC_le' (l:List Cnd) (h:∀x∈l,x.levels≤x.parts):levelsC l≤partsC l:=by
 induction l with
 | nil=>simp[levelsC]
 | cons v l ih=>have:=h v (by simp);have:=ih fun x hx=>h x (by simp[hx]);simp only[partsC,levelsC];omega
theorem clevels_le (c:Cnd):c.levels≤c.parts:=by
 induction c using Cnd.ind with
 | h k a o v p n l hl =>
   have:=levelsC_le' l hl
   rw[cparts_eq,clevels_eq]
   simp only[Cnd.args]
   omega
theorem Zb (a b:List Cnd):partsC (a++b)=partsC a+partsC b:=by
 induction a with
 | nil=>simp[partsC]
 | cons v a ih=>simp only[List.cons_append,partsC,ih];omega
theorem levelsC_append (a b:List Cnd):levelsC (a++b)=max (levelsC a) (levelsC b):=by
 induction a with
 | nil=>simp[levelsC]
 | cons v a ih=>simp only[List.cons_append,levelsC,ih];omega
theorem takeC {l:List Cnd} {k:Nat} (h:k<l.length):partsC (l.take (k+1))=partsC (l.take k)+l[k].parts∧levelsC (l.take (k+1))=max (levelsC (l.take k)) l[k].levels:=by
 rw[List.take_succ_eq_append_getElem h,Zb,levelsC_append]
 simp[partsC,levelsC]
theorem partsC_le (l:List Cnd) (k:Nat):partsC (l.take k)≤partsC l:=by
 have:=Zb (l.take k) (l.drop k)
 rw[List.take_append_drop] at this
 omega
noncomputable def FC (out:Cnd→PV) (n:Nat):List PV→Option PV:=zM (α:=Cnd) (fun c=>[.agg c.enc]) (fun c=>c.cb≤lim∧c.cb≤n) out
theorem FC_eq (out:Cnd→PV) (n:Nat) (c:Cnd) (h:c.cb≤lim∧c.cb≤n):FC out n [.agg c.enc]=some (out c) :=
 zq (enc:=fun c:Cnd=>[.agg c.enc]) (a:=c) (fun a b e=>by simp only[List.cons.injEq,and_true,PV.agg.injEq] at e;exact Za e) h
@[simp] theorem kE (hp:Hp) (c:Cnd):zE hp c.enc=some (c.enc,hp):=by rw[qt];simp
theorem xB (hp:Hp) (c:Cnd):zC hp (.agg c.enc)=some (.agg c.enc,hp):=by
 rw[qt]
 simp
theorem noOwn_cenc (c:Cnd):PV.noOwn (.agg c.enc)=true:=by
 rw[qt]
 simp
theorem FC_call (out:Cnd→PV) (n:Nat) (c:Cnd) (hp:Hp) (nx:Nat) (h:c.cb≤lim∧c.cb≤n):zd false [] (FC out n) [.agg c.enc] hp nx=some (out c,hp,nx) :=
 zJ (hp1:=hp) (show zk hp [.agg c.enc]=some ([.agg c.enc],hp) by simp only[zk,xB]) (FC_eq out n c h) (.inr (by simp only[List.all_cons,noOwn_cenc,List.all_nil,Bool.and_self]))
theorem FC_inv {out:Cnd→PV} {n:Nat} {args:List PV} {r:PV} (h:FC out n args=some r):∃c:Cnd,args=[.agg c.enc]∧(c.cb≤lim∧c.cb≤n)∧r=out c:=zg h
theorem FC_zero {out:Cnd→PV} {f:FuncId} (hfn:∃fn,prog.funcs[f]?=some fn∧(fn.name== "runtime.NumGoroutine")=false∧fn.body.isNone=false):za prog f (zd false [] (FC out 0)):=by
 refine⟨hfn,fun args hp nx r hp' nx' h=>?_⟩
 unfold zd at h
 split at h
 ·split at h
  ·rename_i r0 hF
   obtain⟨c,_,hc,_⟩:=FC_inv hF
   have:=cb_pos c
   omega
  ·cases h
 ·cases h
noncomputable abbrev GC (out:Cnd→PV):AM.Spec:=zd false [] (FC out lim)
theorem GC_call (out:Cnd→PV) (c:Cnd) (hp:Hp) (nx:Nat) (h:c.cb≤lim):GC out [.agg c.enc] hp nx=some (out c,hp,nx):=FC_call out lim c hp nx ⟨h,h⟩
end Go.Proofs.YtglppmnehgjolaaGreatDoor
namespace Go.AM
open Go.RowKit
variable {dr:Prop}
section
variable {C:Ctx} {pf:FuncId→Bool} {f:FuncId} {fn:Func} {code:Code}
theorem hPure_soundG (hg:GoodD dr C pf) (hk:Known C pf f fn code) (kill:Bool) (ns:List Nat) (F:List PV→Option PV)
  (hF:∀args r,F args=some r→∀(w:World) (S:Nat→Prop) (vs:List Value),Zip (RepC w S) args vs→∃args' r0,Zip (RepC w S) args' vs∧args'.length≤fn.ntmps∧zl C fn args'=some r0∧∀(w:World) (S:Nat→Prop) (u:Value),RepC w S r0 u→RepC w S r u):ya dr C.P f (zd kill ns F):=by
 refine⟨⟨fn,hk.func,hk.name,by rw[hk.body];rfl⟩,?_⟩
 intro args hp nx r hp' nx' h w S G vs hi hz
 unfold zd at h
 split at h
 ·rename_i aZ hp1 hfr
  split at h
  ·rename_i r0 hF0
   obtain⟨S1,k1,hz1,hsn⟩:=qR (dr:=dr) hi hfr hz
   obtain⟨args',rr,hz2,hn,hev,hup⟩:=hF _ r0 hF0 w S1 vs (kv hz1)
   unfold zl at hev
   split at hev
   ·rename_i x hpe nxe hef
    obtain⟨⟨r1,hpf1⟩,hfz,hr1⟩:=zs hev
    simp only at hr1
    subst hr1
    refine (yr hg hk hef hn k1.inv.st k1.inv.glo hz2).mono fun e w' hh=>?_
    obtain⟨v,S',G',he,fr,inv',hx,hs0,hs1,_⟩:=hh
    obtain⟨S2,k2,hc0⟩:=kQ (dr:=dr) inv' hfz hx
    have hc:=hup _ _ _ hc0
    have hS2:∀b,S2 b→S1 b∨(w.heap.size≤b∧b<w'.heap.size):=by
     intro b hb
     have hlt:=k2.inv.st b hb
     rcases k2.from_ b hb with h1 | ⟨id,blk,h1,rfl⟩ | h1
     ·rcases hs1 b h1 with h2 | h2
      ·exact .inl h2
      ·exact .inr ⟨h2,hlt⟩
     ·rcases Nat.lt_or_ge (G' id).g w.heap.size with h3 | h3
      ·rename_i hown
       have:=hown id blk h1
       omega
      ·exact .inr ⟨h3,hlt⟩
     ·exact absurd h1 (by omega)
    split at h
    ·rename_i hflat
     injection h with h
     injection h with e1 h
     injection h with e2 e3
     subst e1;subst e2;subst e3
     refine⟨v,_,G,he,Stp.outer hi fr,.c ?_⟩
     rcases hflat with hfl | hno
     ·exact flat_any hc hfl
     ·have hno':=hsn hno
      exact hc.mono fun b hb=>⟨by rw[←hno'];exact hS2 b hb,rfl⟩
    ·split at h
     ·injection h with h
      injection h with e1 h
      injection h with e2 e3
      subst e1;subst e2;subst e3
      exact⟨v,_,G,he,k1.trans (Stp.outer k1.inv fr),.c (hc.mono fun b hb=>⟨hS2 b hb,rfl⟩)⟩
     ·cases h
   ·cases hev
  ·cases h
 ·cases h
inductive SlOf (s:Nat):List (List PV)→PV→Prop
 | nil:SlOf s [] .nil
 | em:SlOf s [] .em
 | sl {c:List PV} {es:List (List PV)}:SlOf s (c::es) (.sl s (c::es))
theorem rep_slOf {w:World} {S:Nat→Prop} {s:Nat} {es:List (List PV)} {u:Value} (h:RepC w S (.sl s es) u):∃y,SlOf s es y∧RepC w S y u:=by
 cases es with
 | cons c es=>exact⟨_,.sl,h⟩
 | nil =>
   cases h with
   | sl us h0 h1 h2 h3 h4 h5 =>
     rename_i A cap
     cases A with
     | none =>
       have:=h0 rfl
       subst this
       exact⟨.nil,.nil,.nil⟩
     | some ad=>exact⟨.em,.em,.em h2⟩
theorem vS {w:World} {S:Nat→Prop} {s:Nat} {es:List (List PV)} {y:PV} {u:Value} (h:SlOf s es y) (hr:RepC w S y u):RepC w S (.sl s es) u:=by
 cases h with
 | nil=>cases hr;exact .sl (es:=[]) (fun _ _=>undef) (by simp) (by simp) (by simp[maxLen]) (by simp) (by simp) (by simp)
 | em =>
   cases hr with
   | em hc=>exact .sl (es:=[]) (fun _ _=>undef) (by simp) (by simp) hc (by simp) (by simp) (by simp)
 | sl=>exact hr
theorem yt {w:World} {S:Nat→Prop} {cs:List PV} {u:Value} (h:RepC w S (.agg cs) u) {j s:Nat} {es:List (List PV)} (hj:cs[j]?=some (.sl s es)):∃y,SlOf s es y∧RepC w S (.agg (cs.set j y)) u:=by
 cases h with
 | agg hl hr =>
   rename_i us
   have hjl:j<cs.length:=(List.getElem?_eq_some_iff.1 hj).1
   obtain⟨y,h1,h2⟩:=rep_slOf (hr j _ us[j] hj (by simp))
   refine⟨y,h1,.agg (by simpa using hl) fun k pv u hk hu=>?_⟩
   rw[List.getElem?_set] at hk
   split at hk
   ·rename_i e
    subst e
    injection hk with hk
    subst hk
    rw[Array.getElem?_eq_getElem (by omega)] at hu
    injection hu with hu
    subst hu
    exact h2
   ·exact hr k pv u hk hu
section
variable {P:Program} {hp:Hp} {nx:Nat} {t:TypeId} {s e:Nat} {es:List (List PV)} {y:PV}
theorem SlOf.len (h:SlOf s es y) (ht:qA P t=some e):lenA P t y=some (.v (.int .i64 es.length)):=by
 cases h<;>simp[lenA,ht]
theorem SlOf.view (h:SlOf s es y):AM.view hp s y=some es:=by cases h<;>simp[AM.view]
theorem SlOf.cell (h:SlOf s es y):y.isCell=true:=by cases h<;>rfl
theorem SlOf.frz (h:SlOf s es y):zC hp y=some (y,hp):=by cases h<;>rfl
theorem SlOf.noOwn (h:SlOf s es y):y.noOwn=true:=by cases h<;>rfl
theorem SlOf.up (h:SlOf s es y) (w:World) (S:Nat→Prop) (u:Value) (hr:RepC w S y u):RepC w S (.sl s es) u:=vS h hr
end
theorem OwnS.more {hp:Hp} {nx e s:Nat} {v:PV} {xs:List (List PV)} (h:OwnS hp nx e s v xs) (b:Option Blk):OwnS (upd hp nx b) (nx+1) e s v xs:=by
 rcases h with⟨rfl,rfl⟩ | ⟨id,h1,rfl,h2⟩
 ·exact .inl ⟨rfl,rfl⟩
 ·exact .inr ⟨id,by omega,rfl,by rw[zc _ _ _ _ (by omega)];exact h2⟩
theorem yK (hg:GoodD dr C pf) (hk:KnownF C pf f fn) (kill:Bool) (ns:List Nat) (F:List PV→Option PV)
  (hF:∀args r,F args=some r→∀(w:World) (S:Nat→Prop) (vs:List Value),Zip (RepC w S) args vs→∃args' r0,Zip (RepC w S) args' vs∧args'.length≤fn.ntmps∧zl C fn args'=some r0∧∀(w:World) (S:Nat→Prop) (u:Value),RepC w S r0 u→RepC w S r u):ya dr C.P f (zd kill ns F) :=
 let ⟨_,hk⟩:=hk
 hPure_soundG hg hk kill ns F hF
end
variable {dr:Prop}
def kF (P:Program) (l:Tab) (k:Nat) (L:List Tmp) (b:List Nat):Ctx:=⟨P,lookup l,fun _=>[],fun i=>if i=k then L else [],fun g=>b.contains g,fun _=>[],fun _=>none⟩
@[simp] theorem mkCtxL_P (P:Program) (l:Tab) (k:Nat) (L:List Tmp) (b:List Nat):(kF P l k L b).P=P:=rfl
@[simp] theorem call_mkL (P:Program) (l:Tab) (k:Nat) (L:List Tmp) (b:List Nat) (hp:Hp) (nx g:Nat) (x y xs:List PV):qN (kF P l k L b) hp nx (some (.fn (.func g) x y)) xs=(lookup l g).bind fun s=>s (x++xs++y) hp nx:=by
 unfold qN kF
 simp only
 cases lookup l g<;>rfl
@[simp] theorem EvC_region_mkL (P:Program) (l:Tab) (k:Nat) (L:List Tmp) (b:List Nat) (i:Nat) (ops:Array Oper) (d:Bool) (st:St) (K:Exit→St→Prop) (h:¬i=k):EvC (kF P l k L b) (.region i ops d) st K=EvL (kF P l k L b) ops ops.toList st (xS K) :=
 jc _ i ops d st K rfl (by simp[kF,h])
theorem vg {P:Program} {l:Tab} {k:Nat} {L:List Tmp} {b:List Nat} {ops:Array Oper} {d:Bool} {st:St} {K:Exit→St→Prop} (h:RefsA L st):EvC (kF P l k L b) (.region k ops d) st K=EvL (kF P l k L b) ops ops.toList st (xS K) :=
 yq _ k ops d st K (fun _ h=>by cases h) (by simpa[kF] using h)
def mkCtxF (P:Program) (l:Tab) (k:Nat) (t:Tmp):Ctx:=⟨P,lookup l,fun _=>[],fun _=>[],fun _=>false,fun i=>if i=k then [t] else [],fun _=>none⟩
@[simp] theorem mkCtxF_P (P:Program) (l:Tab) (k:Nat) (t:Tmp):(mkCtxF P l k t).P=P:=rfl
@[simp] theorem call_mkF (P:Program) (l:Tab) (k:Nat) (t:Tmp) (hp:Hp) (nx g:Nat) (x y xs:List PV):qN (mkCtxF P l k t) hp nx (some (.fn (.func g) x y)) xs=(lookup l g).bind fun s=>s (x++xs++y) hp nx:=by
 unfold qN mkCtxF
 simp only
 cases lookup l g<;>rfl
def AllBox (b:List Nat):Tab→Prop
 | []=>True
 | (g,s)::l=>(b.contains g=true→yb s)∧AllBox b l
theorem good_ofL {P:Program} {l:Tab} {q:List Nat} {k:Nat} {L:List Tmp} {b:List Nat} (hm:P.follows .mixedOrders=true) (h:AllD dr P q l) (hb:AllBox b l):GoodD dr (kF P l k L b) (fun g=>q.contains g):=by
 let g:=zr hm h
 refine⟨g.spec,g.quiet,g.mixed,?_,fun _ _ h=>by cases h⟩
 have key:∀l:Tab,AllBox b l→∀g s,b.contains g=true→lookup l g=some s→yb s:=by
  intro l
  induction l with
  | nil=>intro _ g s _ h;cases h
  | cons x l ih =>
    obtain⟨k,sp⟩:=x
    rintro⟨h1,h2⟩ g s hg hs
    simp only[lookup_cons] at hs
    split at hs
    ·rename_i e
     injection hs with hs
     subst hs;subst e
     exact h1 hg
    ·exact ih h2 g s hg hs
 exact fun g s hg hs=>key l hb g s hg hs
theorem wY:∀{xs ys:List PV} {hp hp1:Hp},zk hp xs=some (ys,hp1)→∀{id:Nat} {b:Blk},hp id=some b→b.arr=false→hp1 id=some b
 | [],ys,hp,hp1,h,id,b,hb,ha=>by
   simp only[zk] at h
   injection h with h;injection h with _ h;subst h;exact hb
 | x::l,ys,hp,hp1,h,id,b,hb,ha=>by
   simp only[zk] at h
   split at h
   ·rename_i y hp2 h1
    split at h
    ·rename_i r hp3 h2
     injection h with h;injection h with _ h;subst h
     exact wY h2 (ku h1 hb ha) ha
    ·cases h
   ·cases h
theorem vT (ns:List Nat) (F:List PV→Option (Option Blk)):yb (qD ns F):=by
 intro args hp nx r hp' nx' h
 unfold qD at h
 split at h
 ·rename_i aZ hp1 hf
  split at h
  ·injection h with h;injection h with _ h;injection h with h1 h2;subst h1;subst h2
   exact⟨Nat.le_refl _,fun id blk _ h1 h2=>wY hf h1 h2⟩
  ·injection h with h;injection h with _ h;injection h with h1 h2;subst h1;subst h2
   exact⟨by omega,fun id blk hid h1 h2=>by rw[zc _ _ _ _ (by omega)];exact wY hf h1 h2⟩
  ·cases h
 ·cases h
def Stands (r0 r:PV):Prop:=∀(w:World) (S:Nat→Prop) (u:Value),RepC w S r0 u→RepC w S r u
def pureU (r:PV) (x:PV) (hp:Hp) (_:Nat):Prop:=∃r0,(AM.freeze hp x).map (·.1)=some r0∧Stands r0 r
theorem qF {C:Ctx} {fn:Func} {code:Code} {args:List PV} {r:PV} (hb:fn.body=some code)
  (h:EvC C code ⟨yD args,fun _=>none,0⟩ (retK C.P fn (pureU r))):∃r0,zl C fn args=some r0∧Stands r0 r:=by
 obtain⟨x,hp',nx',h1,r0,h2,h3⟩:=zn hb h
 exact⟨r0,by unfold zl;simp only[h1];exact h2,h3⟩
theorem OwnS.gone {hp:Hp} {nx e s:Nat} {v:PV} {xs:List (List PV)} (h:OwnS hp nx e s v xs):∃y hp1,zP hp v=some (y,hp1)∧(y=.nil∧xs=[]∨y=.sl s xs)∧∀id,(∀n,v≠.own id 0 n)→hp1 id=hp id:=by
 rcases h with⟨rfl,rfl⟩ | ⟨id,h1,rfl,h2⟩
 ·exact⟨.nil,hp,rfl,.inl ⟨rfl,rfl⟩,fun _ _=>rfl⟩
 ·exact⟨.sl s xs,upd hp id none,by simp[h2],.inr rfl,fun k hk=>zc _ _ _ _ (fun e=>hk xs.length (by subst e;rfl))⟩
theorem nilOr_stands {w:World} {S:Nat→Prop} {s:Nat} {xs:List (List PV)} {y:PV} {u:Value} (h:y=.nil∧xs=[]∨y=.sl s xs) (hr:RepC w S y u):RepC w S (.sl s xs) u:=by
 rcases h with⟨rfl,rfl⟩ | rfl
 ·exact vS .nil hr
 ·exact hr
theorem Stands.refl (x:PV):Stands x x:=fun _ _ _ h=>h
theorem Stands.nilOr {s:Nat} {xs:List (List PV)} {y:PV} (h:y=.nil∧xs=[]∨y=.sl s xs):Stands y (.sl s xs):=fun _ _ _ hr=>nilOr_stands h hr
inductive StandsL:List PV→List PV→Prop
 | nil:StandsL [] []
 | cons {x y:PV} {xs ys:List PV}:Stands x y→StandsL xs ys→StandsL (x::xs) (y::ys)
theorem StandsL.length {xs ys:List PV} (h:StandsL xs ys):xs.length=ys.length:=by
 induction h with
 | nil=>rfl
 | cons _ _ ih=>simp[ih]
theorem StandsL.get {xs ys:List PV} (h:StandsL xs ys):∀{j:Nat} {x y:PV},xs[j]?=some x→ys[j]?=some y→Stands x y:=by
 induction h with
 | nil=>intro j x y h;cases h
 | cons h0 _ ih =>
   intro j x y h1 h2
   cases j with
   | zero=>simp at h1 h2;subst h1;subst h2;exact h0
   | succ j=>exact ih (by simpa using h1) (by simpa using h2)
theorem StandsL.agg {xs ys:List PV} (h:StandsL xs ys):Stands (.agg xs) (.agg ys):=by
 intro w S u hr
 cases hr with
 | agg hl hc =>
   refine .agg (by rw[←h.length];exact hl) fun j pv u hj hu=>?_
   have hjl:j<xs.length:=by rw[h.length];exact (List.getElem?_eq_some_iff.1 hj).1
   exact h.get (List.getElem?_eq_getElem hjl) hj _ _ _ (hc j _ u (List.getElem?_eq_getElem hjl) hu)
theorem StandsL.tup {xs ys:List PV} (h:StandsL xs ys):Stands (.tup xs) (.tup ys):=by
 intro w S u hr
 cases hr with
 | tup hl hc =>
   refine .tup (by rw[←h.length];exact hl) fun j pv u hj hu=>?_
   have hjl:j<xs.length:=by rw[h.length];exact (List.getElem?_eq_some_iff.1 hj).1
   exact h.get (List.getElem?_eq_getElem hjl) hj _ _ _ (hc j _ u (List.getElem?_eq_getElem hjl) hu)
theorem OwnS.at_ {hp:Hp} {nx e s:Nat} {v:PV} {xs:List (List PV)} (h:OwnS hp nx e s v xs) (hk:0<xs.length):∃id,id<nx∧v=.own id 0 xs.length∧hp id=some ⟨e,s,true,xs⟩:=by
 rcases h with⟨rfl,rfl⟩ | h
 ·simp at hk
 ·exact h
theorem OwnS.same {hp hp':Hp} {nx nx' e s:Nat} {v:PV} {xs:List (List PV)} (h:OwnS hp nx e s v xs) (hn:nx≤nx') (hh:∀id n,v=.own id 0 n→hp' id=hp id):OwnS hp' nx' e s v xs:=by
 rcases h with⟨rfl,rfl⟩ | ⟨id,h1,rfl,h2⟩
 ·exact .inl ⟨rfl,rfl⟩
 ·exact .inr ⟨id,by omega,rfl,by rw[hh id _ rfl];exact h2⟩
variable {dr:Prop}
def n1 (s:Nat):PV→PV
 | .nil=>.sl s []
 | .em=>.sl s []
 | x=>x
@[simp] theorem n1_nil (s:Nat):n1 s .nil=.sl s []:=rfl
@[simp] theorem n1_em (s:Nat):n1 s .em=.sl s []:=rfl
@[simp] theorem n1_sl (s t:Nat) (es:List (List PV)):n1 s (.sl t es)=.sl t es:=rfl
@[simp] theorem n1_v (s:Nat) (x:Value):n1 s (.v x)=.v x:=rfl
def fixC:List (Option Nat)→List PV→List PV
 | some s::l,x::xs=>n1 s x::fixC l xs
 | none::l,x::xs=>x::fixC l xs
 | _,xs=>xs
inductive Sh where
 | a
 | g (p:List (Option Nat))
 | s (n:Nat) (p:List (Option Nat))
def Sh.fix:Sh→PV→PV
 | .g p,.agg cs=>.agg (fixC p cs)
 | .s _ p,.sl m es=>.sl m (es.map (fixC p))
 | .s n _,x=>n1 n x
 | _,x=>x
@[simp] theorem Sh.fix_a (x:PV):Sh.fix .a x=x:=by cases x<;>rfl
@[simp] theorem Sh.fix_g (p:List (Option Nat)) (cs:List PV):Sh.fix (.g p) (.agg cs)=.agg (fixC p cs):=rfl
@[simp] theorem Sh.fix_s (n m:Nat) (p:List (Option Nat)) (es:List (List PV)):Sh.fix (.s n p) (.sl m es)=.sl m (es.map (fixC p)):=rfl
@[simp] theorem Sh.fix_nil (n:Nat) (p:List (Option Nat)):Sh.fix (.s n p) .nil=.sl n []:=rfl
@[simp] theorem Sh.fix_em (n:Nat) (p:List (Option Nat)):Sh.fix (.s n p) .em=.sl n []:=rfl
attribute [simp] fixC
def fixL:List Sh→List PV→List PV
 | h::l,x::xs=>h.fix x::fixL l xs
 | _,xs=>xs
attribute [simp] fixL
theorem n1_stands (s:Nat) (x:PV):Stands x (n1 s x):=by
 intro w S u h
 cases x with
 | nil=>exact vS .nil h
 | em=>exact vS .em h
 | _=>exact h
theorem wK:∀(p:List (Option Nat)) (cs:List PV),(fixC p cs).length=cs.length
 | [],cs=>by cases cs<;>rfl
 | none::p,[]=>rfl
 | some s::p,[]=>rfl
 | none::p,x::cs=>by simp[wK p cs]
 | some s::p,x::cs=>by simp[wK p cs]
theorem ye:∀(p:List (Option Nat)) (cs:List PV),StandsL cs (fixC p cs)
 | [],[]=>.nil
 | [],x::cs=>by
   have:=ye [] cs
   rw[show fixC [] cs=cs by cases cs<;>rfl] at this
   exact .cons (Stands.refl x) this
 | none::p,[]=>.nil
 | some s::p,[]=>.nil
 | none::p,x::cs=>.cons (Stands.refl x) (ye p cs)
 | some s::p,x::cs=>.cons (n1_stands s x) (ye p cs)
theorem j7 (h:Sh) (x:PV):Stands x (h.fix x):=by
 intro w S u hr
 cases h with
 | a=>simpa using hr
 | g p =>
   cases x with
   | agg cs=>exact (ye p cs).agg w S u hr
   | _=>exact hr
 | s n p =>
   cases x with
   | sl m es =>
     cases hr with
     | sl us h0 h1 h2 h3 h4 h5 =>
       rename_i A cap
       have:=RepC.sl (w:=w) (S:=S) (es:=es.map (fixC p)) (A:=A) (cap:=cap) (s:=m) us h0 (by simpa using h1) h2 (fun c hc=>by
        obtain⟨c',hc',rfl⟩:=List.mem_map.1 hc
        rw[wK];exact h3 c' hc') (fun i j c pv hi hj=>by
        rw[List.getElem?_map] at hi
        obtain⟨c',hc',rfl⟩:∃c',es[i]?=some c'∧fixC p c'=c:=by
         cases hh:es[i]? with
         | none=>rw[hh] at hi;cases hi
         | some c'=>rw[hh] at hi;injection hi with hi;exact⟨c',rfl,hi⟩
        have hjl:j<c'.length:=by
         have:=(List.getElem?_eq_some_iff.1 hj).1
         rwa [wK] at this
        exact h4 i j c' _ hc' (List.getElem?_eq_getElem hjl)) (fun i j c pv hi hj=>by
        rw[List.getElem?_map] at hi
        obtain⟨c',hc',rfl⟩:∃c',es[i]?=some c'∧fixC p c'=c:=by
         cases hh:es[i]? with
         | none=>rw[hh] at hi;cases hi
         | some c'=>rw[hh] at hi;injection hi with hi;exact⟨c',rfl,hi⟩
        have hjl:j<c'.length:=by
         have:=(List.getElem?_eq_some_iff.1 hj).1
         rwa [wK] at this
        exact (ye p c').get (List.getElem?_eq_getElem hjl) hj _ _ _ (h5 i j c' _ hc' (List.getElem?_eq_getElem hjl)))
       rw[List.length_map] at this
       exact this
   | nil=>exact vS .nil hr
   | em=>exact vS .em hr
   | _=>exact hr
theorem vU {w:World} {S:Nat→Prop}:∀{hs:List Sh} {xs:List PV} {us:List Value},Zip (RepC w S) xs us→Zip (RepC w S) (fixL hs xs) us
 | [],xs,us,h=>by cases xs<;>exact h
 | s::hs,[],us,h=>h
 | s::hs,x::xs,us,h=>by
   obtain⟨u,us',rfl,hu,hz⟩:=h.uncons
   exact .cons (j7 s x w S u hu) (vU hz)
def zT (shs:List Sh) (F:List PV→Option PV):AM.Spec:=zd false [] fun args=>F (fixL shs args)
theorem yF (shs:List Sh) (F:List PV→Option PV):Quiet (zT shs F):=zf _ _
theorem qo {C:Ctx} {pf:FuncId→Bool} {f:FuncId} {fn:Func} (hg:GoodD dr C pf) (hk:KnownF C pf f fn) (shs:List Sh) (F:List PV→Option PV)
  (hF:∀args r,F args=some r→args.length≤fn.ntmps∧∃r0,zl C fn args=some r0∧Stands r0 r):ya dr C.P f (zT shs F) :=
 yK hg hk false [] _ fun args r h w S vs hz=>by
  obtain⟨h1,r0,h2,h3⟩:=hF _ _ h
  exact⟨fixL shs args,r0,vU hz,h1,h2,h3⟩
theorem wG {shs:List Sh} {F:List PV→Option PV} {args:List PV} {hp:Hp} {nx:Nat} {aZ:List PV} {r:PV} (h1:zk hp args=some (aZ,hp)) (h2:F (fixL shs aZ)=some r) (h3:r.flat=true∨args.all PV.noOwn=true) :
  zT shs F args hp nx=some (r,hp,nx):=by
 have hn:qr [] aZ=aZ:=by cases aZ<;>rfl
 exact zJ h1 (by rw[hn];exact h2) h3
def pureF (sh:Sh) (r:PV) (x:PV) (hp:Hp) (_:Nat):Prop:=∃r0,(AM.freeze hp x).map (·.1)=some r0∧sh.fix r0=r
theorem vi {C:Ctx} {fn:Func} {code:Code} {args:List PV} {sh:Sh} {r:PV} (hb:fn.body=some code)
  (h:EvC C code ⟨yD args,fun _=>none,0⟩ (retK C.P fn (pureF sh r))):∃r0,zl C fn args=some r0∧Stands r0 r:=by
 obtain⟨x,hp',nx',h1,r0,h2,h3⟩:=zn hb h
 exact⟨r0,by unfold zl;simp only[h1];exact h2,h3 ▸ j7 sh r0⟩
def qc (sh:Sh) (r:PV) (x:PV) (hp:Hp) (_:Nat):Prop:=∃r0 y,(AM.freeze hp x).map (·.1)=some (.tup [r0,y])∧.tup [sh.fix r0,y]=r
theorem wR {C:Ctx} {fn:Func} {code:Code} {args:List PV} {sh:Sh} {r:PV} (hb:fn.body=some code)
  (h:EvC C code ⟨yD args,fun _=>none,0⟩ (retK C.P fn (qc sh r))):∃r0,zl C fn args=some r0∧Stands r0 r:=by
 obtain⟨x,hp',nx',h1,r0,y,h2,h3⟩:=zn hb h
 exact⟨.tup [r0,y],by unfold zl;simp only[h1];exact h2,h3 ▸ (StandsL.cons (j7 sh r0) (.cons (Stands.refl y) .nil)).tup⟩
theorem yZ {P:Program} {g:FuncId} {F:List PV→Option PV} (hfn:∃fn,P.funcs[g]?=some fn∧(fn.name== "runtime.NumGoroutine")=false∧fn.body.isNone=false)
  (h:∀args r,F args=some r→∃us:List Value,args=us.map PV.v∧(∀u∈us,lit u=true)∧r.flat=true∧∃v,(∀w S,RepC w S r v)∧∀w S,Glo P w S→Calls P g us.toArray w fun e w'=>e=.returned v∧Fr dr w (fun _=>False) w'):ya dr P g (zd false [] F):=by
 refine⟨hfn,?_⟩
 intro args hp nx r hp' nx' hs w S G vs hi hz
 unfold zd at hs
 split at hs
 ·rename_i aZ hp1 hfr
  split at hs
  ·rename_i r0 hF
   obtain⟨us,e,hl,hfl,v,hv,hc⟩:=h _ _ hF
   have e':qr [] aZ=aZ:=by cases aZ<;>rfl
   rw[e'] at e
   subst e
   have hargs:args=us.map PV.v:=by
    have key:∀(args:List PV) (us:List Value) (hp1:Hp),zk hp args=some (us.map PV.v,hp1)→args=us.map PV.v:=by
     intro args
     induction args with
     | nil=>intro us hp1 hh;simp only[zk] at hh;injection hh with hh;injection hh with hh _
     | cons x l ih =>
       intro us hp1 hh
       simp only[zk] at hh
       split at hh
       ·rename_i y hp2 hy
        split at hh
        ·rename_i r2 hp3 hr2
         injection hh with hh
         injection hh with hh _
         cases us with
         | nil=>simp at hh
         | cons u us =>
           simp only[List.map_cons,List.cons.injEq] at hh
           obtain⟨rfl,rfl⟩:=hh
           have hx:x=.v u∧hp2=hp:=by
            unfold zC at hy
            split at hy
            ·split at hy
             ·injection hy with hy;injection hy with hy _;cases hy
             ·cases hy
            ·unfold zP at hy
             split at hy<;>first
              | (split at hy<;>first | (split at hy<;>first | (injection hy with hy;injection hy with hy _;cases hy;done) | cases hy) | cases hy)
              | (injection hy with hy;injection hy with h1 h2;first | (exact⟨by rw[←h1],h2.symm⟩) | cases h1)
              | cases hy
           obtain⟨rfl,rfl⟩:=hx
           rw[ih us hp3 hr2]
           rfl
        ·cases hh
       ·cases hh
    exact key args us hp1 hfr
   subst hargs
   simp only[hfl,true_or,if_true] at hs
   injection hs with hs
   injection hs with h1 h2
   injection h2 with h2 h3
   subst h1;subst h2;subst h3
   rw[zip_lits hl hz]
   refine (hc w S hi.glo).mono fun e w' hh=>?_
   obtain⟨rfl,fr⟩:=hh
   exact⟨v,_,G,rfl,Stp.outer hi fr,.c (hv _ _)⟩
  ·cases hs
 ·cases hs
end Go.AM
namespace Go.Proofs
open Go.Shelf
def Tryz.lays161_ren:Go.Shelf.Ren:=⟨fun | 161=>226 | 231=>235 | 227=>236 | 233=>237 | 235=>238 | 228=>243 | 197=>177 | 151=>244 | 260=>190 | 152=>248 | 137=>250 | 119=>251 | 224=>212 | 225=>211 | 217=>210 | 266=>227 | n=>n,fun | 9=>9 | 4=>4 | 3=>3 | 5=>5 | 117=>294 | 116=>293 | 0=>0 | 124=>297 | 105=>240 | 21=>21 | 119=>270 | 46=>108 | 139=>273 | 138=>272 | n=>n,fun | 3=>1 | 4=>2 | n=>n⟩
theorem Tryz.lays161:Go.Proofs.Lays.n161 prog Tryz.lays161_ren:={
 mixed:=by kernel_rfl
 f119:=func251.trans (congrArg some (by kernel_rfl))
 f137:=func250.trans (congrArg some (by kernel_rfl))
 f151:=func244.trans (congrArg some (by kernel_rfl))
 f152:=func248.trans (congrArg some (by kernel_rfl))
 f161:=func226.trans (congrArg some (by kernel_rfl))
 f197:=func177.trans (congrArg some (by kernel_rfl))
 f217:=func210.trans (congrArg some (by kernel_rfl))
 f224:=func212.trans (congrArg some (by kernel_rfl))
 f225:=func211.trans (congrArg some (by kernel_rfl))
 f227:=func236.trans (congrArg some (by kernel_rfl))
 f228:=func243.trans (congrArg some (by kernel_rfl))
 f231:=func235.trans (congrArg some (by kernel_rfl))
 f233:=func237.trans (congrArg some (by kernel_rfl))
 f235:=func238.trans (congrArg some (by kernel_rfl))
 f260:=func190.trans (congrArg some (by kernel_rfl))
 f266:=func227.trans (congrArg some (by kernel_rfl))
 t0:=underlying0
 a0:=isAgg0
 z0:=sizeOf0
 v0:=zeroValue0
 t3:=underlying3
 a3:=isAgg3
 z3:=sizeOf3
 v3:=zeroValue3
 t4:=underlying4
 a4:=isAgg4
 z4:=sizeOf4
 v4:=zeroValue4
 t5:=underlying5
 a5:=isAgg5
 z5:=sizeOf5
 v5:=zeroValue5
 t9:=underlying9
 a9:=isAgg9
 z9:=sizeOf9
 v9:=zeroValue9
 t21:=underlying21
 a21:=isAgg21
 z21:=sizeOf21
 v21:=zeroValue21
 t46:=underlying108
 a46:=isAgg108
 z46:=sizeOf108
 v46:=zeroValue108
 t105:=underlying240
 a105:=isAgg240
 z105:=sizeOf240
 v105:=zeroValue240
 t116:=underlying293
 a116:=isAgg293
 z116:=sizeOf293
 t117:=underlying294
 a117:=isAgg294
 z117:=sizeOf294
 v117:=zeroValue294
 t119:=underlying270
 a119:=isAgg270
 z119:=sizeOf270
 t124:=underlying297
 a124:=isAgg297
 z124:=sizeOf297
 v124:=zeroValue297
 t138:=underlying272
 a138:=isAgg272
 z138:=sizeOf272
 v138:=zeroValue272
 t139:=underlying273
 a139:=isAgg273
 z139:=sizeOf273
 v139:=zeroValue273
 g3:=by kernel_rfl
 g4:=by kernel_rfl }
def Tryz.lays172_ren:Go.Shelf.Ren:=⟨fun | 172=>197 | 244=>220 | 245=>221 | 247=>229 | 279=>230 | 280=>231 | 281=>232 | 282=>233 | 287=>239 | 316=>240 | 171=>242 | 205=>241 | 321=>245 | 322=>246 | 243=>247 | 246=>249 | 283=>252 | 284=>253 | 285=>254 | 286=>255 | 129=>83 | 317=>256 | 318=>257 | 319=>258 | 320=>259 | 337=>260 | 338=>261 | n=>n,fun | 9=>9 | 3=>3 | 75=>260 | 76=>261 | 4=>4 | 5=>5 | 167=>283 | 37=>284 | 0=>0 | 85=>285 | 2=>2 | 168=>287 | 53=>141 | 175=>298 | 46=>108 | 210=>302 | 127=>307 | 145=>310 | 143=>308 | 21=>21 | 171=>314 | 173=>316 | 212=>319 | 51=>139 | 20=>20 | 213=>320 | 232=>321 | 233=>322 | 80=>323 | n=>n,fun | 15=>3 | 16=>4 | 17=>5 | 18=>6 | 19=>7 | n=>n⟩
theorem Tryz.lays172:Go.Proofs.Lays.n172 prog Tryz.lays172_ren:={
 mixed:=by kernel_rfl
 f129:=func83.trans (congrArg some (by kernel_rfl))
 f171:=func242.trans (congrArg some (by kernel_rfl))
 f172:=func197.trans (congrArg some (by kernel_rfl))
 f205:=func241.trans (congrArg some (by kernel_rfl))
 f243:=func247.trans (congrArg some (by kernel_rfl))
 f244:=func220.trans (congrArg some (by kernel_rfl))
 f245:=func221.trans (congrArg some (by kernel_rfl))
 f246:=func249.trans (congrArg some (by kernel_rfl))
 f247:=func229.trans (congrArg some (by kernel_rfl))
 f279:=func230.trans (congrArg some (by kernel_rfl))
 f280:=func231.trans (congrArg some (by kernel_rfl))
 f281:=func232.trans (congrArg some (by kernel_rfl))
 f282:=func233.trans (congrArg some (by kernel_rfl))
 f283:=func252.trans (congrArg some (by kernel_rfl))
 f284:=func253.trans (congrArg some (by kernel_rfl))
 f285:=func254.trans (congrArg some (by kernel_rfl))
 f286:=func255.trans (congrArg some (by kernel_rfl))
 f287:=func239.trans (congrArg some (by kernel_rfl))
 f316:=func240.trans (congrArg some (by kernel_rfl))
 f317:=func256.trans (congrArg some (by kernel_rfl))
 f318:=func257.trans (congrArg some (by kernel_rfl))
 f319:=func258.trans (congrArg some (by kernel_rfl))
 f320:=func259.trans (congrArg some (by kernel_rfl))
 f321:=func245.trans (congrArg some (by kernel_rfl))
 f322:=func246.trans (congrArg some (by kernel_rfl))
 f337:=func260.trans (congrArg some (by kernel_rfl))
 f338:=func261.trans (congrArg some (by kernel_rfl))
 t0:=underlying0
 a0:=isAgg0
 z0:=sizeOf0
 v0:=zeroValue0
 t2:=underlying2
 a2:=isAgg2
 z2:=sizeOf2
 v2:=zeroValue2
 t3:=underlying3
 a3:=isAgg3
 z3:=sizeOf3
 v3:=zeroValue3
 t4:=underlying4
 a4:=isAgg4
 z4:=sizeOf4
 v4:=zeroValue4
 t5:=underlying5
 a5:=isAgg5
 z5:=sizeOf5
 v5:=zeroValue5
 t9:=underlying9
 a9:=isAgg9
 z9:=sizeOf9
 v9:=zeroValue9
 t20:=underlying20
 a20:=isAgg20
 z20:=sizeOf20
 v20:=zeroValue20
 t21:=underlying21
 a21:=isAgg21
 z21:=sizeOf21
 v21:=zeroValue21
 t37:=underlying284
 a37:=isAgg284
 z37:=sizeOf284
 v37:=zeroValue284
 t46:=underlying108
 a46:=isAgg108
 z46:=sizeOf108
 v46:=zeroValue108
 t51:=underlying139
 a51:=isAgg139
 z51:=sizeOf139
 v51:=zeroValue139
 t53:=underlying141
 a53:=isAgg141
 z53:=sizeOf141
 v53:=zeroValue141
 t75:=underlying260
 a75:=isAgg260
 z75:=sizeOf260
 v75:=zeroValue260
 t76:=underlying261
 a76:=isAgg261
 z76:=sizeOf261
 v76:=zeroValue261
 t85:=underlying285
 a85:=isAgg285
 z85:=sizeOf285
 v85:=zeroValue285
 t127:=underlying307
 a127:=isAgg307
 z127:=sizeOf307
 v127:=zeroValue307
 t143:=underlying308
 a143:=isAgg308
 z143:=sizeOf308
 v143:=zeroValue308
 t145:=underlying310
 a145:=isAgg310
 z145:=sizeOf310
 v145:=zeroValue310
 t167:=underlying283
 a167:=isAgg283
 z167:=sizeOf283
 v167:=zeroValue283
 t168:=underlying287
 a168:=isAgg287
 z168:=sizeOf287
 v168:=zeroValue287
 t171:=underlying314
 a171:=isAgg314
 z171:=sizeOf314
 v171:=zeroValue314
 t173:=underlying316
 a173:=isAgg316
 z173:=sizeOf316
 v173:=zeroValue316
 t175:=underlying298
 a175:=isAgg298
 z175:=sizeOf298
 v175:=zeroValue298
 t210:=underlying302
 a210:=isAgg302
 z210:=sizeOf302
 v210:=zeroValue302
 t212:=underlying319
 a212:=isAgg319
 z212:=sizeOf319
 v212:=zeroValue319
 t213:=underlying320
 a213:=isAgg320
 z213:=sizeOf320
 t232:=underlying321
 a232:=isAgg321
 z232:=sizeOf321
 v232:=zeroValue321
 t233:=underlying322
 a233:=isAgg322
 z233:=sizeOf322
 v233:=zeroValue322
 g15:=by kernel_rfl
 g16:=by kernel_rfl
 g17:=by kernel_rfl
 g18:=by kernel_rfl
 g19:=by kernel_rfl }
def Tryz.lays219_ren:Go.Shelf.Ren:=⟨fun | 219=>191 | 217=>210 | 225=>211 | 224=>212 | 267=>213 | 266=>227 | 314=>228 | n=>n,fun | 9=>9 | 3=>3 | 4=>4 | 5=>5 | 46=>108 | 146=>281 | 51=>139 | n=>n,fun | 1=>0 | n=>n⟩
theorem Tryz.lays219:Go.Proofs.Lays.n219 prog Tryz.lays219_ren:={
 mixed:=by kernel_rfl
 f217:=func210.trans (congrArg some (by kernel_rfl))
 f219:=func191.trans (congrArg some (by kernel_rfl))
 f224:=func212.trans (congrArg some (by kernel_rfl))
 f225:=func211.trans (congrArg some (by kernel_rfl))
 f266:=func227.trans (congrArg some (by kernel_rfl))
 f267:=func213.trans (congrArg some (by kernel_rfl))
 f314:=func228.trans (congrArg some (by kernel_rfl))
 t3:=underlying3
 a3:=isAgg3
 z3:=sizeOf3
 v3:=zeroValue3
 t4:=underlying4
 a4:=isAgg4
 z4:=sizeOf4
 v4:=zeroValue4
 t5:=underlying5
 a5:=isAgg5
 z5:=sizeOf5
 v5:=zeroValue5
 t9:=underlying9
 a9:=isAgg9
 z9:=sizeOf9
 v9:=zeroValue9
 t46:=underlying108
 a46:=isAgg108
 z46:=sizeOf108
 v46:=zeroValue108
 t51:=underlying139
 a51:=isAgg139
 z51:=sizeOf139
 v51:=zeroValue139
 t146:=underlying281
 a146:=isAgg281
 z146:=sizeOf281
 v146:=zeroValue281
 g1:=by kernel_rfl }
def Tryz.lays138_ren:Go.Shelf.Ren:=⟨fun | 138=>193 | 195=>214 | 218=>215 | 143=>178 | 219=>191 | 217=>210 | 225=>211 | 224=>212 | 267=>213 | 266=>227 | 314=>228 | n=>n,fun | 9=>9 | 3=>3 | 4=>4 | 5=>5 | 0=>0 | 46=>108 | 146=>281 | 51=>139 | n=>n,fun | 1=>0 | n=>n⟩
theorem Tryz.lays138:Go.Proofs.Lays.n138 prog Tryz.lays138_ren:={
 mixed:=by kernel_rfl
 f138:=func193.trans (congrArg some (by kernel_rfl))
 f143:=func178.trans (congrArg some (by kernel_rfl))
 f195:=func214.trans (congrArg some (by kernel_rfl))
 f217:=func210.trans (congrArg some (by kernel_rfl))
 f218:=func215.trans (congrArg some (by kernel_rfl))
 f219:=func191.trans (congrArg some (by kernel_rfl))
 f224:=func212.trans (congrArg some (by kernel_rfl))
 f225:=func211.trans (congrArg some (by kernel_rfl))
 f266:=func227.trans (congrArg some (by kernel_rfl))
 f267:=func213.trans (congrArg some (by kernel_rfl))
 f314:=func228.trans (congrArg some (by kernel_rfl))
 t0:=underlying0
 a0:=isAgg0
 z0:=sizeOf0
 v0:=zeroValue0
 t3:=underlying3
 a3:=isAgg3
 z3:=sizeOf3
 v3:=zeroValue3
 t4:=underlying4
 a4:=isAgg4
 z4:=sizeOf4
 v4:=zeroValue4
 t5:=underlying5
 a5:=isAgg5
 z5:=sizeOf5
 v5:=zeroValue5
 t9:=underlying9
 a9:=isAgg9
 z9:=sizeOf9
 v9:=zeroValue9
 t46:=underlying108
 a46:=isAgg108
 z46:=sizeOf108
 v46:=zeroValue108
 t51:=underlying139
 a51:=isAgg139
 z51:=sizeOf139
 v51:=zeroValue139
 t146:=underlying281
 a146:=isAgg281
 z146:=sizeOf281
 v146:=zeroValue281
 g1:=by kernel_rfl }
end Go.Proofs
