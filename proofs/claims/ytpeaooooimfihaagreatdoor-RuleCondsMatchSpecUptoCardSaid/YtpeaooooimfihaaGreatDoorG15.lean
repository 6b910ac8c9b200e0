/-
Itoa, FormatBool, TrimRight; writing bytes and texts into a builder; quote, thousandths.
Conditions as data: their cells.
ReadVersion.
readPartial.
Copies of slices.
-/
import Derived.Test.YtpeaooooimfihaaGreatDoorG14
import Derived.Test.YtpeaooooimfihaaGreatDoorG13
import Derived.Shelf.Strconv.Itoa3
import Derived.Shelf.Small.Wraps
import Derived.Test.YtpeaooooimfihaaGreatDoorG12
import Derived.Test.YtpeaooooimfihaaGreatDoorG10
set_option maxRecDepth 8000
namespace Go.Proofs.YtpeaooooimfihaaGreatDoor
open Go.Proofs.Tryz
open Go.RowKit Go.AM Go.PrLaw
theorem tab_var {P:Program} {w:World} {name:String} {g:Nat} {k:IntKind} {zs:List Int} (h:P.globalNamed name=some g) (hh:∃ty fz,w.heap[g]?=some (.cells (zs.map fun z=>Value.int k z).toArray ty fz)):Lib.TabIs P w name k zs:=by
 obtain⟨ty,fz,hh⟩:=hh
 simp[Lib.TabIs,World.var?,h,hh]
theorem fr_grow {dr:Prop} (w:World) (k:Nat) (os:Array Obj):Fr dr w (fun _=>False) (Sort.grow (w.drewN k) os) :=
 ⟨rfl,rfl,rfl,by simp[Sort.grow,World.drewN],fun _=>Nat.le_add_right _ _,fun j hj _=>by simp[Sort.grow,World.drewN,Array.getElem?_append,hj]⟩
noncomputable def FIt:List PV→Option PV:=zH (α:=Int) (fun n=>[int n]) (fun n=>0≤n∧n≤9223372036854775807) (fun n=>str (Lib.decDigits n.toNat))
theorem FIt_call (n:Int) (hp:Hp) (nx:Nat) (h:0≤n) (h2:n≤9223372036854775807):zf false [] FIt [int n] hp nx=some (str (Lib.decDigits n.toNat),hp,nx) :=
 zK rfl (zn (enc:=fun n:Int=>[int n]) (a:=n) (fun a b e=>by simpa using e) ⟨h,h2⟩) (.inl rfl)
theorem itoa_sound:za prog 87 (zf false [] FIt) :=
 qm ⟨_,func87,by kernel_rfl,by kernel_rfl⟩ fun xs r h=>by
  obtain⟨n,rfl,⟨h0,h1⟩,rfl⟩:=ze h
  refine⟨[.int .i64 n],rfl,by simp[lit],rfl,.string ⟨(Lib.decDigits n.toNat).toArray⟩,fun w S=>.v rfl,fun w S hg=>?_⟩
  obtain⟨_,htab⟩:=hg.2 (3,.u64,Lib.pow10Tab) (by simp[km])
  refine (Any.strconv_Itoa Tryz.laysM171 n (by omega) h1 w (tab_var (g:=3) (by kernel_rfl) htab)).mono fun e w' hh=>?_
  obtain⟨rfl,k,os,rfl⟩:=hh
  refine⟨?_,fr_grow _ _ _⟩
  unfold Lib.itoa
  rw[if_neg (by omega)]
def FBo:List PV→Option PV
 | [.v (.bool b)]=>some (str (Lib.formatBool b))
 | _=>none
theorem FBo_call (b:Bool) (hp:Hp) (nx:Nat):zf false [] FBo [.v (.bool b)] hp nx=some (str (Lib.formatBool b),hp,nx):=zK rfl rfl (.inl rfl)
theorem fmtBool_sound:za prog 80 (zf false [] FBo) :=
 qm ⟨_,func80,by kernel_rfl,by kernel_rfl⟩ fun xs r h=>by
  unfold FBo at h
  split at h
  ·rename_i b
   injection h with h
   subst h
   refine⟨[.bool b],rfl,by simp[lit],rfl,.string ⟨(Lib.formatBool b).toArray⟩,fun w S=>.v rfl,fun w S hg=>?_⟩
   refine (Any.strconv_FormatBool Tryz.lays121 b w).mono fun e w' hh=>?_
   obtain⟨rfl,rfl⟩:=hh
   exact⟨rfl,Fr.refl _ _⟩
  ·cases h
def trP (a b:List UInt8):PV:=str (Lib.trimRightB a (b.headD 0))
theorem trimRight_sound:za prog 88 (zf false [] (FTT trP fun _ b=>one7 b)) :=
 qm ⟨_,func88,by kernel_rfl,by kernel_rfl⟩ fun args r h=>by
  obtain⟨a,b,rfl,h1,h2,⟨c,rfl,hc⟩,rfl⟩:=wL h
  unfold lim at h1
  refine⟨[.string ⟨a.toArray⟩,.string ⟨#[c]⟩],rfl,by simp[lit],rfl,.string ⟨(Lib.trimRightB a c).toArray⟩,fun w S=>.v rfl,fun w S _=>?_⟩
  refine (Any.strings_TrimRight_one Tryz.lays162 ⟨a.toArray⟩ c hc w (by simp;omega)).mono fun e w' hh=>?_
  obtain⟨rfl,rfl⟩:=hh
  exact⟨by simp,Fr.refl _ _⟩
abbrev TB:Nat:=34
abbrev UB:Nat:=5
theorem FWb_eq (z:Int) (c:UInt8) (h:z=c.toNat):FWb [.v (.int .u8 z)]=some ([c],.v .nilIface):=by
 subst h
 exact zn (enc:=fun c:UInt8=>[PV.v (.int .u8 c.toNat)]) (a:=c) (fun a b e=>by
  simp only[List.cons.injEq,PV.v.injEq,Value.int.injEq,and_true,true_and] at e
  exact UInt8.toNat_inj.1 (by omega)) trivial
theorem FWs_eq (s:List UInt8) (h:s≠[]):FWs [str s]=some (s,.tup [int s.length,.v .nilIface]):=zn (enc:=fun s:List UInt8=>[str s]) (a:=s) (fun a b e=>by simpa using e) h
section
variable {hp h:Hp} {nx nx' m:Nat} {cur l:List UInt8} {b0:Blk} {K:Hp→Hp}
theorem wbS (B:BSt TB UB hp nx m cur) (z:Int) (c:UInt8) (hz:z=c.toNat) (hl:cur.length+1≤140737488355328) :
  ∃hp',hBld TB UB FWb [.ref 0 0 0,.v (.int .u8 z)] hp nx=some (.v .nilIface,hp',nx+1)∧BSt TB UB hp' (nx+1) nx (cur++[c])∧∀j,j≠0→j≠m→j≠nx→hp' j=hp j:=B.put rfl rfl (FWb_eq z c hz) hl
theorem wsS (B:BSt TB UB hp nx m cur) (s:List UInt8) (hs:s≠[]) (hl:cur.length+s.length≤140737488355328) :
  ∃hp',hBld TB UB FWs [.ref 0 0 0,str s] hp nx=some (.tup [int s.length,.v .nilIface],hp',nx+1)∧BSt TB UB hp' (nx+1) nx (cur++s)∧∀j,j≠0→j≠m→j≠nx→hp' j=hp j:=B.put rfl rfl (FWs_eq s hs) hl
theorem wbF (hS:BStart TB UB hp nx l b0 K) (hn:nx≤nx') (hh:∀j,j<nx→h j=hp j) (z:Int) (c:UInt8) (hz:z=c.toNat) (hl:l.length+1≤140737488355328) :
  ∃hp',hBld TB UB FWb [.ref 0 0 0,.v (.int .u8 z)] h nx'=some (.v .nilIface,hp',nx'+1)∧BSt TB UB hp' (nx'+1) nx' (l++[c])∧∀j,nx≤j→j≠nx'→hp' j=h j:=hS.put hn hh rfl rfl (FWb_eq z c hz) hl
theorem wsF (hS:BStart TB UB hp nx l b0 K) (hn:nx≤nx') (hh:∀j,j<nx→h j=hp j) (s:List UInt8) (hs:s≠[]) (hl:l.length+s.length≤140737488355328) :
  ∃hp',hBld TB UB FWs [.ref 0 0 0,str s] h nx'=some (.tup [int s.length,.v .nilIface],hp',nx'+1)∧BSt TB UB hp' (nx'+1) nx' (l++s)∧∀j,nx≤j→j≠nx'→hp' j=h j:=hS.put hn hh rfl rfl (FWs_eq s hs) hl
end
noncomputable abbrev Cqu:Ctx:=zF prog [(18,hBld TB UB FWb)]
theorem goodqu:AM.Good Cqu (fun g=>([]:List Nat).contains g):=zm mixed ⟨wb_sound,by simp,trivial⟩
noncomputable def FQu:List PV→Option (List UInt8×PV):=zH (α:=List UInt8) (fun s=>[str s]) (fun s=>s.length≤lim) (fun s=>(quoB s,.tup []))
theorem FQu_eq (s:List UInt8) (h:s.length≤lim):FQu [str s]=some (quoB s,.tup []):=zn (enc:=fun s:List UInt8=>[str s]) (a:=s) (fun a b e=>by simpa using e) h
theorem quote_sound:za prog 82 (hBld TB UB FQu) :=
 ym (code:=_) goodqu ⟨func82,by kernel_rfl,rfl,by kernel_rfl⟩ _ _ FQu fun xs t r h=>by
  obtain⟨s,rfl,hs,e⟩:=ze h
  injection e with e1 e2
  subst e1;subst e2
  refine⟨rfl,by simp[f82],fun hp nx l b0 K hS hlen=>jB rfl ?_⟩
  have hq:(quoB s).length=(escB s).length+2:=by simp[quoB]
  unfold lim at hs
  obtain⟨hp1,e1,B1,_⟩:=wbF hS (Nat.le_refl _) (fun _ _=>rfl) 34 34 rfl (by omega)
  simp[e1]
  refine zy (fun k σ hp nx=>σ 0=.ref 0 0 0∧σ 1=str s∧σ 8=int s.length∧σ 9=int k∧∃(m:Nat) (cur:List UInt8),BSt TB UB hp nx m cur∧l++quoB s=cur++(escB (s.drop k)++[34])) s.length ?_ ?_
  ·exact⟨by simp,by simp,by simp,by simp,nx,l++[34],B1,by simp[quoB]⟩
  ·rintro k σ hp nx hk ⟨h0,h1,h8,h9,m,cur,B,he⟩
   by_cases hlt:k<s.length
   ·have hw:IntKind.i64.wrap ((k:Int)+1)=(k:Int)+1:=zh (by omega) (by omega)
    rw[List.drop_eq_getElem_cons hlt,escB] at he
    obtain⟨c,hc⟩:∃c,s[k]=c:=⟨_,rfl⟩
    rw[hc] at he
    have hlen2:=congrArg List.length he
    by_cases c1:c=34
    ·subst c1
     simp at he hlen2
     obtain⟨hp1,e1,B1,_⟩:=wbS B 92 92 rfl (by omega)
     obtain⟨hp2,e2,B2,_⟩:=wbS B1 34 34 rfl (by simp;omega)
     simp[h0,h1,h8,h9,hlt,hc,e1,e2,hw]
     exact⟨by omega,_,_,B2,by simpa using he⟩
    ·by_cases c2:c=92
     ·subst c2
      simp at he hlen2
      obtain⟨hp1,e1,B1,_⟩:=wbS B 92 92 rfl (by omega)
      obtain⟨hp2,e2,B2,_⟩:=wbS B1 92 92 rfl (by simp;omega)
      simp[h0,h1,h8,h9,hlt,hc,e1,e2,hw]
      exact⟨by omega,_,_,B2,by simpa using he⟩
     ·have d1:((c.toNat:Int)==34)=false:=beq_eq_false_iff_ne.2 fun e=>c1 (UInt8.toNat_inj.1 (by simpa using (by omega:c.toNat=34)))
      have d2:((c.toNat:Int)==92)=false:=beq_eq_false_iff_ne.2 fun e=>c2 (UInt8.toNat_inj.1 (by simpa using (by omega:c.toNat=92)))
      simp[c1,c2] at he hlen2
      obtain⟨hp1,e1,B1,_⟩:=wbS B (c.toNat) c rfl (by omega)
      simp[h0,h1,h8,h9,hlt,hc,d1,d2,e1,hw]
      exact⟨by omega,_,_,B1,by simpa using he⟩
   ·obtain rfl:k=s.length:=by omega
    rw[List.drop_length] at he
    have hlen2:=congrArg List.length he
    simp[escB] at he hlen2
    obtain⟨hp1,e1,B1,_⟩:=wbS B 34 34 rfl (by omega)
    simp[h0,h1,h8,h9,e1,f82]
    exact B1.ends he (by simp)
noncomputable abbrev Cth:Ctx:=zF prog [(18,hBld TB UB FWb),(17,hBld TB UB FWs),(87,zf false [] FIt),(88,zf false [] (FTT trP fun _ b=>one7 b))]
theorem goodth:AM.Good Cth (fun g=>([]:List Nat).contains g):=zm mixed ⟨wb_sound,by simp,ws_sound,by simp,itoa_sound,by simp,trimRight_sound,by simp,trivial⟩
noncomputable def FTh:List PV→Option (List UInt8×PV):=zH (α:=Int) (fun n=>[int n]) (fun n=>-1000000000000000<n∧n<1000000000000000) (fun n=>(xm n,.tup []))
theorem FTh_eq (n:Int) (h:-1000000000000000<n∧n<1000000000000000):FTh [int n]=some (xm n,.tup []):=zn (enc:=fun n:Int=>[int n]) (a:=n) (fun a b e=>by simpa using e) h
theorem one7_0:one7 [48]:=⟨48,rfl,by decide⟩
theorem trR_call (s:List UInt8) (hp:Hp) (nx:Nat) (h:s.length≤1000):zf false [] (FTT trP fun _ b=>one7 b) [str s,str [48]] hp nx=some (str (Lib.trimRightB s 48),hp,nx):=w7 _ _ s [48] hp nx (by unfold lim;omega) (by unfold lim;simp) one7_0 rfl
theorem thousandths_sound:za prog 81 (hBld TB UB FTh) :=
 ym (code:=_) goodth ⟨func81,by kernel_rfl,rfl,by kernel_rfl⟩ _ _ FTh fun xs t r h=>by
  obtain⟨n,rfl,hs,e⟩:=ze h
  injection e with e1 e2
  subst e1;subst e2
  refine⟨rfl,by simp[f81],fun hp nx l b0 K hS hlen=>jB rfl ?_⟩
  obtain⟨u,hu⟩:∃u,n.natAbs=u:=⟨_,rfl⟩
  have hul:u<1000000000000000:=by omega
  have hnb:xm n=(if n<0 then [45] else [])++(Lib.decDigits (u / 1000)++if u % 1000=0 then [] else 46::w9 (u % 1000)):=by rw[←hu];rfl
  have hpl:Lib.trimRightB ((Lib.decDigits (1000+u % 1000)).drop 1) 48=w9 (u % 1000):=rfl
  have hdl:((Lib.decDigits (1000+u % 1000)).drop 1).length≤1000:=by rw[wQ (by omega)];simp
  have hll:1≤(Lib.decDigits (1000+u % 1000)).length:=List.length_pos_iff.2 (dec_ne _)
  have q1:((u:Int)).tdiv 1000=(u:Int) / 1000:=Int.tdiv_eq_ediv_of_nonneg (by omega)
  have q2:((u:Int)).tmod 1000=(u:Int) % 1000:=Int.tmod_eq_emod_of_nonneg (by omega)
  have i1:=fun hp nx=>FIt_call ((u:Int) / 1000) hp nx (by omega) (by omega)
  have i2:=fun hp nx=>FIt_call (1000+(u:Int) % 1000) hp nx (by omega) (by omega)
  rw[show ((u:Int) / 1000).toNat=u / 1000 by omega] at i1
  rw[show (1000+(u:Int) % 1000).toNat=1000+u % 1000 by omega] at i2
  have i3:=fun hp nx=>trR_call ((Lib.decDigits (1000+u % 1000)).drop 1) hp nx hdl
  rw[hpl] at i3
  have tk:List.take ((Lib.decDigits (1000+u % 1000)).length - 1) (List.drop 1 (Lib.decDigits (1000+u % 1000)))=List.drop 1 (Lib.decDigits (1000+u % 1000)):=List.take_of_length_le (by simp)
  have dt:=List.drop_one (l:=Lib.decDigits (1000+u % 1000))
  rw[dt] at i3 tk
  have hpm:1+(w9 (u % 1000)).length≤maxLen:=by have:=places_len (r:=u % 1000) (by omega);unfold maxLen;omega
  have w1:IntKind.i64.wrap (u:Int)=u:=zh (by omega) (by omega)
  have w2:IntKind.i64.wrap ((u:Int) / 1000)=(u:Int) / 1000:=zh (by omega) (by omega)
  have w3:IntKind.i64.wrap ((u:Int) % 1000)=(u:Int) % 1000:=zh (by omega) (by omega)
  have w4:IntKind.i64.wrap (1000+(u:Int) % 1000)=1000+(u:Int) % 1000:=zh (by omega) (by omega)
  rw[hnb] at hlen ⊢
  clear hnb
  rcases Int.lt_or_le n 0 with hn | hn
  ·obtain rfl:n=-(u:Int):=by omega
   have hu0:0<u:=by omega
   rw[if_pos hn] at hlen ⊢
   by_cases hr:u % 1000=0
   ·rw[if_pos hr] at hlen ⊢
    have hr2:¬(0:Int)<(u:Int) % 1000:=by omega
    simp at hlen
    obtain⟨hp1,e1,B1,_⟩:=wbF hS (Nat.le_refl _) (fun _ _=>rfl) 45 45 rfl (by omega)
    obtain⟨hp2,e2,B2,_⟩:=wsS B1 (Lib.decDigits (u / 1000)) (dec_ne _) (by simp;omega)
    simp[hu0,e1,e2,q1,q2,i1,w1,w2,w3,hr2]
    refine B2.ends ?_ ?_<;>simp<;>omega
   ·rw[if_neg hr] at hlen ⊢
    have hr2:(0:Int)<(u:Int) % 1000:=by omega
    simp at hlen
    obtain⟨hp1,e1,B1,_⟩:=wbF hS (Nat.le_refl _) (fun _ _=>rfl) 45 45 rfl (by omega)
    obtain⟨hp2,e2,B2,_⟩:=wsS B1 (Lib.decDigits (u / 1000)) (dec_ne _) (by simp;omega)
    obtain⟨hp3,e3,B3,_⟩:=wsS B2 (46::w9 (u % 1000)) (by simp) (by simp;omega)
    simp[hu0,e1,e2,e3,q1,q2,i1,i2,i3,w1,w2,w3,w4,hr2,hll,tk,hpm]
    refine B3.ends ?_ ?_<;>simp<;>omega
  ·obtain rfl:n=(u:Int):=by omega
   have hn':¬(u:Int)<0:=by omega
   rw[if_neg hn'] at hlen ⊢
   by_cases hr:u % 1000=0
   ·rw[if_pos hr] at hlen ⊢
    have hr2:¬(0:Int)<(u:Int) % 1000:=by omega
    try simp at hlen
    obtain⟨hp2,e2,B2,_⟩:=wsF hS (Nat.le_refl _) (fun _ _=>rfl) (Lib.decDigits (u / 1000)) (dec_ne _) (by omega)
    simp[hn',e2,q1,q2,i1,w1,w2,w3,hr2]
    refine B2.ends ?_ ?_<;>simp<;>omega
   ·rw[if_neg hr] at hlen ⊢
    have hr2:(0:Int)<(u:Int) % 1000:=by omega
    try simp at hlen
    obtain⟨hp2,e2,B2,_⟩:=wsF hS (Nat.le_refl _) (fun _ _=>rfl) (Lib.decDigits (u / 1000)) (dec_ne _) (by omega)
    obtain⟨hp3,e3,B3,_⟩:=wsS B2 (46::w9 (u % 1000)) (by simp) (by simp;omega)
    simp[hn',e2,e3,q1,q2,i1,i2,i3,w1,w2,w3,w4,hr2,hll,tk,hpm]
    refine B3.ends ?_ ?_<;>simp<;>omega
end Go.Proofs.YtpeaooooimfihaaGreatDoor
namespace Go.Proofs.YtpeaooooimfihaaGreatDoor
open Go.Proofs.Tryz
open Go.RowKit Go.AM
inductive Cnd where
 | mk (kind:Int) (attr:List UInt8) (op:Int) (vals:List Val) (pat name:List UInt8) (args:List Cnd)
namespace Cnd
def kind:Cnd→Int | .mk k _ _ _ _ _ _=>k
def attr:Cnd→List UInt8 | .mk _ a _ _ _ _ _=>a
def op:Cnd→Int | .mk _ _ o _ _ _ _=>o
def vals:Cnd→List Val | .mk _ _ _ v _ _ _=>v
def pat:Cnd→List UInt8 | .mk _ _ _ _ p _ _=>p
def name:Cnd→List UInt8 | .mk _ _ _ _ _ n _=>n
def args:Cnd→List Cnd | .mk _ _ _ _ _ _ l=>l
end Cnd
theorem Cnd.ind {P:Cnd→Prop} (h:∀k a o v p n l,(∀x∈l,P x)→P (.mk k a o v p n l)) (c:Cnd):P c :=
 Cnd.rec (motive_1:=P) (motive_2:=fun l=>∀x∈l,P x) (fun k a o v p n l hl=>h k a o v p n l hl) (by simp)
  (fun x l hx hl y hy=>by
   rcases List.mem_cons.1 hy with rfl | hy
   ·exact hx
   ·exact hl y hy) c
mutual
def Cnd.enc:Cnd→List PV
 | .mk k a o v p n l=>[int k,str a,int o,.sl 5 (v.map Val.enc),str p,str n,.sl 7 (encCds l)]
def encCds:List Cnd→List (List PV)
 | []=>[]
 | c::l=>c.enc::encCds l
end
theorem encCds_map:∀l:List Cnd,encCds l=l.map Cnd.enc
 | []=>rfl
 | c::l=>by simp[encCds,encCds_map l]
theorem ya (c:Cnd):c.enc=[int c.kind,str c.attr,int c.op,.sl 5 (c.vals.map Val.enc),str c.pat,str c.name,.sl 7 (c.args.map Cnd.enc)]:=by
 cases c with
 | mk k a o v p n l=>simp[Cnd.enc,encCds_map,Cnd.kind,Cnd.attr,Cnd.op,Cnd.vals,Cnd.pat,Cnd.name,Cnd.args]
@[simp] theorem cenc_length (c:Cnd):c.enc.length=7:=by rw[ya];rfl
@[simp] theorem cenc_cells (c:Cnd):c.enc.all PV.isCell=true:=by rw[ya];rfl
@[simp] theorem cenc_cells' (c:Cnd):(∀x,x∈c.enc→PV.isCell x=true)=True:=by
 have:=cenc_cells c
 rw[List.all_eq_true] at this
 exact eq_true this
@[simp] theorem cenc_take (c:Cnd):c.enc.take 7=c.enc:=List.take_of_length_le (by simp)
@[simp] theorem cenc_0 (c:Cnd) (h:0<c.enc.length):c.enc[0]=int c.kind:=by simp[ya c]
@[simp] theorem cenc_1 (c:Cnd) (h:1<c.enc.length):c.enc[1]=str c.attr:=by simp[ya c]
@[simp] theorem cenc_2 (c:Cnd) (h:2<c.enc.length):c.enc[2]=int c.op:=by simp[ya c]
@[simp] theorem cenc_3 (c:Cnd) (h:3<c.enc.length):c.enc[3]=.sl 5 (c.vals.map Val.enc):=by simp[ya c]
@[simp] theorem cenc_4 (c:Cnd) (h:4<c.enc.length):c.enc[4]=str c.pat:=by simp[ya c]
@[simp] theorem cenc_5 (c:Cnd) (h:5<c.enc.length):c.enc[5]=str c.name:=by simp[ya c]
@[simp] theorem cenc_6 (c:Cnd) (h:6<c.enc.length):c.enc[6]=.sl 7 (c.args.map Cnd.enc):=by simp[ya c]
theorem vals_inj {a b:List Val} (h:a.map Val.enc=b.map Val.enc):a=b:=ve (fun _ _=>ky) h
theorem xX:∀{a b:Cnd},a.enc=b.enc→a=b:=by
 intro a
 induction a using Cnd.ind with
 | h k a o v p n l hl =>
   intro b e
   cases b with
   | mk k' a' o' v' p' n' l' =>
     simp only[ya,Cnd.kind,Cnd.attr,Cnd.op,Cnd.vals,Cnd.pat,Cnd.name,Cnd.args,List.cons.injEq,and_true] at e
     obtain⟨e1,e2,e3,e4,e5,e6,e7⟩:=e
     obtain rfl:=zG e1
     obtain rfl:=qt e2
     obtain rfl:=zG e3
     injection e4 with _ e4
     obtain rfl:=vals_inj e4
     obtain rfl:=qt e5
     obtain rfl:=qt e6
     injection e7 with _ e7
     rw[vM (fun x hx y=>hl x hx) e7]
mutual
def Cnd.cb:Cnd→Nat
 | .mk _ a _ v p n l=>1+a.length+vbs v+p.length+n.length+cbs l
def cbs:List Cnd→Nat
 | []=>0
 | c::l=>c.cb+cbs l
end
theorem cb_eq (c:Cnd):c.cb=1+c.attr.length+vbs c.vals+c.pat.length+c.name.length+cbs c.args:=by cases c;rfl
theorem cb_pos (c:Cnd):0<c.cb:=by rw[cb_eq];omega
theorem vk:∀{l:List Cnd} {x:Cnd},x∈l→x.cb≤cbs l
 | y::l,x,h=>by
   simp only[cbs]
   rcases List.mem_cons.1 h with rfl | h
   ·omega
   ·have:=vk h;omega
theorem yo:∀l:List Cnd,l.length≤cbs l
 | []=>by simp[cbs]
 | c::l=>by have:=yo l;have:=cb_pos c;simp only[cbs,List.length_cons];omega
mutual
def Cnd.parts:Cnd→Nat
 | .mk _ _ _ _ _ _ l=>1+partsC l
def partsC:List Cnd→Nat
 | []=>0
 | c::l=>c.parts+partsC l
end
mutual
def Cnd.levels:Cnd→Nat
 | .mk _ _ _ _ _ _ l=>levelsC l+1
def levelsC:List Cnd→Nat
 | []=>0
 | c::l=>max c.levels (levelsC l)
end
theorem cparts_eq (c:Cnd):c.parts=1+partsC c.args:=by cases c;rfl
theorem clevels_eq (c:Cnd):c.levels=levelsC c.args+1:=by cases c;rfl
theorem partsC_le' (l:List Cnd) (h:∀x∈l,x.parts≤x.cb):partsC l≤cbs l:=by
 induction l with
 | nil=>simp[partsC]
 | cons v l ih=>have:=h v (by simp);have:=ih fun x hx=>h x (by simp[hx]);simp only[partsC,cbs];omega
theorem cparts_le (c:Cnd):c.parts≤c.cb:=by
 induction c using Cnd.ind with
 | h k a o v p n l hl =>
   have:=partsC_le' l hl
   rw[cparts_eq,cb_eq]
   simp only[Cnd.args]
   omega
theorem levelsC_le' (l:List Cnd) (h:∀x∈l,x.levels≤x.parts):levelsC l≤partsC l:=by
 induction l with
 | nil=>simp[levelsC]
 | cons v l ih=>have:=h v (by simp);have:=ih fun x hx=>h x (by simp[hx]);simp only[partsC,levelsC];omega
theorem clevels_le (c:Cnd):c.levels≤c.parts:=by
 induction c using Cnd.ind with
 | h k a o v p n l hl =>
   have:=levelsC_le' l hl
   rw[cparts_eq,clevels_eq]
   simp only[Cnd.args]
   omega
theorem partsC_append (a b:List Cnd):partsC (a++b)=partsC a+partsC b:=by
 induction a with
 | nil=>simp[partsC]
 | cons v a ih=>simp only[List.cons_append,partsC,ih];omega
theorem levelsC_append (a b:List Cnd):levelsC (a++b)=max (levelsC a) (levelsC b):=by
 induction a with
 | nil=>simp[levelsC]
 | cons v a ih=>simp only[List.cons_append,levelsC,ih];omega
theorem takeC {l:List Cnd} {k:Nat} (h:k<l.length):partsC (l.take (k+1))=partsC (l.take k)+l[k].parts∧levelsC (l.take (k+1))=max (levelsC (l.take k)) l[k].levels:=by
 rw[List.take_succ_eq_append_getElem h,partsC_append,levelsC_append]
 simp[partsC,levelsC]
theorem partsC_le (l:List Cnd) (k:Nat):partsC (l.take k)≤partsC l:=by
 have:=partsC_append (l.take k) (l.drop k)
 rw[List.take_append_drop] at this
 omega
noncomputable def FC (out:Cnd→PV) (n:Nat):List PV→Option PV:=zH (α:=Cnd) (fun c=>[.agg c.enc]) (fun c=>c.cb≤lim∧c.cb≤n) out
theorem FC_eq (out:Cnd→PV) (n:Nat) (c:Cnd) (h:c.cb≤lim∧c.cb≤n):FC out n [.agg c.enc]=some (out c) :=
 zn (enc:=fun c:Cnd=>[.agg c.enc]) (a:=c) (fun a b e=>by simp only[List.cons.injEq,and_true,PV.agg.injEq] at e;exact xX e) h
@[simp] theorem freezeCells_cenc (hp:Hp) (c:Cnd):z7 hp c.enc=some (c.enc,hp):=by rw[ya];simp
theorem kA (hp:Hp) (c:Cnd):zA hp (.agg c.enc)=some (.agg c.enc,hp):=by
 rw[ya]
 simp
theorem noOwn_cenc (c:Cnd):PV.noOwn (.agg c.enc)=true:=by
 rw[ya]
 simp
theorem FC_call (out:Cnd→PV) (n:Nat) (c:Cnd) (hp:Hp) (nx:Nat) (h:c.cb≤lim∧c.cb≤n):zf false [] (FC out n) [.agg c.enc] hp nx=some (out c,hp,nx) :=
 zK (hp1:=hp) (show zi hp [.agg c.enc]=some ([.agg c.enc],hp) by simp only[zi,kA]) (FC_eq out n c h) (.inr (by simp only[List.all_cons,noOwn_cenc,List.all_nil,Bool.and_self]))
theorem j5 {out:Cnd→PV} {n:Nat} {args:List PV} {r:PV} (h:FC out n args=some r):∃c:Cnd,args=[.agg c.enc]∧(c.cb≤lim∧c.cb≤n)∧r=out c:=ze h
theorem FC_zero {out:Cnd→PV} {f:FuncId} (hfn:∃fn,prog.funcs[f]?=some fn∧(fn.name== "runtime.NumGoroutine")=false∧fn.body.isNone=false):za prog f (zf false [] (FC out 0)):=by
 refine⟨hfn,fun args hp nx r hp' nx' h=>?_⟩
 unfold zf at h
 split at h
 ·split at h
  ·rename_i r0 hF
   obtain⟨c,_,hc,_⟩:=j5 hF
   have:=cb_pos c
   omega
  ·cases h
 ·cases h
noncomputable abbrev GC (out:Cnd→PV):AM.Spec:=zf false [] (FC out lim)
theorem yC (out:Cnd→PV) (c:Cnd) (hp:Hp) (nx:Nat) (h:c.cb≤lim):GC out [.agg c.enc] hp nx=some (out c,hp,nx):=FC_call out lim c hp nx ⟨h,h⟩
theorem splitK_mem (sep:List UInt8):∀(k:Nat) (s p:List UInt8),p∈Lib.splitK sep 0 k s→p.length≤s.length
 | 0,s,p,h=>by simp[Lib.splitK] at h;rw[h];exact Nat.le_refl _
 | k+1,s,p,h=>by
   unfold Lib.splitK at h
   split at h
   ·simp at h;rw[h];exact Nat.le_refl _
   ·rcases List.mem_cons.1 h with rfl | h
    ·simp;omega
    ·have:=splitK_mem sep k _ p h
     simp at this;omega
theorem splitK_len (sep:List UInt8):∀(k:Nat) (s:List UInt8),(Lib.splitK sep 0 k s).length≤k+1
 | 0,s=>by simp[Lib.splitK]
 | k+1,s=>by
   unfold Lib.splitK
   split
   ·simp
   ·have:=splitK_len sep k (s.drop ((Lib.index s sep).toNat+sep.length))
    simp;omega
theorem wz {s sep p:List UInt8} (h:p∈zu s sep):p.length≤s.length:=splitK_mem _ _ _ _ h
theorem wS {s sep:List UInt8} (h:sep≠[]):(zu s sep).length≤s.length+1:=by
 have h1:=splitK_len sep (Lib.count s sep) s
 have h2:=count_len (s:=s) h
 exact Nat.le_trans h1 (by omega)
theorem cut_le (s sep:List UInt8):(Lib.cut s sep).1.length≤s.length∧(Lib.cut s sep).2.1.length≤s.length:=by
 unfold Lib.cut
 split
 ·simp;omega
 ·simp
noncomputable def FSP1 (f:List UInt8→PV):List PV→Option PV:=zH (α:=List UInt8) (fun l=>[str l]) (fun l=>l.length+1≤lim) f
theorem yb (f:List UInt8→PV) (l:List UInt8) (hp:Hp) (nx:Nat) (h:l.length+1≤lim):zf false [] (FSP1 f) [str l] hp nx=some (f l,hp,nx) :=
 zK rfl (zn (enc:=fun l:List UInt8=>[str l]) (a:=l) (fun a b e=>by simp only[List.cons.injEq,and_true] at e;exact qt e) h) (.inr (by simp))
def ver0:Ver:=⟨0,0,0,[]⟩
def yD (t:List UInt8):List (List UInt8):=if (Lib.cut t [45]).2.2 then zu (Lib.cut t [45]).2.1 [46] else []
def rdV (t:List UInt8):Option Ver:=match zu (Lib.cut t [45]).1 [46] with
 | [p0,p1,p2]=>match vnum p0,vnum p1,vnum p2 with
   | some a,some b,some c=>if chkV ⟨a,b,c,yD t⟩=0 then some ⟨a,b,c,yD t⟩ else none
   | _,_,_=>none
 | _=>none
def rdP (t:List UInt8):PV:=match rdV t with
 | some v=>.tup [.agg v.enc,int 0]
 | none=>.tup [.agg ver0.enc,int 10]
noncomputable abbrev Crv:Ctx:=zF prog [(161,zf false [] (FTT cutP fun _ _=>True)),(77,qT [] FSp),(144,zf false [] (FSP xO)),(180,zC [.g vpat] (FVr fun v=>int (chkV v)))]
theorem goodrv:AM.Good Crv (fun g=>([]:List Nat).contains g):=zm mixed ⟨sCut_sound,by simp,je,by simp,jg,by simp,checkVersion_sound,by simp,trivial⟩
theorem vnum_call (l:List UInt8) (hp:Hp) (nx:Nat) (h:l.length≤lim):zf false [] (FSP xO) [str l] hp nx=some (.tup [int ((vnum l).getD 0),boo (vnum l).isSome],hp,nx):=FSP_call xO l hp nx h rfl
theorem three {α:Type} {l:List α} (h:l.length=3):∃a b c,l=[a,b,c]:=by
 match l,h with
 | [a,b,c],_=>exact⟨a,b,c,rfl⟩
theorem readVersion_eval (t:List UInt8) (ht:t.length+1≤lim):∃r0,zj Crv f143 [str t]=some r0∧Stands r0 (rdP t):=by
 refine qe (sh:=.g vpat) rfl ?_
 have hcl:=cut_le t [45]
 have hcut:=fun hp nx=>cut_call t [45] hp nx (by omega) (by decide)
 have hsp:=fun hp nx=>yl (Lib.cut t [45]).1 [46] hp nx (by omega) (by decide) (by decide)
 have hsp2:=fun hp nx=>yl (Lib.cut t [45]).2.1 [46] hp nx (by omega) (by decide) (by decide)
 have hpl:∀p∈zu (Lib.cut t [45]).1 [46],p.length≤lim:=fun p hp=>by have:=wz hp;omega
 have hql:∀p∈zu (Lib.cut t [45]).2.1 [46],p.length≤lim:=fun p hp=>by have:=wz hp;omega
 have hqn:(zu (Lib.cut t [45]).2.1 [46]).length≤lim:=by have:=wS (s:=(Lib.cut t [45]).2.1) (sep:=[46]) (by simp);omega
 by_cases h3:(zu (Lib.cut t [45]).1 [46]).length=3
 ·obtain⟨p0,p1,p2,hps⟩:=three h3
  rw[hps] at hsp hpl
  have hn0:=fun hp nx=>vnum_call p0 hp nx (hpl p0 (by simp))
  have hn1:=fun hp nx=>vnum_call p1 hp nx (hpl p1 (by simp))
  have hn2:=fun hp nx=>vnum_call p2 hp nx (hpl p2 (by simp))
  simp[hcut,hsp]
  rw[zk]
  cases e0:vnum p0 with
  | none =>
    rw[e0] at hn0
    simp[hn0,rdP,rdV,hps,e0,zw,zJ,zx,ver0,Ver.enc,f143]
  | some a =>
    rw[e0] at hn0
    simp[hn0]
    rw[zk]
    cases e1:vnum p1 with
    | none =>
      rw[e1] at hn1
      simp[hn1,rdP,rdV,hps,e0,e1,zw,zJ,zx,ver0,Ver.enc,f143]
    | some b =>
      rw[e1] at hn1
      simp[hn1]
      rw[zk]
      cases e2:vnum p2 with
      | none =>
        rw[e2] at hn2
        simp[hn2,rdP,rdV,hps,e0,e1,e2,zw,zJ,zx,ver0,Ver.enc,f143]
      | some c =>
        rw[e2] at hn2
        simp[hn2]
        rw[zk]
        simp[zw,zJ]
        have hv1:(⟨a,b,c,[]⟩:Ver).small:=⟨by simp,by simp⟩
        have hv2:(⟨a,b,c,zu (Lib.cut t [45]).2.1 [46]⟩:Ver).small:=⟨hqn,hql⟩
        cases eh:(Lib.cut t [45]).2.2
        ·have hck:=fun hp nx=>FVr_call (fun v=>int (chkV v)) ⟨a,b,c,[]⟩ (.agg [int a,int b,int c,.nil]) hp hp nx _ rfl rfl hv1 rfl
         by_cases hz:chkV ⟨a,b,c,[]⟩=0
         ·simp[hck,hz,rdP,rdV,yD,hps,e0,e1,e2,eh,zx,Ver.enc,f143]
         ·have hz':(chkV ⟨a,b,c,[]⟩ != 0)=true:=by simpa using hz
          simp[hck,hz,hz',rdP,rdV,yD,hps,e0,e1,e2,eh,zw,zJ,zx,ver0,Ver.enc,f143]
        ·have hck:∀(hp:Hp) (nx id n:Nat),hp id=some ⟨9,1,true,encT (zu (Lib.cut t [45]).2.1 [46])⟩→n=(zu (Lib.cut t [45]).2.1 [46]).length→zC [.g vpat] (FVr fun v=>int (chkV v)) [.agg [int a,int b,int c,.own id 0 n]] hp nx=some (int (chkV ⟨a,b,c,zu (Lib.cut t [45]).2.1 [46]⟩),hp,nx):=by
          intro hp nx id n hh hn
          subst hn
          exact FVr_call (fun v=>int (chkV v)) ⟨a,b,c,zu (Lib.cut t [45]).2.1 [46]⟩ _ hp (upd hp id none) nx (.agg [int a,int b,int c,.sl 1 (encT (zu (Lib.cut t [45]).2.1 [46]))]) (by simp[hh]) rfl hv2 rfl
         by_cases hz:chkV ⟨a,b,c,zu (Lib.cut t [45]).2.1 [46]⟩=0
         ·simp[hsp2,hck,hz,rdP,rdV,yD,hps,e0,e1,e2,eh,zx,Ver.enc,f143]
         ·have hz':(chkV ⟨a,b,c,zu (Lib.cut t [45]).2.1 [46]⟩ != 0)=true:=by simpa using hz
          simp[hsp2,hck,hz,hz',rdP,rdV,yD,hps,e0,e1,e2,eh,zw,zJ,zx,ver0,Ver.enc,f143]
 ·have h3':(((zu (Lib.cut t [45]).1 [46]).length:Int) != 3)=true:=by simp;omega
  have hr:rdV t=none:=by
   unfold rdV
   split
   ·rename_i e;rw[e] at h3;simp at h3
   ·rfl
  simp[hcut,hsp,h3',h3,rdP,hr,zw,zJ,zx,ver0,Ver.enc,f143]
theorem readVersion_sound:za prog 143 (zf false [] (FSP1 rdP)) :=
 xN (fn:=f143) goodrv ⟨_,func143,by kernel_rfl,rfl,by kernel_rfl⟩ false [] _ fun args r h w S vs hz=>by
  obtain⟨l,rfl,hp,rfl⟩:=ze h
  obtain⟨r0,h1,h2⟩:=readVersion_eval l hp
  exact⟨_,r0,hz,by simp[f143],h1,h2⟩
structure Part where
 n0:Int
 n1:Int
 n2:Int
 has:Int
 pre:List (List UInt8)
def Part.enc (p:Part):List PV:=[int p.n0,int p.n1,int p.n2,int p.has,.sl 1 (encT p.pre)]
abbrev ppat:List (Option Nat):=[none,none,none,none,some 1]
def part0:Part:=⟨0,0,0,0,[]⟩
def Part.put (p:Part) (i:Nat) (n:Int):Part:=match i with
 | 0=>{ p with n0:=n,has:=p.has+1 }
 | 1=>{ p with n1:=n,has:=p.has+1 }
 | _=>{ p with n2:=n,has:=p.has+1 }
def zR (p:Part) (i:Nat) (t:List UInt8):Option Part:=if (vnum t).isSome=true∧p.has=i then some (p.put i ((vnum t).getD 0)) else if qw t=true∧i≠0 then some p else none
def zZ:Part→Nat→List (List UInt8)→Option Part
 | p,_,[]=>some p
 | p,i,t::l=>match zR p i t with
   | some q=>zZ q (i+1) l
   | none=>none
def zo (t:List UInt8):Part×Bool:=if Lib.contains t [45]=true then (match rdV t with
    | some v=>(⟨v.a,v.b,v.c,3,v.pre⟩,true)
    | none=>(⟨0,0,0,3,[]⟩,false))
 else if 3<(zu t [46]).length then (part0,false) else match zZ part0 0 (zu t [46]) with
  | some p=>(p,true)
  | none=>(part0,false)
def qP (t:List UInt8):PV:=.tup [.agg (zo t).1.enc,boo (zo t).2]
noncomputable abbrev Crpv:Ctx:=zF prog [(142,zf false [] (FTT hasP fun _ _=>True)),(143,zf false [] (FSP1 rdP)),(77,qT [] FSp),(144,zf false [] (FSP xO)),(101,zf false [] (FS qw))]
theorem goodrp:AM.Good Crpv (fun g=>[101].contains g):=zm mixed ⟨contains_sound,by simp,readVersion_sound,by simp,je,by simp,jg,by simp,open_sound,fun _=>zg _ _,trivial⟩
theorem has_call (a b:List UInt8) (hp:Hp) (nx:Nat) (h:a.length≤lim) (h2:b.length≤lim):zf false [] (FTT hasP fun _ _=>True) [str a,str b] hp nx=some (boo (Lib.contains a b),hp,nx):=w7 _ _ a b hp nx h h2 trivial rfl
def Part.raw (p:Part):List PV:=[int p.n0,int p.n1,int p.n2,int p.has,.nil]
theorem foldPart_drop {p:Part} {k:Nat} {l:List (List UInt8)} (h:k<l.length):zZ p k (l.drop k)=match zR p k l[k] with
  | some q=>zZ q (k+1) (l.drop (k+1))
  | none=>none:=by
 rw[List.drop_eq_getElem_cons h]
 rfl
theorem readPartial_eval (t:List UInt8) (ht:t.length+1≤lim):∃r0,zj Crpv f99 [str t]=some r0∧Stands r0 (qP t):=by
 refine qe (sh:=.g ppat) rfl ?_
 have hcn:=fun hp nx=>has_call t [45] hp nx (by omega) (by decide)
 cases hc:Lib.contains t [45]
 ·have hsp:=fun hp nx=>yl t [46] hp nx (by omega) (by decide) (by decide)
  have hpl:∀p∈zu t [46],p.length≤lim:=fun p hp=>by have:=wz hp;omega
  by_cases h3:3<(zu t [46]).length
  ·have h3':(3:Int)<(zu t [46]).length:=by omega
   simp[hcn,hc,hsp,h3,h3',qP,zo,zw,zJ,zx,part0,Part.enc,f99]
  have h3':¬(3:Int)<(zu t [46]).length:=by omega
  simp[hcn,hc,hsp,h3,h3']
  obtain⟨l,hl⟩:∃l,zu t [46]=l:=⟨_,rfl⟩
  rw[hl] at hpl h3
  have hrd:zo t=match zZ part0 0 l with
   | some p=>(p,true)
   | none=>(part0,false):=by
   unfold zo
   rw[if_neg (by rw[hc];simp),hl,if_neg h3]
   try rfl
  simp only[hl]
  refine zy (fun k σ hp nx=>∃p:Part,p.pre=[]∧σ 2=.ref 0 0 0∧σ 7=.ref 2 0 0∧σ 37=.own 1 0 l.length∧σ 38=int l.length∧σ 39=int k∧p.has≤k∧0≤p.has ∧
    hp 0=some ⟨94,5,false,[part0.raw]⟩∧hp 1=some ⟨9,1,true,encT l⟩∧hp 2=some ⟨94,5,false,[p.raw]⟩∧zZ part0 0 l=zZ p k (l.drop k)) l.length
   ⟨part0,rfl,by simp,by simp,by simp,by simp,by simp,by simp[part0],by simp[part0],by simp[part0,Part.raw],by simp,by simp[part0,Part.raw],by simp⟩ ?_
  rintro k σ hp nx hk ⟨p,hpp,h2,h7,h37,h38,h39,hh,hh0,b0,b1,b2,he⟩
  by_cases hlt:k<l.length
  ·have hn:=fun hp nx=>vnum_call l[k] hp nx (hpl _ (List.getElem_mem hlt))
   have ho:=fun hp nx=>wi qw l[k] hp nx (hpl _ (List.getElem_mem hlt))
   have hw:IntKind.i64.wrap ((k:Int)+1)=(k:Int)+1:=zh (by omega) (by omega)
   have hw2:IntKind.i64.wrap (p.has+1)=p.has+1:=zh (by omega) (by omega)
   rw[foldPart_drop hlt] at he
   have hk3:k=0∨k=1∨k=2:=by omega
   obtain⟨n0,n1,n2,has,pre⟩:=p
   simp only at hpp hh hh0 hw2
   subst hpp
   cases hv:(vnum l[k]).isSome
   ·cases hop:qw l[k]
    ·have hs:zR ⟨n0,n1,n2,has,[]⟩ k l[k]=none:=by simp[zR,hv,hop]
     rw[hs] at he
     rw[he] at hrd
     simp[h2,h7,h37,h38,h39,b0,b1,b2,hlt,hn,ho,hv,hop,qP,hrd,zw,zJ,zx,part0,Part.raw,Part.enc,f99]
    ·by_cases hk0:k=0
     ·subst hk0
      have hs:zR ⟨n0,n1,n2,has,[]⟩ 0 l[0]=none:=by simp[zR,hv]
      rw[hs] at he
      rw[he] at hrd
      simp[h2,h7,h37,h38,h39,b0,b1,b2,hlt,hn,ho,hv,hop,qP,hrd,zw,zJ,zx,part0,Part.raw,Part.enc,f99]
     ·have hs:zR ⟨n0,n1,n2,has,[]⟩ k l[k]=some ⟨n0,n1,n2,has,[]⟩:=by simp[zR,hv,hop,hk0]
      have hk0':((k:Int)==0)=false:=by simpa using hk0
      rw[hs] at he
      simp[h2,h7,h37,h38,h39,b0,b1,b2,hlt,hn,ho,hv,hop,hw,hk0',hk0]
      exact⟨hlt,⟨n0,n1,n2,has,[]⟩,rfl,Int.le_trans hh (by omega),hh0,rfl,he⟩
   ·by_cases hhk:has=k
    ·have hs:zR ⟨n0,n1,n2,has,[]⟩ k l[k]=some ((⟨n0,n1,n2,has,[]⟩:Part).put k ((vnum l[k]).getD 0)):=by simp[zR,hv,hhk]
     rw[hs] at he
     rcases hk3 with rfl | rfl | rfl
     ·obtain rfl:has=0:=by simpa using hhk
      have hlt':(0:Int)<(l.length:Int):=by omega
      simp[h2,h7,h37,h38,h39,b0,b1,b2,hlt,hlt',hn,ho,hv,hw,Part.raw]
      refine⟨hlt,_,?_,?_,?_,?_,(by simpa using he)⟩<;>simp[Part.put]
     ·obtain rfl:has=1:=by simpa using hhk
      have hlt':(1:Int)<(l.length:Int):=by omega
      simp[h2,h7,h37,h38,h39,b0,b1,b2,hlt,hlt',hn,ho,hv,hw,Part.raw]
      refine⟨hlt,_,?_,?_,?_,?_,(by simpa using he)⟩<;>simp[Part.put]
     ·obtain rfl:has=2:=by simpa using hhk
      have hlt':(2:Int)<(l.length:Int):=by omega
      simp[h2,h7,h37,h38,h39,b0,b1,b2,hlt,hlt',hn,ho,hv,hw,Part.raw]
      refine⟨hlt,_,?_,?_,?_,?_,(by simpa using he)⟩<;>simp[Part.put]
    ·cases hop:qw l[k]
     ·have hs:zR ⟨n0,n1,n2,has,[]⟩ k l[k]=none:=by simp[zR,hv,hop,hhk]
      have hhk':(has==(k:Int))=false:=by simpa using hhk
      rw[hs] at he
      rw[he] at hrd
      simp[h2,h7,h37,h38,h39,b0,b1,b2,hlt,hn,ho,hv,hop,hhk',qP,hrd,zw,zJ,zx,part0,Part.raw,Part.enc,f99]
     ·by_cases hk0:k=0
      ·subst hk0
       have hs:zR ⟨n0,n1,n2,has,[]⟩ 0 l[0]=none:=by simp[zR,hhk];intro _;exact hhk
       have hhk':(has==0)=false:=by simpa using hhk
       rw[hs] at he
       rw[he] at hrd
       simp[h2,h7,h37,h38,h39,b0,b1,b2,hlt,hn,ho,hv,hop,hhk',qP,hrd,zw,zJ,zx,part0,Part.raw,Part.enc,f99]
      ·have hs:zR ⟨n0,n1,n2,has,[]⟩ k l[k]=some ⟨n0,n1,n2,has,[]⟩:=by simp[zR,hv,hop,hk0,hhk]
       have hk0':((k:Int)==0)=false:=by simpa using hk0
       have hhk':(has==(k:Int))=false:=by simpa using hhk
       rw[hs] at he
       simp[h2,h7,h37,h38,h39,b0,b1,b2,hlt,hn,ho,hv,hop,hw,hk0',hk0,hhk',Part.raw]
       exact⟨hlt,⟨n0,n1,n2,has,[]⟩,rfl,Int.le_trans hh (by omega),hh0,⟨rfl,rfl,rfl,rfl⟩,he⟩
  ·obtain rfl:k=l.length:=by omega
   rw[List.drop_length] at he
   simp only[zZ] at he
   rw[he] at hrd
   simp[h2,h7,h37,h38,h39,b0,b1,b2,qP,hrd,hpp,zx,Part.raw,Part.enc,f99]
 ·have hrv:=fun hp nx=>yb rdP t hp nx ht
  cases hr:rdV t with
  | none=>simp[hcn,hc,hrv,rdP,hr,qP,zo,zw,zJ,zx,ver0,Ver.enc,Part.enc,f99]
  | some v=>simp[hcn,hc,hrv,rdP,hr,qP,zo,zw,zJ,zx,Ver.enc,Part.enc,f99]
theorem readPartial_sound:za prog 99 (zf false [] (FSP1 qP)) :=
 xN (fn:=f99) goodrp ⟨_,func99,by kernel_rfl,rfl,by kernel_rfl⟩ false [] _ fun args r h w S vs hz=>by
  obtain⟨l,rfl,hp,rfl⟩:=ze h
  obtain⟨r0,h1,h2⟩:=readPartial_eval l hp
  exact⟨_,r0,hz,by simp[f99],h1,h2⟩
def j6 (e s:Nat):List PV→Option (Option Blk)
 | [.nil]=>some none
 | [.em]=>some (some ⟨e,s,true,[]⟩)
 | [.sl s' es]=>if s'=s∧es≠[]∧es.length≤lim then some (some ⟨e,s,true,es⟩) else none
 | _=>none
def ownOr (e s:Nat) (es:List (List PV)) (y:PV) (nx:Nat):PV×(Hp→Hp)×Nat:=match y with
 | .nil=>(.nil,fun h=>h,nx)
 | _=>(.own nx 0 es.length,fun h=>upd h nx (some ⟨e,s,true,es⟩),nx+1)
theorem clone_call {e s:Nat} {es:List (List PV)} {y:PV} (h:SlOf s es y) (hl:es.length≤lim) (hp:Hp) (nx:Nat):qT [] (j6 e s) [y] hp nx=some ((ownOr e s es y nx).1,(ownOr e s es y nx).2.1 hp,(ownOr e s es y nx).2.2):=by
 cases h with
 | nil=>rfl
 | em=>rfl
 | sl=>simp at hl;simp[qT,ql,j6,ownOr,hl]
theorem ownOr_other {e s:Nat} {es:List (List PV)} {y:PV} {nx:Nat} (hp:Hp) {id:Nat} (h:id<nx):(ownOr e s es y nx).2.1 hp id=hp id:=by
 unfold ownOr
 split
 ·rfl
 ·exact qd _ _ _ _ (by omega)
theorem clone_ownS {e s:Nat} {es:List (List PV)} {y:PV} (h:SlOf s es y) (hp:Hp) (nx:Nat):OwnS ((ownOr e s es y nx).2.1 hp) (ownOr e s es y nx).2.2 e s (ownOr e s es y nx).1 es:=by
 cases h with
 | nil=>exact .inl ⟨rfl,rfl⟩
 | em=>exact .inr ⟨nx,by simp[ownOr],rfl,by simp[ownOr]⟩
 | sl=>exact .inr ⟨nx,by simp[ownOr],rfl,by simp[ownOr]⟩
theorem cloneV_eval (args:List PV) (r:Option Blk) (h:j6 63 5 args=some r):args.length≤f153.ntmps∧∃x hp nx,qj C0 f153 args (fun _=>none) 0=some (x,hp,nx)∧OwnR r x hp nx:=by
 unfold j6 at h
 split at h
 ·injection h with h;subst h
  exact⟨by simp[f153],zN rfl (by simp[binA,xA,f153,OwnR])⟩
 ·injection h with h;subst h
  exact⟨by simp[f153],zN rfl (by simp[binA,xA,f153,OwnR,zd,qM,AM.view,maxLen,zl,zc])⟩
 ·rename_i es
  split at h
  ·rename_i hc
   obtain⟨rfl,hne,hl⟩:=hc
   injection h with h;subst h
   cases es with
   | nil=>exact absurd rfl hne
   | cons c es =>
     unfold lim at hl
     simp at hl
     have m1:es.length+1≤maxLen:=by unfold maxLen;omega
     have m2:(es.length+1)*80≤140737488355328:=by omega
     refine⟨by simp[f153],zN rfl ?_⟩
     simp[binA,xA,f153,OwnR,zd,qM,AM.view,zl,zc,m1,m2]
  ·cases h
 ·cases h
theorem cloneV_sound:za prog 153 (qT [] (j6 63 5)) :=
 jw (fn:=f153) (code:=_) wT ⟨func153,by kernel_rfl,rfl,by kernel_rfl⟩ [] _ cloneV_eval
def Val.inner (v:Val):List Val:=v.items++v.fields.map (·.2)
def jL (v:Val) (k:Nat):List (List PV):=(v.items++(v.fields.take k).map (·.2)).map Val.enc
theorem innerTo_zero (v:Val):jL v 0=v.items.map Val.enc:=by simp[jL]
theorem innerTo_succ {v:Val} {k:Nat} (h:k<v.fields.length):jL v (k+1)=jL v k++[v.fields[k].2.enc]:=by
 unfold jL
 rw[List.take_succ_eq_append_getElem h,List.map_append (f:=fun x:List UInt8×Val=>x.2),←List.append_assoc,List.map_append (f:=Val.enc)]
 rfl
theorem innerTo_full (v:Val):jL v v.fields.length=v.inner.map Val.enc:=by simp[jL,Val.inner]
theorem innerTo_length (v:Val) (k:Nat):(jL v k).length≤v.items.length+v.fields.length:=by simp[jL];omega
noncomputable abbrev Cin:Ctx:=zF prog [(153,qT [] (j6 63 5))]
theorem inner_eval (v:Val) (hv:v.vb≤lim) (y:PV) (hy:SlOf 5 (v.items.map Val.enc) y) :
  ∃r0,zj Cin f111 [.agg (v.enc.set 3 y)]=some r0∧∀(w:World) (S:Nat→Prop) (u:Value),RepC w S r0 u→RepC w S (.sl 5 (v.inner.map Val.enc)) u:=by
 have hvb:=kM v
 have hl1:=qp v.items
 have hl2:=qL v.fields
 have hcl:=fun hp nx=>clone_call (e:=63) hy (by simp;omega) hp nx
 have hown:=fun hp nx=>clone_ownS (e:=63) hy hp nx
 unfold lim at hv
 have henc:v.enc.set 3 y=[int v.kind,int v.n,str v.s,y,.sl 6 (v.fields.map encF)]:=by rw[jh];rfl
 have hfin:∀{code},f111.body=some code→EvC Cin code ⟨yH [.agg (v.enc.set 3 y)],fun _=>none,0⟩ (retK Cin.P f111 (pureN (.sl 5 (v.inner.map Val.enc))))→∃r0,zj Cin f111 [.agg (v.enc.set 3 y)]=some r0∧∀(w:World) (S:Nat→Prop) (u:Value),RepC w S r0 u→RepC w S (.sl 5 (v.inner.map Val.enc)) u:=by
  intro code hb h
  obtain⟨r0,h1,h2⟩:=evalPureN_of hb h
  exact⟨r0,h1,fun w S u hr=>up_rep hr h2⟩
 refine hfin rfl ?_
 rw[henc]
 have ho:=fun hp=>ownOr_other (e:=63) (s:=5) (es:=v.items.map Val.enc) (y:=y) (nx:=1) hp (id:=0) (by omega)
 simp[hy.cell,hcl,ho]
 refine zy (fun k σ hp nx=>σ 10=.sl 6 (v.fields.map encF)∧σ 11=int v.fields.length∧σ 12=int k∧OwnS hp nx 63 5 (σ 3) (jL v k)) v.fields.length
  ⟨by simp,by simp,by simp,by rw[innerTo_zero];simpa using hown _ _⟩ ?_
 rintro k σ hp nx hk ⟨h10,h11,h12,hO⟩
 have hle:=innerTo_length v k
 by_cases hlt:k<v.fields.length
 ·have hw:IntKind.i64.wrap ((k:Int)+1)=(k:Int)+1:=zh (by omega) (by omega)
  have hO1:=hO.more (some ⟨77,6,false,[str v.fields[k].1::v.fields[k].2.enc]⟩)
  have hap:=hO1.append1 (P:=prog) (t:=22) (c:=v.fields[k].2.enc) el22 sz63 by63 ze63 rfl (by omega) (by unfold maxLen;omega) (by omega)
  have hbs:∀hp nx,zd prog hp nx 22 1 [(0,.agg v.fields[k].2.enc)]=some (.own nx 0 1,upd hp nx (some ⟨63,5,true,[v.fields[k].2.enc]⟩),nx+1):=fun hp nx=>by
   simp only[zd,el22,sz63,ze63,zc,wR]
   simp[zl]
  simp[h10,h11,h12,hlt,hbs,hw,hap]
  refine⟨hlt,?_⟩
  rw[innerTo_succ hlt]
  exact OwnS.after
 ·obtain rfl:k=v.fields.length:=by omega
  rw[innerTo_full] at hO
  have:=hO.freeze nx
  simp[h10,h11,h12,f111]
  exact this
theorem inner_sound:za prog 111 (GV fun v=>.sl 5 (v.inner.map Val.enc)) :=
 xN (fn:=f111) (zm (q:=[]) mixed ⟨cloneV_sound,by simp,trivial⟩:AM.Good Cin _) ⟨_,func111,by kernel_rfl,rfl,by kernel_rfl⟩ false [] _ fun args r h w S vs hz=>by
  obtain⟨v,rfl,hv,rfl⟩:=xW h
  obtain⟨u,hu,hr⟩:=zip_one hz
  subst hu
  obtain⟨y,hy,hr2⟩:=rep_agg_set hr (j:=3) (s:=5) (es:=v.items.map Val.enc) (by simp)
  obtain⟨r0,h1,h2⟩:=inner_eval v hv.1 y hy
  exact⟨_,r0,.cons hr2 .nil,by simp[f111],h1,h2⟩
end Go.Proofs.YtpeaooooimfihaaGreatDoor
