/-
Segments as data; what conditions name; what segments mean (plain).
Segments: the search by name, keys (walks).
The abstract machine: a sequence cut at its middle.
Segments: the names of a condition, one after the other; what is known; circles.
slices.ContainsFunc at values, with a function of the program's.
slices.ContainsFunc at stretches, with a function of the program's.
-/
import Derived.Test.YtanbabpnlgfcpaaGreatDoorG19
import Derived.Test.YtanbabpnlgfcpaaGreatDoorG12
import Derived.Test.YtanbabpnlgfcpaaGreatDoorG10
import Derived.Test.YtanbabpnlgfcpaaGreatDoorG16
import Derived.Test.YtanbabpnlgfcpaaGreatDoorG14
import Derived.Test.YtanbabpnlgfcpaaGreatDoorG18
set_option maxRecDepth 8000
namespace Go.Proofs.YtanbabpnlgfcpaaGreatDoor
open Go.Proofs.Tryz
open Go.RowKit Go.AM
structure Sgm where
 name:List UInt8
 ins:List (List UInt8)
 outs:List (List UInt8)
 cond:Cnd
def Sgm.enc (s:Sgm):List PV:=[str s.name,.sl 1 (encT s.ins),.sl 1 (encT s.outs)]++s.cond.enc
theorem ye (s:Sgm):s.enc=[str s.name,.sl 1 (encT s.ins),.sl 1 (encT s.outs),int s.cond.kind,str s.cond.attr,int s.cond.op,.sl 5 (s.cond.vals.map Val.enc),str s.cond.pat,str s.cond.name,.sl 7 (s.cond.args.map Cnd.enc)]:=by
 unfold Sgm.enc
 rw[ql]
 rfl
@[simp] theorem sgm_len (s:Sgm):s.enc.length=10:=by rw[ye];rfl
@[simp] theorem sgm_drop (s:Sgm):s.enc.drop 3=s.cond.enc:=rfl
@[simp] theorem sgm_take (s:Sgm):s.enc.take 10=s.enc:=List.take_of_length_le (by simp)
@[simp] theorem sgm_0 (s:Sgm) (h:0<s.enc.length):s.enc[0]=str s.name:=rfl
@[simp] theorem sgm_1 (s:Sgm) (h:1<s.enc.length):s.enc[1]=.sl 1 (encT s.ins):=rfl
@[simp] theorem sgm_2 (s:Sgm) (h:2<s.enc.length):s.enc[2]=.sl 1 (encT s.outs):=rfl
@[simp] theorem sgm_cells (s:Sgm):s.enc.all PV.isCell=true:=by rw[ye];rfl
@[simp] theorem sgm_cells' (s:Sgm):(∀x,x∈s.enc→PV.isCell x=true)=True:=by
 have:=sgm_cells s
 rw[List.all_eq_true] at this
 exact eq_true this
theorem sgm_inj {a b:Sgm} (h:a.enc=b.enc):a=b:=by
 have hc:a.cond.enc=b.cond.enc:=by
  rw[ye,ye] at h
  simp only[List.cons.injEq,and_true] at h
  rw[ql,ql]
  simp only[List.cons.injEq,and_true]
  exact h.2.2.2
 have hc':=xS hc
 rw[ye,ye] at h
 simp only[List.cons.injEq,and_true] at h
 obtain⟨h1,h2,h3,_⟩:=h
 cases a;cases b
 simp only at *
 injection h2 with _ h2
 injection h3 with _ h3
 rw[zM h1,qT h2,qT h3,hc']
theorem sgms_inj {a b:List Sgm} (h:PV.sl 10 (a.map Sgm.enc)=.sl 10 (b.map Sgm.enc)):a=b:=by
 injection h with _ h
 exact qH (fun _ _=>sgm_inj) h
def tbs (l:List (List UInt8)):Nat:=(l.map fun s=>1+s.length).sum
def Sgm.cb (s:Sgm):Nat:=1+s.name.length+tbs s.ins+tbs s.outs+s.cond.cb
def sgb (l:List Sgm):Nat:=(l.map Sgm.cb).sum
theorem tbs_mem:∀{l:List (List UInt8)} {s:List UInt8},s∈l→1+s.length≤tbs l
 | y::l,s,h=>by
   simp only[tbs,List.map_cons,List.sum_cons]
   rcases List.mem_cons.1 h with rfl | h
   ·omega
   ·have:=tbs_mem h;unfold tbs at this;omega
theorem tbs_len:∀l:List (List UInt8),l.length≤tbs l
 | []=>Nat.le_refl _
 | y::l=>by have:=tbs_len l;simp only[tbs,List.map_cons,List.sum_cons,List.length_cons] at *;omega
theorem sgb_mem:∀{l:List Sgm} {s:Sgm},s∈l→s.cb≤sgb l
 | y::l,s,h=>by
   simp only[sgb,List.map_cons,List.sum_cons]
   rcases List.mem_cons.1 h with rfl | h
   ·omega
   ·have:=sgb_mem h;unfold sgb at this;omega
theorem sgb_len:∀l:List Sgm,l.length≤sgb l
 | []=>Nat.le_refl _
 | y::l=>by
   have:=sgb_len l
   have hy:1≤y.cb:=by unfold Sgm.cb;omega
   simp only[sgb,List.map_cons,List.sum_cons,List.length_cons] at *
   omega
mutual
def Cnd.names:Cnd→List (List UInt8)
 | .mk k _ _ _ _ n l=>(if k=5 then [n] else [])++namesC l
def namesC:List Cnd→List (List UInt8)
 | []=>[]
 | c::l=>c.names++namesC l
end
theorem names_eq (c:Cnd):c.names=(if c.kind=5 then [c.name] else [])++namesC c.args:=by cases c;rfl
theorem namesC_mem:∀{l:List Cnd} {n:List UInt8},n∈namesC l↔∃c∈l,n∈c.names
 | [],n=>by simp[namesC]
 | c::l,n=>by simp[namesC,namesC_mem (l:=l)]
theorem namesC_drop {l:List Cnd} {k:Nat} (h:k<l.length):namesC (l.drop k)=l[k].names++namesC (l.drop (k+1)):=by
 rw[List.drop_eq_getElem_cons h,namesC]
noncomputable def idxG (l:List Sgm) (n:List UInt8):Nat:=(bsN (l.map Sgm.name) n).1
noncomputable def kr (l:List Sgm) (n:List UInt8):Bool:=(bsN (l.map Sgm.name) n).2
noncomputable def xY (l:List Sgm) (c:Cnd):Bool:=c.names.all (kr l)
noncomputable def q7 (l:List Sgm) (i:Nat):List Nat:=match l[i]? with
 | some s=>s.cond.names.map (idxG l)
 | none=>[]
def keysG:Option (List UInt8)→List (List UInt8)→Int
 | _,[]=>0
 | p,k::l=>if yA k=true then (if jD p k=true then 8 else keysG (some k) l) else 3
def kD (l:List (List UInt8)):Int:=if (1000:Int)<l.length then 2 else keysG none l
theorem keysG_drop {l:List (List UInt8)} {k:Nat} (h:k<l.length) (p:Option (List UInt8)):keysG p (l.drop k)=if yA l[k]=true then (if jD p l[k]=true then 8 else keysG (some l[k]) (l.drop (k+1))) else 3:=by
 rw[List.drop_eq_getElem_cons h,keysG]
theorem keysG_up:∀(l:List (List UInt8)) (p:Option (List UInt8)),keysG p l=0→UpN l∧∀q,p=some q→∀b∈l,Op.bytesLess q b=true
 | [],p,_=>⟨.nil,fun _ _ _ hb=>by cases hb⟩
 | a::l,p,h=>by
   simp only[keysG] at h
   split at h
   case isFalse=>simp at h
   split at h
   ·simp at h
   rename_i hc
   obtain⟨h1,h2⟩:=keysG_up l (some a) h
   refine⟨List.pairwise_cons.2 ⟨h2 a rfl,h1⟩,fun q hq b hb=>?_⟩
   subst hq
   have hqa:Op.bytesLess q a=true:=yw (by simpa[jD] using hc)
   rcases List.mem_cons.1 hb with rfl | hb
   ·exact hqa
   ·exact yr hqa (h2 a rfl b hb)
theorem keysF_up {l:List (List UInt8)} (h:kD l=0):UpN l:=by
 unfold kD at h
 split at h
 ·simp at h
 ·exact (keysG_up l none h).1
noncomputable def segF (s:Sgm):Int:=if kD s.ins=0 then (if kD s.outs=0 then (if (s.ins.any fun k=>s.outs.contains k)=true then 7 else s.cond.check) else kD s.outs) else kD s.ins
noncomputable def segsG:Option (List UInt8)→List Sgm→Int
 | _,[]=>0
 | p,s::l=>if qh s.name=true then (if jD p s.name=true then 8 else if segF s=0 then segsG (some s.name) l else segF s) else 5
theorem segsG_drop {l:List Sgm} {k:Nat} (h:k<l.length) (p:Option (List UInt8)):segsG p (l.drop k)=if qh l[k].name=true then (if jD p l[k].name=true then 8 else if segF l[k]=0 then segsG (some l[k].name) (l.drop (k+1)) else segF l[k]) else 5:=by
 rw[List.drop_eq_getElem_cons h,segsG]
theorem segsG_up:∀(l:List Sgm) (p:Option (List UInt8)),segsG p l=0→(UpN (l.map Sgm.name)∧∀q,p=some q→∀b∈l,Op.bytesLess q b.name=true)∧∀s∈l,qh s.name=true∧segF s=0
 | [],p,_=>⟨⟨.nil,fun _ _ _ hb=>by cases hb⟩,fun _ hb=>by cases hb⟩
 | a::l,p,h=>by
   simp only[segsG] at h
   split at h
   case isFalse=>simp at h
   rename_i hn
   split at h
   ·simp at h
   rename_i hc
   split at h
   case isFalse hs=>exact (hs h).elim
   rename_i hs
   obtain⟨⟨h1,h2⟩,h3⟩:=segsG_up l (some a.name) h
   refine⟨⟨?_,fun q hq b hb=>?_⟩,fun s hsm=>?_⟩
   ·unfold UpN
    rw[List.map_cons]
    refine List.pairwise_cons.2 ⟨fun x hx=>?_,h1⟩
    obtain⟨b,hb,rfl⟩:=List.mem_map.1 hx
    exact h2 a.name rfl b hb
   ·subst hq
    have hqa:Op.bytesLess q a.name=true:=yw (by simpa[jD] using hc)
    rcases List.mem_cons.1 hb with rfl | hb
    ·exact hqa
    ·exact yr hqa (h2 a.name rfl b hb)
   ·rcases List.mem_cons.1 hsm with rfl | hsm
    ·exact⟨hn,hs⟩
    ·exact h3 s hsm
noncomputable def loopG (l:List Sgm):List Int→List Nat→Bool×List Int:=zT (wQ (q7 l) 2097153)
noncomputable def loopF (l:List Sgm):Bool:=(loopG l (List.replicate l.length 0) (List.range l.length)).1
noncomputable def yt (l:List Sgm):Int:=if (100:Int)<l.length then 2 else if segsG none l=0 then (if (l.all fun s=>xY l s.cond)=true then (if loopF l=true then 12 else 0) else 9) else segsG none l
structure SegOk (l:List Sgm):Prop where
 len:l.length≤100
 up:UpN (l.map Sgm.name)
 right:∀s∈l,qh s.name=true∧segF s=0
 known:∀s∈l,∀n∈s.cond.names,kr l n=true
 acyc:∀i:Nat,¬Wayn (fun a b=>b∈q7 l a) i i
theorem idx_lt {l:List Sgm} {n:List UInt8} (h:kr l n=true):idxG l n<l.length:=by
 have:=bsN_lt (l:=l.map Sgm.name) (s:=n) h
 rw[List.length_map] at this
 exact this
theorem succ_lt {l:List Sgm} (h:∀s∈l,∀n∈s.cond.names,kr l n=true) (i:Nat):∀j∈q7 l i,j<l.length:=by
 intro j hj
 unfold q7 at hj
 split at hj
 ·rename_i s hs
  obtain⟨n,hn,rfl⟩:=List.mem_map.1 hj
  exact idx_lt (h s (List.mem_of_getElem? hs) n hn)
 ·cases hj
theorem succ_none {l:List Sgm} {i:Nat} (h:l.length≤i):q7 l i=[]:=by
 unfold q7
 rw[List.getElem?_eq_none h]
theorem whites_rep (n:Nat):yS (List.replicate n 0)=n:=by simp[yS]
theorem loop_iff {l:List Sgm} (hl:l.length≤100) (h:∀s∈l,∀n∈s.cond.names,kr l n=true):loopF l=true↔∃i:Nat,Wayn (fun a b=>b∈q7 l a) i i:=by
 constructor
 ·intro hf
  have key:∀(q:List Nat) (s:List Int),(∀g:Nat,s[g]?≠some 1)→(zT (wQ (q7 l) 2097153) s q).1=true→∃c,Wayn (fun a b=>b∈q7 l a) c c:=by
   intro q
   induction q with
   | nil=>intro s _ hh;simp[zT] at hh
   | cons a q ih =>
     intro s hs hh
     simp only[zT] at hh
     split at hh
     ·rename_i ha
      exact circF_true (q7 l) _ s a (fun g hg=>(hs g hg).elim) ha
     ·exact ih _ (fun g hg=>hs g (((wp (q7 l) _ s a).grey g).1 hg)) hh
  refine key _ _ (fun g hg=>?_) hf
  rw[List.getElem?_replicate] at hg
  split at hg<;>simp at hg
 ·rintro⟨i,hi⟩
  refine Decidable.byContradiction fun hn=>?_
  have hn:loopF l=false:=by simpa using hn
  have hs:=succ_lt h
  have key:∀(q:List Nat) (s:List Int),(∀v∈s,v=0∨v=1∨v=2)→s.length=l.length→yS s<2097153→(∀b∈q,b<l.length)→(∀j:Nat,s[j]?=some 2→Acc (fun x y=>x∈q7 l y) j)→(zT (wQ (q7 l) 2097153) s q).1=false →
    ∀b,b∈q→Acc (fun x y=>x∈q7 l y) b:=by
   intro q
   induction q with
   | nil=>intro s _ _ _ _ _ _ b hb;cases hb
   | cons a q ih =>
     intro s hv hsl hw hq hb hh
     simp only[zT] at hh
     split at hh
     ·simp at hh
     ·rename_i ha
      have hk:=wp (q7 l) 2097153 s a
      obtain⟨g1,g2⟩:=circF_false (q7 l) _ s a hv hw (by rw[hsl];exact hq a (by simp)) (fun x b hb=>by rw[hsl];exact hs x b hb) hb (by simpa using ha)
      intro b hbm
      rcases List.mem_cons.1 hbm with rfl | hbm
      ·exact g1 b g2
      ·exact ih _ (hk.vals hv) (hk.len.trans hsl) (Nat.lt_of_le_of_lt hk.wh hw) (fun b hb=>hq b (by simp[hb])) g1 hh b hbm
  have hacc:=key (List.range l.length) (List.replicate l.length 0) (fun v hv=>by rw[List.mem_replicate] at hv;exact .inl hv.2) (by simp) (by rw[whites_rep];omega) (fun b hb=>List.mem_range.1 hb)
   (fun j hj=>by
    rw[List.getElem?_replicate] at hj
    split at hj<;>simp at hj) hn
  obtain⟨b,hb,_⟩:=hi.head
  have hil:i<l.length:=by
   refine Nat.lt_of_not_le fun hle=>?_
   rw[succ_none hle] at hb
   cases hb
  exact acc_wayn (hacc i (List.mem_range.2 hil)) hi
theorem segs_ok {l:List Sgm} (h:yt l=0):SegOk l:=by
 unfold yt at h
 split at h
 ·simp at h
 rename_i hl
 split at h
 case isFalse hs=>exact (hs h).elim
 rename_i hs
 split at h
 case isFalse=>simp at h
 rename_i hk
 split at h
 ·simp at h
 rename_i hloop
 obtain⟨⟨h1,_⟩,h3⟩:=segsG_up l none hs
 have hkn:∀s∈l,∀n∈s.cond.names,kr l n=true:=fun s hs n hn=>List.all_eq_true.1 (List.all_eq_true.1 hk s hs) n hn
 refine⟨by omega,h1,h3,hkn,fun i hi=>?_⟩
 exact hloop ((loop_iff (by omega) hkn).2 ⟨i,hi⟩)
noncomputable def rkG (l:List Sgm) (i:Nat):Nat:=rankG (fun a b=>b∈q7 l a) l.length i
theorem rkG_le {l:List Sgm} (h:SegOk l) (i:Nat):rkG l i≤100:=Nat.le_trans (rankG_le _ _ _) h.len
theorem rkG_lt {l:List Sgm} (h:SegOk l) (i:Nat):∀j∈q7 l i,rkG l j<rkG l i:=fun j hj=>rankG_lt (succ_lt h.known i j hj) hj (h.acyc j)
mutual
def Cnd.means (seg:List UInt8→Bool) (tst:Cnd→Bool):Cnd→Bool
 | .mk k a o v p n l=>if k=1 then allM seg tst l else if k=2 then anyM seg tst l else if k=3 then !(headM seg tst l) else if k=5 then seg n else tst (.mk k a o v p n l)
def allM (seg:List UInt8→Bool) (tst:Cnd→Bool):List Cnd→Bool
 | []=>true
 | c::l=>c.means seg tst&&allM seg tst l
def anyM (seg:List UInt8→Bool) (tst:Cnd→Bool):List Cnd→Bool
 | []=>false
 | c::l=>c.means seg tst||anyM seg tst l
def headM (seg:List UInt8→Bool) (tst:Cnd→Bool):List Cnd→Bool
 | []=>false
 | c::_=>c.means seg tst
end
def hdC (f:Cnd→Bool):List Cnd→Bool
 | []=>false
 | x::_=>f x
theorem means_eq (seg:List UInt8→Bool) (tst:Cnd→Bool) (c:Cnd):c.means seg tst=if c.kind=1 then c.args.all (fun x=>x.means seg tst) else if c.kind=2 then c.args.any (fun x=>x.means seg tst) else if c.kind=3 then !(hdC (fun x=>x.means seg tst) c.args) else if c.kind=5 then seg c.name else tst c:=by
 have h1:∀l,allM seg tst l=l.all fun x=>x.means seg tst:=fun l=>by
  induction l with
  | nil=>rfl
  | cons c l ih=>rw[allM,ih];rfl
 have h2:∀l,anyM seg tst l=l.any fun x=>x.means seg tst:=fun l=>by
  induction l with
  | nil=>rfl
  | cons c l ih=>rw[anyM,ih];rfl
 have h3:∀l,headM seg tst l=hdC (fun x=>x.means seg tst) l:=fun l=>by cases l<;>rfl
 cases c with
 | mk k a o v p n l =>
   rw[Cnd.means,h1,h2,h3]
   rfl
theorem means_same {f g:List UInt8→Bool} {tst:Cnd→Bool} (c:Cnd):(∀n∈c.names,f n=g n)→c.means f tst=c.means g tst:=by
 induction c using Cnd.ind with
 | h k a o v p n l hl =>
   intro h
   rw[names_eq] at h
   have hargs:∀x∈l,x.means f tst=x.means g tst:=fun x hx=>hl x hx fun m hm=>h m (List.mem_append.2 (.inr (namesC_mem.2 ⟨x,hx,hm⟩)))
   rw[means_eq,means_eq]
   simp only[Cnd.kind,Cnd.args,Cnd.name]
   have e1:(l.all fun x=>x.means f tst)=l.all fun x=>x.means g tst:=by
    rw[Bool.eq_iff_iff,List.all_eq_true,List.all_eq_true]
    exact⟨fun hh x hx=>by rw[←hargs x hx];exact hh x hx,fun hh x hx=>by rw[hargs x hx];exact hh x hx⟩
   have e2:(l.any fun x=>x.means f tst)=l.any fun x=>x.means g tst:=by
    rw[Bool.eq_iff_iff,List.any_eq_true,List.any_eq_true]
    exact⟨fun⟨x,hx,hh⟩=>⟨x,hx,by rw[←hargs x hx];exact hh⟩,fun⟨x,hx,hh⟩=>⟨x,hx,by rw[hargs x hx];exact hh⟩⟩
   rw[e1,e2]
   have e3:hdC (fun x=>x.means f tst) l=hdC (fun x=>x.means g tst) l:=by
    cases l with
    | nil=>rfl
    | cons x l=>exact hargs x (by simp)
   rw[e3]
   by_cases h5:k=5
   ·rw[h n (by simp[Cnd.kind,Cnd.name,h5])]
   ·simp only[h5,if_false]
def memG (l:List Sgm) (key:List UInt8) (tst:Cnd→Bool) (i:Nat) (f:List UInt8→Bool):Bool:=match l[i]? with
 | some s=>s.ins.contains key||(!s.outs.contains key&&s.cond.means f tst)
 | none=>false
noncomputable def memF (l:List Sgm) (key:List UInt8) (tst:Cnd→Bool):Nat→Bool:=fixT (fun i f=>memG l key tst i fun n=>f (idxG l n)) 101
theorem memF_eq {l:List Sgm} (h:SegOk l) (key:List UInt8) (tst:Cnd→Bool) (i:Nat):memF l key tst i=memG l key tst i fun n=>memF l key tst (idxG l n):=by
 refine fixT_eq (succ:=q7 l) (rk:=rkG l) (N:=100) (fun i f g hfg=>?_) (rkG_lt h) (rkG_le h) i
 simp only[memG]
 cases hs:l[i]? with
 | none=>rfl
 | some s =>
   simp only
   rw[means_same s.cond (f:=fun n=>f (idxG l n)) (g:=fun n=>g (idxG l n)) fun n hn=>hfg (idxG l n) (by unfold q7;rw[hs];exact List.mem_map_of_mem hn)]
noncomputable def heldF (l:List Sgm) (key:List UInt8) (tst:Cnd→Bool) (c:Cnd):Bool:=c.means (fun n=>memF l key tst (idxG l n)) tst
theorem idx_at {l:List Sgm} (hu:UpN (l.map Sgm.name)) {i:Nat} {s:Sgm} (h:l[i]?=some s):idxG l s.name=i∧kr l s.name=true:=by
 have:=bsN_of hu (j:=i) (s:=s.name) (by rw[List.getElem?_map,h];rfl)
 unfold idxG kr
 rw[this]
 exact⟨rfl,rfl⟩
noncomputable def FKeySg:List PV→Option PV:=zG (α:=Sgm×List UInt8) (fun a=>[.agg a.1.enc,str a.2]) (fun _=>True) (fun a=>int (cmpB a.1.name a.2))
theorem FKeySg_call (x:Sgm) (s:List UInt8) (hp:Hp) (nx:Nat):zc false [] FKeySg [.agg x.enc,str s] hp nx=some (int (cmpB x.name s),hp,nx) :=
 zt (hp1:=hp) (show zh hp [.agg x.enc,str s]=some ([.agg x.enc,str s],hp) by simp[ye]) (zn (enc:=fun a:Sgm×List UInt8=>[.agg a.1.enc,str a.2]) (a:=(x,s)) (fun a b e=>by
  obtain⟨a1,a2⟩:=a;obtain⟨b1,b2⟩:=b
  simp only[List.cons.injEq,and_true,PV.agg.injEq] at e
  rw[sgm_inj e.1,zM e.2]) trivial) (.inl rfl)
noncomputable abbrev CkeySg:Ctx:=zA prog [(67,zc false [] (F2S cmpB))]
theorem keySg_sound:za prog 93 (zc false [] FKeySg) :=
 zJ (fn:=f93) (zk (q:=[]) mixed ⟨qD,by simp,trivial⟩:AM.Good CkeySg _) ⟨_,func93,by kernel_rfl,rfl,by kernel_rfl⟩ false [] _ fun args r h=>by
  obtain⟨⟨x,s⟩,rfl,_,rfl⟩:=zf h
  exact⟨by simp[f93],_,zb rfl (by simp[f93,ye]),zI _⟩
noncomputable def FBsSg:List PV→Option PV:=zG (α:=List Sgm×List UInt8) (fun a=>[.sl 10 (a.1.map Sgm.enc),str a.2,.fn (.func 93) [] []]) (fun a=>a.1.length≤lim) (fun a=>.tup [int (bsN (a.1.map Sgm.name) a.2).1,boo (bsN (a.1.map Sgm.name) a.2).2])
theorem FBsSg_call (l:List Sgm) (s:List UInt8) (hp:Hp) (nx:Nat) (h:l.length≤lim):zc false [] FBsSg [.sl 10 (l.map Sgm.enc),str s,.fn (.func 93) [] []] hp nx=some (.tup [int (bsN (l.map Sgm.name) s).1,boo (bsN (l.map Sgm.name) s).2],hp,nx) :=
 zt rfl (zn (enc:=fun a:List Sgm×List UInt8=>[PV.sl 10 (a.1.map Sgm.enc),str a.2,.fn (.func 93) [] []]) (a:=(l,s)) (fun a b e=>by
  obtain⟨a1,a2⟩:=a;obtain⟨b1,b2⟩:=b
  simp only[List.cons.injEq,and_true] at e
  obtain⟨e1,e2⟩:=e
  injection e1 with _ e1
  rw[qH (fun _ _=>sgm_inj) e1,zM e2]) h) (.inl rfl)
noncomputable abbrev CbsSg:Ctx:=zA prog [(93,zc false [] FKeySg)]
theorem bsSg_eval (l:List Sgm) (s:List UInt8) (hl:l.length≤lim):zi CbsSg f92 [.sl 10 (l.map Sgm.enc),str s,.fn (.func 93) [] []]=some (.tup [int (bsN (l.map Sgm.name) s).1,boo (bsN (l.map Sgm.name) s).2]):=by
 refine zb rfl ?_
 unfold lim at hl
 have hln:(l.map Sgm.name).length=l.length:=by simp
 simp
 refine wv (fun st=>st.σ 0=.sl 10 (l.map Sgm.enc)∧st.σ 1=str s∧st.σ 2=.fn (.func 93) [] []∧st.σ 8=int l.length∧∃lo hi:Nat,lo≤hi∧hi≤l.length∧st.σ 9=int lo∧st.σ 10=int hi∧bsGo (yD (l.map Sgm.name) s) 0 (l.map Sgm.name).length=bsGo (yD (l.map Sgm.name) s) lo hi)
  (fun st=>(jn (st.σ 10)).toNat - (jn (st.σ 9)).toNat) ⟨by simp,by simp,by simp,by simp,0,l.length,by simp,by simp,by simp,by simp,by rw[hln]⟩ ?_
 rintro⟨σ,hp,nx⟩ ⟨h0,h1,h2,h8,lo,hi,hlh,hhi,h9,h10,he⟩
 simp only at h0 h1 h2 h8 h9 h10
 by_cases hlt:lo<hi
 ·have hcall:=fun x hp nx=>FKeySg_call x s hp nx
  have w1:IntKind.i64.wrap ((lo:Int)+hi)=(lo:Int)+hi:=zd (by omega) (by omega)
  have hml:(lo+hi) / 2<l.length:=by omega
  obtain⟨m,hm⟩:∃m,m=(lo+hi) / 2:=⟨_,rfl⟩
  have hmid:IntKind.i64.wrap ((IntKind.u64.wrap ((lo:Int)+hi)).fdiv (2 ^ min 1 IntKind.u64.bits))=(m:Int):=by
   have e1:IntKind.u64.wrap ((lo:Int)+hi)=(lo:Int)+hi:=by rw[IntKind.wrap_u64];omega
   have e2:(2 ^ min 1 IntKind.u64.bits:Int)=2:=by decide
   rw[e1,e2,Int.fdiv_eq_ediv_of_nonneg _ (by omega),zd (by omega) (by omega)]
   omega
  have hml':m<l.length:=by omega
  have wm:IntKind.i64.wrap ((m:Int)+1)=(m:Int)+1:=zd (by omega) (by omega)
  have hla:yD (l.map Sgm.name) s m=decide (cmpB l[m].name s<0):=by simp[yD,hml']
  rw[yd (lo:=lo) hlt,←hm,hla] at he
  have hcm:=hcall l[m]
  simp only[ye] at hcm
  by_cases hc:cmpB l[m].name s<0
  ·simp only[hc,decide_true,if_true] at he
   simp[h0,h1,h2,h8,h9,h10,hlt,w1,hmid,hml',hcm,hc,wm,ye]
   exact⟨⟨m+1,hi,by omega,hhi,by omega,rfl,by rw[hln] at he;exact he⟩,by omega⟩
  ·simp only[hc,decide_false,Bool.false_eq_true,if_false] at he
   simp[h0,h1,h2,h8,h9,h10,hlt,w1,hmid,hml',hcm,hc,ye]
   exact⟨⟨lo,m,by omega,by omega,rfl,rfl,by rw[hln] at he;exact he⟩,by omega⟩
 ·have he:bsGo (yD (l.map Sgm.name) s) 0 (l.map Sgm.name).length=lo:=by rw[he,jA (lo:=lo) hlt]
  have hcall:=fun x hp nx=>FKeySg_call x s hp nx
  unfold bsN
  rw[he]
  by_cases hlo:lo<l.length
  ·have hcm:=hcall l[lo]
   simp only[ye] at hcm
   simp[h0,h1,h2,h8,h9,h10,hlt,hlo,hcm,ye,f92,zU]
  ·have hlo':l[lo]?=none:=List.getElem?_eq_none (by omega)
   simp[h0,h1,h2,h8,h9,h10,hlt,hlo,hlo',f92,zU]
theorem bsSg_sound:za prog 92 (zc false [] FBsSg) :=
 zJ (fn:=f92) (zk (q:=[93]) mixed ⟨keySg_sound,fun _=>zg _ _,trivial⟩:AM.Good CbsSg _) ⟨_,func92,by kernel_rfl,rfl,by kernel_rfl⟩ false [] _ fun args r h=>by
  obtain⟨⟨l,s⟩,rfl,hl,rfl⟩:=zf h
  exact⟨Nat.le_trans (Nat.le_refl 3) (by decide),_,bsSg_eval l s hl,zI _⟩
noncomputable def FOfSg:List PV→Option PV:=zG (α:=List Sgm×List UInt8) (fun a=>[.sl 10 (a.1.map Sgm.enc),str a.2]) (fun a=>a.1.length≤lim) (fun a=>.tup [int (bsN (a.1.map Sgm.name) a.2).1,boo (bsN (a.1.map Sgm.name) a.2).2])
theorem FOfSg_call (l:List Sgm) (s:List UInt8) (hp:Hp) (nx:Nat) (h:l.length≤lim):zc false [] FOfSg [.sl 10 (l.map Sgm.enc),str s] hp nx=some (.tup [int (bsN (l.map Sgm.name) s).1,boo (bsN (l.map Sgm.name) s).2],hp,nx) :=
 zt rfl (zn (enc:=fun a:List Sgm×List UInt8=>[PV.sl 10 (a.1.map Sgm.enc),str a.2]) (a:=(l,s)) (fun a b e=>by
  obtain⟨a1,a2⟩:=a;obtain⟨b1,b2⟩:=b
  simp only[List.cons.injEq,and_true] at e
  obtain⟨e1,e2⟩:=e
  injection e1 with _ e1
  rw[qH (fun _ _=>sgm_inj) e1,zM e2]) h) (.inl rfl)
noncomputable abbrev CofSg:Ctx:=zA prog [(92,zc false [] FBsSg)]
theorem ofSg_sound:za prog 59 (zc false [] FOfSg) :=
 zJ (fn:=f59) (zk (q:=[]) mixed ⟨bsSg_sound,by simp,trivial⟩:AM.Good CofSg _) ⟨_,func59,by kernel_rfl,rfl,by kernel_rfl⟩ false [] _ fun args r h=>by
  obtain⟨⟨l,s⟩,rfl,hl,rfl⟩:=zf h
  have hc:=fun hp nx=>FBsSg_call l s hp nx hl
  exact⟨by simp[f59],_,zb rfl (by simp[hc,zU,f59]),zI _⟩
noncomputable def FTl (out:List (List UInt8)→PV) (dom:List (List UInt8)→Prop):List PV→Option PV:=zG (α:=List (List UInt8)) (fun l=>[.sl 1 (encT l)]) dom out
theorem FTl_call (out:List (List UInt8)→PV) (dom:List (List UInt8)→Prop) (l:List (List UInt8)) (hp:Hp) (nx:Nat) (h:dom l) (hf:(out l).flat=true):zc false [] (FTl out dom) [.sl 1 (encT l)] hp nx=some (out l,hp,nx) :=
 zt rfl (zn (enc:=fun l:List (List UInt8)=>[PV.sl 1 (encT l)]) (a:=l) (fun a b e=>by
  simp only[List.cons.injEq,and_true] at e
  injection e with _ e
  exact qT e) h) (.inl hf)
def prevK (l:List (List UInt8)) (k:Nat):Option (List UInt8):=if k=0 then none else l[k - 1]?
noncomputable abbrev Cck:Ctx:=zA prog [(19,zc false [] (FS yA))]
theorem checkKeys_eval (l:List (List UInt8)) (h:tbs l≤lim):zi Cck f71 [.sl 1 (encT l)]=some (int (kD l)):=by
 have hl:=tbs_len l
 have hm:=fun s (hs:s∈l)=>tbs_mem hs
 unfold lim at h
 refine zb rfl ?_
 unfold kD
 by_cases c1:(1000:Int)<l.length
 ·rw[if_pos c1]
  simp[c1,f71]
 rw[if_neg c1]
 simp[c1]
 refine zC (fun k σ hp nx=>σ 0=.sl 1 (encT l)∧σ 8=.sl 1 (encT l)∧σ 9=int l.length∧σ 10=int k∧keysG none l=keysG (prevK l k) (l.drop k)) l.length
  ⟨by simp,by simp,by simp,by simp,by simp[prevK]⟩ ?_
 rintro k σ hp nx hk ⟨h0,h8,h9,h10,he⟩
 by_cases hlt:k<l.length
 ·have hw:IntKind.i64.wrap ((k:Int)+1)=(k:Int)+1:=zd (by omega) (by omega)
  obtain⟨s,hs⟩:∃s,l[k]=s:=⟨_,rfl⟩
  have hsl:s.length≤lim:=by have:=hm s (by rw[←hs];exact List.getElem_mem hlt);unfold lim;omega
  rw[keysG_drop hlt,hs] at he
  have hpv:prevK l (k+1)=some s:=by simp[prevK,hlt,hs]
  cases d1:yA s
  ·rw[d1,if_neg (by simp)] at he
   simp[h0,h8,h9,h10,hlt,hs,hsl,d1,he,f71]
  rw[d1,if_pos rfl] at he
  by_cases k0:k=0
  ·subst k0
   have w1:IntKind.i64.wrap 1=1:=zd (by omega) (by omega)
   simp only[prevK,jD,if_true,Bool.false_eq_true,if_false] at he
   simp[h0,h8,h9,h10,hlt,hs,hsl,d1,w1]
   exact⟨by omega,by rw[he,hpv];simp⟩
  ·obtain⟨j,rfl⟩:∃j,k=j+1:=⟨k - 1,by omega⟩
   have hj:j<l.length:=by omega
   have wj:IntKind.i64.wrap ((j:Int)+1 - 1)=(j:Int):=by rw[zd (by omega) (by omega)];omega
   have wj':IntKind.i64.wrap (j:Int)=(j:Int):=zd (by omega) (by omega)
   have j1:((j:Int)+1).toNat=j+1:=by omega
   have j2:0<(j:Int)+1:=by omega
   have j3:0≤(j:Int)+1:=by omega
   have j4:(j:Int)+1<l.length:=by omega
   have wk:IntKind.i64.wrap ((j:Int)+1+1)=(j:Int)+1+1:=zd (by omega) (by omega)
   have el:(Op.bytesLess s l[j]||s==l[j])=leB s l[j]:=rfl
   have hpj:prevK l (j+1)=some l[j]:=by simp[prevK,hj]
   simp only[hpj,jD] at he
   cases d2:leB s l[j]
   ·rw[d2,if_neg (by simp)] at he
    simp[h0,h8,h9,h10,hlt,hj,hs,hsl,d1,wj,wj',j1,j2,j3,j4,el,d2,wk]
    exact⟨by omega,by rw[he,hpv]⟩
   ·rw[d2,if_pos rfl] at he
    simp[h0,h8,h9,h10,hlt,hj,hs,hsl,d1,wj,wj',j1,j2,j3,j4,el,d2,he,f71]
 ·obtain rfl:k=l.length:=by omega
  rw[List.drop_length] at he
  have he:keysG none l=0:=by rw[he];rfl
  simp[h0,h8,h9,h10,he,f71]
theorem checkKeys_sound:za prog 71 (zc false [] (FTl (fun l=>int (kD l)) fun l=>tbs l≤lim)) :=
 zJ (fn:=f71) (zk (q:=[]) mixed ⟨kj,by simp,trivial⟩:AM.Good Cck _) ⟨_,func71,by kernel_rfl,rfl,by kernel_rfl⟩ false [] _ fun args r h=>by
  obtain⟨l,rfl,hx,rfl⟩:=zf h
  exact⟨Nat.le_trans (Nat.le_refl 1) (by decide),_,checkKeys_eval l hx,zI _⟩
theorem isNaNS2_sound:za prog 126 (zc false [] isNaNS) :=
 zJ (fn:=f126) wA ⟨_,func126,by kernel_rfl,rfl,by kernel_rfl⟩ false [] _ fun args r h=>by
  unfold isNaNS at h
  split at h
  ·injection h with h
   subst h
   exact⟨by simp[f126],_,zb rfl (by simp[f126]),zI _⟩
  ·cases h
def lsP (a b:List UInt8):PV:=boo (Op.bytesLess a b)
theorem ls_call (a b:List UInt8) (hp:Hp) (nx:Nat) (h:a.length≤lim) (h2:b.length≤lim):zc false [] (FTT lsP fun _ _=>True) [str a,str b] hp nx=some (boo (Op.bytesLess a b),hp,nx):=ww _ _ a b hp nx h h2 trivial rfl
noncomputable abbrev Cls:Ctx:=zA prog [(155,zc false [] isNaNS)]
theorem less_sound:za prog 125 (zc false [] (FTT lsP fun _ _=>True)) :=
 zJ (fn:=f125) (zk (q:=[]) mixed ⟨isNaNS_sound,by simp,trivial⟩:AM.Good Cls _) ⟨_,func125,by kernel_rfl,rfl,by kernel_rfl⟩ false [] _ fun args r h=>by
  obtain⟨a,b,rfl,h1,h2,_,rfl⟩:=wq h
  exact⟨by simp[f125],_,zb rfl (by simp[lsP,f125]),zI _⟩
noncomputable def FKs (out:List (List UInt8)→List UInt8→PV):List PV→Option PV:=zG (α:=List (List UInt8)×List UInt8) (fun a=>[.sl 1 (encT a.1),str a.2]) (fun a=>tbs a.1≤lim∧a.2.length≤lim) (fun a=>out a.1 a.2)
theorem FKs_call (out:List (List UInt8)→List UInt8→PV) (l:List (List UInt8)) (s:List UInt8) (hp:Hp) (nx:Nat) (h:tbs l≤lim) (h2:s.length≤lim) (hf:(out l s).flat=true):zc false [] (FKs out) [.sl 1 (encT l),str s] hp nx=some (out l s,hp,nx) :=
 zt rfl (zn (enc:=fun a:List (List UInt8)×List UInt8=>[PV.sl 1 (encT a.1),str a.2]) (a:=(l,s)) (fun a b e=>by
  obtain⟨a1,a2⟩:=a;obtain⟨b1,b2⟩:=b
  simp only[List.cons.injEq,and_true] at e
  obtain⟨e1,e2⟩:=e
  injection e1 with _ e1
  rw[qT e1,zM e2]) ⟨h,h2⟩) (.inl hf)
noncomputable def bkP (l:List (List UInt8)) (s:List UInt8):PV:=.tup [int (bsN l s).1,boo (bsN l s).2]
noncomputable def hkP (l:List (List UInt8)) (s:List UInt8):PV:=boo (bsN l s).2
noncomputable abbrev Cbk:Ctx:=zA prog [(125,zc false [] (FTT lsP fun _ _=>True)),(126,zc false [] isNaNS)]
theorem bsKey_eval (l:List (List UInt8)) (s:List UInt8) (hb:tbs l≤lim) (hs:s.length≤lim):zi Cbk f104 [.sl 1 (encT l),str s]=some (bkP l s):=by
 refine zb rfl ?_
 have hl:=tbs_len l
 have hm:=fun s (hs:s∈l)=>tbs_mem hs
 unfold lim at hb hs
 have hel:(encT l).length=l.length:=by simp[encT]
 have hke:∀(k:Nat) (h:k<(encT l).length) (h':k<l.length),(encT l)[k]=[str l[k]]:=fun k h h'=>by simp[encT]
 simp[hel]
 refine wv (fun st=>st.σ 0=.sl 1 (encT l)∧st.σ 1=str s∧st.σ 6=int l.length∧∃lo hi:Nat,lo≤hi∧hi≤l.length∧st.σ 7=int lo∧st.σ 8=int hi∧bsGo (yD l s) 0 l.length=bsGo (yD l s) lo hi)
  (fun st=>(jn (st.σ 8)).toNat - (jn (st.σ 7)).toNat) ⟨by simp,by simp,by simp,0,l.length,by simp,by simp,by simp,by simp,rfl⟩ ?_
 rintro⟨σ,hp,nx⟩ ⟨h0,h1,h6,lo,hi,hlh,hhi,h7,h8,he⟩
 simp only at h0 h1 h6 h7 h8
 by_cases hlt:lo<hi
 ·have w1:IntKind.i64.wrap ((lo:Int)+hi)=(lo:Int)+hi:=zd (by omega) (by omega)
  have hml:(lo+hi) / 2<l.length:=by omega
  obtain⟨m,hmd⟩:∃m,m=(lo+hi) / 2:=⟨_,rfl⟩
  have hmid:IntKind.i64.wrap ((IntKind.u64.wrap ((lo:Int)+hi)).fdiv (2 ^ min 1 IntKind.u64.bits))=(m:Int):=by
   have e1:IntKind.u64.wrap ((lo:Int)+hi)=(lo:Int)+hi:=by rw[IntKind.wrap_u64];omega
   have e2:(2 ^ min 1 IntKind.u64.bits:Int)=2:=by decide
   rw[e1,e2,Int.fdiv_eq_ediv_of_nonneg _ (by omega),zd (by omega) (by omega)]
   omega
  have hml':m<l.length:=by omega
  have hml2:m<(encT l).length:=by omega
  have wm:IntKind.i64.wrap ((m:Int)+1)=(m:Int)+1:=zd (by omega) (by omega)
  have hla:yD l s m=Op.bytesLess l[m] s:=by
   simp only[yD,List.getElem?_eq_getElem hml']
   rw[Bool.eq_iff_iff,decide_eq_true_eq]
   exact cmpB_lt _ _
  rw[yd (lo:=lo) hlt,←hmd,hla] at he
  have hcm:=fun hp nx=>ls_call l[m] s hp nx (by have:=hm _ (List.getElem_mem hml');unfold lim;omega) (by unfold lim;omega)
  cases hc:Op.bytesLess l[m] s
  ·rw[hc,if_neg (by simp)] at he
   rw[hc] at hcm
   simp[h0,h1,h6,h7,h8,hlt,w1,hmid,hel,hml2,hml',hke m hml2 hml',hcm]
   exact⟨⟨lo,m,by omega,by omega,rfl,rfl,he⟩,by omega⟩
  ·rw[hc,if_pos rfl] at he
   rw[hc] at hcm
   simp[h0,h1,h6,h7,h8,hlt,w1,hmid,hel,hml2,hml',hke m hml2 hml',hcm,wm]
   exact⟨⟨m+1,hi,by omega,hhi,by omega,rfl,he⟩,by omega⟩
 ·have he:bsGo (yD l s) 0 l.length=lo:=by rw[he,jA (lo:=lo) hlt]
  unfold bkP bsN
  rw[he]
  by_cases hlo:lo<l.length
  ·have hlo2:lo<(encT l).length:=by omega
   have hz:(cmpB l[lo] s==0)=(l[lo]==s):=by
    rw[Bool.eq_iff_iff,beq_iff_eq,beq_iff_eq]
    exact jW _ _
   cases hc:l[lo]==s <;>
    simp[h0,h1,h6,h7,h8,hlt,hlo,hlo2,hke lo hlo2 hlo,hz,hc,f104,zU]
  ·have hlo':l[lo]?=none:=List.getElem?_eq_none (by omega)
   simp[h0,h1,h6,h7,h8,hlt,hlo,hlo',f104,zU]
theorem bsKey_sound:za prog 104 (zc false [] (FKs bkP)) :=
 zJ (fn:=f104) (zk (q:=[]) mixed ⟨less_sound,by simp,isNaNS2_sound,by simp,trivial⟩:AM.Good Cbk _) ⟨_,func104,by kernel_rfl,rfl,by kernel_rfl⟩ false [] _ fun args r h=>by
  obtain⟨⟨l,s⟩,rfl,⟨hl,hs⟩,rfl⟩:=zf h
  exact⟨Nat.le_trans (Nat.le_refl 2) (by decide),_,bsKey_eval l s hl hs,zI _⟩
noncomputable abbrev Chk:Ctx:=zA prog [(104,zc false [] (FKs bkP))]
theorem hasKey_sound:za prog 74 (zc false [] (FKs hkP)) :=
 zJ (fn:=f74) (zk (q:=[]) mixed ⟨bsKey_sound,by simp,trivial⟩:AM.Good Chk _) ⟨_,func74,by kernel_rfl,rfl,by kernel_rfl⟩ false [] _ fun args r h=>by
  obtain⟨⟨l,s⟩,rfl,⟨hl,hs⟩,rfl⟩:=zf h
  have hc:=fun hp nx=>FKs_call bkP l s hp nx hl hs rfl
  simp only[bkP] at hc
  exact⟨by simp[f74],_,zb rfl (by simp[hc,hkP,zU,f74]),zI _⟩
theorem hk_call (l:List (List UInt8)) (s:List UInt8) (hp:Hp) (nx:Nat) (h:tbs l≤lim) (h2:s.length≤lim):zc false [] (FKs hkP) [.sl 1 (encT l),str s] hp nx=some (boo (bsN l s).2,hp,nx):=FKs_call hkP l s hp nx h h2 rfl
theorem bsN_any {l:List (List UInt8)} (hl:UpN l) (s:List UInt8):(bsN l s).2=l.contains s:=by
 rw[Bool.eq_iff_iff,List.contains_iff_mem]
 constructor
 ·intro h
  exact List.mem_of_getElem? (bsN_at h)
 ·intro h
  obtain⟨j,hj⟩:=List.getElem?_of_mem h
  rw[bsN_of hl hj]
end Go.Proofs.YtanbabpnlgfcpaaGreatDoor
namespace Go.AM
open Go.RowKit
def cutK (Q:St→Prop) (K:Exit→St→Prop) (e:Exit) (st:St):Prop:=match e with
 | .normal=>Q st
 | e=>K e st
@[simp] theorem cutK_n (Q:St→Prop) (K:Exit→St→Prop) (st:St):cutK Q K .normal st=Q st:=rfl
@[simp] theorem cutK_r (Q:St→Prop) (K:Exit→St→Prop) (st:St):cutK Q K .ret st=K .ret st:=rfl
@[simp] theorem cutK_e (Q:St→Prop) (K:Exit→St→Prop) (i:Nat) (st:St):cutK Q K (.exit i) st=K (.exit i) st:=rfl
theorem EvC_cut {C:Ctx} {a b:Code} {st:St} {K:Exit→St→Prop} (Q:St→Prop) (h1:EvC C a st (cutK Q K)) (h2:∀st,Q st→EvC C b st K):EvC C (.seq a b) st K:=by
 rw[EvC_seq]
 refine h1.mono fun e st hk=>?_
 cases e
 case normal=>exact h2 _ hk
 all_goals exact hk
theorem yf {C:Ctx} {a b:Code} {st:St} {K:Exit→St→Prop} (Q:(Nat→PV)→Hp→Nat→Prop) (h1:EvC C a st (cutK (fun st=>Q st.σ st.hp st.nx) K)) (h2:∀σ hp nx,Q σ hp nx→EvC C b ⟨σ,hp,nx⟩ K):EvC C (.seq a b) st K :=
 EvC_cut _ h1 fun st h=>h2 st.σ st.hp st.nx h
end Go.AM
namespace Go.Proofs.YtanbabpnlgfcpaaGreatDoor
open Go.Proofs.Tryz
open Go.RowKit Go.AM
noncomputable def eachS (g:Nat) (sp:AM.Spec):Nat→AM.Spec
 | 0=>fun _ _ _=>none
 | k+1=>hRun (zA prog [(76,eachS g sp k),(g,sp)]) f76
theorem jY {f:FuncId} (hfn:∃fn,prog.funcs[f]?=some fn∧(fn.name== "runtime.NumGoroutine")=false∧fn.body.isNone=false):za prog f (fun _ _ _=>none):=⟨hfn,fun _ _ _ _ _ _ h=>by cases h⟩
set_option maxRecDepth 100000 in
theorem each_sound {g:Nat} {sp:AM.Spec} (h:za prog g sp):∀k,za prog 76 (eachS g sp k)
 | 0=>jY ⟨_,func76,by kernel_rfl,by kernel_rfl⟩
 | k+1=>zs (code:=_) (zk (q:=[]) (l:=[(76,eachS g sp k),(g,sp)]) mixed ⟨each_sound h k,by simp,h,by simp,trivial⟩) ⟨func76,by kernel_rfl,rfl,by kernel_rfl⟩
def qL {σ:Type} (T:Nat→Prop) (Rep:σ→Hp→Prop) (r:PV) (s:σ) (hp:Hp) (nx:Nat) (x:PV) (hp':Hp) (nx':Nat):Prop:=x=r∧Rep s hp'∧nx≤nx'∧∀j,j<nx→¬T j→hp' j=hp j
theorem jf {S α:Type} {f:S→α→Bool×S} {s:S} {a:α} {l:List α} (h:(f s a).1=true):zT f s (a::l)=(true,(f s a).2):=by rw[zT,if_pos h]
theorem yu {S α:Type} {f:S→α→Bool×S} {s:S} {a:α} {l:List α} (h:(f s a).1=false):zT f s (a::l)=zT f (f s a).2 l:=by rw[zT,if_neg (by simp[h])]
theorem jZ {α:Type} (f:α→Bool):∀l:List α,(zT (fun (_:Unit) n=>(f n,())) () l).1=l.any f
 | []=>rfl
 | a::l=>by
   cases h:f a
   ·simp[zT,h,jZ f l]
   ·simp[zT,h]
theorem foldT_not {f:Cnd→Bool}:∀l:List Cnd,(zT (fun (_:Unit) n=>(!f n,())) () l).1=!(l.all f)
 | []=>rfl
 | a::l=>by
   cases h:f a
   ·simp[zT,h]
   ·simp[zT,h,foldT_not l]
set_option maxHeartbeats 2000000 in
theorem each_run {σ:Type} {T:Nat→Prop} {Rep:σ→Hp→Prop} {step:σ→List UInt8→Bool×σ} {Q:List UInt8→Prop} {g:Nat} {sp:AM.Spec} {cap:List PV} {nx0:Nat} (hgn:¬g=76)
  (hT:∀j,T j→j<nx0) (hR:∀s hp j b,nx0≤j→Rep s hp→Rep s (upd hp j b))
  (hS:∀s n hp nx,Q n→n.length≤lim→nx0≤nx→Rep s hp→∃x hp' nx',sp (str n::cap) hp nx=some (x,hp',nx')∧qL T Rep (boo (!(step s n).1)) (step s n).2 hp nx x hp' nx') :
  ∀(k:Nat) (c:Cnd) (s:σ) (hp:Hp) (nx:Nat),c.cb≤k→c.cb≤lim→(∀n∈c.names,Q n)→nx0≤nx→Rep s hp →
   ∃x hp' nx',eachS g sp k [.agg c.enc,.fn (.func g) [] cap] hp nx=some (x,hp',nx')∧qL T Rep (boo (!(zT step s c.names).1)) (zT step s c.names).2 hp nx x hp' nx'
 | 0,c,_,_,_,h,_,_,_,_=>absurd h (by have:=cb_pos c;omega)
 | k+1,c,s,hp0,nx1,hk,hl,hq,hn1,hr0=>by
   have hcb:=cb_eq c
   have hal:=jd c.args
   have hnm:=names_eq c
   unfold eachS hRun
   rw[if_pos (by simp[f76])]
   refine zu rfl ?_
   have hl':=hl
   unfold lim at hl'
   have hrb:Rep s (upd hp0 nx1 (some ⟨68,7,false,[c.enc]⟩)):=hR _ _ _ _ hn1 hr0
   have hTn:¬T nx1:=fun h=>by have:=hT _ h;omega
   refine yf (fun σ hp nx=>σ 1=.fn (.func g) [] cap∧σ 2=.ref nx1 0 0∧hp=upd hp0 nx1 (some ⟨68,7,false,[c.enc]⟩)∧nx=nx1+1) (by simp) ?_
   rintro σ hp nx ⟨h1,h2,rfl,rfl⟩
   refine yf (fun σ hp nx=>σ 1=.fn (.func g) [] cap∧σ 2=.ref nx1 0 0∧nx1<nx∧hp nx1=some ⟨68,7,false,[c.enc]⟩∧∃s1,Rep s1 hp∧(∀j,j<nx1→¬T j→hp j=hp0 j)∧zT step s c.names=zT step s1 (namesC c.args)) ?_ ?_
   ·by_cases h5:c.kind=5
    ·rw[if_pos h5] at hnm
     obtain⟨x,hp2,nx2,e1,rfl,r2,n2,f2⟩:=hS s c.name _ (nx1+1) (hq c.name (by rw[hnm];simp)) (by unfold lim;omega) (by omega) hrb
     cases hst:(step s c.name).1
     ·rw[hst] at e1
      simp[h1,h2,h5,hgn,e1]
      refine⟨by omega,by rw[f2 nx1 (by omega) hTn];simp,(step s c.name).2,r2,fun j hj hn=>by rw[f2 j (by omega) hn,ze _ _ _ _ (by omega)],?_⟩
      rw[hnm]
      exact yu hst
     ·rw[hst] at e1
      have hv:zT step s c.names=(true,(step s c.name).2):=by rw[hnm];exact jf hst
      simp[h1,h2,h5,hgn,e1,qL,hv,f76]
      exact⟨r2,by omega,fun j hj hn=>by rw[f2 j (by omega) hn,ze _ _ _ _ (by omega)]⟩
    ·rw[if_neg h5,List.nil_append] at hnm
     have h5':(c.kind==5)=false:=by simpa using h5
     simp[h1,h2,h5']
     exact⟨s,hrb,fun j hj hn=>by rw[ze _ _ _ _ (by omega)],by rw[hnm]⟩
   rintro σ hp nx ⟨h1,h2,hn2,hb,s1,r1,fr1,he1⟩
   simp[h2,hb]
   refine zC (fun k σ hp nx=>σ 1=.fn (.func g) [] cap∧σ 18=.sl 7 (c.args.map Cnd.enc)∧σ 19=int c.args.length∧σ 20=int k∧nx1<nx∧(∀j,j<nx1→¬T j→hp j=hp0 j)∧∃s2,Rep s2 hp∧zT step s c.names=zT step s2 (namesC (c.args.drop k))) c.args.length
    ⟨by simp[h1],by simp,by simp,by simp,hn2,fr1,s1,r1,by simpa using he1⟩ ?_
   clear h1 h2 hn2 hb r1 fr1 he1 s1 σ hp nx
   rintro i σ hp nx hi ⟨h1,h18,h19,h20,hn2,fr1,s1,r1,he1⟩
   by_cases hlt:i<c.args.length
   ·have hm:=xq (List.getElem_mem hlt)
    have hw:IntKind.i64.wrap ((i:Int)+1)=(i:Int)+1:=zd (by omega) (by omega)
    have hqx:∀n∈c.args[i].names,Q n:=fun n hn=>hq n (by rw[hnm];exact List.mem_append.2 (.inr (namesC_mem.2 ⟨_,List.getElem_mem hlt,hn⟩)))
    obtain⟨x,hp2,nx2,e1,rfl,r2,n2,f2⟩:=each_run hgn hT hR hS k c.args[i] s1 (upd hp nx (some ⟨68,7,false,[c.args[i].enc]⟩)) (nx+1) (by omega) (by unfold lim;omega) hqx (by omega) (hR _ _ _ _ (by omega) r1)
    rw[namesC_drop hlt,foldT_app] at he1
    have hf2:∀j,j<nx1→¬T j→hp2 j=hp0 j:=fun j hj hn=>by rw[f2 j (by omega) hn,ze _ _ _ _ (by omega)];exact fr1 j hj hn
    cases hst:(zT step s1 c.args[i].names).1
    ·rw[hst,if_neg (by simp)] at he1
     rw[hst] at e1
     simp[h1,h18,h19,h20,hlt,e1,hw]
     exact⟨by omega,by omega,hf2,_,r2,he1⟩
    ·rw[hst,if_pos rfl] at he1
     rw[hst] at e1
     simp[h1,h18,h19,h20,hlt,e1,qL,he1,f76]
     exact⟨r2,by omega,hf2⟩
   ·obtain rfl:i=c.args.length:=by omega
    rw[List.drop_length] at he1
    simp only[namesC,zT] at he1
    simp[h1,h18,h19,h20,qL,he1,f76]
    exact⟨r1,by omega,fr1⟩
noncomputable def vqixS (Ta:Tab):AM.Spec:=hRun (zA prog Ta) f116
noncomputable def vqctS (Ta:Tab):AM.Spec:=hRun (zA prog [(116,vqixS Ta)]) f97
set_option maxRecDepth 100000 in
theorem vqix_sound {Ta:Tab} (h:AllD True prog [] Ta):za prog 116 (vqixS Ta):=zs (code:=_) (zk (q:=[]) mixed h) ⟨func116,by kernel_rfl,rfl,by kernel_rfl⟩
set_option maxRecDepth 100000 in
theorem vqct_sound {Ta:Tab} (h:AllD True prog [] Ta):za prog 97 (vqctS Ta):=zs (code:=_) (zk (q:=[]) (l:=[(116,vqixS Ta)]) mixed ⟨vqix_sound h,by simp,trivial⟩) ⟨func97,by kernel_rfl,rfl,by kernel_rfl⟩
theorem vqct_run {σ:Type} {T:Nat→Prop} {Rep:σ→Hp→Prop} {step:σ→Val→Bool×σ} {Ta:Tab} {g:Nat} {sp:AM.Spec} {fi cap:List PV} {nx0:Nat} (hg:lookup Ta g=some sp) (xs:List Val) (hl:xs.length≤lim)
  (hS:∀s x hp nx,x∈xs→nx0≤nx→Rep s hp→∃r hp' nx',sp (fi++.agg x.enc::cap) hp nx=some (r,hp',nx')∧qL T Rep (boo (step s x).1) (step s x).2 hp nx r hp' nx')
  (s0:σ) (hp0:Hp) (nx1:Nat) (hn:nx0≤nx1) (hr:Rep s0 hp0) :
  ∃r hp' nx',vqctS Ta [.sl 5 (xs.map Val.enc),.fn (.func g) fi cap] hp0 nx1=some (r,hp',nx')∧qL T Rep (boo (zT step s0 xs).1) (zT step s0 xs).2 hp0 nx1 r hp' nx':=by
 have key:∃r hp' nx',vqixS Ta [.sl 5 (xs.map Val.enc),.fn (.func g) fi cap] hp0 nx1=some (r,hp',nx')∧∃z:Int,r=int z∧decide (0≤z)=(zT step s0 xs).1∧qL T Rep (int z) (zT step s0 xs).2 hp0 nx1 r hp' nx':=by
  unfold vqixS hRun
  rw[if_pos (by simp[f116])]
  refine zu rfl ?_
  unfold lim at hl
  simp
  refine zC (fun k σ hp nx=>σ 0=.sl 5 (xs.map Val.enc)∧σ 1=.fn (.func g) fi cap∧σ 7=int xs.length∧σ 8=int k∧nx1≤nx∧(∀j,j<nx1→¬T j→hp j=hp0 j)∧∃s,Rep s hp∧zT step s0 xs=zT step s (xs.drop k)) xs.length ⟨by simp,by simp,by simp,by simp,Nat.le_refl _,fun _ _ _=>rfl,s0,hr,by simp⟩ ?_
  rintro k σ hp nx hk ⟨h0,h1,h7,h8,hnx,hfr,s,hrs,he⟩
  by_cases hlt:k<xs.length
  ·have hw:IntKind.i64.wrap ((k:Int)+1)=(k:Int)+1:=zd (by omega) (by omega)
   obtain⟨x,hx⟩:∃x,xs[k]=x:=⟨_,rfl⟩
   obtain⟨r,hp2,nx2,e1,rfl,r2,n2,f2⟩:=hS s x hp nx (by rw[←hx];exact List.getElem_mem hlt) (by omega) hrs
   rw[List.drop_eq_getElem_cons hlt,hx] at he
   have hf2:∀j,j<nx1→¬T j→hp2 j=hp0 j:=fun j hj ht=>by rw[f2 j (by omega) ht];exact hfr j hj ht
   cases hst:(step s x).1
   ·rw[yu hst] at he
    rw[hst] at e1
    simp[h0,h1,h7,h8,hlt,hx,hg,e1,hw]
    exact⟨by omega,by omega,hf2,_,r2,he⟩
   ·rw[jf hst] at he
    rw[hst] at e1
    simp[h0,h1,h7,h8,hlt,hx,hg,e1,he,qL,f116]
    exact⟨r2,by omega,hf2⟩
  ·obtain rfl:k=xs.length:=by omega
   rw[List.drop_length] at he
   simp only[zT] at he
   simp[h0,h1,h7,h8,he,qL,f116]
   exact⟨hrs,hnx,hfr⟩
 obtain⟨r,hp',nx',e1,z,rfl,hz,_,k2,k3,k4⟩:=key
 unfold vqctS hRun
 rw[if_pos (by simp[f97])]
 refine zu rfl ?_
 simp[e1,hz,qL,f97]
 exact⟨k2,k3,k4⟩
@[simp] theorem str_len (s:Str):s.enc.length=11:=rfl
@[simp] theorem str_take (s:Str):s.enc.take 11=s.enc:=List.take_of_length_le (by simp)
noncomputable def rqixS (Ta:Tab):AM.Spec:=hRun (zA prog Ta) f190
noncomputable def rqctS (Ta:Tab):AM.Spec:=hRun (zA prog [(190,rqixS Ta)]) f152
set_option maxRecDepth 100000 in
theorem rqix_sound {Ta:Tab} (h:AllD True prog [] Ta):za prog 190 (rqixS Ta):=zs (code:=_) (zk (q:=[]) mixed h) ⟨func190,by kernel_rfl,rfl,by kernel_rfl⟩
set_option maxRecDepth 100000 in
theorem rqct_sound {Ta:Tab} (h:AllD True prog [] Ta):za prog 152 (rqctS Ta):=zs (code:=_) (zk (q:=[]) (l:=[(190,rqixS Ta)]) mixed ⟨rqix_sound h,by simp,trivial⟩) ⟨func152,by kernel_rfl,rfl,by kernel_rfl⟩
theorem rqct_run {σ:Type} {T:Nat→Prop} {Rep:σ→Hp→Prop} {step:σ→Str→Bool×σ} {Ta:Tab} {g:Nat} {sp:AM.Spec} {fi cap:List PV} {nx0:Nat} (hg:lookup Ta g=some sp) (xs:List Str) (hl:xs.length≤lim)
  (hS:∀s x hp nx,x∈xs→nx0≤nx→Rep s hp→∃r hp' nx',sp (fi++.agg x.enc::cap) hp nx=some (r,hp',nx')∧qL T Rep (boo (step s x).1) (step s x).2 hp nx r hp' nx')
  (s0:σ) (hp0:Hp) (nx1:Nat) (hn:nx0≤nx1) (hr:Rep s0 hp0) :
  ∃r hp' nx',rqctS Ta [.sl 11 (xs.map Str.enc),.fn (.func g) fi cap] hp0 nx1=some (r,hp',nx')∧qL T Rep (boo (zT step s0 xs).1) (zT step s0 xs).2 hp0 nx1 r hp' nx':=by
 have key:∃r hp' nx',rqixS Ta [.sl 11 (xs.map Str.enc),.fn (.func g) fi cap] hp0 nx1=some (r,hp',nx')∧∃z:Int,r=int z∧decide (0≤z)=(zT step s0 xs).1∧qL T Rep (int z) (zT step s0 xs).2 hp0 nx1 r hp' nx':=by
  unfold rqixS hRun
  rw[if_pos (by simp[f190])]
  refine zu rfl ?_
  unfold lim at hl
  simp
  refine zC (fun k σ hp nx=>σ 0=.sl 11 (xs.map Str.enc)∧σ 1=.fn (.func g) fi cap∧σ 7=int xs.length∧σ 8=int k∧nx1≤nx∧(∀j,j<nx1→¬T j→hp j=hp0 j)∧∃s,Rep s hp∧zT step s0 xs=zT step s (xs.drop k)) xs.length ⟨by simp,by simp,by simp,by simp,Nat.le_refl _,fun _ _ _=>rfl,s0,hr,by simp⟩ ?_
  rintro k σ hp nx hk ⟨h0,h1,h7,h8,hnx,hfr,s,hrs,he⟩
  by_cases hlt:k<xs.length
  ·have hw:IntKind.i64.wrap ((k:Int)+1)=(k:Int)+1:=zd (by omega) (by omega)
   obtain⟨x,hx⟩:∃x,xs[k]=x:=⟨_,rfl⟩
   obtain⟨r,hp2,nx2,e1,rfl,r2,n2,f2⟩:=hS s x hp nx (by rw[←hx];exact List.getElem_mem hlt) (by omega) hrs
   rw[List.drop_eq_getElem_cons hlt,hx] at he
   have hf2:∀j,j<nx1→¬T j→hp2 j=hp0 j:=fun j hj ht=>by rw[f2 j (by omega) ht];exact hfr j hj ht
   cases hst:(step s x).1
   ·rw[yu hst] at he
    rw[hst] at e1
    simp[h0,h1,h7,h8,hlt,hx,hg,e1,hw]
    exact⟨by omega,by omega,hf2,_,r2,he⟩
   ·rw[jf hst] at he
    rw[hst] at e1
    simp[h0,h1,h7,h8,hlt,hx,hg,e1,he,qL,f190]
    exact⟨r2,by omega,hf2⟩
  ·obtain rfl:k=xs.length:=by omega
   rw[List.drop_length] at he
   simp only[zT] at he
   simp[h0,h1,h7,h8,he,qL,f190]
   exact⟨hrs,hnx,hfr⟩
 obtain⟨r,hp',nx',e1,z,rfl,hz,_,k2,k3,k4⟩:=key
 unfold rqctS hRun
 rw[if_pos (by simp[f152])]
 refine zu rfl ?_
 simp[e1,hz,qL,f152]
 exact⟨k2,k3,k4⟩
end Go.Proofs.YtanbabpnlgfcpaaGreatDoor
