/-
Printing a value: show, Xshow.
rule.signs, printTest.
rule.print, rule.Print.
The reference's Print; the law of RuleCondsMatchSpec.
The abstract machine, part 27: what the row reads, as pure values, datum by datum.
The abstract machine, part 28: data taken apart by their types' shapes.
-/
import Derived.Test.YtpeaooooimfihaaGreatDoorG15
import Derived.Test.YtpeaooooimfihaaGreatDoorG21
import Derived.Test.YtpeaooooimfihaaGreatDoorG26
import Derived.Test.YtpeaooooimfihaaGreatDoorG27
import Derived.Test.YtpeaooooimfihaaGreatDoorG9
set_option maxRecDepth 8000
namespace Go.Proofs.YtpeaooooimfihaaGreatDoor
open Go.Proofs.Tryz
open Go.RowKit Go.AM Go.PrLaw
def yV:Val ⊕ List UInt8→List PV
 | .inl v=>v.enc
 | .inr s=>[int 3,int 0,str s,.nil,.nil]
def xh:Val ⊕ List UInt8→List UInt8
 | .inl v=>v.show
 | .inr s=>quoB s
def okVS (n:Nat):Val ⊕ List UInt8→Prop
 | .inl v=>VOk v∧v.vb≤lim∧v.vb≤n
 | .inr s=>s.length≤lim∧0<n
theorem encVS_inj {a b:Val ⊕ List UInt8} (h:[PV.agg (yV a)]=[.agg (yV b)]):a=b:=by
 simp only[List.cons.injEq,and_true,PV.agg.injEq] at h
 cases a<;>cases b<;>simp only[yV] at h
 ·rw[ky h]
 ·rw[jh] at h;simp at h
 ·rw[jh] at h;simp at h
 ·simp only[List.cons.injEq,and_true,true_and] at h;rw[qt h]
noncomputable def FSh (n:Nat):List PV→Option (List UInt8×PV):=zH (α:=Val ⊕ List UInt8) (fun a=>[.agg (yV a)]) (okVS n) (fun a=>(xh a,.tup []))
theorem FSh_eq (n:Nat) (a:Val ⊕ List UInt8) (h:okVS n a):FSh n [.agg (yV a)]=some (xh a,.tup []):=zn (enc:=fun a:Val ⊕ List UInt8=>[.agg (yV a)]) (a:=a) (fun _ _=>encVS_inj) h
theorem okVS_0 (a:Val ⊕ List UInt8):¬okVS 0 a:=by
 cases a with
 | inl v=>intro h;have:=xe v;have:=h.2.2;omega
 | inr s=>intro h;exact absurd h.2 (Nat.lt_irrefl 0)
theorem FSh_zero {f:FuncId} (hfn:∃fn,prog.funcs[f]?=some fn∧(fn.name== "runtime.NumGoroutine")=false∧fn.body.isNone=false):za prog f (hBld TB UB (FSh 0)):=by
 refine⟨hfn,fun args hp nx r hp' nx' h=>?_⟩
 unfold hBld at h
 split at h
 ·split at h
  ·obtain⟨_,_,h⟩:=Option.bind_eq_some_iff.1 h
   obtain⟨_,h,_⟩:=Option.bind_eq_some_iff.1 h
   obtain⟨a,_,ha,_⟩:=ze h
   exact (okVS_0 a ha).elim
  ·cases h
 ·cases h
theorem shS {hp:Hp} {nx m:Nat} {cur:List UInt8} (n:Nat) (v:Val) (B:BSt TB UB hp nx m cur) (h:VOk v∧v.vb≤lim∧v.vb≤n) (hl:cur.length+v.show.length≤140737488355328) :
  ∃hp',hBld TB UB (FSh n) [.ref 0 0 0,.agg v.enc] hp nx=some (.tup [],hp',nx+1)∧BSt TB UB hp' (nx+1) nx (cur++v.show)∧∀j,j≠0→j≠m→j≠nx→hp' j=hp j :=
 B.put (hp1:=hp) (by simp only[zi,wR]) (by simp only[List.all_cons,xT,List.all_nil,Bool.and_self]) (show FSh n [.agg v.enc]=some (v.show,.tup []) from FSh_eq n (.inl v) h) hl
noncomputable abbrev Csh (n:Nat):Ctx:=zF prog [(53,hBld TB UB (FSh n)),(18,hBld TB UB FWb),(17,hBld TB UB FWs),(80,zf false [] FBo),(81,hBld TB UB FTh),(82,hBld TB UB FQu)]
set_option maxHeartbeats 1000000 in
theorem show_evalT (n:Nat) (s:List UInt8) (hs:s.length≤lim) {hp:Hp} {nx:Nat} {l:List UInt8} {b0:Blk} {K:Hp→Hp} (hS:BStart TB UB hp nx l b0 K) (hl:l.length+(quoB s).length≤140737488355328) :
  BEnds TB UB (qj (Csh n) f53 [.ref 0 0 0,.agg [int 3,int 0,str s,.nil,.nil]] hp nx) (l++quoB s) (.tup []):=by
 refine jB rfl ?_
 obtain⟨hp1,e1,B1,_⟩:=hS.put (h:=upd hp nx (some ⟨63,5,false,[[int 3,int 0,str s,.nil,.nil]]⟩)) (nx':=nx+1) (F:=FQu) (rest:=[str s]) (Nat.le_succ _) (fun j hj=>zp _ _ _ _ (by omega)) rfl rfl (FQu_eq s hs) hl
 simp[e1,f53]
 exact B1.ends (by simp) (by simp)
set_option maxHeartbeats 4000000 in
theorem show_eval (n:Nat) (v:Val) (h:VOk v∧v.vb≤lim∧v.vb≤n+1) {hp:Hp} {nx:Nat} {l:List UInt8} {b0:Blk} {K:Hp→Hp} (hS:BStart TB UB hp nx l b0 K) (hl:l.length+v.show.length≤140737488355328) :
  BEnds TB UB (qj (Csh n) f53 [.ref 0 0 0,.agg v.enc] hp nx) (l++v.show) (.tup []):=by
 refine jB rfl ?_
 obtain⟨hok,hv,hvn⟩:=h
 have hvb:=kM v
 have hl1:=qp v.items
 have hl2:=qL v.fields
 unfold lim at hv
 have hkd:=hok.kind
 obtain⟨H0,hH⟩:∃H0,H0=upd hp nx (some ⟨63,5,false,[v.enc]⟩):=⟨_,rfl⟩
 have hag:∀j,j<nx→H0 j=hp j:=fun j hj=>by rw[hH];exact zp _ _ _ _ (by omega)
 have hH1:H0 nx=some ⟨63,5,false,[v.enc]⟩:=by rw[hH];simp
 have hpos:=hS.pos
 rcases (by omega:v.kind=0∨v.kind=1∨v.kind=2∨v.kind=3∨v.kind=4∨v.kind=5) with hk | hk | hk | hk | hk | hk
 ·have hsv:v.show=[110,117,108,108]:=by rw[wM,if_pos hk]
  rw[hsv] at hl ⊢
  obtain⟨hp1,e1,B1,_⟩:=wsF hS (Nat.le_succ nx) hag [110,117,108,108] (by simp) (by simpa using hl)
  rw[hH] at e1
  simp[hk,e1,f53]
  exact B1.ends (by simp) (by simp)
 ·have hsv:v.show=Lib.formatBool (v.n==1):=by
   rw[wM,if_neg (by omega),if_pos hk]
   by_cases h1:v.n=1
   ·rw[if_pos h1,h1];rfl
   ·rw[if_neg h1,show (v.n==1)=false from beq_eq_false_iff_ne.2 h1];rfl
  rw[hsv] at hl ⊢
  have hf:=fun hp nx=>FBo_call (v.n==1) hp nx
  obtain⟨hp1,e1,B1,_⟩:=wsF hS (Nat.le_succ nx) hag (Lib.formatBool (v.n==1)) (by cases (v.n==1)<;>decide) hl
  rw[hH] at e1
  simp[hk,hf,e1,f53]
  exact B1.ends (by simp) (by simp)
 ·have hsv:v.show=xm v.n:=by rw[wM,if_neg (by omega),if_neg (by omega),if_pos hk]
  rw[hsv] at hl ⊢
  obtain⟨hp1,e1,B1,_⟩:=hS.put (h:=H0) (nx':=nx+1) (F:=FTh) (rest:=[int v.n]) (Nat.le_succ _) hag rfl rfl (FTh_eq v.n (hok.num hk)) hl
  rw[hH] at e1
  simp[hk,e1,f53]
  exact B1.ends (by simp) (by simp)
 ·have hsv:v.show=quoB v.s:=by rw[wM,if_neg (by omega),if_neg (by omega),if_neg (by omega),if_pos hk]
  rw[hsv] at hl ⊢
  obtain⟨hp1,e1,B1,_⟩:=hS.put (h:=H0) (nx':=nx+1) (F:=FQu) (rest:=[str v.s]) (Nat.le_succ _) hag rfl rfl (FQu_eq v.s (by unfold lim;omega)) hl
  rw[hH] at e1
  simp[hk,e1,f53]
  exact B1.ends (by simp) (by simp)
 ·have hsv:v.show=91::(Lib.join (v.items.map Val.show) [44]++[93]):=by rw[wM,if_neg (by omega),if_neg (by omega),if_neg (by omega),if_neg (by omega),if_pos hk]
  rw[hsv] at hl ⊢
  obtain⟨jl,hjl⟩:∃jl,Lib.join (v.items.map Val.show) [44]=jl:=⟨_,rfl⟩
  have hj0:jl=xR [44] 0 ((v.items.drop 0).map Val.show):=by rw[List.drop_zero,←hjl];rfl
  rw[hjl] at hl ⊢
  simp at hl
  obtain⟨hp1,e1,B1,fr1⟩:=wbF hS (Nat.le_succ nx) hag 91 91 rfl (by omega)
  have f1:hp1 nx=some ⟨63,5,false,[v.enc]⟩:=by rw[fr1 nx (Nat.le_refl _) (by omega),hH1]
  rw[hH] at e1
  simp[hk,e1,f1]
  refine zy (fun k σ hp nx=>σ 0=.ref 0 0 0∧σ 39=.sl 5 (v.items.map Val.enc)∧σ 40=int v.items.length∧σ 41=int k∧∃m cur,BSt TB UB hp nx m cur∧l++91::(jl++[93])=cur++(xR [44] k ((v.items.drop k).map Val.show)++[93])) v.items.length ⟨by simp,by simp,by simp,by simp,nx+1,l++[91],B1,by rw[←hj0];simp⟩ ?_
  rintro k σ hp nx hkl ⟨h0,h39,h40,h41,m,cur,B,he⟩
  by_cases hlt:k<v.items.length
  ·have hw:IntKind.i64.wrap ((k:Int)+1)=(k:Int)+1:=zh (by omega) (by omega)
   have hmem:=List.getElem_mem hlt
   have hm:=q8 hmem
   have hxo:=hok.items _ hmem
   rw[List.drop_eq_getElem_cons hlt,List.map_cons,vL] at he
   obtain⟨x,hx⟩:∃x,v.items[k]=x:=⟨_,rfl⟩
   rw[hx] at he hm hxo
   have hw1:IntKind.i64.wrap 1=1:=by decide
   have hlen2:=congrArg List.length he
   have B':=B.same (nx':=nx+1) (hp':=upd hp nx (some ⟨63,5,false,[x.enc]⟩)) (Nat.le_succ _) (fun j hj=>zp _ _ _ _ (by omega))
   by_cases hk0:k=0
   ·subst hk0
    simp at he hlen2
    obtain⟨hp2,e2,B2,_⟩:=shS n x B' ⟨hxo,by unfold lim;omega,by omega⟩ (by omega)
    simp[h0,h39,h40,h41,hlt,hx,e2,hw1]
    exact⟨by omega,_,_,B2,by simpa using he⟩
   ·rw[if_neg hk0] at he
    have hk1:0<k:=by omega
    simp[hk0] at he hlen2
    obtain⟨hp2,e2,B2,fr2⟩:=wbS B' 44 44 rfl (by omega)
    have hmn:=B.2.2.2
    have f2:hp2 nx=some ⟨63,5,false,[x.enc]⟩:=by rw[fr2 nx (by omega) (by omega) (by omega)];simp
    obtain⟨hp3,e3,B3,_⟩:=shS n x B2 ⟨hxo,by unfold lim;omega,by omega⟩ (by simp;omega)
    simp[h0,h39,h40,h41,hlt,hx,hk1,e2,f2,e3,hw]
    exact⟨by omega,_,_,B3,by simpa using he⟩
  ·obtain rfl:k=v.items.length:=by omega
   rw[List.drop_length,List.map_nil,jZ] at he
   have hlen2:=congrArg List.length he
   simp at he hlen2
   obtain⟨hp2,e2,B2,_⟩:=wbS B 93 93 rfl (by omega)
   simp[h0,h39,h40,h41,e2,f53]
   exact B2.ends (by simpa using he) (by simp)
 ·have hsv:v.show=123::(Lib.join (v.fields.map jr) [44]++[125]):=by rw[wM,if_neg (by omega),if_neg (by omega),if_neg (by omega),if_neg (by omega),if_neg (by omega)]
  rw[hsv] at hl ⊢
  obtain⟨jl,hjl⟩:∃jl,Lib.join (v.fields.map jr) [44]=jl:=⟨_,rfl⟩
  have hj0:jl=xR [44] 0 ((v.fields.drop 0).map jr):=by rw[List.drop_zero,←hjl];rfl
  rw[hjl] at hl ⊢
  simp at hl
  obtain⟨hp1,e1,B1,fr1⟩:=wbF hS (Nat.le_succ nx) hag 123 123 rfl (by omega)
  have f1:hp1 nx=some ⟨63,5,false,[v.enc]⟩:=by rw[fr1 nx (Nat.le_refl _) (by omega),hH1]
  rw[hH] at e1
  simp[hk,e1,f1]
  refine zy (fun k σ hp nx=>σ 0=.ref 0 0 0∧σ 61=.sl 6 (v.fields.map encF)∧σ 62=int v.fields.length∧σ 63=int k∧∃m cur,BSt TB UB hp nx m cur∧l++123::(jl++[125])=cur++(xR [44] k ((v.fields.drop k).map jr)++[125])) v.fields.length ⟨by simp,by simp,by simp,by simp,nx+1,l++[123],B1,by rw[←hj0];simp⟩ ?_
  rintro k σ hp nx hkl ⟨h0,h39,h40,h41,m,cur,B,he⟩
  by_cases hlt:k<v.fields.length
  ·have hw:IntKind.i64.wrap ((k:Int)+1)=(k:Int)+1:=zh (by omega) (by omega)
   have hmem:=List.getElem_mem hlt
   have hm:=yn hmem
   have hxo:=hok.fields _ hmem
   rw[List.drop_eq_getElem_cons hlt,List.map_cons,vL] at he
   obtain⟨⟨a,x⟩,hx⟩:∃x,v.fields[k]=x:=⟨_,rfl⟩
   rw[hx] at he hm hxo
   simp only[jr] at he
   simp only at hm hxo
   have hw1:IntKind.i64.wrap 1=1:=by decide
   have hlen2:=congrArg List.length he
   have B':=B.same (nx':=nx+1) (hp':=upd hp nx (some ⟨77,6,false,[str a::x.enc]⟩)) (Nat.le_succ _) (fun j hj=>zp _ _ _ _ (by omega))
   have hmn:=B.2.2.2
   have b1:upd hp nx (some ⟨77,6,false,[str a::x.enc]⟩) nx=some ⟨77,6,false,[str a::x.enc]⟩:=by simp
   by_cases hk0:k=0
   ·subst hk0
    simp at he hlen2
    obtain⟨hp2,e2,B2,fr2⟩:=B'.put (F:=FQu) (rest:=[str a]) rfl rfl (FQu_eq a (by unfold lim;omega)) (by omega)
    have f2:=(fr2 nx (by omega) (by omega) (by omega)).trans b1
    obtain⟨hp3,e3,B3,fr3⟩:=wbS B2 58 58 rfl (by simp;omega)
    have f3:=(fr3 nx (by omega) (by omega) (by omega)).trans f2
    obtain⟨hp4,e4,B4,_⟩:=shS n x B3 ⟨hxo,by unfold lim;omega,by omega⟩ (by simp;omega)
    simp[h0,h39,h40,h41,hlt,hx,e2,f2,e3,f3,e4,hw1]
    exact⟨by omega,_,_,B4,by simpa using he⟩
   ·rw[if_neg hk0] at he
    have hk1:0<k:=by omega
    simp[hk0] at he hlen2
    obtain⟨hp1,e1,B1,fr1⟩:=wbS B' 44 44 rfl (by omega)
    have f1:=(fr1 nx (by omega) (by omega) (by omega)).trans b1
    obtain⟨hp2,e2,B2,fr2⟩:=B1.put (F:=FQu) (rest:=[str a]) rfl rfl (FQu_eq a (by unfold lim;omega)) (by simp;omega)
    have f2:=(fr2 nx (by omega) (by omega) (by omega)).trans f1
    obtain⟨hp3,e3,B3,fr3⟩:=wbS B2 58 58 rfl (by simp;omega)
    have f3:=(fr3 nx (by omega) (by omega) (by omega)).trans f2
    obtain⟨hp4,e4,B4,_⟩:=shS n x B3 ⟨hxo,by unfold lim;omega,by omega⟩ (by simp;omega)
    simp[h0,h39,h40,h41,hlt,hx,hk1,e1,f1,e2,f2,e3,f3,e4,hw]
    exact⟨by omega,_,_,B4,by simpa using he⟩
  ·obtain rfl:k=v.fields.length:=by omega
   rw[List.drop_length,List.map_nil,jZ] at he
   have hlen2:=congrArg List.length he
   simp at he hlen2
   obtain⟨hp2,e2,B2,_⟩:=wbS B 125 125 rfl (by omega)
   simp[h0,h39,h40,h41,e2,f53]
   exact B2.ends (by simpa using he) (by simp)
set_option maxRecDepth 100000 in
theorem show_sound:∀n,za prog 53 (hBld TB UB (FSh n)):=by
 intro n
 induction n with
 | zero=>exact FSh_zero ⟨_,func53,by kernel_rfl,by kernel_rfl⟩
 | succ n ih =>
   have hg:AM.Good (Csh n) (fun g=>([]:List Nat).contains g):=zm mixed ⟨ih,by simp,wb_sound,by simp,ws_sound,by simp,fmtBool_sound,by simp,thousandths_sound,by simp,quote_sound,by simp,trivial⟩
   exact ym (code:=_) hg ⟨func53,by kernel_rfl,rfl,by kernel_rfl⟩ _ _ (FSh (n+1)) fun xs t r h=>by
    obtain⟨a,rfl,ha,e⟩:=ze h
    injection e with e1 e2
    subst e1;subst e2
    refine⟨rfl,Nat.le_trans (Nat.le_refl 2) (by decide),fun hp nx l b0 K hS hlen=>?_⟩
    cases a with
    | inl v=>exact show_eval n v ha hS hlen
    | inr s=>exact show_evalT n s ha.1 hS hlen
noncomputable def FXs:List PV→Option PV:=zH (α:=Val ⊕ List UInt8) (fun a=>[.agg (yV a)]) (okVS lim) (fun a=>str (xh a))
theorem FXs_call (v:Val) (hp:Hp) (nx:Nat) (h:VOk v) (hv:v.vb≤lim):zf false [] FXs [.agg v.enc] hp nx=some (str v.show,hp,nx) :=
 zK (hp1:=hp) (show zi hp [.agg v.enc]=some ([.agg v.enc],hp) by simp only[zi,wR]) (zn (enc:=fun a:Val ⊕ List UInt8=>[.agg (yV a)]) (a:=.inl v) (fun _ _=>encVS_inj) ⟨h,hv,hv⟩) (.inl rfl)
theorem FXs_lit (s:List UInt8) (hp:Hp) (nx:Nat) (h:s.length≤lim):zf false [] FXs [.agg [int 3,int 0,str s,.nil,.nil]] hp nx=some (str (quoB s),hp,nx) :=
 zK (hp1:=hp) (show zi hp [.agg [int 3,int 0,str s,.nil,.nil]]=some ([.agg [int 3,int 0,str s,.nil,.nil]],hp) by simp) (zn (enc:=fun a:Val ⊕ List UInt8=>[.agg (yV a)]) (a:=.inr s) (fun _ _=>encVS_inj) ⟨h,by unfold lim;omega⟩) (.inl rfl)
theorem show_ne (v:Val) (h:VOk v):v.show≠[]:=by
 have hk:=h.kind
 rw[wM]
 split
 ·simp
 split
 ·split<;>simp
 split
 ·unfold xm;intro e;have:=dec_ne (v.n.natAbs / 1000);simp_all
 split
 ·simp[quoB]
 split<;>simp
noncomputable abbrev Cxs:Ctx:=zF prog [(53,hBld TB UB (FSh lim)),(10,hStr)]
theorem goodxs:AM.Good Cxs (fun g=>([]:List Nat).contains g):=zm mixed ⟨show_sound lim,by simp,str_sound,by simp,trivial⟩
theorem xshow_eval (a:Val ⊕ List UInt8) (h:okVS lim a):zj Cxs f36 [.agg (yV a)]=some (str (xh a)):=by
 have hne:xh a≠[]:=by
  cases a with
  | inl v=>exact show_ne v h.1
  | inr s=>simp[xh,quoB]
 have hlen:(xh a).length≤140737488355328:=by
  cases a with
  | inl v=>have:=vN v h.1;have h2:=h.2.1;unfold lim at h2;simp only[xh];omega
  | inr s=>have:=jA s;have h2:=h.1;unfold lim at h2;simp only[xh];omega
 refine zb rfl ?_
 have hfz:∀h:Hp,zi h [.agg (yV a)]=some ([.agg (yV a)],h):=fun h=>by
  cases a with
  | inl v=>simp only[yV,zi,wR]
  | inr s=>simp[yV]
 have hno:([PV.agg (yV a)].all PV.noOwn)=true:=by
  cases a with
  | inl v=>simp only[yV,List.all_cons,xT,List.all_nil,Bool.and_self]
  | inr s=>rfl
 obtain⟨hp1,e1,u1,u2,_⟩:=newB_put (T:=TB) (U:=UB) (F:=FSh lim) (h:=upd (upd (fun _=>none) 0 (some ⟨63,5,false,[yV a]⟩)) 1 (some ⟨34,2,false,[[.v (.pointer none),.nil]]⟩)) (id:=1) (nx':=2) (rest:=[.agg (yV a)]) (by rw[zQ];rfl) (by omega) (hfz _) hno (FSh_eq lim a h) hlen
 have e2:=fun nx=>str_call hp1 nx 1 2 (xh a) u1 u2 hne (by omega)
 have hcl:(yV a).length=5:=by
  cases a with
  | inl v=>simp[yV]
  | inr s=>rfl
 have htk:(yV a).take 5=yV a:=List.take_of_length_le (by omega)
 have hce:(∀x,x∈yV a→PV.isCell x=true)=True:=eq_true (by
  cases a with
  | inl v=>intro x hx;have:=enc_cells v;rw[List.all_eq_true] at this;exact this x hx
  | inr s=>simp[yV,PV.isCell])
 simp[hcl,htk,hce,e1,e2,f36]
theorem xshow_sound:za prog 36 (zf false [] FXs) :=
 zO (fn:=f36) goodxs ⟨_,func36,by kernel_rfl,rfl,by kernel_rfl⟩ false [] _ fun args r h=>by
  obtain⟨a,rfl,ha,rfl⟩:=ze h
  exact⟨by simp[f36],_,xshow_eval a ha,zM _⟩
def FSg:List PV→Option PV
 | []=>some (.sl 1 (encT sgnB))
 | _=>none
theorem signs_sound:za prog 35 (zf false [] FSg) :=
 zO (fn:=f35) wT ⟨_,func35,by kernel_rfl,rfl,by kernel_rfl⟩ false [] _ fun args r h=>by
  unfold FSg at h
  split at h
  ·injection h with h
   subst h
   exact⟨by simp[f35],_,zb rfl (by simp[zd,zl,zc,encT,sgnB,maxLen,qi,AM.freeze,zA,zV,f35]),zM _⟩
  ·cases h
theorem FSg_call (hp:Hp) (nx:Nat):zf false [] FSg [] hp nx=some (.sl 1 (encT sgnB),hp,nx):=zK rfl rfl (.inr rfl)
theorem sgn_get (u:Nat) (h:u<13):(encT sgnB)[u]?=some [str (sgn u)]:=by
 have h1:sgnB.length=13:=rfl
 simp only[encT,List.getElem?_map,sgn,Int.toNat_natCast]
 rw[List.getElem?_eq_getElem (by omega)]
 rfl
noncomputable def FPtt:List PV→Option (List UInt8×PV):=zH (α:=Cnd) (fun c=>[.agg c.enc]) (fun c=>COk c∧c.kind=4∧c.cb≤lim) (fun c=>(kG c,.tup []))
theorem FPtt_eq (c:Cnd) (h:COk c∧c.kind=4∧c.cb≤lim):FPtt [.agg c.enc]=some (kG c,.tup []) :=
 zn (enc:=fun c:Cnd=>[.agg c.enc]) (a:=c) (fun a b e=>by simp only[List.cons.injEq,and_true,PV.agg.injEq] at e;exact xX e) h
noncomputable abbrev Cpt2:Ctx:=zF prog [(35,zf false [] FSg),(17,hBld TB UB FWs),(28,zf false [] (FIb js)),(36,zf false [] FXs)]
theorem goodpt2:AM.Good Cpt2 (fun g=>[35].contains g):=zm mixed ⟨signs_sound,fun _=>zg _ _,ws_sound,by simp,xr,by simp,xshow_sound,by simp,trivial⟩
set_option maxHeartbeats 4000000 in
theorem printTest_eval (c:Cnd) (hok:COk c) (hk:c.kind=4) (hcb:c.cb≤lim) {hp:Hp} {nx:Nat} {l:List UInt8} {b0:Blk} {K:Hp→Hp} (hS:BStart TB UB hp nx l b0 K) (hl:l.length+(kG c).length≤140737488355328) :
  BEnds TB UB (qj Cpt2 f16 [.ref 0 0 0,.agg c.enc] hp nx) (l++kG c) (.tup []):=by
 refine jB rfl ?_
 have hcbe:=cb_eq c
 have hl1:=qp c.vals
 unfold lim at hcb
 have hpos:=hS.pos
 obtain⟨o1,o2⟩:=hok.op hk
 obtain⟨H0,hH⟩:∃H0,H0=upd hp nx (some ⟨25,7,false,[c.enc]⟩):=⟨_,rfl⟩
 have hag:∀j,j<nx→H0 j=hp j:=fun j hj=>by rw[hH];exact zp _ _ _ _ (by omega)
 have hH1:H0 nx=some ⟨25,7,false,[c.enc]⟩:=by rw[hH];simp
 by_cases h1:c.op=1
 ·have ht:kG c=[104,97,115,32,46]++c.attr:=by unfold kG;rw[if_pos h1]
  rw[ht] at hl ⊢
  have hm:5+c.attr.length≤maxLen:=by unfold maxLen;omega
  obtain⟨hp1,e1,B1,_⟩:=wsF hS (Nat.le_succ nx) hag ([104,97,115,32,46]++c.attr) (by simp) hl
  rw[hH] at e1
  simp at e1
  simp[h1,hm,e1,f16]
  exact B1.ends (by simp) (by simp)
 ·obtain⟨u,hu⟩:∃u:Nat,c.op=u:=⟨c.op.toNat,by omega⟩
  have hul:u<13:=by omega
  obtain⟨SG,hSG⟩:∃SG,encT sgnB=SG:=⟨_,rfl⟩
  have hsl:SG.length=13:=by rw[←hSG];rfl
  obtain⟨S,hSe⟩:∃S,sgn u=S:=⟨_,rfl⟩
  have hsn:S.length≤8:=by rw[←hSe];exact sgn_len _
  have hsg:=sgn_get u hul
  rw[hSG,hSe] at hsg
  have hsc:=FSg_call
  rw[hSG] at hsc
  obtain⟨tl,htl⟩:∃tl,tailB c=tl:=⟨_,rfl⟩
  have ht:kG c=[46]++(c.attr++([32]++(S++([32]++tl)))):=by unfold kG;rw[if_neg h1,hu,hSe,htl]
  rw[ht] at hl ⊢
  simp at hl
  obtain⟨hp1,e1,B1,fr1⟩:=wsF hS (Nat.le_succ nx) hag ([46]++(c.attr++([32]++(S++[32])))) (by simp) (by simp;omega)
  have f1:hp1 nx=some ⟨25,7,false,[c.enc]⟩:=by rw[fr1 nx (Nat.le_refl _) (by omega),hH1]
  rw[hH] at e1
  simp at e1
  have mx1:1+c.attr.length≤maxLen:=by unfold maxLen;omega
  have mx2:c.attr.length+1+1≤maxLen:=by unfold maxLen;omega
  have mx3:c.attr.length+1+1+S.length≤maxLen:=by unfold maxLen;omega
  have mx4:c.attr.length+(S.length+1)+1+1≤maxLen:=by unfold maxLen;omega
  have hu1:((u:Int)==1)=false:=beq_eq_false_iff_ne.2 (by omega)
  have hu0:(0:Int)≤(u:Int):=by omega
  obtain⟨n1,m1,cur1,B1',hB1⟩:∃n1 m1 cur1,BSt TB UB hp1 n1 m1 cur1∧n1=nx+1+1∧m1=nx+1∧cur1=l++([46]++(c.attr++([32]++(S++[32])))):=⟨_,_,_,B1,rfl,rfl,rfl⟩
  clear B1 fr1
  refine qR (fun st=>st.σ 0=.ref 0 0 0∧st.σ 3=.ref nx 0 0∧st.nx=nx+1∧st.hp=upd hp nx (some ⟨25,7,false,[c.enc]⟩)) (by simp) ?_
  rintro⟨σ,hp2,nx2⟩ ⟨h0,h3,hn,hh⟩
  simp only at h0 h3 hn hh
  subst hn;subst hh
  refine qR (fun st=>st.σ 0=.ref 0 0 0∧st.σ 3=.ref nx 0 0∧st.nx=nx+1∧st.hp=upd hp nx (some ⟨25,7,false,[c.enc]⟩)) (by simp[h0,h3,hu,hu1]) ?_
  clear h0 h3 σ
  rintro⟨σ,hp2,nx2⟩ ⟨h0,h3,hn,hh⟩
  simp only at h0 h3 hn hh
  subst hn;subst hh
  refine qR (fun st=>st.σ 0=.ref 0 0 0∧st.σ 3=.ref nx 0 0∧st.nx=n1∧st.hp=hp1) ?_ ?_
  ·simp[h0,h3,hu,hu0,mx1,mx2,mx3,mx4,hsc,hsl,hsg,e1,hB1]
  clear h0 h3 σ
  rintro⟨σ,hp2,nx2⟩ ⟨h0,h3,hn,hh⟩
  simp only at h0 h3 hn hh
  subst hn;subst hh
  obtain⟨rfl,rfl,rfl⟩:=hB1
  obtain⟨T,hT⟩:∃T,T=l++([46]++(c.attr++([32]++(S++([32]++tl))))):=⟨_,rfl⟩
  rw[←hT]
  have hTl:T.length=l.length+(c.attr.length+(S.length+(tl.length+1)+1)+1):=by rw[hT];simp
  have hop:c.op=u:=hu
  refine qR (fun st=>st.σ 0=.ref 0 0 0∧st.σ 3=.ref nx 0 0∧st.hp nx=some ⟨25,7,false,[c.enc]⟩∧∃m cur,BSt TB UB st.hp st.nx m cur∧T=cur++xR [32,124,32] 0 (c.vals.map Val.show)) ?_ ?_
  ·cases hup:js c.op
   ·have htl2:tl=valsB c.vals:=by rw[←htl];unfold tailB;rw[hup];rfl
    by_cases hv:c.vals=[]
    ·have htl3:tl=[110,101,118,101,114]:=by rw[htl2,valsB,if_pos hv]
     have htll:tl.length=5:=by rw[htl3];rfl
     obtain⟨hp2,e2,B2,fr2⟩:=wsS B1' [110,101,118,101,114] (by simp) (by simp;omega)
     have f2:=(fr2 nx (by omega) (by omega) (by omega)).trans f1
     rw[hop] at hup
     simp[h0,h3,f1,hu,hup,hv,e2]
     exact⟨f2,_,_,B2,by rw[hT,htl3];simp[jZ]⟩
    ·have htl3:tl=xR [32,124,32] 0 (c.vals.map Val.show):=by rw[htl2,valsB,if_neg hv];rfl
     have hvl:((c.vals.length:Int)==0)=false:=beq_eq_false_iff_ne.2 fun e=>hv (List.eq_nil_of_length_eq_zero (by omega))
     rw[hop] at hup
     simp[h0,h3,f1,hu,hup,hvl]
     exact⟨_,_,B1',by rw[hT,htl3];simp⟩
   ·have hnv:c.vals=[]:=hok.none hk (by
     simp[js,inB] at hup
     simp[kN,inB]
     omega)
    have htl3:tl=quoB c.pat:=by rw[←htl];unfold tailB;rw[hup];rfl
    have hq:=jA c.pat
    have hx:=fun hp nx=>FXs_lit c.pat hp nx (by unfold lim;omega)
    obtain⟨hp2,e2,B2,fr2⟩:=wsS B1' (quoB c.pat) (by simp[quoB]) (by rw[←htl3];simp;omega)
    have f2:=(fr2 nx (by omega) (by omega) (by omega)).trans f1
    rw[hop] at hup
    simp[h0,h3,f1,hu,hup,hx,e2,zw,zJ,qy]
    exact⟨f2,_,_,B2,by rw[hT,htl3,hnv];simp[jZ]⟩
  clear h0 h3 σ B1' e1 f1
  rintro⟨σ,hp2,nx2⟩ ⟨h0,h3,f1,m,cur,B,he⟩
  simp only at h0 h3 f1 B
  simp[h0,h3,f1]
  refine zy (fun k σ hp nx=>σ 0=.ref 0 0 0∧σ 45=.sl 5 (c.vals.map Val.enc)∧σ 46=int c.vals.length∧σ 47=int k∧∃m cur,BSt TB UB hp nx m cur∧T=cur++xR [32,124,32] k ((c.vals.drop k).map Val.show)) c.vals.length ⟨by simp[h0],by simp,by simp,by simp,m,cur,B,by simpa using he⟩ ?_
  clear h0 h3 f1 B he σ m cur hp2 nx2
  rintro k σ hp nx hkl ⟨h0,h39,h40,h41,m,cur,B,he⟩
  by_cases hlt:k<c.vals.length
  ·have hw:IntKind.i64.wrap ((k:Int)+1)=(k:Int)+1:=zh (by omega) (by omega)
   have hmem:=List.getElem_mem hlt
   have hm:=q8 hmem
   have hxo:=hok.vals _ hmem
   rw[List.drop_eq_getElem_cons hlt,List.map_cons,vL] at he
   obtain⟨x,hx⟩:∃x,c.vals[k]=x:=⟨_,rfl⟩
   rw[hx] at he hm hxo
   have hw1:IntKind.i64.wrap 1=1:=by decide
   have hlen2:=congrArg List.length he
   have hxs:=fun hp nx=>FXs_call x hp nx hxo (by unfold lim;omega)
   have hmn:=B.2.2.2
   have B':=B.same (nx':=nx+1) (hp':=upd hp nx (some ⟨63,5,false,[x.enc]⟩)) (Nat.le_succ _) (fun j hj=>zp _ _ _ _ (by omega))
   by_cases hk0:k=0
   ·subst hk0
    simp at he hlen2
    obtain⟨hp2,e2,B2,_⟩:=wsS B' x.show (show_ne x hxo) (by omega)
    simp[h0,h39,h40,h41,hlt,hx,hxs,e2,hw1]
    exact⟨by omega,_,_,B2,by simpa using he⟩
   ·rw[if_neg hk0] at he
    have hk1:0<k:=by omega
    simp[hk0] at he hlen2
    obtain⟨hp2,e2,B2,fr2⟩:=wsS B' [32,124,32] (by simp) (by simp;omega)
    have f2:hp2 nx=some ⟨63,5,false,[x.enc]⟩:=by rw[fr2 nx (by omega) (by omega) (by omega)];simp
    obtain⟨hp3,e3,B3,_⟩:=wsS B2 x.show (show_ne x hxo) (by simp;omega)
    simp[h0,h39,h40,h41,hlt,hx,hk1,e2,f2,hxs,e3,hw]
    exact⟨by omega,_,_,B3,by simpa using he⟩
  ·obtain rfl:k=c.vals.length:=by omega
   rw[List.drop_length,List.map_nil,jZ,List.append_nil] at he
   simp[h0,h39,h40,h41,f16]
   exact B.ends he (by omega)
theorem printTest_sound:za prog 16 (hBld TB UB FPtt) :=
 ym (code:=_) goodpt2 ⟨func16,by kernel_rfl,rfl,by kernel_rfl⟩ _ _ FPtt fun xs t r h=>by
  obtain⟨c,rfl,⟨h1,h2,h3⟩,e⟩:=ze h
  injection e with e1 e2
  subst e1;subst e2
  exact⟨rfl,Nat.le_trans (Nat.le_refl 2) (by decide),fun hp nx l b0 K hS hlen=>printTest_eval c h1 h2 h3 hS hlen⟩
noncomputable def FPr (n:Nat):List PV→Option (List UInt8×PV):=zH (α:=Cnd) (fun c=>[.agg c.enc]) (fun c=>COk c∧c.cb≤lim∧c.cb≤n) (fun c=>(c.show,.tup []))
theorem cenc_injL {a b:Cnd} (e:[PV.agg a.enc]=[.agg b.enc]):a=b:=by simp only[List.cons.injEq,and_true,PV.agg.injEq] at e;exact xX e
theorem FPr_eq (n:Nat) (c:Cnd) (h:COk c∧c.cb≤lim∧c.cb≤n):FPr n [.agg c.enc]=some (c.show,.tup []):=zn (enc:=fun c:Cnd=>[.agg c.enc]) (a:=c) (fun _ _=>cenc_injL) h
theorem FPr_zero {f:FuncId} (hfn:∃fn,prog.funcs[f]?=some fn∧(fn.name== "runtime.NumGoroutine")=false∧fn.body.isNone=false):za prog f (hBld TB UB (FPr 0)):=by
 refine⟨hfn,fun args hp nx r hp' nx' h=>?_⟩
 unfold hBld at h
 split at h
 ·split at h
  ·obtain⟨_,_,h⟩:=Option.bind_eq_some_iff.1 h
   obtain⟨_,h,_⟩:=Option.bind_eq_some_iff.1 h
   obtain⟨c,_,hc,_⟩:=ze h
   have:=cb_pos c
   omega
  ·cases h
 ·cases h
theorem fzC (hp:Hp) (c:Cnd):zi hp [.agg c.enc]=some ([.agg c.enc],hp):=by simp only[zi,kA]
theorem noC (c:Cnd):([PV.agg c.enc].all PV.noOwn)=true:=by simp only[List.all_cons,noOwn_cenc,List.all_nil,Bool.and_self]
theorem prS {hp:Hp} {nx m:Nat} {cur:List UInt8} (n:Nat) (c:Cnd) (B:BSt TB UB hp nx m cur) (h:COk c∧c.cb≤lim∧c.cb≤n) (hl:cur.length+c.show.length≤140737488355328) :
  ∃hp',hBld TB UB (FPr n) [.ref 0 0 0,.agg c.enc] hp nx=some (.tup [],hp',nx+1)∧BSt TB UB hp' (nx+1) nx (cur++c.show)∧∀j,j≠0→j≠m→j≠nx→hp' j=hp j :=
 B.put (hp1:=hp) (fzC hp c) (noC c) (FPr_eq n c h) hl
noncomputable abbrev Cpr (n:Nat):Ctx:=zF prog [(8,hBld TB UB (FPr n)),(16,hBld TB UB FPtt),(17,hBld TB UB FWs),(18,hBld TB UB FWb)]
set_option maxHeartbeats 4000000 in
theorem print_eval (n:Nat) (c:Cnd) (hok:COk c) (hcb:c.cb≤lim) (hcn:c.cb≤n+1) {hp:Hp} {nx:Nat} {l:List UInt8} {b0:Blk} {K:Hp→Hp} (hS:BStart TB UB hp nx l b0 K) (hl:l.length+c.show.length≤140737488355328) :
  BEnds TB UB (qj (Cpr n) Tryz.f8 [.ref 0 0 0,.agg c.enc] hp nx) (l++c.show) (.tup []):=by
 refine jB rfl ?_
 have hcbe:=cb_eq c
 have hl1:=yo c.args
 have hkd:=hok.kind
 have hpos:=hS.pos
 obtain⟨H0,hH⟩:∃H0,H0=upd hp nx (some ⟨25,7,false,[c.enc]⟩):=⟨_,rfl⟩
 have hag:∀j,j<nx→H0 j=hp j:=fun j hj=>by rw[hH];exact zp _ _ _ _ (by omega)
 have hH1:H0 nx=some ⟨25,7,false,[c.enc]⟩:=by rw[hH];simp
 by_cases k4:c.kind=4
 ·have ht:c.show=kG c:=by rw[jF,if_pos k4]
  rw[ht] at hl ⊢
  obtain⟨hp1,e1,B1,_⟩:=hS.put (h:=H0) (nx':=nx+1) (F:=FPtt) (rest:=[.agg c.enc]) (Nat.le_succ _) hag (fzC _ c) (noC c) (FPtt_eq c ⟨hok,k4,hcb⟩) hl
  rw[hH] at e1
  simp[k4,e1,Tryz.f8]
  exact B1.ends (by simp) (by simp)
 unfold lim at hcb
 by_cases k5:c.kind=5
 ·have ht:c.show=[105,110,32]++c.name:=by rw[jF,if_neg k4,if_pos k5]
  rw[ht] at hl ⊢
  have hm:3+c.name.length≤maxLen:=by unfold maxLen;omega
  obtain⟨hp1,e1,B1,_⟩:=wsF hS (Nat.le_succ nx) hag ([105,110,32]++c.name) (by simp) hl
  rw[hH] at e1
  simp at e1
  simp[k5,hm,e1,Tryz.f8]
  exact B1.ends (by simp) (by simp)
 obtain⟨jl,hjl⟩:∃jl,Lib.join (c.args.map Cnd.show) [44,32]=jl:=⟨_,rfl⟩
 have hj0:jl=xR [44,32] 0 ((c.args.drop 0).map Cnd.show):=by rw[List.drop_zero,←hjl];rfl
 have ht:c.show=xu c.kind++([40]++(jl++[41])):=by rw[jF,if_neg k4,if_neg k5,hjl]
 have hwl:=wordC_len c.kind
 have hwn:xu c.kind++[40]≠[]:=by simp
 rw[ht] at hl ⊢
 obtain⟨T,hT⟩:∃T,T=l++(xu c.kind++([40]++(jl++[41]))):=⟨_,rfl⟩
 have hTl:T.length=l.length+(xu c.kind++([40]++(jl++[41]))).length:=by rw[hT];simp
 rw[←hT]
 rw[←hTl] at hl
 simp at hTl
 have mx4:4≤maxLen:=by unfold maxLen;omega
 obtain⟨H1,hH1'⟩:∃H1,H1=upd H0 (nx+1) (some ⟨9,1,true,[[.v (.string ⟨#[]⟩)],[.v (.string ⟨#[97,108,108]⟩)],[.v (.string ⟨#[97,110,121]⟩)],[.v (.string ⟨#[110,111,116]⟩)]]⟩):=⟨_,rfl⟩
 obtain⟨hp1,e1,B1,fr1⟩:=wsF (h:=H1) (nx':=nx+1+1) hS (by omega) (fun j hj=>by rw[hH1',zp _ _ _ _ (by omega)];exact hag j hj) (xu c.kind++[40]) hwn (by simp;omega)
 have f1:hp1 nx=some ⟨25,7,false,[c.enc]⟩:=by rw[fr1 nx (Nat.le_refl _) (by omega),hH1',zp _ _ _ _ (by omega),hH1]
 rw[hH1',hH] at e1
 refine qR (fun st=>st.σ 0=.ref 0 0 0∧st.σ 3=.ref nx 0 0∧st.nx=nx+1∧st.hp=upd hp nx (some ⟨25,7,false,[c.enc]⟩)) (by simp) ?_
 rintro⟨σ,hp2,nx2⟩ ⟨h0,h3,hn,hh⟩
 simp only at h0 h3 hn hh
 subst hn;subst hh
 have k4':(c.kind==4)=false:=beq_eq_false_iff_ne.2 k4
 have k5':(c.kind==5)=false:=beq_eq_false_iff_ne.2 k5
 refine qR (fun st=>st.σ 0=.ref 0 0 0∧st.σ 3=.ref nx 0 0∧st.nx=nx+1∧st.hp=upd hp nx (some ⟨25,7,false,[c.enc]⟩)) (by simp[h0,h3,k4',k5']) ?_
 clear h0 h3 σ
 rintro⟨σ,hp2,nx2⟩ ⟨h0,h3,hn,hh⟩
 simp only at h0 h3 hn hh
 subst hn;subst hh
 refine qR (fun st=>st.σ 0=.ref 0 0 0∧st.σ 3=.ref nx 0 0∧st.nx=nx+1+1+1∧st.hp=hp1) ?_ ?_
 ·rcases (by omega:c.kind=1∨c.kind=2∨c.kind=3) with hk | hk | hk
  ·rw[hk] at e1
   simp[xu] at e1
   simp[h0,h3,hk,zd,zl,zc,mx4,e1]
  ·rw[hk] at e1
   simp[xu] at e1
   simp[h0,h3,hk,zd,zl,zc,mx4,e1]
  ·rw[hk] at e1
   simp[xu] at e1
   simp[h0,h3,hk,zd,zl,zc,mx4,e1]
 clear h0 h3 σ
 rintro⟨σ,hp2,nx2⟩ ⟨h0,h3,hn,hh⟩
 simp only at h0 h3 hn hh
 subst hn;subst hh
 clear hag hH1 hH hH1' e1 fr1
 simp[h0,h3,f1]
 refine zy (fun k σ hp nx=>σ 0=.ref 0 0 0∧σ 29=.sl 7 (c.args.map Cnd.enc)∧σ 30=int c.args.length∧σ 31=int k∧∃m cur,BSt TB UB hp nx m cur∧T=cur++(xR [44,32] k ((c.args.drop k).map Cnd.show)++[41])) c.args.length ⟨by simp[h0],by simp,by simp,by simp,_,_,B1,by rw[hT,←hj0];simp⟩ ?_
 clear h0 h3 f1 B1 σ hS
 rintro k σ hp nx hkl ⟨h0,h39,h40,h41,m,cur,B,he⟩
 by_cases hlt:k<c.args.length
 ·have hw:IntKind.i64.wrap ((k:Int)+1)=(k:Int)+1:=zh (by omega) (by omega)
  have hmem:=List.getElem_mem hlt
  have hm:=vk hmem
  have hxo:=hok.args _ hmem
  rw[List.drop_eq_getElem_cons hlt,List.map_cons,vL] at he
  obtain⟨x,hx⟩:∃x,c.args[k]=x:=⟨_,rfl⟩
  rw[hx] at he hm hxo
  have hw1:IntKind.i64.wrap 1=1:=by decide
  have hlen2:=congrArg List.length he
  have hmn:=B.2.2.2
  have B':=B.same (nx':=nx+1) (hp':=upd hp nx (some ⟨25,7,false,[x.enc]⟩)) (Nat.le_succ _) (fun j hj=>zp _ _ _ _ (by omega))
  by_cases hk0:k=0
  ·subst hk0
   simp at he hlen2
   obtain⟨hp2,e2,B2,_⟩:=prS n x B' ⟨hxo,by unfold lim;omega,by omega⟩ (by omega)
   simp[h0,h39,h40,h41,hlt,hx,e2,hw1]
   exact⟨by omega,_,_,B2,by simpa using he⟩
  ·rw[if_neg hk0] at he
   have hk1:0<k:=by omega
   simp[hk0] at he hlen2
   obtain⟨hp2,e2,B2,fr2⟩:=wsS B' [44,32] (by simp) (by simp;omega)
   have f2:hp2 nx=some ⟨25,7,false,[x.enc]⟩:=by rw[fr2 nx (by omega) (by omega) (by omega)];simp
   obtain⟨hp3,e3,B3,_⟩:=prS n x B2 ⟨hxo,by unfold lim;omega,by omega⟩ (by simp;omega)
   simp[h0,h39,h40,h41,hlt,hx,hk1,e2,f2,e3,hw]
   exact⟨by omega,_,_,B3,by simpa using he⟩
 ·obtain rfl:k=c.args.length:=by omega
  rw[List.drop_length,List.map_nil,jZ,List.nil_append] at he
  have hlen2:=congrArg List.length he
  simp at hlen2
  obtain⟨hp2,e2,B2,_⟩:=wbS B 41 41 rfl (by omega)
  simp[h0,h39,h40,h41,e2,Tryz.f8]
  exact B2.ends he (by omega)
set_option maxRecDepth 100000 in
theorem print_sound:∀n,za prog 8 (hBld TB UB (FPr n)):=by
 intro n
 induction n with
 | zero=>exact FPr_zero ⟨_,func8,by kernel_rfl,by kernel_rfl⟩
 | succ n ih =>
   have hg:AM.Good (Cpr n) (fun g=>([]:List Nat).contains g):=zm mixed ⟨ih,by simp,printTest_sound,by simp,ws_sound,by simp,wb_sound,by simp,trivial⟩
   exact ym (code:=_) hg ⟨func8,by kernel_rfl,rfl,by kernel_rfl⟩ _ _ (FPr (n+1)) fun xs t r h=>by
    obtain⟨c,rfl,hc,e⟩:=ze h
    injection e with e1 e2
    subst e1;subst e2
    exact⟨rfl,Nat.le_trans (Nat.le_refl 2) (by decide),fun hp nx l b0 K hS hlen=>print_eval n c hc.1 hc.2.1 hc.2.2 hS hlen⟩
noncomputable def prtC (c:Cnd):List UInt8×Int:=if c.check=0 then (if (20000:Int)<c.show.length then ([],2) else (c.show,0)) else ([],c.check)
noncomputable def prtP (c:Cnd):PV:=.tup [str (prtC c).1,int (prtC c).2]
theorem cshow_ne (c:Cnd) (h:COk c):c.show≠[]:=by
 rw[jF]
 split
 ·unfold kG;split<;>simp
 split<;>simp
noncomputable abbrev Cprt:Ctx:=zF prog [(6,GC fun c=>int c.check),(8,hBld TB UB (FPr lim)),(9,hRun Cws Tryz.f9),(10,hStr)]
theorem goodprt:AM.Good Cprt (fun g=>([]:List Nat).contains g):=zm mixed ⟨ccheck_sound,by simp,print_sound lim,by simp,len_sound,by simp,str_sound,by simp,trivial⟩
theorem Print_eval (c:Cnd) (h:c.cb≤lim):zj Cprt Tryz.f4 [.agg c.enc]=some (prtP c):=by
 have hck:=fun hp nx=>yC (fun c=>int c.check) c hp nx h
 refine zb rfl ?_
 by_cases hz:c.check=0
 ·have hok:=cok_of_check c hz
  have hln:=cshow_len c hok
  unfold lim at h
  obtain⟨hp1,e1,u1,u2,_⟩:=newB_put (T:=TB) (U:=UB) (F:=FPr lim) (h:=upd (upd (fun _=>none) 0 (some ⟨25,7,false,[c.enc]⟩)) 1 (some ⟨34,2,false,[[.v (.pointer none),.nil]]⟩)) (id:=1) (nx':=2) (rest:=[.agg c.enc]) (by rw[zQ];rfl) (by omega) (fzC _ c) (noC c) (FPr_eq lim c ⟨hok,by unfold lim;omega,by unfold lim;omega⟩) (by omega)
  have e2:=fun nx=>len_run hp1 nx 1 2 c.show.length u1
  have e3:=fun nx=>str_call hp1 nx 1 2 c.show u1 u2 (cshow_ne c hok) (by omega)
  by_cases hl:(20000:Int)<c.show.length
  ·have hp:prtP c=.tup [str [],int 2]:=by unfold prtP prtC;rw[if_pos hz,if_pos hl]
   simp[hck,hz,e1,e2,hl,hp,qi,AM.freeze,zi,zA,zV,Tryz.f4]
  ·have hp:prtP c=.tup [str c.show,int 0]:=by unfold prtP prtC;rw[if_pos hz,if_neg hl]
   simp[hck,hz,e1,e2,e3,hl,hp,qi,AM.freeze,zi,zA,zV,Tryz.f4]
 ·have hp:prtP c=.tup [str [],int c.check]:=by unfold prtP prtC;rw[if_neg hz]
  have hz2:(c.check != 0)=true:=by simpa using hz
  simp[hck,hz2,hp,qi,AM.freeze,zi,zA,zV,Tryz.f4]
theorem Print_sound:za prog 4 (GC prtP) :=
 zO (fn:=Tryz.f4) goodprt ⟨_,func4,by kernel_rfl,rfl,by kernel_rfl⟩ false [] _ fun args r h=>by
  obtain⟨c,rfl,hc,rfl⟩:=j5 h
  exact⟨by simp[Tryz.f4],_,Print_eval c hc.1,zM _⟩
noncomputable abbrev Crpt:Ctx:=zF prog [(7,GC fun c=>int c.check),(11,zf false [] (FCw lim))]
theorem goodrpt:AM.GoodD False Crpt (fun g=>([]:List Nat).contains g):=zm mixed ⟨rccheck_sound.lax,by simp,rcwrite_sound lim,by simp,trivial⟩
theorem rPrint_eval (c:Cnd) (h:c.cb≤lim):zj Crpt Tryz.f5 [.agg c.enc]=some (prtP c):=by
 have hck:=fun hp nx=>yC (fun c=>int c.check) c hp nx h
 refine zb rfl ?_
 by_cases hz:c.check=0
 ·have hok:=cok_of_check c hz
  have hln:=cshow_len c hok
  have hw:=fun hp nx=>FCw_call lim c hp nx ⟨hok,h,h⟩
  unfold lim at h
  by_cases hl:(20000:Int)<c.show.length
  ·have hp:prtP c=.tup [str [],int 2]:=by unfold prtP prtC;rw[if_pos hz,if_pos hl]
   simp[hck,hz,hw,hl,hp,qi,AM.freeze,zi,zA,zV,Tryz.f5]
  ·have hp:prtP c=.tup [str c.show,int 0]:=by unfold prtP prtC;rw[if_pos hz,if_neg hl]
   simp[hck,hz,hw,hl,hp,qi,AM.freeze,zi,zA,zV,Tryz.f5]
 ·have hp:prtP c=.tup [str [],int c.check]:=by unfold prtP prtC;rw[if_neg hz]
  have hz2:(c.check != 0)=true:=by simpa using hz
  simp[hck,hz2,hp,qi,AM.freeze,zi,zA,zV,Tryz.f5]
theorem rPrint_sound:SpecD False prog 5 (GC prtP) :=
 zO (fn:=Tryz.f5) goodrpt ⟨_,func5,by kernel_rfl,rfl,by kernel_rfl⟩ false [] _ fun args r h=>by
  obtain⟨c,rfl,hc,rfl⟩:=j5 h
  exact⟨by simp[Tryz.f5],_,rPrint_eval c hc.1,zM _⟩
abbrev qcpL:List Nat:=[6,7]
noncomputable abbrev CcpL:Ctx:=zF prog [(4,GC prtP),(5,GC prtP),(6,GC fun c=>int c.check),(7,GC fun c=>int c.check)]
theorem goodcpL:AM.GoodD False CcpL (fun g=>qcpL.contains g):=zm mixed ⟨Print_sound.lax,by simp,rPrint_sound,by simp,ccheck_sound.lax,fun _=>zg _ _,rccheck_sound.lax,fun _=>zg _ _,trivial⟩
set_option maxHeartbeats 1000000 in
theorem cp_eval (c:Cnd) (h:c.cb≤lim):zj CcpL Tryz.f3 [.agg c.enc]=some (boo true):=by
 have h1:∀hp nx,GC prtP [.agg c.enc] hp nx=some (.tup [str (prtC c).1,int (prtC c).2],hp,nx):=fun hp nx=>yC prtP c hp nx h
 have h2:=fun hp nx=>yC (fun c=>int c.check) c hp nx h
 refine zb rfl ?_
 simp[h1,h2,Tryz.f3]
theorem cp_known:KnownF CcpL (fun g=>qcpL.contains g) 3 Tryz.f3:=⟨_,func3,by kernel_rfl,rfl,by kernel_rfl⟩
end Go.Proofs.YtpeaooooimfihaaGreatDoor
namespace Go.AM
open Go.RowKit Go.WideShapes Go.ChangeShapes
def yg {H:Type} (P:Program):Nat→TypeId→DataW H→List PV→Prop
 | 0,_,_,_=>False
 | n+1,t,d,pvs=>match P.underlying t with
   | some .bool=>∃b,d=.lit (.bool b)∧pvs=[.v (.bool b)]
   | some (.int k)=>∃i,d=.lit (.int k i)∧pvs=[.v (.int k i)]∧(Lit.int k i).wf=true
   | some .string=>∃s:ByteArray,d=.lit (.string s.data.toList)∧pvs=[.v (.string s)]∧s.size≤maxLen
   | some (.slice e)=>∃(es:List (List PV)) (ds:List (DataW H)),((d=.nil∧ds=[])∨∃sp,d=.slice ds sp)∧pvs=[.sl (P.cellsOf e) es]∧es.length≤maxLen∧Zip (fun c y=>c.length=P.cellsOf e∧yg P n e y c) es ds
   | some (.struct fs)=>∃ds:List (DataW H),d=.agg ds∧pvs.length=P.cellsOf t∧ds.length=fs.size∧∀(i:Nat) f y,fs[i]?=some f→ds[i]?=some y→yg P n f.type y ((pvs.drop f.offset).take (P.cellsOf f.type))
   | _=>False
section
variable {H:Type} {enc:TypeId×Value→H} {P:Program} {w:World} {sp:Nat→Bool} {held:Bool}
theorem trod_shows {T:List TypeId} (hT:typesOk P T=true):∀(fuel:Nat) (t:TypeId) (cs:List Value) (d:DataW H) (ps:List MemPlace),t∈T→DataW.trod enc P w 0 sp held fuel t cs=some (d,ps) →
  ∃pvs,Zip (fun pv u=>RepC w (fun b=>b<w.heap.size) pv u∧u.oneCell'=true) pvs cs∧cs.length=P.cellsOf t∧yg P fuel t d pvs
 | 0,t,cs,d,ps,_,h=>by simp[DataW.trod] at h
 | n+1,t,cs,d,ps,ht,h=>by
   have hTt:=List.all_eq_true.1 hT t ht
   have one:∀{pv:PV} {u:Value},RepC w (fun b=>b<w.heap.size) pv u→u.oneCell'=true→Zip (fun pv u=>RepC w (fun b=>b<w.heap.size) pv u∧u.oneCell'=true) [pv] [u]:=fun h1 h2=>.cons ⟨h1,h2⟩ .nil
   split at hTt
   ·rename_i hu
    obtain⟨b,rfl,hx⟩:=DataW.trod_bool hu h
    simp only[Prod.mk.injEq] at hx
    exact⟨[.v (.bool b)],one (.v rfl) rfl,by simpa using (by simpa using hTt:P.cellsOf t=1).symm,by unfold yg;rw[hu];exact⟨b,hx.1,rfl⟩⟩
   ·rename_i k hu
    obtain⟨i,rfl,hx,hwf⟩:=DataW.trod_int hu h
    simp only[Prod.mk.injEq] at hx
    exact⟨[.v (.int k i)],one (.v rfl) rfl,by simpa using (by simpa using hTt:P.cellsOf t=1).symm,by unfold yg;rw[hu];exact⟨i,hx.1,rfl,hwf⟩⟩
   ·rename_i hu
    obtain⟨s,rfl,hx,hs⟩:=DataW.trod_string hu h
    simp only[Prod.mk.injEq] at hx
    exact⟨[.v (.string s)],one (.v rfl) rfl,by simpa using (by simpa using hTt:P.cellsOf t=1).symm,by unfold yg;rw[hu];exact⟨s,hx.1,rfl,hs⟩⟩
   ·rename_i e hu
    simp only[Bool.and_eq_true,beq_iff_eq,decide_eq_true_eq,List.contains_iff_mem] at hTt
    obtain⟨⟨hc1,heT⟩,hce⟩:=hTt
    rcases DataW.trod_slice hu h with⟨rfl,hx⟩ | ⟨a,len,cap,elems,rest,m,hm,rfl,hx,_,hlc,hcm,hel,hget,_,_⟩
    ·simp only[Prod.mk.injEq] at hx
     refine⟨[.sl (P.cellsOf e) []],one ?_ rfl,by simp[hc1],by unfold yg;rw[hu];exact⟨[],[],.inl ⟨hx.1,rfl⟩,rfl,by simp,.nil⟩⟩
     exact RepC.sl (es:=[]) (s:=P.cellsOf e) (fun _ _=>undef) (by simp) (by simp) (by simp[maxLen]) (by simp) (by simp) (by simp)
    ·obtain rfl:m=n:=by omega
     simp only[Prod.mk.injEq] at hx
     have hel':∀i (hi:i<len),∃cs',w.cells? 0 (a.add (i*P.cellsOf e)) (P.cellsOf e)=some cs'∧DataW.trod enc P w 0 sp held m e cs'=some (elems[i]'(by omega)):=by
      intro i hi
      have h1:=hget i hi
      have h2:elems[i]?=some (elems[i]'(by omega)):=List.getElem?_eq_getElem (by omega)
      rw[h2] at h1
      cases hc:w.cells? 0 (a.add (i*P.cellsOf e)) (P.cellsOf e) with
      | none=>simp[hc] at h1
      | some cs'=>exact⟨cs',rfl,by simpa[hc] using h1⟩
     have hch:∀i,∃q:List Value×List PV,∀hi:i<len,w.cells? 0 (a.add (i*P.cellsOf e)) (P.cellsOf e)=some q.1∧Zip (fun pv u=>RepC w (fun b=>b<w.heap.size) pv u∧u.oneCell'=true) q.2 q.1∧q.1.length=P.cellsOf e∧yg P m e (elems[i]'(by omega)).1 q.2:=by
      intro i
      by_cases hi:i<len
      ·obtain⟨cs',g1,g3⟩:=hel' i hi
       obtain⟨pvs,q1,q2,q3⟩:=trod_shows hT m e cs' (elems[i]'(by omega)).1 (elems[i]'(by omega)).2 heT (by rw[g3])
       exact⟨(cs',pvs),fun _=>⟨g1,q1,q2,q3⟩⟩
      ·exact⟨([],[]),fun h=>absurd h hi⟩
     let q:Nat→List Value×List PV:=fun i=>Classical.choose (hch i)
     have hq:∀i (hi:i<len),w.cells? 0 (a.add (i*P.cellsOf e)) (P.cellsOf e)=some (q i).1∧Zip (fun pv u=>RepC w (fun b=>b<w.heap.size) pv u∧u.oneCell'=true) (q i).2 (q i).1∧(q i).1.length=P.cellsOf e∧yg P m e (elems[i]'(by omega)).1 (q i).2:=fun i=>Classical.choose_spec (hch i)
     have hlen:((List.range len).map fun i=>(q i).2).length=len:=by simp
     have hgi:∀(i:Nat) (c:List PV),((List.range len).map fun i=>(q i).2)[i]?=some c→i<len∧c=(q i).2:=by
      intro i c hi
      have hil:i<len:=by have:=(List.getElem?_eq_some_iff.1 hi).1;simpa using this
      rw[List.getElem?_map,List.getElem?_range hil] at hi
      simp at hi
      exact⟨hil,hi.symm⟩
     have key:RepC w (fun b=>b<w.heap.size) (.sl (P.cellsOf e) ((List.range len).map fun i=>(q i).2)) (.slice (some a) ((List.range len).map fun i=>(q i).2).length cap):=by
      refine .sl (fun i j=>((q i).1[j]?).getD undef) (by simp) (by rw[hlen];exact hlc) hcm (fun c hc=>?_) (fun i j c pv hi hj=>?_) (fun i j c pv hi hj=>?_)
      ·obtain⟨i,hi,rfl⟩:=List.mem_map.1 hc
       have h1:=hq i (List.mem_range.1 hi)
       rw[h1.2.1.1,h1.2.2.1]
      ·obtain⟨hil,rfl⟩:=hgi i c hi
       obtain⟨g1,g2,g3,_⟩:=hq i hil
       have hjl:j<(q i).1.length:=by rw[←g2.1];exact (List.getElem?_eq_some_iff.1 hj).1
       have hju:(q i).1[j]?=some ((q i).1[j]):=List.getElem?_eq_getElem hjl
       obtain⟨_,g5,g6⟩:=World.cells?_some g1
       have hcell:=g6 j (by omega)
       rw[add_add] at hcell
       rw[hju] at hcell
       refine⟨a,rfl,?_,?_,?_⟩
       ·have:=block_lt_of_cell hcell
        rwa [y7] at this
       ·rw[hcell,hju];rfl
       ·rw[hju];exact (g2.2 j pv _ hj hju).2
      ·obtain⟨hil,rfl⟩:=hgi i c hi
       obtain⟨g1,g2,g3,_⟩:=hq i hil
       have hjl:j<(q i).1.length:=by rw[←g2.1];exact (List.getElem?_eq_some_iff.1 hj).1
       have hju:(q i).1[j]?=some ((q i).1[j]):=List.getElem?_eq_getElem hjl
       rw[hju]
       exact (g2.2 j pv _ hj hju).1
     rw[hlen] at key
     refine⟨[.sl (P.cellsOf e) ((List.range len).map fun i=>(q i).2)],one key rfl,by simp[hc1],?_⟩
     unfold yg
     rw[hu]
     refine⟨_,elems.map (·.1),.inr ⟨_,hx.1⟩,rfl,by rw[hlen];omega,by rw[hlen,List.length_map,hel],fun i c y hi hy=>?_⟩
     obtain⟨hil,rfl⟩:=hgi i c hi
     have h1:=hq i hil
     rw[List.getElem?_map,List.getElem?_eq_getElem (by omega)] at hy
     simp only[Option.map_some,Option.some.injEq] at hy
     subst hy
     exact⟨by rw[h1.2.1.1,h1.2.2.1],h1.2.2.2⟩
   ·rename_i fs hu
    simp only[Bool.and_eq_true,beq_iff_eq,List.all_eq_true,List.contains_iff_mem] at hTt
    obtain⟨htile,hfT⟩:=hTt
    obtain⟨xs,m,hm,hx,hcl,hxl,hf⟩:=DataW.trod_struct hu h
    obtain rfl:m=n:=by omega
    simp only[Prod.mk.injEq] at hx
    obtain⟨pvs,g1,g2,g3⟩:=tile_join (P:=P) (R:=fun pv u=>RepC w (fun b=>b<w.heap.size) pv u∧u.oneCell'=true) (Q:=fun f pvs=>∀(i:Nat) y,fs[i]?=some f→(xs.map (·.1))[i]?=some y→yg P m f.type y pvs) fs.toList 0 (P.cellsOf t) cs htile hcl (fun f hfm=>by
     obtain⟨i,hi⟩:=List.getElem?_of_mem hfm
     have hfi:=hf i f (by simpa using hi)
     have hil:i<xs.length:=by rw[hxl];have:=(List.getElem?_eq_some_iff.1 hi).1;simpa using this
     rw[List.getElem?_eq_getElem hil] at hfi
     obtain⟨pvs,q1,_,q3⟩:=trod_shows hT m f.type _ (xs[i]).1 (xs[i]).2 (hfT f hfm) hfi
     refine⟨pvs,q1,fun k y hk hy=>?_⟩
     have hfk:=hf k f hk
     rw[hfi] at hfk
     rw[List.getElem?_map,←hfk] at hy
     simp only[Option.map_some,Option.some.injEq] at hy
     subst hy
     exact q3)
    refine⟨pvs,⟨by omega,fun j pv u hj hu'=>g2 j pv u hj (by simpa using hu')⟩,hcl,?_⟩
    unfold yg
    rw[hu]
    refine⟨xs.map (·.1),hx.1,by omega,by rw[List.length_map,hxl],fun i f y hi hy=>?_⟩
    have hfm:f∈fs.toList:=by
     have:fs.toList[i]?=some f:=by simpa using hi
     exact List.mem_of_getElem? this
    have:=(g3 f hfm).2 i y hi hy
    simpa using this
   ·cases hTt
theorem arg_struct {T:List TypeId} (hT:typesOk P T=true) {t:TypeId} {v:Value} {d:DataW H} {ps:List MemPlace} {r:Reach} {base:Nat} {fs:Array Field} (ht:t∈T) (hu:P.underlying t=some (.struct fs)) (hv:Value.okWide P w r base t v) (h:DataW.Trod enc P w 0 sp held t v d ps) :
  ∃(n:Nat) (pvs:List PV),yg P n t d pvs∧RepC w (fun b=>b<w.heap.size) (.agg pvs) v:=by
 obtain⟨n,hn⟩:=h
 obtain⟨pvs,h1,h2,h3⟩:=trod_shows hT n t v.cells.toList d ps ht hn
 obtain⟨cs,rfl,hsz⟩:=okWide_struct hu hv
 exact⟨n,pvs,h3,.agg (by have:=h1.1;simpa[Value.cells] using this) (fun j pv u hj hu'=>(h1.2 j pv u hj (by simpa[Value.cells] using hu')).1)⟩
end
end Go.AM
namespace Go.AM
open Go.RowKit
def shapeT (P:Program) (t:TypeId):Option (List (TypeId×Nat×Nat)):=match P.underlying t with
 | some (.struct fs)=>some (fs.toList.map fun f=>(f.type,f.offset,P.cellsOf f.type))
 | _=>none
def FieldsS {H:Type} (P:Program) (n:Nat) (pvs:List PV):List (TypeId×Nat×Nat)→List (DataW H)→Prop
 | [],[]=>True
 | (t,o,c)::l,y::ds=>yg P n t y ((pvs.drop o).take c)∧FieldsS P n pvs l ds
 | _,_=>False
section
variable {H:Type} {P:Program} {n:Nat} {t:TypeId} {d:DataW H} {pvs:List PV}
theorem fieldsS_of (n:Nat) (pvs:List PV):∀(fs:List Field) (ds:List (DataW H)),ds.length=fs.length→(∀(i:Nat) f y,fs[i]?=some f→ds[i]?=some y→yg P n f.type y ((pvs.drop f.offset).take (P.cellsOf f.type)))→FieldsS P n pvs (fs.map fun f=>(f.type,f.offset,P.cellsOf f.type)) ds
 | [],[],_,_=>trivial
 | f::fs,y::ds,hl,h=>⟨h 0 f y rfl rfl,fieldsS_of n pvs fs ds (by simpa using hl) fun i f' y' hf hy=>h (i+1) f' y' (by simpa using hf) (by simpa using hy)⟩
theorem shape_struct {l:List (TypeId×Nat×Nat)} (hs:shapeT P t=some l):∃fs,P.underlying t=some (.struct fs)∧l=fs.toList.map fun f=>(f.type,f.offset,P.cellsOf f.type):=by
 unfold shapeT at hs
 split at hs
 ·rename_i fs hu
  injection hs with hs
  exact⟨fs,hu,hs.symm⟩
 ·cases hs
theorem vC {l:List (TypeId×Nat×Nat)} (hs:shapeT P t=some l) (h:yg P n t d pvs):∃(m:Nat) (ds:List (DataW H)),n=m+1∧d=.agg ds∧pvs.length=P.cellsOf t∧FieldsS P m pvs l ds:=by
 obtain⟨fs,hu,rfl⟩:=shape_struct hs
 cases n with
 | zero=>exact h.elim
 | succ m =>
   unfold yg at h
   rw[hu] at h
   obtain⟨ds,h1,h2,h3,h4⟩:=h
   exact⟨m,ds,rfl,h1,h2,fieldsS_of m pvs fs.toList ds (by simpa using h3) fun i f y hf hy=>h4 i f y (by simpa using hf) hy⟩
theorem qc {o c:Nat} {l:List (TypeId×Nat×Nat)} {ds:List (DataW H)} (h:FieldsS P n pvs ((t,o,c)::l) ds):∃y ds',ds=y::ds'∧yg P n t y ((pvs.drop o).take c)∧FieldsS P n pvs l ds':=by
 cases ds with
 | nil=>exact h.elim
 | cons y ds'=>exact⟨y,ds',rfl,h.1,h.2⟩
theorem xz {ds:List (DataW H)} (h:FieldsS P n pvs [] ds):ds=[]:=by
 cases ds with
 | nil=>rfl
 | cons y ds'=>exact h.elim
theorem shows_int {k:IntKind} (hu:P.underlying t=some (.int k)) (h:yg P n t d pvs):∃i,d=.lit (.int k i)∧pvs=[.v (.int k i)]∧(Lit.int k i).wf=true:=by
 cases n with
 | zero=>exact h.elim
 | succ m=>unfold yg at h;rw[hu] at h;exact h
theorem yB (hu:P.underlying t=some .string) (h:yg P n t d pvs):∃l:List UInt8,d=.lit (.string l)∧pvs=[str l]∧l.length≤maxLen:=by
 cases n with
 | zero=>exact h.elim
 | succ m =>
   unfold yg at h
   rw[hu] at h
   obtain⟨s,h1,h2,h3⟩:=h
   exact⟨s.data.toList,h1,by rw[h2],h3⟩
theorem kI {e:TypeId} (hu:P.underlying t=some (.slice e)) (h:yg P n t d pvs):∃(m:Nat) (es:List (List PV)) (ds:List (DataW H)),n=m+1∧((d=.nil∧ds=[])∨∃sp,d=.slice ds sp)∧pvs=[.sl (P.cellsOf e) es]∧es.length≤maxLen∧Zip (fun c y=>c.length=P.cellsOf e∧yg P m e y c) es ds:=by
 cases n with
 | zero=>exact h.elim
 | succ m =>
   unfold yg at h
   rw[hu] at h
   obtain⟨es,ds,h1,h2,h3,h4⟩:=h
   exact⟨m,es,ds,rfl,h1,h2,h3,h4⟩
theorem kj {α:Type} {enc:α→List PV} {w:α→Nat} {b:DataW H→Nat} {R:List PV→DataW H→Prop} (hR:∀c y,R c y→∃a,c=enc a∧w a≤b y):∀{es:List (List PV)} {ds:List (DataW H)},Zip R es ds→∃l:List α,es=l.map enc∧(l.map w).sum≤(ds.map b).sum
 | [],[],_=>⟨[],rfl,by simp⟩
 | [],_::_,h=>by have:=h.1;simp at this
 | _::_,[],h=>by have:=h.1;simp at this
 | c::es,y::ds,h=>by
   obtain⟨a,rfl,ha⟩:=hR c y (h.2 0 c y rfl rfl)
   obtain⟨l,rfl,hl⟩:=kj hR (es:=es) (ds:=ds) ⟨by have:=h.1;simpa using this,fun i c' y' hc hy=>h.2 (i+1) c' y' (by simpa using hc) (by simpa using hy)⟩
   exact⟨a::l,rfl,by simp;omega⟩
end
end Go.AM
