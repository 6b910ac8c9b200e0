/-
Spans: minus of the program.
Spans: the reference's put.
The abstract machine, part 29: slices.Grow of nil; append of a whole slice.
slices.SortFunc off the kit's shelf, at this program (written after what the kit's layings print).
Spans: slices.Clone, Grow, Concat, and the comparison that sorts them.
Spans: slices.Concat of two; together.
Spans: together.
Spans: the reference's union and minus.
Spans: Union and Minus.
Spans: slices.Equal, awake, the two laws' evaluation.
Ranges: the checks of the program.
Books as data: their cells, their bulk.
Books: names, salts, times, the search for a layer and an experiment.
-/
import Derived.Test.YtanbabpnlgfcpaaGreatDoorG22
import Derived.Test.YtanbabpnlgfcpaaGreatDoorG17
import Derived.Shelf.Spec.SlicesGrow
import Derived.Shelf.SlSortCmp.WholeK
import Derived.Shelf.SlSortCmp.NoneTotal
import Derived.Test.YtanbabpnlgfcpaaGreatDoorProg
import Derived.Test.YtanbabpnlgfcpaaGreatDoorG13
import Derived.Test.YtanbabpnlgfcpaaGreatDoorG10
import Derived.Test.YtanbabpnlgfcpaaGreatDoorG19
set_option maxRecDepth 8000
namespace Go.Proofs.YtanbabpnlgfcpaaGreatDoor
open Go.Proofs.Tryz
open Go.RowKit Go.AM Go.SpanLaw
theorem mins_drop {a:List Sp} {j:Nat} (h:j<a.length) (b:List Sp):mins (a.drop j) b=ku a[j].1 a[j].2 (skip a[j].1 b)++mins (a.drop (j+1)) (skip a[j].1 b):=by
 rw[List.drop_eq_getElem_cons h,mins]
theorem skip_drop {b:List Sp} {k:Nat} (h:k<b.length) (x:Int):skip x (b.drop k)=if b[k].2≤x then skip x (b.drop (k+1)) else b.drop k:=by
 rw[List.drop_eq_getElem_cons h,skip]
theorem vM {b:List Sp} {k:Nat} (h:k<b.length) (f t:Int):ku f t (b.drop k)=if b[k].1<t then (if f<b[k].1 then (f,b[k].1)::ku (max f b[k].2) t (b.drop (k+1)) else ku (max f b[k].2) t (b.drop (k+1))) else if f<t then [(f,t)] else []:=by
 rw[List.drop_eq_getElem_cons h,ku]
theorem ownS_ne {hp:Hp} {nx e s id:Nat} {v:PV} {xs:List (List PV)} (h:OwnS hp nx e s v xs) (hi:nx≤id) (m:Nat):v≠.own id 0 m:=by
 rcases h with⟨rfl,rfl⟩ | ⟨i,h1,rfl,h2⟩
 ·simp
 ·intro h;injection h with h;omega
theorem minus_eval2 (a b:List Sp) (ha:okS a) (hb:okS b):∃r0,zi C0 f25 [.sl 2 (a.map encS),.sl 2 (b.map encS)]=some r0∧Stands r0 (.sl 2 ((mins a b).map encS)):=by
 obtain⟨hc,hbl,hp0,hl⟩:=ha
 obtain⟨hc',hbl',hp0',hl'⟩:=hb
 have hfin:∀{code},f25.body=some code→EvC C0 code ⟨jv [.sl 2 (a.map encS),.sl 2 (b.map encS)],fun _=>none,0⟩ (retK C0.P f25 (pureN (.sl 2 ((mins a b).map encS))))→∃r0,zi C0 f25 [.sl 2 (a.map encS),.sl 2 (b.map encS)]=some r0∧Stands r0 (.sl 2 ((mins a b).map encS)):=by
  intro code hb h
  obtain⟨r0,h1,h2⟩:=evalPureN_of hb h
  exact⟨r0,h1,fun w S u hr=>up_rep hr h2⟩
 refine hfin rfl ?_
 simp
 refine zC (fun j σ hp nx=>σ 1=.sl 2 (b.map encS)∧σ 11=.sl 2 (a.map encS)∧σ 12=int a.length∧σ 13=int j∧∃(k:Nat) (d:List Sp),σ 6=int k∧k≤b.length∧OwnS hp nx 45 2 (σ 5) (d.map encS)∧d++mins (a.drop j) (b.drop k)=mins a b∧d.length≤100001*j) a.length
  ⟨by simp,by simp,by simp,by simp,0,[],by simp,by simp,.inl (by simp),by simp,by simp⟩ ?_
 rintro j σ hp nx hj ⟨h1,h11,h12,h13,k0,d,h6,hk0,hO,hd,hdl⟩
 by_cases hlt:j<a.length
 ·have hw:IntKind.i64.wrap ((j:Int)+1)=(j:Int)+1:=zd (by omega) (by omega)
  have hmm:=List.getElem_mem hlt
  have b1:=hbl _ hmm
  have b2:=hp0 _ hmm
  have b3:=canon_pos hc _ hmm
  rw[mins_drop hlt] at hd
  have hO1:=hO.more (some ⟨45,2,false,[encS a[j]]⟩)
  simp[h1,h11,h12,h13,hlt]
  refine wv (fun st=>st.σ 1=.sl 2 (b.map encS)∧st.σ 11=.sl 2 (a.map encS)∧st.σ 12=int a.length∧st.σ 13=int j∧st.σ 8=.ref nx 0 0∧st.σ 5=σ 5∧st.hp=upd hp nx (some ⟨45,2,false,[encS a[j]]⟩)∧st.nx=nx+1∧∃k:Nat,st.σ 6=int k∧k≤b.length∧skip a[j].1 (b.drop k)=skip a[j].1 (b.drop k0))
   (fun st=>b.length - (jn (st.σ 6)).toNat) ⟨by simp[h1],by simp[h11],by simp[h12],by simp[h13],by simp,by simp,by simp,by simp,k0,by simp[h6],hk0,rfl⟩ ?_
  rintro⟨σ1,hp1,nx1⟩ ⟨g1,g11,g12,g13,g8,g5,ghp,gnx,k,g6,hk,hs⟩
  simp only at g1 g11 g12 g13 g8 g5 ghp gnx g6
  subst ghp;subst gnx
  by_cases hgo:∃hkl:k<b.length,b[k].2≤a[j].1
  ·obtain⟨hkl,hto⟩:=hgo
   have hwk:IntKind.i64.wrap ((k:Int)+1)=(k:Int)+1:=zd (by omega) (by omega)
   rw[skip_drop hkl,if_pos hto] at hs
   simp[g1,g5,g6,g8,g11,g12,g13,hkl,hto,hwk]
   exact⟨⟨k+1,by simp,hkl,hs⟩,by omega⟩
  have hsk:b.drop k=skip a[j].1 (b.drop k0):=by
   rw[←hs]
   by_cases hkl:k<b.length
   ·rw[skip_drop hkl,if_neg fun h=>hgo ⟨hkl,h⟩]
   ·rw[List.drop_eq_nil_of_le (by omega)];rfl
  rw[←hsk] at hd
  by_cases hkl:k<b.length
  ·have hto:¬b[k].2≤a[j].1:=fun h=>hgo ⟨hkl,h⟩
   simp[g1,g5,g6,g8,g11,g12,g13,hkl,hto]
   refine wv (fun st=>st.σ 1=.sl 2 (b.map encS)∧st.σ 11=.sl 2 (a.map encS)∧st.σ 12=int a.length∧st.σ 13=int j∧st.σ 8=.ref nx 0 0∧st.σ 6=int k∧st.hp nx=some ⟨45,2,false,[encS a[j]]⟩∧nx<st.nx∧∃(i:Nat) (f:Int) (d':List Sp),st.σ 10=int i∧st.σ 9=int f∧k≤i∧i≤b.length∧OwnS st.hp st.nx 45 2 (st.σ 5) (d'.map encS)∧(∀m,st.σ 5≠.own nx 0 m)∧d'++ku f a[j].2 (b.drop i)=d++ku a[j].1 a[j].2 (b.drop k)∧d'.length≤d.length+(i - k)∧0≤f∧f≤100000)
    (fun st=>b.length - (jn (st.σ 10)).toNat) ⟨by simp[g1],by simp[g11],by simp[g12],by simp[g13],by simp[g8],by simp[g6],by simp,by simp,k,a[j].1,d,by simp[g6],by simp,by omega,by omega,by simpa[g5] using hO1,by simp only[ze _ _ _ _ (by decide:(5:Nat)≠10),ne_eq];simp[g5];exact fun m=>ownS_ne hO (Nat.le_refl _) m,rfl,by omega,b2,by omega⟩ ?_
   rintro⟨σ2,hp2,nx2⟩ ⟨q1,q11,q12,q13,q8,q6,qhp,qnx,i,f,d',q10,q9,hki,hil,hO2,hne,hp',hdl',hf0,hf1⟩
   simp only at q1 q11 q12 q13 q8 q6 qhp qnx q10 q9 hO2 hne
   by_cases hgo2:∃hib:i<b.length,b[i].1<a[j].2
   ·obtain⟨hib,hbt⟩:=hgo2
    have hwi:IntKind.i64.wrap ((i:Int)+1)=(i:Int)+1:=zd (by omega) (by omega)
    rw[vM hib,if_pos hbt] at hp'
    have hbi:=hbl' _ (List.getElem_mem hib)
    have hbp:=hp0' _ (List.getElem_mem hib)
    obtain⟨mx,hmx,hmx0,hmx1⟩:∃mx,(if f<b[i].2 then b[i].2 else f)=mx∧0≤mx∧mx≤100000:=⟨_,rfl,by split<;>omega,by split<;>omega⟩
    have hmx2:max f b[i].2=mx:=by rw[←hmx];split<;>omega
    rw[hmx2] at hp'
    by_cases hfb:f<b[i].1
    ·rw[if_pos hfb] at hp'
     have hap:=hO2.append1 (P:=prog) (t:=40) (c:=encS (f,b[i].1)) el40 sz45 by45 ze45 rfl (by omega) (by rw[List.length_map];unfold maxLen;omega) (by rw[List.length_map];omega)
     have hbs:∀hp nx,zl prog hp nx 40 1 [(0,.agg (encS (f,b[i].1)))]=some (.own nx 0 1,upd hp nx (some ⟨45,2,true,[encS (f,b[i].1)]⟩),nx+1):=fun hp nx=>by
      simp[zl,zx,zm]
     simp only[encS] at hap hbs
     simp[q1,q6,q8,q9,q10,q11,q12,q13,qhp,hib,hbt,hfb,hwi,hmx,zK,z8,hbs,hap]
     refine⟨⟨?_,by omega,i+1,by simp,by omega,hib,d'++[(f,b[i].1)],?_,by omega,by rw[List.append_assoc];exact hp',by simp;omega,hmx0,hmx1⟩,by omega⟩
     ·rw[ze _ _ _ _ (by omega),qq hO2 _ _ hne,ze _ _ _ _ (by omega)]
      exact qhp
     ·rw[List.map_append,List.map_singleton]
      exact .inr ⟨nx2+1,by omega,by simp,by simp⟩
    ·rw[if_neg hfb] at hp'
     simp[q1,q6,q8,q9,q10,q11,q12,q13,qhp,hib,hbt,hfb,hwi,hmx]
     exact⟨⟨qnx,i+1,by simp,by omega,hib,d',hO2,hne,hp',by omega,hmx0,hmx1⟩,by omega⟩
   ·have hpe:ku f a[j].2 (b.drop i)=if f<a[j].2 then [(f,a[j].2)] else []:=by
     by_cases hib:i<b.length
     ·rw[vM hib,if_neg fun h=>hgo2 ⟨hib,h⟩]
     ·rw[List.drop_eq_nil_of_le (by omega),ku]
    rw[hpe] at hp'
    have hcond:(∃hib:i<b.length,¬b[i].1<a[j].2)∨¬i<b.length:=by
     by_cases hib:i<b.length
     ·exact .inl ⟨hib,fun h=>hgo2 ⟨hib,h⟩⟩
     ·exact .inr hib
    by_cases hft:f<a[j].2
    ·rw[if_pos hft] at hp'
     have hap:=hO2.append1 (P:=prog) (t:=40) (c:=encS (f,a[j].2)) el40 sz45 by45 ze45 rfl (by omega) (by rw[List.length_map];unfold maxLen;omega) (by rw[List.length_map];omega)
     have hbs:∀hp nx,zl prog hp nx 40 1 [(0,.agg (encS (f,a[j].2)))]=some (.own nx 0 1,upd hp nx (some ⟨45,2,true,[encS (f,a[j].2)]⟩),nx+1):=fun hp nx=>by
      simp[zl,zx,zm]
     simp only[encS] at hap hbs
     rcases hcond with⟨hib,hbt⟩ | hib
     all_goals simp[q1,q6,q8,q9,q10,q11,q12,q13,qhp,hib,hft,hw,zK,z8,hbs,hap]
     all_goals try simp[hbt,q1,q6,q8,q9,q10,q11,q12,q13,qhp,hib,hft,hw,zK,z8,hbs,hap]
     all_goals refine⟨hlt,k,rfl,hk,d'++[(f,a[j].2)],?_,by rw[hp',List.append_assoc];exact hd,by simp;omega⟩
     all_goals rw[List.map_append,List.map_singleton]
     all_goals exact .inr ⟨nx2+1,by omega,by simp,by simp⟩
    ·rw[if_neg hft,List.append_nil] at hp'
     rcases hcond with⟨hib,hbt⟩ | hib
     all_goals simp[q1,q6,q8,q9,q10,q11,q12,q13,qhp,hib,hft,hw]
     all_goals try simp[hbt,q1,q6,q8,q9,q10,q11,q12,q13,qhp,hib,hft,hw]
     all_goals exact⟨hlt,k,rfl,hk,d',hO2,by rw[hp',List.append_assoc];exact hd,by omega⟩
  ·simp[g1,g5,g6,g8,g11,g12,g13,hkl]
   refine wv (fun st=>st.σ 1=.sl 2 (b.map encS)∧st.σ 11=.sl 2 (a.map encS)∧st.σ 12=int a.length∧st.σ 13=int j∧st.σ 8=.ref nx 0 0∧st.σ 6=int k∧st.hp nx=some ⟨45,2,false,[encS a[j]]⟩∧nx<st.nx∧∃(i:Nat) (f:Int) (d':List Sp),st.σ 10=int i∧st.σ 9=int f∧k≤i∧i≤b.length∧OwnS st.hp st.nx 45 2 (st.σ 5) (d'.map encS)∧(∀m,st.σ 5≠.own nx 0 m)∧d'++ku f a[j].2 (b.drop i)=d++ku a[j].1 a[j].2 (b.drop k)∧d'.length≤d.length+(i - k)∧0≤f∧f≤100000)
    (fun st=>b.length - (jn (st.σ 10)).toNat) ⟨by simp[g1],by simp[g11],by simp[g12],by simp[g13],by simp[g8],by simp[g6],by simp,by simp,k,a[j].1,d,by simp[g6],by simp,by omega,by omega,by simpa[g5] using hO1,by simp only[ze _ _ _ _ (by decide:(5:Nat)≠10),ne_eq];simp[g5];exact fun m=>ownS_ne hO (Nat.le_refl _) m,rfl,by omega,b2,by omega⟩ ?_
   rintro⟨σ2,hp2,nx2⟩ ⟨q1,q11,q12,q13,q8,q6,qhp,qnx,i,f,d',q10,q9,hki,hil,hO2,hne,hp',hdl',hf0,hf1⟩
   simp only at q1 q11 q12 q13 q8 q6 qhp qnx q10 q9 hO2 hne
   by_cases hgo2:∃hib:i<b.length,b[i].1<a[j].2
   ·obtain⟨hib,hbt⟩:=hgo2
    have hwi:IntKind.i64.wrap ((i:Int)+1)=(i:Int)+1:=zd (by omega) (by omega)
    rw[vM hib,if_pos hbt] at hp'
    have hbi:=hbl' _ (List.getElem_mem hib)
    have hbp:=hp0' _ (List.getElem_mem hib)
    obtain⟨mx,hmx,hmx0,hmx1⟩:∃mx,(if f<b[i].2 then b[i].2 else f)=mx∧0≤mx∧mx≤100000:=⟨_,rfl,by split<;>omega,by split<;>omega⟩
    have hmx2:max f b[i].2=mx:=by rw[←hmx];split<;>omega
    rw[hmx2] at hp'
    by_cases hfb:f<b[i].1
    ·rw[if_pos hfb] at hp'
     have hap:=hO2.append1 (P:=prog) (t:=40) (c:=encS (f,b[i].1)) el40 sz45 by45 ze45 rfl (by omega) (by rw[List.length_map];unfold maxLen;omega) (by rw[List.length_map];omega)
     have hbs:∀hp nx,zl prog hp nx 40 1 [(0,.agg (encS (f,b[i].1)))]=some (.own nx 0 1,upd hp nx (some ⟨45,2,true,[encS (f,b[i].1)]⟩),nx+1):=fun hp nx=>by
      simp[zl,zx,zm]
     simp only[encS] at hap hbs
     simp[q1,q6,q8,q9,q10,q11,q12,q13,qhp,hib,hbt,hfb,hwi,hmx,zK,z8,hbs,hap]
     refine⟨⟨?_,by omega,i+1,by simp,by omega,hib,d'++[(f,b[i].1)],?_,by omega,by rw[List.append_assoc];exact hp',by simp;omega,hmx0,hmx1⟩,by omega⟩
     ·rw[ze _ _ _ _ (by omega),qq hO2 _ _ hne,ze _ _ _ _ (by omega)]
      exact qhp
     ·rw[List.map_append,List.map_singleton]
      exact .inr ⟨nx2+1,by omega,by simp,by simp⟩
    ·rw[if_neg hfb] at hp'
     simp[q1,q6,q8,q9,q10,q11,q12,q13,qhp,hib,hbt,hfb,hwi,hmx]
     exact⟨⟨qnx,i+1,by simp,by omega,hib,d',hO2,hne,hp',by omega,hmx0,hmx1⟩,by omega⟩
   ·have hpe:ku f a[j].2 (b.drop i)=if f<a[j].2 then [(f,a[j].2)] else []:=by
     by_cases hib:i<b.length
     ·rw[vM hib,if_neg fun h=>hgo2 ⟨hib,h⟩]
     ·rw[List.drop_eq_nil_of_le (by omega),ku]
    rw[hpe] at hp'
    have hcond:(∃hib:i<b.length,¬b[i].1<a[j].2)∨¬i<b.length:=by
     by_cases hib:i<b.length
     ·exact .inl ⟨hib,fun h=>hgo2 ⟨hib,h⟩⟩
     ·exact .inr hib
    by_cases hft:f<a[j].2
    ·rw[if_pos hft] at hp'
     have hap:=hO2.append1 (P:=prog) (t:=40) (c:=encS (f,a[j].2)) el40 sz45 by45 ze45 rfl (by omega) (by rw[List.length_map];unfold maxLen;omega) (by rw[List.length_map];omega)
     have hbs:∀hp nx,zl prog hp nx 40 1 [(0,.agg (encS (f,a[j].2)))]=some (.own nx 0 1,upd hp nx (some ⟨45,2,true,[encS (f,a[j].2)]⟩),nx+1):=fun hp nx=>by
      simp[zl,zx,zm]
     simp only[encS] at hap hbs
     rcases hcond with⟨hib,hbt⟩ | hib
     all_goals simp[q1,q6,q8,q9,q10,q11,q12,q13,qhp,hib,hft,hw,zK,z8,hbs,hap]
     all_goals try simp[hbt,q1,q6,q8,q9,q10,q11,q12,q13,qhp,hib,hft,hw,zK,z8,hbs,hap]
     all_goals refine⟨hlt,k,rfl,hk,d'++[(f,a[j].2)],?_,by rw[hp',List.append_assoc];exact hd,by simp;omega⟩
     all_goals rw[List.map_append,List.map_singleton]
     all_goals exact .inr ⟨nx2+1,by omega,by simp,by simp⟩
    ·rw[if_neg hft,List.append_nil] at hp'
     rcases hcond with⟨hib,hbt⟩ | hib
     all_goals simp[q1,q6,q8,q9,q10,q11,q12,q13,qhp,hib,hft,hw]
     all_goals try simp[hbt,q1,q6,q8,q9,q10,q11,q12,q13,qhp,hib,hft,hw]
     all_goals exact⟨hlt,k,rfl,hk,d',hO2,by rw[hp',List.append_assoc];exact hd,by omega⟩
 ·obtain rfl:j=a.length:=by omega
  rw[List.drop_length,mins,List.append_nil] at hd
  rw[hd] at hO
  have:=hO.freeze nx
  simp[h1,h11,h12,h13,f25]
  exact this
theorem minus2_sound:za prog 25 (zc false [] (FPP (fun a b=>.sl 2 ((mins a b).map encS)) fun a b=>okS a∧okS b)) :=
 xN (fn:=f25) wA ⟨_,func25,by kernel_rfl,rfl,by kernel_rfl⟩ false [] _ fun args r h w S vs hz=>by
  obtain⟨⟨a,b⟩,rfl,hx,rfl⟩:=zf h
  obtain⟨r0,h1,h2⟩:=minus_eval2 a b hx.1 hx.2
  exact⟨_,r0,hz,Nat.le_trans (Nat.le_refl 2) (by decide),h1,h2⟩
def blkS (l:List Sp):Option Blk:=if l.isEmpty then none else some ⟨45,2,true,l.map encS⟩
end Go.Proofs.YtanbabpnlgfcpaaGreatDoor
namespace Go.AM
open Go.RowKit Go.Proofs
variable {dr:Prop}
end Go.AM
namespace Go.Proofs
open Go.Shelf
open Go.AM
end Go.Proofs
namespace Go.Proofs.YtanbabpnlgfcpaaGreatDoor
open Go.Proofs.Tryz
open Go.RowKit Go.AM Go.SpanLaw
def Small (l:List Sp):Prop:=∀s∈l,0≤s.1∧s.1≤100000
def OwnB (hp:Hp) (nx:Nat) (v:PV) (d:List Sp):Prop:=(v=.nil∧d=[])∨(d≠[]∧∃id,id<nx∧v=.own id 0 d.length∧hp id=blkS d)
theorem OwnB.freeze {hp:Hp} {nx:Nat} {v:PV} {d:List Sp} (h:OwnB hp nx v d) (nx':Nat):pureN (.sl 2 (d.map encS)) v hp nx':=by
 rcases h with⟨rfl,rfl⟩ | ⟨hd,id,h1,rfl,h2⟩
 ·exact (OwnS.nil hp nx 45 2).freeze nx'
 ·have:OwnS hp nx 45 2 (.own id 0 d.length) (d.map encS):=.inr ⟨id,h1,by simp,by rw[h2,blkS,if_neg (by simpa using hd)]⟩
  exact this.freeze nx'
theorem eqS_drop {a b:List Sp} {k:Nat} (ha:k<a.length) (hb:k<b.length):decide (a.drop k=b.drop k)=(decide (a[k]=b[k])&&decide (a.drop (k+1)=b.drop (k+1))):=by
 rw[List.drop_eq_getElem_cons ha,List.drop_eq_getElem_cons hb,←Bool.decide_and]
 congr 1
 simp only[List.cons.injEq]
theorem binS (x y u v:Int):binA prog .neq 45 (.agg [int x,int y]) (.agg [int u,int v])=some (boo (!(decide (x=u)&&decide (y=v)))):=by
 simp only[binA,fl45,zY,if_true,Option.map_some,Bool.and_true]
 rfl
theorem sp_ext {a b:Sp}:decide (a=b)=(decide (a.1=b.1)&&decide (a.2=b.2)):=by
 simp[Prod.ext_iff]
theorem equalS_eval (a b:List Sp) (ha:a.length≤lim):zi C0 f110 [.sl 2 (a.map encS),.sl 2 (b.map encS)]=some (boo (decide (a=b))):=by
 unfold lim at ha
 refine zb rfl ?_
 by_cases hl:a.length=b.length
 case neg =>
  have hl':((a.length:Int) != (b.length:Int))=true:=by simp;omega
  have hne:¬a=b:=fun e=>hl (by rw[e])
  simp[hl',hne,f110]
 have hl':((a.length:Int) != (b.length:Int))=false:=by simp[hl]
 simp[hl']
 refine zC (fun k σ hp nx=>σ 0=.sl 2 (a.map encS)∧σ 1=.sl 2 (b.map encS)∧σ 12=int a.length∧σ 13=int k∧decide (a=b)=decide (a.drop k=b.drop k)) a.length
  ⟨by simp,by simp,by simp,by simp,by simp⟩ ?_
 rintro k σ hp nx hk ⟨h0,h1,h12,h13,hf⟩
 by_cases hlt:k<a.length
 ·have hlt':k<b.length:=by omega
  have hw:IntKind.i64.wrap ((k:Int)+1)=(k:Int)+1:=zd (by omega) (by omega)
  rw[eqS_drop hlt hlt',sp_ext] at hf
  by_cases d1:a[k].1=b[k].1<;>by_cases d2:a[k].2=b[k].2<;>simp only[d1,d2,decide_true,decide_false,Bool.and_true,Bool.true_and,Bool.and_false,Bool.false_and] at hf
  ·simp[h0,h1,h12,h13,hlt,hlt',d1,d2,hw,binS]
   exact⟨hlt,by simpa using hf⟩
  all_goals simp[h0,h1,h12,h13,hlt,hlt',d1,d2,hf,binS,f110]
 ·obtain rfl:k=a.length:=by omega
  rw[List.drop_length,hl,List.drop_length] at hf
  simp[h0,h1,h12,h13,hf,f110]
end Go.Proofs.YtanbabpnlgfcpaaGreatDoor
namespace Go.Proofs.YtanbabpnlgfcpaaGreatDoor
open Go.Proofs.Tryz
open Go.RowKit Go.AM
abbrev Rg:=Int×Int×Int
abbrev encG (r:Rg):List PV:=[int r.1,int r.2.1,int r.2.2]
theorem encG_inj {a b:Rg} (h:encG a=encG b):a=b:=by
 simp only[List.cons.injEq,and_true,PV.v.injEq,Value.int.injEq,true_and] at h
 exact Prod.ext h.1 (Prod.ext h.2.1 h.2.2)
theorem ranges_inj {a b:List Rg} (h:PV.sl 3 (a.map encG)=PV.sl 3 (b.map encG)):a=b:=by
 injection h with _ h
 exact qH (fun _ _=>encG_inj) h
def rgO (at_:Int) (r:Rg):Bool:=(r.1 != at_)||decide (r.2.1≤r.1)
def rgT (p:Option Int) (r:Rg):Bool:=match p with
 | none=>false
 | some q=>q==r.2.2
def rgF (n:Int):Int→Option Int→List Rg→Int
 | at_,_,[]=>if at_=100000 then 0 else 8
 | at_,p,r::l=>if inB r.2.2 0 (n - 1) then (if rgO at_ r then 8 else if (100000:Int)<r.2.1 then 1 else if rgT p r then 7 else rgF n r.2.1 (some r.2.2) l) else 1
theorem rgF_drop {l:List Rg} {k:Nat} (h:k<l.length) (n a:Int) (p:Option Int):rgF n a p (l.drop k)=if inB l[k].2.2 0 (n - 1) then (if rgO a l[k] then 8 else if (100000:Int)<l[k].2.1 then 1 else if rgT p l[k] then 7 else rgF n l[k].2.1 (some l[k].2.2) (l.drop (k+1))) else 1:=by
 rw[List.drop_eq_getElem_cons h,rgF]
def prevG (l:List Rg) (k:Nat):Option Int:=if k=0 then none else (l[k - 1]?).map (·.2.2)
def qy (l:List Rg) (n:Int):Int:=if l.length=0 then 9 else if (200:Int)<l.length then 2 else rgF n 0 none l
theorem withinF_sound:za prog 109 (zc false [] (F3 inB)) :=
 zJ (fn:=f109) wA ⟨_,func109,by kernel_rfl,rfl,by kernel_rfl⟩ false [] _ fun args r h=>by
  obtain⟨a,b,c,rfl,rfl⟩:=F3_inv h
  exact⟨by simp[f109],_,zb rfl (by simp[f109,inB]),zI _⟩
noncomputable abbrev Cwf:Ctx:=zA prog [(109,zc false [] (F3 inB))]
theorem checkRanges_eval (l:List Rg) (n:Int) (hn:1≤n∧n≤20):zi Cwf f82 [.sl 3 (l.map encG),int n]=some (int (qy l n)):=by
 refine zb rfl ?_
 have hn1:IntKind.i64.wrap (n - 1)=n - 1:=zd (by omega) (by omega)
 rw[qy]
 by_cases c1:l.length=0
 ·have:l=[]:=List.length_eq_zero_iff.1 c1
  subst this
  simp[f82]
 have c1':¬l=[]:=fun h=>c1 (by rw[h];rfl)
 have c0:((l.length:Int)==0)=false:=by simpa using c1'
 by_cases c2:(200:Int)<l.length
 ·simp[c0,c1,c1',c2,f82]
 simp[c0,c1,c1',c2]
 refine zC (fun k σ hp nx=>σ 0=.sl 3 (l.map encG)∧σ 1=int n∧σ 14=.sl 3 (l.map encG)∧σ 15=int l.length∧σ 16=int k∧∃a:Int,σ 5=int a∧rgF n 0 none l=rgF n a (prevG l k) (l.drop k)) l.length
  ⟨by simp,by simp,by simp,by simp,by simp,0,by simp,by simp[prevG]⟩ ?_
 rintro k σ hp nx hk ⟨h0,h1,h14,h15,h16,a,h5,hf⟩
 by_cases hlt:k<l.length
 ·have hw:IntKind.i64.wrap ((k:Int)+1)=(k:Int)+1:=zd (by omega) (by omega)
  rw[rgF_drop hlt] at hf
  cases d1:inB l[k].2.2 0 (n - 1)
  case false =>
   rw[d1] at hf
   simp at hf
   simp[h0,h1,h5,h14,h15,h16,hlt,hn1,d1,hf,f82]
  simp only[d1,if_true] at hf
  have eo:((l[k].1 != a)||decide (l[k].2.1≤l[k].1))=rgO a l[k]:=rfl
  cases d2:rgO a l[k]
  case true =>
   rw[d2] at eo hf
   simp only[if_true] at hf
   simp[h0,h1,h5,h14,h15,h16,hlt,hn1,d1,eo,hf,f82]
  rw[d2] at eo
  simp only[d2,Bool.false_eq_true,if_false] at hf
  by_cases d3:(100000:Int)<l[k].2.1
  ·rw[if_pos d3] at hf
   simp[h0,h1,h5,h14,h15,h16,hlt,hn1,d1,eo,d3,hf,f82]
  rw[if_neg d3] at hf
  have hpv:prevG l (k+1)=some l[k].2.2:=by simp[prevG,hlt]
  by_cases k0:k=0
  ·subst k0
   simp only[prevG,if_true,rgT,Bool.false_eq_true,if_false] at hf
   have w1:IntKind.i64.wrap 1=1:=zd (by omega) (by omega)
   simp[h0,h1,h5,h14,h15,h16,hlt,hn1,d1,eo,d3,w1]
   exact⟨hlt,by rw[hf,hpv];simp⟩
  ·obtain⟨j,rfl⟩:∃j,k=j+1:=⟨k - 1,by omega⟩
   have hj:j<l.length:=by omega
   have wj:IntKind.i64.wrap ((j:Int)+1 - 1)=(j:Int):=by rw[zd (by omega) (by omega)];omega
   have wj':IntKind.i64.wrap (j:Int)=(j:Int):=zd (by omega) (by omega)
   have j1:((j:Int)+1).toNat=j+1:=by omega
   have j2:0<(j:Int)+1:=by omega
   have j3:0≤(j:Int)+1:=by omega
   have j4:(j:Int)+1<l.length:=by omega
   have wk:IntKind.i64.wrap ((j:Int)+1+1)=(j:Int)+1+1:=zd (by omega) (by omega)
   have hpj:prevG l (j+1)=some l[j].2.2:=by simp[prevG,hj]
   have et:(l[j].2.2==l[j+1].2.2)=rgT (some l[j].2.2) l[j+1]:=rfl
   rw[hpj] at hf
   cases d4:rgT (some l[j].2.2) l[j+1]
   ·rw[d4] at et
    simp only[d4,Bool.false_eq_true,if_false] at hf
    simp[h0,h1,h5,h14,h15,h16,hlt,hj,hn1,d1,eo,d3,et,wj,wj',j1,j2,j3,j4,wk]
    exact⟨by omega,by rw[hf,hpv]⟩
   ·rw[d4] at et
    simp only[d4,if_true] at hf
    simp[h0,h1,h5,h14,h15,h16,hlt,hj,hn1,d1,eo,d3,et,wj,wj',j1,j2,j3,j4,hf,f82]
 ·obtain rfl:k=l.length:=by omega
  rw[List.drop_length,rgF] at hf
  by_cases ha:a=100000
  ·rw[if_pos ha] at hf
   simp[h0,h1,h5,h14,h15,h16,ha,hf,f82]
  ·rw[if_neg ha] at hf
   have ha':(a != 100000)=true:=by simpa using ha
   simp[h0,h1,h5,h14,h15,h16,ha',hf,f82]
noncomputable def FRN (out:List Rg→Int→PV) (pre:List Rg→Int→Prop):List PV→Option PV:=zG (α:=List Rg×Int) (fun a=>[.sl 3 (a.1.map encG),int a.2]) (fun a=>pre a.1 a.2) (fun a=>out a.1 a.2)
theorem FRN_call (out:List Rg→Int→PV) (pre:List Rg→Int→Prop) (l:List Rg) (n:Int) (hp:Hp) (nx:Nat) (h:pre l n):zc false [] (FRN out pre) [.sl 3 (l.map encG),int n] hp nx=some (out l n,hp,nx) :=
 zt rfl (zn (enc:=fun a:List Rg×Int=>[PV.sl 3 (a.1.map encG),int a.2]) (a:=(l,n)) (fun a b e=>by
  obtain⟨a1,a2⟩:=a;obtain⟨b1,b2⟩:=b
  simp only[List.cons.injEq,and_true] at e
  rw[ranges_inj e.1,zD e.2]) h) (.inr rfl)
theorem j5:za prog 82 (zc false [] (FRN (fun l n=>int (qy l n)) fun _ n=>1≤n∧n≤20)) :=
 zJ (fn:=f82) (zk (q:=[109]) mixed ⟨withinF_sound,fun _=>zg _ _,trivial⟩:AM.Good Cwf _) ⟨_,func82,by kernel_rfl,rfl,by kernel_rfl⟩ false [] _ fun args r h=>by
  obtain⟨⟨l,n⟩,rfl,hn,rfl⟩:=zf h
  exact⟨Nat.le_trans (Nat.le_refl 2) (by decide),_,checkRanges_eval l n hn,zI _⟩
def Chain (n:Int):Int→Int→Option Int→List Rg→Prop
 | lo,hi,_,[]=>lo=hi
 | lo,hi,p,r::l=>r.1=lo∧r.1<r.2.1∧r.2.1≤hi∧0≤r.2.2∧r.2.2<n∧p≠some r.2.2∧Chain n r.2.1 hi (some r.2.2) l
theorem rgF_right:∀{n a:Int} {p:Option Int} {l:List Rg},rgF n a p l=0→Chain n a 100000 p l
 | _,_,_,[],h=>by
   unfold rgF at h
   split at h
   ·assumption
   ·cases h
 | n,a,p,r::l,h=>by
   unfold rgF at h
   split at h
   case isFalse=>cases h
   rename_i h1
   split at h
   case isTrue=>cases h
   rename_i h2
   split at h
   case isTrue=>cases h
   rename_i h3
   split at h
   case isTrue=>cases h
   rename_i h4
   simp only[inB,Bool.and_eq_true,decide_eq_true_eq] at h1
   simp only[rgO,Bool.or_eq_true,bne_iff_ne,ne_eq,decide_eq_true_eq,not_or,Decidable.not_not] at h2
   refine⟨h2.1,by omega,by omega,h1.1,by omega,?_,rgF_right h⟩
   rintro rfl
   exact h4 (by simp[rgT])
theorem Za {l:List Rg} {n:Int} (h:qy l n=0):Chain n 0 100000 none l∧l.length≤200∧0<l.length:=by
 unfold qy at h
 split at h
 ·cases h
 split at h
 ·cases h
 exact⟨rgF_right h,by omega,by omega⟩
end Go.Proofs.YtanbabpnlgfcpaaGreatDoor
namespace Go.Proofs.YtanbabpnlgfcpaaGreatDoor
open Go.Proofs.Tryz
open Go.RowKit Go.AM Go.SpanLaw
structure Lyr where
 name:List UInt8
 salt:List UInt8
 rest:Int
def Lyr.enc (x:Lyr):List PV:=[str x.name,str x.salt,int x.rest]
theorem lyr_inj {a b:Lyr} (h:a.enc=b.enc):a=b:=by
 cases a;cases b
 simp only[Lyr.enc,List.cons.injEq,and_true] at h
 rw[zM h.1,zM h.2.1,zD h.2.2]
structure Hld where
 name:List UInt8
 salt:List UInt8
 buckets:Int
 layers:List (List UInt8)
def Hld.enc (x:Hld):List PV:=[str x.name,str x.salt,int x.buckets,.sl 1 (encT x.layers)]
theorem hld_inj {a b:Hld} (h:a.enc=b.enc):a=b:=by
 cases a;cases b
 simp only[Hld.enc,List.cons.injEq,and_true] at h
 obtain⟨h1,h2,h3,h4⟩:=h
 injection h4 with _ h4
 rw[zM h1,zM h2,zD h3,qT h4]
structure Phs where
 at_:Int
 spans:List Sp
def Phs.enc (x:Phs):List PV:=[int x.at_,.sl 2 (x.spans.map encS)]
theorem phs_inj {a b:Phs} (h:a.enc=b.enc):a=b:=by
 cases a;cases b
 simp only[Phs.enc,List.cons.injEq,and_true] at h
 rw[zD h.1,yE h.2]
structure Xp where
 name:List UInt8
 layer:List UInt8
 flag:List UInt8
 cond:Cnd
 salt:List UInt8
 arms:List Rg
 phases:List Phs
def Xp.enc (x:Xp):List PV:=[str x.name,str x.layer,str x.flag]++x.cond.enc++[str x.salt,.sl 3 (x.arms.map encG),.sl 2 (x.phases.map Phs.enc)]
theorem zS (x:Xp):x.enc=[str x.name,str x.layer,str x.flag,int x.cond.kind,str x.cond.attr,int x.cond.op,.sl 5 (x.cond.vals.map Val.enc),str x.cond.pat,str x.cond.name,.sl 7 (x.cond.args.map Cnd.enc),str x.salt,.sl 3 (x.arms.map encG),.sl 2 (x.phases.map Phs.enc)]:=by
 unfold Xp.enc
 rw[ql]
 rfl
theorem xp_inj {a b:Xp} (h:a.enc=b.enc):a=b:=by
 have hc:a.cond.enc=b.cond.enc:=by
  rw[zS,zS] at h
  simp only[List.cons.injEq,and_true] at h
  rw[ql,ql]
  simp only[List.cons.injEq,and_true]
  exact⟨h.2.2.2.1,h.2.2.2.2.1,h.2.2.2.2.2.1,h.2.2.2.2.2.2.1,h.2.2.2.2.2.2.2.1,h.2.2.2.2.2.2.2.2.1,h.2.2.2.2.2.2.2.2.2.1⟩
 have hc':=xS hc
 rw[zS,zS] at h
 simp only[List.cons.injEq,and_true] at h
 obtain⟨h1,h2,h3,_,_,_,_,_,_,_,h4,h5,h6⟩:=h
 cases a;cases b
 simp only at *
 injection h6 with _ h6
 rw[zM h1,zM h2,zM h3,hc',zM h4,ranges_inj h5,qH (fun _ _=>phs_inj) h6]
structure Bk where
 layers:List Lyr
 holds:List Hld
 exps:List Xp
def Bk.enc (b:Bk):List PV:=[.sl 3 (b.layers.map Lyr.enc),.sl 4 (b.holds.map Hld.enc),.sl 13 (b.exps.map Xp.enc)]
theorem bk_inj {a b:Bk} (h:a.enc=b.enc):a=b:=by
 cases a;cases b
 simp only[Bk.enc,List.cons.injEq,and_true] at h
 obtain⟨h1,h2,h3⟩:=h
 injection h1 with _ h1
 injection h2 with _ h2
 injection h3 with _ h3
 rw[qH (fun _ _=>lyr_inj) h1,qH (fun _ _=>hld_inj) h2,qH (fun _ _=>xp_inj) h3]
def sumB {α:Type} (f:α→Nat) (l:List α):Nat:=(l.map f).sum
theorem qA {α:Type} {f:α→Nat}:∀{l:List α} {x:α},x∈l→f x≤sumB f l
 | y::l,x,h=>by
   simp only[sumB,List.map_cons,List.sum_cons]
   rcases List.mem_cons.1 h with rfl | h
   ·omega
   ·have:=qA (f:=f) h;simp only[sumB] at this;omega
theorem qg {α:Type} {f:α→Nat} (hf:∀x,1≤f x):∀l:List α,l.length≤sumB f l
 | []=>by simp
 | y::l=>by
   have:=qg hf l
   have:=hf y
   simp only[sumB,List.map_cons,List.sum_cons,List.length_cons] at *
   omega
def Lyr.cb (x:Lyr):Nat:=1+x.name.length+x.salt.length
def Hld.cb (x:Hld):Nat:=1+x.name.length+x.salt.length+sumB (fun s=>1+s.length) x.layers
def Phs.cb (x:Phs):Nat:=1+x.spans.length
def Xp.cb (x:Xp):Nat:=x.name.length+x.layer.length+x.flag.length+x.cond.cb+x.salt.length+x.arms.length+sumB Phs.cb x.phases
def Bk.cb (b:Bk):Nat:=sumB Lyr.cb b.layers+sumB Hld.cb b.holds+sumB Xp.cb b.exps
theorem vq (x:Lyr):1≤x.cb:=by unfold Lyr.cb;omega
theorem hld_pos (x:Hld):1≤x.cb:=by unfold Hld.cb;omega
theorem phs_pos (x:Phs):1≤x.cb:=by unfold Phs.cb;omega
theorem xp_pos (x:Xp):1≤x.cb:=by have:=cb_pos x.cond;unfold Xp.cb;omega
def wF (name before:List UInt8):Int:=if qh name=true then (if leB name before=true then 8 else 0) else 5
noncomputable def FSS2 (f:List UInt8→List UInt8→PV):List PV→Option PV:=zG (α:=List UInt8×List UInt8) (fun a=>[str a.1,str a.2]) (fun a=>a.1.length≤lim) (fun a=>f a.1 a.2)
theorem Zb (f:List UInt8→List UInt8→PV) (a b:List UInt8) (hp:Hp) (nx:Nat) (h:a.length≤lim) (hf:(f a b).flat=true):zc false [] (FSS2 f) [str a,str b] hp nx=some (f a b,hp,nx) :=
 zt rfl (zn (enc:=fun a:List UInt8×List UInt8=>[str a.1,str a.2]) (a:=(a,b)) ss_inj h) (.inl hf)
noncomputable abbrev Cnf:Ctx:=zA prog [(33,zc false [] (FS qh))]
theorem yh:za prog 79 (zc false [] (FSS2 fun a b=>int (wF a b))) :=
 zJ (fn:=f79) (zk (q:=[]) mixed ⟨wV,by simp,trivial⟩:AM.Good Cnf _) ⟨_,func79,by kernel_rfl,rfl,by kernel_rfl⟩ false [] _ fun args r h=>by
  obtain⟨⟨a,b⟩,rfl,ha,rfl⟩:=zf h
  have hle:(Op.bytesLess a b||a==b)=leB a b:=rfl
  refine⟨by simp[f79],_,zb rfl ?_,zI _⟩
  simp only at ha
  cases h1:qh a
  ·simp[ha,h1,wF,f79]
  ·cases h2:leB a b
   ·simp[ha,h1,hle,h2,wF,f79]
   ·simp[ha,h1,hle,h2,wF,f79]
def saltB (s:List UInt8):Bool:=inB s.length 1 40&&yA s
noncomputable abbrev Csl:Ctx:=zA prog [(32,zc false [] (F3 inB)),(19,zc false [] (FS yA))]
@[simp] theorem quietsl2:wy Csl 19:=qr (by rfl) (zg _ _)
theorem isSalt_sound:za prog 107 (zc false [] (FS saltB)) :=
 zJ (fn:=f107) (zk (q:=[32,19]) mixed ⟨yg,fun _=>zg _ _,kj,fun _=>zg _ _,trivial⟩:AM.Good Csl _) ⟨_,func107,by kernel_rfl,rfl,by kernel_rfl⟩ false [] _ fun args r h=>by
  obtain⟨l,rfl,hp,rfl⟩:=zf h
  exact⟨by simp[f107],_,zb rfl (by simp[hp,saltB,f107]),zI _⟩
def j6 (n:Int):Bool:=inB n 0 4000000000
noncomputable abbrev Ctm:Ctx:=zA prog [(32,zc false [] (F3 inB))]
theorem yF:za prog 15 (zc false [] (FIb j6)) :=
 zJ (fn:=f15) (zk (q:=[]) mixed ⟨yg,by simp,trivial⟩:AM.Good Ctm _) ⟨_,func15,by kernel_rfl,rfl,by kernel_rfl⟩ false [] _ fun args r h=>by
  obtain⟨a,rfl,rfl⟩:=FIb_inv h
  exact⟨by simp[f15],_,zb rfl (by simp[j6,f15]),zI _⟩
noncomputable def FKeyL:List PV→Option PV:=zG (α:=Lyr×List UInt8) (fun a=>[.agg a.1.enc,str a.2]) (fun _=>True) (fun a=>int (cmpB a.1.name a.2))
theorem FKeyL_call (x:Lyr) (s:List UInt8) (hp:Hp) (nx:Nat):zc false [] FKeyL [.agg x.enc,str s] hp nx=some (int (cmpB x.name s),hp,nx) :=
 zt (hp1:=hp) (show zh hp [.agg x.enc,str s]=some ([.agg x.enc,str s],hp) by simp[Lyr.enc]) (zn (enc:=fun a:Lyr×List UInt8=>[.agg a.1.enc,str a.2]) (a:=(x,s)) (fun a b e=>by
  obtain⟨a1,a2⟩:=a;obtain⟨b1,b2⟩:=b
  simp only[List.cons.injEq,and_true,PV.agg.injEq] at e
  rw[lyr_inj e.1,zM e.2]) trivial) (.inl rfl)
noncomputable abbrev CkeyL:Ctx:=zA prog [(67,zc false [] (F2S cmpB))]
theorem keyL_sound:za prog 66 (zc false [] FKeyL) :=
 zJ (fn:=f66) (zk (q:=[]) mixed ⟨qD,by simp,trivial⟩:AM.Good CkeyL _) ⟨_,func66,by kernel_rfl,rfl,by kernel_rfl⟩ false [] _ fun args r h=>by
  obtain⟨⟨x,s⟩,rfl,_,rfl⟩:=zf h
  exact⟨by simp[f66],_,zb rfl (by simp[f66,Lyr.enc]),zI _⟩
noncomputable def FBsL:List PV→Option PV:=zG (α:=List Lyr×List UInt8) (fun a=>[.sl 3 (a.1.map Lyr.enc),str a.2,.fn (.func 66) [] []]) (fun a=>a.1.length≤lim) (fun a=>.tup [int (bsN (a.1.map Lyr.name) a.2).1,boo (bsN (a.1.map Lyr.name) a.2).2])
theorem FBsL_call (l:List Lyr) (s:List UInt8) (hp:Hp) (nx:Nat) (h:l.length≤lim):zc false [] FBsL [.sl 3 (l.map Lyr.enc),str s,.fn (.func 66) [] []] hp nx=some (.tup [int (bsN (l.map Lyr.name) s).1,boo (bsN (l.map Lyr.name) s).2],hp,nx) :=
 zt rfl (zn (enc:=fun a:List Lyr×List UInt8=>[PV.sl 3 (a.1.map Lyr.enc),str a.2,.fn (.func 66) [] []]) (a:=(l,s)) (fun a b e=>by
  obtain⟨a1,a2⟩:=a;obtain⟨b1,b2⟩:=b
  simp only[List.cons.injEq,and_true] at e
  obtain⟨e1,e2⟩:=e
  injection e1 with _ e1
  rw[qH (fun _ _=>lyr_inj) e1,zM e2]) h) (.inl rfl)
noncomputable abbrev CbsL:Ctx:=zA prog [(66,zc false [] FKeyL)]
theorem bsL_eval (l:List Lyr) (s:List UInt8) (hl:l.length≤lim):zi CbsL f65 [.sl 3 (l.map Lyr.enc),str s,.fn (.func 66) [] []]=some (.tup [int (bsN (l.map Lyr.name) s).1,boo (bsN (l.map Lyr.name) s).2]):=by
 refine zb rfl ?_
 unfold lim at hl
 have hln:(l.map Lyr.name).length=l.length:=by simp
 simp
 refine wv (fun st=>st.σ 0=.sl 3 (l.map Lyr.enc)∧st.σ 1=str s∧st.σ 2=.fn (.func 66) [] []∧st.σ 8=int l.length∧∃lo hi:Nat,lo≤hi∧hi≤l.length∧st.σ 9=int lo∧st.σ 10=int hi∧bsGo (yD (l.map Lyr.name) s) 0 (l.map Lyr.name).length=bsGo (yD (l.map Lyr.name) s) lo hi)
  (fun st=>(jn (st.σ 10)).toNat - (jn (st.σ 9)).toNat) ⟨by simp,by simp,by simp,by simp,0,l.length,by simp,by simp,by simp,by simp,by rw[hln]⟩ ?_
 rintro⟨σ,hp,nx⟩ ⟨h0,h1,h2,h8,lo,hi,hlh,hhi,h9,h10,he⟩
 simp only at h0 h1 h2 h8 h9 h10
 by_cases hlt:lo<hi
 ·have hcall:=fun x hp nx=>FKeyL_call x s hp nx
  have w1:IntKind.i64.wrap ((lo:Int)+hi)=(lo:Int)+hi:=zd (by omega) (by omega)
  have hml:(lo+hi) / 2<l.length:=by omega
  obtain⟨m,hm⟩:∃m,m=(lo+hi) / 2:=⟨_,rfl⟩
  have hmid:IntKind.i64.wrap ((IntKind.u64.wrap ((lo:Int)+hi)).fdiv (2 ^ min 1 IntKind.u64.bits))=(m:Int):=by
   have e1:IntKind.u64.wrap ((lo:Int)+hi)=(lo:Int)+hi:=by rw[IntKind.wrap_u64];omega
   have e2:(2 ^ min 1 IntKind.u64.bits:Int)=2:=by decide
   rw[e1,e2,Int.fdiv_eq_ediv_of_nonneg _ (by omega),zd (by omega) (by omega)]
   omega
  have hml':m<l.length:=by omega
  have wm:IntKind.i64.wrap ((m:Int)+1)=(m:Int)+1:=zd (by omega) (by omega)
  have hla:yD (l.map Lyr.name) s m=decide (cmpB l[m].name s<0):=by simp[yD,hml']
  rw[yd (lo:=lo) hlt,←hm,hla] at he
  have hcm:=hcall l[m]
  simp only[Lyr.enc] at hcm
  by_cases hc:cmpB l[m].name s<0
  ·simp only[hc,decide_true,if_true] at he
   simp[h0,h1,h2,h8,h9,h10,hlt,w1,hmid,hml',hcm,hc,wm,Lyr.enc]
   exact⟨⟨m+1,hi,by omega,hhi,by omega,rfl,by rw[hln] at he;exact he⟩,by omega⟩
  ·simp only[hc,decide_false,Bool.false_eq_true,if_false] at he
   simp[h0,h1,h2,h8,h9,h10,hlt,w1,hmid,hml',hcm,hc,Lyr.enc]
   exact⟨⟨lo,m,by omega,by omega,rfl,rfl,by rw[hln] at he;exact he⟩,by omega⟩
 ·have he:bsGo (yD (l.map Lyr.name) s) 0 (l.map Lyr.name).length=lo:=by rw[he,jA (lo:=lo) hlt]
  have hcall:=fun x hp nx=>FKeyL_call x s hp nx
  unfold bsN
  rw[he]
  by_cases hlo:lo<l.length
  ·have hcm:=hcall l[lo]
   simp only[Lyr.enc] at hcm
   simp[h0,h1,h2,h8,h9,h10,hlt,hlo,hcm,Lyr.enc,f65,zU]
  ·have hlo':l[lo]?=none:=List.getElem?_eq_none (by omega)
   simp[h0,h1,h2,h8,h9,h10,hlt,hlo,hlo',f65,zU]
theorem bsL_sound:za prog 65 (zc false [] FBsL) :=
 zJ (fn:=f65) (zk (q:=[66]) mixed ⟨keyL_sound,fun _=>zg _ _,trivial⟩:AM.Good CbsL _) ⟨_,func65,by kernel_rfl,rfl,by kernel_rfl⟩ false [] _ fun args r h=>by
  obtain⟨⟨l,s⟩,rfl,hl,rfl⟩:=zf h
  exact⟨Nat.le_trans (Nat.le_refl 3) (by decide),_,bsL_eval l s hl,zI _⟩
noncomputable def FOfL:List PV→Option PV:=zG (α:=List Lyr×List UInt8) (fun a=>[.sl 3 (a.1.map Lyr.enc),str a.2]) (fun a=>a.1.length≤lim) (fun a=>.tup [int (bsN (a.1.map Lyr.name) a.2).1,boo (bsN (a.1.map Lyr.name) a.2).2])
theorem vr (l:List Lyr) (s:List UInt8) (hp:Hp) (nx:Nat) (h:l.length≤lim):zc false [] FOfL [.sl 3 (l.map Lyr.enc),str s] hp nx=some (.tup [int (bsN (l.map Lyr.name) s).1,boo (bsN (l.map Lyr.name) s).2],hp,nx) :=
 zt rfl (zn (enc:=fun a:List Lyr×List UInt8=>[PV.sl 3 (a.1.map Lyr.enc),str a.2]) (a:=(l,s)) (fun a b e=>by
  obtain⟨a1,a2⟩:=a;obtain⟨b1,b2⟩:=b
  simp only[List.cons.injEq,and_true] at e
  obtain⟨e1,e2⟩:=e
  injection e1 with _ e1
  rw[qH (fun _ _=>lyr_inj) e1,zM e2]) h) (.inl rfl)
noncomputable abbrev CofL:Ctx:=zA prog [(65,zc false [] FBsL)]
theorem vt:za prog 41 (zc false [] FOfL) :=
 zJ (fn:=f41) (zk (q:=[]) mixed ⟨bsL_sound,by simp,trivial⟩:AM.Good CofL _) ⟨_,func41,by kernel_rfl,rfl,by kernel_rfl⟩ false [] _ fun args r h=>by
  obtain⟨⟨l,s⟩,rfl,hl,rfl⟩:=zf h
  have hc:=fun hp nx=>FBsL_call l s hp nx hl
  exact⟨by simp[f41],_,zb rfl (by simp[hc,zU,f41]),zI _⟩
noncomputable def FKeyX:List PV→Option PV:=zG (α:=Xp×List UInt8) (fun a=>[.agg a.1.enc,str a.2]) (fun _=>True) (fun a=>int (cmpB a.1.name a.2))
theorem FKeyX_call (x:Xp) (s:List UInt8) (hp:Hp) (nx:Nat):zc false [] FKeyX [.agg x.enc,str s] hp nx=some (int (cmpB x.name s),hp,nx) :=
 zt (hp1:=hp) (show zh hp [.agg x.enc,str s]=some ([.agg x.enc,str s],hp) by simp[zS]) (zn (enc:=fun a:Xp×List UInt8=>[.agg a.1.enc,str a.2]) (a:=(x,s)) (fun a b e=>by
  obtain⟨a1,a2⟩:=a;obtain⟨b1,b2⟩:=b
  simp only[List.cons.injEq,and_true,PV.agg.injEq] at e
  rw[xp_inj e.1,zM e.2]) trivial) (.inl rfl)
noncomputable abbrev CkeyX:Ctx:=zA prog [(67,zc false [] (F2S cmpB))]
theorem keyX_sound:za prog 70 (zc false [] FKeyX) :=
 zJ (fn:=f70) (zk (q:=[]) mixed ⟨qD,by simp,trivial⟩:AM.Good CkeyX _) ⟨_,func70,by kernel_rfl,rfl,by kernel_rfl⟩ false [] _ fun args r h=>by
  obtain⟨⟨x,s⟩,rfl,_,rfl⟩:=zf h
  exact⟨by simp[f70],_,zb rfl (by simp[f70,zS]),zI _⟩
noncomputable def FBsX:List PV→Option PV:=zG (α:=List Xp×List UInt8) (fun a=>[.sl 13 (a.1.map Xp.enc),str a.2,.fn (.func 70) [] []]) (fun a=>a.1.length≤lim) (fun a=>.tup [int (bsN (a.1.map Xp.name) a.2).1,boo (bsN (a.1.map Xp.name) a.2).2])
theorem FBsX_call (l:List Xp) (s:List UInt8) (hp:Hp) (nx:Nat) (h:l.length≤lim):zc false [] FBsX [.sl 13 (l.map Xp.enc),str s,.fn (.func 70) [] []] hp nx=some (.tup [int (bsN (l.map Xp.name) s).1,boo (bsN (l.map Xp.name) s).2],hp,nx) :=
 zt rfl (zn (enc:=fun a:List Xp×List UInt8=>[PV.sl 13 (a.1.map Xp.enc),str a.2,.fn (.func 70) [] []]) (a:=(l,s)) (fun a b e=>by
  obtain⟨a1,a2⟩:=a;obtain⟨b1,b2⟩:=b
  simp only[List.cons.injEq,and_true] at e
  obtain⟨e1,e2⟩:=e
  injection e1 with _ e1
  rw[qH (fun _ _=>xp_inj) e1,zM e2]) h) (.inl rfl)
noncomputable abbrev CbsX:Ctx:=zA prog [(70,zc false [] FKeyX)]
theorem bsX_eval (l:List Xp) (s:List UInt8) (hl:l.length≤lim):zi CbsX f69 [.sl 13 (l.map Xp.enc),str s,.fn (.func 70) [] []]=some (.tup [int (bsN (l.map Xp.name) s).1,boo (bsN (l.map Xp.name) s).2]):=by
 refine zb rfl ?_
 unfold lim at hl
 have hln:(l.map Xp.name).length=l.length:=by simp
 simp
 refine wv (fun st=>st.σ 0=.sl 13 (l.map Xp.enc)∧st.σ 1=str s∧st.σ 2=.fn (.func 70) [] []∧st.σ 8=int l.length∧∃lo hi:Nat,lo≤hi∧hi≤l.length∧st.σ 9=int lo∧st.σ 10=int hi∧bsGo (yD (l.map Xp.name) s) 0 (l.map Xp.name).length=bsGo (yD (l.map Xp.name) s) lo hi)
  (fun st=>(jn (st.σ 10)).toNat - (jn (st.σ 9)).toNat) ⟨by simp,by simp,by simp,by simp,0,l.length,by simp,by simp,by simp,by simp,by rw[hln]⟩ ?_
 rintro⟨σ,hp,nx⟩ ⟨h0,h1,h2,h8,lo,hi,hlh,hhi,h9,h10,he⟩
 simp only at h0 h1 h2 h8 h9 h10
 by_cases hlt:lo<hi
 ·have hcall:=fun x hp nx=>FKeyX_call x s hp nx
  have w1:IntKind.i64.wrap ((lo:Int)+hi)=(lo:Int)+hi:=zd (by omega) (by omega)
  have hml:(lo+hi) / 2<l.length:=by omega
  obtain⟨m,hm⟩:∃m,m=(lo+hi) / 2:=⟨_,rfl⟩
  have hmid:IntKind.i64.wrap ((IntKind.u64.wrap ((lo:Int)+hi)).fdiv (2 ^ min 1 IntKind.u64.bits))=(m:Int):=by
   have e1:IntKind.u64.wrap ((lo:Int)+hi)=(lo:Int)+hi:=by rw[IntKind.wrap_u64];omega
   have e2:(2 ^ min 1 IntKind.u64.bits:Int)=2:=by decide
   rw[e1,e2,Int.fdiv_eq_ediv_of_nonneg _ (by omega),zd (by omega) (by omega)]
   omega
  have hml':m<l.length:=by omega
  have wm:IntKind.i64.wrap ((m:Int)+1)=(m:Int)+1:=zd (by omega) (by omega)
  have hla:yD (l.map Xp.name) s m=decide (cmpB l[m].name s<0):=by simp[yD,hml']
  rw[yd (lo:=lo) hlt,←hm,hla] at he
  have hcm:=hcall l[m]
  simp only[zS] at hcm
  by_cases hc:cmpB l[m].name s<0
  ·simp only[hc,decide_true,if_true] at he
   simp[h0,h1,h2,h8,h9,h10,hlt,w1,hmid,hml',hcm,hc,wm,zS]
   exact⟨⟨m+1,hi,by omega,hhi,by omega,rfl,by rw[hln] at he;exact he⟩,by omega⟩
  ·simp only[hc,decide_false,Bool.false_eq_true,if_false] at he
   simp[h0,h1,h2,h8,h9,h10,hlt,w1,hmid,hml',hcm,hc,zS]
   exact⟨⟨lo,m,by omega,by omega,rfl,rfl,by rw[hln] at he;exact he⟩,by omega⟩
 ·have he:bsGo (yD (l.map Xp.name) s) 0 (l.map Xp.name).length=lo:=by rw[he,jA (lo:=lo) hlt]
  have hcall:=fun x hp nx=>FKeyX_call x s hp nx
  unfold bsN
  rw[he]
  by_cases hlo:lo<l.length
  ·have hcm:=hcall l[lo]
   simp only[zS] at hcm
   simp[h0,h1,h2,h8,h9,h10,hlt,hlo,hcm,zS,f69,zU]
  ·have hlo':l[lo]?=none:=List.getElem?_eq_none (by omega)
   simp[h0,h1,h2,h8,h9,h10,hlt,hlo,hlo',f69,zU]
theorem bsX_sound:za prog 69 (zc false [] FBsX) :=
 zJ (fn:=f69) (zk (q:=[70]) mixed ⟨keyX_sound,fun _=>zg _ _,trivial⟩:AM.Good CbsX _) ⟨_,func69,by kernel_rfl,rfl,by kernel_rfl⟩ false [] _ fun args r h=>by
  obtain⟨⟨l,s⟩,rfl,hl,rfl⟩:=zf h
  exact⟨Nat.le_trans (Nat.le_refl 3) (by decide),_,bsX_eval l s hl,zI _⟩
noncomputable def FOfX:List PV→Option PV:=zG (α:=List Xp×List UInt8) (fun a=>[.sl 13 (a.1.map Xp.enc),str a.2]) (fun a=>a.1.length≤lim) (fun a=>.tup [int (bsN (a.1.map Xp.name) a.2).1,boo (bsN (a.1.map Xp.name) a.2).2])
theorem FOfX_call (l:List Xp) (s:List UInt8) (hp:Hp) (nx:Nat) (h:l.length≤lim):zc false [] FOfX [.sl 13 (l.map Xp.enc),str s] hp nx=some (.tup [int (bsN (l.map Xp.name) s).1,boo (bsN (l.map Xp.name) s).2],hp,nx) :=
 zt rfl (zn (enc:=fun a:List Xp×List UInt8=>[PV.sl 13 (a.1.map Xp.enc),str a.2]) (a:=(l,s)) (fun a b e=>by
  obtain⟨a1,a2⟩:=a;obtain⟨b1,b2⟩:=b
  simp only[List.cons.injEq,and_true] at e
  obtain⟨e1,e2⟩:=e
  injection e1 with _ e1
  rw[qH (fun _ _=>xp_inj) e1,zM e2]) h) (.inl rfl)
noncomputable abbrev CofX:Ctx:=zA prog [(69,zc false [] FBsX)]
theorem ofX_sound:za prog 44 (zc false [] FOfX) :=
 zJ (fn:=f44) (zk (q:=[]) mixed ⟨bsX_sound,by simp,trivial⟩:AM.Good CofX _) ⟨_,func44,by kernel_rfl,rfl,by kernel_rfl⟩ false [] _ fun args r h=>by
  obtain⟨⟨l,s⟩,rfl,hl,rfl⟩:=zf h
  have hc:=fun hp nx=>FBsX_call l s hp nx hl
  exact⟨by simp[f44],_,zb rfl (by simp[hc,zU,f44]),zI _⟩
end Go.Proofs.YtanbabpnlgfcpaaGreatDoor
