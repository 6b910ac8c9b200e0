/-
Spans: minus of the program.
Spans: the reference's put.
The abstract machine, part 29: slices.Grow of nil; append of a whole slice.
slices.SortFunc off the kit's shelf, at this program (written after what the kit's layings print).
Spans: slices.Clone, Grow, Concat, and the comparison that sorts them.
Spans: slices.Concat of two; together.
Spans: together.
Spans: the reference's union and minus.
Spans: Union and Minus.
Spans: slices.Equal, awake, the two laws' evaluation.
Ranges: the checks of the program.
-/
import Derived.Test.YtglppmnehgjolaaGreatDoorG18
import Derived.Test.YtglppmnehgjolaaGreatDoorG16
import Derived.Shelf.Spec.SlicesGrow
import Derived.Shelf.SlSortCmp.WholeK
import Derived.Shelf.SlSortCmp.NoneTotal
import Derived.Test.YtglppmnehgjolaaGreatDoorProg
import Derived.Test.YtglppmnehgjolaaGreatDoorG12
import Derived.Test.YtglppmnehgjolaaGreatDoorG11
set_option maxRecDepth 8000
namespace Go.Proofs.YtglppmnehgjolaaGreatDoor
open Go.Proofs.Tryz
open Go.RowKit Go.AM Go.SpanLaw
theorem mins_drop {a:List Sp} {j:Nat} (h:j<a.length) (b:List Sp):mins (a.drop j) b=jw a[j].1 a[j].2 (skip a[j].1 b)++mins (a.drop (j+1)) (skip a[j].1 b):=by
 rw[List.drop_eq_getElem_cons h,mins]
theorem skip_drop {b:List Sp} {k:Nat} (h:k<b.length) (x:Int):skip x (b.drop k)=if b[k].2≤x then skip x (b.drop (k+1)) else b.drop k:=by
 rw[List.drop_eq_getElem_cons h,skip]
theorem v7 {b:List Sp} {k:Nat} (h:k<b.length) (f t:Int):jw f t (b.drop k)=if b[k].1<t then (if f<b[k].1 then (f,b[k].1)::jw (max f b[k].2) t (b.drop (k+1)) else jw (max f b[k].2) t (b.drop (k+1))) else if f<t then [(f,t)] else []:=by
 rw[List.drop_eq_getElem_cons h,jw]
theorem ownS_ne {hp:Hp} {nx e s id:Nat} {v:PV} {xs:List (List PV)} (h:OwnS hp nx e s v xs) (hi:nx≤id) (m:Nat):v≠.own id 0 m:=by
 rcases h with⟨rfl,rfl⟩ | ⟨i,h1,rfl,h2⟩
 ·simp
 ·intro h;injection h with h;omega
theorem minus_eval2 (a b:List Sp) (ha:okS a) (hb:okS b):∃r0,zl C0 f32 [.sl 2 (a.map encS),.sl 2 (b.map encS)]=some r0∧Stands r0 (.sl 2 ((mins a b).map encS)):=by
 obtain⟨hc,hbl,hp0,hl⟩:=ha
 obtain⟨hc',hbl',hp0',hl'⟩:=hb
 have hfin:∀{code},f32.body=some code→EvC C0 code ⟨yD [.sl 2 (a.map encS),.sl 2 (b.map encS)],fun _=>none,0⟩ (retK C0.P f32 (pureN (.sl 2 ((mins a b).map encS))))→∃r0,zl C0 f32 [.sl 2 (a.map encS),.sl 2 (b.map encS)]=some r0∧Stands r0 (.sl 2 ((mins a b).map encS)):=by
  intro code hb h
  obtain⟨r0,h1,h2⟩:=jG hb h
  exact⟨r0,h1,fun w S u hr=>up_rep hr h2⟩
 refine hfin rfl ?_
 simp
 refine zD (fun j σ hp nx=>σ 1=.sl 2 (b.map encS)∧σ 11=.sl 2 (a.map encS)∧σ 12=int a.length∧σ 13=int j∧∃(k:Nat) (d:List Sp),σ 6=int k∧k≤b.length∧OwnS hp nx 67 2 (σ 5) (d.map encS)∧d++mins (a.drop j) (b.drop k)=mins a b∧d.length≤100001*j) a.length
  ⟨by simp,by simp,by simp,by simp,0,[],by simp,by simp,.inl (by simp),by simp,by simp⟩ ?_
 rintro j σ hp nx hj ⟨h1,h11,h12,h13,k0,d,h6,hk0,hO,hd,hdl⟩
 by_cases hlt:j<a.length
 ·have hw:IntKind.i64.wrap ((j:Int)+1)=(j:Int)+1:=zi (by omega) (by omega)
  have hmm:=List.getElem_mem hlt
  have b1:=hbl _ hmm
  have b2:=hp0 _ hmm
  have b3:=wN hc _ hmm
  rw[mins_drop hlt] at hd
  have hO1:=hO.more (some ⟨67,2,false,[encS a[j]]⟩)
  simp[h1,h11,h12,h13,hlt]
  refine jF (fun st=>st.σ 1=.sl 2 (b.map encS)∧st.σ 11=.sl 2 (a.map encS)∧st.σ 12=int a.length∧st.σ 13=int j∧st.σ 8=.ref nx 0 0∧st.σ 5=σ 5∧st.hp=upd hp nx (some ⟨67,2,false,[encS a[j]]⟩)∧st.nx=nx+1∧∃k:Nat,st.σ 6=int k∧k≤b.length∧skip a[j].1 (b.drop k)=skip a[j].1 (b.drop k0))
   (fun st=>b.length - (numAt (st.σ 6)).toNat) ⟨by simp[h1],by simp[h11],by simp[h12],by simp[h13],by simp,by simp,by simp,by simp,k0,by simp[h6],hk0,rfl⟩ ?_
  rintro⟨σ1,hp1,nx1⟩ ⟨g1,g11,g12,g13,g8,g5,ghp,gnx,k,g6,hk,hs⟩
  simp only at g1 g11 g12 g13 g8 g5 ghp gnx g6
  subst ghp;subst gnx
  by_cases hgo:∃hkl:k<b.length,b[k].2≤a[j].1
  ·obtain⟨hkl,hto⟩:=hgo
   have hwk:IntKind.i64.wrap ((k:Int)+1)=(k:Int)+1:=zi (by omega) (by omega)
   rw[skip_drop hkl,if_pos hto] at hs
   simp[g1,g5,g6,g8,g11,g12,g13,hkl,hto,hwk]
   exact⟨⟨k+1,by simp,hkl,hs⟩,by omega⟩
  have hsk:b.drop k=skip a[j].1 (b.drop k0):=by
   rw[←hs]
   by_cases hkl:k<b.length
   ·rw[skip_drop hkl,if_neg fun h=>hgo ⟨hkl,h⟩]
   ·rw[List.drop_eq_nil_of_le (by omega)];rfl
  rw[←hsk] at hd
  by_cases hkl:k<b.length
  ·have hto:¬b[k].2≤a[j].1:=fun h=>hgo ⟨hkl,h⟩
   simp[g1,g5,g6,g8,g11,g12,g13,hkl,hto]
   refine jF (fun st=>st.σ 1=.sl 2 (b.map encS)∧st.σ 11=.sl 2 (a.map encS)∧st.σ 12=int a.length∧st.σ 13=int j∧st.σ 8=.ref nx 0 0∧st.σ 6=int k∧st.hp nx=some ⟨67,2,false,[encS a[j]]⟩∧nx<st.nx∧∃(i:Nat) (f:Int) (d':List Sp),st.σ 10=int i∧st.σ 9=int f∧k≤i∧i≤b.length∧OwnS st.hp st.nx 67 2 (st.σ 5) (d'.map encS)∧(∀m,st.σ 5≠.own nx 0 m)∧d'++jw f a[j].2 (b.drop i)=d++jw a[j].1 a[j].2 (b.drop k)∧d'.length≤d.length+(i - k)∧0≤f∧f≤100000)
    (fun st=>b.length - (numAt (st.σ 10)).toNat) ⟨by simp[g1],by simp[g11],by simp[g12],by simp[g13],by simp[g8],by simp[g6],by simp,by simp,k,a[j].1,d,by simp[g6],by simp,by omega,by omega,by simpa[g5] using hO1,by simp only[zc _ _ _ _ (by decide:(5:Nat)≠10),ne_eq];simp[g5];exact fun m=>ownS_ne hO (Nat.le_refl _) m,rfl,by omega,b2,by omega⟩ ?_
   rintro⟨σ2,hp2,nx2⟩ ⟨q1,q11,q12,q13,q8,q6,qhp,qnx,i,f,d',q10,q9,hki,hil,hO2,hne,hp',hdl',hf0,hf1⟩
   simp only at q1 q11 q12 q13 q8 q6 qhp qnx q10 q9 hO2 hne
   by_cases hgo2:∃hib:i<b.length,b[i].1<a[j].2
   ·obtain⟨hib,hbt⟩:=hgo2
    have hwi:IntKind.i64.wrap ((i:Int)+1)=(i:Int)+1:=zi (by omega) (by omega)
    rw[v7 hib,if_pos hbt] at hp'
    have hbi:=hbl' _ (List.getElem_mem hib)
    have hbp:=hp0' _ (List.getElem_mem hib)
    obtain⟨mx,hmx,hmx0,hmx1⟩:∃mx,(if f<b[i].2 then b[i].2 else f)=mx∧0≤mx∧mx≤100000:=⟨_,rfl,by split<;>omega,by split<;>omega⟩
    have hmx2:max f b[i].2=mx:=by rw[←hmx];split<;>omega
    rw[hmx2] at hp'
    by_cases hfb:f<b[i].1
    ·rw[if_pos hfb] at hp'
     have hap:=hO2.append1 (P:=prog) (t:=38) (c:=encS (f,b[i].1)) el38 sz67 by67 ze67 rfl (by omega) (by rw[List.length_map];unfold maxLen;omega) (by rw[List.length_map];omega)
     have hbs:∀hp nx,zh prog hp nx 38 1 [(0,.agg (encS (f,b[i].1)))]=some (.own nx 0 1,upd hp nx (some ⟨67,2,true,[encS (f,b[i].1)]⟩),nx+1):=fun hp nx=>by
      simp[zh,zt,zj]
     simp only[encS] at hap hbs
     simp[q1,q6,q8,q9,q10,q11,q12,q13,qhp,hib,hbt,hfb,hwi,hmx,zI,zX,hbs,hap]
     refine⟨⟨?_,by omega,i+1,by simp,by omega,hib,d'++[(f,b[i].1)],?_,by omega,by rw[List.append_assoc];exact hp',by simp;omega,hmx0,hmx1⟩,by omega⟩
     ·rw[zc _ _ _ _ (by omega),qG hO2 _ _ hne,zc _ _ _ _ (by omega)]
      exact qhp
     ·rw[List.map_append,List.map_singleton]
      exact .inr ⟨nx2+1,by omega,by simp,by simp⟩
    ·rw[if_neg hfb] at hp'
     simp[q1,q6,q8,q9,q10,q11,q12,q13,qhp,hib,hbt,hfb,hwi,hmx]
     exact⟨⟨qnx,i+1,by simp,by omega,hib,d',hO2,hne,hp',by omega,hmx0,hmx1⟩,by omega⟩
   ·have hpe:jw f a[j].2 (b.drop i)=if f<a[j].2 then [(f,a[j].2)] else []:=by
     by_cases hib:i<b.length
     ·rw[v7 hib,if_neg fun h=>hgo2 ⟨hib,h⟩]
     ·rw[List.drop_eq_nil_of_le (by omega),jw]
    rw[hpe] at hp'
    have hcond:(∃hib:i<b.length,¬b[i].1<a[j].2)∨¬i<b.length:=by
     by_cases hib:i<b.length
     ·exact .inl ⟨hib,fun h=>hgo2 ⟨hib,h⟩⟩
     ·exact .inr hib
    by_cases hft:f<a[j].2
    ·rw[if_pos hft] at hp'
     have hap:=hO2.append1 (P:=prog) (t:=38) (c:=encS (f,a[j].2)) el38 sz67 by67 ze67 rfl (by omega) (by rw[List.length_map];unfold maxLen;omega) (by rw[List.length_map];omega)
     have hbs:∀hp nx,zh prog hp nx 38 1 [(0,.agg (encS (f,a[j].2)))]=some (.own nx 0 1,upd hp nx (some ⟨67,2,true,[encS (f,a[j].2)]⟩),nx+1):=fun hp nx=>by
      simp[zh,zt,zj]
     simp only[encS] at hap hbs
     rcases hcond with⟨hib,hbt⟩ | hib
     all_goals simp[q1,q6,q8,q9,q10,q11,q12,q13,qhp,hib,hft,hw,zI,zX,hbs,hap]
     all_goals try simp[hbt,q1,q6,q8,q9,q10,q11,q12,q13,qhp,hib,hft,hw,zI,zX,hbs,hap]
     all_goals refine⟨hlt,k,rfl,hk,d'++[(f,a[j].2)],?_,by rw[hp',List.append_assoc];exact hd,by simp;omega⟩
     all_goals rw[List.map_append,List.map_singleton]
     all_goals exact .inr ⟨nx2+1,by omega,by simp,by simp⟩
    ·rw[if_neg hft,List.append_nil] at hp'
     rcases hcond with⟨hib,hbt⟩ | hib
     all_goals simp[q1,q6,q8,q9,q10,q11,q12,q13,qhp,hib,hft,hw]
     all_goals try simp[hbt,q1,q6,q8,q9,q10,q11,q12,q13,qhp,hib,hft,hw]
     all_goals exact⟨hlt,k,rfl,hk,d',hO2,by rw[hp',List.append_assoc];exact hd,by omega⟩
  ·simp[g1,g5,g6,g8,g11,g12,g13,hkl]
   refine jF (fun st=>st.σ 1=.sl 2 (b.map encS)∧st.σ 11=.sl 2 (a.map encS)∧st.σ 12=int a.length∧st.σ 13=int j∧st.σ 8=.ref nx 0 0∧st.σ 6=int k∧st.hp nx=some ⟨67,2,false,[encS a[j]]⟩∧nx<st.nx∧∃(i:Nat) (f:Int) (d':List Sp),st.σ 10=int i∧st.σ 9=int f∧k≤i∧i≤b.length∧OwnS st.hp st.nx 67 2 (st.σ 5) (d'.map encS)∧(∀m,st.σ 5≠.own nx 0 m)∧d'++jw f a[j].2 (b.drop i)=d++jw a[j].1 a[j].2 (b.drop k)∧d'.length≤d.length+(i - k)∧0≤f∧f≤100000)
    (fun st=>b.length - (numAt (st.σ 10)).toNat) ⟨by simp[g1],by simp[g11],by simp[g12],by simp[g13],by simp[g8],by simp[g6],by simp,by simp,k,a[j].1,d,by simp[g6],by simp,by omega,by omega,by simpa[g5] using hO1,by simp only[zc _ _ _ _ (by decide:(5:Nat)≠10),ne_eq];simp[g5];exact fun m=>ownS_ne hO (Nat.le_refl _) m,rfl,by omega,b2,by omega⟩ ?_
   rintro⟨σ2,hp2,nx2⟩ ⟨q1,q11,q12,q13,q8,q6,qhp,qnx,i,f,d',q10,q9,hki,hil,hO2,hne,hp',hdl',hf0,hf1⟩
   simp only at q1 q11 q12 q13 q8 q6 qhp qnx q10 q9 hO2 hne
   by_cases hgo2:∃hib:i<b.length,b[i].1<a[j].2
   ·obtain⟨hib,hbt⟩:=hgo2
    have hwi:IntKind.i64.wrap ((i:Int)+1)=(i:Int)+1:=zi (by omega) (by omega)
    rw[v7 hib,if_pos hbt] at hp'
    have hbi:=hbl' _ (List.getElem_mem hib)
    have hbp:=hp0' _ (List.getElem_mem hib)
    obtain⟨mx,hmx,hmx0,hmx1⟩:∃mx,(if f<b[i].2 then b[i].2 else f)=mx∧0≤mx∧mx≤100000:=⟨_,rfl,by split<;>omega,by split<;>omega⟩
    have hmx2:max f b[i].2=mx:=by rw[←hmx];split<;>omega
    rw[hmx2] at hp'
    by_cases hfb:f<b[i].1
    ·rw[if_pos hfb] at hp'
     have hap:=hO2.append1 (P:=prog) (t:=38) (c:=encS (f,b[i].1)) el38 sz67 by67 ze67 rfl (by omega) (by rw[List.length_map];unfold maxLen;omega) (by rw[List.length_map];omega)
     have hbs:∀hp nx,zh prog hp nx 38 1 [(0,.agg (encS (f,b[i].1)))]=some (.own nx 0 1,upd hp nx (some ⟨67,2,true,[encS (f,b[i].1)]⟩),nx+1):=fun hp nx=>by
      simp[zh,zt,zj]
     simp only[encS] at hap hbs
     simp[q1,q6,q8,q9,q10,q11,q12,q13,qhp,hib,hbt,hfb,hwi,hmx,zI,zX,hbs,hap]
     refine⟨⟨?_,by omega,i+1,by simp,by omega,hib,d'++[(f,b[i].1)],?_,by omega,by rw[List.append_assoc];exact hp',by simp;omega,hmx0,hmx1⟩,by omega⟩
     ·rw[zc _ _ _ _ (by omega),qG hO2 _ _ hne,zc _ _ _ _ (by omega)]
      exact qhp
     ·rw[List.map_append,List.map_singleton]
      exact .inr ⟨nx2+1,by omega,by simp,by simp⟩
    ·rw[if_neg hfb] at hp'
     simp[q1,q6,q8,q9,q10,q11,q12,q13,qhp,hib,hbt,hfb,hwi,hmx]
     exact⟨⟨qnx,i+1,by simp,by omega,hib,d',hO2,hne,hp',by omega,hmx0,hmx1⟩,by omega⟩
   ·have hpe:jw f a[j].2 (b.drop i)=if f<a[j].2 then [(f,a[j].2)] else []:=by
     by_cases hib:i<b.length
     ·rw[v7 hib,if_neg fun h=>hgo2 ⟨hib,h⟩]
     ·rw[List.drop_eq_nil_of_le (by omega),jw]
    rw[hpe] at hp'
    have hcond:(∃hib:i<b.length,¬b[i].1<a[j].2)∨¬i<b.length:=by
     by_cases hib:i<b.length
     ·exact .inl ⟨hib,fun h=>hgo2 ⟨hib,h⟩⟩
     ·exact .inr hib
    by_cases hft:f<a[j].2
    ·rw[if_pos hft] at hp'
     have hap:=hO2.append1 (P:=prog) (t:=38) (c:=encS (f,a[j].2)) el38 sz67 by67 ze67 rfl (by omega) (by rw[List.length_map];unfold maxLen;omega) (by rw[List.length_map];omega)
     have hbs:∀hp nx,zh prog hp nx 38 1 [(0,.agg (encS (f,a[j].2)))]=some (.own nx 0 1,upd hp nx (some ⟨67,2,true,[encS (f,a[j].2)]⟩),nx+1):=fun hp nx=>by
      simp[zh,zt,zj]
     simp only[encS] at hap hbs
     rcases hcond with⟨hib,hbt⟩ | hib
     all_goals simp[q1,q6,q8,q9,q10,q11,q12,q13,qhp,hib,hft,hw,zI,zX,hbs,hap]
     all_goals try simp[hbt,q1,q6,q8,q9,q10,q11,q12,q13,qhp,hib,hft,hw,zI,zX,hbs,hap]
     all_goals refine⟨hlt,k,rfl,hk,d'++[(f,a[j].2)],?_,by rw[hp',List.append_assoc];exact hd,by simp;omega⟩
     all_goals rw[List.map_append,List.map_singleton]
     all_goals exact .inr ⟨nx2+1,by omega,by simp,by simp⟩
    ·rw[if_neg hft,List.append_nil] at hp'
     rcases hcond with⟨hib,hbt⟩ | hib
     all_goals simp[q1,q6,q8,q9,q10,q11,q12,q13,qhp,hib,hft,hw]
     all_goals try simp[hbt,q1,q6,q8,q9,q10,q11,q12,q13,qhp,hib,hft,hw]
     all_goals exact⟨hlt,k,rfl,hk,d',hO2,by rw[hp',List.append_assoc];exact hd,by omega⟩
 ·obtain rfl:j=a.length:=by omega
  rw[List.drop_length,mins,List.append_nil] at hd
  rw[hd] at hO
  have:=hO.freeze nx
  simp[h1,h11,h12,h13,f32]
  exact this
theorem minus_eval (a b:List Sp) (ha:zL a=0) (hb:zL b=0):∃r0,zl C0 f32 [.sl 2 (a.map encS),.sl 2 (b.map encS)]=some r0∧Stands r0 (.sl 2 ((mins a b).map encS)):=minus_eval2 a b (okS_of ha) (okS_of hb)
theorem minus2_sound:za prog 32 (zd false [] (FPP (fun a b=>.sl 2 ((mins a b).map encS)) fun a b=>okS a∧okS b)) :=
 yK (fn:=f32) q7 ⟨_,func32,by kernel_rfl,rfl,by kernel_rfl⟩ false [] _ fun args r h w S vs hz=>by
  obtain⟨⟨a,b⟩,rfl,hx,rfl⟩:=zg h
  obtain⟨r0,h1,h2⟩:=minus_eval2 a b hx.1 hx.2
  exact⟨_,r0,hz,Nat.le_trans (Nat.le_refl 2) (by decide),h1,h2⟩
theorem minus_sound:za prog 32 (zd false [] (FPP (fun a b=>.sl 2 ((mins a b).map encS)) fun a b=>zL a=0∧zL b=0)) :=
 yK (fn:=f32) q7 ⟨_,func32,by kernel_rfl,rfl,by kernel_rfl⟩ false [] _ fun args r h w S vs hz=>by
  obtain⟨⟨a,b⟩,rfl,hx,rfl⟩:=zg h
  obtain⟨r0,h1,h2⟩:=minus_eval a b hx.1 hx.2
  exact⟨_,r0,hz,Nat.le_trans (Nat.le_refl 2) (by decide),h1,h2⟩
def blkS (l:List Sp):Option Blk:=if l.isEmpty then none else some ⟨67,2,true,l.map encS⟩
end Go.Proofs.YtglppmnehgjolaaGreatDoor
namespace Go.AM
open Go.RowKit Go.Proofs
variable {dr:Prop}
def GrowOk (P:Program) (f e s by_:Nat):Prop :=
 (∀w,Calls P f #[.slice none 0 0,.int .i64 0] w fun r w'=>r=.returned (.slice none 0 0)∧w'=w) ∧
 ∀(n:Nat) (w:World),0<n→n*by_≤140737488355328→n≤4611686018427387904→Calls P f #[.slice none 0 0,.int .i64 n] w fun r w' =>
  ∃cap cur,cap≤maxLen∧cur.size=cap*s∧r=.returned (.slice (some ⟨w.heap.size,0,none⟩) 0 cap)∧w'=w.drew.alloc (.cells cur e)
theorem GrowOk.of {P:Program} {ρ:Go.Shelf.Ren} (L:Lays8.n4 P ρ) {s by_:Nat} {z:List PV} (hs:zU P (ρ.t 25)=some s) (hb:wH P (ρ.t 25)=some by_) (hz:wt P (ρ.t 25)=some z) (hl:z.length=s) (h0:0<s):GrowOk P (ρ.f 4) (ρ.t 25) s by_:=by
 obtain⟨i,v,hi,hv,hc⟩:=kP hz
 obtain⟨i',hi',his⟩:=kO hs
 rw[hi] at hi'
 injection hi' with hi'
 subst hi'
 have hib:i.bytes=by_:=by
  unfold wH at hb
  rw[hi] at hb
  simpa using hb
 have hzc:v.cells.size=s:=by
  have:=(qX (w:=default) (S:=fun _=>False) hc).1
  rw[hl] at this
  simpa using this.symm
 refine⟨fun w=>Any8.slices_Grow_room L none 0 0 0 w (by omega) (by omega) (by omega) (by omega),fun n w hn hb hm=>?_⟩
 refine (Any8.slices_Grow_grow L i v hi hv (by omega) none 0 0 n [] w (by omega) (by omega) (by rw[hib];simpa using hb) (by omega) (by simp) (fun _=>rfl) (fun a h=>(nomatch h))).mono fun r w' hh=>?_
 obtain⟨rfl,rfl⟩:=hh
 rw[Nat.zero_add] at *
 have hge:n≤grownCap w n 0 (ρ.t 25):=grownCap_ge _ _ _ _
 refine⟨_,_,grownCap_le_maxLen w n 0 (ρ.t 25) (by unfold maxLen;omega),?_,rfl,rfl⟩
 rw[Array.size_append,Array.size_append,size_zeroCells,size_zeroCells,hzc]
 simp only[List.size_toArray,List.length_nil,Nat.zero_add,Nat.sub_zero]
 rw[←Nat.add_mul]
 congr 1
 omega
def hGrow (e s by_:Nat):AM.Spec:=fun args hp nx=>match args with
 | [.nil,.v (.int .i64 n)]=>if n=0 then some (.nil,hp,nx) else if 0<n∧n*by_≤140737488355328∧n≤4611686018427387904 then some (.own nx 0 0,upd hp nx (some ⟨e,s,true,[]⟩),nx+1) else none
 | _=>none
theorem hGrow_sound {P:Program} {f e s by_:Nat} (hfn:∃fn,P.funcs[f]?=some fn∧(fn.name== "runtime.NumGoroutine")=false∧fn.body.isNone=false) (hsz:zU P e=some s) (hs0:0<s) (h:GrowOk P f e s by_):ya dr P f (hGrow e s by_):=by
 refine⟨hfn,?_⟩
 intro args hp nx r hp' nx' hh w S G vs hi hz
 unfold hGrow at hh
 split at hh
 ·rename_i n
  obtain⟨u,us,rfl,hu,hz'⟩:=hz.uncons
  obtain⟨v,us,rfl,hv,hz'⟩:=hz'.uncons
  obtain rfl:=hz'.unnil
  obtain rfl:=hu.nil_inv
  obtain⟨rfl,_⟩:=hv.v_inv
  split at hh
  ·rename_i hn
   subst hn
   injection hh with hh
   injection hh with e1 hh
   injection hh with e2 e3
   subst e1;subst e2;subst e3
   refine (h.1 w).mono fun r w' hr=>?_
   obtain⟨rfl,rfl⟩:=hr
   exact⟨_,_,_,rfl,.refl hi,.c .nil⟩
  ·split at hh
   ·rename_i hn0 hc
    injection hh with hh
    injection hh with e1 hh
    injection hh with e2 e3
    subst e1;subst e2;subst e3
    obtain⟨m,rfl⟩:∃m:Nat,n=m:=⟨n.toNat,by omega⟩
    refine (h.2 m w (by omega) (Int.ofNat_le.1 (by rw[Int.natCast_mul];exact hc.2.1)) (by have:=hc.2.2;omega)).mono fun r w' hr=>?_
    obtain⟨cap,cur,h1,h2,rfl,rfl⟩:=hr
    have k1:=Stp.drew (dr:=dr) hi
    obtain⟨i,hii,hisz⟩:=kO hsz
    have k2:=Stp.alloc (dr:=dr) k1.inv cur e true [] s hs0 (by rw[hii];simp[hisz]) (by simp) (by simp) (by simp)
    refine⟨_,_,_,rfl,k1.trans k2,?_⟩
    have:=RepO.own (w:=w.drew.alloc (.cells cur e)) (S:=S) (G:=upd G nx ⟨w.drew.heap.size,cur.size,s⟩) (nx:=nx+1) (id:=nx) (off:=0) (n:=0) (cap:=cap) (by omega) (by omega) h1 (by rw[qg];show (0+cap)*s=cur.size;rw[h2,Nat.zero_add]) (by rw[qg];exact hs0)
    rw[qg] at this
    have e0:0*s=0:=Nat.zero_mul s
    simp only[e0] at this
    exact this
   ·cases hh
 ·cases hh
theorem OwnS.appendL {P:Program} {hp:Hp} {nx e s by_:Nat} {v:PV} {xs:List (List PV)} {ys:List (List PV)} {z:List PV} {t:TypeId} (h:OwnS hp nx e s v xs) (ht:qA P t=some e) (hs:zU P e=some s) (hb:wH P e=some by_) (hz:wt P e=some z)
  (hzl:z.length=s) (h0:0<s) (h1:xs.length+ys.length≤maxLen) (h2:(xs.length+ys.length)*by_≤140737488355328) :
  ∃v' hp' nx',zV P hp nx t t v (.sl s ys)=some (v',hp',nx')∧OwnS hp' nx' e s v' (xs++ys)∧nx≤nx':=by
 rcases h with⟨rfl,rfl⟩ | ⟨id,hid,rfl,hh⟩
 ·simp at h1 h2
  by_cases hy:ys=[]
  ·subst hy
   exact⟨.nil,hp,nx,by simp[zV,ht,hs,hb,hz,hzl,h0,AM.view,maxLen],.inl ⟨rfl,rfl⟩,Nat.le_refl _⟩
  ·exact⟨.own nx 0 ys.length,_,nx+1,by simp[zV,ht,hs,hb,hz,hzl,h0,h1,h2,AM.view,hy];rfl,.inr ⟨nx,by omega,by simp,by simp⟩,by omega⟩
 ·exact⟨.own nx 0 (xs.length+ys.length),_,nx+1,by simp[zV,ht,hs,hb,hz,hzl,h0,h1,h2,AM.view,hh];rfl,.inr ⟨nx,by omega,by simp,by simp⟩,by omega⟩
end Go.AM
namespace Go.Proofs
open Go.Shelf
def Tryz.sortS_ren:Go.Shelf.Ren:=⟨fun | 6=>63 | 15=>54 | 14=>90 | 28=>82 | 29=>83 | 20=>108 | 21=>109 | 22=>110 | 23=>111 | 24=>112 | 25=>113 | 26=>114 | 27=>115 | 46=>126 | 47=>102 | 48=>103 | 49=>127 | 50=>128 | 57=>135 | n=>n,fun | 22=>38 | 24=>67 | 25=>118 | 3=>3 | 39=>108 | 0=>0 | 53=>139 | 55=>141 | 4=>4 | 46=>133 | 45=>132 | 50=>48 | 5=>5 | 9=>9 | 66=>159 | 70=>163 | 76=>176 | 77=>173 | n=>n,fun | n=>n⟩
theorem Tryz.sortS:Go.Proofs.SlLaysF0.n6 prog Tryz.sortS_ren:={
 mixed:=by kernel_rfl
 f6:=⟨f63.name,by decide,func63.trans (congrArg some (by kernel_rfl))⟩
 f14:=⟨f90.name,by decide,func90.trans (congrArg some (by kernel_rfl))⟩
 f15:=func54.trans (congrArg some (by kernel_rfl))
 f20:=⟨f108.name,by decide,func108.trans (congrArg some (by kernel_rfl))⟩
 f21:=⟨f109.name,by decide,func109.trans (congrArg some (by kernel_rfl))⟩
 f22:=⟨f110.name,by decide,func110.trans (congrArg some (by kernel_rfl))⟩
 f23:=⟨f111.name,by decide,func111.trans (congrArg some (by kernel_rfl))⟩
 f24:=⟨f112.name,by decide,func112.trans (congrArg some (by kernel_rfl))⟩
 f25:=⟨f113.name,by decide,func113.trans (congrArg some (by kernel_rfl))⟩
 f26:=⟨f114.name,by decide,func114.trans (congrArg some (by kernel_rfl))⟩
 f27:=⟨f115.name,by decide,func115.trans (congrArg some (by kernel_rfl))⟩
 f28:=func82.trans (congrArg some (by kernel_rfl))
 f29:=func83.trans (congrArg some (by kernel_rfl))
 f46:=⟨f126.name,by decide,func126.trans (congrArg some (by kernel_rfl))⟩
 f47:=func102.trans (congrArg some (by kernel_rfl))
 f48:=func103.trans (congrArg some (by kernel_rfl))
 f49:=⟨f127.name,by decide,func127.trans (congrArg some (by kernel_rfl))⟩
 f50:=⟨f128.name,by decide,func128.trans (congrArg some (by kernel_rfl))⟩
 f57:=⟨f135.name,by decide,func135.trans (congrArg some (by kernel_rfl))⟩
 t0:=underlying0
 a0:=isAgg0
 z0:=sizeOf0
 v0:=zeroValue0
 t3:=underlying3
 a3:=isAgg3
 z3:=sizeOf3
 v3:=zeroValue3
 t4:=underlying4
 a4:=isAgg4
 z4:=sizeOf4
 v4:=zeroValue4
 t5:=underlying5
 a5:=isAgg5
 z5:=sizeOf5
 v5:=zeroValue5
 t9:=underlying9
 a9:=isAgg9
 z9:=sizeOf9
 v9:=zeroValue9
 t22:=underlying38
 a22:=isAgg38
 z22:=sizeOf38
 v22:=zeroValue38
 t25:=underlying118
 a25:=isAgg118
 z25:=sizeOf118
 v25:=zeroValue118
 t39:=underlying108
 a39:=isAgg108
 z39:=sizeOf108
 v39:=zeroValue108
 t45:=underlying132
 a45:=isAgg132
 z45:=sizeOf132
 v45:=zeroValue132
 t46:=underlying133
 a46:=isAgg133
 z46:=sizeOf133
 v46:=zeroValue133
 t50:=underlying48
 a50:=isAgg48
 z50:=sizeOf48
 v50:=zeroValue48
 t53:=underlying139
 a53:=isAgg139
 z53:=sizeOf139
 v53:=zeroValue139
 t55:=underlying141
 a55:=isAgg141
 z55:=sizeOf141
 v55:=zeroValue141
 t66:=underlying159
 a66:=isAgg159
 z66:=sizeOf159
 v66:=zeroValue159
 t70:=underlying163
 a70:=isAgg163
 z70:=sizeOf163
 v70:=zeroValue163
 t76:=underlying176
 a76:=isAgg176
 z76:=sizeOf176
 v76:=zeroValue176
 t77:=underlying173
 a77:=isAgg173
 z77:=sizeOf173
 v77:=zeroValue173 }
open Go.AM
theorem Tryz.sortS_ok:SortOk prog 63 2:=⟨fun _ _ enc hk h1 cf hO g blk off cap d w eg hcmp hH hblk hsz=>AnyQ.slices_SortFunc_eq Tryz.sortS 2 isAgg67 sizeOf67 enc hk h1 cf hO g #[] blk off cap d w eg hcmp hH hblk hsz,
 fun p cap fv w=>AnyF.slices_SortFunc_none Tryz.sortS p cap fv w⟩
def Tryz.growS_ren:Go.Shelf.Ren:=⟨fun | 4=>65 | n=>n,fun | 22=>38 | 25=>67 | 0=>0 | 3=>3 | 4=>4 | 9=>9 | 20=>20 | n=>n,fun | n=>n⟩
theorem Tryz.growS:Go.Proofs.Lays8.n4 prog Tryz.growS_ren:={
 mixed:=by kernel_rfl
 f4:=⟨f65.name,by decide,func65.trans (congrArg some (by kernel_rfl))⟩
 t0:=underlying0
 a0:=isAgg0
 z0:=sizeOf0
 v0:=zeroValue0
 t3:=underlying3
 a3:=isAgg3
 z3:=sizeOf3
 v3:=zeroValue3
 t4:=underlying4
 a4:=isAgg4
 z4:=sizeOf4
 v4:=zeroValue4
 t9:=underlying9
 a9:=isAgg9
 z9:=sizeOf9
 v9:=zeroValue9
 t20:=underlying20
 a20:=isAgg20
 z20:=sizeOf20
 v20:=zeroValue20
 t22:=underlying38
 a22:=isAgg38
 z22:=sizeOf38
 v22:=zeroValue38 }
end Go.Proofs
namespace Go.Proofs.YtglppmnehgjolaaGreatDoor
open Go.Proofs.Tryz
open Go.RowKit Go.AM Go.SpanLaw
theorem cloneS_eval (args:List PV) (r:Option Blk) (h:qx 67 2 args=some r):args.length≤f25.ntmps∧∃x hp nx,qq C0 f25 args (fun _=>none) 0=some (x,hp,nx)∧OwnR r x hp nx:=by
 unfold qx at h
 split at h
 ·injection h with h;subst h
  exact⟨by simp[f25],zn rfl (by simp[binA,qy,f25,OwnR])⟩
 ·injection h with h;subst h
  exact⟨by simp[f25],zn rfl (by simp[binA,qy,f25,OwnR,zh,zV,AM.view,maxLen,zt,zj])⟩
 ·rename_i es
  split at h
  ·rename_i hc
   obtain⟨rfl,hne,hl⟩:=hc
   injection h with h;subst h
   cases es with
   | nil=>exact absurd rfl hne
   | cons c es =>
     unfold lim at hl
     simp at hl
     have m1:es.length+1≤maxLen:=by unfold maxLen;omega
     have m2:(es.length+1)*16≤140737488355328:=by omega
     refine⟨by simp[f25],zn rfl ?_⟩
     simp[binA,qy,f25,OwnR,zh,zV,AM.view,zt,zj,m1,m2]
  ·cases h
 ·cases h
theorem vx:za prog 25 (qD [] (qx 67 2)) :=
 qw (fn:=f25) (code:=_) q7 ⟨func25,by kernel_rfl,rfl,by kernel_rfl⟩ [] _ cloneS_eval
theorem growS_sound:za prog 65 (hGrow 67 2 16) :=
 hGrow_sound ⟨_,func65,by decide,by kernel_rfl⟩ sz67 (by decide) (GrowOk.of Tryz.growS sz67 by67 ze67 rfl (by omega))
noncomputable def FSS (out:Sp→Sp→PV):List PV→Option PV:=zM (α:=Sp×Sp) (fun a=>[.agg (encS a.1),.agg (encS a.2)]) (fun _=>True) (fun a=>out a.1 a.2)
theorem FSS_call (out:Sp→Sp→PV) (a b:Sp) (hp:Hp) (nx:Nat):zd false [] (FSS out) [.agg (encS a),.agg (encS b)] hp nx=some (out a b,hp,nx) :=
 zJ rfl (zq (enc:=fun a:Sp×Sp=>[PV.agg (encS a.1),.agg (encS a.2)]) (a:=(a,b)) (fun a b e=>by
  obtain⟨a1,a2⟩:=a;obtain⟨b1,b2⟩:=b
  simp only[List.cons.injEq,and_true,PV.agg.injEq] at e
  exact Prod.ext (encS_inj (by simp[e.1])) (encS_inj (by simp[e.2]))) trivial) (.inr rfl)
theorem cmpSp_sound:za prog 64 (zd false [] (FSS fun a b=>int (IntKind.i64.wrap (a.1 - b.1)))) :=
 zZ (fn:=f64) q7 ⟨_,func64,by kernel_rfl,rfl,by kernel_rfl⟩ false [] _ fun args r h=>by
  obtain⟨⟨a,b⟩,rfl,_,rfl⟩:=zg h
  exact⟨Nat.le_trans (Nat.le_refl 2) (by decide),_,ze rfl (by simp[f64]),zY _⟩
def fromOf:List PV→Int
 | .v (.int _ a)::_=>a
 | _=>0
def cfS (x y:List PV):Int:=IntKind.i64.wrap (fromOf x - fromOf y)
def domS (x:List PV):Prop:=∃s:Sp,x=encS s∧0≤s.1∧s.1≤100000
theorem cmpS_ok:CmpOk prog 64 2 cfS domS :=
 ⟨fun args w=>enters_of func64 (by kernel_rfl) rfl args w,_,cmpSp_sound,fun x y _ _ hx hy=>by
  obtain⟨a,rfl,_⟩:=hx
  obtain⟨b,rfl,_⟩:=hy
  exact FSS_call _ a b _ _⟩
theorem sortS_sound:za prog 63 (hSort 2 64 cfS domS) :=
 xG (by omega) ⟨_,func63,by decide,by kernel_rfl⟩ Tryz.sortS_ok cmpS_ok
theorem cfS_eq {a b:Sp} (ha:0≤a.1∧a.1≤100000) (hb:0≤b.1∧b.1≤100000):cfS (encS a) (encS b)=a.1 - b.1:=by
 show IntKind.i64.wrap (a.1 - b.1)=_
 exact zi (by omega) (by omega)
theorem weakS {l:List Sp} (h:∀s∈l,0≤s.1∧s.1≤100000):WeakOn cfS (l.map encS) where
 irrefl x hx:=by
  obtain⟨s,hs,rfl⟩:=List.mem_map.1 hx
  rw[cfS_eq (h s hs) (h s hs)];omega
 trans x hx y hy z hz h1 h2:=by
  obtain⟨a,ha,rfl⟩:=List.mem_map.1 hx
  obtain⟨b,hb,rfl⟩:=List.mem_map.1 hy
  obtain⟨c,hc,rfl⟩:=List.mem_map.1 hz
  rw[cfS_eq (h _ ha) (h _ hb)] at h1
  rw[cfS_eq (h _ hb) (h _ hc)] at h2
  rw[cfS_eq (h _ ha) (h _ hc)]
  omega
 ntrans x hx y hy z hz h1 h2:=by
  obtain⟨a,ha,rfl⟩:=List.mem_map.1 hx
  obtain⟨b,hb,rfl⟩:=List.mem_map.1 hy
  obtain⟨c,hc,rfl⟩:=List.mem_map.1 hz
  rw[cfS_eq (h _ ha) (h _ hb)] at h1
  rw[cfS_eq (h _ hb) (h _ hc)] at h2
  rw[cfS_eq (h _ ha) (h _ hc)]
  omega
theorem perm_map_inv {α β:Type} {f:α→β}:∀{l:List α} {m:List β},m.Perm (l.map f)→∃l':List α,l'.Perm l∧m=l'.map f:=by
 have key:∀{m n:List β},m.Perm n→∀l:List α,n=l.map f→∃l':List α,l'.Perm l∧m=l'.map f:=by
  intro m n h
  induction h with
  | nil=>intro l hl;exact⟨l,.refl _,hl⟩
  | cons x _ ih =>
    intro l hl
    cases l with
    | nil=>cases hl
    | cons a l =>
      simp only[List.map_cons,List.cons.injEq] at hl
      obtain⟨l',h1,h2⟩:=ih l hl.2
      exact⟨a::l',h1.cons a,by rw[List.map_cons,hl.1,h2]⟩
  | swap x y r =>
    intro l hl
    match l,hl with
    | a::b::l,hl =>
      simp only[List.map_cons,List.cons.injEq] at hl
      exact⟨b::a::l,.swap _ _ _,by rw[List.map_cons,List.map_cons,hl.1,hl.2.1,hl.2.2]⟩
  | trans _ _ ih1 ih2 =>
    intro l hl
    obtain⟨l1,h1,h2⟩:=ih2 l hl
    obtain⟨l2,h3,h4⟩:=ih1 l1 h2
    exact⟨l2,h3.trans h1,h4⟩
 intro l m h
 exact key h l rfl
theorem sortL_spans {l:List Sp} (h:∀s∈l,0≤s.1∧s.1≤100000):∃m:List Sp,jt cfS (l.map encS)=m.map encS∧m.Perm l∧m.Pairwise (fun a b=>a.1≤b.1):=by
 obtain⟨m,h1,h2⟩:=perm_map_inv (kg (weakS h))
 refine⟨m,h2,h1,?_⟩
 have h3:=vr (weakS h)
 rw[h2,List.pairwise_map] at h3
 refine h3.imp_of_mem fun {a b} ha hb hab=>?_
 rw[cfS_eq (h _ (h1.mem_iff.1 hb)) (h _ (h1.mem_iff.1 ha))] at hab
 omega
noncomputable def FCat (out:List Sp→List Sp→PV) (pre:List Sp→List Sp→Prop):List PV→Option PV:=zM (α:=List Sp×List Sp) (fun a=>[.sl 1 [[.sl 2 (a.1.map encS)],[.sl 2 (a.2.map encS)]]]) (fun a=>pre a.1 a.2) (fun a=>out a.1 a.2)
noncomputable abbrev Ccat:Ctx:=zN prog [(65,hGrow 67 2 16)]
theorem concat_eval (a b:List Sp) (ha:a.length≤100000) (hb:b.length≤100000):∃r0,zl Ccat f35 [.sl 1 [[.sl 2 (a.map encS)],[.sl 2 (b.map encS)]]]=some r0∧Stands r0 (.sl 2 ((a++b).map encS)):=by
 have hfin:∀{code},f35.body=some code→EvC Ccat code ⟨yD [.sl 1 [[.sl 2 (a.map encS)],[.sl 2 (b.map encS)]]],fun _=>none,0⟩ (retK Ccat.P f35 (pureN (.sl 2 ((a++b).map encS))))→∃r0,zl Ccat f35 [.sl 1 [[.sl 2 (a.map encS)],[.sl 2 (b.map encS)]]]=some r0∧Stands r0 (.sl 2 ((a++b).map encS)):=by
  intro code hb h
  obtain⟨r0,h1,h2⟩:=jG hb h
  exact⟨r0,h1,fun w S u hr=>up_rep hr h2⟩
 refine hfin rfl ?_
 let cs:List (List Sp):=[a,b]
 have hcs:cs=[a,b]:=rfl
 simp
 refine zD (fun k σ hp nx=>σ 0=.sl 1 [[.sl 2 (a.map encS)],[.sl 2 (b.map encS)]]∧σ 9=.sl 1 [[.sl 2 (a.map encS)],[.sl 2 (b.map encS)]]∧σ 10=int 2∧σ 11=int k∧σ 3=int (((cs.take k).map List.length).sum:Nat)) 2
  ⟨by simp,by simp,by simp,by simp,by simp⟩ ?_
 rintro k σ hp nx hk ⟨h0,h9,h10,h11,h3⟩
 obtain rfl | rfl | rfl:k=0∨k=1∨k=2:=by omega
 ·simp[hcs] at h3
  have w1:IntKind.i64.wrap (a.length:Int)=a.length:=zi (by omega) (by omega)
  have w2:IntKind.i64.wrap 1=1:=zi (by omega) (by omega)
  have w3:¬(a.length:Int)<0:=by omega
  simp[h0,h9,h10,h11,h3,w1,w2,w3,hcs]
 ·simp[hcs] at h3
  have w1:IntKind.i64.wrap ((a.length:Int)+b.length)=a.length+b.length:=zi (by omega) (by omega)
  have w2:IntKind.i64.wrap 2=2:=zi (by omega) (by omega)
  have w3:¬(a.length:Int)+b.length<0:=by omega
  simp[h0,h9,h10,h11,h3,w1,w2,w3,hcs]
 ·simp[hcs] at h3
  have hg:∀hp nx,∃v hp' nx',hGrow 67 2 16 [.nil,int ((a.length:Int)+b.length)] hp nx=some (v,hp',nx')∧OwnS hp' nx' 67 2 v []:=fun hp nx=>by
   by_cases hz:(a.length:Int)+b.length=0
   ·exact⟨.nil,hp,nx,by simp[hGrow,hz],.inl ⟨rfl,rfl⟩⟩
   ·exact⟨.own nx 0 0,upd hp nx (some ⟨67,2,true,[]⟩),nx+1,by
     show (if (a.length:Int)+b.length=0 then _ else _)=_
     rw[if_neg hz,if_pos ⟨by omega,by omega,by omega⟩],.inr ⟨nx,by omega,rfl,by simp⟩⟩
  obtain⟨v,hp',nx',hg1,hO⟩:=hg hp nx
  simp[h0,h9,h10,h11,h3,hg1]
  refine zD (fun k σ hp nx=>σ 25=.sl 1 [[.sl 2 (a.map encS)],[.sl 2 (b.map encS)]]∧σ 26=int 2∧σ 27=int k∧OwnS hp nx 67 2 (σ 6) (((cs.take k).flatten).map encS)) 2
   ⟨by simp,by simp,by simp,by simpa using hO⟩ ?_
  rintro k σ hp nx hk ⟨h25,h26,h27,hO⟩
  obtain rfl | rfl | rfl:k=0∨k=1∨k=2:=by omega
  ·simp[hcs] at hO
   obtain⟨v',hp',nx',ha1,hO',_⟩:=hO.appendL (P:=prog) (t:=38) (ys:=a.map encS) el38 sz67 by67 ze67 rfl (by omega) (by simp[maxLen];omega) (by simp;omega)
   have w2:IntKind.i64.wrap 1=1:=zi (by omega) (by omega)
   simp at hO'
   simp[h25,h26,h27,ha1,w2,hcs]
   exact hO'
  ·simp[hcs] at hO
   obtain⟨v',hp',nx',ha1,hO',_⟩:=hO.appendL (P:=prog) (t:=38) (ys:=b.map encS) el38 sz67 by67 ze67 rfl (by omega) (by simp[maxLen];omega) (by simp;omega)
   have w2:IntKind.i64.wrap 2=2:=zi (by omega) (by omega)
   simp[h25,h26,h27,ha1,w2,hcs]
   simpa using hO'
  ·simp[hcs] at hO
   have:=hO.freeze nx
   simp[h25,h26,h27,f35]
   exact this
noncomputable def catF:List PV→Option PV:=FCat (fun a b=>.sl 2 ((a++b).map encS)) fun a b=>a.length≤100000∧b.length≤100000
theorem concat_sound:za prog 35 (zd true [] catF) :=
 yK (fn:=f35) (zr (q:=[]) mixed ⟨growS_sound,by simp,trivial⟩:AM.Good Ccat _) ⟨_,func35,by kernel_rfl,rfl,by kernel_rfl⟩ true [] _ fun args r h w S vs hz=>by
  unfold catF FCat at h
  obtain⟨⟨a,b⟩,rfl,hx,rfl⟩:=zg h
  obtain⟨r0,h1,h2⟩:=concat_eval a b hx.1 hx.2
  exact⟨_,r0,hz,Nat.le_trans (Nat.le_refl 1) (by decide),h1,h2⟩
def Small (l:List Sp):Prop:=∀s∈l,0≤s.1∧s.1≤100000
theorem tog_drop {l:List Sp} {k:Nat} (h:k<l.length) (c:Sp):tog c (l.drop k)=if l[k].1≤c.2 then tog (c.1,max c.2 l[k].2) (l.drop (k+1)) else c::tog l[k] (l.drop (k+1)):=by
 rw[List.drop_eq_getElem_cons h,tog]
theorem togL_first {l:List Sp} (h:0<l.length):togL l=tog l[0] (l.drop 1):=by
 cases l with
 | nil=>simp at h
 | cons s l=>rfl
def TogTo (L:List Sp) (k:Nat) (d:List Sp):Prop:=(k=0∧d=[])∨∃d0 c,d=d0++[c]∧d0++tog c (L.drop k)=togL L
noncomputable abbrev Ctg:Ctx:=zN prog [(25,qD [] (qx 67 2)),(63,hSort 2 64 cfS domS)]
theorem sort_call {l m:List Sp} (h:Small l) (hl:l.length≤2097152) (hm:jt cfS (l.map encS)=m.map encS) {hp:Hp} {nx:Nat} {v:PV} (hO:OwnS hp nx 67 2 v (l.map encS)) :
  ∃hp',hSort 2 64 cfS domS [v,.fn (.func 64) [] []] hp nx=some (.tup [],hp',nx)∧OwnS hp' nx 67 2 v (m.map encS):=by
 rcases hO with⟨rfl,h0⟩ | ⟨id,hid,rfl,hh⟩
 ·refine⟨hp,rfl,.inl ⟨rfl,?_⟩⟩
  rw[←hm,h0]
  rfl
 ·by_cases hz:l=[]
  ·subst hz
   have:m=[]:=by
    have:(m.map encS)=[]:=by rw[←hm];rfl
    simpa using this
   subst this
   exact⟨hp,rfl,.inr ⟨id,hid,rfl,hh⟩⟩
  ·have hne:¬(l.map encS).length=0:=by simpa using hz
   have hml:(m.map encS).length=(l.map encS).length:=by rw[←hm,jL (weakS h)]
   refine⟨upd hp id (some ⟨67,2,true,m.map encS⟩),?_,.inr ⟨id,hid,by rw[hml],by simp⟩⟩
   show (if (l.map encS).length=0 then _ else _)=_
   rw[if_neg hne,hh]
   simp only
   have e1:((l.map encS).drop 0).take (l.map encS).length=l.map encS:=by rw[List.drop_zero,List.take_length]
   have e2:(l.map encS).drop (0+(l.map encS).length)=[]:=by rw[Nat.zero_add,List.drop_length]
   rw[e1,e2,if_pos ⟨rfl,rfl,rfl,by simp,by simp;omega,weakS h,fun x hx=>by
    obtain⟨s,hs,rfl⟩:=List.mem_map.1 hx
    exact⟨s,rfl,h s hs⟩⟩,hm]
   simp
theorem together_eval (l L:List Sp) (h:Small l) (hl:l.length≤2097152) (hm:jt cfS (l.map encS)=L.map encS) (y:PV) (hy:SlOf 2 (l.map encS) y):∃r0,zl Ctg f34 [y]=some r0∧Stands r0 (.sl 2 ((togL L).map encS)):=by
 have hfin:∀{code},f34.body=some code→EvC Ctg code ⟨yD [y],fun _=>none,0⟩ (retK Ctg.P f34 (pureN (.sl 2 ((togL L).map encS))))→∃r0,zl Ctg f34 [y]=some r0∧Stands r0 (.sl 2 ((togL L).map encS)):=by
  intro code hb h
  obtain⟨r0,h1,h2⟩:=jG hb h
  exact⟨r0,h1,fun w S u hr=>up_rep hr h2⟩
 refine hfin rfl ?_
 have hLl:L.length=l.length:=by
  have:=congrArg List.length hm
  rw[jL (weakS h)] at this
  simpa using this.symm
 have hcl:=fun hp nx=>kd (e:=67) hy (by simp;unfold lim;omega) hp nx
 have hown:=ke (e:=67) hy (fun _=>none) 0
 generalize hv:(jr 67 2 (l.map encS) y 0)=v0 at hown
 obtain⟨v,H,n0⟩:=v0
 have hcl0:=hcl (fun _=>none) 0
 rw[hv] at hcl0
 simp only at hown hcl0
 obtain⟨hp1,hs1,hO1⟩:=sort_call h hl hm hown
 have hlen:=hO1.len (P:=prog) (t:=38) el38
 simp at hlen
 simp[hcl0,hs1,hlen]
 refine zD (fun k σ hp nx=>σ 11=v∧σ 12=int L.length∧σ 13=int k∧(0<L.length→∃id0,id0<nx∧v=.own id0 0 L.length∧hp id0=some ⟨67,2,true,L.map encS⟩∧∀m,σ 3≠.own id0 0 m)∧∃d,OwnS hp nx 67 2 (σ 3) (d.map encS)∧TogTo L k d∧d.length≤k∧(k=0→σ 3=.nil)) L.length
  ⟨by simp,by simp,by simp,fun hpos=>?_,[],.inl (by simp),.inl ⟨rfl,rfl⟩,by simp,by simp⟩ ?_
 ·obtain⟨id0,g1,g2,g3⟩:=hO1.at_ (by simpa using hpos)
  exact⟨id0,g1,by simpa using g2,by simpa using g3,by simp⟩
 rintro k σ hp nx hk ⟨h11,h12,h13,hv0,d,hO,hT,hdk,hk0⟩
 by_cases hlt:k<L.length
 ·obtain⟨id0,g1,rfl,g3,g4⟩:=hv0 (by omega)
  have hw:IntKind.i64.wrap ((k:Int)+1)=(k:Int)+1:=zi (by omega) (by omega)
  have hne0:¬id0=nx:=by omega
  have hne1:¬id0=nx+1:=by omega
  have hne2:¬id0=nx+2:=by omega
  have hO':=hO.more (some ⟨67,2,false,[encS L[k]]⟩)
  have hap:=hO'.append1 (P:=prog) (t:=38) (c:=encS L[k]) el38 sz67 by67 ze67 rfl (by omega) (by rw[List.length_map];unfold maxLen;omega) (by rw[List.length_map];omega)
  have hbs:∀hp nx,zh prog hp nx 38 1 [(0,.agg (encS L[k]))]=some (.own nx 0 1,upd hp nx (some ⟨67,2,true,[encS L[k]]⟩),nx+1):=fun hp nx=>by
   simp[zh,zt,zj]
  simp only[encS] at hap hbs
  rcases hT with⟨rfl,rfl⟩ | ⟨d0,c,rfl,hT⟩
  ·have hn:σ 3=.nil:=hk0 rfl
   have w1:IntKind.i64.wrap 1=1:=zi (by omega) (by omega)
   rw[hn] at hap
   simp at hap
   simp[h11,h12,h13,hlt,g3,hn,hbs,hap,w1,hne0,hne1,hne2,killV]
   refine⟨hlt,⟨id0,by omega,rfl,?_,by omega⟩,[L[0]],.inr ⟨nx+1+1,by omega,by simp,by simp⟩,.inr ⟨[],L[0],rfl,(togL_first hlt).symm⟩,by simp⟩
   simp[g3,hne0,hne1,hne2]
  ·obtain⟨id,hid,h3,hh⟩:∃id,id<nx∧σ 3=.own id 0 (d0.length+1)∧hp id=some ⟨67,2,true,d0.map encS++[encS c]⟩:=by
    obtain⟨id,q1,q2,q3⟩:=hO.at_ (by simp)
    exact⟨id,q1,by simpa using q2,by simpa using q3⟩
   have hni:¬id=id0:=fun e=>g4 _ (e ▸ h3)
   have hni':¬id0=id:=fun e=>hni e.symm
   have hi0:¬id=nx:=by omega
   have w1:IntKind.i64.wrap (d0.length:Int)=d0.length:=zi (by simp at hdk;omega) (by simp at hdk;omega)
   have w2:(d0.length:Int)<d0.length+1:=by omega
   have w3:(0:Int)<(d0.length:Int)+1:=by omega
   simp at hdk
   rw[tog_drop hlt] at hT
   by_cases hc:L[k].1≤c.2
   ·rw[if_pos hc] at hT
    simp[h11,h12,h13,hlt,g3,h3,hh,hne0,hni,hni',hi0,w1,w2,w3,hc,hw]
    have hmx:(if c.2<L[k].2 then L[k].2 else c.2)=max c.2 L[k].2:=by split<;>omega
    rw[hmx]
    refine⟨hlt,fun _=>⟨id0,by omega,rfl,by simp[g3,hne0,hni'],hni⟩,d0++[(c.1,max c.2 L[k].2)],.inr ⟨id,by omega,by simp,by simp⟩,.inr ⟨d0,_,rfl,hT⟩,by simp;omega⟩
   ·rw[if_neg hc] at hT
    rw[h3] at hap
    simp at hap
    simp[h11,h12,h13,hlt,g3,h3,hh,hne0,hni,hni',hi0,w1,w2,w3,hc,hw,hbs,hap]
    refine⟨hlt,fun _=>⟨id0,by omega,rfl,by simp[g3,hne0,hne1,hne2,hni',killV],by omega⟩,d0++[c]++[L[k]],.inr ⟨nx+1+1,by omega,by simp,by simp⟩,.inr ⟨d0++[c],_,rfl,by rw[List.append_assoc];exact hT⟩,by simp;omega⟩
 ·obtain rfl:k=L.length:=by omega
  have hd:d=togL L:=by
   rcases hT with⟨h0,rfl⟩ | ⟨d0,c,rfl,hT⟩
   ·have:L=[]:=List.length_eq_zero_iff.1 h0
    subst this;rfl
   ·rw[List.drop_length,tog] at hT;exact hT
  rw[hd] at hO
  have:=hO.freeze nx
  simp[h11,h12,h13,f34]
  exact this
noncomputable def wq (l:List Sp):List Sp:=by
 classical exact if h:Small l then (sortL_spans h).choose else []
theorem kB {l:List Sp} (h:Small l):jt cfS (l.map encS)=(wq l).map encS∧(wq l).Perm l∧(wq l).Pairwise (fun a b=>a.1≤b.1):=by
 unfold wq
 rw[dif_pos h]
 exact (sortL_spans h).choose_spec
theorem together_sound:za prog 34 (zd false [] (FP (fun l=>.sl 2 ((togL (wq l)).map encS)) fun l=>Small l∧l.length≤2097152)) :=
 yK (fn:=f34) (zr (q:=[]) mixed ⟨vx,by simp,sortS_sound,by simp,trivial⟩:AM.Good Ctg _) ⟨_,func34,by kernel_rfl,rfl,by kernel_rfl⟩ false [] _ fun args r h w S vs hz=>by
  obtain⟨l,rfl,hx,rfl⟩:=zg h
  obtain⟨u,rfl,hr⟩:=jk hz
  obtain⟨y,hy,hr2⟩:=rep_slOf hr
  obtain⟨r0,h1,h2⟩:=together_eval l (wq l) hx.1 hx.2 (kB hx.1).1 y hy
  exact⟨_,r0,.cons hr2 .nil,Nat.le_trans (Nat.le_refl 1) (by decide),h1,h2⟩
def OwnB (hp:Hp) (nx:Nat) (v:PV) (d:List Sp):Prop:=(v=.nil∧d=[])∨(d≠[]∧∃id,id<nx∧v=.own id 0 d.length∧hp id=blkS d)
theorem OwnB.freeze {hp:Hp} {nx:Nat} {v:PV} {d:List Sp} (h:OwnB hp nx v d) (nx':Nat):pureN (.sl 2 (d.map encS)) v hp nx':=by
 rcases h with⟨rfl,rfl⟩ | ⟨hd,id,h1,rfl,h2⟩
 ·exact (OwnS.nil hp nx 67 2).freeze nx'
 ·have:OwnS hp nx 67 2 (.own id 0 d.length) (d.map encS):=.inr ⟨id,h1,by simp,by rw[h2,blkS,if_neg (by simpa using hd)]⟩
  exact this.freeze nx'
theorem mem_perm {l m:List Sp} (h:l.Perm m) (k:Int):mem l k↔mem m k:=by
 unfold mem
 constructor
 ·rintro⟨s,hs,g⟩;exact⟨s,h.mem_iff.1 hs,g⟩
 ·rintro⟨s,hs,g⟩;exact⟨s,h.mem_iff.2 hs,g⟩
theorem sorted_of:∀{lo:Int} {m:List Sp},(∀s∈m,lo≤s.1∧s.1<s.2)→m.Pairwise (fun a b=>a.1≤b.1)→xp lo m
 | _,[],_,_=>trivial
 | lo,s::m,h,hp=>by
   rw[List.pairwise_cons] at hp
   exact⟨(h s (by simp)).1,(h s (by simp)).2,sorted_of (fun x hx=>⟨hp.1 x hx,(h x (by simp[hx])).2⟩) hp.2⟩
noncomputable def uniL (a b:List Sp):List Sp:=togL (wq (a++b))
theorem small_bothK {a b:List Sp} (ha:okS a) (hb:okS b):Small (a++b)∧∀s∈a++b,0≤s.1∧s.1<s.2∧s.2≤100000:=by
 obtain⟨c1,b1,p1,_⟩:=ha
 obtain⟨c2,b2,p2,_⟩:=hb
 have key:∀s∈a++b,0≤s.1∧s.1<s.2∧s.2≤100000:=fun s hs=>by
  rcases List.mem_append.1 hs with hs | hs
  ·exact⟨p1 s hs,wN c1 s hs,b1 s hs⟩
  ·exact⟨p2 s hs,wN c2 s hs,b2 s hs⟩
 exact⟨fun s hs=>by have:=key s hs;omega,key⟩
theorem uniL_specK {a b:List Sp} (ha:okS a) (hb:okS b):wy (-1) (uniL a b)∧∀k,mem (uniL a b) k↔mem a k∨mem b k:=by
 obtain⟨h1,h2⟩:=small_bothK ha hb
 obtain⟨_,s2,s3⟩:=kB h1
 have hs:xp 0 (wq (a++b)):=sorted_of (fun s hs=>by have:=h2 s (s2.mem_iff.1 hs);exact⟨this.1,this.2.1⟩) s3
 refine⟨togL_canon (lo:=-1) (by simpa using hs),fun k=>?_⟩
 rw[uniL,togL_mem hs,mem_perm s2,mem_append]
theorem mem_inK {a:List Sp} (ha:okS a) {k:Int} (h:mem a k):0≤k∧k<100000:=by
 obtain⟨_,b1,p1,_⟩:=ha
 obtain⟨s,hs,g1,g2⟩:=h
 have:=b1 s hs
 have:=p1 s hs
 omega
theorem mem_in {a:List Sp} (ha:zL a=0) {k:Int} (h:mem a k):0≤k∧k<100000:=mem_inK (okS_of ha) h
def minR (a b:List Sp):List Sp×Int:=if xL a b=0 then limR (mins a b) else ([],xL a b)
theorem bothF_zero {a b:List Sp} (h:xL a b=0):zL a=0∧zL b=0:=by
 unfold xL at h
 split at h
 ·exact⟨by assumption,h⟩
 ·contradiction
theorem concat_call {a b:List Sp} (ha:a.length≤100000) (hb:b.length≤100000) {hp:Hp} {nx id e:Nat} (h:hp id=some ⟨e,1,true,[[.sl 2 (a.map encS)],[.sl 2 (b.map encS)]]⟩) :
  zd true [] catF [.own id 0 2] hp nx=some (.sl 2 ((a++b).map encS),upd hp id none,nx):=by
 have hf:catF [.sl 1 [[.sl 2 (a.map encS)],[.sl 2 (b.map encS)]]]=some (.sl 2 ((a++b).map encS)) :=
  by unfold catF FCat;exact zq (enc:=fun a:List Sp×List Sp=>[PV.sl 1 [[.sl 2 (a.1.map encS)],[.sl 2 (a.2.map encS)]]]) (a:=(a,b)) (fun a b e=>by
   obtain⟨a1,a2⟩:=a;obtain⟨b1,b2⟩:=b
   simp only[List.cons.injEq,and_true,PV.sl.injEq,true_and] at e
   rw[wM (congrArg (PV.sl 2) e.1),wM (congrArg (PV.sl 2) e.2)]) ⟨ha,hb⟩
 simp[zd,zk,zC,zP,h,qr,hf,PV.flat,PV.noOwn,-List.map_append]
noncomputable abbrev CMinus:Ctx:=zN prog [(36,zd false [] (FPP (fun a b=>int (xL a b)) fun _ _=>True)),(32,zd false [] (FPP (fun a b=>.sl 2 ((mins a b).map encS)) fun a b=>zL a=0∧zL b=0)),(37,zd false [] (FP (fun l=>yz (limR l)) fun _=>True))]
theorem Minus_eval (a b:List Sp):∃r0,zl CMinus Tryz.f9 [.sl 2 (a.map encS),.sl 2 (b.map encS)]=some r0∧Stands r0 (yz (minR a b)):=by
 have c1:=fun hp nx=>jM (fun a b=>int (xL a b)) (fun _ _=>True) a b hp nx trivial
 refine qF rfl ?_
 unfold minR
 by_cases hf:xL a b=0
 ·obtain⟨ha,hb⟩:=bothF_zero hf
  obtain⟨_,_,_,hla⟩:=qu ha
  obtain⟨_,_,_,hlb⟩:=qu hb
  have c3:∀l hp nx,zd false [] (FP (fun l=>yz (limR l)) (fun _=>True)) [.sl 2 (l.map encS)] hp nx=some (.tup [.sl 2 ((limR l).1.map encS),int (limR l).2],hp,nx):=fun l hp nx=>yy (fun l=>yz (limR l)) (fun _=>True) l hp nx trivial
  rw[if_pos hf]
  have c2:=fun hp nx=>jM (fun a b=>.sl 2 ((mins a b).map encS)) (fun a b=>zL a=0∧zL b=0) a b hp nx ⟨ha,hb⟩
  simp[c1,c2,c3,hf,Tryz.f9]
  exact⟨yz (limR (mins a b)),by simp[yz],.refl _⟩
 ·have hf':(xL a b != 0)=true:=by simpa using hf
  rw[if_neg hf]
  simp[c1,hf',Tryz.f9]
  exact⟨_,by simp,xK (xL a b)⟩
theorem Minus_sound:za prog 9 (zd false [] (FPP (fun a b=>yz (minR a b)) fun _ _=>True)) :=
 yK (fn:=Tryz.f9) (zr (q:=[]) mixed ⟨checkBoth_sound,by simp,minus_sound,by simp,limited_sound,by simp,trivial⟩:AM.Good CMinus _) ⟨_,func9,by kernel_rfl,rfl,by kernel_rfl⟩ false [] _ fun args r h w S vs hz=>by
  obtain⟨⟨a,b⟩,rfl,_,rfl⟩:=zg h
  obtain⟨r0,h1,h2⟩:=Minus_eval a b
  exact⟨_,r0,hz,Nat.le_trans (Nat.le_refl 2) (by decide),h1,h2⟩
theorem eqS_drop {a b:List Sp} {k:Nat} (ha:k<a.length) (hb:k<b.length):decide (a.drop k=b.drop k)=(decide (a[k]=b[k])&&decide (a.drop (k+1)=b.drop (k+1))):=by
 rw[List.drop_eq_getElem_cons ha,List.drop_eq_getElem_cons hb,←Bool.decide_and]
 congr 1
 simp only[List.cons.injEq]
theorem binS (x y u v:Int):binA prog .neq 67 (.agg [int x,int y]) (.agg [int u,int v])=some (boo (!(decide (x=u)&&decide (y=v)))):=by
 simp only[binA,fl67,qf,if_true,Option.map_some,Bool.and_true]
 rfl
theorem sp_ext {a b:Sp}:decide (a=b)=(decide (a.1=b.1)&&decide (a.2=b.2)):=by
 simp[Prod.ext_iff]
theorem equalS_eval (a b:List Sp) (ha:a.length≤lim):zl C0 f88 [.sl 2 (a.map encS),.sl 2 (b.map encS)]=some (boo (decide (a=b))):=by
 unfold lim at ha
 refine ze rfl ?_
 by_cases hl:a.length=b.length
 case neg =>
  have hl':((a.length:Int) != (b.length:Int))=true:=by simp;omega
  have hne:¬a=b:=fun e=>hl (by rw[e])
  simp[hl',hne,f88]
 have hl':((a.length:Int) != (b.length:Int))=false:=by simp[hl]
 simp[hl']
 refine zD (fun k σ hp nx=>σ 0=.sl 2 (a.map encS)∧σ 1=.sl 2 (b.map encS)∧σ 12=int a.length∧σ 13=int k∧decide (a=b)=decide (a.drop k=b.drop k)) a.length
  ⟨by simp,by simp,by simp,by simp,by simp⟩ ?_
 rintro k σ hp nx hk ⟨h0,h1,h12,h13,hf⟩
 by_cases hlt:k<a.length
 ·have hlt':k<b.length:=by omega
  have hw:IntKind.i64.wrap ((k:Int)+1)=(k:Int)+1:=zi (by omega) (by omega)
  rw[eqS_drop hlt hlt',sp_ext] at hf
  by_cases d1:a[k].1=b[k].1<;>by_cases d2:a[k].2=b[k].2<;>simp only[d1,d2,decide_true,decide_false,Bool.and_true,Bool.true_and,Bool.and_false,Bool.false_and] at hf
  ·simp[h0,h1,h12,h13,hlt,hlt',d1,d2,hw,binS]
   exact⟨hlt,by simpa using hf⟩
  all_goals simp[h0,h1,h12,h13,hlt,hlt',d1,d2,hf,binS,f88]
 ·obtain rfl:k=a.length:=by omega
  rw[List.drop_length,hl,List.drop_length] at hf
  simp[h0,h1,h12,h13,hf,f88]
theorem equalS_sound:za prog 88 (zd false [] (FPP (fun a b=>boo (decide (a=b))) fun a _=>a.length≤lim)) :=
 zZ (fn:=f88) q7 ⟨_,func88,by kernel_rfl,rfl,by kernel_rfl⟩ false [] _ fun args r h=>by
  obtain⟨⟨a,b⟩,rfl,hx,rfl⟩:=zg h
  exact⟨Nat.le_trans (Nat.le_refl 2) (by decide),_,equalS_eval a b hx,zY _⟩
theorem spF_of:∀{l:List Sp} {p:Option Int},-1≤p.getD (-1)→wy (p.getD (-1)) l→Below 100000 l→spF p l=0
 | [],_,_,_,_=>rfl
 | s::l,p,h0,hc,hb=>by
   have h1:=hc.1
   have h2:=hc.2.1
   have h3:=hb s (by simp)
   have r1:spR s=false:=by
    simp only[spR,inB,Bool.or_eq_false_iff,Bool.not_eq_false',Bool.and_eq_true,decide_eq_true_eq,decide_eq_false_iff_not]
    omega
   have r2:spO p s=false:=by
    simp only[spO,Bool.or_eq_false_iff,decide_eq_false_iff_not]
    refine⟨by omega,?_⟩
    cases p with
    | none=>rfl
    | some q=>simp at h1;simp;omega
   rw[spF,r1,r2]
   simp only[Bool.false_eq_true,if_false]
   exact spF_of (p:=some s.2) (by simp;omega) hc.2.2 (fun x hx=>hb x (by simp[hx]))
theorem spFault_of {l:List Sp} (hc:wy (-1) l) (hb:Below 100000 l) (hl:l.length≤100):zL l=0:=by
 unfold zL
 rw[if_neg (by omega)]
 exact spF_of (p:=none) (by simp) hc hb
theorem below_of:∀{lo:Int} {l:List Sp},wy lo l→(∀k,mem l k→k<100000)→Below 100000 l:=fun {lo l} hc h s hs=>by
 have:=wN hc s hs
 have:=h (s.2 - 1) ⟨s,hs,by omega,by omega⟩
 omega
theorem mins_below {a b:List Sp} (ha:zL a=0) (hb:zL b=0):Below 100000 (mins a b) :=
 below_of (jf (qu ha).1 (qu hb).1) fun k hk=>(mem_in ha ((mins_mem (qu ha).1 (qu hb).1).1 hk).1).2
theorem v8 (a b:List Sp) (ha:zL a=0) (hb:zL b=0):minR a b=([],2)∨(mins a b).length≤100∧minR a b=(mins a b,0):=by
 have h:xL a b=0:=by unfold xL;rw[if_pos ha];exact hb
 unfold minR limR
 rw[if_pos h]
 split
 ·exact .inl rfl
 ·exact .inr ⟨by omega,rfl⟩
end Go.Proofs.YtglppmnehgjolaaGreatDoor
namespace Go.Proofs.YtglppmnehgjolaaGreatDoor
open Go.Proofs.Tryz
open Go.RowKit Go.AM
abbrev Rg:=Int×Int×Int
abbrev encG (r:Rg):List PV:=[int r.1,int r.2.1,int r.2.2]
theorem encG_inj {a b:Rg} (h:encG a=encG b):a=b:=by
 simp only[List.cons.injEq,and_true,PV.v.injEq,Value.int.injEq,true_and] at h
 exact Prod.ext h.1 (Prod.ext h.2.1 h.2.2)
theorem xa {a b:List Rg} (h:PV.sl 3 (a.map encG)=PV.sl 3 (b.map encG)):a=b:=by
 injection h with _ h
 exact qZ (fun _ _=>encG_inj) h
def rgO (at_:Int) (r:Rg):Bool:=(r.1 != at_)||decide (r.2.1≤r.1)
def rgT (p:Option Int) (r:Rg):Bool:=match p with
 | none=>false
 | some q=>q==r.2.2
def rgF (n:Int):Int→Option Int→List Rg→Int
 | at_,_,[]=>if at_=100000 then 0 else 8
 | at_,p,r::l=>if inB r.2.2 0 (n - 1) then (if rgO at_ r then 8 else if (100000:Int)<r.2.1 then 1 else if rgT p r then 7 else rgF n r.2.1 (some r.2.2) l) else 1
theorem rgF_drop {l:List Rg} {k:Nat} (h:k<l.length) (n a:Int) (p:Option Int):rgF n a p (l.drop k)=if inB l[k].2.2 0 (n - 1) then (if rgO a l[k] then 8 else if (100000:Int)<l[k].2.1 then 1 else if rgT p l[k] then 7 else rgF n l[k].2.1 (some l[k].2.2) (l.drop (k+1))) else 1:=by
 rw[List.drop_eq_getElem_cons h,rgF]
def prevG (l:List Rg) (k:Nat):Option Int:=if k=0 then none else (l[k - 1]?).map (·.2.2)
def jx (l:List Rg) (n:Int):Int:=if l.length=0 then 9 else if (200:Int)<l.length then 2 else rgF n 0 none l
theorem withinF_sound:za prog 123 (zd false [] (F3 inB)) :=
 zZ (fn:=f123) q7 ⟨_,func123,by kernel_rfl,rfl,by kernel_rfl⟩ false [] _ fun args r h=>by
  obtain⟨a,b,c,rfl,rfl⟩:=F3_inv h
  exact⟨by simp[f123],_,ze rfl (by simp[f123,inB]),zY _⟩
noncomputable abbrev Cwf:Ctx:=zN prog [(123,zd false [] (F3 inB))]
theorem checkRanges_eval (l:List Rg) (n:Int) (hn:1≤n∧n≤20):zl Cwf f96 [.sl 3 (l.map encG),int n]=some (int (jx l n)):=by
 refine ze rfl ?_
 have hn1:IntKind.i64.wrap (n - 1)=n - 1:=zi (by omega) (by omega)
 rw[jx]
 by_cases c1:l.length=0
 ·have:l=[]:=List.length_eq_zero_iff.1 c1
  subst this
  simp[f96]
 have c1':¬l=[]:=fun h=>c1 (by rw[h];rfl)
 have c0:((l.length:Int)==0)=false:=by simpa using c1'
 by_cases c2:(200:Int)<l.length
 ·simp[c0,c1,c1',c2,f96]
 simp[c0,c1,c1',c2]
 refine zD (fun k σ hp nx=>σ 0=.sl 3 (l.map encG)∧σ 1=int n∧σ 14=.sl 3 (l.map encG)∧σ 15=int l.length∧σ 16=int k∧∃a:Int,σ 5=int a∧rgF n 0 none l=rgF n a (prevG l k) (l.drop k)) l.length
  ⟨by simp,by simp,by simp,by simp,by simp,0,by simp,by simp[prevG]⟩ ?_
 rintro k σ hp nx hk ⟨h0,h1,h14,h15,h16,a,h5,hf⟩
 by_cases hlt:k<l.length
 ·have hw:IntKind.i64.wrap ((k:Int)+1)=(k:Int)+1:=zi (by omega) (by omega)
  rw[rgF_drop hlt] at hf
  cases d1:inB l[k].2.2 0 (n - 1)
  case false =>
   rw[d1] at hf
   simp at hf
   simp[h0,h1,h5,h14,h15,h16,hlt,hn1,d1,hf,f96]
  simp only[d1,if_true] at hf
  have eo:((l[k].1 != a)||decide (l[k].2.1≤l[k].1))=rgO a l[k]:=rfl
  cases d2:rgO a l[k]
  case true =>
   rw[d2] at eo hf
   simp only[if_true] at hf
   simp[h0,h1,h5,h14,h15,h16,hlt,hn1,d1,eo,hf,f96]
  rw[d2] at eo
  simp only[d2,Bool.false_eq_true,if_false] at hf
  by_cases d3:(100000:Int)<l[k].2.1
  ·rw[if_pos d3] at hf
   simp[h0,h1,h5,h14,h15,h16,hlt,hn1,d1,eo,d3,hf,f96]
  rw[if_neg d3] at hf
  have hpv:prevG l (k+1)=some l[k].2.2:=by simp[prevG,hlt]
  by_cases k0:k=0
  ·subst k0
   simp only[prevG,if_true,rgT,Bool.false_eq_true,if_false] at hf
   have w1:IntKind.i64.wrap 1=1:=zi (by omega) (by omega)
   simp[h0,h1,h5,h14,h15,h16,hlt,hn1,d1,eo,d3,w1]
   exact⟨hlt,by rw[hf,hpv];simp⟩
  ·obtain⟨j,rfl⟩:∃j,k=j+1:=⟨k - 1,by omega⟩
   have hj:j<l.length:=by omega
   have wj:IntKind.i64.wrap ((j:Int)+1 - 1)=(j:Int):=by rw[zi (by omega) (by omega)];omega
   have wj':IntKind.i64.wrap (j:Int)=(j:Int):=zi (by omega) (by omega)
   have j1:((j:Int)+1).toNat=j+1:=by omega
   have j2:0<(j:Int)+1:=by omega
   have j3:0≤(j:Int)+1:=by omega
   have j4:(j:Int)+1<l.length:=by omega
   have wk:IntKind.i64.wrap ((j:Int)+1+1)=(j:Int)+1+1:=zi (by omega) (by omega)
   have hpj:prevG l (j+1)=some l[j].2.2:=by simp[prevG,hj]
   have et:(l[j].2.2==l[j+1].2.2)=rgT (some l[j].2.2) l[j+1]:=rfl
   rw[hpj] at hf
   cases d4:rgT (some l[j].2.2) l[j+1]
   ·rw[d4] at et
    simp only[d4,Bool.false_eq_true,if_false] at hf
    simp[h0,h1,h5,h14,h15,h16,hlt,hj,hn1,d1,eo,d3,et,wj,wj',j1,j2,j3,j4,wk]
    exact⟨by omega,by rw[hf,hpv]⟩
   ·rw[d4] at et
    simp only[d4,if_true] at hf
    simp[h0,h1,h5,h14,h15,h16,hlt,hj,hn1,d1,eo,d3,et,wj,wj',j1,j2,j3,j4,hf,f96]
 ·obtain rfl:k=l.length:=by omega
  rw[List.drop_length,rgF] at hf
  by_cases ha:a=100000
  ·rw[if_pos ha] at hf
   simp[h0,h1,h5,h14,h15,h16,ha,hf,f96]
  ·rw[if_neg ha] at hf
   have ha':(a != 100000)=true:=by simpa using ha
   simp[h0,h1,h5,h14,h15,h16,ha',hf,f96]
noncomputable def FRN (out:List Rg→Int→PV) (pre:List Rg→Int→Prop):List PV→Option PV:=zM (α:=List Rg×Int) (fun a=>[.sl 3 (a.1.map encG),int a.2]) (fun a=>pre a.1 a.2) (fun a=>out a.1 a.2)
theorem FRN_call (out:List Rg→Int→PV) (pre:List Rg→Int→Prop) (l:List Rg) (n:Int) (hp:Hp) (nx:Nat) (h:pre l n):zd false [] (FRN out pre) [.sl 3 (l.map encG),int n] hp nx=some (out l n,hp,nx) :=
 zJ rfl (zq (enc:=fun a:List Rg×Int=>[PV.sl 3 (a.1.map encG),int a.2]) (a:=(l,n)) (fun a b e=>by
  obtain⟨a1,a2⟩:=a;obtain⟨b1,b2⟩:=b
  simp only[List.cons.injEq,and_true] at e
  rw[xa e.1,zG e.2]) h) (.inr rfl)
theorem checkRanges_sound:za prog 96 (zd false [] (FRN (fun l n=>int (jx l n)) fun _ n=>1≤n∧n≤20)) :=
 zZ (fn:=f96) (zr (q:=[123]) mixed ⟨withinF_sound,fun _=>zf _ _,trivial⟩:AM.Good Cwf _) ⟨_,func96,by kernel_rfl,rfl,by kernel_rfl⟩ false [] _ fun args r h=>by
  obtain⟨⟨l,n⟩,rfl,hn,rfl⟩:=zg h
  exact⟨Nat.le_trans (Nat.le_refl 2) (by decide),_,checkRanges_eval l n hn,zY _⟩
end Go.Proofs.YtglppmnehgjolaaGreatDoor
