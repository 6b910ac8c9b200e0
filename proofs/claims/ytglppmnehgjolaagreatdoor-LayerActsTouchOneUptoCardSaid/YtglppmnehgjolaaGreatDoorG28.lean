/-
What a row reads as values, with its bulk.
What a row reads as conditions, with its bulk.
What a row reads as books, with its bulk.
-/
import Derived.Test.YtglppmnehgjolaaGreatDoorG27
import Derived.Test.YtglppmnehgjolaaGreatDoorRows
import Derived.Test.YtglppmnehgjolaaGreatDoorG11
import Derived.Test.YtglppmnehgjolaaGreatDoorG20
set_option maxRecDepth 8000
namespace Go.Proofs.YtglppmnehgjolaaGreatDoor
open Go.Proofs.Tryz
open Go.RowKit Go.AM
theorem len2 {α:Type}:∀{l:List α},l.length=2→∃a b,l=[a,b]
 | [a,b],_=>⟨a,b,rfl⟩
theorem len5 {α:Type}:∀{l:List α},l.length=5→∃a b c d e,l=[a,b,c,d,e]
 | [a,b,c,d,e],_=>⟨a,b,c,d,e,rfl⟩
theorem len6 {α:Type}:∀{l:List α},l.length=6→∃a b c d e f,l=[a,b,c,d,e,f]
 | [a,b,c,d,e,f],_=>⟨a,b,c,d,e,f,rfl⟩
theorem bulkAll_sum {H:Type}:∀ds:List (DataW H),Rows.uptoBulkAll ds=(ds.map Rows.uptoBulk).sum
 | []=>rfl
 | d::ds=>by simp[Rows.uptoBulkAll,bulkAll_sum ds]
theorem wo {H:Type} {d:DataW H} {ds:List (DataW H)} (h:(d=.nil∧ds=[])∨∃sp,d=.slice ds sp):(ds.map Rows.uptoBulk).sum+1≤Rows.uptoBulk d:=by
 rcases h with⟨rfl,rfl⟩ | ⟨sp,rfl⟩
 ·simp[Rows.uptoBulk]
 ·simp only[Rows.uptoBulk,bulkAll_sum];omega
theorem vbs_sum:∀l:List Val,vbs l=(l.map Val.vb).sum
 | []=>rfl
 | v::l=>by simp[vbs,vbs_sum l]
theorem fbs_sum:∀l:List (List UInt8×Val),fbs l=(l.map fun a=>a.1.length+a.2.vb).sum
 | []=>rfl
 | (a,v)::l=>by simp[fbs,fbs_sum l]
theorem shows_pair {H:Type} {t ts:TypeId} (hs:jP prog t=some [(ts,0,1),(128,1,5)]) (hc:prog.cellsOf t=6) (hu:prog.underlying ts=some .string) {n:Nat}
  (ih:∀m,m<n→∀(d:DataW H) pvs,wB prog m 128 d pvs→∃v:Val,pvs=v.enc∧v.vb≤Rows.uptoBulk d) {d:DataW H} {pvs:List PV} (h:wB prog n t d pvs):∃a:List UInt8×Val,pvs=encF a∧a.1.length+a.2.vb≤Rows.uptoBulk d:=by
 obtain⟨m,ds,rfl,rfl,hl,hf⟩:=qM hs h
 rw[hc] at hl
 obtain⟨y0,ds,rfl,f0,hf⟩:=zu hf
 obtain⟨y1,ds,rfl,f1,hf⟩:=zu hf
 obtain rfl:=we hf
 ·skip
  obtain⟨s,rfl,e0,_⟩:=qh hu f0
  obtain⟨v,e1,hv⟩:=ih m (by omega) _ _ f1
  obtain⟨p0,p1,p2,p3,p4,p5,rfl⟩:=len6 hl
  ·skip
   simp only[List.drop_zero,List.take_succ_cons,List.take_zero,List.cons.injEq,and_true,List.drop_succ_cons] at e0 e1
   subst e0
   refine⟨(s,v),by rw[encF,←e1],?_⟩
   simp only[Rows.uptoBulk,Rows.uptoBulkAll]
   omega
theorem shows_val {H:Type}:∀(n:Nat) (d:DataW H) pvs,wB prog n 128 d pvs→∃v:Val,pvs=v.enc∧v.vb≤Rows.uptoBulk d:=by
 intro n
 induction n using Nat.strongRecOn with
 | ind n ih =>
   intro d pvs h
   obtain⟨m,ds,rfl,rfl,hl,hf⟩:=qM shp128 h
   rw[cel128] at hl
   obtain⟨y0,ds,rfl,f0,hf⟩:=zu hf
   obtain⟨y1,ds,rfl,f1,hf⟩:=zu hf
   obtain⟨y2,ds,rfl,f2,hf⟩:=zu hf
   obtain⟨y3,ds,rfl,f3,hf⟩:=zu hf
   obtain⟨y4,ds,rfl,f4,hf⟩:=zu hf
   obtain rfl:=we hf
   ·skip
    obtain⟨k,rfl,e0,_⟩:=qW (k:=.i64) (by kernel_rfl) f0
    obtain⟨i,rfl,e1,_⟩:=qW (k:=.i64) (by kernel_rfl) f1
    obtain⟨s,rfl,e2,_⟩:=qh (by kernel_rfl) f2
    obtain⟨m3,es3,ds3,hm3,b3,e3,_,z3⟩:=qO (e:=128) (by kernel_rfl) f3
    obtain⟨m4,es4,ds4,hm4,b4,e4,_,z4⟩:=qO (e:=158) (by kernel_rfl) f4
    obtain rfl:m4=m3:=by omega
    obtain⟨is,rfl,w3⟩:=qT (enc:=Val.enc) (w:=Val.vb) (b:=Rows.uptoBulk) (fun c y hcy=>ih m4 (by omega) y c hcy.2) z3
    obtain⟨fs,rfl,w4⟩:=qT (enc:=encF) (w:=fun a=>a.1.length+a.2.vb) (b:=Rows.uptoBulk) (fun c y hcy=>shows_pair shp158 cel158 (by kernel_rfl) (fun m' hm'=>ih m' (by omega)) hcy.2) z4
    have g3:=wo b3
    have g4:=wo b4
    obtain⟨p0,p1,p2,p3,p4,rfl⟩:=len5 hl
    ·skip
     simp only[List.drop_zero,List.take_succ_cons,List.take_zero,List.cons.injEq,and_true,List.drop_succ_cons] at e0 e1 e2 e3 e4
     subst e0;subst e1;subst e2;subst e3;subst e4
     refine⟨.mk k i s is fs,by rw[jI,cel128,cel158];rfl,?_⟩
     rw[vb_eq]
     show 1+s.length+vbs is+fbs fs≤_
     rw[vbs_sum,fbs_sum]
     simp only[Rows.uptoBulk,Rows.uptoBulkAll]
     omega
theorem len3 {α:Type}:∀{l:List α},l.length=3→∃a b c,l=[a,b,c]
 | [a,b,c],_=>⟨a,b,c,rfl⟩
theorem len4 {α:Type}:∀{l:List α},l.length=4→∃a b c d,l=[a,b,c,d]
 | [a,b,c,d],_=>⟨a,b,c,d,rfl⟩
theorem len7 {α:Type}:∀{l:List α},l.length=7→∃a b c d e f g,l=[a,b,c,d,e,f,g]
 | [a,b,c,d,e,f,g],_=>⟨a,b,c,d,e,f,g,rfl⟩
theorem len13 {α:Type}:∀{l:List α},l.length=13→∃a b c d e f g h i j k m n,l=[a,b,c,d,e,f,g,h,i,j,k,m,n]
 | [a,b,c,d,e,f,g,h,i,j,k,m,n],_=>⟨a,b,c,d,e,f,g,h,i,j,k,m,n,rfl⟩
theorem cbs_sum:∀l:List Cnd,cbs l=(l.map Cnd.cb).sum
 | []=>rfl
 | c::l=>by simp[cbs,cbs_sum l]
theorem shows_cnd {H:Type}:∀(n:Nat) (d:DataW H) pvs,wB prog n 30 d pvs→∃c:Cnd,pvs=c.enc∧c.cb≤Rows.uptoBulk d:=by
 intro n
 induction n using Nat.strongRecOn with
 | ind n ih =>
   intro d pvs h
   obtain⟨m,ds,rfl,rfl,hl,hf⟩:=qM shp30 h
   rw[cel30] at hl
   obtain⟨y0,ds,rfl,f0,hf⟩:=zu hf
   obtain⟨y1,ds,rfl,f1,hf⟩:=zu hf
   obtain⟨y2,ds,rfl,f2,hf⟩:=zu hf
   obtain⟨y3,ds,rfl,f3,hf⟩:=zu hf
   obtain⟨y4,ds,rfl,f4,hf⟩:=zu hf
   obtain⟨y5,ds,rfl,f5,hf⟩:=zu hf
   obtain⟨y6,ds,rfl,f6,hf⟩:=zu hf
   obtain rfl:=we hf
   ·skip
    obtain⟨k,rfl,e0,_⟩:=qW (k:=.i64) (by kernel_rfl) f0
    obtain⟨a,rfl,e1,_⟩:=qh (by kernel_rfl) f1
    obtain⟨o,rfl,e2,_⟩:=qW (k:=.i64) (by kernel_rfl) f2
    obtain⟨m3,es3,ds3,hm3,b3,e3,_,z3⟩:=qO (e:=128) (by kernel_rfl) f3
    obtain⟨p,rfl,e4,_⟩:=qh (by kernel_rfl) f4
    obtain⟨nm,rfl,e5,_⟩:=qh (by kernel_rfl) f5
    obtain⟨m6,es6,ds6,hm6,b6,e6,_,z6⟩:=qO (e:=30) (by kernel_rfl) f6
    obtain⟨vs,rfl,w3⟩:=qT (enc:=Val.enc) (w:=Val.vb) (b:=Rows.uptoBulk) (fun c y hcy=>shows_val m3 y c hcy.2) z3
    obtain⟨cs,rfl,w6⟩:=qT (enc:=Cnd.enc) (w:=Cnd.cb) (b:=Rows.uptoBulk) (fun c y hcy=>ih m6 (by omega) y c hcy.2) z6
    have g3:=wo b3
    have g6:=wo b6
    obtain⟨p0,p1,p2,p3,p4,p5,p6,rfl⟩:=len7 hl
    ·skip
     simp only[List.drop_zero,List.take_succ_cons,List.take_zero,List.cons.injEq,and_true,List.drop_succ_cons] at e0 e1 e2 e3 e4 e5 e6
     subst e0;subst e1;subst e2;subst e3;subst e4;subst e5;subst e6
     refine⟨.mk k a o vs p nm cs,by rw[qt,cel128,cel30];rfl,?_⟩
     rw[cb_eq]
     show 1+a.length+vbs vs+p.length+nm.length+cbs cs≤_
     rw[vbs_sum,cbs_sum]
     simp only[Rows.uptoBulk,Rows.uptoBulkAll]
     omega
end Go.Proofs.YtglppmnehgjolaaGreatDoor
namespace Go.Proofs.YtglppmnehgjolaaGreatDoor
open Go.Proofs.Tryz
open Go.RowKit Go.AM Go.SpanLaw
theorem shows_sp {H:Type} {n:Nat} {d:DataW H} {pvs:List PV} (h:wB prog n 67 d pvs):∃s:Sp,pvs=encS s∧1≤Rows.uptoBulk d:=by
 obtain⟨m,ds,rfl,rfl,hl,hf⟩:=qM shp67 h
 rw[cel67] at hl
 obtain⟨y0,ds,rfl,f0,hf⟩:=zu hf
 obtain⟨y1,ds,rfl,f1,hf⟩:=zu hf
 obtain rfl:=we hf
 obtain⟨a,rfl,e0,_⟩:=qW (k:=.i64) (by kernel_rfl) f0
 obtain⟨b,rfl,e1,_⟩:=qW (k:=.i64) (by kernel_rfl) f1
 obtain⟨p0,p1,rfl⟩:=len2 hl
 ·skip
  simp only[List.drop_zero,List.take_succ_cons,List.take_zero,List.cons.injEq,and_true,List.drop_succ_cons] at e0 e1
  subst e0;subst e1
  exact⟨(a,b),rfl,by simp only[Rows.uptoBulk,Rows.uptoBulkAll];omega⟩
theorem shows_rg {H:Type} {n:Nat} {d:DataW H} {pvs:List PV} (h:wB prog n 97 d pvs):∃s:Rg,pvs=encG s∧1≤Rows.uptoBulk d:=by
 obtain⟨m,ds,rfl,rfl,hl,hf⟩:=qM shp97 h
 rw[cel97] at hl
 obtain⟨y0,ds,rfl,f0,hf⟩:=zu hf
 obtain⟨y1,ds,rfl,f1,hf⟩:=zu hf
 obtain⟨y2,ds,rfl,f2,hf⟩:=zu hf
 obtain rfl:=we hf
 obtain⟨a,rfl,e0,_⟩:=qW (k:=.i64) (by kernel_rfl) f0
 obtain⟨b,rfl,e1,_⟩:=qW (k:=.i64) (by kernel_rfl) f1
 obtain⟨c,rfl,e2,_⟩:=qW (k:=.i64) (by kernel_rfl) f2
 obtain⟨p0,p1,p2,rfl⟩:=len3 hl
 ·skip
  simp only[List.drop_zero,List.take_succ_cons,List.take_zero,List.cons.injEq,and_true,List.drop_succ_cons] at e0 e1 e2
  subst e0;subst e1;subst e2
  exact⟨(a,b,c),rfl,by simp only[Rows.uptoBulk,Rows.uptoBulkAll];omega⟩
theorem ones_sum {α:Type} (l:List α):(l.map fun _=>1).sum=l.length:=by
 induction l with
 | nil=>rfl
 | cons x l ih=>simp only[List.map_cons,List.sum_cons,ih,List.length_cons];omega
theorem shows_phs {H:Type} {n:Nat} {d:DataW H} {pvs:List PV} (h:wB prog n 58 d pvs):∃s:Phs,pvs=s.enc∧s.cb≤Rows.uptoBulk d:=by
 obtain⟨m,ds,rfl,rfl,hl,hf⟩:=qM shp58 h
 rw[cel58] at hl
 obtain⟨y0,ds,rfl,f0,hf⟩:=zu hf
 obtain⟨y1,ds,rfl,f1,hf⟩:=zu hf
 obtain rfl:=we hf
 obtain⟨a,rfl,e0,_⟩:=qW (k:=.i64) (by kernel_rfl) f0
 obtain⟨m1,es1,ds1,_,b1,e1,_,z1⟩:=qO (e:=67) (by kernel_rfl) f1
 obtain⟨l,rfl,w1⟩:=qT (enc:=encS) (w:=fun _=>1) (b:=Rows.uptoBulk) (fun c y hcy=>shows_sp hcy.2) z1
 have g1:=wo b1
 rw[ones_sum] at w1
 obtain⟨p0,p1,rfl⟩:=len2 hl
 ·skip
  simp only[List.drop_zero,List.take_succ_cons,List.take_zero,List.cons.injEq,and_true,List.drop_succ_cons] at e0 e1
  subst e0;subst e1
  refine⟨⟨a,l⟩,by rw[cel67];rfl,?_⟩
  show 1+l.length≤_
  simp only[Rows.uptoBulk,Rows.uptoBulkAll]
  omega
theorem shows_lyr {H:Type} {n:Nat} {d:DataW H} {pvs:List PV} (h:wB prog n 90 d pvs):∃s:Lyr,pvs=s.enc∧s.cb≤Rows.uptoBulk d:=by
 obtain⟨m,ds,rfl,rfl,hl,hf⟩:=qM shp90 h
 rw[cel90] at hl
 obtain⟨y0,ds,rfl,f0,hf⟩:=zu hf
 obtain⟨y1,ds,rfl,f1,hf⟩:=zu hf
 obtain⟨y2,ds,rfl,f2,hf⟩:=zu hf
 obtain rfl:=we hf
 obtain⟨a,rfl,e0,_⟩:=qh (by kernel_rfl) f0
 obtain⟨b,rfl,e1,_⟩:=qh (by kernel_rfl) f1
 obtain⟨c,rfl,e2,_⟩:=qW (k:=.i64) (by kernel_rfl) f2
 obtain⟨p0,p1,p2,rfl⟩:=len3 hl
 ·skip
  simp only[List.drop_zero,List.take_succ_cons,List.take_zero,List.cons.injEq,and_true,List.drop_succ_cons] at e0 e1 e2
  subst e0;subst e1;subst e2
  refine⟨⟨a,b,c⟩,rfl,?_⟩
  show 1+a.length+b.length≤_
  simp only[Rows.uptoBulk,Rows.uptoBulkAll]
  omega
theorem shows_strs {H:Type} {n:Nat} {d:DataW H} {pvs:List PV} (h:wB prog n 9 d pvs):∃s:List UInt8,pvs=[str s]∧1+s.length≤Rows.uptoBulk d:=by
 obtain⟨a,rfl,e0,_⟩:=qh (by kernel_rfl) h
 exact⟨a,e0,by simp only[Rows.uptoBulk];omega⟩
theorem shows_hld {H:Type} {n:Nat} {d:DataW H} {pvs:List PV} (h:wB prog n 103 d pvs):∃s:Hld,pvs=s.enc∧s.cb≤Rows.uptoBulk d:=by
 obtain⟨m,ds,rfl,rfl,hl,hf⟩:=qM shp103 h
 rw[cel103] at hl
 obtain⟨y0,ds,rfl,f0,hf⟩:=zu hf
 obtain⟨y1,ds,rfl,f1,hf⟩:=zu hf
 obtain⟨y2,ds,rfl,f2,hf⟩:=zu hf
 obtain⟨y3,ds,rfl,f3,hf⟩:=zu hf
 obtain rfl:=we hf
 obtain⟨a,rfl,e0,_⟩:=qh (by kernel_rfl) f0
 obtain⟨b,rfl,e1,_⟩:=qh (by kernel_rfl) f1
 obtain⟨c,rfl,e2,_⟩:=qW (k:=.i64) (by kernel_rfl) f2
 obtain⟨m3,es3,ds3,_,b3,e3,_,z3⟩:=qO (e:=9) (by kernel_rfl) f3
 obtain⟨l,rfl,w3⟩:=qT (enc:=fun s:List UInt8=>[str s]) (w:=fun s:List UInt8=>1+s.length) (b:=Rows.uptoBulk) (fun c y hcy=>shows_strs hcy.2) z3
 have g3:=wo b3
 obtain⟨p0,p1,p2,p3,rfl⟩:=len4 hl
 ·skip
  simp only[List.drop_zero,List.take_succ_cons,List.take_zero,List.cons.injEq,and_true,List.drop_succ_cons] at e0 e1 e2 e3
  subst e0;subst e1;subst e2;subst e3
  refine⟨⟨a,b,c,l⟩,by rw[cel9];rfl,?_⟩
  show 1+a.length+b.length+(l.map fun s:List UInt8=>1+s.length).sum≤_
  simp only[Rows.uptoBulk,Rows.uptoBulkAll]
  omega
theorem shows_xp {H:Type} {n:Nat} {d:DataW H} {pvs:List PV} (h:wB prog n 34 d pvs):∃s:Xp,pvs=s.enc∧s.cb≤Rows.uptoBulk d:=by
 obtain⟨m,ds,rfl,rfl,hl,hf⟩:=qM shp34 h
 rw[cel34] at hl
 obtain⟨y0,ds,rfl,f0,hf⟩:=zu hf
 obtain⟨y1,ds,rfl,f1,hf⟩:=zu hf
 obtain⟨y2,ds,rfl,f2,hf⟩:=zu hf
 obtain⟨y3,ds,rfl,f3,hf⟩:=zu hf
 obtain⟨y4,ds,rfl,f4,hf⟩:=zu hf
 obtain⟨y5,ds,rfl,f5,hf⟩:=zu hf
 obtain⟨y6,ds,rfl,f6,hf⟩:=zu hf
 obtain rfl:=we hf
 obtain⟨a,rfl,e0,_⟩:=qh (by kernel_rfl) f0
 obtain⟨b,rfl,e1,_⟩:=qh (by kernel_rfl) f1
 obtain⟨c,rfl,e2,_⟩:=qh (by kernel_rfl) f2
 obtain⟨cd,e3,w3⟩:=shows_cnd _ _ _ f3
 obtain⟨sl,rfl,e4,_⟩:=qh (by kernel_rfl) f4
 obtain⟨m5,es5,ds5,_,b5,e5,_,z5⟩:=qO (e:=97) (by kernel_rfl) f5
 obtain⟨m6,es6,ds6,_,b6,e6,_,z6⟩:=qO (e:=58) (by kernel_rfl) f6
 obtain⟨l5,rfl,w5⟩:=qT (enc:=encG) (w:=fun _=>1) (b:=Rows.uptoBulk) (fun c y hcy=>shows_rg hcy.2) z5
 obtain⟨l6,rfl,w6⟩:=qT (enc:=Phs.enc) (w:=Phs.cb) (b:=Rows.uptoBulk) (fun c y hcy=>shows_phs hcy.2) z6
 have g5:=wo b5
 have g6:=wo b6
 rw[ones_sum] at w5
 obtain⟨p0,p1,p2,p3,p4,p5,p6,p7,p8,p9,p10,p11,p12,rfl⟩:=len13 hl
 ·skip
  simp only[List.drop_zero,List.take_succ_cons,List.take_zero,List.cons.injEq,and_true,List.drop_succ_cons] at e0 e1 e2 e3 e4 e5 e6
  subst e0;subst e1;subst e2;subst e4;subst e5;subst e6
  refine⟨⟨a,b,c,cd,sl,l5,l6⟩,by rw[Xp.enc,←e3,cel97,cel58];rfl,?_⟩
  show a.length+b.length+c.length+cd.cb+sl.length+l5.length+(l6.map Phs.cb).sum≤_
  simp only[Rows.uptoBulk,Rows.uptoBulkAll]
  omega
theorem shows_bk {H:Type} {n:Nat} {d:DataW H} {pvs:List PV} (h:wB prog n 26 d pvs):∃s:Bk,pvs=s.enc∧s.cb≤Rows.uptoBulk d:=by
 obtain⟨m,ds,rfl,rfl,hl,hf⟩:=qM shp26 h
 rw[cel26] at hl
 obtain⟨y0,ds,rfl,f0,hf⟩:=zu hf
 obtain⟨y1,ds,rfl,f1,hf⟩:=zu hf
 obtain⟨y2,ds,rfl,f2,hf⟩:=zu hf
 obtain rfl:=we hf
 obtain⟨m0,es0,ds0,_,b0,e0,_,z0⟩:=qO (e:=90) (by kernel_rfl) f0
 obtain⟨m1,es1,ds1,_,b1,e1,_,z1⟩:=qO (e:=103) (by kernel_rfl) f1
 obtain⟨m2,es2,ds2,_,b2,e2,_,z2⟩:=qO (e:=34) (by kernel_rfl) f2
 obtain⟨l0,rfl,w0⟩:=qT (enc:=Lyr.enc) (w:=Lyr.cb) (b:=Rows.uptoBulk) (fun c y hcy=>shows_lyr hcy.2) z0
 obtain⟨l1,rfl,w1⟩:=qT (enc:=Hld.enc) (w:=Hld.cb) (b:=Rows.uptoBulk) (fun c y hcy=>shows_hld hcy.2) z1
 obtain⟨l2,rfl,w2⟩:=qT (enc:=Xp.enc) (w:=Xp.cb) (b:=Rows.uptoBulk) (fun c y hcy=>shows_xp hcy.2) z2
 have g0:=wo b0
 have g1:=wo b1
 have g2:=wo b2
 obtain⟨p0,p1,p2,rfl⟩:=len3 hl
 ·skip
  simp only[List.drop_zero,List.take_succ_cons,List.take_zero,List.cons.injEq,and_true,List.drop_succ_cons] at e0 e1 e2
  subst e0;subst e1;subst e2
  refine⟨⟨l0,l1,l2⟩,by rw[cel90,cel103,cel34];rfl,?_⟩
  show (l0.map Lyr.cb).sum+(l1.map Hld.cb).sum+(l2.map Xp.cb).sum≤_
  simp only[Rows.uptoBulk,Rows.uptoBulkAll]
  omega
end Go.Proofs.YtglppmnehgjolaaGreatDoor
