/-
What a row reads as values, with its bulk.
What a row reads as conditions, with its bulk.
What a row reads as books, with its bulk.
What a row reads as segments, with its bulk.
What the row reads as contexts, with its bulk.
The row of LayerWhereIsOnce: its contract.
layer.Stays, and what it says (plain): the buckets grow.
For all segments, books, contexts, names and times (of bulk up to 1048576) the law burgeelaw4.LayerStaysKeepsCallers answers true: its evaluation.
The row of LayerStaysKeepsCallers: its contract.
-/
import Derived.Test.YtanbabpnlgfcpaaGreatDoorG29
import Derived.Test.YtanbabpnlgfcpaaGreatDoorRows
import Derived.Test.YtanbabpnlgfcpaaGreatDoorG13
import Derived.Test.YtanbabpnlgfcpaaGreatDoorG14
import Derived.Test.YtanbabpnlgfcpaaGreatDoorG23
import Derived.Test.YtanbabpnlgfcpaaGreatDoorG20
import Derived.Test.YtanbabpnlgfcpaaGreatDoorG19
import Derived.Test.YtanbabpnlgfcpaaGreatDoorG27
import Derived.WalkKit
import Derived.ProofKit
import Derived.OpenShut
import Derived.Deep.DeepHandedRow
import Derived.Deep.DeepLaidRun
import Derived.Lib.LaidTab
import Derived.LaidSub
import Derived.MakeChecks
import Derived.SizedLaws
set_option maxRecDepth 8000
namespace Go.Proofs.YtanbabpnlgfcpaaGreatDoor
open Go.Proofs.Tryz
open Go.RowKit Go.AM
theorem len2 {α:Type}:∀{l:List α},l.length=2→∃a b,l=[a,b]
 | [a,b],_=>⟨a,b,rfl⟩
theorem len5 {α:Type}:∀{l:List α},l.length=5→∃a b c d e,l=[a,b,c,d,e]
 | [a,b,c,d,e],_=>⟨a,b,c,d,e,rfl⟩
theorem len6 {α:Type}:∀{l:List α},l.length=6→∃a b c d e f,l=[a,b,c,d,e,f]
 | [a,b,c,d,e,f],_=>⟨a,b,c,d,e,f,rfl⟩
theorem bulkAll_sum {H:Type}:∀ds:List (DataW H),Rows.uptoBulkAll ds=(ds.map Rows.uptoBulk).sum
 | []=>rfl
 | d::ds=>by simp[Rows.uptoBulkAll,bulkAll_sum ds]
theorem qu {H:Type} {d:DataW H} {ds:List (DataW H)} (h:(d=.nil∧ds=[])∨∃sp,d=.slice ds sp):(ds.map Rows.uptoBulk).sum+1≤Rows.uptoBulk d:=by
 rcases h with⟨rfl,rfl⟩ | ⟨sp,rfl⟩
 ·simp[Rows.uptoBulk]
 ·simp only[Rows.uptoBulk,bulkAll_sum];omega
theorem vbs_sum:∀l:List Val,vbs l=(l.map Val.vb).sum
 | []=>rfl
 | v::l=>by simp[vbs,vbs_sum l]
theorem fbs_sum:∀l:List (List UInt8×Val),fbs l=(l.map fun a=>a.1.length+a.2.vb).sum
 | []=>rfl
 | (a,v)::l=>by simp[fbs,fbs_sum l]
theorem shows_pair {H:Type} {t ts:TypeId} (hs:yI prog t=some [(ts,0,1),(87,1,5)]) (hc:prog.cellsOf t=6) (hu:prog.underlying ts=some .string) {n:Nat}
  (ih:∀m,m<n→∀(d:DataW H) pvs,wd prog m 87 d pvs→∃v:Val,pvs=v.enc∧v.vb≤Rows.uptoBulk d) {d:DataW H} {pvs:List PV} (h:wd prog n t d pvs):∃a:List UInt8×Val,pvs=encF a∧a.1.length+a.2.vb≤Rows.uptoBulk d:=by
 obtain⟨m,ds,rfl,rfl,hl,hf⟩:=qo hs h
 rw[hc] at hl
 obtain⟨y0,ds,rfl,f0,hf⟩:=zo hf
 obtain⟨y1,ds,rfl,f1,hf⟩:=zo hf
 obtain rfl:=qE hf
 ·skip
  obtain⟨s,rfl,e0,_⟩:=zW hu f0
  obtain⟨v,e1,hv⟩:=ih m (by omega) _ _ f1
  obtain⟨p0,p1,p2,p3,p4,p5,rfl⟩:=len6 hl
  ·skip
   simp only[List.drop_zero,List.take_succ_cons,List.take_zero,List.cons.injEq,and_true,List.drop_succ_cons] at e0 e1
   subst e0
   refine⟨(s,v),by rw[encF,←e1],?_⟩
   simp only[Rows.uptoBulk,Rows.uptoBulkAll]
   omega
theorem shows_val {H:Type}:∀(n:Nat) (d:DataW H) pvs,wd prog n 87 d pvs→∃v:Val,pvs=v.enc∧v.vb≤Rows.uptoBulk d:=by
 intro n
 induction n using Nat.strongRecOn with
 | ind n ih =>
   intro d pvs h
   obtain⟨m,ds,rfl,rfl,hl,hf⟩:=qo shp87 h
   rw[cel87] at hl
   obtain⟨y0,ds,rfl,f0,hf⟩:=zo hf
   obtain⟨y1,ds,rfl,f1,hf⟩:=zo hf
   obtain⟨y2,ds,rfl,f2,hf⟩:=zo hf
   obtain⟨y3,ds,rfl,f3,hf⟩:=zo hf
   obtain⟨y4,ds,rfl,f4,hf⟩:=zo hf
   obtain rfl:=qE hf
   ·skip
    obtain⟨k,rfl,e0,_⟩:=qK (k:=.i64) (by kernel_rfl) f0
    obtain⟨i,rfl,e1,_⟩:=qK (k:=.i64) (by kernel_rfl) f1
    obtain⟨s,rfl,e2,_⟩:=zW (by kernel_rfl) f2
    obtain⟨m3,es3,ds3,hm3,b3,e3,_,z3⟩:=qi (e:=87) (by kernel_rfl) f3
    obtain⟨m4,es4,ds4,hm4,b4,e4,_,z4⟩:=qi (e:=152) (by kernel_rfl) f4
    obtain rfl:m4=m3:=by omega
    obtain⟨is,rfl,w3⟩:=qn (enc:=Val.enc) (w:=Val.vb) (b:=Rows.uptoBulk) (fun c y hcy=>ih m4 (by omega) y c hcy.2) z3
    obtain⟨fs,rfl,w4⟩:=qn (enc:=encF) (w:=fun a=>a.1.length+a.2.vb) (b:=Rows.uptoBulk) (fun c y hcy=>shows_pair shp152 cel152 (by kernel_rfl) (fun m' hm'=>ih m' (by omega)) hcy.2) z4
    have g3:=qu b3
    have g4:=qu b4
    obtain⟨p0,p1,p2,p3,p4,rfl⟩:=len5 hl
    ·skip
     simp only[List.drop_zero,List.take_succ_cons,List.take_zero,List.cons.injEq,and_true,List.drop_succ_cons] at e0 e1 e2 e3 e4
     subst e0;subst e1;subst e2;subst e3;subst e4
     refine⟨.mk k i s is fs,by rw[yQ,cel87,cel152];rfl,?_⟩
     rw[vb_eq]
     show 1+s.length+vbs is+fbs fs≤_
     rw[vbs_sum,fbs_sum]
     simp only[Rows.uptoBulk,Rows.uptoBulkAll]
     omega
theorem len3 {α:Type}:∀{l:List α},l.length=3→∃a b c,l=[a,b,c]
 | [a,b,c],_=>⟨a,b,c,rfl⟩
theorem len4 {α:Type}:∀{l:List α},l.length=4→∃a b c d,l=[a,b,c,d]
 | [a,b,c,d],_=>⟨a,b,c,d,rfl⟩
theorem len7 {α:Type}:∀{l:List α},l.length=7→∃a b c d e f g,l=[a,b,c,d,e,f,g]
 | [a,b,c,d,e,f,g],_=>⟨a,b,c,d,e,f,g,rfl⟩
theorem len13 {α:Type}:∀{l:List α},l.length=13→∃a b c d e f g h i j k m n,l=[a,b,c,d,e,f,g,h,i,j,k,m,n]
 | [a,b,c,d,e,f,g,h,i,j,k,m,n],_=>⟨a,b,c,d,e,f,g,h,i,j,k,m,n,rfl⟩
theorem cbs_sum:∀l:List Cnd,cbs l=(l.map Cnd.cb).sum
 | []=>rfl
 | c::l=>by simp[cbs,cbs_sum l]
theorem shows_cnd {H:Type}:∀(n:Nat) (d:DataW H) pvs,wd prog n 68 d pvs→∃c:Cnd,pvs=c.enc∧c.cb≤Rows.uptoBulk d:=by
 intro n
 induction n using Nat.strongRecOn with
 | ind n ih =>
   intro d pvs h
   obtain⟨m,ds,rfl,rfl,hl,hf⟩:=qo shp68 h
   rw[cel68] at hl
   obtain⟨y0,ds,rfl,f0,hf⟩:=zo hf
   obtain⟨y1,ds,rfl,f1,hf⟩:=zo hf
   obtain⟨y2,ds,rfl,f2,hf⟩:=zo hf
   obtain⟨y3,ds,rfl,f3,hf⟩:=zo hf
   obtain⟨y4,ds,rfl,f4,hf⟩:=zo hf
   obtain⟨y5,ds,rfl,f5,hf⟩:=zo hf
   obtain⟨y6,ds,rfl,f6,hf⟩:=zo hf
   obtain rfl:=qE hf
   ·skip
    obtain⟨k,rfl,e0,_⟩:=qK (k:=.i64) (by kernel_rfl) f0
    obtain⟨a,rfl,e1,_⟩:=zW (by kernel_rfl) f1
    obtain⟨o,rfl,e2,_⟩:=qK (k:=.i64) (by kernel_rfl) f2
    obtain⟨m3,es3,ds3,hm3,b3,e3,_,z3⟩:=qi (e:=87) (by kernel_rfl) f3
    obtain⟨p,rfl,e4,_⟩:=zW (by kernel_rfl) f4
    obtain⟨nm,rfl,e5,_⟩:=zW (by kernel_rfl) f5
    obtain⟨m6,es6,ds6,hm6,b6,e6,_,z6⟩:=qi (e:=68) (by kernel_rfl) f6
    obtain⟨vs,rfl,w3⟩:=qn (enc:=Val.enc) (w:=Val.vb) (b:=Rows.uptoBulk) (fun c y hcy=>shows_val m3 y c hcy.2) z3
    obtain⟨cs,rfl,w6⟩:=qn (enc:=Cnd.enc) (w:=Cnd.cb) (b:=Rows.uptoBulk) (fun c y hcy=>ih m6 (by omega) y c hcy.2) z6
    have g3:=qu b3
    have g6:=qu b6
    obtain⟨p0,p1,p2,p3,p4,p5,p6,rfl⟩:=len7 hl
    ·skip
     simp only[List.drop_zero,List.take_succ_cons,List.take_zero,List.cons.injEq,and_true,List.drop_succ_cons] at e0 e1 e2 e3 e4 e5 e6
     subst e0;subst e1;subst e2;subst e3;subst e4;subst e5;subst e6
     refine⟨.mk k a o vs p nm cs,by rw[ql,cel87,cel68];rfl,?_⟩
     rw[cb_eq]
     show 1+a.length+vbs vs+p.length+nm.length+cbs cs≤_
     rw[vbs_sum,cbs_sum]
     simp only[Rows.uptoBulk,Rows.uptoBulkAll]
     omega
end Go.Proofs.YtanbabpnlgfcpaaGreatDoor
namespace Go.Proofs.YtanbabpnlgfcpaaGreatDoor
open Go.Proofs.Tryz
open Go.RowKit Go.AM Go.SpanLaw
theorem shows_sp {H:Type} {n:Nat} {d:DataW H} {pvs:List PV} (h:wd prog n 45 d pvs):∃s:Sp,pvs=encS s∧1≤Rows.uptoBulk d:=by
 obtain⟨m,ds,rfl,rfl,hl,hf⟩:=qo shp45 h
 rw[cel45] at hl
 obtain⟨y0,ds,rfl,f0,hf⟩:=zo hf
 obtain⟨y1,ds,rfl,f1,hf⟩:=zo hf
 obtain rfl:=qE hf
 obtain⟨a,rfl,e0,_⟩:=qK (k:=.i64) (by kernel_rfl) f0
 obtain⟨b,rfl,e1,_⟩:=qK (k:=.i64) (by kernel_rfl) f1
 obtain⟨p0,p1,rfl⟩:=len2 hl
 ·skip
  simp only[List.drop_zero,List.take_succ_cons,List.take_zero,List.cons.injEq,and_true,List.drop_succ_cons] at e0 e1
  subst e0;subst e1
  exact⟨(a,b),rfl,by simp only[Rows.uptoBulk,Rows.uptoBulkAll];omega⟩
theorem shows_rg {H:Type} {n:Nat} {d:DataW H} {pvs:List PV} (h:wd prog n 132 d pvs):∃s:Rg,pvs=encG s∧1≤Rows.uptoBulk d:=by
 obtain⟨m,ds,rfl,rfl,hl,hf⟩:=qo shp132 h
 rw[cel132] at hl
 obtain⟨y0,ds,rfl,f0,hf⟩:=zo hf
 obtain⟨y1,ds,rfl,f1,hf⟩:=zo hf
 obtain⟨y2,ds,rfl,f2,hf⟩:=zo hf
 obtain rfl:=qE hf
 obtain⟨a,rfl,e0,_⟩:=qK (k:=.i64) (by kernel_rfl) f0
 obtain⟨b,rfl,e1,_⟩:=qK (k:=.i64) (by kernel_rfl) f1
 obtain⟨c,rfl,e2,_⟩:=qK (k:=.i64) (by kernel_rfl) f2
 obtain⟨p0,p1,p2,rfl⟩:=len3 hl
 ·skip
  simp only[List.drop_zero,List.take_succ_cons,List.take_zero,List.cons.injEq,and_true,List.drop_succ_cons] at e0 e1 e2
  subst e0;subst e1;subst e2
  exact⟨(a,b,c),rfl,by simp only[Rows.uptoBulk,Rows.uptoBulkAll];omega⟩
theorem ones_sum {α:Type} (l:List α):(l.map fun _=>1).sum=l.length:=by
 induction l with
 | nil=>rfl
 | cons x l ih=>simp only[List.map_cons,List.sum_cons,ih,List.length_cons];omega
theorem shows_phs {H:Type} {n:Nat} {d:DataW H} {pvs:List PV} (h:wd prog n 75 d pvs):∃s:Phs,pvs=s.enc∧s.cb≤Rows.uptoBulk d:=by
 obtain⟨m,ds,rfl,rfl,hl,hf⟩:=qo shp75 h
 rw[cel75] at hl
 obtain⟨y0,ds,rfl,f0,hf⟩:=zo hf
 obtain⟨y1,ds,rfl,f1,hf⟩:=zo hf
 obtain rfl:=qE hf
 obtain⟨a,rfl,e0,_⟩:=qK (k:=.i64) (by kernel_rfl) f0
 obtain⟨m1,es1,ds1,_,b1,e1,_,z1⟩:=qi (e:=45) (by kernel_rfl) f1
 obtain⟨l,rfl,w1⟩:=qn (enc:=encS) (w:=fun _=>1) (b:=Rows.uptoBulk) (fun c y hcy=>shows_sp hcy.2) z1
 have g1:=qu b1
 rw[ones_sum] at w1
 obtain⟨p0,p1,rfl⟩:=len2 hl
 ·skip
  simp only[List.drop_zero,List.take_succ_cons,List.take_zero,List.cons.injEq,and_true,List.drop_succ_cons] at e0 e1
  subst e0;subst e1
  refine⟨⟨a,l⟩,by rw[cel45];rfl,?_⟩
  show 1+l.length≤_
  simp only[Rows.uptoBulk,Rows.uptoBulkAll]
  omega
theorem shows_lyr {H:Type} {n:Nat} {d:DataW H} {pvs:List PV} (h:wd prog n 94 d pvs):∃s:Lyr,pvs=s.enc∧s.cb≤Rows.uptoBulk d:=by
 obtain⟨m,ds,rfl,rfl,hl,hf⟩:=qo shp94 h
 rw[cel94] at hl
 obtain⟨y0,ds,rfl,f0,hf⟩:=zo hf
 obtain⟨y1,ds,rfl,f1,hf⟩:=zo hf
 obtain⟨y2,ds,rfl,f2,hf⟩:=zo hf
 obtain rfl:=qE hf
 obtain⟨a,rfl,e0,_⟩:=zW (by kernel_rfl) f0
 obtain⟨b,rfl,e1,_⟩:=zW (by kernel_rfl) f1
 obtain⟨c,rfl,e2,_⟩:=qK (k:=.i64) (by kernel_rfl) f2
 obtain⟨p0,p1,p2,rfl⟩:=len3 hl
 ·skip
  simp only[List.drop_zero,List.take_succ_cons,List.take_zero,List.cons.injEq,and_true,List.drop_succ_cons] at e0 e1 e2
  subst e0;subst e1;subst e2
  refine⟨⟨a,b,c⟩,rfl,?_⟩
  show 1+a.length+b.length≤_
  simp only[Rows.uptoBulk,Rows.uptoBulkAll]
  omega
theorem shows_strs {H:Type} {n:Nat} {d:DataW H} {pvs:List PV} (h:wd prog n 9 d pvs):∃s:List UInt8,pvs=[str s]∧1+s.length≤Rows.uptoBulk d:=by
 obtain⟨a,rfl,e0,_⟩:=zW (by kernel_rfl) h
 exact⟨a,e0,by simp only[Rows.uptoBulk];omega⟩
theorem shows_hld {H:Type} {n:Nat} {d:DataW H} {pvs:List PV} (h:wd prog n 104 d pvs):∃s:Hld,pvs=s.enc∧s.cb≤Rows.uptoBulk d:=by
 obtain⟨m,ds,rfl,rfl,hl,hf⟩:=qo shp104 h
 rw[cel104] at hl
 obtain⟨y0,ds,rfl,f0,hf⟩:=zo hf
 obtain⟨y1,ds,rfl,f1,hf⟩:=zo hf
 obtain⟨y2,ds,rfl,f2,hf⟩:=zo hf
 obtain⟨y3,ds,rfl,f3,hf⟩:=zo hf
 obtain rfl:=qE hf
 obtain⟨a,rfl,e0,_⟩:=zW (by kernel_rfl) f0
 obtain⟨b,rfl,e1,_⟩:=zW (by kernel_rfl) f1
 obtain⟨c,rfl,e2,_⟩:=qK (k:=.i64) (by kernel_rfl) f2
 obtain⟨m3,es3,ds3,_,b3,e3,_,z3⟩:=qi (e:=9) (by kernel_rfl) f3
 obtain⟨l,rfl,w3⟩:=qn (enc:=fun s:List UInt8=>[str s]) (w:=fun s:List UInt8=>1+s.length) (b:=Rows.uptoBulk) (fun c y hcy=>shows_strs hcy.2) z3
 have g3:=qu b3
 obtain⟨p0,p1,p2,p3,rfl⟩:=len4 hl
 ·skip
  simp only[List.drop_zero,List.take_succ_cons,List.take_zero,List.cons.injEq,and_true,List.drop_succ_cons] at e0 e1 e2 e3
  subst e0;subst e1;subst e2;subst e3
  refine⟨⟨a,b,c,l⟩,by rw[cel9];rfl,?_⟩
  show 1+a.length+b.length+(l.map fun s:List UInt8=>1+s.length).sum≤_
  simp only[Rows.uptoBulk,Rows.uptoBulkAll]
  omega
theorem shows_xp {H:Type} {n:Nat} {d:DataW H} {pvs:List PV} (h:wd prog n 72 d pvs):∃s:Xp,pvs=s.enc∧s.cb≤Rows.uptoBulk d:=by
 obtain⟨m,ds,rfl,rfl,hl,hf⟩:=qo shp72 h
 rw[cel72] at hl
 obtain⟨y0,ds,rfl,f0,hf⟩:=zo hf
 obtain⟨y1,ds,rfl,f1,hf⟩:=zo hf
 obtain⟨y2,ds,rfl,f2,hf⟩:=zo hf
 obtain⟨y3,ds,rfl,f3,hf⟩:=zo hf
 obtain⟨y4,ds,rfl,f4,hf⟩:=zo hf
 obtain⟨y5,ds,rfl,f5,hf⟩:=zo hf
 obtain⟨y6,ds,rfl,f6,hf⟩:=zo hf
 obtain rfl:=qE hf
 obtain⟨a,rfl,e0,_⟩:=zW (by kernel_rfl) f0
 obtain⟨b,rfl,e1,_⟩:=zW (by kernel_rfl) f1
 obtain⟨c,rfl,e2,_⟩:=zW (by kernel_rfl) f2
 obtain⟨cd,e3,w3⟩:=shows_cnd _ _ _ f3
 obtain⟨sl,rfl,e4,_⟩:=zW (by kernel_rfl) f4
 obtain⟨m5,es5,ds5,_,b5,e5,_,z5⟩:=qi (e:=132) (by kernel_rfl) f5
 obtain⟨m6,es6,ds6,_,b6,e6,_,z6⟩:=qi (e:=75) (by kernel_rfl) f6
 obtain⟨l5,rfl,w5⟩:=qn (enc:=encG) (w:=fun _=>1) (b:=Rows.uptoBulk) (fun c y hcy=>shows_rg hcy.2) z5
 obtain⟨l6,rfl,w6⟩:=qn (enc:=Phs.enc) (w:=Phs.cb) (b:=Rows.uptoBulk) (fun c y hcy=>shows_phs hcy.2) z6
 have g5:=qu b5
 have g6:=qu b6
 rw[ones_sum] at w5
 obtain⟨p0,p1,p2,p3,p4,p5,p6,p7,p8,p9,p10,p11,p12,rfl⟩:=len13 hl
 ·skip
  simp only[List.drop_zero,List.take_succ_cons,List.take_zero,List.cons.injEq,and_true,List.drop_succ_cons] at e0 e1 e2 e3 e4 e5 e6
  subst e0;subst e1;subst e2;subst e4;subst e5;subst e6
  refine⟨⟨a,b,c,cd,sl,l5,l6⟩,by rw[Xp.enc,←e3,cel132,cel75];rfl,?_⟩
  show a.length+b.length+c.length+cd.cb+sl.length+l5.length+(l6.map Phs.cb).sum≤_
  simp only[Rows.uptoBulk,Rows.uptoBulkAll]
  omega
theorem shows_bk {H:Type} {n:Nat} {d:DataW H} {pvs:List PV} (h:wd prog n 27 d pvs):∃s:Bk,pvs=s.enc∧s.cb≤Rows.uptoBulk d:=by
 obtain⟨m,ds,rfl,rfl,hl,hf⟩:=qo shp27 h
 rw[cel27] at hl
 obtain⟨y0,ds,rfl,f0,hf⟩:=zo hf
 obtain⟨y1,ds,rfl,f1,hf⟩:=zo hf
 obtain⟨y2,ds,rfl,f2,hf⟩:=zo hf
 obtain rfl:=qE hf
 obtain⟨m0,es0,ds0,_,b0,e0,_,z0⟩:=qi (e:=94) (by kernel_rfl) f0
 obtain⟨m1,es1,ds1,_,b1,e1,_,z1⟩:=qi (e:=104) (by kernel_rfl) f1
 obtain⟨m2,es2,ds2,_,b2,e2,_,z2⟩:=qi (e:=72) (by kernel_rfl) f2
 obtain⟨l0,rfl,w0⟩:=qn (enc:=Lyr.enc) (w:=Lyr.cb) (b:=Rows.uptoBulk) (fun c y hcy=>shows_lyr hcy.2) z0
 obtain⟨l1,rfl,w1⟩:=qn (enc:=Hld.enc) (w:=Hld.cb) (b:=Rows.uptoBulk) (fun c y hcy=>shows_hld hcy.2) z1
 obtain⟨l2,rfl,w2⟩:=qn (enc:=Xp.enc) (w:=Xp.cb) (b:=Rows.uptoBulk) (fun c y hcy=>shows_xp hcy.2) z2
 have g0:=qu b0
 have g1:=qu b1
 have g2:=qu b2
 obtain⟨p0,p1,p2,rfl⟩:=len3 hl
 ·skip
  simp only[List.drop_zero,List.take_succ_cons,List.take_zero,List.cons.injEq,and_true,List.drop_succ_cons] at e0 e1 e2
  subst e0;subst e1;subst e2
  refine⟨⟨l0,l1,l2⟩,by rw[cel94,cel104,cel72];rfl,?_⟩
  show (l0.map Lyr.cb).sum+(l1.map Hld.cb).sum+(l2.map Xp.cb).sum≤_
  simp only[Rows.uptoBulk,Rows.uptoBulkAll]
  omega
theorem len10 {α:Type}:∀{l:List α},l.length=10→∃a b c d e f g h i j,l=[a,b,c,d,e,f,g,h,i,j]
 | [a,b,c,d,e,f,g,h,i,j],_=>⟨a,b,c,d,e,f,g,h,i,j,rfl⟩
theorem shows_sgm {H:Type} {n:Nat} {d:DataW H} {pvs:List PV} (h:wd prog n 108 d pvs):∃s:Sgm,pvs=s.enc∧s.cb≤Rows.uptoBulk d:=by
 obtain⟨m,ds,rfl,rfl,hl,hf⟩:=qo shp108 h
 rw[cel108] at hl
 obtain⟨y0,ds,rfl,f0,hf⟩:=zo hf
 obtain⟨y1,ds,rfl,f1,hf⟩:=zo hf
 obtain⟨y2,ds,rfl,f2,hf⟩:=zo hf
 obtain⟨y3,ds,rfl,f3,hf⟩:=zo hf
 obtain rfl:=qE hf
 obtain⟨a,rfl,e0,_⟩:=zW (by kernel_rfl) f0
 obtain⟨m1,es1,ds1,_,b1,e1,_,z1⟩:=qi (e:=9) (by kernel_rfl) f1
 obtain⟨m2,es2,ds2,_,b2,e2,_,z2⟩:=qi (e:=9) (by kernel_rfl) f2
 obtain⟨cd,e3,w3⟩:=shows_cnd _ _ _ f3
 obtain⟨l1,rfl,w1⟩:=qn (enc:=fun s:List UInt8=>[str s]) (w:=fun s:List UInt8=>1+s.length) (b:=Rows.uptoBulk) (fun c y hcy=>shows_strs hcy.2) z1
 obtain⟨l2,rfl,w2⟩:=qn (enc:=fun s:List UInt8=>[str s]) (w:=fun s:List UInt8=>1+s.length) (b:=Rows.uptoBulk) (fun c y hcy=>shows_strs hcy.2) z2
 have g1:=qu b1
 have g2:=qu b2
 obtain⟨p0,p1,p2,p3,p4,p5,p6,p7,p8,p9,rfl⟩:=len10 hl
 ·skip
  simp only[List.drop_zero,List.take_succ_cons,List.take_zero,List.cons.injEq,and_true,List.drop_succ_cons] at e0 e1 e2 e3
  subst e0;subst e1;subst e2
  refine⟨⟨a,l1,l2,cd⟩,by rw[Sgm.enc,←e3,cel9];rfl,?_⟩
  show 1+a.length+(l1.map fun s:List UInt8=>1+s.length).sum+(l2.map fun s:List UInt8=>1+s.length).sum+cd.cb≤_
  simp only[Rows.uptoBulk,Rows.uptoBulkAll]
  omega
theorem shows_sgms {H:Type} {n:Nat} {d:DataW H} {pv:PV} (h:wd prog n 22 d [pv]):∃l:List Sgm,pv=.sl 10 (l.map Sgm.enc)∧sgb l+1≤Rows.uptoBulk d:=by
 obtain⟨m,es,ds,rfl,b1,e1,_,z⟩:=qi usl22 h
 obtain⟨l,rfl,w1⟩:=qn (enc:=Sgm.enc) (w:=Sgm.cb) (b:=Rows.uptoBulk) (fun c y hcy=>shows_sgm hcy.2) z
 have g1:=qu b1
 simp only[List.cons.injEq,and_true] at e1
 rw[cel108] at e1
 exact⟨l,e1,by unfold sgb;omega⟩
end Go.Proofs.YtanbabpnlgfcpaaGreatDoor
namespace Go.Proofs.YtanbabpnlgfcpaaGreatDoor
open Go.Proofs.Tryz
open Go.RowKit Go.AM
theorem shows_ctxt {H:Type} {n:Nat} {d:DataW H} {pvs:List PV} (h:wd prog n 30 d pvs):∃x:Ctxt,pvs=x.enc∧x.cb+1≤Rows.uptoBulk d:=by
 obtain⟨m,ds,rfl,rfl,hl,hf⟩:=qo shp30 h
 rw[cel30] at hl
 obtain⟨y0,ds,rfl,f0,hf⟩:=zo hf
 obtain⟨y1,ds,rfl,f1,hf⟩:=zo hf
 obtain rfl:=qE hf
 ·skip
  obtain⟨s,rfl,e0,_⟩:=zW (by kernel_rfl) f0
  obtain⟨m1,es,ds1,rfl,b1,e1,_,z1⟩:=qi (e:=89) (by kernel_rfl) f1
  obtain⟨l,rfl,w1⟩:=qn (enc:=encF) (w:=fun a=>a.1.length+a.2.vb) (b:=Rows.uptoBulk) (fun c y hcy=>shows_pair shp89 cel89 (by kernel_rfl) (fun m' _=>shows_val m') hcy.2) z1
  have g1:=qu b1
  obtain⟨p0,p1,rfl⟩:=len2 hl
  ·skip
   simp only[List.drop_zero,List.take_succ_cons,List.take_zero,List.cons.injEq,and_true,List.drop_succ_cons] at e0 e1
   subst e0;subst e1
   refine⟨⟨s,l⟩,by rw[Ctxt.enc,cel89],?_⟩
   rw[xcb_eq]
   show s.length+fbs l+1≤_
   rw[fbs_sum]
   simp only[Rows.uptoBulk,Rows.uptoBulkAll]
   omega
end Go.Proofs.YtanbabpnlgfcpaaGreatDoor
namespace Go.Proofs.YtanbabpnlgfcpaaGreatDoor
open Go.Proofs.Tryz
open Go.RowKit Go.AM Go.SpanLaw Go.ChangeShapes Go.WideShapes Go.ChangeAt
theorem lwLaidOut:laidOutB prog=true:=by kernel_rfl
def lwTypes:List TypeId:=[22,108,102,9,68,66,65,87,85,152,3,27,23,24,25,94,104,72,69,132,70,75,40,45,30,28,89]
theorem lwTypesOk:typesOk prog lwTypes=true:=by kernel_rfl
theorem lwParams_ok:∀t∈Tryz.f3.params.toList,prog.readableRec t=true∧t<prog.types.size:=by
 intro t ht
 have ht:t=22∨t=27∨t=30∨t=3:=by simpa[Tryz.f3] using ht
 rcases ht with rfl | rfl | rfl | rfl
 ·exact⟨by kernel_rfl,of_decide_eq_true (by kernel_rfl)⟩
 ·exact⟨by kernel_rfl,of_decide_eq_true (by kernel_rfl)⟩
 ·exact⟨by kernel_rfl,of_decide_eq_true (by kernel_rfl)⟩
 ·exact⟨by kernel_rfl,of_decide_eq_true (by kernel_rfl)⟩
set_option maxRecDepth 100000 in
theorem lwContract (H:Type) (enc:TypeId×Value→H) (W:World) (base:Nat) (args:Array Value) (ds gs:List (DataW H)) (before:List MemPlace)
  (hval:∀(j:Nat) t v,Tryz.f3.params[j]?=some t→args[j]?=some v→Value.okWide prog W .any base t v)
  (hW:DataW.Whole enc prog Tryz.f3.params.toList Rows.layerWhereIsOnceSpec.vars false W args.toList ds gs before)
  (hk:Rows.uptoSmall H (ds++gs)=true) (hsh:W.ShapedOpen prog) (htab:∀t∈yT,TabOk W (fun b=>b<W.heap.size) t) :
  Calls prog 3 args W fun e W'=>∃v,e=.returned v∧Rows.layerWhereIsOnceSpec.post enc prog Tryz.f3 false true false false W args v W':=by
 have hW':=hW
 obtain⟨p,q,hA0,hV,rfl,hfz,hnd⟩:=hW
 have hA:DataW.TrodAll enc prog W 0 (fun _=>true) true Tryz.f3.params.toList args.toList ds p:=hA0
 rw[params3] at hA hval
 obtain⟨v0,vs0,d0,ds0,p0,q0,hargs,rfl,rfl,h0,r0⟩:=trodAll_cons hA
 obtain⟨v1,vs1,d1,ds1,p1,q1,rfl,rfl,rfl,h1,r1⟩:=trodAll_cons r0
 obtain⟨v2,vs2,d2,ds2,p2,q2,rfl,rfl,rfl,h2,r2⟩:=trodAll_cons r1
 obtain⟨v3,vs3,d3,ds3,p3,q3,rfl,rfl,rfl,h3,r3⟩:=trodAll_cons r2
 obtain⟨rfl,rfl,rfl⟩:=trodAll_nil r3
 obtain rfl:args=#[v0,v1,v2,v3]:=by cases args;simp_all
 obtain⟨rfl,rfl⟩:=trodVars_none hV
 obtain⟨n0,pv0,s0,rp0⟩:=vQ lwTypesOk (t:=22) (by decide) (fun⟨fs,hfs⟩=>by rw[usl22] at hfs;cases hfs) (hval 0 22 v0 rfl rfl) h0
 obtain⟨fs1,hu1,_⟩:=yJ shp27
 have hv1:=hval 1 27 v1 rfl rfl
 obtain⟨n1,pvs1,s1,rp1⟩:=vP (P:=prog) (r:=.any) (base:=base) (v:=v1) (w:=W) lwTypesOk (t:=27) (by decide) hu1 hv1 h1
 obtain⟨fs2,hu2,_⟩:=yJ shp30
 have hv2:=hval 2 30 v2 rfl rfl
 obtain⟨n2,pvs2,s2,rp2⟩:=vP (P:=prog) (r:=.any) (base:=base) (v:=v2) (w:=W) lwTypesOk (t:=30) (by decide) hu2 hv2 h2
 obtain⟨n3,pv3,s3,rp3⟩:=vQ lwTypesOk (t:=3) (by decide) (fun⟨fs,hfs⟩=>by rw[un3] at hfs;cases hfs) (hval 3 3 v3 rfl rfl) h3
 obtain⟨l,rfl,b0⟩:=shows_sgms s0
 obtain⟨b,rfl,b1⟩:=shows_bk s1
 obtain⟨x,rfl,b2⟩:=shows_ctxt s2
 obtain⟨n,rfl,e3,_⟩:=qK un3 s3
 simp only[List.cons.injEq,and_true] at e3
 subst e3
 have hb:Rows.uptoBulkAll [d0,d1,d2,.lit (.int .i64 n)]≤1048576:=by
  have:=of_decide_eq_true hk
  simpa using this
 simp only[Rows.uptoBulkAll,Rows.uptoBulk] at hb
 have hlim:lim=2097152:=rfl
 have g0:sgb l≤lim:=by omega
 have g1:b.cb≤lim:=by omega
 have g2:x.cb+2≤lim:=by omega
 obtain⟨code,hkn⟩:=lw_known
 refine (law_calls goodlwi hkn (lw_eval l b x n g0 g1 g2) (by simp[Tryz.f3]) (w:=W) (vs:=[v0,v1,v2,v3]) hsh htab (.cons rp0 (.cons rp1 (.cons rp2 (.cons rp3 .nil))))).mono fun e W' hh=>?_
 obtain⟨rfl,hbl⟩:=hh
 exact⟨_,rfl,law_post lwLaidOut lwParams_ok rfl hW' rfl (tb:=4) rfl un4 hbl⟩
end Go.Proofs.YtanbabpnlgfcpaaGreatDoor
namespace Go.Proofs.YtanbabpnlgfcpaaGreatDoor
open Go.Proofs.Tryz
open Go.RowKit Go.AM Go.SpanLaw
def stG (from_ to_:Int):List Sp→List Phs→Bool
 | _,[]=>true
 | B,p::l=>if p.at_≤from_∨to_<p.at_ then stG from_ to_ B l else if (mins B p.spans).length=0 then stG from_ to_ p.spans l else false
theorem stG_drop {f t:Int} {B:List Sp} {l:List Phs} {k:Nat} (h:k<l.length):stG f t B (l.drop k)=if l[k].at_≤f∨t<l[k].at_ then stG f t B (l.drop (k+1)) else if (mins B l[k].spans).length=0 then stG f t l[k].spans (l.drop (k+1)) else false:=by
 rw[List.drop_eq_getElem_cons h,stG]
noncomputable def stR (b:Bk) (s:List UInt8) (f t:Int):Bool×Int:=if chkX b s f=0 then (if j6 t=true then (if t<f then (false,8) else (match b.exps[(bsN (b.exps.map Xp.name) s).1]? with
 | some x=>(stG f t (hasG [] f x.phases) x.phases,0)
 | none=>(false,0))) else (false,1)) else (false,chkX b s f)
noncomputable def stP (b:Bk) (s:List UInt8) (f t:Int):PV:=.tup [boo (stR b s f t).1,int (stR b s f t).2]
noncomputable def FBS4 (out:Bk→List UInt8→Int→Int→PV):List PV→Option PV:=zG (α:=Bk×List UInt8×Int×Int) (fun a=>[.agg a.1.enc,str a.2.1,int a.2.2.1,int a.2.2.2]) (fun a=>a.1.cb≤lim) (fun a=>out a.1 a.2.1 a.2.2.1 a.2.2.2)
theorem FBS4_call (out:Bk→List UInt8→Int→Int→PV) (b:Bk) (s:List UInt8) (f t:Int) (hp:Hp) (nx:Nat) (h:b.cb≤lim):zc false [] (FBS4 out) [.agg b.enc,str s,int f,int t] hp nx=some (out b s f t,hp,nx) :=
 zt (hp1:=hp) (show zh hp [.agg b.enc,str s,int f,int t]=some ([.agg b.enc,str s,int f,int t],hp) by simp[Bk.enc]) (zn (enc:=fun a:Bk×List UInt8×Int×Int=>[.agg a.1.enc,str a.2.1,int a.2.2.1,int a.2.2.2]) (a:=(b,s,f,t)) (fun x y e=>by
  obtain⟨x1,x2,x3,x4⟩:=x;obtain⟨y1,y2,y3,y4⟩:=y
  simp only[List.cons.injEq,and_true,PV.agg.injEq] at e
  rw[bk_inj e.1,zM e.2.1,zD e.2.2.1,zD e.2.2.2]) h) (.inr (by simp[Bk.enc]))
noncomputable abbrev Csty:Ctx:=zA prog [(21,zc false [] (FBNI fun b s n=>.tup [int (kE b s n),int (chkX b s n)])),(15,zc false [] (FIb j6)),(23,zc false [] (FXI (fun x n=>.sl 2 ((hasG [] n x.phases).map encS)) fun x _=>x.phases.length≤lim)),(25,zc false [] (FPP (fun a b=>.sl 2 ((mins a b).map encS)) fun a b=>okS a∧okS b))]
theorem goodsty:AM.Good Csty (fun g=>([]:List Nat).contains g):=zk mixed ⟨cx_sound,by simp,yF,by simp,hasX_sound,by simp,minus2_sound,by simp,trivial⟩
theorem sty_known:kz Csty (fun g=>([]:List Nat).contains g) 11 f11:=⟨_,func11,by kernel_rfl,rfl,by kernel_rfl⟩
theorem has_okS {b:Bk} (h:qb b=0) {e:Xp} (he:e∈b.exps) (n:Int):okS (hasG [] n e.phases):=by
 rcases hasG_or n e.phases [] with g | ⟨p,hp,g⟩
 ·rw[g];exact okS_nil
 ·rw[g];exact okS_of (yi ((chk_ok h).2.1 e he).1 p hp)
set_option maxHeartbeats 2000000 in
theorem Stays_eval (b:Bk) (s:List UInt8) (f t:Int) (hb:b.cb≤lim):zi Csty f11 [.agg b.enc,str s,int f,int t]=some (stP b s f t):=by
 refine zb rfl ?_
 have hlim:lim=2097152:=rfl
 have hbc:b.cb=sumB Lyr.cb b.layers+sumB Hld.cb b.holds+sumB Xp.cb b.exps:=rfl
 have hcl:=fun hp nx=>FBNI_call (fun b s n=>.tup [int (kE b s n),int (chkX b s n)]) b s f hp nx hb
 simp only[Bk.enc] at hcl
 by_cases c1:chkX b s f=0
 case neg =>
  have hv:stR b s f t=(false,chkX b s f):=by unfold stR;rw[if_neg c1]
  have c1':(chkX b s f != 0)=true:=by simpa using c1
  simp[Bk.enc,hcl,c1',stP,hv,zU,f11]
 obtain⟨hk,hfl,_⟩:=chkX_ok c1
 have hci:kE b s f=(bsN (b.exps.map Xp.name) s).1:=by unfold kE;rw[if_pos c1]
 obtain⟨q,hq⟩:∃q,(bsN (b.exps.map Xp.name) s).1=q:=⟨_,rfl⟩
 have hql:q<b.exps.length:=by have:=bsN_lt hfl;rw[hq] at this;simpa using this
 obtain⟨x,hx⟩:∃x,b.exps[q]=x:=⟨_,rfl⟩
 have hxm:x∈b.exps:=by rw[←hx];exact List.getElem_mem hql
 have hmx:=qA (f:=Xp.cb) hxm
 have hxc:x.cb=x.name.length+x.layer.length+x.flag.length+x.cond.cb+x.salt.length+x.arms.length+sumB Phs.cb x.phases:=rfl
 have hxpl:=qg phs_pos x.phases
 rw[c1,hci,hq] at hcl
 have hv0:stR b s f t=if j6 t=true then (if t<f then (false,8) else (stG f t (hasG [] f x.phases) x.phases,0)) else (false,1):=by
  unfold stR;rw[if_pos c1,hq,List.getElem?_eq_getElem hql,hx]
 cases c2:j6 t
 ·have hv:stR b s f t=(false,1):=by rw[hv0,c2,if_neg (by simp)]
  simp[Bk.enc,hcl,c2,stP,hv,zU,f11]
 by_cases c3:t<f
 ·have hv:stR b s f t=(false,8):=by rw[hv0,c2,if_pos rfl,if_pos c3]
  simp[Bk.enc,hcl,c2,c3,stP,hv,zU,f11]
 have hv:stR b s f t=(stG f t (hasG [] f x.phases) x.phases,0):=by rw[hv0,c2,if_pos rfl,if_neg c3]
 have hhc:=fun hp nx=>FXI_call (fun x n=>.sl 2 ((hasG [] n x.phases).map encS)) (fun x _=>x.phases.length≤lim) x f hp nx (by omega)
 simp only[zS] at hhc
 obtain⟨B0,hB0⟩:∃B,hasG [] f x.phases=B:=⟨_,rfl⟩
 have hok0:okS B0:=by rw[←hB0];exact has_okS hk hxm f
 rw[hB0] at hhc hv
 have hps:=yi ((chk_ok hk).2.1 x hxm).1
 obtain⟨R,hR⟩:∃R,stG f t B0 x.phases=R:=⟨_,rfl⟩
 rw[hR] at hv
 simp[Bk.enc,hcl,c2,c3,hql,hx,zS,hhc]
 refine zC (fun k σ hp nx=>σ 2=int f∧σ 3=int t∧σ 44=.sl 2 (x.phases.map Phs.enc)∧σ 45=int x.phases.length∧σ 46=int k∧∃B,okS B∧σ 13=.sl 2 (B.map encS)∧R=stG f t B (x.phases.drop k)) x.phases.length
  ⟨by simp,by simp,by simp,by simp,by simp,B0,hok0,by simp,by simp[hR]⟩ ?_
 rintro k σ hp nx hkl ⟨h2,h3,h44,h45,h46,B,hB,h13,he⟩
 by_cases hlt:k<x.phases.length
 ·obtain⟨p,hp0⟩:∃p,x.phases[k]=p:=⟨_,rfl⟩
  have hpm:p∈x.phases:=by rw[←hp0];exact List.getElem_mem hlt
  have hw:IntKind.i64.wrap ((k:Int)+1)=(k:Int)+1:=zd (by omega) (by omega)
  have hokp:=okS_of (hps p hpm)
  have g1:=fun hp nx=>FPP_call (fun a b=>.sl 2 ((mins a b).map encS)) (fun a b=>okS a∧okS b) B p.spans hp nx ⟨hB,hokp⟩
  rw[stG_drop hlt,hp0] at he
  by_cases d1:p.at_≤f
  ·rw[if_pos (.inl d1)] at he
   simp[h2,h3,h44,h45,h46,h13,hlt,hp0,Phs.enc,d1,hw]
   exact⟨by omega,B,hB,rfl,he⟩
  by_cases d2:t<p.at_
  ·rw[if_pos (.inr d2)] at he
   simp[h2,h3,h44,h45,h46,h13,hlt,hp0,Phs.enc,d1,d2,hw]
   exact⟨by omega,B,hB,rfl,he⟩
  rw[if_neg (by omega)] at he
  by_cases d3:(mins B p.spans).length=0
  ·rw[if_pos d3] at he
   have d3':¬0<(mins B p.spans).length:=by omega
   simp[h2,h3,h44,h45,h46,h13,hlt,hp0,Phs.enc,d1,d2,g1,d3,d3',hw]
   exact⟨by omega,p.spans,hokp,rfl,he⟩
  ·rw[if_neg d3] at he
   have d3':0<(mins B p.spans).length:=by omega
   simp[h2,h3,h44,h45,h46,h13,hlt,hp0,Phs.enc,d1,d2,g1,d3',stP,hv,he,zU,f11]
 ·obtain rfl:k=x.phases.length:=by omega
  rw[List.drop_length,stG] at he
  simp[h2,h3,h44,h45,h46,stP,hv,he,zU,f11]
theorem Stays_sound:za prog 11 (zc false [] (FBS4 stP)) :=
 zJ (fn:=f11) goodsty sty_known false [] _ fun args r h=>by
  obtain⟨⟨b,s,f,t⟩,rfl,h1,rfl⟩:=zf h
  exact⟨Nat.le_trans (Nat.le_refl 4) (by decide),_,Stays_eval b s f t h1,zI _⟩
theorem mins_none {B S:List Sp} (hB:okS B) (hS:okS S) (h:(mins B S).length=0) {k:Int} (hk:mem B k):mem S k:=by
 refine Classical.byContradiction fun hn=>?_
 have:=(mins_mem hB.1 hS.1 (k:=k)).2 ⟨hk,hn⟩
 obtain⟨s,hs,_⟩:=this
 rw[List.length_eq_zero_iff.1 h] at hs
 cases hs
theorem st_more {f t:Int}:∀{l:List Phs} {B:List Sp},(∀p∈l,f<p.at_∧okS p.spans)→okS B→stG f t B l=true→∀k,mem B k→mem (hasG B t l) k
 | [],B,_,_,_,k,hk=>hk
 | p::l,B,h,hB,hs,k,hk=>by
   obtain⟨h1,h2⟩:=h p (by simp)
   have ih:=fun {B'} (hB':okS B') hs'=>st_more (f:=f) (t:=t) (l:=l) (B:=B') (fun q hq=>h q (by simp[hq])) hB' hs'
   simp only[stG] at hs
   simp only[hasG]
   by_cases c:p.at_≤t
   ·rw[if_neg (by omega)] at hs
    rw[if_pos c]
    split at hs
    ·rename_i hz
     exact ih h2 hs k (mins_none hB h2 hz hk)
    ·cases hs
   ·rw[if_pos (.inr (by omega))] at hs
    rw[if_neg c]
    exact ih hB hs k hk
theorem hasG_none {n:Int}:∀{l:List Phs} {acc:List Sp},(∀p∈l,n<p.at_)→hasG acc n l=acc
 | [],_,_=>rfl
 | p::l,acc,h=>by
   have:=h p (by simp)
   simp only[hasG]
   rw[if_neg (by omega)]
   exact hasG_none fun q hq=>h q (by simp[hq])
theorem st_grow {f t:Int} (hft:f≤t):∀{l:List Phs} {acc:List Sp},l.Pairwise (fun p q=>p.at_<q.at_)→(∀p∈l,okS p.spans)→okS acc→stG f t (hasG acc f l) l=true→∀k,mem (hasG acc f l) k→mem (hasG acc t l) k
 | [],_,_,_,_,_,_,hk=>hk
 | p::l,acc,hi,ho,ha,hs,k,hk=>by
   rw[List.pairwise_cons] at hi
   by_cases c:p.at_≤f
   ·simp only[hasG,if_pos c] at hs hk ⊢
    rw[if_pos (by omega)]
    simp only[stG] at hs
    rw[if_pos (.inl c)] at hs
    exact st_grow hft hi.2 (fun q hq=>ho q (by simp[hq])) (ho p (by simp)) hs k hk
   ·have hall:∀q∈p::l,f<q.at_:=fun q hq=>by
     rcases List.mem_cons.1 hq with rfl | hq
     ·omega
     ·have:=hi.1 q hq;omega
    rw[hasG_none hall] at hs hk
    exact st_more (fun q hq=>⟨hall q hq,ho q hq⟩) ha hs k hk
theorem phF_inc:∀{xs:List Phs} {p:Option Int} {b:List Sp},phF p b xs=0→(∀q,p=some q→∀y∈xs,q<y.at_)∧xs.Pairwise fun a c=>a.at_<c.at_
 | [],_,_,_=>⟨(fun _ _ y hy=>by cases hy),.nil⟩
 | x::xs,p,b,h=>by
   simp only[phF] at h
   split at h
   case isFalse=>simp at h
   split at h
   ·simp at h
   rename_i hp
   split at h
   case isFalse c=>exact absurd h c
   split at h
   ·simp at h
   obtain⟨h1,h2⟩:=phF_inc h
   have hx:=h1 x.at_ rfl
   refine⟨fun q hq y hy=>?_,List.pairwise_cons.2 ⟨hx,h2⟩⟩
   subst hq
   have hqx:q<x.at_:=by simpa[prevAt] using hp
   rcases List.mem_cons.1 hy with rfl | hy
   ·exact hqx
   ·have:=hx y hy;omega
theorem phases_up {l:List Phs} (h:qJ l=0):l.Pairwise fun a c=>a.at_<c.at_:=by
 unfold qJ at h
 split at h
 ·simp at h
 ·exact (phF_inc h).2
theorem any_mem {l:List Sp} {n:Int}:l.any (inSp n)=true↔mem l n:=by
 rw[List.any_eq_true]
 simp only[inSp,Bool.and_eq_true,decide_eq_true_eq]
 exact Iff.rfl
theorem stays_law {l:List Sgm} {b:Bk} {x:Ctxt} {s:List UInt8} {f t:Int} (h1:(stR b s f t).1=true) (h2:(whR l b x f).2=0) (h3:(whR l b x t).2=0):∀p∈(whR l b x f).1,p.ex=s→p∈(whR l b x t).1:=by
 intro p hp hs
 have key:∀n,(whR l b x n).2=0→(whR l b x n).1=whL l b x n b.layers∧qb b=0:=fun n hn=>by
  unfold whR at hn ⊢
  split at hn
  case isFalse c=>exact absurd hn c
  rename_i c1
  split at hn
  case isFalse c=>simp at hn
  rename_i c2
  split at hn
  case isFalse c=>exact absurd hn c
  rename_i c3
  rw[if_pos c1,if_pos c2,if_pos c3]
  exact⟨rfl,(chkB_ok c1).2.1⟩
 obtain⟨e1,hk⟩:=key f h2
 obtain⟨e2,_⟩:=key t h3
 rw[e1] at hp
 rw[e2]
 obtain⟨y,hy,hh,e,he,hin,rfl⟩:=whL_mem.1 hp
 refine whL_mem.2 ⟨y,hy,hh,e,he,?_,rfl⟩
 obtain⟨a1,a2,a3⟩:=inX_spec hin
 have hs:e.name=s:=hs
 obtain⟨j,hj,hb⟩:=found_exp hk he
 unfold stR at h1
 split at h1
 case isFalse=>simp at h1
 split at h1
 case isFalse=>simp at h1
 split at h1
 ·simp at h1
 rename_i hft
 rw[←hs,hb] at h1
 simp only[hj] at h1
 have hph:=((chk_ok hk).2.1 e he).1
 have hg:=st_grow (by omega) (phases_up hph) (fun p hp=>okS_of (yi hph p hp)) okS_nil h1 (xy y.salt x.key) (any_mem.1 a2)
 simp only[inX,Bool.and_eq_true,beq_iff_eq]
 exact⟨a1,any_mem.2 hg,a3⟩
def eqPl (a b:Pl):Bool:=a.ly==b.ly&&(a.ex==b.ex&&(a.bu==b.bu&&a.arm==b.arm))
theorem eqPl_iff (a b:Pl):eqPl a b=true↔a=b:=by
 obtain⟨a1,a2,a3,a4⟩:=a;obtain⟨b1,b2,b3,b4⟩:=b
 simp[eqPl]
def idxPl (v:Pl):Nat→List Pl→Int
 | _,[]=>-1
 | k,s::l=>if eqPl v s=true then k else idxPl v (k+1) l
theorem idxPl_any (v:Pl):∀(l:List Pl) (k:Nat),decide (0≤idxPl v k l)=l.any (eqPl v)
 | [],k=>by simp[idxPl]
 | s::l,k=>by
   cases h:eqPl v s
   ·rw[idxPl,h,if_neg (by simp),idxPl_any v l (k+1),List.any_cons,h];rfl
   ·rw[idxPl,h,if_pos rfl,List.any_cons,h];simp
noncomputable def FPl (out:List Pl→Pl→PV):List PV→Option PV:=zG (α:=List Pl×Pl) (fun a=>[.sl 4 (a.1.map qp),.agg (qp a.2)]) (fun a=>a.1.length≤lim) (fun a=>out a.1 a.2)
theorem FPl_call (out:List Pl→Pl→PV) (l:List Pl) (v:Pl) (hp:Hp) (nx:Nat) (h:l.length≤lim) (hf:(out l v).flat=true):zc false [] (FPl out) [.sl 4 (l.map qp),.agg (qp v)] hp nx=some (out l v,hp,nx) :=
 zt (hp1:=hp) (show zh hp [.sl 4 (l.map qp),.agg (qp v)]=some ([.sl 4 (l.map qp),.agg (qp v)],hp) by simp[qp]) (zn (enc:=fun a:List Pl×Pl=>[PV.sl 4 (a.1.map qp),.agg (qp a.2)]) (a:=(l,v)) (fun a b e=>by
  obtain⟨a1,a2⟩:=a;obtain⟨b1,b2⟩:=b
  simp only[List.cons.injEq,and_true,PV.agg.injEq] at e
  obtain⟨e1,e2⟩:=e
  injection e1 with _ e1
  rw[qH (fun _ _=>encPl_inj) e1,encPl_inj e2]) h) (.inl hf)
theorem binPl (v s:Pl):binA prog .eql 37 (.agg [str v.ly,str v.ex,int v.bu,int v.arm]) (.agg [str s.ly,str s.ex,int s.bu,int s.arm])=some (boo (eqPl v s)):=by
 have hb:∀a b:List UInt8,(ByteArray.mk a.toArray==ByteArray.mk b.toArray)=(a==b):=fun a b=>by
  show (a.toArray==b.toArray)=(a==b)
  simp
 rw[bin_agg,fl37]
 simp[zY,eqPl,hb]
theorem idxPl_eval (l:List Pl) (v:Pl) (h:l.length≤lim):zi C0 f26 [.sl 4 (l.map qp),.agg (qp v)]=some (int (idxPl v 0 l)):=by
 refine zb rfl ?_
 unfold lim at h
 simp[qp]
 refine zC (fun k σ hp nx=>σ 0=.sl 4 (l.map qp)∧σ 3=.ref 0 0 0∧hp 0=some (boxP v)∧σ 7=int l.length∧σ 8=int k∧idxPl v 0 l=idxPl v k (l.drop k)) l.length ⟨by simp[qp],by simp,by simp[boxP,qp],by simp,by simp,by simp⟩ ?_
 rintro k σ hp nx hk ⟨h0,h3,b0,h7,h8,he⟩
 by_cases hlt:k<l.length
 ·obtain⟨s,hs⟩:∃s,l[k]=s:=⟨_,rfl⟩
  have hw:IntKind.i64.wrap ((k:Int)+1)=(k:Int)+1:=zd (by omega) (by omega)
  rw[List.drop_eq_getElem_cons hlt,hs] at he
  simp only[idxPl] at he
  have b0':=b0
  simp only[boxP,qp] at b0'
  have hev:=binPl v s
  cases hc:eqPl v s<;>rw[hc] at hev
  ·rw[hc,if_neg (by simp)] at he
   simp[h0,h3,b0',h7,h8,hlt,hs,qp,hev,hw]
   exact⟨by omega,rfl,he⟩
  ·rw[hc,if_pos rfl] at he
   simp[h0,h3,b0',h7,h8,hlt,hs,qp,hev,he,f26]
 ·obtain rfl:k=l.length:=by omega
  rw[List.drop_length] at he
  simp only[idxPl] at he
  simp[h0,h3,h7,h8,he,f26]
theorem idxPl_sound:za prog 26 (zc false [] (FPl fun l v=>int (idxPl v 0 l))) :=
 zJ (fn:=f26) wA ⟨_,func26,by kernel_rfl,rfl,by kernel_rfl⟩ false [] _ fun args r h=>by
  obtain⟨⟨l,v⟩,rfl,hx,rfl⟩:=zf h
  exact⟨Nat.le_trans (Nat.le_refl 2) (by decide),_,idxPl_eval l v hx,zI _⟩
noncomputable abbrev Cctp:Ctx:=zA prog [(26,zc false [] (FPl fun l v=>int (idxPl v 0 l)))]
theorem ctPl_sound:za prog 12 (zc false [] (FPl fun l v=>boo (l.any (eqPl v)))) :=
 zJ (fn:=f12) (zk (q:=[]) mixed ⟨idxPl_sound,by simp,trivial⟩:AM.Good Cctp _) ⟨_,func12,by kernel_rfl,rfl,by kernel_rfl⟩ false [] _ fun args r h=>by
  obtain⟨⟨l,v⟩,rfl,hx,rfl⟩:=zf h
  have hc:=fun hp nx=>FPl_call (fun l v=>int (idxPl v 0 l)) l v hp nx hx rfl
  have hm:=idxPl_any v l 0
  simp only[qp] at hc
  exact⟨by simp[f12],_,zb rfl (by simp[qp,hc,hm,f12]),zI _⟩
theorem st_fault {b:Bk} {s:List UInt8} {f t:Int} (h:(stR b s f t).2≠0):(stR b s f t).1=false:=by
 unfold stR at h ⊢
 split
 ·rename_i c1
  rw[if_pos c1] at h
  split
  ·rename_i c2
   rw[if_pos c2] at h
   split
   ·rfl
   ·rename_i c3
    rw[if_neg c3] at h
    split
    ·rename_i x hx
     rw[hx] at h
     exact absurd rfl h
    ·rfl
  ·rfl
 ·rfl
theorem where_short {l:List Sgm} {b:Bk} {x:Ctxt} {n:Int}:(whR l b x n).1.length≤2000:=by
 have:=whL_len l b x n b.layers
 unfold whR
 split
 ·rename_i c
  obtain⟨h1,h2⟩:=chk_lens (chkB_ok c).2.1
  have h3:=Nat.mul_le_mul h1 h2
  split
  ·split
   ·simp only;omega
   ·simp
  ·simp
 ·simp
noncomputable abbrev Clsi:Ctx:=zA prog [(5,zc false [] yesF),(11,zc false [] (FBS4 stP)),(6,zc false [] (FWh (fun l b x n=>plTup (whR l b x n)) fun a=>sgb a.1≤lim∧a.2.1.cb≤lim∧a.2.2.1.cb+2≤lim)),(12,zc false [] (FPl fun l v=>boo (l.any (eqPl v))))]
theorem goodlsi:AM.Good Clsi (fun g=>([]:List Nat).contains g):=zk mixed ⟨awake_sound,by simp,Stays_sound,by simp,Where_sound,by simp,ctPl_sound,by simp,trivial⟩
set_option maxHeartbeats 4000000 in
theorem ls_eval (l:List Sgm) (b:Bk) (x:Ctxt) (s:List UInt8) (f t:Int) (hl:sgb l≤lim) (hb:b.cb≤lim) (hx:x.cb+2≤lim):zi Clsi Tryz.f4 [.sl 10 (l.map Sgm.enc),.agg b.enc,.agg x.enc,str s,int f,int t]=some (boo true):=by
 refine zb rfl ?_
 have hlim:lim=2097152:=rfl
 have law0:=st_fault (b:=b) (s:=s) (f:=f) (t:=t)
 have law1:=fun n=>where_fault (l:=l) (b:=b) (x:=x) (n:=n)
 have law2:=stays_law (l:=l) (b:=b) (x:=x) (s:=s) (f:=f) (t:=t)
 have len:=fun n=>where_short (l:=l) (b:=b) (x:=x) (n:=n)
 have hwh:=fun n hp nx=>FWh_call (fun l b x n=>plTup (whR l b x n)) (fun a=>sgb a.1≤lim∧a.2.1.cb≤lim∧a.2.2.1.cb+2≤lim) l b x n hp nx ⟨hl,hb,hx⟩
 have haw:∀hp nx,zc false [] yesF [] hp nx=some (boo true,hp,nx):=fun hp nx=>zt (hp1:=hp) rfl rfl (.inr rfl)
 have hst:=fun hp nx=>FBS4_call stP b s f t hp nx hb
 obtain⟨⟨o,e0⟩,hS⟩:∃r,stR b s f t=r:=⟨_,rfl⟩
 obtain⟨⟨P,e1⟩,hP⟩:∃r,whR l b x f=r:=⟨_,rfl⟩
 obtain⟨⟨Q,e2⟩,hQ⟩:∃r,whR l b x t=r:=⟨_,rfl⟩
 have lP:=law1 f
 have lQ:=law1 t
 have nP:=len f
 have nQ:=len t
 rw[hP] at lP nP
 rw[hQ] at lQ nQ
 rw[hS] at law0
 rw[hS,hP,hQ] at law2
 simp only at law0 law2 lP lQ nP nQ
 have hstv:∀hp nx,zc false [] (FBS4 stP) [.agg b.enc,str s,int f,int t] hp nx=some (.tup [boo o,int e0],hp,nx):=fun hp nx=>by rw[hst,stP,hS]
 have hwP:∀hp nx,zc false [] (FWh (fun l b x n=>plTup (whR l b x n)) fun a=>sgb a.1≤lim∧a.2.1.cb≤lim∧a.2.2.1.cb+2≤lim) [.sl 10 (l.map Sgm.enc),.agg b.enc,.agg x.enc,int f] hp nx=some (.tup [.sl 4 (P.map qp),int e1],hp,nx):=fun hp nx=>by rw[hwh,hP];rfl
 have hwQ:∀hp nx,zc false [] (FWh (fun l b x n=>plTup (whR l b x n)) fun a=>sgb a.1≤lim∧a.2.1.cb≤lim∧a.2.2.1.cb+2≤lim) [.sl 10 (l.map Sgm.enc),.agg b.enc,.agg x.enc,int t] hp nx=some (.tup [.sl 4 (Q.map qp),int e2],hp,nx):=fun hp nx=>by rw[hwh,hQ];rfl
 simp only[Bk.enc,Ctxt.enc] at hstv hwP hwQ
 by_cases c0:e0=0
 case neg =>
  have ho:=law0 c0
  subst ho
  have c0':(e0 != 0)=true:=by simpa using c0
  simp[Bk.enc,Ctxt.enc,haw,hstv,hwP,hwQ,c0',zU,Tryz.f4]
 cases o
 case false =>
  by_cases d1:e1=0<;>by_cases d2:e2=0<;>simp[Bk.enc,Ctxt.enc,haw,hstv,hwP,hwQ,c0,d1,d2,zU,Tryz.f4]
 by_cases c1:e1=0
 case neg =>
  have hh:=lP c1
  subst hh
  have c1':(e1 != 0)=true:=by simpa using c1
  simp[Bk.enc,Ctxt.enc,haw,hstv,hwP,hwQ,c0,c1',zU,Tryz.f4]
 by_cases c2:e2=0
 case neg =>
  have hh:=lQ c2
  subst hh
  have c2':(e2 != 0)=true:=by simpa using c2
  by_cases hz:P.length=0
  ·have hz':P=[]:=List.length_eq_zero_iff.1 hz
   subst hz'
   simp[Bk.enc,Ctxt.enc,haw,hstv,hwP,hwQ,c0,c1,c2',zU,Tryz.f4]
  ·have hz1:((P.length:Int)==0)=false:=by simpa using hz
   simp[Bk.enc,Ctxt.enc,haw,hstv,hwP,hwQ,c0,c1,c2',hz,hz1,zU,Tryz.f4]
 have law:=law2 rfl c1 c2
 simp[Bk.enc,Ctxt.enc,haw,hstv,hwP,hwQ,c0,c1,c2]
 refine zC (fun k σ hp nx=>σ 3=str s∧σ 17=.sl 4 (Q.map qp)∧σ 73=.sl 4 (P.map qp)∧σ 74=int P.length∧σ 75=int k) P.length ⟨by simp,by simp,by simp,by simp,by simp⟩ ?_
 rintro k σ hp nx hk ⟨h3,h17,h73,h74,h75⟩
 by_cases hlt:k<P.length
 ·obtain⟨p,hpd⟩:∃p,P[k]=p:=⟨_,rfl⟩
  have hpm:p∈P:=by rw[←hpd];exact List.getElem_mem hlt
  have hw:IntKind.i64.wrap ((k:Int)+1)=(k:Int)+1:=zd (by omega) (by omega)
  have hc:=fun hp nx=>FPl_call (fun l v=>boo (l.any (eqPl v))) Q p hp nx (by omega) rfl
  simp only[qp] at hc
  by_cases d:p.ex=s
  ·have hany:Q.any (eqPl p)=true:=List.any_eq_true.2 ⟨p,law p hpm d,(eqPl_iff p p).2 rfl⟩
   simp[h3,h17,h73,h74,h75,hlt,hpd,qp,d,hw]
   simp[qp,d] at hc
   simp[hc,hany,hw,h3,h17,h73,h74,h75]
   omega
  ·have d':(p.ex==s)=false:=by simpa using d
   simp[h3,h17,h73,h74,h75,hlt,hpd,qp,d',hw]
   omega
 ·obtain rfl:k=P.length:=by omega
  simp[h73,h74,h75,zU,Tryz.f4]
set_option maxRecDepth 100000 in
theorem ls_known:kz Clsi (fun g=>([]:List Nat).contains g) 4 Tryz.f4:=⟨_,func4,by kernel_rfl,rfl,by kernel_rfl⟩
end Go.Proofs.YtanbabpnlgfcpaaGreatDoor
namespace Go.Proofs.YtanbabpnlgfcpaaGreatDoor
open Go.Proofs.Tryz
open Go.RowKit Go.AM Go.SpanLaw Go.ChangeShapes Go.WideShapes Go.ChangeAt
theorem lsLaidOut:laidOutB prog=true:=by kernel_rfl
def lsTypes:List TypeId:=[22,108,102,9,68,66,65,87,85,152,3,27,23,24,25,94,104,72,69,132,70,75,40,45,30,28,89]
theorem j7:typesOk prog lsTypes=true:=by kernel_rfl
theorem lsParams_ok:∀t∈Tryz.f4.params.toList,prog.readableRec t=true∧t<prog.types.size:=by
 intro t ht
 have ht:t=22∨t=27∨t=30∨t=9∨t=3:=by simpa[Tryz.f4] using ht
 rcases ht with rfl | rfl | rfl | rfl | rfl
 ·exact⟨by kernel_rfl,of_decide_eq_true (by kernel_rfl)⟩
 ·exact⟨by kernel_rfl,of_decide_eq_true (by kernel_rfl)⟩
 ·exact⟨by kernel_rfl,of_decide_eq_true (by kernel_rfl)⟩
 ·exact⟨by kernel_rfl,of_decide_eq_true (by kernel_rfl)⟩
 ·exact⟨by kernel_rfl,of_decide_eq_true (by kernel_rfl)⟩
set_option maxRecDepth 100000 in
theorem lsContract (H:Type) (enc:TypeId×Value→H) (W:World) (base:Nat) (args:Array Value) (ds gs:List (DataW H)) (before:List MemPlace)
  (hval:∀(j:Nat) t v,Tryz.f4.params[j]?=some t→args[j]?=some v→Value.okWide prog W .any base t v)
  (hW:DataW.Whole enc prog Tryz.f4.params.toList Rows.layerStaysKeepsCallersSpec.vars false W args.toList ds gs before)
  (hk:Rows.uptoSmall H (ds++gs)=true) (hsh:W.ShapedOpen prog) (htab:∀t∈yT,TabOk W (fun b=>b<W.heap.size) t) :
  Calls prog 4 args W fun e W'=>∃v,e=.returned v∧Rows.layerStaysKeepsCallersSpec.post enc prog Tryz.f4 false true false false W args v W':=by
 have hW':=hW
 obtain⟨p,q,hA0,hV,rfl,hfz,hnd⟩:=hW
 have hA:DataW.TrodAll enc prog W 0 (fun _=>true) true Tryz.f4.params.toList args.toList ds p:=hA0
 rw[params4] at hA hval
 obtain⟨v0,vs0,d0,ds0,p0,q0,hargs,rfl,rfl,h0,r0⟩:=trodAll_cons hA
 obtain⟨v1,vs1,d1,ds1,p1,q1,rfl,rfl,rfl,h1,r1⟩:=trodAll_cons r0
 obtain⟨v2,vs2,d2,ds2,p2,q2,rfl,rfl,rfl,h2,r2⟩:=trodAll_cons r1
 obtain⟨v3,vs3,d3,ds3,p3,q3,rfl,rfl,rfl,h3,r3⟩:=trodAll_cons r2
 obtain⟨v4,vs4,d4,ds4,p4,q4,rfl,rfl,rfl,h4,r4⟩:=trodAll_cons r3
 obtain⟨v5,vs5,d5,ds5,p5,q5,rfl,rfl,rfl,h5,r5⟩:=trodAll_cons r4
 obtain⟨rfl,rfl,rfl⟩:=trodAll_nil r5
 obtain rfl:args=#[v0,v1,v2,v3,v4,v5]:=by cases args;simp_all
 obtain⟨rfl,rfl⟩:=trodVars_none hV
 obtain⟨n0,pv0,s0,rp0⟩:=vQ j7 (t:=22) (by decide) (fun⟨fs,hfs⟩=>by rw[usl22] at hfs;cases hfs) (hval 0 22 v0 rfl rfl) h0
 obtain⟨fs1,hu1,_⟩:=yJ shp27
 have hv1:=hval 1 27 v1 rfl rfl
 obtain⟨n1,pvs1,s1,rp1⟩:=vP (P:=prog) (r:=.any) (base:=base) (v:=v1) (w:=W) j7 (t:=27) (by decide) hu1 hv1 h1
 obtain⟨fs2,hu2,_⟩:=yJ shp30
 have hv2:=hval 2 30 v2 rfl rfl
 obtain⟨n2,pvs2,s2,rp2⟩:=vP (P:=prog) (r:=.any) (base:=base) (v:=v2) (w:=W) j7 (t:=30) (by decide) hu2 hv2 h2
 obtain⟨n3,pv3,s3,rp3⟩:=vQ j7 (t:=9) (by decide) (fun⟨fs,hfs⟩=>by rw[un9] at hfs;cases hfs) (hval 3 9 v3 rfl rfl) h3
 obtain⟨n4,pv4,s4,rp4⟩:=vQ j7 (t:=3) (by decide) (fun⟨fs,hfs⟩=>by rw[un3] at hfs;cases hfs) (hval 4 3 v4 rfl rfl) h4
 obtain⟨n5,pv5,s5,rp5⟩:=vQ j7 (t:=3) (by decide) (fun⟨fs,hfs⟩=>by rw[un3] at hfs;cases hfs) (hval 5 3 v5 rfl rfl) h5
 obtain⟨l,rfl,b0⟩:=shows_sgms s0
 obtain⟨b,rfl,b1⟩:=shows_bk s1
 obtain⟨x,rfl,b2⟩:=shows_ctxt s2
 obtain⟨s,rfl,e3,_⟩:=zW un9 s3
 obtain⟨f,rfl,e4,_⟩:=qK un3 s4
 obtain⟨t,rfl,e5,_⟩:=qK un3 s5
 simp only[List.cons.injEq,and_true] at e3 e4 e5
 subst e3;subst e4;subst e5
 have hb:Rows.uptoBulkAll [d0,d1,d2,.lit (.string s),.lit (.int .i64 f),.lit (.int .i64 t)]≤1048576:=by
  have:=of_decide_eq_true hk
  simpa using this
 simp only[Rows.uptoBulkAll,Rows.uptoBulk] at hb
 have hlim:lim=2097152:=rfl
 have g0:sgb l≤lim:=by omega
 have g1:b.cb≤lim:=by omega
 have g2:x.cb+2≤lim:=by omega
 obtain⟨code,hkn⟩:=ls_known
 refine (law_calls goodlsi hkn (ls_eval l b x s f t g0 g1 g2) (by simp[Tryz.f4]) (w:=W) (vs:=[v0,v1,v2,v3,v4,v5]) hsh htab (.cons rp0 (.cons rp1 (.cons rp2 (.cons rp3 (.cons rp4 (.cons rp5 .nil))))))).mono fun e W' hh=>?_
 obtain⟨rfl,hbl⟩:=hh
 exact⟨_,rfl,law_post lsLaidOut lsParams_ok rfl hW' rfl (tb:=4) rfl un4 hbl⟩
end Go.Proofs.YtanbabpnlgfcpaaGreatDoor
