/-
What a row reads as values, with its bulk.
-/
import Derived.Test.YtjcofiomfmebkaaGreatDoorG34
import Derived.Test.YtjcofiomfmebkaaGreatDoorRows
import Derived.Test.YtjcofiomfmebkaaGreatDoorG14
import Derived.Test.YtjcofiomfmebkaaGreatDoorG24
import Derived.Test.YtjcofiomfmebkaaGreatDoorG28
import Derived.Test.YtjcofiomfmebkaaGreatDoorG25
import Derived.Test.YtjcofiomfmebkaaGreatDoorG33
import Derived.WalkKit
import Derived.ProofKit
import Derived.OpenShut
import Derived.Deep.DeepHandedRow
import Derived.Deep.DeepLaidRun
import Derived.Lib.LaidTab
import Derived.LaidSub
import Derived.MakeChecks
import Derived.SizedLaws
set_option maxRecDepth 8000
namespace Go.Proofs.YtjcofiomfmebkaaGreatDoor
open Go.Proofs.Tryz
open Go.RowKit Go.AM
theorem zw2 {α:Type}:∀{l:List α},l.length=2→∃a b,l=[a,b]
 | [a,b],_=>⟨a,b,rfl⟩
theorem zw3 {α:Type}:∀{l:List α},l.length=5→∃a b c d e,l=[a,b,c,d,e]
 | [a,b,c,d,e],_=>⟨a,b,c,d,e,rfl⟩
theorem zw4 {α:Type}:∀{l:List α},l.length=6→∃a b c d e f,l=[a,b,c,d,e,f]
 | [a,b,c,d,e,f],_=>⟨a,b,c,d,e,f,rfl⟩
theorem VS {H:Type}:∀ds:List (DataW H),Rows.uptoBulkAll ds=(ds.map Rows.uptoBulk).sum
 | []=>rfl
 | d::ds=>by simp[Rows.uptoBulkAll,VS ds]
theorem y7 {H:Type} {d:DataW H} {ds:List (DataW H)} (h:(d=.nil∧ds=[])∨∃sp,d=.slice ds sp):(ds.map Rows.uptoBulk).sum+1≤Rows.uptoBulk d:=by
 rcases h with⟨rfl,rfl⟩ | ⟨sp,rfl⟩
 ·simp[Rows.uptoBulk]
 ·simp only[Rows.uptoBulk,VS];omega
theorem zgR:∀l:List Val,vbs l=(l.map Val.vb).sum
 | []=>rfl
 | v::l=>by simp[vbs,zgR l]
theorem zgS:∀l:List (List UInt8×Val),fbs l=(l.map fun a=>a.1.length+a.2.vb).sum
 | []=>rfl
 | (a,v)::l=>by simp[fbs,zgS l]
theorem zaz {H:Type} {t ts:TypeId} (hs:Qy prog t=some [(ts,0,1),(61,1,5)]) (hc:prog.cellsOf t=6) (hu:prog.underlying ts=some .string) {n:Nat}
  (ih:∀m,m<n→∀(d:DataW H) pvs,ye prog m 61 d pvs→∃v:Val,pvs=v.enc∧v.vb≤Rows.uptoBulk d) {d:DataW H} {pvs:List PV} (h:ye prog n t d pvs):∃a:List UInt8×Val,pvs=wF a∧a.1.length+a.2.vb≤Rows.uptoBulk d:=by
 obtain⟨m,ds,rfl,rfl,hl,hf⟩:=jO hs h
 rw[hc] at hl
 obtain⟨y0,ds,rfl,f0,hf⟩:=zY hf
 obtain⟨y1,ds,rfl,f1,hf⟩:=zY hf
 obtain rfl:=kQ hf
 ·skip
  obtain⟨s,rfl,e0,_⟩:=wx hu f0
  obtain⟨v,e1,hv⟩:=ih m (by omega) _ _ f1
  obtain⟨p0,p1,p2,p3,p4,p5,rfl⟩:=zw4 hl
  ·skip
   simp only[List.drop_zero,List.take_succ_cons,List.take_zero,List.cons.injEq,and_true,List.drop_succ_cons] at e0 e1
   subst e0
   refine⟨(s,v),by rw[wF,←e1],?_⟩
   simp only[Rows.uptoBulk,Rows.uptoBulkAll]
   omega
theorem zeM {H:Type}:∀(n:Nat) (d:DataW H) pvs,ye prog n 61 d pvs→∃v:Val,pvs=v.enc∧v.vb≤Rows.uptoBulk d:=by
 intro n
 induction n using Nat.strongRecOn with
 | ind n ih =>
   intro d pvs h
   obtain⟨m,ds,rfl,rfl,hl,hf⟩:=jO zvH h
   rw[zsA] at hl
   obtain⟨y0,ds,rfl,f0,hf⟩:=zY hf
   obtain⟨y1,ds,rfl,f1,hf⟩:=zY hf
   obtain⟨y2,ds,rfl,f2,hf⟩:=zY hf
   obtain⟨y3,ds,rfl,f3,hf⟩:=zY hf
   obtain⟨y4,ds,rfl,f4,hf⟩:=zY hf
   obtain rfl:=kQ hf
   ·skip
    obtain⟨k,rfl,e0,_⟩:=Yb (k:=.i64) (by kernel_rfl) f0
    obtain⟨i,rfl,e1,_⟩:=Yb (k:=.i64) (by kernel_rfl) f1
    obtain⟨s,rfl,e2,_⟩:=wx (by kernel_rfl) f2
    obtain⟨m3,es3,ds3,hm3,b3,e3,_,z3⟩:=yo (e:=61) (by kernel_rfl) f3
    obtain⟨m4,es4,ds4,hm4,b4,e4,_,z4⟩:=yo (e:=95) (by kernel_rfl) f4
    obtain rfl:m4=m3:=by omega
    obtain⟨is,rfl,w3⟩:=yw (enc:=Val.enc) (w:=Val.vb) (b:=Rows.uptoBulk) (fun c y hcy=>ih m4 (by omega) y c hcy.2) z3
    obtain⟨fs,rfl,w4⟩:=yw (enc:=wF) (w:=fun a=>a.1.length+a.2.vb) (b:=Rows.uptoBulk) (fun c y hcy=>zaz zvJ zuv (by kernel_rfl) (fun m' hm'=>ih m' (by omega)) hcy.2) z4
    have g3:=y7 b3
    have g4:=y7 b4
    obtain⟨p0,p1,p2,p3,p4,rfl⟩:=zw3 hl
    ·skip
     simp only[List.drop_zero,List.take_succ_cons,List.take_zero,List.cons.injEq,and_true,List.drop_succ_cons] at e0 e1 e2 e3 e4
     subst e0;subst e1;subst e2;subst e3;subst e4
     refine⟨.mk k i s is fs,by rw[js,zsA,zuv];rfl,?_⟩
     rw[j9]
     show 1+s.length+vbs is+fbs fs≤_
     rw[zgR,zgS]
     simp only[Rows.uptoBulk,Rows.uptoBulkAll]
     omega
theorem len3 {α:Type}:∀{l:List α},l.length=3→∃a b c,l=[a,b,c]
 | [a,b,c],_=>⟨a,b,c,rfl⟩
theorem len4 {α:Type}:∀{l:List α},l.length=4→∃a b c d,l=[a,b,c,d]
 | [a,b,c,d],_=>⟨a,b,c,d,rfl⟩
theorem zw5 {α:Type}:∀{l:List α},l.length=7→∃a b c d e f g,l=[a,b,c,d,e,f,g]
 | [a,b,c,d,e,f,g],_=>⟨a,b,c,d,e,f,g,rfl⟩
theorem len13 {α:Type}:∀{l:List α},l.length=13→∃a b c d e f g h i j k m n,l=[a,b,c,d,e,f,g,h,i,j,k,m,n]
 | [a,b,c,d,e,f,g,h,i,j,k,m,n],_=>⟨a,b,c,d,e,f,g,h,i,j,k,m,n,rfl⟩
theorem znk:∀l:List Cnd,cbs l=(l.map Cnd.cb).sum
 | []=>rfl
 | c::l=>by simp[cbs,znk l]
theorem znl {H:Type}:∀(n:Nat) (d:DataW H) pvs,ye prog n 41 d pvs→∃c:Cnd,pvs=c.enc∧c.cb≤Rows.uptoBulk d:=by
 intro n
 induction n using Nat.strongRecOn with
 | ind n ih =>
   intro d pvs h
   obtain⟨m,ds,rfl,rfl,hl,hf⟩:=jO zvF h
   rw[zus] at hl
   obtain⟨y0,ds,rfl,f0,hf⟩:=zY hf
   obtain⟨y1,ds,rfl,f1,hf⟩:=zY hf
   obtain⟨y2,ds,rfl,f2,hf⟩:=zY hf
   obtain⟨y3,ds,rfl,f3,hf⟩:=zY hf
   obtain⟨y4,ds,rfl,f4,hf⟩:=zY hf
   obtain⟨y5,ds,rfl,f5,hf⟩:=zY hf
   obtain⟨y6,ds,rfl,f6,hf⟩:=zY hf
   obtain rfl:=kQ hf
   ·skip
    obtain⟨k,rfl,e0,_⟩:=Yb (k:=.i64) (by kernel_rfl) f0
    obtain⟨a,rfl,e1,_⟩:=wx (by kernel_rfl) f1
    obtain⟨o,rfl,e2,_⟩:=Yb (k:=.i64) (by kernel_rfl) f2
    obtain⟨m3,es3,ds3,hm3,b3,e3,_,z3⟩:=yo (e:=61) (by kernel_rfl) f3
    obtain⟨p,rfl,e4,_⟩:=wx (by kernel_rfl) f4
    obtain⟨nm,rfl,e5,_⟩:=wx (by kernel_rfl) f5
    obtain⟨m6,es6,ds6,hm6,b6,e6,_,z6⟩:=yo (e:=41) (by kernel_rfl) f6
    obtain⟨vs,rfl,w3⟩:=yw (enc:=Val.enc) (w:=Val.vb) (b:=Rows.uptoBulk) (fun c y hcy=>zeM m3 y c hcy.2) z3
    obtain⟨cs,rfl,w6⟩:=yw (enc:=Cnd.enc) (w:=Cnd.cb) (b:=Rows.uptoBulk) (fun c y hcy=>ih m6 (by omega) y c hcy.2) z6
    have g3:=y7 b3
    have g6:=y7 b6
    obtain⟨p0,p1,p2,p3,p4,p5,p6,rfl⟩:=zw5 hl
    ·skip
     simp only[List.drop_zero,List.take_succ_cons,List.take_zero,List.cons.injEq,and_true,List.drop_succ_cons] at e0 e1 e2 e3 e4 e5 e6
     subst e0;subst e1;subst e2;subst e3;subst e4;subst e5;subst e6
     refine⟨.mk k a o vs p nm cs,by rw[qc,zsA,zus];rfl,?_⟩
     rw[xF]
     show 1+a.length+vbs vs+p.length+nm.length+cbs cs≤_
     rw[zgR,znk]
     simp only[Rows.uptoBulk,Rows.uptoBulkAll]
     omega
end Go.Proofs.YtjcofiomfmebkaaGreatDoor
namespace Go.Proofs.YtjcofiomfmebkaaGreatDoor
open Go.Proofs.Tryz
open Go.RowKit Go.AM Go.SpanLaw
theorem ones_sum {α:Type} (l:List α):(l.map fun _=>1).sum=l.length:=by
 induction l with
 | nil=>rfl
 | cons x l ih=>simp only[List.map_cons,List.sum_cons,ih,List.length_cons];omega
theorem zaA {H:Type} {n:Nat} {d:DataW H} {pvs:List PV} (h:ye prog n 9 d pvs):∃s:List UInt8,pvs=[str s]∧1+s.length≤Rows.uptoBulk d:=by
 obtain⟨a,rfl,e0,_⟩:=wx (by kernel_rfl) h
 exact⟨a,e0,by simp only[Rows.uptoBulk];omega⟩
theorem zvK {α:Type}:∀{l:List α},l.length=10→∃a b c d e f g h i j,l=[a,b,c,d,e,f,g,h,i,j]
 | [a,b,c,d,e,f,g,h,i,j],_=>⟨a,b,c,d,e,f,g,h,i,j,rfl⟩
theorem znm {H:Type} {n:Nat} {d:DataW H} {pvs:List PV} (h:ye prog n 43 d pvs):∃s:Sgm,pvs=s.enc∧s.cb≤Rows.uptoBulk d:=by
 obtain⟨m,ds,rfl,rfl,hl,hf⟩:=jO zvG h
 rw[zut] at hl
 obtain⟨y0,ds,rfl,f0,hf⟩:=zY hf
 obtain⟨y1,ds,rfl,f1,hf⟩:=zY hf
 obtain⟨y2,ds,rfl,f2,hf⟩:=zY hf
 obtain⟨y3,ds,rfl,f3,hf⟩:=zY hf
 obtain rfl:=kQ hf
 obtain⟨a,rfl,e0,_⟩:=wx (by kernel_rfl) f0
 obtain⟨m1,es1,ds1,_,b1,e1,_,z1⟩:=yo (e:=9) (by kernel_rfl) f1
 obtain⟨m2,es2,ds2,_,b2,e2,_,z2⟩:=yo (e:=9) (by kernel_rfl) f2
 obtain⟨cd,e3,w3⟩:=znl _ _ _ f3
 obtain⟨l1,rfl,w1⟩:=yw (enc:=fun s:List UInt8=>[str s]) (w:=fun s:List UInt8=>1+s.length) (b:=Rows.uptoBulk) (fun c y hcy=>zaA hcy.2) z1
 obtain⟨l2,rfl,w2⟩:=yw (enc:=fun s:List UInt8=>[str s]) (w:=fun s:List UInt8=>1+s.length) (b:=Rows.uptoBulk) (fun c y hcy=>zaA hcy.2) z2
 have g1:=y7 b1
 have g2:=y7 b2
 obtain⟨p0,p1,p2,p3,p4,p5,p6,p7,p8,p9,rfl⟩:=zvK hl
 ·skip
  simp only[List.drop_zero,List.take_succ_cons,List.take_zero,List.cons.injEq,and_true,List.drop_succ_cons] at e0 e1 e2 e3
  subst e0;subst e1;subst e2
  refine⟨⟨a,l1,l2,cd⟩,by rw[Sgm.enc,←e3,zw1];rfl,?_⟩
  show 1+a.length+(l1.map fun s:List UInt8=>1+s.length).sum+(l2.map fun s:List UInt8=>1+s.length).sum+cd.cb≤_
  simp only[Rows.uptoBulk,Rows.uptoBulkAll]
  omega
theorem zkd {H:Type} {n:Nat} {d:DataW H} {pv:PV} (h:ye prog n 22 d [pv]):∃l:List Sgm,pv=.sl 10 (l.map Sgm.enc)∧sgb l+1≤Rows.uptoBulk d:=by
 obtain⟨m,es,ds,rfl,b1,e1,_,z⟩:=yo zuq h
 obtain⟨l,rfl,w1⟩:=yw (enc:=Sgm.enc) (w:=Sgm.cb) (b:=Rows.uptoBulk) (fun c y hcy=>znm hcy.2) z
 have g1:=y7 b1
 simp only[List.cons.injEq,and_true] at e1
 rw[zut] at e1
 exact⟨l,e1,by unfold sgb;omega⟩
end Go.Proofs.YtjcofiomfmebkaaGreatDoor
namespace Go.Proofs.YtjcofiomfmebkaaGreatDoor
open Go.Proofs.Tryz
open Go.RowKit Go.AM
theorem zke {H:Type} {n:Nat} {d:DataW H} {pvs:List PV} (h:ye prog n 25 d pvs):∃x:Ctxt,pvs=x.enc∧x.cb+1≤Rows.uptoBulk d:=by
 obtain⟨m,ds,rfl,rfl,hl,hf⟩:=jO zur h
 rw[zvE] at hl
 obtain⟨y0,ds,rfl,f0,hf⟩:=zY hf
 obtain⟨y1,ds,rfl,f1,hf⟩:=zY hf
 obtain rfl:=kQ hf
 ·skip
  obtain⟨s,rfl,e0,_⟩:=wx (by kernel_rfl) f0
  obtain⟨m1,es,ds1,rfl,b1,e1,_,z1⟩:=yo (e:=63) (by kernel_rfl) f1
  obtain⟨l,rfl,w1⟩:=yw (enc:=wF) (w:=fun a=>a.1.length+a.2.vb) (b:=Rows.uptoBulk) (fun c y hcy=>zaz zvI zuu (by kernel_rfl) (fun m' _=>zeM m') hcy.2) z1
  have g1:=y7 b1
  obtain⟨p0,p1,rfl⟩:=zw2 hl
  ·skip
   simp only[List.drop_zero,List.take_succ_cons,List.take_zero,List.cons.injEq,and_true,List.drop_succ_cons] at e0 e1
   subst e0;subst e1
   refine⟨⟨s,l⟩,by rw[Ctxt.enc,zuu],?_⟩
   rw[Jj]
   show s.length+fbs l+1≤_
   rw[zgS]
   simp only[Rows.uptoBulk,Rows.uptoBulkAll]
   omega
end Go.Proofs.YtjcofiomfmebkaaGreatDoor
namespace Go.Proofs.YtjcofiomfmebkaaGreatDoor
open Go.Proofs.Tryz
open Go.RowKit Go.AM Go.SpanLaw Go.ChangeShapes Go.WideShapes Go.ChangeAt
theorem znn:laidOutB prog=true:=by kernel_rfl
def zsB:List TypeId:=[22,43,37,9,41,39,38,61,59,95,3,25,23,63]
theorem VT:zaP prog zsB=true:=by kernel_rfl
theorem zgT:∀t∈Tryz.f3.params.toList,prog.readableRec t=true∧t<prog.types.size:=by
 intro t ht
 have ht:t=22∨t=9∨t=25:=by simpa[Tryz.f3] using ht
 rcases ht with rfl | rfl | rfl
 ·exact⟨by kernel_rfl,of_decide_eq_true (by kernel_rfl)⟩
 ·exact⟨by kernel_rfl,of_decide_eq_true (by kernel_rfl)⟩
 ·exact⟨by kernel_rfl,of_decide_eq_true (by kernel_rfl)⟩
set_option maxRecDepth 100000 in
theorem liContract (H:Type) (enc:TypeId×Value→H) (W:World) (base:Nat) (args:Array Value) (ds gs:List (DataW H)) (before:List MemPlace)
  (hval:∀(j:Nat) t v,Tryz.f3.params[j]?=some t→args[j]?=some v→Value.okWide prog W .any base t v)
  (hW:DataW.Whole enc prog Tryz.f3.params.toList Rows.ruleSegmentsMatchSpecSpec.vars false W args.toList ds gs before)
  (hk:Rows.uptoSmall H (ds++gs)=true) (hsh:W.ShapedOpen prog) (htab:∀t∈ZP,zkh W (fun b=>b<W.heap.size) t) :
  Calls prog 3 args W fun e W'=>∃v,e=.returned v∧Rows.ruleSegmentsMatchSpecSpec.post enc prog Tryz.f3 false true false false W args v W':=by
 have hW':=hW
 obtain⟨p,q,hA0,hV,rfl,hfz,hnd⟩:=hW
 have hA:DataW.TrodAll enc prog W 0 (fun _=>true) true Tryz.f3.params.toList args.toList ds p:=hA0
 rw[params3] at hA hval
 obtain⟨v0,vs0,d0,ds0,p0,q0,hargs,rfl,rfl,h0,r0⟩:=trodAll_cons hA
 obtain⟨v1,vs1,d1,ds1,p1,q1,rfl,rfl,rfl,h1,r1⟩:=trodAll_cons r0
 obtain⟨v2,vs2,d2,ds2,p2,q2,rfl,rfl,rfl,h2,r2⟩:=trodAll_cons r1
 obtain⟨rfl,rfl,rfl⟩:=trodAll_nil r2
 obtain rfl:args=#[v0,v1,v2]:=by cases args;simp_all
 obtain⟨rfl,rfl⟩:=trodVars_none hV
 obtain⟨n0,pv0,s0,rp0⟩:=zig VT (t:=22) (by decide) (fun⟨fs,hfs⟩=>by rw[zuq] at hfs;cases hfs) (hval 0 22 v0 rfl rfl) h0
 obtain⟨n1,pv1,s1,rp1⟩:=zig VT (t:=9) (by decide) (fun⟨fs,hfs⟩=>by rw[un9] at hfs;cases hfs) (hval 1 9 v1 rfl rfl) h1
 obtain⟨fs2,hu2,_⟩:=Jn zur
 have hv2:=hval 2 25 v2 rfl rfl
 obtain⟨n2,pvs2,s2,rp2⟩:=zkc (P:=prog) (r:=.any) (base:=base) (v:=v2) (w:=W) VT (t:=25) (by decide) hu2 hv2 h2
 obtain⟨l,rfl,b0⟩:=zkd s0
 obtain⟨n,rfl,e1,_⟩:=wx un9 s1
 obtain⟨x,rfl,b2⟩:=zke s2
 simp only[List.cons.injEq,and_true] at e1
 subst e1
 have hb:Rows.uptoBulkAll [d0,.lit (.string n),d2]≤1048576:=by
  have:=of_decide_eq_true hk
  simpa using this
 simp only[Rows.uptoBulkAll,Rows.uptoBulk] at hb
 have hlim:lim=2097152:=rfl
 have g0:2*sgb l≤lim:=by omega
 have g1:x.cb+2≤lim:=by omega
 obtain⟨code,hkn⟩:=zpU
 refine (zkV zsy hkn (zsz l n x g0 g1) (by simp[Tryz.f3]) (w:=W) (vs:=[v0,v1,v2]) hsh htab (.cons rp0 (.cons rp1 (.cons rp2 .nil)))).mono fun e W' hh=>?_
 obtain⟨rfl,hbl⟩:=hh
 exact⟨_,rfl,zn6 znn zgT rfl hW' rfl (tb:=4) rfl un4 hbl⟩
end Go.Proofs.YtjcofiomfmebkaaGreatDoor
