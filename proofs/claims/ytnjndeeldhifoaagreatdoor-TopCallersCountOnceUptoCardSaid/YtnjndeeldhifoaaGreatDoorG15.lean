/- Lemmas. -/
import Derived.WalkKit
import Derived.ProofKit
import Derived.OpenShut
import Derived.Deep.DeepHandedRow
import Derived.Deep.DeepLaidRun
import Derived.Lib.LaidTab
import Derived.LaidSub
import Derived.MakeChecks
import Derived.SizedLaws
import Derived.Test.YtnjndeeldhifoaaGreatDoorG11
import Derived.Test.YtnjndeeldhifoaaGreatDoorG14
set_option maxRecDepth 100000
open Go Proofs Proofs.YtnjndeeldhifoaaGreatDoor Proofs.Tryz RowKit AM SpanLaw Q Zz
namespace Go.Proofs.YtnjndeeldhifoaaGreatDoor
open Go.RowKit Go.AM Go.SpanLaw Go.ChangeShapes Go.WideShapes Go.ChangeAt
theorem Ei:laidOutB prog=true:=by kernel_rfl
def NR:List TypeId:=[22,120,49,9,66,64,63,94,92,168,3,27,23,24,25,101,132,70,67,145,68,73,60,59,28,37,35,96]
theorem Z3:bH prog NR=true:=by kernel_rfl
theorem rU:∀t∈Tryz.f3.params.toList,prog.readableRec t=true/\t<prog.types.size:=by
 intro t a;have a:t=22\/t=27\/t=28\/t=9\/t=3:=by simpa[Tryz.f3]using a
 rcases a with rfl|rfl|rfl|rfl|rfl
 ·exact⟨by kernel_rfl,yK (by kernel_rfl)⟩
 ·exact⟨by kernel_rfl,yK (by kernel_rfl)⟩
 ·exact⟨by kernel_rfl,yK (by kernel_rfl)⟩
 ·exact⟨by kernel_rfl,yK (by kernel_rfl)⟩
 ·exact⟨by kernel_rfl,yK (by kernel_rfl)⟩
theorem u9(H:Type)(V:TypeId×Value->H)(W:World)(base:Nat)(args:Array Value)(ds M:List (DataW H))(d:List MemPlace)
  (c:∀(j:Nat) t v,Tryz.f3.params[j]?=some t->args[j]?=some v->Value.okWide prog W .any base t v)
  (N:DataW.Whole V prog Tryz.f3.params.toList Rows.topCallersCountOnceSpec.vars false W args.toList ds M d)
  (hk:Rows.uptoSmall H (ds++M)=true) (m:W.ShapedOpen prog) (g:∀t∈Wc,nd W (fun b=>b<W.heap.size) t) :
  Calls prog 3 args W fun e Q=>∃v,e=.returned v/\Rows.topCallersCountOnceSpec.post V prog Tryz.f3 false true false false W args v Q:=by
 have n:=N;obtain⟨p,q,o,hV,rfl,hfz,hnd⟩:=N;have R:DataW.TrodAll V prog W 0 (fun _=>true) true Tryz.f3.params.toList args.toList ds p:=o;rw[params3]at R c;obtain⟨u,vs0,d0,ds0,p0,q0,y,rfl,rfl,h0,r0⟩:=trodAll_cons R;obtain⟨i,vs1,d1,ds1,p1,q1,rfl,rfl,rfl,h1,r1⟩:=trodAll_cons r0;obtain⟨z,vs2,d2,ds2,p2,q2,rfl,rfl,rfl,h2,r2⟩:=trodAll_cons r1;obtain⟨A,vs3,d3,ds3,p3,q3,rfl,rfl,rfl,h3,r3⟩:=trodAll_cons r2;obtain⟨v4,vs4,d4,ds4,p4,q4,rfl,rfl,rfl,h4,r4⟩:=trodAll_cons r3;obtain⟨B,vs5,d5,ds5,p5,q5,rfl,rfl,rfl,h5,r5⟩:=trodAll_cons r4;obtain⟨rfl,rfl,rfl⟩:=trodAll_nil r5;obtain rfl:args=#[u,i,z,A,v4,B]:=by cases args;simp_all
 obtain⟨rfl,rfl⟩:=trodVars_none hV;obtain⟨n0,pv0,s0,C⟩:=Jr Z3 (t:=22) (by decide) (fun⟨k,a⟩=>by rw[OO]at a;cases a) (c 0 22 u rfl rfl) h0;obtain⟨fs1,D,_⟩:=V3 OP;have E:=c 1 27 i rfl rfl;obtain⟨n1,S,s1,F⟩:=u5 (P:=prog) (r:=.any) (base:=base) (v:=i) (w:=W) Z3 (t:=27) (by decide) D E h1;obtain⟨n2,pv2,s2,G⟩:=Jr Z3 (t:=28) (by decide) (fun⟨k,a⟩=>by rw[zbj]at a;cases a) (c 2 28 z rfl rfl) h2;obtain⟨n3,pv3,s3,I⟩:=Jr Z3 (t:=9) (by decide) (fun⟨k,a⟩=>by rw[un9]at a;cases a) (c 3 9 A rfl rfl) h3;obtain⟨n4,pv4,s4,J⟩:=Jr Z3 (t:=3) (by decide) (fun⟨k,a⟩=>by rw[un3]at a;cases a) (c 4 3 v4 rfl rfl) h4;obtain⟨n5,pv5,s5,K⟩:=Jr Z3 (t:=3) (by decide) (fun⟨k,a⟩=>by rw[un3]at a;cases a) (c 5 3 B rfl rfl) h5;obtain⟨l,rfl,b0⟩:=u6 s0;obtain⟨b,rfl,b1⟩:=Is s1;obtain⟨xs,rfl,b2⟩:=rT s2;obtain⟨s,rfl,T,_⟩:=wy un9 s3;obtain⟨f,rfl,X,_⟩:=ji un3 s4;obtain⟨t,rfl,e5,_⟩:=ji un3 s5;simp only[zc,zs]at T X e5;subst T;subst X;subst e5;have hb:Rows.uptoBulkAll [d0,d1,d2,.lit (.string s),.lit (.int .i64 f),.lit (.int .i64 t)]<=1048576:=by have:=yK hk;simpa using this
 simp only[Rows.uptoBulkAll,Rows.uptoBulk]at hb;have IV:zw=2097152:=rfl;have g0:bm l<=zw:=by omega
 have g1:b.cb<=zw:=by omega
 have g2:∀x∈xs,x.cb+2<=zw:=fun x hx=>by have:=(ff xs).2 x hx;omega
 have g3:xs.length<=zw:=by have:=(ff xs).1;omega
 have g4:s.length<=zw:=by omega
 obtain⟨code,h⟩:=Ih;refine(uP h (zbh l b xs s f t g0 g1 g2 g3 g4 h.body) (by simp[Tryz.f3]) (w:=W) (vs:=[u,i,z,A,v4,B]) m g (.cons C (.cons F (.cons G (.cons I (.cons J (.cons K .nil))))))).mono fun e Q hh=>?_
 obtain⟨rfl,L⟩:=hh;exact⟨_,rfl,Fg Ei rU rfl n rfl (tb:=4) rfl un4 L⟩
end Go.Proofs.YtnjndeeldhifoaaGreatDoor
