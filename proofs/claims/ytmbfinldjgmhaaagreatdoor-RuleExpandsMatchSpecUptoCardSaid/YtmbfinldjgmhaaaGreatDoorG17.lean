/- Lemmas. -/
import Derived.WalkKit
import Derived.ProofKit
import Derived.OpenShut
import Derived.Deep.DeepHandedRow
import Derived.Deep.DeepLaidRun
import Derived.Lib.LaidTab
import Derived.LaidSub
import Derived.MakeChecks
import Derived.SizedLaws
import Derived.Test.YtmbfinldjgmhaaaGreatDoorG16
set_option maxRecDepth 100000
open Go Proofs Proofs.YtmbfinldjgmhaaaGreatDoor Proofs.Tryz RowKit AM SpanLaw Q Zz
namespace Go.Proofs.YtmbfinldjgmhaaaGreatDoor
open Go.RowKit Go.AM Go.SpanLaw Go.ChangeShapes Go.WideShapes Go.ChangeAt
theorem Mx:laidOutB prog=true:=by kernel_rfl
def UH:List TypeId:=[22,56,34,9,26,24,23,52,50,78,3,29,27,84]
theorem fo:iz prog UH=true:=by kernel_rfl
theorem DS:∀t∈Tryz.f3.params.toList,prog.readableRec t=true/\t<prog.types.size:=by
 intro t a;have a:t=22\/t=26\/t=29:=by simpa[Tryz.f3]using a
 rcases a with rfl|rfl|rfl
 ·exact⟨by kernel_rfl,xM (by kernel_rfl)⟩
 ·exact⟨by kernel_rfl,xM (by kernel_rfl)⟩
 ·exact⟨by kernel_rfl,xM (by kernel_rfl)⟩
theorem Gv(H:Type)(V:TypeId×Value->H)(W:World)(base:Nat)(args:Array Value)(ds G:List (DataW H))(d:List MemPlace)
  (a:∀(j:Nat) t v,Tryz.f3.params[j]?=some t->args[j]?=some v->Value.okWide prog W .any base t v)
  (I:DataW.Whole V prog Tryz.f3.params.toList Rows.ruleExpandsMatchSpecSpec.vars false W args.toList ds G d)
  (Q:Rows.uptoSmall H (ds++G)=true) (k:W.ShapedOpen prog) (f:∀t∈JK,AU W (fun b=>b<W.heap.size) t) :
  Calls prog 3 args W fun e J=>∃v,e=.returned v/\Rows.ruleExpandsMatchSpecSpec.post V prog Tryz.f3 false true false false W args v J:=by
 have m:=I;obtain⟨p,q,n,R,rfl,S,T⟩:=I;have K:DataW.TrodAll V prog W 0 (fun _=>true) true Tryz.f3.params.toList args.toList ds p:=n;rw[params3]at K a;obtain⟨o,X,d0,ds0,p0,q0,s,rfl,rfl,h0,r0⟩:=trodAll_cons K;obtain⟨h,vs1,d1,ds1,p1,q1,rfl,rfl,rfl,h1,r1⟩:=trodAll_cons r0;obtain⟨i,vs2,d2,ds2,p2,q2,rfl,rfl,rfl,h2,r2⟩:=trodAll_cons r1;obtain⟨rfl,rfl,rfl⟩:=trodAll_nil r2;obtain rfl:args=#[o,h,i]:=by cases args;simp_all
 obtain⟨rfl,rfl⟩:=trodVars_none R;obtain⟨n0,pv0,s0,u⟩:=Re fo (t:=22) (by decide) (fun⟨fs,g⟩=>by rw[zaR]at g;cases g) (a 0 22 o rfl rfl) h0;obtain⟨fs1,y,_⟩:=KZ zaS;have z:=a 1 26 h rfl rfl;obtain⟨n1,L,s1,A⟩:=oA (P:=prog) (r:=.any) (base:=base) (v:=h) (w:=W) fo (t:=26) (by decide) y z h1;obtain⟨fs2,B,_⟩:=KZ zaU;have C:=a 2 29 i rfl rfl;obtain⟨n2,M,s2,D⟩:=oA (P:=prog) (r:=.any) (base:=base) (v:=i) (w:=W) fo (t:=29) (by decide) B C h2;obtain⟨l,rfl,b0⟩:=Gt s0;obtain⟨c,rfl,b1⟩:=sQ _ _ _ s1;obtain⟨x,rfl,b2⟩:=Gu s2;have hb:Rows.uptoBulkAll [d0,d1,d2]<=1048576:=by have:=xM Q;simpa using this
 simp only[Rows.uptoBulkAll,Rows.uptoBulk]at hb;have N:zx=268435456:=rfl;have g0:Qb l+c.cb<=1048576:=by omega
 have g1:x.cb+2<=zx:=by omega
 obtain⟨code,E⟩:=Rc;refine(Iw zcy E (UG l c x g0 g1) (by simp[Tryz.f3]) (w:=W) (vs:=[o,h,i]) k f (.cons u (.cons A (.cons D .nil)))).mono fun e J hh=>?_
 obtain⟨rfl,F⟩:=hh;exact⟨_,rfl,Nt Mx DS rfl m rfl (tb:=4) rfl un4 F⟩
end Go.Proofs.YtmbfinldjgmhaaaGreatDoor
