/- Lemmas. -/
import Derived.WalkKit
import Derived.ProofKit
import Derived.OpenShut
import Derived.Deep.DeepHandedRow
import Derived.Deep.DeepLaidRun
import Derived.Lib.LaidTab
import Derived.LaidSub
import Derived.MakeChecks
import Derived.SizedLaws
import Derived.Test.YtmdpcoooleipcaaGreatDoorG11
import Derived.Test.YtmdpcoooleipcaaGreatDoorG14
set_option maxRecDepth 100000
open Go Proofs Proofs.YtmdpcoooleipcaaGreatDoor Proofs.Tryz RowKit AM SpanLaw Q Zz
namespace Go.Proofs.YtmdpcoooleipcaaGreatDoor
open Go.RowKit Go.AM Go.SpanLaw Go.ChangeShapes Go.WideShapes Go.ChangeAt
theorem AJ:laidOutB prog=true:=by kernel_rfl
def Hz:List TypeId:=[25,23,22,48,46,65,9,3]
theorem ga:a6 prog Hz=true:=by kernel_rfl
theorem nX:∀t∈Tryz.f3.params.toList,prog.readableRec t=true/\t<prog.types.size:=by
 intro t a;have a:t=25\/t=9:=by simpa[Tryz.f3]using a
 rcases a with rfl|rfl
 ·exact⟨by kernel_rfl,wT (by kernel_rfl)⟩
 ·exact⟨by kernel_rfl,wT (by kernel_rfl)⟩
theorem rW(H:Type)(V:TypeId×Value->H)(W:World)(base:Nat)(args:Array Value)(ds A:List (DataW H))(d:List MemPlace)
  (a:∀(j:Nat) t v,Tryz.f3.params[j]?=some t->args[j]?=some v->Value.okWide prog W .any base t v)
  (B:DataW.Whole V prog Tryz.f3.params.toList Rows.ruleTextsComeBackSpec.vars false W args.toList ds A d)
  (I:Rows.uptoSmall H (ds++A)=true) (i:W.ShapedOpen prog) (f:∀t∈ZJ,lv W (fun b=>b<W.heap.size) t) :
  Calls prog 3 args W fun e C=>∃v,e=.returned v/\Rows.ruleTextsComeBackSpec.post V prog Tryz.f3 false true false false W args v C:=by
 have k:=B;obtain⟨p,q,l,J,rfl,K,L⟩:=B;have D:DataW.TrodAll V prog W 0 (fun _=>true) true Tryz.f3.params.toList args.toList ds p:=l;rw[params3]at D a;obtain⟨h,M,N,Q,p0,q0,m,rfl,rfl,R,r0⟩:=trodAll_cons D;obtain⟨n,S,d1,T,p1,q1,rfl,rfl,rfl,U,r1⟩:=trodAll_cons r0;obtain⟨rfl,rfl,rfl⟩:=trodAll_nil r1;obtain rfl:args=#[h,n]:=by cases args;simp_all
 obtain⟨rfl,rfl⟩:=trodVars_none J;obtain⟨fs0,o,_⟩:=VS IP;have s:=a 0 25 h rfl rfl;obtain⟨n0,E,s0,u⟩:=rU (P:=prog) (r:=.any) (base:=base) (v:=h) (w:=W) ga (t:=25) (by decide) o s R;obtain⟨n1,pv1,s1,x⟩:=Eo ga (t:=9) (by decide) (fun⟨fs,g⟩=>by rw[un9]at g;cases g) (a 1 9 n rfl rfl) U;obtain⟨c,rfl,b0⟩:=AH _ _ _ s0;obtain⟨t,rfl,F,_⟩:=vd un9 s1;simp only[zn,z7]at F;subst F;have hb:Rows.uptoBulkAll [N,.lit (.string t)]<=1048576:=by have:=wT I;simpa using this
 simp only[Rows.uptoBulkAll,Rows.uptoBulk]at hb;have G:zX=268435456:=rfl;have g0:c.cb<=zX:=by omega
 have g1:t.length<=zX:=by omega
 obtain⟨code,y⟩:=En;refine(tX Nr y (Hy c t g0 g1) (by simp[Tryz.f3]) (w:=W) (vs:=[h,n]) i f (.cons u (.cons x .nil))).mono fun e C hh=>?_
 obtain⟨rfl,z⟩:=hh;exact⟨_,rfl,BK AJ nX rfl k rfl (tb:=4) rfl un4 z⟩
end Go.Proofs.YtmdpcoooleipcaaGreatDoor
