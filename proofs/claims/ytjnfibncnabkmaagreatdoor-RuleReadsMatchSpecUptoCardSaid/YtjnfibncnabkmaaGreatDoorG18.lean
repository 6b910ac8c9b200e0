/- Lemmas. -/
import Derived.WalkKit
import Derived.ProofKit
import Derived.OpenShut
import Derived.Deep.DeepHandedRow
import Derived.Deep.DeepLaidRun
import Derived.Lib.LaidTab
import Derived.LaidSub
import Derived.MakeChecks
import Derived.SizedLaws
import Derived.Test.YtjnfibncnabkmaaGreatDoorG17
set_option maxRecDepth 100000
open Go Proofs Proofs.YtjnfibncnabkmaaGreatDoor Proofs.Tryz RowKit AM SpanLaw Q Zz
namespace Go.Proofs.YtjnfibncnabkmaaGreatDoor
open Go.RowKit Go.AM Go.SpanLaw Go.ChangeShapes Go.WideShapes Go.ChangeAt
theorem MN:laidOutB prog=true:=by kernel_rfl
def zbf:List TypeId:=[9]
theorem MO:tF prog zbf=true:=by kernel_rfl
theorem D4:∀t∈Tryz.f3.params.toList,prog.readableRec t=true/\t<prog.types.size:=by
 intro t a;have a:t=9:=by simpa[Tryz.f3]using a
 rcases a with rfl
 ·exact⟨by kernel_rfl,Ig (by kernel_rfl)⟩
theorem GL(H:Type)(V:TypeId×Value->H)(W:World)(d:Nat)(args:Array Value)(h u:List (DataW H))(a:List MemPlace)
  (c:∀(j:Nat) t v,Tryz.f3.params[j]?=some t->args[j]?=some v->Value.okWide prog W .any d t v)
  (x:DataW.Whole V prog Tryz.f3.params.toList Rows.ruleReadsMatchSpecSpec.vars false W args.toList h u a)
  (C:Rows.uptoSmall H (h++u)=true) (i:W.ShapedOpen prog) (f:∀t∈JY,A6 W (fun b=>b<W.heap.size) t) :
  Calls prog 3 args W fun e y=>∃v,e=.returned v/\Rows.ruleReadsMatchSpecSpec.post V prog Tryz.f3 false true false false W args v y:=by
 have k:=x;obtain⟨p,q,l,D,rfl,E,F⟩:=x;have z:DataW.TrodAll V prog W 0 (fun _=>true) true Tryz.f3.params.toList args.toList h p:=l;rw[params3]at z c;obtain⟨m,G,R,I,S,T,n,rfl,rfl,J,r0⟩:=trodAll_cons z;obtain⟨rfl,rfl,rfl⟩:=trodAll_nil r0;obtain rfl:args=#[m]:=by cases args;simp_all
 obtain⟨rfl,rfl⟩:=trodVars_none D;obtain⟨U,K,L,o⟩:=Ss MO (t:=9) (by decide) (fun⟨X,g⟩=>by rw[un9]at g;cases g) (c 0 9 m rfl rfl) J;obtain⟨t,rfl,A,_⟩:=AK un9 L;simp only[zq,qh]at A;subst A;have N:Rows.uptoBulkAll ([.lit (.string t)]:List (DataW H))<=1048576:=by have:=Ig C;simpa using this
 simp only[Rows.uptoBulkAll,Rows.uptoBulk]at N;have B:qg=268435456:=rfl;have P:t.length<=qg:=by omega
 obtain⟨code,r⟩:=Sr;refine(IY zbd r (zbe t P) (by simp[Tryz.f3]) (w:=W) (vs:=[m]) i f (.cons o .nil)).mono fun e y Q=>?_
 obtain⟨rfl,s⟩:=Q;exact⟨_,rfl,NU MN D4 rfl k rfl (tb:=4) rfl un4 s⟩
end Go.Proofs.YtjnfibncnabkmaaGreatDoor
