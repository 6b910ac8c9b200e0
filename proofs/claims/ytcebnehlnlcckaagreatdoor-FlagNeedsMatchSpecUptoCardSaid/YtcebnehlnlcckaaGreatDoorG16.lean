/- Lemmas. -/
import Derived.WalkKit
import Derived.ProofKit
import Derived.OpenShut
import Derived.Deep.DeepHandedRow
import Derived.Deep.DeepLaidRun
import Derived.Lib.LaidTab
import Derived.LaidSub
import Derived.MakeChecks
import Derived.SizedLaws
import Derived.Test.YtcebnehlnlcckaaGreatDoorG15
set_option maxRecDepth 100000
open Go Proofs Proofs.YtcebnehlnlcckaaGreatDoor Proofs.Tryz RowKit AM SpanLaw Q Zz
namespace Go.Proofs.YtcebnehlnlcckaaGreatDoor
open Go.RowKit Go.AM Go.SpanLaw Go.ChangeShapes Go.WideShapes Go.ChangeAt
theorem Lb:laidOutB prog=true:=by kernel_rfl
def S9:List TypeId:=[25,22,72,26,9,70,68,37,100,98,143,23,45,38,54,39,109,40,111,43,41,151,4,3]
theorem pP:gC prog S9=true:=by kernel_rfl
theorem Ch:∀t∈Tryz.f3.params.toList,prog.readableRec t=true/\t<prog.types.size:=by
 intro t a;have a:t=25\/t=9:=by simpa[Tryz.f3]using a
 rcases a with rfl|rfl
 ·exact⟨by kernel_rfl,cY (by kernel_rfl)⟩
 ·exact⟨by kernel_rfl,cY (by kernel_rfl)⟩
theorem E2(H:Type)(V:TypeId×Value->H)(W:World)(base:Nat)(args:Array Value)(ds B:List (DataW H))(d:List MemPlace)
  (a:∀(j:Nat) t v,Tryz.f3.params[j]?=some t->args[j]?=some v->Value.okWide prog W .any base t v)
  (C:DataW.Whole V prog Tryz.f3.params.toList Rows.flagNeedsMatchSpecSpec.vars false W args.toList ds B d)
  (J:Rows.uptoSmall H (ds++B)=true) (i:W.ShapedOpen prog) (f:∀t∈Jh,ud W (fun b=>b<W.heap.size) t) :
  Calls prog 3 args W fun e D=>∃v,e=.returned v/\Rows.flagNeedsMatchSpecSpec.post V prog Tryz.f3 false true false false W args v D:=by
 have k:=C;obtain⟨p,q,l,K,rfl,L,M⟩:=C;have E:DataW.TrodAll V prog W 0 (fun _=>true) true Tryz.f3.params.toList args.toList ds p:=l;rw[params3]at E a;obtain⟨h,N,Q,R,p0,q0,m,rfl,rfl,S,T⟩:=trodAll_cons E;obtain⟨o,X,d1,ds1,p1,q1,rfl,rfl,rfl,h1,r1⟩:=trodAll_cons T;obtain⟨rfl,rfl,rfl⟩:=trodAll_nil r1;obtain rfl:args=#[h,o]:=by cases args;simp_all
 obtain⟨rfl,rfl⟩:=trodVars_none K;obtain⟨fs0,s,_⟩:=cV Ur;have u:=a 0 25 h rfl rfl;obtain⟨n0,F,s0,x⟩:=EZ (P:=prog) (r:=.any) (base:=base) (v:=h) (w:=W) pP (t:=25) (by decide) s u S;obtain⟨n1,pv1,s1,y⟩:=OR pP (t:=9) (by decide) (fun⟨fs,g⟩=>by rw[un9]at g;cases g) (a 1 9 o rfl rfl) h1;obtain⟨c,rfl,b0⟩:=La s0;obtain⟨n,rfl,G,_⟩:=yK un9 s1;simp only[zh,zA]at G;subst G;have hb:Rows.uptoBulkAll [Q,.lit (.string n)]<=1048576:=by have:=cY J;simpa using this
 simp only[Rows.uptoBulkAll,Rows.uptoBulk]at hb;have I:zw=268435456:=rfl;have g0:2*c.cb<=zw:=by omega
 obtain⟨code,z⟩:=OQ;refine(G6 za7 z (S8 c n g0) (by simp[Tryz.f3]) (w:=W) (vs:=[h,o]) i f (.cons x (.cons y .nil))).mono fun e D hh=>?_
 obtain⟨rfl,A⟩:=hh;exact⟨_,rfl,Mc Lb Ch rfl k rfl (tb:=4) rfl un4 A⟩
end Go.Proofs.YtcebnehlnlcckaaGreatDoor
