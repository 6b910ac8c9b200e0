/- Lemmas. -/
import Derived.Test.YtfanbcfchamfjaaGreatDoorG16
set_option maxRecDepth 100000
open Go Proofs Proofs.YtfanbcfchamfjaaGreatDoor Proofs.Tryz RowKit AM SpanLaw Q Zz
namespace Go.Proofs.YtfanbcfchamfjaaGreatDoor
open Go.RowKit Go.AM Go.SpanLaw Go.ChangeShapes Go.WideShapes Go.ChangeAt
theorem IQ:laidOutB prog=true:=by kernel_rfl
def zam:List TypeId:=[26,22,23,24,48,50,58,54,52,51,112,110,149,55,61,56,64,62,66,39,9,3]
theorem IU:ru prog zam=true:=by kernel_rfl
theorem BH:∀t∈Tryz.f3.params.toList,prog.readableRec t=true/\t<prog.types.size:=by
 intro t a;have a:t=26:=by simpa[Tryz.f3]using a
 rcases a with rfl
 ·exact⟨by kernel_rfl,jb (by kernel_rfl)⟩
theorem EB(H:Type)(V:TypeId×Value->H)(W:World)(base:Nat)(args:Array Value)(ds u:List (DataW H))(a:List MemPlace)
  (c:∀(j:Nat) t v,Tryz.f3.params[j]?=some t->args[j]?=some v->Value.okWide prog W .any base t v)
  (x:DataW.Whole V prog Tryz.f3.params.toList Rows.layerTextsComeBackSpec.vars false W args.toList ds u a)
  (C:Rows.uptoSmall H (ds++u)=true) (g:W.ShapedOpen prog) (d:∀t∈WQ,tB W (fun b=>b<W.heap.size) t) :
  Calls prog 3 args W fun e y=>∃v,e=.returned v/\Rows.layerTextsComeBackSpec.post V prog Tryz.f3 false true false false W args v y:=by
 have h:=x;obtain⟨p,q,i,D,rfl,E,F⟩:=x;have z:DataW.TrodAll V prog W 0 (fun _=>true) true Tryz.f3.params.toList args.toList ds p:=i;rw[params3]at z c;obtain⟨f,G,I,J,S,T,k,rfl,rfl,K,r0⟩:=trodAll_cons z;obtain⟨rfl,rfl,rfl⟩:=trodAll_nil r0;obtain rfl:args=#[f]:=by cases args;simp_all
 obtain⟨rfl,rfl⟩:=trodVars_none D;obtain⟨L,l,_⟩:=cy zbi;have m:=c 0 26 f rfl rfl;obtain⟨n0,A,M,n⟩:=Ex (P:=prog) (r:=.any) (base:=base) (v:=f) (w:=W) IU (t:=26) (by decide) l m K;obtain⟨b,rfl,U⟩:=PK M;have N:Rows.uptoBulkAll ([I]:List (DataW H))<=1048576:=by have:=jb C;simpa using this
 simp only[Rows.uptoBulkAll,Rows.uptoBulk]at N;have B:zD=268435456:=rfl;have Q:b.cb<=zD:=by omega
 obtain⟨code,o⟩:=PF b;refine(GJ (zdA b) o (zal b Q) (by simp[Tryz.f3]) (w:=W) (vs:=[f]) g d (.cons n .nil)).mono fun e y R=>?_
 obtain⟨rfl,s⟩:=R;exact⟨_,rfl,LY IQ BH rfl h rfl (tb:=4) rfl un4 s⟩
end Go.Proofs.YtfanbcfchamfjaaGreatDoor
