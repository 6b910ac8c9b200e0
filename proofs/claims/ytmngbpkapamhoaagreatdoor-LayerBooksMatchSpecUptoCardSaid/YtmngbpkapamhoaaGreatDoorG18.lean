/- Lemmas. -/
import Derived.Test.YtmngbpkapamhoaaGreatDoorG14
import Derived.Test.YtmngbpkapamhoaaGreatDoorG17
set_option maxRecDepth 100000
open Go Proofs Proofs.YtmngbpkapamhoaaGreatDoor Proofs.Tryz RowKit AM SpanLaw Q Zz
namespace Go.Proofs.YtmngbpkapamhoaaGreatDoor
open Go.RowKit Go.AM Go.SpanLaw Go.ChangeShapes Go.WideShapes Go.ChangeAt
theorem Pp:laidOutB prog=true:=by kernel_rfl
def zcL:List TypeId:=[22,82,38,9,53,51,50,145,143,184,3,27,23,24,25,47,49,57,54,60,55,63,61,65]
theorem Am:mH prog zcL=true:=by kernel_rfl
theorem Gn:∀t∈Tryz.f3.params.toList,prog.readableRec t=true/\t<prog.types.size:=by
 intro t a;have a:t=22\/t=27:=by simpa[Tryz.f3]using a
 rcases a with rfl|rfl
 ·exact⟨by kernel_rfl,vV (by kernel_rfl)⟩
 ·exact⟨by kernel_rfl,vV (by kernel_rfl)⟩
theorem Lq(H:Type)(V:TypeId×Value->H)(W:World)(base:Nat)(args:Array Value)(ds gs:List (DataW H))(c:List MemPlace)
  (a:∀(j:Nat) t v,Tryz.f3.params[j]?=some t->args[j]?=some v->Value.okWide prog W .any base t v)
  (A:DataW.Whole V prog Tryz.f3.params.toList Rows.layerBooksMatchSpecSpec.vars false W args.toList ds gs c)
  (F:Rows.uptoSmall H (ds++gs)=true) (h:W.ShapedOpen prog) (d:∀t∈Jh,Dc W (fun b=>b<W.heap.size) t) :
  Calls prog 3 args W fun e B=>∃v,e=.returned v/\Rows.layerBooksMatchSpecSpec.post V prog Tryz.f3 false true false false W args v B:=by
 have i:=A;obtain⟨p,q,k,G,rfl,I,J⟩:=A;have C:DataW.TrodAll V prog W 0 (fun _=>true) true Tryz.f3.params.toList args.toList ds p:=k;rw[params3]at C a;obtain⟨m,K,L,M,p0,q0,n,rfl,rfl,N,Q⟩:=trodAll_cons C;obtain⟨g,R,S,T,p1,q1,rfl,rfl,rfl,U,X⟩:=trodAll_cons Q;obtain⟨rfl,rfl,rfl⟩:=trodAll_nil X;obtain rfl:args=#[m,g]:=by cases args;simp_all
 obtain⟨rfl,rfl⟩:=trodVars_none G;obtain⟨n0,pv0,s0,o⟩:=US Am (t:=22) (by decide) (fun⟨fs,f⟩=>by rw[zdK]at f;cases f) (a 0 22 m rfl rfl) N;obtain⟨fs1,s,_⟩:=fG zdL;have u:=a 1 27 g rfl rfl;obtain⟨n1,D,s1,x⟩:=Lm (P:=prog) (r:=.any) (base:=base) (v:=g) (w:=W) Am (t:=27) (by decide) s u U;obtain⟨l,rfl,b0⟩:=Lp s0;obtain⟨b,rfl,b1⟩:=UY s1;have hb:Rows.uptoBulkAll ([L,S]:List (DataW H))<=1048576:=by have:=vV F;simpa using this
 simp only[Rows.uptoBulkAll,Rows.uptoBulk]at hb;have E:zA=268435456:=rfl;have g0:2*bH l<=zA:=by omega
 have g1:b.cb<=zA:=by omega
 obtain⟨code,y⟩:=UR;refine(Nj zfC y (zcK l b g0 g1) (by simp[Tryz.f3]) (w:=W) (vs:=[m,g]) h d (.cons o (.cons x .nil))).mono fun e B hh=>?_
 obtain⟨rfl,z⟩:=hh;exact⟨_,rfl,RD Pp Gn rfl i rfl (tb:=4) rfl un4 z⟩
end Go.Proofs.YtmngbpkapamhoaaGreatDoor
