/- Lemmas. -/
import Derived.Test.YtdlbkbojibiiaaaGreatDoorG11
import Derived.Test.YtdlbkbojibiiaaaGreatDoorG14
set_option maxRecDepth 100000
open Go Proofs Proofs.YtdlbkbojibiiaaaGreatDoor Proofs.Tryz RowKit AM SpanLaw Q Zz
namespace Go.Proofs.YtdlbkbojibiiaaaGreatDoor
open Go.RowKit Go.AM Go.SpanLaw Go.ChangeShapes Go.WideShapes Go.ChangeAt
theorem SK:laidOutB prog=true:=by kernel_rfl
def zeJ:List TypeId:=[22,95,88,9,70,68,58,61,59,154,3,27,23,24,25,50,90,74,71,126,72,118,76,115,30,28,63]
theorem VD:nH prog zeJ=true:=by kernel_rfl
theorem H2:∀t∈Tryz.f3.params.toList,prog.readableRec t=true/\t<prog.types.size:=by
 intro t a;have a:t=22\/t=27\/t=30\/t=9\/t=3:=by simpa[Tryz.f3]using a
 rcases a with rfl|rfl|rfl|rfl|rfl
 ·exact⟨by kernel_rfl,kN (by kernel_rfl)⟩
 ·exact⟨by kernel_rfl,kN (by kernel_rfl)⟩
 ·exact⟨by kernel_rfl,kN (by kernel_rfl)⟩
 ·exact⟨by kernel_rfl,kN (by kernel_rfl)⟩
 ·exact⟨by kernel_rfl,kN (by kernel_rfl)⟩
theorem Nf(H:Type)(V:TypeId×Value->H)(W:World)(base:Nat)(args:Array Value)(ds gs:List (DataW H))(d:List MemPlace)
  (a:∀(j:Nat) t v,Tryz.f3.params[j]?=some t->args[j]?=some v->Value.okWide prog W .any base t v)
  (L:DataW.Whole V prog Tryz.f3.params.toList Rows.layerWhereMatchesSpecSpec.vars false W args.toList ds gs d)
  (hk:Rows.uptoSmall H (ds++gs)=true) (i:W.ShapedOpen prog) (f:∀t∈K4,D7 W (fun b=>b<W.heap.size) t) :
  Calls prog 3 args W fun e M=>∃v,e=.returned v/\Rows.layerWhereMatchesSpecSpec.post V prog Tryz.f3 false true false false W args v M:=by
 have k:=L;obtain⟨p,q,m,hV,rfl,hfz,hnd⟩:=L;have N:DataW.TrodAll V prog W 0 (fun _=>true) true Tryz.f3.params.toList args.toList ds p:=m;rw[params3]at N a;obtain⟨o,vs0,d0,ds0,p0,q0,u,rfl,rfl,h0,r0⟩:=trodAll_cons N;obtain⟨g,vs1,d1,ds1,p1,q1,rfl,rfl,rfl,h1,r1⟩:=trodAll_cons r0;obtain⟨h,vs2,d2,ds2,p2,q2,rfl,rfl,rfl,h2,r2⟩:=trodAll_cons r1;obtain⟨y,vs3,d3,ds3,p3,q3,rfl,rfl,rfl,h3,r3⟩:=trodAll_cons r2;obtain⟨v4,vs4,d4,ds4,p4,q4,rfl,rfl,rfl,h4,r4⟩:=trodAll_cons r3;obtain⟨rfl,rfl,rfl⟩:=trodAll_nil r4;obtain rfl:args=#[o,g,h,y,v4]:=by cases args;simp_all
 obtain⟨rfl,rfl⟩:=trodVars_none hV;obtain⟨n0,pv0,s0,z⟩:=sI VD (t:=22) (by decide) (fun⟨Q,c⟩=>by rw[zfX]at c;cases c) (a 0 22 o rfl rfl) h0;obtain⟨fs1,A,_⟩:=XA zfY;have B:=a 1 27 g rfl rfl;obtain⟨n1,R,s1,C⟩:=sH (P:=prog) (r:=.any) (base:=base) (v:=g) (w:=W) VD (t:=27) (by decide) A B h1;obtain⟨fs2,D,_⟩:=XA zfZ;have E:=a 2 30 h rfl rfl;obtain⟨n2,S,s2,F⟩:=sH (P:=prog) (r:=.any) (base:=base) (v:=h) (w:=W) VD (t:=30) (by decide) D E h2;obtain⟨n3,pv3,s3,G⟩:=sI VD (t:=9) (by decide) (fun⟨Q,c⟩=>by rw[un9]at c;cases c) (a 3 9 y rfl rfl) h3;obtain⟨n4,pv4,s4,I⟩:=sI VD (t:=3) (by decide) (fun⟨Q,c⟩=>by rw[un3]at c;cases c) (a 4 3 v4 rfl rfl) h4;obtain⟨l,rfl,b0⟩:=Nc s0;obtain⟨b,rfl,b1⟩:=zbY s1;obtain⟨x,rfl,b2⟩:=Nd s2;obtain⟨s,rfl,T,_⟩:=yw un9 s3;obtain⟨n,rfl,X,_⟩:=vk un3 s4;simp only[zh,zD]at T X;subst T;subst X;have hb:Rows.uptoBulkAll [d0,d1,d2,.lit (.string s),.lit (.int .i64 n)]<=1048576:=by have:=kN hk;simpa using this
 simp only[Rows.uptoBulkAll,Rows.uptoBulk]at hb;have hlim:zx=2097152:=rfl;have g0:2*QZ l<=zx:=by omega
 have g1:b.cb<=zx:=by omega
 have g2:x.cb+2<=zx:=by omega
 have g3:s.length<=zx:=by omega
 obtain⟨code,J⟩:=zbP;refine(Pf zeH J (zeI l b x s n g0 g1 g2 g3) (by simp[Tryz.f3]) (w:=W) (vs:=[o,g,h,y,v4]) i f (.cons z (.cons C (.cons F (.cons G (.cons I .nil)))))).mono fun e M hh=>?_
 obtain⟨rfl,K⟩:=hh;exact⟨_,rfl,TQ SK H2 rfl k rfl (tb:=4) rfl un4 K⟩
end Go.Proofs.YtdlbkbojibiiaaaGreatDoor
