/- Lemmas. -/
import Derived.WalkKit
import Derived.ProofKit
import Derived.OpenShut
import Derived.Deep.DeepHandedRow
import Derived.Deep.DeepLaidRun
import Derived.Lib.LaidTab
import Derived.LaidSub
import Derived.MakeChecks
import Derived.SizedLaws
import Derived.Test.YtnbicamkimignaaGreatDoorG34
set_option maxRecDepth 100000
open Go Proofs Proofs.YtnbicamkimignaaGreatDoor Proofs.Tryz RowKit AM SpanLaw Q Zz
namespace Go.Proofs.YtnbicamkimignaaGreatDoor
open Go.RowKit Go.AM Go.SpanLaw Go.ChangeShapes Go.WideShapes Go.ChangeAt
theorem zhY:ownKnob prog.godebug=none:=by kernel_rfl
theorem N1:laidOutB prog=true:=by kernel_rfl
def zb3:List TypeId:=[26,22,23,24,61,71,34,30,28,27,136,134,171,31,101,32,54,48,82,69,9,3]
theorem KS:lC prog zb3=true:=by kernel_rfl
theorem Fk:∀t∈Tryz.f3.params.toList,prog.readableRec t=true∧t<prog.types.size:=by
 intro t a;have a:t=26∨t=34∨t=9∨t=3:=by simpa[Tryz.f3]using a
 rcases a with rfl|rfl|rfl|rfl
 ·exact⟨by kernel_rfl,QR (by kernel_rfl)⟩
 ·exact⟨by kernel_rfl,QR (by kernel_rfl)⟩
 ·exact⟨by kernel_rfl,QR (by kernel_rfl)⟩
 ·exact⟨by kernel_rfl,QR (by kernel_rfl)⟩
theorem zhZ{W:World}(i:laidMetH prog Rows.layerActsMatchSpecUptoRow.laid W):∀t∈Kd,B0 W (fun b=>b<W.heap.size) t:=by
 intro t j;obtain rfl:t=(5,.u64,Lib.pow10Tab):=by simpa[Kd]using j
 have c:=i.filter fun x=>x.1== "internal/strconv.uint64pow10"
 rw[MakeChecks.laidMetH_plain _ _ _ (by kernel_rfl)]at c;have k:(Rows.layerActsMatchSpecUptoRow.laid.filter fun x=>x.1== "internal/strconv.uint64pow10")=("internal/strconv.uint64pow10",Lib.tabData .u64 Lib.pow10Tab)::[]:=by kernel_rfl
 rw[k]at c;have a:Lib.TabIs prog W "internal/strconv.uint64pow10" .u64 Lib.pow10Tab:=Lib.tabIs_of_head (g:=5) (by kernel_rfl) (by kernel_rfl) (t:=365) (n:=20) (e:=149) zhh zg8 (by kernel_rfl) (by kernel_rfl) c;have l:prog.globalNamed "internal/strconv.uint64pow10"=some 5:=by kernel_rfl
 unfold Lib.TabIs World.var? at a;rw[l,zS]at a;have d:∃ty f,W.heap[(5:Nat)]?=some (.cells (Lib.pow10Tab.map fun z=>Value.int .u64 z).toArray ty f):=by
  split at a
  ·injection a with a;subst a;exact⟨_,_,by assumption⟩
  ·cases a
 obtain⟨ty,f,h⟩:=d;exact⟨(qu.1 h).1,ty,f,h⟩
theorem H6(H:Type)(V:TypeId×Value→H)(W:World)(base:Nat)(args:Array Value)(ds M:List (DataW H))(d:List MemPlace)
  (a:∀(j:Nat) t v,Tryz.f3.params[j]?=some t→args[j]?=some v→Value.okWide prog W .any base t v)
  (N:DataW.Whole V prog Tryz.f3.params.toList Rows.layerActsMatchSpecSpec.vars false W args.toList ds M d)
  (hk:Rows.uptoSmall H (ds++M)=true) (i:W.ShapedOpen prog) (f:∀t∈Kd,B0 W (fun b=>b<W.heap.size) t) :
  Calls prog 3 args W fun e Q=>∃v,e=.returned v∧Rows.layerActsMatchSpecSpec.post V prog Tryz.f3 false true false false W args v Q:=by
 have k:=N;obtain⟨p,q,l,hV,rfl,hfz,hnd⟩:=N;have R:DataW.TrodAll V prog W 0 (fun _=>true) true Tryz.f3.params.toList args.toList ds p:=l;rw[params3]at R a;obtain⟨g,vs0,d0,ds0,p0,q0,o,rfl,rfl,h0,r0⟩:=trodAll_cons R;obtain⟨h,vs1,d1,ds1,p1,q1,rfl,rfl,rfl,h1,r1⟩:=trodAll_cons r0;obtain⟨u,vs2,d2,ds2,p2,q2,rfl,rfl,rfl,h2,r2⟩:=trodAll_cons r1;obtain⟨z,vs3,d3,ds3,p3,q3,rfl,rfl,rfl,h3,r3⟩:=trodAll_cons r2;obtain⟨v4,vs4,d4,ds4,p4,q4,rfl,rfl,rfl,h4,r4⟩:=trodAll_cons r3;obtain⟨rfl,rfl,rfl⟩:=trodAll_nil r4;obtain rfl:args=#[g,h,u,z,v4]:=by cases args;simp_all
 obtain⟨rfl,rfl⟩:=trodVars_none hV;obtain⟨A,hu,_⟩:=VM zcV;have B:=a 0 26 g rfl rfl;obtain⟨n0,S,s0,C⟩:=pj (P:=prog) (r:=.any) (base:=base) (v:=g) (w:=W) KS (t:=26) (by decide) hu B h0;obtain⟨fs1,D,_⟩:=VM zcX;have E:=a 1 34 h rfl rfl;obtain⟨n1,T,s1,F⟩:=pj (P:=prog) (r:=.any) (base:=base) (v:=h) (w:=W) KS (t:=34) (by decide) D E h1;obtain⟨n2,pv2,s2,G⟩:=pk KS (t:=9) (by decide) (fun⟨A,c⟩=>by rw[un9]at c;cases c) (a 2 9 u rfl rfl) h2;obtain⟨n3,pv3,s3,I⟩:=pk KS (t:=3) (by decide) (fun⟨A,c⟩=>by rw[un3]at c;cases c) (a 3 3 z rfl rfl) h3;obtain⟨n4,pv4,s4,J⟩:=pk KS (t:=3) (by decide) (fun⟨A,c⟩=>by rw[un3]at c;cases c) (a 4 3 v4 rfl rfl) h4;obtain⟨x,rfl,hx⟩:=Tb s0;obtain⟨y,rfl,hy⟩:=Fj s1;obtain⟨s,rfl,U,_⟩:=yW un9 s2;obtain⟨n,rfl,X,_⟩:=kC un3 s3;obtain⟨m,rfl,e4,_⟩:=kC un3 s4;simp only[zh,zK]at U X e4;subst U;subst X;subst e4;have hb:Rows.uptoBulkAll [d0,d1,.lit (.string s),.lit (.int .i64 n),.lit (.int .i64 m)]≤1048576:=by have:=QR hk;simpa using this
 simp only[Rows.uptoBulkAll,Rows.uptoBulk]at hb;have g0:x.cb+y.cb≤1048576:=by omega
 obtain⟨code,K⟩:=NV;refine(LX zb1 K (S6 x y s n m g0) (by simp[Tryz.f3]) (w:=W) (vs:=[g,h,u,z,v4]) i f (.cons C (.cons F (.cons G (.cons I (.cons J .nil)))))).mono fun e Q hh=>?_
 obtain⟨rfl,L⟩:=hh;exact⟨_,rfl,O5 N1 Fk rfl k rfl (tb:=4) rfl un4 L⟩
def Tc(k:IntKind):List (DataW Unit)→List Value
 | .lit (.int _ i)::l=>.int k i::Tc k l
 |_=>[]
def Td(k:IntKind):DataW Unit→Array Value
 | .agg l=>(Tc k l).toArray
 |_=>#[]
def po(vs:Array Value):Obj→Obj
 | .cells _ t frozen=>.cells vs t frozen
 |o=>o
noncomputable def zc3:Nat:=(World.holding prog default ⟨#[],#[],[]⟩).heap.size
def zc4:ByteArray:=⟨#[118,97,108,117,101,32,111,117,116,32,111,102,32,114,97,110,103,101]⟩
def zc5:ByteArray:=⟨#[105,110,118,97,108,105,100,32,115,121,110,116,97,120]⟩
def Fl:Array Value:=(([128,191,160,191,128,159,144,191,128,143,0,0,0,0,0,0,0,0,0,0,0,0,0,0,0,0,0,0,0,0,0,0]:List Nat).map fun(n:Nat)=>Value.int .u8 (n:Int)).toArray
def firstCells:Array Value:=(Go.Pinned.utf8FirstZ.map fun(n:Nat)=>Value.int .u8 (n:Int)).toArray
noncomputable def zc6 (b:Nat):Array Value:=#[.iface 356 (.pointer (some ⟨b,0,none⟩))]
noncomputable def zeJ (h:Array Obj):Array Obj:=
 ((((((h.modify 1 (po firstCells)).modify 2 (po Fl)).modify 5 (po (Td .u64 Rows.laid_internal_strconv_uint64pow10))).modify 6 (po (Td .u8 Rows.laid_math_bits_deBruijn32tab))).modify 7 (po (Td .u8 Rows.laid_math_bits_deBruijn64tab))).modify 4 (po (zc6 zc3))).modify 3 (po (zc6 (zc3+1)))
noncomputable def BN (a:Os):World:=
 {World.holding prog a ⟨#[.cells #[.string zc4] 358,.cells #[.string zc5] 358],#[],[]⟩with heap:=zeJ (World.holding prog a ⟨#[.cells #[.string zc4] 358,.cells #[.string zc5] 358],#[],[]⟩).heap}
def BW:Array Value:=#[.agg #[.slice none 0 0,.slice none 0 0,.slice none 0 0],.agg #[.string ⟨#[]⟩,.string ⟨#[]⟩,.string ⟨#[]⟩,.int .i64 0,.string ⟨#[]⟩,.int .i64 0,.slice none 0 0,.string ⟨#[]⟩,.string ⟨#[]⟩,.slice none 0 0,.string ⟨#[]⟩,.slice none 0 0,.slice none 0 0],.string ⟨#[]⟩,.int .i64 0,.int .i64 0]
theorem zeK(a:Os):laidMet prog Rows.layerActsMatchSpecUptoRow.laid ((BN a).forCall (fun _ _=>0) ⟨#[],BW,[]⟩).memory:=
 laidMet_of_run3 8 (by kernel_rfl) (by kernel_rfl) (by kernel_rfl)
theorem zb4(b:Os){H:Type}(V:TypeId×Value→H):∃a,DataW.whole V prog ((BN b).forCall (fun _ _=>0) ⟨#[],BW,[]⟩).memory Tryz.f3.params.toList Rows.layerActsMatchSpecSpec.vars false BW.toList 8=some ([.agg [.nil,.nil,.nil],.agg [.lit (.string []),.lit (.string []),.lit (.string []),.agg [.lit (.int .i64 0),.lit (.string []),.lit (.int .i64 0),.nil,.lit (.string []),.lit (.string []),.nil],.lit (.string []),.nil,.nil],.lit (.string []),.lit (.int .i64 0),.lit (.int .i64 0)],[],a):=
 ⟨[],by kernel_rfl⟩
theorem Te(e:Os)(a:e.Started)(H:Type)(V:TypeId×Value→H)(F:Stop.Interp) :
  ReturnsInHanded {} Tryz.checked e 3 .any ((Rows.OpenSpec.upto Rows.layerActsMatchSpecSpec).preRow V prog Tryz.f3 Rows.layerActsMatchSpecUptoRow.domain false Rows.layerActsMatchSpecUptoRow.laid) (((Rows.OpenSpec.upto Rows.layerActsMatchSpecSpec).at F).post V prog Tryz.f3 false true false false):=by
 obtain⟨g,i⟩:=zb4 e V;refine returnsInHanded_of_row (C:=Tryz.checked) (s:=Rows.OpenSpec.upto Rows.layerActsMatchSpecSpec) zhY a (by kernel_rfl) func3
  (witness_row_at (enc:=V) (C:=Tryz.checked) false (BN e) BW rfl (by kernel_rfl) (by kernel_rfl) (by kernel_rfl)
   (OpenSpec.preRow_of_cond 8 i (by kernel_rfl) (fun k j=>by cases j;kernel_rfl) (by kernel_rfl) (zeK e))) ?_
 intro W base args ds l b f m _ c _ d h _;exact H6 H V W base args ds l b f m (c _ rfl) h (zhZ d)
end Go.Proofs.YtnbicamkimignaaGreatDoor
