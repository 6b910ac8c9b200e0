/- Lemmas. -/
import Derived.Laws.CopyRow
import Derived.Lib.Overlaps
import Derived.Lib.AppendZerosOnto
import Derived.Laws.NewBlocks
import Derived.Shelf.Spec.SlicesInsert
import Derived.Test.YtnbicamkimignaaGreatDoorG27
set_option maxRecDepth 100000
set_option maxHeartbeats 4000000
open Go Proofs Proofs.YtnbicamkimignaaGreatDoor Proofs.Tryz RowKit AM SpanLaw Q Zz
open Go.IntKind renaming i64→i6
namespace Go.Q
theorem oR{s:za}{p:Part}(h:Qo s=some p):(KW s).2.2=true∧(KW s).2.1=p.has∧(KW s).2.1≠0∧p=(KW s).1.part (KW s).2.1∧(KW s).1.ok∧1≤p.has∧p.has≤3:=by
 have f:=h;rw[I1]at h;split at h
 ·rename_i d;injection h with h
  obtain⟨_,_,Y,j⟩:=Ql f;subst h;obtain⟨a,b,c,⟨g,i⟩,e⟩:=Y;exact⟨d.1,rfl,d.2,rfl,⟨a,b,c,e⟩,g,i⟩
 ·cases h
theorem oS{s:za}(h:Qo s=none):(KW s).2.2=false∨(KW s).2.1=0:=by
 rw[I1]at h;split at h
 ·cases h
 ·rename_i b;by_cases a:(KW s).2.1=0
  ·exact .inr a
  ·left;cases c:(KW s).2.2
   ·rfl
   ·exact absurd ⟨c,a⟩ b
noncomputable def oT (a b:za):List wR×Int:=match Qo a,Qo b with
 |some p,some q=>((eB p q).1,if(eB p q).2=true then 0 else 1)
 |_,_=>([],10)
noncomputable def X8 (a b:za):O:=.yb [.sl 11 (qz (oT a b).1),int (oT a b).2]
def one1(a b:za):Prop:=a.length+1≤zG∧b.length+1≤zG
noncomputable abbrev Crbt:Ctx:=qb prog [(252,zi false [] (aO HJ)),(277,qh [.g vB] (T8 Wz fun m=>1≤m∧m≤3)),(278,qh [.g ka,.g ka] (CU Vj))]
theorem zbf:AM.Good Crbt (fun g=>([]:List Nat).contains g):=zI mixed ⟨Y9,by simp,ez,by simp,iq,by simp,trivial⟩
theorem rI(a b:za)(t:one1 a b):∃y,zz Crbt f249 [str a,str b]=some y∧qM y (X8 a b):=by
 obtain⟨F,G⟩:=t;refine y8 (sh:=.s 11 jM) rfl ?_;have f:=fun Y Z=>Zy HJ a Y Z F
 have g:=fun Y Z=>Zy HJ b Y Z G
 simp only[HJ,yJ.V]at f g;cases i:Qo a with
 |none=>
  have d:oT a b=([],10):=by unfold oT;rw[i]
  rcases oS i with h|h
  ·simp[f,g,h,qL,X8,d,qz,f249]
  ·cases H:(KW a).2.2<;>cases u:(KW b).2.2<;>simp[f,g,h,H,u,qL,X8,d,qz,f249]
 |some p=>
  obtain⟨n,M,I,z,J,N,P⟩:=oR i;have e:((KW a).2.1==0)=false:=by simpa using I
  cases o:Qo b with
  |none=>
   have d:oT a b=([],10):=by unfold oT;rw[i,o]
   rcases oS o with h|h
   ·simp[f,g,n,e,h,qL,X8,d,qz,f249]
   ·cases u:(KW b).2.2<;>simp[f,g,n,e,h,u,qL,X8,d,qz,f249]
  |some q=>
   obtain⟨A,K,L,B,C,D,E⟩:=oR o;have j:((KW b).2.1==0)=false:=by simpa using L
   have d:oT a b=((eB p q).1,if(eB p q).2=true then 0 else 1):=by unfold oT;rw[i,o]
   rw[←K]at D E;have c:=fun Y Z=>X0 Wz (fun m=>1≤m∧m≤3) (KW b).1 (KW b).2.1 (.agg (KW b).1.V) Y Z C ⟨D,E⟩ (KQ _) (X1 _ Y) (X2 _)
   have k:ZN p=⟨(KW a).1,false⟩:=by rw[z];rfl
   have v:vP p.pre:=by rw[z];exact J.small
   have w:vP q.pre:=by rw[B];exact C.small
   have l:=fun Y Z=>Ww (ZN p) (vS q) Y Z (Qg v) (Wf w)
   simp only[Vj,k,yJ.V,Cut.V,Wz,Jz,←B]at c l;cases r:QF q
   ·rw[r]at c;have x:eB p q=([],false):=by unfold eB;rw[r];rfl
    rw[x]at d;simp[f,g,n,e,A,j,c,qL,X8,d,qz,f249]
   ·rw[r]at c;have x:eB p q=(fv (ZN p) (vS q),true):=by unfold eB;rw[r];rfl
    rw[x]at d;simp[f,g,n,e,A,j,c,l,zR,qc,qL,X8,d,k,qz,wR.V,Cut.V,f249]
theorem oU:zg prog 249 (zi false [] (qv (α:=za×za) (fun a=>[str a.1,str a.2]) (fun a=>one1 a.1 a.2) fun a=>X8 a.1 a.2)):=
 jD (fn:=f249) zbf ⟨_,func249,by kernel_rfl,rfl,by kernel_rfl⟩ false [] _ fun args r h w S vs c=>by obtain⟨⟨a,b⟩,rfl,Y,rfl⟩:=zr h;obtain⟨d,e,f⟩:=rI a b Y;exact⟨_,d,c,by simp[f249],e,f⟩
noncomputable def FBt2:zc→Option O:=qv (α:=za×za) (fun a=>[str a.1,str a.2]) (fun a=>one1 a.1 a.2) fun a=>X8 a.1 a.2
theorem Nt(a b:za)(Y:Hp)(Z:Nat)(h:one1 a b):zi false [] FBt2 [str a,str b] Y Z=some (X8 a b,Y,Z):=
 qe rfl (zJ (V:=fun a:List UInt8×za=>[str a.1,str a.2]) (a:=(a,b)) uS h) (.inr (by simp))
end Go.Q
namespace Go.Proofs
open Go.Shelf
def Tryz.Oc:Go.Shelf.Ren:=⟨fun|4=>284|n=>n,fun|22=>209|25=>239|0=>0|3=>3|4=>4|9=>9|20=>20|n=>n,fun|n=>n⟩
theorem Tryz.kF:Go.Proofs.Lays8.n4 prog Tryz.Oc:={
 mixed:=by kernel_rfl
 f4:=⟨f284.name,by decide,func284.trans (zD some (by kernel_rfl))⟩
 t0:=underlying0
 a0:=isAgg0
 z0:=sizeOf0
 v0:=zeroValue0
 t3:=underlying3
 a3:=isAgg3
 z3:=sizeOf3
 v3:=zeroValue3
 t4:=underlying4
 a4:=isAgg4
 z4:=sizeOf4
 v4:=zeroValue4
 t9:=underlying9
 a9:=isAgg9
 z9:=sizeOf9
 v9:=zeroValue9
 t20:=underlying20
 a20:=isAgg20
 z20:=sizeOf20
 v20:=zeroValue20
 t22:=underlying209
 a22:=isAgg209
 z22:=sizeOf209
 v22:=zeroValue209}
end Go.Proofs
namespace Go.Q
theorem ES:zg prog 284 (bz 239 11 120):=
 gX ⟨_,func284,by decide,by kernel_rfl⟩ sy (by decide) (pA.of Tryz.kF sy Cw Cx rfl (by omega))
noncomputable def Sk (out:List wR→List wR→O) (pre:List wR→List wR→Prop):zc→Option O:=qv (α:=List wR×List wR) (fun a=>[.sl 1 [[.sl 11 (a.1.map wR.V)],[.sl 11 (a.2.map wR.V)]]]) (fun a=>pre a.1 a.2) (fun a=>out a.1 a.2)
noncomputable abbrev FF:Ctx:=qb prog [(284,bz 239 11 120)]
theorem Bo(a b:List wR)(E:a.length≤zG)(x:b.length≤zG):∃g,zz FF f254 [.sl 1 [[.sl 11 (a.map wR.V)],[.sl 11 (b.map wR.V)]]]=some g∧qM g (.sl 11 ((a++b).map wR.V)):=by
 have r:∀{code},f254.body=some code→Zf FF code ⟨ve [.sl 1 [[.sl 11 (a.map wR.V)],[.sl 11 (b.map wR.V)]]],fun _=>none,0⟩ (JT FF.P f254 (VW (.sl 11 ((a++b).map wR.V))))→∃g,zz FF f254 [.sl 1 [[.sl 11 (a.map wR.V)],[.sl 11 (b.map wR.V)]]]=some g∧qM g (.sl 11 ((a++b).map wR.V)):=by intro code x h;obtain⟨g,F,G⟩:=xr x h;exact⟨g,F,fun w S u H=>JU H G⟩
 refine r rfl ?_;unfold zG at E x;let cs:List (List wR):=[a,b];have c:cs=[a,b]:=rfl;simp;refine zQ (fun k d Y Z=>d 0=.sl 1 [[.sl 11 (a.map wR.V)],[.sl 11 (b.map wR.V)]]∧d 9=.sl 1 [[.sl 11 (a.map wR.V)],[.sl 11 (b.map wR.V)]]∧d 10=int 2∧d 11=int k∧d 3=int (((cs.take k).map List.length).sum:Nat)) 2
  ⟨by simp,by simp,by simp,by simp,by simp⟩ ?_
 rintro k d Y Z I ⟨y,z,i,j,q⟩;obtain rfl|rfl|rfl:k=0∨k=1∨k=2:=by omega
 ·simp[c]at q;have A:i6.wrap (a.length:Int)=a.length:=zn (by omega) (by omega);have l:i6.wrap 1=1:=zn (by omega) (by omega);have B:¬(a.length:Int)<0:=by omega
  simp[y,z,i,j,q,A,l,B,c]
 ·simp[c]at q;have A:i6.wrap ((a.length:Int)+b.length)=a.length+b.length:=zn (by omega) (by omega);have l:i6.wrap 2=2:=zn (by omega) (by omega);have B:¬(a.length:Int)+b.length<0:=by omega
  simp[y,z,i,j,q,A,l,B,c]
 ·simp[c]at q;have J:∀Y Z,∃v Y' s,bz 239 11 120 [.nil,int ((a.length:Int)+b.length)] Y Z=some (v,Y',s)∧q6 Y' s 239 11 v []:=fun Y Z=>by
   by_cases D:(a.length:Int)+b.length=0
   ·exact⟨.nil,Y,Z,by simp[bz,D],.inl ⟨rfl,rfl⟩⟩
   ·exact⟨.own Z 0 0,qZ Y Z (some ⟨239,11,true,[]⟩),Z+1,by show(if(a.length:Int)+b.length=0 then _ else _)=_;rw[zj D,zf ⟨by omega,by omega,by omega⟩],.inr ⟨Z,by omega,rfl,by simp⟩⟩
  obtain⟨v,Y',s,C,f⟩:=J Y Z;simp[y,z,i,j,q,C];refine zQ (fun k d Y Z=>d 25=.sl 1 [[.sl 11 (a.map wR.V)],[.sl 11 (b.map wR.V)]]∧d 26=int 2∧d 27=int k∧q6 Y Z 239 11 (d 6) (((cs.take k).flatten).map wR.V)) 2
   ⟨by simp,by simp,by simp,by simpa using f⟩ ?_
  rintro k d Y Z I ⟨m,n,o,f⟩;obtain rfl|rfl|rfl:k=0∨k=1∨k=2:=by omega
  ·simp[c]at f;obtain⟨K,Y',s,p,e,_⟩:=f.lX (P:=prog) (t:=209) (ys:=a.map wR.V) Io sy Cw Cx rfl (by omega) (by simp[maxLen];omega) (by simp;omega);have l:i6.wrap 1=1:=zn (by omega) (by omega);simp at e;simp[m,n,o,p,l,c];exact e
  ·simp[c]at f;obtain⟨K,Y',s,p,e,_⟩:=f.lX (P:=prog) (t:=209) (ys:=b.map wR.V) Io sy Cw Cx rfl (by omega) (by simp[maxLen];omega) (by simp;omega);have l:i6.wrap 2=2:=zn (by omega) (by omega);simp[m,n,o,p,l,c];simpa using e
  ·simp[c]at f;have:=f.freeze Z;simp[m,n,o,f254];exact this
noncomputable def tV:zc→Option O:=Sk (fun a b=>.sl 11 ((a++b).map wR.V)) fun a b=>a.length≤zG∧b.length≤zG
theorem rJ:zg prog 254 (zi true [] tV):=
 jD (fn:=f254) (zI (q:=[]) mixed ⟨ES,by simp,trivial⟩:AM.Good FF _) ⟨_,func254,by kernel_rfl,rfl,by kernel_rfl⟩ true [] _ fun args r h w S vs d=>by unfold tV Sk at h;obtain⟨⟨a,b⟩,rfl,c,rfl⟩:=zr h;obtain⟨e,f,g⟩:=Bo a b c.1 c.2;exact⟨_,e,d,zC (ze 1) (by decide),f,g⟩
end Go.Q
namespace Go.AM
variable{dr:Prop}
section
variable{P:Program}{Y:Hp}{Z:Nat}
def Sl(P:Program)(f e s m:Nat):Prop:=
 ∀(w:World) (g o n i cap l:Nat) (d a:Array Value) (q:TypeId),i<n→n≤cap→cap≤maxLen→n+1≤maxLen→(n+1)*m≤140737488355328→g≠o→1≤l→l≤maxLen →
  w.heap[g]?=some (.cells d e (0,0))→d.size=cap*s→w.heap[o]?=some (.cells a q (0,0))→a.size=l*s→(∀j v,j<n*s→d[j]?=some v→v.oneCell'=true)→(∀j v,j<s→a[j]?=some v→v.oneCell'=true) →
  Calls P f #[.slice (some ⟨g,0,none⟩) n cap,.int .i64 i,.slice (some ⟨o,0,none⟩) 1 l] w fun r p=>∃(k c:Nat) (h:Array Value),n+1≤c∧c≤maxLen∧r=.returned (.slice (some ⟨k,0,none⟩) ((n+1:Nat)) c) ∧
   (k=g∨w.heap.size≤k)∧p.heap[k]?=some (.cells h e (0,0))∧h.size=c*s∧Fr True w (fun b=>b=k) p ∧
   ∀j,j<(n+1)*s→h[j]?=(d.toList.take (i*s)++a.toList.take s++(d.toList.take (n*s)).drop (i*s))[j]?
def iv(e s d:Nat):AM.Spec:=fun args Y Z=>match args with
 |[.own id 0 n,.v (.int .i64 i),.own a 0 1]=>match Y id,Y a with
  |some b,some f=>match f.es with
   |[c]=>if id≠a∧b.arr=true∧f.arr=true∧b.e=e∧b.s=s∧f.s=s∧b.es.length=n∧0≤i∧i<n∧(n+1)*d≤140737488355328∧n+1≤maxLen then
     some (.own Z 0 (n+1),qZ (qZ Y id none) Z (some ⟨e,s,true,b.es.take i.toNat++c::b.es.drop i.toNat⟩),Z+1)else none
   |_=>none
  |_,_=>none
 |_=>none
theorem zeu{es:List zc}{s i j:Nat}(e:∀c∈es,c.length=s){c:zc}{f:O}(a:es[i]?=some c)(g:c[j]?=some f):j<s∧i<es.length∧i*s+j<es.length*s:=by
 have b:j<s:=by rw[←e c (zO a)];exact(zq.1 g).1
 have d:i<es.length:=(zq.1 a).1;exact⟨b,d,Qu d b⟩
theorem iw{f e s by_:Nat}(hfn:∃fn,P.funcs[f]?=some fn∧(fn.name== "runtime.NumGoroutine")=false∧fn.body.isNone=false)(hsz:q8 P e=some s)(E:0<s)(h:Sl P f e s by_):km dr P f (iv e s by_):=by
 refine⟨hfn,?_⟩;intro args Y Z r Y' Z' t w S G vs I hz;unfold iv at t;split at t
 case h_2=>cases t
 rename_i id n i x;split at t
 case h_2=>cases t
 rename_i b b2 hb hb2;split at t
 case h_2=>cases t
 rename_i c hc;split at t
 case isFalse=>cases t
 rename_i hk;obtain⟨k1,k2,k3,k4,k5,k6,k7,k8,k9,k10,k11⟩:=hk;injection t with t
 injection t with e1 t;injection t with e2 e3;subst e1;subst e2;subst e3;obtain⟨u0,us,rfl,hu0,y⟩:=hz.jl;obtain⟨u1,us,rfl,hu1,y⟩:=y.jl;obtain⟨u2,us,rfl,hu2,y⟩:=y.jl;obtain rfl:=y.Yi;obtain⟨rfl,_⟩:=hu1.yH;have Ua:=hu0.Zb;have J:=hu2.Zb;obtain⟨cap,g1,g2,g3,g4,rfl⟩:=hu0.xd;obtain⟨vc,v1,v2,v3,v4,rfl⟩:=hu2.xd;have T:=I.live id b hb;have z:=I.live x b2 hb2;have hgs:(G id).s=s:=by rw[←T.bs];exact k5
 have K:(G x).s=s:=by rw[←z.bs];exact k6
 obtain⟨F,q1,q2,q3⟩:=T.row Ua;obtain⟨A,r1,r2,r3⟩:=z.row J;rw[hgs]at q3 g4;rw[K]at r3 v4;rw[k4]at q1;have z0:0*(G id).s=0:=Nat.zero_mul _;have z1:0*(G x).s=0:=Nat.zero_mul _;rw[z0,z1];have hne:(G id).g≠(G x).g:=fun e=>k1 (I.inj id x b b2 hb hb2 e)
 have B:∀c∈b.es,c.length=s:=fun c hc=>by rw[←hgs];exact T.len Ua c hc
 have hlc:c.length=s:=by rw[←K];exact z.len J c (by rw[hc];simp)
 obtain⟨m,rfl⟩:∃m:Nat,i=m:=⟨i.toNat,by omega⟩;have hmn:m<n:=by omega
 have key:=h w (G id).g (G x).g n m cap vc F A b2.e hmn g2 g3 k11 k10 hne v2 v3 q1 (by rw[q2,←g4,wD]) r1 (by rw[r2,←v4,wD])
  (fun j v U hv=>by
   have hd:=Nat.div_add_mod j s;have hm:=Nat.mod_lt j E;have W:j/s<b.es.length:=by rw[k7];exact(Nat.div_lt_iff_lt_mul E).2 U
   obtain⟨row,L⟩:∃row,b.es[j/s]?=some row:=⟨_,zu W⟩;have X:=B row (zO L);obtain⟨q,hpv⟩:∃q,row[j % s]?=some q:=⟨_,zu (by omega)⟩;obtain⟨u,p,H⟩:=q3 (j/s) (j % s) row q L hpv;rw[zb8,hd,hv]at p;injection p with p;rw[p];exact H.2.2)
  (fun j v U hv=>by obtain⟨q,hpv⟩:∃q,c[j]?=some q:=⟨_,zu (by omega)⟩;obtain⟨u,p,H⟩:=r3 0 j c q (by rw[hc];rfl) hpv;rw[Nat.zero_mul,wD,hv]at p;injection p with p;rw[p];exact H.2.2)
 refine key.mono fun e w' hr=>?_
 obtain⟨g',M,l,p1,p2,rfl,p4,p5,p6,p7,p8⟩:=hr;have N:∀id' C,qZ Y id none id'=some C→Y id'=some C:=fun id' C h=>YO h
 have zl7:∀id' C,qZ Y id none id'=some C→(G id').g≠g':=fun id' C D e=>by
  have hb0:=N id' C D;rcases p4 with rfl|p4
  ·have:=I.inj id' id C b hb0 hb e;subst this;rw[w9]at D;cases D
  ·have:=(I.live id' C hb0).lt;omega
 have hnS:¬S g':=fun hS=>by
  rcases p4 with rfl|p4
  ·exact I.apart id b hb hS
  ·have:=I.st _ hS;omega
 have htl:(b.es.take m++c::b.es.drop m).length=n+1:=by simp;omega
 have X:∀c'∈b.es.take m++c::b.es.drop m,c'.length=s:=fun c' hc'=>by
  rcases qP.1 hc' with h|h
  ·exact B c' (xG h)
  ·rcases zL.1 h with rfl|h
   ·exact hlc
   ·exact B c' (zh1 h)
 have hcl:(F.toList.take (n*s)).length=n*s:=by have:n*s≤cap*s:=qB _ g2;simp only[yM,qT];rw[q2,←g4,wD];exact rV this
 have hms:m*s≤n*s:=qB _ (by omega);have o:(F.toList.take (m*s)).length=m*s:=by
  have:F.toList.length=cap*s:=by rw[qT,q2,←g4,wD]
  have h2:n*s≤cap*s:=qB _ g2;simp only[yM,this];omega
 have hvl:(A.toList.take s).length=s:=by
  have:A.toList.length=vc*s:=by rw[qT,r2,←v4,wD]
  have h2:1*s≤vc*s:=qB _ v2;simp only[yM,this];omega
 have k:=kJ.Tm (dr:=dr) (Y1:=qZ Y id none) I N ⟨g',l.size,s⟩ e true (b.es.take m++c::b.es.drop m) l p7.os p7.tape p7.output p7.size (p7.drawn trivial) (fun _=>False) (fun _ h=>h.elim)
  (fun C D hne' _=>p7.block C D hne') zl7 hnS (by
   rcases p4 with rfl|p4
   ·exact .inl ⟨id,b,hb,rfl⟩
   ·exact .inr p4) E (by simpa[q8]using hsz) X (by rw[htl,p6];exact qB _ p1) p5 rfl
  (fun i' j c' q a U=>by
   obtain⟨b1,b2',b3⟩:=zeu X a U;rw[htl]at b2' b3;have FD:=p8 (i'*s+j) b3;show∃u,l[i'*s+j]?=some u∧_;rw[FD];have Q:∀u,kq w S G Z b.arr q u→kq w S G Z true q u:=fun u hu=>by rw[k2]at hu;exact hu
   have zic:∀u,kq w S G Z b2.arr q u→kq w S G Z true q u:=fun u hu=>by rw[k3]at hu;exact hu
   rcases Nat.lt_trichotomy i' m with hlt|heq|hgt
   ·rw[qV (by rw[yM,k7];omega),qG,zf hlt]at a;obtain⟨u,p,H⟩:=q3 i' j c' q a U;have R:i'*s+j<m*s:=Qu hlt b1;refine⟨u,?_,Q u H⟩;rw[qj,qV (by rw[o];exact R),qG,zf R];simpa using p
   ·subst heq;rw[qg (by rw[yM,k7];omega)]at a;rw[yM,k7,rV (by omega),Nat.sub_self]at a;simp only[List.getElem?_cons_zero,qw]at a;subst a;obtain⟨u,p,H⟩:=r3 0 j c q (by rw[hc];rfl) U;rw[Nat.zero_mul,wD]at p;refine⟨u,?_,zic u H⟩;rw[qj,qg (by rw[o];omega),o,Nat.add_sub_cancel_left,qV (by rw[hvl];exact b1),qG,zf b1];simpa using p
   ·obtain⟨d,rfl⟩:∃d,i'=d+1:=⟨i'-1,by omega⟩;rw[qg (by rw[yM,k7];omega)]at a;rw[yM,k7,rV (by omega),show d+1-m=(d-m)+1 by omega,List.getElem?_cons_succ,wF,show m+(d-m)=d by omega]at a;obtain⟨u,p,H⟩:=q3 d j c' q a U;have hdn:d<n:=by omega
    have W:=Qu (s:=s) hdn b1;have hmd:m*s≤d*s:=qB _ (by omega);refine⟨u,?_,Q u H⟩;rw[qg (by rw[ye,o,hvl,yL,Nat.one_mul];omega),ye,o,hvl,wF,
     show m*s+((d+1)*s+j-(m*s+s))=d*s+j by rw[yL,Nat.one_mul];omega,qG,zf W]
    simpa using p)
 refine⟨_,_,_,rfl,k,?_⟩;have:=qK.own (w:=w') (S:=S) (G:=qZ G Z ⟨g',l.size,s⟩) (Z:=Z+1) (id:=Z) (off:=0) (n:=n+1) (cap:=M) (by omega) p1 p2 (by rw[w9];show(0+M)*s=l.size;rw[p6,wD]) (by rw[w9];exact E);rw[w9]at this;simpa using this
noncomputable def Nu (C:Ctx) (fn:Func) (e s a:Nat):AM.Spec:=fun args Y Z=>match iv e s a args Y Z with
 |some r=>some r
 |none=>wP C fn args Y Z
theorem oV{C:Ctx}{fn:Func}{f e s a:Nat}(b:km dr P f (iv e s a))(d:km dr P f (wP C fn)):km dr P f (Nu C fn e s a):=by
 refine⟨b.1,fun args Y Z r Y' c h=>?_⟩;unfold Nu at h;split at h
 ·rename_i q g;injection h with h
  subst h;exact b.2 args Y Z r Y' c g
 ·exact d.2 args Y Z r Y' c h
end
end Go.AM
namespace Go.AM
open Go.RowKit Go.Proofs Go.Lib
variable{dr:Prop}
variable{P:Program}
theorem kW(w:World)(r s ty b:TypeId)(k m g o d f:Nat)(a:Addr)(e h:Nat)(c:Array Value)(t:TypeId)(cs:List Value)
  (u:P.underlying r=some (.slice b)) (hs:q8 P b=some k)
  (x:w.heap[g]?=some (.cells c t (0,0))) (y:Nat.min e d=m) (z:cs.length=m*k)
  (l:∀j v,cs[j]?=some v→w.cell? (a.add j)=some v) (n:o+cs.length≤c.size) (A:∀v∈cs,v.oneCell'=true) :
  (Builtin.copy_ #[r,s] ty #[.slice (some ⟨g,o,none⟩) d f,.slice (some a) e h]).run P w =
   .ok (goInt m) (w.setRow g (c.toList.take o++cs++c.toList.drop (o+cs.length)).toArray):=by
 have B:=run_loadCells_list (P:=P) w a cs l;have p:=run_storeCells_at P g o t cs 0 c w x (by simpa using n) A;unfold q8 at hs;cases q:P.info? b with
 |none=>simp[q]at hs
 |some i=>
  have C:i.size=k:=by simpa[q]using hs
  simp[Builtin.copy_,zP u,Builtin.lenOf,Builtin.firstCells,sizeOf,typeInfo,q,C,y,←z,B,p]
theorem ZU{w:World}{g e:Nat}{a:Array Value}(h:w.heap[g]?=some (.cells a e (0,0)))(j:Nat):w.cell? ⟨g,j,none⟩=a[j]?:=by simp[World.cell?,h]
theorem eD{w:World}{g e:Nat}{a:Array Value}(h:w.heap[g]?=some (.cells a e (0,0)))(j:Nat):w.frozen? ⟨g,j,none⟩=false:=by simp[World.frozen?,h]
theorem aI{w:World}{g e:Nat}{a:Array Value}(h:w.heap[g]?=some (.cells a e (0,0))):w.shape? g=some (e,a.size):=by simp[World.shape?,h]
theorem xx{w:World}{g k:Nat}(cs:Array Value)(h:k≠g):(w.setRow g cs).heap[k]?=w.heap[k]?:=by
 have:¬g=k:=fun e=>h e.symm
 simp[World.setRow,Ji,this]
theorem aJ(w:World)(g:Nat)(cs:Array Value):Fr dr w (fun b=>b=g) (w.setRow g cs):=
 ⟨rfl,rfl,rfl,by simp[World.setRow],fun _=>ze _,fun k _ a=>xx cs a⟩
def yG(l:List Value)(o:Nat)(cs:List Value):List Value:=l.take o++cs++l.drop (o+cs.length)
theorem zlM{l cs:List Value}{o:Nat}(h:o+cs.length≤l.length):(yG l o cs).length=l.length:=by unfold yG;simp;omega
theorem tW{l vs:List Value}{n i s:Nat}(c:i≤n)(d:(n+1)*s≤l.length)(e:vs.length=s)(j:Nat)(f:j<(n+1)*s) :
  (yG (yG l ((i+1)*s) ((l.take (n*s)).drop (i*s))) (i*s) vs)[j]?=(l.take (i*s)++vs++(l.take (n*s)).drop (i*s))[j]?:=by
 have g:(i+1)*s=i*s+s:=by rw[yL,Nat.one_mul]
 have h:(n+1)*s=n*s+s:=by rw[yL,Nat.one_mul]
 have u:i*s≤n*s:=qB _ c;rw[h]at d f;rw[g];generalize n*s=N at *;generalize i*s=I at *;subst e;have k:((l.take N).drop I).length=N-I:=by simp;omega
 have b:I+vs.length+((l.take N).drop I).length≤l.length:=by rw[k];omega
 have a:(yG l (I+vs.length) ((l.take N).drop I)).length=l.length:=zlM b;have m:=vN (yG l (I+vs.length) ((l.take N).drop I)) vs I j (by rw[a];omega);have o:=vN l ((l.take N).drop I) (I+vs.length) j b;have p:(yG (yG l (I+vs.length) ((l.take N).drop I)) I vs)[j]?=if I≤j∧j<I+vs.length then vs[j-I]? else(yG l (I+vs.length) ((l.take N).drop I))[j]?:=m
 have q:(yG l (I+vs.length) ((l.take N).drop I))[j]?=if I+vs.length≤j∧j<I+vs.length+((l.take N).drop I).length then((l.take N).drop I)[j-(I+vs.length)]? else l[j]?:=o
 have r:(l.take I).length=I:=by simp;omega
 rw[p,q,qj];by_cases t:j<I
 ·rw[zj (by omega),zj (by omega),qV (by omega),qG,zf t]
 ·rw[qg (by omega),r];by_cases v:j<I+vs.length
  ·rw[zf (by omega),qV (by omega)]
  ·rw[zj (by omega),zf (by omega),qg (by omega)];congr 1;omega
theorem ET{R olds vs cs:List Value}{I:Nat}(b:olds.length=I)(c:∀j,j<I→R[j]?=olds[j]?)(i:I+vs.length+cs.length≤R.length)(j:Nat)(k:j<I+vs.length+cs.length) :
  (yG (yG R I vs) (I+vs.length) cs)[j]?=(olds++vs++cs)[j]?:=by
 have a:(yG R I vs).length=R.length:=zlM (by omega);have d:=vN (yG R I vs) cs (I+vs.length) j (by rw[a];omega);have e:=vN R vs I j (by omega);have f:(yG (yG R I vs) (I+vs.length) cs)[j]?=if I+vs.length≤j∧j<I+vs.length+cs.length then cs[j-(I+vs.length)]? else(yG R I vs)[j]?:=d
 have g:(yG R I vs)[j]?=if I≤j∧j<I+vs.length then vs[j-I]? else R[j]?:=e
 rw[f,g,qj];by_cases h:j<I
 ·rw[zj (by omega),zj (by omega),qV (by omega),c j h]
 ·rw[qg (by omega),b];by_cases l:j<I+vs.length
  ·rw[zj (by omega),zf (by omega),qV (by omega)]
  ·rw[zf (by omega),qg (by omega)];congr 1;omega
theorem EU{e s b:Nat}{z:zc}(hs:q8 P e=some s)(c:kr P e=some b)(g:jr P e=some z)(h:z.length=s):∃i v,P.info? e=some i∧i.zero=some v∧i.size=s∧i.bytes=b∧v.cells.size=s:=by
 obtain⟨i,v,d,j,k⟩:=Ym g;obtain⟨i',a,f⟩:=Yl hs;rw[d]at a;injection a with a;subst a;refine⟨i,v,d,j,f,?_,?_⟩
 ·unfold kr at c;rw[d]at c;simpa using c
 ·have:=(ku (w:=default) (S:=fun _=>False) k).1;rw[h]at this;simpa using this.symm
theorem tX{w:World}(o:Obj):(w.alloc o).heap[w.heap.size]?=some o:=by show(w.heap.push o)[w.heap.size]?=some o;simp
theorem YM{w:World}(o:Obj){k:Nat}(h:k<w.heap.size):(w.alloc o).heap[k]?=w.heap[k]?:=by
 have:¬k=w.heap.size:=by omega
 show(w.heap.push o)[k]?=_;simp[Array.getElem?_push,this]
theorem setRow_size{w:World}{g:Nat}(cs:Array Value):(w.setRow g cs).heap.size=w.heap.size:=by simp[World.setRow]
theorem oW{w:World}(o:Obj):(w.alloc o).heap.size=w.heap.size+1:=by show(w.heap.push o).size=_;simp
end Go.AM
namespace Go.Q
open Go.RowKit Go.Lib Go.AM
attribute [local go_sem] Oper.semAt_some
theorem HQ(w:World)(g vb n i cap vc:Nat)(cur vcur:Array Value)(tv:TypeId)(hi:i<n)(hroom:n+1≤cap)(hc63:cap≤9223372036854775807)(hne:g≠vb)(hv1:1≤vc)
  (hg:w.heap[g]?=some (.cells cur 237 (0,0))) (hcs:cur.size=cap*5) (hv:w.heap[vb]?=some (.cells vcur tv (0,0))) (hvs:vcur.size=vc*5)
  (h1c:∀j v,j<n*5→cur[j]?=some v→v.oneCell'=true) (h1v:∀j v,j<5→vcur[j]?=some v→v.oneCell'=true) :
  Calls prog 286 #[.slice (some ⟨g,0,none⟩) n cap,.int .i64 i,.slice (some ⟨vb,0,none⟩) 1 vc] w fun e w'=>
   e=.returned (.slice (some ⟨g,0,none⟩) (n+1) cap)∧w'.heap[g]?=some (.cells (yG (yG cur.toList ((i+1)*5) ((cur.toList.take (n*5)).drop (i*5))) (i*5) (vcur.toList.take 5)).toArray 237 (0,0))∧Fr True w (fun b=>b=g) w':=by
 have t3:=underlying3;have a3:=isAgg3;have z3:=sizeOf3;have v3:=zeroValue3;have t4:=underlying4;have a4:=isAgg4;have z4:=sizeOf4;have v4:=zeroValue4;have t24:=underlying258;have a24:=isAgg258;have z24:=sizeOf258;have v24:=zeroValue258;have t9:=underlying237;have a9:=isAgg237;have z9:=sizeOf237;have u3:=zP t3;have u4:=zP t4;have u24:=zP t24;have hz2:¬((i:Int)=(n:Int)):=by omega
 have hov:∀o lb cb,(callFunc 319 #[.slice (some ⟨vb,0,none⟩) 1 vc,.slice (some ⟨g,o,none⟩) lb cb]).run prog w=.ok (.value (.bool false)) w:=fun o lb cb=>by
  rw[run_callFunc_extern func319 (by kernel_rfl) (by kernel_rfl) (by kernel_rfl) (e:=Extern.SlicesOverlaps.overlaps #[258,258] #[4]) (by kernel_rfl),
   Lib.run_overlaps_apart w 258 4 237 t24 5 z9 ⟨vb,0,none⟩ ⟨g,o,none⟩ 1 vc lb cb (fun e=>hne e.symm) _ _ _ _ (aI hv) (aI hg) (by rw[hcs];omega) (eD hv 0) (eD hv _)]
  rfl
 have mixed:prog.follows .mixedOrders=true:=by kernel_rfl
 have hw1:i6.wrap ((i:Int)+1)=(i:Int)+1:=by rw[vI];omega
 have hw2:i6.wrap ((n:Int)+1)=(n:Int)+1:=by rw[vI];omega
 have hb1:(0:Int)≤(i:Int)+1:=by omega
 have hb5:(0:Int)≤(n:Int)+1:=by omega
 have hin:i≤n:=by omega
 have htn:((i:Int)+1).toNat=i+1:=by omega
 have htn2:((n:Int)+1).toNat=n+1:=by omega
 have hb2:¬(cap=i+1):=by omega
 have hb3:(i:Int)≤(n:Int)+1:=by omega
 have hb4:¬(cap=i):=by omega
 have hb6:¬((cap:Int)<(n:Int)+1):=by omega
 have hs5:q8 prog 237=some 5:=dd;obtain⟨cs,hcsd⟩:∃cs,(cur.toList.take (n*5)).drop (i*5)=cs:=⟨_,rfl⟩;obtain⟨vs,hvsd⟩:∃vs,vcur.toList.take 5=vs:=⟨_,rfl⟩;have hcl:cs.length=(n-i)*5:=by rw[←hcsd];simp;omega
 have hvl:vs.length=1*5:=by rw[←hvsd];simp;omega
 have hcget:∀j v,cs[j]?=some v→cur[i*5+j]?=some v∧i*5+j<n*5:=fun j v hj=>by
  rw[←hcsd,wF,qG]at hj;split at hj
  ·exact⟨by simpa using hj,by assumption⟩
  ·cases hj
 have hvget:∀j v,vs[j]?=some v→vcur[j]?=some v∧j<5:=fun j v hj=>by
  rw[←hvsd,qG]at hj;split at hj
  ·exact⟨by simpa using hj,by assumption⟩
  ·cases hj
 have hc1:∀v∈cs,v.oneCell'=true:=fun v hv=>by obtain⟨j,hj⟩:=xj.1 hv;obtain⟨a,b⟩:=hcget j v hj;exact h1c _ v b a
 have hv1':∀v∈vs,v.oneCell'=true:=fun v hv=>by obtain⟨j,hj⟩:=xj.1 hv;obtain⟨a,b⟩:=hvget j v hj;exact h1v _ v b a
 obtain⟨row1,hrow1⟩:∃row1,yG cur.toList ((i+1)*5) cs=row1:=⟨_,rfl⟩;have hr1l:row1.length=cap*5:=by rw[←hrow1,zlM (by rw[hcl,qT,hcs];omega),qT,hcs]
 have hcp1:∀ty dc sc,(Builtin.copy_ #[258,258] ty #[.slice (some ⟨g,(i+1)*5,none⟩) (n-i) dc,.slice (some ⟨g,i*5,none⟩) (n+1-i) sc]).run prog w.drew=.ok (goInt ((n-i:Nat):Int)) (w.drew.setRow g row1.toArray):=fun ty dc sc=>by
  rw[←hrow1];exact kW w.drew _ _ ty 237 5 (n-i) g ((i+1)*5) (n-i) dc ⟨g,i*5,none⟩ (n+1-i) sc cur 237 cs t24 hs5 hg (by simp only[pt];split<;>omega) hcl
   (fun j v hj=>by rw[jH];exact(ZU hg _).trans (hcget j v hj).1) (by rw[hcl,hcs];omega) hc1
 have hcp2:∀(W:World),W.heap[g]?=some (.cells row1.toArray 237 (0,0))→W.heap[vb]?=some (.cells vcur tv (0,0))→∀ty dc,(Builtin.copy_ #[258,258] ty #[.slice (some ⟨g,i*5,none⟩) (n+1-i) dc,.slice (some ⟨vb,0,none⟩) 1 vc]).run prog W=.ok (goInt ((1:Nat):Int)) (W.setRow g (yG row1 (i*5) vs).toArray):=fun W hWg hWv ty dc=>by
  have:=kW W 258 258 ty 237 5 1 g (i*5) (n+1-i) dc ⟨vb,0,none⟩ 1 vc row1.toArray 237 vs t24 hs5 hWg (by simp only[pt];split<;>omega) hvl
   (fun j v hj=>by rw[jH,wD];exact(ZU hWv _).trans (hvget j v hj).1) (by rw[hvl,yN,hr1l];omega) hv1'
  exact this
 have hWg:(w.drew.setRow g row1.toArray).heap[g]?=some (.cells row1.toArray 237 (0,0)):=iD _ _ _ _ _ _ hg;have hWv:(w.drew.setRow g row1.toArray).heap[vb]?=some (.cells vcur tv (0,0)):=(xx _ (fun e=>hne e.symm)).trans hv;have hfin:∀W,W=(w.drew.setRow g row1.toArray).setRow g (yG row1 (i*5) vs).toArray→W.heap[g]?=some (.cells (yG row1 (i*5) vs).toArray 237 (0,0))∧Fr True w (fun b=>b=g) W:=fun W e=>by subst e;refine⟨iD _ _ _ _ _ _ hWg,?_⟩;exact((Fr.drew w (fun b=>b=g)).trans (aJ w.drew g _) fun _ _ h=>h).trans (aJ _ g _) fun _ _ h=>h
 rw[hcsd,hvsd,hrow1];clear hcsd hvsd hcl hvl hcget hvget hc1 hv1' hrow1 hr1l
 go_enter func286,Tryz.ntmps286
 go_wp2_with (simp only[hov])
 go_region_law_o (refine step_copy_runI rfl _ _ 258 258 rfl _ _ (by simp[Act.eval,Act.put]) (by simp[Act.eval,Act.put]) (hcp1 _ _ _) ?_)
 go_wp2_with (at_builtin;refine wpList_copy_runI _ rfl _ _ 258 258 rfl _ _ rfl rfl (hcp2 _ hWg hWv _ _) ?_)
 go_ret
 exact⟨rfl,hfin _ rfl⟩
theorem Nv(w:World)(g vb n i cap vc:Nat)(cur vcur:Array Value)(tv:TypeId)(hi:i<n)(hnc:n≤cap)(hroom:cap<n+1)(hbig:(n+1)*56≤140737488355328)(hv1:1≤vc)
  (hg:w.heap[g]?=some (.cells cur 237 (0,0))) (hcs:cur.size=cap*5) (hv:w.heap[vb]?=some (.cells vcur tv (0,0))) (hvs:vcur.size=vc*5)
  (h1c:∀j v,j<n*5→cur[j]?=some v→v.oneCell'=true) (h1v:∀j v,j<5→vcur[j]?=some v→v.oneCell'=true) :
  Calls prog 286 #[.slice (some ⟨g,0,none⟩) n cap,.int .i64 i,.slice (some ⟨vb,0,none⟩) 1 vc] w fun e w'=>
   ∃(G:Nat) (R:List Value),n+1≤G∧G≤maxLen∧R.length=G*5∧(∀j,j<i*5→R[j]?=(cur.toList.take (i*5))[j]?)∧e=.returned (.slice (some ⟨w.heap.size,0,none⟩) (n+1) G) ∧
    w'.heap[w.heap.size]?=some (.cells (yG (yG R (i*5) (vcur.toList.take 5)) ((i+1)*5) ((cur.toList.take (n*5)).drop (i*5))).toArray 237 (0,0))∧Fr True w (fun b=>b=w.heap.size) w':=by
 have t3:=underlying3;have a3:=isAgg3;have z3:=sizeOf3;have v3:=zeroValue3;have t4:=underlying4;have a4:=isAgg4;have z4:=sizeOf4;have v4:=zeroValue4;have t24:=underlying258;have a24:=isAgg258;have z24:=sizeOf258;have v24:=zeroValue258;have t9:=underlying237;have a9:=isAgg237;have z9:=sizeOf237;have u3:=zP t3;have u4:=zP t4;have u24:=zP t24;obtain⟨i0,z0,hi0,hz0,his,hib,hzc⟩:=EU (P:=prog) dd sw sx rfl;have hz2:¬((i:Int)=(n:Int)):=by omega
 have hz3:(cap:Int)<(n:Int)+1:=by omega
 have mixed:prog.follows .mixedOrders=true:=by kernel_rfl
 have hw1:i6.wrap ((i:Int)+1)=(i:Int)+1:=by rw[vI];omega
 have hw2:i6.wrap ((n:Int)+1)=(n:Int)+1:=by rw[vI];omega
 have hw3:i6.wrap ((n:Int)+1-i)=(n:Int)+1-i:=by rw[vI];omega
 have hb1:(0:Int)≤(i:Int)+1:=by omega
 have hin:i≤n:=by omega
 have htn:((i:Int)+1).toNat=i+1:=by omega
 have hkk:(n:Int)+1-(i:Int)=((n+1-i:Nat):Int):=by omega
 have hik:i+(n+1-i)=n+1:=by omega
 have hb3:(i:Int)≤(n:Int):=by omega
 have hbw:g<w.heap.size:=(qu.1 hg).1;have hvw:vb<w.heap.size:=(qu.1 hv).1;have hs5:q8 prog 237=some 5:=dd;obtain⟨olds,hod⟩:∃olds,cur.toList.take (i*5)=olds:=⟨_,rfl⟩;obtain⟨cs,hcsd⟩:∃cs,(cur.toList.take (n*5)).drop (i*5)=cs:=⟨_,rfl⟩;obtain⟨vs,hvsd⟩:∃vs,vcur.toList.take 5=vs:=⟨_,rfl⟩;have hol:olds.length=i*5:=by rw[←hod];simp;omega
 have hcl:cs.length=(n-i)*5:=by rw[←hcsd];simp;omega
 have hvl:vs.length=1*5:=by rw[←hvsd];simp;omega
 have hoget:∀j v,olds[j]?=some v→cur[j]?=some v:=fun j v hj=>by
  rw[←hod,qG]at hj;split at hj
  ·simpa using hj
  ·cases hj
 have hcget:∀j v,cs[j]?=some v→cur[i*5+j]?=some v∧i*5+j<n*5:=fun j v hj=>by
  rw[←hcsd,wF,qG]at hj;split at hj
  ·exact⟨by simpa using hj,by assumption⟩
  ·cases hj
 have hvget:∀j v,vs[j]?=some v→vcur[j]?=some v∧j<5:=fun j v hj=>by
  rw[←hvsd,qG]at hj;split at hj
  ·exact⟨by simpa using hj,by assumption⟩
  ·cases hj
 have hc1:∀v∈cs,v.oneCell'=true:=fun v hv=>by obtain⟨j,hj⟩:=xj.1 hv;obtain⟨a,b⟩:=hcget j v hj;exact h1c _ v b a
 have hv1':∀v∈vs,v.oneCell'=true:=fun v hv=>by obtain⟨j,hj⟩:=xj.1 hv;obtain⟨a,b⟩:=hvget j v hj;exact h1v _ v b a
 have hold:(Builtin.firstCells i0.size i (.slice (some ⟨g,0,none⟩) i cap)).run prog w.drew=.ok olds.toArray w.drew:=by
  rw[his];exact run_firstCells_some w.drew 5 i ⟨g,0,none⟩ i cap olds hol (fun j v hj=>by rw[jH,wD];exact(ZU hg j).trans (hoget j v hj))
 obtain⟨G,hG⟩:∃G,grownCap w (n+1) cap 237=G:=⟨_,rfl⟩;obtain⟨ROW,hROW⟩:∃ROW,olds.toArray++Builtin.zeroCells z0.cells (n+1-i)++Builtin.zeroCells z0.cells (G-(n+1))=ROW:=⟨_,rfl⟩;have hGn:n+1≤G:=by rw[←hG];exact grownCap_ge w _ _ _
 have hGm:G≤maxLen:=by rw[←hG];exact grownCap_le_maxLen w (n+1) cap 237 (by unfold maxLen;omega)
 have hrz:∀ty,(Builtin.append_ #[258,3] ty #[.slice (some ⟨g,0,none⟩) i cap,.int .i64 ((n:Int)+1-(i:Int))]).run prog w =
   .ok (.slice (some ⟨w.heap.size,0,none⟩) (n+1) G) (w.drew.alloc (.cells ROW 237)):=fun ty=>by
  have h:=Lib.run_append_grow_zeros w 258 3 ty 237 i0 z0 .i64 .i64 t24 t3 hi0 hz0 (some ⟨g,0,none⟩) i cap olds hold (n+1-i) (by omega) (by omega) (by omega) (by omega) (by rw[hib];omega) (by rw[hib,hik];exact growslice_fits hroom hbig);rw[hik,hG,hROW]at h;rw[hkk];exact h
 have hRl:ROW.size=G*5:=by rw[←hROW,JL,JL,Ti,Ti,hzc,yN,hol];omega
 have hRo:∀j,j<i*5→ROW.toList[j]?=olds[j]?:=fun j hj=>by rw[←hROW,uj,uj,qj];exact qV (show j<olds.length by omega)
 obtain⟨N,hN⟩:∃N,w.heap.size=N:=⟨_,rfl⟩;obtain⟨W1,hW1⟩:∃W1,w.drew.alloc (.cells ROW 237)=W1:=⟨_,rfl⟩;have hW1N:W1.heap[N]?=some (.cells ROW 237 (0,0)):=by rw[←hW1,←hN];exact tX (w:=w.drew) _
 have hW1g:W1.heap[g]?=some (.cells cur 237 (0,0)):=by rw[←hW1];exact(YM (w:=w.drew) _ hbw).trans hg
 have hW1v:W1.heap[vb]?=some (.cells vcur tv (0,0)):=by rw[←hW1];exact(YM (w:=w.drew) _ hvw).trans hv
 obtain⟨row1,hrow1⟩:∃row1,yG ROW.toList (i*5) vs=row1:=⟨_,rfl⟩;have hr1l:row1.length=G*5:=by rw[←hrow1,zlM (by rw[hvl,qT,hRl];omega),qT,hRl]
 have hcpA:∀(W:World),W.heap[N]?=some (.cells ROW 237 (0,0))→W.heap[vb]?=some (.cells vcur tv (0,0))→∀ty dc,(Builtin.copy_ #[258,258] ty #[.slice (some ⟨N,i*5,none⟩) (n+1-i) dc,.slice (some ⟨vb,0,none⟩) 1 vc]).run prog W=.ok (goInt ((1:Nat):Int)) (W.setRow N row1.toArray):=fun W hWg hWv ty dc=>by
  rw[←hrow1];have:=kW W 258 258 ty 237 5 1 N (i*5) (n+1-i) dc ⟨vb,0,none⟩ 1 vc ROW 237 vs t24 hs5 hWg (by simp only[pt];split<;>omega) hvl
   (fun j v hj=>by rw[jH,wD];exact(ZU hWv _).trans (hvget j v hj).1) (by rw[hvl,hRl];omega) hv1'
  exact this
 have hcpB:∀(W:World),W.heap[N]?=some (.cells row1.toArray 237 (0,0))→W.heap[g]?=some (.cells cur 237 (0,0))→∀ty dc sc,(Builtin.copy_ #[258,258] ty #[.slice (some ⟨N,(i+1)*5,none⟩) (n-i) dc,.slice (some ⟨g,i*5,none⟩) (n-i) sc]).run prog W=.ok (goInt ((n-i:Nat):Int)) (W.setRow N (yG row1 ((i+1)*5) cs).toArray):=fun W hWg hWv ty dc sc=>by
  have:=kW W 258 258 ty 237 5 (n-i) N ((i+1)*5) (n-i) dc ⟨g,i*5,none⟩ (n-i) sc row1.toArray 237 cs t24 hs5 hWg (by simp only[pt];split<;>omega) hcl
   (fun j v hj=>by rw[jH];exact(ZU hWv _).trans (hcget j v hj).1) (by rw[hcl,yN,hr1l];omega) hc1
  exact this
 have hgN:g≠N:=by omega
 have hvN:vb≠N:=by omega
 have hW2N:(W1.setRow N row1.toArray).heap[N]?=some (.cells row1.toArray 237 (0,0)):=iD _ _ _ _ _ _ hW1N;have hW2g:(W1.setRow N row1.toArray).heap[g]?=some (.cells cur 237 (0,0)):=(xx _ hgN).trans hW1g;have hfin:∀W:World,W.heap=((W1.setRow N row1.toArray).setRow N (yG row1 ((i+1)*5) cs).toArray).heap→W.os=w.os→W.tape=w.tape→W.output=w.output→w.drawn≤W.drawn→W.heap[N]?=some (.cells (yG row1 ((i+1)*5) cs).toArray 237 (0,0))∧Fr True w (fun b=>b=N) W:=fun W e1 e2 e3 e4 e5=>by
  refine⟨by rw[e1];exact iD _ _ _ _ _ _ hW2N,e2,e3,e4,?_,fun _=>e5,fun k hk hn=>?_⟩
  ·rw[e1,←hW1,setRow_size,setRow_size,oW];exact ja _
  ·rw[e1,xx _ hn,xx _ hn,←hW1];exact YM (w:=w.drew) _ hk
 have hm1:G≤9223372036854775807:=by unfold maxLen at hGm;omega
 have hGi:¬(G=i):=by omega
 have hGim:¬(G=i+1):=by omega
 have hci:¬(cap=i):=by omega
 rw[hN,hcsd,hvsd,hod];rw[hN,hW1]at hrz;clear hcsd hvsd hod hcl hvl hol hcget hvget hoget hc1 hv1' hold hG hROW hkk hik hi0 hz0 his hib hzc hr1l
 go_enter func286,Tryz.ntmps286
 go_wp2_with (first
  |(at_builtin;refine Lib.wpList_append_run _ rfl _ _ _ _ rfl _ _ rfl rfl _ _ (hrz _) ?_)
  |(at_builtin;refine wpList_copy_runI _ rfl _ _ 258 258 rfl _ _ rfl rfl (hcpA _ hW1N hW1v _ _) ?_)
  |(at_builtin;refine wpList_copy_runI _ rfl _ _ 258 258 rfl _ _ rfl rfl (hcpB _ hW2N hW2g _ _ _) ?_))
 go_region_law_o (refine step_copy_runI rfl _ _ 258 258 rfl (.slice (some ⟨N,(i+1)*5,none⟩) (n-i) (G-(i+1))) (.slice (some ⟨g,i*5,none⟩) (n-i) (cap-i)) (by simp[Act.eval,Act.put]) (by simp[Act.eval,Act.put]) (hcpB (W1.setRow N row1.toArray).drew hW2N hW2g 3 (G-(i+1)) (cap-i)) ?_)
 go_wp2
 go_ret
 subst hW1;subst hrow1;refine⟨G,ROW.toList,hGn,hGm,by simpa using hRl,hRo,rfl,?_⟩;refine hfin _ ?_ ?_ ?_ ?_ ?_
 ·rfl
 ·rfl
 ·rfl
 ·rfl
 ·first|exact ja _|exact zC (ja _) (ja _)
theorem zbg:Sl prog 286 237 5 56:=by
 intro w g A n i cap B c a C D u k K m v o L E d F p q r;have b:(a.toList.take 5).length=5:=by simp;omega
 have f:((c.toList.take (n*5)).drop (i*5)).length=(n-i)*5:=by simp;omega
 unfold maxLen at k;by_cases h:n+1≤cap
 ·refine(HQ w g A n i cap B c a C D h k v o E d F p q r).mono fun e M x=>?_
  obtain⟨rfl,t,y⟩:=x;refine⟨g,cap,_,h,by unfold maxLen;exact k,rfl,.inl rfl,t,?_,y,fun j H=>?_⟩
  ·rw[yN,zlM (by rw[zlM (by rw[f,qT,d];omega),b,qT,d];omega),zlM (by rw[f,qT,d];omega),qT,d]
  ·have:=tW (l:=c.toList) (vs:=a.toList.take 5) (n:=n) (i:=i) (s:=5) (by omega) (by rw[qT,d];omega) b j H;simpa using this
 ·refine(Nv w g A n i cap B c a C D u (by omega) m o E d F p q r).mono fun e M x=>?_
  obtain⟨G,R,N,P,J,Q,rfl,t,y⟩:=x;have z:(c.toList.take (i*5)).length=i*5:=by simp;omega
  have S:(i+1)*5=i*5+(a.toList.take 5).length:=by rw[b];omega
  rw[S]at t;refine⟨w.heap.size,G,_,N,P,rfl,.inr (ze _),t,?_,y,fun j H=>?_⟩
  ·rw[yN,zlM (by rw[zlM (by rw[b];omega),f,b];omega),zlM (by rw[b];omega),J]
  ·have:=ET (R:=R) (olds:=c.toList.take (i*5)) (vs:=a.toList.take 5) (cs:=(c.toList.take (n*5)).drop (i*5)) (I:=i*5) z Q (by rw[b,f,J];omega) j (by rw[b,f];omega);simpa using this
end Go.Q
namespace Go.Q
noncomputable def Qd (c:Cut):List Cut→List Cut
 |[]=>[c]
 |a::l=>if wX a c<0 then a::Qd c l else if wX a c=0 then a::l else c::a::l
theorem Bp(c:Cut):∀(l:List Cut) (i:Nat),i≤l.length→(∀j (h:j<l.length),j<i→wX l[j] c<0)→(∀h:i<l.length,¬wX l[i] c<0)→((∃h:i<l.length,wX l[i] c=0)→Qd c l=l)∧((∀h:i<l.length,wX l[i] c≠0)→Qd c l=l.take i++c::l.drop i)
 |[],i,b,_,_=>by
  obtain rfl:i=0:=by simpa using b
  exact⟨fun⟨h,_⟩=>absurd h (by simp),fun _=>rfl⟩
 |a::l,0,_,_,d=>by
  have h:=d (by simp);simp only[eQ]at h;refine⟨fun⟨_,e⟩=>?_,fun f=>?_⟩
  ·simp only[eQ]at e;simp only[Qd];rw[zj h,zf e]
  ·have:=f (by simp);simp only[eQ]at this;simp only[Qd];rw[zj h,zj this];rfl
 |a::l,i+1,b,g,d=>by
  have k:=g 0 (by simp) (by omega);simp only[eQ]at k;obtain⟨m,n⟩:=Bp c l i (by simpa using b) (fun j o p=>g (j+1) (by simpa using o) (by omega)) (fun h=>d (by simpa using h));simp only[Qd];rw[zf k];refine⟨fun⟨h,e⟩=>?_,fun f=>?_⟩
  ·rw[m ⟨by simpa using h,e⟩]
  ·rw[n fun h=>f (by simpa using h)];rfl
theorem oX{c:Cut}:∀{l:List Cut},(∀a∈l,wX a c=0→a=c)→∀x,x∈Qd c l↔x=c∨x∈l
 |[],_,x=>by simp[Qd]
 |a::l,h,x=>by
  simp only[Qd];split
  ·rw[zL,oX (fun b d=>h b (by simp[d])) x,zL];constructor
   ·rintro (h|h|h)
    ·exact .inr (.inl h)
    ·exact .inl h
    ·exact .inr (.inr h)
   ·rintro (h|h|h)
    ·exact .inr (.inl h)
    ·exact .inl h
    ·exact .inr (.inr h)
  ·split
   ·rename_i e;have:=h a (by simp) e;subst this;simp
   ·simp
theorem iy{c:Cut}:∀{l:List Cut},(l.Pairwise fun a b=>wX a b<0)→(∀a∈l,wX a c=0→a=c)→(Qd c l).Pairwise fun a b=>wX a b<0
 |[],_,_=>by simp[Qd]
 |a::l,h,j=>by
  obtain⟨k,m⟩:=wv.1 h;simp only[Qd];split
  ·rename_i d;refine wv.2 ⟨fun x e=>?_,iy m fun b g=>j b (by simp[g])⟩;rcases(oX (fun b g=>j b (by simp[g])) x).1 e with rfl|e
   ·exact d
   ·exact k x e
  ·rename_i d;split
   ·exact h
   ·rename_i i;have f:wX c a<0:=by
     have:=wL.zdd d;rcases aX this with h|h
     ·exact h
     ·exact absurd ((wL.eq a c).2 h) i
    refine wv.2 ⟨fun x e=>?_,h⟩;rcases zL.1 e with rfl|e
    ·exact f
    ·exact wL.trans f (k x e)
noncomputable def vt (l:List Cut):List Cut:=l.foldl (fun o c=>Qd c o) []
theorem iz:∀(l o:List Cut),(∀a∈l,a.xz)→(∀a∈o,a.xz)→(o.Pairwise fun a b=>wX a b<0)→((l.foldl (fun o c=>Qd c o) o).Pairwise fun a b=>wX a b<0)∧∀x,x∈l.foldl (fun o c=>Qd c o) o↔x∈l∨x∈o
 |[],o,_,_,e=>⟨e,fun x=>by simp⟩
 |c::l,o,f,g,e=>by
  have i:=f c (by simp);have j:∀a∈o,wX a c=0→a=c:=fun a d h=>lR (g a d) i h
  have k:=oX (l:=o) j;obtain⟨m,n⟩:=iz l (Qd c o) (fun a d=>f a (by simp[d])) (fun a d=>by
   rcases(k a).1 d with rfl|h
   ·exact i
   ·exact g a h) (iy e j)
  simp only[Qp];refine⟨m,fun x=>?_⟩;rw[n x,k x,zL];constructor
  ·rintro (h|h|h)
   ·exact .inl (.inr h)
   ·exact .inl (.inl h)
   ·exact .inr h
  ·rintro ((h|h)|h)
   ·exact .inr (.inl h)
   ·exact .inl h
   ·exact .inr (.inr h)
theorem cG:∀(l o:List Cut),(l.foldl (fun o c=>Qd c o) o).length≤o.length+l.length
 |[],o=>by simp
 |c::l,o=>by
  have b:∀o:List Cut,(Qd c o).length≤o.length+1:=by
   intro o
   induction o with
   |nil=>simp[Qd]
   |cons a o d=>
    simp only[Qd];split
    ·simp only[qa];omega
    ·split<;>simp
  have:=cG l (Qd c o);have:=b o;simp only[Qp,qa];omega
theorem Nw{a b:List wR}(d:jU a)(e:jU b):vt (wz (a++b))=oz a b:=by
 rw[Wy];have f:∀c∈wz a++wz b,c.xz:=fun c g=>by
  rcases qP.1 g with h|h
  ·exact aF d c h
  ·exact aF e c h
 obtain⟨i,j⟩:=iz (wz a++wz b) [] f (fun a d=>by cases d) .nil;refine sQ _ _ i (VH d e) fun c=>?_
 unfold vt;rw[j c,KR,qP];simp
theorem Sm(f:Bool→Bool→Bool){a b:List wR}(d:jU a)(e:jU b):vj f a b=(VY (fun c=>f (yP a c) (yP b c)) (vt (wz (a++b))) (false,[])).2:=by rw[Nw d e];unfold vj oz;rw[ny]
theorem tY{Y:Hp}{Z e s a i:Nat}{v:O}{xs:List zc}{c:zc}(h:q6 Y Z e s v xs)(k:i<xs.length)(f:(xs.length+1)*a≤140737488355328)(g:xs.length+1≤maxLen) :
  iv e s a [v,int i,.own Z 0 1] (qZ Y Z (some ⟨e,s,true,[c]⟩)) (Z+1)=some (.own (Z+1) 0 (xs.length+1),qZ (ZD v (qZ Y Z (some ⟨e,s,true,[c]⟩))) (Z+1) (some ⟨e,s,true,xs.take i++c::xs.drop i⟩),Z+2):=by
 obtain⟨id,hid,rfl,j⟩:=h.at_ (by omega);have n1:id≠Z:=by omega
 have b:qZ Y Z (some ⟨e,s,true,[c]⟩) id=some ⟨e,s,true,xs⟩:=by rw[zw _ _ _ _ n1];exact j
 have d:(i:Int)<xs.length:=by omega
 unfold iv;simp only[b,w9];rw[zf (by refine⟨n1,?_,?_,?_,?_,?_,?_,?_,d,f,g⟩<;>first|trivial|rfl|omega)];simp[ZD]
theorem EV{Y:Hp}{Z e s a:Nat}{v:O}{xs:List zc}{b:Option jz}(h:q6 Y Z e s v xs):iv e s a [v,int (xs.length:Nat),.own Z 0 1] (qZ Y Z b) (Z+1)=none:=by
 rcases h with⟨rfl,rfl⟩|⟨id,hid,rfl,d⟩
 ·rfl
 ·unfold iv;simp only;split
  ·split
   ·rw[zj (fun c=>by have:=c.2.2.2.2.2.2.2.2.1;omega)]
   ·rfl
  ·rfl
theorem Sn{Y:Hp}{Z:Nat}{v:O}{xs:List zc}{c:zc}(h:q6 Y Z 237 5 v xs)(d:xs.length≤8388608) :
  wP C0 f286 [v,int (xs.length:Nat),.own Z 0 1] (qZ Y Z (some ⟨237,5,true,[c]⟩)) (Z+1)=some (.own (Z+1) 0 (xs.length+1),qZ (ZD v (qZ Y Z (some ⟨237,5,true,[c]⟩))) (Z+1) (some ⟨237,5,true,xs++[c]⟩),Z+2):=by
 unfold wP;rw[zf (by simp[f286])];refine kU rfl ?_;have a:=q6.yx (P:=prog) (t:=258) (c:=c) h gJ dd sw sx rfl (by omega) (by unfold maxLen;omega) (by omega);rcases h with⟨rfl,rfl⟩|⟨id,hid,rfl,b⟩
 ·simp at a;simp[js,a,f286]
 ·have n1:¬id=Z:=by omega
  simp[js,a,b,n1,f286]
noncomputable abbrev I7:AM.Spec:=Nu C0 f286 237 5 56
theorem EW:zg prog 286 I7:=
 oV (iw ⟨_,func286,by decide,by kernel_rfl⟩ dd (by decide) zbg) (wZ (code:=_) w8 ⟨func286,by kernel_rfl,rfl,by kernel_rfl⟩)
theorem HR{Y:Hp}{Z i:Nat}{v:O}{xs:List zc}{c:zc}(h:q6 Y Z 237 5 v xs)(d:i≤xs.length)(b:xs.length≤8388608) :
  I7 [v,int i,.own Z 0 1] (qZ Y Z (some ⟨237,5,true,[c]⟩)) (Z+1)=some (.own (Z+1) 0 (xs.length+1),qZ (ZD v (qZ Y Z (some ⟨237,5,true,[c]⟩))) (Z+1) (some ⟨237,5,true,xs.take i++c::xs.drop i⟩),Z+2):=by
 unfold I7 Nu;by_cases a:i<xs.length
 ·rw[tY h a (by omega) (by unfold maxLen;omega)]
 ·obtain rfl:i=xs.length:=by omega
  rw[EV h];simp only;rw[Sn h b,yk,zl]
noncomputable def Sq (l:List Cut):Option jz:=if vt l=[]then none else some ⟨237,5,true,wE (vt l)⟩
noncomputable abbrev Crsc:Ctx:=qb prog [(285,qh [.g ka,.g ka] (CU fun v w=>int (wX v w))),(286,I7)]
theorem zbh:AM.Good Crsc (fun g=>[285].contains g):=zI mixed ⟨Qc,fun _=>jx _ _,EW,by simp,trivial⟩
theorem iA{l:List Cut}{k:Nat}(h:k<l.length):vt (l.take (k+1))=Qd l[k] (vt (l.take k)):=by unfold vt;rw[qx h,List.foldl_append];rfl
theorem EX{c:Cut}:∀{l:List Cut} {x:Cut},x∈Qd c l→x=c∨x∈l
 |[],x,h=>by simp only[Qd,jy]at h;exact .inl h
 |a::l,x,h=>by
  simp only[Qd]at h;split at h
  ·rcases zL.1 h with rfl|h
   ·exact .inr (by simp)
   ·exact(EX h).imp id fun h=>by simp[h]
  ·split at h
   ·exact .inr h
   ·rcases zL.1 h with rfl|h
    ·exact .inl rfl
    ·exact .inr h
theorem cH:∀{l o:List Cut} {x:Cut},x∈l.foldl (fun o c=>Qd c o) o→x∈l∨x∈o
 |[],o,x,h=>.inr h
 |c::l,o,x,h=>by
  rw[Qp]at h;rcases cH h with h|h
  ·exact .inl (by simp[h])
  ·rcases EX h with rfl|h
   ·exact .inl (by simp)
   ·exact .inr h
theorem zbi(c:Cut)(l:List Cut):Qd c l≠[]:=by
 cases l with
 |nil=>simp[Qd]
 |cons a l=>simp only[Qd];split<;>(try split)<;>simp
theorem Nx{l:List Cut}(h:vt l=[]):l.length=0:=by
 cases b:l.length with
 |zero=>rfl
 |succ k=>
  have a:k<l.length:=by omega
  have:=iA a;rw[qp (by omega),h]at this;exact absurd this.symm (zbi _ _)
theorem aK(l:List Cut):(wE l).length=l.length:=by simp[wE]
theorem Ny(o:List Cut)(i:Nat)(c:Cut):(wE o).take i++c.V::(wE o).drop i=wE (o.take i++c::o.drop i):=by simp[wE]
theorem Bq(l:List Cut)(hs:∀c∈l,c.v.small)(hl:l.length≤8388608):∃x Y Z,yr Crsc f255 [.sl 5 (wE l)] (fun _=>none) 0=some (x,Y,Z)∧C8 ka (Sq l) x Y Z:=by
 refine zT rfl ?_;have Q:=aK l;simp[Q];refine zQ (fun k n Y Z=>n 7=.sl 5 (wE l)∧n 8=int l.length∧n 9=int k∧q6 Y Z 237 5 (n 3) (wE (vt (l.take k)))∧(k=0→n 3=.nil)) l.length
  ⟨by simp,by simp,by simp,.inl ⟨by simp,by simp[vt,wE]⟩,by simp⟩ ?_
 rintro k n Y Z hk ⟨w,y,z,p,h0⟩;have R:=cG (l.take k) [];have D:vt (l.take k)=(l.take k).foldl (fun o c=>Qd c o) []:=rfl;rw[←D,vV,yM]at R;have E:∀x∈vt (l.take k),x.v.small:=fun x hx=>by
  rw[D]at hx;rcases cH hx with h|h
  ·exact hs x (xG h)
  ·cases h
 by_cases s:k<l.length
 ·obtain⟨c,hc⟩:∃c,l[k]=c:=⟨_,rfl⟩;have hcs:c.v.small:=hs c (by rw[←hc];exact zm s);have S:∀h:k<(wE l).length,(wE l)[k]=c.V:=fun h=>by simp[wE,hc]
  have H:i6.wrap ((k:Int)+1)=(k:Int)+1:=zn (by omega) (by omega);have I:=iA s;rw[hc]at I;obtain⟨o,ho⟩:∃o,vt (l.take k)=o:=⟨_,rfl⟩;rw[ho]at p R E I;have d:=aK o;obtain⟨P,hP⟩:∃P,Z=P:=⟨_,rfl⟩;obtain⟨v,hv⟩:∃v,n 3=v:=⟨_,rfl⟩;rw[hv]at p;simp only[Cut.V]at S;simp[w,y,z,s,Q,S];rw[hP]at p⊢;refine zQ (fun i n Y Z=>n 7=.sl 5 (wE l)∧n 8=int l.length∧n 9=int k∧n 3=v∧n 5=.ref P 0 0∧n 6=int i∧P<Z∧Y P=some ⟨237,5,false,[c.V]⟩∧q6 Y Z 237 5 v (wE o)∧∀j (h:j<o.length),j<i→wX o[j] c<0) o.length
   ⟨by simp[w],by simp[y],by simp[z],by simp[hv],by simp,by simp,(by show P<P+1;omega),by simp[Cut.V],p.more _,fun j _ h=>absurd h (by omega)⟩ ?_
  clear w y z h0 hv p n Y hP Z;rintro i n Y Z hi ⟨w,y,z,U,W,X,hPn,T,p,t⟩;have hwi:i6.wrap ((i:Int)+1)=(i:Int)+1:=zn (by omega) (by omega);have g:=p.len gJ;rw[d]at g;simp only[Cut.V]at T;have nP:¬P=Z:=by omega
  have r:=fun(hi:i≤o.length)=>HR (i:=i) (c:=[int c.v.a,int c.v.b,int c.v.c,.sl 1 (qd c.v.pre),wq c.after]) p (by rw[d];exact hi) (by rw[d];omega)
  rw[d]at r;have F:=Ny o i c;simp only[Cut.V]at F;rw[F]at r;have u:∀o',Qd c o=o'→vt (l.take (k+1))=o':=fun o' e=>by rw[I,e]
  by_cases hit:i<o.length
  ·obtain⟨id,hid,J,hb⟩:=p.at_ (by rw[d];omega);obtain⟨q,N⟩:∃q,o[i]=q:=⟨_,rfl⟩;have hqs:q.v.small:=E q (by rw[←N];exact zm hit);have A:∀h:i<(wE o).length,(wE o)[i]=q.V:=fun h=>by simp[wE,N]
   have B:=fun Y Z=>Kz q c Y Z hqs hcs
   simp only[Cut.V]at A B;have hat:=Bp c o i (by omega) t;by_cases m:wX q c<0
   ·subst J;simp[w,y,z,U,W,X,g,d,hit,hb,A,T,B,m,hwi];have K:∀j (h:j<o.length),j<i+1→wX o[j] c<0:=fun j h hj=>by
     rcases Nat.lt_or_ge j i with h1|h1
     ·exact t j h h1
     ·obtain rfl:j=i:=by omega
      rw[N];exact m
    exact⟨by omega,hPn,rfl,(by rw[d]at p;exact p),K⟩
   ·have G:=hat fun _=>by rw[N];exact m
    by_cases C:wX q c=0
    ·have h1:=G.1 ⟨hit,by rw[N];exact C⟩;have L:((i:Int)==o.length)=false:=by rw[q7];omega
     subst J;simp[w,y,z,U,W,X,g,d,hit,hb,A,T,B,m,C,L,H];exact⟨s,by rw[u _ h1];rw[d]at p;exact p⟩
    ·have h1:=G.2 fun _=>by rw[N];exact C
     have hz':(wX q c != 0)=true:=by simpa using C
     have L:((i:Int)==o.length)=false:=by rw[q7];omega
     have f:=r (by omega);subst J;rw[d]at f;have M:(wE (o.take i++c::o.drop i)).length=o.length+1:=by rw[aK];simp;omega
     simp[w,y,z,U,W,X,g,d,hit,hb,A,T,B,m,C,hz',L,f,nP,H,zv,zN,zy];exact⟨s,by rw[u _ h1];exact .inr ⟨Z+1,by omega,by rw[M],by simp⟩⟩
  ·obtain rfl:i=o.length:=by omega
   have h1:=(Bp c o o.length (ze _) t (fun h=>absurd h (by omega))).2 (fun h=>absurd h (by omega));have f:=r (ze _);simp[w,y,z,U,W,X,g,d,T,f,nP,H,zv,zN,zy];rw[yk,zl]at h1;have M:(wE (o++[c])).length=o.length+1:=by rw[aK];simp
   exact⟨s,by rw[u _ h1];exact .inr ⟨Z+1,by omega,by rw[M],by simp⟩⟩
 ·obtain rfl:k=l.length:=by omega
  rw[yk]at p;simp[w,y,z,f255];unfold Sq;rcases p with⟨e1,e2⟩|⟨id,hid,e1,e2⟩
  ·have:vt l=[]:=by simpa[wE]using e2
   rw[zf this];exact e1
  ·by_cases C:vt l=[]
   ·rw[zf C];exact h0 (Nx C)
   ·rw[zj C];exact⟨id,_,e1,e2,rfl,by simp[fG,wE,Cut.V]⟩
noncomputable def FSc:zc→Option (Option jz):=qv (α:=List Cut) (fun l=>[.sl 5 (wE l)]) (fun l=>(∀c∈l,c.v.small)∧l.length≤8388608) Sq
theorem Nz{a b:List Cut}(h:wE a=wE b):a=b:=y7 (fun _ _ e=>Wd e) h
theorem zev:∀a b:List Cut,[O.sl 5 (wE a)]=[O.sl 5 (wE b)]→a=b:=fun a b e=>by
 simp only[zh,zK]at e;injection e with _ e
 exact Nz e
theorem rK:zg prog 255 (v8 [.s 5 ka] FSc):=
 JZ (fn:=f255) zbh ⟨_,func255,by kernel_rfl,rfl,by kernel_rfl⟩ _ ka _ fun args r h=>by obtain⟨l,rfl,⟨a,b⟩,rfl⟩:=zr h;exact⟨by simp[f255],Bq l a b⟩
theorem Sr(l:List Cut):(wE l).map (Z4 ka)=wE l:=by simp[wE,Cut.V]
theorem Br{Y:Hp}{Z:Nat}{v:O}{l:List Cut}(h:q6 Y Z 237 5 v (wE l))(hs:∀c∈l,c.v.small)(g:l.length≤8388608) :
  ∃x Y' b,v8 [.s 5 ka] FSc [v] Y Z=some (x,Y',b)∧q6 Y' b 237 5 x (wE (vt l))∧Z≤b:=by
 have f:∀y Y1,qf Y v=some (y,Y1)→(Sh.s 5 ka).fix y=.sl 5 (wE l)→∃x Y' b,v8 [.s 5 ka] FSc [v] Y Z=some (x,Y',b)∧q6 Y' b 237 5 x (wE (vt l))∧Z≤b:=by
  intro y Y1 i j;have d:zA Y [v]=some ([y],Y1):=by simp only[zA,i]
  have k:FSc (YR [.s 5 ka] (yf [] [y]))=some (Sq l):=by show FSc [(Sh.s 5 ka).fix y]=_;rw[j];exact zJ (V:=fun l:List Cut=>[O.sl 5 (wE l)]) (a:=l) zev ⟨hs,g⟩
  unfold v8 yO;simp only[d,k];unfold Sq;by_cases e:vt l=[]
  ·rw[zf e];exact⟨.nil,Y1,Z,rfl,.inl ⟨rfl,by rw[e];rfl⟩,ze _⟩
  ·rw[zj e];exact⟨_,_,_,rfl,.inr ⟨Z,by omega,rfl,by simp⟩,by omega⟩
 rcases h with⟨rfl,m⟩|⟨id,o,rfl,n⟩
 ·exact f .nil Y rfl (by rw[m];rfl)
 ·exact f (.sl 5 (wE l)) (qZ Y id none) (by simp[n]) (by rw[Sh.eT,Sr])
end Go.Q
