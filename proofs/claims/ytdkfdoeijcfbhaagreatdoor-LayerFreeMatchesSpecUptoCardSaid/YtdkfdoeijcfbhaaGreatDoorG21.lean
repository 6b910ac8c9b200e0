/-
slices.SortFunc off the kit's shelf, at this program (written after what the kit's layings print).
Spans: slices.Clone, Grow, Concat, and the comparison that sorts them.
Spans: slices.Concat of two; together.
Spans: together.
Spans: the reference's union and minus.
Spans: Union and Minus.
Spans: slices.Equal, awake, the two laws' evaluation.
Ranges: the checks of the program.
Books as data: their cells, their bulk.
The search by halves; the order of texts.
-/
import Derived.Shelf.SlSortCmp.WholeK
import Derived.Shelf.SlSortCmp.NoneTotal
import Derived.Test.YtdkfdoeijcfbhaaGreatDoorProg
import Derived.Test.YtdkfdoeijcfbhaaGreatDoorG17
import Derived.Test.YtdkfdoeijcfbhaaGreatDoorG20
import Derived.Test.YtdkfdoeijcfbhaaGreatDoorG14
import Derived.Test.YtdkfdoeijcfbhaaGreatDoorG12
import Derived.Test.YtdkfdoeijcfbhaaGreatDoorG19
set_option maxRecDepth 8000
namespace Go.Proofs
open Go.Shelf
def Tryz.sortS_ren:Go.Shelf.Ren:=⟨fun | 6=>106 | 15=>73 | 14=>163 | 28=>121 | 29=>122 | 20=>228 | 21=>229 | 22=>230 | 23=>231 | 24=>232 | 25=>233 | 26=>234 | 27=>235 | 46=>284 | 47=>165 | 48=>166 | 49=>285 | 50=>286 | 57=>324 | n=>n,fun | 22=>36 | 24=>41 | 25=>142 | 3=>3 | 39=>111 | 0=>0 | 53=>155 | 55=>157 | 4=>4 | 46=>149 | 45=>148 | 50=>96 | 5=>5 | 9=>9 | 66=>209 | 70=>213 | 76=>272 | 77=>57 | n=>n,fun | n=>n⟩
theorem Tryz.sortS:Go.Proofs.SlLaysF0.n6 prog Tryz.sortS_ren:={
 mixed:=by kernel_rfl
 f6:=⟨f106.name,by decide,func106.trans (congrArg some (by kernel_rfl))⟩
 f14:=⟨f163.name,by decide,func163.trans (congrArg some (by kernel_rfl))⟩
 f15:=func73.trans (congrArg some (by kernel_rfl))
 f20:=⟨f228.name,by decide,func228.trans (congrArg some (by kernel_rfl))⟩
 f21:=⟨f229.name,by decide,func229.trans (congrArg some (by kernel_rfl))⟩
 f22:=⟨f230.name,by decide,func230.trans (congrArg some (by kernel_rfl))⟩
 f23:=⟨f231.name,by decide,func231.trans (congrArg some (by kernel_rfl))⟩
 f24:=⟨f232.name,by decide,func232.trans (congrArg some (by kernel_rfl))⟩
 f25:=⟨f233.name,by decide,func233.trans (congrArg some (by kernel_rfl))⟩
 f26:=⟨f234.name,by decide,func234.trans (congrArg some (by kernel_rfl))⟩
 f27:=⟨f235.name,by decide,func235.trans (congrArg some (by kernel_rfl))⟩
 f28:=func121.trans (congrArg some (by kernel_rfl))
 f29:=func122.trans (congrArg some (by kernel_rfl))
 f46:=⟨f284.name,by decide,func284.trans (congrArg some (by kernel_rfl))⟩
 f47:=func165.trans (congrArg some (by kernel_rfl))
 f48:=func166.trans (congrArg some (by kernel_rfl))
 f49:=⟨f285.name,by decide,func285.trans (congrArg some (by kernel_rfl))⟩
 f50:=⟨f286.name,by decide,func286.trans (congrArg some (by kernel_rfl))⟩
 f57:=⟨f324.name,by decide,func324.trans (congrArg some (by kernel_rfl))⟩
 t0:=underlying0
 a0:=isAgg0
 z0:=sizeOf0
 v0:=zeroValue0
 t3:=underlying3
 a3:=isAgg3
 z3:=sizeOf3
 v3:=zeroValue3
 t4:=underlying4
 a4:=isAgg4
 z4:=sizeOf4
 v4:=zeroValue4
 t5:=underlying5
 a5:=isAgg5
 z5:=sizeOf5
 v5:=zeroValue5
 t9:=underlying9
 a9:=isAgg9
 z9:=sizeOf9
 v9:=zeroValue9
 t22:=underlying36
 a22:=isAgg36
 z22:=sizeOf36
 v22:=zeroValue36
 t25:=underlying142
 a25:=isAgg142
 z25:=sizeOf142
 v25:=zeroValue142
 t39:=underlying111
 a39:=isAgg111
 z39:=sizeOf111
 v39:=zeroValue111
 t45:=underlying148
 a45:=isAgg148
 z45:=sizeOf148
 v45:=zeroValue148
 t46:=underlying149
 a46:=isAgg149
 z46:=sizeOf149
 v46:=zeroValue149
 t50:=underlying96
 a50:=isAgg96
 z50:=sizeOf96
 v50:=zeroValue96
 t53:=underlying155
 a53:=isAgg155
 z53:=sizeOf155
 v53:=zeroValue155
 t55:=underlying157
 a55:=isAgg157
 z55:=sizeOf157
 v55:=zeroValue157
 t66:=underlying209
 a66:=isAgg209
 z66:=sizeOf209
 v66:=zeroValue209
 t70:=underlying213
 a70:=isAgg213
 z70:=sizeOf213
 v70:=zeroValue213
 t76:=underlying272
 a76:=isAgg272
 z76:=sizeOf272
 v76:=zeroValue272
 t77:=underlying57
 a77:=isAgg57
 z77:=sizeOf57
 v77:=zeroValue57 }
open Go.AM
theorem Tryz.sortS_ok:zbn prog 106 2:=⟨fun _ _ enc hk h1 cf hO g blk off cap d w eg hcmp hH hblk hsz=>AnyQ.slices_SortFunc_eq Tryz.sortS 2 isAgg41 sizeOf41 enc hk h1 cf hO g #[] blk off cap d w eg hcmp hH hblk hsz,
 fun p cap fv w=>AnyF.slices_SortFunc_none Tryz.sortS p cap fv w⟩
end Go.Proofs
namespace Go.Proofs.YtdkfdoeijcfbhaaGreatDoor
open Go.Proofs.Tryz
open Go.RowKit Go.AM Go.SpanLaw
theorem cloneS_eval (args:List PV) (r:Option Blk) (h:jt 41 2 args=some r):args.length≤f26.ntmps∧∃x hp nx,qH C0 f26 args (fun _=>none) 0=some (x,hp,nx)∧OwnR r x hp nx:=by
 unfold jt at h
 split at h
 ·injection h with h;subst h
  exact⟨by simp[f26],zD rfl (by simp[binA,j6,f26,OwnR])⟩
 ·injection h with h;subst h
  exact⟨by simp[f26],zD rfl (by simp[binA,j6,f26,OwnR,zf,qK,AM.view,maxLen,zn,zg])⟩
 ·rename_i es
  split at h
  ·rename_i hc
   obtain⟨rfl,hne,hl⟩:=hc
   injection h with h;subst h
   cases es with
   | nil=>exact absurd rfl hne
   | cons c es =>
     unfold lim at hl
     simp at hl
     have m1:es.length+1≤maxLen:=by unfold maxLen;omega
     have m2:(es.length+1)*16≤140737488355328:=by omega
     refine⟨by simp[f26],zD rfl ?_⟩
     simp[binA,j6,f26,OwnR,zf,qK,AM.view,zn,zg,m1,m2]
  ·cases h
 ·cases h
theorem cloneS_sound:za prog 26 (wg [] (jt 41 2)) :=
 jq (fn:=f26) (code:=_) qA ⟨func26,by kernel_rfl,rfl,by kernel_rfl⟩ [] _ cloneS_eval
noncomputable def FSS (out:Sp→Sp→PV):List PV→Option PV:=zH (α:=Sp×Sp) (fun a=>[.agg (encS a.1),.agg (encS a.2)]) (fun _=>True) (fun a=>out a.1 a.2)
theorem FSS_call (out:Sp→Sp→PV) (a b:Sp) (hp:Hp) (nx:Nat):zd false [] (FSS out) [.agg (encS a),.agg (encS b)] hp nx=some (out a b,hp,nx) :=
 zy rfl (zm (enc:=fun a:Sp×Sp=>[PV.agg (encS a.1),.agg (encS a.2)]) (a:=(a,b)) (fun a b e=>by
  obtain⟨a1,a2⟩:=a;obtain⟨b1,b2⟩:=b
  simp only[List.cons.injEq,and_true,PV.agg.injEq] at e
  exact Prod.ext (Ys (by simp[e.1])) (Ys (by simp[e.2]))) trivial) (.inr rfl)
theorem cmpSp_sound:za prog 107 (zd false [] (FSS fun a b=>int (IntKind.i64.wrap (a.1 - b.1)))) :=
 zI (fn:=f107) qA ⟨_,func107,by kernel_rfl,rfl,by kernel_rfl⟩ false [] _ fun args r h=>by
  obtain⟨⟨a,b⟩,rfl,_,rfl⟩:=ze h
  exact⟨Nat.le_trans (Nat.le_refl 2) (by decide),_,zb rfl (by simp[f107]),zG _⟩
def zdP:List PV→Int
 | .v (.int _ a)::_=>a
 | _=>0
def cfS (x y:List PV):Int:=IntKind.i64.wrap (zdP x - zdP y)
def domS (x:List PV):Prop:=∃s:Sp,x=encS s∧0≤s.1∧s.1≤100000
theorem cmpS_ok:zdB prog 107 2 cfS domS :=
 ⟨fun args w=>enters_of func107 (by kernel_rfl) rfl args w,_,cmpSp_sound,fun x y _ _ hx hy=>by
  obtain⟨a,rfl,_⟩:=hx
  obtain⟨b,rfl,_⟩:=hy
  exact FSS_call _ a b _ _⟩
theorem sortS_sound:za prog 106 (Wt 2 107 cfS domS) :=
 Z1 (by omega) ⟨_,func106,by decide,by kernel_rfl⟩ Tryz.sortS_ok cmpS_ok
theorem W7 {a b:Sp} (ha:0≤a.1∧a.1≤100000) (hb:0≤b.1∧b.1≤100000):cfS (encS a) (encS b)=a.1 - b.1:=by
 show IntKind.i64.wrap (a.1 - b.1)=_
 exact zc (by omega) (by omega)
theorem zc7 {l:List Sp} (h:∀s∈l,0≤s.1∧s.1≤100000):WeakOn cfS (l.map encS) where
 irrefl x hx:=by
  obtain⟨s,hs,rfl⟩:=List.mem_map.1 hx
  rw[W7 (h s hs) (h s hs)];omega
 trans x hx y hy z hz h1 h2:=by
  obtain⟨a,ha,rfl⟩:=List.mem_map.1 hx
  obtain⟨b,hb,rfl⟩:=List.mem_map.1 hy
  obtain⟨c,hc,rfl⟩:=List.mem_map.1 hz
  rw[W7 (h _ ha) (h _ hb)] at h1
  rw[W7 (h _ hb) (h _ hc)] at h2
  rw[W7 (h _ ha) (h _ hc)]
  omega
 ntrans x hx y hy z hz h1 h2:=by
  obtain⟨a,ha,rfl⟩:=List.mem_map.1 hx
  obtain⟨b,hb,rfl⟩:=List.mem_map.1 hy
  obtain⟨c,hc,rfl⟩:=List.mem_map.1 hz
  rw[W7 (h _ ha) (h _ hb)] at h1
  rw[W7 (h _ hb) (h _ hc)] at h2
  rw[W7 (h _ ha) (h _ hc)]
  omega
theorem W8 {α β:Type} {f:α→β}:∀{l:List α} {m:List β},m.Perm (l.map f)→∃l':List α,l'.Perm l∧m=l'.map f:=by
 have key:∀{m n:List β},m.Perm n→∀l:List α,n=l.map f→∃l':List α,l'.Perm l∧m=l'.map f:=by
  intro m n h
  induction h with
  | nil=>intro l hl;exact⟨l,.refl _,hl⟩
  | cons x _ ih =>
    intro l hl
    cases l with
    | nil=>cases hl
    | cons a l =>
      simp only[List.map_cons,List.cons.injEq] at hl
      obtain⟨l',h1,h2⟩:=ih l hl.2
      exact⟨a::l',h1.cons a,by rw[List.map_cons,hl.1,h2]⟩
  | swap x y r =>
    intro l hl
    match l,hl with
    | a::b::l,hl =>
      simp only[List.map_cons,List.cons.injEq] at hl
      exact⟨b::a::l,.swap _ _ _,by rw[List.map_cons,List.map_cons,hl.1,hl.2.1,hl.2.2]⟩
  | trans _ _ ih1 ih2 =>
    intro l hl
    obtain⟨l1,h1,h2⟩:=ih2 l hl
    obtain⟨l2,h3,h4⟩:=ih1 l1 h2
    exact⟨l2,h3.trans h1,h4⟩
 intro l m h
 exact key h l rfl
theorem Jp {l:List Sp} (h:∀s∈l,0≤s.1∧s.1≤100000):∃m:List Sp,jO cfS (l.map encS)=m.map encS∧m.Perm l∧m.Pairwise (fun a b=>a.1≤b.1):=by
 obtain⟨m,h1,h2⟩:=W8 (vu (zc7 h))
 refine⟨m,h2,h1,?_⟩
 have h3:=xF (zc7 h)
 rw[h2,List.pairwise_map] at h3
 refine h3.imp_of_mem fun {a b} ha hb hab=>?_
 rw[W7 (h _ (h1.mem_iff.1 hb)) (h _ (h1.mem_iff.1 ha))] at hab
 omega
def Small (l:List Sp):Prop:=∀s∈l,0≤s.1∧s.1≤100000
theorem tog_drop {l:List Sp} {k:Nat} (h:k<l.length) (c:Sp):tog c (l.drop k)=if l[k].1≤c.2 then tog (c.1,max c.2 l[k].2) (l.drop (k+1)) else c::tog l[k] (l.drop (k+1)):=by
 rw[List.drop_eq_getElem_cons h,tog]
theorem togL_first {l:List Sp} (h:0<l.length):togL l=tog l[0] (l.drop 1):=by
 cases l with
 | nil=>simp at h
 | cons s l=>rfl
def TogTo (L:List Sp) (k:Nat) (d:List Sp):Prop:=(k=0∧d=[])∨∃d0 c,d=d0++[c]∧d0++tog c (L.drop k)=togL L
noncomputable abbrev Ctg:Ctx:=zF prog [(26,wg [] (jt 41 2)),(106,Wt 2 107 cfS domS)]
theorem sort_call {l m:List Sp} (h:Small l) (hl:l.length≤1048576) (hm:jO cfS (l.map encS)=m.map encS) {hp:Hp} {nx:Nat} {v:PV} (hO:OwnS hp nx 41 2 v (l.map encS)) :
  ∃hp',Wt 2 107 cfS domS [v,.fn (.func 107) [] []] hp nx=some (.tup [],hp',nx)∧OwnS hp' nx 41 2 v (m.map encS):=by
 rcases hO with⟨rfl,h0⟩ | ⟨id,hid,rfl,hh⟩
 ·refine⟨hp,rfl,.inl ⟨rfl,?_⟩⟩
  rw[←hm,h0]
  rfl
 ·by_cases hz:l=[]
  ·subst hz
   have:m=[]:=by
    have:(m.map encS)=[]:=by rw[←hm];rfl
    simpa using this
   subst this
   exact⟨hp,rfl,.inr ⟨id,hid,rfl,hh⟩⟩
  ·have hne:¬(l.map encS).length=0:=by simpa using hz
   have hml:(m.map encS).length=(l.map encS).length:=by rw[←hm,kI (zc7 h)]
   refine⟨upd hp id (some ⟨41,2,true,m.map encS⟩),?_,.inr ⟨id,hid,by rw[hml],by simp⟩⟩
   show (if (l.map encS).length=0 then _ else _)=_
   rw[if_neg hne,hh]
   simp only
   have e1:((l.map encS).drop 0).take (l.map encS).length=l.map encS:=by rw[List.drop_zero,List.take_length]
   have e2:(l.map encS).drop (0+(l.map encS).length)=[]:=by rw[Nat.zero_add,List.drop_length]
   rw[e1,e2,if_pos ⟨rfl,rfl,rfl,by simp,by simp;omega,zc7 h,fun x hx=>by
    obtain⟨s,hs,rfl⟩:=List.mem_map.1 hx
    exact⟨s,rfl,h s hs⟩⟩,hm]
   simp
theorem together_eval (l L:List Sp) (h:Small l) (hl:l.length≤1048576) (hm:jO cfS (l.map encS)=L.map encS) (y:PV) (hy:SlOf 2 (l.map encS) y):∃r0,zi Ctg f68 [y]=some r0∧Stands r0 (.sl 2 ((togL L).map encS)):=by
 have hfin:∀{code},f68.body=some code→EvC Ctg code ⟨yE [y],fun _=>none,0⟩ (retK Ctg.P f68 (J1 (.sl 2 ((togL L).map encS))))→∃r0,zi Ctg f68 [y]=some r0∧Stands r0 (.sl 2 ((togL L).map encS)):=by
  intro code hb h
  obtain⟨r0,h1,h2⟩:=kE hb h
  exact⟨r0,h1,fun w S u hr=>Qn hr h2⟩
 refine hfin rfl ?_
 have hLl:L.length=l.length:=by
  have:=congrArg List.length hm
  rw[kI (zc7 h)] at this
  simpa using this.symm
 have hcl:=fun hp nx=>Kv (e:=41) hy (by simp;unfold lim;omega) hp nx
 have hown:=Kw (e:=41) hy (fun _=>none) 0
 generalize hv:(QA 41 2 (l.map encS) y 0)=v0 at hown
 obtain⟨v,H,n0⟩:=v0
 have hcl0:=hcl (fun _=>none) 0
 rw[hv] at hcl0
 simp only at hown hcl0
 obtain⟨hp1,hs1,hO1⟩:=sort_call h hl hm hown
 have hlen:=hO1.len (P:=prog) (t:=36) el36
 simp at hlen
 simp[hcl0,hs1,hlen]
 refine zq (fun k σ hp nx=>σ 11=v∧σ 12=int L.length∧σ 13=int k∧(0<L.length→∃id0,id0<nx∧v=.own id0 0 L.length∧hp id0=some ⟨41,2,true,L.map encS⟩∧∀m,σ 3≠.own id0 0 m)∧∃d,OwnS hp nx 41 2 (σ 3) (d.map encS)∧TogTo L k d∧d.length≤k∧(k=0→σ 3=.nil)) L.length
  ⟨by simp,by simp,by simp,fun hpos=>?_,[],.inl (by simp),.inl ⟨rfl,rfl⟩,by simp,by simp⟩ ?_
 ·obtain⟨id0,g1,g2,g3⟩:=hO1.at_ (by simpa using hpos)
  exact⟨id0,g1,by simpa using g2,by simpa using g3,by simp⟩
 rintro k σ hp nx hk ⟨h11,h12,h13,hv0,d,hO,hT,hdk,hk0⟩
 by_cases hlt:k<L.length
 ·obtain⟨id0,g1,rfl,g3,g4⟩:=hv0 (by omega)
  have hw:IntKind.i64.wrap ((k:Int)+1)=(k:Int)+1:=zc (by omega) (by omega)
  have hne0:¬id0=nx:=by omega
  have hne1:¬id0=nx+1:=by omega
  have hne2:¬id0=nx+2:=by omega
  have hO':=hO.more (some ⟨41,2,false,[encS L[k]]⟩)
  have hap:=hO'.append1 (P:=prog) (t:=36) (c:=encS L[k]) el36 sz41 by41 ze41 rfl (by omega) (by rw[List.length_map];unfold maxLen;omega) (by rw[List.length_map];omega)
  have hbs:∀hp nx,zf prog hp nx 36 1 [(0,.agg (encS L[k]))]=some (.own nx 0 1,upd hp nx (some ⟨41,2,true,[encS L[k]]⟩),nx+1):=fun hp nx=>by
   simp[zf,zn,zg]
  simp only[encS] at hap hbs
  rcases hT with⟨rfl,rfl⟩ | ⟨d0,c,rfl,hT⟩
  ·have hn:σ 3=.nil:=hk0 rfl
   have w1:IntKind.i64.wrap 1=1:=zc (by omega) (by omega)
   rw[hn] at hap
   simp at hap
   simp[h11,h12,h13,hlt,g3,hn,hbs,hap,w1,hne0,hne1,hne2,vn]
   refine⟨hlt,⟨id0,by omega,rfl,?_,by omega⟩,[L[0]],.inr ⟨nx+1+1,by omega,by simp,by simp⟩,.inr ⟨[],L[0],rfl,(togL_first hlt).symm⟩,by simp⟩
   simp[g3,hne0,hne1,hne2]
  ·obtain⟨id,hid,h3,hh⟩:∃id,id<nx∧σ 3=.own id 0 (d0.length+1)∧hp id=some ⟨41,2,true,d0.map encS++[encS c]⟩:=by
    obtain⟨id,q1,q2,q3⟩:=hO.at_ (by simp)
    exact⟨id,q1,by simpa using q2,by simpa using q3⟩
   have hni:¬id=id0:=fun e=>g4 _ (e ▸ h3)
   have hni':¬id0=id:=fun e=>hni e.symm
   have hi0:¬id=nx:=by omega
   have w1:IntKind.i64.wrap (d0.length:Int)=d0.length:=zc (by simp at hdk;omega) (by simp at hdk;omega)
   have w2:(d0.length:Int)<d0.length+1:=by omega
   have w3:(0:Int)<(d0.length:Int)+1:=by omega
   simp at hdk
   rw[tog_drop hlt] at hT
   by_cases hc:L[k].1≤c.2
   ·rw[if_pos hc] at hT
    simp[h11,h12,h13,hlt,g3,h3,hh,hne0,hni,hni',hi0,w1,w2,w3,hc,hw]
    have hmx:(if c.2<L[k].2 then L[k].2 else c.2)=max c.2 L[k].2:=by split<;>omega
    rw[hmx]
    refine⟨hlt,fun _=>⟨id0,by omega,rfl,by simp[g3,hne0,hni'],hni⟩,d0++[(c.1,max c.2 L[k].2)],.inr ⟨id,by omega,by simp,by simp⟩,.inr ⟨d0,_,rfl,hT⟩,by simp;omega⟩
   ·rw[if_neg hc] at hT
    rw[h3] at hap
    simp at hap
    simp[h11,h12,h13,hlt,g3,h3,hh,hne0,hni,hni',hi0,w1,w2,w3,hc,hw,hbs,hap]
    refine⟨hlt,fun _=>⟨id0,by omega,rfl,by simp[g3,hne0,hne1,hne2,hni',vn],by omega⟩,d0++[c]++[L[k]],.inr ⟨nx+1+1,by omega,by simp,by simp⟩,.inr ⟨d0++[c],_,rfl,by rw[List.append_assoc];exact hT⟩,by simp;omega⟩
 ·obtain rfl:k=L.length:=by omega
  have hd:d=togL L:=by
   rcases hT with⟨h0,rfl⟩ | ⟨d0,c,rfl,hT⟩
   ·have:L=[]:=List.length_eq_zero_iff.1 h0
    subst this;rfl
   ·rw[List.drop_length,tog] at hT;exact hT
  rw[hd] at hO
  have:=hO.freeze nx
  simp[h11,h12,h13,f68]
  exact this
noncomputable def yy (l:List Sp):List Sp:=by
 classical exact if h:Small l then (Jp h).choose else []
theorem Z7 {l:List Sp} (h:Small l):jO cfS (l.map encS)=(yy l).map encS∧(yy l).Perm l∧(yy l).Pairwise (fun a b=>a.1≤b.1):=by
 unfold yy
 rw[dif_pos h]
 exact (Jp h).choose_spec
def OwnB (hp:Hp) (nx:Nat) (v:PV) (d:List Sp):Prop:=(v=.nil∧d=[])∨(d≠[]∧∃id,id<nx∧v=.own id 0 d.length∧hp id=blkS d)
theorem OwnB.freeze {hp:Hp} {nx:Nat} {v:PV} {d:List Sp} (h:OwnB hp nx v d) (nx':Nat):J1 (.sl 2 (d.map encS)) v hp nx':=by
 rcases h with⟨rfl,rfl⟩ | ⟨hd,id,h1,rfl,h2⟩
 ·exact (OwnS.nil hp nx 41 2).freeze nx'
 ·have:OwnS hp nx 41 2 (.own id 0 d.length) (d.map encS):=.inr ⟨id,h1,by simp,by rw[h2,blkS,if_neg (by simpa using hd)]⟩
  exact this.freeze nx'
theorem putL_ne (d:List Sp) (f t:Int):putL d f t≠[]:=by
 unfold putL
 split
 ·split<;>simp
 ·simp
theorem Jq (d:List Sp) (f t:Int):(putL d f t).length≤d.length+1:=by
 unfold putL
 split
 ·split
  ·simp
  ·simp
 ·simp
theorem zbD {hp:Hp} {nx:Nat} {v:PV} {d:List Sp} {f t:Int} (h:OwnB hp nx v d) (hl:d.length≤100000):∃v' hp' nx',zap [] putM [v,int f,int t] hp nx=some (v',hp',nx')∧OwnB hp' nx' v' (putL d f t):=by
 have hne:=putL_ne d f t
 have hb:blkS (putL d f t)=some ⟨41,2,true,(putL d f t).map encS⟩:=by rw[blkS,if_neg (by simpa using hne)]
 have hq:=putM_eq d f t hl
 rw[hb] at hq
 have hfz:∀hp,zj hp [int f,int t]=some ([int f,int t],hp):=fun hp=>by rfl
 rcases h with⟨rfl,rfl⟩ | ⟨hd,id,h1,rfl,h2⟩
 ·refine⟨.own nx 0 (putL [] f t).length,upd hp nx (some ⟨41,2,true,(putL [] f t).map encS⟩),nx+1,?_,.inr ⟨hne,nx,by omega,rfl,by rw[hb];simp⟩⟩
  have hq:putM none [int f,int t]=_:=hq
  simp[zap,hfz,qc,hq]
 ·have hb0:blkS d=some ⟨41,2,true,d.map encS⟩:=by rw[blkS,if_neg (by simpa using hd)]
  rw[hb0] at hq h2
  refine⟨.own nx 0 (putL d f t).length,upd (upd hp id none) nx (some ⟨41,2,true,(putL d f t).map encS⟩),nx+1,?_,.inr ⟨hne,nx,by omega,rfl,by rw[hb];simp⟩⟩
  simp[zap,hfz,qc,hq,h2]
noncomputable abbrev Csw:Ctx:=zF prog [(108,zd false [] (FPN (fun l x=>int (yS x 100000 l)) fun l _=>l.length≤100000)),(109,zd false [] (FPN (fun l x=>boo (hasB l x)) fun l _=>l.length≤100000)),(110,zap [] putM)]
theorem runion_eval (a b:List Sp) (ha:okS a) (hb:okS b):∃d,Swept (fun k=>mem a k∨mem b k) 100000 d∧∃r0,zi Csw f112 [.sl 2 (a.map encS),.sl 2 (b.map encS)]=some r0∧Stands r0 (.sl 2 (d.map encS)):=by
 obtain⟨_,_,_,hla⟩:=ha
 obtain⟨_,_,_,hlb⟩:=hb
 have hfin:∀{code},f112.body=some code→EvC Csw code ⟨yE [.sl 2 (a.map encS),.sl 2 (b.map encS)],fun _=>none,0⟩ (retK Csw.P f112 (fun x hp nx=>∃d,Swept (fun k=>mem a k∨mem b k) 100000 d∧J1 (.sl 2 (d.map encS)) x hp nx))→∃d,Swept (fun k=>mem a k∨mem b k) 100000 d∧∃r0,zi Csw f112 [.sl 2 (a.map encS),.sl 2 (b.map encS)]=some r0∧Stands r0 (.sl 2 (d.map encS)):=by
  intro code hb h
  obtain⟨x,hp',nx',h1,d,h2,r0,h3,h4⟩:=zD hb h
  exact⟨d,h2,r0,by unfold zi;simp only[h1];exact h3,fun w S u hr=>Qn hr h4⟩
 refine hfin rfl ?_
 have n1:=fun l x hp nx h=>Yt (fun l x=>int (yS x 100000 l)) (fun l _=>l.length≤100000) l x hp nx h
 have b1:=fun l x hp nx h=>Yt (fun l x=>boo (hasB l x)) (fun l _=>l.length≤100000) l x hp nx h
 simp
 refine yM (fun st=>st.σ 0=.sl 2 (a.map encS)∧st.σ 1=.sl 2 (b.map encS)∧∃(at_:Int) (d:List Sp),st.σ 6=int at_∧0≤at_∧at_≤100000∧OwnB st.hp st.nx (st.σ 5) d∧Swept (fun k=>mem a k∨mem b k) at_ d∧(d.length:Int)≤at_)
  (fun st=>(100000 - Yj (st.σ 6)).toNat) ⟨by simp,by simp,0,[],by simp,by simp,by simp,.inl (by simp),KG _,by simp⟩ ?_
 rintro⟨σ,hp,nx⟩ ⟨h0,h1,at_,d,h6,hat,hat1,hO,hS,hdl⟩
 simp only at h0 h1 h6 hO
 by_cases hlt:at_<100000
 ·obtain⟨to,hto⟩:∃to,(if yS at_ 100000 b<yS at_ 100000 a then yS at_ 100000 b else yS at_ 100000 a)=to:=⟨_,rfl⟩
  have g1:=QI (at_:=at_) (l:=a) hlt
  have g2:=QI (at_:=at_) (l:=b) hlt
  have g3:=Zo at_ a 100000
  have g4:=Zo at_ b 100000
  have t1:at_<to:=by rw[←hto];split<;>omega
  have t2:to≤100000:=by rw[←hto];split<;>omega
  have t3:to≤yS at_ 100000 a:=by rw[←hto];split<;>omega
  have t4:to≤yS at_ 100000 b:=by rw[←hto];split<;>omega
  have hsame:∀k,at_≤k→k<to→((mem a k∨mem b k)↔(fun k=>mem a k∨mem b k) at_):=fun k h1 h2=>by
   have e1:=Zp (l:=a) (out:=100000) h1 (by omega)
   have e2:=Zp (l:=b) (out:=100000) h1 (by omega)
   simp only[e1,e2]
  have hopb:(hasB a at_||hasB b at_)=true↔(fun k=>mem a k∨mem b k) at_:=by
   simp[QK,←QK]
  by_cases hc:(fun k=>mem a k∨mem b k) at_
  ·obtain⟨v',hp',nx',p1,p2⟩:=zbD hO (f:=at_) (t:=to) (by omega)
   have hpl:((putL d at_ to).length:Int)≤to:=by have:=Jq d at_ to;omega
   have hS':=XM hat hS t1 hsame hc
   have hcb:=hopb.2 hc
   cases ca:hasB a at_<;>cases cb:hasB b at_<;>simp only[ca,cb] at hcb<;>simp at hcb
   all_goals simp[h0,h1,h6,hlt,n1 _ _ _ _ hla,n1 _ _ _ _ hlb,b1 _ _ _ _ hla,b1 _ _ _ _ hlb,hto,ca,cb,p1]
   all_goals exact⟨⟨by omega,t2,putL d at_ to,p2,hS',hpl⟩,by omega⟩
  ·have hS':=KH hS t1 hsame hc
   have hcb:¬(hasB a at_||hasB b at_)=true:=fun h=>hc (hopb.1 h)
   cases ca:hasB a at_<;>cases cb:hasB b at_<;>simp only[ca,cb] at hcb<;>simp at hcb
   all_goals simp[h0,h1,h6,hlt,n1 _ _ _ _ hla,n1 _ _ _ _ hlb,b1 _ _ _ _ hla,b1 _ _ _ _ hlb,hto,ca,cb]
   all_goals exact⟨⟨by omega,t2,d,hO,hS',by omega⟩,by omega⟩
 ·obtain rfl:at_=100000:=by omega
  simp[h0,h1,h6,f112]
  exact⟨d,hS,hO.freeze nx⟩
theorem rminus_eval (a b:List Sp) (ha:okS a) (hb:okS b):∃d,Swept (fun k=>mem a k∧¬mem b k) 100000 d∧∃r0,zi Csw f70 [.sl 2 (a.map encS),.sl 2 (b.map encS)]=some r0∧Stands r0 (.sl 2 (d.map encS)):=by
 obtain⟨_,_,_,hla⟩:=ha
 obtain⟨_,_,_,hlb⟩:=hb
 have hfin:∀{code},f70.body=some code→EvC Csw code ⟨yE [.sl 2 (a.map encS),.sl 2 (b.map encS)],fun _=>none,0⟩ (retK Csw.P f70 (fun x hp nx=>∃d,Swept (fun k=>mem a k∧¬mem b k) 100000 d∧J1 (.sl 2 (d.map encS)) x hp nx))→∃d,Swept (fun k=>mem a k∧¬mem b k) 100000 d∧∃r0,zi Csw f70 [.sl 2 (a.map encS),.sl 2 (b.map encS)]=some r0∧Stands r0 (.sl 2 (d.map encS)):=by
  intro code hb h
  obtain⟨x,hp',nx',h1,d,h2,r0,h3,h4⟩:=zD hb h
  exact⟨d,h2,r0,by unfold zi;simp only[h1];exact h3,fun w S u hr=>Qn hr h4⟩
 refine hfin rfl ?_
 have n1:=fun l x hp nx h=>Yt (fun l x=>int (yS x 100000 l)) (fun l _=>l.length≤100000) l x hp nx h
 have b1:=fun l x hp nx h=>Yt (fun l x=>boo (hasB l x)) (fun l _=>l.length≤100000) l x hp nx h
 simp
 refine yM (fun st=>st.σ 0=.sl 2 (a.map encS)∧st.σ 1=.sl 2 (b.map encS)∧∃(at_:Int) (d:List Sp),st.σ 6=int at_∧0≤at_∧at_≤100000∧OwnB st.hp st.nx (st.σ 5) d∧Swept (fun k=>mem a k∧¬mem b k) at_ d∧(d.length:Int)≤at_)
  (fun st=>(100000 - Yj (st.σ 6)).toNat) ⟨by simp,by simp,0,[],by simp,by simp,by simp,.inl (by simp),KG _,by simp⟩ ?_
 rintro⟨σ,hp,nx⟩ ⟨h0,h1,at_,d,h6,hat,hat1,hO,hS,hdl⟩
 simp only at h0 h1 h6 hO
 by_cases hlt:at_<100000
 ·obtain⟨to,hto⟩:∃to,(if yS at_ 100000 b<yS at_ 100000 a then yS at_ 100000 b else yS at_ 100000 a)=to:=⟨_,rfl⟩
  have g1:=QI (at_:=at_) (l:=a) hlt
  have g2:=QI (at_:=at_) (l:=b) hlt
  have g3:=Zo at_ a 100000
  have g4:=Zo at_ b 100000
  have t1:at_<to:=by rw[←hto];split<;>omega
  have t2:to≤100000:=by rw[←hto];split<;>omega
  have t3:to≤yS at_ 100000 a:=by rw[←hto];split<;>omega
  have t4:to≤yS at_ 100000 b:=by rw[←hto];split<;>omega
  have hsame:∀k,at_≤k→k<to→((mem a k∧¬mem b k)↔(fun k=>mem a k∧¬mem b k) at_):=fun k h1 h2=>by
   have e1:=Zp (l:=a) (out:=100000) h1 (by omega)
   have e2:=Zp (l:=b) (out:=100000) h1 (by omega)
   simp only[e1,e2]
  have hopb:(hasB a at_&&!hasB b at_)=true↔(fun k=>mem a k∧¬mem b k) at_:=by
   simp[QK,←QK]
  by_cases hc:(fun k=>mem a k∧¬mem b k) at_
  ·obtain⟨v',hp',nx',p1,p2⟩:=zbD hO (f:=at_) (t:=to) (by omega)
   have hpl:((putL d at_ to).length:Int)≤to:=by have:=Jq d at_ to;omega
   have hS':=XM hat hS t1 hsame hc
   have hcb:=hopb.2 hc
   cases ca:hasB a at_<;>cases cb:hasB b at_<;>simp only[ca,cb] at hcb<;>simp at hcb
   all_goals simp[h0,h1,h6,hlt,n1 _ _ _ _ hla,n1 _ _ _ _ hlb,b1 _ _ _ _ hla,b1 _ _ _ _ hlb,hto,ca,cb,p1]
   all_goals exact⟨⟨by omega,t2,putL d at_ to,p2,hS',hpl⟩,by omega⟩
  ·have hS':=KH hS t1 hsame hc
   have hcb:¬(hasB a at_&&!hasB b at_)=true:=fun h=>hc (hopb.1 h)
   cases ca:hasB a at_<;>cases cb:hasB b at_<;>simp only[ca,cb] at hcb<;>simp at hcb
   all_goals simp[h0,h1,h6,hlt,n1 _ _ _ _ hla,n1 _ _ _ _ hlb,b1 _ _ _ _ hla,b1 _ _ _ _ hlb,hto,ca,cb]
   all_goals exact⟨⟨by omega,t2,d,hO,hS',by omega⟩,by omega⟩
 ·obtain rfl:at_=100000:=by omega
  simp[h0,h1,h6,f70]
  exact⟨d,hS,hO.freeze nx⟩
theorem zbE {l m:List Sp} (h:l.Perm m) (k:Int):mem l k↔mem m k:=by
 unfold mem
 constructor
 ·rintro⟨s,hs,g⟩;exact⟨s,h.mem_iff.1 hs,g⟩
 ·rintro⟨s,hs,g⟩;exact⟨s,h.mem_iff.2 hs,g⟩
theorem Jr:∀{lo:Int} {m:List Sp},(∀s∈m,lo≤s.1∧s.1<s.2)→m.Pairwise (fun a b=>a.1≤b.1)→ZP lo m
 | _,[],_,_=>trivial
 | lo,s::m,h,hp=>by
   rw[List.pairwise_cons] at hp
   exact⟨(h s (by simp)).1,(h s (by simp)).2,Jr (fun x hx=>⟨hp.1 x hx,(h x (by simp[hx])).2⟩) hp.2⟩
noncomputable def uniL (a b:List Sp):List Sp:=togL (yy (a++b))
theorem small_bothK {a b:List Sp} (ha:okS a) (hb:okS b):Small (a++b)∧∀s∈a++b,0≤s.1∧s.1<s.2∧s.2≤100000:=by
 obtain⟨c1,b1,p1,_⟩:=ha
 obtain⟨c2,b2,p2,_⟩:=hb
 have key:∀s∈a++b,0≤s.1∧s.1<s.2∧s.2≤100000:=fun s hs=>by
  rcases List.mem_append.1 hs with hs | hs
  ·exact⟨p1 s hs,yU c1 s hs,b1 s hs⟩
  ·exact⟨p2 s hs,yU c2 s hs,b2 s hs⟩
 exact⟨fun s hs=>by have:=key s hs;omega,key⟩
theorem KJ {a b:List Sp} (ha:okS a) (hb:okS b):qY (-1) (uniL a b)∧∀k,mem (uniL a b) k↔mem a k∨mem b k:=by
 obtain⟨h1,h2⟩:=small_bothK ha hb
 obtain⟨_,s2,s3⟩:=Z7 h1
 have hs:ZP 0 (yy (a++b)):=Jr (fun s hs=>by have:=h2 s (s2.mem_iff.1 hs);exact⟨this.1,this.2.1⟩) s3
 refine⟨KE (lo:=-1) (by simpa using hs),fun k=>?_⟩
 rw[uniL,zbx hs,zbE s2,mem_append]
theorem Ww {a:List Sp} (ha:okS a) {k:Int} (h:mem a k):0≤k∧k<100000:=by
 obtain⟨_,b1,p1,_⟩:=ha
 obtain⟨s,hs,g1,g2⟩:=h
 have:=b1 s hs
 have:=p1 s hs
 omega
theorem eqS_drop {a b:List Sp} {k:Nat} (ha:k<a.length) (hb:k<b.length):decide (a.drop k=b.drop k)=(decide (a[k]=b[k])&&decide (a.drop (k+1)=b.drop (k+1))):=by
 rw[List.drop_eq_getElem_cons ha,List.drop_eq_getElem_cons hb,←Bool.decide_and]
 congr 1
 simp only[List.cons.injEq]
theorem binS (x y u v:Int):binA prog .neq 41 (.agg [int x,int y]) (.agg [int u,int v])=some (boo (!(decide (x=u)&&decide (y=v)))):=by
 simp only[binA,fl41,qe,if_true,Option.map_some,Bool.and_true]
 rfl
theorem sp_ext {a b:Sp}:decide (a=b)=(decide (a.1=b.1)&&decide (a.2=b.2)):=by
 simp[Prod.ext_iff]
theorem Js (a b:List Sp) (ha:a.length≤lim):zi C0 f11 [.sl 2 (a.map encS),.sl 2 (b.map encS)]=some (boo (decide (a=b))):=by
 unfold lim at ha
 refine zb rfl ?_
 by_cases hl:a.length=b.length
 case neg =>
  have hl':((a.length:Int) != (b.length:Int))=true:=by simp;omega
  have hne:¬a=b:=fun e=>hl (by rw[e])
  simp[hl',hne,f11]
 have hl':((a.length:Int) != (b.length:Int))=false:=by simp[hl]
 simp[hl']
 refine zq (fun k σ hp nx=>σ 0=.sl 2 (a.map encS)∧σ 1=.sl 2 (b.map encS)∧σ 12=int a.length∧σ 13=int k∧decide (a=b)=decide (a.drop k=b.drop k)) a.length
  ⟨by simp,by simp,by simp,by simp,by simp⟩ ?_
 rintro k σ hp nx hk ⟨h0,h1,h12,h13,hf⟩
 by_cases hlt:k<a.length
 ·have hlt':k<b.length:=by omega
  have hw:IntKind.i64.wrap ((k:Int)+1)=(k:Int)+1:=zc (by omega) (by omega)
  rw[eqS_drop hlt hlt',sp_ext] at hf
  by_cases d1:a[k].1=b[k].1<;>by_cases d2:a[k].2=b[k].2<;>simp only[d1,d2,decide_true,decide_false,Bool.and_true,Bool.true_and,Bool.and_false,Bool.false_and] at hf
  ·simp[h0,h1,h12,h13,hlt,hlt',d1,d2,hw,binS]
   exact⟨hlt,by simpa using hf⟩
  all_goals simp[h0,h1,h12,h13,hlt,hlt',d1,d2,hf,binS,f11]
 ·obtain rfl:k=a.length:=by omega
  rw[List.drop_length,hl,List.drop_length] at hf
  simp[h0,h1,h12,h13,hf,f11]
theorem W9:za prog 11 (zd false [] (FPP (fun a b=>boo (decide (a=b))) fun a _=>a.length≤lim)) :=
 zI (fn:=f11) qA ⟨_,func11,by kernel_rfl,rfl,by kernel_rfl⟩ false [] _ fun args r h=>by
  obtain⟨⟨a,b⟩,rfl,hx,rfl⟩:=ze h
  exact⟨Nat.le_trans (Nat.le_refl 2) (by decide),_,Js a b hx,zG _⟩
end Go.Proofs.YtdkfdoeijcfbhaaGreatDoor
namespace Go.Proofs.YtdkfdoeijcfbhaaGreatDoor
open Go.Proofs.Tryz
open Go.RowKit Go.AM
abbrev Rg:=Int×Int×Int
abbrev encG (r:Rg):List PV:=[int r.1,int r.2.1,int r.2.2]
theorem encG_inj {a b:Rg} (h:encG a=encG b):a=b:=by
 simp only[List.cons.injEq,and_true,PV.v.injEq,Value.int.injEq,true_and] at h
 exact Prod.ext h.1 (Prod.ext h.2.1 h.2.2)
theorem KK {a b:List Rg} (h:PV.sl 3 (a.map encG)=PV.sl 3 (b.map encG)):a=b:=by
 injection h with _ h
 exact qW (fun _ _=>encG_inj) h
def rgO (at_:Int) (r:Rg):Bool:=(r.1 != at_)||decide (r.2.1≤r.1)
def rgT (p:Option Int) (r:Rg):Bool:=match p with
 | none=>false
 | some q=>q==r.2.2
def rgF (n:Int):Int→Option Int→List Rg→Int
 | at_,_,[]=>if at_=100000 then 0 else 8
 | at_,p,r::l=>if inB r.2.2 0 (n - 1) then (if rgO at_ r then 8 else if (100000:Int)<r.2.1 then 1 else if rgT p r then 7 else rgF n r.2.1 (some r.2.2) l) else 1
theorem zbF {l:List Rg} {k:Nat} (h:k<l.length) (n a:Int) (p:Option Int):rgF n a p (l.drop k)=if inB l[k].2.2 0 (n - 1) then (if rgO a l[k] then 8 else if (100000:Int)<l[k].2.1 then 1 else if rgT p l[k] then 7 else rgF n l[k].2.1 (some l[k].2.2) (l.drop (k+1))) else 1:=by
 rw[List.drop_eq_getElem_cons h,rgF]
def QL (l:List Rg) (k:Nat):Option Int:=if k=0 then none else (l[k - 1]?).map (·.2.2)
def wX (l:List Rg) (n:Int):Int:=if l.length=0 then 9 else if (200:Int)<l.length then 2 else rgF n 0 none l
theorem withinF_sound:za prog 280 (zd false [] (F3 inB)) :=
 zI (fn:=f280) qA ⟨_,func280,by kernel_rfl,rfl,by kernel_rfl⟩ false [] _ fun args r h=>by
  obtain⟨a,b,c,rfl,rfl⟩:=Xj h
  exact⟨by simp[f280],_,zb rfl (by simp[f280,inB]),zG _⟩
noncomputable abbrev Cwf:Ctx:=zF prog [(280,zd false [] (F3 inB))]
theorem checkRanges_eval (l:List Rg) (n:Int) (hn:1≤n∧n≤20):zi Cwf f219 [.sl 3 (l.map encG),int n]=some (int (wX l n)):=by
 refine zb rfl ?_
 have hn1:IntKind.i64.wrap (n - 1)=n - 1:=zc (by omega) (by omega)
 rw[wX]
 by_cases c1:l.length=0
 ·have:l=[]:=List.length_eq_zero_iff.1 c1
  subst this
  simp[f219]
 have c1':¬l=[]:=fun h=>c1 (by rw[h];rfl)
 have c0:((l.length:Int)==0)=false:=by simpa using c1'
 by_cases c2:(200:Int)<l.length
 ·simp[c0,c1,c1',c2,f219]
 simp[c0,c1,c1',c2]
 refine zq (fun k σ hp nx=>σ 0=.sl 3 (l.map encG)∧σ 1=int n∧σ 14=.sl 3 (l.map encG)∧σ 15=int l.length∧σ 16=int k∧∃a:Int,σ 5=int a∧rgF n 0 none l=rgF n a (QL l k) (l.drop k)) l.length
  ⟨by simp,by simp,by simp,by simp,by simp,0,by simp,by simp[QL]⟩ ?_
 rintro k σ hp nx hk ⟨h0,h1,h14,h15,h16,a,h5,hf⟩
 by_cases hlt:k<l.length
 ·have hw:IntKind.i64.wrap ((k:Int)+1)=(k:Int)+1:=zc (by omega) (by omega)
  rw[zbF hlt] at hf
  cases d1:inB l[k].2.2 0 (n - 1)
  case false =>
   rw[d1] at hf
   simp at hf
   simp[h0,h1,h5,h14,h15,h16,hlt,hn1,d1,hf,f219]
  simp only[d1,if_true] at hf
  have eo:((l[k].1 != a)||decide (l[k].2.1≤l[k].1))=rgO a l[k]:=rfl
  cases d2:rgO a l[k]
  case true =>
   rw[d2] at eo hf
   simp only[if_true] at hf
   simp[h0,h1,h5,h14,h15,h16,hlt,hn1,d1,eo,hf,f219]
  rw[d2] at eo
  simp only[d2,Bool.false_eq_true,if_false] at hf
  by_cases d3:(100000:Int)<l[k].2.1
  ·rw[if_pos d3] at hf
   simp[h0,h1,h5,h14,h15,h16,hlt,hn1,d1,eo,d3,hf,f219]
  rw[if_neg d3] at hf
  have hpv:QL l (k+1)=some l[k].2.2:=by simp[QL,hlt]
  by_cases k0:k=0
  ·subst k0
   simp only[QL,if_true,rgT,Bool.false_eq_true,if_false] at hf
   have w1:IntKind.i64.wrap 1=1:=zc (by omega) (by omega)
   simp[h0,h1,h5,h14,h15,h16,hlt,hn1,d1,eo,d3,w1]
   exact⟨hlt,by rw[hf,hpv];simp⟩
  ·obtain⟨j,rfl⟩:∃j,k=j+1:=⟨k - 1,by omega⟩
   have hj:j<l.length:=by omega
   have wj:IntKind.i64.wrap ((j:Int)+1 - 1)=(j:Int):=by rw[zc (by omega) (by omega)];omega
   have wj':IntKind.i64.wrap (j:Int)=(j:Int):=zc (by omega) (by omega)
   have j1:((j:Int)+1).toNat=j+1:=by omega
   have j2:0<(j:Int)+1:=by omega
   have j3:0≤(j:Int)+1:=by omega
   have j4:(j:Int)+1<l.length:=by omega
   have wk:IntKind.i64.wrap ((j:Int)+1+1)=(j:Int)+1+1:=zc (by omega) (by omega)
   have hpj:QL l (j+1)=some l[j].2.2:=by simp[QL,hj]
   have et:(l[j].2.2==l[j+1].2.2)=rgT (some l[j].2.2) l[j+1]:=rfl
   rw[hpj] at hf
   cases d4:rgT (some l[j].2.2) l[j+1]
   ·rw[d4] at et
    simp only[d4,Bool.false_eq_true,if_false] at hf
    simp[h0,h1,h5,h14,h15,h16,hlt,hj,hn1,d1,eo,d3,et,wj,wj',j1,j2,j3,j4,wk]
    exact⟨by omega,by rw[hf,hpv]⟩
   ·rw[d4] at et
    simp only[d4,if_true] at hf
    simp[h0,h1,h5,h14,h15,h16,hlt,hj,hn1,d1,eo,d3,et,wj,wj',j1,j2,j3,j4,hf,f219]
 ·obtain rfl:k=l.length:=by omega
  rw[List.drop_length,rgF] at hf
  by_cases ha:a=100000
  ·rw[if_pos ha] at hf
   simp[h0,h1,h5,h14,h15,h16,ha,hf,f219]
  ·rw[if_neg ha] at hf
   have ha':(a != 100000)=true:=by simpa using ha
   simp[h0,h1,h5,h14,h15,h16,ha',hf,f219]
noncomputable def FRN (out:List Rg→Int→PV) (pre:List Rg→Int→Prop):List PV→Option PV:=zH (α:=List Rg×Int) (fun a=>[.sl 3 (a.1.map encG),int a.2]) (fun a=>pre a.1 a.2) (fun a=>out a.1 a.2)
theorem zbG (out:List Rg→Int→PV) (pre:List Rg→Int→Prop) (l:List Rg) (n:Int) (hp:Hp) (nx:Nat) (h:pre l n):zd false [] (FRN out pre) [.sl 3 (l.map encG),int n] hp nx=some (out l n,hp,nx) :=
 zy rfl (zm (enc:=fun a:List Rg×Int=>[PV.sl 3 (a.1.map encG),int a.2]) (a:=(l,n)) (fun a b e=>by
  obtain⟨a1,a2⟩:=a;obtain⟨b1,b2⟩:=b
  simp only[List.cons.injEq,and_true] at e
  rw[KK e.1,zB e.2]) h) (.inr rfl)
theorem checkRanges_sound:za prog 219 (zd false [] (FRN (fun l n=>int (wX l n)) fun _ n=>1≤n∧n≤20)) :=
 zI (fn:=f219) (zk (q:=[280]) mixed ⟨withinF_sound,fun _=>zh _ _,trivial⟩:AM.Good Cwf _) ⟨_,func219,by kernel_rfl,rfl,by kernel_rfl⟩ false [] _ fun args r h=>by
  obtain⟨⟨l,n⟩,rfl,hn,rfl⟩:=ze h
  exact⟨Nat.le_trans (Nat.le_refl 2) (by decide),_,checkRanges_eval l n hn,zG _⟩
end Go.Proofs.YtdkfdoeijcfbhaaGreatDoor
namespace Go.Proofs.YtdkfdoeijcfbhaaGreatDoor
open Go.Proofs.Tryz
open Go.RowKit Go.AM Go.SpanLaw
structure Lyr where
 name:List UInt8
 salt:List UInt8
 rest:Int
def Lyr.enc (x:Lyr):List PV:=[str x.name,str x.salt,int x.rest]
theorem Wx {a b:Lyr} (h:a.enc=b.enc):a=b:=by
 cases a;cases b
 simp only[Lyr.enc,List.cons.injEq,and_true] at h
 rw[zV h.1,zV h.2.1,zB h.2.2]
structure Hld where
 name:List UInt8
 salt:List UInt8
 buckets:Int
 layers:List (List UInt8)
def Hld.enc (x:Hld):List PV:=[str x.name,str x.salt,int x.buckets,.sl 1 (encT x.layers)]
theorem hld_inj {a b:Hld} (h:a.enc=b.enc):a=b:=by
 cases a;cases b
 simp only[Hld.enc,List.cons.injEq,and_true] at h
 obtain⟨h1,h2,h3,h4⟩:=h
 injection h4 with _ h4
 rw[zV h1,zV h2,zB h3,yk h4]
structure Phs where
 at_:Int
 spans:List Sp
def Phs.enc (x:Phs):List PV:=[int x.at_,.sl 2 (x.spans.map encS)]
theorem zc8 {a b:Phs} (h:a.enc=b.enc):a=b:=by
 cases a;cases b
 simp only[Phs.enc,List.cons.injEq,and_true] at h
 rw[zB h.1,wP h.2]
structure Xp where
 name:List UInt8
 layer:List UInt8
 flag:List UInt8
 cond:Cnd
 salt:List UInt8
 arms:List Rg
 phases:List Phs
def Xp.enc (x:Xp):List PV:=[str x.name,str x.layer,str x.flag]++x.cond.enc++[str x.salt,.sl 3 (x.arms.map encG),.sl 2 (x.phases.map Phs.enc)]
theorem zw (x:Xp):x.enc=[str x.name,str x.layer,str x.flag,int x.cond.kind,str x.cond.attr,int x.cond.op,.sl 5 (x.cond.vals.map Val.enc),str x.cond.pat,str x.cond.name,.sl 7 (x.cond.args.map Cnd.enc),str x.salt,.sl 3 (x.arms.map encG),.sl 2 (x.phases.map Phs.enc)]:=by
 unfold Xp.enc
 rw[ww]
 rfl
theorem xL {a b:Xp} (h:a.enc=b.enc):a=b:=by
 have hc:a.cond.enc=b.cond.enc:=by
  rw[zw,zw] at h
  simp only[List.cons.injEq,and_true] at h
  rw[ww,ww]
  simp only[List.cons.injEq,and_true]
  exact⟨h.2.2.2.1,h.2.2.2.2.1,h.2.2.2.2.2.1,h.2.2.2.2.2.2.1,h.2.2.2.2.2.2.2.1,h.2.2.2.2.2.2.2.2.1,h.2.2.2.2.2.2.2.2.2.1⟩
 have hc':=Vf hc
 rw[zw,zw] at h
 simp only[List.cons.injEq,and_true] at h
 obtain⟨h1,h2,h3,_,_,_,_,_,_,_,h4,h5,h6⟩:=h
 cases a;cases b
 simp only at *
 injection h6 with _ h6
 rw[zV h1,zV h2,zV h3,hc',zV h4,KK h5,qW (fun _ _=>zc8) h6]
structure Bk where
 layers:List Lyr
 holds:List Hld
 exps:List Xp
def Bk.enc (b:Bk):List PV:=[.sl 3 (b.layers.map Lyr.enc),.sl 4 (b.holds.map Hld.enc),.sl 13 (b.exps.map Xp.enc)]
theorem QM {a b:Bk} (h:a.enc=b.enc):a=b:=by
 cases a;cases b
 simp only[Bk.enc,List.cons.injEq,and_true] at h
 obtain⟨h1,h2,h3⟩:=h
 injection h1 with _ h1
 injection h2 with _ h2
 injection h3 with _ h3
 rw[qW (fun _ _=>Wx) h1,qW (fun _ _=>hld_inj) h2,qW (fun _ _=>xL) h3]
def sumB {α:Type} (f:α→Nat) (l:List α):Nat:=(l.map f).sum
theorem qt {α:Type} {f:α→Nat}:∀{l:List α} {x:α},x∈l→f x≤sumB f l
 | y::l,x,h=>by
   simp only[sumB,List.map_cons,List.sum_cons]
   rcases List.mem_cons.1 h with rfl | h
   ·omega
   ·have:=qt (f:=f) h;simp only[sumB] at this;omega
theorem zN {α:Type} {f:α→Nat} (hf:∀x,1≤f x):∀l:List α,l.length≤sumB f l
 | []=>by simp
 | y::l=>by
   have:=zN hf l
   have:=hf y
   simp only[sumB,List.map_cons,List.sum_cons,List.length_cons] at *
   omega
def Lyr.cb (x:Lyr):Nat:=1+x.name.length+x.salt.length
def Hld.cb (x:Hld):Nat:=1+x.name.length+x.salt.length+sumB (fun s=>1+s.length) x.layers
def Phs.cb (x:Phs):Nat:=1+x.spans.length
def Xp.cb (x:Xp):Nat:=x.name.length+x.layer.length+x.flag.length+x.cond.cb+x.salt.length+x.arms.length+sumB Phs.cb x.phases
def Bk.cb (b:Bk):Nat:=sumB Lyr.cb b.layers+sumB Hld.cb b.holds+sumB Xp.cb b.exps
theorem jh (x:Lyr):1≤x.cb:=by unfold Lyr.cb;omega
theorem Wy (x:Hld):1≤x.cb:=by unfold Hld.cb;omega
theorem jC (x:Phs):1≤x.cb:=by unfold Phs.cb;omega
theorem xM (x:Xp):1≤x.cb:=by have:=za7 x.cond;unfold Xp.cb;omega
end Go.Proofs.YtdkfdoeijcfbhaaGreatDoor
namespace Go.Proofs.YtdkfdoeijcfbhaaGreatDoor
open Go.Proofs.Tryz
open Go.RowKit Go.AM
theorem zbH (a b:UInt8):a<b∨a=b∨b<a:=by
 rcases Nat.lt_trichotomy a.toNat b.toNat with h | h | h
 ·exact .inl (UInt8.lt_iff_toNat_lt.2 h)
 ·exact .inr (.inl (UInt8.toNat_inj.1 h))
 ·exact .inr (.inr (UInt8.lt_iff_toNat_lt.2 h))
theorem Jt (a:UInt8):¬a<a:=fun h=>Nat.lt_irrefl _ (UInt8.lt_iff_toNat_lt.1 h)
theorem VA {a b:UInt8} (h:a<b):¬b<a:=fun h'=>Nat.lt_asymm (UInt8.lt_iff_toNat_lt.1 h) (UInt8.lt_iff_toNat_lt.1 h')
theorem u8_trans {a b c:UInt8} (h:a<b) (h':b<c):a<c:=UInt8.lt_iff_toNat_lt.2 (Nat.lt_trans (UInt8.lt_iff_toNat_lt.1 h) (UInt8.lt_iff_toNat_lt.1 h'))
theorem Wz:∀a b:List UInt8,cmpB a b<0↔Op.bytesLess a b=true
 | [],[]=>by simp[cmpB,Lib.compareBytes,Op.bytesLess]
 | [],_::_=>by simp[cmpB,Lib.compareBytes,Op.bytesLess]
 | _::_,[]=>by simp[cmpB,Lib.compareBytes,Op.bytesLess]
 | a::x,b::y=>by
   have ih:=Wz x y
   unfold cmpB at ih ⊢
   rcases zbH a b with h | rfl | h
   ·simp[Lib.compareBytes,Op.bytesLess,h]
   ·simp[Lib.compareBytes,Op.bytesLess,Jt,ih]
   ·have hne:¬a=b:=fun e=>Jt b (e ▸ h)
    simp[Lib.compareBytes,Op.bytesLess,h,VA h,hne]
theorem yV:∀a b:List UInt8,cmpB a b=0↔a=b
 | [],[]=>by simp[cmpB,Lib.compareBytes]
 | [],_::_=>by simp[cmpB,Lib.compareBytes]
 | _::_,[]=>by simp[cmpB,Lib.compareBytes]
 | a::x,b::y=>by
   have ih:=yV x y
   unfold cmpB at ih ⊢
   rcases zbH a b with h | rfl | h
   ·have hne:¬a=b:=fun e=>Jt b (e ▸ h)
    simp[Lib.compareBytes,h,hne]
   ·simp[Lib.compareBytes,Jt,ih]
   ·have hne:¬a=b:=fun e=>Jt b (e ▸ h)
    simp[Lib.compareBytes,h,VA h,hne]
theorem vx:∀{a b c:List UInt8},Op.bytesLess a b=true→Op.bytesLess b c=true→Op.bytesLess a c=true
 | _,[],_,h,_=>by simp[Op.bytesLess] at h
 | _,_::_,[],_,h=>by simp[Op.bytesLess] at h
 | [],_::_,_::_,_,_=>by simp[Op.bytesLess]
 | a::x,b::y,c::z,h1,h2=>by
   simp only[Op.bytesLess,Bool.or_eq_true,decide_eq_true_eq,Bool.and_eq_true,beq_iff_eq] at h1 h2 ⊢
   rcases h1 with h1 | ⟨rfl,h1⟩
   ·rcases h2 with h2 | ⟨rfl,h2⟩
    ·exact .inl (u8_trans h1 h2)
    ·exact .inl h1
   ·rcases h2 with h2 | ⟨rfl,h2⟩
    ·exact .inl h2
    ·exact .inr ⟨rfl,vx h1 h2⟩
theorem kV:∀{a b:List UInt8},leB a b=false→Op.bytesLess b a=true
 | [],[],h=>by simp[leB] at h
 | [],_::_,h=>by simp[leB,Op.bytesLess] at h
 | _::_,[],_=>by simp[Op.bytesLess]
 | a::x,b::y,h=>by
   simp only[leB,Op.bytesLess,Bool.or_eq_false_iff,decide_eq_false_iff_not,Bool.and_eq_false_iff,beq_eq_false_iff_ne] at h
   obtain⟨⟨h1,h2⟩,h3⟩:=h
   simp only[Op.bytesLess,Bool.or_eq_true,decide_eq_true_eq,Bool.and_eq_true,beq_iff_eq]
   rcases zbH a b with g | rfl | g
   ·exact absurd g h1
   ·refine .inr ⟨rfl,kV ?_⟩
    rcases h2 with h2 | h2
    ·exact absurd rfl h2
    ·have:¬x=y:=fun e=>h3 (by rw[e])
     simp[leB,h2,this]
   ·exact .inl g
def bsGo (f:Nat→Bool) (lo hi:Nat):Nat:=if h:lo<hi then (if f ((lo+hi) / 2) then bsGo f ((lo+hi) / 2+1) hi else bsGo f lo ((lo+hi) / 2)) else lo
termination_by hi - lo
decreasing_by all_goals omega
theorem XR {f:Nat→Bool} {lo hi:Nat} (h:lo<hi):bsGo f lo hi=if f ((lo+hi) / 2) then bsGo f ((lo+hi) / 2+1) hi else bsGo f lo ((lo+hi) / 2):=by rw[bsGo,dif_pos h]
theorem zbI {f:Nat→Bool} {lo hi:Nat} (h:¬lo<hi):bsGo f lo hi=lo:=by rw[bsGo,dif_neg h]
theorem bsGo_spec {f:Nat→Bool} {n m:Nat} (hm:∀k,k<m→f k=true) (hn:∀k,m≤k→k<n→f k=false):∀{lo hi:Nat},lo≤m→m≤hi→hi≤n→bsGo f lo hi=m:=by
 intro lo hi
 induction lo,hi using bsGo.induct (f:=f) with
 | case1 lo hi hlt hf ih =>
   intro h1 h2 h3
   rw[bsGo,dif_pos hlt,if_pos hf]
   refine ih ?_ h2 h3
   apply Nat.succ_le_of_lt
   refine Nat.lt_of_not_le fun hle=>?_
   rw[hn _ hle (by omega)] at hf
   cases hf
 | case2 lo hi hlt hf ih =>
   intro h1 h2 h3
   rw[bsGo,dif_pos hlt,if_neg hf]
   refine ih h1 ?_ (by omega)
   refine Nat.le_of_not_lt fun hle=>?_
   exact hf (hm _ hle)
 | case3 lo hi hlt=>intro h1 h2 _;rw[bsGo,dif_neg hlt];omega
noncomputable def ZE (l:List (List UInt8)) (s:List UInt8) (k:Nat):Bool:=match l[k]? with
 | some x=>decide (cmpB x s<0)
 | none=>false
noncomputable def bsN (l:List (List UInt8)) (s:List UInt8):Nat×Bool:=(bsGo (ZE l s) 0 l.length,match l[bsGo (ZE l s) 0 l.length]? with
 | some x=>cmpB x s==0
 | none=>false)
theorem zbJ {l:List (List UInt8)} {s:List UInt8} (h:(bsN l s).2=true):l[(bsN l s).1]?=some s:=by
 unfold bsN at h ⊢
 simp only at h ⊢
 split at h
 ·rename_i x hx
  rw[hx,(yV x s).1 (by simpa using h)]
 ·cases h
theorem zbK {l:List (List UInt8)} {s:List UInt8} (h:(bsN l s).2=true):(bsN l s).1<l.length:=(List.getElem?_eq_some_iff.1 (zbJ h)).1
def UpN (l:List (List UInt8)):Prop:=l.Pairwise fun a b=>Op.bytesLess a b=true
theorem zbL (a:List UInt8):Op.bytesLess a a=false:=by
 cases h:Op.bytesLess a a with
 | false=>rfl
 | true =>
   have h1:=(Wz a a).2 h
   have h2:=(yV a a).2 rfl
   omega
theorem zdQ {l:List (List UInt8)} {s:List UInt8} (hl:UpN l) {j:Nat} (hj:l[j]?=some s):bsN l s=(j,true):=by
 obtain⟨hjl,hje⟩:=List.getElem?_eq_some_iff.1 hj
 have hg:bsGo (ZE l s) 0 l.length=j:=by
  refine bsGo_spec (n:=l.length) (fun k hk=>?_) (fun k hk hkl=>?_) (Nat.zero_le _) (Nat.le_of_lt hjl) (Nat.le_refl _)
  ·have:=List.pairwise_iff_getElem.1 hl k j (by omega) hjl hk
   rw[hje] at this
   simp[ZE,show k<l.length by omega,(Wz _ _).2 this]
  ·rcases Nat.lt_or_eq_of_le hk with h | rfl
   ·have:=List.pairwise_iff_getElem.1 hl j k hjl hkl h
    rw[hje] at this
    have h2:¬cmpB l[k] s<0:=fun h3=>by
     have:=vx this ((Wz _ _).1 h3)
     rw[zbL] at this
     cases this
    simp[ZE,hkl,h2]
   ·have h2:¬cmpB s s<0:=by rw[(yV s s).2 rfl];omega
    simp[ZE,hjl,hje,h2]
 unfold bsN
 rw[hg,hj]
 simp[(yV s s).2 rfl]
end Go.Proofs.YtdkfdoeijcfbhaaGreatDoor
