/-
slices.Insert of one cut ahead of the end.
Plain law: cuts laid in one by one, each once, are the cuts in order.
The reference's ranges: cuts laid into a row in order, each once.
The reference's ranges: two of them put together.
The abstract machine: a sequence cut at its middle.
-/
import Derived.Test.YtpeaooooimfihaaGreatDoorG25
import Derived.Test.YtpeaooooimfihaaGreatDoorG11
import Derived.Shelf.Spec.SlicesInsert
import Derived.Test.YtpeaooooimfihaaGreatDoorG24
import Derived.Test.YtpeaooooimfihaaGreatDoorG21
import Derived.Test.YtpeaooooimfihaaGreatDoorG10
set_option maxRecDepth 8000
namespace Go.Proofs.YtpeaooooimfihaaGreatDoor
open Go.Proofs.Tryz
open Go.RowKit Go.Lib Go.AM
attribute [local go_sem] Oper.semAt_some
set_option maxHeartbeats 4000000 in
set_option maxRecDepth 100000 in
theorem insC_shift (w:World) (g vb n i cap vc:Nat) (cur vcur:Array Value) (tv:TypeId) (hi:i<n) (hroom:n+1≤cap) (hc63:cap≤9223372036854775807) (hne:g≠vb) (hv1:1≤vc)
  (hg:w.heap[g]?=some (.cells cur 104 (0,0))) (hcs:cur.size=cap*5) (hv:w.heap[vb]?=some (.cells vcur tv (0,0))) (hvs:vcur.size=vc*5)
  (h1c:∀j v,j<n*5→cur[j]?=some v→v.oneCell'=true) (h1v:∀j v,j<5→vcur[j]?=some v→v.oneCell'=true) :
  Calls prog 168 #[.slice (some ⟨g,0,none⟩) n cap,.int .i64 i,.slice (some ⟨vb,0,none⟩) 1 vc] w fun e w' =>
   e=.returned (.slice (some ⟨g,0,none⟩) (n+1) cap)∧w'.heap[g]?=some (.cells (qH (qH cur.toList ((i+1)*5) ((cur.toList.take (n*5)).drop (i*5))) (i*5) (vcur.toList.take 5)).toArray 104 (0,0))∧Fr True w (fun b=>b=g) w':=by
 have t3:=underlying3;have a3:=isAgg3;have z3:=sizeOf3;have v3:=zeroValue3
 have t4:=underlying4;have a4:=isAgg4;have z4:=sizeOf4;have v4:=zeroValue4
 have t24:=underlying133;have a24:=isAgg133;have z24:=sizeOf133;have v24:=zeroValue133
 have t9:=underlying104;have a9:=isAgg104;have z9:=sizeOf104
 have u3:=run_underlying t3;have u4:=run_underlying t4;have u24:=run_underlying t24
 have hz2:¬((i:Int)=(n:Int)):=by omega
 have hov:∀o lb cb,(callFunc 204 #[.slice (some ⟨vb,0,none⟩) 1 vc,.slice (some ⟨g,o,none⟩) lb cb]).run prog w=.ok (.value (.bool false)) w:=fun o lb cb=>by
  rw[run_callFunc_extern func204 (by kernel_rfl) (by kernel_rfl) (by kernel_rfl) (e:=Extern.SlicesOverlaps.overlaps #[133,133] #[4]) (by kernel_rfl),
   Lib.run_overlaps_apart w 133 4 104 t24 5 z9 ⟨vb,0,none⟩ ⟨g,o,none⟩ 1 vc lb cb (fun e=>hne e.symm) _ _ _ _ (shape_row hv) (shape_row hg) (by rw[hcs];omega) (froz_row hv 0) (froz_row hv _)]
  rfl
 have mixed:prog.follows .mixedOrders=true:=by kernel_rfl
 have hw1:IntKind.i64.wrap ((i:Int)+1)=(i:Int)+1:=by rw[IntKind.wrap_i64];omega
 have hw2:IntKind.i64.wrap ((n:Int)+1)=(n:Int)+1:=by rw[IntKind.wrap_i64];omega
 have hb1:(0:Int)≤(i:Int)+1:=by omega
 have hb5:(0:Int)≤(n:Int)+1:=by omega
 have hin:i≤n:=by omega
 have htn:((i:Int)+1).toNat=i+1:=by omega
 have htn2:((n:Int)+1).toNat=n+1:=by omega
 have hb2:¬(cap=i+1):=by omega
 have hb3:(i:Int)≤(n:Int)+1:=by omega
 have hb4:¬(cap=i):=by omega
 have hb6:¬((cap:Int)<(n:Int)+1):=by omega
 have hs5:zS prog 104=some 5:=sz104
 obtain⟨cs,hcsd⟩:∃cs,(cur.toList.take (n*5)).drop (i*5)=cs:=⟨_,rfl⟩
 obtain⟨vs,hvsd⟩:∃vs,vcur.toList.take 5=vs:=⟨_,rfl⟩
 have hcl:cs.length=(n - i)*5:=by rw[←hcsd];simp;omega
 have hvl:vs.length=1*5:=by rw[←hvsd];simp;omega
 have hcget:∀j v,cs[j]?=some v→cur[i*5+j]?=some v∧i*5+j<n*5:=fun j v hj=>by
  rw[←hcsd,List.getElem?_drop,List.getElem?_take] at hj
  split at hj
  ·exact⟨by simpa using hj,by assumption⟩
  ·cases hj
 have hvget:∀j v,vs[j]?=some v→vcur[j]?=some v∧j<5:=fun j v hj=>by
  rw[←hvsd,List.getElem?_take] at hj
  split at hj
  ·exact⟨by simpa using hj,by assumption⟩
  ·cases hj
 have hc1:∀v∈cs,v.oneCell'=true:=fun v hv=>by
  obtain⟨j,hj⟩:=List.mem_iff_getElem?.1 hv
  obtain⟨a,b⟩:=hcget j v hj
  exact h1c _ v b a
 have hv1':∀v∈vs,v.oneCell'=true:=fun v hv=>by
  obtain⟨j,hj⟩:=List.mem_iff_getElem?.1 hv
  obtain⟨a,b⟩:=hvget j v hj
  exact h1v _ v b a
 obtain⟨row1,hrow1⟩:∃row1,qH cur.toList ((i+1)*5) cs=row1:=⟨_,rfl⟩
 have hr1l:row1.length=cap*5:=by rw[←hrow1,wg (by rw[hcl,Array.length_toList,hcs];omega),Array.length_toList,hcs]
 have hcp1:∀ty dc sc,(Builtin.copy_ #[133,133] ty #[.slice (some ⟨g,(i+1)*5,none⟩) (n - i) dc,.slice (some ⟨g,i*5,none⟩) (n+1 - i) sc]).run prog w.drew=.ok (goInt ((n - i:Nat):Int)) (w.drew.setRow g row1.toArray):=fun ty dc sc=>by
  rw[←hrow1]
  exact yU w.drew _ _ ty 104 5 (n - i) g ((i+1)*5) (n - i) dc ⟨g,i*5,none⟩ (n+1 - i) sc cur 104 cs t24 hs5 hg (by simp only[Nat.min_def];split<;>omega) hcl
   (fun j v hj=>by rw[Addr.add_lit];exact (cell_row hg _).trans (hcget j v hj).1) (by rw[hcl,hcs];omega) hc1
 have hcp2:∀(W:World),W.heap[g]?=some (.cells row1.toArray 104 (0,0))→W.heap[vb]?=some (.cells vcur tv (0,0))→∀ty dc,(Builtin.copy_ #[133,133] ty #[.slice (some ⟨g,i*5,none⟩) (n+1 - i) dc,.slice (some ⟨vb,0,none⟩) 1 vc]).run prog W=.ok (goInt ((1:Nat):Int)) (W.setRow g (qH row1 (i*5) vs).toArray):=fun W hWg hWv ty dc=>by
  have:=yU W 133 133 ty 104 5 1 g (i*5) (n+1 - i) dc ⟨vb,0,none⟩ 1 vc row1.toArray 104 vs t24 hs5 hWg (by simp only[Nat.min_def];split<;>omega) hvl
   (fun j v hj=>by rw[Addr.add_lit,Nat.zero_add];exact (cell_row hWv _).trans (hvget j v hj).1) (by rw[hvl,List.size_toArray,hr1l];omega) hv1'
  exact this
 have hWg:(w.drew.setRow g row1.toArray).heap[g]?=some (.cells row1.toArray 104 (0,0)):=setRow_heap _ _ _ _ _ _ hg
 have hWv:(w.drew.setRow g row1.toArray).heap[vb]?=some (.cells vcur tv (0,0)):=(ki _ (fun e=>hne e.symm)).trans hv
 have hfin:∀W,W=(w.drew.setRow g row1.toArray).setRow g (qH row1 (i*5) vs).toArray→W.heap[g]?=some (.cells (qH row1 (i*5) vs).toArray 104 (0,0))∧Fr True w (fun b=>b=g) W:=fun W e=>by
  subst e
  refine⟨setRow_heap _ _ _ _ _ _ hWg,?_⟩
  exact ((Fr.drew w (fun b=>b=g)).trans (fr_setRow w.drew g _) fun _ _ h=>h).trans (fr_setRow _ g _) fun _ _ h=>h
 rw[hcsd,hvsd,hrow1]
 clear hcsd hvsd hcl hvl hcget hvget hc1 hv1' hrow1 hr1l
 go_enter func168,Tryz.ntmps168
 go_wp2_with (simp only[hov])
 go_region_law_o (refine step_copy_runI rfl _ _ 133 133 rfl _ _ (by simp[Act.eval,Act.put]) (by simp[Act.eval,Act.put]) (hcp1 _ _ _) ?_)
 go_wp2_with (at_builtin;refine wpList_copy_runI _ rfl _ _ 133 133 rfl _ _ rfl rfl (hcp2 _ hWg hWv _ _) ?_)
 go_ret
 exact⟨rfl,hfin _ rfl⟩
set_option maxHeartbeats 4000000 in
set_option maxRecDepth 100000 in
theorem insC_grow (w:World) (g vb n i cap vc:Nat) (cur vcur:Array Value) (tv:TypeId) (hi:i<n) (hnc:n≤cap) (hroom:cap<n+1) (hbig:(n+1)*56≤140737488355328) (hv1:1≤vc)
  (hg:w.heap[g]?=some (.cells cur 104 (0,0))) (hcs:cur.size=cap*5) (hv:w.heap[vb]?=some (.cells vcur tv (0,0))) (hvs:vcur.size=vc*5)
  (h1c:∀j v,j<n*5→cur[j]?=some v→v.oneCell'=true) (h1v:∀j v,j<5→vcur[j]?=some v→v.oneCell'=true) :
  Calls prog 168 #[.slice (some ⟨g,0,none⟩) n cap,.int .i64 i,.slice (some ⟨vb,0,none⟩) 1 vc] w fun e w' =>
   ∃(G:Nat) (R:List Value),n+1≤G∧G≤maxLen∧R.length=G*5∧(∀j,j<i*5→R[j]?=(cur.toList.take (i*5))[j]?)∧e=.returned (.slice (some ⟨w.heap.size,0,none⟩) (n+1) G) ∧
    w'.heap[w.heap.size]?=some (.cells (qH (qH R (i*5) (vcur.toList.take 5)) ((i+1)*5) ((cur.toList.take (n*5)).drop (i*5))).toArray 104 (0,0))∧Fr True w (fun b=>b=w.heap.size) w':=by
 have t3:=underlying3;have a3:=isAgg3;have z3:=sizeOf3;have v3:=zeroValue3
 have t4:=underlying4;have a4:=isAgg4;have z4:=sizeOf4;have v4:=zeroValue4
 have t24:=underlying133;have a24:=isAgg133;have z24:=sizeOf133;have v24:=zeroValue133
 have t9:=underlying104;have a9:=isAgg104;have z9:=sizeOf104
 have u3:=run_underlying t3;have u4:=run_underlying t4;have u24:=run_underlying t24
 obtain⟨i0,z0,hi0,hz0,his,hib,hzc⟩:=info_all (P:=prog) sz104 by104 ze104 rfl
 have hz2:¬((i:Int)=(n:Int)):=by omega
 have hz3:(cap:Int)<(n:Int)+1:=by omega
 have mixed:prog.follows .mixedOrders=true:=by kernel_rfl
 have hw1:IntKind.i64.wrap ((i:Int)+1)=(i:Int)+1:=by rw[IntKind.wrap_i64];omega
 have hw2:IntKind.i64.wrap ((n:Int)+1)=(n:Int)+1:=by rw[IntKind.wrap_i64];omega
 have hw3:IntKind.i64.wrap ((n:Int)+1 - i)=(n:Int)+1 - i:=by rw[IntKind.wrap_i64];omega
 have hb1:(0:Int)≤(i:Int)+1:=by omega
 have hin:i≤n:=by omega
 have htn:((i:Int)+1).toNat=i+1:=by omega
 have hkk:(n:Int)+1 - (i:Int)=((n+1 - i:Nat):Int):=by omega
 have hik:i+(n+1 - i)=n+1:=by omega
 have hb3:(i:Int)≤(n:Int):=by omega
 have hbw:g<w.heap.size:=(Array.getElem?_eq_some_iff.1 hg).1
 have hvw:vb<w.heap.size:=(Array.getElem?_eq_some_iff.1 hv).1
 have hs5:zS prog 104=some 5:=sz104
 obtain⟨olds,hod⟩:∃olds,cur.toList.take (i*5)=olds:=⟨_,rfl⟩
 obtain⟨cs,hcsd⟩:∃cs,(cur.toList.take (n*5)).drop (i*5)=cs:=⟨_,rfl⟩
 obtain⟨vs,hvsd⟩:∃vs,vcur.toList.take 5=vs:=⟨_,rfl⟩
 have hol:olds.length=i*5:=by rw[←hod];simp;omega
 have hcl:cs.length=(n - i)*5:=by rw[←hcsd];simp;omega
 have hvl:vs.length=1*5:=by rw[←hvsd];simp;omega
 have hoget:∀j v,olds[j]?=some v→cur[j]?=some v:=fun j v hj=>by
  rw[←hod,List.getElem?_take] at hj
  split at hj
  ·simpa using hj
  ·cases hj
 have hcget:∀j v,cs[j]?=some v→cur[i*5+j]?=some v∧i*5+j<n*5:=fun j v hj=>by
  rw[←hcsd,List.getElem?_drop,List.getElem?_take] at hj
  split at hj
  ·exact⟨by simpa using hj,by assumption⟩
  ·cases hj
 have hvget:∀j v,vs[j]?=some v→vcur[j]?=some v∧j<5:=fun j v hj=>by
  rw[←hvsd,List.getElem?_take] at hj
  split at hj
  ·exact⟨by simpa using hj,by assumption⟩
  ·cases hj
 have hc1:∀v∈cs,v.oneCell'=true:=fun v hv=>by
  obtain⟨j,hj⟩:=List.mem_iff_getElem?.1 hv
  obtain⟨a,b⟩:=hcget j v hj
  exact h1c _ v b a
 have hv1':∀v∈vs,v.oneCell'=true:=fun v hv=>by
  obtain⟨j,hj⟩:=List.mem_iff_getElem?.1 hv
  obtain⟨a,b⟩:=hvget j v hj
  exact h1v _ v b a
 have hold:(Builtin.firstCells i0.size i (.slice (some ⟨g,0,none⟩) i cap)).run prog w.drew=.ok olds.toArray w.drew:=by
  rw[his]
  exact run_firstCells_some w.drew 5 i ⟨g,0,none⟩ i cap olds hol (fun j v hj=>by
   rw[Addr.add_lit,Nat.zero_add]
   exact (cell_row hg j).trans (hoget j v hj))
 obtain⟨G,hG⟩:∃G,grownCap w (n+1) cap 104=G:=⟨_,rfl⟩
 obtain⟨ROW,hROW⟩:∃ROW,olds.toArray++Builtin.zeroCells z0.cells (n+1 - i)++Builtin.zeroCells z0.cells (G - (n+1))=ROW:=⟨_,rfl⟩
 have hGn:n+1≤G:=by rw[←hG];exact grownCap_ge w _ _ _
 have hGm:G≤maxLen:=by rw[←hG];exact grownCap_le_maxLen w (n+1) cap 104 (by unfold maxLen;omega)
 have hrz:∀ty,(Builtin.append_ #[133,3] ty #[.slice (some ⟨g,0,none⟩) i cap,.int .i64 ((n:Int)+1 - (i:Int))]).run prog w =
   .ok (.slice (some ⟨w.heap.size,0,none⟩) (n+1) G) (w.drew.alloc (.cells ROW 104)):=fun ty=>by
  have h:=Lib.run_append_grow_zeros w 133 3 ty 104 i0 z0 .i64 .i64 t24 t3 hi0 hz0 (some ⟨g,0,none⟩) i cap olds hold (n+1 - i) (by omega) (by omega) (by omega) (by omega) (by rw[hib];omega) (by rw[hib,hik];exact growslice_fits hroom hbig)
  rw[hik,hG,hROW] at h
  rw[hkk]
  exact h
 have hRl:ROW.size=G*5:=by
  rw[←hROW,Array.size_append,Array.size_append,size_zeroCells,size_zeroCells,hzc,List.size_toArray,hol]
  omega
 have hRo:∀j,j<i*5→ROW.toList[j]?=olds[j]?:=fun j hj=>by
  rw[←hROW]
  rw[Array.toList_append,Array.toList_append,List.append_assoc]
  exact List.getElem?_append_left (show j<olds.length by omega)
 obtain⟨N,hN⟩:∃N,w.heap.size=N:=⟨_,rfl⟩
 obtain⟨W1,hW1⟩:∃W1,w.drew.alloc (.cells ROW 104)=W1:=⟨_,rfl⟩
 have hW1N:W1.heap[N]?=some (.cells ROW 104 (0,0)):=by rw[←hW1,←hN];exact alloc_new (w:=w.drew) _
 have hW1g:W1.heap[g]?=some (.cells cur 104 (0,0)):=by rw[←hW1];exact (alloc_old (w:=w.drew) _ hbw).trans hg
 have hW1v:W1.heap[vb]?=some (.cells vcur tv (0,0)):=by rw[←hW1];exact (alloc_old (w:=w.drew) _ hvw).trans hv
 obtain⟨row1,hrow1⟩:∃row1,qH ROW.toList (i*5) vs=row1:=⟨_,rfl⟩
 have hr1l:row1.length=G*5:=by rw[←hrow1,wg (by rw[hvl,Array.length_toList,hRl];omega),Array.length_toList,hRl]
 have hcpA:∀(W:World),W.heap[N]?=some (.cells ROW 104 (0,0))→W.heap[vb]?=some (.cells vcur tv (0,0))→∀ty dc,(Builtin.copy_ #[133,133] ty #[.slice (some ⟨N,i*5,none⟩) (n+1 - i) dc,.slice (some ⟨vb,0,none⟩) 1 vc]).run prog W=.ok (goInt ((1:Nat):Int)) (W.setRow N row1.toArray):=fun W hWg hWv ty dc=>by
  rw[←hrow1]
  have:=yU W 133 133 ty 104 5 1 N (i*5) (n+1 - i) dc ⟨vb,0,none⟩ 1 vc ROW 104 vs t24 hs5 hWg (by simp only[Nat.min_def];split<;>omega) hvl
   (fun j v hj=>by rw[Addr.add_lit,Nat.zero_add];exact (cell_row hWv _).trans (hvget j v hj).1) (by rw[hvl,hRl];omega) hv1'
  exact this
 have hcpB:∀(W:World),W.heap[N]?=some (.cells row1.toArray 104 (0,0))→W.heap[g]?=some (.cells cur 104 (0,0))→∀ty dc sc,(Builtin.copy_ #[133,133] ty #[.slice (some ⟨N,(i+1)*5,none⟩) (n - i) dc,.slice (some ⟨g,i*5,none⟩) (n - i) sc]).run prog W=.ok (goInt ((n - i:Nat):Int)) (W.setRow N (qH row1 ((i+1)*5) cs).toArray):=fun W hWg hWv ty dc sc=>by
  have:=yU W 133 133 ty 104 5 (n - i) N ((i+1)*5) (n - i) dc ⟨g,i*5,none⟩ (n - i) sc row1.toArray 104 cs t24 hs5 hWg (by simp only[Nat.min_def];split<;>omega) hcl
   (fun j v hj=>by rw[Addr.add_lit];exact (cell_row hWv _).trans (hcget j v hj).1) (by rw[hcl,List.size_toArray,hr1l];omega) hc1
  exact this
 have hgN:g≠N:=by omega
 have hvN:vb≠N:=by omega
 have hW2N:(W1.setRow N row1.toArray).heap[N]?=some (.cells row1.toArray 104 (0,0)):=setRow_heap _ _ _ _ _ _ hW1N
 have hW2g:(W1.setRow N row1.toArray).heap[g]?=some (.cells cur 104 (0,0)):=(ki _ hgN).trans hW1g
 have hfin:∀W:World,W.heap=((W1.setRow N row1.toArray).setRow N (qH row1 ((i+1)*5) cs).toArray).heap→W.os=w.os→W.tape=w.tape→W.output=w.output→w.drawn≤W.drawn→W.heap[N]?=some (.cells (qH row1 ((i+1)*5) cs).toArray 104 (0,0))∧Fr True w (fun b=>b=N) W:=fun W e1 e2 e3 e4 e5=>by
  refine⟨by rw[e1];exact setRow_heap _ _ _ _ _ _ hW2N,e2,e3,e4,?_,fun _=>e5,fun k hk hn=>?_⟩
  ·rw[e1,←hW1]
   rw[setRow_size,setRow_size,alloc_size]
   exact Nat.le_succ _
  ·rw[e1,ki _ hn,ki _ hn,←hW1]
   exact alloc_old (w:=w.drew) _ hk
 have hm1:G≤9223372036854775807:=by unfold maxLen at hGm;omega
 have hGi:¬(G=i):=by omega
 have hGim:¬(G=i+1):=by omega
 have hci:¬(cap=i):=by omega
 rw[hN,hcsd,hvsd,hod]
 rw[hN,hW1] at hrz
 clear hcsd hvsd hod hcl hvl hol hcget hvget hoget hc1 hv1' hold hG hROW hkk hik hi0 hz0 his hib hzc hr1l
 go_enter func168,Tryz.ntmps168
 go_wp2_with (first
  | (at_builtin;refine Lib.wpList_append_run _ rfl _ _ _ _ rfl _ _ rfl rfl _ _ (hrz _) ?_)
  | (at_builtin;refine wpList_copy_runI _ rfl _ _ 133 133 rfl _ _ rfl rfl (hcpA _ hW1N hW1v _ _) ?_)
  | (at_builtin;refine wpList_copy_runI _ rfl _ _ 133 133 rfl _ _ rfl rfl (hcpB _ hW2N hW2g _ _ _) ?_))
 go_region_law_o (refine step_copy_runI rfl _ _ 133 133 rfl (.slice (some ⟨N,(i+1)*5,none⟩) (n - i) (G - (i+1))) (.slice (some ⟨g,i*5,none⟩) (n - i) (cap - i)) (by simp[Act.eval,Act.put]) (by simp[Act.eval,Act.put]) (hcpB (W1.setRow N row1.toArray).drew hW2N hW2g 3 (G - (i+1)) (cap - i)) ?_)
 go_wp2
 go_ret
 subst hW1
 subst hrow1
 refine⟨G,ROW.toList,hGn,hGm,by simpa using hRl,hRo,rfl,?_⟩
 refine hfin _ ?_ ?_ ?_ ?_ ?_
 ·rfl
 ·rfl
 ·rfl
 ·rfl
 ·first | exact Nat.le_succ _ | exact Nat.le_trans (Nat.le_succ _) (Nat.le_succ _)
theorem insC_ok:InsOk prog 168 104 5 56:=by
 intro w g vb n i cap vc cur vcur tv hi hnc hcm hnm hbig hne hv1 hvm hg hcs hv hvs h1c h1v
 have hvl:(vcur.toList.take 5).length=5:=by simp;omega
 have hcl:((cur.toList.take (n*5)).drop (i*5)).length=(n - i)*5:=by simp;omega
 unfold maxLen at hcm
 by_cases hroom:n+1≤cap
 ·refine (insC_shift w g vb n i cap vc cur vcur tv hi hroom hcm hne hv1 hg hcs hv hvs h1c h1v).mono fun e w' hh=>?_
  obtain⟨rfl,h1,h2⟩:=hh
  refine⟨g,cap,_,hroom,by unfold maxLen;exact hcm,rfl,.inl rfl,h1,?_,h2,fun j hj=>?_⟩
  ·rw[List.size_toArray,wg (by rw[wg (by rw[hcl,Array.length_toList,hcs];omega),hvl,Array.length_toList,hcs];omega),wg (by rw[hcl,Array.length_toList,hcs];omega),Array.length_toList,hcs]
  ·have:=shift_get (l:=cur.toList) (vs:=vcur.toList.take 5) (n:=n) (i:=i) (s:=5) (by omega) (by rw[Array.length_toList,hcs];omega) hvl j hj
   simpa using this
 ·refine (insC_grow w g vb n i cap vc cur vcur tv hi hnc (by omega) hbig hv1 hg hcs hv hvs h1c h1v).mono fun e w' hh=>?_
  obtain⟨G,R,g1,g2,g3,g4,rfl,h1,h2⟩:=hh
  have hol:(cur.toList.take (i*5)).length=i*5:=by simp;omega
  have e1:(i+1)*5=i*5+(vcur.toList.take 5).length:=by rw[hvl];omega
  rw[e1] at h1
  refine⟨w.heap.size,G,_,g1,g2,rfl,.inr (Nat.le_refl _),h1,?_,h2,fun j hj=>?_⟩
  ·rw[List.size_toArray,wg (by rw[wg (by rw[hvl];omega),hcl,hvl];omega),wg (by rw[hvl];omega),g3]
  ·have:=grow_get (R:=R) (olds:=cur.toList.take (i*5)) (vs:=vcur.toList.take 5) (cs:=(cur.toList.take (n*5)).drop (i*5)) (I:=i*5) hol g4 (by rw[hvl,hcl,g3];omega) j (by rw[hvl,hcl];omega)
   simpa using this
end Go.Proofs.YtpeaooooimfihaaGreatDoor
namespace Go.Proofs.YtpeaooooimfihaaGreatDoor
open Go.Proofs.Tryz
open Go.RowKit Go.AM
noncomputable def insC (c:Cut):List Cut→List Cut
 | []=>[c]
 | a::l=>if cmpC a c<0 then a::insC c l else if cmpC a c=0 then a::l else c::a::l
theorem insC_at (c:Cut):∀(l:List Cut) (i:Nat),i≤l.length→(∀j (h:j<l.length),j<i→cmpC l[j] c<0)→(∀h:i<l.length,¬cmpC l[i] c<0)→((∃h:i<l.length,cmpC l[i] c=0)→insC c l=l)∧((∀h:i<l.length,cmpC l[i] c≠0)→insC c l=l.take i++c::l.drop i)
 | [],i,hi,_,_=>by
   obtain rfl:i=0:=by simpa using hi
   exact⟨fun⟨h,_⟩=>absurd h (by simp),fun _=>rfl⟩
 | a::l,0,_,_,h2=>by
   have h:=h2 (by simp)
   simp only[List.getElem_cons_zero] at h
   refine⟨fun⟨_,e⟩=>?_,fun hn=>?_⟩
   ·simp only[List.getElem_cons_zero] at e
    simp only[insC]
    rw[if_neg h,if_pos e]
   ·have:=hn (by simp)
    simp only[List.getElem_cons_zero] at this
    simp only[insC]
    rw[if_neg h,if_neg this]
    rfl
 | a::l,i+1,hi,h1,h2=>by
   have ha:=h1 0 (by simp) (by omega)
   simp only[List.getElem_cons_zero] at ha
   obtain⟨k1,k2⟩:=insC_at c l i (by simpa using hi) (fun j hj hji=>h1 (j+1) (by simpa using hj) (by omega)) (fun h=>h2 (by simpa using h))
   simp only[insC]
   rw[if_pos ha]
   refine⟨fun⟨h,e⟩=>?_,fun hn=>?_⟩
   ·rw[k1 ⟨by simpa using h,e⟩]
   ·rw[k2 fun h=>hn (by simpa using h)]
    rfl
theorem insC_mem {c:Cut}:∀{l:List Cut},(∀a∈l,cmpC a c=0→a=c)→∀x,x∈insC c l↔x=c∨x∈l
 | [],_,x=>by simp[insC]
 | a::l,h,x=>by
   simp only[insC]
   split
   ·rw[List.mem_cons,insC_mem (fun b hb=>h b (by simp[hb])) x,List.mem_cons]
    constructor
    ·rintro (h | h | h)
     ·exact .inr (.inl h)
     ·exact .inl h
     ·exact .inr (.inr h)
    ·rintro (h | h | h)
     ·exact .inr (.inl h)
     ·exact .inl h
     ·exact .inr (.inr h)
   ·split
    ·rename_i e
     have:=h a (by simp) e
     subst this
     simp
    ·simp
theorem insC_sorted {c:Cut}:∀{l:List Cut},(l.Pairwise fun a b=>cmpC a b<0)→(∀a∈l,cmpC a c=0→a=c)→(insC c l).Pairwise fun a b=>cmpC a b<0
 | [],_,_=>by simp[insC]
 | a::l,h,he=>by
   obtain⟨h1,h2⟩:=List.pairwise_cons.1 h
   simp only[insC]
   split
   ·rename_i hac
    refine List.pairwise_cons.2 ⟨fun x hx=>?_,insC_sorted h2 fun b hb=>he b (by simp[hb])⟩
    rcases (insC_mem (fun b hb=>he b (by simp[hb])) x).1 hx with rfl | hx
    ·exact hac
    ·exact h1 x hx
   ·rename_i hac
    split
    ·exact h
    ·rename_i hne
     have hca:cmpC c a<0:=by
      have:=cmpC_to.notlt hac
      rcases Int.lt_or_eq_of_le this with h | h
      ·exact h
      ·exact absurd ((cmpC_to.eq a c).2 h) hne
     refine List.pairwise_cons.2 ⟨fun x hx=>?_,h⟩
     rcases List.mem_cons.1 hx with rfl | hx
     ·exact hca
     ·exact cmpC_to.trans hca (h1 x hx)
noncomputable def wC (l:List Cut):List Cut:=l.foldl (fun o c=>insC c o) []
theorem insAll_spec:∀(l o:List Cut),(∀a∈l,a.good)→(∀a∈o,a.good)→(o.Pairwise fun a b=>cmpC a b<0)→((l.foldl (fun o c=>insC c o) o).Pairwise fun a b=>cmpC a b<0)∧∀x,x∈l.foldl (fun o c=>insC c o) o↔x∈l∨x∈o
 | [],o,_,_,ho=>⟨ho,fun x=>by simp⟩
 | c::l,o,hl,hg,ho=>by
   have hc:=hl c (by simp)
   have he:∀a∈o,cmpC a c=0→a=c:=fun a ha h=>cmpC_eq (hg a ha) hc h
   have hm:=insC_mem (l:=o) he
   obtain⟨h1,h2⟩:=insAll_spec l (insC c o) (fun a ha=>hl a (by simp[ha])) (fun a ha=>by
    rcases (hm a).1 ha with rfl | h
    ·exact hc
    ·exact hg a h) (insC_sorted ho he)
   simp only[List.foldl_cons]
   refine⟨h1,fun x=>?_⟩
   rw[h2 x,hm x,List.mem_cons]
   constructor
   ·rintro (h | h | h)
    ·exact .inl (.inr h)
    ·exact .inl (.inl h)
    ·exact .inr h
   ·rintro ((h | h) | h)
    ·exact .inr (.inl h)
    ·exact .inl h
    ·exact .inr (.inr h)
theorem insAll_len:∀(l o:List Cut),(l.foldl (fun o c=>insC c o) o).length≤o.length+l.length
 | [],o=>by simp
 | c::l,o=>by
   have key:∀o:List Cut,(insC c o).length≤o.length+1:=by
    intro o
    induction o with
    | nil=>simp[insC]
    | cons a o ih =>
      simp only[insC]
      split
      ·simp only[List.length_cons];omega
      ·split<;>simp
   have:=insAll_len l (insC c o)
   have:=key o
   simp only[List.foldl_cons,List.length_cons]
   omega
theorem insAll_eq {a b:List Str} (ha:goodR a) (hb:goodR b):wC (zI (a++b))=cutsU a b:=by
 rw[yR]
 have hg:∀c∈zI a++zI b,c.good:=fun c hc=>by
  rcases List.mem_append.1 hc with h | h
  ·exact cuts_good ha c h
  ·exact cuts_good hb c h
 obtain⟨h1,h2⟩:=insAll_spec (zI a++zI b) [] hg (fun a ha=>by cases ha) .nil
 refine sorted_eq _ _ h1 (vA ha hb) fun c=>?_
 unfold wC
 rw[h2 c,vy,List.mem_append]
 simp
theorem comb_ins (f:Bool→Bool→Bool) {a b:List Str} (ha:goodR a) (hb:goodR b):wO f a b=(swL (fun c=>f (covA a c) (covA b c)) (wC (zI (a++b))) (false,[])).2:=by
 rw[insAll_eq ha hb]
 unfold wO cutsU
 rw[swL_uniq]
theorem insF_call {hp:Hp} {nx e s by_ i:Nat} {v:PV} {xs:List (List PV)} {c:List PV} (h:OwnS hp nx e s v xs) (hi:i<xs.length) (hb:(xs.length+1)*by_≤140737488355328) (hm:xs.length+1≤maxLen) :
  hInsF e s by_ [v,int i,.own nx 0 1] (upd hp nx (some ⟨e,s,true,[c]⟩)) (nx+1)=some (.own (nx+1) 0 (xs.length+1),upd (killV v (upd hp nx (some ⟨e,s,true,[c]⟩))) (nx+1) (some ⟨e,s,true,xs.take i++c::xs.drop i⟩),nx+2):=by
 obtain⟨id,hid,rfl,hh⟩:=h.at_ (by omega)
 have n1:id≠nx:=by omega
 have hh':upd hp nx (some ⟨e,s,true,[c]⟩) id=some ⟨e,s,true,xs⟩:=by rw[qd _ _ _ _ n1];exact hh
 have hi':(i:Int)<xs.length:=by omega
 unfold hInsF
 simp only[hh',zQ]
 rw[if_pos (by refine⟨n1,?_,?_,?_,?_,?_,?_,?_,hi',hb,hm⟩<;>first | trivial | rfl | omega)]
 simp[killV]
theorem insF_end {hp:Hp} {nx e s by_:Nat} {v:PV} {xs:List (List PV)} {b:Option Blk} (h:OwnS hp nx e s v xs):hInsF e s by_ [v,int (xs.length:Nat),.own nx 0 1] (upd hp nx b) (nx+1)=none:=by
 rcases h with⟨rfl,rfl⟩ | ⟨id,hid,rfl,hh⟩
 ·rfl
 ·unfold hInsF
  simp only
  split
  ·split
   ·rw[if_neg (fun hk=>by have:=hk.2.2.2.2.2.2.2.2.1;omega)]
   ·rfl
  ·rfl
theorem insC_end {hp:Hp} {nx:Nat} {v:PV} {xs:List (List PV)} {c:List PV} (h:OwnS hp nx 104 5 v xs) (hm:xs.length≤4194304) :
  hRun C0 f168 [v,int (xs.length:Nat),.own nx 0 1] (upd hp nx (some ⟨104,5,true,[c]⟩)) (nx+1)=some (.own (nx+1) 0 (xs.length+1),upd (killV v (upd hp nx (some ⟨104,5,true,[c]⟩))) (nx+1) (some ⟨104,5,true,xs++[c]⟩),nx+2):=by
 unfold hRun
 rw[if_pos (by simp[f168])]
 refine ji rfl ?_
 have hap:=OwnS.append1 (P:=prog) (t:=133) (c:=c) h el133 sz104 by104 ze104 rfl (by omega) (by unfold maxLen;omega) (by omega)
 rcases h with⟨rfl,rfl⟩ | ⟨id,hid,rfl,hh⟩
 ·simp at hap
  simp[qS,hap,f168]
 ·have n1:¬id=nx:=by omega
  simp[qS,hap,hh,n1,f168]
noncomputable abbrev insCS:AM.Spec:=hIns C0 f168 104 5 56
set_option maxRecDepth 100000 in
theorem insCS_sound:za prog 168 insCS :=
 hIns_sound (hInsF_sound ⟨_,func168,by decide,by kernel_rfl⟩ sz104 (by decide) insC_ok) (wx (code:=_) wT ⟨func168,by kernel_rfl,rfl,by kernel_rfl⟩)
theorem insCS_call {hp:Hp} {nx i:Nat} {v:PV} {xs:List (List PV)} {c:List PV} (h:OwnS hp nx 104 5 v xs) (hi:i≤xs.length) (hm:xs.length≤4194304) :
  insCS [v,int i,.own nx 0 1] (upd hp nx (some ⟨104,5,true,[c]⟩)) (nx+1)=some (.own (nx+1) 0 (xs.length+1),upd (killV v (upd hp nx (some ⟨104,5,true,[c]⟩))) (nx+1) (some ⟨104,5,true,xs.take i++c::xs.drop i⟩),nx+2):=by
 unfold insCS hIns
 by_cases hlt:i<xs.length
 ·rw[insF_call h hlt (by omega) (by unfold maxLen;omega)]
 ·obtain rfl:i=xs.length:=by omega
  rw[insF_end h]
  simp only
  rw[insC_end h hm,List.take_length,List.drop_length]
noncomputable def insR (l:List Cut):Option Blk:=if wC l=[] then none else some ⟨104,5,true,zU (wC l)⟩
noncomputable abbrev Crsc:Ctx:=zF prog [(167,zC [.g cpat,.g cpat] (FCC fun v w=>int (cmpC v w))),(168,insCS)]
theorem goodrsc:AM.Good Crsc (fun g=>[167].contains g):=zm mixed ⟨yd,fun _=>qq _ _,insCS_sound,by simp,trivial⟩
theorem insAll_take {l:List Cut} {k:Nat} (h:k<l.length):wC (l.take (k+1))=insC l[k] (wC (l.take k)):=by
 unfold wC
 rw[List.take_succ_eq_append_getElem h,List.foldl_append]
 rfl
theorem insC_sub {c:Cut}:∀{l:List Cut} {x:Cut},x∈insC c l→x=c∨x∈l
 | [],x,h=>by simp only[insC,List.mem_singleton] at h;exact .inl h
 | a::l,x,h=>by
   simp only[insC] at h
   split at h
   ·rcases List.mem_cons.1 h with rfl | h
    ·exact .inr (by simp)
    ·exact (insC_sub h).imp id fun h=>by simp[h]
   ·split at h
    ·exact .inr h
    ·rcases List.mem_cons.1 h with rfl | h
     ·exact .inl rfl
     ·exact .inr h
theorem insAll_sub:∀{l o:List Cut} {x:Cut},x∈l.foldl (fun o c=>insC c o) o→x∈l∨x∈o
 | [],o,x,h=>.inr h
 | c::l,o,x,h=>by
   rw[List.foldl_cons] at h
   rcases insAll_sub h with h | h
   ·exact .inl (by simp[h])
   ·rcases insC_sub h with rfl | h
    ·exact .inl (by simp)
    ·exact .inr h
theorem insC_ne (c:Cut) (l:List Cut):insC c l≠[]:=by
 cases l with
 | nil=>simp[insC]
 | cons a l=>simp only[insC];split<;>(try split)<;>simp
theorem insAll_ne {l:List Cut} (h:wC l=[]):l.length=0:=by
 cases hl:l.length with
 | zero=>rfl
 | succ k =>
   have hk:k<l.length:=by omega
   have:=insAll_take hk
   rw[List.take_of_length_le (by omega),h] at this
   exact absurd this.symm (insC_ne _ _)
theorem encCs_len (l:List Cut):(zU l).length=l.length:=by simp[zU]
theorem encCs_ins (o:List Cut) (i:Nat) (c:Cut):(zU o).take i++c.enc::(zU o).drop i=zU (o.take i++c::o.drop i):=by simp[zU]
set_option maxHeartbeats 4000000 in
theorem rsorted_eval (l:List Cut) (hs:∀c∈l,c.v.small) (hl:l.length≤4194304):∃x hp nx,qj Crsc f124 [.sl 5 (zU l)] (fun _=>none) 0=some (x,hp,nx)∧OwnRN cpat (insR l) x hp nx:=by
 refine zN rfl ?_
 have hel:=encCs_len l
 simp[hel]
 refine zy (fun k σ hp nx=>σ 7=.sl 5 (zU l)∧σ 8=int l.length∧σ 9=int k∧OwnS hp nx 104 5 (σ 3) (zU (wC (l.take k)))∧(k=0→σ 3=.nil)) l.length
  ⟨by simp,by simp,by simp,.inl ⟨by simp,by simp[wC,zU]⟩,by simp⟩ ?_
 rintro k σ hp nx hk ⟨h7,h8,h9,hO,h0⟩
 have hol:=insAll_len (l.take k) []
 have hall:wC (l.take k)=(l.take k).foldl (fun o c=>insC c o) []:=rfl
 rw[←hall,List.length_nil,List.length_take] at hol
 have hosm:∀x∈wC (l.take k),x.v.small:=fun x hx=>by
  rw[hall] at hx
  rcases insAll_sub hx with h | h
  ·exact hs x (List.mem_of_mem_take h)
  ·cases h
 by_cases hlt:k<l.length
 ·obtain⟨c,hc⟩:∃c,l[k]=c:=⟨_,rfl⟩
  have hcs:c.v.small:=hs c (by rw[←hc];exact List.getElem_mem hlt)
  have hke:∀h:k<(zU l).length,(zU l)[k]=c.enc:=fun h=>by simp[zU,hc]
  have hwk:IntKind.i64.wrap ((k:Int)+1)=(k:Int)+1:=zh (by omega) (by omega)
  have htk:=insAll_take hlt
  rw[hc] at htk
  obtain⟨o,ho⟩:∃o,wC (l.take k)=o:=⟨_,rfl⟩
  rw[ho] at hO hol hosm htk
  have heo:=encCs_len o
  obtain⟨P,hP⟩:∃P,nx=P:=⟨_,rfl⟩
  obtain⟨v,hv⟩:∃v,σ 3=v:=⟨_,rfl⟩
  rw[hv] at hO
  simp only[Cut.enc] at hke
  simp[h7,h8,h9,hlt,hel,hke]
  rw[hP] at hO ⊢
  refine zy (fun i σ hp nx=>σ 7=.sl 5 (zU l)∧σ 8=int l.length∧σ 9=int k∧σ 3=v∧σ 5=.ref P 0 0∧σ 6=int i∧P<nx∧hp P=some ⟨104,5,false,[c.enc]⟩∧OwnS hp nx 104 5 v (zU o)∧∀j (h:j<o.length),j<i→cmpC o[j] c<0) o.length
   ⟨by simp[h7],by simp[h8],by simp[h9],by simp[hv],by simp,by simp,(by show P<P+1;omega),by simp[Cut.enc],hO.more _,fun j _ h=>absurd h (by omega)⟩ ?_
  clear h7 h8 h9 h0 hv hO σ hp hP nx
  rintro i σ hp nx hi ⟨h7,h8,h9,h3,h5,h6,hPn,bP,hO,hbef⟩
  have hwi:IntKind.i64.wrap ((i:Int)+1)=(i:Int)+1:=zh (by omega) (by omega)
  have hlen:=hO.len el133
  rw[heo] at hlen
  simp only[Cut.enc] at bP
  have nP:¬P=nx:=by omega
  have hins:=fun (hi:i≤o.length)=>insCS_call (i:=i) (c:=[int c.v.a,int c.v.b,int c.v.c,.sl 1 (encT c.v.pre),boo c.after]) hO (by rw[heo];exact hi) (by rw[heo];omega)
  rw[heo] at hins
  have hrow:=encCs_ins o i c
  simp only[Cut.enc] at hrow
  rw[hrow] at hins
  have hfin:∀o',insC c o=o'→wC (l.take (k+1))=o':=fun o' e=>by rw[htk,e]
  by_cases hit:i<o.length
  ·obtain⟨id,hid,hve,hb⟩:=hO.at_ (by rw[heo];omega)
   obtain⟨q,hq⟩:∃q,o[i]=q:=⟨_,rfl⟩
   have hqs:q.v.small:=hosm q (by rw[←hq];exact List.getElem_mem hit)
   have hoe:∀h:i<(zU o).length,(zU o)[i]=q.enc:=fun h=>by simp[zU,hq]
   have hcc:=fun hp nx=>vR q c hp nx hqs hcs
   simp only[Cut.enc] at hoe hcc
   have hat:=insC_at c o i (by omega) hbef
   by_cases hlt2:cmpC q c<0
   ·subst hve
    simp[h7,h8,h9,h3,h5,h6,hlen,heo,hit,hb,hoe,bP,hcc,hlt2,hwi]
    have hbef':∀j (h:j<o.length),j<i+1→cmpC o[j] c<0:=fun j h hj=>by
     rcases Nat.lt_or_ge j i with h1 | h1
     ·exact hbef j h h1
     ·obtain rfl:j=i:=by omega
      rw[hq];exact hlt2
    exact⟨by omega,hPn,rfl,(by rw[heo] at hO;exact hO),hbef'⟩
   ·have hat':=hat fun _=>by rw[hq];exact hlt2
    by_cases hz:cmpC q c=0
    ·have h1:=hat'.1 ⟨hit,by rw[hq];exact hz⟩
     have hi1:((i:Int)==o.length)=false:=by rw[beq_eq_false_iff_ne];omega
     subst hve
     simp[h7,h8,h9,h3,h5,h6,hlen,heo,hit,hb,hoe,bP,hcc,hlt2,hz,hi1,hwk]
     exact⟨hlt,by rw[hfin _ h1];rw[heo] at hO;exact hO⟩
    ·have h1:=hat'.2 fun _=>by rw[hq];exact hz
     have hz':(cmpC q c != 0)=true:=by simpa using hz
     have hi1:((i:Int)==o.length)=false:=by rw[beq_eq_false_iff_ne];omega
     have hins':=hins (by omega)
     subst hve
     rw[heo] at hins'
     have hl9:(zU (o.take i++c::o.drop i)).length=o.length+1:=by rw[encCs_len];simp;omega
     simp[h7,h8,h9,h3,h5,h6,hlen,heo,hit,hb,hoe,bP,hcc,hlt2,hz,hz',hi1,hins',nP,hwk,zd,zl,zc]
     exact⟨hlt,by rw[hfin _ h1];exact .inr ⟨nx+1,by omega,by rw[hl9],by simp⟩⟩
  ·obtain rfl:i=o.length:=by omega
   have h1:=(insC_at c o o.length (Nat.le_refl _) hbef (fun h=>absurd h (by omega))).2 (fun h=>absurd h (by omega))
   have hins':=hins (Nat.le_refl _)
   simp[h7,h8,h9,h3,h5,h6,hlen,heo,bP,hins',nP,hwk,zd,zl,zc]
   rw[List.take_length,List.drop_length] at h1
   have hl9:(zU (o++[c])).length=o.length+1:=by rw[encCs_len];simp
   exact⟨hlt,by rw[hfin _ h1];exact .inr ⟨nx+1,by omega,by rw[hl9],by simp⟩⟩
 ·obtain rfl:k=l.length:=by omega
  rw[List.take_length] at hO
  simp[h7,h8,h9,f124]
  unfold insR
  rcases hO with⟨e1,e2⟩ | ⟨id,hid,e1,e2⟩
  ·have:wC l=[]:=by simpa[zU] using e2
   rw[if_pos this]
   exact e1
  ·by_cases hz:wC l=[]
   ·rw[if_pos hz]
    exact h0 (insAll_ne hz)
   ·rw[if_neg hz]
    exact⟨id,_,e1,e2,rfl,by simp[fixB,zU,Cut.enc]⟩
noncomputable def FSc:List PV→Option (Option Blk):=zH (α:=List Cut) (fun l=>[.sl 5 (zU l)]) (fun l=>(∀c∈l,c.v.small)∧l.length≤4194304) insR
theorem cuenc_row {a b:List Cut} (h:zU a=zU b):a=b:=ve (fun _ _ e=>jj e) h
theorem sc_inj:∀a b:List Cut,[PV.sl 5 (zU a)]=[PV.sl 5 (zU b)]→a=b:=fun a b e=>by
 simp only[List.cons.injEq,and_true] at e
 injection e with _ e
 exact cuenc_row e
set_option maxRecDepth 100000 in
theorem rsorted_sound:za prog 124 (wF [.s 5 cpat] FSc) :=
 kE (fn:=f124) goodrsc ⟨_,func124,by kernel_rfl,rfl,by kernel_rfl⟩ _ cpat _ fun args r h=>by
  obtain⟨l,rfl,⟨h1,h2⟩,rfl⟩:=ze h
  exact⟨by simp[f124],rsorted_eval l h1 h2⟩
theorem cpat_fix (l:List Cut):(zU l).map (fixC cpat)=zU l:=by simp[zU,Cut.enc]
theorem rsorted_call {hp:Hp} {nx:Nat} {v:PV} {l:List Cut} (h:OwnS hp nx 104 5 v (zU l)) (hs:∀c∈l,c.v.small) (hl:l.length≤4194304) :
  ∃x hp' nx',wF [.s 5 cpat] FSc [v] hp nx=some (x,hp',nx')∧OwnS hp' nx' 104 5 x (zU (wC l))∧nx≤nx':=by
 have hF:∀y hp1,zA hp v=some (y,hp1)→(Sh.s 5 cpat).fix y=.sl 5 (zU l)→∃x hp' nx',wF [.s 5 cpat] FSc [v] hp nx=some (x,hp',nx')∧OwnS hp' nx' 104 5 x (zU (wC l))∧nx≤nx':=by
  intro y hp1 e1 e2
  have hfr:zi hp [v]=some ([y],hp1):=by simp only[zi,e1]
  have hf:FSc (fixL [.s 5 cpat] (ql [] [y]))=some (insR l):=by
   show FSc [(Sh.s 5 cpat).fix y]=_
   rw[e2]
   exact zn (enc:=fun l:List Cut=>[PV.sl 5 (zU l)]) (a:=l) sc_inj ⟨hs,hl⟩
  unfold wF qT
  simp only[hfr,hf]
  unfold insR
  by_cases hz:wC l=[]
  ·rw[if_pos hz]
   exact⟨.nil,hp1,nx,rfl,.inl ⟨rfl,by rw[hz];rfl⟩,Nat.le_refl _⟩
  ·rw[if_neg hz]
   exact⟨_,_,_,rfl,.inr ⟨nx,by omega,rfl,by simp⟩,by omega⟩
 rcases h with⟨rfl,h0⟩ | ⟨id,h1,rfl,h2⟩
 ·exact hF .nil hp rfl (by rw[h0];rfl)
 ·exact hF (.sl 5 (zU l)) (upd hp id none) (by simp[h2]) (by rw[Sh.fix_s,cpat_fix])
theorem catR_call {a b:List Str} (ha:a.length≤lim) (hb:b.length≤lim) {hp:Hp} {nx id e:Nat} (h:hp id=some ⟨e,1,true,[[.sl 11 (encR a)],[.sl 11 (encR b)]]⟩) :
  zf true [] catRF [.own id 0 2] hp nx=some (.sl 11 (encR (a++b)),upd hp id none,nx):=by
 have hF:catRF [.sl 1 [[.sl 11 (encR a)],[.sl 11 (encR b)]]]=some (.sl 11 (encR (a++b))):=by
  unfold catRF FCatR
  exact zn (enc:=fun a:List Str×List Str=>[PV.sl 1 [[.sl 11 (a.1.map Str.enc)],[.sl 11 (a.2.map Str.enc)]]]) (a:=(a,b)) (fun x y e=>by
   obtain⟨x1,x2⟩:=x
   obtain⟨y1,y2⟩:=y
   simp only[List.cons.injEq,and_true] at e
   injection e with _ e
   simp only[List.cons.injEq,and_true] at e
   obtain⟨e1,e2⟩:=e
   injection e1 with _ e1
   injection e2 with _ e2
   rw[yq e1,yq e2]) ⟨ha,hb⟩
 simp[zf,zi,zA,zV,h,ql,hF,PV.flat,PV.noOwn]
noncomputable abbrev Ctog:Ctx:=zF prog [(123,zf true [] catRF),(124,wF [.s 5 cpat] FSc),(126,zC [.s 11 spat,.g cpat] (FRC fun l c=>boo (covA l c))),(125,zf false [] FTk)]
theorem goodtog:AM.Good Ctog (fun g=>[126,125].contains g):=zm mixed ⟨concatR_sound,by simp,rsorted_sound,by simp,rcovers_sound,fun _=>qq _ _,takes_sound,fun _=>zg _ _,trivial⟩
set_option maxHeartbeats 4000000 in
theorem rtog_eval (w:Int) (a b:List Str) (ha:qW a) (hb:qW b) (hga:goodR a) (hgb:goodR b) :
  ∃x hp nx,qj Ctog f79 [int w,.sl 11 (encR a),.sl 11 (encR b)] (fun _=>none) 0=some (x,hp,nx)∧OwnRN spat (vv (kP w) a b) x hp nx:=by
 refine zN rfl ?_
 have hsa:=ha
 have hsb:=hb
 obtain⟨ha1,ha2⟩:=ha
 obtain⟨hb1,hb2⟩:=hb
 have hcat:=fun hp nx id e h=>catR_call ha1 hb1 (hp:=hp) (nx:=nx) (id:=id) (e:=e) h
 unfold lim at ha1 hb1
 have hins:=comb_ins (kP w) hga hgb
 obtain⟨l,hl⟩:∃l,a++b=l:=⟨_,rfl⟩
 rw[hl] at hins hcat
 have hll:l.length≤2097152:=by rw[←hl];simp;omega
 have hlsm:∀s∈l,s.small:=fun s hs=>by
  rw[←hl] at hs
  rcases List.mem_append.1 hs with h | h
  ·exact ha2 s h
  ·exact hb2 s h
 have hel:(encR l).length=l.length:=by simp[encR]
 have hcat':=hcat (upd (fun _=>none) 0 (some ⟨69,1,true,[[.sl 11 (encR a)],[.sl 11 (encR b)]]⟩)) 1 0 69 (by simp)
 simp[zd,zl,zc,hcat',hel]
 refine zy (fun k σ hp nx=>σ 0=int w∧σ 1=.sl 11 (encR a)∧σ 2=.sl 11 (encR b)∧OwnS hp nx 104 5 (σ 7) (zU (zI (l.take k))) ∧
   σ 18=.sl 11 (encR l)∧σ 19=int l.length∧σ 20=int k) l.length
   ⟨by simp,by simp,by simp,.inl ⟨by simp,by simp[zI,zU]⟩,by simp,by simp,by simp⟩ ?_
 rintro k σ hp nx hk ⟨h0,h1,h2,hO,h25,h26,h27⟩
 by_cases hltk:k<l.length
 ·have hwk:IntKind.i64.wrap ((k:Int)+1)=(k:Int)+1:=zh (by omega) (by omega)
  have hke:∀h:k<(encR l).length,(encR l)[k]=l[k].enc:=fun h=>by simp[encR]
  have hcn:=yr (l.take k)
  rw[List.length_take] at hcn
  have hct:=cuts_take hltk
  obtain⟨xs,hxs⟩:∃xs,zU (zI (l.take k))=xs:=⟨_,rfl⟩
  have hxl:xs.length≤4194304:=by rw[←hxs];simp[zU];omega
  rw[hxs] at hO
  have hE:zU (zI (l.take (k+1)))=xs++(if l[k].endless=true then [l[k].lo] else [l[k].lo,l[k].hi]).map Cut.enc:=by
   rw[hct,encCs_app,hxs];rfl
  have hkn:=fun hp'=>qu hO hp' nx (ownS_far hO (Nat.le_refl _))
  obtain⟨s,hs⟩:∃s,l[k]=s:=⟨_,rfl⟩
  rw[hs] at hct hke hE
  have hap1:=OwnS.append1 (P:=prog) (t:=133) (c:=s.lo.enc) (hO.more (some ⟨106,11,false,[s.enc]⟩)) el133 sz104 by104 ze104 rfl (by omega) (by unfold maxLen;omega) (by omega)
  have hO1:=OwnS.after (hp:=upd hp nx (some ⟨106,11,false,[s.enc]⟩)) (nx:=nx+1) (e:=104) (s:=5) (v:=σ 7) (xs:=xs) (c:=s.lo.enc) (tmp:=some ⟨104,5,true,[s.lo.enc]⟩)
  have hap2:=OwnS.append1 (P:=prog) (t:=133) (c:=s.hi.enc) hO1 el133 sz104 by104 ze104 rfl (by omega) (by simp;unfold maxLen;omega) (by simp;omega)
  rw[show (xs++[s.lo.enc]).length=xs.length+1 by simp,List.append_assoc,show[s.lo.enc]++[s.hi.enc]=[s.lo.enc,s.hi.enc] from rfl] at hap2
  have hO2:=OwnS.after (hp:=upd (killV (σ 7) (upd (upd hp nx (some ⟨106,11,false,[s.enc]⟩)) (nx+1) (some ⟨104,5,true,[s.lo.enc]⟩))) (nx+1+1) (some ⟨104,5,true,xs++[s.lo.enc]⟩)) (nx:=nx+1+2) (e:=104) (s:=5) (v:=.own (nx+1+1) 0 (xs.length+1)) (xs:=xs++[s.lo.enc]) (c:=s.hi.enc) (tmp:=some ⟨104,5,true,[s.hi.enc]⟩)
  rw[show (xs++[s.lo.enc]).length=xs.length+1 by simp,List.append_assoc,show[s.lo.enc]++[s.hi.enc]=[s.lo.enc,s.hi.enc] from rfl] at hO2
  simp only[Str.enc,Cut.enc,List.cons_append,List.nil_append] at hap1 hap2 hO1 hO2 hke
  have m1:¬nx=nx+1+1:=by omega
  have m2:¬nx=nx+1+2:=by omega
  have m3:¬nx=nx+1+2+1:=by omega
  cases hen:s.endless
  ·rw[hen] at hct
   rw[hen] at hap1 hap2 hO1 hO2 hke
   simp[h0,h1,h2,h25,h26,h27,hltk,hel,hke,hap1,hap2,hkn,hwk,m1,m2,m3,zd,zl,zc]
   refine⟨by omega,?_⟩
   rw[hE,hen]
   simp only[Bool.false_eq_true,if_false,List.map_cons,List.map_nil,Cut.enc]
   exact hO2
  ·rw[hen] at hct
   rw[hen] at hap1 hap2 hO1 hO2 hke
   simp[h0,h1,h2,h25,h26,h27,hltk,hel,hke,hap1,hkn,hwk,m1,m2,m3,zd,zl,zc]
   refine⟨by omega,?_⟩
   rw[hE,hen]
   simp only[if_true,List.map_cons,List.map_nil,Cut.enc]
   exact hO1
 ·obtain rfl:k=l.length:=by omega
  rw[List.take_length] at hO
  have hsm:∀c∈zI l,c.v.small:=kd (Q:=fun c=>c.v.small) hlsm
  have hcl:=yr l
  obtain⟨v,hp',nx',hsort,hO',hnx'⟩:=rsorted_call hO hsm (by omega)
  obtain⟨cs,hcs⟩:∃cs,wC (zI l)=cs:=⟨_,rfl⟩
  have hcsl:cs.length≤4194304:=by have:=insAll_len (zI l) [];rw[←hcs];unfold wC;simp at this;omega
  have hcsm:∀c∈cs,c.v.small:=fun c hc=>by
   rw[←hcs] at hc
   rcases insAll_sub hc with h | h
   ·exact hsm c h
   ·cases h
  rw[hcs] at hins hO'
  have hfin:=hins
  obtain⟨is,his⟩:∃is:Cut→Bool,(fun c=>kP w (covA a c) (covA b c))=is:=⟨_,rfl⟩
  have hisc:∀c,kP w (covA a c) (covA b c)=is c:=fun c=>by rw[←his]
  rw[his] at hfin
  clear hO hcs hsm hins
  have hlen:=hO'.len el133
  have hel2:(zU cs).length=cs.length:=by simp[zU]
  rw[hel2] at hlen
  simp[h0,h1,h2,h25,h26,h27,hsort,hlen]
  refine zy (fun k σ hp nx=>σ 0=int w∧σ 1=.sl 11 (encR a)∧σ 2=.sl 11 (encR b)∧σ 40=v∧σ 41=int cs.length∧σ 42=int k∧OwnS hp nx 104 5 v (zU cs)∧∃xs,OwnS hp nx 106 11 (σ 10) xs∧xs.map (fixC spat)=encR (swL is (cs.take k) (false,[])).2 ∧
    σ 11=boo (swL is (cs.take k) (false,[])).1∧(∀id n m,v=.own id 0 n→σ 10≠.own id 0 m)∧((swL is (cs.take k) (false,[])).1=true→(swL is (cs.take k) (false,[])).2≠[])∧xs.length≤k∧(xs=[]→σ 10=.nil)) cs.length
   ⟨by simp[h0],by simp[h1],by simp[h2],by simp,by simp,by simp,hO',[],.inl ⟨by simp,rfl⟩,by simp[swL,encR],by simp[swL],by simp,by simp[swL],by simp,by simp⟩ ?_
  clear h0 h1 h2 h25 h26 h27 hO' hk hltk σ hp nx hsort hlen hnx' hp' nx'
  rintro k σ hp nx hk ⟨h0,h1,h2,h48,h49,h50,hO,xs,hX,hxs,h13,hap,hop,hxk,hxn⟩
  by_cases hltk:k<cs.length
  ·have hwk:IntKind.i64.wrap ((k:Int)+1)=(k:Int)+1:=zh (by omega) (by omega)
   obtain⟨id,hid,rfl,hh⟩:=hO.at_ (by rw[hel2];omega)
   have hst:=swL_take is hltk (false,[])
   obtain⟨st,hst0⟩:∃st,swL is (cs.take k) (false,[])=st:=⟨_,rfl⟩
   obtain⟨c,hc⟩:∃c,cs[k]=c:=⟨_,rfl⟩
   rw[hc,hst0] at hst
   rw[hst0] at hxs h13 hop
   have hopn:=swS_open is st c hop
   have hcsmall:c.v.small:=hcsm c (by rw[←hc];exact List.getElem_mem hltk)
   have hke:∀h:k<(zU cs).length,(zU cs)[k]=c.enc:=fun h=>by simp[zU,hc]
   have hca:=fun hp nx=>cov_call a c hp nx hsa hcsmall
   have hcb:=fun hp nx=>cov_call b c hp nx hsb hcsmall
   have hcall':=fun hp nx=>FTk_call w (covA a c) (covA b c) hp nx
   rw[hisc c] at hcall'
   simp only[Cut.enc] at hca hcb hke
   have m0:¬id=nx:=by omega
   have m1:¬id=nx+1:=by omega
   have m2:¬id=nx+1+1:=by omega
   rw[hel2] at hO
   have hki:=fun hp'=>qu hX hp' id (fun n=>hap id _ n rfl)
   have hswS:swS is st c=(is c,if (is c&&!st.1)=true then st.2++[qn c] else if (!is c&&st.1)=true then jk st.2 c else st.2):=rfl
   rw[hswS] at hst
   rw[hswS] at hopn
   simp only at hopn
   obtain⟨op,out⟩:=st
   simp only at hxs h13 hop hopn
   cases hb:is c<;>cases op
   ·rw[hb] at hcall' hst
    simp at hst
    simp[h0,h1,h2,h48,h49,h50,hel2,hltk,hh,hke,hca,hcb,hcall',-FTk_call,h13,hwk,m0,hst]
    exact⟨by omega,hO.more _,xs,hX.more _,hxs,fun i n m e _=>hap i _ m (by rw[e]),by omega,hxn⟩
   ·rw[hb] at hcall' hst
    simp at hst
    have hne:=hop rfl
    obtain⟨m,hm⟩:∃m,out.length=m+1:=⟨out.length - 1,by have:=List.length_pos_iff.2 hne;omega⟩
    have hxl:xs.length=m+1:=by have:=congrArg List.length hxs;simp[encR] at this;omega
    obtain⟨id2,hid2,h12,hh2⟩:=hX.at_ (by omega)
    have hid12:¬id2=id:=fun e=>hap id _ _ rfl (by rw[h12,e])
    have hid21:¬id=id2:=fun e=>hid12 e.symm
    have p0:¬id2=nx:=by omega
    rw[hxl] at h12
    have hlm:m<xs.length:=by omega
    have hlo:m<out.length:=by omega
    have hrm:fixC spat xs[m]=out[m].enc:=by
     have e1:(xs.map (fixC spat))[m]?=(encR out)[m]?:=by rw[hxs]
     simp only[List.getElem?_map,List.getElem?_eq_getElem hlm,encR,List.getElem?_eq_getElem hlo,Option.map_some,Option.some.injEq] at e1
     exact e1
    obtain⟨x3,x5,x6,x7,x8,x9,x10,hrow,hn3,hcell⟩:=row_cells hrm
    have wm:IntKind.i64.wrap (m:Int)=(m:Int):=zh (by omega) (by omega)
    have wm1:IntKind.i64.wrap ((m:Int)+1 - 1)=(m:Int):=by rw[zh (by omega) (by omega)];omega
    simp[h0,h1,h2,h48,h49,h50,hel2,hltk,hh,hke,hca,hcb,hcall',-FTk_call,h13,hwk,m0,hst,h12,hh2,p0,wm,wm1,hlm,hrow,hcell,qy]
    refine⟨by omega,.inr ⟨id,by omega,by rw[hel2],by simp[hid21,m0,hh]⟩,xs.set m [int out[m].lo.v.a,int out[m].lo.v.b,int out[m].lo.v.c,x3,boo out[m].lo.after,int c.v.a,int c.v.b,int c.v.c,.sl 1 (encT c.v.pre),boo c.after,boo false],.inr ⟨id2,by omega,by simp[hxl],by simp⟩,?_,fun i n k' e _ e2=>absurd (e2.trans e.symm) hid12,by simp;omega,fun e=>by have:=congrArg List.length e;rw[List.length_set,hxl] at this;cases this⟩
    rw[List.map_set,hxs,setLast_set hlo hm c,encR,encR,List.map_set]
    simp[hn3,Str.enc,Cut.enc]
   ·rw[hb] at hcall' hst
    simp at hst
    have hap1:=OwnS.append1 (P:=prog) (t:=69) (c:=[int c.v.a,int c.v.b,int c.v.c,.sl 1 (encT c.v.pre),boo c.after,int 0,int 0,int 0,.nil,boo false,boo true]) (hX.more (some ⟨104,5,false,[c.enc]⟩)) el69 sz106 by106 ze106 rfl (by omega) (by unfold maxLen;omega) (by omega)
    simp only[Cut.enc] at hap1
    simp[h0,h1,h2,h48,h49,h50,hel2,hltk,hh,hke,hca,hcb,hcall',-FTk_call,h13,hwk,m0,hst,hap1,zw,zJ,zd,zl,zc]
    refine⟨by omega,.inr ⟨id,by omega,by rw[hel2],by simp[hki,hh,m0,m1,m2]⟩,xs++[[int c.v.a,int c.v.b,int c.v.c,.sl 1 (encT c.v.pre),boo c.after,int 0,int 0,int 0,.nil,boo false,boo true]],by simpa using OwnS.after,?_,fun i n m e _ e2=>by omega,by simp;omega⟩
    rw[List.map_append,hxs]
    simp[encR,qn,Str.enc,Cut.enc,cut0,encT]
   ·rw[hb] at hcall' hst
    simp at hst
    simp[h0,h1,h2,h48,h49,h50,hel2,hltk,hh,hke,hca,hcb,hcall',-FTk_call,h13,hwk,m0,hst]
    exact⟨by omega,hO.more _,xs,hX.more _,hxs,fun i n m e _=>hap i _ m (by rw[e]),hop rfl,by omega,hxn⟩
  ·obtain rfl:k=cs.length:=by omega
   rw[List.take_length] at hxs
   rw[←hfin] at hxs
   have hxl:xs.length=(wO (kP w) a b).length:=by have:=congrArg List.length hxs;simpa[encR] using this
   simp[h0,h1,h2,h48,h49,h50,f79]
   unfold vv
   rcases hX with⟨h12,rfl⟩ | ⟨id2,hid2,h12,hh2⟩
   ·rw[if_pos (List.length_eq_zero_iff.1 hxl.symm)]
    exact h12
   ·by_cases hz:wO (kP w) a b=[]
    ·rw[if_pos hz]
     rw[hz] at hxl
     exact hxn (List.length_eq_zero_iff.1 hxl)
    ·rw[if_neg hz]
     refine⟨id2,_,h12,hh2,rfl,?_⟩
     simp only[fixB,hxs]
noncomputable def FTog:List PV→Option (Option Blk):=zH (α:=Int×List Str×List Str) (fun a=>[int a.1,.sl 11 (encR a.2.1),.sl 11 (encR a.2.2)]) (fun a=>(qW a.2.1∧qW a.2.2)∧goodR a.2.1∧goodR a.2.2) (fun a=>vv (kP a.1) a.2.1 a.2.2)
theorem tog_inj:∀a b:Int×List Str×List Str,[int a.1,PV.sl 11 (encR a.2.1),.sl 11 (encR a.2.2)]=[int b.1,.sl 11 (encR b.2.1),.sl 11 (encR b.2.2)]→a=b:=by
 rintro⟨w1,a1,a2⟩ ⟨w2,b1,b2⟩ e
 simp only[List.cons.injEq,and_true] at e
 obtain⟨e0,e1,e2⟩:=e
 injection e0 with e0
 injection e0 with _ e0
 injection e1 with _ e1
 injection e2 with _ e2
 rw[e0,yq e1,yq e2]
set_option maxRecDepth 100000 in
theorem rtog_sound:za prog 79 (wF [.a,.s 11 spat,.s 11 spat] FTog) :=
 kE (fn:=f79) goodtog ⟨_,func79,by kernel_rfl,rfl,by kernel_rfl⟩ _ spat _ fun args r h=>by
  obtain⟨⟨w,a,b⟩,rfl,⟨⟨h1,h2⟩,h3,h4⟩,rfl⟩:=ze h
  exact⟨by simp[f79],rtog_eval w a b h1 h2 h3 h4⟩
def HasW (hp:Hp) (nx:Nat) (v:PV) (m:List Str):Prop:=(v=.nil∧m=[])∨∃id xs,id<nx∧v=.own id 0 xs.length∧hp id=some ⟨106,11,true,xs⟩∧xs.map (fixC spat)=encR m
theorem HasW.frz {hp:Hp} {nx:Nat} {v:PV} {m:List Str} (h:HasW hp nx v m):∃y hp1,zA hp v=some (y,hp1)∧(Sh.s 11 spat).fix y=.sl 11 (encR m)∧(∀j,(∀n,v≠.own j 0 n)→hp1 j=hp j):=by
 rcases h with⟨rfl,rfl⟩ | ⟨id,xs,h1,rfl,h2,h3⟩
 ·exact⟨_,hp,rfl,rfl,fun _ _=>rfl⟩
 ·exact⟨.sl 11 xs,upd hp id none,by simp[h2],by rw[Sh.fix_s,h3],fun j hj=>qd _ _ _ _ fun e=>hj _ (by subst e;rfl)⟩
theorem HasW.keep {hp hp':Hp} {nx nx':Nat} {v:PV} {m:List Str} (h:HasW hp nx v m) (hn:nx≤nx') (hh:∀id,id<nx→(∀n,v=.own id 0 n→hp' id=hp id)):HasW hp' nx' v m:=by
 rcases h with⟨rfl,rfl⟩ | ⟨id,xs,h1,rfl,h2,h3⟩
 ·exact .inl ⟨rfl,rfl⟩
 ·exact .inr ⟨id,xs,by omega,rfl,by rw[hh id h1 _ rfl];exact h2,h3⟩
theorem HasW.len {hp:Hp} {nx:Nat} {v:PV} {m:List Str} (h:HasW hp nx v m):lenA prog 69 v=some (int m.length):=by
 rcases h with⟨rfl,rfl⟩ | ⟨id,xs,h1,rfl,h2,h3⟩
 ·simp
 ·have:=congrArg List.length h3
  simp[encR] at this
  simp[this]
theorem HasW.box {hp:Hp} {nx:Nat} {v:PV} {m:List Str} (h:HasW hp nx v m) {j:Nat} {b:Blk} (hb:hp j=some b) (he:b.e≠106):∀n,v≠.own j 0 n:=by
 rcases h with⟨rfl,rfl⟩ | ⟨id,xs,h1,rfl,h2,h3⟩
 ·intro n e;cases e
 ·intro n e
  injection e with e
  subst e
  rw[h2] at hb
  injection hb with hb
  subst hb
  exact he rfl
theorem tog_call (way:Int) (f:Bool→Bool→Bool) (hf:kP way=f) {hp:Hp} {nx:Nat} {v:PV} {a b:List Str} (ha:HasW hp nx v a) (h1:qW a) (h2:qW b) (h3:goodR a) (h4:goodR b) :
  ∃x hp' nx',wF [.a,.s 11 spat,.s 11 spat] FTog [int way,v,.sl 11 (encR b)] hp nx=some (x,hp',nx')∧HasW hp' nx' x (wO f a b)∧nx≤nx'∧∀j,j<nx→(∀n,v≠.own j 0 n)→hp' j=hp j:=by
 obtain⟨y,hp1,f1,e1,k1⟩:=ha.frz
 have hfr:zi hp [int way,v,.sl 11 (encR b)]=some ([int way,y,.sl 11 (encR b)],hp1):=by
  have f0:zA hp (int way)=some (int way,hp):=rfl
  have f2:zA hp1 (.sl 11 (encR b))=some (.sl 11 (encR b),hp1):=rfl
  simp only[zi,f0,f1,f2]
 have hF:FTog (fixL [.a,.s 11 spat,.s 11 spat] (ql [] [int way,y,.sl 11 (encR b)]))=some (vv f a b):=by
  show FTog [Sh.a.fix (int way),(Sh.s 11 spat).fix y,(Sh.s 11 spat).fix (.sl 11 (encR b))]=_
  rw[e1,vS,←hf]
  exact zn (enc:=fun a:Int×List Str×List Str=>[int a.1,PV.sl 11 (encR a.2.1),.sl 11 (encR a.2.2)]) (a:=(way,a,b)) tog_inj ⟨⟨h1,h2⟩,h3,h4⟩
 unfold wF qT
 by_cases hz:wO f a b=[]
 ·have hF':=hF
  unfold vv at hF'
  rw[if_pos hz] at hF'
  simp only[hfr,hF']
  exact⟨_,_,_,rfl,.inl ⟨rfl,hz⟩,Nat.le_refl _,fun j _ q1=>k1 j q1⟩
 ·have hF':=hF
  unfold vv at hF'
  rw[if_neg hz] at hF'
  simp only[hfr,hF']
  exact⟨_,_,_,rfl,.inr ⟨nx,encR (wO f a b),by omega,rfl,by simp,by have:=vS (wO f a b);simpa[Sh.fix_s] using this⟩,by omega,fun j hj q1=>by rw[qd _ _ _ _ (by omega)];exact k1 j q1⟩
theorem take1:kP 1=and:=by funext a b;simp[kP]
theorem take0:kP 0=or:=by funext a b;simp[kP]
end Go.Proofs.YtpeaooooimfihaaGreatDoor
namespace Go.AM
open Go.RowKit
def cutK (Q:St→Prop) (K:Exit→St→Prop) (e:Exit) (st:St):Prop:=match e with
 | .normal=>Q st
 | e=>K e st
@[simp] theorem cutK_n (Q:St→Prop) (K:Exit→St→Prop) (st:St):cutK Q K .normal st=Q st:=rfl
@[simp] theorem cutK_r (Q:St→Prop) (K:Exit→St→Prop) (st:St):cutK Q K .ret st=K .ret st:=rfl
@[simp] theorem cutK_e (Q:St→Prop) (K:Exit→St→Prop) (i:Nat) (st:St):cutK Q K (.exit i) st=K (.exit i) st:=rfl
theorem qR {C:Ctx} {a b:Code} {st:St} {K:Exit→St→Prop} (Q:St→Prop) (h1:EvC C a st (cutK Q K)) (h2:∀st,Q st→EvC C b st K):EvC C (.seq a b) st K:=by
 rw[EvC_seq]
 refine h1.mono fun e st hk=>?_
 cases e
 case normal=>exact h2 _ hk
 all_goals exact hk
end Go.AM
