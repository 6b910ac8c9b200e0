/- Lemmas. -/
import Derived.Shelf.Spec.SlicesInsert
import Derived.Shelf.Strings.Builder1
import Derived.Shelf.Strconv.Itoa3
import Derived.Shelf.Small.Wraps
import Derived.Orders
import Derived.Test.YtjnfibncnabkmaaGreatDoorG12
set_option maxRecDepth 100000
set_option maxHeartbeats 4000000
open Go Proofs Proofs.YtjnfibncnabkmaaGreatDoor Proofs.Tryz RowKit AM SpanLaw Q Zz
open Go.IntKind renaming i64→i6
namespace Go.Q
open Go.RowKit Go.Lib Go.AM
attribute [local go_sem] Oper.semAt_some
theorem Gv(w:World)(g vb n i cap vc:Nat)(cur vcur:Array Value)(tv:TypeId)(hi:i<n)(hroom:n+1<=cap)(hc63:cap<=9223372036854775807)(hne:g≠vb)(hv1:1<=vc)
  (hg:w.heap[g]?=some (.cells cur 43 (0,0))) (hcs:cur.size=cap*5) (hv:w.heap[vb]?=some (.cells vcur tv (0,0))) (hvs:vcur.size=vc*5)
  (h1c:∀j v,j<n*5->cur[j]?=some v->v.oneCell'=true) (h1v:∀j v,j<5->vcur[j]?=some v->v.oneCell'=true) :
  Calls prog 96 #[.slice (some ⟨g,0,none⟩) n cap,.int .i64 i,.slice (some ⟨vb,0,none⟩) 1 vc] w fun e w'=>
   e=.returned (.slice (some ⟨g,0,none⟩) (n+1) cap)/\w'.heap[g]?=some (.cells (wS (wS cur.toList ((i+1)*5) ((cur.toList.take (n*5)).drop (i*5))) (i*5) (vcur.toList.take 5)).toArray 43 (0,0))/\Fr True w (fun b=>b=g) w':=by
 have t3:=underlying3;have a3:=isAgg3;have z3:=sizeOf3;have v3:=zeroValue3;have t4:=underlying4;have a4:=isAgg4;have z4:=sizeOf4;have v4:=zeroValue4;have t24:=underlying22;have a24:=isAgg22;have z24:=sizeOf22;have v24:=zeroValue22;have t9:=underlying43;have a9:=isAgg43;have z9:=sizeOf43;have u3:=zx t3;have u4:=zx t4;have u24:=zx t24;have hz2:¬((i:Int)=(n:Int)):=by omega
 have hov:∀o lb cb,(callFunc 148 #[.slice (some ⟨vb,0,none⟩) 1 vc,.slice (some ⟨g,o,none⟩) lb cb]).run prog w=.ok (.value (.bool false)) w:=fun o lb cb=>by
  rw[run_callFunc_extern func148 (by kernel_rfl) (by kernel_rfl) (by kernel_rfl) (e:=Extern.SlicesOverlaps.overlaps #[22,22] #[4]) (by kernel_rfl),
   Lib.run_overlaps_apart w 22 4 43 t24 5 z9 ⟨vb,0,none⟩ ⟨g,o,none⟩ 1 vc lb cb (fun e=>hne e.symm) _ _ _ _ (Yv hv) (Yv hg) (by rw[hcs];omega) (Ks hv 0) (Ks hv _)]
  rfl
 have mixed:prog.follows .mixedOrders=true:=by kernel_rfl
 have hw1:i6.wrap ((i:Int)+1)=(i:Int)+1:=by rw[yL];omega
 have hw2:i6.wrap ((n:Int)+1)=(n:Int)+1:=by rw[yL];omega
 have hb1:(0:Int)<=(i:Int)+1:=by omega
 have hb5:(0:Int)<=(n:Int)+1:=by omega
 have hin:i<=n:=by omega
 have htn:((i:Int)+1).toNat=i+1:=by omega
 have htn2:((n:Int)+1).toNat=n+1:=by omega
 have hb2:¬(cap=i+1):=by omega
 have hb3:(i:Int)<=(n:Int)+1:=by omega
 have hb4:¬(cap=i):=by omega
 have hb6:¬((cap:Int)<(n:Int)+1):=by omega
 have hs5:qY prog 43=some 5:=BB;obtain⟨cs,hcsd⟩:=wM ((cur.toList.take (n*5)).drop (i*5));obtain⟨vs,hvsd⟩:=wM (vcur.toList.take 5);have hcl:cs.length=(n-i)*5:=by rw[<-hcsd];simp;omega
 have hvl:vs.length=1*5:=by rw[<-hvsd];simp;omega
 have hcget:∀j v,cs[j]?=some v->cur[i*5+j]?=some v/\i*5+j<n*5:=fun j v hj=>by
  rw[<-hcsd,qI,zX]at hj;split at hj
  ·exact⟨by simpa using hj,by assumption⟩
  ·cases hj
 have hvget:∀j v,vs[j]?=some v->vcur[j]?=some v/\j<5:=fun j v hj=>by
  rw[<-hvsd,zX]at hj;split at hj
  ·exact⟨by simpa using hj,by assumption⟩
  ·cases hj
 have hc1:∀v∈cs,v.oneCell'=true:=fun v hv=>by obtain⟨j,hj⟩:=yN.1 hv;obtain⟨a,b⟩:=hcget j v hj;exact h1c _ v b a
 have hv1':∀v∈vs,v.oneCell'=true:=fun v hv=>by obtain⟨j,hj⟩:=yN.1 hv;obtain⟨a,b⟩:=hvget j v hj;exact h1v _ v b a
 obtain⟨row1,hrow1⟩:=wM (wS cur.toList ((i+1)*5) cs);have hr1l:row1.length=cap*5:=by rw[<-hrow1,wV (by rw[hcl,zR,hcs];omega),zR,hcs]
 have hcp1:∀ty dc sc,(Builtin.copy_ #[22,22] ty #[.slice (some ⟨g,(i+1)*5,none⟩) (n-i) dc,.slice (some ⟨g,i*5,none⟩) (n+1-i) sc]).run prog w.drew=.ok (goInt ((n-i:Nat):Int)) (w.drew.setRow g row1.toArray):=fun ty dc sc=>by
  rw[<-hrow1];exact y7 w.drew _ _ ty 43 5 (n-i) g ((i+1)*5) (n-i) dc ⟨g,i*5,none⟩ (n+1-i) sc cur 43 cs t24 hs5 hg (by simp only[QG];split<;>omega) hcl
   (fun j v hj=>by rw[yz];exact(kG hg _).trans (hcget j v hj).1) (by rw[hcl,hcs];omega) hc1
 have hcp2:∀(W:World),W.heap[g]?=some (.cells row1.toArray 43 (0,0))->W.heap[vb]?=some (.cells vcur tv (0,0))->∀ty dc,(Builtin.copy_ #[22,22] ty #[.slice (some ⟨g,i*5,none⟩) (n+1-i) dc,.slice (some ⟨vb,0,none⟩) 1 vc]).run prog W=.ok (goInt ((1:Nat):Int)) (W.setRow g (wS row1 (i*5) vs).toArray):=fun W hWg hWv ty dc=>by
  have:=y7 W 22 22 ty 43 5 1 g (i*5) (n+1-i) dc ⟨vb,0,none⟩ 1 vc row1.toArray 43 vs t24 hs5 hWg (by simp only[QG];split<;>omega) hvl
   (fun j v hj=>by rw[yz,zh];exact(kG hWv _).trans (hvget j v hj).1) (by rw[hvl,wF,hr1l];omega) hv1'
  exact this
 have hWg:(w.drew.setRow g row1.toArray).heap[g]?=some (.cells row1.toArray 43 (0,0)):=Qc _ _ _ _ _ _ hg;have hWv:(w.drew.setRow g row1.toArray).heap[vb]?=some (.cells vcur tv (0,0)):=(jW _ (fun e=>hne e.symm)).trans hv;have hfin:∀W,W=(w.drew.setRow g row1.toArray).setRow g (wS row1 (i*5) vs).toArray->W.heap[g]?=some (.cells (wS row1 (i*5) vs).toArray 43 (0,0))/\Fr True w (fun b=>b=g) W:=fun W e=>by subst e;refine⟨Qc _ _ _ _ _ _ hWg,?_⟩;exact((Fr.drew w (fun b=>b=g)).trans (Yw w.drew g _) fun _ _ h=>h).trans (Yw _ g _) fun _ _ h=>h
 rw[hcsd,hvsd,hrow1];clear hcsd hvsd hcl hvl hcget hvget hc1 hv1' hrow1 hr1l
 go_enter func96,Tryz.ntmps96
 go_wp2_with (simp only[hov])
 go_region_law_o (refine step_copy_runI rfl _ _ 22 22 rfl _ _ (by simp[Act.eval,Act.put]) (by simp[Act.eval,Act.put]) (hcp1 _ _ _) ?_)
 go_wp2_with (at_builtin;refine wpList_copy_runI _ rfl _ _ 22 22 rfl _ _ rfl rfl (hcp2 _ hWg hWv _ _) ?_)
 go_ret
 exact⟨rfl,hfin _ rfl⟩
theorem Mh(w:World)(g vb n i cap vc:Nat)(cur vcur:Array Value)(tv:TypeId)(hi:i<n)(hnc:n<=cap)(hroom:cap<n+1)(hbig:(n+1)*80<=140737488355328)(hv1:1<=vc)
  (hg:w.heap[g]?=some (.cells cur 43 (0,0))) (hcs:cur.size=cap*5) (hv:w.heap[vb]?=some (.cells vcur tv (0,0))) (hvs:vcur.size=vc*5)
  (h1c:∀j v,j<n*5->cur[j]?=some v->v.oneCell'=true) (h1v:∀j v,j<5->vcur[j]?=some v->v.oneCell'=true) :
  Calls prog 96 #[.slice (some ⟨g,0,none⟩) n cap,.int .i64 i,.slice (some ⟨vb,0,none⟩) 1 vc] w fun e w'=>
   ∃(G:Nat) (R:List Value),n+1<=G/\G<=maxLen/\R.length=G*5/\(∀j,j<i*5->R[j]?=(cur.toList.take (i*5))[j]?)/\e=.returned (.slice (some ⟨w.heap.size,0,none⟩) (n+1) G) /\
    w'.heap[w.heap.size]?=some (.cells (wS (wS R (i*5) (vcur.toList.take 5)) ((i+1)*5) ((cur.toList.take (n*5)).drop (i*5))).toArray 43 (0,0))/\Fr True w (fun b=>b=w.heap.size) w':=by
 have t3:=underlying3;have a3:=isAgg3;have z3:=sizeOf3;have v3:=zeroValue3;have t4:=underlying4;have a4:=isAgg4;have z4:=sizeOf4;have v4:=zeroValue4;have t24:=underlying22;have a24:=isAgg22;have z24:=sizeOf22;have v24:=zeroValue22;have t9:=underlying43;have a9:=isAgg43;have z9:=sizeOf43;have u3:=zx t3;have u4:=zx t4;have u24:=zx t24;obtain⟨i0,z0,hi0,hz0,his,hib,hzc⟩:=oc (P:=prog) BB T2 N1 rfl;have hz2:¬((i:Int)=(n:Int)):=by omega
 have hz3:(cap:Int)<(n:Int)+1:=by omega
 have mixed:prog.follows .mixedOrders=true:=by kernel_rfl
 have hw1:i6.wrap ((i:Int)+1)=(i:Int)+1:=by rw[yL];omega
 have hw2:i6.wrap ((n:Int)+1)=(n:Int)+1:=by rw[yL];omega
 have hw3:i6.wrap ((n:Int)+1-i)=(n:Int)+1-i:=by rw[yL];omega
 have hb1:(0:Int)<=(i:Int)+1:=by omega
 have hin:i<=n:=by omega
 have htn:((i:Int)+1).toNat=i+1:=by omega
 have hkk:(n:Int)+1-(i:Int)=((n+1-i:Nat):Int):=by omega
 have hik:i+(n+1-i)=n+1:=by omega
 have hb3:(i:Int)<=(n:Int):=by omega
 have hbw:g<w.heap.size:=(z6.1 hg).1;have hvw:vb<w.heap.size:=(z6.1 hv).1;have hs5:qY prog 43=some 5:=BB;obtain⟨olds,hod⟩:=wM (cur.toList.take (i*5));obtain⟨cs,hcsd⟩:=wM ((cur.toList.take (n*5)).drop (i*5));obtain⟨vs,hvsd⟩:=wM (vcur.toList.take 5);have hol:olds.length=i*5:=by rw[<-hod];simp;omega
 have hcl:cs.length=(n-i)*5:=by rw[<-hcsd];simp;omega
 have hvl:vs.length=1*5:=by rw[<-hvsd];simp;omega
 have hoget:∀j v,olds[j]?=some v->cur[j]?=some v:=fun j v hj=>by
  rw[<-hod,zX]at hj;split at hj
  ·simpa using hj
  ·cases hj
 have hcget:∀j v,cs[j]?=some v->cur[i*5+j]?=some v/\i*5+j<n*5:=fun j v hj=>by
  rw[<-hcsd,qI,zX]at hj;split at hj
  ·exact⟨by simpa using hj,by assumption⟩
  ·cases hj
 have hvget:∀j v,vs[j]?=some v->vcur[j]?=some v/\j<5:=fun j v hj=>by
  rw[<-hvsd,zX]at hj;split at hj
  ·exact⟨by simpa using hj,by assumption⟩
  ·cases hj
 have hc1:∀v∈cs,v.oneCell'=true:=fun v hv=>by obtain⟨j,hj⟩:=yN.1 hv;obtain⟨a,b⟩:=hcget j v hj;exact h1c _ v b a
 have hv1':∀v∈vs,v.oneCell'=true:=fun v hv=>by obtain⟨j,hj⟩:=yN.1 hv;obtain⟨a,b⟩:=hvget j v hj;exact h1v _ v b a
 have hold:(Builtin.firstCells i0.size i (.slice (some ⟨g,0,none⟩) i cap)).run prog w.drew=.ok olds.toArray w.drew:=by
  rw[his];exact run_firstCells_some w.drew 5 i ⟨g,0,none⟩ i cap olds hol (fun j v hj=>by rw[yz,zh];exact(kG hg j).trans (hoget j v hj))
 obtain⟨G,hG⟩:=wM (grownCap w (n+1) cap 43);obtain⟨ROW,hROW⟩:=wM (olds.toArray++Builtin.zeroCells z0.cells (n+1-i)++Builtin.zeroCells z0.cells (G-(n+1)));have hGn:n+1<=G:=by rw[<-hG];exact grownCap_ge w _ _ _
 have hGm:G<=maxLen:=by rw[<-hG];exact grownCap_le_maxLen w (n+1) cap 43 (by unfold maxLen;omega)
 have hrz:∀ty,(Builtin.append_ #[22,3] ty #[.slice (some ⟨g,0,none⟩) i cap,.int .i64 ((n:Int)+1-(i:Int))]).run prog w =
   .ok (.slice (some ⟨w.heap.size,0,none⟩) (n+1) G) (w.drew.alloc (.cells ROW 43)):=fun ty=>by
  have h:=Lib.run_append_grow_zeros w 22 3 ty 43 i0 z0 .i64 .i64 t24 t3 hi0 hz0 (some ⟨g,0,none⟩) i cap olds hold (n+1-i) (by omega) (by omega) (by omega) (by omega) (by rw[hib];omega) (by rw[hib,hik];exact growslice_fits hroom hbig);rw[hik,hG,hROW]at h;rw[hkk];exact h
 have hRl:ROW.size=G*5:=by rw[<-hROW,xA,xA,XV,XV,hzc,wF,hol];omega
 have hRo:∀j,j<i*5->ROW.toList[j]?=olds[j]?:=fun j hj=>by rw[<-hROW,Wm,Wm,qP];exact qC (show j<olds.length by omega)
 obtain⟨N,hN⟩:=wM w.heap.size;obtain⟨W1,hW1⟩:=wM (w.drew.alloc (.cells ROW 43));have hW1N:W1.heap[N]?=some (.cells ROW 43 (0,0)):=by rw[<-hW1,<-hN];exact Vk (w:=w.drew) _
 have hW1g:W1.heap[g]?=some (.cells cur 43 (0,0)):=by rw[<-hW1];exact(Zf (w:=w.drew) _ hbw).trans hg
 have hW1v:W1.heap[vb]?=some (.cells vcur tv (0,0)):=by rw[<-hW1];exact(Zf (w:=w.drew) _ hvw).trans hv
 obtain⟨row1,hrow1⟩:=wM (wS ROW.toList (i*5) vs);have hr1l:row1.length=G*5:=by rw[<-hrow1,wV (by rw[hvl,zR,hRl];omega),zR,hRl]
 have hcpA:∀(W:World),W.heap[N]?=some (.cells ROW 43 (0,0))->W.heap[vb]?=some (.cells vcur tv (0,0))->∀ty dc,(Builtin.copy_ #[22,22] ty #[.slice (some ⟨N,i*5,none⟩) (n+1-i) dc,.slice (some ⟨vb,0,none⟩) 1 vc]).run prog W=.ok (goInt ((1:Nat):Int)) (W.setRow N row1.toArray):=fun W hWg hWv ty dc=>by
  rw[<-hrow1];have:=y7 W 22 22 ty 43 5 1 N (i*5) (n+1-i) dc ⟨vb,0,none⟩ 1 vc ROW 43 vs t24 hs5 hWg (by simp only[QG];split<;>omega) hvl
   (fun j v hj=>by rw[yz,zh];exact(kG hWv _).trans (hvget j v hj).1) (by rw[hvl,hRl];omega) hv1'
  exact this
 have hcpB:∀(W:World),W.heap[N]?=some (.cells row1.toArray 43 (0,0))->W.heap[g]?=some (.cells cur 43 (0,0))->∀ty dc sc,(Builtin.copy_ #[22,22] ty #[.slice (some ⟨N,(i+1)*5,none⟩) (n-i) dc,.slice (some ⟨g,i*5,none⟩) (n-i) sc]).run prog W=.ok (goInt ((n-i:Nat):Int)) (W.setRow N (wS row1 ((i+1)*5) cs).toArray):=fun W hWg hWv ty dc sc=>by
  have:=y7 W 22 22 ty 43 5 (n-i) N ((i+1)*5) (n-i) dc ⟨g,i*5,none⟩ (n-i) sc row1.toArray 43 cs t24 hs5 hWg (by simp only[QG];split<;>omega) hcl
   (fun j v hj=>by rw[yz];exact(kG hWv _).trans (hcget j v hj).1) (by rw[hcl,wF,hr1l];omega) hc1
  exact this
 have hgN:g≠N:=by omega
 have hvN:vb≠N:=by omega
 have hW2N:(W1.setRow N row1.toArray).heap[N]?=some (.cells row1.toArray 43 (0,0)):=Qc _ _ _ _ _ _ hW1N;have hW2g:(W1.setRow N row1.toArray).heap[g]?=some (.cells cur 43 (0,0)):=(jW _ hgN).trans hW1g;have hfin:∀W:World,W.heap=((W1.setRow N row1.toArray).setRow N (wS row1 ((i+1)*5) cs).toArray).heap->W.os=w.os->W.tape=w.tape->W.output=w.output->w.drawn<=W.drawn->W.heap[N]?=some (.cells (wS row1 ((i+1)*5) cs).toArray 43 (0,0))/\Fr True w (fun b=>b=N) W:=fun W e1 e2 e3 e4 e5=>by
  refine⟨by rw[e1];exact Qc _ _ _ _ _ _ hW2N,e2,e3,e4,?_,fun _=>e5,fun k hk hn=>?_⟩
  ·rw[e1,<-hW1,setRow_size,setRow_size,cc];exact jS _
  ·rw[e1,jW _ hn,jW _ hn,<-hW1];exact Zf (w:=w.drew) _ hk
 have hm1:G<=9223372036854775807:=by unfold maxLen at hGm;omega
 have hGi:¬(G=i):=by omega
 have hGim:¬(G=i+1):=by omega
 have hci:¬(cap=i):=by omega
 rw[hN,hcsd,hvsd,hod];rw[hN,hW1]at hrz;clear hcsd hvsd hod hcl hvl hol hcget hvget hoget hc1 hv1' hold hG hROW hkk hik hi0 hz0 his hib hzc hr1l
 go_enter func96,Tryz.ntmps96
 go_wp2_with (first
  |(at_builtin;refine Lib.wpList_append_run _ rfl _ _ _ _ rfl _ _ rfl rfl _ _ (hrz _) ?_)
  |(at_builtin;refine wpList_copy_runI _ rfl _ _ 22 22 rfl _ _ rfl rfl (hcpA _ hW1N hW1v _ _) ?_)
  |(at_builtin;refine wpList_copy_runI _ rfl _ _ 22 22 rfl _ _ rfl rfl (hcpB _ hW2N hW2g _ _ _) ?_))
 go_region_law_o (refine step_copy_runI rfl _ _ 22 22 rfl (.slice (some ⟨N,(i+1)*5,none⟩) (n-i) (G-(i+1))) (.slice (some ⟨g,i*5,none⟩) (n-i) (cap-i)) (by simp[Act.eval,Act.put]) (by simp[Act.eval,Act.put]) (hcpB (W1.setRow N row1.toArray).drew hW2N hW2g 3 (G-(i+1)) (cap-i)) ?_)
 go_wp2
 go_ret
 subst hW1;subst hrow1;refine⟨G,ROW.toList,hGn,hGm,by simpa using hRl,hRo,rfl,?_⟩;refine hfin _ ?_ ?_ ?_ ?_ ?_
 ·rfl
 ·rfl
 ·rfl
 ·rfl
 ·first|exact jS _|exact z8 (jS _) (jS _)
theorem zaK:HP prog 96 43 5 80:=by
 intro w g A n i cap B c a C D u k K m v o L E d F p q r;have b:(a.toList.take 5).length=5:=by simp;omega
 have f:((c.toList.take (n*5)).drop (i*5)).length=(n-i)*5:=by simp;omega
 unfold maxLen at k;by_cases h:n+1<=cap
 ·refine(Gv w g A n i cap B c a C D h k v o E d F p q r).mono fun e N x=>?_
  obtain⟨rfl,t,y⟩:=x;refine⟨g,cap,_,h,by unfold maxLen;exact k,rfl,.inl rfl,t,?_,y,fun j H=>?_⟩
  ·rw[wF,wV (by rw[wV (by rw[f,zR,d];omega),b,zR,d];omega),wV (by rw[f,zR,d];omega),zR,d]
  ·have:=fG (l:=c.toList) (vs:=a.toList.take 5) (n:=n) (i:=i) (s:=5) (by omega) (by rw[zR,d];omega) b j H;simpa using this
 ·refine(Mh w g A n i cap B c a C D u (by omega) m o E d F p q r).mono fun e N x=>?_
  obtain⟨G,R,P,Q,J,S,rfl,t,y⟩:=x;have z:(c.toList.take (i*5)).length=i*5:=by simp;omega
  have T:(i+1)*5=i*5+(a.toList.take 5).length:=by rw[b];omega
  rw[T]at t;refine⟨w.heap.size,G,_,P,Q,rfl,.inr (zk _),t,?_,y,fun j H=>?_⟩
  ·rw[wF,wV (by rw[wV (by rw[b];omega),f,b];omega),wV (by rw[b];omega),J]
  ·have:=oa (R:=R) (olds:=c.toList.take (i*5)) (vs:=a.toList.take 5) (cs:=(c.toList.take (n*5)).drop (i*5)) (I:=i*5) z S (by rw[b,f,J];omega) j (by rw[b,f];omega);simpa using this
end Go.Q
namespace Go.Q
theorem Rm{Y:Hp}{Z:Nat}{v:O}{xs:List zb}{c:zb}(h:qN Y Z 43 5 v xs)(d:xs.length<=1073741824) :
  kX C0 f96 [v,int (xs.length:Nat),.own Z 0 1] (qf Y Z (some ⟨43,5,true,[c]⟩)) (Z+1)=some (.own (Z+1) 0 (xs.length+1),qf (Ws v (qf Y Z (some ⟨43,5,true,[c]⟩))) (Z+1) (some ⟨43,5,true,xs++[c]⟩),Z+2):=by
 unfold kX;rw[zg (by simp[f96])];refine xK rfl ?_;have a:=qN.ji (P:=prog) (t:=22) (c:=c) h N0 BB T2 N1 rfl (by omega) (by unfold maxLen;omega) (by omega);rcases h with⟨rfl,rfl⟩|⟨id,hid,rfl,b⟩
 ·simp at a;simp[yZ,a,f96]
 ·have n1:¬id=Z:=by omega
  simp[yZ,a,b,n1,f96]
noncomputable abbrev HT:AM.Spec:=Dl C0 f96 43 5 80
theorem DE:zi prog 96 HT:=
 ca (XL ⟨_,func96,by decide,by kernel_rfl⟩ BB (by decide) zaK) (J3 jj func96)
theorem Gw{Y:Hp}{Z i:Nat}{v:O}{xs:List zb}{c:zb}(h:qN Y Z 43 5 v xs)(d:i<=xs.length)(b:xs.length<=1073741824) :
  HT [v,int i,.own Z 0 1] (qf Y Z (some ⟨43,5,true,[c]⟩)) (Z+1)=some (.own (Z+1) 0 (xs.length+1),qf (Ws v (qf Y Z (some ⟨43,5,true,[c]⟩))) (Z+1) (some ⟨43,5,true,xs.take i++c::xs.drop i⟩),Z+2):=by
 unfold HT Dl;by_cases a:i<xs.length
 ·rw[fH h a (by omega) (by unfold maxLen;omega)]
 ·obtain rfl:i=xs.length:=by omega
  rw[oe h];simp only;rw[Rm h b,we,zA]
noncomputable def kj (c:Val):List Val->List Val
 |[]=>[c]
 |a::l=>if qG a c<0 then a::kj c l else if qG a c=0 then a::l else c::a::l
theorem ow(c:Val):∀(l:List Val) (i:Nat),i<=l.length->(∀j (h:j<l.length),j<i->qG l[j] c<0)->(∀h:i<l.length,¬qG l[i] c<0)->((∃h:i<l.length,qG l[i] c=0)->kj c l=l)/\((∀h:i<l.length,qG l[i] c≠0)->kj c l=l.take i++c::l.drop i)
 |[],i,b,_,_=>by
  obtain rfl:i=0:=by simpa using b
  exact⟨fun⟨h,_⟩=>absurd h (by simp),fun _=>rfl⟩
 |a::l,0,_,_,d=>by
  have h:=d (by simp);simp only[yY]at h;refine⟨fun⟨_,e⟩=>?_,fun f=>?_⟩
  ·simp only[yY]at e;simp only[kj];rw[zf h,zg e]
  ·have:=f (by simp);simp only[yY]at this;simp only[kj];rw[zf h,zf this];rfl
 |a::l,i+1,b,g,d=>by
  have k:=g 0 (by simp) (by omega);simp only[yY]at k;obtain⟨m,n⟩:=ow c l i (by simpa using b) (fun j o p=>g (j+1) (by simpa using o) (by omega)) (fun h=>d (by simpa using h));simp only[kj];rw[zg k];refine⟨fun⟨h,e⟩=>?_,fun f=>?_⟩
  ·rw[m ⟨by simpa using h,e⟩]
  ·rw[n fun h=>f (by simpa using h)];rfl
noncomputable def QD (l:List Val):List Val:=l.foldl (fun o c=>kj c o) []
theorem Gx{l:List Val}{k:Nat}(h:k<l.length):QD (l.take (k+1))=kj l[k] (QD (l.take k)):=by unfold QD;rw[qE h,Ii];rfl
theorem fM{c:Val}:∀{l:List Val} {x:Val},x∈kj c l->x=c\/x∈l
 |[],x,h=>by simp only[kj,wA]at h;exact .inl h
 |a::l,x,h=>by
  simp only[kj]at h;split at h
  ·rcases zv.1 h with rfl|h
   ·exact .inr (by simp)
   ·exact(fM h).imp id fun h=>by simp[h]
  ·split at h
   ·exact .inr h
   ·rcases zv.1 h with rfl|h
    ·exact .inl rfl
    ·exact .inr h
theorem sI:∀{l o:List Val} {x:Val},x∈l.foldl (fun o c=>kj c o) o->x∈l\/x∈o
 |[],o,x,h=>.inr h
 |c::l,o,x,h=>by
  rw[ju]at h;rcases sI h with h|h
  ·exact .inl (by simp[h])
  ·rcases fM h with rfl|h
   ·exact .inl (by simp)
   ·exact .inr h
theorem sJ(c:Val):∀l:List Val,(kj c l).length<=l.length+1
 |[]=>by simp[kj]
 |a::l=>by
  simp only[kj];split
  ·have:=sJ c l;simp only[zd];omega
  ·split<;>simp
theorem sK:∀(l o:List Val),(l.foldl (fun o c=>kj c o) o).length<=o.length+l.length
 |[],o=>by simp
 |c::l,o=>by rw[ju];have a:=sK l (kj c o);have b:=sJ c o;simp only[zd];omega
noncomputable abbrev Cvso:Ctx:=qj prog [(15,zn false [] (OJ qg)),(96,HT)]
theorem zaL:AM.Good Cvso (fun g=>[15].contains g):=qx mixed ⟨Xq qg,fun _=>zt _ _,DE,by simp,trivial⟩
theorem Rn{a b:List Val}(h:a.map Val.V=b.map Val.V):a=b:=Yc (fun _ _ e=>xq e) h
noncomputable def Fvso:zb->Option O:=qW (α:=List Val) (fun l=>[.sl 5 (l.map Val.V)]) (fun l=>kh l<=qg) (fun l=>.sl 5 ((QD l).map Val.V))
theorem MW:zi prog 71 (zn true [] Fvso):=
 KW (C:=Cvso) (pf:=fun g=>[15].contains g) ⟨func71,by kernel_rfl,rfl,by kernel_rfl⟩ true [] _ fun args r h=>by
 obtain⟨l,rfl,hvl,rfl⟩:=zL h;refine⟨by simp[f71],?_⟩;clear h;refine Wp.of zaL (by kernel_rfl) ?_;have hlim:qg=268435456:=rfl;have hll:=yT l;have hl:l.length<=1073741824:=by omega
 have hs:∀c∈l,c.vb<=qg:=fun c N=>by have:=jZ N;omega
 have Q:(l.map Val.V).length=l.length:=yj _;simp[Q];refine ql (fun k M Y Z=>M 7=.sl 5 (l.map Val.V)/\M 8=int l.length/\M 9=int k/\qN Y Z 43 5 (M 3) ((QD (l.take k)).map Val.V)/\(k=0->M 3=.nil)) l.length
  ⟨by simp,by simp,by simp,.inl ⟨by simp,by simp[QD]⟩,by simp⟩ ?_
 rintro k M Y Z hk ⟨u,w,y,m,h0⟩;have R:=sK (l.take k) [];have z:QD (l.take k)=(l.take k).foldl (fun o c=>kj c o) []:=rfl;rw[<-z,ze,yu]at R;have A:∀x∈QD (l.take k),x.vb<=qg:=fun x hx=>by
  rw[z]at hx;rcases sI hx with h|h
  ·exact hs x (KA h)
  ·cases h
 by_cases p:k<l.length
 ·obtain⟨c,N⟩:=wM (l[k]);have hcs:c.vb<=qg:=hs c (by rw[<-N];exact zw p);have hke:∀h:k<(l.map Val.V).length,(l.map Val.V)[k]=c.V:=fun h=>by simp[N]
  have D:=wv k;have E:=Gx p;rw[N]at E;obtain⟨o,ho⟩:=wM (QD (l.take k));rw[ho]at m R A E;have a:(o.map Val.V).length=o.length:=yj _;obtain⟨P,hP⟩:=wM Z;obtain⟨v,hv⟩:=wM (M 3);rw[hv]at m;simp[u,w,y,p,Q,hke];rw[hP]at m⊢;refine ql (fun i M Y Z=>M 7=.sl 5 (l.map Val.V)/\M 8=int l.length/\M 9=int k/\M 3=v/\M 5=.ref P 0 0/\M 6=int i/\P<Z/\Y P=some ⟨43,5,false,[c.V]⟩/\qN Y Z 43 5 v (o.map Val.V)/\∀j (h:j<o.length),j<i->qG o[j] c<0) o.length
   ⟨by simp[u],by simp[w],by simp[y],by simp[hv],by simp,by simp,(by show P<P+1;omega),by simp,m.more _,fun j _ h=>absurd h (by omega)⟩ ?_
  clear u w y h0 hv m M Y hP Z;rintro i M Y Z hi ⟨u,w,y,W,X,h6,hPn,bP,m,s⟩;have hwi:=wv i;have d:=m.len N0;rw[a]at d;have nP:¬P=Z:=by omega
  have n:=fun(hi:i<=o.length)=>Gw (i:=i) (c:=c.V) m (by rw[a];exact hi) (by rw[a];omega)
  rw[a]at n;have S:(o.map Val.V).take i++c.V::(o.map Val.V).drop i=(o.take i++c::o.drop i).map Val.V:=by simp
  rw[S]at n;have t:∀o',kj c o=o'->QD (l.take (k+1))=o':=fun o' e=>by rw[E,e]
  by_cases hit:i<o.length
  ·obtain⟨id,hid,F,hb⟩:=m.at_ (by rw[a];omega);obtain⟨q,L⟩:=wM (o[i]);have T:q.vb<=qg:=A q (by rw[<-L];exact zw hit);have G:∀h:i<(o.map Val.V).length,(o.map Val.V)[i]=q.V:=fun h=>by simp[L]
   have H:=fun Y Z=>Qv qg q c Y Z ⟨T,T,hcs⟩
   have hat:=ow c o i (by omega) s;by_cases f:qG q c<0
   ·subst F;simp[u,w,y,W,X,h6,d,a,hit,hb,G,bP,H,f,hwi];have I:∀j (h:j<o.length),j<i+1->qG o[j] c<0:=fun j h hj=>by
     rcases zbl j i with h1|h1
     ·exact s j h h1
     ·obtain rfl:j=i:=by omega
      rw[L];exact f
    exact⟨by omega,hPn,(by rw[a]at m;exact m),I⟩
   ·have B:=hat fun _=>by rw[L];exact f
    by_cases U:qG q c=0
    ·have h1:=B.1 ⟨hit,by rw[L];exact U⟩;have J:((i:Int)==o.length)=false:=by rw[w8];omega
     subst F;simp[u,w,y,W,X,h6,d,a,hit,hb,G,bP,H,f,U,J,D];exact⟨p,by rw[t _ h1];rw[a]at m;exact m⟩
    ·have h1:=B.2 fun _=>by rw[L];exact U
     have hz':=VF U;have J:((i:Int)==o.length)=false:=by rw[w8];omega
     have b:=n (by omega);subst F;rw[a]at b;have K:((o.take i++c::o.drop i).map Val.V).length=o.length+1:=by simp;omega
     simp[u,w,y,W,X,h6,d,a,hit,hb,G,bP,H,f,U,hz',J,b,nP,D,zs,zF,zr];exact⟨p,by rw[t _ h1];exact .inr ⟨Z+1,by omega,by rw[K],by simp⟩⟩
  ·obtain rfl:i=o.length:=by omega
   have h1:=(ow c o o.length (zk _) s (fun h=>absurd h (by omega))).2 (fun h=>absurd h (by omega));have b:=n (zk _);simp[u,w,y,W,X,h6,d,a,bP,b,nP,D,zs,zF,zr];rw[we,zA]at h1;have K:((o++[c]).map Val.V).length=o.length+1:=by simp
   exact⟨p,by rw[t _ h1];exact .inr ⟨Z+1,by omega,by rw[K],by simp⟩⟩
 ·obtain rfl:k=l.length:=by omega
  rw[we]at m;simp[u,w,y,f71];exact m.freeze _
theorem Ro{l:List Val}(h:kh l<=qg)(f:l≠[]){Y:Hp}{Z:Nat}{v:O}(g:qN Y Z 43 5 v (l.map Val.V)) :
  ∃Y1,zn true [] Fvso [v] Y Z=some (.sl 5 ((QD l).map Val.V),Y1,Z)/\∀j,(∀n,v≠.own j 0 n)->Y1 j=Y j:=by
 have c:0<(l.map Val.V).length:=by rw[yj];exact kc.2 f
 obtain⟨id,hid,rfl,i⟩:=g.at_ c;have k:Fvso (yR [] [.sl 5 (l.map Val.V)])=some (.sl 5 ((QD l).map Val.V)):=qX (V:=fun l:List Val=>[O.sl 5 (l.map Val.V)]) (a:=l) (fun a b e=>by
  simp only[zq,qh]at e;injection e with _ e
  exact Rn e) h
 have d:zH Y [.own id 0 (l.map Val.V).length]=some ([.sl 5 (l.map Val.V)],qf Y id none):=by simp[zH,i];exact qi (by simp)
 unfold zn;simp only[d,k];split
 ·exact⟨_,rfl,fun _ _=>rfl⟩
 ·rw[zg trivial];exact⟨_,rfl,fun j m=>zc _ _ _ _ (by rintro rfl;exact m _ rfl)⟩
end Go.Q
namespace Go.AM
end Go.AM
namespace Go.Q
open Go.RowKit Go.AM Go.PrLaw
section
variable{Y h:Hp}{Z Z' m:Nat}{cur l:za}{b0:Blk}{K:Hp->Hp}
end
noncomputable def FOw:zb->Option O:=qW (α:=Int) (fun n=>[int n]) (fun n=>0<=n/\n<=12) (fun n=>str (Q6 n))
theorem Rp(n:Int)(Y:Hp)(Z:Nat)(h:0<=n/\n<=12):zn false [] FOw [int n] Y Z=some (str (Q6 n),Y,Z):=
 iX n _ _ rfl (fun a b e=>by simpa using e) h (.inl rfl)
theorem AW:zi prog 50 (zn false [] FOw):=
 VG jj func50 false [] fun n ⟨a,b⟩=>by
  refine⟨by simp[f50],_,zu rfl ?_,q9 _⟩;rcases(by omega:n=0\/n=1\/n=2\/n=3\/n=4\/n=5\/n=6\/n=7\/n=8\/n=9\/n=10\/n=11\/n=12)with rfl|rfl|rfl|rfl|rfl|rfl|rfl|rfl|rfl|rfl|rfl|rfl|rfl <;>
   simp[zs,zF,zr,maxLen,Q6,fY,f50]
end Go.Q
namespace Go.AM
variable{dr:Prop}{C:Ctx}{N:Nat}{pf:FuncId->Bool}
variable{dr:Prop}{C:Ctx}{N:Nat}{pf:FuncId->Bool}
variable{dr:Prop}{C:Ctx}{N:Nat}{pf:FuncId->Bool}
structure Des (d:Nat->Nat) (v:Nat->O) (n:Nat) (σ0:Nat->O) (ls:Array Bool) (M:Nat->O):Prop where
 done:∀j,j<n->ls[j]?=some true->M (d j)=v j
 rest:∀t,(∀j,j<n->d j≠t)->M t=σ0 t
variable{dr:Prop}{C:Ctx}{N:Nat}{pf:FuncId->Bool}
section
variable{f:FuncId}{fn:Func}{code:Code}
theorem JT(i:bt C pf f fn code)(j:Bool)(U:List Nat)(F:zb->Option O)(W:∀args r,F args=some r->args.length<=fn.ntmps/\Wp dr C fn.ntmps code ⟨km args,fun _=>none,0⟩ (KO C.P fn (zbP r))):wO dr C.P f (zn j U F):=by
 refine⟨⟨fn,i.func,i.name,by rw[i.body];rfl⟩,?_⟩;intro args Y Z r Y' Z' h w S G vs L X;unfold zn at h;split at h
 ·rename_i avs Y1 s;split at h
  ·rename_i r0 t;obtain⟨hn,hW⟩:=W _ r0 t;obtain⟨S1,q,u,y⟩:=js (dr:=dr) L s X;refine(V5 i.func i.body hW (X4 (fun _=>⟨0,0,0⟩) q.inv.st q.inv.eC) (Ql u).closed hn).mono fun e N hh=>?_
   obtain⟨x,hpe,nxe,v,S',G',⟨r1,l,z⟩,Q,k,hx⟩:=hh;have R:Fr dr w (fun _=>False) N:=⟨k.fr.os,k.fr.tape,k.fr.output,k.fr.size,k.fr.drawn,fun b d _=>k.fr.block b d vR⟩;obtain⟨⟨r2,hpf⟩,A,m⟩:=zU l;simp only at m;subst m;obtain⟨S2,T,B⟩:=Za (dr:=dr) k.inv A hx;have D:=z _ _ _ B;have n:∀b,S2 b->S1 b\/(w.heap.size<=b/\b<N.heap.size):=by
    intro b d;have o:=T.inv.st b d;rcases T.from_ b d with h1|⟨id,blk,h1,rfl⟩|h1
    ·rcases k.from_ b h1 with a|a|a
     ·exact .inl a
     ·exact(vR a).elim
     ·exact .inr ⟨a,o⟩
    ·rcases k.own id blk h1 with a|a
     ·exact(vR a).elim
     ·exact .inr ⟨a,o⟩
    ·exact absurd h1 (by omega)
   split at h
   ·rename_i g;injection h with h
    injection h with E h;injection h with H I;subst E;subst H;subst I;refine⟨v,_,G,Q,kN.outer L R,.c ?_⟩;rcases g with J|K
    ·exact cK D J
    ·have p:=y K;exact D.mono fun b d=>⟨by rw[<-p];exact n b d,rfl⟩
   ·split at h
    ·injection h with h;injection h with E h;injection h with H I;subst E;subst H;subst I;exact⟨v,_,G,Q,q.trans (kN.outer q.inv R),.c (D.mono fun b d=>⟨n b d,rfl⟩)⟩
    ·cases h
  ·cases h
 ·cases h
end
end Go.AM
namespace Go.Q
theorem xU{Y Y2:Hp}{Z:Nat}{x r0 r:O}(a:AM.freeze Y x=some (r0,Y2)){u:O->O}(b:sX u)(c:u r0=r):zbP r x Y Z:=⟨r0,by rw[a];rfl,fun w S v d=>c ▸ b w S r0 v d⟩
abbrev uR3:O->O:=TZ [uV]
theorem zdX:sX uR3:=.wL fun u a=>by simp only[zv,wu,or_false]at a;subst a;exact kD
noncomputable def Rq (a:za×Nat):O:=.wL [.agg (Zo zy a.1 a.2).1.V,int (Zo zy a.1 a.2).2.1,int (Zo zy a.1 a.2).2.2]
noncomputable def FRa:zb->Option O:=qW (α:=za×Nat) (fun a=>[str a.1,int a.2]) (fun a=>a.1.length<=1048576/\a.2<=a.1.length) Rq
noncomputable abbrev raS:AM.Spec:=zn false [] FRa
theorem DF(s:za)(p:Nat):Rq (s,p)=.wL [.agg (Zo zy s p).1.V,int (Zo zy s p).2.1,int (Zo zy s p).2.2]:=rfl
theorem Rr(s:za)(p:Nat)(Y:Hp)(Z:Nat)(hs:s.length<=1048576)(h:p<=s.length):raS [str s,int p] Y Z=some (Rq (s,p),Y,Z):=
 jm (Y1:=Y) rfl (qX (V:=fun a:List UInt8×Nat=>[str a.1,int a.2]) (a:=(s,p)) (fun a b e=>by obtain⟨c,d⟩:=a;obtain⟨f,g⟩:=b;simp only[zq,qh]at e;have i:=qA e.2;exact Sw (yp e.1) (by simp only;omega)) ⟨hs,h⟩) (.inr rfl)
def Dra:List (Tmp×Tmp):=[(7,4),(20,4),(21,4),(22,4),(24,4),(25,4),(26,4),(29,4),(30,4),(31,4)]
def ox(i:Nat):List (Tmp×Tmp):=if i<4 then[]else Dra
theorem Rs{i:Nat}(h:i<4):ox i=[]:=zg h
@[simp]theorem Tl(P:Program)(l:Je)(i:Nat)(a:Array Oper)(d:Bool)(st:St)(K:Exit->St->Prop)(h:i<4):Zl (vS P l ox) (.region i a d) st K=iV (vS P l ox) a a.toList st (Wr K):=ZZ _ i a d st K (Rs h) rfl
theorem XO{P:Program}{l:Je}{i:Nat}{a:Array Oper}{d:Bool}{st:St}{K:Exit->St->Prop}{blk:Blk}(b:st.M 4=.ref 0 0 0)(c:st.M 7=.ref 1 0 0)(f:∀t,20<=t->t<32->st.M t=.wL [])(g:st.Y 0=some blk)(h:blk.arr=false)(k:¬i<4):Zl (vS P l ox) (.region i a d) st K=iV (vS P l ox) a a.toList st (Wr K):=
 kW _ i a d st K (by
  rw[show(vS P l ox).dyn i=Dra from zf k];intro p Y id i j e;have Y2:p.2=4:=by simp only[Dra,zv,wu,or_false]at Y;rcases Y with rfl|rfl|rfl|rfl|rfl|rfl|rfl|rfl|rfl|rfl<;>rfl
  rw[Y2];refine⟨0,0,0,blk,b,?_,g,h⟩;simp only[Dra,zv,wu,or_false]at Y;rcases Y with rfl|Y
  ·rw[c]at e;injection e with e _ _
   omega
  ·have:20<=p.1/\p.1<32:=by rcases Y with rfl|rfl|rfl|rfl|rfl|rfl|rfl|rfl|rfl<;>decide
   rw[f _ this.1 this.2]at e;cases e) (fun s hs=>by cases hs)
noncomputable abbrev Cxra:Ctx:=vS prog [(79,P8)] ox
theorem zaM:Gd Cxra:=V2 _ mixed ⟨Du,by simp,trivial⟩
theorem Mi:zi prog 62 raS:=
 JT (C:=Cxra) (pf:=fun g=>([]:List Nat).contains g) ⟨func62,by kernel_rfl,rfl,by kernel_rfl⟩ false [] _ fun args r h=>by
  obtain⟨⟨s,p⟩,rfl,⟨hs,Y⟩,rfl⟩:=zL h;simp only at hs Y;refine⟨by simp[f62],?_⟩;clear h;refine Wp.of zaM (by kernel_rfl) ?_;obtain⟨x,f,m⟩:∃x f,J8 zy s (s.length+1) ⟨p,0,0⟩=(x,f):=⟨_,_,rfl⟩;have g:=fun(o:Hp) (id Z:Nat) (d:o id=some (wH s ⟨p,0,0⟩))=>Gq (s:=s) (st:=⟨p,0,0⟩) (Z:=Z) d hs Y
  simp only[Xz,m,wD]at g;rw[DF,Zo];simp only[m];refine zM (fun M Y Z=>M 0=str s/\M 1=int p/\M 4=.ref 0 0 0/\(∀t,20<=t->t<32->M t=.wL [])/\Y 0=some jC/\Z=1) ?_ ?_
  ·simp[jC];intro t c j;rw[zc _ _ _ _ (by omega),zc _ _ _ _ (by omega),zc _ _ _ _ (by omega)];show([str s,int p][t]?).getD (.wL [])=_;rw[wq (by simp only[zd,ze];omega)];rfl
  rintro M Y1 _ ⟨n,c,a,k,b,rfl⟩;refine zM (fun M Y Z=>M 4=.ref 0 0 0/\M 7=.ref 1 0 0/\(∀t,20<=t->t<32->M t=.wL [])/\Y 0=some jC/\Y 1=some (wH s ⟨p,0,0⟩)/\Z=2) ?_ ?_
  ·simp[n,c,a,b,zc,zI,qe,zz,zN];intro t c j;rw[zc _ _ _ _ (by omega),zc _ _ _ _ (by omega),zc _ _ _ _ (by omega),zc _ _ _ _ (by omega),zc _ _ _ _ (by omega)];exact k t c j
  clear n c a k b M Y1;rintro M Y1 _ ⟨a,i,k,b,d,rfl⟩;have g:=g Y1 1 2 d;refine zM (fun M Y Z=>M 4=.ref 0 0 0/\M 7=.ref 1 0 0/\(∀t,20<=t->t<32->M t=.wL [])/\Y 0=some ⟨43,5,false,[x.V]⟩/\Y 1=some (wH s f)/\Z=2) ?_ ?_
  ·simp only[jC]at b;simp[a,i,g,b,zc,wD];intro t c j;rw[zc _ _ _ _ (by omega),zc _ _ _ _ (by omega)];exact k t c j
  clear a i k b d g M Y1;rintro M Y1 _ ⟨a,i,k,b,d,rfl⟩;simp only[zz,zN,zd,ze,zh,Nat.reduceAdd,wD]at d b;by_cases l:f.e=0
  ·rw[zg l];simp[a,i,d,l];rw[XO (blk:=⟨43,5,false,[x.V]⟩) (by simp[a]) (by simp[i]) (fun t c j=>by simp;rw[zc _ _ _ _ (by omega),zc _ _ _ _ (by omega),zc _ _ _ _ (by omega),zc _ _ _ _ (by omega),zc _ _ _ _ (by omega)];exact k t c j) (by show Y1 0=_;rw[b,wD]) rfl (by omega)];simp[a,i,d,b,l,zc,f62];exact xU rfl .id (by simp[wD])
  ·rw[zf l];simp[a,i,d,l,Zw l,bne];rw[XO (blk:=⟨43,5,false,[x.V]⟩) (by simp[a]) (by simp[i]) (fun t c j=>by simp;rw[zc _ _ _ _ (by omega),zc _ _ _ _ (by omega),zc _ _ _ _ (by omega),zc _ _ _ _ (by omega),zc _ _ _ _ (by omega)];exact k t c j) (by show Y1 0=_;rw[b,wD]) rfl (by omega)];simp[a,i,d,b,zI,qe,zc,f62];exact xU rfl zdX rfl
section
variable{s:za}
def cw(s:za)(a b:Jst):Prop:=a.i<=s.length->b.i<=s.length
theorem cw.iT(a:Jst):cw s a a:=fun h=>h
theorem cw.trans{a b c:Jst}(d:cw s a b)(e:cw s b c):cw s a c:=fun h=>e (d h)
theorem WT(st:Jst)(k:Nat)(x:Int):cw s st (st.fail s.length k x):=fun h=>by
 unfold Jst.fail;split
 ·exact Nat.min_le_right _ _
 ·exact h
theorem VE(st:Jst):cw s st (Qe s st):=fun h=>h
theorem ZI(st:Jst):cw s st st.qH:=fun h=>h
theorem oy(st:Jst)(c:UInt8):cw s st (QK s st c).2:=by
 unfold QK;split
 ·exact ZI st
 ·exact WT st _ _
theorem HU:∀(w:za) (st:Jst),cw s st (Ep s w st)
 |[],st=>.iT st
 |c::w,st=>by
  rw[Ep];split
  ·exact(oy st c).trans (HU w _)
  ·exact oy st c
theorem Rt(most:Nat):∀(l:za) (n m:Nat) (st:Jst),cw s st (mD s most l n m st).2.2
 |[],n,m,st=>by
  rw[mD];simp only;split
  ·exact WT _ _ _
  ·exact .iT _
 |c::l,n,m,st=>by
  rw[mD];split
  ·split
   ·exact WT _ _ _
   ·exact(ZI st).trans (Rt most l _ _ _)
  ·simp only;split
   ·exact WT _ _ _
   ·exact .iT _
theorem zdY(st:Jst):cw s st (Xd s st).2:=by
 unfold Xd;split
 ·simp only;split
  ·exact(ZI st).trans (WT _ _ _)
  ·exact ZI st
 ·exact Rt _ _ _ _ _
theorem zaN(n:Nat)(st:Jst):cw s st (Wt s n st).2:=by
 unfold Wt;split
 ·exact(ZI st).trans (Rt _ _ _ _ _)
 ·exact .iT _
theorem zdZ(st:Jst):cw s st (aE s st).2:=by
 simp only[aE];refine cw.trans ?_ ((zdY _).trans (zaN _ _));split
 ·exact ZI st
 ·exact .iT _
theorem HV:∀(k n:Nat) (st:Jst),cw s st (eB s k n st).2
 | 0,n,st=>ZI st
 |k+1,n,st=>by
  rw[eB];split
  ·exact(ZI st).trans (HV k _ _)
  ·exact(ZI st).trans (WT _ _ _)
theorem zd0(st:Jst):cw s st (WQ s st).2:=by
 unfold WQ;split
 ·exact ZI st
 ·split
  ·exact WT _ _ _
  ·split
   ·exact HV _ _ _
   ·simp only;split
    ·exact(HV _ _ _).trans (WT _ _ _)
    ·exact HV _ _ _
theorem Ru:∀(k:Nat) (b:za) (st:Jst),cw s st (AZ s k b st).2
 | 0,b,st=>.iT st
 |k+1,b,st=>by
  rw[AZ];split
  ·exact .iT _
  ·split
   ·exact WT _ _ _
   ·split
    ·exact ZI _
    ·split
     ·exact((ZI st).trans (zd0 _)).trans (Ru k _ _)
     ·exact(ZI st).trans (Ru k _ _)
theorem As(st:Jst):cw s st (jt s st).2:=by
 unfold jt;split
 ·exact(oy st _).trans (Ru _ _ _)
 ·exact oy st _
theorem zb5{f:Jst->Val×Jst}(a:∀st,cw s st (f st).2):∀(k:Nat) (l:List Val) (st:Jst),cw s st (Er s f k l st).2
 | 0,l,st=>.iT st
 |k+1,l,st=>by
  rw[Er];split
  ·exact .iT _
  ·simp only;split
   ·exact((a st).trans (VE _)).trans (((ZI _).trans (VE _)).trans (zb5 a k _ _))
   ·exact((a st).trans (VE _)).trans (oy _ _)
theorem zaO{f:Jst->Val×Jst}(a:∀st,cw s st (f st).2)(st:Jst):cw s st (Zy s f st).2:=by
 unfold Zy;simp only;split
 ·exact((ZI st).trans (VE _)).trans (ZI _)
 ·exact((ZI st).trans (VE _)).trans (zb5 a _ _ _)
theorem Gy(seen:List za)(st:Jst):cw s st (bF s seen st):=by
 unfold bF;refine cw.trans ?_ ((VE _).trans ((oy _ _).trans (VE _)));unfold Wu;split
 ·exact(As st).trans (WT _ _ _)
 ·exact As st
theorem zb6{f:Jst->Val×Jst}(a:∀st,cw s st (f st).2):∀(k:Nat) (seen:List za) (l:List (za×Val)) (st:Jst),cw s st (Es s f k seen l st).2
 | 0,seen,l,st=>.iT st
 |k+1,seen,l,st=>by
  rw[Es];split
  ·exact .iT _
  ·simp only;split
   ·exact Gy _ _
   ·split
    ·exact(((Gy _ _).trans (a _)).trans (VE _)).trans (((ZI _).trans (VE _)).trans (zb6 a k _ _ _))
    ·exact(((Gy _ _).trans (a _)).trans (VE _)).trans (oy _ _)
theorem zd1{f:Jst->Val×Jst}(a:∀st,cw s st (f st).2)(st:Jst):cw s st (YJ s f st).2:=by
 unfold YJ;simp only;split
 ·exact((ZI st).trans (VE _)).trans (ZI _)
 ·exact((ZI st).trans (VE _)).trans (zb6 a _ _ _ _)
theorem Rv(a:List (za×Val)->List (za×Val)):∀(k:Nat) (st:Jst),cw s st (J8 a s k st).2
 | 0,st=>.iT st
 |k+1,st=>by
  have b:=Rv a k;rw[J8];split
  ·exact WT _ _ _
  split
  ·exact HU _ _
  split
  ·exact HU _ _
  split
  ·exact HU _ _
  split
  ·exact As _
  split
  ·exact zaO b _
  split
  ·exact zd1 b _
  split
  ·exact zdZ _
  ·exact WT _ _ _
theorem DG{p:Nat}(h:p<=s.length):(Zo zy s p).2.1<=s.length/\((Zo zy s p).2.2=0->p<=(Zo zy s p).2.1/\(Zo zy s p).1.vb<=(Zo zy s p).2.1-p+1)/\((Zo zy s p).2.2≠0->(Zo zy s p).1=zV):=by
 have a:=lr s (s.length+1) ⟨p,0,0⟩ h;have b:=Rv (s:=s) zy (s.length+1) ⟨p,0,0⟩ (jb _);simp only[Xz]at a;simp only[Zo];split
 ·exact⟨a.2.1,fun _=>⟨a.1,a.2.2⟩,fun h=>absurd rfl h⟩
 ·rename_i c;exact⟨b,fun h=>absurd h c,fun _=>rfl⟩
end
theorem Mj{st:St}{y:O}{s:Tmp}(k:Nat)(c:s-zB=k)(b:st.M s=.wL [])(d:st.M k=y)(h:y.Y7=true):Qh [s] st:=fun t e=>by obtain rfl:=wA.1 e;exact⟨⟨fun id' o n a=>(by rw[b]at a;cases a),fun id' i' j' a=>by rw[b]at a;cases a⟩,fun _=>by rw[c,d];exact h⟩
noncomputable abbrev Cvap:Ctx:=YI prog [(34,Ap),(9,DB),(22,oj),(62,raS)] 7 [1000003] []
theorem zaP:AM.Good Cvap (fun g=>[62].contains g):=BM mixed ⟨Kt,by simp,Yy,by simp,XM,by simp,Mi,fun _=>zt _ _,trivial⟩ ⟨by simp,by simp,by simp,by simp,trivial⟩
noncomputable abbrev vaPS:AM.Spec:=mP aU (fun _ _ _=>True) (fun s st _=>(JA s zy st).2) (fun s st _=>.agg (JA s zy st).1.V)
theorem dV{s:za}{st:Pst}{Y:Hp}{id Z:Nat}(a:Y id=some (yg s st))(hs:s.length<=20000)(b:st.p<=s.length):vaPS [.ref id 0 0] Y Z=some (.agg (JA s zy st).1.V,qf Y id (some (yg s (JA s zy st).2)),Z):=Zg y5 (fun _=>rfl) () a hs b trivial
theorem zb7:zV.vb=1:=by rw[kv];simp[zV,Val.s,Val.items,Val.fields,kh,QJ]
theorem oz{s:za}{st:Pst}(h:st.p<=s.length):(JA s zy st).2.p<=s.length/\(JA s zy st).2.d=st.d/\((JA s zy st).2.e=0->st.e=0/\st.p<=(JA s zy st).2.p/\(JA s zy st).1.vb<=(JA s zy st).2.p-st.p+1)/\((JA s zy st).2.e≠0->(JA s zy st).1=zV):=by
 have a:=kQ (s:=s) h;have c:=Vn (s:=s) a.2.1;have f:=DG (s:=s) a.2.1;simp only[JA];split
 ·rename_i b;exact⟨a.2.1,a.2.2.2.2,fun e=>absurd (a.2.2.1.symm.trans e) b,fun _=>rfl⟩
 ·rename_i b;have b:st.e=0:=by simpa using b
  split
  ·exact⟨c.2.1,c.2.2.1.trans a.2.2.2.2,fun e=>absurd e c.2.2.2,fun _=>rfl⟩
  ·simp only[Pst.mv];refine⟨f.1,?_,?_,?_⟩
   ·split
    ·exact a.2.2.2.2
    ·rw[(JB _ _ _).2];exact a.2.2.2.2
   ·split
    ·rename_i g;have:=f.2.1 g;intro _;exact⟨b,by omega,by omega⟩
    ·intro e;exfalso;unfold Pst.fail at e;rw[zg (a.2.2.1.trans b)]at e;simp at e
   ·split
    ·intro e;exact absurd (a.2.2.1.trans b) e
    ·rename_i g;intro _;exact f.2.2 g
theorem sL:zi prog 39 vaPS:=
 wi (code:=_) zaP ⟨func39,by kernel_rfl,rfl,by kernel_rfl⟩ TP _ fun cs az cs' r h=>by
  obtain⟨s,st,⟨⟩,rfl,rfl,hs,Y,hk,rfl,rfl⟩:=vf h;refine⟨by simp[aU,f39],?_⟩;clear h;have u:=kQ (s:=s) Y;have E:=oo (s:=s) Y;obtain⟨f,J⟩:=wM (y8 s st);obtain⟨w,N⟩:=wM (KF s st);simp only[JA];rw[J]at u E;rw[N]at E;rw[J,N];refine zM (fun M Y Z=>M 0=.ref 0 0 0/\M 2=.ref 1 0 0/\M 1000003=.wL []/\Y 0=some (yg s st)/\Y 1=some jC/\Z=2) (by simp[aU,zZ,zz,qd,jC,zc,km]) ?_;rintro M Y1 _ ⟨b,d,j,n,o,rfl⟩;have P:=YW (Z:=2) n hs Y;rw[J,N]at P;refine zM (fun M Y Z=>M 0=.ref 0 0 0/\M 2=.ref 1 0 0/\M 1000003=.wL []/\M 3=str w/\Y 0=some (yg s f)/\Y 1=some jC/\Z=2) (by simp[b,d,j,P,o,zc]) ?_;clear b d j n o P M Y1;rintro M Y1 _ ⟨b,d,j,t,n,o,rfl⟩;have y:=n;have B:=o;simp only[jC]at B;simp only[zz,qd,zd,ze,zh,Nat.reduceAdd]at y;have F:f.e=st.e:=u.2.2.1;by_cases K:st.e=0
  case neg=>
   have C:¬f.e=0:=by rw[F];exact K
   rw[zg K];simp[b,d,y,B,C,Zw C,bne,zI,qe,f39];exact qc rfl (by rw[zc _ _ _ _ (by decide)];exact n) kD rfl
  rw[zf (by simpa using K)];have C:f.e=0:=F.trans K;refine zM (fun a Y Z=>a 0=.ref 0 0 0/\a 2=.ref 1 0 0/\a 1000003=.wL []/\a 3=str w/\Y=Y1/\Z=2) (by simp[b,d,t,j,y,C]) ?_;clear b d t j M;rintro M Y1 _ ⟨b,d,j,t,rfl,rfl⟩;have Q:=YX (Z:=2) n hs u.2.1;have R:ch s f=ch s (y8 s st):=by rw[J]
  simp only[zz,qd,zd,ze,zh,Nat.reduceAdd]at Q;cases v:VL w
  case true=>
   rw[zg rfl];cases w with
   |nil=>cases v
   |cons c l=>
    simp only[VL,zD,q5,QF]at v;obtain⟨⟨⟨⟨S,T⟩,D⟩,G⟩,L⟩:=v;have i:(97:Int)<=c.toNat:=by have:=yv.1 S;simp at this;omega
    have k:(c.toNat:Int)<=122:=by have:=yv.1 T;simp at this;omega
    simp[b,d,t,i,k,D,G,L,Q,B,zc,zI,qe,f39];exact qc rfl (by simp[zc,zz,qd]) kD rfl
  rw[zf (by simp)];refine zM (fun a Y Z=>a 0=.ref 0 0 0/\a 2=.ref 1 0 0/\a 1000003=.wL []/\a 3=str w/\Y=Y1/\Z=2) ?_ ?_
  ·cases w with
   |nil=>simp[b,d,t,j]
   |cons c l=>
    by_cases S:97<=c.toNat
    case neg=>
     have i:¬(97:Int)<=c.toNat:=by omega
     simp[b,d,t,j,i]
    have i:(97:Int)<=c.toNat:=by omega
    by_cases T:c.toNat<=122
    case neg=>
     have k:¬(c.toNat:Int)<=122:=by omega
     simp[b,d,t,j,i,k]
    have k:(c.toNat:Int)<=122:=by omega
    have d1:decide (97<=c)=true:=by simpa[yv]using S
    have d2:decide (c<=122)=true:=by simpa[yv]using T
    cases D:(c::l==[110,117,108,108])
    case true=>simp[b,d,t,j,i,k,D]
    cases G:(c::l==[116,114,117,101])
    case true=>simp[b,d,t,j,i,k,D,G]
    cases L:(c::l==[102,97,108,115,101])
    case true=>simp[b,d,t,j,i,k,D,G,L]
    simp only[VL,d1,d2,D,G,L]at v;cases v
  clear b d j t Q R v M;rintro M Y1 _ ⟨b,d,j,t,rfl,rfl⟩;have hr:=DG (s:=s) u.2.1;have g:=fun Y Z=>Rr s f.p Y Z (by omega) u.2.1
  simp only[DF]at g;obtain⟨⟨x,q,e⟩,hx⟩:∃r,Zo zy s f.p=r:=⟨_,rfl⟩;rw[hx]at hr;simp only[hx]at g hr⊢;simp only[wD]at g;refine zM (fun a Y Z=>a 0=.ref 0 0 0/\a 2=.ref 1 0 0/\a 4=.ref 2 0 0/\a 5=int q/\a 6=int e/\Y 0=some (yg s f)/\Y 1=some jC/\Y 2=some ⟨43,5,false,[x.V]⟩/\Z=3) ?_ ?_
  ·rw[ik (Mj 3 (by decide) j t rfl)];simp[b,d,y,o,g,zc,wD,zz,qd]
  clear b d j t n y o B M Y1;rintro M Y1 _ ⟨b,d,H,I,U,n,o,m,rfl⟩;simp only[jC]at o;simp only[wD]at m;obtain⟨W,z⟩:=wM (if e=0 then f else f.fail q 10);rw[z];have X:=Vm (Z:=3) q 10 n hs u.2.1;simp only[zz,qd,zd,ze,zh,Nat.reduceAdd]at X;refine zM (fun a Y Z=>a 0=.ref 0 0 0/\a 2=.ref 1 0 0/\a 4=.ref 2 0 0/\a 5=int q/\Y 0=some (yg s W)/\Y 1=some jC/\Y 2=some ⟨43,5,false,[x.V]⟩/\Z=3) ?_ ?_
  ·by_cases A:e=0
   ·rw[zg A]at z;subst z;simp[b,d,H,I,U,A,n,o,m,wD,jC]
   ·rw[zf A]at z;subst z;simp[b,d,H,I,U,A,Zw A,bne,X,o,m,wD,jC,zc,zz,qd]
  clear b d H I U n o m X M Y1;rintro M Y1 _ ⟨b,d,H,I,n,o,m,rfl⟩;simp only[jC]at o;simp only[wD]at m;simp only[zz,qd,zd,ze,zh,Nat.reduceAdd]at n;simp[b,d,H,I,n,o,m,zc,Pst.mv,f39];exact qc rfl (by simp[zc,zz,qd]) .id (by simp[wD])
noncomputable def XP (p:Val):List Val->List Val
 |[]=>[]
 |b::l=>if(qG b p==0)=true then XP b l else b::XP b l
noncomputable def oA:List Val->List Val
 |[]=>[]
 |a::l=>a::XP a l
noncomputable def FVq:zb->Option O:=qW (α:=Val×Val) (fun a=>[.agg a.1.V,.agg a.2.V]) (fun a=>a.1.vb<=qg/\a.2.vb<=qg) (fun a=>yh (qG a.1 a.2==0))
theorem DH(a b:Val)(Y:Hp)(Z:Nat)(c:a.vb<=qg)(d:b.vb<=qg):zn false [] FVq [.agg a.V,.agg b.V] Y Z=some (yh (qG a b==0),Y,Z):=
 iX (a,b) _ _ (by simp[wD]) (fun a b e=>by obtain⟨f,g⟩:=a;obtain⟨h,i⟩:=b;simp only[zq,qh,O.agg.injEq]at e;rw[xq e.1,xq e.2]) ⟨c,d⟩ (.inl rfl)
noncomputable abbrev Cvq:Ctx:=qj prog [(64,zn false [] (OJ qg))]
theorem zd2:AM.Good Cvq (fun g=>[64].contains g):=qx mixed ⟨YP qg,fun _=>zt _ _,trivial⟩
theorem Rw:zi prog 66 (zn false [] FVq):=
 VG zd2 func66 false [] fun⟨a,b⟩ ⟨c,d⟩=>by
  simp only at c d;have g:=fun Y Z=>Qv qg a b Y Z ⟨c,c,d⟩
  simp only[wD]at g;refine⟨by simp[f66],_,zu rfl (r:=yh (qG a b==0)) ?_,q9 _⟩;simp[g,wD,zc,f66]
noncomputable abbrev Ccpt:Ctx:=qj prog [(66,zn false [] FVq)]
theorem zaQ:Gd Ccpt:=qQ mixed ⟨Rw,trivial⟩
noncomputable abbrev cptS:AM.Spec:=kX Ccpt f65
theorem Mk:zi prog 65 cptS:=J3 zaQ func65
abbrev XQ(es:List zb):Blk:=⟨43,5,true,es⟩
def CptK(id:Nat)(l:List Val)(a:Hp)(b:Nat)(x:O)(Y:Hp)(Z:Nat):Prop:=Z=b/\∃k es,x=.own id 0 k/\Y=qf a id (some (XQ es))/\es.take k=(oA l).map Val.V/\k<=es.length
theorem Rx{Y:Hp}{id n k:Nat}{es:List zb}{K:Int}(a:Y id=some (XQ es))(b:K=(k:Int))(f:0<k)(h:k<n):yZ prog Y 22 (.own id 0 n) (some (some (int K))) none=some (.own id k (n-k)):=by
 subst b;have c:¬k=0:=by omega
 have d:¬n=k:=by omega
 have e:k<=n:=by omega
 simp[yZ,underlying22,kl,a,c,d,e]
theorem zd3{Y:Hp}{id n k:Nat}{es:List zb}{K:Int}(a:Y id=some (XQ es))(b:K=(k:Int))(h:k<=n):yZ prog Y 22 (.own id 0 n) none (some (some (int K)))=some (.own id 0 k):=by subst b;simp[yZ,underlying22,kl,a,h]
theorem Ry{Y:Hp}{id Z n k:Nat}{es:List zb}(b:Y id=some (XQ es))(e:es.length=n)(h:k<n):∃a,VQ prog Y Z 22 (.own id k (n-k))=some (.wL [],qf Y id (some (XQ a)),Z)/\a.take k=es.take k/\k<=a.length:=by
 have c:k+(n-k)<=es.length:=by omega
 have d:0<n-k:=by omega
 have f:k<=es.length:=by omega
 refine⟨es.take k++List.replicate (n-k) [int 0,int 0,str [],.nil,.nil]++es.drop (k+(n-k)),?_,?_,?_⟩
 ·simp[VQ,b,c,d]
 ·rw[qP,List.take_append_of_le_length (by rw[yu];omega),List.take_take,Nat.min_self]
 ·simp;omega
theorem zaR{Y:Hp}{id a:Nat}{es:List zb}(j:Y id=some (XQ es))(h:a<es.length)(k:∀c∈es,c.length=5)(y:Val):ZY prog Y 43 (.ref id a 0) (.agg y.V)=some (qf Y id (some (XQ (es.set a y.V)))):=by
 have i:=k es[a] (zw h);obtain⟨b,d,e,f,g,l⟩:∃b d e f g,es[a]=[b,d,e,f,g]:=by
  generalize es[a]=c at i
  match c,i with
  |[b,d,e,f,g],_=>exact⟨b,d,e,f,g,rfl⟩
 have m:es[a]?=some [b,d,e,f,g]:=by rw[zo h,l]
 simp[ZY,j,m,wD,yF,O.cells,O.ye]
theorem zaS{l:List Val}(h:l.length<2):oA l=l:=
 match l,h with
 |[],_=>by simp[oA]
 |[a],_=>by simp[oA,XP]
 |_::_::_,h=>by simp only[zd]at h;omega
theorem zaT{l:List Val}(hl:kh l<=qg){Y:Hp}{Z id:Nat}(hid:id<Z)(X:Y id=some (XQ (l.map Val.V))):∃x J Z',jr Ccpt f65 [.own id 0 l.length,.fn (.func 66) [] []] Y Z=some (x,J,Z')/\CptK id l Y Z x J Z':=by
 refine w9 rfl ?_;have hlen:=yT l;have hlim:qg=268435456:=rfl;have B:=fun(x:Val) (hx:x∈l)=>jZ hx
 have s:qf Y id (some (XQ (l.map Val.V)))=Y:=by
  funext j;by_cases f:j=id
  ·subst f;rw[wR,X]
  ·rw[zc _ _ _ _ f]
 by_cases Q:l.length<2
 ·have F:(l.length:Int)<2:=by omega
  simp[F,f65];exact⟨rfl,l.length,l.map Val.V,rfl,s.symm,by rw[zaS Q,qi (by simp)],by simp⟩
 have F:¬(l.length:Int)<2:=by omega
 refine zM (fun M Y1 e=>M 0=.own id 0 l.length/\M 1=.fn (.func 66) [] []/\Y1=Y/\e=Z) (by simp) ?_;rintro M Y Z ⟨o,f,rfl,rfl⟩;refine zM (fun M Y1 e=>M 0=.own id 0 l.length/\M 1=.fn (.func 66) [] []/\Y1=Y/\e=Z) (by simp[o,f,F]) ?_;clear o f M;rintro M Y Z ⟨o,f,rfl,rfl⟩;refine zM (fun M Y1 e=>M 0=.own id 0 l.length/\oA l=l/\Y1=Y/\e=Z) ?_ ?_
 case refine_2=>clear o f M;rintro M Y Z ⟨o,v,rfl,rfl⟩;simp[o,f65];exact⟨rfl,l.length,l.map Val.V,rfl,s.symm,by rw[v,qi (by simp)],by simp⟩
 simp;refine ql (fun i M Y1 e=>M 0=.own id 0 l.length/\M 1=.fn (.func 66) [] []/\Y1=Y/\e=Z/\∃k:Nat,k=i+1/\M 5=int ((i:Int)+1)/\k<=l.length/\∃p,l[i]?=some p/\oA l=l.take k++XP p (l.drop k)) (l.length-1) ?_ ?_
 ·refine⟨by simp[o],by simp[f],rfl,rfl,1,rfl,by simp,by omega,?_⟩
  match l,Q with
  |[],Q=>simp at Q
  |a::l,Q=>exact⟨a,rfl,by simp[oA]⟩
 clear o f M;rintro i M _ _ hi ⟨o,f,rfl,rfl,k,rfl,C,hk,p,Y0,v⟩;by_cases w:i+1<l.length
 ·have b:(i:Int)+1<l.length:=by omega
  obtain⟨q,R⟩:∃q,l[i+1]?=some q:=⟨_,zo w⟩;have hpv:=B p (zT Y0);have hqv:=B q (zT R);have g:=fun Y Z=>DH q p Y Z (by omega) (by omega)
  have L:i6.wrap ((i:Int)+1-1)=(i:Int):=by rw[wU (by omega) (by omega)];omega
  have u:=wj (i:Int);have N:((i:Int)+1).toNat=i+1:=by omega
  have P:(0:Int)<=(i:Int)+1:=by omega
  have G:i<l.length:=by omega
  have w2:=wj ((i:Int)+1+1);have hd:l.drop (i+1)=q::l.drop (i+1+1):=by rw[zl w,(zj.1 R).2]
  have D:l[i+1]=q:=(zj.1 R).2;have J:l[i]=p:=(zj.1 Y0).2;rw[hd,XP]at v;cases d:(qG q p==0)
  ·rw[d]at g v;simp only[zm,zQ]at v;simp[o,f,C,b,w,G,X,L,u,w2,N,P,D,J,g];exact⟨by omega,by omega,by rw[qE w,D,qP];exact v⟩
  ·rw[d]at g v;simp only[zK]at v;obtain⟨k,S⟩:=wM (i+1);rename_i Y Z;have s1:=Rx (K:=(i:Int)+1) (n:=l.length) (k:=k) X (by omega) (by omega) (by omega);simp[o,f,C,b,w,G,X,L,u,N,P,D,J,g,s1];rw[S]at v hd R;refine ql (fun m M Y1 e=>M 0=.own id 0 l.length/\M 1=.fn (.func 66) [] []/\M 6=.own id k (l.length-k)/\M 7=int ((m:Int)+1)/\e=Z/\k+m<l.length/\∃(r:Nat) (es:List zb) (x:Val),M 5=int r/\Y1=qf Y id (some (XQ es))/\es.length=l.length/\1<=r/\(∀c∈es,c.length=5)/\r<=k+m/\l[k+m]?=some x/\es.take r++(XP x (l.drop (k+m+1))).map Val.V=(oA l).map Val.V/\∀z,k+m<=z->es[z]?=(l.map Val.V)[z]?) (l.length-k) ?_ ?_
   ·exact⟨by simp[o],by simp[f],by simp,by simp,rfl,by omega,k,l.map Val.V,q,by simp[C,<-S],s.symm,by simp,by omega,fun c t=>by obtain⟨z,_,rfl⟩:=qq.1 t;simp[wD],by omega,R,by rw[v,kq,List.map_take],fun _ _=>rfl⟩
   clear o f C b G L u N P D J g d hd hpv hqv s1 M;rintro m M _ Z hm ⟨o,f,h6,h7,rfl,hkm,r,es,x,C,rfl,H,hk1,A,hkm2,hx,t,E⟩;by_cases T:k+m+1<l.length
   ·have b:(m:Int)+1<((l.length-k:Nat):Int):=by omega
    obtain⟨y,hy⟩:∃y,l[k+m+1]?=some y:=⟨_,zo T⟩;have hxv:=B x (zT hx);have hyv:=B y (zT hy);have g:=fun Y Z=>DH y x Y Z (by omega) (by omega)
    have L:i6.wrap ((m:Int)+1-1)=(m:Int):=by rw[wU (by omega) (by omega)];omega
    have u:=wj (m:Int);have w2:=wj ((m:Int)+1+1);have w3:=wv r;have N:((m:Int)+1).toNat=m+1:=by omega
    have P:(0:Int)<=(m:Int)+1:=by omega
    have l1:m+1<l.length-k:=by omega
    have l2:m<l.length-k:=by omega
    have ex:es[k+m]?=some x.V:=by rw[E _ (zk _),qD,hx];rfl
    have ey:es[k+(m+1)]?=some y.V:=by rw[E _ (by omega),qD,show k+(m+1)=k+m+1 by omega,hy];rfl
    have hd:l.drop (k+m+1)=y::l.drop (k+(m+1)+1):=by rw[zl T,(zj.1 hy).2];rfl
    rw[hd,XP]at t;have U:l[k+(m+1)]?=some y:=hy;cases d:(qG y x==0)
    ·rw[d]at g t;simp only[zm,zQ,wK]at t;have hkl:r<es.length:=by omega
     have W:r<l.length:=by omega
     have st1:=fun(Y0:Hp) (hb:Y0 id=some (XQ es))=>zaR hb hkl A y
     have st2:=st1 (qf Y id (some (XQ es))) (by simp);simp[o,f,C,h6,h7,b,l1,l2,L,u,w2,w3,N,P,ex,ey,g,W,st2];refine⟨by omega,by omega,r+1,by omega,es.set r y.V,rfl,by simp[H],by omega,?_,by omega,y,U,?_,?_⟩
     ·intro c t;rcases GM t with h|h
      ·exact A c h
      ·rw[h];simp[wD]
     ·rw[<-t,qE (by simp;omega),List.take_set_of_le (zk _)];simp
     ·intro z hz;rw[oN (by omega),<-qD];exact E z (by omega)
    ·rw[d]at g t;simp only[zK]at t;simp[o,f,C,h6,h7,b,l1,l2,L,u,w2,N,P,ex,ey,g];exact⟨by omega,by omega,r,rfl,es,rfl,H,hk1,A,by omega,y,U,t,fun z hz=>by rw[<-qD];exact E z (by omega)⟩
   ·have b:¬(m:Int)+1<((l.length-k:Nat):Int):=by omega
    have hb:qf Y id (some (XQ es)) id=some (XQ es):=by simp
    obtain⟨I,c1,c2,c3⟩:=Ry (Z:=Z) (k:=r) hb H (by omega);have s1:=Rx (K:=(r:Int)) (n:=l.length) (k:=r) hb rfl (by omega) (by omega);have s2:=zd3 (Y:=qf Y id (some (XQ I))) (K:=(r:Int)) (n:=l.length) (k:=r) (es:=I) (wR _ _ _) rfl (by omega);rw[vj (by omega),XP]at t;simp only[QE,jf]at t;simp[o,f,C,h6,h7,b,s1,c1,s2,f65];exact⟨rfl,r,I,rfl,rfl,by rw[c2];exact t,c3⟩
 ·have hie:i+1=l.length:=by omega
  have b:¬(i:Int)+1<l.length:=by omega
  simp[o,C,b];rw[hie,we,zA,XP,jf]at v;exact v
noncomputable def jB (l:List Val):List Val:=oA (vE l)
theorem DI:∀(l:List Val) (p:Val),kh (XP p l)<=kh l
 |[],_=>by simp[XP]
 |b::l,p=>by rw[XP];have:=DI l b;split<;>simp only[kh]<;>omega
theorem Rz(l:List Val):kh (jB l)<=kh l:=by
 rw[<-CN (QA l).2.1,jB];cases vE l with
 |nil=>simp[oA]
 |cons a l=>have:=DI l a;rw[oA];simp only[kh];omega
noncomputable abbrev Cvs:Ctx:=qj prog [(16,DC),(39,vaPS),(63,J4 5 64 UQ UR),(65,cptS)]
theorem zd4:Gd Cvs:=qQ mixed ⟨ay,sL,CM,Mk,trivial⟩
noncomputable abbrev vsPS:AM.Spec:=mP aU (fun _ _ _=>True) (fun s st _=>(Dw s zy jB st).2) (fun s st _=>.sl 5 ((Dw s zy jB st).1.map Val.V))
theorem RA{s:za}{st:Pst}{Y:Hp}{id Z:Nat}(a:Y id=some (yg s st))(hs:s.length<=20000)(b:st.p<=s.length):vsPS [.ref id 0 0] Y Z=some (.sl 5 ((Dw s zy jB st).1.map Val.V),qf Y id (some (yg s (Dw s zy jB st).2)),Z):=Zg y5 (fun _=>rfl) () a hs b trivial
def W0(s:za)(st:Pst):Nat:=(if st.e=0 then s.length-st.p else 0)+1
theorem oB{s:za}{st:Pst}(h:st.e=0):W0 s st=s.length-st.p+1:=by rw[W0,zg h]
theorem dW(s:za)(st:Pst):1<=W0 s st/\W0 s st<=s.length+1:=by unfold W0;split<;>omega
theorem DJ{s:za}{st:Pst}(h:st.p<=s.length)(g:(kz s st [124]).1=true):(kz s st [124]).2.p<=s.length/\(JA s zy (kz s st [124]).2).2.p<=s.length/\W0 s (JA s zy (kz s st [124]).2).2<W0 s st/\(JA s zy (kz s st [124]).2).2.d=st.d/\st.e=0/\((JA s zy (kz s st [124]).2).2.e=0->st.p<=(JA s zy (kz s st [124]).2).2.p/\(JA s zy (kz s st [124]).2).1.vb<=(JA s zy (kz s st [124]).2).2.p-st.p)/\((JA s zy (kz s st [124]).2).2.e≠0->(JA s zy (kz s st [124]).2).1.vb=1):=by
 have b:=kR (s:=s) [124] h;have c:=b.2.2.2.2 g;have a:=oz (s:=s) b.2.1;simp only[zd,ze]at c;refine⟨b.2.1,a.1,?_,a.2.1.trans b.2.2.2.1,c.1,?_,fun e=>by rw[a.2.2.2 e,zb7]⟩
 ·rw[oB c.1];unfold W0;split
  ·rename_i f;have:=a.2.2.1 f;omega
  ·omega
 ·intro f;have:=a.2.2.1 f;omega
def VsI(s:za)(r:List Val×Pst)(n:Nat)(st:St):Prop:=st.M 0=.ref 0 0 0/\0<st.Z/\∃l a j,qN st.Y st.Z 43 5 (st.M 3) (l.map Val.V)/\st.Y 0=some (yg s a)/\a.p<=s.length/\W0 s a=n/\n<=j/\1<=l.length/\l.length+n<=s.length+2/\kh l<=s.length+2/\(a.e=0->kh l<=a.p+1)/\Dv s zy j l a=r
def VsE(s:za)(r:List Val×Pst)(st:St):Prop:=st.M 0=.ref 0 0 0/\0<st.Z/\∃l a,qN st.Y st.Z 43 5 (st.M 3) (l.map Val.V)/\st.Y 0=some (yg s a)/\1<=l.length/\kh l<=s.length+2/\(l,a)=r
theorem Ml:zi prog 41 vsPS:=
 ya (C:=Cvs) func41 (by kernel_rfl) rfl TP _ fun cs az cs' r h=>by
  obtain⟨s,st,⟨⟩,rfl,rfl,hs,Y,_,rfl,rfl⟩:=vf h;refine⟨by simp[aU,f41],?_⟩;clear h;have B:=zd4;have W:qg=268435456:=rfl;have o:=kR (s:=s) [110,101,118,101,114] Y;have u:DC [.ref 0 0 0,str [110,101,118,101,114]] (zZ TP (qd s st)) 1=some (yh (kz s st [110,101,118,101,114]).1,qf (zZ TP (qd s st)) 0 (some (yg s (kz s st [110,101,118,101,114]).2)),1):=ZH [110,101,118,101,114] rfl hs Y;obtain⟨G,c,D⟩:∃G c,kz s st [110,101,118,101,114]=(G,c):=⟨_,_,rfl⟩;simp only[Dw];rw[D]at u o;simp only[D];simp only at u o;refine Wp.cut B (fun M Y Z=>M 0=.ref 0 0 0/\M 2=.nil/\Y=zZ TP (qd s st)/\Z=1) (by kernel_rfl) (by simp[aU]) ?_;rintro M _ _ ⟨f,h2,rfl,rfl⟩;cases G
  case true=>simp only[zK];refine Wp.seq (Wp.of B (by kernel_rfl) ?_);simp[f,u,f41];exact qc rfl (by simp) (.nz 5) rfl
  simp only[zm,zQ];refine Wp.cut B (fun E Y Z=>E 0=.ref 0 0 0/\Y 0=some (yg s c)/\Z=1) (by kernel_rfl) (by simp[f,u]) ?_;clear f h2 u M;rintro M Y1 _ ⟨f,v,rfl⟩;have i:=oz (s:=s) o.2.1;have q:=dV (Z:=1) v hs o.2.1;obtain⟨x,a,H⟩:∃x a,JA s zy c=(x,a):=⟨_,_,rfl⟩;rw[H]at q i;simp only[H];simp only at q i;simp only[wD]at q;obtain⟨r,m⟩:=wM (Dv s zy (s.length+1) [x] a);rw[m];refine Wp.cut B (fun E Y Z=>VsI s r (W0 s a) ⟨E,Y,Z⟩) (by kernel_rfl) ?_ ?_
  ·simp[f,q,zs,zF,zr];have I:=dW s a;have w:x.vb<=s.length+2/\(a.e=0->x.vb<=a.p+1):=by
    by_cases y:a.e=0
    ·have:=i.2.2.1 y;exact⟨by omega,fun _=>by omega⟩
    ·have:=i.2.2.2 y;rw[this,zb7];exact⟨by omega,fun h=>absurd h y⟩
   exact⟨by simp[f],by simp,[x],a,s.length+1,.inr ⟨1,by simp,by simp,by simp[wD]⟩,by simp[zc],i.1,rfl,I.2,by simp,by simp;omega,by simp[kh];omega,fun y=>by simp[kh];exact w.2 y,m⟩
  clear f v q M Y1;rintro M Y1 Z X;refine Wp.seq (Wp.mono (K:=fun e R=>e=.normal/\VsE s r R) (Wp.block (Wp.loop (VsI s r) _ X ?_)) ?_)
  ·clear X m H i o D M Y1 Z c a x;rintro n ⟨M,Y1,Z⟩ ⟨f,t,l,c,j,A,v,J,hn,hnj,F,hln,L,N,m⟩;simp only at f t A v;have I:=dW s c;have g:=qZ A v rfl;obtain⟨j,rfl⟩:∃j',j=j'+1:=⟨j-1,by omega⟩;rw[Dv]at m;have u:=ZH (Z:=Z) [124] v hs J;have d:=fun D=>DJ (s:=s) J D
   obtain⟨S,a,D⟩:∃S a,kz s c [124]=(S,a):=⟨_,_,rfl⟩;rw[D]at u m d;simp only at u m d;cases S
   ·simp only[zm,zQ]at m;refine Wp.of B (by kernel_rfl) ?_;simp[f,u];exact⟨by simp[f],t,l,a,by simpa using A.put g (some (yg s a)),by simp,F,L,m⟩
   ·simp only[zK]at m;have d:=d rfl;have q:=dV (Y:=qf Y1 0 (some (yg s a))) (id:=0) (Z:=Z) (by simp) hs d.1;obtain⟨x,b,H⟩:∃x b,JA s zy a=(x,b):=⟨_,_,rfl⟩;rw[H]at q m d;simp only at q m d;rw[qV]at q;obtain⟨Y2,a1,O2,f2⟩:=dJ (A.put g (some (yg s b))) x (by omega);have b2:Y2 0=some (yg s b):=by rw[f2 0 t g];simp
    simp only[wD]at a1 q;refine Wp.of B (by kernel_rfl) ?_;simp[f,u,q,a1,zs,zF,zr];obtain⟨r1,r2,r3,r4,r5,r6,r7⟩:=d;have N:=N r5;have w:kh (l++[x])<=s.length+2/\(b.e=0->kh (l++[x])<=b.p+1):=by
     rw[WA];by_cases y:b.e=0
     ·have:=r6 y;exact⟨by omega,fun _=>by omega⟩
     ·have:=r7 y;exact⟨by omega,fun h=>absurd h y⟩
    exact⟨W0 s b,by omega,by simp[f],by simp only;omega,l++[x],b,j,by simpa using O2,b2,r2,rfl,by omega,by simp,by simp;omega,w.1,w.2,m⟩
  ·rintro e ⟨σ2,Y2,SC⟩ ⟨rfl,f,t,l,T,A,v,F,L,rfl⟩;simp only at f t A v;simp only[ZQ];have g:=qZ A v rfl;obtain⟨z,s1,O3,f3⟩:=FU (by omega) A;have G:z 0=some (yg s T):=by rw[f3 0 g];exact v
   have hsl:1<=(vE l).length:=by rw[(QA l).2.1.length_eq];exact F
   rcases O3 with⟨_,e⟩|⟨id,hid,U,hh⟩
   ·have:(vE l).length=0:=by simpa using zp List.length e
    omega
   rw[yj]at U;rw[U]at s1 g;have P:id≠0:=fun e=>g _ (by rw[e])
   obtain⟨x,hp4,Q,c1,rfl,k,es,rfl,rfl,c2,c3⟩:=zaT (l:=vE l) (by rw[CN (QA l).2.1];omega) hid hh;have c0:cptS [.own id 0 (vE l).length,.fn (.func 66) [] []] z Q=some (.own id 0 k,qf z id (some (XQ es)),Q):=by rw[<-c1];exact zg (by simp[f65])
   refine Wp.of B (by kernel_rfl) ?_;simp[f,U,s1,c0,f41];exact qc (r0:=.sl 5 (es.take k)) (Y2:=qf (qf z id (some (XQ es))) id none) (by simp[AM.freeze,zO,qp,c3]) (by rw[zc _ _ _ _ (Ne.symm P),zc _ _ _ _ (Ne.symm P)];exact G) .id (by rw[c2];rfl)
end Go.Q
namespace Go.Q
open Go.RowKit Go.AM Go.PrLaw
def FSg:zb->Option O
 |[]=>some (.sl 1 (qJ fY))
 |_=>none
theorem DK:zi prog 37 (zn false [] FSg):=
 y3 (fn:=f37) jj (wc func37) false [] _ fun args r h=>by
  unfold FSg at h;split at h
  ·injection h with h;subst h;exact⟨by simp[f37],_,zu rfl (by simp[zs,zF,zr,qJ,fY,maxLen,yx,AM.freeze,zO,qp,f37]),q9 _⟩
  ·cases h
theorem RD(Y:Hp)(Z:Nat):zn false [] FSg [] Y Z=some (.sl 1 (qJ fY),Y,Z):=jm rfl rfl (.inr rfl)
theorem zaU(u:Nat)(h:u<13):(qJ fY)[u]?=some [str (Q6 u)]:=by have a:fY.length=13:=rfl;simp only[qJ,qD,Q6,JE];rw[zo (by omega)];rfl
end Go.Q
namespace Go.Q
end Go.Q
namespace Go.AM
end Go.AM
namespace Go.Q
def fN(v:za):Nat->List za->Int
 |_,[]=>-1
 |k,s::l=>if v=s then k else fN v (k+1) l
noncomputable def FTS (out:List za->za->O):zb->Option O:=qW (α:=List za×za) (fun a=>[.sl 1 (qJ a.1),str a.2]) (fun a=>a.1.length<=qg) (fun a=>out a.1 a.2)
theorem zd5:∀a b:List za×za,[O.sl 1 (qJ a.1),str a.2]=[O.sl 1 (qJ b.1),str b.2]->a=b:=by rintro⟨f,g⟩ ⟨h,i⟩ e;simp only[zq,qh]at e;obtain⟨c,d⟩:=e;injection c with _ c;rw[v8 c,yp d]
theorem RE(out:List za->za->O)(l:List za)(v:za)(Y:Hp)(Z:Nat)(h:l.length<=qg):zn false [1] (FTS out) [.sl 1 (qJ l),str v] Y Z=some (out l v,Y,Z):=
 jm rfl (qX (V:=fun a:List za×za=>[O.sl 1 (qJ a.1),str a.2]) (a:=(l,v)) zd5 h) (.inr rfl)
theorem Mm(l:List za)(v:za)(h:l.length<=qg):zG C0 f36 [.sl 1 (qJ l),str v]=some (int (fN v 0 l)):=by
 refine zu rfl ?_;unfold qg at h;have b:(qJ l).length=l.length:=by simp[qJ]
 simp[b];refine ql (fun k M Y Z=>M 0=.sl 1 (qJ l)/\M 1=str v/\M 7=int l.length/\M 8=int k/\fN v 0 l=fN v k (l.drop k)) l.length ⟨by simp,by simp,by simp,by simp,by simp⟩ ?_;rintro k M Y Z p ⟨i,j,m,n,a⟩;by_cases c:k<l.length
 ·obtain⟨s,hs⟩:=wM (l[k]);have o:=wv k;have e:∀h:k<(qJ l).length,(qJ l)[k]=[str s]:=fun h=>by simp[qJ,hs]
  have f:k<(qJ l).length:=by omega
  rw[zl c,hs]at a;simp only[fN]at a;by_cases g:v=s
  ·rw[zg g]at a;have d:(v==s)=true:=by simpa using g
   simp[i,j,m,n,c,b,f,e,d,a,f36]
  ·rw[zf g]at a;have d:=jl g;simp[i,j,m,n,c,b,f,e,d,o];exact⟨by omega,a⟩
 ·obtain rfl:k=l.length:=by omega
  rw[zA]at a;simp only[fN]at a;simp[i,j,m,n,a,f36]
theorem Gz:zi prog 36 (zn false [1] (FTS fun l v=>int (fN v 0 l))):=
 VG jj func36 false [1] fun⟨l,v⟩ a=>⟨by simp[f36],_,Mm l v a,q9 _⟩
theorem DL(v:za):∀(l:List za) (k:Nat),fN v k l=if v∈l then((k+l.idxOf v:Nat):Int)else -1
 |[],k=>by simp[fN]
 |s::l,k=>by
  rw[fN,DL v l (k+1)];by_cases h:v=s
  ·simp[h]
  ·have a:¬s=v:=fun e=>h e.symm
   rw[zf h];simp only[zv,h,false_or];split
   ·have b:=jl a;rw[List.idxOf_cons,b];simp only[cond_false];omega
   ·rfl
theorem RF(w:za):fN w 0 fY=Vl w:=by rw[DL,Vl];simp
theorem Au(w:za):-1<=Vl w/\Vl w<=12:=by
 unfold Vl;split
 ·rename_i h;have:=List.idxOf_lt_length_of_mem h;have a:fY.length=13:=rfl;omega
 ·omega
noncomputable abbrev Cte:Ctx:=qj prog [(19,woPS),(37,zn false [] FSg),(34,Ap),(36,zn false [1] (FTS fun l v=>int (fN v 0 l))),(9,DB),(20,Re),(38,zn false [] (oV xR)),(40,zn false [] (oV jY)),(8,DA),(39,vaPS),(41,vsPS)]
theorem zd6:AM.Good Cte (fun g=>[37,36,38,40].contains g):=qx mixed ⟨sG,by simp,DK,fun _=>zt _ _,Kt,by simp,Gz,fun _=>zt _ _,Yy,by simp,fJ,by simp,Xv,fun _=>zt _ _,Xw,fun _=>zt _ _,ax,by simp,sL,by simp,Ml,by simp,trivial⟩
noncomputable abbrev tePS:AM.Spec:=mP aU (fun _ _ _=>True) (fun s st _=>(Dx s zy jB st).2) (fun s st _=>.agg (Dx s zy jB st).1.V)
theorem RG{s:za}{st:Pst}{Y:Hp}{id Z:Nat}(a:Y id=some (yg s st))(hs:s.length<=20000)(b:st.p<=s.length):tePS [.ref id 0 0] Y Z=some (.agg (Dx s zy jB st).1.V,qf Y id (some (yg s (Dx s zy jB st).2)),Z):=Zg y5 (fun _=>rfl) () a hs b trivial
abbrev uC:O->O:=o7 [fun x=>x,fun x=>x,fun x=>x,I0 5,fun x=>x,fun x=>x,I0 7]
theorem xc:sX uC:=.agg fun u a=>by
 simp only[zv,wu,or_false]at a;rcases a with rfl|rfl|rfl|rfl|rfl|rfl|rfl
 ·exact .id
 ·exact .id
 ·exact .id
 ·exact .nz 5
 ·exact .id
 ·exact .id
 ·exact .nz 7
abbrev jR(cs:zb):Blk:=⟨25,7,false,[cs]⟩
def kS:zb:=[int 0,str [],int 0,.nil,str [],str [],.nil]
theorem HW(a b c d e:O):xg prog 43 2 (.agg [a,b,c,d,e])=some c:=by simp[xg]
theorem Mn:zi prog 21 tePS:=
 wi (code:=_) zd6 ⟨func21,by kernel_rfl,rfl,by kernel_rfl⟩ TP _ fun cs az cs' r h=>by
  obtain⟨s,st,⟨⟩,rfl,rfl,hs,Y,hk,rfl,rfl⟩:=vf h;refine⟨by simp[aU,f21],?_⟩;clear h;have z:=Aq (s:=s) Y;obtain⟨a,t,S⟩:∃a t,gY s st=(a,t):=⟨_,_,rfl⟩;rw[S]at z;simp only at z;have A:=kQ (s:=s) z.2.1;obtain⟨w,hw⟩:=wM (KF s t);obtain⟨E,T⟩:=wM (y8 s t);rw[T]at A;obtain⟨o,U⟩:=wM (Vl w);have W:=Au w;rw[U]at W;simp only[Dx];simp only[S,hw,T,U];refine zM (fun M Y Z=>M 0=.ref 0 0 0/\M 2=.ref 1 0 0/\Y 0=some (yg s st)/\Y 1=some (jR kS)/\Z=2) (by simp[aU,zZ,zz,qd,kS,zc]) ?_;rintro M Y1 _ ⟨b,d,k,f,rfl⟩;have n:=oq (Z:=2) k hs Y;rw[S]at n;refine zM (fun M Y Z=>M 0=.ref 0 0 0/\M 2=.ref 1 0 0/\M 3=.ref 2 0 0/\Y 0=some (yg s t)/\Y 1=some (jR kS)/\Y 2=some (jR [int 4,str a,int 0,.nil,str [],str [],.nil])/\Z=3) (by simp[b,d,n,f,zc,zI,qe]) ?_;clear b d k f n M Y1;rintro M Y1 _ ⟨b,d,g,k,f,m,rfl⟩;have n:=YW (Z:=3) k hs z.2.1;rw[hw,T]at n;have X:=fun Y Z=>RE (fun l v=>int (fN v 0 l)) fY w Y Z (by decide)
  simp only[RF,U]at X;have g3:=RD;refine zM (fun M Y Z=>M 0=.ref 0 0 0/\M 2=.ref 1 0 0/\M 3=.ref 2 0 0/\Y 0=some (yg s E)/\Y 1=some (jR kS)/\Y 2=some (jR [int 4,str a,int o,.nil,str [],str [],.nil])/\Z=3) ?_ ?_
  ·simp[b,d,g,n,X,g3,f,m,zc]
  clear b d g k f m n X M Y1;rintro M Y1 _ ⟨b,d,g,k,f,m,rfl⟩;have q:=k;have x:=f;simp only[kS]at x;simp only[zz,qd,zd,ze,zh,Nat.reduceAdd]at q;by_cases J:E.e=0
  case neg=>rw[zg J];simp[b,d,g,q,x,m,J,Zw J,bne,zc,f21];exact qc rfl (by simp[zc,q,zz,qd]) xc (by simp[qv];rfl)
  rw[zf (by simpa using J)];by_cases B:o<2
  ·rw[zg B];have K:=YX (Z:=3) k hs A.2.1;simp only[zz,qd,zd,ze,zh,Nat.reduceAdd]at K;simp[b,d,g,q,x,m,J,B,K,zc,f21];exact qc rfl (by simp[zc,zz,qd]) xc (by simp[qv];rfl)
  rw[zf B];refine zM (fun i Y Z=>i 0=.ref 0 0 0/\i 2=.ref 1 0 0/\i 3=.ref 2 0 0/\Y=Y1/\Z=3) (by simp[b,d,g,q,x,m,J,B]) ?_;clear b d g q x M;rintro M Y1 _ ⟨b,d,g,rfl,rfl⟩;obtain⟨u,rfl⟩:∃u:Nat,o=u:=⟨o.toNat,by omega⟩;have L:=zaU u (by omega);have gm:=Ku (Z:=3) (Q6 u) k hs A.2.1;have y:=Z8 (s:=s) (Q6 u) A.2.1;obtain⟨F,N⟩:=wM (Yx s E (Q6 u));rw[N]at gm y;rw[N];have u1:u<13:=by omega
  refine zM (fun i Y Z=>i 0=.ref 0 0 0/\i 2=.ref 1 0 0/\i 3=.ref 2 0 0/\Y 0=some (yg s F)/\Y 1=some (jR kS)/\Y 2=some (jR [int 4,str a,int u,.nil,str [],str [],.nil])/\Z=3) ?_ ?_
  ·simp[b,d,g,m,f,g3,L,gm,zc]
  clear b d g k f m gm g3 L M;rintro M Y1 _ ⟨b,d,g,k,f,m,rfl⟩;simp only[kS]at f;cases P:xR u
  case true=>
   simp only[zK];have n:=dT (Z:=3) k hs y.2.1;have G:=kQ (s:=s) y.2.1;obtain⟨j,Q⟩:=wM (y8 s F);rw[Q]at n G;rw[Q];simp only[zz,qd,zd,ze,zh,Nat.reduceAdd]at n;have R:qf Y1 0 (some (yg s j)) 0=some (yg s j):=by simp
   have K:=YX (Z:=3) R hs G.2.1;have D:=dV (Z:=3) R hs G.2.1;simp only[zz,qd,zd,ze,zh,Nat.reduceAdd,qV,wD]at K D;by_cases H:j.p<s.length
   case neg=>
    rw[zf (by rw[wq (by omega)];simp)];have C:(s.length:Int)<=j.p:=by omega
    simp[b,d,g,m,f,P,n,C,K,zc,f21];exact qc rfl (by simp[zc,zz,qd]) xc (by simp[qv];rfl)
   have C:¬(s.length:Int)<=j.p:=by omega
   obtain⟨c,I⟩:=wM (s[j.p]);have hcs:s[j.p]?=some c:=by rw[<-I];exact zo H
   rw[hcs];by_cases hq:c=34
   ·subst hq;simp only[zK];simp[b,d,g,m,f,P,n,C,H,I,D,HW,zc,f21];exact qc rfl (by simp[zc,zz,qd]) xc (by simp[qv];rfl)
   ·have hq':((c.toNat:Int)==34)=false:=WW 34 hq;rw[zf (by simpa using hq)];simp[b,d,g,m,f,P,n,C,H,I,hq',bne,K,zc,f21];exact qc rfl (by simp[zc,zz,qd]) xc (by simp[qv];rfl)
  simp only[zm,zQ];cases hi:jY u
  case true=>simp only[zK];have D:=dV (Z:=3) k hs y.2.1;simp only[zz,qd,zd,ze,zh,Nat.reduceAdd,wD]at D;simp[b,d,g,m,f,P,hi,D,zc,zs,zF,zr,f21];exact qc (r0:=.agg [int 4,str a,int u,.sl 5 [(JA s zy F).1.V],str [],str [],.nil]) (by simp[AM.freeze,zO,qm,qp,zc,wD];rfl) (by simp[zc,zz,qd]) xc (by simp[qv];rfl)
  simp only[zm,zQ];have D:=RA (Z:=3) k hs y.2.1;simp only[zz,qd,zd,ze,zh,Nat.reduceAdd]at D;simp[b,d,g,m,f,P,hi,D,zc,f21];exact qc rfl (by simp[zc,zz,qd]) xc (by simp[qv];rfl)
def YZ(s:Int×Bool):Bool:=s.2||decide (200<s.1)
def sM(s r:Int×Bool):Int×Bool:=if YZ s then s else(s.1+r.1,s.2||r.2)
mutual
def Cnd.rp:Cnd->Int->Int×Bool
 | .mk _ _ _ _ _ _ xs,l=>AX xs l (1,decide (20<l))
def AX:List Cnd->Int->Int×Bool->Int×Bool
 |[],_,s=>s
 |c::cs,l,s=>AX cs l (sM s (c.rp (l+1)))
end
theorem RH(c:Cnd)(l:Int):c.rp l=AX c.args l (1,decide (20<l)):=by cases c;rfl
theorem dX{l:Int}{s:Int×Bool}(h:YZ s=true):∀xs:List Cnd,AX xs l s=s
 |[]=>rfl
 |c::cs=>by have:sM s (c.rp (l+1))=s:=zg h;simp only[AX];rw[this];exact dX h cs
theorem RI{xs:List Cnd}{l:Int}{s:Int×Bool}{k:Nat}(h:k<xs.length):AX (xs.drop k) l s=AX (xs.drop (k+1)) l (sM s (xs[k].rp (l+1))):=by rw[zl h,AX]
structure RPC (xs:List Cnd) (l:Int) (s r:Int×Bool):Prop where
 lo:s.1<=r.1
 hi:r.1<=s.1+yV xs
 deep:r.2=true->s.2=true\/20<l+(je xs:Int)
 all:YZ r=false->r.1=s.1+yV xs/\(xs≠[]->l+(je xs:Int)<=20)
theorem DM(c:Cnd):∀l,0<=(c.rp l).1/\(c.rp l).1<=c.parts/\((c.rp l).2=true->20<l+(c.levels:Int)-1)/\(YZ (c.rp l)=false->(c.rp l).1=c.parts/\l+(c.levels:Int)-1<=20):=by
 induction c using Cnd.ind with
 |h k a o v p n ys C=>
  intro l;have m:∀(xs:List Cnd) (s:Int×Bool),0<=s.1->(∀x∈xs,x∈ys)->RPC xs l s (AX xs l s):=by
   intro xs
   induction xs with
   |nil=>intro s _ _;exact⟨by simp[AX],by simp[AX,yV],fun h=>.inl (by simpa[AX]using h),fun _=>⟨by simp[AX,yV],fun h=>absurd rfl h⟩⟩
   |cons x xs q=>
    intro s I B;by_cases g:YZ s=true
    ·rw[dX g];exact⟨by omega,by omega,fun h=>.inl h,fun h=>by rw[g]at h;cases h⟩
    ·have e:AX (x::xs) l s=AX xs l (s.1+(x.rp (l+1)).1,s.2||(x.rp (l+1)).2):=by simp only[AX,sM,g];rfl
     rw[e];obtain⟨J,K,D,E⟩:=C x (B x (by simp)) (l+1);have i:=q (s.1+(x.rp (l+1)).1,s.2||(x.rp (l+1)).2) (by simp only;omega) (fun y F=>B y (by simp[F]));have b:yV (x::xs)=x.parts+yV xs:=by simp[yV]
     have d:je (x::xs)=max x.levels (je xs):=by simp[je]
     have r:=i.lo;have t:=i.hi;simp only at r t;refine⟨by omega,by rw[b];omega,fun h=>?_,fun h=>?_⟩
     ·rw[d];rcases i.deep h with h|h
      ·simp only[qT]at h;rcases h with h|h
       ·exact .inl h
       ·right;have:=D h;omega
      ·right;omega
     ·obtain⟨u,w⟩:=i.all h;have z:YZ (x.rp (l+1))=false:=by
       simp only[YZ,wE,kH]at h g⊢;refine⟨?_,by omega⟩;cases hd:(x.rp (l+1)).2 with
       |false=>rfl
       |true=>
        exfalso;have A:YZ (s.1+(x.rp (l+1)).1,s.2||(x.rp (l+1)).2)=true:=by simp[YZ,hd]
        rw[dX A]at h;simp[hd]at h
      obtain⟨L,N⟩:=E z;simp only at u;refine⟨by rw[b];omega,fun _=>?_⟩;rw[d];by_cases f:xs=[]
      ·subst f;simp only[je];omega
      ·have:=w f;omega
  have j:=m ys (1,decide (20<l)) (by simp) fun x z=>z
  rw[RH,Yr,bT];simp only[Cnd.args];have G:=j.lo;have H:=j.hi;simp only at G H;refine⟨by omega,by omega,fun h=>?_,fun h=>?_⟩
  ·rcases j.deep h with h|h
   ·simp at h<;>omega
   ·omega
  ·obtain⟨u,w⟩:=j.all h;simp only at u;refine⟨by omega,?_⟩;by_cases f:ys=[]
   ·rw[f]at h⊢;simp[AX,YZ]at h;simp only[je];omega
   ·have:=w f;omega
theorem Mo(c:Cnd):YZ (c.rp 1)=(decide ((200:Int)<c.parts)||decide ((20:Int)<c.levels)):=by
 obtain⟨e,f,b,d⟩:=DM c 1;rw[q6];constructor
 ·intro h;simp only[YZ,qT,q5]at h⊢;rcases h with h|h
  ·right;have:=b h;omega
  ·left;omega
 ·intro h;refine vG fun a=>?_
  have a:YZ (c.rp 1)=false:=by simpa using a
  obtain⟨g,i⟩:=d a;simp only[YZ,wE,kH]at a;simp only[qT,q5]at h;omega
theorem sN(a b:Int):wI a b<0↔0<wI b a:=by
 unfold wI;by_cases c:a<b
 ·rw[zg c,zf (by omega),zg c];omega
 ·by_cases d:b<a
  ·rw[zf c,zg d,zg d];omega
  ·rw[zf c,zf d,zf d,zf c]
theorem fO(a b:za):yW a b<0↔0<yW b a:=by
 have d:=K8 a b;have f:=K8 b a;have i:=xl a b;have g:=xl b a;constructor
 ·intro h;have j:=d.1 h;have n:¬yW b a<0:=fun c=>by have:=nh j (f.1 c);rw[OO]at this;cases this
  have o:¬yW b a=0:=fun e=>by have:=g.1 e;have:=i.2 this.symm;omega
  omega
 ·intro h;refine vG fun c=>?_
  have k:¬a=b:=fun e=>by have:=g.2 e.symm;omega
  have l:MY a b=false:=by
   unfold MY;rw[wE];refine⟨?_,by simpa using k⟩;cases m:Op.bytesLess a b with
   |false=>rfl
   |true=>exact absurd (d.2 m) c
  have:=f.2 (Xo l);omega
theorem fP{α:Type}{c:α->α->Int}:∀{a b:List α},(∀x∈a,∀y∈b,c x y<0↔0<c y x)->(∀x∈a,∀y∈b,c x y=0↔c y x=0)->(yl c a b<0↔0<yl c b a)/\(yl c a b=0↔yl c b a=0)
 |[],[],_,_=>by simp[yl]
 |[],_::_,_,_=>by simp[yl]
 |_::_,[],_,_=>by simp[yl]
 |x::a,y::b,h,i=>by
  have j:=fP (a:=a) (b:=b) (fun u d v f=>h u (by simp[d]) v (by simp[f])) (fun u d v f=>i u (by simp[d]) v (by simp[f]));have k:=h x (by simp) y (by simp);have g:=i x (by simp) y (by simp);simp only[yl];by_cases e:c x y=0
  ·rw[zg e,zg (g.1 e)];exact j
  ·rw[zf e,zf fun l=>e (g.2 l)];exact⟨k,g⟩
theorem fQ{α:Type}{c:α->α->Int}{x y:α}(a:c x y<0↔0<c y x)(b:c y x<0↔0<c x y):c x y=0↔c y x=0:=by omega
theorem gZ:∀(n:Nat) (a b:Val),a.vb+b.vb<=n->(qG a b<0↔0<qG b a)
 | 0,a,b,h=>by have:=WO a;omega
 |n+1,a,b,h=>by
  have i:=gZ n;have q:=kv a;have r:=kv b;rw[xk a b,xk b a];by_cases g:a.kind=b.kind
  case neg=>rw[zf g,zf fun e=>g e.symm];exact sN _ _
  rw[zg g,zg g.symm,<-g];split
  ·exact sN _ _
  split
  ·exact fO _ _
  split
  ·have f:∀x∈a.items,∀y∈b.items,(qG x y<0↔0<qG y x)/\(qG y x<0↔0<qG x y):=fun x c y d=>by have:=jZ c;have:=jZ d;exact⟨i x y (by omega),i y x (by omega)⟩
   exact(fP (fun x c y d=>(f x c y d).1) fun x c y d=>fQ (f x c y d).1 (f x c y d).2).1
  split
  ·have f:∀x∈a.fields,∀y∈b.fields,(jN x y<0↔0<jN y x)/\(jN y x<0↔0<jN x y):=fun x c y d=>by
    have:=Zb c;have:=Zb d;have m:=i x.2 y.2 (by omega);have o:=i y.2 x.2 (by omega);have j:=fO x.1 y.1;have k:=fO y.1 x.1;have l:=fQ j k;rw[fk,fk];by_cases e:yW x.1 y.1=0
    ·rw[zg e,zg (l.1 e)];exact⟨m,o⟩
    ·rw[zf e,zf fun p=>e (l.2 p)];exact⟨j,k⟩
   exact(fP (fun x c y d=>(f x c y d).1) fun x c y d=>fQ (f x c y d).1 (f x c y d).2).1
  ·simp
theorem DN(a b:Val):qG b a<=0↔0<=qG a b:=by have:=gZ _ a b (zk _);omega
def oC(c:Cnd):Bool:=!((!(c.kind==4)&&(!c.attr.isEmpty||c.op != 0))||(c.kind != 5&&!c.name.isEmpty))&&!((!((c.kind==4)&&YR c.op)&&decide (0<c.ki.length))||(!((c.kind==4)&&xR c.op)&&!c.pat.isEmpty)) &&
 (if c.kind=3 then(c.args.length:Int)==1 else if c.kind=4\/c.kind=5 then((c.args.length:Int)==0&&(!jY c.op||(c.ki.length:Int)==1))else true)
theorem Mp(c:Cnd)(h:v7 c.kind 1 5=true):oC c=!ZD c:=by
 have j:c.kind=1\/c.kind=2\/c.kind=3\/c.kind=4\/c.kind=5:=by simp[v7]at h;omega
 have s:(decide (0<c.args.length))=!((c.args.length:Int)==0):=by
  cases c.args with
  |nil=>rfl
  |cons x l=>simp;omega
 have b:((c.ki.length:Int) != 1)=!((c.ki.length:Int)==1):=rfl;have d:((c.args.length:Int) != 1)=!((c.args.length:Int)==1):=rfl;have f:(c.op != 0)=!(c.op==0):=rfl;have t:c.op=0->jY c.op=false:=fun e=>by rw[e];rfl
 unfold oC ZD w1F w2F w3F w4F w5F w6F w7F;rw[s,b,d,f];generalize c.attr.isEmpty=m;generalize c.name.isEmpty=n;generalize decide (0<c.ki.length)=o;generalize c.pat.isEmpty=p;generalize YR c.op=q;generalize xR c.op=r;generalize ((c.ki.length:Int)==1)=u;generalize ((c.args.length:Int)==0)=a;generalize ((c.args.length:Int)==1)=v;by_cases g:c.op=0
 ·rw[t g,g];rcases j with k|k|k|k|k<;>rw[k]<;>cases m<;>cases n<;>cases o<;>cases p<;>cases a<;>simp[v7]<;>cases q<;>cases r<;>rfl
 ·have i:=jl g;rw[i];generalize jY c.op=w;rcases j with k|k|k|k|k<;>rw[k]<;>cases m<;>cases n<;>cases o<;>cases p<;>cases a<;>simp[v7]<;>cases q<;>cases r<;>cases w<;>cases u<;>rfl
theorem Mq{a b:List wG}(f:a.length<=qg)(g:b.length<=qg){Y:Hp}{Z id e:Nat}(h:Y id=some ⟨e,1,true,[[.sl 11 (qn a)],[.sl 11 (qn b)]]⟩) :
  zn true [] sD [.own id 0 2] Y Z=some (.sl 11 (qn (a++b)),qf Y id none,Z):=by
 have i:sD [.sl 1 [[.sl 11 (qn a)],[.sl 11 (qn b)]]]=some (.sl 11 (qn (a++b))):=by
  unfold sD PZ;exact qX (V:=fun a:List wG×List wG=>[O.sl 1 [[.sl 11 (a.1.map wG.V)],[.sl 11 (a.2.map wG.V)]]]) (a:=(a,b)) (fun x y e=>by obtain⟨j,k⟩:=x;obtain⟨l,m⟩:=y;simp only[zq,qh]at e;injection e with _ e;simp only[zq,qh]at e;obtain⟨c,d⟩:=e;injection c with _ c;injection d with _ d;rw[Z4 c,Z4 d]) ⟨f,g⟩
 simp[zn,zH,zO,qp,h,yR,i,O.flat,O.noOwn]
noncomputable abbrev Ctog:Ctx:=qj prog [(170,zn true [] sD),(171,vD [.s 5 jQ] FSc),(173,qK [.s 11 jA,.g jQ] (FRC fun l c=>yh (yE l c))),(172,zn false [] FTk)]
theorem zaV:AM.Good Ctog (fun g=>[173,172].contains g):=qx mixed ⟨pQ,by simp,pR,by simp,pK,fun _=>jn _ _,C6,fun _=>zt _ _,trivial⟩
theorem Mr(w:Int)(a b:List wG)(ha:jU a)(hb:jU b)(hga:jI a)(hgb:jI b) :
  ∃x Y Z,jr Ctog f109 [int w,.sl 11 (qn a),.sl 11 (qn b)] (fun _=>none) 0=some (x,Y,Z)/\Cr jA (Wy (QS w) a b) x Y Z:=by
 refine w9 rfl ?_;have hsa:=ha;have hsb:=hb;obtain⟨ha1,ha2⟩:=ha;obtain⟨hb1,hb2⟩:=hb;have hcat:=fun Y Z id e h=>Mq ha1 hb1 (Y:=Y) (Z:=Z) (id:=id) (e:=e) h
 unfold qg at ha1 hb1;have B:=P0 (QS w) hga hgb;obtain⟨l,hl⟩:=wM (a++b);rw[hl]at B hcat;have hll:l.length<=536870912:=by rw[<-hl];simp;omega
 have hlsm:∀s∈l,s.small:=fun s hs=>by
  rw[<-hl]at hs;rcases qO.1 hs with h|h
  ·exact ha2 s h
  ·exact hb2 s h
 have hel:(qn l).length=l.length:=by simp[qn]
 have zhv:=hcat (qf (fun _=>none) 0 (some ⟨76,1,true,[[.sl 11 (qn a)],[.sl 11 (qn b)]]⟩)) 1 0 76 (by simp);simp[zs,zF,zr,zhv,hel];refine ql (fun k M Y Z=>M 0=int w/\M 1=.sl 11 (qn a)/\M 2=.sl 11 (qn b)/\qN Y Z 113 5 (M 7) (wg (q7 (l.take k))) /\
   M 18=.sl 11 (qn l)/\M 19=int l.length/\M 20=int k) l.length
   ⟨by simp,by simp,by simp,.inl ⟨by simp,by simp[q7,wg]⟩,by simp,by simp,by simp⟩ ?_
 rintro k M Y Z hk ⟨G,H,I,F,h25,SN,h27⟩;by_cases f:k<l.length
 ·have z:=wv k;have q:∀h:k<(qn l).length,(qn l)[k]=l[k].V:=fun h=>by simp[qn]
  have hcn:=Z5 (l.take k);rw[yu]at hcn;have hct:=r9 f;obtain⟨xs,g⟩:=wM (wg (q7 (l.take k)));have r:xs.length<=1073741824:=by rw[<-g];simp[wg];omega
  rw[g]at F;have hE:wg (q7 (l.take (k+1)))=xs++(if l[k].vm=true then[l[k].lo]else[l[k].lo,l[k].hi]).map Cut.V:=by rw[hct,sa,g];rfl
  have hkn:=fun Y'=>yr F Y' Z (Cw F (zk _))
  obtain⟨s,hs⟩:=wM (l[k]);rw[hs]at hct q hE;have p:=qN.ji (P:=prog) (t:=148) (c:=s.lo.V) (F.more (some ⟨115,11,false,[s.V]⟩)) gA cR rE rF rfl (by omega) (by unfold maxLen;omega) (by omega);have J:=qN.after (Y:=qf Y Z (some ⟨115,11,false,[s.V]⟩)) (Z:=Z+1) (e:=113) (s:=5) (v:=M 7) (xs:=xs) (c:=s.lo.V) (tmp:=some ⟨113,5,true,[s.lo.V]⟩);have u:=qN.ji (P:=prog) (t:=148) (c:=s.hi.V) J gA cR rE rF rfl (by omega) (by simp;unfold maxLen;omega) (by simp;omega);rw[show(xs++[s.lo.V]).length=xs.length+1 by simp,qP,show[s.lo.V]++[s.hi.V]=[s.lo.V,s.hi.V]from rfl]at u;have K:=qN.after (Y:=qf (Ws (M 7) (qf (qf Y Z (some ⟨115,11,false,[s.V]⟩)) (Z+1) (some ⟨113,5,true,[s.lo.V]⟩))) (Z+1+1) (some ⟨113,5,true,xs++[s.lo.V]⟩)) (Z:=Z+1+2) (e:=113) (s:=5) (v:=.own (Z+1+1) 0 (xs.length+1)) (xs:=xs++[s.lo.V]) (c:=s.hi.V) (tmp:=some ⟨113,5,true,[s.hi.V]⟩);rw[show(xs++[s.lo.V]).length=xs.length+1 by simp,qP,show[s.lo.V]++[s.hi.V]=[s.lo.V,s.hi.V]from rfl]at K;simp only[wG.V,Cut.V,qU,xE]at p u J K q;have m1:¬Z=Z+1+1:=by omega
  have m2:¬Z=Z+1+2:=by omega
  have m3:¬Z=Z+1+2+1:=by omega
  cases C:s.vm
  ·rw[C]at hct;rw[C]at p u J K q;simp[G,H,I,h25,SN,h27,f,hel,q,p,u,hkn,z,m1,m2,m3,zs,zF,zr];refine⟨by omega,?_⟩;rw[hE,C];simp only[zm,zQ,wK,QE,Cut.V];exact K
  ·rw[C]at hct;rw[C]at p u J K q;simp[G,H,I,h25,SN,h27,f,hel,q,p,hkn,z,m1,m2,m3,zs,zF,zr];refine⟨by omega,?_⟩;rw[hE,C];simp only[zK,wK,QE,Cut.V];exact J
 ·obtain rfl:k=l.length:=by omega
  rw[we]at F;have hsm:∀c∈q7 l,c.v.small:=YQ (Q:=fun c=>c.v.small) hlsm;have hcl:=Z5 l;obtain⟨v,Y',Z',L,Tp,hnx'⟩:=Al F hsm (by omega);obtain⟨cs,hcs⟩:=wM (kP (q7 l));have hcsl:cs.length<=1073741824:=by have:=cd (q7 l) [];rw[<-hcs];unfold kP;simp at this;omega
  have hcsm:∀c∈cs,c.v.small:=fun c hc=>by
   rw[<-hcs]at hc;rcases cg hc with h|h
   ·exact hsm c h
   ·cases h
  rw[hcs]at B Tp;have hfin:=B;obtain⟨is,his⟩:∃is:Cut->Bool,(fun c=>QS w (yE a c) (yE b c))=is:=⟨_,rfl⟩;have hisc:∀c,QS w (yE a c) (yE b c)=is c:=fun c=>by rw[<-his]
  rw[his]at hfin;clear F hcs hsm B;have N:=Tp.len gA;have j:(wg cs).length=cs.length:=by simp[wg]
  rw[j]at N;simp[G,H,I,h25,SN,h27,L,N];refine ql (fun k M Y Z=>M 0=int w/\M 1=.sl 11 (qn a)/\M 2=.sl 11 (qn b)/\M 40=v/\M 41=int cs.length/\M 42=int k/\qN Y Z 113 5 v (wg cs)/\∃xs,qN Y Z 115 11 (M 10) xs/\xs.map (QL jA)=qn (Vz is (cs.take k) (false,[])).2 /\
    M 11=yh (Vz is (cs.take k) (false,[])).1/\(∀id n m,v=.own id 0 n->M 10≠.own id 0 m)/\((Vz is (cs.take k) (false,[])).1=true->(Vz is (cs.take k) (false,[])).2≠[])/\xs.length<=k/\(xs=[]->M 10=.nil)) cs.length
   ⟨by simp[G],by simp[H],by simp[I],by simp,by simp,by simp,Tp,[],.inl ⟨by simp,rfl⟩,by simp[Vz,qn],by simp[Vz],by simp,by simp[Vz],by simp,by simp⟩ ?_
  clear G H I h25 SN h27 Tp hk f M Y Z L N hnx' Y' Z';rintro k M Y Z hk ⟨G,H,I,R,S,T,F,xs,hX,g,D,sZ,U,hxk,hxn⟩;by_cases f:k<cs.length
  ·have z:=wv k;obtain⟨id,hid,rfl,hh⟩:=F.at_ (by rw[j];omega);have o:=Cv is f (false,[]);obtain⟨st,Ei⟩:=wM (Vz is (cs.take k) (false,[]));obtain⟨c,hc⟩:=wM (cs[k]);rw[hc,Ei]at o;rw[Ei]at g D U;have W:=Cu is st c U;have y:c.v.small:=hcsm c (by rw[<-hc];exact zw f);have q:∀h:k<(wg cs).length,(wg cs)[k]=c.V:=fun h=>by simp[wg,hc]
   have X:=fun Y Z=>dv a c Y Z hsa y
   have M9:=fun Y Z=>dv b c Y Z hsb y
   have d:=fun Y Z=>XB w (yE a c) (yE b c) Y Z
   rw[hisc c]at d;simp only[Cut.V]at X M9 q;have m0:¬id=Z:=by omega
   have m1:¬id=Z+1:=by omega
   have m2:¬id=Z+1+1:=by omega
   rw[j]at F;have hki:=fun Y'=>yr hX Y' id (fun n=>sZ id _ n rfl)
   have SO:bh is st c=(is c,if(is c&&!st.1)=true then st.2++[yt c]else if(!is c&&st.1)=true then Qw st.2 c else st.2):=rfl;rw[SO]at o;rw[SO]at W;simp only at W;obtain⟨op,out⟩:=st;simp only at g D U W;cases hb:is c<;>cases op
   ·rw[hb]at d o;simp at o;simp[G,H,I,R,S,T,j,f,hh,q,X,M9,d,-XB,D,z,m0,o];exact⟨by omega,F.more _,xs,hX.more _,g,fun i n m e _=>sZ i _ m (by rw[e]),by omega,hxn⟩
   ·rw[hb]at d o;simp at o;have hne:=U rfl;obtain⟨m,hm⟩:∃m,out.length=m+1:=⟨out.length-1,by have:=kc.2 hne;omega⟩;have r:xs.length=m+1:=by have:=zp List.length g;simp[qn]at this;omega
    obtain⟨E,hid2,A,Ir⟩:=hX.at_ (by omega);have Ej:¬E=id:=fun e=>sZ id _ _ rfl (by rw[A,e])
    have SP:¬id=E:=fun e=>Ej e.symm
    have p0:¬E=Z:=by omega
    rw[r]at A;have hlm:m<xs.length:=by omega
    have hlo:m<out.length:=by omega
    have hrm:QL jA xs[m]=out[m].V:=by
     have e1:(xs.map (QL jA))[m]?=(qn out)[m]?:=by rw[g]
     simp only[qD,zo hlm,qn,zo hlo,zE,zY]at e1;exact e1
    obtain⟨x3,x5,x6,x7,x8,x9,x10,hrow,AR,Ek⟩:=r8 hrm;have wm:=wj (m:Int);have wm1:i6.wrap ((m:Int)+1-1)=(m:Int):=by rw[wU (by omega) (by omega)];omega
    simp[G,H,I,R,S,T,j,f,hh,q,X,M9,d,-XB,D,z,m0,o,A,Ir,p0,wm,wm1,hlm,hrow,Ek,yF];refine⟨by omega,.inr ⟨id,by omega,by rw[j],by simp[SP,m0,hh]⟩,xs.set m [int out[m].lo.v.a,int out[m].lo.v.b,int out[m].lo.v.c,x3,yh out[m].lo.after,int c.v.a,int c.v.b,int c.v.c,.sl 1 (qJ c.v.pre),yh c.after,yh false],.inr ⟨E,by omega,by simp[r],by simp⟩,?_,fun i n k' e _ e2=>absurd (e2.trans e.symm) Ej,by simp;omega,fun e=>by have:=zp List.length e;rw[List.length_set,r]at this;cases this⟩;rw[List.map_set,g,gJ hlo hm c,qn,qn,List.map_set];simp[AR,wG.V,Cut.V]
   ·rw[hb]at d o;simp at o;have p:=qN.ji (P:=prog) (t:=76) (c:=[int c.v.a,int c.v.b,int c.v.c,.sl 1 (qJ c.v.pre),yh c.after,int 0,int 0,int 0,.nil,yh false,yh true]) (hX.more (some ⟨113,5,false,[c.V]⟩)) T3 rG BC BD rfl (by omega) (by unfold maxLen;omega) (by omega);simp only[Cut.V]at p;simp[G,H,I,R,S,T,j,f,hh,q,X,M9,d,-XB,D,z,m0,o,p,zI,qe,zs,zF,zr];refine⟨by omega,.inr ⟨id,by omega,by rw[j],by simp[hki,hh,m0,m1,m2]⟩,xs++[[int c.v.a,int c.v.b,int c.v.c,.sl 1 (qJ c.v.pre),yh c.after,int 0,int 0,int 0,.nil,yh false,yh true]],by simpa using qN.after,?_,fun i n m e _ e2=>by omega,by simp;omega⟩;rw[kq,g];simp[qn,yt,wG.V,Cut.V,QP,qJ]
   ·rw[hb]at d o;simp at o;simp[G,H,I,R,S,T,j,f,hh,q,X,M9,d,-XB,D,z,m0,o];exact⟨by omega,F.more _,xs,hX.more _,g,fun i n m e _=>sZ i _ m (by rw[e]),U rfl,by omega,hxn⟩
  ·obtain rfl:k=cs.length:=by omega
   rw[we]at g;rw[<-hfin]at g;have r:xs.length=(kF (QS w) a b).length:=by have:=zp List.length g;simpa[qn]using this
   simp[G,H,I,R,S,T,f109];unfold Wy;rcases hX with⟨A,rfl⟩|⟨E,hid2,A,Ir⟩
   ·rw[zg (qM.1 r.symm)];exact A
   ·by_cases hz:kF (QS w) a b=[]
    ·rw[zg hz];rw[hz]at r;exact hxn (qM.1 r)
    ·rw[zf hz];refine⟨E,_,A,Ir,rfl,?_⟩;simp only[fq,g]
noncomputable def Ms:zb->Option (Option Blk):=qW (α:=Int×List wG×List wG) (fun a=>[int a.1,.sl 11 (qn a.2.1),.sl 11 (qn a.2.2)]) (fun a=>(jU a.2.1/\jU a.2.2)/\jI a.2.1/\jI a.2.2) (fun a=>Wy (QS a.1) a.2.1 a.2.2)
theorem zaW:∀a b:Int×List wG×List wG,[int a.1,O.sl 11 (qn a.2.1),.sl 11 (qn a.2.2)]=[int b.1,.sl 11 (qn b.2.1),.sl 11 (qn b.2.2)]->a=b:=by rintro⟨g,h,i⟩ ⟨j,k,l⟩ e;simp only[zq,qh]at e;obtain⟨c,d,f⟩:=e;injection c with c;injection c with _ c;injection d with _ d;injection f with _ f;rw[c,Z4 d,Z4 f]
theorem oD:zi prog 109 (vD [.a,.s 11 jA,.s 11 jA] Ms):=
 JO (fn:=f109) zaV (wc func109) _ jA _ fun args r h=>by obtain⟨⟨w,a,b⟩,rfl,⟨⟨c,d⟩,e,f⟩,rfl⟩:=zL h;exact⟨by simp[f109],Mr w a b c d e f⟩
def eA(Y:Hp)(Z:Nat)(v:O)(m:List wG):Prop:=(v=.nil/\m=[])\/∃id xs,id<Z/\v=.own id 0 xs.length/\Y id=some ⟨115,11,true,xs⟩/\xs.map (QL jA)=qn m
theorem eA.frz{Y:Hp}{Z:Nat}{v:O}{m:List wG}(h:eA Y Z v m):∃y Y1,zO Y v=some (y,Y1)/\(Sh.s 11 jA).fix y=.sl 11 (qn m)/\(∀j,(∀n,v≠.own j 0 n)->Y1 j=Y j):=by
 rcases h with⟨rfl,rfl⟩|⟨id,xs,d,rfl,a,b⟩
 ·exact⟨_,Y,rfl,rfl,fun _ _=>rfl⟩
 ·exact⟨.sl 11 xs,qf Y id none,by simp[a],by rw[Sh.oR,b],fun j c=>w5 _ _ _ _ fun e=>c _ (by subst e;rfl)⟩
theorem eA.Ji{Y a:Hp}{Z b:Nat}{v:O}{m:List wG}(h:eA Y Z v m)(g:Z<=b)(c:∀id,id<Z->(∀n,v=.own id 0 n->a id=Y id)):eA a b v m:=by
 rcases h with⟨rfl,rfl⟩|⟨id,xs,d,rfl,e,f⟩
 ·exact .inl ⟨rfl,rfl⟩
 ·exact .inr ⟨id,xs,by omega,rfl,by rw[c id d _ rfl];exact e,f⟩
theorem eA.len{Y:Hp}{Z:Nat}{v:O}{m:List wG}(h:eA Y Z v m):JF prog 76 v=some (int m.length):=by
 rcases h with⟨rfl,rfl⟩|⟨id,xs,b,rfl,c,a⟩
 ·simp
 ·have:=zp List.length a;simp[qn]at this;simp[this]
theorem eA.box{Y:Hp}{Z:Nat}{v:O}{m:List wG}(h:eA Y Z v m){j:Nat}{b:Blk}(a:Y j=some b)(c:b.e≠115):∀n,v≠.own j 0 n:=by
 rcases h with⟨rfl,rfl⟩|⟨id,xs,f,rfl,d,g⟩
 ·intro n e;cases e
 ·intro n e;injection e with e
  subst e;rw[d]at a;injection a with a
  subst a;exact c rfl
theorem DO(c:Int)(f:Bool->Bool->Bool)(o:QS c=f){Y:Hp}{Z:Nat}{v:O}{a b:List wG}(p:eA Y Z v a)(q:jU a)(r:jU b)(t:jI a)(u:jI b) :
  ∃x g h,vD [.a,.s 11 jA,.s 11 jA] Ms [int c,v,.sl 11 (qn b)] Y Z=some (x,g,h)/\eA g h x (kF f a b)/\Z<=h/\∀j,j<Z->(∀n,v≠.own j 0 n)->g j=Y j:=by
 obtain⟨y,Y1,w,z,l⟩:=p.frz;have e:zH Y [int c,v,.sl 11 (qn b)]=some ([int c,y,.sl 11 (qn b)],Y1):=by have A:zO Y (int c)=some (int c,Y):=rfl;have B:zO Y1 (.sl 11 (qn b))=some (.sl 11 (qn b),Y1):=rfl;simp only[zH,A,w,B]
 have m:Ms (cX [.a,.s 11 jA,.s 11 jA] (yR [] [int c,y,.sl 11 (qn b)]))=some (Wy f a b):=by show Ms [Sh.a.fix (int c),(Sh.s 11 jA).fix y,(Sh.s 11 jA).fix (.sl 11 (qn b))]=_;rw[z,Km,<-o];exact qX (V:=fun a:Int×List wG×List wG=>[int a.1,O.sl 11 (qn a.2.1),.sl 11 (qn a.2.2)]) (a:=(c,a,b)) zaW ⟨⟨q,r⟩,t,u⟩
 unfold vD jL;by_cases i:kF f a b=[]
 ·have d:=m;unfold Wy at d;rw[zg i]at d;simp only[e,d];exact⟨_,_,_,rfl,.inl ⟨rfl,i⟩,zk _,fun j _ k=>l j k⟩
 ·have d:=m;unfold Wy at d;rw[zf i]at d;simp only[e,d];exact⟨_,_,_,rfl,.inr ⟨Z,qn (kF f a b),by omega,rfl,by simp,by have:=Km (kF f a b);simpa[Sh.oR]using this⟩,by omega,fun j C k=>by rw[w5 _ _ _ _ (by omega)];exact l j k⟩
theorem zhb:QS 1=and:=by funext a b;simp[QS]
theorem zhc:QS 0=or:=by funext a b;simp[QS]
theorem Av:∀(c:List za) (l:List bp) (n:Nat),jV c=some l->(∀w∈c,w.length<=n)->l.length<=c.length/\∀a∈l,a.2.length<=n
 |[],l,n,h,_=>by simp only[jV]at h;injection h with h;subst h;simp
 |[w],l,n,h,d=>by
  simp only[jV]at h;split at h
  ·cases h
  ·injection h with h;subst h;refine⟨by simp,fun a b=>?_⟩;rw[wA]at b;rw[b];exact z8 (K7 wx w) (d w (by simp))
 |w::x::c,l,n,h,d=>by
  simp only[jV]at h;split at h
  ·cases e:jV c with
   |none=>rw[e]at h;cases h
   |some l'=>
    rw[e]at h;simp only[zE,zY]at h;subst h;obtain⟨i,f⟩:=Av c l' n e fun y g=>d y (by simp[g])
    refine⟨by simp;omega,fun a b=>?_⟩;rcases zv.1 b with rfl|b
    ·exact d x (by simp)
    ·exact f a b
  ·cases e:jV (x::c)with
   |none=>rw[e]at h;cases h
   |some l'=>
    rw[e]at h;simp only[zE,zY]at h;subst h;obtain⟨i,f⟩:=Av (x::c) l' n e fun y g=>d y (by simp[zv.1 g])
    refine⟨by simp at i⊢;omega,fun a b=>?_⟩;rcases zv.1 b with rfl|b
    ·exact z8 (K7 wx w) (d w (by simp))
    ·exact f a b
theorem DP{t:za}{l:List bp}(h:jV (ja t)=some l):l.length<=t.length+1/\∀a∈l,a.2.length<=t.length:=by
 have c:wJ (qt t [32])=ja t:=fE t;obtain⟨e,d⟩:=Av _ l t.length h fun w b=>by rw[<-c]at b;exact vV (pY.1 b).1
 have f:(ja t).length<=t.length+1:=by rw[<-c];exact z8 (hU _ _) (xP (by simp))
 exact⟨by omega,d⟩
theorem sO{o:za}{p:Part}(a:pM o)(Y:p.ok)(b:Qy p.pre):jI (b7 o p).1/\(b7 o p).1.length<=1:=by
 obtain⟨c,d⟩:=ab (Dh a Y b);unfold b7;by_cases h:(vy (Kh o p)).2=true
 ·rw[zg h];exact⟨d,c⟩
 ·rw[zf h];exact⟨(fun s hs=>by cases hs),by simp⟩
theorem zaX(a b:za):((⟨a.toArray⟩:ByteArray)==⟨b.toArray⟩)=decide (a=b):=by show(a.toArray==b.toArray)=_;by_cases h:a=b<;>simp[h]
theorem RJ(a b c d:za):Qi prog .eql 172 (.agg [str a,str b]) (.agg [str c,str d])=some (yh (decide (a=c)&&decide (b=d))):=by simp only[Qi,zgv,yo,zE,Jc,zaX]
noncomputable def W4 (t:za):List wG×Int:=match VK t with
 |none=>([],10)
 |some m=>(m.1,if m.2=true then 0 else 1)
noncomputable def Y3 (t:za):O:=.wL [.sl 11 (qn (W4 t).1),int (W4 t).2]
def AltI(l:List bp)(k:Nat)(Y:Hp)(Z:Nat)(v w:O):Prop:=∃o a,eA Y Z v o/\jI o/\o.length<=k+1/\w=int (if a=true then 0 else 1)/\ZF [yt q8] true l=ZF o a (l.drop k)
noncomputable abbrev zb8:Ctx:=qj prog [(164,zn false [] (M0 pO)),(165,zn false [] FBt2),(166,qK [] (YO e8)),(167,zn false [] (FS yD)),(168,zn false [] (aF Ga)),(169,qK [.a,.g vd] FOVI),(109,vD [.a,.s 11 jA,.s 11 jA] Ms)]
theorem RL:AM.Good zb8 (fun g=>[165].contains g):=qx mixed ⟨Ah,by simp,n9,fun _=>zt _ _,dO,by simp,pz,by simp,YT,by simp,nV,by simp,oD,by simp,trivial⟩
theorem Mt(t:za)(ht:t.length+1<=qg):∃r0,zG zb8 f108 [str t]=some r0/\wW r0 (Y3 t):=by
 refine y6 (sh:=.s 11 jA) rfl ?_;have hwo:∀(Y:Hp) (Z:Nat),zn false [] (M0 pO) [str t] Y Z=some (pO t,Y,Z):=fun Y Z=>iX t _ _ rfl (fun a b e=>yp (by injection e)) (by show t.length<=qg;omega) (.inr (by simp))
 refine Qq (fun st=>st.M 0=str t) (by simp) ?_;rintro⟨M,Y,Z⟩ h0;simp only at h0;refine Qq (fun st=>st.M 4=.sl 2 (Q5 (iM t).1)/\st.M 5=yh (iM t).2) (by simp[h0,hwo,pO]) ?_;clear h0 M Y Z;rintro⟨M,Y,Z⟩ ⟨y,N⟩;simp only at y N;cases E:jV (ja t)with
 |none=>
  have hr:iM t=([],false):=by unfold iM;rw[E]
  have H:W4 t=([],10):=by unfold W4 VK;rw[E]
  rw[hr]at y N;simp[y,N,qy,Y3,H,qn,f108]
 |some l=>
 have hr:iM t=(l,!l.isEmpty):=by unfold iM;rw[E]
 rw[hr]at y N;simp only at y N;by_cases P:l=[]
 ·have H:W4 t=([],10):=by unfold W4 VK;rw[E];simp only;rw[zg P]
  subst P;simp[y,N,qy,Y3,H,qn,f108]
 have I:VK t=match XI l with
  |some a=>match Qd a.1,Qd a.2 with
   |some p,some q=>some (dR p q)
   |_,_=>none
  |none=>ZF [yt q8] true l:=by unfold VK;rw[E];simp only;rw[zf P];rfl
 have T:l.isEmpty=false:=by cases l<;>simp at P⊢
 rw[T]at N;obtain⟨hll,U⟩:=DP E;have Tn:=nT _ l E;have j:=nW l;unfold qg at ht;refine Qq (fun st=>st.M 4=.sl 2 (Q5 l)) (by simp[N,y]) ?_;clear y N M Y Z;rintro⟨M,Y,Z⟩ y;simp only at y;refine Qq (fun st=>st.M 4=.sl 2 (Q5 l)/\XI l=none) ?_ ?_
 ·by_cases h3:l.length=3
  ·match l,h3 with
   |[a,b,c],_=>
   obtain⟨X,S⟩:=a;obtain⟨b1,b2⟩:=b;obtain⟨c1,c2⟩:=c;have hd:XI [(X,S),(b1,b2),(c1,c2)]=if(b1,b2)=(([],[45]):bp)/\X=[]/\c1=[]then some (S,c2)else none:=rfl
   have ha2:S.length<=t.length:=U (X,S) (by simp);have hc2:c2.length<=t.length:=U (c1,c2) (by simp);have hbt:=fun Y Z=>L1 S c2 Y Z ⟨by unfold qg;omega,by unfold qg;omega⟩
   by_cases k1:b1=[]
   ·subst k1;by_cases k2:b2=[45]
    ·subst k2;by_cases k3:X=[]
     ·subst k3;by_cases k4:c1=[]
      ·subst k4;rw[zg ⟨rfl,rfl,rfl⟩]at hd;rw[hd]at I;have H:W4 t=nZ S c2:=by unfold W4 nZ;rw[I];simp only;cases h1:Qd S<;>cases h2:Qd c2<;>simp
       have hfx:=Km (nZ S c2).1;simp only[Sh.oR,O.sl.injEq,true_and]at hfx;simp only[XK]at hbt;simp[y,Q5,hbt,RJ,zI,qe,qy,Y3,H,hfx,f108]
      ·rw[zf (fun h=>k4 h.2.2)]at hd;have e4:c1.isEmpty=false:=by cases c1 with
        |nil=>exact absurd rfl k4
        |cons=>rfl
       simp[y,Q5,RJ,zI,qe,e4,hd]
     ·rw[zf (fun h=>k3 h.2.1)]at hd;have e3:X.isEmpty=false:=by cases X with
       |nil=>exact absurd rfl k3
       |cons=>rfl
      simp[y,Q5,RJ,zI,qe,e3,hd]
    ·rw[zf (fun h=>k2 (by have:=h.1;injection this))]at hd;simp[y,Q5,RJ,zI,qe,k2,hd]
   ·rw[zf (fun h=>k1 (by have:=h.1;injection this))]at hd;simp[y,Q5,RJ,zI,qe,k1,hd]
  ·have hd:XI l=none:=by
    unfold XI;split
    ·rename_i a b c;exact absurd rfl h3
    ·rfl
   have AR:((l.length:Int)==3)=false:=by rw[w8];omega
   simp[y,j,AR,hd]
 clear y M Y Z;rintro⟨M,Y,Z⟩ ⟨y,hd⟩;simp only at y;rw[hd]at I;simp only at I;have T:∀(Y:Hp) (Z:Nat),qK [] (YO e8) [] Y Z=some (.agg [int q8.v.a,int q8.v.b,int q8.v.c,.sl 1 (qJ q8.v.pre),yh q8.after],Y,Z):=fun Y Z=>Q1 _ Y Z
 simp[y,j,T,zI,qe,zs,zF,zr];refine ql (fun k M Y Z=>M 60=.sl 2 (Q5 l)/\M 61=int l.length/\M 62=int k/\AltI l k Y Z (M 6) (M 7)) l.length
  ⟨by simp,by simp,by simp,[yt q8],true,.inr ⟨Z,[[int q8.v.a,int q8.v.b,int q8.v.c,.sl 1 (qJ q8.v.pre),yh q8.after,int 0,int 0,int 0,.nil,yh false,yh true]],by simp,by simp,by simp,by simp[qn,yt,wG.V,Cut.V,QP,qJ]⟩,(Q3 vQ).2,by simp,by simp,by simp⟩ ?_
 clear y M Y Z;rintro k M Y Z hk ⟨m,r,u,o,ok,hM,Q,hol,h7,g⟩;by_cases d:k<l.length
 ·have J:=wv k;obtain⟨a,ha⟩:=wM (l[k]);have W:a∈l:=by rw[<-ha];exact zw d
  have z:∀h:k<(Q5 l).length,(Q5 l)[k]=[str a.1,str a.2]:=fun h=>by simp[Q5,ha]
  have hal:=U a W;have K:=fun Y Z=>kK yD a.2 Y Z (by unfold qg;omega)
  have D:=fun Y Z=>Zd Ga a.2 Y Z (by unfold qg;omega)
  simp only[Ga,yC.V]at D;rw[zl d,ha]at g;simp only[ZF]at g;have hie:a.1≠[]->a.1.isEmpty=false:=fun h=>by cases he:a.1 with
   |nil=>exact absurd he h
   |cons=>rfl
  by_cases w:a.1=[]/\yD a.2=true
  ·rw[zg w]at g;obtain⟨f,F⟩:=w;simp[m,r,u,d,j,z,f,K,F,J];exact⟨by omega,o,ok,hM.Ji (by omega) fun id hid n e=>w5 _ _ _ _ (by omega),Q,by omega,h7,g⟩
  ·rw[zf w]at g;have hM1:∀b1 b2,eA (qf (qf Y Z b1) (Z+1) b2) (Z+1+1) (M 6) o:=fun b1 b2=>hM.Ji (by omega) fun id hid n e=>by rw[w5 _ _ _ _ (by omega),w5 _ _ _ _ (by omega)]
   have n1:¬Z=Z+1:=by omega
   cases L:Qd a.2 with
   |none=>
    rw[L]at g;simp only at g;have H:W4 t=([],10):=by unfold W4;rw[I,g]
    have A:=nY L;by_cases f:a.1=[]
    ·have F:yD a.2=false:=by cases G:yD a.2;rfl;exact absurd ⟨f,G⟩ w
     rcases A with A|A
     ·simp[m,r,u,d,j,z,f,K,F,D,A,qy,Y3,H,qn,f108]
     ·cases G:(VJ a.2).2.2<;>simp[m,r,u,d,j,z,f,K,F,D,A,G,qy,Y3,H,qn,f108]
    ·have f:=hie f;rcases A with A|A
     ·simp[m,r,u,d,j,z,f,D,A,qy,Y3,H,qn,f108]
     ·cases G:(VJ a.2).2.2<;>simp[m,r,u,d,j,z,f,D,A,G,qy,Y3,H,qn,f108]
   |some p=>
    rw[L]at g;simp only at g;obtain⟨p1,p2,p3,p4,p5,p6,p7⟩:=nX L;obtain⟨_,_,q3,q4⟩:=Qb L;have R:=jl p3;rw[<-p2]at p6 p7;have B:=fun Y Z=>LY a.1 (VJ a.2).1 (VJ a.2).2.1 Y Z (Tn a W) p5 ⟨p6,p7⟩
    simp only[WY,<-p4,yC.V]at B;obtain⟨g1,g2⟩:=sO (Tn a W) q3 q4;have hlm:=Kl and o (b7 a.1 p).1;obtain⟨x,Y',Z',C,hX,hnx',_⟩:=DO 1 and zhb (hM1 (some ⟨172,2,false,[[str a.1,str a.2]]⟩) (some ⟨111,4,false,[(VJ a.2).1.V]⟩)) (Q.small (by unfold qg;omega)) (g1.small (by unfold qg;omega)) Q g1;simp only[yC.V]at C;have i:∀n:Int,n=(if(ok&&(b7 a.1 p).2)=true then 0 else 1)->AltI l (k+1) Y' Z' x (int n):=fun n hn=>⟨_,_,hX,vW and Q g1,by omega,by rw[hn],g⟩
    by_cases f:a.1=[]
    ·have F:yD a.2=false:=by cases G:yD a.2;rfl;exact absurd ⟨f,G⟩ w
     rw[f]at B C i z;cases G:(b7 [] p).2
     ·rw[G]at B i;simp[m,r,u,d,j,z,K,F,D,p1,R,n1,B,C,J];exact⟨by omega,i 1 (by simp)⟩
     ·rw[G]at B i;simp[m,r,u,d,j,z,K,F,D,p1,R,n1,B,C,J];exact⟨by omega,by rw[h7];exact i _ (by simp)⟩
    ·have f:=hie f;cases G:(b7 a.1 p).2
     ·rw[G]at B i;simp[m,r,u,d,j,z,f,D,p1,R,n1,B,C,J];exact⟨by omega,i 1 (by simp)⟩
     ·rw[G]at B i;simp[m,r,u,d,j,z,f,D,p1,R,n1,B,C,J];exact⟨by omega,by rw[h7];exact i _ (by simp)⟩
 ·obtain rfl:k=l.length:=by omega
  rw[zA]at g;simp only[ZF]at g;have H:W4 t=(o,if ok=true then 0 else 1):=by unfold W4;rw[I,g]
  rcases hM with⟨h6,rfl⟩|⟨id,xs,hid,h6,G,hxs⟩
  ·simp[m,r,u,h6,h7,qy,Y3,H,qn,f108]
  ·simp[m,r,u,h6,h7,G,hxs,qy,Y3,H,f108]
theorem GA:zi prog 108 (zn false [] (aF Y3)):=
 Js (fn:=f108) RL (wc func108) false [] _ fun args r h w S vs a=>by obtain⟨l,rfl,Y,rfl⟩:=zL h;obtain⟨r0,b,c⟩:=Mt l Y;exact⟨_,r0,a,by simp[f108],b,c⟩
theorem cj:∀(l:List bp) (out:List wG) (d:Bool) (m:List wG×Bool),(∀a∈l,pM a.1)->jI out->ZF out d l=some m->jI m.1/\m.1.length<=out.length+l.length
 |[],out,d,m,_,h,e=>by
  simp only[ZF]at e;injection e with e
  subst e;exact⟨h,by simp⟩
 |a::l,out,d,m,hs,h,e=>by
  simp only[ZF]at e;have c:∀b∈l,pM b.1:=fun b i=>hs b (by simp[i])
  split at e
  ·obtain⟨f,j⟩:=cj l out d m c h e;exact⟨f,by simp;omega⟩
  ·cases g:Qd a.2 with
   |none=>rw[g]at e;cases e
   |some p=>rw[g]at e;simp only at e;obtain⟨_,_,k,n⟩:=Qb g;obtain⟨o,r⟩:=sO (hs a (by simp)) k n;have q:=Kl and out (b7 a.1 p).1;obtain⟨f,j⟩:=cj l _ _ m c (vW and h o) e;exact⟨f,by simp;omega⟩
theorem Mu{t:za}{m:List wG×Bool}(h:VK t=some m):jI m.1/\m.1.length<=t.length+2:=by
 unfold VK at h;cases b:jV (ja t)with
 |none=>rw[b]at h;cases h
 |some l=>
  rw[b]at h;simp only at h;split at h
  ·cases h
  ·cases hd:XI l with
   |none=>rw[hd]at h;simp only at h;obtain⟨d,e⟩:=cj l _ _ m (nT _ l b) (Q3 vQ).2 h;have:=(DP b).1;exact⟨d,by simp at e;omega⟩
   |some a=>
    rw[hd]at h;simp only at h;cases Y:Qd a.1 with
    |none=>rw[Y]at h;simp at h
    |some p=>
     cases c:Qd a.2 with
     |none=>rw[Y,c]at h;simp at h
     |some q=>
      rw[Y,c]at h;simp only[zY]at h;obtain⟨_,_,i,f⟩:=Qb Y;obtain⟨_,_,j,g⟩:=Qb c;rw[<-h];unfold dR;split
      ·have:=Wz (nm f) (aa g);exact⟨this.2,by simp only;omega⟩
      ·exact⟨(fun s hs=>by cases hs),by simp⟩
def RrI(a:List za)(k:Nat)(Y:Hp)(Z:Nat)(v w:O):Prop:=∃o b,eA Y Z v o/\jI o/\o.length<=k*500/\w=int (if b=true then 0 else 1)/\WC [] true a=WC o b (a.drop k)
noncomputable abbrev Crrr:Ctx:=qj prog [(107,jL [] FSp),(108,zn false [] (aF Y3)),(109,vD [.a,.s 11 jA,.s 11 jA] Ms)]
theorem zaY:Gd Crrr:=qQ mixed ⟨Wx,GA,oD,trivial⟩
theorem iP(t:za)(ht:t.length+1<=qg):∃r0,zG Crrr f77 [str t]=some r0/\wW r0 (CC t):=by
 refine y6 (sh:=.s 11 jA) rfl ?_;have J:CC t=.wL [.sl 11 (qn (WD t).1),int (WD t).2]:=by rw[Ag];rfl
 rw[J];by_cases j:(400:Int)<t.length
 ·have U:WD t=([],2):=by unfold WD;rw[zg j]
  simp[j,U,qn,qy,f77]
 have B:=fun Y Z=>Z2 t [124,124] Y Z (by omega) (by decide) (by decide)
 obtain⟨a,d⟩:=wM (qt t [124,124]);have K:∀p∈a,p.length<=400:=fun p Y=>by have:=vV (by rw[d];exact Y);omega
 have W:a.length<=401:=by have:=xP (s:=t) (sep:=[124,124]) (by simp);rw[d]at this;omega
 have b:WD t=match WC [] true a with
  |none=>([],10)
  |some o=>if o.2=false then([],1)else if(100:Int)<o.1.length then([],2)else(o.1,0):=by unfold WD;rw[zf j,d];rfl
 rw[d]at B;simp[j,B];refine ql (fun k M Y Z=>M 14=.own 0 0 a.length/\M 15=int a.length/\M 16=int k/\1<=Z/\Y 0=some (K2 a)/\RrI a k Y Z (M 4) (M 5)) a.length
  ⟨by simp,by simp,by simp,by simp,by simp,[],true,.inl ⟨by simp,rfl⟩,(fun s hs=>by cases hs),by simp,by simp,by simp⟩ ?_
 rintro k M Y Z hk ⟨g,h,i,X,Q,o,R,G,y,hol,z,e⟩;by_cases f:k<a.length
 ·have C:=wv k;obtain⟨s,hs⟩:=wM (a[k]);have hsl:s.length<=400:=K s (by rw[<-hs];exact zw f);have c:=fun Y Z=>Zd Y3 s Y Z (by unfold qg;omega)
  have u:Y 0=some ⟨9,1,true,a.map fun p=>[str p]⟩:=Q;rw[zl f,hs]at e;simp only[WC]at e;cases q:VK s with
  |none=>
   rw[q]at e;simp only at e;rw[e]at b;simp only at b;have L:W4 s=([],10):=by unfold W4;rw[q]
   simp only[Y3,L]at c;simp[g,h,i,f,u,hs,c,b,qn,qy,f77]
  |some m=>
   rw[q]at e;simp only at e;have L:W4 s=(m.1,if m.2=true then 0 else 1):=by unfold W4;rw[q]
   obtain⟨N,g2⟩:=Mu q;have hlm:=Kl or o m.1;obtain⟨x,S,Z',v,hX,T,P⟩:=DO 0 or zhc G (y.small (by unfold qg;omega)) (N.small (by unfold qg;omega)) y N;have D:S 0=some (K2 a):=by rw[P 0 (by omega) (G.box u (by simp))];exact Q
   have l:∀n:Int,n=(if(R&&m.2)=true then 0 else 1)->RrI a (k+1) S Z' x (int n):=fun n hn=>⟨_,_,hX,vW or y N,by omega,by rw[hn],e⟩
   simp only[Y3,L]at c;cases H:m.2
   ·rw[H]at c l;simp at c;simp[g,h,i,f,u,hs,c,v,C];exact⟨by omega,by omega,D,l 1 (by simp)⟩
   ·rw[H]at c l;simp at c;simp[g,h,i,f,u,hs,c,v,C];exact⟨by omega,by omega,D,by rw[z];exact l _ (by simp)⟩
 ·obtain rfl:k=a.length:=by omega
  rw[zA]at e;simp only[WC]at e;rw[e]at b;simp only at b;cases R
  ·simp at b z;simp[g,h,i,z,b,qn,qy,f77]
  ·simp at b z;have w:=G.len;by_cases r:(100:Int)<o.length
   ·have A:100<o.length:=by omega
    rw[zg r]at b;simp[g,h,i,z,w,r,b,qn,qy,f77]
   ·have A:¬100<o.length:=by omega
    rw[zf r]at b;rcases G with⟨I,rfl⟩|⟨id,xs,hid,I,H,E⟩
    ·simp[g,h,i,z,I,b,qn,qy,f77]
    ·rw[I]at w;have hxl:xs.length=o.length:=by have:=zp List.length E;simpa[qn]using this
     have F:¬(100:Int)<xs.length:=by omega
     simp[g,h,i,z,I,F,H,E,b,qy,f77]
theorem fR:zi prog 77 (zn false [] (aF CC)):=
 Js (fn:=f77) zaY (wc func77) false [] _ fun args r h w S vs a=>by obtain⟨l,rfl,Y,rfl⟩:=zL h;obtain⟨r0,b,c⟩:=iP l Y;exact⟨_,r0,a,by simp[f77],b,c⟩
theorem Vt:zi prog 52 (zn false [] (oV jY)):=
 y3 (fn:=f52) jj (wc func52) false [] _ fun args r h=>by obtain⟨a,rfl,rfl⟩:=af h;refine⟨by simp[f52],_,zu rfl ?_,q9 _⟩;by_cases b:3<=a<;>simp[b,jY,v7,yx,f52]
theorem Aw:zi prog 74 (zn false [] (oV xR)):=
 y3 (fn:=f74) jj (wc func74) false [] _ fun args r h=>by obtain⟨a,rfl,rfl⟩:=af h;refine⟨by simp[f74],_,zu rfl ?_,q9 _⟩;by_cases b:7<=a<;>simp[b,xR,v7,yx,f74]
noncomputable abbrev Crwv:Ctx:=qj prog [(52,zn false [] (oV jY))]
theorem zaZ:Gd Crwv:=qQ mixed ⟨Vt,trivial⟩
theorem RM(a:Int):YR a=(a==2||jY a||a==12):=by
 unfold YR jY v7;by_cases h:a=2
 ·subst h;decide
 ·have b:=jl h;rw[b];congr 1;rw[q6];simp;omega
theorem Ax:zi prog 73 (zn false [] (oV YR)):=
 y3 (fn:=f73) zaZ (wc func73) false [] _ fun args r h=>by obtain⟨a,rfl,rfl⟩:=af h;refine⟨by simp[f73],_,zu rfl ?_,q9 _⟩;rw[RM];cases b:a==2<;>cases c:jY a<;>simp[b,c,yx,f73]
noncomputable def FCL (n:Nat):zb->Option O:=qW (α:=Cnd×Int) (fun a=>[.agg a.1.V,int a.2]) (fun a=>a.1.parts<=qg/\a.1.parts<=n/\0<=a.2/\a.2+a.1.parts<=536870912) (fun a=>.wL [int (a.1.rp a.2).1,yh (a.1.rp a.2).2])
theorem DQ(n:Nat)(c:Cnd)(l:Int)(Y:Hp)(Z:Nat)(h:c.parts<=qg/\c.parts<=n/\0<=l/\l+c.parts<=536870912):zn false [] (FCL n) [.agg c.V,int l] Y Z=some (.wL [int (c.rp l).1,yh (c.rp l).2],Y,Z):=
 iX (c,l) _ _ (by simp only[zH,Xu];rfl) (fun x y e=>by obtain⟨a,b⟩:=x;obtain⟨d,f⟩:=y;simp only[zq,qh,O.agg.injEq]at e;rw[dC e.1,qA e.2]) h (.inl rfl)
noncomputable abbrev Crpa (n:Nat):Ctx:=qj prog [(54,zn false [] (FCL n))]
def PaI(c:Cnd)(l:Int)(k:Nat)(v w:O):Prop:=∃s:Int×Bool,v=int s.1/\w=yh s.2/\0<=s.1/\s.1+yV (c.args.drop k)<=268435457/\c.rp l=AX (c.args.drop k) l s
theorem RN(s:Int×Bool):(s.2||decide (200<s.1))=YZ s:=rfl
theorem Ay(n:Nat)(c:Cnd)(l:Int)(h:c.parts<=qg/\c.parts<=n+1/\0<=l/\l+c.parts<=536870912):zG (Crpa n) f54 [.agg c.V,int l]=some (.wL [int (c.rp l).1,yh (c.rp l).2]):=by
 have y:=Yr c;have r:=RH c l;have z:=bV c.args;obtain⟨A,I,B,C⟩:=h;unfold qg at A;refine zu rfl ?_;simp;refine ql (fun k M Y Z=>M 1=int l/\M 15=.sl 7 (c.args.map Cnd.V)/\M 16=int c.args.length/\M 17=int k/\PaI c l k (M 6) (M 7)) c.args.length
  ⟨by simp,by simp,by simp,by simp,(1,decide (20<l)),by simp,by simp,by simp,by rw[ZK];simp only;omega,by rw[r,ZK]⟩ ?_
 rintro k M Y Z J ⟨m,d,e,f,s,o,p,D,E,g⟩;by_cases a:k<c.args.length
 ·have K:=bU (zw a);have F:=wv k;have t:=wj (l+1);have G:yV (c.args.drop k)=c.args[k].parts+yV (c.args.drop (k+1)):=by rw[zl a,yV]
  have b:=RN s;cases q:YZ s
  ·rw[q]at b;have i:=b;rw[wE]at i;obtain⟨x,H⟩:=i;have u:¬200<s.1:=by simpa using H
   obtain⟨L,N,_,_⟩:=DM c.args[k] (l+1);have j:=fun Y Z=>DQ n c.args[k] (l+1) Y Z ⟨by unfold qg;omega,by omega,by omega,by omega⟩
   rw[RI a]at g;have v:sM s (c.args[k].rp (l+1))=(s.1+(c.args[k].rp (l+1)).1,s.2||(c.args[k].rp (l+1)).2):=by unfold sM;rw[q];rfl
   rw[v]at g;have w:=wj (s.1+(c.args[k].rp (l+1)).1);simp[m,d,e,f,o,p,x,u,a,j,F,t,w];exact⟨by omega,(s.1+(c.args[k].rp (l+1)).1,s.2||(c.args[k].rp (l+1)).2),rfl,by simp[x],by simp only;omega,by simp only;omega,g⟩
  ·rw[q]at b;rw[dX q]at g;cases hd:s.2
   ·rw[hd]at b;simp at b;simp[m,d,e,f,o,p,hd,b,a,g,yx,f54]
   ·simp[m,d,e,f,o,p,hd,a,g,yx,f54]
 ·obtain rfl:k=c.args.length:=by omega
  rw[zA]at g;simp only[AX]at g;simp[m,d,e,f,o,p,g,yx,f54]
theorem pT:∀n,zi prog 54 (zn false [] (FCL n)):=by
 intro n
 induction n with
 |zero=>
  exact Kk ⟨_,func54,by kernel_rfl,by kernel_rfl⟩ fun args r h=>by obtain⟨⟨c,l⟩,_,⟨_,a,_⟩,_⟩:=zL h;have:=fw c;simp only at a;omega
 |succ n b=>have d:Gd (Crpa n):=qQ mixed ⟨b,trivial⟩;exact VG d func54 false [] fun⟨c,l⟩ e=>⟨z8 (zk 2) (by decide),_,Ay n c l e,q9 _⟩
noncomputable abbrev Crla:Ctx:=qj prog [(54,zn false [] (FCL qg))]
theorem DR(c:Cnd)(a:c.parts<=qg):zG Crla f30 [.agg c.V]=some (yh (YZ (c.rp 1))):=by
 have b:=a;unfold qg at b;have d:=fun Y Z=>DQ qg c 1 Y Z ⟨a,a,by omega,by omega⟩
 refine zu rfl ?_;unfold YZ;cases hd:(c.rp 1).2
 ·simp[d,hd,yx,f30]
 ·simp[d,hd,yx,f30]
theorem pU:zi prog 30 (zn false [] (FCp (fun c=>yh (YZ (c.rp 1))) qg)):=
 VG (qQ mixed ⟨pT qg,trivial⟩:AM.Good Crla _) func30 false [] fun c a=>⟨z8 (zk 1) (by decide),_,DR c a.1,q9 _⟩
theorem Az:zi prog 30 (GC fun c=>yh (YZ (c.rp 1))):=sg (O9 _ qg) pU
def HX(c:Cnd):Bool:=(!(c.kind==4)&&(!c.attr.isEmpty||c.op != 0))||(c.kind != 5&&!c.name.isEmpty)
def f2R(c:Cnd):Bool:=(!((c.kind==4)&&YR c.op)&&decide (0<c.ki.length))||(!((c.kind==4)&&xR c.op)&&!c.pat.isEmpty)
noncomputable abbrev Crfo:Ctx:=qj prog [(73,zn false [] (oV YR)),(74,zn false [] (oV xR)),(52,zn false [] (oV jY))]
theorem za0:Gd Crfo:=qQ mixed ⟨Ax,Aw,Vt,trivial⟩
theorem AA(c:Cnd)(h:c.cb<=qg):zG Crfo f55 [.agg c.V]=some (yh (oC c)):=by
 refine zu rfl ?_;have g:oC c=(!HX c&&!f2R c&&(if c.kind=3 then(c.args.length:Int)==1 else if c.kind=4\/c.kind=5 then((c.args.length:Int)==0&&(!jY c.op||(c.ki.length:Int)==1))else true)):=rfl;refine Qq (fun st=>st.M 1=.ref 0 0 0/\st.Y 0=some ⟨25,7,false,[c.V]⟩) (by simp) ?_;rintro⟨M,Y,Z⟩ ⟨e,f⟩;simp only at e f;refine Qq (fun st=>st.M 1=.ref 0 0 0/\st.Y 0=some ⟨25,7,false,[c.V]⟩/\st.M 3=yh (c.kind==4)) (by simp[e,f]) ?_;clear e f M Y Z;rintro⟨M,Y,Z⟩ ⟨e,f,l⟩;simp only at e f l;refine Qq (fun st=>st.M 1=.ref 0 0 0/\st.Y 0=some ⟨25,7,false,[c.V]⟩/\st.M 3=yh (c.kind==4)/\HX c=false) ?_ ?_
 ·by_cases j:c.kind=4
  ·have s:(c.kind==5)=false:=by rw[j];rfl
   have d:(c.kind==4)=true:=by rw[j];rfl
   cases m:c.name.isEmpty
   ·have i:HX c=true:=by simp[HX,j,m]
    rw[i]at g;simp[e,f,l,j,m,g,yx,f55]
   ·have i:HX c=false:=by simp[HX,j,m]
    simp[e,f,l,j,m,i]
  ·have d:=jl j;cases p:(!c.attr.isEmpty||c.op != 0)
   ·have n:=p;rw[wE]at n;obtain⟨w,x⟩:=n;simp at w x;by_cases s:c.kind=5
    ·have i:HX c=false:=by simp[HX,s,p]
     simp[e,f,l,s,w,x,i]
    ·have q:=jl s;have t:(c.kind != 5)=true:=by simp[bne,q]
     cases m:c.name.isEmpty
     ·have i:HX c=true:=by simp[HX,s,m]
      rw[i]at g;simp[e,f,l,j,d,t,w,x,m,g,yx,f55]
     ·have i:HX c=false:=by simp[HX,p,m]
      simp[e,f,l,j,d,t,w,x,m,i]
   ·have i:HX c=true:=by simp[HX,j,p]
    rw[i]at g;cases u:c.attr.isEmpty
    ·simp[e,f,l,j,d,u,g,yx,f55]
    ·rw[u]at p;have n:(c.op==0)=false:=by simpa using p
     have z:(c.op != 0)=true:=by simpa using p
     simp[e,f,l,j,d,u,n,z,g,yx,f55]
 clear e f l M Y Z;rintro⟨M,Y,Z⟩ ⟨e,f,l,A⟩;simp only at e f l;rw[A]at g;refine Qq (fun st=>st.M 1=.ref 0 0 0/\st.Y 0=some ⟨25,7,false,[c.V]⟩/\f2R c=false) ?_ ?_
 ·have o:∀a b:Bool,((c.kind==4)&&YR c.op)=a->((c.kind==4)&&xR c.op)=b->f2R c=((!a&&decide (0<c.ki.length))||(!b&&!c.pat.isEmpty)):=fun a b F G=>by unfold f2R;rw[F,G]
  by_cases j:c.kind=4
  ·have d:(c.kind==4)=true:=by rw[j];rfl
   cases D:YR c.op<;>cases E:xR c.op<;>cases Y1:c.pat.isEmpty<;>by_cases v:0<c.ki.length <;>
    (have i:=o _ _ rfl rfl;rw[d,D,E,Y1]at i;simp[v]at i;simp[e,f,l,j,D,E,Y1,v,i,g,yx,f55])
  ·have d:=jl j;cases Y1:c.pat.isEmpty<;>by_cases v:0<c.ki.length <;>
    (have i:=o _ _ rfl rfl;rw[d,Y1]at i;simp[v]at i;simp[e,f,l,j,d,Y1,v,i,g,yx,f55])
 clear e f l M Y Z;rintro⟨M,Y,Z⟩ ⟨e,f,B⟩;simp only at e f;rw[B]at g;simp only[Bool.not_false,XW]at g;by_cases y:c.kind=3
 ·rw[zg y]at g;simp[e,f,y,g,yx,f55]
 have C:=jl y;rw[zf y]at g;by_cases r:c.kind=4\/c.kind=5
 ·rw[zg r]at g;cases u:((c.args.length:Int)==0)<;>cases H:jY c.op<;>rcases r with k|k <;>
   simp[e,f,k,u,H,g,yx,f55]
 ·rw[zf r]at g;have d:(c.kind==4)=false:=by simp;omega
  have q:(c.kind==5)=false:=by simp;omega
  simp[e,f,C,d,q,g,yx,f55]
theorem pV:zi prog 55 (GC fun c=>yh (oC c)):=
 y3 (fn:=f55) za0 (wc func55) false [] _ fun args r h=>by obtain⟨c,rfl,a,rfl⟩:=Vc h;exact⟨by simp[f55],_,AA c a.1,q9 _⟩
end Go.Q
