/-
The reference's check of names.
-/
import Derived.Test.YtjcofiomfmebkaaGreatDoorG30
import Derived.Sort.Walk0
import Derived.Lib.SlicesCompact
import Derived.Test.YtjcofiomfmebkaaGreatDoorG21
import Derived.Deep.AppendSrc
import Derived.Test.YtjcofiomfmebkaaGreatDoorG23
set_option maxRecDepth 8000
namespace Go.Proofs.YtjcofiomfmebkaaGreatDoor
open Go.Proofs.Tryz
open Go.RowKit Go.AM
def nmB (l:List Sgm) (ns:List (List UInt8)):Bool:=ns.all fun n=>(qy n l).isSome
def zsn (l:List Sgm) (cs:List Cnd):Int:=if (cs.all fun c=>nmB l c.names)=true then 0 else 9
theorem zeE {α:Type} {p:α→Bool} {l:List α} {k:Nat} (h:k<l.length):(l.drop k).all p=(p l[k]&&(l.drop (k+1)).all p):=by
 rw[List.drop_eq_getElem_cons h,List.all_cons]
noncomputable def FSC (out:List Sgm→List Cnd→PV):List PV→Option PV:=zJ (α:=List Sgm×List Cnd) (fun a=>[.sl 10 (a.1.map Sgm.enc),.sl 7 (a.2.map Cnd.enc)]) (fun a=>a.1.length≤lim∧cbs a.2≤lim) fun a=>out a.1 a.2
theorem zuj (out:List Sgm→List Cnd→PV) (l:List Sgm) (cs:List Cnd) (h:l.length≤lim∧cbs cs≤lim):FSC out [.sl 10 (l.map Sgm.enc),.sl 7 (cs.map Cnd.enc)]=some (out l cs) :=
 zm (enc:=fun a:List Sgm×List Cnd=>[PV.sl 10 (a.1.map Sgm.enc),.sl 7 (a.2.map Cnd.enc)]) (a:=(l,cs)) (fun a b e=>by
  obtain⟨a1,a2⟩:=a;obtain⟨b1,b2⟩:=b
  simp only[List.cons.injEq,and_true] at e
  obtain⟨e1,e2⟩:=e
  injection e2 with _ e2
  rw[kn e1,yz (fun _ _=>jE) e2]) h
noncomputable abbrev zuk:Ctx:=zC prog [(45,zd false [] (FC (fun c=>.sl 1 (zD c.names)) lim)),(12,zd false [] (zr4 (fun l s=>ZO (qy s l)) fun l _=>l.length≤lim))]
theorem JO (l:List Sgm) (cs:List Cnd) (hl:l.length≤lim) (hc:cbs cs≤lim):zg zuk f20 [.sl 10 (l.map Sgm.enc),.sl 7 (cs.map Cnd.enc)]=some (int (zsn l cs)):=by
 have hlim:lim=2097152:=rfl
 have hcl:=wJ cs
 refine zb rfl ?_
 obtain⟨B,hB⟩:∃B,(cs.all fun c=>nmB l c.names)=B:=⟨_,rfl⟩
 unfold zsn
 rw[hB]
 simp
 refine zu (fun k σ hp nx=>σ 0=.sl 10 (l.map Sgm.enc)∧σ 11=.sl 7 (cs.map Cnd.enc)∧σ 12=int cs.length∧σ 13=int k∧B=(cs.drop k).all fun c=>nmB l c.names) cs.length
  ⟨by simp,by simp,by simp,by simp,by simp[hB]⟩ ?_
 rintro k σ hp nx hk ⟨h0,h11,h12,h13,hf⟩
 by_cases hlt:k<cs.length
 ·have hw:IntKind.i64.wrap ((k:Int)+1)=(k:Int)+1:=zc (by omega) (by omega)
  obtain⟨x,hx⟩:∃x,cs[k]=x:=⟨_,rfl⟩
  have hxm:x∈cs:=by rw[←hx];exact List.getElem_mem hlt
  have hxc:=jl hxm
  have hxn:=yQ _ x (Nat.le_refl _)
  have k1:=fun hp nx=>vD (fun c=>.sl 1 (zD c.names)) lim x hp nx ⟨by omega,by omega⟩
  rw[zeE hlt,hx] at hf
  simp[h0,h11,h12,h13,hlt,hx,k1]
  refine zu (fun j σ hp nx=>σ 0=.sl 10 (l.map Sgm.enc)∧σ 11=.sl 7 (cs.map Cnd.enc)∧σ 12=int cs.length∧σ 13=int k∧σ 18=.sl 1 (zD x.names)∧σ 19=int x.names.length∧σ 20=int j∧B=(nmB l (x.names.drop j)&&(cs.drop (k+1)).all fun c=>nmB l c.names)) x.names.length
   ⟨by simp[h0],by simp[h11],by simp[h12],by simp[h13],by simp,by simp,by simp,by simpa using hf⟩ ?_
  rintro j σ hp nx hj ⟨h0,h11,h12,h13,h18,h19,h20,hf⟩
  by_cases hlj:j<x.names.length
  ·have hwj:IntKind.i64.wrap ((j:Int)+1)=(j:Int)+1:=zc (by omega) (by omega)
   obtain⟨y,hy⟩:∃y,x.names[j]=y:=⟨_,rfl⟩
   have k2:∀hp nx,zd false [] (zr4 (fun l s=>ZO (qy s l)) fun l _=>l.length≤lim) [.sl 10 (l.map Sgm.enc),str y] hp nx=some (.tup [.agg (zr3 (qy y l)).enc,boo (qy y l).isSome],hp,nx):=fun hp nx=>WZ (fun l s=>ZO (qy s l)) (fun l _=>l.length≤lim) l y hp nx hl
   unfold nmB at hf
   rw[zeE hlj,hy] at hf
   cases d:(qy y l).isSome
   ·rw[d,Bool.false_and,Bool.false_and] at hf
    rw[d] at k2
    simp[h0,h11,h12,h13,h18,h19,h20,hlj,hy,k2,hf,f20]
   ·rw[d,Bool.true_and] at hf
    rw[d] at k2
    simp[h0,h11,h12,h13,h18,h19,h20,hlj,hy,k2,hwj]
    exact⟨by omega,hf⟩
  ·obtain rfl:j=x.names.length:=by omega
   rw[List.drop_length] at hf
   have hf:B=(cs.drop (k+1)).all fun c=>nmB l c.names:=by simpa[nmB] using hf
   simp[h0,h11,h12,h13,h18,h19,h20,hw]
   exact⟨by omega,hf⟩
 ·obtain rfl:k=cs.length:=by omega
  rw[List.drop_length] at hf
  simp[h0,h11,h12,h13,hf,f20]
theorem YX:za prog 20 (zd false [] (FSC fun l cs=>int (zsn l cs))) :=
 zL (fn:=f20) (zk (q:=[]) mixed ⟨Ya lim,by simp,yP,by simp,trivial⟩:AM.Good zuk _) ⟨_,func20,by kernel_rfl,rfl,by kernel_rfl⟩ false [] _ fun args r h=>by
  obtain⟨⟨l,cs⟩,rfl,hx,rfl⟩:=ze h
  exact⟨Nat.le_trans (Nat.le_refl 2) (by decide),_,JO l cs hx.1 hx.2,zK _⟩
theorem zso (l:List Sgm) (n:List UInt8):(zr3 (qy n l)).cond.names=jr l n:=by
 unfold jr zr3
 cases qy n l<;>rfl
def qm (out:List (List UInt8)):List Sgm→Nat
 | []=>0
 | s::l=>(if out.contains s.name=true then 0 else s.cond.names.length)+qm out l
theorem zm7 (out:List (List UInt8)) (n:List UInt8):∀l:List Sgm,qm (out++[n]) l≤qm out l
 | []=>Nat.le_refl _
 | s::l=>by
   have:=zm7 out n l
   simp only[qm]
   by_cases h:out.contains s.name=true
   ·rw[if_pos h,if_pos (by simp at h ⊢;exact .inl h)];omega
   ·rw[if_neg h];split<;>omega
theorem zcf {out:List (List UInt8)} {n:List UInt8} (h:n ∉ out):∀l:List Sgm,(jr l n).length+qm (out++[n]) l≤qm out l
 | []=>Nat.le_refl _
 | s::l=>by
   by_cases hs:s.name=n
   ·have hn:jr (s::l) n=s.cond.names:=by simp[jr,qy,hs]
    have:=zm7 out n l
    rw[hn]
    simp only[qm]
    rw[if_pos (by simp[hs]),if_neg (by rw[hs];simpa using h)]
    omega
   ·have hn:jr (s::l) n=jr l n:=by simp[jr,qy,hs]
    have:=zcf h l
    rw[hn]
    simp only[qm]
    have he:(out++[n]).contains s.name=out.contains s.name:=by simp[hs]
    rw[he]
    omega
theorem zsp (out:List (List UInt8)):∀l:List Sgm,qm out l≤sgb l
 | []=>Nat.zero_le _
 | s::l=>by
   have h1:=zsp out l
   have h2:=yQ _ s.cond (Nat.le_refl _)
   have h3:sgb (s::l)=s.cb+sgb l:=by simp[sgb]
   have h4:s.cb=1+s.name.length+tbs s.ins+tbs s.outs+s.cond.cb:=rfl
   simp only[qm]
   split<;>omega
theorem zqv:∀(x y:List (List UInt8)),UpN x→UpN y→(∀c,c∈x↔c∈y)→x=y
 | [],[],_,_,_=>rfl
 | [],b::y,_,_,h=>absurd ((h b).2 (by simp)) (by simp)
 | a::x,[],_,_,h=>absurd ((h a).1 (by simp)) (by simp)
 | a::x,b::y,hx,hy,h=>by
   obtain⟨x1,x2⟩:=List.pairwise_cons.1 hx
   obtain⟨y1,y2⟩:=List.pairwise_cons.1 hy
   have hab:a=b:=by
    rcases List.mem_cons.1 ((h a).1 (by simp)) with e | e
    ·exact e
    ·rcases List.mem_cons.1 ((h b).2 (by simp)) with e2 | e2
     ·exact e2.symm
     ·have:=yZ (x1 b e2) (y1 a e)
      rw[Wr] at this
      cases this
   subst hab
   rw[zqv x y x2 y2 fun c=>⟨fun hc=>?_,fun hc=>?_⟩]
   ·rcases List.mem_cons.1 ((h c).1 (by simp[hc])) with e | e
    ·subst e;have:=x1 c hc;rw[Wr] at this;cases this
    ·exact e
   ·rcases List.mem_cons.1 ((h c).2 (by simp[hc])) with e | e
    ·subst e;have:=y1 c hc;rw[Wr] at this;cases this
    ·exact e
theorem zm8 {l:List (List UInt8)} (h:l.Nodup):UpN (l.mergeSort fun x y=>decide (x≤y)):=by
 have hp:=List.mergeSort_perm l fun x y=>decide (x≤y)
 have hs:=List.pairwise_mergeSort (le:=fun x y:List UInt8=>decide (x≤y)) (fun a b c h1 h2=>by simp only[decide_eq_true_eq] at h1 h2 ⊢;exact List.le_trans h1 h2) (fun a b=>by simp only[Bool.or_eq_true,decide_eq_true_eq];exact List.le_total a b) l
 have hn:(l.mergeSort fun x y=>decide (x≤y)).Nodup:=hp.nodup_iff.2 h
 refine (hs.and hn).imp fun {a b} hab=>?_
 rw[bytesLess_eq]
 obtain⟨h1,h2⟩:=hab
 simp only[decide_eq_true_eq] at h1 ⊢
 exact Decidable.byContradiction fun hn=>h2 (List.le_antisymm h1 (List.not_lt.1 hn))
theorem xL {l:List (List UInt8)} (h:l.Nodup):Lib.compact l=l:=by
 refine Lib.compact_all l fun j hj=>?_
 unfold Lib.keeps
 simp only[decide_eq_true_eq]
 by_cases h0:j=0
 ·exact .inl h0
 ·refine .inr fun e=>?_
  rw[getElem!_pos _ _ (by simpa using hj),getElem!_pos _ _ (by simp;omega)] at e
  simp only[List.getElem_toArray] at e
  exact (List.pairwise_iff_getElem.1 h (j - 1) j (by omega) hj (by omega)) e.symm
open Classical in
noncomputable def zgD (l:List Sgm) (ns:List (List UInt8)):List (List UInt8):=if h:∃L,UpN L∧∀n,n∈L↔From (jr l) ns n then h.choose else []
theorem zgE {l:List Sgm} {ns out:List (List UInt8)} (h:Bfs (jr l) ns out []):Lib.compact (out.mergeSort fun x y=>decide (x≤y))=zgD l ns:=by
 have hu:=zm8 h.nodup
 have hp:=List.mergeSort_perm out fun x y=>decide (x≤y)
 have hm:∀n,n∈(out.mergeSort fun x y=>decide (x≤y))↔From (jr l) ns n:=fun n=>hp.mem_iff.trans (h.done n)
 rw[xL (hp.nodup_iff.2 h.nodup)]
 have hx:∃L,UpN L∧∀n,n∈L↔From (jr l) ns n:=⟨_,hu,hm⟩
 unfold zgD
 rw[dif_pos hx]
 exact zqv _ _ hu hx.choose_spec.1 fun c=>(hm c).trans (hx.choose_spec.2 c).symm
theorem zpM {l:List Sgm} {ns:List (List UInt8)} (h:∃out,Bfs (jr l) ns out []) (n:List UInt8):n∈zgD l ns↔From (jr l) ns n:=by
 obtain⟨out,h⟩:=h
 have hu:=zm8 h.nodup
 have hp:=List.mergeSort_perm out fun x y=>decide (x≤y)
 rw[←zgE h,xL (hp.nodup_iff.2 h.nodup)]
 exact hp.mem_iff.trans (h.done n)
theorem zgF (l:List Sgm) (start:List (List UInt8)):∀(n:Nat) (out queue:List (List UInt8)),Bfs (jr l) start out queue→queue.length+qm out l≤n→∃out',Bfs (jr l) start out' []
 | _,out,[],h,_=>⟨out,h⟩
 | 0,_,_::_,_,h=>by simp at h
 | n+1,out,a::q,h,hn=>by
   simp only[List.length_cons] at hn
   by_cases ha:a∈out
   ·exact zgF l start n out q (h.skip ha) (by omega)
   ·have:=zcf ha l
    exact zgF l start n _ _ (h.take ha) (by rw[List.length_append];omega)
theorem zm9 (l:List Sgm) (ns:List (List UInt8)) (n:List UInt8):n∈zgD l ns↔From (jr l) ns n:=zpM (zgF l ns _ [] ns (.begin _ _) (Nat.le_refl _)) n
end Go.Proofs.YtjcofiomfmebkaaGreatDoor
namespace Go.AM
open Go.RowKit
variable {dr:Prop}
section
variable {C:Ctx} {pf:FuncId→Bool} {N:Nat}
def Wp (dr:Prop) (C:Ctx) (N:Nat) (c:Code) (st:St) (K:Exit→St→Prop):Prop :=
 ∀(w0:World) (S0 L:Nat→Prop) (nx0:Nat) (G0:Nat→GI) (n0:Nat) (a:Act) (w:World) (Q:Exit→Act→World→Prop),n0≤w0.heap.size→Sim dr C.P w0 S0 L N nx0 G0 n0 st a w →
  (∀e st' a' w',K e st'→Sim dr C.P w0 S0 L N nx0 G0 n0 st' a' w'→Q e a' w')→c.wpIn Fence.wide 0 C.P Q a w
theorem Wp.of (hg:GoodD dr C pf) {c:Code} {st:St} {K:Exit→St→Prop} (hok:je pf C.dyn C.lds C.bk N c=true) (h:EvC C c st K):Wp dr C N c st K:=by
 obtain⟨e,st',h1,h2⟩:=h
 intro w0 S0 L nx0 G0 n0 a w Q hn hs hQ
 exact XV hg.spec hg.quiet hg.box hg.iter hg.mixed c hok Fence.wide 0 (.inl rfl) (.inl rfl) w0 S0 L nx0 G0 n0 st st' e a w Q hn h1 hs fun a' w' hs'=>hQ e st' a' w' h2 hs'
theorem Wp.mono {c:Code} {st:St} {K K':Exit→St→Prop} (h:Wp dr C N c st K) (hk:∀e st',K e st'→K' e st'):Wp dr C N c st K' :=
 fun w0 S0 L nx0 G0 n0 a w Q hn hs hQ=>h w0 S0 L nx0 G0 n0 a w Q hn hs fun e st' a' w' hk'=>hQ e st' a' w' (hk e st' hk')
def zpN (dr:Prop) (C:Ctx) (N:Nat) (y:Code) (K:Exit→St→Prop) (e:Exit) (st:St):Prop:=match e with
 | .normal=>Wp dr C N y st K
 | e=>K e st
theorem Wp.seq {x y:Code} {st:St} {K:Exit→St→Prop} (h:Wp dr C N x st (zpN dr C N y K)):Wp dr C N (.seq x y) st K:=by
 intro w0 S0 L nx0 G0 n0 a w Q hn hs hQ
 refine wpIn_seq (h w0 S0 L nx0 G0 n0 a w _ hn hs fun e st' a' w' hk hs'=>?_)
 cases e<;>first
  | exact hk w0 S0 L nx0 G0 n0 a' w' Q hn hs' hQ
  | exact hQ _ _ _ _ hk hs'
theorem Wp.block {id:Nat} {b:Code} {st:St} {K:Exit→St→Prop} (h:Wp dr C N b st (xO id K)):Wp dr C N (.block id b) st K:=by
 intro w0 S0 L nx0 G0 n0 a w Q hn hs hQ
 refine wpIn_block (h w0 S0 L nx0 G0 n0 a w _ hn hs fun e st' a' w' hk hs'=>?_)
 cases e with
 | exit i =>
   unfold xO at hk
   unfold Exit.inBlock
   simp only at hk ⊢
   split at hk
   ·rename_i h1;rw[if_pos h1];exact hQ _ _ _ _ hk hs'
   ·rename_i h1;rw[if_neg h1];exact hQ _ _ _ _ hk hs'
 | _=>exact hQ _ _ _ _ hk hs'
theorem Wp.cond {c:Operand} {x y:Code} {st:St} {K:Exit→St→Prop} {b:Bool} (hc:get st.σ c=some (.v (.bool b))) (h:Wp dr C N (if b=true then x else y) st K):Wp dr C N (.cond c x y) st K:=by
 intro w0 S0 L nx0 G0 n0 a w Q hn hs hQ
 obtain⟨S,G,hS⟩:=hs
 obtain⟨hv,_⟩:=(kx hS.slots hc).v_inv
 exact wpIn_cond hv (h w0 S0 L nx0 G0 n0 a w Q hn ⟨S,G,hS⟩ hQ)
def zic (I:Nat→St→Prop) (n:Nat) (K:Exit→St→Prop) (e:Exit) (st:St):Prop:=match e with
 | .normal=>∃m,m<n∧I m st
 | e=>K e st
theorem Wp.loop {b:Code} {st:St} {K:Exit→St→Prop} (I:Nat→St→Prop) (n:Nat) (h0:I n st) (h:∀n st,I n st→Wp dr C N b st (zic I n K)):Wp dr C N (.loop b) st K:=by
 intro w0 S0 L nx0 G0 n0 a w Q hn hs hQ
 refine wpIn_loop_rounds (n+1) ?_
 have key:∀(k n:Nat) (st:St) (a:Act) (w:World),n<k→I n st→Sim dr C.P w0 S0 L N nx0 G0 n0 st a w→Code.roundsIn Fence.wide 0 C.P b Q k a w:=by
  intro k
  induction k with
  | zero=>intro n st a w hk;omega
  | succ k ih =>
    intro n st a w hk hi hs
    rw[roundsIn_succ]
    refine h n st hi w0 S0 L nx0 G0 n0 a w _ hn hs fun e st' a' w' hk' hs'=>?_
    cases e with
    | normal =>
      obtain⟨m,h1,h2⟩:=hk'
      exact ih m st' a' w' (by omega) h2 hs'
    | _=>exact hQ _ _ _ _ hk' hs'
 exact key _ n st a w (by omega) h0 hs
def WpO (dr:Prop) (C:Ctx) (N:Nat) (ops:Array Oper) (l:List Nat) (st:St) (K:St→Prop):Prop :=
 ∀(w0:World) (S0 L:Nat→Prop) (nx0:Nat) (G0:Nat→GI) (n0:Nat) (a:Act) (w:World) (Q:Exit→Act→World→Prop),Sim dr C.P w0 S0 L N nx0 G0 n0 st a w →
  (∀st' a' w',K st'→Sim dr C.P w0 S0 L N nx0 G0 n0 st' a' w'→Q .normal a' w')→wpOpsIn Fence.wide 0 C.P ops Q l a w
theorem Wp.region {id:Nat} {ops:Array Oper} {st:St} {K:Exit→St→Prop} (h:WpO dr C N ops (List.range ops.size) st (Yk K)):Wp dr C N (.region id ops false) st K :=
 fun w0 S0 L nx0 G0 n0 a w Q _ hs hQ=>wpIn_region (h w0 S0 L nx0 G0 n0 a w Q hs fun st' a' w' hk hs'=>hQ .normal st' a' w' hk hs')
theorem WpO.nil {ops:Array Oper} {st:St} {K:St→Prop} (h:K st):WpO dr C N ops [] st K:=fun w0 S0 L nx0 G0 n0 a w Q hs hQ=>hQ st a w h hs
theorem WpO.cons (hg:GoodD dr C pf) {ops:Array Oper} {i:Nat} {o:Oper} {l:List Nat} {st st1:St} {K:St→Prop} (ho:ops[i]?=some o) (hd:∀d,o.dst=some d→d<N) (h1:q9 C ops o st=some st1) (h:WpO dr C N ops l st1 K):WpO dr C N ops (i::l) st K:=by
 intro w0 S0 L nx0 G0 n0 a w Q hs hQ
 simp only[wpOpsIn,ho]
 obtain⟨S,G,hS⟩:=hs
 unfold q9 at h1
 rw[Q9 hS.slots]
 split at h1
 ·rename_i hw
  rw[if_pos hw]
  split at h1
  ·rename_i x hp nx hev
   injection h1 with h1
   subst h1
   have hnd:∀c,o.op≠.defer c:=by
    intro c hc
    rw[hc] at hev
    simp[zw] at hev
   refine⟨fun f _=>trivial,?_⟩
   rw[Oper.semAt_eq _ _ _ hnd]
   have hop:=Y2 hg.spec hS.inv (a:=a.eval) (fun y pv hy=>kx hS.slots hy) (o:=o) hev
   rcases hop with⟨v,w',S',G',hr,hk,hx⟩ | ⟨g,vs,hr,hc⟩
   ·have hrest:=h w0 S0 L nx0 G0 n0 _ w' Q ⟨S',G',hS.step hk hx hd⟩ hQ
    rcases hr with hr | ⟨hr,rfl⟩
    ·rw[hr];exact hrest
    ·rw[hr];exact hrest
   ·rw[hr]
    refine⟨fun h=>by simp[Fence.wide] at h,callsIn_wide.2 (hc.mono fun e w' hh=>?_)⟩
    obtain⟨v,S',G',rfl,hk,hx⟩:=hh
    exact h w0 S0 L nx0 G0 n0 _ w' Q ⟨S',G',hS.step hk hx hd⟩ hQ
  ·cases h1
 ·rename_i hw
  rw[if_neg hw]
  injection h1 with h1
  subst h1
  exact⟨fun f _=>trivial,h w0 S0 L nx0 G0 n0 _ w Q ⟨S,G,hS.step (.refl hS.inv) qW hd⟩ hQ⟩
end
section
variable {P:Program} {w:World} {S:Nat→Prop} {G:Nat→GI} {hp:Hp} {nx:Nat}
theorem zgG (hi:Inv P w S G hp nx) {t ty e:TypeId} {n by_ id off k:Nat} {b:Blk} {ys:List (List PV)} {z:List PV} {u v:Value}
  (ht:qG P t=some e) (h1:zS P e=some n) (h2:wL P e=some by_) (h3:wy P e=some z) (hn:0<n) (hzl:z.length=n) (hb:hp id=some b) (hba:b.arr=true) (hbe:b.e=e) (hk:off+k=b.es.length)
  (hl1:k+ys.length≤maxLen) (hl2:(k+ys.length)*by_≤140737488355328) (hs:RepO w S G nx (.own id off k) u) {x:PV} (hv:AM.view hp n x=some ys) (hx:RepO w S G nx x v) :
  ∃r w' es' off' G',(Builtin.append_ #[t,t] ty #[u,v]).run P w=.ok r w'∧(es'=b.es++ys∧off'=off∨es'=b.es.drop off++ys∧off'=0) ∧
   Stp dr P hp nx S G w (upd (upd hp id none) nx (some ⟨e,n,true,es'⟩)) (nx+1) S G' w'∧RepO w' S G' (nx+1) (.own nx off' (k+ys.length)) r:=by
 obtain⟨i,vz,i1,i2,i3⟩:=ky h3
 have hsz:i.size=n:=by simpa[zS,i1] using h1
 have hby:i.bytes=by_:=by simpa[wL,i1] using h2
 have hzl':=(qL (w:=w) (S:=S) i3).1
 have hzc:vz.cells.size=n:=by rw[←hzl,hzl'];simp
 have hu:=wU ht
 have hop:=hs.own_pos
 obtain⟨cap,g1,g2,g3,g4,rfl⟩:=hs.own_inv
 have hbr:=hi.live id b hb
 obtain⟨cur,q1,q2,q3⟩:=hbr.row hop
 have hsb:(G id).s=n:=by
  have h5:=hbr.size hop
  rw[hbe] at h5
  have h6:(P.info? e).map (·.size)=some n:=by simpa[zS] using h1
  rw[h6] at h5
  injection h5 with h5
  exact h5.symm
 rw[hsb] at g4 q3 ⊢
 rw[hbe] at q1
 obtain⟨A,c,f,rfl,f1,f2⟩:=ZQ hi hv hx
 have hff:=Q1 hn f1 f2
 have hl:((List.range (ys.length*n)).map f).length=ys.length*n:=by simp
 obtain⟨news,hnews⟩:∃news,(List.range (ys.length*n)).map f=news:=⟨_,rfl⟩
 have hone:∀u∈news,u.oneCell'=true:=fun u hu=>by
  rw[←hnews] at hu
  obtain⟨k,hk,rfl⟩:=List.mem_map.1 hu
  exact (hff k (List.mem_range.1 hk)).choose_spec.2.2
 have hcell:∀j u,news[j]?=some u→∃ad,A=some ad∧w.cell? (ad.add j)=some u:=fun j u hj=>by
  have hjl:j<ys.length*n:=by rw[←hl,hnews];exact (List.getElem?_eq_some_iff.1 hj).1
  obtain⟨ad',e1,e2,_⟩:=hff j hjl
  rw[←hnews,List.getElem?_map,List.getElem?_range hjl] at hj
  simp at hj
  exact⟨ad',e1,by rw[e2,hj]⟩
 have hrow:∀(i' j:Nat) (c':List PV) (pv:PV),ys[i']?=some c'→c'[j]?=some pv→∃u',news[i'*n+j]?=some u'∧CellRep w S G nx true pv u':=fun i' j c' pv hi' hj=>by
  obtain⟨ad',a1,a2,a3⟩:=f2 i' j c' pv hi' hj
  have hjn:j<n:=by rw[←f1 c' (List.mem_of_getElem? hi')];exact (List.getElem?_eq_some_iff.1 hj).1
  have hlt:=yh (n:=ys.length) (List.getElem?_eq_some_iff.1 hi').1 hjn
  exact⟨f (i'*n+j),by rw[←hnews,List.getElem?_map,List.getElem?_range hlt];rfl,a3⟩
 rw[hnews] at hl
 have hsrc:Src P i.size t (.slice A ys.length c) ys.length news w:=by
  cases A with
  | some ad=>exact Src.ofSlice w hu ad _ c news (by rw[hsz];exact hl) (fun j u hj=>by obtain⟨ad',e1,e2⟩:=hcell j u hj;injection e1 with e1;subst e1;exact e2) hone
  | none =>
    have hnil:news=[]:=by
     cases news with
     | nil=>rfl
     | cons u r=>obtain⟨_,e1,_⟩:=hcell 0 u rfl;cases e1
    have hm0:ys.length=0:=by
     rw[hnil] at hl
     rcases Nat.eq_zero_or_pos ys.length with h | h
     ·exact h
     ·have:=Nat.mul_pos h hn;simp at hl;omega
    rw[hnil,hm0]
    exact Src.ofNil w hu c
 have hoz:cur.size=off*n+cap*n:=by rw[q2,←g4,Nat.add_mul]
 have hkz:k*n≤cap*n:=Nat.mul_le_mul_right _ g2
 have hlive:b.es.length*n=off*n+k*n:=by rw[←hk,Nat.add_mul]
 have hsub:∀id' b',upd hp id none id'=some b'→hp id'=some b':=fun id' b' h=>kU h
 have hnl:∀id' b',upd hp id none id'=some b'→(G id').g≠(G id).g:=fun id' b' h he=>by
  have hne:id'≠id:=by rintro rfl;simp at h
  exact hne (hi.inj id' id b' b (kU h) hb he)
 have hlen:∀c'∈b.es,c'.length=n:=fun c' hc'=>by rw[←hsb];exact hbr.len hop c' hc'
 by_cases hroom:k+ys.length≤cap
 ·have hmz:k*n+ys.length*n≤cap*n:=by rw[←Nat.add_mul];exact Nat.mul_le_mul_right _ hroom
  obtain⟨cur',hcur'⟩:∃cur',(cur.toList.take (off*n+k*n)++news++cur.toList.drop (off*n+k*n+news.length)).toArray=cur':=⟨_,rfl⟩
  have hst:=run_storeCells_at P (G id).g (off*n+k*n) e news 0 cur w q1 (by rw[hl];omega) hone
  simp only[Nat.add_zero] at hst
  rw[hcur'] at hst
  have hcl:cur'.size=cur.size:=by rw[←hcur'];simp[hl];omega
  have hrun:(Builtin.append_ #[t,t] ty #[.slice (some ⟨(G id).g,off*n,none⟩) k cap,.slice A ys.length c]).run P w=.ok (.slice (some ⟨(G id).g,off*n,none⟩) (k+ys.length) cap) (w.setRow (G id).g cur'):=by
   have hlen:=hsrc.len
   have hcells:=hsrc.cells
   rw[hsz] at hcells
   simp[Builtin.append_,run_underlying hu,sizeOf,typeInfo,i1,hlen,hroom,hsz,hcells,Addr.add_lit,hst]
  have hfitA:(b.es++ys).length*n≤(G id).z:=by rw[List.length_append,Nat.add_mul,hlive,←q2,hoz];omega
  have k2:=Stp.adopt (dr:=dr) (w':=w.setRow (G id).g cur') (hp1:=upd hp id none) hi hsub ⟨(G id).g,(G id).z,n⟩ e true (b.es++ys) cur' rfl rfl rfl (by simp[World.setRow]) (Nat.le_refl _)
   (fun b'=>b'=(G id).g) (fun b' hb'=>by subst hb';exact⟨⟨id,b,hb,rfl⟩,hi.apart id b hb,hnl⟩)
   (fun b' _ hne _=>setRow_other w _ _ _ hne) hnl (hi.apart id b hb) (.inl ⟨id,b,hb,rfl⟩) hn (by simpa[zS] using h1)
   (fun c' hc'=>by
    rcases List.mem_append.1 hc' with h | h
    ·exact hlen c' h
    ·exact f1 c' h)
   hfitA (setRow_heap w _ cur _ _ _ q1) (hcl.trans q2) (fun i' j c' pv hi' hj=>by
    show ∃u,cur'[i'*n+j]?=some u∧CellRep w S G nx true pv u
    have hcl':c'.length=n:=by
     rcases List.mem_append.1 (List.mem_of_getElem? hi') with h | h
     ·exact hlen c' h
     ·exact f1 c' h
    have hjn:j<n:=by rw[←hcl'];exact (List.getElem?_eq_some_iff.1 hj).1
    have ht0:(cur.toList.take (off*n+k*n)).length=off*n+k*n:=by simp;omega
    have hto:∀x:Nat,cur'[x]?=(cur.toList.take (off*n+k*n)++(news++cur.toList.drop (off*n+k*n+news.length)))[x]?:=fun x=>by rw[←hcur',List.append_assoc];simp
    by_cases hik:i'<b.es.length
    ·have hlt:=yh (n:=b.es.length) hik hjn
     rw[List.getElem?_append_left hik] at hi'
     obtain⟨u',u1,u2⟩:=q3 i' j c' pv hi' hj
     rw[hba] at u2
     exact⟨u',by rw[hto,List.getElem?_append_left (by omega),List.getElem?_take,if_pos (by omega)];simpa using u1,u2⟩
    ·rw[List.getElem?_append_right (by omega)] at hi'
     have hge:b.es.length*n≤i'*n:=Nat.mul_le_mul_right _ (by omega)
     have hil:=(List.getElem?_eq_some_iff.1 hi').1
     have hlt:=yh (n:=ys.length) hil hjn
     obtain⟨u',u1,u2⟩:=hrow _ j c' pv hi' hj
     refine⟨u',?_,u2⟩
     have hkk:i'*n+j - (off*n+k*n)=(i' - b.es.length)*n+j:=by rw[Nat.sub_mul];omega
     rw[hto,List.getElem?_append_right (by omega),ht0,hkk,List.getElem?_append_left (by omega)]
     exact u1)
  refine⟨_,_,b.es++ys,off,_,hrun,.inl ⟨rfl,rfl⟩,k2,?_⟩
  have:=RepO.own (w:=w.setRow (G id).g cur') (S:=S) (G:=upd G nx ⟨(G id).g,(G id).z,n⟩) (nx:=nx+1) (id:=nx) (off:=off) (n:=k+ys.length) (cap:=cap) (by omega) hroom g3 (by simpa using g4) (by simpa using hn)
  simpa using this
 ·obtain⟨olds,hol⟩:∃olds,(cur.toList.drop (off*n)).take (k*n)=olds:=⟨_,rfl⟩
  have hold:olds.length=k*n:=by rw[←hol];simp;omega
  have hget:∀j,j<k*n→olds[j]?=cur[off*n+j]?:=fun j hj=>by
   rw[←hol,List.getElem?_take,if_pos hj,List.getElem?_drop];simp
  have hrun:=run_append_grow_src (P:=P) w t t ty e i vz hu i1 i2 (some ⟨(G id).g,off*n,none⟩) k cap olds
   (by
    rw[hsz]
    refine run_firstCells_some w.drew n k ⟨(G id).g,off*n,none⟩ k cap olds hold fun j u hj=>?_
    have hjl:j<k*n:=by rw[←hold];exact (List.getElem?_eq_some_iff.1 hj).1
    rw[hget j hjl] at hj
    rw[Addr.add_lit]
    exact (cell_of_row w _ _ cur _ _ q1).trans hj)
   (.slice A ys.length c) ys.length news hsrc (by omega) (by unfold maxLen at hl1;omega) (growslice_fits (by omega) (by rw[hby];exact hl2))
  obtain⟨gc,hgc⟩:∃gc,grownCap w (k+ys.length) cap e=gc:=⟨_,rfl⟩
  rw[hgc] at hrun
  have hge:k+ys.length≤gc:=by rw[←hgc];exact grownCap_ge w _ _ e
  have hgm:gc≤maxLen:=by rw[←hgc];exact grownCap_le_maxLen w _ _ e hl1
  obtain⟨cells,hcells⟩:∃cells,(olds++news).toArray++Builtin.zeroCells vz.cells (gc - (k+ys.length))=cells:=⟨_,rfl⟩
  rw[hcells] at hrun
  have hcs:cells.size=gc*n:=by
   rw[←hcells,Array.size_append,size_zeroCells,hzc]
   simp only[List.size_toArray,List.length_append,hold,hl]
   rw[←Nat.add_mul,←Nat.add_mul]
   congr 1
   omega
  have hcg:∀j,j<(k+ys.length)*n→cells[j]?=(olds++news)[j]?:=fun j hj=>by
   rw[←hcells,Array.getElem?_append_left (by simp[hold,hl];rw[←Nat.add_mul];exact hj)]
   simp
  have k2:=Stp.adopt (dr:=dr) (w':=w.drew.alloc (.cells cells e)) (hp1:=upd hp id none) hi hsub ⟨w.heap.size,cells.size,n⟩ e true (b.es.drop off++ys) cells rfl rfl rfl (by simp) (Nat.le_succ _)
   (fun b'=>b'=(G id).g) (fun b' hb'=>by subst hb';exact⟨⟨id,b,hb,rfl⟩,hi.apart id b hb,hnl⟩)
   (fun b' hb' hne _=>Below.heap_alloc w.drew _ b' hb') (fun id' b' h=>Nat.ne_of_lt (hi.live id' b' (kU h)).lt) (fun hS=>by have:=hi.st _ hS;simp at this) (.inr (Nat.le_refl _)) hn (by simpa[zS] using h1)
   (fun c' hc'=>by
    rcases List.mem_append.1 hc' with h | h
    ·exact hlen c' (List.drop_subset _ _ h)
    ·exact f1 c' h)
   (by rw[List.length_append,List.length_drop,hcs];exact Nat.mul_le_mul_right _ (by omega)) (heap_alloc_new w.drew _) rfl (fun i' j c' pv hi' hj=>by
    show ∃u,cells[i'*n+j]?=some u∧CellRep w S G nx true pv u
    have hcl':c'.length=n:=by
     rcases List.mem_append.1 (List.mem_of_getElem? hi') with h | h
     ·exact hlen c' (List.drop_subset _ _ h)
     ·exact f1 c' h
    have hjn:j<n:=by rw[←hcl'];exact (List.getElem?_eq_some_iff.1 hj).1
    have hil:=(List.getElem?_eq_some_iff.1 hi').1
    rw[List.length_append,List.length_drop] at hil
    have hlt:i'*n+j<(k+ys.length)*n:=yh (by omega) hjn
    by_cases hik:i'<k
    ·have hlt':=yh (n:=k) hik hjn
     rw[List.getElem?_append_left (by rw[List.length_drop];omega),List.getElem?_drop] at hi'
     obtain⟨u',u1,u2⟩:=q3 (off+i') j c' pv hi' hj
     rw[hba] at u2
     refine⟨u',?_,u2⟩
     rw[hcg _ hlt,List.getElem?_append_left (by omega),hget _ hlt',←u1,Nat.add_mul,Nat.add_assoc]
    ·rw[List.getElem?_append_right (by rw[List.length_drop];omega),List.length_drop] at hi'
     have hge':k*n≤i'*n:=Nat.mul_le_mul_right _ (by omega)
     obtain⟨u',u1,u2⟩:=hrow _ j c' pv hi' hj
     refine⟨u',?_,u2⟩
     have hkk:i'*n+j - k*n=(i' - (b.es.length - off))*n+j:=by
      rw[show b.es.length - off=k from by omega,Nat.sub_mul];omega
     rw[hcg _ hlt,List.getElem?_append_right (by omega),hold,hkk]
     exact u1)
  refine⟨_,_,b.es.drop off++ys,0,_,hrun,.inr ⟨rfl,rfl⟩,k2,?_⟩
  have:=RepO.own (w:=w.drew.alloc (.cells cells e)) (S:=S) (G:=upd G nx ⟨w.heap.size,cells.size,n⟩) (nx:=nx+1) (id:=nx) (off:=0) (n:=k+ys.length) (cap:=gc) (by omega) hge hgm (by simp[hcs]) (by simpa using hn)
  simpa using this
end
section
variable {C:Ctx} {pf:Nat→Bool} {f:FuncId} {fn:Func} {code:Code}
theorem zgH {st:St} {a:Act} {w:World} {S:Nat→Prop} {G:Nat→GI} (hi:Inv C.P w S G st.hp st.nx) (hsl:∀t,RepO w S G st.nx (st.σ t) (a.tmps.getD t undef)) {r:PV} (h:jd C.P fn st=some r):∃v,(results fn a.tmps).run C.P w=.ok v w∧RepO w S G st.nx r v:=by
 unfold jd at h
 have go:∀xs,qu (fn.results.toList.map (xm C.P st))=some xs→r=(match xs with | [x]=>x | xs=>.tup xs)→∃v,(results fn a.tmps).run C.P w=.ok v w∧RepO w S G st.nx r v:=by
  intro xs hx hrx
  obtain⟨us,h1,h2⟩:=xv hi hsl hx
  have hrun:(results fn a.tmps).run C.P w=.ok (if h:us.toArray.size=1 then us.toArray[0] else .tuple us.toArray) w:=by
   unfold results
   rw[Array.mapM_eq_mapM_toList]
   simp only[Sem.run_bind,Sem.run_map]
   erw [h1]
   rfl
  refine⟨_,hrun,?_⟩
  match xs,h2,hrx with
  | [],h2,hrx =>
    rw[h2.unnil]
    subst hrx
    exact .tup rfl (by simp)
  | [y],h2,hrx =>
    obtain⟨u,rfl,hu⟩:=xq h2
    subst hrx
    simpa using hu
  | y::z::ys,h2,hrx =>
    have hl:=h2.1
    subst hrx
    rw[dif_neg (by simp at hl ⊢;omega)]
    exact .tup (by simpa using hl) (fun j pv u hj hu=>h2.2 j pv u hj (by simpa using hu))
 split at h
 ·rename_i y hy
  injection h with h
  exact go [y] hy h.symm
 ·rename_i xs hne hx
  injection h with h
  refine go xs hx ?_
  rw[←h]
  match xs,hne with
  | [],_=>rfl
  | [y],hne=>exact (hne y rfl).elim
  | y::z::ys,_=>rfl
 ·cases h
theorem zgI (hk:Known C pf f fn code) {args:List PV} {hp:Hp} {nx:Nat} {R:PV→Hp→Nat→Prop} (hW:Wp dr C fn.ntmps code ⟨yF args,hp,nx⟩ (zcL C.P fn R))
  {w:World} {S:Nat→Prop} {G:Nat→GI} {vs:List Value} (hi:Inv C.P w S G hp nx) (hz:Zip (RepO w S G nx) args vs) (hn:args.length≤fn.ntmps) :
  Calls C.P f vs.toArray w fun e w'=>∃x hp' nx' v S' G',R x hp' nx'∧e=.returned v∧Stp dr C.P hp nx S G w hp' nx' S' G' w'∧RepO w' S' G' nx' x v:=by
 refine callsIn_wide.1 (callsIn_of_wp_marks (n:=0) hk.func hk.body trivial ?_)
 have hsim:Sim dr C.P w S (yg hp G) fn.ntmps nx G w.heap.size ⟨yF args,hp,nx⟩ { tmps:=vs.toArray++Array.replicate (fn.ntmps - vs.toArray.size) undef,defers:=[] } w:=by
  refine⟨S,G,hi,fun t=>?_,?_,.nil (Nat.le_refl _),fun _ h=>h,fun _ h=>.inl h,fun id b hb=>.inl ⟨id,b,hb,rfl⟩,Fr.refl _ _,Nat.le_refl _,fun _ _=>rfl⟩
  ·have hvl:vs.length=args.length:=hz.1.symm
   unfold yF
   by_cases ht:t<args.length
   ·have h1:args[t]?=some args[t]:=List.getElem?_eq_getElem ht
    have h2:vs[t]?=some (vs[t]'(by omega)):=List.getElem?_eq_getElem (by omega)
    have h3:=hz.2 t _ _ h1 h2
    have h4:(vs.toArray++Array.replicate (fn.ntmps - vs.toArray.size) undef)[t]?=vs[t]?:=by
     rw[Array.getElem?_append_left (by simpa using (by omega:t<vs.length))]
     simp
    simp only[h1,Option.getD_some]
    rw[Array.getD_eq_getD_getElem?,h4,h2]
    exact h3
   ·have h1:args[t]?=none:=List.getElem?_eq_none (by omega)
    have h4:(vs.toArray++Array.replicate (fn.ntmps - vs.toArray.size) undef).getD t undef=undef:=by
     rw[Array.getD_eq_getD_getElem?,Array.getElem?_append_right (by simpa using (by omega:vs.length≤t)),Array.getElem?_replicate]
     split<;>rfl
    simp only[h1,Option.getD_none]
    rw[h4]
    exact qW
  ·have hvl:vs.length=args.length:=hz.1.symm
   simp
   omega
 refine hW w S (yg hp G) nx G w.heap.size _ w _ (Nat.le_refl _) hsim fun e st a' w1 hret hs'=>?_
 obtain⟨S',G',hS1⟩:=hs'
 obtain⟨hd0,Ds,hd1,hd2,hd3⟩:=hS1.defers
 have he:(e=.normal∨e=.ret)∧∃r,jd C.P fn st=some r∧R r st.hp st.nx:=by
  cases e<;>first
   | exact⟨.inl rfl,hret⟩
   | exact⟨.inr rfl,hret⟩
   | exact hret.elim
 obtain⟨he,r,hr1,hR⟩:=he
 have key:LeavesInM Fence.wide 0 C.P fn a'.tmps (fun e w'=>∃x hp' nx' v S' G',R x hp' nx'∧e=.returned v∧Stp dr C.P hp nx S G w hp' nx' S' G' w'∧RepO w' S' G' nx' x v) a'.defers .returning w1:=by
  rw[hd1]
  refine Zm (dr:=dr) Ds w1 hd2 (fun D hD=>(hd3 D hD).2.1) fun w' frD=>?_
  have haw:∀b,b∈Ds→Away S' G' st.hp b:=fun b hb=>⟨(hd3 b hb).2.2.1,(hd3 b hb).2.2.2⟩
  have hinv:=hS1.inv.frame frD haw
  have hsl:∀t,RepO w' S' G' st.nx (st.σ t) (a'.tmps.getD t undef):=fun t=>(hS1.slots t).mono (fun b hb=>⟨hb,frD.block b (hS1.inv.st b hb) fun hb'=>(haw b hb').1 hb⟩) (Nat.le_refl _) (fun _ _=>rfl)
  have hk:Stp dr C.P hp nx S G w st.hp st.nx S' G' w':=⟨hinv,hS1.up,hS1.loc,hS1.s0,hS1.s1,hS1.own,hS1.fr.trans frD fun b hb h1=>by have:=(hd3 b h1).1;omega⟩
  obtain⟨v,hv1,hv2⟩:=zgH hinv hsl hr1
  exact⟨v,hv1,r,_,_,v,S',G',hR,rfl,hk,hv2⟩
 rcases he with rfl | rfl
 ·exact key
 ·exact key
theorem zeF (hk:Known C pf f fn code) (kill:Bool) (ns:List Nat) (F:List PV→Option PV) (hF:∀args r,F args=some r→args.length≤fn.ntmps∧Wp dr C fn.ntmps code ⟨yF args,fun _=>none,0⟩ (zcL C.P fn (zfd r))):jt dr C.P f (zd kill ns F):=by
 refine⟨⟨fn,hk.func,hk.name,by rw[hk.body];rfl⟩,?_⟩
 intro args hp nx r hp' nx' h w S G vs hi hz
 unfold zd at h
 split at h
 ·rename_i avs hp1 hfr
  split at h
  ·rename_i r0 hF0
   obtain⟨hn,hW⟩:=hF _ r0 hF0
   obtain⟨S1,k1,hz1,hsn⟩:=qR (dr:=dr) hi hfr hz
   refine (zgI hk hW (Km (fun _=>⟨0,0,0⟩) k1.inv.st k1.inv.glo) (kY hz1).closed hn).mono fun e w' hh=>?_
   obtain⟨x,hpe,nxe,v,S',G',⟨r1,hfz0,hup⟩,he,k,hx⟩:=hh
   have fr:Fr dr w (fun _=>False) w':=⟨k.fr.os,k.fr.tape,k.fr.output,k.fr.size,k.fr.drawn,fun b hb _=>k.fr.block b hb kp⟩
   obtain⟨⟨r2,hpf⟩,hfz,hr1⟩:=zp hfz0
   simp only at hr1
   subst hr1
   obtain⟨S2,k2,hc0⟩:=kV (dr:=dr) k.inv hfz hx
   have hc:=zg5 hc0 hup
   have hS2:∀b,S2 b→S1 b∨(w.heap.size≤b∧b<w'.heap.size):=by
    intro b hb
    have hlt:=k2.inv.st b hb
    rcases k2.from_ b hb with h1 | ⟨id,blk,h1,rfl⟩ | h1
    ·rcases k.from_ b h1 with h2 | h2 | h2
     ·exact .inl h2
     ·exact (kp h2).elim
     ·exact .inr ⟨h2,hlt⟩
    ·rcases k.own id blk h1 with h2 | h2
     ·exact (kp h2).elim
     ·exact .inr ⟨h2,hlt⟩
    ·exact absurd h1 (by omega)
   split at h
   ·rename_i hflat
    injection h with h
    injection h with e1 h
    injection h with e2 e3
    subst e1;subst e2;subst e3
    refine⟨v,_,G,he,Stp.outer hi fr,.c ?_⟩
    rcases hflat with hfl | hno
    ·exact zaO hc hfl
    ·have hno':=hsn hno
     exact hc.mono fun b hb=>⟨by rw[←hno'];exact hS2 b hb,rfl⟩
   ·split at h
    ·injection h with h
     injection h with e1 h
     injection h with e2 e3
     subst e1;subst e2;subst e3
     exact⟨v,_,G,he,k1.trans (Stp.outer k1.inv fr),.c (hc.mono fun b hb=>⟨hS2 b hb,rfl⟩)⟩
    ·cases h
  ·cases h
 ·cases h
end
variable {dr:Prop}
section
variable {C:Ctx} {pf:FuncId→Bool} {N:Nat}
@[simp] theorem zsq (y:Code) (K:Exit→St→Prop) (st:St):zpN dr C N y K .normal st=Wp dr C N y st K:=rfl
@[simp] theorem thenW_r (y:Code) (K:Exit→St→Prop) (st:St):zpN dr C N y K .ret st=K .ret st:=rfl
@[simp] theorem thenW_e (y:Code) (K:Exit→St→Prop) (i:Nat) (st:St):zpN dr C N y K (.exit i) st=K (.exit i) st:=rfl
@[simp] theorem roundW_n (I:Nat→St→Prop) (n:Nat) (K:Exit→St→Prop) (st:St):zic I n K .normal st=∃m,m<n∧I m st:=rfl
@[simp] theorem roundW_r (I:Nat→St→Prop) (n:Nat) (K:Exit→St→Prop) (st:St):zic I n K .ret st=K .ret st:=rfl
@[simp] theorem roundW_e (I:Nat→St→Prop) (n i:Nat) (K:Exit→St→Prop) (st:St):zic I n K (.exit i) st=K (.exit i) st:=rfl
theorem Wp.cut (hg:GoodD dr C pf) {a b:Code} {st:St} {K:Exit→St→Prop} (Q:(Nat→PV)→Hp→Nat→Prop) (hok:je pf C.dyn C.lds C.bk N a=true) (h1:EvC C a st (zsK (fun st=>Q st.σ st.hp st.nx) K)) (h2:∀σ hp nx,Q σ hp nx→Wp dr C N b ⟨σ,hp,nx⟩ K):Wp dr C N (.seq a b) st K :=
 Wp.seq ((Wp.of hg hok h1).mono fun e st' hk=>by
  cases e<;>first
   | exact h2 _ _ _ hk
   | exact hk)
theorem Wp.any {c:Code} {st:St} {K:Exit→St→Prop} (Q:(Nat→PV)→Hp→Nat→Prop) (h0:Q st.σ st.hp st.nx) (h:∀σ hp nx,Q σ hp nx→Wp dr C N c ⟨σ,hp,nx⟩ K):Wp dr C N c st K:=h _ _ _ h0
theorem zeG {ops:Array Oper} {K:St→Prop} (hg:GoodD dr C pf):∀{l:List Nat} {os:List Oper} {l2:List Nat} {st st1:St},l.map (fun i=>ops[i]?)=os.map some→(∀o∈os,∀d,o.dst=some d→d<N)→yN C ops os st=some st1→WpO dr C N ops l2 st1 K→WpO dr C N ops (l++l2) st K
 | [],[],l2,st,st1,_,_,h,hw=>by simp only[yN] at h;injection h with h;subst h;exact hw
 | [],_::_,_,_,_,h,_,_,_=>by simp at h
 | _::_,[],_,_,_,h,_,_,_=>by simp at h
 | i::l,o::os,l2,st,st1,hm,hd,h,hw=>by
   simp only[List.map_cons,List.cons.injEq] at hm
   simp only[yN] at h
   split at h
   ·rename_i s hs
    exact WpO.cons hg hm.1 (hd o (by simp)) hs (zeG hg hm.2 (fun o ho=>hd o (by simp[ho])) h hw)
   ·cases h
theorem WpO.pre (hg:GoodD dr C pf) {ops:Array Oper} {l l2:List Nat} {os:List Oper} {st:St} {K:St→Prop} (hm:l.map (fun i=>ops[i]?)=os.map some) (hd:os.all (fun o=>match o.dst with | some d=>decide (d<N) | none=>true)=true) (h:EvL C ops os st fun st1=>WpO dr C N ops l2 st1 K):WpO dr C N ops (l++l2) st K:=by
 obtain⟨st1,h1,h2⟩:=h
 exact zeG hg hm (fun o ho d hd'=>by
  have:=List.all_eq_true.1 hd o ho
  rw[hd'] at this
  simpa using this) h1 h2
theorem WpO.seg (hg:GoodD dr C pf) {ops:Array Oper} {l2:List Nat} {st:St} {K:St→Prop} (a b:Nat) (hb:a+b≤ops.size) (hd:ops.toList.all (fun o=>match o.dst with | some d=>decide (d<N) | none=>true)=true) (h:EvL C ops ((ops.toList.drop a).take b) st fun st1=>WpO dr C N ops l2 st1 K):WpO dr C N ops (List.range' a b++l2) st K:=by
 refine WpO.pre hg ?_ ?_ h
 ·apply List.ext_getElem?
  intro i
  rw[List.getElem?_map,List.getElem?_map,List.getElem?_take]
  by_cases hi:i<b
  ·have e:(List.range' a b)[i]?=some (a+i):=by rw[List.getElem?_range' hi];simp
   rw[e,if_pos hi,List.getElem?_drop]
   have:a+i<ops.size:=by omega
   simp[this]
  ·rw[if_neg hi,List.getElem?_eq_none (by simp;omega)]
   rfl
 ·exact List.all_eq_true.2 fun o ho=>List.all_eq_true.1 hd o (List.drop_subset _ _ (List.take_subset _ _ ho))
theorem WpO.append {ops:Array Oper} {i:Nat} {d:Tmp} {x y:Operand} {t ty:TypeId} {p:String} {af:Array Edge} {l:List Nat} {st:St} {K:St→Prop} {e:TypeId} {n by_ id off k:Nat} {b:Blk} {v:PV} {ys:List (List PV)} {z:List PV}
  (ho:ops[i]?=some ⟨some d,.call ⟨.builtin .append,#[x,y],#[t,t]⟩,ty,p,af,none⟩) (hd:d<N) (hx:get st.σ x=some (.own id off k)) (hy:get st.σ y=some v) (hv:AM.view st.hp n v=some ys)
  (ht:qG C.P t=some e) (h1:zS C.P e=some n) (h2:wL C.P e=some by_) (h3:wy C.P e=some z) (hn:0<n) (hzl:z.length=n) (hb:st.hp id=some b) (hba:b.arr=true) (hbe:b.e=e) (hk:off+k=b.es.length)
  (hl1:k+ys.length≤maxLen) (hl2:(k+ys.length)*by_≤140737488355328)
  (h:∀es' off',(es'=b.es++ys∧off'=off∨es'=b.es.drop off++ys∧off'=0)→WpO dr C N ops l ⟨upd st.σ d (.own st.nx off' (k+ys.length)),upd (upd st.hp id none) st.nx (some ⟨e,n,true,es'⟩),st.nx+1⟩ K):WpO dr C N ops (i::l) st K:=by
 intro w0 S0 L nx0 G0 n0 a w Q hs hQ
 simp only[wpOpsIn,ho]
 obtain⟨S,G,hS⟩:=hs
 rw[Q9 hS.slots,if_pos (xu _ _ _ _ _ _)]
 have hnd:∀c,(Op.call ⟨.builtin .append,#[x,y],#[t,t]⟩:Op)≠.defer c:=fun c hc=>by cases hc
 refine⟨fun f _=>trivial,?_⟩
 rw[Oper.semAt_eq _ _ _ hnd]
 obtain⟨r,w',es',off',G',hr,he,hk2,hr2⟩:=zgG (dr:=dr) (ty:=ty) hS.inv ht h1 h2 h3 hn hzl hb hba hbe hk hl1 hl2 (kx hS.slots hx) hv (kx hS.slots hy)
 have hsim:=h es' off' he w0 S0 L nx0 G0 n0 (a.put (some d) r) w' Q ⟨S,G',hS.step (dst:=some d) hk2 hr2 (fun _ e=>by cases e;exact hd)⟩ hQ
 have hsem:(execOp a.eval ⟨some d,.call ⟨.builtin .append,#[x,y],#[t,t]⟩,ty,p,af,none⟩).run C.P w=.ok (.value r) w':=by
  simp[execOp,resolve,invoke,builtin,hr,-bind_pure_comp]
 rw[hsem]
 exact hsim
@[simp] theorem len_mt (P:Program) (t:TypeId) (ad:Addr):VW P t (.v (.slice (some ad) 0 0))=(qG P t).map fun _=>.v (.int .i64 0):=rfl
theorem zj5 {P:Program} {w:World} {S:Nat→Prop} {G:Nat→GI} {hp:Hp} {nx:Nat} (hi:Inv P w S G hp nx) {t e:TypeId} {n id off k:Nat} {b:Blk} {u:Value} (hu:P.underlying t=some (.slice e)) (hs:zS P e=some n) (hb:hp id=some b) (hbs:b.s=n) (hk:0<k) (hx:RepO w S G nx (.own id off k) u) :
  ∃r v,(Instr.sliceAt t u (some (.int .i64 1)) none none).run P w=.ok v w∧RepO w S G nx r v∧(r=.own id (off+1) (k - 1)∨k=1∧∃ad,r=.v (.slice (some ad) 0 0)):=by
 have hop:=hx.own_pos
 obtain⟨cap,g1,g2,g3,g4,rfl⟩:=hx.own_inv
 have hbd:=vM (P:=P) (w:=w) (S:=S) (G:=G) (nx:=nx) (isS:=true) (len:=k) (cap:=cap) (l:=1) (h:=k) (lo:=some (some (.v (.int .i64 1)))) (hi:=none) (vl:=some (.int .i64 1)) (vh:=none) rfl rfl (by omega) g2 (by simp) (fun p hp=>⟨_,rfl,by simp only[Option.some.injEq] at hp;subst hp;exact .c (.v rfl)⟩) (by simp) (fun _=>rfl) (by simp) (by simp)
 have hgs:(G id).s=n:=by rw[←(hi.live id b hb).bs,hbs]
 by_cases hc:cap=1
 ·subst hc
  have hk1:k=1:=by omega
  subst hk1
  exact⟨_,_,by simp[Instr.sliceAt,run_underlying hu,Instr.slice,hbd,ql hs];rfl,.c (.v rfl),.inr ⟨rfl,_,rfl⟩⟩
 ·refine⟨.own id (off+1) (k - 1),.slice (some ⟨(G id).g,(off+1)*(G id).s,none⟩) (k - 1) (cap - 1),?_,.own g1 (by omega) (by omega) ?_ hop,.inl rfl⟩
  ·simp[Instr.sliceAt,run_underlying hu,Instr.slice,hbd,ql hs,hc,Addr.add_lit,hgs,Nat.add_mul]
  ·rw[show off+1+(cap - 1)=off+cap from by omega]
   exact g4
theorem WpO.slice {ops:Array Oper} {i:Nat} {d:Tmp} {x:Operand} {t ty:TypeId} {p:String} {af:Array Edge} {l:List Nat} {st:St} {K:St→Prop} {e:TypeId} {n id off k:Nat} {b:Blk}
  (ho:ops[i]?=some ⟨some d,.slice t x (some (.const (.int .i64 1))) none none,ty,p,af,none⟩) (hd:d<N) (hx:get st.σ x=some (.own id off k)) (hu:C.P.underlying t=some (.slice e)) (hs:zS C.P e=some n) (hb:st.hp id=some b) (hbs:b.s=n) (hk:0<k)
  (h:∀r,(r=.own id (off+1) (k - 1)∨k=1∧∃ad,r=.v (.slice (some ad) 0 0))→WpO dr C N ops l ⟨upd st.σ d r,st.hp,st.nx⟩ K):WpO dr C N ops (i::l) st K:=by
 intro w0 S0 L nx0 G0 n0 a w Q hs' hQ
 simp only[wpOpsIn,ho]
 obtain⟨S,G,hS⟩:=hs'
 rw[Q9 hS.slots,if_pos (xu _ _ _ _ _ _)]
 have hnd:∀c,(Op.slice t x (some (.const (.int .i64 1))) none none:Op)≠.defer c:=fun c hc=>by cases hc
 refine⟨fun f _=>trivial,?_⟩
 rw[Oper.semAt_eq _ _ _ hnd]
 obtain⟨r,v,hr,hr2,he⟩:=zj5 hS.inv hu hs hb hbs hk (kx hS.slots hx)
 have hsim:=h r he w0 S0 L nx0 G0 n0 (a.put (some d) v) w Q ⟨S,G,hS.step (dst:=some d) (.refl hS.inv) hr2 (fun _ e=>by cases e;exact hd)⟩ hQ
 have hsem:(execOp a.eval ⟨some d,.slice t x (some (.const (.int .i64 1))) none none,ty,p,af,none⟩).run C.P w=.ok (.value v) w:=by
  simp[execOp,Act.eval,-bind_pure_comp] at hr ⊢
  simp[hr]
 rw[hsem]
 exact hsim
theorem zna {P:Program} {w:World} {S:Nat→Prop} {G:Nat→GI} {hp:Hp} {nx:Nat} (hi:Inv P w S G hp nx) {t ty e:TypeId} {n by_:Nat} {ad:Addr} {ys:List (List PV)} {z:List PV} {v:Value} {x:PV}
  (ht:qG P t=some e) (h1:zS P e=some n) (h2:wL P e=some by_) (h3:wy P e=some z) (hn:0<n) (hzl:z.length=n) (hl1:ys.length≤maxLen) (hl2:ys.length*by_≤140737488355328) (hv:AM.view hp n x=some ys) (hx:RepO w S G nx x v) :
  ∃r y w' hp' nx' G',(Builtin.append_ #[t,t] ty #[.slice (some ad) 0 0,v]).run P w=.ok r w'∧(ys=[]∧y=.v (.slice (some ad) 0 0)∧hp'=hp∧nx'=nx∨y=.own nx 0 ys.length∧hp'=upd hp nx (some ⟨e,n,true,ys⟩)∧nx'=nx+1)∧Stp dr P hp nx S G w hp' nx' S G' w'∧RepO w' S G' nx' y r:=by
 obtain⟨i,vz,i1,i2,i3⟩:=ky h3
 have hsz:i.size=n:=by simpa[zS,i1] using h1
 have hby:i.bytes=by_:=by simpa[wL,i1] using h2
 have hzl':=(qL (w:=w) (S:=S) i3).1
 have hzc:vz.cells.size=n:=by rw[←hzl,hzl'];simp
 have hu:=wU ht
 obtain⟨A,c,f,rfl,f1,f2⟩:=ZQ hi hv hx
 have hff:=Q1 hn f1 f2
 by_cases hm:ys=[]
 ·subst hm
  refine⟨_,_,w,hp,nx,G,?_,.inl ⟨rfl,rfl,rfl,rfl⟩,.refl hi,.c (.v rfl)⟩
  cases A<;>simp[Builtin.append_,run_underlying hu,sizeOf,typeInfo,i1,Builtin.lenOf,Builtin.firstCells,loadCells,loadCellsFrom,storeCells]
 have hm0:0<ys.length:=List.length_pos_iff.2 hm
 obtain⟨news,hnews⟩:∃news,(List.range (ys.length*n)).map f=news:=⟨_,rfl⟩
 have hl:news.length=ys.length*n:=by rw[←hnews];simp
 obtain⟨ad',rfl,_,_⟩:=hff 0 (Nat.mul_pos hm0 hn)
 have hsrc:Src P i.size t (.slice (some ad') ys.length c) ys.length news w:=by
  refine Src.ofSlice w hu ad' _ c news (by rw[hsz];exact hl) (fun j u hj=>?_) (fun u hu=>?_)
  ·have hjl:j<ys.length*n:=by rw[←hl];exact (List.getElem?_eq_some_iff.1 hj).1
   obtain⟨ad2,e1,e2,_⟩:=hff j hjl
   injection e1 with e1
   subst e1
   rw[←hnews,List.getElem?_map,List.getElem?_range hjl] at hj
   simp at hj
   rw[e2,hj]
  ·rw[←hnews] at hu
   obtain⟨k,hk,rfl⟩:=List.mem_map.1 hu
   exact (hff k (List.mem_range.1 hk)).choose_spec.2.2
 have hrun:=run_append_grow_src (P:=P) w t t ty e i vz hu i1 i2 (some ad) 0 0 [] (by simp[Builtin.firstCells,loadCells,loadCellsFrom]) (.slice (some ad') ys.length c) ys.length news hsrc (by omega) (by unfold maxLen at hl1;omega) (growslice_fits (by omega) (by rw[hby,Nat.zero_add];exact hl2))
 simp only[Nat.zero_add,List.nil_append] at hrun
 obtain⟨gc,hgc⟩:∃gc,grownCap w ys.length 0 e=gc:=⟨_,rfl⟩
 rw[hgc] at hrun
 have hge:ys.length≤gc:=by rw[←hgc];exact grownCap_ge w _ _ e
 have hgm:gc≤maxLen:=by rw[←hgc];exact grownCap_le_maxLen w _ _ e hl1
 obtain⟨cells,hcells⟩:∃cells,news.toArray++Builtin.zeroCells vz.cells (gc - ys.length)=cells:=⟨_,rfl⟩
 rw[hcells] at hrun
 have hcs:cells.size=gc*n:=by
  rw[←hcells,Array.size_append,size_zeroCells,hzc]
  simp only[List.size_toArray,hl]
  rw[←Nat.add_mul]
  congr 1
  omega
 have k2:=Stp.adopt (dr:=dr) (w':=w.drew.alloc (.cells cells e)) (hp1:=hp) hi (fun _ _ h=>h) ⟨w.heap.size,cells.size,n⟩ e true ys cells rfl rfl rfl (by simp) (Nat.le_succ _)
  (fun _=>False) (fun _ h=>h.elim) (fun b' hb' hne _=>Below.heap_alloc w.drew _ b' hb') (fun id' b' h=>Nat.ne_of_lt (hi.live id' b' h).lt) (fun hS=>by have:=hi.st _ hS;simp at this) (.inr (Nat.le_refl _)) hn (by simpa[zS] using h1) f1
  (by rw[hcs];exact Nat.mul_le_mul_right _ hge) (heap_alloc_new w.drew _) rfl (fun i' j c' pv hi' hj=>by
   show ∃u,cells[i'*n+j]?=some u∧CellRep w S G nx true pv u
   obtain⟨ad2,a1,a2,a3⟩:=f2 i' j c' pv hi' hj
   have hjn:j<n:=by rw[←f1 c' (List.mem_of_getElem? hi')];exact (List.getElem?_eq_some_iff.1 hj).1
   have hlt:i'*n+j<ys.length*n:=yh (List.getElem?_eq_some_iff.1 hi').1 hjn
   refine⟨f (i'*n+j),?_,a3⟩
   rw[←hcells,Array.getElem?_append_left (by simp[hl];exact hlt)]
   simp[←hnews,hlt])
 refine⟨_,_,_,_,_,_,hrun,.inr ⟨rfl,rfl,rfl⟩,k2,?_⟩
 have:=RepO.own (w:=w.drew.alloc (.cells cells e)) (S:=S) (G:=upd G nx ⟨w.heap.size,cells.size,n⟩) (nx:=nx+1) (id:=nx) (off:=0) (n:=ys.length) (cap:=gc) (by omega) hge hgm (by simp[hcs]) (by simpa using hn)
 simpa using this
theorem WpO.append0 {ops:Array Oper} {i:Nat} {d:Tmp} {x y:Operand} {t ty:TypeId} {p:String} {af:Array Edge} {l:List Nat} {st:St} {K:St→Prop} {e:TypeId} {n by_:Nat} {ad:Addr} {v:PV} {ys:List (List PV)} {z:List PV}
  (ho:ops[i]?=some ⟨some d,.call ⟨.builtin .append,#[x,y],#[t,t]⟩,ty,p,af,none⟩) (hd:d<N) (hx:get st.σ x=some (.v (.slice (some ad) 0 0))) (hy:get st.σ y=some v) (hv:AM.view st.hp n v=some ys)
  (ht:qG C.P t=some e) (h1:zS C.P e=some n) (h2:wL C.P e=some by_) (h3:wy C.P e=some z) (hn:0<n) (hzl:z.length=n) (hl1:ys.length≤maxLen) (hl2:ys.length*by_≤140737488355328)
  (h:∀w hp' nx',(ys=[]∧w=.v (.slice (some ad) 0 0)∧hp'=st.hp∧nx'=st.nx∨w=.own st.nx 0 ys.length∧hp'=upd st.hp st.nx (some ⟨e,n,true,ys⟩)∧nx'=st.nx+1)→WpO dr C N ops l ⟨upd st.σ d w,hp',nx'⟩ K):WpO dr C N ops (i::l) st K:=by
 intro w0 S0 L nx0 G0 n0 a w Q hs hQ
 simp only[wpOpsIn,ho]
 obtain⟨S,G,hS⟩:=hs
 rw[Q9 hS.slots,if_pos (xu _ _ _ _ _ _)]
 have hnd:∀c,(Op.call ⟨.builtin .append,#[x,y],#[t,t]⟩:Op)≠.defer c:=fun c hc=>by cases hc
 refine⟨fun f _=>trivial,?_⟩
 rw[Oper.semAt_eq _ _ _ hnd]
 obtain⟨hxv,_⟩:=(kx hS.slots hx).v_inv
 obtain⟨r,y',w',hp',nx',G',hr,he,hk2,hr2⟩:=zna (dr:=dr) (ty:=ty) (ad:=ad) hS.inv ht h1 h2 h3 hn hzl hl1 hl2 hv (kx hS.slots hy)
 have hsim:=h y' hp' nx' he w0 S0 L nx0 G0 n0 (a.put (some d) r) w' Q ⟨S,G',hS.step (dst:=some d) hk2 hr2 (fun _ e=>by cases e;exact hd)⟩ hQ
 have hsem:(execOp a.eval ⟨some d,.call ⟨.builtin .append,#[x,y],#[t,t]⟩,ty,p,af,none⟩).run C.P w=.ok (.value r) w':=by
  simp[execOp,resolve,invoke,builtin,hxv,hr,-bind_pure_comp]
 rw[hsem]
 exact hsim
end
end Go.AM
namespace Go.Proofs.YtjcofiomfmebkaaGreatDoor
open Go.Proofs.Tryz
open Go.RowKit Go.AM
def OwnN (hp:Hp) (nx:Nat) (e s:Nat) (v:PV) (xs:List (List PV)):Prop:=(v=.nil∧xs=[])∨(xs≠[]∧∃id,id<nx∧v=.own id 0 xs.length∧hp id=some ⟨e,s,true,xs⟩)
theorem OwnN.more {hp:Hp} {nx e s:Nat} {v:PV} {xs:List (List PV)} (h:OwnN hp nx e s v xs) (b:Option Blk):OwnN (upd hp nx b) (nx+1) e s v xs:=by
 rcases h with⟨rfl,rfl⟩ | ⟨h0,id,h1,rfl,h2⟩
 ·exact .inl ⟨rfl,rfl⟩
 ·exact .inr ⟨h0,id,by omega,rfl,by rw[zq _ _ _ _ (by omega)];exact h2⟩
theorem OwnN.appendL {P:Program} {hp:Hp} {nx e s by_:Nat} {v:PV} {xs:List (List PV)} {ys:List (List PV)} {z:List PV} {t:TypeId} (h:OwnN hp nx e s v xs) (ht:qG P t=some e) (hs:zS P e=some s) (hb:wL P e=some by_) (hz:wy P e=some z)
  (hzl:z.length=s) (h0:0<s) (h1:xs.length+ys.length≤maxLen) (h2:(xs.length+ys.length)*by_≤140737488355328) :
  ∃v' hp' nx',qY P hp nx t t v (.sl s ys)=some (v',hp',nx')∧OwnN hp' nx' e s v' (xs++ys):=by
 rcases h with⟨rfl,rfl⟩ | ⟨hx,id,hid,rfl,hh⟩
 ·simp at h1 h2
  by_cases hy:ys=[]
  ·subst hy
   exact⟨.nil,hp,nx,by simp[qY,ht,hs,hb,hz,hzl,h0,AM.view,maxLen],.inl ⟨rfl,rfl⟩⟩
  ·exact⟨.own nx 0 ys.length,_,nx+1,by simp[qY,ht,hs,hb,hz,hzl,h0,h1,h2,AM.view,hy];rfl,.inr ⟨by simpa using hy,nx,by omega,by simp,by simp⟩⟩
 ·exact⟨.own nx 0 (xs.length+ys.length),_,nx+1,by simp[qY,ht,hs,hb,hz,hzl,h0,h1,h2,AM.view,hh];rfl,.inr ⟨by simp[hx],nx,by omega,by simp,by simp⟩⟩
def zj6 (ns:List (List UInt8)):Option Blk:=if ns=[] then none else some ⟨9,1,true,zD ns⟩
theorem OwnN.ret {hp:Hp} {nx:Nat} {v:PV} {ns:List (List UInt8)} (h:OwnN hp nx 9 1 v (zD ns)) (nx':Nat):zcl (zj6 ns) v hp nx':=by
 rcases h with⟨rfl,h0⟩ | ⟨h0,id,hid,rfl,hh⟩
 ·have:ns=[]:=by simpa[zD] using h0
  subst this
  rfl
 ·have hn:ns≠[]:=fun e=>h0 (by rw[e];rfl)
  unfold zj6
  rw[if_neg hn]
  exact⟨id,rfl,hh,rfl⟩
theorem zcg (c:Cnd) (ha:c.cb≤lim):∃x hp nx,q8 (Cnm lim) f45 [.agg c.enc] (fun _=>none) 0=some (x,hp,nx)∧zcl (zj6 c.names) x hp nx:=by
 have hcb:=xF c
 have hl1:=wJ c.args
 have hnb:=yQ _ c (Nat.le_refl _)
 have hlim:lim=2097152:=rfl
 have hpre:∀k,(namesC (c.args.take k)).length≤c.cb:=fun k=>by
  have e:namesC c.args=namesC (c.args.take k)++namesC (c.args.drop k):=by rw[←Z8,List.take_append_drop]
  have:=congrArg List.length e
  rw[jn,List.length_append] at hnb
  rw[List.length_append] at this
  omega
 refine Zp rfl ?_
 by_cases c5:c.kind=5
 ·have hap:=fun hp nx=>OwnS.append1 (P:=prog) (t:=37) (c:=[str c.name]) (OwnS.nil hp nx 9 1) zn8 sz9 by9 ze9 rfl (by omega) (by simp[maxLen]) (by simp)
  have c5':(c.kind==5)=true:=by simpa using c5
  simp only[QC] at hap
  simp[qc,c5',zh,zo,zf,hap]
  refine zu (fun k σ hp nx=>σ 15=.sl 7 (c.args.map Cnd.enc)∧σ 16=int c.args.length∧σ 17=int k∧OwnN hp nx 9 1 (σ 3) (zD ([c.name]++namesC (c.args.take k)))) c.args.length
   ⟨by simp,by simp,by simp,by simp;exact .inr ⟨by simp[zD],_,by omega,rfl,by simp[zD,namesC]⟩⟩ ?_
  rintro k σ hp nx hk ⟨h15,h16,h17,hO⟩
  by_cases hlt:k<c.args.length
  ·have hw:IntKind.i64.wrap ((k:Int)+1)=(k:Int)+1:=zc (by omega) (by omega)
   obtain⟨x,hx⟩:∃x,c.args[k]=x:=⟨_,rfl⟩
   have hxm:x∈c.args:=by rw[←hx];exact List.getElem_mem hlt
   have hxc:=jl hxm
   have hxn:=yQ _ x (Nat.le_refl _)
   have k1:=fun hp nx=>vD (fun c=>.sl 1 (zD c.names)) lim x hp nx ⟨by omega,by omega⟩
   have hp0:=hpre k
   have hO1:=hO.more (some ⟨41,7,false,[x.enc]⟩)
   obtain⟨v',hp',nx',ha1,hO'⟩:=hO1.appendL (P:=prog) (t:=37) (ys:=zD x.names) zn8 sz9 by9 ze9 rfl (by omega) (by simp[maxLen,qj];omega) (by simp[qj];omega)
   have hn:=xK hlt
   rw[hx] at hn
   simp[h15,h16,h17,hlt,hx,k1,ha1,hw,WM]
   refine⟨by omega,?_⟩
   rw[hn]
   simpa[zD] using hO'
  ·obtain rfl:k=c.args.length:=by omega
   rw[List.take_length] at hO
   have hr:=hO.ret nx
   simp[h15,h16,h17,f45]
   rw[jn]
   simpa[c5] using hr
 ·have c5':(c.kind==5)=false:=by simpa using c5
  simp[qc,c5']
  refine zu (fun k σ hp nx=>σ 15=.sl 7 (c.args.map Cnd.enc)∧σ 16=int c.args.length∧σ 17=int k∧OwnN hp nx 9 1 (σ 3) (zD (namesC (c.args.take k)))) c.args.length
   ⟨by simp,by simp,by simp,by simp;exact .inl ⟨rfl,by simp[zD,namesC]⟩⟩ ?_
  rintro k σ hp nx hk ⟨h15,h16,h17,hO⟩
  by_cases hlt:k<c.args.length
  ·have hw:IntKind.i64.wrap ((k:Int)+1)=(k:Int)+1:=zc (by omega) (by omega)
   obtain⟨x,hx⟩:∃x,c.args[k]=x:=⟨_,rfl⟩
   have hxm:x∈c.args:=by rw[←hx];exact List.getElem_mem hlt
   have hxc:=jl hxm
   have hxn:=yQ _ x (Nat.le_refl _)
   have k1:=fun hp nx=>vD (fun c=>.sl 1 (zD c.names)) lim x hp nx ⟨by omega,by omega⟩
   have hp0:=hpre k
   have hO1:=hO.more (some ⟨41,7,false,[x.enc]⟩)
   obtain⟨v',hp',nx',ha1,hO'⟩:=hO1.appendL (P:=prog) (t:=37) (ys:=zD x.names) zn8 sz9 by9 ze9 rfl (by omega) (by simp[maxLen,qj];omega) (by simp[qj];omega)
   have hn:=xK hlt
   rw[hx] at hn
   simp[h15,h16,h17,hlt,hx,k1,ha1,hw,WM]
   refine⟨by omega,?_⟩
   rw[hn]
   simpa[zD] using hO'
  ·obtain rfl:k=c.args.length:=by omega
   rw[List.take_length] at hO
   have hr:=hO.ret nx
   simp[h15,h16,h17,f45]
   rw[jn]
   simpa[c5] using hr
noncomputable def FNf:List PV→Option (Option Blk):=zJ (α:=Cnd) (fun c=>[.agg c.enc]) (fun c=>c.cb≤lim) fun c=>zj6 c.names
theorem zid (c:Cnd) (hp:Hp) (nx:Nat) (h:c.cb≤lim):qP [] FNf [.agg c.enc] hp nx=if c.names=[] then some (.nil,hp,nx) else some (.own nx 0 c.names.length,upd hp nx (some ⟨9,1,true,zD c.names⟩),nx+1):=by
 have e:FNf [.agg c.enc]=some (zj6 c.names):=zm (enc:=fun c:Cnd=>[PV.agg c.enc]) (a:=c) (fun a b e=>by
  simp only[List.cons.injEq,and_true,PV.agg.injEq] at e
  exact jE e) h
 unfold qP
 simp only[show zj hp [.agg c.enc]=some ([.agg c.enc],hp) by simp[qc],show qw [] [PV.agg c.enc]=[PV.agg c.enc] from rfl,e]
 unfold zj6
 by_cases hn:c.names=[]
 ·rw[if_pos hn,if_pos hn]
 ·rw[if_neg hn,if_neg hn]
  simp[zD]
theorem zch:za prog 45 (qP [] FNf) :=
 jH (fn:=f45) (code:=_) (zk (q:=[]) mixed ⟨Ya lim,by simp,trivial⟩:AM.Good (Cnm lim) _) ⟨func45,by kernel_rfl,rfl,by kernel_rfl⟩ [] _ fun args r h=>by
  obtain⟨c,rfl,hc,rfl⟩:=ze h
  exact⟨by simp[f45],zcg c hc⟩
end Go.Proofs.YtjcofiomfmebkaaGreatDoor
