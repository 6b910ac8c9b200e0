/-
rule.XcopyCond: what it computes is the condition.
The abstract machine: a sequence cut at its middle.
copyPhases, copyExperiment, XcopyBook.
Calls on a book of which it is known whether its experiments are nil.
Plain law: how much the books hold that are made.
changed: a book with one phase more.
-/
import Derived.Test.YtglppmnehgjolaaGreatDoorG23
import Derived.Test.YtglppmnehgjolaaGreatDoorG11
import Derived.Test.YtglppmnehgjolaaGreatDoorG17
import Derived.Test.YtglppmnehgjolaaGreatDoorG22
set_option maxRecDepth 8000
namespace Go.Proofs.YtglppmnehgjolaaGreatDoor
open Go.Proofs.Tryz
open Go.RowKit Go.AM
structure XC (v:Cnd) (o3 o4:PV) (hp:Hp) (nx:Nat):Prop where
 b0:hp 0=some ⟨30,7,false,[[int v.kind,str v.attr,int v.op,o3,str v.pat,str v.name,o4]]⟩
 b1:hp 1=some ⟨30,7,false,[[int 0,.v (.string ⟨#[]⟩),int 0,.nil,.v (.string ⟨#[]⟩),.v (.string ⟨#[]⟩),.nil]]⟩
 s3:OwnS hp nx 128 5 o3 (v.vals.map Val.enc)
 s4:OwnS hp nx 30 7 o4 (v.args.map Cnd.enc)
 d3:∀id m,id<2→o3≠.own id 0 m
 d4:∀id m,id<2→o4≠.own id 0 m
 d:∀id m m',o3=.own id 0 m→o4≠.own id 0 m'
 nx2:2≤nx
theorem XC.more {v:Cnd} {o3 o4:PV} {hp:Hp} {nx:Nat} (h:XC v o3 o4 hp nx) (b:Option Blk):XC v o3 o4 (upd hp nx b) (nx+1):=by
 have:=h.nx2
 exact⟨by rw[zc _ _ _ _ (by omega)];exact h.b0,by rw[zc _ _ _ _ (by omega)];exact h.b1,h.s3.more b,h.s4.more b,h.d3,h.d4,h.d,by omega⟩
noncomputable abbrev Cxcc (n:Nat):Ctx:=kF prog [(46,zd false [] (FC (fun v=>.agg v.enc) n)),(72,zd false [] (FV (fun v=>.agg v.enc) lim)),(70,qD [] (qx 128 5)),(71,qD [] (qx 30 7))] 1 [1,7,10] [70,71]
abbrev qxcc:List Nat:=[46,72]
theorem xcknown (n:Nat):KnownF (Cxcc n) (fun g=>qxcc.contains g) 46 f46:=⟨_,func46,by kernel_rfl,rfl,by kernel_rfl⟩
theorem xccopy_eval (n:Nat) (v:Cnd) (h:v.cb≤lim∧v.cb≤n+1) (y3 y4:PV) (hy3:SlOf 5 (v.vals.map Val.enc) y3) (hy4:SlOf 7 (v.args.map Cnd.enc) y4) :
  ∃r0,zl (Cxcc n) f46 [.agg [int v.kind,str v.attr,int v.op,y3,str v.pat,str v.name,y4]]=some r0∧Stands r0 (.agg v.enc):=by
 have hvb:=cb_eq v
 have hl1:=wC v.vals
 have hl2:=jd v.args
 obtain⟨ha,hb⟩:=h
 have hcl3:=fun hp nx=>kd (e:=128) hy3 (by simp;omega) hp nx
 have hcl4:=fun hp nx=>kd (e:=30) hy4 (by simp;omega) hp nx
 unfold lim at ha
 refine qF rfl ?_
 simp[hy3.cell,hy4.cell]
 rw[vg (wA (id:=0) (i:=0) (j:=0) (by simp) (by simp) (by simp;rfl) rfl (wn (by simp;rfl) (wn (by simp;rfl) (wS _))))]
 obtain⟨o3,f3,n3,e3⟩:∃o f m,jr 128 5 (v.vals.map Val.enc) y3 2=(o,f,m):=⟨_,_,_,rfl⟩
 have hn3:2≤n3:=by have:=ownOr_nx 128 5 (v.vals.map Val.enc) y3 2;rw[e3] at this;exact this
 obtain⟨o4,f4,n4,e4⟩:∃o f m,jr 30 7 (v.args.map Cnd.enc) y4 n3=(o,f,m):=⟨_,_,_,rfl⟩
 have hn4:n3≤n4:=by have:=ownOr_nx 30 7 (v.args.map Cnd.enc) y4 n3;rw[e4] at this;exact this
 have q3:o3=.nil∨o3=.own 2 0 (v.vals.map Val.enc).length:=by have:=Zf 128 5 (v.vals.map Val.enc) y3 2;rw[e3] at this;exact this
 have q4:o4=.nil∨o4=.own n3 0 (v.args.map Cnd.enc).length:=by have:=Zf 30 7 (v.args.map Cnd.enc) y4 n3;rw[e4] at this;exact this
 have ho3:∀hp id,id<2→f3 hp id=hp id:=fun hp id hid=>by have:=kw (e:=128) (s:=5) (es:=v.vals.map Val.enc) (y:=y3) (nx:=2) hp hid;rw[e3] at this;exact this
 have ho4:∀hp id,id<n3→f4 hp id=hp id:=fun hp id hid=>by have:=kw (e:=30) (s:=7) (es:=v.args.map Cnd.enc) (y:=y4) (nx:=n3) hp hid;rw[e4] at this;exact this
 have hO3:∀hp,OwnS (f3 hp) n3 128 5 o3 (v.vals.map Val.enc)∧∀m,o3≠.own 0 0 m∧o3≠.own 1 0 m:=fun hp=>by
  have:=ke (e:=128) hy3 hp 2
  rw[e3] at this
  exact⟨this,fun m=>by rcases q3 with rfl | rfl<;>simp⟩
 have hO4:∀hp,OwnS (f4 hp) n4 30 7 o4 (v.args.map Cnd.enc)∧∀m id,id<n3→o4≠.own id 0 m:=fun hp=>by
  have:=ke (e:=30) hy4 hp n3
  rw[e4] at this
  exact⟨this,fun m id hid=>by rcases q4 with rfl | rfl<;>simp<;>omega⟩
 have h30:=fun hp=>ho3 hp 0 (by omega)
 have h40:=fun hp=>ho4 hp 0 (by omega)
 have c3:o3.isCell=true:=by rcases q3 with rfl | rfl<;>rfl
 have c4:o4.isCell=true:=by rcases q4 with rfl | rfl<;>rfl
 have hcs3:o3.cells=[o3]:=by rcases q3 with rfl | rfl<;>rfl
 have hcs4:o4.cells=[o4]:=by rcases q4 with rfl | rfl<;>rfl
 have len3:lenA prog 27 o3=some (int v.vals.length):=by have:=(hO3 fun _=>none).1.len (P:=prog) el27;simpa using this
 have h31:=fun hp=>ho3 hp 1 (by omega)
 have h41:=fun hp=>ho4 hp 1 (by omega)
 have hlt3:∀id m,o3=.own id 0 m→id<n3:=fun id m hid=>by
  rcases (hO3 fun _=>none).1 with⟨h,_⟩ | ⟨id',h1,h2,_⟩
  ·rw[h] at hid;cases hid
  ·rw[h2] at hid;injection hid with hid _ _;omega
 have hX:∀hp0:Hp,hp0 1=some ⟨30,7,false,[[int 0,.v (.string ⟨#[]⟩),int 0,.nil,.v (.string ⟨#[]⟩),.v (.string ⟨#[]⟩),.nil]]⟩→XC v o3 o4 (upd (f4 (f3 hp0)) 0 (some ⟨30,7,false,[[int v.kind,str v.attr,int v.op,o3,str v.pat,str v.name,o4]]⟩)) n4:=by
  intro hp0 h1
  refine⟨by simp,by rw[zc _ _ _ _ (by omega),h41,h31,h1],?_,?_,fun id m hid he=>?_,fun id m hid=>(hO4 hp0).2 m id (by omega),fun id m m' he=>(hO4 hp0).2 m' id (hlt3 id m he),by omega⟩
  ·refine (hO3 hp0).1.same hn4 fun id m hid=>?_
   have hne:¬id=0:=by rintro rfl;exact ((hO3 hp0).2 m).1 hid
   rw[zc _ _ _ _ hne,ho4 _ _ (hlt3 id m hid)]
  ·refine (hO4 (f3 hp0)).1.same (Nat.le_refl _) fun id m hid=>?_
   have hne:¬id=0:=by rintro rfl;exact (hO4 hp0).2 m 0 (by omega) hid
   rw[zc _ _ _ _ hne]
  ·have:=(hO3 hp0).2 m
   match id,hid with
   | 0,_=>exact this.1 he
   | 1,_=>exact this.2 he
 simp[hcl3,e3,h30,hcl4,e4,h40,hcs3,hcs4,c3,c4,len3]
 refine zD (fun k σ hp nx=>σ 1=.ref 0 0 0∧σ 2=.ref 1 0 0∧σ 16=o3∧σ 17=int v.vals.length∧σ 18=int k∧XC v o3 o4 hp nx) v.vals.length
  ⟨by simp,by simp,by simp,by simp,by simp,by simpa using hX _ (by simp)⟩ ?_
 clear hX hlt3 h31 h41 hcl3 hcl4 hO3 hO4 ho3 ho4 h30 h40 len3
 rintro k σ hp nx hk ⟨h1,h2,h16,h17,h18,hX⟩
 by_cases hlt:k<v.vals.length
 ·have hm:=jm (List.getElem_mem hlt)
  have hw:IntKind.i64.wrap ((k:Int)+1)=(k:Int)+1:=zi (by omega) (by omega)
  have hcall:=fun hp nx=>xz (fun v=>.agg v.enc) lim v.vals[k] hp nx ⟨by unfold lim;omega,by unfold lim;omega⟩
  obtain⟨id,i1,i2,i3⟩:=hX.s3.at_ (by simp;omega)
  have n0:¬id=0:=by rintro rfl;exact hX.d3 0 _ (by omega) i2
  have n1:¬id=1:=by rintro rfl;exact hX.d3 1 _ (by omega) i2
  have n2:¬id=nx:=by omega
  have n3:¬0=nx:=by have:=hX.nx2;omega
  have hset:(v.vals.map Val.enc).set k v.vals[k].enc=v.vals.map Val.enc:=by
   apply List.ext_getElem?
   intro j
   rw[List.getElem?_set]
   split
   ·rename_i e;subst e;simp[hlt]
   ·rfl
  have hf:∀hp,zC hp (.agg v.vals[k].enc)=some (.agg v.vals[k].enc,hp):=fun hp=>j6 hp _
  have b0:=hX.b0
  rw[i2] at h16 b0
  simp[h1,h2,h16,h17,h18,hlt,i3,hw,n0,n2,n3,b0,hcall,hset]
  refine⟨hlt,by rw[i2];simp,?_⟩
  have h5:=hX.more (some ⟨128,5,false,[v.vals[k].enc]⟩)
  rw[upd_self _ id _ (by rw[zc _ _ _ _ n2];exact i3)]
  exact h5
 ·obtain rfl:k=v.vals.length:=by omega
  have b0:=hX.b0
  have len4:lenA prog 28 o4=some (int v.args.length):=by have:=hX.s4.len (P:=prog) el28;simpa using this
  simp[h1,h2,h16,h17,h18,b0,len4]
  refine zD (fun k σ hp nx=>σ 1=.ref 0 0 0∧σ 2=.ref 1 0 0∧σ 31=o4∧σ 32=int v.args.length∧σ 33=int k∧XC v o3 o4 hp nx) v.args.length
   ⟨by simp[h1],by simp[h2],by simp,by simp,by simp,by simpa using hX⟩ ?_
  clear h1 h2 h16 h17 h18 hX b0 len4 hlt hk σ hp nx
  rintro k σ hp nx hk ⟨h1,h2,h16,h17,h18,hX⟩
  by_cases hlt:k<v.args.length
  ·have hm:=xA (List.getElem_mem hlt)
   have hw:IntKind.i64.wrap ((k:Int)+1)=(k:Int)+1:=zi (by omega) (by omega)
   have hcall:=fun hp nx=>FC_call (fun v=>.agg v.enc) n v.args[k] hp nx ⟨by unfold lim;omega,by omega⟩
   obtain⟨id,i1,i2,i3⟩:=hX.s4.at_ (by simp;omega)
   have n0:¬id=0:=by rintro rfl;exact hX.d4 0 _ (by omega) i2
   have n2:¬id=nx:=by omega
   have n3:¬0=nx:=by have:=hX.nx2;omega
   have hset:(v.args.map Cnd.enc).set k v.args[k].enc=v.args.map Cnd.enc:=by
    apply List.ext_getElem?
    intro j
    rw[List.getElem?_set]
    split
    ·rename_i e;subst e;simp[hlt]
    ·rfl
   have hf:∀hp,zC hp (.agg v.args[k].enc)=some (.agg v.args[k].enc,hp):=fun hp=>xB hp _
   have b0:=hX.b0
   rw[i2] at h16 b0
   simp[h1,h2,h16,h17,h18,hlt,i3,hw,n0,n2,n3,b0,hcall,hset]
   refine⟨hlt,by rw[i2];simp,?_⟩
   have h5:=hX.more (some ⟨30,7,false,[v.args[k].enc]⟩)
   rw[upd_self _ id _ (by rw[zc _ _ _ _ n2];exact i3)]
   exact h5
  ·obtain rfl:k=v.args.length:=by omega
   have b0:=hX.b0
   have b1:=hX.b1
   simp[h1,h2,h16,h17,h18,b0,b1,f46,c3,c4]
   have s3:=hX.s3.same (hp':=upd hp 1 (some ⟨30,7,false,[[int v.kind,str v.attr,int v.op,o3,str v.pat,str v.name,o4]]⟩)) (Nat.le_refl nx) fun id m hid=>zc _ _ _ _ (by rintro rfl;exact hX.d3 1 m (by omega) hid)
   obtain⟨z3,hpA,g1,g2,g3⟩:=s3.gone
   have s4:=hX.s4.same (hp':=hpA) (Nat.le_refl nx) fun id m hid=>by rw[g3 id (fun m' he=>hX.d id m' m he hid),zc _ _ _ _ (by rintro rfl;exact hX.d4 1 m (by omega) hid)]
   obtain⟨z4,hpB,k1,k2,_⟩:=s4.gone
   refine⟨.agg [int v.kind,str v.attr,int v.op,z3,str v.pat,str v.name,z4],?_,?_⟩
   ·simp only[AM.freeze,zC,zE]
    have f1:∀(hp:Hp) (x:Value),zP hp (.v x)=some (.v x,hp):=fun _ _=>rfl
    simp only[f1,g1,k1]
    rfl
   ·rw[qt]
    exact StandsL.agg (.cons (.refl _) (.cons (.refl _) (.cons (.refl _) (.cons (.nilOr g2) (.cons (.refl _) (.cons (.refl _) (.cons (.nilOr k2) .nil)))))))
theorem cloneC_eval (args:List PV) (r:Option Blk) (h:qx 30 7 args=some r):args.length≤f71.ntmps∧∃x hp nx,qq C0 f71 args (fun _=>none) 0=some (x,hp,nx)∧OwnR r x hp nx:=by
 unfold qx at h
 split at h
 ·injection h with h;subst h
  exact⟨by simp[f71],zn rfl (by simp[binA,qy,f71,OwnR])⟩
 ·injection h with h;subst h
  exact⟨by simp[f71],zn rfl (by simp[binA,qy,f71,OwnR,zh,zV,AM.view,maxLen,zt,zj])⟩
 ·rename_i es
  split at h
  ·rename_i hc
   obtain⟨rfl,hne,hl⟩:=hc
   injection h with h;subst h
   cases es with
   | nil=>exact absurd rfl hne
   | cons c es =>
     unfold lim at hl
     simp at hl
     have m1:es.length+1≤maxLen:=by unfold maxLen;omega
     have m2:(es.length+1)*112≤140737488355328:=by omega
     refine⟨by simp[f71],zn rfl ?_⟩
     simp[binA,qy,f71,OwnR,zh,zV,AM.view,zt,zj,m1,m2]
  ·cases h
 ·cases h
theorem cloneC_sound:za prog 71 (qD [] (qx 30 7)) :=
 qw (fn:=f71) (code:=_) q7 ⟨func71,by kernel_rfl,rfl,by kernel_rfl⟩ [] _ cloneC_eval
theorem xccopy_sound:∀n,za prog 46 (zd false [] (FC (fun v=>.agg v.enc) n)):=by
 intro n
 induction n with
 | zero=>exact FC_zero ⟨_,func46,by kernel_rfl,by kernel_rfl⟩
 | succ n ih =>
   have hg:AM.Good (Cxcc n) (fun g=>qxcc.contains g):=good_ofL mixed ⟨ih,fun _=>zf _ _,xcopy_sound lim,fun _=>zf _ _,cloneV_sound,by simp,cloneC_sound,by simp,trivial⟩ ⟨by simp,by simp,fun _=>vT _ _,fun _=>vT _ _,trivial⟩
   exact yK (fn:=f46) hg (xcknown n) false [] _ fun args r h w S vs hz=>by
    obtain⟨v,rfl,hv,rfl⟩:=FC_inv h
    obtain⟨u,hu,hr⟩:=jk hz
    subst hu
    obtain⟨y3,hy3,hr2⟩:=yt hr (j:=3) (s:=5) (es:=v.vals.map Val.enc) (by simp)
    obtain⟨y4,hy4,hr3⟩:=yt hr2 (j:=6) (s:=7) (es:=v.args.map Cnd.enc) (by rw[List.getElem?_set_ne (by omega)];simp)
    have henc:(v.enc.set 3 y3).set 6 y4=[int v.kind,str v.attr,int v.op,y3,str v.pat,str v.name,y4]:=by rw[qt];rfl
    rw[henc] at hr3
    obtain⟨r0,h1,h2⟩:=xccopy_eval n v hv y3 y4 hy3 hy4
    exact⟨_,r0,.cons hr3 .nil,Nat.le_trans (Nat.le_refl 1) (by decide),h1,h2⟩
end Go.Proofs.YtglppmnehgjolaaGreatDoor
namespace Go.AM
open Go.RowKit
def cutK (Q:St→Prop) (K:Exit→St→Prop) (e:Exit) (st:St):Prop:=match e with
 | .normal=>Q st
 | e=>K e st
@[simp] theorem cutK_n (Q:St→Prop) (K:Exit→St→Prop) (st:St):cutK Q K .normal st=Q st:=rfl
@[simp] theorem cutK_r (Q:St→Prop) (K:Exit→St→Prop) (st:St):cutK Q K .ret st=K .ret st:=rfl
@[simp] theorem cutK_e (Q:St→Prop) (K:Exit→St→Prop) (i:Nat) (st:St):cutK Q K (.exit i) st=K (.exit i) st:=rfl
theorem EvC_cut {C:Ctx} {a b:Code} {st:St} {K:Exit→St→Prop} (Q:St→Prop) (h1:EvC C a st (cutK Q K)) (h2:∀st,Q st→EvC C b st K):EvC C (.seq a b) st K:=by
 rw[EvC_seq]
 refine h1.mono fun e st hk=>?_
 cases e
 case normal=>exact h2 _ hk
 all_goals exact hk
theorem xe {C:Ctx} {a b:Code} {st:St} {K:Exit→St→Prop} (Q:(Nat→PV)→Hp→Nat→Prop) (h1:EvC C a st (cutK (fun st=>Q st.σ st.hp st.nx) K)) (h2:∀σ hp nx,Q σ hp nx→EvC C b ⟨σ,hp,nx⟩ K):EvC C (.seq a b) st K :=
 EvC_cut _ h1 fun st h=>h2 st.σ st.hp st.nx h
theorem list3:∀z:List PV,z.length=3→∃a b c,z=[a,b,c]
 | [a,b,c],_=>⟨a,b,c,rfl⟩
theorem list13:∀z:List PV,z.length=13→∃a b c d e f g h i j k l m,z=[a,b,c,d,e,f,g,h,i,j,k,l,m]
 | [a,b,c,d,e,f,g,h,i,j,k,l,m],_=>⟨a,b,c,d,e,f,g,h,i,j,k,l,m,rfl⟩
theorem cells1 {x:PV} (h:x.isCell=true):x.cells=[x]:=by cases x<;>first | rfl | cases h
theorem CopyS.len {P:Program} {hp:Hp} {lo hi e s:Nat} {r:PV} {es:List (List PV)} {t:TypeId} (h:CopyS hp lo hi e s r es) (ht:qA P t=some e):lenA P t r=some (.v (.int .i64 es.length)):=by
 rcases h with⟨rfl,rfl⟩ | ⟨_,id,_,_,rfl,_⟩<;>simp[ht]
theorem CopyS.at_ {hp:Hp} {lo hi e s:Nat} {r:PV} {es:List (List PV)} (h:CopyS hp lo hi e s r es) (hk:0<es.length):∃id,lo≤id∧id<hi∧r=.own id 0 es.length∧hp id=some ⟨e,s,true,es⟩:=by
 rcases h with⟨rfl,_⟩ | ⟨_,h⟩
 ·simp at hk
 ·exact h
theorem RefsA.keep {L:List Tmp} {st:St} {σ':Nat→PV} {hp':Hp} {nx':Nat} (h:RefsA L st) (hk:Keeps st.hp st.nx hp' nx') (hs:∀s∈L,σ' s=st.σ s):RefsA L ⟨σ',hp',nx'⟩:=fun s hm=>by
 obtain⟨h1,h2⟩:=h s hm
 refine⟨fun id o n e=>h1 id o n (by rw[←hs s hm];exact e),fun id i j e=>?_⟩
 obtain⟨a,blk,b,c⟩:=h2 id i j (by rw[←hs s hm];exact e)
 exact⟨Nat.lt_of_lt_of_le a hk.1,blk,hk.2 id blk a b c,c⟩
end Go.AM
namespace Go.Proofs.YtglppmnehgjolaaGreatDoor
open Go.Proofs.Tryz
open Go.RowKit Go.AM Go.SpanLaw
noncomputable abbrev Ccph:Ctx:=zN prog [(73,hClo 58 2),(25,hClo 67 2)]
theorem goodcph:AM.Good Ccph (fun g=>([]:List Nat).contains g):=zr mixed ⟨cloPh_sound,by simp,cloS_sound,by simp,trivial⟩
set_option maxRecDepth 100000 in
theorem copyPhases_sound:za prog 48 (hKeep (hRun Ccph f48)):=hKeep_sound (zS (code:=_) goodcph ⟨func48,by kernel_rfl,rfl,by kernel_rfl⟩)
theorem copyPhases_run (ps:List Phs) (hl:ps.length≤lim) (hs:∀p∈ps,p.spans.length≤lim) (hp0:Hp) (nx0:Nat) :
  ∃r hp' nx',hRun Ccph f48 [.sl 2 (ps.map Phs.enc)] hp0 nx0=some (r,hp',nx')∧nx0≤nx'∧CopyS hp' nx0 nx' 58 2 r (ps.map Phs.enc)∧∀j,j<nx0→hp' j=hp0 j:=by
 unfold hRun
 rw[if_pos (by simp[f48])]
 refine zn (R:=fun r hp' nx'=>nx0≤nx'∧CopyS hp' nx0 nx' 58 2 r (ps.map Phs.enc)∧∀j,j<nx0→hp' j=hp0 j) rfl ?_
 obtain⟨r1,hp1,c1,c2,c3⟩:=xd 58 2 (ps.map Phs.enc) hp0 nx0 (by simpa using hl)
 have len1:lenA prog 32 r1=some (int ps.length):=by have:=c2.len (P:=prog) (t:=32) (by rfl);simpa using this
 simp[c1,len1]
 refine zD (fun k σ hp nx=>σ 0=r1∧σ 7=r1∧σ 8=int ps.length∧σ 9=int k∧nx0+1≤nx∧CopyS hp nx0 (nx0+1) 58 2 r1 (ps.map Phs.enc)∧∀j,j<nx0→hp j=hp0 j) ps.length
  ⟨by simp,by simp,by simp,by simp,Nat.le_refl _,c2,fun j hj=>c3 j (by omega)⟩ ?_
 rintro k σ hp nx hk ⟨h0,h7,h8,h9,hnx,hc,hfr⟩
 unfold lim at hl
 by_cases hlt:k<ps.length
 ·obtain⟨p,hpk⟩:∃p,ps[k]=p:=⟨_,rfl⟩
  have hpm:p∈ps:=by rw[←hpk];exact List.getElem_mem hlt
  have hw:IntKind.i64.wrap ((k:Int)+1)=(k:Int)+1:=zi (by omega) (by omega)
  obtain⟨id,i1,i2,i3,i4⟩:=hc.at_ (by simp;omega)
  obtain rfl:id=nx0:=by omega
  simp only[List.length_map] at i3
  obtain⟨hpB,hB⟩:∃h,upd hp nx (some ⟨58,2,false,[p.enc]⟩)=h:=⟨_,rfl⟩
  obtain⟨r2,hp2,d1,d2,d3⟩:=xd 67 2 (p.spans.map encS) hpB (nx+1) (by simpa using hs p hpm)
  obtain⟨hp3,f1,f2⟩:=d2.freezeV
  have b1:hpB id=some ⟨58,2,true,ps.map Phs.enc⟩:=by rw[←hB,zc _ _ _ _ (by omega)];exact i4
  have b2:hp2 id=some ⟨58,2,true,ps.map Phs.enc⟩:=by rw[d3 id (by omega)];exact b1
  have b3:hp3 id=some ⟨58,2,true,ps.map Phs.enc⟩:=by rw[f2 id (by omega)];exact b2
  have hset:(ps.map Phs.enc).set k [int p.at_,.sl 2 (p.spans.map encS)]=ps.map Phs.enc:=by
   have:[int p.at_,.sl 2 (p.spans.map encS)]=(ps.map Phs.enc)[k]'(by simpa using hlt):=by simp[hpk,Phs.enc]
   rw[this,List.set_getElem_self]
  have bB:hpB nx=some ⟨58,2,false,[[int p.at_,.sl 2 (p.spans.map encS)]]⟩:=by rw[←hB,wI];rfl
  simp only[Phs.enc] at hB
  simp[-zC,h0,h7,h8,h9,i3,i4,hlt,hpk,Phs.enc,hB,bB,d1,f1,b1,b2,b3,hset,hw]
  refine⟨hlt,by omega,.inr ⟨fun e=>by simp at e;subst e;simp at hlt,id,Nat.le_refl _,Nat.lt_succ_self _,by simp,by simp⟩,fun j hj=>?_⟩
  rw[zc _ _ _ _ (by omega),f2 j (by omega),d3 j (by omega),←hB,zc _ _ _ _ (by omega)]
  exact hfr j hj
 ·obtain rfl:k=ps.length:=by omega
  simp[h0,h7,h8,h9,f48]
  exact⟨by omega,hc.same (Nat.le_refl _) hnx fun _ _ _=>rfl,hfr⟩
theorem copyPhases_keep {ps:List Phs} {hp0:Hp} {nx0:Nat} (hl:ps.length≤lim) (hs:∀p∈ps,p.spans.length≤lim) :
  ∃r hp' nx',hKeep (hRun Ccph f48) [.sl 2 (ps.map Phs.enc)] hp0 nx0=some (r,hp',nx')∧nx0≤nx'∧CopyS hp' nx0 nx' 58 2 r (ps.map Phs.enc)∧∀j,j<nx0→hp' j=hp0 j:=by
 obtain⟨r,hp',nx',h1,h2,h3,h4⟩:=copyPhases_run ps hl hs hp0 nx0
 exact⟨r,hp',nx',hKeep_eq h1 (keeps_of h2 h4),h2,h3,h4⟩
noncomputable abbrev Cce:Ctx:=vJ prog [(46,zd false [] (FC (fun v=>.agg v.enc) lim)),(47,hClo 97 3),(48,hKeep (hRun Ccph f48))] (fun | 1=>[1,3,6,9] | _=>[]) [46,47,48]
theorem goodce:AM.Good Cce (fun g=>([]:List Nat).contains g):=good_ofV mixed ⟨xccopy_sound lim,by simp,cloR_sound,by simp,copyPhases_sound,by simp,trivial⟩ ⟨fun _=>w7 _ _ _,fun _=>hClo_box _ _,fun _=>hKeep_box _,trivial⟩
set_option maxRecDepth 100000 in
theorem yS:za prog 17 (hKeep (hRun Cce f17)):=hKeep_sound (zS (code:=_) goodce ⟨func17,by kernel_rfl,rfl,by kernel_rfl⟩)
theorem jO (x:Xp) (hx:x.cb≤lim) (hp0:Hp) (nx0:Nat) :
  ∃r hp' nx',hKeep (hRun Cce f17) [.agg x.enc] hp0 nx0=some (r,hp',nx')∧nx0≤nx'∧(∃row,r=.agg row∧XRow hp' nx0 nx' x row)∧∀j,j<nx0→hp' j=hp0 j:=by
 have hxc:x.cb=x.name.length+x.layer.length+x.flag.length+x.cond.cb+x.salt.length+x.arms.length+sumB Phs.cb x.phases:=rfl
 have hxpl:=qb kC x.phases
 have hsp:∀p∈x.phases,p.spans.length≤lim:=fun p hp=>by
  have:=qL (f:=Phs.cb) hp
  have hpc:p.cb=1+p.spans.length:=rfl
  omega
 suffices h:∃r hp' nx',hRun Cce f17 [.agg x.enc] hp0 nx0=some (r,hp',nx')∧nx0≤nx'∧(∃row,r=.agg row∧XRow hp' nx0 nx' x row)∧∀j,j<nx0→hp' j=hp0 j by
  obtain⟨r,hp',nx',h1,h2,h3,h4⟩:=h
  exact⟨r,hp',nx',hKeep_eq h1 (keeps_of h2 h4),h2,h3,h4⟩
 unfold hRun
 rw[if_pos (by simp[f17])]
 refine zn (R:=fun r hp' nx'=>nx0≤nx'∧(∃row,r=.agg row∧XRow hp' nx0 nx' x row)∧∀j,j<nx0→hp' j=hp0 j) rfl ?_
 have hcc:=fun hp nx=>FC_call (fun v=>.agg v.enc) lim x.cond hp nx ⟨by omega,by omega⟩
 refine xe (fun σ hp nx=>σ 1=.ref nx0 0 0∧σ 2=.ref (nx0+1) 0 0∧σ 3=.tup []∧σ 6=.tup []∧σ 9=.tup []∧hp nx0=some ⟨34,13,false,[x.enc]⟩∧(∃z,hp (nx0+1)=some ⟨34,13,false,[z]⟩∧z.length=13)∧nx=nx0+2∧∀j,j<nx0→hp j=hp0 j) ?_ ?_
 ·simp[zF]
  exact fun j hj=>by rw[zc _ _ _ _ (by omega),zc _ _ _ _ (by omega)]
 rintro σ hp nx ⟨h1,h2,h3,h6,h9,hb,⟨z,hc,hz⟩,rfl,hfr⟩
 obtain⟨z0,z1,z2,z3,z4,z5,z6,z7,z8,z9,z10,z11,z12,rfl⟩:=list13 z hz
 obtain⟨ra,hpa,a1,a2,a3⟩:=xd 97 3 (x.arms.map encG) hp (nx0+2) (by rw[List.length_map];omega)
 obtain⟨rp,hpb,nxb,b1,b2,b3,b4⟩:=copyPhases_keep (ps:=x.phases) (hp0:=hpa) (nx0:=nx0+2+1) (by omega) hsp
 have ba:=a3 nx0 (by omega)
 have ca:=a3 (nx0+1) (by omega)
 have bb:=b4 nx0 (by omega)
 have cb:=b4 (nx0+1) (by omega)
 rw[hb] at ba
 rw[ba] at bb
 rw[ca,hc] at cb
 have hra:=a2.cell
 have hrp:=b3.cell
 rw[zF] at hb ba bb
 rw[qt] at hcc
 rw[EvC_seq,wz (wA (id:=nx0) (i:=0) (j:=0) (by simp[h1]) (by simp) (by simp;exact hb) rfl (wn (by simp;exact h3) (wn (by simp;exact h6) (wn (by simp;exact h9) (wS _)))))]
 simp[h1,h2,hb,ba,hcc,a1,b1,bb,cb,hra,hrp,cells1 hra,cells1 hrp,f17]
 refine⟨by omega,⟨nx0+2+1,ra,rp,by simp[qt],by omega,b2,a2.same (by omega) (Nat.le_refl _) fun j h1 h2=>?_,b3.same (Nat.le_refl _) (Nat.le_refl _) fun j h1 h2=>?_⟩,fun j hj=>?_⟩
 ·rw[zc _ _ _ _ (by omega),zc _ _ _ _ (by omega),b4 j (by omega)]
 ·rw[zc _ _ _ _ (by omega),zc _ _ _ _ (by omega)]
 ·rw[zc _ _ _ _ (by omega),zc _ _ _ _ (by omega),b4 j (by omega),a3 j (by omega),hfr j hj]
theorem cloStr_sound:za prog 52 (hClo 9 1):=yA cloneT_sound
noncomputable abbrev Cxb:Ctx:=vJ prog [(49,hClo 90 3),(50,hClo 103 4),(51,hOpen (hClo 34 13)),(52,hClo 9 1),(17,hKeep (hRun Cce f17))] (fun | 1=>[1,7,10,13] | 5=>[1,4,27,30] | 10=>[1,6,44] | _=>[]) [49,50,51,52,17]
theorem goodxb:AM.Good Cxb (fun g=>([]:List Nat).contains g):=good_ofV mixed ⟨cloL_sound,by simp,cloH_sound,by simp,hOpen_sound cloE_sound,by simp,cloStr_sound,by simp,yS,by simp,trivial⟩ ⟨fun _=>hClo_box _ _,fun _=>hClo_box _ _,fun _=>hOpen_box (hClo_box _ _),fun _=>hClo_box _ _,fun _=>hKeep_box _,trivial⟩
set_option maxRecDepth 100000 in
theorem vK:za prog 19 (hRun Cxb f19):=zS (code:=_) goodxb ⟨func19,by kernel_rfl,rfl,by kernel_rfl⟩
def bkY (b:Bk) (y:PV):PV:=.agg [.sl 3 (b.layers.map Lyr.enc),.sl 4 (b.holds.map Hld.enc),y]
def BkOpen (hp:Hp) (lo hi:Nat) (b:Bk) (r:PV):Prop:=∃l rl rh rx,r=.agg [rl,rh,rx]∧lo≤l∧l+2≤hi∧CopyS hp l (l+1) 90 3 rl (b.layers.map Lyr.enc)∧CopyS hp (l+1) (l+2) 103 4 rh (b.holds.map Hld.enc) ∧
 ((b.exps=[]∧rx=.nil)∨∃rows mid,rx=.own (l+2) 0 b.exps.length∧l+2<mid∧hp (l+2)=some ⟨34,13,false,rows⟩∧XRows hp mid hi b.exps rows)
theorem XRow.wid {hp:Hp} {lo lo' hi:Nat} {x:Xp} {row:List PV} (h:XRow hp lo hi x row) (hl:lo'≤lo):XRow hp lo' hi x row:=by
 obtain⟨mid,ra,rp,e,h1,h2,h3,h4⟩:=h
 exact⟨mid,ra,rp,e,by omega,h2,h3.same hl (Nat.le_refl _) fun _ _ _=>rfl,h4⟩
theorem XRow.cells {hp:Hp} {lo hi:Nat} {x:Xp} {row:List PV} (h:XRow hp lo hi x row):row.length=13∧row.all PV.isCell=true:=by
 obtain⟨mid,ra,rp,rfl,h1,h2,h3,h4⟩:=h
 rw[qt]
 simp[h3.cell,h4.cell]
set_option maxHeartbeats 1000000 in
theorem XcopyBook_run (b:Bk) (y:PV) (hy:SlOf 13 (b.exps.map Xp.enc) y) (hbl:b.cb≤lim) (hp0:Hp) (nx0:Nat) :
  ∃r hp' nx',hRun Cxb f19 [bkY b y] hp0 nx0=some (r,hp',nx')∧nx0≤nx'∧BkOpen hp' nx0 nx' b r∧∀j,j<nx0→hp' j=hp0 j:=by
 have hbc:b.cb=sumB Lyr.cb b.layers+sumB Hld.cb b.holds+sumB Xp.cb b.exps:=rfl
 have hleL:=qb vA b.layers
 have hleH:=qb hld_pos b.holds
 have hleX:=qb xp_pos b.exps
 have hlim:lim=2097152:=rfl
 unfold hRun
 rw[if_pos (by simp[f19])]
 refine zn (R:=fun r hp' nx'=>nx0≤nx'∧BkOpen hp' nx0 nx' b r∧∀j,j<nx0→hp' j=hp0 j) rfl ?_
 refine xe (fun σ hp nx=>σ 1=.ref nx0 0 0∧σ 2=.ref (nx0+1) 0 0∧σ 7=.tup []∧σ 10=.tup []∧σ 13=.tup []∧σ 27=.tup []∧σ 30=.tup []∧σ 44=.tup []∧hp nx0=some ⟨26,3,false,[[.sl 3 (b.layers.map Lyr.enc),.sl 4 (b.holds.map Hld.enc),y]]⟩∧(∃z,hp (nx0+1)=some ⟨26,3,false,[z]⟩∧z.length=3)∧nx=nx0+2∧∀j,j<nx0→hp j=hp0 j) ?_ ?_
 ·simp[bkY,hy.cell]
  exact fun j hj=>by rw[zc _ _ _ _ (by omega),zc _ _ _ _ (by omega)]
 rintro σ hp nx ⟨h1,h2,h7,h10,h13,h27,h30,h44,hb,⟨z,hc,hz⟩,rfl,hfr⟩
 obtain⟨z0,z1,z2,rfl⟩:=list3 z hz
 obtain⟨rl,hpl,l1,l2,l3⟩:=xd 90 3 (b.layers.map Lyr.enc) hp (nx0+2) (by rw[List.length_map];omega)
 obtain⟨rh,hph,g1,g2,g3⟩:=xd 103 4 (b.holds.map Hld.enc) hpl (nx0+3) (by rw[List.length_map];omega)
 obtain⟨rx,hpx,nxx,x1,x2,x3,x4⟩:=clo_open (e:=34) hy hph (nx0+4) (by rw[List.length_map];omega)
 have hbl':hpl nx0=some ⟨26,3,false,[[.sl 3 (b.layers.map Lyr.enc),.sl 4 (b.holds.map Hld.enc),y]]⟩:=by rw[l3 nx0 (by omega)];exact hb
 have hbh:hph nx0=some ⟨26,3,false,[[.sl 3 (b.layers.map Lyr.enc),.sl 4 (b.holds.map Hld.enc),y]]⟩:=by rw[g3 nx0 (by omega)];exact hbl'
 have hbx:hpx nx0=some ⟨26,3,false,[[.sl 3 (b.layers.map Lyr.enc),.sl 4 (b.holds.map Hld.enc),y]]⟩:=by rw[x4 nx0 (by omega),g3 nx0 (by omega),l3 nx0 (by omega)];exact hb
 have hcx:hpx (nx0+1)=some ⟨26,3,false,[[z0,z1,z2]]⟩:=by rw[x4 _ (by omega),g3 _ (by omega),l3 _ (by omega)];exact hc
 have hrl:=l2.cell
 have hrh:=g2.cell
 have hrx:rx.isCell=true:=by rcases x3 with⟨_,rfl⟩ | ⟨rfl,_⟩<;>rfl
 have l2':CopyS hpx (nx0+2) (nx0+3) 90 3 rl (b.layers.map Lyr.enc):=l2.same (Nat.le_refl _) (Nat.le_refl _) fun j a c=>by rw[x4 j (by omega),g3 j (by omega)]
 have g2':CopyS hpx (nx0+3) (nx0+4) 103 4 rh (b.holds.map Hld.enc):=g2.same (Nat.le_refl _) (Nat.le_refl _) fun j a c=>by rw[x4 j (by omega)]
 have hfrx:∀j,j<nx0→hpx j=hp0 j:=fun j hj=>by rw[x4 j (by omega),g3 j (by omega),l3 j (by omega),hfr j hj]
 have lenh:lenA prog 23 rh=some (int b.holds.length):=by have:=g2.len (P:=prog) (t:=23) (by rfl);simpa using this
 have lenx:lenA prog 24 rx=some (int b.exps.length):=by
  rcases x3 with⟨h0,rfl⟩ | ⟨rfl,_⟩
  ·simp at h0;simp[h0]
  ·simp
 obtain⟨hpN,hN⟩:∃h,upd hpx nx0 (some (⟨26,3,false,[[rl,rh,rx]]⟩:Blk))=h:=⟨_,rfl⟩
 have hNb:hpN nx0=some ⟨26,3,false,[[rl,rh,rx]]⟩:=by rw[←hN,wI]
 have hNo:∀j,j≠nx0→hpN j=hpx j:=fun j hj=>by rw[←hN,zc _ _ _ _ hj]
 rw[EvC_seq,wz (wA (id:=nx0) (i:=0) (j:=0) (by simp[h1]) (by simp) (by simp;exact hb) rfl (wn (by simp;exact h7) (wn (by simp;exact h10) (wn (by simp;exact h13) (wS _)))))]
 simp[h1,h2,hb,hbl',hbh,l1,g1,x1,hbx,hcx,hrl,hrh,hrx,cells1 hrl,cells1 hrh,cells1 hrx,lenh,hN,hNb]
 refine zD (fun k σ hp nx=>σ 1=.ref nx0 0 0∧σ 2=.ref (nx0+1) 0 0∧σ 20=rh∧σ 21=int b.holds.length∧σ 22=int k∧σ 44=.tup []∧nxx≤nx∧(∀j,j<nxx→hp j=hpN j)∧RefsA [27,30] ⟨σ,hp,nx⟩) b.holds.length
  ⟨by simp[h1],by simp[h2],by simp,by simp,by simp,by simp[h44],Nat.le_refl _,fun _ _=>rfl,wn (by simp;exact h27) (wn (by simp;exact h30) (wS _))⟩ ?_
 rintro k σ1 hp1 nx1 hk ⟨k1,k2,k20,k21,k22,k44,knx,kfr,kR⟩
 have ob:hp1 nx0=some ⟨26,3,false,[[rl,rh,rx]]⟩:=by rw[kfr _ (by omega)];exact hNb
 by_cases hlt:k<b.holds.length
 ·obtain⟨q,hq⟩:∃q,b.holds[k]=q:=⟨_,rfl⟩
  have hqm:q∈b.holds:=by rw[←hq];exact List.getElem_mem hlt
  have hqc:=qL (f:=Hld.cb) hqm
  have hqe:q.cb=1+q.name.length+q.salt.length+sumB (fun s:List UInt8=>1+s.length) q.layers:=rfl
  have hql:=qb (f:=fun s:List UInt8=>1+s.length) (fun _=>by omega) q.layers
  have hw:IntKind.i64.wrap ((k:Int)+1)=(k:Int)+1:=zi (by omega) (by omega)
  obtain⟨id,i1,i2,i3,i4⟩:=g2'.at_ (by simp;omega)
  obtain rfl:id=nx0+3:=by omega
  simp only[List.length_map] at i3
  have o4:hp1 (nx0+3)=some ⟨103,4,true,b.holds.map Hld.enc⟩:=by rw[kfr _ (by omega),hNo _ (by omega)];exact i4
  obtain⟨hpB,hB⟩:∃h,upd hp1 nx1 (some ⟨103,4,false,[q.enc]⟩)=h:=⟨_,rfl⟩
  have bB:hpB nx1=some ⟨103,4,false,[[str q.name,str q.salt,int q.buckets,.sl 1 (encT q.layers)]]⟩:=by rw[←hB,wI];rfl
  have bo:∀j,j≠nx1→hpB j=hp1 j:=fun j hj=>by rw[←hB,zc _ _ _ _ hj]
  have bb:hpB nx0=some ⟨26,3,false,[[rl,rh,rx]]⟩:=by rw[bo _ (by omega)];exact ob
  have b4:hpB (nx0+3)=some ⟨103,4,true,b.holds.map Hld.enc⟩:=by rw[bo _ (by omega)];exact o4
  obtain⟨r2,hp2,d1,d2,d3⟩:=xd 9 1 (encT q.layers) hpB (nx1+1) (by simp;omega)
  obtain⟨hp3,f1,f2⟩:=d2.freezeV
  have c4:hp2 (nx0+3)=some ⟨103,4,true,b.holds.map Hld.enc⟩:=by rw[d3 _ (by omega)];exact b4
  have e4:hp3 (nx0+3)=some ⟨103,4,true,b.holds.map Hld.enc⟩:=by rw[f2 _ (by omega)];exact c4
  have hset:(b.holds.map Hld.enc).set k [str q.name,str q.salt,int q.buckets,.sl 1 (encT q.layers)]=b.holds.map Hld.enc:=by
   have:[str q.name,str q.salt,int q.buckets,.sl 1 (encT q.layers)]=(b.holds.map Hld.enc)[k]'(by simpa using hlt):=by simp[hq,Hld.enc]
   rw[this,List.set_getElem_self]
  simp only[Hld.enc] at hB
  simp[k1,k2,k20,k21,k22,i3,o4,hlt,hq,Hld.enc,hB]
  rw[wz (wA (id:=nx0) (i:=0) (j:=0) (by simp[k1]) (by simp;omega) (by simp;exact bb) rfl (wA (id:=nx1) (i:=0) (j:=0) (by simp) (by simp) (by simp;exact bB) rfl (kR.keep ⟨Nat.le_succ _,fun id blk hid hb _=>(by rw[bo _ (by simp at hid;omega)];exact hb)⟩ (by simp))))]
  simp[-zC,hlt,hq,Hld.enc,k1,k2,k20,k21,k22,i3,bb,bB,d1,f1,b4,c4,e4,hset,hw]
  refine⟨hlt,by simp[k44],by omega,fun j hj=>?_,?_⟩
  ·by_cases hj3:j=nx0+3
   ·subst hj3;rw[wI,hNo _ (by omega)];exact i4.symm
   ·rw[zc _ _ _ _ hj3,f2 j (by omega),d3 j (by omega),bo j (by omega)];exact kfr j hj
  ·refine wA (id:=nx0) (i:=0) (j:=1) (by simp) (by simp;omega) (by simp;rw[f2 _ (by omega),d3 _ (by omega)];exact bb) rfl (wA (id:=nx1) (i:=0) (j:=3) (by simp) (by simp;omega) (by simp only;rw[zc _ _ _ _ (by omega),f2 _ (by omega),d3 _ (by omega)];exact bB) rfl (wS _))
 obtain rfl:k=b.holds.length:=by omega
 have oc:hp1 (nx0+1)=some ⟨26,3,false,[[z0,z1,z2]]⟩:=by rw[kfr _ (by omega),hNo _ (by omega)];exact hcx
 have hcl:∀hp':Hp,(∀j,j<nx0+4→j≠nx0+1→hp' j=hp1 j)→CopyS hp' (nx0+2) (nx0+2+1) 90 3 rl (b.layers.map Lyr.enc)∧CopyS hp' (nx0+2+1) (nx0+2+2) 103 4 rh (b.holds.map Hld.enc)∧∀j,j<nx0→hp' j=hp0 j:=fun hp' hh =>
  ⟨l2'.same (Nat.le_refl _) (Nat.le_refl _) fun j a c=>by rw[hh j (by omega) (by omega),kfr j (by omega),hNo j (by omega)],g2'.same (Nat.le_refl _) (Nat.le_refl _) fun j a c=>by rw[hh j (by omega) (by omega),kfr j (by omega),hNo j (by omega)],fun j hj=>by rw[hh j (by omega) (by omega),kfr j (by omega),hNo j (by omega),hfrx j hj]⟩
 rcases x3 with⟨hx0,rfl⟩ | ⟨rfl,x3a,x3b⟩
 ·have hx0:b.exps=[]:=by simpa using hx0
  simp[k1,k2,k20,k21,k22,ob]
  refine zD (fun k σ hp nx=>σ 1=.ref nx0 0 0∧σ 2=.ref (nx0+1) 0 0∧σ 38=int 0∧σ 39=int 0∧hp=hp1∧nx=nx1) 0 ⟨by simp[k1],by simp[k2],by simp,by simp,rfl,rfl⟩ ?_
  rintro k σ hp nx hk ⟨m1,m2,m38,m39,rfl,rfl⟩
  simp[m1,m2,m38,m39,ob,oc,hrl,hrh,f19]
  obtain⟨w1,w2,w3⟩:=hcl (upd hp (nx0+1) (some ⟨26,3,false,[[rl,rh,.nil]]⟩)) fun j hj hne=>zc hp (nx0+1) j _ hne
  exact⟨by omega,⟨nx0+2,rl,rh,.nil,rfl,by omega,by omega,w1,w2,.inl ⟨hx0,rfl⟩⟩,w3⟩
 ·simp only[List.length_map] at lenx
  have hxb:hp1 (nx0+4)=some ⟨34,13,false,b.exps.map Xp.enc⟩:=by rw[kfr _ (by omega),hNo _ (by omega)];exact x3b
  simp[k1,k2,k20,k21,k22,ob]
  refine zD (fun k σ hp nx=>σ 1=.ref nx0 0 0∧σ 2=.ref (nx0+1) 0 0∧σ 37=.own (nx0+4) 0 b.exps.length∧σ 38=int b.exps.length∧σ 39=int k∧nx1≤nx∧(∀j,j<nx1→j≠nx0+4→hp j=hp1 j)∧RefsA [44] ⟨σ,hp,nx⟩∧∃rows,hp (nx0+4)=some ⟨34,13,false,rows++(b.exps.drop k).map Xp.enc⟩∧XRows hp nx1 nx (b.exps.take k) rows) b.exps.length
   ⟨by simp[k1],by simp[k2],by simp,by simp,by simp,Nat.le_refl _,fun _ _ _=>rfl,wn (by simp;exact k44) (wS _),[],by simpa using hxb,Nat.le_refl _,rfl⟩ ?_
  rintro k σ hp nx hk ⟨m1,m2,m37,m38,m39,mnx,mfr,mR,rows,mb,mx⟩
  have pb:hp nx0=some ⟨26,3,false,[[rl,rh,.own (nx0+4) 0 b.exps.length]]⟩:=by rw[mfr _ (by omega) (by omega)];simpa using ob
  have pc:hp (nx0+1)=some ⟨26,3,false,[[z0,z1,z2]]⟩:=by rw[mfr _ (by omega) (by omega)];exact oc
  have hrl':=mx.len
  rw[List.length_take,Nat.min_eq_left hk] at hrl'
  by_cases hlt:k<b.exps.length
  ·obtain⟨x,hx⟩:∃x,b.exps[k]=x:=⟨_,rfl⟩
   have hxm:x∈b.exps:=by rw[←hx];exact List.getElem_mem hlt
   have hxc:=qL (f:=Xp.cb) hxm
   have hw:IntKind.i64.wrap ((k:Int)+1)=(k:Int)+1:=zi (by omega) (by omega)
   obtain⟨es,hes⟩:∃es,rows++(b.exps.drop k).map Xp.enc=es:=⟨_,rfl⟩
   rw[hes] at mb
   rw[List.drop_eq_getElem_cons hlt,hx,List.map_cons] at hes
   have hget:es[k]?=some x.enc:=by rw[←hes,List.getElem?_append_right (by omega),hrl',Nat.sub_self];rfl
   obtain⟨hpB,hB⟩:∃h,upd hp nx (some ⟨34,13,false,[x.enc]⟩)=h:=⟨_,rfl⟩
   have bB:hpB nx=some ⟨34,13,false,[x.enc]⟩:=by rw[←hB,wI]
   have bo:∀j,j≠nx→hpB j=hp j:=fun j hj=>by rw[←hB,zc _ _ _ _ hj]
   have bb:hpB nx0=some ⟨26,3,false,[[rl,rh,.own (nx0+4) 0 b.exps.length]]⟩:=by rw[bo _ (by omega)];exact pb
   obtain⟨r,hp2,nx2,d1,d2,⟨row,rfl,d3⟩,d4⟩:=jO x (by omega) hpB (nx+1)
   have be:hp2 (nx0+4)=some ⟨34,13,false,es⟩:=by rw[d4 _ (by omega),bo _ (by omega)];exact mb
   obtain⟨c1,c2⟩:=d3.cells
   have hset:es.set k row=(rows++[row])++(b.exps.drop (k+1)).map Xp.enc:=by
    rw[←hes,List.set_append_right _ _ (by omega),hrl',Nat.sub_self]
    simp
   rw[zF] at hget hB bB d1
   simp[m1,m2,m37,m38,m39,mb,hlt,hget,hB]
   rw[wz (wA (id:=nx0) (i:=0) (j:=0) (by simp[m1]) (by simp;omega) (by simp;exact bb) rfl (wA (id:=nx) (i:=0) (j:=0) (by simp) (by simp) (by simp;exact bB) rfl (mR.keep ⟨Nat.le_succ _,fun id blk hid hb _=>(by rw[bo _ (by simp at hid;omega)];exact hb)⟩ (by simp))))]
   simp[-List.all_eq_true,m1,m2,m37,m38,m39,hlt,bb,bB,d1,be,hget,c1,c2,hset,hw]
   refine⟨hlt,by omega,fun j hj hne=>?_,?_,rows++[row],by simp,?_⟩
   ·rw[zc _ _ _ _ hne,d4 j (by omega),bo j (by omega)];exact mfr j hj hne
   ·exact wA (id:=nx0) (i:=0) (j:=2) (by simp) (by simp only;omega) (by simp only;rw[zc _ _ _ _ (by omega),d4 _ (by omega)];exact bb) rfl (wS _)
   ·rw[List.take_succ_eq_append_getElem hlt,hx]
    refine XRows.snoc (mx.same fun j h1 h2=>?_) (by omega) ((d3.same fun j h1 h2=>?_).wid (Nat.le_succ _))
    ·rw[zc _ _ _ _ (by omega),d4 j (by omega),bo j (by omega)]
    ·rw[zc _ _ _ _ (by omega)]
  ·obtain rfl:k=b.exps.length:=by omega
   rw[List.drop_length,List.map_nil,List.append_nil] at mb
   rw[List.take_length] at mx
   simp[m1,m2,m37,m38,m39,pb,pc,hrl,hrh,f19]
   obtain⟨hpE,hE⟩:∃h,upd hp (nx0+1) (some (⟨26,3,false,[[rl,rh,.own (nx0+4) 0 b.exps.length]]⟩:Blk))=h:=⟨_,rfl⟩
   have eo:∀j,j≠nx0+1→hpE j=hp j:=fun j hj=>by rw[←hE,zc _ _ _ _ hj]
   rw[hE]
   obtain⟨w1,w2,w3⟩:=hcl hpE fun j hj hne=>by rw[eo j hne,mfr j (by omega) (by omega)]
   exact⟨by omega,⟨nx0+2,rl,rh,_,rfl,by omega,by omega,w1,w2,.inr ⟨rows,nx1,rfl,by omega,by rw[eo _ (by omega)];exact mb,mx.same fun j h1 h2=>eo j (by omega)⟩⟩,w3⟩
def BkShut (hp:Hp) (lo hi:Nat) (b:Bk) (r:PV):Prop:=∃l rl rh rx,r=.agg [rl,rh,rx]∧lo≤l∧l+2≤hi∧CopyS hp l (l+1) 90 3 rl (b.layers.map Lyr.enc)∧CopyS hp (l+1) (l+2) 103 4 rh (b.holds.map Hld.enc) ∧
 ((b.exps=[]∧rx=.nil)∨l+2<hi∧rx=.own (l+2) 0 b.exps.length∧hp (l+2)=some ⟨34,13,true,b.exps.map Xp.enc⟩)
theorem xf {hp:Hp} {lo hi e s:Nat} {r:PV} {es:List (List PV)} (h:CopyS hp lo hi e s r es):jN hp r=some hp:=by
 rcases h with⟨rfl,rfl⟩ | ⟨h0,id,h1,h2,rfl,h4⟩
 ·rfl
 ·simp[jN,h4]
theorem XcopyBook_shut (b:Bk) (y:PV) (hy:SlOf 13 (b.exps.map Xp.enc) y) (hbl:b.cb≤lim) (hp0:Hp) (nx0:Nat) :
  ∃r hp' nx',hShut (hRun Cxb f19) [bkY b y] hp0 nx0=some (r,hp',nx')∧nx0≤nx'∧BkShut hp' nx0 nx' b r∧∀j,j<nx0→hp' j=hp0 j:=by
 obtain⟨r,hp',nx',h1,h2,⟨l,rl,rh,rx,rfl,a1,a2,a3,a4,a5⟩,h4⟩:=XcopyBook_run b y hy hbl hp0 nx0
 rcases a5 with⟨e0,rfl⟩ | ⟨rows,mid,rfl,e1,e2,e3⟩
 ·refine⟨_,hp',nx',?_,h2,⟨l,rl,rh,.nil,rfl,a1,a2,a3,a4,.inl ⟨e0,rfl⟩⟩,h4⟩
  unfold hShut
  rw[h1]
  simp only[Option.bind_some,jA,xf a3,xf a4,(show jN hp' .nil=some hp' from rfl),Option.map_some]
 ·have hle:=e3.le
  have hln:=e3.len
  obtain⟨hpF,f1,f2⟩:=e3.freeze
  have hE:hpF (l+2)=some ⟨34,13,false,rows⟩:=by rw[f2 _ (by omega)];exact e2
  have hsc:jN hp' (.own (l+2) 0 b.exps.length)=some (upd hpF (l+2) (some ⟨34,13,true,b.exps.map Xp.enc⟩)):=by
   simp[jN,e2,hln,f1,hE]
  refine⟨_,upd hpF (l+2) (some ⟨34,13,true,b.exps.map Xp.enc⟩),nx',?_,h2,⟨l,rl,rh,_,rfl,a1,a2,a3.same (Nat.le_refl _) (Nat.le_refl _) fun j g1 g2=>?_,a4.same (Nat.le_refl _) (Nat.le_refl _) fun j g1 g2=>?_,.inr ⟨by omega,rfl,by rw[wI]⟩⟩,fun j hj=>?_⟩
  ·unfold hShut
   rw[h1]
   simp only[Option.bind_some,jA,xf a3,xf a4,hsc,Option.map_some]
  ·rw[zc _ _ _ _ (by omega),f2 j (by omega)]
  ·rw[zc _ _ _ _ (by omega),f2 j (by omega)]
  ·rw[zc _ _ _ _ (by omega),f2 j (by omega),h4 j hj]
theorem XcopyBookS_sound:za prog 19 (hShut (hRun Cxb f19)):=hShut_sound vK
theorem bkY_fix {b:Bk} {y:PV} (hy:SlOf 13 (b.exps.map Xp.enc) y):Sh.fix (.g bkpat) (bkY b y)=.agg b.enc:=by
 unfold Bk.enc bkY
 generalize b.exps.map Xp.enc=es at hy
 cases hy<;>rfl
theorem bkY_frz {b:Bk} {y:PV} (hy:SlOf 13 (b.exps.map Xp.enc) y) (hp:Hp):zC hp (bkY b y)=some (bkY b y,hp):=by
 unfold bkY
 generalize b.exps.map Xp.enc=es at hy
 cases hy<;>rfl
theorem bkY_noOwn {b:Bk} {y:PV} (hy:SlOf 13 (b.exps.map Xp.enc) y):PV.noOwn (bkY b y)=true:=by
 unfold bkY
 generalize b.exps.map Xp.enc=es at hy
 cases hy<;>rfl
theorem xcbN_call {b:Bk} {y:PV} (hy:SlOf 13 (b.exps.map Xp.enc) y) (hp:Hp) (nx:Nat) (h:b.cb≤lim):zT [.g bkpat] (FBk fun b=>int (qe b)) [bkY b y] hp nx=some (int (qe b),hp,nx) :=
 wG (show zk hp [bkY b y]=some ([bkY b y],hp) by simp only[zk,bkY_frz hy]) (by
  simp only[fixL,bkY_fix hy]
  exact zq (enc:=fun b:Bk=>[.agg b.enc]) (a:=b) (fun a b e=>by simp only[List.cons.injEq,and_true,PV.agg.injEq] at e;exact xq e) h) (.inl rfl)
theorem freeButN_call {b:Bk} {y:PV} (hy:SlOf 13 (b.exps.map Xp.enc) y) (s t:List UInt8) (n:Int) (hp:Hp) (nx:Nat) (h:okB b s):zT [.g bkpat] (FBut fun b s t n=>.sl 2 ((yl b s t n).map encS)) [bkY b y,str s,str t,int n] hp nx=some (.sl 2 ((yl b s t n).map encS),hp,nx) :=
 wG (show zk hp [bkY b y,str s,str t,int n]=some ([bkY b y,str s,str t,int n],hp) by simp only[zk,bkY_frz hy];rfl) (by
  simp only[fixL,bkY_fix hy]
  exact zq (enc:=fun a:Bk×List UInt8×List UInt8×Int=>[.agg a.1.enc,str a.2.1,str a.2.2.1,int a.2.2.2]) (a:=(b,s,t,n)) (fun x y e=>by
   obtain⟨x1,x2,x3,x4⟩:=x;obtain⟨y1,y2,y3,y4⟩:=y
   simp only[List.cons.injEq,and_true,PV.agg.injEq] at e
   rw[xq e.1,qa e.2.1,qa e.2.2.1,zG e.2.2.2]) h) (.inr (by simp only[List.all_cons,bkY_noOwn hy];rfl))
theorem ofXN_sound:za prog 11 (zT [.s 13 []] FOfX) :=
 qo (fn:=f11) (zr (q:=[]) mixed ⟨bsX_sound,by simp,trivial⟩:AM.Good CofX _) ⟨_,func11,by kernel_rfl,rfl,by kernel_rfl⟩ _ _ fun args r h=>by
  obtain⟨⟨l,s⟩,rfl,hx,rfl⟩:=zg h
  have hc:=fun hp nx=>FBsX_call l s hp nx hx
  exact⟨by simp[f11],_,ze rfl (by simp[hc,qC,f11]),.refl _⟩
theorem ofXN_call {l:List Xp} {y:PV} (hy:SlOf 13 (l.map Xp.enc) y) (s:List UInt8) (hp:Hp) (nx:Nat) (h:l.length≤lim):zT [.s 13 []] FOfX [y,str s] hp nx=some (.tup [int (bsN (l.map Xp.name) s).1,boo (bsN (l.map Xp.name) s).2],hp,nx):=by
 have hf:fixL [.s 13 []] [y,str s]=[.sl 13 (l.map Xp.enc),str s]:=by
  generalize l.map Xp.enc=es at hy
  cases hy
  ·rfl
  ·rfl
  ·rename_i c es
   have:∀l:List (List PV),l.map (fixC [])=l:=fun l=>by
    induction l with
    | nil=>rfl
    | cons a l ih=>rw[List.map_cons,ih];cases a<;>rfl
   simp only[fixL,Sh.fix_s,this]
 exact wG (show zk hp [y,str s]=some ([y,str s],hp) by simp only[zk,hy.frz];rfl) (by
  rw[hf]
  exact zq (enc:=fun a:List Xp×List UInt8=>[.sl 13 (a.1.map Xp.enc),str a.2]) (a:=(l,s)) (fun x y e=>by
   obtain⟨x1,x2⟩:=x;obtain⟨y1,y2⟩:=y
   simp only[List.cons.injEq,and_true,PV.sl.injEq,true_and] at e
   rw[qZ (fun _ _=>vy) e.1,qa e.2]) h) (.inl rfl)
theorem copyS_deep {hp:Hp} {lo hi e s:Nat} {r:PV} {es:List (List PV)} (h:CopyS hp lo hi e s r es):∃hp',y9 hp r=some (.sl s es,hp')∧∀j,j<lo∨hi≤j→hp' j=hp j:=by
 rcases h with⟨rfl,rfl⟩ | ⟨h0,id,h1,h2,rfl,h4⟩
 ·exact⟨hp,rfl,fun _ _=>rfl⟩
 ·refine⟨upd hp id none,?_,fun j hj=>zH _ _ _ _ (by omega)⟩
  simp[y9,zP,h4]
theorem madeD_sound:za prog 23 (hDeep (zd false [] (FBk fun b=>yO (ym b)))):=hDeep_sound made_sound
theorem madeD_call {hp:Hp} {nx l:Nat} {rl rh rx:PV} {b:Bk} (hl:CopyS hp l (l+1) 90 3 rl (b.layers.map Lyr.enc)) (hh:CopyS hp (l+1) (l+2) 103 4 rh (b.holds.map Hld.enc))
  (hx:∀h:Hp,(∀j,j<l∨l+2≤j→h j=hp j)→∃hp',y9 h rx=some (.sl 13 (b.exps.map Xp.enc),hp')∧∀j,j<l→hp' j=h j) (hb:b.cb≤lim) :
  ∃hp',hDeep (zd false [] (FBk fun b=>yO (ym b))) [.agg [rl,rh,rx]] hp nx=some (yO (ym b),hp',nx)∧∀j,j<l→hp' j=hp j:=by
 obtain⟨hpa,f1,g1⟩:=copyS_deep hl
 obtain⟨hpb,f2,g2⟩:=copyS_deep (hh.same (hp':=hpa) (Nat.le_refl _) (Nat.le_refl _) fun j a b=>g1 j (.inr (by omega)))
 obtain⟨hpc,f3,g3⟩:=hx hpb fun j hj=>by rw[g2 j (by omega),g1 j (by omega)]
 refine⟨hpc,?_,fun j hj=>by rw[g3 j hj,g2 j (by omega),g1 j (by omega)]⟩
 have hd:kD hp [.agg [rl,rh,rx]]=some ([.agg b.enc],hpc):=by
  simp only[kD,deepVal,kn,f1,f2,f3,Option.bind_some,Option.map_some,Bk.enc]
 unfold hDeep
 rw[hd]
 simp only[Option.bind_some]
 exact FBk_call (fun b=>yO (ym b)) b hpc nx hb
theorem sumB_app {α:Type} (f:α→Nat) (a b:List α):sumB f (a++b)=sumB f a+sumB f b:=by simp[sumB]
theorem sumB_perm {α:Type} {f:α→Nat} {a b:List α} (h:a.Perm b):sumB f a=sumB f b:=by
 unfold sumB
 exact (h.map f).sum_nat
theorem sumB_set {α:Type} {f:α→Nat}:∀{l:List α} {i:Nat} {x y:α},l[i]?=some x→sumB f (l.set i y)+f x=sumB f l+f y
 | [],i,x,y,h=>by simp at h
 | z::l,0,x,y,h=>by
   simp at h
   subst h
   simp only[sumB,List.set_cons_zero,List.map_cons,List.sum_cons]
   omega
 | z::l,i+1,x,y,h=>by
   have:=sumB_set (f:=f) (l:=l) (i:=i) (x:=x) (y:=y) (by simpa using h)
   simp only[sumB,List.set_cons_succ,List.map_cons,List.sum_cons] at *
   omega
theorem phs_cb (n:Int) (l:List Sp):Phs.cb ⟨n,l⟩=1+l.length:=rfl
theorem more_cb (x:Xp) (n:Int) (l:List Sp):(x.more n l).cb=x.cb+1+l.length:=by
 have h1:(x.more n l).cb=x.name.length+x.layer.length+x.flag.length+x.cond.cb+x.salt.length+x.arms.length+sumB Phs.cb (x.phases++[⟨n,l⟩]):=rfl
 have h2:x.cb=x.name.length+x.layer.length+x.flag.length+x.cond.cb+x.salt.length+x.arms.length+sumB Phs.cb x.phases:=rfl
 have h3:sumB Phs.cb [(⟨n,l⟩:Phs)]=1+l.length:=by simp[sumB,phs_cb]
 rw[h1,h2,sumB_app,h3]
 omega
theorem begun_cb (x:Xp) (n:Int) (l:List Sp):(x.begun n l).cb≤x.cb+1+l.length:=by
 have h1:(x.begun n l).cb=x.name.length+x.layer.length+x.flag.length+x.cond.cb+x.salt.length+x.arms.length+sumB Phs.cb [⟨n,l⟩]:=rfl
 have h2:x.cb=x.name.length+x.layer.length+x.flag.length+x.cond.cb+x.salt.length+x.arms.length+sumB Phs.cb x.phases:=rfl
 have h3:sumB Phs.cb [(⟨n,l⟩:Phs)]=1+l.length:=by simp[sumB,phs_cb]
 rw[h1,h2,h3]
 omega
theorem bk_cb (b:Bk):b.cb=sumB Lyr.cb b.layers+sumB Hld.cb b.holds+sumB Xp.cb b.exps:=rfl
theorem emptyB_cb:emptyB.cb=0:=rfl
theorem add_cb (b:Bk) (e:Xp) (n:Int) (l:List Sp):Bk.cb ⟨b.layers,b.holds,wP (b.exps++[e.begun n l])⟩≤b.cb+e.cb+1+l.length:=by
 have h:=sumB_perm (f:=Xp.cb) (vG (b.exps++[e.begun n l])).2.1
 have h1:sumB Xp.cb [e.begun n l]=(e.begun n l).cb:=by simp[sumB]
 rw[sumB_app,h1] at h
 have h2:=begun_cb e n l
 rw[bk_cb,bk_cb]
 simp only
 omega
theorem put_cb (b:Bk) (i:Nat) (n:Int) (l:List Sp):(b.put i n l).cb≤b.cb+1+l.length:=by
 cases hx:b.exps[i]? with
 | none =>
   have:b.put i n l=b:=by unfold Bk.put;rw[hx]
   rw[this];omega
 | some x =>
   have h1:=put_at hx n l
   have h2:=sumB_set (f:=Xp.cb) (y:=x.more n l) hx
   rw[more_cb] at h2
   have h3:(b.put i n l).cb=sumB Lyr.cb b.layers+sumB Hld.cb b.holds+sumB Xp.cb (b.put i n l).exps:=rfl
   rw[h3,h1,bk_cb]
   omega
theorem firstL_length:∀(l:List Sp) (n:Int),(qp l n).length≤l.length
 | [],_=>Nat.le_refl _
 | s::l,n=>by
   rw[qp]
   split
   ·simp
   ·have:=firstL_length l (n - min n (s.2 - s.1))
    simp only[List.length_cons]
    omega
theorem first_len (l:List Sp) (n:Int) (h:okS l):(qp l n).length≤100000:=Nat.le_trans (firstL_length l n) h.2.2.2
theorem start_cb {b:Bk} {e:Xp} {n at_:Int}:(qJ b e n at_).1.cb≤b.cb+e.cb+100001:=by
 by_cases h:(qJ b e n at_).2=0
 ·obtain⟨h1,_,_,_,h5,_⟩:=start_ok h
  rw[h5]
  have h2:=add_cb b e at_ (qp (yl b e.layer [] at_) n)
  have h3:=first_len (yl b e.layer [] at_) n (free_okS h1 _ _ _)
  simp only
  omega
 ·rw[start_no h,emptyB_cb];omega
theorem uniL_okS {a f:List Sp} (ha:okS a) (hf:okS f):okS (uniL a f):=by
 obtain⟨h1,h2⟩:=uniL_specK ha hf
 exact okS_of_mem h1 fun k hk=>((h2 k).1 hk).elim (mem_inK ha) (mem_inK hf)
theorem grow_cb {b:Bk} {s:List UInt8} {n at_:Int}:(y8 b s n at_).1.cb≤b.cb+100001:=by
 by_cases h:(y8 b s n at_).2=0
 ·obtain⟨x,h1,hx,h3,h4,h5,h6⟩:=grow_ok h
  rw[h5]
  obtain⟨i,hi⟩:∃i,(bsN (b.exps.map Xp.name) s).1=i:=⟨_,rfl⟩
  rw[hi] at hx h6 ⊢
  obtain⟨L,hL⟩:∃L,uniL (hasG [] at_ x.phases) (qp (mins (yl b x.layer s at_) (hasG [] at_ x.phases)) n)=L:=⟨_,rfl⟩
  rw[hL] at h6 ⊢
  have hil:i<b.exps.length:=(List.getElem?_eq_some_iff.1 hx).1
  have hj:(b.put i at_ L).exps[i]?=some (x.more at_ L):=by rw[put_at hx];simp[hil]
  have hsp:zL L=0:=qV ((chk_ok h6).2.1 _ (List.mem_of_getElem? hj)).1 ⟨at_,L⟩ (by simp[Xp.more])
  have:=(qu hsp).2.2.2
  have:=put_cb b i at_ L
  simp only
  omega
 ·have hno:(y8 b s n at_).1=emptyB:=by
   unfold y8 at h ⊢
   split at h
   case isFalse hc=>rw[if_neg hc]
   rename_i hc
   rw[if_pos hc]
   split at h
   ·rfl
   ·rename_i x hx
    split at h
    ·rename_i h1;rw[if_pos h1]
    ·rename_i h1
     rw[if_neg h1]
     split at h
     case isFalse h2=>rw[if_neg h2]
     rename_i h2
     rw[if_pos h2]
     split at h
     ·rename_i h3;rw[if_pos h3]
     ·rename_i h3;rw[if_neg h3];exact made_no h
  rw[hno,emptyB_cb];omega
theorem start_emp {b:Bk} {e:Xp} {n at_:Int} (h:(qJ b e n at_).2≠0):(qJ b e n at_).1.exps=[]:=by rw[start_no h];rfl
noncomputable def FChd:List PV→Option PV:=zM (α:=Bk×Nat×Int×List Sp) (fun a=>[.agg a.1.enc,int a.2.1,int a.2.2.1,.sl 2 (a.2.2.2.map encS)]) (fun a=>a.1.cb+1+a.2.2.2.length≤lim∧∃x,a.1.exps[a.2.1]?=some x∧x.phases≠[]) (fun a=>yO (ym (a.1.put a.2.1 a.2.2.1 a.2.2.2)))
theorem FChd_call (b:Bk) (i:Nat) (at_:Int) (l:List Sp) (hp:Hp) (nx:Nat) (h:b.cb+1+l.length≤lim∧∃x,b.exps[i]?=some x∧x.phases≠[]):zd false [] FChd [.agg b.enc,int i,int at_,.sl 2 (l.map encS)] hp nx=some (yO (ym (b.put i at_ l)),hp,nx) :=
 zJ (hp1:=hp) (show zk hp [.agg b.enc,int i,int at_,.sl 2 (l.map encS)]=some ([.agg b.enc,int i,int at_,.sl 2 (l.map encS)],hp) by simp only[zk,kj];rfl) (zq (enc:=fun a:Bk×Nat×Int×List Sp=>[.agg a.1.enc,int a.2.1,int a.2.2.1,.sl 2 (a.2.2.2.map encS)]) (a:=(b,i,at_,l)) (fun x y e=>by
  obtain⟨x1,x2,x3,x4⟩:=x;obtain⟨y1,y2,y3,y4⟩:=y
  simp only[List.cons.injEq,and_true,PV.agg.injEq,PV.sl.injEq,true_and] at e
  have e2:=zG e.2.1
  have e4:x4=y4:=wM (congrArg (PV.sl 2) e.2.2.2)
  rw[xq e.1,(show x2=y2 by omega),zG e.2.2.1,e4]) h) (.inr (by simp only[List.all_cons,noOwn_bk];rfl))
theorem list12:∀z:List PV,z.length=12→∃a b c d e f g h i j k l,z=[a,b,c,d,e,f,g,h,i,j,k,l]
 | [a,b,c,d,e,f,g,h,i,j,k,l],_=>⟨a,b,c,d,e,f,g,h,i,j,k,l,rfl⟩
noncomputable abbrev Cchd:Ctx:=zN prog [(19,hRun Cxb f19),(23,hDeep (zd false [] (FBk fun b=>yO (ym b))))]
theorem goodchd:AM.Good Cchd (fun g=>([]:List Nat).contains g):=zr mixed ⟨vK,by simp,madeD_sound,by simp,trivial⟩
set_option maxHeartbeats 1000000 in
theorem changed_eval (b:Bk) (i:Nat) (at_:Int) (l:List Sp) (x:Xp) (hb:b.cb+1+l.length≤lim) (hx:b.exps[i]?=some x) (hne:x.phases≠[]):zl Cchd f33 [.agg b.enc,int i,int at_,.sl 2 (l.map encS)]=some (yO (ym (b.put i at_ l))):=by
 have hlim:lim=2097152:=rfl
 have hil:i<b.exps.length:=(List.getElem?_eq_some_iff.1 hx).1
 have hxm:=List.mem_of_getElem? hx
 have hxc:=qL (f:=Xp.cb) hxm
 have hbc:b.cb=sumB Lyr.cb b.layers+sumB Hld.cb b.holds+sumB Xp.cb b.exps:=rfl
 have hleX:=qb xp_pos b.exps
 have hxe:x.cb=x.name.length+x.layer.length+x.flag.length+x.cond.cb+x.salt.length+x.arms.length+sumB Phs.cb x.phases:=rfl
 have hxpl:=qb kC x.phases
 have hput:=put_at hx at_ l
 have hpcb:=put_cb b i at_ l
 have hm1:x.phases.length+1≤maxLen:=by unfold maxLen;omega
 have hm2:(x.phases.length+1)*32≤140737488355328:=by omega
 refine ze rfl ?_
 refine xe (fun σ hp nx=>σ 1=int i∧σ 2=int at_∧σ 3=.sl 2 (l.map encS)∧σ 4=.ref 0 0 0∧σ 8=.ref 1 0 0∧hp 0=some ⟨26,3,false,[b.enc]⟩∧(∃z,hp 1=some ⟨26,3,false,[z]⟩∧z.length=3)∧nx=2) ?_ ?_
 ·simp[Bk.enc]
 rintro σ hp nx ⟨h1,h2,h3,h4,h8,hb0,⟨z,hc,hz⟩,rfl⟩
 obtain⟨z0,z1,z2,rfl⟩:=list3 z hz
 have hsl:SlOf 13 (b.exps.map Xp.enc) (.sl 13 (b.exps.map Xp.enc)):=by
  cases he:b.exps with
  | nil=>rw[he] at hil;simp at hil
  | cons y ys=>exact .sl
 obtain⟨r,hp',nx',r1,r2,⟨q,rl,rh,rx,rfl,a1,a2,a3,a4,a5⟩,r4⟩:=XcopyBook_run b _ hsl (by omega) hp 2
 rcases a5 with⟨e0,_⟩ | ⟨rows,mid,rfl,e1,e2,e3⟩
 ·rw[e0] at hil;simp at hil
 have hle:=e3.le
 have hln:=e3.len
 obtain⟨idp,cells,c1,c2,c3,c4,c5,c6⟩:=e3.grown hx hne
 obtain⟨d0,d1,d2,d3,d4,d5,d6,d7,d8,d9,d10,d11,rfl⟩:=list12 cells c2
 have hc':hp' 1=some ⟨26,3,false,[[z0,z1,z2]]⟩:=by rw[r4 1 (by omega)];exact hc
 obtain⟨hpZ,hZ⟩:∃h:Hp,upd (upd (upd (upd (upd hp' nx' (some (⟨26,3,false,[[rl,rh,.own (q+2) 0 b.exps.length]]⟩:Blk))) (nx'+1) (some (⟨58,2,true,[[int at_,.sl 2 (l.map encS)]]⟩:Blk))) idp none) (nx'+1+1) (some (⟨58,2,true,x.phases.map Phs.enc++[[int at_,.sl 2 (l.map encS)]]⟩:Blk))) (q+2) (some (⟨34,13,false,rows.set i [d0,d1,d2,d3,d4,d5,d6,d7,d8,d9,d10,d11,.own (nx'+1+1) 0 (x.phases.length+1)]⟩:Blk))=h:=⟨_,rfl⟩
 have zo:∀j,j<nx'→j≠idp→j≠q+2→hpZ j=hp' j:=fun j g1 g2 g3=>by rw[←hZ,zc _ _ _ _ g3,zc _ _ _ _ (by omega),zc _ _ _ _ g2,zc _ _ _ _ (by omega),zc _ _ _ _ (by omega)]
 have zb:hpZ nx'=some ⟨26,3,false,[[rl,rh,.own (q+2) 0 b.exps.length]]⟩:=by rw[←hZ,zc _ _ _ _ (by omega),zc _ _ _ _ (by omega),zc _ _ _ _ (by omega),zc _ _ _ _ (by omega),wI]
 have zx:hpZ (q+2)=some ⟨34,13,false,rows.set i [d0,d1,d2,d3,d4,d5,d6,d7,d8,d9,d10,d11,.own (nx'+1+1) 0 (x.phases.length+1)]⟩:=by rw[←hZ,wI]
 have zp:hpZ (nx'+1+1)=some ⟨58,2,true,(x.phases++[(⟨at_,l⟩:Phs)]).map Phs.enc⟩:=by rw[←hZ,zc _ _ _ _ (by omega),wI,List.map_append];rfl
 obtain⟨hpF,m1,m2⟩:=madeD_call (nx:=nx'+1+1+1) (rl:=rl) (rh:=rh) (rx:=.own (q+2) 0 b.exps.length) (b:=b.put i at_ l) (hp:=hpZ) (l:=q) (a3.same (Nat.le_refl _) (Nat.le_refl _) fun j g1 g2=>zo j (by omega) (by omega) (by omega)) (a4.same (Nat.le_refl _) (Nat.le_refl _) fun j g1 g2=>zo j (by omega) (by omega) (by omega)) (fun h hh=>by
  obtain⟨hpG,n1,n2⟩:=c6 (upd h (q+2) none) (nx'+1+1) (x.phases++[(⟨at_,l⟩:Phs)]) (fun j g1 g2 g3=>by rw[zc _ _ _ _ (by omega),hh j (by omega),zo j (by omega) g3 (by omega)]) (by omega) (by rw[zc _ _ _ _ (by omega),hh _ (by omega)];exact zp)
  refine⟨hpG,?_,fun j hj=>by rw[n2 j (by omega),zc _ _ _ _ (by omega)]⟩
  have hhx:=hh (q+2) (by omega)
  rw[zx] at hhx
  have hput':(b.put i at_ l).exps=b.exps.set i (x.withP (x.phases++[(⟨at_,l⟩:Phs)])):=hput
  rw[hput']
  simp only[List.length_append,List.length_cons,List.length_nil,List.cons_append,List.nil_append] at n1
  simp[y9,hhx,hln,n1]) (by omega)
 have hF1:hpF 1=some ⟨26,3,false,[[z0,z1,z2]]⟩:=by rw[m2 1 (by omega),zo 1 (by omega) (by omega) (by omega)];exact hc'
 obtain⟨⟨B,f⟩,hR⟩:∃r,ym (b.put i at_ l)=r:=⟨_,rfl⟩
 have hbt:yO (B,f)=.tup [.agg [.sl 3 (B.layers.map Lyr.enc),.sl 4 (B.holds.map Hld.enc),.sl 13 (B.exps.map Xp.enc)],int f]:=rfl
 rw[hR,hbt] at m1 ⊢
 simp only[bkY,Bk.enc] at r1 hb0
 have c1':rows[i]?=some [d0,d1,d2,d3,d4,d5,d6,d7,d8,d9,d10,d11,.own idp 0 x.phases.length]:=c1
 have k1:¬q+2=nx':=by omega
 have k2:¬q+2=nx'+1:=by omega
 have k3:¬q+2=idp:=by omega
 have k4:¬idp=nx':=by omega
 have k5:¬idp=nx'+1:=by omega
 have k6:¬q+2=nx'+1+1:=by omega
 have k7:¬q=nx':=by omega
 have k8:¬q+1=nx':=by omega
 simp[zI,zX,zh,zt,zj,zV,viewS,AM.view,h1,h2,h3,h4,h8,hb0,hc',r1,hm1,hm2,a3.cell,a4.cell,e2,c5,hil,c1',k1,k2,k3,k4,k5,k6,k7,k8,hZ,zb,m1,hF1,qC,f33]
set_option maxRecDepth 100000 in
theorem changed_sound:za prog 33 (zd false [] FChd) :=
 yK (fn:=f33) goodchd ⟨_,func33,by kernel_rfl,rfl,by kernel_rfl⟩ false [] _ fun args r h w S vs hz=>by
  obtain⟨⟨b,i,n,l⟩,rfl,⟨h1,x,h2,h3⟩,rfl⟩:=zg h
  exact⟨_,_,hz,Nat.le_trans (Nat.le_refl 4) (by decide),changed_eval b i n l x h1 h2 h3,fun _ _ _ h=>h⟩
end Go.Proofs.YtglppmnehgjolaaGreatDoor
