/-
Copies of slices.
The reference's Check of a value: what it computes, and that it is value.Check's.
The reference's Check of a value.
Comparisons: cmp.Compare at numbers and texts; a value compared with itself.
Comparing versions and cuts.
-/
import Derived.Test.YtdkfdoeijcfbhaaGreatDoorG12
import Derived.Lib.Bytealg
import Derived.Test.YtdkfdoeijcfbhaaGreatDoorG13
set_option maxRecDepth 8000
namespace Go.Proofs.YtdkfdoeijcfbhaaGreatDoor
open Go.Proofs.Tryz
open Go.RowKit Go.AM
def jt (e s:Nat):List PV→Option (Option Blk)
 | [.nil]=>some none
 | [.em]=>some (some ⟨e,s,true,[]⟩)
 | [.sl s' es]=>if s'=s∧es≠[]∧es.length≤lim then some (some ⟨e,s,true,es⟩) else none
 | _=>none
def QA (e s:Nat) (es:List (List PV)) (y:PV) (nx:Nat):PV×(Hp→Hp)×Nat:=match y with
 | .nil=>(.nil,fun h=>h,nx)
 | _=>(.own nx 0 es.length,fun h=>upd h nx (some ⟨e,s,true,es⟩),nx+1)
theorem Kv {e s:Nat} {es:List (List PV)} {y:PV} (h:SlOf s es y) (hl:es.length≤lim) (hp:Hp) (nx:Nat):wg [] (jt e s) [y] hp nx=some ((QA e s es y nx).1,(QA e s es y nx).2.1 hp,(QA e s es y nx).2.2):=by
 cases h with
 | nil=>rfl
 | em=>rfl
 | sl=>simp at hl;simp[wg,qc,jt,QA,hl]
theorem ownOr_other {e s:Nat} {es:List (List PV)} {y:PV} {nx:Nat} (hp:Hp) {id:Nat} (h:id<nx):(QA e s es y nx).2.1 hp id=hp id:=by
 unfold QA
 split
 ·rfl
 ·exact zl _ _ _ _ (by omega)
theorem Kw {e s:Nat} {es:List (List PV)} {y:PV} (h:SlOf s es y) (hp:Hp) (nx:Nat):OwnS ((QA e s es y nx).2.1 hp) (QA e s es y nx).2.2 e s (QA e s es y nx).1 es:=by
 cases h with
 | nil=>exact .inl ⟨rfl,rfl⟩
 | em=>exact .inr ⟨nx,by simp[QA],rfl,by simp[QA]⟩
 | sl=>exact .inr ⟨nx,by simp[QA],rfl,by simp[QA]⟩
theorem cloneV_eval (args:List PV) (r:Option Blk) (h:jt 117 5 args=some r):args.length≤f261.ntmps∧∃x hp nx,qH C0 f261 args (fun _=>none) 0=some (x,hp,nx)∧OwnR r x hp nx:=by
 unfold jt at h
 split at h
 ·injection h with h;subst h
  exact⟨by simp[f261],zD rfl (by simp[binA,j6,f261,OwnR])⟩
 ·injection h with h;subst h
  exact⟨by simp[f261],zD rfl (by simp[binA,j6,f261,OwnR,zf,qK,AM.view,maxLen,zn,zg])⟩
 ·rename_i es
  split at h
  ·rename_i hc
   obtain⟨rfl,hne,hl⟩:=hc
   injection h with h;subst h
   cases es with
   | nil=>exact absurd rfl hne
   | cons c es =>
     unfold lim at hl
     simp at hl
     have m1:es.length+1≤maxLen:=by unfold maxLen;omega
     have m2:(es.length+1)*80≤140737488355328:=by omega
     refine⟨by simp[f261],zD rfl ?_⟩
     simp[binA,j6,f261,OwnR,zf,qK,AM.view,zn,zg,m1,m2]
  ·cases h
 ·cases h
theorem cloneV_sound:za prog 261 (wg [] (jt 117 5)) :=
 jq (fn:=f261) (code:=_) qA ⟨func261,by kernel_rfl,rfl,by kernel_rfl⟩ [] _ cloneV_eval
def Val.inner (v:Val):List Val:=v.items++v.fields.map (·.2)
def kS (v:Val) (k:Nat):List (List PV):=(v.items++(v.fields.take k).map (·.2)).map Val.enc
theorem innerTo_zero (v:Val):kS v 0=v.items.map Val.enc:=by simp[kS]
theorem innerTo_succ {v:Val} {k:Nat} (h:k<v.fields.length):kS v (k+1)=kS v k++[v.fields[k].2.enc]:=by
 unfold kS
 rw[List.take_succ_eq_append_getElem h,List.map_append (f:=fun x:List UInt8×Val=>x.2),←List.append_assoc,List.map_append (f:=Val.enc)]
 rfl
theorem innerTo_full (v:Val):kS v v.fields.length=v.inner.map Val.enc:=by simp[kS,Val.inner]
theorem innerTo_length (v:Val) (k:Nat):(kS v k).length≤v.items.length+v.fields.length:=by simp[kS];omega
noncomputable abbrev Cin:Ctx:=zF prog [(261,wg [] (jt 117 5))]
theorem inner_eval (v:Val) (hv:v.vb≤lim) (y:PV) (hy:SlOf 5 (v.items.map Val.enc) y) :
  ∃r0,zi Cin f200 [.agg (v.enc.set 3 y)]=some r0∧∀(w:World) (S:Nat→Prop) (u:Value),RepC w S r0 u→RepC w S (.sl 5 (v.inner.map Val.enc)) u:=by
 have hvb:=ZX v
 have hl1:=wp v.items
 have hl2:=wT v.fields
 have hcl:=fun hp nx=>Kv (e:=117) hy (by simp;omega) hp nx
 have hown:=fun hp nx=>Kw (e:=117) hy hp nx
 unfold lim at hv
 have henc:v.enc.set 3 y=[int v.kind,int v.n,str v.s,y,.sl 6 (v.fields.map encF)]:=by rw[vo];rfl
 have hfin:∀{code},f200.body=some code→EvC Cin code ⟨yE [.agg (v.enc.set 3 y)],fun _=>none,0⟩ (retK Cin.P f200 (J1 (.sl 5 (v.inner.map Val.enc))))→∃r0,zi Cin f200 [.agg (v.enc.set 3 y)]=some r0∧∀(w:World) (S:Nat→Prop) (u:Value),RepC w S r0 u→RepC w S (.sl 5 (v.inner.map Val.enc)) u:=by
  intro code hb h
  obtain⟨r0,h1,h2⟩:=kE hb h
  exact⟨r0,h1,fun w S u hr=>Qn hr h2⟩
 refine hfin rfl ?_
 rw[henc]
 have ho:=fun hp=>ownOr_other (e:=117) (s:=5) (es:=v.items.map Val.enc) (y:=y) (nx:=1) hp (id:=0) (by omega)
 simp[hy.cell,hcl,ho]
 refine zq (fun k σ hp nx=>σ 10=.sl 6 (v.fields.map encF)∧σ 11=int v.fields.length∧σ 12=int k∧OwnS hp nx 117 5 (σ 3) (kS v k)) v.fields.length
  ⟨by simp,by simp,by simp,by rw[innerTo_zero];simpa using hown _ _⟩ ?_
 rintro k σ hp nx hk ⟨h10,h11,h12,hO⟩
 have hle:=innerTo_length v k
 by_cases hlt:k<v.fields.length
 ·have hw:IntKind.i64.wrap ((k:Int)+1)=(k:Int)+1:=zc (by omega) (by omega)
  have hO1:=hO.more (some ⟨163,6,false,[str v.fields[k].1::v.fields[k].2.enc]⟩)
  have hap:=hO1.append1 (P:=prog) (t:=22) (c:=v.fields[k].2.enc) el22 zet by117 zeu rfl (by omega) (by unfold maxLen;omega) (by omega)
  have hbs:∀hp nx,zf prog hp nx 22 1 [(0,.agg v.fields[k].2.enc)]=some (.own nx 0 1,upd hp nx (some ⟨117,5,true,[v.fields[k].2.enc]⟩),nx+1):=fun hp nx=>by
   simp only[zf,el22,zet,zeu,zg,Za]
   simp[zn]
  simp[h10,h11,h12,hlt,hbs,hw,hap]
  refine⟨hlt,?_⟩
  rw[innerTo_succ hlt]
  exact OwnS.after
 ·obtain rfl:k=v.fields.length:=by omega
  rw[innerTo_full] at hO
  have:=hO.freeze nx
  simp[h10,h11,h12,f200]
  exact this
theorem inner_sound:za prog 200 (GV fun v=>.sl 5 (v.inner.map Val.enc)) :=
 yw (fn:=f200) (zk (q:=[]) mixed ⟨cloneV_sound,by simp,trivial⟩:AM.Good Cin _) ⟨_,func200,by kernel_rfl,rfl,by kernel_rfl⟩ false [] _ fun args r h w S vs hz=>by
  obtain⟨v,rfl,hv,rfl⟩:=Qt h
  obtain⟨u,hu,hr⟩:=vL hz
  subst hu
  obtain⟨y,hy,hr2⟩:=Y3 hr (j:=3) (s:=5) (es:=v.items.map Val.enc) (by simp)
  obtain⟨r0,h1,h2⟩:=inner_eval v hv.1 y hy
  exact⟨_,r0,.cons hr2 .nil,by simp[f200],h1,h2⟩
def cutB (s:Int×Bool):Bool:=s.2||decide (1000<s.1)
def zav (s r:Int×Bool):Int×Bool:=if cutB s then s else (s.1+r.1,s.2||r.2)
mutual
def Val.rp:Val→Int→Int×Bool
 | .mk _ _ _ is fs,l=>rpF fs l (rpV is l (1,decide (8<l)))
def rpV:List Val→Int→Int×Bool→Int×Bool
 | [],_,s=>s
 | v::vs,l,s=>rpV vs l (zav s (v.rp (l+1)))
def rpF:List (List UInt8×Val)→Int→Int×Bool→Int×Bool
 | [],_,s=>s
 | (_,v)::vs,l,s=>rpF vs l (zav s (v.rp (l+1)))
end
def rpI (xs:List Val) (l:Int) (s:Int×Bool):Int×Bool:=xs.foldl (fun s x=>zav s (x.rp (l+1))) s
theorem zdK:∀(xs:List Val) (l:Int) (s:Int×Bool),rpV xs l s=rpI xs l s
 | [],_,_=>rfl
 | v::vs,l,s=>by simp only[rpV,rpI,List.foldl_cons];exact zdK vs l _
theorem zdL:∀(xs:List (List UInt8×Val)) (l:Int) (s:Int×Bool),rpF xs l s=rpI (xs.map (·.2)) l s
 | [],_,_=>rfl
 | (a,v)::vs,l,s=>by simp only[rpF,rpI,List.map_cons,List.foldl_cons];exact zdL vs l _
theorem zey (v:Val) (l:Int):v.rp l=rpI v.inner l (1,decide (8<l)):=by
 cases v with
 | mk k n s is fs=>simp only[Val.rp,zdK,zdL,Val.inner,Val.items,Val.fields,rpI,List.foldl_append]
theorem Vm {xs:List Val} {l:Int} {s:Int×Bool} (h:cutB s=true):rpI xs l s=s:=by
 induction xs with
 | nil=>rfl
 | cons x xs ih=>simp only[rpI,List.foldl_cons,zav,h,if_true];exact ih
theorem rpI_drop {xs:List Val} {l:Int} {s:Int×Bool} {k:Nat} (h:k<xs.length):rpI (xs.drop k) l s=rpI (xs.drop (k+1)) l (zav s (xs[k].rp (l+1))):=by
 rw[List.drop_eq_getElem_cons h];rfl
def vq (xs:List Val):Nat:=(xs.map Val.parts).sum
def yb:List Val→Nat
 | []=>0
 | v::l=>max v.levels (yb l)
theorem partsI_eq (v:Val):v.parts=1+vq v.inner:=by
 rw[za5]
 have h1:∀l:List Val,partsV l=vq l:=by
  intro l;induction l with
  | nil=>rfl
  | cons v l ih=>simp[partsV,vq,ih]
 have h2:∀l:List (List UInt8×Val),partsF l=vq (l.map (·.2)):=by
  intro l;induction l with
  | nil=>rfl
  | cons v l ih=>obtain⟨a,v⟩:=v;simp[partsF,vq] at ih ⊢;rw[ih]
 rw[h1,h2]
 simp[vq,Val.inner,Nat.add_assoc]
theorem levelsI_eq (v:Val):v.levels=yb v.inner+1:=by
 rw[Xn]
 have h1:∀l:List Val,levelsV l=yb l:=by
  intro l;induction l with
  | nil=>rfl
  | cons v l ih=>simp[levelsV,yb,ih]
 have h2:∀l:List (List UInt8×Val),levelsF l=yb (l.map (·.2)):=by
  intro l;induction l with
  | nil=>rfl
  | cons v l ih=>obtain⟨a,v⟩:=v;simp[levelsF,yb,ih]
 have h3:∀a b:List Val,yb (a++b)=max (yb a) (yb b):=by
  intro a b;induction a with
  | nil=>simp[yb]
  | cons v a ih=>simp only[List.cons_append,yb,ih];omega
 rw[h1,h2,Val.inner,h3]
theorem Xu {v x:Val} (h:x∈v.inner):x.vb<v.vb:=by
 have hvb:=ZX v
 rcases List.mem_append.1 h with h | h
 ·have:=yA h;omega
 ·obtain⟨f,hf,rfl⟩:=List.mem_map.1 h
  have:=ki hf;omega
structure RP (xs:List Val) (l:Int) (s r:Int×Bool):Prop where
 lo:s.1≤r.1
 hi:r.1≤s.1+vq xs
 deep:r.2=true→s.2=true∨8<l+(yb xs:Int)
 all:cutB r=false→r.1=s.1+vq xs∧(xs≠[]→l+(yb xs:Int)≤8)
theorem zcU:∀(b:Nat) (v:Val),v.vb≤b→∀l,0≤(v.rp l).1∧(v.rp l).1≤v.parts∧((v.rp l).2=true→8<l+(v.levels:Int) - 1)∧(cutB (v.rp l)=false→(v.rp l).1=v.parts∧l+(v.levels:Int) - 1≤8):=by
 intro b
 induction b with
 | zero=>intro v hv;have:=WX v;omega
 | succ b ih =>
   intro v hv l
   have key:∀(xs:List Val) (s:Int×Bool),0≤s.1→(∀x∈xs,x.vb≤b)→RP xs l s (rpI xs l s):=by
    intro xs
    induction xs with
    | nil=>intro s _ _;exact⟨by simp[rpI],by simp[rpI,vq],fun h=>.inl (by simpa[rpI] using h),fun _=>⟨by simp[rpI,vq],fun h=>absurd rfl h⟩⟩
    | cons x xs ihx =>
      intro s h0 hm
      by_cases hc:cutB s=true
      ·rw[Vm hc]
       exact⟨by omega,by omega,fun h=>.inl h,fun h=>by rw[hc] at h;cases h⟩
      ·have e:rpI (x::xs) l s=rpI xs l (s.1+(x.rp (l+1)).1,s.2||(x.rp (l+1)).2):=by
        simp only[rpI,List.foldl_cons,zav,hc];rfl
       rw[e]
       obtain⟨g1,g2,g3,g4⟩:=ih x (hm x (by simp)) (l+1)
       have hr:=ihx (s.1+(x.rp (l+1)).1,s.2||(x.rp (l+1)).2) (by simp only;omega) (fun y hy=>hm y (by simp[hy]))
       have hpi:vq (x::xs)=x.parts+vq xs:=by simp[vq]
       have hlo:=hr.lo
       have hhi:=hr.hi
       simp only at hlo hhi
       refine⟨by omega,by rw[hpi];omega,fun h=>?_,fun h=>?_⟩
       ·simp only[yb]
        rcases hr.deep h with h | h
        ·simp only[Bool.or_eq_true] at h
         rcases h with h | h
         ·exact .inl h
         ·right;have:=g3 h;omega
        ·right;omega
       ·obtain⟨a1,a2⟩:=hr.all h
        have hx:cutB (x.rp (l+1))=false:=by
         simp only[cutB,Bool.or_eq_false_iff,decide_eq_false_iff_not] at h hc ⊢
         refine⟨?_,by omega⟩
         cases hd:(x.rp (l+1)).2 with
         | false=>rfl
         | true =>
           exfalso
           have hst:cutB (s.1+(x.rp (l+1)).1,s.2||(x.rp (l+1)).2)=true:=by simp[cutB,hd]
           rw[Vm hst] at h
           simp[hd] at h
        obtain⟨b1,b2⟩:=g4 hx
        simp only at a1
        refine⟨by rw[hpi];omega,fun _=>?_⟩
        simp only[yb]
        by_cases hn:xs=[]
        ·subst hn;simp only[yb];omega
        ·have:=a2 hn;omega
   have hk:=key v.inner (1,decide (8<l)) (by simp) fun x hx=>by have:=Xu hx;omega
   rw[zey,partsI_eq,levelsI_eq]
   have k1:=hk.lo
   have k2:=hk.hi
   simp only at k1 k2
   refine⟨by omega,by omega,fun h=>?_,fun h=>?_⟩
   ·rcases hk.deep h with h | h
    ·simp at h;omega
    ·omega
   ·obtain⟨a1,a2⟩:=hk.all h
    simp only at a1
    refine⟨by omega,?_⟩
    by_cases hn:v.inner=[]
    ·rw[hn] at h ⊢
     simp[rpI,cutB] at h
     simp only[yb]
     omega
    ·have:=a2 hn;omega
theorem large_eq (v:Val):cutB (v.rp 1)=(decide ((1000:Int)<v.parts)||decide ((8:Int)<v.levels)):=by
 obtain⟨h1,h2,h3,h4⟩:=zcU v.vb v (Nat.le_refl _) 1
 cases hc:cutB (v.rp 1) with
 | false =>
   obtain⟨a,b⟩:=h4 hc
   simp only[cutB,Bool.or_eq_false_iff,decide_eq_false_iff_not] at hc
   symm
   simp only[Bool.or_eq_false_iff,decide_eq_false_iff_not]
   omega
 | true =>
   symm
   simp only[cutB,Bool.or_eq_true,decide_eq_true_eq] at hc ⊢
   rcases hc with hc | hc
   ·right;have:=h3 hc;omega
   ·left;omega
noncomputable def FV2 (out:Val→Int→PV) (lo hi:Int) (n:Nat):List PV→Option PV:=zH (α:=Val×Int) (fun a=>[.agg a.1.enc,int a.2]) (fun a=>a.1.vb≤lim∧a.1.vb≤n∧lo≤a.2∧a.2≤hi) (fun a=>out a.1 a.2)
theorem zbd (out:Val→Int→PV) (lo hi:Int) (n:Nat) (v:Val) (i:Int) (hp:Hp) (nx:Nat) (h:v.vb≤lim∧v.vb≤n∧lo≤i∧i≤hi):zd false [] (FV2 out lo hi n) [.agg v.enc,int i] hp nx=some (out v i,hp,nx) :=
 zy (hp1:=hp) (show zj hp [.agg v.enc,int i]=some ([.agg v.enc,int i],hp) by simp only[zj,Za];simp)
  (zm (enc:=fun a:Val×Int=>[.agg a.1.enc,int a.2]) (a:=(v,i)) (fun a b e=>by
   obtain⟨a1,a2⟩:=a;obtain⟨b1,b2⟩:=b
   simp only[List.cons.injEq,and_true,PV.agg.injEq] at e
   rw[ZW e.1,zB e.2]) h) (.inr (by simp only[List.all_cons,Xm,List.all_nil];rfl))
noncomputable abbrev Crp (n:Nat):Ctx:=zF prog [(144,zd false [] (FV2 (fun v l=>.tup [int (v.rp l).1,boo (v.rp l).2]) 1 9 n)),(200,GV fun v=>.sl 5 (v.inner.map Val.enc))]
theorem inner_length (v:Val):v.inner.length<v.vb:=by
 have:=ZX v
 have:=wp v.items
 have:=wT v.fields
 simp[Val.inner]
 omega
theorem rparts_eval (n:Nat) (v:Val) (l:Int) (h:v.vb≤lim∧v.vb≤n+1∧1≤l∧l≤9):zi (Crp n) f144 [.agg v.enc,int l]=some (.tup [int (v.rp l).1,boo (v.rp l).2]):=by
 obtain⟨ha,hb,hl1,hl2⟩:=h
 have hil:=inner_length v
 have hin:=fun hp nx=>xw (fun v=>.sl 5 (v.inner.map Val.enc)) v hp nx ha
 unfold lim at ha
 refine zb rfl ?_
 simp[hin]
 refine zq (fun k σ hp nx=>σ 1=int l∧σ 15=.sl 5 (v.inner.map Val.enc)∧σ 16=int v.inner.length∧σ 17=int k∧∃s:Int×Bool,σ 6=int s.1∧σ 7=boo s.2∧0≤s.1∧s.1≤2000000∧(s.2=false→l≤8)∧v.rp l=rpI (v.inner.drop k) l s) v.inner.length
  ⟨by simp,by simp,by simp,by simp,(1,decide (8<l)),by simp,by simp,by simp,by simp,by simp,by rw[zey];simp⟩ ?_
 rintro k σ hp nx hk ⟨h1,h15,h16,h17,s,h6,h7,s0,s1,s2,he⟩
 by_cases hlt:k<v.inner.length
 ·have hw:IntKind.i64.wrap ((k:Int)+1)=(k:Int)+1:=zc (by omega) (by omega)
  have hm:=Xu (List.getElem_mem hlt)
  have hec:(s.2||decide (1000<s.1))=cutB s:=rfl
  cases hc:cutB s
  ·have hs2:s.2=false:=by cases h:s.2<;>simp_all[cutB]
   have hl8:=s2 hs2
   have wl:IntKind.i64.wrap (l+1)=l+1:=zc (by omega) (by omega)
   have hcall:=fun hp nx=>zbd (fun v l=>.tup [int (v.rp l).1,boo (v.rp l).2]) 1 9 n v.inner[k] (l+1) hp nx ⟨by unfold lim;omega,by omega,by omega,by omega⟩
   obtain⟨g1,g2,g3,g4⟩:=zcU _ v.inner[k] (Nat.le_refl _) (l+1)
   have hpl:=Ve v.inner[k]
   have hs1:s.1≤1000:=by simp[cutB] at hc;omega
   have ws:IntKind.i64.wrap (s.1+(v.inner[k].rp (l+1)).1)=s.1+(v.inner[k].rp (l+1)).1:=zc (by omega) (by omega)
   rw[rpI_drop hlt] at he
   simp only[zav,hc,Bool.false_eq_true,if_false] at he
   simp[h1,h15,h16,h17,h6,h7,hlt,hec,hc,hcall,wl,ws,hw]
   refine⟨hlt,?_⟩
   rw[he,hs2]
   cases hd:(v.inner[k].rp (l+1)).2<;>simp[hd]<;>omega
  ·rw[Vm hc] at he
   simp[h1,h15,h16,h17,h6,h7,hlt,hec,hc,he,f144,qi]
 ·obtain rfl:k=v.inner.length:=by omega
  rw[List.drop_length] at he
  have he:v.rp l=s:=he
  simp[h1,h15,h16,h17,h6,h7,he,f144,qi]
theorem zcV {out:Val→Int→PV} {lo hi:Int} {n:Nat} {args:List PV} {r:PV} (h:FV2 out lo hi n args=some r):∃(v:Val) (i:Int),args=[.agg v.enc,int i]∧(v.vb≤lim∧v.vb≤n∧lo≤i∧i≤hi)∧r=out v i:=by
 obtain⟨⟨v,i⟩,h1,h2,h3⟩:=ze h
 exact⟨v,i,h1,h2,h3⟩
theorem FV2_zero {out:Val→Int→PV} {lo hi:Int} {f:FuncId} (hfn:∃fn,prog.funcs[f]?=some fn∧(fn.name== "runtime.NumGoroutine")=false∧fn.body.isNone=false):za prog f (zd false [] (FV2 out lo hi 0)):=by
 refine⟨hfn,fun args hp nx r hp' nx' h=>?_⟩
 unfold zd at h
 split at h
 ·split at h
  ·rename_i r0 hF
   obtain⟨v,i,_,hv,_⟩:=zcV hF
   have:=WX v
   omega
  ·cases h
 ·cases h
set_option maxRecDepth 100000 in
theorem rparts_sound:∀n,za prog 144 (zd false [] (FV2 (fun v l=>.tup [int (v.rp l).1,boo (v.rp l).2]) 1 9 n)):=by
 intro n
 induction n with
 | zero=>exact FV2_zero ⟨_,func144,by kernel_rfl,by kernel_rfl⟩
 | succ n ih =>
   have hg:AM.Good (Crp n) (fun g=>([]:List Nat).contains g):=zk mixed ⟨ih,by simp,inner_sound,by simp,trivial⟩
   exact zI (fn:=f144) hg ⟨_,func144,by kernel_rfl,rfl,by kernel_rfl⟩ false [] _ fun args r h=>by
    obtain⟨v,l,rfl,hv,rfl⟩:=zcV h
    exact⟨Nat.le_trans (Nat.le_refl 2) (by decide),_,rparts_eval n v l hv,zG _⟩
noncomputable abbrev Crc:Ctx:=zF prog [(202,zd false [] (F3 inB)),(203,zd false [] (FS (zS 32 126)))]
@[simp] theorem qrc1:wn Crc 202:=qm (by rfl) (zh _ _)
def Vn (v:Val):Int:=ZY v.kind v.n v.s v.items.length v.fields.length
theorem headV_eq (v:Val):Vn v=if (!inB v.kind 0 5) then 4 else if (v.kind != 1&&v.kind != 2&&v.n != 0) then 3 else if (v.kind != 3&&!v.s.isEmpty) then 3 else if (v.kind != 4&&decide (0<v.items.length)) then 3 else if (v.kind != 5&&decide (0<v.fields.length)) then 3 else if (v.kind==1&&!inB v.n 0 1) then 1 else if (v.kind==2&&!inB v.n (-999999999999999) 999999999999999) then 1 else if (decide ((500:Int)<v.s.length)) then 2 else if (!zS 32 126 v.s) then 1 else if (decide ((100:Int)<v.items.length)||decide ((100:Int)<v.fields.length)) then 2 else 0:=by
 unfold Vn ZY
 have q1:zcP v.kind=!inB v.kind 0 5:=by rw[Bool.eq_iff_iff];simp[zcP,inB]
 have q2:WY v.kind v.n v.s v.items.length v.fields.length=((v.kind != 1&&v.kind != 2&&v.n != 0)||(v.kind != 3&&!v.s.isEmpty)||(v.kind != 4&&decide (0<v.items.length))||(v.kind != 5&&decide (0<v.fields.length))):=by
  unfold WY
  have:(v.s==[])=v.s.isEmpty:=by cases v.s<;>rfl
  rw[this]
  generalize (v.kind != 1)=x1
  generalize (v.kind != 2)=x2
  generalize (v.kind != 3)=x3
  generalize (v.kind != 4)=x4
  generalize (v.kind != 5)=x5
  generalize (v.n != 0)=x6
  generalize v.s.isEmpty=x7
  generalize decide (0<v.items.length)=x8
  generalize decide (0<v.fields.length)=x9
  cases x1<;>cases x2<;>cases x3<;>cases x4<;>cases x5<;>cases x6<;>cases x7<;>cases x8<;>cases x9<;>rfl
 have q3:YW v.kind v.n=(v.kind==1&&!inB v.n 0 1):=by rw[Bool.eq_iff_iff];simp[YW,inB];omega
 have q4:YX v.kind v.n=(v.kind==2&&!inB v.n (-999999999999999) 999999999999999):=by rw[Bool.eq_iff_iff];simp[YX,inB];omega
 rw[q1,q2,q3,q4,zdz,zdy]
 generalize (!inB v.kind 0 5)=b1
 generalize (v.kind != 1&&v.kind != 2&&v.n != 0)=b2
 generalize (v.kind != 3&&!v.s.isEmpty)=b3
 generalize (v.kind != 4&&decide (0<v.items.length))=b4
 generalize (v.kind != 5&&decide (0<v.fields.length))=b5
 generalize (v.kind==1&&!inB v.n 0 1)=b6
 generalize (v.kind==2&&!inB v.n (-999999999999999) 999999999999999)=b7
 cases b1<;>cases b2<;>cases b3<;>cases b4<;>cases b5<;>cases b6<;>cases b7<;>cases zS 32 126 v.s<;>rfl
theorem rcheckPart_eval (v:Val) (h:v.vb≤lim):zi Crc f201 [.agg v.enc]=some (int (Vn v)):=by
 have hvb:=ZX v
 have hsl:v.s.length≤lim:=by omega
 refine zb rfl ?_
 have hh:=headV_eq v
 obtain⟨a1,ea1⟩:∃b,(!inB v.kind 0 5)=b:=⟨_,rfl⟩
 obtain⟨a2,ea2⟩:∃b,(v.kind != 1&&v.kind != 2&&v.n != 0)=b:=⟨_,rfl⟩
 obtain⟨a3,ea3⟩:∃b,(v.kind != 3&&!v.s.isEmpty)=b:=⟨_,rfl⟩
 obtain⟨a4,ea4⟩:∃b,(v.kind != 4&&decide (0<v.items.length))=b:=⟨_,rfl⟩
 obtain⟨a5,ea5⟩:∃b,(v.kind != 5&&decide (0<v.fields.length))=b:=⟨_,rfl⟩
 obtain⟨a6,ea6⟩:∃b,(v.kind==1&&!inB v.n 0 1)=b:=⟨_,rfl⟩
 obtain⟨a7,ea7⟩:∃b,(v.kind==2&&!inB v.n (-999999999999999) 999999999999999)=b:=⟨_,rfl⟩
 obtain⟨a8,ea8⟩:∃b,(decide ((500:Int)<v.s.length))=b:=⟨_,rfl⟩
 obtain⟨a9,ea9⟩:∃b,(!zS 32 126 v.s)=b:=⟨_,rfl⟩
 obtain⟨a10,ea10⟩:∃b,(decide ((100:Int)<v.items.length)||decide ((100:Int)<v.fields.length))=b:=⟨_,rfl⟩
 rw[ea1,ea2,ea3,ea4,ea5,ea6,ea7,ea8,ea9,ea10] at hh
 cases a1
 case true=>simp[hsl,ea1,ea2,ea3,ea4,ea5,ea6,ea7,ea8,ea9,ea10,hh,f201]
 cases a2
 case true=>simp[hsl,ea1,ea2,ea3,ea4,ea5,ea6,ea7,ea8,ea9,ea10,hh,f201]
 cases a3
 case true=>simp[hsl,ea1,ea2,ea3,ea4,ea5,ea6,ea7,ea8,ea9,ea10,hh,f201]
 cases a4
 case true=>simp[hsl,ea1,ea2,ea3,ea4,ea5,ea6,ea7,ea8,ea9,ea10,hh,f201]
 cases a5
 case true=>simp[hsl,ea1,ea2,ea3,ea4,ea5,ea6,ea7,ea8,ea9,ea10,hh,f201]
 cases a6
 case true=>simp[hsl,ea1,ea2,ea3,ea4,ea5,ea6,ea7,ea8,ea9,ea10,hh,f201]
 cases a7
 case true=>simp[hsl,ea1,ea2,ea3,ea4,ea5,ea6,ea7,ea8,ea9,ea10,hh,f201]
 cases a8
 case true=>simp[hsl,ea1,ea2,ea3,ea4,ea5,ea6,ea7,ea8,ea9,ea10,hh,f201]
 cases a9
 case true=>simp[hsl,ea1,ea2,ea3,ea4,ea5,ea6,ea7,ea8,ea9,ea10,hh,f201]
 cases a10
 case true=>simp[hsl,ea1,ea2,ea3,ea4,ea5,ea6,ea7,ea8,ea9,ea10,hh,f201]
 simp[hsl,ea1,ea2,ea3,ea4,ea5,ea6,ea7,ea8,ea9,ea10,hh,f201]
theorem rcheckPart_sound:za prog 201 (GV fun v=>int (Vn v)) :=
 zI (fn:=f201) (zk (q:=[202,203]) mixed ⟨yN,fun _=>zh _ _,kh,fun _=>zh _ _,trivial⟩:AM.Good Crc _) ⟨_,func201,by kernel_rfl,rfl,by kernel_rfl⟩ false [] _ fun args r h=>by
  obtain⟨v,rfl,hv,rfl⟩:=Qt h
  exact⟨by simp[f201],_,rcheckPart_eval v hv.1,zG _⟩
noncomputable abbrev Cra (n:Nat):Ctx:=zF prog [(145,zd false [] (FV (fun v=>int v.fault) n)),(201,GV fun v=>int (Vn v)),(202,zd false [] (F3 inB)),(203,zd false [] (FS (zS 32 126)))]
@[simp] theorem qra2 (n:Nat):wn (Cra n) 203:=qm (by rfl) (zh _ _)
theorem cName_ref (a:List UInt8):(!inB a.length 1 60||!zS 32 126 a)=zat a:=by
 unfold zat inB
 cases a with
 | nil=>rfl
 | cons c a =>
   generalize zS 32 126 (c::a)=x
   rw[Bool.eq_iff_iff]
   cases x<;>simp<;>omega
theorem checkAll_eval (n:Nat) (v:Val) (h:v.vb≤lim∧v.vb≤n+1):zi (Cra n) f145 [.agg v.enc]=some (int v.fault):=by
 have hvb:=ZX v
 have hl1:=wp v.items
 have hl2:=wT v.fields
 obtain⟨ha,hb⟩:=h
 have hsp:=fun hp nx=>xw (fun v=>int (Vn v)) v hp nx ha
 unfold lim at ha
 have hf:=za6 v
 refine zb rfl ?_
 by_cases hh:Vn v=0
 case neg =>
  have hh2:(Vn v != 0)=true:=by simpa using hh
  have hf':v.fault=Vn v:=by rw[hf];exact if_neg hh
  simp[hsp,hh2,hf',f145]
 have hf:v.fault=if faultV v.items=0 then faultF none v.fields else faultV v.items:=by rw[hf];exact if_pos hh
 simp[hsp,hh]
 refine zq (fun k σ hp nx=>σ 1=.ref 0 0 0∧σ 16=.sl 5 (v.items.map Val.enc)∧σ 17=int v.items.length∧σ 18=int k∧1≤nx∧hp 0=some ⟨117,5,false,[v.enc]⟩∧faultV v.items=faultV (v.items.drop k)) v.items.length
  ⟨by simp,by simp,by simp,by simp,by simp,by simp,by simp⟩ ?_
 rintro k σ hp nx hk ⟨h1,h70,h71,h72,hnx,b0,he⟩
 have n0:¬0=nx:=by omega
 by_cases hlt:k<v.items.length
 ·have hm:=yA (List.getElem_mem hlt)
  have hw:IntKind.i64.wrap ((k:Int)+1)=(k:Int)+1:=zc (by omega) (by omega)
  have hcall:=fun hp nx=>Wo (fun v=>int v.fault) n v.items[k] hp nx ⟨by unfold lim;omega,by omega⟩
  rw[YY hlt] at he
  by_cases hz:v.items[k].fault=0
  ·rw[if_pos hz] at he
   simp[h1,h70,h71,h72,hlt,hcall,hz,hw]
   and_intros<;>first | omega | exact he | simp[n0,b0]
  ·rw[if_neg hz] at he
   have hz2:(v.items[k].fault != 0)=true:=by simpa using hz
   rw[he,if_neg hz] at hf
   simp[h1,h70,h71,h72,hlt,hcall,hz2,hf,f145]
 ·obtain rfl:k=v.items.length:=by omega
  rw[List.drop_length] at he
  have he:faultV v.items=0:=by rw[he];rfl
  rw[he,if_pos rfl] at hf
  simp[h1,h70,h71,h72,b0]
  refine zq (fun k σ hp nx=>σ 1=.ref 0 0 0∧σ 29=.sl 6 (v.fields.map encF)∧σ 30=int v.fields.length∧σ 31=int k∧1≤nx∧hp 0=some ⟨117,5,false,[v.enc]⟩∧v.fault=faultF (kH v.fields k) (v.fields.drop k)) v.fields.length
   ⟨by simp[h1],by simp,by simp,by simp,hnx,b0,by simp[hf,kH]⟩ ?_
  clear h1 h70 h71 h72 hnx b0 hlt hk n0 nx hp σ hf
  rintro k σ hp nx hk ⟨h1,h83,h84,h85,hnx,b0,hf⟩
  have n0:¬0=nx:=by omega
  by_cases hlt:k<v.fields.length
  ·have hm:=ki (List.getElem_mem hlt)
   have hw:IntKind.i64.wrap ((k:Int)+1)=(k:Int)+1:=zc (by omega) (by omega)
   have hnl:v.fields[k].1.length≤lim:=by unfold lim;omega
   have hcall:=fun hp nx=>Wo (fun v=>int v.fault) n v.fields[k].2 hp nx ⟨by unfold lim;omega,by omega⟩
   have en:=cName_ref v.fields[k].1
   rw[YZ hlt] at hf
   cases d1:zat v.fields[k].1
   case true=>simp[h1,h83,h84,h85,hlt,hnl,en,d1,hf,f145]
   have hpv:kH v.fields (k+1)=some v.fields[k].1:=by simp[kH,hlt]
   simp only[d1,Bool.false_eq_true,if_false] at hf
   by_cases k0:k=0
   ·subst k0
    simp only[kH,zct,if_true,Bool.false_eq_true,if_false] at hf
    by_cases hz:v.fields[0].2.fault=0
    ·rw[if_pos hz] at hf
     have w1:IntKind.i64.wrap 1=1:=zc (by omega) (by omega)
     simp[h1,h83,h84,h85,hlt,hnl,en,d1,hcall,hz,w1]
     and_intros<;>first | omega | (rw[hf];rw[hpv];simp;done) | simp[n0,b0]
    ·rw[if_neg hz] at hf
     have hz2:(v.fields[0].2.fault != 0)=true:=by simpa using hz
     simp[h1,h83,h84,h85,hlt,hnl,en,d1,hcall,hz2,hf,f145]
   ·obtain⟨j,rfl⟩:∃j,k=j+1:=⟨k - 1,by omega⟩
    have hj:j<v.fields.length:=by omega
    have wj:IntKind.i64.wrap ((j:Int)+1 - 1)=(j:Int):=by rw[zc (by omega) (by omega)];omega
    have wj':IntKind.i64.wrap (j:Int)=(j:Int):=zc (by omega) (by omega)
    have j1:((j:Int)+1).toNat=j+1:=by omega
    have j2:0<(j:Int)+1:=by omega
    have j3:0≤(j:Int)+1:=by omega
    have j4:(j:Int)+1<v.fields.length:=by omega
    have wk:IntKind.i64.wrap ((j:Int)+1+1)=(j:Int)+1+1:=zc (by omega) (by omega)
    have el:(Op.bytesLess v.fields[j+1].1 v.fields[j].1||v.fields[j+1].1==v.fields[j].1)=leB v.fields[j+1].1 v.fields[j].1:=rfl
    have hpj:kH v.fields (j+1)=some v.fields[j].1:=by simp[kH,hj]
    simp only[hpj,zct] at hf
    cases d2:leB v.fields[j+1].1 v.fields[j].1
    case true =>
     simp only[d2,if_true] at hf
     simp[h1,h83,h84,h85,hlt,hj,hnl,en,d1,hcall,b0,n0,wj,wj',j1,j2,j3,j4,el,d2,hf,f145]
    simp only[d2,Bool.false_eq_true,if_false] at hf
    by_cases hz:v.fields[j+1].2.fault=0
    ·rw[if_pos hz] at hf
     simp[h1,h83,h84,h85,hlt,hj,hnl,en,d1,hcall,b0,n0,wj,wj',j1,j2,j3,j4,el,d2,hz,wk]
     and_intros<;>first | omega | (rw[hf];rw[hpv]) | simp[n0,b0]
    ·rw[if_neg hz] at hf
     have hz2:(v.fields[j+1].2.fault != 0)=true:=by simpa using hz
     simp[h1,h83,h84,h85,hlt,hj,hnl,en,d1,hcall,b0,n0,wj,wj',j1,j2,j3,j4,el,d2,hz2,hf,f145]
  ·obtain rfl:k=v.fields.length:=by omega
   rw[List.drop_length] at hf
   have hf:v.fault=0:=by rw[hf];rfl
   simp[h1,h83,h84,h85,hf,f145]
set_option maxRecDepth 100000 in
theorem checkAll_sound:∀n,za prog 145 (zd false [] (FV (fun v=>int v.fault) n)):=by
 intro n
 induction n with
 | zero=>exact zas ⟨_,func145,by kernel_rfl,by kernel_rfl⟩
 | succ n ih =>
   have hg:AM.Good (Cra n) (fun g=>[202,203].contains g):=zk mixed ⟨ih,by simp,rcheckPart_sound,by simp,yN,fun _=>zh _ _,kh,fun _=>zh _ _,trivial⟩
   exact zI (fn:=f145) hg ⟨_,func145,by kernel_rfl,rfl,by kernel_rfl⟩ false [] _ fun args r h=>by
    obtain⟨v,rfl,hv,rfl⟩:=Qt h
    exact⟨Nat.le_trans (Nat.le_refl 1) (by decide),_,checkAll_eval n v hv,zG _⟩
noncomputable abbrev Crch:Ctx:=zF prog [(145,GV fun v=>int v.fault),(144,zd false [] (FV2 (fun v l=>.tup [int (v.rp l).1,boo (v.rp l).2]) 1 9 lim))]
theorem rcheck_sound:za prog 91 (GV fun v=>int v.check) :=
 zI (fn:=f91) (zk (q:=[]) mixed ⟨checkAll_sound lim,by simp,rparts_sound lim,by simp,trivial⟩:AM.Good Crch _) ⟨_,func91,by kernel_rfl,rfl,by kernel_rfl⟩ false [] _ fun args r h=>by
  obtain⟨v,rfl,hv,rfl⟩:=Qt h
  have h1:=fun hp nx=>xw (fun v=>int v.fault) v hp nx hv.1
  have h2:=fun hp nx=>zbd (fun v l=>.tup [int (v.rp l).1,boo (v.rp l).2]) 1 9 lim v 1 hp nx ⟨hv.1,hv.1,by omega,by omega⟩
  refine⟨by simp[f91],_,zb rfl ?_,zG _⟩
  have hl:=large_eq v
  have hc0:((v.rp 1).2||decide (1000<(v.rp 1).1))=cutB (v.rp 1):=rfl
  unfold Val.check
  rw[←hl]
  cases hc:cutB (v.rp 1)
  ·simp[h1,h2,hc0,hc,f91]
  ·simp[h1,h2,hc0,hc,f91]
def cmpI (a b:Int):Int:=if a<b then -1 else if b<a then 1 else 0
def cmpS (a b:List UInt8):Int:=if Op.bytesLess a b then -1 else if Op.bytesLess a b||a==b then 0 else 1
def F2I (f:Int→Int→Int):List PV→Option PV
 | [.v (.int .i64 a),.v (.int .i64 b)]=>some (int (f a b))
 | _=>none
theorem F2I_inv {f:Int→Int→Int} {args:List PV} {r:PV} (h:F2I f args=some r):∃a b,args=[int a,int b]∧r=int (f a b):=by
 unfold F2I at h
 split at h
 ·injection h with h;exact⟨_,_,rfl,h.symm⟩
 ·cases h
@[simp] theorem F2I_call (f:Int→Int→Int) (a b:Int) (hp:Hp) (nx:Nat):zd false [] (F2I f) [.v (.int .i64 a),.v (.int .i64 b)] hp nx=some (int (f a b),hp,nx):=zy rfl rfl (.inl rfl)
def zbe:List PV→Option PV
 | [.v (.int .i64 _)]=>some (boo false)
 | _=>none
def zbf:List PV→Option PV
 | [.v (.string _)]=>some (boo false)
 | _=>none
@[simp] theorem isNaNI_call (a:Int) (hp:Hp) (nx:Nat):zd false [] zbe [.v (.int .i64 a)] hp nx=some (boo false,hp,nx):=zy rfl rfl (.inl rfl)
@[simp] theorem isNaNS_call (a:ByteArray) (hp:Hp) (nx:Nat):zd false [] zbf [.v (.string a)] hp nx=some (boo false,hp,nx):=zy rfl rfl (.inl rfl)
theorem isNaNI_sound:za prog 183 (zd false [] zbe) :=
 zI (fn:=f183) qA ⟨_,func183,by kernel_rfl,rfl,by kernel_rfl⟩ false [] _ fun args r h=>by
  unfold zbe at h
  split at h
  ·injection h with h;subst h
   exact⟨by simp[f183],_,zb rfl (by simp[f183]),zG _⟩
  ·cases h
theorem isNaNS_sound:za prog 204 (zd false [] zbf) :=
 zI (fn:=f204) qA ⟨_,func204,by kernel_rfl,rfl,by kernel_rfl⟩ false [] _ fun args r h=>by
  unfold zbf at h
  split at h
  ·injection h with h;subst h
   exact⟨by simp[f204],_,zb rfl (by simp[f204]),zG _⟩
  ·cases h
noncomputable abbrev Cnn:Ctx:=zF prog [(183,zd false [] zbe),(204,zd false [] zbf)]
theorem zdM:AM.Good Cnn (fun g=>[183,204].contains g):=zk mixed ⟨isNaNI_sound,fun _=>zh _ _,isNaNS_sound,fun _=>zh _ _,trivial⟩
theorem jV:za prog 131 (zd false [] (F2I cmpI)) :=
 zI (fn:=f131) zdM ⟨_,func131,by kernel_rfl,rfl,by kernel_rfl⟩ false [] _ fun args r h=>by
  obtain⟨a,b,rfl,rfl⟩:=F2I_inv h
  refine⟨by simp[f131],_,zb rfl ?_,zG _⟩
  unfold cmpI
  by_cases h1:a<b
  ·simp[h1,f131]
  ·by_cases h2:b<a
   ·simp[h1,h2,f131]
   ·simp[h1,h2,f131]
noncomputable def F2S (f:List UInt8→List UInt8→Int):List PV→Option PV:=zH (α:=List UInt8×List UInt8) (fun a=>[str a.1,str a.2]) (fun _=>True) (fun a=>int (f a.1 a.2))
@[simp] theorem F2S_call (f:List UInt8→List UInt8→Int) (a b:List UInt8) (hp:Hp) (nx:Nat):zd false [] (F2S f) [str a,str b] hp nx=some (int (f a b),hp,nx) :=
 zy rfl (zm (enc:=fun a:List UInt8×List UInt8=>[str a.1,str a.2]) (a:=(a,b)) (fun a b e=>by
  obtain⟨a1,a2⟩:=a;obtain⟨b1,b2⟩:=b
  simp only[List.cons.injEq,and_true] at e
  rw[zV e.1,zV e.2]) trivial) (.inl rfl)
theorem Kx:za prog 146 (zd false [] (F2S cmpS)) :=
 zI (fn:=f146) zdM ⟨_,func146,by kernel_rfl,rfl,by kernel_rfl⟩ false [] _ fun args r h=>by
  obtain⟨⟨a,b⟩,rfl,_,rfl⟩:=ze h
  refine⟨by simp[f146],_,zb rfl ?_,zG _⟩
  simp only[cmpS]
  cases h1:Op.bytesLess a b
  ·cases h2:(a==b)
   ·simp[h1,h2,f146]
   ·simp[h1,h2,f146]
  ·simp[h1,f146]
@[simp] theorem cmpI_self (a:Int):cmpI a a=0:=by simp[cmpI]
noncomputable abbrev cmpB:=Lib.compareBytes
theorem cmpString_sound:za prog 154 (zd false [] (F2S cmpB)) :=
 sound_scalar ⟨_,func154,by kernel_rfl,by kernel_rfl⟩ fun args r h=>by
  obtain⟨⟨a,b⟩,rfl,_,rfl⟩:=ze h
  exact⟨[.string ⟨a.toArray⟩,.string ⟨b.toArray⟩],rfl,by simp[lit],_,rfl,rfl,fun w=>by simpa using Tryz.bytealg_CompareString ⟨a.toArray⟩ ⟨b.toArray⟩ w⟩
noncomputable abbrev Cstr:Ctx:=zF prog [(154,zd false [] (F2S cmpB))]
theorem wO:za prog 98 (zd false [] (F2S cmpB)) :=
 zI (fn:=f98) (zk (q:=[]) mixed ⟨cmpString_sound,by simp,trivial⟩:AM.Good Cstr _) ⟨_,func98,by kernel_rfl,rfl,by kernel_rfl⟩ false [] _ fun args r h=>by
  obtain⟨⟨a,b⟩,rfl,_,rfl⟩:=ze h
  exact⟨by simp[f98],_,zb rfl (by simp[f98]),zG _⟩
def orL:List Int→Int
 | []=>0
 | n::l=>if n=0 then orL l else n
def encN (l:List Int):List (List PV):=l.map fun n=>[int n]
@[simp] theorem encN_length (l:List Int):(encN l).length=l.length:=by simp[encN]
@[simp] theorem encN_at {l:List Int} {k:Nat} (h:k<(encN l).length):(encN l)[k]=[int (l[k]'(by simpa using h))]:=by simp[encN]
theorem encN_inj {a b:List Int} (h:encN a=encN b):a=b:=qW (fun x y e=>by simp only[List.cons.injEq,and_true] at e;exact zB e) h
noncomputable def FOr:List PV→Option PV:=zH (α:=List Int) (fun l=>[.sl 1 (encN l)]) (fun l=>l.length≤lim) (fun l=>int (orL l))
theorem or_eval (l:List Int) (hl:l.length≤lim):zi C0 f184 [.sl 1 (encN l)]=some (int (orL l)):=by
 refine zb rfl ?_
 unfold lim at hl
 simp
 refine zq (fun k σ hp nx=>σ 3=int 0∧σ 6=.sl 1 (encN l)∧σ 7=int l.length∧σ 8=int k∧orL l=orL (l.drop k)) l.length ⟨by simp,by simp,by simp,by simp,by simp⟩ ?_
 rintro k σ hp nx hk ⟨h3,h6,h7,h8,he⟩
 by_cases hlt:k<l.length
 ·have hw:IntKind.i64.wrap ((k:Int)+1)=(k:Int)+1:=zc (by omega) (by omega)
  rw[List.drop_eq_getElem_cons hlt] at he
  simp only[orL] at he
  by_cases hz:l[k]=0
  ·rw[if_pos hz] at he
   simp[h3,h6,h7,h8,hlt,hz,hw]
   exact⟨hlt,he⟩
  ·rw[if_neg hz] at he
   have hz':(l[k] != 0)=true:=by simpa using hz
   simp[h3,h6,h7,h8,hlt,hz',he,f184]
 ·obtain rfl:k=l.length:=by omega
  rw[List.drop_length] at he
  simp[h3,h6,h7,h8,he,orL,f184]
theorem QB:za prog 184 (zd false [] FOr) :=
 zI (fn:=f184) qA ⟨_,func184,by kernel_rfl,rfl,by kernel_rfl⟩ false [] _ fun args r h=>by
  obtain⟨l,rfl,hp,rfl⟩:=ze h
  exact⟨by simp[f184],_,or_eval l hp,zG _⟩
theorem Y7 (l:List Int) (hp:Hp) (nx id:Nat) (e:Nat) (h:l.length≤lim) (hh:hp id=some ⟨e,1,true,encN l⟩):zd false [] FOr [.own id 0 l.length] hp nx=some (int (orL l),hp,nx):=by
 have ht:(encN l).take l.length=encN l:=List.take_of_length_le (by simp)
 refine zy (show zj hp [.own id 0 l.length]=some ([.sl 1 (encN l)],upd hp id none) by simp[hh,ht]) ?_ (.inl rfl)
 exact zm (enc:=fun l:List Int=>[PV.sl 1 (encN l)]) (a:=l) (fun a b e=>by simp only[List.cons.injEq,and_true] at e;injection e with _ e;exact encN_inj e) h
def jN (l:List UInt8):Bool:=!l.isEmpty&&digs l
noncomputable def z7 (a b:List UInt8):Int:=if jN a=true then (if jN b=true then orL [cmpI (Lib.trimLeftB a 48).length (Lib.trimLeftB b 48).length,cmpB (Lib.trimLeftB a 48) (Lib.trimLeftB b 48)] else -1) else if jN b=true then 1 else cmpB a b
noncomputable abbrev Ccp:Ctx:=zF prog [(335,zd false [] (FS digs)),(264,zd false [] (FTT tlP fun _ b=>one7 b)),(131,zd false [] (F2I cmpI)),(98,zd false [] (F2S cmpB)),(184,zd false [] FOr)]
theorem goodcp:AM.Good Ccp (fun g=>[335].contains g):=zk mixed ⟨km,fun _=>zh _ _,kR,by simp,jV,by simp,wO,by simp,QB,by simp,trivial⟩
@[simp] theorem quietcp:wn Ccp 335:=qm (by rfl) (zh _ _)
theorem Vo (a:List UInt8) (hp:Hp) (nx:Nat) (h:a.length≤lim):zd false [] (FTT tlP fun _ b=>one7 b) [str a,str [48]] hp nx=some (str (Lib.trimLeftB a 48),hp,nx):=jj _ _ a [48] hp nx h (by decide) ⟨48,rfl,by decide⟩ rfl
theorem comparePre_eval (a b:List UInt8) (ha:a.length≤lim) (hb:b.length≤lim):zi Ccp f311 [str a,str b]=some (int (z7 a b)):=by
 refine zb rfl ?_
 have da:=fun hp nx=>wV digs a hp nx ha
 have db:=fun hp nx=>wV digs b hp nx hb
 have ta:=fun hp nx=>Vo a hp nx ha
 have tb:=fun hp nx=>Vo b hp nx hb
 have ea:(!a.isEmpty&&digs a)=jN a:=rfl
 have eb:(!b.isEmpty&&digs b)=jN b:=rfl
 cases h1:jN a<;>cases h2:jN b
 ·simp[da,db,ea,eb,h1,h2,z7,f311]
 ·simp[da,db,ea,eb,h1,h2,z7,f311]
 ·simp[da,db,ea,eb,h1,h2,z7,f311]
 ·have ho:∀(hp:Hp) (nx id:Nat),hp id=some ⟨3,1,true,[[int (cmpI (Lib.trimLeftB a 48).length (Lib.trimLeftB b 48).length)],[int (cmpB (Lib.trimLeftB a 48) (Lib.trimLeftB b 48))]]⟩→zd false [] FOr [.own id 0 2] hp nx=some (int (orL [cmpI (Lib.trimLeftB a 48).length (Lib.trimLeftB b 48).length,cmpB (Lib.trimLeftB a 48) (Lib.trimLeftB b 48)]),hp,nx):=fun hp nx id hh=>Y7 [_,_] hp nx id _ (by show 2≤lim;decide) hh
  simp[da,db,ta,tb,ea,eb,h1,h2,ho,zf,zn,zg,z7,f311]
theorem comparePre_sound:za prog 311 (zd false [] (FTT (fun a b=>int (z7 a b)) fun _ _=>True)) :=
 zI (fn:=f311) goodcp ⟨_,func311,by kernel_rfl,rfl,by kernel_rfl⟩ false [] _ fun args r h=>by
  obtain⟨a,b,rfl,h1,h2,_,rfl⟩:=yO h
  exact⟨by simp[f311],_,comparePre_eval a b h1 h2,zG _⟩
theorem Xv (a b:List UInt8) (hp:Hp) (nx:Nat) (h:a.length≤lim) (h2:b.length≤lim):zd false [] (FTT (fun a b=>int (z7 a b)) fun _ _=>True) [str a,str b] hp nx=some (int (z7 a b),hp,nx):=jj _ _ a b hp nx h h2 trivial rfl
def lexL {α:Type} (c:α→α→Int):List α→List α→Int
 | [],[]=>0
 | [],_::_=>-1
 | _::_,[]=>1
 | x::a,y::b=>if c x y=0 then lexL c a b else c x y
noncomputable abbrev Ccf:Ctx:=zF prog [(311,zd false [] (FTT (fun a b=>int (z7 a b)) fun _ _=>True))]
theorem goodcf:AM.Good Ccf (fun g=>([]:List Nat).contains g):=zk mixed ⟨comparePre_sound,by simp,trivial⟩
def yx (l:List (List UInt8)):Prop:=l.length≤lim∧∀p∈l,p.length≤lim
theorem compareFuncT_eval (a b:List (List UInt8)) (ha:yx a) (hb:yx b):zi Ccf f310 [.sl 1 (encT a),.sl 1 (encT b),.fn (.func 311) [] []]=some (int (lexL z7 a b)):=by
 refine zb rfl ?_
 obtain⟨ha,hap⟩:=ha
 obtain⟨hb,hbp⟩:=hb
 unfold lim at ha hb
 simp
 refine zq (fun k σ hp nx=>σ 0=.sl 1 (encT a)∧σ 1=.sl 1 (encT b)∧σ 2=.fn (.func 311) [] []∧σ 11=.sl 1 (encT a)∧σ 12=int a.length∧σ 13=int k∧k≤b.length∧lexL z7 a b=lexL z7 (a.drop k) (b.drop k)) a.length
  ⟨by simp,by simp,by simp,by simp,by simp,by simp,by simp,by simp⟩ ?_
 rintro k σ hp nx hk ⟨h0,h1,h2,h11,h12,h13,hkb,he⟩
 by_cases hlt:k<a.length
 ·have hw:IntKind.i64.wrap ((k:Int)+1)=(k:Int)+1:=zc (by omega) (by omega)
  by_cases hltb:k<b.length
  ·have hltb':¬b.length≤k:=by omega
   have hc:=fun hp nx=>Xv a[k] b[k] hp nx (hap _ (List.getElem_mem hlt)) (hbp _ (List.getElem_mem hltb))
   rw[List.drop_eq_getElem_cons hlt,List.drop_eq_getElem_cons hltb] at he
   simp only[lexL] at he
   by_cases hz:z7 a[k] b[k]=0
   ·rw[if_pos hz] at he
    simp[h0,h1,h2,h11,h12,h13,hlt,hltb,hltb',hc,hz,hw]
    exact⟨hlt,by omega,he⟩
   ·rw[if_neg hz] at he
    have hz':(z7 a[k] b[k] != 0)=true:=by simpa using hz
    simp[h0,h1,h2,h11,h12,h13,hlt,hltb,hltb',hc,hz',he,f310]
  ·obtain rfl:k=b.length:=by omega
   rw[List.drop_eq_getElem_cons hlt,List.drop_length] at he
   simp only[lexL] at he
   simp[h0,h1,h2,h11,h12,h13,hlt,he,f310]
 ·obtain rfl:k=a.length:=by omega
  rw[List.drop_length] at he
  by_cases hl:a.length<b.length
  ·rw[List.drop_eq_getElem_cons hl] at he
   simp only[lexL] at he
   simp[h0,h1,h2,h11,h12,h13,hl,he,f310]
  ·rw[List.drop_of_length_le (by omega)] at he
   simp only[lexL] at he
   have hl':¬((a.length:Int)<b.length):=by omega
   simp[h0,h1,h2,h11,h12,h13,hl,he,f310]
noncomputable def FCf:List PV→Option PV:=zH (α:=List (List UInt8)×List (List UInt8)) (fun a=>[.sl 1 (encT a.1),.sl 1 (encT a.2),.fn (.func 311) [] []]) (fun a=>yx a.1∧yx a.2) (fun a=>int (lexL z7 a.1 a.2))
theorem cf_inj:∀a b:List (List UInt8)×List (List UInt8),[PV.sl 1 (encT a.1),.sl 1 (encT a.2),.fn (.func 311) [] []]=[.sl 1 (encT b.1),.sl 1 (encT b.2),.fn (.func 311) [] []]→a=b:=by
 rintro⟨a1,a2⟩ ⟨b1,b2⟩ e
 simp only[List.cons.injEq,and_true] at e
 obtain⟨e1,e2⟩:=e
 injection e1 with _ e1
 injection e2 with _ e2
 rw[yk e1,yk e2]
theorem compareFuncT_sound:za prog 310 (zd false [] FCf) :=
 zI (fn:=f310) goodcf ⟨_,func310,by kernel_rfl,rfl,by kernel_rfl⟩ false [] _ fun args r h=>by
  obtain⟨⟨a,b⟩,rfl,⟨h1,h2⟩,rfl⟩:=ze h
  exact⟨by simp[f310],_,compareFuncT_eval a b h1 h2,zG _⟩
theorem cf_call (a b:List (List UInt8)) (hp:Hp) (nx:Nat) (h1:yx a) (h2:yx b):zd false [] FCf [.sl 1 (encT a),.sl 1 (encT b),.fn (.func 311) [] []] hp nx=some (int (lexL z7 a b),hp,nx) :=
 zy (hp1:=hp) (by simp) (zm (enc:=fun a:List (List UInt8)×List (List UInt8)=>[PV.sl 1 (encT a.1),.sl 1 (encT a.2),.fn (.func 311) [] []]) (a:=(a,b)) cf_inj ⟨h1,h2⟩) (.inl rfl)
noncomputable def cmpV (v w:Ver):Int:=if orL [cmpI v.a w.a,cmpI v.b w.b,cmpI v.c w.c]=0 then (if v.pre.length=0 then (if w.pre.length=0 then 0 else 1) else if w.pre.length=0 then -1 else lexL z7 v.pre w.pre) else orL [cmpI v.a w.a,cmpI v.b w.b,cmpI v.c w.c]
noncomputable abbrev Ccv:Ctx:=zF prog [(131,zd false [] (F2I cmpI)),(184,zd false [] FOr),(310,zd false [] FCf)]
theorem goodcv:AM.Good Ccv (fun g=>[131,184].contains g):=zk mixed ⟨jV,fun _=>zh _ _,QB,fun _=>zh _ _,compareFuncT_sound,by simp,trivial⟩
theorem compareVersions_eval (v w:Ver) (hv:v.small) (hw:w.small):zi Ccv f257 [.agg v.enc,.agg w.enc]=some (int (cmpV v w)):=by
 obtain⟨a,b,c,p⟩:=v
 obtain⟨a',b',c',p'⟩:=w
 refine zb rfl ?_
 have hcf:=fun hp nx=>cf_call p p' hp nx hv hw
 obtain⟨o,ho⟩:∃o,orL [cmpI a a',cmpI b b',cmpI c c']=o:=⟨_,rfl⟩
 have hor:∀(hp:Hp) (nx id:Nat),hp id=some ⟨3,1,true,[[int (cmpI a a')],[int (cmpI b b')],[int (cmpI c c')]]⟩→zd false [] FOr [.own id 0 3] hp nx=some (int o,hp,nx):=fun hp nx id hh=>ho ▸ Y7 [_,_,_] hp nx id _ (by show 3≤lim;decide) hh
 have hval:cmpV ⟨a,b,c,p⟩ ⟨a',b',c',p'⟩=if o=0 then (if p.length=0 then (if p'.length=0 then 0 else 1) else if p'.length=0 then -1 else lexL z7 p p') else o:=by rw[←ho];rfl
 rw[hval]
 by_cases h1:o=0
 ·subst h1
  by_cases h2:p.length=0<;>by_cases h3:p'.length=0
  ·simp[Ver.enc,hor,zf,zn,zg,h2,h3,f257]
  ·have h3':((p'.length:Int)==0)=false:=by simpa using h3
   simp[Ver.enc,hor,zf,zn,zg,h2,h3,h3',f257]
  ·have h2':((p.length:Int)==0)=false:=by simpa using h2
   simp[Ver.enc,hor,zf,zn,zg,h2,h3,h2',f257]
  ·have h2':((p.length:Int)==0)=false:=by simpa using h2
   have h3':((p'.length:Int)==0)=false:=by simpa using h3
   simp[Ver.enc,hor,zf,zn,zg,h2,h3,h2',h3',hcf,f257]
 ·have h1':(o != 0)=true:=by simpa using h1
  simp[Ver.enc,hor,zf,zn,zg,h1,h1',f257]
noncomputable def FVV2 (f:Ver→Ver→PV):List PV→Option PV:=zH (α:=Ver×Ver) (fun a=>[.agg a.1.enc,.agg a.2.enc]) (fun a=>a.1.small∧a.2.small) (fun a=>f a.1 a.2)
theorem vv_inj:∀a b:Ver×Ver,[PV.agg a.1.enc,.agg a.2.enc]=[.agg b.1.enc,.agg b.2.enc]→a=b:=by
 rintro⟨a1,a2⟩ ⟨b1,b2⟩ e
 simp only[List.cons.injEq,and_true] at e
 obtain⟨e1,e2⟩:=e
 injection e1 with e1
 injection e2 with e2
 rw[Zf e1,Zf e2]
theorem compareVersions_sound:za prog 257 (zJ [.g vpat,.g vpat] (FVV2 fun v w=>int (cmpV v w))) :=
 zX (fn:=f257) goodcv ⟨_,func257,by kernel_rfl,rfl,by kernel_rfl⟩ _ _ fun args r h=>by
  obtain⟨⟨v,w⟩,rfl,⟨h1,h2⟩,rfl⟩:=ze h
  exact⟨by simp[f257],_,compareVersions_eval v w h1 h2,Stands.refl _⟩
theorem zcW (v w:Ver) (hp:Hp) (nx:Nat) (h1:v.small) (h2:w.small):zJ [.g vpat,.g vpat] (FVV2 fun v w=>int (cmpV v w)) [.agg v.enc,.agg w.enc] hp nx=some (int (cmpV v w),hp,nx) :=
 yi (show zj hp [.agg v.enc,.agg w.enc]=some ([.agg v.enc,.agg w.enc],hp) by simp[Ver.enc]) (zm (enc:=fun a:Ver×Ver=>[PV.agg a.1.enc,.agg a.2.enc]) (a:=(v,w)) vv_inj ⟨h1,h2⟩) (.inl rfl)
structure Cut where
 v:Ver
 after:Bool
def Cut.enc (c:Cut):List PV:=[int c.v.a,int c.v.b,int c.v.c,.sl 1 (encT c.v.pre),boo c.after]
abbrev cpat:List (Option Nat):=[none,none,none,some 1,none]
theorem ko {a b:Cut} (h:a.enc=b.enc):a=b:=by
 obtain⟨⟨a1,a2,a3,a4⟩,a5⟩:=a
 obtain⟨⟨b1,b2,b3,b4⟩,b5⟩:=b
 simp only[Cut.enc,List.cons.injEq,and_true] at h
 obtain⟨h1,h2,h3,h4,h5⟩:=h
 injection h4 with _ h4
 rw[zB h1,zB h2,zB h3,yk h4,kg h5]
noncomputable def cmpC (a b:Cut):Int:=if cmpV a.v b.v=0 then (if a.after=b.after then 0 else if b.after=true then -1 else 1) else cmpV a.v b.v
noncomputable def FCC (f:Cut→Cut→PV):List PV→Option PV:=zH (α:=Cut×Cut) (fun a=>[.agg a.1.enc,.agg a.2.enc]) (fun a=>a.1.v.small∧a.2.v.small) (fun a=>f a.1 a.2)
theorem zdN:∀a b:Cut×Cut,[PV.agg a.1.enc,.agg a.2.enc]=[.agg b.1.enc,.agg b.2.enc]→a=b:=by
 rintro⟨a1,a2⟩ ⟨b1,b2⟩ e
 simp only[List.cons.injEq,and_true] at e
 obtain⟨e1,e2⟩:=e
 injection e1 with e1
 injection e2 with e2
 rw[ko e1,ko e2]
noncomputable abbrev Ccu:Ctx:=zF prog [(257,zJ [.g vpat,.g vpat] (FVV2 fun v w=>int (cmpV v w)))]
theorem goodcu:AM.Good Ccu (fun g=>([]:List Nat).contains g):=zk mixed ⟨compareVersions_sound,by simp,trivial⟩
theorem compareCuts_eval (x y:Cut) (hx:x.v.small) (hy:y.v.small):zi Ccu f197 [.agg x.enc,.agg y.enc]=some (int (cmpC x y)):=by
 obtain⟨⟨a,b,c,p⟩,f⟩:=x
 obtain⟨⟨a',b',c',p'⟩,f'⟩:=y
 refine zb rfl ?_
 have hcv:=fun hp nx=>zcW ⟨a,b,c,p⟩ ⟨a',b',c',p'⟩ hp nx hx hy
 simp only[Ver.enc] at hcv
 by_cases h1:cmpV ⟨a,b,c,p⟩ ⟨a',b',c',p'⟩=0
 ·cases f<;>cases f'<;>simp[Cut.enc,hcv,h1,cmpC,f197]
 ·have h1':(cmpV ⟨a,b,c,p⟩ ⟨a',b',c',p'⟩ != 0)=true:=by simpa using h1
  simp[Cut.enc,hcv,h1,h1',cmpC,f197]
theorem jc:za prog 197 (zJ [.g cpat,.g cpat] (FCC fun v w=>int (cmpC v w))) :=
 zX (fn:=f197) goodcu ⟨_,func197,by kernel_rfl,rfl,by kernel_rfl⟩ _ _ fun args r h=>by
  obtain⟨⟨v,w⟩,rfl,⟨h1,h2⟩,rfl⟩:=ze h
  exact⟨by simp[f197],_,compareCuts_eval v w h1 h2,Stands.refl _⟩
theorem zaw (x y:Cut) (u v:PV) (hp:Hp) (nx:Nat) (hu:(Sh.g cpat).fix u=.agg x.enc) (hv:(Sh.g cpat).fix v=.agg y.enc) (hf:zj hp [u,v]=some ([u,v],hp)) (h1:x.v.small) (h2:y.v.small):zJ [.g cpat,.g cpat] (FCC fun v w=>int (cmpC v w)) [u,v] hp nx=some (int (cmpC x y),hp,nx) :=
 yi hf (by
  show FCC _ [(Sh.g cpat).fix u,(Sh.g cpat).fix v]=_
  rw[hu,hv]
  exact zm (enc:=fun a:Cut×Cut=>[PV.agg a.1.enc,.agg a.2.enc]) (a:=(x,y)) zdN ⟨h1,h2⟩) (.inl rfl)
end Go.Proofs.YtdkfdoeijcfbhaaGreatDoor
