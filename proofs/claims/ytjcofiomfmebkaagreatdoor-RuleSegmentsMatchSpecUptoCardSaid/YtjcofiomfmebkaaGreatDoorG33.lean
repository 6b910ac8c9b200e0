/-
In: the code's and the reference's.
-/
import Derived.Test.YtjcofiomfmebkaaGreatDoorG32
import Derived.Test.YtjcofiomfmebkaaGreatDoorG4
import Derived.Test.YtjcofiomfmebkaaGreatDoorG9
set_option maxRecDepth 8000
namespace Go.Proofs.YtjcofiomfmebkaaGreatDoor
open Go.Proofs.Tryz
open Go.RowKit Go.AM
noncomputable def inF (l:List Sgm) (n:List UInt8) (x:Ctxt):Bool×Int:=if yc l=0 then (if jz l n=true then (if x.fault=0 then (mF l x (kv l n),0) else (false,x.fault)) else (false,9)) else (false,yc l)
noncomputable def inP (l:List Sgm) (n:List UInt8) (x:Ctxt):PV:=.tup [boo (inF l n x).1,int (inF l n x).2]
noncomputable def zuo:List PV→Option PV:=zJ (α:=List Sgm×List UInt8×Ctxt) (fun a=>[.sl 10 (a.1.map Sgm.enc),str a.2.1,.agg a.2.2.enc]) (fun a=>2*sgb a.1≤lim∧a.2.2.cb+2≤lim) fun a=>inP a.1 a.2.1 a.2.2
noncomputable def zvC:List PV→Option PV:=zJ (α:=List Sgm) (fun l=>[.sl 10 (l.map Sgm.enc)]) (fun l=>2*sgb l≤lim) fun l=>int (yc l)
theorem zeL (l:List Sgm) (hp:Hp) (nx:Nat) (h:2*sgb l≤lim):zd false [] zvC [.sl 10 (l.map Sgm.enc)] hp nx=some (int (yc l),hp,nx) :=
 zH (hp1:=hp) (show zj hp [.sl 10 (l.map Sgm.enc)]=some ([.sl 10 (l.map Sgm.enc)],hp) by simp) (zm (enc:=fun l:List Sgm=>[PV.sl 10 (l.map Sgm.enc)]) (a:=l) (fun a b e=>by
  simp only[List.cons.injEq,and_true] at e
  exact kn e) h) (.inl rfl)
noncomputable abbrev zup:Ctx:=zC prog [(7,zd false [] zvC),(12,zd false [] (zr4 (fun l s=>ZO (qy s l)) fun l _=>l.length≤lim)),(13,zd false [] (FX fun x=>int x.fault)),(14,zd false [] (FIn 101))]
theorem zpS (l:List Sgm) (n:List UInt8) (x:Ctxt) (h:2*sgb l≤lim) (hx:x.cb+2≤lim):zg zup Tryz.f5 [.sl 10 (l.map Sgm.enc),str n,.agg x.enc]=some (inP l n x):=by
 have hlen:=xH l
 have hlim:lim=2097152:=rfl
 refine zb rfl ?_
 have g1:=fun hp nx=>zeL l hp nx h
 unfold inP
 by_cases c1:yc l=0
 case neg =>
  have c1':(yc l != 0)=true:=by simpa using c1
  have hv:inF l n x=(false,yc l):=by unfold inF;rw[if_neg c1]
  rw[hv]
  simp[Ctxt.enc,g1,c1',qe,Tryz.f5]
 have hok:=zml c1
 rw[c1] at g1
 have gs:=fun hp nx=>WZ (fun l s=>ZO (qy s l)) (fun l _=>l.length≤lim) l n hp nx (by omega)
 rcases YQ hok.up n with⟨h5,hj,hf,hnj⟩ | ⟨h5,hf⟩
 case inr =>
  have hv:inF l n x=(false,9):=by unfold inF;rw[if_pos c1,if_neg (by rw[h5];simp)]
  rw[hv]
  have hst:ZO (qy n l)=.tup [.agg zeroSg.enc,boo false]:=by rw[hf];rfl
  simp only[hst] at gs
  simp[Ctxt.enc,g1,gs,qe,Tryz.f5]
 obtain⟨s,hs⟩:∃s,l[kv l n]=s:=⟨_,rfl⟩
 rw[hs] at hf hnj
 have hst:ZO (qy n l)=.tup [.agg s.enc,boo true]:=by rw[hf];rfl
 simp only[hst] at gs
 have g2:=fun hp nx=>zmi (fun x=>int x.fault) x hp nx (by omega)
 simp only[Ctxt.enc] at g2
 by_cases c2:x.fault=0
 case neg =>
  have c2':(x.fault != 0)=true:=by simpa using c2
  have hv:inF l n x=(false,x.fault):=by unfold inF;rw[if_pos c1,if_pos h5,if_neg c2]
  rw[hv]
  simp[Ctxt.enc,g1,gs,g2,c2',qe,Tryz.f5]
 have hv:inF l n x=(mF l x (kv l n),0):=by unfold inF;rw[if_pos c1,if_pos h5,if_pos c2]
 have hrk:=zmm hok (kv l n)
 have g3:=fun hp nx=>zif (m:=101) (l:=l) (s:=s) (x:=x) ⟨⟨hok,by omega,hx,c2⟩,kv l n,by rw[List.getElem?_eq_getElem hj,hs],by omega⟩ hp nx
 rw[hnj] at g3
 simp only[Ctxt.enc] at g3
 rw[hv]
 simp[Ctxt.enc,g1,gs,g2,c2,g3,qe,Tryz.f5]
theorem zni:za prog 5 (zd false [] zuo) :=
 zL (fn:=Tryz.f5) (C:=zup) (zk (q:=[]) mixed ⟨jX,by simp,yP,by simp,Vp,by simp,zgQ 101,by simp,trivial⟩) ⟨_,func5,by kernel_rfl,rfl,by kernel_rfl⟩ false [] _ fun args r h=>by
  obtain⟨⟨l,n,x⟩,rfl,⟨h1,h2⟩,rfl⟩:=ze h
  exact⟨by simp[Tryz.f5],_,zpS l n x h1 h2,zK _⟩
noncomputable abbrev zwJ:Ctx:=zC prog [(6,zd false [] (FSs fun l=>int (yc l))),(8,zd false [] zec),(9,zd false [] (FX fun x=>int x.fault)),(10,zuQ),(11,zsj 101)]
theorem zsx (l:List Sgm) (n:List UInt8) (x:Ctxt) (h:2*sgb l≤lim) (hx:x.cb+2≤lim):zg zwJ Tryz.f4 [.sl 10 (l.map Sgm.enc),str n,.agg x.enc]=some (inP l n x):=by
 have hlen:=xH l
 have hlim:lim=2097152:=rfl
 refine zb rfl ?_
 have g1:=fun hp nx=>zh4 (fun l=>int (yc l)) l hp nx (by omega) rfl
 unfold inP
 by_cases c1:yc l=0
 case neg =>
  have c1':(yc l != 0)=true:=by simpa using c1
  have hv:inF l n x=(false,yc l):=by unfold inF;rw[if_neg c1]
  rw[hv]
  simp[Ctxt.enc,g1,c1',qe,Tryz.f4]
 have hok:=zml c1
 rw[c1] at g1
 have gs:∀hp nx,zd false [] zec [.sl 10 (l.map Sgm.enc),str n] hp nx=some (.tup [int (kv l n),boo (jz l n)],hp,nx):=fun hp nx=>Z5 l n hp nx (by omega)
 cases h5:jz l n
 case false =>
  have hv:inF l n x=(false,9):=by unfold inF;rw[if_pos c1,if_neg (by rw[h5];simp)]
  rw[hv]
  rw[h5] at gs
  simp[Ctxt.enc,g1,gs,qe,Tryz.f4]
 rw[h5] at gs
 have g2:=fun hp nx=>zmi (fun x=>int x.fault) x hp nx (by omega)
 simp only[Ctxt.enc] at g2
 by_cases c2:x.fault=0
 case neg =>
  have c2':(x.fault != 0)=true:=by simpa using c2
  have hv:inF l n x=(false,x.fault):=by unfold inF;rw[if_pos c1,if_pos h5,if_neg c2]
  rw[hv]
  simp[Ctxt.enc,g1,gs,g2,c2',qe,Tryz.f4]
 have hv:inF l n x=(mF l x (kv l n),0):=by unfold inF;rw[if_pos c1,if_pos h5,if_pos c2]
 have hrk:=zmm hok (kv l n)
 have hask:=zsi l x
 obtain⟨r,hp',nx',e1,rfl,_,_,_⟩:=zm5 (l:=l) (x:=x) (ida:=3) (m:=2) (nx0:=4) (by omega) (by omega) (by omega) hok (by omega) hx 101 (kv l n) (upd (upd (upd (upd (fun _=>none) 0 (some ⟨25,2,false,[x.enc]⟩)) 1 (some ⟨25,2,false,[x.enc]⟩)) 2 (some (zmZ []))) 3 (some (zqt l x 2))) 4 (zhM h5) (by omega) (Nat.le_refl _) ⟨by simp,[],by simp,fun p hp=>by cases hp⟩
 simp only[Ctxt.enc] at hask e1
 rw[hv]
 simp[Ctxt.enc,g1,gs,g2,c2,hask,e1,qe,Tryz.f4]
theorem zpT:za prog 4 (zd false [] zuo) :=
 zL (fn:=Tryz.f4) (C:=zwJ) (zk (q:=[]) mixed ⟨kP,by simp,Z6,by simp,Xx,by simp,zm1,by simp,zm3 101,by simp,trivial⟩) ⟨_,func4,by kernel_rfl,rfl,by kernel_rfl⟩ false [] _ fun args r h=>by
  obtain⟨⟨l,n,x⟩,rfl,⟨h1,h2⟩,rfl⟩:=ze h
  exact⟨by simp[Tryz.f4],_,zsx l n x h1 h2,zK _⟩
theorem znj (l:List Sgm) (n:List UInt8) (x:Ctxt) (hp:Hp) (nx:Nat) (h:2*sgb l≤lim) (h2:x.cb+2≤lim):zd false [] zuo [.sl 10 (l.map Sgm.enc),str n,.agg x.enc] hp nx=some (inP l n x,hp,nx) :=
 zH (hp1:=hp) (show zj hp [.sl 10 (l.map Sgm.enc),str n,.agg x.enc]=some ([.sl 10 (l.map Sgm.enc),str n,.agg x.enc],hp) by simp[Ctxt.enc]) (zm (enc:=fun a:List Sgm×List UInt8×Ctxt=>[PV.sl 10 (a.1.map Sgm.enc),str a.2.1,.agg a.2.2.enc]) (a:=(l,n,x)) (fun a b e=>by
  obtain⟨a1,a2,a3⟩:=a;obtain⟨b1,b2,b3⟩:=b
  simp only[List.cons.injEq,and_true,PV.agg.injEq] at e
  rw[kn e.1,qg e.2.1,Z4 e.2.2]) ⟨h,h2⟩) (.inl rfl)
noncomputable abbrev zvD:Ctx:=zC prog [(4,zd false [] zuo),(5,zd false [] zuo),(6,zd false [] (FSs fun l=>int (yc l))),(7,zd false [] zvC)]
theorem zsy:AM.Good zvD (fun g=>([]:List Nat).contains g):=zk mixed ⟨zpT,by simp,zni,by simp,kP,by simp,jX,by simp,trivial⟩
theorem zpU:xP zvD (fun g=>([]:List Nat).contains g) 3 Tryz.f3:=⟨_,func3,by kernel_rfl,rfl,by kernel_rfl⟩
theorem zsz (l:List Sgm) (n:List UInt8) (x:Ctxt) (h:2*sgb l≤lim) (hx:x.cb+2≤lim):zg zvD Tryz.f3 [.sl 10 (l.map Sgm.enc),str n,.agg x.enc]=some (boo true):=by
 refine zb rfl ?_
 have g1:=fun hp nx=>znj l n x hp nx h hx
 have g2:=fun hp nx=>zh4 (fun l=>int (yc l)) l hp nx (by omega) rfl
 have g3:=fun hp nx=>zeL l hp nx h
 simp only[Ctxt.enc,inP] at g1
 simp[Ctxt.enc,g1,g2,g3,Tryz.f3]
end Go.Proofs.YtjcofiomfmebkaaGreatDoor
namespace Go.AM
open Go.RowKit Go.WideShapes Go.ChangeShapes
def ye {H:Type} (P:Program):Nat→TypeId→DataW H→List PV→Prop
 | 0,_,_,_=>False
 | n+1,t,d,pvs=>match P.underlying t with
   | some .bool=>∃b,d=.lit (.bool b)∧pvs=[.v (.bool b)]
   | some (.int k)=>∃i,d=.lit (.int k i)∧pvs=[.v (.int k i)]∧(Lit.int k i).wf=true
   | some .string=>∃s:ByteArray,d=.lit (.string s.data.toList)∧pvs=[.v (.string s)]∧s.size≤maxLen
   | some (.slice e)=>∃(es:List (List PV)) (ds:List (DataW H)),((d=.nil∧ds=[])∨∃sp,d=.slice ds sp)∧pvs=[.sl (P.cellsOf e) es]∧es.length≤maxLen∧Zip (fun c y=>c.length=P.cellsOf e∧ye P n e y c) es ds
   | some (.struct fs)=>∃ds:List (DataW H),d=.agg ds∧pvs.length=P.cellsOf t∧ds.length=fs.size∧∀(i:Nat) f y,fs[i]?=some f→ds[i]?=some y→ye P n f.type y ((pvs.drop f.offset).take (P.cellsOf f.type))
   | _=>False
section
variable {H:Type} {enc:TypeId×Value→H} {P:Program} {w:World} {sp:Nat→Bool} {held:Bool}
theorem Z9 {T:List TypeId} (hT:zaP P T=true):∀(fuel:Nat) (t:TypeId) (cs:List Value) (d:DataW H) (ps:List MemPlace),t∈T→DataW.trod enc P w 0 sp held fuel t cs=some (d,ps) →
  ∃pvs,Zip (fun pv u=>RepC w (fun b=>b<w.heap.size) pv u∧u.oneCell'=true) pvs cs∧cs.length=P.cellsOf t∧ye P fuel t d pvs
 | 0,t,cs,d,ps,_,h=>by simp[DataW.trod] at h
 | n+1,t,cs,d,ps,ht,h=>by
   have hTt:=List.all_eq_true.1 hT t ht
   have one:∀{pv:PV} {u:Value},RepC w (fun b=>b<w.heap.size) pv u→u.oneCell'=true→Zip (fun pv u=>RepC w (fun b=>b<w.heap.size) pv u∧u.oneCell'=true) [pv] [u]:=fun h1 h2=>.cons ⟨h1,h2⟩ .nil
   split at hTt
   ·rename_i hu
    obtain⟨b,rfl,hx⟩:=DataW.trod_bool hu h
    simp only[Prod.mk.injEq] at hx
    exact⟨[.v (.bool b)],one (.v rfl) rfl,by simpa using (by simpa using hTt:P.cellsOf t=1).symm,by unfold ye;rw[hu];exact⟨b,hx.1,rfl⟩⟩
   ·rename_i k hu
    obtain⟨i,rfl,hx,hwf⟩:=DataW.trod_int hu h
    simp only[Prod.mk.injEq] at hx
    exact⟨[.v (.int k i)],one (.v rfl) rfl,by simpa using (by simpa using hTt:P.cellsOf t=1).symm,by unfold ye;rw[hu];exact⟨i,hx.1,rfl,hwf⟩⟩
   ·rename_i hu
    obtain⟨s,rfl,hx,hs⟩:=DataW.trod_string hu h
    simp only[Prod.mk.injEq] at hx
    exact⟨[.v (.string s)],one (.v rfl) rfl,by simpa using (by simpa using hTt:P.cellsOf t=1).symm,by unfold ye;rw[hu];exact⟨s,hx.1,rfl,hs⟩⟩
   ·rename_i e hu
    simp only[Bool.and_eq_true,beq_iff_eq,decide_eq_true_eq,List.contains_iff_mem] at hTt
    obtain⟨⟨hc1,heT⟩,hce⟩:=hTt
    rcases DataW.trod_slice hu h with⟨rfl,hx⟩ | ⟨a,len,cap,elems,rest,m,hm,rfl,hx,_,hlc,hcm,hel,hget,_,_⟩
    ·simp only[Prod.mk.injEq] at hx
     refine⟨[.sl (P.cellsOf e) []],one ?_ rfl,by simp[hc1],by unfold ye;rw[hu];exact⟨[],[],.inl ⟨hx.1,rfl⟩,rfl,by simp,.nil⟩⟩
     exact RepC.sl (es:=[]) (s:=P.cellsOf e) (fun _ _=>undef) (by simp) (by simp) (by simp[maxLen]) (by simp) (by simp) (by simp)
    ·obtain rfl:m=n:=by omega
     simp only[Prod.mk.injEq] at hx
     have hel':∀i (hi:i<len),∃cs',w.cells? 0 (a.add (i*P.cellsOf e)) (P.cellsOf e)=some cs'∧DataW.trod enc P w 0 sp held m e cs'=some (elems[i]'(by omega)):=by
      intro i hi
      have h1:=hget i hi
      have h2:elems[i]?=some (elems[i]'(by omega)):=List.getElem?_eq_getElem (by omega)
      rw[h2] at h1
      cases hc:w.cells? 0 (a.add (i*P.cellsOf e)) (P.cellsOf e) with
      | none=>simp[hc] at h1
      | some cs'=>exact⟨cs',rfl,by simpa[hc] using h1⟩
     have hch:∀i,∃q:List Value×List PV,∀hi:i<len,w.cells? 0 (a.add (i*P.cellsOf e)) (P.cellsOf e)=some q.1∧Zip (fun pv u=>RepC w (fun b=>b<w.heap.size) pv u∧u.oneCell'=true) q.2 q.1∧q.1.length=P.cellsOf e∧ye P m e (elems[i]'(by omega)).1 q.2:=by
      intro i
      by_cases hi:i<len
      ·obtain⟨cs',g1,g3⟩:=hel' i hi
       obtain⟨pvs,q1,q2,q3⟩:=Z9 hT m e cs' (elems[i]'(by omega)).1 (elems[i]'(by omega)).2 heT (by rw[g3])
       exact⟨(cs',pvs),fun _=>⟨g1,q1,q2,q3⟩⟩
      ·exact⟨([],[]),fun h=>absurd h hi⟩
     let q:Nat→List Value×List PV:=fun i=>Classical.choose (hch i)
     have hq:∀i (hi:i<len),w.cells? 0 (a.add (i*P.cellsOf e)) (P.cellsOf e)=some (q i).1∧Zip (fun pv u=>RepC w (fun b=>b<w.heap.size) pv u∧u.oneCell'=true) (q i).2 (q i).1∧(q i).1.length=P.cellsOf e∧ye P m e (elems[i]'(by omega)).1 (q i).2:=fun i=>Classical.choose_spec (hch i)
     have hlen:((List.range len).map fun i=>(q i).2).length=len:=by simp
     have hgi:∀(i:Nat) (c:List PV),((List.range len).map fun i=>(q i).2)[i]?=some c→i<len∧c=(q i).2:=by
      intro i c hi
      have hil:i<len:=by have:=(List.getElem?_eq_some_iff.1 hi).1;simpa using this
      rw[List.getElem?_map,List.getElem?_range hil] at hi
      simp at hi
      exact⟨hil,hi.symm⟩
     have key:RepC w (fun b=>b<w.heap.size) (.sl (P.cellsOf e) ((List.range len).map fun i=>(q i).2)) (.slice (some a) ((List.range len).map fun i=>(q i).2).length cap):=by
      refine .sl (fun i j=>((q i).1[j]?).getD undef) (by simp) (by rw[hlen];exact hlc) hcm (fun c hc=>?_) (fun i j c pv hi hj=>?_) (fun i j c pv hi hj=>?_)
      ·obtain⟨i,hi,rfl⟩:=List.mem_map.1 hc
       have h1:=hq i (List.mem_range.1 hi)
       rw[h1.2.1.1,h1.2.2.1]
      ·obtain⟨hil,rfl⟩:=hgi i c hi
       obtain⟨g1,g2,g3,_⟩:=hq i hil
       have hjl:j<(q i).1.length:=by rw[←g2.1];exact (List.getElem?_eq_some_iff.1 hj).1
       have hju:(q i).1[j]?=some ((q i).1[j]):=List.getElem?_eq_getElem hjl
       obtain⟨_,g5,g6⟩:=World.cells?_some g1
       have hcell:=g6 j (by omega)
       rw[J3] at hcell
       rw[hju] at hcell
       refine⟨a,rfl,?_,?_,?_⟩
       ·have:=block_lt_of_cell hcell
        rwa [kw] at this
       ·rw[hcell,hju];rfl
       ·rw[hju];exact (g2.2 j pv _ hj hju).2
      ·obtain⟨hil,rfl⟩:=hgi i c hi
       obtain⟨g1,g2,g3,_⟩:=hq i hil
       have hjl:j<(q i).1.length:=by rw[←g2.1];exact (List.getElem?_eq_some_iff.1 hj).1
       have hju:(q i).1[j]?=some ((q i).1[j]):=List.getElem?_eq_getElem hjl
       rw[hju]
       exact (g2.2 j pv _ hj hju).1
     rw[hlen] at key
     refine⟨[.sl (P.cellsOf e) ((List.range len).map fun i=>(q i).2)],one key rfl,by simp[hc1],?_⟩
     unfold ye
     rw[hu]
     refine⟨_,elems.map (·.1),.inr ⟨_,hx.1⟩,rfl,by rw[hlen];omega,by rw[hlen,List.length_map,hel],fun i c y hi hy=>?_⟩
     obtain⟨hil,rfl⟩:=hgi i c hi
     have h1:=hq i hil
     rw[List.getElem?_map,List.getElem?_eq_getElem (by omega)] at hy
     simp only[Option.map_some,Option.some.injEq] at hy
     subst hy
     exact⟨by rw[h1.2.1.1,h1.2.2.1],h1.2.2.2⟩
   ·rename_i fs hu
    simp only[Bool.and_eq_true,beq_iff_eq,List.all_eq_true,List.contains_iff_mem] at hTt
    obtain⟨htile,hfT⟩:=hTt
    obtain⟨xs,m,hm,hx,hcl,hxl,hf⟩:=DataW.trod_struct hu h
    obtain rfl:m=n:=by omega
    simp only[Prod.mk.injEq] at hx
    obtain⟨pvs,g1,g2,g3⟩:=zcO (P:=P) (R:=fun pv u=>RepC w (fun b=>b<w.heap.size) pv u∧u.oneCell'=true) (Q:=fun f pvs=>∀(i:Nat) y,fs[i]?=some f→(xs.map (·.1))[i]?=some y→ye P m f.type y pvs) fs.toList 0 (P.cellsOf t) cs htile hcl (fun f hfm=>by
     obtain⟨i,hi⟩:=List.getElem?_of_mem hfm
     have hfi:=hf i f (by simpa using hi)
     have hil:i<xs.length:=by rw[hxl];have:=(List.getElem?_eq_some_iff.1 hi).1;simpa using this
     rw[List.getElem?_eq_getElem hil] at hfi
     obtain⟨pvs,q1,_,q3⟩:=Z9 hT m f.type _ (xs[i]).1 (xs[i]).2 (hfT f hfm) hfi
     refine⟨pvs,q1,fun k y hk hy=>?_⟩
     have hfk:=hf k f hk
     rw[hfi] at hfk
     rw[List.getElem?_map,←hfk] at hy
     simp only[Option.map_some,Option.some.injEq] at hy
     subst hy
     exact q3)
    refine⟨pvs,⟨by omega,fun j pv u hj hu'=>g2 j pv u hj (by simpa using hu')⟩,hcl,?_⟩
    unfold ye
    rw[hu]
    refine⟨xs.map (·.1),hx.1,by omega,by rw[List.length_map,hxl],fun i f y hi hy=>?_⟩
    have hfm:f∈fs.toList:=by
     have:fs.toList[i]?=some f:=by simpa using hi
     exact List.mem_of_getElem? this
    have:=(g3 f hfm).2 i y hi hy
    simpa using this
   ·cases hTt
theorem zkc {T:List TypeId} (hT:zaP P T=true) {t:TypeId} {v:Value} {d:DataW H} {ps:List MemPlace} {r:Reach} {base:Nat} {fs:Array Field} (ht:t∈T) (hu:P.underlying t=some (.struct fs)) (hv:Value.okWide P w r base t v) (h:DataW.Trod enc P w 0 sp held t v d ps) :
  ∃(n:Nat) (pvs:List PV),ye P n t d pvs∧RepC w (fun b=>b<w.heap.size) (.agg pvs) v:=by
 obtain⟨n,hn⟩:=h
 obtain⟨pvs,h1,h2,h3⟩:=Z9 hT n t v.cells.toList d ps ht hn
 obtain⟨cs,rfl,hsz⟩:=okWide_struct hu hv
 exact⟨n,pvs,h3,.agg (by have:=h1.1;simpa[Value.cells] using this) (fun j pv u hj hu'=>(h1.2 j pv u hj (by simpa[Value.cells] using hu')).1)⟩
theorem zig {T:List TypeId} (hT:zaP P T=true) {t:TypeId} {v:Value} {d:DataW H} {ps:List MemPlace} {r:Reach} {base:Nat} (ht:t∈T) (hu:¬∃fs,P.underlying t=some (.struct fs)) (hv:Value.okWide P w r base t v) (h:DataW.Trod enc P w 0 sp held t v d ps) :
  ∃(n:Nat) (p:PV),ye P n t d [p]∧RepC w (fun b=>b<w.heap.size) p v:=by
 obtain⟨n,hn⟩:=h
 obtain⟨pvs,h1,h2,h3⟩:=Z9 hT n t v.cells.toList d ps ht hn
 have hTt:=List.all_eq_true.1 hT t ht
 have hc1:P.cellsOf t=1:=by
  split at hTt
  ·simpa using hTt
  ·simpa using hTt
  ·simpa using hTt
  ·simp only[Bool.and_eq_true,beq_iff_eq] at hTt;exact hTt.1.1
  ·rename_i fs hun;exact absurd ⟨fs,hun⟩ hu
  ·cases hTt
 rw[hc1] at h2
 match pvs,h1,h3 with
 | [],h1,h3=>have:=h1.1;rw[h2] at this;simp at this
 | p::q::l,h1,h3=>have:=h1.1;rw[h2] at this;simp at this
 | [p],h1,h3 =>
   obtain⟨u,hu',hr,ho⟩:=xq h1
   have hvu:v=u:=by
    cases v with
    | agg cs =>
      exfalso
      split at hTt
      ·rename_i hun;simp[Value.okWide,hun,Cell.okWide,Cell.ok] at hv
      ·rename_i hun;simp[Value.okWide,hun,Cell.okWide,Cell.ok] at hv
      ·rename_i hun;simp[Value.okWide,hun,Cell.okWide,Cell.ok] at hv
      ·rename_i hun;simp[Value.okWide,hun,Cell.okWide,Cell.ok] at hv
      ·rename_i fs hun;exact hu ⟨fs,hun⟩
      ·cases hTt
    | _=>simpa[Value.cells] using hu'
   subst hvu
   exact⟨n,p,h3,hr⟩
end
end Go.AM
namespace Go.AM
open Go.RowKit
def Qy (P:Program) (t:TypeId):Option (List (TypeId×Nat×Nat)):=match P.underlying t with
 | some (.struct fs)=>some (fs.toList.map fun f=>(f.type,f.offset,P.cellsOf f.type))
 | _=>none
def YY {H:Type} (P:Program) (n:Nat) (pvs:List PV):List (TypeId×Nat×Nat)→List (DataW H)→Prop
 | [],[]=>True
 | (t,o,c)::l,y::ds=>ye P n t y ((pvs.drop o).take c)∧YY P n pvs l ds
 | _,_=>False
section
variable {H:Type} {P:Program} {n:Nat} {t:TypeId} {d:DataW H} {pvs:List PV}
theorem zay (n:Nat) (pvs:List PV):∀(fs:List Field) (ds:List (DataW H)),ds.length=fs.length→(∀(i:Nat) f y,fs[i]?=some f→ds[i]?=some y→ye P n f.type y ((pvs.drop f.offset).take (P.cellsOf f.type)))→YY P n pvs (fs.map fun f=>(f.type,f.offset,P.cellsOf f.type)) ds
 | [],[],_,_=>trivial
 | f::fs,y::ds,hl,h=>⟨h 0 f y rfl rfl,zay n pvs fs ds (by simpa using hl) fun i f' y' hf hy=>h (i+1) f' y' (by simpa using hf) (by simpa using hy)⟩
theorem Jn {l:List (TypeId×Nat×Nat)} (hs:Qy P t=some l):∃fs,P.underlying t=some (.struct fs)∧l=fs.toList.map fun f=>(f.type,f.offset,P.cellsOf f.type):=by
 unfold Qy at hs
 split at hs
 ·rename_i fs hu
  injection hs with hs
  exact⟨fs,hu,hs.symm⟩
 ·cases hs
theorem jO {l:List (TypeId×Nat×Nat)} (hs:Qy P t=some l) (h:ye P n t d pvs):∃(m:Nat) (ds:List (DataW H)),n=m+1∧d=.agg ds∧pvs.length=P.cellsOf t∧YY P m pvs l ds:=by
 obtain⟨fs,hu,rfl⟩:=Jn hs
 cases n with
 | zero=>exact h.elim
 | succ m =>
   unfold ye at h
   rw[hu] at h
   obtain⟨ds,h1,h2,h3,h4⟩:=h
   exact⟨m,ds,rfl,h1,h2,zay m pvs fs.toList ds (by simpa using h3) fun i f y hf hy=>h4 i f y (by simpa using hf) hy⟩
theorem zY {o c:Nat} {l:List (TypeId×Nat×Nat)} {ds:List (DataW H)} (h:YY P n pvs ((t,o,c)::l) ds):∃y ds',ds=y::ds'∧ye P n t y ((pvs.drop o).take c)∧YY P n pvs l ds':=by
 cases ds with
 | nil=>exact h.elim
 | cons y ds'=>exact⟨y,ds',rfl,h.1,h.2⟩
theorem kQ {ds:List (DataW H)} (h:YY P n pvs [] ds):ds=[]:=by
 cases ds with
 | nil=>rfl
 | cons y ds'=>exact h.elim
theorem shows_bool (hu:P.underlying t=some .bool) (h:ye P n t d pvs):∃b,d=.lit (.bool b)∧pvs=[.v (.bool b)]:=by
 cases n with
 | zero=>exact h.elim
 | succ m=>unfold ye at h;rw[hu] at h;exact h
theorem Yb {k:IntKind} (hu:P.underlying t=some (.int k)) (h:ye P n t d pvs):∃i,d=.lit (.int k i)∧pvs=[.v (.int k i)]∧(Lit.int k i).wf=true:=by
 cases n with
 | zero=>exact h.elim
 | succ m=>unfold ye at h;rw[hu] at h;exact h
theorem wx (hu:P.underlying t=some .string) (h:ye P n t d pvs):∃l:List UInt8,d=.lit (.string l)∧pvs=[str l]∧l.length≤maxLen:=by
 cases n with
 | zero=>exact h.elim
 | succ m =>
   unfold ye at h
   rw[hu] at h
   obtain⟨s,h1,h2,h3⟩:=h
   exact⟨s.data.toList,h1,by rw[h2],h3⟩
theorem yo {e:TypeId} (hu:P.underlying t=some (.slice e)) (h:ye P n t d pvs):∃(m:Nat) (es:List (List PV)) (ds:List (DataW H)),n=m+1∧((d=.nil∧ds=[])∨∃sp,d=.slice ds sp)∧pvs=[.sl (P.cellsOf e) es]∧es.length≤maxLen∧Zip (fun c y=>c.length=P.cellsOf e∧ye P m e y c) es ds:=by
 cases n with
 | zero=>exact h.elim
 | succ m =>
   unfold ye at h
   rw[hu] at h
   obtain⟨es,ds,h1,h2,h3,h4⟩:=h
   exact⟨m,es,ds,rfl,h1,h2,h3,h4⟩
theorem yw {α:Type} {enc:α→List PV} {w:α→Nat} {b:DataW H→Nat} {R:List PV→DataW H→Prop} (hR:∀c y,R c y→∃a,c=enc a∧w a≤b y):∀{es:List (List PV)} {ds:List (DataW H)},Zip R es ds→∃l:List α,es=l.map enc∧(l.map w).sum≤(ds.map b).sum
 | [],[],_=>⟨[],rfl,by simp⟩
 | [],_::_,h=>by have:=h.1;simp at this
 | _::_,[],h=>by have:=h.1;simp at this
 | c::es,y::ds,h=>by
   obtain⟨a,rfl,ha⟩:=hR c y (h.2 0 c y rfl rfl)
   obtain⟨l,rfl,hl⟩:=yw hR (es:=es) (ds:=ds) ⟨by have:=h.1;simpa using this,fun i c' y' hc hy=>h.2 (i+1) c' y' (by simpa using hc) (by simpa using hy)⟩
   exact⟨a::l,rfl,by simp;omega⟩
end
end Go.AM
