/-
strings.Builder: copyCheck, WriteByte, WriteString, Len, String.
The abstract machine, part 34: one write after the other into a builder.
Values as data: their cells, their bulk, how a reading gives one.
value.Check: what it computes.
What is written of a value (plain).
-/
import Derived.Test.YtpeaooooimfihaaGreatDoorG12
import Derived.Test.YtpeaooooimfihaaGreatDoorG13
import Derived.Shelf.Strings.Builder1
import Derived.Test.YtpeaooooimfihaaGreatDoorG10
set_option maxRecDepth 8000
namespace Go.Proofs.YtpeaooooimfihaaGreatDoor
open Go.Proofs.Tryz
open Go.RowKit Go.AM
theorem strU_s:strU prog 9=true:=by kernel_rfl
theorem byteE_u:byteE prog 5=true:=by kernel_rfl
def hCC:AM.Spec:=fun args hp nx=>match args with
 | [.ref id 0 0]=>match hp id with
   | some b=>if b.e=34∧b.s=2∧b.arr=false then match b.es with
     | [[.v (.pointer none),x]]=>some (.tup [],upd hp id (some ⟨34,2,false,[[.ref id 0 0,x]]⟩),nx)
     | [[.ref i 0 0,_]]=>if i=id then some (.tup [],hp,nx) else none
     | _=>none
     else none
   | none=>none
 | _=>none
def hStr:AM.Spec:=fun args hp nx=>match args with
 | [.ref id 0 0]=>(hp id).bind fun b=>(bldOf 34 5 hp id b).bind fun s=>if s.1.length=0 then none else some (str s.1,upd s.2 id none,nx)
 | _=>none
theorem store_ptr (w:World) (a:Addr) (p:Option Addr) (v:Value) (h:w.cell? a=some v) (hf:w.frozen? a=false):(Instr.storeAt 31 (.pointer (some a)) (.pointer p)).run prog w=.ok () (w.setCell a (.pointer p)):=by
 have ha:=isAgg31
 have hz:=sizeOf31
 simp[Instr.storeAt,storeVar,Instr.sureAddr,ha,hz]
 have h0:a.add 0=a:=by simp[Addr.add]
 simp[Value.cells,storeCells,run_store_pointer,stored,h0,h,hf]
theorem sizeB:(prog.info? 34).map (·.size)=some 2:=by kernel_rfl
theorem cellsB:prog.cellsOf 34=2:=by kernel_rfl
theorem lies_any (d count:Nat) (h:1≤count):liesAt prog (d+1) 34 count 0 34 1=true:=by
 have hd:∃k,prog.depth=k+1:=⟨2*(prog.types.size+Made.depth)+1,rfl⟩
 obtain⟨k,hk⟩:=hd
 have hs:sameLayout prog (k+1) 34 34=true:=by simp[sameLayout]
 simp only[liesAt,hk,rowAt,cellsB]
 simp[hs,h]
set_option maxHeartbeats 1000000 in
set_option maxRecDepth 100000 in
theorem cc_used (b:Nat) (w:World) (h0:w.cell? ⟨b,0,none⟩=some (.pointer (some ⟨b,0,none⟩))):Calls prog 37 #[.pointer (some ⟨b,0,none⟩)] w fun e w'=>e=.returned (.tuple #[])∧w'=w:=by
 obtain⟨j,hj,_⟩:=Option.map_eq_some_iff.1 sizeB
 go_enter func37,Tryz.ntmps37
 go_wp2
 rw[Lib.run_neq_ptr_same w _ underlying31 hj]
 go_wp2
 go_end0
 exact⟨rfl,rfl⟩
set_option maxHeartbeats 1000000 in
set_option maxRecDepth 100000 in
theorem cc_fresh (b z:Nat) (w:World) (h0:w.cell? ⟨b,0,none⟩=some (.pointer none)) (hsh:w.shape? b=some (34,z)) (hz:2≤z) (hfz:w.frozen? ⟨b,0,none⟩=false) :
  Calls prog 37 #[.pointer (some ⟨b,0,none⟩)] w fun e w'=>e=.returned (.tuple #[])∧w'=w.setCell ⟨b,0,none⟩ (.pointer (some ⟨b,0,none⟩)):=by
 obtain⟨j,hj,hjs⟩:=Option.map_eq_some_iff.1 sizeB
 have hlies:liesAt prog prog.depth 34 (z / prog.cellsOf 34) 0 34 1=true:=by
  rw[cellsB]
  exact lies_any (2*(prog.types.size+Made.depth)+1) _ (by omega)
 go_enter func37,Tryz.ntmps37
 go_wp2
 rw[Lib.run_to_unsafe w ⟨b,0,none⟩ underlying31 underlying73 hj (by rw[hjs];decide) hsh (by show 0<z;omega)]
 simp only[Result.andThen]
 rw[Oper.upon_value]
 go_wp2
 rw[run_callFunc_extern func54 (by kernel_rfl) (by kernel_rfl) (by kernel_rfl) (e:=Extern.AbiNoEscape.same) (by kernel_rfl)]
 rw[Lib.run_noEscape]
 simp only[Result.andThen]
 rw[Oper.upon_value]
 go_wp2
 rw[Lib.run_from_unsafe w ⟨b,0,none⟩ underlying73 underlying31 hj hsh hlies]
 simp only[Result.andThen]
 rw[Oper.upon_value]
 go_wp2
 go_end0
 exact⟨rfl,rfl⟩
theorem cc_sound:za prog 37 hCC:=by
 refine⟨⟨_,func37,by kernel_rfl,by kernel_rfl⟩,?_⟩
 intro args hp nx r hp' nx' h w S G vs hi hz
 unfold hCC at h
 split at h
 case h_2=>cases h
 rename_i id
 obtain⟨u,us,rfl,hu,hz'⟩:=hz.uncons
 have hus:us=[]:=List.eq_nil_of_length_eq_zero (by simpa using hz'.1.symm)
 subst hus
 have hu0:=hu
 have hrp:=hu.ref_pos
 obtain⟨hid,rfl⟩:=hu.ref_inv
 simp only[Nat.zero_mul,Nat.add_zero] at hu0 ⊢
 split at h
 case h_2=>cases h
 rename_i b hb
 split at h
 case isFalse=>cases h
 rename_i hc
 obtain⟨c1,c2,c3⟩:=hc
 obtain⟨e,s,a,es⟩:=b
 simp only at c1 c2 c3 h
 subst c1;subst c2;subst c3
 have hbr:=hi.live id _ hb
 have hs2:(G id).s=2:=hbr.bs.symm
 obtain⟨cur,q1,q2,q3⟩:=hbr.row hrp
 have hfit:=hbr.fit hrp
 have hfr:w.frozen? ⟨(G id).g,0,none⟩=false:=by simp[World.frozen?,q1]
 have hcell:∀j,w.cell? ⟨(G id).g,j,none⟩=cur[j]?:=fun j=>by simp[World.cell?,q1]
 split at h
 ·rename_i x
  injection h with h
  injection h with e1 h
  injection h with e2 e3
  subst e1;subst e2;subst e3
  obtain⟨u0,h4,h5⟩:=q3 0 0 [.v (.pointer none),x] (.v (.pointer none)) rfl rfl
  obtain⟨rfl,_⟩:=h5.2.1.v_inv
  have hc0:w.cell? ⟨(G id).g,0,none⟩=some (.pointer none):=by rw[hcell];simpa using h4
  simp only[List.length_singleton,hs2] at hfit
  have hsh:w.shape? (G id).g=some (34,(G id).z):=by simp[World.shape?,q1,q2]
  have hst:jQ prog hp 31 (.ref id 0 0) (.ref id 0 0)=some (upd hp id (some ⟨34,2,false,[[.ref id 0 0,x]]⟩)):=by
   simp[jQ,hb]
  obtain⟨w',S',G',hr,k⟩:=store_done (dr:=True) hi hst hu0 hu0
  rw[store_ptr w _ _ _ hc0 hfr] at hr
  injection hr with _ hr
  subst hr
  refine (cc_fresh (G id).g (G id).z w hc0 hsh (by omega) hfr).mono fun e w' hh=>?_
  obtain⟨rfl,rfl⟩:=hh
  exact⟨_,_,_,rfl,k,.c (.tup rfl (by simp))⟩
 ·rename_i i y
  split at h
  case isFalse=>cases h
  rename_i hii
  subst hii
  injection h with h
  injection h with e1 h
  injection h with e2 e3
  subst e1;subst e2;subst e3
  obtain⟨u0,h4,h5⟩:=q3 0 0 [.ref i 0 0,y] (.ref i 0 0) rfl rfl
  obtain⟨_,rfl⟩:=h5.2.1.ref_inv
  have hc0:w.cell? ⟨(G i).g,0,none⟩=some (.pointer (some ⟨(G i).g,0,none⟩)):=by rw[hcell];simpa using h4
  refine (cc_used (G i).g w hc0).mono fun e w' hh=>?_
  obtain⟨rfl,rfl⟩:=hh
  exact⟨_,_,_,rfl,Stp.refl hi,.c (.tup rfl (by simp))⟩
 ·cases h
set_option maxHeartbeats 2000000 in
set_option maxRecDepth 100000 in
theorem str_walk (b g cap z:Nat) (p:Value) (l:List UInt8) (cb cg:Array Value) (w:World) (h0:l≠[]) (hb:w.heap[b]?=some (.cells cb 34 (0,0))) (hcb:cb[1]?=some (.slice (some ⟨g,0,none⟩) l.length cap)) (hg:w.heap[g]?=some (.cells cg 5 (0,0)))
  (hcap:l.length≤cap) (hz:cg.size=z) (hlz:l.length≤z) (hlc:l.length≤maxLen) (hcg:∀(j:Nat) (x:UInt8),l[j]?=some x→cg[j]?=some (Value.int .u8 x.toNat)) :
  Calls prog 10 #[.pointer (some ⟨b,0,none⟩)] w fun e w'=>e=.returned (.string ⟨l.toArray⟩)∧w'=w.drew.freeze ⟨g,0,none⟩ l.length:=by
 have c1:w.drew.cell? ⟨b,1,none⟩=some (.slice (some ⟨g,0,none⟩) l.length cap):=by
  have:w.drew.heap[b]?=some (.cells cb 34 (0,0)):=hb
  rw[Lib.cell_of_heap this];exact hcb
 have hSD:(Builtin.unsafeSliceData_ #[32] 47 #[.slice (some ⟨g,0,none⟩) l.length cap]).run prog w.drew=.ok (.pointer (some ⟨g,0,none⟩)) w.drew :=
  Lib.run_unsafeSliceData_row _ _ _ _ _ _ (fun e=>h0 (List.eq_nil_of_length_eq_zero (by omega)))
 have hUS:(Builtin.unsafeString_ #[47,3] 9 #[.pointer (some ⟨g,0,none⟩),.int .i64 l.length]).run prog w.drew=.ok (.string ⟨l.toArray⟩) (w.drew.freeze ⟨g,0,none⟩ l.length):=by
  refine Lib.run_unsafeString_row w.drew 47 3 9 5 underlying47 (by kernel_rfl) g cg.size (by have hg':w.drew.heap[g]?=some (.cells cg 5 (0,0)):=hg;simp[World.shape?,hg']) l h0 (by omega) (by unfold maxLen at hlc;omega) ?_
  intro j x hx
  have hg':w.drew.heap[g]?=some (.cells cg 5 (0,0)):=hg
  rw[show ((⟨g,0,none⟩:Addr).add j)=⟨g,j,none⟩ from by rw[Addr.add_lit,Nat.zero_add],Lib.cell_of_heap hg']
  exact hcg j x hx
 have hmixed:=mixed
 go_enter func10,Tryz.ntmps10
 go_wp2
 go_region_o
 all_goals (go_wp2;go_ret;exact⟨rfl,rfl⟩)
theorem fr_freeze {dr:Prop} (w:World) (p:Addr) (n:Nat):Fr dr w (fun b=>b=p.block) (w.drew.freeze p n):=by
 unfold World.freeze
 split
 ·exact Fr.drew w _
 ·exact⟨rfl,rfl,rfl,by simp,fun _=>Nat.le_succ _,fun k _ hn=>by simp only[];rw[Array.getElem?_modify,if_neg (fun e=>hn e.symm)];rfl⟩
theorem str_sound:za prog 10 hStr:=by
 refine⟨⟨_,func10,by kernel_rfl,by kernel_rfl⟩,?_⟩
 intro args hp nx r hp' nx' h w S G vs hi hz
 unfold hStr at h
 split at h
 case h_2=>cases h
 rename_i id
 obtain⟨u,us,rfl,hu,hz'⟩:=hz.uncons
 have hus:us=[]:=List.eq_nil_of_length_eq_zero (by simpa using hz'.1.symm)
 subst hus
 have hrp:=hu.ref_pos
 obtain⟨hid,rfl⟩:=hu.ref_inv
 simp only[Nat.zero_mul,Nat.add_zero]
 obtain⟨b,hb,h⟩:=Option.bind_eq_some_iff.1 h
 obtain⟨⟨l,hp1⟩,hbo,h⟩:=Option.bind_eq_some_iff.1 h
 simp only at h
 split at h
 case isTrue=>cases h
 rename_i hl
 injection h with h
 injection h with e1 h
 injection h with e2 e3
 subst e1;subst e2;subst e3
 rcases xS hbo with⟨_,rfl,_⟩ | ⟨m,hmid,rfl,hm,rfl⟩
 ·exact (hl rfl).elim
 have hbr:=hi.live id _ hb
 obtain⟨cur,q1,q2,q3⟩:=hbr.row hrp
 obtain⟨u1,h4,h5⟩:=q3 0 1 [.ref id 0 0,.own m 0 l.length] (.own m 0 l.length) rfl rfl
 have hop:=h5.2.1.own_pos
 obtain⟨cap,a1,a2,a3,a4,rfl⟩:=h5.2.1.own_inv
 have hmr:=hi.live m _ hm
 obtain⟨cg,p1,p2,p3⟩:=hmr.row hop
 have hs1:(G m).s=1:=hmr.bs.symm
 have hs2:(G id).s=2:=hbr.bs.symm
 rw[hs1] at a4
 refine (str_walk (G id).g (G m).g cap (G m).z (.pointer none) l cur cg w (fun e=>hl (by rw[e];rfl)) q1 (by simpa using h4) p1 a2 p2 (by omega) (by omega) (fun j x hx=>?_)).mono fun e w' hh=>?_
 ·obtain⟨u,g1,g2⟩:=p3 j 0 (byC x) (.v (.int .u8 x.toNat)) (by simp[bufB,hx]) rfl
  obtain⟨rfl,_⟩:=g2.2.1.v_inv
  rw[hs1] at g1
  simpa using g1
 ·obtain⟨rfl,rfl⟩:=hh
  have fr:=fr_freeze (dr:=True) w ⟨(G m).g,0,none⟩ l.length
  have hS:∀b,S b→S b∧(w.drew.freeze ⟨(G m).g,0,none⟩ l.length).heap[b]?=w.heap[b]?:=fun b hb'=>⟨hb',fr.block b (hi.st b hb') fun e=>hi.apart m _ hm ((show b=(G m).g from e) ▸ hb')⟩
  have k:=xI (dr:=True) (D:=fun b=>b=(G m).g) (hp2:=upd (upd hp m none) id none) (S':=S) (G':=G) (hpe:=fun _=>none) (nxe:=0) hi (fun k c hk=>by
   have hne:k≠id:=by rintro rfl;simp at hk
   rw[zp _ _ _ _ hne] at hk
   have hnm:k≠m:=by rintro rfl;simp at hk
   exact⟨wW hk,fun e=>hnm (hi.inj k m c _ (wW hk) hm e)⟩) (fun b hb'=>⟨m,_,hm,hb'.symm⟩) fr
   (inv_empty G (fun b hb'=>Nat.lt_of_lt_of_le (hi.st b hb') fr.size) (hi.glo.mono hS)) (fun _ h=>h) (fun _ h=>.inl h)
  exact⟨_,_,_,rfl,k,.c (.v rfl)⟩
noncomputable def FWs:List PV→Option (List UInt8×PV):=zH (α:=List UInt8) (fun s=>[str s]) (fun s=>s≠[]) (fun s=>(s,.tup [int s.length,.v .nilIface]))
noncomputable def FWb:List PV→Option (List UInt8×PV):=zH (α:=UInt8) (fun c=>[.v (.int .u8 c.toNat)]) (fun _=>True) (fun c=>([c],.v .nilIface))
noncomputable abbrev Cws:Ctx:=zF prog [(37,hCC)]
theorem goodws:AM.Good Cws (fun g=>([]:List Nat).contains g):=zm mixed ⟨cc_sound,by simp,trivial⟩
theorem ws_sound:za prog 17 (hBld 34 5 FWs) :=
 ym (code:=_) goodws ⟨func17,by kernel_rfl,rfl,by kernel_rfl⟩ _ _ FWs fun xs t r h=>by
  obtain⟨s,rfl,hs,e⟩:=ze h
  injection e with e1 e2
  subst e1;subst e2
  refine⟨rfl,by simp[f17],fun hp nx l b0 K hS hlen=>jB rfl ?_⟩
  have hpos:=hS.pos
  have hsl:=List.length_pos_iff.2 hs
  have n0:¬0=nx:=by omega
  have n1:¬nx=0:=by omega
  have hmx:l.length+t.length≤maxLen:=by simp only[maxLen];omega
  rcases xS (hS.ok hp fun _ _=>rfl) with⟨rfl,rfl,_⟩ | ⟨m,hm0,rfl,hm,_⟩
  ·have h0:hp 0=some ⟨34,2,false,[[.v (.pointer none),.nil]]⟩:=hS.at0
   simp only[List.length_nil,Nat.zero_add] at hlen hmx
   simp[h0,n0,n1,hCC,qM,strU_s,byteE_u,hs,hlen,hmx,f17,useB,bufB,byC]
  ·have h0:hp 0=some ⟨34,2,false,[[.ref 0 0 0,.own m 0 l.length]]⟩:=hS.at0
   have hm2:¬0=m:=fun e=>hm0 e.symm
   have hm1:hp m=some ⟨5,1,true,l.map byC⟩:=hm
   simp[h0,n0,n1,hCC,hm1,hm2,qM,strU_s,byteE_u,hlen,hmx,f17,useB,bufB,byC]
theorem wb_sound:za prog 18 (hBld 34 5 FWb) :=
 ym (code:=_) goodws ⟨func18,by kernel_rfl,rfl,by kernel_rfl⟩ _ _ FWb fun xs t r h=>by
  obtain⟨c,rfl,_,e⟩:=ze h
  injection e with e1 e2
  subst e1;subst e2
  refine⟨rfl,by simp[f18],fun hp nx l b0 K hS hlen=>jB rfl ?_⟩
  have hpos:=hS.pos
  have n0:¬0=nx:=by omega
  have n1:¬nx=0:=by omega
  simp only[List.length_singleton] at hlen
  have hmx:l.length+1≤maxLen:=by simp only[maxLen];omega
  rcases xS (hS.ok hp fun _ _=>rfl) with⟨rfl,rfl,_⟩ | ⟨m,hm0,rfl,hm,_⟩
  ·have h0:hp 0=some ⟨34,2,false,[[.v (.pointer none),.nil]]⟩:=hS.at0
   simp[h0,n0,n1,hCC,qM,AM.view,zd,zl,zc,maxLen,f18,useB,bufB,byC]
  ·have h0:hp 0=some ⟨34,2,false,[[.ref 0 0 0,.own m 0 l.length]]⟩:=hS.at0
   have hm1:hp m=some ⟨5,1,true,l.map byC⟩:=hm
   have hm2:¬0=m:=fun e=>hm0 e.symm
   have hmn:¬m=nx:=by have:=hS.top m _ hm;omega
   simp[h0,n0,n1,hCC,hm1,hm2,hmn,qM,AM.view,zd,zl,zc,hlen,hmx,f18,useB,bufB,byC]
theorem len_run (hp:Hp) (nx id m n:Nat) (h:hp id=some (useB 34 id m n)):hRun Cws Tryz.f9 [.ref id 0 0] hp nx=some (int n,hp,nx):=by
 unfold hRun
 rw[if_pos (by simp[Tryz.f9])]
 obtain⟨x,hp',nx',h1,h2,h3,h4⟩:∃x hp' nx',qj Cws Tryz.f9 [.ref id 0 0] hp nx=some (x,hp',nx')∧x=int n∧hp'=hp∧nx'=nx:=by
  have h':hp id=some ⟨34,2,false,[[.ref id 0 0,.own m 0 n]]⟩:=h
  refine zN rfl ?_
  simp[h',Tryz.f9]
 rw[h1,h2,h3,h4]
theorem len_sound:za prog 9 (hRun Cws Tryz.f9):=wx (code:=_) goodws ⟨func9,by kernel_rfl,rfl,by kernel_rfl⟩
theorem str_call (hp:Hp) (nx id m:Nat) (l:List UInt8) (h:hp id=some (useB 34 id m l.length)) (hm:hp m=some (bufB 5 l)) (hl:l≠[]) (hne:m≠id):hStr [.ref id 0 0] hp nx=some (str l,upd (upd hp m none) id none,nx):=by
 simp[hStr,h,hm,hl,hne]
end Go.Proofs.YtpeaooooimfihaaGreatDoor
namespace Go.AM
open Go.RowKit
def BSt (T U:TypeId) (hp:Hp) (nx m:Nat) (cur:List UInt8):Prop:=hp 0=some (useB T 0 m cur.length)∧hp m=some (bufB U cur)∧m≠0∧m<nx
theorem BSt.put {T U:TypeId} {hp hp1:Hp} {nx m:Nat} {cur t:List UInt8} {F:List PV→Option (List UInt8×PV)} {rest aZ:List PV} {r:PV} (B:BSt T U hp nx m cur) (h1:zi hp rest=some (aZ,hp1)) (h2:rest.all PV.noOwn=true) (h3:F aZ=some (t,r)) (hl:cur.length+t.length≤140737488355328) :
  ∃hp',hBld T U F (.ref 0 0 0::rest) hp nx=some (r,hp',nx+1)∧BSt T U hp' (nx+1) nx (cur++t)∧∀j,j≠0→j≠m→j≠nx→hp' j=hp j:=by
 obtain⟨b0,bm,hm0,hmn⟩:=B
 have n1:nx≠0:=by omega
 refine⟨_,by rw[hBld_eq h1 h2 h3,b0];simp[bldOf_use,hm0,bm,putB,hl];rfl,⟨by simp,?_,n1,by omega⟩,fun j h0 hm hx=>?_⟩
 ·rw[zp _ _ _ _ n1];simp
 ·rw[zp _ _ _ _ h0,zp _ _ _ _ hx,zp _ _ _ _ hm]
theorem BSt.same {T U:TypeId} {hp hp':Hp} {nx nx' m:Nat} {cur:List UInt8} (B:BSt T U hp nx m cur) (hn:nx≤nx') (h:∀j,j<nx→hp' j=hp j):BSt T U hp' nx' m cur:=by
 obtain⟨b0,bm,hm0,hmn⟩:=B
 exact⟨by rw[h 0 (by omega),b0],by rw[h m hmn,bm],hm0,by omega⟩
theorem BSt.ends {T U:TypeId} {hp:Hp} {nx m n:Nat} {cur l:List UInt8} (B:BSt T U hp nx m cur) (h:l=cur) (hn:n=l.length):∃m,hp 0=some (useB T 0 m n)∧hp m=some (bufB U l):=⟨m,by rw[hn,h];exact B.1,by rw[h];exact B.2.1⟩
theorem BStart.put {T U:TypeId} {hp h hp1:Hp} {nx nx':Nat} {l t:List UInt8} {b0:Blk} {K:Hp→Hp} {F:List PV→Option (List UInt8×PV)} {rest aZ:List PV} {r:PV} (hS:BStart T U hp nx l b0 K) (hn:nx≤nx') (hh:∀j,j<nx→h j=hp j)
  (h1:zi h rest=some (aZ,hp1)) (h2:rest.all PV.noOwn=true) (h3:F aZ=some (t,r)) (hl:l.length+t.length≤140737488355328) :
  ∃hp',hBld T U F (.ref 0 0 0::rest) h nx'=some (r,hp',nx'+1)∧BSt T U hp' (nx'+1) nx' (l++t)∧∀j,nx≤j→j≠nx'→hp' j=h j:=by
 have hpos:=hS.pos
 have n1:nx'≠0:=by omega
 have a0:h 0=some b0:=by rw[hh 0 hpos,hS.at0]
 refine⟨_,by rw[hBld_eq h1 h2 h3,a0];simp[hS.ok h hh,putB,hl];rfl,⟨by simp,?_,n1,by omega⟩,fun j hj hx=>?_⟩
 ·rw[zp _ _ _ _ n1];simp
 ·rw[zp _ _ _ _ (by omega),zp _ _ _ _ hx,hS.keep _ _ hj]
theorem newB_put {T U:TypeId} {h hp1:Hp} {id nx':Nat} {t:List UInt8} {F:List PV→Option (List UInt8×PV)} {rest aZ:List PV} {r:PV} (a0:h id=some (newB T)) (n1:nx'≠id)
  (h1:zi h rest=some (aZ,hp1)) (h2:rest.all PV.noOwn=true) (h3:F aZ=some (t,r)) (hl:t.length≤140737488355328) :
  ∃hp',hBld T U F (.ref id 0 0::rest) h nx'=some (r,hp',nx'+1)∧hp' id=some (useB T id nx' t.length)∧hp' nx'=some (bufB U t)∧∀j,j≠id→j≠nx'→hp' j=h j:=by
 refine⟨_,by rw[hBld_eq h1 h2 h3,a0];simp[putB,hl];rfl,by simp,?_,fun j e1 e2=>?_⟩
 ·rw[zp _ _ _ _ n1];simp
 ·rw[zp _ _ _ _ e1,zp _ _ _ _ e2]
end Go.AM
namespace Go.Proofs.YtpeaooooimfihaaGreatDoor
open Go.Proofs.Tryz
open Go.RowKit Go.AM
inductive Val where
 | mk (kind n:Int) (s:List UInt8) (items:List Val) (fields:List (List UInt8×Val))
namespace Val
def kind:Val→Int | .mk k _ _ _ _=>k
def n:Val→Int | .mk _ n _ _ _=>n
def s:Val→List UInt8 | .mk _ _ s _ _=>s
def items:Val→List Val | .mk _ _ _ l _=>l
def fields:Val→List (List UInt8×Val) | .mk _ _ _ _ l=>l
end Val
theorem Val.ind {P:Val→Prop} (h:∀k n s is fs,(∀x∈is,P x)→(∀f∈fs,P f.2)→P (.mk k n s is fs)) (v:Val):P v :=
 Val.rec (motive_1:=P) (motive_2:=fun l=>∀x∈l,P x) (motive_3:=fun l=>∀f∈l,P f.2) (motive_4:=fun f=>P f.2) (fun k n s is fs h1 h2=>h k n s is fs h1 h2)
  (by simp) (fun x l hx hl y hy=>by rcases List.mem_cons.1 hy with rfl | hy;(first | exact hx | exact hl y hy);(first | exact hx | exact hl y hy)) (by simp) (fun x l hx hl y hy=>by rcases List.mem_cons.1 hy with rfl | hy;(first | exact hx | exact hl y hy);(first | exact hx | exact hl y hy)) (fun a v hv=>hv) v
mutual
def Val.enc:Val→List PV
 | .mk k n s is fs=>[int k,int n,str s,.sl 5 (encVs is),.sl 6 (encFs fs)]
def encVs:List Val→List (List PV)
 | []=>[]
 | v::l=>v.enc::encVs l
def encFs:List (List UInt8×Val)→List (List PV)
 | []=>[]
 | (a,v)::l=>(str a::v.enc)::encFs l
end
abbrev encF (f:List UInt8×Val):List PV:=str f.1::f.2.enc
theorem encVs_map:∀l:List Val,encVs l=l.map Val.enc
 | []=>rfl
 | v::l=>by simp[encVs,encVs_map l]
theorem encFs_map:∀l:List (List UInt8×Val),encFs l=l.map encF
 | []=>rfl
 | (a,v)::l=>by simp[encFs,encFs_map l]
theorem jh (v:Val):v.enc=[int v.kind,int v.n,str v.s,.sl 5 (v.items.map Val.enc),.sl 6 (v.fields.map encF)]:=by
 cases v with
 | mk k n s is fs=>simp[Val.enc,encVs_map,encFs_map,Val.kind,Val.n,Val.s,Val.items,Val.fields]
@[simp] theorem enc_length (v:Val):v.enc.length=5:=by rw[jh];rfl
@[simp] theorem enc_cells (v:Val):v.enc.all PV.isCell=true:=by rw[jh];rfl
@[simp] theorem enc_cells' (v:Val):(∀x,x∈v.enc→PV.isCell x=true)=True:=by
 have:=enc_cells v
 rw[List.all_eq_true] at this
 exact eq_true this
@[simp] theorem enc_take (v:Val):v.enc.take 5=v.enc:=List.take_of_length_le (by simp)
@[simp] theorem enc_0 (v:Val) (h:0<v.enc.length):v.enc[0]=int v.kind:=by simp[jh v]
@[simp] theorem enc_1 (v:Val) (h:1<v.enc.length):v.enc[1]=int v.n:=by simp[jh v]
@[simp] theorem enc_2 (v:Val) (h:2<v.enc.length):v.enc[2]=str v.s:=by simp[jh v]
@[simp] theorem enc_3 (v:Val) (h:3<v.enc.length):v.enc[3]=.sl 5 (v.items.map Val.enc):=by simp[jh v]
@[simp] theorem enc_4 (v:Val) (h:4<v.enc.length):v.enc[4]=.sl 6 (v.fields.map encF):=by simp[jh v]
theorem vM {α β:Type} {f:α→β}:∀{xs ys:List α},(∀x∈xs,∀y,f x=f y→x=y)→xs.map f=ys.map f→xs=ys
 | [],[],_,_=>rfl
 | [],y::ys,_,e=>by simp at e
 | x::xs,[],_,e=>by simp at e
 | x::xs,y::ys,h,e=>by
   simp only[List.map_cons,List.cons.injEq] at e
   rw[h x (by simp) y e.1,vM (fun z hz=>h z (by simp[hz])) e.2]
theorem ky:∀{a b:Val},a.enc=b.enc→a=b:=by
 intro a
 induction a using Val.ind with
 | h k n s is fs h1 h2 =>
   intro b e
   cases b with
   | mk k' n' s' is' fs' =>
     simp only[jh,Val.kind,Val.n,Val.s,Val.items,Val.fields,List.cons.injEq,and_true] at e
     obtain⟨e1,e2,e3,e4,e5⟩:=e
     obtain rfl:=zG e1
     obtain rfl:=zG e2
     obtain rfl:=qt e3
     injection e4 with _ e4
     injection e5 with _ e5
     obtain rfl:=vM (fun x hx y=>h1 x hx) e4
     obtain rfl:=vM (fun x hx y e=>by
      simp only[encF,List.cons.injEq] at e
      exact Prod.ext (qt e.1) (h2 x hx e.2)) e5
     rfl
mutual
def Val.vb:Val→Nat
 | .mk _ _ s is fs=>1+s.length+vbs is+fbs fs
def vbs:List Val→Nat
 | []=>0
 | v::l=>v.vb+vbs l
def fbs:List (List UInt8×Val)→Nat
 | []=>0
 | (a,v)::l=>a.length+v.vb+fbs l
end
theorem kM (v:Val):v.vb=1+v.s.length+vbs v.items+fbs v.fields:=by cases v;rfl
theorem xe (v:Val):0<v.vb:=by rw[kM];omega
theorem q8:∀{l:List Val} {x:Val},x∈l→x.vb≤vbs l
 | y::l,x,h=>by
   simp only[vbs]
   rcases List.mem_cons.1 h with rfl | h
   ·omega
   ·have:=q8 h;omega
theorem yn:∀{l:List (List UInt8×Val)} {x:List UInt8×Val},x∈l→x.1.length+x.2.vb≤fbs l
 | (a,y)::l,x,h=>by
   simp only[fbs]
   rcases List.mem_cons.1 h with rfl | h
   ·simp only;omega
   ·have:=yn h;omega
theorem qp:∀l:List Val,l.length≤vbs l
 | []=>by simp[vbs]
 | v::l=>by have:=qp l;have:=xe v;simp only[vbs,List.length_cons];omega
theorem qL:∀l:List (List UInt8×Val),l.length≤fbs l
 | []=>by simp[fbs]
 | (a,v)::l=>by have:=qL l;have:=xe v;simp only[fbs,List.length_cons];omega
noncomputable def FV (out:Val→PV) (n:Nat):List PV→Option PV:=zH (α:=Val) (fun v=>[.agg v.enc]) (fun v=>v.vb≤lim∧v.vb≤n) out
theorem FV_eq (out:Val→PV) (n:Nat) (v:Val) (h:v.vb≤lim∧v.vb≤n):FV out n [.agg v.enc]=some (out v) :=
 zn (enc:=fun v:Val=>[.agg v.enc]) (a:=v) (fun a b e=>by simp only[List.cons.injEq,and_true,PV.agg.injEq] at e;exact ky e) h
@[simp] theorem freezeCells_enc (hp:Hp) (v:Val):z7 hp v.enc=some (v.enc,hp):=by rw[jh];simp
theorem wR (hp:Hp) (v:Val):zA hp (.agg v.enc)=some (.agg v.enc,hp):=by
 rw[jh]
 simp
theorem xT (v:Val):PV.noOwn (.agg v.enc)=true:=by
 rw[jh]
 simp
theorem FV_call (out:Val→PV) (n:Nat) (v:Val) (hp:Hp) (nx:Nat) (h:v.vb≤lim∧v.vb≤n):zf false [] (FV out n) [.agg v.enc] hp nx=some (out v,hp,nx) :=
 zK (hp1:=hp) (show zi hp [.agg v.enc]=some ([.agg v.enc],hp) by simp only[zi,wR]) (FV_eq out n v h) (.inr (by simp only[List.all_cons,xT,List.all_nil,Bool.and_self]))
mutual
def Val.parts:Val→Nat
 | .mk _ _ _ is fs=>1+partsV is+partsF fs
def partsV:List Val→Nat
 | []=>0
 | v::l=>v.parts+partsV l
def partsF:List (List UInt8×Val)→Nat
 | []=>0
 | (_,v)::l=>v.parts+partsF l
end
mutual
def Val.levels:Val→Nat
 | .mk _ _ _ is fs=>max (levelsV is) (levelsF fs)+1
def levelsV:List Val→Nat
 | []=>0
 | v::l=>max v.levels (levelsV l)
def levelsF:List (List UInt8×Val)→Nat
 | []=>0
 | (_,v)::l=>max v.levels (levelsF l)
end
theorem parts_eq (v:Val):v.parts=1+partsV v.items+partsF v.fields:=by cases v;rfl
theorem levels_eq (v:Val):v.levels=max (levelsV v.items) (levelsF v.fields)+1:=by cases v;rfl
theorem parts_le (v:Val):v.parts≤v.vb:=by
 induction v using Val.ind with
 | h k n s is fs h1 h2 =>
   have a:∀l:List Val,(∀x∈l,x.parts≤x.vb)→partsV l≤vbs l:=by
    intro l
    induction l with
    | nil=>simp[partsV]
    | cons v l ih=>intro h;have:=h v (by simp);have:=ih fun x hx=>h x (by simp[hx]);simp only[partsV,vbs];omega
   have b:∀l:List (List UInt8×Val),(∀x∈l,x.2.parts≤x.2.vb)→partsF l≤fbs l:=by
    intro l
    induction l with
    | nil=>simp[partsF]
    | cons v l ih=>intro h;have:=h v (by simp);have:=ih fun x hx=>h x (by simp[hx]);obtain⟨a,v⟩:=v;simp only[partsF,fbs];simp only at *;omega
   have:=a is h1
   have:=b fs h2
   simp only[Val.parts,Val.vb]
   omega
theorem levels_le (v:Val):v.levels≤v.parts:=by
 induction v using Val.ind with
 | h k n s is fs h1 h2 =>
   have a:∀l:List Val,(∀x∈l,x.levels≤x.parts)→levelsV l≤partsV l:=by
    intro l
    induction l with
    | nil=>simp[levelsV]
    | cons v l ih=>intro h;have:=h v (by simp);have:=ih fun x hx=>h x (by simp[hx]);simp only[levelsV,partsV];omega
   have b:∀l:List (List UInt8×Val),(∀x∈l,x.2.levels≤x.2.parts)→levelsF l≤partsF l:=by
    intro l
    induction l with
    | nil=>simp[levelsF]
    | cons v l ih=>intro h;have:=h v (by simp);have:=ih fun x hx=>h x (by simp[hx]);obtain⟨a,v⟩:=v;simp only[levelsF,partsF];simp only at *;omega
   have:=a is h1
   have:=b fs h2
   simp only[Val.parts,Val.levels]
   omega
noncomputable abbrev Cc (n:Nat):Ctx:=xJ prog [(58,zf false [] (FV (fun v=>.tup [int v.parts,int v.levels]) n))] (dynAt 2 [(2,1)])
theorem ji {C:Ctx} {fn:Func} {code:Code} {args:List PV} {hp:Hp} {nx:Nat} {x:PV} {hp':Hp} {nx':Nat} (hb:fn.body=some code)
  (h:EvC C code ⟨yH args,hp,nx⟩ (retK C.P fn (fun y h m=>y=x∧h=hp'∧m=nx'))):qj C fn args hp nx=some (x,hp',nx'):=by
 obtain⟨y,h1,n1,he,rfl,rfl,rfl⟩:=zN hb h
 exact he
theorem count1_run (n:Nat) (v:Val) (h:v.vb≤lim∧v.vb≤n) (hp:Hp) (nx i j:Nat) (hi:i<nx) (hj:j<nx) (hij:i≠j) (p q:Nat) (hpi:hp i=some ⟨3,1,false,[[int p]]⟩) (hpj:hp j=some ⟨3,1,false,[[int q]]⟩) (hpb:p≤lim) :
  hRun (Cc n) f90 [.agg v.enc,.ref i 0 0,.ref j 0 0] hp nx =
   some (.tup [],upd (upd (upd hp nx (some ⟨63,5,false,[v.enc]⟩)) i (some ⟨3,1,false,[[int ((p+v.parts:Nat):Int)]]⟩)) j (some ⟨3,1,false,[[int ((max q v.levels:Nat):Int)]]⟩),nx+1):=by
 have hpl:=parts_le v
 have hll:=levels_le v
 unfold lim at *
 have w1:IntKind.i64.wrap ((p:Int)+v.parts)=(p:Int)+v.parts:=zh (by omega) (by omega)
 unfold hRun
 rw[if_pos (by simp[f90])]
 refine ji rfl ?_
 have hcall:=fun hp nx=>FV_call (fun v=>.tup [int v.parts,int v.levels]) n v hp nx h
 have e1:¬i=nx:=by omega
 have e2:¬j=nx:=by omega
 have e3:¬j=i:=by omega
 have e4:(if q<v.levels then (v.levels:Int) else q)=((max q v.levels:Nat):Int):=by split<;>omega
 simp[hcall]
 rw[kv _ _ _ _ _ _ (apartA_one (blk:=⟨3,1,false,[[int p]]⟩) (id:=j) (i:=0) (j:=0) (id':=i) (i':=0) (j':=0) (by simp) (by simp) (Ne.symm hij) (by simp[e1,hpi]) rfl) (fun _ h=>by cases h)]
 simp[hpi,hpj,e1,e2,e3,hij,w1,e4,f90]
theorem xU (a b:List Val):partsV (a++b)=partsV a+partsV b:=by
 induction a with
 | nil=>simp[partsV]
 | cons v a ih=>simp only[List.cons_append,partsV,ih];omega
theorem levelsV_append (a b:List Val):levelsV (a++b)=max (levelsV a) (levelsV b):=by
 induction a with
 | nil=>simp[levelsV]
 | cons v a ih=>simp only[List.cons_append,levelsV,ih];omega
theorem xV (a b:List (List UInt8×Val)):partsF (a++b)=partsF a+partsF b:=by
 induction a with
 | nil=>simp[partsF]
 | cons v a ih=>obtain⟨x,v⟩:=v;simp only[List.cons_append,partsF,ih];omega
theorem levelsF_append (a b:List (List UInt8×Val)):levelsF (a++b)=max (levelsF a) (levelsF b):=by
 induction a with
 | nil=>simp[levelsF]
 | cons v a ih=>obtain⟨x,v⟩:=v;simp only[List.cons_append,levelsF,ih];omega
theorem takeV {l:List Val} {k:Nat} (h:k<l.length):partsV (l.take (k+1))=partsV (l.take k)+l[k].parts∧levelsV (l.take (k+1))=max (levelsV (l.take k)) l[k].levels:=by
 rw[List.take_succ_eq_append_getElem h,xU,levelsV_append]
 simp[partsV,levelsV]
theorem takeF {l:List (List UInt8×Val)} {k:Nat} (h:k<l.length):partsF (l.take (k+1))=partsF (l.take k)+l[k].2.parts∧levelsF (l.take (k+1))=max (levelsF (l.take k)) l[k].2.levels:=by
 rw[List.take_succ_eq_append_getElem h,xV,levelsF_append]
 simp[partsF,levelsF]
theorem partsV_le (l:List Val) (k:Nat):partsV (l.take k)≤partsV l:=by
 have:=xU (l.take k) (l.drop k)
 rw[List.take_append_drop] at this
 omega
theorem partsF_le (l:List (List UInt8×Val)) (k:Nat):partsF (l.take k)≤partsF l:=by
 have:=xV (l.take k) (l.drop k)
 rw[List.take_append_drop] at this
 omega
noncomputable abbrev Cd (n:Nat):Ctx:=xJ prog [(90,hRun (Cc n) f90)] (dynAt 13 [(3,2)])
theorem count_eval (n:Nat) (v:Val) (h:v.vb≤lim∧v.vb≤n+1):zj (Cd n) f58 [.agg v.enc]=some (.tup [int v.parts,int v.levels]):=by
 have hpl:=parts_le v
 have hpe:=parts_eq v
 have hvb:=kM v
 have hle:=levels_eq v
 have hl1:=qp v.items
 have hl2:=qL v.fields
 obtain⟨ha,hb⟩:=h
 unfold lim at ha
 refine zb rfl ?_
 simp
 refine zy (fun k σ hp nx=>σ 1=.ref 0 0 0∧σ 2=.ref 1 0 0∧σ 3=.ref 2 0 0∧σ 4=.fn (.func 90) [] [.ref 1 0 0,.ref 2 0 0]∧σ 11=.sl 5 (v.items.map Val.enc)∧σ 12=int v.items.length∧σ 13=int k∧3≤nx∧hp 0=some ⟨63,5,false,[v.enc]⟩ ∧
   hp 1=some ⟨3,1,false,[[int ((1+partsV (v.items.take k):Nat):Int)]]⟩∧hp 2=some ⟨3,1,false,[[int (levelsV (v.items.take k))]]⟩) v.items.length
  ⟨by simp,by simp,by simp,by simp,by simp,by simp,by simp,by simp,by simp,by simp[partsV],by simp[levelsV]⟩ ?_
 rintro k σ hp nx hk ⟨h1,h2,h3,h4,h11,h12,h13,hnx,b0,b1,b2⟩
 by_cases hlt:k<v.items.length
 ·obtain⟨t1,t2⟩:=takeV hlt
  have hm:=q8 (List.getElem_mem hlt)
  have hw:IntKind.i64.wrap ((k:Int)+1)=(k:Int)+1:=zh (by omega) (by omega)
  have hple:=partsV_le v.items k
  have hrun:=count1_run n v.items[k] ⟨by unfold lim;omega,by omega⟩ (upd hp nx (some ⟨63,5,false,[v.items[k].enc]⟩)) (nx+1) 1 2 (by omega) (by omega) (by omega) _ _ (by rw[qd _ _ _ _ (by omega)];exact b1) (by rw[qd _ _ _ _ (by omega)];exact b2) (by unfold lim;omega)
  simp[h1,h2,h3,h4,h11,h12,h13,hlt,hrun,hw]
  refine⟨hlt,by omega,?_,?_,?_⟩
  ·simp[b0,show ¬0=nx by omega,show ¬0=nx+1 by omega]
  ·rw[t1];omega
  ·rw[t2]
 ·obtain rfl:k=v.items.length:=by omega
  rw[List.take_length] at b1 b2
  simp[h1,h2,h3,h4,h11,h12,h13,b0]
  refine zy (fun k σ hp nx=>σ 1=.ref 0 0 0∧σ 2=.ref 1 0 0∧σ 3=.ref 2 0 0∧σ 4=.fn (.func 90) [] [.ref 1 0 0,.ref 2 0 0]∧σ 22=.sl 6 (v.fields.map encF)∧σ 23=int v.fields.length∧σ 24=int k∧3≤nx ∧
    hp 1=some ⟨3,1,false,[[int ((1+partsV v.items+partsF (v.fields.take k):Nat):Int)]]⟩∧hp 2=some ⟨3,1,false,[[int ((max (levelsV v.items) (levelsF (v.fields.take k)):Nat):Int)]]⟩) v.fields.length
   ⟨by simp[h1],by simp[h2],by simp[h3],by simp[h4],by simp,by simp,by simp,hnx,by simp[b1,partsF],by simp[b2,levelsF]⟩ ?_
  clear h1 h2 h3 h4 h11 h12 h13 hnx b0 b1 b2 hlt hk nx hp σ
  rintro k σ hp nx hk ⟨h1,h2,h3,h4,h11,h12,h13,hnx,b1,b2⟩
  by_cases hlt:k<v.fields.length
  ·obtain⟨t1,t2⟩:=takeF hlt
   have hm:=yn (List.getElem_mem hlt)
   have hw:IntKind.i64.wrap ((k:Int)+1)=(k:Int)+1:=zh (by omega) (by omega)
   have hple:=partsF_le v.fields k
   have hrun:=count1_run n v.fields[k].2 ⟨by unfold lim;omega,by omega⟩ (upd hp nx (some ⟨77,6,false,[encF v.fields[k]]⟩)) (nx+1) 1 2 (by omega) (by omega) (by omega) _ _ (by rw[qd _ _ _ _ (by omega)];exact b1) (by rw[qd _ _ _ _ (by omega)];exact b2) (by unfold lim;omega)
   simp[encF] at hrun
   simp[h1,h2,h3,h4,h11,h12,h13,hlt,hw,hrun]
   refine⟨hlt,by omega,?_,?_⟩
   ·rw[t1];omega
   ·rw[t2]
  ·obtain rfl:k=v.fields.length:=by omega
   rw[List.take_length] at b1 b2
   have hll:=levels_le v
   have hw:IntKind.i64.wrap (((max (levelsV v.items) (levelsF v.fields):Nat):Int)+1)=(v.levels:Int):=by rw[zh (by omega) (by omega),hle];omega
   simp[h1,h2,h3,h4,h11,h12,h13]
   rw[kv _ _ _ _ _ _ (apartA_one (id:=2) (i:=0) (j:=0) (id':=1) (i':=0) (j':=0) (by simp[h3]) (by simp[h2]) (by omega) (by exact b1) rfl) (fun _ h=>by cases h)]
   simp[h1,h2,h3,b1,b2,hw,f58,qi]
   omega
theorem xW {out:Val→PV} {n:Nat} {args:List PV} {r:PV} (h:FV out n args=some r):∃v:Val,args=[.agg v.enc]∧(v.vb≤lim∧v.vb≤n)∧r=out v:=ze h
theorem FV_none {out:Val→PV}:∀args r,FV out 0 args=some r→False:=fun args r h=>by
 obtain⟨v,rfl,hv,rfl⟩:=xW h
 have:=xe v
 omega
theorem FV_zero {out:Val→PV} {f:FuncId} (hfn:∃fn,prog.funcs[f]?=some fn∧(fn.name== "runtime.NumGoroutine")=false∧fn.body.isNone=false):za prog f (zf false [] (FV out 0)):=by
 refine⟨hfn,fun args hp nx r hp' nx' h=>?_⟩
 unfold zf at h
 split at h
 ·split at h
  ·rename_i r0 hF
   exact (FV_none _ _ hF).elim
  ·cases h
 ·cases h
set_option maxRecDepth 100000 in
theorem count_sound:∀n,za prog 58 (zf false [] (FV (fun v=>.tup [int v.parts,int v.levels]) n)):=by
 intro n
 induction n with
 | zero=>exact FV_zero ⟨_,func58,by kernel_rfl,by kernel_rfl⟩
 | succ n ih =>
   have hc:AM.Good (Cc n) (fun g=>([]:List Nat).contains g):=good_ofD _ mixed ⟨ih,by simp,trivial⟩
   have h1:za prog 90 (hRun (Cc n) f90):=wx (code:=_) hc ⟨func90,by kernel_rfl,rfl,by kernel_rfl⟩
   have hd:AM.Good (Cd n) (fun g=>([]:List Nat).contains g):=good_ofD _ mixed ⟨h1,by simp,trivial⟩
   exact zO (fn:=f58) hd ⟨_,func58,by kernel_rfl,rfl,by kernel_rfl⟩ false [] _ fun args r h=>by
    obtain⟨v,rfl,hv,rfl⟩:=xW h
    exact⟨Nat.le_trans (Nat.le_refl 1) (by decide),_,count_eval n v hv,zM _⟩
noncomputable abbrev GV (out:Val→PV):AM.Spec:=zf false [] (FV out lim)
theorem vi (out:Val→PV) (v:Val) (hp:Hp) (nx:Nat) (h:v.vb≤lim):GV out [.agg v.enc] hp nx=some (out v,hp,nx):=FV_call out lim v hp nx ⟨h,h⟩
def cKind (k:Int):Bool:=decide (k<0)||decide (5<k)
def cSpare (k n:Int) (s:List UInt8) (i f:Nat):Bool:=n != 0&&k != 1&&k != 2||!(s==[])&&k != 3||decide (0<i)&&k != 4||decide (0<f)&&k != 5
def cRange1 (k n:Int):Bool:=k==1&&n != 0&&n != 1
def vj (k n:Int):Bool:=k==2&&(decide (n≤-1000000000000000)||decide (1000000000000000≤n))
def cMany (i f:Nat):Bool:=decide ((100:Int)<i)||decide ((100:Int)<f)
def cLong (s:List UInt8):Bool:=decide ((500:Int)<s.length)
def kz (k n:Int) (s:List UInt8) (i f:Nat):Int :=
 if cKind k then 4 else if cSpare k n s i f then 3 else if cRange1 k n||vj k n then 1 else if cLong s then 2 else if zW 32 126 s then (if cMany i f then 2 else 0) else 1
def leB (a b:List UInt8):Bool:=Op.bytesLess a b||a==b
def cName (a:List UInt8):Bool:=a.isEmpty||decide ((60:Int)<a.length)||!zW 32 126 a
def cPrev (prev:Option (List UInt8)) (a:List UInt8):Bool:=match prev with
 | none=>false
 | some p=>leB a p
mutual
def Val.fault:Val→Int
 | .mk k n s is fs=>if kz k n s is.length fs.length=0 then (if faultV is=0 then faultF none fs else faultV is) else kz k n s is.length fs.length
def faultV:List Val→Int
 | []=>0
 | v::l=>if v.fault=0 then faultV l else v.fault
def faultF:Option (List UInt8)→List (List UInt8×Val)→Int
 | _,[]=>0
 | prev,(a,v)::l=>if cName a then 5 else if cPrev prev a then 8 else if v.fault=0 then faultF (some a) l else v.fault
end
theorem fault_eq (v:Val):v.fault=if kz v.kind v.n v.s v.items.length v.fields.length=0 then (if faultV v.items=0 then faultF none v.fields else faultV v.items) else kz v.kind v.n v.s v.items.length v.fields.length:=by cases v;rfl
theorem spare_sound:za prog 91 (GV fun v=>boo (cSpare v.kind v.n v.s v.items.length v.fields.length)) :=
 zO (fn:=f91) wT ⟨_,func91,by kernel_rfl,rfl,by kernel_rfl⟩ false [] _ fun args r h=>by
  obtain⟨v,rfl,hv,rfl⟩:=xW h
  exact⟨by simp[f91],_,zb rfl (by simp[f91,cSpare]),zM _⟩
noncomputable abbrev Ck (n:Nat):Ctx:=zF prog [(59,zf false [] (FV (fun v=>int v.fault) n)),(91,GV fun v=>boo (cSpare v.kind v.n v.s v.items.length v.fields.length)),(92,zf false [] (FS (zW 32 126)))]
@[simp] theorem qk (n:Nat):wo (Ck n) 92:=qv (by rfl) (zg _ _)
theorem faultV_drop {l:List Val} {k:Nat} (h:k<l.length):faultV (l.drop k)=if l[k].fault=0 then faultV (l.drop (k+1)) else l[k].fault:=by
 rw[List.drop_eq_getElem_cons h,faultV]
theorem faultF_drop {l:List (List UInt8×Val)} {k:Nat} (h:k<l.length) (p:Option (List UInt8)):faultF p (l.drop k)=if cName l[k].1 then 5 else if cPrev p l[k].1 then 8 else if l[k].2.fault=0 then faultF (some l[k].1) (l.drop (k+1)) else l[k].2.fault:=by
 rw[List.drop_eq_getElem_cons h,faultF]
def jC (l:List (List UInt8×Val)) (k:Nat):Option (List UInt8):=if k=0 then none else (l[k - 1]?).map (·.1)
theorem checkPart_eval (n:Nat) (v:Val) (h:v.vb≤lim∧v.vb≤n+1):zj (Ck n) f59 [.agg v.enc]=some (int v.fault):=by
 have hvb:=kM v
 have hl1:=qp v.items
 have hl2:=qL v.fields
 obtain⟨ha,hb⟩:=h
 unfold lim at ha
 have hf:=fault_eq v
 have hsp:=fun hp nx=>vi (fun v=>boo (cSpare v.kind v.n v.s v.items.length v.fields.length)) v hp nx ha
 have hsl:v.s.length≤lim:=by unfold lim;omega
 refine zb rfl ?_
 have e1:(decide (v.kind<0)||decide (5<v.kind))=cKind v.kind:=rfl
 have e2:(v.kind==1&&v.n != 0&&v.n != 1)=cRange1 v.kind v.n:=rfl
 have e3:(v.kind==2&&(decide (v.n≤-1000000000000000)||decide (1000000000000000≤v.n)))=vj v.kind v.n:=rfl
 have e4:(decide ((100:Int)<v.items.length)||decide ((100:Int)<v.fields.length))=cMany v.items.length v.fields.length:=rfl
 have e5:decide ((500:Int)<v.s.length)=cLong v.s:=rfl
 cases c1:cKind v.kind
 case true=>simp[e1,c1,hf,kz,f59]
 cases c2:cSpare v.kind v.n v.s v.items.length v.fields.length
 case true=>simp[e1,c1,hsp,c2,hf,kz,f59]
 cases c3:cRange1 v.kind v.n
 case true=>simp[e1,c1,hsp,c2,e2,c3,hf,kz,f59]
 cases c4:vj v.kind v.n
 case true=>simp[e1,c1,hsp,c2,e2,c3,e3,c4,hf,kz,f59]
 cases c5:cLong v.s
 case true=>simp[e1,c1,hsp,c2,e2,c3,e3,c4,e5,c5,hf,kz,f59]
 cases c6:zW 32 126 v.s
 case false=>simp[e1,c1,hsp,c2,e2,c3,e3,c4,e5,c5,c6,hsl,hf,kz,f59]
 cases c7:cMany v.items.length v.fields.length
 case true=>simp[e1,c1,hsp,c2,e2,c3,e3,c4,e5,c5,c6,hsl,e4,c7,hf,kz,f59]
 have hh:kz v.kind v.n v.s v.items.length v.fields.length=0:=by simp[kz,c1,c2,c3,c4,c5,c6,c7]
 rw[hh,if_pos rfl] at hf
 simp[e1,c1,hsp,c2,e2,c3,e3,c4,e5,c5,c6,hsl,e4,c7]
 refine zy (fun k σ hp nx=>σ 1=.ref 0 0 0∧σ 70=.sl 5 (v.items.map Val.enc)∧σ 71=int v.items.length∧σ 72=int k∧1≤nx∧hp 0=some ⟨63,5,false,[v.enc]⟩∧faultV v.items=faultV (v.items.drop k)) v.items.length
  ⟨by simp,by simp,by simp,by simp,by simp,by simp,by simp⟩ ?_
 rintro k σ hp nx hk ⟨h1,h70,h71,h72,hnx,b0,he⟩
 have n0:¬0=nx:=by omega
 by_cases hlt:k<v.items.length
 ·have hm:=q8 (List.getElem_mem hlt)
  have hw:IntKind.i64.wrap ((k:Int)+1)=(k:Int)+1:=zh (by omega) (by omega)
  have hcall:=fun hp nx=>FV_call (fun v=>int v.fault) n v.items[k] hp nx ⟨by unfold lim;omega,by omega⟩
  rw[faultV_drop hlt] at he
  by_cases hz:v.items[k].fault=0
  ·rw[if_pos hz] at he
   simp[h1,h70,h71,h72,hlt,hcall,hz,hw]
   and_intros<;>first | omega | exact he | simp[n0,b0]
  ·rw[if_neg hz] at he
   have hz2:(v.items[k].fault != 0)=true:=by simpa using hz
   rw[he,if_neg hz] at hf
   simp[h1,h70,h71,h72,hlt,hcall,hz2,hf,f59]
 ·obtain rfl:k=v.items.length:=by omega
  rw[List.drop_length] at he
  have he:faultV v.items=0:=by rw[he];rfl
  rw[he,if_pos rfl] at hf
  simp[h1,h70,h71,h72,b0]
  refine zy (fun k σ hp nx=>σ 1=.ref 0 0 0∧σ 83=.sl 6 (v.fields.map encF)∧σ 84=int v.fields.length∧σ 85=int k∧1≤nx∧hp 0=some ⟨63,5,false,[v.enc]⟩∧v.fault=faultF (jC v.fields k) (v.fields.drop k)) v.fields.length
   ⟨by simp[h1],by simp,by simp,by simp,hnx,b0,by simp[hf,jC]⟩ ?_
  clear h1 h70 h71 h72 hnx b0 hlt hk n0 nx hp σ hf
  rintro k σ hp nx hk ⟨h1,h83,h84,h85,hnx,b0,hf⟩
  have n0:¬0=nx:=by omega
  by_cases hlt:k<v.fields.length
  ·have hm:=yn (List.getElem_mem hlt)
   have hw:IntKind.i64.wrap ((k:Int)+1)=(k:Int)+1:=zh (by omega) (by omega)
   have hnl:v.fields[k].1.length≤lim:=by unfold lim;omega
   have hcall:=fun hp nx=>FV_call (fun v=>int v.fault) n v.fields[k].2 hp nx ⟨by unfold lim;omega,by omega⟩
   have en:(v.fields[k].1.isEmpty||decide ((60:Int)<v.fields[k].1.length)||!zW 32 126 v.fields[k].1)=cName v.fields[k].1:=rfl
   rw[faultF_drop hlt] at hf
   cases d1:cName v.fields[k].1
   case true=>simp[h1,h83,h84,h85,hlt,hnl,en,d1,hf,f59]
   have hpv:jC v.fields (k+1)=some v.fields[k].1:=by simp[jC,hlt]
   simp only[d1,Bool.false_eq_true,if_false] at hf
   by_cases k0:k=0
   ·subst k0
    simp only[jC,cPrev,if_true,Bool.false_eq_true,if_false] at hf
    by_cases hz:v.fields[0].2.fault=0
    ·rw[if_pos hz] at hf
     have w1:IntKind.i64.wrap 1=1:=zh (by omega) (by omega)
     simp[h1,h83,h84,h85,hlt,hnl,en,d1,hcall,hz,w1]
     and_intros<;>first | omega | (rw[hf];rw[hpv];simp;done) | simp[n0,b0]
    ·rw[if_neg hz] at hf
     have hz2:(v.fields[0].2.fault != 0)=true:=by simpa using hz
     simp[h1,h83,h84,h85,hlt,hnl,en,d1,hcall,hz2,hf,f59]
   ·obtain⟨j,rfl⟩:∃j,k=j+1:=⟨k - 1,by omega⟩
    have hj:j<v.fields.length:=by omega
    have wj:IntKind.i64.wrap ((j:Int)+1 - 1)=(j:Int):=by rw[zh (by omega) (by omega)];omega
    have wj':IntKind.i64.wrap (j:Int)=(j:Int):=zh (by omega) (by omega)
    have j1:((j:Int)+1).toNat=j+1:=by omega
    have j2:0<(j:Int)+1:=by omega
    have j3:0≤(j:Int)+1:=by omega
    have j4:(j:Int)+1<v.fields.length:=by omega
    have wk:IntKind.i64.wrap ((j:Int)+1+1)=(j:Int)+1+1:=zh (by omega) (by omega)
    have el:(Op.bytesLess v.fields[j+1].1 v.fields[j].1||v.fields[j+1].1==v.fields[j].1)=leB v.fields[j+1].1 v.fields[j].1:=rfl
    have hpj:jC v.fields (j+1)=some v.fields[j].1:=by simp[jC,hj]
    simp only[hpj,cPrev] at hf
    cases d2:leB v.fields[j+1].1 v.fields[j].1
    case true =>
     simp only[d2,if_true] at hf
     simp[h1,h83,h84,h85,hlt,hj,hnl,en,d1,hcall,b0,n0,wj,wj',j1,j2,j3,j4,el,d2,hf,f59]
    simp only[d2,Bool.false_eq_true,if_false] at hf
    by_cases hz:v.fields[j+1].2.fault=0
    ·rw[if_pos hz] at hf
     simp[h1,h83,h84,h85,hlt,hj,hnl,en,d1,hcall,b0,n0,wj,wj',j1,j2,j3,j4,el,d2,hz,wk]
     and_intros<;>first | omega | (rw[hf];rw[hpv]) | simp[n0,b0]
    ·rw[if_neg hz] at hf
     have hz2:(v.fields[j+1].2.fault != 0)=true:=by simpa using hz
     simp[h1,h83,h84,h85,hlt,hj,hnl,en,d1,hcall,b0,n0,wj,wj',j1,j2,j3,j4,el,d2,hz2,hf,f59]
  ·obtain rfl:k=v.fields.length:=by omega
   rw[List.drop_length] at hf
   have hf:v.fault=0:=by rw[hf];rfl
   simp[h1,h83,h84,h85,hf,f59]
set_option maxRecDepth 100000 in
theorem checkPart_sound:∀n,za prog 59 (zf false [] (FV (fun v=>int v.fault) n)):=by
 intro n
 induction n with
 | zero=>exact FV_zero ⟨_,func59,by kernel_rfl,by kernel_rfl⟩
 | succ n ih =>
   have hg:AM.Good (Ck n) (fun g=>[92].contains g):=zm mixed ⟨ih,by simp,spare_sound,by simp,seen_sound,fun _=>zg _ _,trivial⟩
   exact zO (fn:=f59) hg ⟨_,func59,by kernel_rfl,rfl,by kernel_rfl⟩ false [] _ fun args r h=>by
    obtain⟨v,rfl,hv,rfl⟩:=xW h
    exact⟨Nat.le_trans (Nat.le_refl 1) (by decide),_,checkPart_eval n v hv,zM _⟩
def Val.check (v:Val):Int:=if decide ((1000:Int)<v.parts)||decide ((8:Int)<v.levels) then 2 else v.fault
noncomputable abbrev Cch:Ctx:=zF prog [(59,GV fun v=>int v.fault),(58,GV fun v=>.tup [int v.parts,int v.levels])]
theorem check_sound:za prog 44 (GV fun v=>int v.check) :=
 zO (fn:=f44) (zm (q:=[]) mixed ⟨checkPart_sound lim,by simp,count_sound lim,by simp,trivial⟩:AM.Good Cch _) ⟨_,func44,by kernel_rfl,rfl,by kernel_rfl⟩ false [] _ fun args r h=>by
  obtain⟨v,rfl,hv,rfl⟩:=xW h
  have h1:=fun hp nx=>vi (fun v=>int v.fault) v hp nx hv.1
  have h2:=fun hp nx=>vi (fun v=>.tup [int v.parts,int v.levels]) v hp nx hv.1
  refine⟨by simp[f44],_,zb rfl ?_,zM _⟩
  cases hc:(decide ((1000:Int)<v.parts)||decide ((8:Int)<v.levels))
  ·simp[h1,h2,hc,f44,Val.check]
  ·simp[h1,h2,hc,f44,Val.check]
end Go.Proofs.YtpeaooooimfihaaGreatDoor
namespace Go.Proofs.YtpeaooooimfihaaGreatDoor
open Go.Proofs.Tryz
open Go.RowKit Go.AM Go.PrLaw
mutual
def Val.show:Val→List UInt8
 | .mk k n s is fs=>if k=0 then [110,117,108,108] else if k=1 then (if n=1 then [116,114,117,101] else [102,97,108,115,101]) else if k=2 then xm n else if k=3 then quoB s else
   if k=4 then 91::(Lib.join (showVs is) [44]++[93]) else 123::(Lib.join (showFs fs) [44]++[125])
def showVs:List Val→List (List UInt8)
 | []=>[]
 | v::l=>v.show::showVs l
def showFs:List (List UInt8×Val)→List (List UInt8)
 | []=>[]
 | (a,v)::l=>(quoB a++(58::v.show))::showFs l
end
theorem showVs_map:∀l:List Val,showVs l=l.map Val.show
 | []=>rfl
 | v::l=>by simp[showVs,showVs_map l]
def jr (f:List UInt8×Val):List UInt8:=quoB f.1++(58::f.2.show)
theorem showFs_map:∀l:List (List UInt8×Val),showFs l=l.map jr
 | []=>rfl
 | (a,v)::l=>by simp[showFs,showFs_map l,jr]
theorem wM (v:Val):v.show=if v.kind=0 then [110,117,108,108] else if v.kind=1 then (if v.n=1 then [116,114,117,101] else [102,97,108,115,101]) else if v.kind=2 then xm v.n else if v.kind=3 then quoB v.s else
  if v.kind=4 then 91::(Lib.join (v.items.map Val.show) [44]++[93]) else 123::(Lib.join (v.fields.map jr) [44]++[125]):=by
 cases v;rw[Val.show,showVs_map,showFs_map];rfl
theorem show_mk (k n:Int) (s:List UInt8) (is:List Val) (fs:List (List UInt8×Val)):(Val.mk k n s is fs).show=if k=0 then [110,117,108,108] else if k=1 then (if n=1 then [116,114,117,101] else [102,97,108,115,101]) else if k=2 then xm n else if k=3 then quoB s else
  if k=4 then 91::(Lib.join (is.map Val.show) [44]++[93]) else 123::(Lib.join (fs.map jr) [44]++[125]):=wM _
theorem fault_mk (k n:Int) (s:List UInt8) (is:List Val) (fs:List (List UInt8×Val)):(Val.mk k n s is fs).fault=if kz k n s is.length fs.length=0 then (if faultV is=0 then faultF none fs else faultV is) else kz k n s is.length fs.length:=fault_eq _
inductive VOk:Val→Prop
 | mk {k n:Int} {s:List UInt8} {is:List Val} {fs:List (List UInt8×Val)}:0≤k→k≤5→(k=2→-1000000000000000<n∧n<1000000000000000)→(∀x∈is,VOk x)→(∀f∈fs,VOk f.2)→VOk (.mk k n s is fs)
theorem VOk.kind {v:Val} (h:VOk v):0≤v.kind∧v.kind≤5:=by cases h;exact⟨by assumption,by assumption⟩
theorem VOk.num {v:Val} (h:VOk v) (hk:v.kind=2):-1000000000000000<v.n∧v.n<1000000000000000:=by cases h with | mk _ _ h3 _ _=>exact h3 hk
theorem VOk.items {v:Val} (h:VOk v):∀x∈v.items,VOk x:=by cases h;assumption
theorem VOk.fields {v:Val} (h:VOk v):∀f∈v.fields,VOk f.2:=by cases h;assumption
theorem vN (v:Val) (h:VOk v):v.show.length+4≤30*v.vb:=by
 induction v using Val.ind with
 | h k n s is fs h1 h2 =>
   have hb:=kM (.mk k n s is fs)
   simp only[Val.s,Val.items,Val.fields] at hb
   rw[show_mk]
   split
   ·simp;omega
   split
   ·split<;>simp<;>omega
   split
   ·rename_i hk
    obtain⟨a,b⟩:=h.num hk
    have:=thouB_len (n:=n) a b
    omega
   split
   ·have:=jA s
    omega
   split
   ·have key:∀l:List Val,(∀x∈l,x.show.length+4≤30*x.vb)→((l.map Val.show).map fun x=>([44]:List UInt8).length+x.length).sum≤30*vbs l:=by
     intro l
     induction l with
     | nil=>intro _;simp
     | cons v l ih =>
       intro hh
       have a:=hh v (by simp)
       have b:=ih fun x hx=>hh x (by simp[hx])
       simp only[List.map_cons,List.sum_cons,vbs,List.length_singleton] at b ⊢
       omega
    have j:=kx [44] (is.map Val.show)
    have:=key is fun x hx=>h1 x hx (h.items x hx)
    simp only[List.length_cons,List.length_append,List.length_nil]
    omega
   ·have key:∀l:List (List UInt8×Val),(∀f∈l,f.2.show.length+4≤30*f.2.vb)→((l.map jr).map fun x=>([44]:List UInt8).length+x.length).sum≤30*fbs l:=by
     intro l
     induction l with
     | nil=>intro _;simp
     | cons f l ih =>
       intro hh
       have a:=hh f (by simp)
       have b:=ih fun x hx=>hh x (by simp[hx])
       have q:=jA f.1
       obtain⟨c,v⟩:=f
       simp only[List.map_cons,List.sum_cons,fbs,List.length_singleton,jr,List.length_append,List.length_cons,List.length_nil] at a b q ⊢
       omega
    have j:=kx [44] (fs.map jr)
    have:=key fs fun x hx=>h2 x hx (h.fields x hx)
    simp only[List.length_cons,List.length_append,List.length_nil]
    omega
theorem vok_of_fault (v:Val) (h:v.fault=0):VOk v:=by
 induction v using Val.ind with
 | h k n s is fs h1 h2 =>
   rw[fault_mk] at h
   split at h
   case isFalse hh=>exact (hh h).elim
   rename_i hh
   split at h
   case isFalse hv=>exact (hv h).elim
   rename_i hv
   have hk:cKind k=false:=by
    cases hc:cKind k
    ·rfl
    ·rw[kz,hc] at hh;simp at hh
   have hr:vj k n=false:=by
    cases hc:vj k n
    ·rfl
    ·rw[kz,hk,hc] at hh
     simp only[Bool.or_true,if_true,if_false,Bool.false_eq_true] at hh
     split at hh<;>simp at hh
   simp[cKind] at hk
   refine .mk hk.1 hk.2 (fun e=>?_) ?_ ?_
   ·subst e
    simp[vj] at hr
    omega
   ·have key:∀l:List Val,(∀x∈l,x.fault=0→VOk x)→faultV l=0→∀x∈l,VOk x:=by
     intro l
     induction l with
     | nil=>intro _ _ x hx;cases hx
     | cons y l ih =>
       intro a b x hx
       rw[faultV] at b
       split at b
       ·rename_i hy
        rcases List.mem_cons.1 hx with rfl | hx
        ·exact a _ (by simp) hy
        ·exact ih (fun z hz=>a z (by simp[hz])) b x hx
       ·rename_i hy;exact (hy b).elim
    exact key is h1 hv
   ·have key:∀(l:List (List UInt8×Val)) (p:Option (List UInt8)),(∀f∈l,f.2.fault=0→VOk f.2)→faultF p l=0→∀f∈l,VOk f.2:=by
     intro l
     induction l with
     | nil=>intro _ _ _ x hx;cases hx
     | cons y l ih =>
       intro p a b x hx
       obtain⟨c,y⟩:=y
       rw[faultF] at b
       split at b
       ·simp at b
       split at b
       ·simp at b
       split at b
       ·rename_i hy
        rcases List.mem_cons.1 hx with rfl | hx
        ·exact a _ (by simp) hy
        ·exact ih _ (fun z hz=>a z (by simp[hz])) b x hx
       ·rename_i hy;exact (hy b).elim
    exact key fs none h2 h
end Go.Proofs.YtpeaooooimfihaaGreatDoor
