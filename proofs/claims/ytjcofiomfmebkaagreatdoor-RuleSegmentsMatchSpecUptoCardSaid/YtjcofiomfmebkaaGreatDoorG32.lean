/-
The abstract machine, part 37: functions that turn a row of texts in place (slices.Sort, slices.Compact).
-/
import Derived.Test.YtjcofiomfmebkaaGreatDoorG18
import Derived.Sort.EncStr
import Derived.Test.YtjcofiomfmebkaaGreatDoorG13
import Derived.Shelf.Sort.Plain
import Derived.Shelf.Slices.CompactS
import Derived.Shelf.Slices.In.SortNone
import Derived.Lib.RowBridge
import Derived.Ground.Names2Prog
import Derived.Test.YtjcofiomfmebkaaGreatDoorG19
import Derived.Test.YtjcofiomfmebkaaGreatDoorG25
import Derived.Test.YtjcofiomfmebkaaGreatDoorG31
import Derived.Test.YtjcofiomfmebkaaGreatDoorG30
set_option maxRecDepth 8000
namespace Go.AM
open Go.RowKit Go.Sort Go.Proofs
variable {dr:Prop}
abbrev J2 (zs:List (List UInt8)):List (List PV):=zs.map fun n=>[str n]
theorem zpO {a b:List (List UInt8)} (h:J2 a=J2 b):a=b :=
 yz (fun x y e=>by
  have:=List.head_eq_of_cons_eq e
  exact qg this) h
@[simp] theorem VO (zs:List (List UInt8)):(J2 zs).length=zs.length:=by simp[J2]
theorem zpP {zs:List (List UInt8)} {i:Nat} {c:List PV} (h:(J2 zs)[i]?=some c):∃hi:i<zs.length,c=[str zs[i]]:=by
 unfold J2 at h
 rw[List.getElem?_map] at h
 cases hz:zs[i]? with
 | none=>rw[hz] at h;cases h
 | some x =>
   rw[hz] at h
   obtain⟨hi,rfl⟩:=List.getElem?_eq_some_iff.1 hz
   exact⟨hi,by simpa using h.symm⟩
def znb (P:Program) (f:Nat) (F:List (List UInt8)→List (List UInt8)) (res:Bool):Prop :=
 ∀(blk cap:Nat) (zs:List (List UInt8)) (w:World),Holds encStr w blk 0 zs.toArray→blk<w.heap.size→zs.length<4611686018427387904→zs.length≤cap →
  Calls P f #[.slice (some ⟨blk,0,none⟩) zs.length cap] w fun e w'=>e=.returned (if res then .slice (some ⟨blk,0,none⟩) (F zs).length cap else .tuple #[]) ∧
   ∃(q:Nat) (os:Array Obj) (d:List (List UInt8)),d.length=zs.length∧(∃r,d=F zs++r)∧w'=grow (putRow encStr (Sort.ahead w q) blk 0 d.toArray) os
open Classical in
noncomputable def zeH (es:List (List PV)):Option (List (List UInt8)):=if h:∃zs:List (List UInt8),es=J2 zs then some h.choose else none
theorem znc (zs:List (List UInt8)):zeH (J2 zs)=some zs:=by
 have hx:∃ys:List (List UInt8),J2 zs=J2 ys:=⟨zs,rfl⟩
 unfold zeH
 rw[dif_pos hx]
 have e:=zpO hx.choose_spec
 rw[←e]
theorem zj7 {es:List (List PV)} {zs:List (List UInt8)} (h:zeH es=some zs):es=J2 zs:=by
 unfold zeH at h
 split at h
 ·rename_i hx
  injection h with h
  rw[←h]
  exact hx.choose_spec
 ·cases h
noncomputable def zci (F:List (List UInt8)→List (List UInt8)) (res:Bool):AM.Spec:=fun args hp nx =>
 match args with
 | [.nil]=>some (if res then .nil else .tup [],hp,nx)
 | [.own id off n]=>match hp id with
   | some b=>match zeH b.es with
     | some zs=>if off=0∧b.arr=true∧b.s=1∧n=zs.length∧zs.length<4611686018427387904 then
       some (if res then .own id 0 (F zs).length else .tup [],upd hp id (some ⟨b.e,b.s,b.arr,J2 (F zs)⟩),nx) else none
     | none=>none
   | none=>none
 | _=>none
theorem zax (F:List (List UInt8)→List (List UInt8)) (res:Bool) {id e:Nat} {zs:List (List UInt8)} {hp:Hp} {nx:Nat} (h:hp id=some ⟨e,1,true,J2 zs⟩) (hz:zs.length<4611686018427387904) :
  zci F res [.own id 0 zs.length] hp nx=some (if res then .own id 0 (F zs).length else .tup [],upd hp id (some ⟨e,1,true,J2 (F zs)⟩),nx):=by
 unfold zci
 simp only[h,znc]
 simp only[hz,and_self,if_true]
theorem XD (w:World) (blk:Nat) (d:Array (List UInt8)) {cur:Array Value} {e:TypeId} (h:w.heap[blk]?=some (.cells cur e (0,0))) :
  putRow encStr w blk 0 d=w.setRow blk (putCells encStr 0 d cur):=by
 unfold putRow mapBlock World.setRow
 congr 1
 apply Array.ext_getElem?
 intro i
 simp only[Array.getElem?_modify]
 by_cases hi:blk=i
 ·subst hi
  simp only[if_true,h,Option.map_some,onCells]
 ·simp[hi]
theorem zeI (w:World) (blk q:Nat) (d:Array (List UInt8)) (os:Array Obj):Fr dr (putRow encStr w blk 0 d) (fun _=>False) (grow (putRow encStr (Sort.ahead w q) blk 0 d) os):=by
 refine⟨rfl,rfl,rfl,?_,fun _=>?_,fun b hb _=>?_⟩
 ·show _≤(_++os).size
  rw[Array.size_append]
  exact Nat.le_add_right _ _
 ·exact Nat.le_add_right _ _
 ·exact Array.getElem?_append_left hb
theorem VP {P:Program} {f:Nat} {F:List (List UInt8)→List (List UInt8)} {res:Bool} (hfn:∃fn,P.funcs[f]?=some fn∧(fn.name== "runtime.NumGoroutine")=false∧fn.body.isNone=false) (hok:znb P f F res) (hnil:∀w,Calls P f #[.slice none 0 0] w fun e w'=>e=.returned (if res then .slice none 0 0 else .tuple #[])∧w'=w):jt dr P f (zci F res):=by
 refine⟨hfn,?_⟩
 intro args hp nx r hp' nx' h w S G vs hi hz
 unfold zci at h
 split at h
 case h_3=>cases h
 case h_1 =>
  obtain⟨u,us,rfl,hu,hz'⟩:=hz.uncons
  obtain rfl:=hz'.unnil
  obtain rfl:=hu.nil_inv
  injection h with h
  injection h with e1 h
  injection h with e2 e3
  subst e1;subst e2;subst e3
  refine (hnil w).mono fun e w' hh=>?_
  obtain⟨rfl,rfl⟩:=hh
  refine⟨_,S,G,rfl,.refl hi,?_⟩
  cases res with
  | false=>exact qW
  | true=>exact .c .nil
 rename_i id off n
 obtain⟨u,us,rfl,hu,hz'⟩:=hz.uncons
 obtain rfl:=hz'.unnil
 have hop:=hu.own_pos
 obtain⟨cap,g1,g2,g3,g4,rfl⟩:=hu.own_inv
 split at h
 case h_2=>cases h
 rename_i b hb
 split at h
 case h_2=>cases h
 rename_i zs hes
 have hes:=zj7 hes
 split at h
 case isFalse=>cases h
 rename_i hx
 obtain⟨rfl,harr,hbs,hn,hlen⟩:=hx
 injection h with h
 injection h with e1 h
 injection h with e2 e3
 subst e1;subst e2;subst e3;subst hn
 have hbr:=hi.live id b hb
 have hgs:(G id).s=1:=by rw[←hbr.bs];exact hbs
 obtain⟨cur,c1,c2,c3⟩:=hbr.row hop
 rw[hgs] at c3 g4
 have hfit:=hbr.fit hop
 rw[hes,hgs] at hfit
 simp only[VO,Nat.mul_one,Nat.zero_add] at hfit g4
 have hcell:∀j (hj:j<zs.length),cur[j]?=some (encStr zs[j]):=fun j hj=>by
  obtain⟨u,q1,q2⟩:=c3 j 0 [str zs[j]] (str zs[j]) (by rw[hes];simp[J2,hj]) rfl
  rw[Nat.mul_one,Nat.add_zero] at q1
  obtain⟨rfl,_⟩:=q2.2.1.v_inv
  exact q1
 have hH:Holds encStr w (G id).g 0 zs.toArray:=by
  intro j hj
  have hj':j<zs.length:=by simpa using hj
  constructor
  ·rw[Nat.zero_add,cell_of_row w _ _ cur _ _ c1,hcell j hj']
   rw[getElem!_pos _ j hj]
   simp
  ·simp[World.frozen?,c1]
 have key:=hok (G id).g cap zs w hH hbr.lt hlen g2
 rw[hgs]
 simp only[Nat.zero_mul]
 refine key.mono fun e w' hh=>?_
 obtain⟨rfl,q,os,d,hd1,⟨rr,hd2⟩,rfl⟩:=hh
 have hFl:(F zs).length≤zs.length:=by rw[←hd1,hd2,List.length_append];omega
 have hst:=Stp.set (dr:=dr) hi hb hop (putCells encStr 0 d.toArray cur) (J2 (F zs)) (by simp[putCells,c2])
  (fun c hc=>by
   obtain⟨x,_,rfl⟩:=List.mem_map.1 hc
   rw[hgs];rfl)
  (by rw[hgs,VO];omega)
  (fun i j c pv hci hcj=>by
   obtain⟨hil,rfl⟩:=zpP hci
   have hj0:j=0:=by
    have:=(List.getElem?_eq_some_iff.1 hcj).1
    simpa using this
   subst hj0
   obtain rfl:str (F zs)[i]=pv:=by simpa using hcj
   refine⟨encStr (F zs)[i],?_,fun _=>.v rfl,.c (.v rfl),rfl⟩
   rw[hgs,Nat.mul_one,Nat.add_zero]
   have hic:i<cur.size:=by rw[c2];omega
   unfold putCells
   rw[Array.getElem?_mapIdx,Array.getElem?_eq_getElem hic]
   simp only[Option.map_some]
   have hid:i<d.length:=by omega
   rw[if_pos ⟨Nat.zero_le _,by simpa using hid⟩]
   have:d.toArray[i - 0]! = (F zs)[i]:=by
    rw[Nat.sub_zero,getElem!_pos _ i (by simpa using hid)]
    simp[hd2,List.getElem_append_left hil]
   rw[this])
 rw[←XD w _ _ c1] at hst
 refine⟨_,S,G,rfl,hst.trans (Stp.grown hst.inv (zeI w (G id).g q d.toArray os)),?_⟩
 cases res with
 | false=>exact qW
 | true =>
   simp only[if_true]
   have:=RepO.own (w:=grow (putRow encStr (Sort.ahead w q) (G id).g 0 d.toArray) os) (S:=S) (G:=G) (nx:=nx) (id:=id) (off:=0) (n:=(F zs).length) (cap:=cap) g1 (by omega) g3 (by rw[hgs];omega) hop
   simpa using this
end Go.AM
namespace Go.Proofs
open Go.Shelf
def Tryz.lays190_ren:Go.Shelf.Ren:=⟨fun | 125=>104 | 128=>132 | 129=>133 | 190=>67 | 258=>103 | 302=>124 | 303=>125 | 304=>126 | 305=>127 | 306=>128 | 307=>129 | 308=>73 | 309=>130 | 310=>131 | 329=>166 | 330=>167 | 333=>165 | 334=>168 | 335=>169 | 336=>105 | 344=>217 | n=>n,fun | 0=>0 | 3=>3 | 4=>4 | 5=>5 | 9=>9 | 31=>37 | 46=>81 | 51=>131 | 53=>133 | 131=>31 | 182=>124 | 183=>125 | 218=>175 | 222=>179 | 228=>224 | 229=>82 | n=>n,fun | n=>n⟩
theorem Tryz.lays190:Go.Proofs.Lays.n190 prog Tryz.lays190_ren:={
 mixed:=by kernel_rfl
 f125:=func104.trans (congrArg some (by kernel_rfl))
 f128:=func132.trans (congrArg some (by kernel_rfl))
 f129:=func133.trans (congrArg some (by kernel_rfl))
 f190:=func67.trans (congrArg some (by kernel_rfl))
 f258:=func103.trans (congrArg some (by kernel_rfl))
 f302:=func124.trans (congrArg some (by kernel_rfl))
 f303:=func125.trans (congrArg some (by kernel_rfl))
 f304:=func126.trans (congrArg some (by kernel_rfl))
 f305:=func127.trans (congrArg some (by kernel_rfl))
 f306:=func128.trans (congrArg some (by kernel_rfl))
 f307:=func129.trans (congrArg some (by kernel_rfl))
 f308:=func73.trans (congrArg some (by kernel_rfl))
 f309:=func130.trans (congrArg some (by kernel_rfl))
 f310:=func131.trans (congrArg some (by kernel_rfl))
 f329:=func166.trans (congrArg some (by kernel_rfl))
 f330:=func167.trans (congrArg some (by kernel_rfl))
 f333:=func165.trans (congrArg some (by kernel_rfl))
 f334:=func168.trans (congrArg some (by kernel_rfl))
 f335:=func169.trans (congrArg some (by kernel_rfl))
 f336:=func105.trans (congrArg some (by kernel_rfl))
 f344:=func217.trans (congrArg some (by kernel_rfl))
 t0:=underlying0
 a0:=isAgg0
 z0:=sizeOf0
 v0:=zeroValue0
 t3:=underlying3
 a3:=isAgg3
 z3:=sizeOf3
 v3:=zeroValue3
 t4:=underlying4
 a4:=isAgg4
 z4:=sizeOf4
 v4:=zeroValue4
 t5:=underlying5
 a5:=isAgg5
 z5:=sizeOf5
 v5:=zeroValue5
 t9:=underlying9
 a9:=isAgg9
 z9:=sizeOf9
 v9:=zeroValue9
 t31:=underlying37
 a31:=isAgg37
 z31:=sizeOf37
 v31:=zeroValue37
 t46:=underlying81
 a46:=isAgg81
 z46:=sizeOf81
 v46:=zeroValue81
 t51:=underlying131
 a51:=isAgg131
 z51:=sizeOf131
 v51:=zeroValue131
 t53:=underlying133
 a53:=isAgg133
 z53:=sizeOf133
 v53:=zeroValue133
 t131:=underlying31
 a131:=isAgg31
 z131:=sizeOf31
 v131:=zeroValue31
 t182:=underlying124
 a182:=isAgg124
 z182:=sizeOf124
 v182:=zeroValue124
 t183:=underlying125
 a183:=isAgg125
 z183:=sizeOf125
 v183:=zeroValue125
 t218:=underlying175
 a218:=isAgg175
 z218:=sizeOf175
 v218:=zeroValue175
 t222:=underlying179
 a222:=isAgg179
 z222:=sizeOf179
 v222:=zeroValue179
 t228:=underlying224
 a228:=isAgg224
 z228:=sizeOf224
 v228:=zeroValue224
 t229:=underlying82
 a229:=isAgg82
 z229:=sizeOf82
 v229:=zeroValue82 }
def Tryz.lays194_ren:Go.Shelf.Ren:=⟨fun | 194=>68 | n=>n,fun | 0=>0 | 3=>3 | 4=>4 | 9=>9 | 31=>37 | n=>n,fun | n=>n⟩
theorem Tryz.lays194:Go.Proofs.Lays.n194 prog Tryz.lays194_ren:={
 mixed:=by kernel_rfl
 f194:=func68.trans (congrArg some (by kernel_rfl))
 t0:=underlying0
 a0:=isAgg0
 z0:=sizeOf0
 v0:=zeroValue0
 t3:=underlying3
 a3:=isAgg3
 z3:=sizeOf3
 v3:=zeroValue3
 t4:=underlying4
 a4:=isAgg4
 z4:=sizeOf4
 v4:=zeroValue4
 t9:=underlying9
 a9:=isAgg9
 z9:=sizeOf9
 v9:=zeroValue9
 t31:=underlying37
 a31:=isAgg37
 z31:=sizeOf37
 v31:=zeroValue37 }
end Go.Proofs
namespace Go.Proofs.YtjcofiomfmebkaaGreatDoor
open Go.Proofs.Tryz
open Go.RowKit Go.AM Go.Sort
abbrev XE (zs:List (List UInt8)):List (List UInt8):=zs.mergeSort fun x y=>decide (x≤y)
theorem zpQ:znb prog 67 XE false:=by
 intro blk cap zs w hH hb hz hc
 refine (Any.slices_Sort_string Tryz.lays190 blk 0 cap zs w hH hb hz).mono fun e w' hh=>?_
 obtain⟨rfl,n,os,rfl⟩:=hh
 exact⟨rfl,n,os,_,by rw[List.length_mergeSort],⟨[],by simp⟩,rfl⟩
theorem zgJ:znb prog 68 Lib.compact true:=by
 intro blk cap zs w hH hb hz hc
 refine (Any.slices_Compact_string Tryz.lays194 blk 0 cap zs w hH (by omega) hc).mono fun e w' hh=>?_
 obtain⟨rfl,q,rfl⟩:=hh
 refine⟨rfl,q,#[],Lib.compact zs++List.replicate (zs.length - (Lib.compact zs).length) [],?_,⟨_,rfl⟩,by simp⟩
 have:=Lib.compact_length_le zs
 simp;omega
theorem zgK:za prog 67 (zci XE false) :=
 VP ⟨_,func67,by decide,by kernel_rfl⟩ zpQ fun w=>Any.slices_Sort_string_none Tryz.lays190 none 0 w
theorem XF:za prog 68 (zci Lib.compact true) :=
 VP ⟨_,func68,by decide,by kernel_rfl⟩ zgJ fun w=>Any.slices_Compact_string_empty Tryz.lays194 none 0 w
def xU (l:List (List UInt8)):List (List UInt8):=Lib.compact (XE l)
noncomputable abbrev zul:Ctx:=zC prog [(66,qP [] (vj 9 1)),(67,zci XE false),(68,zci Lib.compact true)]
theorem zgL (l:List (List UInt8)) (hl:l.length≤lim) (y:PV) (hy:SlOf 1 (zD l) y):∃r0,zg zul f47 [y]=some r0∧Stands r0 (.sl 1 (zD (xU l))):=by
 refine kZ rfl ?_
 have hz:l.length<4611686018427387904:=by unfold lim at hl;omega
 have hsl:(XE l).length=l.length:=List.length_mergeSort _
 have hcl:=X8 (e:=9) hy (by simpa[zD] using hl) (fun _=>none) 0
 have key:y=.nil∧l=[]∨(vw 9 1 (zD l) y 0).1=.own 0 0 l.length∧(vw 9 1 (zD l) y 0).2.1 (fun _=>none)=upd (fun _=>none) 0 (some ⟨9,1,true,J2 l⟩)∧(vw 9 1 (zD l) y 0).2.2=1:=by
  generalize he:zD l=es at hy
  cases hy with
  | nil=>exact .inl ⟨rfl,by simpa[zD] using he⟩
  | em=>exact .inr ⟨by simp[vw,←he,zD],by simp[vw,←he,zD,J2],rfl⟩
  | sl=>exact .inr ⟨by simp[vw,←he,zD],by simp[vw,←he,zD,J2],rfl⟩
 rcases key with⟨rfl,rfl⟩ | ⟨k1,k2,k3⟩
 ·simp only[vw] at hcl
  have hn:xU []=[]:=by simp[xU,XE,Lib.compact,Lib.compactUpTo]
  simp[hcl,zci,f47]
  rw[hn]
  exact⟨.nil,by simp,Stands.nilOr (.inl ⟨rfl,rfl⟩)⟩
 ·rw[k1,k2,k3] at hcl
  have s1:=zax XE false (id:=0) (e:=9) (zs:=l) (hp:=upd (fun _=>none) 0 (some ⟨9,1,true,J2 l⟩)) (nx:=1) (by simp) hz
  have s2:=fun hp (h:hp 0=some ⟨9,1,true,J2 (XE l)⟩)=>zax Lib.compact true (id:=0) (e:=9) (zs:=XE l) (hp:=hp) (nx:=1) h (by omega)
  rw[hsl] at s2
  have s3:=s2 _ (by simp:upd (upd (fun _=>none) 0 (some (⟨9,1,true,J2 l⟩:Blk))) 0 (some ⟨9,1,true,J2 (XE l)⟩) 0=_)
  simp at s3
  simp[hcl,s1,s3,f47]
  refine⟨.sl 1 (zD (xU l)),?_,Stands.refl _⟩
  simp[xU,zD,J2]
  exact List.take_of_length_le (by simp)
theorem zeJ:za prog 47 (zd true [1] (FTl (fun l=>.sl 1 (zD (xU l))) fun l=>l.length≤lim)) :=
 xw (fn:=f47) (zk (q:=[]) mixed ⟨Jf,by simp,zgK,by simp,XF,by simp,trivial⟩:AM.Good zul _) ⟨_,func47,by kernel_rfl,rfl,by kernel_rfl⟩ true [1] _ fun args r h w S vs hz=>by
  obtain⟨l,rfl,hx,rfl⟩:=ze h
  obtain⟨u,rfl,hr⟩:=xq hz
  obtain⟨y,hy,hr2⟩:=zg9 hr
  obtain⟨r0,h1,h2⟩:=zgL l hx y hy
  exact⟨_,r0,.cons hr2 .nil,Nat.le_trans (Nat.le_refl 1) (by decide),h1,h2⟩
end Go.Proofs.YtjcofiomfmebkaaGreatDoor
namespace Go.Proofs.YtjcofiomfmebkaaGreatDoor
open Go.Proofs.Tryz
open Go.RowKit Go.AM
noncomputable abbrev Crea:Ctx:=zC prog [(45,qP [] FNf),(21,zd false [1] (FTS fun l v=>boo (decide (v∈l)))),(12,zd false [] (zr4 (fun l s=>ZO (qy s l)) fun l _=>l.length≤lim)),(47,zd true [1] (FTl (fun l=>.sl 1 (zD (xU l))) fun l=>l.length≤lim))]
theorem zsr:AM.Good Crea (fun g=>([]:List Nat).contains g):=zk mixed ⟨zch,by simp,jo,by simp,yP,by simp,zeJ,by simp,trivial⟩
def Que (hp:Hp) (nx:Nat) (v w:PV) (q:List (List UInt8)):Prop:=(w=.nil∧q=[])∨((∃ad,w=.v (.slice (some ad) 0 0))∧q=[])∨∃id off es,id<nx∧w=.own id off q.length∧hp id=some ⟨9,1,true,es⟩∧off+q.length=es.length∧es.drop off=zD q∧∀m,v≠.own id 0 m
theorem Que.len {hp:Hp} {nx:Nat} {v w:PV} {q:List (List UInt8)} (h:Que hp nx v w q):VW prog 37 w=some (int q.length):=by
 rcases h with⟨rfl,rfl⟩ | ⟨⟨ad,rfl⟩,rfl⟩ | ⟨id,off,es,_,rfl,_⟩
 ·simp
 ·simp
 ·simp
theorem zss (l:List Sgm) (a:List UInt8) (h:sgb l≤lim):(zr3 (qy a l)).cond.cb≤lim:=by
 by_cases he:∃y∈l,y.name=a
 ·obtain⟨j,hj,h1,_⟩:=VD he
  rw[h1]
  have:=vF (List.getElem_mem hj)
  have hmc:l[j].cb=1+l[j].name.length+tbs l[j].ins+tbs l[j].outs+l[j].cond.cb:=rfl
  show l[j].cond.cb≤lim
  omega
 ·rw[QS fun y hy e=>he ⟨y,hy,e⟩]
  show zeroSg.cond.cb≤lim
  have:zeroSg.cond.cb=1:=by simp[zeroSg,xF,Cnd.vals,Cnd.args,Cnd.attr,Cnd.pat,Cnd.name,cbs,vbs]
  rw[this]
  decide
theorem zgM {hp:Hp} {nx:Nat} {v:PV} {l:List (List UInt8)} (hO:OwnS hp nx 9 1 v (zD l)) (hl:l.length≤lim):∃hp',zd true [1] (FTl (fun l=>.sl 1 (zD (xU l))) fun l=>l.length≤lim) [v] hp nx=some (.sl 1 (zD (xU l)),hp',nx):=by
 have hs:FTl (fun l=>.sl 1 (zD (xU l))) (fun l=>l.length≤lim) [.sl 1 (zD l)]=some (.sl 1 (zD (xU l))):=zm (enc:=fun l:List (List UInt8)=>[PV.sl 1 (zD l)]) (a:=l) (fun a b e=>by
  simp only[List.cons.injEq,and_true] at e
  injection e with _ e
  exact wt e) hl
 rcases hO with⟨rfl,h0⟩ | ⟨id,hid,rfl,hh⟩
 ·have hd:l=[]:=by simpa[zD] using h0
  subst hd
  exact⟨hp,zH (hp1:=hp) rfl hs (.inr rfl)⟩
 ·refine⟨upd hp id none,?_⟩
  have hf:zj hp [.own id 0 (zD l).length]=some ([.sl 1 (zD l)],upd hp id none):=by
   simp[hh]
   try rw[List.take_of_length_le (by simp)]
  unfold zd
  rw[hf]
  have e1:qw [1] [PV.sl 1 (zD l)]=[PV.sl 1 (zD l)]:=rfl
  simp only[e1,hs]
  simp[PV.flat,PV.noOwn]
theorem znd {hp:Hp} {nx e s id:Nat} {v:PV} {xs:List (List PV)} (h:OwnS hp nx e s v xs) (hne:∀m,v≠.own id 0 m):OwnS (upd hp id none) nx e s v xs:=by
 rcases h with⟨rfl,rfl⟩ | ⟨i,hi,rfl,hh⟩
 ·exact .inl ⟨rfl,rfl⟩
 ·exact .inr ⟨i,hi,rfl,by rw[zq _ _ _ _ (by rintro rfl;exact hne _ rfl)];exact hh⟩
theorem zne {hp:Hp} {nx e s id m:Nat} {v:PV} {xs:List (List PV)} (h:OwnS hp nx e s v xs) (hn:nx≤id):v≠.own id 0 m:=by
 rcases h with⟨rfl,rfl⟩ | ⟨i,hi,rfl,hh⟩
 ·simp
 ·intro e;injection e with e;omega
theorem zst {q nm:List (List UInt8)} {es es':List (List PV)} {off off':Nat} (ho:off+q.length=es.length) (hd:es.drop off=zD q) (h:es'=es++zD nm∧off'=off∨es'=es.drop off++zD nm∧off'=0):off'+(q++nm).length=es'.length∧es'.drop off'=zD (q++nm):=by
 rcases h with⟨rfl,rfl⟩ | ⟨rfl,rfl⟩
 ·exact⟨by simp[qj];omega,by rw[List.drop_append_of_le_length (by omega),hd];simp[zD]⟩
 ·rw[hd];exact⟨by simp[qj],by simp[zD]⟩
def zwI (l:List Sgm) (ns:List (List UInt8)) (n:Nat) (st:St):Prop:=st.σ 0=.sl 10 (l.map Sgm.enc)∧∃out q,OwnS st.hp st.nx 9 1 (st.σ 5) (zD out)∧Que st.hp st.nx (st.σ 5) (st.σ 6) q∧Bfs (jr l) ns out q∧q.length+qm out l=n∧out.length+n≤lim
noncomputable def zvz:List PV→Option PV:=zJ (α:=List Sgm×Cnd) (fun a=>[.sl 10 (a.1.map Sgm.enc),.agg a.2.enc]) (fun a=>sgb a.1+a.2.cb≤lim) fun a=>.sl 1 (zD (zgD a.1 a.2.names))
theorem znf (l:List Sgm) (c:Cnd) (hp:Hp) (nx:Nat) (h:sgb l+c.cb≤lim):zd false [] zvz [.sl 10 (l.map Sgm.enc),.agg c.enc] hp nx=some (.sl 1 (zD (zgD l c.names)),hp,nx) :=
 zH (hp1:=hp) (show zj hp [.sl 10 (l.map Sgm.enc),.agg c.enc]=some ([.sl 10 (l.map Sgm.enc),.agg c.enc],hp) by simp[qc]) (zm (enc:=fun a:List Sgm×Cnd=>[PV.sl 10 (a.1.map Sgm.enc),.agg a.2.enc]) (a:=(l,c)) (fun a b e=>by
  obtain⟨a1,a2⟩:=a;obtain⟨b1,b2⟩:=b
  simp only[List.cons.injEq,and_true,PV.agg.injEq] at e
  rw[kn e.1,jE e.2]) h) (.inr (by simp[qc,PV.noOwn]))
theorem zpR {es:List (List PV)} {off:Nat} {a:List UInt8} {q:List (List UInt8)} (h:es.drop off=zD (a::q)):es[off]?=some [str a]∧es.drop (off+1)=zD q:=by
 have h1:(es.drop off)[0]?=some [str a]:=by rw[h];rfl
 rw[List.getElem?_drop,Nat.add_zero] at h1
 refine⟨h1,?_⟩
 rw[←List.drop_drop,h]
 rfl
set_option maxHeartbeats 2000000 in
theorem zj8 (l:List Sgm) (c:Cnd) (hlc:sgb l+c.cb≤lim) {code:Code} (hb:f22.body=some code):Wp True Crea f22.ntmps code ⟨yF [.sl 10 (l.map Sgm.enc),.agg c.enc],fun _=>none,0⟩ (zcL Crea.P f22 (zfd (.sl 1 (zD (zgD l c.names))))):=by
 have hlim:lim=2097152:=rfl
 have hg:=zsr
 have hll:=xH l
 have hcn:=yQ _ c (Nat.le_refl _)
 have hq0:=zsp [] l
 have k0:=fun hp nx=>zid c hp nx (by omega)
 injection hb with hb
 subst hb
 refine Wp.seq (Wp.of hg (by kernel_rfl) ?_)
 simp[qc]
 refine Wp.seq (Wp.of hg (by kernel_rfl) ?_)
 simp
 refine Wp.cut hg (fun σ hp nx=>zwI l c.names (c.names.length+qm [] l) ⟨σ,hp,nx⟩) (by kernel_rfl) ?_ ?_
 ·simp only[qc] at k0
  by_cases hn0:c.names=[]
  ·simp[k0,hn0]
   exact⟨by simp,[],[],by simp;exact .inl ⟨rfl,rfl⟩,.inl ⟨by simp,rfl⟩,.begin _ _,by simp,by simp;omega⟩
  ·simp[k0,hn0]
   exact⟨by simp,[],c.names,by simp;exact .inl ⟨rfl,rfl⟩,.inr (.inr ⟨1,0,zD c.names,by simp,by simp,by simp,by simp[zD],by simp,by simp⟩),.begin _ _,by simp,by simp;omega⟩
 rintro σ hp nx hI
 refine Wp.seq (Wp.block (Wp.loop (zwI l c.names) _ hI ?_))
 clear hI σ hp nx
 rintro n ⟨σ,hp,nx⟩ ⟨h0,out,q,hO,hQ,hB,hn,hbd⟩
 simp only at h0 hO hQ
 cases q with
 | nil =>
   have hlen:=hQ.len
   refine Wp.seq (Wp.of hg (by kernel_rfl) ?_)
   simp[hlen]
   obtain⟨hp',e1⟩:=zgM hO (by omega)
   have hv:xU out=zgD l c.names:=zgE hB
   refine Wp.of hg (by kernel_rfl) ?_
   simp[e1,hv,zfd,f22]
   exact zK _
 | cons a q =>
   obtain⟨id,off,es,hid,h6,hes,hoff,hdr,hne⟩:=(hQ.resolve_left (by rintro⟨_,e⟩;cases e)).resolve_left (by rintro⟨_,e⟩;cases e)
   obtain⟨hga,hdr2⟩:=zpR hdr
   simp only[List.length_cons] at hn hoff h6
   refine Wp.cut hg (fun σ' hp' nx'=>σ' 0=σ 0∧σ' 5=σ 5∧σ' 6=σ 6∧hp'=hp∧nx'=nx) (by kernel_rfl) (by simp[h6]) ?_
   rintro σ1 hp nx ⟨e0,e5,e6,rfl,rfl⟩
   rw[h0] at e0
   rw[←e5] at hO hne
   rw[h6] at e6
   clear h0 h6 e5 hQ σ
   refine Wp.block ?_
   refine Wp.cut hg (fun σ' hp' nx'=>σ' 0=σ1 0∧σ' 5=σ1 5∧σ' 6=σ1 6∧σ' 7=str a∧hp'=hp∧nx'=nx) (by kernel_rfl) (by simp[e6,hes,hga,hoff]) ?_
   rintro σ hp nx ⟨f0,f5,f6,f7,rfl,rfl⟩
   rw[e0] at f0
   rw[←f5] at hO hne
   rw[e6] at f6
   clear e0 e6 f5 σ1
   refine Wp.seq (Wp.region ?_)
   show WpO True Crea _ _ (List.range' 0 1++(1::(List.range' 2 1++[]))) _ _
   refine WpO.seg hg 0 1 (by decide) (by decide) ?_
   simp[f6]
   refine WpO.slice (n:=1) (e:=9) rfl (by decide) rfl zwM sz9 hes rfl (by omega) ?_
   rintro r hr
   refine WpO.seg hg 2 1 (by decide) (by decide) ?_
   simp
   refine WpO.nil ?_
   simp only[zn0,zsq]
   rw[Nat.add_sub_cancel] at hr
   refine Wp.any (fun σ' hp' nx'=>σ' 0=σ 0∧σ' 5=σ 5∧σ' 6=r∧σ' 7=σ 7∧hp'=hp∧nx'=nx) (by simp) ?_
   rintro σ1 hp nx ⟨e0,e5,e6,e7,rfl,rfl⟩
   rw[f0] at e0
   rw[←e5] at hO hne
   rw[f7] at e7
   clear f0 f6 f7 e5 σ
   have hoff2:off+1+q.length=es.length:=by omega
   generalize off+1=off2 at hr hdr2 hoff2
   clear hoff hdr hga off
   have hq0:r=.own id off2 q.length∨q=[]∧∃ad,r=.v (.slice (some ad) 0 0):=hr.imp (fun h=>h) fun⟨h1,h2⟩=>⟨List.eq_nil_of_length_eq_zero (by omega),h2⟩
   clear hr
   have hct:=zr9 (fun l v=>boo (decide (v∈l))) (v:=a) hO (by omega) rfl
   by_cases ha:a∈out
   ·rw[show decide (a∈out)=true from by simpa using ha] at hct
    refine Wp.seq (Wp.of hg (by kernel_rfl) ?_)
    simp[e7,hct]
    refine⟨_,by omega,by simp[e0],out,q,by simpa using hO,?_,hB.skip ha,rfl,by omega⟩
    rcases hq0 with rfl | ⟨rfl,ad,rfl⟩
    ·exact .inr (.inr ⟨id,off2,es,by simpa using hid,by simp[e6],by simpa using hes,by omega,hdr2,by simpa using hne⟩)
    ·exact .inr (.inl ⟨⟨ad,by simp[e6]⟩,rfl⟩)
   ·rw[show decide (a∈out)=false from by simpa using ha] at hct
    refine Wp.cut hg (fun σ' hp' nx'=>σ' 0=σ1 0∧σ' 5=σ1 5∧σ' 6=σ1 6∧σ' 7=σ1 7∧hp'=hp∧nx'=nx) (by kernel_rfl) (by simp[e7,hct]) ?_
    rintro σ hp nx ⟨f0,f5,f6,f7,rfl,rfl⟩
    rw[e0] at f0
    rw[←f5] at hO hne
    rw[e6] at f6
    rw[e7] at f7
    clear e0 e6 e7 f5 hct σ1
    have hap:=hO.append1 (P:=prog) (t:=37) (c:=[str a]) zn8 sz9 by9 ze9 rfl (by omega) (by simp[qj,maxLen];omega) (by simp[qj];omega)
    have hk:=qM hO (upd hp nx (some ⟨9,1,true,[[str a]]⟩)) id hne
    have hidn:¬id=nx:=by omega
    have hidn1:¬id=nx+1:=by omega
    have haf:=OwnS.after (hp:=hp) (nx:=nx) (e:=9) (s:=1) (v:=σ 5) (xs:=zD out) (c:=[str a]) (tmp:=some ⟨9,1,true,[[str a]]⟩)
    have haa:zD out++[[str a]]=zD (out++[a]):=by simp[zD]
    refine Wp.cut hg (fun σ' hp' nx'=>σ' 0=σ 0∧σ' 6=σ 6∧σ' 7=σ 7∧nx≤nx'∧OwnS hp' nx' 9 1 (σ' 5) (zD (out++[a]))∧hp' id=some ⟨9,1,true,es⟩∧∀m,σ' 5≠.own id 0 m) (by kernel_rfl) (by
     simp[f7,zh,zo,zf,hap,hidn1,hk,hidn,hes]
     rw[←haa]
     exact⟨by simpa[qj] using haf,fun e=>hidn1 e.symm⟩) ?_
    clear hap hk hidn hidn1 haf
    rintro σ1 hp1 nx1 ⟨e0,e6,e7,hn1,hO1,hes1,hne1⟩
    have hid1:id<nx1:=by omega
    rw[f0] at e0
    rw[f6] at e6
    rw[f7] at e7
    clear hes hn1 hO hne hid f0 f6 f7 σ hp nx
    have hsg:=fun hp nx=>WZ (fun l s=>ZO (qy s l)) (fun l _=>l.length≤lim) l a hp nx (by omega)
    obtain⟨s,hs⟩:∃s,zr3 (qy a l)=s:=⟨_,rfl⟩
    have hsc:s.cond.cb≤lim:=by rw[←hs];exact zss l a (by omega)
    have hnx:s.cond.names=jr l a:=by rw[←hs];exact zso l a
    have hst:ZO (qy a l)=.tup [.agg s.enc,boo (qy a l).isSome]:=by rw[←hs];rfl
    simp only[hst] at hsg
    have hidn:¬id=nx1:=by omega
    refine Wp.cut hg (fun σ' hp' nx'=>σ' 0=σ1 0∧σ' 5=σ1 5∧σ' 6=σ1 6∧σ' 8=.ref nx1 0 0∧hp'=upd hp1 nx1 (some ⟨43,10,false,[s.enc]⟩)∧nx'=nx1+1) (by kernel_rfl) (by
     simp[e0,e7,hsg,qJ]) ?_
    rintro σ hp nx ⟨f0,f5,f6,f8,rfl,rfl⟩
    rw[e0] at f0
    rw[e6] at f6
    rw[←f5] at hO1 hne1
    have hid1':id<nx1+1:=by omega
    have hO2:=hO1.more (some ⟨43,10,false,[s.enc]⟩)
    have hes2:upd hp1 nx1 (some (⟨43,10,false,[s.enc]⟩:Blk)) id=some ⟨9,1,true,es⟩:=by rw[zq _ _ _ _ hidn];exact hes1
    have hB2:=hB.take ha
    have hpu:=zcf ha l
    rw[←hnx] at hB2 hpu
    have hok:out.length+1+((q++s.cond.names).length+qm (out++[a]) l)≤lim:=by simp;omega
    have hm:(q++s.cond.names).length+qm (out++[a]) l<n:=by simp;omega
    have hcl:∀hp nx,∃y hp' nx',qP [] FNf [.agg s.cond.enc] hp nx=some (y,hp',nx')∧AM.view hp' 1 y=some (zD s.cond.names)∧nx≤nx'∧(∀j,j<nx→hp' j=hp j)∧(∀e s v xs,OwnS hp nx e s v xs→OwnS hp' nx' e s v xs):=fun hp nx=>by
     have h1:=zid s.cond hp nx hsc
     by_cases hnm:s.cond.names=[]
     ·rw[if_pos hnm] at h1
      exact⟨_,_,_,h1,by simp[AM.view,hnm,zD],Nat.le_refl _,fun _ _=>rfl,fun _ _ _ _ h=>h⟩
     ·rw[if_neg hnm] at h1
      exact⟨_,_,_,h1,by simp[AM.view,qj],by omega,fun j hj=>zq _ _ _ _ (by omega),fun _ _ _ _ h=>h.more _⟩
    obtain⟨y,hp2,nx2,hc1,hc2,hc3,hc4,hc5⟩:=hcl (upd hp1 nx1 (some ⟨43,10,false,[s.enc]⟩)) (nx1+1)
    have hO3:=hc5 _ _ _ _ hO2
    have hes3:hp2 id=some ⟨9,1,true,es⟩:=by rw[hc4 id hid1'];exact hes2
    have hid3:id<nx2:=by omega
    simp only[qc,qJ] at hc1
    refine Wp.region ?_
    show WpO True Crea _ _ (List.range' 0 4++(4::(List.range' 5 1++[]))) _ _
    refine WpO.seg hg 0 4 (by decide) (by decide) ?_
    simp[f6,f8,qJ,qc,hc1]
    have hnl:=yQ _ s.cond (Nat.le_refl _)
    have hl1:q.length+(zD s.cond.names).length≤maxLen:=by simp[qj,maxLen];omega
    have hl2:(q.length+(zD s.cond.names).length)*16≤140737488355328:=by simp[qj];omega
    rcases hq0 with rfl | ⟨rfl,ad,rfl⟩
    ·refine WpO.append (e:=9) (n:=1) (by_:=16) (ys:=zD s.cond.names) (v:=y) rfl (by decide) (by simp) (by simp) hc2 zn8 sz9 by9 ze9 (by omega) rfl hes3 rfl rfl hoff2 hl1 hl2 ?_
     intro es' off' hew
     obtain⟨hl',hd'⟩:=zst hoff2 hdr2 hew
     refine WpO.seg (l2:=[]) hg 5 1 (by decide) (by decide) ?_
     simp
     refine WpO.nil ?_
     refine⟨_,hm,by simp[f0],out++[a],q++s.cond.names,?_,.inr (.inr ⟨nx2,off',es',by simp,by simp[qj],by simp,hl',hd',?_⟩),hB2,rfl,by simp;simp at hok;omega⟩
     ·simpa using (znd hO3 hne1).more _
     ·intro m
      simpa using zne hO3 (Nat.le_refl _)
    ·simp only[List.length_nil,Nat.zero_add] at hl1 hl2
     refine WpO.append0 (ad:=ad) (e:=9) (n:=1) (by_:=16) (ys:=zD s.cond.names) (v:=y) rfl (by decide) (by simp) (by simp) hc2 zn8 sz9 by9 ze9 (by omega) rfl hl1 hl2 ?_
     rintro r hp' nx' (⟨hy0,rfl,rfl,rfl⟩ | ⟨rfl,rfl,rfl⟩)
     ·have hnm:s.cond.names=[]:=by simpa[zD] using hy0
      refine WpO.seg (l2:=[]) hg 5 1 (by decide) (by decide) ?_
      simp
      refine WpO.nil ?_
      refine⟨_,hm,by simp[f0],out++[a],[]++s.cond.names,by simpa using hO3,.inr (.inl ⟨⟨ad,by simp⟩,by simp[hnm]⟩),hB2,rfl,by simp;simp at hok;omega⟩
     ·refine WpO.seg (l2:=[]) hg 5 1 (by decide) (by decide) ?_
      simp
      refine WpO.nil ?_
      refine⟨_,hm,by simp[f0],out++[a],[]++s.cond.names,?_,.inr (.inr ⟨nx2,0,zD s.cond.names,by simp,by simp[qj],by simp,by simp[qj],by simp,?_⟩),hB2,rfl,by simp;simp at hok;omega⟩
      ·simpa using hO3.more _
      ·intro m
       simpa using zne hO3 (Nat.le_refl _)
theorem zcj:za prog 22 (zd false [] zvz) :=
 zeF (C:=Crea) (pf:=fun g=>([]:List Nat).contains g) (fn:=f22) (code:=_) ⟨func22,by kernel_rfl,rfl,by kernel_rfl⟩ false [] _ fun args r h=>by
  obtain⟨⟨l,c⟩,rfl,hx,rfl⟩:=ze h
  exact⟨by simp[f22],zj8 l c hx rfl⟩
theorem zgN (l:List Sgm) (start:List (List UInt8)):∀(n:Nat) (out queue:List (List UInt8)),Bfs (jr l) start out queue→queue.length+qm out l≤n→∃out',Bfs (jr l) start out' []∧out'.length≤out.length+n
 | _,out,[],h,_=>⟨out,h,by omega⟩
 | 0,_,_::_,_,h=>by simp at h
 | n+1,out,a::q,h,hn=>by
   simp only[List.length_cons] at hn
   by_cases ha:a∈out
   ·obtain⟨o,h1,h2⟩:=zgN l start n out q (h.skip ha) (by omega)
    exact⟨o,h1,by omega⟩
   ·have:=zcf ha l
    obtain⟨o,h1,h2⟩:=zgN l start n _ _ (h.take ha) (by rw[List.length_append];omega)
    exact⟨o,h1,by simp at h2;omega⟩
theorem zsu (l:List Sgm) (c:Cnd) (h:sgb l+c.cb≤lim):(zgD l c.names).length≤lim:=by
 have h1:=zsp [] l
 have h2:=yQ _ c (Nat.le_refl _)
 obtain⟨o,hb,ho⟩:=zgN l c.names _ [] c.names (.begin _ _) (Nat.le_refl _)
 have hp:=List.mergeSort_perm o fun x y=>decide (x≤y)
 rw[←zgE hb,xL (hp.nodup_iff.2 hb.nodup),hp.length_eq]
 simp at ho
 omega
noncomputable def xV:List UInt8→List Sgm→Int
 | _,[]=>0
 | q,s::l=>if x0 s q=0 then xV s.name l else x0 s q
noncomputable def xg (l:List Sgm):Int:=if (100:Int)<l.length then 2 else if xV [] l=0 then (if (l.all fun s=>nmB l s.cond.names)=true then (if (l.any fun s=>decide (s.name∈zgD l s.cond.names))=true then 12 else 0) else 9) else xV [] l
theorem zgO {l:List Sgm} {k:Nat} (h:k<l.length) (q:List UInt8):xV q (l.drop k)=if x0 l[k] q=0 then xV l[k].name (l.drop (k+1)) else x0 l[k] q:=by
 rw[List.drop_eq_getElem_cons h];rfl
theorem zie:∀(l:List Sgm) (p:Option (List UInt8)) (q:List UInt8),(p=none∧q=[]∨p=some q)→xV q l=Qf p l
 | [],p,q,_=>rfl
 | s::l,p,q,h=>by
   have ih:=zie l (some s.name) s.name (.inr rfl)
   have e0:xV q (s::l)=if x0 s q=0 then xV s.name l else x0 s q:=rfl
   rw[e0]
   by_cases hn:qi s.name=true
   case neg =>
    have e1:x0 s q=5:=by unfold x0;rw[if_neg hn]
    simp only[Qf,if_neg hn]
    rw[e1,if_neg (by decide)]
   case pos =>
    have hc:leB s.name q=yK p s.name:=by
     rcases h with⟨rfl,rfl⟩ | rfl
     ·simp only[yK]
      have hne:s.name≠[]:=by rintro e;rw[e] at hn;exact absurd hn (by decide)
      cases hx:s.name with
      | nil=>exact absurd hx hne
      | cons a b=>simp[leB,Op.bytesLess]
     ·rfl
    have e1:x0 s q=if yK p s.name=true then 8 else xZ s:=by unfold x0;rw[if_pos hn,hc]
    simp only[Qf,if_pos hn]
    by_cases hcp:yK p s.name=true
    case pos=>rw[if_pos hcp] at e1;rw[e1,if_neg (by decide),if_pos hcp]
    case neg =>
     rw[if_neg hcp] at e1
     rw[e1,if_neg hcp]
     by_cases h0:xZ s=0
     ·rw[if_pos h0,if_pos h0];exact ih
     ·rw[if_neg h0,if_neg h0]
theorem zng (l:List Sgm):xg l=yc l:=by
 unfold xg yc
 rw[zie l none [] (.inl ⟨rfl,rfl⟩)]
 by_cases c0:(100:Int)<l.length
 ·rw[if_pos c0,if_pos c0]
 rw[if_neg c0,if_neg c0]
 by_cases hG:Qf none l=0
 case neg=>rw[if_neg hG,if_neg hG]
 rw[if_pos hG,if_pos hG]
 have hu:=(zbU l none hG).1.1
 have hk:∀n,(qy n l).isSome=jz l n:=fun n=>by
  rcases YQ hu n with⟨h1,hj,h2,_⟩ | ⟨h1,h2⟩
  ·rw[h1,h2];rfl
  ·rw[h1,h2];rfl
 have hall:(l.all fun s=>nmB l s.cond.names)=l.all fun s=>xT l s.cond:=by
  congr 1
  funext s
  unfold nmB xT
  congr 1
  funext n
  exact hk n
 rw[hall]
 by_cases hK:(l.all fun s=>xT l s.cond)=true
 case neg=>rw[if_neg hK,if_neg hK]
 rw[if_pos hK,if_pos hK]
 have hkn:∀s∈l,∀n∈s.cond.names,jz l n=true:=fun s hs n hn=>List.all_eq_true.1 (List.all_eq_true.1 hK s hs) n hn
 have hc:=zmG hu hkn
 have hl:=zhN (l:=l) (by omega) hkn
 have ha:(l.any fun s=>decide (s.name∈zgD l s.cond.names))=true↔∃s∈l,From (jr l) s.cond.names s.name:=by
  simp only[List.any_eq_true,decide_eq_true_eq]
  exact⟨fun⟨s,h1,h2⟩=>⟨s,h1,(zm9 _ _ _).1 h2⟩,fun⟨s,h1,h2⟩=>⟨s,h1,(zm9 _ _ _).2 h2⟩⟩
 by_cases hL:zf9 l=true
 ·rw[if_pos hL,if_pos (ha.2 (hc.2 (hl.1 hL)))]
 ·rw[if_neg hL,if_neg fun e=>hL (hl.2 (hc.1 (ha.1 e)))]
theorem zsv (out:List Sgm→List Cnd→PV) (l:List Sgm) (c:Cnd) (hp:Hp) (nx:Nat) (h1:l.length≤lim) (h2:c.cb≤lim) (hf:(out l [c]).flat=true):zd false [] (FSC out) [.sl 10 (l.map Sgm.enc),.own nx 0 1] (upd hp nx (some ⟨41,7,true,[c.enc]⟩)) (nx+1)=some (out l [c],upd hp nx (some ⟨41,7,true,[c.enc]⟩),nx+1) :=
 zH (hp1:=upd (upd hp nx (some ⟨41,7,true,[c.enc]⟩)) nx none) (show zj (upd hp nx (some ⟨41,7,true,[c.enc]⟩)) [.sl 10 (l.map Sgm.enc),.own nx 0 1]=some ([.sl 10 (l.map Sgm.enc),.sl 7 ([c].map Cnd.enc)],_) by simp) (zuj out l [c] ⟨h1,by simpa[cbs] using h2⟩) (.inl hf)
noncomputable abbrev zvA:Ctx:=zC prog [(19,zd false [] (zvx fun s q=>int (x0 s q))),(20,zd false [] (FSC fun l cs=>int (zsn l cs))),(22,zd false [] zvz),(21,zd false [1] (FTS fun l v=>boo (decide (v∈l))))]
theorem zsw:AM.Good zvA (fun g=>[22,21].contains g):=zk mixed ⟨QV,by simp,YX,by simp,zcj,fun _=>zi _ _,jo,fun _=>zi _ _,trivial⟩
theorem znh:xP zvA (fun g=>[22,21].contains g) 7 Tryz.f7:=⟨_,func7,by kernel_rfl,rfl,by kernel_rfl⟩
set_option maxHeartbeats 2000000 in
theorem QW (l:List Sgm) (h:2*sgb l≤lim):zg zvA Tryz.f7 [.sl 10 (l.map Sgm.enc)]=some (int (xg l)):=by
 have hlen:=xH l
 have hlim:lim=2097152:=rfl
 refine zb rfl ?_
 by_cases c0:(100:Int)<l.length
 ·have hv:xg l=2:=by unfold xg;rw[if_pos c0]
  simp[c0,hv,Tryz.f7]
 refine yv (fun σ hp nx=>σ 0=.sl 10 (l.map Sgm.enc)) (by simp) ?_
 rintro σ hp nx h0
 refine yv (fun σ hp nx=>σ 0=.sl 10 (l.map Sgm.enc)) (by simp[h0,c0]) ?_
 clear h0 σ hp nx
 rintro σ hp nx h0
 refine yv (fun σ hp nx=>σ 0=.sl 10 (l.map Sgm.enc)∧σ 3=str []) (by simp[h0]) ?_
 clear h0 σ hp nx
 rintro σ hp nx ⟨h0,h3⟩
 refine yv (fun σ hp nx=>σ 0=.sl 10 (l.map Sgm.enc)∧xV [] l=0) ?_ ?_
 ·simp[h0]
  refine zu (fun k σ hp nx=>σ 0=.sl 10 (l.map Sgm.enc)∧σ 15=.sl 10 (l.map Sgm.enc)∧σ 16=int l.length∧σ 17=int k∧∃q,σ 3=str q∧xV [] l=xV q (l.drop k)) l.length ⟨by simp[h0],by simp,by simp,by simp,[],by simp[h3],by simp⟩ ?_
  clear h0 h3 σ hp nx
  rintro k σ hp nx hk ⟨h0,h15,h16,h17,q,h3,he⟩
  by_cases hlt:k<l.length
  ·have hw:IntKind.i64.wrap ((k:Int)+1)=(k:Int)+1:=zc (by omega) (by omega)
   obtain⟨s,hs⟩:∃s,l[k]=s:=⟨_,rfl⟩
   have hm:=vF (List.getElem_mem hlt)
   rw[hs] at hm
   have hcs:=fun hp nx=>zmV (fun s q=>int (x0 s q)) s q hp nx (by omega) rfl
   simp only[qJ,qc] at hcs
   rw[zgO hlt,hs] at he
   by_cases c2:x0 s q=0
   ·rw[if_pos c2] at he
    simp[h0,h3,h15,h16,h17,hlt,hs,hcs,c2,hw,qJ,qc]
    exact⟨by omega,he⟩
   ·rw[if_neg c2] at he
    have c2':(x0 s q != 0)=true:=by simpa using c2
    have hv:xg l=x0 s q:=by unfold xg;rw[if_neg c0,he,if_neg c2]
    simp[h0,h3,h15,h16,h17,hlt,hs,hcs,c2',hv,qJ,qc,Tryz.f7]
  ·obtain rfl:k=l.length:=by omega
   rw[List.drop_length] at he
   have he:xV [] l=0:=by rw[he];rfl
   simp[h0,h15,h16,h17,he]
 clear h0 h3 σ hp nx
 rintro σ hp nx ⟨h0,hG⟩
 refine yv (fun σ hp nx=>σ 0=.sl 10 (l.map Sgm.enc)∧(l.all fun s=>nmB l s.cond.names)=true) ?_ ?_
 ·simp[h0]
  refine zu (fun k σ hp nx=>σ 0=.sl 10 (l.map Sgm.enc)∧σ 30=.sl 10 (l.map Sgm.enc)∧σ 31=int l.length∧σ 32=int k∧(l.all fun s=>nmB l s.cond.names)=(l.drop k).all fun s=>nmB l s.cond.names) l.length ⟨by simp[h0],by simp,by simp,by simp,by simp⟩ ?_
  clear h0 σ hp nx
  rintro k σ hp nx hk ⟨h0,h30,h31,h32,he⟩
  by_cases hlt:k<l.length
  ·have hw:IntKind.i64.wrap ((k:Int)+1)=(k:Int)+1:=zc (by omega) (by omega)
   obtain⟨s,hs⟩:∃s,l[k]=s:=⟨_,rfl⟩
   have hm:=vF (List.getElem_mem hlt)
   rw[hs] at hm
   have hmc:s.cb=1+s.name.length+tbs s.ins+tbs s.outs+s.cond.cb:=rfl
   have hr:zsn l [s.cond]=if nmB l s.cond.names=true then 0 else 9:=by simp[zsn]
   rw[List.drop_eq_getElem_cons hlt,hs,List.all_cons] at he
   have hkn:=fun hp nx=>zsv (fun l cs=>int (zsn l cs)) l s.cond hp nx (by omega) (by omega) rfl
   cases c1:nmB l s.cond.names
   ·rw[c1,Bool.false_and] at he
    have hv:xg l=9:=by unfold xg;rw[if_neg c0,if_pos hG,he,if_neg (by simp)]
    rw[hr,c1] at hkn
    simp only[qc] at hkn
    simp[h0,h30,h31,h32,hlt,hs,zh,zo,zf,hkn,hv,qJ,qc,Tryz.f7]
   ·rw[c1,Bool.true_and] at he
    rw[hr,c1] at hkn
    simp only[qc] at hkn
    simp[h0,h30,h31,h32,hlt,hs,zh,zo,zf,hkn,hw,qJ,qc]
    exact⟨by omega,he⟩
  ·obtain rfl:k=l.length:=by omega
   rw[List.drop_length] at he
   simp only[List.all_nil] at he
   simp[h0,h30,h31,h32]
   exact List.all_eq_true.1 he
 clear h0 σ hp nx
 rintro σ hp nx ⟨h0,hK⟩
 simp[h0]
 refine zu (fun k σ hp nx=>σ 0=.sl 10 (l.map Sgm.enc)∧σ 45=.sl 10 (l.map Sgm.enc)∧σ 46=int l.length∧σ 47=int k∧(l.any fun s=>decide (s.name∈zgD l s.cond.names))=(l.drop k).any fun s=>decide (s.name∈zgD l s.cond.names)) l.length ⟨by simp[h0],by simp,by simp,by simp,by simp⟩ ?_
 clear h0 σ hp nx
 rintro k σ hp nx hk ⟨h0,h45,h46,h47,he⟩
 by_cases hlt:k<l.length
 ·have hw:IntKind.i64.wrap ((k:Int)+1)=(k:Int)+1:=zc (by omega) (by omega)
  obtain⟨s,hs⟩:∃s,l[k]=s:=⟨_,rfl⟩
  have hm:=vF (List.getElem_mem hlt)
  rw[hs] at hm
  have hmc:s.cb=1+s.name.length+tbs s.ins+tbs s.outs+s.cond.cb:=rfl
  have hrc:=fun hp nx=>znf l s.cond hp nx (by omega)
  have hct:=fun hp nx=>W5 (fun l v=>boo (decide (v∈l))) (zgD l s.cond.names) s.name hp nx (zsu l s.cond (by omega))
  simp only[qc] at hrc
  rw[J0 hlt,hs] at he
  cases c1:decide (s.name∈zgD l s.cond.names)
  ·rw[c1,Bool.false_or] at he
   rw[c1] at hct
   simp[h0,h45,h46,h47,hlt,hs,hrc,hct,hw,qJ,qc]
   exact⟨by omega,he⟩
  ·rw[c1,Bool.true_or] at he
   rw[c1] at hct
   have hv:xg l=12:=by unfold xg;rw[if_neg c0,if_pos hG,if_pos hK,if_pos he]
   simp[h0,h45,h46,h47,hlt,hs,hrc,hct,hv,qJ,qc,Tryz.f7]
 ·obtain rfl:k=l.length:=by omega
  rw[List.drop_length] at he
  have hv:xg l=0:=by unfold xg;rw[if_neg c0,if_pos hG,if_pos hK,he,if_neg (by simp)]
  simp[h0,h45,h46,h47,hv,Tryz.f7]
theorem jX:za prog 7 (zd false [] (zJ (α:=List Sgm) (fun l=>[.sl 10 (l.map Sgm.enc)]) (fun l=>2*sgb l≤lim) fun l=>int (yc l))) :=
 zL (fn:=Tryz.f7) zsw znh false [] _ fun args r h=>by
  obtain⟨l,rfl,h1,rfl⟩:=ze h
  exact⟨Nat.le_trans (Nat.le_refl 1) (by decide),_,QW l h1,by rw[zng];exact zK _⟩
structure AskOk (l:List Sgm) (x:Ctxt):Prop where
 ok:SegOk l
 len:sgb l≤lim
 cb:x.cb+2≤lim
 right:x.fault=0
def zuS (m k:Nat) (l:List Sgm) (c:Cnd) (x:Ctxt):Prop:=AskOk l x∧c.cb≤k∧c.cb≤lim∧GoodC c∧TestC c∧∀n∈c.names,jz l n=true∧rkG l (kv l n)<m
def zvB (m:Nat) (l:List Sgm) (s:Sgm) (x:Ctxt):Prop:=AskOk l x∧∃i,l[i]?=some s∧rkG l i<m
noncomputable def FHe (m k:Nat):List PV→Option PV:=zJ (α:=List Sgm×Cnd×Ctxt) (fun a=>[.sl 10 (a.1.map Sgm.enc),.agg a.2.1.enc,.agg a.2.2.enc]) (fun a=>zuS m k a.1 a.2.1 a.2.2) fun a=>boo (hF a.1 a.2.2 a.2.1)
noncomputable def FIn (m:Nat):List PV→Option PV:=zJ (α:=List Sgm×Sgm×Ctxt) (fun a=>[.sl 10 (a.1.map Sgm.enc),.agg a.2.1.enc,.agg a.2.2.enc]) (fun a=>zvB m a.1 a.2.1 a.2.2) fun a=>boo (mF a.1 a.2.2 (kv a.1 a.2.1.name))
theorem zck {m k:Nat} {l:List Sgm} {c:Cnd} {x:Ctxt} (h:zuS m k l c x) (hp:Hp) (nx:Nat):zd false [] (FHe m k) [.sl 10 (l.map Sgm.enc),.agg c.enc,.agg x.enc] hp nx=some (boo (hF l x c),hp,nx) :=
 zH (hp1:=hp) (show zj hp [.sl 10 (l.map Sgm.enc),.agg c.enc,.agg x.enc]=some ([.sl 10 (l.map Sgm.enc),.agg c.enc,.agg x.enc],hp) by simp[Ctxt.enc,qc]) (zm (enc:=fun a:List Sgm×Cnd×Ctxt=>[PV.sl 10 (a.1.map Sgm.enc),.agg a.2.1.enc,.agg a.2.2.enc]) (a:=(l,c,x)) (fun a b e=>by
  obtain⟨a1,a2,a3⟩:=a;obtain⟨b1,b2,b3⟩:=b
  simp only[List.cons.injEq,and_true,PV.agg.injEq] at e
  rw[kn e.1,jE e.2.1,Z4 e.2.2]) h) (.inl rfl)
theorem zif {m:Nat} {l:List Sgm} {s:Sgm} {x:Ctxt} (h:zvB m l s x) (hp:Hp) (nx:Nat):zd false [] (FIn m) [.sl 10 (l.map Sgm.enc),.agg s.enc,.agg x.enc] hp nx=some (boo (mF l x (kv l s.name)),hp,nx) :=
 zH (hp1:=hp) (show zj hp [.sl 10 (l.map Sgm.enc),.agg s.enc,.agg x.enc]=some ([.sl 10 (l.map Sgm.enc),.agg s.enc,.agg x.enc],hp) by simp[Ctxt.enc,qJ]) (zm (enc:=fun a:List Sgm×Sgm×Ctxt=>[PV.sl 10 (a.1.map Sgm.enc),.agg a.2.1.enc,.agg a.2.2.enc]) (a:=(l,s,x)) (fun a b e=>by
  obtain⟨a1,a2,a3⟩:=a;obtain⟨b1,b2,b3⟩:=b
  simp only[List.cons.injEq,and_true,PV.agg.injEq] at e
  rw[kn e.1,QR e.2.1,Z4 e.2.2]) h) (.inl rfl)
theorem VQ {f:FuncId} {F:List PV→Option PV} (hfn:∃fn,prog.funcs[f]?=some fn∧(fn.name== "runtime.NumGoroutine")=false∧fn.body.isNone=false) (h:∀args,F args=none):za prog f (zd false [] F):=by
 have e:zd false [] F=fun _ _ _=>none:=by
  funext args hp nx
  unfold zd
  split
  ·simp only[h]
  ·rfl
 rw[e]
 exact xb hfn
theorem VR {α:Type} {enc:α→List PV} {dom:α→Prop} {out:α→PV} (h:∀a,¬dom a) (args:List PV):zJ enc dom out args=none:=by
 cases hs:zJ enc dom out args with
 | none=>rfl
 | some r =>
   obtain⟨a,_,ha,_⟩:=ze hs
   exact absurd ha (h a)
noncomputable abbrev zum (m k:Nat):Ctx:=zC prog [(60,zd false [] FTc),(12,zd false [] (zr4 (fun l s=>ZO (qy s l)) fun l _=>l.length≤lim)),(14,zd false [] (FIn m)),(33,zd false [] (FHe m k))]
def zeK (b:Bool) (f:Cnd→Bool) (l:List Cnd):Bool:=if b=true then l.all f else l.any f
theorem zj9 (b:Bool) (f:Cnd→Bool) (c:Cnd) (l:List Cnd):zeK b f (c::l)=if f c=b then zeK b f l else !b:=by
 cases b<;>cases h:f c<;>simp[zeK,h]
set_option maxHeartbeats 1000000 in
theorem zka (m k:Nat) (l:List Sgm) (c:Cnd) (x:Ctxt) (h:zuS m (k+1) l c x):zg (zum m k) f33 [.sl 10 (l.map Sgm.enc),.agg c.enc,.agg x.enc]=some (boo (hF l x c)):=by
 obtain⟨ha,hk,hcl,hg,ht,hn⟩:=h
 have hcb:=xF c
 have hal:=wJ c.args
 have hnm:=jn c
 have hvv:=zuh l x c
 have hle:=xH l
 have hlim:lim=2097152:=rfl
 have hlen:=ha.len
 have am:∀y∈c.args,zuS m k l y x:=fun y hy=>by
  have:=jl hy
  exact⟨ha,by omega,by omega,hg.args y hy,ht.args y hy,fun n hn'=>hn n (by rw[hnm];exact List.mem_append.2 (.inr (namesC_mem.2 ⟨y,hy,hn'⟩)))⟩
 refine zb rfl ?_
 by_cases k4:c.kind=4
 ·have g1:=fun hp nx=>zpK c x hp nx hcl ha.cb (hg.ord k4)
  rw[zui ha.right k4 ht] at g1
  rw[if_neg (by omega),if_neg (by omega),if_neg (by omega),if_neg (by omega)] at hvv
  simp only[Ctxt.enc] at g1
  simp[Ctxt.enc,k4,g1,hvv,f33]
 have k4':(c.kind==4)=false:=by simpa using k4
 by_cases k5:c.kind=5
 ·rw[if_neg (by omega),if_neg (by omega),if_neg (by omega),if_pos k5] at hvv
  obtain⟨h5,hr5⟩:=hn c.name (by rw[hnm,if_pos k5];simp)
  rcases YQ ha.ok.up c.name with⟨_,hj,hf,hnj⟩ | ⟨e,_⟩
  case inr=>rw[h5] at e;cases e
  obtain⟨s,hs⟩:∃s,l[kv l c.name]=s:=⟨_,rfl⟩
  rw[hs] at hf hnj
  have gs:=fun hp nx=>WZ (fun l s=>ZO (qy s l)) (fun l _=>l.length≤lim) l c.name hp nx (by omega)
  have hst:ZO (qy c.name l)=.tup [.agg s.enc,boo true]:=by rw[hf];rfl
  simp only[hst] at gs
  have gi:=fun hp nx=>zif (m:=m) (l:=l) (s:=s) (x:=x) ⟨ha,kv l c.name,by rw[List.getElem?_eq_getElem hj,hs],hr5⟩ hp nx
  rw[hnj] at gi
  simp only[Ctxt.enc] at gi
  simp[Ctxt.enc,k5,gs,gi,hvv,f33]
 have k5':(c.kind==5)=false:=by simpa using k5
 by_cases k3:c.kind=3
 ·rw[if_neg (by omega),if_neg (by omega),if_pos k3] at hvv
  obtain⟨y,hy⟩:∃y,c.args=[y]:=by
   have:=hg.one k3
   match h:c.args,this with
   | [y],_=>exact⟨y,rfl⟩
  rw[hy] at hvv
  simp only[hdC] at hvv
  have g1:=fun hp nx=>zck (am y (by rw[hy];simp)) hp nx
  simp only[Ctxt.enc] at g1
  simp[Ctxt.enc,k3,hy,g1,hvv,f33]
 have k3':(c.kind==3)=false:=by simpa using k3
 have hkk:=hg.kind
 obtain⟨b,hb⟩:∃b,(c.kind==1)=b:=⟨_,rfl⟩
 have hv:hF l x c=zeK b (hF l x) c.args:=by
  rw[hvv]
  unfold zeK
  rw[←hb]
  by_cases k1:c.kind=1
  ·rw[if_pos k1,if_pos (by simpa using k1)]
  ·rw[if_neg k1,if_pos (show c.kind=2 by omega),if_neg (by simpa using k1)]
 rw[hv]
 simp[Ctxt.enc,k4',k5',k3',hb]
 refine zu (fun j σ hp nx=>σ 0=.sl 10 (l.map Sgm.enc)∧σ 5=.ref 1 0 0∧σ 9=boo b∧σ 46=.sl 7 (c.args.map Cnd.enc)∧σ 47=int c.args.length∧σ 48=int j∧2≤nx∧hp 1=some ⟨25,2,false,[[str x.key,.sl 6 (x.attrs.map wF)]]⟩∧zeK b (hF l x) c.args=zeK b (hF l x) (c.args.drop j)) c.args.length
  ⟨by simp,by simp,by simp,by simp,by simp,by simp,by simp,by simp,by simp⟩ ?_
 rintro j σ hp nx hj ⟨h0,h5,h9,h46,h47,h48,hnx,b1,hf⟩
 have n1:¬1=nx:=by omega
 by_cases hlt:j<c.args.length
 ·have hw:IntKind.i64.wrap ((j:Int)+1)=(j:Int)+1:=zc (by omega) (by omega)
  obtain⟨y,hy⟩:∃y,c.args[j]=y:=⟨_,rfl⟩
  rw[List.drop_eq_getElem_cons hlt,hy,zj9] at hf
  have g1:=fun hp nx=>zck (am y (by rw[←hy];exact List.getElem_mem hlt)) hp nx
  simp only[Ctxt.enc] at g1
  by_cases d:hF l x y=b
  ·rw[if_pos d] at hf
   rw[d] at g1
   have hbb:(b != b)=false:=by simp
   simp[h0,h5,h9,h46,h47,h48,hlt,hy,b1,n1,g1,hbb,hw]
   and_intros<;>first | omega | exact b1 | exact hf | simp[n1,b1]
  ·rw[if_neg d] at hf
   have hbb:(hF l x y==b)=false:=by simpa using d
   simp[h0,h5,h9,h46,h47,h48,hlt,hy,b1,n1,g1,hbb,hf,d,f33]
 ·obtain rfl:j=c.args.length:=by omega
  rw[List.drop_length] at hf
  have hf:zeK b (hF l x) c.args=b:=by rw[hf];cases b<;>rfl
  simp[h0,h5,h9,h46,h47,h48,hf,f33]
noncomputable abbrev zun (m:Nat):Ctx:=zC prog [(21,zd false [1] (FTS fun l v=>boo (decide (v∈l)))),(33,zd false [] (FHe m lim))]
theorem zkb (m:Nat) (l:List Sgm) (s:Sgm) (x:Ctxt) (h:zvB (m+1) l s x):zg (zun m) f14 [.sl 10 (l.map Sgm.enc),.agg s.enc,.agg x.enc]=some (boo (mF l x (kv l s.name))):=by
 obtain⟨ha,i,hgi,hri⟩:=h
 have hsm:=List.mem_of_getElem? hgi
 have hm2:=vF hsm
 have hmc:s.cb=1+s.name.length+tbs s.ins+tbs s.outs+s.cond.cb:=rfl
 have hlen:=ha.len
 have hlim:lim=2097152:=rfl
 have l1:=xG s.ins
 have l2:=xG s.outs
 obtain⟨_,_,hck⟩:=zm4 (ha.ok.right s hsm).2
 rw[(zqj ha.ok.up hgi).1]
 have hmv:mF l x i=(s.ins.contains x.key||(!s.outs.contains x.key&&hF l x s.cond)):=by
  show zsL l x.key (zqu x) i=_
  rw[zmo ha.ok,ztO,hgi]
  rfl
 have g1:=fun hp nx=>W5 (fun l v=>boo (decide (v∈l))) s.ins x.key hp nx (by omega)
 have g2:=fun hp nx=>W5 (fun l v=>boo (decide (v∈l))) s.outs x.key hp nx (by omega)
 have g3:=fun hp nx=>zck (m:=m) (k:=lim) (l:=l) (c:=s.cond) (x:=x) ⟨ha,by omega,by omega,zaw hck,zj3 hck,fun n hn=>⟨ha.ok.known s hsm n hn,by
  have hsu:kv l n∈qT l i:=by unfold qT;rw[hgi];exact List.mem_map_of_mem hn
  have:=zmn ha.ok i _ hsu
  omega⟩⟩ hp nx
 simp only[Ctxt.enc] at g3
 refine zb rfl ?_
 rw[hmv]
 by_cases c1:x.key∈s.ins
 ·have e1:s.ins.contains x.key=true:=by simpa using c1
  rw[show decide (x.key∈s.ins)=true by simpa using c1] at g1
  rw[e1]
  simp[Ctxt.enc,g1,f14]
 have e1:s.ins.contains x.key=false:=by simpa using c1
 rw[show decide (x.key∈s.ins)=false by simpa using c1] at g1
 by_cases c2:x.key∈s.outs
 ·have e2:s.outs.contains x.key=true:=by simpa using c2
  rw[show decide (x.key∈s.outs)=true by simpa using c2] at g2
  rw[e1,e2]
  simp[Ctxt.enc,g1,g2,f14]
 have e2:s.outs.contains x.key=false:=by simpa using c2
 rw[show decide (x.key∈s.outs)=false by simpa using c2] at g2
 rw[e1,e2]
 simp[Ctxt.enc,g1,g2,g3,f14]
theorem zgP (m:Nat) (h:za prog 14 (zd false [] (FIn m))) (k:Nat):za prog 33 (zd false [] (FHe m k)):=by
 induction k with
 | zero=>exact VQ ⟨_,func33,by kernel_rfl,by kernel_rfl⟩ (VR fun a ha=>by
   have:=Vh a.2.1
   have:=ha.2.1
   omega)
 | succ k ih =>
   exact zL (fn:=f33) (C:=zum m k) (zk (q:=[33]) mixed ⟨zgB,by simp,yP,by simp,h,by simp,ih,fun _=>zi _ _,trivial⟩) ⟨_,func33,by kernel_rfl,rfl,by kernel_rfl⟩ false [] _ fun args r h=>by
    obtain⟨⟨l,c,x⟩,rfl,h1,rfl⟩:=ze h
    exact⟨by simp[f33],_,zka m k l c x h1,zK _⟩
theorem zgQ (m:Nat):za prog 14 (zd false [] (FIn m)):=by
 induction m with
 | zero=>exact VQ ⟨_,func14,by kernel_rfl,by kernel_rfl⟩ (VR fun a ha=>by
   obtain⟨_,i,_,hi⟩:=ha
   omega)
 | succ m ih =>
   exact zL (fn:=f14) (C:=zun m) (zk (q:=[]) mixed ⟨jo,by simp,zgP m ih lim,by simp,trivial⟩) ⟨_,func14,by kernel_rfl,rfl,by kernel_rfl⟩ false [] _ fun args r h=>by
    obtain⟨⟨l,s,x⟩,rfl,h1,rfl⟩:=ze h
    exact⟨by simp[f14],_,zkb m l s x h1,zK _⟩
end Go.Proofs.YtjcofiomfmebkaaGreatDoor
