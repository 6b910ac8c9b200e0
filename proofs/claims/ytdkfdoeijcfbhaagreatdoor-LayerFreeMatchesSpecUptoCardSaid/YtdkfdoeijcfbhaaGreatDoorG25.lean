/-
Plain law: the reference's check of a book is the program's.
The reference's books: its layers, its salts.
The reference's books: its holds.
The reference's books: phases, clash.
-/
import Derived.Test.YtdkfdoeijcfbhaaGreatDoorG24
set_option maxRecDepth 8000
namespace Go.Proofs.YtdkfdoeijcfbhaaGreatDoor
open Go.Proofs.Tryz
open Go.RowKit Go.AM Go.SpanLaw
theorem zbX {a b:List UInt8} (h:wY a b=0):qj a=true∧Op.bytesLess b a=true:=by
 unfold wY at h
 split at h
 ·rename_i c
  split at h
  ·exact absurd h (by simp)
  ·rename_i d;exact⟨c,kV (by simpa using d)⟩
 ·exact absurd h (by simp)
theorem Qb (name before:List UInt8) (first:Bool):jF name before first=wY name (if first=true then [] else before):=by
 unfold jF wY
 cases h:qj name
 ·simp
 ·cases first
  ·simp
  ·have hne:=name_ne h
   have:leB name []=false:=by
    cases name with
    | nil=>exact absurd rfl hne
    | cons c l=>simp[leB,Op.bytesLess]
   simp[this]
theorem JD:∀{xs:List Lyr} {before:List UInt8} {l:List (List UInt8)},(qh before l xs).1=0→(∀y∈xs,Op.bytesLess before y.name=true)∧UpN (xs.map Lyr.name)∧(qh before l xs).2=l++xs.map Lyr.salt
 | [],_,l,_=>⟨fun y hy=>by simp at hy,.nil,by simp[qh]⟩
 | x::xs,before,l,h=>by
   simp only[qh] at h ⊢
   split at h
   ·rename_i c1
    rw[if_pos c1]
    split at h
    ·rename_i c2
     rw[if_pos c2]
     split at h
     ·rename_i c3
      rw[if_pos c3]
      have hx:=(zbX c1).2
      obtain⟨h1,h2,h3⟩:=JD h
      refine⟨fun y hy=>?_,?_,?_⟩
      ·rcases List.mem_cons.1 hy with rfl | hy
       ·exact hx
       ·exact vx hx (h1 y hy)
      ·rw[List.map_cons]
       exact List.pairwise_cons.2 ⟨fun s hs=>by obtain⟨y,hy,rfl⟩:=List.mem_map.1 hs;exact h1 y hy,h2⟩
      ·rw[h3];unfold jv;rw[if_pos c2];simp
     ·exact absurd h (by simp)
    ·rename_i c;exact absurd h c
   ·rename_i c;exact absurd h c
theorem zdi {L:List Lyr}:∀{xs:List Hld} {before:List UInt8} {l:List (List UInt8)},(qZ L before l xs).1=0→(qZ L before l xs).2=l++xs.map Hld.salt
 | [],_,l,_=>by simp[qZ]
 | x::xs,before,l,h=>by
   simp only[qZ] at h ⊢
   split at h
   ·rename_i c1
    rw[if_pos c1]
    split at h
    ·rename_i c2
     rw[if_pos c2]
     split at h
     ·rename_i c3
      rw[if_pos c3,zdi h];unfold jv;rw[if_pos c2];simp
     ·rename_i c;exact absurd h c
    ·rename_i c;exact absurd h c
   ·rename_i c;exact absurd h c
theorem expF_l {L:List Lyr} {before:List UInt8} {l:List (List UInt8)} {x:Xp} (h:(expF L before l x).1=0):(expF L before l x).2=l++[x.salt]:=by
 unfold expF at h ⊢
 split at h
 ·rename_i c1
  rw[if_pos c1]
  split at h
  ·rename_i c2
   rw[if_pos c2]
   split at h
   ·rename_i c3
    rw[if_pos c3]
    split at h
    ·rename_i c4
     rw[if_pos c4]
     split at h
     ·rename_i c5
      rw[if_pos c5]
      split at h
      ·rename_i c6;rw[if_pos c6];unfold jv;rw[if_pos c5]
      ·rename_i c;exact absurd h c
     ·rename_i c;exact absurd h c
    ·rename_i c;exact absurd h c
   ·exact absurd h (by simp)
  ·exact absurd h (by simp)
 ·rename_i c;exact absurd h c
theorem zdj {L:List Lyr}:∀{xs:List Xp} {before:List UInt8} {l:List (List UInt8)},(vA L before l xs).1=0→(∀y∈xs,Op.bytesLess before y.name=true)∧UpN (xs.map Xp.name)
 | [],_,_,_=>⟨fun y hy=>by simp at hy,.nil⟩
 | x::xs,before,l,h=>by
   simp only[vA] at h
   split at h
   ·rename_i c
    have hx:=(zbX (zaz c).2.2.2.2).2
    obtain⟨h1,h2⟩:=zdj h
    refine⟨fun y hy=>?_,?_⟩
    ·rcases List.mem_cons.1 hy with rfl | hy
     ·exact hx
     ·exact vx hx (h1 y hy)
    ·rw[List.map_cons]
     exact List.pairwise_cons.2 ⟨fun s hs=>by obtain⟨y,hy,rfl⟩:=List.mem_map.1 hs;exact h1 y hy,h2⟩
   ·rename_i c;exact absurd h c
theorem zdk {b:Bk} (h:zP b=0):UpN (b.layers.map Lyr.name)∧UpN (b.exps.map Xp.name):=by
 unfold zP at h
 split at h
 ·exact absurd h (by simp)
 split at h
 ·rename_i c1
  split at h
  ·split at h
   ·rename_i c3;exact⟨(JD c1).2.1,(zdj c3).2⟩
   ·rename_i c;exact absurd h c
  ·rename_i c;exact absurd h c
 ·rename_i c;exact absurd h c
theorem X3:∀{L:List Lyr} {s:List UInt8},(∃y∈L,y.name=s)→∃j:Nat,∃h:j<L.length,wQ s L=some L[j]∧L[j].name=s
 | [],s,h=>by obtain⟨y,hy,_⟩:=h;cases hy
 | x::L,s,h=>by
   by_cases hx:x.name=s
   ·exact⟨0,by simp,by simp[wQ,hx],hx⟩
   ·obtain⟨y,hy,e⟩:=h
    rcases List.mem_cons.1 hy with rfl | hy
    ·exact absurd e hx
    ·obtain⟨j,hj,h1,h2⟩:=X3 ⟨y,hy,e⟩
     exact⟨j+1,by simpa using hj,by simp[wQ,hx,h1],by simpa using h2⟩
theorem JE:∀{L:List Lyr} {s:List UInt8},(∀y∈L,y.name≠s)→wQ s L=none
 | [],s,_=>rfl
 | x::L,s,h=>by
   have hx:=h x (by simp)
   simp only[wQ,if_neg hx]
   exact JE fun y hy=>h y (by simp[hy])
theorem JF {L:List Lyr} (h:UpN (L.map Lyr.name)) (s:List UInt8):((bsN (L.map Lyr.name) s).2=true∧∃j,∃hj:j<L.length,(bsN (L.map Lyr.name) s).1=j∧wQ s L=some L[j])∨((bsN (L.map Lyr.name) s).2=false∧wQ s L=none):=by
 by_cases he:∃y∈L,y.name=s
 ·obtain⟨j,hj,h1,h2⟩:=X3 he
  have:=zdQ h (j:=j) (s:=s) (by simp[hj,h2])
  rw[this]
  exact .inl ⟨rfl,j,hj,rfl,h1⟩
 ·refine .inr ⟨?_,JE fun y hy e=>he ⟨y,hy,e⟩⟩
  cases hb:(bsN (L.map Lyr.name) s).2 with
  | false=>rfl
  | true =>
    have:=zbJ hb
    rw[List.getElem?_map] at this
    cases hg:L[(bsN (L.map Lyr.name) s).1]? with
    | none=>rw[hg] at this;cases this
    | some y =>
      rw[hg] at this
      simp only[Option.map_some,Option.some.injEq] at this
      exact absurd ⟨y,List.mem_of_getElem? hg,this⟩ he
theorem zdV:∀{l:List Xp} {s:List UInt8} {k:Nat},(∃y∈l,y.name=s)→∃j:Nat,∃h:j<l.length,atI s k l=((k+j:Nat):Int)∧l[j].name=s
 | [],s,k,h=>by obtain⟨y,hy,_⟩:=h;cases hy
 | x::l,s,k,h=>by
   by_cases hx:x.name=s
   ·exact⟨0,by simp,by simp[atI,hx],hx⟩
   ·obtain⟨y,hy,e⟩:=h
    rcases List.mem_cons.1 hy with rfl | hy
    ·exact absurd e hx
    ·obtain⟨j,hj,h1,h2⟩:=zdV (k:=k+1) ⟨y,hy,e⟩
     exact⟨j+1,by simpa using hj,by simp only[atI,if_neg hx,h1];congr 1;omega,by simpa using h2⟩
theorem zbY:∀{l:List Xp} {s:List UInt8} {k:Nat},(∀y∈l,y.name≠s)→atI s k l=-1
 | [],s,k,_=>rfl
 | x::l,s,k,h=>by
   have hx:=h x (by simp)
   simp only[atI,if_neg hx]
   exact zbY fun y hy=>h y (by simp[hy])
theorem at_bs {l:List Xp} (h:UpN (l.map Xp.name)) (s:List UInt8):((bsN (l.map Xp.name) s).2=true∧atI s 0 l=((bsN (l.map Xp.name) s).1:Int))∨((bsN (l.map Xp.name) s).2=false∧atI s 0 l=-1):=by
 by_cases he:∃y∈l,y.name=s
 ·obtain⟨j,hj,h1,h2⟩:=zdV (k:=0) he
  have:=zdQ h (j:=j) (s:=s) (by simp[hj,h2])
  rw[this,h1]
  exact .inl ⟨rfl,by simp⟩
 ·refine .inr ⟨?_,zbY fun y hy e=>he ⟨y,hy,e⟩⟩
  cases hb:(bsN (l.map Xp.name) s).2 with
  | false=>rfl
  | true =>
    have:=zbJ hb
    rw[List.getElem?_map] at this
    cases hg:l[(bsN (l.map Xp.name) s).1]? with
    | none=>rw[hg] at this;cases this
    | some y =>
      rw[hg] at this
      simp only[Option.map_some,Option.some.injEq] at this
      exact absurd ⟨y,List.mem_of_getElem? hg,this⟩ he
def hitR (d:List Phs) (i:Nat) (p:Phs) (rest:Int) (q:Phs):Bool:=decide (p.at_≤q.at_)&&decide (q.at_<endR d i+rest)&&wo p.spans q.spans
def cR1 (d e:List Phs) (rest:Int):Nat→List Phs→Bool
 | _,[]=>false
 | i,p::l=>e.any (hitR d i p rest)||cR1 d e rest (i+1) l
def ky (a b:Xp) (rest:Int):Bool:=cR1 a.phases b.phases rest 0 a.phases
theorem zaB (d e:List Phs) (rest:Int):∀(l:List Phs) (i:Nat),cR1 d e rest i l=true↔∃(m:Nat) (p:Phs),l[m]?=some p∧∃q∈e,hitR d (i+m) p rest q=true
 | [],i=>by simp[cR1]
 | x::l,i=>by
   simp only[cR1,Bool.or_eq_true,zaB d e rest l (i+1),List.any_eq_true]
   constructor
   ·rintro (⟨q,hq,h⟩ | ⟨m,p,hm,q,hq,h⟩)
    ·exact⟨0,x,rfl,q,hq,h⟩
    ·exact⟨m+1,p,by simpa using hm,q,hq,by rw[show i+(m+1)=i+1+m by omega];exact h⟩
   ·rintro⟨m,p,hm,q,hq,h⟩
    cases m with
    | zero=>simp at hm;subst hm;exact .inl ⟨q,hq,h⟩
    | succ m=>exact .inr ⟨m,p,by simpa using hm,q,hq,by rw[show i+1+m=i+(m+1) by omega];exact h⟩
theorem Zv (a b:List Phs) (i:Nat) (p:Phs) (rest:Int):∀(l:List Phs) (k:Nat),kw a b i p rest k l=true↔∃(m:Nat) (q:Phs),l[m]?=some q∧hitB a b i (k+m) p q rest=true
 | [],k=>by simp[kw]
 | x::l,k=>by
   simp only[kw,Bool.or_eq_true,Zv a b i p rest l (k+1)]
   constructor
   ·rintro (h | ⟨m,q,hm,h⟩)
    ·exact⟨0,x,rfl,h⟩
    ·exact⟨m+1,q,by simpa using hm,by rw[show k+(m+1)=k+1+m by omega];exact h⟩
   ·rintro⟨m,q,hm,h⟩
    cases m with
    | zero=>simp at hm;subst hm;exact .inl h
    | succ m=>exact .inr ⟨m,q,by simpa using hm,by rw[show k+1+m=k+(m+1) by omega];exact h⟩
theorem KS (a b:List Phs) (rest:Int):∀(l:List Phs) (i:Nat),kL a b rest i l=true↔∃(m:Nat) (p:Phs),l[m]?=some p∧kw a b (i+m) p rest 0 b=true
 | [],i=>by simp[kL]
 | x::l,i=>by
   simp only[kL,Bool.or_eq_true,KS a b rest l (i+1)]
   constructor
   ·rintro (h | ⟨m,q,hm,h⟩)
    ·exact⟨0,x,rfl,h⟩
    ·exact⟨m+1,q,by simpa using hm,by rw[show i+(m+1)=i+1+m by omega];exact h⟩
   ·rintro⟨m,q,hm,h⟩
    cases m with
    | zero=>simp at hm;subst hm;exact .inl h
    | succ m=>exact .inr ⟨m,q,by simpa using hm,by rw[show i+1+m=i+(m+1) by omega];exact h⟩
theorem QS {l:List Phs} {i:Nat} {t rest:Int} (ht:0≤t∧t≤4000000000) (hr:0≤rest):t<endF l i+rest↔t<endR l i+rest:=by
 unfold endF endR
 cases l[i+1]? with
 | some p=>exact Iff.rfl
 | none=>simp only;omega
theorem X4 (a b:List Sp):wo a b=wo b a:=by
 have key:∀a b:List Sp,wo a b=true→wo b a=true:=by
  intro a b h
  simp only[wo,List.any_eq_true] at h ⊢
  obtain⟨s,hs,t,ht,h⟩:=h
  refine⟨t,ht,s,hs,?_⟩
  simp only[J8,Bool.and_eq_true,decide_eq_true_eq] at h ⊢
  exact⟨h.2,h.1⟩
 rw[Bool.eq_iff_iff]
 exact⟨key a b,key b a⟩
theorem clash_same {x y:Xp} {rest:Int} (hr:0≤rest) (hx:Z9 x.phases) (hy:Z9 y.phases) (sx:∀p∈x.phases,qa p.spans=0) (sy:∀p∈y.phases,qa p.spans=0):xa x y rest=(ky y x rest||ky x y rest):=by
 rw[Bool.eq_iff_iff,Bool.or_eq_true]
 unfold xa ky
 rw[KS,zaB,zaB]
 constructor
 ·rintro⟨i,p,hp,h⟩
  rw[Zv] at h
  obtain⟨k,q,hq,h⟩:=h
  simp only[Nat.zero_add] at h
  have hpm:=List.mem_of_getElem? hp
  have hqm:=List.mem_of_getElem? hq
  simp only[hitB,XU,Bool.and_eq_true,Bool.or_eq_true,decide_eq_true_eq] at h
  obtain⟨hn,hm⟩:=h
  rw[←WD (sx p hpm) (sy q hqm)] at hm
  rcases hn with⟨h1,h2⟩ | ⟨h1,h2⟩
  ·right
   refine⟨i,p,hp,q,hqm,?_⟩
   simp only[hitR,Nat.zero_add,Bool.and_eq_true,decide_eq_true_eq]
   exact⟨⟨h1,(QS (hy q hqm) hr).1 h2⟩,hm⟩
  ·left
   refine⟨k,q,hq,p,hpm,?_⟩
   simp only[hitR,Nat.zero_add,Bool.and_eq_true,decide_eq_true_eq]
   exact⟨⟨h1,(QS (hx p hpm) hr).1 h2⟩,by rw[X4];exact hm⟩
 ·rintro (⟨k,q,hq,p,hpm,h⟩ | ⟨i,p,hp,q,hqm,h⟩)
  ·have hqm:=List.mem_of_getElem? hq
   obtain⟨i,hi,rfl⟩:=List.getElem_of_mem hpm
   simp only[hitR,Nat.zero_add,Bool.and_eq_true,decide_eq_true_eq] at h
   obtain⟨⟨h1,h2⟩,hm⟩:=h
   refine⟨i,x.phases[i],List.getElem?_eq_getElem hi,?_⟩
   rw[Zv]
   refine⟨k,q,hq,?_⟩
   rw[X4] at hm
   rw[WD (sx _ hpm) (sy q hqm)] at hm
   simp only[hitB,XU,Nat.zero_add,Bool.and_eq_true,Bool.or_eq_true,decide_eq_true_eq]
   exact⟨.inr ⟨h1,(QS (hx _ hpm) hr).2 h2⟩,hm⟩
  ·have hpm:=List.mem_of_getElem? hp
   obtain⟨k,hk,rfl⟩:=List.getElem_of_mem hqm
   simp only[hitR,Nat.zero_add,Bool.and_eq_true,decide_eq_true_eq] at h
   obtain⟨⟨h1,h2⟩,hm⟩:=h
   refine⟨i,p,hp,?_⟩
   rw[Zv]
   refine⟨k,y.phases[k],List.getElem?_eq_getElem hk,?_⟩
   rw[WD (sx p hpm) (sy _ hqm)] at hm
   simp only[hitB,XU,Nat.zero_add,Bool.and_eq_true,Bool.or_eq_true,decide_eq_true_eq]
   exact⟨.inl ⟨h1,(QS (hy _ hqm) hr).2 h2⟩,hm⟩
def rphF:Option Phs→List Phs→Int
 | _,[]=>0
 | p,x::l=>if ji x.at_=true then (if (match p with
   | none=>false
   | some q=>decide (x.at_≤q.at_))=true then 8 else if qa x.spans=0 then (if (match p with
   | none=>x.spans.isEmpty
   | some q=>decide (x.spans=q.spans))=true then 7 else rphF (some x) l) else qa x.spans) else 1
def Zw (l:List Phs):Int:=if (50:Int)<l.length then 2 else rphF none l
theorem X5:∀(l:List Phs) (p:Option Phs),rphF p l=phF (p.map (·.at_)) ((p.map (·.spans)).getD []) l
 | [],p=>rfl
 | x::l,p=>by
   simp only[rphF,phF]
   rw[X5 l (some x)]
   cases p with
   | none =>
     have:(x.spans.isEmpty=true)=(x.spans=[]):=by simp
     simp only[KN,Option.map_none,Option.getD_none,this,Option.map_some,Option.getD_some]
   | some q=>simp only[KN,Option.map_some,Option.getD_some,decide_eq_true_eq]
theorem rphases_same (l:List Phs):Zw l=qQ l:=by
 unfold Zw qQ
 rw[X5]
 rfl
theorem zbZ {l:List (List UInt8)} {s:List UInt8} (h:wH l s=0):jv l s=l++[s]:=by unfold jv;rw[if_pos h]
theorem zb0 (l:List (List UInt8)) (s:List UInt8):encT l++[[str s]]=encT (l++[s]):=by simp[encT]
theorem OwnS.afterT {hp:Hp} {nx:Nat} {v:PV} {l:List (List UInt8)} {s:List UInt8} {tmp:Option Blk}:OwnS (upd (vn v (upd hp nx tmp)) (nx+1) (some ⟨9,1,true,encT (l++[s])⟩)) (nx+2) 9 1 (.own (nx+1) 0 (l.length+1)) (encT (l++[s])) :=
 .inr ⟨nx+1,by omega,by simp,by simp⟩
theorem Zx (y:Lyr):QN (some y)=.tup [.agg [str y.name,str y.salt,int y.rest],boo true]:=rfl
theorem WE:QN none=.tup [.agg [str [],str [],int 0],boo false]:=rfl
def RefV (hp:Hp) (nx:Nat) (v:PV):Prop:=(∀id o n,v≠.own id o n)∧∀id i j,v=.ref id i j→id<nx∧∃blk,hp id=some blk∧blk.arr=false
@[simp] theorem refV_tup (hp:Hp) (nx:Nat) (x:List PV):RefV hp nx (.tup x):=⟨(fun _ _ _ e=>by cases e),(fun _ _ _ e=>by cases e)⟩
theorem Zy {hp:Hp} {nx id i j:Nat} {blk:Blk} (hn:id<nx) (hb:hp id=some blk) (ha:blk.arr=false):RefV hp nx (.ref id i j) :=
 ⟨(fun _ _ _ e=>by cases e),fun id' i' j' e=>by injection e with e;subst e;exact⟨hn,blk,hb,ha⟩⟩
theorem RefV.keep {hp hp':Hp} {nx nx':Nat} {v:PV} (h:RefV hp nx v) (hn:nx≤nx') (hh:∀id blk,id<nx→hp id=some blk→blk.arr=false→hp' id=some blk):RefV hp' nx' v :=
 ⟨h.1,fun id i j e=>by
  obtain⟨h1,blk,h2,h3⟩:=h.2 id i j e
  exact⟨by omega,blk,hh id blk h1 h2 h3,h3⟩⟩
theorem QT {hp:Hp} {nx e s:Nat} {v:PV} {xs:List (List PV)} (hO:OwnS hp nx e s v xs) {t1 t2:Option Blk} {id:Nat} {blk:Blk} (hid:id<nx) (hb:hp id=some blk) (ha:blk.arr=false):upd (vn v (upd hp nx t1)) (nx+1) t2 id=some blk:=by
 rw[zl _ _ _ _ (by omega),zU hO _ id (jl hO hb ha),zl _ _ _ _ (by omega)]
 exact hb
noncomputable def FLys (out:List Lyr→PV):List PV→Option PV:=zH (α:=List Lyr) (fun l=>[.sl 3 (l.map Lyr.enc)]) (fun l=>sumB Lyr.cb l≤lim) out
theorem FLys_call (out:List Lyr→PV) (l:List Lyr) (hp:Hp) (nx:Nat) (h:sumB Lyr.cb l≤lim):zd false [] (FLys out) [.sl 3 (l.map Lyr.enc)] hp nx=some (out l,hp,nx) :=
 zy rfl (zm (enc:=fun l:List Lyr=>[PV.sl 3 (l.map Lyr.enc)]) (a:=l) (fun a b e=>by
  simp only[List.cons.injEq,and_true] at e
  injection e with _ e
  exact qW (fun _ _=>Wx) e) h) (.inr rfl)
def LayI (xs:List Lyr) (k:Nat) (hp:Hp) (nx:Nat) (v w:PV):Prop:=∃(before:List UInt8) (l:List (List UInt8)),v=str before∧OwnS hp nx 9 1 w (encT l)∧(k=0→before=[])∧l.length≤k∧qh [] [] xs=qh before l (xs.drop k)
noncomputable abbrev Crly:Ctx:=v7 prog [(155,zd false [] (FNb fun a b c=>int (jF a b c))),(156,zd false [] (FS Z8)),(157,zd false [1] (FTS fun l v=>boo (decide (v∈l))))] 15 [6,43,46] []
theorem goodrly:AM.Good Crly (fun g=>([]:List Nat).contains g):=Vi mixed ⟨Qa,by simp,vW,by simp,kx,by simp,trivial⟩ (by simp[Kp])
set_option maxHeartbeats 2000000 in
theorem rlayers_eval (xs:List Lyr) (h:sumB Lyr.cb xs≤lim):zi Crly f100 [.sl 3 (xs.map Lyr.enc)]=some (int (qh [] [] xs).1):=by
 refine zb rfl ?_
 have hlen:=zN jh xs
 unfold lim at h
 simp
 refine zq (fun k σ hp nx=>σ 8=.sl 3 (xs.map Lyr.enc)∧σ 9=int xs.length∧σ 10=int k∧RefV hp nx (σ 43)∧RefV hp nx (σ 46)∧LayI xs k hp nx (σ 4) (σ 3)) xs.length
  ⟨by simp,by simp,by simp,by simp,by simp,[],[],by simp,.inl ⟨by simp,rfl⟩,by simp,by simp,by simp⟩ ?_
 rintro k σ hp nx hk ⟨h8,h9,h10,r43,r46,before,l,h4,hO,hb0,hlk,he⟩
 by_cases hlt:k<xs.length
 ·obtain⟨x,hx⟩:∃x,xs[k]=x:=⟨_,rfl⟩
  have hmx:=qt (f:=Lyr.cb) (List.getElem_mem hlt)
  rw[hx] at hmx
  have hxc:x.cb=1+x.name.length+x.salt.length:=rfl
  rw[List.drop_eq_getElem_cons hlt,hx] at he
  simp only[qh] at he
  have hw:IntKind.i64.wrap ((k:Int)+1)=(k:Int)+1:=zc (by omega) (by omega)
  have hnm0:=Qb x.name before (decide (k=0))
  have hnf:jF x.name before (decide (k=0))=wY x.name before:=by
   rw[hnm0]
   by_cases k0:k=0
   ·rw[hb0 k0];simp
   ·simp[k0]
  have hnm:=fun hp nx=>VF (fun a b c=>int (jF a b c)) x.name before (decide (k=0)) hp nx (by unfold lim;omega) rfl
  simp only[hnf] at hnm
  have hk0:((k:Int)==0)=decide (k=0):=by
   rw[Bool.eq_iff_iff];simp
  have hsl:x.salt.length≤lim:=by unfold lim;omega
  have hO1:=hO.more (some ⟨74,3,false,[x.enc]⟩)
  have hct:=zdb (fun l v=>boo (decide (v∈l))) (v:=x.salt) hO1 (by unfold lim;omega) rfl
  have hap:=OwnS.append1 (P:=prog) (t:=85) (c:=[str x.salt]) hO1 el85 sz9 by9 ze9 rfl (by omega) (by rw[vP];unfold maxLen;omega) (by rw[vP];omega)
  rw[zb0] at hap
  simp only[Lyr.enc] at hct hap
  by_cases c1:wY x.name before=0
  case neg =>
   rw[if_neg c1] at he
   have c1':(wY x.name before != 0)=true:=by simpa using c1
   simp[h4,h8,h9,h10,hlt,hx,Lyr.enc,hk0,hnm,c1',he,f100]
  rw[if_pos c1] at he
  cases s1:Z8 x.salt
  ·have c2:wH l x.salt=3:=by simp[wH,s1]
   rw[c2] at he
   simp at he
   simp[h4,h8,h9,h10,hlt,hx,Lyr.enc,hk0,hnm,c1,hsl,s1,he,f100]
  by_cases s2:x.salt∈l
  ·have c2:wH l x.salt=7:=by simp[wH,s1,s2]
   rw[c2] at he
   simp at he
   rw[decide_eq_true s2] at hct
   simp[h4,h8,h9,h10,hlt,hx,Lyr.enc,hk0,hnm,c1,hsl,s1,hct,he,f100]
  have c2:wH l x.salt=0:=by simp[wH,s1,s2]
  rw[if_pos c2,zbZ c2] at he
  rw[decide_eq_false s2] at hct
  by_cases r1:x.rest<0
  ·have c3:inB x.rest 0 100000000=false:=by simp[inB];omega
   rw[c3,if_neg (by simp)] at he
   simp[h4,h8,h9,h10,hlt,hx,Lyr.enc,hk0,hnm,c1,hsl,s1,hct,r1,he,f100]
  by_cases r2:100000000<x.rest
  ·have c3:inB x.rest 0 100000000=false:=by simp[inB];omega
   rw[c3,if_neg (by simp)] at he
   simp[h4,h8,h9,h10,hlt,hx,Lyr.enc,hk0,hnm,c1,hsl,s1,hct,r1,r2,he,f100]
  have c3:inB x.rest 0 100000000=true:=by simp[inB];omega
  rw[c3,if_pos rfl] at he
  simp[h4,h8,h9,h10,hlt,hx,Lyr.enc,hk0,hnm,c1,hsl,s1,hct,r1,r2]
  rw[xy (by
   intro s hs
   simp at hs
   rcases hs with rfl | rfl | rfl
   ·exact Zy (id:=nx) (i:=0) (j:=0) (by simp) (by simp;rfl) rfl
   ·simp
    exact r43.keep (by omega) fun id blk hid hb _=>by rw[zl _ _ _ _ (by omega)];exact hb
   ·simp
    exact r46.keep (by omega) fun id blk hid hb _=>by rw[zl _ _ _ _ (by omega)];exact hb)]
  simp[h4,h8,h9,h10,hw,hap,zf,zn,zg]
  exact⟨by omega,Zy (by omega) (QT hO1 (by omega) (by simp;rfl) rfl) rfl,Zy (by omega) (QT hO1 (by omega) (by simp;rfl) rfl) rfl,x.name,l++[x.salt],rfl,OwnS.afterT,by simp,by simp;omega,he⟩
 ·obtain rfl:k=xs.length:=by omega
  rw[List.drop_length] at he
  simp only[qh] at he
  simp[h8,h9,h10,he,f100]
theorem rlayers_sound:za prog 100 (zd false [] (FLys fun l=>int (qh [] [] l).1)) :=
 zI (fn:=f100) goodrly ⟨_,func100,by kernel_rfl,rfl,by kernel_rfl⟩ false [] _ fun args r h=>by
  obtain⟨l,rfl,hx,rfl⟩:=ze h
  exact⟨by simp[f100],_,rlayers_eval l hx,zG _⟩
def wJ (b:Bk) (n:Nat):List (List UInt8):=b.layers.map Lyr.salt++(b.holds.map Hld.salt++(b.exps.take n).map Xp.salt)
noncomputable def FBn (out:Bk→Nat→PV):List PV→Option PV:=zH (α:=Bk×Nat) (fun a=>[.agg a.1.enc,int a.2]) (fun a=>a.1.cb≤lim∧a.2≤a.1.exps.length) (fun a=>out a.1 a.2)
theorem FBn_call (out:Bk→Nat→PV) (b:Bk) (n:Nat) (hp:Hp) (nx:Nat) (h:b.cb≤lim∧n≤b.exps.length):zd false [] (FBn out) [.agg b.enc,int n] hp nx=some (out b n,hp,nx) :=
 zy (hp1:=hp) (show zj hp [.agg b.enc,int n]=some ([.agg b.enc,int n],hp) by simp only[zj,jw];rfl) (zm (enc:=fun a:Bk×Nat=>[.agg a.1.enc,int a.2]) (a:=(b,n)) (fun x y e=>by
  obtain⟨x1,x2⟩:=x;obtain⟨y1,y2⟩:=y
  simp only[List.cons.injEq,and_true,PV.agg.injEq] at e
  have:=zB e.2
  rw[QM e.1,show x2=y2 by omega]) h) (.inr (by simp only[List.all_cons,Zs];rfl))
theorem encT_fix (l:List (List UInt8)):(encT l).map (fixC [none])=encT l:=by simp[encT]
set_option maxHeartbeats 2000000 in
theorem rsalts_eval (b:Bk) (n:Nat) (hb:b.cb≤lim) (hn:n≤b.exps.length):∃r0,zi C0 f159 [.agg b.enc,int n]=some r0∧Stands r0 (.sl 1 (encT (wJ b n))):=by
 refine js (sh:=.s 1 [none]) rfl ?_
 have hL:=zN jh b.layers
 have hH:=zN Wy b.holds
 have hX:=zN xM b.exps
 have hbc:b.cb=sumB Lyr.cb b.layers+sumB Hld.cb b.holds+sumB Xp.cb b.exps:=rfl
 unfold lim at hb
 have hsl:=fun hp=>slX hp b.exps n hn
 simp[Bk.enc]
 refine zq (fun k σ hp nx=>σ 1=int n∧σ 2=.ref 0 0 0∧σ 13=.sl 3 (b.layers.map Lyr.enc)∧σ 14=int b.layers.length∧σ 15=int k∧1≤nx∧hp 0=some ⟨35,3,false,[b.enc]⟩∧(∀m,σ 5≠.own 0 0 m)∧OwnS hp nx 9 1 (σ 5) (encT ((b.layers.map Lyr.salt).take k))) b.layers.length
  ⟨by simp,by simp,by simp,by simp,by simp,by simp,by simp[Bk.enc],by simp,.inl ⟨by simp,rfl⟩⟩ ?_
 rintro k σ hp nx hk ⟨h1,h2,h13,h14,h15,hnx,b0,hne,hO⟩
 have n0:¬0=nx:=by omega
 by_cases hlt:k<b.layers.length
 ·obtain⟨x,hx⟩:∃x,b.layers[k]=x:=⟨_,rfl⟩
  have hw:IntKind.i64.wrap ((k:Int)+1)=(k:Int)+1:=zc (by omega) (by omega)
  have hE:encT ((b.layers.map Lyr.salt).take (k+1))=encT ((b.layers.map Lyr.salt).take k)++[[str x.salt]]:=by
   rw[List.take_succ_eq_append_getElem (by simpa using hlt),List.getElem_map,hx];simp[encT]
  obtain⟨ys,hys⟩:∃ys,encT ((b.layers.map Lyr.salt).take k)=ys:=⟨_,rfl⟩
  have hyl:ys.length≤1048576:=by rw[←hys];simp;omega
  rw[hys] at hO hE
  have hO1:=hO.more (some ⟨74,3,false,[x.enc]⟩)
  have hap:=OwnS.append1 (P:=prog) (t:=85) (c:=[str x.salt]) hO1 el85 sz9 by9 ze9 rfl (by omega) (by unfold maxLen;omega) (by omega)
  have hk0:=fun hp'=>zU hO hp' 0 hne
  simp only[Lyr.enc] at hap
  simp[h1,h2,h13,h14,h15,hlt,hx,Lyr.enc,hap,hw,zf,zn,zg]
  exact⟨by omega,by simp[hk0,show ¬0=nx by omega,b0],by rw[hE];simpa using OwnS.after⟩
 obtain rfl:k=b.layers.length:=by omega
 rw[List.take_of_length_le (by simp)] at hO
 simp only[Bk.enc] at b0
 simp[h1,h2,h13,h14,h15,b0]
 refine zq (fun k σ hp nx=>σ 1=int n∧σ 2=.ref 0 0 0∧σ 26=.sl 4 (b.holds.map Hld.enc)∧σ 27=int b.holds.length∧σ 28=int k∧1≤nx∧hp 0=some ⟨35,3,false,[b.enc]⟩∧(∀m,σ 5≠.own 0 0 m)∧OwnS hp nx 9 1 (σ 5) (encT (b.layers.map Lyr.salt++(b.holds.map Hld.salt).take k))) b.holds.length
  ⟨by simp[h1],by simp[h2],by simp,by simp,by simp,hnx,b0,by simpa using hne,by simpa using hO⟩ ?_
 clear h1 h2 h13 h14 h15 hnx b0 hne hO hk hlt n0 σ hp nx
 rintro k σ hp nx hk ⟨h1,h2,h13,h14,h15,hnx,b0,hne,hO⟩
 by_cases hlt:k<b.holds.length
 ·obtain⟨x,hx⟩:∃x,b.holds[k]=x:=⟨_,rfl⟩
  have hw:IntKind.i64.wrap ((k:Int)+1)=(k:Int)+1:=zc (by omega) (by omega)
  have hE:encT (b.layers.map Lyr.salt++(b.holds.map Hld.salt).take (k+1))=encT (b.layers.map Lyr.salt++(b.holds.map Hld.salt).take k)++[[str x.salt]]:=by
   rw[List.take_succ_eq_append_getElem (by simpa using hlt),List.getElem_map,hx];simp[encT]
  obtain⟨ys,hys⟩:∃ys,encT (b.layers.map Lyr.salt++(b.holds.map Hld.salt).take k)=ys:=⟨_,rfl⟩
  have hyl:ys.length≤1048576:=by rw[←hys];simp;omega
  rw[hys] at hO hE
  have hO1:=hO.more (some ⟨203,4,false,[x.enc]⟩)
  have hap:=OwnS.append1 (P:=prog) (t:=85) (c:=[str x.salt]) hO1 el85 sz9 by9 ze9 rfl (by omega) (by unfold maxLen;omega) (by omega)
  have hk0:=fun hp'=>zU hO hp' 0 hne
  simp only[Hld.enc] at hap
  simp[h1,h2,h13,h14,h15,hlt,hx,Hld.enc,hap,hw,zf,zn,zg]
  exact⟨by omega,by simp[hk0,show ¬0=nx by omega,b0],by rw[hE];simpa using OwnS.after⟩
 obtain rfl:k=b.holds.length:=by omega
 rw[List.take_of_length_le (by simp)] at hO
 simp only[Bk.enc] at b0
 simp[h1,h2,h13,h14,h15,b0,hsl]
 have htl:((b.exps.take n).map Xp.enc).length=n:=by simp;omega
 have hnl:min n b.exps.length=n:=by omega
 simp[hnl]
 refine zq (fun k σ hp nx=>σ 41=.sl 13 ((b.exps.take n).map Xp.enc)∧σ 42=int n∧σ 43=int k∧OwnS hp nx 9 1 (σ 5) (encT (b.layers.map Lyr.salt++(b.holds.map Hld.salt++((b.exps.take n).map Xp.salt).take k)))) n
  ⟨by simp,by simp,by simp,by simpa using hO⟩ ?_
 clear h1 h2 h13 h14 h15 hnx b0 hne hO hk hlt σ hp nx
 obtain⟨es,hes⟩:∃es,b.exps.take n=es:=⟨_,rfl⟩
 have hesl:es.length=n:=by rw[←hes];simp;omega
 rw[hes]
 rintro k σ hp nx hk ⟨h13,h14,h15,hO⟩
 by_cases hlt:k<n
 ·have hlt2:k<es.length:=by omega
  obtain⟨x,hx⟩:∃x,es[k]=x:=⟨_,rfl⟩
  have hw:IntKind.i64.wrap ((k:Int)+1)=(k:Int)+1:=zc (by omega) (by omega)
  have hE:encT (b.layers.map Lyr.salt++(b.holds.map Hld.salt++(es.map Xp.salt).take (k+1)))=encT (b.layers.map Lyr.salt++(b.holds.map Hld.salt++(es.map Xp.salt).take k))++[[str x.salt]]:=by
   rw[List.take_succ_eq_append_getElem (by simpa using hlt2),List.getElem_map,hx];simp[encT]
  obtain⟨ys,hys⟩:∃ys,encT (b.layers.map Lyr.salt++(b.holds.map Hld.salt++(es.map Xp.salt).take k))=ys:=⟨_,rfl⟩
  have hyl:ys.length≤1048576:=by rw[←hys];simp;omega
  rw[hys] at hO hE
  have hO1:=hO.more (some ⟨66,13,false,[x.enc]⟩)
  have hap:=OwnS.append1 (P:=prog) (t:=85) (c:=[str x.salt]) hO1 el85 sz9 by9 ze9 rfl (by omega) (by unfold maxLen;omega) (by omega)
  simp only[zw] at hap
  simp[h13,h14,h15,hlt,hlt2,hx,zw,hap,hw,zf,zn,zg]
  exact⟨by omega,by rw[hE];simpa using OwnS.after⟩
 obtain rfl:k=n:=by omega
 rw[List.take_of_length_le (by simp;omega)] at hO
 have hsl:wJ b k=b.layers.map Lyr.salt++(b.holds.map Hld.salt++es.map Xp.salt):=by unfold wJ;rw[hes]
 rw[←hsl] at hO
 have hfx:=encT_fix (wJ b k)
 rcases hO with⟨h5,hz⟩ | ⟨id,hid,h5,hb⟩
 ·simp[h13,h14,h15,h5,Y4,hz,f159]
 ·have htk:(encT (wJ b k)).take (wJ b k).length=encT (wJ b k):=List.take_of_length_le (by simp)
  simp[h13,h14,h15,h5,hb,htk,hfx,Y4,f159]
theorem rsalts_sound:za prog 159 (zd false [] (FBn fun b n=>.sl 1 (encT (wJ b n)))) :=
 yw (fn:=f159) qA ⟨_,func159,by kernel_rfl,rfl,by kernel_rfl⟩ false [] _ fun args r h w S vs hz=>by
  obtain⟨⟨b,n⟩,rfl,⟨h1,h2⟩,rfl⟩:=ze h
  obtain⟨r0,h3,h4⟩:=rsalts_eval b n h1 h2
  exact⟨_,r0,hz,by simp[f159],h3,h4⟩
noncomputable def FBu (out:Bk→PV):List PV→Option PV:=zH (α:=Bk) (fun b=>[.agg b.enc]) (fun b=>b.cb≤lim∧UpN (b.layers.map Lyr.name)) out
theorem FBu_call (out:Bk→PV) (b:Bk) (hp:Hp) (nx:Nat) (h:b.cb≤lim) (hu:UpN (b.layers.map Lyr.name)):zd false [] (FBu out) [.agg b.enc] hp nx=some (out b,hp,nx) :=
 zy (hp1:=hp) (show zj hp [.agg b.enc]=some ([.agg b.enc],hp) by simp only[zj,jw]) (zm (enc:=fun b:Bk=>[.agg b.enc]) (a:=b) (fun a b e=>by simp only[List.cons.injEq,and_true,PV.agg.injEq] at e;exact QM e) ⟨h,hu⟩) (.inr (by simp only[List.all_cons,Zs];rfl))
def HolI (b:Bk) (k:Nat) (hp:Hp) (nx:Nat) (v w:PV):Prop:=∃(before:List UInt8) (l:List (List UInt8)),v=str before∧OwnS hp nx 9 1 w (encT l)∧(k=0→before=[])∧l.length≤b.layers.length+k∧qZ b.layers [] (b.layers.map Lyr.salt) b.holds=qZ b.layers before l (b.holds.drop k)
noncomputable abbrev Crho:Ctx:=v7 prog [(155,zd false [] (FNb fun a b c=>int (jF a b c))),(156,zd false [] (FS Z8)),(157,zd false [1] (FTS fun l v=>boo (decide (v∈l)))),(69,zd false [] (FBS fun b s=>QN (wQ s b.layers)))] 31 [8,97,100] []
theorem goodrho:AM.Good Crho (fun g=>([]:List Nat).contains g):=Vi mixed ⟨Qa,by simp,vW,by simp,kx,by simp,jm,by simp,trivial⟩ (by simp[Kp])
theorem holdLs_step {L:List Lyr} {l:List (List UInt8)} {k:Nat} (h:k<l.length):y9 L (vy l k) (l.drop k)=if (bsN (L.map Lyr.name) l[k]).2=true then (if leP (vy l k) l[k]=true then 8 else y9 L (vy l (k+1)) (l.drop (k+1))) else 9:=by
 rw[List.drop_eq_getElem_cons h,y9]
 have:vy l (k+1)=some l[k]:=by simp[vy,h]
 rw[this]
set_option maxHeartbeats 4000000 in
theorem rholds_eval (b:Bk) (hb:b.cb≤lim) (hu:UpN (b.layers.map Lyr.name)):zi Crho f101 [.agg b.enc]=some (int (qZ b.layers [] (b.layers.map Lyr.salt) b.holds).1):=by
 refine zb rfl ?_
 have hL:=zN jh b.layers
 have hH:=zN Wy b.holds
 have hbc:b.cb=sumB Lyr.cb b.layers+sumB Hld.cb b.holds+sumB Xp.cb b.exps:=rfl
 have hlo:=fun s hp nx=>QO (fun b s=>QN (wQ s b.layers)) b s hp nx hb
 simp only[Bk.enc] at hlo
 unfold lim at hb
 simp[Bk.enc]
 refine zq (fun k σ hp nx=>σ 1=.ref 0 0 0∧σ 15=.sl 3 (b.layers.map Lyr.enc)∧σ 16=int b.layers.length∧σ 17=int k∧1≤nx∧hp 0=some ⟨35,3,false,[b.enc]⟩∧σ 97=.tup []∧σ 100=.tup []∧OwnS hp nx 9 1 (σ 3) (encT ((b.layers.map Lyr.salt).take k))) b.layers.length
  ⟨by simp,by simp,by simp,by simp,by simp,by simp[Bk.enc],by simp,by simp,.inl ⟨by simp,rfl⟩⟩ ?_
 rintro k σ hp nx hk ⟨h1,h15,h16,h17,hnx,b0,h97,h100,hO⟩
 by_cases hlt:k<b.layers.length
 ·obtain⟨x,hx⟩:∃x,b.layers[k]=x:=⟨_,rfl⟩
  have hw:IntKind.i64.wrap ((k:Int)+1)=(k:Int)+1:=zc (by omega) (by omega)
  have hE:encT ((b.layers.map Lyr.salt).take (k+1))=encT ((b.layers.map Lyr.salt).take k)++[[str x.salt]]:=by
   rw[List.take_succ_eq_append_getElem (by simpa using hlt),List.getElem_map,hx];simp[encT]
  obtain⟨ys,hys⟩:∃ys,encT ((b.layers.map Lyr.salt).take k)=ys:=⟨_,rfl⟩
  have hyl:ys.length≤1048576:=by rw[←hys];simp;omega
  rw[hys] at hO hE
  have hO1:=hO.more (some ⟨74,3,false,[x.enc]⟩)
  have hap:=OwnS.append1 (P:=prog) (t:=85) (c:=[str x.salt]) hO1 el85 sz9 by9 ze9 rfl (by omega) (by unfold maxLen;omega) (by omega)
  simp only[Lyr.enc] at hap
  simp[h1,h15,h16,h17,h97,h100,hlt,hx,Lyr.enc,hap,hw,zf,zn,zg]
  have hk0:=fun hp'=>zU hO hp' 0 (jl hO b0 rfl)
  exact⟨by omega,by simp[hk0,show ¬0=nx by omega,b0],by rw[hE];simpa using OwnS.after⟩
 obtain rfl:k=b.layers.length:=by omega
 rw[List.take_of_length_le (by simp)] at hO
 have b0':=b0
 simp only[Bk.enc] at b0'
 simp[h1,h15,h16,h17,b0']
 refine zq (fun k σ hp nx=>σ 1=.ref 0 0 0∧σ 28=.sl 4 (b.holds.map Hld.enc)∧σ 29=int b.holds.length∧σ 30=int k∧1≤nx∧hp 0=some ⟨35,3,false,[b.enc]⟩∧RefV hp nx (σ 97)∧RefV hp nx (σ 100)∧HolI b k hp nx (σ 6) (σ 3)) b.holds.length
  ⟨by simp[h1],by simp,by simp,by simp,hnx,b0,by simp[h97],by simp[h100],[],b.layers.map Lyr.salt,by simp,by simpa using hO,by simp,by simp,by simp⟩ ?_
 clear h1 h15 h16 h17 hnx b0 b0' h97 h100 hO hk hlt σ hp nx
 rintro k σ hp nx hk ⟨h1,h28,h29,h30,hnx,b0,r97,r100,before,l,h6,hO,hb0,hlk,he⟩
 by_cases hlt:k<b.holds.length
 ·obtain⟨x,hx⟩:∃x,b.holds[k]=x:=⟨_,rfl⟩
  have hmx:=qt (f:=Hld.cb) (List.getElem_mem hlt)
  rw[hx] at hmx
  have hxc:x.cb=1+x.name.length+x.salt.length+sumB (fun s=>1+s.length) x.layers:=rfl
  have hxl:=zN (f:=fun s:List UInt8=>1+s.length) (fun s=>by omega) x.layers
  rw[List.drop_eq_getElem_cons hlt,hx] at he
  simp only[qZ] at he
  have hw:IntKind.i64.wrap ((k:Int)+1)=(k:Int)+1:=zc (by omega) (by omega)
  have hnf:jF x.name before (decide (k=0))=wY x.name before:=by
   rw[Qb]
   by_cases k0:k=0
   ·rw[hb0 k0];simp
   ·simp[k0]
  have hnm:=fun hp nx=>VF (fun a b c=>int (jF a b c)) x.name before (decide (k=0)) hp nx (by unfold lim;omega) rfl
  simp only[hnf] at hnm
  have hk0:((k:Int)==0)=decide (k=0):=by
   rw[Bool.eq_iff_iff];simp
  have hsl:x.salt.length≤lim:=by unfold lim;omega
  have hO1:=hO.more (some ⟨203,4,false,[x.enc]⟩)
  have hct:=zdb (fun l v=>boo (decide (v∈l))) (v:=x.salt) hO1 (by unfold lim;omega) rfl
  simp only[Hld.enc] at hct
  have n0:¬0=nx:=by omega
  by_cases c1:wY x.name before=0
  case neg =>
   rw[if_neg c1] at he
   have c1':(wY x.name before != 0)=true:=by simpa using c1
   simp[h1,h6,h28,h29,h30,hlt,hx,Hld.enc,hk0,hnm,c1',he,f101]
  rw[if_pos c1] at he
  cases s1:Z8 x.salt
  ·have c2:wH l x.salt=3:=by simp[wH,s1]
   rw[c2] at he
   simp at he
   simp[h1,h6,h28,h29,h30,hlt,hx,Hld.enc,hk0,hnm,c1,hsl,s1,he,f101]
  by_cases s2:x.salt∈l
  ·have c2:wH l x.salt=7:=by simp[wH,s1,s2]
   rw[c2] at he
   simp at he
   rw[decide_eq_true s2] at hct
   simp[h1,h6,h28,h29,h30,hlt,hx,Hld.enc,hk0,hnm,c1,hsl,s1,hct,he,f101]
  have c2:wH l x.salt=0:=by simp[wH,s1,s2]
  rw[if_pos c2,zbZ c2] at he
  rw[decide_eq_false s2] at hct
  have hhf:VD b.layers x=if inB x.buckets 1 100000=true then (if x.layers.length=0 then 9 else y9 b.layers none x.layers) else 1:=rfl
  by_cases r1:x.buckets<1
  ·have c3:inB x.buckets 1 100000=false:=by simp[inB];omega
   rw[c3,if_neg (by simp)] at hhf
   rw[hhf] at he
   simp at he
   simp[h1,h6,h28,h29,h30,hlt,hx,Hld.enc,hk0,hnm,c1,hsl,s1,hct,r1,he,f101]
  by_cases r2:100000<x.buckets
  ·have c3:inB x.buckets 1 100000=false:=by simp[inB];omega
   rw[c3,if_neg (by simp)] at hhf
   rw[hhf] at he
   simp at he
   simp[h1,h6,h28,h29,h30,hlt,hx,Hld.enc,hk0,hnm,c1,hsl,s1,hct,r1,r2,he,f101]
  have c3:inB x.buckets 1 100000=true:=by simp[inB];omega
  rw[c3,if_pos rfl] at hhf
  by_cases z:x.layers.length=0
  ·rw[if_pos z] at hhf
   rw[hhf] at he
   simp at he
   have z':x.layers=[]:=List.length_eq_zero_iff.1 z
   rw[z'] at hct
   simp only[zbb] at hct
   simp[h1,h6,h28,h29,h30,hlt,hx,Hld.enc,hk0,hnm,c1,hsl,s1,hct,r1,r2,z',he,f101]
  rw[if_neg z] at hhf
  have z':((x.layers.length:Int)==0)=false:=by rw[beq_eq_false_iff_ne];omega
  have z2:x.layers≠[]:=fun e=>z (by rw[e];rfl)
  obtain⟨P,hP⟩:∃P,nx=P:=⟨_,rfl⟩
  obtain⟨v,hv⟩:∃v,σ 3=v:=⟨_,rfl⟩
  rw[hv] at hO hO1 hct
  simp[h1,h6,h28,h29,h30,hv,hlt,hx,Hld.enc,hk0,hnm,c1,hsl,s1,hct,r1,r2,z',z2]
  have hP0:1≤P:=by omega
  rw[hP] at hO1 ⊢
  refine zq (fun j σ hp nx=>σ 1=.ref 0 0 0∧σ 28=.sl 4 (b.holds.map Hld.enc)∧σ 29=int b.holds.length∧σ 30=int k∧σ 3=v∧σ 8=.ref P 0 0∧σ 69=.sl 1 (encT x.layers)∧σ 70=int x.layers.length∧σ 71=int j∧P<nx∧hp 0=some ⟨35,3,false,[b.enc]⟩∧hp P=some ⟨203,4,false,[x.enc]⟩∧RefV hp nx (σ 97)∧RefV hp nx (σ 100)∧OwnS hp nx 9 1 v (encT l)∧y9 b.layers none x.layers=y9 b.layers (vy x.layers j) (x.layers.drop j)) x.layers.length
   ⟨by simp[h1],by simp[h28],by simp[h29],by simp[h30],by simp[hv],by simp,by simp,by simp,by simp,(by show P<P+1;omega),by simp[show ¬0=P by omega,b0],by simp[Hld.enc],by simpa using (hP ▸ r97).keep (by omega) fun id blk hid hb _=>by rw[zl _ _ _ _ (by omega)];exact hb,by simpa using (hP ▸ r100).keep (by omega) fun id blk hid hb _=>by rw[zl _ _ _ _ (by omega)];exact hb,by simpa[Hld.enc] using hO1,by simp[vy]⟩ ?_
  clear h1 h6 h28 h29 h30 hv hO hO1 hct hP r97 r100 b0 n0 hnm hnx σ hp nx
  rintro j σ hp nx hj ⟨h1,h28,h29,h30,hv,h8,h69,h70,h71,hPn,b0,bP,r97,r100,hO,hj2⟩
  have n0:¬0=nx:=by omega
  have nP:¬P=nx:=by omega
  by_cases hltj:j<x.layers.length
  ·obtain⟨s,hs⟩:∃s,x.layers[j]=s:=⟨_,rfl⟩
   have hke:∀h:j<(encT x.layers).length,(encT x.layers)[j]=[str s]:=fun h=>by simp[encT,hs]
   have hwj:IntKind.i64.wrap ((j:Int)+1)=(j:Int)+1:=zc (by omega) (by omega)
   rw[holdLs_step hltj,hs] at hj2
   have hlo1:=fun hp nx=>hlo s hp nx
   have b0':=b0
   have bP':=bP
   simp only[Bk.enc] at b0'
   simp only[Hld.enc] at bP'
   rcases JF hu s with⟨f1,q,hq,_,f2⟩ | ⟨f1,f2⟩
   ·rw[f1,if_pos rfl] at hj2
    obtain⟨y,hy⟩:∃y,b.layers[q]=y:=⟨_,rfl⟩
    rw[hy] at f2
    simp only[f2,Zx] at hlo1
    have hfin:∀t2,y9 b.layers none x.layers=y9 b.layers (vy x.layers (j+1)) (x.layers.drop (j+1))→(RefV (upd hp nx t2) (nx+1) (σ 97)∧RefV (upd hp nx t2) (nx+1) (σ 100)∧OwnS (upd hp nx t2) (nx+1) 9 1 v (encT l)∧y9 b.layers none x.layers=y9 b.layers (vy x.layers (j+1)) (x.layers.drop (j+1))):=fun t2 h =>
     ⟨r97.keep (by omega) fun id blk hid hb _=>by rw[zl _ _ _ _ (by omega)];exact hb,r100.keep (by omega) fun id blk hid hb _=>by rw[zl _ _ _ _ (by omega)];exact hb,hO.more _,h⟩
    by_cases j0:j=0
    ·subst j0
     have hp0:leP (vy x.layers 0) s=false:=rfl
     rw[hp0,if_neg (by simp)] at hj2
     have hfin':=fun t2=>hfin t2 hj2
     simp only[Nat.zero_add,List.drop_one] at hfin'
     simp[h1,h28,h29,h30,hv,h8,h69,h70,h71,hltj,hke,b0',bP',n0,nP,hlo1,hwj]
     exact⟨by omega,by omega,rfl,rfl,hfin' _⟩
    ·obtain⟨i,rfl⟩:∃i,j=i+1:=⟨j - 1,by omega⟩
     have hi:i<x.layers.length:=by omega
     obtain⟨u,hu'⟩:∃u,x.layers[i]=u:=⟨_,rfl⟩
     have hki:∀h:i<(encT x.layers).length,(encT x.layers)[i]=[str u]:=fun h=>by simp[encT,hu']
     have wj:IntKind.i64.wrap ((i:Int)+1 - 1)=(i:Int):=by rw[zc (by omega) (by omega)];omega
     have wj':IntKind.i64.wrap (i:Int)=(i:Int):=zc (by omega) (by omega)
     have j1:((i:Int)+1).toNat=i+1:=by omega
     have j2:0<(i:Int)+1:=by omega
     have j3:0≤(i:Int)+1:=by omega
     have j4:(i:Int)+1<x.layers.length:=by omega
     have wk:IntKind.i64.wrap ((i:Int)+1+1)=(i:Int)+1+1:=zc (by omega) (by omega)
     have hpl:leP (vy x.layers (i+1)) s=leB s u:=by simp[vy,hi,hu',leP]
     have hle:(Op.bytesLess s u||s==u)=leB s u:=rfl
     rw[hpl] at hj2
     cases hc:leB s u
     ·rw[hc,if_neg (by simp)] at hj2
      rw[hc] at hle
      simp[h1,h28,h29,h30,hv,h8,h69,h70,h71,hltj,hi,hke,hki,b0',bP',n0,nP,hlo1,wk,wj,wj',j1,j2,j3,j4,hle]
      exact⟨by omega,by omega,rfl,rfl,hfin _ hj2⟩
     ·rw[hc,if_pos rfl] at hj2
      rw[hc] at hle
      rw[hhf,hj2] at he
      simp at he
      simp[h1,h28,h29,h30,hv,h8,h69,h70,h71,hltj,hi,hke,hki,b0',bP',n0,nP,hlo1,hwj,wj,wj',j1,j2,j3,j4,hle,he,f101]
   ·rw[f1,if_neg (by simp)] at hj2
    rw[hhf,hj2] at he
    simp at he
    simp only[f2,WE] at hlo1
    simp[h1,h28,h29,h30,hv,h8,h69,h70,h71,hltj,hke,b0',bP',n0,nP,hlo1,he,f101]
  ·obtain rfl:j=x.layers.length:=by omega
   rw[List.drop_length] at hj2
   simp only[y9] at hj2
   rw[hhf,hj2,if_pos rfl] at he
   have hap:=OwnS.append1 (P:=prog) (t:=85) (c:=[str x.salt]) hO el85 sz9 by9 ze9 rfl (by omega) (by rw[vP];unfold maxLen;omega) (by rw[vP];omega)
   rw[zb0] at hap
   have bP':=bP
   simp only[Hld.enc] at bP'
   simp[h1,h28,h29,h30,hv,h8,h69,h70,h71]
   rw[xy (by
    intro s hs
    simp at hs
    rcases hs with rfl | rfl | rfl
    ·simp only[zZ _ _ _ _ (show (8:Nat)≠72 by decide),h8]
     exact Zy (by omega) bP rfl
    ·simp
     exact r97
    ·simp
     exact r100)]
   simp[h1,h28,h29,h30,hv,h8,hw,bP',n0,nP,hap,zf,zn,zg]
   have hk0:=fun hp'=>zU hO hp' 0 (jl hO b0 rfl)
   exact⟨by omega,by simp[hk0,n0,b0],Zy (by omega) (QT hO (by omega) bP rfl) rfl,Zy (by omega) (QT hO (by omega) bP rfl) rfl,x.name,l++[x.salt],rfl,OwnS.afterT,by simp,by simp;omega,he⟩
 ·obtain rfl:k=b.holds.length:=by omega
  rw[List.drop_length] at he
  simp only[qZ] at he
  simp[h1,h28,h29,h30,he,f101]
theorem rholds_sound:za prog 101 (zd false [] (FBu fun b=>int (qZ b.layers [] (b.layers.map Lyr.salt) b.holds).1)) :=
 zI (fn:=f101) goodrho ⟨_,func101,by kernel_rfl,rfl,by kernel_rfl⟩ false [] _ fun args r h=>by
  obtain⟨b,rfl,⟨hx,hu⟩,rfl⟩:=ze h
  exact⟨by simp[f101],_,rholds_eval b hx hu,zG _⟩
def zaC (l:List Phs) (k:Nat):Option Phs:=if k=0 then none else l[k - 1]?
abbrev qrph:List Nat:=[11]
noncomputable abbrev Crph:Ctx:=zF prog [(30,zd false [] (FIb ji)),(227,zd false [] (FP (fun l=>int (qa l)) fun _=>True)),(11,zd false [] (FPP (fun a b=>boo (decide (a=b))) fun a _=>a.length≤lim))]
theorem goodrph:AM.Good Crph (fun g=>qrph.contains g):=zk mixed ⟨vV,by simp,rcheckSpans_sound,by simp,W9,fun _=>zh _ _,trivial⟩
set_option maxHeartbeats 1000000 in
theorem rphases_eval (l:List Phs) (h:sumB Phs.cb l≤lim):zi Crph f161 [.sl 2 (l.map Phs.enc)]=some (int (qQ l)):=by
 have hlen:=zN jC l
 unfold lim at h
 refine zb rfl ?_
 rw[←rphases_same]
 by_cases h50:(50:Int)<l.length
 ·have hv:Zw l=2:=by unfold Zw;rw[if_pos h50]
  simp[h50,hv,f161]
 have hv:Zw l=rphF none l:=by unfold Zw;rw[if_neg h50]
 rw[hv]
 simp[h50]
 refine zq (fun k σ hp nx=>σ 0=.sl 2 (l.map Phs.enc)∧σ 9=.sl 2 (l.map Phs.enc)∧σ 10=int l.length∧σ 11=int k∧rphF none l=rphF (zaC l k) (l.drop k)) l.length
  ⟨by simp,by simp,by simp,by simp,by simp[zaC]⟩ ?_
 rintro k σ hp nx hk ⟨h0,h9,h10,h11,he⟩
 by_cases hlt:k<l.length
 ·have hm:=qt (f:=Phs.cb) (List.getElem_mem hlt)
  obtain⟨x,hx⟩:∃x,l[k]=x:=⟨_,rfl⟩
  have hpn:zaC l (k+1)=some x:=by simp[zaC,hlt,hx]
  rw[hx] at hm
  have hmx:x.cb=1+x.spans.length:=rfl
  rw[List.drop_eq_getElem_cons hlt,hx] at he
  simp only[rphF] at he
  rw[←hpn] at he
  have hcs:=fun hp nx=>Wv (fun l=>int (qa l)) (fun _=>True) x.spans hp nx trivial
  have hw:IntKind.i64.wrap ((k:Int)+1)=(k:Int)+1:=zc (by omega) (by omega)
  cases ht:ji x.at_
  ·rw[ht,if_neg (by simp)] at he
   simp[h0,h9,h10,h11,hlt,hx,Phs.enc,ht,he,f161]
  rw[ht,if_pos rfl] at he
  by_cases k0:k=0
  ·subst k0
   have hp0:zaC l 0=none:=rfl
   rw[hp0] at he
   simp only[Bool.false_eq_true,if_false] at he
   by_cases hf:qa x.spans=0
   ·rw[if_pos hf] at he
    cases hz:x.spans.isEmpty
    ·rw[hz,if_neg (by simp)] at he
     have hz':((x.spans.length:Int)==0)=false:=by
      rw[beq_eq_false_iff_ne]
      intro e
      have:x.spans=[]:=List.length_eq_zero_iff.1 (by omega)
      rw[this] at hz
      cases hz
     have hz2:x.spans≠[]:=fun e=>by rw[e] at hz;cases hz
     simp[h0,h9,h10,h11,hlt,hx,Phs.enc,ht,hcs,hf,hz',hz2,hw]
     exact⟨by omega,by simpa using he⟩
    ·rw[hz,if_pos rfl] at he
     have hz2:x.spans=[]:=by simpa using hz
     rw[hz2] at hcs hf
     simp only[List.map_nil] at hcs
     simp[h0,h9,h10,h11,hlt,hx,Phs.enc,ht,hcs,hf,hz2,he,f161]
   ·rw[if_neg hf] at he
    have hf':(qa x.spans != 0)=true:=by simpa using hf
    simp[h0,h9,h10,h11,hlt,hx,Phs.enc,ht,hcs,hf,hf',he,f161]
  ·obtain⟨j,rfl⟩:∃j,k=j+1:=⟨k - 1,by omega⟩
   have hj:j<l.length:=by omega
   obtain⟨y,hy⟩:∃y,l[j]=y:=⟨_,rfl⟩
   have hmj:=qt (f:=Phs.cb) (List.getElem_mem hj)
   rw[hy] at hmj
   have hmy:y.cb=1+y.spans.length:=rfl
   have wj:IntKind.i64.wrap ((j:Int)+1 - 1)=(j:Int):=by rw[zc (by omega) (by omega)];omega
   have wj':IntKind.i64.wrap (j:Int)=(j:Int):=zc (by omega) (by omega)
   have j1:((j:Int)+1).toNat=j+1:=by omega
   have j2:0<(j:Int)+1:=by omega
   have j3:0≤(j:Int)+1:=by omega
   have j4:(j:Int)+1<l.length:=by omega
   have j5:((j:Int)+1==0)=false:=by rw[beq_eq_false_iff_ne];omega
   have hpp:zaC l (j+1)=some y:=by simp[zaC,hj,hy]
   have hq:=fun hp nx=>Zq (fun a b=>boo (decide (a=b))) (fun a _=>a.length≤lim) x.spans y.spans hp nx (by unfold lim;omega)
   rw[hpp] at he
   simp only[decide_eq_true_eq] at he
   by_cases hle:x.at_≤y.at_
   ·rw[if_pos hle] at he
    simp[h0,h9,h10,h11,hlt,hj,hx,hy,Phs.enc,ht,wj,wj',j1,j2,j3,j4,hle,he,f161]
   ·rw[if_neg hle] at he
    by_cases hf:qa x.spans=0
    ·rw[if_pos hf] at he
     by_cases hs:x.spans=y.spans
     ·rw[if_pos hs] at he
      rw[decide_eq_true hs] at hq
      simp[h0,h9,h10,h11,hlt,hj,hx,hy,Phs.enc,ht,wj,wj',j1,j2,j3,j4,j5,hle,hcs,hf,hq,he,f161]
     ·rw[if_neg hs] at he
      rw[decide_eq_false hs] at hq
      have wk:IntKind.i64.wrap ((j:Int)+1+1)=(j:Int)+1+1:=zc (by omega) (by omega)
      simp[h0,h9,h10,h11,hlt,hj,hx,hy,Phs.enc,ht,wj,wj',j1,j2,j3,j4,j5,hle,hcs,hf,hq,wk]
      exact⟨by omega,he⟩
    ·rw[if_neg hf] at he
     have hf':(qa x.spans != 0)=true:=by simpa using hf
     simp[h0,h9,h10,h11,hlt,hj,hx,hy,Phs.enc,ht,wj,wj',j1,j2,j3,j4,hle,hcs,hf,hf',he,f161]
 ·obtain rfl:k=l.length:=by omega
  rw[List.drop_length] at he
  simp only[rphF] at he
  simp[h0,h9,h10,h11,he,f161]
theorem rphases_sound:za prog 161 (zd false [] (FPh fun l=>int (qQ l))) :=
 zI (fn:=f161) goodrph ⟨_,func161,by kernel_rfl,rfl,by kernel_rfl⟩ false [] _ fun args r h=>by
  obtain⟨l,rfl,hx,rfl⟩:=ze h
  exact⟨by simp[f161],_,rphases_eval l hx,zG _⟩
noncomputable def FClR:List PV→Option PV:=zH (α:=Xp×Xp×Int) (fun a=>[.agg a.1.enc,.agg a.2.1.enc,int a.2.2]) (fun a=>a.1.okC∧a.2.1.okC∧0≤a.2.2∧a.2.2≤100000000) (fun a=>boo (ky a.1 a.2.1 a.2.2))
theorem X6 (a b:Xp) (rest:Int) (hp:Hp) (nx:Nat) (h:a.okC∧b.okC∧0≤rest∧rest≤100000000):zd false [] FClR [.agg a.enc,.agg b.enc,int rest] hp nx=some (boo (ky a b rest),hp,nx) :=
 zy (hp1:=hp) (show zj hp [.agg a.enc,.agg b.enc,int rest]=some ([.agg a.enc,.agg b.enc,int rest],hp) by simp only[zj,xQ];rfl) (zm (enc:=fun a:Xp×Xp×Int=>[.agg a.1.enc,.agg a.2.1.enc,int a.2.2]) (a:=(a,b,rest)) (fun x y e=>by
  obtain⟨x1,x2,x3⟩:=x;obtain⟨y1,y2,y3⟩:=y
  simp only[List.cons.injEq,and_true,PV.agg.injEq] at e
  rw[xL e.1,xL e.2.1,zB e.2.2]) h) (.inl rfl)
noncomputable abbrev zdD:Ctx:=zF prog [(111,zd false [] (FXn fun x i=>int (endR x.phases i))),(162,zd false [] (FPP (fun a b=>boo (wo a b)) fun a b=>a.length≤lim∧b.length≤lim))]
theorem goodrcla:AM.Good zdD (fun g=>[111,162].contains g):=zk mixed ⟨KR,fun _=>zh _ _,rMeets_sound,fun _=>zh _ _,trivial⟩
@[simp] theorem quietrcla1:wn zdD 111:=qm (by rfl) (zh _ _)
@[simp] theorem quietrcla2:wn zdD 162:=qm (by rfl) (zh _ _)
theorem KT {l:List Phs} (h:Z9 l) (i:Nat):0≤endR l i∧endR l i≤1125899906842624:=by
 unfold endR
 split
 ·rename_i p hp
  have:=h p (List.mem_of_getElem? hp)
  omega
 ·omega
theorem cR1_drop {a b:List Phs} {rest:Int} {i:Nat} {l:List Phs} (h:i<l.length):cR1 a b rest i (l.drop i)=(b.any (hitR a i l[i] rest)||cR1 a b rest (i+1) (l.drop (i+1))):=by
 rw[List.drop_eq_getElem_cons h,cR1]
set_option maxHeartbeats 2000000 in
theorem rclash_eval (a b:Xp) (rest:Int) (ha:a.okC) (hb:b.okC) (hr:0≤rest∧rest≤100000000):zi zdD f103 [.agg a.enc,.agg b.enc,int rest]=some (boo (ky a b rest)):=by
 obtain⟨hta,hca⟩:=ha
 obtain⟨htb,hcb⟩:=hb
 have hla:=zN jC a.phases
 have hlb:=zN jC b.phases
 have xca:a.cb=a.name.length+a.layer.length+a.flag.length+a.cond.cb+a.salt.length+a.arms.length+sumB Phs.cb a.phases:=rfl
 have xcb:b.cb=b.name.length+b.layer.length+b.flag.length+b.cond.cb+b.salt.length+b.arms.length+sumB Phs.cb b.phases:=rfl
 unfold lim at hca hcb
 refine zb rfl ?_
 simp[zw]
 have hval:ky a b rest=cR1 a.phases b.phases rest 0 a.phases:=rfl
 refine zq (fun i σ hp nx=>σ 2=int rest∧σ 3=.ref 0 0 0∧σ 4=.ref 1 0 0∧σ 12=.sl 2 (a.phases.map Phs.enc)∧σ 13=int a.phases.length∧σ 14=int i∧2≤nx∧hp 0=some ⟨66,13,false,[a.enc]⟩∧hp 1=some ⟨66,13,false,[b.enc]⟩∧ky a b rest=cR1 a.phases b.phases rest i (a.phases.drop i)) a.phases.length
  ⟨by simp,by simp,by simp,by simp,by simp,by simp,by simp,by simp[zw],by simp[zw],by rw[hval];simp⟩ ?_
 rintro i σ hp nx hi ⟨h2,h3,h4,h13,h14,h15,hnx,b0,b1,he⟩
 by_cases hlt:i<a.phases.length
 ·obtain⟨p,hpd⟩:∃p,a.phases[i]=p:=⟨_,rfl⟩
  have hpm:=hta p (by rw[←hpd];exact List.getElem_mem hlt)
  have hsp:=qt (f:=Phs.cb) (show p∈a.phases by rw[←hpd];exact List.getElem_mem hlt)
  have hpc:p.cb=1+p.spans.length:=rfl
  rw[cR1_drop hlt,hpd] at he
  have hwi:IntKind.i64.wrap ((i:Int)+1)=(i:Int)+1:=zc (by omega) (by omega)
  have n0:¬0=nx:=by omega
  have n1:¬1=nx:=by omega
  simp[h2,h3,h4,h13,h14,h15,hlt,hpd,Phs.enc,b0,b1,n0,n1,zw]
  obtain⟨P,hP⟩:∃P,nx=P:=⟨_,rfl⟩
  rw[hP]
  have hea:=KT hta i
  refine zq (fun k σ hp nx=>σ 2=int rest∧σ 3=.ref 0 0 0∧σ 4=.ref 1 0 0∧σ 12=.sl 2 (a.phases.map Phs.enc)∧σ 13=int a.phases.length∧σ 14=int i∧σ 7=int i∧σ 8=.ref P 0 0∧σ 20=.sl 2 (b.phases.map Phs.enc)∧σ 21=int b.phases.length∧σ 22=int k∧2≤P∧P<nx ∧
    hp 0=some ⟨66,13,false,[a.enc]⟩∧hp 1=some ⟨66,13,false,[b.enc]⟩∧hp P=some ⟨100,2,false,[p.enc]⟩∧ky a b rest=((b.phases.drop k).any (hitR a.phases i p rest)||cR1 a.phases b.phases rest (i+1) (a.phases.drop (i+1)))) b.phases.length
   ⟨by simp[h2],by simp[h3],by simp[h4],by simp[h13],by simp[h14],by simp[h15],by simp,by simp,by simp,by simp,by simp,by omega,(by show P<P+1;omega),by simp[b0,show ¬0=P by omega],by simp[b1,show ¬1=P by omega],by simp[Phs.enc],by simpa using he⟩ ?_
  clear h2 h3 h4 h13 h14 h15 hnx b0 b1 n0 n1 hP hi σ hp nx
  rintro k σ hp nx hk ⟨h2,h3,h4,h13,h14,h15,h7,h8,h21,h22,h23,hP2,hPn,b0,b1,bP,he⟩
  by_cases hltk:k<b.phases.length
  ·obtain⟨q,hqd⟩:∃q,b.phases[k]=q:=⟨_,rfl⟩
   have hqm:=htb q (by rw[←hqd];exact List.getElem_mem hltk)
   have hsq:=qt (f:=Phs.cb) (show q∈b.phases by rw[←hqd];exact List.getElem_mem hltk)
   have hqc:q.cb=1+q.spans.length:=rfl
   rw[List.drop_eq_getElem_cons hltk,List.any_cons,hqd] at he
   have hwk:IntKind.i64.wrap ((k:Int)+1)=(k:Int)+1:=zc (by omega) (by omega)
   have wa:IntKind.i64.wrap (endR a.phases i+rest)=endR a.phases i+rest:=zc (by omega) (by omega)
   have hce:=fun hp nx=>zbW (fun x i=>int (endR x.phases i)) a i hp nx ⟨by unfold lim;omega,by unfold lim;omega⟩
   have hcm:=fun hp nx=>Zq (fun a b=>boo (wo a b)) (fun a b=>a.length≤lim∧b.length≤lim) p.spans q.spans hp nx ⟨by unfold lim;omega,by unfold lim;omega⟩
   have n0:¬0=nx:=by omega
   have n1:¬1=nx:=by omega
   have nP:¬P=nx:=by omega
   have hhit:(decide (p.at_≤q.at_)&&decide (q.at_<endR a.phases i+rest)&&wo p.spans q.spans)=hitR a.phases i p rest q:=rfl
   rw[Phs.enc] at bP
   rw[zw] at b0 b1 hce
   cases hh:hitR a.phases i p rest q
   ·rw[hh] at he
    simp[h2,h3,h4,h7,h8,h13,h14,h15,h21,h22,h23,hltk,hqd,Phs.enc,b0,b1,bP,n0,n1,nP,hce,hcm,wa,hhit,hh,hwk]
    exact⟨by omega,hP2,by omega,(zw a).symm,(zw b).symm,by rw[he];simp⟩
   ·rw[hh] at he
    simp[h2,h3,h4,h7,h8,h13,h14,h15,h21,h22,h23,hltk,hqd,Phs.enc,b0,b1,bP,n0,n1,nP,hce,hcm,wa,hhit,hh,he,f103]
  ·obtain rfl:k=b.phases.length:=by omega
   rw[List.drop_length,List.any_nil,Bool.false_or] at he
   simp[h2,h3,h4,h13,h14,h15,h21,h22,h23,hwi]
   exact⟨by omega,by omega,by rw[←zw];exact b0,by rw[←zw];exact b1,he⟩
 ·obtain rfl:i=a.phases.length:=by omega
  rw[List.drop_length] at he
  simp only[cR1] at he
  simp[h2,h3,h4,h13,h14,h15,he,f103]
set_option maxRecDepth 100000 in
theorem rclash_sound:za prog 103 (zd false [] FClR) :=
 zI (fn:=f103) goodrcla ⟨_,func103,by kernel_rfl,rfl,by kernel_rfl⟩ false [] _ fun args r h=>by
  obtain⟨⟨a,b,rest⟩,rfl,⟨h1,h2,h3⟩,rfl⟩:=ze h
  exact⟨by simp[f103],_,rclash_eval a b rest h1 h2 h3,zG _⟩
end Go.Proofs.YtdkfdoeijcfbhaaGreatDoor
