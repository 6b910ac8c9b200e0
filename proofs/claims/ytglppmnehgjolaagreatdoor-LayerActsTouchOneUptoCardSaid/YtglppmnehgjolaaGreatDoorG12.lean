/-
Functions of package strings on lists of bytes: Index, Count, Contains, Cut, HasPrefix, CutPrefix, Split, Trim, TrimLeft, IndexByte.
strings.Split at a separator that is not empty.
Numbers and parts of versions: allDigits, whole, versionNumber, isPre, CheckVersion, open.
Versions: their cells, CheckVersion, ReadVersion.
ReadVersion.
readPartial.
Copies of slices.
The reference's Check of a value: what it computes, and that it is value.Check's.
The reference's Check of a value.
-/
import Derived.Test.YtglppmnehgjolaaGreatDoorG11
import Derived.Test.YtglppmnehgjolaaGreatDoorG9
import Derived.Lib.Split
import Derived.Test.YtglppmnehgjolaaGreatDoorG10
set_option maxRecDepth 8000
namespace Go.Proofs.YtglppmnehgjolaaGreatDoor
open Go.Proofs.Tryz
open Go.RowKit Go.AM
noncomputable def FTT (f:List UInt8→List UInt8→PV) (pre:List UInt8→List UInt8→Prop):List PV→Option PV:=zM (α:=List UInt8×List UInt8) (fun a=>[str a.1,str a.2]) (fun a=>a.1.length≤lim∧a.2.length≤lim∧pre a.1 a.2) (fun a=>f a.1 a.2)
theorem ss_inj:∀a b:List UInt8×List UInt8,[str a.1,str a.2]=[str b.1,str b.2]→a=b:=by
 rintro⟨a1,a2⟩ ⟨b1,b2⟩ e
 simp only[List.cons.injEq,and_true] at e
 rw[qa e.1,qa e.2]
theorem jJ (f:List UInt8→List UInt8→PV) (pre:List UInt8→List UInt8→Prop) (a b:List UInt8) (hp:Hp) (nx:Nat) (h:a.length≤lim) (h2:b.length≤lim) (h3:pre a b) (hf:(f a b).flat=true):zd false [] (FTT f pre) [str a,str b] hp nx=some (f a b,hp,nx) :=
 zJ rfl (zq (enc:=fun a:List UInt8×List UInt8=>[str a.1,str a.2]) (a:=(a,b)) ss_inj ⟨h,h2,h3⟩) (.inl hf)
theorem jn {f:List UInt8→List UInt8→PV} {pre:List UInt8→List UInt8→Prop} {args:List PV} {r:PV} (h:FTT f pre args=some r):∃a b,args=[str a,str b]∧a.length≤lim∧b.length≤lim∧pre a b∧r=f a b:=by
 obtain⟨⟨a,b⟩,rfl,⟨h1,h2,h3⟩,rfl⟩:=zg h
 exact⟨a,b,rfl,h1,h2,h3,rfl⟩
theorem intVarM:IntVar prog 0:=by
 refine⟨of_decide_eq_true (by kernel_rfl),#[.int .i64 0],3,by kernel_rfl,rfl,by kernel_rfl,by kernel_rfl,by kernel_rfl⟩
def idxP (a b:List UInt8):PV:=int (Lib.index a b)
def cntP (a b:List UInt8):PV:=int (Lib.count a b)
theorem index_sound:za prog 191 (zd false [] (FTT idxP fun _ _=>True)) :=
 yZ ⟨_,func191,by kernel_rfl,by kernel_rfl⟩ fun args r h=>by
  obtain⟨a,b,rfl,h1,h2,_,rfl⟩:=jn h
  unfold lim at h1 h2
  refine⟨[.string ⟨a.toArray⟩,.string ⟨b.toArray⟩],rfl,by simp[lit],rfl,.int .i64 (Lib.index a b),fun w S=>.v rfl,fun w S hg=>?_⟩
  obtain⟨_,m,hm⟩:=hg.1 0 intVarM
  refine (Any.stringslite_Index Tryz.lays219 ⟨a.toArray⟩ ⟨b.toArray⟩ m w (by simp;omega) hm).mono fun e w' hh=>?_
  obtain⟨rfl,rfl⟩:=hh
  exact⟨by simp,Fr.refl _ _⟩
theorem sCount_sound:za prog 193 (zd false [] (FTT cntP fun _ b=>1≤b.length)) :=
 yZ ⟨_,func193,by kernel_rfl,by kernel_rfl⟩ fun args r h=>by
  obtain⟨a,b,rfl,h1,h2,h3,rfl⟩:=jn h
  unfold lim at h1 h2
  refine⟨[.string ⟨a.toArray⟩,.string ⟨b.toArray⟩],rfl,by simp[lit],rfl,.int .i64 (Lib.count a b),fun w S=>.v rfl,fun w S hg=>?_⟩
  obtain⟨_,m,hm⟩:=hg.1 0 intVarM
  refine (Any.strings_Count_any Tryz.lays138 ⟨a.toArray⟩ ⟨b.toArray⟩ m w (by simp;omega) hm (by simpa using h3)).mono fun e w' hh=>?_
  obtain⟨rfl,rfl⟩:=hh
  exact⟨by simp[Lib.countB],Fr.refl _ _⟩
noncomputable abbrev Ci:Ctx:=zN prog [(191,zd false [] (FTT idxP fun _ _=>True))]
theorem goodi:AM.Good Ci (fun g=>[191].contains g):=zr mixed ⟨index_sound,fun _=>zf _ _,trivial⟩
theorem vV (a b:List UInt8) (hp:Hp) (nx:Nat) (h:a.length≤lim) (h2:b.length≤lim):zd false [] (FTT idxP fun _ _=>True) [str a,str b] hp nx=some (int (Lib.index a b),hp,nx):=jJ _ _ a b hp nx h h2 trivial rfl
theorem sIndex_sound:za prog 178 (zd false [] (FTT idxP fun _ _=>True)) :=
 zZ (fn:=f178) goodi ⟨_,func178,by kernel_rfl,rfl,by kernel_rfl⟩ false [] _ fun args r h=>by
  obtain⟨a,b,rfl,h1,h2,_,rfl⟩:=jn h
  exact⟨by simp[f178],_,ze rfl (by simp[vV,h1,h2,idxP,f178]),zY _⟩
noncomputable abbrev Ci2:Ctx:=zN prog [(178,zd false [] (FTT idxP fun _ _=>True)),(193,zd false [] (FTT cntP fun _ b=>1≤b.length))]
theorem goodi2:AM.Good Ci2 (fun g=>[178].contains g):=zr mixed ⟨sIndex_sound,fun _=>zf _ _,sCount_sound,fun _=>zf _ _,trivial⟩
def hasP (a b:List UInt8):PV:=boo (Lib.contains a b)
theorem contains_sound:za prog 181 (zd false [] (FTT hasP fun _ _=>True)) :=
 zZ (fn:=f181) goodi2 ⟨_,func181,by kernel_rfl,rfl,by kernel_rfl⟩ false [] _ fun args r h=>by
  obtain⟨a,b,rfl,h1,h2,_,rfl⟩:=jn h
  exact⟨by simp[f181],_,ze rfl (by simp[vV,h1,h2,hasP,Lib.contains,f181]),zY _⟩
def cutP (a b:List UInt8):PV:=.tup [str (Lib.cut a b).1,str (Lib.cut a b).2.1,boo (Lib.cut a b).2.2]
theorem cut_eval (a b:List UInt8) (h1:a.length≤lim) (h2:b.length≤lim):zl Ci f216 [str a,str b]=some (cutP a b):=by
 refine ze rfl ?_
 unfold lim at h1 h2
 by_cases h:0≤Lib.index a b
 ·have hr:=Lib.index_room a b h
  have hc:Lib.cut a b=(a.take (Lib.index a b).toNat,a.drop ((Lib.index a b).toNat+b.length),true):=by unfold Lib.cut;rw[if_pos h]
  have w1:IntKind.i64.wrap (Lib.index a b+b.length)=Lib.index a b+b.length:=zi (by omega) (by omega)
  have e1:(Lib.index a b+b.length).toNat=(Lib.index a b).toNat+b.length:=by omega
  have e2:0≤Lib.index a b+b.length:=by omega
  have e3:(Lib.index a b).toNat≤a.length:=by omega
  have e4:(Lib.index a b).toNat+b.length≤a.length:=by omega
  simp[vV,lim,h1,h2,h,w1,e1,e2,e3,e4,cutP,hc,qC,f216]
  rw[List.take_of_length_le (by simp)]
 ·have hc:Lib.cut a b=(a,[],false):=by unfold Lib.cut;rw[if_neg h]
  simp[vV,lim,h1,h2,h,cutP,hc,qC,f216]
theorem cut_sound:za prog 216 (zd false [] (FTT cutP fun _ _=>True)) :=
 zZ (fn:=f216) goodi ⟨_,func216,by kernel_rfl,rfl,by kernel_rfl⟩ false [] _ fun args r h=>by
  obtain⟨a,b,rfl,h1,h2,_,rfl⟩:=jn h
  exact⟨by simp[f216],_,cut_eval a b h1 h2,zY _⟩
def hpP (a b:List UInt8):PV:=boo (b.isPrefixOf a)
theorem prefix_take (a b:List UInt8):(decide (b.length≤a.length)&&(a.take b.length==b))=b.isPrefixOf a:=by
 rw[Bool.eq_iff_iff]
 simp only[Bool.and_eq_true,decide_eq_true_eq,beq_iff_eq,List.isPrefixOf_iff_prefix]
 constructor
 ·rintro⟨_,h⟩;exact List.prefix_iff_eq_take.2 h.symm
 ·intro h;exact⟨h.length_le,(List.prefix_iff_eq_take.1 h).symm⟩
noncomputable abbrev Cw0:Ctx:=zN prog []
theorem goodw0:AM.Good Cw0 (fun g=>([]:List Nat).contains g):=zr mixed trivial
theorem hasPrefix0_eval (a b:List UInt8):zl Cw0 f222 [str a,str b]=some (hpP a b):=by
 refine ze rfl ?_
 have hp:=prefix_take a b
 by_cases h:b.length≤a.length
 ·rw[decide_eq_true h,Bool.true_and] at hp
  simp[h,hpP,←hp,f222]
 ·rw[decide_eq_false h,Bool.false_and] at hp
  have h':¬((b.length:Int)≤a.length):=by omega
  simp[h,h',hpP,←hp,f222]
theorem hasPrefix0_sound:za prog 222 (zd false [] (FTT hpP fun _ _=>True)) :=
 zZ (fn:=f222) goodw0 ⟨_,func222,by kernel_rfl,rfl,by kernel_rfl⟩ false [] _ fun args r h=>by
  obtain⟨a,b,rfl,h1,h2,_,rfl⟩:=jn h
  exact⟨by simp[f222],_,hasPrefix0_eval a b,zY _⟩
noncomputable abbrev Cw1:Ctx:=zN prog [(222,zd false [] (FTT hpP fun _ _=>True)),(216,zd false [] (FTT cutP fun _ _=>True))]
theorem goodw1:AM.Good Cw1 (fun g=>[222].contains g):=zr mixed ⟨hasPrefix0_sound,fun _=>zf _ _,cut_sound,fun _=>zf _ _,trivial⟩
theorem hp_call (a b:List UInt8) (hp:Hp) (nx:Nat) (h:a.length≤lim) (h2:b.length≤lim):zd false [] (FTT hpP fun _ _=>True) [str a,str b] hp nx=some (boo (b.isPrefixOf a),hp,nx):=jJ _ _ a b hp nx h h2 trivial rfl
theorem cut_call (a b:List UInt8) (hp:Hp) (nx:Nat) (h:a.length≤lim) (h2:b.length≤lim):zd false [] (FTT cutP fun _ _=>True) [str a,str b] hp nx=some (.tup [str (Lib.cut a b).1,str (Lib.cut a b).2.1,boo (Lib.cut a b).2.2],hp,nx):=jJ _ _ a b hp nx h h2 trivial rfl
theorem sCut_sound:za prog 194 (zd false [] (FTT cutP fun _ _=>True)) :=
 zZ (fn:=f194) goodw1 ⟨_,func194,by kernel_rfl,rfl,by kernel_rfl⟩ false [] _ fun args r h=>by
  obtain⟨a,b,rfl,h1,h2,_,rfl⟩:=jn h
  exact⟨by simp[f194],_,ze rfl (by simp[cut_call,h1,h2,cutP,qC,f194]),zY _⟩
def cpP (a b:List UInt8):PV:=.tup [str (if b.isPrefixOf a then a.drop b.length else a),boo (b.isPrefixOf a)]
theorem cutPrefix0_eval (a b:List UInt8) (h1:a.length≤lim) (h2:b.length≤lim):zl Cw1 f198 [str a,str b]=some (cpP a b):=by
 refine ze rfl ?_
 cases h:b.isPrefixOf a
 ·simp[hp_call,h1,h2,h,cpP,qC,f198]
 ·have hl:=(List.isPrefixOf_iff_prefix.1 h).length_le
  simp[hp_call,h1,h2,h,hl,cpP,qC,f198]
  rw[List.take_of_length_le (by simp)]
theorem cutPrefix0_sound:za prog 198 (zd false [] (FTT cpP fun _ _=>True)) :=
 zZ (fn:=f198) goodw1 ⟨_,func198,by kernel_rfl,rfl,by kernel_rfl⟩ false [] _ fun args r h=>by
  obtain⟨a,b,rfl,h1,h2,_,rfl⟩:=jn h
  exact⟨by simp[f198],_,cutPrefix0_eval a b h1 h2,zY _⟩
noncomputable abbrev Cw2:Ctx:=zN prog [(198,zd false [] (FTT cpP fun _ _=>True))]
theorem goodw2:AM.Good Cw2 (fun g=>([]:List Nat).contains g):=zr mixed ⟨cutPrefix0_sound,fun _=>zf _ _,trivial⟩
theorem cp_call (a b:List UInt8) (hp:Hp) (nx:Nat) (h:a.length≤lim) (h2:b.length≤lim):zd false [] (FTT cpP fun _ _=>True) [str a,str b] hp nx=some (.tup [str (if b.isPrefixOf a then a.drop b.length else a),boo (b.isPrefixOf a)],hp,nx):=jJ _ _ a b hp nx h h2 trivial rfl
theorem cutPrefix_sound:za prog 184 (zd false [] (FTT cpP fun _ _=>True)) :=
 zZ (fn:=f184) goodw2 ⟨_,func184,by kernel_rfl,rfl,by kernel_rfl⟩ false [] _ fun args r h=>by
  obtain⟨a,b,rfl,h1,h2,_,rfl⟩:=jn h
  exact⟨by simp[f184],_,ze rfl (by simp[cp_call,h1,h2,cpP,qC,f184]),zY _⟩
def tlP (a b:List UInt8):PV:=str (Lib.trimLeftB a (b.headD 0))
def one7 (b:List UInt8):Prop:=∃c:UInt8,b=[c]∧c.toNat<128
theorem trimLeft_sound:za prog 226 (zd false [] (FTT tlP fun _ b=>one7 b)) :=
 yZ ⟨_,func226,by kernel_rfl,by kernel_rfl⟩ fun args r h=>by
  obtain⟨a,b,rfl,h1,h2,⟨c,rfl,hc⟩,rfl⟩:=jn h
  refine⟨[.string ⟨a.toArray⟩,.string ⟨#[c]⟩],rfl,by simp[lit],rfl,.string ⟨(Lib.trimLeftB a c).toArray⟩,fun w S=>.v rfl,fun w S _=>?_⟩
  refine (Any.strings_TrimLeft_one Tryz.lays161 ⟨a.toArray⟩ c hc w).mono fun e w' hh=>?_
  obtain⟨rfl,rfl⟩:=hh
  exact⟨by simp,Fr.refl _ _⟩
def srow (done:List (List UInt8)) (k:Nat):List (List PV):=done.map (fun p=>[str p])++List.replicate k [str []]
theorem srow_set (done:List (List UInt8)) (k:Nat) (p:List UInt8):(srow done (k+1)).set done.length [str p]=srow (done++[p]) k:=by
 unfold srow
 rw[List.set_append_right _ _ (by simp)]
 simp[List.replicate_succ]
theorem srow_get (done:List (List UInt8)) (k:Nat):(srow done (k+1))[done.length]?=some [str []]:=by
 unfold srow
 rw[List.getElem?_append_right (by simp)]
 simp[List.replicate_succ]
theorem srow_full (done:List (List UInt8)):srow done 0=done.map fun p=>[str p]:=by simp[srow]
def zQ (s sep:List UInt8):List (List UInt8):=Lib.split s sep
theorem splitK_hit {sep s:List UInt8} {i k:Nat} (h:Lib.index s sep=i):Lib.splitK sep 0 (k+1) s=s.take i::Lib.splitK sep 0 k (s.drop (i+sep.length)):=by
 have h1:¬(Lib.index s sep==-1)=true:=by rw[beq_iff_eq];omega
 rw[Lib.splitK,if_neg h1,h]
 simp
theorem count_len {s sep:List UInt8} (h:sep≠[]):Lib.count s sep≤s.length:=by
 have:=Lib.countB_le ⟨sep.toArray⟩ (by cases sep<;>simp_all) s.length ⟨s.toArray⟩ (by simp)
 simpa[Lib.countB] using this
theorem cnt_call (a b:List UInt8) (hp:Hp) (nx:Nat) (h:a.length≤lim) (h2:b.length≤lim) (h3:1≤b.length):zd false [] (FTT cntP fun _ b=>1≤b.length) [str a,str b] hp nx=some (int (Lib.count a b),hp,nx):=jJ _ _ a b hp nx h h2 h3 rfl
def blkT (xs:List (List UInt8)):Blk:=⟨9,1,true,xs.map fun p=>[str p]⟩
theorem genSplit_eval (s sep:List UInt8) (h1:s.length≤lim) (h2:sep.length≤lim) (h3:1≤sep.length) :
  ∃x hp nx,qq Ci2 f180 [str s,str sep,int 0,int (-1)] (fun _=>none) 0=some (x,hp,nx)∧OwnR (some (blkT (zQ s sep))) x hp nx:=by
 have hne:sep≠[]:=by intro e;subst e;simp at h3
 have hcl:=count_len (s:=s) hne
 unfold lim at h1 h2
 refine evalFuncR_of rfl ?_
 have hse:(sep==[])=false:=by simpa using hne
 have w1:IntKind.i64.wrap ((Lib.count s sep:Int)+1)=(Lib.count s sep:Int)+1:=zi (by omega) (by omega)
 have w2:IntKind.i64.wrap ((s.length:Int)+1)=(s.length:Int)+1:=zi (by omega) (by omega)
 have w3:(if (s.length:Int)+1<(Lib.count s sep:Int)+1 then (s.length:Int)+1 else (Lib.count s sep:Int)+1)=(Lib.count s sep:Int)+1:=if_neg (by omega)
 have w4:IntKind.i64.wrap ((Lib.count s sep:Int)+1 - 1)=(Lib.count s sep:Int):=by rw[zi (by omega) (by omega)];omega
 have w5:IntKind.i64.wrap (Lib.count s sep:Int)=Lib.count s sep:=zi (by omega) (by omega)
 have c1:((Lib.count s sep:Int)+1).toNat=Lib.count s sep+1:=by omega
 have c2:0≤(Lib.count s sep:Int)+1:=by omega
 have c3:Lib.count s sep+1≤maxLen:=by simp[maxLen];omega
 have c4:(Lib.count s sep+1)*16≤140737488355328:=by omega
 have hcc:=fun hp nx=>cnt_call s sep hp nx (by unfold lim;omega) (by unfold lim;omega) h3
 have hnl:¬s.length<Lib.count s sep:=by omega
 have c5:(Lib.count s sep:Int)+1≤(maxLen:Int):=by simp[maxLen];omega
 simp[hse,hcc,w1,w2,hnl,w4,w5,jT,c1,c2,c5,c4]
 refine zD (fun j σ hp nx=>∃done cur,done.length=j∧σ 0=str cur∧σ 1=str sep∧σ 2=int 0∧σ 3=int (Lib.count s sep)∧σ 9=.own 0 0 (Lib.count s sep+1)∧σ 10=int j ∧
   hp 0=some ⟨9,1,true,srow done (Lib.count s sep+1 - j)⟩∧j+Lib.count cur sep=Lib.count s sep∧zQ s sep=done++zQ cur sep∧cur.length≤s.length) (Lib.count s sep)
  ⟨[],s,rfl,by simp,by simp,by simp,by simp[w5],by simp,by simp,by simp[srow],by simp,by simp,Nat.le_refl _⟩ ?_
 rintro j σ hp nx hj ⟨done,cur,hd,h0,g1,g2,g3,g9,g10,hb,hc,hs,hl⟩
 have hii:∀hp nx,zd false [] (FTT idxP fun _ _=>True) [str cur,str sep] hp nx=some (int (Lib.index cur sep),hp,nx):=fun hp nx=>vV cur sep hp nx (by unfold lim;omega) (by unfold lim;omega)
 by_cases hlt:j<Lib.count s sep
 ·have hm:Lib.index cur sep≠-1:=fun e=>by have:=Lib.count_miss e;omega
  have hge:0≤Lib.index cur sep:=by
   rcases Lib.index_spec cur sep with⟨h,_⟩ | ⟨i,h,_⟩
   ·exact absurd h hm
   ·omega
  obtain⟨i,hi⟩:∃i:Nat,Lib.index cur sep=i:=⟨(Lib.index cur sep).toNat,by omega⟩
  have hr:=Lib.index_room cur sep hge
  rw[hi] at hr hii
  have hch:=Lib.count_hit hne hi
  have hsk:zQ cur sep=cur.take i::zQ (cur.drop (i+sep.length)) sep:=by
   unfold zQ Lib.split
   rw[hch,Nat.add_comm 1,splitK_hit hi]
  have k1:¬((i:Int)<0):=by omega
  have k2:IntKind.i64.wrap (i:Int)=i:=zi (by omega) (by omega)
  have k3:IntKind.i64.wrap ((i:Int)+sep.length)=(i:Int)+sep.length:=zi (by omega) (by omega)
  have k4:IntKind.i64.wrap ((j:Int)+1)=(j:Int)+1:=zi (by omega) (by omega)
  have k5:((i:Int)+sep.length).toNat=i+sep.length:=by omega
  have k6:i+sep.length≤cur.length:=by omega
  have k7:i≤cur.length:=by omega
  have k8:0≤(i:Int)+sep.length:=by omega
  have k9:j<Lib.count s sep+1:=by omega
  have hq:Lib.count s sep+1 - j=(Lib.count s sep - j)+1:=by omega
  have hg:=srow_get done (Lib.count s sep - j)
  rw[hd] at hg
  have hst:=srow_set done (Lib.count s sep - j) (cur.take i)
  rw[hd] at hst
  rw[hq] at hb
  simp[h0,g1,g2,g3,g9,g10,hb,hlt,hii,k1,k2,k3,k4,k5,k6,k7,k8,k9,hg,hst]
  have ht:List.take (cur.length - (i+sep.length)) (List.drop (i+sep.length) cur)=List.drop (i+sep.length) cur:=List.take_of_length_le (by simp)
  rw[ht]
  exact⟨by omega,done++[cur.take i],by simp[hd],rfl,by omega,by rw[hs,hsk];simp,by omega⟩
 ·obtain rfl:j=Lib.count s sep:=by omega
  have hz:Lib.count cur sep=0:=by omega
  have hsk:zQ cur sep=[cur]:=by unfold zQ Lib.split;rw[hz];rfl
  have hq:Lib.count s sep+1 - Lib.count s sep=0+1:=by omega
  have hg:=srow_get done 0
  have hst:=srow_set done 0 cur
  rw[hd] at hg hst
  rw[hq] at hb
  simp[h0,g1,g2,g3,g9,g10,hb,hg,hst,w1,w5,c1,c2,OwnR,wx,f180]
  rw[hs,hsk]
  exact⟨0,⟨by omega,by simp[blkT,hd]⟩,by simp[blkT,srow_full]⟩
noncomputable def FGs:List PV→Option (Option Blk):=zM (α:=List UInt8×List UInt8) (fun a=>[str a.1,str a.2,int 0,int (-1)]) (fun a=>a.1.length≤lim∧a.2.length≤lim∧1≤a.2.length) (fun a=>some (blkT (zQ a.1 a.2)))
noncomputable def FSp:List PV→Option (Option Blk):=zM (α:=List UInt8×List UInt8) (fun a=>[str a.1,str a.2]) (fun a=>a.1.length≤lim∧a.2.length≤lim∧1≤a.2.length) (fun a=>some (blkT (zQ a.1 a.2)))
theorem gs_inj:∀a b:List UInt8×List UInt8,[str a.1,str a.2,int 0,int (-1)]=[str b.1,str b.2,int 0,int (-1)]→a=b:=by
 rintro⟨a1,a2⟩ ⟨b1,b2⟩ e
 simp only[List.cons.injEq,and_true] at e
 rw[qa e.1,qa e.2]
theorem genSplit_sound:za prog 180 (qD [] FGs) :=
 qw (fn:=f180) (code:=_) goodi2 ⟨func180,by kernel_rfl,rfl,by kernel_rfl⟩ [] _ fun args r h=>by
  obtain⟨⟨a,b⟩,rfl,⟨h1,h2,h3⟩,rfl⟩:=zg h
  exact⟨by simp[f180],genSplit_eval a b h1 h2 h3⟩
theorem gs_call (a b:List UInt8) (hp:Hp) (nx:Nat) (h1:a.length≤lim) (h2:b.length≤lim) (h3:1≤b.length):qD [] FGs [str a,str b,int 0,int (-1)] hp nx=some (.own nx 0 (zQ a b).length,upd hp nx (some (blkT (zQ a b))),nx+1):=by
 have e:FGs (qr [] [str a,str b,int 0,int (-1)])=some (some (blkT (zQ a b))):=zq (enc:=fun a:List UInt8×List UInt8=>[str a.1,str a.2,int 0,int (-1)]) (a:=(a,b)) gs_inj ⟨h1,h2,h3⟩
 simp[qD,e,blkT]
noncomputable abbrev Csp:Ctx:=zN prog [(180,qD [] FGs)]
theorem goodsp:AM.Good Csp (fun g=>([]:List Nat).contains g):=zr mixed ⟨genSplit_sound,by simp,trivial⟩
theorem xD:za prog 162 (qD [] FSp) :=
 qw (fn:=f162) (code:=_) goodsp ⟨func162,by kernel_rfl,rfl,by kernel_rfl⟩ [] _ fun args r h=>by
  obtain⟨⟨a,b⟩,rfl,⟨h1,h2,h3⟩,rfl⟩:=zg h
  have hc:=fun hp nx=>gs_call a b hp nx h1 h2 h3
  exact⟨by simp[f162],evalFuncR_of rfl (by simp[hc,OwnR,blkT,f162])⟩
theorem vW (a b:List UInt8) (hp:Hp) (nx:Nat) (h1:a.length≤lim) (h2:b.length≤lim) (h3:1≤b.length):qD [] FSp [str a,str b] hp nx=some (.own nx 0 (zQ a b).length,upd hp nx (some (blkT (zQ a b))),nx+1):=by
 have e:FSp (qr [] [str a,str b])=some (some (blkT (zQ a b))):=zq (enc:=fun a:List UInt8×List UInt8=>[str a.1,str a.2]) (a:=(a,b)) ss_inj ⟨h1,h2,h3⟩
 simp[qD,e,blkT]
def digB (c:UInt8):Bool:=pr 48 57 c
def digs (l:List UInt8):Bool:=l.all digB
def wZ (l:List UInt8):Bool:=!(l==[])&&!(decide (1<l.length)&&l.headD 0==48)&&digs l
def openB (l:List UInt8):Bool:=l==[120]||l==[88]||l==[42]
def preC (c:UInt8):Bool:=pr 97 122 c||pr 65 90 c||pr 48 57 c||c==45
def preB (l:List UInt8):Bool:=l.all preC&&!(l==[])
theorem digs_drop {l:List UInt8} {k:Nat} (h:k<l.length):digs (l.drop k)=(digB l[k]&&digs (l.drop (k+1))):=all_drop h
theorem pres_drop {l:List UInt8} {k:Nat} (h:k<l.length):(l.drop k).all preC=(preC l[k]&&(l.drop (k+1)).all preC):=all_drop h
theorem allDigits_eval (l:List UInt8) (hl:l.length≤lim):zl C0 f219 [str l]=some (boo (digs l)):=by
 refine ze rfl ?_
 unfold lim at hl
 simp
 refine zD (fun k σ hp nx=>σ 0=str l∧σ 5=int l.length∧σ 6=int k∧digs l=digs (l.drop k)) l.length ⟨by simp,by simp,by simp,by simp⟩ ?_
 rintro k σ hp nx hk ⟨h0,h5,h6,he⟩
 by_cases hlt:k<l.length
 ·have hw:IntKind.i64.wrap ((k:Int)+1)=(k:Int)+1:=zi (by omega) (by omega)
  rw[digs_drop hlt] at he
  have ho:=pr_out 48 57 l[k]
  simp only[Int.cast_ofNat_Int] at ho
  cases hc:digB l[k]
  ·have he:digs l=false:=by rw[he,hc];rfl
   have hc':pr 48 57 l[k]=false:=hc
   simp[h0,h5,h6,hlt,he,ho,hc',f219]
  ·have hc':pr 48 57 l[k]=true:=hc
   simp[h0,h5,h6,hlt,ho,hc',hw]
   exact⟨hlt,by rw[he,hc];rfl⟩
 ·obtain rfl:k=l.length:=by omega
  have he:digs l=true:=by rw[he,List.drop_length];rfl
  simp[h0,h5,h6,he,f219]
theorem jo:za prog 219 (zd false [] (FS digs)) :=
 zZ (fn:=f219) q7 ⟨_,func219,by kernel_rfl,rfl,by kernel_rfl⟩ false [] _ fun args r h=>by
  obtain⟨l,rfl,hp,rfl⟩:=zg h
  exact⟨by simp[f219],_,allDigits_eval l hp,zY _⟩
noncomputable abbrev Cdg:Ctx:=zN prog [(219,zd false [] (FS digs))]
theorem gooddg:AM.Good Cdg (fun g=>[219].contains g):=zr mixed ⟨jo,fun _=>zf _ _,trivial⟩
theorem whole_eval (l:List UInt8) (hl:l.length≤lim):zl Cdg f196 [str l]=some (boo (wZ l)):=by
 refine ze rfl ?_
 have hd:=fun hp nx=>yJ digs l hp nx hl
 cases l with
 | nil=>simp[wZ,f196]
 | cons c l =>
   by_cases h1:0<l.length
   ·have h1':l≠[]:=by intro e;subst e;simp at h1
    have h4:(1:Int)<(l.length:Int)+1:=by omega
    by_cases h2:c=48
    ·subst h2
     simp[hd,h1,h1',h4,wZ,f196]
    ·have h3:((c.toNat:Int)==48)=false:=by
      rw[beq_eq_false_iff_ne];intro e;apply h2;rw[←UInt8.toNat_inj];simp;omega
     simp[hd,h1,h1',h2,h3,h4,wZ,f196]
   ·have h1':l=[]:=by cases l<;>simp_all
    subst h1'
    simp[hd,wZ,f196]
theorem whole_sound:za prog 196 (zd false [] (FS wZ)) :=
 zZ (fn:=f196) gooddg ⟨_,func196,by kernel_rfl,rfl,by kernel_rfl⟩ false [] _ fun args r h=>by
  obtain⟨l,rfl,hp,rfl⟩:=zg h
  exact⟨by simp[f196],_,whole_eval l hp,zY _⟩
theorem open_eval (l:List UInt8):zl C0 f166 [str l]=some (boo (openB l)):=by
 refine ze rfl ?_
 cases h1:(l==[120])
 ·cases h2:(l==[88])
  ·simp[h1,h2,openB,f166]
  ·simp[h1,h2,openB,f166]
 ·simp[h1,openB,f166]
theorem open_sound:za prog 166 (zd false [] (FS openB)) :=
 zZ (fn:=f166) q7 ⟨_,func166,by kernel_rfl,rfl,by kernel_rfl⟩ false [] _ fun args r h=>by
  obtain⟨l,rfl,hp,rfl⟩:=zg h
  exact⟨by simp[f166],_,open_eval l,zY _⟩
def numB (l:List UInt8):Int:=((Lib.decNat l).getD 0:Nat)
theorem vj:∀(l:List UInt8) (a:Nat),digs l=true→∃n,Lib.decFrom a l=some n∧n<(a+1)*10 ^ l.length
 | [],a,_=>⟨a,rfl,by simp⟩
 | c::l,a,h=>by
   simp only[digs,List.all_cons,Bool.and_eq_true] at h
   have hc:48≤c.toNat∧c.toNat≤57:=by have:=h.1;simpa[digB,pr] using this
   obtain⟨n,h1,h2⟩:=vj l (a*10+(c.toNat - 48)) h.2
   refine⟨n,?_,?_⟩
   ·simp only[Lib.decFrom,Lib.digitVal,hc,and_self,if_true]
    exact h1
   ·have h3:a*10+(c.toNat - 48)+1≤(a+1)*10:=by omega
    calc n<(a*10+(c.toNat - 48)+1)*10 ^ l.length:=h2
     _≤(a+1)*10*10 ^ l.length:=Nat.mul_le_mul_right _ h3
     _=(a+1)*10 ^ (c::l).length:=by rw[List.length_cons,Nat.pow_succ,Nat.mul_assoc,Nat.mul_comm 10]
theorem whole_ne {l:List UInt8} (h:wZ l=true):l≠[]∧digs l=true:=by
 simp only[wZ,Bool.and_eq_true] at h
 exact⟨by intro e;subst e;simp at h,h.2⟩
theorem atoi_whole {l:List UInt8} (h:wZ l=true):Lib.atoi l=some (numB l):=by
 obtain⟨h1,h2⟩:=whole_ne h
 obtain⟨n,h3,_⟩:=vj l 0 h2
 have h4:Lib.decNat l=some n:=by
  unfold Lib.decNat
  rw[if_neg (by simpa using h1)]
  exact h3
 cases l with
 | nil=>exact absurd rfl h1
 | cons c l =>
   have hc:48≤c.toNat∧c.toNat≤57:=by
    have:=h2
    simp only[digs,List.all_cons,Bool.and_eq_true] at this
    simpa[digB,pr] using this.1
   have hn:numB (c::l)=n:=by unfold numB;rw[h4];rfl
   rw[hn]
   have hx:∀d:UInt8,d.toNat<48→(c==d)=false:=fun d hd=>by
    rw[beq_eq_false_iff_ne];intro e;subst e;omega
   unfold Lib.atoi
   simp only[]
   rw[hx 45 (by decide),hx 43 (by decide),h4]
   rfl
noncomputable def FAt:List PV→Option PV:=zM (α:=List UInt8) (fun l=>[str l]) (fun l=>l.length≤18∧wZ l=true) (fun l=>.tup [int (numB l),.v .nilIface])
theorem fr_bytes {dr:Prop} (w:World) (e:TypeId) (s:ByteArray):Fr dr w (fun _=>False) (Lib.bytesWorld w e s):=by
 have h1:∀(w1:World) (a:Addr) (n k:Nat),k≠a.block→(w1.freeze a n).heap[k]?=w1.heap[k]?:=by
  intro w1 a n k hk
  unfold World.freeze
  split
  ·rfl
  ·simp[Array.getElem?_modify,Ne.symm hk]
 have h2:∀(w1:World) (a:Addr) (n:Nat),(w1.freeze a n).heap.size=w1.heap.size:=by
  intro w1 a n
  unfold World.freeze
  split<;>simp
 unfold Lib.bytesWorld
 refine⟨rfl,rfl,rfl,?_,?_,fun k hk _=>?_⟩
 ·rw[h2];simp
 ·exact fun _=>Nat.le_succ _
 ·rw[h1 _ _ _ k (by simpa using Nat.ne_of_lt hk)]
  exact (Below.heap_alloc w.drew _ k hk)
@[simp] theorem get_nilI (σ:Nat→PV):AM.get σ (.const .nilIface)=some (.v .nilIface):=rfl
theorem atoi_sound:za prog 197 (zd false [] FAt) :=
 yZ ⟨_,func197,by kernel_rfl,by kernel_rfl⟩ fun args r h=>by
  obtain⟨l,rfl,⟨h1,h2⟩,rfl⟩:=zg h
  refine⟨[.string ⟨l.toArray⟩],rfl,by simp[lit],rfl,.tuple #[.int .i64 (numB l),.nilIface],fun w S=>.tup rfl fun j pv u hj hu=>?_,fun w S _=>?_⟩
  ·match j,hj,hu with
   | 0,hj,hu=>simp at hj hu;subst hj;subst hu;exact .v rfl
   | 1,hj,hu=>simp at hj hu;subst hj;subst hu;exact .v rfl
   | j+2,hj,hu=>simp at hj
  refine (Any.strconv_Atoi Tryz.lays172 ⟨l.toArray⟩ (numB l) (by simpa using h1) (by simpa using atoi_whole h2) w).mono fun e w' hh=>?_
  obtain⟨rfl,t,rfl⟩:=hh
  exact⟨rfl,fr_bytes _ _ _⟩
theorem atoi_call (l:List UInt8) (hp:Hp) (nx:Nat) (h1:l.length≤18) (h2:wZ l=true):zd false [] FAt [str l] hp nx=some (.tup [int (numB l),.v .nilIface],hp,nx) :=
 zJ rfl (zq (enc:=fun l:List UInt8=>[str l]) (a:=l) (fun a b e=>by simp only[List.cons.injEq,and_true] at e;exact qa e) ⟨h1,h2⟩) (.inl rfl)
def vnum (l:List UInt8):Option Int:=if wZ l=true∧l.length≤6 then some (numB l) else none
def vnumP (l:List UInt8):PV:=.tup [int ((vnum l).getD 0),boo (vnum l).isSome]
noncomputable def FSP (f:List UInt8→PV):List PV→Option PV:=zM (α:=List UInt8) (fun l=>[str l]) (fun l=>l.length≤lim) f
theorem FSP_call (f:List UInt8→PV) (l:List UInt8) (hp:Hp) (nx:Nat) (h:l.length≤lim) (hf:(f l).flat=true):zd false [] (FSP f) [str l] hp nx=some (f l,hp,nx) :=
 zJ rfl (zq (enc:=fun l:List UInt8=>[str l]) (a:=l) (fun a b e=>by simp only[List.cons.injEq,and_true] at e;exact qa e) h) (.inl hf)
noncomputable abbrev Cvn:Ctx:=zN prog [(196,zd false [] (FS wZ)),(197,zd false [] FAt)]
theorem goodvn:AM.Good Cvn (fun g=>[196].contains g):=zr mixed ⟨whole_sound,fun _=>zf _ _,atoi_sound,fun _=>zf _ _,trivial⟩
theorem versionNumber_eval (l:List UInt8) (hl:l.length≤lim):zl Cvn f183 [str l]=some (vnumP l):=by
 refine ze rfl ?_
 have hw:=fun hp nx=>yJ wZ l hp nx hl
 cases h1:wZ l
 ·simp[hw,h1,vnumP,vnum,qC,f183]
 ·by_cases h2:l.length≤6
  ·have h3:¬((6:Int)<l.length):=by omega
   have ha:=fun hp nx=>atoi_call l hp nx (by omega) h1
   simp[hw,h1,h2,h3,ha,nilIA,vnumP,vnum,qC,f183]
  ·have h3:(6:Int)<l.length:=by omega
   have h2':6<l.length:=by omega
   simp[hw,h1,h2,h2',h3,vnumP,vnum,qC,f183]
theorem jp:za prog 183 (zd false [] (FSP vnumP)) :=
 zZ (fn:=f183) goodvn ⟨_,func183,by kernel_rfl,rfl,by kernel_rfl⟩ false [] _ fun args r h=>by
  obtain⟨l,rfl,hp,rfl⟩:=zg h
  exact⟨by simp[f183],_,versionNumber_eval l hp,zY _⟩
@[simp] theorem ixArr_ref (P:Program) (hp:Hp) (t:TypeId) (id a b:Nat) (k:IntKind) (i:Int) (h:qA P t=none):zK P hp t (.ref id a b) (.v (.int k i))=(arrA P t).bind fun me=>(zU P me.2).bind fun n=>if 0≤i∧i<me.1 then some (.ref id a (b+i.toNat*n)) else none:=by
 simp only[zK,h,yg]
 cases arrA P t with
 | none=>rfl
 | some me =>
   obtain⟨m,e⟩:=me
   simp only[Option.bind_some]
   cases zU P e<;>rfl
@[simp] theorem ixArr_ptr (P:Program) (hp:Hp) (t:TypeId) (cs:List PV) (k:IntKind) (i:Int) (h:qA P t=none):zK P hp t (.ptr cs) (.v (.int k i))=(arrA P t).bind fun me=>(zU P me.2).bind fun n=>if 0≤i∧i<me.1 then some (.ptr (cs.drop (i.toNat*n))) else none:=by
 simp only[zK,h,yg]
 cases arrA P t with
 | none=>rfl
 | some me =>
   obtain⟨m,e⟩:=me
   simp only[Option.bind_some]
   cases zU P e<;>rfl
@[simp] theorem wrl1:IntKind.i64.wrap 1=1:=zi (by decide) (by decide)
@[simp] theorem wrl2:IntKind.i64.wrap 2=2:=zi (by decide) (by decide)
@[simp] theorem wrl3:IntKind.i64.wrap 3=3:=zi (by decide) (by decide)
theorem isPre_eval (l:List UInt8) (hl:l.length≤lim):zl C0 f218 [str l]=some (boo (preB l)):=by
 refine ze rfl ?_
 unfold lim at hl
 simp
 refine zD (fun k σ hp nx=>σ 0=str l∧σ 6=int l.length∧σ 7=int k∧l.all preC=(l.drop k).all preC) l.length ⟨by simp,by simp,by simp,by simp⟩ ?_
 rintro k σ hp nx hk ⟨h0,h5,h6,he⟩
 by_cases hlt:k<l.length
 ·have hw:IntKind.i64.wrap ((k:Int)+1)=(k:Int)+1:=zi (by omega) (by omega)
  rw[pres_drop hlt] at he
  have ho:(decide ((97:Int)≤l[k].toNat)&&decide ((l[k].toNat:Int)≤122)||decide ((65:Int)≤l[k].toNat)&&decide ((l[k].toNat:Int)≤90)||decide ((48:Int)≤l[k].toNat)&&decide ((l[k].toNat:Int)≤57)||((l[k].toNat:Int)==45))=preC l[k]:=by
   have e1:((l[k].toNat:Int)==45)=(l[k]==45):=by
    rw[Bool.eq_iff_iff];simp[←UInt8.toNat_inj];omega
   rw[e1,Bool.eq_iff_iff]
   simp[preC,pr,←UInt8.toNat_inj]
   omega
  cases hc:preC l[k]
  ·have he:l.all preC=false:=by rw[he,hc];rfl
   rw[hc] at ho
   simp[h0,h5,h6,hlt,ho,preB,he,-List.all_eq_true,-List.all_eq_false,f218]
  ·rw[hc] at ho
   simp[h0,h5,h6,hlt,ho,hw,-List.all_eq_true,-List.all_eq_false]
   exact⟨hlt,by rw[he,hc];rfl⟩
 ·obtain rfl:k=l.length:=by omega
  have he:l.all preC=true:=by rw[he,List.drop_length];rfl
  simp[h0,h5,h6,he,preB,-List.all_eq_true,f218]
theorem isPre_sound:za prog 218 (zd false [] (FS preB)) :=
 zZ (fn:=f218) q7 ⟨_,func218,by kernel_rfl,rfl,by kernel_rfl⟩ false [] _ fun args r h=>by
  obtain⟨l,rfl,hp,rfl⟩:=zg h
  exact⟨by simp[f218],_,isPre_eval l hp,zY _⟩
theorem vwithin_sound:za prog 217 (zd false [] (F3 inB)) :=
 zZ (fn:=f217) q7 ⟨_,func217,by kernel_rfl,rfl,by kernel_rfl⟩ false [] _ fun args r h=>by
  obtain⟨a,b,c,rfl,rfl⟩:=F3_inv h
  exact⟨by simp[f217],_,ze rfl (by simp[f217,inB]),zY _⟩
structure Ver where
 a:Int
 b:Int
 c:Int
 pre:List (List UInt8)
def encT (l:List (List UInt8)):List (List PV):=l.map fun p=>[str p]
theorem w9 {a b:List (List UInt8)} (h:encT a=encT b):a=b:=qZ (fun x y e=>by simp only[List.cons.injEq,and_true] at e;exact qa e) h
@[simp] theorem encT_length (l:List (List UInt8)):(encT l).length=l.length:=by simp[encT]
@[simp] theorem encT_nil:encT []=[]:=rfl
@[simp] theorem encT_take (l:List (List UInt8)):(encT l).take l.length=encT l:=List.take_of_length_le (by simp)
@[simp] theorem Zc (p:List UInt8) (l:List (List UInt8)):encT (p::l)=[str p]::encT l:=rfl
@[simp] theorem blkT_eq (l:List (List UInt8)):blkT l=⟨9,1,true,encT l⟩:=rfl
@[simp] theorem encT_at {l:List (List UInt8)} {k:Nat} (h:k<(encT l).length):(encT l)[k]=[str (l[k]'(by simpa using h))]:=by simp[encT]
theorem encT_get {l:List (List UInt8)} {k:Nat} (h:k<l.length):(encT l)[k]?=some [str l[k]]:=by simp[encT,h]
def Ver.enc (v:Ver):List PV:=[int v.a,int v.b,int v.c,.sl 1 (encT v.pre)]
theorem venc_inj {a b:Ver} (h:a.enc=b.enc):a=b:=by
 cases a;cases b
 simp only[Ver.enc,List.cons.injEq,and_true] at h
 obtain⟨h1,h2,h3,h4⟩:=h
 injection h4 with _ h4
 rw[zG h1,zG h2,zG h3,w9 h4]
abbrev vpat:List (Option Nat):=[none,none,none,some 1]
def Ver.small (v:Ver):Prop:=v.pre.length≤lim∧∀p∈v.pre,p.length≤lim
def jq (p:List UInt8):Bool:=decide (20<p.length)||!preB p||(digs p&&!wZ p)
def chkV (v:Ver):Int:=if inB v.a 0 999999=true∧inB v.b 0 999999=true∧inB v.c 0 999999=true then (if 10<v.pre.length then 2 else if v.pre.any jq then 3 else 0) else 1
noncomputable def FVr (f:Ver→PV):List PV→Option PV:=zM (α:=Ver) (fun v=>[.agg v.enc]) Ver.small f
theorem FVr_call (f:Ver→PV) (v:Ver) (x:PV) (hp hp1:Hp) (nx:Nat) (y:PV) (hf:zk hp [x]=some ([y],hp1)) (hy:(Sh.g vpat).fix y=.agg v.enc) (h:v.small) (hfl:(f v).flat=true):zT [.g vpat] (FVr f) [x] hp nx=some (f v,hp,nx):=by
 have e:FVr f (fixL [.g vpat] (qr [] [y]))=some (f v):=by
  show FVr f [(Sh.g vpat).fix y]=_
  rw[hy]
  exact zq (enc:=fun v:Ver=>[PV.agg v.enc]) (a:=v) (fun a b e=>by simp only[List.cons.injEq,and_true] at e;injection e with e;exact venc_inj e) h
 unfold zT zd
 simp only[hf,e,hfl,true_or,if_true]
noncomputable abbrev Cckv:Ctx:=zN prog [(217,zd false [] (F3 inB)),(218,zd false [] (FS preB)),(219,zd false [] (FS digs)),(196,zd false [] (FS wZ))]
theorem goodckv:AM.Good Cckv (fun g=>[217,218,219,196].contains g):=zr mixed ⟨vwithin_sound,fun _=>zf _ _,isPre_sound,fun _=>zf _ _,jo,fun _=>zf _ _,whole_sound,fun _=>zf _ _,trivial⟩
@[simp] theorem quietckv1:qE Cckv 218:=zW (by rfl) (zf _ _)
@[simp] theorem quietckv2:qE Cckv 219:=zW (by rfl) (zf _ _)
@[simp] theorem quietckv3:qE Cckv 196:=zW (by rfl) (zf _ _)
theorem checkVersion_eval (v:Ver) (h:v.small):zl Cckv f195 [.agg v.enc]=some (int (chkV v)):=by
 obtain⟨a,b,c,pre⟩:=v
 obtain⟨hl,hpl⟩:=h
 simp only at hl hpl
 unfold lim at hl
 refine ze rfl ?_
 simp[Ver.enc,zh,zt,zj]
 rw[zw]
 cases h1:inB a 0 999999
 ·simp[h1,chkV,f195]
 simp[h1]
 rw[zw]
 cases h2:inB b 0 999999
 ·simp[h1,h2,chkV,f195]
 simp[h2]
 rw[zw]
 cases h3:inB c 0 999999
 ·simp[h1,h2,h3,chkV,f195]
 simp[h3]
 rw[zw]
 simp
 by_cases h4:10<pre.length
 ·have h4':(10:Int)<pre.length:=by omega
  simp[h1,h2,h3,h4,h4',chkV,f195]
 have h4':¬(10:Int)<pre.length:=by omega
 simp[h4,h4']
 have hck:chkV ⟨a,b,c,pre⟩=if pre.any jq then 3 else 0:=by simp[chkV,h1,h2,h3,h4]
 rw[hck]
 refine zD (fun k σ hp nx=>σ 28=.sl 1 (encT pre)∧σ 29=int pre.length∧σ 30=int k∧pre.any jq=(pre.drop k).any jq) pre.length ⟨by simp,by simp,by simp,by simp⟩ ?_
 rintro k σ hp nx hkk ⟨h28,h29,h30,he⟩
 by_cases hlt:k<pre.length
 ·have hw:IntKind.i64.wrap ((k:Int)+1)=(k:Int)+1:=zi (by omega) (by omega)
  have hg:=encT_get hlt
  rw[List.drop_eq_getElem_cons hlt,List.any_cons] at he
  have hpk:=hpl _ (List.getElem_mem hlt)
  have f1:=fun hp nx=>yJ preB pre[k] hp nx hpk
  have f2:=fun hp nx=>yJ digs pre[k] hp nx hpk
  have f3:=fun hp nx=>yJ wZ pre[k] hp nx hpk
  have hbp:jq pre[k]=(decide (20<pre[k].length)||!preB pre[k]||(digs pre[k]&&!wZ pre[k])):=rfl
  have hb1:(decide ((20:Int)<pre[k].length)||!preB pre[k]||digs pre[k]&&!wZ pre[k])=jq pre[k]:=by
   rw[hbp]
   congr 2
   rw[Bool.eq_iff_iff];simp;omega
  cases hc:jq pre[k]
  ·rw[hc] at hb1
   simp[h28,h29,h30,hlt,hg,f1,f2,f3,hb1,hw]
   exact⟨hlt,by rw[he,hc];rfl⟩
  ·rw[hc] at hb1
   have he:pre.any jq=true:=by rw[he,hc];rfl
   simp[h28,h29,h30,hlt,hg,f1,f2,f3,hb1,he,-List.any_eq_true,f195]
 ·obtain rfl:k=pre.length:=by omega
  have he:pre.any jq=false:=by rw[he,List.drop_length];rfl
  simp[h28,h29,h30,he,-List.any_eq_false,f195]
theorem FVr_inv {f:Ver→PV} {args:List PV} {r:PV} (h:FVr f args=some r):∃v:Ver,args=[.agg v.enc]∧v.small∧r=f v:=zg h
theorem checkVersion_sound:za prog 195 (zT [.g vpat] (FVr fun v=>int (chkV v))) :=
 qo (fn:=f195) goodckv ⟨_,func195,by kernel_rfl,rfl,by kernel_rfl⟩ _ _ fun args r h=>by
  obtain⟨v,rfl,hv,rfl⟩:=FVr_inv h
  exact⟨by simp[f195],_,checkVersion_eval v hv,Stands.refl _⟩
theorem splitK_mem (sep:List UInt8):∀(k:Nat) (s p:List UInt8),p∈Lib.splitK sep 0 k s→p.length≤s.length
 | 0,s,p,h=>by simp[Lib.splitK] at h;rw[h];exact Nat.le_refl _
 | k+1,s,p,h=>by
   unfold Lib.splitK at h
   split at h
   ·simp at h;rw[h];exact Nat.le_refl _
   ·rcases List.mem_cons.1 h with rfl | h
    ·simp;omega
    ·have:=splitK_mem sep k _ p h
     simp at this;omega
theorem splitK_len (sep:List UInt8):∀(k:Nat) (s:List UInt8),(Lib.splitK sep 0 k s).length≤k+1
 | 0,s=>by simp[Lib.splitK]
 | k+1,s=>by
   unfold Lib.splitK
   split
   ·simp
   ·have:=splitK_len sep k (s.drop ((Lib.index s sep).toNat+sep.length))
    simp;omega
theorem j8 {s sep p:List UInt8} (h:p∈zQ s sep):p.length≤s.length:=splitK_mem _ _ _ _ h
theorem j9 {s sep:List UInt8} (h:sep≠[]):(zQ s sep).length≤s.length+1:=by
 have h1:=splitK_len sep (Lib.count s sep) s
 have h2:=count_len (s:=s) h
 exact Nat.le_trans h1 (by omega)
theorem cut_le (s sep:List UInt8):(Lib.cut s sep).1.length≤s.length∧(Lib.cut s sep).2.1.length≤s.length:=by
 unfold Lib.cut
 split
 ·simp;omega
 ·simp
noncomputable def FSP1 (f:List UInt8→PV):List PV→Option PV:=zM (α:=List UInt8) (fun l=>[str l]) (fun l=>l.length+1≤lim) f
theorem Zd (f:List UInt8→PV) (l:List UInt8) (hp:Hp) (nx:Nat) (h:l.length+1≤lim):zd false [] (FSP1 f) [str l] hp nx=some (f l,hp,nx) :=
 zJ rfl (zq (enc:=fun l:List UInt8=>[str l]) (a:=l) (fun a b e=>by simp only[List.cons.injEq,and_true] at e;exact qa e) h) (.inr (by simp))
def ver0:Ver:=⟨0,0,0,[]⟩
def rdPre (t:List UInt8):List (List UInt8):=if (Lib.cut t [45]).2.2 then zQ (Lib.cut t [45]).2.1 [46] else []
def rdV (t:List UInt8):Option Ver:=match zQ (Lib.cut t [45]).1 [46] with
 | [p0,p1,p2]=>match vnum p0,vnum p1,vnum p2 with
   | some a,some b,some c=>if chkV ⟨a,b,c,rdPre t⟩=0 then some ⟨a,b,c,rdPre t⟩ else none
   | _,_,_=>none
 | _=>none
def rdP (t:List UInt8):PV:=match rdV t with
 | some v=>.tup [.agg v.enc,int 0]
 | none=>.tup [.agg ver0.enc,int 10]
noncomputable abbrev Crv:Ctx:=zN prog [(194,zd false [] (FTT cutP fun _ _=>True)),(162,qD [] FSp),(183,zd false [] (FSP vnumP)),(195,zT [.g vpat] (FVr fun v=>int (chkV v)))]
theorem goodrv:AM.Good Crv (fun g=>([]:List Nat).contains g):=zr mixed ⟨sCut_sound,by simp,xD,by simp,jp,by simp,checkVersion_sound,by simp,trivial⟩
theorem Ze (l:List UInt8) (hp:Hp) (nx:Nat) (h:l.length≤lim):zd false [] (FSP vnumP) [str l] hp nx=some (.tup [int ((vnum l).getD 0),boo (vnum l).isSome],hp,nx):=FSP_call vnumP l hp nx h rfl
theorem three {α:Type} {l:List α} (h:l.length=3):∃a b c,l=[a,b,c]:=by
 match l,h with
 | [a,b,c],_=>exact⟨a,b,c,rfl⟩
theorem readVersion_eval (t:List UInt8) (ht:t.length+1≤lim):∃r0,zl Crv f182 [str t]=some r0∧Stands r0 (rdP t):=by
 refine wR (sh:=.g vpat) rfl ?_
 have hcl:=cut_le t [45]
 have hcut:=fun hp nx=>cut_call t [45] hp nx (by omega) (by decide)
 have hsp:=fun hp nx=>vW (Lib.cut t [45]).1 [46] hp nx (by omega) (by decide) (by decide)
 have hsp2:=fun hp nx=>vW (Lib.cut t [45]).2.1 [46] hp nx (by omega) (by decide) (by decide)
 have hpl:∀p∈zQ (Lib.cut t [45]).1 [46],p.length≤lim:=fun p hp=>by have:=j8 hp;omega
 have hql:∀p∈zQ (Lib.cut t [45]).2.1 [46],p.length≤lim:=fun p hp=>by have:=j8 hp;omega
 have hqn:(zQ (Lib.cut t [45]).2.1 [46]).length≤lim:=by have:=j9 (s:=(Lib.cut t [45]).2.1) (sep:=[46]) (by simp);omega
 by_cases h3:(zQ (Lib.cut t [45]).1 [46]).length=3
 ·obtain⟨p0,p1,p2,hps⟩:=three h3
  rw[hps] at hsp hpl
  have hn0:=fun hp nx=>Ze p0 hp nx (hpl p0 (by simp))
  have hn1:=fun hp nx=>Ze p1 hp nx (hpl p1 (by simp))
  have hn2:=fun hp nx=>Ze p2 hp nx (hpl p2 (by simp))
  simp[hcut,hsp]
  rw[zw]
  cases e0:vnum p0 with
  | none =>
    rw[e0] at hn0
    simp[hn0,rdP,rdV,hps,e0,zI,zX,qc,ver0,Ver.enc,f182]
  | some a =>
    rw[e0] at hn0
    simp[hn0]
    rw[zw]
    cases e1:vnum p1 with
    | none =>
      rw[e1] at hn1
      simp[hn1,rdP,rdV,hps,e0,e1,zI,zX,qc,ver0,Ver.enc,f182]
    | some b =>
      rw[e1] at hn1
      simp[hn1]
      rw[zw]
      cases e2:vnum p2 with
      | none =>
        rw[e2] at hn2
        simp[hn2,rdP,rdV,hps,e0,e1,e2,zI,zX,qc,ver0,Ver.enc,f182]
      | some c =>
        rw[e2] at hn2
        simp[hn2]
        rw[zw]
        simp[zI,zX]
        have hv1:(⟨a,b,c,[]⟩:Ver).small:=⟨by simp,by simp⟩
        have hv2:(⟨a,b,c,zQ (Lib.cut t [45]).2.1 [46]⟩:Ver).small:=⟨hqn,hql⟩
        cases eh:(Lib.cut t [45]).2.2
        ·have hck:=fun hp nx=>FVr_call (fun v=>int (chkV v)) ⟨a,b,c,[]⟩ (.agg [int a,int b,int c,.nil]) hp hp nx _ rfl rfl hv1 rfl
         by_cases hz:chkV ⟨a,b,c,[]⟩=0
         ·simp[hck,hz,rdP,rdV,rdPre,hps,e0,e1,e2,eh,qc,Ver.enc,f182]
         ·have hz':(chkV ⟨a,b,c,[]⟩ != 0)=true:=by simpa using hz
          simp[hck,hz,hz',rdP,rdV,rdPre,hps,e0,e1,e2,eh,zI,zX,qc,ver0,Ver.enc,f182]
        ·have hck:∀(hp:Hp) (nx id n:Nat),hp id=some ⟨9,1,true,encT (zQ (Lib.cut t [45]).2.1 [46])⟩→n=(zQ (Lib.cut t [45]).2.1 [46]).length→zT [.g vpat] (FVr fun v=>int (chkV v)) [.agg [int a,int b,int c,.own id 0 n]] hp nx=some (int (chkV ⟨a,b,c,zQ (Lib.cut t [45]).2.1 [46]⟩),hp,nx):=by
          intro hp nx id n hh hn
          subst hn
          exact FVr_call (fun v=>int (chkV v)) ⟨a,b,c,zQ (Lib.cut t [45]).2.1 [46]⟩ _ hp (upd hp id none) nx (.agg [int a,int b,int c,.sl 1 (encT (zQ (Lib.cut t [45]).2.1 [46]))]) (by simp[hh]) rfl hv2 rfl
         by_cases hz:chkV ⟨a,b,c,zQ (Lib.cut t [45]).2.1 [46]⟩=0
         ·simp[hsp2,hck,hz,rdP,rdV,rdPre,hps,e0,e1,e2,eh,qc,Ver.enc,f182]
         ·have hz':(chkV ⟨a,b,c,zQ (Lib.cut t [45]).2.1 [46]⟩ != 0)=true:=by simpa using hz
          simp[hsp2,hck,hz,hz',rdP,rdV,rdPre,hps,e0,e1,e2,eh,zI,zX,qc,ver0,Ver.enc,f182]
 ·have h3':(((zQ (Lib.cut t [45]).1 [46]).length:Int) != 3)=true:=by simp;omega
  have hr:rdV t=none:=by
   unfold rdV
   split
   ·rename_i e;rw[e] at h3;simp at h3
   ·rfl
  simp[hcut,hsp,h3',h3,rdP,hr,zI,zX,qc,ver0,Ver.enc,f182]
theorem readVersion_sound:za prog 182 (zd false [] (FSP1 rdP)) :=
 yK (fn:=f182) goodrv ⟨_,func182,by kernel_rfl,rfl,by kernel_rfl⟩ false [] _ fun args r h w S vs hz=>by
  obtain⟨l,rfl,hp,rfl⟩:=zg h
  obtain⟨r0,h1,h2⟩:=readVersion_eval l hp
  exact⟨_,r0,hz,by simp[f182],h1,h2⟩
structure Part where
 n0:Int
 n1:Int
 n2:Int
 has:Int
 pre:List (List UInt8)
def Part.enc (p:Part):List PV:=[int p.n0,int p.n1,int p.n2,int p.has,.sl 1 (encT p.pre)]
abbrev ppat:List (Option Nat):=[none,none,none,none,some 1]
def part0:Part:=⟨0,0,0,0,[]⟩
def Part.put (p:Part) (i:Nat) (n:Int):Part:=match i with
 | 0=>{ p with n0:=n,has:=p.has+1 }
 | 1=>{ p with n1:=n,has:=p.has+1 }
 | _=>{ p with n2:=n,has:=p.has+1 }
def qU (p:Part) (i:Nat) (t:List UInt8):Option Part:=if (vnum t).isSome=true∧p.has=i then some (p.put i ((vnum t).getD 0)) else if openB t=true∧i≠0 then some p else none
def yj:Part→Nat→List (List UInt8)→Option Part
 | p,_,[]=>some p
 | p,i,t::l=>match qU p i t with
   | some q=>yj q (i+1) l
   | none=>none
def zy (t:List UInt8):Part×Bool:=if Lib.contains t [45]=true then (match rdV t with
    | some v=>(⟨v.a,v.b,v.c,3,v.pre⟩,true)
    | none=>(⟨0,0,0,3,[]⟩,false))
 else if 3<(zQ t [46]).length then (part0,false) else match yj part0 0 (zQ t [46]) with
  | some p=>(p,true)
  | none=>(part0,false)
def wd (t:List UInt8):PV:=.tup [.agg (zy t).1.enc,boo (zy t).2]
noncomputable abbrev Crpv:Ctx:=zN prog [(181,zd false [] (FTT hasP fun _ _=>True)),(182,zd false [] (FSP1 rdP)),(162,qD [] FSp),(183,zd false [] (FSP vnumP)),(166,zd false [] (FS openB))]
theorem goodrp:AM.Good Crpv (fun g=>[166].contains g):=zr mixed ⟨contains_sound,by simp,readVersion_sound,by simp,xD,by simp,jp,by simp,open_sound,fun _=>zf _ _,trivial⟩
theorem has_call (a b:List UInt8) (hp:Hp) (nx:Nat) (h:a.length≤lim) (h2:b.length≤lim):zd false [] (FTT hasP fun _ _=>True) [str a,str b] hp nx=some (boo (Lib.contains a b),hp,nx):=jJ _ _ a b hp nx h h2 trivial rfl
def Part.raw (p:Part):List PV:=[int p.n0,int p.n1,int p.n2,int p.has,.nil]
theorem foldPart_drop {p:Part} {k:Nat} {l:List (List UInt8)} (h:k<l.length):yj p k (l.drop k)=match qU p k l[k] with
  | some q=>yj q (k+1) (l.drop (k+1))
  | none=>none:=by
 rw[List.drop_eq_getElem_cons h]
 rfl
theorem readPartial_eval (t:List UInt8) (ht:t.length+1≤lim):∃r0,zl Crpv f164 [str t]=some r0∧Stands r0 (wd t):=by
 refine wR (sh:=.g ppat) rfl ?_
 have hcn:=fun hp nx=>has_call t [45] hp nx (by omega) (by decide)
 cases hc:Lib.contains t [45]
 ·have hsp:=fun hp nx=>vW t [46] hp nx (by omega) (by decide) (by decide)
  have hpl:∀p∈zQ t [46],p.length≤lim:=fun p hp=>by have:=j8 hp;omega
  by_cases h3:3<(zQ t [46]).length
  ·have h3':(3:Int)<(zQ t [46]).length:=by omega
   simp[hcn,hc,hsp,h3,h3',wd,zy,zI,zX,qc,part0,Part.enc,f164]
  have h3':¬(3:Int)<(zQ t [46]).length:=by omega
  simp[hcn,hc,hsp,h3,h3']
  obtain⟨l,hl⟩:∃l,zQ t [46]=l:=⟨_,rfl⟩
  rw[hl] at hpl h3
  have hrd:zy t=match yj part0 0 l with
   | some p=>(p,true)
   | none=>(part0,false):=by
   unfold zy
   rw[if_neg (by rw[hc];simp),hl,if_neg h3]
   try rfl
  simp only[hl]
  refine zD (fun k σ hp nx=>∃p:Part,p.pre=[]∧σ 2=.ref 0 0 0∧σ 7=.ref 2 0 0∧σ 37=.own 1 0 l.length∧σ 38=int l.length∧σ 39=int k∧p.has≤k∧0≤p.has ∧
    hp 0=some ⟨204,5,false,[part0.raw]⟩∧hp 1=some ⟨9,1,true,encT l⟩∧hp 2=some ⟨204,5,false,[p.raw]⟩∧yj part0 0 l=yj p k (l.drop k)) l.length
   ⟨part0,rfl,by simp,by simp,by simp,by simp,by simp,by simp[part0],by simp[part0],by simp[part0,Part.raw],by simp,by simp[part0,Part.raw],by simp⟩ ?_
  rintro k σ hp nx hk ⟨p,hpp,h2,h7,h37,h38,h39,hh,hh0,b0,b1,b2,he⟩
  by_cases hlt:k<l.length
  ·have hn:=fun hp nx=>Ze l[k] hp nx (hpl _ (List.getElem_mem hlt))
   have ho:=fun hp nx=>yJ openB l[k] hp nx (hpl _ (List.getElem_mem hlt))
   have hw:IntKind.i64.wrap ((k:Int)+1)=(k:Int)+1:=zi (by omega) (by omega)
   have hw2:IntKind.i64.wrap (p.has+1)=p.has+1:=zi (by omega) (by omega)
   rw[foldPart_drop hlt] at he
   have hk3:k=0∨k=1∨k=2:=by omega
   obtain⟨n0,n1,n2,has,pre⟩:=p
   simp only at hpp hh hh0 hw2
   subst hpp
   cases hv:(vnum l[k]).isSome
   ·cases hop:openB l[k]
    ·have hs:qU ⟨n0,n1,n2,has,[]⟩ k l[k]=none:=by simp[qU,hv,hop]
     rw[hs] at he
     rw[he] at hrd
     simp[h2,h7,h37,h38,h39,b0,b1,b2,hlt,hn,ho,hv,hop,wd,hrd,zI,zX,qc,part0,Part.raw,Part.enc,f164]
    ·by_cases hk0:k=0
     ·subst hk0
      have hs:qU ⟨n0,n1,n2,has,[]⟩ 0 l[0]=none:=by simp[qU,hv]
      rw[hs] at he
      rw[he] at hrd
      simp[h2,h7,h37,h38,h39,b0,b1,b2,hlt,hn,ho,hv,hop,wd,hrd,zI,zX,qc,part0,Part.raw,Part.enc,f164]
     ·have hs:qU ⟨n0,n1,n2,has,[]⟩ k l[k]=some ⟨n0,n1,n2,has,[]⟩:=by simp[qU,hv,hop,hk0]
      have hk0':((k:Int)==0)=false:=by simpa using hk0
      rw[hs] at he
      simp[h2,h7,h37,h38,h39,b0,b1,b2,hlt,hn,ho,hv,hop,hw,hk0',hk0]
      exact⟨hlt,⟨n0,n1,n2,has,[]⟩,rfl,Int.le_trans hh (by omega),hh0,rfl,he⟩
   ·by_cases hhk:has=k
    ·have hs:qU ⟨n0,n1,n2,has,[]⟩ k l[k]=some ((⟨n0,n1,n2,has,[]⟩:Part).put k ((vnum l[k]).getD 0)):=by simp[qU,hv,hhk]
     rw[hs] at he
     rcases hk3 with rfl | rfl | rfl
     ·obtain rfl:has=0:=by simpa using hhk
      have hlt':(0:Int)<(l.length:Int):=by omega
      simp[h2,h7,h37,h38,h39,b0,b1,b2,hlt,hlt',hn,ho,hv,hw,Part.raw]
      refine⟨hlt,_,?_,?_,?_,?_,(by simpa using he)⟩<;>simp[Part.put]
     ·obtain rfl:has=1:=by simpa using hhk
      have hlt':(1:Int)<(l.length:Int):=by omega
      simp[h2,h7,h37,h38,h39,b0,b1,b2,hlt,hlt',hn,ho,hv,hw,Part.raw]
      refine⟨hlt,_,?_,?_,?_,?_,(by simpa using he)⟩<;>simp[Part.put]
     ·obtain rfl:has=2:=by simpa using hhk
      have hlt':(2:Int)<(l.length:Int):=by omega
      simp[h2,h7,h37,h38,h39,b0,b1,b2,hlt,hlt',hn,ho,hv,hw,Part.raw]
      refine⟨hlt,_,?_,?_,?_,?_,(by simpa using he)⟩<;>simp[Part.put]
    ·cases hop:openB l[k]
     ·have hs:qU ⟨n0,n1,n2,has,[]⟩ k l[k]=none:=by simp[qU,hv,hop,hhk]
      have hhk':(has==(k:Int))=false:=by simpa using hhk
      rw[hs] at he
      rw[he] at hrd
      simp[h2,h7,h37,h38,h39,b0,b1,b2,hlt,hn,ho,hv,hop,hhk',wd,hrd,zI,zX,qc,part0,Part.raw,Part.enc,f164]
     ·by_cases hk0:k=0
      ·subst hk0
       have hs:qU ⟨n0,n1,n2,has,[]⟩ 0 l[0]=none:=by simp[qU,hhk];intro _;exact hhk
       have hhk':(has==0)=false:=by simpa using hhk
       rw[hs] at he
       rw[he] at hrd
       simp[h2,h7,h37,h38,h39,b0,b1,b2,hlt,hn,ho,hv,hop,hhk',wd,hrd,zI,zX,qc,part0,Part.raw,Part.enc,f164]
      ·have hs:qU ⟨n0,n1,n2,has,[]⟩ k l[k]=some ⟨n0,n1,n2,has,[]⟩:=by simp[qU,hv,hop,hk0,hhk]
       have hk0':((k:Int)==0)=false:=by simpa using hk0
       have hhk':(has==(k:Int))=false:=by simpa using hhk
       rw[hs] at he
       simp[h2,h7,h37,h38,h39,b0,b1,b2,hlt,hn,ho,hv,hop,hw,hk0',hk0,hhk',Part.raw]
       exact⟨hlt,⟨n0,n1,n2,has,[]⟩,rfl,Int.le_trans hh (by omega),hh0,⟨rfl,rfl,rfl,rfl⟩,he⟩
  ·obtain rfl:k=l.length:=by omega
   rw[List.drop_length] at he
   simp only[yj] at he
   rw[he] at hrd
   simp[h2,h7,h37,h38,h39,b0,b1,b2,wd,hrd,hpp,qc,Part.raw,Part.enc,f164]
 ·have hrv:=fun hp nx=>Zd rdP t hp nx ht
  cases hr:rdV t with
  | none=>simp[hcn,hc,hrv,rdP,hr,wd,zy,zI,zX,qc,ver0,Ver.enc,Part.enc,f164]
  | some v=>simp[hcn,hc,hrv,rdP,hr,wd,zy,zI,zX,qc,Ver.enc,Part.enc,f164]
theorem readPartial_sound:za prog 164 (zd false [] (FSP1 wd)) :=
 yK (fn:=f164) goodrp ⟨_,func164,by kernel_rfl,rfl,by kernel_rfl⟩ false [] _ fun args r h w S vs hz=>by
  obtain⟨l,rfl,hp,rfl⟩:=zg h
  obtain⟨r0,h1,h2⟩:=readPartial_eval l hp
  exact⟨_,r0,hz,by simp[f164],h1,h2⟩
def qx (e s:Nat):List PV→Option (Option Blk)
 | [.nil]=>some none
 | [.em]=>some (some ⟨e,s,true,[]⟩)
 | [.sl s' es]=>if s'=s∧es≠[]∧es.length≤lim then some (some ⟨e,s,true,es⟩) else none
 | _=>none
def jr (e s:Nat) (es:List (List PV)) (y:PV) (nx:Nat):PV×(Hp→Hp)×Nat:=match y with
 | .nil=>(.nil,fun h=>h,nx)
 | _=>(.own nx 0 es.length,fun h=>upd h nx (some ⟨e,s,true,es⟩),nx+1)
theorem kd {e s:Nat} {es:List (List PV)} {y:PV} (h:SlOf s es y) (hl:es.length≤lim) (hp:Hp) (nx:Nat):qD [] (qx e s) [y] hp nx=some ((jr e s es y nx).1,(jr e s es y nx).2.1 hp,(jr e s es y nx).2.2):=by
 cases h with
 | nil=>rfl
 | em=>rfl
 | sl=>simp at hl;simp[qD,qr,qx,jr,hl]
theorem kw {e s:Nat} {es:List (List PV)} {y:PV} {nx:Nat} (hp:Hp) {id:Nat} (h:id<nx):(jr e s es y nx).2.1 hp id=hp id:=by
 unfold jr
 split
 ·rfl
 ·exact zc _ _ _ _ (by omega)
theorem Zf (e s:Nat) (es:List (List PV)) (y:PV) (nx:Nat):(jr e s es y nx).1=.nil∨(jr e s es y nx).1=.own nx 0 es.length:=by
 unfold jr
 split
 ·exact .inl rfl
 ·exact .inr rfl
theorem ownOr_nx (e s:Nat) (es:List (List PV)) (y:PV) (nx:Nat):nx≤(jr e s es y nx).2.2:=by
 unfold jr
 split<;>simp
theorem ke {e s:Nat} {es:List (List PV)} {y:PV} (h:SlOf s es y) (hp:Hp) (nx:Nat):OwnS ((jr e s es y nx).2.1 hp) (jr e s es y nx).2.2 e s (jr e s es y nx).1 es:=by
 cases h with
 | nil=>exact .inl ⟨rfl,rfl⟩
 | em=>exact .inr ⟨nx,by simp[jr],rfl,by simp[jr]⟩
 | sl=>exact .inr ⟨nx,by simp[jr],rfl,by simp[jr]⟩
theorem cloneV_eval (args:List PV) (r:Option Blk) (h:qx 128 5 args=some r):args.length≤f70.ntmps∧∃x hp nx,qq C0 f70 args (fun _=>none) 0=some (x,hp,nx)∧OwnR r x hp nx:=by
 unfold qx at h
 split at h
 ·injection h with h;subst h
  exact⟨by simp[f70],zn rfl (by simp[binA,qy,f70,OwnR])⟩
 ·injection h with h;subst h
  exact⟨by simp[f70],zn rfl (by simp[binA,qy,f70,OwnR,zh,zV,AM.view,maxLen,zt,zj])⟩
 ·rename_i es
  split at h
  ·rename_i hc
   obtain⟨rfl,hne,hl⟩:=hc
   injection h with h;subst h
   cases es with
   | nil=>exact absurd rfl hne
   | cons c es =>
     unfold lim at hl
     simp at hl
     have m1:es.length+1≤maxLen:=by unfold maxLen;omega
     have m2:(es.length+1)*80≤140737488355328:=by omega
     refine⟨by simp[f70],zn rfl ?_⟩
     simp[binA,qy,f70,OwnR,zh,zV,AM.view,zt,zj,m1,m2]
  ·cases h
 ·cases h
theorem cloneV_sound:za prog 70 (qD [] (qx 128 5)) :=
 qw (fn:=f70) (code:=_) q7 ⟨func70,by kernel_rfl,rfl,by kernel_rfl⟩ [] _ cloneV_eval
theorem cloneF_eval (args:List PV) (r:Option Blk) (h:qx 158 6 args=some r):args.length≤f100.ntmps∧∃x hp nx,qq C0 f100 args (fun _=>none) 0=some (x,hp,nx)∧OwnR r x hp nx:=by
 unfold qx at h
 split at h
 ·injection h with h;subst h
  exact⟨by simp[f100],zn rfl (by simp[binA,qy,f100,OwnR])⟩
 ·injection h with h;subst h
  exact⟨by simp[f100],zn rfl (by simp[binA,qy,f100,OwnR,zh,zV,AM.view,maxLen,zt,zj])⟩
 ·rename_i es
  split at h
  ·rename_i hc
   obtain⟨rfl,hne,hl⟩:=hc
   injection h with h;subst h
   cases es with
   | nil=>exact absurd rfl hne
   | cons c es =>
     unfold lim at hl
     simp at hl
     have m1:es.length+1≤maxLen:=by unfold maxLen;omega
     have m2:(es.length+1)*96≤140737488355328:=by omega
     refine⟨by simp[f100],zn rfl ?_⟩
     simp[binA,qy,f100,OwnR,zh,zV,AM.view,zt,zj,m1,m2]
  ·cases h
 ·cases h
theorem cloneF_sound:za prog 100 (qD [] (qx 158 6)) :=
 qw (fn:=f100) (code:=_) q7 ⟨func100,by kernel_rfl,rfl,by kernel_rfl⟩ [] _ cloneF_eval
def Val.inner (v:Val):List Val:=v.items++v.fields.map (·.2)
def cutB (s:Int×Bool):Bool:=s.2||decide (1000<s.1)
def stepR (s r:Int×Bool):Int×Bool:=if cutB s then s else (s.1+r.1,s.2||r.2)
mutual
def Val.rp:Val→Int→Int×Bool
 | .mk _ _ _ is fs,l=>rpF fs l (rpV is l (1,decide (8<l)))
def rpV:List Val→Int→Int×Bool→Int×Bool
 | [],_,s=>s
 | v::vs,l,s=>rpV vs l (stepR s (v.rp (l+1)))
def rpF:List (List UInt8×Val)→Int→Int×Bool→Int×Bool
 | [],_,s=>s
 | (_,v)::vs,l,s=>rpF vs l (stepR s (v.rp (l+1)))
end
def partsI (xs:List Val):Nat:=(xs.map Val.parts).sum
def levelsI:List Val→Nat
 | []=>0
 | v::l=>max v.levels (levelsI l)
structure RP (xs:List Val) (l:Int) (s r:Int×Bool):Prop where
 lo:s.1≤r.1
 hi:r.1≤s.1+partsI xs
 deep:r.2=true→s.2=true∨8<l+(levelsI xs:Int)
 all:cutB r=false→r.1=s.1+partsI xs∧(xs≠[]→l+(levelsI xs:Int)≤8)
end Go.Proofs.YtglppmnehgjolaaGreatDoor
