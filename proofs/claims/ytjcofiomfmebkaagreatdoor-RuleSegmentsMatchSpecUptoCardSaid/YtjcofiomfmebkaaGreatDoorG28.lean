/-
Segments: the search in line, what is reached by names (plain).
-/
import Derived.Test.YtjcofiomfmebkaaGreatDoorG25
import Derived.Test.YtjcofiomfmebkaaGreatDoorG24
import Derived.Test.YtjcofiomfmebkaaGreatDoorG17
import Derived.Test.YtjcofiomfmebkaaGreatDoorG12
import Derived.Test.YtjcofiomfmebkaaGreatDoorG10
import Derived.Test.YtjcofiomfmebkaaGreatDoorG14
import Derived.Shelf.SlSortCmp.WholeK
import Derived.Shelf.SlSortCmp.NoneTotal
import Derived.Test.YtjcofiomfmebkaaGreatDoorProg
import Derived.Test.YtjcofiomfmebkaaGreatDoorG18
import Derived.Test.YtjcofiomfmebkaaGreatDoorG21
set_option maxRecDepth 8000
namespace Go.Proofs.YtjcofiomfmebkaaGreatDoor
open Go.Proofs.Tryz
open Go.RowKit Go.AM
def qy (n:List UInt8):List Sgm→Option Sgm
 | []=>none
 | s::l=>if s.name=n then some s else qy n l
theorem VD:∀{L:List Sgm} {s:List UInt8},(∃y∈L,y.name=s)→∃j:Nat,∃h:j<L.length,qy s L=some L[j]∧L[j].name=s
 | [],s,h=>by obtain⟨y,hy,_⟩:=h;cases hy
 | x::L,s,h=>by
   by_cases hx:x.name=s
   ·exact⟨0,by simp,by simp[qy,hx],hx⟩
   ·obtain⟨y,hy,e⟩:=h
    rcases List.mem_cons.1 hy with rfl | hy
    ·exact absurd e hx
    ·obtain⟨j,hj,h1,h2⟩:=VD ⟨y,hy,e⟩
     exact⟨j+1,by simpa using hj,by simp[qy,hx,h1],by simpa using h2⟩
theorem QS:∀{L:List Sgm} {s:List UInt8},(∀y∈L,y.name≠s)→qy s L=none
 | [],s,_=>rfl
 | x::L,s,h=>by
   have hx:=h x (by simp)
   simp only[qy,if_neg hx]
   exact QS fun y hy=>h y (by simp[hy])
theorem YQ {L:List Sgm} (h:UpN (L.map Sgm.name)) (s:List UInt8):(jz L s=true∧∃hj:kv L s<L.length,qy s L=some L[kv L s]∧L[kv L s].name=s)∨(jz L s=false∧qy s L=none):=by
 by_cases he:∃y∈L,y.name=s
 ·obtain⟨j,hj,h1,h2⟩:=VD he
  have:=zlz h (j:=j) (s:=s) (by simp[hj,h2])
  unfold jz kv
  rw[this]
  exact .inl ⟨rfl,hj,h1,h2⟩
 ·refine .inr ⟨?_,QS fun y hy e=>he ⟨y,hy,e⟩⟩
  unfold jz
  cases hb:(bsN (L.map Sgm.name) s).2 with
  | false=>rfl
  | true =>
    have:=zly hb
    rw[List.getElem?_map] at this
    cases hg:L[(bsN (L.map Sgm.name) s).1]? with
    | none=>rw[hg] at this;cases this
    | some y =>
      rw[hg] at this
      simp only[Option.map_some,Option.some.injEq] at this
      exact absurd ⟨y,List.mem_of_getElem? hg,this⟩ he
def jr (l:List Sgm) (n:List UInt8):List (List UInt8):=match qy n l with
 | some s=>s.cond.names
 | none=>[]
theorem zpv {l:List Sgm} (hu:UpN (l.map Sgm.name)) {n m:List UInt8} (h:m∈jr l n):jz l n=true∧kv l m∈qT l (kv l n)∧∃s∈l,m∈s.cond.names:=by
 unfold jr at h
 rcases YQ hu n with⟨h1,hj,h2,h3⟩ | ⟨h1,h2⟩
 ·rw[h2] at h
  simp only at h
  refine⟨h1,?_,_,List.getElem_mem hj,h⟩
  unfold qT
  rw[List.getElem?_eq_getElem hj]
  exact List.mem_map_of_mem h
 ·rw[h2] at h;cases h
theorem zmG {l:List Sgm} (hu:UpN (l.map Sgm.name)) (hk:∀s∈l,∀n∈s.cond.names,jz l n=true):(∃s∈l,From (jr l) s.cond.names s.name)↔∃i:Nat,Wayn (fun a b=>b∈qT l a) i i:=by
 constructor
 ·rintro⟨s,hs,hf⟩
  obtain⟨i,hi⟩:=List.getElem?_of_mem hs
  have key:∀n,From (jr l) s.cond.names n→Wayn (fun a b=>b∈qT l a) i (kv l n):=by
   intro n hn
   induction hn with
   | here hm=>exact .one (by unfold qT;rw[hi];exact List.mem_map_of_mem hm)
   | there _ hb ih=>exact .tail ih (zpv hu hb).2.1
  have:=key _ hf
  rw[(zqj hu hi).1] at this
  exact⟨i,this⟩
 ·rintro⟨i,hi⟩
  obtain⟨b,hb,_⟩:=hi.head
  have hil:i<l.length:=by
   refine Nat.lt_of_not_le fun hle=>?_
   rw[zeb hle] at hb
   cases hb
  have key:∀j,Wayn (fun a b=>b∈qT l a) i j→∃n,From (jr l) l[i].cond.names n∧kv l n=j∧jz l n=true:=by
   intro j hj
   induction hj with
   | one e =>
     unfold qT at e
     rw[List.getElem?_eq_getElem hil] at e
     obtain⟨n,hn,rfl⟩:=List.mem_map.1 e
     exact⟨n,.here hn,rfl,hk _ (List.getElem_mem hil) n hn⟩
   | tail _ e ih =>
     obtain⟨n,h1,rfl,h3⟩:=ih
     rcases YQ hu n with⟨_,hj,h4,h5⟩ | ⟨h4,_⟩
     ·unfold qT at e
      rw[List.getElem?_eq_getElem hj] at e
      obtain⟨m,hm,rfl⟩:=List.mem_map.1 e
      exact⟨m,.there h1 (by unfold jr;rw[h4];exact hm),rfl,hk _ (List.getElem_mem hj) m hm⟩
     ·rw[h3] at h4;cases h4
  obtain⟨n,h1,h2,h3⟩:=key i hi
  rcases YQ hu n with⟨_,hj,h4,h5⟩ | ⟨h4,_⟩
  ·refine⟨l[i],List.getElem_mem hil,?_⟩
   have:l[i].name=n:=by rw[←h5];congr 1;simp only[h2]
   rw[this]
   exact h1
  ·rw[h3] at h4;cases h4
noncomputable abbrev zwv:Ctx:=zC prog [(30,zd false [] (FS yJ))]
theorem VE (l:List (List UInt8)) (h:tbs l≤lim):zg zwv f43 [.sl 1 (zD l)]=some (int (ja l)):=by
 have hl:=xG l
 have hm:=fun s (hs:s∈l)=>Vs hs
 unfold lim at h
 refine zb rfl ?_
 unfold ja
 by_cases c1:(1000:Int)<l.length
 ·rw[if_pos c1]
  simp[c1,f43]
 rw[if_neg c1]
 simp[c1]
 refine zu (fun k σ hp nx=>σ 0=.sl 1 (zD l)∧σ 8=.sl 1 (zD l)∧σ 9=int l.length∧σ 10=int k∧YN none l=YN (WS l k) (l.drop k)) l.length
  ⟨by simp,by simp,by simp,by simp,by simp[WS]⟩ ?_
 rintro k σ hp nx hk ⟨h0,h8,h9,h10,he⟩
 by_cases hlt:k<l.length
 ·have hw:IntKind.i64.wrap ((k:Int)+1)=(k:Int)+1:=zc (by omega) (by omega)
  obtain⟨s,hs⟩:∃s,l[k]=s:=⟨_,rfl⟩
  have hsl:s.length≤lim:=by have:=hm s (by rw[←hs];exact List.getElem_mem hlt);unfold lim;omega
  rw[zap hlt,hs] at he
  have hpv:WS l (k+1)=some s:=by simp[WS,hlt,hs]
  cases d1:yJ s
  ·rw[d1,if_neg (by simp)] at he
   simp[h0,h8,h9,h10,hlt,hs,hsl,d1,he,f43]
  rw[d1,if_pos rfl] at he
  by_cases k0:k=0
  ·subst k0
   have w1:IntKind.i64.wrap 1=1:=zc (by omega) (by omega)
   simp only[WS,yK,if_true,Bool.false_eq_true,if_false] at he
   simp[h0,h8,h9,h10,hlt,hs,hsl,d1,w1]
   exact⟨by omega,by rw[he,hpv];simp⟩
  ·obtain⟨j,rfl⟩:∃j,k=j+1:=⟨k - 1,by omega⟩
   have hj:j<l.length:=by omega
   have wj:IntKind.i64.wrap ((j:Int)+1 - 1)=(j:Int):=by rw[zc (by omega) (by omega)];omega
   have wj':IntKind.i64.wrap (j:Int)=(j:Int):=zc (by omega) (by omega)
   have j1:((j:Int)+1).toNat=j+1:=by omega
   have j2:0<(j:Int)+1:=by omega
   have j3:0≤(j:Int)+1:=by omega
   have j4:(j:Int)+1<l.length:=by omega
   have wk:IntKind.i64.wrap ((j:Int)+1+1)=(j:Int)+1+1:=zc (by omega) (by omega)
   have el:(Op.bytesLess s l[j]||s==l[j])=leB s l[j]:=rfl
   have hpj:WS l (j+1)=some l[j]:=by simp[WS,hj]
   simp only[hpj,yK] at he
   cases d2:leB s l[j]
   ·rw[d2,if_neg (by simp)] at he
    simp[h0,h8,h9,h10,hlt,hj,hs,hsl,d1,wj,wj',j1,j2,j3,j4,el,d2,wk]
    exact⟨by omega,by rw[he,hpv]⟩
   ·rw[d2,if_pos rfl] at he
    simp[h0,h8,h9,h10,hlt,hj,hs,hsl,d1,wj,wj',j1,j2,j3,j4,el,d2,he,f43]
 ·obtain rfl:k=l.length:=by omega
  rw[List.drop_length] at he
  have he:YN none l=0:=by rw[he];rfl
  simp[h0,h8,h9,h10,he,f43]
theorem JM:za prog 43 (zd false [] (FTl (fun l=>int (ja l)) fun l=>tbs l≤lim)) :=
 zL (fn:=f43) (zk (q:=[]) mixed ⟨Y6,by simp,trivial⟩:AM.Good zwv _) ⟨_,func43,by kernel_rfl,rfl,by kernel_rfl⟩ false [] _ fun args r h=>by
  obtain⟨l,rfl,hx,rfl⟩:=ze h
  exact⟨Nat.le_trans (Nat.le_refl 1) (by decide),_,VE l hx,zK _⟩
def zeroSg:Sgm:=⟨[],[],[],.mk 0 [] 0 [] [] [] []⟩
def zr3 (r:Option Sgm):Sgm:=r.getD zeroSg
def ZO (r:Option Sgm):PV:=.tup [.agg (zr3 r).enc,boo r.isSome]
noncomputable def zr4 (out:List Sgm→List UInt8→PV) (dom:List Sgm→List UInt8→Prop):List PV→Option PV:=zJ (α:=List Sgm×List UInt8) (fun a=>[.sl 10 (a.1.map Sgm.enc),str a.2]) (fun a=>dom a.1 a.2) (fun a=>out a.1 a.2)
theorem WZ (out:List Sgm→List UInt8→PV) (dom:List Sgm→List UInt8→Prop) (l:List Sgm) (s:List UInt8) (hp:Hp) (nx:Nat) (h:dom l s):zd false [] (zr4 out dom) [.sl 10 (l.map Sgm.enc),str s] hp nx=some (out l s,hp,nx) :=
 zH (hp1:=hp) (show zj hp [.sl 10 (l.map Sgm.enc),str s]=some ([.sl 10 (l.map Sgm.enc),str s],hp) by simp) (zm (enc:=fun a:List Sgm×List UInt8=>[PV.sl 10 (a.1.map Sgm.enc),str a.2]) (a:=(l,s)) (fun a b e=>by
  obtain⟨a1,a2⟩:=a;obtain⟨b1,b2⟩:=b
  simp only[List.cons.injEq,and_true] at e
  obtain⟨e1,e2⟩:=e
  rw[kn e1,qg e2]) h) (.inr rfl)
theorem zgq {l:List Sgm} {k:Nat} (h:k<l.length) (s:List UInt8):qy s (l.drop k)=if l[k].name=s then some l[k] else qy s (l.drop (k+1)):=by
 rw[List.drop_eq_getElem_cons h,qy]
theorem zpw:Stands (.agg [str [],.nil,.nil,int 0,str [],int 0,.nil,str [],str [],.nil]) (.agg zeroSg.enc):=by
 rw[qJ]
 exact StandsL.agg (.cons (.refl _) (.cons (.nilOr (.inl ⟨rfl,rfl⟩)) (.cons (.nilOr (.inl ⟨rfl,rfl⟩)) (.cons (.refl _) (.cons (.refl _) (.cons (.refl _) (.cons (.nilOr (.inl ⟨rfl,rfl⟩)) (.cons (.refl _) (.cons (.refl _) (.cons (.nilOr (.inl ⟨rfl,rfl⟩)) .nil))))))))))
theorem VF (l:List Sgm) (s:List UInt8) (h:l.length≤lim):∃r0,zg C0 f12 [.sl 10 (l.map Sgm.enc),str s]=some r0∧Stands r0 (ZO (qy s l)):=by
 unfold lim at h
 refine kZ rfl ?_
 simp
 refine zu (fun k σ hp nx=>σ 1=str s∧σ 4=.ref 0 0 0∧σ 8=.sl 10 (l.map Sgm.enc)∧σ 9=int l.length∧σ 10=int k∧1≤nx∧hp 0=some ⟨43,10,false,[[str [],.nil,.nil,int 0,str [],int 0,.nil,str [],str [],.nil]]⟩∧qy s l=qy s (l.drop k)) l.length
  ⟨by simp,by simp,by simp,by simp,by simp,by simp,by simp[zx,zR],by simp⟩ ?_
 rintro k σ hp nx hk ⟨h1,h4,h8,h9,h10,hnx,b0,hf⟩
 have n1:¬0=nx:=by omega
 have n1':¬nx=0:=by omega
 by_cases hlt:k<l.length
 ·have hw:IntKind.i64.wrap ((k:Int)+1)=(k:Int)+1:=zc (by omega) (by omega)
  rw[zgq hlt] at hf
  by_cases d:l[k].name=s
  ·rw[if_pos d] at hf
   have d':(l[k].name==s)=true:=by simpa using d
   rw[hf]
   simp[h1,h4,h8,h9,h10,hlt,d',n1,n1',b0,f12]
   exact⟨ZO (some l[k]),by simp[ZO,zr3,qJ],.refl _⟩
  ·rw[if_neg d] at hf
   have d':(l[k].name==s)=false:=by simpa using d
   simp[h1,h4,h8,h9,h10,hlt,d',n1,n1',hw]
   and_intros<;>first | omega | exact hf | simp[n1,n1',b0]
 ·obtain rfl:k=l.length:=by omega
  rw[List.drop_length] at hf
  rw[hf]
  simp[h1,h4,h8,h9,h10,qy,b0,zx,zR,f12]
  refine⟨.tup [.agg [str [],.nil,.nil,int 0,str [],int 0,.nil,str [],str [],.nil],boo false],by simp,?_⟩
  exact StandsL.tup (.cons zpw (.cons (.refl _) .nil))
theorem yP:za prog 12 (zd false [] (zr4 (fun l s=>ZO (qy s l)) fun l _=>l.length≤lim)) :=
 xw (fn:=f12) (zk (q:=[]) mixed trivial:AM.Good C0 _) ⟨_,func12,by kernel_rfl,rfl,by kernel_rfl⟩ false [] _ fun args r h w S vs hz=>by
  obtain⟨⟨l,s⟩,rfl,hx,rfl⟩:=ze h
  obtain⟨r0,h1,h2⟩:=VF l s hx
  exact⟨_,r0,hz,Nat.le_trans (Nat.le_refl 2) (by decide),h1,h2⟩
def XB (s:Int×Bool):Bool:=s.2||decide (200<s.1)
def zjO (s r:Int×Bool):Int×Bool:=if XB s then s else (s.1+r.1,s.2||r.2)
mutual
def Cnd.rp:Cnd→Int→Int×Bool
 | .mk _ _ _ _ _ _ xs,l=>rpC xs l (1,decide (20<l))
def rpC:List Cnd→Int→Int×Bool→Int×Bool
 | [],_,s=>s
 | c::cs,l,s=>rpC cs l (zjO s (c.rp (l+1)))
end
theorem zqn (c:Cnd) (l:Int):c.rp l=rpC c.args l (1,decide (20<l)):=by cases c;rfl
theorem JZ {l:Int} {s:Int×Bool} (h:XB s=true):∀xs:List Cnd,rpC xs l s=s
 | []=>rfl
 | c::cs=>by
   have:zjO s (c.rp (l+1))=s:=if_pos h
   simp only[rpC]
   rw[this]
   exact JZ h cs
theorem zpx {xs:List Cnd} {l:Int} {s:Int×Bool} {k:Nat} (h:k<xs.length):rpC (xs.drop k) l s=rpC (xs.drop (k+1)) l (zjO s (xs[k].rp (l+1))):=by
 rw[List.drop_eq_getElem_cons h,rpC]
structure RPC (xs:List Cnd) (l:Int) (s r:Int×Bool):Prop where
 lo:s.1≤r.1
 hi:r.1≤s.1+partsC xs
 deep:r.2=true→s.2=true∨20<l+(levelsC xs:Int)
 all:XB r=false→r.1=s.1+partsC xs∧(xs≠[]→l+(levelsC xs:Int)≤20)
theorem zh0 (c:Cnd):∀l,0≤(c.rp l).1∧(c.rp l).1≤c.parts∧((c.rp l).2=true→20<l+(c.levels:Int) - 1)∧(XB (c.rp l)=false→(c.rp l).1=c.parts∧l+(c.levels:Int) - 1≤20):=by
 induction c using Cnd.ind with
 | h k a o v p n ys ih =>
   intro l
   have key:∀(xs:List Cnd) (s:Int×Bool),0≤s.1→(∀x∈xs,x∈ys)→RPC xs l s (rpC xs l s):=by
    intro xs
    induction xs with
    | nil=>intro s _ _;exact⟨by simp[rpC],by simp[rpC,partsC],fun h=>.inl (by simpa[rpC] using h),fun _=>⟨by simp[rpC,partsC],fun h=>absurd rfl h⟩⟩
    | cons x xs ihx =>
      intro s h0 hm
      by_cases hc:XB s=true
      ·rw[JZ hc]
       exact⟨by omega,by omega,fun h=>.inl h,fun h=>by rw[hc] at h;cases h⟩
      ·have e:rpC (x::xs) l s=rpC xs l (s.1+(x.rp (l+1)).1,s.2||(x.rp (l+1)).2):=by
        simp only[rpC,zjO,hc];rfl
       rw[e]
       obtain⟨g1,g2,g3,g4⟩:=ih x (hm x (by simp)) (l+1)
       have hr:=ihx (s.1+(x.rp (l+1)).1,s.2||(x.rp (l+1)).2) (by simp only;omega) (fun y hy=>hm y (by simp[hy]))
       have hpi:partsC (x::xs)=x.parts+partsC xs:=by simp[partsC]
       have hlv:levelsC (x::xs)=max x.levels (levelsC xs):=by simp[levelsC]
       have hlo:=hr.lo
       have hhi:=hr.hi
       simp only at hlo hhi
       refine⟨by omega,by rw[hpi];omega,fun h=>?_,fun h=>?_⟩
       ·rw[hlv]
        rcases hr.deep h with h | h
        ·simp only[Bool.or_eq_true] at h
         rcases h with h | h
         ·exact .inl h
         ·right;have:=g3 h;omega
        ·right;omega
       ·obtain⟨a1,a2⟩:=hr.all h
        have hx:XB (x.rp (l+1))=false:=by
         simp only[XB,Bool.or_eq_false_iff,decide_eq_false_iff_not] at h hc ⊢
         refine⟨?_,by omega⟩
         cases hd:(x.rp (l+1)).2 with
         | false=>rfl
         | true =>
           exfalso
           have hst:XB (s.1+(x.rp (l+1)).1,s.2||(x.rp (l+1)).2)=true:=by simp[XB,hd]
           rw[JZ hst] at h
           simp[hd] at h
        obtain⟨b1,b2⟩:=g4 hx
        simp only at a1
        refine⟨by rw[hpi];omega,fun _=>?_⟩
        rw[hlv]
        by_cases hn:xs=[]
        ·subst hn;simp only[levelsC];omega
        ·have:=a2 hn;omega
   have hk:=key ys (1,decide (20<l)) (by simp) fun x hx=>hx
   rw[zqn,WN,YI]
   simp only[Cnd.args]
   have k1:=hk.lo
   have k2:=hk.hi
   simp only at k1 k2
   refine⟨by omega,by omega,fun h=>?_,fun h=>?_⟩
   ·rcases hk.deep h with h | h
    ·simp at h;omega
    ·omega
   ·obtain⟨a1,a2⟩:=hk.all h
    simp only at a1
    refine⟨by omega,?_⟩
    by_cases hn:ys=[]
    ·rw[hn] at h ⊢
     simp[rpC,XB] at h
     simp only[levelsC]
     omega
    ·have:=a2 hn;omega
theorem zmH (c:Cnd):XB (c.rp 1)=(decide ((200:Int)<c.parts)||decide ((20:Int)<c.levels)):=by
 obtain⟨h1,h2,h3,h4⟩:=zh0 c 1
 rw[Bool.eq_iff_iff]
 constructor
 ·intro h
  simp only[XB,Bool.or_eq_true,decide_eq_true_eq] at h ⊢
  rcases h with h | h
  ·right;have:=h3 h;omega
  ·left;omega
 ·intro h
  refine Decidable.byContradiction fun hn=>?_
  have hn:XB (c.rp 1)=false:=by simpa using hn
  obtain⟨a1,a2⟩:=h4 hn
  simp only[XB,Bool.or_eq_false_iff,decide_eq_false_iff_not] at hn
  simp only[Bool.or_eq_true,decide_eq_true_eq] at h
  omega
theorem zeq (a b:Int):qI a b<0↔0<qI b a:=by
 unfold qI
 by_cases h1:a<b
 ·rw[if_pos h1,if_neg (by omega),if_pos h1];omega
 ·by_cases h2:b<a
  ·rw[if_neg h1,if_pos h2,if_pos h2];omega
  ·rw[if_neg h1,if_neg h2,if_neg h2,if_neg h1]
theorem VG (a b:List UInt8):wW a b<0↔0<wW b a:=by
 have h1:=xA a b
 have h2:=xA b a
 have h3:=wY a b
 have h4:=wY b a
 constructor
 ·intro h
  have hl:=h1.1 h
  have g1:¬wW b a<0:=fun hn=>by
   have:=yZ hl (h2.1 hn)
   rw[Wr] at this
   cases this
  have g2:¬wW b a=0:=fun e=>by
   have:=h4.1 e
   have:=h3.2 this.symm
   omega
  omega
 ·intro h
  refine Decidable.byContradiction fun hn=>?_
  have h5:¬a=b:=fun e=>by have:=h4.2 e.symm;omega
  have h6:leB a b=false:=by
   unfold leB
   rw[Bool.or_eq_false_iff]
   refine⟨?_,by simpa using h5⟩
   cases hx:Op.bytesLess a b with
   | false=>rfl
   | true=>exact absurd (h1.2 hx) hn
  have:=h2.2 (yM h6)
  omega
theorem VH {α:Type} {c:α→α→Int}:∀{a b:List α},(∀x∈a,∀y∈b,c x y<0↔0<c y x)→(∀x∈a,∀y∈b,c x y=0↔c y x=0)→(wo c a b<0↔0<wo c b a)∧(wo c a b=0↔wo c b a=0)
 | [],[],_,_=>by simp[wo]
 | [],_::_,_,_=>by simp[wo]
 | _::_,[],_,_=>by simp[wo]
 | x::a,y::b,h1,h2=>by
   have ih:=VH (a:=a) (b:=b) (fun u hu v hv=>h1 u (by simp[hu]) v (by simp[hv])) (fun u hu v hv=>h2 u (by simp[hu]) v (by simp[hv]))
   have g1:=h1 x (by simp) y (by simp)
   have g2:=h2 x (by simp) y (by simp)
   simp only[wo]
   by_cases e:c x y=0
   ·rw[if_pos e,if_pos (g2.1 e)];exact ih
   ·rw[if_neg e,if_neg fun e'=>e (g2.2 e')];exact⟨g1,g2⟩
theorem VI {α:Type} {c:α→α→Int} {x y:α} (h1:c x y<0↔0<c y x) (h2:c y x<0↔0<c x y):c x y=0↔c y x=0:=by omega
theorem VJ:∀(n:Nat) (a b:Val),a.vb+b.vb≤n→(zO a b<0↔0<zO b a)
 | 0,a,b,h=>by have:=Zt a;omega
 | n+1,a,b,h=>by
   have ih:=VJ n
   have va:=j9 a
   have vb:=j9 b
   rw[Zy a b,Zy b a]
   by_cases hk:a.kind=b.kind
   case neg =>
    rw[if_neg hk,if_neg fun e=>hk e.symm]
    exact zeq _ _
   rw[if_pos hk,if_pos hk.symm,←hk]
   split
   ·exact zeq _ _
   split
   ·exact VG _ _
   split
   ·have hv:∀x∈a.items,∀y∈b.items,(zO x y<0↔0<zO y x)∧(zO y x<0↔0<zO x y):=fun x hx y hy=>by
     have:=wA hx
     have:=wA hy
     exact⟨ih x y (by omega),ih y x (by omega)⟩
    exact (VH (fun x hx y hy=>(hv x hx y hy).1) fun x hx y hy=>VI (hv x hx y hy).1 (hv x hx y hy).2).1
   split
   ·have hv:∀x∈a.fields,∀y∈b.fields,(wE x y<0↔0<wE y x)∧(wE y x<0↔0<wE x y):=fun x hx y hy=>by
     have:=yA hx
     have:=yA hy
     have h1:=ih x.2 y.2 (by omega)
     have h2:=ih y.2 x.2 (by omega)
     have b1:=VG x.1 y.1
     have b2:=VG y.1 x.1
     have b3:=VI b1 b2
     rw[KV,KV]
     by_cases e:wW x.1 y.1=0
     ·rw[if_pos e,if_pos (b3.1 e)];exact⟨h1,h2⟩
     ·rw[if_neg e,if_neg fun e'=>e (b3.2 e')];exact⟨b1,b2⟩
    exact (VH (fun x hx y hy=>(hv x hx y hy).1) fun x hx y hy=>VI (hv x hx y hy).1 (hv x hx y hy).2).1
   ·simp
theorem zgr (a b:Val):zO b a≤0↔0≤zO a b:=by
 have:=VJ _ a b (Nat.le_refl _)
 omega
def zgs (c:Cnd):Bool:=!((!(c.kind==4)&&(!c.attr.isEmpty||c.op != 0))||(c.kind != 5&&!c.name.isEmpty))&&!((!((c.kind==4)&&WP c.op)&&decide (0<c.vals.length))||(!((c.kind==4)&&kR c.op)&&!c.pat.isEmpty)) &&
 (if c.kind=3 then (c.args.length:Int)==1 else if c.kind=4∨c.kind=5 then ((c.args.length:Int)==0&&(!ww c.op||(c.vals.length:Int)==1)) else true)
theorem zmI (c:Cnd) (h:inB c.kind 1 5=true):zgs c=!kS c:=by
 have hk:c.kind=1∨c.kind=2∨c.kind=3∨c.kind=4∨c.kind=5:=by simp[inB] at h;omega
 have ha:(decide (0<c.args.length))=!((c.args.length:Int)==0):=by
  cases c.args with
  | nil=>rfl
  | cons x l=>simp;omega
 have hv1:((c.vals.length:Int) != 1)=!((c.vals.length:Int)==1):=rfl
 have ha1:((c.args.length:Int) != 1)=!((c.args.length:Int)==1):=rfl
 have ho1:(c.op != 0)=!(c.op==0):=rfl
 have hz:c.op=0→ww c.op=false:=fun e=>by rw[e];rfl
 unfold zgs kS w1F w2F w3F w4F w5F w6F w7F
 rw[ha,hv1,ha1,ho1]
 generalize c.attr.isEmpty=x1
 generalize c.name.isEmpty=x3
 generalize decide (0<c.vals.length)=x4
 generalize c.pat.isEmpty=x5
 generalize WP c.op=x6
 generalize kR c.op=x7
 generalize ((c.vals.length:Int)==1)=x9
 generalize ((c.args.length:Int)==0)=x10
 generalize ((c.args.length:Int)==1)=x11
 by_cases h0:c.op=0
 ·rw[hz h0,h0]
  rcases hk with k | k | k | k | k<;>rw[k]<;>cases x1<;>cases x3<;>cases x4<;>cases x5<;>cases x10<;>simp[inB]<;>cases x6<;>cases x7<;>rfl
 ·have h0':(c.op==0)=false:=by simpa using h0
  rw[h0']
  generalize ww c.op=x8
  rcases hk with k | k | k | k | k<;>rw[k]<;>cases x1<;>cases x3<;>cases x4<;>cases x5<;>cases x10<;>simp[inB]<;>cases x6<;>cases x7<;>cases x8<;>cases x9<;>rfl
theorem Z7:za prog 91 (zd false [] (FIb ww)) :=
 zL (fn:=f91) yl ⟨_,func91,by kernel_rfl,rfl,by kernel_rfl⟩ false [] _ fun args r h=>by
  obtain⟨a,rfl,rfl⟩:=YK h
  refine⟨by simp[f91],_,zb rfl ?_,zK _⟩
  by_cases h1:3≤a<;>simp[h1,ww,inB,qe,f91]
theorem Jl:za prog 93 (zd false [] (FIb kR)) :=
 zL (fn:=f93) yl ⟨_,func93,by kernel_rfl,rfl,by kernel_rfl⟩ false [] _ fun args r h=>by
  obtain⟨a,rfl,rfl⟩:=YK h
  refine⟨by simp[f93],_,zb rfl ?_,zK _⟩
  by_cases h1:7≤a<;>simp[h1,kR,inB,qe,f93]
noncomputable abbrev zwU:Ctx:=zC prog [(91,zd false [] (FIb ww))]
theorem zr5:AM.Good zwU (fun g=>([]:List Nat).contains g):=zk mixed ⟨Z7,by simp,trivial⟩
theorem zpy (a:Int):WP a=(a==2||ww a||a==12):=by
 unfold WP ww inB
 by_cases h:a=2
 ·subst h;decide
 ·have h2:(a==2)=false:=by simpa using h
  rw[h2]
  congr 1
  rw[Bool.eq_iff_iff]
  simp
  omega
theorem zer:za prog 123 (zd false [] (FIb WP)) :=
 zL (fn:=f123) zr5 ⟨_,func123,by kernel_rfl,rfl,by kernel_rfl⟩ false [] _ fun args r h=>by
  obtain⟨a,rfl,rfl⟩:=YK h
  refine⟨by simp[f123],_,zb rfl ?_,zK _⟩
  rw[zpy]
  cases h1:a==2<;>cases h2:ww a<;>simp[h1,h2,qe,f123]
noncomputable def FCL (n:Nat):List PV→Option PV:=zJ (α:=Cnd×Int) (fun a=>[.agg a.1.enc,int a.2]) (fun a=>a.1.cb≤lim∧a.1.cb≤n∧0≤a.2∧a.2+a.1.cb≤4194304) (fun a=>.tup [int (a.1.rp a.2).1,boo (a.1.rp a.2).2])
theorem zh1 (n:Nat) (c:Cnd) (l:Int) (hp:Hp) (nx:Nat) (h:c.cb≤lim∧c.cb≤n∧0≤l∧l+c.cb≤4194304):zd false [] (FCL n) [.agg c.enc,int l] hp nx=some (.tup [int (c.rp l).1,boo (c.rp l).2],hp,nx) :=
 zH (hp1:=hp) (show zj hp [.agg c.enc,int l]=some ([.agg c.enc,int l],hp) by simp only[zj,Vj];rfl) (zm (enc:=fun a:Cnd×Int=>[.agg a.1.enc,int a.2]) (a:=(c,l)) (fun x y e=>by
  obtain⟨x1,x2⟩:=x;obtain⟨y1,y2⟩:=y
  simp only[List.cons.injEq,and_true,PV.agg.injEq] at e
  rw[jE e.1,zP e.2]) h) (.inl rfl)
noncomputable abbrev zww (n:Nat):Ctx:=zC prog [(99,zd false [] (FCL n))]
def PaI (c:Cnd) (l:Int) (k:Nat) (v w:PV):Prop:=∃s:Int×Bool,v=int s.1∧w=boo s.2∧0≤s.1∧s.1+partsC (c.args.drop k)≤2097153∧c.rp l=rpC (c.args.drop k) l s
theorem zpz (s:Int×Bool):(s.2||decide (200<s.1))=XB s:=rfl
theorem zes (n:Nat) (c:Cnd) (l:Int) (h:c.cb≤lim∧c.cb≤n+1∧0≤l∧l+c.cb≤4194304):zg (zww n) f99 [.agg c.enc,int l]=some (.tup [int (c.rp l).1,boo (c.rp l).2]):=by
 have hcb:=xF c
 have hpe:=zqn c l
 have hl1:=wJ c.args
 have hpp:=YJ c.args fun x hx=>Vi x
 obtain⟨ha,hb,hl0,hlc⟩:=h
 unfold lim at ha
 refine zb rfl ?_
 simp
 refine zu (fun k σ hp nx=>σ 1=int l∧σ 15=.sl 7 (c.args.map Cnd.enc)∧σ 16=int c.args.length∧σ 17=int k∧PaI c l k (σ 6) (σ 7)) c.args.length
  ⟨by simp,by simp,by simp,by simp,(1,decide (20<l)),by simp,by simp,by simp,by rw[List.drop_zero];simp only;omega,by rw[hpe,List.drop_zero]⟩ ?_
 rintro k σ hp nx hk ⟨h1,h15,h16,h17,s,h6,h7,hs0,hs1,he⟩
 by_cases hlt:k<c.args.length
 ·have hm:=jl (List.getElem_mem hlt)
  have hw:IntKind.i64.wrap ((k:Int)+1)=(k:Int)+1:=zc (by omega) (by omega)
  have hwl:IntKind.i64.wrap (l+1)=l+1:=zc (by omega) (by omega)
  have hdr:partsC (c.args.drop k)=c.args[k].parts+partsC (c.args.drop (k+1)):=by rw[List.drop_eq_getElem_cons hlt,partsC]
  have hcd:=zpz s
  cases hc:XB s
  ·rw[hc] at hcd
   have hcd':=hcd
   rw[Bool.or_eq_false_iff] at hcd'
   obtain⟨d1,d2⟩:=hcd'
   have d2':¬200<s.1:=by simpa using d2
   obtain⟨g1,g2,_,_⟩:=zh0 c.args[k] (l+1)
   have hcall:=fun hp nx=>zh1 n c.args[k] (l+1) hp nx ⟨by unfold lim;omega,by omega,by omega,by omega⟩
   rw[zpx hlt] at he
   have hst:zjO s (c.args[k].rp (l+1))=(s.1+(c.args[k].rp (l+1)).1,s.2||(c.args[k].rp (l+1)).2):=by unfold zjO;rw[hc];rfl
   rw[hst] at he
   have hws:IntKind.i64.wrap (s.1+(c.args[k].rp (l+1)).1)=s.1+(c.args[k].rp (l+1)).1:=zc (by omega) (by omega)
   simp[h1,h15,h16,h17,h6,h7,d1,d2',hlt,hcall,hw,hwl,hws]
   exact⟨by omega,(s.1+(c.args[k].rp (l+1)).1,s.2||(c.args[k].rp (l+1)).2),rfl,by simp[d1],by simp only;omega,by simp only;omega,he⟩
  ·rw[hc] at hcd
   rw[JZ hc] at he
   cases hd:s.2
   ·rw[hd] at hcd
    simp at hcd
    simp[h1,h15,h16,h17,h6,h7,hd,hcd,hlt,he,qe,f99]
   ·simp[h1,h15,h16,h17,h6,h7,hd,hlt,he,qe,f99]
 ·obtain rfl:k=c.args.length:=by omega
  rw[List.drop_length] at he
  simp only[rpC] at he
  simp[h1,h15,h16,h17,h6,h7,he,qe,f99]
set_option maxRecDepth 100000 in
theorem zb5:∀n,za prog 99 (zd false [] (FCL n)):=by
 intro n
 induction n with
 | zero =>
   exact KQ ⟨_,func99,by kernel_rfl,by kernel_rfl⟩ fun args r h=>by
    obtain⟨⟨c,l⟩,_,⟨_,h2,_⟩,_⟩:=ze h
    have:=Vh c
    simp only at h2
    omega
 | succ n ih =>
   have hg:AM.Good (zww n) (fun g=>([]:List Nat).contains g):=zk mixed ⟨ih,by simp,trivial⟩
   exact zL (fn:=f99) hg ⟨_,func99,by kernel_rfl,rfl,by kernel_rfl⟩ false [] _ fun args r h=>by
    obtain⟨⟨c,l⟩,rfl,hc,rfl⟩:=ze h
    exact⟨Nat.le_trans (Nat.le_refl 2) (by decide),_,zes n c l hc,zK _⟩
noncomputable abbrev zwV:Ctx:=zC prog [(99,zd false [] (FCL lim))]
theorem zet:za prog 64 (GC fun c=>boo (XB (c.rp 1))) :=
 zL (fn:=f64) (zk (q:=[]) mixed ⟨zb5 lim,by simp,trivial⟩:AM.Good zwV _) ⟨_,func64,by kernel_rfl,rfl,by kernel_rfl⟩ false [] _ fun args r h=>by
  obtain⟨c,rfl,hc,rfl⟩:=xS h
  have hc1:=hc.1
  unfold lim at hc1
  have h1:=fun hp nx=>zh1 lim c 1 hp nx ⟨hc.1,hc.1,by omega,by omega⟩
  refine⟨Nat.le_trans (Nat.le_refl 1) (by decide),_,zb rfl ?_,zK _⟩
  unfold XB
  cases hd:(c.rp 1).2
  ·simp[h1,hd,qe,f64]
  ·simp[h1,hd,qe,f64]
def f1R (c:Cnd):Bool:=(!(c.kind==4)&&(!c.attr.isEmpty||c.op != 0))||(c.kind != 5&&!c.name.isEmpty)
def f2R (c:Cnd):Bool:=(!((c.kind==4)&&WP c.op)&&decide (0<c.vals.length))||(!((c.kind==4)&&kR c.op)&&!c.pat.isEmpty)
noncomputable abbrev zwx:Ctx:=zC prog [(123,zd false [] (FIb WP)),(93,zd false [] (FIb kR)),(91,zd false [] (FIb ww))]
theorem zr6:AM.Good zwx (fun g=>([]:List Nat).contains g):=zk mixed ⟨zer,by simp,Jl,by simp,Z7,by simp,trivial⟩
set_option maxHeartbeats 4000000 in
theorem zeu (c:Cnd) (h:c.cb≤lim):zg zwx f100 [.agg c.enc]=some (boo (zgs c)):=by
 refine zb rfl ?_
 have hf:zgs c=(!f1R c&&!f2R c&&(if c.kind=3 then (c.args.length:Int)==1 else if c.kind=4∨c.kind=5 then ((c.args.length:Int)==0&&(!ww c.op||(c.vals.length:Int)==1)) else true)):=rfl
 refine kL (fun st=>st.σ 1=.ref 0 0 0∧st.hp 0=some ⟨41,7,false,[c.enc]⟩) (by simp) ?_
 rintro⟨σ,hp,nx⟩ ⟨h1,b0⟩
 simp only at h1 b0
 refine kL (fun st=>st.σ 1=.ref 0 0 0∧st.hp 0=some ⟨41,7,false,[c.enc]⟩∧st.σ 3=boo (c.kind==4)) (by simp[h1,b0]) ?_
 clear h1 b0 σ hp nx
 rintro⟨σ,hp,nx⟩ ⟨h1,b0,h3⟩
 simp only at h1 b0 h3
 refine kL (fun st=>st.σ 1=.ref 0 0 0∧st.hp 0=some ⟨41,7,false,[c.enc]⟩∧st.σ 3=boo (c.kind==4)∧f1R c=false) ?_ ?_
 ·by_cases k4:c.kind=4
  ·have k5:(c.kind==5)=false:=by rw[k4];rfl
   have k4':(c.kind==4)=true:=by rw[k4];rfl
   cases hn:c.name.isEmpty
   ·have hv:f1R c=true:=by simp[f1R,k4,hn]
    rw[hv] at hf
    simp[h1,b0,h3,k4,hn,hf,qe,f100]
   ·have hv:f1R c=false:=by simp[f1R,k4,hn]
    simp[h1,b0,h3,k4,hn,hv]
  ·have k4':(c.kind==4)=false:=by simpa using k4
   cases hx:(!c.attr.isEmpty||c.op != 0)
   ·have hx':=hx
    rw[Bool.or_eq_false_iff] at hx'
    obtain⟨x1,x2⟩:=hx'
    simp at x1 x2
    by_cases k5:c.kind=5
    ·have hv:f1R c=false:=by simp[f1R,k5,hx]
     simp[h1,b0,h3,k5,x1,x2,hv]
    ·have k5':(c.kind==5)=false:=by simpa using k5
     have k5n:(c.kind != 5)=true:=by simp[bne,k5']
     cases hn:c.name.isEmpty
     ·have hv:f1R c=true:=by simp[f1R,k5,hn]
      rw[hv] at hf
      simp[h1,b0,h3,k4,k4',k5n,x1,x2,hn,hf,qe,f100]
     ·have hv:f1R c=false:=by simp[f1R,hx,hn]
      simp[h1,b0,h3,k4,k4',k5n,x1,x2,hn,hv]
   ·have hv:f1R c=true:=by simp[f1R,k4,hx]
    rw[hv] at hf
    cases ha:c.attr.isEmpty
    ·simp[h1,b0,h3,k4,k4',ha,hf,qe,f100]
    ·rw[ha] at hx
     have hx':(c.op==0)=false:=by simpa using hx
     have hx2:(c.op != 0)=true:=by simpa using hx
     simp[h1,b0,h3,k4,k4',ha,hx',hx2,hf,qe,f100]
 clear h1 b0 h3 σ hp nx
 rintro⟨σ,hp,nx⟩ ⟨h1,b0,h3,hv1⟩
 simp only at h1 b0 h3
 rw[hv1] at hf
 refine kL (fun st=>st.σ 1=.ref 0 0 0∧st.hp 0=some ⟨41,7,false,[c.enc]⟩∧f2R c=false) ?_ ?_
 ·have hkey:∀a b:Bool,((c.kind==4)&&WP c.op)=a→((c.kind==4)&&kR c.op)=b→f2R c=((!a&&decide (0<c.vals.length))||(!b&&!c.pat.isEmpty)):=fun a b e1 e2=>by unfold f2R;rw[e1,e2]
  by_cases k4:c.kind=4
  ·have k4':(c.kind==4)=true:=by rw[k4];rfl
   cases u1:WP c.op<;>cases u2:kR c.op<;>cases hp1:c.pat.isEmpty<;>by_cases hl:0<c.vals.length <;>
    (have hv:=hkey _ _ rfl rfl;rw[k4',u1,u2,hp1] at hv;simp[hl] at hv;simp[h1,b0,h3,k4,u1,u2,hp1,hl,hv,hf,qe,f100])
  ·have k4':(c.kind==4)=false:=by simpa using k4
   cases hp1:c.pat.isEmpty<;>by_cases hl:0<c.vals.length <;>
    (have hv:=hkey _ _ rfl rfl;rw[k4',hp1] at hv;simp[hl] at hv;simp[h1,b0,h3,k4,k4',hp1,hl,hv,hf,qe,f100])
 clear h1 b0 h3 σ hp nx
 rintro⟨σ,hp,nx⟩ ⟨h1,b0,hv2⟩
 simp only at h1 b0
 rw[hv2] at hf
 simp only[Bool.not_false,Bool.true_and] at hf
 by_cases k3:c.kind=3
 ·rw[if_pos k3] at hf
  simp[h1,b0,k3,hf,qe,f100]
 have k3':(c.kind==3)=false:=by simpa using k3
 rw[if_neg k3] at hf
 by_cases k45:c.kind=4∨c.kind=5
 ·rw[if_pos k45] at hf
  cases ha:((c.args.length:Int)==0)<;>cases ho:ww c.op<;>rcases k45 with k | k <;>
   simp[h1,b0,k,ha,ho,hf,qe,f100]
 ·rw[if_neg k45] at hf
  have k4':(c.kind==4)=false:=by simp;omega
  have k5':(c.kind==5)=false:=by simp;omega
  simp[h1,b0,k3',k4',k5',hf,qe,f100]
theorem zb6:za prog 100 (GC fun c=>boo (zgs c)) :=
 zL (fn:=f100) zr6 ⟨_,func100,by kernel_rfl,rfl,by kernel_rfl⟩ false [] _ fun args r h=>by
  obtain⟨c,rfl,hc,rfl⟩:=xS h
  exact⟨by simp[f100],_,zeu c hc.1,zK _⟩
noncomputable abbrev zt2:Ctx:=zC prog [(32,GV fun v=>int v.check),(91,zd false [] (FIb ww)),(117,zd false [] (FCV lim))]
theorem zpA:AM.Good zt2 (fun g=>[117].contains g):=zk mixed ⟨Y8,by simp,Z7,by simp,Qt lim,fun _=>zi _ _,trivial⟩
set_option maxHeartbeats 1000000 in
theorem YR (c:Cnd) (h:c.cb≤lim):zg zt2 f101 [.agg c.enc]=some (int (kM c.op c.vals)):=by
 have hcb:=xF c
 obtain⟨l,hl⟩:∃l,c.vals=l:=⟨_,rfl⟩
 obtain⟨op,ho⟩:∃op,c.op=op:=⟨_,rfl⟩
 have hlen:=qD l
 rw[hl] at hcb
 rw[hl,ho]
 unfold lim at h
 refine zb rfl ?_
 by_cases h100:(100:Int)<l.length
 ·have hv:kM op l=2:=by unfold kM;rw[if_pos h100]
  simp[hl,h100,hv,f101]
 have hv:kM op l=zcn op none l:=by unfold kM;rw[if_neg h100]
 rw[hv]
 simp[hl,h100]
 refine zu (fun k σ hp nx=>σ 1=.ref 0 0 0∧σ 11=.sl 5 (l.map Val.enc)∧σ 12=int l.length∧σ 13=int k∧1≤nx∧hp 0=some ⟨41,7,false,[c.enc]⟩∧zcn op none l=zcn op (xY l k) (l.drop k)) l.length
  ⟨by simp,by simp,by simp,by simp,by simp,by simp,by simp[xY]⟩ ?_
 rintro k σ hp nx hk ⟨h1,h11,h12,h13,hnx,b0,he⟩
 have n0:¬0=nx:=by omega
 by_cases hlt:k<l.length
 ·have hm:=wA (List.getElem_mem hlt)
  have hw:IntKind.i64.wrap ((k:Int)+1)=(k:Int)+1:=zc (by omega) (by omega)
  have hck:=fun hp nx=>vv (fun v=>int v.check) l[k] hp nx (by unfold lim;omega)
  rw[List.drop_eq_getElem_cons hlt] at he
  simp only[zcn] at he
  have hpn:xY l (k+1)=some l[k]:=by simp[xY,hlt]
  have hty0:zmh op l[k]=(l[k].kind==0||ww op&&l[k].kind != 2):=rfl
  by_cases hz:l[k].check=0
  case neg =>
   rw[if_neg hz] at he
   have hz2:(l[k].check != 0)=true:=by simpa using hz
   simp[hl,ho,h1,b0,n0,h11,h12,h13,hlt,hck,hz2,he,f101]
  rw[if_pos hz] at he
  cases hty:zmh op l[k]
  case true =>
   rw[hty,if_pos rfl] at he
   rw[hty] at hty0
   by_cases k0:l[k].kind=0
   ·simp[hl,ho,h1,b0,n0,h11,h12,h13,hlt,hck,hz,k0,he,f101]
   ·have k0':(l[k].kind==0)=false:=by simpa using k0
    rw[k0',Bool.false_or] at hty0
    have hty0':=hty0.symm
    rw[Bool.and_eq_true] at hty0'
    simp[hl,ho,h1,b0,n0,h11,h12,h13,hlt,hck,hz,k0',hty0'.1,hty0'.2,he,f101]
  rw[hty,if_neg (by simp)] at he
  rw[hty] at hty0
  have hty1:=hty0.symm
  rw[Bool.or_eq_false_iff] at hty1
  obtain⟨t1,t2⟩:=hty1
  have t3:ww op=false∨(l[k].kind != 2)=false:=by
   cases hi:ww op
   ·exact .inl rfl
   ·rw[hi,Bool.true_and] at t2;exact .inr t2
  by_cases k0:k=0
  ·subst k0
   have hp0:Ji (xY l 0) l[0]=false:=rfl
   rw[hp0,if_neg (by simp)] at he
   have hfin:zcn op none l=zcn op (xY l 1) l.tail:=by rw[he,show xY l 1=some l[0] from hpn];simp
   cases hi:ww op
   ·simp[hl,ho,h1,b0,n0,h11,h12,h13,hlt,hck,hz,t1,hi,hw]
    exact⟨by omega,hfin⟩
   ·have t4:(l[0].kind != 2)=false:=t3.resolve_left (by rw[hi];simp)
    simp[hl,ho,h1,b0,n0,h11,h12,h13,hlt,hck,hz,t1,hi,t4,hw]
    exact⟨by omega,hfin⟩
  ·obtain⟨j,rfl⟩:∃j,k=j+1:=⟨k - 1,by omega⟩
   have hj:j<l.length:=by omega
   have hmj:=wA (List.getElem_mem hj)
   have wj:IntKind.i64.wrap ((j:Int)+1 - 1)=(j:Int):=by rw[zc (by omega) (by omega)];omega
   have wj':IntKind.i64.wrap (j:Int)=(j:Int):=zc (by omega) (by omega)
   have j1:((j:Int)+1).toNat=j+1:=by omega
   have j2:0<(j:Int)+1:=by omega
   have j3:0≤(j:Int)+1:=by omega
   have j4:(j:Int)+1<l.length:=by omega
   have hcm:=fun hp nx=>vm lim l[j+1] l[j] hp nx ⟨by unfold lim;omega,by unfold lim;omega,by unfold lim;omega⟩
   have hpv:Ji (xY l (j+1)) l[j+1]=decide (zO l[j+1] l[j]≤0):=by
    simp only[xY,Ji]
    simp[hj,zgr]
   rw[hpv] at he
   by_cases hc:zO l[j+1] l[j]≤0
   ·have hc':decide (zO l[j+1] l[j]≤0)=true:=by simpa using hc
    rw[if_pos hc'] at he
    cases hi:ww op
    ·simp[hl,ho,h1,b0,n0,h11,h12,h13,hlt,hj,hck,hz,t1,hi,hw,wj,wj',j1,j2,j3,j4,hcm,hc,he,f101]
    ·have t4:(l[j+1].kind != 2)=false:=t3.resolve_left (by rw[hi];simp)
     simp[hl,ho,h1,b0,n0,h11,h12,h13,hlt,hj,hck,hz,t1,hi,t4,hw,wj,wj',j1,j2,j3,j4,hcm,hc,he,f101]
   ·have hc':¬decide (zO l[j+1] l[j]≤0)=true:=by simpa using hc
    rw[if_neg hc'] at he
    have wk:IntKind.i64.wrap ((j:Int)+1+1)=(j:Int)+1+1:=zc (by omega) (by omega)
    have hfin:zcn op none l=zcn op (xY l (j+1+1)) (l.drop (j+1+1)):=by rw[he,hpn]
    cases hi:ww op
    ·simp[hl,ho,h1,b0,n0,h11,h12,h13,hlt,hj,hck,hz,t1,hi,wk,wj,wj',j1,j2,j3,j4,hcm,hc]
     exact⟨by omega,hfin⟩
    ·have t4:(l[j+1].kind != 2)=false:=t3.resolve_left (by rw[hi];simp)
     simp[hl,ho,h1,b0,n0,h11,h12,h13,hlt,hj,hck,hz,t1,hi,t4,wk,wj,wj',j1,j2,j3,j4,hcm,hc]
     exact⟨by omega,hfin⟩
 ·obtain rfl:k=l.length:=by omega
  rw[List.drop_length] at he
  simp only[zcn] at he
  simp[h1,h11,h12,h13,he,f101]
theorem W0:za prog 101 (GC fun c=>int (kM c.op c.vals)) :=
 zL (fn:=f101) zpA ⟨_,func101,by kernel_rfl,rfl,by kernel_rfl⟩ false [] _ fun args r h=>by
  obtain⟨c,rfl,hc,rfl⟩:=xS h
  exact⟨Nat.le_trans (Nat.le_refl 1) (by decide),_,YR c hc.1,zK _⟩
noncomputable abbrev zt3:Ctx:=zC prog [(120,zd false [] (VU rrP))]
theorem zpB:AM.Good zt3 (fun g=>([]:List Nat).contains g):=zk mixed ⟨xR,by simp,trivial⟩
theorem W4 (c:Cnd) (h:c.cb≤lim):zg zt3 f102 [.agg c.enc]=some (int (JV c.op c.pat)):=by
 have hcb:=xF c
 obtain⟨s,hs⟩:∃s,c.pat=s:=⟨_,rfl⟩
 obtain⟨op,ho⟩:∃op,c.op=op:=⟨_,rfl⟩
 rw[hs] at hcb
 rw[hs,ho]
 unfold lim at h
 refine zb rfl ?_
 by_cases h500:(500:Int)<s.length
 ·have hv:JV op s=2:=by unfold JV;rw[if_pos h500]
  simp[hs,h500,hv,f102]
 have hrr:=fun hp nx=>wu rrP s hp nx (by unfold lim;omega)
 simp only[rrP] at hrr
 have hv:JV op s=if zU 32 126 s=true then (if op=11 then (yD s).2 else 0) else 1:=by unfold JV;rw[if_neg h500]
 simp[hs,h500]
 refine zu (fun k σ hp nx=>σ 1=.ref 0 0 0∧σ 12=int s.length∧σ 13=int k∧hp 0=some ⟨41,7,false,[c.enc]⟩∧zU 32 126 s=zU 32 126 (s.drop k)) s.length ⟨by simp,by simp,by simp,by simp,by simp⟩ ?_
 rintro k σ hp nx hk ⟨h1,h12,h13,b0,he⟩
 by_cases hlt:k<s.length
 ·have hw:IntKind.i64.wrap ((k:Int)+1)=(k:Int)+1:=zc (by omega) (by omega)
  rw[yX hlt] at he
  have ho':=Y5 32 126 s[k]
  simp only[Int.cast_ofNat_Int] at ho'
  cases hc:pr 32 126 s[k]
  ·have he:zU 32 126 s=false:=by rw[he,hc];rfl
   rw[he,if_neg (by simp)] at hv
   simp[h1,b0,hs,h12,h13,hlt,hv,ho',hc,f102]
  ·simp[h1,b0,hs,h12,h13,hlt,ho',hc,hw]
   exact⟨hlt,by rw[he,hc];rfl⟩
 ·obtain rfl:k=s.length:=by omega
  have he:zU 32 126 s=true:=by rw[he,List.drop_length];rfl
  rw[he,if_pos rfl] at hv
  by_cases h11:op=11
  ·rw[if_pos h11] at hv
   subst h11
   simp[h1,b0,hs,ho,h12,h13,hrr,hv,f102]
  ·rw[if_neg h11] at hv
   have h11':(op==11)=false:=by simpa using h11
   simp[h1,b0,hs,ho,h12,h13,h11',hv,f102]
theorem QT:za prog 102 (GC fun c=>int (JV c.op c.pat)) :=
 zL (fn:=f102) zpB ⟨_,func102,by kernel_rfl,rfl,by kernel_rfl⟩ false [] _ fun args r h=>by
  obtain⟨c,rfl,hc,rfl⟩:=xS h
  exact⟨Nat.le_trans (Nat.le_refl 1) (by decide),_,W4 c hc.1,zK _⟩
theorem zpC {c:Cnd} (h1:kS c=false) (h2:zrP c=false):JV c.op c.pat=0:=by
 have hz:∀op,op≠11→JV op []=0:=fun op h=>by simp[JV,h]
 have hw:w1F c=false∧w5F c=false:=by
  unfold kS at h1
  simp only[Bool.or_eq_false_iff] at h1
  exact⟨h1.1.1.1.1.1.1,h1.1.1.2⟩
 obtain⟨w1,w5⟩:=hw
 unfold zrP at h2
 cases hk:c.kind==4
 ·simp only[w1F,hk,Bool.not_false,Bool.true_and,Bool.or_eq_false_iff] at w1
  obtain⟨⟨⟨_,x2⟩,_⟩,x4⟩:=w1
  have e1:c.op=0:=by simpa using x2
  have e2:c.pat=[]:=by simpa using x4
  rw[e1,e2]
  exact hz 0 (by decide)
 ·rw[hk,Bool.true_and] at h2
  simp only[w5F,hk,h2,Bool.true_and,Bool.not_false] at w5
  have e2:c.pat=[]:=by simpa using w5
  rw[e2]
  refine hz _ fun e=>?_
  rw[e] at h2
  revert h2
  decide
noncomputable abbrev zt4 (n:Nat):Ctx:=zC prog [(65,zd false [] (FC (fun c=>int c.fault) n)),(100,GC fun c=>boo (zgs c)),(31,zd false [] (FS qi)),(101,GC fun c=>int (kM c.op c.vals)),(102,GC fun c=>int (JV c.op c.pat))]
set_option maxHeartbeats 2000000 in
theorem JN (n:Nat) (c:Cnd) (h:c.cb≤lim∧c.cb≤n+1):zg (zt4 n) f65 [.agg c.enc]=some (int c.fault):=by
 have hcb:=xF c
 have hl1:=wJ c.args
 obtain⟨ha,hb⟩:=h
 have hf:=WR c
 have hfo:=fun hp nx=>vE (fun c=>boo (zgs c)) c hp nx ha
 have hva:=fun hp nx=>vE (fun c=>int (kM c.op c.vals)) c hp nx ha
 have hpa:=fun hp nx=>vE (fun c=>int (JV c.op c.pat)) c hp nx ha
 have hna:c.attr.length≤lim:=by omega
 have hnn:c.name.length≤lim:=by omega
 unfold lim at ha
 refine zb rfl ?_
 refine kL (fun st=>st.σ 1=.ref 0 0 0∧st.hp 0=some ⟨41,7,false,[c.enc]⟩∧st.nx=1) (by simp) ?_
 rintro⟨σ,hp,nx⟩ ⟨h1,b0,hnx⟩
 simp only at h1 b0 hnx
 subst hnx
 have hk0:Xu c=!inB c.kind 1 5:=rfl
 refine kL (fun st=>st.σ 1=.ref 0 0 0∧st.hp 0=some ⟨41,7,false,[c.enc]⟩∧st.nx=1∧Xu c=false∧opC c=false∧kS c=false∧Xv c=false) ?_ ?_
 ·by_cases k1:c.kind<1
  ·have hv:Xu c=true:=by rw[hk0];simp[inB];omega
   simp[h1,b0,k1,hf,jm,hv,f65]
  by_cases k5:5<c.kind
  ·have hv:Xu c=true:=by rw[hk0];simp[inB];omega
   simp[h1,b0,k1,k5,hf,jm,hv,f65]
  have hv1:Xu c=false:=by rw[hk0];simp[inB];omega
  have hform:=zmI c (by simp[inB];omega)
  rw[hform] at hfo
  by_cases k4:c.kind=4
  ·have hop:opC c=!inB c.op 1 12:=by unfold opC;rw[k4];rfl
   have hnm:Xv c=!qi c.attr:=by unfold Xv;rw[k4];simp
   by_cases o1:c.op<1
   ·have hv:opC c=true:=by rw[hop];simp[inB];omega
    simp[h1,b0,k4,o1,hf,jm,hv,f65]
   by_cases o2:12<c.op
   ·have hv:opC c=true:=by rw[hop];simp[inB];omega
    simp[h1,b0,k4,o1,o2,hf,jm,hv,f65]
   have hv2:opC c=false:=by rw[hop];simp[inB];omega
   cases hff:kS c
   case true=>simp[h1,b0,k4,o1,o2,hfo,hff,hf,jm,hv1,hv2,f65]
   cases hn:qi c.attr
   ·rw[hn] at hnm
    simp[h1,b0,k4,o1,o2,hfo,hff,hna,hn,hf,jm,hv1,hv2,hnm,f65]
   ·rw[hn] at hnm
    simp[h1,b0,k4,o1,o2,hfo,hff,hna,hn,hv1,hv2,hnm]
  have k4':(c.kind==4)=false:=by simpa using k4
  have hv2:opC c=false:=by unfold opC;rw[k4'];rfl
  cases hff:kS c
  case true=>simp[h1,b0,k1,k5,k4',hfo,hff,hf,jm,hv1,hv2,f65]
  by_cases k55:c.kind=5
  ·have hnm:Xv c=!qi c.name:=by unfold Xv;rw[k55];simp
   cases hn:qi c.name
   ·rw[hn] at hnm
    simp[h1,b0,k55,hfo,hff,hnn,hn,hf,jm,hv1,hv2,hnm,f65]
   ·rw[hn] at hnm
    simp[h1,b0,k55,hfo,hff,hnn,hn,hv1,hv2,hnm]
  ·have k55':(c.kind==5)=false:=by simpa using k55
   have hnm:Xv c=false:=by unfold Xv;rw[k4',k55'];rfl
   simp[h1,b0,k1,k5,k4',k55',hfo,hff,hv1,hv2,hnm]
 clear h1 b0 σ hp hfo
 rintro⟨σ,hp,nx⟩ ⟨h1,b0,hnx,c1,c2,c3,c4⟩
 simp only at h1 b0 hnx
 subst hnx
 by_cases c5:kM c.op c.vals=0
 case neg =>
  have c5':(kM c.op c.vals != 0)=true:=by simpa using c5
  simp[h1,b0,hva,c5,c5',hf,jm,c1,c2,c3,c4,f65]
 by_cases c7:JV c.op c.pat=0
 case neg =>
  have c7':(JV c.op c.pat != 0)=true:=by simpa using c7
  have c6:zrP c=true:=by cases hx:zrP c;exact absurd (zpC c3 hx) c7;rfl
  simp[h1,b0,hva,hpa,c5,c7,c7',hf,jm,c1,c2,c3,c4,c6,f65]
 have hh:jm c=0:=by simp[jm,c1,c2,c3,c4,c5,c7]
 have hf':c.fault=faultC c.args:=by rw[hf,if_pos hh]
 simp[h1,b0,hva,hpa,c5,c7]
 refine zu (fun k σ hp nx=>σ 64=.sl 7 (c.args.map Cnd.enc)∧σ 65=int c.args.length∧σ 66=int k∧faultC c.args=faultC (c.args.drop k)) c.args.length ⟨by simp,by simp,by simp,by simp⟩ ?_
 clear h1 b0 σ hp
 rintro k σ hp nx hk ⟨h73,h74,h75,he⟩
 by_cases hlt:k<c.args.length
 ·have hm:=jl (List.getElem_mem hlt)
  have hw:IntKind.i64.wrap ((k:Int)+1)=(k:Int)+1:=zc (by omega) (by omega)
  have hcall:=fun hp nx=>vD (fun c=>int c.fault) n c.args[k] hp nx ⟨by unfold lim;omega,by omega⟩
  rw[QQ hlt] at he
  by_cases hz:c.args[k].fault=0
  ·rw[if_pos hz] at he
   simp[h73,h74,h75,hlt,hcall,hz,hw]
   exact⟨by omega,he⟩
  ·rw[if_neg hz] at he
   have hz2:(c.args[k].fault != 0)=true:=by simpa using hz
   simp[h73,h74,h75,hlt,hcall,hz2,hf',he,f65]
 ·obtain rfl:k=c.args.length:=by omega
  rw[List.drop_length] at he
  have he:faultC c.args=0:=by rw[he];rfl
  simp[h73,h74,h75,hf',he,f65]
set_option maxRecDepth 100000 in
theorem YS:∀n,za prog 65 (zd false [] (FC (fun c=>int c.fault) n)):=by
 intro n
 induction n with
 | zero=>exact zbP ⟨_,func65,by kernel_rfl,by kernel_rfl⟩
 | succ n ih =>
   have hg:AM.Good (zt4 n) (fun g=>([]:List Nat).contains g):=zk mixed ⟨ih,by simp,zb6,by simp,xx,by simp,W0,by simp,QT,by simp,trivial⟩
   exact zL (fn:=f65) hg ⟨_,func65,by kernel_rfl,rfl,by kernel_rfl⟩ false [] _ fun args r h=>by
    obtain⟨c,rfl,hc,rfl⟩:=xS h
    exact⟨Nat.le_trans (Nat.le_refl 1) (by decide),_,JN n c hc,zK _⟩
noncomputable abbrev zvr:Ctx:=zC prog [(65,GC fun c=>int c.fault),(64,GC fun c=>boo (XB (c.rp 1)))]
theorem zb7:za prog 44 (GC fun c=>int c.check) :=
 zL (fn:=f44) (zk (q:=[]) mixed ⟨YS lim,by simp,zet,by simp,trivial⟩:AM.Good zvr _) ⟨_,func44,by kernel_rfl,rfl,by kernel_rfl⟩ false [] _ fun args r h=>by
  obtain⟨c,rfl,hc,rfl⟩:=xS h
  have h1:=fun hp nx=>vE (fun c=>int c.fault) c hp nx hc.1
  have h2:=fun hp nx=>vE (fun c=>boo (XB (c.rp 1))) c hp nx hc.1
  have hl:=zmH c
  refine⟨Nat.le_trans (Nat.le_refl 1) (by decide),_,zb rfl ?_,zK _⟩
  unfold Cnd.check
  rw[←hl]
  cases hk:XB (c.rp 1)
  ·simp[h1,h2,hk,f44]
  ·simp[h1,h2,hk,f44]
end Go.Proofs.YtjcofiomfmebkaaGreatDoor
namespace Go.SpanLaw
abbrev Sp:=Int×Int
def zt5:Int→List Sp→Prop
 | _,[]=>True
 | lo,s::l=>lo<s.1∧s.1<s.2∧zt5 s.2 l
def mem (l:List Sp) (k:Int):Prop:=∃s∈l,s.1≤k∧k<s.2
theorem mem_cons (s:Sp) (l:List Sp) (k:Int):mem (s::l) k↔(s.1≤k∧k<s.2)∨mem l k:=by simp[mem]
theorem mem_append (l m:List Sp) (k:Int):mem (l++m) k↔mem l k∨mem m k:=by simp[mem,or_and_right,exists_or]
def skip (x:Int):List Sp→List Sp
 | []=>[]
 | b::l=>if b.2≤x then skip x l else b::l
def Below (hi:Int) (l:List Sp):Prop:=∀s∈l,s.2≤hi
structure Swept (op:Int→Prop) (at_:Int) (out:List Sp):Prop where
 canon:zt5 (-1) out
 below:Below at_ out
 holds:∀k,mem out k↔0≤k∧k<at_∧op k
end Go.SpanLaw
namespace Go.Proofs.YtjcofiomfmebkaaGreatDoor
open Go.Proofs.Tryz
open Go.RowKit Go.AM Go.SpanLaw
abbrev zwy (s:Sp):List PV:=[int s.1,int s.2]
def spR (s:Sp):Bool:=!inB s.1 0 99999||decide ((100000:Int)<s.2)
def spO (p:Option Int) (s:Sp):Bool:=decide (s.2≤s.1)||(match p with
 | none=>false
 | some q=>decide (s.1≤q))
def spF:Option Int→List Sp→Int
 | _,[]=>0
 | p,s::l=>if spR s then 1 else if spO p s then 8 else spF (some s.2) l
def zmJ (l:List Sp):Int:=if (100:Int)<l.length then 2 else spF none l
def spTup (r:List Sp×Int):PV:=.tup [.sl 2 (r.1.map zwy),int r.2]
end Go.Proofs.YtjcofiomfmebkaaGreatDoor
namespace Go.Proofs
open Go.Shelf
open Go.AM
end Go.Proofs
namespace Go.Proofs.YtjcofiomfmebkaaGreatDoor
open Go.Proofs.Tryz
open Go.RowKit Go.AM Go.SpanLaw
def Small (l:List Sp):Prop:=∀s∈l,0≤s.1∧s.1≤100000
end Go.Proofs.YtjcofiomfmebkaaGreatDoor
namespace Go.Proofs.YtjcofiomfmebkaaGreatDoor
open Go.Proofs.Tryz
open Go.RowKit Go.AM
abbrev Rg:=Int×Int×Int
abbrev zwW (r:Rg):List PV:=[int r.1,int r.2.1,int r.2.2]
def rgO (at_:Int) (r:Rg):Bool:=(r.1 != at_)||decide (r.2.1≤r.1)
def rgT (p:Option Int) (r:Rg):Bool:=match p with
 | none=>false
 | some q=>q==r.2.2
def rgF (n:Int):Int→Option Int→List Rg→Int
 | at_,_,[]=>if at_=100000 then 0 else 8
 | at_,p,r::l=>if inB r.2.2 0 (n - 1) then (if rgO at_ r then 8 else if (100000:Int)<r.2.1 then 1 else if rgT p r then 7 else rgF n r.2.1 (some r.2.2) l) else 1
def zmK (l:List Rg) (n:Int):Int:=if l.length=0 then 9 else if (200:Int)<l.length then 2 else rgF n 0 none l
end Go.Proofs.YtjcofiomfmebkaaGreatDoor
namespace Go.Proofs.YtjcofiomfmebkaaGreatDoor
open Go.Proofs.Tryz
open Go.RowKit Go.AM Go.SpanLaw
structure Lyr where
 name:List UInt8
 salt:List UInt8
 rest:Int
def Lyr.enc (x:Lyr):List PV:=[str x.name,str x.salt,int x.rest]
structure Hld where
 name:List UInt8
 salt:List UInt8
 buckets:Int
 layers:List (List UInt8)
def Hld.enc (x:Hld):List PV:=[str x.name,str x.salt,int x.buckets,.sl 1 (zD x.layers)]
structure Phs where
 at_:Int
 spans:List Sp
def Phs.enc (x:Phs):List PV:=[int x.at_,.sl 2 (x.spans.map zwy)]
structure Xp where
 name:List UInt8
 layer:List UInt8
 flag:List UInt8
 cond:Cnd
 salt:List UInt8
 arms:List Rg
 phases:List Phs
def Xp.enc (x:Xp):List PV:=[str x.name,str x.layer,str x.flag]++x.cond.enc++[str x.salt,.sl 3 (x.arms.map zwW),.sl 2 (x.phases.map Phs.enc)]
structure Bk where
 layers:List Lyr
 holds:List Hld
 exps:List Xp
def Bk.enc (b:Bk):List PV:=[.sl 3 (b.layers.map Lyr.enc),.sl 4 (b.holds.map Hld.enc),.sl 13 (b.exps.map Xp.enc)]
def zt6 {α:Type} (f:α→Nat) (l:List α):Nat:=(l.map f).sum
def Lyr.cb (x:Lyr):Nat:=1+x.name.length+x.salt.length
def Hld.cb (x:Hld):Nat:=1+x.name.length+x.salt.length+zt6 (fun s=>1+s.length) x.layers
def Phs.cb (x:Phs):Nat:=1+x.spans.length
def Xp.cb (x:Xp):Nat:=x.name.length+x.layer.length+x.flag.length+x.cond.cb+x.salt.length+x.arms.length+zt6 Phs.cb x.phases
def Bk.cb (b:Bk):Nat:=zt6 Lyr.cb b.layers+zt6 Hld.cb b.holds+zt6 Xp.cb b.exps
def zjP (name before:List UInt8):Int:=if qi name=true then (if leB name before=true then 8 else 0) else 5
def zvs (s:List UInt8):Bool:=inB s.length 1 40&&yJ s
def zt7 (n:Int):Bool:=inB n 0 4000000000
def zt8 (p:Option Int) (x:Int):Bool:=match p with
 | none=>false
 | some q=>decide (x≤q)
def phF:Option Int→List Sp→List Phs→Int
 | _,_,[]=>0
 | p,b,x::l=>if zt7 x.at_=true then (if zt8 p x.at_=true then 8 else if zmJ x.spans=0 then (if x.spans=b then 7 else phF (some x.at_) x.spans l) else zmJ x.spans) else 1
def zr7 (l:List Phs):Int:=if (50:Int)<l.length then 2 else phF none [] l
def zwz (l:List Phs) (i:Nat):Int:=match l[i+1]? with
 | some p=>p.at_
 | none=>1125899906842624
def zmL:List Sp→List Sp→Bool
 | a::l,b::m=>if a.2≤b.1 then zmL l (b::m) else if b.2≤a.1 then zmL (a::l) m else true
 | _,_=>false
termination_by a b=>a.length+b.length
def zvt (a b:List Phs) (i k:Nat) (p q:Phs) (rest:Int):Bool:=(decide (p.at_≤q.at_)&&decide (q.at_<zwz a i+rest))||(decide (q.at_≤p.at_)&&decide (p.at_<zwz b k+rest))
def zwX (a b:List Phs) (i k:Nat) (p q:Phs) (rest:Int):Bool:=zvt a b i k p q rest&&zmL p.spans q.spans
def zqo (a b:List Phs) (i:Nat) (p:Phs) (rest:Int):Nat→List Phs→Bool
 | _,[]=>false
 | k,q::l=>zwX a b i k p q rest||zqo a b i p rest (k+1) l
def zqp (a b:List Phs) (rest:Int):Nat→List Phs→Bool
 | _,[]=>false
 | i,p::l=>zqo a b i p rest 0 b||zqp a b rest (i+1) l
def zt9 (a b:Xp) (rest:Int):Bool:=zqp a.phases b.phases rest 0 a.phases
end Go.Proofs.YtjcofiomfmebkaaGreatDoor
namespace Go.AM
open Go.RowKit
section
variable (C:Ctx) (ρ:Operand→Option PV) (hp:Hp) (nx:Nat)
@[simp] theorem op_lookup (t:TypeId) (x i:Operand) (ok:Bool):zw C ρ hp nx (.lookup t x i ok)=(do let p ←ρ x;let q ←ρ i;let r ←xk C.P hp t p q ok;some (r,hp,nx)):=by
 simp only[zw];cases ρ x<;>cases ρ i<;>(try rfl);simp;cases xk C.P hp t _ _ ok<;>rfl
@[simp] theorem op_mapUpdate (t:TypeId) (m k x:Operand):zw C ρ hp nx (.mapUpdate t m k x)=(do let p ←ρ m;let q ←ρ k;let y ←ρ x;let h ←xl C.P hp t p q y;some (.tup [],h,nx)):=by
 simp only[zw];cases ρ m<;>cases ρ k<;>cases ρ x<;>(try rfl);simp;cases xl C.P hp t _ _ _<;>rfl
@[simp] theorem op_makeMap (t:TypeId):zw C ρ hp nx (.makeMap t none)=(do let _ ←zaC C.P t;some (.mp nx,upd hp nx (some ⟨t,0,false,[]⟩),nx+1)):=by
 simp only[zw];cases zaC C.P t<;>rfl
end
end Go.AM
namespace Go.Proofs.YtjcofiomfmebkaaGreatDoor
open Go.Proofs.Tryz
open Go.RowKit Go.AM Go.SpanLaw
@[simp] theorem get_ptrn (σ:Nat→PV):AM.get σ (.const (.pointer none))=some (.v (.pointer none)):=rfl
@[simp] theorem zeroV_bool:zaE prog 4=some (boo false):=by kernel_rfl
def zgt (l:List (List UInt8)) (s:List UInt8):Int:=if zvs s=true then (if s∈l then 7 else 0) else 3
def zb8 (l:List (List UInt8)) (s:List UInt8):List (List UInt8):=if zgt l s=0 then l++[s] else l
def QU:List UInt8→List (List UInt8)→List Lyr→Int×List (List UInt8)
 | _,l,[]=>(0,l)
 | before,l,x::xs=>if zjP x.name before=0 then (if zgt l x.salt=0 then (if inB x.rest 0 100000000=true then QU x.name (zb8 l x.salt) xs else (1,zb8 l x.salt)) else (zgt l x.salt,zb8 l x.salt)) else (zjP x.name before,l)
end Go.Proofs.YtjcofiomfmebkaaGreatDoor
