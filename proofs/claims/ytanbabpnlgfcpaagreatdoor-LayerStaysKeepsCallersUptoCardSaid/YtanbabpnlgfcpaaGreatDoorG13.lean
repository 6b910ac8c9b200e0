/-
ReadVersion.
readPartial.
Values as data: their cells, their bulk, how a reading gives one.
value.Check: what it computes.
Copies of slices.
The reference's Check of a value: what it computes, and that it is value.Check's.
The reference's Check of a value.
Comparisons: cmp.Compare at numbers and texts; a value compared with itself.
-/
import Derived.Test.YtanbabpnlgfcpaaGreatDoorG12
import Derived.Test.YtanbabpnlgfcpaaGreatDoorG10
import Derived.Lib.Bytealg
set_option maxRecDepth 8000
namespace Go.Proofs.YtanbabpnlgfcpaaGreatDoor
open Go.Proofs.Tryz
open Go.RowKit Go.AM
theorem splitK_mem (sep:List UInt8):∀(k:Nat) (s p:List UInt8),p∈Lib.splitK sep 0 k s→p.length≤s.length
 | 0,s,p,h=>by simp[Lib.splitK] at h;rw[h];exact Nat.le_refl _
 | k+1,s,p,h=>by
   unfold Lib.splitK at h
   split at h
   ·simp at h;rw[h];exact Nat.le_refl _
   ·rcases List.mem_cons.1 h with rfl | h
    ·simp;omega
    ·have:=splitK_mem sep k _ p h
     simp at this;omega
theorem splitK_len (sep:List UInt8):∀(k:Nat) (s:List UInt8),(Lib.splitK sep 0 k s).length≤k+1
 | 0,s=>by simp[Lib.splitK]
 | k+1,s=>by
   unfold Lib.splitK
   split
   ·simp
   ·have:=splitK_len sep k (s.drop ((Lib.index s sep).toNat+sep.length))
    simp;omega
theorem jc {s sep p:List UInt8} (h:p∈zO s sep):p.length≤s.length:=splitK_mem _ _ _ _ h
theorem jR {s sep:List UInt8} (h:sep≠[]):(zO s sep).length≤s.length+1:=by
 have h1:=splitK_len sep (Lib.count s sep) s
 have h2:=count_len (s:=s) h
 exact Nat.le_trans h1 (by omega)
theorem cut_le (s sep:List UInt8):(Lib.cut s sep).1.length≤s.length∧(Lib.cut s sep).2.1.length≤s.length:=by
 unfold Lib.cut
 split
 ·simp;omega
 ·simp
noncomputable def FSP1 (f:List UInt8→PV):List PV→Option PV:=zG (α:=List UInt8) (fun l=>[str l]) (fun l=>l.length+1≤lim) f
theorem jS (f:List UInt8→PV) (l:List UInt8) (hp:Hp) (nx:Nat) (h:l.length+1≤lim):zc false [] (FSP1 f) [str l] hp nx=some (f l,hp,nx) :=
 zt rfl (zn (enc:=fun l:List UInt8=>[str l]) (a:=l) (fun a b e=>by simp only[List.cons.injEq,and_true] at e;exact zM e) h) (.inr (by simp))
def ver0:Ver:=⟨0,0,0,[]⟩
def rdPre (t:List UInt8):List (List UInt8):=if (Lib.cut t [45]).2.2 then zO (Lib.cut t [45]).2.1 [46] else []
def rdV (t:List UInt8):Option Ver:=match zO (Lib.cut t [45]).1 [46] with
 | [p0,p1,p2]=>match vnum p0,vnum p1,vnum p2 with
   | some a,some b,some c=>if chkV ⟨a,b,c,rdPre t⟩=0 then some ⟨a,b,c,rdPre t⟩ else none
   | _,_,_=>none
 | _=>none
def rdP (t:List UInt8):PV:=match rdV t with
 | some v=>.tup [.agg v.enc,int 0]
 | none=>.tup [.agg ver0.enc,int 10]
noncomputable abbrev Crv:Ctx:=zA prog [(139,zc false [] (FTT cutP fun _ _=>True)),(140,wR [] FSp),(141,zc false [] (FSP vnumP)),(142,zR [.g vpat] (FVr fun v=>int (chkV v)))]
theorem goodrv:AM.Good Crv (fun g=>([]:List Nat).contains g):=zk mixed ⟨sCut_sound,by simp,xo,by simp,jp,by simp,ya,by simp,trivial⟩
theorem xP (l:List UInt8) (hp:Hp) (nx:Nat) (h:l.length≤lim):zc false [] (FSP vnumP) [str l] hp nx=some (.tup [int ((vnum l).getD 0),boo (vnum l).isSome],hp,nx):=FSP_call vnumP l hp nx h rfl
theorem three {α:Type} {l:List α} (h:l.length=3):∃a b c,l=[a,b,c]:=by
 match l,h with
 | [a,b,c],_=>exact⟨a,b,c,rfl⟩
theorem readVersion_eval (t:List UInt8) (ht:t.length+1≤lim):∃r0,zi Crv f121 [str t]=some r0∧Stands r0 (rdP t):=by
 refine wC (sh:=.g vpat) rfl ?_
 have hcl:=cut_le t [45]
 have hcut:=fun hp nx=>cut_call t [45] hp nx (by omega) (by decide)
 have hsp:=fun hp nx=>vE (Lib.cut t [45]).1 [46] hp nx (by omega) (by decide) (by decide)
 have hsp2:=fun hp nx=>vE (Lib.cut t [45]).2.1 [46] hp nx (by omega) (by decide) (by decide)
 have hpl:∀p∈zO (Lib.cut t [45]).1 [46],p.length≤lim:=fun p hp=>by have:=jc hp;omega
 have hql:∀p∈zO (Lib.cut t [45]).2.1 [46],p.length≤lim:=fun p hp=>by have:=jc hp;omega
 have hqn:(zO (Lib.cut t [45]).2.1 [46]).length≤lim:=by have:=jR (s:=(Lib.cut t [45]).2.1) (sep:=[46]) (by simp);omega
 by_cases h3:(zO (Lib.cut t [45]).1 [46]).length=3
 ·obtain⟨p0,p1,p2,hps⟩:=three h3
  rw[hps] at hsp hpl
  have hn0:=fun hp nx=>xP p0 hp nx (hpl p0 (by simp))
  have hn1:=fun hp nx=>xP p1 hp nx (hpl p1 (by simp))
  have hn2:=fun hp nx=>xP p2 hp nx (hpl p2 (by simp))
  simp[hcut,hsp]
  rw[zq]
  cases e0:vnum p0 with
  | none =>
    rw[e0] at hn0
    simp[hn0,rdP,rdV,hps,e0,zK,z8,z7,ver0,Ver.enc,f121]
  | some a =>
    rw[e0] at hn0
    simp[hn0]
    rw[zq]
    cases e1:vnum p1 with
    | none =>
      rw[e1] at hn1
      simp[hn1,rdP,rdV,hps,e0,e1,zK,z8,z7,ver0,Ver.enc,f121]
    | some b =>
      rw[e1] at hn1
      simp[hn1]
      rw[zq]
      cases e2:vnum p2 with
      | none =>
        rw[e2] at hn2
        simp[hn2,rdP,rdV,hps,e0,e1,e2,zK,z8,z7,ver0,Ver.enc,f121]
      | some c =>
        rw[e2] at hn2
        simp[hn2]
        rw[zq]
        simp[zK,z8]
        have hv1:(⟨a,b,c,[]⟩:Ver).small:=⟨by simp,by simp⟩
        have hv2:(⟨a,b,c,zO (Lib.cut t [45]).2.1 [46]⟩:Ver).small:=⟨hqn,hql⟩
        cases eh:(Lib.cut t [45]).2.2
        ·have hck:=fun hp nx=>FVr_call (fun v=>int (chkV v)) ⟨a,b,c,[]⟩ (.agg [int a,int b,int c,.nil]) hp hp nx _ rfl rfl hv1 rfl
         by_cases hz:chkV ⟨a,b,c,[]⟩=0
         ·simp[hck,hz,rdP,rdV,rdPre,hps,e0,e1,e2,eh,z7,Ver.enc,f121]
         ·have hz':(chkV ⟨a,b,c,[]⟩ != 0)=true:=by simpa using hz
          simp[hck,hz,hz',rdP,rdV,rdPre,hps,e0,e1,e2,eh,zK,z8,z7,ver0,Ver.enc,f121]
        ·have hck:∀(hp:Hp) (nx id n:Nat),hp id=some ⟨9,1,true,encT (zO (Lib.cut t [45]).2.1 [46])⟩→n=(zO (Lib.cut t [45]).2.1 [46]).length→zR [.g vpat] (FVr fun v=>int (chkV v)) [.agg [int a,int b,int c,.own id 0 n]] hp nx=some (int (chkV ⟨a,b,c,zO (Lib.cut t [45]).2.1 [46]⟩),hp,nx):=by
          intro hp nx id n hh hn
          subst hn
          exact FVr_call (fun v=>int (chkV v)) ⟨a,b,c,zO (Lib.cut t [45]).2.1 [46]⟩ _ hp (upd hp id none) nx (.agg [int a,int b,int c,.sl 1 (encT (zO (Lib.cut t [45]).2.1 [46]))]) (by simp[hh]) rfl hv2 rfl
         by_cases hz:chkV ⟨a,b,c,zO (Lib.cut t [45]).2.1 [46]⟩=0
         ·simp[hsp2,hck,hz,rdP,rdV,rdPre,hps,e0,e1,e2,eh,z7,Ver.enc,f121]
         ·have hz':(chkV ⟨a,b,c,zO (Lib.cut t [45]).2.1 [46]⟩ != 0)=true:=by simpa using hz
          simp[hsp2,hck,hz,hz',rdP,rdV,rdPre,hps,e0,e1,e2,eh,zK,z8,z7,ver0,Ver.enc,f121]
 ·have h3':(((zO (Lib.cut t [45]).1 [46]).length:Int) != 3)=true:=by simp;omega
  have hr:rdV t=none:=by
   unfold rdV
   split
   ·rename_i e;rw[e] at h3;simp at h3
   ·rfl
  simp[hcut,hsp,h3',h3,rdP,hr,zK,z8,z7,ver0,Ver.enc,f121]
theorem jT:za prog 121 (zc false [] (FSP1 rdP)) :=
 xN (fn:=f121) goodrv ⟨_,func121,by kernel_rfl,rfl,by kernel_rfl⟩ false [] _ fun args r h w S vs hz=>by
  obtain⟨l,rfl,hp,rfl⟩:=zf h
  obtain⟨r0,h1,h2⟩:=readVersion_eval l hp
  exact⟨_,r0,hz,by simp[f121],h1,h2⟩
structure Part where
 n0:Int
 n1:Int
 n2:Int
 has:Int
 pre:List (List UInt8)
def Part.enc (p:Part):List PV:=[int p.n0,int p.n1,int p.n2,int p.has,.sl 1 (encT p.pre)]
abbrev ppat:List (Option Nat):=[none,none,none,none,some 1]
def part0:Part:=⟨0,0,0,0,[]⟩
def Part.put (p:Part) (i:Nat) (n:Int):Part:=match i with
 | 0=>{ p with n0:=n,has:=p.has+1 }
 | 1=>{ p with n1:=n,has:=p.has+1 }
 | _=>{ p with n2:=n,has:=p.has+1 }
def qU (p:Part) (i:Nat) (t:List UInt8):Option Part:=if (vnum t).isSome=true∧p.has=i then some (p.put i ((vnum t).getD 0)) else if jQ t=true∧i≠0 then some p else none
def yb:Part→Nat→List (List UInt8)→Option Part
 | p,_,[]=>some p
 | p,i,t::l=>match qU p i t with
   | some q=>yb q (i+1) l
   | none=>none
def zw (t:List UInt8):Part×Bool:=if Lib.contains t [45]=true then (match rdV t with
    | some v=>(⟨v.a,v.b,v.c,3,v.pre⟩,true)
    | none=>(⟨0,0,0,3,[]⟩,false))
 else if 3<(zO t [46]).length then (part0,false) else match yb part0 0 (zO t [46]) with
  | some p=>(p,true)
  | none=>(part0,false)
def qV (t:List UInt8):PV:=.tup [.agg (zw t).1.enc,boo (zw t).2]
noncomputable abbrev Crpv:Ctx:=zA prog [(119,zc false [] (FTT hasP fun _ _=>True)),(121,zc false [] (FSP1 rdP)),(140,wR [] FSp),(141,zc false [] (FSP vnumP)),(179,zc false [] (FS jQ))]
theorem goodrp:AM.Good Crpv (fun g=>[179].contains g):=zk mixed ⟨xa,by simp,jT,by simp,xo,by simp,jp,by simp,open_sound,fun _=>zg _ _,trivial⟩
theorem has_call (a b:List UInt8) (hp:Hp) (nx:Nat) (h:a.length≤lim) (h2:b.length≤lim):zc false [] (FTT hasP fun _ _=>True) [str a,str b] hp nx=some (boo (Lib.contains a b),hp,nx):=ww _ _ a b hp nx h h2 trivial rfl
def Part.raw (p:Part):List PV:=[int p.n0,int p.n1,int p.n2,int p.has,.nil]
theorem foldPart_drop {p:Part} {k:Nat} {l:List (List UInt8)} (h:k<l.length):yb p k (l.drop k)=match qU p k l[k] with
  | some q=>yb q (k+1) (l.drop (k+1))
  | none=>none:=by
 rw[List.drop_eq_getElem_cons h]
 rfl
theorem readPartial_eval (t:List UInt8) (ht:t.length+1≤lim):∃r0,zi Crpv f177 [str t]=some r0∧Stands r0 (qV t):=by
 refine wC (sh:=.g ppat) rfl ?_
 have hcn:=fun hp nx=>has_call t [45] hp nx (by omega) (by decide)
 cases hc:Lib.contains t [45]
 ·have hsp:=fun hp nx=>vE t [46] hp nx (by omega) (by decide) (by decide)
  have hpl:∀p∈zO t [46],p.length≤lim:=fun p hp=>by have:=jc hp;omega
  by_cases h3:3<(zO t [46]).length
  ·have h3':(3:Int)<(zO t [46]).length:=by omega
   simp[hcn,hc,hsp,h3,h3',qV,zw,zK,z8,z7,part0,Part.enc,f177]
  have h3':¬(3:Int)<(zO t [46]).length:=by omega
  simp[hcn,hc,hsp,h3,h3']
  obtain⟨l,hl⟩:∃l,zO t [46]=l:=⟨_,rfl⟩
  rw[hl] at hpl h3
  have hrd:zw t=match yb part0 0 l with
   | some p=>(p,true)
   | none=>(part0,false):=by
   unfold zw
   rw[if_neg (by rw[hc];simp),hl,if_neg h3]
   try rfl
  simp only[hl]
  refine zC (fun k σ hp nx=>∃p:Part,p.pre=[]∧σ 2=.ref 0 0 0∧σ 7=.ref 2 0 0∧σ 37=.own 1 0 l.length∧σ 38=int l.length∧σ 39=int k∧p.has≤k∧0≤p.has ∧
    hp 0=some ⟨206,5,false,[part0.raw]⟩∧hp 1=some ⟨9,1,true,encT l⟩∧hp 2=some ⟨206,5,false,[p.raw]⟩∧yb part0 0 l=yb p k (l.drop k)) l.length
   ⟨part0,rfl,by simp,by simp,by simp,by simp,by simp,by simp[part0],by simp[part0],by simp[part0,Part.raw],by simp,by simp[part0,Part.raw],by simp⟩ ?_
  rintro k σ hp nx hk ⟨p,hpp,h2,h7,h37,h38,h39,hh,hh0,b0,b1,b2,he⟩
  by_cases hlt:k<l.length
  ·have hn:=fun hp nx=>xP l[k] hp nx (hpl _ (List.getElem_mem hlt))
   have ho:=fun hp nx=>yM jQ l[k] hp nx (hpl _ (List.getElem_mem hlt))
   have hw:IntKind.i64.wrap ((k:Int)+1)=(k:Int)+1:=zd (by omega) (by omega)
   have hw2:IntKind.i64.wrap (p.has+1)=p.has+1:=zd (by omega) (by omega)
   rw[foldPart_drop hlt] at he
   have hk3:k=0∨k=1∨k=2:=by omega
   obtain⟨n0,n1,n2,has,pre⟩:=p
   simp only at hpp hh hh0 hw2
   subst hpp
   cases hv:(vnum l[k]).isSome
   ·cases hop:jQ l[k]
    ·have hs:qU ⟨n0,n1,n2,has,[]⟩ k l[k]=none:=by simp[qU,hv,hop]
     rw[hs] at he
     rw[he] at hrd
     simp[h2,h7,h37,h38,h39,b0,b1,b2,hlt,hn,ho,hv,hop,qV,hrd,zK,z8,z7,part0,Part.raw,Part.enc,f177]
    ·by_cases hk0:k=0
     ·subst hk0
      have hs:qU ⟨n0,n1,n2,has,[]⟩ 0 l[0]=none:=by simp[qU,hv]
      rw[hs] at he
      rw[he] at hrd
      simp[h2,h7,h37,h38,h39,b0,b1,b2,hlt,hn,ho,hv,hop,qV,hrd,zK,z8,z7,part0,Part.raw,Part.enc,f177]
     ·have hs:qU ⟨n0,n1,n2,has,[]⟩ k l[k]=some ⟨n0,n1,n2,has,[]⟩:=by simp[qU,hv,hop,hk0]
      have hk0':((k:Int)==0)=false:=by simpa using hk0
      rw[hs] at he
      simp[h2,h7,h37,h38,h39,b0,b1,b2,hlt,hn,ho,hv,hop,hw,hk0',hk0]
      exact⟨hlt,⟨n0,n1,n2,has,[]⟩,rfl,Int.le_trans hh (by omega),hh0,rfl,he⟩
   ·by_cases hhk:has=k
    ·have hs:qU ⟨n0,n1,n2,has,[]⟩ k l[k]=some ((⟨n0,n1,n2,has,[]⟩:Part).put k ((vnum l[k]).getD 0)):=by simp[qU,hv,hhk]
     rw[hs] at he
     rcases hk3 with rfl | rfl | rfl
     ·obtain rfl:has=0:=by simpa using hhk
      have hlt':(0:Int)<(l.length:Int):=by omega
      simp[h2,h7,h37,h38,h39,b0,b1,b2,hlt,hlt',hn,ho,hv,hw,Part.raw]
      refine⟨hlt,_,?_,?_,?_,?_,(by simpa using he)⟩<;>simp[Part.put]
     ·obtain rfl:has=1:=by simpa using hhk
      have hlt':(1:Int)<(l.length:Int):=by omega
      simp[h2,h7,h37,h38,h39,b0,b1,b2,hlt,hlt',hn,ho,hv,hw,Part.raw]
      refine⟨hlt,_,?_,?_,?_,?_,(by simpa using he)⟩<;>simp[Part.put]
     ·obtain rfl:has=2:=by simpa using hhk
      have hlt':(2:Int)<(l.length:Int):=by omega
      simp[h2,h7,h37,h38,h39,b0,b1,b2,hlt,hlt',hn,ho,hv,hw,Part.raw]
      refine⟨hlt,_,?_,?_,?_,?_,(by simpa using he)⟩<;>simp[Part.put]
    ·cases hop:jQ l[k]
     ·have hs:qU ⟨n0,n1,n2,has,[]⟩ k l[k]=none:=by simp[qU,hv,hop,hhk]
      have hhk':(has==(k:Int))=false:=by simpa using hhk
      rw[hs] at he
      rw[he] at hrd
      simp[h2,h7,h37,h38,h39,b0,b1,b2,hlt,hn,ho,hv,hop,hhk',qV,hrd,zK,z8,z7,part0,Part.raw,Part.enc,f177]
     ·by_cases hk0:k=0
      ·subst hk0
       have hs:qU ⟨n0,n1,n2,has,[]⟩ 0 l[0]=none:=by simp[qU,hhk];intro _;exact hhk
       have hhk':(has==0)=false:=by simpa using hhk
       rw[hs] at he
       rw[he] at hrd
       simp[h2,h7,h37,h38,h39,b0,b1,b2,hlt,hn,ho,hv,hop,hhk',qV,hrd,zK,z8,z7,part0,Part.raw,Part.enc,f177]
      ·have hs:qU ⟨n0,n1,n2,has,[]⟩ k l[k]=some ⟨n0,n1,n2,has,[]⟩:=by simp[qU,hv,hop,hk0,hhk]
       have hk0':((k:Int)==0)=false:=by simpa using hk0
       have hhk':(has==(k:Int))=false:=by simpa using hhk
       rw[hs] at he
       simp[h2,h7,h37,h38,h39,b0,b1,b2,hlt,hn,ho,hv,hop,hw,hk0',hk0,hhk',Part.raw]
       exact⟨hlt,⟨n0,n1,n2,has,[]⟩,rfl,Int.le_trans hh (by omega),hh0,⟨rfl,rfl,rfl,rfl⟩,he⟩
  ·obtain rfl:k=l.length:=by omega
   rw[List.drop_length] at he
   simp only[yb] at he
   rw[he] at hrd
   simp[h2,h7,h37,h38,h39,b0,b1,b2,qV,hrd,hpp,z7,Part.raw,Part.enc,f177]
 ·have hrv:=fun hp nx=>jS rdP t hp nx ht
  cases hr:rdV t with
  | none=>simp[hcn,hc,hrv,rdP,hr,qV,zw,zK,z8,z7,ver0,Ver.enc,Part.enc,f177]
  | some v=>simp[hcn,hc,hrv,rdP,hr,qV,zw,zK,z8,z7,Ver.enc,Part.enc,f177]
theorem readPartial_sound:za prog 177 (zc false [] (FSP1 qV)) :=
 xN (fn:=f177) goodrp ⟨_,func177,by kernel_rfl,rfl,by kernel_rfl⟩ false [] _ fun args r h w S vs hz=>by
  obtain⟨l,rfl,hp,rfl⟩:=zf h
  obtain⟨r0,h1,h2⟩:=readPartial_eval l hp
  exact⟨_,r0,hz,by simp[f177],h1,h2⟩
inductive Val where
 | mk (kind n:Int) (s:List UInt8) (items:List Val) (fields:List (List UInt8×Val))
namespace Val
def kind:Val→Int | .mk k _ _ _ _=>k
def n:Val→Int | .mk _ n _ _ _=>n
def s:Val→List UInt8 | .mk _ _ s _ _=>s
def items:Val→List Val | .mk _ _ _ l _=>l
def fields:Val→List (List UInt8×Val) | .mk _ _ _ _ l=>l
end Val
theorem Val.ind {P:Val→Prop} (h:∀k n s is fs,(∀x∈is,P x)→(∀f∈fs,P f.2)→P (.mk k n s is fs)) (v:Val):P v :=
 Val.rec (motive_1:=P) (motive_2:=fun l=>∀x∈l,P x) (motive_3:=fun l=>∀f∈l,P f.2) (motive_4:=fun f=>P f.2) (fun k n s is fs h1 h2=>h k n s is fs h1 h2)
  (by simp) (fun x l hx hl y hy=>by rcases List.mem_cons.1 hy with rfl | hy;(first | exact hx | exact hl y hy);(first | exact hx | exact hl y hy)) (by simp) (fun x l hx hl y hy=>by rcases List.mem_cons.1 hy with rfl | hy;(first | exact hx | exact hl y hy);(first | exact hx | exact hl y hy)) (fun a v hv=>hv) v
mutual
def Val.enc:Val→List PV
 | .mk k n s is fs=>[int k,int n,str s,.sl 5 (encVs is),.sl 6 (encFs fs)]
def encVs:List Val→List (List PV)
 | []=>[]
 | v::l=>v.enc::encVs l
def encFs:List (List UInt8×Val)→List (List PV)
 | []=>[]
 | (a,v)::l=>(str a::v.enc)::encFs l
end
abbrev encF (f:List UInt8×Val):List PV:=str f.1::f.2.enc
theorem encVs_map:∀l:List Val,encVs l=l.map Val.enc
 | []=>rfl
 | v::l=>by simp[encVs,encVs_map l]
theorem encFs_map:∀l:List (List UInt8×Val),encFs l=l.map encF
 | []=>rfl
 | (a,v)::l=>by simp[encFs,encFs_map l]
theorem yQ (v:Val):v.enc=[int v.kind,int v.n,str v.s,.sl 5 (v.items.map Val.enc),.sl 6 (v.fields.map encF)]:=by
 cases v with
 | mk k n s is fs=>simp[Val.enc,encVs_map,encFs_map,Val.kind,Val.n,Val.s,Val.items,Val.fields]
@[simp] theorem enc_length (v:Val):v.enc.length=5:=by rw[yQ];rfl
@[simp] theorem enc_cells (v:Val):v.enc.all PV.isCell=true:=by rw[yQ];rfl
@[simp] theorem enc_cells' (v:Val):(∀x,x∈v.enc→PV.isCell x=true)=True:=by
 have:=enc_cells v
 rw[List.all_eq_true] at this
 exact eq_true this
@[simp] theorem enc_take (v:Val):v.enc.take 5=v.enc:=List.take_of_length_le (by simp)
@[simp] theorem enc_0 (v:Val) (h:0<v.enc.length):v.enc[0]=int v.kind:=by simp[yQ v]
@[simp] theorem enc_1 (v:Val) (h:1<v.enc.length):v.enc[1]=int v.n:=by simp[yQ v]
@[simp] theorem enc_2 (v:Val) (h:2<v.enc.length):v.enc[2]=str v.s:=by simp[yQ v]
@[simp] theorem enc_3 (v:Val) (h:3<v.enc.length):v.enc[3]=.sl 5 (v.items.map Val.enc):=by simp[yQ v]
@[simp] theorem enc_4 (v:Val) (h:4<v.enc.length):v.enc[4]=.sl 6 (v.fields.map encF):=by simp[yQ v]
theorem vG {α β:Type} {f:α→β}:∀{xs ys:List α},(∀x∈xs,∀y,f x=f y→x=y)→xs.map f=ys.map f→xs=ys
 | [],[],_,_=>rfl
 | [],y::ys,_,e=>by simp at e
 | x::xs,[],_,e=>by simp at e
 | x::xs,y::ys,h,e=>by
   simp only[List.map_cons,List.cons.injEq] at e
   rw[h x (by simp) y e.1,vG (fun z hz=>h z (by simp[hz])) e.2]
theorem km:∀{a b:Val},a.enc=b.enc→a=b:=by
 intro a
 induction a using Val.ind with
 | h k n s is fs h1 h2 =>
   intro b e
   cases b with
   | mk k' n' s' is' fs' =>
     simp only[yQ,Val.kind,Val.n,Val.s,Val.items,Val.fields,List.cons.injEq,and_true] at e
     obtain⟨e1,e2,e3,e4,e5⟩:=e
     obtain rfl:=zD e1
     obtain rfl:=zD e2
     obtain rfl:=zM e3
     injection e4 with _ e4
     injection e5 with _ e5
     obtain rfl:=vG (fun x hx y=>h1 x hx) e4
     obtain rfl:=vG (fun x hx y e=>by
      simp only[encF,List.cons.injEq] at e
      exact Prod.ext (zM e.1) (h2 x hx e.2)) e5
     rfl
mutual
def Val.vb:Val→Nat
 | .mk _ _ s is fs=>1+s.length+vbs is+fbs fs
def vbs:List Val→Nat
 | []=>0
 | v::l=>v.vb+vbs l
def fbs:List (List UInt8×Val)→Nat
 | []=>0
 | (a,v)::l=>a.length+v.vb+fbs l
end
theorem vb_eq (v:Val):v.vb=1+v.s.length+vbs v.items+fbs v.fields:=by cases v;rfl
theorem vb_pos (v:Val):0<v.vb:=by rw[vb_eq];omega
theorem jC:∀{l:List Val} {x:Val},x∈l→x.vb≤vbs l
 | y::l,x,h=>by
   simp only[vbs]
   rcases List.mem_cons.1 h with rfl | h
   ·omega
   ·have:=jC h;omega
theorem xp:∀{l:List (List UInt8×Val)} {x:List UInt8×Val},x∈l→x.1.length+x.2.vb≤fbs l
 | (a,y)::l,x,h=>by
   simp only[fbs]
   rcases List.mem_cons.1 h with rfl | h
   ·simp only;omega
   ·have:=xp h;omega
theorem wW:∀l:List Val,l.length≤vbs l
 | []=>by simp[vbs]
 | v::l=>by have:=wW l;have:=vb_pos v;simp only[vbs,List.length_cons];omega
theorem yn:∀l:List (List UInt8×Val),l.length≤fbs l
 | []=>by simp[fbs]
 | (a,v)::l=>by have:=yn l;have:=vb_pos v;simp only[fbs,List.length_cons];omega
noncomputable def FV (out:Val→PV) (n:Nat):List PV→Option PV:=zG (α:=Val) (fun v=>[.agg v.enc]) (fun v=>v.vb≤lim∧v.vb≤n) out
theorem FV_eq (out:Val→PV) (n:Nat) (v:Val) (h:v.vb≤lim∧v.vb≤n):FV out n [.agg v.enc]=some (out v) :=
 zn (enc:=fun v:Val=>[.agg v.enc]) (a:=v) (fun a b e=>by simp only[List.cons.injEq,and_true,PV.agg.injEq] at e;exact km e) h
@[simp] theorem freezeCells_enc (hp:Hp) (v:Val):zP hp v.enc=some (v.enc,hp):=by rw[yQ];simp
theorem freeze_enc (hp:Hp) (v:Val):zF hp (.agg v.enc)=some (.agg v.enc,hp):=by
 rw[yQ]
 simp
theorem noOwn_enc (v:Val):PV.noOwn (.agg v.enc)=true:=by
 rw[yQ]
 simp
theorem FV_call (out:Val→PV) (n:Nat) (v:Val) (hp:Hp) (nx:Nat) (h:v.vb≤lim∧v.vb≤n):zc false [] (FV out n) [.agg v.enc] hp nx=some (out v,hp,nx) :=
 zt (hp1:=hp) (show zh hp [.agg v.enc]=some ([.agg v.enc],hp) by simp only[zh,freeze_enc]) (FV_eq out n v h) (.inr (by simp only[List.all_cons,noOwn_enc,List.all_nil,Bool.and_self]))
mutual
def Val.parts:Val→Nat
 | .mk _ _ _ is fs=>1+partsV is+partsF fs
def partsV:List Val→Nat
 | []=>0
 | v::l=>v.parts+partsV l
def partsF:List (List UInt8×Val)→Nat
 | []=>0
 | (_,v)::l=>v.parts+partsF l
end
mutual
def Val.levels:Val→Nat
 | .mk _ _ _ is fs=>max (levelsV is) (levelsF fs)+1
def levelsV:List Val→Nat
 | []=>0
 | v::l=>max v.levels (levelsV l)
def levelsF:List (List UInt8×Val)→Nat
 | []=>0
 | (_,v)::l=>max v.levels (levelsF l)
end
theorem parts_eq (v:Val):v.parts=1+partsV v.items+partsF v.fields:=by cases v;rfl
theorem levels_eq (v:Val):v.levels=max (levelsV v.items) (levelsF v.fields)+1:=by cases v;rfl
theorem parts_le (v:Val):v.parts≤v.vb:=by
 induction v using Val.ind with
 | h k n s is fs h1 h2 =>
   have a:∀l:List Val,(∀x∈l,x.parts≤x.vb)→partsV l≤vbs l:=by
    intro l
    induction l with
    | nil=>simp[partsV]
    | cons v l ih=>intro h;have:=h v (by simp);have:=ih fun x hx=>h x (by simp[hx]);simp only[partsV,vbs];omega
   have b:∀l:List (List UInt8×Val),(∀x∈l,x.2.parts≤x.2.vb)→partsF l≤fbs l:=by
    intro l
    induction l with
    | nil=>simp[partsF]
    | cons v l ih=>intro h;have:=h v (by simp);have:=ih fun x hx=>h x (by simp[hx]);obtain⟨a,v⟩:=v;simp only[partsF,fbs];simp only at *;omega
   have:=a is h1
   have:=b fs h2
   simp only[Val.parts,Val.vb]
   omega
theorem levels_le (v:Val):v.levels≤v.parts:=by
 induction v using Val.ind with
 | h k n s is fs h1 h2 =>
   have a:∀l:List Val,(∀x∈l,x.levels≤x.parts)→levelsV l≤partsV l:=by
    intro l
    induction l with
    | nil=>simp[levelsV]
    | cons v l ih=>intro h;have:=h v (by simp);have:=ih fun x hx=>h x (by simp[hx]);simp only[levelsV,partsV];omega
   have b:∀l:List (List UInt8×Val),(∀x∈l,x.2.levels≤x.2.parts)→levelsF l≤partsF l:=by
    intro l
    induction l with
    | nil=>simp[levelsF]
    | cons v l ih=>intro h;have:=h v (by simp);have:=ih fun x hx=>h x (by simp[hx]);obtain⟨a,v⟩:=v;simp only[levelsF,partsF];simp only at *;omega
   have:=a is h1
   have:=b fs h2
   simp only[Val.parts,Val.levels]
   omega
noncomputable abbrev Cc (n:Nat):Ctx:=xK prog [(53,zc false [] (FV (fun v=>.tup [int v.parts,int v.levels]) n))] (dynAt 2 [(2,1)])
theorem zZ {C:Ctx} {fn:Func} {code:Code} {args:List PV} {hp:Hp} {nx:Nat} {x:PV} {hp':Hp} {nx':Nat} (hb:fn.body=some code)
  (h:EvC C code ⟨jv args,hp,nx⟩ (retK C.P fn (fun y h m=>y=x∧h=hp'∧m=nx'))):wu C fn args hp nx=some (x,hp',nx'):=by
 obtain⟨y,h1,n1,he,rfl,rfl,rfl⟩:=zu hb h
 exact he
theorem count1_run (n:Nat) (v:Val) (h:v.vb≤lim∧v.vb≤n) (hp:Hp) (nx i j:Nat) (hi:i<nx) (hj:j<nx) (hij:i≠j) (p q:Nat) (hpi:hp i=some ⟨3,1,false,[[int p]]⟩) (hpj:hp j=some ⟨3,1,false,[[int q]]⟩) (hpb:p≤lim) :
  hRun (Cc n) f87 [.agg v.enc,.ref i 0 0,.ref j 0 0] hp nx =
   some (.tup [],upd (upd (upd hp nx (some ⟨87,5,false,[v.enc]⟩)) i (some ⟨3,1,false,[[int ((p+v.parts:Nat):Int)]]⟩)) j (some ⟨3,1,false,[[int ((max q v.levels:Nat):Int)]]⟩),nx+1):=by
 have hpl:=parts_le v
 have hll:=levels_le v
 unfold lim at *
 have w1:IntKind.i64.wrap ((p:Int)+v.parts)=(p:Int)+v.parts:=zd (by omega) (by omega)
 unfold hRun
 rw[if_pos (by simp[f87])]
 refine zZ rfl ?_
 have hcall:=fun hp nx=>FV_call (fun v=>.tup [int v.parts,int v.levels]) n v hp nx h
 have e1:¬i=nx:=by omega
 have e2:¬j=nx:=by omega
 have e3:¬j=i:=by omega
 have e4:(if q<v.levels then (v.levels:Int) else q)=((max q v.levels:Nat):Int):=by split<;>omega
 simp[hcall]
 rw[jl _ _ _ _ _ _ (apartA_one (blk:=⟨3,1,false,[[int p]]⟩) (id:=j) (i:=0) (j:=0) (id':=i) (i':=0) (j':=0) (by simp) (by simp) (Ne.symm hij) (by simp[e1,hpi]) rfl) (fun _ h=>by cases h)]
 simp[hpi,hpj,e1,e2,e3,hij,w1,e4,f87]
theorem xQ (a b:List Val):partsV (a++b)=partsV a+partsV b:=by
 induction a with
 | nil=>simp[partsV]
 | cons v a ih=>simp only[List.cons_append,partsV,ih];omega
theorem levelsV_append (a b:List Val):levelsV (a++b)=max (levelsV a) (levelsV b):=by
 induction a with
 | nil=>simp[levelsV]
 | cons v a ih=>simp only[List.cons_append,levelsV,ih];omega
theorem xR (a b:List (List UInt8×Val)):partsF (a++b)=partsF a+partsF b:=by
 induction a with
 | nil=>simp[partsF]
 | cons v a ih=>obtain⟨x,v⟩:=v;simp only[List.cons_append,partsF,ih];omega
theorem levelsF_append (a b:List (List UInt8×Val)):levelsF (a++b)=max (levelsF a) (levelsF b):=by
 induction a with
 | nil=>simp[levelsF]
 | cons v a ih=>obtain⟨x,v⟩:=v;simp only[List.cons_append,levelsF,ih];omega
theorem takeV {l:List Val} {k:Nat} (h:k<l.length):partsV (l.take (k+1))=partsV (l.take k)+l[k].parts∧levelsV (l.take (k+1))=max (levelsV (l.take k)) l[k].levels:=by
 rw[List.take_succ_eq_append_getElem h,xQ,levelsV_append]
 simp[partsV,levelsV]
theorem takeF {l:List (List UInt8×Val)} {k:Nat} (h:k<l.length):partsF (l.take (k+1))=partsF (l.take k)+l[k].2.parts∧levelsF (l.take (k+1))=max (levelsF (l.take k)) l[k].2.levels:=by
 rw[List.take_succ_eq_append_getElem h,xR,levelsF_append]
 simp[partsF,levelsF]
theorem partsV_le (l:List Val) (k:Nat):partsV (l.take k)≤partsV l:=by
 have:=xQ (l.take k) (l.drop k)
 rw[List.take_append_drop] at this
 omega
theorem partsF_le (l:List (List UInt8×Val)) (k:Nat):partsF (l.take k)≤partsF l:=by
 have:=xR (l.take k) (l.drop k)
 rw[List.take_append_drop] at this
 omega
noncomputable abbrev Cd (n:Nat):Ctx:=xK prog [(87,hRun (Cc n) f87)] (dynAt 13 [(3,2)])
theorem count_eval (n:Nat) (v:Val) (h:v.vb≤lim∧v.vb≤n+1):zi (Cd n) f53 [.agg v.enc]=some (.tup [int v.parts,int v.levels]):=by
 have hpl:=parts_le v
 have hpe:=parts_eq v
 have hvb:=vb_eq v
 have hle:=levels_eq v
 have hl1:=wW v.items
 have hl2:=yn v.fields
 obtain⟨ha,hb⟩:=h
 unfold lim at ha
 refine zb rfl ?_
 simp
 refine zC (fun k σ hp nx=>σ 1=.ref 0 0 0∧σ 2=.ref 1 0 0∧σ 3=.ref 2 0 0∧σ 4=.fn (.func 87) [] [.ref 1 0 0,.ref 2 0 0]∧σ 11=.sl 5 (v.items.map Val.enc)∧σ 12=int v.items.length∧σ 13=int k∧3≤nx∧hp 0=some ⟨87,5,false,[v.enc]⟩ ∧
   hp 1=some ⟨3,1,false,[[int ((1+partsV (v.items.take k):Nat):Int)]]⟩∧hp 2=some ⟨3,1,false,[[int (levelsV (v.items.take k))]]⟩) v.items.length
  ⟨by simp,by simp,by simp,by simp,by simp,by simp,by simp,by simp,by simp,by simp[partsV],by simp[levelsV]⟩ ?_
 rintro k σ hp nx hk ⟨h1,h2,h3,h4,h11,h12,h13,hnx,b0,b1,b2⟩
 by_cases hlt:k<v.items.length
 ·obtain⟨t1,t2⟩:=takeV hlt
  have hm:=jC (List.getElem_mem hlt)
  have hw:IntKind.i64.wrap ((k:Int)+1)=(k:Int)+1:=zd (by omega) (by omega)
  have hple:=partsV_le v.items k
  have hrun:=count1_run n v.items[k] ⟨by unfold lim;omega,by omega⟩ (upd hp nx (some ⟨87,5,false,[v.items[k].enc]⟩)) (nx+1) 1 2 (by omega) (by omega) (by omega) _ _ (by rw[ze _ _ _ _ (by omega)];exact b1) (by rw[ze _ _ _ _ (by omega)];exact b2) (by unfold lim;omega)
  simp[h1,h2,h3,h4,h11,h12,h13,hlt,hrun,hw]
  refine⟨hlt,by omega,?_,?_,?_⟩
  ·simp[b0,show ¬0=nx by omega,show ¬0=nx+1 by omega]
  ·rw[t1];omega
  ·rw[t2]
 ·obtain rfl:k=v.items.length:=by omega
  rw[List.take_length] at b1 b2
  simp[h1,h2,h3,h4,h11,h12,h13,b0]
  refine zC (fun k σ hp nx=>σ 1=.ref 0 0 0∧σ 2=.ref 1 0 0∧σ 3=.ref 2 0 0∧σ 4=.fn (.func 87) [] [.ref 1 0 0,.ref 2 0 0]∧σ 22=.sl 6 (v.fields.map encF)∧σ 23=int v.fields.length∧σ 24=int k∧3≤nx ∧
    hp 1=some ⟨3,1,false,[[int ((1+partsV v.items+partsF (v.fields.take k):Nat):Int)]]⟩∧hp 2=some ⟨3,1,false,[[int ((max (levelsV v.items) (levelsF (v.fields.take k)):Nat):Int)]]⟩) v.fields.length
   ⟨by simp[h1],by simp[h2],by simp[h3],by simp[h4],by simp,by simp,by simp,hnx,by simp[b1,partsF],by simp[b2,levelsF]⟩ ?_
  clear h1 h2 h3 h4 h11 h12 h13 hnx b0 b1 b2 hlt hk nx hp σ
  rintro k σ hp nx hk ⟨h1,h2,h3,h4,h11,h12,h13,hnx,b1,b2⟩
  by_cases hlt:k<v.fields.length
  ·obtain⟨t1,t2⟩:=takeF hlt
   have hm:=xp (List.getElem_mem hlt)
   have hw:IntKind.i64.wrap ((k:Int)+1)=(k:Int)+1:=zd (by omega) (by omega)
   have hple:=partsF_le v.fields k
   have hrun:=count1_run n v.fields[k].2 ⟨by unfold lim;omega,by omega⟩ (upd hp nx (some ⟨152,6,false,[encF v.fields[k]]⟩)) (nx+1) 1 2 (by omega) (by omega) (by omega) _ _ (by rw[ze _ _ _ _ (by omega)];exact b1) (by rw[ze _ _ _ _ (by omega)];exact b2) (by unfold lim;omega)
   simp[encF] at hrun
   simp[h1,h2,h3,h4,h11,h12,h13,hlt,hw,hrun]
   refine⟨hlt,by omega,?_,?_⟩
   ·rw[t1];omega
   ·rw[t2]
  ·obtain rfl:k=v.fields.length:=by omega
   rw[List.take_length] at b1 b2
   have hll:=levels_le v
   have hw:IntKind.i64.wrap (((max (levelsV v.items) (levelsF v.fields):Nat):Int)+1)=(v.levels:Int):=by rw[zd (by omega) (by omega),hle];omega
   simp[h1,h2,h3,h4,h11,h12,h13]
   rw[jl _ _ _ _ _ _ (apartA_one (id:=2) (i:=0) (j:=0) (id':=1) (i':=0) (j':=0) (by simp[h3]) (by simp[h2]) (by omega) (by exact b1) rfl) (fun _ h=>by cases h)]
   simp[h1,h2,h3,b1,b2,hw,f53,zU]
   omega
theorem FV_inv {out:Val→PV} {n:Nat} {args:List PV} {r:PV} (h:FV out n args=some r):∃v:Val,args=[.agg v.enc]∧(v.vb≤lim∧v.vb≤n)∧r=out v:=zf h
theorem FV_none {out:Val→PV}:∀args r,FV out 0 args=some r→False:=fun args r h=>by
 obtain⟨v,rfl,hv,rfl⟩:=FV_inv h
 have:=vb_pos v
 omega
theorem FV_zero {out:Val→PV} {f:FuncId} (hfn:∃fn,prog.funcs[f]?=some fn∧(fn.name== "runtime.NumGoroutine")=false∧fn.body.isNone=false):za prog f (zc false [] (FV out 0)):=by
 refine⟨hfn,fun args hp nx r hp' nx' h=>?_⟩
 unfold zc at h
 split at h
 ·split at h
  ·rename_i r0 hF
   exact (FV_none _ _ hF).elim
  ·cases h
 ·cases h
set_option maxRecDepth 100000 in
theorem count_sound:∀n,za prog 53 (zc false [] (FV (fun v=>.tup [int v.parts,int v.levels]) n)):=by
 intro n
 induction n with
 | zero=>exact FV_zero ⟨_,func53,by kernel_rfl,by kernel_rfl⟩
 | succ n ih =>
   have hc:AM.Good (Cc n) (fun g=>([]:List Nat).contains g):=good_ofD _ mixed ⟨ih,by simp,trivial⟩
   have h1:za prog 87 (hRun (Cc n) f87):=zs (code:=_) hc ⟨func87,by kernel_rfl,rfl,by kernel_rfl⟩
   have hd:AM.Good (Cd n) (fun g=>([]:List Nat).contains g):=good_ofD _ mixed ⟨h1,by simp,trivial⟩
   exact zJ (fn:=f53) hd ⟨_,func53,by kernel_rfl,rfl,by kernel_rfl⟩ false [] _ fun args r h=>by
    obtain⟨v,rfl,hv,rfl⟩:=FV_inv h
    exact⟨Nat.le_trans (Nat.le_refl 1) (by decide),_,count_eval n v hv,zI _⟩
noncomputable abbrev GV (out:Val→PV):AM.Spec:=zc false [] (FV out lim)
theorem GV_call (out:Val→PV) (v:Val) (hp:Hp) (nx:Nat) (h:v.vb≤lim):GV out [.agg v.enc] hp nx=some (out v,hp,nx):=FV_call out lim v hp nx ⟨h,h⟩
def cKind (k:Int):Bool:=decide (k<0)||decide (5<k)
def cSpare (k n:Int) (s:List UInt8) (i f:Nat):Bool:=n != 0&&k != 1&&k != 2||!(s==[])&&k != 3||decide (0<i)&&k != 4||decide (0<f)&&k != 5
def cRange1 (k n:Int):Bool:=k==1&&n != 0&&n != 1
def cRange2 (k n:Int):Bool:=k==2&&(decide (n≤-1000000000000000)||decide (1000000000000000≤n))
def cMany (i f:Nat):Bool:=decide ((100:Int)<i)||decide ((100:Int)<f)
def cLong (s:List UInt8):Bool:=decide ((500:Int)<s.length)
def headF (k n:Int) (s:List UInt8) (i f:Nat):Int :=
 if cKind k then 4 else if cSpare k n s i f then 3 else if cRange1 k n||cRange2 k n then 1 else if cLong s then 2 else if qC 32 126 s then (if cMany i f then 2 else 0) else 1
def leB (a b:List UInt8):Bool:=Op.bytesLess a b||a==b
def cName (a:List UInt8):Bool:=a.isEmpty||decide ((60:Int)<a.length)||!qC 32 126 a
def jD (prev:Option (List UInt8)) (a:List UInt8):Bool:=match prev with
 | none=>false
 | some p=>leB a p
mutual
def Val.fault:Val→Int
 | .mk k n s is fs=>if headF k n s is.length fs.length=0 then (if faultV is=0 then faultF none fs else faultV is) else headF k n s is.length fs.length
def faultV:List Val→Int
 | []=>0
 | v::l=>if v.fault=0 then faultV l else v.fault
def faultF:Option (List UInt8)→List (List UInt8×Val)→Int
 | _,[]=>0
 | prev,(a,v)::l=>if cName a then 5 else if jD prev a then 8 else if v.fault=0 then faultF (some a) l else v.fault
end
theorem fault_eq (v:Val):v.fault=if headF v.kind v.n v.s v.items.length v.fields.length=0 then (if faultV v.items=0 then faultF none v.fields else faultV v.items) else headF v.kind v.n v.s v.items.length v.fields.length:=by cases v;rfl
theorem spare_sound:za prog 88 (GV fun v=>boo (cSpare v.kind v.n v.s v.items.length v.fields.length)) :=
 zJ (fn:=f88) wA ⟨_,func88,by kernel_rfl,rfl,by kernel_rfl⟩ false [] _ fun args r h=>by
  obtain⟨v,rfl,hv,rfl⟩:=FV_inv h
  exact⟨by simp[f88],_,zb rfl (by simp[f88,cSpare]),zI _⟩
noncomputable abbrev Ck (n:Nat):Ctx:=zA prog [(54,zc false [] (FV (fun v=>int v.fault) n)),(88,GV fun v=>boo (cSpare v.kind v.n v.s v.items.length v.fields.length)),(89,zc false [] (FS (qC 32 126)))]
@[simp] theorem qk (n:Nat):wy (Ck n) 89:=qr (by rfl) (zg _ _)
theorem faultV_drop {l:List Val} {k:Nat} (h:k<l.length):faultV (l.drop k)=if l[k].fault=0 then faultV (l.drop (k+1)) else l[k].fault:=by
 rw[List.drop_eq_getElem_cons h,faultV]
theorem faultF_drop {l:List (List UInt8×Val)} {k:Nat} (h:k<l.length) (p:Option (List UInt8)):faultF p (l.drop k)=if cName l[k].1 then 5 else if jD p l[k].1 then 8 else if l[k].2.fault=0 then faultF (some l[k].1) (l.drop (k+1)) else l[k].2.fault:=by
 rw[List.drop_eq_getElem_cons h,faultF]
def jy (l:List (List UInt8×Val)) (k:Nat):Option (List UInt8):=if k=0 then none else (l[k - 1]?).map (·.1)
theorem checkPart_eval (n:Nat) (v:Val) (h:v.vb≤lim∧v.vb≤n+1):zi (Ck n) f54 [.agg v.enc]=some (int v.fault):=by
 have hvb:=vb_eq v
 have hl1:=wW v.items
 have hl2:=yn v.fields
 obtain⟨ha,hb⟩:=h
 unfold lim at ha
 have hf:=fault_eq v
 have hsp:=fun hp nx=>GV_call (fun v=>boo (cSpare v.kind v.n v.s v.items.length v.fields.length)) v hp nx ha
 have hsl:v.s.length≤lim:=by unfold lim;omega
 refine zb rfl ?_
 have e1:(decide (v.kind<0)||decide (5<v.kind))=cKind v.kind:=rfl
 have e2:(v.kind==1&&v.n != 0&&v.n != 1)=cRange1 v.kind v.n:=rfl
 have e3:(v.kind==2&&(decide (v.n≤-1000000000000000)||decide (1000000000000000≤v.n)))=cRange2 v.kind v.n:=rfl
 have e4:(decide ((100:Int)<v.items.length)||decide ((100:Int)<v.fields.length))=cMany v.items.length v.fields.length:=rfl
 have e5:decide ((500:Int)<v.s.length)=cLong v.s:=rfl
 cases c1:cKind v.kind
 case true=>simp[e1,c1,hf,headF,f54]
 cases c2:cSpare v.kind v.n v.s v.items.length v.fields.length
 case true=>simp[e1,c1,hsp,c2,hf,headF,f54]
 cases c3:cRange1 v.kind v.n
 case true=>simp[e1,c1,hsp,c2,e2,c3,hf,headF,f54]
 cases c4:cRange2 v.kind v.n
 case true=>simp[e1,c1,hsp,c2,e2,c3,e3,c4,hf,headF,f54]
 cases c5:cLong v.s
 case true=>simp[e1,c1,hsp,c2,e2,c3,e3,c4,e5,c5,hf,headF,f54]
 cases c6:qC 32 126 v.s
 case false=>simp[e1,c1,hsp,c2,e2,c3,e3,c4,e5,c5,c6,hsl,hf,headF,f54]
 cases c7:cMany v.items.length v.fields.length
 case true=>simp[e1,c1,hsp,c2,e2,c3,e3,c4,e5,c5,c6,hsl,e4,c7,hf,headF,f54]
 have hh:headF v.kind v.n v.s v.items.length v.fields.length=0:=by simp[headF,c1,c2,c3,c4,c5,c6,c7]
 rw[hh,if_pos rfl] at hf
 simp[e1,c1,hsp,c2,e2,c3,e3,c4,e5,c5,c6,hsl,e4,c7]
 refine zC (fun k σ hp nx=>σ 1=.ref 0 0 0∧σ 70=.sl 5 (v.items.map Val.enc)∧σ 71=int v.items.length∧σ 72=int k∧1≤nx∧hp 0=some ⟨87,5,false,[v.enc]⟩∧faultV v.items=faultV (v.items.drop k)) v.items.length
  ⟨by simp,by simp,by simp,by simp,by simp,by simp,by simp⟩ ?_
 rintro k σ hp nx hk ⟨h1,h70,h71,h72,hnx,b0,he⟩
 have n0:¬0=nx:=by omega
 by_cases hlt:k<v.items.length
 ·have hm:=jC (List.getElem_mem hlt)
  have hw:IntKind.i64.wrap ((k:Int)+1)=(k:Int)+1:=zd (by omega) (by omega)
  have hcall:=fun hp nx=>FV_call (fun v=>int v.fault) n v.items[k] hp nx ⟨by unfold lim;omega,by omega⟩
  rw[faultV_drop hlt] at he
  by_cases hz:v.items[k].fault=0
  ·rw[if_pos hz] at he
   simp[h1,h70,h71,h72,hlt,hcall,hz,hw]
   and_intros<;>first | omega | exact he | simp[n0,b0]
  ·rw[if_neg hz] at he
   have hz2:(v.items[k].fault != 0)=true:=by simpa using hz
   rw[he,if_neg hz] at hf
   simp[h1,h70,h71,h72,hlt,hcall,hz2,hf,f54]
 ·obtain rfl:k=v.items.length:=by omega
  rw[List.drop_length] at he
  have he:faultV v.items=0:=by rw[he];rfl
  rw[he,if_pos rfl] at hf
  simp[h1,h70,h71,h72,b0]
  refine zC (fun k σ hp nx=>σ 1=.ref 0 0 0∧σ 83=.sl 6 (v.fields.map encF)∧σ 84=int v.fields.length∧σ 85=int k∧1≤nx∧hp 0=some ⟨87,5,false,[v.enc]⟩∧v.fault=faultF (jy v.fields k) (v.fields.drop k)) v.fields.length
   ⟨by simp[h1],by simp,by simp,by simp,hnx,b0,by simp[hf,jy]⟩ ?_
  clear h1 h70 h71 h72 hnx b0 hlt hk n0 nx hp σ hf
  rintro k σ hp nx hk ⟨h1,h83,h84,h85,hnx,b0,hf⟩
  have n0:¬0=nx:=by omega
  by_cases hlt:k<v.fields.length
  ·have hm:=xp (List.getElem_mem hlt)
   have hw:IntKind.i64.wrap ((k:Int)+1)=(k:Int)+1:=zd (by omega) (by omega)
   have hnl:v.fields[k].1.length≤lim:=by unfold lim;omega
   have hcall:=fun hp nx=>FV_call (fun v=>int v.fault) n v.fields[k].2 hp nx ⟨by unfold lim;omega,by omega⟩
   have en:(v.fields[k].1.isEmpty||decide ((60:Int)<v.fields[k].1.length)||!qC 32 126 v.fields[k].1)=cName v.fields[k].1:=rfl
   rw[faultF_drop hlt] at hf
   cases d1:cName v.fields[k].1
   case true=>simp[h1,h83,h84,h85,hlt,hnl,en,d1,hf,f54]
   have hpv:jy v.fields (k+1)=some v.fields[k].1:=by simp[jy,hlt]
   simp only[d1,Bool.false_eq_true,if_false] at hf
   by_cases k0:k=0
   ·subst k0
    simp only[jy,jD,if_true,Bool.false_eq_true,if_false] at hf
    by_cases hz:v.fields[0].2.fault=0
    ·rw[if_pos hz] at hf
     have w1:IntKind.i64.wrap 1=1:=zd (by omega) (by omega)
     simp[h1,h83,h84,h85,hlt,hnl,en,d1,hcall,hz,w1]
     and_intros<;>first | omega | (rw[hf];rw[hpv];simp;done) | simp[n0,b0]
    ·rw[if_neg hz] at hf
     have hz2:(v.fields[0].2.fault != 0)=true:=by simpa using hz
     simp[h1,h83,h84,h85,hlt,hnl,en,d1,hcall,hz2,hf,f54]
   ·obtain⟨j,rfl⟩:∃j,k=j+1:=⟨k - 1,by omega⟩
    have hj:j<v.fields.length:=by omega
    have wj:IntKind.i64.wrap ((j:Int)+1 - 1)=(j:Int):=by rw[zd (by omega) (by omega)];omega
    have wj':IntKind.i64.wrap (j:Int)=(j:Int):=zd (by omega) (by omega)
    have j1:((j:Int)+1).toNat=j+1:=by omega
    have j2:0<(j:Int)+1:=by omega
    have j3:0≤(j:Int)+1:=by omega
    have j4:(j:Int)+1<v.fields.length:=by omega
    have wk:IntKind.i64.wrap ((j:Int)+1+1)=(j:Int)+1+1:=zd (by omega) (by omega)
    have el:(Op.bytesLess v.fields[j+1].1 v.fields[j].1||v.fields[j+1].1==v.fields[j].1)=leB v.fields[j+1].1 v.fields[j].1:=rfl
    have hpj:jy v.fields (j+1)=some v.fields[j].1:=by simp[jy,hj]
    simp only[hpj,jD] at hf
    cases d2:leB v.fields[j+1].1 v.fields[j].1
    case true =>
     simp only[d2,if_true] at hf
     simp[h1,h83,h84,h85,hlt,hj,hnl,en,d1,hcall,b0,n0,wj,wj',j1,j2,j3,j4,el,d2,hf,f54]
    simp only[d2,Bool.false_eq_true,if_false] at hf
    by_cases hz:v.fields[j+1].2.fault=0
    ·rw[if_pos hz] at hf
     simp[h1,h83,h84,h85,hlt,hj,hnl,en,d1,hcall,b0,n0,wj,wj',j1,j2,j3,j4,el,d2,hz,wk]
     and_intros<;>first | omega | (rw[hf];rw[hpv]) | simp[n0,b0]
    ·rw[if_neg hz] at hf
     have hz2:(v.fields[j+1].2.fault != 0)=true:=by simpa using hz
     simp[h1,h83,h84,h85,hlt,hj,hnl,en,d1,hcall,b0,n0,wj,wj',j1,j2,j3,j4,el,d2,hz2,hf,f54]
  ·obtain rfl:k=v.fields.length:=by omega
   rw[List.drop_length] at hf
   have hf:v.fault=0:=by rw[hf];rfl
   simp[h1,h83,h84,h85,hf,f54]
set_option maxRecDepth 100000 in
theorem checkPart_sound:∀n,za prog 54 (zc false [] (FV (fun v=>int v.fault) n)):=by
 intro n
 induction n with
 | zero=>exact FV_zero ⟨_,func54,by kernel_rfl,by kernel_rfl⟩
 | succ n ih =>
   have hg:AM.Good (Ck n) (fun g=>[89].contains g):=zk mixed ⟨ih,by simp,spare_sound,by simp,seen_sound,fun _=>zg _ _,trivial⟩
   exact zJ (fn:=f54) hg ⟨_,func54,by kernel_rfl,rfl,by kernel_rfl⟩ false [] _ fun args r h=>by
    obtain⟨v,rfl,hv,rfl⟩:=FV_inv h
    exact⟨Nat.le_trans (Nat.le_refl 1) (by decide),_,checkPart_eval n v hv,zI _⟩
def Val.check (v:Val):Int:=if decide ((1000:Int)<v.parts)||decide ((8:Int)<v.levels) then 2 else v.fault
noncomputable abbrev Cch:Ctx:=zA prog [(54,GV fun v=>int v.fault),(53,GV fun v=>.tup [int v.parts,int v.levels])]
theorem check_sound:za prog 34 (GV fun v=>int v.check) :=
 zJ (fn:=f34) (zk (q:=[]) mixed ⟨checkPart_sound lim,by simp,count_sound lim,by simp,trivial⟩:AM.Good Cch _) ⟨_,func34,by kernel_rfl,rfl,by kernel_rfl⟩ false [] _ fun args r h=>by
  obtain⟨v,rfl,hv,rfl⟩:=FV_inv h
  have h1:=fun hp nx=>GV_call (fun v=>int v.fault) v hp nx hv.1
  have h2:=fun hp nx=>GV_call (fun v=>.tup [int v.parts,int v.levels]) v hp nx hv.1
  refine⟨by simp[f34],_,zb rfl ?_,zI _⟩
  cases hc:(decide ((1000:Int)<v.parts)||decide ((8:Int)<v.levels))
  ·simp[h1,h2,hc,f34,Val.check]
  ·simp[h1,h2,hc,f34,Val.check]
def cloneF (e s:Nat):List PV→Option (Option Blk)
 | [.nil]=>some none
 | [.em]=>some (some ⟨e,s,true,[]⟩)
 | [.sl s' es]=>if s'=s∧es≠[]∧es.length≤lim then some (some ⟨e,s,true,es⟩) else none
 | _=>none
def Val.inner (v:Val):List Val:=v.items++v.fields.map (·.2)
def cutB (s:Int×Bool):Bool:=s.2||decide (1000<s.1)
def stepR (s r:Int×Bool):Int×Bool:=if cutB s then s else (s.1+r.1,s.2||r.2)
mutual
def Val.rp:Val→Int→Int×Bool
 | .mk _ _ _ is fs,l=>rpF fs l (rpV is l (1,decide (8<l)))
def rpV:List Val→Int→Int×Bool→Int×Bool
 | [],_,s=>s
 | v::vs,l,s=>rpV vs l (stepR s (v.rp (l+1)))
def rpF:List (List UInt8×Val)→Int→Int×Bool→Int×Bool
 | [],_,s=>s
 | (_,v)::vs,l,s=>rpF vs l (stepR s (v.rp (l+1)))
end
def partsI (xs:List Val):Nat:=(xs.map Val.parts).sum
def levelsI:List Val→Nat
 | []=>0
 | v::l=>max v.levels (levelsI l)
structure RP (xs:List Val) (l:Int) (s r:Int×Bool):Prop where
 lo:s.1≤r.1
 hi:r.1≤s.1+partsI xs
 deep:r.2=true→s.2=true∨8<l+(levelsI xs:Int)
 all:cutB r=false→r.1=s.1+partsI xs∧(xs≠[]→l+(levelsI xs:Int)≤8)
def cmpI (a b:Int):Int:=if a<b then -1 else if b<a then 1 else 0
def F2I (f:Int→Int→Int):List PV→Option PV
 | [.v (.int .i64 a),.v (.int .i64 b)]=>some (int (f a b))
 | _=>none
theorem F2I_inv {f:Int→Int→Int} {args:List PV} {r:PV} (h:F2I f args=some r):∃a b,args=[int a,int b]∧r=int (f a b):=by
 unfold F2I at h
 split at h
 ·injection h with h;exact⟨_,_,rfl,h.symm⟩
 ·cases h
@[simp] theorem F2I_call (f:Int→Int→Int) (a b:Int) (hp:Hp) (nx:Nat):zc false [] (F2I f) [.v (.int .i64 a),.v (.int .i64 b)] hp nx=some (int (f a b),hp,nx):=zt rfl rfl (.inl rfl)
def isNaNI:List PV→Option PV
 | [.v (.int .i64 _)]=>some (boo false)
 | _=>none
def isNaNS:List PV→Option PV
 | [.v (.string _)]=>some (boo false)
 | _=>none
@[simp] theorem isNaNI_call (a:Int) (hp:Hp) (nx:Nat):zc false [] isNaNI [.v (.int .i64 a)] hp nx=some (boo false,hp,nx):=zt rfl rfl (.inl rfl)
@[simp] theorem isNaNS_call (a:ByteArray) (hp:Hp) (nx:Nat):zc false [] isNaNS [.v (.string a)] hp nx=some (boo false,hp,nx):=zt rfl rfl (.inl rfl)
theorem isNaNI_sound:za prog 157 (zc false [] isNaNI) :=
 zJ (fn:=f157) wA ⟨_,func157,by kernel_rfl,rfl,by kernel_rfl⟩ false [] _ fun args r h=>by
  unfold isNaNI at h
  split at h
  ·injection h with h;subst h
   exact⟨by simp[f157],_,zb rfl (by simp[f157]),zI _⟩
  ·cases h
theorem isNaNS_sound:za prog 155 (zc false [] isNaNS) :=
 zJ (fn:=f155) wA ⟨_,func155,by kernel_rfl,rfl,by kernel_rfl⟩ false [] _ fun args r h=>by
  unfold isNaNS at h
  split at h
  ·injection h with h;subst h
   exact⟨by simp[f155],_,zb rfl (by simp[f155]),zI _⟩
  ·cases h
noncomputable abbrev Cnn:Ctx:=zA prog [(157,zc false [] isNaNI),(155,zc false [] isNaNS)]
theorem goodnn:AM.Good Cnn (fun g=>[157,155].contains g):=zk mixed ⟨isNaNI_sound,fun _=>zg _ _,isNaNS_sound,fun _=>zg _ _,trivial⟩
theorem cmpI_sound:za prog 131 (zc false [] (F2I cmpI)) :=
 zJ (fn:=f131) goodnn ⟨_,func131,by kernel_rfl,rfl,by kernel_rfl⟩ false [] _ fun args r h=>by
  obtain⟨a,b,rfl,rfl⟩:=F2I_inv h
  refine⟨by simp[f131],_,zb rfl ?_,zI _⟩
  unfold cmpI
  by_cases h1:a<b
  ·simp[h1,f131]
  ·by_cases h2:b<a
   ·simp[h1,h2,f131]
   ·simp[h1,h2,f131]
noncomputable def F2S (f:List UInt8→List UInt8→Int):List PV→Option PV:=zG (α:=List UInt8×List UInt8) (fun a=>[str a.1,str a.2]) (fun _=>True) (fun a=>int (f a.1 a.2))
@[simp] theorem F2S_call (f:List UInt8→List UInt8→Int) (a b:List UInt8) (hp:Hp) (nx:Nat):zc false [] (F2S f) [str a,str b] hp nx=some (int (f a b),hp,nx) :=
 zt rfl (zn (enc:=fun a:List UInt8×List UInt8=>[str a.1,str a.2]) (a:=(a,b)) (fun a b e=>by
  obtain⟨a1,a2⟩:=a;obtain⟨b1,b2⟩:=b
  simp only[List.cons.injEq,and_true] at e
  rw[zM e.1,zM e.2]) trivial) (.inl rfl)
@[simp] theorem cmpI_self (a:Int):cmpI a a=0:=by simp[cmpI]
noncomputable abbrev cmpB:=Lib.compareBytes
theorem cmpString_sound:za prog 102 (zc false [] (F2S cmpB)) :=
 sound_scalar ⟨_,func102,by kernel_rfl,by kernel_rfl⟩ fun args r h=>by
  obtain⟨⟨a,b⟩,rfl,_,rfl⟩:=zf h
  exact⟨[.string ⟨a.toArray⟩,.string ⟨b.toArray⟩],rfl,by simp[lit],_,rfl,rfl,fun w=>by simpa using Tryz.bytealg_CompareString ⟨a.toArray⟩ ⟨b.toArray⟩ w⟩
noncomputable abbrev Cstr:Ctx:=zA prog [(102,zc false [] (F2S cmpB))]
theorem qD:za prog 67 (zc false [] (F2S cmpB)) :=
 zJ (fn:=f67) (zk (q:=[]) mixed ⟨cmpString_sound,by simp,trivial⟩:AM.Good Cstr _) ⟨_,func67,by kernel_rfl,rfl,by kernel_rfl⟩ false [] _ fun args r h=>by
  obtain⟨⟨a,b⟩,rfl,_,rfl⟩:=zf h
  exact⟨by simp[f67],_,zb rfl (by simp[f67]),zI _⟩
end Go.Proofs.YtanbabpnlgfcpaaGreatDoor
