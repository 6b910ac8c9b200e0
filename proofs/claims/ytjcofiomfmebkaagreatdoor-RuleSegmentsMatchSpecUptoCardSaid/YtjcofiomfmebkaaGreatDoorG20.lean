/-
The reference's versions: reading one that can be partial.
-/
import Derived.Test.YtjcofiomfmebkaaGreatDoorG18
import Derived.Test.YtjcofiomfmebkaaGreatDoorG19
import Derived.Test.YtjcofiomfmebkaaGreatDoorG16
import Derived.Test.YtjcofiomfmebkaaGreatDoorG17
set_option maxRecDepth 8000
namespace Go.AM
open Go.RowKit
def K1 (sh:Sh) (r y z:PV) (x:PV) (hp:Hp) (_:Nat):Prop:=∃r0,(AM.freeze hp x).map (·.1)=some (.tup [r0,y,z])∧sh.fix r0=r
theorem zbx {C:Ctx} {fn:Func} {code:Code} {args:List PV} {sh:Sh} {r y z:PV} (hb:fn.body=some code)
  (h:EvC C code ⟨yF args,fun _=>none,0⟩ (zcL C.P fn (K1 sh r y z))):∃r0,zg C fn args=some r0∧Stands r0 (.tup [r,y,z]):=by
 obtain⟨x,hp',nx',h1,r0,h2,h3⟩:=zM hb h
 exact⟨.tup [r0,y,z],by unfold zg;simp only[h1];exact h2,h3 ▸ (StandsL.cons (ZT sh r0) (.cons (Stands.refl y) (.cons (Stands.refl z) .nil))).tup⟩
end Go.AM
namespace Go.Proofs.YtjcofiomfmebkaaGreatDoor
open Go.Proofs.Tryz
open Go.RowKit Go.AM
def rvR (s:List UInt8):Ver×Int×Bool:=if 3<(zy (Lib.cut s [45]).1 [46]).length then (ver0,0,false) else
 match qS (part0,false) 0 (zy (Lib.cut s [45]).1 [46]) with
 | none=>(ver0,0,false)
 | some st=>if (yb s).any qf=true then (⟨st.1.n0,st.1.n1,st.1.n2,yb s⟩,0,false) else (⟨st.1.n0,st.1.n1,st.1.n2,yb s⟩,st.1.has,(!(Lib.cut s [45]).2.2||st.1.has==3)&&decide ((yb s).length≤10))
def rvP (s:List UInt8):PV:=.tup [.agg (rvR s).1.enc,int (rvR s).2.1,boo (rvR s).2.2]
theorem zjd {st:Part×Bool} {k:Nat} {l:List (List UInt8)} (h:k<l.length):qS st k (l.drop k)=match wv st k l[k] with
  | some q=>qS q (k+1) (l.drop (k+1))
  | none=>none:=by
 rw[List.drop_eq_getElem_cons h]
 rfl
noncomputable abbrev zv8:Ctx:=zC prog [(142,zd false [] (FTT znp fun _ _=>True)),(143,qP [] FSp),(205,zd false [] FNm),(206,zd false [] (FS fun l=>!qf l))]
theorem zro:AM.Good zv8 (fun g=>([]:List Nat).contains g):=zk mixed ⟨X1,by simp,kF,by simp,zbm,by simp,Jc,by simp,trivial⟩
set_option maxHeartbeats 2000000 in
theorem Yz (t:List UInt8) (ht:t.length+1≤lim):∃r0,zg zv8 f159 [str t]=some r0∧Stands r0 (rvP t):=by
 refine zbx (sh:=.g jP) (r:=.agg (rvR t).1.enc) (y:=int (rvR t).2.1) (z:=boo (rvR t).2.2) rfl ?_
 have hcl:=zp2 t [45]
 have hcut:=fun hp nx=>zaV t [45] hp nx (by omega) (by decide)
 have hsp:=fun hp nx=>jv (Lib.cut t [45]).1 [46] hp nx (by omega) (by decide) (by decide)
 have hsp2:=fun hp nx=>jv (Lib.cut t [45]).2.1 [46] hp nx (by omega) (by decide) (by decide)
 have hpl:∀p∈zy (Lib.cut t [45]).1 [46],p.length≤lim:=fun p hp=>by have:=w8 hp;omega
 have hql:∀p∈zy (Lib.cut t [45]).2.1 [46],p.length≤lim:=fun p hp=>by have:=w8 hp;omega
 have hqn:(zy (Lib.cut t [45]).2.1 [46]).length≤lim:=by have:=yY (s:=(Lib.cut t [45]).2.1) (sep:=[46]) (by simp);omega
 have hrp:yb t=if (Lib.cut t [45]).2.2=true then zy (Lib.cut t [45]).2.1 [46] else []:=rfl
 have hrv:rvR t=if 3<(zy (Lib.cut t [45]).1 [46]).length then (ver0,0,false) else
   match qS (part0,false) 0 (zy (Lib.cut t [45]).1 [46]) with
   | none=>(ver0,0,false)
   | some st=>if (yb t).any qf=true then (⟨st.1.n0,st.1.n1,st.1.n2,yb t⟩,0,false) else (⟨st.1.n0,st.1.n1,st.1.n2,yb t⟩,st.1.has,(!(Lib.cut t [45]).2.2||st.1.has==3)&&decide ((yb t).length≤10)):=rfl
 obtain⟨l,hl⟩:∃l,zy (Lib.cut t [45]).1 [46]=l:=⟨_,rfl⟩
 obtain⟨pl,hpl2⟩:∃pl,zy (Lib.cut t [45]).2.1 [46]=pl:=⟨_,rfl⟩
 obtain⟨c1,c2,c3,hc⟩:∃c1 c2 c3,Lib.cut t [45]=(c1,c2,c3):=⟨_,_,_,rfl⟩
 rw[hc] at hcut hsp hsp2 hl hpl2 hrp hrv hpl hql hqn
 simp only at hcut hsp hsp2 hl hpl2 hrp hrv hpl hql hqn
 rw[hl] at hrv hpl
 rw[hpl2] at hrp hql hqn
 simp only[hl,zaW] at hsp
 simp only[hpl2,zaW] at hsp2
 unfold lim at hqn
 by_cases h3:3<l.length
 ·have h3':(3:Int)<l.length:=by omega
  rw[if_pos h3] at hrv
  simp[hcut,hsp,h3,h3',rvP,hrv,K1,ver0,Ver.enc,f159]
 have h3':¬(3:Int)<l.length:=by omega
 rw[if_neg h3] at hrv
 simp[hcut,hsp,h3,h3']
 refine zu (fun k σ hp nx=>∃(p:Part) (op:Bool),p.pre=[]∧σ 2=.ref 0 0 0∧σ 3=int p.has∧σ 4=boo false∧σ 6=str c2∧σ 7=boo c3∧σ 8=.ref 1 0 0∧σ 9=boo op∧σ 29=.own 2 0 l.length∧σ 30=int l.length∧σ 31=int k∧p.has≤k∧0≤p.has∧nx=3 ∧
   hp 0=some ⟨115,4,false,[[int 0,int 0,int 0,.nil]]⟩∧hp 1=some ⟨142,3,false,[[int p.n0,int p.n1,int p.n2]]⟩∧hp 2=some ⟨9,1,true,zD l⟩∧qS (part0,false) 0 l=qS (p,op) k (l.drop k)) l.length
  ⟨part0,false,rfl,by simp,by simp[part0],by simp,by simp,by simp,by simp,by simp,by simp,by simp,by simp,by simp[part0],by simp[part0],by simp,by simp,by simp[part0],(by simp;rfl),by simp⟩ ?_
 rintro k σ hp nx hk ⟨p,op,hpp,h2,g3,h4,h6,h7,h8,h9,h29,h30,h31,hh,hh0,hnx,b0,b1,b2,he⟩
 subst hnx
 by_cases hlt:k<l.length
 ·have hn:=fun hp nx=>zoH l[k] hp nx (hpl _ (List.getElem_mem hlt))
  have hw:IntKind.i64.wrap ((k:Int)+1)=(k:Int)+1:=zc (by omega) (by omega)
  have hw2:IntKind.i64.wrap (p.has+1)=p.has+1:=zc (by omega) (by omega)
  have hop:(l[k]==[120]||l[k]==[88]||l[k]==[42])=qH l[k]:=rfl
  have hgk:=ZW hlt
  have hel:(zD l).length=l.length:=by simp[zD]
  rw[zjd hlt] at he
  cases ho:qH l[k]
  ·rw[ho] at hop
   cases hv:(jJ l[k]).isSome
   ·have hs:wv (p,op) k l[k]=none:=by simp[wv,ho,hv]
    rw[hs] at he
    rw[he] at hrv
    simp only at hrv
    simp[h2,g3,h4,h6,h7,h8,h9,h29,h30,h31,b0,b1,b2,hlt,hel,hgk,hn,hop,hv,rvP,hrv,K1,ver0,Ver.enc,f159]
   ·cases op
    ·have hs:wv (p,false) k l[k]=some (p.put k ((jJ l[k]).getD 0),false):=by simp[wv,ho,hv]
     rw[hs] at he
     simp only at he
     obtain⟨n0,n1,n2,has,pre⟩:=p
     simp only at hpp hh hh0 hw2 b1 g3
     subst hpp
     have hk3:k=0∨k=1∨k=2:=by omega
     rcases hk3 with rfl | rfl | rfl
     ·have hlt':(0:Int)<(l.length:Int):=by omega
      simp[h2,g3,h4,h6,h7,h8,h9,h29,h30,h31,b0,b1,b2,hlt,hlt',hel,hgk,hn,hop,hv,hw,hw2]
      refine⟨by omega,_,?_,?_,?_,?_,?_,(by simpa using he)⟩<;>simp[Part.put]<;>omega
     ·have hlt':(1:Int)<(l.length:Int):=by omega
      simp[h2,g3,h4,h6,h7,h8,h9,h29,h30,h31,b0,b1,b2,hlt,hlt',hel,hgk,hn,hop,hv,hw,hw2]
      refine⟨by omega,_,?_,?_,?_,?_,?_,(by simpa using he)⟩<;>simp[Part.put]<;>omega
     ·have hlt':(2:Int)<(l.length:Int):=by omega
      simp[h2,g3,h4,h6,h7,h8,h9,h29,h30,h31,b0,b1,b2,hlt,hlt',hel,hgk,hn,hop,hv,hw,hw2]
      refine⟨by omega,_,?_,?_,?_,?_,?_,(by simpa using he)⟩<;>simp[Part.put]<;>omega
    ·have hs:wv (p,true) k l[k]=none:=by simp[wv,ho]
     rw[hs] at he
     rw[he] at hrv
     simp only at hrv
     simp[h2,g3,h4,h6,h7,h8,h9,h29,h30,h31,b0,b1,b2,hlt,hel,hgk,hn,hop,rvP,hrv,K1,ver0,Ver.enc,f159]
  ·have hs:wv (p,op) k l[k]=some (p,true):=by simp[wv,ho]
   rw[hs] at he
   rw[ho] at hop
   simp[h2,g3,h4,h6,h7,h8,h9,h29,h30,h31,b0,b1,b2,hlt,hel,hgk,hop,hw]
   exact⟨by omega,p,hpp,rfl,by omega,hh0,⟨rfl,rfl,rfl⟩,he⟩
 ·obtain rfl:k=l.length:=by omega
  rw[List.drop_length] at he
  simp only[qS] at he
  rw[he] at hrv
  simp only at hrv
  have hbe:((p.has:Int)==3)=(p.has==3):=rfl
  cases c3
  ·rw[if_neg (by simp)] at hrp
   rw[hrp] at hrv
   simp at hrv
   simp[h2,g3,h4,h6,h7,h8,h9,h29,h30,h31,b0,b1,b2,zx,zR,rvP,hrv,K1,Ver.enc,zD,f159]
  ·rw[if_pos rfl] at hrp
   rw[hrp] at hrv
   have hel2:(zD pl).length=pl.length:=by simp[zD]
   simp[h2,g3,h4,h6,h7,h8,h9,h29,h30,h31,b0,b1,b2,hsp2,zx,zR]
   refine zu (fun k σ hp nx=>σ 2=.ref 0 0 0∧σ 3=int p.has∧σ 4=boo false∧σ 7=boo true∧σ 75=.own 3 0 pl.length∧σ 76=int pl.length∧σ 77=int k∧hp 0=some ⟨115,4,false,[[int p.n0,int p.n1,int p.n2,.own 3 0 pl.length]]⟩∧hp 3=some ⟨9,1,true,zD pl⟩∧pl.any qf=(pl.drop k).any qf) pl.length
    ⟨by simp[h2],by simp[g3],by simp[h4],by simp[h7],by simp,by simp,by simp,by simp,(by simp;rfl),by simp⟩ ?_
   clear h2 g3 h4 h6 h7 h8 h9 h29 h30 h31 b0 b1 b2 hk hlt hh σ hp
   rintro k σ hp nx hk ⟨h2,g3,h4,h7,h75,h76,h77,b0,b3,hx⟩
   by_cases hlt:k<pl.length
   ·have hw:IntKind.i64.wrap ((k:Int)+1)=(k:Int)+1:=zc (by omega) (by omega)
    have hgk:=ZW hlt
    have hip:=fun hp nx=>wO (fun l=>!qf l) pl[k] hp nx (hql _ (List.getElem_mem hlt))
    rw[List.drop_eq_getElem_cons hlt,List.any_cons] at hx
    cases hb:qf pl[k]
    ·rw[hb,Bool.false_or] at hx
     simp[h2,g3,h4,h7,h75,h76,h77,b0,b3,hlt,hel2,hgk,hip,hb,hw]
     exact⟨by omega,hx⟩
    ·rw[hb,Bool.true_or] at hx
     rw[hx,if_pos rfl] at hrv
     simp[h2,g3,h4,h7,h75,h76,h77,b0,b3,hlt,hel2,hgk,hip,hb,rvP,hrv,K1,Ver.enc,f159]
   ·obtain rfl:k=pl.length:=by omega
    rw[List.drop_length,List.any_nil] at hx
    rw[hx,if_neg (by simp)] at hrv
    have hd:decide (pl.length≤10)=decide ((pl.length:Int)≤10):=by congr 1;exact propext ⟨fun h=>by omega,fun h=>by omega⟩
    rw[hd] at hrv
    simp[h2,g3,h4,h7,h75,h76,h77,b0,b3,rvP,hrv,K1,Ver.enc,f159]
theorem ji:za prog 159 (zd false [] (VU rvP)) :=
 xw (fn:=f159) zro ⟨_,func159,by kernel_rfl,rfl,by kernel_rfl⟩ false [] _ fun args r h w S vs hz=>by
  obtain⟨l,rfl,hp,rfl⟩:=ze h
  obtain⟨r0,h1,h2⟩:=Yz l hp
  exact⟨_,r0,hz,by simp[f159],h1,h2⟩
theorem zlQ (s:List UInt8):QX s=if (rvR s).2.2=true∧(rvR s).2.1≠0 then some ⟨(rvR s).1.a,(rvR s).1.b,(rvR s).1.c,(rvR s).2.1,(rvR s).1.pre⟩ else none:=by
 unfold QX rdR rvR
 by_cases h3:3<(zy (Lib.cut s [45]).1 [46]).length
 ·rw[if_pos h3,if_pos h3];simp
 rw[if_neg h3,if_neg h3]
 cases qS (part0,false) 0 (zy (Lib.cut s [45]).1 [46]) with
 | none=>simp
 | some st =>
   simp only
   cases hb:(yb s).any qf
   ·simp only[Bool.false_eq_true,if_false]
    by_cases hc:((Lib.cut s [45]).2.2=false∨st.1.has=3)∧(yb s).length≤10
    ·rw[if_pos hc]
     have hc':((!(Lib.cut s [45]).2.2||st.1.has==3)&&decide ((yb s).length≤10))=true:=by
      simp only[Bool.and_eq_true,Bool.or_eq_true,Bool.not_eq_true',beq_iff_eq,decide_eq_true_eq];exact hc
     simp only[hc',true_and]
     by_cases h0:st.1.has=0
     ·simp[h0]
     ·simp[h0]
    ·rw[if_neg hc]
     have hc':¬((!(Lib.cut s [45]).2.2||st.1.has==3)&&decide ((yb s).length≤10))=true:=by
      simp only[Bool.and_eq_true,Bool.or_eq_true,Bool.not_eq_true',beq_iff_eq,decide_eq_true_eq];exact hc
     simp only[hc',false_and,if_false]
     simp
   ·simp
theorem zfN:zg C0 f209 []=some (.agg leastC.enc):=by
 refine zb rfl ?_
 simp[leastC,Cut.enc,zD,str,zx,zR,zh,zo,zf,qe,f209]
theorem Jg:za prog 209 (zG [] (QF (.agg leastC.enc))) :=
 zZ (fn:=f209) yl ⟨_,func209,by kernel_rfl,rfl,by kernel_rfl⟩ _ _ fun args r h=>by
  obtain⟨_,rfl,_,rfl⟩:=ze h
  exact⟨by simp[f209],_,zfN,Stands.refl _⟩
def Ver.part (v:Ver) (m:Int):Part:=⟨v.a,v.b,v.c,m,v.pre⟩
def Ver.ok (v:Ver):Prop:=(0≤v.a∧v.a≤999999)∧(0≤v.b∧v.b≤999999)∧(0≤v.c∧v.c≤999999)∧yL v.pre
noncomputable def FVI (f:Ver→Int→PV) (pre:Int→Prop):List PV→Option PV:=zJ (α:=Ver×Int) (fun a=>[.agg a.1.enc,int a.2]) (fun a=>a.1.ok∧pre a.2) (fun a=>f a.1 a.2)
theorem ztz:∀a b:Ver×Int,[PV.agg a.1.enc,int a.2]=[PV.agg b.1.enc,int b.2]→a=b:=by
 rintro⟨a1,a2⟩ ⟨b1,b2⟩ e
 simp only[List.cons.injEq,and_true] at e
 obtain⟨e1,e2⟩:=e
 injection e1 with e1
 rw[vi e1,zP e2]
theorem Wz (f:Ver→Int→PV) (pre:Int→Prop) (v:Ver) (i:Int) (u:PV) (hp:Hp) (nx:Nat) (h:v.ok) (hi:pre i) (hu:(Sh.g jP).fix u=.agg v.enc) (hf:zE hp u=some (u,hp)) (hn:u.noOwn=true):zG [.g jP] (FVI f pre) [u,int i] hp nx=some (f v i,hp,nx) :=
 yp (show zj hp [u,int i]=some ([u,int i],hp) by simp only[zj,hf];rfl) (by
  show FVI f pre [(Sh.g jP).fix u,int i]=_
  rw[hu]
  exact zm (enc:=fun a:Ver×Int=>[PV.agg a.1.enc,int a.2]) (a:=(v,i)) ztz ⟨h,hi⟩) (.inr (by rw[List.all_cons,hn];rfl))
theorem Z3 (v:Ver):(Sh.g jP).fix (.agg v.enc)=.agg v.enc:=by simp[Ver.enc]
theorem WA (v:Ver) (hp:Hp):zE hp (.agg v.enc)=some (.agg v.enc,hp):=by simp[Ver.enc]
theorem WB (v:Ver):PV.noOwn (.agg v.enc)=true:=by simp[Ver.enc]
def jj (v:Ver) (i:Int):PV:=yn (v.part 3) i.toNat
noncomputable abbrev zv9:Ctx:=jh prog [] 7 [(6,4),(28,4),(30,4),(32,4),(38,4)] [4,6,28,30,32,38] []
theorem zrp:AM.Good zv9 (fun g=>([]:List Nat).contains g):=zdk mixed trivial trivial
theorem zdF (v:Ver) (i:Int) (hv:v.ok) (hi:0≤i∧i<3):∃r0,zg zv9 f244 [.agg v.enc,int i]=some r0∧Stands r0 (jj v i):=by
 obtain⟨a,b,c,e⟩:=v
 obtain⟨⟨a1,a2⟩,⟨b1,b2⟩,⟨c1,c2⟩,_⟩:=hv
 simp only at a1 a2 b1 b2 c1 c2
 refine qt (sh:=.g y8) rfl ?_
 have wa:IntKind.i64.wrap (a+1)=a+1:=zc (by omega) (by omega)
 have wb:IntKind.i64.wrap (b+1)=b+1:=zc (by omega) (by omega)
 have wc:IntKind.i64.wrap (c+1)=c+1:=zc (by omega) (by omega)
 rcases (by omega:i=0∨i=1∨i=2) with rfl | rfl | rfl
 ·simp[Ver.enc,zx,zR,wa]
  rw[zl]
  simp
  rw[zl]
  simp
  rw[zl]
  simp
  rw[qX (qn (vW (by simp;exact⟨rfl,rfl,rfl⟩) (by simp;exact⟨rfl,rfl,rfl⟩) (by omega) (by simp;rfl) rfl) (qn (qZ (by simp;rfl)) (qn (qZ (by simp;rfl)) (qn (qZ (by simp;rfl)) (qn (qZ (by simp;rfl)) (vV _))))))
   (yO (by simp;exact⟨rfl,rfl,rfl⟩) (by simp) (by simp;rfl) rfl (yO (by simp;exact⟨rfl,rfl,rfl⟩) (by simp) (by simp;rfl) rfl (wQ (by simp;rfl) (wQ (by simp;rfl) (wQ (by simp;rfl) (wQ (by simp;rfl) (ZZ _)))))))]
  simp[zx,zR,zh,zo,zf,zF,jj,Ver.part,yn,qV,yB,Cut.enc,zD,str,f244]
  exact⟨_,⟨rfl,rfl⟩,rfl⟩
 ·simp[Ver.enc,zx,zR,wb]
  rw[zl]
  simp
  rw[zl]
  simp
  rw[qX (qn (vW (by simp;exact⟨rfl,rfl,rfl⟩) (by simp;exact⟨rfl,rfl,rfl⟩) (by omega) (by simp;rfl) rfl) (qn (qZ (by simp;rfl)) (qn (qZ (by simp;rfl)) (qn (qZ (by simp;rfl)) (qn (qZ (by simp;rfl)) (vV _))))))
   (yO (by simp;exact⟨rfl,rfl,rfl⟩) (by simp) (by simp;rfl) rfl (yO (by simp;exact⟨rfl,rfl,rfl⟩) (by simp) (by simp;rfl) rfl (wQ (by simp;rfl) (wQ (by simp;rfl) (wQ (by simp;rfl) (wQ (by simp;rfl) (ZZ _)))))))]
  simp[zx,zR,zh,zo,zf,zF,jj,Ver.part,yn,qV,yB,Cut.enc,zD,str,f244]
  exact⟨_,⟨rfl,rfl⟩,rfl⟩
 ·simp[Ver.enc,zx,zR,wc]
  rw[zl]
  simp
  rw[qX (qn (vW (by simp;exact⟨rfl,rfl,rfl⟩) (by simp;exact⟨rfl,rfl,rfl⟩) (by omega) (by simp;rfl) rfl) (qn (qZ (by simp;rfl)) (qn (qZ (by simp;rfl)) (qn (qZ (by simp;rfl)) (qn (qZ (by simp;rfl)) (vV _))))))
   (yO (by simp;exact⟨rfl,rfl,rfl⟩) (by simp) (by simp;rfl) rfl (yO (by simp;exact⟨rfl,rfl,rfl⟩) (by simp) (by simp;rfl) rfl (wQ (by simp;rfl) (wQ (by simp;rfl) (wQ (by simp;rfl) (wQ (by simp;rfl) (ZZ _)))))))]
  simp[zx,zR,zh,zo,zf,zF,jj,Ver.part,yn,qV,yB,Cut.enc,zD,str,f244]
  exact⟨_,⟨rfl,rfl⟩,rfl⟩
theorem WC:za prog 244 (zG [.g jP] (FVI jj fun i=>0≤i∧i<3)) :=
 zZ (fn:=f244) zrp ⟨_,func244,by kernel_rfl,rfl,by kernel_rfl⟩ _ _ fun args r h=>by
  obtain⟨⟨p,i⟩,rfl,⟨h1,h2⟩,rfl⟩:=ze h
  obtain⟨r0,h3,h4⟩:=zdF p i h1 h2
  exact⟨by simp[f244],r0,h3,h4⟩
def vB (v:Ver) (m:Int):PV:=Wn (v.part m)
noncomputable abbrev zwa:Ctx:=zC prog [(244,zG [.g jP] (FVI jj fun i=>0≤i∧i<3))]
theorem zrq:AM.Good zwa (fun g=>([]:List Nat).contains g):=zk mixed ⟨WC,by simp,trivial⟩
theorem K2 (v:Ver) (m n:Int) (i:Nat):qV (v.part m) i=qV (v.part n) i∧yB (v.part m) i=yB (v.part n) i:=by
 match i with
 | 0=>exact⟨rfl,rfl⟩
 | 1=>exact⟨rfl,rfl⟩
 | _+2=>exact⟨rfl,rfl⟩
theorem zfO (v:Ver) (m:Int) (hv:v.ok) (hm:1≤m∧m≤3):zg zwa f242 [.agg v.enc,int m]=some (vB v m):=by
 refine zb rfl ?_
 have hr:=fun hp nx=>Wz jj (fun i=>0≤i∧i<3) v (m - 1) (.agg v.enc) hp nx hv
 obtain⟨e1,e2⟩:=K2 v m 3 (m - 1).toNat
 have hw:IntKind.i64.wrap (m - 1)=m - 1:=zc (by omega) (by omega)
 by_cases h3:m=3
 ·subst h3
  simp[Ver.enc,zx,zR,vB,Wn,jq,xz,Ver.part,Cut.enc,qe,f242]
 ·have hr:=fun hp nx=>hr hp nx (by omega) (Z3 v) (WA v hp) (WB v)
  have h3':(m==3)=false:=by simpa using h3
  have h3'':m<3:=by omega
  simp only[jj,yn,Ver.enc,Cut.enc,←e1,←e2] at hr
  have e5:(v.part m).has=m:=rfl
  simp[Ver.enc,h3',hw,hr,vB,Wn,jq,xz,e5,h3'',Cut.enc,qe,f242]
theorem Jh:za prog 242 (zG [.g jP] (FVI vB fun m=>1≤m∧m≤3)) :=
 zZ (fn:=f242) zrq ⟨_,func242,by kernel_rfl,rfl,by kernel_rfl⟩ _ _ fun args r h=>by
  obtain⟨⟨p,i⟩,rfl,⟨h1,h2⟩,rfl⟩:=ze h
  exact⟨by simp[f242],_,zfO p i h1 h2,Stands.refl _⟩
noncomputable abbrev zwb:Ctx:=zC prog []
theorem zrr:AM.Good zwb (fun g=>([]:List Nat).contains g):=zk mixed trivial
def jk (v:Ver) (m:Int):PV:=int (wD (v.part m))
theorem zfP (v:Ver) (m:Int) (hm:1≤m∧m≤3):zg zwb f245 [.agg v.enc,int m]=some (jk v m):=by
 obtain⟨a,b,c,e⟩:=v
 refine zb rfl ?_
 rcases (by omega:m=1∨m=2∨m=3) with rfl | rfl | rfl
 ·simp[Ver.enc,zh,zo,zf,wB]
  rw[zl]
  by_cases ha:a=0
  ·have ha':(a != 0)=false:=by simpa using ha
   simp[ha']
   rw[zl]
   simp[jk,wD,Ver.part,f245]
  ·have ha':(a != 0)=true:=by simpa using ha
   simp[ha',jk,wD,Ver.part,f245]
 ·simp[Ver.enc,zh,zo,zf,wB]
  rw[zl]
  by_cases ha:a=0
  ·have ha':(a != 0)=false:=by simpa using ha
   simp[ha']
   rw[zl]
   by_cases hb:b=0
   ·have hb':(b != 0)=false:=by simpa using hb
    simp[hb']
    rw[zl]
    simp[jk,wD,Ver.part,ha,f245]
   ·have hb':(b != 0)=true:=by simpa using hb
    simp[hb',jk,wD,Ver.part,ha,f245]
  ·have ha':(a != 0)=true:=by simpa using ha
   simp[ha',jk,wD,Ver.part,ha,f245]
 ·simp[Ver.enc,zh,zo,zf,wB]
  rw[zl]
  by_cases ha:a=0
  ·have ha':(a != 0)=false:=by simpa using ha
   simp[ha']
   rw[zl]
   by_cases hb:b=0
   ·have hb':(b != 0)=false:=by simpa using hb
    simp[hb']
    rw[zl]
    by_cases hc:c=0
    ·have hc':(c != 0)=false:=by simpa using hc
     simp[hc']
     rw[zl]
     simp[jk,wD,Ver.part,ha,hb,f245]
    ·have hc':(c != 0)=true:=by simpa using hc
     simp[hc',jk,wD,Ver.part,ha,hb,f245]
   ·have hb':(b != 0)=true:=by simpa using hb
    simp[hb',jk,wD,Ver.part,ha,hb,f245]
  ·have ha':(a != 0)=true:=by simpa using ha
   simp[ha',jk,wD,Ver.part,ha,f245]
theorem zdG:za prog 245 (zG [.g jP] (FVI jk fun m=>1≤m∧m≤3)) :=
 zZ (fn:=f245) zrr ⟨_,func245,by kernel_rfl,rfl,by kernel_rfl⟩ _ _ fun args r h=>by
  obtain⟨⟨p,i⟩,rfl,⟨h1,h2⟩,rfl⟩:=ze h
  exact⟨by simp[f245],_,zfP p i h2,Stands.refl _⟩
noncomputable abbrev zwc:Ctx:=zC prog [(216,zG [.g y8,.g y8] (FCC fun v w=>int (qx v w)))]
theorem zrs:AM.Good zwc (fun g=>([]:List Nat).contains g):=zk mixed ⟨yd,by simp,trivial⟩
theorem zje (x y:Cut) (hx:x.v.small) (hy:y.v.small):∃r0,zg zwc f243 [.agg x.enc,.agg y.enc]=some r0∧Stands r0 (zbb x y):=by
 refine vd (sh:=.s 11 y9) rfl ?_
 have hc:=fun hp nx=>zfy x y (.agg x.enc) (.agg y.enc) hp nx (by simp[Cut.enc]) (by simp[Cut.enc]) (by simp[Cut.enc]) hx hy
 simp only[Cut.enc] at hc
 by_cases h:0≤qx x y
 ·simp[Cut.enc,hc,h,zaS,zbb,btw,zN,f243]
 ·simp[Cut.enc,hc,h,zx,zR,zh,zo,zf,zaS,zbb,btw,zN,zfA,Str.enc,f243]
theorem K3:za prog 243 (zG [.g y8,.g y8] (FCC zbb)) :=
 zZ (fn:=f243) zrs ⟨_,func243,by kernel_rfl,rfl,by kernel_rfl⟩ _ _ fun args r h=>by
  obtain⟨⟨v,w⟩,rfl,⟨h1,h2⟩,rfl⟩:=ze h
  obtain⟨r0,h3,h4⟩:=zje v w h1 h2
  exact⟨by simp[f243],r0,h3,h4⟩
noncomputable abbrev zwd:Ctx:=zC prog [(109,zd false [] (FTT hpP fun _ _=>True))]
theorem zrt:AM.Good zwd (fun g=>([]:List Nat).contains g):=zk mixed ⟨kE,by simp,trivial⟩
def zru (s:List UInt8):PV:=str (opW sgs s).1
theorem Xm (s:List UInt8) (h:s.length≤lim):zg zwd f240 [str s]=some (zru s):=by
 refine zb rfl ?_
 have hb:∀hp nx,zh prog hp nx 37 7 [(0,str [62,61]),(1,str [60,61]),(2,str [62]),(3,str [60]),(4,str [61]),(5,str [126]),(6,str [94])]=some (.own nx 0 7,upd hp nx (some ⟨9,1,true,zD sgs⟩),nx+1):=fun hp nx=>by
  simp[zh,zo,zf,sgs,str]
 simp[str] at hb
 simp[hb]
 refine zu (fun k σ hp nx=>σ 0=str s∧σ 5=.own 0 0 7∧σ 6=int 7∧σ 7=int k∧hp 0=some ⟨9,1,true,zD sgs⟩∧opW sgs s=opW (sgs.drop k) s) 7 ⟨by simp,by simp,by simp,by simp,by simp,by simp⟩ ?_
 rintro k σ hp nx hk ⟨h0,h8,h9,h10,b0,he⟩
 by_cases hlt:k<7
 ·have hl:k<sgs.length:=hlt
  have hgl:sgs[k].length≤lim:=by
   have:∀q∈sgs,q.length≤lim:=by decide
   exact this _ (List.getElem_mem hl)
  have hc:=fun hp nx=>Yl s sgs[k] hp nx h hgl
  have hw:IntKind.i64.wrap ((k:Int)+1)=(k:Int)+1:=zc (by omega) (by omega)
  have hk7:(k:Int)<7:=by omega
  rw[List.drop_eq_getElem_cons hl] at he
  simp only[opW] at he
  by_cases hp:(sgs[k]).isPrefixOf s=true
  ·rw[if_pos hp] at he
   simp[h0,h8,h9,h10,b0,hk7,hlt,hl,hc,hp,hw,zru,he,qe,f240]
  ·rw[if_neg hp] at he
   have hp':(sgs[k]).isPrefixOf s=false:=Bool.eq_false_iff.2 hp
   simp[h0,h8,h9,h10,b0,hk7,hlt,hl,hc,hp',hw]
   exact⟨by omega,he⟩
 ·obtain rfl:k=7:=by omega
  rw[show sgs.drop 7=[] from rfl] at he
  simp only[opW] at he
  simp[h0,h8,h9,h10,zru,he,qe,f240]
theorem K4:za prog 240 (zd false [] (FSP zru)) :=
 zL (fn:=f240) zrt ⟨_,func240,by kernel_rfl,rfl,by kernel_rfl⟩ false [] _ fun args r h=>by
  obtain⟨l,rfl,hp,rfl⟩:=ze h
  exact⟨by simp[f240],_,Xm l hp,zK _⟩
def sp1 (c:UInt8):List UInt8→List (List UInt8)
 | []=>[[]]
 | b::l=>if b=c then []::sp1 c l else match sp1 c l with
   | []=>[[b]]
   | p::ps=>(b::p)::ps
theorem zqc (c:UInt8):∀l,∃p ps,sp1 c l=p::ps
 | []=>⟨[],[],rfl⟩
 | b::l=>by
   unfold sp1
   split
   ·exact⟨_,_,rfl⟩
   ·split
    ·exact⟨_,_,rfl⟩
    ·exact⟨_,_,rfl⟩
theorem QK {s sep:List UInt8} (h:Lib.index s sep=-1):zy s sep=[s]:=by
 unfold zy Lib.split
 rw[Lib.count_miss h]
 rfl
theorem YA {s sep:List UInt8} {i:Nat} (hne:sep≠[]) (h:Lib.index s sep=i):zy s sep=s.take i::zy (s.drop (i+sep.length)) sep:=by
 unfold zy Lib.split
 rw[Lib.count_hit hne h,Nat.add_comm 1,Ym h]
theorem YB (c:UInt8):∀s:List UInt8,zy s [c]=sp1 c s
 | []=>QK rfl
 | b::l=>by
   have ih:=YB c l
   by_cases h:b=c
   ·subst h
    have hi:Lib.index (b::l) [b]=((0:Nat):Int):=by simp[Lib.index]
    rw[YA (by simp) hi]
    simp[sp1,ih]
   ·have hc:¬c=b:=fun e=>h e.symm
    rcases Lib.index_spec l [c] with⟨h1,_⟩ | ⟨i,h1,_⟩
    ·have hi:Lib.index (b::l) [c]=-1:=by simp[Lib.index,hc,h1]
     rw[QK hi]
     rw[QK h1] at ih
     simp[sp1,h,←ih]
    ·have hi:Lib.index (b::l) [c]=((i+1:Nat):Int):=by
      have:¬((i:Int)=-1):=by omega
      simp[Lib.index,hc,h1,this]
     rw[YA (by simp) hi]
     rw[YA (by simp) h1] at ih
     simp only[sp1,if_neg h,←ih]
     simp
def wd (s:List UInt8):List (List UInt8):=z7 (sp1 32 s)
theorem K5 (s:List UInt8):z7 (zy s [32])=wd s:=by rw[YB];rfl
theorem zfQ:wd []=[]:=rfl
theorem QL (x:List UInt8) (l:List (List UInt8)):z7 (x::l)=if x=[] then z7 l else x::z7 l:=by
 cases x<;>simp[z7,emp]
theorem zqd (s:List UInt8):wd (32::s)=wd s:=by
 simp[wd,sp1,QL]
theorem WD:∀s:List UInt8,wd (Lib.trimLeftB s 32)=wd s
 | []=>rfl
 | b::l=>by
   unfold Lib.trimLeftB
   by_cases h:b=32
   ·subst h
    rw[List.dropWhile_cons_of_pos (by simp),zqd]
    exact WD l
   ·rw[List.dropWhile_cons_of_neg (by simpa using h)]
theorem zhx (c:UInt8):∀s:List UInt8,sp1 c (s++[c])=sp1 c s++[[]]
 | []=>by simp[sp1]
 | b::l=>by
   have ih:=zhx c l
   obtain⟨p,ps,e⟩:=zqc c l
   by_cases h:b=c
   ·simp[sp1,h,ih]
   ·simp[sp1,h,ih,e]
theorem zoM (s:List UInt8):wd (s++[32])=wd s:=by
 unfold wd
 rw[zhx]
 simp[z7,emp]
theorem zlR (s:List UInt8):wd (Lib.trimRightB s 32)=wd s:=by
 have key:∀m:List UInt8,wd ((m.dropWhile (·==32)).reverse)=wd m.reverse:=by
  intro m
  induction m with
  | nil=>rfl
  | cons b m ih =>
    by_cases h:b=32
    ·subst h
     rw[List.dropWhile_cons_of_pos (by simp),ih,List.reverse_cons,zoM]
    ·rw[List.dropWhile_cons_of_neg (by simpa using h)]
 have:=key s.reverse
 rwa [List.reverse_reverse] at this
theorem zoN (s:List UInt8):wd (Lib.trimB s 32)=wd s:=by
 unfold Lib.trimB
 rw[WD,zlR]
def hd (s:List UInt8):List UInt8:=s.takeWhile (· != 32)
def tl (s:List UInt8):List UInt8:=s.dropWhile (· != 32)
theorem zdH (s:List UInt8):hd s++tl s=s:=List.takeWhile_append_dropWhile
theorem zfR:∀(u:List UInt8),(∀c∈u,c≠32)→∀r,(sp1 32 (u++32::r)=u::sp1 32 r)∧sp1 32 u=[u]
 | [],_,r=>⟨by simp[sp1],rfl⟩
 | b::u,h,r=>by
   obtain⟨h1,h2⟩:=zfR u (fun c hc=>h c (by simp[hc])) r
   have hb:¬b=32:=h b (by simp)
   constructor
   ·rw[List.cons_append,sp1,if_neg hb,h1]
   ·rw[sp1,if_neg hb,h2]
theorem zrv (s:List UInt8):∀c∈hd s,c≠32:=fun c hc=>by
 have:=List.all_takeWhile (p:=fun c:UInt8=>c != 32) (l:=s)
 rw[List.all_eq_true] at this
 simpa using this c hc
theorem zfS (s:List UInt8):tl s=[]∨∃r,tl s=32::r:=by
 unfold tl
 induction s with
 | nil=>exact .inl rfl
 | cons b s ih =>
   by_cases h:b=32
   ·subst h;rw[List.dropWhile_cons_of_neg (by simp)];exact .inr ⟨s,rfl⟩
   ·rw[List.dropWhile_cons_of_pos (by simpa using h)];exact ih
theorem zhy {s:List UInt8} (h:hd s≠[]):wd s=hd s::wd (tl s):=by
 have e:=zdH s
 rcases zfS s with h1 | ⟨r,h1⟩
 ·rw[h1,List.append_nil] at e
  rw[h1,zfQ]
  conv=>lhs;rw[←e]
  unfold wd
  rw[(zfR (hd s) (zrv s) []).2,QL,if_neg h]
  rfl
 ·rw[h1] at e ⊢
  rw[zqd]
  conv=>lhs;rw[←e]
  unfold wd
  rw[(zfR (hd s) (zrv s) r).1,QL,if_neg h]
def zoO (s:List UInt8):Prop:=s=[]∨hd s≠[]
theorem xE:∀s:List UInt8,zoO (Lib.trimLeftB s 32)
 | []=>.inl rfl
 | b::l=>by
   unfold Lib.trimLeftB
   by_cases h:b=32
   ·subst h
    rw[List.dropWhile_cons_of_pos (by simp)]
    exact xE l
   ·rw[List.dropWhile_cons_of_neg (by simpa using h)]
    exact .inr (by simp[hd,h])
theorem zoP {s:List UInt8} (h:zoO s):Lib.trimLeftB s 32=s:=by
 cases s with
 | nil=>rfl
 | cons b l =>
   rcases h with h | h
   ·cases h
   ·unfold Lib.trimLeftB
    by_cases hb:b=32
    ·subst hb;exact absurd (by simp[hd]) h
    ·rw[List.dropWhile_cons_of_neg (by simpa using hb)]
theorem WE (s:List UInt8):(Lib.trimLeftB s 32).length≤s.length:=(List.dropWhile_sublist _).length_le
theorem ztA {g:List UInt8} (hg:∀c∈g,c≠32) (s:List UInt8):g.isPrefixOf s=g.isPrefixOf (hd s):=by
 induction g generalizing s with
 | nil=>simp
 | cons a g ih =>
   cases s with
   | nil=>rfl
   | cons b s =>
     have ha:=hg a (by simp)
     by_cases hb:b=32
     ·subst hb
      have e:hd (32::s)=[]:=by simp[hd]
      rw[e]
      simp[List.isPrefixOf,ha]
     ·have e:hd (b::s)=b::hd s:=by simp[hd,hb]
      rw[e]
      simp only[List.isPrefixOf]
      rw[ih (fun c hc=>hg c (by simp[hc])) s]
theorem zqe:∀(gs:List (List UInt8)) (_:∀g∈gs,∀c∈g,c≠32) (s:List UInt8),opW gs s=((opW gs (hd s)).1,(opW gs (hd s)).2++tl s)
 | [],_,s=>by simp[opW,zdH]
 | g::gs,h,s=>by
   have hp:=ztA (h g (by simp)) s
   simp only[opW]
   rw[hp]
   split
   ·rename_i hq
    have hl:=(List.isPrefixOf_iff_prefix.1 hq).length_le
    have e:=zdH s
    conv=>lhs;rw[←e]
    rw[List.drop_append_of_le_length hl]
   ·exact zqe gs (fun g hg=>h g (by simp[hg])) s
theorem ztB:∀g∈sgs,∀c∈g,c≠32:=by decide
theorem ki:∀(gs:List (List UInt8)) (s:List UInt8),(opW gs s).2=s.drop (opW gs s).1.length
 | [],s=>rfl
 | g::gs,s=>by
   simp only[opW]
   split
   ·rfl
   ·exact ki gs s
theorem zjf (gs:List (List UInt8)) (s:List UInt8):(opW gs s).2 <:+ s:=by rw[ki];exact List.drop_suffix _ _
abbrev Tok:=List UInt8×List UInt8
def jy:List (List UInt8)→Option (List Tok)
 | []=>some []
 | [w]=>if (opW sgs w).2=[] then none else some [opW sgs w]
 | w::x::ws=>if (opW sgs w).2=[] then (jy ws).map (((opW sgs w).1,x)::·) else (jy (x::ws)).map (opW sgs w::·)
theorem vZ (w:List UInt8) (ws:List (List UInt8)) (h:(opW sgs w).2≠[]):jy (w::ws)=(jy ws).map (opW sgs w::·):=by
 cases ws with
 | nil=>simp[jy,h]
 | cons x ws=>simp[jy,h]
def zoQ (s:List UInt8):Tok×List UInt8:=((((opW sgs s).1,hd (Lib.trimLeftB (opW sgs s).2 32)):Tok),tl (Lib.trimLeftB (opW sgs s).2 32))
theorem zoR {s:List UInt8} (h:hd s≠[]):jy (wd s)=if (zoQ s).1.2=[] then none else (jy (wd (zoQ s).2)).map ((zoQ s).1::·):=by
 have ho:=zqe sgs ztB s
 obtain⟨o,r,hor⟩:∃o r,opW sgs (hd s)=(o,r):=⟨_,_,rfl⟩
 rw[hor] at ho
 simp only at ho
 have hrs:∀c∈r,c≠32:=fun c hc=>by
  have:=zjf sgs (hd s)
  rw[hor] at this
  exact zrv s c (this.mem hc)
 rw[zhy h]
 by_cases hr:r=[]
 ·subst hr
  rw[List.nil_append] at ho
  unfold zoQ
  rw[ho]
  simp only
  obtain⟨u,hu⟩:∃u,Lib.trimLeftB (tl s) 32=u:=⟨_,rfl⟩
  have hw:wd (tl s)=wd u:=by rw[←hu,WD]
  have ht:zoO u:=by rw[←hu];exact xE _
  rw[hu,hw]
  rcases ht with rfl | ht
  ·rw[zfQ,if_pos (show hd []=[] from rfl)]
   simp[jy,hor]
  ·rw[zhy ht,if_neg ht]
   simp[jy,hor]
 ·have h1:Lib.trimLeftB (r++tl s) 32=r++tl s:=by
   cases r with
   | nil=>exact absurd rfl hr
   | cons b r =>
     have hb:=hrs b (by simp)
     exact zoP (.inr (by simp[hd,hb]))
  have h2:hd (r++tl s)=r:=by
   unfold hd
   rw[List.takeWhile_append_of_pos (fun c hc=>by simpa using hrs c hc)]
   rcases zfS s with e | ⟨q,e⟩<;>rw[e]<;>simp
  have h3:tl (r++tl s)=tl s:=by
   unfold tl
   rw[List.dropWhile_append_of_pos (fun c hc=>by simpa using hrs c hc)]
   rcases zfS s with e | ⟨q,e⟩
   ·have e':List.dropWhile (fun x=>x != 32) s=[]:=e
    rw[e'];rfl
   ·have e':List.dropWhile (fun x=>x != 32) s=32::q:=e
    rw[e'];rfl
  unfold zoQ
  rw[ho]
  simp only
  rw[h1,h2,h3,if_neg hr,vZ _ _ (by rw[hor];exact hr),hor]
theorem zoS {s:List UInt8} (h:(zoQ s).1.2≠[]):(zoQ s).2.length<s.length:=by
 unfold zoQ at h ⊢
 simp only at h ⊢
 have h1:=zdH (Lib.trimLeftB (opW sgs s).2 32)
 have h2:=congrArg List.length h1
 rw[List.length_append] at h2
 have h3:=WE (opW sgs s).2
 have h4:=QG sgs s
 have h5:=List.length_pos_iff.2 h
 omega
theorem TO.ltle {α:Type} {c:α→α→Int} (h:TO c) {x y z:α} (h1:c x y<0) (h2:c y z≤0):c x z<0:=by
 rcases Int.lt_or_eq_of_le h2 with h2 | h2
 ·exact h.trans h1 h2
 ·have h3:=h.tr x y z (by omega) (by omega)
  rcases Int.lt_or_eq_of_le h3 with h4 | h4
  ·exact h4
  ·have e1:=(h.eq y z).1 h2
   have e2:=(h.eq x z).1 h4
   have:=h.tr y z x (by omega) (by omega)
   have:=(h.flip x y).1 h1
   omega
theorem TO.lelt {α:Type} {c:α→α→Int} (h:TO c) {x y z:α} (h1:c x y≤0) (h2:c y z<0):c x z<0:=by
 have h3:=h.tr x y z h1 (by omega)
 rcases Int.lt_or_eq_of_le h3 with h4 | h4
 ·exact h4
 ·have e2:=(h.eq x z).1 h4
  have:=h.tr z x y (by omega) h1
  have:=(h.flip y z).1 h2
  omega
theorem TO.irr {α:Type} {c:α→α→Int} (h:TO c) (x:α):¬c x x<0:=by rw[h.refl];omega
theorem TO.notlt {α:Type} {c:α→α→Int} (h:TO c) {x y:α} (h1:¬c x y<0):c y x≤0:=(h.le y x).2 (by omega)
theorem TO.notle {α:Type} {c:α→α→Int} (h:TO c) {x y:α} (h1:¬c x y≤0):c y x<0:=(h.flip y x).2 (by omega)
theorem zwQ {a b:Int} (h:orL [a,b]=0):a=0∧b=0:=by
 simp only[orL] at h
 split at h
 ·rename_i e
  split at h
  ·rename_i e2;exact⟨e,e2⟩
  ·rename_i e2;exact absurd h e2
 ·rename_i e;exact absurd h e
theorem zwR {a b c:Int} (h:orL [a,b,c]=0):a=0∧b=0∧c=0:=by
 simp only[orL] at h
 split at h
 ·rename_i e
  split at h
  ·rename_i e2
   split at h
   ·rename_i e3;exact⟨e,e2,e3⟩
   ·rename_i e3;exact absurd h e3
  ·rename_i e2;exact absurd h e2
 ·rename_i e;exact absurd h e
theorem zjg {p q:List UInt8} (hp:qF p=true) (hq:qF q=true) (h:Lib.trimLeftB p 48=Lib.trimLeftB q 48):p=q:=by
 have key:∀p:List UInt8,qF p=true→(p=[48]∧Lib.trimLeftB p 48=[])∨(Lib.trimLeftB p 48=p∧p≠[]):=by
  intro p hp
  cases p with
  | nil=>simp[qF] at hp
  | cons c l =>
    by_cases hc:c=48
    ·subst hc
     cases l with
     | nil=>exact .inl ⟨rfl,rfl⟩
     | cons d l=>simp[qF] at hp
    ·refine .inr ⟨?_,by simp⟩
     unfold Lib.trimLeftB
     rw[List.dropWhile_cons_of_neg (by simpa using hc)]
 rcases key p hp with⟨h1,h2⟩ | ⟨h1,h2⟩<;>rcases key q hq with⟨h3,h4⟩ | ⟨h3,h4⟩
 ·rw[h1,h3]
 ·rw[h2,h3] at h;exact absurd h.symm h4
 ·rw[h1,h4] at h;exact absurd h h2
 ·rw[h1,h3] at h;exact h
theorem zdI {p:List UInt8} (h:qf p=false):p≠[]∧(vg p=true→qF p=true):=by
 simp only[qf,Bool.or_eq_false_iff] at h
 obtain⟨⟨_,h2⟩,h3⟩:=h
 refine⟨fun e=>by subst e;simp[ziQ] at h2,fun hd=>?_⟩
 rw[hd] at h3
 simpa using h3
theorem zlS {p q:List UInt8} (hp:qf p=false) (hq:qf q=false) (h:qa p q=0):p=q:=by
 obtain⟨p1,p2⟩:=zdI hp
 obtain⟨q1,q2⟩:=zdI hq
 have ep:kd p=vg p:=by cases p<;>simp_all[kd]
 have eq_:kd q=vg q:=by cases q<;>simp_all[kd]
 unfold qa at h
 rw[ep,eq_] at h
 cases hdp:vg p<;>cases hdq:vg q<;>simp only[hdp,hdq,if_true,Bool.false_eq_true,if_false] at h
 ·exact (wY p q).1 h
 ·cases h
 ·cases h
 ·obtain⟨_,h2⟩:=zwQ h
  exact zjg (p2 hdp) (q2 hdq) ((wY _ _).1 h2)
theorem zlT {α:Type} {c:α→α→Int}:∀{a b:List α},(∀x∈a,∀y∈b,c x y=0→x=y)→wo c a b=0→a=b
 | [],[],_,_=>rfl
 | [],_::_,_,h=>by simp[wo] at h
 | _::_,[],_,h=>by simp[wo] at h
 | x::a,y::b,he,h=>by
   simp only[wo] at h
   split at h
   ·rename_i e
    rw[he x (by simp) y (by simp) e,zlT (fun u hu v hv=>he u (by simp[hu]) v (by simp[hv])) h]
   ·rename_i e;exact absurd h e
theorem zby {a b:Cut} (ha:a.good) (hb:b.good) (h:qx a b=0):a=b:=by
 obtain⟨⟨a1,a2,a3,a4⟩,a5⟩:=a
 obtain⟨⟨b1,b2,b3,b4⟩,b5⟩:=b
 unfold qx at h
 split at h
 ·rename_i hv
  have h5:a5=b5:=by
   split at h
   ·rename_i e;exact e
   ·split at h<;>cases h
  unfold vU at hv
  split at hv
  ·rename_i ho
   obtain⟨o1,o2,o3⟩:=zwR ho
   have e1:=Ws o1
   have e2:=Ws o2
   have e3:=Ws o3
   have e4:a4=b4:=by
    simp only at hv
    split at hv
    ·rename_i l1
     split at hv
     ·rename_i l2;rw[List.length_eq_zero_iff.1 l1,List.length_eq_zero_iff.1 l2]
     ·cases hv
    ·split at hv
     ·cases hv
     ·exact zlT (fun x hx y hy=>zlS (ha.2 x hx) (hb.2 y hy)) hv
   simp only at e1 e2 e3
   rw[e1,e2,e3,e4,h5]
  ·rename_i ho;exact absurd hv ho
 ·rename_i hv;exact absurd h hv
mutual
def rnC (is:Cut→Bool):List Cut→List Str
 | []=>[]
 | c::l=>if is c=true then rnO is c l else rnC is l
def rnO (is:Cut→Bool) (s:Cut):List Cut→List Str
 | []=>[qz s]
 | c::l=>if is c=true then rnO is s l else zfA s c::rnC is l
end
theorem zdJ (out:List Str) (s c:Cut):kI (out++[qz s]) c=out++[zfA s c]:=by
 unfold kI
 rw[List.getLast?_append]
 simp[qz,zfA]
theorem zdK (is:Cut→Bool):∀(l:List Cut) (out:List Str),(swL is l (false,out)).2=out++rnC is l∧∀s,(swL is l (true,out++[qz s])).2=out++rnO is s l
 | [],out=>⟨by simp[swL,rnC],fun s=>by simp[swL,rnO]⟩
 | c::l,out=>by
   have e1:∀st,swL is (c::l) st=swL is l (swS is st c):=fun _=>rfl
   constructor
   ·rw[e1]
    cases h:is c
    ·have:swS is (false,out) c=(false,out):=by simp[swS,h]
     rw[this,(zdK is l out).1,rnC,h,if_neg (by simp)]
    ·have:swS is (false,out) c=(true,out++[qz c]):=by simp[swS,h]
     rw[this,(zdK is l out).2 c,rnC,h,if_pos rfl]
   ·intro s
    rw[e1]
    cases h:is c
    ·have:swS is (true,out++[qz s]) c=(false,out++[zfA s c]):=by simp[swS,h,zdJ]
     rw[this,(zdK is l (out++[zfA s c])).1,rnO,h,if_neg (by simp),List.append_assoc]
     rfl
    ·have:swS is (true,out++[qz s]) c=(true,out++[qz s]):=by simp[swS,h]
     rw[this,(zdK is l out).2 s,rnO,h,if_pos rfl]
noncomputable def zfT (a b:List Str):List Cut:=zbo (vn (zV a++zV b))
theorem zhz (f:Bool→Bool→Bool) (a b:List Str):yS f a b=rnC (fun c=>f (wG a c) (wG b c)) (zfT a b):=by
 unfold yS
 rw[zbp,(zdK _ _ []).1]
 rfl
theorem ZI (a b:List Str) (c:Cut):c∈zfT a b↔c∈zV a∨c∈zV b:=by
 unfold zfT
 rw[KX,(yR _).mem_iff,List.mem_append]
theorem WF {l:List Str} (h:goodR l):∀c∈zV l,c.good:=vX h
theorem ZJ {a b:List Str} (ha:goodR a) (hb:goodR b):(zfT a b).Pairwise fun x y=>qx x y<0:=by
 refine Jd _ (fun x hx y hy h=>?_) (zbq _)
 have g:∀z∈vn (zV a++zV b),z.good:=fun z hz=>by
  rcases List.mem_append.1 ((yR _).mem_iff.1 hz) with h | h
  ·exact WF ha z h
  ·exact WF hb z h
 exact zby (g x hx) (g y hy) h
def zeO:Option Cut→List Str→Prop
 | _,[]=>True
 | lo,s::l=>(∀q,lo=some q→qx q s.lo<0)∧if s.endless=true then l=[]∧s.hi=cut0 else qx s.lo s.hi<0∧zeO (some s.hi) l
theorem zlU {lo:Option Cut} {l:List Str} (h:zeO lo l):zeO none l:=by
 cases l with
 | nil=>trivial
 | cons s l=>exact⟨fun q e=>(by cases e),h.2⟩
theorem zlV (is:Cut→Bool):∀(l:List Cut),l.Pairwise (fun x y=>qx x y<0)→(∀lo:Option Cut,(∀q,lo=some q→∀x∈l,qx q x<0)→zeO lo (rnC is l))∧∀(lo:Option Cut) (s:Cut),(∀q,lo=some q→qx q s<0)→(∀x∈l,qx s x<0)→zeO lo (rnO is s l)
 | [],_=>⟨fun _ _=>trivial,fun lo s h _=>⟨h,by simp[qz]⟩⟩
 | c::l,hs=>by
   obtain⟨h1,h2⟩:=List.pairwise_cons.1 hs
   obtain⟨i1,i2⟩:=zlV is l h2
   constructor
   ·intro lo hlo
    rw[rnC]
    split
    ·exact i2 lo c (fun q hq=>hlo q hq c (by simp)) h1
    ·exact i1 lo fun q hq x hx=>hlo q hq x (by simp[hx])
   ·intro lo s hlo hsl
    rw[rnO]
    split
    ·exact i2 lo s hlo fun x hx=>hsl x (by simp[hx])
    ·refine⟨hlo,?_⟩
     simp only[zfA,Bool.false_eq_true,if_false]
     exact⟨hsl c (by simp),i1 (some c) fun q hq x hx=>by injection hq with hq;rw[←hq];exact h1 x hx⟩
noncomputable def v6 (is:Cut→Bool):Bool→List Cut→Cut→Bool
 | d,[],_=>d
 | d,x::l,c=>if qx x c≤0 then v6 is (is x) l c else d
theorem kK:∀{l:List Str} {lo c:Cut},zeO (some lo) l→qx c lo≤0→wG l c=false
 | [],_,_,_,_=>rfl
 | s::l,lo,c,h,hc=>by
   have h1:qx lo s.lo<0:=h.1 lo rfl
   have h2:qx c s.lo<0:=cmpC_to.lelt hc h1
   have h3:vk s c=false:=by
    have:=(cmpC_to.flip c s.lo).1 h2
    simp[vk,show ¬qx s.lo c≤0 by omega]
   have h4:wG l c=false:=by
    have hh:=h.2
    split at hh
    ·rw[hh.1];rfl
    ·exact kK hh.2 (Int.le_of_lt (cmpC_to.trans h2 hh.1))
   unfold wG at h4 ⊢
   rw[List.any_cons,h3,h4]
   rfl
theorem zqf (is:Cut→Bool) (c:Cut):∀(l:List Cut),l.Pairwise (fun x y=>qx x y<0)→wG (rnC is l) c=v6 is false l c∧∀s,(∀x∈l,qx s x<0)→wG (rnO is s l) c=if qx s c≤0 then v6 is true l c else false
 | [],_=>⟨rfl,fun s _=>by simp[rnO,wG,vk,qz,v6]⟩
 | x::l,hs=>by
   obtain⟨h1,h2⟩:=List.pairwise_cons.1 hs
   obtain⟨i1,i2⟩:=zqf is c l h2
   have hcan:=zlV is l h2
   constructor
   ·rw[rnC,v6]
    cases hx:is x
    ·rw[if_neg (by simp),i1]
     split
     ·rfl
     ·rename_i hn
      cases l with
      | nil=>rfl
      | cons y l =>
        have hlt:=cmpC_to.trans (cmpC_to.notle hn) (h1 y (by simp))
        have:=(cmpC_to.flip c y).1 hlt
        simp only[v6]
        rw[if_neg (by omega)]
    ·rw[if_pos rfl,i2 x h1]
   ·intro s hsl
    have hsx:=hsl x (by simp)
    rw[rnO,v6]
    cases hx:is x
    ·rw[if_neg (by simp)]
     have hcb:=(hcan.1 (some x) fun q hq y hy=>by injection hq with hq;rw[←hq];exact h1 y hy)
     have e:wG (zfA s x::rnC is l) c=(vk (zfA s x) c||wG (rnC is l) c):=rfl
     rw[e]
     by_cases hxc:qx x c≤0
     ·have hsc:qx s c≤0:=Int.le_of_lt (cmpC_to.ltle hsx hxc)
      have hb:vk (zfA s x) c=false:=by
       have:=(cmpC_to.le x c).1 hxc
       simp[vk,zfA,show ¬qx c x<0 by omega]
      rw[hb,if_pos hsc,if_pos hxc,Bool.false_or,i1]
     ·have hcx:=cmpC_to.notle hxc
      have hz:wG (rnC is l) c=false:=kK hcb (Int.le_of_lt hcx)
      rw[hz,Bool.or_false,if_neg hxc]
      simp only[vk,zfA,hcx,Bool.false_or,decide_true,Bool.and_true]
      by_cases hsc:qx s c≤0<;>simp[hsc]
    ·rw[if_pos rfl,i2 s fun y hy=>hsl y (by simp[hy])]
     by_cases hxc:qx x c≤0
     ·rw[if_pos hxc]
     ·rw[if_neg hxc]
      have hlast:v6 is true l c=true:=by
       cases l with
       | nil=>rfl
       | cons y l =>
         have hlt:=cmpC_to.trans (cmpC_to.notle hxc) (h1 y (by simp))
         have:=(cmpC_to.flip c y).1 hlt
         simp only[v6]
         rw[if_neg (by omega)]
      rw[hlast]
theorem zhA {a:List Str} {x c:Cut} (hxc:qx x c≤0) (h:∀y∈zV a,qx y c≤0→qx y x≤0):wG a c=wG a x:=by
 induction a with
 | nil=>rfl
 | cons s a ih =>
   have e:∀c,wG (s::a) c=(vk s c||wG a c):=fun _=>rfl
   rw[e,e,ih fun y hy=>h y (by rw[zV];exact List.mem_append_right _ hy)]
   congr 1
   have hlo:s.lo∈zV (s::a):=by rw[zV];apply List.mem_append_left;split<;>simp
   have k1:qx s.lo c≤0↔qx s.lo x≤0:=⟨h _ hlo,fun g=>cmpC_to.tr _ _ _ g hxc⟩
   unfold vk
   cases he:s.endless
   ·have hhi:s.hi∈zV (s::a):=by rw[zV,he];simp
    have k2:qx c s.hi<0↔qx x s.hi<0:=by
     constructor
     ·exact fun g=>cmpC_to.lelt hxc g
     ·intro g
      refine Decidable.byContradiction fun hn=>?_
      have g2:=h _ hhi (cmpC_to.notlt hn)
      exact cmpC_to.irr x (cmpC_to.ltle g g2)
    simp only[k1,k2]
   ·simp only[k1,Bool.true_or]
theorem zdL {a:List Str} {c:Cut} (h:∀y∈zV a,¬qx y c≤0):wG a c=false:=by
 induction a with
 | nil=>rfl
 | cons s a ih =>
   have e:wG (s::a) c=(vk s c||wG a c):=rfl
   have hlo:s.lo∈zV (s::a):=by rw[zV];apply List.mem_append_left;split<;>simp
   rw[e,ih fun y hy=>h y (by rw[zV];exact List.mem_append_right _ hy)]
   simp[vk,h _ hlo]
theorem K6 (is:Cut→Bool) (c:Cut):∀(l:List Cut) (d:Bool),l.Pairwise (fun x y=>qx x y<0)→(v6 is d l c=d∧∀y∈l,¬qx y c≤0)∨∃x∈l,qx x c≤0∧v6 is d l c=is x∧∀y∈l,qx y c≤0→qx y x≤0
 | [],d,_=>.inl ⟨rfl,fun y hy=>by cases hy⟩
 | x::l,d,hs=>by
   obtain⟨h1,h2⟩:=List.pairwise_cons.1 hs
   by_cases hx:qx x c≤0
   ·right
    simp only[v6,if_pos hx]
    rcases K6 is c l (is x) h2 with⟨e,hn⟩ | ⟨z,hz,hzc,e,hn⟩
    ·refine⟨x,by simp,hx,e,fun y hy hyc=>?_⟩
     rcases List.mem_cons.1 hy with rfl | hy
     ·rw[cmpC_to.refl];exact Int.le_refl _
     ·exact absurd hyc (hn y hy)
    ·refine⟨z,by simp[hz],hzc,e,fun y hy hyc=>?_⟩
     rcases List.mem_cons.1 hy with rfl | hy
     ·exact Int.le_of_lt (h1 z hz)
     ·exact hn y hy hyc
   ·left
    simp only[v6,if_neg hx]
    refine⟨trivial,fun y hy hyc=>?_⟩
    rcases List.mem_cons.1 hy with rfl | hy
    ·exact hx hyc
    ·exact hx (Int.le_of_lt (cmpC_to.ltle (h1 y hy) hyc))
theorem zbz {f:Bool→Bool→Bool} (hf:f false false=false) {a b:List Str} (ha:goodR a) (hb:goodR b) (c:Cut):wG (yS f a b) c=f (wG a c) (wG b c):=by
 have hs:=ZJ ha hb
 rw[zhz,(zqf _ c _ hs).1]
 rcases K6 (fun c=>f (wG a c) (wG b c)) c (zfT a b) false hs with⟨e,hn⟩ | ⟨x,hx,hxc,e,hn⟩
 ·rw[e,zdL fun y hy=>hn y ((ZI a b y).2 (.inl hy)),zdL fun y hy=>hn y ((ZI a b y).2 (.inr hy)),hf]
 ·rw[e,zhA hxc fun y hy=>hn y ((ZI a b y).2 (.inl hy)),zhA hxc fun y hy=>hn y ((ZI a b y).2 (.inr hy))]
theorem JT {f:Bool→Bool→Bool} {a b:List Str} (ha:goodR a) (hb:goodR b):zeO none (yS f a b):=by
 rw[zhz]
 exact (zlV _ _ (ZJ ha hb)).1 none fun q e=>by cases e
theorem zfU:∀{l m:List Str} {lo lo':Option Cut},zeO lo l→zeO lo' m→goodR l→goodR m→(∀c,c.good→wG l c=wG m c)→l=m
 | [],[],_,_,_,_,_,_,_=>rfl
 | [],t::m,_,lo',_,h2,_,gm,h=>by
   have:=h t.lo (gm t (by simp)).1
   have hc:wG (t::m) t.lo=true:=by
    have hb:vk t t.lo=true:=by
     have hh:=h2.2
     unfold vk
     rw[cmpC_to.refl]
     split at hh
     ·rename_i e;simp[e]
     ·simp[hh.1]
    unfold wG;rw[List.any_cons,hb];rfl
   rw[hc] at this
   cases this
 | s::l,[],lo,_,h1,_,gl,_,h=>by
   have:=h s.lo (gl s (by simp)).1
   have hc:wG (s::l) s.lo=true:=by
    have hb:vk s s.lo=true:=by
     have hh:=h1.2
     unfold vk
     rw[cmpC_to.refl]
     split at hh
     ·rename_i e;simp[e]
     ·simp[hh.1]
    unfold wG;rw[List.any_cons,hb];rfl
   rw[hc] at this
   cases this
 | s::l,t::m,lo,lo',h1,h2,gl,gm,h=>by
   have head:∀{s:Str} {l:List Str} {lo:Option Cut},zeO lo (s::l)→vk s s.lo=true:=fun {s l lo} h1=>by
    have hh:=h1.2
    unfold vk
    rw[cmpC_to.refl]
    split at hh
    ·rename_i e;simp[e]
    ·simp[hh.1]
   have tail:∀{s:Str} {l:List Str} {lo:Option Cut} {c:Cut},zeO lo (s::l)→(s.endless=false→qx c s.hi≤0)→wG (s::l) c=vk s c:=fun {s l lo c} h1 hc=>by
    have hh:=h1.2
    have e:wG (s::l) c=(vk s c||wG l c):=rfl
    rw[e]
    cases he:s.endless
    ·rw[he,if_neg (by simp)] at hh
     rw[kK hh.2 (hc he),Bool.or_false]
    ·rw[he,if_pos rfl] at hh
     rw[hh.1];simp[wG]
   have before:∀{s:Str} {l:List Str} {lo:Option Cut} {c:Cut},zeO lo (s::l)→qx c s.lo<0→wG (s::l) c=false:=fun {s l lo c} h1 hc=>by
    have hh:=h1.2
    rw[tail h1 fun he=>?_]
    ·have:=(cmpC_to.flip c s.lo).1 hc
     simp[vk,show ¬qx s.lo c≤0 by omega]
    ·rw[he,if_neg (by simp)] at hh
     exact Int.le_of_lt (cmpC_to.trans hc hh.1)
   have gs:=gl s (by simp)
   have gt:=gm t (by simp)
   have hcs:wG (s::l) s.lo=true:=by unfold wG;rw[List.any_cons,head h1];rfl
   have hct:wG (t::m) t.lo=true:=by unfold wG;rw[List.any_cons,head h2];rfl
   have elo:s.lo=t.lo:=by
    refine zby gs.1 gt.1 ?_
    have n1:¬qx s.lo t.lo<0:=fun hlt=>by
     have:=h s.lo gs.1
     rw[hcs,before h2 hlt] at this
     cases this
    have n2:¬qx t.lo s.lo<0:=fun hlt=>by
     have:=h t.lo gt.1
     rw[hct,before h1 hlt] at this
     cases this
    have:=(cmpC_to.flip s.lo t.lo)
    have:=(cmpC_to.flip t.lo s.lo)
    omega
   have hh1:=h1.2
   have hh2:=h2.2
   cases e1:s.endless<;>cases e2:t.endless
   ·rw[e1,if_neg (by simp)] at hh1
    rw[e2,if_neg (by simp)] at hh2
    have c1:wG (s::l) s.hi=false:=by
     rw[tail h1 fun _=>by rw[cmpC_to.refl];exact Int.le_refl _]
     simp[vk,e1,cmpC_to.refl]
    have c2:wG (t::m) t.hi=false:=by
     rw[tail h2 fun _=>by rw[cmpC_to.refl];exact Int.le_refl _]
     simp[vk,e2,cmpC_to.refl]
    have ehi:s.hi=t.hi:=by
     refine zby gs.2 gt.2 ?_
     have n1:¬qx s.hi t.hi<0:=fun hlt=>by
      have:=h s.hi gs.2
      rw[c1,tail h2 fun _=>Int.le_of_lt hlt] at this
      have h3:qx t.lo s.hi≤0:=by rw[←elo];exact Int.le_of_lt hh1.1
      simp[vk,hlt,h3] at this
     have n2:¬qx t.hi s.hi<0:=fun hlt=>by
      have:=h t.hi gt.2
      rw[c2,tail h1 fun _=>Int.le_of_lt hlt] at this
      have h3:qx s.lo t.hi≤0:=by rw[elo];exact Int.le_of_lt hh2.1
      simp[vk,hlt,h3] at this
     have:=(cmpC_to.flip s.hi t.hi)
     have:=(cmpC_to.flip t.hi s.hi)
     omega
    have est:s=t:=by
     obtain⟨a,b,c⟩:=s
     obtain⟨a',b',c'⟩:=t
     simp only at elo ehi e1 e2
     rw[elo,ehi,e1,e2]
    subst est
    rw[zfU hh1.2 hh2.2 (fun x hx=>gl x (by simp[hx])) (fun x hx=>gm x (by simp[hx])) fun c hc=>?_]
    by_cases hle:qx c s.hi≤0
    ·rw[kK hh1.2 hle,kK hh2.2 hle]
    ·have:=h c hc
     have hb:vk s c=false:=by
      have:=cmpC_to.notle hle
      simp[vk,e1,show ¬qx c s.hi<0 by omega]
     unfold wG at this ⊢
     rw[List.any_cons,List.any_cons,hb] at this
     exact this
   ·rw[e1,if_neg (by simp)] at hh1
    have:=h s.hi gs.2
    have c1:wG (s::l) s.hi=false:=by
     rw[tail h1 fun _=>by rw[cmpC_to.refl];exact Int.le_refl _]
     simp[vk,e1,cmpC_to.refl]
    have h3:qx t.lo s.hi≤0:=by rw[←elo];exact Int.le_of_lt hh1.1
    rw[c1,tail h2 fun e=>by rw[e2] at e;cases e] at this
    simp[vk,e2,h3] at this
   ·rw[e2,if_neg (by simp)] at hh2
    have:=h t.hi gt.2
    have c1:wG (t::m) t.hi=false:=by
     rw[tail h2 fun _=>by rw[cmpC_to.refl];exact Int.le_refl _]
     simp[vk,e2,cmpC_to.refl]
    have h3:qx s.lo t.hi≤0:=by rw[elo];exact Int.le_of_lt hh2.1
    rw[c1,tail h1 fun e=>by rw[e1] at e;cases e] at this
    simp[vk,e1,h3] at this
   ·rw[e1,if_pos rfl] at hh1
    rw[e2,if_pos rfl] at hh2
    obtain⟨a,b,c⟩:=s
    obtain⟨a',b',c'⟩:=t
    simp only at elo e1 e2 hh1 hh2
    rw[hh1.1,hh2.1,elo,e1,e2,hh1.2,hh2.2]
theorem zoT {c:Cut} (hp:0≤c.v.a∧0≤c.v.b∧0≤c.v.c):qx leastC c≤0:=by
 obtain⟨⟨a,b,d,p⟩,f⟩:=c
 obtain⟨h1,h2,h3⟩:=hp
 simp only at h1 h2 h3
 have hcm:∀x:Int,0≤x→qI 0 x=0∧x=0∨qI 0 x<0:=by
  intro x hx
  unfold qI
  split
  ·right;omega
  ·split
   ·omega
   ·left;omega
 have hpre:qa [48] (p.headD [48])≤0:=by
  have d1:kd [48]=true:=by decide
  unfold qa
  rw[d1]
  have t1:Lib.trimLeftB [48] 48=[]:=by decide
  simp only[if_true,t1]
  split
  ·obtain⟨q,hq⟩:∃q,Lib.trimLeftB (p.headD [48]) 48=q:=⟨_,rfl⟩
   rw[hq]
   cases q with
   | nil=>decide
   | cons x q =>
     have:qI (([]:List UInt8).length) ((x::q).length)<0:=by
      rcases hcm ((x::q).length) (by omega) with⟨_,h⟩ | h
      ·simp at h;omega
      ·exact h
     simp only[orL]
     rw[if_neg (by omega)]
     omega
  ·omega
 have hv:vU ⟨0,0,0,[[48]]⟩ ⟨a,b,d,p⟩≤0:=by
  unfold vU
  simp only
  rcases hcm a h1 with⟨e1,_⟩ | e1
  ·rcases hcm b h2 with⟨e2,_⟩ | e2
   ·rcases hcm d h3 with⟨e3,_⟩ | e3
    ·have ho:orL [qI 0 a,qI 0 b,qI 0 d]=0:=by simp[orL,e1,e2,e3]
     rw[if_pos ho,if_neg (by simp)]
     split
     ·omega
     ·cases p with
      | nil=>rename_i h;exact absurd rfl h
      | cons q p =>
        simp only[wo]
        split
        ·cases p<;>simp[wo]
        ·simpa using hpre
    ·have ho:orL [qI 0 a,qI 0 b,qI 0 d]=qI 0 d:=by
      simp only[orL,e1,e2,if_true]
      rw[if_neg (by omega)]
     rw[ho,if_neg (by omega)];omega
   ·have ho:orL [qI 0 a,qI 0 b,qI 0 d]=qI 0 b:=by
     simp only[orL,e1,if_true]
     rw[if_neg (by omega)]
    rw[ho,if_neg (by omega)];omega
  ·have ho:orL [qI 0 a,qI 0 b,qI 0 d]=qI 0 a:=by
    simp only[orL]
    rw[if_neg (by omega)]
   rw[ho,if_neg (by omega)];omega
 have e:qx leastC ⟨⟨a,b,d,p⟩,f⟩=if vU ⟨0,0,0,[[48]]⟩ ⟨a,b,d,p⟩=0 then (if false=f then 0 else if f=true then -1 else 1) else vU ⟨0,0,0,[[48]]⟩ ⟨a,b,d,p⟩:=rfl
 rw[e]
 by_cases h0:vU ⟨0,0,0,[[48]]⟩ ⟨a,b,d,p⟩=0
 ·rw[if_pos h0]
  cases f<;>simp
 ·rw[if_neg h0]
  exact hv
def zfV (c:Cut):Prop:=0≤c.v.a∧0≤c.v.b∧0≤c.v.c
def zqg (l:List Str):Prop:=∀s∈l,zfV s.lo∧zfV s.hi
theorem WG:goodR [qz leastC]:=(jL wS).2
theorem zhB {m:List Str} {lo:Option Cut} (hc:zeO lo m) (hg:goodR m) (hp:zqg m):yS and m [qz leastC]=m:=by
 refine zfU (JT hg WG) (zlU hc) (wI _ hg WG) hg fun c _=>?_
 rw[zbz rfl hg WG]
 cases hm:wG m c
 ·rfl
 ·have:qx leastC c≤0:=by
   unfold wG at hm
   rw[List.any_eq_true] at hm
   obtain⟨s,hs,hb⟩:=hm
   simp only[vk,Bool.and_eq_true,decide_eq_true_eq] at hb
   exact cmpC_to.tr _ _ _ (zoT (hp s hs).1) hb.1
  simp[wG,vk,qz,this]
theorem zlW {f:Bool→Bool→Bool} (hf:f false false=false) (hfc:∀x y,f x y=f y x) {a b:List Str} (ha:goodR a) (hb:goodR b):yS f a b=yS f b a:=by
 refine zfU (JT ha hb) (JT hb ha) (wI _ ha hb) (wI _ hb ha) fun c _=>?_
 rw[zbz hf ha hb,zbz hf hb ha,hfc]
theorem zrw (a b:Cut):zeO none (btw a b):=by
 unfold btw
 split
 ·trivial
 ·exact⟨fun q e=>(by cases e),by simp only[zfA,Bool.false_eq_true,if_false];exact⟨by omega,trivial⟩⟩
theorem zoU (a:Cut):zeO none [qz a]:=⟨fun q e=>(by cases e),by simp[qz]⟩
theorem zlX (f:Bool→Bool→Bool) {a b:List Str} (ha:zqg a) (hb:zqg b):zqg (yS f a b):=zdy (Q:=zfV) (by simp[zfV,cut0]) f ha hb
end Go.Proofs.YtjcofiomfmebkaaGreatDoor
