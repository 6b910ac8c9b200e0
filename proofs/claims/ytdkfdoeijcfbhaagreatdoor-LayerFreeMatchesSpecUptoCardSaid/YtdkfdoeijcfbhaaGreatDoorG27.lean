/-
The reference's versions: reading one that can be partial.
The reference's ranges: the least cut, raised cuts, the range of a comparison, operators.
Plain law: the words of an alternative, as the reference cuts them.
Plain law: ranges in order; what is put together says where it covers, and is the one range that says so.
-/
import Derived.Test.YtdkfdoeijcfbhaaGreatDoorG26
import Derived.Test.YtdkfdoeijcfbhaaGreatDoorG16
import Derived.Test.YtdkfdoeijcfbhaaGreatDoorG17
import Derived.Test.YtdkfdoeijcfbhaaGreatDoorG18
set_option maxRecDepth 8000
namespace Go.AM
open Go.RowKit
def JM (sh:Sh) (r y z:PV) (x:PV) (hp:Hp) (_:Nat):Prop:=∃r0,(AM.freeze hp x).map (·.1)=some (.tup [r0,y,z])∧sh.fix r0=r
theorem evalPureF3_of {C:Ctx} {fn:Func} {code:Code} {args:List PV} {sh:Sh} {r y z:PV} (hb:fn.body=some code)
  (h:EvC C code ⟨yE args,fun _=>none,0⟩ (retK C.P fn (JM sh r y z))):∃r0,zi C fn args=some r0∧Stands r0 (.tup [r,y,z]):=by
 obtain⟨x,hp',nx',h1,r0,h2,h3⟩:=zD hb h
 exact⟨.tup [r0,y,z],by unfold zi;simp only[h1];exact h2,h3 ▸ (StandsL.cons (Zc sh r0) (.cons (Stands.refl y) (.cons (Stands.refl z) .nil))).tup⟩
end Go.AM
namespace Go.Proofs.YtdkfdoeijcfbhaaGreatDoor
open Go.Proofs.Tryz
open Go.RowKit Go.AM
def rvR (s:List UInt8):Ver×Int×Bool:=if 3<(zA (Lib.cut s [45]).1 [46]).length then (ver0,0,false) else
 match wy (part0,false) 0 (zA (Lib.cut s [45]).1 [46]) with
 | none=>(ver0,0,false)
 | some st=>if (jA s).any qw=true then (⟨st.1.n0,st.1.n1,st.1.n2,jA s⟩,0,false) else (⟨st.1.n0,st.1.n1,st.1.n2,jA s⟩,st.1.has,(!(Lib.cut s [45]).2.2||st.1.has==3)&&decide ((jA s).length≤10))
def rvP (s:List UInt8):PV:=.tup [.agg (rvR s).1.enc,int (rvR s).2.1,boo (rvR s).2.2]
theorem foldR_drop {st:Part×Bool} {k:Nat} {l:List (List UInt8)} (h:k<l.length):wy st k (l.drop k)=match wI st k l[k] with
  | some q=>wy q (k+1) (l.drop (k+1))
  | none=>none:=by
 rw[List.drop_eq_getElem_cons h]
 rfl
noncomputable abbrev Crrv:Ctx:=zF prog [(269,zd false [] (FTT cutP fun _ _=>True)),(147,wg [] FSp),(270,zd false [] FNm),(271,zd false [] (FS fun l=>!qw l))]
theorem goodrrv:AM.Good Crrv (fun g=>([]:List Nat).contains g):=zk mixed ⟨Kq,by simp,kj,by simp,rNumber_sound,by simp,risPre_sound,by simp,trivial⟩
set_option maxHeartbeats 2000000 in
theorem rreadVersion_eval (t:List UInt8) (ht:t.length+1≤lim):∃r0,zi Crrv f210 [str t]=some r0∧Stands r0 (rvP t):=by
 refine evalPureF3_of (sh:=.g vpat) (r:=.agg (rvR t).1.enc) (y:=int (rvR t).2.1) (z:=boo (rvR t).2.2) rfl ?_
 have hcl:=zdJ t [45]
 have hcut:=fun hp nx=>Vk t [45] hp nx (by omega) (by decide)
 have hsp:=fun hp nx=>jb (Lib.cut t [45]).1 [46] hp nx (by omega) (by decide) (by decide)
 have hsp2:=fun hp nx=>jb (Lib.cut t [45]).2.1 [46] hp nx (by omega) (by decide) (by decide)
 have hpl:∀p∈zA (Lib.cut t [45]).1 [46],p.length≤lim:=fun p hp=>by have:=yl hp;omega
 have hql:∀p∈zA (Lib.cut t [45]).2.1 [46],p.length≤lim:=fun p hp=>by have:=yl hp;omega
 have hqn:(zA (Lib.cut t [45]).2.1 [46]).length≤lim:=by have:=yH (s:=(Lib.cut t [45]).2.1) (sep:=[46]) (by simp);omega
 have hrp:jA t=if (Lib.cut t [45]).2.2=true then zA (Lib.cut t [45]).2.1 [46] else []:=rfl
 have hrv:rvR t=if 3<(zA (Lib.cut t [45]).1 [46]).length then (ver0,0,false) else
   match wy (part0,false) 0 (zA (Lib.cut t [45]).1 [46]) with
   | none=>(ver0,0,false)
   | some st=>if (jA t).any qw=true then (⟨st.1.n0,st.1.n1,st.1.n2,jA t⟩,0,false) else (⟨st.1.n0,st.1.n1,st.1.n2,jA t⟩,st.1.has,(!(Lib.cut t [45]).2.2||st.1.has==3)&&decide ((jA t).length≤10)):=rfl
 obtain⟨l,hl⟩:∃l,zA (Lib.cut t [45]).1 [46]=l:=⟨_,rfl⟩
 obtain⟨pl,hpl2⟩:∃pl,zA (Lib.cut t [45]).2.1 [46]=pl:=⟨_,rfl⟩
 obtain⟨c1,c2,c3,hc⟩:∃c1 c2 c3,Lib.cut t [45]=(c1,c2,c3):=⟨_,_,_,rfl⟩
 rw[hc] at hcut hsp hsp2 hl hpl2 hrp hrv hpl hql hqn
 simp only at hcut hsp hsp2 hl hpl2 hrp hrv hpl hql hqn
 rw[hl] at hrv hpl
 rw[hpl2] at hrp hql hqn
 simp only[hl,blkT] at hsp
 simp only[hpl2,blkT] at hsp2
 unfold lim at hqn
 by_cases h3:3<l.length
 ·have h3':(3:Int)<l.length:=by omega
  rw[if_pos h3] at hrv
  simp[hcut,hsp,h3,h3',rvP,hrv,JM,ver0,Ver.enc,f210]
 have h3':¬(3:Int)<l.length:=by omega
 rw[if_neg h3] at hrv
 simp[hcut,hsp,h3,h3']
 refine zq (fun k σ hp nx=>∃(p:Part) (op:Bool),p.pre=[]∧σ 2=.ref 0 0 0∧σ 3=int p.has∧σ 4=boo false∧σ 6=str c2∧σ 7=boo c3∧σ 8=.ref 1 0 0∧σ 9=boo op∧σ 29=.own 2 0 l.length∧σ 30=int l.length∧σ 31=int k∧p.has≤k∧0≤p.has∧nx=3 ∧
   hp 0=some ⟨187,4,false,[[int 0,int 0,int 0,.nil]]⟩∧hp 1=some ⟨177,3,false,[[int p.n0,int p.n1,int p.n2]]⟩∧hp 2=some ⟨9,1,true,encT l⟩∧wy (part0,false) 0 l=wy (p,op) k (l.drop k)) l.length
  ⟨part0,false,rfl,by simp,by simp[part0],by simp,by simp,by simp,by simp,by simp,by simp,by simp,by simp,by simp[part0],by simp[part0],by simp,by simp,by simp[part0],(by simp;rfl),by simp⟩ ?_
 rintro k σ hp nx hk ⟨p,op,hpp,h2,g3,h4,h6,h7,h8,h9,h29,h30,h31,hh,hh0,hnx,b0,b1,b2,he⟩
 subst hnx
 by_cases hlt:k<l.length
 ·have hn:=fun hp nx=>FNm_call l[k] hp nx (hpl _ (List.getElem_mem hlt))
  have hw:IntKind.i64.wrap ((k:Int)+1)=(k:Int)+1:=zc (by omega) (by omega)
  have hw2:IntKind.i64.wrap (p.has+1)=p.has+1:=zc (by omega) (by omega)
  have hop:(l[k]==[120]||l[k]==[88]||l[k]==[42])=qI l[k]:=rfl
  have hgk:=Qy hlt
  have hel:(encT l).length=l.length:=by simp[encT]
  rw[foldR_drop hlt] at he
  cases ho:qI l[k]
  ·rw[ho] at hop
   cases hv:(vnum l[k]).isSome
   ·have hs:wI (p,op) k l[k]=none:=by simp[wI,ho,hv]
    rw[hs] at he
    rw[he] at hrv
    simp only at hrv
    simp[h2,g3,h4,h6,h7,h8,h9,h29,h30,h31,b0,b1,b2,hlt,hel,hgk,hn,hop,hv,rvP,hrv,JM,ver0,Ver.enc,f210]
   ·cases op
    ·have hs:wI (p,false) k l[k]=some (p.put k ((vnum l[k]).getD 0),false):=by simp[wI,ho,hv]
     rw[hs] at he
     simp only at he
     obtain⟨n0,n1,n2,has,pre⟩:=p
     simp only at hpp hh hh0 hw2 b1 g3
     subst hpp
     have hk3:k=0∨k=1∨k=2:=by omega
     rcases hk3 with rfl | rfl | rfl
     ·have hlt':(0:Int)<(l.length:Int):=by omega
      simp[h2,g3,h4,h6,h7,h8,h9,h29,h30,h31,b0,b1,b2,hlt,hlt',hel,hgk,hn,hop,hv,hw,hw2]
      refine⟨by omega,_,?_,?_,?_,?_,?_,(by simpa using he)⟩<;>simp[Part.put]<;>omega
     ·have hlt':(1:Int)<(l.length:Int):=by omega
      simp[h2,g3,h4,h6,h7,h8,h9,h29,h30,h31,b0,b1,b2,hlt,hlt',hel,hgk,hn,hop,hv,hw,hw2]
      refine⟨by omega,_,?_,?_,?_,?_,?_,(by simpa using he)⟩<;>simp[Part.put]<;>omega
     ·have hlt':(2:Int)<(l.length:Int):=by omega
      simp[h2,g3,h4,h6,h7,h8,h9,h29,h30,h31,b0,b1,b2,hlt,hlt',hel,hgk,hn,hop,hv,hw,hw2]
      refine⟨by omega,_,?_,?_,?_,?_,?_,(by simpa using he)⟩<;>simp[Part.put]<;>omega
    ·have hs:wI (p,true) k l[k]=none:=by simp[wI,ho]
     rw[hs] at he
     rw[he] at hrv
     simp only at hrv
     simp[h2,g3,h4,h6,h7,h8,h9,h29,h30,h31,b0,b1,b2,hlt,hel,hgk,hn,hop,rvP,hrv,JM,ver0,Ver.enc,f210]
  ·have hs:wI (p,op) k l[k]=some (p,true):=by simp[wI,ho]
   rw[hs] at he
   rw[ho] at hop
   simp[h2,g3,h4,h6,h7,h8,h9,h29,h30,h31,b0,b1,b2,hlt,hel,hgk,hop,hw]
   exact⟨by omega,p,hpp,rfl,by omega,hh0,⟨rfl,rfl,rfl⟩,he⟩
 ·obtain rfl:k=l.length:=by omega
  rw[List.drop_length] at he
  simp only[wy] at he
  rw[he] at hrv
  simp only at hrv
  have hbe:((p.has:Int)==3)=(p.has==3):=rfl
  cases c3
  ·rw[if_neg (by simp)] at hrp
   rw[hrp] at hrv
   simp at hrv
   simp[h2,g3,h4,h6,h7,h8,h9,h29,h30,h31,b0,b1,b2,zt,zM,rvP,hrv,JM,Ver.enc,encT,f210]
  ·rw[if_pos rfl] at hrp
   rw[hrp] at hrv
   have hel2:(encT pl).length=pl.length:=by simp[encT]
   simp[h2,g3,h4,h6,h7,h8,h9,h29,h30,h31,b0,b1,b2,hsp2,zt,zM]
   refine zq (fun k σ hp nx=>σ 2=.ref 0 0 0∧σ 3=int p.has∧σ 4=boo false∧σ 7=boo true∧σ 75=.own 3 0 pl.length∧σ 76=int pl.length∧σ 77=int k∧hp 0=some ⟨187,4,false,[[int p.n0,int p.n1,int p.n2,.own 3 0 pl.length]]⟩∧hp 3=some ⟨9,1,true,encT pl⟩∧pl.any qw=(pl.drop k).any qw) pl.length
    ⟨by simp[h2],by simp[g3],by simp[h4],by simp[h7],by simp,by simp,by simp,by simp,(by simp;rfl),by simp⟩ ?_
   clear h2 g3 h4 h6 h7 h8 h9 h29 h30 h31 b0 b1 b2 hk hlt hh σ hp
   rintro k σ hp nx hk ⟨h2,g3,h4,h7,h75,h76,h77,b0,b3,hx⟩
   by_cases hlt:k<pl.length
   ·have hw:IntKind.i64.wrap ((k:Int)+1)=(k:Int)+1:=zc (by omega) (by omega)
    have hgk:=Qy hlt
    have hip:=fun hp nx=>wV (fun l=>!qw l) pl[k] hp nx (hql _ (List.getElem_mem hlt))
    rw[List.drop_eq_getElem_cons hlt,List.any_cons] at hx
    cases hb:qw pl[k]
    ·rw[hb,Bool.false_or] at hx
     simp[h2,g3,h4,h7,h75,h76,h77,b0,b3,hlt,hel2,hgk,hip,hb,hw]
     exact⟨by omega,hx⟩
    ·rw[hb,Bool.true_or] at hx
     rw[hx,if_pos rfl] at hrv
     simp[h2,g3,h4,h7,h75,h76,h77,b0,b3,hlt,hel2,hgk,hip,hb,rvP,hrv,JM,Ver.enc,f210]
   ·obtain rfl:k=pl.length:=by omega
    rw[List.drop_length,List.any_nil] at hx
    rw[hx,if_neg (by simp)] at hrv
    have hd:decide (pl.length≤10)=decide ((pl.length:Int)≤10):=by congr 1;exact propext ⟨fun h=>by omega,fun h=>by omega⟩
    rw[hd] at hrv
    simp[h2,g3,h4,h7,h75,h76,h77,b0,b3,rvP,hrv,JM,Ver.enc,f210]
theorem kM:za prog 210 (zd false [] (FSP1 rvP)) :=
 yw (fn:=f210) goodrrv ⟨_,func210,by kernel_rfl,rfl,by kernel_rfl⟩ false [] _ fun args r h w S vs hz=>by
  obtain⟨l,rfl,hp,rfl⟩:=ze h
  obtain⟨r0,h1,h2⟩:=rreadVersion_eval l hp
  exact⟨_,r0,hz,by simp[f210],h1,h2⟩
theorem zdl (s:List UInt8):rdOk s=if (rvR s).2.2=true∧(rvR s).2.1≠0 then some ⟨(rvR s).1.a,(rvR s).1.b,(rvR s).1.c,(rvR s).2.1,(rvR s).1.pre⟩ else none:=by
 unfold rdOk rdR rvR
 by_cases h3:3<(zA (Lib.cut s [45]).1 [46]).length
 ·rw[if_pos h3,if_pos h3];simp
 rw[if_neg h3,if_neg h3]
 cases wy (part0,false) 0 (zA (Lib.cut s [45]).1 [46]) with
 | none=>simp
 | some st =>
   simp only
   cases hb:(jA s).any qw
   ·simp only[Bool.false_eq_true,if_false]
    by_cases hc:((Lib.cut s [45]).2.2=false∨st.1.has=3)∧(jA s).length≤10
    ·rw[if_pos hc]
     have hc':((!(Lib.cut s [45]).2.2||st.1.has==3)&&decide ((jA s).length≤10))=true:=by
      simp only[Bool.and_eq_true,Bool.or_eq_true,Bool.not_eq_true',beq_iff_eq,decide_eq_true_eq];exact hc
     simp only[hc',true_and]
     by_cases h0:st.1.has=0
     ·simp[h0]
     ·simp[h0]
    ·rw[if_neg hc]
     have hc':¬((!(Lib.cut s [45]).2.2||st.1.has==3)&&decide ((jA s).length≤10))=true:=by
      simp only[Bool.and_eq_true,Bool.or_eq_true,Bool.not_eq_true',beq_iff_eq,decide_eq_true_eq];exact hc
     simp only[hc',false_and,if_false]
     simp
   ·simp
theorem rleast_eval:zi C0 f208 []=some (.agg leastC.enc):=by
 refine zb rfl ?_
 simp[leastC,Cut.enc,encT,str,zt,zM,zf,zn,zg,qi,f208]
theorem Yd:za prog 208 (zJ [] (ZZ (.agg leastC.enc))) :=
 zX (fn:=f208) qA ⟨_,func208,by kernel_rfl,rfl,by kernel_rfl⟩ _ _ fun args r h=>by
  obtain⟨_,rfl,_,rfl⟩:=ze h
  exact⟨by simp[f208],_,rleast_eval,Stands.refl _⟩
def Ver.part (v:Ver) (m:Int):Part:=⟨v.a,v.b,v.c,m,v.pre⟩
def Ver.ok (v:Ver):Prop:=(0≤v.a∧v.a≤999999)∧(0≤v.b∧v.b≤999999)∧(0≤v.c∧v.c≤999999)∧yx v.pre
noncomputable def FVI (f:Ver→Int→PV) (pre:Int→Prop):List PV→Option PV:=zH (α:=Ver×Int) (fun a=>[.agg a.1.enc,int a.2]) (fun a=>a.1.ok∧pre a.2) (fun a=>f a.1 a.2)
theorem vi_inj:∀a b:Ver×Int,[PV.agg a.1.enc,int a.2]=[PV.agg b.1.enc,int b.2]→a=b:=by
 rintro⟨a1,a2⟩ ⟨b1,b2⟩ e
 simp only[List.cons.injEq,and_true] at e
 obtain⟨e1,e2⟩:=e
 injection e1 with e1
 rw[Zf e1,zB e2]
theorem QX (f:Ver→Int→PV) (pre:Int→Prop) (v:Ver) (i:Int) (u:PV) (hp:Hp) (nx:Nat) (h:v.ok) (hi:pre i) (hu:(Sh.g vpat).fix u=.agg v.enc) (hf:zK hp u=some (u,hp)) (hn:u.noOwn=true):zJ [.g vpat] (FVI f pre) [u,int i] hp nx=some (f v i,hp,nx) :=
 yi (show zj hp [u,int i]=some ([u,int i],hp) by simp only[zj,hf];rfl) (by
  show FVI f pre [(Sh.g vpat).fix u,int i]=_
  rw[hu]
  exact zm (enc:=fun a:Ver×Int=>[PV.agg a.1.enc,int a.2]) (a:=(v,i)) vi_inj ⟨h,hi⟩) (.inr (by rw[List.all_cons,hn];rfl))
theorem ZA (v:Ver):(Sh.g vpat).fix (.agg v.enc)=.agg v.enc:=by simp[Ver.enc]
theorem QY (v:Ver) (hp:Hp):zK hp (.agg v.enc)=some (.agg v.enc,hp):=by simp[Ver.enc]
theorem QZ (v:Ver):PV.noOwn (.agg v.enc)=true:=by simp[Ver.enc]
def yX (v:Ver) (i:Int):PV:=yd (v.part 3) i.toNat
noncomputable abbrev Crra:Ctx:=yQ prog [] 7 [(6,4),(28,4),(30,4),(32,4),(38,4)] [4,6,28,30,32,38] []
theorem goodrra:AM.Good Crra (fun g=>([]:List Nat).contains g):=Xx mixed trivial trivial
theorem rraised_eval (v:Ver) (i:Int) (hv:v.ok) (hi:0≤i∧i<3):∃r0,zi Crra f272 [.agg v.enc,int i]=some r0∧Stands r0 (yX v i):=by
 obtain⟨a,b,c,e⟩:=v
 obtain⟨⟨a1,a2⟩,⟨b1,b2⟩,⟨c1,c2⟩,_⟩:=hv
 simp only at a1 a2 b1 b2 c1 c2
 refine qv (sh:=.g cpat) rfl ?_
 have wa:IntKind.i64.wrap (a+1)=a+1:=zc (by omega) (by omega)
 have wb:IntKind.i64.wrap (b+1)=b+1:=zc (by omega) (by omega)
 have wc:IntKind.i64.wrap (c+1)=c+1:=zc (by omega) (by omega)
 rcases (by omega:i=0∨i=1∨i=2) with rfl | rfl | rfl
 ·simp[Ver.enc,zt,zM,wa]
  rw[zo]
  simp
  rw[zo]
  simp
  rw[zo]
  simp
  rw[qU (qf (vt (by simp;exact⟨rfl,rfl,rfl⟩) (by simp;exact⟨rfl,rfl,rfl⟩) (by omega) (by simp;rfl) rfl) (qf (qX (by simp;rfl)) (qf (qX (by simp;rfl)) (qf (qX (by simp;rfl)) (qf (qX (by simp;rfl)) (vr _))))))
   (yz (by simp;exact⟨rfl,rfl,rfl⟩) (by simp) (by simp;rfl) rfl (yz (by simp;exact⟨rfl,rfl,rfl⟩) (by simp) (by simp;rfl) rfl (wL (by simp;rfl) (wL (by simp;rfl) (wL (by simp;rfl) (wL (by simp;rfl) (Zh _)))))))]
  simp[zt,zM,zf,zn,zg,zE,yX,Ver.part,yd,qP,yq,Cut.enc,encT,str,f272]
  exact⟨_,⟨rfl,rfl⟩,rfl⟩
 ·simp[Ver.enc,zt,zM,wb]
  rw[zo]
  simp
  rw[zo]
  simp
  rw[qU (qf (vt (by simp;exact⟨rfl,rfl,rfl⟩) (by simp;exact⟨rfl,rfl,rfl⟩) (by omega) (by simp;rfl) rfl) (qf (qX (by simp;rfl)) (qf (qX (by simp;rfl)) (qf (qX (by simp;rfl)) (qf (qX (by simp;rfl)) (vr _))))))
   (yz (by simp;exact⟨rfl,rfl,rfl⟩) (by simp) (by simp;rfl) rfl (yz (by simp;exact⟨rfl,rfl,rfl⟩) (by simp) (by simp;rfl) rfl (wL (by simp;rfl) (wL (by simp;rfl) (wL (by simp;rfl) (wL (by simp;rfl) (Zh _)))))))]
  simp[zt,zM,zf,zn,zg,zE,yX,Ver.part,yd,qP,yq,Cut.enc,encT,str,f272]
  exact⟨_,⟨rfl,rfl⟩,rfl⟩
 ·simp[Ver.enc,zt,zM,wc]
  rw[zo]
  simp
  rw[qU (qf (vt (by simp;exact⟨rfl,rfl,rfl⟩) (by simp;exact⟨rfl,rfl,rfl⟩) (by omega) (by simp;rfl) rfl) (qf (qX (by simp;rfl)) (qf (qX (by simp;rfl)) (qf (qX (by simp;rfl)) (qf (qX (by simp;rfl)) (vr _))))))
   (yz (by simp;exact⟨rfl,rfl,rfl⟩) (by simp) (by simp;rfl) rfl (yz (by simp;exact⟨rfl,rfl,rfl⟩) (by simp) (by simp;rfl) rfl (wL (by simp;rfl) (wL (by simp;rfl) (wL (by simp;rfl) (wL (by simp;rfl) (Zh _)))))))]
  simp[zt,zM,zf,zn,zg,zE,yX,Ver.part,yd,qP,yq,Cut.enc,encT,str,f272]
  exact⟨_,⟨rfl,rfl⟩,rfl⟩
theorem Q0:za prog 272 (zJ [.g vpat] (FVI yX fun i=>0≤i∧i<3)) :=
 zX (fn:=f272) goodrra ⟨_,func272,by kernel_rfl,rfl,by kernel_rfl⟩ _ _ fun args r h=>by
  obtain⟨⟨p,i⟩,rfl,⟨h1,h2⟩,rfl⟩:=ze h
  obtain⟨r0,h3,h4⟩:=rraised_eval p i h1 h2
  exact⟨by simp[f272],r0,h3,h4⟩
def kX (v:Ver) (m:Int):PV:=QD (v.part m)
noncomputable abbrev Crup:Ctx:=zF prog [(272,zJ [.g vpat] (FVI yX fun i=>0≤i∧i<3))]
theorem goodrup:AM.Good Crup (fun g=>([]:List Nat).contains g):=zk mixed ⟨Q0,by simp,trivial⟩
theorem JN (v:Ver) (m n:Int) (i:Nat):qP (v.part m) i=qP (v.part n) i∧yq (v.part m) i=yq (v.part n) i:=by
 match i with
 | 0=>exact⟨rfl,rfl⟩
 | 1=>exact⟨rfl,rfl⟩
 | _+2=>exact⟨rfl,rfl⟩
theorem rupper_eval (v:Ver) (m:Int) (hv:v.ok) (hm:1≤m∧m≤3):zi Crup f267 [.agg v.enc,int m]=some (kX v m):=by
 refine zb rfl ?_
 have hr:=fun hp nx=>QX yX (fun i=>0≤i∧i<3) v (m - 1) (.agg v.enc) hp nx hv
 obtain⟨e1,e2⟩:=JN v m 3 (m - 1).toNat
 have hw:IntKind.i64.wrap (m - 1)=m - 1:=zc (by omega) (by omega)
 by_cases h3:m=3
 ·subst h3
  simp[Ver.enc,zt,zM,kX,QD,y7,vR,Ver.part,Cut.enc,qi,f267]
 ·have hr:=fun hp nx=>hr hp nx (by omega) (ZA v) (QY v hp) (QZ v)
  have h3':(m==3)=false:=by simpa using h3
  have h3'':m<3:=by omega
  simp only[yX,yd,Ver.enc,Cut.enc,←e1,←e2] at hr
  have e5:(v.part m).has=m:=rfl
  simp[Ver.enc,h3',hw,hr,kX,QD,y7,vR,e5,h3'',Cut.enc,qi,f267]
theorem Ye:za prog 267 (zJ [.g vpat] (FVI kX fun m=>1≤m∧m≤3)) :=
 zX (fn:=f267) goodrup ⟨_,func267,by kernel_rfl,rfl,by kernel_rfl⟩ _ _ fun args r h=>by
  obtain⟨⟨p,i⟩,rfl,⟨h1,h2⟩,rfl⟩:=ze h
  exact⟨by simp[f267],_,rupper_eval p i h1 h2,Stands.refl _⟩
noncomputable abbrev Crct:Ctx:=zF prog []
theorem goodrct:AM.Good Crct (fun g=>([]:List Nat).contains g):=zk mixed trivial
def yY (v:Ver) (m:Int):PV:=int (wA (v.part m))
theorem rcaret_eval (v:Ver) (m:Int) (hm:1≤m∧m≤3):zi Crct f273 [.agg v.enc,int m]=some (yY v m):=by
 obtain⟨a,b,c,e⟩:=v
 refine zb rfl ?_
 rcases (by omega:m=1∨m=2∨m=3) with rfl | rfl | rfl
 ·simp[Ver.enc,zf,zn,zg,qS]
  rw[zo]
  by_cases ha:a=0
  ·have ha':(a != 0)=false:=by simpa using ha
   simp[ha']
   rw[zo]
   simp[yY,wA,Ver.part,f273]
  ·have ha':(a != 0)=true:=by simpa using ha
   simp[ha',yY,wA,Ver.part,f273]
 ·simp[Ver.enc,zf,zn,zg,qS]
  rw[zo]
  by_cases ha:a=0
  ·have ha':(a != 0)=false:=by simpa using ha
   simp[ha']
   rw[zo]
   by_cases hb:b=0
   ·have hb':(b != 0)=false:=by simpa using hb
    simp[hb']
    rw[zo]
    simp[yY,wA,Ver.part,ha,f273]
   ·have hb':(b != 0)=true:=by simpa using hb
    simp[hb',yY,wA,Ver.part,ha,f273]
  ·have ha':(a != 0)=true:=by simpa using ha
   simp[ha',yY,wA,Ver.part,ha,f273]
 ·simp[Ver.enc,zf,zn,zg,qS]
  rw[zo]
  by_cases ha:a=0
  ·have ha':(a != 0)=false:=by simpa using ha
   simp[ha']
   rw[zo]
   by_cases hb:b=0
   ·have hb':(b != 0)=false:=by simpa using hb
    simp[hb']
    rw[zo]
    by_cases hc:c=0
    ·have hc':(c != 0)=false:=by simpa using hc
     simp[hc']
     rw[zo]
     simp[yY,wA,Ver.part,ha,hb,f273]
    ·have hc':(c != 0)=true:=by simpa using hc
     simp[hc',yY,wA,Ver.part,ha,hb,f273]
   ·have hb':(b != 0)=true:=by simpa using hb
    simp[hb',yY,wA,Ver.part,ha,hb,f273]
  ·have ha':(a != 0)=true:=by simpa using ha
   simp[ha',yY,wA,Ver.part,ha,f273]
theorem rcaret_sound:za prog 273 (zJ [.g vpat] (FVI yY fun m=>1≤m∧m≤3)) :=
 zX (fn:=f273) goodrct ⟨_,func273,by kernel_rfl,rfl,by kernel_rfl⟩ _ _ fun args r h=>by
  obtain⟨⟨p,i⟩,rfl,⟨h1,h2⟩,rfl⟩:=ze h
  exact⟨by simp[f273],_,rcaret_eval p i h2,Stands.refl _⟩
noncomputable abbrev Crut:Ctx:=zF prog [(275,zJ [.g cpat,.g cpat] (FCC fun v w=>int (cmpC v w)))]
theorem goodrut:AM.Good Crut (fun g=>([]:List Nat).contains g):=zk mixed ⟨yW,by simp,trivial⟩
theorem rupTo_eval (x y:Cut) (hx:x.v.small) (hy:y.v.small):∃r0,zi Crut f268 [.agg x.enc,.agg y.enc]=some r0∧Stands r0 (btwP x y):=by
 refine js (sh:=.s 11 spat) rfl ?_
 have hc:=fun hp nx=>zaw x y (.agg x.enc) (.agg y.enc) hp nx (by simp[Cut.enc]) (by simp[Cut.enc]) (by simp[Cut.enc]) hx hy
 simp only[Cut.enc] at hc
 by_cases h:0≤cmpC x y
 ·simp[Cut.enc,hc,h,Y4,btwP,btw,encR,f268]
 ·simp[Cut.enc,hc,h,zt,zM,zf,zn,zg,Y4,btwP,btw,encR,betw,Str.enc,f268]
theorem JO:za prog 268 (zJ [.g cpat,.g cpat] (FCC btwP)) :=
 zX (fn:=f268) goodrut ⟨_,func268,by kernel_rfl,rfl,by kernel_rfl⟩ _ _ fun args r h=>by
  obtain⟨⟨v,w⟩,rfl,⟨h1,h2⟩,rfl⟩:=ze h
  obtain⟨r0,h3,h4⟩:=rupTo_eval v w h1 h2
  exact⟨by simp[f268],r0,h3,h4⟩
noncomputable abbrev Crop:Ctx:=zF prog [(248,zd false [] (FTT hpP fun _ _=>True))]
theorem goodrop:AM.Good Crop (fun g=>([]:List Nat).contains g):=zk mixed ⟨hasPrefix_sound,by simp,trivial⟩
def ropP (s:List UInt8):PV:=str (opW sgs s).1
theorem roperator_eval (s:List UInt8) (h:s.length≤lim):zi Crop f265 [str s]=some (ropP s):=by
 refine zb rfl ?_
 have hb:∀hp nx,zf prog hp nx 85 7 [(0,str [62,61]),(1,str [60,61]),(2,str [62]),(3,str [60]),(4,str [61]),(5,str [126]),(6,str [94])]=some (.own nx 0 7,upd hp nx (some ⟨9,1,true,encT sgs⟩),nx+1):=fun hp nx=>by
  simp[zf,zn,zg,sgs,str]
 simp[str] at hb
 simp[hb]
 refine zq (fun k σ hp nx=>σ 0=str s∧σ 5=.own 0 0 7∧σ 6=int 7∧σ 7=int k∧hp 0=some ⟨9,1,true,encT sgs⟩∧opW sgs s=opW (sgs.drop k) s) 7 ⟨by simp,by simp,by simp,by simp,by simp,by simp⟩ ?_
 rintro k σ hp nx hk ⟨h0,h8,h9,h10,b0,he⟩
 by_cases hlt:k<7
 ·have hl:k<sgs.length:=hlt
  have hgl:sgs[k].length≤lim:=by
   have:∀q∈sgs,q.length≤lim:=by decide
   exact this _ (List.getElem_mem hl)
  have hc:=fun hp nx=>Vj s sgs[k] hp nx h hgl
  have hw:IntKind.i64.wrap ((k:Int)+1)=(k:Int)+1:=zc (by omega) (by omega)
  have hk7:(k:Int)<7:=by omega
  rw[List.drop_eq_getElem_cons hl] at he
  simp only[opW] at he
  by_cases hp:(sgs[k]).isPrefixOf s=true
  ·rw[if_pos hp] at he
   simp[h0,h8,h9,h10,b0,hk7,hlt,hl,hc,hp,hw,ropP,he,qi,f265]
  ·rw[if_neg hp] at he
   have hp':(sgs[k]).isPrefixOf s=false:=Bool.eq_false_iff.2 hp
   simp[h0,h8,h9,h10,b0,hk7,hlt,hl,hc,hp',hw]
   exact⟨by omega,he⟩
 ·obtain rfl:k=7:=by omega
  rw[show sgs.drop 7=[] from rfl] at he
  simp only[opW] at he
  simp[h0,h8,h9,h10,ropP,he,qi,f265]
theorem roperator_sound:za prog 265 (zd false [] (FSP ropP)) :=
 zI (fn:=f265) goodrop ⟨_,func265,by kernel_rfl,rfl,by kernel_rfl⟩ false [] _ fun args r h=>by
  obtain⟨l,rfl,hp,rfl⟩:=ze h
  exact⟨by simp[f265],_,roperator_eval l hp,zG _⟩
def sp1 (c:UInt8):List UInt8→List (List UInt8)
 | []=>[[]]
 | b::l=>if b=c then []::sp1 c l else match sp1 c l with
   | []=>[[b]]
   | p::ps=>(b::p)::ps
theorem zdY (c:UInt8):∀l,∃p ps,sp1 c l=p::ps
 | []=>⟨[],[],rfl⟩
 | b::l=>by
   unfold sp1
   split
   ·exact⟨_,_,rfl⟩
   ·split
    ·exact⟨_,_,rfl⟩
    ·exact⟨_,_,rfl⟩
theorem Qc {s sep:List UInt8} (h:Lib.index s sep=-1):zA s sep=[s]:=by
 unfold zA Lib.split
 rw[Lib.count_miss h]
 rfl
theorem WF {s sep:List UInt8} {i:Nat} (hne:sep≠[]) (h:Lib.index s sep=i):zA s sep=s.take i::zA (s.drop (i+sep.length)) sep:=by
 unfold zA Lib.split
 rw[Lib.count_hit hne h,Nat.add_comm 1,Ws h]
theorem WG (c:UInt8):∀s:List UInt8,zA s [c]=sp1 c s
 | []=>Qc rfl
 | b::l=>by
   have ih:=WG c l
   by_cases h:b=c
   ·subst h
    have hi:Lib.index (b::l) [b]=((0:Nat):Int):=by simp[Lib.index]
    rw[WF (by simp) hi]
    simp[sp1,ih]
   ·have hc:¬c=b:=fun e=>h e.symm
    rcases Lib.index_spec l [c] with⟨h1,_⟩ | ⟨i,h1,_⟩
    ·have hi:Lib.index (b::l) [c]=-1:=by simp[Lib.index,hc,h1]
     rw[Qc hi]
     rw[Qc h1] at ih
     simp[sp1,h,←ih]
    ·have hi:Lib.index (b::l) [c]=((i+1:Nat):Int):=by
      have:¬((i:Int)=-1):=by omega
      simp[Lib.index,hc,h1,this]
     rw[WF (by simp) hi]
     rw[WF (by simp) h1] at ih
     simp only[sp1,if_neg h,←ih]
     simp
def we (s:List UInt8):List (List UInt8):=zW (sp1 32 s)
theorem JP (s:List UInt8):zW (zA s [32])=we s:=by rw[WG];rfl
theorem zaG:we []=[]:=rfl
theorem Qd (x:List UInt8) (l:List (List UInt8)):zW (x::l)=if x=[] then zW l else x::zW l:=by
 cases x<;>simp[zW,emp]
theorem zdZ (s:List UInt8):we (32::s)=we s:=by
 simp[we,sp1,Qd]
theorem Q1:∀s:List UInt8,we (Lib.trimLeftB s 32)=we s
 | []=>rfl
 | b::l=>by
   unfold Lib.trimLeftB
   by_cases h:b=32
   ·subst h
    rw[List.dropWhile_cons_of_pos (by simp),zdZ]
    exact Q1 l
   ·rw[List.dropWhile_cons_of_neg (by simpa using h)]
theorem zb4 (c:UInt8):∀s:List UInt8,sp1 c (s++[c])=sp1 c s++[[]]
 | []=>by simp[sp1]
 | b::l=>by
   have ih:=zb4 c l
   obtain⟨p,ps,e⟩:=zdY c l
   by_cases h:b=c
   ·simp[sp1,h,ih]
   ·simp[sp1,h,ih,e]
theorem wds_snoc (s:List UInt8):we (s++[32])=we s:=by
 unfold we
 rw[zb4]
 simp[zW,emp]
theorem wds_trimR (s:List UInt8):we (Lib.trimRightB s 32)=we s:=by
 have key:∀m:List UInt8,we ((m.dropWhile (·==32)).reverse)=we m.reverse:=by
  intro m
  induction m with
  | nil=>rfl
  | cons b m ih =>
    by_cases h:b=32
    ·subst h
     rw[List.dropWhile_cons_of_pos (by simp),ih,List.reverse_cons,wds_snoc]
    ·rw[List.dropWhile_cons_of_neg (by simpa using h)]
 have:=key s.reverse
 rwa [List.reverse_reverse] at this
theorem wds_trim (s:List UInt8):we (Lib.trimB s 32)=we s:=by
 unfold Lib.trimB
 rw[Q1,wds_trimR]
def hd (s:List UInt8):List UInt8:=s.takeWhile (· != 32)
def tl (s:List UInt8):List UInt8:=s.dropWhile (· != 32)
theorem X9 (s:List UInt8):hd s++tl s=s:=List.takeWhile_append_dropWhile
theorem zaH:∀(u:List UInt8),(∀c∈u,c≠32)→∀r,(sp1 32 (u++32::r)=u::sp1 32 r)∧sp1 32 u=[u]
 | [],_,r=>⟨by simp[sp1],rfl⟩
 | b::u,h,r=>by
   obtain⟨h1,h2⟩:=zaH u (fun c hc=>h c (by simp[hc])) r
   have hb:¬b=32:=h b (by simp)
   constructor
   ·rw[List.cons_append,sp1,if_neg hb,h1]
   ·rw[sp1,if_neg hb,h2]
theorem zem (s:List UInt8):∀c∈hd s,c≠32:=fun c hc=>by
 have:=List.all_takeWhile (p:=fun c:UInt8=>c != 32) (l:=s)
 rw[List.all_eq_true] at this
 simpa using this c hc
theorem zaI (s:List UInt8):tl s=[]∨∃r,tl s=32::r:=by
 unfold tl
 induction s with
 | nil=>exact .inl rfl
 | cons b s ih =>
   by_cases h:b=32
   ·subst h;rw[List.dropWhile_cons_of_neg (by simp)];exact .inr ⟨s,rfl⟩
   ·rw[List.dropWhile_cons_of_pos (by simpa using h)];exact ih
theorem zb5 {s:List UInt8} (h:hd s≠[]):we s=hd s::we (tl s):=by
 have e:=X9 s
 rcases zaI s with h1 | ⟨r,h1⟩
 ·rw[h1,List.append_nil] at e
  rw[h1,zaG]
  conv=>lhs;rw[←e]
  unfold we
  rw[(zaH (hd s) (zem s) []).2,Qd,if_neg h]
  rfl
 ·rw[h1] at e ⊢
  rw[zdZ]
  conv=>lhs;rw[←e]
  unfold we
  rw[(zaH (hd s) (zem s) r).1,Qd,if_neg h]
def zdE (s:List UInt8):Prop:=s=[]∨hd s≠[]
theorem vZ:∀s:List UInt8,zdE (Lib.trimLeftB s 32)
 | []=>.inl rfl
 | b::l=>by
   unfold Lib.trimLeftB
   by_cases h:b=32
   ·subst h
    rw[List.dropWhile_cons_of_pos (by simp)]
    exact vZ l
   ·rw[List.dropWhile_cons_of_neg (by simpa using h)]
    exact .inr (by simp[hd,h])
theorem trimL_id {s:List UInt8} (h:zdE s):Lib.trimLeftB s 32=s:=by
 cases s with
 | nil=>rfl
 | cons b l =>
   rcases h with h | h
   ·cases h
   ·unfold Lib.trimLeftB
    by_cases hb:b=32
    ·subst hb;exact absurd (by simp[hd]) h
    ·rw[List.dropWhile_cons_of_neg (by simpa using hb)]
theorem Q2 (s:List UInt8):(Lib.trimLeftB s 32).length≤s.length:=(List.dropWhile_sublist _).length_le
theorem pre_hd {g:List UInt8} (hg:∀c∈g,c≠32) (s:List UInt8):g.isPrefixOf s=g.isPrefixOf (hd s):=by
 induction g generalizing s with
 | nil=>simp
 | cons a g ih =>
   cases s with
   | nil=>rfl
   | cons b s =>
     have ha:=hg a (by simp)
     by_cases hb:b=32
     ·subst hb
      have e:hd (32::s)=[]:=by simp[hd]
      rw[e]
      simp[List.isPrefixOf,ha]
     ·have e:hd (b::s)=b::hd s:=by simp[hd,hb]
      rw[e]
      simp only[List.isPrefixOf]
      rw[ih (fun c hc=>hg c (by simp[hc])) s]
theorem zd0:∀(gs:List (List UInt8)) (_:∀g∈gs,∀c∈g,c≠32) (s:List UInt8),opW gs s=((opW gs (hd s)).1,(opW gs (hd s)).2++tl s)
 | [],_,s=>by simp[opW,X9]
 | g::gs,h,s=>by
   have hp:=pre_hd (h g (by simp)) s
   simp only[opW]
   rw[hp]
   split
   ·rename_i hq
    have hl:=(List.isPrefixOf_iff_prefix.1 hq).length_le
    have e:=X9 s
    conv=>lhs;rw[←e]
    rw[List.drop_append_of_le_length hl]
   ·exact zd0 gs (fun g hg=>h g (by simp[hg])) s
theorem sgs_no:∀g∈sgs,∀c∈g,c≠32:=by decide
theorem jS:∀(gs:List (List UInt8)) (s:List UInt8),(opW gs s).2=s.drop (opW gs s).1.length
 | [],s=>rfl
 | g::gs,s=>by
   simp only[opW]
   split
   ·rfl
   ·exact jS gs s
theorem opW_suffix (gs:List (List UInt8)) (s:List UInt8):(opW gs s).2 <:+ s:=by rw[jS];exact List.drop_suffix _ _
abbrev Tok:=List UInt8×List UInt8
def tokW:List (List UInt8)→Option (List Tok)
 | []=>some []
 | [w]=>if (opW sgs w).2=[] then none else some [opW sgs w]
 | w::x::ws=>if (opW sgs w).2=[] then (tokW ws).map (((opW sgs w).1,x)::·) else (tokW (x::ws)).map (opW sgs w::·)
theorem vB (w:List UInt8) (ws:List (List UInt8)) (h:(opW sgs w).2≠[]):tokW (w::ws)=(tokW ws).map (opW sgs w::·):=by
 cases ws with
 | nil=>simp[tokW,h]
 | cons x ws=>simp[tokW,h]
def cutW (s:List UInt8):Tok×List UInt8:=((((opW sgs s).1,hd (Lib.trimLeftB (opW sgs s).2 32)):Tok),tl (Lib.trimLeftB (opW sgs s).2 32))
theorem cut_step {s:List UInt8} (h:hd s≠[]):tokW (we s)=if (cutW s).1.2=[] then none else (tokW (we (cutW s).2)).map ((cutW s).1::·):=by
 have ho:=zd0 sgs sgs_no s
 obtain⟨o,r,hor⟩:∃o r,opW sgs (hd s)=(o,r):=⟨_,_,rfl⟩
 rw[hor] at ho
 simp only at ho
 have hrs:∀c∈r,c≠32:=fun c hc=>by
  have:=opW_suffix sgs (hd s)
  rw[hor] at this
  exact zem s c (this.mem hc)
 rw[zb5 h]
 by_cases hr:r=[]
 ·subst hr
  rw[List.nil_append] at ho
  unfold cutW
  rw[ho]
  simp only
  obtain⟨u,hu⟩:∃u,Lib.trimLeftB (tl s) 32=u:=⟨_,rfl⟩
  have hw:we (tl s)=we u:=by rw[←hu,Q1]
  have ht:zdE u:=by rw[←hu];exact vZ _
  rw[hu,hw]
  rcases ht with rfl | ht
  ·rw[zaG,if_pos (show hd []=[] from rfl)]
   simp[tokW,hor]
  ·rw[zb5 ht,if_neg ht]
   simp[tokW,hor]
 ·have h1:Lib.trimLeftB (r++tl s) 32=r++tl s:=by
   cases r with
   | nil=>exact absurd rfl hr
   | cons b r =>
     have hb:=hrs b (by simp)
     exact trimL_id (.inr (by simp[hd,hb]))
  have h2:hd (r++tl s)=r:=by
   unfold hd
   rw[List.takeWhile_append_of_pos (fun c hc=>by simpa using hrs c hc)]
   rcases zaI s with e | ⟨q,e⟩<;>rw[e]<;>simp
  have h3:tl (r++tl s)=tl s:=by
   unfold tl
   rw[List.dropWhile_append_of_pos (fun c hc=>by simpa using hrs c hc)]
   rcases zaI s with e | ⟨q,e⟩
   ·have e':List.dropWhile (fun x=>x != 32) s=[]:=e
    rw[e'];rfl
   ·have e':List.dropWhile (fun x=>x != 32) s=32::q:=e
    rw[e'];rfl
  unfold cutW
  rw[ho]
  simp only
  rw[h1,h2,h3,if_neg hr,vB _ _ (by rw[hor];exact hr),hor]
theorem cut_less {s:List UInt8} (h:(cutW s).1.2≠[]):(cutW s).2.length<s.length:=by
 unfold cutW at h ⊢
 simp only at h ⊢
 have h1:=X9 (Lib.trimLeftB (opW sgs s).2 32)
 have h2:=congrArg List.length h1
 rw[List.length_append] at h2
 have h3:=Q2 (opW sgs s).2
 have h4:=Z0 sgs s
 have h5:=List.length_pos_iff.2 h
 omega
theorem TO.ltle {α:Type} {c:α→α→Int} (h:TO c) {x y z:α} (h1:c x y<0) (h2:c y z≤0):c x z<0:=by
 rcases Int.lt_or_eq_of_le h2 with h2 | h2
 ·exact h.trans h1 h2
 ·have h3:=h.tr x y z (by omega) (by omega)
  rcases Int.lt_or_eq_of_le h3 with h4 | h4
  ·exact h4
  ·have e1:=(h.eq y z).1 h2
   have e2:=(h.eq x z).1 h4
   have:=h.tr y z x (by omega) (by omega)
   have:=(h.flip x y).1 h1
   omega
theorem TO.lelt {α:Type} {c:α→α→Int} (h:TO c) {x y z:α} (h1:c x y≤0) (h2:c y z<0):c x z<0:=by
 have h3:=h.tr x y z h1 (by omega)
 rcases Int.lt_or_eq_of_le h3 with h4 | h4
 ·exact h4
 ·have e2:=(h.eq x z).1 h4
  have:=h.tr z x y (by omega) h1
  have:=(h.flip y z).1 h2
  omega
theorem TO.irr {α:Type} {c:α→α→Int} (h:TO c) (x:α):¬c x x<0:=by rw[h.refl];omega
theorem TO.notlt {α:Type} {c:α→α→Int} (h:TO c) {x y:α} (h1:¬c x y<0):c y x≤0:=(h.le y x).2 (by omega)
theorem TO.notle {α:Type} {c:α→α→Int} (h:TO c) {x y:α} (h1:¬c x y≤0):c y x<0:=(h.flip y x).2 (by omega)
theorem orL2 {a b:Int} (h:orL [a,b]=0):a=0∧b=0:=by
 simp only[orL] at h
 split at h
 ·rename_i e
  split at h
  ·rename_i e2;exact⟨e,e2⟩
  ·rename_i e2;exact absurd h e2
 ·rename_i e;exact absurd h e
theorem orL3 {a b c:Int} (h:orL [a,b,c]=0):a=0∧b=0∧c=0:=by
 simp only[orL] at h
 split at h
 ·rename_i e
  split at h
  ·rename_i e2
   split at h
   ·rename_i e3;exact⟨e,e2,e3⟩
   ·rename_i e3;exact absurd h e3
  ·rename_i e2;exact absurd h e2
 ·rename_i e;exact absurd h e
theorem trim_whole {p q:List UInt8} (hp:qG p=true) (hq:qG q=true) (h:Lib.trimLeftB p 48=Lib.trimLeftB q 48):p=q:=by
 have key:∀p:List UInt8,qG p=true→(p=[48]∧Lib.trimLeftB p 48=[])∨(Lib.trimLeftB p 48=p∧p≠[]):=by
  intro p hp
  cases p with
  | nil=>simp[qG] at hp
  | cons c l =>
    by_cases hc:c=48
    ·subst hc
     cases l with
     | nil=>exact .inl ⟨rfl,rfl⟩
     | cons d l=>simp[qG] at hp
    ·refine .inr ⟨?_,by simp⟩
     unfold Lib.trimLeftB
     rw[List.dropWhile_cons_of_neg (by simpa using hc)]
 rcases key p hp with⟨h1,h2⟩ | ⟨h1,h2⟩<;>rcases key q hq with⟨h3,h4⟩ | ⟨h3,h4⟩
 ·rw[h1,h3]
 ·rw[h2,h3] at h;exact absurd h.symm h4
 ·rw[h1,h4] at h;exact absurd h h2
 ·rw[h1,h3] at h;exact h
theorem zaa {p:List UInt8} (h:qw p=false):p≠[]∧(digs p=true→qG p=true):=by
 simp only[qw,Bool.or_eq_false_iff] at h
 obtain⟨⟨_,h2⟩,h3⟩:=h
 refine⟨fun e=>by subst e;simp[preB] at h2,fun hd=>?_⟩
 rw[hd] at h3
 simpa using h3
theorem cmpPre_eq {p q:List UInt8} (hp:qw p=false) (hq:qw q=false) (h:z7 p q=0):p=q:=by
 obtain⟨p1,p2⟩:=zaa hp
 obtain⟨q1,q2⟩:=zaa hq
 have ep:jN p=digs p:=by cases p<;>simp_all[jN]
 have eq_:jN q=digs q:=by cases q<;>simp_all[jN]
 unfold z7 at h
 rw[ep,eq_] at h
 cases hdp:digs p<;>cases hdq:digs q<;>simp only[hdp,hdq,if_true,Bool.false_eq_true,if_false] at h
 ·exact (yV p q).1 h
 ·cases h
 ·cases h
 ·obtain⟨_,h2⟩:=orL2 h
  exact trim_whole (p2 hdp) (q2 hdq) ((yV _ _).1 h2)
theorem zdm {α:Type} {c:α→α→Int}:∀{a b:List α},(∀x∈a,∀y∈b,c x y=0→x=y)→lexL c a b=0→a=b
 | [],[],_,_=>rfl
 | [],_::_,_,h=>by simp[lexL] at h
 | _::_,[],_,h=>by simp[lexL] at h
 | x::a,y::b,he,h=>by
   simp only[lexL] at h
   split at h
   ·rename_i e
    rw[he x (by simp) y (by simp) e,zdm (fun u hu v hv=>he u (by simp[hu]) v (by simp[hv])) h]
   ·rename_i e;exact absurd h e
theorem VL {a b:Cut} (ha:a.good) (hb:b.good) (h:cmpC a b=0):a=b:=by
 obtain⟨⟨a1,a2,a3,a4⟩,a5⟩:=a
 obtain⟨⟨b1,b2,b3,b4⟩,b5⟩:=b
 unfold cmpC at h
 split at h
 ·rename_i hv
  have h5:a5=b5:=by
   split at h
   ·rename_i e;exact e
   ·split at h<;>cases h
  unfold cmpV at hv
  split at hv
  ·rename_i ho
   obtain⟨o1,o2,o3⟩:=orL3 ho
   have e1:=QU o1
   have e2:=QU o2
   have e3:=QU o3
   have e4:a4=b4:=by
    simp only at hv
    split at hv
    ·rename_i l1
     split at hv
     ·rename_i l2;rw[List.length_eq_zero_iff.1 l1,List.length_eq_zero_iff.1 l2]
     ·cases hv
    ·split at hv
     ·cases hv
     ·exact zdm (fun x hx y hy=>cmpPre_eq (ha.2 x hx) (hb.2 y hy)) hv
   simp only at e1 e2 e3
   rw[e1,e2,e3,e4,h5]
  ·rename_i ho;exact absurd hv ho
 ·rename_i hv;exact absurd h hv
mutual
def rnC (is:Cut→Bool):List Cut→List Str
 | []=>[]
 | c::l=>if is c=true then rnO is c l else rnC is l
def rnO (is:Cut→Bool) (s:Cut):List Cut→List Str
 | []=>[qC s]
 | c::l=>if is c=true then rnO is s l else betw s c::rnC is l
end
theorem setLast_snoc (out:List Str) (s c:Cut):kp (out++[qC s]) c=out++[betw s c]:=by
 unfold kp
 rw[List.getLast?_append]
 simp[qC,betw]
theorem zab (is:Cut→Bool):∀(l:List Cut) (out:List Str),(swL is l (false,out)).2=out++rnC is l∧∀s,(swL is l (true,out++[qC s])).2=out++rnO is s l
 | [],out=>⟨by simp[swL,rnC],fun s=>by simp[swL,rnO]⟩
 | c::l,out=>by
   have e1:∀st,swL is (c::l) st=swL is l (swS is st c):=fun _=>rfl
   constructor
   ·rw[e1]
    cases h:is c
    ·have:swS is (false,out) c=(false,out):=by simp[swS,h]
     rw[this,(zab is l out).1,rnC,h,if_neg (by simp)]
    ·have:swS is (false,out) c=(true,out++[qC c]):=by simp[swS,h]
     rw[this,(zab is l out).2 c,rnC,h,if_pos rfl]
   ·intro s
    rw[e1]
    cases h:is c
    ·have:swS is (true,out++[qC s]) c=(false,out++[betw s c]):=by simp[swS,h,setLast_snoc]
     rw[this,(zab is l (out++[betw s c])).1,rnO,h,if_neg (by simp),List.append_assoc]
     rfl
    ·have:swS is (true,out++[qC s]) c=(true,out++[qC s]):=by simp[swS,h]
     rw[this,(zab is l out).2 s,rnO,h,if_pos rfl]
noncomputable def zaJ (a b:List Str):List Cut:=Vu (kJ (zT a++zT b))
theorem zb6 (f:Bool→Bool→Bool) (a b:List Str):yC f a b=rnC (fun c=>f (covA a c) (covA b c)) (zaJ a b):=by
 unfold yC
 rw[Vv,(zab _ _ []).1]
 rfl
theorem xT (a b:List Str) (c:Cut):c∈zaJ a b↔c∈zT a∨c∈zT b:=by
 unfold zaJ
 rw[Je,(yB _).mem_iff,List.mem_append]
theorem Q3 {l:List Str} (h:goodR l):∀c∈zT l,c.good:=vv h
theorem xU {a b:List Str} (ha:goodR a) (hb:goodR b):(zaJ a b).Pairwise fun x y=>cmpC x y<0:=by
 refine W4 _ (fun x hx y hy h=>?_) (sortCu_sorted _)
 have g:∀z∈kJ (zT a++zT b),z.good:=fun z hz=>by
  rcases List.mem_append.1 ((yB _).mem_iff.1 hz) with h | h
  ·exact Q3 ha z h
  ·exact Q3 hb z h
 exact VL (g x hx) (g y hy) h
def CanR:Option Cut→List Str→Prop
 | _,[]=>True
 | lo,s::l=>(∀q,lo=some q→cmpC q s.lo<0)∧if s.endless=true then l=[]∧s.hi=cut0 else cmpC s.lo s.hi<0∧CanR (some s.hi) l
theorem canR_none {lo:Option Cut} {l:List Str} (h:CanR lo l):CanR none l:=by
 cases l with
 | nil=>trivial
 | cons s l=>exact⟨fun q e=>(by cases e),h.2⟩
theorem zdn (is:Cut→Bool):∀(l:List Cut),l.Pairwise (fun x y=>cmpC x y<0)→(∀lo:Option Cut,(∀q,lo=some q→∀x∈l,cmpC q x<0)→CanR lo (rnC is l))∧∀(lo:Option Cut) (s:Cut),(∀q,lo=some q→cmpC q s<0)→(∀x∈l,cmpC s x<0)→CanR lo (rnO is s l)
 | [],_=>⟨fun _ _=>trivial,fun lo s h _=>⟨h,by simp[qC]⟩⟩
 | c::l,hs=>by
   obtain⟨h1,h2⟩:=List.pairwise_cons.1 hs
   obtain⟨i1,i2⟩:=zdn is l h2
   constructor
   ·intro lo hlo
    rw[rnC]
    split
    ·exact i2 lo c (fun q hq=>hlo q hq c (by simp)) h1
    ·exact i1 lo fun q hq x hx=>hlo q hq x (by simp[hx])
   ·intro lo s hlo hsl
    rw[rnO]
    split
    ·exact i2 lo s hlo fun x hx=>hsl x (by simp[hx])
    ·refine⟨hlo,?_⟩
     simp only[betw,Bool.false_eq_true,if_false]
     exact⟨hsl c (by simp),i1 (some c) fun q hq x hx=>by injection hq with hq;rw[←hq];exact h1 x hx⟩
noncomputable def vC (is:Cut→Bool):Bool→List Cut→Cut→Bool
 | d,[],_=>d
 | d,x::l,c=>if cmpC x c≤0 then vC is (is x) l c else d
theorem kz:∀{l:List Str} {lo c:Cut},CanR (some lo) l→cmpC c lo≤0→covA l c=false
 | [],_,_,_,_=>rfl
 | s::l,lo,c,h,hc=>by
   have h1:cmpC lo s.lo<0:=h.1 lo rfl
   have h2:cmpC c s.lo<0:=cmpC_to.lelt hc h1
   have h3:covB s c=false:=by
    have:=(cmpC_to.flip c s.lo).1 h2
    simp[covB,show ¬cmpC s.lo c≤0 by omega]
   have h4:covA l c=false:=by
    have hh:=h.2
    split at hh
    ·rw[hh.1];rfl
    ·exact kz hh.2 (Int.le_of_lt (cmpC_to.trans h2 hh.1))
   unfold covA at h4 ⊢
   rw[List.any_cons,h3,h4]
   rfl
theorem zd1 (is:Cut→Bool) (c:Cut):∀(l:List Cut),l.Pairwise (fun x y=>cmpC x y<0)→covA (rnC is l) c=vC is false l c∧∀s,(∀x∈l,cmpC s x<0)→covA (rnO is s l) c=if cmpC s c≤0 then vC is true l c else false
 | [],_=>⟨rfl,fun s _=>by simp[rnO,covA,covB,qC,vC]⟩
 | x::l,hs=>by
   obtain⟨h1,h2⟩:=List.pairwise_cons.1 hs
   obtain⟨i1,i2⟩:=zd1 is c l h2
   have hcan:=zdn is l h2
   constructor
   ·rw[rnC,vC]
    cases hx:is x
    ·rw[if_neg (by simp),i1]
     split
     ·rfl
     ·rename_i hn
      cases l with
      | nil=>rfl
      | cons y l =>
        have hlt:=cmpC_to.trans (cmpC_to.notle hn) (h1 y (by simp))
        have:=(cmpC_to.flip c y).1 hlt
        simp only[vC]
        rw[if_neg (by omega)]
    ·rw[if_pos rfl,i2 x h1]
   ·intro s hsl
    have hsx:=hsl x (by simp)
    rw[rnO,vC]
    cases hx:is x
    ·rw[if_neg (by simp)]
     have hcb:=(hcan.1 (some x) fun q hq y hy=>by injection hq with hq;rw[←hq];exact h1 y hy)
     have e:covA (betw s x::rnC is l) c=(covB (betw s x) c||covA (rnC is l) c):=rfl
     rw[e]
     by_cases hxc:cmpC x c≤0
     ·have hsc:cmpC s c≤0:=Int.le_of_lt (cmpC_to.ltle hsx hxc)
      have hb:covB (betw s x) c=false:=by
       have:=(cmpC_to.le x c).1 hxc
       simp[covB,betw,show ¬cmpC c x<0 by omega]
      rw[hb,if_pos hsc,if_pos hxc,Bool.false_or,i1]
     ·have hcx:=cmpC_to.notle hxc
      have hz:covA (rnC is l) c=false:=kz hcb (Int.le_of_lt hcx)
      rw[hz,Bool.or_false,if_neg hxc]
      simp only[covB,betw,hcx,Bool.false_or,decide_true,Bool.and_true]
      by_cases hsc:cmpC s c≤0<;>simp[hsc]
    ·rw[if_pos rfl,i2 s fun y hy=>hsl y (by simp[hy])]
     by_cases hxc:cmpC x c≤0
     ·rw[if_pos hxc]
     ·rw[if_neg hxc]
      have hlast:vC is true l c=true:=by
       cases l with
       | nil=>rfl
       | cons y l =>
         have hlt:=cmpC_to.trans (cmpC_to.notle hxc) (h1 y (by simp))
         have:=(cmpC_to.flip c y).1 hlt
         simp only[vC]
         rw[if_neg (by omega)]
      rw[hlast]
theorem zb7 {a:List Str} {x c:Cut} (hxc:cmpC x c≤0) (h:∀y∈zT a,cmpC y c≤0→cmpC y x≤0):covA a c=covA a x:=by
 induction a with
 | nil=>rfl
 | cons s a ih =>
   have e:∀c,covA (s::a) c=(covB s c||covA a c):=fun _=>rfl
   rw[e,e,ih fun y hy=>h y (by rw[zT];exact List.mem_append_right _ hy)]
   congr 1
   have hlo:s.lo∈zT (s::a):=by rw[zT];apply List.mem_append_left;split<;>simp
   have k1:cmpC s.lo c≤0↔cmpC s.lo x≤0:=⟨h _ hlo,fun g=>cmpC_to.tr _ _ _ g hxc⟩
   unfold covB
   cases he:s.endless
   ·have hhi:s.hi∈zT (s::a):=by rw[zT,he];simp
    have k2:cmpC c s.hi<0↔cmpC x s.hi<0:=by
     constructor
     ·exact fun g=>cmpC_to.lelt hxc g
     ·intro g
      refine Decidable.byContradiction fun hn=>?_
      have g2:=h _ hhi (cmpC_to.notlt hn)
      exact cmpC_to.irr x (cmpC_to.ltle g g2)
    simp only[k1,k2]
   ·simp only[k1,Bool.true_or]
theorem zac {a:List Str} {c:Cut} (h:∀y∈zT a,¬cmpC y c≤0):covA a c=false:=by
 induction a with
 | nil=>rfl
 | cons s a ih =>
   have e:covA (s::a) c=(covB s c||covA a c):=rfl
   have hlo:s.lo∈zT (s::a):=by rw[zT];apply List.mem_append_left;split<;>simp
   rw[e,ih fun y hy=>h y (by rw[zT];exact List.mem_append_right _ hy)]
   simp[covB,h _ hlo]
theorem JQ (is:Cut→Bool) (c:Cut):∀(l:List Cut) (d:Bool),l.Pairwise (fun x y=>cmpC x y<0)→(vC is d l c=d∧∀y∈l,¬cmpC y c≤0)∨∃x∈l,cmpC x c≤0∧vC is d l c=is x∧∀y∈l,cmpC y c≤0→cmpC y x≤0
 | [],d,_=>.inl ⟨rfl,fun y hy=>by cases hy⟩
 | x::l,d,hs=>by
   obtain⟨h1,h2⟩:=List.pairwise_cons.1 hs
   by_cases hx:cmpC x c≤0
   ·right
    simp only[vC,if_pos hx]
    rcases JQ is c l (is x) h2 with⟨e,hn⟩ | ⟨z,hz,hzc,e,hn⟩
    ·refine⟨x,by simp,hx,e,fun y hy hyc=>?_⟩
     rcases List.mem_cons.1 hy with rfl | hy
     ·rw[cmpC_to.refl];exact Int.le_refl _
     ·exact absurd hyc (hn y hy)
    ·refine⟨z,by simp[hz],hzc,e,fun y hy hyc=>?_⟩
     rcases List.mem_cons.1 hy with rfl | hy
     ·exact Int.le_of_lt (h1 z hz)
     ·exact hn y hy hyc
   ·left
    simp only[vC,if_neg hx]
    refine⟨trivial,fun y hy hyc=>?_⟩
    rcases List.mem_cons.1 hy with rfl | hy
    ·exact hx hyc
    ·exact hx (Int.le_of_lt (cmpC_to.ltle (h1 y hy) hyc))
theorem VM {f:Bool→Bool→Bool} (hf:f false false=false) {a b:List Str} (ha:goodR a) (hb:goodR b) (c:Cut):covA (yC f a b) c=f (covA a c) (covA b c):=by
 have hs:=xU ha hb
 rw[zb6,(zd1 _ c _ hs).1]
 rcases JQ (fun c=>f (covA a c) (covA b c)) c (zaJ a b) false hs with⟨e,hn⟩ | ⟨x,hx,hxc,e,hn⟩
 ·rw[e,zac fun y hy=>hn y ((xT a b y).2 (.inl hy)),zac fun y hy=>hn y ((xT a b y).2 (.inr hy)),hf]
 ·rw[e,zb7 hxc fun y hy=>hn y ((xT a b y).2 (.inl hy)),zb7 hxc fun y hy=>hn y ((xT a b y).2 (.inr hy))]
theorem Yy {f:Bool→Bool→Bool} {a b:List Str} (ha:goodR a) (hb:goodR b):CanR none (yC f a b):=by
 rw[zb6]
 exact (zdn _ _ (xU ha hb)).1 none fun q e=>by cases e
theorem zaK:∀{l m:List Str} {lo lo':Option Cut},CanR lo l→CanR lo' m→goodR l→goodR m→(∀c,c.good→covA l c=covA m c)→l=m
 | [],[],_,_,_,_,_,_,_=>rfl
 | [],t::m,_,lo',_,h2,_,gm,h=>by
   have:=h t.lo (gm t (by simp)).1
   have hc:covA (t::m) t.lo=true:=by
    have hb:covB t t.lo=true:=by
     have hh:=h2.2
     unfold covB
     rw[cmpC_to.refl]
     split at hh
     ·rename_i e;simp[e]
     ·simp[hh.1]
    unfold covA;rw[List.any_cons,hb];rfl
   rw[hc] at this
   cases this
 | s::l,[],lo,_,h1,_,gl,_,h=>by
   have:=h s.lo (gl s (by simp)).1
   have hc:covA (s::l) s.lo=true:=by
    have hb:covB s s.lo=true:=by
     have hh:=h1.2
     unfold covB
     rw[cmpC_to.refl]
     split at hh
     ·rename_i e;simp[e]
     ·simp[hh.1]
    unfold covA;rw[List.any_cons,hb];rfl
   rw[hc] at this
   cases this
 | s::l,t::m,lo,lo',h1,h2,gl,gm,h=>by
   have head:∀{s:Str} {l:List Str} {lo:Option Cut},CanR lo (s::l)→covB s s.lo=true:=fun {s l lo} h1=>by
    have hh:=h1.2
    unfold covB
    rw[cmpC_to.refl]
    split at hh
    ·rename_i e;simp[e]
    ·simp[hh.1]
   have tail:∀{s:Str} {l:List Str} {lo:Option Cut} {c:Cut},CanR lo (s::l)→(s.endless=false→cmpC c s.hi≤0)→covA (s::l) c=covB s c:=fun {s l lo c} h1 hc=>by
    have hh:=h1.2
    have e:covA (s::l) c=(covB s c||covA l c):=rfl
    rw[e]
    cases he:s.endless
    ·rw[he,if_neg (by simp)] at hh
     rw[kz hh.2 (hc he),Bool.or_false]
    ·rw[he,if_pos rfl] at hh
     rw[hh.1];simp[covA]
   have before:∀{s:Str} {l:List Str} {lo:Option Cut} {c:Cut},CanR lo (s::l)→cmpC c s.lo<0→covA (s::l) c=false:=fun {s l lo c} h1 hc=>by
    have hh:=h1.2
    rw[tail h1 fun he=>?_]
    ·have:=(cmpC_to.flip c s.lo).1 hc
     simp[covB,show ¬cmpC s.lo c≤0 by omega]
    ·rw[he,if_neg (by simp)] at hh
     exact Int.le_of_lt (cmpC_to.trans hc hh.1)
   have gs:=gl s (by simp)
   have gt:=gm t (by simp)
   have hcs:covA (s::l) s.lo=true:=by unfold covA;rw[List.any_cons,head h1];rfl
   have hct:covA (t::m) t.lo=true:=by unfold covA;rw[List.any_cons,head h2];rfl
   have elo:s.lo=t.lo:=by
    refine VL gs.1 gt.1 ?_
    have n1:¬cmpC s.lo t.lo<0:=fun hlt=>by
     have:=h s.lo gs.1
     rw[hcs,before h2 hlt] at this
     cases this
    have n2:¬cmpC t.lo s.lo<0:=fun hlt=>by
     have:=h t.lo gt.1
     rw[hct,before h1 hlt] at this
     cases this
    have:=(cmpC_to.flip s.lo t.lo)
    have:=(cmpC_to.flip t.lo s.lo)
    omega
   have hh1:=h1.2
   have hh2:=h2.2
   cases e1:s.endless<;>cases e2:t.endless
   ·rw[e1,if_neg (by simp)] at hh1
    rw[e2,if_neg (by simp)] at hh2
    have c1:covA (s::l) s.hi=false:=by
     rw[tail h1 fun _=>by rw[cmpC_to.refl];exact Int.le_refl _]
     simp[covB,e1,cmpC_to.refl]
    have c2:covA (t::m) t.hi=false:=by
     rw[tail h2 fun _=>by rw[cmpC_to.refl];exact Int.le_refl _]
     simp[covB,e2,cmpC_to.refl]
    have ehi:s.hi=t.hi:=by
     refine VL gs.2 gt.2 ?_
     have n1:¬cmpC s.hi t.hi<0:=fun hlt=>by
      have:=h s.hi gs.2
      rw[c1,tail h2 fun _=>Int.le_of_lt hlt] at this
      have h3:cmpC t.lo s.hi≤0:=by rw[←elo];exact Int.le_of_lt hh1.1
      simp[covB,hlt,h3] at this
     have n2:¬cmpC t.hi s.hi<0:=fun hlt=>by
      have:=h t.hi gt.2
      rw[c2,tail h1 fun _=>Int.le_of_lt hlt] at this
      have h3:cmpC s.lo t.hi≤0:=by rw[elo];exact Int.le_of_lt hh2.1
      simp[covB,hlt,h3] at this
     have:=(cmpC_to.flip s.hi t.hi)
     have:=(cmpC_to.flip t.hi s.hi)
     omega
    have est:s=t:=by
     obtain⟨a,b,c⟩:=s
     obtain⟨a',b',c'⟩:=t
     simp only at elo ehi e1 e2
     rw[elo,ehi,e1,e2]
    subst est
    rw[zaK hh1.2 hh2.2 (fun x hx=>gl x (by simp[hx])) (fun x hx=>gm x (by simp[hx])) fun c hc=>?_]
    by_cases hle:cmpC c s.hi≤0
    ·rw[kz hh1.2 hle,kz hh2.2 hle]
    ·have:=h c hc
     have hb:covB s c=false:=by
      have:=cmpC_to.notle hle
      simp[covB,e1,show ¬cmpC c s.hi<0 by omega]
     unfold covA at this ⊢
     rw[List.any_cons,List.any_cons,hb] at this
     exact this
   ·rw[e1,if_neg (by simp)] at hh1
    have:=h s.hi gs.2
    have c1:covA (s::l) s.hi=false:=by
     rw[tail h1 fun _=>by rw[cmpC_to.refl];exact Int.le_refl _]
     simp[covB,e1,cmpC_to.refl]
    have h3:cmpC t.lo s.hi≤0:=by rw[←elo];exact Int.le_of_lt hh1.1
    rw[c1,tail h2 fun e=>by rw[e2] at e;cases e] at this
    simp[covB,e2,h3] at this
   ·rw[e2,if_neg (by simp)] at hh2
    have:=h t.hi gt.2
    have c1:covA (t::m) t.hi=false:=by
     rw[tail h2 fun _=>by rw[cmpC_to.refl];exact Int.le_refl _]
     simp[covB,e2,cmpC_to.refl]
    have h3:cmpC s.lo t.hi≤0:=by rw[elo];exact Int.le_of_lt hh2.1
    rw[c1,tail h1 fun e=>by rw[e1] at e;cases e] at this
    simp[covB,e1,h3] at this
   ·rw[e1,if_pos rfl] at hh1
    rw[e2,if_pos rfl] at hh2
    obtain⟨a,b,c⟩:=s
    obtain⟨a',b',c'⟩:=t
    simp only at elo e1 e2 hh1 hh2
    rw[hh1.1,hh2.1,elo,e1,e2,hh1.2,hh2.2]
theorem least_le {c:Cut} (hp:0≤c.v.a∧0≤c.v.b∧0≤c.v.c):cmpC leastC c≤0:=by
 obtain⟨⟨a,b,d,p⟩,f⟩:=c
 obtain⟨h1,h2,h3⟩:=hp
 simp only at h1 h2 h3
 have hcm:∀x:Int,0≤x→cmpI 0 x=0∧x=0∨cmpI 0 x<0:=by
  intro x hx
  unfold cmpI
  split
  ·right;omega
  ·split
   ·omega
   ·left;omega
 have hpre:z7 [48] (p.headD [48])≤0:=by
  have d1:jN [48]=true:=by decide
  unfold z7
  rw[d1]
  have t1:Lib.trimLeftB [48] 48=[]:=by decide
  simp only[if_true,t1]
  split
  ·obtain⟨q,hq⟩:∃q,Lib.trimLeftB (p.headD [48]) 48=q:=⟨_,rfl⟩
   rw[hq]
   cases q with
   | nil=>decide
   | cons x q =>
     have:cmpI (([]:List UInt8).length) ((x::q).length)<0:=by
      rcases hcm ((x::q).length) (by omega) with⟨_,h⟩ | h
      ·simp at h;omega
      ·exact h
     simp only[orL]
     rw[if_neg (by omega)]
     omega
  ·omega
 have hv:cmpV ⟨0,0,0,[[48]]⟩ ⟨a,b,d,p⟩≤0:=by
  unfold cmpV
  simp only
  rcases hcm a h1 with⟨e1,_⟩ | e1
  ·rcases hcm b h2 with⟨e2,_⟩ | e2
   ·rcases hcm d h3 with⟨e3,_⟩ | e3
    ·have ho:orL [cmpI 0 a,cmpI 0 b,cmpI 0 d]=0:=by simp[orL,e1,e2,e3]
     rw[if_pos ho,if_neg (by simp)]
     split
     ·omega
     ·cases p with
      | nil=>rename_i h;exact absurd rfl h
      | cons q p =>
        simp only[lexL]
        split
        ·cases p<;>simp[lexL]
        ·simpa using hpre
    ·have ho:orL [cmpI 0 a,cmpI 0 b,cmpI 0 d]=cmpI 0 d:=by
      simp only[orL,e1,e2,if_true]
      rw[if_neg (by omega)]
     rw[ho,if_neg (by omega)];omega
   ·have ho:orL [cmpI 0 a,cmpI 0 b,cmpI 0 d]=cmpI 0 b:=by
     simp only[orL,e1,if_true]
     rw[if_neg (by omega)]
    rw[ho,if_neg (by omega)];omega
  ·have ho:orL [cmpI 0 a,cmpI 0 b,cmpI 0 d]=cmpI 0 a:=by
    simp only[orL]
    rw[if_neg (by omega)]
   rw[ho,if_neg (by omega)];omega
 have e:cmpC leastC ⟨⟨a,b,d,p⟩,f⟩=if cmpV ⟨0,0,0,[[48]]⟩ ⟨a,b,d,p⟩=0 then (if false=f then 0 else if f=true then -1 else 1) else cmpV ⟨0,0,0,[[48]]⟩ ⟨a,b,d,p⟩:=rfl
 rw[e]
 by_cases h0:cmpV ⟨0,0,0,[[48]]⟩ ⟨a,b,d,p⟩=0
 ·rw[if_pos h0]
  cases f<;>simp
 ·rw[if_neg h0]
  exact hv
def posC (c:Cut):Prop:=0≤c.v.a∧0≤c.v.b∧0≤c.v.c
def posR (l:List Str):Prop:=∀s∈l,posC s.lo∧posC s.hi
theorem Q4:goodR [qC leastC]:=(kr ye).2
theorem zb8 {m:List Str} {lo:Option Cut} (hc:CanR lo m) (hg:goodR m) (hp:posR m):yC and m [qC leastC]=m:=by
 refine zaK (Yy hg Q4) (canR_none hc) (ym _ hg Q4) hg fun c _=>?_
 rw[VM rfl hg Q4]
 cases hm:covA m c
 ·rfl
 ·have:cmpC leastC c≤0:=by
   unfold covA at hm
   rw[List.any_eq_true] at hm
   obtain⟨s,hs,hb⟩:=hm
   simp only[covB,Bool.and_eq_true,decide_eq_true_eq] at hb
   exact cmpC_to.tr _ _ _ (least_le (hp s hs).1) hb.1
  simp[covA,covB,qC,this]
theorem comb_comm {f:Bool→Bool→Bool} (hf:f false false=false) (hfc:∀x y,f x y=f y x) {a b:List Str} (ha:goodR a) (hb:goodR b):yC f a b=yC f b a:=by
 refine zaK (Yy ha hb) (Yy hb ha) (ym _ ha hb) (ym _ hb ha) fun c _=>?_
 rw[VM hf ha hb,VM hf hb ha,hfc]
theorem btw_can (a b:Cut):CanR none (btw a b):=by
 unfold btw
 split
 ·trivial
 ·exact⟨fun q e=>(by cases e),by simp only[betw,Bool.false_eq_true,if_false];exact⟨by omega,trivial⟩⟩
theorem from_can (a:Cut):CanR none [qC a]:=⟨fun q e=>(by cases e),by simp[qC]⟩
theorem combL_pos (f:Bool→Bool→Bool) {a b:List Str} (ha:posR a) (hb:posR b):posR (yC f a b):=XA (Q:=posC) (by simp[posC,cut0]) f ha hb
end Go.Proofs.YtdkfdoeijcfbhaaGreatDoor
