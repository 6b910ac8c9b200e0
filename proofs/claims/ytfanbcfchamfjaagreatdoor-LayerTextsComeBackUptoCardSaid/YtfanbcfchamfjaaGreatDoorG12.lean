/- Lemmas. -/
import Derived.Test.YtfanbcfchamfjaaGreatDoorG11
set_option maxRecDepth 8000
set_option maxHeartbeats 4000000
open Go Proofs Proofs.YtfanbcfchamfjaaGreatDoor Proofs.Tryz RowKit AM SpanLaw Q Zz
namespace Go.Q
theorem _root_.Go.AM.qR.put{Y:Hp}{Z e s j:Nat}{v:O}{xs:List zb}(h:qR Y Z e s v xs)(a:∀n,v≠.own j 0 n)(b:Option Blk):qR (zI Y j b) Z e s v xs:=
 h.same (zk _) fun id n e=>zT _ _ _ _ (by rintro rfl;exact a n e)
theorem pz{Y:Hp}{Z:Nat}{v:O}{b:za}(g:qR Y Z 5 1 v (b.map fa))(c:UInt8)(h:b.length<1000000000000):∃Y2,jG prog (zI Y Z (some ⟨5,1,true,[fa c]⟩)) (Z+1) 36 36 v (.own Z 0 1)=some (.own (Z+1) 0 (b.length+1),Y2,Z+2)/\qR Y2 (Z+2) 5 1 (.own (Z+1) 0 (b.length+1)) ((b++[c]).map fa)/\∀j,j<Z->(∀n,v≠.own j 0 n)->Y2 j=Y j:=by
 have a:=g.jc (P:=prog) (t:=36) (c:=fa c) el36 sz5 by5 ze5 rfl (by omega) (by simp[maxLen];omega) (by simp;omega);have d:=qR.after (Y:=Y) (Z:=Z) (e:=5) (s:=1) (v:=v) (xs:=b.map fa) (c:=fa c) (tmp:=some ⟨5,1,true,[fa c]⟩);rw[wx]at a;refine⟨_,a,?_,fun j i f=>?_⟩
 ·rw[yZ];simpa using d
 ·rw[zT _ _ _ _ (by omega),qK g _ j f,zT _ _ _ _ (by omega)]
theorem FH{s:za}{st:Jst}(h:st.p<=s.length):st.p<=(WC s st).2.p/\(WC s st).2.p<=s.length:=by
 have a:∀(k n:Nat) (st:Jst),st.p<s.length->st.p<=(fw s k n st).2.p/\(fw s k n st).2.p<=s.length:=by
  intro k
  induction k with
  |zero=>intro n st h;simp only[fw,Jst.wA];omega
  |succ k e=>
   intro n st h;rw[fw];split
   ·rename_i d hd;obtain⟨c,b,_⟩:=zL.1 hd;have:=(zd.1 b).1;have:=e (n*16+d) st.wA this;simp only[Jst.wA]at this⊢;omega
   ·simp only[Zc,Jst.wA];omega
 unfold WC;split
 ·rename_i i;simp only[Jst.wA];omega
 ·split
  ·simp only[Zc];omega
  ·rename_i b f;have g:st.p<s.length:=by refine EC fun j=>f (.inl (by omega))
   have:=a 4 0 st g;split
   ·exact this
   ·simp only;split
    ·rw[Zc];exact this
    ·exact this
theorem Eg{s:za}:∀(k:Nat) (b:za) (st:Jst),st.p<=s.length->st.p<=(sw s k b st).2.p/\(sw s k b st).2.p<=s.length/\(sw s k b st).1.length<=b.length+((sw s k b st).2.p-st.p)
 | 0,b,st,h=>by simp only[sw];exact⟨zk _,h,by simp⟩
 |k+1,b,st,h=>by
  rw[sw];split
  ·exact⟨zk _,h,by simp⟩
  ·split
   ·simp only[Zc];exact⟨zk _,h,by simp⟩
   ·rename_i f d;have e:st.p<s.length:=by refine EC fun g=>d (.inl (by omega))
    split
    ·simp only[Jst.wA];exact⟨by omega,by omega,Nat.le_add_right _ _⟩
    ·split
     ·have c:=FH (s:=s) (st:=st.wA) (by simp only[Jst.wA];omega);have a:=Eg (s:=s) k (b++[(WC s st.wA).1]) (WC s st.wA).2 c.2;simp only[Jst.wA,zt,vt]at c a⊢;omega
     ·have a:=Eg (s:=s) k (b++[jD s st]) st.wA (by simp only[Jst.wA];omega);simp only[Jst.wA,zt,vt]at a⊢;omega
theorem cc{s:za}{st:Jst}(h:st.p<=s.length):st.p<=(j7 s st).2.p/\(j7 s st).2.p<=s.length/\(j7 s st).1.length<=(j7 s st).2.p-st.p:=by
 have a:=Kf (s:=s) 34 h;unfold j7;split
 ·have:=Eg (s:=s) (s.length+1) [] (QK s st 34).2 a.2;simp only[zf,zu]at this;omega
 ·exact⟨a.1,a.2,by simp⟩
noncomputable abbrev Ctj:Ctx:=qf prog [(254,Vm),(253,Vn),(271,Oe),(272,Ou)]
theorem zc8:AM.Good Ctj (fun g=>[253].contains g):=qI mixed ⟨xD,by simp,xE,fun _=>xC _ _,V6,by simp,Ef,by simp,trivial⟩
noncomputable abbrev TX:AM.Spec:=mJ aU (fun _ _ _=>True) (fun s st _=>(j7 s st).2) (fun s st _=>str (j7 s st).1)
theorem mw{s:za}{st:Jst}{Y:Hp}{id Z:Nat}(a:Y id=some (wo s st))(hs:s.length<=1048576)(Y':st.p<=s.length):TX [.ref id 0 0] Y Z=some (str (j7 s st).1,zI Y id (some (wo s (j7 s st).2)),Z):=Zx v8 (fun _=>rfl) () a hs Y' trivial
def Kz(s:za)(st:Jst):Nat:=if st.e=0 then s.length-st.p+1 else 0
def TxI(s:za)(c:Jst)(n:Nat)(st:St):Prop:=st.σ 0=.ref 0 0 0/\0<st.Z/\∃b a k,qR st.Y st.Z 5 1 (st.σ 3) (b.map fa)/\st.Y 0=some (wo s a)/\a.p<=s.length/\b.length<=a.p/\Kz s a=n/\n<=k/\sw s k b a=j7 s c
theorem TxI.congr{s:za}{a:Jst}{n:Nat}{σ σ':Nat->O}{Y:Hp}{Z:Nat}(h:TxI s a n ⟨σ,Y,Z⟩)(b:σ' 0=σ 0)(c:σ' 3=σ 3):TxI s a n ⟨σ',Y,Z⟩:=by unfold TxI at h⊢;simp only[b,c];exact h
theorem eN:zh prog 256 TX:=
 j9 (C:=Ctj) func256 (by kernel_rfl) rfl TJ _ fun cs az cs' r h=>by
  obtain⟨s,st,⟨⟩,rfl,rfl,hs,Y,_,rfl,rfl⟩:=Qf h;refine⟨by simp[aU,f256],?_⟩;clear h;have i:=zc8;have P:Oe [.ref 0 0 0,.v (.int .u8 34)] (wF TJ (zO s st)) 1=some (q6 (QK s st 34).1,zI (wF TJ (zO s st)) 0 (some (wo s (QK s st 34).2)),1):=Vo 34 rfl hs Y;refine Wp.cut i (fun σ Y Z=>σ 0=.ref 0 0 0/\Y=wF TJ (zO s st)/\Z=1) (by simp[aU]) ?_;rintro σ _ _ ⟨d,rfl,rfl⟩;have K:=Kf (s:=s) 34 Y;cases o:(QK s st 34).1
  ·have g:j7 s st=([],(QK s st 34).2):=by rw[j7,o];rfl
   rw[o]at P;refine Wp.seq (Wp.of i ?_);simp[d,P,g,f256];exact yj rfl (by simp)
  have g:sw s (s.length+1) [] (QK s st 34).2=j7 s st:=by rw[j7,o];rfl
  rw[o]at P;obtain⟨a,G⟩:=yb ((QK s st 34).2);rw[G]at P g K;refine Wp.cut i (fun σ' Y Z=>σ' 0=.ref 0 0 0/\Y 0=some (wo s a)/\Z=1) (by simp[d,P]) ?_;clear P d o G σ;rintro σ Y1 _ ⟨d,o,rfl⟩;refine Wp.cut i (fun σ' Y Z=>TxI s st (Kz s a) ⟨σ',Y,Z⟩) ?_ ?_
  ·simp[d];refine⟨by simp[d],by simp,[],a,s.length+1,.inl ⟨by simp,rfl⟩,o,K.2,by simp,rfl,?_,g⟩;unfold Kz;split<;>omega
  clear d o σ Y1 g K;rintro σ Y1 Z hI;refine Wp.seq (Wp.block (Wp.loop (TxI s st) _ hI ?_));clear hI σ Y1 Z a;rintro n ⟨σ,Y1,Z⟩ ⟨d,E,b,a,k,D,o,L,hbl,hn,hnk,g⟩;simp only at d E D o;have l:=wX D o rfl;by_cases H:a.e=0
  case neg=>
   have ht2:j7 s st=([],a):=by
    rw[<-g];cases k with
    |zero=>rfl
    |succ k=>rw[sw,zl H]
   have f:=o;simp only[qe,zO,ze,zf,zu,Nat.reduceAdd]at f;refine Wp.seq (Wp.of i ?_);simp[d,f,H,ZR H];refine Wp.of i ?_;rw[ht2];simp[f256];exact yj rfl o
  have ziZ:s.length-a.p+1=n:=by rw[<-hn,Kz,zl H]
  obtain⟨k,rfl⟩:∃k',k=k'+1:=⟨k-1,by omega⟩;obtain⟨c,Q⟩:=yb (jD s a);have g1:=Zy (Z:=Z) o hs L;rw[Q]at g1;have f:=o;simp only[qe,zO,ze,zf,zu,Nat.reduceAdd]at f;refine Wp.cut i (fun σ' Y' Z'=>σ' 0=.ref 0 0 0/\σ' 3=σ 3/\Y'=Y1/\Z'=Z) (by simp[d,f,H]) ?_;rintro t Y1 Z ⟨e0,u,rfl,rfl⟩;rw[<-u]at D l;clear d u σ;refine Wp.block ?_;refine Wp.cut i (fun σ' Y' Z'=>σ' 0=.ref 0 0 0/\σ' 3=t 3/\σ' 4=dJ c/\Y'=Y1/\Z'=Z) (by simp[e0,g1,dJ]) ?_;rintro σ Y1 Z ⟨d,u,A,rfl,rfl⟩;rw[<-u]at D l;clear e0 u t;refine Wp.block ?_;rw[sw,zj (by simpa using H)]at g;simp only[dJ]at A;have c8:=Fy c;have R:(c<32)↔c.toNat<32:=yA;have S:(126<c)↔126<c.toNat:=yA;have gf:=vK (Z:=Z) a.p 10 o hs L (by omega);have m:s.length<=a.p\/jD s a<32\/126<jD s a->TxI s st (Kz s (a.fail s.length a.p 10)) ⟨σ,zI Y1 0 (some (wo s (a.fail s.length a.p 10))),Z⟩/\Kz s (a.fail s.length a.p 10)<n:=fun h=>by
   rw[zl h]at g;have hl:Kz s (a.fail s.length a.p 10)=0:=by simp[Kz,Jst.fail,H]
   refine⟨⟨d,E,b,a.fail s.length a.p 10,0,D.put l _,by simp,by rw[Zc];exact L,by rw[Zc];exact hbl,rfl,by omega,?_⟩,by omega⟩;rw[<-g];rfl
  by_cases I:s.length<=a.p
  ·obtain⟨T,w⟩:=m (.inl I);refine Wp.of i ?_;simp[d,A,f,I,gf];exact⟨_,w,T.congr (by simp) (by simp)⟩
  have s1':¬(s.length:Int)<=a.p:=by omega
  by_cases s2:c<32
  ·obtain⟨T,w⟩:=m (.inr (.inl (by rw[Q];exact s2)));have y:(c.toNat:Int)<32:=by have:=R.1 s2;omega
   refine Wp.of i ?_;simp[d,A,f,I,y,gf];exact⟨_,w,T.congr (by simp) (by simp)⟩
  have y:¬(c.toNat:Int)<32:=by have h2:¬c.toNat<32:=fun h=>s2 (R.2 h);omega
  by_cases s3:126<c
  ·obtain⟨T,w⟩:=m (.inr (.inr (by rw[Q];exact s3)));have B:(126:Int)<c.toNat:=by have:=S.1 s3;omega
   refine Wp.of i ?_;simp[d,A,f,I,y,B,gf];exact⟨_,w,T.congr (by simp) (by simp)⟩
  have B:¬(126:Int)<c.toNat:=by have h2:¬126<c.toNat:=fun h=>s3 (S.2 h);omega
  rw[zj (by rw[Q];simp[I,s2,s3]),Q]at g;clear m;have hw:=wN ((a.p:Int)+1);by_cases c1:c=34
  ·subst c1;rw[zl rfl]at g;rw[<-g];refine Wp.cut i (fun σ' Y' Z'=>σ' 0=.ref 0 0 0/\σ' 3=σ 3/\σ' 4=.v (.int .u8 34)/\σ' 26=q6 false/\Y'=Y1/\Z'=Z) (by simp[d,A,f,I,y,B]) ?_;clear d A;rintro t Y1 Z ⟨d,u,A,U,rfl,rfl⟩;rw[<-u]at D l;clear u σ;refine Wp.cond (b:=false) (by simp[AM.get,U]) ?_;simp only[zv,qz];refine Wp.cut i (fun σ' Y' Z'=>σ' 0=.ref 0 0 0/\σ' 3=t 3/\σ' 51=q6 true/\Y'=Y1/\Z'=Z) (by simp[d,A]) ?_;clear d A U;rintro σ Y1 Z ⟨d,u,W,rfl,rfl⟩;rw[<-u]at D l;clear u t;refine Wp.cond (b:=true) (by simp[AM.get,W]) ?_;simp only[qh];refine Wp.cut i (fun σ' Y' Z'=>σ' 3=σ 3/\Y'=zI Y1 0 (some (wo s a.wA))/\Z'=Z) (by simp[d,f,hw,qe,zO,Jst.wA]) ?_;clear d W;rintro t _ _ ⟨u,rfl,rfl⟩;have X:=D.put l (some (wo s a.wA));rw[<-u]at X;refine Wp.seq (Wp.region ?_);show kJ True Ctj _ _ (List.range' 0 1++(1::(List.range' 2 1++[]))) _ _;refine kJ.Xn i 0 1 (by decide) (by decide) ?_;simp;refine kJ.zg8 (q:=t 3) (s:=b) rfl (by decide) (by simp[AM.get]) X.view un36 un5 un9 ?_;refine kJ.Xn i 2 1 (by decide) (by decide) ?_;simp;refine kJ.nil ?_;simp only[WU,w5];refine Wp.of i ?_;simp[f256];exact yj rfl (by simp)
  have c1':((c.toNat:Int)==34)=false:=nf 34 c1;rw[zj c1]at g;by_cases c2:c=92
  ·subst c2;rw[zl rfl]at g;have tx:zI Y1 0 (some (wo s a.wA)) 0=some (wo s a.wA):=by simp
   have hal:a.wA.p<=s.length:=by simp only[Jst.wA];omega
   have ge:=Ib (id:=0) (Z:=Z) tx hs hal;have F:=FH (s:=s) hal;obtain⟨x,z,hx⟩:∃x z,WC s a.wA=(x,z):=⟨_,_,rfl⟩;rw[hx]at ge g F;simp only at ge g F;obtain⟨Y2,a1,O2,f2⟩:=pz (D.put l (some (wo s z))) x (by omega);have M:Y2 0=some (wo s z):=by rw[f2 0 E l];simp
   rw[yx]at ge;simp only[qe,zO,Jst.wA,fa,dJ,ze,zf,zu,Nat.reduceAdd,jo,qO]at ge a1;refine Wp.of i ?_;simp[d,A,f,I,y,B,zy,zR,zw,ge,a1,hw];simp only[Jst.wA]at F;have N:Kz s z<n:=by unfold Kz;split<;>omega
   exact⟨_,N,by simp[d],by simp,b++[x],z,k,by simpa using O2,M,F.2,by simp;omega,rfl,by omega,g⟩
  have c2':((c.toNat:Int)==92)=false:=nf 92 c2;rw[zj c2]at g;obtain⟨Y2,a1,O2,f2⟩:=pz D c (by omega);have M:Y2 0=some (wo s a):=by rw[f2 0 E l];exact o
  have J:=M;simp only[qe,zO,ze,zf,zu,Nat.reduceAdd]at J;simp only[fa]at a1;have w:a.p<s.length:=by omega
  have N:Kz s a.wA<n:=by simp only[Kz,Jst.wA,H,qh];omega
  refine Wp.of i ?_;simp[d,A,f,I,y,B,c1',c2',zy,zR,zw,a1,J,hw];have O3:=O2.put (j:=0) (fun n e=>by injection e with e;omega) (some (wo s a.wA));simp only[qe,zO,Jst.wA,ze,zf,zu,Nat.reduceAdd,jo,qO]at O3;exact⟨_,N,by simp[d],by simp,b++[c],a.wA,k,by simpa using O3,by simp[qe,zO,Jst.wA],by simp only[Jst.wA];omega,by simp[Jst.wA];omega,rfl,by omega,g⟩
end Go.Q
namespace Go.Proofs
open Go.Shelf
def Tryz.IY:Go.Shelf.Ren:=⟨fun|6=>225|15=>191|14=>242|28=>215|29=>103|20=>260|21=>261|22=>262|23=>263|24=>264|25=>265|26=>266|27=>267|46=>277|47=>234|48=>235|49=>278|50=>279|57=>283|n=>n,fun|22=>51|24=>112|25=>166|3=>3|39=>163|0=>0|53=>161|55=>129|4=>4|46=>275|45=>274|50=>119|5=>5|9=>9|66=>288|70=>292|76=>305|77=>102|n=>n,fun|n=>n⟩
theorem Tryz.zbz:Go.Proofs.SlLaysF0.n6 prog Tryz.IY:={
 mixed:=by kernel_rfl
 f6:=⟨f225.name,by decide,yn func225⟩
 f14:=⟨f242.name,by decide,yn func242⟩
 f15:=yn func191
 f20:=⟨f260.name,by decide,yn func260⟩
 f21:=⟨f261.name,by decide,yn func261⟩
 f22:=⟨f262.name,by decide,yn func262⟩
 f23:=⟨f263.name,by decide,yn func263⟩
 f24:=⟨f264.name,by decide,yn func264⟩
 f25:=⟨f265.name,by decide,yn func265⟩
 f26:=⟨f266.name,by decide,yn func266⟩
 f27:=⟨f267.name,by decide,yn func267⟩
 f28:=yn func215
 f29:=yn func103
 f46:=⟨f277.name,by decide,yn func277⟩
 f47:=yn func234
 f48:=yn func235
 f49:=⟨f278.name,by decide,yn func278⟩
 f50:=⟨f279.name,by decide,yn func279⟩
 f57:=⟨f283.name,by decide,yn func283⟩
 t0:=underlying0
 a0:=isAgg0
 z0:=sizeOf0
 v0:=zeroValue0
 t3:=underlying3
 a3:=isAgg3
 z3:=sizeOf3
 v3:=zeroValue3
 t4:=underlying4
 a4:=isAgg4
 z4:=sizeOf4
 v4:=zeroValue4
 t5:=underlying5
 a5:=isAgg5
 z5:=sizeOf5
 v5:=zeroValue5
 t9:=underlying9
 a9:=isAgg9
 z9:=sizeOf9
 v9:=zeroValue9
 t22:=underlying51
 a22:=isAgg51
 z22:=sizeOf51
 v22:=zeroValue51
 t25:=underlying166
 a25:=isAgg166
 z25:=sizeOf166
 v25:=zeroValue166
 t39:=underlying163
 a39:=isAgg163
 z39:=sizeOf163
 v39:=zeroValue163
 t45:=underlying274
 a45:=isAgg274
 z45:=sizeOf274
 v45:=zeroValue274
 t46:=underlying275
 a46:=isAgg275
 z46:=sizeOf275
 v46:=zeroValue275
 t50:=underlying119
 a50:=isAgg119
 z50:=sizeOf119
 v50:=zeroValue119
 t53:=underlying161
 a53:=isAgg161
 z53:=sizeOf161
 v53:=zeroValue161
 t55:=underlying129
 a55:=isAgg129
 z55:=sizeOf129
 v55:=zeroValue129
 t66:=underlying288
 a66:=isAgg288
 z66:=sizeOf288
 v66:=zeroValue288
 t70:=underlying292
 a70:=isAgg292
 z70:=sizeOf292
 v70:=zeroValue292
 t76:=underlying305
 a76:=isAgg305
 z76:=sizeOf305
 v76:=zeroValue305
 t77:=underlying102
 a77:=isAgg102
 z77:=sizeOf102
 v77:=zeroValue102}
theorem Tryz.Re:rA prog 225 5:=⟨fun _ _ V e f h i g blk off cap d w j a k b c=>AnyQ.slices_SortFunc_eq Tryz.zbz 5 isAgg112 sizeOf112 V e f h i g #[] blk off cap d w j a k b c,
 fun p cap l w=>AnyF.slices_SortFunc_none Tryz.zbz p cap l w⟩
def Tryz.IZ:Go.Shelf.Ren:=⟨fun|6=>274|15=>191|14=>282|28=>215|29=>103|20=>284|21=>285|22=>286|23=>287|24=>288|25=>289|26=>290|27=>291|46=>292|47=>234|48=>235|49=>293|50=>294|57=>295|n=>n,fun|22=>110|24=>149|25=>186|3=>3|39=>163|0=>0|53=>161|55=>129|4=>4|46=>275|45=>274|50=>119|5=>5|9=>9|66=>288|70=>292|76=>305|77=>102|n=>n,fun|n=>n⟩
theorem Tryz.zbA:Go.Proofs.SlLaysF0.n6 prog Tryz.IZ:={
 mixed:=by kernel_rfl
 f6:=⟨f274.name,by decide,yn func274⟩
 f14:=⟨f282.name,by decide,yn func282⟩
 f15:=yn func191
 f20:=⟨f284.name,by decide,yn func284⟩
 f21:=⟨f285.name,by decide,yn func285⟩
 f22:=⟨f286.name,by decide,yn func286⟩
 f23:=⟨f287.name,by decide,yn func287⟩
 f24:=⟨f288.name,by decide,yn func288⟩
 f25:=⟨f289.name,by decide,yn func289⟩
 f26:=⟨f290.name,by decide,yn func290⟩
 f27:=⟨f291.name,by decide,yn func291⟩
 f28:=yn func215
 f29:=yn func103
 f46:=⟨f292.name,by decide,yn func292⟩
 f47:=yn func234
 f48:=yn func235
 f49:=⟨f293.name,by decide,yn func293⟩
 f50:=⟨f294.name,by decide,yn func294⟩
 f57:=⟨f295.name,by decide,yn func295⟩
 t0:=underlying0
 a0:=isAgg0
 z0:=sizeOf0
 v0:=zeroValue0
 t3:=underlying3
 a3:=isAgg3
 z3:=sizeOf3
 v3:=zeroValue3
 t4:=underlying4
 a4:=isAgg4
 z4:=sizeOf4
 v4:=zeroValue4
 t5:=underlying5
 a5:=isAgg5
 z5:=sizeOf5
 v5:=zeroValue5
 t9:=underlying9
 a9:=isAgg9
 z9:=sizeOf9
 v9:=zeroValue9
 t22:=underlying110
 a22:=isAgg110
 z22:=sizeOf110
 v22:=zeroValue110
 t25:=underlying186
 a25:=isAgg186
 z25:=sizeOf186
 v25:=zeroValue186
 t39:=underlying163
 a39:=isAgg163
 z39:=sizeOf163
 v39:=zeroValue163
 t45:=underlying274
 a45:=isAgg274
 z45:=sizeOf274
 v45:=zeroValue274
 t46:=underlying275
 a46:=isAgg275
 z46:=sizeOf275
 v46:=zeroValue275
 t50:=underlying119
 a50:=isAgg119
 z50:=sizeOf119
 v50:=zeroValue119
 t53:=underlying161
 a53:=isAgg161
 z53:=sizeOf161
 v53:=zeroValue161
 t55:=underlying129
 a55:=isAgg129
 z55:=sizeOf129
 v55:=zeroValue129
 t66:=underlying288
 a66:=isAgg288
 z66:=sizeOf288
 v66:=zeroValue288
 t70:=underlying292
 a70:=isAgg292
 z70:=sizeOf292
 v70:=zeroValue292
 t76:=underlying305
 a76:=isAgg305
 z76:=sizeOf305
 v76:=zeroValue305
 t77:=underlying102
 a77:=isAgg102
 z77:=sizeOf102
 v77:=zeroValue102}
theorem Tryz.Rf:rA prog 274 6:=⟨fun _ _ V e f h i g blk off cap d w j a k b c=>AnyQ.slices_SortFunc_eq Tryz.zbA 6 isAgg149 sizeOf149 V e f h i g #[] blk off cap d w j a k b c,
 fun p cap l w=>AnyF.slices_SortFunc_none Tryz.zbA p cap l w⟩
end Go.Proofs
namespace Go.Q
theorem sL{α:Type}{r:α->α->Prop}(e:∀x,¬r x x)(f:∀x y,r x y->¬r y x):∀{a b:List α},a.Perm b->a.Pairwise r->b.Pairwise (fun x y=>¬r y x)->b=a
 |[],b,Y,_,_=>List.Perm.eq_nil Y.symm
 |x::a,b,Y,c,d=>by
  cases b with
  |nil=>simpa using Y.length_eq
  |cons y b=>
   rw[BM]at c d;have g:y=x:=by
    rcases zx.1 (Y.symm.subset (List.mem_cons_self (a:=y) (l:=b)))with h|h
    ·exact h
    ·have i:=c.1 y h;rcases zx.1 (Y.subset (List.mem_cons_self (a:=x) (l:=a)))with h4|h4
     ·exact h4.symm
     ·exact absurd i (d.1 x h4)
   subst g;rw[sL e f (List.Perm.cons_inv Y) c.2 d.2]
open Classical in
noncomputable def TY (x y:zb):Int:=if h:∃p:Val×Val,x=p.1.V/\y=p.2.V then wz h.choose.1 h.choose.2 else 0
theorem cd(a b:Val):TY a.V b.V=wz a b:=by have h:∃p:Val×Val,a.V=p.1.V/\b.V=p.2.V:=⟨(a,b),rfl,rfl⟩;rw[TY,dif_pos h,<-xN h.choose_spec.1,<-xN h.choose_spec.2]
def TZ(x:zb):Prop:=∃a:Val,x=a.V/\a.vb<=zD
theorem T0:EU prog 110 5 TY TZ:=
 ⟨fun args w=>enters_of func110 (by kernel_rfl) rfl args w,_,W8 zD,fun x y _ _ d e=>by obtain⟨a,rfl,c⟩:=d;obtain⟨b,rfl,f⟩:=e;rw[cd];exact K6 zD a b _ _ ⟨c,c,f⟩⟩
theorem A9:zh prog 225 (Y9 5 110 TY TZ):=
 KX (by omega) ⟨_,func225,by decide,by kernel_rfl⟩ Tryz.Re T0
theorem FK(l:List Val):Yl TY (l.map Val.V) where
 irrefl x d:=by obtain⟨s,hs,rfl⟩:=zZ.1 d;rw[cd,VE.refl];omega
 trans x d y g z h e f:=by obtain⟨a,i,rfl⟩:=zZ.1 d;obtain⟨b,j,rfl⟩:=zZ.1 g;obtain⟨c,k,rfl⟩:=zZ.1 h;rw[cd]at e f⊢;exact VE.trans e f
 ntrans x d y g z h e f:=by obtain⟨a,i,rfl⟩:=zZ.1 d;obtain⟨b,j,rfl⟩:=zZ.1 g;obtain⟨c,k,rfl⟩:=zZ.1 h;rw[cd]at e f⊢;exact VE.ntrans e f
theorem pA(l:List Val):∃m:List Val,Zf TY (l.map Val.V)=m.map Val.V/\m.Perm l/\m.Pairwise (fun a b=>¬wz b a<0):=by
 obtain⟨m,f,d⟩:=bV (WW (FK l));refine⟨m,d,f,?_⟩;have e:=JL (FK l);rw[d,F5]at e;refine e.imp_of_mem fun{a b} g h c=>?_
 rw[cd]at c;omega
noncomputable def vL (l:List Val):List Val:=(pA l).choose
theorem xT(l:List Val):Zf TY (l.map Val.V)=(vL l).map Val.V/\(vL l).Perm l/\(vL l).Pairwise (fun a b=>¬wz b a<0):=(pA l).choose_spec
theorem Eh{l:List Val}(h:NX l):vL l=l:=
 sL (r:=fun a b=>wz a b<0) (fun x c=>by rw[VE.refl]at c;omega) (fun x y d e=>by have:=VE.trans d e;rw[VE.refl]at this;omega) (xT l).2.1.symm h (xT l).2.2
theorem Ba{a b:List Val}(h:a.Perm b):kz a=kz b:=by
 induction h with
 |nil=>rfl
 |cons x _ c=>simp only[kz,c]
 |swap x y l=>simp only[kz];omega
 |trans _ _ d e=>rw[d,e]
theorem Ei{l:List Val}(q:kz l<=zD){Y:Hp}{Z:Nat}{v:O}(f:qR Y Z 112 5 v (l.map Val.V)) :
  ∃Y',Y9 5 110 TY TZ [v,.fn (.func 110) [] []] Y Z=some (.qZ [],Y',Z)/\qR Y' Z 112 5 v ((vL l).map Val.V)/\∀id,(∀n,v≠.own id 0 n)->Y' id=Y id:=by
 have a:=(xT l).1;have g:=kf l;rcases f with⟨rfl,h⟩|⟨id,hid,rfl,d⟩
 ·refine⟨Y,rfl,.inl ⟨rfl,?_⟩,fun _ _=>rfl⟩;rw[<-a,h];rfl
 ·by_cases e:l=[]
  ·subst e;have:vL []=[]:=by
    have:((vL []).map Val.V)=[]:=by rw[<-a];rfl
    simpa using this
   rw[this];exact⟨Y,rfl,.inr ⟨id,hid,rfl,d⟩,fun _ _=>rfl⟩
  ·have b:¬(l.map Val.V).length=0:=by simpa using e
   have c:((vL l).map Val.V).length=(l.map Val.V).length:=by rw[<-a,JM (FK l)]
   have i:zD=268435456:=rfl;refine⟨zI Y id (some ⟨112,5,true,(vL l).map Val.V⟩),?_,.inr ⟨id,hid,by rw[c],by simp⟩,fun j k=>zc _ _ _ _ (by rintro rfl;exact k _ rfl)⟩;show(if(l.map Val.V).length=0 then _ else _)=_;rw[zj b,d];simp only;have m:((l.map Val.V).drop 0).take (l.map Val.V).length=l.map Val.V:=by rw[w8,wq]
   have o:(l.map Val.V).drop (0+(l.map Val.V).length)=[]:=by rw[zu,zp]
   rw[m,o,zl ⟨rfl,rfl,rfl,by simp,by simp;omega,FK l,fun x p=>by obtain⟨s,hs,rfl⟩:=zZ.1 p;exact⟨s,rfl,by have:=xh hs;omega⟩⟩,a]
   simp
noncomputable def FFd (out:za×Val->za×Val->O):zb->Option O:=qt (α:=(za×Val)×(za×Val)) (fun a=>[.agg (wa a.1),.agg (wa a.2)]) (fun _=>True) (fun a=>out a.1 a.2)
theorem Ox(out:za×Val->za×Val->O)(a b:za×Val)(Y:Hp)(Z:Nat):hP (FFd out) [.agg (wa a),.agg (wa b)] Y Z=some (out a b,Y,Z):=
 aK (a,b) _ _ (by simp[zz,z7,qm,qn]) (fun x y e=>by
  obtain⟨f,g⟩:=x;obtain⟨h,i⟩:=y;simp only[zi,zF,O.agg.injEq]at e;rw[QH (a:=f) (b:=h) (by simp[wa,e]),QH (a:=g) (b:=i) (by simp[wa,e])]) trivial (.inr (by have c:=Jc a.2;have d:=Jc b.2;simp only[O.noOwn]at c d;simp only[yC,s9,O.noOwn,VA,O.jz,ziU,c,d,gj]))
noncomputable def T1 (x y:zb):Int:=match(x[0]?:Option O),(y[0]?:Option O)with
 |some (O.v (.string a)),some (O.v (.string b))=>jU a.data.toList b.data.toList
 |_,_=>0
theorem ch(a b:za×Val):T1 (wa a) (wa b)=jU a.1 b.1:=by simp[T1,wa]
noncomputable abbrev Ccg1:Ctx:=qf prog [(92,hP (Sn jU))]
theorem T2:AM.Good Ccg1 (fun g=>[92].contains g):=qI mixed ⟨vn,fun _=>zq _ _,trivial⟩
theorem T3{out:za×Val->za×Val->O}{args:zb}{r:O}(h:FFd out args=some r):∃a b,args=[.agg (wa a),.agg (wa b)]/\r=out a b:=by obtain⟨⟨a,b⟩,rfl,_,rfl⟩:=qc h;exact⟨a,b,rfl,rfl⟩
theorem Ej:zh prog 275 (hP (FFd fun a b=>int (jU a.1 b.1))):=
 kq (fn:=f275) T2 (yt func275) false [] _ fun args r h=>by obtain⟨a,b,rfl,rfl⟩:=T3 h;exact⟨zM (zk 2) (by decide),_,zs rfl (by simp[wa,f275]),qP _⟩
def T4(x:zb):Prop:=∃a:za×Val,x=wa a
theorem T5:EU prog 275 6 T1 T4:=
 ⟨fun args w=>enters_of func275 (by kernel_rfl) rfl args w,_,Ej,fun x y _ _ c d=>by obtain⟨a,rfl⟩:=c;obtain⟨b,rfl⟩:=d;rw[ch];exact Ox _ a b _ _⟩
theorem Bb:zh prog 274 (Y9 6 275 T1 T4):=
 KX (by omega) ⟨_,func274,by decide,by kernel_rfl⟩ Tryz.Rf T5
theorem FL(l:List (za×Val)):Yl T1 (l.map wa) where
 irrefl x d:=by obtain⟨s,hs,rfl⟩:=zZ.1 d;rw[ch,ZB.refl];omega
 trans x d y g z h e f:=by obtain⟨a,i,rfl⟩:=zZ.1 d;obtain⟨b,j,rfl⟩:=zZ.1 g;obtain⟨c,k,rfl⟩:=zZ.1 h;rw[ch]at e f⊢;exact ZB.trans e f
 ntrans x d y g z h e f:=by obtain⟨a,i,rfl⟩:=zZ.1 d;obtain⟨b,j,rfl⟩:=zZ.1 g;obtain⟨c,k,rfl⟩:=zZ.1 h;rw[ch]at e f⊢;exact ZB.ntrans e f
theorem pC(l:List (za×Val)):∃m:List (za×Val),Zf T1 (l.map wa)=m.map wa/\m.Perm l/\m.Pairwise (fun a b=>¬jU b.1 a.1<0):=by
 obtain⟨m,f,d⟩:=bV (WW (FL l));refine⟨m,d,f,?_⟩;have e:=JL (FL l);rw[d,F5]at e;refine e.imp_of_mem fun{a b} g h c=>?_
 rw[ch]at c;omega
noncomputable def zN (l:List (za×Val)):List (za×Val):=(pC l).choose
theorem WD(l:List (za×Val)):Zf T1 (l.map wa)=(zN l).map wa/\(zN l).Perm l/\(zN l).Pairwise (fun a b=>¬jU b.1 a.1<0):=(pC l).choose_spec
theorem mx{l:List (za×Val)}(h:EG l):zN l=l:=
 sL (r:=fun a b=>jU a.1 b.1<0) (fun x d=>by rw[ZB.refl]at d;omega) (fun x y e f=>by have:=ZB.trans e f;rw[ZB.refl]at this;omega) (WD l).2.1.symm (h.imp fun{a b} c=>(sj a.1 b.1).2 c) (WD l).2.2
theorem Oy{a b:List (za×Val)}(h:a.Perm b):ZU a=ZU b:=by
 induction h with
 |nil=>rfl
 |cons x _ c=>obtain⟨x,y⟩:=x;simp only[ZU,c]
 |swap x y l=>obtain⟨x,f⟩:=x;obtain⟨y,g⟩:=y;simp only[ZU];omega
 |trans _ _ d e=>rw[d,e]
theorem Ek{l:List (za×Val)}(p:l.length<=zD){Y:Hp}{Z:Nat}{v:O}(f:qR Y Z 149 6 v (l.map wa)) :
  ∃Y',Y9 6 275 T1 T4 [v,.fn (.func 275) [] []] Y Z=some (.qZ [],Y',Z)/\qR Y' Z 149 6 v ((zN l).map wa)/\∀id,(∀n,v≠.own id 0 n)->Y' id=Y id:=by
 have a:=(WD l).1;rcases f with⟨rfl,g⟩|⟨id,hid,rfl,d⟩
 ·refine⟨Y,rfl,.inl ⟨rfl,?_⟩,fun _ _=>rfl⟩;rw[<-a,g];rfl
 ·by_cases e:l=[]
  ·subst e;have:zN []=[]:=by
    have:((zN []).map wa)=[]:=by rw[<-a];rfl
    simpa using this
   rw[this];exact⟨Y,rfl,.inr ⟨id,hid,rfl,d⟩,fun _ _=>rfl⟩
  ·have b:¬(l.map wa).length=0:=by simpa using e
   have c:((zN l).map wa).length=(l.map wa).length:=by rw[<-a,JM (FL l)]
   have h:zD=268435456:=rfl;refine⟨zI Y id (some ⟨149,6,true,(zN l).map wa⟩),?_,.inr ⟨id,hid,by rw[c],by simp⟩,fun j i=>zc _ _ _ _ (by rintro rfl;exact i _ rfl)⟩;show(if(l.map wa).length=0 then _ else _)=_;rw[zj b,d];simp only;have k:((l.map wa).drop 0).take (l.map wa).length=l.map wa:=by rw[w8,wq]
   have m:(l.map wa).drop (0+(l.map wa).length)=[]:=by rw[zu,zp]
   rw[k,m,zl ⟨rfl,rfl,rfl,by simp,by simp;omega,FL l,fun x o=>by obtain⟨s,hs,rfl⟩:=zZ.1 o;exact⟨s,rfl⟩⟩,a]
   simp
theorem Bc{Y:Hp}{Z:Nat}{v:O}{l:List Val}(f:qR Y Z 112 5 v (l.map Val.V))(x:Val)(g:l.length<100000000000):∃Y2,jG prog (zI Y Z (some ⟨112,5,true,[x.V]⟩)) (Z+1) 51 51 v (.own Z 0 1)=some (.own (Z+1) 0 (l.length+1),Y2,Z+2)/\qR Y2 (Z+2) 112 5 (.own (Z+1) 0 (l.length+1)) ((l++[x]).map Val.V)/\∀j,j<Z->(∀n,v≠.own j 0 n)->Y2 j=Y j:=by
 have a:=f.jc (P:=prog) (t:=51) (c:=x.V) el51 zfW zfX zfY (by simp) (by omega) (by simp[maxLen];omega) (by simp;omega);have b:=qR.after (Y:=Y) (Z:=Z) (e:=112) (s:=5) (v:=v) (xs:=l.map Val.V) (c:=x.V) (tmp:=some ⟨112,5,true,[x.V]⟩);rw[wx]at a;refine⟨_,a,?_,fun j h d=>?_⟩
 ·rw[yZ];simpa using b
 ·rw[zT _ _ _ _ (by omega),qK f _ j d,zT _ _ _ _ (by omega)]
theorem _root_.Go.AM.qR.cell{Y:Hp}{Z e s:Nat}{v:O}{xs:List zb}(h:qR Y Z e s v xs):v.wY=true:=by rcases h with⟨rfl,_⟩|⟨_,_,rfl,_⟩<;>rfl
theorem my{cs:zb}{Y:Hp}{Z:Nat}{v:O}{l:List Val}(b:qR Y Z 112 5 v (l.map Val.V))(a:Y 0=some (qe TJ cs))(k:Int)(Z':Nat):AY TJ cs (.agg (Val.mk k 0 [] l []).V) (.agg [int k,int 0,str [],v,.nil]) Y Z':=by
 have c:=wX b a rfl;rcases b with⟨rfl,d⟩|⟨id,hid,rfl,f⟩
 ·have:l=[]:=by simpa using d
  subst this;exact wc rfl a Qy rfl
 ·have g:AM.freeze Y (.agg [int k,int 0,str [],.own id 0 (l.map Val.V).length,.nil])=some (.agg [int k,int 0,str [],.sl 5 (l.map Val.V),.nil],zI Y id none):=by simp[AM.freeze,z7,qm,qn,f];exact qy (by simp)
  refine wc g ?_ Qy ?_
  ·rw[zc _ _ _ _ (fun e=>c _ (by rw[<-e]))];exact a
  ·simp[HX,l9,Rx,wW,Val.kind,Val.n,Val.s,Val.items,Val.fields]
theorem Be{cs:zb}{Y:Hp}{Z:Nat}{v:O}{l:List (za×Val)}(b:qR Y Z 149 6 v (l.map wa))(a:Y 0=some (qe TJ cs))(k:Int)(Z':Nat):AY TJ cs (.agg (Val.mk k 0 [] [] l).V) (.agg [int k,int 0,str [],.nil,v]) Y Z':=by
 have c:=wX b a rfl;rcases b with⟨rfl,d⟩|⟨id,hid,rfl,f⟩
 ·have:l=[]:=by simpa using d
  subst this;exact wc rfl a Qy rfl
 ·have g:AM.freeze Y (.agg [int k,int 0,str [],.nil,.own id 0 (l.map wa).length])=some (.agg [int k,int 0,str [],.nil,.sl 6 (l.map wa)],zI Y id none):=by simp[AM.freeze,z7,qm,qn,f];exact qy (by simp)
  refine wc g ?_ Qy ?_
  ·rw[zc _ _ _ _ (fun e=>c _ (by rw[<-e]))];exact a
  ·simp[HX,l9,Rx,wW,Val.kind,Val.n,Val.s,Val.items,Val.fields]
noncomputable abbrev Vw (s:za) (k:Nat) (st:Jst):Val×Jst:=Jl zN s k st
noncomputable def fy (k:Nat):AM.Spec:=mJ aU (fun s st _=>s.length-st.p<k) (fun s st _=>(Vw s k st).2) (fun s st _=>.agg (Vw s k st).1.V)
theorem dN{k:Nat}{s:za}{st:Jst}{Y:Hp}{id Z:Nat}(a:Y id=some (wo s st))(hs:s.length<=1048576)(Y':st.p<=s.length)(b:s.length-st.p<k):fy k [.ref id 0 0] Y Z=some (.agg (Vw s k st).1.V,zI Y id (some (wo s (Vw s k st).2)),Z):=Zx v8 (fun _=>rfl) () a hs Y' b
noncomputable def lisS (k:Nat):AM.Spec:=mJ aU (fun s st _=>jD s st=91/\s.length-st.p<=k) (fun s st _=>(Zo s (Vw s k) st).2) (fun s st _=>.agg (Val.mk 4 0 [] (Zo s (Vw s k) st).1 []).V)
theorem Ic{k:Nat}{s:za}{st:Jst}{Y:Hp}{id Z:Nat}(a:Y id=some (wo s st))(hs:s.length<=1048576)(Y':st.p<=s.length)(b:jD s st=91)(c:s.length-st.p<=k):lisS k [.ref id 0 0] Y Z=some (.agg (Val.mk 4 0 [] (Zo s (Vw s k) st).1 []).V,zI Y id (some (wo s (Zo s (Vw s k) st).2)),Z):=Zx v8 (fun _=>rfl) () a hs Y' ⟨b,c⟩
noncomputable def objS (k:Nat):AM.Spec:=mJ aU (fun s st _=>jD s st=123/\s.length-st.p<=k) (fun s st _=>(Yd s (Vw s k) st).2) (fun s st _=>.agg (Val.mk 5 0 [] [] (zN (Yd s (Vw s k) st).1)).V)
theorem Ie{k:Nat}{s:za}{st:Jst}{Y:Hp}{id Z:Nat}(a:Y id=some (wo s st))(hs:s.length<=1048576)(Y':st.p<=s.length)(b:jD s st=123)(c:s.length-st.p<=k):objS k [.ref id 0 0] Y Z=some (.agg (Val.mk 5 0 [] [] (zN (Yd s (Vw s k) st).1)).V,zI Y id (some (wo s (Yd s (Vw s k) st).2)),Z):=Zx v8 (fun _=>rfl) () a hs Y' ⟨b,c⟩
def Bf(s:za)(f:Jst->Val×Jst):Prop:=∀st,st.p<=s.length->st.p<=(f st).2.p/\(f st).2.p<=s.length/\(f st).1.vb<=(f st).2.p-st.p+1
theorem cj(l:List Val)(x:Val):kz (l++[x])=kz l+x.vb:=by
 induction l with
 |nil=>simp[kz]
 |cons y l a=>simp only[qC,kz,a];omega
theorem Bg(l:List (za×Val))(x:za×Val):ZU (l++[x])=ZU l+(x.1.length+x.2.vb):=by
 induction l with
 |nil=>simp[ZU]
 |cons y l a=>obtain⟨b,c⟩:=y;simp only[qC,ZU,a];omega
theorem Oz{s:za}{f:Jst->Val×Jst}(a:Bf s f):∀(k:Nat) (l:List Val) (st:Jst),st.p<=s.length->st.p<=(Cg s f k l st).2.p/\(Cg s f k l st).2.p<=s.length/\kz (Cg s f k l st).1<=kz l+((Cg s f k l st).2.p-st.p)+1
 | 0,l,st,h=>by simp only[Cg];exact⟨zk _,h,by omega⟩
 |k+1,l,st,h=>by
  rw[Cg];split
  ·exact⟨zk _,h,by simp only;omega⟩
  ·obtain⟨j,d,m⟩:=a st h;obtain⟨n,e,_⟩:=xF (s:=s) (st:=(f st).2) d;simp only;split
   ·rename_i g;have o:=Ye g.2 (by decide);obtain⟨i,b,_⟩:=xF (s:=s) (st:=(Qd s (f st).2).wA) (by simp only[Jst.wA];omega);have c:=Oz a k (l++[(f st).1]) _ b;rw[cj]at c;simp only[Jst.wA]at i b c⊢;omega
   ·have:=Kf (s:=s) 93 e;rw[cj];simp only;omega
theorem OA{s:za}{f:Jst->Val×Jst}(b:Bf s f){st:Jst}(h:st.p<s.length):st.p+1<=(Zo s f st).2.p/\(Zo s f st).2.p<=s.length/\kz (Zo s f st).1<=(Zo s f st).2.p-st.p:=by
 obtain⟨c,a,_⟩:=xF (s:=s) (st:=st.wA) (by simp only[Jst.wA];omega);simp only[Jst.wA]at c a;unfold Zo;simp only;split
 ·rename_i d;have e:=Ye d (by decide);simp only[Jst.wA]at e⊢;simp only[kz];omega
 ·have:=Oz b (s.length+1) [] (Qd s st.wA) a;simp only[Jst.wA,kz]at this⊢;omega
theorem T6{s:za}{st:Jst}(h:st.p<s.length)(c:jD s st=45\/jP (jD s st)=true):st.p<=(Xg s st).2.p/\(Xg s st).2.p<=s.length:=by
 have a:st.p<=(if jD s st=45 then st.wA else st).p/\(if jD s st=45 then st.wA else st).p<=s.length:=by
  split
  ·simp only[Jst.wA];omega
  ·omega
 have b:=Fz (s:=s) a.2;have d:=A2 (s:=s) ((Vf s (if jD s st=45 then st.wA else st)).1*1000) b.2.1;simp only[Xg];omega
theorem sM{s:za}:∀(w:za) (st:Jst),st.p<=s.length->st.p<=(Cf s w st).p/\(Cf s w st).p<=s.length
 |[],st,h=>⟨zk _,h⟩
 |c::w,st,h=>by
  have a:=Kf (s:=s) c h;rw[Cf];split
  ·have:=sM w (QK s st c).2 a.2;omega
  ·exact a
theorem Bh{s:za}{st:Jst}(seen:List za)(h:st.p<=s.length):st.p<=(b5 s seen st).p/\(b5 s seen st).p<=s.length/\(j7 s st).1.length<=(b5 s seen st).p-st.p:=by
 have c:=cc (s:=s) h;have d:(Q3 s seen st).p=(j7 s st).2.p:=by
  unfold Q3;split
  ·rw[Zc]
  ·rfl
 obtain⟨e,a,_⟩:=xF (s:=s) (st:=Q3 s seen st) (by omega);have b:=Kf (s:=s) 58 a;obtain⟨f,g,_⟩:=xF (s:=s) (st:=(QK s (Qd s (Q3 s seen st)) 58).2) b.2;unfold b5;omega
theorem OB{s:za}{f:Jst->Val×Jst}(c:Bf s f):∀(k:Nat) (seen:List za) (l:List (za×Val)) (st:Jst),st.p<=s.length->st.p<=(Ch s f k seen l st).2.p/\(Ch s f k seen l st).2.p<=s.length/\ZU (Ch s f k seen l st).1<=ZU l+((Ch s f k seen l st).2.p-st.p)+1
 | 0,seen,l,st,h=>by simp only[Ch];exact⟨zk _,h,by omega⟩
 |k+1,seen,l,st,h=>by
  have a:=Bh (s:=s) seen h;rw[Ch];split
  ·exact⟨zk _,h,by simp only;omega⟩
  ·simp only;split
   ·exact⟨a.1,a.2.1,by simp only;omega⟩
   ·obtain⟨m,g,n⟩:=c _ a.2.1;obtain⟨o,i,_⟩:=xF (s:=s) (st:=(f (b5 s seen st)).2) g;split
    ·rename_i b;have q:=Ye b.2 (by decide);obtain⟨j,d,_⟩:=xF (s:=s) (st:=(Qd s (f (b5 s seen st)).2).wA) (by simp only[Jst.wA];omega);have e:=OB c k (seen++[(j7 s st).1]) (l++[((j7 s st).1,(f (b5 s seen st)).1)]) _ d;rw[Bg]at e;simp only[Jst.wA]at j d e⊢;omega
    ·have:=Kf (s:=s) 125 i;rw[Bg];simp only;omega
theorem T7{s:za}{f:Jst->Val×Jst}(b:Bf s f){st:Jst}(h:st.p<s.length):st.p+1<=(Yd s f st).2.p/\(Yd s f st).2.p<=s.length/\ZU (Yd s f st).1<=(Yd s f st).2.p-st.p:=by
 obtain⟨c,a,_⟩:=xF (s:=s) (st:=st.wA) (by simp only[Jst.wA];omega);simp only[Jst.wA]at c a;unfold Yd;simp only;split
 ·rename_i d;have e:=Ye d (by decide);simp only[Jst.wA]at e⊢;simp only[ZU];omega
 ·have:=OB b (s.length+1) [] [] (Qd s st.wA) a;simp only[Jst.wA,ZU]at this⊢;omega
theorem gb(s:za):∀k,Bf s (Vw s k)
 | 0=>fun st h=>by simp only[Vw,Jl];exact⟨zk _,h,by rw[ZN];simp[zV,Val.s,Val.items,Val.fields,kz,ZU]⟩
 |k+1=>fun st h=>by
  have g:=gb s k;have d:zV.vb=1:=by rw[ZN];simp[zV,Val.s,Val.items,Val.fields,kz,ZU]
  have c:∀a b:Int,(Val.mk a b [] [] []).vb=1:=fun a b=>by rw[ZN];simp[Val.s,Val.items,Val.fields,kz,ZU]
  unfold Vw;rw[Jl];split
  ·simp only[Zc,d];omega
  rename_i i;have e:st.p<s.length:=by omega
  split
  ·have:=sM (s:=s) [110,117,108,108] st h;simp only[d];omega
  split
  ·have:=sM (s:=s) [116,114,117,101] st h;simp only[c];omega
  split
  ·have:=sM (s:=s) [102,97,108,115,101] st h;simp only[c];omega
  split
  ·have:=cc (s:=s) h;rw[ZN];simp only[Val.s,Val.items,Val.fields,kz,ZU];omega
  split
  ·have:=OA (f:=Jl zN s k) g e;rw[ZN];simp only[Val.s,Val.items,Val.fields,ZU,zf];omega
  split
  ·have:=T7 (f:=Jl zN s k) g e;have l:=Oy (WD (Yd s (Jl zN s k) st).1).2.1;rw[ZN];simp only[Val.s,Val.items,Val.fields,kz,zf];omega
  split
  ·rename_i j;have:=T6 e j;simp only[Xg,DT]at this⊢;rw[c];omega
  ·simp only[Zc,d];omega
noncomputable abbrev Clj (k:Nat):Ctx:=qf prog [(273,blS),(253,Vn),(271,Oe),(241,fy k)]
theorem zc9{k:Nat}(h:zh prog 241 (fy k)):AM.Good (Clj k) (fun g=>[253].contains g):=qI mixed ⟨pn,by simp,xE,fun _=>xC _ _,V6,by simp,h,by simp,trivial⟩
def LiI(s:za)(k:Nat)(b:Jst)(n:Nat)(st:St):Prop:=st.σ 0=.ref 0 0 0/\st.σ 2=.ref 1 0 0/\st.σ 3=.ref 2 0 0/\2<st.Z/\st.Y 1=some Wi/\∃v l a j,qR st.Y st.Z 112 5 v (l.map Val.V)/\st.Y 2=some ⟨112,5,false,[[int 4,int 0,str [],v,.nil]]⟩/\st.Y 0=some (wo s a)/\b.p+1<=a.p/\a.p<=s.length/\l.length<=a.p/\s.length-a.p+1=n/\n<=j/\Cg s (Vw s k) j l a=Zo s (Vw s k) b
abbrev ZS(k:Int)(v w:O):Blk:=⟨112,5,false,[[int k,int 0,str [],v,w]]⟩
def LiQ(s:za)(a:Nat->O)(b:Jst)(c:Hp)(Z m:Nat)(Y2:Hp)(st:St):Prop:=st.σ 0=.ref 0 0 0/\st.σ 2=.ref 1 0 0/\st.σ 3=.ref 2 0 0/\st.Z=Z+2/\st.Y=zI Y2 2 (some (ZS 4 (.own (Z+1) 0 m) .nil))
theorem El{k:Nat}(h:zh prog 241 (fy k)):zh prog 257 (lisS k):=
 j9 (C:=Clj k) func257 (by kernel_rfl) rfl TJ _ fun cs az cs' r hF=>by
  obtain⟨s,st,⟨⟩,rfl,rfl,hs,Y,⟨h91,hkk⟩,rfl,rfl⟩:=Qf hF;refine⟨by simp[aU,f257],?_⟩;clear hF;have u:=zc9 h;have hl0:=Ye h91 (by decide);have hw0:=wN ((st.p:Int)+1);obtain⟨b,f⟩:=yb (Qd s st.wA);have M:st.wA.p<=s.length:=by simp only[Jst.wA];omega
  have z:=xF (s:=s) M;rw[f]at z;simp only[Jst.wA]at z;refine Wp.cut u (fun σ Y Z=>σ 0=.ref 0 0 0/\σ 2=.ref 1 0 0/\Y 0=some (wo s st)/\Y 1=some Wi/\Z=2) (by simp[aU,wF,qe,zO,Wi,zc]) ?_;rintro σ Y1 _ ⟨d,i,m,I,rfl⟩;refine Wp.cut u (fun σ' Y Z=>σ' 0=.ref 0 0 0/\σ' 2=.ref 1 0 0/\σ' 3=.ref 2 0 0/\Y 0=some (wo s st)/\Y 1=some Wi/\Y 2=some (ZS 4 .nil .nil)/\Z=3) (by simp[d,i,m,I,zc,qi,qJ]) ?_;clear d i m I σ Y1;rintro σ Y1 _ ⟨d,i,y,m,I,A,rfl⟩;refine Wp.cut u (fun σ' Y Z=>σ' 0=.ref 0 0 0/\σ' 2=.ref 1 0 0/\σ' 3=.ref 2 0 0/\Y 0=some (wo s st.wA)/\Y 1=some Wi/\Y 2=some (ZS 4 .nil .nil)/\Z=3) ?_ ?_
  ·simp only[qe,zO,ze,zf,zu,Nat.reduceAdd]at m⊢;simp[d,i,y,m,I,A,hw0,Jst.wA,zc]
  clear d i y m I A σ Y1;rintro σ Y1 _ ⟨d,i,y,m,I,A,rfl⟩;have g1:=Q4 (id:=0) (Z:=3) m hs M;rw[f]at g1;have tx:zI Y1 0 (some (wo s b)) 0=some (wo s b):=by simp
  have g2:=Zy (Z:=3) tx hs z.2.1;by_cases B:jD s b=93
  ·have hl1:=Ye B (by decide);have hw1:=wN ((b.p:Int)+1);have hr:Zo s (Vw s k) st=([],b.wA):=by simp only[Zo,f,zl B]
   rw[B]at g2;rw[hr];simp only[qe,zO,ze,zf,zu,Nat.reduceAdd]at g1 g2 m;refine Wp.seq (Wp.of u ?_);simp only[Wi]at I;simp[d,i,y,g1,g2,I,A,hw1,zc,f257];exact wc rfl (by simp[zc,qe,zO,Jst.wA]) Qy rfl
  have hne:(((jD s b).toNat:Int)==93)=false:=nf 93 B;have hr:Cg s (Vw s k) (s.length+1) [] b=Zo s (Vw s k) st:=by simp only[Zo,f,zj B]
  refine Wp.cut u (fun σ' Y Z=>LiI s k st (s.length-b.p+1) ⟨σ',Y,Z⟩) ?_ ?_
  ·simp[d,g1,g2,hne];exact⟨by simp[d],by simp[i],by simp[y],by simp,by simp[zc,I],.nil,[],b,s.length+1,.inl ⟨rfl,rfl⟩,by simp[zc,A],by simp,z.1,z.2.1,by simp,rfl,by omega,hr⟩
  clear d i y m tx I A g1 g2 σ Y1;rintro σ Y1 Z hI;refine Wp.seq (Wp.block (Wp.loop (LiI s k st) _ hI ?_));clear hI B hne hr z f σ Y1 Z b;rintro n ⟨σ,Y1,Z⟩ ⟨d,i,y,hnx,F,v,l,b,j,N,A,m,hge,hpl,hll,hn,hnj,E⟩;simp only at d i y hnx F N A m;have S:=wX N m rfl;have o:=wX N F rfl;have P:=wX N A rfl;obtain⟨j,rfl⟩:∃j',j=j'+1:=⟨j-1,by omega⟩;rw[Cg]at E;have J:=m;simp only[qe,zO,ze,zf,zu,Nat.reduceAdd]at J;by_cases he:b.e=0
  case neg=>rw[zl he]at E;refine Wp.seq (Wp.of u ?_);simp[d,J,he,ZR he];refine Wp.of u ?_;rw[<-E];have c:=F;simp only[Wi]at c;simp[i,y,A,c,N.cell,f257];exact my (N.put o (some (ZS 4 v .nil))) (by rw[zc _ _ _ _ (by decide)];exact m) 4 _
  rw[zj (by simpa using he)]at E;obtain⟨x,q,hx⟩:∃x q,Vw s k b=(x,q):=⟨_,_,rfl⟩;have L:=gb s k b hpl;rw[hx]at E L;simp only at E L;have g:=dN (k:=k) (id:=0) (Z:=Z) m hs hpl (by omega);rw[hx]at g;simp only at g;obtain⟨Y2,a1,O2,f2⟩:=Bc (N.put S (some (wo s q))) x (by omega);have b0:Y2 0=some (wo s q):=by rw[f2 0 (by omega) S];simp
  have b1:Y2 1=some Wi:=by rw[f2 1 (by omega) o,zc _ _ _ _ (by decide)];exact F
  have b2:Y2 2=some (ZS 4 v .nil):=by rw[f2 2 (by omega) P,zc _ _ _ _ (by decide)];exact A
  refine Wp.cut u (fun σ' Y' Z'=>σ' 0=.ref 0 0 0/\σ' 2=.ref 1 0 0/\σ' 3=.ref 2 0 0/\Y'=Y1/\Z'=Z) (by simp[d,i,y,J,he]) ?_;clear d i y σ;rintro σ Y1 Z ⟨d,i,y,rfl,rfl⟩;refine Wp.block ?_;refine Wp.seq (Wp.mono (K:=fun e st=>e=.normal/\LiQ s σ q Y1 Z (l.length+1) Y2 st) ?_ ?_)
  ·refine Wp.dS mixed ?_;rw[show Z4 _ _ _=[[0,1,2,3,4,5,6,7],[0,2,1,3,4,5,6,7],[0,2,3,1,4,5,6,7],[0,2,3,4,1,5,6,7],[2,0,1,3,4,5,6,7],[2,0,3,1,4,5,6,7],[2,0,3,4,1,5,6,7],[2,3,0,1,4,5,6,7],[2,3,0,4,1,5,6,7],[2,3,4,0,1,5,6,7]]from by kernel_rfl];intro lst hl;simp only[zx,wu,or_false]at hl;have n2:(2:Nat)≠Z:=by omega
   have n0:¬(0:Nat)=Z:=by omega
   rcases hl with rfl|rfl|rfl|rfl|rfl|rfl|rfl|rfl|rfl|rfl
   all_goals
    refine kJ.ord u _ (by kernel_rfl) (by decide) ?_;simp[d,i,y,A,g,a1,b2,n2,n0,zc,zy,zR,zw,LiQ]
  rintro e ⟨σ1,hp3,nx3⟩ ⟨rfl,e0,e2,e3,hn3,D⟩;simp only at e0 e2 e3 hn3 D;simp only[w5];have d0:hp3 0=some (wo s q):=by rw[D,zc _ _ _ _ (by decide)];exact b0
  have d1:hp3 1=some Wi:=by rw[D,zc _ _ _ _ (by decide)];exact b1
  have d2:hp3 2=some (ZS 4 (.own (Z+1) 0 (l.length+1)) .nil):=by rw[D];simp
  have T:qR hp3 nx3 112 5 (.own (Z+1) 0 (l.length+1)) ((l++[x]).map Val.V):=by rw[D,hn3];exact O2.put (fun n e=>by injection e with e;omega) _
  have hnx3:2<nx3:=by omega
  clear d i y N A m J F S o P g a1 O2 f2 b0 b1 b2 D σ Y1 Y2 v;obtain⟨w,hw⟩:=yb (O.own (Z+1) 0 (l.length+1));rw[hw]at d2 T;clear hw;obtain⟨bl1,U,bl3,_⟩:=xF (s:=s) (st:=q) L.2.1;obtain⟨a,hst2⟩:=yb (Qd s q);have W:=Q4 (id:=0) (Z:=nx3) d0 hs L.2.1;rw[hst2]at W E bl1 U bl3;have d0':zI hp3 0 (some (wo s a)) 0=some (wo s a):=by simp
  have X:=Zy (Z:=nx3) d0' hs U;have Q:=wX T d0 rfl;have o:=wX T d1 rfl;have hvv:=d2;have c:=d1;simp only[Wi]at c;have g5:Oe [.ref 0 0 0,.v (.int .u8 93)] (zI hp3 0 (some (wo s a))) nx3=some (q6 (QK s a 93).1,zI (zI hp3 0 (some (wo s a))) 0 (some (wo s (QK s a 93).2)),nx3):=Vo 93 d0' hs U;rw[yx]at g5;by_cases hcm:a.e=0/\jD s a=44
  ·obtain⟨t,G⟩:=hcm;rw[zl ⟨t,G⟩]at E;have hl2:=Ye G (by decide);have hw2:=wN ((a.p:Int)+1);rw[G]at X;have H:a.wA.p<=s.length:=by simp only[Jst.wA];omega
   have d0'':zI hp3 0 (some (wo s a.wA)) 0=some (wo s a.wA):=by simp
   have g6:=Q4 (id:=0) (Z:=nx3) d0'' hs H;rw[yx]at g6;obtain⟨k1,k2,_⟩:=xF (s:=s) (st:=a.wA) H;obtain⟨st3,hst3⟩:=yb (Qd s a.wA);rw[hst3]at g6 E k1 k2;simp only[Jst.wA]at k1;simp only[qe,zO,Jst.wA,ze,zf,zu,Nat.reduceAdd,jo,qO,t]at W X g6;refine Wp.of u ?_;simp[e0,W,X,g6,hw2];have O4:=T.put Q (some (wo s st3));simp only[qe,zO,ze,zf,zu,Nat.reduceAdd]at O4;exact⟨s.length-st3.p+1,by omega,by simp[e0],by simp[e2],by simp[e3],hnx3,by simp[zc,d1],w,l++[x],st3,j,by simpa using O4,by simp[zc,d2],by simp[qe,zO],by omega,k2,by simp;omega,rfl,by omega,E⟩
  rw[zj hcm]at E;rw[<-E];have R:∀Y Z,Y=zI hp3 0 (some (wo s (QK s a 93).2))->AY TJ (zO s (QK s a 93).2) (.agg (Val.mk 4 0 [] (l++[x]) []).V) (.agg [int 4,int 0,str [],w,.nil]) (zI Y 1 (some (ZS 4 w .nil))) Z:=fun Y Z e=>by subst e;have O4:=(T.put Q (some (wo s (QK s a 93).2))).put o (some (ZS 4 w .nil));exact my O4 (by rw[zc _ _ _ _ (by decide)];simp) 4 Z
  by_cases t:a.e=0
  ·have G:¬jD s a=44:=fun h=>hcm ⟨t,h⟩
   have hne4:(((jD s a).toNat:Int)==44)=false:=nf 44 G;simp only[qe,zO,Jst.wA,ze,zf,zu,Nat.reduceAdd,jo,qO,t]at W X g5;refine Wp.of u ?_;simp[e0,W,X,g5,hne4];refine Wp.of u ?_;simp[e2,e3,d2,c,T.cell,zc,f257];exact R _ _ rfl
  ·simp only[qe,zO,Jst.wA,ze,zf,zu,Nat.reduceAdd,jo,qO]at W X g5;refine Wp.of u ?_;simp[e0,W,X,g5,t,ZR t];refine Wp.of u ?_;simp[e2,e3,d2,c,T.cell,zc,f257];exact R _ _ rfl
theorem OC{Y:Hp}{Z:Nat}{v:O}{l:List (za×Val)}(f:qR Y Z 149 6 v (l.map wa))(x:za×Val)(g:l.length<100000000000):∃Y2,jG prog (zI Y Z (some ⟨149,6,true,[wa x]⟩)) (Z+1) 110 110 v (.own Z 0 1)=some (.own (Z+1) 0 (l.length+1),Y2,Z+2)/\qR Y2 (Z+2) 149 6 (.own (Z+1) 0 (l.length+1)) ((l++[x]).map wa)/\∀j,j<Z->(∀n,v≠.own j 0 n)->Y2 j=Y j:=by
 have a:=f.jc (P:=prog) (t:=110) (c:=wa x) zfV zf0 zf1 zf2 (by simp[wa]) (by omega) (by simp[maxLen];omega) (by simp;omega);have b:=qR.after (Y:=Y) (Z:=Z) (e:=149) (s:=6) (v:=v) (xs:=l.map wa) (c:=wa x) (tmp:=some ⟨149,6,true,[wa x]⟩);rw[wx]at a;refine⟨_,a,?_,fun j h d=>?_⟩
 ·rw[yZ];simpa using b
 ·rw[zT _ _ _ _ (by omega),qK f _ j d,zT _ _ _ _ (by omega)]
theorem Ig{Y:Hp}{id:Nat}{l:List za}(s:za)(h:Y id=some (xn l))(hs:s∈l):∃b,km prog Y 76 (.mp id) (str s) (q6 true)=some (zI Y id (some b)):=by obtain⟨_,a⟩:=V3 s l 0;obtain⟨j,c⟩:=a hs;exact⟨_,by simp[km,h,xn,WS,c];rfl⟩
theorem zgB{s:za}{st:Jst}{c:UInt8}(h:st.e≠0):(QK s st c).2.e≠0:=by
 have:QK s st c=(false,st):=by unfold QK;rw[zj (fun a=>h a.1),Jst.fail,zj h]
 rw[this];exact h
theorem zda{s:za}{seen:List za}{st:Jst}(h:st.p<=s.length)(b:(b5 s seen st).e=0):(j7 s st).1 ∉ seen:=by
 intro d;have Y:=cc (s:=s) h;have f:(Q3 s seen st).e≠0:=by
  unfold Q3;rw[zl (by simpa using d)];unfold Jst.fail;split
  ·simp
  ·assumption
 have a:(Q3 s seen st).p<=s.length:=by
  unfold Q3;split
  ·rw[Zc];exact Y.2.1
  ·exact Y.2.1
 obtain⟨_,g,i,_⟩:=xF (s:=s) (st:=Q3 s seen st) a;have j:=zgB (s:=s) (st:=Qd s (Q3 s seen st)) (c:=58) (by rw[i];exact f);have k:=Kf (s:=s) 58 g;obtain⟨_,_,l,_⟩:=xF (s:=s) (st:=(QK s (Qd s (Q3 s seen st)) 58).2) k.2;exact j (by rw[<-l];exact b)
noncomputable abbrev Coj (k:Nat):Ctx:=qf prog [(254,Vm),(273,blS),(253,Vn),(271,Oe),(256,TX),(241,fy k),(274,Y9 6 275 T1 T4)]
theorem zdb{k:Nat}(h:zh prog 241 (fy k)):AM.Good (Coj k) (fun g=>[253].contains g):=qI mixed ⟨xD,by simp,pn,by simp,xE,fun _=>xC _ _,V6,by simp,eN,by simp,h,by simp,Bb,by simp,trivial⟩
def ObI(s:za)(k:Nat)(b:Jst)(n:Nat)(st:St):Prop:=st.σ 0=.ref 0 0 0/\st.σ 2=.ref 1 0 0/\st.σ 3=.ref 2 0 0/\st.σ 4=.mp 3/\3<st.Z/\st.Y 1=some Wi/\∃v l seen a j,qR st.Y st.Z 149 6 v (l.map wa)/\st.Y 2=some (ZS 5 .nil v)/\st.Y 0=some (wo s a)/\st.Y 3=some (xn seen)/\b.p+1<=a.p/\a.p<=s.length/\l.length<=a.p/\s.length-a.p+1=n/\n<=j/\Ch s (Vw s k) j seen l a=Yd s (Vw s k) b
def ObE(s:za)(k:Nat)(b:Jst)(st:St):Prop:=st.σ 2=.ref 1 0 0/\st.σ 3=.ref 2 0 0/\2<st.Z/\st.Y 1=some Wi/\∃v l a,qR st.Y st.Z 149 6 v (l.map wa)/\st.Y 2=some (ZS 5 .nil v)/\st.Y 0=some (wo s a)/\l.length<=1048577/\Yd s (Vw s k) b=(l,a)
def ObQ(Z m:Nat)(Y2:Hp)(st:St):Prop:=st.σ 0=.ref 0 0 0/\st.σ 2=.ref 1 0 0/\st.σ 3=.ref 2 0 0/\st.σ 4=.mp 3/\st.Z=Z+2/\st.Y=zI Y2 2 (some (ZS 5 .nil (.own (Z+1) 0 m)))
def mz(σ:Nat->O):Prop:=σ 0=.ref 0 0 0/\σ 2=.ref 1 0 0/\σ 3=.ref 2 0 0/\σ 4=.mp 3
set_option maxHeartbeats 8000000 in
theorem Em{k:Nat}(h:zh prog 241 (fy k)):zh prog 258 (objS k):=
 j9 (C:=Coj k) func258 (by kernel_rfl) rfl TJ _ fun cs az cs' r hF=>by
  obtain⟨s,st,⟨⟩,rfl,rfl,hs,Y,⟨h91,hkk⟩,rfl,rfl⟩:=Qf hF;refine⟨by simp[aU,f258],?_⟩;clear hF;have y:=zdb h;have hl0:=Ye h91 (by decide);have hw0:=wN ((st.p:Int)+1);obtain⟨i,G⟩:=yb (Qd s st.wA);have hadv:st.wA.p<=s.length:=by simp only[Jst.wA];omega
  have R:=xF (s:=s) hadv;rw[G]at R;simp only[Jst.wA]at R;refine Wp.cut y (fun σ Y Z=>σ 0=.ref 0 0 0/\σ 2=.ref 1 0 0/\Y 0=some (wo s st)/\Y 1=some Wi/\Z=2) (by simp[aU,wF,qe,zO,Wi,zc]) ?_;rintro σ Y1 _ ⟨c,d,t,S,rfl⟩;refine Wp.cut y (fun σ' Y Z=>σ' 0=.ref 0 0 0/\σ' 2=.ref 1 0 0/\σ' 3=.ref 2 0 0/\Y 0=some (wo s st)/\Y 1=some Wi/\Y 2=some (ZS 5 .nil .nil)/\Z=3) (by simp[c,d,t,S,zc,qi,qJ]) ?_;clear c d t S σ Y1;rintro σ Y1 _ ⟨c,d,f,t,S,A,rfl⟩;refine Wp.cut y (fun σ' Y Z=>mz σ'/\Y 0=some (wo s st)/\Y 1=some Wi/\Y 2=some (ZS 5 .nil .nil)/\Y 3=some (xn [])/\Z=4) (by simp[mz,c,d,f,t,S,A,zc,xn,nI]) ?_;clear c d f t S A σ Y1;rintro σ Y1 _ ⟨⟨c,d,f,o⟩,t,S,A,L,rfl⟩;refine Wp.cut y (fun σ' Y Z=>mz σ'/\Y 0=some (wo s st.wA)/\Y 1=some Wi/\Y 2=some (ZS 5 .nil .nil)/\Y 3=some (xn [])/\Z=4) ?_ ?_
  ·simp only[qe,zO,ze,zf,zu,Nat.reduceAdd]at t⊢;simp[mz,c,d,f,o,t,S,A,L,hw0,Jst.wA,zc]
  clear c d f o t S A L σ Y1;rintro σ Y1 _ ⟨⟨c,d,f,o⟩,t,S,A,L,rfl⟩;have g1:=Q4 (id:=0) (Z:=4) t hs hadv;rw[G]at g1;have tx:zI Y1 0 (some (wo s i)) 0=some (wo s i):=by simp
  have g2:=Zy (Z:=4) tx hs R.2.1;by_cases T:jD s i=125
  ·have hl1:=Ye T (by decide);have hw1:=wN ((i.p:Int)+1);have hr:Yd s (Vw s k) st=([],i.wA):=by simp only[Yd,G,zl T]
   rw[T]at g2;rw[hr];have hsn:zN []=[]:=mx (by simp[EG]);simp only[hsn];simp only[qe,zO,ze,zf,zu,Nat.reduceAdd]at g1 g2 t;refine Wp.seq (Wp.of y ?_);simp only[Wi]at S;simp[c,d,f,g1,g2,S,A,hw1,zc,f258];exact wc rfl (by simp[zc,qe,zO,Jst.wA]) Qy rfl
  have hne:(((jD s i).toNat:Int)==125)=false:=nf 125 T;have hr:Ch s (Vw s k) (s.length+1) [] [] i=Yd s (Vw s k) st:=by simp only[Yd,G,zj T]
  refine Wp.cut y (fun σ' Y Z=>ObI s k st (s.length-i.p+1) ⟨σ',Y,Z⟩) ?_ ?_
  ·simp[c,g1,g2,hne];exact⟨by simp[c],by simp[d],by simp[f],by simp[o],by simp,by simp[zc,S],.nil,[],[],i,s.length+1,.inl ⟨rfl,rfl⟩,by simp[zc,A],by simp,by simp[zc,L],R.1,R.2.1,by simp,rfl,by omega,hr⟩
  clear c d f o t tx S A L g1 g2 σ Y1;rintro σ Y1 Z hI;refine Wp.seq (Wp.mono (K:=fun e st'=>e=.normal/\ObE s k st st') (Wp.block (Wp.loop (ObI s k st) _ hI ?_)) ?_)
  ·clear hI T hne hr R G σ Y1 Z i;rintro n ⟨σ,Y1,Z⟩ ⟨c,d,f,o,hnx,E,v,l,seen,i,j,u,A,t,L,hge,hpl,hll,hn,hnj,F⟩;simp only at c d f o hnx E u A t L;have H:=wX u t rfl;have B:=wX u E rfl;have D:=wX u A rfl;have I:=wX u L rfl;obtain⟨j,rfl⟩:∃j',j=j'+1:=⟨j-1,by omega⟩;rw[Ch]at F;have hb':=t;simp only[qe,zO,ze,zf,zu,Nat.reduceAdd]at hb';by_cases he:i.e=0
   case neg=>rw[zl he]at F;refine Wp.seq (Wp.of y ?_);simp[c,hb',he,ZR he];exact⟨by simp[d],by simp[f],by simp only;omega,E,v,l,i,u,A,t,by omega,F.symm⟩
   rw[zj (by simpa using he)]at F;have hcl:=Bh (s:=s) seen hpl;have htl:=cc (s:=s) hpl;have hce:=fun c=>zda (s:=s) (seen:=seen) hpl c
   obtain⟨a,ha⟩:=yb ((j7 s i).1);obtain⟨U,hT⟩:=yb ((j7 s i).2);obtain⟨q,hN⟩:=yb (Q3 s seen i);obtain⟨M,h4J⟩:=yb (b5 s seen i);have W:q=if a∈seen then U.fail s.length i.p 7 else U:=by
    rw[<-hN,Q3,ha,hT];by_cases L:a∈seen
    ·rw[zl (by simpa using L),zl L]
    ·rw[zj (by simpa using L),zj L]
   have hcol:Qd s (QK s (Qd s q) 58).2=M:=by rw[<-hN,<-h4J];rfl
   rw[ha]at F hcl hce htl;rw[hT]at htl;rw[h4J]at F hcl hce;have hNp:q.p<=s.length:=by rw[W];split<;>(try rw[Zc])<;>omega
   refine Wp.cut y (fun σ' Y' Z'=>mz σ'/\Y'=Y1/\Z'=Z) (by simp[mz,c,d,f,o,hb',he]) ?_;clear c d f o σ;rintro σ Y1 Z ⟨⟨c,d,f,o⟩,rfl,rfl⟩;refine Wp.block ?_;refine Wp.cut y (fun σ' Y' Z'=>mz σ'/\σ' 5=int i.p/\Y'=Y1/\Z'=Z) (by simp[mz,c,d,f,o,hb']) ?_;clear c d f o σ;rintro σ Y1 Z ⟨⟨c,d,f,o⟩,h5,rfl,rfl⟩;have gt:=mw (id:=0) (Z:=Z) t hs hpl;rw[ha,hT]at gt;refine Wp.cut y (fun σ' Y' Z'=>mz σ'/\σ' 5=int i.p/\σ' 6=str a/\Y'=zI Y1 0 (some (wo s U))/\Z'=Z) (by simp[mz,c,d,f,o,h5,gt]) ?_;clear c d f o h5 gt σ;rintro σ _ Z ⟨⟨c,d,f,o⟩,h5,z,rfl,rfl⟩;have hmT:zI Y1 0 (some (wo s U)) 3=some (xn seen):=by rw[zc _ _ _ _ (by decide)];exact L
   have hbT:zI Y1 0 (some (wo s U)) 0=some (wo s U):=by simp
   have gl:=Au (id:=3) a hmT;have gf:=vK (id:=0) (Z:=Z) i.p 7 hbT hs htl.2.1 (by omega);rw[yx]at gf;refine Wp.cut y (fun σ' Y' Z'=>mz σ'/\σ' 6=str a/\Y'=zI Y1 0 (some (wo s q))/\Z'=Z) ?_ ?_
   ·by_cases J:a∈seen
    ·rw[show decide (a∈seen)=true from by simpa using J]at gl;rw[zl J]at W;simp[mz,c,d,f,o,h5,z,gl,gf,W]
    ·rw[show decide (a∈seen)=false from by simpa using J]at gl;rw[zj J]at W;simp[mz,c,d,f,o,h5,z,gl,W]
   clear c d f o h5 z gl gf hmT hbT σ;rintro σ _ Z ⟨⟨c,d,f,o⟩,z,rfl,rfl⟩;have hmN:zI Y1 0 (some (wo s q)) 3=some (xn seen):=by rw[zc _ _ _ _ (by decide)];exact L
   obtain⟨X,gp,hpm⟩:∃X,km prog (zI Y1 0 (some (wo s q))) 76 (.mp 3) (str a) (q6 true)=some (zI (zI Y1 0 (some (wo s q))) 3 X)/\(a ∉ seen->X=some (xn (seen++[a]))):=by
    by_cases J:a∈seen
    ·obtain⟨b,t⟩:=Ig a hmN J;exact⟨some b,t,fun h=>absurd J h⟩
    ·exact⟨_,Fi a hmN J,fun _=>rfl⟩
   refine Wp.cut y (fun σ' Y' Z'=>mz σ'/\σ' 6=str a/\Y'=zI (zI Y1 0 (some (wo s q))) 3 X/\Z'=Z) (by simp[mz,c,d,f,o,z,gp]) ?_;clear c d f o z gp hmN σ;rintro σ Y2 Z ⟨⟨c,d,f,o⟩,z,Rz,rfl⟩;have c0:Y2 0=some (wo s q):=by rw[Rz,zc _ _ _ _ (by decide)];simp
   have c1:Y2 1=some Wi:=by rw[Rz,zc _ _ _ _ (by decide),zc _ _ _ _ (by decide)];exact E
   have c2:Y2 2=some (ZS 5 .nil v):=by rw[Rz,zc _ _ _ _ (by decide),zc _ _ _ _ (by decide)];exact A
   have c3:Y2 3=X:=by rw[Rz];simp
   have cO:qR Y2 Z 149 6 v (l.map wa):=by rw[Rz];exact(u.put H _).put I _
   clear Rz u A t hb' L E H B D I Y1;have gb1:=Q4 (id:=0) (Z:=Z) c0 hs hNp;obtain⟨q1,q2,q3,_⟩:=xF (s:=s) (st:=q) hNp;have gs:Oe [.ref 0 0 0,.v (.int .u8 58)] (zI Y2 0 (some (wo s (Qd s q)))) Z=some (q6 (QK s (Qd s q) 58).1,zI (zI Y2 0 (some (wo s (Qd s q)))) 0 (some (wo s (QK s (Qd s q) 58).2)),Z):=Vo 58 (by simp) hs q2;have q4:=Kf (s:=s) 58 q2;have gb2:=Q4 (Y:=zI Y2 0 (some (wo s (QK s (Qd s q) 58).2))) (id:=0) (Z:=Z) (by simp) hs q4.2;rw[hcol,yx]at gb2;rw[yx]at gs;refine Wp.cut y (fun σ' Y' Z'=>mz σ'/\σ' 6=str a/\Y'=zI Y2 0 (some (wo s (Qd s q)))/\Z'=Z) (by simp[mz,c,d,f,o,z,gb1]) ?_;clear c d f o z gb1 σ;rintro σ _ Z ⟨⟨c,d,f,o⟩,z,rfl,rfl⟩;refine Wp.cut y (fun σ' Y' Z'=>mz σ'/\σ' 6=str a/\Y'=zI Y2 0 (some (wo s (QK s (Qd s q) 58).2))/\Z'=Z) (by simp[mz,c,d,f,o,z,gs]) ?_;clear c d f o z gs σ;rintro σ _ Z ⟨⟨c,d,f,o⟩,z,rfl,rfl⟩;refine Wp.cut y (fun σ' Y' Z'=>mz σ'/\σ' 6=str a/\Y'=zI Y2 0 (some (wo s M))/\Z'=Z) (by simp[mz,c,d,f,o,z,gb2]) ?_;clear c d f o z gb2 q1 q2 q3 q4 σ;rintro σ Y1 Z ⟨⟨c,d,f,o⟩,z,hh1,rfl⟩;have b0:Y1 0=some (wo s M):=by rw[hh1];simp
   have b1:Y1 1=some Wi:=by rw[hh1,zc _ _ _ _ (by decide)];exact c1
   have b2:Y1 2=some (ZS 5 .nil v):=by rw[hh1,zc _ _ _ _ (by decide)];exact c2
   have b3:Y1 3=X:=by rw[hh1,zc _ _ _ _ (by decide)];exact c3
   have u:qR Y1 Z 149 6 v (l.map wa):=by rw[hh1];exact cO.put (wX cO c0 rfl) _
   clear hh1 c0 c1 c2 c3 cO Y2;have b0':=b0;simp only[qe,zO,ze,zf,zu,Nat.reduceAdd]at b0';by_cases he4:M.e=0
   case neg=>rw[zl he4]at F;refine Wp.seq (Wp.of y ?_);simp[c,b0',he4,ZR he4,bne];exact⟨by simp[d],by simp[f],by simp only;omega,b1,v,l,M,u,b2,b0,by omega,F.symm⟩
   rw[zj (by simpa using he4)]at F;have b3:=b3.trans (hpm (hce he4));clear hpm hce;refine Wp.cut y (fun σ' Y' Z'=>mz σ'/\σ' 6=str a/\Y'=Y1/\Z'=Z) (by simp[mz,c,d,f,o,z,b0',he4,bne]) ?_;clear c d f o z b0' σ;rintro σ Y1 Z ⟨⟨c,d,f,o⟩,z,rfl,rfl⟩;have H:=wX u b0 rfl;have B:=wX u b1 rfl;have D:=wX u b2 rfl;have I:=wX u b3 rfl;obtain⟨x,N,hx⟩:∃x N,Vw s k M=(x,N):=⟨_,_,rfl⟩;have hvl:=gb s k M hcl.2.1;rw[hx]at F hvl;simp only at F hvl;have g:=dN (k:=k) (id:=0) (Z:=Z) b0 hs hcl.2.1 (by omega);rw[hx]at g;simp only at g;obtain⟨Y2,a1,O2,f2⟩:=OC (u.put H (some (wo s N))) (a,x) (by omega);have c0:Y2 0=some (wo s N):=by rw[f2 0 (by omega) H];simp
   have c1:Y2 1=some Wi:=by rw[f2 1 (by omega) B,zc _ _ _ _ (by decide)];exact b1
   have c2:Y2 2=some (ZS 5 .nil v):=by rw[f2 2 (by omega) D,zc _ _ _ _ (by decide)];exact b2
   have c3:Y2 3=some (xn (seen++[a])):=by rw[f2 3 (by omega) I,zc _ _ _ _ (by decide)];exact b3
   simp only[wa,wW]at a1 g;refine Wp.seq (Wp.mono (K:=fun e st=>e=.normal/\ObQ Z (l.length+1) Y2 st) ?_ ?_)
   ·refine Wp.dS mixed ?_;rw[show Z4 _ _ _=[[0,1,2,3,4,5,6,7,8,9],[0,1,3,2,4,5,6,7,8,9],[0,1,3,4,2,5,6,7,8,9],[0,2,1,3,4,5,6,7,8,9],[0,2,3,1,4,5,6,7,8,9],[0,2,3,4,1,5,6,7,8,9],[0,2,3,4,5,1,6,7,8,9],[0,2,3,4,5,6,1,7,8,9],[0,3,1,2,4,5,6,7,8,9],[0,3,1,4,2,5,6,7,8,9],[0,3,2,1,4,5,6,7,8,9],[0,3,2,4,1,5,6,7,8,9],[0,3,2,4,5,1,6,7,8,9],[0,3,2,4,5,6,1,7,8,9],[0,3,4,1,2,5,6,7,8,9],[0,3,4,2,1,5,6,7,8,9],[0,3,4,2,5,1,6,7,8,9],[0,3,4,2,5,6,1,7,8,9],[2,0,1,3,4,5,6,7,8,9],[2,0,3,1,4,5,6,7,8,9],[2,0,3,4,1,5,6,7,8,9],[2,0,3,4,5,1,6,7,8,9],[2,0,3,4,5,6,1,7,8,9],[2,3,0,1,4,5,6,7,8,9],[2,3,0,4,1,5,6,7,8,9],[2,3,0,4,5,1,6,7,8,9],[2,3,0,4,5,6,1,7,8,9],[2,3,4,0,1,5,6,7,8,9],[2,3,4,0,5,1,6,7,8,9],[2,3,4,0,5,6,1,7,8,9],[2,3,4,5,0,1,6,7,8,9],[2,3,4,5,0,6,1,7,8,9],[2,3,4,5,6,0,1,7,8,9],[3,0,1,2,4,5,6,7,8,9],[3,0,1,4,2,5,6,7,8,9],[3,0,2,1,4,5,6,7,8,9],[3,0,2,4,1,5,6,7,8,9],[3,0,2,4,5,1,6,7,8,9],[3,0,2,4,5,6,1,7,8,9],[3,0,4,1,2,5,6,7,8,9],[3,0,4,2,1,5,6,7,8,9],[3,0,4,2,5,1,6,7,8,9],[3,0,4,2,5,6,1,7,8,9],[3,2,0,1,4,5,6,7,8,9],[3,2,0,4,1,5,6,7,8,9],[3,2,0,4,5,1,6,7,8,9],[3,2,0,4,5,6,1,7,8,9],[3,2,4,0,1,5,6,7,8,9],[3,2,4,0,5,1,6,7,8,9],[3,2,4,0,5,6,1,7,8,9],[3,2,4,5,0,1,6,7,8,9],[3,2,4,5,0,6,1,7,8,9],[3,2,4,5,6,0,1,7,8,9],[3,4,0,1,2,5,6,7,8,9],[3,4,0,2,1,5,6,7,8,9],[3,4,0,2,5,1,6,7,8,9],[3,4,0,2,5,6,1,7,8,9],[3,4,2,0,1,5,6,7,8,9],[3,4,2,0,5,1,6,7,8,9],[3,4,2,0,5,6,1,7,8,9],[3,4,2,5,0,1,6,7,8,9],[3,4,2,5,0,6,1,7,8,9],[3,4,2,5,6,0,1,7,8,9]]from by kernel_rfl];intro lst hl;simp only[zx,wu,or_false]at hl;have n2:(2:Nat)≠Z:=by omega
    have n0:¬(0:Nat)=Z:=by omega
    rcases hl with rfl|rfl|rfl|rfl|rfl|rfl|rfl|rfl|rfl|rfl|rfl|rfl|rfl|rfl|rfl|rfl|rfl|rfl|rfl|rfl|rfl|rfl|rfl|rfl|rfl|rfl|rfl|rfl|rfl|rfl|rfl|rfl|rfl|rfl|rfl|rfl|rfl|rfl|rfl|rfl|rfl|rfl|rfl|rfl|rfl|rfl|rfl|rfl|rfl|rfl|rfl|rfl|rfl|rfl|rfl|rfl|rfl|rfl|rfl|rfl|rfl|rfl|rfl
    all_goals
     refine kJ.ord y _ (by kernel_rfl) (by decide) ?_;simp[c,d,f,o,z,b2,g,a1,c2,n2,n0,zc,qi,qJ,yP,zy,zR,zw,ObQ]
   rintro e ⟨σ1,hp3,nx3⟩ ⟨rfl,e0,e2,e3,e4,hn3,P⟩;simp only at e0 e2 e3 e4 hn3 P;simp only[w5];have d0:hp3 0=some (wo s N):=by rw[P,zc _ _ _ _ (by decide)];exact c0
   have d1:hp3 1=some Wi:=by rw[P,zc _ _ _ _ (by decide)];exact c1
   have d2:hp3 2=some (ZS 5 .nil (.own (Z+1) 0 (l.length+1))):=by rw[P];simp
   have d3:hp3 3=some (xn (seen++[a])):=by rw[P,zc _ _ _ _ (by decide)];exact c3
   have O3:qR hp3 nx3 149 6 (.own (Z+1) 0 (l.length+1)) ((l++[(a,x)]).map wa):=by rw[P,hn3];exact O2.put (fun n e=>by injection e with e;omega) _
   have hnx3:3<nx3:=by omega
   clear c d f o z b0 b1 b2 u H B D I g a1 O2 f2 c0 c1 c2 c3 P W hcol hN h4J hT ha htl;obtain⟨w,hw⟩:=yb (O.own (Z+1) 0 (l.length+1));rw[hw]at d2 O3;clear hw;obtain⟨bl1,bl2,bl3,_⟩:=xF (s:=s) (st:=N) hvl.2.1;obtain⟨m,hst2⟩:=yb (Qd s N);have g3:=Q4 (id:=0) (Z:=nx3) d0 hs hvl.2.1;rw[hst2]at g3 F bl1 bl2 bl3;have d0':zI hp3 0 (some (wo s m)) 0=some (wo s m):=by simp
   have g4:=Zy (Z:=nx3) d0' hs bl2;have hox0:=wX O3 d0 rfl;have g5:Oe [.ref 0 0 0,.v (.int .u8 125)] (zI hp3 0 (some (wo s m))) nx3=some (q6 (QK s m 125).1,zI (zI hp3 0 (some (wo s m))) 0 (some (wo s (QK s m 125).2)),nx3):=Vo 125 d0' hs bl2;rw[yx]at g5;by_cases hcm:m.e=0/\jD s m=44
   ·obtain⟨Q,h44⟩:=hcm;rw[zl ⟨Q,h44⟩]at F;have hl2:=Ye h44 (by decide);have hw2:=wN ((m.p:Int)+1);rw[h44]at g4;have zbB:m.wA.p<=s.length:=by simp only[Jst.wA];omega
    have d0'':zI hp3 0 (some (wo s m.wA)) 0=some (wo s m.wA):=by simp
    have g6:=Q4 (id:=0) (Z:=nx3) d0'' hs zbB;rw[yx]at g6;obtain⟨k1,k2,_⟩:=xF (s:=s) (st:=m.wA) zbB;obtain⟨st3,hst3⟩:=yb (Qd s m.wA);rw[hst3]at g6 F k1 k2;simp only[Jst.wA]at k1;simp only[qe,zO,Jst.wA,ze,zf,zu,Nat.reduceAdd,jo,qO,Q]at g3 g4 g6;refine Wp.of y ?_;simp[e0,g3,g4,g6,hw2];have O4:=O3.put hox0 (some (wo s st3));simp only[qe,zO,ze,zf,zu,Nat.reduceAdd]at O4;exact⟨s.length-st3.p+1,by omega,by simp[e0],by simp[e2],by simp[e3],by simp[e4],hnx3,by simp[zc,d1],w,l++[(a,x)],seen++[a],st3,j,by simpa using O4,by simp[zc,d2],by simp[qe,zO],by simp[zc,d3],by omega,k2,by simp;omega,rfl,by omega,F⟩
   rw[zj hcm]at F;have O4:=O3.put hox0 (some (wo s (QK s m 125).2));by_cases Q:m.e=0
   ·have h44:¬jD s m=44:=fun h=>hcm ⟨Q,h⟩
    have hne4:(((jD s m).toNat:Int)==44)=false:=nf 44 h44;simp only[qe,zO,Jst.wA,ze,zf,zu,Nat.reduceAdd,jo,qO,Q]at g3 g4 g5 O4;refine Wp.of y ?_;simp[e0,g3,g4,g5,hne4];exact⟨by simp[e2],by simp[e3],by simp only;omega,by simp[zc,d1],w,l++[(a,x)],(QK s m 125).2,by simpa using O4,by simp[zc,d2],by simp[qe,zO],by simp;omega,F.symm⟩
   ·simp only[qe,zO,Jst.wA,ze,zf,zu,Nat.reduceAdd,jo,qO]at g3 g4 g5 O4;refine Wp.of y ?_;simp[e0,g3,g4,g5,Q,ZR Q];exact⟨by simp[e2],by simp[e3],by simp only;omega,by simp[zc,d1],w,l++[(a,x)],(QK s m 125).2,by simpa using O4,by simp[zc,d2],by simp[qe,zO],by simp;omega,F.symm⟩
  ·rintro e ⟨σ2,Y2,Xm⟩ ⟨rfl,d,f,hnx,E,v,l,stF,u,A,t,hl,hr2⟩;simp only at d f hnx E u A t;simp only[w5];rw[hr2];have H:=wX u t rfl;have B:=wX u E rfl;have D:=wX u A rfl;obtain⟨hp3,s1,O3,f3⟩:=Ek (by have:zD=268435456:=rfl;omega) u;have b0:hp3 0=some (wo s stF):=by rw[f3 0 H];exact t
   have b1:hp3 1=some Wi:=by rw[f3 1 B];exact E
   have b2:hp3 2=some (ZS 5 .nil v):=by rw[f3 2 D];exact A
   have b1':=b1;simp only[Wi]at b1';refine Wp.of y ?_;simp[d,f,A,s1,b2,b1',u.cell,f258];exact Be (O3.put (wX O3 b1 rfl) (some (ZS 5 .nil v))) (by rw[zc _ _ _ _ (by decide)];exact b0) 5 _
theorem OD{s:za}{st:Jst}{Y:Hp}{id Z:Nat}(a:Y id=some (wo s st))(hs:s.length<=1048576)(Y':st.p<=s.length)(b:st.p+1<=1048576):nmSj [.ref id 0 0] Y Z=some (.agg (Xg s st).1.V,zI Y id (some (wo s (Xg s st).2)),Z):=Zx v8 (fun _=>rfl) () a hs Y' b
noncomputable abbrev Cvj (k:Nat):Ctx:=qf prog [(254,Vm),(253,Vn),(255,wdS),(256,TX),(257,lisS k),(258,objS k),(259,nmSj)]
theorem zdc{k:Nat}(h:zh prog 241 (fy k)):AM.Good (Cvj k) (fun g=>[253].contains g):=qI mixed ⟨xD,by simp,xE,fun _=>xC _ _,HY,by simp,eN,by simp,El h,by simp,Em h,by simp,Eb,by simp,trivial⟩
theorem Ih{k:Nat}(h:zh prog 241 (fy k)):zh prog 241 (fy (k+1)):=
 j9 (C:=Cvj k) func241 (by kernel_rfl) rfl TJ _ fun cs az cs' r N=>by
  obtain⟨s,st,⟨⟩,rfl,rfl,hs,Y,S,rfl,rfl⟩:=Qf N;refine⟨by simp[aU,f241],?_⟩;clear N;have D:=zdc h;obtain⟨c,w⟩:=yb (jD s st);refine Wp.cut D (fun σ Y Z=>σ 0=.ref 0 0 0/\σ 2=.ref 1 0 0/\Y 0=some (wo s st)/\Y 1=some Wi/\Z=2) (by simp[aU,wF,qe,zO,Wi,zc]) ?_;rintro σ Y1 _ ⟨f,i,l,R,rfl⟩;have g:=Zy (Z:=2) l hs Y;rw[w]at g;refine Wp.cut D (fun σ' Y Z=>σ' 0=.ref 0 0 0/\σ' 2=.ref 1 0 0/\σ' 3=dJ c/\Y=Y1/\Z=2) (by simp[f,i,g,dJ]) ?_;clear f i g σ;rintro σ Y1 _ ⟨f,i,j,rfl,rfl⟩;simp only[dJ]at j;have a:=l;simp only[qe,zO,ze,zf,zu,Nat.reduceAdd]at a;have b:=R;simp only[Wi]at b;have E:Vw s (k+1) st=Jl zN s (k+1) st:=rfl;rw[E,Jl];refine Wp.of D ?_;have m:=vK (Z:=2) st.p 10 l hs Y (by omega);by_cases n:s.length<=st.p
  ·rw[zl n];have o:(s.length:Int)<=st.p:=by omega
   simp only[qe,zO,ze,zf,zu,Nat.reduceAdd]at m;simp[f,i,j,a,o,m,b,zc,qi,qJ,f241];exact wc rfl (by simp[zc,qe,zO]) Qy rfl
  rw[zj n,w];have d:¬(s.length:Int)<=st.p:=by omega
  by_cases x:c=110
  ·have e:=mg (Z:=2) [110,117,108,108] l hs Y (by simp);rw[zl x];subst x;simp only[qe,zO,ze,zf,zu,Nat.reduceAdd]at e;simp[f,i,j,a,d,e,b,zc,qi,qJ,f241];exact wc rfl (by simp[zc,qe,zO]) Qy rfl
  have F:((c.toNat:Int)==110)=false:=nf 110 x;rw[zj x];by_cases y:c=116
  ·have e:=mg (Z:=2) [116,114,117,101] l hs Y (by simp);rw[zl y];subst y;simp only[qe,zO,ze,zf,zu,Nat.reduceAdd]at e;simp[f,i,j,a,d,e,b,zc,f241,qi,qJ];exact wc rfl (by simp[zc,qe,zO]) Qy rfl
  have G:((c.toNat:Int)==116)=false:=nf 116 y;rw[zj y];by_cases z:c=102
  ·have e:=mg (Z:=2) [102,97,108,115,101] l hs Y (by simp);rw[zl z];subst z;simp only[qe,zO,ze,zf,zu,Nat.reduceAdd]at e;simp[f,i,j,a,d,e,b,zc,f241,qi,qJ];exact wc rfl (by simp[zc,qe,zO]) Qy rfl
  have H:((c.toNat:Int)==102)=false:=nf 102 z;rw[zj z];by_cases A:c=34
  ·have e:=mw (Z:=2) l hs Y;rw[zl A];subst A;simp only[qe,zO,ze,zf,zu,Nat.reduceAdd]at e;simp[f,i,j,a,d,e,b,zc,f241,qi,qJ];exact wc rfl (by simp[zc,qe,zO]) Qy rfl
  have I:((c.toNat:Int)==34)=false:=nf 34 A;rw[zj A];by_cases q:c=91
  ·have e:=Ic (k:=k) (Z:=2) l hs Y (w.trans q) (by omega);rw[zl q];subst q;simp only[qe,zO,ze,zf,zu,Nat.reduceAdd]at e;rw[wW]at e;simp only[wW]at e⊢;simp[f,i,j,a,d,e,b,zc,f241];exact yj (by simp[AM.freeze,z7,qm,qn]) (by simp[zc,qe,zO])
  have J:((c.toNat:Int)==91)=false:=nf 91 q;rw[zj q];by_cases t:c=123
  ·have e:=Ie (k:=k) (Z:=2) l hs Y (w.trans t) (by omega);rw[zl t];subst t;simp only[qe,zO,ze,zf,zu,Nat.reduceAdd]at e;simp only[wW]at e⊢;simp[f,i,j,a,d,e,b,zc,f241];exact yj (by simp[AM.freeze,z7,qm,qn]) (by simp[zc,qe,zO])
  have K:((c.toNat:Int)==123)=false:=nf 123 t;rw[zj t];have u:=OD (Z:=2) l hs Y (by omega);simp only[qe,zO,ze,zf,zu,Nat.reduceAdd]at u m;by_cases v:c=45
  ·rw[zl (.inl v)];subst v;simp only[wW]at u⊢;simp[f,i,j,a,d,u,b,zc,f241];exact yj (by simp[AM.freeze,z7,qm,qn]) (by simp[zc,qe,zO])
  have L:((c.toNat:Int)==45)=false:=nf 45 v;by_cases P:48<=c.toNat
  ·have B:(48:Int)<=c.toNat:=by omega
   by_cases Q:c.toNat<=57
   ·have M:(c.toNat:Int)<=57:=by omega
    rw[zl (.inr (by simp[YH,P,Q]))];simp only[wW]at u⊢;simp[f,i,j,a,d,u,b,F,G,H,I,J,K,L,B,M,zc,f241];exact yj (by simp[AM.freeze,z7,qm,qn]) (by simp[zc,qe,zO])
   ·have M:¬(c.toNat:Int)<=57:=by omega
    rw[zj (by simp[YH,Q,v])];simp[f,i,j,a,d,m,b,F,G,H,I,J,K,L,B,M,zc,qi,qJ,f241];exact wc rfl (by simp[zc,qe,zO]) Qy rfl
  ·have B:¬(48:Int)<=c.toNat:=by omega
   rw[zj (by simp[YH,P,v])];simp[f,i,j,a,d,m,b,F,G,H,I,J,K,L,B,zc,qi,qJ,f241];exact wc rfl (by simp[zc,qe,zO]) Qy rfl
theorem Ii:zh prog 241 (fy 0):=
 j9 (C:=Cvj 0) func241 (by kernel_rfl) rfl TJ _ fun cs az cs' r a=>by obtain⟨s,st,⟨⟩,rfl,rfl,hs,Y,b,rfl,rfl⟩:=Qf a;omega
theorem mA:∀k,zh prog 241 (fy k)
 | 0=>Ii
 |k+1=>Ih (mA k)
theorem _root_.Go.AM.jl.zdH{dr:Prop}{P:Program}{f:FuncId}{b:Type}{h:b->AM.Spec}{c:AM.Spec}(d:b)(hs:∀i,jl dr P f (h i))(g:∀args Y Z q,c args Y Z=some q->∃i,h i args Y Z=some q):jl dr P f c:=
 ⟨(hs d).1,fun args Y Z r Y' Z' e w S G vs j k=>by obtain⟨i,a⟩:=g args Y Z _ e;exact(hs i).2 args Y Z r Y' Z' a w S G vs j k⟩
noncomputable abbrev OE:AM.Spec:=mJ aU (fun _ _ _=>True) (fun s st _=>(Vw s (s.length+1) st).2) (fun s st _=>.agg (Vw s (s.length+1) st).1.V)
theorem En{s:za}{st:Jst}{Y:Hp}{id Z:Nat}(a:Y id=some (wo s st))(hs:s.length<=1048576)(Y':st.p<=s.length):OE [.ref id 0 0] Y Z=some (.agg (Vw s (s.length+1) st).1.V,zI Y id (some (wo s (Vw s (s.length+1) st).2)),Z):=Zx v8 (fun _=>rfl) () a hs Y' trivial
theorem OG{T:TypeId}{F:zb->zb->Option (zb×O)}{args:zb}{Y:Hp}{Z:Nat}{q:O×Hp×Nat}(h:nP T F args Y Z=some q):∃id rest cs cs' r,args=.ref id 0 0::rest/\Y id=some (qe T cs)/\F cs rest=some (cs',r)/\q=(r,zI Y id (some (qe T cs')),Z):=by
 unfold nP at h;split at h
 case h_2=>cases h
 rename_i id rest;split at h
 case isFalse=>cases h
 obtain⟨b,d,h⟩:=zL.1 h;obtain⟨cs,a,h⟩:=zL.1 h;obtain⟨⟨cs',r0⟩,c,h⟩:=zL.1 h;simp only at h;split at h
 case isFalse=>cases h
 injection h with e;obtain⟨rfl,_⟩:=Vl a;exact⟨id,rest,cs,cs',r0,rfl,d,c,e.symm⟩
theorem Bi:zh prog 241 OE:=
 jl.zdH 0 mA fun args Y Z q h=>by obtain⟨id,rest,cs,cs',r,rfl,a,b,rfl⟩:=OG h;obtain⟨s,st,⟨⟩,rfl,rfl,hs,Y,_,rfl,rfl⟩:=Qf b;exact⟨s.length+1,dN a hs Y (by omega)⟩
theorem Q5{Y Y2:Hp}{Z:Nat}{x r0 r:O}(a:AM.freeze Y x=some (r0,Y2)){u:O->O}(b:aO u)(c:u r0=r):zaX r x Y Z:=⟨r0,by rw[a];rfl,fun w S v d=>c ▸ b w S r0 v d⟩
abbrev uR3:O->O:=TF [uV]
theorem zdd:aO uR3:=.qZ fun u a=>by simp only[zx,wu,or_false]at a;subst a;exact Qy
noncomputable def OH (a:za×Nat):O:=.qZ [.agg (Qe zN a.1 a.2).1.V,int (Qe zN a.1 a.2).2.1,int (Qe zN a.1 a.2).2.2]
noncomputable def FRa:zb->Option O:=qt (α:=za×Nat) (fun a=>[str a.1,int a.2]) (fun a=>a.1.length<=1048576/\a.2<=a.1.length) OH
noncomputable abbrev raS:AM.Spec:=hP FRa
theorem Bj(s:za)(p:Nat):OH (s,p)=.qZ [.agg (Qe zN s p).1.V,int (Qe zN s p).2.1,int (Qe zN s p).2.2]:=rfl
theorem OI(s:za)(p:Nat)(Y:Hp)(Z:Nat)(hs:s.length<=1048576)(h:p<=s.length):raS [str s,int p] Y Z=some (OH (s,p),Y,Z):=
 wL (Y1:=Y) rfl (qj (V:=fun a:List UInt8×Nat=>[str a.1,int a.2]) (a:=(s,p)) (fun a b e=>by obtain⟨c,d⟩:=a;obtain⟨f,g⟩:=b;simp only[zi,zF]at e;have i:=qE e.2;exact Prod.ext (wT e.1) (by simp only;omega)) ⟨hs,h⟩) (.inr rfl)
def Dra:List (Tmp×Tmp):=[(7,4),(20,4),(21,4),(22,4),(24,4),(25,4),(26,4),(29,4),(30,4),(31,4)]
def mC(i:Nat):List (Tmp×Tmp):=if i<4 then[]else Dra
theorem OJ{i:Nat}(h:i<4):mC i=[]:=zl h
@[simp]theorem Ry(P:Program)(l:Yu)(i:Nat)(a:Array Oper)(d:Bool)(st:St)(K:Exit->St->Prop)(h:i<4):Zs (xv P l mC) (.region i a d) st K=gV (xv P l mC) a a.toList st (vy K):=QD _ i a d st K (OJ h) rfl
theorem Vx{P:Program}{l:Yu}{i:Nat}{a:Array Oper}{d:Bool}{st:St}{K:Exit->St->Prop}{blk:Blk}(b:st.σ 4=.ref 0 0 0)(c:st.σ 7=.ref 1 0 0)(f:∀t,20<=t->t<32->st.σ t=.qZ [])(g:st.Y 0=some blk)(h:blk.arr=false)(k:¬i<4):Zs (xv P l mC) (.region i a d) st K=gV (xv P l mC) a a.toList st (vy K):=
 vA _ i a d st K (by
  rw[show(xv P l mC).dyn i=Dra from zj k];intro p Y id i j e;have Y2:p.2=4:=by simp only[Dra,zx,wu,or_false]at Y;rcases Y with rfl|rfl|rfl|rfl|rfl|rfl|rfl|rfl|rfl|rfl<;>rfl
  rw[Y2];refine⟨0,0,0,blk,b,?_,g,h⟩;simp only[Dra,zx,wu,or_false]at Y;rcases Y with rfl|Y
  ·rw[c]at e;injection e with e _ _
   omega
  ·have:20<=p.1/\p.1<32:=by rcases Y with rfl|rfl|rfl|rfl|rfl|rfl|rfl|rfl|rfl<;>decide
   rw[f _ this.1 this.2]at e;cases e) (fun s hs=>by cases hs)
noncomputable abbrev Cxra:Ctx:=xv prog [(241,OE)] mC
theorem T8:Gd Cxra:=KW _ mixed ⟨Bi,by simp,trivial⟩
theorem Ij:zh prog 224 raS:=
 QT (C:=Cxra) (pf:=fun g=>([]:List Nat).contains g) ⟨func224,by kernel_rfl,rfl,by kernel_rfl⟩ false [] _ fun args r h=>by
  obtain⟨⟨s,p⟩,rfl,⟨hs,Y⟩,rfl⟩:=qc h;simp only at hs Y;refine⟨by simp[f224],?_⟩;clear h;refine Wp.of T8 ?_;obtain⟨x,f,m⟩:∃x f,Jl zN s (s.length+1) ⟨p,0,0⟩=(x,f):=⟨_,_,rfl⟩;have g:=fun(o:Hp) (id Z:Nat) (d:o id=some (wo s ⟨p,0,0⟩))=>En (s:=s) (st:=⟨p,0,0⟩) (Z:=Z) d hs Y
  simp only[Vw,m,wW]at g;rw[Bj,Qe];simp only[m];refine q9 (fun σ Y Z=>σ 0=str s/\σ 1=int p/\σ 4=.ref 0 0 0/\(∀t,20<=t->t<32->σ t=.qZ [])/\Y 0=some Wi/\Z=1) ?_ ?_
  ·simp[Wi];intro t c j;rw[zc _ _ _ _ (by omega),zc _ _ _ _ (by omega),zc _ _ _ _ (by omega)];show([str s,int p][t]?).getD (.qZ [])=_;rw[qY (by simp only[ze,zf];omega)];rfl
  rintro σ Y1 _ ⟨n,c,a,k,b,rfl⟩;refine q9 (fun σ Y Z=>σ 4=.ref 0 0 0/\σ 7=.ref 1 0 0/\(∀t,20<=t->t<32->σ t=.qZ [])/\Y 0=some Wi/\Y 1=some (wo s ⟨p,0,0⟩)/\Z=2) ?_ ?_
  ·simp[n,c,a,b,zc,qi,qJ,qe,zO];intro t c j;rw[zc _ _ _ _ (by omega),zc _ _ _ _ (by omega),zc _ _ _ _ (by omega),zc _ _ _ _ (by omega),zc _ _ _ _ (by omega)];exact k t c j
  clear n c a k b σ Y1;rintro σ Y1 _ ⟨a,i,k,b,d,rfl⟩;have g:=g Y1 1 2 d;refine q9 (fun σ Y Z=>σ 4=.ref 0 0 0/\σ 7=.ref 1 0 0/\(∀t,20<=t->t<32->σ t=.qZ [])/\Y 0=some ⟨112,5,false,[x.V]⟩/\Y 1=some (wo s f)/\Z=2) ?_ ?_
  ·simp only[Wi]at b;simp[a,i,g,b,zc,wW];intro t c j;rw[zc _ _ _ _ (by omega),zc _ _ _ _ (by omega)];exact k t c j
  clear a i k b d g σ Y1;rintro σ Y1 _ ⟨a,i,k,b,d,rfl⟩;simp only[qe,zO,ze,zf,zu,Nat.reduceAdd,wW]at d b;by_cases l:f.e=0
  ·rw[zl l];simp[a,i,d,l];rw[Vx (blk:=⟨112,5,false,[x.V]⟩) (by simp[a]) (by simp[i]) (fun t c j=>by simp;rw[zc _ _ _ _ (by omega),zc _ _ _ _ (by omega),zc _ _ _ _ (by omega),zc _ _ _ _ (by omega),zc _ _ _ _ (by omega)];exact k t c j) (by show Y1 0=_;rw[b,wW]) rfl (by omega)];simp[a,i,d,b,l,zc,f224];exact Q5 rfl .id (by simp[wW])
  ·rw[zj l];simp[a,i,d,l,ZR l,bne];rw[Vx (blk:=⟨112,5,false,[x.V]⟩) (by simp[a]) (by simp[i]) (fun t c j=>by simp;rw[zc _ _ _ _ (by omega),zc _ _ _ _ (by omega),zc _ _ _ _ (by omega),zc _ _ _ _ (by omega),zc _ _ _ _ (by omega)];exact k t c j) (by show Y1 0=_;rw[b,wW]) rfl (by omega)];simp[a,i,d,b,qi,qJ,zc,f224];exact Q5 rfl zdd rfl
section
variable{s:za}
def aJ(s:za)(a b:Jst):Prop:=a.i<=s.length->b.i<=s.length
theorem aJ.fH(a:Jst):aJ s a a:=fun h=>h
theorem aJ.trans{a b c:Jst}(d:aJ s a b)(e:aJ s b c):aJ s a c:=fun h=>e (d h)
theorem Wk(st:Jst)(k:Nat)(x:Int):aJ s st (st.fail s.length k x):=fun h=>by
 unfold Jst.fail;split
 ·exact Nat.min_le_right _ _
 ·exact h
theorem KA(st:Jst):aJ s st (Qd s st):=fun h=>h
theorem Zq(st:Jst):aJ s st st.wA:=fun h=>h
theorem mD(st:Jst)(c:UInt8):aJ s st (QK s st c).2:=by
 unfold QK;split
 ·exact Zq st
 ·exact Wk st _ _
theorem FM:∀(w:za) (st:Jst),aJ s st (Cf s w st)
 |[],st=>.fH st
 |c::w,st=>by
  rw[Cf];split
  ·exact(mD st c).trans (FM w _)
  ·exact mD st c
theorem OK(a:Nat):∀(l:za) (n m:Nat) (st:Jst),aJ s st (lP s a l n m st).2.2
 |[],n,m,st=>by
  rw[lP];simp only;split
  ·exact Wk _ _ _
  ·exact .fH _
 |c::l,n,m,st=>by
  rw[lP];split
  ·split
   ·exact Wk _ _ _
   ·exact(Zq st).trans (OK a l _ _ _)
  ·simp only;split
   ·exact Wk _ _ _
   ·exact .fH _
theorem zde(st:Jst):aJ s st (Vf s st).2:=by
 unfold Vf;split
 ·simp only;split
  ·exact(Zq st).trans (Wk _ _ _)
  ·exact Zq st
 ·exact OK _ _ _ _ _
theorem T9(n:Nat)(st:Jst):aJ s st (Qx s n st).2:=by
 unfold Qx;split
 ·exact(Zq st).trans (OK _ _ _ _ _)
 ·exact .fH _
theorem zdf(st:Jst):aJ s st (Xg s st).2:=by
 simp only[Xg];refine aJ.trans ?_ ((zde _).trans (T9 _ _));split
 ·exact Zq st
 ·exact .fH _
theorem FN:∀(k n:Nat) (st:Jst),aJ s st (fw s k n st).2
 | 0,n,st=>Zq st
 |k+1,n,st=>by
  rw[fw];split
  ·exact(Zq st).trans (FN k _ _)
  ·exact(Zq st).trans (Wk _ _ _)
theorem zdg(st:Jst):aJ s st (WC s st).2:=by
 unfold WC;split
 ·exact Zq st
 ·split
  ·exact Wk _ _ _
  ·split
   ·exact FN _ _ _
   ·simp only;split
    ·exact(FN _ _ _).trans (Wk _ _ _)
    ·exact FN _ _ _
theorem OL:∀(k:Nat) (b:za) (st:Jst),aJ s st (sw s k b st).2
 | 0,b,st=>.fH st
 |k+1,b,st=>by
  rw[sw];split
  ·exact .fH _
  ·split
   ·exact Wk _ _ _
   ·split
    ·exact Zq _
    ·split
     ·exact((Zq st).trans (zdg _)).trans (OL k _ _)
     ·exact(Zq st).trans (OL k _ _)
theorem sN(st:Jst):aJ s st (j7 s st).2:=by
 unfold j7;split
 ·exact(mD st _).trans (OL _ _ _)
 ·exact mD st _
theorem zbd{f:Jst->Val×Jst}(a:∀st,aJ s st (f st).2):∀(k:Nat) (l:List Val) (st:Jst),aJ s st (Cg s f k l st).2
 | 0,l,st=>.fH st
 |k+1,l,st=>by
  rw[Cg];split
  ·exact .fH _
  ·simp only;split
   ·exact((a st).trans (KA _)).trans (((Zq _).trans (KA _)).trans (zbd a k _ _))
   ·exact((a st).trans (KA _)).trans (mD _ _)
theorem Ua{f:Jst->Val×Jst}(a:∀st,aJ s st (f st).2)(st:Jst):aJ s st (Zo s f st).2:=by
 unfold Zo;simp only;split
 ·exact((Zq st).trans (KA _)).trans (Zq _)
 ·exact((Zq st).trans (KA _)).trans (zbd a _ _ _)
theorem Eo(seen:List za)(st:Jst):aJ s st (b5 s seen st):=by
 unfold b5;refine aJ.trans ?_ ((KA _).trans ((mD _ _).trans (KA _)));unfold Q3;split
 ·exact(sN st).trans (Wk _ _ _)
 ·exact sN st
theorem zbe{f:Jst->Val×Jst}(a:∀st,aJ s st (f st).2):∀(k:Nat) (seen:List za) (l:List (za×Val)) (st:Jst),aJ s st (Ch s f k seen l st).2
 | 0,seen,l,st=>.fH st
 |k+1,seen,l,st=>by
  rw[Ch];split
  ·exact .fH _
  ·simp only;split
   ·exact Eo _ _
   ·split
    ·exact(((Eo _ _).trans (a _)).trans (KA _)).trans (((Zq _).trans (KA _)).trans (zbe a k _ _ _))
    ·exact(((Eo _ _).trans (a _)).trans (KA _)).trans (mD _ _)
theorem zdh{f:Jst->Val×Jst}(a:∀st,aJ s st (f st).2)(st:Jst):aJ s st (Yd s f st).2:=by
 unfold Yd;simp only;split
 ·exact((Zq st).trans (KA _)).trans (Zq _)
 ·exact((Zq st).trans (KA _)).trans (zbe a _ _ _ _)
theorem OM(a:List (za×Val)->List (za×Val)):∀(k:Nat) (st:Jst),aJ s st (Jl a s k st).2
 | 0,st=>.fH st
 |k+1,st=>by
  have b:=OM a k;rw[Jl];split
  ·exact Wk _ _ _
  split
  ·exact FM _ _
  split
  ·exact FM _ _
  split
  ·exact FM _ _
  split
  ·exact sN _
  split
  ·exact Ua b _
  split
  ·exact zdh b _
  split
  ·exact zdf _
  ·exact Wk _ _ _
theorem Bm{p:Nat}(h:p<=s.length):(Qe zN s p).2.1<=s.length/\((Qe zN s p).2.2=0->p<=(Qe zN s p).2.1/\(Qe zN s p).1.vb<=(Qe zN s p).2.1-p+1)/\((Qe zN s p).2.2≠0->(Qe zN s p).1=zV):=by
 have a:=gb s (s.length+1) ⟨p,0,0⟩ h;have b:=OM (s:=s) zN (s.length+1) ⟨p,0,0⟩ (jS _);simp only[Vw]at a;simp only[Qe];split
 ·exact⟨a.2.1,fun _=>⟨a.1,a.2.2⟩,fun h=>absurd rfl h⟩
 ·rename_i c;exact⟨b,fun h=>absurd h c,fun _=>rfl⟩
end
theorem Ik{st:St}{y:O}{s:Tmp}(k:Nat)(c:s-zB=k)(b:st.σ s=.qZ [])(d:st.σ k=y)(h:y.Yk=true):ZX [s] st:=fun t e=>by obtain rfl:=yf.1 e;exact⟨⟨fun id' o n a=>(by rw[b]at a;cases a),fun id' i' j' a=>by rw[b]at a;cases a⟩,fun _=>by rw[c,d];exact h⟩
noncomputable abbrev Cvap:Ctx:=WX prog [(200,sJ),(149,A7),(182,mq),(224,raS)] 7 [1000003] []
theorem Ub:AM.Good Cvap (fun g=>[224].contains g):=ue mixed ⟨Jr,by simp,WO,by simp,Vu,by simp,Ij,fun _=>zq _ _,trivial⟩ ⟨by simp,by simp,by simp,by simp,trivial⟩
noncomputable abbrev Uc:AM.Spec:=mP aU (fun _ _ _=>True) (fun s st _=>(Jm s zN st).2) (fun s st _=>.agg (Jm s zN st).1.V)
theorem ck{s:za}{st:Pst}{Y:Hp}{id Z:Nat}(a:Y id=some (wR s st))(hs:s.length<=20000)(Y':st.p<=s.length):Uc [.ref id 0 0] Y Z=some (.agg (Jm s zN st).1.V,zI Y id (some (wR s (Jm s zN st).2)),Z):=xS v8 (fun _=>rfl) () a hs Y' trivial
theorem zbf:zV.vb=1:=by rw[ZN];simp[zV,Val.s,Val.items,Val.fields,kz,ZU]
theorem mE{s:za}{st:Pst}(h:st.p<=s.length):(Jm s zN st).2.p<=s.length/\(Jm s zN st).2.d=st.d/\((Jm s zN st).2.e=0->st.e=0/\st.p<=(Jm s zN st).2.p/\(Jm s zN st).1.vb<=(Jm s zN st).2.p-st.p+1)/\((Jm s zN st).2.e≠0->(Jm s zN st).1=zV):=by
 have a:=vq (s:=s) h;have c:=Vv (s:=s) a.2.1;have f:=Bm (s:=s) a.2.1;simp only[Jm];split
 ·rename_i b;exact⟨a.2.1,a.2.2.2.2,fun e=>absurd (a.2.2.1.symm.trans e) b,fun _=>rfl⟩
 ·rename_i b;have b:st.e=0:=by simpa using b
  split
  ·exact⟨c.2.1,c.2.2.1.trans a.2.2.2.2,fun e=>absurd e c.2.2.2,fun _=>rfl⟩
  ·simp only[Pst.mv];refine⟨f.1,?_,?_,?_⟩
   ·split
    ·exact a.2.2.2.2
    ·rw[(YI _ _ _).2];exact a.2.2.2.2
   ·split
    ·rename_i g;have:=f.2.1 g;intro _;exact⟨b,by omega,by omega⟩
    ·intro e;exfalso;unfold Pst.fail at e;rw[zl (a.2.2.1.trans b)]at e;simp at e
   ·split
    ·intro e;exact absurd (a.2.2.1.trans b) e
    ·rename_i g;intro _;exact f.2.2 g
theorem pD:zh prog 202 Uc:=
 yU (code:=_) Ub ⟨func202,by kernel_rfl,rfl,by kernel_rfl⟩ TP _ fun cs az cs' r h=>by
  obtain⟨s,st,⟨⟩,rfl,rfl,hs,Y,hk,rfl,rfl⟩:=kU h;refine⟨by simp[aU,f202],?_⟩;clear h;have t:=vq (s:=s) Y;have D:=mr (s:=s) Y;obtain⟨d,I⟩:=yb (kK s st);obtain⟨w,L⟩:=yb (KH s st);simp only[Jm];rw[I]at t D;rw[L]at D;rw[I,L];refine q9 (fun σ Y Z=>σ 0=.ref 0 0 0/\σ 2=.ref 1 0 0/\σ 1000003=.qZ []/\Y 0=some (wR s st)/\Y 1=some Wi/\Z=2) (by simp[aU,wF,qe,zX,Wi,zc,kM]) ?_;rintro σ Y1 _ ⟨a,b,i,m,n,rfl⟩;have M:=Yf (Z:=2) m hs Y;rw[I,L]at M;refine q9 (fun σ Y Z=>σ 0=.ref 0 0 0/\σ 2=.ref 1 0 0/\σ 1000003=.qZ []/\σ 3=str w/\Y 0=some (wR s d)/\Y 1=some Wi/\Z=2) (by simp[a,b,i,M,n,zc]) ?_;clear a b i m n M σ Y1;rintro σ Y1 _ ⟨a,b,i,o,m,n,rfl⟩;have v:=m;have A:=n;simp only[Wi]at A;simp only[qe,zX,ze,zf,zu,Nat.reduceAdd]at v;have E:d.e=st.e:=t.2.2.1;by_cases J:st.e=0
  case neg=>
   have B:¬d.e=0:=by rw[E];exact J
   rw[zl J];simp[a,b,v,A,B,ZR B,bne,qi,qJ,f202];exact wc rfl (by rw[zc _ _ _ _ (by decide)];exact m) Qy rfl
  rw[zj (by simpa using J)];have B:d.e=0:=E.trans J;refine q9 (fun σ' Y Z=>σ' 0=.ref 0 0 0/\σ' 2=.ref 1 0 0/\σ' 1000003=.qZ []/\σ' 3=str w/\Y=Y1/\Z=2) (by simp[a,b,o,i,v,B]) ?_;clear a b o i σ;rintro σ Y1 _ ⟨a,b,i,o,rfl,rfl⟩;have N:=Yg (Z:=2) m hs t.2.1;have P:sy s d=sy s (kK s st):=by rw[I]
  simp only[qe,zX,ze,zf,zu,Nat.reduceAdd]at N;cases u:DX w
  case true=>
   rw[zl rfl];cases w with
   |nil=>cases u
   |cons c l=>
    simp only[DX,zn,z6,Ql]at u;obtain⟨⟨⟨⟨Q,R⟩,C⟩,F⟩,K⟩:=u;have f:(97:Int)<=c.toNat:=by have:=wH.1 Q;simp at this;omega
    have j:(c.toNat:Int)<=122:=by have:=wH.1 R;simp at this;omega
    simp[a,b,o,f,j,C,F,K,N,A,zc,qi,qJ,f202];exact wc rfl (by simp[zc,qe,zX]) Qy rfl
  rw[zj (by simp)];refine q9 (fun σ' Y Z=>σ' 0=.ref 0 0 0/\σ' 2=.ref 1 0 0/\σ' 1000003=.qZ []/\σ' 3=str w/\Y=Y1/\Z=2) ?_ ?_
  ·cases w with
   |nil=>simp[a,b,o,i]
   |cons c l=>
    by_cases Q:97<=c.toNat
    case neg=>
     have f:¬(97:Int)<=c.toNat:=by omega
     simp[a,b,o,i,f]
    have f:(97:Int)<=c.toNat:=by omega
    by_cases R:c.toNat<=122
    case neg=>
     have j:¬(c.toNat:Int)<=122:=by omega
     simp[a,b,o,i,f,j]
    have j:(c.toNat:Int)<=122:=by omega
    have d1:decide (97<=c)=true:=by simpa[wH]using Q
    have d2:decide (c<=122)=true:=by simpa[wH]using R
    cases C:(c::l==[110,117,108,108])
    case true=>simp[a,b,o,i,f,j,C]
    cases F:(c::l==[116,114,117,101])
    case true=>simp[a,b,o,i,f,j,C,F]
    cases K:(c::l==[102,97,108,115,101])
    case true=>simp[a,b,o,i,f,j,C,F,K]
    simp only[DX,d1,d2,C,F,K]at u;cases u
  clear a b i o N P u σ;rintro σ Y1 _ ⟨a,b,i,o,rfl,rfl⟩;have W:=Bm (s:=s) t.2.1;have g:=fun Y Z=>OI s d.p Y Z (by omega) t.2.1
  simp only[Bj]at g;obtain⟨⟨x,q,e⟩,X⟩:∃r,Qe zN s d.p=r:=⟨_,rfl⟩;rw[X]at W;simp only[X]at g W⊢;simp only[wW]at g;refine q9 (fun σ' Y Z=>σ' 0=.ref 0 0 0/\σ' 2=.ref 1 0 0/\σ' 4=.ref 2 0 0/\σ' 5=int q/\σ' 6=int e/\Y 0=some (wR s d)/\Y 1=some Wi/\Y 2=some ⟨112,5,false,[x.V]⟩/\Z=3) ?_ ?_
  ·rw[eX (Ik 3 (by decide) i o rfl)];simp[a,b,v,n,g,zc,wW,qe,zX]
  clear a b i o m v n A σ Y1;rintro σ Y1 _ ⟨a,b,G,H,S,m,n,k,rfl⟩;simp only[Wi]at n;simp only[wW]at k;obtain⟨T,y⟩:=yb (if e=0 then d else d.fail q 10);rw[y];have U:=Ki (Z:=3) q 10 m hs t.2.1;simp only[qe,zX,ze,zf,zu,Nat.reduceAdd]at U;refine q9 (fun σ' Y Z=>σ' 0=.ref 0 0 0/\σ' 2=.ref 1 0 0/\σ' 4=.ref 2 0 0/\σ' 5=int q/\Y 0=some (wR s T)/\Y 1=some Wi/\Y 2=some ⟨112,5,false,[x.V]⟩/\Z=3) ?_ ?_
  ·by_cases z:e=0
   ·rw[zl z]at y;subst y;simp[a,b,G,H,S,z,m,n,k,wW,Wi]
   ·rw[zj z]at y;subst y;simp[a,b,G,H,S,z,ZR z,bne,U,n,k,wW,Wi,zc,qe,zX]
  clear a b G H S m n k U σ Y1;rintro σ Y1 _ ⟨a,b,G,H,m,n,k,rfl⟩;simp only[Wi]at n;simp only[wW]at k;simp only[qe,zX,ze,zf,zu,Nat.reduceAdd]at m;simp[a,b,G,H,m,n,k,zc,Pst.mv,f202];exact wc rfl (by simp[zc,qe,zX]) .id (by simp[wW])
noncomputable def Xj (p:Val):List Val->List Val
 |[]=>[]
 |b::l=>if(wz b p==0)=true then Xj b l else b::Xj b l
noncomputable def dO:List Val->List Val
 |[]=>[]
 |a::l=>a::Xj a l
noncomputable def FVq:zb->Option O:=qt (α:=Val×Val) (fun a=>[.agg a.1.V,.agg a.2.V]) (fun a=>a.1.vb<=zD/\a.2.vb<=zD) (fun a=>q6 (wz a.1 a.2==0))
theorem Bn(a b:Val)(Y:Hp)(Z:Nat)(c:a.vb<=zD)(d:b.vb<=zD):hP FVq [.agg a.V,.agg b.V] Y Z=some (q6 (wz a b==0),Y,Z):=
 aK (a,b) _ _ (by simp[wW]) (fun a b e=>by obtain⟨f,g⟩:=a;obtain⟨h,i⟩:=b;simp only[zi,zF,O.agg.injEq]at e;rw[xN e.1,xN e.2]) ⟨c,d⟩ (.inl rfl)
noncomputable abbrev Cvq:Ctx:=qf prog [(110,hP (FCV zD))]
theorem zdi:AM.Good Cvq (fun g=>[110].contains g):=qI mixed ⟨W8 zD,fun _=>zq _ _,trivial⟩
theorem ON:zh prog 227 (hP FVq):=
 Z3 zdi func227 false [] fun⟨a,b⟩ ⟨c,d⟩=>by
  simp only at c d;have g:=fun Y Z=>K6 zD a b Y Z ⟨c,c,d⟩
  simp only[wW]at g;refine⟨by simp[f227],_,zs rfl (r:=q6 (wz a b==0)) ?_,qP _⟩;simp[g,wW,zc,f227]
noncomputable abbrev Ccpt:Ctx:=qf prog [(227,hP FVq)]
theorem Ud:Gd Ccpt:=qD mixed ⟨ON,trivial⟩
noncomputable abbrev cptS:AM.Spec:=yc Ccpt f226
theorem Il:zh prog 226 cptS:=Zg Ud func226
abbrev Vy(es:List zb):Blk:=⟨112,5,true,es⟩
def CptK(id:Nat)(l:List Val)(a:Hp)(b:Nat)(x:O)(Y:Hp)(Z:Nat):Prop:=Z=b/\∃k es,x=.own id 0 k/\Y=zI a id (some (Vy es))/\es.take k=(dO l).map Val.V/\k<=es.length
theorem OO{Y:Hp}{id n k:Nat}{es:List zb}{K:Int}(a:Y id=some (Vy es))(b:K=(k:Int))(f:0<k)(h:k<n):y8 prog Y 51 (.own id 0 n) (some (some (int K))) none=some (.own id k (n-k)):=by
 subst b;have c:¬k=0:=by omega
 have d:¬n=k:=by omega
 have e:k<=n:=by omega
 simp[y8,underlying51,jZ,a,c,d,e]
theorem zdj{Y:Hp}{id n k:Nat}{es:List zb}{K:Int}(a:Y id=some (Vy es))(b:K=(k:Int))(h:k<=n):y8 prog Y 51 (.own id 0 n) none (some (some (int K)))=some (.own id 0 k):=by subst b;simp[y8,underlying51,jZ,a,h]
theorem OP{Y:Hp}{id Z n k:Nat}{es:List zb}(b:Y id=some (Vy es))(e:es.length=n)(h:k<n):∃a,KK prog Y Z 51 (.own id k (n-k))=some (.qZ [],zI Y id (some (Vy a)),Z)/\a.take k=es.take k/\k<=a.length:=by
 have c:k+(n-k)<=es.length:=by omega
 have d:0<n-k:=by omega
 have f:k<=es.length:=by omega
 refine⟨es.take k++List.replicate (n-k) [int 0,int 0,str [],.nil,.nil]++es.drop (k+(n-k)),?_,?_,?_⟩
 ·simp[KK,b,c,d]
 ·rw[z8,List.take_append_of_le_length (by rw[fE];omega),List.take_take,Nat.min_self]
 ·simp;omega
theorem Ue{Y:Hp}{id a:Nat}{es:List zb}(j:Y id=some (Vy es))(h:a<es.length)(k:∀c∈es,c.length=5)(y:Val):xp prog Y 112 (.ref id a 0) (.agg y.V)=some (zI Y id (some (Vy (es.set a y.V)))):=by
 have i:=k es[a] (zo h);obtain⟨b,d,e,f,g,l⟩:∃b d e f g,es[a]=[b,d,e,f,g]:=by
  generalize es[a]=c at i
  match c,i with
  |[b,d,e,f,g],_=>exact⟨b,d,e,f,g,rfl⟩
 have m:es[a]?=some [b,d,e,f,g]:=by rw[zm h,l]
 simp[xp,j,m,wW,yP,O.cells,O.wY]
theorem Uf{l:List Val}(h:l.length<2):dO l=l:=
 match l,h with
 |[],_=>by simp[dO]
 |[a],_=>by simp[dO,Xj]
 |_::_::_,h=>by simp only[ze]at h;omega
theorem Ug{l:List Val}(hl:kz l<=zD){Y:Hp}{Z id:Nat}(hid:id<Z)(U:Y id=some (Vy (l.map Val.V))):∃x Y' Z',yR Ccpt f226 [.own id 0 l.length,.fn (.func 227) [] []] Y Z=some (x,Y',Z')/\CptK id l Y Z x Y' Z':=by
 refine wB rfl ?_;have hlen:=kf l;have nc:zD=268435456:=rfl;have B:=fun(x:Val) (W:x∈l)=>xh W
 have s:zI Y id (some (Vy (l.map Val.V)))=Y:=by
  funext j;by_cases f:j=id
  ·subst f;rw[qU,U]
  ·rw[zc _ _ _ _ f]
 by_cases N:l.length<2
 ·have F:(l.length:Int)<2:=by omega
  simp[F,f226];exact⟨rfl,l.length,l.map Val.V,rfl,s.symm,by rw[Uf N,qy (by simp)],by simp⟩
 have F:¬(l.length:Int)<2:=by omega
 refine q9 (fun σ Y1 e=>σ 0=.own id 0 l.length/\σ 1=.fn (.func 227) [] []/\Y1=Y/\e=Z) (by simp) ?_;rintro σ Y Z ⟨o,f,rfl,rfl⟩;refine q9 (fun σ Y1 e=>σ 0=.own id 0 l.length/\σ 1=.fn (.func 227) [] []/\Y1=Y/\e=Z) (by simp[o,f,F]) ?_;clear o f σ;rintro σ Y Z ⟨o,f,rfl,rfl⟩;refine q9 (fun σ Y1 e=>σ 0=.own id 0 l.length/\dO l=l/\Y1=Y/\e=Z) ?_ ?_
 case refine_2=>clear o f σ;rintro σ Y Z ⟨o,v,rfl,rfl⟩;simp[o,f226];exact⟨rfl,l.length,l.map Val.V,rfl,s.symm,by rw[v,qy (by simp)],by simp⟩
 simp;refine qu (fun i σ Y1 e=>σ 0=.own id 0 l.length/\σ 1=.fn (.func 227) [] []/\Y1=Y/\e=Z/\∃k:Nat,k=i+1/\σ 5=int ((i:Int)+1)/\k<=l.length/\∃p,l[i]?=some p/\dO l=l.take k++Xj p (l.drop k)) (l.length-1) ?_ ?_
 ·refine⟨by simp[o],by simp[f],rfl,rfl,1,rfl,by simp,by omega,?_⟩
  match l,N with
  |[],N=>simp at N
  |a::l,N=>exact⟨a,rfl,by simp[dO]⟩
 clear o f σ;rintro i σ _ _ hi ⟨o,f,rfl,rfl,k,rfl,C,hk,p,X,v⟩;by_cases w:i+1<l.length
 ·have b:(i:Int)+1<l.length:=by omega
  obtain⟨q,P⟩:∃q,l[i+1]?=some q:=⟨_,zm w⟩;have hpv:=B p (zE X);have hqv:=B q (zE P);have g:=fun Y Z=>Bn q p Y Z (by omega) (by omega)
  have J:IntKind.i64.wrap ((i:Int)+1-1)=(i:Int):=by rw[wM (by omega) (by omega)];omega
  have u:=wN (i:Int);have L:((i:Int)+1).toNat=i+1:=by omega
  have M:(0:Int)<=(i:Int)+1:=by omega
  have G:i<l.length:=by omega
  have w2:=wN ((i:Int)+1+1);have hd:l.drop (i+1)=q::l.drop (i+1+1):=by rw[zg w,(zd.1 P).2]
  have D:l[i+1]=q:=(zd.1 P).2;have Y':l[i]=p:=(zd.1 X).2;rw[hd,Xj]at v;cases d:(wz q p==0)
  ·rw[d]at g v;simp only[zv,qz]at v;simp[o,f,C,b,w,G,U,J,u,w2,L,M,D,Y',g];exact⟨by omega,by omega,by rw[qb w,D,z8];exact v⟩
  ·rw[d]at g v;simp only[qh]at v;obtain⟨k,Q⟩:=yb (i+1);rename_i Y Z;have s1:=OO (K:=(i:Int)+1) (n:=l.length) (k:=k) U (by omega) (by omega) (by omega);simp[o,f,C,b,w,G,U,J,u,L,M,D,Y',g,s1];rw[Q]at v hd P;refine qu (fun m σ Y1 e=>σ 0=.own id 0 l.length/\σ 1=.fn (.func 227) [] []/\σ 6=.own id k (l.length-k)/\σ 7=int ((m:Int)+1)/\e=Z/\k+m<l.length/\∃(r:Nat) (es:List zb) (x:Val),σ 5=int r/\Y1=zI Y id (some (Vy es))/\es.length=l.length/\1<=r/\(∀c∈es,c.length=5)/\r<=k+m/\l[k+m]?=some x/\es.take r++(Xj x (l.drop (k+m+1))).map Val.V=(dO l).map Val.V/\∀z,k+m<=z->es[z]?=(l.map Val.V)[z]?) (l.length-k) ?_ ?_
   ·exact⟨by simp[o],by simp[f],by simp,by simp,rfl,by omega,k,l.map Val.V,q,by simp[C,<-Q],s.symm,by simp,by omega,fun c t=>by obtain⟨z,_,rfl⟩:=zZ.1 t;simp[wW],by omega,P,by rw[v,yZ,List.map_take],fun _ _=>rfl⟩
   clear o f C b G J u L M D Y' g d hd hpv hqv s1 σ;rintro m σ _ Z hm ⟨o,f,h6,h7,rfl,hkm,r,es,x,C,rfl,H,hk1,A,hkm2,W,t,E⟩;by_cases R:k+m+1<l.length
   ·have b:(m:Int)+1<((l.length-k:Nat):Int):=by omega
    obtain⟨y,hy⟩:∃y,l[k+m+1]?=some y:=⟨_,zm R⟩;have hxv:=B x (zE W);have hyv:=B y (zE hy);have g:=fun Y Z=>Bn y x Y Z (by omega) (by omega)
    have J:IntKind.i64.wrap ((m:Int)+1-1)=(m:Int):=by rw[wM (by omega) (by omega)];omega
    have u:=wN (m:Int);have w2:=wN ((m:Int)+1+1);have w3:=q8 r;have L:((m:Int)+1).toNat=m+1:=by omega
    have M:(0:Int)<=(m:Int)+1:=by omega
    have l1:m+1<l.length-k:=by omega
    have l2:m<l.length-k:=by omega
    have ex:es[k+m]?=some x.V:=by rw[E _ (zk _),qq,W];rfl
    have ey:es[k+(m+1)]?=some y.V:=by rw[E _ (by omega),qq,show k+(m+1)=k+m+1 by omega,hy];rfl
    have hd:l.drop (k+m+1)=y::l.drop (k+(m+1)+1):=by rw[zg R,(zd.1 hy).2];rfl
    rw[hd,Xj]at t;have S:l[k+(m+1)]?=some y:=hy;cases d:(wz y x==0)
    ·rw[d]at g t;simp only[zv,qz,zG]at t;have hkl:r<es.length:=by omega
     have T:r<l.length:=by omega
     have st1:=fun(X:Hp) (hb:X id=some (Vy es))=>Ue hb hkl A y
     have st2:=st1 (zI Y id (some (Vy es))) (by simp);simp[o,f,C,h6,h7,b,l1,l2,J,u,w2,w3,L,M,ex,ey,g,T,st2];refine⟨by omega,by omega,r+1,by omega,es.set r y.V,rfl,by simp[H],by omega,?_,by omega,y,S,?_,?_⟩
     ·intro c t;rcases KB t with h|h
      ·exact A c h
      ·rw[h];simp[wW]
     ·rw[<-t,qb (by simp;omega),List.take_set_of_le (zk _)];simp
     ·intro z hz;rw[Qj (by omega),<-qq];exact E z (by omega)
    ·rw[d]at g t;simp only[qh]at t;simp[o,f,C,h6,h7,b,l1,l2,J,u,w2,L,M,ex,ey,g];exact⟨by omega,by omega,r,rfl,es,rfl,H,hk1,A,by omega,y,S,t,fun z hz=>by rw[<-qq];exact E z (by omega)⟩
   ·have b:¬(m:Int)+1<((l.length-k:Nat):Int):=by omega
    have hb:zI Y id (some (Vy es)) id=some (Vy es):=by simp
    obtain⟨I,c1,c2,c3⟩:=OP (Z:=Z) (k:=r) hb H (by omega);have s1:=OO (K:=(r:Int)) (n:=l.length) (k:=r) hb rfl (by omega) (by omega);have s2:=zdj (Y:=zI Y id (some (Vy I))) (K:=(r:Int)) (n:=l.length) (k:=r) (es:=I) (qU _ _ _) rfl (by omega);rw[cC (by omega),Xj]at t;simp only[ji,wg]at t;simp[o,f,C,h6,h7,b,s1,c1,s2,f226];exact⟨rfl,r,I,rfl,rfl,by rw[c2];exact t,c3⟩
 ·have hie:i+1=l.length:=by omega
  have b:¬(i:Int)+1<l.length:=by omega
  simp[o,C,b];rw[hie,wq,zp,Xj,wg]at v;exact v
noncomputable def xa (l:List Val):List Val:=dO (vL l)
theorem FO:∀(l:List Val) (p:Val),NX (p::l)->Xj p l=l
 |[],_,_=>by simp[Xj]
 |b::l,p,h=>by
  have c:=(BM.1 h).1 b (by simp);have a:(wz b p==0)=false:=by
   have:¬wz b p=0:=fun e=>by have:=(VE.eq b p).1 e;omega
   simpa using this
  rw[Xj,a];simp only[zv,qz];rw[FO l b (BM.1 h).2]
theorem Uh(l:List Val)(h:NX l):xa l=l:=by
 rw[xa,Eh h];cases l with
 |nil=>simp[dO]
 |cons a l=>rw[dO,FO l a h]
theorem Bo:∀(l:List Val) (p:Val),kz (Xj p l)<=kz l
 |[],_=>by simp[Xj]
 |b::l,p=>by rw[Xj];have:=Bo l b;split<;>simp only[kz]<;>omega
theorem OQ(l:List Val):kz (xa l)<=kz l:=by
 rw[<-Ba (xT l).2.1,xa];cases vL l with
 |nil=>simp[dO]
 |cons a l=>have:=Bo l a;rw[dO];simp only[kz];omega
noncomputable abbrev Cvs:Ctx:=qf prog [(176,A8),(202,Uc),(225,Y9 5 110 TY TZ),(226,cptS)]
theorem zdk:Gd Cvs:=qD mixed ⟨V8,pD,A9,Il,trivial⟩
noncomputable abbrev vsPS:AM.Spec:=mP aU (fun _ _ _=>True) (fun s st _=>(AH s zN xa st).2) (fun s st _=>.sl 5 ((AH s zN xa st).1.map Val.V))
theorem OR{s:za}{st:Pst}{Y:Hp}{id Z:Nat}(a:Y id=some (wR s st))(hs:s.length<=20000)(Y':st.p<=s.length):vsPS [.ref id 0 0] Y Z=some (.sl 5 ((AH s zN xa st).1.map Val.V),zI Y id (some (wR s (AH s zN xa st).2)),Z):=xS v8 (fun _=>rfl) () a hs Y' trivial
def Ws(s:za)(st:Pst):Nat:=(if st.e=0 then s.length-st.p else 0)+1
theorem mF{s:za}{st:Pst}(h:st.e=0):Ws s st=s.length-st.p+1:=by rw[Ws,zl h]
theorem cn(s:za)(st:Pst):1<=Ws s st/\Ws s st<=s.length+1:=by unfold Ws;split<;>omega
theorem Bp{s:za}{st:Pst}(h:st.p<=s.length)(g:(vG s st [124]).1=true):(vG s st [124]).2.p<=s.length/\(Jm s zN (vG s st [124]).2).2.p<=s.length/\Ws s (Jm s zN (vG s st [124]).2).2<Ws s st/\(Jm s zN (vG s st [124]).2).2.d=st.d/\st.e=0/\((Jm s zN (vG s st [124]).2).2.e=0->st.p<=(Jm s zN (vG s st [124]).2).2.p/\(Jm s zN (vG s st [124]).2).1.vb<=(Jm s zN (vG s st [124]).2).2.p-st.p)/\((Jm s zN (vG s st [124]).2).2.e≠0->(Jm s zN (vG s st [124]).2).1.vb=1):=by
 have b:=kN (s:=s) [124] h;have c:=b.2.2.2.2 g;have a:=mE (s:=s) b.2.1;simp only[ze,zf]at c;refine⟨b.2.1,a.1,?_,a.2.1.trans b.2.2.2.1,c.1,?_,fun e=>by rw[a.2.2.2 e,zbf]⟩
 ·rw[mF c.1];unfold Ws;split
  ·rename_i f;have:=a.2.2.1 f;omega
  ·omega
 ·intro f;have:=a.2.2.1 f;omega
def VsI(s:za)(r:List Val×Pst)(n:Nat)(st:St):Prop:=st.σ 0=.ref 0 0 0/\0<st.Z/\∃l a j,qR st.Y st.Z 112 5 (st.σ 3) (l.map Val.V)/\st.Y 0=some (wR s a)/\a.p<=s.length/\Ws s a=n/\n<=j/\1<=l.length/\l.length+n<=s.length+2/\kz l<=s.length+2/\(a.e=0->kz l<=a.p+1)/\AG s zN j l a=r
def VsE(s:za)(r:List Val×Pst)(st:St):Prop:=st.σ 0=.ref 0 0 0/\0<st.Z/\∃l a,qR st.Y st.Z 112 5 (st.σ 3) (l.map Val.V)/\st.Y 0=some (wR s a)/\1<=l.length/\kz l<=s.length+2/\(l,a)=r
theorem Im:zh prog 203 vsPS:=
 j9 (C:=Cvs) func203 (by kernel_rfl) rfl TP _ fun cs az cs' r h=>by
  obtain⟨s,st,⟨⟩,rfl,rfl,hs,Y,_,rfl,rfl⟩:=kU h;refine⟨by simp[aU,f203],?_⟩;clear h;have A:=zdk;have S:zD=268435456:=rfl;have o:=kN (s:=s) [110,101,118,101,114] Y;have u:A8 [.ref 0 0 0,str [110,101,118,101,114]] (wF TP (zX s st)) 1=some (q6 (vG s st [110,101,118,101,114]).1,zI (wF TP (zX s st)) 0 (some (wR s (vG s st [110,101,118,101,114]).2)),1):=Zp [110,101,118,101,114] rfl hs Y;obtain⟨E,c,B⟩:∃E c,vG s st [110,101,118,101,114]=(E,c):=⟨_,_,rfl⟩;simp only[AH];rw[B]at u o;simp only[B];simp only at u o;refine Wp.cut A (fun σ Y Z=>σ 0=.ref 0 0 0/\σ 2=.nil/\Y=wF TP (zX s st)/\Z=1) (by simp[aU]) ?_;rintro σ _ _ ⟨f,X,rfl,rfl⟩;cases E
  case true=>simp only[qh];refine Wp.seq (Wp.of A ?_);simp[f,u,f203];exact wc rfl (by simp) (.nz 5) rfl
  simp only[zv,qz];refine Wp.cut A (fun σ' Y Z=>σ' 0=.ref 0 0 0/\Y 0=some (wR s c)/\Z=1) (by simp[f,u]) ?_;clear f X u σ;rintro σ Y1 _ ⟨f,v,rfl⟩;have i:=mE (s:=s) o.2.1;have q:=ck (Z:=1) v hs o.2.1;obtain⟨x,a,F⟩:∃x a,Jm s zN c=(x,a):=⟨_,_,rfl⟩;rw[F]at q i;simp only[F];simp only at q i;simp only[wW]at q;obtain⟨r,m⟩:=yb (AG s zN (s.length+1) [x] a);rw[m];refine Wp.cut A (fun σ' Y Z=>VsI s r (Ws s a) ⟨σ',Y,Z⟩) ?_ ?_
  ·simp[f,q,zy,zR,zw];have G:=cn s a;have w:x.vb<=s.length+2/\(a.e=0->x.vb<=a.p+1):=by
    by_cases y:a.e=0
    ·have:=i.2.2.1 y;exact⟨by omega,fun _=>by omega⟩
    ·have:=i.2.2.2 y;rw[this,zbf];exact⟨by omega,fun h=>absurd h y⟩
   exact⟨by simp[f],by simp,[x],a,s.length+1,.inr ⟨1,by simp,by simp,by simp[wW]⟩,by simp[zc],i.1,rfl,G.2,by simp,by simp;omega,by simp[kz];omega,fun y=>by simp[kz];exact w.2 y,m⟩
  clear f v q σ Y1;rintro σ Y1 Z T;refine Wp.seq (Wp.mono (K:=fun e N=>e=.normal/\VsE s r N) (Wp.block (Wp.loop (VsI s r) _ T ?_)) ?_)
  ·clear T m F i o B σ Y1 Z c a x;rintro n ⟨σ,Y1,Z⟩ ⟨f,t,l,c,j,z,v,H,hn,hnj,D,hln,I,J,m⟩;simp only at f t z v;have G:=cn s c;have g:=wX z v rfl;obtain⟨j,rfl⟩:∃j',j=j'+1:=⟨j-1,by omega⟩;rw[AG]at m;have u:=Zp (Z:=Z) [124] v hs H;have d:=fun B=>Bp (s:=s) H B
   obtain⟨P,a,B⟩:∃P a,vG s c [124]=(P,a):=⟨_,_,rfl⟩;rw[B]at u m d;simp only at u m d;cases P
   ·simp only[zv,qz]at m;refine Wp.of A ?_;simp[f,u];exact⟨by simp[f],t,l,a,by simpa using z.put g (some (wR s a)),by simp,D,I,m⟩
   ·simp only[qh]at m;have d:=d rfl;have q:=ck (Y:=zI Y1 0 (some (wR s a))) (id:=0) (Z:=Z) (by simp) hs d.1;obtain⟨x,b,F⟩:∃x b,Jm s zN a=(x,b):=⟨_,_,rfl⟩;rw[F]at q m d;simp only at q m d;rw[yx]at q;obtain⟨Y2,U,O2,f2⟩:=Bc (z.put g (some (wR s b))) x (by omega);have b2:Y2 0=some (wR s b):=by rw[f2 0 t g];simp
    simp only[wW]at U q;refine Wp.of A ?_;simp[f,u,q,U,zy,zR,zw];obtain⟨r1,r2,r3,r4,r5,r6,r7⟩:=d;have J:=J r5;have w:kz (l++[x])<=s.length+2/\(b.e=0->kz (l++[x])<=b.p+1):=by
     rw[cj];by_cases y:b.e=0
     ·have:=r6 y;exact⟨by omega,fun _=>by omega⟩
     ·have:=r7 y;exact⟨by omega,fun h=>absurd h y⟩
    exact⟨Ws s b,by omega,by simp[f],by simp only;omega,l++[x],b,j,by simpa using O2,b2,r2,rfl,by omega,by simp,by simp;omega,w.1,w.2,m⟩
  ·rintro e ⟨σ2,Y2,Xm⟩ ⟨rfl,f,t,l,Q,z,v,D,I,rfl⟩;simp only at f t z v;simp only[w5];have g:=wX z v rfl;obtain⟨hp3,W,O3,f3⟩:=Ei (by omega) z;have E:hp3 0=some (wR s Q):=by rw[f3 0 g];exact v
   have hsl:1<=(vL l).length:=by rw[(xT l).2.1.length_eq];exact D
   rcases O3 with⟨_,e⟩|⟨id,hid,R,hh⟩
   ·have:(vL l).length=0:=by simpa using jy List.length e
    omega
   rw[wx]at R;rw[R]at W g;have L:id≠0:=fun e=>g _ (by rw[e])
   obtain⟨x,hp4,M,c1,rfl,k,es,rfl,rfl,c2,c3⟩:=Ug (l:=vL l) (by rw[Ba (xT l).2.1];omega) hid hh;have c0:cptS [.own id 0 (vL l).length,.fn (.func 227) [] []] hp3 M=some (.own id 0 k,zI hp3 id (some (Vy es)),M):=by rw[<-c1];exact zl (by simp[f226])
   refine Wp.of A ?_;simp[f,R,W,c0,f203];exact wc (r0:=.sl 5 (es.take k)) (Y2:=zI (zI hp3 id (some (Vy es))) id none) (by simp[AM.freeze,z7,qn,c3]) (by rw[zc _ _ _ _ (Ne.symm L),zc _ _ _ _ (Ne.symm L)];exact E) .id (by rw[c2];rfl)
def dP(v:za):Nat->List za->Int
 |_,[]=>-1
 |k,s::l=>if v=s then k else dP v (k+1) l
noncomputable def FTS (out:List za->za->O):zb->Option O:=qt (α:=List za×za) (fun a=>[.sl 1 (zA a.1),str a.2]) (fun a=>a.1.length<=zD) (fun a=>out a.1 a.2)
theorem zdl:∀a b:List za×za,[O.sl 1 (zA a.1),str a.2]=[O.sl 1 (zA b.1),str b.2]->a=b:=by rintro⟨f,g⟩ ⟨h,i⟩ e;simp only[zi,zF]at e;obtain⟨c,d⟩:=e;injection c with _ c;rw[kC c,wT d]
theorem OS(out:List za->za->O)(l:List za)(v:za)(Y:Hp)(Z:Nat)(h:l.length<=zD):yS false [1] (FTS out) [.sl 1 (zA l),str v] Y Z=some (out l v,Y,Z):=
 wL rfl (qj (V:=fun a:List za×za=>[O.sl 1 (zA a.1),str a.2]) (a:=(l,v)) zdl h) (.inr rfl)
theorem Io(l:List za)(v:za)(h:l.length<=zD):zH C0 f201 [.sl 1 (zA l),str v]=some (int (dP v 0 l)):=by
 refine zs rfl ?_;unfold zD at h;have b:(zA l).length=l.length:=by simp[zA]
 simp[b];refine qu (fun k σ Y Z=>σ 0=.sl 1 (zA l)/\σ 1=str v/\σ 7=int l.length/\σ 8=int k/\dP v 0 l=dP v k (l.drop k)) l.length ⟨by simp,by simp,by simp,by simp,by simp⟩ ?_;rintro k σ Y Z p ⟨i,j,m,n,a⟩;by_cases c:k<l.length
 ·obtain⟨s,hs⟩:=yb (l[k]);have o:=q8 k;have e:∀h:k<(zA l).length,(zA l)[k]=[str s]:=fun h=>by simp[zA,hs]
  have f:k<(zA l).length:=by omega
  rw[zg c,hs]at a;simp only[dP]at a;by_cases g:v=s
  ·rw[zl g]at a;have d:(v==s)=true:=by simpa using g
   simp[i,j,m,n,c,b,f,e,d,a,f201]
  ·rw[zj g]at a;have d:=QA g;simp[i,j,m,n,c,b,f,e,d,o];exact⟨by omega,a⟩
 ·obtain rfl:k=l.length:=by omega
  rw[zp]at a;simp only[dP]at a;simp[i,j,m,n,a,f201]
theorem Ep:zh prog 201 (yS false [1] (FTS fun l v=>int (dP v 0 l))):=
 Z3 ku func201 false [1] fun⟨l,v⟩ a=>⟨by simp[f201],_,Io l v a,qP _⟩
theorem Bq(v:za):∀(l:List za) (k:Nat),dP v k l=if v∈l then((k+l.idxOf v:Nat):Int)else -1
 |[],k=>by simp[dP]
 |s::l,k=>by
  rw[dP,Bq v l (k+1)];by_cases h:v=s
  ·simp[h]
  ·have a:¬s=v:=fun e=>h e.symm
   rw[zj h];simp only[zx,h,false_or];split
   ·have b:=QA a;rw[List.idxOf_cons,b];simp only[cond_false];omega
   ·rfl
theorem OT(w:za):dP w 0 VC=sz w:=by rw[Bq,sz];simp
theorem FQ(w:za):-1<=sz w/\sz w<=12:=by
 unfold sz;split
 ·rename_i h;have:=List.idxOf_lt_length_of_mem h;have a:VC.length=13:=rfl;omega
 ·omega
noncomputable abbrev Cte:Ctx:=qf prog [(179,TU),(75,hP FSg),(200,sJ),(201,yS false [1] (FTS fun l v=>int (dP v 0 l))),(149,A7),(180,Ot),(73,hP (Cb vE)),(108,hP (Cb Q0)),(148,A6),(202,Uc),(203,vsPS)]
theorem zdm:AM.Good Cte (fun g=>[75,201,73,108].contains g):=qI mixed ⟨px,by simp,eB,fun _=>zq _ _,Jr,by simp,Ep,fun _=>zq _ _,WO,by simp,dM,by simp,YE,fun _=>zq _ _,Va,fun _=>zq _ _,V7,by simp,pD,by simp,Im,by simp,trivial⟩
noncomputable abbrev tePS:AM.Spec:=mP aU (fun _ _ _=>True) (fun s st _=>(tt s zN xa st).2) (fun s st _=>.agg (tt s zN xa st).1.V)
theorem OU{s:za}{st:Pst}{Y:Hp}{id Z:Nat}(a:Y id=some (wR s st))(hs:s.length<=20000)(Y':st.p<=s.length):tePS [.ref id 0 0] Y Z=some (.agg (tt s zN xa st).1.V,zI Y id (some (wR s (tt s zN xa st).2)),Z):=xS v8 (fun _=>rfl) () a hs Y' trivial
abbrev uC:O->O:=HX [fun x=>x,fun x=>x,fun x=>x,Rx 5,fun x=>x,fun x=>x,Rx 7]
theorem YJ:aO uC:=.agg fun u a=>by
 simp only[zx,wu,or_false]at a;rcases a with rfl|rfl|rfl|rfl|rfl|rfl|rfl
 ·exact .id
 ·exact .id
 ·exact .id
 ·exact .nz 5
 ·exact .id
 ·exact .id
 ·exact .nz 7
abbrev Yh(cs:zb):Blk:=⟨54,7,false,[cs]⟩
def ZJ:zb:=[int 0,str [],int 0,.nil,str [],str [],.nil]
theorem zgC(a b c d e:O):vS prog 112 2 (.agg [a,b,c,d,e])=some c:=by simp[vS]
theorem Ip:zh prog 181 tePS:=
 yU (code:=_) zdm ⟨func181,by kernel_rfl,rfl,by kernel_rfl⟩ TP _ fun cs az cs' r h=>by
  obtain⟨s,st,⟨⟩,rfl,rfl,hs,Y,hk,rfl,rfl⟩:=kU h;refine⟨by simp[aU,f181],?_⟩;clear h;have y:=sK (s:=s) Y;obtain⟨a,q,Q⟩:∃a q,fx s st=(a,q):=⟨_,_,rfl⟩;rw[Q]at y;simp only at y;have z:=vq (s:=s) y.2.1;obtain⟨w,hw⟩:=yb (KH s q);obtain⟨D,R⟩:=yb (kK s q);rw[R]at z;obtain⟨o,S⟩:=yb (sz w);have T:=FQ w;rw[S]at T;simp only[tt];simp only[Q,hw,R,S];refine q9 (fun σ Y Z=>σ 0=.ref 0 0 0/\σ 2=.ref 1 0 0/\Y 0=some (wR s st)/\Y 1=some (Yh ZJ)/\Z=2) (by simp[aU,wF,qe,zX,ZJ,zc]) ?_;rintro σ Y1 _ ⟨b,d,j,f,rfl⟩;have m:=mu (Z:=2) j hs Y;rw[Q]at m;refine q9 (fun σ Y Z=>σ 0=.ref 0 0 0/\σ 2=.ref 1 0 0/\σ 3=.ref 2 0 0/\Y 0=some (wR s q)/\Y 1=some (Yh ZJ)/\Y 2=some (Yh [int 4,str a,int 0,.nil,str [],str [],.nil])/\Z=3) (by simp[b,d,m,f,zc,qi,qJ]) ?_;clear b d j f m σ Y1;rintro σ Y1 _ ⟨b,d,g,j,f,k,rfl⟩;have m:=Yf (Z:=3) j hs y.2.1;rw[hw,R]at m;have U:=fun Y Z=>OS (fun l v=>int (dP v 0 l)) VC w Y Z (by decide)
  simp only[OT,S]at U;have W:=Ad;refine q9 (fun σ Y Z=>σ 0=.ref 0 0 0/\σ 2=.ref 1 0 0/\σ 3=.ref 2 0 0/\Y 0=some (wR s D)/\Y 1=some (Yh ZJ)/\Y 2=some (Yh [int 4,str a,int o,.nil,str [],str [],.nil])/\Z=3) ?_ ?_
  ·simp[b,d,g,m,U,W,f,k,zc]
  clear b d g j f k m U σ Y1;rintro σ Y1 _ ⟨b,d,g,j,f,k,rfl⟩;have n:=j;have t:=f;simp only[ZJ]at t;simp only[qe,zX,ze,zf,zu,Nat.reduceAdd]at n;by_cases I:D.e=0
  case neg=>rw[zl I];simp[b,d,g,n,t,k,I,ZR I,bne,zc,f181];exact wc rfl (by simp[zc,n,qe,zX]) YJ (by simp[qH];rfl)
  rw[zj (by simpa using I)];by_cases A:o<2
  ·rw[zl A];have J:=Yg (Z:=3) j hs z.2.1;simp only[qe,zX,ze,zf,zu,Nat.reduceAdd]at J;simp[b,d,g,n,t,k,I,A,J,zc,f181];exact wc rfl (by simp[zc,qe,zX]) YJ (by simp[qH];rfl)
  rw[zj A];refine q9 (fun σ' Y Z=>σ' 0=.ref 0 0 0/\σ' 2=.ref 1 0 0/\σ' 3=.ref 2 0 0/\Y=Y1/\Z=3) (by simp[b,d,g,n,t,k,I,A]) ?_;clear b d g n t σ;rintro σ Y1 _ ⟨b,d,g,rfl,rfl⟩;obtain⟨u,rfl⟩:∃u:Nat,o=u:=⟨o.toNat,by omega⟩;have K:=Fh u (by omega);have X:=Js (Z:=3) (ak u) j hs z.2.1;have x:=ZI (s:=s) (ak u) z.2.1;obtain⟨E,L⟩:=yb (Xi s D (ak u));rw[L]at X x;rw[L];have u1:u<13:=by omega
  refine q9 (fun σ' Y Z=>σ' 0=.ref 0 0 0/\σ' 2=.ref 1 0 0/\σ' 3=.ref 2 0 0/\Y 0=some (wR s E)/\Y 1=some (Yh ZJ)/\Y 2=some (Yh [int 4,str a,int u,.nil,str [],str [],.nil])/\Z=3) ?_ ?_
  ·simp[b,d,g,k,f,W,K,X,zc]
  clear b d g j f k X W K σ;rintro σ Y1 _ ⟨b,d,g,j,f,k,rfl⟩;simp only[ZJ]at f;cases M:vE u
  case true=>
   simp only[qh];have m:=ca (Z:=3) j hs x.2.1;have F:=vq (s:=s) x.2.1;obtain⟨i,N⟩:=yb (kK s E);rw[N]at m F;rw[N];simp only[qe,zX,ze,zf,zu,Nat.reduceAdd]at m;have P:zI Y1 0 (some (wR s i)) 0=some (wR s i):=by simp
   have J:=Yg (Z:=3) P hs F.2.1;have C:=ck (Z:=3) P hs F.2.1;simp only[qe,zX,ze,zf,zu,Nat.reduceAdd,yx,wW]at J C;by_cases G:i.p<s.length
   case neg=>
    rw[zj (by rw[qY (by omega)];simp)];have B:(s.length:Int)<=i.p:=by omega
    simp[b,d,g,k,f,M,m,B,J,zc,f181];exact wc rfl (by simp[zc,qe,zX]) YJ (by simp[qH];rfl)
   have B:¬(s.length:Int)<=i.p:=by omega
   obtain⟨c,H⟩:=yb (s[i.p]);have BO:s[i.p]?=some c:=by rw[<-H];exact zm G
   rw[BO];by_cases hq:c=34
   ·subst hq;simp only[qh];simp[b,d,g,k,f,M,m,B,G,H,C,zgC,zc,f181];exact wc rfl (by simp[zc,qe,zX]) YJ (by simp[qH];rfl)
   ·have hq':((c.toNat:Int)==34)=false:=nf 34 hq;rw[zj (by simpa using hq)];simp[b,d,g,k,f,M,m,B,G,H,hq',bne,J,zc,f181];exact wc rfl (by simp[zc,qe,zX]) YJ (by simp[qH];rfl)
  simp only[zv,qz];cases hi:Q0 u
  case true=>simp only[qh];have C:=ck (Z:=3) j hs x.2.1;simp only[qe,zX,ze,zf,zu,Nat.reduceAdd,wW]at C;simp[b,d,g,k,f,M,hi,C,zc,zy,zR,zw,f181];exact wc (r0:=.agg [int 4,str a,int u,.sl 5 [(Jm s zN E).1.V],str [],str [],.nil]) (by simp[AM.freeze,z7,qm,qn,zc,wW];rfl) (by simp[zc,qe,zX]) YJ (by simp[qH];rfl)
  simp only[zv,qz];have C:=OR (Z:=3) j hs x.2.1;simp only[qe,zX,ze,zf,zu,Nat.reduceAdd]at C;simp[b,d,g,k,f,M,hi,C,zc,f181];exact wc rfl (by simp[zc,qe,zX]) YJ (by simp[qH];rfl)
theorem Ui(t:za):((t.drop (t.takeWhile (·==32)).length).takeWhile (·==32))=[]:=by
 induction t with
 |nil=>rfl
 |cons c t a=>
  rw[xI];split
  ·simpa using a
  ·rename_i b;simp[List.takeWhile,b]
theorem Iq(s:za)(st:Pst):kK s (kK s st)=kK s st:=by have:=Ui (s.drop st.p);rw[List.drop_drop]at this;simp only[kK,Pst.mv];rw[this];rfl
theorem zdn(s:za)(st:Pst):KH s (kK s st)=KH s st:=by rw[KH,Iq,<-KH]
theorem OV(l:List Cnd)(x:Cnd):Wm (l++[x])=Wm l+x.cb:=by
 induction l with
 |nil=>simp[Wm]
 |cons y l a=>simp only[qC,Wm,a];omega
section
variable{s:za}
theorem OW{st:Pst}{w:za}(h:st.p<=s.length)(b:(Xi s st w).e=0):KH s st=w:=by
 unfold Xi at b;split at b
 ·rename_i a;unfold vG at a;split at a
  ·cases a
  ·split at a
   ·assumption
   ·cases a
 ·exact absurd b (Vv (kN w h).2.1).2.2.2
theorem sO{st:Pst}(h:st.p<=s.length):(AJ s st).p<=s.length/\(AJ s st).d=st.d+1/\((AJ s st).e=0->st.e=0/\st.d<100/\st.p+1<=(AJ s st).p):=by
 have b:=vq (s:=s) h;simp only[AJ,Pst.dn];by_cases c:st.e=0
 ·simp only[zl c];by_cases f:KH s st=[40]/\100<=st.d
  ·simp only[zl f];have g:=YI (kK s st) 0 2;have a:=ZI (s:=s) (st:=(kK s st).fail 0 2) [40] (by rw[g.1];exact b.2.1);refine⟨a.2.1,by rw[a.2.2.1,g.2,b.2.2.2.2],fun e=>?_⟩;have:=(a.2.2.2 e).1;unfold Pst.fail at this;rw[zl (b.2.2.1.trans c)]at this;simp at this
  ·simp only[zj f];have a:=ZI (s:=s) (st:=kK s st) [40] b.2.1;refine⟨a.2.1,by rw[a.2.2.1,b.2.2.2.2],fun e=>?_⟩;have i:=OW b.2.1 e;rw[zdn]at i;have j:=(a.2.2.2 e).2;simp only[ze,zf]at j;exact⟨c,Nat.lt_of_not_le fun hd=>f ⟨i,hd⟩,by omega⟩
 ·simp only[zj c];have a:=ZI (s:=s) [40] h;exact⟨a.2.1,by rw[a.2.2.1],fun e=>absurd (a.2.2.2 e).1 c⟩
def Uj(s:za)(st:Pst)(r:Cnd×Pst):Prop:=r.2.p<=s.length/\r.2.d=st.d/\(r.2.e=0->st.e=0/\st.p<=r.2.p/\r.1.cb<=r.2.p-st.p+1)
theorem OX{f:Pst->Cnd×Pst}(b:∀st,st.p<=s.length->Uj s st (f st)):∀(k:Nat) (l:List Cnd) (st:Pst),st.p<=s.length->(Cj s f k l st).2.p<=s.length/\(Cj s f k l st).2.d=st.d/\((Cj s f k l st).2.e=0->st.e=0/\st.p<=(Cj s f k l st).2.p/\Wm (Cj s f k l st).1<=Wm l+((Cj s f k l st).2.p-st.p))
 | 0,l,st,h=>by simp only[Cj];exact⟨h,trivial,fun e=>⟨e,zk _,by omega⟩⟩
 |k+1,l,st,h=>by
  have a:=kN (s:=s) [44] h;rw[Cj];split
  ·rename_i i;have c:=a.2.2.2.2 i;simp only[ze,zf]at c;obtain⟨j,m,n⟩:=b _ a.2.1;obtain⟨o,q,r⟩:=OX b k (l++[(f (vG s st [44]).2).1]) _ j;refine⟨o,by rw[q,m,a.2.2.2.1],fun e=>?_⟩;have g:=r e;have t:=n g.1;rw[OV]at g;exact⟨c.1,by omega,by omega⟩
  ·exact⟨a.2.1,a.2.2.2.1,fun e=>⟨by rw[<-a.2.2.1];exact e,a.1,by simp only;omega⟩⟩
theorem OY{f:Pst->Cnd×Pst}(j:∀st,st.p<=s.length->Uj s st (f st)){st:Pst}(h:st.p<=s.length):(lV s f st).2.p<=s.length/\(lV s f st).2.d=st.d/\((lV s f st).2.e=0->st.e=0/\st.p+2<=(lV s f st).2.p/\Wm (lV s f st).1<=(lV s f st).2.p-st.p):=by
 have b:=sO (s:=s) h;have c:=vq (s:=s) b.1;simp only[lV,Pst.up];by_cases g:(AJ s st).e=0
 ·simp only[zl g];have k:=b.2.2 g;split
  ·have a:=ZI (s:=s) [41] c.2.1;refine⟨a.2.1,by rw[a.2.2.1,c.2.2.2.2,b.2.1];omega,fun e=>?_⟩;have i:=(a.2.2.2 e).2;simp only[ze,zf]at i;exact⟨k.1,by simp only;omega,by simp only[Wm];omega⟩
  ·obtain⟨m,n,o⟩:=j _ c.2.1;obtain⟨q,r,t⟩:=OX j (s.length+1) [(f (kK s (AJ s st))).1] _ m;have a:=ZI (s:=s) [41] q;refine⟨a.2.1,by rw[a.2.2.1,r,n,c.2.2.2.2,b.2.1];omega,fun e=>?_⟩;have i:=a.2.2.2 e;simp only[ze,zf]at i;have l:=t i.1;have u:=o l.1;simp only[Wm]at l;exact⟨k.1,by omega,by omega⟩
 ·simp only[zj g];have a:=ZI (s:=s) [41] b.1;exact⟨a.2.1,by rw[a.2.2.1,b.2.1];omega,fun e=>absurd (a.2.2.2 e).1 g⟩
theorem zdo{f:Pst->Cnd×Pst}(g:∀st,st.p<=s.length->Uj s st (f st)){st:Pst}(h:st.p<=s.length):(tv s f st).2.p<=s.length/\(tv s f st).2.d=st.d/\((tv s f st).2.e=0->st.e=0/\st.p+2<=(tv s f st).2.p/\Wm (tv s f st).1<=(tv s f st).2.p-st.p):=by have a:=sO (s:=s) h;simp only[tv,Pst.up];obtain⟨i,j,k⟩:=g _ a.1;have b:=ZI (s:=s) [41] i;refine⟨b.2.1,by rw[b.2.2.1,j,a.2.1];omega,fun e=>?_⟩;have c:=b.2.2.2 e;simp only[ze,zf]at c;have l:=k c.1;have m:=a.2.2 l.1;simp only[Wm];exact⟨m.1,by omega,by omega⟩
theorem OZ:∀(k:Nat) (l:List Val) (st:Pst),st.p<=s.length->(AG s zN k l st).2.p<=s.length/\(AG s zN k l st).2.d=st.d/\((AG s zN k l st).2.e=0->st.e=0/\st.p<=(AG s zN k l st).2.p/\kz (AG s zN k l st).1<=kz l+((AG s zN k l st).2.p-st.p))
 | 0,l,st,h=>by simp only[AG];exact⟨h,trivial,fun e=>⟨e,zk _,by omega⟩⟩
 |k+1,l,st,h=>by
  have a:=kN (s:=s) [124] h;rw[AG];split
  ·rename_i c;obtain⟨_,f,_,g,i,j,_⟩:=Bp h c;obtain⟨m,n,o⟩:=OZ k (l++[(Jm s zN (vG s st [124]).2).1]) _ f;refine⟨m,by rw[n,g],fun e=>?_⟩;have b:=o e;have q:=j b.1;rw[cj]at b;exact⟨i,by omega,by omega⟩
  ·exact⟨a.2.1,a.2.2.2.1,fun e=>⟨by rw[<-a.2.2.1];exact e,a.1,by simp only;omega⟩⟩
theorem zdp{st:Pst}(h:st.p<=s.length):(AH s zN xa st).2.p<=s.length/\(AH s zN xa st).2.d=st.d/\((AH s zN xa st).2.e=0->st.e=0/\st.p<=(AH s zN xa st).2.p/\kz (AH s zN xa st).1<=(AH s zN xa st).2.p-st.p+1):=by
 have a:=kN (s:=s) [110,101,118,101,114] h;simp only[AH];split
 ·exact⟨a.2.1,a.2.2.2.1,fun e=>⟨by rw[<-a.2.2.1];exact e,a.1,by simp only[kz];omega⟩⟩
 ·have b:=mE (s:=s) a.2.1;obtain⟨f,g,i⟩:=OZ (s:=s) (s.length+1) [(Jm s zN (vG s st [110,101,118,101,114]).2).1] _ b.1;refine⟨f,by rw[g,b.2.1,a.2.2.2.1],fun e=>?_⟩;have c:=i e;have j:=b.2.2.1 c.1;have k:=OQ (AG s zN (s.length+1) [(Jm s zN (vG s st [110,101,118,101,114]).2).1] (Jm s zN (vG s st [110,101,118,101,114]).2).2).1;simp only[kz]at c;simp only[xa]at k⊢;exact⟨by rw[<-a.2.2.1];exact j.1,by omega,by omega⟩
theorem Uk(o:Int)(a:2<=o)(b:o<=12):1<=(ak o).length:=by rcases(by omega:o=2\/o=3\/o=4\/o=5\/o=6\/o=7\/o=8\/o=9\/o=10\/o=11\/o=12)with rfl|rfl|rfl|rfl|rfl|rfl|rfl|rfl|rfl|rfl|rfl<;>decide
theorem zdq{st:Pst}(h:st.p<=s.length):(tt s zN xa st).2.p<=s.length/\(tt s zN xa st).2.d=st.d/\((tt s zN xa st).2.e=0->st.p<=(tt s zN xa st).2.p/\(tt s zN xa st).1.cb<=(tt s zN xa st).2.p-st.p+1):=by
 have g:=sK (s:=s) h;obtain⟨a,b,q⟩:∃a b,fx s st=(a,b):=⟨_,_,rfl⟩;have i:=vq (s:=s) (st:=b) (by rw[q]at g;exact g.2.1);have r:=FQ (KH s b);simp only[tt];rw[q]at g;simp only[q];simp only at g;obtain⟨j,k⟩:=yb (kK s b);obtain⟨o,w⟩:=yb (sz (KH s b));rw[w]at r;rw[k]at i;simp only[k,w];have hd:j.d=st.d:=i.2.2.2.2.trans g.2.2.1;have t:=Vv (s:=s) i.2.1;split
 ·rename_i y;exact⟨i.2.1,hd,fun e=>absurd e y⟩
 split
 ·exact⟨t.2.1,t.2.2.1.trans hd,fun e=>absurd e t.2.2.2⟩
 rename_i z;have c:=ZI (s:=s) (ak o) i.2.1;have A:=Uk o (by omega) (by omega);obtain⟨u,l⟩:=yb (Xi s j (ak o));rw[l]at c;simp only[l];split
 ·have m:=vq (s:=s) c.2.1;have f:=mE (s:=s) m.2.1;have v:=Vv (s:=s) m.2.1;split
  ·refine⟨f.1,by rw[f.2.1,m.2.2.2.2,c.2.2.1,hd],fun e=>?_⟩;have n:=f.2.2.1 e;have x:=c.2.2.2 (by rw[<-m.2.2.1];exact n.1);have B:=ZN (Jm s zN (kK s u)).1;rw[Wr];simp only[Cnd.attr,Cnd.jd,Cnd.pat,Cnd.name,Cnd.args,kz,Wm,zf];exact⟨by omega,by omega⟩
  ·exact⟨v.2.1,by rw[v.2.2.1,m.2.2.2.2,c.2.2.1,hd],fun e=>absurd e v.2.2.2⟩
 split
 ·have f:=mE (s:=s) c.2.1;refine⟨f.1,by rw[f.2.1,c.2.2.1,hd],fun e=>?_⟩;have n:=f.2.2.1 e;have x:=c.2.2.2 n.1;rw[Wr];simp only[Cnd.attr,Cnd.jd,Cnd.pat,Cnd.name,Cnd.args,kz,Wm,zf];exact⟨by omega,by omega⟩
 ·have f:=zdp (s:=s) c.2.1;refine⟨f.1,by rw[f.2.1,c.2.2.1,hd],fun e=>?_⟩;have n:=f.2.2 e;have x:=c.2.2.2 n.1;rw[Wr];simp only[Cnd.attr,Cnd.jd,Cnd.pat,Cnd.name,Cnd.args,Wm,zf];exact⟨by omega,by omega⟩
theorem mG:∀(k:Nat) (st:Pst),st.p<=s.length->Uj s st (dH s zN xa k st)
 | 0,st,h=>by refine⟨h,rfl,fun e=>⟨e,zk _,?_⟩⟩;rw[Wr];simp[dH,zC,Cnd.attr,Cnd.jd,Cnd.pat,Cnd.name,Cnd.args,kz,Wm]
 |k+1,st,h=>by
  have t:=mG k;have a:=kN (s:=s) [97,108,108] h;have b:=kN (s:=s) [97,110,121] a.2.1;have c:=kN (s:=s) [110,111,116] b.2.1;have d:=kN (s:=s) [105,110] c.2.1;have f:=kN (s:=s) [104,97,115] d.2.1;have g:=kN (s:=s) [46] f.2.1;rw[dH];simp only;obtain⟨D,u,K⟩:∃D u,vG s st [97,108,108]=(D,u):=⟨_,_,rfl⟩;simp only[K]at a b c d f g⊢;obtain⟨E,v,L⟩:∃E v,vG s u [97,110,121]=(E,v):=⟨_,_,rfl⟩;simp only[L]at b c d f g⊢;obtain⟨F,z,M⟩:∃F z,vG s v [110,111,116]=(F,z):=⟨_,_,rfl⟩;simp only[M]at c d f g⊢;obtain⟨G,A,N⟩:∃G A,vG s z [105,110]=(G,A):=⟨_,_,rfl⟩;simp only[N]at d f g⊢;obtain⟨H,B,P⟩:∃H B,vG s A [104,97,115]=(H,B):=⟨_,_,rfl⟩;simp only[P]at f g⊢;obtain⟨I,J,Q⟩:∃I J,vG s B [46]=(I,J):=⟨_,_,rfl⟩;simp only[Q]at g⊢;simp only[ze,zf]at a b c d f g;have C:∀(x:Int) (l:List Cnd),(Cnd.mk x [] 0 [] [] [] l).cb=1+Wm l:=fun x l=>by rw[Wr];simp[Cnd.attr,Cnd.jd,Cnd.pat,Cnd.name,Cnd.args,kz]
  split
  ·rename_i n;have y:=a.2.2.2.2 n;obtain⟨o,q,r⟩:=OY t a.2.1;refine⟨o,q.trans a.2.2.2.1,fun e=>?_⟩;have j:=r e;simp only at j⊢;rw[C];exact⟨y.1,by omega,by omega⟩
  split
  ·rename_i n;have y:=b.2.2.2.2 n;obtain⟨o,q,r⟩:=OY t b.2.1;refine⟨o,by rw[show _=_ from q,b.2.2.2.1,a.2.2.2.1],fun e=>?_⟩;have j:=r e;simp only at j⊢;rw[C];exact⟨by rw[<-a.2.2.1];exact y.1,by omega,by omega⟩
  split
  ·rename_i n;have y:=c.2.2.2.2 n;obtain⟨o,q,r⟩:=zdo t c.2.1;refine⟨o,by rw[show _=_ from q,c.2.2.2.1,b.2.2.2.1,a.2.2.2.1],fun e=>?_⟩;have j:=r e;simp only at j⊢;rw[C];exact⟨by rw[<-a.2.2.1,<-b.2.2.1];exact y.1,by omega,by omega⟩
  split
  ·rename_i n;have y:=d.2.2.2.2 n;have i:=sK (s:=s) d.2.1;refine⟨i.2.1,by rw[show _=_ from i.2.2.1,d.2.2.2.1,c.2.2.2.1,b.2.2.2.1,a.2.2.2.1],fun e=>?_⟩;rw[Wr];simp only[Cnd.attr,Cnd.jd,Cnd.pat,Cnd.name,Cnd.args,kz,Wm,zf];exact⟨by rw[<-a.2.2.1,<-b.2.2.1,<-c.2.2.1];exact y.1,by omega,by omega⟩
  split
  ·rename_i n;have y:=f.2.2.2.2 n;have m:=ZI (s:=s) [46] f.2.1;have i:=sK (s:=s) m.2.1;refine⟨i.2.1,by rw[show _=_ from i.2.2.1,m.2.2.1,f.2.2.2.1,d.2.2.2.1,c.2.2.2.1,b.2.2.2.1,a.2.2.2.1],fun e=>?_⟩;rw[Wr];simp only[Cnd.attr,Cnd.jd,Cnd.pat,Cnd.name,Cnd.args,kz,Wm,zf];exact⟨by rw[<-a.2.2.1,<-b.2.2.1,<-c.2.2.1,<-d.2.2.1];exact y.1,by omega,by omega⟩
  split
  ·rename_i n;have y:=g.2.2.2.2 n;obtain⟨o,q,r⟩:=zdq g.2.1;refine⟨o,by rw[q,g.2.2.2.1,f.2.2.2.1,d.2.2.2.1,c.2.2.2.1,b.2.2.2.1,a.2.2.2.1],fun e=>?_⟩;have j:=r e;exact⟨by rw[<-a.2.2.1,<-b.2.2.1,<-c.2.2.1,<-d.2.2.1,<-f.2.2.1];exact y.1,by omega,by omega⟩
  ·have w:=Vv (s:=s) g.2.1;exact⟨w.2.1,by rw[show _=_ from w.2.2.1,g.2.2.2.1,f.2.2.2.1,d.2.2.2.1,c.2.2.2.1,b.2.2.2.1,a.2.2.2.1],fun e=>absurd e w.2.2.2⟩
end
end Go.Q
