/- Lemmas. -/
import Derived.Laws.CopyRow
import Derived.Lib.Overlaps
import Derived.Lib.AppendZerosOnto
import Derived.Laws.NewBlocks
import Derived.Shelf.Spec.SlicesInsert
import Derived.Lib.TrimByte
import Derived.Test.YtcebnehlnlcckaaGreatDoorG10
set_option maxRecDepth 100000
set_option maxHeartbeats 4000000
open Go Proofs Proofs.YtcebnehlnlcckaaGreatDoor Proofs.Tryz RowKit AM SpanLaw Q Zz
open Go.IntKind renaming i64→i6
namespace Go.Q
noncomputable def WE (o:za) (v:yf) (m:Int):O:=.wP [.sl 11 (qa (aR o (v.part m)).1),int (if(aR o (v.part m)).2=true then 0 else 1)]
noncomputable def Sy:zb->Option O:=qf (α:=za×yf×Int) (fun a=>[str a.1,.agg a.2.1.V,int a.2.2]) (fun a=>nB a.1/\a.2.1.ok/\1<=a.2.2/\a.2.2<=3) (fun a=>WE a.1 a.2.1 a.2.2)
theorem Iq(o:za)(v:yf)(m:Int)(Y:Hp)(Z:Nat)(c:nB o)(d:v.ok)(f:1<=m/\m<=3):qy [.a,.g va] Sy [str o,.agg v.V,int m] Y Z=some (WE o v m,Y,Z):=
 vK (show zD Y [str o,.agg v.V,int m]=some ([str o,.agg v.V,int m],Y) by simp[yf.V]) (by
  show Sy [str o,(Sh.g va).fix (.agg v.V),int m]=_;rw[JK];exact qM (V:=fun a:List UInt8×yf×Int=>[str a.1,O.agg a.2.1.V,int a.2.2]) (a:=(o,v,m)) (fun x y e=>by obtain⟨j,k,l⟩:=x;obtain⟨n,p,q⟩:=y;simp only[zh,zA]at e;obtain⟨h,b,i⟩:=e;injection b with b;rw[wb h,Jq b,qI i]) ⟨c,d,f⟩) (.inr (by simp[yf.V]))
abbrev qst:List Nat:=[190,217,221,222]
noncomputable abbrev Crst:Ctx:=zR prog [(216,qy [.g va] (PG Q2 fun m=>1<=m/\m<=3)),(190,qy [] (Yf dH)),(217,qy [.g jK,.g jK] (Ac Kg)),(221,qy [.g va] (PG xY fun i=>0<=i/\i<3)),(222,qy [.g va] (PG xG fun m=>1<=m/\m<=3))]
theorem Sz:AM.Good Crst (fun g=>qst.contains g):=qq mixed ⟨cD,by simp,cC,fun _=>yY _ _,fw,fun _=>yY _ _,ab,fun _=>yY _ _,sM,fun _=>yY _ _,trivial⟩
theorem yf.ok.small{v:yf}(h:v.ok):vt v.pre:=h.2.2.2
theorem nC(o:za)(v:yf)(m:Int)(t:nB o)(H:v.ok)(S:1<=m/\m<=3):∃T,zo Crst f193 [str o,.agg v.V,int m]=some T/\qX T (WE o v m):=by
 refine yB (sh:=.s 11 jn) rfl ?_;have J:=H.small;have g:=fun Y Z=>VM Q2 (fun m=>1<=m/\m<=3) v m (.agg v.V) Y Z H S (JK v) (VN v Y) (VO v)
 have r:=fun Y Z=>VM xG (fun m=>1<=m/\m<=3) v m (.agg v.V) Y Z H S (JK v) (VN v Y) (VO v)
 have w:=fun(i:Int) (hi:0<=i/\i<3) Y Z=>VM xY (fun i=>0<=i/\i<3) v i (.agg v.V) Y Z H hi (JK v) (VN v Y) (VO v)
 have x:∀(Y:Hp) (Z:Nat),qy [] (Yf dH) [] Y Z=some (.agg [int qU.v.a,int qU.v.b,int qU.v.c,.sl 1 (zx qU.v.pre),wo qU.after],Y,Z):=fun Y Z=>QI _ Y Z
 have k:Zl (v.part m)=⟨v,false⟩:=rfl;have l:vt (v.part m).pre:=J;have C:=fun Y Z=>QY qU (Zl (v.part m)) Y Z sb (ZJ l)
 have y:=fun Y Z=>QY qU (vw (v.part m)) Y Z sb (QJ l)
 have z:=fun Y Z=>QY (Zl (v.part m)) (vw (v.part m)) Y Z (ZJ l) (QJ l)
 have A:=fun i Y Z=>QY (Zl (v.part m)) (jf (v.part m) i) Y Z (ZJ l) (Kh _ i)
 have D:=fun i=>fv v 3 m i
 simp only[Kg,k,yf.V,Cut.V,Q2,YH,xG,xY,ve,(D _).1,(D _).2]at g r w C y z A;have W:=wu (m-1);have E:(v.part m).has=m:=rfl;have F:∀o':za,o'=o->o'≠ji:=fun o' e=>by
  subst e;rcases t with rfl|t
  ·decide
  ·intro e;rw[e]at t;revert t;decide
 have K:o≠[45]:=by
  rcases t with rfl|t
  ·decide
  ·intro e;rw[e]at t;revert t;decide
 have n0:=F o rfl;have one:∀(X:List q8) (b:Bool),vB (Jv o (v.part m))=(X,b)->aR o (v.part m)=if b=true then(X,true)else([],false):=fun X b h=>by unfold aR;rw[h]
 by_cases L:o=[62,61]
 ·subst L;have d:=one [wZ (Zl (v.part m))] true (by simp[vB,Jv,ji]);simp at d;simp[yf.V,Cut.V,g,qb,qE,zr,zJ,zp,qi,WE,d,k,qa,wZ,q8.V,Qt,f193]
 have n:=jD L;by_cases M:o=[60]
 ·subst M;have d:=one (dG qU (Zl (v.part m))) true (by simp[vB,Jv,ji]);simp at d;simp[yf.V,Cut.V,g,x,C,n,qb,qE,zr,zJ,zp,qi,WE,d,k,qa,q8.V,f193]
 have q:=jD M;by_cases N:o=[62]
 ·subst N;have d:=one [wZ (vw (v.part m))] (Qa (v.part m)) (by simp[vB,Jv,ji]);cases j:Qa (v.part m)
  ·rw[j]at d g;simp at d;simp[yf.V,Cut.V,g,n,q,qb,qE,zr,zJ,zp,qi,WE,d,qa,f193]
  ·rw[j]at d g;simp at d;simp[yf.V,Cut.V,g,n,q,qb,qE,zr,zJ,zp,qi,WE,d,qa,wZ,q8.V,Qt,f193]
 have u:=jD N;by_cases P:o=[60,61]
 ·subst P;have d:=one (dG qU (vw (v.part m))) (Qa (v.part m)) (by simp[vB,Jv,ji]);cases j:Qa (v.part m)
  ·rw[j]at d g;simp at d;simp[yf.V,Cut.V,g,x,y,n,q,u,qb,qE,qi,WE,d,qa,f193]
  ·rw[j]at d g;simp at d;simp[yf.V,Cut.V,g,x,y,n,q,u,qb,qE,qi,WE,d,qa,q8.V,Cut.V,f193]
 have B:=jD P;by_cases Q:o=[126]
 ·subst Q;have d:=one (dG (Zl (v.part m)) (jf (v.part m) (min (m-1) 1).toNat)) (vD (v.part m) (min (m-1) 1).toNat) (by simp[vB,Jv,ji,E]);have G:(if 1<m-1 then 1 else m-1)=(((min (m-1) 1).toNat:Nat):Int):=by split<;>omega
  have hmn:(min (m-1) 1).toNat<3:=by omega
  have f:=w (((min (m-1) 1).toNat:Nat):Int) (by omega);simp only[Int.toNat_natCast]at f;rw[<-G]at f;obtain⟨i,hi⟩:=yx ((min (m-1) 1).toNat);rw[hi]at d f;have p:=fun Y Z=>A i Y Z
  cases j:vD (v.part m) i
  ·rw[j]at d f;simp at d;simp[yf.V,Cut.V,g,W,f,p,n,q,u,B,qb,qE,qi,WE,d,qa,f193]
  ·rw[j]at d f;simp at d;simp[yf.V,Cut.V,g,W,f,p,n,q,u,B,qb,qE,qi,WE,d,k,qa,q8.V,f193]
 have I:=jD Q;by_cases R:o=[94]
 ·subst R;have d:=one (dG (Zl (v.part m)) (jf (v.part m) (jF (v.part m)))) (vD (v.part m) (jF (v.part m))) (by simp[vB,Jv,ji]);have hci:=Hu (v.part m);have f:=w ((jF (v.part m):Nat):Int) (by omega);simp only[Int.toNat_natCast]at f;obtain⟨i,hi⟩:=yx (jF (v.part m));rw[hi]at d f r;have p:=fun Y Z=>A i Y Z
  cases j:vD (v.part m) i
  ·rw[j]at d f;simp at d;simp[yf.V,Cut.V,g,r,f,p,n,q,u,B,I,qb,qE,qi,WE,d,qa,f193]
  ·rw[j]at d f;simp at d;simp[yf.V,Cut.V,g,r,f,p,n,q,u,B,I,qb,qE,qi,WE,d,k,qa,q8.V,f193]
 have e7:=jD R;have d:=one (dG (Zl (v.part m)) (vw (v.part m))) (Qa (v.part m)) (by simp[vB,Jv,n0,L,M,N,P,K,Q,R]);cases j:Qa (v.part m)
 ·rw[j]at d g;simp at d;simp[yf.V,Cut.V,g,z,n,q,u,B,I,e7,qb,qE,qi,WE,d,qa,f193]
 ·rw[j]at d g;simp at d;simp[yf.V,Cut.V,g,z,n,q,u,B,I,e7,qb,qE,qi,WE,d,k,qa,q8.V,f193]
theorem mj:zf prog 193 (qy [.a,.g va] Sy):=
 wM (fn:=f193) Sz (qN func193) _ _ fun args r h=>by obtain⟨⟨o,v,m⟩,rfl,⟨b,c,d⟩,rfl⟩:=zN h;obtain⟨e,f,i⟩:=nC o v m b c d;exact⟨by simp[f193],e,f,i⟩
def QO(l:List ae):List zb:=l.map fun a=>[str a.1,str a.2]
def gp(s:za):List ae×Bool:=match jQ (yF s)with
 |some l=>(l,!l.isEmpty)
 |none=>([],false)
def nD(s:za):O:=.wP [.sl 2 (QO (gp s).1),wo (gp s).2]
noncomputable abbrev Crwo:Ctx:=zR prog [(212,zg false [] (Yc tbP fun _ b=>rS b)),(214,zg false [] (Ln Eo)),(213,zg false [] (Yc tlP fun _ b=>rS b)),(215,zg false [] (FSB ibP))]
theorem SA:Gd Crwo:=zS mixed ⟨uZ,gm,Yd,fU,trivial⟩
theorem pt(a:za)(Y:Hp)(Z:Nat)(h:a.length<=zw):zg false [] (Yc tlP fun _ b=>rS b) [str a,str [32]] Y Z=some (str (Lib.trimLeftB a 32),Y,Z):=xS _ _ a [32] Y Z h (by decide) ⟨32,rfl,by decide⟩ rfl
theorem Ir(a:za)(Y:Hp)(Z:Nat)(h:a.length<=zw):zg false [] (Yc tbP fun _ b=>rS b) [str a,str [32]] Y Z=some (str (Lib.trimB a 32),Y,Z):=xS _ _ a [32] Y Z h (by decide) ⟨32,rfl,by decide⟩ rfl
theorem N4:∀s:za,(Lib.indexByte s 32=((hd s).length:Int)/\(hd s).length<s.length)\/(Lib.indexByte s 32=-1/\hd s=s)
 |[]=>.inr ⟨rfl,rfl⟩
 |c::s=>by
  by_cases a:c=32
  ·subst a;exact .inl ⟨by simp[Lib.indexByte,hd],by simp[hd]⟩
  ·have b:hd (c::s)=c::hd s:=by simp[hd,a]
   rcases N4 s with⟨d,e⟩|⟨d,e⟩
   ·refine .inl ⟨?_,by rw[b];simpa using e⟩;rw[b];have:¬Lib.indexByte s 32=-1:=by omega
    simp[Lib.indexByte,a,d]
    try omega
   ·refine .inr ⟨?_,by rw[b,e]⟩;simp[Lib.indexByte,a,d]
theorem SB(s:za):s.take (hd s).length=hd s/\s.drop (hd s).length=tl s:=by have h:=fx s;exact⟨(List.prefix_iff_eq_take.1 ⟨tl s,h⟩).symm,by have:=zt (List.drop (hd s).length) h;simpa using this.symm⟩
def Is:O->Nat
 | .v (.string s)=>s.size
 |_=>0
theorem ml(l:List ae):(QO l).length=l.length:=by simp[QO]
theorem N5(l:List ae):(QO l).map (Qq [none,none])=QO l:=by simp[QO]
def WoI(a:za)(st:St):Prop:=∃(s:za) (l:List ae),st.U 0=str s/\FR s/\s.length+l.length<=a.length/\wa st.Y st.Z 221 2 (st.U 4) (QO l)/\jQ (yF a)=(jQ (yF s)).map (l++·)
theorem N6{b s:za}{l:List ae}{a:ae}{st:St}(c:st.U 0=str (Lib.trimLeftB s 32))(hs:(Lib.trimLeftB s 32).length+(l.length+1)<=b.length)(d:wa st.Y st.Z 221 2 (st.U 4) (QO l++[[str a.1,str a.2]]))(e:jQ (yF b)=(jQ (yF s)).map (fun x=>l++[a]++x)):WoI b st:=
 ⟨Lib.trimLeftB s 32,l++[a],c,YP s,by simpa using hs,by simpa[QO]using d,by rw[e,Xo]⟩
theorem Bx(t:za)(ht:t.length<=zw):∃r0,zo Crwo f188 [str t]=some r0/\qX r0 (nD t):=by
 refine yB (sh:=.s 2 [none,none]) rfl ?_;have W:=fun Y Z=>Ir t Y Z ht
 have G:(Lib.trimB t 32).length<=t.length:=by
  have h1:=Xq (Lib.trimRightB t 32);have h2:(Lib.trimRightB t 32).length<=t.length:=by unfold Lib.trimRightB;rw[List.length_reverse];exact zG (List.dropWhile_sublist _).length_le (by simp)
  exact zG h1 h2
 have hR:∀l:List ae,jQ (yF t)=some l->gp t=(l,!l.isEmpty):=fun l h=>by unfold gp;rw[h]
 have hN:jQ (yF t)=none->gp t=([],false):=fun h=>by unfold gp;rw[h]
 simp[W];refine W8 (WoI t) (fun st=>Is (st.U 0)) ⟨Lib.trimB t 32,[],by simp,YP _,by simpa using G,.inl ⟨by simp,rfl⟩,by rw[NR];cases jQ (yF t)<;>rfl⟩ ?_;rintro⟨U,Y,Z⟩ ⟨s,l,u,X,UE,hO,H⟩;simp only at u hO;by_cases hs:s=[]
 ·subst hs;have he':jQ (yF t)=some l:=by rw[H,sN];simp[jQ]
  have I:=hR l he';have hfx:=N5 l;have j:=ml l;have hb1:(decide (0<l.length))=!l.isEmpty:=by cases l<;>simp
  rcases hO with⟨S,hn⟩|⟨id,hid,S,hb⟩
  ·have hl:l=[]:=by simpa[QO]using hn
   subst hl;simp[u,S,qi,nD,I,QO,f188]
  ·rw[j]at S;have f:(QO l).take l.length=QO l:=qL (by omega);simp[u,S,hb,j,f,hfx,hb1,qi,nD,I,f188]
 ·have hh:hd s≠[]:=X.resolve_left hs;have k:s.isEmpty=false:=by cases s with
   |nil=>exact absurd rfl hs
   |cons c s=>rfl
  have b:=NV hh;have g:=fun h=>NW (s:=s) h
  unfold zw at ht;have B:s.length<=zw:=by unfold zw;omega
  have d:=fun Y Z=>bK Eo s Y Z B rfl
  have C:=Qg q9 s;have i:(wy q9 s).1.length<=s.length:=by
   rcases JC q9 s with h|h
   ·rw[h];simp
   ·by_cases m:(wy q9 s).1=[]
    ·rw[m];simp
    ·exact(me q9 s m).2.length_le
  have D:=Kj q9 s;simp only[Eo]at d;unfold sQ at b g;simp only at b g;obtain⟨o,r,hor⟩:∃o r,wy q9 s=(o,r):=⟨_,_,rfl⟩;rw[hor]at d C i D b g;simp only at d C i D b g;have n:=fun Y Z=>pt r Y Z (by unfold zw;omega)
  have f:(s.drop o.length).take (s.length-o.length)=r:=by rw[C];exact qL (by simp)
  obtain⟨s1,J⟩:=yx (Lib.trimLeftB r 32);have hs1l:s1.length<=s.length:=by rw[<-J];exact zG (Xq r) D
  rw[J]at n b g;have w:∀Y Z,zg false [] (FSB ibP) [str s1,.v (.int .u8 32)] Y Z=some (int (Lib.indexByte s1 32),Y,Z):=fun Y Z=>Mo ibP s1 32 Y Z (by unfold zw;omega) rfl
  obtain⟨K,L⟩:=SB s1;have A:(s1.drop (hd s1).length).take (s1.length-(hd s1).length)=tl s1:=by rw[L];exact qL (by rw[<-L];simp)
  have M:(hd s1).length<=s1.length:=by have:=zt List.length (fx s1);rw[qj]at this;omega
  have p:=fun Y Z=>pt (tl s1) Y Z (by have:=zt List.length (fx s1);rw[qj]at this;unfold zw;omega)
  have j:=ml l;have E:=wa.y8 (P:=prog) (t:=217) (c:=[str o,str (hd s1)]) hO zc9 zda zdb zdc rfl (by omega) (by rw[j];unfold maxLen;omega) (by rw[j];omega);have hoe:(s.isEmpty)=false:=k;by_cases m:hd s1=[]
  ·rw[ze m]at b;rw[b]at H;have I:=hN H;rcases N4 s1 with⟨hi,PI⟩|⟨hi,q⟩
   ·rw[m]at hi;simp at hi;simp[u,hs,k,d,i,f,n,w,hi,qi,nD,I,QO,f188]
   ·have N:s1=[]:=by rw[<-q];exact m
    subst N;simp[u,hs,k,d,i,f,n,w,hi,qi,nD,I,QO,f188]
  ·have Tj:=g m;rw[zd m]at b;rw[b]at H;have y:¬(hd s1).length=0:=fun e=>m (zT.1 e)
   have Q:=Xq (tl s1);have z:jQ (yF t)=(jQ (yF (tl s1))).map (fun x=>l++[((o,hd s1):ae)]++x):=by rw[H];cases jQ (yF (tl s1))<;>simp
   have T:Is (str (Lib.trimLeftB (tl s1) 32))<Is (U 0):=by rw[u];simp[Is];omega
   rw[u]at T;have hnn:¬((hd s1).length:Int)<0:=by omega
   have F:(((hd s1).length:Int)==0)=false:=by simpa using m
   rcases N4 s1 with⟨hi,PI⟩|⟨hi,q⟩
   ·simp[u,hs,k,d,i,f,n,w,hi,hnn,F,m,y,M,K,A,p,E,qb,qE,zr,zJ,zp];exact⟨N6 (s:=tl s1) (l:=l) (a:=(o,hd s1)) (by simp) (by omega) (by simpa using wa.after) z,by simpa[Is]using T⟩
   ·rw[q]at y K A M E z;have R:s1≠[]:=fun e=>y (by rw[e];rfl)
    rw[q]at F;have hte:tl s1=[]:=by have:=zt List.length (fx s1);rw[qj,q]at this;exact zT.1 (by omega)
    rw[hte]at p z Q T;simp[u,hs,k,d,i,f,n,w,hi,F,y,R,p,E,qb,qE,zr,zJ,zp];exact⟨N6 (s:=[]) (l:=l) (a:=(o,s1)) (by simp) (by have h9:=jl.2 hs;rw[show Lib.trimLeftB [] 32=[]from rfl,kv];omega) (by simpa using wa.after) z,by simpa[Is]using T⟩
theorem sW:zf prog 188 (zg false [] (Ln nD)):=
 Qu (fn:=f188) SA (qN func188) false [] _ fun args r h w S vs a=>by obtain⟨l,rfl,Y,rfl⟩:=zN h;obtain⟨b,c,d⟩:=Bx l Y;exact⟨_,b,a,by simp[f188],c,d⟩
theorem mm{s:za}{p:Part}(h:ZQ s=some p):(K3 s).2.2=true/\(K3 s).2.1=p.has/\(K3 s).2.1≠0/\p=(K3 s).1.part (K3 s).2.1/\(K3 s).1.ok/\1<=p.has/\p.has<=3:=by
 have f:=h;rw[FQ]at h;split at h
 ·rename_i d;injection h with h
  obtain⟨_,_,Y,j⟩:=ZN f;subst h;obtain⟨a,b,c,⟨g,i⟩,e⟩:=Y;exact⟨d.1,rfl,d.2,rfl,⟨a,b,c,e⟩,g,i⟩
 ·cases h
theorem mn{s:za}(h:ZQ s=none):(K3 s).2.2=false\/(K3 s).2.1=0:=by
 rw[FQ]at h;split at h
 ·cases h
 ·rename_i b;by_cases a:(K3 s).2.1=0
  ·exact .inr a
  ·left;cases c:(K3 s).2.2
   ·rfl
   ·exact absurd ⟨c,a⟩ b
noncomputable def mo (a b:za):List q8×Int:=match ZQ a,ZQ b with
 |some p,some q=>((cF p q).1,if(cF p q).2=true then 0 else 1)
 |_,_=>([],10)
noncomputable def VU (a b:za):O:=.wP [.sl 11 (qa (mo a b).1),int (mo a b).2]
def SC(a b:za):Prop:=a.length+1<=zw/\b.length+1<=zw
noncomputable abbrev Crbt:Ctx:=zR prog [(192,zg false [] (XB El)),(216,qy [.g va] (PG Q2 fun m=>1<=m/\m<=3)),(217,qy [.g jK,.g jK] (Ac Kg))]
theorem SD:Gd Crbt:=zS mixed ⟨Yl,cD,fw,trivial⟩
theorem nE(a b:za)(t:SC a b):∃y,zo Crbt f189 [str a,str b]=some y/\qX y (VU a b):=by
 obtain⟨F,G⟩:=t;refine yB (sh:=.s 11 jn) rfl ?_;have f:=fun Y Z=>Za El a Y Z F
 have g:=fun Y Z=>Za El b Y Z G
 simp only[El,yf.V]at f g;cases i:ZQ a with
 |none=>
  have d:mo a b=([],10):=by unfold mo;rw[i]
  rcases mn i with h|h
  ·simp[f,g,h,qi,VU,d,qa,f189]
  ·cases H:(K3 a).2.2<;>cases u:(K3 b).2.2<;>simp[f,g,h,H,u,qi,VU,d,qa,f189]
 |some p=>
  obtain⟨n,M,I,z,J,N,P⟩:=mm i;have e:=jD I;cases o:ZQ b with
  |none=>
   have d:mo a b=([],10):=by unfold mo;rw[i,o]
   rcases mn o with h|h
   ·simp[f,g,n,e,h,qi,VU,d,qa,f189]
   ·cases u:(K3 b).2.2<;>simp[f,g,n,e,h,u,qi,VU,d,qa,f189]
  |some q=>
   obtain⟨A,K,L,B,C,D,E⟩:=mm o;have j:=jD L;have d:mo a b=((cF p q).1,if(cF p q).2=true then 0 else 1):=by unfold mo;rw[i,o]
   rw[<-K]at D E;have c:=fun Y Z=>VM Q2 (fun m=>1<=m/\m<=3) (K3 b).1 (K3 b).2.1 (.agg (K3 b).1.V) Y Z C ⟨D,E⟩ (JK _) (VN _ Y) (VO _)
   have k:Zl p=⟨(K3 a).1,false⟩:=by rw[z];rfl
   have v:vt p.pre:=by rw[z];exact J.small
   have w:vt q.pre:=by rw[B];exact C.small
   have l:=fun Y Z=>QY (Zl p) (vw q) Y Z (ZJ v) (QJ w)
   simp only[Kg,k,yf.V,Cut.V,Q2,YH,<-B]at c l;cases r:Qa q
   ·rw[r]at c;have x:cF p q=([],false):=by unfold cF;rw[r];rfl
    rw[x]at d;simp[f,g,n,e,A,j,c,qi,VU,d,qa,f189]
   ·rw[r]at c;have x:cF p q=(dG (Zl p) (vw q),true):=by unfold cF;rw[r];rfl
    rw[x]at d;simp[f,g,n,e,A,j,c,l,qb,qE,qi,VU,d,k,qa,q8.V,Cut.V,f189]
theorem mq:zf prog 189 (zg false [] (qf (α:=za×za) (fun a=>[str a.1,str a.2]) (fun a=>SC a.1 a.2) fun a=>VU a.1 a.2)):=
 Qu (fn:=f189) SD (qN func189) false [] _ fun args r h w S vs c=>by obtain⟨⟨a,b⟩,rfl,Y,rfl⟩:=zN h;obtain⟨d,e,f⟩:=nE a b Y;exact⟨_,d,c,by simp[f189],e,f⟩
noncomputable def FBt2:zb->Option O:=qf (α:=za×za) (fun a=>[str a.1,str a.2]) (fun a=>SC a.1 a.2) fun a=>VU a.1 a.2
theorem It(a b:za)(Y:Hp)(Z:Nat)(h:SC a b):zg false [] FBt2 [str a,str b] Y Z=some (VU a b,Y,Z):=
 XX (a,b) _ _ rfl Dt h (.inr (by simp))
end Go.Q
namespace Go.Proofs
open Go.Shelf
def Tryz.Lh:Go.Shelf.Ren:=⟨fun|4=>223|n=>n,fun|22=>169|25=>195|0=>0|3=>3|4=>4|9=>9|20=>20|n=>n,fun|n=>n⟩
theorem Tryz.zel:Go.Proofs.Lays8.n4 prog Tryz.Lh:={
 mixed:=by kernel_rfl
 f4:=⟨f223.name,by decide,func223.trans (zt some (by kernel_rfl))⟩
 t0:=underlying0
 a0:=isAgg0
 z0:=sizeOf0
 v0:=zeroValue0
 t3:=underlying3
 a3:=isAgg3
 z3:=sizeOf3
 v3:=zeroValue3
 t4:=underlying4
 a4:=isAgg4
 z4:=sizeOf4
 v4:=zeroValue4
 t9:=underlying9
 a9:=isAgg9
 z9:=sizeOf9
 v9:=zeroValue9
 t20:=underlying20
 a20:=isAgg20
 z20:=sizeOf20
 v20:=zeroValue20
 t22:=underlying169
 a22:=isAgg169
 z22:=sizeOf169
 v22:=zeroValue169}
end Go.Proofs
namespace Go.Q
theorem Bz:zf prog 223 (o5 195 11 120):=
 A0 ⟨_,func223,by decide,by kernel_rfl⟩ ot (by decide) (tW.of Tryz.zel ot uH uI rfl (by omega))
noncomputable def N7 (out:List q8->List q8->O) (pre:List q8->List q8->Prop):zb->Option O:=qf (α:=List q8×List q8) (fun a=>[.sl 1 [[.sl 11 (a.1.map q8.V)],[.sl 11 (a.2.map q8.V)]]]) (fun a=>pre a.1 a.2) (fun a=>out a.1 a.2)
noncomputable abbrev CD:Ctx:=zR prog [(223,o5 195 11 120)]
theorem sX(a b:List q8)(E:a.length<=zw)(x:b.length<=zw):∃f,zo CD f194 [.sl 1 [[.sl 11 (a.map q8.V)],[.sl 11 (b.map q8.V)]]]=some f/\qX f (.sl 11 ((a++b).map q8.V)):=by
 have q:∀{code},f194.body=some code->Zy CD code ⟨kE [.sl 1 [[.sl 11 (a.map q8.V)],[.sl 11 (b.map q8.V)]]],fun _=>none,0⟩ (J2 CD.P f194 (Jl (.sl 11 ((a++b).map q8.V))))->∃f,zo CD f194 [.sl 1 [[.sl 11 (a.map q8.V)],[.sl 11 (b.map q8.V)]]]=some f/\qX f (.sl 11 ((a++b).map q8.V)):=by intro code x h;obtain⟨f,F,G⟩:=xe x h;exact⟨f,F,fun w S u H=>rq H G⟩
 refine q rfl ?_;unfold zw at E x;let cs:List (List q8):=[a,b];have c:cs=[a,b]:=rfl;simp;refine zF (fun k U Y Z=>U 0=.sl 1 [[.sl 11 (a.map q8.V)],[.sl 11 (b.map q8.V)]]/\U 9=.sl 1 [[.sl 11 (a.map q8.V)],[.sl 11 (b.map q8.V)]]/\U 10=int 2/\U 11=int k/\U 3=int (((cs.take k).map List.length).sum:Nat)) 2
  ⟨by simp,by simp,by simp,by simp,by simp⟩ ?_
 rintro k U Y Z I ⟨y,z,g,i,p⟩;obtain rfl|rfl|rfl:k=0\/k=1\/k=2:=by omega
 ·simp[c]at p;have A:=wu (a.length:Int);have j:=wu 1;have B:¬(a.length:Int)<0:=by omega
  simp[y,z,g,i,p,A,j,B,c]
 ·simp[c]at p;have A:=wu ((a.length:Int)+b.length);have j:=wu 2;have B:¬(a.length:Int)+b.length<0:=by omega
  simp[y,z,g,i,p,A,j,B,c]
 ·simp[c]at p;have J:∀Y Z,∃v r s,o5 195 11 120 [.nil,int ((a.length:Int)+b.length)] Y Z=some (v,r,s)/\wa r s 195 11 v []:=fun Y Z=>by
   by_cases D:(a.length:Int)+b.length=0
   ·exact⟨.nil,Y,Z,by simp[o5,D],.inl ⟨rfl,rfl⟩⟩
   ·exact⟨.own Z 0 0,qR Y Z (some ⟨195,11,true,[]⟩),Z+1,by show(if(a.length:Int)+b.length=0 then _ else _)=_;rw[zd D,ze ⟨by omega,by omega,by omega⟩],.inr ⟨Z,by omega,rfl,by simp⟩⟩
  obtain⟨v,r,s,C,e⟩:=J Y Z;simp[y,z,g,i,p,C];refine zF (fun k U Y Z=>U 25=.sl 1 [[.sl 11 (a.map q8.V)],[.sl 11 (b.map q8.V)]]/\U 26=int 2/\U 27=int k/\wa Y Z 195 11 (U 6) (((cs.take k).flatten).map q8.V)) 2
   ⟨by simp,by simp,by simp,by simpa using e⟩ ?_
  rintro k U Y Z I ⟨l,m,n,e⟩;obtain rfl|rfl|rfl:k=0\/k=1\/k=2:=by omega
  ·simp[c]at e;obtain⟨K,r,s,o,d,_⟩:=e.KP (P:=prog) (t:=169) (ys:=a.map q8.V) Fl ot uH uI rfl (by omega) (by simp[maxLen];omega) (by simp;omega);have j:=wu 1;simp at d;simp[l,m,n,o,j,c];exact d
  ·simp[c]at e;obtain⟨K,r,s,o,d,_⟩:=e.KP (P:=prog) (t:=169) (ys:=b.map q8.V) Fl ot uH uI rfl (by omega) (by simp[maxLen];omega) (by simp;omega);have j:=wu 2;simp[l,m,n,o,j,c];simpa using d
  ·simp[c]at e;have:=e.freeze Z;simp[l,m,n,f194];exact this
noncomputable def pw:zb->Option O:=N7 (fun a b=>.sl 11 ((a++b).map q8.V)) fun a b=>a.length<=zw/\b.length<=zw
theorem nF:zf prog 194 (zg true [] pw):=
 Qu (fn:=f194) (zS mixed ⟨Bz,trivial⟩:AM.Good CD _) (qN func194) true [] _ fun args r h w S vs d=>by unfold pw N7 at h;obtain⟨⟨a,b⟩,rfl,c,rfl⟩:=zN h;obtain⟨e,f,g⟩:=sX a b c.1 c.2;exact⟨_,e,d,zG (zk 1) (by decide),f,g⟩
end Go.Q
namespace Go.AM
variable{dr:Prop}
section
variable{P:Program}{Y:Hp}{Z:Nat}
def Ud(P:Program)(f e s by_:Nat):Prop:=
 ∀(w:World) (g m n i cap l:Nat) (d a:Array Value) (o:TypeId),i<n->n<=cap->cap<=maxLen->n+1<=maxLen->(n+1)*by_<=140737488355328->g≠m->1<=l->l<=maxLen ->
  w.heap[g]?=some (.cells d e (0,0))->d.size=cap*s->w.heap[m]?=some (.cells a o (0,0))->a.size=l*s->(∀j v,j<n*s->d[j]?=some v->v.oneCell'=true)->(∀j v,j<s->a[j]?=some v->v.oneCell'=true) ->
  Calls P f #[.slice (some ⟨g,0,none⟩) n cap,.int .i64 i,.slice (some ⟨m,0,none⟩) 1 l] w fun r w'=>∃(k c:Nat) (h:Array Value),n+1<=c/\c<=maxLen/\r=.returned (.slice (some ⟨k,0,none⟩) ((n+1:Nat)) c) /\
   (k=g\/w.heap.size<=k)/\w'.heap[k]?=some (.cells h e (0,0))/\h.size=c*s/\Fr True w (fun b=>b=k) w' /\
   ∀j,j<(n+1)*s->h[j]?=(d.toList.take (i*s)++a.toList.take s++(d.toList.take (n*s)).drop (i*s))[j]?
def fA(e s by_:Nat):AM.Spec:=fun args Y Z=>match args with
 |[.own id 0 n,.v (.int .i64 i),.own a 0 1]=>match Y id,Y a with
  |some b,some d=>match d.es with
   |[c]=>if id≠a/\b.arr=true/\d.arr=true/\b.e=e/\b.s=s/\d.s=s/\b.es.length=n/\0<=i/\i<n/\(n+1)*by_<=140737488355328/\n+1<=maxLen then
     some (.own Z 0 (n+1),qR (qR Y id none) Z (some ⟨e,s,true,b.es.take i.toNat++c::b.es.drop i.toNat⟩),Z+1)else none
   |_=>none
  |_,_=>none
 |_=>none
theorem zaY{es:List zb}{s i j:Nat}(d:∀c∈es,c.length=s){c:zb}{e:O}(hi:es[i]?=some c)(f:c[j]?=some e):j<s/\i<es.length/\i*s+j<es.length*s:=by
 have a:j<s:=by rw[<-d c (zL hi)];exact(zi.1 f).1
 have b:i<es.length:=(zi.1 hi).1;exact⟨a,b,j5 b a⟩
theorem BA{f e s by_:Nat}(hfn:∃fn,P.funcs[f]?=some fn/\(fn.name== "runtime.NumGoroutine")=false/\fn.body.isNone=false)(hsz:qv P e=some s)(E:0<s)(h:Ud P f e s by_):kh dr P f (fA e s by_):=by
 refine⟨hfn,?_⟩;intro args Y Z r Y' Z' t w S G vs hi hz;unfold fA at t;split at t
 case h_2=>cases t
 rename_i id n i x;split at t
 case h_2=>cases t
 rename_i b b2 hb hb2;split at t
 case h_2=>cases t
 rename_i c hc;split at t
 case isFalse=>cases t
 rename_i hk;obtain⟨k1,k2,k3,k4,k5,k6,k7,k8,k9,k10,k11⟩:=hk;injection t with t
 injection t with e1 t;injection t with e2 e3;subst e1;subst e2;subst e3;obtain⟨u0,us,rfl,hu0,y⟩:=hz.jG;obtain⟨u1,us,rfl,hu1,y⟩:=y.jG;obtain⟨u2,us,rfl,hu2,y⟩:=y.jG;obtain rfl:=y.Wq;obtain⟨rfl,_⟩:=hu1.wX;have Lt:=hu0.xk;have I:=hu2.xk;obtain⟨cap,g1,g2,g3,g4,rfl⟩:=hu0.vH;obtain⟨vc,v1,v2,v3,v4,rfl⟩:=hu2.vH;have R:=hi.live id b hb;have z:=hi.live x b2 hb2;have Tg:(G id).s=s:=by rw[<-R.bs];exact k5
 have J:(G x).s=s:=by rw[<-z.bs];exact k6
 obtain⟨F,q1,q2,q3⟩:=R.row Lt;obtain⟨A,r1,r2,r3⟩:=z.row I;rw[Tg]at q3 g4;rw[J]at r3 v4;rw[k4]at q1;have z0:0*(G id).s=0:=Tf _;have z1:0*(G x).s=0:=Tf _;rw[z0,z1];have hne:(G id).g≠(G x).g:=fun e=>k1 (hi.inj id x b b2 hb hb2 e)
 have B:∀c∈b.es,c.length=s:=fun c hc=>by rw[<-Tg];exact R.len Lt c hc
 have hlc:c.length=s:=by rw[<-J];exact z.len I c (by rw[hc];simp)
 obtain⟨m,rfl⟩:∃m:Nat,i=m:=⟨i.toNat,by omega⟩;have hmn:m<n:=by omega
 have key:=h w (G id).g (G x).g n m cap vc F A b2.e hmn g2 g3 k11 k10 hne v2 v3 q1 (by rw[q2,<-g4,yi]) r1 (by rw[r2,<-v4,yi])
  (fun j v T hv=>by
   have hd:=Nat.div_add_mod j s;have hm:=zgh j E;have W:j/s<b.es.length:=by rw[k7];exact(Nat.div_lt_iff_lt_mul E).2 T
   obtain⟨row,K⟩:∃row,b.es[j/s]?=some row:=⟨_,zl W⟩;have X:=B row (zL K);obtain⟨q,Le⟩:∃q,row[j % s]?=some q:=⟨_,zl (by omega)⟩;obtain⟨u,p,H⟩:=q3 (j/s) (j % s) row q K Le;rw[cX,hd,hv]at p;injection p with p;rw[p];exact H.2.2)
  (fun j v T hv=>by obtain⟨q,Le⟩:∃q,c[j]?=some q:=⟨_,zl (by omega)⟩;obtain⟨u,p,H⟩:=r3 0 j c q (by rw[hc];rfl) Le;rw[Tf,yi,hv]at p;injection p with p;rw[p];exact H.2.2)
 refine key.mono fun e w' hr=>?_
 obtain⟨g',L,l,p1,p2,rfl,p4,p5,p6,p7,p8⟩:=hr;have M:∀id' C,qR Y id none id'=some C->Y id'=some C:=fun id' C h=>Q7 h
 have Pq:∀id' C,qR Y id none id'=some C->(G id').g≠g':=fun id' C D e=>by
  have hb0:=M id' C D;rcases p4 with rfl|p4
  ·have:=hi.inj id' id C b hb0 hb e;subst this;rw[wL]at D;cases D
  ·have:=(hi.live id' C hb0).lt;omega
 have hnS:¬S g':=fun hS=>by
  rcases p4 with rfl|p4
  ·exact hi.apart id b hb hS
  ·have:=hi.st _ hS;omega
 have htl:(b.es.take m++c::b.es.drop m).length=n+1:=by simp;omega
 have X:∀c'∈b.es.take m++c::b.es.drop m,c'.length=s:=fun c' hc'=>by
  rcases zK.1 hc' with h|h
  ·exact B c' (JQ h)
  ·rcases zv.1 h with rfl|h
   ·exact hlc
   ·exact B c' (List.mem_of_mem_drop h)
 have hcl:(F.toList.take (n*s)).length=n*s:=by have:n*s<=cap*s:=zH _ g2;simp only[wB,wN];rw[q2,<-g4,yi];exact Nat.min_eq_left this
 have hms:m*s<=n*s:=zH _ (by omega);have o:(F.toList.take (m*s)).length=m*s:=by
  have:F.toList.length=cap*s:=by rw[wN,q2,<-g4,yi]
  have h2:n*s<=cap*s:=zH _ g2;simp only[wB,this];omega
 have hvl:(A.toList.take s).length=s:=by
  have:A.toList.length=vc*s:=by rw[wN,r2,<-v4,yi]
  have h2:1*s<=vc*s:=zH _ v2;simp only[wB,this];omega
 have k:=kO.pU (dr:=dr) (Y1:=qR Y id none) hi M ⟨g',l.size,s⟩ e true (b.es.take m++c::b.es.drop m) l p7.os p7.tape p7.output p7.size (p7.drawn trivial) (fun _=>False) (fun _ h=>h.elim)
  (fun C D hne' _=>p7.block C D hne') Pq hnS (by
   rcases p4 with rfl|p4
   ·exact .inl ⟨id,b,hb,rfl⟩
   ·exact .inr p4) E (by simpa[qv]using hsz) X (by rw[htl,p6];exact zH _ p1) p5 rfl
  (fun i' j c' q a T=>by
   obtain⟨b1,b2',b3⟩:=zaY X a T;rw[htl]at b2' b3;have CA:=p8 (i'*s+j) b3;show∃u,l[i'*s+j]?=some u/\_;rw[CA];have N:∀u,jg w S G Z b.arr q u->jg w S G Z true q u:=fun u hu=>by rw[k2]at hu;exact hu
   have zem:∀u,jg w S G Z b2.arr q u->jg w S G Z true q u:=fun u hu=>by rw[k3]at hu;exact hu
   rcases Nat.lt_trichotomy i' m with hlt|heq|hgt
   ·rw[z8 (by rw[wB,k7];omega),qt,ze hlt]at a;obtain⟨u,p,H⟩:=q3 i' j c' q a T;have Q:i'*s+j<m*s:=j5 hlt b1;refine⟨u,?_,N u H⟩;rw[q5,z8 (by rw[o];exact Q),qt,ze Q];simpa using p
   ·subst heq;rw[zQ (by rw[wB,k7];omega)]at a;rw[wB,k7,Nat.min_eq_left (by omega),Nat.sub_self]at a;simp only[List.getElem?_cons_zero,zW]at a;subst a;obtain⟨u,p,H⟩:=r3 0 j c q (by rw[hc];rfl) T;rw[Tf,yi]at p;refine⟨u,?_,zem u H⟩;rw[q5,zQ (by rw[o];omega),o,Nat.add_sub_cancel_left,z8 (by rw[hvl];exact b1),qt,ze b1];simpa using p
   ·obtain⟨d,rfl⟩:∃d,i'=d+1:=⟨i'-1,by omega⟩;rw[zQ (by rw[wB,k7];omega)]at a;rw[wB,k7,Nat.min_eq_left (by omega),show d+1-m=(d-m)+1 by omega,List.getElem?_cons_succ,qK,show m+(d-m)=d by omega]at a;obtain⟨u,p,H⟩:=q3 d j c' q a T;have hdn:d<n:=by omega
    have W:=j5 (s:=s) hdn b1;have hmd:m*s<=d*s:=zH _ (by omega);refine⟨u,?_,N u H⟩;rw[zQ (by rw[qj,o,hvl,qQ,Nat.one_mul];omega),qj,o,hvl,qK,
     show m*s+((d+1)*s+j-(m*s+s))=d*s+j by rw[qQ,Nat.one_mul];omega,qt,ze W]
    simpa using p)
 refine⟨_,_,_,rfl,k,?_⟩;have:=qe.own (w:=w') (S:=S) (G:=qR G Z ⟨g',l.size,s⟩) (Z:=Z+1) (id:=Z) (off:=0) (n:=n+1) (cap:=L) (by omega) p1 p2 (by rw[wL];show(0+L)*s=l.size;rw[p6,yi]) (by rw[wL];exact E);rw[wL]at this;simpa using this
noncomputable def SE (C:Ctx) (fn:Func) (e s by_:Nat):AM.Spec:=fun args Y Z=>match fA e s by_ args Y Z with
 |some r=>some r
 |none=>yq C fn args Y Z
theorem Et{C:Ctx}{fn:Func}{f e s by_:Nat}(a:kh dr P f (fA e s by_))(d:kh dr P f (yq C fn)):kh dr P f (SE C fn e s by_):=by
 refine⟨a.1,fun args Y Z r b c h=>?_⟩;unfold SE at h;split at h
 ·rename_i q g;injection h with h
  subst h;exact a.2 args Y Z r b c g
 ·exact d.2 args Y Z r b c h
end
end Go.AM
namespace Go.AM
open Go.RowKit Go.Proofs Go.Lib
variable{dr:Prop}
variable{P:Program}
theorem Q3(w:World)(r s ty b:TypeId)(k m g o d f:Nat)(a:Addr)(e h:Nat)(c:Array Value)(t:TypeId)(cs:List Value)
  (u:P.underlying r=some (.slice b)) (hs:qv P b=some k)
  (x:w.heap[g]?=some (.cells c t (0,0))) (y:Nat.min e d=m) (z:cs.length=m*k)
  (l:∀j v,cs[j]?=some v->w.cell? (a.add j)=some v) (n:o+cs.length<=c.size) (A:∀v∈cs,v.oneCell'=true) :
  (Builtin.copy_ #[r,s] ty #[.slice (some ⟨g,o,none⟩) d f,.slice (some a) e h]).run P w =
   .ok (goInt m) (w.setRow g (c.toList.take o++cs++c.toList.drop (o+cs.length)).toArray):=by
 have B:=run_loadCells_list (P:=P) w a cs l;have p:=run_storeCells_at P g o t cs 0 c w x (by simpa using n) A;unfold qv at hs;cases q:P.info? b with
 |none=>simp[q]at hs
 |some i=>
  have hi:i.size=k:=by simpa[q]using hs
  simp[Builtin.copy_,zz u,Builtin.lenOf,Builtin.firstCells,sizeOf,typeInfo,q,hi,y,<-z,B,p]
theorem VV{w:World}{g e:Nat}{a:Array Value}(h:w.heap[g]?=some (.cells a e (0,0)))(j:Nat):w.cell? ⟨g,j,none⟩=a[j]?:=by simp[World.cell?,h]
theorem BB{w:World}{g e:Nat}{a:Array Value}(h:w.heap[g]?=some (.cells a e (0,0)))(j:Nat):w.frozen? ⟨g,j,none⟩=false:=by simp[World.frozen?,h]
theorem px{w:World}{g e:Nat}{a:Array Value}(h:w.heap[g]?=some (.cells a e (0,0))):w.shape? g=some (e,a.size):=by simp[World.shape?,h]
theorem Ym{w:World}{g k:Nat}(cs:Array Value)(h:k≠g):(w.setRow g cs).heap[k]?=w.heap[k]?:=by
 have:¬g=k:=fun e=>h e.symm
 simp[World.setRow,vT,this]
theorem pz(w:World)(g:Nat)(cs:Array Value):Fr dr w (fun b=>b=g) (w.setRow g cs):=
 ⟨rfl,rfl,rfl,by simp[World.setRow],fun _=>zk _,fun k _ a=>Ym cs a⟩
def jh(l:List Value)(o:Nat)(cs:List Value):List Value:=l.take o++cs++l.drop (o+cs.length)
theorem vu{l cs:List Value}{o:Nat}(h:o+cs.length<=l.length):(jh l o cs).length=l.length:=by unfold jh;simp;omega
theorem Iu{l vs:List Value}{n i s:Nat}(hi:i<=n)(c:(n+1)*s<=l.length)(d:vs.length=s)(j:Nat)(e:j<(n+1)*s) :
  (jh (jh l ((i+1)*s) ((l.take (n*s)).drop (i*s))) (i*s) vs)[j]?=(l.take (i*s)++vs++(l.take (n*s)).drop (i*s))[j]?:=by
 have f:(i+1)*s=i*s+s:=by rw[qQ,Nat.one_mul]
 have g:(n+1)*s=n*s+s:=by rw[qQ,Nat.one_mul]
 have t:i*s<=n*s:=zH _ hi;rw[g]at c e;rw[f];generalize n*s=N at *;generalize i*s=I at *;subst d;have h:((l.take N).drop I).length=N-I:=by simp;omega
 have b:I+vs.length+((l.take N).drop I).length<=l.length:=by rw[h];omega
 have a:(jh l (I+vs.length) ((l.take N).drop I)).length=l.length:=vu b;have k:=vp (jh l (I+vs.length) ((l.take N).drop I)) vs I j (by rw[a];omega);have m:=vp l ((l.take N).drop I) (I+vs.length) j b;have o:(jh (jh l (I+vs.length) ((l.take N).drop I)) I vs)[j]?=if I<=j/\j<I+vs.length then vs[j-I]? else(jh l (I+vs.length) ((l.take N).drop I))[j]?:=k
 have p:(jh l (I+vs.length) ((l.take N).drop I))[j]?=if I+vs.length<=j/\j<I+vs.length+((l.take N).drop I).length then((l.take N).drop I)[j-(I+vs.length)]? else l[j]?:=m
 have q:(l.take I).length=I:=by simp;omega
 rw[o,p,q5];by_cases r:j<I
 ·rw[zd (by omega),zd (by omega),z8 (by omega),qt,ze r]
 ·rw[zQ (by omega),q];by_cases u:j<I+vs.length
  ·rw[ze (by omega),z8 (by omega)]
  ·rw[zd (by omega),ze (by omega),zQ (by omega)];congr 1;omega
theorem N8{R olds vs cs:List Value}{I:Nat}(b:olds.length=I)(c:∀j,j<I->R[j]?=olds[j]?)(i:I+vs.length+cs.length<=R.length)(j:Nat)(k:j<I+vs.length+cs.length) :
  (jh (jh R I vs) (I+vs.length) cs)[j]?=(olds++vs++cs)[j]?:=by
 have a:(jh R I vs).length=R.length:=vu (by omega);have d:=vp (jh R I vs) cs (I+vs.length) j (by rw[a];omega);have e:=vp R vs I j (by omega);have f:(jh (jh R I vs) (I+vs.length) cs)[j]?=if I+vs.length<=j/\j<I+vs.length+cs.length then cs[j-(I+vs.length)]? else(jh R I vs)[j]?:=d
 have g:(jh R I vs)[j]?=if I<=j/\j<I+vs.length then vs[j-I]? else R[j]?:=e
 rw[f,g,q5];by_cases h:j<I
 ·rw[zd (by omega),zd (by omega),z8 (by omega),c j h]
 ·rw[zQ (by omega),b];by_cases l:j<I+vs.length
  ·rw[zd (by omega),ze (by omega),z8 (by omega)]
  ·rw[ze (by omega),zQ (by omega)];congr 1;omega
theorem N9{e s by_:Nat}{z:zb}(hs:qv P e=some s)(b:jV P e=some by_)(d:yC P e=some z)(f:z.length=s):∃i v,P.info? e=some i/\i.zero=some v/\i.size=s/\i.bytes=by_/\v.cells.size=s:=by
 obtain⟨i,v,hi,g,h⟩:=ZY d;obtain⟨i',a,c⟩:=WK hs;rw[hi]at a;injection a with a;subst a;refine⟨i,v,hi,g,c,?_,?_⟩
 ·unfold jV at b;rw[hi]at b;simpa using b
 ·have:=(jc (w:=default) (S:=fun _=>False) h).1;rw[f]at this;simpa using this.symm
theorem sY{w:World}(o:Obj):(w.alloc o).heap[w.heap.size]?=some o:=by show(w.heap.push o)[w.heap.size]?=some o;simp
theorem er{w:World}(o:Obj){k:Nat}(h:k<w.heap.size):(w.alloc o).heap[k]?=w.heap[k]?:=by
 have:¬k=w.heap.size:=by omega
 show(w.heap.push o)[k]?=_;simp[Array.getElem?_push,this]
theorem setRow_size{w:World}{g:Nat}(cs:Array Value):(w.setRow g cs).heap.size=w.heap.size:=by simp[World.setRow]
theorem Eu{w:World}(o:Obj):(w.alloc o).heap.size=w.heap.size+1:=by show(w.heap.push o).size=_;simp
end Go.AM
namespace Go.Q
open Go.RowKit Go.Lib Go.AM
attribute [local go_sem] Oper.semAt_some
theorem Ev(w:World)(g vb n i cap vc:Nat)(cur vcur:Array Value)(tv:TypeId)(hi:i<n)(hroom:n+1<=cap)(hc63:cap<=9223372036854775807)(hne:g≠vb)(hv1:1<=vc)
  (hg:w.heap[g]?=some (.cells cur 193 (0,0))) (hcs:cur.size=cap*5) (hv:w.heap[vb]?=some (.cells vcur tv (0,0))) (hvs:vcur.size=vc*5)
  (h1c:∀j v,j<n*5->cur[j]?=some v->v.oneCell'=true) (h1v:∀j v,j<5->vcur[j]?=some v->v.oneCell'=true) :
  Calls prog 225 #[.slice (some ⟨g,0,none⟩) n cap,.int .i64 i,.slice (some ⟨vb,0,none⟩) 1 vc] w fun e w'=>
   e=.returned (.slice (some ⟨g,0,none⟩) (n+1) cap)/\w'.heap[g]?=some (.cells (jh (jh cur.toList ((i+1)*5) ((cur.toList.take (n*5)).drop (i*5))) (i*5) (vcur.toList.take 5)).toArray 193 (0,0))/\Fr True w (fun b=>b=g) w':=by
 have t3:=underlying3;have a3:=isAgg3;have z3:=sizeOf3;have v3:=zeroValue3;have t4:=underlying4;have a4:=isAgg4;have z4:=sizeOf4;have v4:=zeroValue4;have t24:=underlying210;have a24:=isAgg210;have z24:=sizeOf210;have v24:=zeroValue210;have t9:=underlying193;have a9:=isAgg193;have z9:=sizeOf193;have u3:=zz t3;have u4:=zz t4;have u24:=zz t24;have hz2:¬((i:Int)=(n:Int)):=by omega
 have hov:∀o lb cb,(callFunc 258 #[.slice (some ⟨vb,0,none⟩) 1 vc,.slice (some ⟨g,o,none⟩) lb cb]).run prog w=.ok (.value (.bool false)) w:=fun o lb cb=>by
  rw[run_callFunc_extern func258 (by kernel_rfl) (by kernel_rfl) (by kernel_rfl) (e:=Extern.SlicesOverlaps.overlaps #[210,210] #[4]) (by kernel_rfl),
   Lib.run_overlaps_apart w 210 4 193 t24 5 z9 ⟨vb,0,none⟩ ⟨g,o,none⟩ 1 vc lb cb (fun e=>hne e.symm) _ _ _ _ (px hv) (px hg) (by rw[hcs];omega) (BB hv 0) (BB hv _)]
  rfl
 have mixed:prog.follows .mixedOrders=true:=by kernel_rfl
 have hw1:i6.wrap ((i:Int)+1)=(i:Int)+1:=by rw[tO];omega
 have hw2:i6.wrap ((n:Int)+1)=(n:Int)+1:=by rw[tO];omega
 have hb1:(0:Int)<=(i:Int)+1:=by omega
 have hb5:(0:Int)<=(n:Int)+1:=by omega
 have hin:i<=n:=by omega
 have htn:((i:Int)+1).toNat=i+1:=by omega
 have htn2:((n:Int)+1).toNat=n+1:=by omega
 have hb2:¬(cap=i+1):=by omega
 have hb3:(i:Int)<=(n:Int)+1:=by omega
 have hb4:¬(cap=i):=by omega
 have hb6:¬((cap:Int)<(n:Int)+1):=by omega
 have hs5:qv prog 193=some 5:=bB;obtain⟨cs,hcsd⟩:=yx ((cur.toList.take (n*5)).drop (i*5));obtain⟨vs,hvsd⟩:=yx (vcur.toList.take 5);have hcl:cs.length=(n-i)*5:=by rw[<-hcsd];simp;omega
 have hvl:vs.length=1*5:=by rw[<-hvsd];simp;omega
 have hcget:∀j v,cs[j]?=some v->cur[i*5+j]?=some v/\i*5+j<n*5:=fun j v hj=>by
  rw[<-hcsd,qK,qt]at hj;split at hj
  ·exact⟨by simpa using hj,by assumption⟩
  ·cases hj
 have hvget:∀j v,vs[j]?=some v->vcur[j]?=some v/\j<5:=fun j v hj=>by
  rw[<-hvsd,qt]at hj;split at hj
  ·exact⟨by simpa using hj,by assumption⟩
  ·cases hj
 have hc1:∀v∈cs,v.oneCell'=true:=fun v hv=>by obtain⟨j,hj⟩:=zbg.1 hv;obtain⟨a,b⟩:=hcget j v hj;exact h1c _ v b a
 have hv1':∀v∈vs,v.oneCell'=true:=fun v hv=>by obtain⟨j,hj⟩:=zbg.1 hv;obtain⟨a,b⟩:=hvget j v hj;exact h1v _ v b a
 obtain⟨row1,hrow1⟩:=yx (jh cur.toList ((i+1)*5) cs);have hr1l:row1.length=cap*5:=by rw[<-hrow1,vu (by rw[hcl,wN,hcs];omega),wN,hcs]
 have hcp1:∀ty dc sc,(Builtin.copy_ #[210,210] ty #[.slice (some ⟨g,(i+1)*5,none⟩) (n-i) dc,.slice (some ⟨g,i*5,none⟩) (n+1-i) sc]).run prog w.drew=.ok (goInt ((n-i:Nat):Int)) (w.drew.setRow g row1.toArray):=fun ty dc sc=>by
  rw[<-hrow1];exact Q3 w.drew _ _ ty 193 5 (n-i) g ((i+1)*5) (n-i) dc ⟨g,i*5,none⟩ (n+1-i) sc cur 193 cs t24 hs5 hg (by simp only[Nat.min_def];split<;>omega) hcl
   (fun j v hj=>by rw[kg];exact(VV hg _).trans (hcget j v hj).1) (by rw[hcl,hcs];omega) hc1
 have hcp2:∀(W:World),W.heap[g]?=some (.cells row1.toArray 193 (0,0))->W.heap[vb]?=some (.cells vcur tv (0,0))->∀ty dc,(Builtin.copy_ #[210,210] ty #[.slice (some ⟨g,i*5,none⟩) (n+1-i) dc,.slice (some ⟨vb,0,none⟩) 1 vc]).run prog W=.ok (goInt ((1:Nat):Int)) (W.setRow g (jh row1 (i*5) vs).toArray):=fun W hWg hWv ty dc=>by
  have:=Q3 W 210 210 ty 193 5 1 g (i*5) (n+1-i) dc ⟨vb,0,none⟩ 1 vc row1.toArray 193 vs t24 hs5 hWg (by simp only[Nat.min_def];split<;>omega) hvl
   (fun j v hj=>by rw[kg,yi];exact(VV hWv _).trans (hvget j v hj).1) (by rw[hvl,jy,hr1l];omega) hv1'
  exact this
 have hWg:(w.drew.setRow g row1.toArray).heap[g]?=some (.cells row1.toArray 193 (0,0)):=setRow_heap _ _ _ _ _ _ hg;have hWv:(w.drew.setRow g row1.toArray).heap[vb]?=some (.cells vcur tv (0,0)):=(Ym _ (fun e=>hne e.symm)).trans hv;have hfin:∀W,W=(w.drew.setRow g row1.toArray).setRow g (jh row1 (i*5) vs).toArray->W.heap[g]?=some (.cells (jh row1 (i*5) vs).toArray 193 (0,0))/\Fr True w (fun b=>b=g) W:=fun W e=>by subst e;refine⟨setRow_heap _ _ _ _ _ _ hWg,?_⟩;exact((Fr.drew w (fun b=>b=g)).trans (pz w.drew g _) fun _ _ h=>h).trans (pz _ g _) fun _ _ h=>h
 rw[hcsd,hvsd,hrow1];clear hcsd hvsd hcl hvl hcget hvget hc1 hv1' hrow1 hr1l
 go_enter func225,Tryz.ntmps225
 go_wp2_with (simp only[hov])
 go_region_law_o (refine step_copy_runI rfl _ _ 210 210 rfl _ _ (by simp[Act.eval,Act.put]) (by simp[Act.eval,Act.put]) (hcp1 _ _ _) ?_)
 go_wp2_with (at_builtin;refine wpList_copy_runI _ rfl _ _ 210 210 rfl _ _ rfl rfl (hcp2 _ hWg hWv _ _) ?_)
 go_ret
 exact⟨rfl,hfin _ rfl⟩
theorem Iv(w:World)(g vb n i cap vc:Nat)(cur vcur:Array Value)(tv:TypeId)(hi:i<n)(hnc:n<=cap)(hroom:cap<n+1)(hbig:(n+1)*56<=140737488355328)(hv1:1<=vc)
  (hg:w.heap[g]?=some (.cells cur 193 (0,0))) (hcs:cur.size=cap*5) (hv:w.heap[vb]?=some (.cells vcur tv (0,0))) (hvs:vcur.size=vc*5)
  (h1c:∀j v,j<n*5->cur[j]?=some v->v.oneCell'=true) (h1v:∀j v,j<5->vcur[j]?=some v->v.oneCell'=true) :
  Calls prog 225 #[.slice (some ⟨g,0,none⟩) n cap,.int .i64 i,.slice (some ⟨vb,0,none⟩) 1 vc] w fun e w'=>
   ∃(G:Nat) (R:List Value),n+1<=G/\G<=maxLen/\R.length=G*5/\(∀j,j<i*5->R[j]?=(cur.toList.take (i*5))[j]?)/\e=.returned (.slice (some ⟨w.heap.size,0,none⟩) (n+1) G) /\
    w'.heap[w.heap.size]?=some (.cells (jh (jh R (i*5) (vcur.toList.take 5)) ((i+1)*5) ((cur.toList.take (n*5)).drop (i*5))).toArray 193 (0,0))/\Fr True w (fun b=>b=w.heap.size) w':=by
 have t3:=underlying3;have a3:=isAgg3;have z3:=sizeOf3;have v3:=zeroValue3;have t4:=underlying4;have a4:=isAgg4;have z4:=sizeOf4;have v4:=zeroValue4;have t24:=underlying210;have a24:=isAgg210;have z24:=sizeOf210;have v24:=zeroValue210;have t9:=underlying193;have a9:=isAgg193;have z9:=sizeOf193;have u3:=zz t3;have u4:=zz t4;have u24:=zz t24;obtain⟨i0,z0,hi0,hz0,his,hib,hzc⟩:=N9 (P:=prog) bB oo oq rfl;have hz2:¬((i:Int)=(n:Int)):=by omega
 have hz3:(cap:Int)<(n:Int)+1:=by omega
 have mixed:prog.follows .mixedOrders=true:=by kernel_rfl
 have hw1:i6.wrap ((i:Int)+1)=(i:Int)+1:=by rw[tO];omega
 have hw2:i6.wrap ((n:Int)+1)=(n:Int)+1:=by rw[tO];omega
 have hw3:i6.wrap ((n:Int)+1-i)=(n:Int)+1-i:=by rw[tO];omega
 have hb1:(0:Int)<=(i:Int)+1:=by omega
 have hin:i<=n:=by omega
 have htn:((i:Int)+1).toNat=i+1:=by omega
 have hkk:(n:Int)+1-(i:Int)=((n+1-i:Nat):Int):=by omega
 have hik:i+(n+1-i)=n+1:=by omega
 have hb3:(i:Int)<=(n:Int):=by omega
 have hbw:g<w.heap.size:=(qh.1 hg).1;have hvw:vb<w.heap.size:=(qh.1 hv).1;have hs5:qv prog 193=some 5:=bB;obtain⟨olds,hod⟩:=yx (cur.toList.take (i*5));obtain⟨cs,hcsd⟩:=yx ((cur.toList.take (n*5)).drop (i*5));obtain⟨vs,hvsd⟩:=yx (vcur.toList.take 5);have hol:olds.length=i*5:=by rw[<-hod];simp;omega
 have hcl:cs.length=(n-i)*5:=by rw[<-hcsd];simp;omega
 have hvl:vs.length=1*5:=by rw[<-hvsd];simp;omega
 have hoget:∀j v,olds[j]?=some v->cur[j]?=some v:=fun j v hj=>by
  rw[<-hod,qt]at hj;split at hj
  ·simpa using hj
  ·cases hj
 have hcget:∀j v,cs[j]?=some v->cur[i*5+j]?=some v/\i*5+j<n*5:=fun j v hj=>by
  rw[<-hcsd,qK,qt]at hj;split at hj
  ·exact⟨by simpa using hj,by assumption⟩
  ·cases hj
 have hvget:∀j v,vs[j]?=some v->vcur[j]?=some v/\j<5:=fun j v hj=>by
  rw[<-hvsd,qt]at hj;split at hj
  ·exact⟨by simpa using hj,by assumption⟩
  ·cases hj
 have hc1:∀v∈cs,v.oneCell'=true:=fun v hv=>by obtain⟨j,hj⟩:=zbg.1 hv;obtain⟨a,b⟩:=hcget j v hj;exact h1c _ v b a
 have hv1':∀v∈vs,v.oneCell'=true:=fun v hv=>by obtain⟨j,hj⟩:=zbg.1 hv;obtain⟨a,b⟩:=hvget j v hj;exact h1v _ v b a
 have hold:(Builtin.firstCells i0.size i (.slice (some ⟨g,0,none⟩) i cap)).run prog w.drew=.ok olds.toArray w.drew:=by
  rw[his];exact run_firstCells_some w.drew 5 i ⟨g,0,none⟩ i cap olds hol (fun j v hj=>by rw[kg,yi];exact(VV hg j).trans (hoget j v hj))
 obtain⟨G,hG⟩:=yx (grownCap w (n+1) cap 193);obtain⟨ROW,hROW⟩:=yx (olds.toArray++Builtin.zeroCells z0.cells (n+1-i)++Builtin.zeroCells z0.cells (G-(n+1)));have hGn:n+1<=G:=by rw[<-hG];exact grownCap_ge w _ _ _
 have hGm:G<=maxLen:=by rw[<-hG];exact grownCap_le_maxLen w (n+1) cap 193 (by unfold maxLen;omega)
 have hrz:∀ty,(Builtin.append_ #[210,3] ty #[.slice (some ⟨g,0,none⟩) i cap,.int .i64 ((n:Int)+1-(i:Int))]).run prog w =
   .ok (.slice (some ⟨w.heap.size,0,none⟩) (n+1) G) (w.drew.alloc (.cells ROW 193)):=fun ty=>by
  have h:=Lib.run_append_grow_zeros w 210 3 ty 193 i0 z0 .i64 .i64 t24 t3 hi0 hz0 (some ⟨g,0,none⟩) i cap olds hold (n+1-i) (by omega) (by omega) (by omega) (by omega) (by rw[hib];omega) (by rw[hib,hik];exact growslice_fits hroom hbig);rw[hik,hG,hROW]at h;rw[hkk];exact h
 have hRl:ROW.size=G*5:=by rw[<-hROW,Ql,Ql,O2,O2,hzc,jy,hol];omega
 have hRo:∀j,j<i*5->ROW.toList[j]?=olds[j]?:=fun j hj=>by rw[<-hROW,Array.toList_append,Array.toList_append,q5];exact z8 (show j<olds.length by omega)
 obtain⟨N,hN⟩:=yx w.heap.size;obtain⟨W1,hW1⟩:=yx (w.drew.alloc (.cells ROW 193));have hW1N:W1.heap[N]?=some (.cells ROW 193 (0,0)):=by rw[<-hW1,<-hN];exact sY (w:=w.drew) _
 have hW1g:W1.heap[g]?=some (.cells cur 193 (0,0)):=by rw[<-hW1];exact(er (w:=w.drew) _ hbw).trans hg
 have hW1v:W1.heap[vb]?=some (.cells vcur tv (0,0)):=by rw[<-hW1];exact(er (w:=w.drew) _ hvw).trans hv
 obtain⟨row1,hrow1⟩:=yx (jh ROW.toList (i*5) vs);have hr1l:row1.length=G*5:=by rw[<-hrow1,vu (by rw[hvl,wN,hRl];omega),wN,hRl]
 have hcpA:∀(W:World),W.heap[N]?=some (.cells ROW 193 (0,0))->W.heap[vb]?=some (.cells vcur tv (0,0))->∀ty dc,(Builtin.copy_ #[210,210] ty #[.slice (some ⟨N,i*5,none⟩) (n+1-i) dc,.slice (some ⟨vb,0,none⟩) 1 vc]).run prog W=.ok (goInt ((1:Nat):Int)) (W.setRow N row1.toArray):=fun W hWg hWv ty dc=>by
  rw[<-hrow1];have:=Q3 W 210 210 ty 193 5 1 N (i*5) (n+1-i) dc ⟨vb,0,none⟩ 1 vc ROW 193 vs t24 hs5 hWg (by simp only[Nat.min_def];split<;>omega) hvl
   (fun j v hj=>by rw[kg,yi];exact(VV hWv _).trans (hvget j v hj).1) (by rw[hvl,hRl];omega) hv1'
  exact this
 have hcpB:∀(W:World),W.heap[N]?=some (.cells row1.toArray 193 (0,0))->W.heap[g]?=some (.cells cur 193 (0,0))->∀ty dc sc,(Builtin.copy_ #[210,210] ty #[.slice (some ⟨N,(i+1)*5,none⟩) (n-i) dc,.slice (some ⟨g,i*5,none⟩) (n-i) sc]).run prog W=.ok (goInt ((n-i:Nat):Int)) (W.setRow N (jh row1 ((i+1)*5) cs).toArray):=fun W hWg hWv ty dc sc=>by
  have:=Q3 W 210 210 ty 193 5 (n-i) N ((i+1)*5) (n-i) dc ⟨g,i*5,none⟩ (n-i) sc row1.toArray 193 cs t24 hs5 hWg (by simp only[Nat.min_def];split<;>omega) hcl
   (fun j v hj=>by rw[kg];exact(VV hWv _).trans (hcget j v hj).1) (by rw[hcl,jy,hr1l];omega) hc1
  exact this
 have hgN:g≠N:=by omega
 have hvN:vb≠N:=by omega
 have hW2N:(W1.setRow N row1.toArray).heap[N]?=some (.cells row1.toArray 193 (0,0)):=setRow_heap _ _ _ _ _ _ hW1N;have hW2g:(W1.setRow N row1.toArray).heap[g]?=some (.cells cur 193 (0,0)):=(Ym _ hgN).trans hW1g;have hfin:∀W:World,W.heap=((W1.setRow N row1.toArray).setRow N (jh row1 ((i+1)*5) cs).toArray).heap->W.os=w.os->W.tape=w.tape->W.output=w.output->w.drawn<=W.drawn->W.heap[N]?=some (.cells (jh row1 ((i+1)*5) cs).toArray 193 (0,0))/\Fr True w (fun b=>b=N) W:=fun W e1 e2 e3 e4 e5=>by
  refine⟨by rw[e1];exact setRow_heap _ _ _ _ _ _ hW2N,e2,e3,e4,?_,fun _=>e5,fun k hk hn=>?_⟩
  ·rw[e1,<-hW1,setRow_size,setRow_size,Eu];exact Qj _
  ·rw[e1,Ym _ hn,Ym _ hn,<-hW1];exact er (w:=w.drew) _ hk
 have hm1:G<=9223372036854775807:=by unfold maxLen at hGm;omega
 have hGi:¬(G=i):=by omega
 have hGim:¬(G=i+1):=by omega
 have hci:¬(cap=i):=by omega
 rw[hN,hcsd,hvsd,hod];rw[hN,hW1]at hrz;clear hcsd hvsd hod hcl hvl hol hcget hvget hoget hc1 hv1' hold hG hROW hkk hik hi0 hz0 his hib hzc hr1l
 go_enter func225,Tryz.ntmps225
 go_wp2_with (first
  |(at_builtin;refine Lib.wpList_append_run _ rfl _ _ _ _ rfl _ _ rfl rfl _ _ (hrz _) ?_)
  |(at_builtin;refine wpList_copy_runI _ rfl _ _ 210 210 rfl _ _ rfl rfl (hcpA _ hW1N hW1v _ _) ?_)
  |(at_builtin;refine wpList_copy_runI _ rfl _ _ 210 210 rfl _ _ rfl rfl (hcpB _ hW2N hW2g _ _ _) ?_))
 go_region_law_o (refine step_copy_runI rfl _ _ 210 210 rfl (.slice (some ⟨N,(i+1)*5,none⟩) (n-i) (G-(i+1))) (.slice (some ⟨g,i*5,none⟩) (n-i) (cap-i)) (by simp[Act.eval,Act.put]) (by simp[Act.eval,Act.put]) (hcpB (W1.setRow N row1.toArray).drew hW2N hW2g 3 (G-(i+1)) (cap-i)) ?_)
 go_wp2
 go_ret
 subst hW1;subst hrow1;refine⟨G,ROW.toList,hGn,hGm,by simpa using hRl,hRo,rfl,?_⟩;refine hfin _ ?_ ?_ ?_ ?_ ?_
 ·rfl
 ·rfl
 ·rfl
 ·rfl
 ·first|exact Qj _|exact zG (Qj _) (Qj _)
theorem SF:Ud prog 225 193 5 56:=by
 intro w g A n i cap B c a C hi u k J m v o K D d E p q r;have b:(a.toList.take 5).length=5:=by simp;omega
 have f:((c.toList.take (n*5)).drop (i*5)).length=(n-i)*5:=by simp;omega
 unfold maxLen at k;by_cases h:n+1<=cap
 ·refine(Ev w g A n i cap B c a C hi h k v o D d E p q r).mono fun e w' x=>?_
  obtain⟨rfl,t,y⟩:=x;refine⟨g,cap,_,h,by unfold maxLen;exact k,rfl,.inl rfl,t,?_,y,fun j F=>?_⟩
  ·rw[jy,vu (by rw[vu (by rw[f,wN,d];omega),b,wN,d];omega),vu (by rw[f,wN,d];omega),wN,d]
  ·have:=Iu (l:=c.toList) (vs:=a.toList.take 5) (n:=n) (i:=i) (s:=5) (by omega) (by rw[wN,d];omega) b j F;simpa using this
 ·refine(Iv w g A n i cap B c a C hi u (by omega) m o D d E p q r).mono fun e w' x=>?_
  obtain⟨G,R,L,M,H,N,rfl,t,y⟩:=x;have z:(c.toList.take (i*5)).length=i*5:=by simp;omega
  have P:(i+1)*5=i*5+(a.toList.take 5).length:=by rw[b];omega
  rw[P]at t;refine⟨w.heap.size,G,_,L,M,rfl,.inr (zk _),t,?_,y,fun j F=>?_⟩
  ·rw[jy,vu (by rw[vu (by rw[b];omega),f,b];omega),vu (by rw[b];omega),H]
  ·have:=N8 (R:=R) (olds:=c.toList.take (i*5)) (vs:=a.toList.take 5) (cs:=(c.toList.take (n*5)).drop (i*5)) (I:=i*5) z N (by rw[b,f,H];omega) j (by rw[b,f];omega);simpa using this
end Go.Q
namespace Go.Q
noncomputable def ZG (c:Cut):List Cut->List Cut
 |[]=>[c]
 |a::l=>if wv a c<0 then a::ZG c l else if wv a c=0 then a::l else c::a::l
theorem sZ(c:Cut):∀(l:List Cut) (i:Nat),i<=l.length->(∀j (h:j<l.length),j<i->wv l[j] c<0)->(∀h:i<l.length,¬wv l[i] c<0)->((∃h:i<l.length,wv l[i] c=0)->ZG c l=l)/\((∀h:i<l.length,wv l[i] c≠0)->ZG c l=l.take i++c::l.drop i)
 |[],i,hi,_,_=>by
  obtain rfl:i=0:=by simpa using hi
  exact⟨fun⟨h,_⟩=>absurd h (by simp),fun _=>rfl⟩
 |a::l,0,_,_,b=>by
  have h:=b (by simp);simp only[cZ]at h;refine⟨fun⟨_,e⟩=>?_,fun d=>?_⟩
  ·simp only[cZ]at e;simp only[ZG];rw[zd h,ze e]
  ·have:=d (by simp);simp only[cZ]at this;simp only[ZG];rw[zd h,zd this];rfl
 |a::l,i+1,hi,f,b=>by
  have g:=f 0 (by simp) (by omega);simp only[cZ]at g;obtain⟨k,m⟩:=sZ c l i (by simpa using hi) (fun j n o=>f (j+1) (by simpa using n) (by omega)) (fun h=>b (by simpa using h));simp only[ZG];rw[ze g];refine⟨fun⟨h,e⟩=>?_,fun d=>?_⟩
  ·rw[k ⟨by simpa using h,e⟩]
  ·rw[m fun h=>d (by simpa using h)];rfl
theorem mr{c:Cut}:∀{l:List Cut},(∀a∈l,wv a c=0->a=c)->∀x,x∈ZG c l↔x=c\/x∈l
 |[],_,x=>by simp[ZG]
 |a::l,h,x=>by
  simp only[ZG];split
  ·rw[zv,mr (fun b d=>h b (by simp[d])) x,zv];constructor
   ·rintro (h|h|h)
    ·exact .inr (.inl h)
    ·exact .inl h
    ·exact .inr (.inr h)
   ·rintro (h|h|h)
    ·exact .inr (.inl h)
    ·exact .inl h
    ·exact .inr (.inr h)
  ·split
   ·rename_i e;have:=h a (by simp) e;subst this;simp
   ·simp
theorem fB{c:Cut}:∀{l:List Cut},(l.Pairwise fun a b=>wv a b<0)->(∀a∈l,wv a c=0->a=c)->(ZG c l).Pairwise fun a b=>wv a b<0
 |[],_,_=>by simp[ZG]
 |a::l,h,j=>by
  obtain⟨k,m⟩:=wG.1 h;simp only[ZG];split
  ·rename_i d;refine wG.2 ⟨fun x e=>?_,fB m fun b g=>j b (by simp[g])⟩;rcases(mr (fun b g=>j b (by simp[g])) x).1 e with rfl|e
   ·exact d
   ·exact k x e
  ·rename_i d;split
   ·exact h
   ·rename_i i;have f:wv c a<0:=by
     have:=we.UJ d;rcases XP this with h|h
     ·exact h
     ·exact absurd ((we.eq a c).2 h) i
    refine wG.2 ⟨fun x e=>?_,h⟩;rcases zv.1 e with rfl|e
    ·exact f
    ·exact we.trans f (k x e)
noncomputable def kS (l:List Cut):List Cut:=l.foldl (fun o c=>ZG c o) []
theorem fC:∀(l o:List Cut),(∀a∈l,a.xl)->(∀a∈o,a.xl)->(o.Pairwise fun a b=>wv a b<0)->((l.foldl (fun o c=>ZG c o) o).Pairwise fun a b=>wv a b<0)/\∀x,x∈l.foldl (fun o c=>ZG c o) o↔x∈l\/x∈o
 |[],o,_,_,e=>⟨e,fun x=>by simp⟩
 |c::l,o,f,g,e=>by
  have i:=f c (by simp);have j:∀a∈o,wv a c=0->a=c:=fun a d h=>gL (g a d) i h
  have k:=mr (l:=o) j;obtain⟨m,n⟩:=fC l (ZG c o) (fun a d=>f a (by simp[d])) (fun a d=>by
   rcases(k a).1 d with rfl|h
   ·exact i
   ·exact g a h) (fB e j)
  simp only[vA];refine⟨m,fun x=>?_⟩;rw[n x,k x,zv];constructor
  ·rintro (h|h|h)
   ·exact .inl (.inr h)
   ·exact .inl (.inl h)
   ·exact .inr h
  ·rintro ((h|h)|h)
   ·exact .inr (.inl h)
   ·exact .inl h
   ·exact .inr (.inr h)
theorem aU:∀(l o:List Cut),(l.foldl (fun o c=>ZG c o) o).length<=o.length+l.length
 |[],o=>by simp
 |c::l,o=>by
  have b:∀o:List Cut,(ZG c o).length<=o.length+1:=by
   intro o
   induction o with
   |nil=>simp[ZG]
   |cons a o d=>
    simp only[ZG];split
    ·simp only[zP];omega
    ·split<;>simp
  have:=aU l (ZG c o);have:=b o;simp only[vA,zP];omega
theorem Iw{a b:List q8}(d:jA a)(e:jA b):kS (qT (a++b))=l9 a b:=by
 rw[Q0];have f:∀c∈qT a++qT b,c.xl:=fun c g=>by
  rcases zK.1 g with h|h
  ·exact Xr d c h
  ·exact Xr e c h
 obtain⟨i,j⟩:=fC (qT a++qT b) [] f (fun a d=>by cases d) .nil;refine oN _ _ i (Ky d e) fun c=>?_
 unfold kS;rw[j c,JL,zK];simp
theorem Oa(f:Bool->Bool->Bool){a b:List q8}(d:jA a)(e:jA b):kI f a b=(KW (fun c=>f (yl a c) (yl b c)) (kS (qT (a++b))) (false,[])).2:=by rw[Iw d e];unfold kI l9;rw[lI]
theorem Ix{Y:Hp}{Z e s by_ i:Nat}{v:O}{xs:List zb}{c:zb}(h:wa Y Z e s v xs)(hi:i<xs.length)(d:(xs.length+1)*by_<=140737488355328)(f:xs.length+1<=maxLen) :
  fA e s by_ [v,int i,.own Z 0 1] (qR Y Z (some ⟨e,s,true,[c]⟩)) (Z+1)=some (.own (Z+1) 0 (xs.length+1),qR (Wb v (qR Y Z (some ⟨e,s,true,[c]⟩))) (Z+1) (some ⟨e,s,true,xs.take i++c::xs.drop i⟩),Z+2):=by
 obtain⟨id,hid,rfl,g⟩:=h.at_ (by omega);have n1:id≠Z:=by omega
 have a:qR Y Z (some ⟨e,s,true,[c]⟩) id=some ⟨e,s,true,xs⟩:=by rw[zM _ _ _ _ n1];exact g
 have b:(i:Int)<xs.length:=by omega
 unfold fA;simp only[a,wL];rw[ze (by refine⟨n1,?_,?_,?_,?_,?_,?_,?_,b,d,f⟩<;>first|trivial|rfl|omega)];simp[Wb]
theorem Ob{Y:Hp}{Z e s by_:Nat}{v:O}{xs:List zb}{b:Option kN}(h:wa Y Z e s v xs):fA e s by_ [v,int (xs.length:Nat),.own Z 0 1] (qR Y Z b) (Z+1)=none:=by
 rcases h with⟨rfl,rfl⟩|⟨id,hid,rfl,c⟩
 ·rfl
 ·unfold fA;simp only;split
  ·split
   ·rw[zd (fun a=>by have:=a.2.2.2.2.2.2.2.2.1;omega)]
   ·rfl
  ·rfl
theorem Oc{Y:Hp}{Z:Nat}{v:O}{xs:List zb}{c:zb}(h:wa Y Z 193 5 v xs)(d:xs.length<=1073741824) :
  yq C0 f225 [v,int (xs.length:Nat),.own Z 0 1] (qR Y Z (some ⟨193,5,true,[c]⟩)) (Z+1)=some (.own (Z+1) 0 (xs.length+1),qR (Wb v (qR Y Z (some ⟨193,5,true,[c]⟩))) (Z+1) (some ⟨193,5,true,xs++[c]⟩),Z+2):=by
 unfold yq;rw[ze (by simp[f225])];refine yQ rfl ?_;have a:=wa.y8 (P:=prog) (t:=210) (c:=c) h eT bB oo oq rfl (by omega) (by unfold maxLen;omega) (by omega);rcases h with⟨rfl,rfl⟩|⟨id,hid,rfl,b⟩
 ·simp at a;simp[yG,a,f225]
 ·have n1:¬id=Z:=by omega
  simp[yG,a,b,n1,f225]
noncomputable abbrev FZ:AM.Spec:=SE C0 f225 193 5 56
theorem BC:zf prog 225 FZ:=
 Et (BA ⟨_,func225,by decide,by kernel_rfl⟩ bB (by decide) SF) (kQ jS func225)
theorem Ew{Y:Hp}{Z i:Nat}{v:O}{xs:List zb}{c:zb}(h:wa Y Z 193 5 v xs)(hi:i<=xs.length)(b:xs.length<=1073741824) :
  FZ [v,int i,.own Z 0 1] (qR Y Z (some ⟨193,5,true,[c]⟩)) (Z+1)=some (.own (Z+1) 0 (xs.length+1),qR (Wb v (qR Y Z (some ⟨193,5,true,[c]⟩))) (Z+1) (some ⟨193,5,true,xs.take i++c::xs.drop i⟩),Z+2):=by
 unfold FZ SE;by_cases a:i<xs.length
 ·rw[Ix h a (by omega) (by unfold maxLen;omega)]
 ·obtain rfl:i=xs.length:=by omega
  rw[Ob h];simp only;rw[Oc h b,wJ,zn]
noncomputable def Od (l:List Cut):Option kN:=if kS l=[]then none else some ⟨193,5,true,qY (kS l)⟩
noncomputable abbrev Crsc:Ctx:=zR prog [(224,qy [.g jK,.g jK] (Ac fun v w=>int (wv v w))),(225,FZ)]
theorem SG:AM.Good Crsc (fun g=>[224].contains g):=qq mixed ⟨ZF,fun _=>yY _ _,BC,by simp,trivial⟩
theorem fD{l:List Cut}{k:Nat}(h:k<l.length):kS (l.take (k+1))=ZG l[k] (kS (l.take k)):=by unfold kS;rw[zX h,List.foldl_append];rfl
theorem BD{c:Cut}:∀{l:List Cut} {x:Cut},x∈ZG c l->x=c\/x∈l
 |[],x,h=>by simp only[ZG,yp]at h;exact .inl h
 |a::l,x,h=>by
  simp only[ZG]at h;split at h
  ·rcases zv.1 h with rfl|h
   ·exact .inr (by simp)
   ·exact(BD h).imp id fun h=>by simp[h]
  ·split at h
   ·exact .inr h
   ·rcases zv.1 h with rfl|h
    ·exact .inl rfl
    ·exact .inr h
theorem aV:∀{l o:List Cut} {x:Cut},x∈l.foldl (fun o c=>ZG c o) o->x∈l\/x∈o
 |[],o,x,h=>.inr h
 |c::l,o,x,h=>by
  rw[vA]at h;rcases aV h with h|h
  ·exact .inl (by simp[h])
  ·rcases BD h with rfl|h
   ·exact .inl (by simp)
   ·exact .inr h
theorem SH(c:Cut)(l:List Cut):ZG c l≠[]:=by
 cases l with
 |nil=>simp[ZG]
 |cons a l=>simp only[ZG];split<;>(try split)<;>simp
theorem Iy{l:List Cut}(h:kS l=[]):l.length=0:=by
 cases b:l.length with
 |zero=>rfl
 |succ k=>
  have a:k<l.length:=by omega
  have:=fD a;rw[qL (by omega),h]at this;exact absurd this.symm (SH _ _)
theorem Xu(l:List Cut):(qY l).length=l.length:=by simp[qY]
theorem Iz(o:List Cut)(i:Nat)(c:Cut):(qY o).take i++c.V::(qY o).drop i=qY (o.take i++c::o.drop i):=by simp[qY]
theorem s8(l:List Cut)(hs:∀c∈l,c.v.small)(hl:l.length<=1073741824):∃x Y Z,jJ Crsc f195 [.sl 5 (qY l)] (fun _=>none) 0=some (x,Y,Z)/\Aq jK (Od l) x Y Z:=by
 refine qF rfl ?_;have N:=Xu l;simp[N];refine zF (fun k U Y Z=>U 7=.sl 5 (qY l)/\U 8=int l.length/\U 9=int k/\wa Y Z 193 5 (U 3) (qY (kS (l.take k)))/\(k=0->U 3=.nil)) l.length
  ⟨by simp,by simp,by simp,.inl ⟨by simp,by simp[kS,qY]⟩,by simp⟩ ?_
 rintro k U Y Z hk ⟨u,w,y,n,h0⟩;have Q:=aU (l.take k) [];have C:kS (l.take k)=(l.take k).foldl (fun o c=>ZG c o) []:=rfl;rw[<-C,kv,wB]at Q;have D:∀x∈kS (l.take k),x.v.small:=fun x hx=>by
  rw[C]at hx;rcases aV hx with h|h
  ·exact hs x (JQ h)
  ·cases h
 by_cases r:k<l.length
 ·obtain⟨c,hc⟩:=yx (l[k]);have hcs:c.v.small:=hs c (by rw[<-hc];exact zj r);have R:∀h:k<(qY l).length,(qY l)[k]=c.V:=fun h=>by simp[qY,hc]
  have G:=ql k;have H:=fD r;rw[hc]at H;obtain⟨o,ho⟩:=yx (kS (l.take k));rw[ho]at n Q D H;have d:=Xu o;obtain⟨P,hP⟩:=yx Z;obtain⟨v,hv⟩:=yx (U 3);rw[hv]at n;simp only[Cut.V]at R;simp[u,w,y,r,N,R];rw[hP]at n⊢;refine zF (fun i U Y Z=>U 7=.sl 5 (qY l)/\U 8=int l.length/\U 9=int k/\U 3=v/\U 5=.ref P 0 0/\U 6=int i/\P<Z/\Y P=some ⟨193,5,false,[c.V]⟩/\wa Y Z 193 5 v (qY o)/\∀j (h:j<o.length),j<i->wv o[j] c<0) o.length
   ⟨by simp[u],by simp[w],by simp[y],by simp[hv],by simp,by simp,(by show P<P+1;omega),by simp[Cut.V],n.more _,fun j _ h=>absurd h (by omega)⟩ ?_
  clear u w y h0 hv n U Y hP Z;rintro i U Y Z hi ⟨u,w,y,T,W,X,hPn,S,n,s⟩;have hwi:=ql i;have g:=n.len eT;rw[d]at g;simp only[Cut.V]at S;have nP:¬P=Z:=by omega
  have p:=fun(hi:i<=o.length)=>Ew (i:=i) (c:=[int c.v.a,int c.v.b,int c.v.c,.sl 1 (zx c.v.pre),wo c.after]) n (by rw[d];exact hi) (by rw[d];omega)
  rw[d]at p;have E:=Iz o i c;simp only[Cut.V]at E;rw[E]at p;have t:∀o',ZG c o=o'->kS (l.take (k+1))=o':=fun o' e=>by rw[H,e]
  by_cases hit:i<o.length
  ·obtain⟨id,hid,I,hb⟩:=n.at_ (by rw[d];omega);obtain⟨q,M⟩:=yx (o[i]);have hqs:q.v.small:=D q (by rw[<-M];exact zj hit);have z:∀h:i<(qY o).length,(qY o)[i]=q.V:=fun h=>by simp[qY,M]
   have A:=fun Y Z=>Jy q c Y Z hqs hcs
   simp only[Cut.V]at z A;have hat:=sZ c o i (by omega) s;by_cases m:wv q c<0
   ·subst I;simp[u,w,y,T,W,X,g,d,hit,hb,z,S,A,m,hwi];have J:∀j (h:j<o.length),j<i+1->wv o[j] c<0:=fun j h hj=>by
     rcases Nat.lt_or_ge j i with h1|h1
     ·exact s j h h1
     ·obtain rfl:j=i:=by omega
      rw[M];exact m
    exact⟨by omega,hPn,rfl,(by rw[d]at n;exact n),J⟩
   ·have F:=hat fun _=>by rw[M];exact m
    by_cases B:wv q c=0
    ·have h1:=F.1 ⟨hit,by rw[M];exact B⟩;have K:((i:Int)==o.length)=false:=by rw[jk];omega
     subst I;simp[u,w,y,T,W,X,g,d,hit,hb,z,S,A,m,B,K,G];exact⟨r,by rw[t _ h1];rw[d]at n;exact n⟩
    ·have h1:=F.2 fun _=>by rw[M];exact B
     have hz':=xN B;have K:((i:Int)==o.length)=false:=by rw[jk];omega
     have f:=p (by omega);subst I;rw[d]at f;have L:(qY (o.take i++c::o.drop i)).length=o.length+1:=by rw[Xu];simp;omega
     simp[u,w,y,T,W,X,g,d,hit,hb,z,S,A,m,B,hz',K,f,nP,G,zr,zJ,zp];exact⟨r,by rw[t _ h1];exact .inr ⟨Z+1,by omega,by rw[L],by simp⟩⟩
  ·obtain rfl:i=o.length:=by omega
   have h1:=(sZ c o o.length (zk _) s (fun h=>absurd h (by omega))).2 (fun h=>absurd h (by omega));have f:=p (zk _);simp[u,w,y,T,W,X,g,d,S,f,nP,G,zr,zJ,zp];rw[wJ,zn]at h1;have L:(qY (o++[c])).length=o.length+1:=by rw[Xu];simp
   exact⟨r,by rw[t _ h1];exact .inr ⟨Z+1,by omega,by rw[L],by simp⟩⟩
 ·obtain rfl:k=l.length:=by omega
  rw[wJ]at n;simp[u,w,y,f195];unfold Od;rcases n with⟨e1,e2⟩|⟨id,hid,e1,e2⟩
  ·have:kS l=[]:=by simpa[qY]using e2
   rw[ze this];exact e1
  ·by_cases B:kS l=[]
   ·rw[ze B];exact h0 (Iy B)
   ·rw[zd B];exact⟨id,_,e1,e2,rfl,by simp[dQ,qY,Cut.V]⟩
noncomputable def FSc:zb->Option (Option kN):=qf (α:=List Cut) (fun l=>[.sl 5 (qY l)]) (fun l=>(∀c∈l,c.v.small)/\l.length<=1073741824) Od
theorem IA{a b:List Cut}(h:qY a=qY b):a=b:=yX (fun _ _ e=>QH e) h
theorem zaZ:∀a b:List Cut,[O.sl 5 (qY a)]=[O.sl 5 (qY b)]->a=b:=fun a b e=>by
 simp only[zh,zA]at e;injection e with _ e
 exact IA e
theorem nG:zf prog 195 (vE [.s 5 jK] FSc):=
 Y6 (fn:=f195) SG (qN func195) _ jK _ fun args r h=>by obtain⟨l,rfl,⟨a,b⟩,rfl⟩:=zN h;exact⟨by simp[f195],s8 l a b⟩
theorem Oe(l:List Cut):(qY l).map (Qq jK)=qY l:=by simp[qY,Cut.V]
theorem s9{Y:Hp}{Z:Nat}{v:O}{l:List Cut}(h:wa Y Z 193 5 v (qY l))(hs:∀c∈l,c.v.small)(g:l.length<=1073741824) :
  ∃x d b,vE [.s 5 jK] FSc [v] Y Z=some (x,d,b)/\wa d b 193 5 x (qY (kS l))/\Z<=b:=by
 have hF:∀y Y1,qD Y v=some (y,Y1)->(Sh.s 5 jK).fix y=.sl 5 (qY l)->∃x d b,vE [.s 5 jK] FSc [v] Y Z=some (x,d,b)/\wa d b 193 5 x (qY (kS l))/\Z<=b:=by
  intro y Y1 i j;have e:zD Y [v]=some ([y],Y1):=by simp only[zD,i]
  have k:FSc (bH [.s 5 jK] (yj [] [y]))=some (Od l):=by show FSc [(Sh.s 5 jK).fix y]=_;rw[j];exact qM (V:=fun l:List Cut=>[O.sl 5 (qY l)]) (a:=l) zaZ ⟨hs,g⟩
  unfold vE yI;simp only[e,k];unfold Od;by_cases f:kS l=[]
  ·rw[ze f];exact⟨.nil,Y1,Z,rfl,.inl ⟨rfl,by rw[f];rfl⟩,zk _⟩
  ·rw[zd f];exact⟨_,_,_,rfl,.inr ⟨Z,by omega,rfl,by simp⟩,by omega⟩
 rcases h with⟨rfl,m⟩|⟨id,o,rfl,n⟩
 ·exact hF .nil Y rfl (by rw[m];rfl)
 ·exact hF (.sl 5 (qY l)) (qR Y id none) (by simp[n]) (by rw[Sh.mN,Oe])
theorem IB{a b:List q8}(f:a.length<=zw)(g:b.length<=zw){Y:Hp}{Z id e:Nat}(h:Y id=some ⟨e,1,true,[[.sl 11 (qa a)],[.sl 11 (qa b)]]⟩) :
  zg true [] pw [.own id 0 2] Y Z=some (.sl 11 (qa (a++b)),qR Y id none,Z):=by
 have hF:pw [.sl 1 [[.sl 11 (qa a)],[.sl 11 (qa b)]]]=some (.sl 11 (qa (a++b))):=by
  unfold pw N7;exact qM (V:=fun a:List q8×List q8=>[O.sl 1 [[.sl 11 (a.1.map q8.V)],[.sl 11 (a.2.map q8.V)]]]) (a:=(a,b)) (fun x y e=>by obtain⟨i,j⟩:=x;obtain⟨k,l⟩:=y;simp only[zh,zA]at e;injection e with _ e;simp only[zh,zA]at e;obtain⟨c,d⟩:=e;injection c with _ c;injection d with _ d;rw[ZC c,ZC d]) ⟨f,g⟩
 simp[zg,zD,qD,wV,h,yj,hF,O.flat,O.noOwn]
noncomputable abbrev Ctog:Ctx:=zR prog [(194,zg true [] pw),(195,vE [.s 5 jK] FSc),(197,qy [.s 11 jn,.g jK] (FRC fun l c=>wo (yl l c))),(196,zg false [] FTk)]
theorem SI:AM.Good Ctog (fun g=>[197,196].contains g):=qq mixed ⟨nF,by simp,nG,by simp,nz,fun _=>yY _ _,Bi,fun _=>zu _ _,trivial⟩
theorem IC(w:Int)(a b:List q8)(ha:jP a)(hb:jP b)(hga:jA a)(hgb:jA b) :
  ∃x Y Z,jJ Ctog f171 [int w,.sl 11 (qa a),.sl 11 (qa b)] (fun _=>none) 0=some (x,Y,Z)/\Aq jn (Wf (Qw w) a b) x Y Z:=by
 refine qF rfl ?_;have hsa:=ha;have hsb:=hb;obtain⟨ha1,ha2⟩:=ha;obtain⟨hb1,hb2⟩:=hb;have hcat:=fun Y Z id e h=>IB ha1 hb1 (Y:=Y) (Z:=Z) (id:=id) (e:=e) h
 unfold zw at ha1 hb1;have B:=Oa (Qw w) hga hgb;obtain⟨l,hl⟩:=yx (a++b);rw[hl]at B hcat;have hll:l.length<=536870912:=by rw[<-hl];simp;omega
 have hlsm:∀s∈l,s.small:=fun s hs=>by
  rw[<-hl]at hs;rcases zK.1 hs with h|h
  ·exact ha2 s h
  ·exact hb2 s h
 have hel:(qa l).length=l.length:=by simp[qa]
 have zen:=hcat (qR (fun _=>none) 0 (some ⟨169,1,true,[[.sl 11 (qa a)],[.sl 11 (qa b)]]⟩)) 1 0 169 (by simp);simp[zr,zJ,zp,zen,hel];refine zF (fun k U Y Z=>U 0=int w/\U 1=.sl 11 (qa a)/\U 2=.sl 11 (qa b)/\wa Y Z 193 5 (U 7) (qY (qT (l.take k))) /\
   U 18=.sl 11 (qa l)/\U 19=int l.length/\U 20=int k) l.length
   ⟨by simp,by simp,by simp,.inl ⟨by simp,by simp[qT,qY]⟩,by simp,by simp,by simp⟩ ?_
 rintro k U Y Z hk ⟨G,H,I,F,UG,UH,Ls⟩;by_cases f:k<l.length
 ·have z:=ql k;have q:∀h:k<(qa l).length,(qa l)[k]=l[k].V:=fun h=>by simp[qa]
  have hcn:=ZD (l.take k);rw[wB]at hcn;have E7:=oQ f;obtain⟨xs,g⟩:=yx (qY (qT (l.take k)));have r:xs.length<=1073741824:=by rw[<-g];simp[qY];omega
  rw[g]at F;have hE:qY (qT (l.take (k+1)))=xs++(if l[k].kc=true then[l[k].lo]else[l[k].lo,l[k].hi]).map Cut.V:=by rw[E7,oR,g];rfl
  have Tv:=fun Y'=>yO F Y' Z (Aw F (zk _))
  obtain⟨s,hs⟩:=yx (l[k]);rw[hs]at E7 q hE;have p:=wa.y8 (P:=prog) (t:=210) (c:=s.lo.V) (F.more (some ⟨195,11,false,[s.V]⟩)) eT bB oo oq rfl (by omega) (by unfold maxLen;omega) (by omega);have J:=wa.after (Y:=qR Y Z (some ⟨195,11,false,[s.V]⟩)) (Z:=Z+1) (e:=193) (s:=5) (v:=U 7) (xs:=xs) (c:=s.lo.V) (tmp:=some ⟨193,5,true,[s.lo.V]⟩);have u:=wa.y8 (P:=prog) (t:=210) (c:=s.hi.V) J eT bB oo oq rfl (by omega) (by simp;unfold maxLen;omega) (by simp;omega);rw[show(xs++[s.lo.V]).length=xs.length+1 by simp,q5,show[s.lo.V]++[s.hi.V]=[s.lo.V,s.hi.V]from rfl]at u;have K:=wa.after (Y:=qR (Wb (U 7) (qR (qR Y Z (some ⟨195,11,false,[s.V]⟩)) (Z+1) (some ⟨193,5,true,[s.lo.V]⟩))) (Z+1+1) (some ⟨193,5,true,xs++[s.lo.V]⟩)) (Z:=Z+1+2) (e:=193) (s:=5) (v:=.own (Z+1+1) 0 (xs.length+1)) (xs:=xs++[s.lo.V]) (c:=s.hi.V) (tmp:=some ⟨193,5,true,[s.hi.V]⟩);rw[show(xs++[s.lo.V]).length=xs.length+1 by simp,q5,show[s.lo.V]++[s.hi.V]=[s.lo.V,s.hi.V]from rfl]at K;simp only[q8.V,Cut.V,q7,ku]at p u J K q;have m1:¬Z=Z+1+1:=by omega
  have m2:¬Z=Z+1+2:=by omega
  have m3:¬Z=Z+1+2+1:=by omega
  cases C:s.kc
  ·rw[C]at E7;rw[C]at p u J K q;simp[G,H,I,UG,UH,Ls,f,hel,q,p,u,Tv,z,m1,m2,m3,zr,zJ,zp];refine⟨by omega,?_⟩;rw[hE,C];simp only[zq,qn,wc,KH,Cut.V];exact K
  ·rw[C]at E7;rw[C]at p u J K q;simp[G,H,I,UG,UH,Ls,f,hel,q,p,Tv,z,m1,m2,m3,zr,zJ,zp];refine⟨by omega,?_⟩;rw[hE,C];simp only[qB,wc,KH,Cut.V];exact J
 ·obtain rfl:k=l.length:=by omega
  rw[wJ]at F;have E4:∀c∈qT l,c.v.small:=Yh (Q:=fun c=>c.v.small) hlsm;have hcl:=ZD l;obtain⟨v,Y',Z',L,PK,Tz⟩:=s9 F E4 (by omega);obtain⟨cs,hcs⟩:=yx (kS (qT l));have hcsl:cs.length<=1073741824:=by have:=aU (qT l) [];rw[<-hcs];unfold kS;simp at this;omega
  have hcsm:∀c∈cs,c.v.small:=fun c hc=>by
   rw[<-hcs]at hc;rcases aV hc with h|h
   ·exact E4 c h
   ·cases h
  rw[hcs]at B PK;have hfin:=B;obtain⟨is,his⟩:∃is:Cut->Bool,(fun c=>Qw w (yl a c) (yl b c))=is:=⟨_,rfl⟩;have hisc:∀c,Qw w (yl a c) (yl b c)=is c:=fun c=>by rw[<-his]
  rw[his]at hfin;clear F hcs E4 B;have M:=PK.len eT;have j:(qY cs).length=cs.length:=by simp[qY]
  rw[j]at M;simp[G,H,I,UG,UH,Ls,L,M];refine zF (fun k U Y Z=>U 0=int w/\U 1=.sl 11 (qa a)/\U 2=.sl 11 (qa b)/\U 40=v/\U 41=int cs.length/\U 42=int k/\wa Y Z 193 5 v (qY cs)/\∃xs,wa Y Z 195 11 (U 10) xs/\xs.map (Qq jn)=qa (KW is (cs.take k) (false,[])).2 /\
    U 11=wo (KW is (cs.take k) (false,[])).1/\(∀id n m,v=.own id 0 n->U 10≠.own id 0 m)/\((KW is (cs.take k) (false,[])).1=true->(KW is (cs.take k) (false,[])).2≠[])/\xs.length<=k/\(xs=[]->U 10=.nil)) cs.length
   ⟨by simp[G],by simp[H],by simp[I],by simp,by simp,by simp,PK,[],.inl ⟨by simp,rfl⟩,by simp[KW,qa],by simp[KW],by simp,by simp[KW],by simp,by simp⟩ ?_
  clear G H I UG UH Ls PK hk f U Y Z L M Tz Y' Z';rintro k U Y Z hk ⟨G,H,I,N,R,S,F,xs,hX,g,D,nS,T,hxk,hxn⟩;by_cases f:k<cs.length
  ·have z:=ql k;obtain⟨id,hid,rfl,hh⟩:=F.at_ (by rw[j];omega);have o:=Av is f (false,[]);obtain⟨st,Pk⟩:=yx (KW is (cs.take k) (false,[]));obtain⟨c,hc⟩:=yx (cs[k]);rw[hc,Pk]at o;rw[Pk]at g D T;have W:=Au is st c T;have y:c.v.small:=hcsm c (by rw[<-hc];exact zj f);have q:∀h:k<(qY cs).length,(qY cs)[k]=c.V:=fun h=>by simp[qY,hc]
   have X:=fun Y Z=>bZ a c Y Z hsa y
   have Gr:=fun Y Z=>bZ b c Y Z hsb y
   have d:=fun Y Z=>VL w (yl a c) (yl b c) Y Z
   rw[hisc c]at d;simp only[Cut.V]at X Gr q;have m0:¬id=Z:=by omega
   have m1:¬id=Z+1:=by omega
   have m2:¬id=Z+1+1:=by omega
   rw[j]at F;have hki:=fun Y'=>yO hX Y' id (fun n=>nS id _ n rfl)
   have Pl:X7 is st c=(is c,if(is c&&!st.1)=true then st.2++[wZ c]else if(!is c&&st.1)=true then Qb st.2 c else st.2):=rfl;rw[Pl]at o;rw[Pl]at W;simp only at W;obtain⟨op,out⟩:=st;simp only at g D T W;cases hb:is c<;>cases op
   ·rw[hb]at d o;simp at o;simp[G,H,I,N,R,S,j,f,hh,q,X,Gr,d,-VL,D,z,m0,o];exact⟨by omega,F.more _,xs,hX.more _,g,fun i n m e _=>nS i _ m (by rw[e]),by omega,hxn⟩
   ·rw[hb]at d o;simp at o;have hne:=T rfl;obtain⟨m,hm⟩:∃m,out.length=m+1:=⟨out.length-1,by have:=jl.2 hne;omega⟩;have r:xs.length=m+1:=by have:=zt List.length g;simp[qa]at this;omega
    obtain⟨E,hid2,A,hh2⟩:=hX.at_ (by omega);have Cz:¬E=id:=fun e=>nS id _ _ rfl (by rw[A,e])
    have Pm:¬id=E:=fun e=>Cz e.symm
    have p0:¬E=Z:=by omega
    rw[r]at A;have Tw:m<xs.length:=by omega
    have hlo:m<out.length:=by omega
    have hrm:Qq jn xs[m]=out[m].V:=by
     have e1:(xs.map (Qq jn))[m]?=(qa out)[m]?:=by rw[g]
     simp only[qo,zl Tw,qa,zl hlo,zy,zW]at e1;exact e1
    obtain⟨x3,x5,x6,x7,x8,x9,x10,Ld,Tx,CA⟩:=oP hrm;have wm:=wu (m:Int);have wm1:i6.wrap ((m:Int)+1-1)=(m:Int):=by rw[wR (by omega) (by omega)];omega
    simp[G,H,I,N,R,S,j,f,hh,q,X,Gr,d,-VL,D,z,m0,o,A,hh2,p0,wm,wm1,Tw,Ld,CA,yS];refine⟨by omega,.inr ⟨id,by omega,by rw[j],by simp[Pm,m0,hh]⟩,xs.set m [int out[m].lo.v.a,int out[m].lo.v.b,int out[m].lo.v.c,x3,wo out[m].lo.after,int c.v.a,int c.v.b,int c.v.c,.sl 1 (zx c.v.pre),wo c.after,wo false],.inr ⟨E,by omega,by simp[r],by simp⟩,?_,fun i n k' e _ e2=>absurd (e2.trans e.symm) Cz,by simp;omega,fun e=>by have:=zt List.length e;rw[Xz,r]at this;cases this⟩;rw[List.map_set,g,ff hlo hm c,qa,qa,List.map_set];simp[Tx,q8.V,Cut.V]
   ·rw[hb]at d o;simp at o;have p:=wa.y8 (P:=prog) (t:=169) (c:=[int c.v.a,int c.v.b,int c.v.c,.sl 1 (zx c.v.pre),wo c.after,int 0,int 0,int 0,.nil,wo false,wo true]) (hX.more (some ⟨193,5,false,[c.V]⟩)) Fl ot uH uI rfl (by omega) (by unfold maxLen;omega) (by omega);simp only[Cut.V]at p;simp[G,H,I,N,R,S,j,f,hh,q,X,Gr,d,-VL,D,z,m0,o,p,qb,qE,zr,zJ,zp];refine⟨by omega,.inr ⟨id,by omega,by rw[j],by simp[hki,hh,m0,m1,m2]⟩,xs++[[int c.v.a,int c.v.b,int c.v.c,.sl 1 (zx c.v.pre),wo c.after,int 0,int 0,int 0,.nil,wo false,wo true]],by simpa using wa.after,?_,fun i n m e _ e2=>by omega,by simp;omega⟩;rw[nR,g];simp[qa,wZ,q8.V,Cut.V,Qt,zx]
   ·rw[hb]at d o;simp at o;simp[G,H,I,N,R,S,j,f,hh,q,X,Gr,d,-VL,D,z,m0,o];exact⟨by omega,F.more _,xs,hX.more _,g,fun i n m e _=>nS i _ m (by rw[e]),T rfl,by omega,hxn⟩
  ·obtain rfl:k=cs.length:=by omega
   rw[wJ]at g;rw[<-hfin]at g;have r:xs.length=(kI (Qw w) a b).length:=by have:=zt List.length g;simpa[qa]using this
   simp[G,H,I,N,R,S,f171];unfold Wf;rcases hX with⟨A,rfl⟩|⟨E,hid2,A,hh2⟩
   ·rw[ze (zT.1 r.symm)];exact A
   ·by_cases hz:kI (Qw w) a b=[]
    ·rw[ze hz];rw[hz]at r;exact hxn (zT.1 r)
    ·rw[zd hz];refine⟨E,_,A,hh2,rfl,?_⟩;simp only[dQ,g]
noncomputable def ID:zb->Option (Option kN):=qf (α:=Int×List q8×List q8) (fun a=>[int a.1,.sl 11 (qa a.2.1),.sl 11 (qa a.2.2)]) (fun a=>(jP a.2.1/\jP a.2.2)/\jA a.2.1/\jA a.2.2) (fun a=>Wf (Qw a.1) a.2.1 a.2.2)
theorem SJ:∀a b:Int×List q8×List q8,[int a.1,O.sl 11 (qa a.2.1),.sl 11 (qa a.2.2)]=[int b.1,.sl 11 (qa b.2.1),.sl 11 (qa b.2.2)]->a=b:=by rintro⟨g,h,i⟩ ⟨j,k,l⟩ e;simp only[zh,zA]at e;obtain⟨c,d,f⟩:=e;injection c with c;injection c with _ c;injection d with _ d;injection f with _ f;rw[c,ZC d,ZC f]
theorem mu:zf prog 171 (vE [.a,.s 11 jn,.s 11 jn] ID):=
 Y6 (fn:=f171) SI (qN func171) _ jn _ fun args r h=>by obtain⟨⟨w,a,b⟩,rfl,⟨⟨c,d⟩,e,f⟩,rfl⟩:=zN h;exact⟨by simp[f171],IC w a b c d e f⟩
def c8(Y:Hp)(Z:Nat)(v:O)(m:List q8):Prop:=(v=.nil/\m=[])\/∃id xs,id<Z/\v=.own id 0 xs.length/\Y id=some ⟨195,11,true,xs⟩/\xs.map (Qq jn)=qa m
theorem c8.frz{Y:Hp}{Z:Nat}{v:O}{m:List q8}(h:c8 Y Z v m):∃y Y1,qD Y v=some (y,Y1)/\(Sh.s 11 jn).fix y=.sl 11 (qa m)/\(∀j,(∀n,v≠.own j 0 n)->Y1 j=Y j):=by
 rcases h with⟨rfl,rfl⟩|⟨id,xs,d,rfl,a,b⟩
 ·exact⟨_,Y,rfl,rfl,fun _ _=>rfl⟩
 ·exact⟨.sl 11 xs,qR Y id none,by simp[a],by rw[Sh.mN,b],fun j c=>zM _ _ _ _ fun e=>c _ (by subst e;rfl)⟩
theorem c8.keep{Y a:Hp}{Z b:Nat}{v:O}{m:List q8}(h:c8 Y Z v m)(g:Z<=b)(c:∀id,id<Z->(∀n,v=.own id 0 n->a id=Y id)):c8 a b v m:=by
 rcases h with⟨rfl,rfl⟩|⟨id,xs,d,rfl,e,f⟩
 ·exact .inl ⟨rfl,rfl⟩
 ·exact .inr ⟨id,xs,by omega,rfl,by rw[c id d _ rfl];exact e,f⟩
theorem c8.len{Y:Hp}{Z:Nat}{v:O}{m:List q8}(h:c8 Y Z v m):JT prog 169 v=some (int m.length):=by
 rcases h with⟨rfl,rfl⟩|⟨id,xs,b,rfl,c,a⟩
 ·simp
 ·have:=zt List.length a;simp[qa]at this;simp[this]
theorem c8.box{Y:Hp}{Z:Nat}{v:O}{m:List q8}(h:c8 Y Z v m){j:Nat}{b:kN}(a:Y j=some b)(c:b.e≠195):∀n,v≠.own j 0 n:=by
 rcases h with⟨rfl,rfl⟩|⟨id,xs,f,rfl,d,g⟩
 ·intro n e;cases e
 ·intro n e;injection e with e
  subst e;rw[d]at a;injection a with a
  subst a;exact c rfl
theorem BE(c:Int)(f:Bool->Bool->Bool)(m:Qw c=f){Y:Hp}{Z:Nat}{v:O}{a b:List q8}(o:c8 Y Z v a)(p:jP a)(q:jP b)(r:jA a)(t:jA b) :
  ∃x g h,vE [.a,.s 11 jn,.s 11 jn] ID [int c,v,.sl 11 (qa b)] Y Z=some (x,g,h)/\c8 g h x (kI f a b)/\Z<=h/\∀j,j<Z->(∀n,v≠.own j 0 n)->g j=Y j:=by
 obtain⟨y,Y1,u,w,l⟩:=o.frz;have e:zD Y [int c,v,.sl 11 (qa b)]=some ([int c,y,.sl 11 (qa b)],Y1):=by have z:qD Y (int c)=some (int c,Y):=rfl;have A:qD Y1 (.sl 11 (qa b))=some (.sl 11 (qa b),Y1):=rfl;simp only[zD,z,u,A]
 have hF:ID (bH [.a,.s 11 jn,.s 11 jn] (yj [] [int c,y,.sl 11 (qa b)]))=some (Wf f a b):=by show ID [Sh.a.fix (int c),(Sh.s 11 jn).fix y,(Sh.s 11 jn).fix (.sl 11 (qa b))]=_;rw[w,JA,<-m];exact qM (V:=fun a:Int×List q8×List q8=>[int a.1,O.sl 11 (qa a.2.1),.sl 11 (qa a.2.2)]) (a:=(c,a,b)) SJ ⟨⟨p,q⟩,r,t⟩
 unfold vE yI;by_cases i:kI f a b=[]
 ·have d:=hF;unfold Wf at d;rw[ze i]at d;simp only[e,d];exact⟨_,_,_,rfl,.inl ⟨rfl,i⟩,zk _,fun j _ k=>l j k⟩
 ·have d:=hF;unfold Wf at d;rw[zd i]at d;simp only[e,d];exact⟨_,_,_,rfl,.inr ⟨Z,qa (kI f a b),by omega,rfl,by simp,by have:=JA (kI f a b);simpa[Sh.mN]using this⟩,by omega,fun j B k=>by rw[zM _ _ _ _ (by omega)];exact l j k⟩
theorem zdI:Qw 1=and:=by funext a b;simp[Qw]
theorem zdJ:Qw 0=or:=by funext a b;simp[Qw]
theorem ta:∀(c:List za) (l:List ae) (n:Nat),jQ c=some l->(∀w∈c,w.length<=n)->l.length<=c.length/\∀a∈l,a.2.length<=n
 |[],l,n,h,_=>by simp only[jQ]at h;injection h with h;subst h;simp
 |[w],l,n,h,d=>by
  simp only[jQ]at h;split at h
  ·cases h
  ·injection h with h;subst h;refine⟨by simp,fun a b=>?_⟩;rw[yp]at b;rw[b];exact zG (Kj q9 w) (d w (by simp))
 |w::x::c,l,n,h,d=>by
  simp only[jQ]at h;split at h
  ·cases e:jQ c with
   |none=>rw[e]at h;cases h
   |some l'=>
    rw[e]at h;simp only[zy,zW]at h;subst h;obtain⟨i,f⟩:=ta c l' n e fun y g=>d y (by simp[g])
    refine⟨by simp;omega,fun a b=>?_⟩;rcases zv.1 b with rfl|b
    ·exact d x (by simp)
    ·exact f a b
  ·cases e:jQ (x::c)with
   |none=>rw[e]at h;cases h
   |some l'=>
    rw[e]at h;simp only[zy,zW]at h;subst h;obtain⟨i,f⟩:=ta (x::c) l' n e fun y g=>d y (by simp[zv.1 g])
    refine⟨by simp at i⊢;omega,fun a b=>?_⟩;rcases zv.1 b with rfl|b
    ·exact zG (Kj q9 w) (d w (by simp))
    ·exact f a b
theorem BF{t:za}{l:List ae}(h:jQ (yF t)=some l):l.length<=t.length+1/\∀a∈l,a.2.length<=t.length:=by
 have c:wq (qg t [32])=yF t:=eo t;obtain⟨e,d⟩:=ta _ l t.length h fun w b=>by rw[<-c]at b;exact xh (UB.1 b).1
 have f:(yF t).length<=t.length+1:=by rw[<-c];exact zG (zbf _ _) (xT (by simp))
 exact⟨by omega,d⟩
theorem pA{o:za}{p:Part}(a:nB o)(Y:p.ok)(b:Qd p.pre):jA (aR o p).1/\(aR o p).1.length<=1:=by
 obtain⟨c,d⟩:=Xh (Bv a Y b);unfold aR;by_cases h:(vB (Jv o p)).2=true
 ·rw[ze h];exact⟨d,c⟩
 ·rw[zd h];exact⟨(fun s hs=>by cases hs),by simp⟩
theorem SK(a b:za):((⟨a.toArray⟩:ByteArray)==⟨b.toArray⟩)=decide (a=b):=by show(a.toArray==b.toArray)=_;by_cases h:a=b<;>simp[h]
theorem Of(a b c d:za):ZV prog .eql 221 (.agg [str a,str b]) (.agg [str c,str d])=some (wo (decide (a=c)&&decide (b=d))):=by simp only[ZV,zdd,wU,zy,Bool.and_true,SK]
noncomputable def WG (t:za):List q8×Int:=match K4 t with
 |none=>([],10)
 |some m=>(m.1,if m.2=true then 0 else 1)
noncomputable def Yn (t:za):O:=.wP [.sl 11 (qa (WG t).1),int (WG t).2]
def AltI(l:List ae)(k:Nat)(Y:Hp)(Z:Nat)(v w:O):Prop:=∃o a,c8 Y Z v o/\jA o/\o.length<=k+1/\w=int (if a=true then 0 else 1)/\Zp [wZ qU] true l=Zp o a (l.drop k)
noncomputable abbrev Ue:Ctx:=zR prog [(188,zg false [] (Ln nD)),(189,zg false [] FBt2),(190,qy [] (Yf dH)),(191,zg false [] (FS yk)),(192,zg false [] (XB El)),(193,qy [.a,.g va] Sy),(171,vE [.a,.s 11 jn,.s 11 jn] ID)]
theorem Og:AM.Good Ue (fun g=>[189].contains g):=qq mixed ⟨sW,by simp,mq,fun _=>zu _ _,cC,by simp,nw,by simp,Yl,by simp,mj,by simp,mu,by simp,trivial⟩
theorem IE(t:za)(ht:t.length+1<=zw):∃r0,zo Ue f170 [str t]=some r0/\qX r0 (Yn t):=by
 refine yB (sh:=.s 11 jn) rfl ?_;have hwo:∀(Y:Hp) (Z:Nat),zg false [] (Ln nD) [str t] Y Z=some (nD t,Y,Z):=fun Y Z=>XX t _ _ rfl (fun a b e=>wb (by injection e)) (by show t.length<=zw;omega) (.inr (by simp))
 refine Qf (fun st=>st.U 0=str t) (by simp) ?_;rintro⟨U,Y,Z⟩ h0;simp only at h0;refine Qf (fun st=>st.U 4=.sl 2 (QO (gp t).1)/\st.U 5=wo (gp t).2) (by simp[h0,hwo,nD]) ?_;clear h0 U Y Z;rintro⟨U,Y,Z⟩ ⟨y,M⟩;simp only at y M;cases E:jQ (yF t)with
 |none=>
  have hr:gp t=([],false):=by unfold gp;rw[E]
  have H:WG t=([],10):=by unfold WG K4;rw[E]
  rw[hr]at y M;simp[y,M,qi,Yn,H,qa,f170]
 |some l=>
 have hr:gp t=(l,!l.isEmpty):=by unfold gp;rw[E]
 rw[hr]at y M;simp only at y M;by_cases N:l=[]
 ·have H:WG t=([],10):=by unfold WG K4;rw[E];simp only;rw[ze N]
  subst N;simp[y,M,qi,Yn,H,qa,f170]
 have I:K4 t=match VS l with
  |some a=>match ZQ a.1,ZQ a.2 with
   |some p,some q=>some (cF p q)
   |_,_=>none
  |none=>Zp [wZ qU] true l:=by unfold K4;rw[E];simp only;rw[zd N];rfl
 have S:l.isEmpty=false:=by cases l<;>simp at N⊢
 rw[S]at M;obtain⟨hll,T⟩:=BF E;have hsg:=mh _ l E;have j:=ml l;unfold zw at ht;refine Qf (fun st=>st.U 4=.sl 2 (QO l)) (by simp[M,y]) ?_;clear y M U Y Z;rintro⟨U,Y,Z⟩ y;simp only at y;refine Qf (fun st=>st.U 4=.sl 2 (QO l)/\VS l=none) ?_ ?_
 ·by_cases h3:l.length=3
  ·match l,h3 with
   |[a,b,c],_=>
   obtain⟨X,R⟩:=a;obtain⟨b1,b2⟩:=b;obtain⟨c1,c2⟩:=c;have hd:VS [(X,R),(b1,b2),(c1,c2)]=if(b1,b2)=(([],[45]):ae)/\X=[]/\c1=[]then some (R,c2)else none:=rfl
   have ha2:R.length<=t.length:=T (X,R) (by simp);have hc2:c2.length<=t.length:=T (c1,c2) (by simp);have hbt:=fun Y Z=>It R c2 Y Z ⟨by unfold zw;omega,by unfold zw;omega⟩
   by_cases k1:b1=[]
   ·subst k1;by_cases k2:b2=[45]
    ·subst k2;by_cases k3:X=[]
     ·subst k3;by_cases k4:c1=[]
      ·subst k4;rw[ze ⟨rfl,rfl,rfl⟩]at hd;rw[hd]at I;have H:WG t=mo R c2:=by unfold WG mo;rw[I];simp only;cases h1:ZQ R<;>cases h2:ZQ c2<;>simp
       have hfx:=JA (mo R c2).1;simp only[Sh.mN,O.sl.injEq,true_and]at hfx;simp only[VU]at hbt;simp[y,QO,hbt,Of,qb,qE,qi,Yn,H,hfx,f170]
      ·rw[zd (fun h=>k4 h.2.2)]at hd;have e4:c1.isEmpty=false:=by cases c1 with
        |nil=>exact absurd rfl k4
        |cons=>rfl
       simp[y,QO,Of,qb,qE,e4,hd]
     ·rw[zd (fun h=>k3 h.2.1)]at hd;have e3:X.isEmpty=false:=by cases X with
       |nil=>exact absurd rfl k3
       |cons=>rfl
      simp[y,QO,Of,qb,qE,e3,hd]
    ·rw[zd (fun h=>k2 (by have:=h.1;injection this))]at hd;simp[y,QO,Of,qb,qE,k2,hd]
   ·rw[zd (fun h=>k1 (by have:=h.1;injection this))]at hd;simp[y,QO,Of,qb,qE,k1,hd]
  ·have hd:VS l=none:=by
    unfold VS;split
    ·rename_i a b c;exact absurd rfl h3
    ·rfl
   have Tx:((l.length:Int)==3)=false:=by rw[jk];omega
   simp[y,j,Tx,hd]
 clear y U Y Z;rintro⟨U,Y,Z⟩ ⟨y,hd⟩;simp only at y;rw[hd]at I;simp only at I;have S:∀(Y:Hp) (Z:Nat),qy [] (Yf dH) [] Y Z=some (.agg [int qU.v.a,int qU.v.b,int qU.v.c,.sl 1 (zx qU.v.pre),wo qU.after],Y,Z):=fun Y Z=>QI _ Y Z
 simp[y,j,S,qb,qE,zr,zJ,zp];refine zF (fun k U Y Z=>U 60=.sl 2 (QO l)/\U 61=int l.length/\U 62=int k/\AltI l k Y Z (U 6) (U 7)) l.length
  ⟨by simp,by simp,by simp,[wZ qU],true,.inr ⟨Z,[[int qU.v.a,int qU.v.b,int qU.v.c,.sl 1 (zx qU.v.pre),wo qU.after,int 0,int 0,int 0,.nil,wo false,wo true]],by simp,by simp,by simp,by simp[qa,wZ,q8.V,Cut.V,Qt,zx]⟩,(QK v7).2,by simp,by simp,by simp⟩ ?_
 clear y U Y Z;rintro k U Y Z hk ⟨m,r,u,o,ok,hM,P,hol,h7,g⟩;by_cases d:k<l.length
 ·have J:=ql k;obtain⟨a,ha⟩:=yx (l[k]);have W:a∈l:=by rw[<-ha];exact zj d
  have z:∀h:k<(QO l).length,(QO l)[k]=[str a.1,str a.2]:=fun h=>by simp[QO,ha]
  have hal:=T a W;have K:=fun Y Z=>kM yk a.2 Y Z (by unfold zw;omega)
  have D:=fun Y Z=>Za El a.2 Y Z (by unfold zw;omega)
  simp only[El,yf.V]at D;rw[zc d,ha]at g;simp only[Zp]at g;have hie:a.1≠[]->a.1.isEmpty=false:=fun h=>by cases he:a.1 with
   |nil=>exact absurd he h
   |cons=>rfl
  by_cases w:a.1=[]/\yk a.2=true
  ·rw[ze w]at g;obtain⟨f,F⟩:=w;simp[m,r,u,d,j,z,f,K,F,J];exact⟨by omega,o,ok,hM.keep (by omega) fun id hid n e=>zM _ _ _ _ (by omega),P,by omega,h7,g⟩
  ·rw[zd w]at g;have hM1:∀b1 b2,c8 (qR (qR Y Z b1) (Z+1) b2) (Z+1+1) (U 6) o:=fun b1 b2=>hM.keep (by omega) fun id hid n e=>by rw[zM _ _ _ _ (by omega),zM _ _ _ _ (by omega)]
   have n1:¬Z=Z+1:=by omega
   cases L:ZQ a.2 with
   |none=>
    rw[L]at g;simp only at g;have H:WG t=([],10):=by unfold WG;rw[I,g]
    have A:=mn L;by_cases f:a.1=[]
    ·have F:yk a.2=false:=by cases G:yk a.2;rfl;exact absurd ⟨f,G⟩ w
     rcases A with A|A
     ·simp[m,r,u,d,j,z,f,K,F,D,A,qi,Yn,H,qa,f170]
     ·cases G:(K3 a.2).2.2<;>simp[m,r,u,d,j,z,f,K,F,D,A,G,qi,Yn,H,qa,f170]
    ·have f:=hie f;rcases A with A|A
     ·simp[m,r,u,d,j,z,f,D,A,qi,Yn,H,qa,f170]
     ·cases G:(K3 a.2).2.2<;>simp[m,r,u,d,j,z,f,D,A,G,qi,Yn,H,qa,f170]
   |some p=>
    rw[L]at g;simp only at g;obtain⟨p1,p2,p3,p4,p5,p6,p7⟩:=mm L;obtain⟨_,_,q3,q4⟩:=ZN L;have Q:=jD p3;rw[<-p2]at p6 p7;have B:=fun Y Z=>Iq a.1 (K3 a.2).1 (K3 a.2).2.1 Y Z (hsg a W) p5 ⟨p6,p7⟩
    simp only[WE,<-p4,yf.V]at B;obtain⟨g1,g2⟩:=pA (hsg a W) q3 q4;have Tw:=Jz and o (aR a.1 p).1;obtain⟨x,Y',Z',C,hX,Tz,_⟩:=BE 1 and zdI (hM1 (some ⟨221,2,false,[[str a.1,str a.2]]⟩) (some ⟨191,4,false,[(K3 a.2).1.V]⟩)) (P.small (by unfold zw;omega)) (g1.small (by unfold zw;omega)) P g1;simp only[yf.V]at C;have i:∀n:Int,n=(if(ok&&(aR a.1 p).2)=true then 0 else 1)->AltI l (k+1) Y' Z' x (int n):=fun n hn=>⟨_,_,hX,xi and P g1,by omega,by rw[hn],g⟩
    by_cases f:a.1=[]
    ·have F:yk a.2=false:=by cases G:yk a.2;rfl;exact absurd ⟨f,G⟩ w
     rw[f]at B C i z;cases G:(aR [] p).2
     ·rw[G]at B i;simp[m,r,u,d,j,z,K,F,D,p1,Q,n1,B,C,J];exact⟨by omega,i 1 (by simp)⟩
     ·rw[G]at B i;simp[m,r,u,d,j,z,K,F,D,p1,Q,n1,B,C,J];exact⟨by omega,by rw[h7];exact i _ (by simp)⟩
    ·have f:=hie f;cases G:(aR a.1 p).2
     ·rw[G]at B i;simp[m,r,u,d,j,z,f,D,p1,Q,n1,B,C,J];exact⟨by omega,i 1 (by simp)⟩
     ·rw[G]at B i;simp[m,r,u,d,j,z,f,D,p1,Q,n1,B,C,J];exact⟨by omega,by rw[h7];exact i _ (by simp)⟩
 ·obtain rfl:k=l.length:=by omega
  rw[zn]at g;simp only[Zp]at g;have H:WG t=(o,if ok=true then 0 else 1):=by unfold WG;rw[I,g]
  rcases hM with⟨h6,rfl⟩|⟨id,xs,hid,h6,G,hxs⟩
  ·simp[m,r,u,h6,h7,qi,Yn,H,qa,f170]
  ·simp[m,r,u,h6,h7,G,hxs,qi,Yn,H,f170]
theorem Ex:zf prog 170 (zg false [] (XB Yn)):=
 Qu (fn:=f170) Og (qN func170) false [] _ fun args r h w S vs a=>by obtain⟨l,rfl,Y,rfl⟩:=zN h;obtain⟨b,c,d⟩:=IE l Y;exact⟨_,b,a,by simp[f170],c,d⟩
theorem aW:∀(l:List ae) (out:List q8) (d:Bool) (m:List q8×Bool),(∀a∈l,nB a.1)->jA out->Zp out d l=some m->jA m.1/\m.1.length<=out.length+l.length
 |[],out,d,m,_,h,e=>by
  simp only[Zp]at e;injection e with e
  subst e;exact⟨h,by simp⟩
 |a::l,out,d,m,hs,h,e=>by
  simp only[Zp]at e;have c:∀b∈l,nB b.1:=fun b i=>hs b (by simp[i])
  split at e
  ·obtain⟨f,j⟩:=aW l out d m c h e;exact⟨f,by simp;omega⟩
  ·cases g:ZQ a.2 with
   |none=>rw[g]at e;cases e
   |some p=>rw[g]at e;simp only at e;obtain⟨_,_,k,n⟩:=ZN g;obtain⟨o,r⟩:=pA (hs a (by simp)) k n;have q:=Jz and out (aR a.1 p).1;obtain⟨f,j⟩:=aW l _ _ m c (xi and h o) e;exact⟨f,by simp;omega⟩
theorem IF{t:za}{m:List q8×Bool}(h:K4 t=some m):jA m.1/\m.1.length<=t.length+2:=by
 unfold K4 at h;cases b:jQ (yF t)with
 |none=>rw[b]at h;cases h
 |some l=>
  rw[b]at h;simp only at h;split at h
  ·cases h
  ·cases hd:VS l with
   |none=>rw[hd]at h;simp only at h;obtain⟨d,e⟩:=aW l _ _ m (mh _ l b) (QK v7).2 h;have:=(BF b).1;exact⟨d,by simp at e;omega⟩
   |some a=>
    rw[hd]at h;simp only at h;cases Y:ZQ a.1 with
    |none=>rw[Y]at h;simp at h
    |some p=>
     cases c:ZQ a.2 with
     |none=>rw[Y,c]at h;simp at h
     |some q=>
      rw[Y,c]at h;simp only[zW]at h;obtain⟨_,_,i,f⟩:=ZN Y;obtain⟨_,_,j,g⟩:=ZN c;rw[<-h];unfold cF;split
      ·have:=Wg (lK f) (Xg g);exact⟨this.2,by simp only;omega⟩
      ·exact⟨(fun s hs=>by cases hs),by simp⟩
def RrI(a:List za)(k:Nat)(Y:Hp)(Z:Nat)(v w:O):Prop:=∃o b,c8 Y Z v o/\jA o/\o.length<=k*500/\w=int (if b=true then 0 else 1)/\Wj [] true a=Wj o b (a.drop k)
noncomputable abbrev Crrr:Ctx:=zR prog [(169,yI [] T1),(170,zg false [] (XB Yn)),(171,vE [.a,.s 11 jn,.s 11 jn] ID)]
theorem SL:Gd Crrr:=zS mixed ⟨Wc,Ex,mu,trivial⟩
theorem gq(t:za)(ht:t.length+1<=zw):∃P,zo Crrr f159 [str t]=some P/\qX P (AD t):=by
 refine yB (sh:=.s 11 jn) rfl ?_;have J:AD t=.wP [.sl 11 (qa (Wk t).1),int (Wk t).2]:=by rw[sV];rfl
 rw[J];by_cases j:(400:Int)<t.length
 ·have W:Wk t=([],2):=by unfold Wk;rw[ze j]
  simp[j,W,qa,qi,f159]
 have B:=fun Y Z=>ZB t [124,124] Y Z (by omega) (by decide) (by decide)
 obtain⟨a,d⟩:=yx (qg t [124,124]);have K:∀p∈a,p.length<=400:=fun p Y=>by have:=xh (by rw[d];exact Y);omega
 have X:a.length<=401:=by have:=xT (s:=t) (sep:=[124,124]) (by simp);rw[d]at this;omega
 have b:Wk t=match Wj [] true a with
  |none=>([],10)
  |some o=>if o.2=false then([],1)else if(100:Int)<o.1.length then([],2)else(o.1,0):=by unfold Wk;rw[zd j,d];rfl
 rw[d]at B;simp[j,B];refine zF (fun k U Y Z=>U 14=.own 0 0 a.length/\U 15=int a.length/\U 16=int k/\1<=Z/\Y 0=some (Kc a)/\RrI a k Y Z (U 4) (U 5)) a.length
  ⟨by simp,by simp,by simp,by simp,by simp,[],true,.inl ⟨by simp,rfl⟩,(fun s hs=>by cases hs),by simp,by simp,by simp⟩ ?_
 rintro k U Y Z hk ⟨g,h,i,hnx,Q,o,R,G,y,hol,z,e⟩;by_cases f:k<a.length
 ·have C:=ql k;obtain⟨s,hs⟩:=yx (a[k]);have UE:s.length<=400:=K s (by rw[<-hs];exact zj f);have c:=fun Y Z=>Za Yn s Y Z (by unfold zw;omega)
  have u:Y 0=some ⟨9,1,true,a.map fun p=>[str p]⟩:=Q;rw[zc f,hs]at e;simp only[Wj]at e;cases q:K4 s with
  |none=>
   rw[q]at e;simp only at e;rw[e]at b;simp only at b;have L:WG s=([],10):=by unfold WG;rw[q]
   simp only[Yn,L]at c;simp[g,h,i,f,u,hs,c,b,qa,qi,f159]
  |some m=>
   rw[q]at e;simp only at e;have L:WG s=(m.1,if m.2=true then 0 else 1):=by unfold WG;rw[q]
   obtain⟨M,g2⟩:=IF q;have Tw:=Jz or o m.1;obtain⟨x,S,Z',v,hX,T,N⟩:=BE 0 or zdJ G (y.small (by unfold zw;omega)) (M.small (by unfold zw;omega)) y M;have D:S 0=some (Kc a):=by rw[N 0 (by omega) (G.box u (by simp))];exact Q
   have l:∀n:Int,n=(if(R&&m.2)=true then 0 else 1)->RrI a (k+1) S Z' x (int n):=fun n hn=>⟨_,_,hX,xi or y M,by omega,by rw[hn],e⟩
   simp only[Yn,L]at c;cases H:m.2
   ·rw[H]at c l;simp at c;simp[g,h,i,f,u,hs,c,v,C];exact⟨by omega,by omega,D,l 1 (by simp)⟩
   ·rw[H]at c l;simp at c;simp[g,h,i,f,u,hs,c,v,C];exact⟨by omega,by omega,D,by rw[z];exact l _ (by simp)⟩
 ·obtain rfl:k=a.length:=by omega
  rw[zn]at e;simp only[Wj]at e;rw[e]at b;simp only at b;cases R
  ·simp at b z;simp[g,h,i,z,b,qa,qi,f159]
  ·simp at b z;have w:=G.len;by_cases r:(100:Int)<o.length
   ·have A:100<o.length:=by omega
    rw[ze r]at b;simp[g,h,i,z,w,r,b,qa,qi,f159]
   ·have A:¬100<o.length:=by omega
    rw[zd r]at b;rcases G with⟨I,rfl⟩|⟨id,xs,hid,I,H,E⟩
    ·simp[g,h,i,z,I,b,qa,qi,f159]
    ·rw[I]at w;have Tt:xs.length=o.length:=by have:=zt List.length E;simpa[qa]using this
     have F:¬(100:Int)<xs.length:=by omega
     simp[g,h,i,z,I,F,H,E,b,qi,f159]
theorem eu:zf prog 159 (zg false [] (XB AD)):=
 Qu (fn:=f159) SL (qN func159) false [] _ fun args r h w S vs a=>by obtain⟨l,rfl,Y,rfl⟩:=zN h;obtain⟨b,c,d⟩:=gq l Y;exact⟨_,b,a,by simp[f159],c,d⟩
theorem aX:zf prog 158 (zg false [] (sn vf)):=
 yt (fn:=f158) jS (qN func158) false [] _ fun args r h=>by obtain⟨a,rfl,rfl⟩:=Xi h;refine⟨by simp[f158],_,zm rfl ?_,qc _⟩;by_cases b:3<=a<;>simp[b,vf,jE,zI,f158]
theorem tc:zf prog 157 (zg false [] (sn WC)):=
 yt (fn:=f157) jS (qN func157) false [] _ fun args r h=>by obtain⟨a,rfl,rfl⟩:=Xi h;refine⟨by simp[f157],_,zm rfl ?_,qc _⟩;by_cases b:7<=a<;>simp[b,WC,jE,zI,f157]
noncomputable abbrev Crwv:Ctx:=zR prog [(158,zg false [] (sn vf))]
theorem SM:Gd Crwv:=zS mixed ⟨aX,trivial⟩
theorem Oh(a:Int):YI a=(a==2||vf a||a==12):=by
 unfold YI vf jE;by_cases h:a=2
 ·subst h;decide
 ·have b:=jD h;rw[b];congr 1;rw[qx];simp;omega
theorem td:zf prog 156 (zg false [] (sn YI)):=
 yt (fn:=f156) SM (qN func156) false [] _ fun args r h=>by obtain⟨a,rfl,rfl⟩:=Xi h;refine⟨by simp[f156],_,zm rfl ?_,qc _⟩;rw[Oh];cases b:a==2<;>cases c:vf a<;>simp[b,c,zI,f156]
noncomputable def FCL (n:Nat):zb->Option O:=qf (α:=qW×Int) (fun a=>[.agg a.1.V,int a.2]) (fun a=>a.1.parts<=zw/\a.1.parts<=n/\0<=a.2/\a.2+a.1.parts<=536870912) (fun a=>.wP [int (a.1.rp a.2).1,wo (a.1.rp a.2).2])
theorem BG(n:Nat)(c:qW)(l:Int)(Y:Hp)(Z:Nat)(h:c.parts<=zw/\c.parts<=n/\0<=l/\l+c.parts<=536870912):zg false [] (FCL n) [.agg c.V,int l] Y Z=some (.wP [int (c.rp l).1,wo (c.rp l).2],Y,Z):=
 XX (c,l) _ _ (by simp only[zD,Vu];rfl) (fun x y e=>by obtain⟨a,b⟩:=x;obtain⟨d,f⟩:=y;simp only[zh,zA,O.agg.injEq]at e;rw[Zk e.1,qI e.2]) h (.inl rfl)
noncomputable abbrev Crpa (n:Nat):Ctx:=zR prog [(144,zg false [] (FCL n))]
def PaI(c:qW)(l:Int)(k:Nat)(v w:O):Prop:=∃s:Int×Bool,v=int s.1/\w=wo s.2/\0<=s.1/\s.1+yy (c.args.drop k)<=268435457/\c.rp l=tX (c.args.drop k) l s
theorem Oi(s:Int×Bool):(s.2||decide (200<s.1))=Yk s:=rfl
theorem te(n:Nat)(c:qW)(l:Int)(h:c.parts<=zw/\c.parts<=n+1/\0<=l/\l+c.parts<=536870912):zo (Crpa n) f144 [.agg c.V,int l]=some (.wP [int (c.rp l).1,wo (c.rp l).2]):=by
 have y:=WY c;have r:=NK c l;have z:=av c.args;obtain⟨A,I,B,C⟩:=h;unfold zw at A;refine zm rfl ?_;simp;refine zF (fun k U Y Z=>U 1=int l/\U 15=.sl 7 (c.args.map qW.V)/\U 16=int c.args.length/\U 17=int k/\PaI c l k (U 6) (U 7)) c.args.length
  ⟨by simp,by simp,by simp,by simp,(1,decide (20<l)),by simp,by simp,by simp,by rw[wS];simp only;omega,by rw[r,wS]⟩ ?_
 rintro k U Y Z J ⟨m,d,e,f,s,o,p,D,E,g⟩;by_cases a:k<c.args.length
 ·have K:=au (zj a);have F:=ql k;have t:=wu (l+1);have G:yy (c.args.drop k)=c.args[k].parts+yy (c.args.drop (k+1)):=by rw[zc a,yy]
  have b:=Oi s;cases q:Yk s
  ·rw[q]at b;have i:=b;rw[wA]at i;obtain⟨x,H⟩:=i;have u:¬200<s.1:=by simpa using H
   obtain⟨L,M,_,_⟩:=Bf c.args[k] (l+1);have j:=fun Y Z=>BG n c.args[k] (l+1) Y Z ⟨by unfold zw;omega,by omega,by omega,by omega⟩
   rw[NL a]at g;have v:pd s (c.args[k].rp (l+1))=(s.1+(c.args[k].rp (l+1)).1,s.2||(c.args[k].rp (l+1)).2):=by unfold pd;rw[q];rfl
   rw[v]at g;have w:=wu (s.1+(c.args[k].rp (l+1)).1);simp[m,d,e,f,o,p,x,u,a,j,F,t,w];exact⟨by omega,(s.1+(c.args[k].rp (l+1)).1,s.2||(c.args[k].rp (l+1)).2),rfl,by simp[x],by simp only;omega,by simp only;omega,g⟩
  ·rw[q]at b;rw[cy q]at g;cases hd:s.2
   ·rw[hd]at b;simp at b;simp[m,d,e,f,o,p,hd,b,a,g,zI,f144]
   ·simp[m,d,e,f,o,p,hd,a,g,zI,f144]
 ·obtain rfl:k=c.args.length:=by omega
  rw[zn]at g;simp only[tX]at g;simp[m,d,e,f,o,p,g,zI,f144]
theorem nH:∀n,zf prog 144 (zg false [] (FCL n)):=by
 intro n
 induction n with
 |zero=>
  exact Js ⟨_,func144,by kernel_rfl,by kernel_rfl⟩ fun args r h=>by obtain⟨⟨c,l⟩,_,⟨_,a,_⟩,_⟩:=zN h;have:=du c;simp only at a;omega
 |succ n b=>have d:Gd (Crpa n):=zS mixed ⟨b,trivial⟩;exact vX d func144 false [] fun⟨c,l⟩ e=>⟨zG (zk 2) (by decide),_,te n c l e,qc _⟩
noncomputable abbrev Crla:Ctx:=zR prog [(144,zg false [] (FCL zw))]
theorem BH(c:qW)(a:c.parts<=zw):zo Crla f117 [.agg c.V]=some (wo (Yk (c.rp 1))):=by
 have b:=a;unfold zw at b;have d:=fun Y Z=>BG zw c 1 Y Z ⟨a,a,by omega,by omega⟩
 refine zm rfl ?_;unfold Yk;cases hd:(c.rp 1).2
 ·simp[d,hd,zI,f117]
 ·simp[d,hd,zI,f117]
theorem nI:zf prog 117 (zg false [] (FCp (fun c=>wo (Yk (c.rp 1))) zw)):=
 vX (zS mixed ⟨nH zw,trivial⟩:AM.Good Crla _) func117 false [] fun c a=>⟨zG (zk 1) (by decide),_,BH c a.1,qc _⟩
theorem tf:zf prog 117 (GC fun c=>wo (Yk (c.rp 1))):=oC (Ml _ zw) nI
def F0(c:qW):Bool:=(!(c.kind==4)&&(!c.attr.isEmpty||c.op != 0))||(c.kind != 5&&!c.name.isEmpty)
def f2R(c:qW):Bool:=(!((c.kind==4)&&YI c.op)&&decide (0<c.kP.length))||(!((c.kind==4)&&WC c.op)&&!c.pat.isEmpty)
noncomputable abbrev Crfo:Ctx:=zR prog [(156,zg false [] (sn YI)),(157,zg false [] (sn WC)),(158,zg false [] (sn vf))]
theorem SN:Gd Crfo:=zS mixed ⟨td,tc,aX,trivial⟩
theorem th(c:qW)(h:c.cb<=zw):zo Crfo f145 [.agg c.V]=some (wo (l6 c)):=by
 refine zm rfl ?_;have g:l6 c=(!F0 c&&!f2R c&&(if c.kind=3 then(c.args.length:Int)==1 else if c.kind=4\/c.kind=5 then((c.args.length:Int)==0&&(!vf c.op||(c.kP.length:Int)==1))else true)):=rfl;refine Qf (fun st=>st.U 1=.ref 0 0 0/\st.Y 0=some ⟨70,7,false,[c.V]⟩) (by simp) ?_;rintro⟨U,Y,Z⟩ ⟨e,f⟩;simp only at e f;refine Qf (fun st=>st.U 1=.ref 0 0 0/\st.Y 0=some ⟨70,7,false,[c.V]⟩/\st.U 3=wo (c.kind==4)) (by simp[e,f]) ?_;clear e f U Y Z;rintro⟨U,Y,Z⟩ ⟨e,f,l⟩;simp only at e f l;refine Qf (fun st=>st.U 1=.ref 0 0 0/\st.Y 0=some ⟨70,7,false,[c.V]⟩/\st.U 3=wo (c.kind==4)/\F0 c=false) ?_ ?_
 ·by_cases j:c.kind=4
  ·have s:(c.kind==5)=false:=by rw[j];rfl
   have d:(c.kind==4)=true:=by rw[j];rfl
   cases m:c.name.isEmpty
   ·have i:F0 c=true:=by simp[F0,j,m]
    rw[i]at g;simp[e,f,l,j,m,g,zI,f145]
   ·have i:F0 c=false:=by simp[F0,j,m]
    simp[e,f,l,j,m,i]
  ·have d:=jD j;cases p:(!c.attr.isEmpty||c.op != 0)
   ·have n:=p;rw[wA]at n;obtain⟨w,x⟩:=n;simp at w x;by_cases s:c.kind=5
    ·have i:F0 c=false:=by simp[F0,s,p]
     simp[e,f,l,s,w,x,i]
    ·have q:=jD s;have t:(c.kind != 5)=true:=by simp[bne,q]
     cases m:c.name.isEmpty
     ·have i:F0 c=true:=by simp[F0,s,m]
      rw[i]at g;simp[e,f,l,j,d,t,w,x,m,g,zI,f145]
     ·have i:F0 c=false:=by simp[F0,p,m]
      simp[e,f,l,j,d,t,w,x,m,i]
   ·have i:F0 c=true:=by simp[F0,j,p]
    rw[i]at g;cases u:c.attr.isEmpty
    ·simp[e,f,l,j,d,u,g,zI,f145]
    ·rw[u]at p;have n:(c.op==0)=false:=by simpa using p
     have z:(c.op != 0)=true:=by simpa using p
     simp[e,f,l,j,d,u,n,z,g,zI,f145]
 clear e f l U Y Z;rintro⟨U,Y,Z⟩ ⟨e,f,l,A⟩;simp only at e f l;rw[A]at g;refine Qf (fun st=>st.U 1=.ref 0 0 0/\st.Y 0=some ⟨70,7,false,[c.V]⟩/\f2R c=false) ?_ ?_
 ·have o:∀a b:Bool,((c.kind==4)&&YI c.op)=a->((c.kind==4)&&WC c.op)=b->f2R c=((!a&&decide (0<c.kP.length))||(!b&&!c.pat.isEmpty)):=fun a b F G=>by unfold f2R;rw[F,G]
  by_cases j:c.kind=4
  ·have d:(c.kind==4)=true:=by rw[j];rfl
   cases D:YI c.op<;>cases E:WC c.op<;>cases Y1:c.pat.isEmpty<;>by_cases v:0<c.kP.length <;>
    (have i:=o _ _ rfl rfl;rw[d,D,E,Y1]at i;simp[v]at i;simp[e,f,l,j,D,E,Y1,v,i,g,zI,f145])
  ·have d:=jD j;cases Y1:c.pat.isEmpty<;>by_cases v:0<c.kP.length <;>
    (have i:=o _ _ rfl rfl;rw[d,Y1]at i;simp[v]at i;simp[e,f,l,j,d,Y1,v,i,g,zI,f145])
 clear e f l U Y Z;rintro⟨U,Y,Z⟩ ⟨e,f,B⟩;simp only at e f;rw[B]at g;simp only[Bool.not_false,kX]at g;by_cases y:c.kind=3
 ·rw[ze y]at g;simp[e,f,y,g,zI,f145]
 have C:=jD y;rw[zd y]at g;by_cases r:c.kind=4\/c.kind=5
 ·rw[ze r]at g;cases u:((c.args.length:Int)==0)<;>cases H:vf c.op<;>rcases r with k|k <;>
   simp[e,f,k,u,H,g,zI,f145]
 ·rw[zd r]at g;have d:(c.kind==4)=false:=by simp;omega
  have q:(c.kind==5)=false:=by simp;omega
  simp[e,f,C,d,q,g,zI,f145]
theorem nJ:zf prog 145 (GC fun c=>wo (l6 c)):=
 yt (fn:=f145) SN (qN func145) false [] _ fun args r h=>by obtain⟨c,rfl,a,rfl⟩:=Y3 h;exact⟨by simp[f145],_,th c a.1,qc _⟩
noncomputable abbrev Uf:Ctx:=zR prog [(83,GV fun v=>int v.check),(158,zg false [] (sn vf)),(84,zg false [] (Lp zw))]
theorem Oj:AM.Good Uf (fun g=>[84].contains g):=qq mixed ⟨bO,by simp,aX,by simp,VJ zw,fun _=>zu _ _,trivial⟩
theorem cH(c:qW)(h:c.cb<=zw):zo Uf f146 [.agg c.V]=some (int (ZK c.op c.kP)):=by
 have P:=Jm c;obtain⟨l,p⟩:=yx c.kP;obtain⟨op,r⟩:=yx c.op;have W:=ja l;rw[p]at P;rw[p,r];unfold zw at h;refine zm rfl ?_;by_cases o:(100:Int)<l.length
 ·have Q:ZK op l=2:=by unfold ZK;rw[ze o]
  simp[p,o,Q,f146]
 have Q:ZK op l=XD op none l:=by unfold ZK;rw[zd o]
 rw[Q];simp[p,o];refine zF (fun k U Y Z=>U 1=.ref 0 0 0/\U 11=.sl 5 (l.map qu.V)/\U 12=int l.length/\U 13=int k/\1<=Z/\Y 0=some ⟨70,7,false,[c.V]⟩/\XD op none l=XD op (Qv l k) (l.drop k)) l.length
  ⟨by simp,by simp,by simp,by simp,by simp,by simp,by simp[Qv]⟩ ?_
 rintro k U Y Z hk ⟨s,b,d,e,hnx,t,f⟩;have u:¬0=Z:=by omega
 by_cases a:k<l.length
 ·have hm:=ko (zj a);have H:=ql k;have g:=fun Y Z=>QV (fun v=>int v.check) l[k] Y Z (by unfold zw;omega)
  rw[zc a]at f;simp only[XD]at f;have E:Qv l (k+1)=some l[k]:=by simp[Qv,a]
  have i:AG op l[k]=(l[k].kind==0||vf op&&l[k].kind != 2):=rfl;by_cases q:l[k].check=0
  case neg=>rw[zd q]at f;have R:=xN q;simp[p,r,s,t,u,b,d,e,a,g,R,f,f146]
  rw[ze q]at f;cases w:AG op l[k]
  case true=>
   rw[w,ze rfl]at f;rw[w]at i;by_cases I:l[k].kind=0
   ·simp[p,r,s,t,u,b,d,e,a,g,q,I,f,f146]
   ·have F:=jD I;rw[F,km]at i;have n:=i.symm;rw[zC]at n;simp[p,r,s,t,u,b,d,e,a,g,q,F,n.1,n.2,f,f146]
  rw[w,zd (by simp)]at f;rw[w]at i;have z:=i.symm;rw[wA]at z;obtain⟨B,X⟩:=z;have S:vf op=false\/(l[k].kind != 2)=false:=by
   cases hi:vf op
   ·exact .inl rfl
   ·rw[hi,kX]at X;exact .inr X
  by_cases I:k=0
  ·subst I;have Y0:aG (Qv l 0) l[0]=false:=rfl;rw[Y0,zd (by simp)]at f;have m:XD op none l=XD op (Qv l 1) l.tail:=by rw[f,show Qv l 1=some l[0]from E];simp
   cases hi:vf op
   ·simp[p,r,s,t,u,b,d,e,a,g,q,B,hi,H];exact⟨by omega,m⟩
   ·have G:(l[0].kind != 2)=false:=S.resolve_left (by rw[hi];simp);simp[p,r,s,t,u,b,d,e,a,g,q,B,hi,G,H];exact⟨by omega,m⟩
  ·obtain⟨j,rfl⟩:∃j,k=j+1:=⟨k-1,by omega⟩;have C:j<l.length:=by omega
   have hmj:=ko (zj C);have J:i6.wrap ((j:Int)+1-1)=(j:Int):=by rw[wR (by omega) (by omega)];omega
   have x:=wu (j:Int);have K:((j:Int)+1).toNat=j+1:=by omega
   have L:0<(j:Int)+1:=by omega
   have M:0<=(j:Int)+1:=by omega
   have N:(j:Int)+1<l.length:=by omega
   have y:=fun Y Z=>Wd zw l[j+1] l[j] Y Z ⟨by unfold zw;omega,by unfold zw;omega,by unfold zw;omega⟩
   have T:aG (Qv l (j+1)) l[j+1]=decide (wz l[j+1] l[j]<=0):=by simp only[Qv,aG];simp[C,Bg]
   rw[T]at f;by_cases D:wz l[j+1] l[j]<=0
   ·have A:decide (wz l[j+1] l[j]<=0)=true:=by simpa using D
    rw[ze A]at f;cases hi:vf op
    ·simp[p,r,s,t,u,b,d,e,a,C,g,q,B,hi,H,J,x,K,L,M,N,y,D,f,f146]
    ·have G:(l[j+1].kind != 2)=false:=S.resolve_left (by rw[hi];simp);simp[p,r,s,t,u,b,d,e,a,C,g,q,B,hi,G,H,J,x,K,L,M,N,y,D,f,f146]
   ·have A:¬decide (wz l[j+1] l[j]<=0)=true:=by simpa using D
    rw[zd A]at f;have wk:=wu ((j:Int)+1+1);have m:XD op none l=XD op (Qv l (j+1+1)) (l.drop (j+1+1)):=by rw[f,E]
    cases hi:vf op
    ·simp[p,r,s,t,u,b,d,e,a,C,g,q,B,hi,wk,J,x,K,L,M,N,y,D];exact⟨by omega,m⟩
    ·have G:(l[j+1].kind != 2)=false:=S.resolve_left (by rw[hi];simp);simp[p,r,s,t,u,b,d,e,a,C,g,q,B,hi,G,wk,J,x,K,L,M,N,y,D];exact⟨by omega,m⟩
 ·obtain rfl:k=l.length:=by omega
  rw[zn]at f;simp only[XD]at f;simp[s,b,d,e,f,f146]
theorem aY:zf prog 146 (GC fun c=>int (ZK c.op c.kP)):=
 yt (fn:=f146) Oj (qN func146) false [] _ fun args r h=>by obtain⟨c,rfl,a,rfl⟩:=Y3 h;exact⟨zG (zk 1) (by decide),_,cH c a.1,qc _⟩
noncomputable abbrev Ug:Ctx:=zR prog [(159,zg false [] (XB AD))]
theorem Ol:Gd Ug:=zS mixed ⟨eu,trivial⟩
theorem a6(c:qW)(h:c.cb<=zw):zo Ug f147 [.agg c.V]=some (int (Yt c.op c.pat)):=by
 have q:=Jm c;obtain⟨s,hs⟩:=yx c.pat;obtain⟨op,r⟩:=yx c.op;rw[hs]at q;rw[hs,r];unfold zw at h;refine zm rfl ?_;by_cases a:(500:Int)<s.length
 ·have b:Yt op s=2:=by unfold Yt;rw[ze a]
  simp[hs,a,b,f147]
 have l:=fun Y Z=>Za AD s Y Z (by unfold zw;omega)
 simp only[AD]at l;have b:Yt op s=if qZ 32 126 s=true then(if op=11 then(Zx s).2 else 0)else 1:=by unfold Yt;rw[zd a]
 simp[hs,a];refine zF (fun k U Y Z=>U 1=.ref 0 0 0/\U 12=int s.length/\U 13=int k/\Y 0=some ⟨70,7,false,[c.V]⟩/\qZ 32 126 s=qZ 32 126 (s.drop k)) s.length ⟨by simp,by simp,by simp,by simp,by simp⟩ ?_;rintro k U Y Z u ⟨n,d,e,o,i⟩;by_cases f:k<s.length
 ·have t:=ql k;rw[x2 f]at i;have j:=Vm 32 126 s[k];simp only[Zr]at j;cases p:pr 32 126 s[k]
  ·have i:qZ 32 126 s=false:=by rw[i,p];rfl
   rw[i,zd (by simp)]at b;simp[n,o,hs,d,e,f,b,j,p,f147]
  ·simp[n,o,hs,d,e,f,j,p,t];exact⟨f,by rw[i,p];rfl⟩
 ·obtain rfl:k=s.length:=by omega
  have i:qZ 32 126 s=true:=by rw[i,zn];rfl
  rw[i,ze rfl]at b;by_cases g:op=11
  ·rw[ze g]at b;subst g;simp[n,o,hs,r,d,e,l,b,f147]
  ·rw[zd g]at b;have m:=jD g;simp[n,o,hs,r,d,e,m,b,f147]
theorem XK:zf prog 147 (GC fun c=>int (Yt c.op c.pat)):=
 yt (fn:=f147) Ol (qN func147) false [] _ fun args r h=>by obtain⟨c,rfl,a,rfl⟩:=Y3 h;exact⟨zG (zk 1) (by decide),_,a6 c a.1,qc _⟩
theorem Om{c:qW}(b:Zo c=false)(a:DQ c=false):Yt c.op c.pat=0:=by
 have g:∀op,op≠11->Yt op []=0:=fun op h=>by simp[Yt,h]
 have k:w1F c=false/\w5F c=false:=by unfold Zo at b;simp only[wA]at b;exact⟨b.1.1.1.1.1.1,b.1.1.2⟩
 obtain⟨i,j⟩:=k;unfold DQ at a;cases d:c.kind==4
 ·simp only[w1F,d,Bool.not_false,kX,wA]at i;obtain⟨⟨⟨_,l⟩,_⟩,m⟩:=i;have n:c.op=0:=by simpa using l
  have f:c.pat=[]:=by simpa using m
  rw[n,f];exact g 0 (by decide)
 ·rw[d,kX]at a;simp only[w5F,d,a,kX,Bool.not_false]at j;have f:c.pat=[]:=by simpa using j
  rw[f];refine g _ fun e=>?_
  rw[e]at a;revert a;decide
noncomputable abbrev Uh (n:Nat):Ctx:=zR prog [(118,zg false [] (FC (fun c=>int c.fault) n)),(145,GC fun c=>wo (l6 c)),(49,zg false [] (FS qG)),(146,GC fun c=>int (ZK c.op c.kP)),(147,GC fun c=>int (Yt c.op c.pat))]
theorem ew(n:Nat)(c:qW)(h:c.cb<=zw/\c.cb<=n+1):zo (Uh n) f118 [.agg c.V]=some (int c.fault):=by
 have Gr:=Jm c;have hl1:=xR c.args;obtain⟨K,hb⟩:=h;have j:=oV c;have b:=fun Y Z=>Zv (fun c=>wo (l6 c)) c Y Z K
 have v:=fun Y Z=>Zv (fun c=>int (ZK c.op c.kP)) c Y Z K
 have D:=fun Y Z=>Zv (fun c=>int (Yt c.op c.pat)) c Y Z K
 have E:c.attr.length<=zw:=by omega
 have F:c.name.length<=zw:=by omega
 unfold zw at K;refine zm rfl ?_;refine Qf (fun st=>st.U 1=.ref 0 0 0/\st.Y 0=some ⟨70,7,false,[c.V]⟩/\st.Z=1) (by simp) ?_;rintro⟨U,Y,Z⟩ ⟨d,e,l⟩;simp only at d e l;subst l;have w:fj c=!jE c.kind 1 5:=rfl;refine Qf (fun st=>st.U 1=.ref 0 0 0/\st.Y 0=some ⟨70,7,false,[c.V]⟩/\st.Z=1/\fj c=false/\M9 c=false/\Zo c=false/\X8 c=false) ?_ ?_
 ·by_cases L:c.kind<1
  ·have x:fj c=true:=by rw[w];simp[jE];omega
   simp[d,e,L,j,vL,x,f118]
  by_cases Q:5<c.kind
  ·have x:fj c=true:=by rw[w];simp[jE];omega
   simp[d,e,L,Q,j,vL,x,f118]
  have i:fj c=false:=by rw[w];simp[jE];omega
  have y:=Ib c (by simp[jE];omega);rw[y]at b;by_cases t:c.kind=4
  ·have z:M9 c=!jE c.op 1 12:=by unfold M9;rw[t];rfl
   have a:X8 c=!qG c.attr:=by unfold X8;rw[t];simp
   by_cases G:c.op<1
   ·have x:M9 c=true:=by rw[z];simp[jE];omega
    simp[d,e,t,G,j,vL,x,f118]
   by_cases M:12<c.op
   ·have x:M9 c=true:=by rw[z];simp[jE];omega
    simp[d,e,t,G,M,j,vL,x,f118]
   have f:M9 c=false:=by rw[z];simp[jE];omega
   cases g:Zo c
   case true=>simp[d,e,t,G,M,b,g,j,vL,i,f,f118]
   cases o:qG c.attr
   ·rw[o]at a;simp[d,e,t,G,M,b,g,E,o,j,vL,i,f,a,f118]
   ·rw[o]at a;simp[d,e,t,G,M,b,g,E,o,i,f,a]
  have p:=jD t;have f:M9 c=false:=by unfold M9;rw[p];rfl
  cases g:Zo c
  case true=>simp[d,e,L,Q,p,b,g,j,vL,i,f,f118]
  by_cases q:c.kind=5
  ·have a:X8 c=!qG c.name:=by unfold X8;rw[q];simp
   cases o:qG c.name
   ·rw[o]at a;simp[d,e,q,b,g,F,o,j,vL,i,f,a,f118]
   ·rw[o]at a;simp[d,e,q,b,g,F,o,i,f,a]
  ·have u:=jD q;have a:X8 c=false:=by unfold X8;rw[p,u];rfl
   simp[d,e,L,Q,p,u,b,g,i,f,a]
 clear d e U Y b;rintro⟨U,Y,Z⟩ ⟨d,e,l,R,S,N,T⟩;simp only at d e l;subst l;by_cases H:ZK c.op c.kP=0
 case neg=>have W:=xN H;simp[d,e,v,H,W,j,vL,R,S,N,T,f118]
 by_cases I:Yt c.op c.pat=0
 case neg=>
  have X:=xN I;have c6:DQ c=true:=by cases hx:DQ c;exact absurd (Om N hx) I;rfl
  simp[d,e,v,D,H,I,X,j,vL,R,S,N,T,c6,f118]
 have hh:vL c=0:=by simp[vL,R,S,N,T,H,I]
 have J:c.fault=x0 c.args:=by rw[j,ze hh]
 simp[d,e,v,D,H,I];refine zF (fun k U Y Z=>U 64=.sl 7 (c.args.map qW.V)/\U 65=int c.args.length/\U 66=int k/\x0 c.args=x0 (c.args.drop k)) c.args.length ⟨by simp,by simp,by simp,by simp⟩ ?_;clear d e U Y;rintro k U Y Z hk ⟨A,B,C,r⟩;by_cases s:k<c.args.length
 ·have hm:=Z8 (zj s);have hw:=ql k;have m:=fun Y Z=>QX (fun c=>int c.fault) n c.args[k] Y Z ⟨by unfold zw;omega,by omega⟩
  rw[VE s]at r;by_cases P:c.args[k].fault=0
  ·rw[ze P]at r;simp[A,B,C,s,m,P,hw];exact⟨by omega,r⟩
  ·rw[zd P]at r;have hz2:=xN P;simp[A,B,C,s,m,hz2,J,r,f118]
 ·obtain rfl:k=c.args.length:=by omega
  rw[zn]at r;have r:x0 c.args=0:=by rw[r];rfl
  simp[A,B,C,J,r,f118]
theorem cI:∀n,zf prog 118 (zg false [] (FC (fun c=>int c.fault) n)):=by
 intro n
 induction n with
 |zero=>exact rQ ⟨_,func118,by kernel_rfl,by kernel_rfl⟩
 |succ n a=>
  have b:Gd (Uh n):=zS mixed ⟨a,nJ,xw,aY,XK,trivial⟩;exact yt (fn:=f118) b (qN func118) false [] _ fun args r h=>by obtain⟨c,rfl,d,rfl⟩:=Y3 h;exact⟨zG (zk 1) (by decide),_,ew n c d,qc _⟩
noncomputable abbrev zdK:Ctx:=zR prog [(118,GC fun c=>int c.fault),(117,GC fun c=>wo (Yk (c.rp 1)))]
theorem af:zf prog 79 (GC fun c=>int c.check):=
 yt (fn:=f79) (zS mixed ⟨cI zw,tf,trivial⟩:AM.Good zdK _) (qN func79) false [] _ fun args r h=>by
  obtain⟨c,rfl,a,rfl⟩:=Y3 h;have b:=fun Y Z=>Zv (fun c=>int c.fault) c Y Z a.1
  have d:=fun Y Z=>Zv (fun c=>wo (Yk (c.rp 1))) c Y Z a.1
  have f:=Ia c;refine⟨zG (zk 1) (by decide),_,zm rfl ?_,qc _⟩;unfold qW.check;rw[<-f];cases e:Yk (c.rp 1)
  ·simp[b,d,e,f79]
  ·simp[b,d,e,f79]
end Go.Q
namespace Go.AM
end Go.AM
namespace Go.Q
def XL(v:za):Nat->List za->Int
 |_,[]=>-1
 |k,s::l=>if v=s then k else XL v (k+1) l
theorem BI(v:za):∀(l:List za) (k:Nat),decide (0<=XL v k l)=decide (v∈l)
 |[],k=>by simp[XL]
 |s::l,k=>by
  by_cases h:v=s
  ·have e:XL v k (s::l)=k:=by simp only[XL,ze h]
   rw[e];simp[h]
  ·have e:XL v k (s::l)=XL v (k+1) l:=by simp only[XL,zd h]
   rw[e,BI v l (k+1)];simp[h]
noncomputable def IG (out:List za->za->O):zb->Option O:=qf (α:=List za×za) (fun a=>[.sl 1 (zx a.1),str a.2]) (fun a=>a.1.length<=zw) (fun a=>out a.1 a.2)
theorem On:∀a b:List za×za,[O.sl 1 (zx a.1),str a.2]=[O.sl 1 (zx b.1),str b.2]->a=b:=by rintro⟨f,g⟩ ⟨h,i⟩ e;simp only[zh,zA]at e;obtain⟨c,d⟩:=e;injection c with _ c;rw[jd c,wb d]
theorem JM(out:List za->za->O)(l:List za)(v:za)(Y:Hp)(Z:Nat)(h:l.length<=zw):zg false [1] (IG out) [.sl 1 (zx l),str v] Y Z=some (out l v,Y,Z):=
 yP rfl (qM (V:=fun a:List za×za=>[O.sl 1 (zx a.1),str a.2]) (a:=(l,v)) On h) (.inr rfl)
theorem F1(out:List za->za->O){l:List za}{v:za}{Y:Hp}{Z e:Nat}{x:O}(c:wa Y Z e 1 x (zx l))(h:l.length<=zw)(b:(out l v).flat=true):zg false [1] (IG out) [x,str v] Y Z=some (out l v,Y,Z):=by
 have hs:IG out [.sl 1 (zx l),str v]=some (out l v):=qM (V:=fun a:List za×za=>[O.sl 1 (zx a.1),str a.2]) (a:=(l,v)) On h;rcases c with⟨rfl,d⟩|⟨id,hid,rfl,f⟩
 ·have g:l=[]:=by simpa[zx]using d
  subst g;exact yP (Y1:=Y) rfl hs (.inl b)
 ·exact yP (Y1:=qR Y id none) (show zD Y [.own id 0 (zx l).length,str v]=some ([.sl 1 (zx l),str v],qR Y id none) by
   simp[f]
   try rw[qL (by simp)]) hs (.inl b)
theorem IH(l:List za)(v:za)(h:l.length<=zw):zo C0 f20 [.sl 1 (zx l),str v]=some (int (XL v 0 l)):=by
 refine zm rfl ?_;unfold zw at h;have b:(zx l).length=l.length:=by simp[zx]
 simp[b];refine zF (fun k U Y Z=>U 0=.sl 1 (zx l)/\U 1=str v/\U 7=int l.length/\U 8=int k/\XL v 0 l=XL v k (l.drop k)) l.length ⟨by simp,by simp,by simp,by simp,by simp⟩ ?_;rintro k U Y Z p ⟨i,j,m,n,a⟩;by_cases c:k<l.length
 ·obtain⟨s,hs⟩:=yx (l[k]);have o:=ql k;have e:∀h:k<(zx l).length,(zx l)[k]=[str s]:=fun h=>by simp[zx,hs]
  have f:k<(zx l).length:=by omega
  rw[zc c,hs]at a;simp only[XL]at a;by_cases g:v=s
  ·rw[ze g]at a;have d:(v==s)=true:=by simpa using g
   simp[i,j,m,n,c,b,f,e,d,a,f20]
  ·rw[zd g]at a;have d:=jD g;simp[i,j,m,n,c,b,f,e,d,o];exact⟨by omega,a⟩
 ·obtain rfl:k=l.length:=by omega
  rw[zn]at a;simp only[XL]at a;simp[i,j,m,n,a,f20]
theorem Ey:zf prog 20 (zg false [1] (IG fun l v=>int (XL v 0 l))):=
 vX jS func20 false [1] fun⟨l,v⟩ a=>⟨by simp[f20],_,IH l v a,qc _⟩
noncomputable abbrev Cctt:Ctx:=zR prog [(20,zg false [1] (IG fun l v=>int (XL v 0 l)))]
theorem kf:zf prog 14 (zg false [1] (IG fun l v=>wo (decide (v∈l)))):=
 vX (zS mixed ⟨Ey,trivial⟩:AM.Good Cctt _) func14 false [1] fun⟨l,v⟩ a=>by
  have b:=fun Y Z=>JM (fun l v=>int (XL v 0 l)) l v Y Z a
  have c:=BI v l 0;exact⟨by simp[f14],_,zm rfl (by simp[b,c,f14]),qc _⟩
noncomputable def Wl (s:qA) (q:za):Int:=if qG s.name=true then(if Vs s.name q=true then 8 else Zf s)else 5
noncomputable def FSgB (out:qA->za->O):zb->Option O:=qf (α:=qA×za) (fun a=>[.agg a.1.V,str a.2]) (fun a=>a.1.cb<=zw) fun a=>out a.1 a.2
theorem II(out:qA->za->O)(s:qA)(q:za)(Y:Hp)(Z:Nat)(h:s.cb<=zw)(c:(out s q).flat=true):zg false [] (FSgB out) [.agg s.V,str q] Y Z=some (out s q,Y,Z):=
 XX (s,q) _ _ (by simp[w8]) (fun a b e=>by obtain⟨d,f⟩:=a;obtain⟨g,i⟩:=b;simp only[zh,zA,O.agg.injEq]at e;rw[YJ e.1,wb e.2]) h (.inl c)
noncomputable abbrev Crsg:Ctx:=zR prog [(49,zg false [] (FS qG)),(78,zg false [] (PF (fun l=>int (xa l)) fun l=>Yr l<=zw)),(14,zg false [1] (IG fun l v=>wo (decide (v∈l)))),(79,GC fun c=>int c.check)]
theorem BJ{α:Type}{p:α->Bool}{l:List α}{k:Nat}(h:k<l.length):(l.drop k).any p=(p l[k]||(l.drop (k+1)).any p):=by rw[zc h,yr]
theorem a7(s:qA)(q:za)(h:s.cb<=zw):zo Crsg f46 [.agg s.V,str q]=some (int (Wl s q)):=by
 have D:s.cb=1+s.name.length+Yr s.ins+Yr s.outs+s.cond.cb:=rfl;have E:=Q1 s.ins;have F:=Q1 s.outs;unfold zw at h;have a:s.name.length<=zw:=by unfold zw;omega
 have u:=fun Y Z=>ck (fun l=>int (xa l)) (fun l=>Yr l<=zw) s.ins Y Z (by unfold zw;omega) rfl
 have B:=fun Y Z=>ck (fun l=>int (xa l)) (fun l=>Yr l<=zw) s.outs Y Z (by unfold zw;omega) rfl
 have G:=fun Y Z=>Zv (fun c=>int c.check) s.cond Y Z (by unfold zw;omega)
 have r:(Op.bytesLess s.name q||s.name==q)=Vs s.name q:=rfl;refine zm rfl ?_;unfold Wl;cases n:qG s.name
 ·simp[a,n,f46]
 cases t:Vs s.name q
 case true=>simp[a,n,r,t,f46]
 by_cases b:xa s.ins=0
 case neg=>
  have e:Zf s=xa s.ins:=by unfold Zf;rw[zd b]
  have w:=xN b;simp[a,n,r,t,u,w,e,f46]
 by_cases o:xa s.outs=0
 case neg=>
  have e:Zf s=xa s.outs:=by unfold Zf;rw[ze b,zd o]
  have y:=xN o;simp[a,n,r,t,u,b,B,y,e,f46]
 simp[a,n,r,t,u,b,B,o];refine zF (fun k U Y Z=>U 2=.ref 0 0 0/\U 32=.sl 1 (zx s.ins)/\U 33=int s.ins.length/\U 34=int k/\1<=Z/\Y 0=some (sC s)/\(s.ins.any fun k=>s.outs.contains k)=(s.ins.drop k).any fun k=>s.outs.contains k) s.ins.length
  ⟨by simp,by simp,by simp,by simp,by simp,by simp[sC],by simp⟩ ?_
 rintro k U Y Z K ⟨z,f,g,i,H,p,m⟩;simp only[sC]at p;by_cases j:k<s.ins.length
 ·have I:=ql k;obtain⟨x,A⟩:=yx (s.ins[k]);rw[BJ j,A]at m;have C:=fun Y Z=>JM (fun l v=>wo (decide (v∈l))) s.outs x Y Z (by unfold zw;omega)
  by_cases d:x∈s.outs
  ·have e:Zf s=7:=by unfold Zf;rw[ze b,ze o,m];simp[d]
   simp[z,f,g,i,j,A,p,C,d,e,f46]
  ·have J:s.outs.contains x=false:=by simpa using d
   rw[J,km]at m;simp[z,f,g,i,j,A,p,C,d,I]
   and_intros<;>first|omega|exact p|rfl|simpa using m
 ·obtain rfl:k=s.ins.length:=by omega
  rw[zn]at m;have e:Zf s=s.cond.check:=by unfold Zf;rw[ze b,ze o,m];simp
  simp[z,f,g,i,p,G,e,f46]
theorem XM:zf prog 46 (zg false [] (FSgB fun s q=>int (Wl s q))):=
 vX (zS mixed ⟨xw,dZ,kf,af,trivial⟩:AM.Good Crsg _) func46 false [] fun⟨s,q⟩ a=>⟨zG (zk 2) (by decide),_,a7 s q a,qc _⟩
@[simp]theorem zff(s:q8):s.V.length=11:=rfl
def zdL(c:Cut):Bool:=c.v.a==0&&(c.v.b==0&&(c.v.c==0&&((c.v.pre.length:Int)==0&&!c.after)))
noncomputable def behC (v:yf) (c:Cut):Bool:=decide (0<ZO v c.v)||(ZO v c.v==0&&!c.after)
noncomputable def Ui (s:q8):Int:=if s.kc=true then(if zdL s.hi=true then 0 else 3)else if Qr s.hi.v=0 then(if 0<=wv s.lo s.hi then 8 else 0)else Qr s.hi.v
noncomputable def za0 (p:Option q8) (s:q8):Bool:=match p with
 |none=>false
 |some q=>q.kc||decide (0<=wv q.hi s.lo)
noncomputable def rngG:Option q8->List q8->Int
 |_,[]=>0
 |p,s::l=>if Qr s.lo.v=0 then(if Ui s=0 then(if za0 p s=true then 8 else rngG (some s) l)else Ui s)else Qr s.lo.v
noncomputable def rngF (l:List q8):Int:=if(100:Int)<l.length then 2 else rngG none l
noncomputable def inS (v:yf) (s:q8):Bool:=behC v s.lo&&(s.kc||!behC v s.hi)
noncomputable def wthF (v:yf) (l:List q8):Bool×Int:=if Qr v=0 then(if rngF l=0 then(l.any (inS v),0)else(false,rngF l))else(false,Qr v)
end Go.Q
namespace Go.LikeLaw
inductive Lk:List UInt8->List UInt8->Prop
 |nil:Lk [] []
 |Pr {t p:List UInt8}:Lk t p->Lk t (42::p)
 |Ps {c:UInt8} {t p:List UInt8}:Lk t (42::p)->Lk (c::t) (42::p)
 |one {c q:UInt8} {t p:List UInt8}:q≠42->(q=63\/q=c)->Lk t p->Lk (c::t) (q::p)
theorem CE{t p:za}:Lk t (42::p)↔∃a b,t=a++b/\Lk b p:=by
 constructor
 ·intro h;generalize d:(42::p:za)=q at h
  induction h with
  |nil=>cases d
  |Pr h _=>cases d;exact⟨[],_,rfl,h⟩
  | @Ps c t i h e=>obtain⟨a,b,rfl,g⟩:=e d;exact⟨c::a,b,rfl,g⟩
  |one f _ _=>cases d;exact absurd rfl f
 ·rintro⟨a,b,rfl,h⟩
  induction a with
  |nil=>exact .Pr h
  |cons c a e=>exact .Ps e
theorem F2{c q:UInt8}{t p:za}(a:q≠42):Lk (c::t) (q::p)↔(q=63\/q=c)/\Lk t p:=by
 constructor
 ·intro h;cases h with
  |Pr=>exact absurd rfl a
  |Ps=>exact absurd rfl a
  |one _ b d=>exact⟨b,d⟩
 ·rintro⟨b,d⟩;exact .one a b d
theorem BK{q:UInt8}{p:za}(a:q≠42):¬Lk [] (q::p):=by intro h;cases h;exact a rfl
theorem split{k:za}:∀{g t:za},Lk t (g++k)->∃d e,t=d++e/\Lk d g/\Lk e k
 |[],t,h=>⟨[],t,rfl,.nil,h⟩
 |q::g,t,h=>by
  by_cases f:q=42
  ·subst f;obtain⟨a,b,rfl,l⟩:=CE.1 h;obtain⟨d,e,rfl,i,j⟩:=split l;exact⟨a++d,e,by simp,CE.2 ⟨a,d,rfl,i⟩,j⟩
  ·cases t with
   |nil=>exact absurd h (BK f)
   |cons c t=>obtain⟨a,b⟩:=(F2 f).1 h;obtain⟨d,e,rfl,i,j⟩:=split b;exact⟨c::d,e,rfl,.one f a i,j⟩
theorem gA{s:za}(hs:∀q∈s,q≠42){p:za}:∀{t:za},Lk t (s++p)->s.length<=t.length/\Lk (t.drop s.length) p:=by
 induction s with
 |nil=>intro t h;exact⟨by simp,h⟩
 |cons q s d=>
  intro t h;have a:q≠42:=hs q (by simp);cases t with
  |nil=>exact absurd h (BK a)
  |cons c t=>obtain⟨_,b⟩:=(F2 a).1 h;obtain⟨g,e⟩:=d (fun x f=>hs x (by simp[f])) b;exact⟨by simp;omega,by simpa using e⟩
structure Inv (t p:List UInt8) (star:Int) (fr i k:Nat):Prop where
 hi:i<=t.length
 hk:k<=p.length
 none_:star<0->star=-1/\(Lk t p↔Lk (t.drop i) (p.drop k))
 some_:0<=star->∃s,p.drop (star.toNat+1)=s++p.drop k/\star.toNat+1+s.length=k/\fr+s.length=i/\(∀q∈s,q≠42) /\
  (∀r,Lk (t.drop i) r->Lk (t.drop fr) (s++r))/\(Lk t p↔∃f,fr<=f/\f<=t.length/\Lk (t.drop f) (p.drop (star.toNat+1)))
end Go.LikeLaw
namespace Go.Q
open Go.RowKit Go.AM Go.LikeLaw
open Classical in
noncomputable def zdM (t p:za):Bool:=decide (Lk t p)
structure LInv (t p:List UInt8) (star:Int) (fr i k:Nat):Prop extends LikeLaw.Inv t p star fr i k where
 s0:-1<=star
 s1:star<k
 f1:fr<=i
end Go.Q
namespace Go.Q
noncomputable def Uj (l:List qu) (v:qu) (k:Nat):Bool:=match l[k]? with
 |some x=>decide (wz x v<0)
 |none=>false
noncomputable def bsV (l:List qu) (v:qu):Nat×Bool:=(ZT (Uj l v) 0 l.length,match l[ZT (Uj l v) 0 l.length]? with
 |some x=>wz x v==0
 |none=>false)
def ordF(op n w:Int):Bool:=if op=3 then decide (n<w)else if op=4 then decide (n<=w)else if op=5 then decide (w<n)else decide (w<=n)
noncomputable def verF (s p:za):Bool:=match oG s with
 |none=>false
 |some v=>(wthF v (Zx p).1).1
noncomputable def fitF (op:Int) (s p:za):Bool:=if op=7 then p.isPrefixOf s else if op=8 then Lib.hasSuffix s p else if op=9 then Lib.contains s p else if op=10 then zdM s p else verF s p
def zdN(l:List qu):Int:=match l with
 |[]=>0
 |x::_=>x.n
noncomputable def zdO (c:qW) (v:qu):Bool:=if c.op=1 then true else if c.op=2 then(bsV c.kP v).2 else if c.op=12 then v.kind==4&&v.items.any (fun x=>(bsV c.kP x).2)else if vf c.op=true then v.kind==2&&ordF c.op v.n (zdN c.kP)else v.kind==3&&fitF c.op v.s c.pat
def UpV(l:List qu):Prop:=l.Pairwise fun a b=>wz a b<0
end Go.Q
