/- Lemmas. -/
import Derived.Test.YtmngbpkapamhoaaGreatDoorG12
set_option maxRecDepth 100000
set_option maxHeartbeats 4000000
open Go Proofs Proofs.YtmngbpkapamhoaaGreatDoor Proofs.Tryz RowKit AM SpanLaw Q Zz
open Go.IntKind renaming i64→i6
namespace Go.Q
noncomputable def FBu (out:Bk->O):zb->Option O:=qd (α:=Bk) (fun b=>[.agg b.V]) (fun b=>b.cb<=zA/\eR (b.zf.map w9.name)) out
theorem FH(out:Bk->O)(b:Bk)(Y:Hp)(Z:Nat)(h:b.cb<=zA)(c:eR (b.zf.map w9.name)):hP (FBu out) [.agg b.V] Y Z=some (out b,Y,Z):=
 QL b _ _ (by simp only[zC,K0]) (fun a b e=>by simp only[zj,zG,O.agg.injEq]at e;exact Kr e) ⟨h,c⟩ (.inr (by simp only[wi,pE];rfl))
def HolI(b:Bk)(k:Nat)(Y:Hp)(Z:Nat)(v w:O):Prop:=∃(a:za) (l:List za),v=str a/\qN Y Z 9 1 w (zy l)/\(k=0->a=[])/\l.length<=b.zf.length+k/\yq b.zf [] (b.zf.map w9.qp) b.holds=yq b.zf a l (b.holds.drop k)
noncomputable abbrev Crho:Ctx:=Yv prog [(81,hP (FNb fun a b c=>int (xO a b c))),(82,hP (FS Yf)),(39,zh false [1] (OP fun l v=>wb (decide (v∈l)))),(44,hP (FBS fun b s=>YK (kF s b.zf)))] 31 [8,97,100] []
theorem zck:Gd Crho:=nZ mixed ⟨J7,by simp,WU,by simp,kQ,by simp,ZB,by simp,trivial⟩ (by simp[gg])
theorem FJ{L:List w9}{l:List za}{k:Nat}(h:k<l.length):Zd L (Qz l k) (l.drop k)=if(ZF (L.map w9.name) l[k]).2=true then(if leP (Qz l k) l[k]=true then 8 else Zd L (Qz l (k+1)) (l.drop (k+1)))else 9:=by
 rw[zc h,Zd];have:Qz l (k+1)=some l[k]:=by simp[Qz,h]
 rw[this]
theorem FK(b:Bk)(hb:b.cb<=zA)(hu:eR (b.zf.map w9.name)):zv Crho f42 [.agg b.V]=some (int (yq b.zf [] (b.zf.map w9.qp) b.holds).1):=by
 refine zn rfl ?_;have hL:=qZ vR b.zf;have hH:=qZ Q1 b.holds;have hbc:b.cb=yn w9.cb b.zf+yn vi.cb b.holds+yn Xp.cb b.zU:=rfl;have MN:=fun s Y Z=>ax (fun b s=>YK (kF s b.zf)) b s Y Z hb
 simp only[Bk.V]at MN;unfold zA at hb;simp[Bk.V];refine zL (fun k σ Y Z=>σ 1=.ref 0 0 0/\σ 15=.sl 3 (b.zf.map w9.V)/\σ 16=int b.zf.length/\σ 17=int k/\1<=Z/\Y 0=some ⟨27,3,false,[b.V]⟩/\σ 97=.w5 []/\σ 100=.w5 []/\qN Y Z 9 1 (σ 3) (zy ((b.zf.map w9.qp).take k))) b.zf.length
  ⟨by simp,by simp,by simp,by simp,by simp,by simp[Bk.V],by simp,by simp,.inl ⟨by simp,rfl⟩⟩ ?_
 rintro k σ Y Z hk ⟨B,h15,h16,h17,hnx,L,h97,N,F⟩;by_cases p:k<b.zf.length
 ·obtain⟨x,M⟩:=wZ (b.zf[k]);have hw:=qe k;have hE:zy ((b.zf.map w9.qp).take (k+1))=zy ((b.zf.map w9.qp).take k)++[[str x.qp]]:=by rw[zQ (by simpa using p),Yp,M];simp[zy]
  obtain⟨ys,hys⟩:=wZ (zy ((b.zf.map w9.qp).take k));have hyl:ys.length<=268435456:=by rw[<-hys];simp;omega
  rw[hys]at F hE;have J:=F.more (some ⟨47,3,false,[x.V]⟩);have Q:=qN.yx (P:=prog) (t:=38) (c:=[str x.qp]) J Jn mI oa ob rfl (by omega) (by unfold maxLen;omega) (by omega);simp only[w9.V]at Q;simp[B,h15,h16,h17,h97,N,p,M,w9.V,Q,hw,zt,zJ,zr];have w:=fun Y'=>yr F Y' 0 (KY F L rfl)
  exact⟨by omega,by simp[w,show¬0=Z by omega,L],by rw[hE];simpa using qN.after⟩
 obtain rfl:k=b.zf.length:=by omega
 rw[zZ (by simp)]at F;have D:=L;simp only[Bk.V]at D;simp[B,h15,h16,h17,D];refine zL (fun k σ Y Z=>σ 1=.ref 0 0 0/\σ 28=.sl 4 (b.holds.map vi.V)/\σ 29=int b.holds.length/\σ 30=int k/\1<=Z/\Y 0=some ⟨27,3,false,[b.V]⟩/\fQ Y Z (σ 97)/\fQ Y Z (σ 100)/\HolI b k Y Z (σ 6) (σ 3)) b.holds.length
  ⟨by simp[B],by simp,by simp,by simp,hnx,L,by simp[h97],by simp[N],[],b.zf.map w9.qp,by simp,by simpa using F,by simp,by simp,by simp⟩ ?_
 clear B h15 h16 h17 hnx L D h97 N F hk p σ Y Z;rintro k σ Y Z hk ⟨B,d,g,m,hnx,L,R,G,before,l,h6,F,hb0,hlk,n⟩;by_cases p:k<b.holds.length
 ·obtain⟨x,M⟩:=wZ (b.holds[k]);have hmx:=yD (f:=vi.cb) (zi p);rw[M]at hmx;have hxc:x.cb=1+x.name.length+x.qp.length+yn (fun s=>1+s.length) x.zf:=rfl;have PO:=qZ (f:=fun s:List UInt8=>1+s.length) (fun s=>by omega) x.zf;rw[zc p,M]at n;simp only[yq]at n;have hw:=qe k;have hnf:xO x.name before (decide (k=0))=jS x.name before:=by
   rw[J8];by_cases k0:k=0
   ·rw[hb0 k0];simp
   ·simp[k0]
  have E:=fun Y Z=>fo (fun a b c=>int (xO a b c)) x.name before (decide (k=0)) Y Z (by unfold zA;omega) rfl
  simp only[hnf]at E;have w:((k:Int)==0)=decide (k=0):=by rw[qA];simp
  have K:x.qp.length<=zA:=by unfold zA;omega
  have J:=F.more (some ⟨49,4,false,[x.V]⟩);have r:=Cw (fun l v=>wb (decide (v∈l))) (v:=x.qp) J (by unfold zA;omega) rfl;simp only[vi.V]at r;have n0:¬0=Z:=by omega
  by_cases c1:jS x.name before=0
  case neg=>rw[ze c1]at n;have Pw:=vX c1;simp[B,h6,d,g,m,p,M,vi.V,w,E,Pw,n,f42]
  rw[zd c1]at n;cases s1:Yf x.qp
  ·have c2:jg l x.qp=3:=by simp[jg,s1]
   rw[c2]at n;simp at n;simp[B,h6,d,g,m,p,M,vi.V,w,E,c1,K,s1,n,f42]
  by_cases s2:x.qp∈l
  ·have c2:jg l x.qp=7:=by simp[jg,s1,s2]
   rw[c2]at n;simp at n;rw[kp s2]at r;simp[B,h6,d,g,m,p,M,vi.V,w,E,c1,K,s1,r,n,f42]
  have c2:jg l x.qp=0:=by simp[jg,s1,s2]
  rw[zd c2,FB c2]at n;rw[kr s2]at r;have A:cc b.zf x=if jG x.buckets 1 100000=true then(if x.zf.length=0 then 9 else Zd b.zf none x.zf)else 1:=rfl
  by_cases r1:x.buckets<1
  ·have c3:jG x.buckets 1 100000=false:=by simp[jG];omega
   rw[c3,ze (by simp)]at A;rw[A]at n;simp at n;simp[B,h6,d,g,m,p,M,vi.V,w,E,c1,K,s1,r,r1,n,f42]
  by_cases r2:100000<x.buckets
  ·have c3:jG x.buckets 1 100000=false:=by simp[jG];omega
   rw[c3,ze (by simp)]at A;rw[A]at n;simp at n;simp[B,h6,d,g,m,p,M,vi.V,w,E,c1,K,s1,r,r1,r2,n,f42]
  have c3:jG x.buckets 1 100000=true:=by simp[jG];omega
  rw[c3,zd rfl]at A;by_cases z:x.zf.length=0
  ·rw[zd z]at A;rw[A]at n;simp at n;have z':x.zf=[]:=qo.1 z;rw[z']at r;simp only[D5]at r;simp[B,h6,d,g,m,p,M,vi.V,w,E,c1,K,s1,r,r1,r2,z',n,f42]
  rw[ze z]at A;have z':((x.zf.length:Int)==0)=false:=by rw[qQ];omega
  have z2:x.zf≠[]:=fun e=>z (by rw[e];rfl)
  obtain⟨P,hP⟩:=wZ Z;obtain⟨v,S⟩:=wZ (σ 3);rw[S]at F J r;simp[B,h6,d,g,m,S,p,M,vi.V,w,E,c1,K,s1,r,r1,r2,z',z2];have hP0:1<=P:=by omega
  rw[hP]at J⊢;refine zL (fun j σ Y Z=>σ 1=.ref 0 0 0/\σ 28=.sl 4 (b.holds.map vi.V)/\σ 29=int b.holds.length/\σ 30=int k/\σ 3=v/\σ 8=.ref P 0 0/\σ 69=.sl 1 (zy x.zf)/\σ 70=int x.zf.length/\σ 71=int j/\P<Z/\Y 0=some ⟨27,3,false,[b.V]⟩/\Y P=some ⟨49,4,false,[x.V]⟩/\fQ Y Z (σ 97)/\fQ Y Z (σ 100)/\qN Y Z 9 1 v (zy l)/\Zd b.zf none x.zf=Zd b.zf (Qz x.zf j) (x.zf.drop j)) x.zf.length
   ⟨by simp[B],by simp[d],by simp[g],by simp[m],by simp[S],by simp,by simp,by simp,by simp,(by show P<P+1;omega),by simp[show¬0=P by omega,L],by simp[vi.V],by simpa using(hP ▸ R).keep (by omega) fun id blk hid hb _=>by rw[zz _ _ _ _ (by omega)];exact hb,by simpa using(hP ▸ G).keep (by omega) fun id blk hid hb _=>by rw[zz _ _ _ _ (by omega)];exact hb,by simpa[vi.V]using J,by simp[Qz]⟩ ?_
  clear B h6 d g m S F J r hP R G L n0 E hnx σ Y Z;rintro j σ Y Z hj ⟨B,d,g,m,S,h8,T,U,W,cB,L,bP,R,G,F,o⟩;have n0:¬0=Z:=by omega
  have nP:¬P=Z:=by omega
  by_cases H:j<x.zf.length
  ·obtain⟨s,hs⟩:=wZ (x.zf[j]);have hke:∀h:j<(zy x.zf).length,(zy x.zf)[j]=[str s]:=fun h=>by simp[zy,hs]
   have hwj:=qe j;rw[FJ H,hs]at o;have C:=fun Y Z=>MN s Y Z
   have D:=L;have I:=bP;simp only[Bk.V]at D;simp only[vi.V]at I;rcases fp hu s with⟨f1,q,hq,_,f2⟩|⟨f1,f2⟩
   ·rw[f1,zd rfl]at o;obtain⟨y,hy⟩:=wZ (b.zf[q]);rw[hy]at f2;simp only[f2,JD]at C;have hfin:∀t2,Zd b.zf none x.zf=Zd b.zf (Qz x.zf (j+1)) (x.zf.drop (j+1))->(fQ (qq Y Z t2) (Z+1) (σ 97)/\fQ (qq Y Z t2) (Z+1) (σ 100)/\qN (qq Y Z t2) (Z+1) 9 1 v (zy l)/\Zd b.zf none x.zf=Zd b.zf (Qz x.zf (j+1)) (x.zf.drop (j+1))):=fun t2 h=>
     ⟨R.keep (by omega) fun id blk hid hb _=>by rw[zz _ _ _ _ (by omega)];exact hb,G.keep (by omega) fun id blk hid hb _=>by rw[zz _ _ _ _ (by omega)];exact hb,F.more _,h⟩
    by_cases j0:j=0
    ·subst j0;have Y0:leP (Qz x.zf 0) s=false:=rfl;rw[Y0,ze (by simp)]at o;have X:=fun t2=>hfin t2 o
     simp only[wg,List.drop_one]at X;simp[B,d,g,m,S,h8,T,U,W,H,hke,D,I,n0,nP,C,hwj];exact⟨by omega,by omega,rfl,rfl,X _⟩
    ·obtain⟨i,rfl⟩:∃i,j=i+1:=⟨j-1,by omega⟩;have hi:i<x.zf.length:=by omega
     obtain⟨u,hu'⟩:=wZ (x.zf[i]);have hki:∀h:i<(zy x.zf).length,(zy x.zf)[i]=[str u]:=fun h=>by simp[zy,hu']
     have wj:i6.wrap ((i:Int)+1-1)=(i:Int):=by rw[wS (by omega) (by omega)];omega
     have wj':=wq (i:Int);have j1:((i:Int)+1).toNat=i+1:=by omega
     have j2:0<(i:Int)+1:=by omega
     have j3:0<=(i:Int)+1:=by omega
     have j4:(i:Int)+1<x.zf.length:=by omega
     have wk:=wq ((i:Int)+1+1);have hpl:leP (Qz x.zf (i+1)) s=Xh s u:=by simp[Qz,hi,hu',leP]
     have hle:(Op.bytesLess s u||s==u)=Xh s u:=rfl;rw[hpl]at o;cases hc:Xh s u
     ·rw[hc,ze (by simp)]at o;rw[hc]at hle;simp[B,d,g,m,S,h8,T,U,W,H,hi,hke,hki,D,I,n0,nP,C,wk,wj,wj',j1,j2,j3,j4,hle];exact⟨by omega,by omega,rfl,rfl,hfin _ o⟩
     ·rw[hc,zd rfl]at o;rw[hc]at hle;rw[A,o]at n;simp at n;simp[B,d,g,m,S,h8,T,U,W,H,hi,hke,hki,D,I,n0,nP,C,hwj,wj,wj',j1,j2,j3,j4,hle,n,f42]
   ·rw[f1,ze (by simp)]at o;rw[A,o]at n;simp at n;simp only[f2,dv]at C;simp[B,d,g,m,S,h8,T,U,W,H,hke,D,I,n0,nP,C,n,f42]
  ·obtain rfl:j=x.zf.length:=by omega
   rw[zp]at o;simp only[Zd]at o;rw[A,o,zd rfl]at n;have Q:=qN.yx (P:=prog) (t:=38) (c:=[str x.qp]) F Jn mI oa ob rfl (by omega) (by rw[wa];unfold maxLen;omega) (by rw[wa];omega);rw[FD]at Q;have I:=bP;simp only[vi.V]at I;simp[B,d,g,m,S,h8,T,U,W];rw[Xg (FE (by decide) (by
    intro s hs;simp at hs;rcases hs with rfl|rfl|rfl
    ·simp only[zD _ _ _ _ (show(8:Nat)≠72 by decide),h8];exact K7 (by omega) bP rfl
    ·simp;exact R
    ·simp;exact G))]
   simp[B,d,g,m,S,h8,hw,I,n0,nP,Q,zt,zJ,zr];have w:=fun Y'=>yr F Y' 0 (KY F L rfl)
   exact⟨by omega,by simp[w,n0,L],K7 (by omega) (bn F (by omega) bP rfl) rfl,K7 (by omega) (bn F (by omega) bP rfl) rfl,x.name,l++[x.qp],rfl,qN.zah,by simp,by simp;omega,n⟩
 ·obtain rfl:k=b.holds.length:=by omega
  rw[zp]at n;simp only[yq]at n;simp[B,d,g,m,n,f42]
theorem fu:zg prog 42 (hP (FBu fun b=>int (yq b.zf [] (b.zf.map w9.qp) b.holds).1)):=
 vM zck func42 false [] fun b ⟨a,c⟩=>⟨by simp[f42],_,FK b a c,z8 _⟩
def rn(l:List yz)(k:Nat):Option yz:=if k=0 then none else l[k-1]?
abbrev qrph:List Nat:=[120]
noncomputable abbrev Crph:Ctx:=zV prog [(130,hP (mi X7)),(131,hP (FP (fun l=>int (jc l)) fun _=>True)),(120,hP (S7 (fun a b=>wb (decide (a=b))) fun a _=>a.length<=zA))]
theorem zcl:AM.Good Crph (fun g=>qrph.contains g):=qC mixed ⟨s9,by simp,eO,by simp,BH,fun _=>zu _ _,trivial⟩
theorem CD(l:List yz)(h:yn yz.cb l<=zA):zv Crph f86 [.sl 2 (l.map yz.V)]=some (int (yU l)):=by
 have N:=qZ J4 l;unfold zA at h;refine zn rfl ?_;rw[<-CB];by_cases r:(50:Int)<l.length
 ·have I:K6 l=2:=by unfold K6;rw[zd r]
  simp[r,I,f86]
 have I:K6 l=CA none l:=by unfold K6;rw[ze r]
 rw[I];simp[r];refine zL (fun k σ Y Z=>σ 0=.sl 2 (l.map yz.V)/\σ 9=.sl 2 (l.map yz.V)/\σ 10=int l.length/\σ 11=int k/\CA none l=CA (rn l k) (l.drop k)) l.length
  ⟨by simp,by simp,by simp,by simp,by simp[rn]⟩ ?_
 rintro k σ Y Z hk ⟨s,t,g,i,c⟩;by_cases d:k<l.length
 ·have Q:=yD (f:=yz.cb) (zi d);obtain⟨x,p⟩:=wZ (l[k]);have J:rn l (k+1)=some x:=by simp[rn,d,p]
  rw[p]at Q;have R:x.cb=1+x.qJ.length:=rfl;rw[zc d,p]at c;simp only[CA]at c;rw[<-J]at c;have m:=fun Y Z=>L4 (fun l=>int (jc l)) (fun _=>True) x.qJ Y Z trivial
  have S:=qe k;cases q:X7 x.at_
  ·rw[q,ze (by simp)]at c;simp[s,t,g,i,d,p,yz.V,q,c,f86]
  rw[q,zd rfl]at c;by_cases T:k=0
  ·subst T;have U:rn l 0=none:=rfl;rw[U]at c;simp only[zP,wF]at c;by_cases n:jc x.qJ=0
   ·rw[zd n]at c;cases w:x.qJ.isEmpty
    ·rw[w,ze (by simp)]at c;have K:((x.qJ.length:Int)==0)=false:=by rw[qQ];intro e;have:x.qJ=[]:=qo.1 (by omega);rw[this]at w;cases w
     have u:x.qJ≠[]:=fun e=>by rw[e]at w;cases w
     simp[s,t,g,i,d,p,yz.V,q,m,n,K,u,S];exact⟨by omega,by simpa using c⟩
    ·rw[w,zd rfl]at c;have u:x.qJ=[]:=by simpa using w
     rw[u]at m n;simp only[yX]at m;simp[s,t,g,i,d,p,yz.V,q,m,n,u,c,f86]
   ·rw[ze n]at c;have z:=vX n;simp[s,t,g,i,d,p,yz.V,q,m,n,z,c,f86]
  ·obtain⟨j,rfl⟩:∃j,k=j+1:=⟨k-1,by omega⟩;have A:j<l.length:=by omega
   obtain⟨y,B⟩:=wZ (l[j]);have L:=yD (f:=yz.cb) (zi A);rw[B]at L;have W:y.cb=1+y.qJ.length:=rfl;have C:i6.wrap ((j:Int)+1-1)=(j:Int):=by rw[wS (by omega) (by omega)];omega
   have v:=wq (j:Int);have D:((j:Int)+1).toNat=j+1:=by omega
   have E:0<(j:Int)+1:=by omega
   have F:0<=(j:Int)+1:=by omega
   have G:(j:Int)+1<l.length:=by omega
   have P:((j:Int)+1==0)=false:=by rw[qQ];omega
   have M:rn l (j+1)=some y:=by simp[rn,A,B]
   have H:=fun Y Z=>pq (fun a b=>wb (decide (a=b))) (fun a _=>a.length<=zA) x.qJ y.qJ Y Z (by unfold zA;omega)
   rw[M]at c;simp only[zS]at c;by_cases o:x.at_<=y.at_
   ·rw[zd o]at c;simp[s,t,g,i,d,A,p,B,yz.V,q,C,v,D,E,F,G,o,c,f86]
   ·rw[ze o]at c;by_cases n:jc x.qJ=0
    ·rw[zd n]at c;by_cases hs:x.qJ=y.qJ
     ·rw[zd hs]at c;rw[kp hs]at H;simp[s,t,g,i,d,A,p,B,yz.V,q,C,v,D,E,F,G,P,o,m,n,H,c,f86]
     ·rw[ze hs]at c;rw[kr hs]at H;have X:=wq ((j:Int)+1+1);simp[s,t,g,i,d,A,p,B,yz.V,q,C,v,D,E,F,G,P,o,m,n,H,X];exact⟨by omega,c⟩
    ·rw[ze n]at c;have z:=vX n;simp[s,t,g,i,d,A,p,B,yz.V,q,C,v,D,E,F,G,o,m,n,z,c,f86]
 ·obtain rfl:k=l.length:=by omega
  rw[zp]at c;simp only[CA]at c;simp[s,t,g,i,c,f86]
theorem cr:zg prog 86 (hP (FPh fun l=>int (yU l))):=
 vM zcl func86 false [] fun l a=>⟨by simp[f86],_,CD l a,z8 _⟩
noncomputable def FClR:zb->Option O:=qd (α:=Xp×Xp×Int) (fun a=>[.agg a.1.V,.agg a.2.1.V,int a.2.2]) (fun a=>a.1.tt/\a.2.1.tt/\0<=a.2.2/\a.2.2<=100000000) (fun a=>wb (xP a.1 a.2.1 a.2.2))
theorem bo(a b:Xp)(rest:Int)(Y:Hp)(Z:Nat)(h:a.tt/\b.tt/\0<=rest/\rest<=100000000):hP FClR [.agg a.V,.agg b.V,int rest] Y Z=some (wb (xP a b rest),Y,Z):=
 QL (a,b,rest) _ _ (by simp only[zC,bb];rfl) (fun x y e=>by obtain⟨c,d,f⟩:=x;obtain⟨g,i,j⟩:=y;simp only[zj,zG,O.agg.injEq]at e;rw[cX e.1,cX e.2.1,qR e.2.2]) h (.inl rfl)
noncomputable abbrev Mp:Ctx:=zV prog [(87,hP (FXn fun x i=>int (iw x.zF i))),(88,hP (S7 (fun a b=>wb (kj a b)) fun a b=>a.length<=zA/\b.length<=zA))]
theorem Ul:AM.Good Mp (fun g=>[87,88].contains g):=qC mixed ⟨IV,fun _=>zu _ _,Cx,fun _=>zu _ _,trivial⟩
@[simp]theorem zfv:ki Mp 87:=yL (by rfl) (zu _ _)
@[simp]theorem zfw:ki Mp 88:=yL (by rfl) (zu _ _)
theorem IX{l:List yz}(h:VO l)(i:Nat):0<=iw l i/\iw l i<=1125899906842624:=by
 unfold iw;split
 ·rename_i p Y;have:=h p (zN Y);omega
 ·omega
theorem Um{a b:List yz}{rest:Int}{i:Nat}{l:List yz}(h:i<l.length):PI a b rest i (l.drop i)=(b.any (tc a i l[i] rest)||PI a b rest (i+1) (l.drop (i+1))):=by rw[zc h,PI]
theorem FL(a b:Xp)(rest:Int)(T:a.tt)(U:b.tt)(hr:0<=rest/\rest<=100000000):zv Mp f45 [.agg a.V,.agg b.V,int rest]=some (wb (xP a b rest)):=by
 obtain⟨A,F⟩:=T;obtain⟨G,H⟩:=U;have W:=qZ J4 a.zF;have X:=qZ J4 b.zF;have xca:a.cb=a.name.length+a.wH.length+a.flag.length+a.cond.cb+a.qp.length+a.yF.length+yn yz.cb a.zF:=rfl;have xcb:b.cb=b.name.length+b.wH.length+b.flag.length+b.cond.cb+b.qp.length+b.yF.length+yn yz.cb b.zF:=rfl;unfold zA at F H;refine zn rfl ?_;simp[qK];have B:xP a b rest=PI a.zF b.zF rest 0 a.zF:=rfl;refine zL (fun i σ Y Z=>σ 2=int rest/\σ 3=.ref 0 0 0/\σ 4=.ref 1 0 0/\σ 12=.sl 2 (a.zF.map yz.V)/\σ 13=int a.zF.length/\σ 14=int i/\2<=Z/\Y 0=some ⟨57,13,false,[a.V]⟩/\Y 1=some ⟨57,13,false,[b.V]⟩/\xP a b rest=PI a.zF b.zF rest i (a.zF.drop i)) a.zF.length
  ⟨by simp,by simp,by simp,by simp,by simp,by simp,by simp,by simp[qK],by simp[qK],by rw[B];simp⟩ ?_
 rintro i σ Y Z hi ⟨n,o,r,c,d,e,I,s,t,h⟩;by_cases l:i<a.zF.length
 ·obtain⟨p,m⟩:=wZ (a.zF[i]);have hpm:=A p (by rw[<-m];exact zi l);have hsp:=yD (f:=yz.cb) (show p∈a.zF by rw[<-m];exact zi l);have hpc:p.cb=1+p.qJ.length:=rfl;rw[Um l,m]at h;have J:=qe i;have C:¬0=Z:=by omega
  have n1:¬1=Z:=by omega
  simp[n,o,r,c,d,e,l,m,yz.V,s,t,C,n1,qK];obtain⟨P,hP⟩:=wZ Z;rw[hP];have hea:=IX A i;refine zL (fun k σ Y Z=>σ 2=int rest/\σ 3=.ref 0 0 0/\σ 4=.ref 1 0 0/\σ 12=.sl 2 (a.zF.map yz.V)/\σ 13=int a.zF.length/\σ 14=int i/\σ 7=int i/\σ 8=.ref P 0 0/\σ 20=.sl 2 (b.zF.map yz.V)/\σ 21=int b.zF.length/\σ 22=int k/\2<=P/\P<Z /\
    Y 0=some ⟨57,13,false,[a.V]⟩/\Y 1=some ⟨57,13,false,[b.V]⟩/\Y P=some ⟨63,2,false,[p.V]⟩/\xP a b rest=((b.zF.drop k).any (tc a.zF i p rest)||PI a.zF b.zF rest (i+1) (a.zF.drop (i+1)))) b.zF.length
   ⟨by simp[n],by simp[o],by simp[r],by simp[c],by simp[d],by simp[e],by simp,by simp,by simp,by simp,by simp,by omega,(by show P<P+1;omega),by simp[s,show¬0=P by omega],by simp[t,show¬1=P by omega],by simp[yz.V],by simpa using h⟩ ?_
  clear n o r c d e I s t C n1 hP hi σ Y Z;rintro k σ Y Z hk ⟨n,o,r,c,d,e,N,Q,v,w,y,K,cB,s,t,L,h⟩;by_cases g:k<b.zF.length
  ·obtain⟨q,j⟩:=wZ (b.zF[k]);have hqm:=G q (by rw[<-j];exact zi g);have hsq:=yD (f:=yz.cb) (show q∈b.zF by rw[<-j];exact zi g);have hqc:q.cb=1+q.qJ.length:=rfl;rw[zc g,wX,j]at h;have M:=qe k;have R:=wq (iw a.zF i+rest);have z:=fun Y Z=>Uh (fun x i=>int (iw x.zF i)) a i Y Z ⟨by unfold zA;omega,by unfold zA;omega⟩
   have D:=fun Y Z=>pq (fun a b=>wb (kj a b)) (fun a b=>a.length<=zA/\b.length<=zA) p.qJ q.qJ Y Z ⟨by unfold zA;omega,by unfold zA;omega⟩
   have C:¬0=Z:=by omega
   have n1:¬1=Z:=by omega
   have S:¬P=Z:=by omega
   have u:(decide (p.at_<=q.at_)&&decide (q.at_<iw a.zF i+rest)&&kj p.qJ q.qJ)=tc a.zF i p rest q:=rfl;rw[yz.V]at L;rw[qK]at s t z;cases E:tc a.zF i p rest q
   ·rw[E]at h;simp[n,o,r,N,Q,c,d,e,v,w,y,g,j,yz.V,s,t,L,C,n1,S,z,D,R,u,E,M];exact⟨by omega,K,by omega,(qK a).symm,(qK b).symm,by rw[h];simp⟩
   ·rw[E]at h;simp[n,o,r,N,Q,c,d,e,v,w,y,g,j,yz.V,s,t,L,C,n1,S,z,D,R,u,E,h,f45]
  ·obtain rfl:k=b.zF.length:=by omega
   rw[zp,List.any_nil,yN]at h;simp[n,o,r,c,d,e,v,w,y,J];exact⟨by omega,by omega,by rw[<-qK];exact s,by rw[<-qK];exact t,h⟩
 ·obtain rfl:i=a.zF.length:=by omega
  rw[zp]at h;simp only[PI]at h;simp[n,o,r,c,d,e,h,f45]
theorem fv:zg prog 45 (hP FClR):=
 vM Ul func45 false [] fun⟨a,b,rest⟩ ⟨c,d,e⟩=>⟨by simp[f45],_,FL a b rest c d e,z8 _⟩
theorem fw(l:List Rg)(n:Int)(Q:1<=n/\n<=20):zv C0 f85 [.sl 3 (l.map Qq),int n]=some (int (jn l n)):=by
 refine zn rfl ?_;rw[jn];by_cases u:l.length=0
 ·have:l=[]:=qo.1 u;subst this;simp[f85]
 have p:¬l=[]:=fun h=>u (by rw[h];rfl)
 have D:((l.length:Int)==0)=false:=by simpa using p
 by_cases E:(200:Int)<l.length
 ·simp[D,u,p,E,f85]
 simp[D,u,p,E];refine zL (fun k σ Y Z=>σ 0=.sl 3 (l.map Qq)/\σ 1=int n/\σ 16=.sl 3 (l.map Qq)/\σ 17=int l.length/\σ 18=int k/\∃a:Int,σ 5=int a/\L5 n 0 none l=L5 n a (J2 l k) (l.drop k)) l.length
  ⟨by simp,by simp,by simp,by simp,by simp,0,by simp,by simp[J2]⟩ ?_
 rintro k σ Y Z R ⟨i,m,d,e,f,a,o,b⟩;by_cases c:k<l.length
 ·have S:=qe k;rw[EK c]at b;have g:(decide (l[k].2.2<0)||decide (n<=l[k].2.2))=!jG l[k].2.2 0 (n-1):=by simp only[jG];by_cases K:l[k].2.2<0<;>by_cases L:n<=l[k].2.2<;>simp[K,L]<;>omega
  cases y:jG l[k].2.2 0 (n-1)
  case false=>rw[y]at b g;simp at b;simp only[Bool.not_false]at g;simp[i,m,o,d,e,f,c,g,b,f85]
  rw[y]at g;simp only[Bool.not_true]at g;simp only[y,qV]at b;have q:((l[k].1 != a)||decide (l[k].2.1<=l[k].1))=rgO a l[k]:=rfl;cases z:rgO a l[k]
  case true=>rw[z]at q b;simp only[qV]at b;simp[i,m,o,d,e,f,c,g,q,b,f85]
  rw[z]at q;simp only[z,zP,wF]at b;by_cases r:(100000:Int)<l[k].2.1
  ·rw[zd r]at b;simp[i,m,o,d,e,f,c,g,q,r,b,f85]
  rw[ze r]at b;have s:J2 l (k+1)=some l[k].2.2:=by simp[J2,c]
  by_cases M:k=0
  ·subst M;simp only[J2,qV,rgT,zP,wF]at b;have N:=wq 1;simp[i,m,o,d,e,f,c,g,q,r,N];exact⟨c,by rw[b,s];simp⟩
  ·obtain⟨j,rfl⟩:∃j,k=j+1:=⟨k-1,by omega⟩;have A:j<l.length:=by omega
   have F:i6.wrap ((j:Int)+1-1)=(j:Int):=by rw[wS (by omega) (by omega)];omega
   have t:=wq (j:Int);have G:((j:Int)+1).toNat=j+1:=by omega
   have H:0<(j:Int)+1:=by omega
   have I:0<=(j:Int)+1:=by omega
   have J:(j:Int)+1<l.length:=by omega
   have P:=wq ((j:Int)+1+1);have B:J2 l (j+1)=some l[j].2.2:=by simp[J2,A]
   have v:(l[j+1].2.2==l[j].2.2)=rgT (some l[j].2.2) l[j+1]:=BEq.comm;rw[B]at b;cases w:rgT (some l[j].2.2) l[j+1]
   ·rw[w]at v;simp only[w,zP,wF]at b;simp[i,m,o,d,e,f,c,A,g,q,r,v,F,t,G,H,I,J,P];exact⟨by omega,by rw[b,s]⟩
   ·rw[w]at v;simp only[w,qV]at b;simp[i,m,o,d,e,f,c,A,g,q,r,v,F,t,G,H,I,J,b,f85]
 ·obtain rfl:k=l.length:=by omega
  rw[zp,L5]at b;by_cases x:a=100000
  ·rw[zd x]at b;simp[i,m,o,d,e,f,x,b,f85]
  ·rw[ze x]at b;have C:(a != 100000)=true:=by simpa using x
   simp[i,m,o,d,e,f,C,b,f85]
theorem JE:zg prog 85 (hP (FRN (fun l n=>int (jn l n)) fun _ n=>1<=n/\n<=20)):=
 vM je func85 false [] fun⟨l,n⟩ a=>⟨zI (zl 2) (by decide),_,fw l n a,z8 _⟩
def vC(xs:List Xp)(k:Nat):za:=if k=0 then[]else match xs[k-1]? with
 |some x=>x.name
 |none=>[]
noncomputable def FM (b:Bk) (k:Nat):Int:=match b.zU[k]? with
 |some x=>(ZU b.zf (vC b.zU k) (yM b k) x).1
 |none=>0
theorem Mq{b:Bk}{k:Nat}(h:k<b.zU.length):FM b k=(ZU b.zf (vC b.zU k) (yM b k) b.zU[k]).1:=by unfold FM;rw[zq h]
theorem lI{b:Bk}{k:Nat}(h:k<b.zU.length):yM b (k+1)=yM b k++[b.zU[k].qp]:=by
 have:(b.zU.take (k+1)).map Xp.qp=(b.zU.take k).map Xp.qp++[b.zU[k].qp]:=by rw[zQ h,JH];rfl
 unfold yM;rw[this];simp only[qG]
theorem VX{xs:List Xp}{k:Nat}(h:k<xs.length):vC xs (k+1)=xs[k].name:=by simp[vC,h]
theorem OR{b:Bk}{k:Nat}(h:k<b.zU.length):(ZR b.zf (vC b.zU k) (yM b k) (b.zU.drop k)).1=if FM b k=0 then(ZR b.zf (vC b.zU (k+1)) (yM b (k+1)) (b.zU.drop (k+1))).1 else FM b k:=by
 rw[zc h,ZR,Mq h];by_cases a:(ZU b.zf (vC b.zU k) (yM b k) b.zU[k]).1=0
 ·rw[zd a,zd a,Uj a,VX h,lI h]
 ·rw[ze a,ze a]
noncomputable def FEx:zb->Option O:=qd (α:=Bk×Nat) (fun a=>[.nil,.agg a.1.V,int a.2,wb true]) (fun a=>(a.1.cb<=zA/\eR (a.1.zf.map w9.name))/\a.2<a.1.zU.length) (fun a=>int (FM a.1 a.2))
theorem Un(b:Bk)(n:Nat)(Y:Hp)(Z:Nat)(h:b.cb<=zA)(c:eR (b.zf.map w9.name))(d:n<b.zU.length):hP FEx [.nil,.agg b.V,int n,wb true] Y Z=some (int (FM b n),Y,Z):=
 yI (Y1:=Y) (show zC Y [.nil,.agg b.V,int n,wb true]=some ([.nil,.agg b.V,int n,wb true],Y) by
  have f:qt Y .nil=some (.nil,Y):=rfl;simp only[zC,f,K0];rfl) (qD (V:=fun a:Bk×Nat=>[O.nil,.agg a.1.V,int a.2,wb true]) (a:=(b,n)) (fun x y e=>by
  obtain⟨j,g⟩:=x;obtain⟨k,i⟩:=y;simp only[zj,zG,Gr,O.agg.injEq]at e;have:=qR e.2;rw[Kr e.1,show g=i by omega]) ⟨⟨h,c⟩,d⟩) (.inl rfl)
abbrev qrex:List Nat:=[84,39]
noncomputable abbrev Crex:Ctx:=zV prog [(81,hP (FNb fun a b c=>int (xO a b c))),(44,hP (FBS fun b s=>YK (kF s b.zf))),(75,hP (FS wy)),(53,GC fun c=>int c.check),(82,hP (FS Yf)),(84,hP (FBn fun b n=>.sl 1 (zy (yM b n)))),(39,zh false [1] (OP fun l v=>wb (decide (v∈l)))),(85,hP (FRN (fun l n=>int (jn l n)) fun _ n=>1<=n/\n<=20)),(86,hP (FPh fun l=>int (yU l)))]
theorem zcm:AM.Good Crex (fun g=>qrex.contains g):=qC mixed ⟨J7,by simp,ZB,by simp,Z1,by simp,WX,by simp,WU,by simp,ft,fun _=>zu _ _,kQ,fun _=>zu _ _,JE,by simp,cr,by simp,trivial⟩
theorem OS(b:Bk)(n:Nat)(P:b.cb<=zA)(hu:eR (b.zf.map w9.name))(Q:n<b.zU.length):zv Crex f43 [.nil,.agg b.V,int n,wb true]=some (int (FM b n)):=by
 refine zn rfl ?_;have hL:=qZ vR b.zf;have hH:=qZ Q1 b.holds;have hX:=qZ X5 b.zU;have hbc:b.cb=yn w9.cb b.zf+yn vi.cb b.holds+yn Xp.cb b.zU:=rfl;have d:=Mq Q;obtain⟨x,hx⟩:=wZ (b.zU[n]);have R:=yD (f:=Xp.cb) (zi Q);rw[hx]at d R;have hxc:x.cb=x.name.length+x.wH.length+x.flag.length+x.cond.cb+x.qp.length+x.yF.length+yn yz.cb x.zF:=rfl;have p:=fun Y Z=>ax (fun b s=>YK (kF s b.zf)) b x.wH Y Z P
 have C:=fun Y Z=>FF (fun b n=>.sl 1 (zy (yM b n))) b n Y Z ⟨P,by omega⟩
 have S:(yM b n).length<=zA:=by unfold yM;simp;omega
 have y:=fun Y Z=>ay (fun l v=>wb (decide (v∈l))) (yM b n) x.qp Y Z S
 simp only[Bk.V]at p C;unfold zA at P;have r:=fun Y Z=>fo (fun a b c=>int (xO a b c)) x.name (vC b.zU n) (decide (n=0)) Y Z (by unfold zA;omega) rfl
 have T:xO x.name (vC b.zU n) (decide (n=0))=jS x.name (vC b.zU n):=by
  rw[J8];by_cases L:n=0
  ·subst L;simp[vC]
  ·simp[L]
 simp only[T]at r;have z:x.flag.length<=zA:=by unfold zA;omega
 have E:x.qp.length<=zA:=by unfold zA;omega
 have A:=fun Y Z=>vx (fun c=>int c.check) x.cond Y Z (by unfold zA;omega)
 have J:=fun Y Z=>eP (fun l n=>int (jn l n)) (fun _ n=>1<=n/\n<=20) x.yF 20 Y Z ⟨by omega,by omega⟩
 have U:=fun Y Z=>eS (fun l=>int (yU l)) x.zF Y Z (by unfold zA;omega)
 simp only[we]at A;have w:((n:Int)==0)=decide (n=0):=by rw[qA];simp
 refine y1 (fun st=>st.σ 0=.nil/\st.σ 2=int n/\st.σ 3=wb true/\st.σ 5=.ref 0 0 0/\st.Y 0=some ⟨27,3,false,[b.V]⟩/\st.Z=1) (by simp[Bk.V]) ?_;rintro⟨σ,Y,Z⟩ ⟨i,k,m,o,g,h⟩;simp only at i k m o g h;subst h;have B:=g;simp only[Bk.V]at B;refine y1 (fun st=>st.σ 0=.nil/\st.σ 2=int n/\st.σ 3=wb true/\st.σ 5=.ref 0 0 0/\st.Y 0=some ⟨27,3,false,[b.V]⟩/\st.Z=2/\st.σ 9=.ref 1 0 0/\st.Y 1=some ⟨57,13,false,[x.V]⟩) (by simp[i,k,m,o,B,Q,hx,qK,Bk.V]) ?_;clear i k m o g B σ Y;rintro⟨σ,Y,Z⟩ ⟨i,k,m,o,g,h,u,t⟩;simp only at i k m o g h u t;subst h;refine y1 (fun st=>st.σ 0=.nil/\st.σ 2=int n/\st.σ 3=wb true/\st.σ 5=.ref 0 0 0/\st.Y 0=some ⟨27,3,false,[b.V]⟩/\st.Z=2/\st.σ 9=.ref 1 0 0/\st.Y 1=some ⟨57,13,false,[x.V]⟩/\st.σ 10=str []) (by simp[i,k,m,o,g,u,t]) ?_;clear i k m o g u t σ Y;rintro⟨σ,Y,Z⟩ ⟨i,k,m,o,g,h,u,t,e⟩;simp only at i k m o g h u t e;subst h;refine y1 (fun st=>st.σ 0=.nil/\st.σ 2=int n/\st.σ 3=wb true/\st.σ 5=.ref 0 0 0/\st.Y 0=some ⟨27,3,false,[b.V]⟩/\st.Z=2/\st.σ 9=.ref 1 0 0/\st.Y 1=some ⟨57,13,false,[x.V]⟩/\st.σ 10=str (vC b.zU n)) ?_ ?_
 ·have B:=g;simp only[Bk.V]at B;by_cases L:n=0
  ·subst L;simp[i,k,m,o,g,u,t,e,vC]
  ·obtain⟨j,rfl⟩:∃j,n=j+1:=⟨n-1,by omega⟩;have hj:j<b.zU.length:=by omega
   have wj:i6.wrap ((j:Int)+1-1)=(j:Int):=by rw[wS (by omega) (by omega)];omega
   have W:=wq (j:Int);have j2:0<(j:Int)+1:=by omega
   have G:=VX hj;simp[i,k,m,o,B,u,t,e,j2,wj,W,hj,G,qK,Bk.V]
 clear i k m o g u t e σ Y;rintro⟨σ,Y,Z⟩ ⟨i,k,m,o,g,h,u,t,e⟩;simp only at i k m o g h u t e;subst h;simp only[Bk.V]at g;simp only[qK]at t;obtain⟨pn,G⟩:=wZ (vC b.zU n);rw[G]at e r d;obtain⟨l,hl⟩:=wZ (yM b n);rw[hl]at C y d;unfold ZU at d;by_cases D:jS x.name pn=0
 case neg=>rw[ze D]at d;have X:=vX D;simp[i,k,m,o,g,u,t,e,w,r,X,d,f43]
 rw[zd D]at d;rcases fp hu x.wH with⟨f1,q,hq,_,f2⟩|⟨f1,f2⟩
 case inr=>rw[f1,ze (by simp)]at d;simp only[f2,dv]at p;simp[i,k,m,o,g,u,t,e,w,r,D,p,d,f43]
 rw[f1,zd rfl]at d;simp only[f2,JD]at p;cases F:wy x.flag
 ·rw[F,ze (by simp)]at d;simp[i,k,m,o,g,u,t,e,w,r,D,p,z,F,d,f43]
 rw[F,zd rfl]at d;by_cases H:x.cond.check=0
 case neg=>rw[ze H]at d;have c4':=vX H;simp[i,k,m,o,g,u,t,e,w,r,D,p,z,F,A,c4',d,f43]
 rw[zd H]at d;cases I:Yf x.qp
 ·have K:jg l x.qp=3:=by simp[jg,I]
  rw[K]at d;simp at d;simp[i,k,m,o,g,u,t,e,w,r,D,p,z,F,A,H,E,I,d,f43]
 by_cases M:x.qp∈l
 ·have K:jg l x.qp=7:=by simp[jg,I,M]
  rw[K]at d;simp at d;rw[kp M]at y;simp[i,k,m,o,g,u,t,e,w,r,D,p,z,F,A,H,E,I,C,y,d,f43]
 have K:jg l x.qp=0:=by simp[jg,I,M]
 rw[zd K]at d;rw[kr M]at y;by_cases N:jn x.yF 20=0
 case neg=>rw[ze N]at d;have c6':=vX N;simp[i,k,m,o,g,u,t,e,w,r,D,p,z,F,A,H,E,I,C,y,J,c6',d,f43]
 rw[zd N]at d;simp[i,k,m,o,g,u,t,e,w,r,D,p,z,F,A,H,E,I,C,y,J,N,U,d,f43]
theorem IY:zg prog 43 (hP FEx):=
 vM zcm func43 false [] fun⟨b,n⟩ ⟨⟨a,c⟩,d⟩=>⟨by simp[f43],_,OS b n a c d,z8 _⟩
def FN(x:Xp)(rest:Int)(y:Xp):Bool:=decide (y.wH=x.wH)&&(xP y x rest||xP x y rest)
theorem FO{b:Bk}(e:(wz [] [] b.zf).1=0)(a:∀y∈b.zU,yU y.zF=0/\(ZF (b.zf.map w9.name) y.wH).2=true){x y:Xp}(c:x∈b.zU)(d:y∈b.zU):eW x (WB b.zf x.wH) y=FN x (WB b.zf x.wH) y:=by
 have f:0<=WB b.zf x.wH:=by
  unfold WB;split
  ·rename_i z g;exact(WC e z (zN g)).1
  ·omega
 unfold eW FN;rw[IW f (WD (a x c).1) (WD (a y d).1) (Kt (a x c).1) (Kt (a y d).1)]
noncomputable def FBoR:zb->Option O:=qd (α:=Bk) (fun b=>[.nil,.agg b.V,wb true]) (fun b=>b.cb<=zA) (fun b=>int (yg b))
theorem OT(b:Bk)(Y:Hp)(Z:Nat)(h:b.cb<=zA):hP FBoR [.nil,.agg b.V,wb true] Y Z=some (int (yg b),Y,Z):=
 yI (Y1:=Y) (show zC Y [.nil,.agg b.V,wb true]=some ([.nil,.agg b.V,wb true],Y) by
  have c:qt Y .nil=some (.nil,Y):=rfl;simp only[zC,c,K0];rfl) (qD (V:=fun b:Bk=>[O.nil,.agg b.V,wb true]) (a:=b) (fun x y e=>by
  simp only[zj,zG,Gr,O.agg.injEq]at e;exact Kr e) h) (.inl rfl)
noncomputable abbrev Crbk:Ctx:=zV prog [(41,hP (FLys fun l=>int (wz [] [] l).1)),(42,hP (FBu fun b=>int (yq b.zf [] (b.zf.map w9.qp) b.holds).1)),(43,hP FEx),(44,hP (FBS fun b s=>YK (kF s b.zf))),(45,hP FClR)]
theorem zcn:Gd Crbk:=zW mixed ⟨cq,fu,IY,ZB,fv,trivial⟩
theorem rq{α:Type}{f g:α->Bool}:∀{l:List α},(∀y∈l,f y=g y)->l.any f=l.any g
 |[],_=>rfl
 |x::l,h=>by rw[wX,wX,h x (by simp),rq fun y a=>h y (by simp[a])]
theorem IZ(b:Bk)(hb:b.cb<=zA):zv Crbk f22 [.nil,.agg b.V,wb true]=some (int (yg b)):=by
 refine zn rfl ?_;have hL:=qZ vR b.zf;have hH:=qZ Q1 b.holds;have hX:=qZ X5 b.zU;have hbc:b.cb=yn w9.cb b.zf+yn vi.cb b.holds+yn Xp.cb b.zU:=rfl;have K:=fun Y Z=>Ac (fun l=>int (wz [] [] l).1) b.zf Y Z (by omega)
 by_cases X:(20:Int)<b.zf.length
 ·have hv:yg b=2:=by unfold yg;rw[zd (.inl X)]
  simp[Bk.V,X,hv,f22]
 by_cases a2:(10:Int)<b.holds.length
 ·have hv:yg b=2:=by unfold yg;rw[zd (.inr (.inl a2))]
  simp[Bk.V,X,a2,hv,f22]
 by_cases a3:(100:Int)<b.zU.length
 ·have hv:yg b=2:=by unfold yg;rw[zd (.inr (.inr a3))]
  simp[Bk.V,X,a2,a3,hv,f22]
 have a:yg b=if(wz [] [] b.zf).1=0 then
   (if(yq b.zf [] (wz [] [] b.zf).2 b.holds).1=0 then
    (if(ZR b.zf [] (yq b.zf [] (wz [] [] b.zf).2 b.holds).2 b.zU).1=0 then(if Wd b.zf b.zU 0 b.zU=true then 13 else 0)
     else(ZR b.zf [] (yq b.zf [] (wz [] [] b.zf).2 b.holds).2 b.zU).1)
    else(yq b.zf [] (wz [] [] b.zf).2 b.holds).1)
  else(wz [] [] b.zf).1:=by unfold yg;rw[ze (by omega)]
 by_cases c1:(wz [] [] b.zf).1=0
 case neg=>rw[ze c1]at a;have Pw:=vX c1;simp[Bk.V,X,a2,a3,K,Pw,a,f22]
 obtain⟨_,hu,Ls⟩:=iy c1;rw[w7]at Ls;rw[zd c1,Ls]at a;rw[c1]at K;have hho:=fun Y Z=>FH (fun b=>int (yq b.zf [] (b.zf.map w9.qp) b.holds).1) b Y Z hb hu
 have w:=hho;simp only[Bk.V]at w;by_cases c2:(yq b.zf [] (b.zf.map w9.qp) b.holds).1=0
 case neg=>rw[ze c2]at a;have c2':=vX c2;simp[Bk.V,X,a2,a3,K,w,c2',a,f22]
 have hsh:=Cy c2;rw[zd c2]at a;rw[c2]at w;have hs0:(yq b.zf [] (b.zf.map w9.qp) b.holds).2=yM b 0:=by rw[hsh];simp[yM]
 rw[hs0]at a;have hex:=fun k hk Y Z=>Un b k Y Z hb hu hk
 simp only[Bk.V]at hex;simp[Bk.V,X,a2,a3,K,w];refine zL (fun k σ Y Z=>σ 0=.nil/\σ 2=wb true/\σ 4=.ref 0 0 0/\σ 45=.sl 13 (b.zU.map Xp.V)/\σ 46=int b.zU.length/\σ 47=int k/\1<=Z/\Y 0=some ⟨27,3,false,[b.V]⟩/\(ZR b.zf [] (yM b 0) b.zU).1=(ZR b.zf (vC b.zU k) (yM b k) (b.zU.drop k)).1) b.zU.length
  ⟨by simp,by simp,by simp,by simp,by simp,by simp,by simp,by simp[Bk.V],by simp[vC]⟩ ?_
 rintro k σ Y Z hk ⟨h0,h2,v,L,M,N,B,I,Q⟩;have c:=I;simp only[Bk.V]at c;by_cases r:k<b.zU.length
 ·have hw:=qe k;have W:=hex k r;rw[OR r]at Q;by_cases R:FM b k=0
  ·rw[zd R]at Q;simp[h0,h2,v,L,M,N,r,c,W,R,hw];exact⟨by omega,B,rfl,Q⟩
  ·rw[ze R]at Q;have hz':=vX R;rw[Q,ze R]at a;simp[h0,h2,v,L,M,N,r,c,W,hz',a,f22]
 obtain rfl:k=b.zU.length:=by omega
 rw[zp]at Q;simp only[ZR]at Q;rw[Q,zd rfl]at a;have hok:=eX Q;have S:∀x∈b.zU,x.tt:=fun x hx=>⟨WD (hok x hx).1,by have:=yD (f:=Xp.cb) hx;omega⟩
 have MN:=fun s Y Z=>ax (fun b s=>YK (kF s b.zf)) b s Y Z hb
 simp only[Bk.V]at MN;simp[h0,h2,v,L,M,N,c];refine zL (fun i σ Y Z=>σ 4=.ref 0 0 0/\σ 60=.sl 13 (b.zU.map Xp.V)/\σ 61=int b.zU.length/\σ 62=int i/\1<=Z/\Y 0=some ⟨27,3,false,[b.V]⟩/\Wd b.zf b.zU 0 b.zU=Wd b.zf b.zU i (b.zU.drop i)) b.zU.length
  ⟨by simp[v],by simp,by simp,by simp,B,I,by simp⟩ ?_
 clear h0 h2 v L M N B I c hk r σ Y Z;rintro i σ Y Z hi ⟨v,e,m,n,B,I,o⟩;have c:=I;simp only[Bk.V]at c;by_cases r:i<b.zU.length
 ·obtain⟨x,hx⟩:=wZ (b.zU[i]);have T:x∈b.zU:=by rw[<-hx];exact zi r
  have hw:=qe i;rw[zc r,hx,Wd,rq (g:=FN x (WB b.zf x.wH)) fun y J=>FO c1 hok T (vu J)]at o;obtain⟨f1,q,hq,f3,f2⟩:(ZF (b.zf.map w9.name) x.wH).2=true/\∃j,∃hj:j<b.zf.length,(ZF (b.zf.map w9.name) x.wH).1=j/\kF x.wH b.zf=some b.zf[j]:=by
   rcases fp hu x.wH with h|⟨h,_⟩
   ·exact h
   ·rw[(hok x T).2]at h;cases h
  obtain⟨z,R⟩:=wZ (b.zf[q]);have hzr:=WC c1 z (by rw[<-R];exact zi hq);have zai:WB b.zf x.wH=z.rest:=by unfold WB;rw[f3,zq hq,R]
  rw[R]at f2;rw[zai]at o;have t:=fun Y Z=>MN x.wH Y Z
  simp only[f2,JD]at t;obtain⟨es,hes⟩:=wZ (b.zU.take i);have hesl:es.length=i:=by rw[<-hes];simp;omega
  have hesm:∀y∈es,y∈b.zU:=fun y J=>vu (by rw[hes];exact J)
  have hsx:=fun Y=>slX Y b.zU i (by omega)
  rw[hes]at o hsx;have n0:¬0=Z:=by omega
  obtain⟨P,hP⟩:=wZ Z;simp[v,e,m,n,r,hx,qK,c,n0,hsx,hesl];rw[hP];refine zL (fun k σ Y Z=>σ 4=.ref 0 0 0/\σ 60=.sl 13 (b.zU.map Xp.V)/\σ 61=int b.zU.length/\σ 62=int i/\σ 12=.ref P 0 0/\σ 70=.sl 13 (es.map Xp.V)/\σ 71=int i/\σ 72=int k/\P<Z/\Y 0=some ⟨27,3,false,[b.V]⟩/\Y P=some ⟨57,13,false,[x.V]⟩/\Wd b.zf b.zU 0 b.zU=((es.drop k).any (FN x z.rest)||Wd b.zf b.zU (i+1) (b.zU.drop (i+1)))) i
   ⟨by simp[v],by simp[e],by simp[m],by simp[n],by simp,by simp,by simp,by simp,(by show P<P+1;omega),by simp[show¬0=P by omega,I],by simp[qK],by simpa using o⟩ ?_
  clear v e m n I c o n0 hi hP B σ Y Z;rintro k σ Y Z hk ⟨v,e,m,n,C,D,E,F,cB,I,bP,o⟩;have n0:¬0=Z:=by omega
  have nP:¬P=Z:=by omega
  have U:¬P=Z+1:=by omega
  have c:=I;simp only[Bk.V]at c;have G:=bP;simp only[qK]at G;by_cases A:k<i
  ·have d:k<es.length:=by omega
   obtain⟨y,J⟩:=wZ (es[k]);have hym:y∈b.zU:=hesm y (by rw[<-J];exact zi d);have hwk:=qe k;rw[zc d,wX,J]at o;have p:=fun Y Z=>bo y x z.rest Y Z ⟨S y hym,S x T,hzr⟩
   have u:=fun Y Z=>bo x y z.rest Y Z ⟨S x T,S y hym,hzr⟩
   simp only[qK]at p u;have hd:FN x z.rest y=(decide (y.wH=x.wH)&&(xP y x z.rest||xP x y z.rest)):=rfl;by_cases hl:y.wH=x.wH
   ·rw[kp hl,kv]at hd;have H:(y.wH==x.wH)=true:=by simpa using hl
    cases k1:xP y x z.rest
    ·rw[k1]at p hd;cases k2:xP x y z.rest
     ·rw[k2]at u hd;rw[hd]at o;simp[v,e,m,n,C,D,E,F,A,d,J,qK,c,G,n0,nP,U,t,H,p,u,hwk];exact⟨by omega,by omega,rfl,by simpa using o⟩
     ·rw[k2]at u hd;rw[hd]at o;rw[o]at a;simp at a;simp[v,e,m,n,C,D,E,F,A,d,J,qK,c,G,n0,nP,U,t,H,p,u,a,f22]
    ·rw[k1]at p hd;rw[hd]at o;rw[o]at a;simp at a;simp[v,e,m,n,C,D,E,F,A,d,J,qK,c,G,n0,nP,U,t,H,p,a,f22]
   ·rw[kr hl,Qc]at hd;have H:=jN hl;rw[hd,yN]at o;simp[v,e,m,n,C,D,E,F,A,d,J,qK,c,G,n0,nP,U,t,H,hwk];exact⟨by omega,by omega,rfl,o⟩
  ·obtain rfl:k=i:=by omega
   rw[jF (by omega),List.any_nil,yN]at o;simp[v,e,m,n,C,D,E,F,hw];exact⟨by omega,by omega,I,o⟩
 ·obtain rfl:i=b.zU.length:=by omega
  rw[zp]at o;simp only[Wd]at o;rw[o]at a;simp at a;simp[v,e,m,n,a,f22]
theorem FQ:zg prog 22 (hP FBoR):=
 vM zcn func22 false [] fun b a=>⟨by simp[f22],_,IZ b a,z8 _⟩
noncomputable abbrev Crcb:Ctx:=zV prog [(22,hP FBoR)]
theorem Uo(b:Bk)(h:b.cb<=zA):zv Crcb f16 [.agg b.V]=some (int (yg b)):=by
 refine zn rfl ?_;have a:=fun Y Z=>OT b Y Z h
 simp only[Bk.V]at a;simp[Bk.V,a,f16]
theorem PA:zg prog 16 (hP (FBk fun b=>int (yg b))):=
 vM (zW mixed ⟨FQ,trivial⟩:AM.Good Crcb _) func16 false [] fun b a=>⟨by simp[f16],_,Uo b a,z8 _⟩
structure XS (v:qu) (o3 o4:O) (Y:Hp) (Z:Nat):Prop where
 b0:Y 0=some ⟨145,5,false,[[int v.kind,int v.n,str v.s,o3,o4]]⟩
 b1:Y 1=some ⟨145,5,false,[[int 0,int 0,.v (.string ⟨#[]⟩),.nil,.nil]]⟩
 s3:qN Y Z 145 5 o3 (v.items.map qu.V)
 s4:qN Y Z 184 6 o4 (v.fields.map kI)
 d3:∀id m,id<2->o3≠.own id 0 m
 d4:∀id m,id<2->o4≠.own id 0 m
 d:∀id m m',o3=.own id 0 m->o4≠.own id 0 m'
 PL:2<=Z
structure Ctxt where
 key:List UInt8
 attrs:List (List UInt8×qu)
end Go.Q
namespace Go.AM
def yv{S α:Type}(f:S->α->Bool×S):S->List α->Bool×S
 |s,[]=>(false,s)
 |s,a::l=>if(f s a).1=true then(true,(f s a).2)else yv f (f s a).2 l
theorem Ad{S α:Type}(f:S->α->Bool×S):∀(s:S) (l m:List α),yv f s (l++m)=if(yv f s l).1=true then(true,(yv f s l).2)else yv f (yv f s l).2 m
 |s,[],m=>by simp[yv]
 |s,a::l,m=>by
  simp only[wB,yv];split
  ·simp
  ·exact Ad f _ l m
def vt(succ:Nat->List Nat):Nat->List Int->Nat->Bool×List Int
 | 0,st,_=>(false,st)
 |n+1,st,i=>if st[i]?=some 0 then((yv (vt succ n) (st.set i 1) (succ i)).1,(yv (vt succ n) (st.set i 1) (succ i)).2.set i 2)else(decide (st[i]?=some 1),st)
def ZV(st:List Int):Nat:=st.count 0
theorem count_set{st:List Int}{i:Nat}{v:Int}(h:st[i]?=some 0)(b:v≠0):ZV (st.set i v)+1=ZV st:=by
 unfold ZV
 induction st generalizing i with
 |nil=>simp at h
 |cons a l c=>
  cases i with
  |zero=>simp at h;subst h;simp[b]
  |succ i=>have:=c (i:=i) (by simpa using h);simp only[List.set_cons_succ,List.count_cons]at this⊢;omega
theorem CE{st:List Int}{i:Nat}{v:Int}(b:v≠0):ZV (st.set i v)<=ZV st:=by
 unfold ZV
 induction st generalizing i with
 |nil=>simp
 |cons a l c=>
  cases i with
  |zero=>simp[List.count_cons,b]
  |succ i=>have:=c (i:=i);simp only[List.set_cons_succ,List.count_cons]at this⊢;omega
structure Kept (st st':List Int):Prop where
 len:st'.length=st.length
 wh:ZV st'<=ZV st
 black:∀j:Nat,st[j]?=some 2->st'[j]?=some 2
 dR:∀j:Nat,st'[j]?=some 1↔st[j]?=some 1
 jh:(∀v∈st,v=0\/v=1\/v=2)->∀v∈st',v=0\/v=1\/v=2
theorem Kept.refl(st:List Int):Kept st st:=⟨rfl,zl _,fun _ h=>h,fun _=>Iff.rfl,fun h=>h⟩
theorem Kept.trans{a b c:List Int}(h:Kept a b)(g:Kept b c):Kept a c:=
 ⟨g.len.trans h.len,zI g.wh h.wh,fun j d=>g.black j (h.black j d),fun j=>(g.dR j).trans (h.dR j),fun e=>g.jh (h.jh e)⟩
theorem JF{f:List Int->Nat->Bool×List Int}(b:∀st i,Kept st (f st i).2):∀(l:List Nat) (st:List Int),Kept st (yv f st l).2
 |[],st=>Kept.refl st
 |a::l,st=>by
  simp only[yv];split
  ·exact b st a
  ·exact(b st a).trans (JF b l _)
theorem xb(succ:Nat->List Nat):∀(n:Nat) (st:List Int) (i:Nat),Kept st (vt succ n st i).2
 | 0,st,i=>Kept.refl st
 |n+1,st,i=>by
  simp only[vt];split
  ·rename_i c;have k:i<st.length:=(zk.1 c).1;have b:=JF (xb succ n) (succ i) (st.set i 1);obtain⟨r,g⟩:=wZ ((yv (vt succ n) (st.set i 1) (succ i)).2);rw[g]at b;simp only[g];have l:r.length=st.length:=by rw[b.len,bt]
   refine⟨by rw[bt,l],?_,fun j d=>?_,fun j=>?_,fun m v e=>?_⟩
   ·have o:=b.wh;have p:=count_set c (v:=1) (by decide);have q:=CE (st:=r) (i:=i) (v:=2) (by decide);omega
   ·by_cases a:i=j
    ·subst a;rw[c]at d;simp at d
    ·rw[jB a];exact b.black j (by rw[jB a];exact d)
   ·by_cases a:i=j
    ·subst a;rw[ZN (by omega),c];simp
    ·rw[jB a,b.dR,jB a]
   ·have f:=b.jh (fun v e=>by
     rcases QE e with h|rfl
     ·exact m v h
     ·exact .inr (.inl rfl))
    rcases QE e with h|rfl
    ·exact f v h
    ·exact .inr (.inr rfl)
  ·exact Kept.refl st
inductive bO (E:Nat->Nat->Prop):Nat->Nat->Prop
 |one {a b:Nat}:E a b->bO E a b
 |tail {a b c:Nat}:bO E a b->E b c->bO E a c
theorem bO.head{E:Nat->Nat->Prop}{a c:Nat}(h:bO E a c):∃b,E a b/\(b=c\/bO E b c):=by
 induction h with
 |one e=>exact⟨_,e,.inl rfl⟩
 |tail _ e d=>
  obtain⟨b,f,h2⟩:=d;refine⟨b,f,.inr ?_⟩;rcases h2 with rfl|h2
  ·exact .one e
  ·exact .tail h2 e
theorem Up{E:Nat->Nat->Prop}{a:Nat}(h:Acc (fun x y=>E y x) a):¬bO E a a:=by
 induction h with
 |intro x _ c=>
  intro d;obtain⟨y,b,h2⟩:=d.head;rcases h2 with rfl|h2
  ·exact c y b d
  ·exact c y b (.tail h2 b)
theorem lJ(succ:Nat->List Nat):∀(n:Nat) (st:List Int) (i:Nat),(∀v∈st,v=0\/v=1\/v=2)->ZV st<n->i<st.length->(∀a,∀b∈succ a,b<st.length)->(∀j:Nat,st[j]?=some 2->Acc (fun x y=>x∈succ y) j)->(vt succ n st i).1=false ->
  (∀j:Nat,(vt succ n st i).2[j]?=some 2->Acc (fun x y=>x∈succ y) j)/\(vt succ n st i).2[i]?=some 2
 | 0,st,i,_,E,_,_,_,_=>by omega
 |n+1,st,i,D,E,hi,hs,hb,e=>by
  simp only[vt]at e⊢;split at e
  ·rename_i f;rw[zd f];simp only at e⊢;have o:i<st.length:=hi;have F:=count_set f (v:=1) (by decide);have z:∀v∈st.set i 1,v=0\/v=1\/v=2:=fun v G=>by
    rcases QE G with h|rfl
    ·exact D v h
    ·exact .inr (.inl rfl)
   have A:∀j:Nat,(st.set i 1)[j]?=some 2->Acc (fun x y=>x∈succ y) j:=fun j g=>by
    by_cases c:i=j
    ·subst c;rw[ZN o]at g;simp at g
    ·rw[jB c]at g;exact hb j g
   have B:∀(l:List Nat) (s:List Int),(∀v∈s,v=0\/v=1\/v=2)->ZV s<n->s.length=st.length->(∀b∈l,b<st.length)->(∀j:Nat,s[j]?=some 2->Acc (fun x y=>x∈succ y) j)->(yv (vt succ n) s l).1=false ->
     (∀j:Nat,(yv (vt succ n) s l).2[j]?=some 2->Acc (fun x y=>x∈succ y) j)/\∀b∈l,(yv (vt succ n) s l).2[b]?=some 2:=by
    intro l
    induction l with
    |nil=>intro s _ _ _ _ k _;exact⟨k,fun b hb=>by cases hb⟩
    |cons a l H=>
     intro s p q m r k d;simp only[yv]at d⊢;split at d
     ·simp at d
     ·rename_i t;rw[ze t];have u:=xb succ n s a;obtain⟨w,C⟩:=lJ succ n s a p q (by rw[m];exact r a (by simp)) (fun x b hb=>by rw[m];exact hs x b hb) k (by simpa using t);obtain⟨I,J⟩:=H _ (u.jh p) (zkE u.wh q) (u.len.trans m) (fun b hb=>r b (by simp[hb])) w d;refine⟨I,fun b hb=>?_⟩;rcases zw.1 hb with rfl|hb
      ·exact(JF (xb succ n) l _).black _ C
      ·exact J b hb
   obtain⟨w,C⟩:=B (succ i) (st.set i 1) z (by omega) (by rw[bt]) (hs i) A e;have u:=JF (xb succ n) (succ i) (st.set i 1);refine⟨fun j g=>?_,by rw[ZN (by rw[u.len,bt];exact o)]⟩;by_cases c:i=j
   ·subst c;exact⟨_,fun b hb=>w b (C b hb)⟩
   ·rw[jB c]at g;exact w j g
  ·rename_i f;rw[ze f];simp only at e⊢;refine⟨hb,?_⟩;have K:st[i]?=some st[i]:=zq hi;have L:=D _ (zi hi);rw[K]at f e⊢;rcases L with h|h|h
   ·rw[h]at f;exact(f rfl).elim
   ·rw[h]at e;simp at e
   ·rw[h]
theorem ru(succ:Nat->List Nat):∀(n:Nat) (st:List Int) (i:Nat),(∀g:Nat,st[g]?=some 1->bO (fun a b=>b∈succ a) g i)->(vt succ n st i).1=true->∃c,bO (fun a b=>b∈succ a) c c
 | 0,st,i,_,h=>by simp[vt]at h
 |n+1,st,i,p,h=>by
  simp only[vt]at h;split at h
  ·rename_i r;simp only at h;have t:i<st.length:=(zk.1 r).1;have m:∀(l:List Nat) (s:List Int),(∀g:Nat,s[g]?=some 1↔(st.set i 1)[g]?=some 1)->(∀b∈l,b∈succ i)->(yv (vt succ n) s l).1=true->∃c,bO (fun a b=>b∈succ a) c c:=by
    intro l
    induction l with
    |nil=>intro s _ _ e;simp[yv]at e
    |cons a l u=>
     intro s f j e;simp only[yv]at e;split at e
     ·rename_i v;refine ru succ n s a (fun g d=>?_) v;have d:=(f g).1 d;have q:a∈succ i:=j a (by simp);by_cases k:i=g
      ·subst k;exact .one q
      ·rw[jB k]at d;exact .tail (p g d) q
     ·exact u _ (fun g=>((xb succ n s a).dR g).trans (f g)) (fun b o=>j b (by simp[o])) e
   exact m (succ i) (st.set i 1) (fun _=>Iff.rfl) (fun _ o=>o) h
  ·simp at h;exact⟨i,p i h⟩
structure GR {α:Type} (next:α->List α) (start out queue:List α):Prop where
 nodup:out.Nodup
 strt:∀a∈start,a∈out\/a∈queue
 step:∀a∈out,∀b∈next a,b∈out\/b∈queue
 only:∀(Q:α->Prop),(∀a∈start,Q a)->(∀a b,Q a->b∈next a->Q b)->(∀a∈out,Q a)/\∀a∈queue,Q a
theorem GR.begin{α:Type}(next:α->List α)(start:List α):GR next start [] start:=
 ⟨.nil,fun a h=>.inr h,(fun a h=>by cases h),fun Q h _=>⟨(fun a h=>by cases h),h⟩⟩
theorem GR.skip{α:Type}{next:α->List α}{start out queue:List α}{a:α}(h:GR next start out (a::queue))(e:a∈out):GR next start out queue:=by
 refine⟨h.nodup,fun b d=>?_,fun b d c i=>?_,fun Q f g=>⟨(h.only Q f g).1,fun b d=>(h.only Q f g).2 b (by simp[d])⟩⟩
 ·rcases h.strt b d with h|h
  ·exact .inl h
  ·rcases zw.1 h with rfl|h
   ·exact .inl e
   ·exact .inr h
 ·rcases h.step b d c i with h|h
  ·exact .inl h
  ·rcases zw.1 h with rfl|h
   ·exact .inl e
   ·exact .inr h
theorem GR.take{α:Type}{next:α->List α}{start out e:List α}{a:α}(h:GR next start out (a::e))(m:a ∉ out):GR next start (out++[a]) (e++next a):=by
 have f:∀b,b∈out\/b∈a::e->b∈out++[a]\/b∈e++next a:=fun b d=>by
  simp only[qi,zw,mE,or_false]at d⊢;rcases d with d|d|d
  ·exact .inl (.inl d)
  ·exact .inl (.inr d)
  ·exact .inr (.inl d)
 refine⟨?_,fun b d=>f b (h.strt b d),fun b d c g=>?_,fun Q n i=>?_⟩
 ·rw[List.nodup_append];refine⟨h.nodup,by simp,fun x o y j=>?_⟩;rintro rfl;simp at j;subst j;exact m o
 ·rcases qi.1 d with d|d
  ·exact f c (h.step b d c g)
  ·simp at d;subst d;exact .inr (qi.2 (.inr g))
 ·obtain⟨p,k⟩:=h.only Q n i;have l:Q a:=k a (by simp);refine⟨fun b d=>?_,fun b d=>?_⟩
  ·rcases qi.1 d with d|d
   ·exact p b d
   ·simp at d;subst d;exact l
  ·rcases qi.1 d with d|d
   ·exact k b (by simp[d])
   ·exact i a b l d
inductive fR {α:Type} (next:α->List α) (start:List α):α->Prop
 |here {a:α}:a∈start->fR next start a
 |there {a b:α}:fR next start a->b∈next a->fR next start b
theorem GR.done{α:Type}{next:α->List α}{start out:List α}(h:GR next start out [])(a:α):a∈out↔fR next start a:=by
 constructor
 ·exact(h.only (fR next start) (fun _=>.here) (fun _ _=>.there)).1 a
 ·intro b
  induction b with
  |here c=>exact(h.strt _ c).resolve_right (by simp)
  |there _ d e=>exact(h.step _ e _ d).resolve_right (by simp)
end Go.AM
namespace Go.Q
structure qU where
 name:List UInt8
 ins:List (List UInt8)
 outs:List (List UInt8)
 cond:qO
def qU.V(s:qU):zb:=[str s.name,.sl 1 (zy s.ins),.sl 1 (zy s.outs)]++s.cond.V
theorem jo(s:qU):s.V=[str s.name,.sl 1 (zy s.ins),.sl 1 (zy s.outs),int s.cond.kind,str s.cond.attr,int s.cond.op,.sl 5 (s.cond.jh.map qu.V),str s.cond.pat,str s.cond.name,.sl 7 (s.cond.args.map qO.V)]:=by unfold qU.V;rw[we];rfl
@[simp]theorem zjH(s:qU):s.V.length=10:=by rw[jo];rfl
@[simp]theorem ziu(s:qU):s.V.drop 3=s.cond.V:=rfl
@[simp]theorem ziv(s:qU):s.V.take 10=s.V:=zZ (by simp)
@[simp]theorem zkw(s:qU)(h:0<s.V.length):s.V[0]=str s.name:=rfl
@[simp]theorem zkx(s:qU)(h:1<s.V.length):s.V[1]=.sl 1 (zy s.ins):=rfl
@[simp]theorem zky(s:qU)(h:2<s.V.length):s.V[2]=.sl 1 (zy s.outs):=rfl
@[simp]theorem OU(s:qU):s.V.all O.yk=true:=by rw[jo];rfl
@[simp]theorem zfx(s:qU):(∀x,x∈s.V->O.yk x=true)=True:=by have:=OU s;rw[ql]at this;exact eq_true this
theorem bq{a b:qU}(h:a.V=b.V):a=b:=by
 have f:a.cond.V=b.cond.V:=by rw[jo,jo]at h;simp only[zj,zG]at h;rw[we,we];simp only[zj,zG];exact h.2.2.2
 have c:=xx f;rw[jo,jo]at h;simp only[zj,zG]at h;obtain⟨g,d,e,_⟩:=h;cases a;cases b;simp only at *;injection d with _ d
 injection e with _ e;rw[wC g,km d,km e,c]
theorem ZC{a b:List qU}(h:O.sl 10 (a.map qU.V)=.sl 10 (b.map qU.V)):a=b:=by injection h with _ h;exact jZ (fun _ _=>bq) h
def KA(l:List za):Nat:=(l.map fun s=>1+s.length).sum
def qU.cb(s:qU):Nat:=1+s.name.length+KA s.ins+KA s.outs+s.cond.cb
def bH(l:List qU):Nat:=(l.map qU.cb).sum
theorem fx:∀{l:List za} {s:za},s∈l->1+s.length<=KA l
 |y::l,s,h=>by
  simp only[KA,z6,yo];rcases zw.1 h with rfl|h
  ·omega
  ·have:=fx h;unfold KA at this;omega
theorem VY:∀l:List za,l.length<=KA l
 |[]=>zl _
 |y::l=>by have:=VY l;simp only[KA,z6,yo,zx]at *;omega
theorem J9:∀{l:List qU} {s:qU},s∈l->s.cb<=bH l
 |y::l,s,h=>by
  simp only[bH,z6,yo];rcases zw.1 h with rfl|h
  ·omega
  ·have:=J9 h;unfold bH at this;omega
theorem VZ:∀l:List qU,l.length<=bH l
 |[]=>zl _
 |y::l=>by
  have:=VZ l;have a:1<=y.cb:=by unfold qU.cb;omega
  simp only[bH,z6,yo,zx]at *;omega
mutual
def qO.names:qO->List za
 | .mk k _ _ _ _ n l=>(if k=5 then[n]else[])++yh l
def yh:List qO->List za
 |[]=>[]
 |c::l=>c.names++yh l
end
theorem xY(c:qO):c.names=(if c.kind=5 then[c.name]else[])++yh c.args:=by cases c;rfl
theorem r4:∀{l:List qO} {n:za},n∈yh l↔∃c∈l,n∈c.names
 |[],n=>by simp[yh]
 |c::l,n=>by simp[yh,r4 (l:=l)]
theorem FR{l:List qO}{k:Nat}(h:k<l.length):yh (l.drop k)=l[k].names++yh (l.drop (k+1)):=by rw[zc h,yh]
noncomputable def V0 (l:List qU) (n:za):Nat:=(ZF (l.map qU.name) n).1
noncomputable def ZD (l:List qU) (n:za):Bool:=(ZF (l.map qU.name) n).2
noncomputable def YC (l:List qU) (c:qO):Bool:=c.names.all (ZD l)
noncomputable def jA (l:List qU) (i:Nat):List Nat:=match l[i]? with
 |some s=>s.cond.names.map (V0 l)
 |none=>[]
def K8:Option za->List za->Int
 |_,[]=>0
 |p,k::l=>if Zb k=true then(if xU p k=true then 8 else K8 (some k) l)else 3
def xI(l:List za):Int:=if(1000:Int)<l.length then 2 else K8 none l
theorem ry{l:List za}{k:Nat}(h:k<l.length)(p:Option za):K8 p (l.drop k)=if Zb l[k]=true then(if xU p l[k]=true then 8 else K8 (some l[k]) (l.drop (k+1)))else 3:=by rw[zc h,K8]
theorem FT:∀(l:List za) (p:Option za),K8 p l=0->eR l/\∀q,p=some q->∀b∈l,Op.bytesLess q b=true
 |[],p,_=>⟨.nil,fun _ _ _ hb=>by cases hb⟩
 |a::l,p,h=>by
  simp only[K8]at h;split at h
  case isFalse=>simp at h
  split at h
  ·simp at h
  rename_i e;obtain⟨f,d⟩:=FT l (some a) h;refine⟨yj.2 ⟨d a rfl,f⟩,fun q g b hb=>?_⟩;subst g;have c:Op.bytesLess q a=true:=Zy (by simpa[xU]using e);rcases zw.1 hb with rfl|hb
  ·exact c
  ·exact Qr c (d a rfl b hb)
theorem Uq{l:List za}(h:xI l=0):eR l:=by
 unfold xI at h;split at h
 ·simp at h
 ·exact(FT l none h).1
noncomputable def ZW (s:qU):Int:=if xI s.ins=0 then(if xI s.outs=0 then(if(s.ins.any fun k=>s.outs.contains k)=true then 7 else s.cond.check)else xI s.outs)else xI s.ins
noncomputable def YL:Option za->List qU->Int
 |_,[]=>0
 |p,s::l=>if wy s.name=true then(if xU p s.name=true then 8 else if ZW s=0 then YL (some s.name) l else ZW s)else 5
theorem I0{l:List qU}{k:Nat}(h:k<l.length)(p:Option za):YL p (l.drop k)=if wy l[k].name=true then(if xU p l[k].name=true then 8 else if ZW l[k]=0 then YL (some l[k].name) (l.drop (k+1))else ZW l[k])else 5:=by rw[zc h,YL]
theorem rz:∀(l:List qU) (p:Option za),YL p l=0->(eR (l.map qU.name)/\∀q,p=some q->∀b∈l,Op.bytesLess q b.name=true)/\∀s∈l,wy s.name=true/\ZW s=0
 |[],p,_=>⟨⟨.nil,fun _ _ _ hb=>by cases hb⟩,fun _ hb=>by cases hb⟩
 |a::l,p,h=>by
  simp only[YL]at h;split at h
  case isFalse=>simp at h
  rename_i e;split at h
  ·simp at h
  rename_i f;split at h
  case isFalse hs=>exact(hs h).elim
  rename_i hs;obtain⟨⟨g,d⟩,i⟩:=rz l (some a.name) h;refine⟨⟨?_,fun q j b hb=>?_⟩,fun s Pu=>?_⟩
  ·unfold eR;rw[z6];refine yj.2 ⟨fun x k=>?_,g⟩;obtain⟨b,hb,rfl⟩:=q9.1 k;exact d a.name rfl b hb
  ·subst j;have c:Op.bytesLess q a.name=true:=Zy (by simpa[xU]using f);rcases zw.1 hb with rfl|hb
   ·exact c
   ·exact Qr c (d a.name rfl b hb)
  ·rcases zw.1 Pu with rfl|Pu
   ·exact⟨e,hs⟩
   ·exact i s Pu
noncomputable def Ur (l:List qU):List Int->List Nat->Bool×List Int:=yv (vt (jA l) 268435457)
noncomputable def rA (l:List qU):Bool:=(Ur l (List.replicate l.length 0) (List.range l.length)).1
noncomputable def kT (l:List qU):Int:=if(100:Int)<l.length then 2 else if YL none l=0 then(if(l.all fun s=>YC l s.cond)=true then(if rA l=true then 12 else 0)else 9)else YL none l
structure ziX (l:List qU):Prop where
 len:l.length<=100
 up:eR (l.map qU.name)
 right:∀s∈l,wy s.name=true/\ZW s=0
 known:∀s∈l,∀n∈s.cond.names,ZD l n=true
 acyc:∀i:Nat,¬bO (fun a b=>b∈jA l a) i i
theorem Us{l:List qU}{n:za}(h:ZD l n=true):V0 l n<l.length:=by have:=Tc (l:=l.map qU.name) (s:=n) h;rw[Zn]at this;exact this
theorem zco{l:List qU}(h:∀s∈l,∀n∈s.cond.names,ZD l n=true)(i:Nat):∀j∈jA l i,j<l.length:=by
 intro j a;unfold jA at a;split at a
 ·rename_i s hs;obtain⟨n,b,rfl⟩:=q9.1 a;exact Us (h s (zN hs) n b)
 ·cases a
theorem Ae{l:List qU}{i:Nat}(h:l.length<=i):jA l i=[]:=by unfold jA;rw[jk h]
theorem rB(n:Nat):ZV (List.replicate n 0)=n:=by simp[ZV]
theorem FU{l:List qU}(H:l.length<=100)(h:∀s∈l,∀n∈s.cond.names,ZD l n=true):rA l=true↔∃i:Nat,bO (fun a b=>b∈jA l a) i i:=by
 constructor
 ·intro F;have f:∀(q:List Nat) (s:List Int),(∀g:Nat,s[g]?≠some 1)->(yv (vt (jA l) 268435457) s q).1=true->∃c,bO (fun a b=>b∈jA l a) c c:=by
   intro q
   induction q with
   |nil=>intro s _ e;simp[yv]at e
   |cons a q r=>
    intro s hs e;simp only[yv]at e;split at e
    ·rename_i t;exact ru (jA l) _ s a (fun g k=>(hs g k).elim) t
    ·exact r _ (fun g k=>hs g (((xb (jA l) _ s a).dR g).1 k)) e
  refine f _ _ (fun g k=>?_) F;rw[cw]at k;split at k<;>simp at k
 ·rintro⟨i,hi⟩;refine Xm fun u=>?_
  have u:rA l=false:=by simpa using u
  have hs:=zco h;have f:∀(q:List Nat) (s:List Int),(∀v∈s,v=0\/v=1\/v=2)->s.length=l.length->ZV s<268435457->(∀b∈q,b<l.length)->(∀j:Nat,s[j]?=some 2->Acc (fun x y=>x∈jA l y) j)->(yv (vt (jA l) 268435457) s q).1=false ->
    ∀b,b∈q->Acc (fun x y=>x∈jA l y) b:=by
   intro q
   induction q with
   |nil=>intro s _ _ _ _ _ _ b d;cases d
   |cons a q r=>
    intro s o m C D d e;simp only[yv]at e;split at e
    ·simp at e
    ·rename_i t;have w:=xb (jA l) 268435457 s a;obtain⟨E,G⟩:=lJ (jA l) _ s a o C (by rw[m];exact D a (by simp)) (fun x b d=>by rw[m];exact hs x b d) d (by simpa using t);intro b hbm;rcases zw.1 hbm with rfl|hbm
     ·exact E b G
     ·exact r _ (w.jh o) (w.len.trans m) (zkE w.wh C) (fun b d=>D b (by simp[d])) E e b hbm
  have p:=f (List.range l.length) (List.replicate l.length 0) (fun v o=>by rw[List.mem_replicate]at o;exact .inl o.2) (by simp) (by rw[rB];omega) (fun b d=>jK.1 d)
   (fun j z=>by rw[cw]at z;split at z<;>simp at z) u
  obtain⟨b,d,_⟩:=hi.head;have A:i<l.length:=by
   refine Nat.lt_of_not_le fun B=>?_
   rw[Ae B]at d;cases d
  exact Up (p i (jK.2 A)) hi
theorem zcp{l:List qU}(h:kT l=0):ziX l:=by
 unfold kT at h;split at h
 ·simp at h
 rename_i g;split at h
 case isFalse hs=>exact(hs h).elim
 rename_i hs;split at h
 case isFalse=>simp at h
 rename_i c;split at h
 ·simp at h
 rename_i a;obtain⟨⟨d,_⟩,e⟩:=rz l none hs;have b:∀s∈l,∀n∈s.cond.names,ZD l n=true:=fun s hs n f=>ql.1 (ql.1 c s hs) n f
 refine⟨by omega,d,e,b,fun i hi=>?_⟩;exact a ((FU (by omega) b).2 ⟨i,hi⟩)
mutual
def qO.zaj(Ap:za->Bool)(b:qO->Bool):qO->Bool
 | .mk k a o v p n l=>if k=1 then allM Ap b l else if k=2 then anyM Ap b l else if k=3 then !(ziY Ap b l)else if k=5 then Ap n else b (.mk k a o v p n l)
def allM(Ap:za->Bool)(a:qO->Bool):List qO->Bool
 |[]=>true
 |c::l=>c.zaj Ap a&&allM Ap a l
def anyM(Ap:za->Bool)(a:qO->Bool):List qO->Bool
 |[]=>false
 |c::l=>c.zaj Ap a||anyM Ap a l
def ziY(Ap:za->Bool)(a:qO->Bool):List qO->Bool
 |[]=>false
 |c::_=>c.zaj Ap a
end
theorem I1{l:List qU}(a:eR (l.map qU.name)){i:Nat}{s:qU}(h:l[i]?=some s):V0 l s.name=i/\ZD l s.name=true:=by have:=BK a (j:=i) (s:=s.name) (by rw[qz,h];rfl);unfold V0 ZD;rw[this];exact⟨rfl,rfl⟩
noncomputable def I2:zb->Option O:=qd (α:=qU×za) (fun a=>[.agg a.1.V,str a.2]) (fun _=>True) (fun a=>int (jE a.1.name a.2))
theorem lK(x:qU)(s:za)(Y:Hp)(Z:Nat):hP I2 [.agg x.V,str s] Y Z=some (int (jE x.name s),Y,Z):=
 QL (x,s) _ _ (by simp[jo]) (fun a b e=>by obtain⟨c,d⟩:=a;obtain⟨f,g⟩:=b;simp only[zj,zG,O.agg.injEq]at e;rw[bq e.1,wC e.2]) trivial (.inl rfl)
noncomputable abbrev zfy:Ctx:=zV prog [(111,hP (PF jE))]
theorem FW:zg prog 110 (hP I2):=
 vM (zW mixed ⟨xy,trivial⟩:AM.Good zfy _) func110 false [] fun⟨x,s⟩ _=>⟨by simp[f110],_,zn rfl (by simp[f110,jo]),z8 _⟩
noncomputable def Ut:zb->Option O:=qd (α:=List qU×za) (fun a=>[.sl 10 (a.1.map qU.V),str a.2,.fn (.func 110) [] []]) (fun a=>a.1.length<=zA) (fun a=>.w5 [int (ZF (a.1.map qU.name) a.2).1,wb (ZF (a.1.map qU.name) a.2).2])
theorem I3(l:List qU)(s:za)(Y:Hp)(Z:Nat)(h:l.length<=zA):hP Ut [.sl 10 (l.map qU.V),str s,.fn (.func 110) [] []] Y Z=some (.w5 [int (ZF (l.map qU.name) s).1,wb (ZF (l.map qU.name) s).2],Y,Z):=
 QL (l,s) _ _ rfl (fun a b e=>by obtain⟨f,g⟩:=a;obtain⟨i,j⟩:=b;simp only[zj,zG]at e;obtain⟨c,d⟩:=e;injection c with _ c;rw[jZ (fun _ _=>bq) c,wC d]) h (.inl rfl)
noncomputable abbrev zdF:Ctx:=zV prog [(110,hP I2)]
theorem OV(l:List qU)(s:za)(w:l.length<=zA):zv zdF f109 [.sl 10 (l.map qU.V),str s,.fn (.func 110) [] []]=some (.w5 [int (ZF (l.map qU.name) s).1,wb (ZF (l.map qU.name) s).2]):=by
 refine zn rfl ?_;unfold zA at w;have h:(l.map qU.name).length=l.length:=by simp
 simp;refine Jl (fun st=>st.σ 0=.sl 10 (l.map qU.V)/\st.σ 1=str s/\st.σ 2=.fn (.func 110) [] []/\st.σ 8=int l.length/\∃lo hi:Nat,lo<=hi/\hi<=l.length/\st.σ 9=int lo/\st.σ 10=int hi/\YG (Z8 (l.map qU.name) s) 0 (l.map qU.name).length=YG (Z8 (l.map qU.name) s) lo hi)
  (fun st=>(dS (st.σ 10)).toNat-(dS (st.σ 9)).toNat) ⟨by simp,by simp,by simp,by simp,0,l.length,by simp,by simp,by simp,by simp,by rw[h]⟩ ?_
 rintro⟨σ,Y,Z⟩ ⟨i,j,k,n,lo,hi,y,t,o,d,f⟩;simp only at i j k n o d;by_cases b:lo<hi
 ·have a:=fun x Y Z=>lK x s Y Z
  have v:=wq ((lo:Int)+hi);have z:(lo+hi)/2<l.length:=by omega
  obtain⟨m,A⟩:∃m,m=(lo+hi)/2:=⟨_,rfl⟩;have g:i6.wrap ((IntKind.u64.wrap ((lo:Int)+hi)).fdiv (2 ^ min 1 IntKind.u64.bits))=(m:Int):=by
   have B:IntKind.u64.wrap ((lo:Int)+hi)=(lo:Int)+hi:=by rw[IntKind.wrap_u64];omega
   have C:(2 ^ min 1 IntKind.u64.bits:Int)=2:=by decide
   rw[B,C,Int.fdiv_eq_ediv_of_nonneg _ (by omega),wS (by omega) (by omega)];omega
  have e:m<l.length:=by omega
  have D:=qe m;have u:Z8 (l.map qU.name) s m=decide (jE l[m].name s<0):=by simp[Z8,e]
  rw[gZ (lo:=lo) b,<-A,u]at f;have c:=a l[m];simp only[jo]at c;by_cases r:jE l[m].name s<0
  ·simp only[r,ziN,qV]at f;simp[i,j,k,n,o,d,b,v,g,e,c,r,D,jo];exact⟨⟨m+1,hi,by omega,t,by omega,rfl,by rw[h]at f;exact f⟩,by omega⟩
  ·simp only[r,decide_false,zP,wF]at f;simp[i,j,k,n,o,d,b,v,g,e,c,r,jo];exact⟨⟨lo,m,by omega,by omega,rfl,rfl,by rw[h]at f;exact f⟩,by omega⟩
 ·have f:YG (Z8 (l.map qU.name) s) 0 (l.map qU.name).length=lo:=by rw[f,px (lo:=lo) b]
  have a:=fun x Y Z=>lK x s Y Z
  unfold ZF;rw[f];by_cases p:lo<l.length
  ·have c:=a l[lo];simp only[jo]at c;simp[i,j,k,n,o,d,b,p,c,jo,f109,wK]
  ·have q:l[lo]?=none:=jk (by omega);simp[i,j,k,n,o,d,b,p,q,f109,wK]
theorem I4:zg prog 109 (hP Ut):=
 vM (qC (q:=[110]) mixed ⟨FW,fun _=>zu _ _,trivial⟩:AM.Good zdF _) func109 false [] fun⟨l,s⟩ a=>⟨zI (zl 3) (by decide),_,OV l s a,z8 _⟩
noncomputable def FY:zb->Option O:=qd (α:=List qU×za) (fun a=>[.sl 10 (a.1.map qU.V),str a.2]) (fun a=>a.1.length<=zA) (fun a=>.w5 [int (ZF (a.1.map qU.name) a.2).1,wb (ZF (a.1.map qU.name) a.2).2])
theorem rC(l:List qU)(s:za)(Y:Hp)(Z:Nat)(h:l.length<=zA):hP FY [.sl 10 (l.map qU.V),str s] Y Z=some (.w5 [int (ZF (l.map qU.name) s).1,wb (ZF (l.map qU.name) s).2],Y,Z):=
 QL (l,s) _ _ rfl (fun a b e=>by obtain⟨f,g⟩:=a;obtain⟨i,j⟩:=b;simp only[zj,zG]at e;obtain⟨c,d⟩:=e;injection c with _ c;rw[jZ (fun _ _=>bq) c,wC d]) h (.inl rfl)
noncomputable abbrev ziw:Ctx:=zV prog [(109,hP Ut)]
theorem rD:zg prog 63 (hP FY):=
 vM (zW mixed ⟨I4,trivial⟩:AM.Good ziw _) func63 false [] fun⟨l,s⟩ a=>by
  have b:=fun Y Z=>I3 l s Y Z a
  exact⟨by simp[f63],_,zn rfl (by simp[b,wK,f63]),z8 _⟩
noncomputable def FTl (out:List za->O) (a:List za->Prop):zb->Option O:=qd (α:=List za) (fun l=>[.sl 1 (zy l)]) a out
theorem fy(out:List za->O)(c:List za->Prop)(l:List za)(Y:Hp)(Z:Nat)(h:c l)(d:(out l).flat=true):hP (FTl out c) [.sl 1 (zy l)] Y Z=some (out l,Y,Z):=
 QL l _ _ rfl (fun a b e=>by
  simp only[zj,zG]at e;injection e with _ e
  exact km e) h (.inl d)
def Ka(l:List za)(k:Nat):Option za:=if k=0 then none else l[k-1]?
noncomputable abbrev Cck:Ctx:=zV prog [(106,hP (FS Zb))]
theorem rE(l:List za)(h:KA l<=zA):zv Cck f57 [.sl 1 (zy l)]=some (int (xI l)):=by
 have D:=VY l;have z:=fun s (hs:s∈l)=>fx hs
 unfold zA at h;refine zn rfl ?_;unfold xI;by_cases o:(1000:Int)<l.length
 ·rw[zd o];simp[o,f57]
 rw[ze o];simp[o];refine zL (fun k σ Y Z=>σ 0=.sl 1 (zy l)/\σ 8=.sl 1 (zy l)/\σ 9=int l.length/\σ 10=int k/\K8 none l=K8 (Ka l k) (l.drop k)) l.length
  ⟨by simp,by simp,by simp,by simp,by simp[Ka]⟩ ?_
 rintro k σ Y Z E ⟨f,g,i,c,a⟩;by_cases b:k<l.length
 ·have F:=qe k;obtain⟨s,hs⟩:=wZ (l[k]);have d:s.length<=zA:=by have:=z s (by rw[<-hs];exact zi b);unfold zA;omega
  rw[ry b,hs]at a;have m:Ka l (k+1)=some s:=by simp[Ka,b,hs]
  cases e:Zb s
  ·rw[e,ze (by simp)]at a;simp[f,g,i,c,b,hs,d,e,a,f57]
  rw[e,zd rfl]at a;by_cases A:k=0
  ·subst A;have B:=wq 1;simp only[Ka,xU,qV,zP,wF]at a;simp[f,g,i,c,b,hs,d,e,B];exact⟨by omega,by rw[a,m];simp⟩
  ·obtain⟨j,rfl⟩:∃j,k=j+1:=⟨k-1,by omega⟩;have q:j<l.length:=by omega
   have t:i6.wrap ((j:Int)+1-1)=(j:Int):=by rw[wS (by omega) (by omega)];omega
   have n:=wq (j:Int);have u:((j:Int)+1).toNat=j+1:=by omega
   have v:0<(j:Int)+1:=by omega
   have w:0<=(j:Int)+1:=by omega
   have x:(j:Int)+1<l.length:=by omega
   have C:=wq ((j:Int)+1+1);have y:(Op.bytesLess s l[j]||s==l[j])=Xh s l[j]:=rfl;have r:Ka l (j+1)=some l[j]:=by simp[Ka,q]
   simp only[r,xU]at a;cases p:Xh s l[j]
   ·rw[p,ze (by simp)]at a;simp[f,g,i,c,b,q,hs,d,e,t,n,u,v,w,x,y,p,C];exact⟨by omega,by rw[a,m]⟩
   ·rw[p,zd rfl]at a;simp[f,g,i,c,b,q,hs,d,e,t,n,u,v,w,x,y,p,a,f57]
 ·obtain rfl:k=l.length:=by omega
  rw[zp]at a;have a:K8 none l=0:=by rw[a];rfl
  simp[f,g,i,c,a,f57]
theorem mx:zg prog 57 (hP (FTl (fun l=>int (xI l)) fun l=>KA l<=zA)):=
 vM (zW mixed ⟨XQ,trivial⟩:AM.Good Cck _) func57 false [] fun l a=>⟨zI (zl 1) (by decide),_,rE l a,z8 _⟩
theorem td:zg prog 150 (hP XW):=
 yy (fn:=f150) je (qX func150) false [] _ fun args r h=>by
  unfold XW at h;split at h
  ·injection h with h;subst h;exact⟨by simp[f150],_,zn rfl (by simp[f150]),z8 _⟩
  ·cases h
def lsP(a b:za):O:=wb (Op.bytesLess a b)
theorem zcq(a b:za)(Y:Hp)(Z:Nat)(h:a.length<=zA)(c:b.length<=zA):hP (Yx lsP fun _ _=>True) [str a,str b] Y Z=some (wb (Op.bytesLess a b),Y,Z):=xT _ _ a b Y Z h c trivial rfl
noncomputable abbrev Cls:Ctx:=zV prog [(183,hP XW)]
theorem I5:zg prog 149 (hP (Yx lsP fun _ _=>True)):=
 yy (fn:=f149) (zW mixed ⟨eo,trivial⟩:AM.Good Cls _) (qX func149) false [] _ fun args r h=>by obtain⟨a,b,rfl,c,d,_,rfl⟩:=xl h;exact⟨by simp[f149],_,zn rfl (by simp[lsP,f149]),z8 _⟩
noncomputable def FKs (out:List za->za->O):zb->Option O:=qd (α:=List za×za) (fun a=>[.sl 1 (zy a.1),str a.2]) (fun a=>KA a.1<=zA/\a.2.length<=zA) (fun a=>out a.1 a.2)
theorem FZ(out:List za->za->O)(l:List za)(s:za)(Y:Hp)(Z:Nat)(h:KA l<=zA)(d:s.length<=zA)(f:(out l s).flat=true):hP (FKs out) [.sl 1 (zy l),str s] Y Z=some (out l s,Y,Z):=
 QL (l,s) _ _ rfl (fun a b e=>by obtain⟨i,j⟩:=a;obtain⟨k,m⟩:=b;simp only[zj,zG]at e;obtain⟨c,g⟩:=e;injection c with _ c;rw[km c,wC g]) ⟨h,d⟩ (.inl f)
noncomputable def bkP (l:List za) (s:za):O:=.w5 [int (ZF l s).1,wb (ZF l s).2]
noncomputable def hkP (l:List za) (s:za):O:=wb (ZF l s).2
noncomputable abbrev Cbk:Ctx:=zV prog [(149,hP (Yx lsP fun _ _=>True)),(150,hP XW)]
theorem I6(l:List za)(s:za)(A:KA l<=zA)(hs:s.length<=zA):zv Cbk f108 [.sl 1 (zy l),str s]=some (bkP l s):=by
 refine zn rfl ?_;have J:=VY l;have B:=fun s (hs:s∈l)=>fx hs
 unfold zA at A hs;have i:(zy l).length=l.length:=by simp[zy]
 have j:∀(k:Nat) (h:k<(zy l).length) (C:k<l.length),(zy l)[k]=[str l[k]]:=fun k h C=>by simp[zy]
 simp[i];refine Jl (fun st=>st.σ 0=.sl 1 (zy l)/\st.σ 1=str s/\st.σ 6=int l.length/\∃lo hi:Nat,lo<=hi/\hi<=l.length/\st.σ 7=int lo/\st.σ 8=int hi/\YG (Z8 l s) 0 l.length=YG (Z8 l s) lo hi)
  (fun st=>(dS (st.σ 8)).toNat-(dS (st.σ 7)).toNat) ⟨by simp,by simp,by simp,0,l.length,by simp,by simp,by simp,by simp,rfl⟩ ?_
 rintro⟨σ,Y,Z⟩ ⟨p,q,r,lo,hi,D,w,t,u,e⟩;simp only at p q r t u;by_cases c:lo<hi
 ·have z:=wq ((lo:Int)+hi);have E:(lo+hi)/2<l.length:=by omega
  obtain⟨m,x⟩:∃m,m=(lo+hi)/2:=⟨_,rfl⟩;have f:i6.wrap ((IntKind.u64.wrap ((lo:Int)+hi)).fdiv (2 ^ min 1 IntKind.u64.bits))=(m:Int):=by
   have F:IntKind.u64.wrap ((lo:Int)+hi)=(lo:Int)+hi:=by rw[IntKind.wrap_u64];omega
   have G:(2 ^ min 1 IntKind.u64.bits:Int)=2:=by decide
   rw[F,G,Int.fdiv_eq_ediv_of_nonneg _ (by omega),wS (by omega) (by omega)];omega
  have a:m<l.length:=by omega
  have b:m<(zy l).length:=by omega
  have H:=qe m;have y:Z8 l s m=Op.bytesLess l[m] s:=by simp only[Z8,zq a];rw[qA,zS];exact VN _ _
  rw[gZ (lo:=lo) c,<-x,y]at e;have d:=fun Y Z=>zcq l[m] s Y Z (by have:=B _ (zi a);unfold zA;omega) (by unfold zA;omega)
  cases o:Op.bytesLess l[m] s
  ·rw[o,ze (by simp)]at e;rw[o]at d;simp[p,q,r,t,u,c,z,f,i,b,a,j m b a,d];exact⟨⟨lo,m,by omega,by omega,rfl,rfl,e⟩,by omega⟩
  ·rw[o,zd rfl]at e;rw[o]at d;simp[p,q,r,t,u,c,z,f,i,b,a,j m b a,d,H];exact⟨⟨m+1,hi,by omega,w,by omega,rfl,e⟩,by omega⟩
 ·have e:YG (Z8 l s) 0 l.length=lo:=by rw[e,px (lo:=lo) c]
  unfold bkP ZF;rw[e];by_cases n:lo<l.length
  ·have g:lo<(zy l).length:=by omega
   have I:(jE l[lo] s==0)=(l[lo]==s):=by rw[qA,jY,jY];exact Za _ _
   cases o:l[lo]==s <;>
    simp[p,q,r,t,u,c,n,g,j lo g n,I,o,f108,wK]
  ·have v:l[lo]?=none:=jk (by omega);simp[p,q,r,t,u,c,n,v,f108,wK]
theorem F0:zg prog 108 (hP (FKs bkP)):=
 vM (zW mixed ⟨I5,td,trivial⟩:AM.Good Cbk _) func108 false [] fun⟨l,s⟩ ⟨a,hs⟩=>⟨zI (zl 2) (by decide),_,I6 l s a hs,z8 _⟩
noncomputable abbrev Chk:Ctx:=zV prog [(108,hP (FKs bkP))]
theorem CF:zg prog 60 (hP (FKs hkP)):=
 vM (zW mixed ⟨F0,trivial⟩:AM.Good Chk _) func60 false [] fun⟨l,s⟩ ⟨b,hs⟩=>by
  have a:=fun Y Z=>FZ bkP l s Y Z b hs rfl
  simp only[bkP]at a;exact⟨by simp[f60],_,zn rfl (by simp[a,hkP,wK,f60]),z8 _⟩
theorem zcr(l:List za)(s:za)(Y:Hp)(Z:Nat)(h:KA l<=zA)(a:s.length<=zA):hP (FKs hkP) [.sl 1 (zy l),str s] Y Z=some (wb (ZF l s).2,Y,Z):=FZ hkP l s Y Z h a rfl
theorem zcs{l:List za}(a:eR l)(s:za):(ZF l s).2=l.contains s:=by
 rw[qA,List.contains_iff_mem];constructor
 ·intro h;exact zN (BJ h)
 ·intro h;obtain⟨j,b⟩:=Va h;rw[BK a b]
def yV(n:za):List qU->Option qU
 |[]=>none
 |s::l=>if s.name=n then some s else yV n l
theorem iz:∀{L:List qU} {s:za},(∃y∈L,y.name=s)->∃j:Nat,∃h:j<L.length,yV s L=some L[j]/\L[j].name=s
 |[],s,h=>by obtain⟨y,hy,_⟩:=h;cases hy
 |x::L,s,h=>by
  by_cases a:x.name=s
  ·exact⟨0,by simp,by simp[yV,a],a⟩
  ·obtain⟨y,hy,e⟩:=h;rcases zw.1 hy with rfl|hy
   ·exact absurd e a
   ·obtain⟨j,b,c,d⟩:=iz ⟨y,hy,e⟩;exact⟨j+1,by simpa using b,by simp[yV,a,c],by simpa using d⟩
theorem aA:∀{L:List qU} {s:za},(∀y∈L,y.name≠s)->yV s L=none
 |[],s,_=>rfl
 |x::L,s,h=>by have a:=h x (by simp);simp only[yV,ze a];exact aA fun y b=>h y (by simp[b])
theorem mX{L:List qU}(h:eR (L.map qU.name))(s:za):(ZD L s=true/\∃a:V0 L s<L.length,yV s L=some L[V0 L s]/\L[V0 L s].name=s)\/(ZD L s=false/\yV s L=none):=by
 by_cases b:∃y∈L,y.name=s
 ·obtain⟨j,a,f,d⟩:=iz b;have:=BK h (j:=j) (s:=s) (by simp[a,d]);unfold ZD V0;rw[this];exact .inl ⟨rfl,a,f,d⟩
 ·refine .inr ⟨?_,aA fun y g e=>b ⟨y,g,e⟩⟩;unfold ZD;cases i:(ZF (L.map qU.name) s).2 with
  |false=>rfl
  |true=>
   have:=BJ i;rw[qz]at this;cases c:L[(ZF (L.map qU.name) s).1]? with
   |none=>rw[c]at this;cases this
   |some y=>rw[c]at this;simp only[zH,qa]at this;exact absurd ⟨y,zN c,this⟩ b
def xf(l:List qU)(n:za):List za:=match yV n l with
 |some s=>s.cond.names
 |none=>[]
theorem Uu{l:List qU}(d:eR (l.map qU.name)){n m:za}(h:m∈xf l n):ZD l n=true/\V0 l m∈jA l (V0 l n)/\∃s∈l,m∈s.cond.names:=by
 unfold xf at h;rcases mX d n with⟨b,c,a,e⟩|⟨b,a⟩
 ·rw[a]at h;simp only at h;refine⟨b,?_,_,zi c,h⟩;unfold jA;rw[zq c];exact List.mem_map_of_mem h
 ·rw[a]at h;cases h
theorem OW{l:List qU}(h:eR (l.map qU.name))(v:∀s∈l,∀n∈s.cond.names,ZD l n=true):(∃s∈l,fR (xf l) s.cond.names s.name)↔∃i:Nat,bO (fun a b=>b∈jA l a) i i:=by
 constructor
 ·rintro⟨s,hs,x⟩;obtain⟨i,hi⟩:=Va hs;have d:∀n,fR (xf l) s.cond.names n->bO (fun a b=>b∈jA l a) i (V0 l n):=by
   intro n k
   induction k with
   |here o=>exact .one (by unfold jA;rw[hi];exact List.mem_map_of_mem o)
   |there _ p q=>exact .tail q (Uu h p).2.1
  have:=d _ x;rw[(I1 h hi).1]at this;exact⟨i,this⟩
 ·rintro⟨i,hi⟩;obtain⟨b,p,_⟩:=hi.head;have f:i<l.length:=by
   refine Nat.lt_of_not_le fun r=>?_
   rw[Ae r]at p;cases p
  have d:∀j,bO (fun a b=>b∈jA l a) i j->∃n,fR (xf l) l[i].cond.names n/\V0 l n=j/\ZD l n=true:=by
   intro j g
   induction g with
   |one e=>unfold jA at e;rw[zq f]at e;obtain⟨n,k,rfl⟩:=q9.1 e;exact⟨n,.here k,rfl,v _ (zi f) n k⟩
   |tail _ e q=>
    obtain⟨n,t,rfl,u⟩:=q;rcases mX h n with⟨_,g,c,w⟩|⟨c,_⟩
    ·unfold jA at e;rw[zq g]at e;obtain⟨m,o,rfl⟩:=q9.1 e;exact⟨m,.there t (by unfold xf;rw[c];exact o),rfl,v _ (zi g) m o⟩
    ·rw[u]at c;cases c
  obtain⟨n,t,y,u⟩:=d i hi;rcases mX h n with⟨_,g,c,w⟩|⟨c,_⟩
  ·refine⟨l[i],zi f,?_⟩;have:l[i].name=n:=by rw[<-w];congr 1;simp only[y]
   rw[this];exact t
  ·rw[u]at c;cases c
noncomputable abbrev Crck:Ctx:=zV prog [(125,hP (FS Zb))]
theorem my(l:List za)(h:KA l<=zA):zv Crck f76 [.sl 1 (zy l)]=some (int (xI l)):=by
 have D:=VY l;have z:=fun s (hs:s∈l)=>fx hs
 unfold zA at h;refine zn rfl ?_;unfold xI;by_cases o:(1000:Int)<l.length
 ·rw[zd o];simp[o,f76]
 rw[ze o];simp[o];refine zL (fun k σ Y Z=>σ 0=.sl 1 (zy l)/\σ 8=.sl 1 (zy l)/\σ 9=int l.length/\σ 10=int k/\K8 none l=K8 (Ka l k) (l.drop k)) l.length
  ⟨by simp,by simp,by simp,by simp,by simp[Ka]⟩ ?_
 rintro k σ Y Z E ⟨f,g,i,c,a⟩;by_cases b:k<l.length
 ·have F:=qe k;obtain⟨s,hs⟩:=wZ (l[k]);have d:s.length<=zA:=by have:=z s (by rw[<-hs];exact zi b);unfold zA;omega
  rw[ry b,hs]at a;have m:Ka l (k+1)=some s:=by simp[Ka,b,hs]
  cases e:Zb s
  ·rw[e,ze (by simp)]at a;simp[f,g,i,c,b,hs,d,e,a,f76]
  rw[e,zd rfl]at a;by_cases A:k=0
  ·subst A;have B:=wq 1;simp only[Ka,xU,qV,zP,wF]at a;simp[f,g,i,c,b,hs,d,e,B];exact⟨by omega,by rw[a,m];simp⟩
  ·obtain⟨j,rfl⟩:∃j,k=j+1:=⟨k-1,by omega⟩;have q:j<l.length:=by omega
   have t:i6.wrap ((j:Int)+1-1)=(j:Int):=by rw[wS (by omega) (by omega)];omega
   have n:=wq (j:Int);have u:((j:Int)+1).toNat=j+1:=by omega
   have v:0<(j:Int)+1:=by omega
   have w:0<=(j:Int)+1:=by omega
   have x:(j:Int)+1<l.length:=by omega
   have C:=wq ((j:Int)+1+1);have y:(Op.bytesLess s l[j]||s==l[j])=Xh s l[j]:=rfl;have r:Ka l (j+1)=some l[j]:=by simp[Ka,q]
   simp only[r,xU]at a;cases p:Xh s l[j]
   ·rw[p,ze (by simp)]at a;simp[f,g,i,c,b,q,hs,d,e,t,n,u,v,w,x,y,p,C];exact⟨by omega,by rw[a,m]⟩
   ·rw[p,zd rfl]at a;simp[f,g,i,c,b,q,hs,d,e,t,n,u,v,w,x,y,p,a,f76]
 ·obtain rfl:k=l.length:=by omega
  rw[zp]at a;have a:K8 none l=0:=by rw[a];rfl
  simp[f,g,i,c,a,f76]
theorem iA:zg prog 76 (hP (FTl (fun l=>int (xI l)) fun l=>KA l<=zA)):=
 vM (zW mixed ⟨A2,trivial⟩:AM.Good Crck _) func76 false [] fun l a=>⟨zI (zl 1) (by decide),_,my l a,z8 _⟩
def r8:qU:=⟨[],[],[],.mk 0 [] 0 [] [] [] []⟩
def I7(r:Option qU):qU:=r.getD r8
def ct(r:Option qU):O:=.w5 [.agg (I7 r).V,wb r.isSome]
noncomputable def Uv (out:List qU->za->O) (b:List qU->za->Prop):zb->Option O:=qd (α:=List qU×za) (fun a=>[.sl 10 (a.1.map qU.V),str a.2]) (fun a=>b a.1 a.2) (fun a=>out a.1 a.2)
theorem Af(out:List qU->za->O)(c:List qU->za->Prop)(l:List qU)(s:za)(Y:Hp)(Z:Nat)(h:c l s):hP (Uv out c) [.sl 10 (l.map qU.V),str s] Y Z=some (out l s,Y,Z):=
 QL (l,s) _ _ (by simp) (fun a b e=>by obtain⟨g,i⟩:=a;obtain⟨j,k⟩:=b;simp only[zj,zG]at e;obtain⟨d,f⟩:=e;rw[ZC d,wC f]) h (.inr rfl)
theorem F1{l:List qU}{k:Nat}(h:k<l.length)(s:za):yV s (l.drop k)=if l[k].name=s then some l[k]else yV s (l.drop (k+1)):=by rw[zc h,yV]
theorem Uw:wL (.agg [str [],.nil,.nil,int 0,str [],int 0,.nil,str [],str [],.nil]) (.agg r8.V):=by rw[jo];exact xr.agg (.cons (.refl _) (.cons (.Gw (.inl ⟨rfl,rfl⟩)) (.cons (.Gw (.inl ⟨rfl,rfl⟩)) (.cons (.refl _) (.cons (.refl _) (.cons (.refl _) (.cons (.Gw (.inl ⟨rfl,rfl⟩)) (.cons (.refl _) (.cons (.refl _) (.cons (.Gw (.inl ⟨rfl,rfl⟩)) .nil))))))))))
theorem mz(l:List qU)(s:za)(h:l.length<=zA):∃o,zv C0 f78 [.sl 10 (l.map qU.V),str s]=some o/\wL o (ct (yV s l)):=by
 unfold zA at h;refine dT rfl ?_;simp;refine zL (fun k σ Y Z=>σ 1=str s/\σ 4=.ref 0 0 0/\σ 8=.sl 10 (l.map qU.V)/\σ 9=int l.length/\σ 10=int k/\1<=Z/\Y 0=some ⟨82,10,false,[[str [],.nil,.nil,int 0,str [],int 0,.nil,str [],str [],.nil]]⟩/\yV s l=yV s (l.drop k)) l.length
  ⟨by simp,by simp,by simp,by simp,by simp,by simp,by simp[qv,qS],by simp⟩ ?_
 rintro k σ Y Z r ⟨f,g,i,j,a,p,m,b⟩;have n1:¬0=Z:=by omega
 have c:¬Z=0:=by omega
 by_cases e:k<l.length
 ·have q:=qe k;rw[F1 e]at b;by_cases d:l[k].name=s
  ·rw[zd d]at b;have n:(l[k].name==s)=true:=by simpa using d
   rw[b];simp[f,g,i,j,a,e,n,n1,c,m,f78];exact⟨ct (some l[k]),by simp[ct,I7,jo],.refl _⟩
  ·rw[ze d]at b;have n:=jN d;simp[f,g,i,j,a,e,n,n1,c,q]
   and_intros<;>first|omega|exact b|simp[n1,c,m]
 ·obtain rfl:k=l.length:=by omega
  rw[zp]at b;rw[b];simp[f,g,i,j,a,yV,m,qv,qS,f78];refine⟨.w5 [.agg [str [],.nil,.nil,int 0,str [],int 0,.nil,str [],str [],.nil],wb false],by simp,?_⟩;exact xr.w5 (.cons Uw (.cons (.refl _) .nil))
theorem K9:zg prog 78 (hP (Uv (fun l s=>ct (yV s l)) fun l _=>l.length<=zA)):=
 W6 (fn:=f78) (qC (q:=[]) mixed trivial:AM.Good C0 _) (qX func78) false [] _ fun args r h w S vs a=>by obtain⟨⟨l,s⟩,rfl,b,rfl⟩:=zO h;obtain⟨c,d,e⟩:=mz l s b;exact⟨_,c,a,zI (zl 2) (by decide),d,e⟩
noncomputable def lL (g:Nat) (sp:AM.Spec):Nat->AM.Spec
 | 0=>fun _ _ _=>none
 |k+1=>wD (zV prog [(61,lL g sp k),(g,sp)]) f61
theorem dw{f:FuncId}(a:∃fn,prog.funcs[f]?=some fn/\(fn.name== "runtime.NumGoroutine")=false/\fn.body.isNone=false):zg prog f (fun _ _ _=>none):=⟨a,fun _ _ _ _ _ _ h=>by cases h⟩
theorem dx{g:Nat}{sp:AM.Spec}(h:zg prog g sp):∀k,zg prog 61 (lL g sp k)
 | 0=>dw ⟨_,func61,by kernel_rfl,by kernel_rfl⟩
 |k+1=>kL (qC (q:=[]) (l:=[(61,lL g sp k),(g,sp)]) mixed ⟨dx h k,by simp,h,by simp,trivial⟩) func61
def Kb{σ:Type}(T:Nat->Prop)(Rep:σ->Hp->Prop)(r:O)(s:σ)(Y:Hp)(Z:Nat)(x:O)(Y':Hp)(Z':Nat):Prop:=x=r/\Rep s Y'/\Z<=Z'/\∀j,j<Z->¬T j->Y' j=Y j
theorem dy{S α:Type}{f:S->α->Bool×S}{s:S}{a:α}{l:List α}(h:(f s a).1=true):yv f s (a::l)=(true,(f s a).2):=by rw[yv,zd h]
theorem aC{S α:Type}{f:S->α->Bool×S}{s:S}{a:α}{l:List α}(h:(f s a).1=false):yv f s (a::l)=yv f (f s a).2 l:=by rw[yv,ze (by simp[h])]
theorem Ag{f:qO->Bool}:∀l:List qO,(yv (fun(_:Unit) n=>(!f n,())) () l).1=!(l.all f)
 |[]=>rfl
 |a::l=>by
  cases h:f a
  ·simp[yv,h]
  ·simp[yv,h,Ag l]
theorem rF{σ:Type}{T:Nat->Prop}{Rep:σ->Hp->Prop}{step:σ->za->Bool×σ}{Q:za->Prop}{g:Nat}{sp:AM.Spec}{cap:zb}{Z0:Nat}(t:¬g=61)
  (S:∀j,T j->j<Z0) (I:∀s Y j b,Z0<=j->Rep s Y->Rep s (qq Y j b))
  (U:∀s n Y Z,Q n->n.length<=zA->Z0<=Z->Rep s Y->∃x Y' Z',sp (str n::cap) Y Z=some (x,Y',Z')/\Kb T Rep (wb (!(step s n).1)) (step s n).2 Y Z x Y' Z') :
  ∀(k:Nat) (c:qO) (s:σ) (Y:Hp) (Z:Nat),c.cb<=k->c.cb<=zA->(∀n∈c.names,Q n)->Z0<=Z->Rep s Y ->
   ∃x Y' Z',lL g sp k [.agg c.V,.fn (.func g) [] cap] Y Z=some (x,Y',Z')/\Kb T Rep (wb (!(yv step s c.names).1)) (yv step s c.names).2 Y Z x Y' Z'
 | 0,c,_,_,_,h,_,_,_,_=>absurd h (by have:=XU c;omega)
 |k+1,c,s,A,a,hk,hl,W,J,K=>by
  have hcb:=Wh c;have hal:=vp c.args;have f:=xY c;unfold lL wD;rw[zd (by simp[f61])];refine qF rfl ?_;have L:=hl;unfold zA at L;have B:Rep s (qq A a (some ⟨53,7,false,[c.V]⟩)):=I _ _ _ _ J K;have M:¬T a:=fun h=>by have:=S _ h;omega
  refine Zs (fun σ Y Z=>σ 1=.fn (.func g) [] cap/\σ 2=.ref a 0 0/\Y=qq A a (some ⟨53,7,false,[c.V]⟩)/\Z=a+1) (by simp) ?_;rintro σ Y Z ⟨o,z,rfl,rfl⟩;refine Zs (fun σ Y Z=>σ 1=.fn (.func g) [] cap/\σ 2=.ref a 0 0/\a<Z/\Y a=some ⟨53,7,false,[c.V]⟩/\∃r,Rep r Y/\(∀j,j<a->¬T j->Y j=A j)/\yv step s c.names=yv step r (yh c.args)) ?_ ?_
  ·by_cases C:c.kind=5
   ·rw[zd C]at f;obtain⟨x,Y2,N,p,rfl,D,n2,E⟩:=U s c.name _ (a+1) (W c.name (by rw[f];simp)) (by unfold zA;omega) (by omega) B;cases e:(step s c.name).1
    ·rw[e]at p;simp[o,z,C,t,p];refine⟨by omega,by rw[E a (by omega) M];simp,(step s c.name).2,D,fun j H q=>by rw[E j (by omega) q,zz _ _ _ _ (by omega)],?_⟩;rw[f];exact aC e
    ·rw[e]at p;have hv:yv step s c.names=(true,(step s c.name).2):=by rw[f];exact dy e
     simp[o,z,C,t,p,Kb,hv,f61];exact⟨D,by omega,fun j H q=>by rw[E j (by omega) q,zz _ _ _ _ (by omega)]⟩
   ·rw[ze C,w7]at f;have P:=jN C;simp[o,z,P];exact⟨s,B,fun j H q=>by rw[zz _ _ _ _ (by omega)],by rw[f]⟩
  rintro σ Y Z ⟨o,z,u,X,r,F,l,d⟩;simp[z,X];refine zL (fun k σ Y Z=>σ 1=.fn (.func g) [] cap/\σ 18=.sl 7 (c.args.map qO.V)/\σ 19=int c.args.length/\σ 20=int k/\a<Z/\(∀j,j<a->¬T j->Y j=A j)/\∃s2,Rep s2 Y/\yv step s c.names=yv step s2 (yh (c.args.drop k))) c.args.length
   ⟨by simp[o],by simp,by simp,by simp,u,l,r,F,by simpa using d⟩ ?_
  clear o z u X F l d r σ Y Z;rintro i σ Y Z hi ⟨o,v,w,y,u,l,r,F,d⟩;by_cases m:i<c.args.length
  ·have hm:=xL (zi m);have hw:=qe i;have R:∀n∈c.args[i].names,Q n:=fun n q=>W n (by rw[f];exact qi.2 (.inr (r4.2 ⟨_,zi m,q⟩)))
   obtain⟨x,Y2,N,p,rfl,D,n2,E⟩:=rF t S I U k c.args[i] r (qq Y Z (some ⟨53,7,false,[c.args[i].V]⟩)) (Z+1) (by omega) (by unfold zA;omega) R (by omega) (I _ _ _ _ (by omega) F);rw[FR m,Ad]at d;have G:∀j,j<a->¬T j->Y2 j=A j:=fun j H q=>by rw[E j (by omega) q,zz _ _ _ _ (by omega)];exact l j H q
   cases e:(yv step r c.args[i].names).1
   ·rw[e,ze (by simp)]at d;rw[e]at p;simp[o,v,w,y,m,p,hw];exact⟨by omega,by omega,G,_,D,d⟩
   ·rw[e,zd rfl]at d;rw[e]at p;simp[o,v,w,y,m,p,Kb,d,f61];exact⟨D,by omega,G⟩
  ·obtain rfl:i=c.args.length:=by omega
   rw[zp]at d;simp only[yh,yv]at d;simp[o,v,w,y,Kb,d,f61];exact⟨F,by omega,l⟩
def CG(l:List qU):Blk:=⟨22,1,false,[[.sl 10 (l.map qU.V)]]⟩
noncomputable abbrev Ckn1:Ctx:=zV prog [(63,hP FY)]
noncomputable abbrev Ux:AM.Spec:=wD Ckn1 f62
theorem OX:zg prog 62 Ux:=kL (zW mixed ⟨rD,trivial⟩:AM.Good Ckn1 _) func62
theorem zct(l:List qU)(n:za)(b:l.length<=zA)(Y:Hp)(Z id:Nat)(a:Y id=some (CG l)):Ux [str n,.ref id 0 0] Y Z=some (wb (ZD l n),Y,Z):=by
 unfold Ux wD;rw[zd (by simp[f62])];refine jf rfl ?_;have c:=fun Y Z=>rC l n Y Z b
 simp[CG]at a;simp[a,c,ZD,f62]
theorem Ah{f:za->Bool}:∀l:List za,(yv (fun(_:Unit) n=>(!f n,())) () l).1=!(l.all f)
 |[]=>rfl
 |a::l=>by
  cases h:f a
  ·simp[yv,h]
  ·simp[yv,h,Ah l]
noncomputable def FKn:zb->Option O:=qd (α:=List qU×qO) (fun a=>[.sl 10 (a.1.map qU.V),.agg a.2.V]) (fun a=>a.1.length<=zA/\a.2.cb<=zA) (fun a=>wb (YC a.1 a.2))
theorem Uy(l:List qU)(c:qO)(Y:Hp)(Z:Nat)(h:l.length<=zA)(d:c.cb<=zA):hP FKn [.sl 10 (l.map qU.V),.agg c.V] Y Z=some (wb (YC l c),Y,Z):=
 QL (l,c) _ _ (by simp[we]) (fun a b e=>by obtain⟨f,g⟩:=a;obtain⟨i,j⟩:=b;simp only[zj,zG,O.agg.injEq]at e;rw[ZC e.1,xx e.2]) ⟨h,d⟩ (.inl rfl)
noncomputable abbrev Ckn:Ctx:=zV prog [(61,lL 62 Ux zA)]
theorem I8(l:List qU)(c:qO)(e:l.length<=zA)(d:c.cb<=zA):zv Ckn f31 [.sl 10 (l.map qU.V),.agg c.V]=some (wb (YC l c)):=by
 refine zn rfl ?_;obtain⟨x,Y',Z',a,rfl,_,_,_⟩:=rF (σ:=Unit) (T:=fun _=>False) (Rep:=fun _ Y=>Y 0=some (CG l)) (step:=fun _ n=>(!ZD l n,())) (Q:=fun _=>True) (g:=62) (sp:=Ux) (cap:=[.ref 0 0 0]) (Z0:=2) (by decide) (fun _ h=>h.elim)
  (fun _ Y j b f h=>by rw[zz _ _ _ _ (by omega)];exact h) (fun _ n Y Z _ _ _ h=>⟨_,Y,Z,zct l n e Y Z 0 h,by simp,h,zl _,fun _ _ _=>rfl⟩) zA c () (qq (qq (fun _=>none) 0 (some (CG l))) 1 (some ⟨53,7,false,[c.V]⟩)) 2 d d (fun _ _=>trivial) (zl _) (by simp)
 rw[Ah]at a;simp only[CG,Bool.not_not]at a;simp[a,YC,wK,f31]
theorem F2:zg prog 31 (hP FKn):=
 vM (zW mixed ⟨dx OX zA,trivial⟩:AM.Good Ckn _) func31 false [] fun⟨l,c⟩ ⟨a,b⟩=>⟨by simp[f31],_,I8 l c a b,z8 _⟩
def CH(st:List Int):Blk:=⟨3,1,true,st.map fun z=>[int z]⟩
noncomputable def Uz (sp:AM.Spec):AM.Spec:=wD (zV prog [(63,zh false [] FY),(32,sp)]) f64
noncomputable def rG:Nat->AM.Spec
 | 0=>fun _ _ _=>none
 |n+1=>wD (zV prog [(61,lL 64 (Uz (rG n)) zA)]) f32
theorem OY{sp:AM.Spec}(h:zg prog 32 sp):zg prog 64 (Uz sp):=
 kL (qC (q:=[]) (l:=[(63,hP FY),(32,sp)]) mixed ⟨rD,by simp,h,by simp,trivial⟩) func64
theorem rH:∀n,zg prog 32 (rG n)
 | 0=>dw ⟨_,func32,by kernel_rfl,by kernel_rfl⟩
 |n+1=>kL (qC (q:=[]) (l:=[(61,lL 64 (Uz (rG n)) zA)]) mixed ⟨dx (OY (rH n)) zA,by simp,trivial⟩) func32
theorem Ai{S α b:Type}(f:S->b->Bool×S)(m:α->b):∀(s:S) (l:List α),yv (fun s a=>f s (m a)) s l=yv f s (l.map m)
 |_,[]=>rfl
 |s,a::l=>by simp only[z6,yv,Ai f m _ l]
theorem Mr(st:List Int)(i:Nat)(v:Int):(st.map fun z=>[int z]).set i [int v]=(st.set i v).map fun z=>[int z]:=by rw[List.map_set]
theorem F4(l:List qU)(hl:bH l<=zA)(S:∀s∈l,∀n∈s.cond.names,ZD l n=true)(ids:Nat):∀(n:Nat) (st:List Int) (i:Nat) (Y:Hp) (Z:Nat),ZV st<n->st.length=l.length->i<l.length->ids<Z->Y ids=some (CH st) ->
  ∃x Y' Z',rG n [.sl 10 (l.map qU.V),.own ids 0 l.length,int i] Y Z=some (x,Y',Z')/\Kb (·=ids) (fun st Y=>Y ids=some (CH st)) (wb (vt (jA l) n st i).1) (vt (jA l) n st i).2 Y Z x Y' Z'
 | 0,_,_,_,_,h,_,_,_,_=>absurd h (by omega)
 |n+1,st,i,Y0,a,hw,B,d,hid,C=>by
  have hle:=VZ l;have U:=J9 (zi d);have hmc:l[i].cb=1+l[i].name.length+KA l[i].ins+KA l[i].outs+l[i].cond.cb:=rfl;unfold zA at hl;have W:¬ids=a:=by omega
  have k:¬ids=a+1:=by omega
  have c:i<st.length:=by omega
  have D:=C;simp[CH]at D;unfold rG wD;rw[zd (by simp[f32])];refine qF rfl ?_;by_cases w:st[i]=0
  case neg=>
   have E:vt (jA l) (n+1) st i=(decide (st[i]?=some 1),st):=by simp only[vt];rw[ze (by rw[zq c];simpa using w)]
   have F:=vX w;have G:decide (st[i]?=some 1)=(st[i]==1):=by rw[zq c,qA];simp
   rw[E,G];simp[D,W,k,d,c,F,Kb,f32];exact⟨rfl,by omega,fun j H o=>by rw[zz _ _ _ _ (by omega),zz _ _ _ _ (by omega)]⟩
  have X:st[i]?=some 0:=by rw[zq c,w]
  have hwc:=count_set X (v:=1) (by decide);have e:jA l i=l[i].cond.names.map (V0 l):=by unfold jA;rw[zq d]
  have E:vt (jA l) (n+1) st i=((yv (vt (jA l) n) (st.set i 1) (jA l i)).1,(yv (vt (jA l) n) (st.set i 1) (jA l i)).2.set i 2):=by simp only[vt];rw[zd X]
  have I:=JF (xb (jA l) n) (jA l i) (st.set i 1);obtain⟨x,Y2,p,f,rfl,⟨q,r2b,r2c,J,K⟩,n2,r⟩:=rF (σ:=List Int) (T:=(·=ids)) (Rep:=fun s Y=>Y ids=some (CH s)/\s.length=l.length/\ZV s<n/\Y a=some (CG l)/\Y (a+1)=some ⟨86,1,false,[[.own ids 0 l.length]]⟩) (step:=fun s m=>vt (jA l) n s (V0 l m)) (Q:=fun m=>ZD l m=true) (g:=64)
   (sp:=Uz (rG n)) (cap:=[.ref a 0 0,.ref (a+1) 0 0]) (Z0:=a+2) (by decide) (fun j H=>by omega)
   (fun s Y j b H ⟨L,y,z,t,A⟩=>⟨by rw[zz _ _ _ _ (by omega)];exact L,y,z,by rw[zz _ _ _ _ (by omega)];exact t,by rw[zz _ _ _ _ (by omega)];exact A⟩)
   (fun s m Y Z hq hml o ⟨L,y,z,t,A⟩=>by
    have M:=Us hq;have G:=fun Y Z=>rC l m Y Z (by unfold zA;omega)
    obtain⟨x,Y2,p,f,rfl,q,n2,r⟩:=F4 l (by unfold zA;omega) S ids n s (V0 l m) Y Z z y M (by omega) L;have u:=xb (jA l) n s (V0 l m);refine⟨_,Y2,p,?_,rfl,⟨q,by rw[u.len];exact y,zkE u.wh z,by rw[r a (by omega) (by omega)];exact t,by rw[r (a+1) (by omega) (by omega)];exact A⟩,n2,r⟩;unfold Uz wD;rw[zd (by simp[f64])];refine jf rfl ?_;simp only[CG]at t;simp only[V0]at f;simp[t,A,G,f,V0,f64])
   zA l[i].cond (st.set i 1) (qq (qq (qq Y0 a (some (CG l))) (a+1) (some ⟨86,1,false,[[.own ids 0 l.length]]⟩)) ids (some (CH (st.set i 1)))) (a+2) (by unfold zA;omega) (by unfold zA;omega) (fun m U=>S _ (zi d) m U) (zl _)
   ⟨by simp,by simp[B],by omega,by rw[zz _ _ _ _ (by omega),zz _ _ _ _ (by omega)];simp,by rw[zz _ _ _ _ (by omega)];simp⟩
  rw[Ai (vt (jA l) n) (V0 l),<-e]at f q;rw[E];simp only[CG,CH,<-Mr]at f;simp only[CH]at q;have N:¬a=ids:=by omega
  have P:¬a+1=ids:=by omega
  have R:i<(yv (vt (jA l) n) (st.set i 1) (jA l i)).2.length:=by rw[I.len,bt];exact c
  simp[D,W,k,N,P,d,c,w,f,q,J,K,R,Kb,f32];exact⟨by rw[Mr];rfl,by omega,fun j H o=>by rw[zz _ _ _ _ o,r j (by omega) o,zz _ _ _ _ o,zz _ _ _ _ (by omega),zz _ _ _ _ (by omega)]⟩
noncomputable abbrev Css1:Ctx:=zV prog [(60,hP (FKs hkP))]
noncomputable abbrev ss1S:AM.Spec:=wD Css1 f59
theorem OZ:zg prog 59 ss1S:=kL (zW mixed ⟨CF,trivial⟩:AM.Good Css1 _) func59
def rI(s:qU):Blk:=⟨82,10,false,[s.V]⟩
theorem zcu(s:qU)(k:za)(b:KA s.outs<=zA)(c:k.length<=zA)(Y:Hp)(Z id:Nat)(a:Y id=some (rI s)):ss1S [str k,.ref id 0 0] Y Z=some (wb (ZF s.outs k).2,Y,Z):=by
 unfold ss1S wD;rw[zd (by simp[f59])];refine jf rfl ?_;have d:=fun Y Z=>zcr s.outs k Y Z b c
 simp[rI]at a;simp[a,d,f59]
def Ku(f:za->Bool):Nat->List za->Int
 |_,[]=>-1
 |k,s::l=>if f s=true then k else Ku f (k+1) l
theorem rJ(f:za->Bool):∀(l:List za) (k:Nat),decide (0<=Ku f k l)=l.any f
 |[],k=>by simp[Ku]
 |s::l,k=>by
  cases h:f s
  ·rw[Ku,h,ze (by simp),rJ f l (k+1),wX,h];rfl
  ·rw[Ku,h,zd rfl,wX,h];simp
noncomputable abbrev Csix:Ctx:=zV prog [(59,ss1S)]
noncomputable abbrev sixS:AM.Spec:=wD Csix f107
theorem O0:zg prog 107 sixS:=kL (zW mixed ⟨OZ,trivial⟩:AM.Good Csix _) func107
def te(id:Nat):O:=.fn (.func 59) [] [.ref id 0 0]
theorem zcv(s:qU)(hs:s.cb<=zA)(Y:Hp)(Z id:Nat)(q:Y id=some (rI s)) :
  sixS [.sl 1 (zy s.ins),te id] Y Z=some (int (Ku (fun k=>(ZF s.outs k).2) 0 s.ins),Y,Z):=by
 have r:s.cb=1+s.name.length+KA s.ins+KA s.outs+s.cond.cb:=rfl;have t:=VY s.ins;have u:=fun k (o:k∈s.ins)=>fx o
 unfold zA at hs;unfold sixS wD;rw[zd (by simp[f107])];refine jf rfl ?_;have e:(zy s.ins).length=s.ins.length:=by simp[zy]
 simp[te,e];refine zL (fun k σ Y1 f=>σ 0=.sl 1 (zy s.ins)/\σ 1=te id/\σ 7=int s.ins.length/\σ 8=int k/\Y1=Y/\f=Z/\Ku (fun k=>(ZF s.outs k).2) 0 s.ins=Ku (fun k=>(ZF s.outs k).2) k (s.ins.drop k)) s.ins.length ⟨by simp,by simp[te],by simp,by simp,rfl,rfl,by simp⟩ ?_;rintro k σ Y1 f o ⟨i,j,l,m,rfl,rfl,c⟩;by_cases b:k<s.ins.length
 ·have p:=qe k;obtain⟨y,n⟩:=wZ (s.ins[k]);have v:=u y (by rw[<-n];exact zi b);have d:k<(zy s.ins).length:=by omega
  have g:(zy s.ins)[k]=[str y]:=by simp[zy,n]
  have a:=zcu s y (by unfold zA;omega) (by unfold zA;omega) Y1 f id q;rw[zc b,n,Ku]at c;cases h:(ZF s.outs y).2
  ·rw[h,ze (by simp)]at c;rw[h]at a;simp[i,j,l,m,te,b,e,d,g,a,p];exact⟨by omega,c⟩
  ·rw[h,zd rfl]at c;rw[h]at a;simp[i,j,l,m,te,b,e,d,g,a,p,c,f107]
 ·obtain rfl:k=s.ins.length:=by omega
  rw[zp]at c;simp only[Ku]at c;simp[i,j,l,m,c,f107]
noncomputable abbrev Csct:Ctx:=zV prog [(107,sixS)]
noncomputable abbrev sctS:AM.Spec:=wD Csct f58
theorem O1:zg prog 58 sctS:=kL (zW mixed ⟨O0,trivial⟩:AM.Good Csct _) func58
theorem zcw(s:qU)(hs:s.cb<=zA)(Y:Hp)(Z id:Nat)(b:Y id=some (rI s)) :
  sctS [.sl 1 (zy s.ins),te id] Y Z=some (wb (s.ins.any fun k=>(ZF s.outs k).2),Y,Z):=by
 unfold sctS wD;rw[zd (by simp[f58])];refine jf rfl ?_;have a:=zcv s hs Y Z id b;have c:=rJ (fun k=>(ZF s.outs k).2) s.ins 0;simp only[te]at a;simp[te,a,c,f58]
noncomputable def FSgm (out:qU->O):zb->Option O:=qd (α:=qU) (fun s=>[.agg s.V]) (fun s=>s.cb<=zA) out
theorem O2(out:qU->O)(s:qU)(Y:Hp)(Z:Nat)(h:s.cb<=zA)(c:(out s).flat=true):hP (FSgm out) [.agg s.V] Y Z=some (out s,Y,Z):=
 QL s _ _ (by simp[jo]) (fun a b e=>by simp only[zj,zG,O.agg.injEq]at e;exact bq e) h (.inl c)
noncomputable abbrev Csg1:Ctx:=zV prog [(57,hP (FTl (fun l=>int (xI l)) fun l=>KA l<=zA)),(58,sctS),(26,GC fun c=>int c.check)]
theorem zcx{l m:List za}(a:eR m):(l.any fun k=>(ZF m k).2)=l.any fun k=>m.contains k:=by congr 1;funext k;exact zcs a k
theorem fA(s:qU)(h:s.cb<=zA):zv Csg1 f30 [.agg s.V]=some (int (ZW s)):=by
 have n:s.cb=1+s.name.length+KA s.ins+KA s.outs+s.cond.cb:=rfl;unfold zA at h;have j:=fun Y Z=>fy (fun l=>int (xI l)) (fun l=>KA l<=zA) s.ins Y Z (by unfold zA;omega) rfl
 have m:=fun Y Z=>fy (fun l=>int (xI l)) (fun l=>KA l<=zA) s.outs Y Z (by unfold zA;omega) rfl
 have o:=fun Y Z=>vx (fun c=>int c.check) s.cond Y Z (by unfold zA;omega)
 refine zn rfl ?_;simp[zt,zJ,zr];rw[zR];by_cases b:xI s.ins=0
 case neg=>
  have a:ZW s=xI s.ins:=by unfold ZW;rw[ze b]
  have g:=vX b;simp[j,g,a,wK,f30]
 have p:=wq 1;have q:=wq 2;simp[j,b,p];rw[zR];by_cases d:xI s.outs=0
 case neg=>
  have a:ZW s=xI s.outs:=by unfold ZW;rw[zd b,ze d]
  have i:=vX d;simp[m,i,a,wK,f30]
 simp[m,d,q];rw[zR];have e:=zcw s (by unfold zA;omega) (qq (qq (fun _=>none) 0 (some (rI s))) 1 (some ⟨38,1,true,[[.sl 1 (zy s.ins)],[.sl 1 (zy s.outs)]]⟩)) 2 0 (by simp);rw[zcx (Uq d)]at e;simp only[te,rI]at e;cases f:s.ins.any fun k=>s.outs.contains k
 ·have a:ZW s=s.cond.check:=by unfold ZW;rw[zd b,zd d,f,ze (by simp)]
  rw[f]at e;simp[e,o,a,wK,f30]
 ·have a:ZW s=7:=by unfold ZW;rw[zd b,zd d,f,zd rfl]
  rw[f]at e;simp[e,a,wK,f30]
theorem dz:zg prog 30 (hP (FSgm fun s=>int (ZW s))):=
 vM (zW mixed ⟨mx,O1,YY,trivial⟩:AM.Good Csg1 _) func30 false [] fun s a=>⟨by simp[f30],_,fA s a,z8 _⟩
def Kv(l:List qU)(k:Nat):Option za:=if k=0 then none else(l[k-1]?).map qU.name
noncomputable def FSs (out:List qU->O):zb->Option O:=qd (α:=List qU) (fun l=>[.sl 10 (l.map qU.V)]) (fun l=>bH l<=zA) out
theorem UA(out:List qU->O)(l:List qU)(Y:Hp)(Z:Nat)(h:bH l<=zA)(c:(out l).flat=true):hP (FSs out) [.sl 10 (l.map qU.V)] Y Z=some (out l,Y,Z):=
 QL l _ _ rfl (fun a b e=>by simp only[zj,zG]at e;exact ZC e) h (.inl c)
noncomputable abbrev Csgs:Ctx:=zV prog [(29,hP (FS wy)),(30,hP (FSgm fun s=>int (ZW s))),(31,hP FKn),(32,rG 268435457)]
theorem zcy:Gd Csgs:=zW mixed ⟨ZJ,dz,F2,rH _,trivial⟩
theorem O3:Vx Csgs Hl 18 f18:=qX func18
theorem dA(l:List qU)(h:bH l<=zA):zv Csgs f18 [.sl 10 (l.map qU.V)]=some (int (kT l)):=by
 have hlen:=VZ l;have GQ:zA=268435456:=rfl;refine zn rfl ?_;by_cases o:(100:Int)<l.length
 ·have d:kT l=2:=by unfold kT;rw[zd o]
  simp[o,d,f18]
 refine Zs (fun σ Y Z=>σ 0=.sl 10 (l.map qU.V)) (by simp) ?_;rintro σ Y Z c;refine Zs (fun σ Y Z=>σ 0=.sl 10 (l.map qU.V)) (by simp[c,o]) ?_;clear c σ Y Z;rintro σ Y Z c;refine Zs (fun σ Y Z=>σ 0=.sl 10 (l.map qU.V)/\YL none l=0) ?_ ?_
 ·simp[c];refine zL (fun k σ Y Z=>σ 0=.sl 10 (l.map qU.V)/\σ 13=.sl 10 (l.map qU.V)/\σ 14=int l.length/\σ 15=int k/\YL none l=YL (Kv l k) (l.drop k)) l.length ⟨by simp[c],by simp,by simp,by simp,by simp[Kv]⟩ ?_;clear c σ Y Z;rintro k σ Y Z hk ⟨c,e,f,g,a⟩;by_cases b:k<l.length
  ·have G:=qe k;obtain⟨s,hs⟩:=wZ (l[k]);have L:=J9 (zi b);rw[hs]at L;have M:s.cb=1+s.name.length+KA s.ins+KA s.outs+s.cond.cb:=rfl;have i:s.name.length<=zA:=by omega
   have B:Kv l (k+1)=some s.name:=by simp[Kv,b,hs]
   have p:=fun Y Z=>O2 (fun s=>int (ZW s)) s Y Z (by omega) rfl
   rw[I0 b,hs]at a;cases r:wy s.name
   ·rw[r,ze (by simp)]at a;have d:kT l=5:=by unfold kT;rw[ze o,a,ze (by decide)]
    simp[c,e,f,g,b,hs,i,r,d,f18]
   rw[r,zd rfl]at a;have key:xU (Kv l k) s.name=true\/xU (Kv l k) s.name=false:=by cases xU (Kv l k) s.name<;>simp
   by_cases k0:k=0
   ·subst k0;have w1:=wq 1;simp only[Kv,xU,qV,zP,wF]at a;by_cases m:ZW s=0
    ·rw[zd m]at a;simp[c,e,f,g,b,hs,i,r,p,m,w1];exact⟨by omega,by rw[a,B];simp⟩
    ·rw[ze m]at a;have t:=vX m;have d:kT l=ZW s:=by unfold kT;rw[ze o,a,ze m]
     simp[c,e,f,g,b,hs,i,r,p,t,d,f18]
   ·obtain⟨j,rfl⟩:∃j,k=j+1:=⟨k-1,by omega⟩;have H:j<l.length:=by omega
    have N:i6.wrap ((j:Int)+1-1)=(j:Int):=by rw[wS (by omega) (by omega)];omega
    have u:=wq (j:Int);have Q:((j:Int)+1).toNat=j+1:=by omega
    have R:0<(j:Int)+1:=by omega
    have S:0<=(j:Int)+1:=by omega
    have T:(j:Int)+1<l.length:=by omega
    have wk:=wq ((j:Int)+1+1);have U:(Op.bytesLess s.name l[j].name||s.name==l[j].name)=Xh s.name l[j].name:=rfl;have W:Kv l (j+1)=some l[j].name:=by simp[Kv,H]
    simp only[W,xU]at a;cases C:Xh s.name l[j].name
    ·rw[C,ze (by simp)]at a;by_cases m:ZW s=0
     ·rw[zd m]at a;simp[c,e,f,g,b,H,hs,i,r,N,u,Q,R,S,T,U,C,wk,p,m];exact⟨by omega,by rw[a,B]⟩
     ·rw[ze m]at a;have t:=vX m;have d:kT l=ZW s:=by unfold kT;rw[ze o,a,ze m]
      simp[c,e,f,g,b,H,hs,i,r,N,u,Q,R,S,T,U,C,p,t,d,f18]
    ·rw[C,zd rfl]at a;have d:kT l=8:=by unfold kT;rw[ze o,a,ze (by decide)]
     simp[c,e,f,g,b,H,hs,i,r,N,u,Q,R,S,T,U,C,d,f18]
  ·obtain rfl:k=l.length:=by omega
   rw[zp]at a;have a:YL none l=0:=by rw[a];rfl
   simp[c,e,f,g,a]
 clear c σ Y Z;rintro σ Y Z ⟨c,X⟩;refine Zs (fun σ Y Z=>σ 0=.sl 10 (l.map qU.V)/\(l.all fun s=>YC l s.cond)=true) ?_ ?_
 ·simp[c];refine zL (fun k σ Y Z=>σ 0=.sl 10 (l.map qU.V)/\σ 43=.sl 10 (l.map qU.V)/\σ 44=int l.length/\σ 45=int k/\(l.all fun s=>YC l s.cond)=(l.drop k).all fun s=>YC l s.cond) l.length ⟨by simp[c],by simp,by simp,by simp,by simp⟩ ?_;clear c σ Y Z;rintro k σ Y Z hk ⟨c,v,w,y,a⟩;by_cases b:k<l.length
  ·have G:=qe k;obtain⟨s,hs⟩:=wZ (l[k]);have L:=J9 (zi b);rw[hs]at L;have M:s.cb=1+s.name.length+KA s.ins+KA s.outs+s.cond.cb:=rfl;have q:=fun Y Z=>Uy l s.cond Y Z (by omega) (by omega)
   rw[zc b,hs,wi]at a;cases I:YC l s.cond
   ·rw[I,Qc]at a;have d:kT l=9:=by unfold kT;rw[ze o,zd X,a,ze (by simp)]
    simp[c,v,w,y,b,hs,q,I,d,f18]
   ·rw[I,kv]at a;simp[c,v,w,y,b,hs,q,I,G];exact⟨by omega,a⟩
  ·obtain rfl:k=l.length:=by omega
   rw[zp]at a;simp only[V4]at a;simp[c,v,w,y];exact ql.1 a
 clear c σ Y Z;rintro σ Y Z ⟨c,hK⟩;have q:∀s∈l,∀n∈s.cond.names,ZD l n=true:=fun s hs n hn=>ql.1 (ql.1 hK s hs) n hn
 have hm1:l.length<=maxLen:=by unfold maxLen;omega
 have hm2:l.length*8<=140737488355328:=by omega
 simp[c,Wn,hm1,hm2];obtain⟨P,hP⟩:=wZ Z;rw[hP];refine zL (fun k σ Y Z=>σ 0=.sl 10 (l.map qU.V)/\σ 8=.own P 0 l.length/\σ 59=int l.length/\σ 60=int k/\P<Z/\∃st:List Int,st.length=l.length/\ZV st<268435457/\Y P=some (CH st)/\rA l=(Ur l st ((List.range l.length).drop k)).1) l.length
  ⟨by simp[c],by simp,by simp,by simp,by simp,List.replicate l.length 0,by simp,by rw[rB];omega,by simp[CH],by simp[rA]⟩ ?_
 clear c hP σ Y Z;rintro k σ Y Z hk ⟨c,h8,z,A,cB,st,D,E,hb,a⟩;by_cases b:k<l.length
 ·have G:=qe k;obtain⟨x,Y2,PL,J,rfl,r2,n2,f2⟩:=F4 l h q P 268435457 st k Y Z E D b cB hb;have F:=xb (jA l) 268435457 st k;rw[zc (by simpa using b),List.getElem_range]at a;unfold Ur at a;cases K:(vt (jA l) 268435457 st k).1
  ·rw[aC K]at a;rw[K]at J;simp[c,h8,z,A,b,J,G];exact⟨by omega,by omega,_,by rw[F.len];exact D,zkE F.wh E,r2,by rw[a];rfl⟩
  ·rw[dy K]at a;rw[K]at J;have d:kT l=12:=by unfold kT;rw[ze o,zd X,zd hK,zd a]
   simp[c,h8,z,A,b,J,d,f18]
 ·obtain rfl:k=l.length:=by omega
  have a:rA l=false:=by rw[a,jF (by simp)];rfl
  have d:kT l=0:=by unfold kT;rw[ze o,zd X,zd hK,a,ze (by simp)]
  simp[c,h8,z,A,d,f18]
theorem bI:zg prog 18 (hP (FSs fun l=>int (kT l))):=
 yy (fn:=f18) zcy O3 false [] _ fun args r h=>by obtain⟨l,rfl,a,rfl⟩:=zO h;exact⟨zI (zl 1) (by decide),_,dA l a,z8 _⟩
noncomputable def Yk (s:qU) (q:za):Int:=if wy s.name=true then(if Xh s.name q=true then 8 else ZW s)else 5
noncomputable def FSgB (out:qU->za->O):zb->Option O:=qd (α:=qU×za) (fun a=>[.agg a.1.V,str a.2]) (fun a=>a.1.cb<=zA) fun a=>out a.1 a.2
theorem O4(out:qU->za->O)(s:qU)(q:za)(Y:Hp)(Z:Nat)(h:s.cb<=zA)(c:(out s q).flat=true):hP (FSgB out) [.agg s.V,str q] Y Z=some (out s q,Y,Z):=
 QL (s,q) _ _ (by simp[jo]) (fun a b e=>by obtain⟨d,f⟩:=a;obtain⟨g,i⟩:=b;simp only[zj,zG,O.agg.injEq]at e;rw[bq e.1,wC e.2]) h (.inl c)
noncomputable abbrev Crsg:Ctx:=zV prog [(75,hP (FS wy)),(76,hP (FTl (fun l=>int (xI l)) fun l=>KA l<=zA)),(39,zh false [1] (OP fun l v=>wb (decide (v∈l)))),(53,GC fun c=>int c.check)]
theorem F5{α:Type}{p:α->Bool}{l:List α}{k:Nat}(h:k<l.length):(l.drop k).any p=(p l[k]||(l.drop (k+1)).any p):=by rw[zc h,wX]
theorem dB(s:qU)(q:za)(h:s.cb<=zA):zv Crsg f37 [.agg s.V,str q]=some (int (Yk s q)):=by
 have D:s.cb=1+s.name.length+KA s.ins+KA s.outs+s.cond.cb:=rfl;have E:=VY s.ins;have F:=VY s.outs;unfold zA at h;have a:s.name.length<=zA:=by unfold zA;omega
 have u:=fun Y Z=>fy (fun l=>int (xI l)) (fun l=>KA l<=zA) s.ins Y Z (by unfold zA;omega) rfl
 have B:=fun Y Z=>fy (fun l=>int (xI l)) (fun l=>KA l<=zA) s.outs Y Z (by unfold zA;omega) rfl
 have G:=fun Y Z=>vx (fun c=>int c.check) s.cond Y Z (by unfold zA;omega)
 have r:(Op.bytesLess s.name q||s.name==q)=Xh s.name q:=rfl;refine zn rfl ?_;unfold Yk;cases n:wy s.name
 ·simp[a,n,f37]
 cases t:Xh s.name q
 case true=>simp[a,n,r,t,f37]
 by_cases b:xI s.ins=0
 case neg=>
  have e:ZW s=xI s.ins:=by unfold ZW;rw[ze b]
  have w:=vX b;simp[a,n,r,t,u,w,e,f37]
 by_cases o:xI s.outs=0
 case neg=>
  have e:ZW s=xI s.outs:=by unfold ZW;rw[zd b,ze o]
  have y:=vX o;simp[a,n,r,t,u,b,B,y,e,f37]
 simp[a,n,r,t,u,b,B,o];refine zL (fun k σ Y Z=>σ 2=.ref 0 0 0/\σ 32=.sl 1 (zy s.ins)/\σ 33=int s.ins.length/\σ 34=int k/\1<=Z/\Y 0=some (rI s)/\(s.ins.any fun k=>s.outs.contains k)=(s.ins.drop k).any fun k=>s.outs.contains k) s.ins.length
  ⟨by simp,by simp,by simp,by simp,by simp,by simp[rI],by simp⟩ ?_
 rintro k σ Y Z K ⟨z,f,g,i,H,p,m⟩;simp only[rI]at p;by_cases j:k<s.ins.length
 ·have I:=qe k;obtain⟨x,A⟩:=wZ (s.ins[k]);rw[F5 j,A]at m;have C:=fun Y Z=>ay (fun l v=>wb (decide (v∈l))) s.outs x Y Z (by unfold zA;omega)
  by_cases d:x∈s.outs
  ·have e:ZW s=7:=by unfold ZW;rw[zd b,zd o,m];simp[d]
   simp[z,f,g,i,j,A,p,C,d,e,f37]
  ·have J:s.outs.contains x=false:=by simpa using d
   rw[J,yN]at m;simp[z,f,g,i,j,A,p,C,d,I]
   and_intros<;>first|omega|exact p|rfl|simpa using m
 ·obtain rfl:k=s.ins.length:=by omega
  rw[zp]at m;have e:ZW s=s.cond.check:=by unfold ZW;rw[zd b,zd o,m];simp
  simp[z,f,g,i,p,G,e,f37]
theorem bJ:zg prog 37 (hP (FSgB fun s q=>int (Yk s q))):=
 vM (zW mixed ⟨Z1,iA,kQ,WX,trivial⟩:AM.Good Crsg _) func37 false [] fun⟨s,q⟩ a=>⟨zI (zl 2) (by decide),_,dB s q a,z8 _⟩
@[simp]theorem zjI(s:wQ):s.V.length=11:=rfl
end Go.Q
namespace Go.LikeLaw
inductive Lk:List UInt8->List UInt8->Prop
 |nil:Lk [] []
 |zak {t p:List UInt8}:Lk t p->Lk t (42::p)
 |zal {c:UInt8} {t p:List UInt8}:Lk t (42::p)->Lk (c::t) (42::p)
 |one {c q:UInt8} {t p:List UInt8}:q≠42->(q=63\/q=c)->Lk t p->Lk (c::t) (q::p)
theorem GU{t p:za}:Lk t (42::p)↔∃a b,t=a++b/\Lk b p:=by
 constructor
 ·intro h;generalize d:(42::p:za)=q at h
  induction h with
  |nil=>cases d
  |zak h _=>cases d;exact⟨[],_,rfl,h⟩
  | @zal c t i h e=>obtain⟨a,b,rfl,g⟩:=e d;exact⟨c::a,b,rfl,g⟩
  |one f _ _=>cases d;exact absurd rfl f
 ·rintro⟨a,b,rfl,h⟩
  induction a with
  |nil=>exact .zak h
  |cons c a e=>exact .zal e
theorem Ms{c q:UInt8}{t p:za}(a:q≠42):Lk (c::t) (q::p)↔(q=63\/q=c)/\Lk t p:=by
 constructor
 ·intro h;cases h with
  |zak=>exact absurd rfl a
  |zal=>exact absurd rfl a
  |one _ b d=>exact⟨b,d⟩
 ·rintro⟨b,d⟩;exact .one a b d
theorem F6{q:UInt8}{p:za}(a:q≠42):¬Lk [] (q::p):=by intro h;cases h;exact a rfl
theorem split{k:za}:∀{g t:za},Lk t (g++k)->∃d e,t=d++e/\Lk d g/\Lk e k
 |[],t,h=>⟨[],t,rfl,.nil,h⟩
 |q::g,t,h=>by
  by_cases f:q=42
  ·subst f;obtain⟨a,b,rfl,l⟩:=GU.1 h;obtain⟨d,e,rfl,i,j⟩:=split l;exact⟨a++d,e,by simp,GU.2 ⟨a,d,rfl,i⟩,j⟩
  ·cases t with
   |nil=>exact absurd h (F6 f)
   |cons c t=>obtain⟨a,b⟩:=(Ms f).1 h;obtain⟨d,e,rfl,i,j⟩:=split b;exact⟨c::d,e,rfl,.one f a i,j⟩
theorem Ap{s:za}(hs:∀q∈s,q≠42){p:za}:∀{t:za},Lk t (s++p)->s.length<=t.length/\Lk (t.drop s.length) p:=by
 induction s with
 |nil=>intro t h;exact⟨by simp,h⟩
 |cons q s d=>
  intro t h;have a:q≠42:=hs q (by simp);cases t with
  |nil=>exact absurd h (F6 a)
  |cons c t=>obtain⟨_,b⟩:=(Ms a).1 h;obtain⟨g,e⟩:=d (fun x f=>hs x (by simp[f])) b;exact⟨by simp;omega,by simpa using e⟩
structure Inv (t p:List UInt8) (star:Int) (fr i k:Nat):Prop where
 hi:i<=t.length
 hk:k<=p.length
 none_:star<0->star=-1/\(Lk t p↔Lk (t.drop i) (p.drop k))
 some_:0<=star->∃s,p.drop (star.toNat+1)=s++p.drop k/\star.toNat+1+s.length=k/\fr+s.length=i/\(∀q∈s,q≠42) /\
  (∀r,Lk (t.drop i) r->Lk (t.drop fr) (s++r))/\(Lk t p↔∃f,fr<=f/\f<=t.length/\Lk (t.drop f) (p.drop (star.toNat+1)))
end Go.LikeLaw
namespace Go.Q
open Go.RowKit Go.AM Go.LikeLaw
structure LInv (t p:List UInt8) (star:Int) (fr i k:Nat):Prop extends LikeLaw.Inv t p star fr i k where
 s0:-1<=star
 s1:star<k
 f1:fr<=i
end Go.Q
namespace Go.Q
theorem JG:∀a b:List qO,yh (a++b)=yh a++yh b
 |[],b=>rfl
 |x::a,b=>by show x.names++yh (a++b)=(x.names++yh a)++yh b;rw[JG a b,qG]
theorem QB{l:List qO}{k:Nat}(h:k<l.length):yh (l.take (k+1))=yh (l.take k)++l[k].names:=by rw[zQ h,JG];show _++(l[k].names++[])=_;rw[ku]
theorem Aj{n:Nat}(a:∀c:qO,c.cb<=n->c.names.length<=c.cb):∀l:List qO,iG l<=n->(yh l).length<=iG l
 |[],_=>zl _
 |x::l,h=>by
  have b:iG (x::l)=x.cb+iG l:=by simp[iG]
  have d:=a x (by omega);have e:=Aj a l (by omega);show(x.names++yh l).length<=_;rw[zm];omega
theorem kU:∀(n:Nat) (c:qO),c.cb<=n->c.names.length<=c.cb
 | 0,c,h=>by have:=XU c;omega
 |n+1,c,h=>by have a:=Wh c;have:=Aj (kU n) c.args (by omega);rw[xY,zm];split<;>simp<;>omega
noncomputable abbrev Cnm (n:Nat):Ctx:=zV prog [(77,hP (FC (fun c=>.sl 1 (zy c.names)) n))]
theorem CI(n:Nat)(c:qO)(h:c.cb<=zA/\c.cb<=n+1):∃C,zv (Cnm n) f77 [.agg c.V]=some C/\XG C (.sl 1 (zy c.names)):=by
 have D:=Wh c;have E:=vp c.args;have w:=kU _ c (zl _);obtain⟨F,J⟩:=h;unfold zA at F;have g:∀k,(yh (c.args.take k)).length<=c.cb:=fun k=>by
  have e:yh c.args=yh (c.args.take k)++yh (c.args.drop k):=by rw[<-JG,xB]
  have:=zo List.length e;rw[xY,zm]at w;rw[zm]at this;omega
 refine YT rfl ?_;by_cases v:c.kind=5
 ·have s:=fun Y Z=>qN.yx (P:=prog) (t:=38) (c:=[str c.name]) (qN.nil Y Z 9 1) Jn mI oa ob rfl (by omega) (by simp[maxLen]) (by simp)
  have i:(c.kind==5)=true:=by simpa using v
  simp only[Qx]at s;simp[we,i,zt,zJ,zr,s];refine zL (fun k σ Y Z=>σ 15=.sl 7 (c.args.map qO.V)/\σ 16=int c.args.length/\σ 17=int k/\qN Y Z 9 1 (σ 3) (zy ([c.name]++yh (c.args.take k)))) c.args.length
   ⟨by simp,by simp,by simp,by simp;exact .inr ⟨_,by omega,rfl,by simp[zy,yh]⟩⟩ ?_
  rintro k σ Y Z G ⟨b,d,f,j⟩;by_cases a:k<c.args.length
  ·have y:=qe k;obtain⟨x,l⟩:=wZ (c.args[k]);have m:x∈c.args:=by rw[<-l];exact zi a
   have z:=xL m;have A:=kU _ x (zl _);have B:=fun Y Z=>Qf (fun c=>.sl 1 (zy c.names)) n x Y Z ⟨by unfold zA;omega,by omega⟩
   have H:=g k;have o:=j.more (some ⟨53,7,false,[x.V]⟩);obtain⟨I,Y',Z',p,q,_⟩:=o.Y5 (P:=prog) (t:=38) (ys:=zy x.names) Jn mI oa ob rfl (by omega) (by simp[maxLen,wa];omega) (by simp[wa];omega);have u:=QB a;rw[l]at u;simp[b,d,f,a,l,B,p,y,Y9];refine⟨by omega,?_⟩;rw[u];simpa[zy]using q
  ·obtain rfl:k=c.args.length:=by omega
   rw[qf]at j;have r:=j.freeze Z;simp[b,d,f,f77];rw[xY];simpa[v]using r
 ·have i:=jN v;simp[we,i];refine zL (fun k σ Y Z=>σ 15=.sl 7 (c.args.map qO.V)/\σ 16=int c.args.length/\σ 17=int k/\qN Y Z 9 1 (σ 3) (zy (yh (c.args.take k)))) c.args.length
   ⟨by simp,by simp,by simp,by simp;exact .inl ⟨rfl,by simp[zy,yh]⟩⟩ ?_
  rintro k σ Y Z G ⟨b,d,f,j⟩;by_cases a:k<c.args.length
  ·have y:=qe k;obtain⟨x,l⟩:=wZ (c.args[k]);have m:x∈c.args:=by rw[<-l];exact zi a
   have z:=xL m;have A:=kU _ x (zl _);have B:=fun Y Z=>Qf (fun c=>.sl 1 (zy c.names)) n x Y Z ⟨by unfold zA;omega,by omega⟩
   have H:=g k;have o:=j.more (some ⟨53,7,false,[x.V]⟩);obtain⟨I,Y',Z',p,q,_⟩:=o.Y5 (P:=prog) (t:=38) (ys:=zy x.names) Jn mI oa ob rfl (by omega) (by simp[maxLen,wa];omega) (by simp[wa];omega);have u:=QB a;rw[l]at u;simp[b,d,f,a,l,B,p,y,Y9];refine⟨by omega,?_⟩;rw[u];simpa[zy]using q
  ·obtain rfl:k=c.args.length:=by omega
   rw[qf]at j;have r:=j.freeze Z;simp[b,d,f,f77];rw[xY];simpa[v]using r
theorem cu:∀n,zg prog 77 (hP (FC (fun c=>.sl 1 (zy c.names)) n)):=by
 intro n
 induction n with
 |zero=>exact mL ⟨_,func77,by kernel_rfl,by kernel_rfl⟩
 |succ n a=>
  have b:Gd (Cnm n):=zW mixed ⟨a,trivial⟩;exact yy (fn:=f77) b (qX func77) false [] _ fun args r h=>by obtain⟨c,rfl,d,rfl⟩:=Wu h;obtain⟨e,f,g⟩:=CI n c d;exact⟨zI (zl 1) (by decide),e,f,g⟩
def lM(l:List qU)(a:List za):Bool:=a.all fun n=>(yV n l).isSome
def I9(l:List qU)(cs:List qO):Int:=if(cs.all fun c=>lM l c.names)=true then 0 else 9
theorem iB{α:Type}{p:α->Bool}{l:List α}{k:Nat}(h:k<l.length):(l.drop k).all p=(p l[k]&&(l.drop (k+1)).all p):=by rw[zc h,wi]
noncomputable def FSC (out:List qU->List qO->O):zb->Option O:=qd (α:=List qU×List qO) (fun a=>[.sl 10 (a.1.map qU.V),.sl 7 (a.2.map qO.V)]) (fun a=>a.1.length<=zA/\iG a.2<=zA) fun a=>out a.1 a.2
theorem zfz(out:List qU->List qO->O)(l:List qU)(cs:List qO)(h:l.length<=zA/\iG cs<=zA):FSC out [.sl 10 (l.map qU.V),.sl 7 (cs.map qO.V)]=some (out l cs):=
 qD (V:=fun a:List qU×List qO=>[O.sl 10 (a.1.map qU.V),.sl 7 (a.2.map qO.V)]) (a:=(l,cs)) (fun a b e=>by obtain⟨f,g⟩:=a;obtain⟨i,j⟩:=b;simp only[zj,zG]at e;obtain⟨d,c⟩:=e;injection c with _ c;rw[ZC d,jZ (fun _ _=>xx) c]) h
noncomputable abbrev zdG:Ctx:=zV prog [(77,hP (FC (fun c=>.sl 1 (zy c.names)) zA)),(78,hP (Uv (fun l s=>ct (yV s l)) fun l _=>l.length<=zA))]
theorem iC(l:List qU)(cs:List qO)(z:l.length<=zA)(G:iG cs<=zA):zv zdG f38 [.sl 10 (l.map qU.V),.sl 7 (cs.map qO.V)]=some (int (I9 l cs)):=by
 have v:zA=268435456:=rfl;have A:=vp cs;refine zn rfl ?_;obtain⟨B,w⟩:=wZ (cs.all fun c=>lM l c.names);unfold I9;rw[w];simp;refine zL (fun k σ Y Z=>σ 0=.sl 10 (l.map qU.V)/\σ 11=.sl 7 (cs.map qO.V)/\σ 12=int cs.length/\σ 13=int k/\B=(cs.drop k).all fun c=>lM l c.names) cs.length
  ⟨by simp,by simp,by simp,by simp,by simp[w]⟩ ?_
 rintro k σ Y Z H ⟨g,a,b,e,f⟩;by_cases h:k<cs.length
 ·have C:=qe k;obtain⟨x,q⟩:=wZ (cs[k]);have r:x∈cs:=by rw[<-q];exact zi h
  have D:=xL r;have E:=kU _ x (zl _);have F:=fun Y Z=>Qf (fun c=>.sl 1 (zy c.names)) zA x Y Z ⟨by omega,by omega⟩
  rw[iB h,q]at f;simp[g,a,b,e,h,q,F];refine zL (fun j σ Y Z=>σ 0=.sl 10 (l.map qU.V)/\σ 11=.sl 7 (cs.map qO.V)/\σ 12=int cs.length/\σ 13=int k/\σ 18=.sl 1 (zy x.names)/\σ 19=int x.names.length/\σ 20=int j/\B=(lM l (x.names.drop j)&&(cs.drop (k+1)).all fun c=>lM l c.names)) x.names.length
   ⟨by simp[g],by simp[a],by simp[b],by simp[e],by simp,by simp,by simp,by simpa using f⟩ ?_
  rintro j σ Y Z I ⟨g,a,b,e,i,m,n,f⟩;by_cases o:j<x.names.length
  ·have t:=qe j;obtain⟨y,u⟩:=wZ (x.names[j]);have p:∀Y Z,hP (Uv (fun l s=>ct (yV s l)) fun l _=>l.length<=zA) [.sl 10 (l.map qU.V),str y] Y Z=some (.w5 [.agg (I7 (yV y l)).V,wb (yV y l).isSome],Y,Z):=fun Y Z=>Af (fun l s=>ct (yV s l)) (fun l _=>l.length<=zA) l y Y Z z
   unfold lM at f;rw[iB o,u]at f;cases d:(yV y l).isSome
   ·rw[d,Qc,Qc]at f;rw[d]at p;simp[g,a,b,e,i,m,n,o,u,p,f,f38]
   ·rw[d,kv]at f;rw[d]at p;simp[g,a,b,e,i,m,n,o,u,p,t];exact⟨by omega,f⟩
  ·obtain rfl:j=x.names.length:=by omega
   rw[zp]at f;have f:B=(cs.drop (k+1)).all fun c=>lM l c.names:=by simpa[lM]using f
   simp[g,a,b,e,i,m,n,C];exact⟨by omega,f⟩
 ·obtain rfl:k=cs.length:=by omega
  rw[zp]at f;simp[g,a,b,e,f,f38]
theorem fB:zg prog 38 (hP (FSC fun l cs=>int (I9 l cs))):=
 vM (zW mixed ⟨cu zA,K9,trivial⟩:AM.Good zdG _) func38 false [] fun⟨l,cs⟩ a=>⟨zI (zl 2) (by decide),_,iC l cs a.1 a.2,z8 _⟩
noncomputable abbrev Csgn (n:Nat):Ctx:=zV prog [(129,hP (FC (fun c=>.sl 1 (zy c.names)) n))]
theorem tf(n:Nat)(c:qO)(h:c.cb<=zA/\c.cb<=n+1):∃C,zv (Csgn n) f129 [.agg c.V]=some C/\XG C (.sl 1 (zy c.names)):=by
 have D:=Wh c;have E:=vp c.args;have w:=kU _ c (zl _);obtain⟨F,J⟩:=h;unfold zA at F;have g:∀k,(yh (c.args.take k)).length<=c.cb:=fun k=>by
  have e:yh c.args=yh (c.args.take k)++yh (c.args.drop k):=by rw[<-JG,xB]
  have:=zo List.length e;rw[xY,zm]at w;rw[zm]at this;omega
 refine YT rfl ?_;by_cases v:c.kind=5
 ·have s:=fun Y Z=>qN.yx (P:=prog) (t:=38) (c:=[str c.name]) (qN.nil Y Z 9 1) Jn mI oa ob rfl (by omega) (by simp[maxLen]) (by simp)
  have i:(c.kind==5)=true:=by simpa using v
  simp only[Qx]at s;simp[we,i,zt,zJ,zr,s];refine zL (fun k σ Y Z=>σ 15=.sl 7 (c.args.map qO.V)/\σ 16=int c.args.length/\σ 17=int k/\qN Y Z 9 1 (σ 3) (zy ([c.name]++yh (c.args.take k)))) c.args.length
   ⟨by simp,by simp,by simp,by simp;exact .inr ⟨_,by omega,rfl,by simp[zy,yh]⟩⟩ ?_
  rintro k σ Y Z G ⟨b,d,f,j⟩;by_cases a:k<c.args.length
  ·have y:=qe k;obtain⟨x,l⟩:=wZ (c.args[k]);have m:x∈c.args:=by rw[<-l];exact zi a
   have z:=xL m;have A:=kU _ x (zl _);have B:=fun Y Z=>Qf (fun c=>.sl 1 (zy c.names)) n x Y Z ⟨by unfold zA;omega,by omega⟩
   have H:=g k;have o:=j.more (some ⟨53,7,false,[x.V]⟩);obtain⟨I,Y',Z',p,q,_⟩:=o.Y5 (P:=prog) (t:=38) (ys:=zy x.names) Jn mI oa ob rfl (by omega) (by simp[maxLen,wa];omega) (by simp[wa];omega);have u:=QB a;rw[l]at u;simp[b,d,f,a,l,B,p,y,Y9];refine⟨by omega,?_⟩;rw[u];simpa[zy]using q
  ·obtain rfl:k=c.args.length:=by omega
   rw[qf]at j;have r:=j.freeze Z;simp[b,d,f,f129];rw[xY];simpa[v]using r
 ·have i:=jN v;simp[we,i];refine zL (fun k σ Y Z=>σ 15=.sl 7 (c.args.map qO.V)/\σ 16=int c.args.length/\σ 17=int k/\qN Y Z 9 1 (σ 3) (zy (yh (c.args.take k)))) c.args.length
   ⟨by simp,by simp,by simp,by simp;exact .inl ⟨rfl,by simp[zy,yh]⟩⟩ ?_
  rintro k σ Y Z G ⟨b,d,f,j⟩;by_cases a:k<c.args.length
  ·have y:=qe k;obtain⟨x,l⟩:=wZ (c.args[k]);have m:x∈c.args:=by rw[<-l];exact zi a
   have z:=xL m;have A:=kU _ x (zl _);have B:=fun Y Z=>Qf (fun c=>.sl 1 (zy c.names)) n x Y Z ⟨by unfold zA;omega,by omega⟩
   have H:=g k;have o:=j.more (some ⟨53,7,false,[x.V]⟩);obtain⟨I,Y',Z',p,q,_⟩:=o.Y5 (P:=prog) (t:=38) (ys:=zy x.names) Jn mI oa ob rfl (by omega) (by simp[maxLen,wa];omega) (by simp[wa];omega);have u:=QB a;rw[l]at u;simp[b,d,f,a,l,B,p,y,Y9];refine⟨by omega,?_⟩;rw[u];simpa[zy]using q
  ·obtain rfl:k=c.args.length:=by omega
   rw[qf]at j;have r:=j.freeze Z;simp[b,d,f,f129];rw[xY];simpa[v]using r
theorem rK:∀n,zg prog 129 (hP (FC (fun c=>.sl 1 (zy c.names)) n)):=by
 intro n
 induction n with
 |zero=>exact mL ⟨_,func129,by kernel_rfl,by kernel_rfl⟩
 |succ n a=>
  have b:Gd (Csgn n):=zW mixed ⟨a,trivial⟩;exact yy (fn:=f129) b (qX func129) false [] _ fun args r h=>by obtain⟨c,rfl,d,rfl⟩:=Wu h;obtain⟨e,f,g⟩:=tf n c d;exact⟨zI (zl 1) (by decide),e,f,g⟩
def Kw(n:za)(l:List qU):Bool:=l.any fun s=>s.name==n
theorem dC(n:za):∀l:List qU,(yV n l).isSome=Kw n l
 |[]=>rfl
 |s::l=>by
  have a:=dC n l;unfold Kw at a⊢;rw[wX,<-a];by_cases h:s.name=n
  ·simp[yV,h]
  ·simp[yV,h]
theorem La{l:List qU}{j:Nat}(h:j<l.length)(n:za):Kw n (l.take (j+1))=(Kw n (l.take j)||l[j].name==n):=by unfold Kw;rw[zQ h,List.any_append];simp
noncomputable def FSCn (out:List qU->qO->O):zb->Option O:=qd (α:=List qU×qO) (fun a=>[.sl 10 (a.1.map qU.V),.agg a.2.V]) (fun a=>a.1.length<=zA/\a.2.cb<=zA) fun a=>out a.1 a.2
theorem O5(out:List qU->qO->O)(l:List qU)(c:qO)(Y:Hp)(Z:Nat)(h:l.length<=zA)(d:c.cb<=zA)(f:(out l c).flat=true):hP (FSCn out) [.sl 10 (l.map qU.V),.agg c.V] Y Z=some (out l c,Y,Z):=
 QL (l,c) _ _ (by simp[we]) (fun a b e=>by obtain⟨g,i⟩:=a;obtain⟨j,k⟩:=b;simp only[zj,zG,O.agg.injEq]at e;rw[ZC e.1,xx e.2]) ⟨h,d⟩ (.inl f)
noncomputable abbrev Cmis:Ctx:=zV prog [(129,hP (FC (fun c=>.sl 1 (zy c.names)) zA))]
theorem CJ(l:List qU)(c:qO)(D:l.length<=zA)(E:c.cb<=zA):zv Cmis f83 [.sl 10 (l.map qU.V),.agg c.V]=some (wb (!lM l c.names)):=by
 have v:zA=268435456:=rfl;have z:=kU _ c (zl _);refine zn rfl ?_;obtain⟨B,w⟩:=wZ (lM l c.names);have A:=fun Y Z=>Qf (fun c=>.sl 1 (zy c.names)) zA c Y Z ⟨by omega,by omega⟩
 rw[w];simp[A];refine zL (fun k σ Y Z=>σ 0=.sl 10 (l.map qU.V)/\σ 11=.sl 1 (zy c.names)/\σ 12=int c.names.length/\σ 13=int k/\B=lM l (c.names.drop k)) c.names.length
  ⟨by simp,by simp,by simp,by simp,by simp[w]⟩ ?_
 rintro k σ Y Z F ⟨g,a,b,e,f⟩;by_cases o:k<c.names.length
 ·have C:=qe k;obtain⟨y,u⟩:=wZ (c.names[k]);have x:=KL o;rw[u]at x;unfold lM at f;rw[iB o,u,dC]at f;simp[g,a,b,e,o,x,u];refine zL (fun j σ Y Z=>σ 0=.sl 10 (l.map qU.V)/\σ 11=.sl 1 (zy c.names)/\σ 12=int c.names.length/\σ 13=int k/\σ 6=str y/\σ 7=wb (Kw y (l.take j))/\σ 17=.sl 10 (l.map qU.V)/\σ 18=int l.length/\σ 19=int j) l.length
   ⟨by simp[g],by simp[a],by simp[b],by simp[e],by simp,by simp[Kw],by simp,by simp,by simp⟩ ?_
  clear g a b e σ Y Z;rintro j σ Y Z G ⟨g,a,b,e,t,h,i,m,n⟩;by_cases p:j<l.length
  ·have q:=qe j;obtain⟨s,hs⟩:=wZ (l[j]);have r:=La p y;rw[hs]at r;cases d:Kw y (l.take j)
   ·rw[d]at h r;simp[g,a,b,e,t,h,i,m,n,p,hs,q];exact⟨by omega,by rw[r];simp⟩
   ·rw[d]at h r;simp[g,a,b,e,t,h,i,m,n,p,hs,q];exact⟨by omega,by rw[r];simp⟩
  ·obtain rfl:j=l.length:=by omega
   rw[qf]at h;cases d:Kw y l
   ·rw[d,Qc]at f;rw[d]at h;simp[g,a,b,e,t,h,i,m,n,f,f83]
   ·rw[d,kv]at f;rw[d]at h;simp[g,a,b,e,t,h,i,m,n,C];exact⟨by omega,f⟩
 ·obtain rfl:k=c.names.length:=by omega
  rw[zp]at f;have f:B=true:=f;simp[g,a,b,e,f,f83]
theorem th:zg prog 83 (hP (FSCn fun l c=>wb (!lM l c.names))):=
 vM (zW mixed ⟨rK zA,trivial⟩:AM.Good Cmis _) func83 false [] fun⟨l,c⟩ ⟨a,b⟩=>⟨by simp[f83],_,CJ l c a b,z8 _⟩
noncomputable def F7 (Ta:Y7):AM.Spec:=wD (zV prog Ta) f152
noncomputable def Mt (Ta:Y7):AM.Spec:=wD (zV prog [(152,F7 Ta)]) f115
theorem Lb{Ta:Y7}(h:sj True prog [] Ta):zg prog 152 (F7 Ta):=kL (qC (q:=[]) mixed h) func152
theorem Lc{Ta:Y7}(h:sj True prog [] Ta):zg prog 115 (Mt Ta):=kL (qC (q:=[]) (l:=[(152,F7 Ta)]) mixed ⟨Lb h,by simp,trivial⟩) func115
theorem UC{σ:Type}{T:Nat->Prop}{Rep:σ->Hp->Prop}{step:σ->qO->Bool×σ}{Ta:Y7}{g:Nat}{sp:AM.Spec}{fi cap:zb}{Z0:Nat}(w:lookup Ta g=some sp)(xs:List qO)(B:xs.length<=zA)
  (C:∀s x Y Z,x∈xs->Z0<=Z->Rep s Y->∃r Y' Z',sp (fi++.agg x.V::cap) Y Z=some (r,Y',Z')/\Kb T Rep (wb (step s x).1) (step s x).2 Y Z r Y' Z')
  (e:σ) (f:Hp) (a:Nat) (M:Z0<=a) (D:Rep e f) :
  ∃r Y' Z',Mt Ta [.sl 7 (xs.map qO.V),.fn (.func g) fi cap] f a=some (r,Y',Z')/\Kb T Rep (wb (yv step e xs).1) (yv step e xs).2 f a r Y' Z':=by
 have o:∃r Y' Z',F7 Ta [.sl 7 (xs.map qO.V),.fn (.func g) fi cap] f a=some (r,Y',Z')/\∃z:Int,r=int z/\decide (0<=z)=(yv step e xs).1/\Kb T Rep (int z) (yv step e xs).2 f a r Y' Z':=by
  unfold F7 wD;rw[zd (by simp[f152])];refine qF rfl ?_;unfold zA at B;simp;refine zL (fun k σ Y Z=>σ 0=.sl 7 (xs.map qO.V)/\σ 1=.fn (.func g) fi cap/\σ 7=int xs.length/\σ 8=int k/\a<=Z/\(∀j,j<a->¬T j->Y j=f j)/\∃s,Rep s Y/\yv step e xs=yv step s (xs.drop k)) xs.length ⟨by simp,by simp,by simp,by simp,zl _,fun _ _ _=>rfl,e,D,by simp⟩ ?_;rintro k σ Y Z N ⟨p,q,t,u,v,i,s,l,d⟩;by_cases b:k<xs.length
  ·have E:=qe k;obtain⟨x,n⟩:=wZ (xs[k]);obtain⟨r,Y2,F,h,rfl,y,P,G⟩:=C s x Y Z (by rw[<-n];exact zi b) (by omega) l;rw[zc b,n]at d;have m:∀j,j<a->¬T j->Y2 j=f j:=fun j H A=>by rw[G j (by omega) A];exact i j H A
   cases c:(step s x).1
   ·rw[aC c]at d;rw[c]at h;simp[p,q,t,u,b,n,w,h,E];exact⟨by omega,by omega,m,_,y,d⟩
   ·rw[dy c]at d;rw[c]at h;simp[p,q,t,u,b,n,w,h,d,Kb,f152];exact⟨y,by omega,m⟩
  ·obtain rfl:k=xs.length:=by omega
   rw[zp]at d;simp only[yv]at d;simp[p,q,t,u,d,Kb,f152];exact⟨l,v,i⟩
 obtain⟨r,Y',Z',h,z,rfl,I,_,J,K,L⟩:=o;unfold Mt wD;rw[zd (by simp[f115])];refine qF rfl ?_;simp[h,I,Kb,f115];exact⟨J,K,L⟩
end Go.Q
