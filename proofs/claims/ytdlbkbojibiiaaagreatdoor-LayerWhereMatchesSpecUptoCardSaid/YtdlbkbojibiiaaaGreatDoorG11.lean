/- Lemmas. -/
import Derived.Test.YtdlbkbojibiiaaaGreatDoorG10
set_option maxRecDepth 100000
set_option maxHeartbeats 4000000
open Go Proofs Proofs.YtdlbkbojibiiaaaGreatDoor Proofs.Tryz RowKit AM SpanLaw Q Zz
open Go.IntKind renaming i64→i6
namespace Go.Q
noncomputable abbrev SV:Ctx:=zQ prog [(125,jj [] FNf),(47,zf false [1] (Iu fun l v=>qz (decide (v∈l)))),(126,zf false [] (RO (fun l s=>Vz (yE s l)) fun l _=>l.length<=zx)),(127,zf true [1] (FTl (fun l=>.sl 1 (zJ (Ja l))) fun l=>l.length<=zx))]
theorem zeo:Gd SV:=zph mixed ⟨ud,je,Ya,Dy,trivial⟩
def Que(Y:Hp)(Z:Nat)(v w:O)(q:List za):Prop:=(w=.nil/\q=[])\/((∃ad,w=.v (.slice (some ad) 0 0))/\q=[])\/∃id off es,id<Z/\w=.own id off q.length/\Y id=some ⟨9,1,true,es⟩/\off+q.length=es.length/\es.drop off=zJ q/\∀m,v≠.own id 0 m
theorem Que.len{Y:Hp}{Z:Nat}{v w:O}{q:List za}(h:Que Y Z v w q):VK prog 88 w=some (int q.length):=by
 rcases h with⟨rfl,rfl⟩|⟨⟨ad,rfl⟩,rfl⟩|⟨id,off,es,_,rfl,_⟩
 ·simp
 ·simp
 ·simp
theorem zep(l:List qa)(a:za)(h:QZ l<=zx):(Ms (yE a l)).cond.cb<=zx:=by
 by_cases b:∃y∈l,y.name=a
 ·obtain⟨j,c,d,_⟩:=lj b;rw[d];have:=Yn (zj c);have f:l[j].cb=1+l[j].name.length+Kf l[j].ins+Kf l[j].outs+l[j].cond.cb:=rfl;show l[j].cond.cb<=zx;omega
 ·rw[aX fun y g e=>b ⟨y,g,e⟩];show sR.cond.cb<=zx;have:sR.cond.cb=1:=by simp[sR,Qb,qO.yC,qO.args,qO.attr,qO.pat,qO.name,lG,VG]
  rw[this];decide
theorem Hz{Y:Hp}{Z:Nat}{v:O}{l:List za}(c:wg Y Z 9 1 v (zJ l))(d:l.length<=zx):∃f,zf true [1] (FTl (fun l=>.sl 1 (zJ (Ja l))) fun l=>l.length<=zx) [v] Y Z=some (.sl 1 (zJ (Ja l)),f,Z):=by
 have hs:FTl (fun l=>.sl 1 (zJ (Ja l))) (fun l=>l.length<=zx) [.sl 1 (zJ l)]=some (.sl 1 (zJ (Ja l))):=zE (V:=fun l:List za=>[O.sl 1 (zJ l)]) (a:=l) (fun a b e=>by
  simp only[zh,zD]at e;injection e with _ e
  exact kn e) d
 rcases c with⟨rfl,g⟩|⟨id,hid,rfl,h⟩
 ·have hd:l=[]:=by simpa[zJ]using g
  subst hd;exact⟨Y,zU (Y1:=Y) rfl hs (.inr rfl)⟩
 ·refine⟨qR Y id none,?_⟩;have i:zv Y [.own id 0 (zJ l).length]=some ([.sl 1 (zJ l)],qR Y id none):=by
   simp[h]
   try rw[qq (by simp)]
  unfold zf;rw[i];have j:yP [1] [O.sl 1 (zJ l)]=[O.sl 1 (zJ l)]:=rfl;simp only[j,hs];simp[O.flat,O.noOwn]
theorem Se{Y:Hp}{Z e s id:Nat}{v:O}{xs:List zb}(h:wg Y Z e s v xs)(a:∀m,v≠.own id 0 m):wg (qR Y id none) Z e s v xs:=by
 rcases h with⟨rfl,rfl⟩|⟨i,hi,rfl,b⟩
 ·exact .inl ⟨rfl,rfl⟩
 ·exact .inr ⟨i,hi,rfl,by rw[zt _ _ _ _ (by rintro rfl;exact a _ rfl)];exact b⟩
theorem Oo{Y:Hp}{Z e s id m:Nat}{v:O}{xs:List zb}(h:wg Y Z e s v xs)(a:Z<=id):v≠.own id 0 m:=by
 rcases h with⟨rfl,rfl⟩|⟨i,hi,rfl,b⟩
 ·simp
 ·intro e;injection e with e;omega
theorem zeq{q c:List za}{es b:List zb}{off a:Nat}(d:off+q.length=es.length)(hd:es.drop off=zJ q)(h:b=es++zJ c/\a=off\/b=es.drop off++zJ c/\a=0):a+(q++c).length=b.length/\b.drop a=zJ (q++c):=by
 rcases h with⟨rfl,rfl⟩|⟨rfl,rfl⟩
 ·exact⟨by simp[wF];omega,by rw[List.drop_append_of_le_length (by omega),hd];simp[zJ]⟩
 ·rw[hd];exact⟨by simp[wF],by simp[zJ]⟩
def RchI(l:List qa)(a:List za)(n:Nat)(st:St):Prop:=st.U 0=.sl 10 (l.map qa.V)/\∃out q,wg st.Y st.Z 9 1 (st.U 5) (zJ out)/\Que st.Y st.Z (st.U 5) (st.U 6) q/\Io (xo l) a out q/\q.length+qm out l=n/\out.length+n<=zx
noncomputable def FRch:zb->Option O:=z6 (α:=List qa×qO) (fun a=>[.sl 10 (a.1.map qa.V),.agg a.2.V]) (fun a=>QZ a.1+a.2.cb<=zx) fun a=>.sl 1 (zJ (ed a.1 a.2.names))
theorem Sf(l:List qa)(c:qO)(Y:Hp)(Z:Nat)(h:QZ l+c.cb<=zx):zf false [] FRch [.sl 10 (l.map qa.V),.agg c.V] Y Z=some (.sl 1 (zJ (ed l c.names)),Y,Z):=
 hPc (l,c) _ _ (by simp[qY]) (fun a b e=>by obtain⟨d,f⟩:=a;obtain⟨g,i⟩:=b;simp only[zh,zD,O.agg.injEq]at e;rw[kH e.1,vQ e.2]) h (.inr (by simp[qY,O.noOwn]))
theorem zbp{es:List zb}{off:Nat}{a:za}{q:List za}(h:es.drop off=zJ (a::q)):es[off]?=some [str a]/\es.drop (off+1)=zJ q:=by
 have b:(es.drop off)[0]?=some [str a]:=by rw[h];rfl
 rw[wc,Wt]at b;refine⟨b,?_⟩;rw[<-gB,h];rfl
theorem MO(l:List qa)(c:qO)(hlc:QZ l+c.cb<=zx){code:Code}(hb:f74.body=some code):Wp True SV f74.ntmps code ⟨vn [.sl 10 (l.map qa.V),.agg c.V],fun _=>none,0⟩ (VS SV.P f74 (al (.sl 1 (zJ (ed l c.names))))):=by
 have hlim:zx=2097152:=rfl;have i:=zeo;have hll:=Wk l;have hcn:=kS _ c (zl _);have N:=zbj [] l;have k0:=fun Y Z=>Hu c Y Z (by omega)
 injection hb with hb;subst hb;refine Wp.seq (Wp.of i (by kernel_rfl) ?_);simp[qY];refine Wp.seq (Wp.of i (by kernel_rfl) ?_);simp;refine Wp.cut i (fun U Y Z=>RchI l c.names (c.names.length+qm [] l) ⟨U,Y,Z⟩) (by kernel_rfl) ?_ ?_
 ·simp only[qY]at k0;by_cases hn0:c.names=[]
  ·simp[k0,hn0];exact⟨by simp,[],[],by simp;exact .inl ⟨rfl,rfl⟩,.inl ⟨by simp,rfl⟩,.begin _ _,by simp,by simp;omega⟩
  ·simp[k0,hn0];exact⟨by simp,[],c.names,by simp;exact .inl ⟨rfl,rfl⟩,.inr (.inr ⟨1,0,zJ c.names,by simp,by simp,by simp,by simp[zJ],by simp,by simp⟩),.begin _ _,by simp,by simp;omega⟩
 rintro U Y Z hI;refine Wp.seq (Wp.block (Wp.loop (RchI l c.names) _ hI ?_));clear hI U Y Z;rintro n ⟨U,Y,Z⟩ ⟨h0,out,q,B,hQ,hB,hn,hbd⟩;simp only at h0 B hQ;cases q with
 |nil=>have hlen:=hQ.len;refine Wp.seq (Wp.of i (by kernel_rfl) ?_);simp[hlen];obtain⟨f,e1⟩:=Hz B (by omega);have hv:Ja out=ed l c.names:=Dv hB;refine Wp.of i (by kernel_rfl) ?_;simp[e1,hv,al,f74];exact zW _
 |cons a q=>
  obtain⟨id,off,es,hid,h6,C,D,Ng,o⟩:=(hQ.resolve_left (by rintro⟨_,e⟩;cases e)).resolve_left (by rintro⟨_,e⟩;cases e);obtain⟨hga,E⟩:=zbp Ng;simp only[zV]at hn D h6;refine Wp.cut i (fun b f k=>b 0=U 0/\b 5=U 5/\b 6=U 6/\f=Y/\k=Z) (by kernel_rfl) (by simp[h6]) ?_;rintro d Y Z ⟨x,e5,z,rfl,rfl⟩;rw[h0]at x;rw[<-e5]at B o;rw[h6]at z;clear h0 h6 e5 hQ U;refine Wp.block ?_;refine Wp.cut i (fun b f k=>b 0=d 0/\b 5=d 5/\b 6=d 6/\b 7=str a/\f=Y/\k=Z) (by kernel_rfl) (by simp[z,C,hga,D]) ?_;rintro U Y Z ⟨A,Q,I,R,rfl,rfl⟩;rw[x]at A;rw[<-Q]at B o;rw[z]at I;clear x z Q d;refine Wp.seq (Wp.region ?_);show Jl True SV _ _ (List.range' 0 1++(1::(List.range' 2 1++[]))) _ _;refine Jl.XY i 0 1 (by decide) (by decide) ?_;simp[I];refine Jl.slice (n:=1) (e:=9) rfl (by decide) rfl un88 BH C rfl (by omega) ?_;rintro r hr;refine Jl.XY i 2 1 (by decide) (by decide) ?_;simp;refine Jl.nil ?_;simp only[Ev,NG];rw[Nat.add_sub_cancel]at hr;refine Wp.any (fun b f k=>b 0=U 0/\b 5=U 5/\b 6=r/\b 7=U 7/\f=Y/\k=Z) (by simp) ?_;rintro d Y Z ⟨x,e5,z,K,rfl,rfl⟩;rw[A]at x;rw[<-e5]at B o;rw[R]at K;clear A I R e5 U;have p:off+1+q.length=es.length:=by omega
  generalize off+1=L at hr E p;clear D Ng hga off;have N:r=.own id L q.length\/q=[]/\∃ad,r=.v (.slice (some ad) 0 0):=hr.imp (fun h=>h) fun⟨h1,h2⟩=>⟨Ze (by omega),h2⟩
  clear hr;have F:=CD (fun l v=>qz (decide (v∈l))) (v:=a) B (by omega) rfl;by_cases ha:a∈out
  ·rw[show decide (a∈out)=true from by simpa using ha]at F;refine Wp.seq (Wp.of i (by kernel_rfl) ?_);simp[K,F];refine⟨_,by omega,by simp[x],out,q,by simpa using B,?_,hB.skip ha,rfl,by omega⟩;rcases N with rfl|⟨rfl,ad,rfl⟩
   ·exact .inr (.inr ⟨id,L,es,by simpa using hid,by simp[z],by simpa using C,by omega,E,by simpa using o⟩)
   ·exact .inr (.inl ⟨⟨ad,by simp[z]⟩,rfl⟩)
  ·rw[show decide (a∈out)=false from by simpa using ha]at F;refine Wp.cut i (fun b f k=>b 0=d 0/\b 5=d 5/\b 6=d 6/\b 7=d 7/\f=Y/\k=Z) (by kernel_rfl) (by simp[K,F]) ?_;rintro U Y Z ⟨A,Q,I,R,rfl,rfl⟩;rw[x]at A;rw[<-Q]at B o;rw[z]at I;rw[K]at R;clear x z K Q F d;have er:=B.yL (P:=prog) (t:=88) (c:=[str a]) XZ BH D2 D3 rfl (by omega) (by simp[wF,maxLen];omega) (by simp[wF];omega);have hk:=yl B (qR Y Z (some ⟨9,1,true,[[str a]]⟩)) id o;have w:¬id=Z:=by omega
   have u:¬id=Z+1:=by omega
   have haf:=wg.after (Y:=Y) (Z:=Z) (e:=9) (s:=1) (v:=U 5) (xs:=zJ out) (c:=[str a]) (tmp:=some ⟨9,1,true,[[str a]]⟩);have haa:zJ out++[[str a]]=zJ (out++[a]):=by simp[zJ]
   refine Wp.cut i (fun b f k=>b 0=U 0/\b 6=U 6/\b 7=U 7/\Z<=k/\wg f k 9 1 (b 5) (zJ (out++[a]))/\f id=some ⟨9,1,true,es⟩/\∀m,b 5≠.own id 0 m) (by kernel_rfl) (by simp[R,zz,zS,zy,er,u,hk,w,C];rw[<-haa];exact⟨by simpa[wF]using haf,fun e=>u e.symm⟩) ?_
   clear er hk w u haf;rintro d Y1 g ⟨x,z,K,hn1,hO1,hes1,M⟩;have hid1:id<g:=by omega
   rw[A]at x;rw[I]at z;rw[R]at K;clear C hn1 B o hid A I R U Y Z;have hsg:=fun Y Z=>ln (fun l s=>Vz (yE s l)) (fun l _=>l.length<=zx) l a Y Z (by omega)
   obtain⟨s,hs⟩:=exI (Ms (yE a l));have hsc:s.cond.cb<=zx:=by rw[<-hs];exact zep l a (by omega)
   have hnx:s.cond.names=xo l a:=by rw[<-hs];exact zen l a
   have D6:Vz (yE a l)=.wY [.agg s.V,qz (yE a l).isSome]:=by rw[<-hs];rfl
   simp only[D6]at hsg;have w:¬id=g:=by omega
   refine Wp.cut i (fun b f k=>b 0=d 0/\b 5=d 5/\b 6=d 6/\b 8=.ref g 0 0/\f=qR Y1 g (some ⟨95,10,false,[s.V]⟩)/\k=g+1) (by kernel_rfl) (by simp[x,K,hsg,jc]) ?_
   rintro U Y Z ⟨A,Q,I,f8,rfl,rfl⟩;rw[x]at A;rw[z]at I;rw[<-Q]at hO1 M;have S:id<g+1:=by omega
   have hO2:=hO1.more (some ⟨95,10,false,[s.V]⟩);have hes2:qR Y1 g (some (⟨95,10,false,[s.V]⟩:kV)) id=some ⟨9,1,true,es⟩:=by rw[zt _ _ _ _ w];exact hes1
   have J:=hB.take ha;have hpu:=nV ha l;rw[<-hnx]at J hpu;have T:out.length+1+((q++s.cond.names).length+qm (out++[a]) l)<=zx:=by simp;omega
   have hm:(q++s.cond.names).length+qm (out++[a]) l<n:=by simp;omega
   have hcl:∀Y Z,∃y f k,jj [] FNf [.agg s.cond.V] Y Z=some (y,f,k)/\AM.view f 1 y=some (zJ s.cond.names)/\Z<=k/\(∀j,j<Z->f j=Y j)/\(∀e s v xs,wg Y Z e s v xs->wg f k e s v xs):=fun Y Z=>by
    have h1:=Hu s.cond Y Z hsc;by_cases G:s.cond.names=[]
    ·rw[zd G]at h1;exact⟨_,_,_,h1,by simp[AM.view,G,zJ],zl _,fun _ _=>rfl,fun _ _ _ _ h=>h⟩
    ·rw[ze G]at h1;exact⟨_,_,_,h1,by simp[AM.view,wF],by omega,fun j hj=>zt _ _ _ _ (by omega),fun _ _ _ _ h=>h.more _⟩
   obtain⟨y,Y2,OD,hc1,hc2,hc3,hc4,hc5⟩:=hcl (qR Y1 g (some ⟨95,10,false,[s.V]⟩)) (g+1);have H:=hc5 _ _ _ _ hO2;have hes3:Y2 id=some ⟨9,1,true,es⟩:=by rw[hc4 id S];exact hes2
   have hid3:id<OD:=by omega
   simp only[qY,jc]at hc1;refine Wp.region ?_;show Jl True SV _ _ (List.range' 0 4++(4::(List.range' 5 1++[]))) _ _;refine Jl.XY i 0 4 (by decide) (by decide) ?_;simp[I,f8,jc,qY,hc1];have hnl:=kS _ s.cond (zl _);have W:q.length+(zJ s.cond.names).length<=maxLen:=by simp[wF,maxLen];omega
   have X:(q.length+(zJ s.cond.names).length)*16<=140737488355328:=by simp[wF];omega
   rcases N with rfl|⟨rfl,ad,rfl⟩
   ·refine Jl.append (e:=9) (n:=1) (by_:=16) (ys:=zJ s.cond.names) (v:=y) rfl (by decide) (by simp) (by simp) hc2 XZ BH D2 D3 (by omega) rfl hes3 rfl rfl p W X ?_;intro es' off' hew;obtain⟨hl',hd'⟩:=zeq p E hew;refine Jl.XY (l2:=[]) i 5 1 (by decide) (by decide) ?_;simp;refine Jl.nil ?_;refine⟨_,hm,by simp[A],out++[a],q++s.cond.names,?_,.inr (.inr ⟨OD,off',es',by simp,by simp[wF],by simp,hl',hd',?_⟩),J,rfl,by simp;simp at T;omega⟩
    ·simpa using(Se H M).more _
    ·intro m;simpa using Oo H (zl _)
   ·simp only[ku,wJ]at W X;refine Jl.ze1 (ad:=ad) (e:=9) (n:=1) (by_:=16) (ys:=zJ s.cond.names) (v:=y) rfl (by decide) (by simp) (by simp) hc2 XZ BH D2 D3 (by omega) rfl W X ?_;rintro r f k (⟨hy0,rfl,rfl,rfl⟩|⟨rfl,rfl,rfl⟩)
    ·have G:s.cond.names=[]:=by simpa[zJ]using hy0
     refine Jl.XY (l2:=[]) i 5 1 (by decide) (by decide) ?_;simp;refine Jl.nil ?_;refine⟨_,hm,by simp[A],out++[a],[]++s.cond.names,by simpa using H,.inr (.inl ⟨⟨ad,by simp⟩,by simp[G]⟩),J,rfl,by simp;simp at T;omega⟩
    ·refine Jl.XY (l2:=[]) i 5 1 (by decide) (by decide) ?_;simp;refine Jl.nil ?_;refine⟨_,hm,by simp[A],out++[a],[]++s.cond.names,?_,.inr (.inr ⟨OD,0,zJ s.cond.names,by simp,by simp[wF],by simp,by simp[wF],by simp,?_⟩),J,rfl,by simp;simp at T;omega⟩
     ·simpa using H.more _
     ·intro m;simpa using Oo H (zl _)
theorem ue:zg prog 74 (zf false [] FRch):=
 eN (C:=SV) (pf:=fun g=>([]:List Nat).contains g) (fn:=f74) (code:=_) ⟨func74,by kernel_rfl,rfl,by kernel_rfl⟩ false [] _ fun args r h=>by obtain⟨⟨l,c⟩,rfl,a,rfl⟩:=zp h;exact⟨by simp[f74],MO l c a rfl⟩
theorem Dz(l:List qa)(start:List za):∀(n:Nat) (out b:List za),Io (xo l) start out b->b.length+qm out l<=n->∃c,Io (xo l) start c []/\c.length<=out.length+n
 |_,out,[],h,_=>⟨out,h,by omega⟩
 | 0,_,_::_,_,h=>by simp at h
 |n+1,out,a::q,h,g=>by
  simp only[zV]at g;by_cases d:a∈out
  ·obtain⟨o,e,f⟩:=Dz l start n out q (h.skip d) (by omega);exact⟨o,e,by omega⟩
  ·have:=nV d l;obtain⟨o,e,f⟩:=Dz l start n _ _ (h.take d) (by rw[qt];omega);exact⟨o,e,by simp at f;omega⟩
theorem zer(l:List qa)(c:qO)(h:QZ l+c.cb<=zx):(ed l c.names).length<=zx:=by
 have d:=zbj [] l;have e:=kS _ c (zl _);obtain⟨o,a,b⟩:=Dz l c.names _ [] c.names (.begin _ _) (zl _);have Y:=zny o fun x y=>decide (x<=y)
 rw[<-Dv a,KY (Y.nodup_iff.2 a.nodup),Y.length_eq];simp at b;omega
noncomputable def Jb:za->List qa->Int
 |_,[]=>0
 |q,s::l=>if WG s q=0 then Jb s.name l else WG s q
noncomputable def Yb (l:List qa):Int:=if(100:Int)<l.length then 2 else if Jb [] l=0 then(if(l.all fun s=>gI l s.cond.names)=true then(if(l.any fun s=>decide (s.name∈ed l s.cond.names))=true then 12 else 0)else 9)else Jb [] l
theorem HA{l:List qa}{k:Nat}(h:k<l.length)(q:za):Jb q (l.drop k)=if WG l[k] q=0 then Jb l[k].name (l.drop (k+1))else WG l[k] q:=by rw[zc h];rfl
theorem HB:∀(l:List qa) (p:Option za) (q:za),(p=none/\q=[]\/p=some q)->Jb q l=Jf p l
 |[],p,q,_=>rfl
 |s::l,p,q,h=>by
  have j:=HB l (some s.name) s.name (.inr rfl);have k:Jb q (s::l)=if WG s q=0 then Jb s.name l else WG s q:=rfl
  rw[k];by_cases d:wb s.name=true
  case neg=>
   have f:WG s q=5:=by unfold WG;rw[ze d]
   simp only[Jf,ze d];rw[f,ze (by decide)]
  case pos=>
   have m:K3 s.name q=vf p s.name:=by
    rcases h with⟨rfl,rfl⟩|rfl
    ·simp only[vf];have i:s.name≠[]:=by rintro e;rw[e]at d;exact absurd d (by decide)
     cases n:s.name with
     |nil=>exact absurd n i
     |cons a b=>simp[K3,Op.bytesLess]
    ·rfl
   have f:WG s q=if vf p s.name=true then 8 else Zk s:=by unfold WG;rw[zd d,m]
   simp only[Jf,zd d];by_cases c:vf p s.name=true
   case pos=>rw[zd c]at f;rw[f,ze (by decide),zd c]
   case neg=>
    rw[ze c]at f;rw[f,ze c];by_cases g:Zk s=0
    ·rw[zd g,zd g];exact j
    ·rw[ze g,ze g]
theorem Sg(l:List qa):Yb l=jA l:=by
 unfold Yb jA;rw[HB l none [] (.inl ⟨rfl,rfl⟩)];by_cases h:(100:Int)<l.length
 ·rw[zd h,zd h]
 rw[ze h,ze h];by_cases c:Jf none l=0
 case neg=>rw[ze c,ze c]
 rw[zd c,zd c];have j:=(ri l none c).1.1;have p:∀n,(yE n l).isSome=vD l n:=fun n=>by
  rcases Xw j n with⟨a,r,b,_⟩|⟨a,b⟩
  ·rw[a,b];rfl
  ·rw[a,b];rfl
 have d:(l.all fun s=>gI l s.cond.names)=l.all fun s=>Y6 l s.cond:=by congr 1;funext s;unfold gI Y6;congr 1;funext n;exact p n
 rw[d];by_cases f:(l.all fun s=>Y6 l s.cond)=true
 case neg=>rw[ze f,ze f]
 rw[zd f,zd f];have g:∀s∈l,∀n∈s.cond.names,vD l n=true:=fun s hs n q=>ql.1 (ql.1 f s hs) n q
 have k:=RN j g;have m:=FF (l:=l) (by omega) g;have o:(l.any fun s=>decide (s.name∈ed l s.cond.names))=true↔∃s∈l,gE (xo l) s.cond.names s.name:=by simp only[vy,zP];exact⟨fun⟨s,a,b⟩=>⟨s,a,(On _ _ _).1 b⟩,fun⟨s,a,b⟩=>⟨s,a,(On _ _ _).2 b⟩⟩
 by_cases i:rj l=true
 ·rw[zd i,zd (o.2 (k.2 (m.1 i)))]
 ·rw[ze i,ze fun e=>i (m.2 (k.1 (o.1 e)))]
theorem zes(out:List qa->List qO->O)(l:List qa)(c:qO)(Y:Hp)(Z:Nat)(a:l.length<=zx)(b:c.cb<=zx)(d:(out l [c]).flat=true):zf false [] (FSC out) [.sl 10 (l.map qa.V),.own Z 0 1] (qR Y Z (some ⟨70,7,true,[c.V]⟩)) (Z+1)=some (out l [c],qR Y Z (some ⟨70,7,true,[c.V]⟩),Z+1):=
 zU (Y1:=qR (qR Y Z (some ⟨70,7,true,[c.V]⟩)) Z none) (show zv (qR Y Z (some ⟨70,7,true,[c.V]⟩)) [.sl 10 (l.map qa.V),.own Z 0 1]=some ([.sl 10 (l.map qa.V),.sl 7 ([c].map qO.V)],_) by simp) (zbe out l [c] ⟨a,by simpa[lG]using b⟩) (.inl d)
noncomputable abbrev Crcs:Ctx:=zQ prog [(72,zf false [] (FSgB fun s q=>int (WG s q))),(73,zf false [] (FSC fun l cs=>int (dZ l cs))),(74,zf false [] FRch),(47,zf false [1] (Iu fun l v=>qz (decide (v∈l))))]
theorem zet:AM.Good Crcs (fun g=>[74,47].contains g):=zw mixed ⟨cd,by simp,KC,by simp,ue,fun _=>zu _ _,je,fun _=>zu _ _,trivial⟩
theorem Si:Q9 Crcs (fun g=>[74,47].contains g) 35 f35:=zpi func35
theorem cj(l:List qa)(h:2*QZ l<=zx):zr Crcs f35 [.sl 10 (l.map qa.V)]=some (int (Yb l)):=by
 have G:=Wk l;have H:zx=2097152:=rfl;refine zm rfl ?_;by_cases i:(100:Int)<l.length
 ·have e:Yb l=2:=by unfold Yb;rw[zd i]
  simp[i,e,f35]
 refine km (fun U Y Z=>U 0=.sl 10 (l.map qa.V)) (by simp) ?_;rintro U Y Z a;refine km (fun U Y Z=>U 0=.sl 10 (l.map qa.V)) (by simp[a,i]) ?_;clear a U Y Z;rintro U Y Z a;refine km (fun U Y Z=>U 0=.sl 10 (l.map qa.V)/\U 3=str []) (by simp[a]) ?_;clear a U Y Z;rintro U Y Z ⟨a,z⟩;refine km (fun U Y Z=>U 0=.sl 10 (l.map qa.V)/\Jb [] l=0) ?_ ?_
 ·simp[a];refine zI (fun k U Y Z=>U 0=.sl 10 (l.map qa.V)/\U 15=.sl 10 (l.map qa.V)/\U 16=int l.length/\U 17=int k/\∃q,U 3=str q/\Jb [] l=Jb q (l.drop k)) l.length ⟨by simp[a],by simp,by simp,by simp,[],by simp[z],by simp⟩ ?_;clear a z U Y Z;rintro k U Y Z I ⟨a,j,m,n,q,z,c⟩;by_cases b:k<l.length
  ·have A:=zlL k;obtain⟨s,hs⟩:=exI (l[k]);have B:=Yn (zj b);rw[hs]at B;have o:=fun Y Z=>RX (fun s q=>int (WG s q)) s q Y Z (by omega) rfl
   simp only[jc,qY]at o;rw[HA b,hs]at c;by_cases C:WG s q=0
   ·rw[zd C]at c;simp[a,z,j,m,n,b,hs,o,C,A,jc,qY];exact⟨by omega,c⟩
   ·rw[ze C]at c;have D:=nzT C;have e:Yb l=WG s q:=by unfold Yb;rw[ze i,c,ze C]
    simp[a,z,j,m,n,b,hs,o,D,e,jc,qY,f35]
  ·obtain rfl:k=l.length:=by omega
   rw[zo]at c;have c:Jb [] l=0:=by rw[c];rfl
   simp[a,j,m,n,c]
 clear a z U Y Z;rintro U Y Z ⟨a,E⟩;refine km (fun U Y Z=>U 0=.sl 10 (l.map qa.V)/\(l.all fun s=>gI l s.cond.names)=true) ?_ ?_
 ·simp[a];refine zI (fun k U Y Z=>U 0=.sl 10 (l.map qa.V)/\U 30=.sl 10 (l.map qa.V)/\U 31=int l.length/\U 32=int k/\(l.all fun s=>gI l s.cond.names)=(l.drop k).all fun s=>gI l s.cond.names) l.length ⟨by simp[a],by simp,by simp,by simp,by simp⟩ ?_;clear a U Y Z;rintro k U Y Z I ⟨a,p,r,t,c⟩;by_cases b:k<l.length
  ·have A:=zlL k;obtain⟨s,hs⟩:=exI (l[k]);have B:=Yn (zj b);rw[hs]at B;have F:s.cb=1+s.name.length+Kf s.ins+Kf s.outs+s.cond.cb:=rfl;have J:dZ l [s.cond]=if gI l s.cond.names=true then 0 else 9:=by simp[dZ]
   rw[zc b,hs,q8]at c;have d:=fun Y Z=>zes (fun l cs=>int (dZ l cs)) l s.cond Y Z (by omega) (by omega) rfl
   cases f:gI l s.cond.names
   ·rw[f,kT]at c;have e:Yb l=9:=by unfold Yb;rw[ze i,zd E,c,ze (by simp)]
    rw[J,f]at d;simp only[qY]at d;simp[a,p,r,t,b,hs,zz,zS,zy,d,e,jc,qY,f35]
   ·rw[f,jb]at c;rw[J,f]at d;simp only[qY]at d;simp[a,p,r,t,b,hs,zz,zS,zy,d,A,jc,qY];exact⟨by omega,c⟩
  ·obtain rfl:k=l.length:=by omega
   rw[zo]at c;simp only[JA]at c;simp[a,p,r,t];exact ql.1 c
 clear a U Y Z;rintro U Y Z ⟨a,K⟩;simp[a];refine zI (fun k U Y Z=>U 0=.sl 10 (l.map qa.V)/\U 45=.sl 10 (l.map qa.V)/\U 46=int l.length/\U 47=int k/\(l.any fun s=>decide (s.name∈ed l s.cond.names))=(l.drop k).any fun s=>decide (s.name∈ed l s.cond.names)) l.length ⟨by simp[a],by simp,by simp,by simp,by simp⟩ ?_;clear a U Y Z;rintro k U Y Z I ⟨a,u,w,x,c⟩;by_cases b:k<l.length
 ·have A:=zlL k;obtain⟨s,hs⟩:=exI (l[k]);have B:=Yn (zj b);rw[hs]at B;have F:s.cb=1+s.name.length+Kf s.ins+Kf s.outs+s.cond.cb:=rfl;have y:=fun Y Z=>Sf l s.cond Y Z (by omega)
  have g:=fun Y Z=>Wn (fun l v=>qz (decide (v∈l))) (ed l s.cond.names) s.name Y Z (zer l s.cond (by omega))
  simp only[qY]at y;rw[gg b,hs]at c;cases f:decide (s.name∈ed l s.cond.names)
  ·rw[f,ye]at c;rw[f]at g;simp[a,u,w,x,b,hs,y,g,A,jc,qY];exact⟨by omega,c⟩
  ·rw[f,Wu]at c;rw[f]at g;have e:Yb l=12:=by unfold Yb;rw[ze i,zd E,zd K,zd c]
   simp[a,u,w,x,b,hs,y,g,e,jc,qY,f35]
 ·obtain rfl:k=l.length:=by omega
  rw[zo]at c;have e:Yb l=0:=by unfold Yb;rw[ze i,zd E,zd K,c,ze (by simp)]
  simp[a,u,w,x,e,f35]
theorem YO:zg prog 35 (zf false [] (z6 (α:=List qa) (fun l=>[.sl 10 (l.map qa.V)]) (fun l=>2*QZ l<=zx) fun l=>int (jA l))):=
 zX (fn:=f35) zet Si false [] _ fun args r h=>by obtain⟨l,rfl,a,rfl⟩:=zp h;exact⟨zG (zl 1) (by decide),_,cj l a,by rw[Sg];exact zW _⟩
noncomputable def FBoN:zb->Option O:=z6 (α:=List qa×Bk) (fun a=>[.sl 10 (a.1.map qa.V),.agg a.2.V,qz false]) (fun a=>a.1.length<=zx/\a.2.cb<=zx) (fun a=>int (kA (a.1.map qa.name) a.2))
theorem Sj(l:List qa)(b:Bk)(Y:Hp)(Z:Nat)(a:l.length<=zx)(h:b.cb<=zx):zf false [] FBoN [.sl 10 (l.map qa.V),.agg b.V,qz false] Y Z=some (int (kA (l.map qa.name) b),Y,Z):=
 hPc (l,b) _ _ (by simp[Bk.V]) (fun x y e=>by obtain⟨c,d⟩:=x;obtain⟨f,g⟩:=y;simp only[zh,zD,O.agg.injEq]at e;rw[kH e.1,W0 e.2]) ⟨a,h⟩ (.inl rfl)
noncomputable abbrev zfN:Ctx:=zQ prog [(75,zf false [] (FLys fun l=>int (wq [] [] l).1)),(76,zf false [] (FBu fun b=>int (yn b.zk [] (b.zk.map wL.qy) b.holds).1)),(77,zf false [] FExN),(49,zf false [] (FBS fun b s=>WC (jB s b.zk))),(78,zf false [] FClR)]
theorem zbq:Gd zfN:=zph mixed ⟨cP,fL,Ht,xJ,fM,trivial⟩
theorem HC(S:List qa)(b:Bk)(hS:S.length<=zx)(hb:b.cb<=zx):zr zfN f36 [.sl 10 (S.map qa.V),.agg b.V,qz false]=some (int (kA (S.map qa.name) b)):=by
 refine zm rfl ?_;have hL:=wa xw b.zk;have hH:=wa Wl b.holds;have hX:=wa aJ b.zZ;have S8:b.cb=yt wL.cb b.zk+yt vK.cb b.holds+yt Xp.cb b.zZ:=rfl;have K:=fun Y Z=>AF (fun l=>int (wq [] [] l).1) b.zk Y Z (by omega)
 by_cases a1:(20:Int)<b.zk.length
 ·have hv:kA (S.map qa.name) b=2:=by unfold kA;rw[zd (.inl a1)]
  simp[Bk.V,a1,hv,f36]
 by_cases a2:(10:Int)<b.holds.length
 ·have hv:kA (S.map qa.name) b=2:=by unfold kA;rw[zd (.inr (.inl a2))]
  simp[Bk.V,a1,a2,hv,f36]
 by_cases a3:(100:Int)<b.zZ.length
 ·have hv:kA (S.map qa.name) b=2:=by unfold kA;rw[zd (.inr (.inr a3))]
  simp[Bk.V,a1,a2,a3,hv,f36]
 have a:kA (S.map qa.name) b=if(wq [] [] b.zk).1=0 then
   (if(yn b.zk [] (wq [] [] b.zk).2 b.holds).1=0 then
    (if(WH (S.map qa.name) b.zk [] (yn b.zk [] (wq [] [] b.zk).2 b.holds).2 b.zZ).1=0 then(if Wm b.zk b.zZ 0 b.zZ=true then 13 else 0)
     else(WH (S.map qa.name) b.zk [] (yn b.zk [] (wq [] [] b.zk).2 b.holds).2 b.zZ).1)
    else(yn b.zk [] (wq [] [] b.zk).2 b.holds).1)
  else(wq [] [] b.zk).1:=by unfold kA;rw[ze (by omega)]
 by_cases c1:(wq [] [] b.zk).1=0
 case neg=>rw[ze c1]at a;have Nl:=nzT c1;simp[Bk.V,a1,a2,a3,K,Nl,a,f36]
 obtain⟨_,hu,SO⟩:=bK c1;rw[wC]at SO;rw[zd c1,SO]at a;rw[c1]at K;have hho:=fun Y Z=>Gh (fun b=>int (yn b.zk [] (b.zk.map wL.qy) b.holds).1) b Y Z hb hu
 have w:=hho;simp only[Bk.V]at w;by_cases c2:(yn b.zk [] (b.zk.map wL.qy) b.holds).1=0
 case neg=>rw[ze c2]at a;have c2':=nzT c2;simp[Bk.V,a1,a2,a3,K,w,c2',a,f36]
 have hsh:=CH c2;rw[zd c2]at a;rw[c2]at w;have hs0:(yn b.zk [] (b.zk.map wL.qy) b.holds).2=yJ b 0:=by rw[hsh];simp[yJ]
 rw[hs0]at a;have hex:=fun k hk Y Z=>Sc S b k Y Z hS hb hu hk
 simp only[Bk.V]at hex;simp[Bk.V,a1,a2,a3,K,w];refine zI (fun k U Y Z=>U 0=.sl 10 (S.map qa.V)/\U 2=qz false/\U 4=.ref 0 0 0/\U 45=.sl 13 (b.zZ.map Xp.V)/\U 46=int b.zZ.length/\U 47=int k/\1<=Z/\Y 0=some ⟨27,3,false,[b.V]⟩/\(WH (S.map qa.name) b.zk [] (yJ b 0) b.zZ).1=(WH (S.map qa.name) b.zk (vG b.zZ k) (yJ b k) (b.zZ.drop k)).1) b.zZ.length
  ⟨by simp,by simp,by simp,by simp,by simp,by simp,by simp,by simp[Bk.V],by simp[vG]⟩ ?_
 rintro k U Y Z hk ⟨h0,h2,v,L,M,N,B,I,Q⟩;have c:=I;simp only[Bk.V]at c;by_cases r:k<b.zZ.length
 ·have hw:=zlL k;have hexk:=hex k r;rw[MK r]at Q;by_cases R:gn (S.map qa.name) b k=0
  ·rw[zd R]at Q;simp[h0,h2,v,L,M,N,r,c,hexk,R,hw];exact⟨by omega,B,rfl,Q⟩
  ·rw[ze R]at Q;have hz':=nzT R;rw[Q,ze R]at a;simp[h0,h2,v,L,M,N,r,c,hexk,hz',a,f36]
 obtain rfl:k=b.zZ.length:=by omega
 rw[zo]at Q;simp only[WH]at Q;rw[Q,zd rfl]at a;have hok:=bJ (gm Q).1;have T:∀x∈b.zZ,x.um:=fun x hx=>⟨W6 (hok x hx).1,by have:=yv (f:=Xp.cb) hx;omega⟩
 have OI:=fun s Y Z=>Vr (fun b s=>WC (jB s b.zk)) b s Y Z hb
 simp only[Bk.V]at OI;simp[h0,h2,v,L,M,N,c];refine zI (fun i U Y Z=>U 4=.ref 0 0 0/\U 60=.sl 13 (b.zZ.map Xp.V)/\U 61=int b.zZ.length/\U 62=int i/\1<=Z/\Y 0=some ⟨27,3,false,[b.V]⟩/\Wm b.zk b.zZ 0 b.zZ=Wm b.zk b.zZ i (b.zZ.drop i)) b.zZ.length
  ⟨by simp[v],by simp,by simp,by simp,B,I,by simp⟩ ?_
 clear h0 h2 v L M N B I c hk r U Y Z;rintro i U Y Z hi ⟨v,e,m,n,B,I,o⟩;have c:=I;simp only[Bk.V]at c;by_cases r:i<b.zZ.length
 ·obtain⟨x,hx⟩:=exI (b.zZ[i]);have W:x∈b.zZ:=by rw[<-hx];exact zj r
  have hw:=zlL i;rw[zc r,hx,Wm,rZ (g:=GO x (W4 b.zk x.wE)) fun y J=>GP c1 hok W (vx J)]at o;obtain⟨f1,q,hq,f3,f2⟩:(Zy (b.zk.map wL.name) x.wE).2=true/\∃j,∃hj:j<b.zk.length,(Zy (b.zk.map wL.name) x.wE).1=j/\jB x.wE b.zk=some b.zk[j]:=by
   rcases bL hu x.wE with h|⟨h,_⟩
   ·exact h
   ·rw[(hok x W).2]at h;cases h
  obtain⟨z,R⟩:=exI (b.zk[q]);have hzr:=W5 c1 z (by rw[<-R];exact zj hq);have zcg:W4 b.zk x.wE=z.rest:=by unfold W4;rw[f3,zq hq,R]
  rw[R]at f2;rw[zcg]at o;have t:=fun Y Z=>OI x.wE Y Z
  simp only[f2,W7]at t;obtain⟨es,hes⟩:=exI (b.zZ.take i);have hesl:es.length=i:=by rw[<-hes];simp;omega
  have hesm:∀y∈es,y∈b.zZ:=fun y J=>vx (by rw[hes];exact J)
  have hsx:=fun Y=>slX Y b.zZ i (by omega)
  rw[hes]at o hsx;have n0:¬0=Z:=by omega
  obtain⟨P,hP⟩:=exI Z;simp[v,e,m,n,r,hx,qD,c,n0,hsx,hesl];rw[hP];refine zI (fun k U Y Z=>U 4=.ref 0 0 0/\U 60=.sl 13 (b.zZ.map Xp.V)/\U 61=int b.zZ.length/\U 62=int i/\U 12=.ref P 0 0/\U 70=.sl 13 (es.map Xp.V)/\U 71=int i/\U 72=int k/\P<Z/\Y 0=some ⟨27,3,false,[b.V]⟩/\Y P=some ⟨74,13,false,[x.V]⟩/\Wm b.zk b.zZ 0 b.zZ=((es.drop k).any (GO x z.rest)||Wm b.zk b.zZ (i+1) (b.zZ.drop (i+1)))) i
   ⟨by simp[v],by simp[e],by simp[m],by simp[n],by simp,by simp,by simp,by simp,(by show P<P+1;omega),by simp[show¬0=P by omega,I],by simp[qD],by simpa using o⟩ ?_
  clear v e m n I c o n0 hi hP B U Y Z;rintro k U Y Z hk ⟨v,e,m,n,C,D,E,F,SS,I,bP,o⟩;have n0:¬0=Z:=by omega
  have nP:¬P=Z:=by omega
  have X:¬P=Z+1:=by omega
  have c:=I;simp only[Bk.V]at c;have G:=bP;simp only[qD]at G;by_cases A:k<i
  ·have d:k<es.length:=by omega
   obtain⟨y,J⟩:=exI (es[k]);have hym:y∈b.zZ:=hesm y (by rw[<-J];exact zj d);have hwk:=zlL k;rw[zc d,wN,J]at o;have p:=fun Y Z=>bN y x z.rest Y Z ⟨T y hym,T x W,hzr⟩
   have u:=fun Y Z=>bN x y z.rest Y Z ⟨T x W,T y hym,hzr⟩
   simp only[qD]at p u;have hd:GO x z.rest y=(decide (y.wE=x.wE)&&(x0 y x z.rest||x0 x y z.rest)):=rfl;by_cases hl:y.wE=x.wE
   ·rw[y8 hl,jb]at hd;have H:(y.wE==x.wE)=true:=by simpa using hl
    cases k1:x0 y x z.rest
    ·rw[k1]at p hd;cases k2:x0 x y z.rest
     ·rw[k2]at u hd;rw[hd]at o;simp[v,e,m,n,C,D,E,F,A,d,J,qD,c,G,n0,nP,X,t,H,p,u,hwk];exact⟨by omega,by omega,rfl,by simpa using o⟩
     ·rw[k2]at u hd;rw[hd]at o;rw[o]at a;simp at a;simp[v,e,m,n,C,D,E,F,A,d,J,qD,c,G,n0,nP,X,t,H,p,u,a,f36]
    ·rw[k1]at p hd;rw[hd]at o;rw[o]at a;simp at a;simp[v,e,m,n,C,D,E,F,A,d,J,qD,c,G,n0,nP,X,t,H,p,a,f36]
   ·rw[jm hl,kT]at hd;have H:=eqF0 hl;rw[hd,ye]at o;simp[v,e,m,n,C,D,E,F,A,d,J,qD,c,G,n0,nP,X,t,H,hwk];exact⟨by omega,by omega,rfl,o⟩
  ·obtain rfl:k=i:=by omega
   rw[jH (by omega),List.any_nil,ye]at o;simp[v,e,m,n,C,D,E,F,hw];exact⟨by omega,by omega,I,o⟩
 ·obtain rfl:i=b.zZ.length:=by omega
  rw[zo]at o;simp only[Wm]at o;rw[o]at a;simp at a;simp[v,e,m,n,a,f36]
theorem DA:zg prog 36 (zf false [] FBoN):=
 pS1 zbq func36 false [] fun⟨l,b⟩ ⟨a,c⟩=>⟨by simp[f36],_,HC l b a c,zW _⟩
noncomputable def FSs3:zb->Option O:=z6 (α:=List qa) (fun l=>[.sl 10 (l.map qa.V)]) (fun l=>2*QZ l<=zx) fun l=>int (jA l)
theorem Sk(l:List qa)(Y:Hp)(Z:Nat)(h:2*QZ l<=zx):zf false [] FSs3 [.sl 10 (l.map qa.V)] Y Z=some (int (jA l),Y,Z):=
 hPc l _ _ (by simp) (fun a b e=>by simp only[zh,zD]at e;exact kH e) h (.inl rfl)
noncomputable def FLB2 (out:List qa->Bk->O):zb->Option O:=z6 (α:=List qa×Bk) (fun a=>[.sl 10 (a.1.map qa.V),.agg a.2.V]) (fun a=>2*QZ a.1<=zx/\a.2.cb<=zx) (fun a=>out a.1 a.2)
theorem Sl(out:List qa->Bk->O)(l:List qa)(b:Bk)(Y:Hp)(Z:Nat)(h:2*QZ l<=zx)(c:b.cb<=zx)(d:(out l b).flat=true):zf false [] (FLB2 out) [.sl 10 (l.map qa.V),.agg b.V] Y Z=some (out l b,Y,Z):=
 hPc (l,b) _ _ (by simp[Bk.V]) (fun a b e=>by obtain⟨f,g⟩:=a;obtain⟨i,j⟩:=b;simp only[zh,zD,O.agg.injEq]at e;rw[kH e.1,W0 e.2]) ⟨h,c⟩ (.inl d)
noncomputable abbrev Cq11:Ctx:=zQ prog [(35,zf false [] FSs3),(36,zf false [] FBoN)]
theorem HD(l:List qa)(b:Bk)(h:2*QZ l<=zx)(j:b.cb<=zx):zr Cq11 f13 [.sl 10 (l.map qa.V),.agg b.V]=some (int (QW l b)):=by
 have e:=Wk l;have f:zx=2097152:=rfl;refine zm rfl ?_;have g:=fun Y Z=>Sk l Y Z h
 have i:=fun Y Z=>Sj l b Y Z (by omega) j
 simp only[Bk.V]at i;by_cases a:jA l=0
 case neg=>
  have c:=nzT a;have d:QW l b=jA l:=by unfold QW;rw[ze a]
  simp[Bk.V,g,c,d,qS,f13]
 have d:QW l b=kA (l.map qa.name) b:=by unfold QW;rw[zd a]
 simp[Bk.V,g,a,i,d,qS,f13]
theorem DB:zg prog 13 (zf false [] (FLB2 fun l b=>int (QW l b))):=
 pS1 (C:=Cq11) (zph mixed ⟨YO,DA,trivial⟩) func13 false [] fun⟨l,b⟩ ⟨a,c⟩=>⟨by simp[f13],_,HD l b a c,zW _⟩
noncomputable abbrev zfO:Ctx:=zQ prog [(138,zf false [] (F3 jD)),(302,zf false [] (FS fun l=>!wX l))]
theorem zbr:AM.Good zfO (fun g=>[138].contains g):=zw mixed ⟨Zh,fun _=>zu _ _,fO,by simp,trivial⟩
theorem ee(v:wQ)(h:v.small):zr zfO f272 [.agg v.V]=some (int (yT v)):=by
 obtain⟨a,b,c,pre⟩:=v;obtain⟨w,n⟩:=h;simp only at w n;unfold zx at w;refine zm rfl ?_;cases m:jD a 0 999999
 ·simp[wQ.V,m,yT,f272]
 cases o:jD b 0 999999
 ·simp[wQ.V,m,o,yT,f272]
 cases p:jD c 0 999999
 ·simp[wQ.V,m,o,p,yT,f272]
 by_cases s:10<pre.length
 ·have f:(10:Int)<pre.length:=by omega
  simp[wQ.V,m,o,p,s,f,yT,f272]
 have f:¬(10:Int)<pre.length:=by omega
 have t:yT ⟨a,b,c,pre⟩=if pre.any wX then 3 else 0:=by simp[yT,m,o,p,s]
 rw[t];simp[wQ.V,m,o,p,s,f];refine zI (fun k U Y Z=>U 28=.sl 1 (zJ pre)/\U 29=int pre.length/\U 30=int k/\pre.any wX=(pre.drop k).any wX) pre.length ⟨by simp,by simp,by simp,by simp⟩ ?_;rintro k U Y Z z ⟨g,i,j,e⟩;by_cases d:k<pre.length
 ·have A:=zlL k;have y:=JU d;rw[zc d,wN]at e;have u:=n _ (zj d);have q:=fun Y Z=>kX (fun l=>!wX l) pre[k] Y Z u
  cases r:wX pre[k]
  ·rw[r]at q;simp[g,i,j,d,y,q,A];exact⟨d,by rw[e,r];rfl⟩
  ·rw[r]at q;have e:pre.any wX=true:=by rw[e,r];rfl
   simp[g,i,j,d,y,q,e,f272];exact vy.1 e
 ·obtain rfl:k=pre.length:=by omega
  have e:pre.any wX=false:=by rw[e,zo];rfl
  simp[g,i,j,e,f272];exact fun x B=>by simpa using List.any_eq_false.1 e x B
theorem Z6:zg prog 272 (qG [.g kJ] (NK fun v=>int (yT v))):=
 yc (fn:=f272) zbr (zpi func272) _ _ fun args r h=>by obtain⟨v,rfl,a,rfl⟩:=NL h;exact⟨zG (zl 1) (by decide),_,ee v a,qW.refl _⟩
theorem uf(c:Cut):zr C0 f311 [.agg c.V]=some (qz (Qi c)):=by
 obtain⟨⟨a,b,h,pre⟩,i⟩:=c;refine zm rfl ?_;unfold Qi;cases d:a==0
 ·simp[Cut.V,wQ.V,d,f311]
 cases e:b==0
 ·simp[Cut.V,wQ.V,d,e,f311]
 cases f:h==0
 ·simp[Cut.V,wQ.V,d,e,f,f311]
 cases g:(pre.length:Int)==0
 ·simp[Cut.V,wQ.V,d,e,f,g,f311]
 simp[Cut.V,wQ.V,d,e,f,g,f311]
theorem sw:zg prog 311 (zf false [] (FCu fun c=>qz (Qi c))):=
 pS1 yz func311 false [] fun c _=>⟨zG (zl 1) (by decide),_,uf c,zW _⟩
noncomputable abbrev zbs:Ctx:=zQ prog [(272,qG [.g kJ] (NK fun v=>int (yT v))),(311,zf false [] (FCu fun c=>qz (Qi c))),(312,qG [.g jP,.g jP] (Ce fun v w=>int (wz v w)))]
theorem zbt:AM.Good zbs (fun g=>[312].contains g):=zw mixed ⟨Z6,by simp,sw,by simp,x4,fun _=>y7 _ _,trivial⟩
theorem MP:Q9 zbs (fun g=>[312].contains g) 275 f275:=zpi func275
theorem lA(l:List qZ)(hl:zlM l):zr zbs f275 [.sl 11 (qb l)]=some (int (xQ l)):=by
 obtain⟨T,W⟩:=hl;unfold zx at T;have f:(qb l).length=l.length:=by simp[qb]
 have X:∀(k:Nat) (h:k<(qb l).length) (h':k<l.length),(qb l)[k]=l[k].V:=fun k h h'=>by simp[qb]
 refine zm rfl ?_;by_cases F:(100:Int)<l.length
 ·have r:xQ l=2:=by unfold xQ;rw[zd F]
  simp[f,F,r,f275]
 simp[f,F];refine zI (fun k U Y Z=>U 0=.sl 11 (qb l)/\U 10=.sl 11 (qb l)/\U 11=int l.length/\U 12=int k/\lq none l=lq (Ji l k) (l.drop k)) l.length ⟨by simp,by simp,by simp,by simp,by simp[Ji]⟩ ?_;rintro k U Y Z hk ⟨y,g,i,m,p⟩;by_cases b:k<l.length
 ·have hw:=zlL k;obtain⟨s,hs⟩:=exI (l[k]);have z:=W s (by rw[<-hs];exact zj b);have a:k<(qb l).length:=by omega
  have n:=X k a b;rw[hs]at n;have J:Ji l (k+1)=some s:=by simp[Ji,b,hs]
  have A:=fun Y Z=>J6 s.lo.v Y Z z.1
  have K:=fun Y Z=>J6 s.hi.v Y Z z.2
  have L:=fun Y Z=>G3 (fun c=>qz (Qi c)) s.hi Y Z z.2 rfl
  have M:=fun Y Z=>Qf s.hi s.lo Y Z z.2 z.1
  have G:=wK.le s.hi s.lo;simp only[wQ.V,Cut.V]at A K L M;rw[AZ b,hs]at p;by_cases w:yT s.lo.v=0
  case neg=>
   rw[ze w]at p;have d1':=nzT w;have r:xQ l=yT s.lo.v:=by unfold xQ;rw[ze F,p]
   simp[y,g,i,m,f,b,a,n,qZ.V,Cut.V,A,d1',r,f275]
  rw[zd w]at p;by_cases C:xT s=0
  case neg=>
   rw[ze C]at p;have r:xQ l=xT s:=by unfold xQ;rw[ze F,p]
   cases o:s.yR
   ·by_cases d:yT s.hi.v=0
    ·by_cases x:0<=wz s.lo s.hi
     ·have e3r:=G.2 x;have hf:xT s=8:=by unfold xT;rw[o,ze (by simp),zd d,zd x]
      simp[y,g,i,m,f,b,a,n,qZ.V,Cut.V,A,K,M,w,o,d,e3r,r,hf,f275]
     ·exact absurd (by unfold xT;rw[o,ze (by simp),zd d,ze x]) C
    ·have e2':=nzT d;have hf:xT s=yT s.hi.v:=by unfold xT;rw[o,ze (by simp),ze d]
     simp[y,g,i,m,f,b,a,n,qZ.V,Cut.V,A,K,w,o,e2',r,hf,f275]
   ·cases d:Qi s.hi
    ·have hf:xT s=3:=by unfold xT;rw[o,zd rfl,d,ze (by simp)]
     simp[y,g,i,m,f,b,a,n,qZ.V,Cut.V,A,L,w,o,d,r,hf,f275]
    ·exact absurd (by unfold xT;rw[o,zd rfl,d,zd rfl]) C
  rw[zd C]at p;have D:(s.yR=true/\Qi s.hi=true)\/(s.yR=false/\yT s.hi.v=0/\¬wz s.hi s.lo<=0):=by
   unfold xT at C;cases o:s.yR
   ·rw[o,ze (by simp)]at C;by_cases d:yT s.hi.v=0
    ·rw[zd d]at C;by_cases x:0<=wz s.lo s.hi
     ·rw[zd x]at C;omega
     ·exact .inr ⟨rfl,d,fun e=>x (G.1 e)⟩
    ·rw[ze d]at C;exact absurd C d
   ·rw[o,zd rfl]at C;cases d:Qi s.hi
    ·rw[d,ze (by simp)]at C;omega
    ·exact .inl ⟨rfl,rfl⟩
  by_cases k0:k=0
  ·subst k0;have w1:=zpg 1;simp only[Ji,Z4,qA,zF,qJ]at p;have H:lq none l=lq (Ji l 1) l.tail:=by rw[p,J];simp
   rcases D with⟨o,d⟩|⟨o,d,x⟩
   ·simp[y,g,i,m,f,b,a,n,qZ.V,Cut.V,A,L,w,o,d,w1];exact⟨by omega,H⟩
   ·simp[y,g,i,m,f,b,a,n,qZ.V,Cut.V,A,K,M,w,o,d,x,w1];exact⟨by omega,H⟩
  ·obtain⟨j,rfl⟩:∃j,k=j+1:=⟨k-1,by omega⟩;have E:j<l.length:=by omega
   have t:j<(qb l).length:=by omega
   obtain⟨q,hq⟩:=exI (l[j]);have hqq:=W q (by rw[<-hq];exact zj E);have u:=X j t E;rw[hq]at u;have N:i6.wrap ((j:Int)+1-1)=(j:Int):=by rw[zi (by omega) (by omega)];omega
   have B:=zpg (j:Int);have P:((j:Int)+1).toNat=j+1:=by omega
   have Q:0<(j:Int)+1:=by omega
   have R:0<=(j:Int)+1:=by omega
   have S:(j:Int)+1<l.length:=by omega
   have wk:=zpg ((j:Int)+1+1);have hpj:Ji l (j+1)=some q:=by simp[Ji,E,hq]
   have g5:=fun Y Z=>Qf q.hi s.lo Y Z hqq.2 z.1
   simp only[Cut.V]at g5;rw[hpj]at p;cases I:q.yR
   ·by_cases o2:0<=wz q.hi s.lo
    ·have ho:Z4 (some q) s=true:=by simp[Z4,o2]
     rw[ho,zd rfl]at p;have r:xQ l=8:=by unfold xQ;rw[ze F,p]
     rcases D with⟨o,d⟩|⟨o,d,x⟩
     ·simp[y,g,i,m,f,b,a,n,E,t,u,qZ.V,Cut.V,A,L,g5,w,o,d,I,o2,N,B,P,Q,R,S,r,f275]
     ·simp[y,g,i,m,f,b,a,n,E,t,u,qZ.V,Cut.V,A,K,M,g5,w,o,d,x,I,o2,N,B,P,Q,R,S,r,f275]
    ·have ho:Z4 (some q) s=false:=by simp[Z4,I];omega
     rw[ho,ze (by simp)]at p;rcases D with⟨o,d⟩|⟨o,d,x⟩
     ·simp[y,g,i,m,f,b,a,n,E,t,u,qZ.V,Cut.V,A,L,g5,w,o,d,I,o2,N,B,P,Q,R,S,wk];exact⟨by omega,by rw[p,J]⟩
     ·simp[y,g,i,m,f,b,a,n,E,t,u,qZ.V,Cut.V,A,K,M,g5,w,o,d,x,I,o2,N,B,P,Q,R,S,wk];exact⟨by omega,by rw[p,J]⟩
   ·have ho:Z4 (some q) s=true:=by simp[Z4,I]
    rw[ho,zd rfl]at p;have r:xQ l=8:=by unfold xQ;rw[ze F,p]
    rcases D with⟨o,d⟩|⟨o,d,x⟩
    ·simp[y,g,i,m,f,b,a,n,E,t,u,qZ.V,Cut.V,A,L,w,o,d,I,N,B,P,Q,R,S,r,f275]
    ·simp[y,g,i,m,f,b,a,n,E,t,u,qZ.V,Cut.V,A,K,M,w,o,d,x,I,N,B,P,Q,R,S,r,f275]
 ·obtain rfl:k=l.length:=by omega
  rw[zo]at p;have r:xQ l=0:=by unfold xQ;rw[ze F,p];rfl
  simp[y,g,i,m,r,f275]
theorem gq:zg prog 275 (zf false [] (FRs fun l=>int (xQ l))):=
 zX (fn:=f275) zbt MP false [] _ fun args r h=>by obtain⟨l,rfl,a,rfl⟩:=zp h;exact⟨zG (zl 1) (by decide),_,lA l a,zW _⟩
end Go.Q
namespace Go.Q
open Go.RowKit Go.AM Go.LikeLaw
def xK(n:Nat)(f:Nat->Bool):List zb:=(List.range n).map fun i=>[.v (.bool (f i))]
@[simp]theorem zeu(n:Nat)(f:Nat->Bool):(xK n f).length=n:=by simp[xK]
theorem bW{n:Nat}{f:Nat->Bool}{i:Nat}(h:i<n):(xK n f)[i]?=some [.v (.bool (f i))]:=by simp[xK,h]
@[simp]theorem zhx(n:Nat)(f:Nat->Bool)(i:Nat)(h:i<(xK n f).length):(xK n f)[i]=[.v (.bool (f i))]:=by simp[xK]
theorem A4{n:Nat}{f g:Nat->Bool}{i:Nat}{b:Bool}(d:b=g i)(h:∀j,j<n->j≠i->f j=g j):(xK n f).set i [.v (.bool b)]=xK n g:=by
 apply List.ext_getElem?;intro j;rw[List.getElem?_set];by_cases c:i=j
 ·subst c;by_cases a:i<n
  ·rw[zd rfl,zd (by simpa using a),bW a,d]
  ·have:(xK n g)[i]?=none:=by rw[wP];simp;omega
   simp[a,this]
 ·simp only[c,qJ];by_cases a:j<n
  ·rw[bW a,bW a,h j a (Ne.symm c)]
  ·rw[wP (by simp;omega),wP (by simp;omega)]
theorem mI{n:Nat}{f g:Nat->Bool}(h:∀j,j<n->f j=g j):xK n f=xK n g:=by unfold xK;apply Bb;intro j a;rw[h j (jo.1 a)]
theorem HE(n:Nat):List.replicate n [O.v (.bool false)]=xK n fun _=>false:=by unfold xK;rw[List.map_const'];simp
noncomputable def gJ (t p:za) (k i:Nat):Bool:=KB (t.take i) (p.take k)
theorem Jz{t p:za}{k i:Nat}:gJ t p k i=true↔Lk (t.take i) (p.take k):=by simp[gJ,KB]
theorem JM{l:za}{k:Nat}(h:k<l.length):l.take (k+1)=l.take k++[l[k]]:=zR h
theorem A5{t p:za}{k:Nat}(a:k<p.length)(hs:p[k]=42):gJ t p (k+1) 0=gJ t p k 0:=by rw[qc,Jz,Jz,JM a,hs];simp[tW]
theorem sx{t p:za}{k i:Nat}(a:k<p.length)(hi:i<t.length)(hs:p[k]=42):gJ t p (k+1) (i+1)=(gJ t p k (i+1)||gJ t p (k+1) i):=by rw[qc,qd,Jz,Jz,Jz,JM a,hs,JM hi,sa]
theorem zbu{t p:za}{k:Nat}(a:k<p.length)(hs:p[k]≠42):gJ t p (k+1) 0=false:=by rw[gA,ne_eq,Jz,JM a,kU];exact Dq hs
theorem DC{t p:za}{k i:Nat}(a:k<p.length)(hi:i<t.length)(hs:p[k]≠42):gJ t p (k+1) (i+1)=(gJ t p k i&&(decide (p[k]=63)||decide (p[k]=t[i]))):=by rw[qc,zH,Jz,Jz,JM a,JM hi,za8 hs];simp
theorem A6(t p:za)(i:Nat)(hi:i<t.length+1):gJ t p 0 i=decide (i=0):=by rw[qc,Jz];simp[Be];rintro rfl;simpa using hi
theorem DD(t p:za)(ht:t.length<=zx)(Y:p.length<=zx):zr C0 f218 [str t,str p]=some (.v (.bool (KB t p))):=by
 refine zm rfl ?_;unfold zx at *;have R:=zpg ((t.length:Int)+1);have m1:t.length+1<=maxLen:=by unfold maxLen;omega
 have hm:∀Y Z,ZA prog Y Z 285 (int ((t.length:Int)+1)) (int ((t.length:Int)+1))=some (.own Z 0 (t.length+1),qR Y Z (some ⟨4,1,true,xK (t.length+1) fun _=>false⟩),Z+1):=by
  intro Y Z;have e:((t.length:Int)+1).toNat=t.length+1:=by omega
  simp[ZA,e,HE];omega
 simp[R,hm];have S:(xK (t.length+1) fun _=>false).set 0 [O.v (.bool true)]=xK (t.length+1) (gJ t p 0):=A4 (by rw[A6 _ _ _ (by omega)];rfl) fun j T a=>by rw[A6 _ _ _ T];simp[a]
 rw[S];refine zI (fun k U Y Z=>U 0=str t/\U 1=str p/\U 16=int p.length/\U 17=int k/\∃id,id<Z/\U 5=.own id 0 (t.length+1)/\Y id=some ⟨4,1,true,xK (t.length+1) (gJ t p k)⟩) p.length
  ⟨by simp,by simp,by simp,by simp,0,by simp,by simp,by simp⟩ ?_
 rintro k U Y Z hk ⟨z,A,l,m,id,hid,B,s⟩;by_cases d:k<p.length
 ·simp[z,A,l,m,B,s,d,R,hm];refine zI (fun i U Y Z=>U 0=str t/\U 1=str p/\U 16=int p.length/\U 17=int k/\U 6=int k/\U 25=int ((t.length:Int)+1)/\U 26=int i/\∃id f,id<Z/\f<Z/\¬id=f/\¬f=id/\U 5=.own id 0 (t.length+1)/\Y id=some ⟨4,1,true,xK (t.length+1) (gJ t p k)⟩ /\
    U 7=.own f 0 (t.length+1)/\Y f=some ⟨4,1,true,xK (t.length+1) fun j=>decide (j<i)&&gJ t p (k+1) j⟩) (t.length+1)
   ⟨by simp[z],by simp[A],by simp[l],by simp[m],by simp,by simp,by simp,id,Z,by simp;omega,by simp,by omega,by omega,by simp[B],by simp[s,show¬id=Z by omega],by simp,by simp⟩ ?_
  have wk:=zlL k;clear z A l m B s hid id Z Y U;rintro i U Y Z hi ⟨z,A,l,m,J,u,w,id,f,hid,g,a,c,B,s,K,n⟩;have L:=zlL i;have wi1:0<i->i6.wrap ((i:Int)-1)=((i-1:Nat):Int):=fun _=>by rw[zi (by omega) (by omega)];omega
  by_cases hil:i<t.length+1
  ·have o:(i:Int)<(t.length:Int)+1:=by omega
   have r:∀b,b=gJ t p (k+1) i->(xK (t.length+1) fun j=>decide (j<i)&&gJ t p (k+1) j).set i [O.v (.bool b)]=xK (t.length+1) fun j=>decide (j<i+1)&&gJ t p (k+1) j:=fun b X=>A4 (by simp[X]) fun j T a=>by
    have:decide (j<i)=decide (j<i+1):=by rw[decide_eq_decide];omega
    rw[this]
   have w1:=zpg 1;by_cases hs:p[k]=42
   ·by_cases N:i=0
    ·subst N;cases y:gJ t p k 0
     ·have x:=r false (by rw[A5 d hs,y]);simp at x;simp[z,A,l,m,J,u,w,B,s,K,n,d,a,c,o,L,x,hs,y,w1];exact⟨id,hid,f,g,a,c,rfl,by simp[a,s],rfl,by simp⟩
     ·have x:=r true (by rw[A5 d hs,y]);simp at x;simp[z,A,l,m,J,u,w,B,s,K,n,d,a,c,o,L,x,hs,y,w1];exact⟨id,hid,f,g,a,c,rfl,by simp[a,s],rfl,by simp⟩
    ·obtain⟨j,rfl⟩:∃j,i=j+1:=⟨i-1,by omega⟩;have P:i6.wrap ((j:Int)+1-1)=(j:Int):=by rw[zi (by omega) (by omega)];omega
     have C:=zpg (j:Int);have Q:0<(j:Int)+1:=by omega
     have D:(j:Int)+1<(t.length:Int)+1:=by omega
     have q:j<t.length:=by omega
     have E:j+1<t.length+1:=by omega
     have F:j<t.length+1:=by omega
     have G:0<=(j:Int)+1:=by omega
     have H:((j:Int)+1).toNat=j+1:=by omega
     have I:=zpg ((j:Int)+1+1);cases y:gJ t p k (j+1)
     ·cases hd:gJ t p (k+1) j
      ·have x:=r false (by rw[sx d q hs,y,hd];rfl);simp[z,A,l,m,J,u,w,B,s,K,n,d,a,c,o,L,x,hs,y,Q,P,C,D,q,E,F,G,H,I,hd];exact⟨by omega,id,hid,f,g,a,c,rfl,by simp[a,s],rfl,by simp⟩
      ·have x:=r true (by rw[sx d q hs,y,hd];rfl);simp[z,A,l,m,J,u,w,B,s,K,n,d,a,c,o,L,x,hs,y,Q,P,C,D,q,E,F,G,H,I,hd];exact⟨by omega,id,hid,f,g,a,c,rfl,by simp[a,s],rfl,by simp⟩
     ·have x:=r true (by rw[sx d q hs,y];rfl);simp[z,A,l,m,J,u,w,B,s,K,n,d,a,c,o,L,x,hs,y,Q,P,C,D,q,E,F,G,H,I];exact⟨by omega,id,hid,f,g,a,c,rfl,by simp[a,s],rfl,by simp⟩
   ·have M:((p[k].toNat:Int)==42)=false:=by rw[show(42:Int)=((42:UInt8).toNat:Int)from rfl,oN];simpa using hs
    by_cases N:i=0
    ·subst N;have x:(xK (t.length+1) fun j=>decide (j<0)&&gJ t p (k+1) j)=xK (t.length+1) fun j=>decide (j=0)&&gJ t p (k+1) j:=mI fun j _=>by
      by_cases h:j=0
      ·subst h;simp[zbu d hs]
      ·simp[h]
     rw[x]at n;simp[z,A,l,m,J,u,w,B,s,K,n,d,a,c,o,L,M,w1];exact⟨id,hid,f,g,a,c,rfl,s,rfl,n⟩
    ·obtain⟨j,rfl⟩:∃j,i=j+1:=⟨i-1,by omega⟩;have P:i6.wrap ((j:Int)+1-1)=(j:Int):=by rw[zi (by omega) (by omega)];omega
     have C:=zpg (j:Int);have Q:0<(j:Int)+1:=by omega
     have D:(j:Int)+1<(t.length:Int)+1:=by omega
     have q:j<t.length:=by omega
     have E:j+1<t.length+1:=by omega
     have F:j<t.length+1:=by omega
     have G:0<=(j:Int)+1:=by omega
     have H:((j:Int)+1).toNat=j+1:=by omega
     have I:=zpg ((j:Int)+1+1);cases y:gJ t p k j
     ·have x:=r false (by rw[DC d q hs,y];rfl);simp[z,A,l,m,J,u,w,B,s,K,n,d,a,c,o,L,x,M,y,Q,P,C,D,q,E,F,G,H,I];exact⟨by omega,id,hid,f,g,a,c,rfl,by simp[a,s],rfl,by simp⟩
     ·by_cases W:p[k]=63
      ·have x:=r true (by rw[DC d q hs,y];simp[W]);simp[z,A,l,m,J,u,w,B,s,K,n,d,a,c,o,L,x,M,y,Q,P,C,D,q,E,F,G,H,I,W];exact⟨by omega,id,hid,f,g,a,c,rfl,by simp[a,s],rfl,by simp⟩
      ·have hqb:((p[k].toNat:Int)==63)=false:=by rw[show(63:Int)=((63:UInt8).toNat:Int)from rfl,oN];simpa using W
       have hcb:((p[k].toNat:Int)==(t[j].toNat:Int))=decide (p[k]=t[j]):=oN _ _;have x:=r (decide (p[k]=t[j])) (by rw[DC d q hs,y];simp[W]);simp[z,A,l,m,J,u,w,B,s,K,n,d,a,c,o,L,x,M,y,Q,P,C,D,q,E,F,G,H,I,hqb,hcb];exact⟨by omega,id,hid,f,g,a,c,rfl,by simp[a,s],rfl,by simp⟩
  ·obtain rfl:i=t.length+1:=by omega
   have hl2:¬((t.length:Int)+1<(t.length:Int)+1):=by omega
   have x:(xK (t.length+1) fun j=>decide (j<t.length+1)&&gJ t p (k+1) j)=xK (t.length+1) (gJ t p (k+1)):=mI fun j T=>by simp[T]
   rw[x]at n;simp[z,A,l,m,J,u,w,B,s,K,n,d,wk];exact⟨d,f,g,rfl,n⟩
 ·obtain rfl:k=p.length:=by omega
  have e:gJ t p p.length t.length=KB t p:=by simp[gJ]
  simp[z,A,l,m,B,s,bW,e,f218]
theorem HF:zg prog 218 (zf false [] (Zo R3 fun _ _=>True)):=
 zX (fn:=f218) yz (zpi func218) false [] _ fun args r h=>by obtain⟨a,b,rfl,c,d,_,rfl⟩:=kC h;exact⟨by simp[f218],_,DD a b c d,zW _⟩
end Go.Q
namespace Go.Q
theorem zhy(v:wQ)(s:qZ):vU s ⟨v,false⟩=inS v s:=by
 have d:decide (wz s.lo ⟨v,false⟩<=0)=dW v s.lo:=by
  unfold dW wz;simp only;have f:=DZ.flip s.lo.v v;have e:=DZ.eq s.lo.v v;by_cases h:xG s.lo.v v=0
  ·have b:=e.1 h;rw[zd h,b];cases s.lo.after<;>simp
  ·have b:¬xG v s.lo.v=0:=fun x=>h (e.2 x)
   have a:=eqF0 b;rw[ze h,a,kT,SL,decide_eq_decide];omega
 have a:decide (wz ⟨v,false⟩ s.hi<0)=!dW v s.hi:=by
  unfold dW wz;simp only;by_cases h:xG v s.hi.v=0
  ·rw[zd h,h];cases s.hi.after<;>simp
  ·have a:=eqF0 h;rw[ze h,a,kT,SL];by_cases c:xG v s.hi.v<0
   ·simp[c];omega
   ·simp[c];omega
 unfold vU inS;rw[d,a]
noncomputable abbrev Crin:Ctx:=zQ prog [(272,qG [.g kJ] (NK fun v=>int (yT v))),(275,zf false [] (FRs fun l=>int (xQ l))),(276,qG [.s 11 jQ,.g jP] (FRC fun l c=>qz (yH l c)))]
theorem zbv(v:wQ)(l:List qZ)(i:v.small)(j:zlM l):zr Crin f221 [.agg v.V,.sl 11 (qb l)]=some (cg v l):=by
 refine zm rfl ?_;have c:=fun Y Z=>J6 v Y Z i
 have k:=fun Y Z=>G8 (fun l=>int (xQ l)) l Y Z j rfl
 have e:=fun Y Z=>aD l ⟨v,false⟩ Y Z j i
 have f:yH l ⟨v,false⟩=l.any (inS v):=by unfold yH;congr 1;funext s;exact zhy v s
 rw[f]at e;simp only[wQ.V,Cut.V]at c e;by_cases a:yT v=0
 case neg=>
  have g:=nzT a;have b:dX v l=(false,yT v):=by unfold dX;rw[ze a]
  simp[wQ.V,c,g,cg,b,qS,f221]
 by_cases d:xQ l=0
 case neg=>
  have h:=nzT d;have b:dX v l=(false,xQ l):=by unfold dX;rw[zd a,ze d]
  simp[wQ.V,c,a,k,h,cg,b,qS,f221]
 have b:dX v l=(l.any (inS v),0):=by unfold dX;rw[zd a,zd d]
 simp[wQ.V,c,a,k,d,qe,qM,e,cg,b,qS,f221]
theorem Sm:zg prog 221 (zf false [] (FVR cg)):=
 pS1 (zph mixed ⟨Z6,gq,cS,trivial⟩:AM.Good Crin _) func221 false [] fun⟨v,l⟩ ⟨a,b⟩=>⟨by simp[f221],_,zbv v l a b,zW _⟩
theorem gr:∀(l:List za) (st q:Part×Bool) (i:Nat),yW st i l=some q->q.1.has<=st.1.has+l.length
 |[],st,q,i,h=>by simp only[yW]at h;injection h with h;subst h;simp
 |t::l,st,q,i,h=>by
  simp only[yW]at h;split at h
  ·rename_i s hs;have:=gr l s q (i+1) h;have a:s.1.has<=st.1.has+1:=by
    unfold jy at hs;split at hs
    ·injection hs with hs;subst hs;simp;omega
    ·split at hs
     ·injection hs with hs;subst hs;have:=(fR st.1 i ((kG t).getD 0)).1;simp only[this];omega
     ·cases hs
   simp only[zV];omega
  ·cases h
theorem zbw{st s:Part×Bool}{i:Nat}{t:za}(hs:jy st i t=some s):s.1.has<=st.1.has+1/\(kG t=none->s.1.has=st.1.has):=by
 unfold jy at hs;split at hs
 ·injection hs with hs;subst hs;exact⟨by simp;omega,fun _=>rfl⟩
 ·split at hs
  ·rename_i a;injection hs with hs;subst hs
   have:=(fR st.1 i ((kG t).getD 0)).1;exact⟨by simp only[this];omega,fun h=>by rw[h]at a;cases a.2⟩
  ·cases hs
theorem Oq:∀(l:List za) (st q:Part×Bool) (i:Nat),yW st i l=some q->(∃t∈l,kG t=none)->q.1.has<st.1.has+l.length
 |[],_,_,_,_,h=>by obtain⟨_,h,_⟩:=h;cases h
 |t::l,st,q,i,h,c=>by
  simp only[yW]at h;split at h
  ·rename_i s hs;obtain⟨e,d⟩:=zbw hs;simp only[zV];by_cases a:kG t=none
   ·have:=gr l s q (i+1) h;have:=d a;omega
   ·obtain⟨u,hu,b⟩:=c;rcases zA.1 hu with rfl|hu
    ·exact absurd b a
    ·have:=Oq l s q (i+1) h ⟨u,hu,b⟩;omega
  ·cases h
theorem MQ{d e f:za}{a b c:Int}(g:kG d=some a)(i:kG e=some b)(j:kG f=some c):yW (wy,false) 0 [d,e,f]=some (((wy.put 0 a).put 1 b).put 2 c,false):=by
 have k:¬yA d=true:=fun h=>by rw[Wo h]at g;cases g
 have l:¬yA e=true:=fun h=>by rw[Wo h]at i;cases i
 have m:¬yA f=true:=fun h=>by rw[Wo h]at j;cases j
 simp[yW,jy,k,l,m,g,i,j]
theorem zhz{s:za}(h:(qu (Lib.cut s [45]).1 [46]).length≠3):eU s=none:=by
 unfold eU;split
 ·rename_i a;rw[a]at h;exact absurd rfl h
 ·rfl
theorem Sn{s d e f:za}(h:qu (Lib.cut s [45]).1 [46]=[d,e,f]):eU s=match kG d,kG e,kG f with
  |some a,some b,some c=>if yT ⟨a,b,c,ko s⟩=0 then some ⟨a,b,c,ko s⟩else none
  |_,_,_=>none:=by
 unfold eU;rw[h];rfl
theorem HG{s:za}(h:(WE s).2.2=true/\(WE s).2.1=3):(qu (Lib.cut s [45]).1 [46]).length<=3/\∃st,yW (wy,false) 0 (qu (Lib.cut s [45]).1 [46])=some st/\st.1.has=3:=by
 unfold WE at h;split at h
 ·cases h.1
 ·rename_i b;refine⟨by omega,?_⟩;split at h
  ·cases h.1
  ·rename_i st a;split at h
   ·cases h.1
   ·refine⟨st,a,?_⟩;have:=h.2;simp only at this;omega
theorem zhA(s:za):eU s=if(WE s).2.2=true/\(WE s).2.1=3 then some (WE s).1 else none:=by
 by_cases r:(qu (Lib.cut s [45]).1 [46]).length=3
 case neg=>rw[zhz r,ze fun h=>?_];obtain⟨u,st,i,v⟩:=HG h;have:=gr _ _ _ _ i;have k:wy.has=0:=rfl;simp only[k]at this;omega
 obtain⟨j,l,t,m⟩:=Ug r;rw[Sn m];by_cases f:kG j=none\/kG l=none\/kG t=none
 ·rw[ze fun h=>?_]
  ·rcases f with e|e|e
   ·rw[e]
   ·rw[e];cases kG j<;>rfl
   ·rw[e];cases kG j<;>cases kG l<;>rfl
  ·obtain⟨u,st,i,v⟩:=HG h;rw[m]at i;have:=Oq _ _ _ _ i (by
    rcases f with e|e|e
    ·exact⟨j,by simp,e⟩
    ·exact⟨l,by simp,e⟩
    ·exact⟨t,by simp,e⟩)
   have k:wy.has=0:=rfl;simp only[k,zV,ku]at this;omega
 ·obtain⟨a,n⟩:=Option.ne_none_iff_exists'.1 fun e=>f (.inl e)
  obtain⟨b,o⟩:=Option.ne_none_iff_exists'.1 fun e=>f (.inr (.inl e))
  obtain⟨c,p⟩:=Option.ne_none_iff_exists'.1 fun e=>f (.inr (.inr e))
  have x:=QB n;have y:=QB o;have z:=QB p;have q:yT ⟨a,b,c,ko s⟩=if 10<(ko s).length then 2 else if(ko s).any wX then 3 else 0:=by unfold yT;rw[zd (by simp[jD];omega)]
  have w:WE s=if(ko s).any wX=true then(⟨a,b,c,ko s⟩,0,false)else(⟨a,b,c,ko s⟩,3,decide ((ko s).length<=10)):=by unfold WE;rw[m,ze (by simp),MQ n o p];simp[Part.put,wy]
  rw[n,o,p,w];simp only[q];by_cases d:(ko s).any wX=true
  ·rw[zd d,zd d,ze (show¬(if 10<(ko s).length then(2:Int)else 3)=0 by split<;>decide),ze (fun h=>by cases h.1)]
  ·rw[ze d,ze d];by_cases g:10<(ko s).length
   ·rw[zd g,ze (by decide),ze (by simp;omega)]
   ·rw[ze g,zd rfl,zd (by simp;omega)]
theorem zhB(s:za):(WE s).2.1<=3:=by
 unfold WE;split
 ·decide
 ·rename_i c;split
  ·decide
  ·rename_i st a;split
   ·exact(by decide:(0:Int)<=3)
   ·have:=gr _ _ _ _ a;have b:wy.has=0:=rfl;simp only[b]at this;simp only;omega
noncomputable abbrev zfP:Ctx:=zQ prog [(271,zf false [] (Kg D5)),(272,qG [.g kJ] (NK fun v=>int (yT v)))]
theorem gu(t:za)(l:t.length+1<=zx):∃j,zr zfP f219 [str t]=some j/\qW j (ic t):=by
 refine yZ (sh:=.g kJ) rfl ?_;have b:=fun Y Z=>kK D5 t Y Z l
 simp only[D5,wQ.V]at b;have a:=zhA t;have m:=zhB t;by_cases c:(WE t).2.2=true/\(WE t).2.1=3
 ·rw[zd c]at a;obtain⟨d,e⟩:=c;obtain⟨f,i⟩:=lv a;have k:=fun Y Z=>J6 (WE t).1 Y Z i
  simp only[wQ.V,f]at k;simp[b,d,e,k,ic,a,qC,wQ.V,f219]
 ·rw[ze c]at a;cases d:(WE t).2.2
  ·rw[d]at b;simp[b,qe,qM,ic,a,qC,XI,wQ.V,f219]
  ·have e:(WE t).2.1<3:=by
    have:¬(WE t).2.1=3:=fun h=>c ⟨d,h⟩
    omega
   rw[d]at b;simp[b,e,qe,qM,ic,a,qC,XI,wQ.V,f219]
theorem ef:zg prog 219 (zf false [] (Kg ic)):=
 xE (fn:=f219) (zph mixed ⟨QF,Z6,trivial⟩:AM.Good zfP _) (zpi func219) false [] _ fun args r h w S vs a=>by obtain⟨t,rfl,b,rfl⟩:=zp h;obtain⟨c,d,e⟩:=gu t b;exact⟨_,c,a,by simp[f219],d,e⟩
noncomputable abbrev Cttx:Ctx:=zQ prog [(159,zf false [] (Zo TZ fun _ _=>True)),(160,zf false [] (Zo hsP fun _ _=>True)),(161,zf false [] (Zo EF fun _ _=>True)),(218,zf false [] (Zo R3 fun _ _=>True)),(219,zf false [] (Kg ic)),(220,zf false [] (Kg pT)),(221,zf false [] (FVR cg))]
theorem ug(a:Int)(b c:za)(h:b.length+1<=zx)(r:c.length+1<=zx):zr Cttx f179 [int a,str b,str c]=some (qz (VB a b c)):=by
 refine zm rfl ?_;have s:=fun Y Z=>bt b c Y Z (by omega) (by omega)
 have t:=fun Y Z=>Dm b c Y Z (by omega) (by omega)
 have u:∀Y Z,zf false [] (Zo EF fun _ _=>True) [str b,str c] Y Z=some (qz (Lib.contains b c),Y,Z):=fun Y Z=>kl _ _ b c Y Z (by omega) (by omega) trivial rfl
 have m:∀Y Z,zf false [] (Zo R3 fun _ _=>True) [str b,str c] Y Z=some (qz (KB b c),Y,Z):=fun Y Z=>kl _ _ b c Y Z (by omega) (by omega) trivial rfl
 have d:=fun Y Z=>kK ic b Y Z h
 have i:=fun Y Z=>kK pT c Y Z r
 by_cases n:a=7
 ·simp[n,s,VB,f179]
 have j:=eqF0 n;by_cases o:a=8
 ·simp[o,t,VB,f179]
 have k:=eqF0 o;by_cases p:a=9
 ·simp[p,u,VB,f179]
 have l:=eqF0 p;by_cases f:a=10
 ·simp[f,m,VB,f179]
 have e:=eqF0 f;have w:VB a b c=verF b c:=by unfold VB;rw[ze n,ze o,ze p,ze f]
 rw[w];unfold verF;cases q:eU b with
 |none=>simp only[ic,q]at d;simp[j,k,l,e,d,XI,wQ.V,f179]
 |some v=>
  have hs:=(lv q).2;have g:=fun Y Z=>G9 cg v (xv c).1 Y Z hs (cV c) rfl
  simp only[ic,q]at d;simp only[pT]at i;simp only[cg]at g;simp only[wQ.V]at d g;simp[j,k,l,e,d,i,g,f179]
theorem sy:zg prog 179 (zf false [] FFt):=
 pS1 (zph mixed ⟨Y3,XX,JR,HF,ef,Vy,Sm,trivial⟩:AM.Good Cttx _) func179 false [] fun⟨a,b,c⟩ ⟨d,e⟩=>⟨by simp[f179],_,ug a b c d e,zW _⟩
noncomputable def FFS (f:za×qn->za->O):zb->Option O:=z6 (α:=(za×qn)×za) (fun a=>[.agg (yD a.1),str a.2]) (fun _=>True) (fun a=>f a.1 a.2)
theorem HH(Y:Hp)(x:za×qn):qH Y (.agg (yD x))=some (.agg (yD x),Y):=by simp[yD]
theorem MR(x:za×qn):O.noOwn (.agg (yD x))=true:=by have:=hU x.2;simp only[O.noOwn,vY,yD,wN]at this⊢;simpa using this
theorem HI(f:za×qn->za->O)(x:za×qn)(s:za)(Y:Hp)(Z:Nat):zf false [] (FFS f) [.agg (yD x),str s] Y Z=some (f x s,Y,Z):=
 zU (Y1:=Y) (show zv Y [.agg (yD x),str s]=some ([.agg (yD x),str s],Y) by simp only[zv,HH];simp)
  (zE (V:=fun a:(za×qn)×za=>[O.agg (yD a.1),str a.2]) (a:=(x,s)) (fun a b e=>by
   obtain⟨d,h⟩:=a;obtain⟨b1,i⟩:=b;simp only[zh,zD,O.agg.injEq]at e;obtain⟨c,g⟩:=e;have c:yD d=yD b1:=by simpa only[yD,zh]using c
   rw[pX c,q9 g]) trivial) (.inr (by simp only[q8,MR,JA];rfl))
noncomputable abbrev Cac:Ctx:=zQ prog [(89,zf false [] (PE yK))]
theorem uh:zg prog 116 (zf false [] (FFS fun x s=>int (yK x.1 s))):=
 pS1 (zph mixed ⟨vj,trivial⟩:AM.Good Cac _) func116 false [] fun⟨x,s⟩ _=>⟨by simp[f116],_,zm rfl (by simp[f116,yD]),zW _⟩
noncomputable def KZ (l:List (za×qn)) (s:za) (k:Nat):Bool:=match l[k]? with
 |some x=>decide (yK x.1 s<0)
 |none=>false
noncomputable def QT (l:List (za×qn)) (s:za):Nat×Bool:=(kI (KZ l s) 0 l.length,match l[kI (KZ l s) 0 l.length]? with
 |some x=>yK x.1 s==0
 |none=>false)
noncomputable def FBsA (g:Nat):zb->Option O:=z6 (α:=List (za×qn)×za) (fun a=>[.sl 6 (a.1.map yD),str a.2,.fn (.func g) [] []]) (fun a=>a.1.length<=zx) (fun a=>.wY [int (QT a.1 a.2).1,qz (QT a.1 a.2).2])
theorem Sq(g:Nat)(l:List (za×qn))(s:za)(Y:Hp)(Z:Nat)(h:l.length<=zx):zf false [] (FBsA g) [.sl 6 (l.map yD),str s,.fn (.func g) [] []] Y Z=some (.wY [int (QT l s).1,qz (QT l s).2],Y,Z):=
 hPc (l,s) _ _ rfl (fun a b e=>by obtain⟨f,i⟩:=a;obtain⟨j,k⟩:=b;simp only[zh,zD]at e;obtain⟨c,d⟩:=e;injection c with _ c;rw[yX (fun _ _=>pX) c,q9 d]) h (.inl rfl)
noncomputable abbrev Cbs:Ctx:=zQ prog [(116,zf false [] (FFS fun x s=>int (yK x.1 s)))]
theorem zev(l:List (za×qn))(s:za)(v:l.length<=zx):zr Cbs f115 [.sl 6 (l.map yD),str s,.fn (.func 116) [] []]=some (.wY [int (QT l s).1,qz (QT l s).2]):=by
 refine zm rfl ?_;unfold zx at v;simp;refine ZE (fun st=>st.U 0=.sl 6 (l.map yD)/\st.U 1=str s/\st.U 2=.fn (.func 116) [] []/\st.U 8=int l.length/\∃lo hi:Nat,lo<=hi/\hi<=l.length/\st.U 9=int lo/\st.U 10=int hi/\kI (KZ l s) 0 l.length=kI (KZ l s) lo hi)
  (fun st=>(Wz (st.U 10)).toNat-(Wz (st.U 9)).toNat) ⟨by simp,by simp,by simp,by simp,0,l.length,by simp,by simp,by simp,by simp,rfl⟩ ?_
 rintro⟨U,Y,Z⟩ ⟨h,i,j,k,lo,hi,w,r,n,d,f⟩;simp only at h i j k n d;by_cases b:lo<hi
 ·have a:=fun x Y Z=>HI (fun x s=>int (yK x.1 s)) x s Y Z
  have u:=zpg ((lo:Int)+hi);have y:(lo+hi)/2<l.length:=by omega
  obtain⟨m,z⟩:∃m,m=(lo+hi)/2:=⟨_,rfl⟩;have g:i6.wrap ((IntKind.u64.wrap ((lo:Int)+hi)).fdiv (2 ^ min 1 IntKind.u64.bits))=(m:Int):=by
   have A:IntKind.u64.wrap ((lo:Int)+hi)=(lo:Int)+hi:=by rw[Kb];omega
   have B:(2 ^ min 1 IntKind.u64.bits:Int)=2:=by decide
   rw[A,B,Ql _ (by omega),zi (by omega) (by omega)];omega
  have e:m<l.length:=by omega
  have C:=zlL m;have t:KZ l s m=decide (yK l[m].1 s<0):=by simp[KZ,e]
  rw[QN (lo:=lo) b,<-z,t]at f;have c:=a l[m];simp only[yD]at c;by_cases q:yK l[m].1 s<0
  ·simp only[q,cY,qA]at f;simp[h,i,j,k,n,d,b,u,g,e,c,q,C];exact⟨⟨m+1,hi,by omega,r,by omega,rfl,f⟩,by omega⟩
  ·simp only[q,gz,zF,qJ]at f;simp[h,i,j,k,n,d,b,u,g,e,c,q];exact⟨⟨lo,m,by omega,by omega,rfl,rfl,f⟩,by omega⟩
 ·have f:kI (KZ l s) 0 l.length=lo:=by rw[f,J1 (lo:=lo) b]
  have a:=fun x Y Z=>HI (fun x s=>int (yK x.1 s)) x s Y Z
  unfold QT;rw[f];by_cases o:lo<l.length
  ·have c:=a l[lo];simp only[yD]at c;simp[h,i,j,k,n,d,b,o,c,f115,qS]
  ·have p:l[lo]?=none:=wP (by omega);simp[h,i,j,k,n,d,b,o,p,f115,qS]
theorem zbx:zg prog 115 (zf false [] (FBsA 116)):=
 pS1 (zw (q:=[116]) mixed ⟨uh,fun _=>zu _ _,trivial⟩:AM.Good Cbs _) func115 false [] fun⟨l,s⟩ a=>⟨zG (zl 3) (by decide),_,zev l s a,zW _⟩
def gH:qn:=.mk 0 0 [] [] []
def gv(s:za):qn:=.mk 3 0 s [] []
def Sr:za:=[107,101,121]
noncomputable def qL.find (x:qL) (s:za):qn×Bool:=
 if s==Sr then(gv x.key,true)else match x.attrs[(QT x.attrs s).1]? with
  |some a=>if(QT x.attrs s).2 then(a.2,true)else(gH,false)
  |none=>(gH,false)
noncomputable def FXS (out:qL->za->O) (pre:qL->za->Prop):zb->Option O:=z6 (α:=qL×za) (fun a=>[.agg a.1.V,str a.2]) (fun a=>a.1.cb<=zx/\a.2.length<=zx/\pre a.1 a.2) (fun a=>out a.1 a.2)
theorem HJ(out:qL->za->O)(pre:qL->za->Prop)(x:qL)(s:za)(Y:Hp)(Z:Nat)(h:x.cb<=zx/\s.length<=zx/\pre x s):zf false [] (FXS out pre) [.agg x.V,str s] Y Z=some (out x s,Y,Z):=
 zU (Y1:=Y) (show zv Y [.agg x.V,str s]=some ([.agg x.V,str s],Y) by simp only[zv,mg];simp)
  (zE (V:=fun a:qL×za=>[O.agg a.1.V,str a.2]) (a:=(x,s)) (fun a b e=>by obtain⟨c,d⟩:=a;obtain⟨f,g⟩:=b;simp only[zh,zD,O.agg.injEq]at e;rw[J0 e.1,q9 e.2]) h) (.inr (by simp only[q8,pY,JA];rfl))
theorem zby{l:List (za×qn)}{s:za}(h:(QT l s).2=true):(QT l s).1<l.length:=by
 unfold QT at h⊢;simp only at h⊢;split at h
 ·rename_i x a;exact(zn.1 a).1
 ·cases h
def Wr(r:qn×Bool):O:=.wY [.agg r.1.V,qz r.2]
noncomputable abbrev Cxa:Ctx:=zQ prog [(115,zf false [] (FBsA 116))]
theorem nW(k n:Int)(s:za):qW (.agg [int k,int n,str s,.nil,.nil]) (.agg (qn.mk k n s [] []).V):=by rw[Zj];exact ki.agg (.cons (.refl _) (.cons (.refl _) (.cons (.refl _) (.cons (.cZ (.inl ⟨rfl,rfl⟩)) (.cons (.cZ (.inl ⟨rfl,rfl⟩)) .nil)))))
theorem HK(x:qL)(s:za)(h:x.cb<=zx):∃i,zr Cxa f68 [.agg x.V,str s]=some i/\qW i (Wr (x.find s)):=by
 have j:=JZ x;have k:=jV x.attrs;have b:=fun Y Z=>Sq 116 x.attrs s Y Z (by omega)
 refine kB rfl ?_;have f:(s==Sr)=false->(QT x.attrs s).2=false->x.find s=(gH,false):=fun l m=>by unfold qL.find;rw[l,m];simp only[zF,qJ];split<;>rfl
 cases c:(s==Sr)
 ·have a:(s==[107,101,121])=false:=c;cases d:(QT x.attrs s).2
  ·rw[f c d];simp[qL.V,a,b,d,qe,qM,f68];refine⟨.wY [.agg [int 0,int 0,str [],.nil,.nil],qz false],by simp,?_⟩;exact ki.wY (.cons (nW 0 0 []) (.cons (.refl _) .nil))
  ·have e:=zby d;have g:x.find s=(x.attrs[(QT x.attrs s).1].2,true):=by unfold qL.find;rw[c,d];simp[e]
   rw[g];simp[qL.V,a,b,d,e,f68];refine⟨Wr (x.attrs[(QT x.attrs s).1].2,true),by simp[Wr],.refl _⟩
 ·have a:(s==[107,101,121])=true:=c;have g:x.find s=(gv x.key,true):=by unfold qL.find;rw[c];rfl
  rw[g];simp[qL.V,a,qe,qM,f68];refine⟨.wY [.agg [int 3,int 0,str x.key,.nil,.nil],qz true],by simp,?_⟩;exact ki.wY (.cons (nW 3 0 x.key) (.cons (.refl _) .nil))
theorem DE:zg prog 68 (zf false [] (FXS (fun x s=>Wr (x.find s)) fun _ _=>True)):=
 xE (fn:=f68) (zph mixed ⟨zbx,trivial⟩:AM.Good Cxa _) (zpi func68) false [] _ fun args r h w S vs a=>by obtain⟨⟨x,s⟩,rfl,b,rfl⟩:=zp h;obtain⟨c,d,e⟩:=HK x s b.1;exact⟨_,c,a,zG (zl 2) (by decide),d,e⟩
def WI(s:za):List (za×qn)->qn×Bool
 |[]=>(gH,false)
 |a::l=>if a.1==s then(a.2,true)else WI s l
def qL.WJ(x:qL)(s:za):qn×Bool:=if s==Sr then(gv x.key,true)else WI s x.attrs
theorem MS{l:List (za×qn)}{k:Nat}(h:k<l.length)(s:za):WI s (l.drop k)=if l[k].1==s then(l[k].2,true)else WI s (l.drop (k+1)):=by rw[zc h,WI]
theorem DF(x:qL)(s:za)(h:x.cb<=zx):∃o,zr C0 f174 [.agg x.V,str s]=some o/\qW o (Wr (x.WJ s)):=by
 have p:=JZ x;have q:=jV x.attrs;unfold zx at h;refine kB rfl ?_;unfold qL.WJ;cases i:(s==Sr)
 ·have a:(s==[107,101,121])=false:=i;simp[qL.V,a];refine zI (fun k U Y Z=>U 1=str s/\U 2=.ref 0 0 0/\U 4=.ref 1 0 0/\U 14=.sl 6 (x.attrs.map yD)/\U 15=int x.attrs.length/\U 16=int k/\2<=Z/\Y 1=some ⟨61,5,false,[[int 0,int 0,str [],.nil,.nil]]⟩/\WI s x.attrs=WI s (x.attrs.drop k)) x.attrs.length
   ⟨by simp,by simp,by simp,by simp,by simp,by simp,by simp,by simp[qe,qM],by simp⟩ ?_
  rintro k U Y Z i ⟨j,l,m,b,c,e,r,n,f⟩;have n1:¬1=Z:=by omega
  by_cases g:k<x.attrs.length
  ·have t:=zlL k;rw[MS g]at f;cases d:(x.attrs[k].1==s)
   ·simp only[d,zF,qJ]at f;simp[j,l,m,b,c,e,g,d,t]
    and_intros<;>first|omega|exact f|simp[n1,n]
   ·simp only[d,qA]at f;rw[f];simp[j,l,m,b,c,e,g,d,n1,n,f174];exact⟨Wr (x.attrs[k].2,true),by simp[Wr],.refl _⟩
  ·obtain rfl:k=x.attrs.length:=by omega
   rw[zo]at f;rw[f];simp[j,l,m,b,c,e,WI,n,qe,qM,f174];refine⟨.wY [.agg [int 0,int 0,str [],.nil,.nil],qz false],by simp,?_⟩;exact ki.wY (.cons (nW 0 0 []) (.cons (.refl _) .nil))
 ·have a:(s==[107,101,121])=true:=i;simp[qL.V,a,qe,qM,f174];refine⟨.wY [.agg [int 3,int 0,str x.key,.nil,.nil],qz true],by simp,?_⟩;exact ki.wY (.cons (nW 3 0 x.key) (.cons (.refl _) .nil))
theorem ui:zg prog 174 (zf false [] (FXS (fun x s=>Wr (x.WJ s)) fun _ _=>True)):=
 xE (fn:=f174) (zw (q:=[]) mixed trivial:AM.Good C0 _) (zpi func174) false [] _ fun args r h w S vs a=>by obtain⟨⟨x,s⟩,rfl,b,rfl⟩:=zp h;obtain⟨c,d,e⟩:=DF x s b.1;exact⟨_,c,a,zG (zl 2) (by decide),d,e⟩
def Up:List (za×qn)->Prop
 |[]=>True
 |a::l=>(∀b∈l,Op.bytesLess a.1 b.1=true)/\Up l
theorem A7:∀(l:List (za×qn)) (p:Option za),(∀b∈l,b.2.check=0->True)->QC p l=0->Up l/\∀q,p=some q->∀b∈l,Op.bytesLess q b.1=true
 |[],_,_,_=>⟨trivial,fun _ _ _ h=>by cases h⟩
 |(a,v)::l,p,j,h=>by
  simp only[QC]at h;split at h
  ·cases h
  split at h
  ·cases h
  rename_i e;split at h
  ·split at h
   ·cases h
   ·obtain⟨f,c⟩:=A7 l (some a) (fun _ _ _=>trivial) h;refine⟨⟨fun b hb=>c a rfl b hb,f⟩,fun q g b hb=>?_⟩;subst g;have d:Op.bytesLess q a=true:=xH (by simpa[vf]using e);rcases zA.1 hb with rfl|hb
    ·exact d
    ·exact xi d (c a rfl b hb)
  ·rename_i i;exact absurd h i
theorem MT:∀{l:List (za×qn)} (_:Up l) {i j:Nat} (_:i<j) (b:j<l.length),Op.bytesLess (l[i]'(by omega)).1 l[j].1=true
 |a::l,h,0,j+1,_,b=>h.1 _ (zj _)
 |a::l,h,i+1,j+1,c,b=>by simpa using MT h.2 (i:=i) (j:=j) (by omega) (by simpa using b)
theorem sA{s:za}:∀{l:List (za×qn)},(∀a∈l,a.1≠s)->WI s l=(gH,false)
 |[],_=>rfl
 |a::l,h=>by
  have:(a.1==s)=false:=by simpa using h a (by simp)
  rw[WI,this];simpa using sA (l:=l) fun b c=>h b (by simp[c])
theorem HL{s:za}:∀{l:List (za×qn)} {j:Nat} (b:j<l.length),Up l->l[j].1=s->WI s l=(l[j].2,true)
 |a::l,0,b,_,h=>by
  have h:a.1=s:=by simpa using h
  simp[WI,h]
 |a::l,j+1,b,d,h=>by
  have h:(l[j]'(by simpa using b)).1=s:=by simpa using h
  have c:(a.1==s)=false:=by have:=d.1 _ (zj (l:=l) (n:=j) (by simpa using b));rw[h]at this;simp only[ya,ne_eq];intro e;rw[e,Wf]at this;cases this
  rw[WI,c];simpa using HL (l:=l) (j:=j) (by simpa using b) d.2 h
theorem zew(x:qL)(s:za)(h:x.fault=0):x.find s=x.WJ s:=by
 have l:Up x.attrs:=by
  unfold qL.fault at h;split at h
  ·split at h
   ·cases h
   ·exact(A7 x.attrs none (fun _ _ _=>trivial) h).1
  ·cases h
 unfold qL.find qL.WJ;cases z:(s==Sr)
 case true=>rfl
 simp only[zF,qJ];by_cases c:∃(j:Nat) (b:j<x.attrs.length),x.attrs[j].1=s
 ·obtain⟨j,b,hs⟩:=c;have t:kI (KZ x.attrs s) 0 x.attrs.length=j:=bF (n:=x.attrs.length) (m:=j) (fun k o=>by
    have p:k<x.attrs.length:=by omega
    have:=MT l o b;rw[hs]at this;simp[KZ,p,(Ju _ _).2 this]) (fun k q d=>by
    simp only[KZ,zq d,jr];intro f;have f:=(Ju _ _).1 f;rcases zpe q with g|rfl
    ·have:=MT l g d;rw[hs]at this;have:=xi f this;rw[Wf]at this;cases this
    ·rw[hs,Wf]at f;cases f) (by omega) (by omega) (by omega)
  rw[HL b l hs];have r:(QT x.attrs s)=(j,true):=by unfold QT;rw[t];simp[zq b,hs,(vN s s).2 rfl]
  rw[r];simp[zq b]
 ·have i:∀a∈x.attrs,a.1≠s:=fun a u e=>by obtain⟨j,b,v⟩:=List.getElem_of_mem u;exact c ⟨j,b,by rw[v,e]⟩
  rw[sA i];have r:(QT x.attrs s).2=false:=by
   unfold QT;simp only;split
   ·rename_i y w;have:=i y (zM w);simp only[ya,ne_eq];intro e;exact this ((vN _ _).1 e)
   ·rfl
  split
  ·rw[r];rfl
  ·rfl
inductive Jm:qO->Prop
 |mk {k o:Int} {a p n:List UInt8} {v:List qn} {l:List qO}:1<=k->k<=5->(k=3->l.length=1)->(k=4->jx o=true->0<v.length)->(∀x∈l,Jm x)->Jm (.mk k a o v p n l)
theorem Jm.kind{c:qO}(h:Jm c):1<=c.kind/\c.kind<=5:=by cases h;exact⟨by assumption,by assumption⟩
theorem Jm.one{c:qO}(h:Jm c)(a:c.kind=3):c.args.length=1:=by cases h with|mk _ _ b _ _=>exact b a
theorem Jm.ord{c:qO}(h:Jm c)(a:c.kind=4)(b:jx c.op=true):0<c.yC.length:=by cases h with|mk _ _ _ d _=>exact d a b
theorem Jm.args{c:qO}(h:Jm c):∀x∈c.args,Jm x:=by cases h with|mk _ _ _ _ a=>exact a
theorem ei:∀{l:List qO},Zb l=0->∀x∈l,x.fault=0
 |[],_,x,a=>by cases a
 |c::l,h,x,a=>by
  rw[Zb]at h;split at h
  ·rename_i b;rcases zA.1 a with rfl|a
   ·exact b
   ·exact ei h x a
  ·rename_i b;exact absurd h b
theorem MU(c:qO):c.fault=0->Jm c:=by
 induction c using qO.ind with
 |h k a o v p n l m=>
  intro e;rw[bE]at e;split at e
  case isFalse d=>exact absurd e d
  rename_i d;have b:=ei e;unfold vW at d;split at d
  ·omega
  rename_i g;split at d
  ·omega
  rename_i i;simp only[cK,PT,qO.kind,qO.op,qd,not_or,vY,Bool.not_eq_false]at g;simp only[ZX,w6F,w7F,qO.kind,qO.op,qO.yC,qO.args,qd,not_or]at i;obtain⟨⟨⟨_,_⟩,q⟩,r⟩:=i;have f:=g.1;simp only[jD,zH,zP]at f;refine .mk f.1 f.2 (fun s=>?_) (fun t u=>?_) fun x j=>m x j (b x j)
  ·refine xy fun w=>q ?_
   rw[s];simp only[beq_self_eq_true,jb,zeO,ne_eq];omega
  ·refine xy fun w=>r ?_
   rw[t,u];simp only[beq_self_eq_true,jb,zeO,ne_eq];omega
theorem Xx{c:qO}(h:c.check=0):Jm c:=by
 unfold qO.check at h;split at h
 ·omega
 ·exact MU c h
def uj(M:List (Nat×Bool)):List zb:=M.map fun p=>[int p.1,qz p.2]
def uk(M:List (Nat×Bool)):kV:=⟨108,0,false,uj M⟩
def DG(f:Nat->Bool)(M:List (Nat×Bool)):Prop:=∀p∈M,p.2=f p.1
theorem lB(i:Nat):∀(M:List (Nat×Bool)) (k:Nat),(Q2 (.int .i64 i) (uj M) k=some none)\/∃j b,Q2 (.int .i64 i) (uj M) k=some (some (k+j,qz b))/\M[j]?=some (i,b)
 |[],k=>.inl rfl
 |(a,b)::M,k=>by
  by_cases h:i=a
  ·subst h;exact .inr ⟨0,b,by simp[uj,Q2,Qo],rfl⟩
  ·have d:Qo (.int .i64 (i:Int)) (.int .i64 (a:Int))=some false:=by simp only[Qo,qA,qj,ya,ne_eq];omega
   have e:Q2 (.int .i64 i) (uj ((a,b)::M)) k=Q2 (.int .i64 i) (uj M) (k+1):=by simp only[uj,wD,Q2,d]
   rw[e];rcases lB i M (k+1)with c|⟨j,f,c,g⟩
   ·exact .inl c
   ·exact .inr ⟨j+1,f,by rw[c];simp;omega,by simpa using g⟩
@[simp]theorem zhC:X6 prog 108=some (some .i64,4):=by kernel_rfl
theorem Ss{Y:Hp}{m:Nat}{f:Nat->Bool}{M:List (Nat×Bool)}(c:DG f M)(i:Nat)(h:Y m=some (uk M)):Qp prog Y 108 (.mp m) (int i) true=some (.wY [qz (f i),qz true])\/Qp prog Y 108 (.mp m) (int i) true=some (.wY [qz false,qz false]):=by
 rcases lB i M 0 with a|⟨j,b,a,d⟩
 ·exact .inr (by simp[Qp,oe,h,uk,XK,a])
 ·have:=c _ (zM d);simp only at this;exact .inl (by simp[Qp,oe,h,uk,XK,a,this])
theorem sB{Y:Hp}{m:Nat}{f:Nat->Bool}{M:List (Nat×Bool)}(c:DG f M)(i:Nat)(h:Y m=some (uk M)):∃d,Q3 prog Y 108 (.mp m) (int i) (qz (f i))=some (qR Y m (some (uk d)))/\DG f d:=by
 rcases lB i M 0 with a|⟨j,b,a,e⟩
 ·refine⟨M++[(i,f i)],by simp[Q3,h,uk,XK,a];simp[uj],fun p Y=>?_⟩;rcases qg.1 Y with Y|Y
  ·exact c p Y
  ·simp at Y;rw[Y]
 ·refine⟨M.set j (i,f i),by simp[Q3,h,uk,XK,a];simp[uj,zeR],fun p Y=>?_⟩;rcases xx Y with Y|rfl
  ·exact c p Y
  ·rfl
def MV(l:List qa)(x:qL)(m:Nat):kV:=⟨110,4,false,[[.sl 10 (l.map qa.V),str x.key,.sl 6 (x.attrs.map yD),.mp m]]⟩
noncomputable abbrev askS:AM.Spec:=we C0 f29
theorem Su:zg prog 29 askS:=zpj yz func29
theorem zex(l:List qa)(x:qL)(Y:Hp)(Z:Nat):askS [.sl 10 (l.map qa.V),.agg x.V] Y Z=some (.ref (Z+2) 0 0,qR (qR (qR Y Z (some ⟨30,2,false,[x.V]⟩)) (Z+1) (some (uk []))) (Z+2) (some (MV l x (Z+1))),Z+3):=by unfold askS we;rw[zd (by simp[f29])];refine yu rfl ?_;simp[qL.V,qe,qM,MV,uk,uj,f29]
noncomputable def hd1S (sp:AM.Spec):AM.Spec:=we (zQ prog [(33,sp)]) f65
noncomputable abbrev TAh (sp:AM.Spec):Qq:=[(65,hd1S sp),(33,sp)]
noncomputable abbrev Chd (mem sp:AM.Spec):Ctx:=WS prog [(64,Ho (TAh sp)),(33,sp),(66,zf false [] Aq),(67,mem),(68,zf false [] (FXS (fun x s=>Wr (x.find s)) fun _ _=>True)),(69,zf false [] FPs)] 11 [1000004] []
noncomputable def VC (mem:AM.Spec):Nat->AM.Spec
 | 0=>fun _ _ _=>none
 |k+1=>we (Chd mem (VC mem k)) f33
noncomputable abbrev Cmb (sp:AM.Spec):Ctx:=zQ prog [(94,zf false [] (FKs hkP)),(33,sp)]
noncomputable def DH:Nat->AM.Spec
 | 0=>fun _ _ _=>none
 |n+1=>we (Cmb (VC (DH n) zx)) f67
theorem Sv{sp:AM.Spec}(h:zg prog 33 sp):zg prog 65 (hd1S sp):=
 zpj (zw (q:=[]) (l:=[(33,sp)]) mixed ⟨h,by simp,trivial⟩) func65
theorem sC{mem:AM.Spec}(h:zg prog 67 mem)(k:Nat):zg prog 33 (VC mem k):=by
 induction k with
 |zero=>exact WY ⟨_,func33,by kernel_rfl,by kernel_rfl⟩
 |succ k a=>exact zpj (C:=Chd mem (VC mem k)) (eG (q:=[66,68]) mixed ⟨sg ⟨Sv a,by simp,a,by simp,trivial⟩,by simp,a,by simp,dz,fun _=>zu _ _,h,by simp,DE,fun _=>zu _ _,Dr,by simp,trivial⟩ (by simp[df])) func33
theorem Sw(n:Nat):zg prog 67 (DH n):=by
 induction n with
 |zero=>exact WY ⟨_,func67,by kernel_rfl,by kernel_rfl⟩
 |succ n a=>exact zpj (C:=Cmb (VC (DH n) zx)) (zw (q:=[94]) mixed ⟨fw,fun _=>zu _ _,sC a zx,by simp,trivial⟩) func67
noncomputable def HM (x:qL) (c:qO):Bool:=(x.find c.attr).2&&Jj c (x.find c.attr).1
noncomputable def hF (l:List qa) (x:qL) (c:qO):Bool:=zkA l x.key (HM x) c
noncomputable def mF (l:List qa) (x:qL) (i:Nat):Bool:=PW l x.key (HM x) i
theorem zfQ(l:List qa)(x:qL)(c:qO):hF l x c=if c.kind=1 then c.args.all (hF l x)else if c.kind=2 then c.args.any (hF l x)else if c.kind=3 then !(hdC (hF l x) c.args)else if c.kind=5 then mF l x (xI l c.name)else HM x c:=rm _ _ c
def VI(l:List qa)(x:qL)(a m:Nat)(_:Unit)(Y:Hp):Prop:=Y a=some (MV l x m)/\∃M,Y m=some (uk M)/\DG (mF l x) M
theorem VI.qR{l:List qa}{x:qL}{a m:Nat}{u:Unit}{Y:Hp}(h:VI l x a m u Y){j:Nat}(b:Option kV)(c:a≠j)(d:m≠j):VI l x a m u (qR Y j b):=by obtain⟨e,M,f,g⟩:=h;exact⟨by rw[zt _ _ _ _ c];exact e,M,by rw[zt _ _ _ _ d];exact f,g⟩
def Xy(a:Nat):kV:=⟨65,1,false,[[.ref a 0 0]]⟩
theorem zey(x:qL)(s:za)(d:x.cb+2<=zx):(x.find s).1.vb<=zx:=by
 have b:=JZ x;unfold qL.find;split
 ·rw[Zp];simp[gv,qn.s,qn.items,qn.fields,VG,bZ];omega
 ·split
  ·rename_i a c;have:=xr (zM c);split
   ·simp only;omega
   ·rw[Zp];simp[gH,qn.s,qn.items,qn.fields,VG,bZ,zx]
  ·rw[Zp];simp[gH,qn.s,qn.items,qn.fields,VG,bZ,zx]
theorem ba{mem:AM.Spec}{l:List qa}{x:qL}{b m Z0:Nat}{I:Nat->Prop}(M:b≠m)(hid:b<Z0)(hm:m<Z0)(hl:l.length<=zx)(hx:x.cb+2<=zx)
  (q:∀i Y Z,I i->Z0<=Z->VI l x b m () Y->∃r v A,mem [.ref b 0 0,int i] Y Z=some (r,v,A)/\jg (·=m) (VI l x b m) (qz (mF l x i)) () Y Z r v A) :
  ∀(k:Nat) (c:qO) (Y:Hp) (Z:Nat),c.cb<=k->c.cb<=zx->Jm c->(∀n∈c.names,I (xI l n))->Z0<=Z->VI l x b m () Y ->
   ∃r v A,VC mem k [.ref b 0 0,.agg c.V] Y Z=some (r,v,A)/\jg (·=m) (VI l x b m) (qz (hF l x c)) () Y Z r v A
 | 0,c,_,_,h,_,_,_,_,_=>absurd h (by have:=V7 c;omega)
 |k+1,c,P,a,hk,hcl,hg,hI,hn1,hR=>by
  have hcb:=Qb c;have hal:=jW c.args;have Q:=vw c;have d:=zfQ l x c;have hlim:zx=2097152:=rfl;have am:∀y∈c.args,y.cb<=k/\y.cb<=zx/\Jm y/\∀n∈y.names,I (xI l n):=fun y B=>by have:=vC B;exact⟨by omega,by omega,hg.args y B,fun n hn=>hI n (by rw[Q];exact qg.2 (.inr (Ke.2 ⟨y,B,hn⟩)))⟩
  have w:VI l x b m () (qR (qR P a (some (Xy b))) (a+1) (some (Jw c))):=(hR.qR _ (by omega) (by omega)).qR _ (by omega) (by omega);have F:∀{v:Hp},(∀j,j<a+2->¬j=m->v j=qR (qR P a (some (Xy b))) (a+1) (some (Jw c)) j)->∀j,j<a->¬j=m->v j=P j:=fun f j hj C=>by rw[f j (by omega) C,zt _ _ _ _ (by omega),zt _ _ _ _ (by omega)]
  unfold VC we;rw[zd (by simp[f33])];refine qw rfl ?_;refine km (fun U Y Z=>U 2=.ref a 0 0/\U 3=.ref (a+1) 0 0/\U 4=qz false/\U 1000004=.wY []/\Y=qR (qR P a (some (Xy b))) (a+1) (some (Jw c))/\Z=a+2) (by simp[Xy,Jw]) ?_;rintro U Y Z ⟨G,H,h4,R,rfl,rfl⟩;have ma:¬a=a+1:=by omega
  by_cases k1:c.kind=1
  ·rw[zd k1]at d;obtain⟨r,v,A,p,rfl,⟨J,_⟩,n2,D⟩:=si (U:=Unit) (T:=(·=m)) (Rep:=fun u Y=>VI l x b m u Y/\Y a=some (Xy b)) (step:=fun _ y=>(!hF l x y,())) (Ta:=TAh (VC mem k)) (g:=65) (sp:=hd1S (VC mem k)) (fi:=[]) (cap:=[.ref a 0 0]) (Z0:=a+2) (by simp) c.args (by omega)
    (fun _ y Y Z B hn ⟨E,S⟩=>by
     obtain⟨W,X,a3,a4⟩:=am y B;obtain⟨r,v,A,p,rfl,J,n2,D⟩:=ba M hid hm hl hx q k y (qR Y Z (some (Jw y))) (Z+1) W X a3 a4 (by omega) (E.qR _ (by omega) (by omega));refine⟨_,v,A,?_,rfl,⟨J,by rw[D a (by omega) (by omega),zt _ _ _ _ (by omega)];exact S⟩,by omega,fun j hj C=>by rw[D j (by omega) C,zt _ _ _ _ (by omega)]⟩;unfold hd1S we;rw[zd (by simp[f65])];refine yu rfl ?_;have n1:¬a=Z:=by omega
     simp only[Xy]at S;simp only[Jw]at p;simp[S,n1,p,f65]) () _ (a+2) (zl _) ⟨w,by rw[zt _ _ _ _ ma];simp⟩
   rw[iM]at p;have N:=F D;simp only[Xy,Jw]at p;simp[G,H,Xy,Jw,k1,p,d,jg,f33];exact⟨J,by omega,N⟩
  have k1':=eqF0 k1;rw[ze k1]at d;by_cases k2:c.kind=2
  ·rw[zd k2]at d;obtain⟨r,v,A,p,rfl,J,n2,D⟩:=si (U:=Unit) (T:=(·=m)) (Rep:=VI l x b m) (step:=fun _ y=>(hF l x y,())) (Ta:=TAh (VC mem k)) (g:=33) (sp:=VC mem k) (fi:=[.ref b 0 0]) (cap:=[]) (Z0:=Z0) (by simp) c.args (by omega)
    (fun _ y Y Z B hn E=>by obtain⟨W,X,a3,a4⟩:=am y B;exact ba M hid hm hl hx q k y Y Z W X a3 a4 hn E) () _ (a+2) (by omega) w
   rw[Vo]at p;have N:=F D;simp only[Xy,Jw]at p;simp[G,H,Xy,Jw,k2,p,d,jg,f33];exact⟨J,by omega,N⟩
  have k2':=eqF0 k2;rw[ze k2]at d;by_cases k3:c.kind=3
  ·rw[zd k3]at d;obtain⟨y,B⟩:∃y,c.args=[y]:=by
    have:=hg.one k3
    match h:c.args,this with
    |[y],_=>exact⟨y,rfl⟩
   obtain⟨W,X,a3,a4⟩:=am y (by rw[B];simp);obtain⟨r,v,A,p,rfl,J,n2,D⟩:=ba M hid hm hl hx q k y _ (a+2) W X a3 a4 (by omega) w;have N:=F D;rw[B]at d;simp only[hdC]at d;simp only[Xy,Jw]at p;simp[G,H,Xy,Jw,k3,B,p,d,jg,f33];exact⟨J,by omega,N⟩
  have k3':=eqF0 k3;rw[ze k3]at d;by_cases k5:c.kind=5
  ·rw[zd k5]at d;have hIn:=hI c.name (by rw[Q,zd k5];simp);obtain⟨r,v,A,p,rfl,J,n2,D⟩:=q (xI l c.name) _ (a+2) hIn (by omega) w;have N:=F D;have E:=fun Y Z=>dy l c.name Y Z hl
   have z:=hR.1;have K:¬b=a:=by omega
   have L:¬b=a+1:=by omega
   simp only[MV]at z;simp only[Xy,Jw,xI]at p;simp[G,H,Xy,Jw,k5,z,K,L,E,p,d,jg,xI,f33];exact⟨J,by omega,N⟩
  have k5':=eqF0 k5;rw[ze k5]at d;have hkk:=hg.kind;have k4:c.kind=4:=by omega
  have E:∀Y Z,zf false [] (FXS (fun x s=>Wr (x.find s)) fun _ _=>True) [.agg [str x.key,.sl 6 (x.attrs.map yD)],str c.attr] Y Z=some (.wY [.agg (x.find c.attr).1.V,qz (x.find c.attr).2],Y,Z):=fun Y Z=>HJ (fun x s=>Wr (x.find s)) (fun _ _=>True) x c.attr Y Z ⟨by omega,by omega,trivial⟩
  have S:=fun Y Z=>zbc c (x.find c.attr).1 Y Z hcl (zey x c.attr hx) (hg.ord k4)
  have z:=hR.1;have K:¬b=a:=by omega
  have L:¬b=a+1:=by omega
  simp only[MV]at z;rw[d];unfold HM;refine km (fun U Y Z=>U 2=.ref a 0 0/\U 3=.ref (a+1) 0 0/\U 4=qz false/\U 1000004=.wY []/\Y=qR (qR P a (some (Xy b))) (a+1) (some (Jw c))/\Z=a+2) (by simp[G,H,h4,R,Xy,Jw,k1',k2',k3',k5']) ?_;clear G H h4 R U;rintro U Y Z ⟨G,H,h4,R,rfl,rfl⟩;have hrf:QI [1000004] ⟨U,qR (qR P a (some (Xy b))) (a+1) (some (Jw c)),a+2⟩:=fun t ht=>by
   have:t=1000004:=by simpa using ht
   subst this;refine⟨⟨fun id o n e=>?_,fun id i j e=>?_⟩,fun _=>?_⟩
   ·have e:U 1000004=.own id o n:=e;rw[R]at e;cases e
   ·have e:U 1000004=.ref id i j:=e;rw[R]at e;cases e
   ·show(U 4).Kd=true;rw[h4];rfl
  rw[Bv,YY hrf];cases hf:(x.find c.attr).2
  ·rw[hf]at E;simp[G,H,Xy,Jw,z,K,L,E,jg,f33];exact⟨w.qR _ (by omega) (by omega),by omega,fun j hj C=>by rw[zt _ _ _ _ (by omega),zt _ _ _ _ (by omega),zt _ _ _ _ (by omega)]⟩
  ·rw[hf]at E;simp[G,H,Xy,Jw,z,K,L,E,S,jg,f33];exact⟨w.qR _ (by omega) (by omega),by omega,fun j hj C=>by rw[zt _ _ _ _ (by omega),zt _ _ _ _ (by omega),zt _ _ _ _ (by omega)]⟩
theorem Ot{s:qa}(h:Zk s=0):bG s.ins/\bG s.outs/\s.cond.check=0:=by
 unfold Zk at h;split at h
 case isFalse a=>exact absurd h a
 rename_i b;split at h
 case isFalse a=>exact absurd h a
 rename_i c;split at h
 ·omega
 ·exact⟨rh b,rh c,h⟩
theorem Ou{l:List qa}{x:qL}{c m Z0:Nat}(f:c≠m)(hid:c<Z0)(hm:m<Z0)(g:bh l)(hl:QZ l<=zx)(hx:x.cb+2<=zx) :
  ∀(n i:Nat) (Y:Hp) (Z:Nat),i<l.length->rkG l i<n->Z0<=Z->VI l x c m () Y->∃r N P,DH n [.ref c 0 0,int i] Y Z=some (r,N,P)/\jg (·=m) (VI l x c m) (qz (mF l x i)) () Y Z r N P
 | 0,_,_,_,_,h,_,_=>absurd h (by omega)
 |n+1,i,Q,d,k,hrk,hn1,K=>by
  have hle:=Wk l;obtain⟨s,hs⟩:=exI (l[i]);have u:s∈l:=by rw[<-hs];exact zj k
  have hm2:=Yn u;have hmc:s.cb=1+s.name.length+Kf s.ins+Kf s.outs+s.cond.cb:=rfl;have hxk:=JZ x;obtain⟨u1,u2,R⟩:=Ot (g.right s u).2;have C:l[i]?=some s:=by rw[zq k,hs]
  have v:mF l x i=(s.ins.contains x.key||(!s.outs.contains x.key&&hF l x s.cond)):=by show PW l x.key (HM x) i=_;rw[NV g,U2,C];rfl
  have hH:=ba (mem:=DH n) (I:=fun j=>j<l.length/\rkG l j<n) f hid hm (by omega) hx (fun j Y Z D hn hr=>Ou f hid hm g hl hx n j Y Z D.1 D.2 hn hr) zx s.cond
   (qR Q d (some (aY s))) (d+1) (by omega) (by omega) (Xx R) (fun y hy=>⟨Cx (g.known s u y hy),by
    have S:xI l y∈yU l i:=by unfold yU;rw[C];exact X4 hy
    have:=LO g i _ S;omega⟩) (by omega) (K.qR _ (by omega) (by omega))
  obtain⟨r,N,P,e1,rfl,T,n2,f2⟩:=hH;have w:=fun Y Z=>CA s.ins x.key Y Z (by omega) (by omega)
  have E:=fun Y Z=>CA s.outs x.key Y Z (by omega) (by omega)
  rw[nR u1]at w;rw[nR u2]at E;have z:=K.1;obtain⟨M,W,A⟩:=K.2;have o:¬c=d:=by omega
  have F:¬m=d:=by omega
  unfold DH we;rw[zd (by simp[f67])];refine qw rfl ?_;have p:=z;simp only[MV]at p;rcases Ss A i W with q|q
  ·simp[p,q,jg,f67];exact K
  simp only[aY]at e1;cases B:s.ins.contains x.key
  ·cases L:s.outs.contains x.key
   ·have t:mF l x i=hF l x s.cond:=by rw[v,B,L];rfl
    obtain⟨M2,X,G⟩:=T.2;obtain⟨H,a,b⟩:=sB G i X;have J:=T.1;simp only[MV]at J;rw[t]at a;rw[B]at w;rw[L]at E;simp[p,q,k,hs,o,w,E,e1,J,a,t,jg,f67];exact⟨⟨by rw[zt _ _ _ _ f];exact T.1,H,by simp,b⟩,by omega,fun j D e=>by rw[zt _ _ _ _ e,f2 j (by omega) e,zt _ _ _ _ (by omega)]⟩
   ·have t:mF l x i=false:=by rw[v,B,L];rfl
    obtain⟨H,a,b⟩:=sB (Y:=qR Q d (some (aY s))) A i (by rw[zt _ _ _ _ F];exact W);simp only[aY]at a;rw[t]at a;rw[B]at w;rw[L]at E;simp[p,q,k,hs,o,w,E,a,t,jg,f67];exact⟨⟨by rw[zt _ _ _ _ f,zt _ _ _ _ o];exact z,H,by simp,b⟩,fun j D e=>by rw[zt _ _ _ _ e,zt _ _ _ _ (by omega)]⟩
  ·have t:mF l x i=true:=by rw[v,B];rfl
   obtain⟨H,a,b⟩:=sB (Y:=qR Q d (some (aY s))) A i (by rw[zt _ _ _ _ F];exact W);simp only[aY]at a;rw[t]at a;rw[B]at w;simp[p,q,k,hs,o,w,a,t,jg,f67];exact⟨⟨by rw[zt _ _ _ _ f,zt _ _ _ _ o];exact z,H,by simp,b⟩,fun j D e=>by rw[zt _ _ _ _ e,zt _ _ _ _ (by omega)]⟩
noncomputable def Yc (c:qO) (v:qn):Bool:=if c.op=1 then true else if c.op=2 then dY v c.yC else if jx c.op=true then v.kind==2&&gj c.op v.n (A1 c.yC)else if ZW c.op=true then v.kind==3&&VB c.op v.s c.pat else v.items.any fun w=>dY w c.yC
noncomputable def A8 (x:qL) (c:qO):Bool:=(x.WJ c.attr).2&&Yc c (x.WJ c.attr).1
theorem HN(s:za):∀l:List (za×qn),(WI s l).1.vb<=bZ l+2
 |[]=>by show gH.vb<=_;rw[Zp];simp[gH,qn.s,qn.items,qn.fields,VG,bZ]
 |a::l=>by
  have b:=xr (List.mem_cons_self (a:=a) (l:=l));have c:=HN s l;have d:bZ l<=bZ (a::l):=by simp[bZ]
  simp only[WI];split
  ·show a.2.vb<=_;omega
  ·omega
theorem zbz(x:qL)(s:za)(b:x.cb+2<=zx):(x.WJ s).1.vb<=zx:=by
 have a:=JZ x;unfold qL.WJ;split
 ·rw[Zp];simp[gv,qn.s,qn.items,qn.fields,VG,bZ];omega
 ·have:=HN s x.attrs;omega
noncomputable def FTc:zb->Option O:=z6 (α:=qO×qL) (fun a=>[.agg a.1.V,.agg a.2.V]) (fun a=>a.1.cb<=zx/\a.2.cb+2<=zx/\(jx a.1.op=true->0<a.1.yC.length)) (fun a=>qz (A8 a.2 a.1))
theorem zbA(c:qO)(x:qL)(Y:Hp)(Z:Nat)(h:c.cb<=zx)(d:x.cb+2<=zx)(f:jx c.op=true->0<c.yC.length):zf false [] FTc [.agg c.V,.agg x.V] Y Z=some (qz (A8 x c),Y,Z):=
 hPc (c,x) _ _ (by simp[qL.V,qY]) (fun a b e=>by obtain⟨g,i⟩:=a;obtain⟨j,k⟩:=b;simp only[zh,zD,O.agg.injEq]at e;rw[vQ e.1,J0 e.2]) ⟨h,d,f⟩ (.inl rfl)
noncomputable abbrev zbB:Ctx:=zQ prog [(174,zf false [] (FXS (fun x s=>Wr (x.WJ s)) fun _ _=>True)),(175,zf false [] (FVL fun v l=>qz (dY v l))),(176,zf false [] (ep jx)),(177,zf false [] FOd),(178,zf false [] (ep ZW)),(179,zf false [] FFt)]
theorem zbC:AM.Good zbB (fun g=>[177].contains g):=zw mixed ⟨ui,by simp,Hm,by simp,Xu,by simp,gk,fun _=>zu _ _,fY,by simp,sy,by simp,trivial⟩
theorem MW:Q9 zbB (fun g=>[177].contains g) 141 f141:=zpi func141
theorem MX(c:qO)(x:qL)(W:c.cb<=zx)(L:x.cb+2<=zx)(M:jx c.op=true->0<c.yC.length):zr zbB f141 [.agg c.V,.agg x.V]=some (qz (A8 x c)):=by
 have N:=Qb c;have H:zx=2097152:=rfl;have C:=zbz x c.attr L;refine zm rfl ?_;have f:∀Y Z,zf false [] (FXS (fun x s=>Wr (x.WJ s)) fun _ _=>True) [.agg [str x.key,.sl 6 (x.attrs.map yD)],str c.attr] Y Z=some (.wY [.agg (x.WJ c.attr).1.V,qz (x.WJ c.attr).2],Y,Z):=fun Y Z=>HJ (fun x s=>Wr (x.WJ s)) (fun _ _=>True) x c.attr Y Z ⟨by omega,by omega,trivial⟩
 unfold A8;generalize x.WJ c.attr=r at C f;obtain⟨v,D⟩:=r;simp only at C f;have P:=Zp v;cases D
 ·simp[qL.V,f,f141]
 by_cases j:c.op=1
 ·have a:Yc c v=true:=by unfold Yc;rw[zd j]
  simp[qL.V,f,j,a,f141]
 have b:=eqF0 j;by_cases t:c.op=2
 ·have a:Yc c v=dY v c.yC:=by unfold Yc;rw[ze j,zd t]
  have u:=fun Y Z=>Hl (fun v l=>qz (dY v l)) v c.yC Y Z ⟨C,by omega⟩ rfl
  simp[qL.V,f,t,u,a,f141]
 have e:=eqF0 t;cases g:jx c.op
 case true=>
  have a:Yc c v=(v.kind==2&&gj c.op v.n (A1 c.yC)):=by unfold Yc;rw[ze j,ze t,zd g]
  have I:=M g;obtain⟨y,l,m⟩:∃y l,c.yC=y::l:=by
   cases E:c.yC with
   |nil=>rw[E]at I;cases I
   |cons x l=>exact⟨x,l,rfl⟩
  have u:=fun Y Z=>He c.op v.n y.n Y Z
  have Q:A1 c.yC=y.n:=by rw[m];rfl
  rw[a,Q];cases J:v.kind==2
  ·simp[qL.V,f,b,e,g,J,f141]
  ·simp[qL.V,f,b,e,g,J,m,u,f141]
 cases z:ZW c.op
 case true=>
  have a:Yc c v=(v.kind==3&&VB c.op v.s c.pat):=by unfold Yc;rw[ze j,ze t,g,ze (by simp),zd z]
  have u:=fun Y Z=>Hf c.op v.s c.pat Y Z (by omega) (by omega)
  rw[a];cases K:v.kind==3
  ·simp[qL.V,f,b,e,g,z,K,f141]
  ·simp[qL.V,f,b,e,g,z,K,u,f141]
 have a:Yc c v=v.items.any fun w=>dY w c.yC:=by unfold Yc;rw[ze j,ze t,g,ze (by simp),z,ze (by simp)]
 have R:=ju v.items;have F:=fun w (a:w∈v.items)=>kD a
 rw[a];simp[qL.V,f,b,e,g,z];refine zI (fun k U Y Z=>U 2=.ref 0 0 0/\U 67=.sl 5 (v.items.map qn.V)/\U 68=int v.items.length/\U 69=int k/\1<=Z/\Y 0=some ⟨70,7,false,[c.V]⟩/\(v.items.any fun w=>dY w c.yC)=(v.items.drop k).any fun w=>dY w c.yC) v.items.length
  ⟨by simp,by simp,by simp,by simp,by simp,by simp,by simp⟩ ?_
 rintro k U Y Z X ⟨G,o,p,q,S,A,i⟩;have n1:¬0=Z:=by omega
 by_cases h:k<v.items.length
 ·have a:=zlL k;obtain⟨y,m⟩:=exI (v.items[k]);have T:=F y (by rw[<-m];exact zj h);rw[gg h,m]at i;have B:=fun Y Z=>Hl (fun v l=>qz (dY v l)) y c.yC Y Z ⟨by omega,by omega⟩ rfl
  cases d:dY y c.yC
  ·rw[d,ye]at i;rw[d]at B;simp[G,o,p,q,h,m,A,n1,B,a]
   and_intros<;>first|omega|exact A|exact i|simpa using i|simp[n1,A]
  ·rw[d,Wu]at i;rw[d]at B;simp[G,o,p,q,h,m,A,n1,B,i,f141]
 ·obtain rfl:k=v.items.length:=by omega
  rw[zo]at i;simp[G,o,p,q,i,f141]
theorem HO:zg prog 141 (zf false [] FTc):=
 zX (fn:=f141) zbC MW false [] _ fun args r h=>by obtain⟨⟨c,x⟩,rfl,⟨a,b,d⟩,rfl⟩:=zp h;exact⟨by simp[f141],_,MX c x a b d,zW _⟩
theorem DI{a b c:qn}(f:qV a b<0)(d:qV b c<0):qV a c<0:=by
 have e:=Yd.tr a b c (by omega) (by omega);rcases Qk e with h|h
 ·exact h
 ·have g:=(Yd.eq a c).1 h;have i:=Yd.tr c a b (by omega) (by omega);have:=(Yd.flip b c).1 d;omega
theorem Ov(op:Int):∀(l:List qn) (p:Option qn),X1 op p l=0->UpV l/\∀q,p=some q->∀b∈l,qV q b<0
 |[],_,_=>⟨.nil,fun _ _ _ h=>by cases h⟩
 |v::l,p,h=>by
  simp only[X1]at h;split at h
  ·split at h
   ·omega
   ·split at h
    ·omega
    ·rename_i Y;obtain⟨e,a⟩:=Ov op l (some v) h;have a:=a v rfl;refine⟨wU.2 ⟨a,e⟩,fun q f b c=>?_⟩;subst f;have d:qV q v<0:=by simp only[aG,zP]at Y;omega
     rcases zA.1 c with rfl|c
     ·exact d
     ·exact DI d (a b c)
  ·rename_i g;exact absurd h g
inductive bj:qO->Prop
 |mk {k o:Int} {a p n:List UInt8} {v:List qn} {l:List qO}:(k=4->1<=o/\o<=12/\UpV v)->(∀x∈l,bj x)->bj (.mk k a o v p n l)
theorem bj.op{c:qO}(h:bj c)(a:c.kind=4):1<=c.op/\c.op<=12/\UpV c.yC:=by cases h with|mk b _=>exact b a
theorem bj.args{c:qO}(h:bj c):∀x∈c.args,bj x:=by cases h with|mk _ a=>exact a
theorem MY(c:qO):c.fault=0->bj c:=by
 induction c using qO.ind with
 |h k a o v p n l m=>
  intro f;rw[bE]at f;split at f
  case isFalse b=>exact absurd f b
  rename_i b;have d:=ei f;refine .mk (fun q=>?_) fun x i=>m x i (d x i)
  unfold vW at b;split at b
  ·omega
  rename_i j;split at b
  ·omega
  split at b
  ·omega
  split at b
  case isFalse e=>exact absurd b e
  rename_i e;simp only[cK,PT,qO.kind,qO.op,qd,not_or,vY,Bool.not_eq_false,zH,not_and,q,beq_self_eq_true,forall_const]at j;have g:=j.2;simp only[jD,zH,zP]at g;refine⟨g.1,g.2,?_⟩;simp only[qO.op,qO.yC]at e;unfold ZI at e;split at e
  ·omega
  ·exact(Ov _ _ _ e).1
theorem sD{c:qO}(h:c.check=0):bj c:=by
 unfold qO.check at h;split at h
 ·omega
 ·exact MY c h
theorem MZ{v:qn}(h:v.check=0)(d:v.kind≠4):v.items=[]:=by
 unfold qn.check at h;split at h
 ·omega
 rw[pa]at h;split at h
 case isFalse a=>exact absurd h a
 rename_i a;unfold Jd at a;split at a
 ·omega
 split at a
 ·omega
 rename_i b;have c:(decide (0<v.items.length)&&v.kind != 4)=false:=by unfold V6 at b;simp only[qd,not_or,Bool.not_eq_true]at b;exact b.1.2
 have e:(v.kind != 4)=true:=by simpa using d
 rw[e,bg]at c;have f:¬0<v.items.length:=by simpa using c
 exact Ze (by omega)
theorem gw:∀(l:List (za×qn)) (p:Option za),QC p l=0->∀a∈l,a.2.check=0
 |[],_,_,a,h=>by cases h
 |(a,v)::l,p,h,b,c=>by
  simp only[QC]at h;split at h
  ·omega
  split at h
  ·omega
  split at h
  case isFalse d=>exact absurd h d
  rename_i e;split at h
  ·omega
  rcases zA.1 c with rfl|c
  ·exact e
  ·exact gw l _ h b c
theorem mJ{s:za}:∀{l:List (za×qn)},(∀a∈l,a.2.check=0)->(WI s l).1.kind≠4->(WI s l).1.items=[]
 |[],_,_=>rfl
 |a::l,h,c=>by
  simp only[WI]at c⊢;split at c
  ·rename_i d;rw[zd d];exact MZ (h a (by simp)) c
  ·rename_i d;rw[ze d];exact mJ (fun b e=>h b (by simp[e])) c
theorem HP{x:qL}(b:x.fault=0)(s:za)(c:(x.WJ s).1.kind≠4):(x.WJ s).1.items=[]:=by
 have e:∀a∈x.attrs,a.2.check=0:=by
  unfold qL.fault at b;split at b
  ·split at b
   ·omega
   ·exact gw _ _ b
  ·omega
 unfold qL.WJ at c⊢;split at c
 ·rename_i d;rw[zd d];rfl
 ·rename_i d;rw[ze d];exact mJ e c
theorem zez{c:qO}{v:qn}(j:v.kind≠4->v.items=[])(h:1<=c.op/\c.op<=12/\UpV c.yC):Yc c v=Jj c v:=by
 obtain⟨n,o,k⟩:=h;have g:∀w,dY w c.yC=(tY c.yC w).2:=fun w=>(zek k w).symm
 unfold Yc Jj;by_cases b:c.op=1
 ·rw[zd b,zd b]
 rw[ze b,ze b];by_cases d:c.op=2
 ·rw[zd d,zd d];exact g v
 rw[ze d,ze d];by_cases e:c.op=12
 ·have l:¬jx c.op=true:=by rw[e];decide
  have f:¬ZW c.op=true:=by rw[e];decide
  rw[zd e,ze l,ze f];have m:(fun w=>dY w c.yC)=fun w=>(tY c.yC w).2:=funext g
  rw[m];by_cases i:v.kind=4
  ·rw[i];simp
  ·rw[j i];simp
 rw[ze e];by_cases a:jx c.op=true
 ·rw[zd a,zd a]
 rw[ze a,ze a];have f:ZW c.op=true:=by simp only[jx,ZW,jD,zH,zP]at a⊢;omega
 rw[zd f]
theorem zhD{x:qL}{c:qO}(a:x.fault=0)(b:c.kind=4)(d:bj c):A8 x c=HM x c:=by unfold A8 HM;rw[zew x c.attr a,zez (HP a c.attr) (d.op b)]
structure zgf (l:List qa) (x:qL):Prop where
 ok:bh l
 len:QZ l<=zx
 cb:x.cb+2<=zx
 right:x.fault=0
def HeOk(m k:Nat)(l:List qa)(c:qO)(x:qL):Prop:=zgf l x/\c.cb<=k/\c.cb<=zx/\Jm c/\bj c/\∀n∈c.names,vD l n=true/\rkG l (xI l n)<m
def InOk(m:Nat)(l:List qa)(s:qa)(x:qL):Prop:=zgf l x/\∃i,l[i]?=some s/\rkG l i<m
noncomputable def FHe (m k:Nat):zb->Option O:=z6 (α:=List qa×qO×qL) (fun a=>[.sl 10 (a.1.map qa.V),.agg a.2.1.V,.agg a.2.2.V]) (fun a=>HeOk m k a.1 a.2.1 a.2.2) fun a=>qz (hF a.1 a.2.2 a.2.1)
noncomputable def FIn (m:Nat):zb->Option O:=z6 (α:=List qa×qa×qL) (fun a=>[.sl 10 (a.1.map qa.V),.agg a.2.1.V,.agg a.2.2.V]) (fun a=>InOk m a.1 a.2.1 a.2.2) fun a=>qz (mF a.1 a.2.2 (xI a.1 a.2.1.name))
theorem gx{m k:Nat}{l:List qa}{c:qO}{x:qL}(h:HeOk m k l c x)(Y:Hp)(Z:Nat):zf false [] (FHe m k) [.sl 10 (l.map qa.V),.agg c.V,.agg x.V] Y Z=some (qz (hF l x c),Y,Z):=
 hPc (l,c,x) _ _ (by simp[qL.V,qY]) (fun a b e=>by obtain⟨d,f,g⟩:=a;obtain⟨i,j,n⟩:=b;simp only[zh,zD,O.agg.injEq]at e;rw[kH e.1,vQ e.2.1,J0 e.2.2]) h (.inl rfl)
theorem zbD{m:Nat}{l:List qa}{s:qa}{x:qL}(h:InOk m l s x)(Y:Hp)(Z:Nat):zf false [] (FIn m) [.sl 10 (l.map qa.V),.agg s.V,.agg x.V] Y Z=some (qz (mF l x (xI l s.name)),Y,Z):=
 hPc (l,s,x) _ _ (by simp[qL.V,jc]) (fun a b e=>by obtain⟨c,d,f⟩:=a;obtain⟨g,i,j⟩:=b;simp only[zh,zD,O.agg.injEq]at e;rw[kH e.1,Xi e.2.1,J0 e.2.2]) h (.inl rfl)
theorem mK{f:FuncId}{F:zb->Option O}(a:∃fn,prog.funcs[f]?=some fn/\(fn.name== "runtime.NumGoroutine")=false/\fn.body.isNone=false)(h:∀args,F args=none):zg prog f (zf false [] F):=by
 have e:zf false [] F=fun _ _ _=>none:=by
  funext args Y Z;unfold zf;split
  ·simp only[h]
  ·rfl
 rw[e];exact WY a
theorem mL{α:Type}{V:α->zb}{b:α->Prop}{out:α->O}(h:∀a,¬b a)(args:zb):z6 V b out args=none:=by
 cases hs:z6 V b out args with
 |none=>rfl
 |some r=>obtain⟨a,_,c,_⟩:=zp hs;exact absurd c (h a)
noncomputable abbrev zfR (m k:Nat):Ctx:=zQ prog [(141,zf false [] FTc),(126,zf false [] (RO (fun l s=>Vz (yE s l)) fun l _=>l.length<=zx)),(142,zf false [] (FIn m)),(84,zf false [] (FHe m k))]
def mM(b:Bool)(f:qO->Bool)(l:List qO):Bool:=if b=true then l.all f else l.any f
theorem M1(b:Bool)(f:qO->Bool)(c:qO)(l:List qO):mM b f (c::l)=if f c=b then mM b f l else !b:=by cases b<;>cases h:f c<;>simp[mM,h]
theorem M3(m k:Nat)(l:List qa)(c:qO)(x:qL)(h:HeOk m (k+1) l c x):zr (zfR m k) f84 [.sl 10 (l.map qa.V),.agg c.V,.agg x.V]=some (qz (hF l x c)):=by
 obtain⟨u,hk,G,A,R,S⟩:=h;have hcb:=Qb c;have hal:=jW c.args;have v:=vw c;have a:=zfQ l x c;have hle:=Wk l;have T:zx=2097152:=rfl;have W:=u.len;have X:∀y∈c.args,HeOk m k l y x:=fun y f=>by have:=vC f;exact⟨u,by omega,by omega,A.args y f,R.args y f,fun n H=>S n (by rw[v];exact qg.2 (.inr (Ke.2 ⟨y,f,H⟩)))⟩
 refine zm rfl ?_;by_cases B:c.kind=4
 ·have i:=fun Y Z=>zbA c x Y Z G u.cb (A.ord B)
  rw[zhD u.right B R]at i;rw[ze (by omega),ze (by omega),ze (by omega),ze (by omega)]at a;simp only[qL.V]at i;simp[qL.V,B,i,a,f84]
 have I:=eqF0 B;by_cases C:c.kind=5
 ·rw[ze (by omega),ze (by omega),ze (by omega),zd C]at a;obtain⟨w,J⟩:=S c.name (by rw[v,zd C];simp);rcases Xw u.ok.up c.name with⟨_,hj,g,z⟩|⟨e,_⟩
  case inr=>rw[w]at e;cases e
  obtain⟨s,hs⟩:=exI (l[xI l c.name]);rw[hs]at g z;have gs:=fun Y Z=>ln (fun l s=>Vz (yE s l)) (fun l _=>l.length<=zx) l c.name Y Z (by omega)
  have K:Vz (yE c.name l)=.wY [.agg s.V,qz true]:=by rw[g];rfl
  simp only[K]at gs;have L:=fun Y Z=>zbD (m:=m) (l:=l) (s:=s) (x:=x) ⟨u,xI l c.name,by rw[zq hj,hs],J⟩ Y Z
  rw[z]at L;simp only[qL.V]at L;simp[qL.V,C,gs,L,a,f84]
 have M:=eqF0 C;by_cases D:c.kind=3
 ·rw[ze (by omega),ze (by omega),zd D]at a;obtain⟨y,f⟩:∃y,c.args=[y]:=by
   have:=A.one D
   match h:c.args,this with
   |[y],_=>exact⟨y,rfl⟩
  rw[f]at a;simp only[hdC]at a;have i:=fun Y Z=>gx (X y (by rw[f];simp)) Y Z
  simp only[qL.V]at i;simp[qL.V,D,f,i,a,f84]
 have N:=eqF0 D;have hkk:=A.kind;obtain⟨b,hb⟩:=exI (c.kind==1);have hv:hF l x c=mM b (hF l x) c.args:=by
  rw[a];unfold mM;rw[<-hb];by_cases E:c.kind=1
  ·rw[zd E,zd (by simpa using E)]
  ·rw[ze E,zd (show c.kind=2 by omega),ze (by simpa using E)]
 rw[hv];simp[qL.V,I,M,N,hb];refine zI (fun j U Y Z=>U 0=.sl 10 (l.map qa.V)/\U 5=.ref 1 0 0/\U 9=qz b/\U 46=.sl 7 (c.args.map qO.V)/\U 47=int c.args.length/\U 48=int j/\2<=Z/\Y 1=some ⟨30,2,false,[[str x.key,.sl 6 (x.attrs.map yD)]]⟩/\mM b (hF l x) c.args=mM b (hF l x) (c.args.drop j)) c.args.length
  ⟨by simp,by simp,by simp,by simp,by simp,by simp,by simp,by simp,by simp⟩ ?_
 rintro j U Y Z hj ⟨P,w,Q,p,q,r,hnx,F,g⟩;have n1:¬1=Z:=by omega
 by_cases o:j<c.args.length
 ·have hw:=zlL j;obtain⟨y,f⟩:=exI (c.args[j]);rw[zc o,f,M1]at g;have i:=fun Y Z=>gx (X y (by rw[<-f];exact zj o)) Y Z
  simp only[qL.V]at i;by_cases d:hF l x y=b
  ·rw[zd d]at g;rw[d]at i;have t:(b != b)=false:=by simp
   simp[P,w,Q,p,q,r,o,f,F,n1,i,t,hw]
   and_intros<;>first|omega|exact F|exact g|simp[n1,F]
  ·rw[ze d]at g;have t:=eqF0 d;simp[P,w,Q,p,q,r,o,f,F,n1,i,t,g,d,f84]
 ·obtain rfl:j=c.args.length:=by omega
  rw[zo]at g;have g:mM b (hF l x) c.args=b:=by rw[g];cases b<;>rfl
  simp[P,w,Q,p,q,r,g,f84]
noncomputable abbrev zfS (m:Nat):Ctx:=zQ prog [(47,zf false [1] (Iu fun l v=>qz (decide (v∈l)))),(84,zf false [] (FHe m zx))]
theorem M4(m:Nat)(l:List qa)(s:qa)(x:qL)(h:InOk (m+1) l s x):zr (zfS m) f142 [.sl 10 (l.map qa.V),.agg s.V,.agg x.V]=some (qz (mF l x (xI l s.name))):=by
 obtain⟨b,i,a,A⟩:=h;have d:=zM a;have B:=Yn d;have C:s.cb=1+s.name.length+Kf s.ins+Kf s.outs+s.cond.cb:=rfl;have u:=b.len;have w:zx=2097152:=rfl;have D:=Jv s.ins;have l2:=Jv s.outs;obtain⟨_,_,e⟩:=Ot (b.ok.right s d).2;rw[(Cz b.ok.up a).1];have q:mF l x i=(s.ins.contains x.key||(!s.outs.contains x.key&&hF l x s.cond)):=by show PW l x.key (HM x) i=_;rw[NV b.ok,U2,a];rfl
 have f:=fun Y Z=>Wn (fun l v=>qz (decide (v∈l))) s.ins x.key Y Z (by omega)
 have g:=fun Y Z=>Wn (fun l v=>qz (decide (v∈l))) s.outs x.key Y Z (by omega)
 have y:=fun Y Z=>gx (m:=m) (k:=zx) (l:=l) (c:=s.cond) (x:=x) ⟨b,by omega,by omega,Xx e,sD e,fun n z=>⟨b.ok.known s d n z,by
  have r:xI l n∈yU l i:=by unfold yU;rw[a];exact X4 z
  have:=LO b.ok i _ r;omega⟩⟩ Y Z
 simp only[qL.V]at y;refine zm rfl ?_;rw[q];by_cases j:x.key∈s.ins
 ·have o:s.ins.contains x.key=true:=by simpa using j
  rw[show decide (x.key∈s.ins)=true by simpa using j]at f;rw[o];simp[qL.V,f,f142]
 have o:s.ins.contains x.key=false:=by simpa using j
 rw[show decide (x.key∈s.ins)=false by simpa using j]at f;by_cases p:x.key∈s.outs
 ·have t:s.outs.contains x.key=true:=by simpa using p
  rw[show decide (x.key∈s.outs)=true by simpa using p]at g;rw[o,t];simp[qL.V,f,g,f142]
 have t:s.outs.contains x.key=false:=by simpa using p
 rw[show decide (x.key∈s.outs)=false by simpa using p]at g;rw[o,t];simp[qL.V,f,g,y,f142]
theorem mN(m:Nat)(h:zg prog 142 (zf false [] (FIn m)))(k:Nat):zg prog 84 (zf false [] (FHe m k)):=by
 induction k with
 |zero=>exact mK ⟨_,func84,by kernel_rfl,by kernel_rfl⟩ (mL fun a b=>by have:=V7 a.2.1;have:=b.2.1;omega)
 |succ k d=>exact pS1 (C:=zfR m k) (zw (q:=[84]) mixed ⟨HO,by simp,Ya,by simp,h,by simp,d,fun _=>zu _ _,trivial⟩) func84 false [] fun⟨l,c,x⟩ e=>⟨by simp[f84],_,M3 m k l c x e,zW _⟩
theorem HQ(m:Nat):zg prog 142 (zf false [] (FIn m)):=by
 induction m with
 |zero=>exact mK ⟨_,func142,by kernel_rfl,by kernel_rfl⟩ (mL fun a b=>by obtain⟨_,i,_,hi⟩:=b;omega)
 |succ m c=>exact pS1 (C:=zfS m) (zph mixed ⟨je,mN m c zx,trivial⟩) func142 false [] fun⟨l,s,x⟩ d=>⟨by simp[f142],_,M4 m l s x d,zW _⟩
noncomputable def FSs2:zb->Option O:=z6 (α:=List qa) (fun l=>[.sl 10 (l.map qa.V)]) (fun l=>2*QZ l<=zx) fun l=>int (jA l)
theorem Sx(l:List qa)(Y:Hp)(Z:Nat)(h:2*QZ l<=zx):zf false [] FSs2 [.sl 10 (l.map qa.V)] Y Z=some (int (jA l),Y,Z):=
 hPc l _ _ (by simp) (fun a b e=>by simp only[zh,zD]at e;exact kH e) h (.inl rfl)
noncomputable def KD:List qO->Int
 |[]=>0
 |c::l=>if c.check=0 then KD l else c.check
theorem M5{l:List qO}{k:Nat}(h:k<l.length):KD (l.drop k)=if l[k].check=0 then KD (l.drop (k+1))else l[k].check:=by rw[zc h];rfl
noncomputable def bb (l:List qa) (cs:List qO):Int:=if jA l=0 then(if KD cs=0 then dZ l cs else KD cs)else jA l
noncomputable def FAll:zb->Option O:=z6 (α:=List qa×List qO) (fun a=>[.sl 10 (a.1.map qa.V),.sl 7 (a.2.map qO.V)]) (fun a=>2*QZ a.1<=zx/\lG a.2<=zx) fun a=>int (bb a.1 a.2)
theorem zeA(l:List qa)(cs:List qO)(h:2*QZ l<=zx/\lG cs<=zx):FAll [.sl 10 (l.map qa.V),.sl 7 (cs.map qO.V)]=some (int (bb l cs)):=
 zE (V:=fun a:List qa×List qO=>[O.sl 10 (a.1.map qa.V),.sl 7 (a.2.map qO.V)]) (a:=(l,cs)) (fun a b e=>by obtain⟨f,g⟩:=a;obtain⟨i,j⟩:=b;simp only[zh,zD]at e;obtain⟨d,c⟩:=e;injection c with _ c;rw[kH d,yX (fun _ _=>vQ) c]) h
theorem zbE(l:List qa)(c:qO)(Y:Hp)(Z:Nat)(a:2*QZ l<=zx)(b:c.cb<=zx):zf false [] FAll [.sl 10 (l.map qa.V),.own Z 0 1] (qR Y Z (some ⟨70,7,true,[c.V]⟩)) (Z+1)=some (int (bb l [c]),qR Y Z (some ⟨70,7,true,[c.V]⟩),Z+1):=
 zU (Y1:=qR (qR Y Z (some ⟨70,7,true,[c.V]⟩)) Z none) (show zv (qR Y Z (some ⟨70,7,true,[c.V]⟩)) [.sl 10 (l.map qa.V),.own Z 0 1]=some ([.sl 10 (l.map qa.V),.sl 7 ([c].map qO.V)],_) by simp) (zeA l [c] ⟨a,by simpa[lG]using b⟩) (.inl rfl)
noncomputable abbrev zfT:Ctx:=zQ prog [(35,zf false [] FSs2),(124,GC fun c=>int c.check),(73,zf false [] (FSC fun l cs=>int (dZ l cs)))]
theorem sE(l:List qa)(cs:List qO)(h:2*QZ l<=zx)(v:lG cs<=zx):zr zfT f83 [.sl 10 (l.map qa.V),.sl 7 (cs.map qO.V)]=some (int (bb l cs)):=by
 have t:=Wk l;have w:=jW cs;have u:zx=2097152:=rfl;refine zm rfl ?_;have m:=fun Y Z=>Sx l Y Z h
 by_cases j:jA l=0
 case neg=>
  have n:=nzT j;have o:bb l cs=jA l:=by unfold bb;rw[ze j]
  simp[m,n,o,qS,f83]
 rw[j]at m;have o:bb l cs=if KD cs=0 then dZ l cs else KD cs:=by unfold bb;rw[zd j]
 rw[o];simp[m];refine zI (fun k U Y Z=>U 0=.sl 10 (l.map qa.V)/\U 1=.sl 7 (cs.map qO.V)/\U 14=.sl 7 (cs.map qO.V)/\U 15=int cs.length/\U 16=int k/\KD cs=KD (cs.drop k)) cs.length
  ⟨by simp,by simp,by simp,by simp,by simp,by simp⟩ ?_
 rintro k U Y Z A ⟨p,q,e,f,g,a⟩;by_cases b:k<cs.length
 ·have x:=zlL k;obtain⟨c,d⟩:=exI (cs[k]);have B:=vC (show c∈cs by rw[<-d];exact zj b);have r:=fun Y Z=>xX (fun c=>int c.check) c Y Z (by omega)
  rw[M5 b,d]at a;by_cases i:c.check=0
  ·rw[zd i]at a;rw[i]at r;simp[p,q,e,f,g,b,d,r,x];exact⟨by omega,a⟩
  ·rw[ze i]at a;have s:=nzT i;have y:¬KD cs=0:=by rw[a];exact i
   simp[p,q,e,f,g,b,d,r,s,a,i,qS,f83]
 ·obtain rfl:k=cs.length:=by omega
  rw[zo]at a;have a:KD cs=0:=a;have z:∀Y Z,zf false [] (FSC fun l cs=>int (dZ l cs)) [.sl 10 (l.map qa.V),.sl 7 (cs.map qO.V)] Y Z=some (int (dZ l cs),Y,Z):=fun Y Z=>zU (Y1:=Y) (show zv Y [.sl 10 (l.map qa.V),.sl 7 (cs.map qO.V)]=some ([.sl 10 (l.map qa.V),.sl 7 (cs.map qO.V)],Y) by simp) (zbe (fun l cs=>int (dZ l cs)) l cs ⟨by omega,v⟩) (.inl rfl)
  simp[p,q,e,f,g,a,z,qS,f83]
theorem nC:zg prog 83 (zf false [] FAll):=
 pS1 (C:=zfT) (zph mixed ⟨YO,Ys,KC,trivial⟩) func83 false [] fun⟨l,cs⟩ ⟨a,b⟩=>⟨by simp[f83],_,sE l cs a b,zW _⟩
noncomputable def DJ (l:List qa) (c:qO) (x:qL):Bool×Int:=if bb l [c]=0 then(if x.fault=0 then(hF l x c,0)else(false,x.fault))else(false,bb l [c])
noncomputable def hldP (l:List qa) (c:qO) (x:qL):O:=.wY [qz (DJ l c x).1,int (DJ l c x).2]
noncomputable def FSCX:zb->Option O:=z6 (α:=List qa×qO×qL) (fun a=>[.sl 10 (a.1.map qa.V),.agg a.2.1.V,.agg a.2.2.V]) (fun a=>2*QZ a.1<=zx/\a.2.1.cb<=zx/\a.2.2.cb+2<=zx) fun a=>hldP a.1 a.2.1 a.2.2
theorem Sy(l:List qa)(c:qO)(x:qL)(Y:Hp)(Z:Nat)(d:2*QZ l<=zx)(f:c.cb<=zx)(g:x.cb+2<=zx):zf false [] FSCX [.sl 10 (l.map qa.V),.agg c.V,.agg x.V] Y Z=some (hldP l c x,Y,Z):=
 hPc (l,c,x) _ _ (by simp[qL.V,qY]) (fun a b e=>by obtain⟨h,i,j⟩:=a;obtain⟨k,m,n⟩:=b;simp only[zh,zD,O.agg.injEq]at e;rw[kH e.1,vQ e.2.1,J0 e.2.2]) ⟨d,f,g⟩ (.inl rfl)
theorem zhE{l:List qa}{c:qO}(h:bb l [c]=0):bh l/\c.check=0/\∀n∈c.names,vD l n=true:=by
 unfold bb at h;split at h
 case isFalse b=>exact absurd h b
 rename_i g;have a:=Cy g;split at h
 case isFalse b=>exact absurd h b
 rename_i d;have e:c.check=0:=by
  simp only[KD]at d;split at d
  ·assumption
  ·exact d
 refine⟨a,e,fun n i=>?_⟩;unfold dZ at h;split at h
 ·rename_i f;simp only[q8,JA,bg]at f;unfold gI at f;have:=ql.1 f n i;rcases Xw a.up n with⟨j,_⟩|⟨_,k⟩
  ·exact j
  ·rw[k]at this;cases this
 ·omega
noncomputable abbrev Crhl:Ctx:=zQ prog [(83,zf false [] FAll),(15,zf false [] (FX fun x=>int x.fault)),(84,zf false [] (FHe 101 zx))]
theorem HR(l:List qa)(c:qO)(x:qL)(h:2*QZ l<=zx)(i:c.cb<=zx)(s:x.cb+2<=zx):zr Crhl f42 [.sl 10 (l.map qa.V),.agg c.V,.agg x.V]=some (hldP l c x):=by
 have q:zx=2097152:=rfl;refine zm rfl ?_;have g:=fun Y Z=>zbE l c Y Z h i
 unfold hldP;by_cases a:bb l [c]=0
 case neg=>
  have j:=nzT a;have b:DJ l c x=(false,bb l [c]):=by unfold DJ;rw[ze a]
  rw[b];simp[qL.V,zz,zS,zy,g,j,qS,f42]
 rw[a]at g;have o:=fun Y Z=>Cs (fun x=>int x.fault) x Y Z (by omega)
 simp only[qL.V]at o;by_cases d:x.fault=0
 case neg=>
  have p:=nzT d;have b:DJ l c x=(false,x.fault):=by unfold DJ;rw[zd a,ze d]
  rw[b];simp[qL.V,zz,zS,zy,g,o,p,qS,f42]
 obtain⟨e,f,t⟩:=zhE a;have b:DJ l c x=(hF l x c,0):=by unfold DJ;rw[zd a,zd d]
 have r:=fun Y Z=>gx (m:=101) (k:=zx) (l:=l) (c:=c) (x:=x) ⟨⟨e,by omega,s,d⟩,i,i,Xx f,sD f,fun n u=>⟨t n u,by have:=LN e (xI l n);omega⟩⟩ Y Z
 simp only[qL.V]at r;rw[b];simp[qL.V,zz,zS,zy,g,o,d,r,qS,f42]
theorem DK:zg prog 42 (zf false [] FSCX):=
 pS1 (C:=Crhl) (zph mixed ⟨nC,XV,mN 101 (HQ 101) zx,trivial⟩) func42 false [] fun⟨l,c,x⟩ ⟨a,b,d⟩=>⟨by simp[f42],_,HR l c x a b d,zW _⟩
noncomputable def FKr:zb->Option O:=z6 (α:=Rg×Int) (fun a=>[.agg (QU a.1),int a.2]) (fun a=>0<=a.1.2.1/\a.1.2.1<=100000/\0<=a.2/\a.2<=100000) (fun a=>int (a.1.2.1-a.2))
theorem zbF(r:Rg)(n:Int)(Y:Hp)(Z:Nat)(h:0<=r.2.1/\r.2.1<=100000/\0<=n/\n<=100000):zf false [] FKr [.agg (QU r),int n] Y Z=some (int (r.2.1-n),Y,Z):=
 zU (Y1:=Y) rfl (zE (V:=fun a:Rg×Int=>[O.agg (QU a.1),int a.2]) (a:=(r,n)) (fun a b e=>by obtain⟨c,i⟩:=a;obtain⟨d,j⟩:=b;simp only[zh,zD,O.agg.injEq]at e;obtain⟨f,g⟩:=e;rw[FL (a:=c) (b:=d) (by simpa using f),qB g]) h) (.inl rfl)
theorem DL:zg prog 71 (zf false [] FKr):=
 pS1 yz func71 false [] fun⟨r,n⟩ ⟨a,b,c,d⟩=>by have e:i6.wrap (r.2.1-n)=r.2.1-n:=zi (by simp only at a b c d;omega) (by simp only at a b c d;omega);exact⟨by simp[f71],_,zm rfl (by simp[e,f71]),zW _⟩
def KE(l:List Rg)(n:Int)(k:Nat):Bool:=match l[k]? with
 |some r=>decide (r.2.1-n<0)
 |none=>false
def Sz(l:List Rg)(n:Int):Nat×Bool:=(kI (KE l n) 0 l.length,match l[kI (KE l n) 0 l.length]? with
 |some r=>r.2.1-n==0
 |none=>false)
def fnRg:O:=.fn (.func 71) [] []
noncomputable def FBr:zb->Option O:=z6 (α:=List Rg×Int) (fun a=>[.sl 3 (a.1.map QU),int a.2,fnRg]) (fun a=>a.1.length<=200/\(∀r∈a.1,0<=r.2.1/\r.2.1<=100000)/\0<=a.2/\a.2<=100000) (fun a=>.wY [int (Sz a.1 a.2).1,qz (Sz a.1 a.2).2])
theorem zbG(l:List Rg)(n:Int)(Y:Hp)(Z:Nat)(h:l.length<=200/\(∀r∈l,0<=r.2.1/\r.2.1<=100000)/\0<=n/\n<=100000):zf false [] FBr [.sl 3 (l.map QU),int n,fnRg] Y Z=some (.wY [int (Sz l n).1,qz (Sz l n).2],Y,Z):=
 hPc (l,n) _ _ rfl (fun a b e=>by obtain⟨c,d⟩:=a;obtain⟨f,g⟩:=b;simp only[zh,zD]at e;rw[dB e.1,qB e.2]) h (.inl rfl)
noncomputable abbrev Cbr:Ctx:=zQ prog [(71,zf false [] FKr)]
theorem zbH(l:List Rg)(n:Int)(H:l.length<=200)(x:∀r∈l,0<=r.2.1/\r.2.1<=100000)(A:0<=n)(u:n<=100000):zr Cbr f70 [.sl 3 (l.map QU),int n,fnRg]=some (.wY [int (Sz l n).1,qz (Sz l n).2]):=by
 refine zm rfl ?_;simp[fnRg];refine ZE (fun st=>st.U 0=.sl 3 (l.map QU)/\st.U 1=int n/\st.U 2=.fn (.func 71) [] []/\st.U 8=int l.length/\∃lo hi:Nat,lo<=hi/\hi<=l.length/\st.U 9=int lo/\st.U 10=int hi/\kI (KE l n) 0 l.length=kI (KE l n) lo hi)
  (fun st=>(Wz (st.U 10)).toNat-(Wz (st.U 9)).toNat) ⟨by simp,by simp,by simp,by simp,0,l.length,by simp,by simp,by simp,by simp,rfl⟩ ?_
 rintro⟨U,Y,Z⟩ ⟨i,j,o,p,lo,hi,B,v,q,c,f⟩;simp only at i j o p q c;have d:=fun(k:Nat) (y:k<l.length) Y Z=>zbF l[k] n Y Z ⟨(x _ (zj y)).1,(x _ (zj y)).2,A,u⟩
 by_cases b:lo<hi
 ·have z:=zpg ((lo:Int)+hi);have C:(lo+hi)/2<l.length:=by omega
  obtain⟨m,D⟩:∃m,m=(lo+hi)/2:=⟨_,rfl⟩;have g:i6.wrap ((IntKind.u64.wrap ((lo:Int)+hi)).fdiv (2 ^ min 1 IntKind.u64.bits))=(m:Int):=by
   have E:IntKind.u64.wrap ((lo:Int)+hi)=(lo:Int)+hi:=by rw[Kb];omega
   have F:(2 ^ min 1 IntKind.u64.bits:Int)=2:=by decide
   rw[E,F,Ql _ (by omega),zi (by omega) (by omega)];omega
  have a:m<l.length:=by omega
  have G:=zlL m;have w:KE l n m=decide (l[m].2.1-n<0):=by simp[KE,a]
  rw[QN (lo:=lo) b,<-D,w]at f;have e:=d m a;by_cases t:l[m].2.1-n<0
  ·simp only[t,cY,qA]at f;simp[i,j,o,p,q,c,b,z,g,a,e,t,G];exact⟨⟨m+1,hi,by omega,v,by omega,rfl,f⟩,by omega⟩
  ·simp only[t,gz,zF,qJ]at f;simp[i,j,o,p,q,c,b,z,g,a,e,t];exact⟨⟨lo,m,by omega,by omega,rfl,rfl,f⟩,by omega⟩
 ·have f:kI (KE l n) 0 l.length=lo:=by rw[f,J1 (lo:=lo) b]
  unfold Sz;rw[f];by_cases h:lo<l.length
  ·have e:=d lo h;simp[i,j,o,p,q,c,b,h,e,f70,qS]
  ·have s:l[lo]?=none:=wP (by omega);simp[i,j,o,p,q,c,b,h,s,f70,qS]
theorem SA:zg prog 70 (zf false [] FBr):=
 pS1 (zw (q:=[71]) mixed ⟨DL,fun _=>zu _ _,trivial⟩:AM.Good Cbr _) func70 false [] fun⟨l,n⟩ ⟨a,b,c,d⟩=>⟨zG (zl 3) (by decide),_,zbH l n a b c d,zW _⟩
theorem SB(f:Nat->Bool)(lo hi:Nat)(h:lo<=hi):lo<kI f lo hi->f (kI f lo hi-1)=true:=by
 induction lo,hi using kI.induct (f:=f)with
 |case1 lo hi a b c=>
  rw[QN a,zd b];intro d;have e:=(NS f ((lo+hi)/2+1) hi (by omega)).1;rcases zpe e with g|g
  ·exact c (by omega) g
  ·rw[<-g];simpa using b
 |case2 lo hi a b c=>rw[QN a,ze b];intro d;exact c (by omega) d
 |case3 lo hi a=>rw[J1 a];intro d;omega
theorem lC:∀{n lo hi:Int} {p:Option Int} {l:List Rg},cM n lo hi p l->∀r∈l,lo<r.2.1/\r.2.1<=hi
 |_,_,_,_,[],_,r,b=>by cases b
 |n,lo,hi,p,a::l,h,r,b=>by
  obtain⟨d,e,f,g,i,j,c⟩:=h;rcases zA.1 b with rfl|b
  ·omega
  ·have:=lC c r b;omega
theorem sF:∀{n lo hi:Int} {p:Option Int} {l:List Rg} (h:cM n lo hi p l) (d:0<l.length),(l[l.length-1]'(by omega)).2.1=hi
 |_,_,_,_,[],_,d=>by cases d
 |n,lo,hi,p,[a],h,_=>by obtain⟨_,_,_,_,_,_,c⟩:=h;exact c
 |n,lo,hi,p,a::b::l,h,_=>by obtain⟨_,_,_,_,_,_,c⟩:=h;have:=sF c (by simp);simpa using this
def lD(l:List Rg)(n:Int):Int:=match l[(Sz l (n+1)).1]? with
 |some r=>r.2.2
 |none=>0
theorem zhF{l:List Rg}{n m:Int}(h:wW l m=0)(g:n<100000):(Sz l (n+1)).1<l.length:=by
 obtain⟨f,_,e⟩:=Yo h;have c:=(NS (KE l (n+1)) 0 l.length (kM _)).2;refine Nat.lt_of_le_of_ne c fun b=>?_
 have b:kI (KE l (n+1)) 0 l.length=l.length:=b;have a:=SB (KE l (n+1)) 0 l.length (kM _) (by rw[b];exact e);rw[b]at a;have d:=sF f e;unfold KE at a;rw[zq (by omega)]at a;simp only[zP]at a;omega
noncomputable abbrev Cva:Ctx:=zQ prog [(70,zf false [] FBr)]
theorem DM:zg prog 34 (zf false [] (LY (fun l n=>int (lD l n)) fun l n=>wW l 20=0/\0<=n/\n<100000)):=
 pS1 (zph mixed ⟨SA,trivial⟩:AM.Good Cva _) func34 false [] fun⟨l,n⟩ ⟨b,d,c⟩=>by
  simp only at b d c;obtain⟨e,f,m⟩:=Yo b;have g:=lC e;have a:=zhF b c;have h:=zpg (n+1);have i:∀Y Z,zf false [] FBr [.sl 3 (l.map QU),int (n+1),.fn (.func 71) [] []] Y Z=some (.wY [int (Sz l (n+1)).1,qz (Sz l (n+1)).2],Y,Z):=fun Y Z=>zbG l (n+1) Y Z ⟨f,fun r j=>by have:=g r j;omega,by omega,by omega⟩
  have k:lD l n=l[(Sz l (n+1)).1].2.2:=by unfold lD;rw[zq a]
  exact⟨by simp[f34],_,zm rfl (by simp[h,i,a,k,f34]),zW _⟩
theorem VI.congr{l:List qa}{x:qL}{a m:Nat}{u:Unit}{Y b:Hp}(h:VI l x a m u Y)(c:b a=Y a)(d:b m=Y m):VI l x a m u b:=by obtain⟨e,M,f,g⟩:=h;exact⟨c.trans e,M,d.trans f,g⟩
theorem SC{l:List qa}{x:qL}{a m Z0:Nat}(b:a≠m)(hid:a<Z0)(h:m<Z0)(d:bh l)(i:QZ l<=zx)(k:x.cb+2<=zx)(c:qO)(o:c.cb<=zx)(t:c.check=0)(e:∀n∈c.names,vD l n=true)(Y:Hp)(Z:Nat)(f:Z0<=Z)(u:VI l x a m () Y) :
  ∃r p q,VC (DH 101) zx [.ref a 0 0,.agg c.V] Y Z=some (r,p,q)/\jg (·=m) (VI l x a m) (qz (hF l x c)) () Y Z r p q:=
 ba (mem:=DH 101) (I:=fun j=>j<l.length/\rkG l j<101) b hid h (zG (Wk l) i) k (fun j Y Z s e v=>Ou b hid h d i k 101 j Y Z s.1 s.2 e v) zx c Y Z o o (Xx t) (fun n g=>⟨Cx (e n g),by have:=LN d (xI l n);omega⟩) f u
structure Pl where
 ly:List UInt8
 ex:List UInt8
 bu:Int
 arm:Int
def y0(p:Pl):zb:=[str p.ly,str p.ex,int p.bu,int p.arm]
theorem SD{a b:Pl}(h:y0 a=y0 b):a=b:=by obtain⟨c,d,e,f⟩:=a;obtain⟨g,i,j,k⟩:=b;simp only[y0,zh,zD]at h;rw[q9 h.1,q9 h.2.1,qB h.2.2.1,qB h.2.2.2]
noncomputable def HS (l:List qa) (x:qL) (n:Int) (y:wL) (e:Xp):Bool:=e.wE==y.name&&((Y9 [] n e.zN).any (nq (Z8 y.qy x.key))&&hF l x e.cond)
def plX(x:qL)(y:wL)(e:Xp):Pl:=⟨y.name,e.name,Z8 y.qy x.key,lD e.xR (Z8 e.qy x.key)⟩
noncomputable def whX (l:List qa) (x:qL) (n:Int) (y:wL):List Xp->List Pl
 |[]=>[]
 |e::t=>(if HS l x n y e=true then[plX x y e]else[])++whX l x n y t
noncomputable def gK (l:List qa) (b:Bk) (x:qL) (n:Int):List wL->List Pl
 |[]=>[]
 |y::t=>(if(jX y.name x.key b.holds).2=true then[]else whX l x n y b.zZ)++gK l b x n t
theorem Ow(l:List qa)(x:qL)(n:Int)(y:wL):∀es:List Xp,(whX l x n y es).length<=es.length
 |[]=>zl _
 |e::t=>by have:=Ow l x n y t;simp only[whX,qt,zV];split<;>simp<;>omega
theorem nX(l:List qa)(b:Bk)(x:qL)(n:Int):∀ys:List wL,(gK l b x n ys).length<=ys.length*b.zZ.length
 |[]=>by simp[gK]
 |y::t=>by have a:=nX l b x n t;have c:=Ow l x n y b.zZ;simp only[gK,qt,zV,q7,OA];split<;>simp<;>omega
theorem sG{b:Bk}(h:w5 b=0):b.zk.length<=20/\b.zZ.length<=100:=by
 unfold w5 at h;split at h
 ·simp at h
 ·omega
theorem DN{b:Bk}(h:w5 b=0):∀e∈b.zZ,wW e.xR 20=0/\e.cond.check=0:=by
 have f:∀{L:List wL} {xs:List Xp} {a:za} {l:List za},(Zt L a l xs).1=0->∀y∈xs,wW y.xR 20=0/\y.cond.check=0:=by
  intro L xs
  induction xs with
  |nil=>intro _ _ _ y hy;cases hy
  |cons x xs g=>
   intro a l d y hy;simp only[Zt]at d;split at d
   ·rename_i c;rcases zA.1 hy with rfl|hy
    ·exact⟨(fF c).2.2.1,(fF c).2.2.2.1⟩
    ·exact g d y hy
   ·rename_i c;exact absurd d c
 unfold w5 at h;split at h
 ·simp at h
 split at h
 case isFalse c=>exact absurd h c
 split at h
 case isFalse c=>exact absurd h c
 split at h
 case isFalse c=>exact absurd h c
 rename_i i;exact f i
noncomputable abbrev Cwhr:Ctx:=zQ prog [(29,askS),(19,zf false [] (dD fun b s t=>Az (jX s t b.holds))),(30,zf false [] (Zo T2 fun _ _=>True)),(32,zf false [] (FXI (fun x n=>.sl 2 ((Y9 [] n x.zN).map ja)) fun x _=>x.zN.length<=zx)),(31,zf false [] (FSI fun l n=>qz (l.any (nq n)))),(33,VC (DH 101) zx),(34,zf false [] (LY (fun l n=>int (lD l n)) fun l n=>wW l 20=0/\0<=n/\n<100000))]
theorem zeB:AM.Good Cwhr (fun g=>[30,34].contains g):=zw mixed ⟨Su,by simp,rA,by simp,eM,fun _=>zu _ _,L8,by simp,CE,by simp,sC (Sw 101) zx,by simp,DM,fun _=>zu _ _,trivial⟩
theorem SE:Q9 Cwhr (fun g=>[30,34].contains g) 12 f12:=zpi func12
def J8(b:Bk):kV:=⟨27,3,false,[b.V]⟩
def Kh(x:qL):kV:=⟨30,2,false,[x.V]⟩
def ej(y:wL):kV:=⟨50,3,false,[y.V]⟩
theorem M6(l:List qa)(b:Bk)(x:qL)(n:Int)(hok:bh l)(hl:QZ l<=zx)(hb:b.cb<=zx)(hx:x.cb+2<=zx)(hchk:w5 b=0)(hnm:∀e∈b.zZ,∀m∈e.cond.names,vD l m=true) :
  ∃r0,zr Cwhr f12 [.sl 10 (l.map qa.V),.agg b.V,.agg x.V,int n]=some r0/\qW r0 (.sl 4 ((gK l b x n b.zk).map y0)):=by
 refine kB rfl ?_;have hlim:zx=2097152:=rfl;obtain⟨hll,Nh⟩:=sG hchk;have hex:=DN hchk;have S8:b.cb=yt wL.cb b.zk+yt vK.cb b.holds+yt Xp.cb b.zZ:=rfl;have hxc:=JZ x;obtain⟨T,hT⟩:=exI (gK l b x n b.zk);have hTl:T.length<=2000:=by have:=nX l b x n b.zk;rw[hT]at this;have h2:=Nat.mul_le_mul hll Nh;omega
 rw[hT];have I:=zex l x (qR (qR (fun _=>none) 0 (some (J8 b))) 1 (some (Kh x))) 2;simp only[J8,Kh]at I;refine km (fun U Y Z=>U 0=.sl 10 (l.map qa.V)/\U 3=int n/\U 5=.ref 0 0 0/\U 6=.ref 1 0 0/\Y=qR (qR (fun _=>none) 0 (some (J8 b))) 1 (some (Kh x))/\Z=2) (by simp[J8,Kh,Bk.V,qL.V]) ?_;rintro U Y Z ⟨h0,q,B,D,rfl,rfl⟩;refine km (fun U Y Z=>U 3=int n/\U 5=.ref 0 0 0/\U 6=.ref 1 0 0/\U 9=.nil/\U 0=.sl 10 (l.map qa.V)/\Y=qR (qR (fun _=>none) 0 (some (J8 b))) 1 (some (Kh x))/\Z=2) (by simp[h0,q,B,D]) ?_;clear h0 q B D U;rintro U Y Z ⟨q,B,D,h9,h0,rfl,rfl⟩;refine km (fun U Y Z=>U 3=int n/\U 5=.ref 0 0 0/\U 6=.ref 1 0 0/\U 9=.nil/\U 10=.ref 4 0 0/\5<=Z/\Y 0=some (J8 b)/\Y 1=some (Kh x)/\VI l x 4 3 () Y) ?_ ?_
 ·simp only[qL.V]at I;simp[h0,q,B,D,h9,J8,Kh,qL.V,I];exact⟨rfl,[],rfl,fun p Y=>by cases Y⟩
 clear h0 q B D h9 I U;rintro U Y Z ⟨q,B,D,h9,a,hnx,N,b1,hR⟩;have C:=N;simp only[J8,Bk.V]at C;simp[B,C];refine zI (fun k U Y Z=>U 3=int n/\U 5=.ref 0 0 0/\U 6=.ref 1 0 0/\U 10=.ref 4 0 0/\U 23=.sl 3 (b.zk.map wL.V)/\U 24=int b.zk.length/\U 25=int k/\5<=Z/\Y 0=some (J8 b)/\Y 1=some (Kh x)/\VI l x 4 3 () Y/\∃d,wg Y Z 37 4 (U 9) (d.map y0)/\d++gK l b x n (b.zk.drop k)=T) b.zk.length
  ⟨by simp[q],by simp[B],by simp[D],by simp[a],by simp,by simp,by simp,hnx,N,b1,hR,[],.inl (by simp[h9]),by simpa using hT⟩ ?_
 clear q B D h9 a hnx N b1 hR C U Y Z;rintro k U Y Z hk ⟨q,B,D,a,v,z,A,hnx,N,b1,hR,d,hO,hd⟩;by_cases J:k<b.zk.length
 ·obtain⟨y,hy⟩:=exI (b.zk[k]);have hmy:=yv (f:=wL.cb) (zj J);rw[hy]at hmy;have hyc:y.cb=1+y.name.length+y.qy.length:=rfl;have hw:=zlL k;have n0:¬0=Z:=by omega
  have n1:¬1=Z:=by omega
  rw[zc J,hy,gK]at hd;have g:=hO.more (some (ej y));have o:=hR.qR (j:=Z) (some (ej y)) (by omega) (by omega);have g1:∀Y Z,zf false [] (dD fun b s t=>Az (jX s t b.holds)) [.agg b.V,str y.name,str x.key] Y Z=some (.wY [str (jX y.name x.key b.holds).1,qz (jX y.name x.key b.holds).2],Y,Z):=fun Y Z=>Vt (fun b s t=>Az (jX s t b.holds)) b y.name x.key Y Z hb (by omega) (by omega)
  have g2:=fun Y Z=>bw y.qy x.key Y Z (by omega) (by omega)
  have C:=N;have K:=b1;simp only[J8,Bk.V]at C;simp only[Kh,qL.V]at K;simp only[Bk.V]at g1;simp only[ej]at g o;cases ch:(jX y.name x.key b.holds).2
  case true=>rw[ch,zd rfl,wC]at hd;rw[ch]at g1;simp only[wL.V]at g o;simp[q,B,D,a,v,z,A,J,hy,wL.V,n0,n1,C,K,g1,hw];exact⟨by omega,by omega,rfl,rfl,o,d,g,hd⟩
  rw[ch,ze (by simp)]at hd;rw[ch]at g1;simp[q,B,D,a,v,z,A,J,hy,wL.V,n0,n1,C,K,g1,g2];obtain⟨P,hP⟩:=exI Z;rw[hP]at g o hnx n0 n1⊢;refine zI (fun i U Y Z=>U 3=int n/\U 5=.ref 0 0 0/\U 6=.ref 1 0 0/\U 10=.ref 4 0 0/\U 23=.sl 3 (b.zk.map wL.V)/\U 24=int b.zk.length/\U 25=int k/\U 12=.ref P 0 0/\U 15=int (Z8 y.qy x.key)/\U 45=.sl 13 (b.zZ.map Xp.V)/\U 46=int b.zZ.length/\U 47=int i/\P<Z/\Y 0=some (J8 b)/\Y 1=some (Kh x)/\Y P=some (ej y)/\VI l x 4 3 () Y/\∃d,wg Y Z 37 4 (U 9) (d.map y0)/\d++(whX l x n y (b.zZ.drop i)++gK l b x n (b.zk.drop (k+1)))=T) b.zZ.length
   ⟨by simp[q],by simp[B],by simp[D],by simp[a],by simp[v],by simp[z],by simp[A],by simp,by simp,by simp,by simp,by simp,(by show P<P+1;omega),by simp only;rw[zt _ _ _ _ n0];exact N,by simp only;rw[zt _ _ _ _ n1];exact b1,by simp[ej,wL.V],by simpa[wL.V]using o,d,by simpa[wL.V]using g,by simpa using hd⟩ ?_
  clear q B D a v z A N b1 hR hO hd g o C K hP d g1 n0 n1 hk U Y Z;rintro i U Y Z hi ⟨q,B,D,a,v,z,A,Q,R,W,X,h47,SS,N,b1,bP,hR,d,hO,hd⟩;by_cases M:i<b.zZ.length
  ·obtain⟨e,he⟩:=exI (b.zZ[i]);have hem:e∈b.zZ:=by rw[<-he];exact zj M
   have hme:=yv (f:=Xp.cb) hem;have hec:e.cb=e.name.length+e.wE.length+e.flag.length+e.cond.cb+e.qy.length+e.xR.length+yt yM.cb e.zN:=rfl;have hepl:=wa Kw e.zN;have hwi:=zlL i;have n0:¬0=Z:=by omega
   have n1:¬1=Z:=by omega
   have nP:¬P=Z:=by omega
   rw[zc M,he,whX]at hd;have g:=hO.more (some (ZJ e));have o:=hR.qR (j:=Z) (some (ZJ e)) (by omega) (by omega);have C:=N;have K:=b1;have bP':=bP;simp only[J8,Bk.V]at C;simp only[Kh,qL.V]at K;simp only[ej,wL.V]at bP';have k0:qR Y Z (some (ZJ e)) 0=some (J8 b):=by rw[zt _ _ _ _ n0];exact N
   have k1:qR Y Z (some (ZJ e)) 1=some (Kh x):=by rw[zt _ _ _ _ n1];exact b1
   have kP:qR Y Z (some (ZJ e)) P=some (ej y):=by rw[zt _ _ _ _ nP];exact bP
   by_cases c1:e.wE=y.name
   case neg=>
    have F:=eqF0 c1;have G:HS l x n y e=false:=by simp[HS,F]
    rw[G,ze (by simp),wC]at hd;rw[ZJ,qD]at g o k0 k1 kP;simp[q,B,D,a,v,z,A,Q,R,W,X,h47,M,he,qD,nP,bP',F,hwi];exact⟨by omega,by omega,k0,k1,rfl,o,d,g,hd⟩
   have F:(e.wE==y.name)=true:=by simpa using c1
   have H:=fun Y Z=>F7 (fun x n=>.sl 2 ((Y9 [] n x.zN).map ja)) (fun x _=>x.zN.length<=zx) e n Y Z (by omega)
   obtain⟨L,hL⟩:=exI (Y9 [] n e.zN);have hLl:L.length<=zx:=by have:=zah n e.zN;rw[hL]at this;omega
   rw[hL]at H;have hhb:=fun Y Z=>zag (fun l n=>qz (l.any (nq n))) L (Z8 y.qy x.key) Y Z hLl rfl
   cases c2:L.any (nq (Z8 y.qy x.key))
   ·have G:HS l x n y e=false:=by simp[HS,hL,c2]
    rw[G,ze (by simp),wC]at hd;rw[c2]at hhb;rw[ZJ,qD]at g o k0 k1 kP;simp only[qD]at H;simp[q,B,D,a,v,z,A,Q,R,W,X,h47,M,he,qD,nP,bP',F,H,hhb,hwi];exact⟨by omega,by omega,k0,k1,rfl,o,d,g,hd⟩
   rw[c2]at hhb;obtain⟨hex1,hex2⟩:=hex e hem;obtain⟨r,Y2,OD,e1,rfl,r2,n2,f2⟩:=SC (Z0:=5) (by decide) (by decide) (by decide) hok hl hx e.cond (by omega) hex2 (hnm e hem) (qR Y Z (some (ZJ e))) (Z+1) (by omega) o;have q0:Y2 0=some (J8 b):=by rw[f2 0 (by omega) (by decide)];exact k0
   have q1:Y2 1=some (Kh x):=by rw[f2 1 (by omega) (by decide)];exact k1
   have qP:Y2 P=some (ej y):=by rw[f2 P (by omega) (by omega)];exact kP
   have qX:Y2 Z=some (ZJ e):=by rw[f2 Z (by omega) (by omega)];simp
   obtain⟨M0,hM0,_⟩:=o.2;have E:wg Y2 OD 37 4 (U 9) (d.map y0):=g.same n2 fun id m hv=>by
    have hno:=vu g hM0 rfl m;have J:id<Z+1:=by
     rcases g with⟨hn,_⟩|⟨id',hid',hv',_⟩
     ·rw[hn]at hv;cases hv
     ·rw[hv']at hv;injection hv with hv;omega
    refine f2 id J fun q=>hno ?_
    have q:id=3:=q;rw[hv,q]
   cases c3:hF l x e.cond
   ·have G:HS l x n y e=false:=by simp[HS,c3]
    rw[G,ze (by simp),wC]at hd;rw[c3]at e1;simp only[ZJ,qD]at e1;simp only[qY]at e1;simp only[qD]at H;simp[q,B,D,a,v,z,A,Q,R,W,X,h47,M,he,qD,nP,bP',F,H,hhb,e1,hwi];exact⟨by omega,by omega,q0,q1,qP,r2,d,E,hd⟩
   have G:HS l x n y e=true:=by simp[HS,hL,F,c2,c3]
   rw[G,zd rfl]at hd;rw[c3]at e1;have g3:=fun Y Z=>bw e.qy x.key Y Z (by omega) (by omega)
   have hbl:=NC e.qy x.key;have g4:=fun Y Z=>YJ (fun l n=>int (lD l n)) (fun l n=>wW l 20=0/\0<=n/\n<100000) e.xR (Z8 e.qy x.key) Y Z ⟨hex1,by omega,by omega⟩
   have hdl:d.length+1<=2000:=by have:=zC List.length hd;simp only[qt,zV,ku]at this;omega
   obtain⟨p,Y0⟩:=exI (plX x y e);rw[Y0]at hd;have er:=E.yL (P:=prog) (t:=31) (c:=y0 p) el31 sz37 by37 ze37 rfl (by omega) (by rw[jL];unfold maxLen;omega) (by rw[jL];omega);have hbs:∀Y Z,zz prog Y Z 31 1 [(0,.agg (y0 p))]=some (.own Z 0 1,qR Y Z (some ⟨37,4,true,[y0 p]⟩),Z+1):=fun Y Z=>by simp[zz,zS,zy,y0]
   have OJ:=fun j (h:∀m,U 9≠.own j 0 m)=>yl E (qR Y2 OD (some ⟨37,4,true,[y0 p]⟩)) j h
   have kk0:=OJ 0 (vu E q0 rfl);have kk1:=OJ 1 (vu E q1 rfl);have kkP:=OJ P (vu E qP rfl);have kk4:=OJ 4 (vu E r2.1 rfl);obtain⟨M2,hM2,_⟩:=r2.2;have kk3:=OJ 3 (vu E hM2 rfl);rw[zt _ _ _ _ (by omega)]at kk0 kk1 kkP kk4 kk3;have qX':=qX;have qP':=qP;have q1':=q1;simp only[ZJ,qD]at e1 qX';simp only[qY]at e1;simp only[ej,wL.V]at qP';simp only[Kh,qL.V]at q1';simp only[qD]at H;rw[<-Y0]at er hbs kk0 kk1 kkP kk4 kk3 hd;simp only[y0,plX,jL]at er hbs kk0 kk1 kkP kk4 kk3;simp[q,B,D,a,v,z,A,Q,R,W,X,h47,M,he,qD,nP,bP',F,H,hhb,e1,qX',qP',q1',g3,g4,qe,qM,hbs,er,hwi];refine⟨by omega,by omega,kk0.trans q0,?_,?_,r2.congr ?_ ?_,d++[plX x y e],.inr ⟨OD+1,by omega,by simp,by simp[y0,plX]⟩,by rw[qT];exact hd⟩
   ·rw[zt _ _ _ _ (by omega)];exact kk1.trans q1
   ·rw[zt _ _ _ _ (by omega)];exact kkP.trans qP
   ·rw[zt _ _ _ _ (by omega)];exact kk4
   ·rw[zt _ _ _ _ (by omega)];exact kk3
  ·obtain rfl:i=b.zZ.length:=by omega
   rw[zo,whX,wC]at hd;simp[q,B,D,a,v,z,A,Q,R,W,X,h47,hw];exact⟨by omega,by omega,N,b1,hR,d,hO,hd⟩
 ·obtain rfl:k=b.zk.length:=by omega
  rw[zo,gK,kr]at hd;subst hd;simp[q,B,D,a,v,z,A,f12];obtain⟨r0,g1,g2⟩:=hO.freeze Z;exact⟨r0,g1,fun w S u hr=>dd hr g2⟩
def wPre(a:List qa×Bk×qL×Int):Prop:=bh a.1/\QZ a.1<=zx/\a.2.1.cb<=zx/\a.2.2.1.cb+2<=zx/\w5 a.2.1=0/\∀e∈a.2.1.zZ,∀m∈e.cond.names,vD a.1 m=true
def encW(a:List qa×Bk×qL×Int):zb:=[.sl 10 (a.1.map qa.V),.agg a.2.1.V,.agg a.2.2.1.V,int a.2.2.2]
theorem zbI(a b:List qa×Bk×qL×Int)(e:encW a=encW b):a=b:=by obtain⟨c,d,f,g⟩:=a;obtain⟨h,i,j,k⟩:=b;simp only[encW,zh,zD,O.agg.injEq]at e;rw[kH e.1,W0 e.2.1,J0 e.2.2.1,qB e.2.2.2]
noncomputable def FWh (out:List qa->Bk->qL->Int->O) (pre:List qa×Bk×qL×Int->Prop):zb->Option O:=z6 encW pre (fun a=>out a.1 a.2.1 a.2.2.1 a.2.2.2)
theorem gy(out:List qa->Bk->qL->Int->O)(pre:List qa×Bk×qL×Int->Prop)(l:List qa)(b:Bk)(x:qL)(n:Int)(Y:Hp)(Z:Nat)(h:pre (l,b,x,n)):zf false [] (FWh out pre) [.sl 10 (l.map qa.V),.agg b.V,.agg x.V,int n] Y Z=some (out l b x n,Y,Z):=
 zU (Y1:=Y) (show zv Y [.sl 10 (l.map qa.V),.agg b.V,.agg x.V,int n]=some ([.sl 10 (l.map qa.V),.agg b.V,.agg x.V,int n],Y) by simp[Bk.V,qL.V]) (zE (a:=(l,b,x,n)) zbI h) (.inr (by simp[Bk.V,qL.V]))
theorem HT:zg prog 12 (zf false [] (FWh (fun l b x n=>.sl 4 ((gK l b x n b.zk).map y0)) wPre)):=
 xE (fn:=f12) zeB SE false [] _ fun args r h w S vs a=>by obtain⟨⟨l,b,x,n⟩,rfl,⟨c,d,e,f,g,i⟩,rfl⟩:=zp h;obtain⟨j,k,m⟩:=M6 l b x n c d e f g i;exact⟨_,j,a,zG (zl 4) (by decide),k,m⟩
noncomputable def ck (l:List qa) (b:Bk) (x:qL) (n:Int):List Pl×Int:=if QW l b=0 then(if QP n=true then(if x.fault=0 then(gK l b x n b.zk,0)else([],x.fault))else([],1))else([],QW l b)
def J9(r:List Pl×Int):O:=.wY [.sl 4 (r.1.map y0),int r.2]
theorem nY{l:List qa}{b:Bk}(h:QW l b=0):bh l/\w5 b=0/\∀e∈b.zZ,∀m∈e.cond.names,vD l m=true:=by
 unfold QW at h;split at h
 case isFalse c=>exact absurd h c
 rename_i c;have a:=Cy c;obtain⟨d,f⟩:=Sb h;refine⟨a,d,fun e g m i=>?_⟩;have:=ql.1 (f e g) m i;unfold vD;rw[nR a.up,zhQ];exact kN this
theorem ZS(f:Int):qW (.wY [.nil,int f]) (J9 ([],f)):=ki.wY (.cons (.cZ (.inl ⟨rfl,rfl⟩)) (.cons (.refl _) .nil))
noncomputable abbrev CWhr:Ctx:=zQ prog [(9,zf false [] (FLB fun l b=>int (QW l b))),(10,zf false [] (ep QP)),(11,zf false [] (FX fun x=>int x.fault)),(12,zf false [] (FWh (fun l b x n=>.sl 4 ((gK l b x n b.zk).map y0)) wPre))]
theorem zeC:Gd CWhr:=zph mixed ⟨Hr,Xj,ra,HT,trivial⟩
theorem M7(l:List qa)(b:Bk)(x:qL)(n:Int)(j:QZ l<=zx)(k:b.cb<=zx)(p:x.cb+2<=zx):∃m,zr CWhr Tryz.f4 [.sl 10 (l.map qa.V),.agg b.V,.agg x.V,int n]=some m/\qW m (J9 (ck l b x n)):=by
 refine kB rfl ?_;have e:=fun Y Z=>zbh (fun l b=>int (QW l b)) l b Y Z j k
 have g:=fun Y Z=>Cs (fun x=>int x.fault) x Y Z (by omega)
 simp only[Bk.V]at e;simp only[qL.V]at g;by_cases a:QW l b=0
 case neg=>
  have h:=nzT a;have c:ck l b x n=([],QW l b):=by unfold ck;rw[ze a]
  rw[c];simp[Bk.V,qL.V,e,h,Tryz.f4];exact⟨_,by simp,ZS _⟩
 obtain⟨q,r,s⟩:=nY a;have o:=fun Y Z=>gy (fun l b x n=>.sl 4 ((gK l b x n b.zk).map y0)) wPre l b x n Y Z ⟨q,j,k,p,r,s⟩
 simp only[Bk.V,qL.V]at o;cases d:QP n
 ·have c:ck l b x n=([],1):=by unfold ck;rw[zd a,d,ze (by simp)]
  rw[c];simp[Bk.V,qL.V,e,a,d,Tryz.f4];exact⟨_,by simp,ZS _⟩
 by_cases f:x.fault=0
 case neg=>
  have i:=nzT f;have c:ck l b x n=([],x.fault):=by unfold ck;rw[zd a,d,zd rfl,ze f]
  rw[c];simp[Bk.V,qL.V,e,a,d,g,i,Tryz.f4];exact⟨_,by simp,ZS _⟩
 have c:ck l b x n=(gK l b x n b.zk,0):=by unfold ck;rw[zd a,d,zd rfl,zd f]
 rw[c];simp[Bk.V,qL.V,e,a,d,g,f,o,Tryz.f4];exact⟨J9 (gK l b x n b.zk,0),by simp[J9],.refl _⟩
theorem HU:zg prog 4 (zf false [] (FWh (fun l b x n=>J9 (ck l b x n)) fun a=>QZ a.1<=zx/\a.2.1.cb<=zx/\a.2.2.1.cb+2<=zx)):=
 xE (fn:=Tryz.f4) zeC (zpi func4) false [] _ fun args r h w S vs c=>by obtain⟨⟨l,b,x,n⟩,rfl,⟨d,e,f⟩,rfl⟩:=zp h;obtain⟨g,i,j⟩:=M7 l b x n d e f;exact⟨_,g,c,zG (zl 4) (by decide),i,j⟩
def rsz:List Rg->Int
 |[]=>0
 |r::l=>(r.2.1-r.1)+rsz l
def cntN(P:Int->Bool)(lo:Int):Nat->Int
 | 0=>0
 |k+1=>(if P lo then 1 else 0)+cntN P (lo+1) k
def cnt(P:Int->Bool)(lo hi:Int):Int:=cntN P lo (hi-lo).toNat
def tot(f:Rg->Int):List Rg->Int
 |[]=>0
 |r::l=>f r+tot f l
def szf(v:Nat)(r:Rg):Int:=if r.2.2=(v:Int)then r.2.1-r.1 else 0
def sz(v:Nat)(l:List Rg):Int:=tot (szf v) l
def Iv:List Rg->Int->Int
 |[],_=>-1
 |r::l,x=>if x<r.2.1 then r.2.2 else Iv l x
def Line:Int->Int->List Rg->Prop
 |lo,hi,[]=>lo=hi
 |lo,hi,r::l=>r.1=lo/\r.1<r.2.1/\Line r.2.1 hi l
def nd(w:List Int)(v:Nat):Int:=w.getD v 0
def zfU(w:List Int)(r:Rg):List Int:=w.set r.2.2.toNat (nd w r.2.2.toNat-min (nd w r.2.2.toNat) (r.2.1-r.1))
def kpv:List Rg->List Int->Int->Int
 |[],_,_=>-1
 |r::l,w,x=>if x<r.2.1 then(if x<r.1+min (nd w r.2.2.toNat) (r.2.1-r.1)then r.2.2 else -1)else kpv l (zfU w r) x
structure KInv (l:List Rg) (w0:List Int) (pre:List Rg) (at_:Int) (p:Option Int) (w:List Int) (K F:List Rg):Prop where
 len:w.length=w0.length
 tile:∃M,(K++F).Perm M/\Line 0 at_ M
 need:∀v,nd w v+sz v K=nd w0 v
 pos:∀v,0<=nd w v
 got:∀v,sz v K=min (nd w0 v) (sz v pre)
 sum:w.sum+rsz K=w0.sum
 vars:∀r∈K,0<=r.2.2/\r.2.2<w0.length
 own:∀r∈K,∀x,r.1<=x->x<r.2.1->Iv l x=r.2.2
 free:∀r∈F,∃u:Nat,nd w u=0/\∀x,r.1<=x->x<r.2.1->Iv l x=u
 ford:F.Pairwise fun a b=>a.2.1<=b.1
 last:∀s,K.getLast?=some s->s.2.1<=at_/\(s.2.1=at_->p=some s.2.2)
 wst:w=pre.foldl zfU w0
 kin:∀r∈K,∀x,r.1<=x->x<r.2.1->kpv l w0 x=r.2.2
 fin:∀r∈F,∀x,r.1<=x->x<r.2.1->kpv l w0 x=-1
def mvf(l:List Rg)(r:Rg):Int:=cnt (fun x=>Iv l x != r.2.2) r.1 r.2.1
structure FInv (l:List Rg) (w0:List Int) (K0 F0:List Rg) (w:List Int) (v:Nat) (Fl R:List Rg):Prop where
 len:w.length=w0.length
 tile:∃M,(K0++Fl++R).Perm M/\Line 0 100000 M
 need:∀u,nd w u+sz u (K0++Fl)=nd w0 u
 pos:∀u,0<=nd w u
 sum:w.sum=rsz R
 low:∀u,u<v->nd w u=0
 vars:∀r∈K0++Fl,0<=r.2.2/\r.2.2<w0.length
 zpc:tot (mvf l) Fl+rsz R=rsz F0
 free:∀r∈R,∃u:Nat,nd w u=0/\∀x,r.1<=x->x<r.2.1->Iv l x=u
 ford:R.Pairwise fun a b=>a.2.1<=b.1
 fils:Fl.Pairwise fun a b=>a.2.1<=b.1/\a.2.2<=b.2.2
 bef:∀a∈Fl,a.2.2<=v/\∀r∈R,a.2.1<=r.1
 kf:∀r∈Fl++R,∀x,r.1<=x->x<r.2.1->kpv l w0 x=-1
abbrev Pc:=Int×Int×Int×Int
def zfV:Int->Int->List Pc->Prop
 |lo,hi,[]=>lo=hi
 |lo,hi,p::l=>p.1=lo/\p.1<p.2.1/\zfV p.2.1 hi l
structure zhU (a b:List Rg) (at_:Int) (d:List Pc):Prop where
 line:zfV 0 at_ d
 same:∀p∈d,∀x,p.1<=x->x<p.2.1->Iv a x=p.2.2.1/\Iv b x=p.2.2.2
def ptot:List Pc->Int
 |[]=>0
 |p::l=>(if p.2.2.1=p.2.2.2 then 0 else p.2.1-p.1)+ptot l
def pmv(p:Pc)(m:Int):Int:=if p.2.2.1=p.2.2.2 then p.2.1-p.1 else min (p.2.1-p.1) m
def puse(p:Pc)(m:Int):Int:=if p.2.2.1=p.2.2.2 then 0 else min (p.2.1-p.1) m
def rmS(s:List Rg×Int)(p:Pc):List Rg×Int:=(putR (putR s.1 p.1 (p.1+pmv p s.2) p.2.2.2) (p.1+pmv p s.2) p.2.1 p.2.2.1,s.2-puse p s.2)
def rmL(l:List Pc)(m:Int):List Rg×Int:=l.foldl rmS ([],m)
def zkN(d:List Pc)(n:Int)(k:Nat):List (List Rg):=(List.range k).map fun(i:Nat)=>(rmL d (ptot d*((i:Int)+1)/n)).1
structure WayOk (l t:List Rg) (d:List Pc) (n:Int) (N:Nat):Prop where
 nN:n=N
 pos:0<N
 le:N<=100
 cl:cM 20 0 100000 none l
 ct:cM 20 0 100000 none t
 ll:l.length<=200
 pc:zhU l t 100000 d
 few:∀s∈zkN d n N,s.length<=200
section
variable{l t:List Rg}{d:List Pc}{n:Int}{N:Nat}(h:WayOk l t d n N)
include h
end
structure znA (κ:Int->Int) (w:List Int) (d:List Rg):Prop where
 chain:cM 20 0 100000 none d
 kp:∀x,0<=x->x<100000->κ x≠-1->Iv d x=κ x
 mono:∀x y,0<=x->x<y->y<100000->κ x=-1->κ y=-1->Iv d x<=Iv d y
 cnt:∀v:Nat,v<20->cnt (fun x=>κ x==-1&&Iv d x==(v:Int)) 0 100000=nd w v
structure RInv (κ:Int->Int) (w0:List Int) (at_:Int) (d:List Rg) (w:List Int):Prop where
 ge:0<=at_/\at_<=100000
 len:w.length=20
 chain:cM 20 0 at_ none d
 kp:∀x,0<=x->x<at_->κ x≠-1->Iv d x=κ x
 mono:∀x y,0<=x->x<y->y<at_->κ x=-1->κ y=-1->Iv d x<=Iv d y
 cnt:∀v:Nat,v<20->nd w v+cnt (fun x=>κ x==-1&&Iv d x==(v:Int)) 0 at_=nd w0 v
 low:∀x,0<=x->x<at_->κ x=-1->∀u:Nat,(u:Int)<Iv d x->nd w u=0
 pos:∀v,0<=nd w v
 sum:w.sum=Q.cnt (fun x=>κ x==-1) at_ 100000
structure zpd (Y:Hp) (Z id:Nat) (d:List Rg) (u:List Int) (x:O) (Y':Hp) (Z':Nat):Prop where
 up:Z<=Z'
 own:zkC Y' Z' x d
 here:Y' id=some ⟨3,1,true,u.map encI⟩
 rest:∀j,j<Z->j≠id->Y' j=Y j
 new:∀j m,x=.own j 0 m->Z<=j
def Ka:List Rg->Int->Int
 |[],_=>0
 |r::l,x=>if r.1<=x/\x<r.2.1 then r.2.2 else Ka l x
structure Cuts (a b:List Rg) (L:List Int):Prop where
 many:2<=L.length
 first:∀h:0<L.length,L[0]=0
 last:∀h:L.length-1<L.length,L[L.length-1]=100000
 incr:∀i j (hi:i<L.length) (hj:j<L.length),i<j->L[i]<L[j]
 in_:∀c∈L,0<=c/\c<=100000
 ea:∀r∈a,r.1∈L/\r.2.1∈L
 eb:∀r∈b,r.1∈L/\r.2.1∈L
structure Ord (hi:Int) (d:List Rg):Prop where
 pw:d.Pairwise fun a b=>a.2.1<=b.1
 mem:∀r∈d,0<=r.1/\r.1<r.2.1/\r.2.1<=hi
end Go.Q
namespace Go.AM
open Go.RowKit Go.Sort
variable{dr:Prop}
end Go.AM
namespace Go.Q
theorem M8{l:List Rg}{k:Nat}(h:k<l.length)(x:Int):Ka (l.drop k) x=if l[k].1<=x/\x<l[k].2.1 then l[k].2.2 else Ka (l.drop (k+1)) x:=by rw[zc h,Ka]
theorem M9(l:List Rg)(x:Int)(j:l.length<=100000):zr C0 f86 [.sl 3 (l.map QU),int x]=some (int (Ka l x)):=by
 refine zm rfl ?_;simp;refine zI (fun k U Y Z=>U 1=int x/\U 7=.sl 3 (l.map QU)/\U 8=int l.length/\U 9=int k/\Ka l x=Ka (l.drop k) x) l.length
  ⟨by simp,by simp,by simp,by simp,by simp⟩ ?_
 rintro k U Y Z m ⟨c,d,e,f,b⟩;by_cases a:k<l.length
 ·have i:=zlL k;rw[M8 a]at b;by_cases g:l[k].1<=x<;>by_cases h:x<l[k].2.1<;>simp only[g,h,and_self,zD,and_false,qA,qJ]at b
  ·simp[c,d,e,f,a,g,h,b,f86]
  all_goals
   simp[c,d,e,f,a,g,h,i];exact⟨a,b⟩
 ·obtain rfl:k=l.length:=by omega
  rw[zo,Ka]at b;simp[c,d,e,f,b,f86]
theorem HV:zg prog 86 (zf false [] (LY (fun l x=>int (Ka l x)) fun l _=>l.length<=100000)):=
 pS1 yz func86 false [] fun⟨l,n⟩ a=>⟨zG (zl 2) (by decide),_,M9 l n a,zW _⟩
theorem zeD{b:Bk}(h:w5 b=0){e:Xp}(a:e∈b.zZ)(n:Int):okS (Y9 [] n e.zN):=by
 rcases CF n e.zN []with g|⟨p,Y,g⟩
 ·rw[g];exact zdx
 ·rw[g];exact zgJ (KT ((zhg h).2.1 e a).1 p Y)
theorem zbJ:∀{n lo hi:Int} {p:Option Int} {l:List Rg},cM n lo hi p l->∀x,lo<=x->x<hi->∃j,∃g:j<l.length,Ka l x=l[j].2.2/\(∀k (b:k<l.length),k<j->l[k].2.1<=x)/\(∀k (b:k<l.length),j<=k->x<l[k].2.1)
 |_,lo,hi,_,[],h,x,i,m=>by have h:lo=hi:=h;omega
 |n,lo,hi,p,a::l,h,x,t,o=>by
  obtain⟨i,m,u,v,w,y,e⟩:=h;by_cases f:x<a.2.1
  ·refine⟨0,by simp,?_,fun k b h=>by omega,fun k b _=>?_⟩
   ·simp only[Ka];rw[zd ⟨by omega,f⟩];rfl
   ·match k with
    | 0=>exact f
    |k+1=>
     have c:k<l.length:=by simpa using b
     have:=lC e _ (zj c);simp only[List.getElem_cons_succ];omega
  ·obtain⟨j,g,q,r,s⟩:=zbJ e x (by omega) o;refine⟨j+1,by simp;omega,?_,fun k b d=>?_,fun k b d=>?_⟩
   ·simp only[Ka];rw[ze (by omega)];simpa using q
   ·match k with
    | 0=>simp only[JB];omega
    |k+1=>simpa using r k (by simpa using b) (by omega)
   ·match k with
    | 0=>omega
    |k+1=>simpa using s k (by simpa using b) (by omega)
theorem zbK{l:List Rg}{m n:Int}(h:wW l m=0)(d:0<=n)(e:n<100000):lD l n=Ka l n:=by
 obtain⟨f,_,_⟩:=Yo h;obtain⟨j,c,g,i,o⟩:=zbJ f n d e;have p:kI (KE l (n+1)) 0 l.length=j:=bF (n:=l.length) (fun k b=>by
   have:=i k (by omega) b;simp[KE,show k<l.length by omega];omega) (fun k b a=>by
   have:=o k a b;simp[KE,a];omega) (kM _) (Nat.le_of_lt c) (zl _)
 unfold lD Sz;simp only[p];rw[zq c,g]
noncomputable abbrev Cq21:Ctx:=zQ prog [(85,zf false [] (LY (fun l n=>int (wW l n)) fun _ n=>1<=n/\n<=20)),(86,zf false [] (LY (fun l x=>int (Ka l x)) fun l _=>l.length<=100000))]
theorem Na:zg prog 43 (zf false [] (LY (fun l x=>.wY [int (lD l x),int 0]) fun l x=>wW l 20=0/\0<=x/\x<100000)):=
 pS1 (C:=Cq21) (zph mixed ⟨QH,HV,trivial⟩) func43 false [] fun⟨l,x⟩ ⟨a,b,c⟩=>by
  simp only at a b c;have h:=(Yo a).2.1;have d:=fun Y Z=>YJ (fun l n=>int (wW l n)) (fun _ n=>1<=n/\n<=20) l 20 Y Z ⟨by omega,by omega⟩
  have e:=fun Y Z=>YJ (fun l x=>int (Ka l x)) (fun l _=>l.length<=100000) l x Y Z (by omega)
  rw[a]at d;rw[<-zbK a b c]at e;have f:¬x<0:=by omega
  have g:¬100000<=x:=by omega
  exact⟨by simp[f43],_,zm rfl (by simp[d,e,f,g,qS,f43]),zW _⟩
theorem HW(n:Int):∀l:List Sp,mY l n=l.any (nq n)
 |[]=>rfl
 |s::l=>by rw[wN,<-HW n l];rfl
theorem zbL{l:List qa}{b:Bk}(h:QW l b=0){e:Xp}(d:e∈b.zZ):bb l [e.cond]=0:=by
 obtain⟨f,g,i⟩:=nY h;have hs:jA l=0:=by
  unfold QW at h;split at h
  ·assumption
  ·exact h
 have c:=(DN g e d).2;unfold bb;rw[zd hs];have j:KD [e.cond]=0:=by simp[KD,c]
 rw[zd j];unfold dZ;rw[zd];simp only[q8,JA,bg];unfold gI;refine ql.2 fun n k=>?_
 rcases Xw f.up n with⟨_,_,a,_⟩|⟨a,_⟩
 ·rw[a];rfl
 ·rw[i e d n k]at a;cases a
noncomputable abbrev Crwh:Ctx:=zQ prog [(22,zf false [] (dD fun b s t=>Az (jX s t b.holds))),(39,zf false [] (Zo T2 fun _ _=>True)),(41,zf false [] (FXI (fun x n=>.sl 2 ((Y9 [] n x.zN).map ja)) fun x _=>x.zN.length<=zx)),(40,zf false [] (FPN (fun l x=>qz (mY l x)) fun l _=>l.length<=100000)),(42,zf false [] FSCX),(43,zf false [] (LY (fun l x=>.wY [int (lD l x),int 0]) fun l x=>wW l 20=0/\0<=x/\x<100000))]
theorem zeE:AM.Good Crwh (fun g=>[39,43].contains g):=zw mixed ⟨gd,by simp,cF,fun _=>zu _ _,tS,by simp,Px,by simp,DK,by simp,Na,fun _=>zu _ _,trivial⟩
theorem SF:Q9 Crwh (fun g=>[39,43].contains g) 16 f16:=zpi func16
theorem HX(l:List qa)(b:Bk)(x:qL)(n:Int)(hl:2*QZ l<=zx)(hb:b.cb<=zx)(hx:x.cb+2<=zx)(hchk:QW l b=0)(hfx:x.fault=0) :
  ∃r0,zr Crwh f16 [.sl 10 (l.map qa.V),.agg b.V,.agg x.V,int n]=some r0/\qW r0 (.sl 4 ((gK l b x n b.zk).map y0)):=by
 refine kB rfl ?_;have hlim:zx=2097152:=rfl;obtain⟨hok,hcf,hnm⟩:=nY hchk;obtain⟨hll,Nh⟩:=sG hcf;have hex:=DN hcf;have S8:b.cb=yt wL.cb b.zk+yt vK.cb b.holds+yt Xp.cb b.zZ:=rfl;have hxc:=JZ x;obtain⟨T,hT⟩:=exI (gK l b x n b.zk);have hTl:T.length<=2000:=by have:=nX l b x n b.zk;rw[hT]at this;have h2:=Nat.mul_le_mul hll Nh;omega
 rw[hT];refine km (fun U Y Z=>U 0=.sl 10 (l.map qa.V)/\U 3=int n/\U 5=.ref 0 0 0/\U 6=.ref 1 0 0/\Y=qR (qR (fun _=>none) 0 (some (J8 b))) 1 (some (Kh x))/\Z=2) (by simp[J8,Kh,Bk.V,qL.V]) ?_;rintro U Y Z ⟨z,A,v,B,rfl,rfl⟩;refine km (fun U Y Z=>U 0=.sl 10 (l.map qa.V)/\U 3=int n/\U 5=.ref 0 0 0/\U 6=.ref 1 0 0/\U 9=.nil/\2<=Z/\Y 0=some (J8 b)/\Y 1=some (Kh x)) (by simp[z,A,v,B]) ?_;clear z A v B U;rintro U Y Z ⟨z,A,v,B,h9,hnx,I,b1⟩;have r:=I;simp only[J8,Bk.V]at r;simp[v,r];refine zI (fun k U Y Z=>U 0=.sl 10 (l.map qa.V)/\U 3=int n/\U 5=.ref 0 0 0/\U 6=.ref 1 0 0/\U 22=.sl 3 (b.zk.map wL.V)/\U 23=int b.zk.length/\U 24=int k/\2<=Z/\Y 0=some (J8 b)/\Y 1=some (Kh x)/\∃d,wg Y Z 37 4 (U 9) (d.map y0)/\d++gK l b x n (b.zk.drop k)=T) b.zk.length
  ⟨by simp[z],by simp[A],by simp[v],by simp[B],by simp,by simp,by simp,hnx,I,b1,[],.inl (by simp[h9]),by simpa using hT⟩ ?_
 clear z A v B h9 hnx I b1 r U Y Z;rintro k U Y Z hk ⟨z,A,v,B,g,o,q,hnx,I,b1,d,hO,hd⟩;by_cases hlt:k<b.zk.length
 ·obtain⟨y,hy⟩:=exI (b.zk[k]);have hmy:=yv (f:=wL.cb) (zj hlt);rw[hy]at hmy;have hyc:y.cb=1+y.name.length+y.qy.length:=rfl;have hw:=zlL k;have n0:¬0=Z:=by omega
  have n1:¬1=Z:=by omega
  rw[zc hlt,hy,gK]at hd;have a:=hO.more (some (ej y));have g1:∀Y Z,zf false [] (dD fun b s t=>Az (jX s t b.holds)) [.agg b.V,str y.name,str x.key] Y Z=some (.wY [str (jX y.name x.key b.holds).1,qz (jX y.name x.key b.holds).2],Y,Z):=fun Y Z=>Vt (fun b s t=>Az (jX s t b.holds)) b y.name x.key Y Z hb (by omega) (by omega)
  have g2:=fun Y Z=>bw y.qy x.key Y Z (by omega) (by omega)
  have r:=I;have C:=b1;simp only[J8,Bk.V]at r;simp only[Kh,qL.V]at C;simp only[Bk.V]at g1;simp only[ej]at a;cases ch:(jX y.name x.key b.holds).2
  case true=>rw[ch,zd rfl,wC]at hd;rw[ch]at g1;simp only[wL.V]at a;simp[z,A,v,B,g,o,q,hlt,hy,wL.V,n0,n1,r,C,g1,hw];exact⟨by omega,by omega,rfl,rfl,d,a,hd⟩
  rw[ch,ze (by simp)]at hd;rw[ch]at g1;simp[z,A,v,B,g,o,q,hlt,hy,wL.V,n0,n1,r,C,g1,g2];obtain⟨P,hP⟩:=exI Z;rw[hP]at a hnx n0 n1⊢;refine zI (fun i U Y Z=>U 0=.sl 10 (l.map qa.V)/\U 3=int n/\U 5=.ref 0 0 0/\U 6=.ref 1 0 0/\U 22=.sl 3 (b.zk.map wL.V)/\U 23=int b.zk.length/\U 24=int k/\U 11=.ref P 0 0/\U 14=int (Z8 y.qy x.key)/\U 44=.sl 13 (b.zZ.map Xp.V)/\U 45=int b.zZ.length/\U 46=int i/\P<Z/\Y 0=some (J8 b)/\Y 1=some (Kh x)/\Y P=some (ej y)/\∃d,wg Y Z 37 4 (U 9) (d.map y0)/\d++(whX l x n y (b.zZ.drop i)++gK l b x n (b.zk.drop (k+1)))=T) b.zZ.length
   ⟨by simp[z],by simp[A],by simp[v],by simp[B],by simp[g],by simp[o],by simp[q],by simp,by simp,by simp,by simp,by simp,(by show P<P+1;omega),by simp only;rw[zt _ _ _ _ n0];exact I,by simp only;rw[zt _ _ _ _ n1];exact b1,by simp[ej,wL.V],d,by simpa[wL.V]using a,by simpa using hd⟩ ?_
  clear z A v B g o q I b1 hO hd a r C hP d g1 n0 n1 hk U Y Z;rintro i U Y Z hi ⟨z,A,v,B,g,o,q,J,K,M,N,Q,SS,I,b1,bP,d,hO,hd⟩;by_cases G:i<b.zZ.length
  ·obtain⟨e,he⟩:=exI (b.zZ[i]);have hem:e∈b.zZ:=by rw[<-he];exact zj G
   have hme:=yv (f:=Xp.cb) hem;have hec:e.cb=e.name.length+e.wE.length+e.flag.length+e.cond.cb+e.qy.length+e.xR.length+yt yM.cb e.zN:=rfl;have hepl:=wa Kw e.zN;have hwi:=zlL i;have n0:¬0=Z:=by omega
   have n1:¬1=Z:=by omega
   have nP:¬P=Z:=by omega
   rw[zc G,he,whX]at hd;have a:=hO.more (some (ZJ e));have r:=I;have C:=b1;have R:=bP;simp only[J8,Bk.V]at r;simp only[Kh,qL.V]at C;simp only[ej,wL.V]at R;have k0:qR Y Z (some (ZJ e)) 0=some (J8 b):=by rw[zt _ _ _ _ n0];exact I
   have k1:qR Y Z (some (ZJ e)) 1=some (Kh x):=by rw[zt _ _ _ _ n1];exact b1
   have kP:qR Y Z (some (ZJ e)) P=some (ej y):=by rw[zt _ _ _ _ nP];exact bP
   by_cases c1:e.wE=y.name
   case neg=>
    have D:=eqF0 c1;have E:HS l x n y e=false:=by simp[HS,D]
    rw[E,ze (by simp),wC]at hd;rw[ZJ,qD]at a k0 k1 kP;simp[z,A,v,B,g,o,q,J,K,M,N,Q,G,he,qD,nP,R,D,hwi];exact⟨by omega,by omega,k0,k1,rfl,d,a,hd⟩
   have D:(e.wE==y.name)=true:=by simpa using c1
   have F:=fun Y Z=>F7 (fun x n=>.sl 2 ((Y9 [] n x.zN).map ja)) (fun x _=>x.zN.length<=zx) e n Y Z (by omega)
   have hLk:=(zeD hcf hem n).2.2.2;obtain⟨L,hL⟩:=exI (Y9 [] n e.zN);rw[hL]at hLk;rw[hL]at F;have H:=fun Y Z=>T8 (fun l x=>qz (mY l x)) (fun l _=>l.length<=100000) L (Z8 y.qy x.key) Y Z hLk
   rw[HW]at H;cases c2:L.any (nq (Z8 y.qy x.key))
   ·have E:HS l x n y e=false:=by simp[HS,hL,c2]
    rw[E,ze (by simp),wC]at hd;rw[c2]at H;rw[ZJ,qD]at a k0 k1 kP;simp only[qD]at F;simp[z,A,v,B,g,o,q,J,K,M,N,Q,G,he,qD,nP,R,D,F,H,hwi];exact⟨by omega,by omega,k0,k1,rfl,d,a,hd⟩
   rw[c2]at H;obtain⟨hex1,hex2⟩:=hex e hem;have W:∀Y Z,zf false [] FSCX [.sl 10 (l.map qa.V),.agg e.cond.V,.agg x.V] Y Z=some (.wY [qz (hF l x e.cond),int 0],Y,Z):=fun Y Z=>by rw[Sy l e.cond x Y Z hl (by omega) hx];unfold hldP DJ;rw[zd (zbL hchk hem),zd hfx]
   simp only[qY,qL.V]at W;cases c3:hF l x e.cond
   ·have E:HS l x n y e=false:=by simp[HS,c3]
    rw[E,ze (by simp),wC]at hd;rw[c3]at W;rw[ZJ,qD]at a k0 k1 kP;simp only[qD]at F;simp[z,A,v,B,g,o,q,J,K,M,N,Q,G,he,qD,nP,n1,C,R,D,F,H,W,hwi];refine⟨by omega,by omega,k0,?_,rfl,d,a,hd⟩
    first
     |rfl
     |exact k1
   have E:HS l x n y e=true:=by simp[HS,hL,D,c2,c3]
   rw[E,zd rfl]at hd;rw[c3]at W;have g3:=fun Y Z=>bw e.qy x.key Y Z (by omega) (by omega)
   have hbl:=NC e.qy x.key;have g4:∀Y Z,zf false [] (LY (fun l x=>.wY [int (lD l x),int 0]) fun l x=>wW l 20=0/\0<=x/\x<100000) [.sl 3 (e.xR.map QU),int (Z8 e.qy x.key)] Y Z=some (.wY [int (lD e.xR (Z8 e.qy x.key)),int 0],Y,Z):=fun Y Z=>YJ (fun l x=>.wY [int (lD l x),int 0]) (fun l x=>wW l 20=0/\0<=x/\x<100000) e.xR (Z8 e.qy x.key) Y Z ⟨hex1,by omega,by omega⟩
   have hdl:d.length+1<=2000:=by have:=zC List.length hd;simp only[qt,zV,ku]at this;omega
   obtain⟨p,Y0⟩:=exI (plX x y e);rw[Y0]at hd;have er:=a.yL (P:=prog) (t:=31) (c:=y0 p) el31 sz37 by37 ze37 rfl (by omega) (by rw[jL];unfold maxLen;omega) (by rw[jL];omega);have hbs:∀Y Z,zz prog Y Z 31 1 [(0,.agg (y0 p))]=some (.own Z 0 1,qR Y Z (some ⟨37,4,true,[y0 p]⟩),Z+1):=fun Y Z=>by simp[zz,zS,zy,y0]
   have OJ:=fun j (h:∀m,U 9≠.own j 0 m)=>yl a (qR (qR Y Z (some (ZJ e))) (Z+1) (some ⟨37,4,true,[y0 p]⟩)) j h
   have X:=OJ 0 (vu a k0 rfl);have kk1:=OJ 1 (vu a k1 rfl);have kkP:=OJ P (vu a kP rfl);rw[zt _ _ _ _ (by omega)]at X kk1 kkP;rw[ZJ,qD]at er X kk1 kkP k0 k1 kP;simp only[qD]at F;rw[<-Y0]at er hbs X kk1 kkP hd;simp only[y0,plX,jL]at er hbs X kk1 kkP;simp[z,A,v,B,g,o,q,J,K,M,N,Q,G,he,qD,nP,n1,C,R,D,F,H,W,g3,g4,qe,qM,hbs,er,hwi];refine⟨by omega,by omega,X.trans k0,kk1.trans k1,?_,d++[plX x y e],.inr ⟨Z+1+1,by omega,by simp,by simp[y0,plX]⟩,by rw[qT];exact hd⟩;rw[zt _ _ _ _ (by omega)];exact kkP.trans kP
  ·obtain rfl:i=b.zZ.length:=by omega
   rw[zo,whX,wC]at hd;simp[z,A,v,B,g,o,q,J,K,M,N,Q,hw];exact⟨by omega,by omega,I,b1,d,hO,hd⟩
 ·obtain rfl:k=b.zk.length:=by omega
  rw[zo,gK,kr]at hd;subst hd;simp[z,A,v,B,g,o,q,f16];obtain⟨r0,g1,g2⟩:=hO.freeze Z;exact⟨r0,g1,fun w S u hr=>dd hr g2⟩
def zbM(a:List qa×Bk×qL×Int):Prop:=2*QZ a.1<=zx/\a.2.1.cb<=zx/\a.2.2.1.cb+2<=zx/\QW a.1 a.2.1=0/\a.2.2.1.fault=0
theorem DO:zg prog 16 (zf false [] (FWh (fun l b x n=>.sl 4 ((gK l b x n b.zk).map y0)) zbM)):=
 xE (fn:=f16) zeE SF false [] _ fun args r h w S vs a=>by obtain⟨⟨l,b,x,n⟩,rfl,⟨c,d,e,f,g⟩,rfl⟩:=zp h;obtain⟨i,j,k⟩:=HX l b x n c d e f g;exact⟨_,i,a,zG (zl 4) (by decide),j,k⟩
noncomputable abbrev zfW:Ctx:=zQ prog [(13,zf false [] (FLB2 fun l b=>int (QW l b))),(14,zf false [] (ep QP)),(15,zf false [] (FX fun x=>int x.fault)),(16,zf false [] (FWh (fun l b x n=>.sl 4 ((gK l b x n b.zk).map y0)) zbM))]
theorem zbN:Gd zfW:=zph mixed ⟨DB,KS,XV,DO,trivial⟩
theorem HY(l:List qa)(b:Bk)(x:qL)(n:Int)(j:2*QZ l<=zx)(k:b.cb<=zx)(p:x.cb+2<=zx):∃m,zr zfW Tryz.f5 [.sl 10 (l.map qa.V),.agg b.V,.agg x.V,int n]=some m/\qW m (J9 (ck l b x n)):=by
 refine kB rfl ?_;have e:=fun Y Z=>Sl (fun l b=>int (QW l b)) l b Y Z j k rfl
 have g:=fun Y Z=>Cs (fun x=>int x.fault) x Y Z (by omega)
 simp only[Bk.V]at e;simp only[qL.V]at g;by_cases a:QW l b=0
 case neg=>
  have h:=nzT a;have c:ck l b x n=([],QW l b):=by unfold ck;rw[ze a]
  rw[c];simp[Bk.V,qL.V,e,h,Tryz.f5];exact⟨_,by simp,ZS _⟩
 cases d:QP n
 ·have c:ck l b x n=([],1):=by unfold ck;rw[zd a,d,ze (by simp)]
  rw[c];simp[Bk.V,qL.V,e,a,d,Tryz.f5];exact⟨_,by simp,ZS _⟩
 by_cases f:x.fault=0
 case neg=>
  have i:=nzT f;have c:ck l b x n=([],x.fault):=by unfold ck;rw[zd a,d,zd rfl,ze f]
  rw[c];simp[Bk.V,qL.V,e,a,d,g,i,Tryz.f5];exact⟨_,by simp,ZS _⟩
 have c:ck l b x n=(gK l b x n b.zk,0):=by unfold ck;rw[zd a,d,zd rfl,zd f]
 have o:=fun Y Z=>gy (fun l b x n=>.sl 4 ((gK l b x n b.zk).map y0)) zbM l b x n Y Z ⟨j,k,p,a,f⟩
 simp only[Bk.V,qL.V]at o;rw[c];simp[Bk.V,qL.V,e,a,d,g,f,o,Tryz.f5];exact⟨J9 (gK l b x n b.zk,0),by simp[J9],.refl _⟩
theorem DP:zg prog 5 (zf false [] (FWh (fun l b x n=>J9 (ck l b x n)) fun a=>2*QZ a.1<=zx/\a.2.1.cb<=zx/\a.2.2.1.cb+2<=zx)):=
 xE (fn:=Tryz.f5) zbN (zpi func5) false [] _ fun args r h w S vs c=>by obtain⟨⟨l,b,x,n⟩,rfl,⟨d,e,f⟩,rfl⟩:=zp h;obtain⟨g,i,j⟩:=HY l b x n d e f;exact⟨_,g,c,zG (zl 4) (by decide),i,j⟩
theorem zix(l:List qa)(b:Bk)(x:qL)(n:Int):(ck l b x n).1.length<=2000:=by
 unfold ck;split
 ·rename_i a;obtain⟨_,c,_⟩:=nY a;obtain⟨d,e⟩:=sG c;have f:=nX l b x n b.zk;have g:=Nat.mul_le_mul d e;split
  ·split
   ·show(gK l b x n b.zk).length<=2000;omega
   ·simp
  ·simp
 ·simp
noncomputable def FPe:zb->Option O:=z6 (α:=List Pl) (fun a=>[.sl 4 (a.map y0),.sl 4 (a.map y0)]) (fun a=>a.length<=zx) fun _=>qz true
theorem zeG{a b:List Pl}(h:O.sl 4 (a.map y0)=.sl 4 (b.map y0)):a=b:=by injection h with _ h;exact yX (fun _ _=>SD) h
theorem zbO(l:List Pl)(Y:Hp)(Z:Nat)(h:l.length<=zx):zf false [] FPe [.sl 4 (l.map y0),.sl 4 (l.map y0)] Y Z=some (qz true,Y,Z):=
 hPc l _ _ (by simp) (fun a b e=>by simp only[zh,zD]at e;exact zeG e.1) h (.inl rfl)
theorem zhG(s:Pl):ZZ prog .neq 37 (.agg [str s.ly,str s.ex,int s.bu,int s.arm]) (.agg [str s.ly,str s.ex,int s.bu,int s.arm])=some (qz false):=by
 have b:∀a:za,(ByteArray.mk a.toArray==ByteArray.mk a.toArray)=true:=fun a=>by show(a.toArray==a.toArray)=true;simp
 simp only[ZZ,fl37];simp[yi,b]
theorem Nb(l:List Pl)(h:l.length<=zx):zr C0 Tryz.f6 [.sl 4 (l.map y0),.sl 4 (l.map y0)]=some (qz true):=by
 have e:zx=2097152:=rfl;refine zm rfl ?_;simp;refine zI (fun k U Y Z=>U 0=.sl 4 (l.map y0)/\U 1=.sl 4 (l.map y0)/\U 12=int l.length/\U 13=int k) l.length ⟨by simp,by simp,by simp,by simp⟩ ?_;rintro k U Y Z j ⟨f,g,a,b⟩;by_cases c:k<l.length
 ·obtain⟨p,d⟩:=exI (l[k]);have i:=zlL k;simp[f,g,a,b,c,d,y0,zhG,i];omega
 ·obtain rfl:k=l.length:=by omega
  simp[a,b,qS,Tryz.f6]
theorem HZ:zg prog 6 (zf false [] FPe):=
 pS1 yz func6 false [] fun l a=>⟨by simp[Tryz.f6],_,Nb l a,zW _⟩
noncomputable abbrev Clwh:Ctx:=zQ prog [(4,zf false [] (FWh (fun l b x n=>J9 (ck l b x n)) fun a=>QZ a.1<=zx/\a.2.1.cb<=zx/\a.2.2.1.cb+2<=zx)),(5,zf false [] (FWh (fun l b x n=>J9 (ck l b x n)) fun a=>2*QZ a.1<=zx/\a.2.1.cb<=zx/\a.2.2.1.cb+2<=zx)),(6,zf false [] FPe),(7,zf false [] (dD N1)),(8,zf false [] (dD N1))]
theorem zeH:Gd Clwh:=zph mixed ⟨HU,DP,HZ,Ma,Dj,trivial⟩
theorem zbP:Q9 Clwh g0F 3 Tryz.f3:=zpi func3
theorem zeI(l:List qa)(b:Bk)(x:qL)(s:za)(n:Int)(j:2*QZ l<=zx)(c:b.cb<=zx)(e:x.cb+2<=zx)(hs:s.length<=zx):zr Clwh Tryz.f3 [.sl 10 (l.map qa.V),.agg b.V,.agg x.V,str s,int n]=some (qz true):=by
 have f:zx=2097152:=rfl;have k:=JZ x;refine zm rfl ?_;have g:=zix l b x n;have h:∀Y Z,zf false [] (FWh (fun l b x n=>J9 (ck l b x n)) fun a=>QZ a.1<=zx/\a.2.1.cb<=zx/\a.2.2.1.cb+2<=zx) [.sl 10 (l.map qa.V),.agg b.V,.agg x.V,int n] Y Z=some (.wY [.sl 4 ((ck l b x n).1.map y0),int (ck l b x n).2],Y,Z):=fun Y Z=>gy (fun l b x n=>J9 (ck l b x n)) (fun a=>QZ a.1<=zx/\a.2.1.cb<=zx/\a.2.2.1.cb+2<=zx) l b x n Y Z ⟨by show QZ l<=zx;omega,c,e⟩
 have i:∀Y Z,zf false [] (FWh (fun l b x n=>J9 (ck l b x n)) fun a=>2*QZ a.1<=zx/\a.2.1.cb<=zx/\a.2.2.1.cb+2<=zx) [.sl 10 (l.map qa.V),.agg b.V,.agg x.V,int n] Y Z=some (.wY [.sl 4 ((ck l b x n).1.map y0),int (ck l b x n).2],Y,Z):=fun Y Z=>gy (fun l b x n=>J9 (ck l b x n)) (fun a=>2*QZ a.1<=zx/\a.2.1.cb<=zx/\a.2.2.1.cb+2<=zx) l b x n Y Z ⟨j,c,e⟩
 have m:=fun Y Z=>zbO (ck l b x n).1 Y Z (by omega)
 have d:=fun Y Z=>Vt N1 b s x.key Y Z c hs (by omega)
 simp only[N1]at d;simp only[Bk.V,qL.V]at h i d;simp[Bk.V,qL.V,h,i,m,d,Tryz.f3]
end Go.Q
