/- Lemmas. -/
import Derived.Test.YtmngbpkapamhoaaGreatDoorG5
set_option maxRecDepth 100000
set_option maxHeartbeats 4000000
open Go Proofs Proofs.YtmngbpkapamhoaaGreatDoor Proofs.Tryz RowKit AM SpanLaw Q Zz
open Go.IntKind renaming i64→i6
namespace Go.Q
open Go.RowKit Go.AM Go.PrLaw
def Zh:qu ⊕ za->zb
 | .inl v=>v.V
 | .inr s=>[int 3,int 0,str s,.nil,.nil]
def Kl:qu ⊕ za->za
 | .inl v=>v.show
 | .inr s=>Z2 s
def R1(n:Nat):qu ⊕ za->Prop
 | .inl v=>Xn v/\v.vb<=zA/\v.vb<=n
 | .inr s=>s.length<=zA/\0<n
theorem gp{a b:qu ⊕ za}(h:[O.agg (Zh a)]=[.agg (Zh b)]):a=b:=by
 simp only[zj,zG,O.agg.injEq]at h;cases a<;>cases b<;>simp only[Zh]at h
 ·rw[YW h]
 ·rw[Qm]at h;simp at h
 ·rw[Qm]at h;simp at h
 ·simp only[zj,zG,Gr]at h;rw[wC h]
noncomputable def Na (n:Nat):zb->Option (za×O):=qd (α:=qu ⊕ za) (fun a=>[.agg (Zh a)]) (R1 n) (fun a=>(Kl a,.w5 []))
theorem R2(n:Nat)(a:qu ⊕ za)(h:R1 n a):Na n [.agg (Zh a)]=some (Kl a,.w5 []):=qD (V:=fun a:qu ⊕ za=>[.agg (Zh a)]) (a:=a) (fun _ _=>gp) h
theorem zeD(a:qu ⊕ za):¬R1 0 a:=by
 cases a with
 |inl v=>intro h;have:=Kk v;have:=h.2.2;omega
 |inr s=>intro h;exact absurd h.2 (Nat.lt_irrefl 0)
theorem R3{f:FuncId}(b:∃fn,prog.funcs[f]?=some fn/\(fn.name== "runtime.NumGoroutine")=false/\fn.body.isNone=false):zg prog f (xh TB UB (Na 0)):=by
 refine⟨b,fun args Y Z r Y' Z' h=>?_⟩;unfold xh at h;split at h
 ·split at h
  ·obtain⟨_,_,h⟩:=yw.1 h;obtain⟨_,h,_⟩:=yw.1 h;obtain⟨a,_,c,_⟩:=zO h;exact(zeD a c).elim
  ·cases h
 ·cases h
theorem shS{Y:Hp}{Z m:Nat}{cur:za}(n:Nat)(v:qu)(B:lS TB UB Y Z m cur)(h:Xn v/\v.vb<=zA/\v.vb<=n)(a:cur.length+v.show.length<=140737488355328) :
  ∃Y',xh TB UB (Na n) [.ref 0 0 0,.agg v.V] Y Z=some (.w5 [],Y',Z+1)/\lS TB UB Y' (Z+1) Z (cur++v.show)/\∀j,j≠0->j≠m->j≠Z->Y' j=Y j:=
 B.put (Y1:=Y) (by simp only[zC,Zt]) (by simp only[wi,aQ,V4,Pq]) (show Na n [.agg v.V]=some (v.show,.w5 [])from R2 n (.inl v) h) a
noncomputable abbrev Csh (n:Nat):Ctx:=zV prog [(142,xh TB UB (Na n)),(52,xh TB UB M9),(10,xh TB UB RV),(173,hP FBo),(174,xh TB UB FTh),(175,xh TB UB FQu)]
theorem HR(n:Nat)(s:za)(hs:s.length<=zA){Y:Hp}{Z:Nat}{l:za}{a:Blk}{K:Hp->Hp}(b:ZY TB UB Y Z l a K)(c:l.length+(Z2 s).length<=140737488355328) :
  tX TB UB (yR (Csh n) f142 [.ref 0 0 0,.agg [int 3,int 0,str s,.nil,.nil]] Y Z) (l++Z2 s) (.w5 []):=by
 refine W8 rfl ?_;obtain⟨Y1,d,e,_⟩:=b.put (h:=qq Y Z (some ⟨145,5,false,[[int 3,int 0,str s,.nil,.nil]]⟩)) (Z':=Z+1) (F:=FQu) (rest:=[str s]) (yd _) (fun j f=>zD _ _ _ _ (by omega)) rfl rfl (A9 s hs) c;simp[d,f142];exact e.ends (by simp) (by simp)
theorem NA(n:Nat)(v:qu)(h:Xn v/\v.vb<=zA/\v.vb<=n+1){Y:Hp}{Z:Nat}{l:za}{b0:Blk}{K:Hp->Hp}(H:ZY TB UB Y Z l b0 K)(t:l.length+v.show.length<=140737488355328) :
  tX TB UB (yR (Csh n) f142 [.ref 0 0 0,.agg v.V] Y Z) (l++v.show) (.w5 []):=by
 refine W8 rfl ?_;obtain⟨E,hv,hvn⟩:=h;have hvb:=Wg v;have hl1:=jw v.items;have hl2:=kP v.fields;unfold zA at hv;have hkd:=E.kind;obtain⟨R,G⟩:∃R,R=qq Y Z (some ⟨145,5,false,[v.V]⟩):=⟨_,rfl⟩;have u:∀j,j<Z->R j=Y j:=fun j hj=>by rw[G];exact zD _ _ _ _ (by omega)
 have T:R Z=some ⟨145,5,false,[v.V]⟩:=by rw[G];simp
 have GJ:=H.pos;rcases(by omega:v.kind=0\/v.kind=1\/v.kind=2\/v.kind=3\/v.kind=4\/v.kind=5)with hk|hk|hk|hk|hk|hk
 ·have d:v.show=[110,117,108,108]:=by rw[xK,zd hk]
  rw[d]at t⊢;obtain⟨Y1,e,w,_⟩:=wsF H (yd Z) u [110,117,108,108] (by simp) (by simpa using t);rw[G]at e;simp[hk,e,f142];exact w.ends (by simp) (by simp)
 ·have d:v.show=Lib.formatBool (v.n==1):=by
   rw[xK,ze (by omega),zd hk];by_cases h1:v.n=1
   ·rw[zd h1,h1];rfl
   ·rw[ze h1,show(v.n==1)=false from qQ.2 h1];rfl
  rw[d]at t⊢;have hf:=fun Y Z=>RZ (v.n==1) Y Z
  obtain⟨Y1,e,w,_⟩:=wsF H (yd Z) u (Lib.formatBool (v.n==1)) (by cases (v.n==1)<;>decide) t;rw[G]at e;simp[hk,hf,e,f142];exact w.ends (by simp) (by simp)
 ·have d:v.show=Jp v.n:=by rw[xK,ze (by omega),ze (by omega),zd hk]
  rw[d]at t⊢;obtain⟨Y1,e,w,_⟩:=H.put (h:=R) (Z':=Z+1) (F:=FTh) (rest:=[int v.n]) (yd _) u rfl rfl (zeB v.n (E.num hk)) t;rw[G]at e;simp[hk,e,f142];exact w.ends (by simp) (by simp)
 ·have d:v.show=Z2 v.s:=by rw[xK,ze (by omega),ze (by omega),ze (by omega),zd hk]
  rw[d]at t⊢;obtain⟨Y1,e,w,_⟩:=H.put (h:=R) (Z':=Z+1) (F:=FQu) (rest:=[str v.s]) (yd _) u rfl rfl (A9 v.s (by unfold zA;omega)) t;rw[G]at e;simp[hk,e,f142];exact w.ends (by simp) (by simp)
 ·have d:v.show=91::(Lib.join (v.items.map qu.show) [44]++[93]):=by rw[xK,ze (by omega),ze (by omega),ze (by omega),ze (by omega),zd hk]
  rw[d]at t⊢;obtain⟨U,y⟩:=wZ (Lib.join (v.items.map qu.show) [44]);have I:U=JV [44] 0 ((v.items.drop 0).map qu.show):=by rw[wY,<-y];rfl
  rw[y]at t⊢;simp at t;obtain⟨Y1,e,w,z⟩:=wbF H (yd Z) u 91 91 rfl (by omega);have S:Y1 Z=some ⟨145,5,false,[v.V]⟩:=by rw[z Z (zl _) (by omega),T]
  rw[G]at e;simp[hk,e,S];refine zL (fun k σ Y Z=>σ 0=.ref 0 0 0/\σ 39=.sl 5 (v.items.map qu.V)/\σ 40=int v.items.length/\σ 41=int k/\∃m cur,lS TB UB Y Z m cur/\l++91::(U++[93])=cur++(JV [44] k ((v.items.drop k).map qu.show)++[93])) v.items.length ⟨by simp,by simp,by simp,by simp,Z+1,l++[91],w,by rw[<-I];simp⟩ ?_;rintro k σ Y Z hkl ⟨J,o,p,q,m,cur,B,c⟩;by_cases f:k<v.items.length
  ·have hw:=qe k;have g:=zi f;have hm:=kY g;have i:=E.items _ g;rw[zc f,z6,VA]at c;obtain⟨x,L⟩:=wZ (v.items[k]);rw[L]at c hm i;have M:i6.wrap 1=1:=by decide
   have b:=zo List.length c;have W:=B.same (Z':=Z+1) (Y':=qq Y Z (some ⟨145,5,false,[x.V]⟩)) (yd _) (fun j hj=>zD _ _ _ _ (by omega));by_cases r:k=0
   ·subst r;simp at c b;obtain⟨Y2,A,C,_⟩:=shS n x W ⟨i,by unfold zA;omega,by omega⟩ (by omega);simp[J,o,p,q,f,L,A,M];exact⟨by omega,_,_,C,by simpa using c⟩
   ·rw[ze r]at c;have N:0<k:=by omega
    simp[r]at c b;obtain⟨Y2,A,C,D⟩:=Nz W 44 44 rfl (by omega);have hmn:=B.2.2.2;have P:Y2 Z=some ⟨145,5,false,[x.V]⟩:=by rw[D Z (by omega) (by omega) (by omega)];simp
    obtain⟨hp3,X,B3,_⟩:=shS n x C ⟨i,by unfold zA;omega,by omega⟩ (by simp;omega);simp[J,o,p,q,f,L,N,A,P,X,hw];exact⟨by omega,_,_,B3,by simpa using c⟩
  ·obtain rfl:k=v.items.length:=by omega
   rw[zp,yX,Y8]at c;have b:=zo List.length c;simp at c b;obtain⟨Y2,A,C,_⟩:=Nz B 93 93 rfl (by omega);simp[J,o,p,q,A,f142];exact C.ends (by simpa using c) (by simp)
 ·have d:v.show=123::(Lib.join (v.fields.map ZP) [44]++[125]):=by rw[xK,ze (by omega),ze (by omega),ze (by omega),ze (by omega),ze (by omega)]
  rw[d]at t⊢;obtain⟨U,y⟩:=wZ (Lib.join (v.fields.map ZP) [44]);have I:U=JV [44] 0 ((v.fields.drop 0).map ZP):=by rw[wY,<-y];rfl
  rw[y]at t⊢;simp at t;obtain⟨Y1,e,w,z⟩:=wbF H (yd Z) u 123 123 rfl (by omega);have S:Y1 Z=some ⟨145,5,false,[v.V]⟩:=by rw[z Z (zl _) (by omega),T]
  rw[G]at e;simp[hk,e,S];refine zL (fun k σ Y Z=>σ 0=.ref 0 0 0/\σ 61=.sl 6 (v.fields.map kI)/\σ 62=int v.fields.length/\σ 63=int k/\∃m cur,lS TB UB Y Z m cur/\l++123::(U++[125])=cur++(JV [44] k ((v.fields.drop k).map ZP)++[125])) v.fields.length ⟨by simp,by simp,by simp,by simp,Z+1,l++[123],w,by rw[<-I];simp⟩ ?_;rintro k σ Y Z hkl ⟨J,o,p,q,m,cur,B,c⟩;by_cases f:k<v.fields.length
  ·have hw:=qe k;have g:=zi f;have hm:=ZL g;have i:=E.fields _ g;rw[zc f,z6,VA]at c;obtain⟨⟨a,x⟩,L⟩:∃x,v.fields[k]=x:=⟨_,rfl⟩;rw[L]at c hm i;simp only[ZP]at c;simp only at hm i;have M:i6.wrap 1=1:=by decide
   have b:=zo List.length c;have W:=B.same (Z':=Z+1) (Y':=qq Y Z (some ⟨184,6,false,[str a::x.V]⟩)) (yd _) (fun j hj=>zD _ _ _ _ (by omega));have hmn:=B.2.2.2;have b1:qq Y Z (some ⟨184,6,false,[str a::x.V]⟩) Z=some ⟨184,6,false,[str a::x.V]⟩:=by simp
   by_cases r:k=0
   ·subst r;simp at c b;obtain⟨Y2,A,C,D⟩:=W.put (F:=FQu) (rest:=[str a]) rfl rfl (A9 a (by unfold zA;omega)) (by omega);have P:=(D Z (by omega) (by omega) (by omega)).trans b1;obtain⟨hp3,X,B3,Q⟩:=Nz C 58 58 rfl (by simp;omega);have f3:=(Q Z (by omega) (by omega) (by omega)).trans P;obtain⟨hp4,e4,B4,_⟩:=shS n x B3 ⟨i,by unfold zA;omega,by omega⟩ (by simp;omega);simp[J,o,p,q,f,L,A,P,X,f3,e4,M];exact⟨by omega,_,_,B4,by simpa using c⟩
   ·rw[ze r]at c;have N:0<k:=by omega
    simp[r]at c b;obtain⟨Y1,e,w,z⟩:=Nz W 44 44 rfl (by omega);have S:=(z Z (by omega) (by omega) (by omega)).trans b1;obtain⟨Y2,A,C,D⟩:=w.put (F:=FQu) (rest:=[str a]) rfl rfl (A9 a (by unfold zA;omega)) (by simp;omega);have P:=(D Z (by omega) (by omega) (by omega)).trans S;obtain⟨hp3,X,B3,Q⟩:=Nz C 58 58 rfl (by simp;omega);have f3:=(Q Z (by omega) (by omega) (by omega)).trans P;obtain⟨hp4,e4,B4,_⟩:=shS n x B3 ⟨i,by unfold zA;omega,by omega⟩ (by simp;omega);simp[J,o,p,q,f,L,N,e,S,A,P,X,f3,e4,hw];exact⟨by omega,_,_,B4,by simpa using c⟩
  ·obtain rfl:k=v.fields.length:=by omega
   rw[zp,yX,Y8]at c;have b:=zo List.length c;simp at c b;obtain⟨Y2,A,C,_⟩:=Nz B 125 125 rfl (by omega);simp[J,o,p,q,A,f142];exact C.ends (by simpa using c) (by simp)
theorem HS:∀n,zg prog 142 (xh TB UB (Na n)):=by
 intro n
 induction n with
 |zero=>exact R3 ⟨_,func142,by kernel_rfl,by kernel_rfl⟩
 |succ n f=>
  have g:Gd (Csh n):=zW mixed ⟨f,dZ,Vd,sr,ee,DZ,trivial⟩;exact Ql (code:=_) g ⟨func142,by kernel_rfl,rfl,by kernel_rfl⟩ _ _ (Na (n+1)) fun xs t r h=>by
   obtain⟨a,rfl,c,e⟩:=zO h;injection e with i j;subst i;subst j;refine⟨rfl,zI (zl 2) (by decide),fun Y Z l k K d b=>?_⟩;cases a with
   |inl v=>exact NA n v c d b
   |inr s=>exact HR n s c.1 d b
noncomputable def FXs:zb->Option O:=qd (α:=qu ⊕ za) (fun a=>[.agg (Zh a)]) (R1 zA) (fun a=>str (Kl a))
theorem R4(v:qu)(Y:Hp)(Z:Nat)(h:Xn v)(b:v.vb<=zA):hP FXs [.agg v.V] Y Z=some (str v.show,Y,Z):=
 yI (Y1:=Y) (show zC Y [.agg v.V]=some ([.agg v.V],Y) by simp only[zC,Zt]) (qD (V:=fun a:qu ⊕ za=>[.agg (Zh a)]) (a:=.inl v) (fun _ _=>gp) ⟨h,b,b⟩) (.inl rfl)
theorem zaZ(s:za)(Y:Hp)(Z:Nat)(h:s.length<=zA):hP FXs [.agg [int 3,int 0,str s,.nil,.nil]] Y Z=some (str (Z2 s),Y,Z):=
 yI (Y1:=Y) (show zC Y [.agg [int 3,int 0,str s,.nil,.nil]]=some ([.agg [int 3,int 0,str s,.nil,.nil]],Y) by simp) (qD (V:=fun a:qu ⊕ za=>[.agg (Zh a)]) (a:=.inr s) (fun _ _=>gp) ⟨h,by unfold zA;omega⟩) (.inl rfl)
theorem Ba(v:qu)(h:Xn v):v.show≠[]:=by
 have a:=h.kind;rw[xK];split
 ·simp
 split
 ·split<;>simp
 split
 ·unfold Jp;intro e;have:=gn (v.n.natAbs/1000);simp_all
 split
 ·simp[Z2]
 split<;>simp
noncomputable abbrev Cxs:Ctx:=zV prog [(142,xh TB UB (Na zA)),(15,HN)]
theorem zeE:Gd Cxs:=zW mixed ⟨HS zA,iE,trivial⟩
theorem HT(a:qu ⊕ za)(h:R1 zA a):zv Cxs f99 [.agg (Zh a)]=some (str (Kl a)):=by
 have c:Kl a≠[]:=by
  cases a with
  |inl v=>exact Ba v h.1
  |inr s=>simp[Kl,Z2]
 have b:(Kl a).length<=140737488355328:=by
  cases a with
  |inl v=>have:=KJ v h.1;have d:=h.2.1;unfold zA at d;simp only[Kl];omega
  |inr s=>have:=W9 s;have d:=h.1;unfold zA at d;simp only[Kl];omega
 refine zn rfl ?_;have e:∀h:Hp,zC h [.agg (Zh a)]=some ([.agg (Zh a)],h):=fun h=>by
  cases a with
  |inl v=>simp only[Zh,zC,Zt]
  |inr s=>simp[Zh]
 have f:([O.agg (Zh a)].all O.noOwn)=true:=by
  cases a with
  |inl v=>simp only[Zh,wi,aQ,V4,Pq]
  |inr s=>rfl
 obtain⟨Y1,k,l,m,_⟩:=ot (T:=TB) (U:=UB) (F:=Na zA) (h:=qq (qq (fun _=>none) 0 (some ⟨145,5,false,[Zh a]⟩)) 1 (some ⟨37,2,false,[[.v (.pointer none),.nil]]⟩)) (id:=1) (Z':=2) (rest:=[.agg (Zh a)]) (by rw[wU];rfl) (by omega) (e _) f (R2 zA a h) b;have n:=fun Z=>oq Y1 Z 1 2 (Kl a) l m c (by omega)
 have g:(Zh a).length=5:=by
  cases a with
  |inl v=>simp[Zh]
  |inr s=>rfl
 have i:(Zh a).take 5=Zh a:=zZ (by omega);have j:(∀x,x∈Zh a->O.yk x=true)=True:=eq_true (by
  cases a with
  |inl v=>intro x o;have:=ua v;rw[ql]at this;exact this x o
  |inr s=>simp[Zh,O.yk])
 simp[g,i,j,k,n,f99]
theorem D1:zg prog 99 (hP FXs):=
 vM zeE func99 false [] fun a b=>⟨by simp[f99],_,HT a b,z8 _⟩
end Go.Q
namespace Go.Q
def Bb(done:List za)(k:Nat):List zb:=done.map (fun p=>[str p])++List.replicate k [str []]
theorem D2(done:List za)(k:Nat)(p:za):(Bb done (k+1)).set done.length [str p]=Bb (done++[p]) k:=by unfold Bb;rw[List.set_append_right _ _ (by simp)];simp[List.replicate_succ]
theorem D3(done:List za)(k:Nat):(Bb done (k+1))[done.length]?=some [str []]:=by unfold Bb;rw[zY (by simp)];simp[List.replicate_succ]
theorem NB(done:List za):Bb done 0=done.map fun p=>[str p]:=by simp[Bb]
def qy(s sep:za):List za:=Lib.split s sep
theorem cI{sep s:za}{i k:Nat}(h:Lib.index s sep=i):Lib.splitK sep 0 (k+1) s=s.take i::Lib.splitK sep 0 k (s.drop (i+sep.length)):=by
 have a:¬(Lib.index s sep==-1)=true:=by rw[jY];omega
 rw[Lib.splitK,ze a,h];simp
theorem ud{s sep:za}(h:sep≠[]):Lib.count s sep<=s.length:=by have:=Lib.countB_le ⟨sep.toArray⟩ (by cases sep<;>simp_all) s.length ⟨s.toArray⟩ (by simp);simpa[Lib.countB]using this
theorem R5(a b:za)(Y:Hp)(Z:Nat)(h:a.length<=zA)(c:b.length<=zA)(d:1<=b.length):hP (Yx cntP fun _ b=>1<=b.length) [str a,str b] Y Z=some (int (Lib.count a b),Y,Z):=xT _ _ a b Y Z h c d rfl
def VD(xs:List za):Blk:=⟨9,1,true,xs.map fun p=>[str p]⟩
theorem ss(s sep:za)(E:s.length<=zA)(F:sep.length<=zA)(u:1<=sep.length) :
  ∃x Y Z,yR Ci2 f232 [str s,str sep,int 0,int (-1)] (fun _=>none) 0=some (x,Y,Z)/\XJ (some (VD (qy s sep))) x Y Z:=by
 have b:sep≠[]:=by intro e;subst e;simp at u
 have G:=ud (s:=s) b;unfold zA at E F;refine Vt rfl ?_;have l:=jN b;have v:=wq ((Lib.count s sep:Int)+1);have H:=wq ((s.length:Int)+1);have w3:(if(s.length:Int)+1<(Lib.count s sep:Int)+1 then(s.length:Int)+1 else(Lib.count s sep:Int)+1)=(Lib.count s sep:Int)+1:=ze (by omega);have I:i6.wrap ((Lib.count s sep:Int)+1-1)=(Lib.count s sep:Int):=by rw[wS (by omega) (by omega)];omega
 have m:=wq (Lib.count s sep:Int);have w:((Lib.count s sep:Int)+1).toNat=Lib.count s sep+1:=by omega
 have y:0<=(Lib.count s sep:Int)+1:=by omega
 have c3:Lib.count s sep+1<=maxLen:=by simp[maxLen];omega
 have J:(Lib.count s sep+1)*16<=140737488355328:=by omega
 have n:=fun Y Z=>R5 s sep Y Z (by unfold zA;omega) (by unfold zA;omega) u
 have o:¬s.length<Lib.count s sep:=by omega
 have K:(Lib.count s sep:Int)+1<=(maxLen:Int):=by simp[maxLen];omega
 simp[l,n,v,H,o,I,m,Wn,w,y,K,J];refine zL (fun j σ Y Z=>∃done cur,done.length=j/\σ 0=str cur/\σ 1=str sep/\σ 2=int 0/\σ 3=int (Lib.count s sep)/\σ 9=.own 0 0 (Lib.count s sep+1)/\σ 10=int j /\
   Y 0=some ⟨9,1,true,Bb done (Lib.count s sep+1-j)⟩/\j+Lib.count cur sep=Lib.count s sep/\qy s sep=done++qy cur sep/\cur.length<=s.length) (Lib.count s sep)
  ⟨[],s,rfl,by simp,by simp,by simp,by simp[m],by simp,by simp,by simp[Bb],by simp,by simp,zl _⟩ ?_
 rintro j σ Y Z hj ⟨done,cur,hd,z,A,B,C,D,d,k,hc,hs,hl⟩;have f:∀Y Z,hP (Yx HJ fun _ _=>True) [str cur,str sep] Y Z=some (int (Lib.index cur sep),Y,Z):=fun Y Z=>KH cur sep Y Z (by unfold zA;omega) (by unfold zA;omega)
 by_cases p:j<Lib.count s sep
 ·have L:Lib.index cur sep≠-1:=fun e=>by have:=U5 e;omega
  have q:0<=Lib.index cur sep:=by
   rcases Lib.index_spec cur sep with⟨h,_⟩|⟨i,h,_⟩
   ·exact absurd h L
   ·omega
  obtain⟨i,hi⟩:∃i:Nat,Lib.index cur sep=i:=⟨(Lib.index cur sep).toNat,by omega⟩;have M:=Lib.index_room cur sep q;rw[hi]at M f;have r:=zfK b hi;have c:qy cur sep=cur.take i::qy (cur.drop (i+sep.length)) sep:=by unfold qy Lib.split;rw[r,Q5 1,cI hi]
  have N:¬((i:Int)<0):=by omega
  have P:=wq (i:Int);have Q:=wq ((i:Int)+sep.length);have R:=qe j;have S:((i:Int)+sep.length).toNat=i+sep.length:=by omega
  have T:i+sep.length<=cur.length:=by omega
  have U:i<=cur.length:=by omega
  have W:0<=(i:Int)+sep.length:=by omega
  have X:j<Lib.count s sep+1:=by omega
  have t:Lib.count s sep+1-j=(Lib.count s sep-j)+1:=by omega
  have g:=D3 done (Lib.count s sep-j);rw[hd]at g;have a:=D2 done (Lib.count s sep-j) (cur.take i);rw[hd]at a;rw[t]at k;simp[z,A,B,C,D,d,k,p,f,N,P,Q,R,S,T,U,W,X,g,a];have ht:List.take (cur.length-(i+sep.length)) (List.drop (i+sep.length) cur)=List.drop (i+sep.length) cur:=zZ (by simp);rw[ht];exact⟨by omega,done++[cur.take i],by simp[hd],rfl,by omega,by rw[hs,c];simp,by omega⟩
 ·obtain rfl:j=Lib.count s sep:=by omega
  have hz:Lib.count cur sep=0:=by omega
  have c:qy cur sep=[cur]:=by unfold qy Lib.split;rw[hz];rfl
  have t:Lib.count s sep+1-Lib.count s sep=0+1:=by omega
  have g:=D3 done 0;have a:=D2 done 0 cur;rw[hd]at g a;rw[t]at k;simp[z,A,B,C,D,d,k,g,a,v,m,w,y,XJ,jO,f232];rw[hs,c];exact⟨0,⟨by omega,by simp[VD,hd]⟩,by simp[VD,NB]⟩
noncomputable def FGs:zb->Option (Option Blk):=qd (α:=za×za) (fun a=>[str a.1,str a.2,int 0,int (-1)]) (fun a=>a.1.length<=zA/\a.2.length<=zA/\1<=a.2.length) (fun a=>some (VD (qy a.1 a.2)))
noncomputable def FSp:zb->Option (Option Blk):=qd (α:=za×za) (fun a=>[str a.1,str a.2]) (fun a=>a.1.length<=zA/\a.2.length<=zA/\1<=a.2.length) (fun a=>some (VD (qy a.1 a.2)))
theorem zeF:∀a b:za×za,[str a.1,str a.2,int 0,int (-1)]=[str b.1,str b.2,int 0,int (-1)]->a=b:=by rintro⟨c,d⟩ ⟨f,g⟩ e;simp only[zj,zG]at e;rw[wC e.1,wC e.2]
theorem oE:zg prog 232 (jm [] FGs):=
 QK (fn:=f232) (code:=_) RL ⟨func232,by kernel_rfl,rfl,by kernel_rfl⟩ [] _ fun args r h=>by obtain⟨⟨a,b⟩,rfl,⟨c,d,e⟩,rfl⟩:=zO h;exact⟨by simp[f232],ss a b c d e⟩
theorem za0(a b:za)(Y:Hp)(Z:Nat)(c:a.length<=zA)(d:b.length<=zA)(f:1<=b.length):jm [] FGs [str a,str b,int 0,int (-1)] Y Z=some (.own Z 0 (qy a b).length,qq Y Z (some (VD (qy a b))),Z+1):=by have e:FGs (yS [] [str a,str b,int 0,int (-1)])=some (some (VD (qy a b))):=qD (V:=fun a:List UInt8×za=>[str a.1,str a.2,int 0,int (-1)]) (a:=(a,b)) zeF ⟨c,d,f⟩;simp[jm,e,VD]
noncomputable abbrev Csp:Ctx:=zV prog [(232,jm [] FGs)]
theorem zeG:Gd Csp:=zW mixed ⟨oE,trivial⟩
theorem Ya:zg prog 201 (jm [] FSp):=
 QK (fn:=f201) (code:=_) zeG ⟨func201,by kernel_rfl,rfl,by kernel_rfl⟩ [] _ fun args r h=>by
  obtain⟨⟨a,b⟩,rfl,⟨c,d,e⟩,rfl⟩:=zO h;have f:=fun Y Z=>za0 a b Y Z c d e
  exact⟨by simp[f201],Vt rfl (by simp[f,XJ,VD,f201])⟩
theorem Qn(a b:za)(Y:Hp)(Z:Nat)(c:a.length<=zA)(d:b.length<=zA)(f:1<=b.length):jm [] FSp [str a,str b] Y Z=some (.own Z 0 (qy a b).length,qq Y Z (some (VD (qy a b))),Z+1):=by have e:FSp (yS [] [str a,str b])=some (some (VD (qy a b))):=qD (V:=fun a:List UInt8×za=>[str a.1,str a.2]) (a:=(a,b)) A3 ⟨c,d,f⟩;simp[jm,e,VD]
def VE(c:UInt8):Bool:=pr 48 57 c
def vN(l:za):Bool:=l.all VE
def yZ(l:za):Bool:=!(l==[])&&!(decide (1<l.length)&&l.headD 0==48)&&vN l
def yO(l:za):Bool:=l==[120]||l==[88]||l==[42]
def KK(c:UInt8):Bool:=pr 97 122 c||pr 65 90 c||pr 48 57 c||c==45
def gq(l:za):Bool:=l.all KK&&!(l==[])
theorem gr{l:za}{k:Nat}(h:k<l.length):vN (l.drop k)=(VE l[k]&&vN (l.drop (k+1))):=dW h
theorem ue{l:za}{k:Nat}(h:k<l.length):(l.drop k).all KK=(KK l[k]&&(l.drop (k+1)).all KK):=dW h
theorem oF(l:za)(i:l.length<=zA):zv C0 f311 [str l]=some (wb (vN l)):=by
 refine zn rfl ?_;unfold zA at i;simp;refine zL (fun k σ Y Z=>σ 0=str l/\σ 5=int l.length/\σ 6=int k/\vN l=vN (l.drop k)) l.length ⟨by simp,by simp,by simp,by simp⟩ ?_;rintro k σ Y Z m ⟨e,f,g,b⟩;by_cases a:k<l.length
 ·have j:=qe k;rw[gr a]at b;have h:=Vz 48 57 l[k];simp only[xF]at h;cases d:VE l[k]
  ·have b:vN l=false:=by rw[b,d];rfl
   have c:pr 48 57 l[k]=false:=d;simp[e,f,g,a,b,h,c,f311]
  ·have c:pr 48 57 l[k]=true:=d;simp[e,f,g,a,h,c,j];exact⟨a,by rw[b,d];rfl⟩
 ·obtain rfl:k=l.length:=by omega
  have b:vN l=true:=by rw[b,zp];rfl
  simp[e,f,g,b,f311]
theorem Yy:zg prog 311 (hP (FS vN)):=
 vM je func311 false [] fun l Y=>⟨by simp[f311],_,oF l Y,z8 _⟩
noncomputable abbrev Cdg:Ctx:=zV prog [(311,hP (FS vN))]
theorem zeH:AM.Good Cdg (fun g=>[311].contains g):=qC mixed ⟨Yy,fun _=>zu _ _,trivial⟩
theorem HU(l:za)(g:l.length<=zA):zv Cdg f270 [str l]=some (wb (yZ l)):=by
 refine zn rfl ?_;have hd:=fun Y Z=>vw vN l Y Z g
 cases l with
 |nil=>simp[yZ,f270]
 |cons c l=>
  by_cases b:0<l.length
  ·have a:l≠[]:=by intro e;subst e;simp at b
   have f:(1:Int)<(l.length:Int)+1:=by omega
   by_cases d:c=48
   ·subst d;simp[hd,b,a,f,yZ,f270]
   ·have h:((c.toNat:Int)==48)=false:=by rw[qQ];intro e;apply d;rw[<-ve];simp;omega
    simp[hd,b,a,d,h,f,yZ,f270]
  ·have a:l=[]:=by cases l<;>simp_all
   subst a;simp[hd,yZ,f270]
theorem iZ:zg prog 270 (hP (FS yZ)):=
 vM zeH func270 false [] fun l Y=>⟨by simp[f270],_,HU l Y,z8 _⟩
theorem NC(l:za):zv C0 f205 [str l]=some (wb (yO l)):=by
 refine zn rfl ?_;cases a:(l==[120])
 ·cases b:(l==[88])
  ·simp[a,b,yO,f205]
  ·simp[a,b,yO,f205]
 ·simp[a,yO,f205]
theorem oG:zg prog 205 (hP (FS yO)):=
 vM je func205 false [] fun l Y=>⟨by simp[f205],_,NC l,z8 _⟩
def Bc(l:za):Int:=((Lib.decNat l).getD 0:Nat)
theorem VF:∀(l:za) (a:Nat),vN l=true->∃n,Lib.decFrom a l=some n/\n<(a+1)*10 ^ l.length
 |[],a,_=>⟨a,rfl,by simp⟩
 |c::l,a,h=>by
  simp only[vN,wi,zE]at h;have b:48<=c.toNat/\c.toNat<=57:=by have:=h.1;simpa[VE,pr]using this
  obtain⟨n,d,e⟩:=VF l (a*10+(c.toNat-48)) h.2;refine⟨n,?_,?_⟩
  ·simp only[Lib.decFrom,Lib.digitVal,b,and_self,qV];exact d
  ·have f:a*10+(c.toNat-48)+1<=(a+1)*10:=by omega
   calc n<(a*10+(c.toNat-48)+1)*10 ^ l.length:=e
    _<=(a+1)*10*10 ^ l.length:=zT _ f
    _=(a+1)*10 ^ (c::l).length:=by rw[zx,Nat.pow_succ,Nat.mul_assoc,fI 10]
theorem oH{l:za}(h:yZ l=true):l≠[]/\vN l=true:=by simp only[yZ,zE]at h;exact⟨by intro e;subst e;simp at h,h.2⟩
theorem HV{l:za}(h:yZ l=true):Lib.atoi l=some (Bc l):=by
 obtain⟨a,b⟩:=oH h;obtain⟨n,i,_⟩:=VF l 0 b;have f:Lib.decNat l=some n:=by unfold Lib.decNat;rw[ze (by simpa using a)];exact i
 cases l with
 |nil=>exact absurd rfl a
 |cons c l=>
  have k:48<=c.toNat/\c.toNat<=57:=by have:=b;simp only[vN,wi,zE]at this;simpa[VE,pr]using this.1
  have j:Bc (c::l)=n:=by unfold Bc;rw[f];rfl
  rw[j];have g:∀d:UInt8,d.toNat<48->(c==d)=false:=fun d hd=>by rw[qQ];intro e;subst e;omega
  unfold Lib.atoi;simp only[];rw[g 45 (by decide),g 43 (by decide),f];rfl
noncomputable def FAt:zb->Option O:=qd (α:=za) (fun l=>[str l]) (fun l=>l.length<=18/\yZ l=true) (fun l=>.w5 [int (Bc l),.v .nilIface])
theorem R6{dr:Prop}(w:World)(e:TypeId)(s:ByteArray):Fr dr w (fun _=>False) (Lib.bytesWorld w e s):=by
 have d:∀(b:World) (a:Addr) (n k:Nat),k≠a.block->(b.freeze a n).heap[k]?=b.heap[k]?:=by
  intro b a n k c;unfold World.freeze;split
  ·rfl
  ·simp[kS,Ne.symm c]
 have f:∀(b:World) (a:Addr) (n:Nat),(b.freeze a n).heap.size=b.heap.size:=by intro b a n;unfold World.freeze;split<;>simp
 unfold Lib.bytesWorld;refine⟨rfl,rfl,rfl,?_,?_,fun k c _=>?_⟩
 ·rw[f];simp
 ·exact fun _=>yd _
 ·rw[d _ _ _ k (by simpa using Nat.ne_of_lt c)];exact(Below.heap_alloc w.drew _ k c)
@[simp]theorem zac(σ:Nat->O):AM.get σ (.const .nilIface)=some (.v .nilIface):=rfl
theorem oI:zg prog 271 (hP FAt):=
 jy ⟨_,func271,by kernel_rfl,by kernel_rfl⟩ fun args r h=>by
  obtain⟨l,rfl,⟨c,d⟩,rfl⟩:=zO h;refine⟨[.string ⟨l.toArray⟩],rfl,by simp[lit],rfl,.tuple #[.int .i64 (Bc l),.nilIface],fun w S=>.w5 rfl fun j g u a b=>?_,fun w S _=>?_⟩
  ·match j,a,b with
   | 0,a,b=>simp at a b;subst a;subst b;exact .v rfl
   | 1,a,b=>simp at a b;subst a;subst b;exact .v rfl
   |j+2,a,b=>simp at a
  refine(Any.strconv_Atoi Tryz.zcX ⟨l.toArray⟩ (Bc l) (by simpa using c) (by simpa using HV d) w).mono fun e w' f=>?_
  obtain⟨rfl,t,rfl⟩:=f;exact⟨rfl,R6 _ _ _⟩
theorem uf(l:za)(Y:Hp)(Z:Nat)(c:l.length<=18)(d:yZ l=true):hP FAt [str l] Y Z=some (.w5 [int (Bc l),.v .nilIface],Y,Z):=
 QL l _ _ rfl (fun a b e=>by simp only[zj,zG]at e;exact wC e) ⟨c,d⟩ (.inl rfl)
def Zm(l:za):Option Int:=if yZ l=true/\l.length<=6 then some (Bc l)else none
def JY(l:za):O:=.w5 [int ((Zm l).getD 0),wb (Zm l).isSome]
noncomputable def PE (f:za->O):zb->Option O:=qd (α:=za) (fun l=>[str l]) (fun l=>l.length<=zA) f
theorem ef(f:za->O)(l:za)(Y:Hp)(Z:Nat)(h:l.length<=zA)(c:(f l).flat=true):hP (PE f) [str l] Y Z=some (f l,Y,Z):=
 QL l _ _ rfl (fun a b e=>by simp only[zj,zG]at e;exact wC e) h (.inl c)
noncomputable abbrev Cvn:Ctx:=zV prog [(270,hP (FS yZ)),(271,hP FAt)]
theorem zeI:AM.Good Cvn (fun g=>[270].contains g):=qC mixed ⟨iZ,fun _=>zu _ _,oI,fun _=>zu _ _,trivial⟩
theorem cJ(l:za)(f:l.length<=zA):zv Cvn f235 [str l]=some (JY l):=by
 refine zn rfl ?_;have b:=fun Y Z=>vw yZ l Y Z f
 cases a:yZ l
 ·simp[b,a,JY,Zm,wK,f235]
 ·by_cases e:l.length<=6
  ·have c:¬((6:Int)<l.length):=by omega
   have g:=fun Y Z=>uf l Y Z (by omega) a
   simp[b,a,e,c,g,Lx,JY,Zm,wK,f235]
  ·have c:(6:Int)<l.length:=by omega
   have d:6<l.length:=by omega
   simp[b,a,e,d,c,JY,Zm,wK,f235]
theorem YH:zg prog 235 (hP (PE JY)):=
 vM zeI func235 false [] fun l Y=>⟨by simp[f235],_,cJ l Y,z8 _⟩
@[simp]theorem zgv(P:Program)(Y:Hp)(t:TypeId)(id a b:Nat)(k:IntKind)(i:Int)(h:yp P t=none):qW P Y t (.ref id a b) (.v (.int k i))=(Df P t).bind fun c=>(qE P c.2).bind fun n=>if 0<=i/\i<c.1 then some (.ref id a (b+i.toNat*n))else none:=by
 simp only[qW,h,ZH];cases Df P t with
 |none=>rfl
 |some c=>obtain⟨m,e⟩:=c;simp only[qc];cases qE P e<;>rfl
@[simp]theorem zgw(P:Program)(Y:Hp)(t:TypeId)(cs:zb)(k:IntKind)(i:Int)(h:yp P t=none):qW P Y t (.ptr cs) (.v (.int k i))=(Df P t).bind fun a=>(qE P a.2).bind fun n=>if 0<=i/\i<a.1 then some (.ptr (cs.drop (i.toNat*n)))else none:=by
 simp only[qW,h,ZH];cases Df P t with
 |none=>rfl
 |some a=>obtain⟨m,e⟩:=a;simp only[qc];cases qE P e<;>rfl
@[simp]theorem wrl0:i6.wrap 0=0:=wS (by decide) (by decide)
@[simp]theorem wrl1:i6.wrap 1=1:=wS (by decide) (by decide)
@[simp]theorem wrl2:i6.wrap 2=2:=wS (by decide) (by decide)
@[simp]theorem wrl3:i6.wrap 3=3:=wS (by decide) (by decide)
theorem HW(l:za)(h:l.length<=zA):zv C0 f310 [str l]=some (wb (gq l)):=by
 refine zn rfl ?_;unfold zA at h;simp;refine zL (fun k σ Y Z=>σ 0=str l/\σ 6=int l.length/\σ 7=int k/\l.all KK=(l.drop k).all KK) l.length ⟨by simp,by simp,by simp,by simp⟩ ?_;rintro k σ Y Z m ⟨e,f,g,b⟩;by_cases a:k<l.length
 ·have i:=qe k;rw[ue a]at b;have c:(decide ((97:Int)<=l[k].toNat)&&decide ((l[k].toNat:Int)<=122)||decide ((65:Int)<=l[k].toNat)&&decide ((l[k].toNat:Int)<=90)||decide ((48:Int)<=l[k].toNat)&&decide ((l[k].toNat:Int)<=57)||((l[k].toNat:Int)==45))=KK l[k]:=by
   have j:((l[k].toNat:Int)==45)=(l[k]==45):=by rw[qA];simp[<-ve];omega
   rw[j,qA];simp[KK,pr,<-ve];omega
  cases d:KK l[k]
  ·have b:l.all KK=false:=by rw[b,d];rfl
   rw[d]at c;simp[e,f,g,a,c,gq,b,-List.all_eq_true,-List.all_eq_false,f310]
  ·rw[d]at c;simp[e,f,g,a,c,i,-List.all_eq_true,-List.all_eq_false];exact⟨a,by rw[b,d];rfl⟩
 ·obtain rfl:k=l.length:=by omega
  have b:l.all KK=true:=by rw[b,zp];rfl
  simp[e,f,g,b,gq,-List.all_eq_true,f310]
theorem D4:zg prog 310 (hP (FS gq)):=
 vM je func310 false [] fun l Y=>⟨by simp[f310],_,HW l Y,z8 _⟩
theorem su:zg prog 309 (hP (F3 jG)):=
 yy (fn:=f309) je (qX func309) false [] _ fun args r h=>by obtain⟨a,b,c,rfl,rfl⟩:=oc h;exact⟨by simp[f309],_,zn rfl (by simp[f309,jG]),z8 _⟩
structure yK where
 a:Int
 b:Int
 c:Int
 pre:List (List UInt8)
def zy(l:List za):List zb:=l.map fun p=>[str p]
theorem km{a b:List za}(h:zy a=zy b):a=b:=jZ (fun x y e=>by simp only[zj,zG]at e;exact wC e) h
@[simp]theorem wa(l:List za):(zy l).length=l.length:=by simp[zy]
@[simp]theorem D5:zy []=[]:=rfl
@[simp]theorem ND(l:List za):(zy l).take l.length=zy l:=zZ (by simp)
@[simp]theorem aS(p:za)(l:List za):zy (p::l)=[str p]::zy l:=rfl
@[simp]theorem zjD(l:List za):VD l=⟨9,1,true,zy l⟩:=rfl
@[simp]theorem zjE{l:List za}{k:Nat}(h:k<(zy l).length):(zy l)[k]=[str (l[k]'(by simpa using h))]:=by simp[zy]
theorem KL{l:List za}{k:Nat}(h:k<l.length):(zy l)[k]?=some [str l[k]]:=by simp[zy,h]
def yK.V(v:yK):zb:=[int v.a,int v.b,int v.c,.sl 1 (zy v.pre)]
theorem KM{a b:yK}(h:a.V=b.V):a=b:=by
 cases a;cases b;simp only[yK.V,zj,zG]at h;obtain⟨d,e,f,c⟩:=h;injection c with _ c
 rw[qR d,qR e,qR f,km c]
abbrev vO:List (Option Nat):=[none,none,none,some 1]
def yK.small(v:yK):Prop:=v.pre.length<=zA/\∀p∈v.pre,p.length<=zA
def yG(p:za):Bool:=decide (20<p.length)||!gq p||(vN p&&!yZ p)
def JK(v:yK):Int:=if jG v.a 0 999999=true/\jG v.b 0 999999=true/\jG v.c 0 999999=true then(if 10<v.pre.length then 2 else if v.pre.any yG then 3 else 0)else 1
noncomputable def FVr (f:yK->O):zb->Option O:=qd (α:=yK) (fun v=>[.agg v.V]) yK.small f
theorem D6(f:yK->O)(v:yK)(x:O)(Y Y1:Hp)(Z:Nat)(y:O)(d:zC Y [x]=some ([y],Y1))(i:(Sh.g vO).fix y=.agg v.V)(h:v.small)(c:(f v).flat=true):qP [.g vO] (FVr f) [x] Y Z=some (f v,Y,Z):=by
 have e:FVr f (dU [.g vO] (yS [] [y]))=some (f v):=by show FVr f [(Sh.g vO).fix y]=_;rw[i];exact qD (V:=fun v:yK=>[O.agg v.V]) (a:=v) (fun a b e=>by simp only[zj,zG]at e;injection e with e;exact KM e) h
 try unfold hP
 unfold qP zh;simp only[d,e,c,true_or,qV]
noncomputable abbrev R7:Ctx:=zV prog [(309,hP (F3 jG)),(310,hP (FS gq)),(311,hP (FS vN)),(270,hP (FS yZ))]
theorem za1:AM.Good R7 (fun g=>[309,310,311,270].contains g):=qC mixed ⟨su,fun _=>zu _ _,D4,fun _=>zu _ _,Yy,fun _=>zu _ _,iZ,fun _=>zu _ _,trivial⟩
@[simp]theorem zgx:ki R7 310:=yL (by rfl) (zu _ _)
@[simp]theorem zgy:ki R7 311:=yL (by rfl) (zu _ _)
@[simp]theorem zgz:ki R7 270:=yL (by rfl) (zu _ _)
theorem ei(v:yK)(h:v.small):zv R7 f269 [.agg v.V]=some (int (JK v)):=by
 obtain⟨a,b,c,pre⟩:=v;obtain⟨w,o⟩:=h;simp only at w o;unfold zA at w;refine zn rfl ?_;simp[yK.V,zt,zJ,zr];rw[zR];cases n:jG a 0 999999
 ·simp[n,JK,f269]
 simp[n];rw[zR];cases p:jG b 0 999999
 ·simp[n,p,JK,f269]
 simp[p];rw[zR];cases q:jG c 0 999999
 ·simp[n,p,q,JK,f269]
 simp[q];rw[zR];simp;by_cases s:10<pre.length
 ·have g:(10:Int)<pre.length:=by omega
  simp[n,p,q,s,g,JK,f269]
 have g:¬(10:Int)<pre.length:=by omega
 simp[s,g];have t:JK ⟨a,b,c,pre⟩=if pre.any yG then 3 else 0:=by simp[JK,n,p,q,s]
 rw[t];refine zL (fun k σ Y Z=>σ 28=.sl 1 (zy pre)/\σ 29=int pre.length/\σ 30=int k/\pre.any yG=(pre.drop k).any yG) pre.length ⟨by simp,by simp,by simp,by simp⟩ ?_;rintro k σ Y Z B ⟨i,j,l,f⟩;by_cases d:k<pre.length
 ·have C:=qe k;have x:=KL d;rw[zc d,wX]at f;have m:=o _ (zi d);have y:=fun Y Z=>vw gq pre[k] Y Z m
  have z:=fun Y Z=>vw vN pre[k] Y Z m
  have A:=fun Y Z=>vw yZ pre[k] Y Z m
  have u:yG pre[k]=(decide (20<pre[k].length)||!gq pre[k]||(vN pre[k]&&!yZ pre[k])):=rfl;have e:(decide ((20:Int)<pre[k].length)||!gq pre[k]||vN pre[k]&&!yZ pre[k])=yG pre[k]:=by rw[u];congr 2;rw[qA];simp;omega
  cases r:yG pre[k]
  ·rw[r]at e;simp[i,j,l,d,x,y,z,A,e,C];exact⟨d,by rw[f,r];rfl⟩
  ·rw[r]at e;have f:pre.any yG=true:=by rw[f,r];rfl
   simp[i,j,l,d,x,y,z,A,e,f,-List.any_eq_true,f269]
 ·obtain rfl:k=pre.length:=by omega
  have f:pre.any yG=false:=by rw[f,zp];rfl
  simp[i,j,l,f,-List.any_eq_false,f269]
theorem za2{f:yK->O}{args:zb}{r:O}(h:FVr f args=some r):∃v:yK,args=[.agg v.V]/\v.small/\r=f v:=zO h
theorem cK:zg prog 269 (qP [.g vO] (FVr fun v=>int (JK v))):=
 yf (fn:=f269) za1 (qX func269) _ _ fun args r h=>by obtain⟨v,rfl,a,rfl⟩:=za2 h;exact⟨by simp[f269],_,ei v a,wL.refl _⟩
end Go.Q
namespace Go.Q
open Go.RowKit Go.AM Go.PrLaw
theorem oJ{w w':World}(h:Below w.heap.size w w'):Fr False w (fun _=>False) w':=⟨h.os,h.tape,h.output,h.size,fun e=>e.elim,fun k a _=>h.block k a⟩
def oK:List zb->Option (List za)
 |[]=>some []
 |[.v (.string s)]::l=>(oK l).map (s.data.toList::·)
 |_=>none
@[simp]theorem zeJ(l:List za):oK (zy l)=some l:=by
 induction l with
 |nil=>rfl
 |cons c l a=>simp[oK,a]
theorem ug:∀{es:List zb} {l:List za},oK es=some l->es=zy l
 |[],l,h=>by simp only[oK]at h;injection h with h;subst h;rfl
 |e::es,l,h=>by
  unfold oK at h;split at h
  ·rename_i a;cases a
  ·rename_i s l' a;injection a with b c
   subst b;subst c;obtain⟨l2,d,f⟩:=z7 h;have:=ug d;subst this;subst f;rfl
  ·cases h
def hJn:AM.Spec:=fun args Y Z=>match args with
 |[.own id 0 n,.v (.string sep)]=>(Y id).bind fun b=>if b.s=1/\b.arr=true/\b.es.length=n/\n<=140737488355328 then(oK b.es).bind fun xs=>if(Lib.join xs sep.data.toList).length<=140737488355328 then some (str (Lib.join xs sep.data.toList),Y,Z)else none else none
 |[.nil,.v (.string _)]=>some (str [],Y,Z)
 |_=>none
theorem oL{Y:Hp}{Z e:Nat}{v:O}{xs:List za}(sep:za)(h:qN Y Z e 1 v (zy xs))(b:xs.length<=140737488355328)(c:(Lib.join xs sep).length<=140737488355328)(Z':Nat):hJn [v,str sep] Y Z'=some (str (Lib.join xs sep),Y,Z'):=by
 rcases h with⟨rfl,d⟩|⟨id,_,rfl,f⟩
 ·have:xs=[]:=by cases xs with
   |nil=>rfl
   |cons a l=>simp at d
  subst this;rfl
 ·simp[hJn,f,c,b]
theorem VG:yY False prog 11 hJn:=by
 refine⟨⟨_,func11,by kernel_rfl,by kernel_rfl⟩,?_⟩;intro args Y Z r Y' Z' h w S G vs hi H;unfold hJn at h;split at h
 ·rename_i id n sep;obtain⟨u,us,rfl,t,d⟩:=H.y9;obtain⟨M,f,rfl,i,a⟩:=d.y9;have k:f=[]:=wx (by simpa using a.1.symm);subst k;obtain⟨rfl,_⟩:=i.yi;obtain⟨b,N,h⟩:=yw.1 h;split at h
  case isFalse=>cases h
  rename_i P;obtain⟨Q,c2,R,T⟩:=P;obtain⟨xs,U,h⟩:=yw.1 h;split at h
  case isFalse=>cases h
  rename_i m;injection h with h
  injection h with z h;injection h with A B;subst z;subst A;subst B;have C:=t.vy;obtain⟨cap,a1,W,a3,a4,rfl⟩:=t.vf;have o:=hi.live id _ N;obtain⟨cg,I,p2,X⟩:=o.row C;have D:(G id).s=1:=by rw[<-Q];exact o.bs.symm
  have p:=ug U;have hn:xs.length=n:=by rw[<-R,p];simp
  have E:(G id).g<w.heap.size:=(zM.1 I).1;subst hn;have l:(xs.map fun x=>(⟨x.toArray⟩:ByteArray)).length=xs.length:=by simp
  have q:((xs.map fun x=>(⟨x.toArray⟩:ByteArray)).map fun y=>y.data.toList)=xs:=by rw[List.map_map];exact List.map_id' _
  have J:=Any.strings_Join Tryz.ML Tryz.Kd (G id).g (0*(G id).s) cap (xs.map fun x=>⟨x.toArray⟩) sep w (fun j x K=>?_) E (by rw[l];exact T) (by rw[l];exact W) (by rw[q];exact m)
  ·rw[q,l]at J;refine J.mono fun e w' F=>?_
   obtain⟨rfl,hw⟩:=F;exact⟨_,_,G,rfl,kW.outer hi (oJ hw),.c (.v rfl)⟩
  ·rw[qz]at K;obtain⟨y,hy,rfl⟩:=fH.1 K;obtain⟨u,L,g2⟩:=X j 0 [str y] (str y) (by rw[p];simp[zy,hy]) rfl;obtain⟨rfl,_⟩:=g2.2.1.yi;rw[D]at L;simp only[World.cell?,I,Y4,wg];simpa using L
 ·rename_i sep;obtain⟨u,us,rfl,t,d⟩:=H.y9;obtain⟨M,f,rfl,i,a⟩:=d.y9;have k:f=[]:=wx (by simpa using a.1.symm);subst k;obtain⟨rfl,_⟩:=i.yi;obtain rfl:=t.xQ;injection h with h
  injection h with z h;injection h with A B;subst z;subst A;subst B;refine(Any.strings_Join_none Tryz.ML Tryz.Kd none 0 sep w).mono fun e w' F=>?_
  obtain⟨rfl,rfl⟩:=F;exact⟨_,_,_,rfl,kW.refl hi,.c (.v rfl)⟩
 ·cases h
noncomputable def FRp:zb->Option O:=qd (α:=za×UInt8×za) (fun a=>[str a.1,str [a.2.1],str a.2.2]) (fun a=>a.1.length<=536870912/\a.2.2.length<=2/\[a.2.1]≠a.2.2) (fun a=>str (KI a.2.1 a.2.2 a.1))
theorem zeK:∀a b:za×UInt8×za,[str a.1,str [a.2.1],str a.2.2]=[str b.1,str [b.2.1],str b.2.2]->a=b:=by rintro⟨h,i,j⟩ ⟨k,l,m⟩ e;simp only[zj,zG]at e;obtain⟨d,f,g⟩:=e;have c:=wC f;injection c with c;rw[wC d,c,wC g]
theorem LR(s:za)(c:UInt8)(a:za)(Y:Hp)(Z:Nat)(h:s.length<=536870912)(b:a.length<=2)(d:[c]≠a):hP FRp [str s,str [c],str a] Y Z=some (str (KI c a s),Y,Z):=
 QL (s,c,a) _ _ rfl zeK ⟨h,b,d⟩ (.inl rfl)
theorem gu:yY False prog 147 (hP FRp):=
 jy ⟨_,func147,by kernel_rfl,by kernel_rfl⟩ fun xs r h=>by
  obtain⟨⟨s,c,a⟩,rfl,⟨g,d,f⟩,rfl⟩:=zO h;simp only at g d f;refine⟨[.string ⟨s.toArray⟩,.string ⟨#[c]⟩,.string ⟨a.toArray⟩],rfl,by simp[lit],rfl,.string ⟨(KI c a s).toArray⟩,fun w S=>.v rfl,fun w S i=>?_⟩;obtain⟨_,m,j⟩:=i.1 0 A4;have b:Lib.countB ⟨s.toArray⟩ ⟨#[c]⟩<=s.length:=by simpa using Lib.countB_le ⟨#[c]⟩ (by simp[ByteArray.size]) s.length ⟨s.toArray⟩ (by simp)
  have k:Lib.countB ⟨s.toArray⟩ ⟨#[c]⟩*a.length<=s.length*2:=Nat.mul_le_mul b d;refine(Any.strings_ReplaceAll Tryz.zc2 Tryz.fM ⟨s.toArray⟩ ⟨#[c]⟩ ⟨a.toArray⟩ m w (by simp;omega) j (by simp[ByteArray.size]) (by simp;omega)).mono fun e w' l=>?_
  obtain⟨rfl,n⟩:=l;refine⟨?_,oJ n⟩;simp only[List.toList_toArray];rw[ou c a s f]
noncomputable def FRt:zb->Option O:=qd (α:=UInt8×Int) (fun a=>[str [a.1],int a.2]) (fun a=>0<=a.2/\a.2<=1000) (fun a=>str (Lib.repeatL [a.1] a.2.toNat))
theorem za3(c:UInt8)(n:Int)(Y:Hp)(Z:Nat)(h:0<=n)(b:n<=1000):hP FRt [str [c],int n] Y Z=some (str (Lib.repeatL [c] n.toNat),Y,Z):=
 QL (c,n) _ _ rfl (fun x y e=>by obtain⟨d,f⟩:=x;obtain⟨g,i⟩:=y;simp only[zj,zG]at e;have a:=wC e.1;injection a with a;rw[a,qR e.2]) ⟨h,b⟩ (.inl rfl)
theorem Be:yY False prog 225 (hP FRt):=
 jy ⟨_,func225,by kernel_rfl,by kernel_rfl⟩ fun xs r h=>by
  obtain⟨⟨c,n⟩,rfl,⟨b,d⟩,rfl⟩:=zO h;simp only at b d;refine⟨[.string ⟨#[c]⟩,.int .i64 n],rfl,by simp[lit],rfl,.string ⟨(Lib.repeatL [c] n.toNat).toArray⟩,fun w S=>.v rfl,fun w S j=>?_⟩;have f:((n.toNat:Nat):Int)=n:=by omega
  have a:=Any.strings_Repeat Tryz.zc3 Tryz.fN ⟨#[c]⟩ n.toNat w (by omega) (by simp[ByteArray.size];omega);rw[f]at a;refine a.mono fun e w' g=>?_
  obtain⟨rfl,i⟩:=g;exact⟨rfl,oJ i⟩
end Go.Q
namespace Go.AM
def tn(T U:TypeId)(id:Nat)(Y:Hp)(Z:Nat)(cur:za):Prop:=id<Z/\((cur=[]/\Y id=some (W7 T))\/∃m,m≠id/\m<Z/\cur≠[]/\Y id=some (xw T id m cur.length)/\Y m=some (JJ U cur))
theorem tn.put{T U:TypeId}{id:Nat}{Y Y1:Hp}{Z:Nat}{cur t:za}{F:zb->Option (za×O)}{rest az:zb}{r:O}(B:tn T U id Y Z cur)(i:zC Y rest=some (az,Y1))(k:rest.all O.noOwn=true)(l:F az=some (t,r))(n:t≠[])(o:cur.length+t.length<=140737488355328) :
  ∃Y',xh T U F (.ref id 0 0::rest) Y Z=some (r,Y',Z+1)/\tn T U id Y' (Z+1) (cur++t)/\∀j b,j<Z->j≠id->Y j=some b->b.e≠U->Y' j=some b:=by
 obtain⟨hid,B⟩:=B;have n1:Z≠id:=by omega
 rcases B with⟨rfl,f⟩|⟨m,q,s,p,f,d⟩
 ·obtain⟨Y',u,v,w,x⟩:=ot f n1 i k l (by simpa using o);refine⟨Y',u,⟨by omega,.inr ⟨Z,n1,by omega,by simpa using n,by simpa using v,by simpa using w⟩⟩,fun j b y c a _=>?_⟩;rw[x j c (by omega)];exact a
 ·refine⟨_,by rw[mK i k l,f];simp[gl,q,d,HL,o];rfl,⟨by omega,.inr ⟨Z,n1,by omega,by simp[n],by simp,?_⟩⟩,fun j b y c a g=>?_⟩
  ·rw[zD _ _ _ _ n1];simp
  ·have h:j≠m:=by rintro rfl;rw[d]at a;injection a with a;exact g (by rw[<-a];rfl)
   rw[zD _ _ _ _ c,zD _ _ _ _ (by omega),zD _ _ _ _ h];exact a
theorem tn.keep{T U:TypeId}{id:Nat}{Y Y':Hp}{Z Z':Nat}{cur:za}(B:tn T U id Y Z cur)(f:Z<=Z')(h:∀j,j<Z->Y' j=Y j):tn T U id Y' Z' cur:=by
 obtain⟨hid,B⟩:=B;refine⟨by omega,?_⟩;rcases B with⟨rfl,b⟩|⟨m,e,c,a,b,d⟩
 ·exact .inl ⟨rfl,by rw[h id hid];exact b⟩
 ·exact .inr ⟨m,e,by omega,a,by rw[h id hid];exact b,by rw[h m c];exact d⟩
end Go.AM
namespace Go.Q
def Vf(xs:List za):za:=Lib.join xs [32]++[10]
noncomputable abbrev Cln:Ctx:=zV prog [(11,hJn),(10,xh TB UB RV)]
theorem zeL:kB False Cln Hl:=zW mixed ⟨VG,Vd.lax,trivial⟩
noncomputable abbrev LS:AM.Spec:=wD Cln Tryz.f9
theorem HX:yY False prog 9 LS:=kL zeL func9
theorem Jr{xs:List za}{v:O}{e id:Nat}{Y:Hp}{Z:Nat}{cur:za}(B:tn TB UB id Y Z cur)(f:qN Y Z e 1 v (zy xs))(g:xs.length<=140737488355328)(h:cur.length+(Vf xs).length<=140737488355328) :
  ∃Y' Z',LS [v,.ref id 0 0] Y Z=some (.w5 [],Y',Z')/\tn TB UB id Y' Z' (cur++Vf xs)/\Z<=Z'/\∀j b,j<Z->j≠id->Y j=some b->b.e≠UB->Y' j=some b:=by
 have i:(Vf xs).length=(Lib.join xs [32]).length+1:=by simp[Vf]
 have k:=oL [32] f g (by omega) Z;have a:Vf xs≠[]:=by simp[Vf]
 obtain⟨Y',d,l,m⟩:=B.put (rest:=[str (Vf xs)]) (az:=[str (Vf xs)]) (Y1:=Y) (by simp) rfl (cH (Vf xs) a) a h;refine⟨Y',Z+1,?_,l,by omega,m⟩;unfold LS wD;rw[zd (by simp[Tryz.f9])];refine jf rfl ?_;have c:(Lib.join xs [32]).length+1<=maxLen:=by unfold maxLen;omega
 simp only[Vf]at d;simp[k,c];simp[d,Tryz.f9]
inductive qO where
 |mk (kind:Int) (attr:List UInt8) (op:Int) (jh:List qu) (pat name:List UInt8) (args:List qO)
namespace qO
def kind:qO->Int|.mk k _ _ _ _ _ _=>k
def attr:qO->za|.mk _ a _ _ _ _ _=>a
def op:qO->Int|.mk _ _ o _ _ _ _=>o
def jh:qO->List qu|.mk _ _ _ v _ _ _=>v
def pat:qO->za|.mk _ _ _ _ p _ _=>p
def name:qO->za|.mk _ _ _ _ _ n _=>n
def args:qO->List qO|.mk _ _ _ _ _ _ l=>l
end qO
theorem qO.ind{P:qO->Prop}(h:∀k a o v p n l,(∀x∈l,P x)->P (.mk k a o v p n l))(c:qO):P c:=
 qO.rec (motive_1:=P) (motive_2:=fun l=>∀x∈l,P x) (fun k a o v p n l b=>h k a o v p n l b) (by simp)
  (fun x l e b y d=>by
   rcases zw.1 d with rfl|d
   ·exact e
   ·exact b y d) c
mutual
def qO.V:qO->zb
 | .mk k a o v p n l=>[int k,str a,int o,.sl 5 (v.map qu.V),str p,str n,.sl 7 (C2 l)]
def C2:List qO->List zb
 |[]=>[]
 |c::l=>c.V::C2 l
end
theorem oM:∀l:List qO,C2 l=l.map qO.V
 |[]=>rfl
 |c::l=>by simp[C2,oM l]
theorem we(c:qO):c.V=[int c.kind,str c.attr,int c.op,.sl 5 (c.jh.map qu.V),str c.pat,str c.name,.sl 7 (c.args.map qO.V)]:=by
 cases c with
 |mk k a o v p n l=>simp[qO.V,oM,qO.kind,qO.attr,qO.op,qO.jh,qO.pat,qO.name,qO.args]
@[simp]theorem zds(c:qO):c.V.length=7:=by rw[we];rfl
@[simp]theorem HY(c:qO):c.V.all O.yk=true:=by rw[we];rfl
@[simp]theorem zdt(c:qO):(∀x,x∈c.V->O.yk x=true)=True:=by have:=HY c;rw[ql]at this;exact eq_true this
@[simp]theorem Y9(c:qO):c.V.take 7=c.V:=zZ (by simp)
@[simp]theorem zj4(c:qO)(h:0<c.V.length):c.V[0]=int c.kind:=by simp[we c]
@[simp]theorem zj5(c:qO)(h:1<c.V.length):c.V[1]=str c.attr:=by simp[we c]
@[simp]theorem zj6(c:qO)(h:2<c.V.length):c.V[2]=int c.op:=by simp[we c]
@[simp]theorem zj7(c:qO)(h:3<c.V.length):c.V[3]=.sl 5 (c.jh.map qu.V):=by simp[we c]
@[simp]theorem zj8(c:qO)(h:4<c.V.length):c.V[4]=str c.pat:=by simp[we c]
@[simp]theorem zj9(c:qO)(h:5<c.V.length):c.V[5]=str c.name:=by simp[we c]
@[simp]theorem zka(c:qO)(h:6<c.V.length):c.V[6]=.sl 7 (c.args.map qO.V):=by simp[we c]
theorem D7{a b:List qu}(h:a.map qu.V=b.map qu.V):a=b:=jZ (fun _ _=>YW) h
theorem xx:∀{a b:qO},a.V=b.V->a=b:=by
 intro a
 induction a using qO.ind with
 |h k a o v p n l f=>
  intro b e;cases b with
  |mk s t o' u w z l'=>
   simp only[we,qO.kind,qO.attr,qO.op,qO.jh,qO.pat,qO.name,qO.args,zj,zG]at e;obtain⟨g,i,j,c,m,q,d⟩:=e;obtain rfl:=qR g;obtain rfl:=wC i;obtain rfl:=qR j;injection c with _ c
   obtain rfl:=D7 c;obtain rfl:=wC m;obtain rfl:=wC q;injection d with _ d;rw[VB (fun x r y=>f x r) d]
mutual
def qO.cb:qO->Nat
 | .mk _ a _ v p n l=>1+a.length+Vg v+p.length+n.length+iG l
def iG:List qO->Nat
 |[]=>0
 |c::l=>c.cb+iG l
end
theorem Wh(c:qO):c.cb=1+c.attr.length+Vg c.jh+c.pat.length+c.name.length+iG c.args:=by cases c;rfl
theorem XU(c:qO):0<c.cb:=by rw[Wh];omega
theorem xL:∀{l:List qO} {x:qO},x∈l->x.cb<=iG l
 |y::l,x,h=>by
  simp only[iG];rcases zw.1 h with rfl|h
  ·omega
  ·have:=xL h;omega
theorem vp:∀l:List qO,l.length<=iG l
 |[]=>by simp[iG]
 |c::l=>by have:=vp l;have:=XU c;simp only[iG,zx];omega
mutual
def qO.parts:qO->Nat
 | .mk _ _ _ _ _ _ l=>1+y7 l
def y7:List qO->Nat
 |[]=>0
 |c::l=>c.parts+y7 l
end
mutual
def qO.levels:qO->Nat
 | .mk _ _ _ _ _ _ l=>jr l+1
def jr:List qO->Nat
 |[]=>0
 |c::l=>max c.levels (jr l)
end
theorem Ja(c:qO):c.parts=1+y7 c.args:=by cases c;rfl
theorem cL(c:qO):c.levels=jr c.args+1:=by cases c;rfl
theorem HZ(l:List qO)(h:∀x∈l,x.parts<=x.cb):y7 l<=iG l:=by
 induction l with
 |nil=>simp[y7]
 |cons v l a=>have:=h v (by simp);have:=a fun x b=>h x (by simp[b]);simp only[y7,iG];omega
theorem NF(c:qO):c.parts<=c.cb:=by
 induction c using qO.ind with
 |h k a o v p n l b=>have:=HZ l b;rw[Ja,Wh];simp only[qO.args];omega
theorem D8(l:List qO)(h:∀x∈l,x.levels<=x.parts):jr l<=y7 l:=by
 induction l with
 |nil=>simp[jr]
 |cons v l a=>have:=h v (by simp);have:=a fun x b=>h x (by simp[b]);simp only[y7,jr];omega
theorem H2(c:qO):c.levels<=c.parts:=by
 induction c using qO.ind with
 |h k a o v p n l b=>have:=D8 l b;rw[Ja,cL];simp only[qO.args];omega
theorem b9(a b:List qO):y7 (a++b)=y7 a+y7 b:=by
 induction a with
 |nil=>simp[y7]
 |cons v a c=>simp only[wB,y7,c];omega
theorem oN(a b:List qO):jr (a++b)=max (jr a) (jr b):=by
 induction a with
 |nil=>simp[jr]
 |cons v a c=>simp only[wB,jr,c];omega
theorem zh7{l:List qO}{k:Nat}(h:k<l.length):y7 (l.take (k+1))=y7 (l.take k)+l[k].parts/\jr (l.take (k+1))=max (jr (l.take k)) l[k].levels:=by rw[zQ h,b9,oN];simp[y7,jr]
theorem uh(l:List qO)(k:Nat):y7 (l.take k)<=y7 l:=by have:=b9 (l.take k) (l.drop k);rw[xB]at this;omega
noncomputable def FC (out:qO->O) (n:Nat):zb->Option O:=qd (α:=qO) (fun c=>[.agg c.V]) (fun c=>c.cb<=zA/\c.cb<=n) out
theorem zh8(out:qO->O)(n:Nat)(c:qO)(h:c.cb<=zA/\c.cb<=n):FC out n [.agg c.V]=some (out c):=
 qD (V:=fun c:qO=>[.agg c.V]) (a:=c) (fun a b e=>by simp only[zj,zG,O.agg.injEq]at e;exact xx e) h
@[simp]theorem NG(Y:Hp)(c:qO):wJ Y c.V=some (c.V,Y):=by rw[we];simp
theorem Yb(Y:Hp)(c:qO):qt Y (.agg c.V)=some (.agg c.V,Y):=by rw[we];simp
theorem cM(c:qO):O.noOwn (.agg c.V)=true:=by rw[we];simp
theorem Qf(out:qO->O)(n:Nat)(c:qO)(Y:Hp)(Z:Nat)(h:c.cb<=zA/\c.cb<=n):hP (FC out n) [.agg c.V] Y Z=some (out c,Y,Z):=
 yI (Y1:=Y) (show zC Y [.agg c.V]=some ([.agg c.V],Y) by simp only[zC,Yb]) (zh8 out n c h) (.inr (by simp only[wi,cM,V4,Pq]))
theorem Wu{out:qO->O}{n:Nat}{args:zb}{r:O}(h:FC out n args=some r):∃c:qO,args=[.agg c.V]/\(c.cb<=zA/\c.cb<=n)/\r=out c:=zO h
theorem gv(c:qO):0<c.parts:=by rw[Ja];omega
theorem cN:∀{l:List qO} {x:qO},x∈l->x.parts<=y7 l
 |y::l,x,h=>by
  simp only[y7];rcases zw.1 h with rfl|h
  ·omega
  ·have:=cN h;omega
theorem cO:∀l:List qO,l.length<=y7 l
 |[]=>by simp
 |c::l=>by have:=cO l;have:=gv c;simp only[y7,zx];omega
noncomputable def FCp (out:qO->O) (n:Nat):zb->Option O:=qd (α:=qO) (fun c=>[.agg c.V]) (fun c=>c.parts<=zA/\c.parts<=n) out
theorem R8(out:qO->O)(n:Nat)(c:qO)(h:c.parts<=zA/\c.parts<=n):FCp out n [.agg c.V]=some (out c):=
 qD (V:=fun c:qO=>[.agg c.V]) (a:=c) (fun a b e=>by simp only[zj,zG,O.agg.injEq]at e;exact xx e) h
theorem R9(out:qO->O)(n:Nat)(c:qO)(Y:Hp)(Z:Nat)(h:c.parts<=zA/\c.parts<=n):hP (FCp out n) [.agg c.V] Y Z=some (out c,Y,Z):=
 yI (Y1:=Y) (show zC Y [.agg c.V]=some ([.agg c.V],Y) by simp only[zC,Yb]) (R8 out n c h) (.inr (by simp only[wi,cM,V4,Pq]))
theorem ui{dr:Prop}{P:Program}{f:FuncId}{a:Bool}{b:List Nat}{F c:zb->Option O}(h:∀args r,F args=some r->c args=some r)(hs:yY dr P f (zh a b c)):yY dr P f (zh a b F):=
 ⟨hs.1,fun args Y Z r Y' Z' e=>hs.2 args Y Z r Y' Z' (by
  try unfold hP at e⊢
  unfold zh at e⊢;split at e
  ·split at e
   ·rename_i d;simp only[h _ _ d];exact e
   ·cases e
  ·cases e)⟩
theorem Sa(out:qO->O)(n:Nat):∀args r,FC out n args=some r->FCp out zA args=some r:=fun args r h=>by obtain⟨c,rfl,⟨a,_⟩,rfl⟩:=zO h;have:=NF c;exact R8 out zA c ⟨by omega,by omega⟩
theorem mL{out:qO->O}{f:FuncId}(a:∃fn,prog.funcs[f]?=some fn/\(fn.name== "runtime.NumGoroutine")=false/\fn.body.isNone=false):zg prog f (hP (FC out 0)):=by
 refine⟨a,fun args Y Z r Y' Z' h=>?_⟩
 try unfold hP at h
 unfold zh at h;split at h
 ·split at h
  ·rename_i d b;obtain⟨c,_,e,_⟩:=Wu b;have:=XU c;omega
  ·cases h
 ·cases h
noncomputable abbrev GC (out:qO->O):AM.Spec:=hP (FC out zA)
theorem vx(out:qO->O)(c:qO)(Y:Hp)(Z:Nat)(h:c.cb<=zA):GC out [.agg c.V] Y Z=some (out c,Y,Z):=Qf out zA c Y Z ⟨h,h⟩
theorem oO(sep:za):∀(k:Nat) (s p:za),p∈Lib.splitK sep 0 k s->p.length<=s.length
 | 0,s,p,h=>by simp[Lib.splitK]at h;rw[h];exact zl _
 |k+1,s,p,h=>by
  unfold Lib.splitK at h;split at h
  ·simp at h;rw[h];exact zl _
  ·rcases zw.1 h with rfl|h
   ·simp;omega
   ·have:=oO sep k _ p h;simp at this;omega
theorem oP(sep:za):∀(k:Nat) (s:za),(Lib.splitK sep 0 k s).length<=k+1
 | 0,s=>by simp[Lib.splitK]
 |k+1,s=>by
  unfold Lib.splitK;split
  ·simp
  ·have:=oP sep k (s.drop ((Lib.index s sep).toNat+sep.length));simp;omega
theorem xM{s sep p:za}(h:p∈qy s sep):p.length<=s.length:=oO _ _ _ _ h
theorem Zu{s sep:za}(h:sep≠[]):(qy s sep).length<=s.length+1:=by have a:=oP sep (Lib.count s sep) s;have b:=ud (s:=s) h;exact zI a (by omega)
theorem Sb(s sep:za):(Lib.cut s sep).1.length<=s.length/\(Lib.cut s sep).2.1.length<=s.length:=by
 unfold Lib.cut;split
 ·simp;omega
 ·simp
noncomputable def bz (f:za->O):zb->Option O:=qd (α:=za) (fun l=>[str l]) (fun l=>l.length+1<=zA) f
theorem ZM(f:za->O)(l:za)(Y:Hp)(Z:Nat)(h:l.length+1<=zA):hP (bz f) [str l] Y Z=some (f l,Y,Z):=
 QL l _ _ rfl (fun a b e=>by simp only[zj,zG]at e;exact wC e) h (.inr (by simp))
def dG:yK:=⟨0,0,0,[]⟩
def xV(t:za):List za:=if(Lib.cut t [45]).2.2 then qy (Lib.cut t [45]).2.1 [46]else[]
def Bf(t:za):Option yK:=match qy (Lib.cut t [45]).1 [46]with
 |[d,e,f]=>match Zm d,Zm e,Zm f with
  |some a,some b,some c=>if JK ⟨a,b,c,xV t⟩=0 then some ⟨a,b,c,xV t⟩else none
  |_,_,_=>none
 |_=>none
def LU(t:za):O:=match Bf t with
 |some v=>.w5 [.agg v.V,int 0]
 |none=>.w5 [.agg dG.V,int 10]
noncomputable abbrev Crv:Ctx:=zV prog [(268,hP (Yx sq fun _ _=>True)),(201,jm [] FSp),(235,hP (PE JY)),(269,qP [.g vO] (FVr fun v=>int (JK v)))]
theorem zeM:Gd Crv:=zW mixed ⟨om,Ya,YH,cK,trivial⟩
theorem aT(l:za)(Y:Hp)(Z:Nat)(h:l.length<=zA):hP (PE JY) [str l] Y Z=some (.w5 [int ((Zm l).getD 0),wb (Zm l).isSome],Y,Z):=ef JY l Y Z h rfl
theorem zdu{α:Type}{l:List α}(h:l.length=3):∃a b c,l=[a,b,c]:=by
 match l,h with
 |[a,b,c],_=>exact⟨a,b,c,rfl⟩
theorem gw(t:za)(N:t.length+1<=zA):∃I,zv Crv f234 [str t]=some I/\wL I (LU t):=by
 refine ji (sh:=.g vO) rfl ?_;have J:=Sb t [45];have m:=fun Y Z=>oj t [45] Y Z (by omega) (by decide)
 have r:=fun Y Z=>Qn (Lib.cut t [45]).1 [46] Y Z (by omega) (by decide) (by decide)
 have o:=fun Y Z=>Qn (Lib.cut t [45]).2.1 [46] Y Z (by omega) (by decide) (by decide)
 have h:∀p∈qy (Lib.cut t [45]).1 [46],p.length<=zA:=fun p Y=>by have:=xM Y;omega
 have A:∀p∈qy (Lib.cut t [45]).2.1 [46],p.length<=zA:=fun p Y=>by have:=xM Y;omega
 have B:(qy (Lib.cut t [45]).2.1 [46]).length<=zA:=by have:=Zu (s:=(Lib.cut t [45]).2.1) (sep:=[46]) (by simp);omega
 by_cases y:(qy (Lib.cut t [45]).1 [46]).length=3
 ·obtain⟨C,D,E,d⟩:=zdu y;rw[d]at r h;have i:=fun Y Z=>aT C Y Z (h C (by simp))
  have j:=fun Y Z=>aT D Y Z (h D (by simp))
  have k:=fun Y Z=>aT E Y Z (h E (by simp))
  simp[m,r];rw[zR];cases l:Zm C with
  |none=>rw[l]at i;simp[i,LU,Bf,d,l,qv,qS,qB,dG,yK.V,f234]
  |some a=>
   rw[l]at i;simp[i];rw[zR];cases q:Zm D with
   |none=>rw[q]at j;simp[j,LU,Bf,d,l,q,qv,qS,qB,dG,yK.V,f234]
   |some b=>
    rw[q]at j;simp[j];rw[zR];cases u:Zm E with
    |none=>rw[u]at k;simp[k,LU,Bf,d,l,q,u,qv,qS,qB,dG,yK.V,f234]
    |some c=>
     rw[u]at k;simp[k];rw[zR];simp[qv,qS];have F:(⟨a,b,c,[]⟩:yK).small:=⟨by simp,by simp⟩;have G:(⟨a,b,c,qy (Lib.cut t [45]).2.1 [46]⟩:yK).small:=⟨B,A⟩;cases z:(Lib.cut t [45]).2.2
     ·have f:=fun Y Z=>D6 (fun v=>int (JK v)) ⟨a,b,c,[]⟩ (.agg [int a,int b,int c,.nil]) Y Y Z _ rfl rfl F rfl
      by_cases w:JK ⟨a,b,c,[]⟩=0
      ·simp[f,w,LU,Bf,xV,d,l,q,u,z,qB,yK.V,f234]
      ·have x:=vX w;simp[f,w,x,LU,Bf,xV,d,l,q,u,z,qv,qS,qB,dG,yK.V,f234]
     ·have f:∀(Y:Hp) (Z id n:Nat),Y id=some ⟨9,1,true,zy (qy (Lib.cut t [45]).2.1 [46])⟩->n=(qy (Lib.cut t [45]).2.1 [46]).length->qP [.g vO] (FVr fun v=>int (JK v)) [.agg [int a,int b,int c,.own id 0 n]] Y Z=some (int (JK ⟨a,b,c,qy (Lib.cut t [45]).2.1 [46]⟩),Y,Z):=by intro Y Z id n K L;subst L;exact D6 (fun v=>int (JK v)) ⟨a,b,c,qy (Lib.cut t [45]).2.1 [46]⟩ _ Y (qq Y id none) Z (.agg [int a,int b,int c,.sl 1 (zy (qy (Lib.cut t [45]).2.1 [46]))]) (by simp[K]) rfl G rfl
      by_cases w:JK ⟨a,b,c,qy (Lib.cut t [45]).2.1 [46]⟩=0
      ·simp[o,f,w,LU,Bf,xV,d,l,q,u,z,qB,yK.V,f234]
      ·have x:=vX w;simp[o,f,w,x,LU,Bf,xV,d,l,q,u,z,qv,qS,qB,dG,yK.V,f234]
 ·have H:(((qy (Lib.cut t [45]).1 [46]).length:Int) != 3)=true:=by simp;omega
  have M:Bf t=none:=by
   unfold Bf;split
   ·rename_i e;rw[e]at y;simp at y
   ·rfl
  simp[m,r,H,y,LU,M,qv,qS,qB,dG,yK.V,f234]
theorem ej:zg prog 234 (hP (bz LU)):=
 W6 (fn:=f234) zeM (qX func234) false [] _ fun args r h w S vs a=>by obtain⟨l,rfl,Y,rfl⟩:=zO h;obtain⟨b,c,d⟩:=gw l Y;exact⟨_,b,a,by simp[f234],c,d⟩
structure Part where
 n0:Int
 n1:Int
 n2:Int
 has:Int
 pre:List (List UInt8)
def Part.V(p:Part):zb:=[int p.n0,int p.n1,int p.n2,int p.has,.sl 1 (zy p.pre)]
abbrev XV:List (Option Nat):=[none,none,none,none,some 1]
def wO:Part:=⟨0,0,0,0,[]⟩
def Part.put(p:Part)(i:Nat)(n:Int):Part:=match i with
 | 0=>{p with n0:=n,has:=p.has+1}
 | 1=>{p with n1:=n,has:=p.has+1}
 |_=>{p with n2:=n,has:=p.has+1}
def yb(p:Part)(i:Nat)(t:za):Option Part:=if(Zm t).isSome=true/\p.has=i then some (p.put i ((Zm t).getD 0))else if yO t=true/\i≠0 then some p else none
def yC:Part->Nat->List za->Option Part
 |p,_,[]=>some p
 |p,i,t::l=>match yb p i t with
  |some q=>yC q (i+1) l
  |none=>none
def zX(t:za):Part×Bool:=if Lib.contains t [45]=true then(match Bf t with
    |some v=>(⟨v.a,v.b,v.c,3,v.pre⟩,true)
    |none=>(⟨0,0,0,3,[]⟩,false))
 else if 3<(qy t [46]).length then(wO,false)else match yC wO 0 (qy t [46])with
  |some p=>(p,true)
  |none=>(wO,false)
def kC(t:za):O:=.w5 [.agg (zX t).1.V,wb (zX t).2]
noncomputable abbrev Crpv:Ctx:=zV prog [(233,hP (Yx M6 fun _ _=>True)),(234,hP (bz LU)),(201,jm [] FSp),(235,hP (PE JY)),(205,hP (FS yO))]
theorem zeN:AM.Good Crpv (fun g=>[205].contains g):=qC mixed ⟨oi,by simp,ej,by simp,Ya,by simp,YH,by simp,oG,fun _=>zu _ _,trivial⟩
theorem Sc(a b:za)(Y:Hp)(Z:Nat)(h:a.length<=zA)(c:b.length<=zA):hP (Yx M6 fun _ _=>True) [str a,str b] Y Z=some (wb (Lib.contains a b),Y,Z):=xT _ _ a b Y Z h c trivial rfl
def Part.raw(p:Part):zb:=[int p.n0,int p.n1,int p.n2,int p.has,.nil]
theorem sv{p:Part}{k:Nat}{l:List za}(h:k<l.length):yC p k (l.drop k)=match yb p k l[k]with
  |some q=>yC q (k+1) (l.drop (k+1))
  |none=>none:=by
 rw[zc h];rfl
theorem gx(t:za)(U:t.length+1<=zA):∃S,zv Crpv f203 [str t]=some S/\wL S (kC t):=by
 refine ji (sh:=.g XV) rfl ?_;have B:=fun Y Z=>Sc t [45] Y Z (by omega) (by decide)
 cases I:Lib.contains t [45]
 ·have J:=fun Y Z=>Qn t [46] Y Z (by omega) (by decide) (by decide)
  have E:∀p∈qy t [46],p.length<=zA:=fun p Y=>by have:=xM Y;omega
  by_cases M:3<(qy t [46]).length
  ·have F:(3:Int)<(qy t [46]).length:=by omega
   simp[B,I,J,M,F,kC,zX,qv,qS,qB,wO,Part.V,f203]
  have F:¬(3:Int)<(qy t [46]).length:=by omega
  simp[B,I,J,M,F];obtain⟨l,N⟩:=wZ (qy t [46]);rw[N]at E M;have e:zX t=match yC wO 0 l with
   |some p=>(p,true)
   |none=>(wO,false):=by
   unfold zX;rw[ze (by rw[I];simp),N,ze M]
   try rfl
  simp only[N];refine zL (fun k σ Y Z=>∃p:Part,p.pre=[]/\σ 2=.ref 0 0 0/\σ 7=.ref 2 0 0/\σ 37=.own 1 0 l.length/\σ 38=int l.length/\σ 39=int k/\p.has<=k/\0<=p.has /\
    Y 0=some ⟨196,5,false,[wO.raw]⟩/\Y 1=some ⟨9,1,true,zy l⟩/\Y 2=some ⟨196,5,false,[p.raw]⟩/\yC wO 0 l=yC p k (l.drop k)) l.length
   ⟨wO,rfl,by simp,by simp,by simp,by simp,by simp,by simp[wO],by simp[wO],by simp[wO,Part.raw],by simp,by simp[wO,Part.raw],by simp⟩ ?_
  rintro k σ Y Z W ⟨p,G,w,x,f,h,i,P,H,y,z,A,j⟩;by_cases b:k<l.length
  ·have C:=fun Y Z=>aT l[k] Y Z (E _ (zi b))
   have D:=fun Y Z=>vw yO l[k] Y Z (E _ (zi b))
   have K:=qe k;have Q:=wq (p.has+1);rw[sv b]at j;have R:k=0\/k=1\/k=2:=by omega
   obtain⟨r,n1,s,a,pre⟩:=p;simp only at G P H Q;subst G;cases q:(Zm l[k]).isSome
   ·cases c:yO l[k]
    ·have hs:yb ⟨r,n1,s,a,[]⟩ k l[k]=none:=by simp[yb,q,c]
     rw[hs]at j;rw[j]at e;simp[w,x,f,h,i,y,z,A,b,C,D,q,c,kC,e,qv,qS,qB,wO,Part.raw,Part.V,f203]
    ·by_cases m:k=0
     ·subst m;have hs:yb ⟨r,n1,s,a,[]⟩ 0 l[0]=none:=by simp[yb,q]
      rw[hs]at j;rw[j]at e;simp[w,x,f,h,i,y,z,A,b,C,D,q,c,kC,e,qv,qS,qB,wO,Part.raw,Part.V,f203]
     ·have hs:yb ⟨r,n1,s,a,[]⟩ k l[k]=some ⟨r,n1,s,a,[]⟩:=by simp[yb,q,c,m]
      have u:((k:Int)==0)=false:=by simpa using m
      rw[hs]at j;simp[w,x,f,h,i,y,z,A,b,C,D,q,c,K,u,m];exact⟨b,⟨r,n1,s,a,[]⟩,rfl,Int.le_trans P (by omega),H,rfl,j⟩
   ·by_cases d:a=k
    ·have hs:yb ⟨r,n1,s,a,[]⟩ k l[k]=some ((⟨r,n1,s,a,[]⟩:Part).put k ((Zm l[k]).getD 0)):=by simp[yb,q,d]
     rw[hs]at j;rcases R with rfl|rfl|rfl
     ·obtain rfl:a=0:=by simpa using d
      have n:(0:Int)<(l.length:Int):=by omega
      simp[w,x,f,h,i,y,z,A,b,n,C,D,q,K,Part.raw];refine⟨b,_,?_,?_,?_,?_,(by simpa using j)⟩<;>simp[Part.put]
     ·obtain rfl:a=1:=by simpa using d
      have n:(1:Int)<(l.length:Int):=by omega
      simp[w,x,f,h,i,y,z,A,b,n,C,D,q,K,Part.raw];refine⟨b,_,?_,?_,?_,?_,(by simpa using j)⟩<;>simp[Part.put]
     ·obtain rfl:a=2:=by simpa using d
      have n:(2:Int)<(l.length:Int):=by omega
      simp[w,x,f,h,i,y,z,A,b,n,C,D,q,K,Part.raw];refine⟨b,_,?_,?_,?_,?_,(by simpa using j)⟩<;>simp[Part.put]
    ·cases c:yO l[k]
     ·have hs:yb ⟨r,n1,s,a,[]⟩ k l[k]=none:=by simp[yb,q,c,d]
      have o:(a==(k:Int))=false:=by simpa using d
      rw[hs]at j;rw[j]at e;simp[w,x,f,h,i,y,z,A,b,C,D,q,c,o,kC,e,qv,qS,qB,wO,Part.raw,Part.V,f203]
     ·by_cases m:k=0
      ·subst m;have hs:yb ⟨r,n1,s,a,[]⟩ 0 l[0]=none:=by simp[yb,d];intro _;exact d
       have o:(a==0)=false:=by simpa using d
       rw[hs]at j;rw[j]at e;simp[w,x,f,h,i,y,z,A,b,C,D,q,c,o,kC,e,qv,qS,qB,wO,Part.raw,Part.V,f203]
      ·have hs:yb ⟨r,n1,s,a,[]⟩ k l[k]=some ⟨r,n1,s,a,[]⟩:=by simp[yb,q,c,m,d]
       have u:((k:Int)==0)=false:=by simpa using m
       have o:(a==(k:Int))=false:=by simpa using d
       rw[hs]at j;simp[w,x,f,h,i,y,z,A,b,C,D,q,c,K,u,m,o,Part.raw];exact⟨b,⟨r,n1,s,a,[]⟩,rfl,Int.le_trans P (by omega),H,⟨rfl,rfl,rfl,rfl⟩,j⟩
  ·obtain rfl:k=l.length:=by omega
   rw[zp]at j;simp only[yC]at j;rw[j]at e;simp[w,x,f,h,i,y,z,A,kC,e,G,qB,Part.raw,Part.V,f203]
 ·have L:=fun Y Z=>ZM LU t Y Z U
  cases T:Bf t with
  |none=>simp[B,I,L,LU,T,kC,zX,qv,qS,qB,dG,yK.V,Part.V,f203]
  |some v=>simp[B,I,L,LU,T,kC,zX,qv,qS,qB,yK.V,Part.V,f203]
theorem ek:zg prog 203 (hP (bz kC)):=
 W6 (fn:=f203) zeN (qX func203) false [] _ fun args r h w S vs a=>by obtain⟨l,rfl,Y,rfl⟩:=zO h;obtain⟨b,c,d⟩:=gx l Y;exact⟨_,b,a,by simp[f203],c,d⟩
def QT(e s:Nat):zb->Option (Option Blk)
 |[.nil]=>some none
 |[.em]=>some (some ⟨e,s,true,[]⟩)
 |[.sl a es]=>if a=s/\es≠[]/\es.length<=zA then some (some ⟨e,s,true,es⟩)else none
 |_=>none
def Z3(e s:Nat)(es:List zb)(y:O)(Z:Nat):O×(Hp->Hp)×Nat:=match y with
 | .nil=>(.nil,fun h=>h,Z)
 |_=>(.own Z 0 es.length,fun h=>qq h Z (some ⟨e,s,true,es⟩),Z+1)
theorem oQ{e s:Nat}{es:List zb}{y:O}(h:iD s es y)(a:es.length<=zA)(Y:Hp)(Z:Nat):jm [] (QT e s) [y] Y Z=some ((Z3 e s es y Z).1,(Z3 e s es y Z).2.1 Y,(Z3 e s es y Z).2.2):=by
 cases h with
 |nil=>rfl
 |em=>rfl
 |sl=>simp at a;simp[jm,yS,QT,Z3,a]
theorem D9{e s:Nat}{es:List zb}{y:O}{Z:Nat}(Y:Hp){id:Nat}(h:id<Z):(Z3 e s es y Z).2.1 Y id=Y id:=by
 unfold Z3;split
 ·rfl
 ·exact zz _ _ _ _ (by omega)
theorem H3{e s:Nat}{es:List zb}{y:O}(h:iD s es y)(Y:Hp)(Z:Nat):qN ((Z3 e s es y Z).2.1 Y) (Z3 e s es y Z).2.2 e s (Z3 e s es y Z).1 es:=by
 cases h with
 |nil=>exact .inl ⟨rfl,rfl⟩
 |em=>exact .inr ⟨Z,by simp[Z3],rfl,by simp[Z3]⟩
 |sl=>exact .inr ⟨Z,by simp[Z3],rfl,by simp[Z3]⟩
theorem Ea(args:zb)(r:Option Blk)(h:QT 145 5 args=some r):args.length<=f287.ntmps/\∃x Y Z,yR C0 f287 args (fun _=>none) 0=some (x,Y,Z)/\XJ r x Y Z:=by
 unfold QT at h;split at h
 ·injection h with h;subst h;exact⟨by simp[f287],qF rfl (by simp[Qi,Vh,f287,XJ])⟩
 ·injection h with h;subst h;exact⟨by simp[f287],qF rfl (by simp[Qi,Vh,f287,XJ,zt,jb,AM.view,maxLen,zJ,zr])⟩
 ·rename_i es;split at h
  ·rename_i d;obtain⟨rfl,a,b⟩:=d;injection h with h;subst h
   cases es with
   |nil=>exact absurd rfl a
   |cons c es=>
    unfold zA at b;simp at b;have e:es.length+1<=maxLen:=by unfold maxLen;omega
    have f:(es.length+1)*80<=140737488355328:=by omega
    refine⟨by simp[f287],qF rfl ?_⟩;simp[Qi,Vh,f287,XJ,zt,jb,AM.view,zJ,zr,e,f]
  ·cases h
 ·cases h
theorem Bg:zg prog 287 (jm [] (QT 145 5)):=
 QK (fn:=f287) (code:=_) je ⟨func287,by kernel_rfl,rfl,by kernel_rfl⟩ [] _ Ea
def qu.inner(v:qu):List qu:=v.items++v.fields.map (·.2)
def WO(v:qu)(k:Nat):List zb:=(v.items++(v.fields.take k).map (·.2)).map qu.V
theorem Bh(v:qu):WO v 0=v.items.map qu.V:=by simp[WO]
theorem Bi{v:qu}{k:Nat}(h:k<v.fields.length):WO v (k+1)=WO v k++[v.fields[k].2.V]:=by unfold WO;rw[zQ h,JH (f:=fun x:List UInt8×qu=>x.2),<-qG,JH (f:=qu.V)];rfl
theorem Bj(v:qu):WO v v.fields.length=v.inner.map qu.V:=by simp[WO,qu.inner]
theorem oR(v:qu)(k:Nat):(WO v k).length<=v.items.length+v.fields.length:=by simp[WO];omega
noncomputable abbrev Cin:Ctx:=zV prog [(287,jm [] (QT 145 5))]
theorem H4(v:qu)(z:v.vb<=zA)(y:O)(m:iD 5 (v.items.map qu.V) y) :
  ∃a,zv Cin f246 [.agg (v.V.set 3 y)]=some a/\∀(w:World) (S:Nat->Prop) (u:Value),ya w S a u->ya w S (.sl 5 (v.inner.map qu.V)) u:=by
 have A:=Wg v;have B:=jw v.items;have C:=kP v.fields;have o:=fun Y Z=>oQ (e:=145) m (by simp;omega) Y Z
 have d:=fun Y Z=>H3 (e:=145) m Y Z
 unfold zA at z;have f:v.V.set 3 y=[int v.kind,int v.n,str v.s,y,.sl 6 (v.fields.map kI)]:=by rw[Qm];rfl
 have g:∀{code},f246.body=some code->ZX Cin code ⟨vn [.agg (v.V.set 3 y)],fun _=>none,0⟩ (Vq Cin.P f246 (iS (.sl 5 (v.inner.map qu.V))))->∃a,zv Cin f246 [.agg (v.V.set 3 y)]=some a/\∀(w:World) (S:Nat->Prop) (u:Value),ya w S a u->ya w S (.sl 5 (v.inner.map qu.V)) u:=by intro code D h;obtain⟨a,E,F⟩:=YT D h;exact⟨a,E,fun w S u G=>AH G F⟩
 refine g rfl ?_;rw[f];have H:=fun Y=>D9 (e:=145) (s:=5) (es:=v.items.map qu.V) (y:=y) (Z:=1) Y (id:=0) (by omega)
 simp[m.cell,o,H];refine zL (fun k σ Y Z=>σ 10=.sl 6 (v.fields.map kI)/\σ 11=int v.fields.length/\σ 12=int k/\qN Y Z 145 5 (σ 3) (WO v k)) v.fields.length
  ⟨by simp,by simp,by simp,by rw[Bh];simpa using d _ _⟩ ?_
 rintro k σ Y Z K ⟨i,j,l,p⟩;have I:=oR v k;by_cases b:k<v.fields.length
 ·have J:=qe k;have q:=p.more (some ⟨184,6,false,[str v.fields[k].1::v.fields[k].2.V]⟩);have r:=q.yx (P:=prog) (t:=50) (c:=v.fields[k].2.V) el50 zdm zhR zdn rfl (by omega) (by unfold maxLen;omega) (by omega);have x:∀Y Z,zt prog Y Z 50 1 [(0,.agg v.fields[k].2.V)]=some (.own Z 0 1,qq Y Z (some ⟨145,5,true,[v.fields[k].2.V]⟩),Z+1):=fun Y Z=>by simp only[zt,el50,zdm,zdn,zr,Zt];simp[zJ]
  simp[i,j,l,b,x,J,r];refine⟨b,?_⟩;rw[Bi b];exact qN.after
 ·obtain rfl:k=v.fields.length:=by omega
  rw[Bj]at p;have:=p.freeze Z;simp[i,j,l,f246];exact this
theorem Eb:zg prog 246 (GV fun v=>.sl 5 (v.inner.map qu.V)):=
 W6 (fn:=f246) (zW mixed ⟨Bg,trivial⟩:AM.Good Cin _) (qX func246) false [] _ fun args r h w S vs b=>by obtain⟨v,rfl,c,rfl⟩:=VC h;obtain⟨u,d,e⟩:=YS b;subst d;obtain⟨y,f,a⟩:=iT e (j:=3) (s:=5) (es:=v.items.map qu.V) (by simp);obtain⟨g,i,k⟩:=H4 v c.1 y f;exact⟨_,g,.cons a .nil,by simp[f246],i,k⟩
def KN(s:Int×Bool):Bool:=s.2||decide (1000<s.1)
def oS(s r:Int×Bool):Int×Bool:=if KN s then s else(s.1+r.1,s.2||r.2)
mutual
def qu.rp:qu->Int->Int×Bool
 | .mk _ _ _ a b,l=>rpF b l (rpV a l (1,decide (8<l)))
def rpV:List qu->Int->Int×Bool->Int×Bool
 |[],_,s=>s
 |v::vs,l,s=>rpV vs l (oS s (v.rp (l+1)))
def rpF:List (za×qu)->Int->Int×Bool->Int×Bool
 |[],_,s=>s
 |(_,v)::vs,l,s=>rpF vs l (oS s (v.rp (l+1)))
end
def uj(xs:List qu)(l:Int)(s:Int×Bool):Int×Bool:=xs.foldl (fun s x=>oS s (x.rp (l+1))) s
theorem Sd:∀(xs:List qu) (l:Int) (s:Int×Bool),rpV xs l s=uj xs l s
 |[],_,_=>rfl
 |v::vs,l,s=>by simp only[rpV,uj,QF];exact Sd vs l _
theorem Se:∀(xs:List (za×qu)) (l:Int) (s:Int×Bool),rpF xs l s=uj (xs.map (·.2)) l s
 |[],_,_=>rfl
 |(a,v)::vs,l,s=>by simp only[rpF,uj,z6,QF];exact Se vs l _
theorem zdv(v:qu)(l:Int):v.rp l=uj v.inner l (1,decide (8<l)):=by
 cases v with
 |mk k n s a b=>simp only[qu.rp,Sd,Se,qu.inner,qu.items,qu.fields,uj,List.foldl_append]
theorem oT{xs:List qu}{l:Int}{s:Int×Bool}(h:KN s=true):uj xs l s=s:=by
 induction xs with
 |nil=>rfl
 |cons x xs a=>simp only[uj,QF,oS,h,qV];exact a
theorem Sf{xs:List qu}{l:Int}{s:Int×Bool}{k:Nat}(h:k<xs.length):uj (xs.drop k) l s=uj (xs.drop (k+1)) l (oS s (xs[k].rp (l+1))):=by rw[zc h];rfl
def Wv(xs:List qu):Nat:=(xs.map qu.parts).sum
def vP:List qu->Nat
 |[]=>0
 |v::l=>max v.levels (vP l)
theorem NH(v:qu):v.parts=1+Wv v.inner:=by
 rw[DV];have c:∀l:List qu,vv l=Wv l:=by
  intro l;induction l with
  |nil=>rfl
  |cons v l b=>simp[vv,Wv,b]
 have d:∀l:List (za×qu),vG l=Wv (l.map (·.2)):=by
  intro l;induction l with
  |nil=>rfl
  |cons v l b=>obtain⟨a,v⟩:=v;simp[vG,Wv]at b⊢;rw[b]
 rw[c,d];simp[Wv,qu.inner,na]
theorem H5(v:qu):v.levels=vP v.inner+1:=by
 rw[ub];have d:∀l:List qu,kO l=vP l:=by
  intro l;induction l with
  |nil=>rfl
  |cons v l c=>simp[kO,vP,c]
 have e:∀l:List (za×qu),vg l=vP (l.map (·.2)):=by
  intro l;induction l with
  |nil=>rfl
  |cons v l c=>obtain⟨a,v⟩:=v;simp[vg,vP,c]
 have f:∀a b:List qu,vP (a++b)=max (vP a) (vP b):=by
  intro a b;induction a with
  |nil=>simp[vP]
  |cons v a c=>simp only[wB,vP,c];omega
 rw[d,e,qu.inner,f]
theorem uk{v x:qu}(h:x∈v.inner):x.vb<v.vb:=by
 have a:=Wg v;rcases qi.1 h with h|h
 ·have:=kY h;omega
 ·obtain⟨f,b,rfl⟩:=q9.1 h;have:=ZL b;omega
structure RP (xs:List qu) (l:Int) (s r:Int×Bool):Prop where
 lo:s.1<=r.1
 hi:r.1<=s.1+Wv xs
 deep:r.2=true->s.2=true\/8<l+(vP xs:Int)
 all:KN r=false->r.1=s.1+Wv xs/\(xs≠[]->l+(vP xs:Int)<=8)
theorem LV:∀(b:Nat) (v:qu),v.vb<=b->∀l,0<=(v.rp l).1/\(v.rp l).1<=v.parts/\((v.rp l).2=true->8<l+(v.levels:Int)-1)/\(KN (v.rp l)=false->(v.rp l).1=v.parts/\l+(v.levels:Int)-1<=8):=by
 intro b
 induction b with
 |zero=>intro v t;have:=Kk v;omega
 |succ b u=>
  intro v t l;have i:∀(xs:List qu) (s:Int×Bool),0<=s.1->(∀x∈xs,x.vb<=b)->RP xs l s (uj xs l s):=by
   intro xs
   induction xs with
   |nil=>intro s _ _;exact⟨by simp[uj],by simp[uj,Wv],fun h=>.inl (by simpa[uj]using h),fun _=>⟨by simp[uj,Wv],fun h=>absurd rfl h⟩⟩
   |cons x xs j=>
    intro s D r;by_cases d:KN s=true
    ·rw[oT d];exact⟨by omega,by omega,fun h=>.inl h,fun h=>by rw[d]at h;cases h⟩
    ·have e:uj (x::xs) l s=uj xs l (s.1+(x.rp (l+1)).1,s.2||(x.rp (l+1)).2):=by simp only[uj,QF,oS,d];rfl
     rw[e];obtain⟨E,F,w,z⟩:=u x (r x (by simp)) (l+1);have f:=j (s.1+(x.rp (l+1)).1,s.2||(x.rp (l+1)).2) (by simp only;omega) (fun y A=>r y (by simp[A]));have a:Wv (x::xs)=x.parts+Wv xs:=by simp[Wv]
     have k:=f.lo;have m:=f.hi;simp only at k m;refine⟨by omega,by rw[a];omega,fun h=>?_,fun h=>?_⟩
     ·simp only[vP];rcases f.deep h with h|h
      ·simp only[qx]at h;rcases h with h|h
       ·exact .inl h
       ·right;have:=w h;omega
      ·right;omega
     ·obtain⟨n,o⟩:=f.all h;have p:KN (x.rp (l+1))=false:=by
       simp only[KN,wP,kd]at h d⊢;refine⟨?_,by omega⟩;cases hd:(x.rp (l+1)).2 with
       |false=>rfl
       |true=>
        exfalso;have q:KN (s.1+(x.rp (l+1)).1,s.2||(x.rp (l+1)).2)=true:=by simp[KN,hd]
        rw[oT q]at h;simp[hd]at h
      obtain⟨G,H⟩:=z p;simp only at n;refine⟨by rw[a];omega,fun _=>?_⟩;simp only[vP];by_cases c:xs=[]
      ·subst c;simp only[vP];omega
      ·have:=o c;omega
  have g:=i v.inner (1,decide (8<l)) (by simp) fun x p=>by have:=uk p;omega
  rw[zdv,NH,H5];have B:=g.lo;have C:=g.hi;simp only at B C;refine⟨by omega,by omega,fun h=>?_,fun h=>?_⟩
  ·rcases g.deep h with h|h
   ·simp at h;omega
   ·omega
  ·obtain⟨n,o⟩:=g.all h;simp only at n;refine⟨by omega,?_⟩;by_cases c:v.inner=[]
   ·rw[c]at h⊢;simp[uj,KN]at h;simp only[vP];omega
   ·have:=o c;omega
theorem Sg(v:qu):KN (v.rp 1)=(decide ((1000:Int)<v.parts)||decide ((8:Int)<v.levels)):=by
 obtain⟨f,g,d,e⟩:=LV v.vb v (zl _) 1;cases c:KN (v.rp 1)with
 |false=>
  obtain⟨a,b⟩:=e c;simp only[KN,wP,kd]at c
  symm
  simp only[wP,kd];omega
 |true=>
  symm
  simp only[KN,qx,zS]at c⊢;rcases c with c|c
  ·right;have:=d c;omega
  ·left;omega
noncomputable def FV2 (out:qu->Int->O) (lo hi:Int) (n:Nat):zb->Option O:=qd (α:=qu×Int) (fun a=>[.agg a.1.V,int a.2]) (fun a=>a.1.vb<=zA/\a.1.vb<=n/\lo<=a.2/\a.2<=hi) (fun a=>out a.1 a.2)
theorem Ec(out:qu->Int->O)(lo hi:Int)(n:Nat)(v:qu)(i:Int)(Y:Hp)(Z:Nat)(h:v.vb<=zA/\v.vb<=n/\lo<=i/\i<=hi):hP (FV2 out lo hi n) [.agg v.V,int i] Y Z=some (out v i,Y,Z):=
 yI (Y1:=Y) (show zC Y [.agg v.V,int i]=some ([.agg v.V,int i],Y) by simp only[zC,Zt];simp)
  (qD (V:=fun a:qu×Int=>[.agg a.1.V,int a.2]) (a:=(v,i)) (fun a b e=>by obtain⟨c,d⟩:=a;obtain⟨f,g⟩:=b;simp only[zj,zG,O.agg.injEq]at e;rw[YW e.1,qR e.2]) h) (.inr (by simp only[wi,aQ,V4];rfl))
noncomputable abbrev Crp (n:Nat):Ctx:=zV prog [(217,hP (FV2 (fun v l=>.w5 [int (v.rp l).1,wb (v.rp l).2]) 1 9 n)),(246,GV fun v=>.sl 5 (v.inner.map qu.V))]
theorem Bm(v:qu):v.inner.length<v.vb:=by have:=Wg v;have:=jw v.items;have:=kP v.fields;simp[qu.inner];omega
theorem Ed(n:Nat)(v:qu)(l:Int)(h:v.vb<=zA/\v.vb<=n+1/\1<=l/\l<=9):zv (Crp n) f217 [.agg v.V,int l]=some (.w5 [int (v.rp l).1,wb (v.rp l).2]):=by
 obtain⟨r,E,t,u⟩:=h;have w:=Bm v;have m:=fun Y Z=>JW (fun v=>.sl 5 (v.inner.map qu.V)) v Y Z r
 unfold zA at r;refine zn rfl ?_;simp[m];refine zL (fun k σ Y Z=>σ 1=int l/\σ 15=.sl 5 (v.inner.map qu.V)/\σ 16=int v.inner.length/\σ 17=int k/\∃s:Int×Bool,σ 6=int s.1/\σ 7=wb s.2/\0<=s.1/\s.1<=400000000/\(s.2=false->l<=8)/\v.rp l=uj (v.inner.drop k) l s) v.inner.length
  ⟨by simp,by simp,by simp,by simp,(1,decide (8<l)),by simp,by simp,by simp,by simp,by simp,by rw[zdv];simp⟩ ?_
 rintro k σ Y Z F ⟨o,c,d,e,s,p,q,G,H,x,b⟩;by_cases a:k<v.inner.length
 ·have y:=qe k;have I:=uk (zi a);have g:(s.2||decide (1000<s.1))=KN s:=rfl;cases i:KN s
  ·have j:s.2=false:=by cases h:s.2<;>simp_all[KN]
   have z:=x j;have A:=wq (l+1);have f:=fun Y Z=>Ec (fun v l=>.w5 [int (v.rp l).1,wb (v.rp l).2]) 1 9 n v.inner[k] (l+1) Y Z ⟨by unfold zA;omega,by omega,by omega,by omega⟩
   obtain⟨J,K,L,M⟩:=LV _ v.inner[k] (zl _) (l+1);have B:=ov v.inner[k];have C:s.1<=1000:=by simp[KN]at i;omega
   have D:=wq (s.1+(v.inner[k].rp (l+1)).1);rw[Sf a]at b;simp only[oS,i,zP,wF]at b;simp[o,c,d,e,p,q,a,g,i,f,A,D,y];refine⟨a,?_⟩;rw[b,j];cases hd:(v.inner[k].rp (l+1)).2<;>simp[hd]<;>omega
  ·rw[oT i]at b;simp[o,c,d,e,p,q,a,g,i,b,f217,wK]
 ·obtain rfl:k=v.inner.length:=by omega
  rw[zp]at b;have b:v.rp l=s:=b;simp[o,c,d,e,p,q,b,f217,wK]
theorem LW{out:qu->Int->O}{lo hi:Int}{n:Nat}{args:zb}{r:O}(h:FV2 out lo hi n args=some r):∃(v:qu) (i:Int),args=[.agg v.V,int i]/\(v.vb<=zA/\v.vb<=n/\lo<=i/\i<=hi)/\r=out v i:=by obtain⟨⟨v,i⟩,a,b,c⟩:=zO h;exact⟨v,i,a,b,c⟩
theorem Si{out:qu->Int->O}{lo hi:Int}{f:FuncId}(a:∃fn,prog.funcs[f]?=some fn/\(fn.name== "runtime.NumGoroutine")=false/\fn.body.isNone=false):zg prog f (hP (FV2 out lo hi 0)):=by
 refine⟨a,fun args Y Z r Y' Z' h=>?_⟩
 try unfold hP at h
 unfold zh at h;split at h
 ·split at h
  ·rename_i c b;obtain⟨v,i,_,d,_⟩:=LW b;have:=Kk v;omega
  ·cases h
 ·cases h
theorem Bn:∀n,zg prog 217 (hP (FV2 (fun v l=>.w5 [int (v.rp l).1,wb (v.rp l).2]) 1 9 n)):=by
 intro n
 induction n with
 |zero=>exact Si ⟨_,func217,by kernel_rfl,by kernel_rfl⟩
 |succ n a=>
  have b:Gd (Crp n):=zW mixed ⟨a,Eb,trivial⟩;exact yy (fn:=f217) b (qX func217) false [] _ fun args r h=>by obtain⟨v,l,rfl,c,rfl⟩:=LW h;exact⟨zI (zl 2) (by decide),_,Ed n v l c,z8 _⟩
noncomputable abbrev Crc:Ctx:=zV prog [(248,hP (F3 jG)),(249,hP (FS (wc 32 126)))]
@[simp]theorem qrc1:ki Crc 248:=yL (by rfl) (zu _ _)
def lf(v:qu):Int:=QR v.kind v.n v.s v.items.length v.fields.length
theorem Sj(v:qu):lf v=if(!jG v.kind 0 5)then 4 else if(v.kind != 1&&v.kind != 2&&v.n != 0)then 3 else if(v.kind != 3&&!v.s.isEmpty)then 3 else if(v.kind != 4&&decide (0<v.items.length))then 3 else if(v.kind != 5&&decide (0<v.fields.length))then 3 else if(v.kind==1&&!jG v.n 0 1)then 1 else if(v.kind==2&&!jG v.n (-999999999999999) 999999999999999)then 1 else if(decide ((500:Int)<v.s.length))then 2 else if(!wc 32 126 v.s)then 1 else if(decide ((100:Int)<v.items.length)||decide ((100:Int)<v.fields.length))then 2 else 0:=by
 unfold lf QR;have a:iW v.kind=!jG v.kind 0 5:=by rw[qA];simp[iW,jG]
 have b:XT v.kind v.n v.s v.items.length v.fields.length=((v.kind != 1&&v.kind != 2&&v.n != 0)||(v.kind != 3&&!v.s.isEmpty)||(v.kind != 4&&decide (0<v.items.length))||(v.kind != 5&&decide (0<v.fields.length))):=by
  unfold XT;have:(v.s==[])=v.s.isEmpty:=by cases v.s<;>rfl
  rw[this];generalize (v.kind != 1)=c;generalize (v.kind != 2)=d;generalize (v.kind != 3)=e;generalize (v.kind != 4)=f;generalize (v.kind != 5)=g;generalize (v.n != 0)=h;generalize v.s.isEmpty=i;generalize decide (0<v.items.length)=j;generalize decide (0<v.fields.length)=k;cases c<;>cases d<;>cases e<;>cases f<;>cases g<;>cases h<;>cases i<;>cases j<;>cases k<;>rfl
 have l:ed v.kind v.n=(v.kind==1&&!jG v.n 0 1):=by rw[qA];simp[ed,jG];omega
 have m:JX v.kind v.n=(v.kind==2&&!jG v.n (-999999999999999) 999999999999999):=by rw[qA];simp[JX,jG];omega
 rw[a,b,l,m,LQ,LP];generalize (!jG v.kind 0 5)=o;generalize (v.kind != 1&&v.kind != 2&&v.n != 0)=p;generalize (v.kind != 3&&!v.s.isEmpty)=q;generalize (v.kind != 4&&decide (0<v.items.length))=r;generalize (v.kind != 5&&decide (0<v.fields.length))=t;generalize (v.kind==1&&!jG v.n 0 1)=u;generalize (v.kind==2&&!jG v.n (-999999999999999) 999999999999999)=w;cases o<;>cases p<;>cases q<;>cases r<;>cases t<;>cases u<;>cases w<;>cases wc 32 126 v.s<;>rfl
theorem ma(v:qu)(h:v.vb<=zA):zv Crc f247 [.agg v.V]=some (int (lf v)):=by
 have q:=Wg v;have m:v.s.length<=zA:=by omega
 refine zn rfl ?_;have o:=Sj v;obtain⟨r,c⟩:∃b,(!jG v.kind 0 5)=b:=⟨_,rfl⟩;obtain⟨t,d⟩:∃b,(v.kind != 1&&v.kind != 2&&v.n != 0)=b:=⟨_,rfl⟩;obtain⟨u,e⟩:∃b,(v.kind != 3&&!v.s.isEmpty)=b:=⟨_,rfl⟩;obtain⟨w,f⟩:∃b,(v.kind != 4&&decide (0<v.items.length))=b:=⟨_,rfl⟩;obtain⟨x,g⟩:∃b,(v.kind != 5&&decide (0<v.fields.length))=b:=⟨_,rfl⟩;obtain⟨y,i⟩:∃b,(v.kind==1&&!jG v.n 0 1)=b:=⟨_,rfl⟩;obtain⟨z,j⟩:∃b,(v.kind==2&&!jG v.n (-999999999999999) 999999999999999)=b:=⟨_,rfl⟩;obtain⟨A,k⟩:∃b,(decide ((500:Int)<v.s.length))=b:=⟨_,rfl⟩;obtain⟨B,l⟩:∃b,(!wc 32 126 v.s)=b:=⟨_,rfl⟩;obtain⟨p,a⟩:∃b,(decide ((100:Int)<v.items.length)||decide ((100:Int)<v.fields.length))=b:=⟨_,rfl⟩;rw[c,d,e,f,g,i,j,k,l,a]at o;cases r
 case true=>simp[m,c,d,e,f,g,i,j,k,l,a,o,f247]
 cases t
 case true=>simp[m,c,d,e,f,g,i,j,k,l,a,o,f247]
 cases u
 case true=>simp[m,c,d,e,f,g,i,j,k,l,a,o,f247]
 cases w
 case true=>simp[m,c,d,e,f,g,i,j,k,l,a,o,f247]
 cases x
 case true=>simp[m,c,d,e,f,g,i,j,k,l,a,o,f247]
 cases y
 case true=>simp[m,c,d,e,f,g,i,j,k,l,a,o,f247]
 cases z
 case true=>simp[m,c,d,e,f,g,i,j,k,l,a,o,f247]
 cases A
 case true=>simp[m,c,d,e,f,g,i,j,k,l,a,o,f247]
 cases B
 case true=>simp[m,c,d,e,f,g,i,j,k,l,a,o,f247]
 cases p
 case true=>simp[m,c,d,e,f,g,i,j,k,l,a,o,f247]
 simp[m,c,d,e,f,g,i,j,k,l,a,o,f247]
theorem gy:zg prog 247 (GV fun v=>int (lf v)):=
 yy (fn:=f247) (qC (q:=[248,249]) mixed ⟨ZZ,fun _=>zu _ _,Yw,fun _=>zu _ _,trivial⟩:AM.Good Crc _) (qX func247) false [] _ fun args r h=>by obtain⟨v,rfl,a,rfl⟩:=VC h;exact⟨by simp[f247],_,ma v a.1,z8 _⟩
noncomputable abbrev Cra (n:Nat):Ctx:=zV prog [(218,hP (FV (fun v=>int v.fault) n)),(247,GV fun v=>int (lf v)),(248,hP (F3 jG)),(249,hP (FS (wc 32 126)))]
@[simp]theorem qra2(n:Nat):ki (Cra n) 249:=yL (by rfl) (zu _ _)
theorem NI(a:za):(!jG a.length 1 60||!wc 32 126 a)=oz a:=by
 unfold oz jG;cases a with
 |nil=>rfl
 |cons c a=>generalize wc 32 126 (c::a)=x;rw[qA];cases x<;>simp<;>omega
theorem sw(n:Nat)(v:qu)(h:v.vb<=zA/\v.vb<=n+1):zv (Cra n) f218 [.agg v.V]=some (int v.fault):=by
 have Q:=Wg v;have R:=jw v.items;have S:=kP v.fields;obtain⟨M,hb⟩:=h;have y:=fun Y Z=>JW (fun v=>int (lf v)) v Y Z M
 unfold zA at M;have c:=oA v;refine zn rfl ?_;by_cases B:lf v=0
 case neg=>
  have D:=vX B;have E:v.fault=lf v:=by rw[c];exact ze B
  simp[y,D,E,f218]
 have c:v.fault=if xD v.items=0 then YF none v.fields else xD v.items:=by rw[c];exact zd B
 simp[y,B];refine zL (fun k σ Y Z=>σ 1=.ref 0 0 0/\σ 16=.sl 5 (v.items.map qu.V)/\σ 17=int v.items.length/\σ 18=int k/\1<=Z/\Y 0=some ⟨145,5,false,[v.V]⟩/\xD v.items=xD (v.items.drop k)) v.items.length
  ⟨by simp,by simp,by simp,by simp,by simp,by simp,by simp⟩ ?_
 rintro k σ Y Z N ⟨i,p,q,r,u,o,s⟩;have t:¬0=Z:=by omega
 by_cases b:k<v.items.length
 ·have T:=kY (zi b);have P:=qe k;have a:=fun Y Z=>aR (fun v=>int v.fault) n v.items[k] Y Z ⟨by unfold zA;omega,by omega⟩
  rw[iX b]at s;by_cases d:v.items[k].fault=0
  ·rw[zd d]at s;simp[i,p,q,r,b,a,d,P]
   and_intros<;>first|omega|exact s|simp[t,o]
  ·rw[ze d]at s;have m:=vX d;rw[s,ze d]at c;simp[i,p,q,r,b,a,m,c,f218]
 ·obtain rfl:k=v.items.length:=by omega
  rw[zp]at s;have s:xD v.items=0:=by rw[s];rfl
  rw[s,zd rfl]at c;simp[i,p,q,r,o];refine zL (fun k σ Y Z=>σ 1=.ref 0 0 0/\σ 29=.sl 6 (v.fields.map kI)/\σ 30=int v.fields.length/\σ 31=int k/\1<=Z/\Y 0=some ⟨145,5,false,[v.V]⟩/\v.fault=YF (QS v.fields k) (v.fields.drop k)) v.fields.length
   ⟨by simp[i],by simp,by simp,by simp,u,o,by simp[c,QS]⟩ ?_
  clear i p q r u o b N t Z Y σ c;rintro k σ Y Z N ⟨i,e,f,g,u,o,c⟩;have t:¬0=Z:=by omega
  by_cases b:k<v.fields.length
  ·have T:=ZL (zi b);have P:=qe k;have l:v.fields[k].1.length<=zA:=by unfold zA;omega
   have a:=fun Y Z=>aR (fun v=>int v.fault) n v.fields[k].2 Y Z ⟨by unfold zA;omega,by omega⟩
   have en:=NI v.fields[k].1;rw[iY b]at c;cases w:oz v.fields[k].1
   case true=>simp[i,e,f,g,b,l,en,w,c,f218]
   have z:QS v.fields (k+1)=some v.fields[k].1:=by simp[QS,b]
   simp only[w,zP,wF]at c;by_cases U:k=0
   ·subst U;simp only[QS,xU,qV,zP,wF]at c;by_cases d:v.fields[0].2.fault=0
    ·rw[zd d]at c;have W:=wq 1;simp[i,e,f,g,b,l,en,w,a,d,W]
     and_intros<;>first|omega|(rw[c];rw[z];simp;done)|simp[t,o]
    ·rw[ze d]at c;have m:=vX d;simp[i,e,f,g,b,l,en,w,a,m,c,f218]
   ·obtain⟨j,rfl⟩:∃j,k=j+1:=⟨k-1,by omega⟩;have C:j<v.fields.length:=by omega
    have F:i6.wrap ((j:Int)+1-1)=(j:Int):=by rw[wS (by omega) (by omega)];omega
    have x:=wq (j:Int);have G:((j:Int)+1).toNat=j+1:=by omega
    have H:0<(j:Int)+1:=by omega
    have I:0<=(j:Int)+1:=by omega
    have J:(j:Int)+1<v.fields.length:=by omega
    have X:=wq ((j:Int)+1+1);have K:(Op.bytesLess v.fields[j+1].1 v.fields[j].1||v.fields[j+1].1==v.fields[j].1)=Xh v.fields[j+1].1 v.fields[j].1:=rfl;have L:QS v.fields (j+1)=some v.fields[j].1:=by simp[QS,C]
    simp only[L,xU]at c;cases A:Xh v.fields[j+1].1 v.fields[j].1
    case true=>simp only[A,qV]at c;simp[i,e,f,g,b,C,l,en,w,a,o,t,F,x,G,H,I,J,K,A,c,f218]
    simp only[A,zP,wF]at c;by_cases d:v.fields[j+1].2.fault=0
    ·rw[zd d]at c;simp[i,e,f,g,b,C,l,en,w,a,o,t,F,x,G,H,I,J,K,A,d,X]
     and_intros<;>first|omega|(rw[c];rw[z])|simp[t,o]
    ·rw[ze d]at c;have m:=vX d;simp[i,e,f,g,b,C,l,en,w,a,o,t,F,x,G,H,I,J,K,A,m,c,f218]
  ·obtain rfl:k=v.fields.length:=by omega
   rw[zp]at c;have c:v.fault=0:=by rw[c];rfl
   simp[i,e,f,g,c,f218]
theorem oU:∀n,zg prog 218 (hP (FV (fun v=>int v.fault) n)):=by
 intro n
 induction n with
 |zero=>exact A7 ⟨_,func218,by kernel_rfl,by kernel_rfl⟩
 |succ n a=>
  have b:AM.Good (Cra n) (fun g=>[248,249].contains g):=qC mixed ⟨a,by simp,gy,by simp,ZZ,fun _=>zu _ _,Yw,fun _=>zu _ _,trivial⟩;exact yy (fn:=f218) b (qX func218) false [] _ fun args r h=>by obtain⟨v,rfl,c,rfl⟩:=VC h;exact⟨zI (zl 1) (by decide),_,sw n v c,z8 _⟩
noncomputable abbrev Crch:Ctx:=zV prog [(218,GV fun v=>int v.fault),(217,hP (FV2 (fun v l=>.w5 [int (v.rp l).1,wb (v.rp l).2]) 1 9 zA))]
theorem Bo:zg prog 178 (GV fun v=>int v.check):=
 yy (fn:=f178) (zW mixed ⟨oU zA,Bn zA,trivial⟩:AM.Good Crch _) (qX func178) false [] _ fun args r h=>by
  obtain⟨v,rfl,b,rfl⟩:=VC h;have c:=fun Y Z=>JW (fun v=>int v.fault) v Y Z b.1
  have d:=fun Y Z=>Ec (fun v l=>.w5 [int (v.rp l).1,wb (v.rp l).2]) 1 9 zA v 1 Y Z ⟨b.1,b.1,by omega,by omega⟩
  refine⟨by simp[f178],_,zn rfl ?_,z8 _⟩;have f:=Sg v;have a:((v.rp 1).2||decide (1000<(v.rp 1).1))=KN (v.rp 1):=rfl;unfold qu.check;rw[<-f];cases e:KN (v.rp 1)
  ·simp[c,d,a,e,f178]
  ·simp[c,d,a,e,f178]
def w8(a b:Int):Int:=if a<b then -1 else if b<a then 1 else 0
def Bp(a b:za):Int:=if Op.bytesLess a b then -1 else if Op.bytesLess a b||a==b then 0 else 1
def nI(f:Int->Int->Int):zb->Option O
 |[.v (.int .i64 a),.v (.int .i64 b)]=>some (int (f a b))
 |_=>none
theorem za4{f:Int->Int->Int}{args:zb}{r:O}(h:nI f args=some r):∃a b,args=[int a,int b]/\r=int (f a b):=by
 unfold nI at h;split at h
 ·injection h with h;exact⟨_,_,rfl,h.symm⟩
 ·cases h
@[simp]theorem zh9(f:Int->Int->Int)(a b:Int)(Y:Hp)(Z:Nat):hP (nI f) [.v (.int .i64 a),.v (.int .i64 b)] Y Z=some (int (f a b),Y,Z):=yI rfl rfl (.inl rfl)
def Bq:zb->Option O
 |[.v (.int .i64 _)]=>some (wb false)
 |_=>none
def XW:zb->Option O
 |[.v (.string _)]=>some (wb false)
 |_=>none
@[simp]theorem zdw(a:Int)(Y:Hp)(Z:Nat):hP Bq [.v (.int .i64 a)] Y Z=some (wb false,Y,Z):=yI rfl rfl (.inl rfl)
@[simp]theorem zdx(a:ByteArray)(Y:Hp)(Z:Nat):hP XW [.v (.string a)] Y Z=some (wb false,Y,Z):=yI rfl rfl (.inl rfl)
theorem Br:zg prog 197 (hP Bq):=
 yy (fn:=f197) je (qX func197) false [] _ fun args r h=>by
  unfold Bq at h;split at h
  ·injection h with h;subst h;exact⟨by simp[f197],_,zn rfl (by simp[f197]),z8 _⟩
  ·cases h
theorem eo:zg prog 183 (hP XW):=
 yy (fn:=f183) je (qX func183) false [] _ fun args r h=>by
  unfold XW at h;split at h
  ·injection h with h;subst h;exact⟨by simp[f183],_,zn rfl (by simp[f183]),z8 _⟩
  ·cases h
noncomputable abbrev Cnn:Ctx:=zV prog [(197,hP Bq),(183,hP XW)]
theorem Sk:AM.Good Cnn (fun g=>[197,183].contains g):=qC mixed ⟨Br,fun _=>zu _ _,eo,fun _=>zu _ _,trivial⟩
theorem Ww:zg prog 161 (hP (nI w8)):=
 yy (fn:=f161) Sk (qX func161) false [] _ fun args r h=>by
  obtain⟨a,b,rfl,rfl⟩:=za4 h;refine⟨by simp[f161],_,zn rfl ?_,z8 _⟩;unfold w8;by_cases c:a<b
  ·simp[c,f161]
  ·by_cases d:b<a
   ·simp[c,d,f161]
   ·simp[c,d,f161]
noncomputable def PF (f:za->za->Int):zb->Option O:=qd (α:=za×za) (fun a=>[str a.1,str a.2]) (fun _=>True) (fun a=>int (f a.1 a.2))
@[simp]theorem zia(f:za->za->Int)(a b:za)(Y:Hp)(Z:Nat):hP (PF f) [str a,str b] Y Z=some (int (f a b),Y,Z):=
 QL (a,b) _ _ rfl (fun a b e=>by obtain⟨c,d⟩:=a;obtain⟨g,h⟩:=b;simp only[zj,zG]at e;rw[wC e.1,wC e.2]) trivial (.inl rfl)
theorem oV:zg prog 219 (hP (PF Bp)):=
 vM Sk func219 false [] fun⟨a,b⟩ _=>by
  refine⟨by simp[f219],_,zn rfl ?_,z8 _⟩;simp only[Bp];cases c:Op.bytesLess a b
  ·cases d:(a==b)
   ·simp[c,d,f219]
   ·simp[c,d,f219]
  ·simp[c,f219]
@[simp]theorem zgA(a:Int):w8 a a=0:=by simp[w8]
noncomputable abbrev jE:=Lib.compareBytes
theorem mb:zg prog 151 (hP (PF jE)):=
 AU ⟨_,func151,by kernel_rfl,by kernel_rfl⟩ fun args r h=>by obtain⟨⟨a,b⟩,rfl,_,rfl⟩:=zO h;exact⟨[.string ⟨a.toArray⟩,.string ⟨b.toArray⟩],rfl,by simp[lit],_,rfl,rfl,fun w=>by simpa using Tryz.bytealg_CompareString ⟨a.toArray⟩ ⟨b.toArray⟩ w⟩
noncomputable abbrev Cstr:Ctx:=zV prog [(151,hP (PF jE))]
theorem xy:zg prog 111 (hP (PF jE)):=
 vM (zW mixed ⟨mb,trivial⟩:AM.Good Cstr _) func111 false [] fun⟨a,b⟩ _=>⟨by simp[f111],_,zn rfl (by simp[f111]),z8 _⟩
def Xq:List Int->Int
 |[]=>0
 |n::l=>if n=0 then Xq l else n
def cP(l:List Int):List zb:=l.map fun n=>[int n]
@[simp]theorem zdy(l:List Int):(cP l).length=l.length:=by simp[cP]
@[simp]theorem zjF{l:List Int}{k:Nat}(h:k<(cP l).length):(cP l)[k]=[int (l[k]'(by simpa using h))]:=by simp[cP]
theorem Sl{a b:List Int}(h:cP a=cP b):a=b:=jZ (fun x y e=>by simp only[zj,zG]at e;exact qR e) h
noncomputable def PG:zb->Option O:=qd (α:=List Int) (fun l=>[.sl 1 (cP l)]) (fun l=>l.length<=zA) (fun l=>int (Xq l))
theorem za5(l:List Int)(i:l.length<=zA):zv C0 f198 [.sl 1 (cP l)]=some (int (Xq l)):=by
 refine zn rfl ?_;unfold zA at i;simp;refine zL (fun k σ Y Z=>σ 3=int 0/\σ 6=.sl 1 (cP l)/\σ 7=int l.length/\σ 8=int k/\Xq l=Xq (l.drop k)) l.length ⟨by simp,by simp,by simp,by simp,by simp⟩ ?_;rintro k σ Y Z m ⟨d,e,f,g,b⟩;by_cases a:k<l.length
 ·have j:=qe k;rw[zc a]at b;simp only[Xq]at b;by_cases c:l[k]=0
  ·rw[zd c]at b;simp[d,e,f,g,a,c,j];exact⟨a,b⟩
  ·rw[ze c]at b;have h:=vX c;simp[d,e,f,g,a,h,b,f198]
 ·obtain rfl:k=l.length:=by omega
  rw[zp]at b;simp[d,e,f,g,b,Xq,f198]
theorem XX:zg prog 198 (hP PG):=
 vM je func198 false [] fun l Y=>⟨by simp[f198],_,za5 l Y,z8 _⟩
theorem ep(l:List Int)(Y:Hp)(Z id:Nat)(e:Nat)(h:l.length<=zA)(c:Y id=some ⟨e,1,true,cP l⟩):hP PG [.own id 0 l.length] Y Z=some (int (Xq l),Y,Z):=by have d:(cP l).take l.length=cP l:=zZ (by simp);refine yI (show zC Y [.own id 0 l.length]=some ([.sl 1 (cP l)],qq Y id none) by simp[c,d]) ?_ (.inl rfl);exact qD (V:=fun l:List Int=>[O.sl 1 (cP l)]) (a:=l) (fun a b e=>by simp only[zj,zG]at e;injection e with _ e;exact Sl e) h
def Zi(l:za):Bool:=!l.isEmpty&&vN l
noncomputable def yc (a b:za):Int:=if Zi a=true then(if Zi b=true then Xq [w8 (Lib.trimLeftB a 48).length (Lib.trimLeftB b 48).length,jE (Lib.trimLeftB a 48) (Lib.trimLeftB b 48)]else -1)else if Zi b=true then 1 else jE a b
noncomputable abbrev Ccp:Ctx:=zV prog [(311,hP (FS vN)),(289,hP (Yx tlP fun _ b=>dY b)),(161,hP (nI w8)),(111,hP (PF jE)),(198,hP PG)]
theorem zeO:AM.Good Ccp (fun g=>[311].contains g):=qC mixed ⟨Yy,fun _=>zu _ _,Jo,by simp,Ww,by simp,xy,by simp,XX,by simp,trivial⟩
@[simp]theorem zjG:ki Ccp 311:=yL (by rfl) (zu _ _)
theorem mM(a:za)(Y:Hp)(Z:Nat)(h:a.length<=zA):hP (Yx tlP fun _ b=>dY b) [str a,str [48]] Y Z=some (str (Lib.trimLeftB a 48),Y,Z):=xT _ _ a [48] Y Z h (by decide) ⟨48,rfl,by decide⟩ rfl
theorem mc(a b:za)(i:a.length<=zA)(j:b.length<=zA):zv Ccp f282 [str a,str b]=some (int (yc a b)):=by
 refine zn rfl ?_;have c:=fun Y Z=>vw vN a Y Z i
 have d:=fun Y Z=>vw vN b Y Z j
 have k:=fun Y Z=>mM a Y Z i
 have tb:=fun Y Z=>mM b Y Z j
 have e:(!a.isEmpty&&vN a)=Zi a:=rfl;have f:(!b.isEmpty&&vN b)=Zi b:=rfl;cases g:Zi a<;>cases h:Zi b
 ·simp[c,d,e,f,g,h,yc,f282]
 ·simp[c,d,e,f,g,h,yc,f282]
 ·simp[c,d,e,f,g,h,yc,f282]
 ·have l:∀(Y:Hp) (Z id:Nat),Y id=some ⟨3,1,true,[[int (w8 (Lib.trimLeftB a 48).length (Lib.trimLeftB b 48).length)],[int (jE (Lib.trimLeftB a 48) (Lib.trimLeftB b 48))]]⟩->hP PG [.own id 0 2] Y Z=some (int (Xq [w8 (Lib.trimLeftB a 48).length (Lib.trimLeftB b 48).length,jE (Lib.trimLeftB a 48) (Lib.trimLeftB b 48)]),Y,Z):=fun Y Z id m=>ep [_,_] Y Z id _ (by show 2<=zA;decide) m
  simp[c,d,k,tb,e,f,g,h,l,zt,zJ,zr,yc,f282]
theorem gz:zg prog 282 (hP (Yx (fun a b=>int (yc a b)) fun _ _=>True)):=
 yy (fn:=f282) zeO (qX func282) false [] _ fun args r h=>by obtain⟨a,b,rfl,c,d,_,rfl⟩:=xl h;exact⟨by simp[f282],_,mc a b c d,z8 _⟩
theorem um(a b:za)(Y:Hp)(Z:Nat)(h:a.length<=zA)(c:b.length<=zA):hP (Yx (fun a b=>int (yc a b)) fun _ _=>True) [str a,str b] Y Z=some (int (yc a b),Y,Z):=xT _ _ a b Y Z h c trivial rfl
def y0{α:Type}(c:α->α->Int):List α->List α->Int
 |[],[]=>0
 |[],_::_=>-1
 |_::_,[]=>1
 |x::a,y::b=>if c x y=0 then y0 c a b else c x y
noncomputable abbrev Ccf:Ctx:=zV prog [(282,hP (Yx (fun a b=>int (yc a b)) fun _ _=>True))]
theorem zeP:Gd Ccf:=zW mixed ⟨gz,trivial⟩
def v8(l:List za):Prop:=l.length<=zA/\∀p∈l,p.length<=zA
theorem er(a b:List za)(o:v8 a)(p:v8 b):zv Ccf f281 [.sl 1 (zy a),.sl 1 (zy b),.fn (.func 282) [] []]=some (int (y0 yc a b)):=by
 refine zn rfl ?_;obtain⟨o,q⟩:=o;obtain⟨p,r⟩:=p;unfold zA at o p;simp;refine zL (fun k σ Y Z=>σ 0=.sl 1 (zy a)/\σ 1=.sl 1 (zy b)/\σ 2=.fn (.func 282) [] []/\σ 11=.sl 1 (zy a)/\σ 12=int a.length/\σ 13=int k/\k<=b.length/\y0 yc a b=y0 yc (a.drop k) (b.drop k)) a.length
  ⟨by simp,by simp,by simp,by simp,by simp,by simp,by simp,by simp⟩ ?_
 rintro k σ Y Z y ⟨j,l,m,f,g,h,v,c⟩;by_cases d:k<a.length
 ·have w:=qe k;by_cases e:k<b.length
  ·have i:¬b.length<=k:=by omega
   have u:=fun Y Z=>um a[k] b[k] Y Z (q _ (zi d)) (r _ (zi e))
   rw[zc d,zc e]at c;simp only[y0]at c;by_cases n:yc a[k] b[k]=0
   ·rw[zd n]at c;simp[j,l,m,f,g,h,d,e,i,u,n,w];exact⟨d,by omega,c⟩
   ·rw[ze n]at c;have s:=vX n;simp[j,l,m,f,g,h,d,e,i,u,s,c,f281]
  ·obtain rfl:k=b.length:=by omega
   rw[zc d,zp]at c;simp only[y0]at c;simp[j,l,m,f,g,h,d,c,f281]
 ·obtain rfl:k=a.length:=by omega
  rw[zp]at c;by_cases t:a.length<b.length
  ·rw[zc t]at c;simp only[y0]at c;simp[j,l,m,f,g,h,t,c,f281]
  ·rw[jF (by omega)]at c;simp only[y0]at c;have x:¬((a.length:Int)<b.length):=by omega
   simp[j,l,m,f,g,h,t,c,f281]
noncomputable def FCf:zb->Option O:=qd (α:=List za×List za) (fun a=>[.sl 1 (zy a.1),.sl 1 (zy a.2),.fn (.func 282) [] []]) (fun a=>v8 a.1/\v8 a.2) (fun a=>int (y0 yc a.1 a.2))
theorem zeQ:∀a b:List za×List za,[O.sl 1 (zy a.1),.sl 1 (zy a.2),.fn (.func 282) [] []]=[.sl 1 (zy b.1),.sl 1 (zy b.2),.fn (.func 282) [] []]->a=b:=by rintro⟨f,g⟩ ⟨h,i⟩ e;simp only[zj,zG]at e;obtain⟨c,d⟩:=e;injection c with _ c;injection d with _ d;rw[km c,km d]
theorem cQ:zg prog 281 (hP FCf):=
 vM zeP func281 false [] fun⟨a,b⟩ ⟨c,d⟩=>⟨by simp[f281],_,er a b c d,z8 _⟩
theorem za6(a b:List za)(Y:Hp)(Z:Nat)(c:v8 a)(d:v8 b):hP FCf [.sl 1 (zy a),.sl 1 (zy b),.fn (.func 282) [] []] Y Z=some (int (y0 yc a b),Y,Z):=
 yI (Y1:=Y) (by simp) (qD (V:=fun a:List za×List za=>[O.sl 1 (zy a.1),.sl 1 (zy a.2),.fn (.func 282) [] []]) (a:=(a,b)) zeQ ⟨c,d⟩) (.inl rfl)
noncomputable def Wb (v w:yK):Int:=if Xq [w8 v.a w.a,w8 v.b w.b,w8 v.c w.c]=0 then(if v.pre.length=0 then(if w.pre.length=0 then 0 else 1)else if w.pre.length=0 then -1 else y0 yc v.pre w.pre)else Xq [w8 v.a w.a,w8 v.b w.b,w8 v.c w.c]
noncomputable abbrev Ccv:Ctx:=zV prog [(161,hP (nI w8)),(198,hP PG),(281,hP FCf)]
theorem zeR:AM.Good Ccv (fun g=>[161,198].contains g):=qC mixed ⟨Ww,fun _=>zu _ _,XX,fun _=>zu _ _,cQ,by simp,trivial⟩
theorem XY(v w:yK)(t:v.small)(u:w.small):zv Ccv f239 [.agg v.V,.agg w.V]=some (int (Wb v w)):=by
 obtain⟨a,b,c,p⟩:=v;obtain⟨k,l,m,e⟩:=w;refine zn rfl ?_;have n:=fun Y Z=>za6 p e Y Z t u
 obtain⟨o,s⟩:=wZ (Xq [w8 a k,w8 b l,w8 c m]);have d:∀(Y:Hp) (Z id:Nat),Y id=some ⟨3,1,true,[[int (w8 a k)],[int (w8 b l)],[int (w8 c m)]]⟩->hP PG [.own id 0 3] Y Z=some (int o,Y,Z):=fun Y Z id x=>s ▸ ep [_,_,_] Y Z id _ (by show 3<=zA;decide) x
 have j:Wb ⟨a,b,c,p⟩ ⟨k,l,m,e⟩=if o=0 then(if p.length=0 then(if e.length=0 then 0 else 1)else if e.length=0 then -1 else y0 yc p e)else o:=by rw[<-s];rfl
 rw[j];by_cases q:o=0
 ·subst q;by_cases h:p.length=0<;>by_cases i:e.length=0
  ·simp[yK.V,d,zt,zJ,zr,h,i,f239]
  ·have f:((e.length:Int)==0)=false:=by simpa using i
   simp[yK.V,d,zt,zJ,zr,h,i,f,f239]
  ·have g:((p.length:Int)==0)=false:=by simpa using h
   simp[yK.V,d,zt,zJ,zr,h,i,g,f239]
  ·have g:((p.length:Int)==0)=false:=by simpa using h
   have f:((e.length:Int)==0)=false:=by simpa using i
   simp[yK.V,d,zt,zJ,zr,h,i,g,f,n,f239]
 ·have r:=vX q;simp[yK.V,d,zt,zJ,zr,q,r,f239]
noncomputable def Sm (f:yK->yK->O):zb->Option O:=qd (α:=yK×yK) (fun a=>[.agg a.1.V,.agg a.2.V]) (fun a=>a.1.small/\a.2.small) (fun a=>f a.1 a.2)
theorem zeS:∀a b:yK×yK,[O.agg a.1.V,.agg a.2.V]=[.agg b.1.V,.agg b.2.V]->a=b:=by rintro⟨f,g⟩ ⟨h,i⟩ e;simp only[zj,zG]at e;obtain⟨c,d⟩:=e;injection c with c;injection d with d;rw[KM c,KM d]
theorem Xr:zg prog 239 (qP [.g vO,.g vO] (Sm fun v w=>int (Wb v w))):=
 yf (fn:=f239) zeR (qX func239) _ _ fun args r h=>by obtain⟨⟨v,w⟩,rfl,⟨a,b⟩,rfl⟩:=zO h;exact⟨by simp[f239],_,XY v w a b,wL.refl _⟩
theorem LX(v w:yK)(Y:Hp)(Z:Nat)(b:v.small)(c:w.small):qP [.g vO,.g vO] (Sm fun v w=>int (Wb v w)) [.agg v.V,.agg w.V] Y Z=some (int (Wb v w),Y,Z):=
 xv (show zC Y [.agg v.V,.agg w.V]=some ([.agg v.V,.agg w.V],Y) by simp[yK.V]) (qD (V:=fun a:yK×yK=>[O.agg a.1.V,.agg a.2.V]) (a:=(v,w)) zeS ⟨b,c⟩) (.inl rfl)
structure Cut where
 v:yK
 after:Bool
def Cut.V(c:Cut):zb:=[int c.v.a,int c.v.b,int c.v.c,.sl 1 (zy c.v.pre),wb c.after]
abbrev kn:List (Option Nat):=[none,none,none,some 1,none]
theorem Wx{a b:Cut}(h:a.V=b.V):a=b:=by obtain⟨⟨i,j,k,l⟩,m⟩:=a;obtain⟨⟨n,o,p,q⟩,r⟩:=b;simp only[Cut.V,zj,zG]at h;obtain⟨d,e,f,c,g⟩:=h;injection c with _ c;rw[qR d,qR e,qR f,km c,Wt g]
noncomputable def wV (a b:Cut):Int:=if Wb a.v b.v=0 then(if a.after=b.after then 0 else if b.after=true then -1 else 1)else Wb a.v b.v
noncomputable def Ee (f:Cut->Cut->O):zb->Option O:=qd (α:=Cut×Cut) (fun a=>[.agg a.1.V,.agg a.2.V]) (fun a=>a.1.v.small/\a.2.v.small) (fun a=>f a.1 a.2)
theorem Sn:∀a b:Cut×Cut,[O.agg a.1.V,.agg a.2.V]=[.agg b.1.V,.agg b.2.V]->a=b:=by rintro⟨f,g⟩ ⟨h,i⟩ e;simp only[zj,zG]at e;obtain⟨c,d⟩:=e;injection c with c;injection d with d;rw[Wx c,Wx d]
noncomputable abbrev Ccu:Ctx:=zV prog [(239,qP [.g vO,.g vO] (Sm fun v w=>int (Wb v w)))]
theorem zeT:Gd Ccu:=zW mixed ⟨Xr,trivial⟩
theorem gA(x y:Cut)(l:x.v.small)(m:y.v.small):zv Ccu f212 [.agg x.V,.agg y.V]=some (int (wV x y)):=by
 obtain⟨⟨a,b,c,p⟩,f⟩:=x;obtain⟨⟨h,i,j,k⟩,f'⟩:=y;refine zn rfl ?_;have d:=fun Y Z=>LX ⟨a,b,c,p⟩ ⟨h,i,j,k⟩ Y Z l m
 simp only[yK.V]at d;by_cases e:Wb ⟨a,b,c,p⟩ ⟨h,i,j,k⟩=0
 ·cases f<;>cases f'<;>simp[Cut.V,d,e,wV,f212]
 ·have g:=vX e;simp[Cut.V,d,e,g,wV,f212]
theorem QU:zg prog 212 (qP [.g kn,.g kn] (Ee fun v w=>int (wV v w))):=
 yf (fn:=f212) zeT (qX func212) _ _ fun args r h=>by obtain⟨⟨v,w⟩,rfl,⟨a,b⟩,rfl⟩:=zO h;exact⟨by simp[f212],_,gA v w a b,wL.refl _⟩
theorem Bs(x y:Cut)(u v:O)(Y:Hp)(Z:Nat)(b:(Sh.g kn).fix u=.agg x.V)(c:(Sh.g kn).fix v=.agg y.V)(d:zC Y [u,v]=some ([u,v],Y))(e:x.v.small)(f:y.v.small):qP [.g kn,.g kn] (Ee fun v w=>int (wV v w)) [u,v] Y Z=some (int (wV x y),Y,Z):=
 xv d (by show Ee _ [(Sh.g kn).fix u,(Sh.g kn).fix v]=_;rw[b,c];exact qD (V:=fun a:Cut×Cut=>[O.agg a.1.V,.agg a.2.V]) (a:=(x,y)) Sn ⟨e,f⟩) (.inl rfl)
mutual
noncomputable def yt:qu->qu->Int
 | .mk k n s a b,w=>if k=w.kind then(if k=1\/k=2 then w8 n w.n else if k=3 then jE s w.s else if k=4 then nb a w.items else if k=5 then nc b w.fields else 0)else w8 k w.kind
noncomputable def nb:List qu->List qu->Int
 |[],[]=>0
 |[],_::_=>-1
 |_::_,[]=>1
 |a::xs,b::ys=>if yt a b=0 then nb xs ys else yt a b
noncomputable def nc:List (za×qu)->List (za×qu)->Int
 |[],[]=>0
 |[],_::_=>-1
 |_::_,[]=>1
 |(x,a)::xs,g::ys=>if Xq [jE x g.1,yt a g.2]=0 then nc xs ys else Xq [jE x g.1,yt a g.2]
end
noncomputable def vE (f g:za×qu):Int:=Xq [jE f.1 g.1,yt f.2 g.2]
theorem oW:∀a b:List qu,nb a b=y0 yt a b
 |[],[]=>rfl
 |[],_::_=>rfl
 |_::_,[]=>rfl
 |a::xs,b::ys=>by simp only[nb,y0,oW xs ys]
theorem oX:∀a b:List (za×qu),nc a b=y0 vE a b
 |[],[]=>rfl
 |[],_::_=>rfl
 |_::_,[]=>rfl
 |(x,a)::xs,g::ys=>by simp only[nc,y0,oX xs ys,vE];rfl
theorem aU(a b:qu):yt a b=if a.kind=b.kind then(if a.kind=1\/a.kind=2 then w8 a.n b.n else if a.kind=3 then jE a.s b.s else if a.kind=4 then y0 yt a.items b.items else if a.kind=5 then y0 vE a.fields b.fields else 0)else w8 a.kind b.kind:=by
 cases a with
 |mk k n s e f=>
  cases b with
  |mk g h i c d=>simp only[yt,oW,oX,qu.kind,qu.n,qu.s,qu.items,qu.fields];rfl
noncomputable def Nb (n:Nat):zb->Option O:=qd (α:=qu×qu) (fun a=>[.agg a.1.V,.agg a.2.V]) (fun a=>a.1.vb<=zA/\a.1.vb<=n/\a.2.vb<=zA) (fun a=>int (yt a.1 a.2))
theorem KO(n:Nat)(a b:qu)(Y:Hp)(Z:Nat)(h:a.vb<=zA/\a.vb<=n/\b.vb<=zA):hP (Nb n) [.agg a.V,.agg b.V] Y Z=some (int (yt a b),Y,Z):=
 yI (Y1:=Y) (show zC Y [.agg a.V,.agg b.V]=some ([.agg a.V,.agg b.V],Y) by simp only[zC,Zt])
  (qD (V:=fun a:qu×qu=>[.agg a.1.V,.agg a.2.V]) (a:=(a,b)) (fun x y e=>by obtain⟨c,d⟩:=x;obtain⟨f,g⟩:=y;simp only[zj,zG,O.agg.injEq]at e;rw[YW e.1,YW e.2]) h) (.inl rfl)
theorem aV{f:FuncId}{F:zb->Option O}(b:∃fn,prog.funcs[f]?=some fn/\(fn.name== "runtime.NumGoroutine")=false/\fn.body.isNone=false)(h:∀args r,F args=some r->False):zg prog f (hP F):=by
 refine⟨b,fun args Y Z r Y' Z' a=>?_⟩
 try unfold hP at a
 unfold zh at a;split at a
 ·split at a
  ·rename_i d c;exact(h _ _ c).elim
  ·cases a
 ·cases a
theorem gB{a b:za×qu}(h:kI a=kI b):a=b:=by obtain⟨c,d⟩:=a;obtain⟨e,f⟩:=b;simp only[kI,zj]at h;rw[wC h.1,YW h.2]
theorem uo{a b:List (za×qu)}(h:a.map kI=b.map kI):a=b:=jZ (fun _ _=>gB) h
theorem gC{a b:List qu}(h:a.map qu.V=b.map qu.V):a=b:=jZ (fun _ _=>YW) h
noncomputable abbrev Ccfv (n:Nat):Ctx:=zV prog [(140,hP<|Nb n)]
theorem eu(n:Nat)(a b:List (qu))(p:Vg a<=zA/\Vg a<=n)(t:Vg b<=zA):zv (Ccfv n) f162 [.sl 5 (a.map qu.V),.sl 5 (b.map qu.V),.fn (.func 140) [] []]=some (int (y0 yt a b)):=by
 refine zn rfl ?_;obtain⟨p,u⟩:=p;have y:=jw a;have z:=jw b;unfold zA at p t;simp;refine zL (fun k σ Y Z=>σ 0=.sl 5 (a.map qu.V)/\σ 1=.sl 5 (b.map qu.V)/\σ 2=.fn (.func 140) [] []/\σ 11=.sl 5 (a.map qu.V)/\σ 12=int a.length/\σ 13=int k/\k<=b.length/\y0 yt a b=y0 yt (a.drop k) (b.drop k)) a.length
  ⟨by simp,by simp,by simp,by simp,by simp,by simp,by simp,by simp⟩ ?_
 rintro k σ Y Z A ⟨j,l,m,f,g,h,v,c⟩;by_cases d:k<a.length
 ·have w:=qe k;by_cases e:k<b.length
  ·have i:¬b.length<=k:=by omega
   have B:=kY (zi d);have C:=kY (zi e);have s:=fun Y Z=>KO n a[k] b[k] Y Z ⟨by unfold zA;omega,by omega,by unfold zA;omega⟩
   skip
   rw[zc d,zc e]at c;simp only[y0]at c;by_cases o:yt a[k] b[k]=0
   ·rw[zd o]at c;simp[j,l,m,f,g,h,d,e,i,s,o,w];exact⟨d,by omega,c⟩
   ·rw[ze o]at c;have q:=vX o;simp[j,l,m,f,g,h,d,e,i,s,q,c,f162]
  ·obtain rfl:k=b.length:=by omega
   rw[zc d,zp]at c;simp only[y0]at c;simp[j,l,m,f,g,h,d,c,f162]
 ·obtain rfl:k=a.length:=by omega
  rw[zp]at c;by_cases r:a.length<b.length
  ·rw[zc r]at c;simp only[y0]at c;simp[j,l,m,f,g,h,r,c,f162]
  ·rw[jF (by omega)]at c;simp only[y0]at c;have x:¬((a.length:Int)<b.length):=by omega
   simp[j,l,m,f,g,h,r,c,f162]
noncomputable def FLV (n:Nat):zb->Option O:=qd (α:=List (qu)×List (qu)) (fun a=>[.sl 5 (a.1.map qu.V),.sl 5 (a.2.map qu.V),.fn (.func 140) [] []]) (fun a=>(Vg a.1<=zA/\Vg a.1<=n)/\Vg a.2<=zA) (fun a=>int (y0 yt a.1 a.2))
theorem Sq(n:Nat)(a b:List (qu))(Y:Hp)(Z:Nat)(h:(Vg a<=zA/\Vg a<=n)/\Vg b<=zA):hP (FLV n) [.sl 5 (a.map qu.V),.sl 5 (b.map qu.V),.fn (.func 140) [] []] Y Z=some (int (y0 yt a b),Y,Z):=
 yI (Y1:=Y) (by simp) (qD (V:=fun a:List (qu)×List (qu)=>[O.sl 5 (a.1.map qu.V),.sl 5 (a.2.map qu.V),.fn (.func 140) [] []]) (a:=(a,b)) (fun x y e=>by obtain⟨f,g⟩:=x;obtain⟨i,j⟩:=y;simp only[zj,zG]at e;obtain⟨c,d⟩:=e;injection c with _ c;injection d with _ d;rw[gC c,gC d]) h) (.inl rfl)
noncomputable def FFF (n:Nat):zb->Option O:=qd (α:=(za×qu)×(za×qu)) (fun a=>[.agg (kI a.1),.agg (kI a.2)]) (fun a=>(a.1.2.vb<=zA/\a.1.2.vb<=n/\a.2.2.vb<=zA)) (fun a=>int (vE a.1 a.2))
theorem Sr(n:Nat)(a b:za×qu)(Y:Hp)(Z:Nat)(h:a.2.vb<=zA/\a.2.vb<=n/\b.2.vb<=zA):hP (FFF n) [.agg (kI a),.agg (kI b)] Y Z=some (int (vE a b),Y,Z):=
 yI (Y1:=Y) (show zC Y [.agg (kI a),.agg (kI b)]=some ([.agg (kI a),.agg (kI b)],Y) by simp[kI])
  (qD (V:=fun a:(za×qu)×(za×qu)=>[.agg (kI a.1),.agg (kI a.2)]) (a:=(a,b)) (fun x y e=>by
   obtain⟨d,f⟩:=x;obtain⟨g,i⟩:=y;have c:kI d=kI g/\kI f=kI i:=by simp only[zj,zG,O.agg.injEq]at e;exact⟨zj .. ▸ e.1,zj .. ▸ e.2⟩
   rw[gB c.1,gB c.2]) h) (.inl rfl)
noncomputable abbrev Ccfl (n:Nat):Ctx:=zV prog [(111,hP (PF jE)),(140,hP (Nb n)),(198,hP PG)]
theorem cR(n:Nat)(a b:za×qu)(h:a.2.vb<=zA/\a.2.vb<=n/\b.2.vb<=zA):zv (Ccfl n) f164 [.agg (kI a),.agg (kI b)]=some (int (vE a b)):=by
 refine zn rfl ?_;have c:=fun Y Z=>KO n a.2 b.2 Y Z h
 have d:∀(Y:Hp) (Z id:Nat),Y id=some ⟨3,1,true,[[int (jE a.1 b.1)],[int (yt a.2 b.2)]]⟩->hP PG [.own id 0 2] Y Z=some (int (vE a b),Y,Z):=fun Y Z id e=>ep [_,_] Y Z id _ (by show 2<=zA;decide) e
 simp[kI,c,d,zt,zJ,zr,f164]
noncomputable abbrev Ccff (n:Nat):Ctx:=zV prog [(164,hP<|FFF n)]
theorem ew(n:Nat)(a b:List (za×qu))(p:lT a<=zA/\lT a<=n)(t:lT b<=zA):zv (Ccff n) f163 [.sl 6 (a.map kI),.sl 6 (b.map kI),.fn (.func 164) [] []]=some (int (y0 vE a b)):=by
 refine zn rfl ?_;obtain⟨p,u⟩:=p;have y:=kP a;have z:=kP b;unfold zA at p t;simp;refine zL (fun k σ Y Z=>σ 0=.sl 6 (a.map kI)/\σ 1=.sl 6 (b.map kI)/\σ 2=.fn (.func 164) [] []/\σ 11=.sl 6 (a.map kI)/\σ 12=int a.length/\σ 13=int k/\k<=b.length/\y0 vE a b=y0 vE (a.drop k) (b.drop k)) a.length
  ⟨by simp,by simp,by simp,by simp,by simp,by simp,by simp,by simp⟩ ?_
 rintro k σ Y Z A ⟨j,l,m,f,g,h,v,c⟩;by_cases d:k<a.length
 ·have w:=qe k;by_cases e:k<b.length
  ·have i:¬b.length<=k:=by omega
   have B:=ZL (zi d);have C:=ZL (zi e);have q:=fun Y Z=>Sr n a[k] b[k] Y Z ⟨by unfold zA;omega,by omega,by unfold zA;omega⟩
   simp only[kI]at q;rw[zc d,zc e]at c;simp only[y0]at c;by_cases o:vE a[k] b[k]=0
   ·rw[zd o]at c;simp[j,l,m,f,g,h,d,e,i,q,o,w];exact⟨d,by omega,c⟩
   ·rw[ze o]at c;have r:=vX o;simp[j,l,m,f,g,h,d,e,i,q,r,c,f163]
  ·obtain rfl:k=b.length:=by omega
   rw[zc d,zp]at c;simp only[y0]at c;simp[j,l,m,f,g,h,d,c,f163]
 ·obtain rfl:k=a.length:=by omega
  rw[zp]at c;by_cases s:a.length<b.length
  ·rw[zc s]at c;simp only[y0]at c;simp[j,l,m,f,g,h,s,c,f163]
  ·rw[jF (by omega)]at c;simp only[y0]at c;have x:¬((a.length:Int)<b.length):=by omega
   simp[j,l,m,f,g,h,s,c,f163]
noncomputable def FLF (n:Nat):zb->Option O:=qd (α:=List (za×qu)×List (za×qu)) (fun a=>[.sl 6 (a.1.map kI),.sl 6 (a.2.map kI),.fn (.func 164) [] []]) (fun a=>(lT a.1<=zA/\lT a.1<=n)/\lT a.2<=zA) (fun a=>int (y0 vE a.1 a.2))
theorem Ss(n:Nat)(a b:List (za×qu))(Y:Hp)(Z:Nat)(h:(lT a<=zA/\lT a<=n)/\lT b<=zA):hP (FLF n) [.sl 6 (a.map kI),.sl 6 (b.map kI),.fn (.func 164) [] []] Y Z=some (int (y0 vE a b),Y,Z):=
 yI (Y1:=Y) (by simp) (qD (V:=fun a:List (za×qu)×List (za×qu)=>[O.sl 6 (a.1.map kI),.sl 6 (a.2.map kI),.fn (.func 164) [] []]) (a:=(a,b)) (fun x y e=>by obtain⟨f,g⟩:=x;obtain⟨i,j⟩:=y;simp only[zj,zG]at e;obtain⟨c,d⟩:=e;injection c with _ c;injection d with _ d;rw[uo c,uo d]) h) (.inl rfl)
noncomputable abbrev Ccmv (n:Nat):Ctx:=zV prog [(161,hP (nI w8)),(111,hP (PF jE)),(162,hP (FLV n)),(163,hP (FLF n))]
theorem sx(n:Nat)(a b:qu)(h:a.vb<=zA/\a.vb<=n+1/\b.vb<=zA):zv (Ccmv n) f140 [.agg a.V,.agg b.V]=some (int (yt a b)):=by
 obtain⟨u,v,w⟩:=h;have x:=Wg a;have y:=Wg b;have m:=fun Y Z=>Sq n a.items b.items Y Z ⟨⟨by omega,by omega⟩,by omega⟩
 have o:=fun Y Z=>Ss n a.fields b.fields Y Z ⟨⟨by omega,by omega⟩,by omega⟩
 refine zn rfl ?_;have c:=aU a b;by_cases e:a.kind=b.kind
 ·rw[zd e]at c;by_cases j:a.kind=1
  ·rw[zd (.inl j)]at c;have d:b.kind=1:=by omega
   simp[j,d,c,f140]
  by_cases k:a.kind=2
  ·rw[zd (.inr k)]at c;have d:b.kind=2:=by omega
   simp[k,d,c,f140]
  rw[ze (by omega)]at c;by_cases f:a.kind=3
  ·rw[zd f]at c;have d:b.kind=3:=by omega
   simp[f,d,c,f140]
  rw[ze f]at c;by_cases g:a.kind=4
  ·rw[zd g]at c;have d:b.kind=4:=by omega
   simp[g,d,c,m,f140]
  rw[ze g]at c;by_cases i:a.kind=5
  ·rw[zd i]at c;have d:b.kind=5:=by omega
   simp[i,d,c,o,f140]
  rw[ze i]at c;have l:(a.kind != b.kind)=false:=by simpa using e
  have p:=jN j;have q:=jN k;have r:=jN f;have s:=jN g;have t:=jN i;simp[l,p,q,r,s,t,c,f140]
 ·rw[ze e]at c;have l:(a.kind != b.kind)=true:=by simpa using e
  simp[l,c,f140]
theorem mN{n:Nat}{args:zb}{r:O}(h:Nb n args=some r):∃a b:qu,args=[.agg a.V,.agg b.V]/\(a.vb<=zA/\a.vb<=n/\b.vb<=zA)/\r=int (yt a b):=by obtain⟨⟨a,b⟩,c,d,e⟩:=zO h;exact⟨a,b,c,d,e⟩
theorem oY:∀n,zg prog 140 (hP (Nb n)):=by
 intro n
 induction n with
 |zero=>
  exact aV ⟨_,func140,by kernel_rfl,by kernel_rfl⟩ fun args r h=>by obtain⟨a,b,_,d,_⟩:=mN h;have:=Kk a;omega
 |succ n e=>
  have f:Gd (Ccfv n):=zW mixed ⟨e,trivial⟩;have i:zg prog 162 (hP (FLV n)):=
   vM f func162 false [] fun⟨a,b⟩ ⟨c,d⟩=>by exact⟨zI (zl 3) (by decide),_,eu n a b c d,z8 _⟩
  have j:AM.Good (Ccfl n) (fun g=>[111,140,198].contains g):=qC mixed ⟨xy,fun _=>zu _ _,e,fun _=>zu _ _,XX,fun _=>zu _ _,trivial⟩;have k:zg prog 164 (hP (FFF n)):=
   vM j func164 false [] fun⟨a,b⟩ c=>by exact⟨zI (zl 2) (by decide),_,cR n a b c,z8 _⟩
  have l:Gd (Ccff n):=zW mixed ⟨k,trivial⟩;have m:zg prog 163 (hP (FLF n)):=
   vM l func163 false [] fun⟨a,b⟩ ⟨c,d⟩=>by exact⟨zI (zl 3) (by decide),_,ew n a b c d,z8 _⟩
  have o:Gd (Ccmv n):=zW mixed ⟨Ww,xy,i,m,trivial⟩;exact yy (fn:=f140) o (qX func140) false [] _ fun args r h=>by obtain⟨a,b,rfl,c,rfl⟩:=mN h;exact⟨zI (zl 2) (by decide),_,sx n a b c,z8 _⟩
end Go.Q
namespace Go.AM
def Js(a:List Sh)(F:zb->Option O):AM.Spec:=zh true [] fun args=>F (dU a args)
theorem Ef{C:Ctx}{pf:FuncId->Bool}{f:FuncId}{fn:Func}(c:AM.Good C pf)(d:Vx C pf f fn)(a:List Sh)(F:zb->Option O)
  (e:∀args r,F args=some r->args.length<=fn.ntmps/\∃b,zv C fn args=some b/\wL b r):zg C.P f (Js a F):=
 W6 c d true [] _ fun args r h w S vs g=>by obtain⟨i,b,j,k⟩:=e _ _ h;exact⟨dU a args,b,KG g,i,j,k⟩
theorem Su{a:List Sh}{F:zb->Option O}{args:zb}{Y Y1:Hp}{Z:Nat}{ys:zb}{r:O}(b:zC Y args=some (ys,Y1))(c:F (dU a ys)=some r)(d:(r.flat=true\/args.all O.noOwn=true)->Y1=Y) :
  Js a F args Y Z=some (r,Y1,Z):=by
 have e:yS [] ys=ys:=by cases ys<;>rfl
 try unfold hP
 unfold Js zh;simp only[b,e,c];split
 ·rename_i h;rw[d h]
 ·simp
theorem H6(c:List Sh)(F:zb->Option O):WM (Js c F):=by
 intro args Y Z r Y' Z' h
 try unfold hP at h
 unfold Js zh at h;split at h
 ·rename_i ys Y1 d;split at h
  ·split at h
   ·injection h with h;injection h with _ h;injection h with a b;subst a;subst b;exact⟨zl _,fun id blk _ a _=>a⟩
   ·split at h
    ·injection h with h;injection h with _ h;injection h with a b;subst a;subst b;exact⟨zl _,fun id blk _ a b=>XO d a b⟩
    ·cases h
  ·cases h
 ·cases h
def Zj(P:Program)(l:Y7)(k:Nat)(D:List (Tmp×Tmp))(L:List Tmp)(b:List Nat):Ctx:=⟨P,lookup l,fun i=>if i=k then D else[],fun i=>if i=k then L else[],fun g=>b.contains g,fun _=>[],fun _=>none⟩
@[simp]theorem zgB(P:Program)(l:Y7)(k:Nat)(D:List (Tmp×Tmp))(L:List Tmp)(b:List Nat):(Zj P l k D L b).P=P:=rfl
@[simp]theorem zgC(P:Program)(l:Y7)(k:Nat)(D:List (Tmp×Tmp))(L:List Tmp)(b:List Nat)(Y:Hp)(Z g:Nat)(x y xs:zb):kg (Zj P l k D L b) Y Z (some (.fn (.func g) x y)) xs=(lookup l g).bind fun s=>s (x++xs++y) Y Z:=by unfold kg Zj;simp only;cases lookup l g<;>rfl
@[simp]theorem PH(P:Program)(l:Y7)(k:Nat)(D:List (Tmp×Tmp))(L:List Tmp)(b:List Nat)(i:Nat)(a:Array Oper)(d:Bool)(st:St)(K:Exit->St->Prop)(h:¬i=k):ZX (Zj P l k D L b) (.region i a d) st K=tL (Zj P l k D L b) a a.toList st (Wf K):=
 Jk _ i a d st K (by simp[Zj,h]) (by simp[Zj,h])
theorem kN{P:Program}{l:Y7}{k:Nat}{D:List (Tmp×Tmp)}{L:List Tmp}{b:List Nat}{a:Array Oper}{d:Bool}{st:St}{K:Exit->St->Prop}(h:Yr D st)(c:QH L st):ZX (Zj P l k D L b) (.region k a d) st K=tL (Zj P l k D L b) a a.toList st (Wf K):=
 W0 _ k a d st K (by simpa[Zj]using h) (by simpa[Zj]using c)
theorem uq{P:Program}{l:Y7}{q:List Nat}{k:Nat}{D:List (Tmp×Tmp)}{L:List Tmp}{b:List Nat}(a:P.follows .mixedOrders=true)(h:sj True P q l)(c:gg b l):AM.Good (Zj P l k D L b) (fun g=>q.contains g):=
 let g:=nZ (k:=k) (L:=L) a h c
 ⟨g.spec,g.quiet,g.mixed,g.box,fun _ _ h=>by cases h⟩
end Go.AM
namespace Go.Q
def C9(a b c:Int):O:=.agg [int a,int b,int c]
noncomputable def H7:zb->Option O:=qd (α:=Int×Int×Int×List za) (fun a=>[C9 a.1 a.2.1 a.2.2.1,.sl 1 (zy a.2.2.2)]) (fun _=>True) (fun a=>.agg (⟨a.1,a.2.1,a.2.2.1,a.2.2.2⟩:yK).V)
theorem za7:∀a b:Int×Int×Int×List za,[C9 a.1 a.2.1 a.2.2.1,.sl 1 (zy a.2.2.2)]=[C9 b.1 b.2.1 b.2.2.1,.sl 1 (zy b.2.2.2)]->a=b:=by rintro⟨h,i,j,k⟩ ⟨l,m,n,o⟩ e;simp only[C9,zj,zG]at e;obtain⟨c,d⟩:=e;injection c with c;simp only[zj,zG]at c;obtain⟨c,f,g⟩:=c;injection d with _ d;rw[qR c,qR f,qR g,km d]
theorem Bt(a b c:Int)(p:List za):zv C0 f237 [C9 a b c,.sl 1 (zy p)]=some (.agg (⟨a,b,c,p⟩:yK).V):=by refine zn rfl ?_;simp[C9,yK.V,qv,qS,wK,f237]
theorem Km:zg prog 237 (Js [.a,.s 1 []] H7):=
 Ef (fn:=f237) je (qX func237) _ _ fun args r h=>by obtain⟨⟨a,b,c,p⟩,rfl,_,rfl⟩:=zO h;exact⟨by simp[f237],_,Bt a b c p,wL.refl _⟩
theorem VH(a b c:Int)(p:List za)(y z:O)(Y Y1:Hp)(Z:Nat)(e:qt Y y=some (z,Y1))(d:n1 1 z=.sl 1 (zy p))(f:y.noOwn=true->Y1=Y):Js [.a,.s 1 []] H7 [C9 a b c,y] Y Z=some (.agg (⟨a,b,c,p⟩:yK).V,Y1,Z):=
 Su (ys:=[C9 a b c,z]) (by
  have g:qt Y (C9 a b c)=some (C9 a b c,Y):=by simp[C9]
  simp only[zC,g,e]) (by
  have:(Sh.s 1 []).fix z=.sl 1 (zy p):=by
   cases z with
   |sl m es=>simp only[n1]at d;simp only[Sh.fix];rw[<-d];congr 1;exact(zke (fun c _=>by cases c<;>rfl)).trans (List.map_id _)
   |_=>exact d
  show H7 [C9 a b c,(Sh.s 1 []).fix z]=_;rw[this];exact qD (V:=fun a:Int×Int×Int×List za=>[C9 a.1 a.2.1 a.2.2.1,.sl 1 (zy a.2.2.2)]) (a:=(a,b,c,p)) za7 trivial) (by simpa[C9,yK.V]using f)
def wv:Cut:=⟨⟨0,0,0,[[48]]⟩,false⟩
noncomputable def Jt (r:O):zb->Option O:=qd (α:=Unit) (fun _=>[]) (fun _=>True) (fun _=>r)
theorem Wy(r:O)(Y:Hp)(Z:Nat):qP [] (Jt r) [] Y Z=some (r,Y,Z):=xv (show zC Y []=some ([],Y)from rfl) (qD (V:=fun _:Unit=>[]) (a:=()) (fun _ _ _=>rfl) trivial) (.inr rfl)
theorem H8:zv C0 f206 []=some (.agg wv.V):=by refine zn rfl ?_;simp[wv,Cut.V,zy,str,qv,qS,zt,zJ,zr,wK,f206]
theorem lg:zg prog 206 (qP [] (Jt (.agg wv.V))):=
 yf (fn:=f206) je (qX func206) _ _ fun args r h=>by obtain⟨_,rfl,_,rfl⟩:=zO h;exact⟨by simp[f206],_,H8,wL.refl _⟩
structure wQ where
 lo:Cut
 hi:Cut
 vW:Bool
def wQ.V(s:wQ):zb:=s.lo.V++s.hi.V++[wb s.vW]
def We:Cut:=⟨⟨0,0,0,[]⟩,false⟩
abbrev jW:List (Option Nat):=[none,none,none,some 1,none,none,none,none,some 1,none,none]
def yu(c:Cut):wQ:=⟨c,We,true⟩
def cS(a b:Cut):wQ:=⟨a,b,false⟩
def qn(l:List wQ):List zb:=l.map wQ.V
def cT:O:=.sl 11 (qn [yu wv])
noncomputable abbrev Cev:Ctx:=zV prog [(206,qP [] (Jt (.agg wv.V)))]
theorem zeU:Gd Cev:=zW mixed ⟨lg,trivial⟩
theorem me:∃a,zv Cev f167 []=some a/\wL a cT:=by refine QO (sh:=.s 11 jW) rfl ?_;simp[Wy,wv,Cut.V,zy,str,qv,qS,zt,zJ,zr,XP,cT,qn,yu,wQ.V,We,f167]
theorem KP:zg prog 167 (qP [] (Jt cT)):=
 yf (fn:=f167) zeU (qX func167) _ _ fun args r h=>by obtain⟨_,rfl,_,rfl⟩:=zO h;obtain⟨a,b,c⟩:=me;exact⟨by simp[f167],a,b,c⟩
theorem oZ{a b:Part}(h:a.V=b.V):a=b:=by obtain⟨i,j,k,l,m⟩:=a;obtain⟨n,o,p,q,r⟩:=b;simp only[Part.V,zj,zG]at h;obtain⟨d,e,f,g,c⟩:=h;injection c with _ c;rw[qR d,qR e,qR f,qR g,km c]
def Part.ok(p:Part):Prop:=(0<=p.n0/\p.n0<=999999)/\(0<=p.n1/\p.n1<=999999)/\(0<=p.n2/\p.n2<=999999)/\(1<=p.has/\p.has<=3)/\v8 p.pre
noncomputable def FPa (f:Part->O):zb->Option O:=qd (α:=Part) (fun p=>[.agg p.V]) Part.ok f
theorem Eg(f:Part->O)(p:Part)(u:O)(Y:Hp)(Z:Nat)(h:p.ok)(c:(Sh.g XV).fix u=.agg p.V)(d:qt Y u=some (u,Y))(i:u.noOwn=true):qP [.g XV] (FPa f) [u] Y Z=some (f p,Y,Z):=
 xv (show zC Y [u]=some ([u],Y) by simp only[zC,d]) (by show FPa f [(Sh.g XV).fix u]=_;rw[c];exact qD (V:=fun p:Part=>[O.agg p.V]) (a:=p) (fun a b e=>by simp only[zj,zG]at e;injection e with e;exact oZ e) h) (.inr (by rw[wi,i];rfl))
noncomputable def FPt (f:Part->O):zb->Option O:=qd (α:=Part) (fun p=>[.agg p.V]) (fun _=>True) f
theorem Sv(f:Part->O)(p:Part)(Y:Hp)(Z:Nat):qP [.g XV] (FPt f) [.agg p.V] Y Z=some (f p,Y,Z):=
 xv (show zC Y [.agg p.V]=some ([.agg p.V],Y) by simp[Part.V]) (by show FPt f [(Sh.g XV).fix (.agg p.V)]=_;rw[show(Sh.g XV).fix (.agg p.V)=.agg p.V by simp[Part.V]];exact qD (V:=fun p:Part=>[O.agg p.V]) (a:=p) (fun a b e=>by simp only[zj,zG]at e;injection e with e;exact oZ e) trivial) (.inr (by simp[Part.V]))
def Z4(p:Part):Cut:=⟨⟨p.n0,p.n1,p.n2,p.pre⟩,false⟩
noncomputable abbrev Clo:Ctx:=zV prog [(237,Js [.a,.s 1 []] H7)]
theorem zeV:Gd Clo:=zW mixed ⟨Km,trivial⟩
theorem Sw(p:Part):zv Clo f207 [.agg p.V]=some (.agg (Z4 p).V):=by
 obtain⟨a,b,c,d,e⟩:=p;refine zn rfl ?_;have f:=fun Y Z=>VH a b c e (.sl 1 (zy e)) (.sl 1 (zy e)) Y Y Z (by simp) rfl (fun _=>rfl)
 simp[C9]at f;simp[Part.V,f,Z4,Cut.V,yK.V,qv,qS,wK,f207]
theorem NJ:zg prog 207 (qP [.g XV] (FPt fun p=>.agg (Z4 p).V)):=
 yf (fn:=f207) zeV (qX func207) _ _ fun args r h=>by obtain⟨p,rfl,_,rfl⟩:=zO h;exact⟨by simp[f207],_,Sw p,wL.refl _⟩
def jL(p:Part):Nat->Cut
 | 0=>⟨⟨p.n0+1,0,0,[[48]]⟩,false⟩
 | 1=>⟨⟨p.n0,p.n1+1,0,[[48]]⟩,false⟩
 |_=>⟨⟨p.n0,p.n1,p.n2+1,[[48]]⟩,false⟩
def xm(p:Part):Nat->Bool
 | 0=>decide (p.n0+1<=999999)
 | 1=>decide (p.n1+1<=999999)
 |_=>decide (p.n2+1<=999999)
def vQ(p:Part)(i:Nat):O:=.w5 [.agg (jL p i).V,wb (xm p i)]
noncomputable abbrev Crsd:Ctx:=Zj prog [(237,Js [.a,.s 1 []] H7)] 7 [(6,4),(28,4)] [4,6,28] [237]
theorem za8:Gd Crsd:=uq mixed ⟨Km,by simp,trivial⟩ ⟨fun _=>H6 _ _,trivial⟩
theorem Jb(st:St):Yr [] st:=fun _ h=>by cases h
theorem yB{a b:Tmp}{D:List (Tmp×Tmp)}{st:St}(h:Aq st a b)(c:Yr D st):Yr ((a,b)::D) st:=fun p Y=>by
 rcases zw.1 Y with rfl|Y
 ·exact h
 ·exact c p Y
theorem KQ(st:St):QH [] st:=fun _ h=>by cases h
theorem xW{s:Tmp}{L:List Tmp}{st:St}{id i j:Nat}{blk:Blk}(h:st.σ s=.ref id i j)(b:id<st.Z)(c:st.Y id=some blk)(d:blk.arr=false)(f:QH L st)(hs:s<zB:=by decide):QH (s::L) st:=fun t a=>by
 rcases zw.1 a with rfl|a
 ·refine⟨⟨fun id' o n e=>(by rw[h]at e;cases e),fun id' i' j' e=>?_⟩,fun g=>absurd hs (Nat.not_lt.2 g)⟩;rw[h]at e;injection e with e _ _
  subst e;exact⟨b,blk,c,d⟩
 ·exact f t a
theorem vq{s:Tmp}{L:List Tmp}{st:St}{x:zb}(h:st.σ s=.w5 x)(b:QH L st)(hs:s<zB:=by decide):QH (s::L) st:=fun t a=>by
 rcases zw.1 a with rfl|a
 ·exact⟨⟨fun id' o n e=>(by rw[h]at e;cases e),fun id' i' j' e=>(by rw[h]at e;cases e)⟩,fun c=>absurd hs (Nat.not_lt.2 c)⟩
 ·exact b t a
theorem Jc{a b:Tmp}{st:St}{id i j id' i' j':Nat}{blk:Blk}(d:st.σ a=.ref id i j)(e:st.σ b=.ref id' i' j')(f:id≠id')(g:st.Y id'=some blk)(h:blk.arr=false):Aq st a b:=by
 intro k l m c;rw[d]at c;injection c with c _ _
 subst c;exact⟨id',i',j',blk,e,f,g,h⟩
theorem ky{a b:Tmp}{st:St}{x:zb}(d:st.σ a=.w5 x):Aq st a b:=by intro e f g c;rw[d]at c;cases c
theorem Eh(p:Part)(i:Nat)(hi:i<3)(Y:p.ok):∃j,zv Crsd f210 [.agg p.V,int i]=some j/\wL j (vQ p i):=by
 obtain⟨a,b,c,d,e⟩:=p;obtain⟨⟨k,l⟩,⟨m,n⟩,⟨o,q⟩,_⟩:=Y;simp only at k l m n o q;refine ji (sh:=.g kn) rfl ?_;have r:=wq (a+1);have t:=wq (b+1);have u:=wq (c+1);have f:∀(a b c:Int) (Y:Hp) (Z id:Nat),Y id=some ⟨9,1,true,[[str [48]]]⟩->Js [.a,.s 1 []] H7 [C9 a b c,.own id 0 1] Y Z=some (.agg (⟨a,b,c,[[48]]⟩:yK).V,qq Y id none,Z):=fun a b c Y Z id v=>VH a b c [[48]] (.own id 0 1) (.sl 1 [[str [48]]]) Y (qq Y id none) Z (by simp[v]) rfl (fun h=>by cases h)
 simp[C9,str]at f;rcases(by omega:i=0\/i=1\/i=2)with rfl|rfl|rfl
 ·simp[Part.V,r];rw[zR];simp;rw[zR];simp;rw[zR];simp;rw[kN (yB (Jc (by simp;exact⟨rfl,rfl,rfl⟩) (by simp;exact⟨rfl,rfl,rfl⟩) (by omega) (by simp;rfl) rfl) (yB (ky (by simp;rfl)) (Jb _)))
   (xW (by simp;exact⟨rfl,rfl,rfl⟩) (by simp) (by simp;rfl) rfl (xW (by simp;exact⟨rfl,rfl,rfl⟩) (by simp) (by simp;rfl) rfl (vq (by simp;rfl) (KQ _))))]
  simp[f,qv,qS,zt,zJ,zr,qB,vQ,jL,xm,Cut.V,yK.V,f210]
 ·simp[Part.V,t];rw[zR];simp;rw[zR];simp;rw[kN (yB (Jc (by simp;exact⟨rfl,rfl,rfl⟩) (by simp;exact⟨rfl,rfl,rfl⟩) (by omega) (by simp;rfl) rfl) (yB (ky (by simp;rfl)) (Jb _)))
   (xW (by simp;exact⟨rfl,rfl,rfl⟩) (by simp) (by simp;rfl) rfl (xW (by simp;exact⟨rfl,rfl,rfl⟩) (by simp) (by simp;rfl) rfl (vq (by simp;rfl) (KQ _))))]
  simp[f,qv,qS,zt,zJ,zr,qB,vQ,jL,xm,Cut.V,yK.V,f210]
 ·simp[Part.V,u];rw[zR];simp;rw[kN (yB (Jc (by simp;exact⟨rfl,rfl,rfl⟩) (by simp;exact⟨rfl,rfl,rfl⟩) (by omega) (by simp;rfl) rfl) (yB (ky (by simp;rfl)) (Jb _)))
   (xW (by simp;exact⟨rfl,rfl,rfl⟩) (by simp) (by simp;rfl) rfl (xW (by simp;exact⟨rfl,rfl,rfl⟩) (by simp) (by simp;rfl) rfl (vq (by simp;rfl) (KQ _))))]
  simp[f,qv,qS,zt,zJ,zr,qB,vQ,jL,xm,Cut.V,yK.V,f210]
noncomputable def FPi (f:Part->Nat->O):zb->Option O:=qd (α:=Part×Nat) (fun a=>[.agg a.1.V,int a.2]) (fun a=>a.1.ok/\a.2<3) (fun a=>f a.1 a.2)
theorem zeW:∀a b:Part×Nat,[O.agg a.1.V,int a.2]=[O.agg b.1.V,int b.2]->a=b:=by rintro⟨h,d⟩ ⟨i,f⟩ e;simp only[zj,zG]at e;obtain⟨c,g⟩:=e;injection c with c;have:=qR g;rw[oZ c,show d=f by omega]
theorem Ei(f:Part->Nat->O)(p:Part)(i:Nat)(u:O)(Y:Hp)(Z:Nat)(h:p.ok)(hi:i<3)(b:(Sh.g XV).fix u=.agg p.V)(c:qt Y u=some (u,Y))(d:u.noOwn=true):qP [.g XV] (FPi f) [u,int i] Y Z=some (f p i,Y,Z):=
 xv (show zC Y [u,int i]=some ([u,int i],Y) by simp only[zC,c];rfl) (by show FPi f [(Sh.g XV).fix u,int i]=_;rw[b];exact qD (V:=fun a:Part×Nat=>[O.agg a.1.V,int a.2]) (a:=(p,i)) zeW ⟨h,hi⟩) (.inr (by rw[wi,d];rfl))
theorem ez:zg prog 210 (qP [.g XV] (FPi vQ)):=
 yf (fn:=f210) za8 (qX func210) _ _ fun args r h=>by obtain⟨⟨p,i⟩,rfl,⟨a,b⟩,rfl⟩:=zO h;obtain⟨c,d,e⟩:=Eh p i b a;exact⟨by simp[f210],c,d,e⟩
def xe(p:Part):Cut:=if p.has<3 then jL p (p.has-1).toNat else⟨⟨p.n0,p.n1,p.n2,p.pre⟩,true⟩
def QV(p:Part):Bool:=if p.has<3 then xm p (p.has-1).toNat else true
def JZ(p:Part):O:=.w5 [.agg (xe p).V,wb (QV p)]
noncomputable abbrev Chi:Ctx:=zV prog [(237,Js [.a,.s 1 []] H7),(210,qP [.g XV] (FPi vQ))]
theorem zeX:Gd Chi:=zW mixed ⟨Km,ez,trivial⟩
@[simp]theorem mP(p:Part)(Y:Hp):qt Y (.agg p.V)=some (.agg p.V,Y):=by simp[Part.V]
theorem NK(p:Part)(Y:p.ok):zv Chi f209 [.agg p.V]=some (JZ p):=by
 have a:=Y;obtain⟨_,_,_,⟨g,h⟩,_⟩:=Y;refine zn rfl ?_;have b:=fun Y Z=>Ei vQ p (p.has-1).toNat (.agg p.V) Y Z a (by omega) (by simp[Part.V]) (mP p Y) (by simp[Part.V])
 have e:(((p.has-1).toNat:Nat):Int)=p.has-1:=by omega
 have f:=wq (p.has-1);rw[e]at b;have c:=fun Y Z=>VH p.n0 p.n1 p.n2 p.pre (.sl 1 (zy p.pre)) (.sl 1 (zy p.pre)) Y Y Z (by simp) rfl (fun _=>rfl)
 simp[C9]at c;simp only[Part.V]at b;by_cases d:p.has<3
 ·simp[Part.V,d,b,f,JZ,xe,QV,vQ,Cut.V,wK,f209]
 ·simp[Part.V,d,c,JZ,xe,QV,Cut.V,yK.V,qv,qS,wK,f209]
theorem H9:zg prog 209 (qP [.g XV] (FPa JZ)):=
 yf (fn:=f209) zeX (qX func209) _ _ fun args r h=>by obtain⟨p,rfl,a,rfl⟩:=zO h;exact⟨by simp[f209],_,NK p a,wL.refl _⟩
noncomputable def gD (a b:Cut):List wQ:=if 0<=wV a b then[]else[cS a b]
noncomputable def VI (a b:Cut):O:=.sl 11 (qn (gD a b))
noncomputable abbrev Cbt:Ctx:=zV prog [(212,qP [.g kn,.g kn] (Ee fun v w=>int (wV v w)))]
theorem zeY:Gd Cbt:=zW mixed ⟨QU,trivial⟩
theorem Bu(x y:Cut)(c:x.v.small)(d:y.v.small):∃b,zv Cbt f208 [.agg x.V,.agg y.V]=some b/\wL b (VI x y):=by
 refine QO (sh:=.s 11 jW) rfl ?_;have a:=fun Y Z=>Bs x y (.agg x.V) (.agg y.V) Y Z (by simp[Cut.V]) (by simp[Cut.V]) (by simp[Cut.V]) c d
 simp only[Cut.V]at a;by_cases h:0<=wV x y
 ·simp[Cut.V,a,h,XP,VI,gD,qn,f208]
 ·simp[Cut.V,a,h,qv,qS,zt,zJ,zr,XP,VI,gD,qn,cS,wQ.V,f208]
theorem sy:zg prog 208 (qP [.g kn,.g kn] (Ee VI)):=
 yf (fn:=f208) zeY (qX func208) _ _ fun args r h=>by obtain⟨⟨v,w⟩,rfl,⟨a,b⟩,rfl⟩:=zO h;obtain⟨c,d,e⟩:=Bu v w a b;exact⟨by simp[f208],c,d,e⟩
end Go.Q
