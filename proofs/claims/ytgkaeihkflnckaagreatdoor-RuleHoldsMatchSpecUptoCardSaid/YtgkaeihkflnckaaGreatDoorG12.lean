/- Lemmas. -/
import Derived.Sort.Walk0
import Derived.Lib.SlicesCompact
import Derived.Sort.EncStr
import Derived.Shelf.Sort.Plain
import Derived.Shelf.Slices.CompactS
import Derived.Shelf.Slices.In.SortNone
import Derived.Lib.RowBridge
import Derived.Ground.Names2Prog
import Derived.Test.YtgkaeihkflnckaaGreatDoorG11
set_option maxRecDepth 100000
set_option maxHeartbeats 4000000
open Go Proofs Proofs.YtgkaeihkflnckaaGreatDoor Proofs.Tryz RowKit AM SpanLaw Q Zz
open Go.IntKind renaming i64→i6
namespace Go.Q
theorem oc{α d:Type}(f:d->α)(c:α->α->Int):∀a b:List d,w9 c (a.map f) (b.map f)=w9 (fun x y=>c (f x) (f y)) a b
 |[],[]=>rfl
 |[],_::_=>rfl
 |_::_,[]=>rfl
 |x::a,y::b=>by simp only[we,w9,oc f c a b]
def MI(v:qa):Int:=if v.kind=1\/v.kind=2 then v.n else 0
def MJ(v:qa):za:=if v.kind=3 then v.s else[]
def Dq(v:qa):List qa:=if v.kind=4 then v.items else[]
def Dr(v:qa):List (za×qa):=if v.kind=5 then v.fields else[]
theorem GF(a b:qa):qL a b=xJ (fun x y=>wx x.kind y.kind) (xJ (fun x y=>wx (MI x) (MI y)) (xJ (fun x y=>yD (MJ x) (MJ y)) (xJ (fun x y=>w9 qL (Dq x) (Dq y)) fun x y=>w9 jM (Dr x) (Dr y)))) a b:=by
 rw[JT];unfold xJ;by_cases i:a.kind=b.kind
 ·have j:wx a.kind b.kind=0:=by rw[i];exact ZU.refl _
  have s:wx 0 0=0:=ZU.refl _;have n:yD [] []=0:=al.refl _;have k:w9 qL [] []=0:=rfl;have g:w9 jM [] []=0:=rfl;rw[zd i,zd j];unfold MI MJ Dq Dr;dsimp only;by_cases o:b.kind=1\/b.kind=2
  ·have t:¬b.kind=3:=by omega
   have l:¬b.kind=4:=by omega
   have e:¬b.kind=5:=by omega
   have m:a.kind=1\/a.kind=2:=by omega
   have f:¬a.kind=3:=by omega
   have d:¬a.kind=4:=by omega
   have c:¬a.kind=5:=by omega
   simp only[zd o,zc t,zc l,zc e,zd m,zc f,zc d,zc c,n,k,g,qH];split
   ·rename_i h;exact h
   ·rfl
  ·have m:¬(a.kind=1\/a.kind=2):=by omega
   simp only[zc o,zc m,s,qH];by_cases p:b.kind=3
   ·have l:¬b.kind=4:=by omega
    have e:¬b.kind=5:=by omega
    have f:a.kind=3:=by omega
    have d:¬a.kind=4:=by omega
    have c:¬a.kind=5:=by omega
    simp only[zd p,zc l,zc e,zd f,zc d,zc c,k,g,qH];split
    ·rename_i h;exact h
    ·rfl
   ·have f:¬a.kind=3:=by omega
    simp only[zc p,zc f,n,qH];by_cases q:b.kind=4
    ·have e:¬b.kind=5:=by omega
     have d:a.kind=4:=by omega
     have c:¬a.kind=5:=by omega
     simp only[zd q,zc e,zd d,zc c,g];split
     ·rename_i h;exact h
     ·rfl
    ·have d:¬a.kind=4:=by omega
     simp only[zc q,zc d,k,qH];by_cases r:b.kind=5
     ·have c:a.kind=5:=by omega
      simp only[zd r,zd c]
     ·have c:¬a.kind=5:=by omega
      simp only[zc r,zc c,g]
 ·have j:¬wx a.kind b.kind=0:=by unfold wx;split<;>(try split)<;>omega
  rw[zc i,zc j]
abbrev Xr(n:Nat):={v:qa // v.vb<=n}
def GG(n:Nat)(v:Xr (n+1)):List (Xr n):=(Dq v.1).attach.map fun x=>⟨x.1,by
 have a:=x.2;unfold Dq at a;split at a
 ·have b:=jR a;have c:=xz v.1;have d:=v.2;omega
 ·cases a⟩
def GH(n:Nat)(v:Xr (n+1)):List (za×Xr n):=(Dr v.1).attach.map fun x=>(x.1.1,⟨x.1.2,by
 have a:=x.2;unfold Dr at a;split at a
 ·have b:=vC a;have c:=xz v.1;have d:=v.2;omega
 ·cases a⟩)
theorem Dt(n:Nat)(v:Xr (n+1)):(GG n v).map (·.1)=Dq v.1:=by unfold GG;rw[zaD];exact List.attach_map_subtype_val _
theorem Du(n:Nat)(v:Xr (n+1)):(GH n v).map (fun x=>(x.1,x.2.1))=Dr v.1:=by unfold GH;rw[zaD];exact List.attach_map_subtype_val _
theorem GJ(a b:za×qa):jM a b=xJ (fun x y=>yD x.1 y.1) (fun x y=>qL x.2 y.2) a b:=by
 unfold jM xJ KC;simp only[KC];split
 ·split
  ·rename_i c;rw[c]
  ·rfl
 ·rfl
theorem ln:∀n:Nat,TO fun a b:Xr n=>qL a.1 b.1
 | 0=>⟨fun x=>absurd x.2 (by have:=YG x.1;omega),fun x _=>absurd x.2 (by have:=YG x.1;omega),fun x _ _=>absurd x.2 (by have:=YG x.1;omega)⟩
 |n+1=>by
  have c:=ln n;have:(fun a b:Xr (n+1)=>qL a.1 b.1)=xJ (fun x y=>wx x.1.kind y.1.kind) (xJ (fun x y=>wx (MI x.1) (MI y.1)) (xJ (fun x y=>yD (MJ x.1) (MJ y.1)) (xJ (fun x y=>w9 (fun p q:Xr n=>qL p.1 q.1) (GG n x) (GG n y)) fun x y=>w9 (xJ (fun p q:za×Xr n=>yD p.1 q.1) fun p q=>qL p.2.1 q.2.1) (GH n x) (GH n y)))):=by
   funext a b;rw[GF];unfold xJ;have d:w9 qL (Dq a.1) (Dq b.1)=w9 (fun p q:Xr n=>qL p.1 q.1) (GG n a) (GG n b):=by rw[<-Dt n a,<-Dt n b,oc]
   have e:w9 jM (Dr a.1) (Dr b.1)=w9 (fun x y:za×Xr n=>if yD x.1 y.1=0 then qL x.2.1 y.2.1 else yD x.1 y.1) (GH n a) (GH n b):=by rw[<-Du n a,<-Du n b,oc];congr 1;funext x y;exact GJ _ _
   simp only[d,e]
  rw[this];exact TO.lex (ZU.pull fun x:Xr (n+1)=>x.1.kind) (TO.lex (ZU.pull fun x:Xr (n+1)=>MI x.1) (TO.lex (al.pull fun x:Xr (n+1)=>MJ x.1) (TO.lex ((lf c).pull (GG n)) ((lf (TO.lex (al.pull fun p:List UInt8×Xr n=>p.1) (c.pull fun p:List UInt8×Xr n=>p.2))).pull (GH n)))))
theorem Wb:TO qL where
 refl x:=(ln x.vb).refl ⟨x,zf _⟩
 flip x y:=(ln (x.vb+y.vb)).flip ⟨x,by omega⟩ ⟨y,by omega⟩
 tr x y z:=(ln (x.vb+y.vb+z.vb)).tr ⟨x,by omega⟩ ⟨y,by omega⟩ ⟨z,by omega⟩
def UpV(l:List qa):Prop:=l.Pairwise fun a b=>qL a b<0
theorem U6{l:List qa}(m:UpV l)(v:qa):(pW l v).2=l.any fun w=>qL v w==0:=by
 rw[qh,WN];constructor
 ·intro h;unfold pW at h;simp only at h;split at h
  ·rename_i x r;refine⟨x,zG r,?_⟩;rw[yJ]at h⊢;exact(Wb.eq x v).1 h
  ·cases h
 ·rintro⟨w,s,o⟩;rw[yJ]at o;have g:=(Wb.eq v w).1 o;obtain⟨j,p⟩:=oR s;obtain⟨a,b⟩:=zi.1 p;have t:Zk (Xq l v) 0 l.length=j:=by
   refine fm (n:=l.length) (fun k i=>?_) (fun k i c=>?_) (vA _) (Nat.le_of_lt a) (zf _)
   ·have d:=vI.1 m k j (by omega) a i;rw[b]at d;have e:qL l[k] v<0:=by
     have q:=Wb.tr l[k] w v (by omega) (by omega);rcases ZM q with f|f
     ·exact f
     ·have u:=Wb.tr w v l[k] (by omega) (by have:=(Wb.eq l[k] v).1 f;omega);have:=(Wb.flip l[k] w).1 d;omega
    simp[Xq,show k<l.length by omega,e]
   ·rcases zh3 i with h|rfl
    ·have d:=vI.1 m j k a c h;rw[b]at d;have e:¬qL l[k] v<0:=fun q=>by have f:=Wb.tr w l[k] v (by omega) (by omega);have u:=Wb.tr l[k] v w (by omega) (by omega);have:=(Wb.flip w l[k]).1 d;omega
     simp[Xq,c,e]
    ·have e:¬qL w v<0:=by omega
     simp[Xq,a,b,e]
  unfold pW;simp only[t,p];rw[yJ];exact g
theorem dG:zg prog 86 (zh false [] FOd):=
 xy jG func86 false [] fun⟨a,b,c⟩ _=>by
  refine⟨by simp[f86],_,zm rfl ?_,qb _⟩;by_cases d:a=3
  ·simp[d,dF,f86]
  have e:=wU d;by_cases f:a=4
  ·simp[f,dF,f86]
  have g:=wU f;by_cases h:a=5
  ·simp[h,dF,f86]
  have i:=wU h;simp[d,e,f,g,h,i,dF,f86]
noncomputable def b6 (v:qa) (l:List qa):Bool:=l.any fun w=>qL v w==0
noncomputable def FVL (out:qa->List qa->O):zb->Option O:=ql (α:=qa×List qa) (fun a=>[.agg a.1.V,.sl 5 (a.2.map qa.V)]) (fun a=>a.1.vb<=zu/\Kd a.2<=zu) fun a=>out a.1 a.2
theorem Dv(out:qa->List qa->O)(v:qa)(l:List qa)(Y:Hp)(Z:Nat)(h:v.vb<=zu/\Kd l<=zu)(d:(out v l).flat=true):zh false [] (FVL out) [.agg v.V,.sl 5 (l.map qa.V)] Y Z=some (out v l,Y,Z):=
 Ja (v,l) _ _ (by simp[xu]) (fun a b e=>by obtain⟨g,i⟩:=a;obtain⟨j,k⟩:=b;simp only[zk,zI,O.agg.injEq]at e;obtain⟨f,c⟩:=e;injection c with _ c;rw[ZQ f,kS (fun _ _=>ZQ) c]) h (.inl d)
noncomputable abbrev zbo:Ctx:=zR prog [(138,zh false [] (OC zu))]
theorem GK(v:qa)(l:List qa)(m:v.vb<=zu)(t:Kd l<=zu):zq zbo f84 [.agg v.V,.sl 5 (l.map qa.V)]=some (qS (b6 v l)):=by
 have q:=fun w (f:w∈l)=>jR f
 have n:=yY l;have o:zu=2097152:=rfl;refine zm rfl ?_;unfold b6;simp;refine zP (fun k U Y Z=>U 2=.ref 0 0 0/\U 7=.sl 5 (l.map qa.V)/\U 8=int l.length/\U 9=int k/\1<=Z/\Y 0=some ⟨57,5,false,[v.V]⟩/\(l.any fun w=>qL v w==0)=(l.drop k).any fun w=>qL v w==0) l.length
  ⟨by simp,by simp,by simp,by simp,by simp,by simp,by simp⟩ ?_
 rintro k U Y Z u ⟨g,h,i,j,r,c,b⟩;have n1:¬0=Z:=by omega
 by_cases a:k<l.length
 ·have f:=qG k;obtain⟨x,e⟩:=jc (l[k]);have s:=q x (by rw[<-e];exact zj a);rw[dD a,e]at b;have p:=fun Y Z=>Wy zu v x Y Z ⟨m,m,by omega⟩
  cases d:(qL v x==0)
  ·rw[d,kQ]at b;simp[g,h,i,j,a,e,c,n1,p,d,f]
   and_intros<;>first|omega|exact c|exact b|simpa using b|simp[n1,c]
  ·rw[d,dU]at b;simp[g,h,i,j,a,e,c,n1,p,d,b,f84]
 ·obtain rfl:k=l.length:=by omega
  rw[zn]at b;simp[g,h,i,j,b,f84]
theorem Dw:zg prog 84 (zh false [] (FVL fun v l=>qS (b6 v l))):=
 xy (zU mixed ⟨V8 zu,trivial⟩:AM.Good zbo _) func84 false [] fun⟨v,l⟩ a=>⟨zw (zf 2) (by decide),_,GK v l a.1 a.2,qb _⟩
theorem KU:∀a b:List qe,yz (a++b)=yz a++yz b
 |[],b=>rfl
 |x::a,b=>by show x.names++yz (a++b)=(x.names++yz a)++yz b;rw[KU a b,qM]
theorem Jl{l:List qe}{k:Nat}(h:k<l.length):yz (l.take (k+1))=yz (l.take k)++l[k].names:=by rw[qq h,KU];show _++(l[k].names++[])=_;rw[yU]
theorem sT{n:Nat}(a:∀c:qe,c.cb<=n->c.names.length<=c.cb):∀l:List qe,aD l<=n->(yz l).length<=aD l
 |[],_=>zf _
 |x::l,h=>by
  have b:aD (x::l)=x.cb+aD l:=by simp[aD]
  have d:=a x (by omega);have e:=sT a l (by omega);show(x.names++yz l).length<=_;rw[zL];omega
theorem xo:∀(n:Nat) (c:qe),c.cb<=n->c.names.length<=c.cb
 | 0,c,h=>by have:=Kx c;omega
 |n+1,c,h=>by have a:=Zm c;have:=sT (xo n) c.args (by omega);rw[xV,zL];split<;>simp<;>omega
noncomputable abbrev Cnm (n:Nat):Ctx:=zR prog [(52,zh false [] (FC (fun c=>.sl 1 (zy c.names)) n))]
theorem Ao(n:Nat)(c:qe)(h:c.cb<=zu/\c.cb<=n+1):∃C,zq (Cnm n) f52 [.agg c.V]=some C/\QN C (.sl 1 (zy c.names)):=by
 have D:=Zm c;have E:=jf c.args;have w:=xo _ c (zf _);obtain⟨F,L⟩:=h;unfold zu at F;have g:∀k,(yz (c.args.take k)).length<=c.cb:=fun k=>by
  have e:yz c.args=yz (c.args.take k)++yz (c.args.drop k):=by rw[<-KU,kb]
  have:=zr List.length e;rw[xV,zL]at w;rw[zL]at this;omega
 refine kh rfl ?_;by_cases v:c.kind=5
 ·have s:=fun Y Z=>qT.jd (P:=prog) (t:=33) (c:=[str c.name]) (qT.nil Y Z 9 1) eD HH Ll Lm rfl (by omega) (by simp[maxLen]) (by simp)
  have i:(c.kind==5)=true:=by simpa using v
  simp only[Zl]at s;simp[wi,i,zp,zE,zo,s];refine zP (fun k U Y Z=>U 15=.sl 7 (c.args.map qe.V)/\U 16=int c.args.length/\U 17=int k/\qT Y Z 9 1 (U 3) (zy ([c.name]++yz (c.args.take k)))) c.args.length
   ⟨by simp,by simp,by simp,by simp;exact .inr ⟨_,by omega,rfl,by simp[zy,yz]⟩⟩ ?_
  rintro k U Y Z G ⟨b,d,f,j⟩;by_cases a:k<c.args.length
  ·have y:=qG k;obtain⟨x,l⟩:=jc (c.args[k]);have m:x∈c.args:=by rw[<-l];exact zj a
   have z:=kj m;have A:=xo _ x (zf _);have B:=fun Y Z=>Zd (fun c=>.sl 1 (zy c.names)) n x Y Z ⟨by unfold zu;omega,by omega⟩
   have H:=g k;have o:=j.more (some ⟨26,7,false,[x.V]⟩);obtain⟨I,J,K,p,q,_⟩:=o.Jo (P:=prog) (t:=33) (ys:=zy x.names) eD HH Ll Lm rfl (by omega) (by simp[maxLen,qC];omega) (by simp[qC];omega);have u:=Jl a;rw[l]at u;simp[b,d,f,a,l,B,p,y,XL];refine⟨by omega,?_⟩;rw[u];simpa[zy]using q
  ·obtain rfl:k=c.args.length:=by omega
   rw[wF]at j;have r:=j.freeze Z;simp[b,d,f,f52];rw[xV];simpa[v]using r
 ·have i:=wU v;simp[wi,i];refine zP (fun k U Y Z=>U 15=.sl 7 (c.args.map qe.V)/\U 16=int c.args.length/\U 17=int k/\qT Y Z 9 1 (U 3) (zy (yz (c.args.take k)))) c.args.length
   ⟨by simp,by simp,by simp,by simp;exact .inl ⟨rfl,by simp[zy,yz]⟩⟩ ?_
  rintro k U Y Z G ⟨b,d,f,j⟩;by_cases a:k<c.args.length
  ·have y:=qG k;obtain⟨x,l⟩:=jc (c.args[k]);have m:x∈c.args:=by rw[<-l];exact zj a
   have z:=kj m;have A:=xo _ x (zf _);have B:=fun Y Z=>Zd (fun c=>.sl 1 (zy c.names)) n x Y Z ⟨by unfold zu;omega,by omega⟩
   have H:=g k;have o:=j.more (some ⟨26,7,false,[x.V]⟩);obtain⟨I,J,K,p,q,_⟩:=o.Jo (P:=prog) (t:=33) (ys:=zy x.names) eD HH Ll Lm rfl (by omega) (by simp[maxLen,qC];omega) (by simp[qC];omega);have u:=Jl a;rw[l]at u;simp[b,d,f,a,l,B,p,y,XL];refine⟨by omega,?_⟩;rw[u];simpa[zy]using q
  ·obtain rfl:k=c.args.length:=by omega
   rw[wF]at j;have r:=j.freeze Z;simp[b,d,f,f52];rw[xV];simpa[v]using r
theorem bg:∀n,zg prog 52 (zh false [] (FC (fun c=>.sl 1 (zy c.names)) n)):=by
 intro n
 induction n with
 |zero=>exact cE ⟨_,func52,by kernel_rfl,by kernel_rfl⟩
 |succ n a=>
  have b:Gd (Cnm n):=zU mixed ⟨a,trivial⟩;exact wW (fn:=f52) b (qD func52) false [] _ fun args r h=>by obtain⟨c,rfl,d,rfl⟩:=Q0 h;obtain⟨e,f,g⟩:=Ao n c d;exact⟨zw (zf 1) (by decide),e,f,g⟩
def oZ(l:List qd)(a:List za):Bool:=a.all fun n=>(qQ n l).isSome
def KV(l:List qd)(cs:List qe):Int:=if(cs.all fun c=>oZ l c.names)=true then 0 else 9
theorem fL{α:Type}{p:α->Bool}{l:List α}{k:Nat}(h:k<l.length):(l.drop k).all p=(p l[k]&&(l.drop (k+1)).all p):=by rw[ze h,wI]
noncomputable def FSC (out:List qd->List qe->O):zb->Option O:=ql (α:=List qd×List qe) (fun a=>[.sl 10 (a.1.map qd.V),.sl 7 (a.2.map qe.V)]) (fun a=>a.1.length<=zu/\aD a.2<=zu) fun a=>out a.1 a.2
theorem Rs(out:List qd->List qe->O)(l:List qd)(cs:List qe)(h:l.length<=zu/\aD cs<=zu):FSC out [.sl 10 (l.map qd.V),.sl 7 (cs.map qe.V)]=some (out l cs):=
 qF (V:=fun a:List qd×List qe=>[O.sl 10 (a.1.map qd.V),.sl 7 (a.2.map qe.V)]) (a:=(l,cs)) (fun a b e=>by obtain⟨f,g⟩:=a;obtain⟨i,j⟩:=b;simp only[zk,zI]at e;obtain⟨d,c⟩:=e;injection c with _ c;rw[xm d,kS (fun _ _=>kU) c]) h
noncomputable abbrev zbp:Ctx:=zR prog [(52,zh false [] (FC (fun c=>.sl 1 (zy c.names)) zu)),(42,zh false [] (Gf (fun l s=>W8 (qQ s l)) fun l _=>l.length<=zu))]
theorem fM(l:List qd)(cs:List qe)(z:l.length<=zu)(G:aD cs<=zu):zq zbp f37 [.sl 10 (l.map qd.V),.sl 7 (cs.map qe.V)]=some (int (KV l cs)):=by
 have v:zu=2097152:=rfl;have A:=jf cs;refine zm rfl ?_;obtain⟨B,w⟩:=jc (cs.all fun c=>oZ l c.names);unfold KV;rw[w];simp;refine zP (fun k U Y Z=>U 0=.sl 10 (l.map qd.V)/\U 11=.sl 7 (cs.map qe.V)/\U 12=int cs.length/\U 13=int k/\B=(cs.drop k).all fun c=>oZ l c.names) cs.length
  ⟨by simp,by simp,by simp,by simp,by simp[w]⟩ ?_
 rintro k U Y Z H ⟨g,a,b,e,f⟩;by_cases h:k<cs.length
 ·have C:=qG k;obtain⟨x,q⟩:=jc (cs[k]);have r:x∈cs:=by rw[<-q];exact zj h
  have D:=kj r;have E:=xo _ x (zf _);have F:=fun Y Z=>Zd (fun c=>.sl 1 (zy c.names)) zu x Y Z ⟨by omega,by omega⟩
  rw[fL h,q]at f;simp[g,a,b,e,h,q,F];refine zP (fun j U Y Z=>U 0=.sl 10 (l.map qd.V)/\U 11=.sl 7 (cs.map qe.V)/\U 12=int cs.length/\U 13=int k/\U 18=.sl 1 (zy x.names)/\U 19=int x.names.length/\U 20=int j/\B=(oZ l (x.names.drop j)&&(cs.drop (k+1)).all fun c=>oZ l c.names)) x.names.length
   ⟨by simp[g],by simp[a],by simp[b],by simp[e],by simp,by simp,by simp,by simpa using f⟩ ?_
  rintro j U Y Z I ⟨g,a,b,e,i,m,n,f⟩;by_cases o:j<x.names.length
  ·have t:=qG j;obtain⟨y,u⟩:=jc (x.names[j]);have p:∀Y Z,zh false [] (Gf (fun l s=>W8 (qQ s l)) fun l _=>l.length<=zu) [.sl 10 (l.map qd.V),str y] Y Z=some (.wG [.agg (Zt (qQ y l)).V,qS (qQ y l).isSome],Y,Z):=fun Y Z=>XW (fun l s=>W8 (qQ s l)) (fun l _=>l.length<=zu) l y Y Z z
   unfold oZ at f;rw[fL o,u]at f;cases d:(qQ y l).isSome
   ·rw[d,ZL,ZL]at f;rw[d]at p;simp[g,a,b,e,i,m,n,o,u,p,f,f37]
   ·rw[d,jK]at f;rw[d]at p;simp[g,a,b,e,i,m,n,o,u,p,t];exact⟨by omega,f⟩
  ·obtain rfl:j=x.names.length:=by omega
   rw[zn]at f;have f:B=(cs.drop (k+1)).all fun c=>oZ l c.names:=by simpa[oZ]using f
   simp[g,a,b,e,i,m,n,C];exact⟨by omega,f⟩
 ·obtain rfl:k=cs.length:=by omega
  rw[zn]at f;simp[g,a,b,e,f,f37]
theorem Jm:zg prog 37 (zh false [] (FSC fun l cs=>int (KV l cs))):=
 xy (zU mixed ⟨bg zu,Zh,trivial⟩:AM.Good zbp _) func37 false [] fun⟨l,cs⟩ a=>⟨zw (zf 2) (by decide),_,fM l cs a.1 a.2,qb _⟩
theorem U7(l:List qd)(n:za):(Zt (qQ n l)).cond.names=jX l n:=by unfold jX Zt;cases qQ n l<;>rfl
def qm(out:List za):List qd->Nat
 |[]=>0
 |s::l=>(if out.contains s.name=true then 0 else s.cond.names.length)+qm out l
theorem Ii(out:List za)(n:za):∀l:List qd,qm (out++[n]) l<=qm out l
 |[]=>zf _
 |s::l=>by
  have:=Ii out n l;simp only[qm];by_cases h:out.contains s.name=true
  ·rw[zd h,zd (by simp at h⊢;exact .inl h)];omega
  ·rw[zc h];split<;>omega
theorem lp{out:List za}{n:za}(h:n ∉ out):∀l:List qd,(jX l n).length+qm (out++[n]) l<=qm out l
 |[]=>zf _
 |s::l=>by
  by_cases hs:s.name=n
  ·have a:jX (s::l) n=s.cond.names:=by simp[jX,qQ,hs]
   have:=Ii out n l;rw[a];simp only[qm];rw[zd (by simp[hs]),zc (by rw[hs];simpa using h)];omega
  ·have a:jX (s::l) n=jX l n:=by simp[jX,qQ,hs]
   have:=lp h l;rw[a];simp only[qm];have b:(out++[n]).contains s.name=out.contains s.name:=by simp[hs]
   rw[b];omega
theorem Rt(out:List za):∀l:List qd,qm out l<=x4 l
 |[]=>vA _
 |s::l=>by
  have a:=Rt out l;have b:=xo _ s.cond (zf _);have c:x4 (s::l)=s.cb+x4 l:=by simp[x4]
  have d:s.cb=1+s.name.length+QI s.ins+QI s.outs+s.cond.cb:=rfl;simp only[qm];split<;>omega
theorem fN:∀(x y:List za),aq x->aq y->(∀c,c∈x↔c∈y)->x=y
 |[],[],_,_,_=>rfl
 |[],b::y,_,_,h=>absurd ((h b).2 (by simp)) (by simp)
 |a::x,[],_,_,h=>absurd ((h a).1 (by simp)) (by simp)
 |a::x,b::y,k,l,h=>by
  obtain⟨i,m⟩:=wV.1 k;obtain⟨j,n⟩:=wV.1 l;have f:a=b:=by
   rcases zv.1 ((h a).1 (by simp))with e|e
   ·exact e
   ·rcases zv.1 ((h b).2 (by simp))with g|g
    ·exact g.symm
    ·have:=xT (i b g) (j a e);rw[J3]at this;cases this
  subst f;rw[fN x y m n fun c=>⟨fun d=>?_,fun d=>?_⟩]
  ·rcases zv.1 ((h c).1 (by simp[d]))with e|e
   ·subst e;have:=i c d;rw[J3]at this;cases this
   ·exact e
  ·rcases zv.1 ((h c).2 (by simp[d]))with e|e
   ·subst e;have:=j c d;rw[J3]at this;cases this
   ·exact e
theorem X5{l:List za}(h:l.Nodup):aq (l.mergeSort fun x y=>decide (x<=y)):=by
 have Y:=j5 l fun x y=>decide (x<=y)
 have hs:=List.pairwise_mergeSort (le:=fun x y:za=>decide (x<=y)) (fun a b c d e=>by simp only[zT]at d e⊢;exact List.le_trans d e) (fun a b=>by simp only[qp,zT];exact List.le_total a b) l;have f:(l.mergeSort fun x y=>decide (x<=y)).Nodup:=Y.nodup_iff.2 h;refine(hs.and f).imp fun{a b} g=>?_
 rw[bytesLess_eq];obtain⟨d,e⟩:=g;simp only[zT]at d⊢;exact yC fun f=>e (List.le_antisymm d (List.not_lt.1 f))
theorem ZH{l:List za}(h:l.Nodup):Lib.compact l=l:=by
 refine Lib.compact_all l fun j a=>?_
 unfold Lib.keeps;simp only[zT];by_cases b:j=0
 ·exact .inl b
 ·refine .inr fun e=>?_
  rw[yn _ _ (by simpa using a),yn _ _ (by simp;omega)]at e;simp only[List.getElem_toArray]at e;exact(vI.1 h (j-1) j (by omega) a (by omega)) e.symm
open Classical in
noncomputable def kG (l:List qd) (a:List za):List za:=if h:∃L,aq L/\∀n,n∈L↔Ke (jX l) a n then h.choose else[]
theorem dH{l:List qd}{a out:List za}(h:EF (jX l) a out []):Lib.compact (out.mergeSort fun x y=>decide (x<=y))=kG l a:=by
 have d:=X5 h.nodup;have Y:=j5 out fun x y=>decide (x<=y)
 have e:∀n,n∈(out.mergeSort fun x y=>decide (x<=y))↔Ke (jX l) a n:=fun n=>Y.mem_iff.trans (h.done n)
 rw[ZH (Y.nodup_iff.2 h.nodup)];have b:∃L,aq L/\∀n,n∈L↔Ke (jX l) a n:=⟨_,d,e⟩;unfold kG;rw[zg7 b];exact fN _ _ d b.choose_spec.1 fun c=>(e c).trans (b.choose_spec.2 c).symm
theorem Ru{l:List qd}{a:List za}(h:∃out,EF (jX l) a out [])(n:za):n∈kG l a↔Ke (jX l) a n:=by
 obtain⟨out,h⟩:=h;have b:=X5 h.nodup;have Y:=j5 out fun x y=>decide (x<=y)
 rw[<-dH h,ZH (Y.nodup_iff.2 h.nodup)];exact Y.mem_iff.trans (h.done n)
theorem dI(l:List qd)(start:List za):∀(n:Nat) (out b:List za),EF (jX l) start out b->b.length+qm out l<=n->∃c,EF (jX l) start c []
 |_,out,[],h,_=>⟨out,h⟩
 | 0,_,_::_,_,h=>by simp at h
 |n+1,out,a::q,h,e=>by
  simp only[zO]at e;by_cases d:a∈out
  ·exact dI l start n out q (h.skip d) (by omega)
  ·have:=lp d l;exact dI l start n _ _ (h.take d) (by rw[zL];omega)
theorem X6(l:List qd)(a:List za)(n:za):n∈kG l a↔Ke (jX l) a n:=Ru (dI l a _ [] a (.begin _ _) (zf _)) n
def Vy(succ:Nat->List Nat):Nat->List Nat->Nat->List Nat
 | 0,M,_=>M
 |n+1,M,i=>if i∈M then M else(succ i).foldl (Vy succ n) (M++[i])
def Rv(N:Nat)(M:List Nat):Nat:=(List.range N).countP fun j=>!M.contains j
theorem zcZ{N:Nat}{M a:List Nat}(h:∀j∈M,j∈a):Rv N a<=Rv N M:=List.countP_mono_left fun j _ b=>by simp only[yI,List.contains_eq_mem,yw]at b⊢;exact fun c=>b (h j c)
theorem Rw{N i:Nat}{M:List Nat}(hi:i<N)(b:i ∉ M):Rv N (M++[i])<Rv N M:=fp (fun j _ a=>by simp only[yI,List.contains_eq_mem,yw,zM]at a⊢;exact fun h=>a (.inl h)) ⟨i,yj.2 hi,by simpa using b,by simp⟩
structure Vis (succ:Nat->List Nat) (N:Nat) (M:List Nat) (ks:List Nat) (M':List Nat):Prop where
 nd:M'.Nodup
 lt:∀j∈M',j<N
 keep:∀j∈M,j∈M'
 here:∀k∈ks,k∈M'
 from_:∀j∈M',j∈M\/∃k∈ks,j=k\/Wa (fun a b=>b∈succ a) k j
 shut:∀j∈M',j ∉ M->∀k∈succ j,k∈M'
theorem od{succ:Nat->List Nat}{N n:Nat}(o:∀M i,M.Nodup->(∀j∈M,j<N)->i<N->Rv N M<n->Vis succ N M [i] (Vy succ n M i)):∀(e M:List Nat),M.Nodup->(∀j∈M,j<N)->(∀k∈e,k<N)->Rv N M<n->Vis succ N M e (e.foldl (Vy succ n) M)
 |[],M,g,l,_,_=>⟨g,l,fun _ h=>h,by simp,fun _ h=>.inl h,fun j a b=>absurd a b⟩
 |k::e,M,g,l,p,q=>by
  have a:=o M k g l (p k (by simp)) q;have b:=od o e _ a.nd a.lt (fun j c=>p j (by simp[c])) (En (zcZ a.keep) q);rw[xK];refine⟨b.nd,b.lt,fun j c=>b.keep j (a.keep j c),fun j c=>?_,fun j c=>?_,fun j c r m d=>?_⟩
  ·rcases zv.1 c with rfl|c
   ·exact b.keep _ (a.here _ (by simp))
   ·exact b.here j c
  ·rcases b.from_ j c with h|⟨m,d,h⟩
   ·rcases a.from_ j h with h|⟨m,d,h⟩
    ·exact .inl h
    ·exact .inr ⟨m,by simp at d;simp[d],h⟩
   ·exact .inr ⟨m,by simp[d],h⟩
  ·by_cases f:j∈Vy succ n M k
   ·exact b.keep m (a.shut j f r m d)
   ·exact b.shut j c f m d
theorem Ij{succ:Nat->List Nat}{N:Nat}(hs:∀a,∀b∈succ a,b<N):∀(n:Nat) (M:List Nat) (i:Nat),M.Nodup->(∀j∈M,j<N)->i<N->Rv N M<n->Vis succ N M [i] (Vy succ n M i)
 | 0,_,_,_,_,_,h=>absurd h (by omega)
 |n+1,M,i,g,l,q,t=>by
  unfold Vy;split
  ·rename_i hi;exact⟨g,l,fun _ h=>h,by simpa using hi,fun _ h=>.inl h,fun j a b=>absurd a b⟩
  ·rename_i hi;have u:=Rw q hi;have a:=od (Ij hs n) (succ i) (M++[i]) (List.nodup_append.2 ⟨g,by simp,fun a r b o=>by simp at o;subst o;exact fun e=>hi (e ▸ r)⟩) (fun j c=>by
    rcases zM.1 c with h|h
    ·exact l j h
    ·simp at h;omega) (hs i) (by omega)
   refine⟨a.nd,a.lt,fun j c=>a.keep j (by simp[c]),fun k d=>by simp at d;subst d;exact a.keep _ (by simp),fun j c=>?_,fun j c s m p=>?_⟩
   ·rcases a.from_ j c with h|⟨k,d,h⟩
    ·rcases zM.1 h with h|h
     ·exact .inl h
     ·exact .inr ⟨i,by simp,.inl (by simpa using h)⟩
    ·refine .inr ⟨i,by simp,.inr ?_⟩;rcases h with rfl|h
     ·exact .one d
     ·exact(Wa.one (E:=fun a b=>b∈succ a) d).trans h
   ·by_cases f:j=i
    ·subst f;exact a.here m p
    ·exact a.shut j c (by simp[s,f]) m p
noncomputable def KW (l:List qd) (a:List za):List Nat:=(a.map (jj l)).foldl (Vy (wH l) 2097153) []
theorem Ka{l:List qd}(e:l.length<=100)(b:∀s∈l,∀n∈s.cond.names,w7 l n=true){a:List za}(c:∀n∈a,w7 l n=true):Vis (wH l) l.length [] (a.map (jj l)) (KW l a):=
 od (Ij (uG b) 2097153) _ _ (by simp) (by simp) (fun k h=>by
  obtain⟨n,d,rfl⟩:=qj.1 h;exact fq (c n d)) (by
  have:Rv l.length []<=(List.range l.length).length:=List.countP_le_length;rw[List.length_range]at this;omega)
theorem U8{l:List qd}(c:aq (l.map qd.name)){n:za}(h:w7 l n=true):∃a:jj l n<l.length,l[jj l n].name=n:=by
 rcases Wl c n with⟨_,a,_,d⟩|⟨b,_⟩
 ·exact⟨a,d⟩
 ·rw[h]at b;cases b
theorem YT{l:List qd}(y:aq (l.map qd.name))(C:l.length<=100)(z:∀s∈l,∀n∈s.cond.names,w7 l n=true){c:List za}(i:∀n∈c,w7 l n=true)(j:Nat):j∈KW l c↔∃n,Ke (jX l) c n/\w7 l n=true/\jj l n=j:=by
 have o:=Ka C z i;constructor
 ·intro d;rcases o.from_ j d with h|⟨k,p,h2⟩
  ·cases h
  obtain⟨n,f,rfl⟩:=qj.1 p;rcases h2 with rfl|h2
  ·exact⟨n,.here f,i n f,rfl⟩
  have r:∀{j},Wa (fun a b=>b∈wH l a) (jj l n) j->∃n,Ke (jX l) c n/\w7 l n=true/\jj l n=j:=by
   intro j d;have step:∀m b,Ke (jX l) c m->w7 l m=true->b∈wH l (jj l m)->∃n,Ke (jX l) c n/\w7 l n=true/\jj l n=b:=fun m b t u v=>by
    rcases Wl y m with⟨_,d,g,E⟩|⟨g,_⟩
    ·unfold wH at v;rw[zl d]at v;obtain⟨q,A,rfl⟩:=qj.1 v;exact⟨q,.there t (by unfold jX;rw[g];exact A),z _ (zj d) q A,rfl⟩
    ·rw[u]at g;cases g
   induction d with
   |one e=>exact step n _ (.here f) (i n f) e
   |tail _ e w=>obtain⟨m,t,u,rfl⟩:=w;exact step m _ t u e
  exact r h2
 ·rintro⟨n,p,h2,rfl⟩
  induction p with
  |here h=>exact o.here _ (Wo h)
  | @there a b F D w=>have B:=ny y D;have x:=B.1;exact o.shut _ (w x) (by simp) _ B.2.1
def Xs(l:List qd)(j:Nat):za:=match l[j]? with
 |some s=>s.name
 |none=>[]
theorem KX{l:List qd}(a:aq (l.map qd.name)){n:za}(h:w7 l n=true):Xs l (jj l n)=n:=by obtain⟨b,e⟩:=U8 a h;unfold Xs;rw[zl b];exact e
theorem Dx{l:List qd}(b:∀s∈l,∀n∈s.cond.names,w7 l n=true)(c:aq (l.map qd.name)){a:List za}(d:∀n∈a,w7 l n=true){n:za}(h:Ke (jX l) a n):w7 l n=true:=by
 induction h with
 |here h=>exact d _ h
 |there _ e _=>obtain⟨s,f,g⟩:=(ny c e).2.2;exact b s f _ g
theorem sU{l:List qd}(c:aq (l.map qd.name))(i:l.length<=100)(d:∀s∈l,∀n∈s.cond.names,w7 l n=true){f:List za}(g:∀n∈f,w7 l n=true){V:List Nat}(k:V.Perm (KW l f)):(V.map (Xs l)).mergeSort (fun x y=>decide (x<=y))=kG l f:=by
 obtain⟨out,o⟩:=dI l f _ [] f (.begin _ _) (zf _);have z:=Ka i d g;have p:(V.map (Xs l)).Nodup:=by
  have q:=k.nodup_iff.2 z.nd;rw[List.nodup_iff_pairwise_ne,List.pairwise_map];refine(List.nodup_iff_pairwise_ne.1 q).imp_of_mem fun{a b} A r t e=>?_
  obtain⟨n,v,u,rfl⟩:=(YT c i d g a).1 (k.mem_iff.1 A);obtain⟨m,E,B,rfl⟩:=(YT c i d g b).1 (k.mem_iff.1 r);rw[KX c u,KX c B]at e;exact t (by rw[e])
 have C:aq (kG l f):=by rw[<-dH o,ZH ((j5 out _).nodup_iff.2 o.nodup)];exact X5 o.nodup
 refine fN _ _ (X5 p) C fun n=>?_
 rw[(j5 _ _).mem_iff,X6,qj];constructor
 ·rintro⟨j,D,rfl⟩;obtain⟨m,v,u,rfl⟩:=(YT c i d g j).1 (k.mem_iff.1 D);rw[KX c u];exact v
 ·intro h;have w:=Dx d c g h;exact⟨jj l n,k.mem_iff.2 ((YT c i d g _).2 ⟨n,h,w,rfl⟩),KX c w⟩
end Go.Q
namespace Go.AM
open Go.RowKit Go.Sort Go.Proofs
variable{dr:Prop}
abbrev WY(zs:List za):List zb:=zs.map fun n=>[str n]
theorem Rx{a b:List za}(h:WY a=WY b):a=b:=
 kS (fun x y e=>by have:=List.head_eq_of_cons_eq e;exact wR this) h
@[simp]theorem Xt(zs:List za):(WY zs).length=zs.length:=by simp[WY]
theorem Ry{zs:List za}{i:Nat}{c:zb}(h:(WY zs)[i]?=some c):∃hi:i<zs.length,c=[str zs[i]]:=by
 unfold WY at h;rw[qo]at h;cases a:zs[i]? with
 |none=>rw[a]at h;cases h
 |some x=>rw[a]at h;obtain⟨hi,rfl⟩:=zi.1 a;exact⟨hi,by simpa using h.symm⟩
def GL(P:Program)(f:Nat)(F:List za->List za)(a:Bool):Prop:=
 ∀(blk cap:Nat) (zs:List za) (w:World),Holds encStr w blk 0 zs.toArray->blk<w.heap.size->zs.length<4611686018427387904->zs.length<=cap ->
  Calls P f #[.slice (some ⟨blk,0,none⟩) zs.length cap] w fun e w'=>e=.returned (if a then .slice (some ⟨blk,0,none⟩) (F zs).length cap else .tuple #[]) /\
   ∃(q:Nat) (b:Array Obj) (d:List za),d.length=zs.length/\(∃r,d=F zs++r)/\w'=grow (putRow encStr (Sort.ahead w q) blk 0 d.toArray) b
open Classical in
noncomputable def oe (es:List zb):Option (List za):=if h:∃zs:List za,es=WY zs then some h.choose else none
theorem MK(zs:List za):oe (WY zs)=some zs:=by have a:∃ys:List za,WY zs=WY ys:=⟨zs,rfl⟩;unfold oe;rw[zg7 a];have e:=Rx a.choose_spec;rw[<-e]
theorem GM{es:List zb}{zs:List za}(h:oe es=some zs):es=WY zs:=by
 unfold oe at h;split at h
 ·rename_i a;injection h with h
  rw[<-h];exact a.choose_spec
 ·cases h
noncomputable def Vs (F:List za->List za) (a:Bool):AM.Spec:=fun args Y Z=>
 match args with
 |[.nil]=>some (if a then .nil else .wG [],Y,Z)
 |[.own id off n]=>match Y id with
  |some b=>match oe b.es with
   |some zs=>if off=0/\b.arr=true/\b.s=1/\n=zs.length/\zs.length<4611686018427387904 then
     some (if a then .own id 0 (F zs).length else .wG [],qv Y id (some ⟨b.e,b.s,b.arr,WY (F zs)⟩),Z)else none
   |none=>none
  |none=>none
 |_=>none
theorem b7(F:List za->List za)(a:Bool){id e:Nat}{zs:List za}{Y:Hp}{Z:Nat}(h:Y id=some ⟨e,1,true,WY zs⟩)(b:zs.length<4611686018427387904) :
  Vs F a [.own id 0 zs.length] Y Z=some (if a then .own id 0 (F zs).length else .wG [],qv Y id (some ⟨e,1,true,WY (F zs)⟩),Z):=by
 unfold Vs;simp only[h,MK];simp only[b,and_self,qH]
theorem og(w:World)(blk:Nat)(d:Array za){a:Array Value}{e:TypeId}(h:w.heap[blk]?=some (.cells a e (0,0))) :
  putRow encStr w blk 0 d=w.setRow blk (putCells encStr 0 d a):=by
 unfold putRow mapBlock World.setRow;congr 1;apply Array.ext_getElem?;intro i;simp only[vR];by_cases hi:blk=i
 ·subst hi;simp only[qH,h,zC,onCells]
 ·simp[hi]
theorem Ap(w:World)(blk q:Nat)(d:Array za)(a:Array Obj):Fr dr (putRow encStr w blk 0 d) (fun _=>False) (grow (putRow encStr (Sort.ahead w q) blk 0 d) a):=by
 refine⟨rfl,rfl,rfl,?_,fun _=>?_,fun b c _=>?_⟩
 ·show _<=(_++a).size;rw[QF];exact Nat.le_add_right _ _
 ·exact Nat.le_add_right _ _
 ·exact vg c
theorem gV{P:Program}{f:Nat}{F:List za->List za}{k:Bool}(J:∃fn,P.funcs[f]?=some fn/\(fn.name== "runtime.NumGoroutine")=false/\fn.body.isNone=false)(K:GL P f F k)(B:∀w,Calls P f #[.slice none 0 0] w fun e w'=>e=.returned (if k then .slice none 0 0 else .tuple #[])/\w'=w):kq dr P f (Vs F k):=by
 refine⟨J,?_⟩;intro args Y Z r Y' Z' h w S G vs hi hz;unfold Vs at h;split at h
 case h_3=>cases h
 case h_1=>
  obtain⟨u,us,rfl,I,y⟩:=hz.jC;obtain rfl:=y.WO;obtain rfl:=I.Zj;injection h with h;injection h with L h;injection h with M N;subst L;subst M;subst N;refine(B w).mono fun e w' Q=>?_
  obtain⟨rfl,rfl⟩:=Q;refine⟨_,S,G,rfl,.refl hi,?_⟩;cases k with
  |false=>exact jL
  |true=>exact .c .nil
 rename_i id off n;obtain⟨u,us,rfl,I,y⟩:=hz.jC;obtain rfl:=y.WO;have l:=I.xh;obtain⟨cap,g1,g2,g3,g4,rfl⟩:=I.vK;split at h
 case h_2=>cases h
 rename_i b hb;split at h
 case h_2=>cases h
 rename_i zs m;have m:=GM m;split at h
 case isFalse=>cases h
 rename_i hx;obtain⟨rfl,harr,R,hn,C⟩:=hx;injection h with h
 injection h with L h;injection h with M N;subst L;subst M;subst N;subst hn;have o:=hi.live id b hb;have a:(G id).s=1:=by rw[<-o.bs];exact R
 obtain⟨p,T,c2,c3⟩:=o.row l;rw[a]at c3 g4;have t:=o.fit l;rw[m,a]at t;simp only[Xt,zgc,ym]at t g4;have z:∀j (D:j<zs.length),p[j]?=some (encStr zs[j]):=fun j D=>by obtain⟨u,q1,q2⟩:=c3 j 0 [str zs[j]] (str zs[j]) (by rw[m];simp[WY,D]) rfl;rw[zgc,QE]at q1;obtain⟨rfl,_⟩:=q2.2.1.w8;exact q1
 have hH:Holds encStr w (G id).g 0 zs.toArray:=by
  intro j D;have W:j<zs.length:=by simpa using D
  constructor
  ·rw[ym,zbI w _ _ p _ _ T,z j W,yn _ j D];simp
  ·simp[World.frozen?,T]
 have X:=K (G id).g cap zs w hH o.lt C g2;rw[a];simp only[zaF];refine X.mono fun e w' Q=>?_
 obtain⟨rfl,q,os,d,hd1,⟨rr,E⟩,rfl⟩:=Q;have hFl:(F zs).length<=zs.length:=by rw[<-hd1,E,zL];omega
 have A:=kx.set (dr:=dr) hi hb l (putCells encStr 0 d.toArray p) (WY (F zs)) (by simp[putCells,c2])
  (fun c hc=>by obtain⟨x,_,rfl⟩:=qj.1 hc;rw[a];rfl)
  (by rw[a,Xt];omega)
  (fun i j c pv hci H=>by
   obtain⟨Sn,rfl⟩:=Ry hci;have hj0:j=0:=by have:=(zi.1 H).1;simpa using this
   subst hj0;obtain rfl:str (F zs)[i]=pv:=by simpa using H
   refine⟨encStr (F zs)[i],?_,fun _=>.v rfl,.c (.v rfl),rfl⟩;rw[a,zgc,QE];have hic:i<p.size:=by rw[c2];omega
   unfold putCells;rw[Array.getElem?_mapIdx,Qf hic];simp only[zC];have hid:i<d.length:=by omega
   rw[zd ⟨vA _,by simpa using hid⟩];have:d.toArray[i-0]! = (F zs)[i]:=by rw[Nat.sub_zero,yn _ i (by simpa using hid)];simp[E,List.getElem_append_left Sn]
   rw[this])
 rw[<-og w _ _ T]at A;refine⟨_,S,G,rfl,A.trans (kx.grown A.inv (Ap w (G id).g q d.toArray os)),?_⟩;cases k with
 |false=>exact jL
 |true=>simp only[qH];have:=qf.own (w:=grow (putRow encStr (Sort.ahead w q) (G id).g 0 d.toArray) os) (S:=S) (G:=G) (Z:=Z) (id:=id) (off:=0) (n:=(F zs).length) (cap:=cap) g1 (by omega) g3 (by rw[a];omega) l;simpa using this
end Go.AM
namespace Go.Proofs
open Go.Shelf
def Tryz.EJ:Go.Shelf.Ren:=⟨fun|125=>51|128=>102|129=>103|190=>21|258=>50|302=>93|303=>94|304=>95|305=>96|306=>97|307=>98|308=>99|309=>100|310=>101|329=>144|330=>145|333=>143|334=>146|335=>147|336=>148|344=>186|n=>n,fun|0=>0|3=>3|4=>4|5=>5|9=>9|31=>33|46=>83|51=>119|53=>121|131=>64|182=>111|183=>112|218=>144|222=>148|228=>193|229=>89|n=>n,fun|n=>n⟩
theorem Tryz.IK:Go.Proofs.Lays.n190 prog Tryz.EJ:={
 mixed:=by kernel_rfl
 f125:=func51.trans (zr some (by kernel_rfl))
 f128:=func102.trans (zr some (by kernel_rfl))
 f129:=func103.trans (zr some (by kernel_rfl))
 f190:=func21.trans (zr some (by kernel_rfl))
 f258:=func50.trans (zr some (by kernel_rfl))
 f302:=func93.trans (zr some (by kernel_rfl))
 f303:=func94.trans (zr some (by kernel_rfl))
 f304:=func95.trans (zr some (by kernel_rfl))
 f305:=func96.trans (zr some (by kernel_rfl))
 f306:=func97.trans (zr some (by kernel_rfl))
 f307:=func98.trans (zr some (by kernel_rfl))
 f308:=func99.trans (zr some (by kernel_rfl))
 f309:=func100.trans (zr some (by kernel_rfl))
 f310:=func101.trans (zr some (by kernel_rfl))
 f329:=func144.trans (zr some (by kernel_rfl))
 f330:=func145.trans (zr some (by kernel_rfl))
 f333:=func143.trans (zr some (by kernel_rfl))
 f334:=func146.trans (zr some (by kernel_rfl))
 f335:=func147.trans (zr some (by kernel_rfl))
 f336:=func148.trans (zr some (by kernel_rfl))
 f344:=func186.trans (zr some (by kernel_rfl))
 t0:=underlying0
 a0:=isAgg0
 z0:=sizeOf0
 v0:=zeroValue0
 t3:=underlying3
 a3:=isAgg3
 z3:=sizeOf3
 v3:=zeroValue3
 t4:=underlying4
 a4:=isAgg4
 z4:=sizeOf4
 v4:=zeroValue4
 t5:=underlying5
 a5:=isAgg5
 z5:=sizeOf5
 v5:=zeroValue5
 t9:=underlying9
 a9:=isAgg9
 z9:=sizeOf9
 v9:=zeroValue9
 t31:=underlying33
 a31:=isAgg33
 z31:=sizeOf33
 v31:=zeroValue33
 t46:=underlying83
 a46:=isAgg83
 z46:=sizeOf83
 v46:=zeroValue83
 t51:=underlying119
 a51:=isAgg119
 z51:=sizeOf119
 v51:=zeroValue119
 t53:=underlying121
 a53:=isAgg121
 z53:=sizeOf121
 v53:=zeroValue121
 t131:=underlying64
 a131:=isAgg64
 z131:=sizeOf64
 v131:=zeroValue64
 t182:=underlying111
 a182:=isAgg111
 z182:=sizeOf111
 v182:=zeroValue111
 t183:=underlying112
 a183:=isAgg112
 z183:=sizeOf112
 v183:=zeroValue112
 t218:=underlying144
 a218:=isAgg144
 z218:=sizeOf144
 v218:=zeroValue144
 t222:=underlying148
 a222:=isAgg148
 z222:=sizeOf148
 v222:=zeroValue148
 t228:=underlying193
 a228:=isAgg193
 z228:=sizeOf193
 v228:=zeroValue193
 t229:=underlying89
 a229:=isAgg89
 z229:=sizeOf89
 v229:=zeroValue89}
def Tryz.EK:Go.Shelf.Ren:=⟨fun|194=>92|n=>n,fun|0=>0|3=>3|4=>4|9=>9|31=>33|n=>n,fun|n=>n⟩
theorem Tryz.IL:Go.Proofs.Lays.n194 prog Tryz.EK:={
 mixed:=by kernel_rfl
 f194:=func92.trans (zr some (by kernel_rfl))
 t0:=underlying0
 a0:=isAgg0
 z0:=sizeOf0
 v0:=zeroValue0
 t3:=underlying3
 a3:=isAgg3
 z3:=sizeOf3
 v3:=zeroValue3
 t4:=underlying4
 a4:=isAgg4
 z4:=sizeOf4
 v4:=zeroValue4
 t9:=underlying9
 a9:=isAgg9
 z9:=sizeOf9
 v9:=zeroValue9
 t31:=underlying33
 a31:=isAgg33
 z31:=sizeOf33
 v31:=zeroValue33}
end Go.Proofs
namespace Go.Q
open Go.RowKit Go.AM Go.Sort
abbrev xF(zs:List za):List za:=zs.mergeSort fun x y=>decide (x<=y)
theorem Rz:GL prog 21 xF false:=by
 intro blk cap zs w a b c g;refine(Any.slices_Sort_string Tryz.IK blk 0 cap zs w a b c).mono fun e w' d=>?_
 obtain⟨rfl,n,f,rfl⟩:=d;exact⟨rfl,n,f,_,by rw[zdh],⟨[],by simp⟩,rfl⟩
theorem Dy:GL prog 92 Lib.compact true:=by
 intro blk cap zs w a d f b;refine(Any.slices_Compact_string Tryz.IL blk 0 cap zs w a (by omega) b).mono fun e w' c=>?_
 obtain⟨rfl,q,rfl⟩:=c;refine⟨rfl,q,#[],Lib.compact zs++List.replicate (zs.length-(Lib.compact zs).length) [],?_,⟨_,rfl⟩,by simp⟩;have:=Lib.compact_length_le zs;simp;omega
theorem Xu:zg prog 21 (Vs xF false):=
 gV ⟨_,func21,by decide,by kernel_rfl⟩ Rz fun w=>Any.slices_Sort_string_none Tryz.IK none 0 w
theorem oh:zg prog 92 (Vs Lib.compact true):=
 gV ⟨_,func92,by decide,by kernel_rfl⟩ Dy fun w=>Any.slices_Compact_string_empty Tryz.IL none 0 w
def ju(l:List za):List za:=Lib.compact (xF l)
noncomputable abbrev zbq:Ctx:=zR prog [(91,yR [] (Qr 9 1)),(21,Vs xF false),(92,Vs Lib.compact true)]
theorem Dz(l:List za)(g:l.length<=zu)(y:O)(c:fX 1 (zy l) y):∃i,zq zbq f47 [y]=some i/\qX i (.sl 1 (zy (ju l))):=by
 refine Ym rfl ?_;have m:l.length<4611686018427387904:=by unfold zu at g;omega
 have d:(xF l).length=l.length:=zdh _;have a:=mE (e:=9) c (by simpa[zy]using g) (fun _=>none) 0;have f:y=.nil/\l=[]\/(Zz 9 1 (zy l) y 0).1=.own 0 0 l.length/\(Zz 9 1 (zy l) y 0).2.1 (fun _=>none)=qv (fun _=>none) 0 (some ⟨9,1,true,WY l⟩)/\(Zz 9 1 (zy l) y 0).2.2=1:=by
  generalize b:zy l=es at c;cases c with
  |nil=>exact .inl ⟨rfl,by simpa[zy]using b⟩
  |em=>exact .inr ⟨by simp[Zz,<-b,zy],by simp[Zz,<-b,zy,WY],rfl⟩
  |sl=>exact .inr ⟨by simp[Zz,<-b,zy],by simp[Zz,<-b,zy,WY],rfl⟩
 rcases f with⟨rfl,rfl⟩|⟨n,o,p⟩
 ·simp only[Zz]at a;have q:ju []=[]:=by simp[ju,xF,Lib.compact,Lib.compactUpTo]
  simp[a,Vs,f47];rw[q];exact⟨.nil,by simp,qX.oT (.inl ⟨rfl,rfl⟩)⟩
 ·rw[n,o,p]at a;have r:=b7 xF false (id:=0) (e:=9) (zs:=l) (Y:=qv (fun _=>none) 0 (some ⟨9,1,true,WY l⟩)) (Z:=1) (by simp) m;have j:=fun Y (h:Y 0=some ⟨9,1,true,WY (xF l)⟩)=>b7 Lib.compact true (id:=0) (e:=9) (zs:=xF l) (Y:=Y) (Z:=1) h (by omega)
  rw[d]at j;have k:=j _ (by simp:qv (qv (fun _=>none) 0 (some (⟨9,1,true,WY l⟩:kv))) 0 (some ⟨9,1,true,WY (xF l)⟩) 0=_);simp at k;simp[a,r,k,f47];refine⟨.sl 1 (zy (ju l)),?_,qX.refl _⟩;simp[ju,zy,WY];exact qx (by simp)
theorem KY:zg prog 47 (zh true [1] (LU (fun l=>.sl 1 (zy (ju l))) fun l=>l.length<=zu)):=
 Qq (fn:=f47) (zU mixed ⟨cY,Xu,oh,trivial⟩:AM.Good zbq _) (qD func47) true [1] _ fun args r h w S vs b=>by obtain⟨l,rfl,c,rfl⟩:=zN h;obtain⟨u,rfl,d⟩:=Yk b;obtain⟨y,e,a⟩:=BN d;obtain⟨f,g,i⟩:=Dz l c y e;exact⟨_,f,.cons a .nil,zw (zf 1) (by decide),g,i⟩
end Go.Q
namespace Go.Q
theorem EL{zs:List za}{n:za}:n∈Lib.compact zs↔n∈zs:=by
 have d:∀{j:Nat},j<zs.length->zs.toArray[j]! = zs[j]!:=fun{j} b=>by rw[yn zs.toArray j (by simpa using b),yn zs j b];simp
 unfold Lib.compact Lib.compactUpTo;simp only[qj,ah,yj];constructor
 ·rintro⟨j,⟨b,_⟩,rfl⟩;rw[d b,yn zs j b];exact zj b
 ·intro h;obtain⟨j,b,rfl⟩:=List.getElem_of_mem h;have e:∀k (a:k<zs.length),∃i,(i<zs.length/\Lib.keeps zs.toArray i=true)/\zs.toArray[i]! = zs[k]:=by
   intro k
   induction k with
   |zero=>exact fun a=>⟨0,⟨a,by simp[Lib.keeps]⟩,by rw[d a,yn zs 0 a]⟩
   |succ k f=>
    intro a;by_cases c:Lib.keeps zs.toArray (k+1)=true
    ·exact⟨k+1,⟨a,c⟩,by rw[d a,yn zs (k+1) a]⟩
    ·obtain⟨i,g,l⟩:=f (by omega);refine⟨i,g,l.trans ?_⟩;have:zs.toArray[k+1]! = zs.toArray[k]!:=by simp only[Lib.keeps,zT,not_or]at c;have:=Decidable.not_not.1 c.2;simpa using this
     rw[d a,d (by omega),yn zs (k+1) a,yn zs k (by omega)]at this;exact this.symm
  exact e j b
theorem GN{zs:List za}(hs:zs.Pairwise (·<=·)):aq (Lib.compact zs):=by
 have k:∀{j:Nat},j<zs.length->zs.toArray[j]! = zs[j]!:=fun{j} e=>by rw[yn zs.toArray j (by simpa using e),yn zs j e];simp
 have f:∀{i j:Nat} (hi:i<zs.length) (e:j<zs.length),i<=j->zs[i]<=zs[j]:=fun{i j} hi e h=>by
  rcases zh3 h with h|rfl
  ·exact vI.1 hs i j hi e h
  ·exact List.le_refl _
 unfold aq Lib.compact Lib.compactUpTo;rw[List.pairwise_map];refine(List.Pairwise.filter _ List.pairwise_lt_range).imp_of_mem fun{a b} d c m=>?_
 simp only[ah,yj]at d c;obtain⟨d,_⟩:=d;obtain⟨c,l⟩:=c;simp only[Lib.keeps,zT]at l;have g:=l.resolve_left (by omega);rw[k c,k (by omega),yn zs b c,yn zs (b-1) (by omega)]at g;rw[k d,k c,yn zs a d,yn zs b c,bytesLess_eq];simp only[zT];have n:=f d (by omega:b-1<zs.length) (by omega);have o:=f (by omega:b-1<zs.length) c (by omega);refine yC fun p=>g ?_
 have q:=List.not_lt.1 p;exact List.le_antisymm (List.le_trans q n) o
theorem RA(l:List za):(xF l).Pairwise (·<=·):=(List.pairwise_mergeSort (le:=fun x y:za=>decide (x<=y)) (fun a b c d e=>by simp only[zT]at d e⊢;exact List.le_trans d e) (fun a b=>by simp only[qp,zT];exact List.le_total a b) l).imp fun h=>by simpa using h
theorem X7(l:List za):aq (ju l):=GN (RA l)
theorem Vg{l:List za}{n:za}:n∈ju l↔n∈l:=EL.trans (j5 l _).mem_iff
theorem ML{l:List za}(h:aq l):ju l=l:=fN _ _ (X7 l) h fun _=>Vg
theorem GO{a b:List za}(h:a.Nodup)(c:∀n,n∈a↔n∈b):xF a=ju b:=fN _ _ (X5 h) (X7 b) fun n=>((j5 a _).mem_iff.trans (c n)).trans Vg.symm
theorem GP(l:List za):(ju l).length<=l.length:=by have a:(xF l).length=l.length:=(j5 l _).length_eq;unfold ju Lib.compact Lib.compactUpTo;rw[vB];have:=ic (Lib.keeps (xF l).toArray) (List.range (xF l).length);rw[List.length_range,a]at this;rw[a];exact this
mutual
def qe.yq:qe->List qe
 | .mk k a o v p n l=>(if k=4 then[.mk k a o v p n l]else[])++ko l
def ko:List qe->List qe
 |[]=>[]
 |c::l=>c.yq++ko l
end
theorem dJ(c:qe):c.yq=(if c.kind=4 then[c]else[])++ko c.args:=by cases c;rfl
theorem DA{l:List qe}{k:Nat}(h:k<l.length):ko (l.drop k)=l[k].yq++ko (l.drop (k+1)):=by rw[ze h,ko]
theorem b8:∀a b:List qe,ko (a++b)=ko a++ko b
 |[],b=>rfl
 |x::a,b=>by show x.yq++ko (a++b)=(x.yq++ko a)++ko b;rw[b8 a b,qM]
theorem DB{l:List qe}{k:Nat}(h:k<l.length):ko (l.take (k+1))=ko (l.take k)++l[k].yq:=by rw[qq h,b8];show _++(l[k].yq++[])=_;rw[yU]
def b9:za:=[107,101,121]
def Xv(s:qd):List za:=s.cond.yq.map qe.attr++if s.ins.length+s.outs.length=0 then[]else[b9]
noncomputable def QQ (l:List qd) (c:qe):List za:=ju (c.yq.map qe.attr++(kG l c.names).flatMap fun n=>Xv (Zt (qQ n l)))
noncomputable def DC (Ta:Qg):AM.Spec:=yr (zR prog Ta) f63
noncomputable def Ik (Ta:Qg):AM.Spec:=yr (zR prog [(63,DC Ta)]) f29
theorem GQ{Ta:Qg}(h:cx True prog [] Ta):zg prog 63 (DC Ta):=ky (qw (q:=[]) mixed h) func63
theorem GR{Ta:Qg}(h:cx True prog [] Ta):zg prog 29 (Ik Ta):=ky (qw (q:=[]) (l:=[(63,DC Ta)]) mixed ⟨GQ h,by simp,trivial⟩) func29
theorem DD{U:Type}{T:Nat->Prop}{Rep:U->Hp->Prop}{step:U->qe->Bool×U}{Ta:Qg}{g:Nat}{sp:AM.Spec}{fi cap:zb}{Z0:Nat}(A:lookup Ta g=some sp)(xs:List qe)(D:xs.length<=zu)
  (E:∀s x Y Z,x∈xs->Z0<=Z->Rep s Y->∃r b c,sp (fi++.agg x.V::cap) Y Z=some (r,b,c)/\yP T Rep (qS (step s x).1) (step s x).2 Y Z r b c)
  (h:U) (i:Hp) (a:Nat) (P:Z0<=a) (F:Rep h i) :
  ∃r b c,Ik Ta [.sl 7 (xs.map qe.V),.fn (.func g) fi cap] i a=some (r,b,c)/\yP T Rep (qS (wv step h xs).1) (wv step h xs).2 i a r b c:=by
 have q:∃r b c,DC Ta [.sl 7 (xs.map qe.V),.fn (.func g) fi cap] i a=some (r,b,c)/\∃z:Int,r=int z/\decide (0<=z)=(wv step h xs).1/\yP T Rep (int z) (wv step h xs).2 i a r b c:=by
  unfold DC yr;rw[zd (by simp[f63])];refine qE rfl ?_;unfold zu at D;simp;refine zP (fun k U Y Z=>U 0=.sl 7 (xs.map qe.V)/\U 1=.fn (.func g) fi cap/\U 7=int xs.length/\U 8=int k/\a<=Z/\(∀j,j<a->¬T j->Y j=i j)/\∃s,Rep s Y/\wv step h xs=wv step s (xs.drop k)) xs.length ⟨by simp,by simp,by simp,by simp,zf _,fun _ _ _=>rfl,h,F,by simp⟩ ?_;rintro k U Y Z Q ⟨t,u,v,w,y,m,s,n,f⟩;by_cases d:k<xs.length
  ·have G:=qG k;obtain⟨x,p⟩:=jc (xs[k]);obtain⟨r,Y2,H,l,rfl,B,R,I⟩:=E s x Y Z (by rw[<-p];exact zj d) (by omega) n;rw[ze d,p]at f;have o:∀j,j<a->¬T j->Y2 j=i j:=fun j J C=>by rw[I j (by omega) C];exact m j J C
   cases e:(step s x).1
   ·rw[Qc e]at f;rw[e]at l;simp[t,u,v,w,d,p,A,l,G];exact⟨by omega,by omega,o,_,B,f⟩
   ·rw[YR e]at f;rw[e]at l;simp[t,u,v,w,d,p,A,l,f,yP,f63];exact⟨B,by omega,o⟩
  ·obtain rfl:k=xs.length:=by omega
   rw[zn]at f;simp only[wv]at f;simp[t,u,v,w,f,yP,f63];exact⟨n,y,m⟩
 obtain⟨r,b,c,l,z,rfl,K,_,L,M,N⟩:=q;unfold Ik yr;rw[zd (by simp[f29])];refine qE rfl ?_;simp[l,K,yP,f29];exact⟨L,M,N⟩
noncomputable def FFS (f:za×qa->za->O):zb->Option O:=ql (α:=(za×qa)×za) (fun a=>[.agg (yk a.1),str a.2]) (fun _=>True) (fun a=>f a.1 a.2)
theorem DE(Y:Hp)(x:za×qa):qA Y (.agg (yk x))=some (.agg (yk x),Y):=by simp[yk]
theorem GU(x:za×qa):O.noOwn (.agg (yk x))=true:=by have:=eE x.2;simp only[O.noOwn,yI,yk,y9]at this⊢;simpa using this
theorem DF(f:za×qa->za->O)(x:za×qa)(s:za)(Y:Hp)(Z:Nat):zh false [] (FFS f) [.agg (yk x),str s] Y Z=some (f x s,Y,Z):=
 yA (Y1:=Y) (show zD Y [.agg (yk x),str s]=some ([.agg (yk x),str s],Y) by simp only[zD,DE];simp)
  (qF (V:=fun a:(za×qa)×za=>[O.agg (yk a.1),str a.2]) (a:=(x,s)) (fun a b e=>by
   obtain⟨d,h⟩:=a;obtain⟨b1,i⟩:=b;simp only[zk,zI,O.agg.injEq]at e;obtain⟨c,g⟩:=e;have c:yk d=yk b1:=by simpa only[yk,zk]using c
   rw[ng c,wR g]) trivial) (.inr (by simp only[wI,GU,K8];rfl))
noncomputable abbrev Cac:Ctx:=zR prog [(66,zh false [] (Np yD))]
theorem pY:zg prog 69 (zh false [] (FFS fun x s=>int (yD x.1 s))):=
 xy (zU mixed ⟨vO,trivial⟩:AM.Good Cac _) func69 false [] fun⟨x,s⟩ _=>⟨by simp[f69],_,zm rfl (by simp[f69,yk]),qb _⟩
noncomputable def JE (l:List (za×qa)) (s:za) (k:Nat):Bool:=match l[k]? with
 |some x=>decide (yD x.1 s<0)
 |none=>false
noncomputable def Qd (l:List (za×qa)) (s:za):Nat×Bool:=(Zk (JE l s) 0 l.length,match l[Zk (JE l s) 0 l.length]? with
 |some x=>yD x.1 s==0
 |none=>false)
noncomputable def FBsA (g:Nat):zb->Option O:=ql (α:=List (za×qa)×za) (fun a=>[.sl 6 (a.1.map yk),str a.2,.fn (.func g) [] []]) (fun a=>a.1.length<=zu) (fun a=>.wG [int (Qd a.1 a.2).1,qS (Qd a.1 a.2).2])
theorem MM(g:Nat)(l:List (za×qa))(s:za)(Y:Hp)(Z:Nat)(h:l.length<=zu):zh false [] (FBsA g) [.sl 6 (l.map yk),str s,.fn (.func g) [] []] Y Z=some (.wG [int (Qd l s).1,qS (Qd l s).2],Y,Z):=
 Ja (l,s) _ _ rfl (fun a b e=>by obtain⟨f,i⟩:=a;obtain⟨j,k⟩:=b;simp only[zk,zI]at e;obtain⟨c,d⟩:=e;injection c with _ c;rw[kS (fun _ _=>ng) c,wR d]) h (.inl rfl)
noncomputable abbrev Cbs:Ctx:=zR prog [(69,zh false [] (FFS fun x s=>int (yD x.1 s)))]
theorem U9(l:List (za×qa))(s:za)(v:l.length<=zu):zq Cbs f68 [.sl 6 (l.map yk),str s,.fn (.func 69) [] []]=some (.wG [int (Qd l s).1,qS (Qd l s).2]):=by
 refine zm rfl ?_;unfold zu at v;simp;refine Wu (fun st=>st.U 0=.sl 6 (l.map yk)/\st.U 1=str s/\st.U 2=.fn (.func 69) [] []/\st.U 8=int l.length/\∃lo hi:Nat,lo<=hi/\hi<=l.length/\st.U 9=int lo/\st.U 10=int hi/\Zk (JE l s) 0 l.length=Zk (JE l s) lo hi)
  (fun st=>(Vm (st.U 10)).toNat-(Vm (st.U 9)).toNat) ⟨by simp,by simp,by simp,by simp,0,l.length,by simp,by simp,by simp,by simp,rfl⟩ ?_
 rintro⟨U,Y,Z⟩ ⟨h,i,j,k,lo,hi,w,r,n,d,f⟩;simp only at h i j k n d;by_cases b:lo<hi
 ·have a:=fun x Y Z=>DF (fun x s=>int (yD x.1 s)) x s Y Z
  have u:=wz ((lo:Int)+hi);have y:(lo+hi)/2<l.length:=by omega
  obtain⟨m,z⟩:∃m,m=(lo+hi)/2:=⟨_,rfl⟩;have g:i6.wrap ((IntKind.u64.wrap ((lo:Int)+hi)).fdiv (2 ^ min 1 IntKind.u64.bits))=(m:Int):=by
   have A:IntKind.u64.wrap ((lo:Int)+hi)=(lo:Int)+hi:=by rw[IntKind.wrap_u64];omega
   have B:(2 ^ min 1 IntKind.u64.bits:Int)=2:=by decide
   rw[A,B,Eo _ (by omega),wu (by omega) (by omega)];omega
  have e:m<l.length:=by omega
  have C:=qG m;have t:JE l s m=decide (yD l[m].1 s<0):=by simp[JE,e]
  rw[XU (lo:=lo) b,<-z,t]at f;have c:=a l[m];simp only[yk]at c;by_cases q:yD l[m].1 s<0
  ·simp only[q,decide_true,qH]at f;simp[h,i,j,k,n,d,b,u,g,e,c,q,C];exact⟨⟨m+1,hi,by omega,r,by omega,rfl,f⟩,by omega⟩
  ·simp only[q,decide_false,zF,qR]at f;simp[h,i,j,k,n,d,b,u,g,e,c,q];exact⟨⟨lo,m,by omega,by omega,rfl,rfl,f⟩,by omega⟩
 ·have f:Zk (JE l s) 0 l.length=lo:=by rw[f,dd (lo:=lo) b]
  have a:=fun x Y Z=>DF (fun x s=>int (yD x.1 s)) x s Y Z
  unfold Qd;rw[f];by_cases o:lo<l.length
  ·have c:=a l[lo];simp only[yk]at c;simp[h,i,j,k,n,d,b,o,c,f68,wa]
  ·have p:l[lo]?=none:=wT (by omega);simp[h,i,j,k,n,d,b,o,p,f68,wa]
theorem RB:zg prog 68 (zh false [] (FBsA 69)):=
 xy (qw (q:=[69]) mixed ⟨pY,fun _=>zt _ _,trivial⟩:AM.Good Cbs _) func68 false [] fun⟨l,s⟩ a=>⟨zw (zf 3) (by decide),_,U9 l s a,qb _⟩
def ee:qa:=.mk 0 0 [] [] []
def dK(s:za):qa:=.mk 3 0 s [] []
def MN:za:=[107,101,121]
noncomputable def qY.find (x:qY) (s:za):qa×Bool:=
 if s==MN then(dK x.key,true)else match x.attrs[(Qd x.attrs s).1]? with
  |some a=>if(Qd x.attrs s).2 then(a.2,true)else(ee,false)
  |none=>(ee,false)
noncomputable def FXS (out:qY->za->O) (pre:qY->za->Prop):zb->Option O:=ql (α:=qY×za) (fun a=>[.agg a.1.V,str a.2]) (fun a=>a.1.cb<=zu/\a.2.length<=zu/\pre a.1 a.2) (fun a=>out a.1 a.2)
theorem DG(out:qY->za->O)(pre:qY->za->Prop)(x:qY)(s:za)(Y:Hp)(Z:Nat)(h:x.cb<=zu/\s.length<=zu/\pre x s):zh false [] (FXS out pre) [.agg x.V,str s] Y Z=some (out x s,Y,Z):=
 yA (Y1:=Y) (show zD Y [.agg x.V,str s]=some ([.agg x.V,str s],Y) by simp only[zD,gG];simp)
  (qF (V:=fun a:qY×za=>[O.agg a.1.V,str a.2]) (a:=(x,s)) (fun a b e=>by obtain⟨c,d⟩:=a;obtain⟨f,g⟩:=b;simp only[zk,zI,O.agg.injEq]at e;rw[J2 e.1,wR e.2]) h) (.inr (by simp only[wI,nh,K8];rfl))
theorem RC{l:List (za×qa)}{s:za}(h:(Qd l s).2=true):(Qd l s).1<l.length:=by
 unfold Qd at h⊢;simp only at h⊢;split at h
 ·rename_i x a;exact(zi.1 a).1
 ·cases h
def QB(r:qa×Bool):O:=.wG [.agg r.1.V,qS r.2]
noncomputable abbrev Cxa:Ctx:=zR prog [(68,zh false [] (FBsA 69))]
theorem lq(k n:Int)(s:za):qX (.agg [int k,int n,str s,.nil,.nil]) (.agg (qa.mk k n s [] []).V):=by rw[xu];exact jT.agg (.cons (.refl _) (.cons (.refl _) (.cons (.refl _) (.cons (.oT (.inl ⟨rfl,rfl⟩)) (.cons (.oT (.inl ⟨rfl,rfl⟩)) .nil)))))
theorem DH(x:qY)(s:za)(h:x.cb<=zu):∃i,zq Cxa f33 [.agg x.V,str s]=some i/\qX i (QB (x.find s)):=by
 have j:=V7 x;have k:=jt x.attrs;have b:=fun Y Z=>MM 69 x.attrs s Y Z (by omega)
 refine Ym rfl ?_;have f:(s==MN)=false->(Qd x.attrs s).2=false->x.find s=(ee,false):=fun l m=>by unfold qY.find;rw[l,m];simp only[zF,qR];split<;>rfl
 cases c:(s==MN)
 ·have a:(s==[107,101,121])=false:=c;cases d:(Qd x.attrs s).2
  ·rw[f c d];simp[qY.V,a,b,d,z8,qB,f33];refine⟨.wG [.agg [int 0,int 0,str [],.nil,.nil],qS false],by simp,?_⟩;exact jT.wG (.cons (lq 0 0 []) (.cons (.refl _) .nil))
  ·have e:=RC d;have g:x.find s=(x.attrs[(Qd x.attrs s).1].2,true):=by unfold qY.find;rw[c,d];simp[e]
   rw[g];simp[qY.V,a,b,d,e,f33];refine⟨QB (x.attrs[(Qd x.attrs s).1].2,true),by simp[QB],.refl _⟩
 ·have a:(s==[107,101,121])=true:=c;have g:x.find s=(dK x.key,true):=by unfold qY.find;rw[c];rfl
  rw[g];simp[qY.V,a,z8,qB,f33];refine⟨.wG [.agg [int 3,int 0,str x.key,.nil,.nil],qS true],by simp,?_⟩;exact jT.wG (.cons (lq 3 0 x.key) (.cons (.refl _) .nil))
theorem Aq:zg prog 33 (zh false [] (FXS (fun x s=>QB (x.find s)) fun _ _=>True)):=
 Qq (fn:=f33) (zU mixed ⟨RB,trivial⟩:AM.Good Cxa _) (qD func33) false [] _ fun args r h w S vs a=>by obtain⟨⟨x,s⟩,rfl,b,rfl⟩:=zN h;obtain⟨c,d,e⟩:=DH x s b.1;exact⟨_,c,a,zw (zf 2) (by decide),d,e⟩
def QR(s:za):List (za×qa)->qa×Bool
 |[]=>(ee,false)
 |a::l=>if a.1==s then(a.2,true)else QR s l
def qY.QS(x:qY)(s:za):qa×Bool:=if s==MN then(dK x.key,true)else QR s x.attrs
theorem GW{l:List (za×qa)}{k:Nat}(h:k<l.length)(s:za):QR s (l.drop k)=if l[k].1==s then(l[k].2,true)else QR s (l.drop (k+1)):=by rw[ze h,QR]
theorem Ar(x:qY)(s:za)(h:x.cb<=zu):∃o,zq C0 f83 [.agg x.V,str s]=some o/\qX o (QB (x.QS s)):=by
 have p:=V7 x;have q:=jt x.attrs;unfold zu at h;refine Ym rfl ?_;unfold qY.QS;cases i:(s==MN)
 ·have a:(s==[107,101,121])=false:=i;simp[qY.V,a];refine zP (fun k U Y Z=>U 1=str s/\U 2=.ref 0 0 0/\U 4=.ref 1 0 0/\U 14=.sl 6 (x.attrs.map yk)/\U 15=int x.attrs.length/\U 16=int k/\2<=Z/\Y 1=some ⟨57,5,false,[[int 0,int 0,str [],.nil,.nil]]⟩/\QR s x.attrs=QR s (x.attrs.drop k)) x.attrs.length
   ⟨by simp,by simp,by simp,by simp,by simp,by simp,by simp,by simp[z8,qB],by simp⟩ ?_
  rintro k U Y Z i ⟨j,l,m,b,c,e,r,n,f⟩;have n1:¬1=Z:=by omega
  by_cases g:k<x.attrs.length
  ·have t:=qG k;rw[GW g]at f;cases d:(x.attrs[k].1==s)
   ·simp only[d,zF,qR]at f;simp[j,l,m,b,c,e,g,d,t]
    and_intros<;>first|omega|exact f|simp[n1,n]
   ·simp only[d,qH]at f;rw[f];simp[j,l,m,b,c,e,g,d,n1,n,f83];exact⟨QB (x.attrs[k].2,true),by simp[QB],.refl _⟩
  ·obtain rfl:k=x.attrs.length:=by omega
   rw[zn]at f;rw[f];simp[j,l,m,b,c,e,QR,n,z8,qB,f83];refine⟨.wG [.agg [int 0,int 0,str [],.nil,.nil],qS false],by simp,?_⟩;exact jT.wG (.cons (lq 0 0 []) (.cons (.refl _) .nil))
 ·have a:(s==[107,101,121])=true:=i;simp[qY.V,a,z8,qB,f83];refine⟨.wG [.agg [int 3,int 0,str x.key,.nil,.nil],qS true],by simp,?_⟩;exact jT.wG (.cons (lq 3 0 x.key) (.cons (.refl _) .nil))
theorem pZ:zg prog 83 (zh false [] (FXS (fun x s=>QB (x.QS s)) fun _ _=>True)):=
 Qq (fn:=f83) (qw (q:=[]) mixed trivial:AM.Good C0 _) (qD func83) false [] _ fun args r h w S vs a=>by obtain⟨⟨x,s⟩,rfl,b,rfl⟩:=zN h;obtain⟨c,d,e⟩:=Ar x s b.1;exact⟨_,c,a,zw (zf 2) (by decide),d,e⟩
inductive Yf:qe->Prop
 |mk {k o:Int} {a p n:List UInt8} {v:List qa} {l:List qe}:1<=k->k<=5->(k=3->l.length=1)->(k=4->y7 o=true->0<v.length)->(∀x∈l,Yf x)->Yf (.mk k a o v p n l)
theorem Yf.kind{c:qe}(h:Yf c):1<=c.kind/\c.kind<=5:=by cases h;exact⟨by assumption,by assumption⟩
theorem Yf.one{c:qe}(h:Yf c)(a:c.kind=3):c.args.length=1:=by cases h with|mk _ _ b _ _=>exact b a
theorem Yf.ord{c:qe}(h:Yf c)(a:c.kind=4)(b:y7 c.op=true):0<c.yp.length:=by cases h with|mk _ _ _ d _=>exact d a b
theorem Yf.args{c:qe}(h:Yf c):∀x∈c.args,Yf x:=by cases h with|mk _ _ _ _ a=>exact a
theorem ca:∀{l:List qe},xi l=0->∀x∈l,x.fault=0
 |[],_,x,a=>by cases a
 |c::l,h,x,a=>by
  rw[xi]at h;split at h
  ·rename_i b;rcases zv.1 a with rfl|a
   ·exact b
   ·exact ca h x a
  ·rename_i b;exact absurd h b
theorem GX(c:qe):c.fault=0->Yf c:=by
 induction c using qe.ind with
 |h k a o v p n l m=>
  intro e;rw[XT]at e;split at e
  case isFalse d=>exact absurd e d
  rename_i d;have b:=ca e;unfold va at d;split at d
  ·omega
  rename_i g;split at d
  ·omega
  rename_i i;simp only[aV,LP,qe.kind,qe.op,qp,not_or,yI,Bool.not_eq_false]at g;simp only[Zo,w6F,w7F,qe.kind,qe.op,qe.yp,qe.args,qp,not_or]at i;obtain⟨⟨⟨_,_⟩,q⟩,r⟩:=i;have f:=g.1;simp only[kI,zz,zT]at f;refine .mk f.1 f.2 (fun s=>?_) (fun t u=>?_) fun x j=>m x j (b x j)
  ·refine yC fun w=>q ?_
   rw[s];simp only[Sk,jK,zh2,ne_eq];omega
  ·refine yC fun w=>r ?_
   rw[t,u];simp only[Sk,jK,zh2,ne_eq];omega
theorem KZ{c:qe}(h:c.check=0):Yf c:=by
 unfold qe.check at h;split at h
 ·omega
 ·exact GX c h
def ra(M:List (Nat×Bool)):List zb:=M.map fun p=>[int p.1,qS p.2]
def oi(M:List (Nat×Bool)):kv:=⟨45,0,false,ra M⟩
def As(f:Nat->Bool)(M:List (Nat×Bool)):Prop:=∀p∈M,p.2=f p.1
theorem fO(i:Nat):∀(M:List (Nat×Bool)) (k:Nat),(kH (.int .i64 i) (ra M) k=some none)\/∃j b,kH (.int .i64 i) (ra M) k=some (some (k+j,qS b))/\M[j]?=some (i,b)
 |[],k=>.inl rfl
 |(a,b)::M,k=>by
  by_cases h:i=a
  ·subst h;exact .inr ⟨0,b,by simp[ra,kH,kF],rfl⟩
  ·have d:kF (.int .i64 (i:Int)) (.int .i64 (a:Int))=some false:=by simp only[kF,qH,z6,wN,ne_eq];omega
   have e:kH (.int .i64 i) (ra ((a,b)::M)) k=kH (.int .i64 i) (ra M) (k+1):=by simp only[ra,we,kH,d]
   rw[e];rcases fO i M (k+1)with c|⟨j,f,c,g⟩
   ·exact .inl c
   ·exact .inr ⟨j+1,f,by rw[c];simp;omega,by simpa using g⟩
@[simp]theorem zc0:VC prog 45=some (some .i64,4):=by kernel_rfl
theorem MO{Y:Hp}{m:Nat}{f:Nat->Bool}{M:List (Nat×Bool)}(c:As f M)(i:Nat)(h:Y m=some (oi M)):ZP prog Y 45 (.mp m) (int i) true=some (.wG [qS (f i),qS true])\/ZP prog Y 45 (.mp m) (int i) true=some (.wG [qS false,qS false]):=by
 rcases fO i M 0 with a|⟨j,b,a,d⟩
 ·exact .inr (by simp[ZP,lB,h,oi,Y4,a])
 ·have:=c _ (zG d);simp only at this;exact .inl (by simp[ZP,lB,h,oi,Y4,a,this])
theorem oj{Y:Hp}{m:Nat}{f:Nat->Bool}{M:List (Nat×Bool)}(c:As f M)(i:Nat)(h:Y m=some (oi M)):∃d,xb prog Y 45 (.mp m) (int i) (qS (f i))=some (qv Y m (some (oi d)))/\As f d:=by
 rcases fO i M 0 with a|⟨j,b,a,e⟩
 ·refine⟨M++[(i,f i)],by simp[xb,h,oi,Y4,a];simp[ra],fun p Y=>?_⟩;rcases zM.1 Y with Y|Y
  ·exact c p Y
  ·simp at Y;rw[Y]
 ·refine⟨M.set j (i,f i),by simp[xb,h,oi,Y4,a];simp[ra,zaE],fun p Y=>?_⟩;rcases vH Y with Y|rfl
  ·exact c p Y
  ·rfl
def DI(l:List qd)(x:qY)(m:Nat):kv:=⟨62,4,false,[[.sl 10 (l.map qd.V),str x.key,.sl 6 (x.attrs.map yk),.mp m]]⟩
noncomputable abbrev askS:AM.Spec:=yr C0 f13
theorem MP:zg prog 13 askS:=ky jG func13
theorem zaa(l:List qd)(x:qY)(Y:Hp)(Z:Nat):askS [.sl 10 (l.map qd.V),.agg x.V] Y Z=some (.ref (Z+2) 0 0,qv (qv (qv Y Z (some ⟨29,2,false,[x.V]⟩)) (Z+1) (some (oi []))) (Z+2) (some (DI l x (Z+1))),Z+3):=by unfold askS yr;rw[zd (by simp[f13])];refine y0 rfl ?_;simp[qY.V,z8,qB,DI,oi,ra,f13]
noncomputable def hd1S (sp:AM.Spec):AM.Spec:=yr (zR prog [(14,sp)]) f30
noncomputable abbrev TAh (sp:AM.Spec):Qg:=[(30,hd1S sp),(14,sp)]
noncomputable abbrev Chd (mem sp:AM.Spec):Ctx:=WU prog [(29,Ik (TAh sp)),(14,sp),(31,zh false [] gJ),(32,mem),(33,zh false [] (FXS (fun x s=>QB (x.find s)) fun _ _=>True)),(34,zh false [] FPs)] 11 [1000004] []
noncomputable def Vt (mem:AM.Spec):Nat->AM.Spec
 | 0=>fun _ _ _=>none
 |k+1=>yr (Chd mem (Vt mem k)) f14
noncomputable abbrev Cmb (sp:AM.Spec):Ctx:=zR prog [(67,zh false [] (FKs hkP)),(14,sp)]
noncomputable def DJ:Nat->AM.Spec
 | 0=>fun _ _ _=>none
 |n+1=>yr (Cmb (Vt (DJ n) zu)) f32
theorem MQ{sp:AM.Spec}(h:zg prog 14 sp):zg prog 30 (hd1S sp):=
 ky (qw (q:=[]) (l:=[(14,sp)]) mixed ⟨h,by simp,trivial⟩) func30
theorem om{mem:AM.Spec}(h:zg prog 32 mem)(k:Nat):zg prog 14 (Vt mem k):=by
 induction k with
 |zero=>exact Z4 ⟨_,func14,by kernel_rfl,by kernel_rfl⟩
 |succ k a=>exact ky (C:=Chd mem (Vt mem k)) (mq (q:=[31,33]) mixed ⟨GR ⟨MQ a,by simp,a,by simp,trivial⟩,by simp,a,by simp,KN,fun _=>zt _ _,h,by simp,Aq,fun _=>zt _ _,Am,by simp,trivial⟩ (by simp[eG])) func14
theorem MR(n:Nat):zg prog 32 (DJ n):=by
 induction n with
 |zero=>exact Z4 ⟨_,func32,by kernel_rfl,by kernel_rfl⟩
 |succ n a=>exact ky (C:=Cmb (Vt (DJ n) zu)) (qw (q:=[67]) mixed ⟨dh,fun _=>zt _ _,om a zu,by simp,trivial⟩) func32
end Go.Q
namespace Go.AM
variable{dr:Prop}
def hFz(U:AM.Spec):AM.Spec:=fun args Y Z=>(zD Y args).bind fun p=>U p.1 p.2 Z
theorem MS{P:Program}{f:FuncId}{U:AM.Spec}(h:kq dr P f U):kq dr P f (hFz U):=by
 refine⟨h.1,fun args Y Z r b c e w S G vs hi d=>?_⟩;unfold hFz at e;obtain⟨⟨ys,g⟩,hd,e⟩:=Option.bind_eq_some_iff.1 e;obtain⟨i,a,j,_⟩:=jh (dr:=dr) hi hd d;refine(h.2 ys g Z r b c e w i G vs a.inv j.closed).mono fun p w' l=>?_
 obtain⟨v,m,n,rfl,k,o⟩:=l;exact⟨v,m,n,rfl,a.trans k,o⟩
end Go.AM
namespace Go.Q
@[simp]theorem zfU(U:Nat->O):AM.get U (.const (.map none))=some (.v (.map none)):=rfl
@[simp]theorem szF:qz prog 54=some 1:=by kernel_rfl
@[simp]theorem byF:js prog 54=some 8:=by kernel_rfl
@[simp]theorem zeF:yL prog 54=some [.v .nilFunc]:=by kernel_rfl
@[simp]theorem agF:yo prog 54=some false:=by kernel_rfl
@[simp]theorem rcF(cs:zb):qP prog 54 cs=cs[0]?:=by simp[qP]
def Q7(M:List Nat):List zb:=M.map fun(i:Nat)=>[int i,qS true]
def fP(M:List Nat):kv:=⟨45,0,false,Q7 M⟩
theorem Au(i:Nat):∀(M:List Nat) (k:Nat),(i ∉ M->kH (.int .i64 i) (Q7 M) k=some none)/\(i∈M->∃j,kH (.int .i64 i) (Q7 M) k=some (some (j,qS true)))
 |[],k=>⟨fun _=>rfl,fun h=>by simp at h⟩
 |x::M,k=>by
  obtain⟨c,d⟩:=Au i M (k+1);by_cases a:i=x
  ·refine⟨fun h=>absurd (by simp[a]) h,fun _=>⟨k,?_⟩⟩;subst a;simp[Q7,kH,kF]
  ·have e:kF (.int .i64 (i:Int)) (.int .i64 (x:Int))=some false:=by simp only[kF,qH,z6,wN,ne_eq];omega
   have b:kH (.int .i64 i) (Q7 (x::M)) k=kH (.int .i64 i) (Q7 M) (k+1):=by simp only[Q7,we,kH,e]
   refine⟨fun h=>by rw[b];exact c fun f=>h (List.mem_cons_of_mem _ f),fun h=>?_⟩;rcases zv.1 h with h|h
   ·exact absurd h a
   ·rw[b];exact d h
theorem zc1{Y:Hp}{id:Nat}{M:List Nat}(i:Nat)(h:Y id=some (fP M)):ZP prog Y 45 (.mp id) (int i) false=some (qS (decide (i∈M))):=by
 obtain⟨b,c⟩:=Au i M 0;by_cases a:i∈M
 ·obtain⟨j,d⟩:=c a;simp[ZP,lB,h,fP,Y4,d,a]
 ·simp[ZP,lB,h,fP,Y4,b a,a]
theorem zfV{Y:Hp}{id:Nat}{M:List Nat}(i:Nat)(h:Y id=some (fP M))(hs:i ∉ M):xb prog Y 45 (.mp id) (int i) (qS true)=some (qv Y id (some (fP (M++[i])))):=by obtain⟨a,b⟩:=Au i M 0;simp[xb,h,fP,Y4,a hs];simp[Q7]
theorem oo{S α:Type}{f:S->α->Bool×S}(b:∀s a,(f s a).1=false):∀(l:List α) (s:S),wv f s l=(false,l.foldl (fun s a=>(f s a).2) s)
 |[],s=>rfl
 |a::l,s=>by rw[Qc (b s a),oo b l];rfl
noncomputable def DK:Nat->AM.Spec
 | 0=>fun _ _ _=>none
 |n+1=>yr (zR prog [(31,zh false [] gJ),(49,Xm 48 (DK n) zu)]) f48
theorem sV:∀n,zg prog 48 (DK n)
 | 0=>Z4 ⟨_,func48,by kernel_rfl,by kernel_rfl⟩
 |n+1=>ky (qw (q:=[]) (l:=[(31,zh false [] gJ),(49,Xm 48 (DK n) zu)]) mixed ⟨KN,by simp,YQ (sV n) zu,by simp,trivial⟩) func48
def RD(a b c:Nat):O:=.fn (.func 48) [] [.ref a 0 0,.ref b 0 0,.ref c 0 0]
structure S8 (l:List qd) (m bl bo bt:Nat) (n:Nat) (M:List Nat) (Y:Hp):Prop where
 set:Y m=some (fP M)
 segs:Y bl=some (dB l)
 out:Y bo=some ⟨45,1,false,[[.mp m]]⟩
 take:Y bt=some ⟨54,1,false,[[RD bl bo bt]]⟩
 few:Rv l.length M<n
theorem S8.qv{l:List qd}{m a c d n:Nat}{M:List Nat}{Y:Hp}(h:S8 l m a c d n M Y){j:Nat}(b:Option kv)(e:j≠m)(f:j≠a)(g:j≠c)(i:j≠d):S8 l m a c d n M (qv Y j b):=by obtain⟨k,o,p,q,r⟩:=h;exact⟨by rw[zx _ _ _ _ e.symm];exact k,by rw[zx _ _ _ _ f.symm];exact o,by rw[zx _ _ _ _ g.symm];exact p,by rw[zx _ _ _ _ i.symm];exact q,r⟩
theorem Il(l:List qd)(hl:x4 l<=zu)(hk:∀s∈l,∀n∈s.cond.names,w7 l n=true)(m f k o:Nat)(hd:m≠f/\m≠k/\m≠o):∀(n:Nat) (M:List Nat) (c:za) (Y:Hp) (Z:Nat),w7 l c=true->m<Z/\f<Z/\k<Z/\o<Z->S8 l m f k o n M Y ->
  ∃x A B,DK n [str c,.ref f 0 0,.ref k 0 0,.ref o 0 0] Y Z=some (x,A,B)/\yP (·=m) (S8 l m f k o n) (qS true) (Vy (wH l) n M (jj l c)) Y Z x A B
 | 0,_,_,_,_,_,_,h=>absurd h.few (by omega)
 |n+1,M,c,Y0,r,C,hn,t=>by
  have hr:=t;obtain⟨D,E,G,H,r5⟩:=hr;have d:=fq C;obtain⟨i,hi⟩:=jc (jj l c);have I:=fun Y Z=>KM l c Y Z (zw (vG l) hl)
  have u:(JJ (l.map qd.name) c).2=true:=C;have v:(JJ (l.map qd.name) c).1=i:=hi;rw[u,v]at I;rw[hi]at d⊢;have w:=zc1 i D;have hll:=vG l;have A4:=xe (zj d);have hmc:l[i].cb=1+l[i].name.length+QI l[i].ins+QI l[i].outs+l[i].cond.cb:=rfl;unfold zu at hl;simp[dB]at E;simp only[RD]at H;unfold DK yr;rw[zd (by simp[f48])];refine qE rfl ?_;by_cases e:i∈M
  ·have J:Vy (wH l) (n+1) M i=M:=by unfold Vy;rw[zd e]
   rw[J];simp[I,D,E,G,w,e,yP,f48];exact t
  ·have J:Vy (wH l) (n+1) M i=(wH l i).foldl (Vy (wH l) n) (M++[i]):=by conv=>lhs;unfold Vy;rw[zc e]
   have K:=zfV i D e;have hlt:=Rw (N:=l.length) d e;have q:wH l i=l[i].cond.names.map (jj l):=by unfold wH;rw[zl d]
   obtain⟨L,P,R⟩:=hd;have S:S8 l m f k o n (M++[i]) (qv Y0 m (some (fP (M++[i])))):=⟨by simp,by rw[zx _ _ _ _ L.symm];simp[dB,E],by rw[zx _ _ _ _ P.symm];exact G,by rw[zx _ _ _ _ R.symm];exact H,by omega⟩;obtain⟨x,Y2,Sr,y,rfl,p,W,X⟩:=Xn (U:=List Nat) (T:=(·=m)) (Rep:=S8 l m f k o n) (step:=fun M c=>(false,Vy (wH l) n M (jj l c))) (Q:=fun c=>w7 l c=true) (g:=48) (sp:=DK n) (cap:=[.ref f 0 0,.ref k 0 0,.ref o 0 0]) (Z0:=r)
    (by decide) (fun j F=>by rw[F];exact hn.1) (fun s Y j b F h=>h.qv b (by omega) (by omega) (by omega) (by omega))
    (fun M c Y Z C hnl hnx hR=>by obtain⟨x,A,B,y,rfl,p,W,X⟩:=Il l (by unfold zu;omega) hk m f k o ⟨L,P,R⟩ n M c Y Z C (by omega) hR;exact⟨_,A,B,y,rfl,p,W,X⟩)
    zu l[i].cond (M++[i]) _ r (by unfold zu;omega) (by unfold zu;omega) (fun a ha=>hk _ (zj d) a ha) (zf _) S
   rw[oo (fun _ _=>rfl)]at y p;have hfl:(l[i].cond.names.foldl (fun M c=>Vy (wH l) n M (jj l c)) (M++[i]))=(wH l i).foldl (Vy (wH l) n) (M++[i]):=by rw[q,List.foldl_map]
   simp only[hfl]at y p;rw[J];have q5:=p.few;simp[I,D,E,G,H,w,e,K,L.symm,P.symm,R.symm,d,yP,y,f48];exact⟨⟨p.set,p.segs,p.out,p.take,by omega⟩,W,fun j F z=>by rw[X j F z,zx _ _ _ _ z]⟩
noncomputable abbrev Cnmd:Ctx:=zR prog [(49,Xm 48 (DK 2097153) zu)]
noncomputable def DL:AM.Spec:=yr Cnmd f20
theorem fQ:zg prog 20 (hFz DL):=
 MS (ky (zU mixed ⟨YQ (sV 2097153) zu,trivial⟩:AM.Good Cnmd _) func20)
theorem zab(l:List qd)(c:qe)(N:x4 l<=zu)(P:c.cb<=zu)(R:∀s∈l,∀n∈s.cond.names,w7 l n=true)(S:∀n∈c.names,w7 l n=true)(i:Hp)(a:Nat) :
  ∃id d f,DL [.sl 10 (l.map qd.V),.sl 7 [c.V]] i a=some (.mp id,d,f)/\a<=id/\id<f/\d id=some (fP (KW l c.names))/\∀j,j<a->d j=i j:=by
 have W:=vG l;unfold zu at N P;have A:Rv l.length []<2097153:=by have:Rv l.length []<=(List.range l.length).length:=List.countP_le_length;rw[List.length_range]at this;omega
 suffices X:∃x d f,DL [.sl 10 (l.map qd.V),.sl 7 [c.V]] i a=some (x,d,f)/\∃id,x=.mp id/\a<=id/\id<f/\d id=some (fP (KW l c.names))/\∀j,j<a->d j=i j by obtain⟨x,d,f,h1,id,rfl,h2⟩:=X;exact⟨id,d,f,h1,h2⟩
 unfold DL yr;rw[zd (by simp[f20])];refine qE rfl ?_;have m:∀Y,Y=qv (qv (qv (qv i a (some (dB l))) (a+1) (some ⟨45,0,false,[]⟩)) (a+2) (some ⟨45,1,false,[[.mp (a+1)]]⟩)) (a+3) (some ⟨54,1,false,[[RD a (a+2) (a+3)]]⟩)->S8 l (a+1) a (a+2) (a+3) 2097153 [] Y/\∀j,j<a->Y j=i j:=fun Y e=>by
  subst e;refine⟨⟨?_,?_,?_,by simp,A⟩,fun j z=>?_⟩
  ·rw[zx _ _ _ _ (by omega),zx _ _ _ _ (by omega)];simp[fP,Q7]
  ·rw[zx _ _ _ _ (by omega),zx _ _ _ _ (by omega),zx _ _ _ _ (by omega)];simp
  ·rw[zx _ _ _ _ (by omega)];simp
  ·rw[zx _ _ _ _ (by omega),zx _ _ _ _ (by omega),zx _ _ _ _ (by omega),zx _ _ _ _ (by omega)]
 simp only[dB,RD]at m;simp;obtain⟨r,t⟩:=m _ rfl;refine zP (fun k U Y Z=>U 5=.ref (a+2) 0 0/\U 6=.ref (a+3) 0 0/\U 11=.sl 7 [c.V]/\U 12=int 1/\U 13=int k/\a+4<=Z/\(∀j,j<a->Y j=i j)/\S8 l (a+1) a (a+2) (a+3) 2097153 (if k=0 then[]else KW l c.names) Y) 1 ⟨by simp,by simp,by simp,by simp,by simp,by simp,by simpa using t,by simpa using r⟩ ?_;clear m r t;rintro k U Y Z hk1 ⟨H,I,u,v,w,B,J,p⟩;by_cases C:k=0
 ·subst C;rw[zd rfl]at p;have D:=p.qv (j:=Z) (some ⟨26,7,false,[c.V]⟩) (by omega) (by omega) (by omega) (by omega);obtain⟨x,Y2,Sr,q,rfl,y,K,E⟩:=Xn (U:=List Nat) (T:=(·=a+1)) (Rep:=S8 l (a+1) a (a+2) (a+3) 2097153) (step:=fun M o=>(false,Vy (wH l) 2097153 M (jj l o))) (Q:=fun o=>w7 l o=true) (g:=48) (sp:=DK 2097153) (cap:=[.ref a 0 0,.ref (a+2) 0 0,.ref (a+3) 0 0]) (Z0:=a+4)
   (by decide) (fun j z=>by omega) (fun s Y j b z h=>h.qv b (by omega) (by omega) (by omega) (by omega))
   (fun M o Y Z hq hnl B hR=>by obtain⟨x,d,f,q,rfl,y,K,E⟩:=Il l (by unfold zu;omega) R (a+1) a (a+2) (a+3) ⟨by omega,by omega,by omega⟩ 2097153 M o Y Z hq (by omega) hR;exact⟨_,d,f,q,rfl,y,K,E⟩)
   zu c [] _ (Z+1) (by unfold zu;omega) (by unfold zu;omega) S (by omega) D
  rw[oo (fun _ _=>rfl)]at q y;have F:c.names.foldl (fun M o=>Vy (wH l) 2097153 M (jj l o)) []=KW l c.names:=by unfold KW;rw[List.foldl_map]
  simp only[F]at q y;have L:=p.take;simp only[RD]at L;have G:¬a+3=Z:=by omega
  simp[wi]at q;simp[H,I,u,v,w,L,G,wi,q];exact⟨by omega,fun j z=>by rw[E j (by omega) (by omega),zx _ _ _ _ (by omega)];exact J j z,y⟩
 ·obtain rfl:k=1:=by omega
  rw[zc (by omega)]at p;have ho:=p.out;simp[H,I,u,v,w,ho,f20];exact⟨by omega,p.set,J⟩
noncomputable def DM (x:qY) (c:qe):Bool:=(x.find c.attr).2&&Yc c (x.find c.attr).1
noncomputable def hF (l:List qd) (x:qY) (c:qe):Bool:=zfK l x.key (DM x) c
noncomputable def mF (l:List qd) (x:qY) (i:Nat):Bool:=LR l x.key (DM x) i
theorem zbr(l:List qd)(x:qY)(c:qe):hF l x c=if c.kind=1 then c.args.all (hF l x)else if c.kind=2 then c.args.any (hF l x)else if c.kind=3 then !(hdC (hF l x) c.args)else if c.kind=5 then mF l x (jj l c.name)else DM x c:=nv _ _ c
def iS(l:List qd)(x:qY)(ida m:Nat)(_:Unit)(Y:Hp):Prop:=Y ida=some (DI l x m)/\∃M,Y m=some (oi M)/\As (mF l x) M
theorem iS.qv{l:List qd}{x:qY}{ida m:Nat}{u:Unit}{Y:Hp}(h:iS l x ida m u Y){j:Nat}(b:Option kv)(a:ida≠j)(c:m≠j):iS l x ida m u (qv Y j b):=by obtain⟨d,M,e,f⟩:=h;exact⟨by rw[zx _ _ _ _ a];exact d,M,by rw[zx _ _ _ _ c];exact e,f⟩
def K0(ida:Nat):kv:=⟨40,1,false,[[.ref ida 0 0]]⟩
theorem zac(x:qY)(s:za)(d:x.cb+2<=zu):(x.find s).1.vb<=zu:=by
 have b:=V7 x;unfold qY.find;split
 ·rw[xz];simp[dK,qa.s,qa.items,qa.fields,Kd,ak];omega
 ·split
  ·rename_i a c;have:=vC (zG c);split
   ·simp only;omega
   ·rw[xz];simp[ee,qa.s,qa.items,qa.fields,Kd,ak,zu]
  ·rw[xz];simp[ee,qa.s,qa.items,qa.fields,Kd,ak,zu]
theorem Xw{mem:AM.Spec}{l:List qd}{x:qY}{ida m Z0:Nat}{I:Nat->Prop}(L:ida≠m)(hid:ida<Z0)(hm:m<Z0)(hl:l.length<=zu)(hx:x.cb+2<=zu)
  (p:∀i Y Z,I i->Z0<=Z->iS l x ida m () Y->∃r q z,mem [.ref ida 0 0,int i] Y Z=some (r,q,z)/\yP (·=m) (iS l x ida m) (qS (mF l x i)) () Y Z r q z) :
  ∀(k:Nat) (c:qe) (Y:Hp) (Z:Nat),c.cb<=k->c.cb<=zu->Yf c->(∀n∈c.names,I (jj l n))->Z0<=Z->iS l x ida m () Y ->
   ∃r q z,Vt mem k [.ref ida 0 0,.agg c.V] Y Z=some (r,q,z)/\yP (·=m) (iS l x ida m) (qS (hF l x c)) () Y Z r q z
 | 0,c,_,_,h,_,_,_,_,_=>absurd h (by have:=Kx c;omega)
 |k+1,c,N,a,hk,hcl,hg,hI,hn1,hR=>by
  have A4:=Zm c;have hal:=jf c.args;have P:=xV c;have b:=zbr l x c;have hlim:zu=2097152:=rfl;have am:∀y∈c.args,y.cb<=k/\y.cb<=zu/\Yf y/\∀n∈y.names,I (jj l n):=fun y A=>by have:=kj A;exact⟨by omega,by omega,hg.args y A,fun n hn=>hI n (by rw[P];exact zM.2 (.inr (YW.2 ⟨y,A,hn⟩)))⟩
  have v:iS l x ida m () (qv (qv N a (some (K0 ida))) (a+1) (some (Yq c))):=(hR.qv _ (by omega) (by omega)).qv _ (by omega) (by omega);have E:∀{q:Hp},(∀j,j<a+2->¬j=m->q j=qv (qv N a (some (K0 ida))) (a+1) (some (Yq c)) j)->∀j,j<a->¬j=m->q j=N j:=fun f j hj B=>by rw[f j (by omega) B,zx _ _ _ _ (by omega),zx _ _ _ _ (by omega)]
  unfold Vt yr;rw[zd (by simp[f14])];refine qE rfl ?_;refine jI (fun U Y Z=>U 2=.ref a 0 0/\U 3=.ref (a+1) 0 0/\U 4=qS false/\U 1000004=.wG []/\Y=qv (qv N a (some (K0 ida))) (a+1) (some (Yq c))/\Z=a+2) (by simp[K0,Yq]) ?_;rintro U Y Z ⟨F,G,h4,Q,rfl,rfl⟩;have ma:¬a=a+1:=by omega
  by_cases k1:c.kind=1
  ·rw[zd k1]at b;obtain⟨r,q,z,d,rfl,⟨H,_⟩,n2,C⟩:=DD (U:=Unit) (T:=(·=m)) (Rep:=fun u Y=>iS l x ida m u Y/\Y a=some (K0 ida)) (step:=fun _ y=>(!hF l x y,())) (Ta:=TAh (Vt mem k)) (g:=30) (sp:=hd1S (Vt mem k)) (fi:=[]) (cap:=[.ref a 0 0]) (Z0:=a+2) (by simp) c.args (by omega)
    (fun _ y Y Z A hn ⟨D,R⟩=>by
     obtain⟨S,W,X,a4⟩:=am y A;obtain⟨r,q,z,d,rfl,H,n2,C⟩:=Xw L hid hm hl hx p k y (qv Y Z (some (Yq y))) (Z+1) S W X a4 (by omega) (D.qv _ (by omega) (by omega));refine⟨_,q,z,?_,rfl,⟨H,by rw[C a (by omega) (by omega),zx _ _ _ _ (by omega)];exact R⟩,by omega,fun j hj B=>by rw[C j (by omega) B,zx _ _ _ _ (by omega)]⟩;unfold hd1S yr;rw[zd (by simp[f30])];refine y0 rfl ?_;have n1:¬a=Z:=by omega
     simp only[K0]at R;simp only[Yq]at d;simp[R,n1,d,f30]) () _ (a+2) (zf _) ⟨v,by rw[zx _ _ _ _ ma];simp⟩
   rw[sN]at d;have M:=E C;simp only[K0,Yq]at d;simp[F,G,K0,Yq,k1,d,b,yP,f14];exact⟨H,by omega,M⟩
  have k1':=wU k1;rw[zc k1]at b;by_cases k2:c.kind=2
  ·rw[zd k2]at b;obtain⟨r,q,z,d,rfl,H,n2,C⟩:=DD (U:=Unit) (T:=(·=m)) (Rep:=iS l x ida m) (step:=fun _ y=>(hF l x y,())) (Ta:=TAh (Vt mem k)) (g:=14) (sp:=Vt mem k) (fi:=[.ref ida 0 0]) (cap:=[]) (Z0:=Z0) (by simp) c.args (by omega)
    (fun _ y Y Z A hn D=>by obtain⟨S,W,X,a4⟩:=am y A;exact Xw L hid hm hl hx p k y Y Z S W X a4 hn D) () _ (a+2) (by omega) v
   rw[X4]at d;have M:=E C;simp only[K0,Yq]at d;simp[F,G,K0,Yq,k2,d,b,yP,f14];exact⟨H,by omega,M⟩
  have k2':=wU k2;rw[zc k2]at b;by_cases k3:c.kind=3
  ·rw[zd k3]at b;obtain⟨y,A⟩:∃y,c.args=[y]:=by
    have:=hg.one k3
    match h:c.args,this with
    |[y],_=>exact⟨y,rfl⟩
   obtain⟨S,W,X,a4⟩:=am y (by rw[A];simp);obtain⟨r,q,z,d,rfl,H,n2,C⟩:=Xw L hid hm hl hx p k y _ (a+2) S W X a4 (by omega) v;have M:=E C;rw[A]at b;simp only[hdC]at b;simp only[K0,Yq]at d;simp[F,G,K0,Yq,k3,A,d,b,yP,f14];exact⟨H,by omega,M⟩
  have k3':=wU k3;rw[zc k3]at b;by_cases k5:c.kind=5
  ·rw[zd k5]at b;have hIn:=hI c.name (by rw[P,zd k5];simp);obtain⟨r,q,z,d,rfl,H,n2,C⟩:=p (jj l c.name) _ (a+2) hIn (by omega) v;have M:=E C;have D:=fun Y Z=>KM l c.name Y Z hl
   have w:=hR.1;have J:¬ida=a:=by omega
   have K:¬ida=a+1:=by omega
   simp only[DI]at w;simp only[K0,Yq,jj]at d;simp[F,G,K0,Yq,k5,w,J,K,D,d,b,yP,jj,f14];exact⟨H,by omega,M⟩
  have k5':=wU k5;rw[zc k5]at b;have hkk:=hg.kind;have k4:c.kind=4:=by omega
  have D:∀Y Z,zh false [] (FXS (fun x s=>QB (x.find s)) fun _ _=>True) [.agg [str x.key,.sl 6 (x.attrs.map yk)],str c.attr] Y Z=some (.wG [.agg (x.find c.attr).1.V,qS (x.find c.attr).2],Y,Z):=fun Y Z=>DG (fun x s=>QB (x.find s)) (fun _ _=>True) x c.attr Y Z ⟨by omega,by omega,trivial⟩
  have R:=fun Y Z=>Rq c (x.find c.attr).1 Y Z hcl (zac x c.attr hx) (hg.ord k4)
  have w:=hR.1;have J:¬ida=a:=by omega
  have K:¬ida=a+1:=by omega
  simp only[DI]at w;rw[b];unfold DM;refine jI (fun U Y Z=>U 2=.ref a 0 0/\U 3=.ref (a+1) 0 0/\U 4=qS false/\U 1000004=.wG []/\Y=qv (qv N a (some (K0 ida))) (a+1) (some (Yq c))/\Z=a+2) (by simp[F,G,h4,Q,K0,Yq,k1',k2',k3',k5']) ?_;clear F G h4 Q U;rintro U Y Z ⟨F,G,h4,Q,rfl,rfl⟩;have hrf:Z6 [1000004] ⟨U,qv (qv N a (some (K0 ida))) (a+1) (some (Yq c)),a+2⟩:=fun t ht=>by
   have:t=1000004:=by simpa using ht
   subst this;refine⟨⟨fun id o n e=>?_,fun id i j e=>?_⟩,fun _=>?_⟩
   ·have e:U 1000004=.own id o n:=e;rw[Q]at e;cases e
   ·have e:U 1000004=.ref id i j:=e;rw[Q]at e;cases e
   ·show(U 4).YV=true;rw[h4];rfl
  rw[tH,Vn hrf];cases hf:(x.find c.attr).2
  ·rw[hf]at D;simp[F,G,K0,Yq,w,J,K,D,yP,f14];exact⟨v.qv _ (by omega) (by omega),by omega,fun j hj B=>by rw[zx _ _ _ _ (by omega),zx _ _ _ _ (by omega),zx _ _ _ _ (by omega)]⟩
  ·rw[hf]at D;simp[F,G,K0,Yq,w,J,K,D,R,yP,f14];exact⟨v.qv _ (by omega) (by omega),by omega,fun j hj B=>by rw[zx _ _ _ _ (by omega),zx _ _ _ _ (by omega),zx _ _ _ _ (by omega)]⟩
theorem Im{s:qd}(h:xW s=0):aq s.ins/\aq s.outs/\s.cond.check=0:=by
 unfold xW at h;split at h
 case isFalse a=>exact absurd h a
 rename_i b;split at h
 case isFalse a=>exact absurd h a
 rename_i c;split at h
 ·omega
 ·exact⟨nq b,nq c,h⟩
theorem Io{l:List qd}{x:qY}{ida m Z0:Nat}(e:ida≠m)(hid:ida<Z0)(X:m<Z0)(f:Ye l)(hl:x4 l<=zu)(hx:x.cb+2<=zu) :
  ∀(n i:Nat) (Y:Hp) (Z:Nat),i<l.length->Uc l i<n->Z0<=Z->iS l x ida m () Y->∃r L N,DJ n [.ref ida 0 0,int i] Y Z=some (r,L,N)/\yP (·=m) (iS l x ida m) (qS (mF l x i)) () Y Z r L N
 | 0,_,_,_,_,h,_,_=>absurd h (by omega)
 |n+1,i,P,c,g,hrk,hn1,J=>by
  have hle:=vG l;obtain⟨s,hs⟩:=jc (l[i]);have t:s∈l:=by rw[<-hs];exact zj g
  have hm2:=xe t;have hmc:s.cb=1+s.name.length+QI s.ins+QI s.outs+s.cond.cb:=rfl;have hxk:=V7 x;obtain⟨u1,u2,Q⟩:=Im (f.right s t).2;have B:l[i]?=some s:=by rw[zl g,hs]
  have u:mF l x i=(s.ins.contains x.key||(!s.outs.contains x.key&&hF l x s.cond)):=by show LR l x.key (DM x) i=_;rw[H0 f,Pj,B];rfl
  have hH:=Xw (mem:=DJ n) (I:=fun j=>j<l.length/\Uc l j<n) e hid X (by omega) hx (fun j Y Z C hn hr=>Io e hid X f hl hx n j Y Z C.1 C.2 hn hr) zu s.cond
   (qv P c (some (bW s))) (c+1) (by omega) (by omega) (KZ Q) (fun y hy=>⟨fq (f.known s t y hy),by
    have R:jj l y∈wH l i:=by unfold wH;rw[B];exact Wo hy
    have:=F7 f i _ R;omega⟩) (by omega) (J.qv _ (by omega) (by omega))
  obtain⟨r,L,N,e1,rfl,S,n2,f2⟩:=hH;have v:=fun Y Z=>uH s.ins x.key Y Z (by omega) (by omega)
  have D:=fun Y Z=>uH s.outs x.key Y Z (by omega) (by omega)
  rw[uI u1]at v;rw[uI u2]at D;have w:=J.1;obtain⟨M,T,z⟩:=J.2;have k:¬ida=c:=by omega
  have E:¬m=c:=by omega
  unfold DJ yr;rw[zd (by simp[f32])];refine qE rfl ?_;have o:=w;simp only[DI]at o;rcases MO z i T with p|p
  ·simp[o,p,yP,f32];exact J
  simp only[bW]at e1;cases A:s.ins.contains x.key
  ·cases K:s.outs.contains x.key
   ·have q:mF l x i=hF l x s.cond:=by rw[u,A,K];rfl
    obtain⟨M2,W,F⟩:=S.2;obtain⟨G,a,b⟩:=oj F i W;have H:=S.1;simp only[DI]at H;rw[q]at a;rw[A]at v;rw[K]at D;simp[o,p,g,hs,k,v,D,e1,H,a,q,yP,f32];exact⟨⟨by rw[zx _ _ _ _ e];exact S.1,G,by simp,b⟩,by omega,fun j C d=>by rw[zx _ _ _ _ d,f2 j (by omega) d,zx _ _ _ _ (by omega)]⟩
   ·have q:mF l x i=false:=by rw[u,A,K];rfl
    obtain⟨G,a,b⟩:=oj (Y:=qv P c (some (bW s))) z i (by rw[zx _ _ _ _ E];exact T);simp only[bW]at a;rw[q]at a;rw[A]at v;rw[K]at D;simp[o,p,g,hs,k,v,D,a,q,yP,f32];exact⟨⟨by rw[zx _ _ _ _ e,zx _ _ _ _ k];exact w,G,by simp,b⟩,fun j C d=>by rw[zx _ _ _ _ d,zx _ _ _ _ (by omega)]⟩
  ·have q:mF l x i=true:=by rw[u,A];rfl
   obtain⟨G,a,b⟩:=oj (Y:=qv P c (some (bW s))) z i (by rw[zx _ _ _ _ E];exact T);simp only[bW]at a;rw[q]at a;rw[A]at v;simp[o,p,g,hs,k,v,a,q,yP,f32];exact⟨⟨by rw[zx _ _ _ _ e,zx _ _ _ _ k];exact w,G,by simp,b⟩,fun j C d=>by rw[zx _ _ _ _ d,zx _ _ _ _ (by omega)]⟩
noncomputable abbrev zbs:Ctx:=zR prog [(136,zh false [] (F3 kI)),(223,zh false [] (FS fun l=>!wD l))]
theorem RE:AM.Good zbs (fun g=>[136].contains g):=qw mixed ⟨xr,fun _=>zt _ _,dj,by simp,trivial⟩
theorem cc(v:wy)(h:v.small):zq zbs f181 [.agg v.V]=some (int (yS v)):=by
 obtain⟨a,b,c,pre⟩:=v;obtain⟨w,n⟩:=h;simp only at w n;unfold zu at w;refine zm rfl ?_;cases m:kI a 0 999999
 ·simp[wy.V,m,yS,f181]
 cases o:kI b 0 999999
 ·simp[wy.V,m,o,yS,f181]
 cases p:kI c 0 999999
 ·simp[wy.V,m,o,p,yS,f181]
 by_cases s:10<pre.length
 ·have f:(10:Int)<pre.length:=by omega
  simp[wy.V,m,o,p,s,f,yS,f181]
 have f:¬(10:Int)<pre.length:=by omega
 have t:yS ⟨a,b,c,pre⟩=if pre.any wD then 3 else 0:=by simp[yS,m,o,p,s]
 rw[t];simp[wy.V,m,o,p,s,f];refine zP (fun k U Y Z=>U 28=.sl 1 (zy pre)/\U 29=int pre.length/\U 30=int k/\pre.any wD=(pre.drop k).any wD) pre.length ⟨by simp,by simp,by simp,by simp⟩ ?_;rintro k U Y Z z ⟨g,i,j,e⟩;by_cases d:k<pre.length
 ·have A:=qG k;have y:=JR d;rw[ze d,y9]at e;have u:=n _ (zj d);have q:=fun Y Z=>ki (fun l=>!wD l) pre[k] Y Z u
  cases r:wD pre[k]
  ·rw[r]at q;simp[g,i,j,d,y,q,A];exact⟨d,by rw[e,r];rfl⟩
  ·rw[r]at q;have e:pre.any wD=true:=by rw[e,r];rfl
   simp[g,i,j,d,y,q,e,f181];exact WN.1 e
 ·obtain rfl:k=pre.length:=by omega
  have e:pre.any wD=false:=by rw[e,zn];rfl
  simp[g,i,j,e,f181];exact fun x B=>by simpa using List.any_eq_false.1 e x B
theorem Zv:zg prog 181 (qn [.g jY] (HN fun v=>int (yS v))):=
 wO (fn:=f181) RE (qD func181) _ _ fun args r h=>by obtain⟨v,rfl,a,rfl⟩:=HO h;exact⟨zw (zf 1) (by decide),_,cc v a,qX.refl _⟩
theorem rb(c:Cut):zq C0 f232 [.agg c.V]=some (qS (ZG c)):=by
 obtain⟨⟨a,b,h,pre⟩,i⟩:=c;refine zm rfl ?_;unfold ZG;cases d:a==0
 ·simp[Cut.V,wy.V,d,f232]
 cases e:b==0
 ·simp[Cut.V,wy.V,d,e,f232]
 cases f:h==0
 ·simp[Cut.V,wy.V,d,e,f,f232]
 cases g:(pre.length:Int)==0
 ·simp[Cut.V,wy.V,d,e,f,g,f232]
 simp[Cut.V,wy.V,d,e,f,g,f232]
theorem oq:zg prog 232 (zh false [] (FCu fun c=>qS (ZG c))):=
 xy jG func232 false [] fun c _=>⟨zw (zf 1) (by decide),_,rb c,qb _⟩
noncomputable abbrev RF:Ctx:=zR prog [(181,qn [.g jY] (HN fun v=>int (yS v))),(232,zh false [] (FCu fun c=>qS (ZG c))),(233,qn [.g jm,.g jm] (um fun v w=>int (wb v w)))]
theorem RG:AM.Good RF (fun g=>[233].contains g):=qw mixed ⟨Zv,by simp,oq,by simp,xf,fun _=>yG _ _,trivial⟩
theorem GY:QZ RF (fun g=>[233].contains g) 184 f184:=qD func184
theorem fR(l:List qK)(hl:yE l):zq RF f184 [.sl 11 (zW l)]=some (int (xn l)):=by
 obtain⟨T,W⟩:=hl;unfold zu at T;have f:(zW l).length=l.length:=by simp[zW]
 have X:∀(k:Nat) (h:k<(zW l).length) (h':k<l.length),(zW l)[k]=l[k].V:=fun k h h'=>by simp[zW]
 refine zm rfl ?_;by_cases F:(100:Int)<l.length
 ·have r:xn l=2:=by unfold xn;rw[zd F]
  simp[f,F,r,f184]
 simp[f,F];refine zP (fun k U Y Z=>U 0=.sl 11 (zW l)/\U 10=.sl 11 (zW l)/\U 11=int l.length/\U 12=int k/\fH none l=fH (Yb l k) (l.drop k)) l.length ⟨by simp,by simp,by simp,by simp,by simp[Yb]⟩ ?_;rintro k U Y Z hk ⟨y,g,i,m,p⟩;by_cases b:k<l.length
 ·have hw:=qG k;obtain⟨s,hs⟩:=jc (l[k]);have z:=W s (by rw[<-hs];exact zj b);have a:k<(zW l).length:=by omega
  have n:=X k a b;rw[hs]at n;have J:Yb l (k+1)=some s:=by simp[Yb,b,hs]
  have A:=fun Y Z=>YS s.lo.v Y Z z.1
  have K:=fun Y Z=>YS s.hi.v Y Z z.2
  have L:=fun Y Z=>Db (fun c=>qS (ZG c)) s.hi Y Z z.2 rfl
  have M:=fun Y Z=>ZD s.hi s.lo Y Z z.2 z.1
  have G:=wj.le s.hi s.lo;simp only[wy.V,Cut.V]at A K L M;rw[sQ b,hs]at p;by_cases w:yS s.lo.v=0
  case neg=>
   rw[zc w]at p;have d1':=Za w;have r:xn l=yS s.lo.v:=by unfold xn;rw[zc F,p]
   simp[y,g,i,m,f,b,a,n,qK.V,Cut.V,A,d1',r,f184]
  rw[zd w]at p;by_cases C:vY s=0
  case neg=>
   rw[zc C]at p;have r:xn l=vY s:=by unfold xn;rw[zc F,p]
   cases o:s.yv
   ·by_cases d:yS s.hi.v=0
    ·by_cases x:0<=wb s.lo s.hi
     ·have e3r:=G.2 x;have hf:vY s=8:=by unfold vY;rw[o,zc (by simp),zd d,zd x]
      simp[y,g,i,m,f,b,a,n,qK.V,Cut.V,A,K,M,w,o,d,e3r,r,hf,f184]
     ·exact absurd (by unfold vY;rw[o,zc (by simp),zd d,zc x]) C
    ·have e2':=Za d;have hf:vY s=yS s.hi.v:=by unfold vY;rw[o,zc (by simp),zc d]
     simp[y,g,i,m,f,b,a,n,qK.V,Cut.V,A,K,w,o,e2',r,hf,f184]
   ·cases d:ZG s.hi
    ·have hf:vY s=3:=by unfold vY;rw[o,zd rfl,d,zc (by simp)]
     simp[y,g,i,m,f,b,a,n,qK.V,Cut.V,A,L,w,o,d,r,hf,f184]
    ·exact absurd (by unfold vY;rw[o,zd rfl,d,zd rfl]) C
  rw[zd C]at p;have D:(s.yv=true/\ZG s.hi=true)\/(s.yv=false/\yS s.hi.v=0/\¬wb s.hi s.lo<=0):=by
   unfold vY at C;cases o:s.yv
   ·rw[o,zc (by simp)]at C;by_cases d:yS s.hi.v=0
    ·rw[zd d]at C;by_cases x:0<=wb s.lo s.hi
     ·rw[zd x]at C;omega
     ·exact .inr ⟨rfl,d,fun e=>x (G.1 e)⟩
    ·rw[zc d]at C;exact absurd C d
   ·rw[o,zd rfl]at C;cases d:ZG s.hi
    ·rw[d,zc (by simp)]at C;omega
    ·exact .inl ⟨rfl,rfl⟩
  by_cases k0:k=0
  ·subst k0;have w1:=wz 1;simp only[Yb,Zu,qH,zF,qR]at p;have H:fH none l=fH (Yb l 1) l.tail:=by rw[p,J];simp
   rcases D with⟨o,d⟩|⟨o,d,x⟩
   ·simp[y,g,i,m,f,b,a,n,qK.V,Cut.V,A,L,w,o,d,w1];exact⟨by omega,H⟩
   ·simp[y,g,i,m,f,b,a,n,qK.V,Cut.V,A,K,M,w,o,d,x,w1];exact⟨by omega,H⟩
  ·obtain⟨j,rfl⟩:∃j,k=j+1:=⟨k-1,by omega⟩;have E:j<l.length:=by omega
   have t:j<(zW l).length:=by omega
   obtain⟨q,hq⟩:=jc (l[j]);have hqq:=W q (by rw[<-hq];exact zj E);have u:=X j t E;rw[hq]at u;have N:i6.wrap ((j:Int)+1-1)=(j:Int):=by rw[wu (by omega) (by omega)];omega
   have B:=wz (j:Int);have P:((j:Int)+1).toNat=j+1:=by omega
   have Q:0<(j:Int)+1:=by omega
   have R:0<=(j:Int)+1:=by omega
   have S:(j:Int)+1<l.length:=by omega
   have wk:=wz ((j:Int)+1+1);have hpj:Yb l (j+1)=some q:=by simp[Yb,E,hq]
   have g5:=fun Y Z=>ZD q.hi s.lo Y Z hqq.2 z.1
   simp only[Cut.V]at g5;rw[hpj]at p;cases I:q.yv
   ·by_cases o2:0<=wb q.hi s.lo
    ·have ho:Zu (some q) s=true:=by simp[Zu,o2]
     rw[ho,zd rfl]at p;have r:xn l=8:=by unfold xn;rw[zc F,p]
     rcases D with⟨o,d⟩|⟨o,d,x⟩
     ·simp[y,g,i,m,f,b,a,n,E,t,u,qK.V,Cut.V,A,L,g5,w,o,d,I,o2,N,B,P,Q,R,S,r,f184]
     ·simp[y,g,i,m,f,b,a,n,E,t,u,qK.V,Cut.V,A,K,M,g5,w,o,d,x,I,o2,N,B,P,Q,R,S,r,f184]
    ·have ho:Zu (some q) s=false:=by simp[Zu,I];omega
     rw[ho,zc (by simp)]at p;rcases D with⟨o,d⟩|⟨o,d,x⟩
     ·simp[y,g,i,m,f,b,a,n,E,t,u,qK.V,Cut.V,A,L,g5,w,o,d,I,o2,N,B,P,Q,R,S,wk];exact⟨by omega,by rw[p,J]⟩
     ·simp[y,g,i,m,f,b,a,n,E,t,u,qK.V,Cut.V,A,K,M,g5,w,o,d,x,I,o2,N,B,P,Q,R,S,wk];exact⟨by omega,by rw[p,J]⟩
   ·have ho:Zu (some q) s=true:=by simp[Zu,I]
    rw[ho,zd rfl]at p;have r:xn l=8:=by unfold xn;rw[zc F,p]
    rcases D with⟨o,d⟩|⟨o,d,x⟩
    ·simp[y,g,i,m,f,b,a,n,E,t,u,qK.V,Cut.V,A,L,w,o,d,I,N,B,P,Q,R,S,r,f184]
    ·simp[y,g,i,m,f,b,a,n,E,t,u,qK.V,Cut.V,A,K,M,w,o,d,x,I,N,B,P,Q,R,S,r,f184]
 ·obtain rfl:k=l.length:=by omega
  rw[zn]at p;have r:xn l=0:=by unfold xn;rw[zc F,p];rfl
  simp[y,g,i,m,r,f184]
theorem dL:zg prog 184 (zh false [] (FRs fun l=>int (xn l))):=
 wW (fn:=f184) RG GY false [] _ fun args r h=>by obtain⟨l,rfl,a,rfl⟩:=zN h;exact⟨zw (zf 1) (by decide),_,fR l a,qb _⟩
end Go.Q
namespace Go.Q
open Go.RowKit Go.AM Go.LikeLaw
def vP(n:Nat)(f:Nat->Bool):List zb:=(List.range n).map fun i=>[.v (.bool (f i))]
@[simp]theorem zad(n:Nat)(f:Nat->Bool):(vP n f).length=n:=by simp[vP]
theorem X8{n:Nat}{f:Nat->Bool}{i:Nat}(h:i<n):(vP n f)[i]?=some [.v (.bool (f i))]:=by simp[vP,h]
@[simp]theorem zc2(n:Nat)(f:Nat->Bool)(i:Nat)(h:i<(vP n f).length):(vP n f)[i]=[.v (.bool (f i))]:=by simp[vP]
theorem sW{n:Nat}{f g:Nat->Bool}{i:Nat}{b:Bool}(d:b=g i)(h:∀j,j<n->j≠i->f j=g j):(vP n f).set i [.v (.bool b)]=vP n g:=by
 apply dT;intro j;rw[List.getElem?_set];by_cases c:i=j
 ·subst c;by_cases a:i<n
  ·rw[zd rfl,zd (by simpa using a),X8 a,d]
  ·have:(vP n g)[i]?=none:=by rw[wT];simp;omega
   simp[a,this]
 ·simp only[c,qR];by_cases a:j<n
  ·rw[X8 a,X8 a,h j a (Ne.symm c)]
  ·rw[wT (by simp;omega),wT (by simp;omega)]
theorem gW{n:Nat}{f g:Nat->Bool}(h:∀j,j<n->f j=g j):vP n f=vP n g:=by unfold vP;apply x1;intro j a;rw[h j (yj.1 a)]
theorem DN(n:Nat):List.replicate n [O.v (.bool false)]=vP n fun _=>false:=by unfold vP;rw[List.map_const'];simp
noncomputable def ef (t p:za) (k i:Nat):Bool:=Jk (t.take i) (p.take k)
theorem Yr{t p:za}{k i:Nat}:ef t p k i=true↔Lk (t.take i) (p.take k):=by simp[ef,Jk]
theorem YA{l:za}{k:Nat}(h:k<l.length):l.take (k+1)=l.take k++[l[k]]:=qq h
theorem sX{t p:za}{k:Nat}(a:k<p.length)(hs:p[k]=42):ef t p (k+1) 0=ef t p k 0:=by rw[qh,Yr,Yr,YA a,hs];simp[pU]
theorem ot{t p:za}{k i:Nat}(a:k<p.length)(hi:i<t.length)(hs:p[k]=42):ef t p (k+1) (i+1)=(ef t p k (i+1)||ef t p (k+1) i):=by rw[qh,qp,Yr,Yr,Yr,YA a,hs,YA hi,oa]
theorem RH{t p:za}{k:Nat}(a:k<p.length)(hs:p[k]≠42):ef t p (k+1) 0=false:=by rw[Bool.eq_false_iff,ne_eq,Yr,YA a,Er];exact Al hs
theorem Av{t p:za}{k i:Nat}(a:k<p.length)(hi:i<t.length)(hs:p[k]≠42):ef t p (k+1) (i+1)=(ef t p k i&&(decide (p[k]=63)||decide (p[k]=t[i]))):=by rw[qh,zz,Yr,Yr,YA a,YA hi,Rk hs];simp
theorem sY(t p:za)(i:Nat)(hi:i<t.length+1):ef t p 0 i=decide (i=0):=by rw[qh,Yr];simp[tn];rintro rfl;simpa using hi
theorem Aw(t p:za)(ht:t.length<=zu)(Y:p.length<=zu):zq C0 f139 [str t,str p]=some (.v (.bool (Jk t p))):=by
 refine zm rfl ?_;unfold zu at *;have R:=wz ((t.length:Int)+1);have m1:t.length+1<=maxLen:=by unfold maxLen;omega
 have hm:∀Y Z,xM prog Y Z 188 (int ((t.length:Int)+1)) (int ((t.length:Int)+1))=some (.own Z 0 (t.length+1),qv Y Z (some ⟨4,1,true,vP (t.length+1) fun _=>false⟩),Z+1):=by
  intro Y Z;have e:((t.length:Int)+1).toNat=t.length+1:=by omega
  simp[xM,e,DN];omega
 simp[R,hm];have S:(vP (t.length+1) fun _=>false).set 0 [O.v (.bool true)]=vP (t.length+1) (ef t p 0):=sW (by rw[sY _ _ _ (by omega)];rfl) fun j T a=>by rw[sY _ _ _ T];simp[a]
 rw[S];refine zP (fun k U Y Z=>U 0=str t/\U 1=str p/\U 16=int p.length/\U 17=int k/\∃id,id<Z/\U 5=.own id 0 (t.length+1)/\Y id=some ⟨4,1,true,vP (t.length+1) (ef t p k)⟩) p.length
  ⟨by simp,by simp,by simp,by simp,0,by simp,by simp,by simp⟩ ?_
 rintro k U Y Z hk ⟨z,A,l,m,id,hid,B,s⟩;by_cases d:k<p.length
 ·simp[z,A,l,m,B,s,d,R,hm];refine zP (fun i U Y Z=>U 0=str t/\U 1=str p/\U 16=int p.length/\U 17=int k/\U 6=int k/\U 25=int ((t.length:Int)+1)/\U 26=int i/\∃id f,id<Z/\f<Z/\¬id=f/\¬f=id/\U 5=.own id 0 (t.length+1)/\Y id=some ⟨4,1,true,vP (t.length+1) (ef t p k)⟩ /\
    U 7=.own f 0 (t.length+1)/\Y f=some ⟨4,1,true,vP (t.length+1) fun j=>decide (j<i)&&ef t p (k+1) j⟩) (t.length+1)
   ⟨by simp[z],by simp[A],by simp[l],by simp[m],by simp,by simp,by simp,id,Z,by simp;omega,by simp,by omega,by omega,by simp[B],by simp[s,show¬id=Z by omega],by simp,by simp⟩ ?_
  have wk:=qG k;clear z A l m B s hid id Z Y U;rintro i U Y Z hi ⟨z,A,l,m,J,u,w,id,f,hid,g,a,c,B,s,K,n⟩;have L:=qG i;have wi1:0<i->i6.wrap ((i:Int)-1)=((i-1:Nat):Int):=fun _=>by rw[wu (by omega) (by omega)];omega
  by_cases Sn:i<t.length+1
  ·have o:(i:Int)<(t.length:Int)+1:=by omega
   have r:∀b,b=ef t p (k+1) i->(vP (t.length+1) fun j=>decide (j<i)&&ef t p (k+1) j).set i [O.v (.bool b)]=vP (t.length+1) fun j=>decide (j<i+1)&&ef t p (k+1) j:=fun b X=>sW (by simp[X]) fun j T a=>by
    have:decide (j<i)=decide (j<i+1):=by rw[decide_eq_decide];omega
    rw[this]
   have w1:=wz 1;by_cases hs:p[k]=42
   ·by_cases N:i=0
    ·subst N;cases y:ef t p k 0
     ·have x:=r false (by rw[sX d hs,y]);simp at x;simp[z,A,l,m,J,u,w,B,s,K,n,d,a,c,o,L,x,hs,y,w1];exact⟨id,hid,f,g,a,c,rfl,by simp[a,s],rfl,by simp⟩
     ·have x:=r true (by rw[sX d hs,y]);simp at x;simp[z,A,l,m,J,u,w,B,s,K,n,d,a,c,o,L,x,hs,y,w1];exact⟨id,hid,f,g,a,c,rfl,by simp[a,s],rfl,by simp⟩
    ·obtain⟨j,rfl⟩:∃j,i=j+1:=⟨i-1,by omega⟩;have P:i6.wrap ((j:Int)+1-1)=(j:Int):=by rw[wu (by omega) (by omega)];omega
     have C:=wz (j:Int);have Q:0<(j:Int)+1:=by omega
     have D:(j:Int)+1<(t.length:Int)+1:=by omega
     have q:j<t.length:=by omega
     have E:j+1<t.length+1:=by omega
     have F:j<t.length+1:=by omega
     have G:0<=(j:Int)+1:=by omega
     have H:((j:Int)+1).toNat=j+1:=by omega
     have I:=wz ((j:Int)+1+1);cases y:ef t p k (j+1)
     ·cases hd:ef t p (k+1) j
      ·have x:=r false (by rw[ot d q hs,y,hd];rfl);simp[z,A,l,m,J,u,w,B,s,K,n,d,a,c,o,L,x,hs,y,Q,P,C,D,q,E,F,G,H,I,hd];exact⟨by omega,id,hid,f,g,a,c,rfl,by simp[a,s],rfl,by simp⟩
      ·have x:=r true (by rw[ot d q hs,y,hd];rfl);simp[z,A,l,m,J,u,w,B,s,K,n,d,a,c,o,L,x,hs,y,Q,P,C,D,q,E,F,G,H,I,hd];exact⟨by omega,id,hid,f,g,a,c,rfl,by simp[a,s],rfl,by simp⟩
     ·have x:=r true (by rw[ot d q hs,y];rfl);simp[z,A,l,m,J,u,w,B,s,K,n,d,a,c,o,L,x,hs,y,Q,P,C,D,q,E,F,G,H,I];exact⟨by omega,id,hid,f,g,a,c,rfl,by simp[a,s],rfl,by simp⟩
   ·have M:((p[k].toNat:Int)==42)=false:=by rw[show(42:Int)=((42:UInt8).toNat:Int)from rfl,l5];simpa using hs
    by_cases N:i=0
    ·subst N;have x:(vP (t.length+1) fun j=>decide (j<0)&&ef t p (k+1) j)=vP (t.length+1) fun j=>decide (j=0)&&ef t p (k+1) j:=gW fun j _=>by
      by_cases h:j=0
      ·subst h;simp[RH d hs]
      ·simp[h]
     rw[x]at n;simp[z,A,l,m,J,u,w,B,s,K,n,d,a,c,o,L,M,w1];exact⟨id,hid,f,g,a,c,rfl,s,rfl,n⟩
    ·obtain⟨j,rfl⟩:∃j,i=j+1:=⟨i-1,by omega⟩;have P:i6.wrap ((j:Int)+1-1)=(j:Int):=by rw[wu (by omega) (by omega)];omega
     have C:=wz (j:Int);have Q:0<(j:Int)+1:=by omega
     have D:(j:Int)+1<(t.length:Int)+1:=by omega
     have q:j<t.length:=by omega
     have E:j+1<t.length+1:=by omega
     have F:j<t.length+1:=by omega
     have G:0<=(j:Int)+1:=by omega
     have H:((j:Int)+1).toNat=j+1:=by omega
     have I:=wz ((j:Int)+1+1);cases y:ef t p k j
     ·have x:=r false (by rw[Av d q hs,y];rfl);simp[z,A,l,m,J,u,w,B,s,K,n,d,a,c,o,L,x,M,y,Q,P,C,D,q,E,F,G,H,I];exact⟨by omega,id,hid,f,g,a,c,rfl,by simp[a,s],rfl,by simp⟩
     ·by_cases W:p[k]=63
      ·have x:=r true (by rw[Av d q hs,y];simp[W]);simp[z,A,l,m,J,u,w,B,s,K,n,d,a,c,o,L,x,M,y,Q,P,C,D,q,E,F,G,H,I,W];exact⟨by omega,id,hid,f,g,a,c,rfl,by simp[a,s],rfl,by simp⟩
      ·have hqb:((p[k].toNat:Int)==63)=false:=by rw[show(63:Int)=((63:UInt8).toNat:Int)from rfl,l5];simpa using W
       have A4:((p[k].toNat:Int)==(t[j].toNat:Int))=decide (p[k]=t[j]):=l5 _ _;have x:=r (decide (p[k]=t[j])) (by rw[Av d q hs,y];simp[W]);simp[z,A,l,m,J,u,w,B,s,K,n,d,a,c,o,L,x,M,y,Q,P,C,D,q,E,F,G,H,I,hqb,A4];exact⟨by omega,id,hid,f,g,a,c,rfl,by simp[a,s],rfl,by simp⟩
  ·obtain rfl:i=t.length+1:=by omega
   have hl2:¬((t.length:Int)+1<(t.length:Int)+1):=by omega
   have x:(vP (t.length+1) fun j=>decide (j<t.length+1)&&ef t p (k+1) j)=vP (t.length+1) (ef t p (k+1)):=gW fun j T=>by simp[T]
   rw[x]at n;simp[z,A,l,m,J,u,w,B,s,K,n,d,wk];exact⟨d,f,g,rfl,n⟩
 ·obtain rfl:k=p.length:=by omega
  have e:ef t p p.length t.length=Jk t p:=by simp[ef]
  simp[z,A,l,m,B,s,X8,e,f139]
theorem DO:zg prog 139 (zh false [] (Zr ME fun _ _=>True)):=
 wW (fn:=f139) jG (qD func139) false [] _ fun args r h=>by obtain⟨a,b,rfl,c,d,_,rfl⟩:=kl h;exact⟨by simp[f139],_,Aw a b c d,qb _⟩
end Go.Q
namespace Go.Q
theorem zc3(v:wy)(s:qK):kY s ⟨v,false⟩=Rf v s:=by
 have d:decide (wb s.lo ⟨v,false⟩<=0)=b4 v s.lo:=by
  unfold b4 wb;simp only;have f:=AW.flip s.lo.v v;have e:=AW.eq s.lo.v v;by_cases h:xI s.lo.v v=0
  ·have b:=e.1 h;rw[zd h,b];cases s.lo.after<;>simp
  ·have b:¬xI v s.lo.v=0:=fun x=>h (e.2 x)
   have a:=wU b;rw[zc h,a,ZL,Bool.or_false,decide_eq_decide];omega
 have a:decide (wb ⟨v,false⟩ s.hi<0)=!b4 v s.hi:=by
  unfold b4 wb;simp only;by_cases h:xI v s.hi.v=0
  ·rw[zd h,h];cases s.hi.after<;>simp
  ·have a:=wU h;rw[zc h,a,ZL,Bool.or_false];by_cases c:xI v s.hi.v<0
   ·simp[c];omega
   ·simp[c];omega
 unfold kY Rf;rw[d,a]
noncomputable abbrev Crin:Ctx:=zR prog [(181,qn [.g jY] (HN fun v=>int (yS v))),(184,zh false [] (FRs fun l=>int (xn l))),(185,qn [.s 11 jn,.g jm] (FRC fun l c=>qS (yl l c)))]
theorem RI(v:wy)(l:List qK)(i:v.small)(j:yE l):zq Crin f142 [.agg v.V,.sl 11 (zW l)]=some (az v l):=by
 refine zm rfl ?_;have c:=fun Y Z=>YS v Y Z i
 have k:=fun Y Z=>Df (fun l=>int (xn l)) l Y Z j rfl
 have e:=fun Y Z=>V2 l ⟨v,false⟩ Y Z j i
 have f:yl l ⟨v,false⟩=l.any (Rf v):=by unfold yl;congr 1;funext s;exact zc3 v s
 rw[f]at e;simp only[wy.V,Cut.V]at c e;by_cases a:yS v=0
 case neg=>
  have g:=Za a;have b:b5 v l=(false,yS v):=by unfold b5;rw[zc a]
  simp[wy.V,c,g,az,b,wa,f142]
 by_cases d:xn l=0
 case neg=>
  have h:=Za d;have b:b5 v l=(false,xn l):=by unfold b5;rw[zd a,zc d]
  simp[wy.V,c,a,k,h,az,b,wa,f142]
 have b:b5 v l=(l.any (Rf v),0):=by unfold b5;rw[zd a,zd d]
 simp[wy.V,c,a,k,d,z8,qB,e,az,b,wa,f142]
theorem MT:zg prog 142 (zh false [] (FVR az)):=
 xy (zU mixed ⟨Zv,dL,aY,trivial⟩:AM.Good Crin _) func142 false [] fun⟨v,l⟩ ⟨a,b⟩=>⟨by simp[f142],_,RI v l a b,qb _⟩
theorem dM:∀(l:List za) (st q:Part×Bool) (i:Nat),yy st i l=some q->q.1.has<=st.1.has+l.length
 |[],st,q,i,h=>by simp only[yy]at h;injection h with h;subst h;simp
 |t::l,st,q,i,h=>by
  simp only[yy]at h;split at h
  ·rename_i s hs;have:=dM l s q (i+1) h;have a:s.1.has<=st.1.has+1:=by
    unfold y8 at hs;split at hs
    ·injection hs with hs;subst hs;simp;omega
    ·split at hs
     ·injection hs with hs;subst hs;have:=(dn st.1 i ((jW t).getD 0)).1;simp only[this];omega
     ·cases hs
   simp only[zO];omega
  ·cases h
theorem RJ{st s:Part×Bool}{i:Nat}{t:za}(hs:y8 st i t=some s):s.1.has<=st.1.has+1/\(jW t=none->s.1.has=st.1.has):=by
 unfold y8 at hs;split at hs
 ·injection hs with hs;subst hs;exact⟨by simp;omega,fun _=>rfl⟩
 ·split at hs
  ·rename_i a;injection hs with hs;subst hs
   have:=(dn st.1 i ((jW t).getD 0)).1;exact⟨by simp only[this];omega,fun h=>by rw[h]at a;cases a.2⟩
  ·cases hs
theorem Ip:∀(l:List za) (st q:Part×Bool) (i:Nat),yy st i l=some q->(∃t∈l,jW t=none)->q.1.has<st.1.has+l.length
 |[],_,_,_,_,h=>by obtain⟨_,h,_⟩:=h;cases h
 |t::l,st,q,i,h,c=>by
  simp only[yy]at h;split at h
  ·rename_i s hs;obtain⟨e,d⟩:=RJ hs;simp only[zO];by_cases a:jW t=none
   ·have:=dM l s q (i+1) h;have:=d a;omega
   ·obtain⟨u,hu,b⟩:=c;rcases zv.1 hu with rfl|hu
    ·exact absurd b a
    ·have:=Ip l s q (i+1) h ⟨u,hu,b⟩;omega
  ·cases h
theorem GZ{d e f:za}{a b c:Int}(g:jW d=some a)(i:jW e=some b)(j:jW f=some c):yy (q9,false) 0 [d,e,f]=some (((q9.put 0 a).put 1 b).put 2 c,false):=by
 have k:¬yh d=true:=fun h=>by rw[Qy h]at g;cases g
 have l:¬yh e=true:=fun h=>by rw[Qy h]at i;cases i
 have m:¬yh f=true:=fun h=>by rw[Qy h]at j;cases j
 simp[yy,y8,k,l,m,g,i,j]
theorem zc4{s:za}(h:(qc (Lib.cut s [45]).1 [46]).length≠3):cK s=none:=by
 unfold cK;split
 ·rename_i a;rw[a]at h;exact absurd rfl h
 ·rfl
theorem MU{s d e f:za}(h:qc (Lib.cut s [45]).1 [46]=[d,e,f]):cK s=match jW d,jW e,jW f with
  |some a,some b,some c=>if yS ⟨a,b,c,jH s⟩=0 then some ⟨a,b,c,jH s⟩else none
  |_,_,_=>none:=by
 unfold cK;rw[h];rfl
theorem DP{s:za}(h:(WC s).2.2=true/\(WC s).2.1=3):(qc (Lib.cut s [45]).1 [46]).length<=3/\∃st,yy (q9,false) 0 (qc (Lib.cut s [45]).1 [46])=some st/\st.1.has=3:=by
 unfold WC at h;split at h
 ·cases h.1
 ·rename_i b;refine⟨by omega,?_⟩;split at h
  ·cases h.1
  ·rename_i st a;split at h
   ·cases h.1
   ·refine⟨st,a,?_⟩;have:=h.2;simp only at this;omega
theorem zc5(s:za):cK s=if(WC s).2.2=true/\(WC s).2.1=3 then some (WC s).1 else none:=by
 by_cases r:(qc (Lib.cut s [45]).1 [46]).length=3
 case neg=>rw[zc4 r,zc fun h=>?_];obtain⟨u,st,i,v⟩:=DP h;have:=dM _ _ _ _ i;have k:q9.has=0:=rfl;simp only[k]at this;omega
 obtain⟨j,l,t,m⟩:=Om r;rw[MU m];by_cases f:jW j=none\/jW l=none\/jW t=none
 ·rw[zc fun h=>?_]
  ·rcases f with e|e|e
   ·rw[e]
   ·rw[e];cases jW j<;>rfl
   ·rw[e];cases jW j<;>cases jW l<;>rfl
  ·obtain⟨u,st,i,v⟩:=DP h;rw[m]at i;have:=Ip _ _ _ _ i (by
    rcases f with e|e|e
    ·exact⟨j,by simp,e⟩
    ·exact⟨l,by simp,e⟩
    ·exact⟨t,by simp,e⟩)
   have k:q9.has=0:=rfl;simp only[k,zO,yV]at this;omega
 ·obtain⟨a,n⟩:=Option.ne_none_iff_exists'.1 fun e=>f (.inl e)
  obtain⟨b,o⟩:=Option.ne_none_iff_exists'.1 fun e=>f (.inr (.inl e))
  obtain⟨c,p⟩:=Option.ne_none_iff_exists'.1 fun e=>f (.inr (.inr e))
  have x:=ZZ n;have y:=ZZ o;have z:=ZZ p;have q:yS ⟨a,b,c,jH s⟩=if 10<(jH s).length then 2 else if(jH s).any wD then 3 else 0:=by unfold yS;rw[zd (by simp[kI];omega)]
  have w:WC s=if(jH s).any wD=true then(⟨a,b,c,jH s⟩,0,false)else(⟨a,b,c,jH s⟩,3,decide ((jH s).length<=10)):=by unfold WC;rw[m,zc (by simp),GZ n o p];simp[Part.put,q9]
  rw[n,o,p,w];simp only[q];by_cases d:(jH s).any wD=true
  ·rw[zd d,zd d,zc (show¬(if 10<(jH s).length then(2:Int)else 3)=0 by split<;>decide),zc (fun h=>by cases h.1)]
  ·rw[zc d,zc d];by_cases g:10<(jH s).length
   ·rw[zd g,zc (by decide),zc (by simp;omega)]
   ·rw[zc g,zd rfl,zd (by simp;omega)]
theorem zc6(s:za):(WC s).2.1<=3:=by
 unfold WC;split
 ·decide
 ·rename_i c;split
  ·decide
  ·rename_i st a;split
   ·exact(by decide:(0:Int)<=3)
   ·have:=dM _ _ _ _ a;have b:q9.has=0:=rfl;simp only[b]at this;simp only;omega
noncomputable abbrev zbt:Ctx:=zR prog [(180,zh false [] (YY A3)),(181,qn [.g jY] (HN fun v=>int (yS v)))]
theorem dN(t:za)(l:t.length+1<=zu):∃j,zq zbt f140 [str t]=some j/\qX j (eL t):=by
 refine yB (sh:=.g jY) rfl ?_;have b:=fun Y Z=>j6 A3 t Y Z l
 simp only[A3,wy.V]at b;have a:=zc5 t;have m:=zc6 t;by_cases c:(WC t).2.2=true/\(WC t).2.1=3
 ·rw[zd c]at a;obtain⟨d,e⟩:=c;obtain⟨f,i⟩:=fK a;have k:=fun Y Z=>YS (WC t).1 Y Z i
  simp only[wy.V,f]at k;simp[b,d,e,k,eL,a,qi,wy.V,f140]
 ·rw[zc c]at a;cases d:(WC t).2.2
  ·rw[d]at b;simp[b,z8,qB,eL,a,qi,Vd,wy.V,f140]
  ·have e:(WC t).2.1<3:=by
    have:¬(WC t).2.1=3:=fun h=>c ⟨d,h⟩
    omega
   rw[d]at b;simp[b,e,z8,qB,eL,a,qi,Vd,wy.V,f140]
theorem cd:zg prog 140 (zh false [] (YY eL)):=
 Qq (fn:=f140) (zU mixed ⟨Z2,Zv,trivial⟩:AM.Good zbt _) (qD func140) false [] _ fun args r h w S vs a=>by obtain⟨t,rfl,b,rfl⟩:=zN h;obtain⟨c,d,e⟩:=dN t b;exact⟨_,c,a,by simp[f140],d,e⟩
noncomputable abbrev Cttx:Ctx:=zR prog [(121,zh false [] (Zr Oe fun _ _=>True)),(122,zh false [] (Zr S3 fun _ _=>True)),(123,zh false [] (Zr BP fun _ _=>True)),(139,zh false [] (Zr ME fun _ _=>True)),(140,zh false [] (YY eL)),(141,zh false [] (YY na)),(142,zh false [] (FVR az))]
theorem re(a:Int)(b c:za)(h:b.length+1<=zu)(r:c.length+1<=zu):zq Cttx f88 [int a,str b,str c]=some (qS (J9 a b c)):=by
 refine zm rfl ?_;have s:=fun Y Z=>XN b c Y Z (by omega) (by omega)
 have t:=fun Y Z=>Ai b c Y Z (by omega) (by omega)
 have u:∀Y Z,zh false [] (Zr BP fun _ _=>True) [str b,str c] Y Z=some (qS (Lib.contains b c),Y,Z):=fun Y Z=>jV _ _ b c Y Z (by omega) (by omega) trivial rfl
 have m:∀Y Z,zh false [] (Zr ME fun _ _=>True) [str b,str c] Y Z=some (qS (Jk b c),Y,Z):=fun Y Z=>jV _ _ b c Y Z (by omega) (by omega) trivial rfl
 have d:=fun Y Z=>j6 eL b Y Z h
 have i:=fun Y Z=>j6 na c Y Z r
 by_cases n:a=7
 ·simp[n,s,J9,f88]
 have j:=wU n;by_cases o:a=8
 ·simp[o,t,J9,f88]
 have k:=wU o;by_cases p:a=9
 ·simp[p,u,J9,f88]
 have l:=wU p;by_cases f:a=10
 ·simp[f,m,J9,f88]
 have e:=wU f;have w:J9 a b c=Ro b c:=by unfold J9;rw[zc n,zc o,zc p,zc f]
 rw[w];unfold Ro;cases q:cK b with
 |none=>simp only[eL,q]at d;simp[j,k,l,e,d,Vd,wy.V,f88]
 |some v=>
  have hs:=(fK q).2;have g:=fun Y Z=>Dg az v (vF c).1 Y Z hs (bd c) rfl
  simp only[eL,q]at d;simp only[na]at i;simp only[az]at g;simp only[wy.V]at d g;simp[j,k,l,e,d,i,g,f88]
theorem ou:zg prog 88 (zh false [] FFt):=
 xy (zU mixed ⟨WV,Vr,YH,DO,cd,J7,MT,trivial⟩:AM.Good Cttx _) func88 false [] fun⟨a,b,c⟩ ⟨d,e⟩=>⟨by simp[f88],_,re a b c d e,qb _⟩
def Up:List (za×qa)->Prop
 |[]=>True
 |a::l=>(∀b∈l,Op.bytesLess a.1 b.1=true)/\Up l
theorem sZ:∀(l:List (za×qa)) (p:Option za),(∀b∈l,b.2.check=0->True)->Z1 p l=0->Up l/\∀q,p=some q->∀b∈l,Op.bytesLess q b.1=true
 |[],_,_,_=>⟨trivial,fun _ _ _ h=>by cases h⟩
 |(a,v)::l,p,j,h=>by
  simp only[Z1]at h;split at h
  ·cases h
  split at h
  ·cases h
  rename_i e;split at h
  ·split at h
   ·cases h
   ·obtain⟨f,c⟩:=sZ l (some a) (fun _ _ _=>trivial) h;refine⟨⟨fun b hb=>c a rfl b hb,f⟩,fun q g b hb=>?_⟩;subst g;have d:Op.bytesLess q a=true:=xU (by simpa[kr]using e);rcases zv.1 hb with rfl|hb
    ·exact d
    ·exact xT d (c a rfl b hb)
  ·rename_i i;exact absurd h i
theorem G3:∀{l:List (za×qa)} (_:Up l) {i j:Nat} (_:i<j) (b:j<l.length),Op.bytesLess (l[i]'(by omega)).1 l[j].1=true
 |a::l,h,0,j+1,_,b=>h.1 _ (zj _)
 |a::l,h,i+1,j+1,c,b=>by simpa using G3 h.2 (i:=i) (j:=j) (by omega) (by simpa using b)
theorem ov{s:za}:∀{l:List (za×qa)},(∀a∈l,a.1≠s)->QR s l=(ee,false)
 |[],_=>rfl
 |a::l,h=>by
  have:(a.1==s)=false:=by simpa using h a (by simp)
  rw[QR,this];simpa using ov (l:=l) fun b c=>h b (by simp[c])
theorem DQ{s:za}:∀{l:List (za×qa)} {j:Nat} (b:j<l.length),Up l->l[j].1=s->QR s l=(l[j].2,true)
 |a::l,0,b,_,h=>by
  have h:a.1=s:=by simpa using h
  simp[QR,h]
 |a::l,j+1,b,d,h=>by
  have h:(l[j]'(by simpa using b)).1=s:=by simpa using h
  have c:(a.1==s)=false:=by have:=d.1 _ (zj (l:=l) (n:=j) (by simpa using b));rw[h]at this;simp only[wN,ne_eq];intro e;rw[e,Qs]at this;cases this
  rw[QR,c];simpa using DQ (l:=l) (j:=j) (by simpa using b) d.2 h
theorem zae(x:qY)(s:za)(h:x.fault=0):x.find s=x.QS s:=by
 have l:Up x.attrs:=by
  unfold qY.fault at h;split at h
  ·split at h
   ·cases h
   ·exact(sZ x.attrs none (fun _ _ _=>trivial) h).1
  ·cases h
 unfold qY.find qY.QS;cases z:(s==MN)
 case true=>rfl
 simp only[zF,qR];by_cases c:∃(j:Nat) (b:j<x.attrs.length),x.attrs[j].1=s
 ·obtain⟨j,b,hs⟩:=c;have t:Zk (JE x.attrs s) 0 x.attrs.length=j:=fm (n:=x.attrs.length) (m:=j) (fun k o=>by
    have p:k<x.attrs.length:=by omega
    have:=G3 l o b;rw[hs]at this;simp[JE,p,(Yp _ _).2 this]) (fun k q d=>by
    simp only[JE,zl d,yw];intro f;have f:=(Yp _ _).1 f;rcases zh3 q with g|rfl
    ·have:=G3 l g d;rw[hs]at this;have:=xT f this;rw[Qs]at this;cases this
    ·rw[hs,Qs]at f;cases f) (by omega) (by omega) (by omega)
  rw[DQ b l hs];have r:(Qd x.attrs s)=(j,true):=by unfold Qd;rw[t];simp[zl b,hs,(kP s s).2 rfl]
  rw[r];simp[zl b]
 ·have i:∀a∈x.attrs,a.1≠s:=fun a u e=>by obtain⟨j,b,v⟩:=List.getElem_of_mem u;exact c ⟨j,b,by rw[v,e]⟩
  rw[ov i];have r:(Qd x.attrs s).2=false:=by
   unfold Qd;simp only;split
   ·rename_i y w;have:=i y (zG w);simp only[wN,ne_eq];intro e;exact this ((kP _ _).1 e)
   ·rfl
  split
  ·rw[r];rfl
  ·rfl
noncomputable def Q8 (c:qe) (v:qa):Bool:=if c.op=1 then true else if c.op=2 then b6 v c.yp else if y7 c.op=true then v.kind==2&&dF c.op v.n (sS c.yp)else if Zn c.op=true then v.kind==3&&J9 c.op v.s c.pat else v.items.any fun w=>b6 w c.yp
noncomputable def s8 (x:qY) (c:qe):Bool:=(x.QS c.attr).2&&Q8 c (x.QS c.attr).1
theorem DR(s:za):∀l:List (za×qa),(QR s l).1.vb<=ak l+2
 |[]=>by show ee.vb<=_;rw[xz];simp[ee,qa.s,qa.items,qa.fields,Kd,ak]
 |a::l=>by
  have b:=vC (List.mem_cons_self (a:=a) (l:=l));have c:=DR s l;have d:ak l<=ak (a::l):=by simp[ak]
  simp only[QR];split
  ·show a.2.vb<=_;omega
  ·omega
theorem RL(x:qY)(s:za)(b:x.cb+2<=zu):(x.QS s).1.vb<=zu:=by
 have a:=V7 x;unfold qY.QS;split
 ·rw[xz];simp[dK,qa.s,qa.items,qa.fields,Kd,ak];omega
 ·have:=DR s x.attrs;omega
noncomputable def FTc:zb->Option O:=ql (α:=qe×qY) (fun a=>[.agg a.1.V,.agg a.2.V]) (fun a=>a.1.cb<=zu/\a.2.cb+2<=zu/\(y7 a.1.op=true->0<a.1.yp.length)) (fun a=>qS (s8 a.2 a.1))
theorem RM(c:qe)(x:qY)(Y:Hp)(Z:Nat)(h:c.cb<=zu)(d:x.cb+2<=zu)(f:y7 c.op=true->0<c.yp.length):zh false [] FTc [.agg c.V,.agg x.V] Y Z=some (qS (s8 x c),Y,Z):=
 Ja (c,x) _ _ (by simp[qY.V,wi]) (fun a b e=>by obtain⟨g,i⟩:=a;obtain⟨j,k⟩:=b;simp only[zk,zI,O.agg.injEq]at e;rw[kU e.1,J2 e.2]) ⟨h,d,f⟩ (.inl rfl)
noncomputable abbrev RN:Ctx:=zR prog [(83,zh false [] (FXS (fun x s=>QB (x.QS s)) fun _ _=>True)),(84,zh false [] (FVL fun v l=>qS (b6 v l))),(85,zh false [] (oX y7)),(86,zh false [] FOd),(87,zh false [] (oX Zn)),(88,zh false [] FFt)]
theorem RO:AM.Good RN (fun g=>[86].contains g):=qw mixed ⟨pZ,by simp,Dw,by simp,KS,by simp,dG,fun _=>zt _ _,dx,by simp,ou,by simp,trivial⟩
theorem G5:QZ RN (fun g=>[86].contains g) 41 f41:=qD func41
theorem G6(c:qe)(x:qY)(W:c.cb<=zu)(L:x.cb+2<=zu)(M:y7 c.op=true->0<c.yp.length):zq RN f41 [.agg c.V,.agg x.V]=some (qS (s8 x c)):=by
 have N:=Zm c;have H:zu=2097152:=rfl;have C:=RL x c.attr L;refine zm rfl ?_;have f:∀Y Z,zh false [] (FXS (fun x s=>QB (x.QS s)) fun _ _=>True) [.agg [str x.key,.sl 6 (x.attrs.map yk)],str c.attr] Y Z=some (.wG [.agg (x.QS c.attr).1.V,qS (x.QS c.attr).2],Y,Z):=fun Y Z=>DG (fun x s=>QB (x.QS s)) (fun _ _=>True) x c.attr Y Z ⟨by omega,by omega,trivial⟩
 unfold s8;generalize x.QS c.attr=r at C f;obtain⟨v,D⟩:=r;simp only at C f;have P:=xz v;cases D
 ·simp[qY.V,f,f41]
 by_cases j:c.op=1
 ·have a:Q8 c v=true:=by unfold Q8;rw[zd j]
  simp[qY.V,f,j,a,f41]
 have b:=wU j;by_cases t:c.op=2
 ·have a:Q8 c v=b6 v c.yp:=by unfold Q8;rw[zc j,zd t]
  have u:=fun Y Z=>Dv (fun v l=>qS (b6 v l)) v c.yp Y Z ⟨C,by omega⟩ rfl
  simp[qY.V,f,t,u,a,f41]
 have e:=wU t;cases g:y7 c.op
 case true=>
  have a:Q8 c v=(v.kind==2&&dF c.op v.n (sS c.yp)):=by unfold Q8;rw[zc j,zc t,zd g]
  have I:=M g;obtain⟨y,l,m⟩:∃y l,c.yp=y::l:=by
   cases E:c.yp with
   |nil=>rw[E]at I;cases I
   |cons x l=>exact⟨x,l,rfl⟩
  have u:=fun Y Z=>Dm c.op v.n y.n Y Z
  have Q:sS c.yp=y.n:=by rw[m];rfl
  rw[a,Q];cases J:v.kind==2
  ·simp[qY.V,f,b,e,g,J,f41]
  ·simp[qY.V,f,b,e,g,J,m,u,f41]
 cases z:Zn c.op
 case true=>
  have a:Q8 c v=(v.kind==3&&J9 c.op v.s c.pat):=by unfold Q8;rw[zc j,zc t,g,zc (by simp),zd z]
  have u:=fun Y Z=>Dn c.op v.s c.pat Y Z (by omega) (by omega)
  rw[a];cases K:v.kind==3
  ·simp[qY.V,f,b,e,g,z,K,f41]
  ·simp[qY.V,f,b,e,g,z,K,u,f41]
 have a:Q8 c v=v.items.any fun w=>b6 w c.yp:=by unfold Q8;rw[zc j,zc t,g,zc (by simp),z,zc (by simp)]
 have R:=yY v.items;have F:=fun w (a:w∈v.items)=>jR a
 rw[a];simp[qY.V,f,b,e,g,z];refine zP (fun k U Y Z=>U 2=.ref 0 0 0/\U 67=.sl 5 (v.items.map qa.V)/\U 68=int v.items.length/\U 69=int k/\1<=Z/\Y 0=some ⟨26,7,false,[c.V]⟩/\(v.items.any fun w=>b6 w c.yp)=(v.items.drop k).any fun w=>b6 w c.yp) v.items.length
  ⟨by simp,by simp,by simp,by simp,by simp,by simp,by simp⟩ ?_
 rintro k U Y Z X ⟨G,o,p,q,S,A,i⟩;have n1:¬0=Z:=by omega
 by_cases h:k<v.items.length
 ·have a:=qG k;obtain⟨y,m⟩:=jc (v.items[k]);have T:=F y (by rw[<-m];exact zj h);rw[dD h,m]at i;have B:=fun Y Z=>Dv (fun v l=>qS (b6 v l)) y c.yp Y Z ⟨by omega,by omega⟩ rfl
  cases d:b6 y c.yp
  ·rw[d,kQ]at i;rw[d]at B;simp[G,o,p,q,h,m,A,n1,B,a]
   and_intros<;>first|omega|exact A|exact i|simpa using i|simp[n1,A]
  ·rw[d,dU]at i;rw[d]at B;simp[G,o,p,q,h,m,A,n1,B,i,f41]
 ·obtain rfl:k=v.items.length:=by omega
  rw[zn]at i;simp[G,o,p,q,i,f41]
theorem DS:zg prog 41 (zh false [] FTc):=
 wW (fn:=f41) RO G5 false [] _ fun args r h=>by obtain⟨⟨c,x⟩,rfl,⟨a,b,d⟩,rfl⟩:=zN h;exact⟨by simp[f41],_,G6 c x a b d,qb _⟩
theorem Ax{a b c:qa}(f:qL a b<0)(d:qL b c<0):qL a c<0:=by
 have e:=Wb.tr a b c (by omega) (by omega);rcases ZM e with h|h
 ·exact h
 ·have g:=(Wb.eq a c).1 h;have i:=Wb.tr c a b (by omega) (by omega);have:=(Wb.flip b c).1 d;omega
theorem Iq(op:Int):∀(l:List qa) (p:Option qa),Vv op p l=0->UpV l/\∀q,p=some q->∀b∈l,qL q b<0
 |[],_,_=>⟨.nil,fun _ _ _ h=>by cases h⟩
 |v::l,p,h=>by
  simp only[Vv]at h;split at h
  ·split at h
   ·omega
   ·split at h
    ·omega
    ·rename_i Y;obtain⟨e,a⟩:=Iq op l (some v) h;have a:=a v rfl;refine⟨wV.2 ⟨a,e⟩,fun q f b c=>?_⟩;subst f;have d:qL q v<0:=by simp only[V5,zT]at Y;omega
     rcases zv.1 c with rfl|c
     ·exact d
     ·exact Ax d (a b c)
  ·rename_i g;exact absurd h g
inductive XB:qe->Prop
 |mk {k o:Int} {a p n:List UInt8} {v:List qa} {l:List qe}:(k=4->1<=o/\o<=12/\UpV v)->(∀x∈l,XB x)->XB (.mk k a o v p n l)
theorem XB.op{c:qe}(h:XB c)(a:c.kind=4):1<=c.op/\c.op<=12/\UpV c.yp:=by cases h with|mk b _=>exact b a
theorem XB.args{c:qe}(h:XB c):∀x∈c.args,XB x:=by cases h with|mk _ a=>exact a
theorem G7(c:qe):c.fault=0->XB c:=by
 induction c using qe.ind with
 |h k a o v p n l m=>
  intro f;rw[XT]at f;split at f
  case isFalse b=>exact absurd f b
  rename_i b;have d:=ca f;refine .mk (fun q=>?_) fun x i=>m x i (d x i)
  unfold va at b;split at b
  ·omega
  rename_i j;split at b
  ·omega
  split at b
  ·omega
  split at b
  case isFalse e=>exact absurd b e
  rename_i e;simp only[aV,LP,qe.kind,qe.op,qp,not_or,yI,Bool.not_eq_false,zz,not_and,q,Sk,forall_const]at j;have g:=j.2;simp only[kI,zz,zT]at g;refine⟨g.1,g.2,?_⟩;simp only[qe.op,qe.yp]at e;unfold ZE at e;split at e
  ·omega
  ·exact(Iq _ _ _ e).1
theorem ow{c:qe}(h:c.check=0):XB c:=by
 unfold qe.check at h;split at h
 ·omega
 ·exact G7 c h
theorem G8{v:qa}(h:v.check=0)(d:v.kind≠4):v.items=[]:=by
 unfold qa.check at h;split at h
 ·omega
 rw[ml]at h;split at h
 case isFalse a=>exact absurd h a
 rename_i a;unfold W4 at a;split at a
 ·omega
 split at a
 ·omega
 rename_i b;have c:(decide (0<v.items.length)&&v.kind != 4)=false:=by unfold Kw at b;simp only[qp,not_or,Bool.not_eq_true]at b;exact b.1.2
 have e:(v.kind != 4)=true:=by simpa using d
 rw[e,zhY]at c;have f:¬0<v.items.length:=by simpa using c
 exact jb (by omega)
theorem dO:∀(l:List (za×qa)) (p:Option za),Z1 p l=0->∀a∈l,a.2.check=0
 |[],_,_,a,h=>by cases h
 |(a,v)::l,p,h,b,c=>by
  simp only[Z1]at h;split at h
  ·omega
  split at h
  ·omega
  split at h
  case isFalse d=>exact absurd h d
  rename_i e;split at h
  ·omega
  rcases zv.1 c with rfl|c
  ·exact e
  ·exact dO l _ h b c
theorem gX{s:za}:∀{l:List (za×qa)},(∀a∈l,a.2.check=0)->(QR s l).1.kind≠4->(QR s l).1.items=[]
 |[],_,_=>rfl
 |a::l,h,c=>by
  simp only[QR]at c⊢;split at c
  ·rename_i d;rw[zd d];exact G8 (h a (by simp)) c
  ·rename_i d;rw[zc d];exact gX (fun b e=>h b (by simp[e])) c
theorem DT{x:qY}(b:x.fault=0)(s:za)(c:(x.QS s).1.kind≠4):(x.QS s).1.items=[]:=by
 have e:∀a∈x.attrs,a.2.check=0:=by
  unfold qY.fault at b;split at b
  ·split at b
   ·omega
   ·exact dO _ _ b
  ·omega
 unfold qY.QS at c⊢;split at c
 ·rename_i d;rw[zd d];rfl
 ·rename_i d;rw[zc d];exact gX e c
theorem zaf{c:qe}{v:qa}(j:v.kind≠4->v.items=[])(h:1<=c.op/\c.op<=12/\UpV c.yp):Q8 c v=Yc c v:=by
 obtain⟨n,o,k⟩:=h;have g:∀w,b6 w c.yp=(pW c.yp w).2:=fun w=>(U6 k w).symm
 unfold Q8 Yc;by_cases b:c.op=1
 ·rw[zd b,zd b]
 rw[zc b,zc b];by_cases d:c.op=2
 ·rw[zd d,zd d];exact g v
 rw[zc d,zc d];by_cases e:c.op=12
 ·have l:¬y7 c.op=true:=by rw[e];decide
  have f:¬Zn c.op=true:=by rw[e];decide
  rw[zd e,zc l,zc f];have m:(fun w=>b6 w c.yp)=fun w=>(pW c.yp w).2:=funext g
  rw[m];by_cases i:v.kind=4
  ·rw[i];simp
  ·rw[j i];simp
 rw[zc e];by_cases a:y7 c.op=true
 ·rw[zd a,zd a]
 rw[zc a,zc a];have f:Zn c.op=true:=by simp only[y7,Zn,kI,zz,zT]at a⊢;omega
 rw[zd f]
theorem zc7{x:qY}{c:qe}(a:x.fault=0)(b:c.kind=4)(d:XB c):s8 x c=DM x c:=by unfold s8 DM;rw[zae x c.attr a,zaf (DT a c.attr) (d.op b)]
end Go.Q
