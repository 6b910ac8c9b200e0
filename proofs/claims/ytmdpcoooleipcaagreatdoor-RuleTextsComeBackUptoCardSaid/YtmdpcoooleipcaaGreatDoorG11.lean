/- Lemmas. -/
import Derived.Shelf.Strconv.Itoa3
import Derived.Shelf.Small.Wraps
import Derived.Test.YtmdpcoooleipcaaGreatDoorG10
set_option maxRecDepth 100000
set_option maxHeartbeats 4000000
open Go Proofs Proofs.YtmdpcoooleipcaaGreatDoor Proofs.Tryz RowKit AM SpanLaw Q Zz
open Go.IntKind renaming i64→i6
namespace Go.Q
open Go.RowKit Go.AM Go.PrLaw
theorem Hg{P:Program}{w:World}{name:String}{g:Nat}{k:IntKind}{b:List Int}(h:P.globalNamed name=some g)(a:∃ty c,w.heap[g]?=some (.cells (b.map fun z=>Value.int k z).toArray ty c)):Lib.TabIs P w name k b:=by obtain⟨ty,c,a⟩:=a;simp[Lib.TabIs,World.var?,h,a]
theorem Hh{dr:Prop}(w:World)(k:Nat)(a:Array Obj):Fr dr w (fun _=>False) (Sort.grow (w.drewN k) a):=
 ⟨rfl,rfl,rfl,by simp[Sort.grow,World.drewN],fun _=>Nat.le_add_right _ _,fun j b _=>by simp[Sort.grow,World.drewN,Array.getElem?_append,b]⟩
noncomputable def FIt:zb->Option O:=qD (α:=Int) (fun n=>[int n]) (fun n=>0<=n/\n<=9223372036854775807) (fun n=>str (Lib.decDigits n.toNat))
theorem nL(n:Int)(Y:Hp)(Z:Nat)(h:0<=n)(c:n<=9223372036854775807):zp false [] FIt [int n] Y Z=some (str (Lib.decDigits n.toNat),Y,Z):=
 sn n _ _ rfl (fun a b e=>by simpa using e) ⟨h,c⟩ (.inl rfl)
theorem rG:zh prog 102 (zp false [] FIt):=
 jj ⟨_,func102,by kernel_rfl,by kernel_rfl⟩ fun xs r h=>by
  obtain⟨n,rfl,⟨f,b⟩,rfl⟩:=zQ h;refine⟨[.int .i64 n],rfl,by simp[lit],rfl,.string ⟨(Lib.decDigits n.toNat).toArray⟩,fun w S=>.v rfl,fun w S c=>?_⟩;obtain⟨_,a⟩:=c.2 (3,.u64,Lib.pow10Tab) (by simp[ZJ]);refine(Any.strconv_Itoa Tryz.EV n (by omega) b w (Hg (g:=3) (by kernel_rfl) a)).mono fun e i d=>?_
  obtain⟨rfl,k,j,rfl⟩:=d;refine⟨?_,Hh _ _ _⟩;unfold Lib.itoa;rw[zg (by omega)]
def UE:zb->Option O
 |[.v (.bool b)]=>some (str (Lib.formatBool b))
 |_=>none
theorem DS(b:Bool)(Y:Hp)(Z:Nat):zp false [] UE [.v (.bool b)] Y Z=some (str (Lib.formatBool b),Y,Z):=yg rfl rfl (.inl rfl)
theorem eN:zh prog 72 (zp false [] UE):=
 jj ⟨_,func72,by kernel_rfl,by kernel_rfl⟩ fun xs r h=>by
  unfold UE at h;split at h
  ·rename_i b;injection h with h
   subst h;refine⟨[.bool b],rfl,by simp[lit],rfl,.string ⟨(Lib.formatBool b).toArray⟩,fun w S=>.v rfl,fun w S c=>?_⟩;refine(Any.strconv_FormatBool Tryz.HW b w).mono fun e d a=>?_
   obtain⟨rfl,rfl⟩:=a;exact⟨rfl,Fr.refl _ _⟩
  ·cases h
def trP(a b:za):O:=str (Lib.trimRightB a (b.headD 0))
theorem aP:zh prog 103 (zp false [] (Wd trP fun _ b=>pq b)):=
 jj ⟨_,func103,by kernel_rfl,by kernel_rfl⟩ fun args r h=>by
  obtain⟨a,b,rfl,d,i,⟨c,rfl,f⟩,rfl⟩:=kY h;unfold zX at d;refine⟨[.string ⟨a.toArray⟩,.string ⟨#[c]⟩],rfl,by simp[lit],rfl,.string ⟨(Lib.trimRightB a c).toArray⟩,fun w S=>.v rfl,fun w S _=>?_⟩;refine(Any.strings_TrimRight_one Tryz.HV ⟨a.toArray⟩ c f w (by simp;omega)).mono fun e j g=>?_
  obtain⟨rfl,rfl⟩:=g;exact⟨by simp,Fr.refl _ _⟩
abbrev TB:Nat:=37
abbrev UB:Nat:=5
theorem DT(z:Int)(c:UInt8)(h:z=c.toNat):He [.v (.int .u8 z)]=some ([c],.v .nilIface):=by
 subst h;exact qj (V:=fun c:UInt8=>[O.v (.int .u8 c.toNat)]) (a:=c) (fun a b e=>by simp only[zn,O.v.injEq,Value.int.injEq,z7,true_and]at e;exact wE.1 (by omega)) trivial
theorem DU(s:za)(h:s≠[]):Hd [str s]=some (s,.qS [int s.length,.v .nilIface]):=qj (V:=fun s:List UInt8=>[str s]) (a:=s) (fun a b e=>by simpa using e) h
section
variable{Y h:Hp}{Z Z' m:Nat}{cur l:za}{b0:Blk}{K:Hp->Hp}
theorem Aq(B:ah TB UB Y Z m cur)(z:Int)(c:UInt8)(a:z=c.toNat)(b:cur.length+1<=140737488355328) :
  ∃Y',kc TB UB He [.ref 0 0 0,.v (.int .u8 z)] Y Z=some (.v .nilIface,Y',Z+1)/\ah TB UB Y' (Z+1) Z (cur++[c])/\∀j,j≠0->j≠m->j≠Z->Y' j=Y j:=B.put rfl rfl (DT z c a) b
theorem E9(B:ah TB UB Y Z m cur)(s:za)(hs:s≠[])(a:cur.length+s.length<=140737488355328) :
  ∃Y',kc TB UB Hd [.ref 0 0 0,str s] Y Z=some (.qS [int s.length,.v .nilIface],Y',Z+1)/\ah TB UB Y' (Z+1) Z (cur++s)/\∀j,j≠0->j≠m->j≠Z->Y' j=Y j:=B.put rfl rfl (DU s hs) a
theorem Sl(a:vo TB UB Y Z l b0 K)(b:Z<=Z')(d:∀j,j<Z->h j=Y j)(z:Int)(c:UInt8)(e:z=c.toNat)(f:l.length+1<=140737488355328) :
  ∃Y',kc TB UB He [.ref 0 0 0,.v (.int .u8 z)] h Z'=some (.v .nilIface,Y',Z'+1)/\ah TB UB Y' (Z'+1) Z' (l++[c])/\∀j,Z<=j->j≠Z'->Y' j=h j:=a.put b d rfl rfl (DT z c e) f
theorem IK(a:vo TB UB Y Z l b0 K)(b:Z<=Z')(c:∀j,j<Z->h j=Y j)(s:za)(hs:s≠[])(d:l.length+s.length<=140737488355328) :
  ∃Y',kc TB UB Hd [.ref 0 0 0,str s] h Z'=some (.qS [int s.length,.v .nilIface],Y',Z'+1)/\ah TB UB Y' (Z'+1) Z' (l++s)/\∀j,Z<=j->j≠Z'->Y' j=h j:=a.put b c rfl rfl (DU s hs) d
end
noncomputable abbrev Cqu:Ctx:=qp prog [(19,kc TB UB He)]
theorem M4:Gd Cqu:=qT mixed ⟨VM,trivial⟩
noncomputable def IL:zb->Option (za×O):=qD (α:=za) (fun s=>[str s]) (fun s=>s.length<=zX) (fun s=>(yB s,.qS []))
theorem iO(s:za)(h:s.length<=zX):IL [str s]=some (yB s,.qS []):=qj (V:=fun s:List UInt8=>[str s]) (a:=s) (fun a b e=>by simpa using e) h
theorem nM:zh prog 74 (kc TB UB IL):=
 vN (code:=_) M4 ⟨func74,by kernel_rfl,rfl,by kernel_rfl⟩ _ _ IL fun xs t r h=>by
  obtain⟨s,rfl,hs,e⟩:=zQ h;injection e with d i;subst d;subst i;refine⟨rfl,by simp[f74],fun Y Z l b0 K z y=>xX rfl ?_⟩;have D:(yB s).length=(Zj s).length+2:=by simp[yB]
  unfold zX at hs;obtain⟨Y1,d,f,_⟩:=Sl z (zi _) (fun _ _=>rfl) 34 34 rfl (by omega);simp[d];refine qA (fun k X Y Z=>X 0=.ref 0 0 0/\X 1=str s/\X 8=int s.length/\X 9=int k/\∃(m:Nat) (cur:za),ah TB UB Y Z m cur/\l++yB s=cur++(Zj (s.drop k)++[34])) s.length ?_ ?_
  ·exact⟨by simp,by simp,by simp,by simp,Z,l++[34],f,by simp[yB]⟩
  ·rintro k X Y Z E ⟨j,n,o,p,m,cur,B,b⟩;by_cases g:k<s.length
   ·have u:=wP k;rw[zj g,Zj]at b;obtain⟨c,q⟩:=yX (s[k]);rw[q]at b;have a:=zk List.length b;by_cases v:c=34
    ·subst v;simp at b a;obtain⟨Y1,d,f,_⟩:=Aq B 92 92 rfl (by omega);obtain⟨Y2,i,w,_⟩:=Aq f 34 34 rfl (by simp;omega);simp[j,n,o,p,g,q,d,i,u];exact⟨by omega,_,_,w,by simpa using b⟩
    ·by_cases x:c=92
     ·subst x;simp at b a;obtain⟨Y1,d,f,_⟩:=Aq B 92 92 rfl (by omega);obtain⟨Y2,i,w,_⟩:=Aq f 92 92 rfl (by simp;omega);simp[j,n,o,p,g,q,d,i,u];exact⟨by omega,_,_,w,by simpa using b⟩
     ·have A:((c.toNat:Int)==34)=false:=wv.2 fun e=>v (wE.1 (by simpa using(by omega:c.toNat=34)))
      have C:((c.toNat:Int)==92)=false:=wv.2 fun e=>x (wE.1 (by simpa using(by omega:c.toNat=92)))
      simp[v,x]at b a;obtain⟨Y1,d,f,_⟩:=Aq B (c.toNat) c rfl (by omega);simp[j,n,o,p,g,q,A,C,d,u];exact⟨by omega,_,_,f,by simpa using b⟩
   ·obtain rfl:k=s.length:=by omega
    rw[zE]at b;have a:=zk List.length b;simp[Zj]at b a;obtain⟨Y1,d,f,_⟩:=Aq B 34 34 rfl (by omega);simp[j,n,o,p,d,f74];exact f.ends b (by simp)
noncomputable abbrev Cth:Ctx:=qp prog [(19,kc TB UB He),(18,kc TB UB Hd),(102,zp false [] FIt),(103,zp false [] (Wd trP fun _ b=>pq b))]
theorem M5:Gd Cth:=qT mixed ⟨VM,VL,rG,aP,trivial⟩
noncomputable def Sm:zb->Option (za×O):=qD (α:=Int) (fun n=>[int n]) (fun n=>-1000000000000000<n/\n<1000000000000000) (fun n=>(ZS n,.qS []))
theorem M6(n:Int)(h:-1000000000000000<n/\n<1000000000000000):Sm [int n]=some (ZS n,.qS []):=qj (V:=fun n:Int=>[int n]) (a:=n) (fun a b e=>by simpa using e) h
theorem M7:pq [48]:=⟨48,rfl,by decide⟩
theorem DV(s:za)(Y:Hp)(Z:Nat)(h:s.length<=1000):zp false [] (Wd trP fun _ b=>pq b) [str s,str [48]] Y Z=some (str (Lib.trimRightB s 48),Y,Z):=xe _ _ s [48] Y Z (by unfold zX;omega) (by unfold zX;simp) M7 rfl
theorem VN:zh prog 73 (kc TB UB Sm):=
 vN (code:=_) M5 ⟨func73,by kernel_rfl,rfl,by kernel_rfl⟩ _ _ Sm fun xs t r h=>by
  obtain⟨n,rfl,hs,e⟩:=zQ h;injection e with g c;subst g;subst c;refine⟨rfl,by simp[f73],fun Y Z l b0 K q a=>xX rfl ?_⟩;obtain⟨u,L⟩:=yX n.natAbs;have M:u<1000000000000000:=by omega
  have i:ZS n=(if n<0 then[45]else[])++(Lib.decDigits (u/1000)++if u % 1000=0 then[]else 46::yb (u % 1000)):=by rw[<-L];rfl
  have A:Lib.trimRightB ((Lib.decDigits (1000+u % 1000)).drop 1) 48=yb (u % 1000):=rfl;have B:((Lib.decDigits (1000+u % 1000)).drop 1).length<=1000:=by rw[Zz (by omega)];simp
  have j:1<=(Lib.decDigits (1000+u % 1000)).length:=Yl.2 (YM _);have s:((u:Int)).tdiv 1000=(u:Int)/1000:=Int.tdiv_eq_ediv_of_nonneg (by omega);have v:((u:Int)).tmod 1000=(u:Int) % 1000:=Int.tmod_eq_emod_of_nonneg (by omega);have k:=fun Y Z=>nL ((u:Int)/1000) Y Z (by omega) (by omega)
  have C:=fun Y Z=>nL (1000+(u:Int) % 1000) Y Z (by omega) (by omega)
  rw[show((u:Int)/1000).toNat=u/1000 by omega]at k;rw[show(1000+(u:Int) % 1000).toNat=1000+u % 1000 by omega]at C;have w:=fun Y Z=>DV ((Lib.decDigits (1000+u % 1000)).drop 1) Y Z B
  rw[A]at w;have D:List.take ((Lib.decDigits (1000+u % 1000)).length-1) (List.drop 1 (Lib.decDigits (1000+u % 1000)))=List.drop 1 (Lib.decDigits (1000+u % 1000)):=qv (by simp);have N:=List.drop_one (l:=Lib.decDigits (1000+u % 1000));rw[N]at w D;have m:1+(yb (u % 1000)).length<=maxLen:=by have:=cG (r:=u % 1000) (by omega);unfold maxLen;omega
  have x:=wY (u:Int);have y:=wY ((u:Int)/1000);have z:=wY ((u:Int) % 1000);have I:=wY (1000+(u:Int) % 1000);rw[i]at a⊢;clear i;rcases Int.lt_or_le n 0 with J|J
  ·obtain rfl:n=-(u:Int):=by omega
   have o:0<u:=by omega
   rw[zl J]at a⊢;by_cases p:u % 1000=0
   ·rw[zl p]at a⊢;have b:¬(0:Int)<(u:Int) % 1000:=by omega
    simp at a;obtain⟨Y1,g,E,_⟩:=Sl q (zi _) (fun _ _=>rfl) 45 45 rfl (by omega);obtain⟨Y2,c,d,_⟩:=E9 E (Lib.decDigits (u/1000)) (YM _) (by simp;omega);simp[o,g,c,s,v,k,x,y,z,b];refine d.ends ?_ ?_<;>simp<;>omega
   ·rw[zg p]at a⊢;have b:(0:Int)<(u:Int) % 1000:=by omega
    simp at a;obtain⟨Y1,g,E,_⟩:=Sl q (zi _) (fun _ _=>rfl) 45 45 rfl (by omega);obtain⟨Y2,c,d,_⟩:=E9 E (Lib.decDigits (u/1000)) (YM _) (by simp;omega);obtain⟨F,G,H,_⟩:=E9 d (46::yb (u % 1000)) (by simp) (by simp;omega);simp[o,g,c,G,s,v,k,C,w,x,y,z,I,b,j,D,m];refine H.ends ?_ ?_<;>simp<;>omega
  ·obtain rfl:n=(u:Int):=by omega
   have f:¬(u:Int)<0:=by omega
   rw[zg f]at a⊢;by_cases p:u % 1000=0
   ·rw[zl p]at a⊢;have b:¬(0:Int)<(u:Int) % 1000:=by omega
    try simp at a
    obtain⟨Y2,c,d,_⟩:=IK q (zi _) (fun _ _=>rfl) (Lib.decDigits (u/1000)) (YM _) (by omega);simp[f,c,s,v,k,x,y,z,b];refine d.ends ?_ ?_<;>simp<;>omega
   ·rw[zg p]at a⊢;have b:(0:Int)<(u:Int) % 1000:=by omega
    try simp at a
    obtain⟨Y2,c,d,_⟩:=IK q (zi _) (fun _ _=>rfl) (Lib.decDigits (u/1000)) (YM _) (by omega);obtain⟨F,G,H,_⟩:=E9 d (46::yb (u % 1000)) (by simp) (by simp;omega);simp[f,c,G,s,v,k,C,w,x,y,z,I,b,j,D,m];refine H.ends ?_ ?_<;>simp<;>omega
def kD:Val ⊕ za->zb
 | .inl v=>v.V
 | .inr s=>[int 3,int 0,str s,.nil,.nil]
def QJ:Val ⊕ za->za
 | .inl v=>v.show
 | .inr s=>yB s
def DW(n:Nat):Val ⊕ za->Prop
 | .inl v=>KK v/\v.vb<=zX/\v.vb<=n
 | .inr s=>s.length<=zX/\0<n
theorem XD{a b:Val ⊕ za}(h:[O.agg (kD a)]=[.agg (kD b)]):a=b:=by
 simp only[zn,z7,O.agg.injEq]at h;cases a<;>cases b<;>simp only[kD]at h
 ·rw[vE h]
 ·rw[wa]at h;simp at h
 ·rw[wa]at h;simp at h
 ·simp only[zn,z7,true_and]at h;rw[ya h]
noncomputable def Hi (n:Nat):zb->Option (za×O):=qD (α:=Val ⊕ za) (fun a=>[.agg (kD a)]) (DW n) (fun a=>(QJ a,.qS []))
theorem DX(n:Nat)(a:Val ⊕ za)(h:DW n a):Hi n [.agg (kD a)]=some (QJ a,.qS []):=qj (V:=fun a:Val ⊕ za=>[.agg (kD a)]) (a:=a) (fun _ _=>XD) h
theorem M8(a:Val ⊕ za):¬DW 0 a:=by
 cases a with
 |inl v=>intro h;have:=WA v;have:=h.2.2;omega
 |inr s=>intro h;exact absurd h.2 (Nat.lt_irrefl 0)
theorem DY{f:FuncId}(b:∃fn,prog.funcs[f]?=some fn/\(fn.name== "runtime.NumGoroutine")=false/\fn.body.isNone=false):zh prog f (kc TB UB (Hi 0)):=by
 refine⟨b,fun args Y Z r Y' Z' h=>?_⟩;unfold kc at h;split at h
 ·split at h
  ·obtain⟨_,_,h⟩:=zT.1 h;obtain⟨_,h,_⟩:=zT.1 h;obtain⟨a,_,c,_⟩:=zQ h;exact(M8 a c).elim
  ·cases h
 ·cases h
theorem UF{Y:Hp}{Z m:Nat}{a:za}(n:Nat)(v:Val)(B:ah TB UB Y Z m a)(h:KK v/\v.vb<=zX/\v.vb<=n)(b:a.length+v.show.length<=140737488355328) :
  ∃Y',kc TB UB (Hi n) [.ref 0 0 0,.agg v.V] Y Z=some (.qS [],Y',Z+1)/\ah TB UB Y' (Z+1) Z (a++v.show)/\∀j,j≠0->j≠m->j≠Z->Y' j=Y j:=
 B.put (Y1:=Y) (by simp only[zt,xG]) (by simp only[wC,ZF,VV,Jd]) (show Hi n [.agg v.V]=some (v.show,.qS [])from DX n (.inl v) h) b
noncomputable abbrev Csh (n:Nat):Ctx:=qp prog [(50,kc TB UB (Hi n)),(19,kc TB UB He),(18,kc TB UB Hd),(72,zp false [] UE),(73,kc TB UB Sm),(74,kc TB UB IL)]
theorem rH(n:Nat)(s:za)(hs:s.length<=zX){Y:Hp}{Z:Nat}{l:za}{a:Blk}{K:Hp->Hp}(b:vo TB UB Y Z l a K)(c:l.length+(yB s).length<=140737488355328) :
  fi TB UB (yd (Csh n) f50 [.ref 0 0 0,.agg [int 3,int 0,str s,.nil,.nil]] Y Z) (l++yB s) (.qS []):=by
 refine xX rfl ?_;obtain⟨Y1,d,e,_⟩:=b.put (h:=qb Y Z (some ⟨48,5,false,[[int 3,int 0,str s,.nil,.nil]]⟩)) (Z':=Z+1) (F:=IL) (rest:=[str s]) (wS _) (fun j f=>zc _ _ _ _ (by omega)) rfl rfl (iO s hs) c;simp[d,f50];exact e.ends (by simp) (by simp)
theorem Ar(n:Nat)(v:Val)(h:KK v/\v.vb<=zX/\v.vb<=n+1){Y:Hp}{Z:Nat}{l:za}{b0:Blk}{K:Hp->Hp}(I:vo TB UB Y Z l b0 K)(u:l.length+v.show.length<=140737488355328) :
  fi TB UB (yd (Csh n) f50 [.ref 0 0 0,.agg v.V] Y Z) (l++v.show) (.qS []):=by
 refine xX rfl ?_;obtain⟨G,hv,hvn⟩:=h;have hvb:=xa v;have SU:=y7 v.items;have hl2:=vO v.fields;unfold zX at hv;have hkd:=G.kind;obtain⟨S,H⟩:∃S,S=qb Y Z (some ⟨48,5,false,[v.V]⟩):=⟨_,rfl⟩;have w:∀j,j<Z->S j=Y j:=fun j hj=>by rw[H];exact zc _ _ _ _ (by omega)
 have U:S Z=some ⟨48,5,false,[v.V]⟩:=by rw[H];simp
 have ot:=I.pos;rcases(by omega:v.kind=0\/v.kind=1\/v.kind=2\/v.kind=3\/v.kind=4\/v.kind=5)with hk|hk|hk|hk|hk|hk
 ·have d:v.show=[110,117,108,108]:=by rw[xP,zl hk]
  rw[d]at u⊢;obtain⟨Y1,e,y,_⟩:=IK I (wS Z) w [110,117,108,108] (by simp) (by simpa using u);rw[H]at e;simp[hk,e,f50];exact y.ends (by simp) (by simp)
 ·have d:v.show=Lib.formatBool (v.n==1):=by
   rw[xP,zg (by omega),zl hk];by_cases h1:v.n=1
   ·rw[zl h1,h1];rfl
   ·rw[zg h1,show(v.n==1)=false from wv.2 h1];rfl
  rw[d]at u⊢;have hf:=fun Y Z=>DS (v.n==1) Y Z
  obtain⟨Y1,e,y,_⟩:=IK I (wS Z) w (Lib.formatBool (v.n==1)) (by cases (v.n==1)<;>decide) u;rw[H]at e;simp[hk,hf,e,f50];exact y.ends (by simp) (by simp)
 ·have d:v.show=ZS v.n:=by rw[xP,zg (by omega),zg (by omega),zl hk]
  rw[d]at u⊢;obtain⟨Y1,e,y,_⟩:=I.put (h:=S) (Z':=Z+1) (F:=Sm) (rest:=[int v.n]) (wS _) w rfl rfl (M6 v.n (G.num hk)) u;rw[H]at e;simp[hk,e,f50];exact y.ends (by simp) (by simp)
 ·have d:v.show=yB v.s:=by rw[xP,zg (by omega),zg (by omega),zg (by omega),zl hk]
  rw[d]at u⊢;obtain⟨Y1,e,y,_⟩:=I.put (h:=S) (Z':=Z+1) (F:=IL) (rest:=[str v.s]) (wS _) w rfl rfl (iO v.s (by unfold zX;omega)) u;rw[H]at e;simp[hk,e,f50];exact y.ends (by simp) (by simp)
 ·have d:v.show=91::(Lib.join (v.items.map Val.show) [44]++[93]):=by rw[xP,zg (by omega),zg (by omega),zg (by omega),zg (by omega),zl hk]
  rw[d]at u⊢;obtain⟨W,z⟩:=yX (Lib.join (v.items.map Val.show) [44]);have J:W=Qm [44] 0 ((v.items.drop 0).map Val.show):=by rw[jd,<-z];rfl
  rw[z]at u⊢;simp at u;obtain⟨Y1,e,y,A⟩:=Sl I (wS Z) w 91 91 rfl (by omega);have T:Y1 Z=some ⟨48,5,false,[v.V]⟩:=by rw[A Z (zi _) (by omega),U]
  rw[H]at e;simp[hk,e,T];refine qA (fun k X Y Z=>X 0=.ref 0 0 0/\X 39=.sl 5 (v.items.map Val.V)/\X 40=int v.items.length/\X 41=int k/\∃m o,ah TB UB Y Z m o/\l++91::(W++[93])=o++(Qm [44] k ((v.items.drop k).map Val.show)++[93])) v.items.length ⟨by simp,by simp,by simp,by simp,Z+1,l++[91],y,by rw[<-J];simp⟩ ?_;rintro k X Y Z Nw ⟨L,p,q,r,m,o,B,c⟩;by_cases f:k<v.items.length
  ·have hw:=wP k;have g:=zz f;have hm:=kA g;have i:=G.items _ g;rw[zj f,zL,WE]at c;obtain⟨x,M⟩:=yX (v.items[k]);rw[M]at c hm i;have N:i6.wrap 1=1:=by decide
   have b:=zk List.length c;have B':=B.same (Z':=Z+1) (Y':=qb Y Z (some ⟨48,5,false,[x.V]⟩)) (wS _) (fun j hj=>zc _ _ _ _ (by omega));by_cases t:k=0
   ·subst t;simp at c b;obtain⟨Y2,C,D,_⟩:=UF n x B' ⟨i,by unfold zX;omega,by omega⟩ (by omega);simp[L,p,q,r,f,M,C,N];exact⟨by omega,_,_,D,by simpa using c⟩
   ·rw[zg t]at c;have P:0<k:=by omega
    simp[t]at c b;obtain⟨Y2,C,D,E⟩:=Aq B' 44 44 rfl (by omega);have UM:=B.2.2.2;have Q:Y2 Z=some ⟨48,5,false,[x.V]⟩:=by rw[E Z (by omega) (by omega) (by omega)];simp
    obtain⟨UZ,e3,B3,_⟩:=UF n x D ⟨i,by unfold zX;omega,by omega⟩ (by simp;omega);simp[L,p,q,r,f,M,P,C,Q,e3,hw];exact⟨by omega,_,_,B3,by simpa using c⟩
  ·obtain rfl:k=v.items.length:=by omega
   rw[zE,xn,ZG]at c;have b:=zk List.length c;simp at c b;obtain⟨Y2,C,D,_⟩:=Aq B 93 93 rfl (by omega);simp[L,p,q,r,C,f50];exact D.ends (by simpa using c) (by simp)
 ·have d:v.show=123::(Lib.join (v.fields.map jk) [44]++[125]):=by rw[xP,zg (by omega),zg (by omega),zg (by omega),zg (by omega),zg (by omega)]
  rw[d]at u⊢;obtain⟨W,z⟩:=yX (Lib.join (v.fields.map jk) [44]);have J:W=Qm [44] 0 ((v.fields.drop 0).map jk):=by rw[jd,<-z];rfl
  rw[z]at u⊢;simp at u;obtain⟨Y1,e,y,A⟩:=Sl I (wS Z) w 123 123 rfl (by omega);have T:Y1 Z=some ⟨48,5,false,[v.V]⟩:=by rw[A Z (zi _) (by omega),U]
  rw[H]at e;simp[hk,e,T];refine qA (fun k X Y Z=>X 0=.ref 0 0 0/\X 61=.sl 6 (v.fields.map q6)/\X 62=int v.fields.length/\X 63=int k/\∃m o,ah TB UB Y Z m o/\l++123::(W++[125])=o++(Qm [44] k ((v.fields.drop k).map jk)++[125])) v.fields.length ⟨by simp,by simp,by simp,by simp,Z+1,l++[123],y,by rw[<-J];simp⟩ ?_;rintro k X Y Z Nw ⟨L,p,q,r,m,o,B,c⟩;by_cases f:k<v.fields.length
  ·have hw:=wP k;have g:=zz f;have hm:=Qi g;have i:=G.fields _ g;rw[zj f,zL,WE]at c;obtain⟨⟨a,x⟩,M⟩:∃x,v.fields[k]=x:=⟨_,rfl⟩;rw[M]at c hm i;simp only[jk]at c;simp only at hm i;have N:i6.wrap 1=1:=by decide
   have b:=zk List.length c;have B':=B.same (Z':=Z+1) (Y':=qb Y Z (some ⟨65,6,false,[str a::x.V]⟩)) (wS _) (fun j hj=>zc _ _ _ _ (by omega));have UM:=B.2.2.2;have b1:qb Y Z (some ⟨65,6,false,[str a::x.V]⟩) Z=some ⟨65,6,false,[str a::x.V]⟩:=by simp
   by_cases t:k=0
   ·subst t;simp at c b;obtain⟨Y2,C,D,E⟩:=B'.put (F:=IL) (rest:=[str a]) rfl rfl (iO a (by unfold zX;omega)) (by omega);have Q:=(E Z (by omega) (by omega) (by omega)).trans b1;obtain⟨UZ,e3,B3,R⟩:=Aq D 58 58 rfl (by simp;omega);have f3:=(R Z (by omega) (by omega) (by omega)).trans Q;obtain⟨hp4,e4,B4,_⟩:=UF n x B3 ⟨i,by unfold zX;omega,by omega⟩ (by simp;omega);simp[L,p,q,r,f,M,C,Q,e3,f3,e4,N];exact⟨by omega,_,_,B4,by simpa using c⟩
   ·rw[zg t]at c;have P:0<k:=by omega
    simp[t]at c b;obtain⟨Y1,e,y,A⟩:=Aq B' 44 44 rfl (by omega);have T:=(A Z (by omega) (by omega) (by omega)).trans b1;obtain⟨Y2,C,D,E⟩:=y.put (F:=IL) (rest:=[str a]) rfl rfl (iO a (by unfold zX;omega)) (by simp;omega);have Q:=(E Z (by omega) (by omega) (by omega)).trans T;obtain⟨UZ,e3,B3,R⟩:=Aq D 58 58 rfl (by simp;omega);have f3:=(R Z (by omega) (by omega) (by omega)).trans Q;obtain⟨hp4,e4,B4,_⟩:=UF n x B3 ⟨i,by unfold zX;omega,by omega⟩ (by simp;omega);simp[L,p,q,r,f,M,P,e,T,C,Q,e3,f3,e4,hw];exact⟨by omega,_,_,B4,by simpa using c⟩
  ·obtain rfl:k=v.fields.length:=by omega
   rw[zE,xn,ZG]at c;have b:=zk List.length c;simp at c b;obtain⟨Y2,C,D,_⟩:=Aq B 125 125 rfl (by omega);simp[L,p,q,r,C,f50];exact D.ends (by simpa using c) (by simp)
theorem rI:∀n,zh prog 50 (kc TB UB (Hi n)):=by
 intro n
 induction n with
 |zero=>exact DY ⟨_,func50,by kernel_rfl,by kernel_rfl⟩
 |succ n f=>
  have g:Gd (Csh n):=qT mixed ⟨f,VM,VL,eN,VN,nM,trivial⟩;exact vN (code:=_) g ⟨func50,by kernel_rfl,rfl,by kernel_rfl⟩ _ _ (Hi (n+1)) fun xs t r h=>by
   obtain⟨a,rfl,c,e⟩:=zQ h;injection e with i j;subst i;subst j;refine⟨rfl,qm (zi 2) (by decide),fun Y Z l k K d b=>?_⟩;cases a with
   |inl v=>exact Ar n v c d b
   |inr s=>exact rH n s c.1 d b
noncomputable def UG:zb->Option O:=qD (α:=Val ⊕ za) (fun a=>[.agg (kD a)]) (DW zX) (fun a=>str (QJ a))
theorem DZ(v:Val)(Y:Hp)(Z:Nat)(h:KK v)(b:v.vb<=zX):zp false [] UG [.agg v.V] Y Z=some (str v.show,Y,Z):=
 yg (Y1:=Y) (show zt Y [.agg v.V]=some ([.agg v.V],Y) by simp only[zt,xG]) (qj (V:=fun a:Val ⊕ za=>[.agg (kD a)]) (a:=.inl v) (fun _ _=>XD) ⟨h,b,b⟩) (.inl rfl)
theorem Hj(s:za)(Y:Hp)(Z:Nat)(h:s.length<=zX):zp false [] UG [.agg [int 3,int 0,str s,.nil,.nil]] Y Z=some (str (yB s),Y,Z):=
 yg (Y1:=Y) (show zt Y [.agg [int 3,int 0,str s,.nil,.nil]]=some ([.agg [int 3,int 0,str s,.nil,.nil]],Y) by simp) (qj (V:=fun a:Val ⊕ za=>[.agg (kD a)]) (a:=.inr s) (fun _ _=>XD) ⟨h,by unfold zX;omega⟩) (.inl rfl)
theorem iP(v:Val)(h:KK v):v.show≠[]:=by
 have a:=h.kind;rw[xP];split
 ·simp
 split
 ·split<;>simp
 split
 ·unfold ZS;intro e;have:=YM (v.n.natAbs/1000);simp_all
 split
 ·simp[yB]
 split<;>simp
noncomputable abbrev Cxs:Ctx:=qp prog [(50,kc TB UB (Hi zX)),(10,Al)]
theorem M9:Gd Cxs:=qT mixed ⟨rI zX,fU,trivial⟩
theorem rJ(a:Val ⊕ za)(h:DW zX a):zM Cxs f36 [.agg (kD a)]=some (str (QJ a)):=by
 have c:QJ a≠[]:=by
  cases a with
  |inl v=>exact iP v h.1
  |inr s=>simp[QJ,yB]
 have b:(QJ a).length<=140737488355328:=by
  cases a with
  |inl v=>have:=mn v h.1;have d:=h.2.1;unfold zX at d;simp only[QJ];omega
  |inr s=>have:=YL s;have d:=h.1;unfold zX at d;simp only[QJ];omega
 refine zw rfl ?_;have e:∀h:Hp,zt h [.agg (kD a)]=some ([.agg (kD a)],h):=fun h=>by
  cases a with
  |inl v=>simp only[kD,zt,xG]
  |inr s=>simp[kD]
 have f:([O.agg (kD a)].all O.noOwn)=true:=by
  cases a with
  |inl v=>simp only[kD,wC,ZF,VV,Jd]
  |inr s=>rfl
 obtain⟨Y1,k,l,m,_⟩:=nK (T:=TB) (U:=UB) (F:=Hi zX) (h:=qb (qb (fun _=>none) 0 (some ⟨48,5,false,[kD a]⟩)) 1 (some ⟨37,2,false,[[.v (.pointer none),.nil]]⟩)) (id:=1) (Z':=2) (rest:=[.agg (kD a)]) (by rw[q9];rfl) (by omega) (e _) f (DX zX a h) b;have n:=fun Z=>nJ Y1 Z 1 2 (QJ a) l m c (by omega)
 have g:(kD a).length=5:=by
  cases a with
  |inl v=>simp[kD]
  |inr s=>rfl
 have i:(kD a).take 5=kD a:=qv (by omega);have j:(∀x,x∈kD a->O.we x=true)=True:=eq_true (by
  cases a with
  |inl v=>intro x o;have:=fo v;rw[qc]at this;exact this x o
  |inr s=>simp[kD,O.we])
 simp[g,i,j,k,n,f36]
theorem nN:zh prog 36 (zp false [] UG):=
 XV M9 func36 false [] fun a b=>⟨by simp[f36],_,rJ a b,wy _⟩
def Sn:zb->Option O
 |[]=>some (.sl 1 (qo VX))
 |_=>none
theorem X8:zh prog 35 (zp false [] Sn):=
 jo (fn:=f35) kM (wL func35) false [] _ fun args r h=>by
  unfold Sn at h;split at h
  ·injection h with h;subst h;exact⟨by simp[f35],_,zw rfl (by simp[zu,zP,zr,qo,VX,maxLen,ja,AM.freeze,zS,qh,f35]),wy _⟩
  ·cases h
theorem nO(Y:Hp)(Z:Nat):zp false [] Sn [] Y Z=some (.sl 1 (qo VX),Y,Z):=yg rfl rfl (.inr rfl)
theorem td(u:Nat)(h:u<13):(qo VX)[u]?=some [str (Vy u)]:=by have a:VX.length=13:=rfl;simp only[qo,z8,Vy,Int.toNat_natCast];rw[zm (by omega)];rfl
noncomputable def D0:zb->Option (za×O):=qD (α:=Cnd) (fun c=>[.agg c.V]) (fun c=>ag c/\c.kind=4/\c.cb<=zX) (fun c=>(xk c,.qS []))
theorem Hk(c:Cnd)(h:ag c/\c.kind=4/\c.cb<=zX):D0 [.agg c.V]=some (xk c,.qS []):=
 qj (V:=fun c:Cnd=>[.agg c.V]) (a:=c) (fun a b e=>by simp only[zn,z7,O.agg.injEq]at e;exact YN e) h
noncomputable abbrev Sq:Ctx:=qp prog [(35,zp false [] Sn),(18,kc TB UB Hd),(33,zp false [] (sQ j7)),(36,zp false [] UG)]
theorem Hl:AM.Good Sq (fun g=>[35].contains g):=qH mixed ⟨X8,fun _=>zv _ _,VL,by simp,Qr,by simp,nN,by simp,trivial⟩
theorem dU(c:Cnd)(D:ag c)(hk:c.kind=4)(hcb:c.cb<=zX){Y:Hp}{Z:Nat}{l:za}{b0:Blk}{K:Hp->Hp}(hS:vo TB UB Y Z l b0 K)(hl:l.length+(xk c).length<=140737488355328) :
  fi TB UB (yd Sq f17 [.ref 0 0 0,.agg c.V] Y Z) (l++xk c) (.qS []):=by
 refine xX rfl ?_;have hcbe:=ZT c;have SU:=y7 c.yl;unfold zX at hcb;have ot:=hS.pos;obtain⟨o1,o2⟩:=D.op hk;obtain⟨H0,hH⟩:∃H0,H0=qb Y Z (some ⟨25,7,false,[c.V]⟩):=⟨_,rfl⟩;have R:∀j,j<Z->H0 j=Y j:=fun j hj=>by rw[hH];exact zc _ _ _ _ (by omega)
 have hH1:H0 Z=some ⟨25,7,false,[c.V]⟩:=by rw[hH];simp
 by_cases h1:c.op=1
 ·have ht:xk c=[104,97,115,32,46]++c.attr:=by unfold xk;rw[zl h1]
  rw[ht]at hl⊢;have hm:5+c.attr.length<=maxLen:=by unfold maxLen;omega
  obtain⟨Y1,v,B1,_⟩:=IK hS (wS Z) R ([104,97,115,32,46]++c.attr) (by simp) hl;rw[hH]at v;simp at v;simp[h1,hm,v,f17];exact B1.ends (by simp) (by simp)
 ·obtain⟨u,E⟩:∃u:Nat,c.op=u:=⟨c.op.toNat,by omega⟩;have hul:u<13:=by omega
  obtain⟨SG,F⟩:=yX (qo VX);have I1:SG.length=13:=by rw[<-F];rfl
  obtain⟨S,G⟩:=yX (Vy u);have hsn:S.length<=8:=by rw[<-G];exact sR _
  have U:=td u hul;rw[F,G]at U;have W:=nO;rw[F]at W;obtain⟨w,H⟩:=yX (YY c);have ht:xk c=[46]++(c.attr++([32]++(S++([32]++w)))):=by unfold xk;rw[zg h1,E,G,H]
  rw[ht]at hl⊢;simp at hl;obtain⟨Y1,v,B1,fr1⟩:=IK hS (wS Z) R ([46]++(c.attr++([32]++(S++[32])))) (by simp) (by simp;omega);have p:Y1 Z=some ⟨25,7,false,[c.V]⟩:=by rw[fr1 Z (zi _) (by omega),hH1]
  rw[hH]at v;simp at v;have mx1:1+c.attr.length<=maxLen:=by unfold maxLen;omega
  have mx2:c.attr.length+1+1<=maxLen:=by unfold maxLen;omega
  have mx3:c.attr.length+1+1+S.length<=maxLen:=by unfold maxLen;omega
  have mx4:c.attr.length+(S.length+1)+1+1<=maxLen:=by unfold maxLen;omega
  have SF:((u:Int)==1)=false:=wv.2 (by omega);have hu0:(0:Int)<=(u:Int):=by omega
  obtain⟨n1,m1,i,q,hB1⟩:∃n1 m1 i,ah TB UB Y1 n1 m1 i/\n1=Z+1+1/\m1=Z+1/\i=l++([46]++(c.attr++([32]++(S++[32])))):=⟨_,_,_,B1,rfl,rfl,rfl⟩;clear B1 fr1;refine Qk (fun st=>st.X 0=.ref 0 0 0/\st.X 3=.ref Z 0 0/\st.Z=Z+1/\st.Y=qb Y Z (some ⟨25,7,false,[c.V]⟩)) (by simp) ?_;rintro⟨X,Y2,r⟩ ⟨b,g,y,z⟩;simp only at b g y z;subst y;subst z;refine Qk (fun st=>st.X 0=.ref 0 0 0/\st.X 3=.ref Z 0 0/\st.Z=Z+1/\st.Y=qb Y Z (some ⟨25,7,false,[c.V]⟩)) (by simp[b,g,E,SF]) ?_;clear b g X;rintro⟨X,Y2,r⟩ ⟨b,g,y,z⟩;simp only at b g y z;subst y;subst z;refine Qk (fun st=>st.X 0=.ref 0 0 0/\st.X 3=.ref Z 0 0/\st.Z=n1/\st.Y=Y1) ?_ ?_
  ·simp[b,g,E,hu0,mx1,mx2,mx3,mx4,W,I1,U,v,hB1]
  clear b g X;rintro⟨X,Y2,r⟩ ⟨b,g,y,z⟩;simp only at b g y z;subst y;subst z;obtain⟨rfl,rfl,rfl⟩:=hB1;obtain⟨T,hT⟩:∃T,T=l++([46]++(c.attr++([32]++(S++([32]++w))))):=⟨_,rfl⟩;rw[<-hT];have hTl:T.length=l.length+(c.attr.length+(S.length+(w.length+1)+1)+1):=by rw[hT];simp
  have I:c.op=u:=E;refine Qk (fun st=>st.X 0=.ref 0 0 0/\st.X 3=.ref Z 0 0/\st.Y Z=some ⟨25,7,false,[c.V]⟩/\∃m d,ah TB UB st.Y st.Z m d/\T=d++Qm [32,124,32] 0 (c.yl.map Val.show)) ?_ ?_
  ·cases f:j7 c.op
   ·have A:w=Z3 c.yl:=by rw[<-H];unfold YY;rw[f];rfl
    by_cases hv:c.yl=[]
    ·have a:w=[110,101,118,101,114]:=by rw[A,Z3,zl hv]
     have htll:w.length=5:=by rw[a];rfl
     obtain⟨Y2,J,L,n⟩:=E9 q [110,101,118,101,114] (by simp) (by simp;omega);have f2:=(n Z (by omega) (by omega) (by omega)).trans p;rw[I]at f;simp[b,g,p,E,f,hv,J];exact⟨f2,_,_,L,by rw[hT,a];simp[ZG]⟩
    ·have a:w=Qm [32,124,32] 0 (c.yl.map Val.show):=by rw[A,Z3,zg hv];rfl
     have Pa:((c.yl.length:Int)==0)=false:=wv.2 fun e=>hv (yh (by omega))
     rw[I]at f;simp[b,g,p,E,f,Pa];exact⟨_,_,q,by rw[hT,a];simp⟩
   ·have hnv:c.yl=[]:=D.none hk (by simp[j7,ZO]at f;simp[YW,ZO];omega)
    have a:w=yB c.pat:=by rw[<-H];unfold YY;rw[f];rfl
    have hq:=YL c.pat;have hx:=fun Y Z=>Hj c.pat Y Z (by unfold zX;omega)
    obtain⟨Y2,J,L,n⟩:=E9 q (yB c.pat) (by simp[yB]) (by rw[<-a];simp;omega);have f2:=(n Z (by omega) (by omega) (by omega)).trans p;rw[I]at f;simp[b,g,p,E,f,hx,J,zU,qn,wW];exact⟨f2,_,_,L,by rw[hT,a,hnv];simp[ZG]⟩
  clear b g X q v p;rintro⟨X,Y2,r⟩ ⟨b,g,p,m,d,B,h⟩;simp only at b g p B;simp[b,g,p];refine qA (fun k X Y Z=>X 0=.ref 0 0 0/\X 45=.sl 5 (c.yl.map Val.V)/\X 46=int c.yl.length/\X 47=int k/\∃m d,ah TB UB Y Z m d/\T=d++Qm [32,124,32] k ((c.yl.drop k).map Val.show)) c.yl.length ⟨by simp[b],by simp,by simp,by simp,m,d,B,by simpa using h⟩ ?_;clear b g p B h X m d Y2 r;rintro k X Y Z Nw ⟨b,M,N,P,m,d,B,h⟩;by_cases s:k<c.yl.length
  ·have hw:=wP k;have C:=zz s;have hm:=kA C;have t:=D.yl _ C;rw[zj s,zL,WE]at h;obtain⟨x,hx⟩:=yX (c.yl[k]);rw[hx]at h hm t;have HT:i6.wrap 1=1:=by decide
   have o:=zk List.length h;have To:=fun Y Z=>DZ x Y Z t (by unfold zX;omega)
   have UM:=B.2.2.2;have B':=B.same (Z':=Z+1) (Y':=qb Y Z (some ⟨48,5,false,[x.V]⟩)) (wS _) (fun j hj=>zc _ _ _ _ (by omega));by_cases Q:k=0
   ·subst Q;simp at h o;obtain⟨Y2,J,L,_⟩:=E9 B' x.show (iP x t) (by omega);simp[b,M,N,P,s,hx,To,J,HT];exact⟨by omega,_,_,L,by simpa using h⟩
   ·rw[zg Q]at h;have Pb:0<k:=by omega
    simp[Q]at h o;obtain⟨Y2,J,L,n⟩:=E9 B' [32,124,32] (by simp) (by simp;omega);have f2:Y2 Z=some ⟨48,5,false,[x.V]⟩:=by rw[n Z (by omega) (by omega) (by omega)];simp
    obtain⟨UZ,e3,B3,_⟩:=E9 L x.show (iP x t) (by simp;omega);simp[b,M,N,P,s,hx,Pb,J,f2,To,e3,hw];exact⟨by omega,_,_,B3,by simpa using h⟩
  ·obtain rfl:k=c.yl.length:=by omega
   rw[zE,xn,ZG,yo]at h;simp[b,M,N,P,f17];exact B.ends h (by omega)
theorem aQ:zh prog 17 (kc TB UB D0):=
 vN (code:=_) Hl ⟨func17,by kernel_rfl,rfl,by kernel_rfl⟩ _ _ D0 fun xs t r h=>by obtain⟨c,rfl,⟨b,d,f⟩,e⟩:=zQ h;injection e with g i;subst g;subst i;exact⟨rfl,qm (zi 2) (by decide),fun Y Z l k K j a=>dU c b d f j a⟩
end Go.Q
namespace Go.Q
end Go.Q
namespace Go.AM
end Go.AM
namespace Go.Q
def XE(v:za):Nat->List za->Int
 |_,[]=>-1
 |k,s::l=>if v=s then k else XE v (k+1) l
noncomputable def FTS (out:List za->za->O):zb->Option O:=qD (α:=List za×za) (fun a=>[.sl 1 (qo a.1),str a.2]) (fun a=>a.1.length<=zX) (fun a=>out a.1 a.2)
theorem Na:∀a b:List za×za,[O.sl 1 (qo a.1),str a.2]=[O.sl 1 (qo b.1),str b.2]->a=b:=by rintro⟨f,g⟩ ⟨h,i⟩ e;simp only[zn,z7]at e;obtain⟨c,d⟩:=e;injection c with _ c;rw[ki c,ya d]
theorem D1(out:List za->za->O)(l:List za)(v:za)(Y:Hp)(Z:Nat)(h:l.length<=zX):zp false [1] (FTS out) [.sl 1 (qo l),str v] Y Z=some (out l v,Y,Z):=
 yg rfl (qj (V:=fun a:List za×za=>[O.sl 1 (qo a.1),str a.2]) (a:=(l,v)) Na h) (.inr rfl)
theorem As(l:List za)(v:za)(h:l.length<=zX):zM C0 f40 [.sl 1 (qo l),str v]=some (int (XE v 0 l)):=by
 refine zw rfl ?_;unfold zX at h;have b:(qo l).length=l.length:=by simp[qo]
 simp[b];refine qA (fun k X Y Z=>X 0=.sl 1 (qo l)/\X 1=str v/\X 7=int l.length/\X 8=int k/\XE v 0 l=XE v k (l.drop k)) l.length ⟨by simp,by simp,by simp,by simp,by simp⟩ ?_;rintro k X Y Z p ⟨i,j,m,n,a⟩;by_cases c:k<l.length
 ·obtain⟨s,hs⟩:=yX (l[k]);have o:=wP k;have e:∀h:k<(qo l).length,(qo l)[k]=[str s]:=fun h=>by simp[qo,hs]
  have f:k<(qo l).length:=by omega
  rw[zj c,hs]at a;simp only[XE]at a;by_cases g:v=s
  ·rw[zl g]at a;have d:(v==s)=true:=by simpa using g
   simp[i,j,m,n,c,b,f,e,d,a,f40]
  ·rw[zg g]at a;have d:=vL g;simp[i,j,m,n,c,b,f,e,d,o];exact⟨by omega,a⟩
 ·obtain rfl:k=l.length:=by omega
  rw[zE]at a;simp only[XE]at a;simp[i,j,m,n,a,f40]
theorem rK:zh prog 40 (zp false [1] (FTS fun l v=>int (XE v 0 l))):=
 XV kM func40 false [1] fun⟨l,v⟩ a=>⟨by simp[f40],_,As l v a,wy _⟩
theorem nP(v:za):∀(l:List za) (k:Nat),XE v k l=if v∈l then((k+l.idxOf v:Nat):Int)else -1
 |[],k=>by simp[XE]
 |s::l,k=>by
  rw[XE,nP v l (k+1)];by_cases h:v=s
  ·simp[h]
  ·have a:¬s=v:=fun e=>h e.symm
   rw[zg h];simp only[zJ,h,false_or];split
   ·have b:=vL a;rw[List.idxOf_cons,b];simp only[cond_false];omega
   ·rfl
theorem D2(w:za):XE w 0 VX=iD w:=by rw[nP,iD];simp
theorem te(w:za):-1<=iD w/\iD w<=12:=by
 unfold iD;split
 ·rename_i h;have:=List.idxOf_lt_length_of_mem h;have a:VX.length=13:=rfl;omega
 ·omega
noncomputable abbrev Cte:Ctx:=qp prog [(23,Gx),(35,zp false [] Sn),(38,iE),(40,zp false [1] (FTS fun l v=>int (XE v 0 l))),(13,nd),(24,C9),(33,zp false [] (sQ j7)),(42,zp false [] (sQ Zb)),(12,nc),(41,G6),(43,M1)]
theorem Nb:AM.Good Cte (fun g=>[35,40,33,42].contains g):=qH mixed ⟨fL,by simp,X8,fun _=>zv _ _,Q5,by simp,rK,fun _=>zv _ _,ZI,by simp,Xy,by simp,Qr,fun _=>zv _ _,YX,fun _=>zv _ _,JA,by simp,fT,by simp,Ak,by simp,trivial⟩
noncomputable abbrev Nc:AM.Spec:=mP aU (fun _ _ _=>True) (fun s st _=>(ln s zx jC st).2) (fun s st _=>.agg (ln s zx jC st).1.V)
theorem D3{s:za}{st:Pst}{Y:Hp}{id Z:Nat}(a:Y id=some (qZ s st))(hs:s.length<=20000)(Y':st.p<=s.length):Nc [.ref id 0 0] Y Z=some (.agg (ln s zx jC st).1.V,qb Y id (some (qZ s (ln s zx jC st).2)),Z):=va kq (fun _=>rfl) () a hs Y' trivial
abbrev uC:O->O:=tZ [fun x=>x,fun x=>x,fun x=>x,Lz 5,fun x=>x,fun x=>x,Lz 7]
theorem Qu:od uC:=.agg fun u a=>by
 simp only[zJ,yO,or_false]at a;rcases a with rfl|rfl|rfl|rfl|rfl|rfl|rfl
 ·exact .id
 ·exact .id
 ·exact .id
 ·exact .nz 5
 ·exact .id
 ·exact .id
 ·exact .nz 7
abbrev Zr(cs:zb):Blk:=⟨25,7,false,[cs]⟩
def Yk:zb:=[int 0,str [],int 0,.nil,str [],str [],.nil]
theorem Sr(a b c d e:O):kl prog 48 2 (.agg [a,b,c,d,e])=some c:=by simp[kl]
theorem Au:zh prog 25 Nc:=
 wZ (code:=_) Nb ⟨func25,by kernel_rfl,rfl,by kernel_rfl⟩ TP _ fun cs az cs' r h=>by
  obtain⟨s,st,⟨⟩,rfl,rfl,hs,Y,hk,rfl,rfl⟩:=jB h;refine⟨by simp[aU,f25],?_⟩;clear h;have z:=iF (s:=s) Y;obtain⟨a,t,R⟩:∃a t,aM s st=(a,t):=⟨_,_,rfl⟩;rw[R]at z;simp only at z;have A:=jJ (s:=s) z.2.1;obtain⟨w,hw⟩:=yX (Yn s t);obtain⟨E,S⟩:=yX (jg s t);rw[S]at A;obtain⟨o,T⟩:=yX (iD w);have U:=te w;rw[T]at U;simp only[ln];simp only[R,hw,S,T];refine qq (fun X Y Z=>X 0=.ref 0 0 0/\X 2=.ref 1 0 0/\Y 0=some (qZ s st)/\Y 1=some (Zr Yk)/\Z=2) (by simp[aU,qM,zN,zG,Yk,zc]) ?_;rintro X Y1 _ ⟨b,d,k,f,rfl⟩;have n:=dE (Z:=2) k hs Y;rw[R]at n;refine qq (fun X Y Z=>X 0=.ref 0 0 0/\X 2=.ref 1 0 0/\X 3=.ref 2 0 0/\Y 0=some (qZ s t)/\Y 1=some (Zr Yk)/\Y 2=some (Zr [int 4,str a,int 0,.nil,str [],str [],.nil])/\Z=3) (by simp[b,d,n,f,zc,zU,qn]) ?_;clear b d k f n X Y1;rintro X Y1 _ ⟨b,d,g,k,f,m,rfl⟩;have n:=Z4 (Z:=3) k hs z.2.1;rw[hw,S]at n;have W:=fun Y Z=>D1 (fun l v=>int (XE v 0 l)) VX w Y Z (by decide)
  simp only[D2,T]at W;have g3:=nO;refine qq (fun X Y Z=>X 0=.ref 0 0 0/\X 2=.ref 1 0 0/\X 3=.ref 2 0 0/\Y 0=some (qZ s E)/\Y 1=some (Zr Yk)/\Y 2=some (Zr [int 4,str a,int o,.nil,str [],str [],.nil])/\Z=3) ?_ ?_
  ·simp[b,d,g,n,W,g3,f,m,zc]
  clear b d g k f m n W X Y1;rintro X Y1 _ ⟨b,d,g,k,f,m,rfl⟩;have q:=k;have x:=f;simp only[Yk]at x;simp only[zN,zG,zd,zf,zo,Nat.reduceAdd]at q;by_cases J:E.e=0
  case neg=>rw[zl J];simp[b,d,g,q,x,m,J,vr J,bne,zc,f25];exact qB rfl (by simp[zc,q,zN,zG]) Qu (by simp[qC];rfl)
  rw[zg (by simpa using J)];by_cases B:o<2
  ·rw[zl B];have K:=Z5 (Z:=3) k hs A.2.1;simp only[zN,zG,zd,zf,zo,Nat.reduceAdd]at K;simp[b,d,g,q,x,m,J,B,K,zc,f25];exact qB rfl (by simp[zc,zN,zG]) Qu (by simp[qC];rfl)
  rw[zg B];refine qq (fun i Y Z=>i 0=.ref 0 0 0/\i 2=.ref 1 0 0/\i 3=.ref 2 0 0/\Y=Y1/\Z=3) (by simp[b,d,g,q,x,m,J,B]) ?_;clear b d g q x X;rintro X Y1 _ ⟨b,d,g,rfl,rfl⟩;obtain⟨u,rfl⟩:∃u:Nat,o=u:=⟨o.toNat,by omega⟩;have L:=td u (by omega);have gm:=Q6 (Z:=3) (Vy u) k hs A.2.1;have y:=vQ (s:=s) (Vy u) A.2.1;obtain⟨F,M⟩:=yX (JO s E (Vy u));rw[M]at gm y;rw[M];have u1:u<13:=by omega
  refine qq (fun i Y Z=>i 0=.ref 0 0 0/\i 2=.ref 1 0 0/\i 3=.ref 2 0 0/\Y 0=some (qZ s F)/\Y 1=some (Zr Yk)/\Y 2=some (Zr [int 4,str a,int u,.nil,str [],str [],.nil])/\Z=3) ?_ ?_
  ·simp[b,d,g,m,f,g3,L,gm,zc]
  clear b d g k f m gm g3 L X;rintro X Y1 _ ⟨b,d,g,k,f,m,rfl⟩;simp only[Yk]at f;cases N:j7 u
  case true=>
   simp only[qa];have n:=VC (Z:=3) k hs y.2.1;have G:=jJ (s:=s) y.2.1;obtain⟨j,P⟩:=yX (jg s F);rw[P]at n G;rw[P];simp only[zN,zG,zd,zf,zo,Nat.reduceAdd]at n;have Q:qb Y1 0 (some (qZ s j)) 0=some (qZ s j):=by simp
   have K:=Z5 (Z:=3) Q hs G.2.1;have D:=VJ (Z:=3) Q hs G.2.1;simp only[zN,zG,zd,zf,zo,Nat.reduceAdd,wI,wa]at K D;by_cases H:j.p<s.length
   case neg=>
    rw[zg (by rw[q5 (by omega)];simp)];have C:(s.length:Int)<=j.p:=by omega
    simp[b,d,g,m,f,N,n,C,K,zc,f25];exact qB rfl (by simp[zc,zN,zG]) Qu (by simp[qC];rfl)
   have C:¬(s.length:Int)<=j.p:=by omega
   obtain⟨c,I⟩:=yX (s[j.p]);have Ez:s[j.p]?=some c:=by rw[<-I];exact zm H
   rw[Ez];by_cases hq:c=34
   ·subst hq;simp only[qa];simp[b,d,g,m,f,N,n,C,H,I,D,Sr,zc,f25];exact qB rfl (by simp[zc,zN,zG]) Qu (by simp[qC];rfl)
   ·have hq':((c.toNat:Int)==34)=false:=ee 34 hq;rw[zg (by simpa using hq)];simp[b,d,g,m,f,N,n,C,H,I,hq',bne,K,zc,f25];exact qB rfl (by simp[zc,zN,zG]) Qu (by simp[qC];rfl)
  simp only[zq,qf];cases hi:Zb u
  case true=>simp only[qa];have D:=VJ (Z:=3) k hs y.2.1;simp only[zN,zG,zd,zf,zo,Nat.reduceAdd,wa]at D;simp[b,d,g,m,f,N,hi,D,zc,zu,zP,zr,f25];exact qB (r0:=.agg [int 4,str a,int u,.sl 5 [(Q4 s zx F).1.V],str [],str [],.nil]) (by simp[AM.freeze,zS,qe,qh,zc,wa];rfl) (by simp[zc,zN,zG]) Qu (by simp[qC];rfl)
  simp only[zq,qf];have D:=DL (Z:=3) k hs y.2.1;simp only[zN,zG,zd,zf,zo,Nat.reduceAdd]at D;simp[b,d,g,m,f,N,hi,D,zc,f25];exact qB rfl (by simp[zc,zN,zG]) Qu (by simp[qC];rfl)
theorem Hm(t:za):((t.drop (t.takeWhile (·==32)).length).takeWhile (·==32))=[]:=by
 induction t with
 |nil=>rfl
 |cons c t a=>
  rw[kU];split
  ·simpa using a
  ·rename_i b;simp[List.takeWhile,b]
theorem Av(s:za)(st:Pst):jg s (jg s st)=jg s st:=by have:=Hm (s.drop st.p);rw[List.drop_drop]at this;simp only[jg,Pst.mv];rw[this];rfl
theorem Nd(s:za)(st:Pst):Yn s (jg s st)=Yn s st:=by rw[Yn,Av,<-Yn]
theorem D4(l:List Cnd)(x:Cnd):JT (l++[x])=JT l+x.cb:=by
 induction l with
 |nil=>simp[JT]
 |cons y l a=>simp only[qg,JT,a];omega
section
variable{s:za}
theorem D5{st:Pst}{w:za}(h:st.p<=s.length)(b:(JO s st w).e=0):Yn s st=w:=by
 unfold JO at b;split at b
 ·rename_i a;unfold j8 at a;split at a
  ·cases a
  ·split at a
   ·assumption
   ·cases a
 ·exact absurd b (WV (jx w h).2.1).2.2.2
theorem iQ{st:Pst}(h:st.p<=s.length):(na s st).p<=s.length/\(na s st).d=st.d+1/\((na s st).e=0->st.e=0/\st.d<100/\st.p+1<=(na s st).p):=by
 have b:=jJ (s:=s) h;simp only[na,Pst.dn];by_cases c:st.e=0
 ·simp only[zl c];by_cases f:Yn s st=[40]/\100<=st.d
  ·simp only[zl f];have g:=Qs (jg s st) 0 2;have a:=vQ (s:=s) (st:=(jg s st).fail 0 2) [40] (by rw[g.1];exact b.2.1);refine⟨a.2.1,by rw[a.2.2.1,g.2,b.2.2.2.2],fun e=>?_⟩;have:=(a.2.2.2 e).1;unfold Pst.fail at this;rw[zl (b.2.2.1.trans c)]at this;simp at this
  ·simp only[zg f];have a:=vQ (s:=s) (st:=jg s st) [40] b.2.1;refine⟨a.2.1,by rw[a.2.2.1,b.2.2.2.2],fun e=>?_⟩;have i:=D5 b.2.1 e;rw[Nd]at i;have j:=(a.2.2.2 e).2;simp only[zd,zf]at j;exact⟨c,Nat.lt_of_not_le fun k=>f ⟨i,k⟩,by omega⟩
 ·simp only[zg c];have a:=vQ (s:=s) [40] h;exact⟨a.2.1,by rw[a.2.2.1],fun e=>absurd (a.2.2.2 e).1 c⟩
def Hn(s:za)(st:Pst)(r:Cnd×Pst):Prop:=r.2.p<=s.length/\r.2.d=st.d/\(r.2.e=0->st.e=0/\st.p<=r.2.p/\r.1.cb<=r.2.p-st.p+1)
theorem D6{f:Pst->Cnd×Pst}(b:∀st,st.p<=s.length->Hn s st (f st)):∀(k:Nat) (l:List Cnd) (st:Pst),st.p<=s.length->(oB s f k l st).2.p<=s.length/\(oB s f k l st).2.d=st.d/\((oB s f k l st).2.e=0->st.e=0/\st.p<=(oB s f k l st).2.p/\JT (oB s f k l st).1<=JT l+((oB s f k l st).2.p-st.p))
 | 0,l,st,h=>by simp only[oB];exact⟨h,trivial,fun e=>⟨e,zi _,by omega⟩⟩
 |k+1,l,st,h=>by
  have a:=jx (s:=s) [44] h;rw[oB];split
  ·rename_i i;have c:=a.2.2.2.2 i;simp only[zd,zf]at c;obtain⟨j,m,n⟩:=b _ a.2.1;obtain⟨o,q,r⟩:=D6 b k (l++[(f (j8 s st [44]).2).1]) _ j;refine⟨o,by rw[q,m,a.2.2.2.1],fun e=>?_⟩;have g:=r e;have t:=n g.1;rw[D4]at g;exact⟨c.1,by omega,by omega⟩
  ·exact⟨a.2.1,a.2.2.2.1,fun e=>⟨by rw[<-a.2.2.1];exact e,a.1,by simp only;omega⟩⟩
theorem D7{f:Pst->Cnd×Pst}(j:∀st,st.p<=s.length->Hn s st (f st)){st:Pst}(h:st.p<=s.length):(dB s f st).2.p<=s.length/\(dB s f st).2.d=st.d/\((dB s f st).2.e=0->st.e=0/\st.p+2<=(dB s f st).2.p/\JT (dB s f st).1<=(dB s f st).2.p-st.p):=by
 have b:=iQ (s:=s) h;have c:=jJ (s:=s) b.1;simp only[dB,Pst.up];by_cases g:(na s st).e=0
 ·simp only[zl g];have k:=b.2.2 g;split
  ·have a:=vQ (s:=s) [41] c.2.1;refine⟨a.2.1,by rw[a.2.2.1,c.2.2.2.2,b.2.1];omega,fun e=>?_⟩;have i:=(a.2.2.2 e).2;simp only[zd,zf]at i;exact⟨k.1,by simp only;omega,by simp only[JT];omega⟩
  ·obtain⟨m,n,o⟩:=j _ c.2.1;obtain⟨q,r,t⟩:=D6 j (s.length+1) [(f (jg s (na s st))).1] _ m;have a:=vQ (s:=s) [41] q;refine⟨a.2.1,by rw[a.2.2.1,r,n,c.2.2.2.2,b.2.1];omega,fun e=>?_⟩;have i:=a.2.2.2 e;simp only[zd,zf]at i;have l:=t i.1;have u:=o l.1;simp only[JT]at l;exact⟨k.1,by omega,by omega⟩
 ·simp only[zg g];have a:=vQ (s:=s) [41] b.1;exact⟨a.2.1,by rw[a.2.2.1,b.2.1];omega,fun e=>absurd (a.2.2.2 e).1 g⟩
theorem Nf{f:Pst->Cnd×Pst}(g:∀st,st.p<=s.length->Hn s st (f st)){st:Pst}(h:st.p<=s.length):(lp s f st).2.p<=s.length/\(lp s f st).2.d=st.d/\((lp s f st).2.e=0->st.e=0/\st.p+2<=(lp s f st).2.p/\JT (lp s f st).1<=(lp s f st).2.p-st.p):=by have a:=iQ (s:=s) h;simp only[lp,Pst.up];obtain⟨i,j,k⟩:=g _ a.1;have b:=vQ (s:=s) [41] i;refine⟨b.2.1,by rw[b.2.2.1,j,a.2.1];omega,fun e=>?_⟩;have c:=b.2.2.2 e;simp only[zd,zf]at c;have l:=k c.1;have m:=a.2.2 l.1;simp only[JT];exact⟨m.1,by omega,by omega⟩
theorem D8:∀(k:Nat) (l:List Val) (st:Pst),st.p<=s.length->(mY s zx k l st).2.p<=s.length/\(mY s zx k l st).2.d=st.d/\((mY s zx k l st).2.e=0->st.e=0/\st.p<=(mY s zx k l st).2.p/\kf (mY s zx k l st).1<=kf l+((mY s zx k l st).2.p-st.p))
 | 0,l,st,h=>by simp only[mY];exact⟨h,trivial,fun e=>⟨e,zi _,by omega⟩⟩
 |k+1,l,st,h=>by
  have a:=jx (s:=s) [124] h;rw[mY];split
  ·rename_i c;obtain⟨_,f,_,g,i,j,_⟩:=nI h c;obtain⟨m,n,o⟩:=D8 k (l++[(Q4 s zx (j8 s st [124]).2).1]) _ f;refine⟨m,by rw[n,g],fun e=>?_⟩;have b:=o e;have q:=j b.1;rw[VI]at b;exact⟨i,by omega,by omega⟩
  ·exact⟨a.2.1,a.2.2.2.1,fun e=>⟨by rw[<-a.2.2.1];exact e,a.1,by simp only;omega⟩⟩
theorem Ng{st:Pst}(h:st.p<=s.length):(mZ s zx jC st).2.p<=s.length/\(mZ s zx jC st).2.d=st.d/\((mZ s zx jC st).2.e=0->st.e=0/\st.p<=(mZ s zx jC st).2.p/\kf (mZ s zx jC st).1<=(mZ s zx jC st).2.p-st.p+1):=by
 have a:=jx (s:=s) [110,101,118,101,114] h;simp only[mZ];split
 ·exact⟨a.2.1,a.2.2.2.1,fun e=>⟨by rw[<-a.2.2.1];exact e,a.1,by simp only[kf];omega⟩⟩
 ·have b:=dS (s:=s) a.2.1;obtain⟨f,g,i⟩:=D8 (s:=s) (s.length+1) [(Q4 s zx (j8 s st [110,101,118,101,114]).2).1] _ b.1;refine⟨f,by rw[g,b.2.1,a.2.2.2.1],fun e=>?_⟩;have c:=i e;have j:=b.2.2.1 c.1;have k:=DK (mY s zx (s.length+1) [(Q4 s zx (j8 s st [110,101,118,101,114]).2).1] (Q4 s zx (j8 s st [110,101,118,101,114]).2).2).1;simp only[kf]at c;simp only[jC]at k⊢;exact⟨by rw[<-a.2.2.1];exact j.1,by omega,by omega⟩
theorem Ho(o:Int)(a:2<=o)(b:o<=12):1<=(Vy o).length:=by rcases(by omega:o=2\/o=3\/o=4\/o=5\/o=6\/o=7\/o=8\/o=9\/o=10\/o=11\/o=12)with rfl|rfl|rfl|rfl|rfl|rfl|rfl|rfl|rfl|rfl|rfl<;>decide
theorem Nh{st:Pst}(h:st.p<=s.length):(ln s zx jC st).2.p<=s.length/\(ln s zx jC st).2.d=st.d/\((ln s zx jC st).2.e=0->st.p<=(ln s zx jC st).2.p/\(ln s zx jC st).1.cb<=(ln s zx jC st).2.p-st.p+1):=by
 have i:=iF (s:=s) h;obtain⟨a,b,r⟩:∃a b,aM s st=(a,b):=⟨_,_,rfl⟩;have j:=jJ (s:=s) (st:=b) (by rw[r]at i;exact i.2.1);have t:=te (Yn s b);simp only[ln];rw[r]at i;simp only[r];simp only at i;obtain⟨k,l⟩:=yX (jg s b);obtain⟨o,x⟩:=yX (iD (Yn s b));rw[x]at t;rw[l]at j;simp only[l,x];have g:k.d=st.d:=j.2.2.2.2.trans i.2.2.1;have u:=WV (s:=s) j.2.1;split
 ·rename_i z;exact⟨j.2.1,g,fun e=>absurd e z⟩
 split
 ·exact⟨u.2.1,u.2.2.1.trans g,fun e=>absurd e u.2.2.2⟩
 rename_i A;have c:=vQ (s:=s) (Vy o) j.2.1;have B:=Ho o (by omega) (by omega);obtain⟨v,m⟩:=yX (JO s k (Vy o));rw[m]at c;simp only[m];split
 ·have n:=jJ (s:=s) c.2.1;have f:=dS (s:=s) n.2.1;have w:=WV (s:=s) n.2.1;split
  ·refine⟨f.1,by rw[f.2.1,n.2.2.2.2,c.2.2.1,g],fun e=>?_⟩;have q:=f.2.2.1 e;have y:=c.2.2.2 (by rw[<-n.2.2.1];exact q.1);have C:=xa (Q4 s zx (jg s v)).1;rw[ZT];simp only[Cnd.attr,Cnd.yl,Cnd.pat,Cnd.name,Cnd.args,kf,JT,zf];exact⟨by omega,by omega⟩
  ·exact⟨w.2.1,by rw[w.2.2.1,n.2.2.2.2,c.2.2.1,g],fun e=>absurd e w.2.2.2⟩
 split
 ·have f:=dS (s:=s) c.2.1;refine⟨f.1,by rw[f.2.1,c.2.2.1,g],fun e=>?_⟩;have q:=f.2.2.1 e;have y:=c.2.2.2 q.1;rw[ZT];simp only[Cnd.attr,Cnd.yl,Cnd.pat,Cnd.name,Cnd.args,kf,JT,zf];exact⟨by omega,by omega⟩
 ·have f:=Ng (s:=s) c.2.1;refine⟨f.1,by rw[f.2.1,c.2.2.1,g],fun e=>?_⟩;have q:=f.2.2 e;have y:=c.2.2.2 q.1;rw[ZT];simp only[Cnd.attr,Cnd.yl,Cnd.pat,Cnd.name,Cnd.args,JT,zf];exact⟨by omega,by omega⟩
theorem XF:∀(k:Nat) (st:Pst),st.p<=s.length->Hn s st (VB s zx jC k st)
 | 0,st,h=>by refine⟨h,rfl,fun e=>⟨e,zi _,?_⟩⟩;rw[ZT];simp[VB,zC,Cnd.attr,Cnd.yl,Cnd.pat,Cnd.name,Cnd.args,kf,JT]
 |k+1,st,h=>by
  have t:=XF k;have a:=jx (s:=s) [97,108,108] h;have b:=jx (s:=s) [97,110,121] a.2.1;have c:=jx (s:=s) [110,111,116] b.2.1;have d:=jx (s:=s) [105,110] c.2.1;have f:=jx (s:=s) [104,97,115] d.2.1;have g:=jx (s:=s) [46] f.2.1;rw[VB];simp only;obtain⟨D,u,K⟩:∃D u,j8 s st [97,108,108]=(D,u):=⟨_,_,rfl⟩;simp only[K]at a b c d f g⊢;obtain⟨E,v,L⟩:∃E v,j8 s u [97,110,121]=(E,v):=⟨_,_,rfl⟩;simp only[L]at b c d f g⊢;obtain⟨F,z,M⟩:∃F z,j8 s v [110,111,116]=(F,z):=⟨_,_,rfl⟩;simp only[M]at c d f g⊢;obtain⟨G,A,N⟩:∃G A,j8 s z [105,110]=(G,A):=⟨_,_,rfl⟩;simp only[N]at d f g⊢;obtain⟨H,B,P⟩:∃H B,j8 s A [104,97,115]=(H,B):=⟨_,_,rfl⟩;simp only[P]at f g⊢;obtain⟨I,J,Q⟩:∃I J,j8 s B [46]=(I,J):=⟨_,_,rfl⟩;simp only[Q]at g⊢;simp only[zd,zf]at a b c d f g;have C:∀(x:Int) (l:List Cnd),(Cnd.mk x [] 0 [] [] [] l).cb=1+JT l:=fun x l=>by rw[ZT];simp[Cnd.attr,Cnd.yl,Cnd.pat,Cnd.name,Cnd.args,kf]
  split
  ·rename_i n;have y:=a.2.2.2.2 n;obtain⟨o,q,r⟩:=D7 t a.2.1;refine⟨o,q.trans a.2.2.2.1,fun e=>?_⟩;have j:=r e;simp only at j⊢;rw[C];exact⟨y.1,by omega,by omega⟩
  split
  ·rename_i n;have y:=b.2.2.2.2 n;obtain⟨o,q,r⟩:=D7 t b.2.1;refine⟨o,by rw[show _=_ from q,b.2.2.2.1,a.2.2.2.1],fun e=>?_⟩;have j:=r e;simp only at j⊢;rw[C];exact⟨by rw[<-a.2.2.1];exact y.1,by omega,by omega⟩
  split
  ·rename_i n;have y:=c.2.2.2.2 n;obtain⟨o,q,r⟩:=Nf t c.2.1;refine⟨o,by rw[show _=_ from q,c.2.2.2.1,b.2.2.2.1,a.2.2.2.1],fun e=>?_⟩;have j:=r e;simp only at j⊢;rw[C];exact⟨by rw[<-a.2.2.1,<-b.2.2.1];exact y.1,by omega,by omega⟩
  split
  ·rename_i n;have y:=d.2.2.2.2 n;have i:=iF (s:=s) d.2.1;refine⟨i.2.1,by rw[show _=_ from i.2.2.1,d.2.2.2.1,c.2.2.2.1,b.2.2.2.1,a.2.2.2.1],fun e=>?_⟩;rw[ZT];simp only[Cnd.attr,Cnd.yl,Cnd.pat,Cnd.name,Cnd.args,kf,JT,zf];exact⟨by rw[<-a.2.2.1,<-b.2.2.1,<-c.2.2.1];exact y.1,by omega,by omega⟩
  split
  ·rename_i n;have y:=f.2.2.2.2 n;have m:=vQ (s:=s) [46] f.2.1;have i:=iF (s:=s) m.2.1;refine⟨i.2.1,by rw[show _=_ from i.2.2.1,m.2.2.1,f.2.2.2.1,d.2.2.2.1,c.2.2.2.1,b.2.2.2.1,a.2.2.2.1],fun e=>?_⟩;rw[ZT];simp only[Cnd.attr,Cnd.yl,Cnd.pat,Cnd.name,Cnd.args,kf,JT,zf];exact⟨by rw[<-a.2.2.1,<-b.2.2.1,<-c.2.2.1,<-d.2.2.1];exact y.1,by omega,by omega⟩
  split
  ·rename_i n;have y:=g.2.2.2.2 n;obtain⟨o,q,r⟩:=Nh g.2.1;refine⟨o,by rw[q,g.2.2.2.1,f.2.2.2.1,d.2.2.2.1,c.2.2.2.1,b.2.2.2.1,a.2.2.2.1],fun e=>?_⟩;have j:=r e;exact⟨by rw[<-a.2.2.1,<-b.2.2.1,<-c.2.2.1,<-d.2.2.1,<-f.2.2.1];exact y.1,by omega,by omega⟩
  ·have w:=WV (s:=s) g.2.1;exact⟨w.2.1,by rw[show _=_ from w.2.2.1,g.2.2.2.1,f.2.2.2.1,d.2.2.2.1,c.2.2.2.1,b.2.2.2.1,a.2.2.2.1],fun e=>absurd e w.2.2.2⟩
end
theorem nQ{Y:Hp}{Z:Nat}{v:O}{l:List Cnd}(f:qV Y Z 25 7 v (l.map Cnd.V))(x:Cnd)(g:l.length<100000000000):∃Y2,yM prog (qb Y Z (some ⟨25,7,true,[x.V]⟩)) (Z+1) 23 23 v (.own Z 0 1)=some (.own (Z+1) 0 (l.length+1),Y2,Z+2)/\qV Y2 (Z+2) 25 7 (.own (Z+1) 0 (l.length+1)) ((l++[x]).map Cnd.V)/\∀j,j<Z->(∀n,v≠.own j 0 n)->Y2 j=Y j:=by
 have a:=f.jt (P:=prog) (t:=23) (c:=x.V) el23 sz25 by25 ze25 (by simp) (by omega) (by simp[maxLen];omega) (by simp;omega);have b:=qV.after (Y:=Y) (Z:=Z) (e:=25) (s:=7) (v:=v) (xs:=l.map Cnd.V) (c:=x.V) (tmp:=some ⟨25,7,true,[x.V]⟩);rw[yK]at a;refine⟨_,a,?_,fun j h d=>?_⟩
 ·rw[JI];simpa using b
 ·rw[wA _ _ _ _ (by omega),yf f _ j d,wA _ _ _ _ (by omega)]
theorem fV{cs:zb}{Y:Hp}{Z:Nat}{v:O}{l:List Cnd}(b:qV Y Z 25 7 v (l.map Cnd.V))(a:Y 0=some (zN TP cs))(Z':Nat):lZ TP cs (.sl 7 (l.map Cnd.V)) v Y Z':=by
 have c:=wc b a rfl;rcases b with⟨rfl,d⟩|⟨id,hid,rfl,f⟩
 ·have:l=[]:=by simpa using d
  subst this;exact qB rfl a (.nz 7) rfl
 ·have g:AM.freeze Y (.own id 0 (l.map Cnd.V).length)=some (.sl 7 (l.map Cnd.V),qb Y id none):=by simp[AM.freeze,zS,qh,f];exact qv (by simp)
  exact qB g (by rw[zc _ _ _ _ (fun e=>c _ (by rw[<-e]))];exact a) .id rfl
def Ss(k:Nat)(st:Pst):Prop:=102<=st.d+k/\(st.d<=100\/st.e≠0/\st.d<=101)
def Hq(k:Nat)(st:Pst):Prop:=st.e=0/\st.d<=100/\102<=st.d+k+1
noncomputable abbrev VO (s:za) (k:Nat) (st:Pst):Cnd×Pst:=VB s zx jC k st
noncomputable def D9 (k:Nat):AM.Spec:=mP aU (fun _ st _=>Ss k st) (fun s st _=>(VO s k st).2) (fun s st _=>.agg (VO s k st).1.V)
theorem VP{k:Nat}{s:za}{st:Pst}{Y:Hp}{id Z:Nat}(a:Y id=some (qZ s st))(hs:s.length<=20000)(Y':st.p<=s.length)(b:Ss k st):D9 k [.ref id 0 0] Y Z=some (.agg (VO s k st).1.V,qb Y id (some (qZ s (VO s k st).2)),Z):=va kq (fun _=>rfl) () a hs Y' b
noncomputable def arS (k:Nat):AM.Spec:=mP aU (fun _ st _=>Hq k st) (fun s st _=>(dB s (VO s k) st).2) (fun s st _=>.sl 7 ((dB s (VO s k) st).1.map Cnd.V))
theorem nR{k:Nat}{s:za}{st:Pst}{Y:Hp}{id Z:Nat}(a:Y id=some (qZ s st))(hs:s.length<=20000)(Y':st.p<=s.length)(b:Hq k st):arS k [.ref id 0 0] Y Z=some (.sl 7 ((dB s (VO s k) st).1.map Cnd.V),qb Y id (some (qZ s (dB s (VO s k) st).2)),Z):=va kq (fun _=>rfl) () a hs Y' b
noncomputable def siS (k:Nat):AM.Spec:=mP aU (fun _ st _=>Hq k st) (fun s st _=>(lp s (VO s k) st).2) (fun s st _=>.sl 7 ((lp s (VO s k) st).1.map Cnd.V))
theorem Ea{k:Nat}{s:za}{st:Pst}{Y:Hp}{id Z:Nat}(a:Y id=some (qZ s st))(hs:s.length<=20000)(Y':st.p<=s.length)(b:Hq k st):siS k [.ref id 0 0] Y Z=some (.sl 7 ((lp s (VO s k) st).1.map Cnd.V),qb Y id (some (qZ s (lp s (VO s k) st).2)),Z):=va kq (fun _=>rfl) () a hs Y' b
noncomputable abbrev Ni (k:Nat):Ctx:=qp prog [(38,iE),(26,dC),(24,C9),(20,nf),(11,D9 k)]
theorem tf{k:Nat}(h:zh prog 11 (D9 k)):Gd (Ni k):=qT mixed ⟨Q5,Y3,Xy,JB,h,trivial⟩
set_option maxHeartbeats 8000000 in
theorem Aw{k:Nat}(h:zh prog 11 (D9 k)):zh prog 22 (siS k):=
 yQ (C:=Ni k) func22 (by kernel_rfl) rfl TP _ fun cs az cs' r hF=>by
  obtain⟨s,st,⟨⟩,rfl,rfl,hs,Y,⟨x,hd0,hk0⟩,rfl,rfl⟩:=jB hF;refine⟨by simp[aU,f22],?_⟩;clear hF;have B:=tf h;have y:=iQ (s:=s) Y;have j:=jJ (s:=s) Y;obtain⟨w,hw⟩:=yX (Yn s st);obtain⟨n,z⟩:=yX (jg s st);obtain⟨q,g⟩:=yX (if w=[40]/\100<=st.d then n.fail 0 2 else n);have t:na s st=(JO s q [40]).dn:=by rw[<-g,<-z,<-hw];simp only[na,zl x]
  have H:q.p<=s.length/\q.d=st.d:=by
   rw[<-g,<-z];split
   ·rw[(Qs _ _ _).1,(Qs _ _ _).2];exact⟨j.2.1,j.2.2.2.2⟩
   ·exact⟨j.2.1,j.2.2.2.2⟩
  rw[z]at j;have S:=vQ (s:=s) [40] H.1;refine Wp.cut B (fun X Y Z=>X 0=.ref 0 0 0/\Y 0=some (qZ s st)/\Z=1) (by kernel_rfl) (by simp[aU,qM]) ?_;rintro X Y1 _ ⟨f,b,rfl⟩;have u:=b;simp only[zN,zG,zd,zf,zo,Nat.reduceAdd]at u;refine Wp.cut B (fun a Y Z=>a 0=.ref 0 0 0/\Y 0=some (qZ s q)/\Z=1) (by kernel_rfl) ?_ ?_
  ·have I:=Z4 (Z:=1) b hs Y;rw[hw,z]at I;have gf:=WU (Y:=qb Y1 0 (some (qZ s n))) (id:=0) (Z:=1) 0 2 (by simp) hs j.2.1;have hda:n.d=st.d:=j.2.2.2.2;simp only[zN,zG,zd,zf,zo,Nat.reduceAdd,wI,qz]at I gf;by_cases v:w=[40]
   ·by_cases hd:100<=st.d
    ·rw[zl ⟨v,hd⟩]at g;have D:(100:Int)<=n.d:=by omega
     simp[f,u,x,I,v,D,gf,<-g,zN,zG]
    ·rw[zg (fun h=>hd h.2)]at g;have D:¬(100:Int)<=n.d:=by omega
     simp[f,u,x,I,v,D,<-g,zN,zG]
   ·rw[zg (fun h=>v h.1)]at g;have J:=vL v;simp[f,u,x,I,J,<-g,zN,zG]
  clear f b u X Y1;rintro X Y1 _ ⟨f,b,rfl⟩;have E:=Q6 (Z:=1) [40] b hs H.1;obtain⟨K,T⟩:=yX (JO s q [40]);rw[T]at E S t;refine Wp.cut B (fun a Y Z=>a 0=.ref 0 0 0/\Y 0=some (qZ s K)/\Z=1) (by kernel_rfl) (by simp[f,E]) ?_;clear f b E X Y1;rintro X Y1 _ ⟨f,b,rfl⟩;obtain⟨m,L⟩:=yX (na s st);rw[L]at y t;have U:=wY ((K.d:Int)+1);refine Wp.cut B (fun a Y Z=>a 0=.ref 0 0 0/\Y 0=some (qZ s m)/\Z=1) (by kernel_rfl) ?_ ?_
  ·simp only[zN,zG,zd,zf,zo,Nat.reduceAdd]at b⊢;simp[f,b,U,t,Pst.dn]
  clear f b X Y1;rintro X Y1 _ ⟨f,b,rfl⟩;have M:=VP (k:=k) (Z:=1) b hs y.1 (by
   refine⟨by omega,?_⟩;by_cases he:m.e=0
   ·have:=y.2.2 he;exact .inl (by omega)
   ·exact .inr ⟨he,by omega⟩)
  have N:=XF k m y.1;simp only[lp];rw[L];obtain⟨c,i,F⟩:∃c i,VO s k m=(c,i):=⟨_,_,rfl⟩;have P:i.p<=s.length:=by have:=N.1;rw[show VB s zx jC k m=(c,i)from F]at this;exact this
  have hdE:i.d=m.d:=by have:=N.2.1;rw[show VB s zx jC k m=(c,i)from F]at this;exact this
  rw[F]at M⊢;simp only at M⊢;obtain⟨l,W⟩:∃l:List Cnd,l=[c]:=⟨_,rfl⟩;rw[<-W];refine Wp.cut B (fun a Y Z=>a 0=.ref 0 0 0/\qV Y Z 25 7 (a 3) (l.map Cnd.V)/\Y 0=some (qZ s i)) (by kernel_rfl) ?_ ?_
  ·simp only[qC]at M;simp[f,M,zu,zP,zr,zc];exact .inr ⟨1,by simp,by simp[W],by simp[W,qC]⟩
  clear f b M X Y1;rintro A Y2 HI ⟨f,G,b⟩;have E:=Q6 (Z:=HI) [41] b hs P;have hmE:=vQ (s:=s) [41] P;obtain⟨o,SM⟩:=yX (JO s i [41]);rw[SM]at E hmE⊢;have Q:=wc G b rfl;refine Wp.cut B (fun a Y Z=>a 0=.ref 0 0 0/\a 3=A 3/\qV Y Z 25 7 (A 3) (l.map Cnd.V)/\Y 0=some (qZ s o)) (by kernel_rfl) (by simp[f,E];simpa using G.put Q (some (qZ s o))) ?_;clear f b E;rintro X Y1 Z ⟨f,R,G,b⟩;have NK:i6.wrap ((o.d:Int)-1)=((o.d-1:Nat):Int):=by rw[wN (by omega) (by omega)];omega
  refine Wp.cut B (fun a Y Z=>a 3=A 3/\qV Y Z 25 7 (A 3) (l.map Cnd.V)/\Y 0=some (qZ s o.up)) (by kernel_rfl) ?_ ?_
  ·have O2:=G.put Q (some (qZ s o.up));simp only[zN,zG,Pst.up,zd,zf,zo,Nat.reduceAdd]at b O2⊢;simp[f,R,b,NK];simpa using O2
  clear f R G b;rintro X Y1 Z ⟨R,G,b⟩;refine Wp.of B (by kernel_rfl) ?_;simp[R,f22];exact fV G b _
def ArI(s:za)(k D:Nat)(r:List Cnd×Pst)(n:Nat)(st:St):Prop:=st.X 0=.ref 0 0 0/\0<st.Z/\∃l a j,qV st.Y st.Z 25 7 (st.X 3) (l.map Cnd.V)/\st.Y 0=some (qZ s a)/\a.p<=s.length/\a.d=D/\Zq s a=n/\n<=j/\l.length+n<=s.length+2/\oB s (VO s k) j l a=r
def ArE(s:za)(D:Nat)(r:List Cnd×Pst)(st:St):Prop:=st.X 0=.ref 0 0 0/\0<st.Z/\∃l a,qV st.Y st.Z 25 7 (st.X 3) (l.map Cnd.V)/\st.Y 0=some (qZ s a)/\a.p<=s.length/\a.d=D/\(l,a)=r
set_option maxHeartbeats 8000000 in
theorem Ax{k:Nat}(h:zh prog 11 (D9 k)):zh prog 21 (arS k):=
 yQ (C:=Ni k) func21 (by kernel_rfl) rfl TP _ fun cs az cs' r hF=>by
  obtain⟨s,st,⟨⟩,rfl,rfl,hs,Y,⟨W,hd0,hk0⟩,rfl,rfl⟩:=jB hF;refine⟨by simp[aU,f21],?_⟩;clear hF;have D:=tf h;have A:=iQ (s:=s) Y;have B:=jJ (s:=s) Y;obtain⟨w,hw⟩:=yX (Yn s st);obtain⟨E,OZ⟩:=yX (jg s st);obtain⟨M,t⟩:=yX (if w=[40]/\100<=st.d then E.fail 0 2 else E);have N:na s st=(JO s M [40]).dn:=by rw[<-t,<-OZ,<-hw];simp only[na,zl W]
  have hbp:M.p<=s.length/\M.d=st.d:=by
   rw[<-t,<-OZ];split
   ·rw[(Qs _ _ _).1,(Qs _ _ _).2];exact⟨B.2.1,B.2.2.2.2⟩
   ·exact⟨B.2.1,B.2.2.2.2⟩
  rw[OZ]at B;have hmu:=vQ (s:=s) [40] hbp.1;refine Wp.cut D (fun X Y Z=>X 0=.ref 0 0 0/\Y 0=some (qZ s st)/\Z=1) (by kernel_rfl) (by simp[aU,qM]) ?_;rintro X Y1 _ ⟨f,g,rfl⟩;have m:=g;simp only[zN,zG,zd,zf,zo,Nat.reduceAdd]at m;refine Wp.cut D (fun a Y Z=>a 0=.ref 0 0 0/\Y 0=some (qZ s M)/\Z=1) (by kernel_rfl) ?_ ?_
  ·have P:=Z4 (Z:=1) g hs Y;rw[hw,OZ]at P;have gf:=WU (Y:=qb Y1 0 (some (qZ s E))) (id:=0) (Z:=1) 0 2 (by simp) hs B.2.1;have hda:E.d=st.d:=B.2.2.2.2;simp only[zN,zG,zd,zf,zo,Nat.reduceAdd,wI,qz]at P gf;by_cases q:w=[40]
   ·by_cases hd:100<=st.d
    ·rw[zl ⟨q,hd⟩]at t;have hd':(100:Int)<=E.d:=by omega
     simp[f,m,W,P,q,hd',gf,<-t,zN,zG]
    ·rw[zg (fun h=>hd h.2)]at t;have hd':¬(100:Int)<=E.d:=by omega
     simp[f,m,W,P,q,hd',<-t,zN,zG]
   ·rw[zg (fun h=>q h.1)]at t;have Q:=vL q;simp[f,m,W,P,Q,<-t,zN,zG]
  clear f g m X Y1;rintro X Y1 _ ⟨f,g,rfl⟩;have gm:=Q6 (Z:=1) [40] g hs hbp.1;obtain⟨stc,hsc⟩:=yX (JO s M [40]);rw[hsc]at gm hmu N;refine Wp.cut D (fun a Y Z=>a 0=.ref 0 0 0/\Y 0=some (qZ s stc)/\Z=1) (by kernel_rfl) (by simp[f,gm]) ?_;clear f g gm X Y1;rintro X Y1 _ ⟨f,g,rfl⟩;obtain⟨i,hs1⟩:=yX (na s st);rw[hs1]at A N;have HT:=wY ((stc.d:Int)+1);refine Wp.cut D (fun a Y Z=>a 0=.ref 0 0 0/\Y 0=some (qZ s i)/\Z=1) (by kernel_rfl) ?_ ?_
  ·simp only[zN,zG,zd,zf,zo,Nat.reduceAdd]at g⊢;simp[f,g,HT,N,Pst.dn]
  clear f g X Y1;rintro X Y1 _ ⟨f,g,rfl⟩;obtain⟨r,o⟩:∃r:List Cnd×Pst,(if i.e=0 then(if Yn s i=[41]then([],jg s i)else oB s (VO s k) (s.length+1) [(VO s k (jg s i)).1] (VO s k (jg s i)).2)else([],i))=r:=⟨_,rfl⟩;have hres:dB s (VO s k) st=(r.1,(JO s r.2 [41]).up):=by rw[<-o,<-hs1];rfl
  rw[hres];simp only;refine Wp.cut D (fun a Y Z=>a 0=.ref 0 0 0/\a 3=.nil/\Y 0=some (qZ s i)/\Z=1) (by kernel_rfl) (by simp[f,g]) ?_;clear f g X Y1;rintro X Y1 _ ⟨f,L,g,rfl⟩;refine Wp.seq (Wp.mono (K:=fun e st'=>e=.normal/\ArE s (st.d+1) r st') ?_ ?_)
  ·have m:=g;simp only[zN,zG,zd,zf,zo,Nat.reduceAdd]at m;by_cases he:i.e=0
   case neg=>rw[zg he]at o;refine Wp.of D (by kernel_rfl) ?_;simp[f,m,he,vr he];exact⟨by simp[f],by simp,[],i,by simp[L];exact .inl ⟨rfl,rfl⟩,g,A.1,A.2.1,o⟩
   rw[zl he]at o;have u:=jJ (s:=s) A.1;have P:=Z4 (Z:=1) g hs A.1;obtain⟨R,hsd⟩:=yX (jg s i);rw[hsd]at P u o;by_cases q:Yn s i=[41]
   ·rw[zl q]at o;rw[q]at P;refine Wp.of D (by kernel_rfl) ?_;simp[f,m,he,P];exact⟨by simp[f],by simp,[],R,by simp[L];exact .inl ⟨rfl,rfl⟩,by simp,u.2.1,u.2.2.2.2.trans A.2.1,o⟩
   rw[zg q]at o;have Q:=vL q;have hb3:=A.2.2 he;refine Wp.cut D (fun a Y Z=>a 0=.ref 0 0 0/\a 3=.nil/\a 41=yW true/\Y 0=some (qZ s R)/\Z=1) (by kernel_rfl) (by simp[f,L,m,he,P,Q]) ?_;clear f L g m P X Y1;rintro X Y1 _ ⟨f,L,h41,g,rfl⟩;refine Wp.cond (b:=true) (by simp[AM.get,h41]) ?_;simp only[qa];have gc:=VP (k:=k) (Z:=1) g hs u.2.1 ⟨by omega,.inl (by omega)⟩;have S:=XF k R u.2.1;obtain⟨c,v,OY⟩:∃c v,VO s k R=(c,v):=⟨_,_,rfl⟩;rw[show VB s zx jC k R=(c,v)from OY]at S;rw[OY]at gc o;simp only at gc o;obtain⟨F,U0,T⟩:=S;simp only at F U0 T;obtain⟨Y2,a1,O2,f2⟩:=nQ (l:=[]) (Z:=1) (.inl ⟨rfl,rfl⟩:qV (qb Y1 0 (some (qZ s v))) 1 25 7 .nil (([]:List Cnd).map Cnd.V)) c (by simp);have b2:Y2 0=some (qZ s v):=by rw[f2 0 (by omega) (fun n e=>by cases e)];simp
   have hlp:=VK s v;refine Wp.cut D (fun a Y Z=>ArI s k (st.d+1) r (Zq s v) ⟨a,Y,Z⟩) (by kernel_rfl) ?_ ?_
   ·simp only[qC]at a1 gc;simp at a1;simp[f,L,gc,a1,zu,zP,zr];exact⟨by simp[f],by simp,[c],v,s.length+1,by simpa using O2,b2,F,by omega,rfl,hlp.2,by simp;omega,o⟩
   clear f L h41 g gc a1 O2 f2 b2 X Y1 Y2;rintro X Y1 Z hI;refine Wp.block (Wp.loop (ArI s k (st.d+1) r) _ hI ?_);clear hI o OY F U0 T hlp X Y1 Z;rintro n ⟨X,Y1,Z⟩ ⟨f,U,l,st4,j,G,g,hpl,hd4,hn,hnj,hln,o⟩;simp only at f U G g;have hlp:=VK s st4;have H:=wc G g rfl;obtain⟨j,rfl⟩:∃j',j=j'+1:=⟨j-1,by omega⟩;rw[oB]at o;have g1:=vw (Z:=Z) [44] g hs hpl;have I:=jx (s:=s) [44] hpl;obtain⟨b1,y,ht⟩:∃b1 y,j8 s st4 [44]=(b1,y):=⟨_,_,rfl⟩;rw[ht]at g1 o I;simp only at g1 o I;cases b1
   ·simp only[zq,qf]at o;refine Wp.of D (by kernel_rfl) ?_;simp[f,g1];exact⟨by simp[f],U,l,y,by simpa using G.put H (some (qZ s y)),by simp,I.2.1,by omega,o⟩
   ·simp only[qa]at o;have ht5:=I.2.2.2.2 rfl;simp only[zd,zf]at ht5;have g2:=VP (k:=k) (Y:=qb Y1 0 (some (qZ s y))) (id:=0) (Z:=Z) (by simp) hs I.2.1 ⟨by omega,.inl (by omega)⟩;have S:=XF k y I.2.1;obtain⟨x,z,hx⟩:∃x z,VO s k y=(x,z):=⟨_,_,rfl⟩;rw[show VB s zx jC k y=(x,z)from hx]at S;rw[hx]at g2 o;simp only at g2 o;obtain⟨F,U0,T⟩:=S;simp only at F U0 T;rw[wI]at g2;obtain⟨Y2,a1,O2,f2⟩:=nQ (G.put H (some (qZ s z))) x (by omega);have b2:Y2 0=some (qZ s z):=by rw[f2 0 U H];simp
    have hlt:Zq s z<n:=by
     rw[<-hn,dT ht5.1];unfold Zq;split
     ·rename_i he6;have:=T he6;omega
     ·omega
    simp only[qC]at a1 g2;refine Wp.of D (by kernel_rfl) ?_;simp[f,g1,g2,a1,zu,zP,zr];exact⟨Zq s z,hlt,by simp[f],by simp only;omega,l++[x],z,j,by simpa using O2,b2,F,by omega,rfl,by omega,by simp;omega,o⟩
  ·rintro e ⟨σ2,Y2,HI⟩ ⟨rfl,f,U,l,stF,G,g,hpE,hdE,rfl⟩;simp only at f U G g;simp only[JC];have gm:=Q6 (Z:=HI) [41] g hs hpE;have hmE:=vQ (s:=s) [41] hpE;obtain⟨J,SM⟩:=yX (JO s stF [41]);rw[SM]at gm hmE⊢;have H:=wc G g rfl;refine Wp.cut D (fun a Y Z=>a 0=.ref 0 0 0/\a 3=σ2 3/\qV Y Z 25 7 (σ2 3) (l.map Cnd.V)/\Y 0=some (qZ s J)) (by kernel_rfl) (by simp[f,gm];simpa using G.put H (some (qZ s J))) ?_;clear f g gm;rintro X Y1 Z ⟨f,L,G,g⟩;have NK:i6.wrap ((J.d:Int)-1)=((J.d-1:Nat):Int):=by rw[wN (by omega) (by omega)];omega
   refine Wp.cut D (fun a Y Z=>a 3=σ2 3/\qV Y Z 25 7 (σ2 3) (l.map Cnd.V)/\Y 0=some (qZ s J.up)) (by kernel_rfl) ?_ ?_
   ·have O2:=G.put H (some (qZ s J.up));simp only[zN,zG,Pst.up,zd,zf,zo,Nat.reduceAdd]at g O2⊢;simp[f,L,g,NK];simpa using O2
   clear f L G g;rintro X Y1 Z ⟨L,G,g⟩;refine Wp.of D (by kernel_rfl) ?_;simp[L,f21];exact fV G g _
noncomputable abbrev Nj (k:Nat):Ctx:=qp prog [(20,nf),(21,arS k),(22,siS k),(23,Gx),(24,C9),(25,Nc),(13,nd)]
theorem Hr{k:Nat}(h:zh prog 11 (D9 k)):Gd (Nj k):=qT mixed ⟨JB,Ax h,Aw h,fL,Xy,Au,ZI,trivial⟩
theorem Nk{s:za}{st a:Pst}{w:za}{b:Bool}(h:j8 s st w=(b,a))(c:b=true)(Y:st.p<=s.length):st.e=0:=by have:=(jx (s:=s) w Y).2.2.2.2;rw[h]at this;exact(this c).1
set_option maxHeartbeats 8000000 in
theorem Eb{k:Nat}(h:zh prog 11 (D9 k)):zh prog 11 (D9 (k+1)):=
 yQ (C:=Nj k) func11 (by kernel_rfl) rfl TP _ fun cs az cs' r W=>by
  obtain⟨s,st,⟨⟩,rfl,rfl,hs,Y,⟨Pb,q⟩,rfl,rfl⟩:=jB W;refine⟨by simp[aU,f11],?_⟩;clear W;have hg:=Hr h;have c:=jx (s:=s) (st:=st) [97,108,108] Y;obtain⟨G,g,H⟩:∃G g,j8 s st [97,108,108]=(G,g):=⟨_,_,rfl⟩;rw[H]at c;simp only at c;have d:=jx (s:=s) (st:=g) [97,110,121] c.2.1;obtain⟨I,i,J⟩:∃I i,j8 s g [97,110,121]=(I,i):=⟨_,_,rfl⟩;rw[J]at d;simp only at d;have t:=jx (s:=s) (st:=i) [110,111,116] d.2.1;obtain⟨K,j,L⟩:∃K j,j8 s i [110,111,116]=(K,j):=⟨_,_,rfl⟩;rw[L]at t;simp only at t;have B:=jx (s:=s) (st:=j) [105,110] t.2.1;obtain⟨M,n,S⟩:∃M n,j8 s j [105,110]=(M,n):=⟨_,_,rfl⟩;rw[S]at B;simp only at B;have y:=jx (s:=s) (st:=n) [104,97,115] B.2.1;obtain⟨N,l,T⟩:∃N l,j8 s n [104,97,115]=(N,l):=⟨_,_,rfl⟩;rw[T]at y;simp only at y;have P:=jx (s:=s) (st:=l) [46] y.2.1;obtain⟨Q,z,U⟩:∃Q z,j8 s l [46]=(Q,z):=⟨_,_,rfl⟩;rw[U]at P;simp only at P;have D:VO s (k+1) st=if G=true then(.mk 1 [] 0 [] [] [] (dB s (VO s k) g).1,(dB s (VO s k) g).2)else if I=true then(.mk 2 [] 0 [] [] [] (dB s (VO s k) i).1,(dB s (VO s k) i).2)else if K=true then(.mk 3 [] 0 [] [] [] (lp s (VO s k) j).1,(lp s (VO s k) j).2)else if M=true then(.mk 5 [] 0 [] [] (aM s n).1 [],(aM s n).2)else if N=true then(.mk 4 (aM s (JO s l [46])).1 1 [] [] [] [],(aM s (JO s l [46])).2)else if Q=true then ln s zx jC z else(zC,eL s z):=by simp only[VO,VB,H,J,L,S,T,U]
  rw[D];clear D;refine Wp.cut hg (fun X Y Z=>X 0=.ref 0 0 0/\X 2=.ref 1 0 0/\Y 0=some (qZ s st)/\Y 1=some (Zr Yk)/\Z=2) (by kernel_rfl) (by simp[aU,qM,zN,zG,Yk,zc]) ?_;rintro X Y1 _ ⟨u,v,hb,o,rfl⟩;simp only[Yk]at o;have m:=vw (Z:=2) [97,108,108] hb hs Y;rw[H]at m;have p:=vw (Y:=qb Y1 0 (some (qZ s g))) (id:=0) (Z:=2) [97,110,121] (by simp) hs c.2.1;rw[J,wI]at p;have w:=vw (Y:=qb Y1 0 (some (qZ s i))) (id:=0) (Z:=2) [110,111,116] (by simp) hs d.2.1;rw[L,wI]at w;have A:=vw (Y:=qb Y1 0 (some (qZ s j))) (id:=0) (Z:=2) [105,110] (by simp) hs t.2.1;rw[S,wI]at A;have E:=vw (Y:=qb Y1 0 (some (qZ s n))) (id:=0) (Z:=2) [104,97,115] (by simp) hs B.2.1;rw[T,wI]at E;have R:=vw (Y:=qb Y1 0 (some (qZ s l))) (id:=0) (Z:=2) [46] (by simp) hs y.2.1;rw[U,wI]at R;simp only[zN,zG,zd,zf,zo,Nat.reduceAdd]at m p w A E R;have b:∀x:Pst,qb Y1 0 (some (qZ s x)) 0=some (qZ s x):=fun x=>by simp
  refine Wp.of hg (by kernel_rfl) ?_;cases G
  case true=>
   simp only[qa];have F:st.e=0:=Nk H rfl Y;have f:g.e=0:=by have x1:=c.2.2.1;omega
   have a:=nR (k:=k) (Z:=2) (b g) hs c.2.1 (by
    have d1:=c.2.2.2.1;refine⟨f,?_,?_⟩
    ·rcases q with h|h
     ·omega
     ·exact absurd F h.1
    ·omega)
   simp only[zN,zG,zd,zf,zo,Nat.reduceAdd,wI]at a;simp[m,a,u,v,o,zc,zU,qn,f11];exact qB rfl (by simp[zc,zN,zG]) Qu (by simp[qC];rfl)
  simp only[zq,qf];cases I
  case true=>
   simp only[qa];have F:st.e=0:=(c.2.2.1).symm.trans (Nk J rfl c.2.1);have f:i.e=0:=by have x1:=c.2.2.1;have x2:=d.2.2.1;omega
   have a:=nR (k:=k) (Z:=2) (b i) hs d.2.1 (by
    have d1:=c.2.2.2.1;have d2:=d.2.2.2.1;refine⟨f,?_,?_⟩
    ·rcases q with h|h
     ·omega
     ·exact absurd F h.1
    ·omega)
   simp only[zN,zG,zd,zf,zo,Nat.reduceAdd,wI]at a;simp[m,p,a,u,v,o,zc,zU,qn,f11];exact qB rfl (by simp[zc,zN,zG]) Qu (by simp[qC];rfl)
  simp only[zq,qf];cases K
  case true=>
   simp only[qa];have F:st.e=0:=(c.2.2.1).symm.trans ((d.2.2.1).symm.trans (Nk L rfl d.2.1));have f:j.e=0:=by have x1:=c.2.2.1;have x2:=d.2.2.1;have x3:=t.2.2.1;omega
   have a:=Ea (k:=k) (Z:=2) (b j) hs t.2.1 (by
    have d1:=c.2.2.2.1;have d2:=d.2.2.2.1;have d3:=t.2.2.2.1;refine⟨f,?_,?_⟩
    ·rcases q with h|h
     ·omega
     ·exact absurd F h.1
    ·omega)
   simp only[zN,zG,zd,zf,zo,Nat.reduceAdd,wI]at a;simp[m,p,w,a,u,v,o,zc,zU,qn,f11];exact qB rfl (by simp[zc,zN,zG]) Qu (by simp[qC];rfl)
  simp only[zq,qf];cases M
  case true=>simp only[qa];have a:=dE (Z:=2) (b n) hs B.2.1;simp only[zN,zG,zd,zf,zo,Nat.reduceAdd,wI]at a;simp[m,p,w,A,a,u,v,o,zc,zU,qn,f11];exact qB rfl (by simp[zc,zN,zG]) Qu (by simp[qC];rfl)
  simp only[zq,qf];cases N
  case true=>simp only[qa];have hm:=vQ (s:=s) [46] y.2.1;have gm:=Q6 (Z:=2) [46] (b l) hs y.2.1;have a:=dE (Z:=2) (b (JO s l [46])) hs hm.2.1;simp only[zN,zG,zd,zf,zo,Nat.reduceAdd,wI]at gm a;simp[m,p,w,A,E,gm,a,u,v,o,zc,zU,qn,f11];exact qB rfl (by simp[zc,zN,zG]) Qu (by simp[qC];rfl)
  simp only[zq,qf];cases Q
  case true=>simp only[qa];have a:=D3 (Z:=2) (b z) hs P.2.1;simp only[zN,zG,zd,zf,zo,Nat.reduceAdd,wI]at a;simp only[qC]at a⊢;simp[m,p,w,A,E,R,a,u,v,o,zc,zU,qn,f11];exact qB rfl (by simp[zc,zN,zG]) .id rfl
  simp only[zq,qf];have a:=Z5 (Z:=2) (b z) hs P.2.1;simp only[zN,zG,zd,zf,zo,Nat.reduceAdd,wI]at a;simp[m,p,w,A,E,R,a,u,v,o,zc,zU,qn,f11];exact qB rfl (by simp[zc,zN,zG]) Qu (by simp[qC];rfl)
theorem Ec:zh prog 11 (D9 0):=
 yQ (C:=Nj 0) func11 (by kernel_rfl) rfl TP _ fun cs d cs' r a=>by obtain⟨s,st,⟨⟩,rfl,rfl,hs,Y,⟨b,c⟩,rfl,rfl⟩:=jB a;omega
theorem fW:∀k,zh prog 11 (D9 k)
 | 0=>Ec
 |k+1=>Eb (fW k)
abbrev uP3:O->O:=FH [uC]
theorem rL:od uP3:=.qS fun u a=>by simp only[zJ,yO,or_false]at a;subst a;exact Qu
noncomputable def rM (s:za):O:=.qS [.agg (xl zx jC s).1.V,int (xl zx jC s).2.1,int (xl zx jC s).2.2]
noncomputable def FPar:zb->Option O:=qD (α:=za) (fun s=>[str s]) (fun s=>s.length<=zX) rM
noncomputable abbrev Nl:AM.Spec:=zp false [] FPar
theorem XG(s:za)(Y:Hp)(Z:Nat)(h:s.length<=zX):Nl [str s] Y Z=some (rM s,Y,Z):=
 yg (Y1:=Y) rfl (qj (V:=fun s:List UInt8=>[str s]) (a:=s) (fun a b e=>by simp only[zn,z7]at e;exact ya e) h) (.inr rfl)
def Hs:List (Tmp×Tmp):=[(5,2),(34,2),(35,2),(36,2),(38,2),(39,2),(40,2)]
theorem Ay{st:St}{blk:Blk}(a:st.X 2=.ref 0 0 0)(b:st.X 5=.ref 1 0 0)(c:∀t,33<=t->t<42->st.X t=.qS [])(d:st.Y 0=some blk)(f:blk.arr=false):xz Hs st:=by
 intro p Y id i j e;have Y2:p.2=2:=by simp only[Hs,zJ,yO,or_false]at Y;rcases Y with rfl|rfl|rfl|rfl|rfl|rfl|rfl<;>rfl
 rw[Y2];refine⟨0,0,0,blk,a,?_,d,f⟩;simp only[Hs,zJ,yO,or_false]at Y;rcases Y with rfl|Y
 ·rw[b]at e;injection e with e _ _
  omega
 ·have:33<=p.1/\p.1<42:=by rcases Y with rfl|rfl|rfl|rfl|rfl|rfl<;>decide
  rw[c _ this.1 this.2]at e;cases e
noncomputable abbrev Su:Ctx:=vk prog [(11,D9 102),(12,nc),(13,nd),(7,GC fun c=>int c.check)] (fg 9 Hs)
theorem Ht:Gd Su:=KX _ mixed ⟨fW 102,by simp,JA,by simp,ZI,by simp,Vx,by simp,trivial⟩
set_option maxHeartbeats 8000000 in
theorem rN:zh prog 5 Nl:=
 Ka (C:=Su) (pf:=fun g=>([]:List Nat).contains g) ⟨func5,by kernel_rfl,rfl,by kernel_rfl⟩ false [] _ fun args r h=>by
  obtain⟨s,rfl,hs,rfl⟩:=zQ h;have S:zX=268435456:=rfl;refine⟨by simp[Tryz.f5],?_⟩;clear h;refine Wp.of Ht (by kernel_rfl) ?_;simp only[rM,xl];refine qq (fun X Y Z=>X 0=str s/\X 2=.ref 0 0 0/\(∀t,33<=t->t<42->X t=.qS [])/\Y 0=some (Zr Yk)/\Z=1) ?_ ?_
  ·simp[Yk];intro t j b;rw[zc _ _ _ _ (by omega),zc _ _ _ _ (by omega),zc _ _ _ _ (by omega)];show([str s][t]?).getD (.qS [])=_;rw[q5 (by simp only[zd,zf];omega)];rfl
  rintro X Y1 _ ⟨i,b,l,q,rfl⟩;have f:=q;simp only[Yk]at f;by_cases D:20000<s.length
  ·have m:(20000:Int)<s.length:=by omega
   rw[zl D];simp[i,b,m,f,zU,qn,zc,Tryz.f5];exact Q7 rfl rL (by simp[zC,qC];rfl)
  have m:¬(20000:Int)<s.length:=by omega
  rw[zg D];have E:s.length<=20000:=by omega
  refine qq (fun a Y Z=>a 0=str s/\a 2=.ref 0 0 0/\(∀t,33<=t->t<42->a t=.qS [])/\Y=Y1/\Z=1) ?_ ?_
  ·simp[i,b,m];intro t j b;rw[zc _ _ _ _ (by omega),zc _ _ _ _ (by omega),zc _ _ _ _ (by omega)];exact l t j b
  clear i b l f X;rintro X Y1 _ ⟨i,b,l,rfl,rfl⟩;refine qq (fun a Y Z=>a 0=str s/\a 2=.ref 0 0 0/\a 5=.ref 1 0 0/\(∀t,33<=t->t<42->a t=.qS [])/\Y 0=some (Zr Yk)/\Y 1=some (qZ s ⟨0,0,0,0⟩)/\Z=2) ?_ ?_
  ·simp[i,b,q,zU,qn,zc,zN,zG];intro t j b;rw[zc _ _ _ _ (by omega),zc _ _ _ _ (by omega),zc _ _ _ _ (by omega),zc _ _ _ _ (by omega)];exact l t j b
  clear i b l q X Y1;rintro X Y1 _ ⟨i,b,v,l,q,y,rfl⟩;have G:=XF (s:=s) 102 ⟨0,0,0,0⟩ (kj _);have H:=VP (k:=102) (Z:=2) y E (kj _) ⟨by simp,.inl (by simp)⟩;obtain⟨c,w,N⟩:∃c w,VB s zx jC 102 ⟨0,0,0,0⟩=(c,w):=⟨_,_,rfl⟩;rw[show VO s 102 ⟨0,0,0,0⟩=(c,w)from N]at H;rw[N]at G;simp only[N];obtain⟨F,P,I⟩:=G;simp only at H F P I;refine qq (fun a Y Z=>a 0=str s/\a 2=.ref 0 0 0/\a 5=.ref 1 0 0/\a 6=.ref 2 0 0/\(∀t,33<=t->t<42->a t=.qS [])/\Y 0=some (Zr Yk)/\Y 1=some (qZ s w)/\Y 2=some (Zr c.V)/\Z=3) ?_ ?_
  ·simp only[qC]at H;simp[i,b,v,H,q,zc,qC];intro t j b;rw[zc _ _ _ _ (by omega),zc _ _ _ _ (by omega),zc _ _ _ _ (by omega)];exact l t j b
  clear i b v l q y H X Y1;rintro X Y1 _ ⟨i,b,v,z,l,q,y,n,rfl⟩;have A:=jJ (s:=s) F;have J:=VC (Z:=3) y E F;obtain⟨u,j⟩:=yX (jg s w);rw[j]at J A;simp only[j];have Q:=Z5 (Y:=qb Y1 1 (some (qZ s u))) (id:=1) (Z:=3) (by simp) E A.2.1;have R:=WV (s:=s) A.2.1;obtain⟨K,d⟩:=yX (if u.p<s.length then eL s u else u);rw[d];simp only[zN,zG,zd,zf,zo,Nat.reduceAdd,wI]at J Q;refine qq (fun a Y Z=>a 0=str s/\a 2=.ref 0 0 0/\a 5=.ref 1 0 0/\a 6=.ref 2 0 0/\(∀t,33<=t->t<42->a t=.qS [])/\Y 0=some (Zr Yk)/\Y 1=some (qZ s K)/\Y 2=some (Zr c.V)/\Z=3) ?_ ?_
  ·by_cases o:u.p<s.length
   ·rw[zl o]at d;subst d;simp[i,b,v,z,J,Q,o,q,n,zc,zN,zG];intro t j b;rw[zc _ _ _ _ (by omega),zc _ _ _ _ (by omega),zc _ _ _ _ (by omega),zc _ _ _ _ (by omega),zc _ _ _ _ (by omega),zc _ _ _ _ (by omega),zc _ _ _ _ (by omega),zc _ _ _ _ (by omega),zc _ _ _ _ (by omega),zc _ _ _ _ (by omega),zc _ _ _ _ (by omega)];exact l t j b
   ·rw[zg o]at d;subst d;simp[i,b,v,z,J,o,q,n,zc,zN,zG];intro t j b;rw[zc _ _ _ _ (by omega),zc _ _ _ _ (by omega),zc _ _ _ _ (by omega),zc _ _ _ _ (by omega),zc _ _ _ _ (by omega),zc _ _ _ _ (by omega),zc _ _ _ _ (by omega),zc _ _ _ _ (by omega),zc _ _ _ _ (by omega)];exact l t j b
  clear i b v z l q y n J Q X Y1;rintro X Y1 _ ⟨i,b,v,z,l,q,y,n,rfl⟩;have f:=q;simp only[Yk]at f;simp only[zN,zG,zd,zf,zo,Nat.reduceAdd]at y;by_cases B:K.e=0
  case neg=>rw[zl B];simp[i,b,v,y,B,vr B,bne];rw[kK _ 9 _ _ _ _ (Ay (blk:=Zr Yk) (by simp[b]) (by simp[v]) (fun t j b=>by simp;rw[zc _ _ _ _ (by omega),zc _ _ _ _ (by omega),zc _ _ _ _ (by omega),zc _ _ _ _ (by omega),zc _ _ _ _ (by omega)];exact l t j b) q rfl) (fun s hs=>by cases hs)];simp[b,v,y,f,zU,qn,zc,Tryz.f5];exact Q7 rfl rL (by simp[zC,qC];rfl)
  rw[zg (by simpa using B)];have L:c.cb<=zX:=by
   by_cases o:u.p<s.length
   ·rw[zl o]at d;rw[<-d]at B;exact absurd B R.2.2.2
   ·rw[zg o]at d;rw[<-d,A.2.2.1]at B;have:=(I B).2.2;omega
  have M:=fun Y Z=>WI (fun c=>int c.check) c Y Z L
  simp only[qC]at M n;refine qq (fun a Y Z=>a 2=.ref 0 0 0/\a 6=.ref 2 0 0/\Y=Y1/\Z=3) (by simp[b,v,z,y,B]) ?_;clear i b v z l X;rintro X Y1 _ ⟨b,z,rfl,rfl⟩;by_cases x:c.check=0
  ·rw[zg (by simpa using x)];rw[x]at M;simp[b,z,n,M,f,zc,Tryz.f5];exact Q7 rfl .id (by simp[qC])
  ·rw[zl x];simp[b,z,n,M,f,x,vr x,bne,zU,qn,zc,Tryz.f5];exact Q7 rfl rL (by simp[zC,qC];rfl)
end Go.Q
namespace Go.Q
open Go.RowKit Go.AM Go.PrLaw
def Yi(l:za):Prop:=∀c,l.head?=some c->c=41\/c=44
def tight(l:za):Prop:=l.takeWhile (·==32)=[]
theorem wB{c:UInt8}{l:za}(h:c≠32):tight (c::l):=by
 have:(c==32)=false:=by simpa using h
 simp[tight,List.takeWhile,this]
theorem X9{l:za}(h:Yi l):tight l:=by
 cases l with
 |nil=>rfl
 |cons c l=>rcases h c rfl with rfl|rfl<;>exact wB (by decide)
section
variable{s:za}{p d i:Nat}{e:Int}{l:za}
theorem vn(h:jv s p l)(a:tight l):jg s ⟨p,d,e,i⟩=⟨p,d,e,i⟩:=by have h:s.drop p=l:=h;have a:l.takeWhile (·==32)=[]:=a;simp[jg,h,a,Pst.mv]
theorem QK(h:jv s p (32::l))(a:tight l):jg s ⟨p,d,e,i⟩=⟨p+1,d,e,i⟩:=by have h:s.drop p=32::l:=h;have a:l.takeWhile (·==32)=[]:=a;simp[jg,h,a,Pst.mv]
theorem Ja{q:Nat}(a:jg s ⟨p,d,e,i⟩=⟨q,d,e,i⟩)(h:jv s q l):Yn s ⟨p,d,e,i⟩=yw l:=by rw[Yn,a];exact zk yw h
theorem xQ{q:Nat}{w:za}(a:jg s ⟨p,d,0,i⟩=⟨q,d,0,i⟩)(h:jv s q l)(b:yw l=w):j8 s ⟨p,d,0,i⟩ w=(true,⟨q+w.length,d,0,i⟩):=by simp[j8,Ja a h,b,a,Pst.mv]
theorem ku{q:Nat}{w:za}(a:jg s ⟨p,d,0,i⟩=⟨q,d,0,i⟩)(h:jv s q l)(b:¬yw l=w):j8 s ⟨p,d,0,i⟩ w=(false,⟨q,d,0,i⟩):=by simp[j8,Ja a h,b,a]
theorem bm{q:Nat}{w:za}(a:jg s ⟨p,d,0,i⟩=⟨q,d,0,i⟩)(h:jv s q l)(b:yw l=w):JO s ⟨p,d,0,i⟩ w=⟨q+w.length,d,0,i⟩:=by simp[JO,xQ a h b]
end
theorem JF{c:UInt8}(h:KE c=true):c≠60/\c≠62/\VA c=false/\c≠32:=by
 refine⟨?_,?_,?_,?_⟩
 ·rintro rfl;exact absurd h (by decide)
 ·rintro rfl;exact absurd h (by decide)
 ·cases a:VA c
  ·rfl
  ·simp only[VA,qU,yJ]at a;rcases a with((((((rfl|rfl)|rfl)|rfl)|rfl)|rfl)|rfl)|rfl<;>exact absurd h (by decide)
 ·rintro rfl;exact absurd h (by decide)
def iR(l:za):Prop:=∀c,l.head?=some c->KE c=false
theorem iS{l:za}(h:Yi l):iR l:=fun c a=>by rcases h c a with rfl|rfl<;>decide
theorem nS:∀{w l:za},(∀c∈w,KE c=true)->iR l->(w++l).takeWhile KE=w
 |[],l,_,h=>by
  cases l with
  |nil=>rfl
  |cons c l=>simp[List.takeWhile,h c rfl]
 |c::w,l,a,h=>by rw[qg,kU,zl (a c (by simp)),nS (fun x b=>a x (by simp[b])) h]
theorem aa{c x:UInt8}{t:za}(a:(yw (c::t)).head?=some x):x=c:=by
 rw[yw]at a;split at a
 ·simpa using a.symm
 split at a
 ·simpa using a.symm
 ·rw[kU]at a;split at a
  ·simpa using a.symm
  ·simp at a
theorem kS{w l:za}(e:w≠[])(d:∀c∈w,KE c=true)(h:iR l):yw (w++l)=w:=by
 cases w with
 |nil=>exact(e rfl).elim
 |cons c w=>obtain⟨a,b,g,_⟩:=JF (d c (by simp));have:=nS d h;rw[qg]at this⊢;rw[yw,zg (by simp[a,b]),zg (by simp[g]),this]
theorem jD{c:UInt8}{l:za}(a:c≠60)(b:c≠62)(h:VA c=true):yw (c::l)=[c]:=by rw[yw,zg (by simp[a,b]),zl h]
theorem bn{n:za}(h:yq n=true):n≠[]/\(∀c∈n,KE c=true)/\C7 n=true:=by
 simp only[yq,zs,ZO,qE]at h;have a:∀c∈n,KE c=true:=fun c b=>by have:=h.2;rw[Wy,qc]at this;exact this c b
 refine⟨by rintro rfl;simp at h,a,?_⟩;cases n with
 |nil=>simp at h
 |cons c n=>exact a c (by simp)
section
variable{s:za}{p d i:Nat}{l:za}
theorem rO{q:Nat}{n:za}(b:yq n=true)(a:jg s ⟨p,d,0,i⟩=⟨q,d,0,i⟩)(h:jv s q (n++l))(c:iR l):aM s ⟨p,d,0,i⟩=(n,⟨q+n.length,d,0,i⟩):=by obtain⟨e,f,g⟩:=bn b;have Y:=Ja a h;rw[kS e f c]at Y;simp[aM,Y,g,a,Pst.mv]
variable{srt:List (za×Val)->List (za×Val)}
def fX(l:za):Prop:=∀c,l.head?=some c->c=41\/c=44\/c=32
theorem Hu{l:za}(h:fX l):fP l:=fun c a=>by rcases h c a with rfl|rfl|rfl<;>decide
theorem Hv{l:za}(h:fX l):iR l:=fun c a=>by rcases h c a with rfl|rfl|rfl<;>decide
theorem fY{v:Val}(g:fX l):pZ (yw (v.show++l))=false/\yw (v.show++l)≠[110,101,118,101,114]:=by
 have a:∀(c:UInt8) (t:za),(c=34\/c=91\/c=123\/c=45\/jM c=true)->pZ (yw (c::t))=false/\yw (c::t)≠[110,101,118,101,114]:=by
  intro c t hc;have b:¬(97<=c/\c<=122):=by
   rcases hc with rfl|rfl|rfl|rfl|hc
   ·decide
   ·decide
   ·decide
   ·decide
   ·simp only[jM,zs,qE,wq]at hc;rw[wq,wq];simp at hc⊢;omega
  have f:∀x,(yw (c::t)).head?=some x->x=c:=fun x i=>aa i
  refine⟨?_,fun e=>?_⟩
  ·cases d:yw (c::t)with
   |nil=>rfl
   |cons x w=>
    have:=f x (by rw[d];rfl);subst this;have:(decide (97<=x)&&decide (x<=122))=false:=by simpa using b
    simp[pZ,this]
  ·rw[e]at f;have:=f 110 rfl;subst this;exact b (by decide)
 have d:=Hv g;rw[xP];split
 ·rw[kS (by decide) (by decide) d];decide
 split
 ·split
  ·rw[kS (by decide) (by decide) d];decide
  ·rw[kS (by decide) (by decide) d];decide
 split
 ·obtain⟨c,t,j,k⟩:=XA v.n;rw[j];exact a c _ (by rcases k with h|h<;>simp[h])
 split
 ·exact a 34 _ (.inl rfl)
 split
 ·exact a 91 _ (by simp)
 ·exact a 123 _ (by simp)
theorem WX(v:Val)(l:za):tight (v.show++l):=by obtain⟨c,t,a,b⟩:=JD v;rw[a];exact wB (by rintro rfl;exact absurd b (by decide))
theorem iT(b:∀l,sb l->srt l=l){v:Val}(f:v.fault=0){q:Nat}(c:fX l)(e:jg s ⟨p,d,0,i⟩=⟨q,d,0,i⟩)(h:jv s q (v.show++l)):Q4 s srt ⟨p,d,0,i⟩=(v,⟨q+v.show.length,d,0,i⟩):=by have Y:=Ja e h;have a:=(fY (v:=v) c).1;rw[<-Y]at a;have g:=Dn b f (Hu c) h;simp[Q4,e,a,g,Pst.mv]
theorem Ed(a:∀l,sb l->srt l=l)(g:Yi l):∀(vs b:List Val) (k p:Nat),(∀v∈vs,v.fault=0)->jv s p (Lib.joinTail [32,124,32] (vs.map Val.show)++l)->vs.length<k ->
  mY s srt k b ⟨p,d,0,i⟩=(b++vs,⟨p+(Lib.joinTail [32,124,32] (vs.map Val.show)).length,d,0,i⟩)
 |[],b,k+1,p,_,h,_=>by
  have h:jv s p l:=h;have j:¬yw l=[124]:=by
   cases l with
   |nil=>decide
   |cons c l=>rcases g c rfl with rfl|rfl<;>rw[jD (by decide) (by decide) (by decide)]<;>decide
  rw[mY,ku (vn h (X9 g)) h j];simp[Lib.joinTail]
 |v::vs,b,k+1,p,n,h,t=>by
  rw[zL,wD]at h⊢;have h:jv s p (32::(124::(32::(v.show++(Lib.joinTail [32,124,32] (vs.map Val.show)++l))))):=by simpa using h
  have o:=h.qL;have q:=o.qL;have r:=q.qL;have u:=xQ (i:=i) (d:=d) (QK (e:=0) h (wB (by decide))) o (jD (by decide) (by decide) (by decide));have m:fX (Lib.joinTail [32,124,32] (vs.map Val.show)++l):=by
   cases vs with
   |nil=>exact fun c f=>by rcases g c f with h|h<;>simp[h]
   |cons A vs=>intro c f;rw[zL,wD]at f;simp at f;simp[<-f]
  have w:=iT (i:=i) (d:=d) a (n v (by simp)) m (QK (e:=0) q (WX v _)) r;have y:=Ed a g vs (b++[v]) k _ (fun x z=>n x (by simp[z])) r.app (by simp at t;omega);rw[mY,u];simp only[jZ,qa];rw[w];simp only;rw[y];simp;omega
theorem Nn{f:List Val->List Val}(g:∀l,sb l->srt l=l)(n:∀l,Dg l->f l=l)(o:Yi l){vs:List Val}(u:∀v∈vs,v.fault=0)(w:Dg vs)(h:jv s p (32::(Z3 vs++l))):mZ s srt f ⟨p,d,0,i⟩=(vs,⟨p+1+(Z3 vs).length,d,0,i⟩):=by
 have b:=h.qL;cases vs with
 |nil=>
  have e:Z3 ([]:List Val)=[110,101,118,101,114]:=by simp[Z3]
  rw[e]at h b⊢;have q:=xQ (i:=i) (d:=d) (QK (e:=0) h (wB (by decide))) b (kS (by decide) (by decide) (iS o));simp[mZ,q]
 |cons v vs=>
  have e:Z3 (v::vs)=v.show++Lib.joinTail [32,124,32] (vs.map Val.show):=by simp[Z3,lq]
  rw[e,qt]at h b;have j:fX (Lib.joinTail [32,124,32] (vs.map Val.show)++l):=by
   cases vs with
   |nil=>exact fun c k=>by rcases o c k with h|h<;>simp[h]
   |cons D vs=>intro c k;rw[zL,wD]at k;simp at k;simp[<-k]
  have z:=QK (e:=0) (i:=i) (d:=d) h (WX v _);have q:=ku z b (fY (v:=v) j).2;have r:jg s ⟨p+1,d,0,i⟩=⟨p+1,d,0,i⟩:=vn b (WX v _);have A:=iT (i:=i) (d:=d) g (u v (by simp)) j r b;have m:=b.len;have B:=a (vs.map Val.show);have t:=Ed (i:=i) (d:=d) g o vs [v] (s.length+1) _ (fun x C=>u x (by simp[C])) b.app (by simp at m B;omega);rw[mZ,q];simp only[zq,qf];rw[A];simp only;rw[t];simp only[List.singleton_append];rw[n _ w,e];simp;omega
 where a:∀(xs:List za),xs.length<=(Lib.joinTail [32,124,32] xs).length
  |[]=>by simp
  |y::ys=>by rw[wD];have:=a ys;simp;omega
end
theorem eO{a b c:Val}(d:qJ a b<0)(e:qJ b c<0):qJ a c<0:=Je.trans d e
theorem nT(op:Int):∀(l:List Val) (p:Option Val),aK op p l=0->Dg l/\(∀q,p=some q->∀b∈l,qJ q b<0)/\∀x∈l,x.fault=0
 |[],_,_=>⟨.nil,fun _ _ _ h=>(by cases h),fun _ h=>(by cases h)⟩
 |v::l,p,h=>by
  simp only[aK]at h;split at h
  ·rename_i d;split at h
   ·omega
   ·split at h
    ·omega
    ·rename_i Y;obtain⟨g,a,c⟩:=nT op l (some v) h;have a:=a v rfl;refine⟨oa.2 ⟨a,g⟩,fun q i b e=>?_,fun x f=>?_⟩
     ·subst i;have c:qJ q v<0:=by simp only[dz,qE]at Y;omega
      rcases zJ.1 e with rfl|e
      ·exact c
      ·exact eO c (a b e)
     ·rcases zJ.1 f with rfl|f
      ·exact Vz _ d
      ·exact c x f
  ·rename_i d;exact absurd h d
inductive tv:Cnd->Prop
 |all {k:Int} {l:List Cnd}:k=1\/k=2->(∀x∈l,tv x)->tv (.mk k [] 0 [] [] [] l)
 |not {x:Cnd}:tv x->tv (.mk 3 [] 0 [] [] [] [x])
 |gb {n:List UInt8}:yq n=true->tv (.mk 5 [] 0 [] [] n [])
 |has {a:List UInt8}:yq a=true->tv (.mk 4 a 1 [] [] [] [])
 |pat {a p:List UInt8} {o:Int}:yq a=true->7<=o->o<=11->wi 32 126 p=true->p.length<=500->tv (.mk 4 a o [] p [] [])
 |ord {a:List UInt8} {o:Int} {v:Val}:yq a=true->3<=o->o<=6->v.fault=0->tv (.mk 4 a o [v] [] [] [])
 |yl {a:List UInt8} {o:Int} {v:List Val}:yq a=true->o=2\/o=12->(∀x∈v,x.fault=0)->Dg v->tv (.mk 4 a o v [] [] [])
theorem Az(c:Cnd):c.fault=0->tv c:=by
 induction c using Cnd.ind with
 |h k a o v p n l I=>
  intro w;rw[fJ]at w;split at w
  case isFalse g=>exact(g w).elim
  rename_i g;have d:=b w;rw[mX]at g;split at g
  ·omega
  rename_i r;split at g
  ·omega
  rename_i J;split at g
  ·omega
  rename_i K;split at g
  case isFalse s=>exact(s g).elim
  rename_i s;simp only[X5,IC,Cnd.kind,Cnd.op,qU,not_or,Qw,Bool.not_eq_false,zs,not_and,yJ,ZO,qE]at r;simp only[Zc,Uo,Up,Uq,Mv,Ur,Us,Ut,Cnd.kind,Cnd.attr,Cnd.op,Cnd.yl,Cnd.pat,Cnd.name,Cnd.args,qU,not_or,zs,not_and,Qw,yJ,wv,bne_iff_ne,ne_eq,Bool.not_eq_false,List.isEmpty_iff,Decidable.not_not,qE]at J;obtain⟨⟨⟨⟨⟨⟨T,U⟩,L⟩,M⟩,N⟩,W⟩,q7⟩:=J;have P:k≠5->n=[]:=fun e=>by simpa using U e
  have t:∀{α:Type} {l:List α},¬decide (0<l.length)=true->l=[]:=fun{α l} h=>by simp at h;exact qy.1 (by simpa using h)
  have hx:aK o none v=0:=by
   unfold Z2 at s;split at s
   ·omega
   ·exact s
  obtain⟨u1,_,Q⟩:=nT o v none hx;by_cases R:k=4
  ·subst R;have z:yq a=true:=by simpa[fH,Cnd.kind,Cnd.attr]using K
   have i:l=[]:=by exact t (L (by simp[ZO]))
   have ho:1<=o/\o<=12:=⟨wT (r.2 rfl).1,wT (r.2 rfl).2⟩;rw[P (by omega),i];by_cases o1:o=1
   ·subst o1;have j:v=[]:=t (M ⟨rfl,by decide⟩);have A:p=[]:=by simpa using N ⟨rfl,by decide⟩
    rw[j,A];exact .has z
   by_cases op:7<=o/\o<=11
   ·have hu:YW o=false:=by simp[YW,ZO];omega
    have j:v=[]:=t (M ⟨rfl,hu⟩);have m:j7 o=true:=by simp[j7,ZO];omega
    have q:Xw o p=0:=by simpa[C4,Cnd.kind,Cnd.op,m]using g
    have B:¬(500:Int)<p.length/\wi 32 126 p=true:=by
     unfold Xw at q;split at q
     ·omega
     ·rename_i h;split at q
      ·rename_i C;exact⟨h,C⟩
      ·omega
    rw[j];exact .pat z op.1 op.2 B.2 (by omega)
   have m:j7 o=false:=by
    cases C:j7 o
    ·rfl
    ·simp[j7,ZO]at C;omega
   have A:p=[]:=by simpa using N ⟨rfl,m⟩
   rw[A];by_cases u:Zb o=true
   ·have f:v.length=1:=by have:=q7 ⟨rfl,u⟩;omega
    obtain⟨x,rfl⟩:=List.length_eq_one_iff.1 f;simp[Zb,ZO]at u;exact .ord z u.1 u.2 (Q x (by simp))
   ·have oo':¬(3<=o/\o<=6):=fun h=>u (by simp[Zb,ZO,h.1,h.2])
    exact .yl z (by omega) Q u1
  ·have w1:=T (by simpa using R);obtain⟨⟨⟨D,E⟩,vz⟩,F⟩:=w1;have D:a=[]:=by simpa using D
   have E:o=0:=by simpa using E
   have v0:v=[]:=t vz;have F:p=[]:=by simpa using F
   subst D E v0 F;by_cases S:k=5
   ·subst S;have i:l=[]:=by exact t (L (by simp[ZO]))
    have G:yq n=true:=by simpa[fH,Cnd.kind,Cnd.name]using K
    rw[i];exact .gb G
   ·rw[P S];by_cases k3:k=3
    ·subst k3;have f:l.length=1:=by have:=W rfl;omega
     obtain⟨x,rfl⟩:=List.length_eq_one_iff.1 f;exact .not (I x (by simp) (d x (by simp)))
    ·have h11:1<=k/\k<=5:=⟨wT r.1.1,wT r.1.2⟩;exact .all (by omega) fun x hx=>I x hx (d x hx)
 where b:∀{l:List Cnd},kv l=0->∀x∈l,x.fault=0
  |y::l,h,x,hx=>by
   rw[kv]at h;split at h
   ·rename_i H;rcases zJ.1 hx with rfl|hx
    ·exact H
    ·exact b h x hx
   ·rename_i H;exact(H h).elim
section
variable{s:za}{srt:List (za×Val)->List (za×Val)}{srv:List Val->List Val}
def RC(f:Pst->Cnd×Pst)(s:za)(d:Nat)(c:Cnd):Prop:=∀(p q i:Nat) (l:za),Yi l->jg s ⟨p,d,0,i⟩=⟨q,d,0,i⟩->jv s q (c.show++l)->f ⟨p,d,0,i⟩=(c,⟨q+c.show.length,d,0,i⟩)
def Jf(c:Cnd):Prop:=∃x t,c.show=x::t/\x≠32/\x≠41
theorem Jf.tight{c:Cnd}(h:Jf c)(l:za):tight (c.show++l):=by obtain⟨x,t,a,b,_⟩:=h;rw[a];exact wB b
theorem VQ{c:Cnd}(h:tv c):Jf c:=by
 cases h with
 |all b _=>
  rcases b with rfl|rfl
  ·exact⟨97,_,by rw[jA,zg (by omega),zg (by omega)];rfl,by decide,by decide⟩
  ·exact⟨97,_,by rw[jA,zg (by omega),zg (by omega)];rfl,by decide,by decide⟩
 |not _=>exact⟨110,_,by rw[jA,zg (by omega),zg (by omega)];rfl,by decide,by decide⟩
 |gb _=>exact⟨105,_,by rw[jA,zg (by omega),zl rfl];rfl,by decide,by decide⟩
 |has _=>exact⟨104,_,by rw[jA,zl rfl];rfl,by decide,by decide⟩
 |pat _ a d _ _=>exact⟨46,_,by rw[jA,zl rfl,xk,zg (by simp only[Cnd.op];omega)];rfl,by decide,by decide⟩
 |ord _ a d _=>exact⟨46,_,by rw[jA,zl rfl,xk,zg (by simp only[Cnd.op];omega)];rfl,by decide,by decide⟩
 |yl _ a _ _=>exact⟨46,_,by rw[jA,zl rfl,xk,zg (by simp only[Cnd.op];omega)];rfl,by decide,by decide⟩
theorem Ee{f:Pst->Cnd×Pst}{d:Nat}:∀(cs a:List Cnd) (k p i:Nat) (l:za),Yi l->(l.head?≠some 44)->(∀c∈cs,RC f s d c/\Jf c)->jv s p (Lib.joinTail [44,32] (cs.map Cnd.show)++l)->cs.length<k ->
  oB s f k a ⟨p,d,0,i⟩=(a++cs,⟨p+(Lib.joinTail [44,32] (cs.map Cnd.show)).length,d,0,i⟩)
 |[],a,k+1,p,i,l,hs,g,_,h,_=>by
  have h:jv s p l:=h;have j:¬yw l=[44]:=by
   cases l with
   |nil=>decide
   |cons c l=>
    rcases hs c rfl with rfl|rfl
    ·rw[jD (by decide) (by decide) (by decide)];decide
    ·exact(g rfl).elim
  rw[oB,ku (vn h (X9 hs)) h j];simp[Lib.joinTail]
 |c::cs,a,k+1,p,i,l,hs,g,m,h,r=>by
  rw[zL,wD]at h⊢;have h:jv s p (44::(32::(c.show++(Lib.joinTail [44,32] (cs.map Cnd.show)++l)))):=by simpa using h
  have o:=h.qL;have q:=o.qL;have t:=xQ (i:=i) (d:=d) (vn (e:=0) h (wB (by decide))) h (jD (by decide) (by decide) (by decide));have n:Yi (Lib.joinTail [44,32] (cs.map Cnd.show)++l):=by
   cases cs with
   |nil=>exact hs
   |cons w cs=>intro x b;rw[zL,wD]at b;simp at b;simp[<-b]
  have u:=(m c (by simp)).1 (p+1) (p+1+1) i _ n (QK (e:=0) o ((m c (by simp)).2.tight _)) q;have v:=Ee cs (a++[c]) k _ i l hs g (fun x b=>m x (by simp[b])) q.app (by simp at r;omega);rw[oB,t];simp only[jZ,qa];rw[u];simp only;rw[v];simp;omega
theorem Ef{p d i:Nat}{l:za}(g:d<100)(h:jv s p (40::l)):na s ⟨p,d,0,i⟩=⟨p+1,d+1,0,i⟩:=by
 have a:=vn (e:=0) (i:=i) (d:=d) h (wB (by decide));have b:yw (40::l)=[40]:=jD (by decide) (by decide) (by decide);have Y:=Ja a h;rw[b]at Y;have c:=bm a h b;have f:¬100<=d:=by omega
 simp[na,a,Y,f,c,Pst.dn]
theorem Kb:∀(xs:List za),xs.length<=(Lib.joinTail [44,32] xs).length
 |[]=>by simp
 |y::ys=>by rw[wD];have:=Kb ys;simp;omega
theorem dV{p d i:Nat}{l:za}(h:jv s p (41::l)):JO s ⟨p,d,0,i⟩ [41]=⟨p+1,d,0,i⟩:=
 bm (vn h (wB (by decide))) h (jD (by decide) (by decide) (by decide))
theorem rP(l:za):Yi (41::l):=fun c a=>by simp at a;simp[<-a]
theorem Eg{f:Pst->Cnd×Pst}{cs:List Cnd}{p d i:Nat}{l:za}(u:d<100)(k:∀c∈cs,RC f s (d+1) c/\Jf c)(h:jv s p (40::(Lib.join (cs.map Cnd.show) [44,32]++41::l))) :
  dB s f ⟨p,d,0,i⟩=(cs,⟨p+(Lib.join (cs.map Cnd.show) [44,32]).length+2,d,0,i⟩):=by
 have q:=Ef (i:=i) u h;have a:=h.qL;cases cs with
 |nil=>have a:jv s (p+1) (41::l):=a;have b:=vn (e:=0) (i:=i) (d:=d+1) a (wB (by decide));have Y:=Ja b a;rw[jD (by decide) (by decide) (by decide)]at Y;have m:=dV (i:=i) (d:=d+1) a;simp[dB,q,Y,b,m,Pst.up,Lib.join_nil]
 |cons c cs=>
  rw[zL,lq]at a⊢;rw[qt]at a;have r:=(k c (by simp)).2;have b:=vn (e:=0) (i:=i) (d:=d+1) a (r.tight _);have Y:=Ja b a;have n:¬Yn s ⟨p+1,d+1,0,i⟩=[41]:=by rw[Y];obtain⟨x,t,v,_,w⟩:=r;rw[v,qg];intro e;exact w (aa (x:=41) (by rw[e];rfl)).symm
  have o:Yi (Lib.joinTail [44,32] (cs.map Cnd.show)++41::l):=by
   cases cs with
   |nil=>exact rP l
   |cons B cs=>intro x g;rw[zL,wD]at g;simp at g;simp[<-g]
  have y:=(k c (by simp)).1 _ _ i _ o b a;have j:=a.len;have z:=Kb (cs.map Cnd.show);have A:=Ee (f:=f) cs [c] (s.length+1) _ i (41::l) (rP l) (by simp) (fun x g=>k x (by simp[g])) a.app (by simp at j z;omega);have m:=dV (i:=i) (d:=d+1) a.app.app;simp only[dB,q,qa,zg n,b,y,A,m,Pst.up];simp;omega
theorem Np{f:Pst->Cnd×Pst}{c:Cnd}{p d i:Nat}{l:za}(g:d<100)(b:RC f s (d+1) c/\Jf c)(h:jv s p (40::(c.show++41::l))) :
  lp s f ⟨p,d,0,i⟩=([c],⟨p+c.show.length+2,d,0,i⟩):=by
 have j:=Ef (i:=i) g h;have a:=h.qL;have k:=vn (e:=0) (i:=i) (d:=d+1) a (b.2.tight _);have m:=b.1 _ _ i _ (rP l) k a;have n:=dV (i:=i) (d:=d+1) a.app;simp only[lp,j,m,n,Pst.up];simp;omega
theorem Eh(o:Int)(d:2<=o)(e:o<=12)(t:za):yw (Vy o++32::t)=Vy o/\iD (Vy o)=o/\tight (Vy o++32::t):=by
 have b:iR (32::t):=fun c a=>by simp at a;rw[<-a];decide
 have:o=2\/o=3\/o=4\/o=5\/o=6\/o=7\/o=8\/o=9\/o=10\/o=11\/o=12:=by omega
 rcases this with rfl|rfl|rfl|rfl|rfl|rfl|rfl|rfl|rfl|rfl|rfl
 ·exact⟨by rfl,by decide,wB (by decide)⟩
 ·exact⟨by rfl,by decide,wB (by decide)⟩
 ·exact⟨by rfl,by decide,wB (by decide)⟩
 ·exact⟨by rfl,by decide,wB (by decide)⟩
 ·exact⟨by rfl,by decide,wB (by decide)⟩
 all_goals exact⟨kS (by decide) (by decide) b,by decide,wB (by decide)⟩
theorem Hw{a:za}{o:Int}{p d i:Nat}{t:za}(f:yq a=true)(n:2<=o)(q:o<=12)(h:jv s p (a++32::(Vy o++32::t))) :
  aM s ⟨p,d,0,i⟩=(a,⟨p+a.length,d,0,i⟩)/\Yn s ⟨p+a.length,d,0,i⟩=Vy o/\jg s ⟨p+a.length,d,0,i⟩=⟨p+a.length+1,d,0,i⟩/\JO s ⟨p+a.length+1,d,0,i⟩ (Vy o)=⟨p+a.length+1+(Vy o).length,d,0,i⟩/\jv s (p+a.length+1+(Vy o).length) (32::t):=by
 obtain⟨r,u,z⟩:=bn f;obtain⟨g,A,j⟩:=Eh o n q t;have v:iR (32::(Vy o++32::t)):=fun c k=>by simp at k;rw[<-k];decide
 have w:tight (a++32::(Vy o++32::t)):=by
  cases a with
  |nil=>exact(r rfl).elim
  |cons c a=>exact wB (JF (u c (by simp))).2.2.2
 have x:=rO (i:=i) (d:=d) f (vn h w) h v;have b:=h.app;have l:=QK (e:=0) (i:=i) (d:=d) b j;have m:=Ja l b.qL;rw[g]at m;have y:=bm (i:=i) (d:=d) (vn b.qL j) b.qL g;exact⟨x,m,l,y,b.qL.app⟩
theorem Ei(k:Int)(a:za)(o:Int)(v:List Val)(p n:za)(l:List Cnd):YY (.mk k a o v p n l)=if j7 o=true then yB p else Z3 v:=rfl
theorem AA(t l:za):tight (yB t++l):=by obtain⟨l',a⟩:∃l',yB t++l=34::l':=⟨_,rfl⟩;rw[a];exact wB (by decide)
theorem Ej(b:∀l,sb l->srt l=l){t:za}(n:wi 32 126 t=true)(k:t.length<=500){p d i:Nat}{l:za}(f:Yi l)(h:jv s p (32::(yB t++l))) :
  jg s ⟨p,d,0,i⟩=⟨p+1,d,0,i⟩/\s[p+1]?=some 34/\Q4 s srt ⟨p+1,d,0,i⟩=(.mk 3 0 t [] [],⟨p+1+(yB t).length,d,0,i⟩):=by
 have g:=h.qL;obtain⟨l',j⟩:∃l',yB t++l=34::l':=⟨_,rfl⟩;have m:=g;rw[j]at m;have a:tight (yB t++l):=AA t l;refine⟨QK h a,m.get,?_⟩;have o:(Val.mk 3 0 t [] []).fault=0:=by
  rw[cJ];have:vg 3 0 t 0 0=0:=by
   have f:¬(500:Int)<t.length:=by omega
   simp[vg,K2,WB,Jp,Zx,sz,f,n,sy]
  simp[this,kg,xr]
 have hs:(Val.mk 3 0 t [] []).show=yB t:=by simp[gX]
 have:=iT (i:=i) (d:=d) b o (fun c q=>by rcases f c q with h|h<;>simp[h]) (vn (e:=0) g a) (by rw[hs];exact g);rw[hs]at this;exact this
theorem Nq(k:∀l,sb l->srt l=l)(y:∀l,Dg l->srv l=l){a u:za}{o:Int}{v:List Val}{p d i:Nat}{l:za}(w:tv (.mk 4 a o v u [] []))(J:o≠1)(z:Yi l)(h:jv s p (a++32::(Vy o++32::(YY (.mk 4 a o v u [] [])++l)))) :
  ln s srt srv ⟨p,d,0,i⟩=(.mk 4 a o v u [] [],⟨p+a.length+1+(Vy o).length+1+(YY (.mk 4 a o v u [] [])).length,d,0,i⟩):=by
 have b:yq a=true/\2<=o/\o<=12:=by
  cases w with
  |all K _=>omega
  |has _=>exact(J rfl).elim
  |pat g m A _ _=>exact⟨g,by omega,by omega⟩
  |ord g m A _=>exact⟨g,by omega,by omega⟩
  |yl g m _ _=>exact⟨g,by omega,by omega⟩
 obtain⟨B,C,D,E,j⟩:=Hw (i:=i) (d:=d) b.1 b.2.1 b.2.2 h;have F:=(Eh o b.2.1 b.2.2 []).2.1;have n:¬o<2:=by omega
 rw[Ei]at j⊢;cases w with
 |all K _=>omega
 |has _=>exact(J rfl).elim
 |pat g m A Y q=>
  have f:j7 o=true:=by simp[j7,ZO];omega
  rw[zl f]at j⊢;obtain⟨r,L,M⟩:=Ej (i:=i) (d:=d) k Y q z j;simp only[ln,B,C,D,E,F,ne_eq,not_true,qf,n,f,qa,r,L,M,Val.s]
 |ord g m A G=>
  rename_i x;have f:j7 o=false:=by simp[j7,ZO];omega
  have H:Zb o=true:=by simp[Zb,ZO];omega
  have t:Z3 [x]=x.show:=by simp[Z3,Lib.join_one]
  rw[f,zg (by decide),t]at j;rw[f,zg (by decide),t];have r:=iT (i:=i) (d:=d) k G (fun c w=>by rcases z c w with h|h<;>simp[h]) (QK (e:=0) j (WX _ _)) j.qL;simp only[ln,B,C,D,E,F,ne_eq,not_true,qf,n,f,H,qa,r,zq]
 |yl g m G I=>
  have f:j7 o=false:=by rcases m with rfl|rfl<;>decide
  have H:Zb o=false:=by rcases m with rfl|rfl<;>decide
  rw[f,zg (by decide)]at j;rw[f,zg (by decide)];have r:=Nn (i:=i) (d:=d) k y z G I j;simp only[ln,B,C,D,E,F,ne_eq,not_true,qf,n,f,H,r,zq]
theorem rQ(z:∀l,sb l->srt l=l)(A:∀l,Dg l->srv l=l):∀(k d:Nat) (c:Cnd),tv c->c.levels<=k->d+c.levels<=100->RC (VB s srt srv k) s d c
 | 0,d,c,_,hk,_=>by have:=WH c;omega
 |k+1,d,c,T,hk,hd=>by
  intro p q i l L E h;have g:=vn (e:=0) (i:=i) (d:=d) h ((VQ T).tight _);have F:=WH c;have G:∀x∈c.args,x.levels<=yz c.args:=fun x C=>tw C
  have P:∀(w:za) (t:za),w≠[]->(∀x∈w,KE x=true)->c.show++l=w++t->iR t->yw (c.show++l)=w:=fun w t h0 b e he=>by rw[e];exact kS h0 b he
  have r:∀(x:UInt8) (t:za),KE x=false->iR (x::t):=fun x t C y hy=>by simp at hy;rw[<-hy];exact C
  cases T with
  |all U I=>
   rename_i K cs;have hs:(Cnd.mk K [] 0 [] [] [] cs).show=kC K++([40]++(Lib.join (cs.map Cnd.show) [44,32]++[41])):=by rw[jA,zg (by omega),zg (by omega)]
   have j:∀x∈cs,RC (VB s srt srv k) s (d+1) x/\Jf x:=fun x C=>⟨rQ z A k (d+1) x (I x C) (by have:=G x C;simp only[Cnd.args]at this F;omega) (by have:=G x C;simp only[Cnd.args]at this F;omega),VQ (I x C)⟩
   rcases U with rfl|rfl
   ·have b:=P [97,108,108] (40::(Lib.join (cs.map Cnd.show) [44,32]++41::l)) (by decide) (by decide) (by rw[hs];simp[kC]) (r _ _ (by decide));have f:=xQ E h b;have u:jv s (q+3) (40::(Lib.join (cs.map Cnd.show) [44,32]++41::l)):=by rw[hs]at h;exact jv.app (a:=[97,108,108]) (by simpa[kC]using h)
    have H:=Eg (i:=i) (by omega) j u;rw[VB,f];simp only[qa,zd,zf,zo,Nat.reduceAdd];rw[H,hs];simp[kC];omega
   ·have b:=P [97,110,121] (40::(Lib.join (cs.map Cnd.show) [44,32]++41::l)) (by decide) (by decide) (by rw[hs];simp[kC]) (r _ _ (by decide));have f:=ku (w:=[97,108,108]) E h (by rw[b];decide);have m:=xQ g h b;have u:jv s (q+3) (40::(Lib.join (cs.map Cnd.show) [44,32]++41::l)):=by rw[hs]at h;exact jv.app (a:=[97,110,121]) (by simpa[kC]using h)
    have H:=Eg (i:=i) (by omega) j u;rw[VB,f];simp only[zq,qf];rw[m];simp only[qa,zd,zf,zo,Nat.reduceAdd];rw[H,hs];simp[kC];omega
  |not C=>
   rename_i x;have hs:(Cnd.mk 3 [] 0 [] [] [] [x]).show=kC 3++([40]++(x.show++[41])):=by rw[jA,zg (by omega),zg (by omega)];simp[Lib.join_one]
   have j:RC (VB s srt srv k) s (d+1) x/\Jf x:=⟨rQ z A k (d+1) x C (by have:=G x (by simp[Cnd.args]);simp only[Cnd.args]at this F;omega) (by have:=G x (by simp[Cnd.args]);simp only[Cnd.args]at this F;omega),VQ C⟩;have b:=P [110,111,116] (40::(x.show++41::l)) (by decide) (by decide) (by rw[hs];simp[kC]) (r _ _ (by decide));have f:=ku (w:=[97,108,108]) E h (by rw[b];decide);have m:=ku (w:=[97,110,121]) g h (by rw[b];decide);have B:=xQ g h b;have u:jv s (q+3) (40::(x.show++41::l)):=by rw[hs]at h;exact jv.app (a:=[110,111,116]) (by simpa[kC]using h)
   have H:=Np (i:=i) (by omega) j u;rw[VB,f];simp only[zq,qf];rw[m];simp only[zq,qf];rw[B];simp only[qa,zd,zf,zo,Nat.reduceAdd];rw[H,hs];simp[kC];omega
  |gb Q=>
   rename_i n;have hs:(Cnd.mk 5 [] 0 [] [] n []).show=[105,110,32]++n:=by rw[jA,zg (by omega),zl rfl]
   have b:=P [105,110] (32::(n++l)) (by decide) (by decide) (by rw[hs];simp) (r _ _ (by decide));have f:=ku (w:=[97,108,108]) E h (by rw[b];decide);have m:=ku (w:=[97,110,121]) g h (by rw[b];decide);have B:=ku (w:=[110,111,116]) g h (by rw[b];decide);have D:=xQ g h b;have u:jv s (q+2) (32::(n++l)):=by rw[hs]at h;exact jv.app (a:=[105,110]) (by simpa using h)
   have M:tight (n++l):=by
    obtain⟨W,nw,_⟩:=bn Q;cases n with
    |nil=>exact(W rfl).elim
    |cons c n=>exact wB (JF (nw c (by simp))).2.2.2
   have H:=rO (i:=i) (d:=d) Q (QK (e:=0) u M) u.qL (iS L);rw[VB,f];simp only[zq,qf];rw[m];simp only[zq,qf];rw[B];simp only[zq,qf];rw[D];simp only[qa,zd,zf,zo,Nat.reduceAdd];rw[H,hs];simp;omega
  |has Q=>
   rename_i a;have hs:(Cnd.mk 4 a 1 [] [] [] []).show=[104,97,115,32,46]++a:=by rw[jA,zl rfl];rfl
   have b:=P [104,97,115] (32::46::(a++l)) (by decide) (by decide) (by rw[hs];simp) (r _ _ (by decide));have f:=ku (w:=[97,108,108]) E h (by rw[b];decide);have m:=ku (w:=[97,110,121]) g h (by rw[b];decide);have B:=ku (w:=[110,111,116]) g h (by rw[b];decide);have D:=ku (w:=[105,110]) g h (by rw[b];decide);have N:=xQ g h b;have u:jv s (q+3) (32::46::(a++l)):=by rw[hs]at h;exact jv.app (a:=[104,97,115]) (by simpa using h)
   have M:tight (a++l):=by
    obtain⟨W,nw,_⟩:=bn Q;cases a with
    |nil=>exact(W rfl).elim
    |cons c n=>exact wB (JF (nw c (by simp))).2.2.2
   have hm:=bm (i:=i) (d:=d) (QK (e:=0) u (wB (by decide))) u.qL (jD (by decide) (by decide) (by decide));have H:=rO (i:=i) (d:=d) Q (vn (e:=0) u.qL.qL M) u.qL.qL (iS L);rw[VB,f];simp only[zq,qf];rw[m];simp only[zq,qf];rw[B];simp only[zq,qf];rw[D];simp only[zq,qf];rw[N];simp only[qa,zd,zf,zo,Nat.reduceAdd];rw[hm];simp only[zd,zf,zo];rw[H,hs];simp;omega
  |pat I R u Y S=>exact test z A L E g h (.pat I R u Y S) (by omega)
  |ord I R u hv=>exact test z A L E g h (.ord I R u hv) (by omega)
  |yl I R hv hu=>exact test z A L E g h (.yl I R hv hu) (by omega)
 where
  tw:∀{l:List Cnd} {x:Cnd},x∈l->x.levels<=yz l
   |y::l,x,h=>by
    simp only[yz];rcases zJ.1 h with rfl|h
    ·omega
    ·have:=tw h;omega
  test (z:∀l,sb l->srt l=l) (A:∀l,Dg l->srv l=l) {k p q d i:Nat} {l a J:za} {o:Int} {v:List Val} (L:Yi l) (E:jg s ⟨p,d,0,i⟩=⟨q,d,0,i⟩) (g:jg s ⟨q,d,0,i⟩=⟨q,d,0,i⟩)
    (h:jv s q ((Cnd.mk 4 a o v J [] []).show++l)) (T:tv (.mk 4 a o v J [] [])) (ho:o≠1):VB s srt srv (k+1) ⟨p,d,0,i⟩=(.mk 4 a o v J [] [],⟨q+(Cnd.mk 4 a o v J [] []).show.length,d,0,i⟩):=by
   have hs:(Cnd.mk 4 a o v J [] []).show=[46]++(a++([32]++(Vy o++([32]++YY (.mk 4 a o v J [] []))))):=by rw[jA,zl rfl,xk,zg (by simpa[Cnd.op]using ho)];rfl
   rw[hs]at h⊢;have h:jv s q (46::(a++32::(Vy o++32::(YY (.mk 4 a o v J [] [])++l)))):=by simpa using h
   have b:yw (46::(a++32::(Vy o++32::(YY (.mk 4 a o v J [] [])++l))))=[46]:=jD (by decide) (by decide) (by decide);have f:=ku (w:=[97,108,108]) E h (by rw[b];decide);have m:=ku (w:=[97,110,121]) g h (by rw[b];decide);have B:=ku (w:=[110,111,116]) g h (by rw[b];decide);have D:=ku (w:=[105,110]) g h (by rw[b];decide);have N:=ku (w:=[104,97,115]) g h (by rw[b];decide);have ha6:=xQ g h b;have ht:=Nq (i:=i) (d:=d) z A T ho L h.qL;rw[VB,f];simp only[zq,qf];rw[m];simp only[zq,qf];rw[B];simp only[zq,qf];rw[D];simp only[zq,qf];rw[N];simp only[zq,qf];rw[ha6];simp only[qa,zd,zf,zo];rw[ht];simp;omega
end
theorem rR{srt:List (za×Val)->List (za×Val)}{srv:List Val->List Val}(b:∀l,sb l->srt l=l)(d:∀l,Dg l->srv l=l){c:Cnd}(a:c.check=0)(f:c.show.length<=20000):xl srt srv c.show=(c,0,0):=by
 have j:c.fault=0/\c.levels<=20:=by
  unfold Cnd.check at a;split at a
  ·omega
  ·rename_i h;simp at h;exact⟨a,by omega⟩
 have g:=Az c j.1;have i:jv c.show 0 (c.show++[]):=by simp[jv]
 have k:=(VQ g).tight [];have e:=rQ (s:=c.show) b d 102 0 c g (by omega) (by omega) 0 0 0 [] (fun x m=>by simp at m) (vn i k) i;have n:jg c.show ⟨0+c.show.length,0,0,0⟩=⟨0+c.show.length,0,0,0⟩:=vn (l:=[]) (by simp[jv]) rfl;rw[xl,zg (by omega),e];simp only[n];simp[a]
noncomputable def IM (n:Nat):zb->Option (za×O):=qD (α:=Cnd) (fun c=>[.agg c.V]) (fun c=>ag c/\c.cb<=zX/\c.cb<=n) (fun c=>(c.show,.qS []))
theorem AB{a b:Cnd}(e:[O.agg a.V]=[.agg b.V]):a=b:=by simp only[zn,z7,O.agg.injEq]at e;exact YN e
theorem Ek(n:Nat)(c:Cnd)(h:ag c/\c.cb<=zX/\c.cb<=n):IM n [.agg c.V]=some (c.show,.qS []):=qj (V:=fun c:Cnd=>[.agg c.V]) (a:=c) (fun _ _=>AB) h
theorem El{f:FuncId}(a:∃fn,prog.funcs[f]?=some fn/\(fn.name== "runtime.NumGoroutine")=false/\fn.body.isNone=false):zh prog f (kc TB UB (IM 0)):=by
 refine⟨a,fun args Y Z r Y' Z' h=>?_⟩;unfold kc at h;split at h
 ·split at h
  ·obtain⟨_,_,h⟩:=zT.1 h;obtain⟨_,h,_⟩:=zT.1 h;obtain⟨c,_,b,_⟩:=zQ h;have:=gZ c;omega
  ·cases h
 ·cases h
theorem fzC(Y:Hp)(c:Cnd):zt Y [.agg c.V]=some ([.agg c.V],Y):=by simp only[zt,YO]
theorem noC(c:Cnd):([O.agg c.V].all O.noOwn)=true:=by simp only[wC,Kr,VV,Jd]
theorem prS{Y:Hp}{Z m:Nat}{a:za}(n:Nat)(c:Cnd)(B:ah TB UB Y Z m a)(h:ag c/\c.cb<=zX/\c.cb<=n)(b:a.length+c.show.length<=140737488355328) :
  ∃Y',kc TB UB (IM n) [.ref 0 0 0,.agg c.V] Y Z=some (.qS [],Y',Z+1)/\ah TB UB Y' (Z+1) Z (a++c.show)/\∀j,j≠0->j≠m->j≠Z->Y' j=Y j:=
 B.put (Y1:=Y) (fzC Y c) (noC c) (Ek n c h) b
noncomputable abbrev Cpr (n:Nat):Ctx:=qp prog [(8,kc TB UB (IM n)),(17,kc TB UB D0),(18,kc TB UB Hd),(19,kc TB UB He)]
theorem rS(n:Nat)(c:Cnd)(s:ag c)(J:c.cb<=zX)(hcn:c.cb<=n+1){Y:Hp}{Z:Nat}{l:za}{b0:Blk}{K:Hp->Hp}(L:vo TB UB Y Z l b0 K)(D:l.length+c.show.length<=140737488355328) :
  fi TB UB (yd (Cpr n) Tryz.f8 [.ref 0 0 0,.agg c.V] Y Z) (l++c.show) (.qS []):=by
 refine xX rfl ?_;have hcbe:=ZT c;have SU:=WG c.args;have hkd:=s.kind;have ot:=L.pos;obtain⟨E,G⟩:∃E,E=qb Y Z (some ⟨25,7,false,[c.V]⟩):=⟨_,rfl⟩;have i:∀j,j<Z->E j=Y j:=fun j hj=>by rw[G];exact zc _ _ _ _ (by omega)
 have M:E Z=some ⟨25,7,false,[c.V]⟩:=by rw[G];simp
 by_cases H:c.kind=4
 ·have N:c.show=xk c:=by rw[YZ,zl H]
  rw[N]at D⊢;obtain⟨Y1,b,I,_⟩:=L.put (h:=E) (Z':=Z+1) (F:=D0) (rest:=[.agg c.V]) (wS _) i (fzC _ c) (noC c) (Hk c ⟨s,H,J⟩) D;rw[G]at b;simp[H,b,Tryz.f8];exact I.ends (by simp) (by simp)
 unfold zX at J;by_cases k5:c.kind=5
 ·have N:c.show=[105,110,32]++c.name:=by rw[YZ,zg H,zl k5]
  rw[N]at D⊢;have hm:3+c.name.length<=maxLen:=by unfold maxLen;omega
  obtain⟨Y1,b,I,_⟩:=IK L (wS Z) i ([105,110,32]++c.name) (by simp) D;rw[G]at b;simp at b;simp[k5,hm,b,Tryz.f8];exact I.ends (by simp) (by simp)
 obtain⟨jl,P⟩:=yX (Lib.join (c.args.map Cnd.show) [44,32]);have hj0:jl=Qm [44,32] 0 ((c.args.drop 0).map Cnd.show):=by rw[jd,<-P];rfl
 have N:c.show=kC c.kind++([40]++(jl++[41])):=by rw[YZ,zg H,zg k5,P]
 have Ny:=fK c.kind;have hwn:kC c.kind++[40]≠[]:=by simp
 rw[N]at D⊢;obtain⟨T,hT⟩:∃T,T=l++(kC c.kind++([40]++(jl++[41]))):=⟨_,rfl⟩;have Q:T.length=l.length+(kC c.kind++([40]++(jl++[41]))).length:=by rw[hT];simp
 rw[<-hT];rw[<-Q]at D;simp at Q;have t:4<=maxLen:=by unfold maxLen;omega
 obtain⟨H1,e⟩:∃H1,H1=qb E (Z+1) (some ⟨9,1,true,[[.v (.string ⟨#[]⟩)],[.v (.string ⟨#[97,108,108]⟩)],[.v (.string ⟨#[97,110,121]⟩)],[.v (.string ⟨#[110,111,116]⟩)]]⟩):=⟨_,rfl⟩;obtain⟨Y1,b,I,R⟩:=IK (h:=H1) (Z':=Z+1+1) L (by omega) (fun j hj=>by rw[e,zc _ _ _ _ (by omega)];exact i j hj) (kC c.kind++[40]) hwn (by simp;omega);have f1:Y1 Z=some ⟨25,7,false,[c.V]⟩:=by rw[R Z (zi _) (by omega),e,zc _ _ _ _ (by omega),M]
 rw[e,G]at b;refine Qk (fun st=>st.X 0=.ref 0 0 0/\st.X 3=.ref Z 0 0/\st.Z=Z+1/\st.Y=qb Y Z (some ⟨25,7,false,[c.V]⟩)) (by simp) ?_;rintro⟨X,Y2,S⟩ ⟨d,f,p,q⟩;simp only at d f p q;subst p;subst q;have k4':(c.kind==4)=false:=wv.2 H;have k5':(c.kind==5)=false:=wv.2 k5;refine Qk (fun st=>st.X 0=.ref 0 0 0/\st.X 3=.ref Z 0 0/\st.Z=Z+1/\st.Y=qb Y Z (some ⟨25,7,false,[c.V]⟩)) (by simp[d,f,k4',k5']) ?_;clear d f X;rintro⟨X,Y2,S⟩ ⟨d,f,p,q⟩;simp only at d f p q;subst p;subst q;refine Qk (fun st=>st.X 0=.ref 0 0 0/\st.X 3=.ref Z 0 0/\st.Z=Z+1+1+1/\st.Y=Y1) ?_ ?_
 ·rcases(by omega:c.kind=1\/c.kind=2\/c.kind=3)with hk|hk|hk
  ·rw[hk]at b;simp[kC]at b;simp[d,f,hk,zu,zP,zr,t,b]
  ·rw[hk]at b;simp[kC]at b;simp[d,f,hk,zu,zP,zr,t,b]
  ·rw[hk]at b;simp[kC]at b;simp[d,f,hk,zu,zP,zr,t,b]
 clear d f X;rintro⟨X,Y2,S⟩ ⟨d,f,p,q⟩;simp only at d f p q;subst p;subst q;clear i M G e b R;simp[d,f,f1];refine qA (fun k X Y Z=>X 0=.ref 0 0 0/\X 29=.sl 7 (c.args.map Cnd.V)/\X 30=int c.args.length/\X 31=int k/\∃m u,ah TB UB Y Z m u/\T=u++(Qm [44,32] k ((c.args.drop k).map Cnd.show)++[41])) c.args.length ⟨by simp[d],by simp,by simp,by simp,_,_,I,by rw[hT,<-hj0];simp⟩ ?_;clear d f f1 I X L;rintro k X Y Z Nw ⟨d,w,y,z,m,u,B,g⟩;by_cases o:k<c.args.length
 ·have hw:=wP k;have r:=zz o;have hm:=Va r;have A:=s.args _ r;rw[zj o,zL,WE]at g;obtain⟨x,hx⟩:=yX (c.args[k]);rw[hx]at g hm A;have HT:i6.wrap 1=1:=by decide
  have a:=zk List.length g;have UM:=B.2.2.2;have B':=B.same (Z':=Z+1) (Y':=qb Y Z (some ⟨25,7,false,[x.V]⟩)) (wS _) (fun j hj=>zc _ _ _ _ (by omega));by_cases C:k=0
  ·subst C;simp at g a;obtain⟨Y2,U,W,_⟩:=prS n x B' ⟨A,by unfold zX;omega,by omega⟩ (by omega);simp[d,w,y,z,o,hx,U,HT];exact⟨by omega,_,_,W,by simpa using g⟩
  ·rw[zg C]at g;have Pb:0<k:=by omega
   simp[C]at g a;obtain⟨Y2,U,W,fr2⟩:=E9 B' [44,32] (by simp) (by simp;omega);have f2:Y2 Z=some ⟨25,7,false,[x.V]⟩:=by rw[fr2 Z (by omega) (by omega) (by omega)];simp
   obtain⟨UZ,e3,B3,_⟩:=prS n x W ⟨A,by unfold zX;omega,by omega⟩ (by simp;omega);simp[d,w,y,z,o,hx,Pb,U,f2,e3,hw];exact⟨by omega,_,_,B3,by simpa using g⟩
 ·obtain rfl:k=c.args.length:=by omega
  rw[zE,xn,ZG,jh]at g;have a:=zk List.length g;simp at a;obtain⟨Y2,U,W,_⟩:=Aq B 41 41 rfl (by omega);simp[d,w,y,z,U,Tryz.f8];exact W.ends g (by omega)
theorem nU:∀n,zh prog 8 (kc TB UB (IM n)):=by
 intro n
 induction n with
 |zero=>exact El ⟨_,func8,by kernel_rfl,by kernel_rfl⟩
 |succ n d=>
  have f:Gd (Cpr n):=qT mixed ⟨d,aQ,VL,VM,trivial⟩;exact vN (code:=_) f ⟨func8,by kernel_rfl,rfl,by kernel_rfl⟩ _ _ (IM (n+1)) fun xs t r h=>by obtain⟨c,rfl,b,e⟩:=zQ h;injection e with g i;subst g;subst i;exact⟨rfl,qm (zi 2) (by decide),fun Y Z l k K j a=>rS n c b.1 b.2.1 b.2.2 j a⟩
noncomputable def JQ (c:Cnd):za×Int:=if c.check=0 then(if(20000:Int)<c.show.length then([],2)else(c.show,0))else([],c.check)
noncomputable def VR (c:Cnd):O:=.qS [str (JQ c).1,int (JQ c).2]
theorem Em(c:Cnd)(h:ag c):c.show≠[]:=by
 rw[YZ];split
 ·unfold xk;split<;>simp
 split<;>simp
noncomputable abbrev Sv:Ctx:=qp prog [(7,GC fun c=>int c.check),(8,kc TB UB (IM zX)),(9,kE Sk Tryz.f9),(10,Al)]
theorem Hx:Gd Sv:=qT mixed ⟨Vx,nU zX,Ap,fU,trivial⟩
theorem rT(c:Cnd)(h:c.cb<=zX):zM Sv Tryz.f4 [.agg c.V]=some (VR c):=by
 have a:=fun Y Z=>WI (fun c=>int c.check) c Y Z h
 refine zw rfl ?_;by_cases b:c.check=0
 ·have d:=iC c b;have k:=u4 c d;unfold zX at h;obtain⟨Y1,g,i,l,_⟩:=nK (T:=TB) (U:=UB) (F:=IM zX) (h:=qb (qb (fun _=>none) 0 (some ⟨25,7,false,[c.V]⟩)) 1 (some ⟨37,2,false,[[.v (.pointer none),.nil]]⟩)) (id:=1) (Z':=2) (rest:=[.agg c.V]) (by rw[q9];rfl) (by omega) (fzC _ c) (noC c) (Ek zX c ⟨d,by unfold zX;omega,by unfold zX;omega⟩) (by omega);have j:=fun Z=>Hf Y1 Z 1 2 c.show.length i
  have m:=fun Z=>nJ Y1 Z 1 2 c.show i l (Em c d) (by omega)
  by_cases e:(20000:Int)<c.show.length
  ·have Y:VR c=.qS [str [],int 2]:=by unfold VR JQ;rw[zl b,zl e]
   simp[a,b,g,j,e,Y,ja,AM.freeze,zt,zS,qh,Tryz.f4]
  ·have Y:VR c=.qS [str c.show,int 0]:=by unfold VR JQ;rw[zl b,zg e]
   simp[a,b,g,j,m,e,Y,ja,AM.freeze,zt,zS,qh,Tryz.f4]
 ·have Y:VR c=.qS [str [],int c.check]:=by unfold VR JQ;rw[zg b]
  have f:=lx b;simp[a,f,Y,ja,AM.freeze,zt,zS,qh,Tryz.f4]
theorem nV:zh prog 4 (GC VR):=
 jo (fn:=Tryz.f4) Hx (wL func4) false [] _ fun args r h=>by obtain⟨c,rfl,a,rfl⟩:=cM h;exact⟨by simp[Tryz.f4],_,rT c a.1,wy _⟩
end Go.Q
namespace Go.Q
noncomputable def UH (n:Nat):zb->Option O:=qD (α:=Cnd) (fun c=>[.agg c.V,.agg c.V]) (fun c=>c.cb<=zX/\c.cb<=n) fun _=>yW true
theorem dW(n:Nat)(c:Cnd)(Y:Hp)(Z:Nat)(h:c.cb<=zX/\c.cb<=n):zp false [] (UH n) [.agg c.V,.agg c.V] Y Z=some (yW true,Y,Z):=
 sn c _ _ (by simp[qC]) (fun a b e=>by simp only[zn,z7,O.agg.injEq]at e;exact YN e.1) h (.inl rfl)
noncomputable abbrev Csm (n:Nat):Ctx:=qp prog [(14,zp false [] (RA (fun _=>int 0) zX)),(6,zp false [] (UH n))]
abbrev qsm:List Nat:=[14,6]
theorem AD(n:Nat)(c:Cnd)(h:c.cb<=zX/\c.cb<=n+1):zM (Csm n) Tryz.f6 [.agg c.V,.agg c.V]=some (yW true):=by
 obtain⟨s,x⟩:=h;have t:=ZT c;have u:=WG c.args;have v:=y7 c.yl;unfold zX at s;refine zw rfl ?_;simp[qC c];refine qA (fun k X Y Z=>X 2=.ref 0 0 0/\X 3=.ref 1 0 0/\X 60=int c.yl.length/\X 61=int k/\Y 0=some ⟨25,7,false,[c.V]⟩/\Y 1=some ⟨25,7,false,[c.V]⟩) c.yl.length
  ⟨by simp,by simp,by simp,by simp,by simp[qC c],by simp[qC c]⟩ ?_
 rintro k X Y Z r ⟨e,f,g,i,j,l⟩;have a:=j;have b:=l;rw[qC c]at a b;by_cases d:k<c.yl.length
 ·have p:=wP k;have w:=kA (zz d);have q:=fun Y Z=>cX (fun _=>int 0) zX c.yl[k] Y Z ⟨by unfold zX;omega,by unfold zX;omega⟩
  simp[e,f,g,i,d,a,b,q,p];exact⟨by omega,(qC c).symm⟩
 obtain rfl:k=c.yl.length:=by omega
 simp[e,f,g,i,a,b];refine qA (fun k X Y Z=>X 2=.ref 0 0 0/\X 3=.ref 1 0 0/\X 79=int c.args.length/\X 80=int k/\Y 0=some ⟨25,7,false,[c.V]⟩/\Y 1=some ⟨25,7,false,[c.V]⟩) c.args.length
  ⟨by simp[e],by simp[f],by simp,by simp,j,l⟩ ?_
 clear e f g i j l a b d r;rintro k X Y Z r ⟨e,f,m,o,j,l⟩;have a:=j;have b:=l;rw[qC c]at a b;by_cases d:k<c.args.length
 ·have p:=wP k;have w:=Va (zz d);have q:=fun Y Z=>dW n c.args[k] Y Z ⟨by unfold zX;omega,by omega⟩
  simp[e,f,m,o,d,a,b,q,p];exact⟨by omega,(qC c).symm⟩
 ·obtain rfl:k=c.args.length:=by omega
  simp[e,f,m,o,ja,Tryz.f6]
theorem dX:∀n,zh prog 6 (zp false [] (UH n))
 | 0=>Xg ⟨_,func6,by kernel_rfl,by kernel_rfl⟩ fun args r h=>by obtain⟨a,_,⟨_,d⟩,_⟩:=zQ h;have:=gZ a;omega
 |n+1=>XV (C:=Csm n) (qH (q:=qsm) mixed ⟨eD zX,fun _=>zv _ _,dX n,fun _=>zv _ _,trivial⟩) func6 false [] fun c b=>⟨by simp[Tryz.f6],_,AD n c b,wy _⟩
theorem AE{s:za}{c:Cnd}{a b:Pst}(d:¬20000<s.length)(f:VB s zx jC 102 ⟨0,0,0,0⟩=(c,a))(g:(if(jg s a).p<s.length then eL s (jg s a)else jg s a)=b):xl zx jC s=if b.e≠0 then(zC,b.i,b.e)else if c.check≠0 then(zC,0,c.check)else(c,0,0):=by unfold xl;rw[zg d];simp only[f,g]
theorem AF{s:za}(h:(xl zx jC s).2.2=0):(xl zx jC s).1.check=0/\(xl zx jC s).1.cb<=20001:=by
 by_cases f:20000<s.length
 ·exfalso;unfold xl at h;rw[zl f]at h;simp at h
 have m:=XF (s:=s) 102 ⟨0,0,0,0⟩ (kj _);obtain⟨c,a,n⟩:∃c a,VB s zx jC 102 ⟨0,0,0,0⟩=(c,a):=⟨_,_,rfl⟩;rw[n]at m;obtain⟨o,r,q⟩:=m;simp only at o r q;have i:=jJ (s:=s) o;have k:=WV (s:=s) i.2.1;obtain⟨l,b⟩:=yX (if(jg s a).p<s.length then eL s (jg s a)else jg s a);rw[AE f n b]at h⊢;by_cases g:l.e=0
 case neg=>rw[zl g]at h;exact absurd h g
 rw[zg (by simpa using g)]at h⊢;by_cases d:c.check=0
 case neg=>rw[zl d]at h;exact absurd h d
 rw[zg (by simpa using d)];refine⟨d,?_⟩;by_cases j:(jg s a).p<s.length
 ·rw[zl j]at b;rw[<-b]at g;exact absurd g k.2.2.2
 ·rw[zg j]at b;rw[<-b,i.2.2.1]at g;have:=(q g).2.2;simp only;omega
theorem nW{c:Cnd}(b:c.check=0)(a:c.show.length<=20000):xl zx jC c.show=(c,0,0):=rR (fun _ h=>dM h) Hb b a
noncomputable abbrev Ctb:Ctx:=qp prog [(4,GC VR),(5,Nl),(6,zp false [] (UH zX))]
theorem Nr:AM.Good Ctb (fun g=>[6].contains g):=qH mixed ⟨nV,by simp,rN,by simp,dX zX,fun _=>zv _ _,trivial⟩
theorem En:Kl Ctb (fun g=>[6].contains g) 3 Tryz.f3:=wL func3
theorem fZ{c:Cnd}(b:c.check=0)(a:c.show.length<=20000):rM c.show=.qS [.agg c.V,int 0,int 0]:=by unfold rM;rw[nW b a];rfl
theorem th(c:Cnd)(b:c.check=0):VR c=if 20000<c.show.length then .qS [str [],int 2]else .qS [str c.show,int 0]:=by
 unfold VR JQ;rw[zl b];by_cases a:20000<c.show.length
 ·rw[zl a,zl (by omega)]
 ·rw[zg a,zg (by omega)]
theorem Hy(c:Cnd)(t:za)(h:c.cb<=zX)(y:t.length<=zX):zM Ctb Tryz.f3 [.agg c.V,str t]=some (yW true):=by
 have v:zX=268435456:=rfl;have e:=fun Y Z=>WI VR c Y Z h
 have m:=fun Y Z=>XG t Y Z y
 obtain⟨⟨x,n,f⟩,w⟩:∃r,xl zx jC t=r:=⟨_,rfl⟩;have g:=fun h=>AF (s:=t) h
 rw[w]at g;simp only at g;rw[show rM t=.qS [.agg x.V,int n,int f] by unfold rM;rw[w]]at m;refine zw rfl ?_;refine qq (fun X Y Z=>X 1=str t/\X 2=.ref 0 0 0/\Y 0=some (Zr c.V)/\Z=1) (by simp) ?_;rintro X Y1 _ ⟨d,j,p,rfl⟩;have o:=fun Y Z=>dW zX c Y Z ⟨h,h⟩
 refine qq (fun b Y Z=>b 1=str t/\b 2=.ref 0 0 0/\b 5=str (JQ c).1/\b 6=int (JQ c).2/\Y=Y1/\Z=1) ?_ ?_
 ·have z:∀Y Z,GC VR [.agg c.V] Y Z=some (.qS [str (JQ c).1,int (JQ c).2],Y,Z):=e;simp[d,j,p,z]
 clear d j X;rintro X _ _ ⟨d,j,k,i,rfl,rfl⟩;refine qq (fun b Y Z=>b 1=str t) ?_ ?_
 ·by_cases a:c.check=0
  ·by_cases q:20000<c.show.length
   ·have Y2:JQ c=([],2):=by unfold JQ;rw[zl a,zl (by omega)]
    rw[Y2]at k i;simp[d,i]
   ·have Y2:JQ c=(c.show,0):=by unfold JQ;rw[zl a,zg (by omega)]
    rw[Y2]at k i;have l:=fun Y Z=>XG c.show Y Z (by omega)
    rw[fZ a (by omega)]at l;simp[d,j,k,i,p,l,o,zc]
  ·have Y2:JQ c=([],c.check):=by unfold JQ;rw[zg a]
   rw[Y2]at k i;simp[d,i,a,vr a]
 clear d j k i p e o X;rintro X Y1 Z d;by_cases u:f=0
 case neg=>simp[d,m,u,vr u,bne,Tryz.f3]
 subst u;obtain⟨a,A⟩:=g rfl;have e:=fun Y Z=>WI VR x Y Z (by omega)
 have o:=fun Y Z=>dW zX x Y Z ⟨by omega,by omega⟩
 by_cases q:20000<x.show.length
 ·rw[th x a,zl q]at e;simp[d,m,e,Tryz.f3]
 ·rw[th x a,zg q]at e;have l:=fun Y Z=>XG x.show Y Z (by omega)
  rw[fZ a (by omega)]at l;simp[d,m,e,l,o,Tryz.f3]
end Go.Q
