/- Lemmas. -/
import Derived.Test.YtnbicamkimignaaGreatDoorG21
set_option maxRecDepth 8000
open Go Proofs Proofs.YtnbicamkimignaaGreatDoor Proofs.Tryz RowKit AM SpanLaw Q Zz
open Go.IntKind renaming i64→i6
namespace Go.Q
def yX(r:Bk×Int):O:=.yb [.agg r.1.V,int r.2]
abbrev Qk:List (Option Nat):=[some 3,some 4,some 13]
theorem qy(k:Int):qM (.yb [.agg [.nil,.nil,.nil],int k]) (yX (wJ,k)):=by have h:qM (.agg [.nil,.nil,.nil]) (.agg wJ.V):=Q8 (.g Qk) _;exact vp.yb (.cons h (.cons (.refl _) .nil))
noncomputable abbrev Cmd:Ctx:=qb prog [(13,zi false [] (pF fun b=>int (qQ b)))]
theorem zeg:AM.Good Cmd (fun g=>([]:List Nat).contains g):=zI mixed ⟨tm,by simp,trivial⟩
theorem MS(b:Bk)(h:b.cb≤zG):∃f,zz Cmd f26 [.agg b.V]=some f∧qM f (yX (yD b)):=by
 refine yv rfl ?_;have a:=fun Y Z=>XJ (fun b=>int (qQ b)) b Y Z h
 simp only[Bk.V]at a;by_cases c:qQ b=0
 ·have d:yD b=(b,0):=by unfold yD;rw[zf c]
  rw[d];simp[Bk.V,a,c,f26];exact⟨yX (b,0),by simp[yX,Bk.V],.refl _⟩
 ·have d:yD b=(wJ,qQ b):=by unfold yD;rw[zj c]
  have e:(qQ b != 0)=true:=by simpa using c
  rw[d];simp[Bk.V,a,e,zR,qc,f26];exact⟨_,by simp,qy _⟩
theorem Hg:zg prog 26 (zi false [] (pF fun b=>yX (yD b))):=
 jD (fn:=f26) zeg ⟨_,func26,by kernel_rfl,rfl,by kernel_rfl⟩ false [] _ fun args r h w S vs a=>by obtain⟨b,rfl,c,rfl⟩:=zr h;obtain⟨d,e,f⟩:=MS b c;exact⟨_,d,a,by simp[f26],e,f⟩
theorem Hh:zg prog 13 (qh [.g Qk] (pF fun b=>int (qQ b))):=
 wo (fn:=f13) II ⟨_,func13,by kernel_rfl,rfl,by kernel_rfl⟩ _ _ fun args r h=>by obtain⟨b,rfl,a,rfl⟩:=zr h;exact⟨by simp[f13],_,D1 b a,.refl _⟩
theorem nY:zg prog 18 (qh [.g Qk] (MP fun b s t n=>.sl 2 ((jY b s t n).map zM))):=
 wo (fn:=f18) Rm ⟨_,func18,by kernel_rfl,rfl,by kernel_rfl⟩ _ _ fun args r h=>by obtain⟨⟨b,s,t,n⟩,rfl,a,rfl⟩:=zr h;exact⟨zC (ze 4) (by decide),_,dY b s t n a,.refl _⟩
end Go.Q
namespace Go.AM
variable{dr:Prop}
theorem kJ.zia{P:Program}{w:World}{G:Nat→GI}{Z:Nat}{S:Nat→Prop}{Y:Hp}(a:Inv P w S G Y Z):kJ dr P Y Z S G w Y (Z+1) S G w:=
 ⟨⟨a.st,fun id b h=>Nat.lt_succ_of_lt (a.top id b h),fun id b h=>(a.live id b h).mono (fun b c=>⟨c,rfl⟩) (ja _) (fun _ _=>rfl) rfl,a.apart,a.inj,a.eR⟩,ja _,fun _ _=>rfl,fun _ h=>h,fun _ h=>.inl h,fun id blk c=>.inl ⟨id,blk,c,rfl⟩,Fr.refl _ _⟩
theorem IW{w:World}{S:Nat→Prop}{s cap:Nat}{A:Option Addr}(a:A=none→cap=0)(b:cap≤maxLen):wT w S (.sl s []) (.slice A 0 cap):=
 wT.sl (es:=[]) (fun _ _=>undef) a (kD _) b (fun c d=>by cases d) (fun i j c e h=>by simp at h) (fun i j c e h=>by simp at h)
end Go.AM
namespace Go.Q
def Wn(e s:Nat):AM.Spec:=fun args Y Z=>match args with
 |[.sl a es]=>if a=s∧es.length≤zG then(if es=[]then some (.sl s [],Y,Z+1)else some (.own Z 0 es.length,qZ Y Z (some ⟨e,s,true,es⟩),Z+1))else none
 |[.nil]=>some (.nil,Y,Z)
 |[.em]=>some (.own Z 0 0,qZ Y Z (some ⟨e,s,true,[]⟩),Z+1)
 |_=>none
theorem Qa{P:Program}{dr:Prop}{f:FuncId}{e s:Nat}(h:km dr P f (yO [] (yV e s))):km dr P f (Wn e s):=by
 refine⟨h.1,fun args Y Z r Y' W a w S G vs l m=>?_⟩;unfold Wn at a;split at a
 case h_2=>injection a with a;injection a with d a;injection a with g i;subst d;subst g;subst i;exact h.2 [.nil] Y Z _ _ _ rfl w S G vs l m
 case h_3=>injection a with a;injection a with d a;injection a with g i;subst d;subst g;subst i;exact h.2 [.em] Y Z _ _ _ rfl w S G vs l m
 case h_4=>cases a
 rename_i n es;split at a
 case isFalse=>cases a
 rename_i E;obtain⟨rfl,F⟩:=E;split at a
 ·rename_i H;subst H;injection a with a
  injection a with d a;injection a with g i;subst d;subst g;subst i;obtain⟨u,us,rfl,I,o⟩:=m.jl;have p:us=[]:=Yg (by simpa using o.1.symm);subst p;have J:=I.af;cases J with
  |sl K L X M h4 h5 h6=>
   rename_i A cap;cases A with
   |none=>
    obtain rfl:=L rfl;refine(h.2 [.nil] Y Z .nil Y Z rfl w S G [.slice none 0 0] l (.cons (.c .nil) .nil)).mono fun N Q q=>?_
    obtain⟨v,t,x,rfl,k,y⟩:=q;obtain rfl:=y.xc;exact⟨_,t,x,rfl,k.trans (kJ.zia k.inv),.c (IW (fun _=>rfl) (kD _))⟩
   |some R=>
    refine(h.2 [.em] Y Z (.own Z 0 0) (qZ Y Z (some ⟨e,n,true,[]⟩)) (Z+1) rfl w S G [.slice (some R) 0 cap] l (.cons (.c (.em M)) .nil)).mono fun N Q q=>?_
    obtain⟨v,t,x,rfl,k,y⟩:=q;obtain⟨C,a1,a2,T,a4,rfl⟩:=y.xd;have D:=k.trans (kJ.drop k.inv Z);have hid:qZ (qZ Y Z (some ⟨e,n,true,[]⟩)) Z none=Y:=by
     funext j;by_cases z:j=Z
     ·subst z;rw[w9];cases U:Y j with
      |none=>rfl
      |some b=>exact absurd (l.top j b U) (Nat.lt_irrefl _)
     ·rw[qY _ _ _ _ z,qY _ _ _ _ z]
    rw[hid]at D;exact⟨_,t,x,rfl,D,.c (IW (fun h=>by cases h) T)⟩
 ·rename_i B;injection a with a
  injection a with d a;injection a with g i;subst d;subst g;subst i;exact h.2 [.sl n es] Y Z _ _ _ (by simp[yO,yf,yV,zA,qf,we,B,F]) w S G vs l m
theorem D6(args:zc)(r:Option jz)(h:yV 61 3 args=some r):args.length≤f63.ntmps∧∃x Y Z,yr C0 f63 args (fun _=>none) 0=some (x,Y,Z)∧kd r x Y Z:=by
 unfold yV at h;split at h
 ·injection h with h;subst h;exact⟨by simp[f63],zT rfl (by simp[jP,ji,f63,kd])⟩
 ·injection h with h;subst h;exact⟨by simp[f63],zT rfl (by simp[jP,ji,f63,kd,zv,wU,AM.view,maxLen,zN,zy])⟩
 ·rename_i es;split at h
  ·rename_i d;obtain⟨rfl,a,b⟩:=d;injection h with h;subst h
   cases es with
   |nil=>exact absurd rfl a
   |cons c es=>
    unfold zG at b;simp at b;have e:es.length+1≤maxLen:=by unfold maxLen;omega
    have f:(es.length+1)*40≤140737488355328:=by omega
    refine⟨by simp[f63],zT rfl ?_⟩;simp[jP,ji,f63,kd,zv,wU,AM.view,zN,zy,e,f]
  ·cases h
 ·cases h
theorem Hi:zg prog 63 (Wn 61 3):=
 Qa (jw (fn:=f63) (code:=_) w8 ⟨func63,by kernel_rfl,rfl,by kernel_rfl⟩ [] _ D6)
theorem D7(args:zc)(r:Option jz)(h:yV 71 4 args=some r):args.length≤f64.ntmps∧∃x Y Z,yr C0 f64 args (fun _=>none) 0=some (x,Y,Z)∧kd r x Y Z:=by
 unfold yV at h;split at h
 ·injection h with h;subst h;exact⟨by simp[f64],zT rfl (by simp[jP,ji,f64,kd])⟩
 ·injection h with h;subst h;exact⟨by simp[f64],zT rfl (by simp[jP,ji,f64,kd,zv,wU,AM.view,maxLen,zN,zy])⟩
 ·rename_i es;split at h
  ·rename_i d;obtain⟨rfl,a,b⟩:=d;injection h with h;subst h
   cases es with
   |nil=>exact absurd rfl a
   |cons c es=>
    unfold zG at b;simp at b;have e:es.length+1≤maxLen:=by unfold maxLen;omega
    have f:(es.length+1)*64≤140737488355328:=by omega
    refine⟨by simp[f64],zT rfl ?_⟩;simp[jP,ji,f64,kd,zv,wU,AM.view,zN,zy,e,f]
  ·cases h
 ·cases h
theorem Hj:zg prog 64 (Wn 71 4):=
 Qa (jw (fn:=f64) (code:=_) w8 ⟨func64,by kernel_rfl,rfl,by kernel_rfl⟩ [] _ D7)
theorem D8(args:zc)(r:Option jz)(h:yV 34 13 args=some r):args.length≤f65.ntmps∧∃x Y Z,yr C0 f65 args (fun _=>none) 0=some (x,Y,Z)∧kd r x Y Z:=by
 unfold yV at h;split at h
 ·injection h with h;subst h;exact⟨by simp[f65],zT rfl (by simp[jP,ji,f65,kd])⟩
 ·injection h with h;subst h;exact⟨by simp[f65],zT rfl (by simp[jP,ji,f65,kd,zv,wU,AM.view,maxLen,zN,zy])⟩
 ·rename_i es;split at h
  ·rename_i d;obtain⟨rfl,a,b⟩:=d;injection h with h;subst h
   cases es with
   |nil=>exact absurd rfl a
   |cons c es=>
    unfold zG at b;simp at b;have e:es.length+1≤maxLen:=by unfold maxLen;omega
    have f:(es.length+1)*224≤140737488355328:=by omega
    refine⟨by simp[f65],zT rfl ?_⟩;simp[jP,ji,f65,kd,zv,wU,AM.view,zN,zy,e,f]
  ·cases h
 ·cases h
theorem nZ:zg prog 65 (Wn 34 13):=
 Qa (jw (fn:=f65) (code:=_) w8 ⟨func65,by kernel_rfl,rfl,by kernel_rfl⟩ [] _ D8)
theorem D9(args:zc)(r:Option jz)(h:yV 101 3 args=some r):args.length≤f61.ntmps∧∃x Y Z,yr C0 f61 args (fun _=>none) 0=some (x,Y,Z)∧kd r x Y Z:=by
 unfold yV at h;split at h
 ·injection h with h;subst h;exact⟨by simp[f61],zT rfl (by simp[jP,ji,f61,kd])⟩
 ·injection h with h;subst h;exact⟨by simp[f61],zT rfl (by simp[jP,ji,f61,kd,zv,wU,AM.view,maxLen,zN,zy])⟩
 ·rename_i es;split at h
  ·rename_i d;obtain⟨rfl,a,b⟩:=d;injection h with h;subst h
   cases es with
   |nil=>exact absurd rfl a
   |cons c es=>
    unfold zG at b;simp at b;have e:es.length+1≤maxLen:=by unfold maxLen;omega
    have f:(es.length+1)*24≤140737488355328:=by omega
    refine⟨by simp[f61],zT rfl ?_⟩;simp[jP,ji,f61,kd,zv,wU,AM.view,zN,zy,e,f]
  ·cases h
 ·cases h
theorem Hk:zg prog 61 (Wn 101 3):=
 Qa (jw (fn:=f61) (code:=_) w8 ⟨func61,by kernel_rfl,rfl,by kernel_rfl⟩ [] _ D9)
theorem AH(args:zc)(r:Option jz)(h:yV 54 2 args=some r):args.length≤f72.ntmps∧∃x Y Z,yr C0 f72 args (fun _=>none) 0=some (x,Y,Z)∧kd r x Y Z:=by
 unfold yV at h;split at h
 ·injection h with h;subst h;exact⟨by simp[f72],zT rfl (by simp[jP,ji,f72,kd])⟩
 ·injection h with h;subst h;exact⟨by simp[f72],zT rfl (by simp[jP,ji,f72,kd,zv,wU,AM.view,maxLen,zN,zy])⟩
 ·rename_i es;split at h
  ·rename_i d;obtain⟨rfl,a,b⟩:=d;injection h with h;subst h
   cases es with
   |nil=>exact absurd rfl a
   |cons c es=>
    unfold zG at b;simp at b;have e:es.length+1≤maxLen:=by unfold maxLen;omega
    have f:(es.length+1)*32≤140737488355328:=by omega
    refine⟨by simp[f72],zT rfl ?_⟩;simp[jP,ji,f72,kd,zv,wU,AM.view,zN,zy,e,f]
  ·cases h
 ·cases h
theorem ib:zg prog 72 (Wn 54 2):=
 Qa (jw (fn:=f72) (code:=_) w8 ⟨func72,by kernel_rfl,rfl,by kernel_rfl⟩ [] _ AH)
end Go.Q
namespace Go.AM
def xo(Y:Hp)(lo a e s:Nat)(r:O)(es:List zc):Prop:=(es=[]∧r=.sl s [])∨(es≠[]∧∃id,lo≤id∧id<a∧r=.own id 0 es.length∧Y id=some ⟨e,s,true,es⟩)
theorem xo.same{Y Y':Hp}{lo c a b e s:Nat}{r:O}{es:List zc}(h:xo Y lo c e s r es)(l:a≤lo)(m:c≤b)(hs:∀j,lo≤j→j<c→Y' j=Y j):xo Y' a b e s r es:=by
 rcases h with h|⟨d,id,f,g,i,k⟩
 ·exact .inl h
 ·exact .inr ⟨d,id,by omega,by omega,i,by rw[hs id f g];exact k⟩
def Q0(Y:Hp)(lo a e s:Nat)(r:O)(es:List zc):Prop:=r=.sl s es∨xo Y lo a e s r es
theorem xo.wide{Y:Hp}{lo a e s:Nat}{r:O}{es:List zc}(h:xo Y lo a e s r es):Q0 Y lo a e s r es:=.inr h
theorem Q0.same{Y Y':Hp}{lo c a b e s:Nat}{r:O}{es:List zc}(h:Q0 Y lo c e s r es)(d:a≤lo)(f:c≤b)(hs:∀j,lo≤j→j<c→Y' j=Y j):Q0 Y' a b e s r es:=h.imp id fun h=>h.same d f hs
theorem xo.freeze{Y:Hp}{lo a e s:Nat}{r:O}{es:List zc}(h:xo Y lo a e s r es):∃Y',we Y r=some (.sl s es,Y')∧∀j,j<lo∨a≤j→Y' j=Y j:=by
 rcases h with⟨rfl,rfl⟩|⟨c,id,d,f,rfl,b⟩
 ·exact⟨Y,rfl,fun _ _=>rfl⟩
 ·refine⟨qZ Y id none,?_,fun j g=>qY _ _ _ _ (by omega)⟩;simp[we,b]
theorem xo.Lt{Y:Hp}{lo a e s:Nat}{r:O}{es:List zc}(h:xo Y lo a e s r es):∃Y',qf Y r=some (.sl s es,Y')∧∀j,j<lo∨a≤j→Y' j=Y j:=by have b:=h.freeze;rcases h with⟨rfl,rfl⟩|⟨_,_,_,_,rfl,_⟩<;>exact b
theorem Q0.freeze{Y:Hp}{lo a e s:Nat}{r:O}{es:List zc}(h:Q0 Y lo a e s r es):∃Y',we Y r=some (.sl s es,Y')∧∀j,j<lo∨a≤j→Y' j=Y j:=by
 rcases h with rfl|h
 ·exact⟨Y,rfl,fun _ _=>rfl⟩
 ·exact h.freeze
theorem xo.cell{Y:Hp}{lo a e s:Nat}{r:O}{es:List zc}(h:xo Y lo a e s r es):r.wY=true:=by rcases h with⟨rfl,rfl⟩|⟨_,_,_,_,rfl,_⟩<;>rfl
theorem Q0.cell{Y:Hp}{lo a e s:Nat}{r:O}{es:List zc}(h:Q0 Y lo a e s r es):r.wY=true:=by
 rcases h with rfl|h
 ·rfl
 ·exact h.cell
end Go.AM
namespace Go.Q
theorem Y4(e s:Nat)(es:List zc)(Y:Hp)(Z:Nat)(h:es.length≤zG):∃r Y',Wn e s [.sl s es] Y Z=some (r,Y',Z+1)∧xo Y' Z (Z+1) e s r es∧∀j,j≠Z→Y' j=Y j:=by
 by_cases a:es=[]
 ·subst a;exact⟨.sl s [],Y,by simp[Wn],.inl ⟨rfl,rfl⟩,fun _ _=>rfl⟩
 ·refine⟨.own Z 0 es.length,qZ Y Z (some ⟨e,s,true,es⟩),by simp[Wn,h,a],.inr ⟨a,Z,ze _,Nat.lt_succ_self _,rfl,by simp⟩,fun j b=>qY _ _ _ _ b⟩
theorem Hl:zg prog 84 (Wn 82 2):=Qa Vy
def a6(Y:Hp)(lo c:Nat)(x:Xp)(b:zc):Prop:=∃a d e,b=[str x.name,str x.qi,str x.flag]++x.cond.V++[str x.qI,d,e]∧lo≤a∧a≤c∧Q0 Y lo a 101 3 d (x.jX.map xv)∧xo Y a c 54 2 e (x.zs.map wc.V)
theorem a6.same{Y Y':Hp}{lo c:Nat}{x:Xp}{row:zc}(h:a6 Y lo c x row)(hs:∀j,lo≤j→j<c→Y' j=Y j):a6 Y' lo c x row:=by obtain⟨d,f,g,e,i,k,l,m⟩:=h;exact⟨d,f,g,e,i,k,l.same (ze _) (ze _) fun j a b=>hs j a (by omega),m.same (ze _) (ze _) fun j a b=>hs j (by omega) b⟩
theorem vy:∀(a b:zc) (Y:Hp),qU Y (a++b)=(qU Y a).bind fun p=>(qU p.2 b).map fun q=>(p.1++q.1,q.2)
 |[],b,Y=>by simp only[wN,qU,zS];cases qU Y b<;>rfl
 |x::a,b,Y=>by
  simp only[q9,qU];cases we Y x with
  |none=>rfl
  |some p=>
   obtain⟨y,c⟩:=p;simp only;rw[vy a b c];cases qU c a with
   |none=>rfl
   |some q=>obtain⟨r,d⟩:=q;simp only[zS];cases qU d b<;>rfl
theorem a6.freeze{Y:Hp}{lo f:Nat}{x:Xp}{c:zc}(h:a6 Y lo f x c):∃Y',qU Y c=some (x.V,Y')∧∀j,j<lo∨f≤j→Y' j=Y j:=by
 obtain⟨i,q,r,rfl,s,t,k,l⟩:=h;obtain⟨d,m,g⟩:=k.freeze;obtain⟨e,n,o⟩:=(l.same (Y':=d) (ze _) (ze _) fun j a b=>g j (.inr a)).freeze;refine⟨e,?_,fun j u=>by rw[o j (by omega),g j (by omega)]⟩;rw[vy,vy];have p:∀(h:Hp) (x:Value),we h (.v x)=some (.v x,h):=fun _ _=>rfl
 simp only[qU,p,Kj,zS,zH,m,n,Xp.V]
def Qm(Y:Hp):Nat→Nat→List Xp→List zc→Prop
 |lo,e,[],a=>lo≤e∧a=[]
 |lo,e,x::xs,a=>∃c d b,a=d::b∧lo≤c∧a6 Y lo c x d∧Qm Y c e xs b
theorem Qm.le{Y:Hp}:∀{lo b:Nat} {xs:List Xp} {a:List zc},Qm Y lo b xs a→lo≤b
 |lo,b,[],a,h=>h.1
 |lo,b,x::xs,a,⟨d,e,c,_,f,_,g⟩=>zC f g.le
theorem Qm.len{Y:Hp}:∀{lo b:Nat} {xs:List Xp} {a:List zc},Qm Y lo b xs a→a.length=xs.length
 |lo,b,[],a,h=>by rw[h.2];rfl
 |lo,b,x::xs,a,⟨d,f,c,e,i,_,g⟩=>by rw[e,qa,g.len,qa]
theorem Qm.same{Y Y':Hp}:∀{lo d:Nat} {xs:List Xp} {c:List zc},Qm Y lo d xs c→(∀j,lo≤j→j<d→Y' j=Y j)→Qm Y' lo d xs c
 |lo,d,[],c,h,_=>h
 |lo,d,x::xs,c,⟨g,i,f,e,l,m,k⟩,hs=>⟨g,i,f,e,l,m.same fun j a b=>hs j a (by have:=k.le;omega),k.same fun j a b=>hs j (by omega) b⟩
theorem Qm.snoc{Y:Hp}:∀{lo f b:Nat} {xs:List Xp} {a:List zc} {x:Xp} {c:zc},Qm Y lo f xs a→f≤b→a6 Y f b x c→Qm Y lo b (xs++[x]) (a++[c])
 |lo,f,b,[],a,x,c,h,k,i=>by obtain⟨j,rfl⟩:=h;obtain⟨d,l,m,e,t,n,o,p⟩:=i;exact⟨b,c,[],rfl,by omega,⟨d,l,m,e,by omega,n,o.same j (ze _) fun _ _ _=>rfl,p⟩,ze _,rfl⟩
 |lo,f,b,y::xs,a,x,c,⟨d,q,g,e,j,r,s⟩,k,i=>⟨d,q,g++[c],by rw[e];rfl,j,r,s.snoc k i⟩
theorem Qm.freeze{Y:Hp}:∀{lo d:Nat} {xs:List Xp} {c:List zc},Qm Y lo d xs c→∃Y',XM Y c=some (xs.map Xp.V,Y')∧∀j,j<lo∨d≤j→Y' j=Y j:=by
 intro lo d xs
 induction xs generalizing Y lo with
 |nil=>intro c h;rw[h.2];exact⟨Y,rfl,fun _ _=>rfl⟩
 |cons x xs l=>intro c h;obtain⟨m,n,g,rfl,s,o,i⟩:=h;obtain⟨e,p,k⟩:=o.freeze;obtain⟨f,q,r⟩:=l (i.same (Y':=e) fun j a b=>k j (.inr a));have:=i.le;refine⟨f,?_,fun j t=>by rw[r j (by omega),k j (by omega)]⟩;simp only[XM,p,q,zS,zH,qF]
def Xp.FE(x:Xp)(ps:List wc):Xp:=⟨x.name,x.qi,x.flag,x.cond,x.qI,x.jX,ps⟩
theorem Qm.grown{Y:Hp}:∀{lo l:Nat} {xs:List Xp} {b:List zc} {i:Nat} {x:Xp},Qm Y lo l xs b→xs[i]?=some x→x.zs≠[] →
  ∃a cells,b[i]?=some (cells++[.own a 0 x.zs.length])∧cells.length=12∧lo≤a∧a<l∧Y a=some ⟨54,2,true,x.zs.map wc.V⟩ ∧
   ∀(h:Hp) (id':Nat) (ps:List wc),(∀j,lo≤j→j<l→j≠a→h j=Y j)→l≤id'→h id'=some ⟨54,2,true,ps.map wc.V⟩ →
    ∃Y',XM h (b.set i (cells++[.own id' 0 ps.length]))=some ((xs.set i (x.FE ps)).map Xp.V,Y')∧∀j,j<lo→Y' j=h j:=by
 intro lo l xs
 induction xs generalizing lo with
 |nil=>intro b i x _ n;simp at n
 |cons y xs E=>
  intro b i x h n o;obtain⟨F,G,z,rfl,U,A,r⟩:=h;have H:=r.le;cases i with
  |zero=>
   simp at n;subst n;obtain⟨m,B,W,e,X,a2,I,J⟩:=A;rcases J with⟨C,_⟩|⟨b0,a,C,b2,rfl,K⟩
   ·exact(o (by simpa using C)).elim
   refine⟨a,[str y.name,str y.qi,str y.flag]++y.cond.V++[str y.qI,B],?_,by simp,by omega,by omega,by simpa using K,fun h id' ps p D s=>?_⟩
   ·simp[e]
   ·obtain⟨f,t,g⟩:=(I.same (Y':=h) (ze _) (ze _) fun j c d=>p j c (by omega) (by omega)).freeze;obtain⟨k,u,w⟩:=(r.same (Y':=qZ f id' none) fun j c d=>by rw[qY _ _ _ _ (by omega),g j (by omega),p j (by omega) d (by omega)]).freeze;refine⟨k,?_,fun j L=>by rw[w j (by omega),qY _ _ _ _ (by omega),g j (by omega)]⟩;have hid:f id'=some ⟨54,2,true,ps.map wc.V⟩:=by rw[g id' (by omega),s]
    have q:qU h ([str y.name,str y.qi,str y.flag]++y.cond.V++[str y.qI,B]++[.own id' 0 ps.length])=some ((y.FE ps).V,qZ f id' none):=by
     rw[vy,vy,vy];have M:∀(h:Hp) (x:Value),we h (.v x)=some (.v x,h):=fun _ _=>rfl
     have N:we f (.own id' 0 ps.length)=some (.sl 2 (ps.map wc.V),qZ f id' none):=by simp[we,hid,qp]
     simp only[qU,M,N,Kj,zS,zH,t,Xp.V,Xp.FE,qj,q9,wN]
    simp only[List.set_cons_zero,XM,q,zS,u,zH,qF]
  |succ i=>obtain⟨a,cells,P,Q,c3,R,S,T⟩:=E r (by simpa using n) o;refine⟨a,cells,by simpa using P,Q,by omega,R,S,fun h id' ps p D s=>?_⟩;obtain⟨f,t,g⟩:=(A.same (Y':=h) fun j c d=>p j c (by omega) (by omega)).freeze;obtain⟨k,u,w⟩:=T f id' ps (fun j c d e=>by rw[g j (by omega),p j (by omega) d e]) D (by rw[g id' (by omega),s]);refine⟨k,?_,fun j L=>by rw[w j (by omega),g j (by omega)]⟩;simp only[List.set_cons_succ,XM,t,zS,u,zH,qF]
end Go.Q
namespace Go.AM
variable{dr:Prop}
def IX(Y:Hp)(Z:Nat)(Y':Hp)(a:Nat):Prop:=Z≤a∧∀id blk,id<Z→Y id=some blk→blk.arr=false→Y' id=some blk
open Classical in
noncomputable def KL (a:AM.Spec):AM.Spec:=fun args Y Z=>(a args Y Z).bind fun q=>if IX Y Z q.2.1 q.2.2 then some q else none
theorem ic{P:Program}{f:FuncId}{a:AM.Spec}(h:km dr P f a):km dr P f (KL a):=by
 refine⟨h.1,fun args Y Z r Y' j e w S G vs b c=>?_⟩;unfold KL at e;obtain⟨⟨k,l,n1⟩,hs,e⟩:=j5.1 e;split at e
 ·injection e with e;injection e with d e;injection e with g i;subst d;subst g;subst i;exact h.2 args Y Z _ _ _ hs w S G vs b c
 ·cases e
theorem tt(a:AM.Spec):vZ (KL a):=by
 intro args Y Z r Y' g e;unfold KL at e;obtain⟨⟨h,i,n1⟩,hs,e⟩:=j5.1 e;split at e
 ·rename_i b;injection e with e
  injection e with c e;injection e with d f;subst c;subst d;subst f;exact b
 ·cases e
theorem Ea{b:AM.Spec}{args:zc}{Y:Hp}{Z:Nat}{r:O}{Y':Hp}{a:Nat}(h:b args Y Z=some (r,Y',a))(c:IX Y Z Y' a):KL b args Y Z=some (r,Y',a):=by unfold KL;rw[h];simp only[zS,zf c]
theorem Eb{Y Y':Hp}{Z a:Nat}(b:Z≤a)(c:∀j,j<Z→Y' j=Y j):IX Y Z Y' a:=⟨b,fun id blk hid d _=>by rw[c id hid];exact d⟩
theorem xO(b:Bool)(d:List Nat)(F:zc→Option O):vZ (zi b d F):=by
 intro args Y Z r Y' f h;unfold zi at h;split at h
 ·rename_i ys Y1 e;split at h
  ·split at h
   ·injection h with h;injection h with _ h;injection h with a c;subst a;subst c;exact⟨ze _,fun id blk _ a _=>a⟩
   ·split at h
    ·injection h with h;injection h with _ h;injection h with a c;subst a;subst c;exact⟨ze _,fun id blk _ a c=>Zl e a c⟩
    ·cases h
  ·cases h
 ·cases h
theorem tw{g:AM.Spec}(h:vZ g):vZ (ec g):=by
 intro args Y Z r Y' u e;unfold ec at e;obtain⟨⟨k,i,n1⟩,hs,e⟩:=zX e;injection e with l e
 injection e with m o;subst l;subst m;subst o;obtain⟨p,q⟩:=h args Y Z k i n1 hs;refine⟨p,fun id blk hid t f=>?_⟩;have c:=q id blk hid t f;simp only;unfold yq;split
 ·rename_i id' n;cases d:i id' with
  |none=>exact c
  |some b=>
   simp only;by_cases j:id=id'
   ·subst j;rw[c]at d;injection d with d
    subst d;rw[w9];obtain⟨e,s,a,es⟩:=blk;simp only at f⊢;rw[f]
   ·rw[qY _ _ _ _ j];exact c
 ·exact c
def Wo(P:Program)(l:Jg)(L:Nat→List Tmp)(b:List Nat):Ctx:=⟨P,lookup l,fun _=>[],L,fun g=>b.contains g,fun _=>[],fun _=>none⟩
@[simp]theorem zhJ(P:Program)(l:Jg)(L:Nat→List Tmp)(b:List Nat):(Wo P l L b).P=P:=rfl
@[simp]theorem zhK(P:Program)(l:Jg)(L:Nat→List Tmp)(b:List Nat)(Y:Hp)(Z g:Nat)(x y xs:zc):jQ (Wo P l L b) Y Z (some (.fn (.func g) x y)) xs=(lookup l g).bind fun s=>s (x++xs++y) Y Z:=by unfold jQ Wo;simp only;cases lookup l g<;>rfl
@[simp]theorem Ru(P:Program)(l:Jg)(L:Nat→List Tmp)(b:List Nat)(i:Nat)(a:Array Oper)(d:Bool)(c:St)(K:Exit→St→Prop)(h:L i=[]):Zf (Wo P l L b) (.region i a d) c K=sq (Wo P l L b) a a.toList c (Jr K):=
 Q6 _ i a d c K rfl h
theorem kh{P:Program}{l:Jg}{L:Nat→List Tmp}{b:List Nat}{k:Nat}{a:Array Oper}{d:Bool}{c:St}{K:Exit→St→Prop}(h:kZ (L k) c):Zf (Wo P l L b) (.region k a d) c K=sq (Wo P l L b) a a.toList c (Jr K):=
 Qf _ k a d c K (fun _ h=>by cases h) h
theorem XR{P:Program}{l:Jg}{q:List Nat}{L:Nat→List Tmp}{b:List Nat}(a:P.follows .mixedOrders=true)(h:Ct dr P q l)(c:bZ b l):Yj dr (Wo P l L b) (fun g=>q.contains g):=
 let g:=Kl (k:=0) (L:=[]) a h c
 ⟨g.spec,g.quiet,g.mixed,g.box,fun _ _ h=>by cases h⟩
end Go.AM
namespace Go.Q
theorem Y5(e s:Nat):vZ (Wn e s):=by
 intro args Y Z r Y' c h;unfold Wn at h;split at h
 ·split at h
  ·split at h
   ·injection h with h;injection h with _ h;injection h with a b;subst a;subst b;exact⟨by omega,fun id blk _ a _=>a⟩
   ·injection h with h;injection h with _ h;injection h with a b;subst a;subst b;exact⟨by omega,fun id blk hid a _=>by rw[zw _ _ _ _ (by omega)];exact a⟩
  ·cases h
 ·injection h with h;injection h with _ h;injection h with a b;subst a;subst b;exact⟨ze _,fun id blk _ a _=>a⟩
 ·injection h with h;injection h with _ h;injection h with a b;subst a;subst b;exact⟨by omega,fun id blk hid a _=>by rw[zw _ _ _ _ (by omega)];exact a⟩
 ·cases h
theorem Ec{e s:Nat}{es:List zc}{y:O}(d:vw s es y)(Y:Hp)(Z:Nat)(h:es.length≤zG):∃r Y' b,ec (Wn e s) [y] Y Z=some (r,Y',b)∧Z≤b∧((es=[]∧r=.nil)∨(r=.own Z 0 es.length∧Z<b∧Y' Z=some ⟨e,s,false,es⟩))∧∀j,j≠Z→Y' j=Y j:=by
 cases d with
 |nil=>exact⟨.nil,Y,Z,rfl,ze _,.inl ⟨rfl,rfl⟩,fun _ _=>rfl⟩
 |em=>exact⟨.own Z 0 0,qZ (qZ Y Z (some ⟨e,s,true,[]⟩)) Z (some ⟨e,s,false,[]⟩),Z+1,by simp[ec,Wn,AM.yq],by omega,.inr ⟨rfl,by omega,by simp⟩,fun j a=>by rw[qY _ _ _ _ a,qY _ _ _ _ a]⟩
 | @sl c es=>
  refine⟨.own Z 0 (c::es).length,qZ (qZ Y Z (some ⟨e,s,true,c::es⟩)) Z (some ⟨e,s,false,c::es⟩),Z+1,?_,by omega,.inr ⟨rfl,by omega,by simp⟩,fun j a=>by rw[qY _ _ _ _ a,qY _ _ _ _ a]⟩;have f:Wn e s [.sl s (c::es)] Y Z=some (.own Z 0 (c::es).length,qZ Y Z (some ⟨e,s,true,c::es⟩),Z+1):=by unfold Wn;simp only;rw[zf ⟨trivial,h⟩,zj (by simp)]
  unfold ec;rw[f];simp[AM.yq]
theorem kH(st:St):kZ [] st:=fun t a=>by cases a
theorem ki{s:Tmp}{L:List Tmp}{st:St}{id i j:Nat}{blk:jz}(h:st.σ s=.ref id i j)(c:id<st.Z)(d:st.Y id=some blk)(e:blk.arr=false)(f:kZ L st)(hs:s<zB:=by decide):kZ (s::L) st:=fun t b=>by
 rcases zL.1 b with rfl|b
 ·refine⟨⟨fun id' o n a=>(by rw[h]at a;cases a),fun id' i' j' a=>?_⟩,fun g=>absurd hs (Fo.2 g)⟩;rw[h]at a;injection a with a _ _
  subst a;exact⟨c,blk,d,e⟩
 ·exact f t b
theorem kj{s:Tmp}{L:List Tmp}{st:St}{x:zc}(h:st.σ s=.yb x)(c:kZ L st)(hs:s<zB:=by decide):kZ (s::L) st:=fun t b=>by
 rcases zL.1 b with rfl|b
 ·exact⟨⟨fun id' o n a=>(by rw[h]at a;cases a),fun id' i' j' a=>by rw[h]at a;cases a⟩,fun d=>absurd hs (Fo.2 d)⟩
 ·exact c t b
structure XS (v:qE) (o3 o4:O) (Y:Hp) (Z:Nat):Prop where
 b0:Y 0=some ⟨136,5,false,[[int v.kind,int v.n,str v.s,o3,o4]]⟩
 b1:Y 1=some ⟨136,5,false,[[int 0,int 0,.v (.string ⟨#[]⟩),.nil,.nil]]⟩
 s3:q6 Y Z 136 5 o3 (v.items.map qE.V)
 s4:q6 Y Z 171 6 o4 (v.fields.map yu)
 d3:∀id m,id<2→o3≠.own id 0 m
 d4:∀id m,id<2→o4≠.own id 0 m
 d:∀id m m',o3=.own id 0 m→o4≠.own id 0 m'
 Ol:2≤Z
theorem XS.more{v:qE}{a c:O}{Y:Hp}{Z:Nat}(h:XS v a c Y Z)(b:Option jz):XS v a c (qZ Y Z b) (Z+1):=by have:=h.Ol;exact⟨by rw[zw _ _ _ _ (by omega)];exact h.b0,by rw[zw _ _ _ _ (by omega)];exact h.b1,h.s3.more b,h.s4.more b,h.d3,h.d4,h.d,by omega⟩
theorem ed{α:Type}(f:Nat→α)(k:Nat)(x:α)(h:f k=x):qZ f k x=f:=by
 funext i;simp only[qZ];split
 ·rename_i e;subst e;exact h.symm
 ·rfl
noncomputable abbrev Cxc (n:Nat):Ctx:=QC prog [(97,zi false [] (FV (fun v=>.agg v.V) n)),(95,yO [] (yV 136 5)),(131,yO [] (yV 171 6))] 1 [1,7,10] [95,131]
theorem zeh(n:Nat):Xk (Cxc n) (fun g=>[97].contains g) 97 f97:=⟨_,func97,by kernel_rfl,rfl,by kernel_rfl⟩
theorem Hm(n:Nat)(v:qE)(h:v.vb≤zG∧v.vb≤n+1)(N Q:O)(J:vw 5 (v.items.map qE.V) N)(K:vw 6 (v.fields.map yu) Q) :
  ∃r0,zz (Cxc n) f97 [.agg [int v.kind,int v.n,str v.s,N,Q]]=some r0∧qM r0 (.agg v.V):=by
 have hvb:=QW v;have hl1:=jk v.items;have hl2:=ke v.fields;obtain⟨ha,hb⟩:=h;have G:=fun Y Z=>Q9 (e:=136) J (by simp;omega) Y Z
 have H:=fun Y Z=>Q9 (e:=171) K (by simp;omega) Y Z
 unfold zG at ha;refine yv rfl ?_;simp[J.cell,K.cell];rw[ZZ (ki (id:=0) (i:=0) (j:=0) (by simp) (by simp) (by simp;rfl) rfl (kj (by simp;rfl) (kj (by simp;rfl) (kH _))))];obtain⟨g,f3,l,S⟩:∃o f m,Zn 136 5 (v.items.map qE.V) N 2=(o,f,m):=⟨_,_,_,rfl⟩;have hn3:2≤l:=by have:=dp 136 5 (v.items.map qE.V) N 2;rw[S]at this;exact this
 obtain⟨q,f4,n4,T⟩:∃o f m,Zn 171 6 (v.fields.map yu) Q l=(o,f,m):=⟨_,_,_,rfl⟩;have hn4:l≤n4:=by have:=dp 171 6 (v.fields.map yu) Q l;rw[T]at this;exact this
 have q3:g=.nil∨g=.own 2 0 (v.items.map qE.V).length:=by have:=ar 136 5 (v.items.map qE.V) N 2;rw[S]at this;exact this
 have q4:q=.nil∨q=.own l 0 (v.fields.map yu).length:=by have:=ar 171 6 (v.fields.map yu) Q l;rw[T]at this;exact this
 have L:∀Y id,id<2→f3 Y id=Y id:=fun Y id hid=>by have:=WD (e:=136) (s:=5) (es:=v.items.map qE.V) (y:=N) (Z:=2) Y hid;rw[S]at this;exact this
 have E:∀Y id,id<l→f4 Y id=Y id:=fun Y id hid=>by have:=WD (e:=171) (s:=6) (es:=v.fields.map yu) (y:=Q) (Z:=l) Y hid;rw[T]at this;exact this
 have t:∀Y,q6 (f3 Y) l 136 5 g (v.items.map qE.V)∧∀m,g≠.own 0 0 m∧g≠.own 1 0 m:=fun Y=>by have:=Wa (e:=136) J Y 2;rw[S]at this;exact⟨this,fun m=>by rcases q3 with rfl|rfl<;>simp⟩
 have z:∀Y,q6 (f4 Y) n4 171 6 q (v.fields.map yu)∧∀m id,id<l→q≠.own id 0 m:=fun Y=>by have:=Wa (e:=171) K Y l;rw[T]at this;exact⟨this,fun m id hid=>by rcases q4 with rfl|rfl<;>simp<;>omega⟩
 have U:=fun Y=>L Y 0 (by omega)
 have W:=fun Y=>E Y 0 (by omega)
 have c3:g.wY=true:=by rcases q3 with rfl|rfl<;>rfl
 have c4:q.wY=true:=by rcases q4 with rfl|rfl<;>rfl
 have X:g.cells=[g]:=by rcases q3 with rfl|rfl<;>rfl
 have hcs4:q.cells=[q]:=by rcases q4 with rfl|rfl<;>rfl
 have BU:Qr prog 27 g=some (int v.items.length):=by have:=(t fun _=>none).1.len (P:=prog) UI;simpa using this
 have h31:=fun Y=>L Y 1 (by omega)
 have h41:=fun Y=>E Y 1 (by omega)
 have A:∀id m,g=.own id 0 m→id<l:=fun id m hid=>by
  rcases(t fun _=>none).1 with⟨h,_⟩|⟨id',C,F,_⟩
  ·rw[h]at hid;cases hid
  ·rw[F]at hid;injection hid with hid _ _;omega
 have a:∀Y0:Hp,Y0 1=some ⟨136,5,false,[[int 0,int 0,.v (.string ⟨#[]⟩),.nil,.nil]]⟩→XS v g q (qZ (f4 (f3 Y0)) 0 (some ⟨136,5,false,[[int v.kind,int v.n,str v.s,g,q]]⟩)) n4:=by
  intro Y0 C;refine⟨by simp,by rw[zw _ _ _ _ (by omega),h41,h31,C],?_,?_,fun id m hid R=>?_,fun id m hid=>(z Y0).2 m id (by omega),fun id m m' R=>(z Y0).2 m' id (A id m R),by omega⟩
  ·refine(t Y0).1.same hn4 fun id m hid=>?_
   have M:¬id=0:=by rintro rfl;exact((t Y0).2 m).1 hid
   rw[zw _ _ _ _ M,E _ _ (A id m hid)]
  ·refine(z (f3 Y0)).1.same (ze _) fun id m hid=>?_
   have M:¬id=0:=by rintro rfl;exact(z Y0).2 m 0 (by omega) hid
   rw[zw _ _ _ _ M]
  ·have:=(t Y0).2 m
   match id,hid with
   | 0,_=>exact this.1 R
   | 1,_=>exact this.2 R
 simp[G,S,U,H,T,W,X,hcs4,c3,c4,BU];refine zQ (fun k r Y Z=>r 1=.ref 0 0 0∧r 2=.ref 1 0 0∧r 16=g∧r 17=int v.items.length∧r 18=int k∧XS v g q Y Z) v.items.length
  ⟨by simp,by simp,by simp,by simp,by simp,by simpa using a _ (by simp)⟩ ?_
 clear a A h31 h41 G H t z L E U W BU;rintro k r Y Z hk ⟨C,F,c,u,w,a⟩;by_cases b:k<v.items.length
 ·have hm:=kP (zm b);have hw:i6.wrap ((k:Int)+1)=(k:Int)+1:=zn (by omega) (by omega);have p:=fun Y Z=>Yq (fun v=>.agg v.V) n v.items[k] Y Z ⟨by unfold zG;omega,by omega⟩
  obtain⟨id,i1,I,i3⟩:=a.s3.at_ (by simp;omega);have n0:¬id=0:=by rintro rfl;exact a.d3 0 _ (by omega) I
  have n1:¬id=1:=by rintro rfl;exact a.d3 1 _ (by omega) I
  have n2:¬id=Z:=by omega
  have l:¬0=Z:=by have:=a.Ol;omega
  have B:(v.items.map qE.V).set k v.items[k].V=v.items.map qE.V:=by
   apply Lk;intro j;rw[eN];split
   ·rename_i e;subst e;simp[b]
   ·rfl
  have hf:∀Y,qf Y (.agg v.items[k].V)=some (.agg v.items[k].V,Y):=fun Y=>Z3 Y _
  have D:=a.b0;rw[I]at c D;simp[C,F,c,u,w,b,i3,hw,n0,n2,l,D,p,B];refine⟨b,by rw[I];simp,?_⟩;have h5:=a.more (some ⟨136,5,false,[v.items[k].V]⟩);rw[ed _ id _ (by rw[zw _ _ _ _ n2];exact i3)];exact h5
 ·obtain rfl:k=v.items.length:=by omega
  have D:=a.b0;have Ia:Qr prog 134 q=some (int v.fields.length):=by have:=a.s4.len (P:=prog) zg6;simpa using this
  simp[C,F,c,u,w,D,Ia];refine zQ (fun k r Y Z=>r 1=.ref 0 0 0∧r 2=.ref 1 0 0∧r 31=q∧r 32=int v.fields.length∧r 33=int k∧XS v g q Y Z) v.fields.length
   ⟨by simp[C],by simp[F],by simp,by simp,by simp,by simpa using a⟩ ?_
  clear C F c u w a D Ia b hk r Y Z;rintro k r Y Z hk ⟨C,F,c,u,w,a⟩;by_cases b:k<v.fields.length
  ·have hm:=xV (zm b);have hw:i6.wrap ((k:Int)+1)=(k:Int)+1:=zn (by omega) (by omega);have p:=fun Y Z=>Yq (fun v=>.agg v.V) n v.fields[k].2 Y Z ⟨by unfold zG;omega,by omega⟩
   obtain⟨id,i1,I,i3⟩:=a.s4.at_ (by simp;omega);have n0:¬id=0:=by rintro rfl;exact a.d4 0 _ (by omega) I
   have n2:¬id=Z:=by omega
   have l:¬0=Z:=by have:=a.Ol;omega
   have B:(v.fields.map yu).set k (str v.fields[k].1::v.fields[k].2.V)=v.fields.map yu:=by
    apply Lk;intro j;rw[eN];split
    ·rename_i e;subst e;simp[b]
    ·rfl
   have D:=a.b0;rw[I]at c D;simp[C,F,c,u,w,b,i3,hw,n0,n2,l,D,p,B];refine⟨b,by rw[I];simp,?_⟩;have h5:=a.more (some ⟨171,6,false,[str v.fields[k].1::v.fields[k].2.V]⟩);rw[ed _ id _ (by rw[zw _ _ _ _ n2];exact i3)];exact h5
  ·obtain rfl:k=v.fields.length:=by omega
   have D:=a.b0;have b1:=a.b1;simp[C,F,c,u,w,D,b1,f97,c3,c4];have s3:=a.s3.same (Y':=qZ Y 1 (some ⟨136,5,false,[[int v.kind,int v.n,str v.s,g,q]]⟩)) (ze Z) fun id m hid=>zw _ _ _ _ (by rintro rfl;exact a.d3 1 m (by omega) hid)
   obtain⟨z3,hpA,g1,g2,g3⟩:=s3.gone;have s4:=a.s4.same (Y':=hpA) (ze Z) fun id m hid=>by rw[g3 id (fun m' R=>a.d id m' m R hid),zw _ _ _ _ (by rintro rfl;exact a.d4 1 m (by omega) hid)]
   obtain⟨z4,hpB,k1,k2,_⟩:=s4.gone;refine⟨.agg [int v.kind,int v.n,str v.s,z3,z4],?_,?_⟩
   ·simp only[AM.freeze,qf,qU];have f1:∀(Y:Hp) (x:Value),we Y (.v x)=some (.v x,Y):=fun _ _=>rfl
    simp only[f1,g1,k1];rfl
   ·rw[Z2];exact vp.agg (.cons (.refl _) (.cons (.refl _) (.cons (.refl _) (.cons (.pz g2) (.cons (.pz k2) .nil)))))
theorem Ed:∀n,zg prog 97 (zi false [] (FV (fun v=>.agg v.V) n)):=by
 intro n
 induction n with
 |zero=>exact lD ⟨_,func97,by kernel_rfl,by kernel_rfl⟩
 |succ n k=>
  have l:AM.Good (Cxc n) (fun g=>[97].contains g):=Kl mixed ⟨k,fun _=>zt _ _,Vh,by simp,uY,by simp,trivial⟩ ⟨by simp,fun _=>Vd _ _,fun _=>Vd _ _,trivial⟩;exact jD (fn:=f97) l (zeh n) false [] _ fun args r h w S vs m=>by
   obtain⟨v,rfl,o,rfl⟩:=JW h;obtain⟨u,p,q⟩:=Qv m;subst p;obtain⟨c,d,e⟩:=xk q (j:=3) (s:=5) (es:=v.items.map qE.V) (by simp);obtain⟨f,i,a⟩:=xk e (j:=4) (s:=6) (es:=v.fields.map yu) (by rw[KT (by omega)];simp);have b:(v.V.set 3 c).set 4 f=[int v.kind,int v.n,str v.s,c,f]:=by rw[Z2];rfl
   rw[b]at a;obtain⟨t,x,y⟩:=Hm n v o c f d i;exact⟨_,t,.cons a .nil,zC (ze 1) (by decide),x,y⟩
structure XC (v:wV) (o3 o4:O) (Y:Hp) (Z:Nat):Prop where
 b0:Y 0=some ⟨30,7,false,[[int v.kind,str v.attr,int v.op,o3,str v.pat,str v.name,o4]]⟩
 b1:Y 1=some ⟨30,7,false,[[int 0,.v (.string ⟨#[]⟩),int 0,.nil,.v (.string ⟨#[]⟩),.v (.string ⟨#[]⟩),.nil]]⟩
 s3:q6 Y Z 136 5 o3 (v.yY.map qE.V)
 s4:q6 Y Z 30 7 o4 (v.args.map wV.V)
 d3:∀id m,id<2→o3≠.own id 0 m
 d4:∀id m,id<2→o4≠.own id 0 m
 d:∀id m m',o3=.own id 0 m→o4≠.own id 0 m'
 Ol:2≤Z
theorem XC.more{v:wV}{a c:O}{Y:Hp}{Z:Nat}(h:XC v a c Y Z)(b:Option jz):XC v a c (qZ Y Z b) (Z+1):=by have:=h.Ol;exact⟨by rw[zw _ _ _ _ (by omega)];exact h.b0,by rw[zw _ _ _ _ (by omega)];exact h.b1,h.s3.more b,h.s4.more b,h.d3,h.d4,h.d,by omega⟩
noncomputable abbrev Cxcc (n:Nat):Ctx:=QC prog [(60,zi false [] (FC (fun v=>.agg v.V) n)),(97,zi false [] (FV (fun v=>.agg v.V) zG)),(95,yO [] (yV 136 5)),(96,yO [] (yV 30 7))] 1 [1,7,10] [95,96]
abbrev qxcc:List Nat:=[60,97]
theorem zaF(n:Nat):Xk (Cxcc n) (fun g=>qxcc.contains g) 60 f60:=⟨_,func60,by kernel_rfl,rfl,by kernel_rfl⟩
theorem Ee(n:Nat)(v:wV)(h:v.cb≤zG∧v.cb≤n+1)(N Q:O)(J:vw 5 (v.yY.map qE.V) N)(K:vw 7 (v.args.map wV.V) Q) :
  ∃r0,zz (Cxcc n) f60 [.agg [int v.kind,str v.attr,int v.op,N,str v.pat,str v.name,Q]]=some r0∧qM r0 (.agg v.V):=by
 have hvb:=VX v;have hl1:=jk v.yY;have hl2:=Zk v.args;obtain⟨ha,hb⟩:=h;have G:=fun Y Z=>Q9 (e:=136) J (by simp;omega) Y Z
 have H:=fun Y Z=>Q9 (e:=30) K (by simp;omega) Y Z
 unfold zG at ha;refine yv rfl ?_;simp[J.cell,K.cell];rw[ZZ (ki (id:=0) (i:=0) (j:=0) (by simp) (by simp) (by simp;rfl) rfl (kj (by simp;rfl) (kj (by simp;rfl) (kH _))))];obtain⟨g,f3,l,S⟩:∃o f m,Zn 136 5 (v.yY.map qE.V) N 2=(o,f,m):=⟨_,_,_,rfl⟩;have hn3:2≤l:=by have:=dp 136 5 (v.yY.map qE.V) N 2;rw[S]at this;exact this
 obtain⟨q,f4,n4,T⟩:∃o f m,Zn 30 7 (v.args.map wV.V) Q l=(o,f,m):=⟨_,_,_,rfl⟩;have hn4:l≤n4:=by have:=dp 30 7 (v.args.map wV.V) Q l;rw[T]at this;exact this
 have q3:g=.nil∨g=.own 2 0 (v.yY.map qE.V).length:=by have:=ar 136 5 (v.yY.map qE.V) N 2;rw[S]at this;exact this
 have q4:q=.nil∨q=.own l 0 (v.args.map wV.V).length:=by have:=ar 30 7 (v.args.map wV.V) Q l;rw[T]at this;exact this
 have L:∀Y id,id<2→f3 Y id=Y id:=fun Y id hid=>by have:=WD (e:=136) (s:=5) (es:=v.yY.map qE.V) (y:=N) (Z:=2) Y hid;rw[S]at this;exact this
 have E:∀Y id,id<l→f4 Y id=Y id:=fun Y id hid=>by have:=WD (e:=30) (s:=7) (es:=v.args.map wV.V) (y:=Q) (Z:=l) Y hid;rw[T]at this;exact this
 have t:∀Y,q6 (f3 Y) l 136 5 g (v.yY.map qE.V)∧∀m,g≠.own 0 0 m∧g≠.own 1 0 m:=fun Y=>by have:=Wa (e:=136) J Y 2;rw[S]at this;exact⟨this,fun m=>by rcases q3 with rfl|rfl<;>simp⟩
 have z:∀Y,q6 (f4 Y) n4 30 7 q (v.args.map wV.V)∧∀m id,id<l→q≠.own id 0 m:=fun Y=>by have:=Wa (e:=30) K Y l;rw[T]at this;exact⟨this,fun m id hid=>by rcases q4 with rfl|rfl<;>simp<;>omega⟩
 have U:=fun Y=>L Y 0 (by omega)
 have W:=fun Y=>E Y 0 (by omega)
 have c3:g.wY=true:=by rcases q3 with rfl|rfl<;>rfl
 have c4:q.wY=true:=by rcases q4 with rfl|rfl<;>rfl
 have X:g.cells=[g]:=by rcases q3 with rfl|rfl<;>rfl
 have hcs4:q.cells=[q]:=by rcases q4 with rfl|rfl<;>rfl
 have BU:Qr prog 27 g=some (int v.yY.length):=by have:=(t fun _=>none).1.len (P:=prog) UI;simpa using this
 have h31:=fun Y=>L Y 1 (by omega)
 have h41:=fun Y=>E Y 1 (by omega)
 have A:∀id m,g=.own id 0 m→id<l:=fun id m hid=>by
  rcases(t fun _=>none).1 with⟨h,_⟩|⟨id',C,F,_⟩
  ·rw[h]at hid;cases hid
  ·rw[F]at hid;injection hid with hid _ _;omega
 have a:∀Y0:Hp,Y0 1=some ⟨30,7,false,[[int 0,.v (.string ⟨#[]⟩),int 0,.nil,.v (.string ⟨#[]⟩),.v (.string ⟨#[]⟩),.nil]]⟩→XC v g q (qZ (f4 (f3 Y0)) 0 (some ⟨30,7,false,[[int v.kind,str v.attr,int v.op,g,str v.pat,str v.name,q]]⟩)) n4:=by
  intro Y0 C;refine⟨by simp,by rw[zw _ _ _ _ (by omega),h41,h31,C],?_,?_,fun id m hid R=>?_,fun id m hid=>(z Y0).2 m id (by omega),fun id m m' R=>(z Y0).2 m' id (A id m R),by omega⟩
  ·refine(t Y0).1.same hn4 fun id m hid=>?_
   have M:¬id=0:=by rintro rfl;exact((t Y0).2 m).1 hid
   rw[zw _ _ _ _ M,E _ _ (A id m hid)]
  ·refine(z (f3 Y0)).1.same (ze _) fun id m hid=>?_
   have M:¬id=0:=by rintro rfl;exact(z Y0).2 m 0 (by omega) hid
   rw[zw _ _ _ _ M]
  ·have:=(t Y0).2 m
   match id,hid with
   | 0,_=>exact this.1 R
   | 1,_=>exact this.2 R
 simp[G,S,U,H,T,W,X,hcs4,c3,c4,BU];refine zQ (fun k r Y Z=>r 1=.ref 0 0 0∧r 2=.ref 1 0 0∧r 16=g∧r 17=int v.yY.length∧r 18=int k∧XC v g q Y Z) v.yY.length
  ⟨by simp,by simp,by simp,by simp,by simp,by simpa using a _ (by simp)⟩ ?_
 clear a A h31 h41 G H t z L E U W BU;rintro k r Y Z hk ⟨C,F,c,u,w,a⟩;by_cases b:k<v.yY.length
 ·have hm:=kP (zm b);have hw:i6.wrap ((k:Int)+1)=(k:Int)+1:=zn (by omega) (by omega);have p:=fun Y Z=>Yq (fun v=>.agg v.V) zG v.yY[k] Y Z ⟨by unfold zG;omega,by unfold zG;omega⟩
  obtain⟨id,i1,I,i3⟩:=a.s3.at_ (by simp;omega);have n0:¬id=0:=by rintro rfl;exact a.d3 0 _ (by omega) I
  have n1:¬id=1:=by rintro rfl;exact a.d3 1 _ (by omega) I
  have n2:¬id=Z:=by omega
  have l:¬0=Z:=by have:=a.Ol;omega
  have B:(v.yY.map qE.V).set k v.yY[k].V=v.yY.map qE.V:=by
   apply Lk;intro j;rw[eN];split
   ·rename_i e;subst e;simp[b]
   ·rfl
  have hf:∀Y,qf Y (.agg v.yY[k].V)=some (.agg v.yY[k].V,Y):=fun Y=>Z3 Y _
  have D:=a.b0;rw[I]at c D;simp[C,F,c,u,w,b,i3,hw,n0,n2,l,D,p,B];refine⟨b,by rw[I];simp,?_⟩;have h5:=a.more (some ⟨136,5,false,[v.yY[k].V]⟩);rw[ed _ id _ (by rw[zw _ _ _ _ n2];exact i3)];exact h5
 ·obtain rfl:k=v.yY.length:=by omega
  have D:=a.b0;have Ia:Qr prog 28 q=some (int v.args.length):=by have:=a.s4.len (P:=prog) el28;simpa using this
  simp[C,F,c,u,w,D,Ia];refine zQ (fun k r Y Z=>r 1=.ref 0 0 0∧r 2=.ref 1 0 0∧r 31=q∧r 32=int v.args.length∧r 33=int k∧XC v g q Y Z) v.args.length
   ⟨by simp[C],by simp[F],by simp,by simp,by simp,by simpa using a⟩ ?_
  clear C F c u w a D Ia b hk r Y Z;rintro k r Y Z hk ⟨C,F,c,u,w,a⟩;by_cases b:k<v.args.length
  ·have hm:=Yr (zm b);have hw:i6.wrap ((k:Int)+1)=(k:Int)+1:=zn (by omega) (by omega);have p:=fun Y Z=>Vc (fun v=>.agg v.V) n v.args[k] Y Z ⟨by unfold zG;omega,by omega⟩
   obtain⟨id,i1,I,i3⟩:=a.s4.at_ (by simp;omega);have n0:¬id=0:=by rintro rfl;exact a.d4 0 _ (by omega) I
   have n2:¬id=Z:=by omega
   have l:¬0=Z:=by have:=a.Ol;omega
   have B:(v.args.map wV.V).set k v.args[k].V=v.args.map wV.V:=by
    apply Lk;intro j;rw[eN];split
    ·rename_i e;subst e;simp[b]
    ·rfl
   have hf:∀Y,qf Y (.agg v.args[k].V)=some (.agg v.args[k].V,Y):=fun Y=>Ju Y _
   have D:=a.b0;rw[I]at c D;simp[C,F,c,u,w,b,i3,hw,n0,n2,l,D,p,B];refine⟨b,by rw[I];simp,?_⟩;have h5:=a.more (some ⟨30,7,false,[v.args[k].V]⟩);rw[ed _ id _ (by rw[zw _ _ _ _ n2];exact i3)];exact h5
  ·obtain rfl:k=v.args.length:=by omega
   have D:=a.b0;have b1:=a.b1;simp[C,F,c,u,w,D,b1,f60,c3,c4];have s3:=a.s3.same (Y':=qZ Y 1 (some ⟨30,7,false,[[int v.kind,str v.attr,int v.op,g,str v.pat,str v.name,q]]⟩)) (ze Z) fun id m hid=>zw _ _ _ _ (by rintro rfl;exact a.d3 1 m (by omega) hid)
   obtain⟨z3,hpA,g1,g2,g3⟩:=s3.gone;have s4:=a.s4.same (Y':=hpA) (ze Z) fun id m hid=>by rw[g3 id (fun m' R=>a.d id m' m R hid),zw _ _ _ _ (by rintro rfl;exact a.d4 1 m (by omega) hid)]
   obtain⟨z4,hpB,k1,k2,_⟩:=s4.gone;refine⟨.agg [int v.kind,str v.attr,int v.op,z3,str v.pat,str v.name,z4],?_,?_⟩
   ·simp only[AM.freeze,qf,qU];have f1:∀(Y:Hp) (x:Value),we Y (.v x)=some (.v x,Y):=fun _ _=>rfl
    simp only[f1,g1,k1];rfl
   ·rw[yU];exact vp.agg (.cons (.refl _) (.cons (.refl _) (.cons (.refl _) (.cons (.pz g2) (.cons (.refl _) (.cons (.refl _) (.cons (.pz k2) .nil)))))))
theorem Ef(args:zc)(r:Option jz)(h:yV 30 7 args=some r):args.length≤f96.ntmps∧∃x Y Z,yr C0 f96 args (fun _=>none) 0=some (x,Y,Z)∧kd r x Y Z:=by
 unfold yV at h;split at h
 ·injection h with h;subst h;exact⟨by simp[f96],zT rfl (by simp[jP,ji,f96,kd])⟩
 ·injection h with h;subst h;exact⟨by simp[f96],zT rfl (by simp[jP,ji,f96,kd,zv,wU,AM.view,maxLen,zN,zy])⟩
 ·rename_i es;split at h
  ·rename_i d;obtain⟨rfl,a,b⟩:=d;injection h with h;subst h
   cases es with
   |nil=>exact absurd rfl a
   |cons c es=>
    unfold zG at b;simp at b;have e:es.length+1≤maxLen:=by unfold maxLen;omega
    have f:(es.length+1)*112≤140737488355328:=by omega
    refine⟨by simp[f96],zT rfl ?_⟩;simp[jP,ji,f96,kd,zv,wU,AM.view,zN,zy,e,f]
  ·cases h
 ·cases h
theorem AJ:zg prog 96 (yO [] (yV 30 7)):=
 jw (fn:=f96) (code:=_) w8 ⟨func96,by kernel_rfl,rfl,by kernel_rfl⟩ [] _ Ef
theorem AK:∀n,zg prog 60 (zi false [] (FC (fun v=>.agg v.V) n)):=by
 intro n
 induction n with
 |zero=>exact lE ⟨_,func60,by kernel_rfl,by kernel_rfl⟩
 |succ n k=>
  have l:AM.Good (Cxcc n) (fun g=>qxcc.contains g):=Kl mixed ⟨k,fun _=>zt _ _,Ed zG,fun _=>zt _ _,Vh,by simp,AJ,by simp,trivial⟩ ⟨by simp,by simp,fun _=>Vd _ _,fun _=>Vd _ _,trivial⟩;exact jD (fn:=f60) l (zaF n) false [] _ fun args r h w S vs m=>by
   obtain⟨v,rfl,o,rfl⟩:=WX h;obtain⟨u,p,q⟩:=Qv m;subst p;obtain⟨c,d,e⟩:=xk q (j:=3) (s:=5) (es:=v.yY.map qE.V) (by simp);obtain⟨f,i,a⟩:=xk e (j:=6) (s:=7) (es:=v.args.map wV.V) (by rw[KT (by omega)];simp);have b:(v.V.set 3 c).set 6 f=[int v.kind,str v.attr,int v.op,c,str v.pat,str v.name,f]:=by rw[yU];rfl
   rw[b]at a;obtain⟨t,x,y⟩:=Ee n v o c f d i;exact⟨_,t,.cons a .nil,zC (ze 1) (by decide),x,y⟩
end Go.Q
namespace Go.AM
def Rv(Q:St→Prop)(K:Exit→St→Prop)(e:Exit)(a:St):Prop:=match e with
 | .normal=>Q a
 |e=>K e a
@[simp]theorem zkh(Q:St→Prop)(K:Exit→St→Prop)(st:St):Rv Q K .normal st=Q st:=rfl
@[simp]theorem zki(Q:St→Prop)(K:Exit→St→Prop)(st:St):Rv Q K .ret st=K .ret st:=rfl
@[simp]theorem zkj(Q:St→Prop)(K:Exit→St→Prop)(i:Nat)(st:St):Rv Q K (.exit i) st=K (.exit i) st:=rfl
theorem xw{C:Ctx}{a b:Code}{c:St}{K:Exit→St→Prop}(Q:St→Prop)(f:Zf C a c (Rv Q K))(g:∀c,Q c→Zf C b c K):Zf C (.seq a b) c K:=by
 rw[c8];refine f.mono fun e c d=>?_
 cases e
 case normal=>exact g _ d
 all_goals exact d
theorem QK{C:Ctx}{a b:Code}{c:St}{K:Exit→St→Prop}(Q:(Nat→O)→Hp→Nat→Prop)(e:Zf C a c (Rv (fun c=>Q c.σ c.Y c.Z) K))(f:∀d Y Z,Q d Y Z→Zf C b ⟨d,Y,Z⟩ K):Zf C (.seq a b) c K:=
 xw _ e fun c h=>f c.σ c.Y c.Z h
end Go.AM
