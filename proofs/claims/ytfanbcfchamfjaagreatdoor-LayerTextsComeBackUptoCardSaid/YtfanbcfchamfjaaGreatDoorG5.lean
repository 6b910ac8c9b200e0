/- Lemmas. -/
import Derived.Test.YtfanbcfchamfjaaGreatDoorG6
set_option maxRecDepth 100000
set_option maxHeartbeats 4000000
open Go Proofs Proofs.YtfanbcfchamfjaaGreatDoor Proofs.Tryz RowKit AM SpanLaw Q Zz
open Go.IntKind renaming i64→i6
namespace Go.AM
variable{dr:Prop}
def n1(s:Nat):O->O
 | .nil=>.sl s []
 | .em=>.sl s []
 |x=>x
@[simp]theorem zig(s:Nat):n1 s .nil=.sl s []:=rfl
@[simp]theorem ziC(s:Nat):n1 s .em=.sl s []:=rfl
@[simp]theorem ziD(s t:Nat)(es:List zb):n1 s (.sl t es)=.sl t es:=rfl
@[simp]theorem n1_v(s:Nat)(x:Value):n1 s (.v x)=.v x:=rfl
def Ym:List (Option Nat)->zb->zb
 |some s::l,x::xs=>n1 s x::Ym l xs
 |none::l,x::xs=>x::Ym l xs
 |_,xs=>xs
inductive Sh where
 |a
 |g (p:List (Option Nat))
 |s (n:Nat) (p:List (Option Nat))
def Sh.fix:Sh->O->O
 | .g p,.agg cs=>.agg (Ym p cs)
 | .s _ p,.sl m es=>.sl m (es.map (Ym p))
 | .s n _,x=>n1 n x
 |_,x=>x
@[simp]theorem Sh.ziV(x:O):Sh.fix .a x=x:=by cases x<;>rfl
@[simp]theorem Sh.ziW(p:List (Option Nat))(cs:zb):Sh.fix (.g p) (.agg cs)=.agg (Ym p cs):=rfl
@[simp]theorem Sh.PY(n m:Nat)(p:List (Option Nat))(es:List zb):Sh.fix (.s n p) (.sl m es)=.sl m (es.map (Ym p)):=rfl
@[simp]theorem Sh.zhW(n:Nat)(p:List (Option Nat)):Sh.fix (.s n p) .nil=.sl n []:=rfl
@[simp]theorem Sh.zit(n:Nat)(p:List (Option Nat)):Sh.fix (.s n p) .em=.sl n []:=rfl
attribute [simp] Ym
def eY:List Sh->zb->zb
 |h::l,x::xs=>h.fix x::eY l xs
 |_,xs=>xs
attribute [simp] eY
theorem GN(s:Nat)(x:O):yY x (n1 s x):=by
 intro w S u h;cases x with
 |nil=>exact bg .nil h
 |em=>exact bg .em h
 |_=>exact h
theorem vC:∀(p:List (Option Nat)) (cs:zb),(Ym p cs).length=cs.length
 |[],cs=>by cases cs<;>rfl
 |none::p,[]=>rfl
 |some s::p,[]=>rfl
 |none::p,x::cs=>by simp[vC p cs]
 |some s::p,x::cs=>by simp[vC p cs]
theorem xL:∀(p:List (Option Nat)) (cs:zb),xW cs (Ym p cs)
 |[],[]=>.nil
 |[],x::cs=>by have:=xL [] cs;rw[show Ym [] cs=cs by cases cs<;>rfl]at this;exact .cons (yY.refl x) this
 |none::p,[]=>.nil
 |some s::p,[]=>.nil
 |none::p,x::cs=>.cons (yY.refl x) (xL p cs)
 |some s::p,x::cs=>.cons (GN s x) (xL p cs)
theorem XZ(h:Sh)(x:O):yY x (h.fix x):=by
 intro w S u k;cases h with
 |a=>simpa using k
 |g p=>
  cases x with
  |agg cs=>exact(xL p cs).agg w S u k
  |_=>exact k
 |s n p=>
  cases x with
  |sl m es=>
   cases k with
   |sl us q r t v y z=>
    rename_i A cap;have:=wG.sl (w:=w) (S:=S) (es:=es.map (Ym p)) (A:=A) (cap:=cap) (s:=m) us q (by simpa using r) t (fun c B=>by
     obtain⟨b,e,rfl⟩:=zZ.1 B;rw[vC];exact v b e) (fun i j c C d o=>by
     rw[qq]at d;obtain⟨b,e,rfl⟩:∃b,es[i]?=some b/\Ym p b=c:=by
      cases l:es[i]? with
      |none=>rw[l]at d;cases d
      |some b=>rw[l]at d;injection d with d;exact⟨b,rfl,d⟩
     have f:j<b.length:=by have:=(zd.1 o).1;rwa [vC]at this
     exact y i j b _ e (zm f)) (fun i j c C d o=>by
     rw[qq]at d;obtain⟨b,e,rfl⟩:∃b,es[i]?=some b/\Ym p b=c:=by
      cases l:es[i]? with
      |none=>rw[l]at d;cases d
      |some b=>rw[l]at d;injection d with d;exact⟨b,rfl,d⟩
     have f:j<b.length:=by have:=(zd.1 o).1;rwa [vC]at this
     exact(xL p b).get (zm f) o _ _ _ (z i j b _ e (zm f)))
    rw[wx]at this;exact this
  |nil=>exact bg .nil k
  |em=>exact bg .em k
  |_=>exact k
theorem Ja{w:World}{S:Nat->Prop}:∀{hs:List Sh} {xs:zb} {us:List Value},Zip (wG w S) xs us->Zip (wG w S) (eY hs xs) us
 |[],xs,us,h=>by cases xs<;>exact h
 |s::hs,[],us,h=>h
 |s::hs,x::xs,us,h=>by obtain⟨u,a,rfl,b,c⟩:=h.jr;exact .cons (XZ s x w S u b) (Ja c)
def wE(a:List Sh)(F:zb->Option O):AM.Spec:=yS false [] fun args=>F (eY a args)
theorem Z5(a:List Sh)(F:zb->Option O):Qt (wE a F):=zq _ _
theorem jC{C:Ctx}{pf:FuncId->Bool}{f:FuncId}{fn:Func}(b:kl dr C pf)(c:XY C pf f fn)(a:List Sh)(F:zb->Option O)
  (d:∀args r,F args=some r->args.length<=fn.ntmps/\∃r0,zH C fn args=some r0/\yY r0 r):jl dr C.P f (wE a F):=
 ie b c false [] _ fun args r h w S vs e=>by obtain⟨g,r0,i,j⟩:=d _ _ h;exact⟨eY a args,r0,Ja e,g,i,j⟩
theorem xw{a:List Sh}{F:zb->Option O}{args:zb}{Y:Hp}{Z:Nat}{b:zb}{r:O}(c:zz Y args=some (b,Y))(d:F (eY a b)=some r)(e:r.flat=true\/args.all O.noOwn=true) :
  wE a F args Y Z=some (r,Y,Z):=by
 have f:jn [] b=b:=by cases b<;>rfl
 exact wL c (by rw[f];exact d) e
def ij(sh:Sh)(r:O)(x:O)(Y:Hp)(_:Nat):Prop:=∃r0,(AM.freeze Y x).map (·.1)=some r0/\sh.fix r0=r
theorem JO{C:Ctx}{fn:Func}{code:Code}{args:zb}{sh:Sh}{r:O}(a:fn.body=some code)
  (h:Zs C code ⟨kM args,fun _=>none,0⟩ (Xb C.P fn (ij sh r))):∃r0,zH C fn args=some r0/\yY r0 r:=by
 obtain⟨x,Y',Z',b,r0,c,d⟩:=wB a h;exact⟨r0,by unfold zH;simp only[b];exact c,d ▸ XZ sh r0⟩
def wJ(sh:Sh)(r:O)(x:O)(Y:Hp)(_:Nat):Prop:=∃r0 y,(AM.freeze Y x).map (·.1)=some (.qZ [r0,y])/\.qZ [sh.fix r0,y]=r
theorem vW{C:Ctx}{fn:Func}{code:Code}{args:zb}{sh:Sh}{r:O}(a:fn.body=some code)
  (h:Zs C code ⟨kM args,fun _=>none,0⟩ (Xb C.P fn (wJ sh r))):∃r0,zH C fn args=some r0/\yY r0 r:=by
 obtain⟨x,Y',Z',b,r0,y,c,d⟩:=wB a h;exact⟨.qZ [r0,y],by unfold zH;simp only[b];exact c,d ▸ (xW.cons (XZ sh r0) (.cons (yY.refl y) .nil)).qZ⟩
theorem kr{P:Program}{g:FuncId}{F:zb->Option O}(j:∃fn,P.funcs[g]?=some fn/\(fn.name== "runtime.NumGoroutine")=false/\fn.body.isNone=false)
  (h:∀args r,F args=some r->∃us:List Value,args=us.map O.v/\(∀u∈us,lit u=true)/\r.flat=true/\∃v,(∀w S,wG w S r v)/\∀w S,F6 P w S->Calls P g us.toArray w fun e q=>e=.returned v/\Fr dr w (fun _=>False) q):jl dr P g (hP F):=by
 refine⟨j,?_⟩;intro args Y Z r Y' Z' hs w S G vs s t
 try unfold hP at hs
 unfold yS at hs;split at hs
 ·rename_i k Y1 m;split at hs
  ·rename_i r0 z;obtain⟨us,e,A,n,v,B,C⟩:=h _ _ z;have D:jn [] k=k:=by cases k<;>rfl
   rw[D]at e;subst e;have d:args=us.map O.v:=by
    have o:∀(args:zb) (us:List Value) (Y1:Hp),zz Y args=some (us.map O.v,Y1)->args=us.map O.v:=by
     intro args
     induction args with
     |nil=>intro us Y1 b;simp only[zz]at b;injection b with b;injection b with b _
     |cons x l E=>
      intro us Y1 b;simp only[zz]at b;split at b
      ·rename_i y Y2 a;split at b
       ·rename_i K hp3 p;injection b with b
        injection b with b _;cases us with
        |nil=>simp at b
        |cons u us=>
         simp only[zG,zi]at b;obtain⟨rfl,rfl⟩:=b;have H:x=.v u/\Y2=Y:=by
          unfold z7 at a;split at a
          ·split at a
           ·injection a with a;injection a with a _;cases a
           ·cases a
          ·unfold qn at a;split at a<;>first
            |(split at a<;>first|(split at a<;>first|(injection a with a;injection a with a _;cases a;done)|cases a)|cases a)
            |(injection a with a;injection a with i f;first|(exact⟨by rw[<-i],f.symm⟩)|cases i)
            |cases a
         obtain⟨rfl,rfl⟩:=H;rw[E us hp3 p];rfl
       ·cases b
      ·cases b
    exact o args us Y1 m
   subst d;simp only[n,true_or,qh]at hs;injection hs with hs
   injection hs with i f;injection f with f I;subst i;subst f;subst I;rw[ic A t];refine(C w S s.aH).mono fun e q b=>?_
   obtain⟨rfl,J⟩:=b;exact⟨v,_,G,rfl,kd.outer s J,.c (B _ _)⟩
  ·cases hs
 ·cases hs
end Go.AM
namespace Go.Proofs
open Go.Shelf
def Tryz.BQ:Go.Shelf.Ren:=⟨fun|213=>121|265=>151|n=>n,fun|9=>9|3=>3|n=>n,fun|n=>n⟩
theorem Tryz.zav:Go.Proofs.Lays.n213 prog Tryz.BQ:={
 mixed:=by kernel_rfl
 f213:=yn func121
 f265:=yn func151
 t3:=underlying3
 a3:=isAgg3
 z3:=sizeOf3
 v3:=zeroValue3
 t9:=underlying9
 a9:=isAgg9
 z9:=sizeOf9
 v9:=zeroValue9}
open Go.RowKit in
theorem Tryz.bytealg_CompareString(a b:ByteArray)(w:World) :
  Calls prog 121 #[.string a,.string b] w fun e c=>e=.returned (.int .i64 (Lib.compareBytes a.data.toList b.data.toList))/\c=w:=Any.bytealg_CompareString Tryz.zav a b w
end Go.Proofs
namespace Go.Q
abbrev int(n:Int):O:=.v (.int .i64 n)
abbrev q6(b:Bool):O:=.v (.bool b)
abbrev R6(c:UInt8):O:=.v (.int .u8 c.toNat)
abbrev zD:Nat:=268435456
theorem mixed:prog.follows .mixedOrders=true:=by kernel_rfl
noncomputable abbrev C0:Ctx:=qf prog []
theorem ku:Gd C0:=qI mixed trivial
def F3(f:Int->Int->Int->Bool):zb->Option O
 |[.v (.int .i64 a),.v (.int .i64 b),.v (.int .i64 c)]=>some (.v (.bool (f a b c)))
 |_=>none
def F1b(f:Int->Bool):zb->Option O
 |[.v (.int .u8 a)]=>some (.v (.bool (f a)))
 |_=>none
def xo(n a b:Int):Bool:=decide (a<=n)&&decide (n<=b)
def Wn(n:Int):Bool:=decide (97<=n)&&decide (n<=122)||decide (48<=n)&&decide (n<=57)||n==45||n==95
@[simp]theorem zhM(f:Int->Int->Int->Bool)(a b c:Int)(Y:Hp)(Z:Nat):hP (F3 f) [.v (.int .i64 a),.v (.int .i64 b),.v (.int .i64 c)] Y Z=some (.v (.bool (f a b c)),Y,Z):=wL rfl rfl (.inl rfl)
@[simp]theorem zgb(f:Int->Bool)(a:Int)(Y:Hp)(Z:Nat):hP (F1b f) [.v (.int .u8 a)] Y Z=some (.v (.bool (f a)),Y,Z):=wL rfl rfl (.inl rfl)
theorem rH{f:Int->Int->Int->Bool}{args:zb}{r:O}(h:F3 f args=some r):∃a b c,args=[int a,int b,int c]/\r=q6 (f a b c):=by
 unfold F3 at h;split at h
 ·injection h with h;exact⟨_,_,_,rfl,h.symm⟩
 ·cases h
theorem R7{f:Int->Bool}{args:zb}{r:O}(h:F1b f args=some r):∃a,args=[.v (.int .u8 a)]/\r=q6 (f a):=by
 unfold F1b at h;split at h
 ·injection h with h;exact⟨_,rfl,h.symm⟩
 ·cases h
theorem Ww:zh prog 70 (hP (F3 xo)):=
 kq (fn:=f70) ku (yt func70) false [] _ fun args r h=>by obtain⟨a,b,c,rfl,rfl⟩:=rH h;exact⟨by simp[f70],_,zs rfl (by simp[f70,xo]),qP _⟩
theorem JP:zh prog 93 (hP (F1b Wn)):=
 kq (fn:=f93) ku (yt func93) false [] _ fun args r h=>by obtain⟨a,rfl,rfl⟩:=R7 h;exact⟨by simp[f93],_,zs rfl (by simp[f93,Wn]),qP _⟩
noncomputable def FS (f:za->Bool):zb->Option O:=qt (α:=za) (fun l=>[str l]) (fun l=>l.length<=zD) (fun l=>q6 (f l))
@[simp]theorem Zu(f:za->Bool)(l:za)(Y:Hp)(Z:Nat)(h:l.length<=zD):hP (FS f) [str l] Y Z=some (q6 (f l),Y,Z):=
 aK l _ _ rfl (fun a b e=>by simp only[zi,zF]at e;exact wT e) h (.inl rfl)
def pr(a b:Nat)(c:UInt8):Bool:=decide (a<=c.toNat)&&decide (c.toNat<=b)
theorem ik(a b:Nat)(c:UInt8):(decide ((c.toNat:Int)<a)||decide ((b:Int)<c.toNat))=!pr a b c:=by rw[wO];simp[pr]
def wC(a b:Nat)(l:za):Bool:=l.all (pr a b)
def K1(l:za):Bool:=wC 33 126 l&&xo l.length 1 100
def YS(l:za):Bool:=l.all fun c=>Wn c.toNat
def EW:za->Bool
 |[]=>false
 |c::_=>decide ((97:Int)<=c.toNat)&&decide ((c.toNat:Int)<=(122:Int))
def qS(l:za):Bool:=xo l.length 1 40&&EW l&&YS l
noncomputable abbrev C1:Ctx:=qf prog [(70,hP (F3 xo)),(93,hP (F1b Wn))]
abbrev qRl1:List Nat:=[70,93]
theorem L6:AM.Good C1 (fun g=>qRl1.contains g):=qI mixed ⟨Ww,fun _=>zq _ _,JP,fun _=>zq _ _,trivial⟩
theorem bj{l:za}{p:UInt8->Bool}{k:Nat}(h:k<l.length):(l.drop k).all p=(p l[k]&&(l.drop (k+1)).all p):=by rw[zg h,yC]
theorem JQ{a b:Nat}{l:za}{k:Nat}(h:k<l.length):wC a b (l.drop k)=(pr a b l[k]&&wC a b (l.drop (k+1))):=bj h
theorem uf{l:za}{k:Nat}(h:k<l.length):YS (l.drop k)=(Wn l[k].toNat&&YS (l.drop (k+1))):=bj h
@[simp]theorem za2(a b:Nat):wC a b []=true:=rfl
@[simp]theorem zb1:YS []=true:=rfl
theorem GO(l:za)(h:l.length<=zD):zH C1 f154 [str l]=some (q6 (wC 32 126 l)):=by
 refine zs rfl ?_;unfold zD at h;simp;refine qu (fun k σ Y Z=>σ 0=str l/\σ 5=int l.length/\σ 6=int k/\wC 32 126 l=wC 32 126 (l.drop k)) l.length ⟨by simp,by simp,by simp,by simp⟩ ?_;rintro k σ Y Z j ⟨d,e,f,b⟩;by_cases a:k<l.length
 ·have i:=q8 k;rw[JQ a]at b;have g:=ik 32 126 l[k];simp only[qO]at g;cases c:pr 32 126 l[k]
  ·have b:wC 32 126 l=false:=by rw[b,c];rfl
   simp[d,e,f,a,b,g,c,f154]
  ·simp[d,e,f,a,g,c,i];exact⟨a,by rw[b,c];rfl⟩
 ·obtain rfl:k=l.length:=by omega
  have b:wC 32 126 l=true:=by rw[b,zp];rfl
  simp[d,e,f,b,f154]
theorem CU(l:za)(h:l.length<=zD):zH C1 f120 [str l]=some (q6 (K1 l)):=by
 refine zs rfl ?_;unfold zD at h;simp;refine qu (fun k σ Y Z=>σ 0=str l/\σ 5=int l.length/\σ 6=int k/\wC 33 126 l=wC 33 126 (l.drop k)) l.length ⟨by simp,by simp,by simp,by simp⟩ ?_;rintro k σ Y Z j ⟨d,e,f,b⟩;by_cases a:k<l.length
 ·have i:=q8 k;rw[JQ a]at b;have g:=ik 33 126 l[k];simp only[qO]at g;cases c:pr 33 126 l[k]
  ·have b:wC 33 126 l=false:=by rw[b,c];rfl
   simp[d,e,f,a,b,g,c,K1,f120]
  ·simp[d,e,f,a,g,c,i];exact⟨a,by rw[b,c];rfl⟩
 ·obtain rfl:k=l.length:=by omega
  have b:wC 33 126 l=true:=by rw[b,zp];rfl
  simp[d,e,f,b,K1,f120]
theorem ug(l:za)(n:l.length<=zD):zH C1 f58 [str l]=some (q6 (qS l)):=by
 refine zs rfl ?_;unfold zD at n;cases e:xo l.length 1 40
 ·simp[e,qS,f58]
 have a:0<l.length:=by simp[xo]at e;omega
 have o:EW l=(decide ((97:Int)<=l[0].toNat)&&decide ((l[0].toNat:Int)<=(122:Int))):=by
  cases l with
  |nil=>simp at a
  |cons c l=>rfl
 have m:(decide ((l[0].toNat:Int)<(97:Int))||decide ((122:Int)<l[0].toNat))=!EW l:=by rw[o,wO];simp
 cases g:EW l
 ·simp[e,a,m,g,qS,f58]
 simp[e,a,m,g];refine qu (fun k σ Y Z=>σ 0=str l/\σ 19=int l.length/\σ 20=int k/\YS l=YS (l.drop k)) l.length ⟨by simp,by simp,by simp,by simp⟩ ?_;rintro k σ Y Z q ⟨h,i,j,d⟩;by_cases b:k<l.length
 ·have p:=q8 k;rw[uf b]at d;cases f:Wn l[k].toNat
  ·have d:YS l=false:=by rw[d,f];rfl
   simp[h,i,j,b,d,f,qS,f58]
  ·simp[h,i,j,b,f,p];exact⟨b,by rw[d,f];rfl⟩
 ·obtain rfl:k=l.length:=by omega
  have d:YS l=true:=by rw[d,zp];rfl
  simp[h,i,j,d,e,g,qS,f58]
theorem CV:zh prog 154 (hP (FS (wC 32 126))):=
 Z3 L6 func154 false [] fun l Y=>⟨by simp[f154],_,GO l Y,qP _⟩
theorem uh:zh prog 120 (hP (FS K1)):=
 Z3 L6 func120 false [] fun l Y=>⟨by simp[f120],_,CU l Y,qP _⟩
theorem JR:zh prog 58 (hP (FS qS)):=
 Z3 L6 func58 false [] fun l Y=>⟨by simp[f58],_,ug l Y,qP _⟩
end Go.Q
namespace Go.Proofs
open Go.Shelf
def Tryz.BR:Go.Shelf.Ren:=⟨fun|161=>238|231=>249|227=>197|233=>250|235=>251|228=>219|197=>114|151=>221|260=>142|152=>240|137=>223|119=>252|224=>145|225=>144|217=>143|266=>174|n=>n,fun|9=>9|4=>4|3=>3|5=>5|117=>265|116=>264|0=>0|124=>268|105=>172|21=>21|119=>243|46=>163|139=>246|138=>245|n=>n,fun|3=>4|4=>5|n=>n⟩
theorem Tryz.zaw:Go.Proofs.Lays.n161 prog Tryz.BR:={
 mixed:=by kernel_rfl
 f119:=yn func252
 f137:=yn func223
 f151:=yn func221
 f152:=yn func240
 f161:=yn func238
 f197:=yn func114
 f217:=yn func143
 f224:=yn func145
 f225:=yn func144
 f227:=yn func197
 f228:=yn func219
 f231:=yn func249
 f233:=yn func250
 f235:=yn func251
 f260:=yn func142
 f266:=yn func174
 t0:=underlying0
 a0:=isAgg0
 z0:=sizeOf0
 v0:=zeroValue0
 t3:=underlying3
 a3:=isAgg3
 z3:=sizeOf3
 v3:=zeroValue3
 t4:=underlying4
 a4:=isAgg4
 z4:=sizeOf4
 v4:=zeroValue4
 t5:=underlying5
 a5:=isAgg5
 z5:=sizeOf5
 v5:=zeroValue5
 t9:=underlying9
 a9:=isAgg9
 z9:=sizeOf9
 v9:=zeroValue9
 t21:=underlying21
 a21:=isAgg21
 z21:=sizeOf21
 v21:=zeroValue21
 t46:=underlying163
 a46:=isAgg163
 z46:=sizeOf163
 v46:=zeroValue163
 t105:=underlying172
 a105:=isAgg172
 z105:=sizeOf172
 v105:=zeroValue172
 t116:=underlying264
 a116:=isAgg264
 z116:=sizeOf264
 t117:=underlying265
 a117:=isAgg265
 z117:=sizeOf265
 v117:=zeroValue265
 t119:=underlying243
 a119:=isAgg243
 z119:=sizeOf243
 t124:=underlying268
 a124:=isAgg268
 z124:=sizeOf268
 v124:=zeroValue268
 t138:=underlying245
 a138:=isAgg245
 z138:=sizeOf245
 v138:=zeroValue245
 t139:=underlying246
 a139:=isAgg246
 z139:=sizeOf246
 v139:=zeroValue246
 g3:=by kernel_rfl
 g4:=by kernel_rfl}
def Tryz.BS:Go.Shelf.Ren:=⟨fun|137=>223|217=>143|266=>174|n=>n,fun|9=>9|5=>5|3=>3|n=>n,fun|n=>n⟩
theorem Tryz.zax:Go.Proofs.Lays.n137 prog Tryz.BS:={
 mixed:=by kernel_rfl
 f137:=yn func223
 f217:=yn func143
 f266:=yn func174
 t3:=underlying3
 a3:=isAgg3
 z3:=sizeOf3
 v3:=zeroValue3
 t5:=underlying5
 a5:=isAgg5
 z5:=sizeOf5
 v5:=zeroValue5
 t9:=underlying9
 a9:=isAgg9
 z9:=sizeOf9
 v9:=zeroValue9}
def Tryz.BT:Go.Shelf.Ren:=⟨fun|172=>206|244=>231|245=>232|247=>243|279=>244|280=>245|281=>246|282=>247|287=>268|316=>269|171=>11|205=>270|321=>280|322=>281|243=>25|246=>41|283=>66|284=>67|285=>68|286=>69|129=>103|317=>102|318=>104|319=>105|320=>106|337=>123|338=>124|n=>n,fun|9=>9|3=>3|75=>41|76=>42|4=>4|5=>5|167=>299|37=>36|0=>0|85=>300|2=>2|168=>302|53=>129|175=>314|46=>163|210=>318|127=>83|145=>327|143=>325|21=>21|171=>128|173=>132|212=>160|51=>161|20=>20|213=>162|232=>220|233=>221|80=>68|n=>n,fun|15=>6|16=>7|17=>1|18=>2|19=>3|n=>n⟩
theorem Tryz.zay:Go.Proofs.Lays.n172 prog Tryz.BT:={
 mixed:=by kernel_rfl
 f129:=yn func103
 f171:=yn func11
 f172:=yn func206
 f205:=yn func270
 f243:=yn func25
 f244:=yn func231
 f245:=yn func232
 f246:=yn func41
 f247:=yn func243
 f279:=yn func244
 f280:=yn func245
 f281:=yn func246
 f282:=yn func247
 f283:=yn func66
 f284:=yn func67
 f285:=yn func68
 f286:=yn func69
 f287:=yn func268
 f316:=yn func269
 f317:=yn func102
 f318:=yn func104
 f319:=yn func105
 f320:=yn func106
 f321:=yn func280
 f322:=yn func281
 f337:=yn func123
 f338:=yn func124
 t0:=underlying0
 a0:=isAgg0
 z0:=sizeOf0
 v0:=zeroValue0
 t2:=underlying2
 a2:=isAgg2
 z2:=sizeOf2
 v2:=zeroValue2
 t3:=underlying3
 a3:=isAgg3
 z3:=sizeOf3
 v3:=zeroValue3
 t4:=underlying4
 a4:=isAgg4
 z4:=sizeOf4
 v4:=zeroValue4
 t5:=underlying5
 a5:=isAgg5
 z5:=sizeOf5
 v5:=zeroValue5
 t9:=underlying9
 a9:=isAgg9
 z9:=sizeOf9
 v9:=zeroValue9
 t20:=underlying20
 a20:=isAgg20
 z20:=sizeOf20
 v20:=zeroValue20
 t21:=underlying21
 a21:=isAgg21
 z21:=sizeOf21
 v21:=zeroValue21
 t37:=underlying36
 a37:=isAgg36
 z37:=sizeOf36
 v37:=zeroValue36
 t46:=underlying163
 a46:=isAgg163
 z46:=sizeOf163
 v46:=zeroValue163
 t51:=underlying161
 a51:=isAgg161
 z51:=sizeOf161
 v51:=zeroValue161
 t53:=underlying129
 a53:=isAgg129
 z53:=sizeOf129
 v53:=zeroValue129
 t75:=underlying41
 a75:=isAgg41
 z75:=sizeOf41
 v75:=zeroValue41
 t76:=underlying42
 a76:=isAgg42
 z76:=sizeOf42
 v76:=zeroValue42
 t85:=underlying300
 a85:=isAgg300
 z85:=sizeOf300
 v85:=zeroValue300
 t127:=underlying83
 a127:=isAgg83
 z127:=sizeOf83
 v127:=zeroValue83
 t143:=underlying325
 a143:=isAgg325
 z143:=sizeOf325
 v143:=zeroValue325
 t145:=underlying327
 a145:=isAgg327
 z145:=sizeOf327
 v145:=zeroValue327
 t167:=underlying299
 a167:=isAgg299
 z167:=sizeOf299
 v167:=zeroValue299
 t168:=underlying302
 a168:=isAgg302
 z168:=sizeOf302
 v168:=zeroValue302
 t171:=underlying128
 a171:=isAgg128
 z171:=sizeOf128
 v171:=zeroValue128
 t173:=underlying132
 a173:=isAgg132
 z173:=sizeOf132
 v173:=zeroValue132
 t175:=underlying314
 a175:=isAgg314
 z175:=sizeOf314
 v175:=zeroValue314
 t210:=underlying318
 a210:=isAgg318
 z210:=sizeOf318
 v210:=zeroValue318
 t212:=underlying160
 a212:=isAgg160
 z212:=sizeOf160
 v212:=zeroValue160
 t213:=underlying162
 a213:=isAgg162
 z213:=sizeOf162
 t232:=underlying220
 a232:=isAgg220
 z232:=sizeOf220
 v232:=zeroValue220
 t233:=underlying221
 a233:=isAgg221
 z233:=sizeOf221
 v233:=zeroValue221
 g15:=by kernel_rfl
 g16:=by kernel_rfl
 g17:=by kernel_rfl
 g18:=by kernel_rfl
 g19:=by kernel_rfl}
def Tryz.BU:Go.Shelf.Ren:=⟨fun|219=>116|217=>143|225=>144|224=>145|267=>146|266=>174|314=>175|n=>n,fun|9=>9|3=>3|4=>4|5=>5|46=>163|146=>247|51=>161|n=>n,fun|1=>0|n=>n⟩
theorem Tryz.zaz:Go.Proofs.Lays.n219 prog Tryz.BU:={
 mixed:=by kernel_rfl
 f217:=yn func143
 f219:=yn func116
 f224:=yn func145
 f225:=yn func144
 f266:=yn func174
 f267:=yn func146
 f314:=yn func175
 t3:=underlying3
 a3:=isAgg3
 z3:=sizeOf3
 v3:=zeroValue3
 t4:=underlying4
 a4:=isAgg4
 z4:=sizeOf4
 v4:=zeroValue4
 t5:=underlying5
 a5:=isAgg5
 z5:=sizeOf5
 v5:=zeroValue5
 t9:=underlying9
 a9:=isAgg9
 z9:=sizeOf9
 v9:=zeroValue9
 t46:=underlying163
 a46:=isAgg163
 z46:=sizeOf163
 v46:=zeroValue163
 t51:=underlying161
 a51:=isAgg161
 z51:=sizeOf161
 v51:=zeroValue161
 t146:=underlying247
 a146:=isAgg247
 z146:=sizeOf247
 v146:=zeroValue247
 g1:=by kernel_rfl}
def Tryz.BV:Go.Shelf.Ren:=⟨fun|138=>78|195=>113|218=>115|143=>79|219=>116|217=>143|225=>144|224=>145|267=>146|266=>174|314=>175|n=>n,fun|9=>9|3=>3|4=>4|5=>5|0=>0|46=>163|146=>247|51=>161|n=>n,fun|1=>0|n=>n⟩
theorem Tryz.zaA:Go.Proofs.Lays.n138 prog Tryz.BV:={
 mixed:=by kernel_rfl
 f138:=yn func78
 f143:=yn func79
 f195:=yn func113
 f217:=yn func143
 f218:=yn func115
 f219:=yn func116
 f224:=yn func145
 f225:=yn func144
 f266:=yn func174
 f267:=yn func146
 f314:=yn func175
 t0:=underlying0
 a0:=isAgg0
 z0:=sizeOf0
 v0:=zeroValue0
 t3:=underlying3
 a3:=isAgg3
 z3:=sizeOf3
 v3:=zeroValue3
 t4:=underlying4
 a4:=isAgg4
 z4:=sizeOf4
 v4:=zeroValue4
 t5:=underlying5
 a5:=isAgg5
 z5:=sizeOf5
 v5:=zeroValue5
 t9:=underlying9
 a9:=isAgg9
 z9:=sizeOf9
 v9:=zeroValue9
 t46:=underlying163
 a46:=isAgg163
 z46:=sizeOf163
 v46:=zeroValue163
 t51:=underlying161
 a51:=isAgg161
 z51:=sizeOf161
 v51:=zeroValue161
 t146:=underlying247
 a146:=isAgg247
 z146:=sizeOf247
 v146:=zeroValue247
 g1:=by kernel_rfl}
end Go.Proofs
namespace Go.Q
noncomputable def WY (f:za->za->O) (pre:za->za->Prop):zb->Option O:=qt (α:=za×za) (fun a=>[str a.1,str a.2]) (fun a=>a.1.length<=zD/\a.2.length<=zD/\pre a.1 a.2) (fun a=>f a.1 a.2)
theorem rI:∀a b:za×za,[str a.1,str a.2]=[str b.1,str b.2]->a=b:=by rintro⟨c,d⟩ ⟨f,g⟩ e;simp only[zi,zF]at e;rw[wT e.1,wT e.2]
theorem Z6(f:za->za->O)(pre:za->za->Prop)(a b:za)(Y:Hp)(Z:Nat)(h:a.length<=zD)(c:b.length<=zD)(d:pre a b)(e:(f a b).flat=true):hP (WY f pre) [str a,str b] Y Z=some (f a b,Y,Z):=
 aK (a,b) _ _ rfl rI ⟨h,c,d⟩ (.inl e)
theorem xM{f:za->za->O}{pre:za->za->Prop}{args:zb}{r:O}(h:WY f pre args=some r):∃a b,args=[str a,str b]/\a.length<=zD/\b.length<=zD/\pre a b/\r=f a b:=by obtain⟨⟨a,b⟩,rfl,⟨c,d,e⟩,rfl⟩:=qc h;exact⟨a,b,rfl,c,d,e,rfl⟩
theorem EX:Ld prog 0:=by refine⟨jb (by kernel_rfl),#[.int .i64 0],3,by kernel_rfl,rfl,by kernel_rfl,by kernel_rfl,by kernel_rfl⟩
def CW(a b:za):O:=int (Lib.index a b)
def cntP(a b:za):O:=int (Lib.count a b)
theorem ui:zh prog 116 (hP (WY CW fun _ _=>True)):=
 kr ⟨_,func116,by kernel_rfl,by kernel_rfl⟩ fun args r h=>by
  obtain⟨a,b,rfl,c,d,_,rfl⟩:=xM h;unfold zD at c d;refine⟨[.string ⟨a.toArray⟩,.string ⟨b.toArray⟩],rfl,by simp[lit],rfl,.int .i64 (Lib.index a b),fun w S=>.v rfl,fun w S f=>?_⟩;obtain⟨_,m,g⟩:=f.1 0 EX;refine(Any.stringslite_Index Tryz.zaz ⟨a.toArray⟩ ⟨b.toArray⟩ m w (by simp;omega) g).mono fun e j i=>?_
  obtain⟨rfl,rfl⟩:=i;exact⟨by simp,Fr.refl _ _⟩
theorem rJ:zh prog 78 (hP (WY cntP fun _ b=>1<=b.length)):=
 kr ⟨_,func78,by kernel_rfl,by kernel_rfl⟩ fun args r h=>by
  obtain⟨a,b,rfl,c,d,f,rfl⟩:=xM h;unfold zD at c d;refine⟨[.string ⟨a.toArray⟩,.string ⟨b.toArray⟩],rfl,by simp[lit],rfl,.int .i64 (Lib.count a b),fun w S=>.v rfl,fun w S g=>?_⟩;obtain⟨_,m,i⟩:=g.1 0 EX;refine(Any.strings_Count_any Tryz.zaA ⟨a.toArray⟩ ⟨b.toArray⟩ m w (by simp;omega) i (by simpa using f)).mono fun e k j=>?_
  obtain⟨rfl,rfl⟩:=j;exact⟨by simp[Lib.countB],Fr.refl _ _⟩
noncomputable abbrev Ci:Ctx:=qf prog [(116,hP (WY CW fun _ _=>True))]
theorem za3:AM.Good Ci (fun g=>[116].contains g):=qI mixed ⟨ui,fun _=>zq _ _,trivial⟩
theorem Jb(a b:za)(Y:Hp)(Z:Nat)(h:a.length<=zD)(c:b.length<=zD):hP (WY CW fun _ _=>True) [str a,str b] Y Z=some (int (Lib.index a b),Y,Z):=Z6 _ _ a b Y Z h c trivial rfl
theorem bl:zh prog 79 (hP (WY CW fun _ _=>True)):=
 kq (fn:=f79) za3 (yt func79) false [] _ fun args r h=>by obtain⟨a,b,rfl,c,d,_,rfl⟩:=xM h;exact⟨by simp[f79],_,zs rfl (by simp[Jb,c,d,CW,f79]),qP _⟩
noncomputable abbrev Ci2:Ctx:=qf prog [(79,hP (WY CW fun _ _=>True)),(78,hP (WY cntP fun _ b=>1<=b.length))]
theorem L7:AM.Good Ci2 (fun g=>[79].contains g):=qI mixed ⟨bl,fun _=>zq _ _,rJ,fun _=>zq _ _,trivial⟩
def R8(a b:za):O:=q6 (Lib.contains a b)
theorem il:zh prog 186 (hP (WY R8 fun _ _=>True)):=
 kq (fn:=f186) L7 (yt func186) false [] _ fun args r h=>by obtain⟨a,b,rfl,c,d,_,rfl⟩:=xM h;exact⟨by simp[f186],_,zs rfl (by simp[Jb,c,d,R8,Lib.contains,f186]),qP _⟩
def nq(a b:za):O:=.qZ [str (Lib.cut a b).1,str (Lib.cut a b).2.1,q6 (Lib.cut a b).2.2]
theorem L8(a b:za)(c:a.length<=zD)(d:b.length<=zD):zH Ci f183 [str a,str b]=some (nq a b):=by
 refine zs rfl ?_;unfold zD at c d;by_cases h:0<=Lib.index a b
 ·have l:=Lib.index_room a b h;have e:Lib.cut a b=(a.take (Lib.index a b).toNat,a.drop ((Lib.index a b).toNat+b.length),true):=by unfold Lib.cut;rw[zl h]
  have f:=wN (Lib.index a b+b.length);have g:(Lib.index a b+b.length).toNat=(Lib.index a b).toNat+b.length:=by omega
  have i:0<=Lib.index a b+b.length:=by omega
  have j:(Lib.index a b).toNat<=a.length:=by omega
  have k:(Lib.index a b).toNat+b.length<=a.length:=by omega
  simp[Jb,zD,c,d,h,f,g,i,j,k,nq,e,jB,f183];rw[qy (by simp)]
 ·have e:Lib.cut a b=(a,[],false):=by unfold Lib.cut;rw[zj h]
  simp[Jb,zD,c,d,h,nq,e,jB,f183]
theorem GP:zh prog 183 (hP (WY nq fun _ _=>True)):=
 kq (fn:=f183) za3 (yt func183) false [] _ fun args r h=>by obtain⟨a,b,rfl,c,d,_,rfl⟩:=xM h;exact⟨by simp[f183],_,L8 a b c d,qP _⟩
def L9(a b:za):O:=q6 (b.isPrefixOf a)
theorem uj(a b:za):(decide (b.length<=a.length)&&(a.take b.length==b))=b.isPrefixOf a:=by
 rw[wO];simp only[zn,z6,w7,BL];constructor
 ·rintro⟨_,h⟩;exact List.prefix_iff_eq_take.2 h.symm
 ·intro h;exact⟨h.length_le,(List.prefix_iff_eq_take.1 h).symm⟩
noncomputable abbrev Cw0:Ctx:=qf prog []
theorem zb2:Gd Cw0:=qI mixed trivial
theorem eZ(a b:za):zH Cw0 f117 [str a,str b]=some (L9 a b):=by
 refine zs rfl ?_;have Y:=uj a b;by_cases h:b.length<=a.length
 ·rw[cB h,vN]at Y;simp[h,L9,<-Y,f117]
 ·rw[zbv h,kV]at Y;have c:¬((b.length:Int)<=a.length):=by omega
  simp[h,c,L9,<-Y,f117]
theorem cR:zh prog 117 (hP (WY L9 fun _ _=>True)):=
 kq (fn:=f117) zb2 (yt func117) false [] _ fun args r h=>by obtain⟨a,b,rfl,c,d,_,rfl⟩:=xM h;exact⟨by simp[f117],_,eZ a b,qP _⟩
noncomputable abbrev Cw1:Ctx:=qf prog [(117,hP (WY L9 fun _ _=>True)),(183,hP (WY nq fun _ _=>True))]
theorem CX:AM.Good Cw1 (fun g=>[117].contains g):=qI mixed ⟨cR,fun _=>zq _ _,GP,fun _=>zq _ _,trivial⟩
theorem bm(a b:za)(Y:Hp)(Z:Nat)(h:a.length<=zD)(c:b.length<=zD):hP (WY L9 fun _ _=>True) [str a,str b] Y Z=some (q6 (b.isPrefixOf a),Y,Z):=Z6 _ _ a b Y Z h c trivial rfl
theorem im(a b:za)(Y:Hp)(Z:Nat)(h:a.length<=zD)(c:b.length<=zD):hP (WY nq fun _ _=>True) [str a,str b] Y Z=some (.qZ [str (Lib.cut a b).1,str (Lib.cut a b).2.1,q6 (Lib.cut a b).2.2],Y,Z):=Z6 _ _ a b Y Z h c trivial rfl
theorem e8:zh prog 222 (hP (WY L9 fun _ _=>True)):=
 kq (fn:=f222) CX (yt func222) false [] _ fun args r h=>by obtain⟨a,b,rfl,c,d,_,rfl⟩:=xM h;exact⟨by simp[f222],_,zs rfl (by simp[bm,c,d,L9,f222]),qP _⟩
theorem iq:zh prog 150 (hP (WY nq fun _ _=>True)):=
 kq (fn:=f150) CX (yt func150) false [] _ fun args r h=>by obtain⟨a,b,rfl,c,d,_,rfl⟩:=xM h;exact⟨by simp[f150],_,zs rfl (by simp[im,c,d,nq,jB,f150]),qP _⟩
def CY(a b:za):O:=.qZ [str (if b.isPrefixOf a then a.drop b.length else a),q6 (b.isPrefixOf a)]
theorem e9(a b:za)(c:a.length<=zD)(d:b.length<=zD):zH Cw1 f80 [str a,str b]=some (CY a b):=by
 refine zs rfl ?_;cases h:b.isPrefixOf a
 ·simp[bm,c,d,h,CY,jB,f80]
 ·have e:=(BL.1 h).length_le;simp[bm,c,d,h,e,CY,jB,f80];rw[qy (by simp)]
theorem cS:zh prog 80 (hP (WY CY fun _ _=>True)):=
 kq (fn:=f80) CX (yt func80) false [] _ fun args r h=>by obtain⟨a,b,rfl,c,d,_,rfl⟩:=xM h;exact⟨by simp[f80],_,e9 a b c d,qP _⟩
noncomputable abbrev Cw2:Ctx:=qf prog [(80,hP (WY CY fun _ _=>True))]
theorem zb3:Gd Cw2:=qI mixed ⟨cS,fun _=>zq _ _,trivial⟩
theorem VO(a b:za)(Y:Hp)(Z:Nat)(h:a.length<=zD)(c:b.length<=zD):hP (WY CY fun _ _=>True) [str a,str b] Y Z=some (.qZ [str (if b.isPrefixOf a then a.drop b.length else a),q6 (b.isPrefixOf a)],Y,Z):=Z6 _ _ a b Y Z h c trivial rfl
theorem Wb:zh prog 47 (hP (WY CY fun _ _=>True)):=
 kq (fn:=f47) zb3 (yt func47) false [] _ fun args r h=>by obtain⟨a,b,rfl,c,d,_,rfl⟩:=xM h;exact⟨by simp[f47],_,zs rfl (by simp[VO,c,d,CY,jB,f47]),qP _⟩
def tlP(a b:za):O:=str (Lib.trimLeftB a (b.headD 0))
def CZ(b:za):Prop:=∃c:UInt8,b=[c]/\c.toNat<128
theorem ir:zh prog 238 (hP (WY tlP fun _ b=>CZ b)):=
 kr ⟨_,func238,by kernel_rfl,by kernel_rfl⟩ fun args r h=>by
  obtain⟨a,b,rfl,g,i,⟨c,rfl,d⟩,rfl⟩:=xM h;refine⟨[.string ⟨a.toArray⟩,.string ⟨#[c]⟩],rfl,by simp[lit],rfl,.string ⟨(Lib.trimLeftB a c).toArray⟩,fun w S=>.v rfl,fun w S _=>?_⟩;refine(Any.strings_TrimLeft_one Tryz.zaw ⟨a.toArray⟩ c d w).mono fun e j f=>?_
  obtain⟨rfl,rfl⟩:=f;exact⟨by simp,Fr.refl _ _⟩
noncomputable def FSB (f:za->UInt8->O):zb->Option O:=qt (α:=za×UInt8) (fun a=>[str a.1,R6 a.2]) (fun a=>a.1.length<=zD) (fun a=>f a.1 a.2)
theorem zb4:∀a b:za×UInt8,[str a.1,R6 a.2]=[str b.1,R6 b.2]->a=b:=by
 rintro⟨g,c⟩ ⟨h,d⟩ e;simp only[zi,zF]at e;have i:=qE e.2;have f:c.toNat=d.toNat:=by omega
 rw[wT e.1,yg.1 f]
theorem iu(f:za->UInt8->O)(a:za)(c:UInt8)(Y:Hp)(Z:Nat)(h:a.length<=zD)(b:(f a c).flat=true):hP (FSB f) [str a,R6 c] Y Z=some (f a c,Y,Z):=
 aK (a,c) _ _ rfl zb4 h (.inl b)
def Rq(a:za)(c:UInt8):O:=int (Lib.indexByte a c)
theorem Wc:zh prog 223 (hP (FSB Rq)):=
 kr ⟨_,func223,by kernel_rfl,by kernel_rfl⟩ fun args r h=>by
  obtain⟨⟨a,c⟩,rfl,d,rfl⟩:=qc h;refine⟨[.string ⟨a.toArray⟩,.int .u8 c.toNat],rfl,by simp[lit],rfl,.int .i64 (Lib.indexByte a c),fun w S=>.v rfl,fun w S _=>?_⟩;refine(Any.strings_IndexByte Tryz.zax ⟨a.toArray⟩ c.toNat w).mono fun e f b=>?_
  obtain⟨rfl,rfl⟩:=b;exact⟨by simp,Fr.refl _ _⟩
end Go.Q
namespace Go.AM
variable{dr:Prop}
def fa(c:UInt8):zb:=[.v (.int .u8 c.toNat)]
def Yn(U:TypeId)(l:za):Blk:=⟨U,1,true,l.map fa⟩
def Wo(T:TypeId):Blk:=⟨T,2,false,[[.v (.pointer none),.nil]]⟩
def vl(T:TypeId)(id m n:Nat):Blk:=⟨T,2,false,[[.ref id 0 0,.own m 0 n]]⟩
def uk:List zb->Option za
 |[]=>some []
 |[.v (.int .u8 z)]::l=>if z=(UInt8.ofNat z.toNat).toNat then(uk l).map (UInt8.ofNat z.toNat::·)else none
 |_=>none
@[simp]theorem zgc(l:za):uk (l.map fa)=some l:=by
 induction l with
 |nil=>rfl
 |cons c l a=>simp[uk,fa]at a⊢;simp[a]
theorem um:∀{es:List zb} {l:za},uk es=some l->es=l.map fa
 |[],l,h=>by simp only[uk]at h;injection h with h;subst h;rfl
 |e::es,l,h=>by
  unfold uk at h;split at h
  ·rename_i a;cases a
  ·rename_i z l' a;injection a with b c
   subst b;subst c;split at h
   ·rename_i d;obtain⟨l2,f,g⟩:=zJ h;have:=um f;subst this;subst g;simp only[zG,fa];rw[<-d]
   ·cases h
  ·cases h
def iv(U:TypeId)(Y:Hp)(m n:Nat)(c:Blk):Option (za×Hp):=
 if c.e=U/\c.s=1/\c.arr=true then(uk c.es).bind fun l=>if n=l.length then some (l,zI Y m none)else none else none
def XB(T U:TypeId)(Y:Hp)(id:Nat)(b:Blk):Option (za×Hp):=
 if b.e=T/\b.s=2/\b.arr=false then match b.es with
  |[[.v (.pointer none),.nil]]=>some ([],Y)
  |[[.ref i 0 0,.own m 0 n]]=>if i=id/\m≠id then(Y m).bind (iv U Y m n)else none
  |_=>none
 else none
def C2(T U:TypeId)(Y:Hp)(id Z:Nat)(l t:za)(r:O):Option (O×Hp×Nat):=
 if l.length+t.length<=140737488355328 then some (r,zI (zI Y Z (some (Yn U (l++t)))) id (some (vl T id Z (l++t).length)),Z+1)else none
def vm(T U:TypeId)(F:zb->Option (za×O)):AM.Spec:=fun args Y Z=>match args with
 | .ref id 0 0::rest=>if rest.all O.noOwn=true then(zz Y rest).bind fun p=>(F p.1).bind fun q=>(Y id).bind fun b=>(XB T U Y id b).bind fun s=>C2 T U s.2 id Z s.1 q.1 q.2 else none
 |_=>none
theorem fK{T U:TypeId}{F:zb->Option (za×O)}{rest a:zb}{Y Y1:Hp}{id Z:Nat}{t:za}{r:O}(c:zz Y rest=some (a,Y1))(d:rest.all O.noOwn=true)(e:F a=some (t,r)) :
  vm T U F (.ref id 0 0::rest) Y Z=(Y id).bind fun b=>(XB T U Y id b).bind fun s=>C2 T U s.2 id Z s.1 t r:=by
 simp[vm,c,d,e]
@[simp]theorem zep(T U:TypeId)(Y:Hp)(id:Nat):XB T U Y id (Wo T)=some ([],Y):=by simp[XB,Wo]
@[simp]theorem cT(T U:TypeId)(Y:Hp)(id m n:Nat)(h:¬m=id):XB T U Y id (vl T id m n)=(Y m).bind (iv U Y m n):=by simp[XB,vl,h]
@[simp]theorem zb5(U:TypeId)(Y:Hp)(m n:Nat)(l:za)(h:n=l.length):iv U Y m n (Yn U l)=some (l,zI Y m none):=by simp[iv,Yn,h]
theorem VP{T U:TypeId}{Y Y1:Hp}{id:Nat}{b:Blk}{l:za}(h:XB T U Y id b=some (l,Y1)) :
  (b=Wo T/\l=[]/\Y1=Y)\/∃m,m≠id/\b=vl T id m l.length/\Y m=some (Yn U l)/\Y1=zI Y m none:=by
 unfold XB at h;split at h
 ·rename_i k;obtain⟨d,f,g⟩:=k;obtain⟨e,s,a,es⟩:=b;simp only at d f g h;subst d;subst f;subst g;split at h
  ·injection h with h;injection h with o p;exact .inl ⟨rfl,o.symm,p.symm⟩
  ·rename_i i m n;split at h
   ·rename_i r;obtain⟨rfl,t⟩:=r;cases q:Y m with
    |none=>rw[q]at h;cases h
    |some c=>
     rw[q]at h;simp only[zW]at h;unfold iv at h;split at h
     ·rename_i k;obtain⟨d,f,g⟩:=k;cases j:uk c.es with
      |none=>rw[j]at h;cases h
      |some l'=>
       rw[j]at h;simp only[zW]at h;split at h
       ·rename_i u;injection h with h
        injection h with o p;subst o;subst p;subst u;refine .inr ⟨m,t,rfl,?_,rfl⟩;obtain⟨e,s,a,es⟩:=c;simp only at d f g j;rw[q,d,f,g,um j];rfl
       ·cases h
     ·cases h
   ·cases h
  ·cases h
 ·cases h
section
variable{P:Program}{w w':World}{S S':Nat->Prop}{G G':Nat->GI}{Y Y':Hp}{Z Z':Nat}
theorem C3{r:O}{v:Value}(h:qg w S G Z r v)(a:r.flat=true):wG w S r v:=by
 cases h with
 |c h=>exact h
 |qZ e f=>
  refine .qZ e fun j b u d g=>?_
  simp only[O.flat,zP]at a;have i:=a b (zE d);have k:=f j b u d g;cases b with
  |v x=>cases k with|c h=>exact h
  |_=>simp[O.isV]at i
 |_=>simp[O.flat]at a
theorem kd.na{n:World}{j:Nat->Prop}{d:Nat->GI}{Y2:Hp}{e:Nat}(h:kd dr P Y Z S G w Y2 e j d n){id:Nat}{s b:Blk}(v:Y id=some s)(hid:id<Z)(x:kb P n j d e (d id) b)(y:¬j (d id).g)
  (hd:∀k c,Y2 k=some c->k≠id->(d k).g≠(d id).g):kd dr P Y Z S G w (zI Y2 id (some b)) e j d n:=by
 have i:∀k c,zI Y2 id (some b) k=some c->(k=id/\c=b)\/(k≠id/\Y2 k=some c):=by
  intro k c a;by_cases f:k=id
  ·subst f;simp at a;exact .inl ⟨rfl,a.symm⟩
  ·rw[zc _ _ _ _ f]at a;exact .inr ⟨f,a⟩
 have z:=h.up;refine⟨⟨h.inv.st,fun k c a=>?_,fun k c a=>?_,fun k c a=>?_,fun k o c p a q r=>?_,h.inv.aH⟩,h.up,h.loc,h.kO,h.from_,fun k c a=>?_,h.fr⟩
 ·rcases i k c a with⟨rfl,_⟩|⟨_,a⟩
  ·omega
  ·exact h.inv.top k c a
 ·rcases i k c a with⟨rfl,rfl⟩|⟨_,a⟩
  ·exact x
  ·exact h.inv.live k c a
 ·rcases i k c a with⟨rfl,rfl⟩|⟨_,a⟩
  ·exact y
  ·exact h.inv.apart k c a
 ·rcases i k c a with⟨l,_⟩|⟨l,t⟩<;>rcases i o p q with⟨m,_⟩|⟨m,u⟩
  ·rw[l,m]
  ·exact(hd o p u m (by rw[<-r,l])).elim
  ·exact(hd k c t l (by rw[r,m])).elim
  ·exact h.inv.inj k o c p t u r
 ·rcases i k c a with⟨rfl,rfl⟩|⟨_,a⟩
  ·exact .inl ⟨k,s,v,by rw[h.loc k hid]⟩
  ·exact h.own k c a
end
structure Zd (T U:TypeId) (Y:Hp) (Z:Nat) (l:List UInt8) (b0:Blk) (K:Hp->Hp):Prop where
 pos:0<Z
 top:∀j b,Y j=some b->j<Z
 at0:Y 0=some b0
 ok:∀h:Hp,(∀j,j<Z->h j=Y j)->XB T U h 0 b0=some (l,K h)
 kO:∀(h:Hp) (j:Nat),Z<=j->K h j=h j
theorem Zd.new(T U:TypeId):Zd T U (zI (fun _=>none) 0 (some (Wo T))) 1 [] (Wo T) (fun h=>h):=
 ⟨by omega,fun j b h=>by by_cases e:j=0<;>simp_all,by simp,fun h _=>by simp,fun _ _ _=>rfl⟩
theorem Zd.use(T U:TypeId)(l:za):Zd T U (zI (zI (fun _=>none) 0 (some (vl T 0 1 l.length))) 1 (some (Yn U l))) 2 l (vl T 0 1 l.length) (fun h=>zI h 1 none):=
 ⟨by omega,fun j b h=>by by_cases e:j=0<;>by_cases c:j=1<;>simp_all,by rw[zc _ _ _ _ (by omega)];simp,fun h a=>by rw[cT _ _ _ _ _ _ (by omega),a 1 (by omega)];simp,fun h j d=>zc _ _ _ _ (by omega)⟩
def ox(T U:TypeId)(o:Option (O×Hp×Nat))(l:za)(r:O):Prop:=∃Y Z m,o=some (r,Y,Z)/\Y 0=some (vl T 0 m l.length)/\Y m=some (Yn U l)
theorem QV{T U:TypeId}{C:Ctx}{fn:Func}{code:Code}{args:zb}{Y:Hp}{Z:Nat}{l:za}{r:O}(a:fn.body=some code)
  (h:Zs C code ⟨kM args,Y,Z⟩ (Xb C.P fn fun x Y' _=>x=r/\∃m,Y' 0=some (vl T 0 m l.length)/\Y' m=some (Yn U l))):ox T U (yR C fn args Y Z) l r:=by
 obtain⟨x,Y',Z',b,rfl,m,c,d⟩:=wB a h;exact⟨Y',Z',m,b,c,d⟩
section
variable{C:Ctx}{pf:FuncId->Bool}{f:FuncId}{fn:Func}{code:Code}
theorem ZE(hg:kl dr C pf)(a:XP C pf f fn code)(T U:TypeId)(F:zb->Option (za×O))
  (hF:∀aZ t r,F aZ=some (t,r)->r.flat=true/\aZ.length+1<=fn.ntmps/\∀Y Z l b0 K,Zd T U Y Z l b0 K->l.length+t.length<=140737488355328->ox T U (yR C fn (.ref 0 0 0::aZ) Y Z) (l++t) r):jl dr C.P f (vm T U F):=by
 refine⟨⟨fn,a.func,a.name,by rw[a.body];rfl⟩,?_⟩;intro args Y Z r Y' Z' h w S G vs B hz;unfold vm at h;split at h
 case h_2=>cases h
 rename_i id rest;obtain⟨u,us,rfl,hu,hz'⟩:=hz.jr;split at h
 case isFalse=>cases h
 rename_i hno;obtain⟨⟨aZ,hpx⟩,I8,h⟩:=zL.1 h;obtain rfl:=Kw I8 hno;obtain⟨⟨t,r0⟩,hF0,h⟩:=zL.1 h;obtain⟨b,W,h⟩:=zL.1 h;obtain⟨⟨l,Y2⟩,hbo,h⟩:=zL.1 h;simp only at h hbo;unfold C2 at h;split at h
 case isFalse=>cases h
 rename_i hlen;injection h with h
 injection h with e1 h;injection h with e2 e3;subst e1;subst e2;subst e3;obtain⟨S1,k1,hz1,hSS⟩:=yW (dr:=dr) B I8 hz';obtain rfl:=hSS hno;obtain⟨zg2,hn,hE⟩:=hF aZ t r0 hF0;have hrp:=hu.Qn;obtain⟨hid,rfl⟩:=hu.kW;have o:=B.live id b W;obtain⟨E,X,Gs,b0,K,y,hinv,hG0,zg3,hD,hp2n,hp2s⟩:∃(E:Hp) (X:Nat) (Gs:Nat->GI) (b0:Blk) (K:Hp->Hp),Zd T U E X l b0 K/\Inv C.P w S1 Gs E X/\Gs 0=G id /\
   (∀x,jv E Gs x->jv hpx G x)/\(∀k c,Y2 k=some c->k≠id->hpx k=some c/\¬jv E Gs (G k).g)/\True/\True:=by
  rcases VP hbo with⟨rfl,rfl,rfl⟩|⟨m,hmid,rfl,hm,rfl⟩
  ·have J:∀k c,zI (fun _=>none) 0 (some (Wo T)) k=some c->k=0/\c=Wo T:=by
    intro k c a;unfold zI at a;split at a
    ·injection a with a;exact⟨by assumption,a.symm⟩
    ·cases a
   refine⟨_,_,fun _=>G id,_,_,Zd.new T U,⟨B.st,fun k c a=>by rw[(J k c a).1];omega,fun k c a=>?_,fun k c a=>?_,fun k k' c c' a L _=>by rw[(J k c a).1,(J k' c' L).1],B.aH⟩,rfl,?_,fun k c a H=>⟨a,?_⟩,trivial,trivial⟩
   ·rw[(J k c a).2];refine⟨o.bs,fun p=>⟨o.size p,o.len p,o.fit p,?_⟩,o.I4⟩;obtain⟨cur,q1,q2,q3⟩:=o.row p;refine⟨cur,q1,q2,fun i j c pv n d=>?_⟩;obtain⟨u,N,q⟩:=q3 i j c pv n d;refine⟨u,N,fun h=>by simp[Wo]at h,?_,q.2.2⟩;have hc:wG w S1 pv u:=by
     have h6:=q.2.1;obtain rfl:i=0:=by have:=(zd.1 n).1;simpa[Wo]using this
     simp only[Wo,XN,qV]at n;subst n
     match j,d with
     | 0,d=>simp at d;subst d;cases h6 with|c h=>exact h
     | 1,d=>simp at d;subst d;cases h6 with|c h=>exact h
     |j+2,d=>simp at d
    exact .c hc
   ·exact B.apart id _ W
   ·rintro x ⟨k,c,a,rfl⟩;exact⟨id,_,W,rfl⟩
   ·rintro⟨k',c',L,Q⟩;exact H (B.inj k id c _ a W Q.symm)
  ·have J:∀k c,zI (zI (fun _=>none) 0 (some (vl T 0 1 l.length))) 1 (some (Yn U l)) k=some c->(k=0/\c=vl T 0 1 l.length)\/(k=1/\c=Yn U l):=by
    intro k c a;unfold zI at a;split at a
    ·injection a with a;exact .inr ⟨by assumption,a.symm⟩
    ·split at a
     ·injection a with a;exact .inl ⟨by assumption,a.symm⟩
     ·cases a
   have M:=B.live m _ hm;have hgne:(G id).g≠(G m).g:=fun Q=>hmid (B.inj m id _ _ hm W Q.symm)
   have g1:∀k,k=1->(fun k=>if k=0 then G id else G m) k=G m:=fun k a=>by subst a;rfl
   refine⟨_,_,fun k=>if k=0 then G id else G m,_,_,Zd.use T U l,⟨B.st,fun k c a=>?_,fun k c a=>?_,fun k c a=>?_,fun k k' c c' a L Q=>?_,B.aH⟩,rfl,?_,fun k c a H=>?_,trivial,trivial⟩
   ·rcases J k c a with⟨rfl,_⟩|⟨rfl,_⟩<;>omega
   ·rcases J k c a with⟨rfl,rfl⟩|⟨rfl,rfl⟩
    ·refine⟨o.bs,fun p=>⟨o.size p,?_,o.fit p,?_⟩,fun p=>(Nat.lt_irrefl 0 (by rw[zl rfl]at p;omega)).elim⟩
     ·intro c hc;have:=o.len p [.ref id 0 0,.own m 0 l.length] (by simp[vl]);simp only[vl,yf]at hc;subst hc;simpa using this
     ·obtain⟨cur,q1,q2,q3⟩:=o.row p;refine⟨cur,q1,q2,fun i j c pv n d=>?_⟩;obtain rfl:i=0:=by have:=(zd.1 n).1;simpa[vl]using this
      simp only[vl,XN,qV]at n;subst n
      match j,d with
      | 0,d=>obtain⟨u,N,q⟩:=q3 0 0 _ (.ref id 0 0) (by simp[vl];rfl) rfl;simp at d;subst d;refine⟨u,N,fun h=>by simp[vl]at h,?_,q.2.2⟩;obtain⟨_,rfl⟩:=q.2.1.kW;exact qg.ref (G:=fun k=>if k=0 then G id else G m) (id:=0) (by omega) q.2.1.Qn
      | 1,d=>obtain⟨u,N,q⟩:=q3 0 1 _ (.own m 0 l.length) (by simp[vl];rfl) rfl;simp at d;subst d;refine⟨u,N,fun h=>by simp[vl]at h,?_,q.2.2⟩;obtain⟨cap,a1,a2,a3,a4,rfl⟩:=q.2.1.vO;exact qg.own (G:=fun k=>if k=0 then G id else G m) (id:=1) (by omega) a2 a3 a4 q.2.1.xl
      |j+2,d=>simp at d
    ·refine⟨M.bs,fun p=>⟨M.size p,M.len p,M.fit p,?_⟩,M.I4⟩;obtain⟨cur,q1,q2,q3⟩:=M.row p;refine⟨cur,q1,q2,fun i j c pv n d=>?_⟩;obtain⟨u,N,q⟩:=q3 i j c pv n d;exact⟨u,N,q.1,.c (q.1 rfl),q.2.2⟩
   ·rcases J k c a with⟨rfl,rfl⟩|⟨rfl,rfl⟩
    ·exact B.apart id _ W
    ·exact B.apart m _ hm
   ·rcases J k c a with⟨rfl,rfl⟩|⟨rfl,rfl⟩<;>rcases J k' c' L with⟨rfl,rfl⟩|⟨rfl,rfl⟩
    ·rfl
    ·exact(hgne Q).elim
    ·exact(hgne Q.symm).elim
    ·rfl
   ·rintro x ⟨k,c,a,rfl⟩;rcases J k c a with⟨rfl,rfl⟩|⟨rfl,rfl⟩
    ·exact⟨id,_,W,rfl⟩
    ·exact⟨m,_,hm,rfl⟩
   ·have hkm:k≠m:=by rintro rfl;simp at a
    refine⟨jK a,?_⟩;rintro⟨k',c',L,Q⟩;rcases J k' c' L with⟨rfl,rfl⟩|⟨rfl,rfl⟩
    ·exact H (B.inj k id c _ (jK a) W Q.symm)
    ·exact hkm (B.inj k m c _ (jK a) hm Q.symm)
 obtain⟨hpe,nxe,m',hef,he0,I⟩:=hE _ _ _ _ _ y hlen;have hz2:Zip (qg w S1 Gs X) (.ref 0 0 0::aZ) (.pointer (some ⟨(G id).g,0*(G id).s+0,none⟩)::us):=
  .cons (by rw[<-hG0];exact .ref y.pos (by rw[hG0];exact hrp)) hz1.closed
 refine(XX hg.spec hg.quiet hg.box hg.iter hg.mixed a.func a.body a.ok hef hinv hz2 (by simpa using hn)).mono fun e w' hh=>?_
 obtain⟨v,S',G',Q,k,J⟩:=hh;have z:G' 0=G id:=by rw[k.loc 0 y.pos,hG0]
 have hm0:m'≠0:=by rintro rfl;rw[he0]at I;injection I with I;have:=jy Blk.arr I;simp[vl,Yn]at this
 have hsub:∀k c,zI Y2 id none k=some c->hpx k=some c/\¬jv E Gs (G k).g:=fun k c a=>by
  have H:k≠id:=by rintro rfl;simp at a
  exact hD k c (jK a) H
 have kk:=gZ (dr:=dr) (D:=jv E Gs) (Y2:=zI Y2 id none) B hsub zg3 k.fr k.inv k.kO k.from_ I rfl (k.own m' _ I);have A:zI G Z (G' m') id=G id:=zc _ _ _ _ (by omega);have R:=k.inv.live 0 _ he0;have PZ:=kk.na (id:=id) (b:=vl T id Z (l++t).length) W hid ?_ ?_ ?_
 ·have hpe':zI (zI (zI Y2 id none) Z (some (Yn U (l++t)))) id (some (vl T id Z (l++t).length))=zI (zI Y2 Z (some (Yn U (l++t)))) id (some (vl T id Z (l++t).length)):=by
   funext j;by_cases h1:j=id
   ·subst h1;simp
   ·rw[zc _ _ _ _ h1,zc _ _ _ _ h1];by_cases h2:j=Z
    ·subst h2;simp
    ·rw[zc _ _ _ _ h2,zc _ _ _ _ h2,zc _ _ _ _ h1]
  rw[hpe']at PZ;exact⟨v,_,_,Q,PZ,.c (C3 J zg2)⟩
 ·rw[A,<-z];refine⟨R.bs,fun p=>⟨R.size p,?_,R.fit p,?_⟩,fun p=>by rw[z]at p;omega⟩
  ·intro c hc;have:=R.len p [.ref 0 0 0,.own m' 0 (l++t).length] (by simp[vl]);simp only[vl,yf]at hc;subst hc;simpa using this
  ·obtain⟨cur,q1,q2,q3⟩:=R.row p;refine⟨cur,q1,q2,fun i j c pv n d=>?_⟩;obtain rfl:i=0:=by have:=(zd.1 n).1;simpa[vl]using this
   simp only[vl,XN,qV]at n;subst n
   match j,d with
   | 0,d=>obtain⟨u,N,q⟩:=q3 0 0 _ (.ref 0 0 0) (by simp[vl];rfl) rfl;simp at d;subst d;refine⟨u,N,fun h=>by simp[vl]at h,?_,q.2.2⟩;obtain⟨_,rfl⟩:=q.2.1.kW;have:=qg.ref (w:=w') (S:=S') (G:=zI G Z (G' m')) (Z:=Z+1) (id:=id) (i:=0) (j:=0) (by omega) (by rw[A];exact hrp);rw[A]at this;rw[z];exact this
   | 1,d=>obtain⟨u,N,q⟩:=q3 0 1 [.ref 0 0 0,.own m' 0 (l++t).length] (.own m' 0 (l++t).length) (by simp[vl]) rfl;injection d with d;subst d;exact⟨u,N,fun h=>by simp[vl]at h,hC q.2.1,q.2.2⟩
   |j+2,d=>simp at d
 ·rw[A,<-z];exact k.inv.apart 0 _ he0
 ·intro j c d H;rw[A];by_cases hjn:j=Z
  ·subst hjn;simp only[qU];rw[<-z];exact fun he'=>hm0 (k.inv.inj m' 0 _ _ I he0 he')
  ·rw[zc _ _ _ _ hjn]at d⊢;obtain⟨a1,a2⟩:=hsub j c d;exact fun he'=>H (B.inj j id c b a1 W he')
end
end Go.AM
namespace Go.Q
theorem Ma:Lh prog 9=true:=by kernel_rfl
theorem EY:tC prog 5=true:=by kernel_rfl
def hCC:AM.Spec:=fun args Y Z=>match args with
 |[.ref id 0 0]=>match Y id with
  |some b=>if b.e=38/\b.s=2/\b.arr=false then match b.es with
    |[[.v (.pointer none),x]]=>some (.qZ [],zI Y id (some ⟨38,2,false,[[.ref id 0 0,x]]⟩),Z)
    |[[.ref i 0 0,_]]=>if i=id then some (.qZ [],Y,Z)else none
    |_=>none
   else none
  |none=>none
 |_=>none
def C4:AM.Spec:=fun args Y Z=>match args with
 |[.ref id 0 0]=>(Y id).bind fun b=>(XB 38 5 Y id b).bind fun s=>if s.1.length=0 then none else some (str s.1,zI s.2 id none,Z)
 |_=>none
theorem GQ(w:World)(a:Addr)(p:Option Addr)(v:Value)(h:w.cell? a=some v)(b:w.frozen? a=false):(Instr.storeAt 35 (.pointer (some a)) (.pointer p)).run prog w=.ok () (w.setCell a (.pointer p)):=by
 have c:=isAgg35;have d:=sizeOf35;simp[Instr.storeAt,storeVar,Instr.sureAddr,c,d];have e:a.add 0=a:=by simp[Addr.add]
 simp[Value.cells,storeCells,run_store_pointer,stored,e,h,b]
theorem za4:(prog.info? 38).map (·.size)=some 2:=by kernel_rfl
theorem Mb:prog.cellsOf 38=2:=by kernel_rfl
theorem Mc(d count:Nat)(h:1<=count):liesAt prog (d+1) 38 count 0 38 1=true:=by
 have hd:∃k,prog.depth=k+1:=⟨2*(prog.types.size+Made.depth)+1,rfl⟩;obtain⟨k,a⟩:=hd;have hs:sameLayout prog (k+1) 38 38=true:=by simp[sameLayout]
 simp only[liesAt,a,rowAt,Mb];simp[hs,h]
theorem R9(b:Nat)(w:World)(h0:w.cell? ⟨b,0,none⟩=some (.pointer (some ⟨b,0,none⟩))):Calls prog 23 #[.pointer (some ⟨b,0,none⟩)] w fun e w'=>e=.returned (.tuple #[])/\w'=w:=by
 obtain⟨j,hj,_⟩:=WG.1 za4
 go_enter func23,Tryz.ntmps23
 go_wp2
 rw[Lib.run_neq_ptr_same w _ underlying35 hj]
 go_wp2
 go_end0
 exact⟨rfl,rfl⟩
theorem Md(b z:Nat)(w:World)(h0:w.cell? ⟨b,0,none⟩=some (.pointer none))(hsh:w.shape? b=some (38,z))(hz:2<=z)(hfz:w.frozen? ⟨b,0,none⟩=false) :
  Calls prog 23 #[.pointer (some ⟨b,0,none⟩)] w fun e w'=>e=.returned (.tuple #[])/\w'=w.setCell ⟨b,0,none⟩ (.pointer (some ⟨b,0,none⟩)):=by
 obtain⟨j,hj,hjs⟩:=WG.1 za4;have hlies:liesAt prog prog.depth 38 (z/prog.cellsOf 38) 0 38 1=true:=by rw[Mb];exact Mc (2*(prog.types.size+Made.depth)+1) _ (by omega)
 go_enter func23,Tryz.ntmps23
 go_wp2
 rw[Lib.run_to_unsafe w ⟨b,0,none⟩ underlying35 underlying99 hj (by rw[hjs];decide) hsh (by show 0<z;omega)];simp only[Result.andThen];rw[Oper.upon_value]
 go_wp2
 rw[run_callFunc_extern func39 (by kernel_rfl) (by kernel_rfl) (by kernel_rfl) (e:=Extern.AbiNoEscape.same) (by kernel_rfl),Lib.run_noEscape];simp only[Result.andThen];rw[Oper.upon_value]
 go_wp2
 rw[Lib.run_from_unsafe w ⟨b,0,none⟩ underlying99 underlying35 hj hsh hlies];simp only[Result.andThen];rw[Oper.upon_value]
 go_wp2
 go_end0
 exact⟨rfl,rfl⟩
theorem Me:zh prog 23 hCC:=by
 refine⟨⟨_,func23,by kernel_rfl,by kernel_rfl⟩,?_⟩;intro args Y Z r Y' Z' h w S G vs t hz;unfold hCC at h;split at h
 case h_2=>cases h
 rename_i id;obtain⟨u,us,rfl,A,B⟩:=hz.jr;have C:us=[]:=wI (by simpa using B.1.symm);subst C;have l:=A;have n:=A.Qn;obtain⟨hid,rfl⟩:=A.kW;simp only[Nat.zero_mul,xU]at l⊢;split at h
 case h_2=>cases h
 rename_i b Q;split at h
 case isFalse=>cases h
 rename_i hc;obtain⟨R,T,U⟩:=hc;obtain⟨e,s,a,es⟩:=b;simp only at R T U h;subst R;subst T;subst U;have m:=t.live id _ Q;have D:(G id).s=2:=m.bs.symm;obtain⟨cur,E,q2,W⟩:=m.row n;have o:=m.fit n;have p:w.frozen? ⟨(G id).g,0,none⟩=false:=by simp[World.frozen?,E]
 have d:∀j,w.cell? ⟨(G id).g,j,none⟩=cur[j]?:=fun j=>by simp[World.cell?,E]
 split at h
 ·rename_i x;injection h with h
  injection h with F h;injection h with H I;subst F;subst H;subst I;obtain⟨u0,J,K⟩:=W 0 0 [.v (.pointer none),x] (.v (.pointer none)) rfl rfl;obtain⟨rfl,_⟩:=K.2.1.wZ;have f:w.cell? ⟨(G id).g,0,none⟩=some (.pointer none):=by rw[d];simpa using J
  simp only[vt,D]at o;have L:w.shape? (G id).g=some (38,(G id).z):=by simp[World.shape?,E,q2]
  have M:xp prog Y 35 (.ref id 0 0) (.ref id 0 0)=some (zI Y id (some ⟨38,2,false,[[.ref id 0 0,x]]⟩)):=by simp[xp,Q]
  obtain⟨X,S',G',q,k⟩:=gz (dr:=True) t M l l;rw[GQ w _ _ _ f p]at q;injection q with _ q;subst q;refine(Md (G id).g (G id).z w f L (by omega) p).mono fun e X N=>?_
  obtain⟨rfl,rfl⟩:=N;exact⟨_,_,_,rfl,k,.c (.qZ rfl (by simp))⟩
 ·rename_i i y;split at h
  case isFalse=>cases h
  rename_i P;subst P;injection h with h
  injection h with F h;injection h with H I;subst F;subst H;subst I;obtain⟨u0,J,K⟩:=W 0 0 [.ref i 0 0,y] (.ref i 0 0) rfl rfl;obtain⟨_,rfl⟩:=K.2.1.kW;have f:w.cell? ⟨(G i).g,0,none⟩=some (.pointer (some ⟨(G i).g,0,none⟩)):=by rw[d];simpa using J
  refine(R9 (G i).g w f).mono fun e X N=>?_
  obtain⟨rfl,rfl⟩:=N;exact⟨_,_,_,rfl,kd.refl t,.c (.qZ rfl (by simp))⟩
 ·cases h
theorem Mf(b g cap z:Nat)(p:Value)(l:za)(cb cg:Array Value)(w:World)(h0:l≠[])(hb:w.heap[b]?=some (.cells cb 38 (0,0)))(hcb:cb[1]?=some (.slice (some ⟨g,0,none⟩) l.length cap))(hg:w.heap[g]?=some (.cells cg 5 (0,0)))
  (hcap:l.length<=cap) (hz:cg.size=z) (hlz:l.length<=z) (hlc:l.length<=maxLen) (hcg:∀(j:Nat) (x:UInt8),l[j]?=some x->cg[j]?=some (Value.int .u8 x.toNat)) :
  Calls prog 14 #[.pointer (some ⟨b,0,none⟩)] w fun e w'=>e=.returned (.string ⟨l.toArray⟩)/\w'=w.drew.freeze ⟨g,0,none⟩ l.length:=by
 have c1:w.drew.cell? ⟨b,1,none⟩=some (.slice (some ⟨g,0,none⟩) l.length cap):=by have:w.drew.heap[b]?=some (.cells cb 38 (0,0)):=hb;rw[Lib.cell_of_heap this];exact hcb
 have hSD:(Builtin.unsafeSliceData_ #[36] 83 #[.slice (some ⟨g,0,none⟩) l.length cap]).run prog w.drew=.ok (.pointer (some ⟨g,0,none⟩)) w.drew:=
  Lib.run_unsafeSliceData_row _ _ _ _ _ _ (fun e=>h0 (wI (by omega)))
 have hUS:(Builtin.unsafeString_ #[83,3] 9 #[.pointer (some ⟨g,0,none⟩),.int .i64 l.length]).run prog w.drew=.ok (.string ⟨l.toArray⟩) (w.drew.freeze ⟨g,0,none⟩ l.length):=by refine Lib.run_unsafeString_row w.drew 83 3 9 5 underlying83 (by kernel_rfl) g cg.size (by have hg':w.drew.heap[g]?=some (.cells cg 5 (0,0)):=hg;simp[World.shape?,hg']) l h0 (by omega) (by unfold maxLen at hlc;omega) ?_;intro j x hx;have hg':w.drew.heap[g]?=some (.cells cg 5 (0,0)):=hg;rw[show((⟨g,0,none⟩:Addr).add j)=⟨g,j,none⟩from by rw[Xk,zu],Lib.cell_of_heap hg'];exact hcg j x hx
 have hmixed:=mixed
 go_enter func14,Tryz.ntmps14
 go_wp2
 go_region_o
 all_goals (go_wp2;go_ret;exact⟨rfl,rfl⟩)
theorem GR{dr:Prop}(w:World)(p:Addr)(n:Nat):Fr dr w (fun b=>b=p.block) (w.drew.freeze p n):=by
 unfold World.freeze;split
 ·exact Fr.drew w _
 ·exact⟨rfl,rfl,rfl,by simp,fun _=>yJ _,fun k _ a=>by simp only[];rw[Zz,zj (fun e=>a e.symm)];rfl⟩
theorem dT:zh prog 14 C4:=by
 refine⟨⟨_,func14,by kernel_rfl,by kernel_rfl⟩,?_⟩;intro args Y Z r Y' Z' h w S G vs d M;unfold C4 at h;split at h
 case h_2=>cases h
 rename_i id;obtain⟨u,us,rfl,H,q⟩:=M.jr;have t:us=[]:=wI (by simpa using q.1.symm);subst t;have y:=H.Qn;obtain⟨hid,rfl⟩:=H.kW;simp only[Nat.zero_mul,xU];obtain⟨b,N,h⟩:=zL.1 h;obtain⟨⟨l,Y1⟩,A,h⟩:=zL.1 h;simp only at h;split at h
 case isTrue=>cases h
 rename_i I;injection h with h
 injection h with P h;injection h with Q R;subst P;subst Q;subst R;rcases VP A with⟨_,rfl,_⟩|⟨m,J,rfl,p,rfl⟩
 ·exact(I rfl).elim
 have f:=d.live id _ N;obtain⟨cur,T,q2,U⟩:=f.row y;obtain⟨u1,W,K⟩:=U 0 1 [.ref id 0 0,.own m 0 l.length] (.own m 0 l.length) rfl rfl;have B:=K.2.1.xl;obtain⟨cap,a1,X,a3,a4,rfl⟩:=K.2.1.vO;have i:=d.live m _ p;obtain⟨cg,p1,p2,p3⟩:=i.row B;have n:(G m).s=1:=i.bs.symm;have hs2:(G id).s=2:=f.bs.symm;rw[n]at a4;refine(Mf (G id).g (G m).g cap (G m).z (.pointer none) l cur cg w (fun e=>I (by rw[e];rfl)) T (by simpa using W) p1 X p2 (by omega) (by omega) (fun j x hx=>?_)).mono fun e w' hh=>?_
 ·obtain⟨u,L,g2⟩:=p3 j 0 (fa x) (.v (.int .u8 x.toNat)) (by simp[Yn,hx]) rfl;obtain⟨rfl,_⟩:=g2.2.1.wZ;rw[n]at L;simpa using L
 ·obtain⟨rfl,rfl⟩:=hh;have C:=GR (dr:=True) w ⟨(G m).g,0,none⟩ l.length;have hS:∀b,S b->S b/\(w.drew.freeze ⟨(G m).g,0,none⟩ l.length).heap[b]?=w.heap[b]?:=fun b a=>⟨a,C.block b (d.st b a) fun e=>d.apart m _ p ((show b=(G m).g from e) ▸ a)⟩
  have k:=VN (dr:=True) (D:=fun b=>b=(G m).g) (Y2:=zI (zI Y m none) id none) (S':=S) (G':=G) (hpe:=fun _=>none) (nxe:=0) d (fun k c o=>by
   have E:k≠id:=by rintro rfl;simp at o
   rw[zc _ _ _ _ E]at o;have F:k≠m:=by rintro rfl;simp at o
   exact⟨jK o,fun e=>F (d.inj k m c _ (jK o) p e)⟩) (fun b a=>⟨m,_,p,a.symm⟩) C
   (Y7 G (fun b a=>wV (d.st b a) C.size) (d.aH.mono hS)) (fun _ h=>h) (fun _ h=>.inl h)
  exact⟨_,_,_,rfl,k,.c (.v rfl)⟩
noncomputable def Rr:zb->Option (za×O):=qt (α:=za) (fun s=>[str s]) (fun s=>s≠[]) (fun s=>(s,.qZ [int s.length,.v .nilIface]))
noncomputable def Sa:zb->Option (za×O):=qt (α:=UInt8) (fun c=>[.v (.int .u8 c.toNat)]) (fun _=>True) (fun c=>([c],.v .nilIface))
noncomputable abbrev Sb:Ctx:=qf prog [(23,hCC)]
theorem C5:Gd Sb:=qD mixed ⟨Me,trivial⟩
theorem VB:zh prog 9 (vm 38 5 Rr):=
 ZE (code:=_) C5 ⟨func9,by kernel_rfl,rfl,by kernel_rfl⟩ _ _ Rr fun xs t r h=>by
  obtain⟨s,rfl,hs,e⟩:=qc h;injection e with k n;subst k;subst n;refine⟨rfl,by simp[Tryz.f9],fun Y Z l q K c a=>QV rfl ?_⟩;have j:=c.pos;have o:=KF.2 hs;have n0:¬0=Z:=by omega
  have n1:¬Z=0:=by omega
  have b:l.length+t.length<=maxLen:=by simp only[maxLen];omega
  rcases VP (c.ok Y fun _ _=>rfl)with⟨rfl,rfl,_⟩|⟨m,d,rfl,p,_⟩
  ·have f:Y 0=some ⟨38,2,false,[[.v (.pointer none),.nil]]⟩:=c.at0;simp only[zf,zu]at a b;simp[f,n0,n1,hCC,jG,Ma,EY,hs,a,b,Tryz.f9,vl,Yn,fa]
  ·have f:Y 0=some ⟨38,2,false,[[.ref 0 0 0,.own m 0 l.length]]⟩:=c.at0;have g:¬0=m:=fun e=>d e.symm
   have i:Y m=some ⟨5,1,true,l.map fa⟩:=p;simp[f,n0,n1,hCC,i,g,jG,Ma,EY,a,b,Tryz.f9,vl,Yn,fa]
theorem bn:zh prog 45 (vm 38 5 Sa):=
 ZE (code:=_) C5 ⟨func45,by kernel_rfl,rfl,by kernel_rfl⟩ _ _ Sa fun xs t r h=>by
  obtain⟨c,rfl,_,e⟩:=qc h;injection e with p q;subst p;subst q;refine⟨rfl,by simp[f45],fun Y Z l s K b a=>QV rfl ?_⟩;have n:=b.pos;have n0:¬0=Z:=by omega
  have n1:¬Z=0:=by omega
  simp only[vt]at a;have d:l.length+1<=maxLen:=by simp only[maxLen];omega
  rcases VP (b.ok Y fun _ _=>rfl)with⟨rfl,rfl,_⟩|⟨m,f,rfl,o,_⟩
  ·have g:Y 0=some ⟨38,2,false,[[.v (.pointer none),.nil]]⟩:=b.at0;simp[g,n0,n1,hCC,jG,AM.view,zy,zR,zw,maxLen,f45,vl,Yn,fa]
  ·have g:Y 0=some ⟨38,2,false,[[.ref 0 0 0,.own m 0 l.length]]⟩:=b.at0;have i:Y m=some ⟨5,1,true,l.map fa⟩:=o;have j:¬0=m:=fun e=>f e.symm
   have k:¬m=Z:=by have:=b.top m _ o;omega
   simp[g,n0,n1,hCC,i,j,k,jG,AM.view,zy,zR,zw,a,d,f45,vl,Yn,fa]
theorem EZ(Y:Hp)(Z id m n:Nat)(h:Y id=some (vl 38 id m n)):yc Sb f13 [.ref id 0 0] Y Z=some (int n,Y,Z):=by
 unfold yc;rw[zl (by simp[f13])];obtain⟨x,Y',Z',a,b,c,d⟩:∃x Y' Z',yR Sb f13 [.ref id 0 0] Y Z=some (x,Y',Z')/\x=int n/\Y'=Y/\Z'=Z:=by have e:Y id=some ⟨38,2,false,[[.ref id 0 0,.own m 0 n]]⟩:=h;refine wB rfl ?_;simp[e,f13]
 rw[a,b,c,d]
theorem pR:zh prog 13 (yc Sb f13):=Zg C5 func13
theorem iw(Y:Hp)(Z id m:Nat)(l:za)(h:Y id=some (vl 38 id m l.length))(b:Y m=some (Yn 5 l))(c:l≠[])(a:m≠id):C4 [.ref id 0 0] Y Z=some (str l,zI (zI Y m none) id none,Z):=by simp[C4,h,b,c,a]
end Go.Q
namespace Go.AM
def eQ(T U:TypeId)(Y:Hp)(Z m:Nat)(cur:za):Prop:=Y 0=some (vl T 0 m cur.length)/\Y m=some (Yn U cur)/\m≠0/\m<Z
theorem eQ.put{T U:TypeId}{Y Y1:Hp}{Z m:Nat}{cur t:za}{F:zb->Option (za×O)}{rest b:zb}{r:O}(B:eQ T U Y Z m cur)(c:zz Y rest=some (b,Y1))(d:rest.all O.noOwn=true)(e:F b=some (t,r))(f:cur.length+t.length<=140737488355328) :
  ∃Y',vm T U F (.ref 0 0 0::rest) Y Z=some (r,Y',Z+1)/\eQ T U Y' (Z+1) Z (cur++t)/\∀j,j≠0->j≠m->j≠Z->Y' j=Y j:=by
 obtain⟨g,h,a,i⟩:=B;have n1:Z≠0:=by omega
 refine⟨_,by rw[fK c d e,g];simp[cT,a,h,C2,f];rfl,⟨by simp,?_,n1,by omega⟩,fun j k l n=>?_⟩
 ·rw[zc _ _ _ _ n1];simp
 ·rw[zc _ _ _ _ k,zc _ _ _ _ n,zc _ _ _ _ l]
theorem eQ.same{T U:TypeId}{Y Y':Hp}{Z Z' m:Nat}{cur:za}(B:eQ T U Y Z m cur)(e:Z<=Z')(h:∀j,j<Z->Y' j=Y j):eQ T U Y' Z' m cur:=by obtain⟨c,d,a,b⟩:=B;exact⟨by rw[h 0 (by omega),c],by rw[h m b,d],a,by omega⟩
theorem eQ.ends{T U:TypeId}{Y:Hp}{Z m n:Nat}{cur l:za}(B:eQ T U Y Z m cur)(h:l=cur)(a:n=l.length):∃m,Y 0=some (vl T 0 m n)/\Y m=some (Yn U l):=⟨m,by rw[a,h];exact B.1,by rw[h];exact B.2.1⟩
theorem Zd.put{T U:TypeId}{Y h Y1:Hp}{Z Z':Nat}{l t:za}{b0:Blk}{K:Hp->Hp}{F:zb->Option (za×O)}{rest c:zb}{r:O}(b:Zd T U Y Z l b0 K)(o:Z<=Z')(d:∀j,j<Z->h j=Y j)
  (e:zz h rest=some (c,Y1)) (f:rest.all O.noOwn=true) (g:F c=some (t,r)) (i:l.length+t.length<=140737488355328) :
  ∃Y',vm T U F (.ref 0 0 0::rest) h Z'=some (r,Y',Z'+1)/\eQ T U Y' (Z'+1) Z' (l++t)/\∀j,Z<=j->j≠Z'->Y' j=h j:=by
 have a:=b.pos;have n1:Z'≠0:=by omega
 have k:h 0=some b0:=by rw[d 0 a,b.at0]
 refine⟨_,by rw[fK e f g,k];simp[b.ok h d,C2,i];rfl,⟨by simp,?_,n1,by omega⟩,fun j m n=>?_⟩
 ·rw[zc _ _ _ _ n1];simp
 ·rw[zc _ _ _ _ (by omega),zc _ _ _ _ n,b.kO _ _ m]
theorem iy{T U:TypeId}{h Y1:Hp}{id Z':Nat}{t:za}{F:zb->Option (za×O)}{rest a:zb}{r:O}(b:h id=some (Wo T))(n1:Z'≠id)
  (c:zz h rest=some (a,Y1)) (d:rest.all O.noOwn=true) (e:F a=some (t,r)) (f:t.length<=140737488355328) :
  ∃Y',vm T U F (.ref id 0 0::rest) h Z'=some (r,Y',Z'+1)/\Y' id=some (vl T id Z' t.length)/\Y' Z'=some (Yn U t)/\∀j,j≠id->j≠Z'->Y' j=h j:=by
 refine⟨_,by rw[fK c d e,b];simp[C2,f];rfl,by simp,?_,fun j g i=>?_⟩
 ·rw[zc _ _ _ _ n1];simp
 ·rw[zc _ _ _ _ g,zc _ _ _ _ i]
end Go.AM
namespace Go.PrLaw
open Go
def QE:za->za
 |[]=>[]
 |c::l=>if(c==34||c==92)=true then 92::c::QE l else c::QE l
def ju(s:za):za:=34::(QE s++[34])
theorem Mg(s:za):(QE s).length<=2*s.length:=by
 induction s with
 |nil=>simp[QE]
 |cons x l a=>simp only[QE];split<;>simp<;>omega
theorem K2(s:za):(ju s).length<=2*s.length+2:=by have:=Mg s;simp[ju];omega
def yX(r:Nat):za:=Lib.trimRightB ((Lib.decDigits (1000+r)).drop 1) 48
def QW(n:Int):za:=(if n<0 then[45]else[])++(Lib.decDigits (n.natAbs/1000)++if n.natAbs % 1000=0 then[]else 46::yX (n.natAbs % 1000))
theorem dec_lt{u:Nat}(h:u<10):Lib.decDigits u=[UInt8.ofNat (48+u)]:=by rw[Lib.decDigits,dif_pos h]
theorem X0{u:Nat}(h:10<=u):Lib.decDigits u=Lib.decDigits (u/10)++[UInt8.ofNat (48+u % 10)]:=by rw[Lib.decDigits,dif_neg (by omega)]
theorem Wx{r:Nat}(h:r<1000):(Lib.decDigits (1000+r)).drop 1=[UInt8.ofNat (48+r/100),UInt8.ofNat (48+r/10 % 10),UInt8.ofNat (48+r % 10)]:=by rw[X0 (by omega),X0 (u:=(1000+r)/10) (by omega),X0 (u:=(1000+r)/10/10) (by omega),dec_lt (u:=(1000+r)/10/10/10) (by omega)];simp only[qC,ye,jt,w8];rw[show(1000+r)/10/10 % 10=r/100 from by omega,show(1000+r)/10 % 10=r/10 % 10 from by omega,show(1000+r) % 10=r % 10 from by omega]
theorem fL{d:Nat}(h:d<10):(UInt8.ofNat (48+d)==48)=decide (d=0):=by rw[wO];simp only[w7,z6,<-yg,UInt8.toNat_ofNat'];rw[fF (by omega)];show 48+d=48↔d=0;omega
theorem gq:∀(k u:Nat),u<10 ^ (k+1)->(Lib.decDigits u).length<=k+1
 | 0,u,h=>by rw[dec_lt (by simpa using h)];simp
 |k+1,u,h=>by
  by_cases a:u<10
  ·rw[dec_lt a];simp
  ·rw[X0 (by omega),zt];have:=gq k (u/10) (by rw[s8]at h;omega);simp;omega
theorem K3(u:Nat):Lib.decDigits u≠[]:=by
 by_cases h:u<10
 ·rw[dec_lt h];simp
 ·rw[X0 (by omega)];simp
theorem Mh(l:za)(c:UInt8):(Lib.trimRightB l c).length<=l.length:=by unfold Lib.trimRightB;have:=(List.dropWhile_sublist (l:=l.reverse) (·==c)).length_le;simpa using this
theorem iz{r:Nat}(h:r<1000):(yX r).length<=3:=by have:=Mh ((Lib.decDigits (1000+r)).drop 1) 48;rw[Wx h]at this;unfold yX;rw[Wx h];simpa using this
theorem GU{n:Int}(a:-1000000000000000<n)(b:n<1000000000000000):(QW n).length<=17:=by
 unfold QW;have d:=gq 11 (n.natAbs/1000) (by omega);have p:=iz (r:=n.natAbs % 1000) (by omega);rw[zt,zt];have c:(if n<0 then([45]:za)else[]).length<=1:=by split<;>simp
 have e:(if n.natAbs % 1000=0 then([]:za)else 46::yX (n.natAbs % 1000)).length<=4:=by split<;>simp<;>omega
 omega
def Yx(sep:za)(k:Nat)(l:List za):za:=if k=0 then Lib.join l sep else Lib.joinTail sep l
theorem WK(sep:za)(k:Nat):Yx sep k []=[]:=by unfold Yx;split<;>rfl
theorem JS(sep:za)(k:Nat)(x:za)(l:List za):Yx sep k (x::l)=(if k=0 then[]else sep)++(x++Yx sep (k+1) l):=by
 unfold Yx;rw[zj (Nat.succ_ne_zero k)];split
 ·rw[tw,ye]
 ·simp[Lib.joinTail]
theorem bo(sep:za):∀l:List za,(Lib.joinTail sep l).length=(l.map fun x=>sep.length+x.length).sum
 |[]=>rfl
 |x::l=>by have:=bo sep l;unfold Lib.joinTail at this⊢;simp[this];omega
theorem bq(sep:za)(l:List za):(Lib.join l sep).length<=(l.map fun x=>sep.length+x.length).sum:=by
 cases l with
 |nil=>simp[Lib.join_nil]
 |cons x l=>rw[tw,zt,bo];simp
end Go.PrLaw
namespace Go.Q
inductive Val where
 |mk (kind n:Int) (s:List UInt8) (items:List Val) (fields:List (List UInt8×Val))
namespace Val
def kind:Val->Int|.mk k _ _ _ _=>k
def n:Val->Int|.mk _ n _ _ _=>n
def s:Val->za|.mk _ _ s _ _=>s
def items:Val->List Val|.mk _ _ _ l _=>l
def fields:Val->List (za×Val)|.mk _ _ _ _ l=>l
end Val
theorem Val.ind{P:Val->Prop}(h:∀k n s e g,(∀x∈e,P x)->(∀f∈g,P f.2)->P (.mk k n s e g))(v:Val):P v:=
 Val.rec (motive_1:=P) (motive_2:=fun l=>∀x∈l,P x) (motive_3:=fun l=>∀f∈l,P f.2) (motive_4:=fun f=>P f.2) (fun k n s e g i j=>h k n s e g i j)
  (by simp) (fun x l c d y b=>by rcases zx.1 b with rfl|b;(first|exact c|exact d y b);(first|exact c|exact d y b)) (by simp) (fun x l c d y b=>by rcases zx.1 b with rfl|b;(first|exact c|exact d y b);(first|exact c|exact d y b)) (fun a v m=>m) v
mutual
def Val.V:Val->zb
 | .mk k n s a b=>[int k,int n,str s,.sl 5 (F8 a),.sl 6 (F9 b)]
def F8:List Val->List zb
 |[]=>[]
 |v::l=>v.V::F8 l
def F9:List (za×Val)->List zb
 |[]=>[]
 |(a,v)::l=>(str a::v.V)::F9 l
end
abbrev wa(f:za×Val):zb:=str f.1::f.2.V
theorem oy:∀l:List Val,F8 l=l.map Val.V
 |[]=>rfl
 |v::l=>by simp[F8,oy l]
theorem oz:∀l:List (za×Val),F9 l=l.map wa
 |[]=>rfl
 |(a,v)::l=>by simp[F9,oz l]
theorem wW(v:Val):v.V=[int v.kind,int v.n,str v.s,.sl 5 (v.items.map Val.V),.sl 6 (v.fields.map wa)]:=by
 cases v with
 |mk k n s a b=>simp[Val.V,oy,oz,Val.kind,Val.n,Val.s,Val.items,Val.fields]
@[simp]theorem zb6(v:Val):v.V.length=5:=by rw[wW];rfl
@[simp]theorem oA(v:Val):v.V.all O.wY=true:=by rw[wW];rfl
@[simp]theorem zb7(v:Val):(∀x,x∈v.V->O.wY x=true)=True:=by have:=oA v;rw[zP]at this;exact eq_true this
@[simp]theorem zgd(v:Val):v.V.take 5=v.V:=qy (by simp)
@[simp]theorem ziE(v:Val)(h:0<v.V.length):v.V[0]=int v.kind:=by simp[wW v]
@[simp]theorem ziF(v:Val)(h:1<v.V.length):v.V[1]=int v.n:=by simp[wW v]
@[simp]theorem ziG(v:Val)(h:2<v.V.length):v.V[2]=str v.s:=by simp[wW v]
@[simp]theorem ziH(v:Val)(h:3<v.V.length):v.V[3]=.sl 5 (v.items.map Val.V):=by simp[wW v]
@[simp]theorem ziI(v:Val)(h:4<v.V.length):v.V[4]=.sl 6 (v.fields.map wa):=by simp[wW v]
theorem JT{α a:Type}{f:α->a}:∀{xs ys:List α},(∀x∈xs,∀y,f x=f y->x=y)->xs.map f=ys.map f->xs=ys
 |[],[],_,_=>rfl
 |[],y::ys,_,e=>by simp at e
 |x::xs,[],_,e=>by simp at e
 |x::xs,y::ys,h,e=>by simp only[zG,zi]at e;rw[h x (by simp) y e.1,JT (fun z b=>h z (by simp[b])) e.2]
theorem xN:∀{a b:Val},a.V=b.V->a=b:=by
 intro a
 induction a using Val.ind with
 |h k n s q r g i=>
  intro b e;cases b with
  |mk t u v j l=>
   simp only[wW,Val.kind,Val.n,Val.s,Val.items,Val.fields,zi,zF]at e;obtain⟨m,o,p,c,d⟩:=e;obtain rfl:=qE m;obtain rfl:=qE o;obtain rfl:=wT p;injection c with _ c
   injection d with _ d;obtain rfl:=JT (fun x f y=>g x f) c;obtain rfl:=JT (fun x f y e=>by simp only[wa,zi]at e;exact Prod.ext (wT e.1) (i x f e.2)) d
   rfl
mutual
def Val.vb:Val->Nat
 | .mk _ _ s a b=>1+s.length+kz a+ZU b
def kz:List Val->Nat
 |[]=>0
 |v::l=>v.vb+kz l
def ZU:List (za×Val)->Nat
 |[]=>0
 |(a,v)::l=>a.length+v.vb+ZU l
end
theorem ZN(v:Val):v.vb=1+v.s.length+kz v.items+ZU v.fields:=by cases v;rfl
theorem JU(v:Val):0<v.vb:=by rw[ZN];omega
theorem xh:∀{l:List Val} {x:Val},x∈l->x.vb<=kz l
 |y::l,x,h=>by
  simp only[kz];rcases zx.1 h with rfl|h
  ·omega
  ·have:=xh h;omega
theorem Wy:∀{l:List (za×Val)} {x:za×Val},x∈l->x.1.length+x.2.vb<=ZU l
 |(a,y)::l,x,h=>by
  simp only[ZU];rcases zx.1 h with rfl|h
  ·simp only;omega
  ·have:=Wy h;omega
theorem kf:∀l:List Val,l.length<=kz l
 |[]=>by simp[kz]
 |v::l=>by have:=kf l;have:=JU v;simp only[kz,ze];omega
theorem xx:∀l:List (za×Val),l.length<=ZU l
 |[]=>by simp[ZU]
 |(a,v)::l=>by have:=xx l;have:=JU v;simp only[ZU,ze];omega
noncomputable def FV (out:Val->O) (n:Nat):zb->Option O:=qt (α:=Val) (fun v=>[.agg v.V]) (fun v=>v.vb<=zD/\v.vb<=n) out
theorem zge(out:Val->O)(n:Nat)(v:Val)(h:v.vb<=zD/\v.vb<=n):FV out n [.agg v.V]=some (out v):=
 qj (V:=fun v:Val=>[.agg v.V]) (a:=v) (fun a b e=>by simp only[zi,zF,O.agg.injEq]at e;exact xN e) h
@[simp]theorem I0(Y:Hp)(v:Val):qm Y v.V=some (v.V,Y):=by rw[wW];simp
theorem QF(Y:Hp)(v:Val):z7 Y (.agg v.V)=some (.agg v.V,Y):=by rw[wW];simp
theorem Jc(v:Val):O.noOwn (.agg v.V)=true:=by rw[wW];simp
theorem fM(out:Val->O)(n:Nat)(v:Val)(Y:Hp)(Z:Nat)(h:v.vb<=zD/\v.vb<=n):hP (FV out n) [.agg v.V] Y Z=some (out v,Y,Z):=
 wL (Y1:=Y) (show zz Y [.agg v.V]=some ([.agg v.V],Y) by simp only[zz,QF]) (zge out n v h) (.inr (by simp only[yC,Jc,s9,gh]))
mutual
def Val.parts:Val->Nat
 | .mk _ _ _ a b=>1+ve a+vv b
def ve:List Val->Nat
 |[]=>0
 |v::l=>v.parts+ve l
def vv:List (za×Val)->Nat
 |[]=>0
 |(_,v)::l=>v.parts+vv l
end
mutual
def Val.levels:Val->Nat
 | .mk _ _ _ a b=>max (kH a) (kX b)+1
def kH:List Val->Nat
 |[]=>0
 |v::l=>max v.levels (kH l)
def kX:List (za×Val)->Nat
 |[]=>0
 |(_,v)::l=>max v.levels (kX l)
end
theorem Mi(v:Val):v.parts=1+ve v.items+vv v.fields:=by cases v;rfl
theorem GW(v:Val):v.levels=max (kH v.items) (kX v.fields)+1:=by cases v;rfl
theorem uo(v:Val):v.parts<=v.vb:=by
 induction v using Val.ind with
 |h k n s e f g i=>
  have a:∀l:List Val,(∀x∈l,x.parts<=x.vb)->ve l<=kz l:=by
   intro l
   induction l with
   |nil=>simp[ve]
   |cons v l c=>intro h;have:=h v (by simp);have:=c fun x d=>h x (by simp[d]);simp only[ve,kz];omega
  have b:∀l:List (za×Val),(∀x∈l,x.2.parts<=x.2.vb)->vv l<=ZU l:=by
   intro l
   induction l with
   |nil=>simp[vv]
   |cons v l c=>intro h;have:=h v (by simp);have:=c fun x d=>h x (by simp[d]);obtain⟨a,v⟩:=v;simp only[vv,ZU];simp only at *;omega
  have:=a e g;have:=b f i;simp only[Val.parts,Val.vb];omega
theorem oB(v:Val):v.levels<=v.parts:=by
 induction v using Val.ind with
 |h k n s e f g i=>
  have a:∀l:List Val,(∀x∈l,x.levels<=x.parts)->kH l<=ve l:=by
   intro l
   induction l with
   |nil=>simp[kH]
   |cons v l c=>intro h;have:=h v (by simp);have:=c fun x d=>h x (by simp[d]);simp only[kH,ve];omega
  have b:∀l:List (za×Val),(∀x∈l,x.2.levels<=x.2.parts)->kX l<=vv l:=by
   intro l
   induction l with
   |nil=>simp[kX]
   |cons v l c=>intro h;have:=h v (by simp);have:=c fun x d=>h x (by simp[d]);obtain⟨a,v⟩:=v;simp only[kX,vv];simp only at *;omega
  have:=a e g;have:=b f i;simp only[Val.parts,Val.levels];omega
noncomputable abbrev Cc (n:Nat):Ctx:=xv prog [(125,hP (FV (fun v=>.qZ [int v.parts,int v.levels]) n))] (ia 2 [(2,1)])
theorem vD{C:Ctx}{fn:Func}{code:Code}{args:zb}{Y:Hp}{Z:Nat}{x:O}{Y':Hp}{Z':Nat}(a:fn.body=some code)
  (h:Zs C code ⟨kM args,Y,Z⟩ (Xb C.P fn (fun y h m=>y=x/\h=Y'/\m=Z'))):yR C fn args Y Z=some (x,Y',Z'):=by
 obtain⟨y,c,n1,b,rfl,rfl,rfl⟩:=wB a h;exact b
theorem iA(n:Nat)(v:Val)(h:v.vb<=zD/\v.vb<=n)(Y:Hp)(Z i j:Nat)(s:i<Z)(t:j<Z)(b:i≠j)(p q:Nat)(c:Y i=some ⟨3,1,false,[[int p]]⟩)(d:Y j=some ⟨3,1,false,[[int q]]⟩)(f:p<=zD) :
  yc (Cc n) f152 [.agg v.V,.ref i 0 0,.ref j 0 0] Y Z =
   some (.qZ [],zI (zI (zI Y Z (some ⟨112,5,false,[v.V]⟩)) i (some ⟨3,1,false,[[int ((p+v.parts:Nat):Int)]]⟩)) j (some ⟨3,1,false,[[int ((max q v.levels:Nat):Int)]]⟩),Z+1):=by
 have g:=uo v;have k:=oB v;unfold zD at *;have l:=wN ((p:Int)+v.parts);unfold yc;rw[zl (by simp[f152])];refine vD rfl ?_;have a:=fun Y Z=>fM (fun v=>.qZ [int v.parts,int v.levels]) n v Y Z h
 have e:¬i=Z:=by omega
 have m:¬j=Z:=by omega
 have o:¬j=i:=by omega
 have r:(if q<v.levels then(v.levels:Int)else q)=((max q v.levels:Nat):Int):=by split<;>omega
 simp[a];rw[vA _ _ _ _ _ _ (ib (blk:=⟨3,1,false,[[int p]]⟩) (id:=j) (i:=0) (j:=0) (id':=i) (i':=0) (j':=0) (by simp) (by simp) (Ne.symm b) (by simp[e,c]) rfl) (fun _ h=>by cases h)];simp[c,d,e,m,o,b,l,r,f152]
theorem XC(a b:List Val):ve (a++b)=ve a+ve b:=by
 induction a with
 |nil=>simp[ve]
 |cons v a c=>simp only[qC,ve,c];omega
theorem iB(a b:List Val):kH (a++b)=max (kH a) (kH b):=by
 induction a with
 |nil=>simp[kH]
 |cons v a c=>simp only[qC,kH,c];omega
theorem XD(a b:List (za×Val)):vv (a++b)=vv a+vv b:=by
 induction a with
 |nil=>simp[vv]
 |cons v a c=>obtain⟨x,v⟩:=v;simp only[qC,vv,c];omega
theorem iC(a b:List (za×Val)):kX (a++b)=max (kX a) (kX b):=by
 induction a with
 |nil=>simp[kX]
 |cons v a c=>obtain⟨x,v⟩:=v;simp only[qC,kX,c];omega
theorem zgf{l:List Val}{k:Nat}(h:k<l.length):ve (l.take (k+1))=ve (l.take k)+l[k].parts/\kH (l.take (k+1))=max (kH (l.take k)) l[k].levels:=by rw[qb h,XC,iB];simp[ve,kH]
theorem zgg{l:List (za×Val)}{k:Nat}(h:k<l.length):vv (l.take (k+1))=vv (l.take k)+l[k].2.parts/\kX (l.take (k+1))=max (kX (l.take k)) l[k].2.levels:=by rw[qb h,XD,iC];simp[vv,kX]
theorem GX(l:List Val)(k:Nat):ve (l.take k)<=ve l:=by have:=XC (l.take k) (l.drop k);rw[eP]at this;omega
theorem GY(l:List (za×Val))(k:Nat):vv (l.take k)<=vv l:=by have:=XD (l.take k) (l.drop k);rw[eP]at this;omega
noncomputable abbrev Cd (n:Nat):Ctx:=xv prog [(152,yc (Cc n) f152)] (ia 13 [(3,2)])
theorem C6(n:Nat)(v:Val)(h:v.vb<=zD/\v.vb<=n+1):zH (Cd n) f125 [.agg v.V]=some (.qZ [int v.parts,int v.levels]):=by
 have z:=uo v;have hpe:=Mi v;have A:=ZN v;have t:=GW v;have B:=kf v.items;have C:=xx v.fields;obtain⟨D,G⟩:=h;unfold zD at D;refine zs rfl ?_;simp;refine qu (fun k σ Y Z=>σ 1=.ref 0 0 0/\σ 2=.ref 1 0 0/\σ 3=.ref 2 0 0/\σ 4=.fn (.func 152) [] [.ref 1 0 0,.ref 2 0 0]/\σ 11=.sl 5 (v.items.map Val.V)/\σ 12=int v.items.length/\σ 13=int k/\3<=Z/\Y 0=some ⟨112,5,false,[v.V]⟩ /\
   Y 1=some ⟨3,1,false,[[int ((1+ve (v.items.take k):Nat):Int)]]⟩/\Y 2=some ⟨3,1,false,[[int (kH (v.items.take k))]]⟩) v.items.length
  ⟨by simp,by simp,by simp,by simp,by simp,by simp,by simp,by simp,by simp,by simp[ve],by simp[kH]⟩ ?_
 rintro k σ Y Z y ⟨m,f,g,p,c,d,e,q,u,l,o⟩;by_cases a:k<v.items.length
 ·obtain⟨w,x⟩:=zgf a;have E:=xh (zo a);have r:=q8 k;have s:=GX v.items k;have b:=iA n v.items[k] ⟨by unfold zD;omega,by omega⟩ (zI Y Z (some ⟨112,5,false,[v.items[k].V]⟩)) (Z+1) 1 2 (by omega) (by omega) (by omega) _ _ (by rw[zT _ _ _ _ (by omega)];exact l) (by rw[zT _ _ _ _ (by omega)];exact o) (by unfold zD;omega);simp[m,f,g,p,c,d,e,a,b,r];refine⟨a,by omega,?_,?_,?_⟩
  ·simp[u,show¬0=Z by omega,show¬0=Z+1 by omega]
  ·rw[w];omega
  ·rw[x]
 ·obtain rfl:k=v.items.length:=by omega
  rw[wq]at l o;simp[m,f,g,p,c,d,e,u];refine qu (fun k σ Y Z=>σ 1=.ref 0 0 0/\σ 2=.ref 1 0 0/\σ 3=.ref 2 0 0/\σ 4=.fn (.func 152) [] [.ref 1 0 0,.ref 2 0 0]/\σ 22=.sl 6 (v.fields.map wa)/\σ 23=int v.fields.length/\σ 24=int k/\3<=Z /\
    Y 1=some ⟨3,1,false,[[int ((1+ve v.items+vv (v.fields.take k):Nat):Int)]]⟩/\Y 2=some ⟨3,1,false,[[int ((max (kH v.items) (kX (v.fields.take k)):Nat):Int)]]⟩) v.fields.length
   ⟨by simp[m],by simp[f],by simp[g],by simp[p],by simp,by simp,by simp,q,by simp[l,vv],by simp[o,kX]⟩ ?_
  clear m f g p c d e q u l o a y Z Y σ;rintro k σ Y Z y ⟨m,f,g,p,c,d,e,q,l,o⟩;by_cases a:k<v.fields.length
  ·obtain⟨w,x⟩:=zgg a;have E:=Wy (zo a);have r:=q8 k;have s:=GY v.fields k;have b:=iA n v.fields[k].2 ⟨by unfold zD;omega,by omega⟩ (zI Y Z (some ⟨149,6,false,[wa v.fields[k]]⟩)) (Z+1) 1 2 (by omega) (by omega) (by omega) _ _ (by rw[zT _ _ _ _ (by omega)];exact l) (by rw[zT _ _ _ _ (by omega)];exact o) (by unfold zD;omega);simp[wa]at b;simp[m,f,g,p,c,d,e,a,r,b];refine⟨a,by omega,?_,?_⟩
   ·rw[w];omega
   ·rw[x]
  ·obtain rfl:k=v.fields.length:=by omega
   rw[wq]at l o;have F:=oB v;have r:i6.wrap (((max (kH v.items) (kX v.fields):Nat):Int)+1)=(v.levels:Int):=by rw[wM (by omega) (by omega),t];omega
   simp[m,f,g,p,c,d,e];rw[vA _ _ _ _ _ _ (ib (id:=2) (i:=0) (j:=0) (id':=1) (i':=0) (j':=0) (by simp[g]) (by simp[f]) (by omega) (by exact l) rfl) (fun _ h=>by cases h)];simp[m,f,g,l,o,r,f125,jB];omega
theorem iD{out:Val->O}{n:Nat}{args:zb}{r:O}(h:FV out n args=some r):∃v:Val,args=[.agg v.V]/\(v.vb<=zD/\v.vb<=n)/\r=out v:=qc h
theorem Sc{out:Val->O}:∀args r,FV out 0 args=some r->False:=fun args r h=>by obtain⟨v,rfl,a,rfl⟩:=iD h;have:=JU v;omega
theorem E0{out:Val->O}{f:FuncId}(a:∃fn,prog.funcs[f]?=some fn/\(fn.name== "runtime.NumGoroutine")=false/\fn.body.isNone=false):zh prog f (hP (FV out 0)):=by
 refine⟨a,fun args Y Z r Y' Z' h=>?_⟩
 try unfold hP at h
 unfold yS at h;split at h
 ·split at h
  ·rename_i r0 b;exact(Sc _ _ b).elim
  ·cases h
 ·cases h
theorem uq:∀n,zh prog 125 (hP (FV (fun v=>.qZ [int v.parts,int v.levels]) n)):=by
 intro n
 induction n with
 |zero=>exact E0 ⟨_,func125,by kernel_rfl,by kernel_rfl⟩
 |succ n a=>
  have b:Gd (Cc n):=KW _ mixed ⟨a,by simp,trivial⟩;have c:zh prog 152 (yc (Cc n) f152):=Zg b func152;have hd:Gd (Cd n):=KW _ mixed ⟨c,by simp,trivial⟩;exact kq (fn:=f125) hd (yt func125) false [] _ fun args r h=>by obtain⟨v,rfl,d,rfl⟩:=iD h;exact⟨zM (zk 1) (by decide),_,C6 n v d,qP _⟩
noncomputable abbrev GV (out:Val->O):AM.Spec:=hP (FV out zD)
theorem fN(out:Val->O)(v:Val)(Y:Hp)(Z:Nat)(h:v.vb<=zD):GV out [.agg v.V] Y Z=some (out v,Y,Z):=fM out zD v Y Z ⟨h,h⟩
def br(k:Int):Bool:=decide (k<0)||decide (5<k)
def JV(k n:Int)(s:za)(i f:Nat):Bool:=n != 0&&k != 1&&k != 2||!(s==[])&&k != 3||decide (0<i)&&k != 4||decide (0<f)&&k != 5
def VQ(k n:Int):Bool:=k==1&&n != 0&&n != 1
def Wz(k n:Int):Bool:=k==2&&(decide (n<=-1000000000000000)||decide (1000000000000000<=n))
def E1(i f:Nat):Bool:=decide ((100:Int)<i)||decide ((100:Int)<f)
def E2(s:za):Bool:=decide ((500:Int)<s.length)
def xy(k n:Int)(s:za)(i f:Nat):Int:=
 if br k then 4 else if JV k n s i f then 3 else if VQ k n||Wz k n then 1 else if E2 s then 2 else if wC 32 126 s then(if E1 i f then 2 else 0)else 1
def Ca(a b:za):Bool:=Op.bytesLess a b||a==b
def ur(a:za):Bool:=a.isEmpty||decide ((60:Int)<a.length)||!wC 32 126 a
def oC(b:Option za)(a:za):Bool:=match b with
 |none=>false
 |some p=>Ca a p
mutual
def Val.fault:Val->Int
 | .mk k n s a b=>if xy k n s a.length b.length=0 then(if vw a=0 then ZK none b else vw a)else xy k n s a.length b.length
def vw:List Val->Int
 |[]=>0
 |v::l=>if v.fault=0 then vw l else v.fault
def ZK:Option za->List (za×Val)->Int
 |_,[]=>0
 |prev,(a,v)::l=>if ur a then 5 else if oC prev a then 8 else if v.fault=0 then ZK (some a) l else v.fault
end
theorem uu(v:Val):v.fault=if xy v.kind v.n v.s v.items.length v.fields.length=0 then(if vw v.items=0 then ZK none v.fields else vw v.items)else xy v.kind v.n v.s v.items.length v.fields.length:=by cases v;rfl
theorem uv:zh prog 153 (GV fun v=>q6 (JV v.kind v.n v.s v.items.length v.fields.length)):=
 kq (fn:=f153) ku (yt func153) false [] _ fun args r h=>by obtain⟨v,rfl,a,rfl⟩:=iD h;exact⟨by simp[f153],_,zs rfl (by simp[f153,JV]),qP _⟩
noncomputable abbrev Ck (n:Nat):Ctx:=qf prog [(126,hP (FV (fun v=>int v.fault) n)),(153,GV fun v=>q6 (JV v.kind v.n v.s v.items.length v.fields.length)),(154,hP (FS (wC 32 126)))]
@[simp]theorem qk(n:Nat):yH (Ck n) 154:=wD (by rfl) (zq _ _)
theorem uw{l:List Val}{k:Nat}(h:k<l.length):vw (l.drop k)=if l[k].fault=0 then vw (l.drop (k+1))else l[k].fault:=by rw[zg h,vw]
theorem ux{l:List (za×Val)}{k:Nat}(h:k<l.length)(p:Option za):ZK p (l.drop k)=if ur l[k].1 then 5 else if oC p l[k].1 then 8 else if l[k].2.fault=0 then ZK (some l[k].1) (l.drop (k+1))else l[k].2.fault:=by rw[zg h,ZK]
def X1(l:List (za×Val))(k:Nat):Option za:=if k=0 then none else(l[k-1]?).map (·.1)
theorem iE(n:Nat)(v:Val)(h:v.vb<=zD/\v.vb<=n+1):zH (Ck n) f126 [.agg v.V]=some (int v.fault):=by
 have hvb:=ZN v;have hl1:=kf v.items;have hl2:=xx v.fields;obtain⟨X,hb⟩:=h;unfold zD at X;have b:=uu v;have d:=fun Y Z=>fN (fun v=>q6 (JV v.kind v.n v.s v.items.length v.fields.length)) v Y Z X
 have z:v.s.length<=zD:=by unfold zD;omega
 refine zs rfl ?_;have x:(decide (v.kind<0)||decide (5<v.kind))=br v.kind:=rfl;have E:(v.kind==1&&v.n != 0&&v.n != 1)=VQ v.kind v.n:=rfl;have G:(v.kind==2&&(decide (v.n<=-1000000000000000)||decide (1000000000000000<=v.n)))=Wz v.kind v.n:=rfl;have e4:(decide ((100:Int)<v.items.length)||decide ((100:Int)<v.fields.length))=E1 v.items.length v.fields.length:=rfl;have K:decide ((500:Int)<v.s.length)=E2 v.s:=rfl;cases q:br v.kind
 case true=>simp[x,q,b,xy,f126]
 cases y:JV v.kind v.n v.s v.items.length v.fields.length
 case true=>simp[x,q,d,y,b,xy,f126]
 cases A:VQ v.kind v.n
 case true=>simp[x,q,d,y,E,A,b,xy,f126]
 cases F:Wz v.kind v.n
 case true=>simp[x,q,d,y,E,A,G,F,b,xy,f126]
 cases H:E2 v.s
 case true=>simp[x,q,d,y,E,A,G,F,K,H,b,xy,f126]
 cases L:wC 32 126 v.s
 case false=>simp[x,q,d,y,E,A,G,F,K,H,L,z,b,xy,f126]
 cases N:E1 v.items.length v.fields.length
 case true=>simp[x,q,d,y,E,A,G,F,K,H,L,z,e4,N,b,xy,f126]
 have hh:xy v.kind v.n v.s v.items.length v.fields.length=0:=by simp[xy,q,y,A,F,H,L,N]
 rw[hh,zl rfl]at b;simp[x,q,d,y,E,A,G,F,K,H,L,z,e4,N];refine qu (fun k σ Y Z=>σ 1=.ref 0 0 0/\σ 70=.sl 5 (v.items.map Val.V)/\σ 71=int v.items.length/\σ 72=int k/\1<=Z/\Y 0=some ⟨112,5,false,[v.V]⟩/\vw v.items=vw (v.items.drop k)) v.items.length
  ⟨by simp,by simp,by simp,by simp,by simp,by simp,by simp⟩ ?_
 rintro k σ Y Z hk ⟨l,r,t,u,B,p,w⟩;have n0:¬0=Z:=by omega
 by_cases c:k<v.items.length
 ·have hm:=xh (zo c);have hw:=q8 k;have a:=fun Y Z=>fM (fun v=>int v.fault) n v.items[k] Y Z ⟨by unfold zD;omega,by omega⟩
  rw[uw c]at w;by_cases e:v.items[k].fault=0
  ·rw[zl e]at w;simp[l,r,t,u,c,a,e,hw]
   and_intros<;>first|omega|exact w|simp[n0,p]
  ·rw[zj e]at w;have o:=Xo e;rw[w,zj e]at b;simp[l,r,t,u,c,a,o,b,f126]
 ·obtain rfl:k=v.items.length:=by omega
  rw[zp]at w;have w:vw v.items=0:=by rw[w];rfl
  rw[w,zl rfl]at b;simp[l,r,t,u,p];refine qu (fun k σ Y Z=>σ 1=.ref 0 0 0/\σ 83=.sl 6 (v.fields.map wa)/\σ 84=int v.fields.length/\σ 85=int k/\1<=Z/\Y 0=some ⟨112,5,false,[v.V]⟩/\v.fault=ZK (X1 v.fields k) (v.fields.drop k)) v.fields.length
   ⟨by simp[l],by simp,by simp,by simp,B,p,by simp[b,X1]⟩ ?_
  clear l r t u B p c hk n0 Z Y σ b;rintro k σ Y Z hk ⟨l,f,g,i,B,p,b⟩;have n0:¬0=Z:=by omega
  by_cases c:k<v.fields.length
  ·have hm:=Wy (zo c);have hw:=q8 k;have m:v.fields[k].1.length<=zD:=by unfold zD;omega
   have a:=fun Y Z=>fM (fun v=>int v.fault) n v.fields[k].2 Y Z ⟨by unfold zD;omega,by omega⟩
   have en:(v.fields[k].1.isEmpty||decide ((60:Int)<v.fields[k].1.length)||!wC 32 126 v.fields[k].1)=ur v.fields[k].1:=rfl;rw[ux c]at b;cases C:ur v.fields[k].1
   case true=>simp[l,f,g,i,c,m,en,C,b,f126]
   have I:X1 v.fields (k+1)=some v.fields[k].1:=by simp[X1,c]
   simp only[C,zv,qz]at b;by_cases k0:k=0
   ·subst k0;simp only[X1,oC,qh,zv,qz]at b;by_cases e:v.fields[0].2.fault=0
    ·rw[zl e]at b;have w1:=wN 1;simp[l,f,g,i,c,m,en,C,a,e,w1]
     and_intros<;>first|omega|(rw[b];rw[I];simp;done)|simp[n0,p]
    ·rw[zj e]at b;have o:=Xo e;simp[l,f,g,i,c,m,en,C,a,o,b,f126]
   ·obtain⟨j,rfl⟩:∃j,k=j+1:=⟨k-1,by omega⟩;have M:j<v.fields.length:=by omega
    have P:i6.wrap ((j:Int)+1-1)=(j:Int):=by rw[wM (by omega) (by omega)];omega
    have D:=wN (j:Int);have Q:((j:Int)+1).toNat=j+1:=by omega
    have R:0<(j:Int)+1:=by omega
    have S:0<=(j:Int)+1:=by omega
    have T:(j:Int)+1<v.fields.length:=by omega
    have wk:=wN ((j:Int)+1+1);have U:(Op.bytesLess v.fields[j+1].1 v.fields[j].1||v.fields[j+1].1==v.fields[j].1)=Ca v.fields[j+1].1 v.fields[j].1:=rfl;have W:X1 v.fields (j+1)=some v.fields[j].1:=by simp[X1,M]
    simp only[W,oC]at b;cases J:Ca v.fields[j+1].1 v.fields[j].1
    case true=>simp only[J,qh]at b;simp[l,f,g,i,c,M,m,en,C,a,p,n0,P,D,Q,R,S,T,U,J,b,f126]
    simp only[J,zv,qz]at b;by_cases e:v.fields[j+1].2.fault=0
    ·rw[zl e]at b;simp[l,f,g,i,c,M,m,en,C,a,p,n0,P,D,Q,R,S,T,U,J,e,wk]
     and_intros<;>first|omega|(rw[b];rw[I])|simp[n0,p]
    ·rw[zj e]at b;have o:=Xo e;simp[l,f,g,i,c,M,m,en,C,a,p,n0,P,D,Q,R,S,T,U,J,o,b,f126]
  ·obtain rfl:k=v.fields.length:=by omega
   rw[zp]at b;have b:v.fault=0:=by rw[b];rfl
   simp[l,f,g,i,b,f126]
theorem fb:∀n,zh prog 126 (hP (FV (fun v=>int v.fault) n)):=by
 intro n
 induction n with
 |zero=>exact E0 ⟨_,func126,by kernel_rfl,by kernel_rfl⟩
 |succ n a=>
  have b:AM.Good (Ck n) (fun g=>[154].contains g):=qI mixed ⟨a,by simp,uv,by simp,CV,fun _=>zq _ _,trivial⟩;exact kq (fn:=f126) b (yt func126) false [] _ fun args r h=>by obtain⟨v,rfl,c,rfl⟩:=iD h;exact⟨zM (zk 1) (by decide),_,iE n v c,qP _⟩
def Val.check(v:Val):Int:=if decide ((1000:Int)<v.parts)||decide ((8:Int)<v.levels)then 2 else v.fault
noncomputable abbrev Cch:Ctx:=qf prog [(126,GV fun v=>int v.fault),(125,GV fun v=>.qZ [int v.parts,int v.levels])]
theorem uy:zh prog 109 (GV fun v=>int v.check):=
 kq (fn:=f109) (qD mixed ⟨fb zD,uq zD,trivial⟩:AM.Good Cch _) (yt func109) false [] _ fun args r h=>by
  obtain⟨v,rfl,a,rfl⟩:=iD h;have b:=fun Y Z=>fN (fun v=>int v.fault) v Y Z a.1
  have c:=fun Y Z=>fN (fun v=>.qZ [int v.parts,int v.levels]) v Y Z a.1
  refine⟨by simp[f109],_,zs rfl ?_,qP _⟩;cases d:(decide ((1000:Int)<v.parts)||decide ((8:Int)<v.levels))
  ·simp[b,c,d,f109,Val.check]
  ·simp[b,c,d,f109,Val.check]
end Go.Q
namespace Go.Q
open Go.RowKit Go.AM Go.PrLaw
mutual
def Val.show:Val->za
 | .mk k n s a b=>if k=0 then[110,117,108,108]else if k=1 then(if n=1 then[116,114,117,101]else[102,97,108,115,101])else if k=2 then QW n else if k=3 then ju s else
  if k=4 then 91::(Lib.join (tf a) [44]++[93])else 123::(Lib.join (th b) [44]++[125])
def tf:List Val->List za
 |[]=>[]
 |v::l=>v.show::tf l
def th:List (za×Val)->List za
 |[]=>[]
 |(a,v)::l=>(ju a++(58::v.show))::th l
end
theorem iF:∀l:List Val,tf l=l.map Val.show
 |[]=>rfl
 |v::l=>by simp[tf,iF l]
def kv(f:za×Val):za:=ju f.1++(58::f.2.show)
theorem iG:∀l:List (za×Val),th l=l.map kv
 |[]=>rfl
 |(a,v)::l=>by simp[th,iG l,kv]
theorem QR(v:Val):v.show=if v.kind=0 then[110,117,108,108]else if v.kind=1 then(if v.n=1 then[116,114,117,101]else[102,97,108,115,101])else if v.kind=2 then QW v.n else if v.kind=3 then ju v.s else
  if v.kind=4 then 91::(Lib.join (v.items.map Val.show) [44]++[93])else 123::(Lib.join (v.fields.map kv) [44]++[125]):=by
 cases v;rw[Val.show,iF,iG];rfl
theorem fO(k n:Int)(s:za)(a:List Val)(b:List (za×Val)):(Val.mk k n s a b).show=if k=0 then[110,117,108,108]else if k=1 then(if n=1 then[116,114,117,101]else[102,97,108,115,101])else if k=2 then QW n else if k=3 then ju s else
  if k=4 then 91::(Lib.join (a.map Val.show) [44]++[93])else 123::(Lib.join (b.map kv) [44]++[125]):=QR _
theorem bt(k n:Int)(s:za)(a:List Val)(b:List (za×Val)):(Val.mk k n s a b).fault=if xy k n s a.length b.length=0 then(if vw a=0 then ZK none b else vw a)else xy k n s a.length b.length:=uu _
inductive aM:Val->Prop
 |mk {k n:Int} {s:List UInt8} {is:List Val} {fs:List (List UInt8×Val)}:0<=k->k<=5->(k=2->-1000000000000000<n/\n<1000000000000000)->(∀x∈is,aM x)->(∀f∈fs,aM f.2)->aM (.mk k n s is fs)
theorem aM.kind{v:Val}(h:aM v):0<=v.kind/\v.kind<=5:=by cases h;exact⟨by assumption,by assumption⟩
theorem aM.num{v:Val}(h:aM v)(a:v.kind=2):-1000000000000000<v.n/\v.n<1000000000000000:=by cases h with|mk _ _ b _ _=>exact b a
theorem aM.items{v:Val}(h:aM v):∀x∈v.items,aM x:=by cases h;assumption
theorem aM.fields{v:Val}(h:aM v):∀f∈v.fields,aM f.2:=by cases h;assumption
theorem uz(v:Val)(h:aM v):v.show.length+4<=30*v.vb:=by
 induction v using Val.ind with
 |h k n s i m p r=>
  have t:=ZN (.mk k n s i m);simp only[Val.s,Val.items,Val.fields]at t;rw[fO];split
  ·simp;omega
  split
  ·split<;>simp<;>omega
  split
  ·rename_i u;obtain⟨a,b⟩:=h.num u;have:=GU (n:=n) a b;omega
  split
  ·have:=K2 s;omega
  split
  ·have e:∀l:List Val,(∀x∈l,x.show.length+4<=30*x.vb)->((l.map Val.show).map fun x=>([44]:za).length+x.length).sum<=30*kz l:=by
    intro l
    induction l with
    |nil=>intro _;simp
    |cons v l o=>
     intro g;have a:=g v (by simp);have b:=o fun x d=>g x (by simp[d])
     simp only[zG,jT,kz,vt]at b⊢;omega
   have j:=bq [44] (i.map Val.show);have:=e i fun x d=>p x d (h.items x d)
   simp only[ze,zt,zf];omega
  ·have e:∀l:List (za×Val),(∀f∈l,f.2.show.length+4<=30*f.2.vb)->((l.map kv).map fun x=>([44]:za).length+x.length).sum<=30*ZU l:=by
    intro l
    induction l with
    |nil=>intro _;simp
    |cons f l o=>
     intro g;have a:=g f (by simp);have b:=o fun x d=>g x (by simp[d])
     have q:=K2 f.1;obtain⟨c,v⟩:=f;simp only[zG,jT,ZU,vt,kv,zt,ze,zf]at a b q⊢;omega
   have j:=bq [44] (m.map kv);have:=e m fun x d=>r x d (h.fields x d)
   simp only[ze,zt,zf];omega
theorem rK(v:Val)(h:v.fault=0):aM v:=by
 induction v using Val.ind with
 |h k n s t u w A=>
  rw[bt]at h;split at h
  case isFalse d=>exact(d h).elim
  rename_i d;split at h
  case isFalse m=>exact(m h).elim
  rename_i m;have j:br k=false:=by
   cases o:br k
   ·rfl
   ·rw[xy,o]at d;simp at d
  have B:Wz k n=false:=by
   cases o:Wz k n
   ·rfl
   ·rw[xy,j,o]at d;simp only[Bool.or_true,qh,qz,zv]at d;split at d<;>simp at d
  simp[br]at j;refine .mk j.1 j.2 (fun e=>?_) ?_ ?_
  ·subst e;simp[Wz]at B;omega
  ·have g:∀l:List Val,(∀x∈l,x.fault=0->aM x)->vw l=0->∀x∈l,aM x:=by
    intro l
    induction l with
    |nil=>intro _ _ x hx;cases hx
    |cons y l q=>
     intro a b x hx;rw[vw]at b;split at b
     ·rename_i i;rcases zx.1 hx with rfl|hx
      ·exact a _ (by simp) i
      ·exact q (fun z r=>a z (by simp[r])) b x hx
     ·rename_i i;exact(i b).elim
   exact g t w m
  ·have g:∀(l:List (za×Val)) (p:Option za),(∀f∈l,f.2.fault=0->aM f.2)->ZK p l=0->∀f∈l,aM f.2:=by
    intro l
    induction l with
    |nil=>intro _ _ _ x hx;cases hx
    |cons y l q=>
     intro p a b x hx;obtain⟨c,y⟩:=y;rw[ZK]at b;split at b
     ·simp at b
     split at b
     ·simp at b
     split at b
     ·rename_i i;rcases zx.1 hx with rfl|hx
      ·exact a _ (by simp) i
      ·exact q _ (fun z r=>a z (by simp[r])) b x hx
     ·rename_i i;exact(i b).elim
   exact g u none A h
end Go.Q
namespace Go.Proofs
open Go.Shelf
def Tryz.eR:Go.Shelf.Ren:=⟨fun|156=>10|165=>24|166=>9|169=>14|240=>23|241=>40|276=>39|277=>65|n=>n,fun|31=>39|9=>9|3=>3|4=>4|0=>0|20=>20|72=>38|76=>42|70=>35|37=>36|75=>41|127=>83|164=>99|5=>5|80=>68|n=>n,fun|n=>n⟩
theorem Tryz.Ga:Go.Proofs.Lays.n156 prog Tryz.eR:={
 mixed:=by kernel_rfl
 f156:=yn func10
 f165:=yn func24
 f166:=yn func9
 f169:=yn func14
 f240:=yn func23
 f241:=yn func40
 f276:=yn func39
 f277:=yn func65
 t0:=underlying0
 a0:=isAgg0
 z0:=sizeOf0
 v0:=zeroValue0
 t3:=underlying3
 a3:=isAgg3
 z3:=sizeOf3
 v3:=zeroValue3
 t4:=underlying4
 a4:=isAgg4
 z4:=sizeOf4
 v4:=zeroValue4
 t9:=underlying9
 a9:=isAgg9
 z9:=sizeOf9
 v9:=zeroValue9
 t20:=underlying20
 a20:=isAgg20
 z20:=sizeOf20
 v20:=zeroValue20
 t31:=underlying39
 a31:=isAgg39
 z31:=sizeOf39
 v31:=zeroValue39
 t37:=underlying36
 a37:=isAgg36
 z37:=sizeOf36
 v37:=zeroValue36
 t70:=underlying35
 a70:=isAgg35
 z70:=sizeOf35
 v70:=zeroValue35
 t72:=underlying38
 a72:=isAgg38
 z72:=sizeOf38
 v72:=zeroValue38
 t75:=underlying41
 a75:=isAgg41
 z75:=sizeOf41
 v75:=zeroValue41
 t76:=underlying42
 a76:=isAgg42
 z76:=sizeOf42
 v76:=zeroValue42
 t127:=underlying83
 a127:=isAgg83
 z127:=sizeOf83
 v127:=zeroValue83
 t164:=underlying99
 a164:=isAgg99
 z164:=sizeOf99
 v164:=zeroValue99}
theorem Tryz.YL:Builder.Extra prog Tryz.eR:={
 sizeBuilder:=by kernel_rfl
 liesBuilder:=by kernel_rfl
 t5:=underlying5
 a5:=isAgg5
 z5:=sizeOf5
 v5:=zeroValue5
 infoByte:=by kernel_rfl
 cellsByte:=by kernel_rfl
 sizeByte:=by kernel_rfl
 neB5:=by decide}
def Tryz.BW:Go.Shelf.Ren:=⟨fun|162=>173|232=>196|227=>197|234=>198|236=>199|228=>219|271=>220|151=>221|120=>239|197=>114|152=>240|260=>142|137=>223|119=>252|224=>145|225=>144|217=>143|266=>174|n=>n,fun|9=>9|4=>4|3=>3|5=>5|117=>265|116=>264|0=>0|124=>268|21=>21|105=>172|46=>163|119=>243|139=>246|138=>245|n=>n,fun|3=>4|4=>5|n=>n⟩
theorem Tryz.zaB:Go.Proofs.Lays.n162 prog Tryz.BW:={
 mixed:=by kernel_rfl
 f119:=yn func252
 f120:=yn func239
 f137:=yn func223
 f151:=yn func221
 f152:=yn func240
 f162:=yn func173
 f197:=yn func114
 f217:=yn func143
 f224:=yn func145
 f225:=yn func144
 f227:=yn func197
 f228:=yn func219
 f232:=yn func196
 f234:=yn func198
 f236:=yn func199
 f260:=yn func142
 f266:=yn func174
 f271:=yn func220
 t0:=underlying0
 a0:=isAgg0
 z0:=sizeOf0
 v0:=zeroValue0
 t3:=underlying3
 a3:=isAgg3
 z3:=sizeOf3
 v3:=zeroValue3
 t4:=underlying4
 a4:=isAgg4
 z4:=sizeOf4
 v4:=zeroValue4
 t5:=underlying5
 a5:=isAgg5
 z5:=sizeOf5
 v5:=zeroValue5
 t9:=underlying9
 a9:=isAgg9
 z9:=sizeOf9
 v9:=zeroValue9
 t21:=underlying21
 a21:=isAgg21
 z21:=sizeOf21
 v21:=zeroValue21
 t46:=underlying163
 a46:=isAgg163
 z46:=sizeOf163
 v46:=zeroValue163
 t105:=underlying172
 a105:=isAgg172
 z105:=sizeOf172
 v105:=zeroValue172
 t116:=underlying264
 a116:=isAgg264
 z116:=sizeOf264
 t117:=underlying265
 a117:=isAgg265
 z117:=sizeOf265
 v117:=zeroValue265
 t119:=underlying243
 a119:=isAgg243
 z119:=sizeOf243
 t124:=underlying268
 a124:=isAgg268
 z124:=sizeOf268
 v124:=zeroValue268
 t138:=underlying245
 a138:=isAgg245
 z138:=sizeOf245
 v138:=zeroValue245
 t139:=underlying246
 a139:=isAgg246
 z139:=sizeOf246
 v139:=zeroValue246
 g3:=by kernel_rfl
 g4:=by kernel_rfl}
def Tryz.BX:Go.Shelf.Ren:=⟨fun|121=>139|214=>172|n=>n,fun|4=>4|9=>9|n=>n,fun|n=>n⟩
theorem Tryz.zaC:Go.Proofs.Lays.n121 prog Tryz.BX:={
 mixed:=by kernel_rfl
 f121:=yn func139
 f214:=yn func172
 t4:=underlying4
 a4:=isAgg4
 z4:=sizeOf4
 v4:=zeroValue4
 t9:=underlying9
 a9:=isAgg9
 z9:=sizeOf9
 v9:=zeroValue9}
def Tryz.ti:Go.Shelf.Ren:=⟨fun|171=>11|243=>25|246=>41|283=>66|284=>67|285=>68|286=>69|129=>103|317=>102|318=>104|319=>105|320=>106|337=>123|338=>124|n=>n,fun|3=>3|9=>9|2=>2|4=>4|171=>128|0=>0|53=>129|37=>36|5=>5|173=>132|212=>160|51=>161|20=>20|213=>162|46=>163|232=>220|233=>221|n=>n,fun|17=>1|18=>2|19=>3|n=>n⟩
theorem Tryz.P0:Go.Proofs.LaysM.n171 prog Tryz.ti:={
 mixed:=by kernel_rfl
 f129:=yn func103
 f171:=yn func11
 f243:=yn func25
 f246:=yn func41
 f283:=yn func66
 f284:=yn func67
 f285:=yn func68
 f286:=yn func69
 f317:=yn func102
 f318:=yn func104
 f319:=yn func105
 f320:=yn func106
 f337:=yn func123
 f338:=yn func124
 t0:=underlying0
 a0:=isAgg0
 z0:=sizeOf0
 v0:=zeroValue0
 t2:=underlying2
 a2:=isAgg2
 z2:=sizeOf2
 v2:=zeroValue2
 t3:=underlying3
 a3:=isAgg3
 z3:=sizeOf3
 v3:=zeroValue3
 t4:=underlying4
 a4:=isAgg4
 z4:=sizeOf4
 v4:=zeroValue4
 t5:=underlying5
 a5:=isAgg5
 z5:=sizeOf5
 v5:=zeroValue5
 t9:=underlying9
 a9:=isAgg9
 z9:=sizeOf9
 v9:=zeroValue9
 t20:=underlying20
 a20:=isAgg20
 z20:=sizeOf20
 v20:=zeroValue20
 t37:=underlying36
 a37:=isAgg36
 z37:=sizeOf36
 v37:=zeroValue36
 t46:=underlying163
 a46:=isAgg163
 z46:=sizeOf163
 v46:=zeroValue163
 t51:=underlying161
 a51:=isAgg161
 z51:=sizeOf161
 v51:=zeroValue161
 t53:=underlying129
 a53:=isAgg129
 z53:=sizeOf129
 v53:=zeroValue129
 t171:=underlying128
 a171:=isAgg128
 z171:=sizeOf128
 v171:=zeroValue128
 t173:=underlying132
 a173:=isAgg132
 z173:=sizeOf132
 v173:=zeroValue132
 t212:=underlying160
 a212:=isAgg160
 z212:=sizeOf160
 v212:=zeroValue160
 t213:=underlying162
 a213:=isAgg162
 z213:=sizeOf162
 t232:=underlying220
 a232:=isAgg220
 z232:=sizeOf220
 v232:=zeroValue220
 t233:=underlying221
 a233:=isAgg221
 z233:=sizeOf221
 v233:=zeroValue221
 g17:=by kernel_rfl
 g18:=by kernel_rfl
 g19:=by kernel_rfl
 i0:=by kernel_rfl
 i2:=by kernel_rfl
 i3:=by kernel_rfl
 i4:=by kernel_rfl
 i5:=by kernel_rfl
 i9:=by kernel_rfl
 i20:=by kernel_rfl
 i37:=by kernel_rfl
 i46:=by kernel_rfl
 i51:=by kernel_rfl
 i53:=by kernel_rfl
 i171:=by kernel_rfl
 i173:=by kernel_rfl
 i212:=by kernel_rfl
 i232:=by kernel_rfl
 i233:=by kernel_rfl
 m17:=by kernel_rfl
 m18:=by kernel_rfl
 m19:=by kernel_rfl}
end Go.Proofs
namespace Go.Q
open Go.RowKit Go.AM Go.PrLaw
theorem Sd{P:Program}{w:World}{name:String}{g:Nat}{k:IntKind}{b:List Int}(h:P.globalNamed name=some g)(a:∃ty c,w.heap[g]?=some (.cells (b.map fun z=>Value.int k z).toArray ty c)):Lib.TabIs P w name k b:=by obtain⟨ty,c,a⟩:=a;simp[Lib.TabIs,World.var?,h,a]
theorem Se{dr:Prop}(w:World)(k:Nat)(a:Array Obj):Fr dr w (fun _=>False) (Sort.grow (w.drewN k) a):=
 ⟨rfl,rfl,rfl,by simp[Sort.grow,World.drewN],fun _=>Nat.le_add_right _ _,fun j b _=>by simp[Sort.grow,World.drewN,Array.getElem?_append,b]⟩
noncomputable def FIt:zb->Option O:=qt (α:=Int) (fun n=>[int n]) (fun n=>0<=n/\n<=9223372036854775807) (fun n=>str (Lib.decDigits n.toNat))
theorem Z7(n:Int)(Y:Hp)(Z:Nat)(h:0<=n)(c:n<=9223372036854775807):hP FIt [int n] Y Z=some (str (Lib.decDigits n.toNat),Y,Z):=
 aK n _ _ rfl (fun a b e=>by simpa using e) ⟨h,c⟩ (.inl rfl)
theorem nb:zh prog 11 (hP FIt):=
 kr ⟨_,func11,by kernel_rfl,by kernel_rfl⟩ fun xs r h=>by
  obtain⟨n,rfl,⟨f,b⟩,rfl⟩:=qc h;refine⟨[.int .i64 n],rfl,by simp[lit],rfl,.string ⟨(Lib.decDigits n.toNat).toArray⟩,fun w S=>.v rfl,fun w S c=>?_⟩;obtain⟨_,a⟩:=c.2 (1,.u64,Lib.pow10Tab) (by simp[WQ]);refine(Any.strconv_Itoa Tryz.P0 n (by omega) b w (Sd (g:=1) (by kernel_rfl) a)).mono fun e i d=>?_
  obtain⟨rfl,k,j,rfl⟩:=d;refine⟨?_,Se _ _ _⟩;unfold Lib.itoa;rw[zj (by omega)]
def FBo:zb->Option O
 |[.v (.bool b)]=>some (str (Lib.formatBool b))
 |_=>none
theorem Mj(b:Bool)(Y:Hp)(Z:Nat):hP FBo [.v (.bool b)] Y Z=some (str (Lib.formatBool b),Y,Z):=wL rfl rfl (.inl rfl)
theorem nr:zh prog 139 (hP FBo):=
 kr ⟨_,func139,by kernel_rfl,by kernel_rfl⟩ fun xs r h=>by
  unfold FBo at h;split at h
  ·rename_i b;injection h with h
   subst h;refine⟨[.bool b],rfl,by simp[lit],rfl,.string ⟨(Lib.formatBool b).toArray⟩,fun w S=>.v rfl,fun w S c=>?_⟩;refine(Any.strconv_FormatBool Tryz.zaC b w).mono fun e d a=>?_
   obtain⟨rfl,rfl⟩:=a;exact⟨rfl,Fr.refl _ _⟩
  ·cases h
def trP(a b:za):O:=str (Lib.trimRightB a (b.headD 0))
theorem fc:zh prog 173 (hP (WY trP fun _ b=>CZ b)):=
 kr ⟨_,func173,by kernel_rfl,by kernel_rfl⟩ fun args r h=>by
  obtain⟨a,b,rfl,d,i,⟨c,rfl,f⟩,rfl⟩:=xM h;unfold zD at d;refine⟨[.string ⟨a.toArray⟩,.string ⟨#[c]⟩],rfl,by simp[lit],rfl,.string ⟨(Lib.trimRightB a c).toArray⟩,fun w S=>.v rfl,fun w S _=>?_⟩;refine(Any.strings_TrimRight_one Tryz.zaB ⟨a.toArray⟩ c f w (by simp;omega)).mono fun e j g=>?_
  obtain⟨rfl,rfl⟩:=g;exact⟨by simp,Fr.refl _ _⟩
abbrev TB:Nat:=38
abbrev UB:Nat:=5
theorem Mk(z:Int)(c:UInt8)(h:z=c.toNat):Sa [.v (.int .u8 z)]=some ([c],.v .nilIface):=by
 subst h;exact qj (V:=fun c:UInt8=>[O.v (.int .u8 c.toNat)]) (a:=c) (fun a b e=>by simp only[zi,O.v.injEq,Value.int.injEq,zF,true_and]at e;exact yg.1 (by omega)) trivial
theorem C7(s:za)(h:s≠[]):Rr [str s]=some (s,.qZ [int s.length,.v .nilIface]):=qj (V:=fun s:List UInt8=>[str s]) (a:=s) (fun a b e=>by simpa using e) h
section
variable{Y h:Hp}{Z Z' m:Nat}{cur l:za}{b0:Blk}{K:Hp->Hp}
theorem GZ(B:eQ TB UB Y Z m cur)(z:Int)(c:UInt8)(a:z=c.toNat)(b:cur.length+1<=140737488355328) :
  ∃Y',vm TB UB Sa [.ref 0 0 0,.v (.int .u8 z)] Y Z=some (.v .nilIface,Y',Z+1)/\eQ TB UB Y' (Z+1) Z (cur++[c])/\∀j,j≠0->j≠m->j≠Z->Y' j=Y j:=B.put rfl rfl (Mk z c a) b
theorem Rs(B:eQ TB UB Y Z m cur)(s:za)(hs:s≠[])(a:cur.length+s.length<=140737488355328) :
  ∃Y',vm TB UB Rr [.ref 0 0 0,str s] Y Z=some (.qZ [int s.length,.v .nilIface],Y',Z+1)/\eQ TB UB Y' (Z+1) Z (cur++s)/\∀j,j≠0->j≠m->j≠Z->Y' j=Y j:=B.put rfl rfl (C7 s hs) a
theorem wbF(a:Zd TB UB Y Z l b0 K)(b:Z<=Z')(d:∀j,j<Z->h j=Y j)(z:Int)(c:UInt8)(e:z=c.toNat)(f:l.length+1<=140737488355328) :
  ∃Y',vm TB UB Sa [.ref 0 0 0,.v (.int .u8 z)] h Z'=some (.v .nilIface,Y',Z'+1)/\eQ TB UB Y' (Z'+1) Z' (l++[c])/\∀j,Z<=j->j≠Z'->Y' j=h j:=a.put b d rfl rfl (Mk z c e) f
theorem wsF(a:Zd TB UB Y Z l b0 K)(b:Z<=Z')(c:∀j,j<Z->h j=Y j)(s:za)(hs:s≠[])(d:l.length+s.length<=140737488355328) :
  ∃Y',vm TB UB Rr [.ref 0 0 0,str s] h Z'=some (.qZ [int s.length,.v .nilIface],Y',Z'+1)/\eQ TB UB Y' (Z'+1) Z' (l++s)/\∀j,Z<=j->j≠Z'->Y' j=h j:=a.put b c rfl rfl (C7 s hs) d
end
noncomputable abbrev Cqu:Ctx:=qf prog [(45,vm TB UB Sa)]
theorem zb8:Gd Cqu:=qD mixed ⟨bn,trivial⟩
noncomputable def FQu:zb->Option (za×O):=qt (α:=za) (fun s=>[str s]) (fun s=>s.length<=zD) (fun s=>(ju s,.qZ []))
theorem rL(s:za)(h:s.length<=zD):FQu [str s]=some (ju s,.qZ []):=qj (V:=fun s:List UInt8=>[str s]) (a:=s) (fun a b e=>by simpa using e) h
theorem uA:zh prog 141 (vm TB UB FQu):=
 ZE (code:=_) zb8 ⟨func141,by kernel_rfl,rfl,by kernel_rfl⟩ _ _ FQu fun xs t r h=>by
  obtain⟨s,rfl,hs,e⟩:=qc h;injection e with d i;subst d;subst i;refine⟨rfl,by simp[f141],fun Y Z l b0 K z y=>QV rfl ?_⟩;have D:(ju s).length=(QE s).length+2:=by simp[ju]
  unfold zD at hs;obtain⟨Y1,d,f,_⟩:=wbF z (zk _) (fun _ _=>rfl) 34 34 rfl (by omega);simp[d];refine qu (fun k σ Y Z=>σ 0=.ref 0 0 0/\σ 1=str s/\σ 8=int s.length/\σ 9=int k/\∃(m:Nat) (cur:za),eQ TB UB Y Z m cur/\l++ju s=cur++(QE (s.drop k)++[34])) s.length ?_ ?_
  ·exact⟨by simp,by simp,by simp,by simp,Z,l++[34],f,by simp[ju]⟩
  ·rintro k σ Y Z E ⟨j,n,o,p,m,cur,B,b⟩;by_cases g:k<s.length
   ·have u:=q8 k;rw[zg g,QE]at b;obtain⟨c,q⟩:=yb (s[k]);rw[q]at b;have a:=jy List.length b;by_cases v:c=34
    ·subst v;simp at b a;obtain⟨Y1,d,f,_⟩:=GZ B 92 92 rfl (by omega);obtain⟨Y2,i,w,_⟩:=GZ f 34 34 rfl (by simp;omega);simp[j,n,o,p,g,q,d,i,u];exact⟨by omega,_,_,w,by simpa using b⟩
    ·by_cases x:c=92
     ·subst x;simp at b a;obtain⟨Y1,d,f,_⟩:=GZ B 92 92 rfl (by omega);obtain⟨Y2,i,w,_⟩:=GZ f 92 92 rfl (by simp;omega);simp[j,n,o,p,g,q,d,i,u];exact⟨by omega,_,_,w,by simpa using b⟩
     ·have A:((c.toNat:Int)==34)=false:=qM.2 fun e=>v (yg.1 (by simpa using(by omega:c.toNat=34)))
      have C:((c.toNat:Int)==92)=false:=qM.2 fun e=>x (yg.1 (by simpa using(by omega:c.toNat=92)))
      simp[v,x]at b a;obtain⟨Y1,d,f,_⟩:=GZ B (c.toNat) c rfl (by omega);simp[j,n,o,p,g,q,A,C,d,u];exact⟨by omega,_,_,f,by simpa using b⟩
   ·obtain rfl:k=s.length:=by omega
    rw[zp]at b;have a:=jy List.length b;simp[QE]at b a;obtain⟨Y1,d,f,_⟩:=GZ B 34 34 rfl (by omega);simp[j,n,o,p,d,f141];exact f.ends b (by simp)
noncomputable abbrev Cth:Ctx:=qf prog [(45,vm TB UB Sa),(9,vm TB UB Rr),(11,hP FIt),(173,hP (WY trP fun _ b=>CZ b))]
theorem zb9:Gd Cth:=qD mixed ⟨bn,VB,nb,fc,trivial⟩
noncomputable def FTh:zb->Option (za×O):=qt (α:=Int) (fun n=>[int n]) (fun n=>-1000000000000000<n/\n<1000000000000000) (fun n=>(QW n,.qZ []))
theorem zca(n:Int)(h:-1000000000000000<n/\n<1000000000000000):FTh [int n]=some (QW n,.qZ []):=qj (V:=fun n:Int=>[int n]) (a:=n) (fun a b e=>by simpa using e) h
theorem zcb:CZ [48]:=⟨48,rfl,by decide⟩
theorem Ml(s:za)(Y:Hp)(Z:Nat)(h:s.length<=1000):hP (WY trP fun _ b=>CZ b) [str s,str [48]] Y Z=some (str (Lib.trimRightB s 48),Y,Z):=Z6 _ _ s [48] Y Z (by unfold zD;omega) (by unfold zD;simp) zcb rfl
theorem bu:zh prog 140 (vm TB UB FTh):=
 ZE (code:=_) zb9 ⟨func140,by kernel_rfl,rfl,by kernel_rfl⟩ _ _ FTh fun xs t r h=>by
  obtain⟨n,rfl,hs,e⟩:=qc h;injection e with g c;subst g;subst c;refine⟨rfl,by simp[f140],fun Y Z l b0 K q a=>QV rfl ?_⟩;obtain⟨u,J⟩:=yb n.natAbs;have L:u<1000000000000000:=by omega
  have i:QW n=(if n<0 then[45]else[])++(Lib.decDigits (u/1000)++if u % 1000=0 then[]else 46::yX (u % 1000)):=by rw[<-J];rfl
  have A:Lib.trimRightB ((Lib.decDigits (1000+u % 1000)).drop 1) 48=yX (u % 1000):=rfl;have B:((Lib.decDigits (1000+u % 1000)).drop 1).length<=1000:=by rw[Wx (by omega)];simp
  have j:1<=(Lib.decDigits (1000+u % 1000)).length:=KF.2 (K3 _);have s:((u:Int)).tdiv 1000=(u:Int)/1000:=Int.tdiv_eq_ediv_of_nonneg (by omega);have v:((u:Int)).tmod 1000=(u:Int) % 1000:=Int.tmod_eq_emod_of_nonneg (by omega);have k:=fun Y Z=>Z7 ((u:Int)/1000) Y Z (by omega) (by omega)
  have C:=fun Y Z=>Z7 (1000+(u:Int) % 1000) Y Z (by omega) (by omega)
  rw[show((u:Int)/1000).toNat=u/1000 by omega]at k;rw[show(1000+(u:Int) % 1000).toNat=1000+u % 1000 by omega]at C;have w:=fun Y Z=>Ml ((Lib.decDigits (1000+u % 1000)).drop 1) Y Z B
  rw[A]at w;have D:List.take ((Lib.decDigits (1000+u % 1000)).length-1) (List.drop 1 (Lib.decDigits (1000+u % 1000)))=List.drop 1 (Lib.decDigits (1000+u % 1000)):=qy (by simp);have M:=List.drop_one (l:=Lib.decDigits (1000+u % 1000));rw[M]at w D;have m:1+(yX (u % 1000)).length<=maxLen:=by have:=iz (r:=u % 1000) (by omega);unfold maxLen;omega
  have x:=wN (u:Int);have y:=wN ((u:Int)/1000);have z:=wN ((u:Int) % 1000);have H:=wN (1000+(u:Int) % 1000);rw[i]at a⊢;clear i;rcases Int.lt_or_le n 0 with I|I
  ·obtain rfl:n=-(u:Int):=by omega
   have o:0<u:=by omega
   rw[zl I]at a⊢;by_cases p:u % 1000=0
   ·rw[zl p]at a⊢;have b:¬(0:Int)<(u:Int) % 1000:=by omega
    simp at a;obtain⟨Y1,g,E,_⟩:=wbF q (zk _) (fun _ _=>rfl) 45 45 rfl (by omega);obtain⟨Y2,c,d,_⟩:=Rs E (Lib.decDigits (u/1000)) (K3 _) (by simp;omega);simp[o,g,c,s,v,k,x,y,z,b];refine d.ends ?_ ?_<;>simp<;>omega
   ·rw[zj p]at a⊢;have b:(0:Int)<(u:Int) % 1000:=by omega
    simp at a;obtain⟨Y1,g,E,_⟩:=wbF q (zk _) (fun _ _=>rfl) 45 45 rfl (by omega);obtain⟨Y2,c,d,_⟩:=Rs E (Lib.decDigits (u/1000)) (K3 _) (by simp;omega);obtain⟨hp3,F,G,_⟩:=Rs d (46::yX (u % 1000)) (by simp) (by simp;omega);simp[o,g,c,F,s,v,k,C,w,x,y,z,H,b,j,D,m];refine G.ends ?_ ?_<;>simp<;>omega
  ·obtain rfl:n=(u:Int):=by omega
   have f:¬(u:Int)<0:=by omega
   rw[zj f]at a⊢;by_cases p:u % 1000=0
   ·rw[zl p]at a⊢;have b:¬(0:Int)<(u:Int) % 1000:=by omega
    try simp at a
    obtain⟨Y2,c,d,_⟩:=wsF q (zk _) (fun _ _=>rfl) (Lib.decDigits (u/1000)) (K3 _) (by omega);simp[f,c,s,v,k,x,y,z,b];refine d.ends ?_ ?_<;>simp<;>omega
   ·rw[zj p]at a⊢;have b:(0:Int)<(u:Int) % 1000:=by omega
    try simp at a
    obtain⟨Y2,c,d,_⟩:=wsF q (zk _) (fun _ _=>rfl) (Lib.decDigits (u/1000)) (K3 _) (by omega);obtain⟨hp3,F,G,_⟩:=Rs d (46::yX (u % 1000)) (by simp) (by simp;omega);simp[f,c,F,s,v,k,C,w,x,y,z,H,b,j,D,m];refine G.ends ?_ ?_<;>simp<;>omega
def xi:Val ⊕ za->zb
 | .inl v=>v.V
 | .inr s=>[int 3,int 0,str s,.nil,.nil]
def YT:Val ⊕ za->za
 | .inl v=>v.show
 | .inr s=>ju s
def Mm(n:Nat):Val ⊕ za->Prop
 | .inl v=>aM v/\v.vb<=zD/\v.vb<=n
 | .inr s=>s.length<=zD/\0<n
theorem cU{a b:Val ⊕ za}(h:[O.agg (xi a)]=[.agg (xi b)]):a=b:=by
 simp only[zi,zF,O.agg.injEq]at h;cases a<;>cases b<;>simp only[xi]at h
 ·rw[xN h]
 ·rw[wW]at h;simp at h
 ·rw[wW]at h;simp at h
 ·simp only[zi,zF,true_and]at h;rw[wT h]
noncomputable def Sf (n:Nat):zb->Option (za×O):=qt (α:=Val ⊕ za) (fun a=>[.agg (xi a)]) (Mm n) (fun a=>(YT a,.qZ []))
theorem Mn(n:Nat)(a:Val ⊕ za)(h:Mm n a):Sf n [.agg (xi a)]=some (YT a,.qZ []):=qj (V:=fun a:Val ⊕ za=>[.agg (xi a)]) (a:=a) (fun _ _=>cU) h
theorem zcc(a:Val ⊕ za):¬Mm 0 a:=by
 cases a with
 |inl v=>intro h;have:=JU v;have:=h.2.2;omega
 |inr s=>intro h;exact absurd h.2 (Nat.lt_irrefl 0)
theorem Mo{f:FuncId}(b:∃fn,prog.funcs[f]?=some fn/\(fn.name== "runtime.NumGoroutine")=false/\fn.body.isNone=false):zh prog f (vm TB UB (Sf 0)):=by
 refine⟨b,fun args Y Z r Y' Z' h=>?_⟩;unfold vm at h;split at h
 ·split at h
  ·obtain⟨_,_,h⟩:=zL.1 h;obtain⟨_,h,_⟩:=zL.1 h;obtain⟨a,_,c,_⟩:=qc h;exact(zcc a c).elim
  ·cases h
 ·cases h
theorem shS{Y:Hp}{Z m:Nat}{cur:za}(n:Nat)(v:Val)(B:eQ TB UB Y Z m cur)(h:aM v/\v.vb<=zD/\v.vb<=n)(a:cur.length+v.show.length<=140737488355328) :
  ∃Y',vm TB UB (Sf n) [.ref 0 0 0,.agg v.V] Y Z=some (.qZ [],Y',Z+1)/\eQ TB UB Y' (Z+1) Z (cur++v.show)/\∀j,j≠0->j≠m->j≠Z->Y' j=Y j:=
 B.put (Y1:=Y) (by simp only[zz,QF]) (by simp only[yC,Jc,s9,gh]) (show Sf n [.agg v.V]=some (v.show,.qZ [])from Mn n (.inl v) h) a
noncomputable abbrev Csh (n:Nat):Ctx:=qf prog [(112,vm TB UB (Sf n)),(45,vm TB UB Sa),(9,vm TB UB Rr),(139,hP FBo),(140,vm TB UB FTh),(141,vm TB UB FQu)]
theorem C8(n:Nat)(s:za)(hs:s.length<=zD){Y:Hp}{Z:Nat}{l:za}{a:Blk}{K:Hp->Hp}(b:Zd TB UB Y Z l a K)(c:l.length+(ju s).length<=140737488355328) :
  ox TB UB (yR (Csh n) f112 [.ref 0 0 0,.agg [int 3,int 0,str s,.nil,.nil]] Y Z) (l++ju s) (.qZ []):=by
 refine QV rfl ?_;obtain⟨Y1,d,e,_⟩:=b.put (h:=zI Y Z (some ⟨112,5,false,[[int 3,int 0,str s,.nil,.nil]]⟩)) (Z':=Z+1) (F:=FQu) (rest:=[str s]) (yJ _) (fun j f=>zc _ _ _ _ (by omega)) rfl rfl (rL s hs) c;simp[d,f112];exact e.ends (by simp) (by simp)
theorem G3(n:Nat)(v:Val)(h:aM v/\v.vb<=zD/\v.vb<=n+1){Y:Hp}{Z:Nat}{l:za}{b0:Blk}{K:Hp->Hp}(H:Zd TB UB Y Z l b0 K)(t:l.length+v.show.length<=140737488355328) :
  ox TB UB (yR (Csh n) f112 [.ref 0 0 0,.agg v.V] Y Z) (l++v.show) (.qZ []):=by
 refine QV rfl ?_;obtain⟨E,hv,hvn⟩:=h;have hvb:=ZN v;have hl1:=kf v.items;have hl2:=xx v.fields;unfold zD at hv;have hkd:=E.kind;obtain⟨R,G⟩:∃R,R=zI Y Z (some ⟨112,5,false,[v.V]⟩):=⟨_,rfl⟩;have u:∀j,j<Z->R j=Y j:=fun j hj=>by rw[G];exact zc _ _ _ _ (by omega)
 have T:R Z=some ⟨112,5,false,[v.V]⟩:=by rw[G];simp
 have BZ:=H.pos;rcases(by omega:v.kind=0\/v.kind=1\/v.kind=2\/v.kind=3\/v.kind=4\/v.kind=5)with hk|hk|hk|hk|hk|hk
 ·have d:v.show=[110,117,108,108]:=by rw[QR,zl hk]
  rw[d]at t⊢;obtain⟨Y1,e,w,_⟩:=wsF H (yJ Z) u [110,117,108,108] (by simp) (by simpa using t);rw[G]at e;simp[hk,e,f112];exact w.ends (by simp) (by simp)
 ·have d:v.show=Lib.formatBool (v.n==1):=by
   rw[QR,zj (by omega),zl hk];by_cases h1:v.n=1
   ·rw[zl h1,h1];rfl
   ·rw[zj h1,show(v.n==1)=false from qM.2 h1];rfl
  rw[d]at t⊢;have hf:=fun Y Z=>Mj (v.n==1) Y Z
  obtain⟨Y1,e,w,_⟩:=wsF H (yJ Z) u (Lib.formatBool (v.n==1)) (by cases (v.n==1)<;>decide) t;rw[G]at e;simp[hk,hf,e,f112];exact w.ends (by simp) (by simp)
 ·have d:v.show=QW v.n:=by rw[QR,zj (by omega),zj (by omega),zl hk]
  rw[d]at t⊢;obtain⟨Y1,e,w,_⟩:=H.put (h:=R) (Z':=Z+1) (F:=FTh) (rest:=[int v.n]) (yJ _) u rfl rfl (zca v.n (E.num hk)) t;rw[G]at e;simp[hk,e,f112];exact w.ends (by simp) (by simp)
 ·have d:v.show=ju v.s:=by rw[QR,zj (by omega),zj (by omega),zj (by omega),zl hk]
  rw[d]at t⊢;obtain⟨Y1,e,w,_⟩:=H.put (h:=R) (Z':=Z+1) (F:=FQu) (rest:=[str v.s]) (yJ _) u rfl rfl (rL v.s (by unfold zD;omega)) t;rw[G]at e;simp[hk,e,f112];exact w.ends (by simp) (by simp)
 ·have d:v.show=91::(Lib.join (v.items.map Val.show) [44]++[93]):=by rw[QR,zj (by omega),zj (by omega),zj (by omega),zj (by omega),zl hk]
  rw[d]at t⊢;obtain⟨U,y⟩:=yb (Lib.join (v.items.map Val.show) [44]);have I:U=Yx [44] 0 ((v.items.drop 0).map Val.show):=by rw[w8,<-y];rfl
  rw[y]at t⊢;simp at t;obtain⟨Y1,e,w,z⟩:=wbF H (yJ Z) u 91 91 rfl (by omega);have S:Y1 Z=some ⟨112,5,false,[v.V]⟩:=by rw[z Z (zk _) (by omega),T]
  rw[G]at e;simp[hk,e,S];refine qu (fun k σ Y Z=>σ 0=.ref 0 0 0/\σ 39=.sl 5 (v.items.map Val.V)/\σ 40=int v.items.length/\σ 41=int k/\∃m cur,eQ TB UB Y Z m cur/\l++91::(U++[93])=cur++(Yx [44] k ((v.items.drop k).map Val.show)++[93])) v.items.length ⟨by simp,by simp,by simp,by simp,Z+1,l++[91],w,by rw[<-I];simp⟩ ?_;rintro k σ Y Z hkl ⟨J,o,p,q,m,cur,B,c⟩;by_cases f:k<v.items.length
  ·have hw:=q8 k;have g:=zo f;have hm:=xh g;have i:=E.items _ g;rw[zg f,zG,JS]at c;obtain⟨x,L⟩:=yb (v.items[k]);rw[L]at c hm i;have M:i6.wrap 1=1:=by decide
   have b:=jy List.length c;have W:=B.same (Z':=Z+1) (Y':=zI Y Z (some ⟨112,5,false,[x.V]⟩)) (yJ _) (fun j hj=>zc _ _ _ _ (by omega));by_cases r:k=0
   ·subst r;simp at c b;obtain⟨Y2,A,C,_⟩:=shS n x W ⟨i,by unfold zD;omega,by omega⟩ (by omega);simp[J,o,p,q,f,L,A,M];exact⟨by omega,_,_,C,by simpa using c⟩
   ·rw[zj r]at c;have N:0<k:=by omega
    simp[r]at c b;obtain⟨Y2,A,C,D⟩:=GZ W 44 44 rfl (by omega);have hmn:=B.2.2.2;have P:Y2 Z=some ⟨112,5,false,[x.V]⟩:=by rw[D Z (by omega) (by omega) (by omega)];simp
    obtain⟨hp3,X,B3,_⟩:=shS n x C ⟨i,by unfold zD;omega,by omega⟩ (by simp;omega);simp[J,o,p,q,f,L,N,A,P,X,hw];exact⟨by omega,_,_,B3,by simpa using c⟩
  ·obtain rfl:k=v.items.length:=by omega
   rw[zp,ji,WK]at c;have b:=jy List.length c;simp at c b;obtain⟨Y2,A,C,_⟩:=GZ B 93 93 rfl (by omega);simp[J,o,p,q,A,f112];exact C.ends (by simpa using c) (by simp)
 ·have d:v.show=123::(Lib.join (v.fields.map kv) [44]++[125]):=by rw[QR,zj (by omega),zj (by omega),zj (by omega),zj (by omega),zj (by omega)]
  rw[d]at t⊢;obtain⟨U,y⟩:=yb (Lib.join (v.fields.map kv) [44]);have I:U=Yx [44] 0 ((v.fields.drop 0).map kv):=by rw[w8,<-y];rfl
  rw[y]at t⊢;simp at t;obtain⟨Y1,e,w,z⟩:=wbF H (yJ Z) u 123 123 rfl (by omega);have S:Y1 Z=some ⟨112,5,false,[v.V]⟩:=by rw[z Z (zk _) (by omega),T]
  rw[G]at e;simp[hk,e,S];refine qu (fun k σ Y Z=>σ 0=.ref 0 0 0/\σ 61=.sl 6 (v.fields.map wa)/\σ 62=int v.fields.length/\σ 63=int k/\∃m cur,eQ TB UB Y Z m cur/\l++123::(U++[125])=cur++(Yx [44] k ((v.fields.drop k).map kv)++[125])) v.fields.length ⟨by simp,by simp,by simp,by simp,Z+1,l++[123],w,by rw[<-I];simp⟩ ?_;rintro k σ Y Z hkl ⟨J,o,p,q,m,cur,B,c⟩;by_cases f:k<v.fields.length
  ·have hw:=q8 k;have g:=zo f;have hm:=Wy g;have i:=E.fields _ g;rw[zg f,zG,JS]at c;obtain⟨⟨a,x⟩,L⟩:∃x,v.fields[k]=x:=⟨_,rfl⟩;rw[L]at c hm i;simp only[kv]at c;simp only at hm i;have M:i6.wrap 1=1:=by decide
   have b:=jy List.length c;have W:=B.same (Z':=Z+1) (Y':=zI Y Z (some ⟨149,6,false,[str a::x.V]⟩)) (yJ _) (fun j hj=>zc _ _ _ _ (by omega));have hmn:=B.2.2.2;have b1:zI Y Z (some ⟨149,6,false,[str a::x.V]⟩) Z=some ⟨149,6,false,[str a::x.V]⟩:=by simp
   by_cases r:k=0
   ·subst r;simp at c b;obtain⟨Y2,A,C,D⟩:=W.put (F:=FQu) (rest:=[str a]) rfl rfl (rL a (by unfold zD;omega)) (by omega);have P:=(D Z (by omega) (by omega) (by omega)).trans b1;obtain⟨hp3,X,B3,Q⟩:=GZ C 58 58 rfl (by simp;omega);have f3:=(Q Z (by omega) (by omega) (by omega)).trans P;obtain⟨hp4,e4,B4,_⟩:=shS n x B3 ⟨i,by unfold zD;omega,by omega⟩ (by simp;omega);simp[J,o,p,q,f,L,A,P,X,f3,e4,M];exact⟨by omega,_,_,B4,by simpa using c⟩
   ·rw[zj r]at c;have N:0<k:=by omega
    simp[r]at c b;obtain⟨Y1,e,w,z⟩:=GZ W 44 44 rfl (by omega);have S:=(z Z (by omega) (by omega) (by omega)).trans b1;obtain⟨Y2,A,C,D⟩:=w.put (F:=FQu) (rest:=[str a]) rfl rfl (rL a (by unfold zD;omega)) (by simp;omega);have P:=(D Z (by omega) (by omega) (by omega)).trans S;obtain⟨hp3,X,B3,Q⟩:=GZ C 58 58 rfl (by simp;omega);have f3:=(Q Z (by omega) (by omega) (by omega)).trans P;obtain⟨hp4,e4,B4,_⟩:=shS n x B3 ⟨i,by unfold zD;omega,by omega⟩ (by simp;omega);simp[J,o,p,q,f,L,N,e,S,A,P,X,f3,e4,hw];exact⟨by omega,_,_,B4,by simpa using c⟩
  ·obtain rfl:k=v.fields.length:=by omega
   rw[zp,ji,WK]at c;have b:=jy List.length c;simp at c b;obtain⟨Y2,A,C,_⟩:=GZ B 125 125 rfl (by omega);simp[J,o,p,q,A,f112];exact C.ends (by simpa using c) (by simp)
theorem C9:∀n,zh prog 112 (vm TB UB (Sf n)):=by
 intro n
 induction n with
 |zero=>exact Mo ⟨_,func112,by kernel_rfl,by kernel_rfl⟩
 |succ n f=>
  have g:Gd (Csh n):=qD mixed ⟨f,bn,VB,nr,bu,uA,trivial⟩;exact ZE (code:=_) g ⟨func112,by kernel_rfl,rfl,by kernel_rfl⟩ _ _ (Sf (n+1)) fun xs t r h=>by
   obtain⟨a,rfl,c,e⟩:=qc h;injection e with i j;subst i;subst j;refine⟨rfl,zM (zk 2) (by decide),fun Y Z l k K d b=>?_⟩;cases a with
   |inl v=>exact G3 n v c d b
   |inr s=>exact C8 n s c.1 d b
noncomputable def FXs:zb->Option O:=qt (α:=Val ⊕ za) (fun a=>[.agg (xi a)]) (Mm zD) (fun a=>str (YT a))
theorem Mp(v:Val)(Y:Hp)(Z:Nat)(h:aM v)(b:v.vb<=zD):hP FXs [.agg v.V] Y Z=some (str v.show,Y,Z):=
 wL (Y1:=Y) (show zz Y [.agg v.V]=some ([.agg v.V],Y) by simp only[zz,QF]) (qj (V:=fun a:Val ⊕ za=>[.agg (xi a)]) (a:=.inl v) (fun _ _=>cU) ⟨h,b,b⟩) (.inl rfl)
theorem Sg(s:za)(Y:Hp)(Z:Nat)(h:s.length<=zD):hP FXs [.agg [int 3,int 0,str s,.nil,.nil]] Y Z=some (str (ju s),Y,Z):=
 wL (Y1:=Y) (show zz Y [.agg [int 3,int 0,str s,.nil,.nil]]=some ([.agg [int 3,int 0,str s,.nil,.nil]],Y) by simp) (qj (V:=fun a:Val ⊕ za=>[.agg (xi a)]) (a:=.inr s) (fun _ _=>cU) ⟨h,by unfold zD;omega⟩) (.inl rfl)
theorem rM(v:Val)(h:aM v):v.show≠[]:=by
 have a:=h.kind;rw[QR];split
 ·simp
 split
 ·split<;>simp
 split
 ·unfold QW;intro e;have:=K3 (v.n.natAbs/1000);simp_all
 split
 ·simp[ju]
 split<;>simp
noncomputable abbrev Cxs:Ctx:=qf prog [(112,vm TB UB (Sf zD)),(14,C4)]
theorem zcd:Gd Cxs:=qD mixed ⟨C9 zD,dT,trivial⟩
theorem Da(a:Val ⊕ za)(h:Mm zD a):zH Cxs f76 [.agg (xi a)]=some (str (YT a)):=by
 have c:YT a≠[]:=by
  cases a with
  |inl v=>exact rM v h.1
  |inr s=>simp[YT,ju]
 have b:(YT a).length<=140737488355328:=by
  cases a with
  |inl v=>have:=uz v h.1;have d:=h.2.1;unfold zD at d;simp only[YT];omega
  |inr s=>have:=K2 s;have d:=h.1;unfold zD at d;simp only[YT];omega
 refine zs rfl ?_;have e:∀h:Hp,zz h [.agg (xi a)]=some ([.agg (xi a)],h):=fun h=>by
  cases a with
  |inl v=>simp only[xi,zz,QF]
  |inr s=>simp[xi]
 have f:([O.agg (xi a)].all O.noOwn)=true:=by
  cases a with
  |inl v=>simp only[xi,yC,Jc,s9,gh]
  |inr s=>rfl
 obtain⟨Y1,k,l,m,_⟩:=iy (T:=TB) (U:=UB) (F:=Sf zD) (h:=zI (zI (fun _=>none) 0 (some ⟨112,5,false,[xi a]⟩)) 1 (some ⟨38,2,false,[[.v (.pointer none),.nil]]⟩)) (id:=1) (Z':=2) (rest:=[.agg (xi a)]) (by rw[qU];rfl) (by omega) (e _) f (Mn zD a h) b;have n:=fun Z=>iw Y1 Z 1 2 (YT a) l m c (by omega)
 have g:(xi a).length=5:=by
  cases a with
  |inl v=>simp[xi]
  |inr s=>rfl
 have i:(xi a).take 5=xi a:=qy (by omega);have j:(∀x,x∈xi a->O.wY x=true)=True:=eq_true (by
  cases a with
  |inl v=>intro x o;have:=oA v;rw[zP]at this;exact this x o
  |inr s=>simp[xi,O.wY])
 simp[g,i,j,k,n,f76]
theorem uB:zh prog 76 (hP FXs):=
 Z3 zcd func76 false [] fun a b=>⟨by simp[f76],_,Da a b,qP _⟩
end Go.Q
