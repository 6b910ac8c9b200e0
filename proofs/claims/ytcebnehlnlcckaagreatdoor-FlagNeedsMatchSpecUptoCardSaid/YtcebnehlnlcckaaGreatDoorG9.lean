/- Lemmas. -/
import Derived.Shelf.Spec.SlicesGrow
import Derived.Shelf.SlSortCmp.WholeK
import Derived.Shelf.SlSortCmp.NoneTotal
import Derived.Test.YtcebnehlnlcckaaGreatDoorProg
import Derived.Test.YtcebnehlnlcckaaGreatDoorG8
set_option maxRecDepth 100000
set_option maxHeartbeats 4000000
open Go Proofs Proofs.YtcebnehlnlcckaaGreatDoor Proofs.Tryz RowKit AM SpanLaw Q Zz
open Go.IntKind renaming i64→i6
namespace Go.Q
structure qA where
 name:List UInt8
 ins:List (List UInt8)
 outs:List (List UInt8)
 cond:qW
def qA.V(s:qA):zb:=[str s.name,.sl 1 (zx s.ins),.sl 1 (zx s.outs)]++s.cond.V
theorem w8(s:qA):s.V=[str s.name,.sl 1 (zx s.ins),.sl 1 (zx s.outs),int s.cond.kind,str s.cond.attr,int s.cond.op,.sl 5 (s.cond.kP.map qu.V),str s.cond.pat,str s.cond.name,.sl 7 (s.cond.args.map qW.V)]:=by unfold qA.V;rw[q6];rfl
@[simp]theorem zfb(s:qA):s.V.length=10:=by rw[w8];rfl
@[simp]theorem zdz(s:qA):s.V.drop 3=s.cond.V:=rfl
@[simp]theorem zdA(s:qA):s.V.take 10=s.V:=qL (by simp)
@[simp]theorem zf7(s:qA)(h:0<s.V.length):s.V[0]=str s.name:=rfl
@[simp]theorem zf8(s:qA)(h:1<s.V.length):s.V[1]=.sl 1 (zx s.ins):=rfl
@[simp]theorem zf9(s:qA)(h:2<s.V.length):s.V[2]=.sl 1 (zx s.outs):=rfl
@[simp]theorem HG(s:qA):s.V.all O.wW=true:=by rw[w8];rfl
@[simp]theorem zaL(s:qA):(∀x,x∈s.V->O.wW x=true)=True:=by have:=HG s;rw[zY]at this;exact eq_true this
theorem YJ{a b:qA}(h:a.V=b.V):a=b:=by
 have f:a.cond.V=b.cond.V:=by rw[w8,w8]at h;simp only[zh,zA]at h;rw[q6,q6];simp only[zh,zA];exact h.2.2.2
 have c:=Zk f;rw[w8,w8]at h;simp only[zh,zA]at h;obtain⟨g,d,e,_⟩:=h;cases a;cases b;simp only at *;injection d with _ d
 injection e with _ e;rw[wb g,jd d,jd e,c]
theorem vO{a b:List qA}(h:O.sl 10 (a.map qA.V)=.sl 10 (b.map qA.V)):a=b:=by injection h with _ h;exact yX (fun _ _=>YJ) h
def Yr(l:List za):Nat:=(l.map fun s=>1+s.length).sum
def qA.cb(s:qA):Nat:=1+s.name.length+Yr s.ins+Yr s.outs+s.cond.cb
def Jg(l:List qA):Nat:=(l.map qA.cb).sum
theorem Kp:∀{l:List za} {s:za},s∈l->1+s.length<=Yr l
 |y::l,s,h=>by
  simp only[Yr,wc,gR];rcases zv.1 h with rfl|h
  ·omega
  ·have:=Kp h;unfold Yr at this;omega
theorem Q1:∀l:List za,l.length<=Yr l
 |[]=>zk _
 |y::l=>by have:=Q1 l;simp only[Yr,wc,gR,zP]at *;omega
theorem YK:∀{l:List qA} {s:qA},s∈l->s.cb<=Jg l
 |y::l,s,h=>by
  simp only[Jg,wc,gR];rcases zv.1 h with rfl|h
  ·omega
  ·have:=YK h;unfold Jg at this;omega
theorem Kq:∀l:List qA,l.length<=Jg l
 |[]=>zk _
 |y::l=>by
  have:=Kq l;have a:1<=y.cb:=by unfold qA.cb;omega
  simp only[Jg,wc,gR,zP]at *;omega
mutual
def qW.names:qW->List za
 | .mk k _ _ _ _ n l=>(if k=5 then[n]else[])++yw l
def yw:List qW->List za
 |[]=>[]
 |c::l=>c.names++yw l
end
theorem Qe(c:qW):c.names=(if c.kind=5 then[c.name]else[])++yw c.args:=by cases c;rfl
theorem KO:∀{l:List qW} {n:za},n∈yw l↔∃c∈l,n∈c.names
 |[],n=>by simp[yw]
 |c::l,n=>by simp[yw,KO (l:=l)]
theorem AJ{l:List qW}{k:Nat}(h:k<l.length):yw (l.drop k)=l[k].names++yw (l.drop (k+1)):=by rw[zc h,yw]
noncomputable def Y8 (l:List qA) (n:za):Nat:=(Qp (l.map qA.name) n).1
noncomputable def j7 (l:List qA) (n:za):Bool:=(Qp (l.map qA.name) n).2
noncomputable def ke (l:List qA) (c:qW):Bool:=c.names.all (j7 l)
noncomputable def yT (l:List qA) (i:Nat):List Nat:=match l[i]? with
 |some s=>s.cond.names.map (Y8 l)
 |none=>[]
def JF:Option za->List za->Int
 |_,[]=>0
 |p,k::l=>if kd k=true then(if js p k=true then 8 else JF (some k) l)else 3
def xa(l:List za):Int:=if(1000:Int)<l.length then 2 else JF none l
theorem lR{l:List za}{k:Nat}(h:k<l.length)(p:Option za):JF p (l.drop k)=if kd l[k]=true then(if js p l[k]=true then 8 else JF (some l[k]) (l.drop (k+1)))else 3:=by rw[zc h,JF]
theorem AK:∀(l:List za) (p:Option za),JF p l=0->XE l/\∀q,p=some q->∀b∈l,Op.bytesLess q b=true
 |[],p,_=>⟨.nil,fun _ _ _ hb=>by cases hb⟩
 |a::l,p,h=>by
  simp only[JF]at h;split at h
  case isFalse=>simp at h
  split at h
  ·simp at h
  rename_i e;obtain⟨f,d⟩:=AK l (some a) h;refine⟨wG.2 ⟨d a rfl,f⟩,fun q g b hb=>?_⟩;subst g;have c:Op.bytesLess q a=true:=vM (by simpa[js]using e);rcases zv.1 hb with rfl|hb
  ·exact c
  ·exact xV c (d a rfl b hb)
theorem Nd{l:List za}(h:xa l=0):XE l:=by
 unfold xa at h;split at h
 ·simp at h
 ·exact(AK l none h).1
noncomputable def Zf (s:qA):Int:=if xa s.ins=0 then(if xa s.outs=0 then(if(s.ins.any fun k=>s.outs.contains k)=true then 7 else s.cond.check)else xa s.outs)else xa s.ins
noncomputable def WD:Option za->List qA->Int
 |_,[]=>0
 |p,s::l=>if qG s.name=true then(if js p s.name=true then 8 else if Zf s=0 then WD (some s.name) l else Zf s)else 5
theorem DR{l:List qA}{k:Nat}(h:k<l.length)(p:Option za):WD p (l.drop k)=if qG l[k].name=true then(if js p l[k].name=true then 8 else if Zf l[k]=0 then WD (some l[k].name) (l.drop (k+1))else Zf l[k])else 5:=by rw[zc h,WD]
theorem lS:∀(l:List qA) (p:Option za),WD p l=0->(XE (l.map qA.name)/\∀q,p=some q->∀b∈l,Op.bytesLess q b.name=true)/\∀s∈l,qG s.name=true/\Zf s=0
 |[],p,_=>⟨⟨.nil,fun _ _ _ hb=>by cases hb⟩,fun _ hb=>by cases hb⟩
 |a::l,p,h=>by
  simp only[WD]at h;split at h
  case isFalse=>simp at h
  rename_i e;split at h
  ·simp at h
  rename_i f;split at h
  case isFalse hs=>exact(hs h).elim
  rename_i hs;obtain⟨⟨g,d⟩,i⟩:=lS l (some a.name) h;refine⟨⟨?_,fun q j b hb=>?_⟩,fun s E4=>?_⟩
  ·unfold XE;rw[wc];refine wG.2 ⟨fun x k=>?_,g⟩;obtain⟨b,hb,rfl⟩:=qw.1 k;exact d a.name rfl b hb
  ·subst j;have c:Op.bytesLess q a.name=true:=vM (by simpa[js]using f);rcases zv.1 hb with rfl|hb
   ·exact c
   ·exact xV c (d a.name rfl b hb)
  ·rcases zv.1 E4 with rfl|E4
   ·exact⟨e,hs⟩
   ·exact i s E4
noncomputable def Nf (l:List qA):List Int->List Nat->Bool×List Int:=qP (yE (yT l) 268435457)
noncomputable def lT (l:List qA):Bool:=(Nf l (List.replicate l.length 0) (List.range l.length)).1
noncomputable def kl (l:List qA):Int:=if(100:Int)<l.length then 2 else if WD none l=0 then(if(l.all fun s=>ke l s.cond)=true then(if lT l=true then 12 else 0)else 9)else WD none l
structure UI (l:List qA):Prop where
 len:l.length<=100
 up:XE (l.map qA.name)
 right:∀s∈l,qG s.name=true/\Zf s=0
 known:∀s∈l,∀n∈s.cond.names,j7 l n=true
 acyc:∀i:Nat,¬Wr (fun a b=>b∈yT l a) i i
theorem Ng{l:List qA}{n:za}(h:j7 l n=true):Y8 l n<l.length:=by have:=Nc (l:=l.map qA.name) (s:=n) h;rw[w9]at this;exact this
theorem RR{l:List qA}(h:∀s∈l,∀n∈s.cond.names,j7 l n=true)(i:Nat):∀j∈yT l i,j<l.length:=by
 intro j a;unfold yT at a;split at a
 ·rename_i s hs;obtain⟨n,b,rfl⟩:=qw.1 a;exact Ng (h s (zL hs) n b)
 ·cases a
theorem oY{l:List qA}{i:Nat}(h:l.length<=i):yT l i=[]:=by unfold yT;rw[jr h]
theorem Kr(n:Nat):vN (List.replicate n 0)=n:=by simp[vN]
theorem AL{l:List qA}(H:l.length<=100)(h:∀s∈l,∀n∈s.cond.names,j7 l n=true):lT l=true↔∃i:Nat,Wr (fun a b=>b∈yT l a) i i:=by
 constructor
 ·intro F;have f:∀(q:List Nat) (s:List Int),(∀g:Nat,s[g]?≠some 1)->(qP (yE (yT l) 268435457) s q).1=true->∃c,Wr (fun a b=>b∈yT l a) c c:=by
   intro q
   induction q with
   |nil=>intro s _ e;simp[qP]at e
   |cons a q r=>
    intro s hs e;simp only[qP]at e;split at e
    ·rename_i t;exact aJ (yT l) _ s a (fun g k=>(hs g k).elim) t
    ·exact r _ (fun g k=>hs g (((jt (yT l) _ s a).Lg g).1 k)) e
  refine f _ _ (fun g k=>?_) F;rw[xI]at k;split at k<;>simp at k
 ·rintro⟨i,hi⟩;refine ZS fun u=>?_
  have u:lT l=false:=by simpa using u
  have hs:=RR h;have f:∀(q:List Nat) (s:List Int),(∀v∈s,v=0\/v=1\/v=2)->s.length=l.length->vN s<268435457->(∀b∈q,b<l.length)->(∀j:Nat,s[j]?=some 2->Acc (fun x y=>x∈yT l y) j)->(qP (yE (yT l) 268435457) s q).1=false ->
    ∀b,b∈q->Acc (fun x y=>x∈yT l y) b:=by
   intro q
   induction q with
   |nil=>intro s _ _ _ _ _ _ b d;cases d
   |cons a q r=>
    intro s o m C D d e;simp only[qP]at e;split at e
    ·simp at e
    ·rename_i t;have w:=jt (yT l) 268435457 s a;obtain⟨E,G⟩:=VF (yT l) _ s a o C (by rw[m];exact D a (by simp)) (fun x b d=>by rw[m];exact hs x b d) d (by simpa using t);intro b Th;rcases zv.1 Th with rfl|Th
     ·exact E b G
     ·exact r _ (w.kP o) (w.len.trans m) (vY w.wh C) (fun b d=>D b (by simp[d])) E e b Th
  have p:=f (List.range l.length) (List.replicate l.length 0) (fun v o=>by rw[zgg]at o;exact .inl o.2) (by simp) (by rw[Kr];omega) (fun b d=>ye.1 d)
   (fun j z=>by rw[xI]at z;split at z<;>simp at z) u
  obtain⟨b,d,_⟩:=hi.head;have A:i<l.length:=by
   refine Nat.lt_of_not_le fun B=>?_
   rw[oY B]at d;cases d
  exact AH (p i (ye.2 A)) hi
theorem RS{l:List qA}(h:kl l=0):UI l:=by
 unfold kl at h;split at h
 ·simp at h
 rename_i g;split at h
 case isFalse hs=>exact(hs h).elim
 rename_i hs;split at h
 case isFalse=>simp at h
 rename_i c;split at h
 ·simp at h
 rename_i a;obtain⟨⟨d,_⟩,e⟩:=lS l none hs;have b:∀s∈l,∀n∈s.cond.names,j7 l n=true:=fun s hs n f=>zY.1 (zY.1 c s hs) n f
 refine⟨by omega,d,e,b,fun i hi=>?_⟩;exact a ((AL (by omega) b).2 ⟨i,hi⟩)
mutual
def qW.CC(gA:za->Bool)(b:qW->Bool):qW->Bool
 | .mk k a o v p n l=>if k=1 then allM gA b l else if k=2 then anyM gA b l else if k=3 then !(zek gA b l)else if k=5 then gA n else b (.mk k a o v p n l)
def allM(gA:za->Bool)(a:qW->Bool):List qW->Bool
 |[]=>true
 |c::l=>c.CC gA a&&allM gA a l
def anyM(gA:za->Bool)(a:qW->Bool):List qW->Bool
 |[]=>false
 |c::l=>c.CC gA a||anyM gA a l
def zek(gA:za->Bool)(a:qW->Bool):List qW->Bool
 |[]=>false
 |c::_=>c.CC gA a
end
def memG(l:List qA)(a:za)(b:qW->Bool)(i:Nat)(f:za->Bool):Bool:=match l[i]? with
 |some s=>s.ins.contains a||(!s.outs.contains a&&s.cond.CC f b)
 |none=>false
noncomputable def memF (l:List qA) (a:za) (b:qW->Bool):Nat->Bool:=fixT (fun i f=>memG l a b i fun n=>f (Y8 l n)) 101
noncomputable def zdB (l:List qA) (b:za) (a:qW->Bool) (c:qW):Bool:=c.CC (fun n=>memF l b a (Y8 l n)) a
theorem zaM{l:List qA}(a:XE (l.map qA.name)){i:Nat}{s:qA}(h:l[i]?=some s):Y8 l s.name=i/\j7 l s.name=true:=by have:=lQ a (j:=i) (s:=s.name) (by rw[qo,h];rfl);unfold Y8 j7;rw[this];exact⟨rfl,rfl⟩
noncomputable def DS:zb->Option O:=qf (α:=qA×za) (fun a=>[.agg a.1.V,str a.2]) (fun _=>True) (fun a=>int (yJ a.1.name a.2))
theorem fk(x:qA)(s:za)(Y:Hp)(Z:Nat):zg false [] DS [.agg x.V,str s] Y Z=some (int (yJ x.name s),Y,Z):=
 XX (x,s) _ _ (by simp[w8]) (fun a b e=>by obtain⟨c,d⟩:=a;obtain⟨f,g⟩:=b;simp only[zh,zA,O.agg.injEq]at e;rw[YJ e.1,wb e.2]) trivial (.inl rfl)
noncomputable abbrev zaN:Ctx:=zR prog [(27,zg false [] (Hq yJ))]
theorem AN:zf prog 104 (zg false [] DS):=
 vX (zS mixed ⟨kC,trivial⟩:AM.Good zaN _) func104 false [] fun⟨x,s⟩ _=>⟨by simp[f104],_,zm rfl (by simp[f104,w8]),qc _⟩
noncomputable def Nh:zb->Option O:=qf (α:=List qA×za) (fun a=>[.sl 10 (a.1.map qA.V),str a.2,.fn (.func 104) [] []]) (fun a=>a.1.length<=zw) (fun a=>.wP [int (Qp (a.1.map qA.name) a.2).1,wo (Qp (a.1.map qA.name) a.2).2])
theorem DT(l:List qA)(s:za)(Y:Hp)(Z:Nat)(h:l.length<=zw):zg false [] Nh [.sl 10 (l.map qA.V),str s,.fn (.func 104) [] []] Y Z=some (.wP [int (Qp (l.map qA.name) s).1,wo (Qp (l.map qA.name) s).2],Y,Z):=
 XX (l,s) _ _ rfl (fun a b e=>by obtain⟨f,g⟩:=a;obtain⟨i,j⟩:=b;simp only[zh,zA]at e;obtain⟨c,d⟩:=e;injection c with _ c;rw[yX (fun _ _=>YJ) c,wb d]) h (.inl rfl)
noncomputable abbrev T8:Ctx:=zR prog [(104,zg false [] DS)]
theorem HH(l:List qA)(s:za)(w:l.length<=zw):zo T8 f103 [.sl 10 (l.map qA.V),str s,.fn (.func 104) [] []]=some (.wP [int (Qp (l.map qA.name) s).1,wo (Qp (l.map qA.name) s).2]):=by
 refine zm rfl ?_;unfold zw at w;have h:(l.map qA.name).length=l.length:=by simp
 simp;refine W8 (fun st=>st.U 0=.sl 10 (l.map qA.V)/\st.U 1=str s/\st.U 2=.fn (.func 104) [] []/\st.U 8=int l.length/\∃lo hi:Nat,lo<=hi/\hi<=l.length/\st.U 9=int lo/\st.U 10=int hi/\ZT (v8 (l.map qA.name) s) 0 (l.map qA.name).length=ZT (v8 (l.map qA.name) s) lo hi)
  (fun st=>(bA (st.U 10)).toNat-(bA (st.U 9)).toNat) ⟨by simp,by simp,by simp,by simp,0,l.length,by simp,by simp,by simp,by simp,by rw[h]⟩ ?_
 rintro⟨U,Y,Z⟩ ⟨i,j,k,n,lo,hi,y,t,o,d,f⟩;simp only at i j k n o d;by_cases b:lo<hi
 ·have a:=fun x Y Z=>fk x s Y Z
  have v:=wu ((lo:Int)+hi);have z:(lo+hi)/2<l.length:=by omega
  obtain⟨m,A⟩:∃m,m=(lo+hi)/2:=⟨_,rfl⟩;have g:i6.wrap ((IntKind.u64.wrap ((lo:Int)+hi)).fdiv (2 ^ min 1 IntKind.u64.bits))=(m:Int):=by
   have B:IntKind.u64.wrap ((lo:Int)+hi)=(lo:Int)+hi:=by rw[IntKind.wrap_u64];omega
   have C:(2 ^ min 1 IntKind.u64.bits:Int)=2:=by decide
   rw[B,C,Cm _ (by omega),wR (by omega) (by omega)];omega
  have e:m<l.length:=by omega
  have D:=ql m;have u:v8 (l.map qA.name) s m=decide (yJ l[m].name s<0):=by simp[v8,e]
  rw[Xj (lo:=lo) b,<-A,u]at f;have c:=a l[m];simp only[w8]at c;by_cases r:yJ l[m].name s<0
  ·simp only[r,decide_true,qB]at f;simp[i,j,k,n,o,d,b,v,g,e,c,r,D,w8];exact⟨⟨m+1,hi,by omega,t,by omega,rfl,by rw[h]at f;exact f⟩,by omega⟩
  ·simp only[r,decide_false,zq,qn]at f;simp[i,j,k,n,o,d,b,v,g,e,c,r,w8];exact⟨⟨lo,m,by omega,by omega,rfl,rfl,by rw[h]at f;exact f⟩,by omega⟩
 ·have f:ZT (v8 (l.map qA.name) s) 0 (l.map qA.name).length=lo:=by rw[f,cj (lo:=lo) b]
  have a:=fun x Y Z=>fk x s Y Z
  unfold Qp;rw[f];by_cases p:lo<l.length
  ·have c:=a l[lo];simp only[w8]at c;simp[i,j,k,n,o,d,b,p,c,w8,f103,zI]
  ·have q:l[lo]?=none:=jr (by omega);simp[i,j,k,n,o,d,b,p,q,f103,zI]
theorem DU:zf prog 103 (zg false [] Nh):=
 vX (qq (q:=[104]) mixed ⟨AN,fun _=>zu _ _,trivial⟩:AM.Good T8 _) func103 false [] fun⟨l,s⟩ a=>⟨zG (zk 3) (by decide),_,HH l s a,qc _⟩
noncomputable def AO:zb->Option O:=qf (α:=List qA×za) (fun a=>[.sl 10 (a.1.map qA.V),str a.2]) (fun a=>a.1.length<=zw) (fun a=>.wP [int (Qp (a.1.map qA.name) a.2).1,wo (Qp (a.1.map qA.name) a.2).2])
theorem lU(l:List qA)(s:za)(Y:Hp)(Z:Nat)(h:l.length<=zw):zg false [] AO [.sl 10 (l.map qA.V),str s] Y Z=some (.wP [int (Qp (l.map qA.name) s).1,wo (Qp (l.map qA.name) s).2],Y,Z):=
 XX (l,s) _ _ rfl (fun a b e=>by obtain⟨f,g⟩:=a;obtain⟨i,j⟩:=b;simp only[zh,zA]at e;obtain⟨c,d⟩:=e;injection c with _ c;rw[yX (fun _ _=>YJ) c,wb d]) h (.inl rfl)
noncomputable abbrev zdC:Ctx:=zR prog [(103,zg false [] Nh)]
theorem lV:zf prog 63 (zg false [] AO):=
 vX (zS mixed ⟨DU,trivial⟩:AM.Good zdC _) func63 false [] fun⟨l,s⟩ a=>by
  have b:=fun Y Z=>DT l s Y Z a
  exact⟨by simp[f63],_,zm rfl (by simp[b,zI,f63]),qc _⟩
noncomputable def PF (out:List za->O) (a:List za->Prop):zb->Option O:=qf (α:=List za) (fun l=>[.sl 1 (zx l)]) a out
theorem ck(out:List za->O)(c:List za->Prop)(l:List za)(Y:Hp)(Z:Nat)(h:c l)(d:(out l).flat=true):zg false [] (PF out c) [.sl 1 (zx l)] Y Z=some (out l,Y,Z):=
 XX l _ _ rfl (fun a b e=>by
  simp only[zh,zA]at e;injection e with _ e
  exact jd e) h (.inl d)
def vx(l:List za)(k:Nat):Option za:=if k=0 then none else l[k-1]?
noncomputable abbrev Cck:Ctx:=zR prog [(71,zg false [] (FS kd))]
theorem lW(l:List za)(h:Yr l<=zw):zo Cck f56 [.sl 1 (zx l)]=some (int (xa l)):=by
 have D:=Q1 l;have z:=fun s (hs:s∈l)=>Kp hs
 unfold zw at h;refine zm rfl ?_;unfold xa;by_cases o:(1000:Int)<l.length
 ·rw[ze o];simp[o,f56]
 rw[zd o];simp[o];refine zF (fun k U Y Z=>U 0=.sl 1 (zx l)/\U 8=.sl 1 (zx l)/\U 9=int l.length/\U 10=int k/\JF none l=JF (vx l k) (l.drop k)) l.length
  ⟨by simp,by simp,by simp,by simp,by simp[vx]⟩ ?_
 rintro k U Y Z E ⟨f,g,i,c,a⟩;by_cases b:k<l.length
 ·have F:=ql k;obtain⟨s,hs⟩:=yx (l[k]);have d:s.length<=zw:=by have:=z s (by rw[<-hs];exact zj b);unfold zw;omega
  rw[lR b,hs]at a;have m:vx l (k+1)=some s:=by simp[vx,b,hs]
  cases e:kd s
  ·rw[e,zd (by simp)]at a;simp[f,g,i,c,b,hs,d,e,a,f56]
  rw[e,ze rfl]at a;by_cases A:k=0
  ·subst A;have B:=wu 1;simp only[vx,js,qB,zq,qn]at a;simp[f,g,i,c,b,hs,d,e,B];exact⟨by omega,by rw[a,m];simp⟩
  ·obtain⟨j,rfl⟩:∃j,k=j+1:=⟨k-1,by omega⟩;have q:j<l.length:=by omega
   have t:i6.wrap ((j:Int)+1-1)=(j:Int):=by rw[wR (by omega) (by omega)];omega
   have n:=wu (j:Int);have u:((j:Int)+1).toNat=j+1:=by omega
   have v:0<(j:Int)+1:=by omega
   have w:0<=(j:Int)+1:=by omega
   have x:(j:Int)+1<l.length:=by omega
   have C:=wu ((j:Int)+1+1);have y:(Op.bytesLess s l[j]||s==l[j])=Vs s l[j]:=rfl;have r:vx l (j+1)=some l[j]:=by simp[vx,q]
   simp only[r,js]at a;cases p:Vs s l[j]
   ·rw[p,zd (by simp)]at a;simp[f,g,i,c,b,q,hs,d,e,t,n,u,v,w,x,y,p,C];exact⟨by omega,by rw[a,m]⟩
   ·rw[p,ze rfl]at a;simp[f,g,i,c,b,q,hs,d,e,t,n,u,v,w,x,y,p,a,f56]
 ·obtain rfl:k=l.length:=by omega
  rw[zn]at a;have a:JF none l=0:=by rw[a];rfl
  simp[f,g,i,c,a,f56]
theorem gh:zf prog 56 (zg false [] (PF (fun l=>int (xa l)) fun l=>Yr l<=zw)):=
 vX (zS mixed ⟨YE,trivial⟩:AM.Good Cck _) func56 false [] fun l a=>⟨zG (zk 1) (by decide),_,lW l a,qc _⟩
theorem nt:zf prog 132 (zg false [] Vx):=
 yt (fn:=f132) jS (qN func132) false [] _ fun args r h=>by
  unfold Vx at h;split at h
  ·injection h with h;subst h;exact⟨by simp[f132],_,zm rfl (by simp[f132]),qc _⟩
  ·cases h
def lsP(a b:za):O:=wo (Op.bytesLess a b)
theorem RT(a b:za)(Y:Hp)(Z:Nat)(h:a.length<=zw)(c:b.length<=zw):zg false [] (Yc lsP fun _ _=>True) [str a,str b] Y Z=some (wo (Op.bytesLess a b),Y,Z):=xS _ _ a b Y Z h c trivial rfl
noncomputable abbrev Cls:Ctx:=zR prog [(131,zg false [] Vx)]
theorem DV:zf prog 94 (zg false [] (Yc lsP fun _ _=>True)):=
 yt (fn:=f94) (zS mixed ⟨bP,trivial⟩:AM.Good Cls _) (qN func94) false [] _ fun args r h=>by obtain⟨a,b,rfl,c,d,_,rfl⟩:=xg h;exact⟨by simp[f94],_,zm rfl (by simp[lsP,f94]),qc _⟩
noncomputable def FKs (out:List za->za->O):zb->Option O:=qf (α:=List za×za) (fun a=>[.sl 1 (zx a.1),str a.2]) (fun a=>Yr a.1<=zw/\a.2.length<=zw) (fun a=>out a.1 a.2)
theorem AP(out:List za->za->O)(l:List za)(s:za)(Y:Hp)(Z:Nat)(h:Yr l<=zw)(d:s.length<=zw)(f:(out l s).flat=true):zg false [] (FKs out) [.sl 1 (zx l),str s] Y Z=some (out l s,Y,Z):=
 XX (l,s) _ _ rfl (fun a b e=>by obtain⟨i,j⟩:=a;obtain⟨k,m⟩:=b;simp only[zh,zA]at e;obtain⟨c,g⟩:=e;injection c with _ c;rw[jd c,wb g]) ⟨h,d⟩ (.inl f)
noncomputable def bkP (l:List za) (s:za):O:=.wP [int (Qp l s).1,wo (Qp l s).2]
noncomputable def hkP (l:List za) (s:za):O:=wo (Qp l s).2
noncomputable abbrev Cbk:Ctx:=zR prog [(94,zg false [] (Yc lsP fun _ _=>True)),(132,zg false [] Vx)]
theorem DW(l:List za)(s:za)(A:Yr l<=zw)(hs:s.length<=zw):zo Cbk f100 [.sl 1 (zx l),str s]=some (bkP l s):=by
 refine zm rfl ?_;have J:=Q1 l;have B:=fun s (hs:s∈l)=>Kp hs
 unfold zw at A hs;have i:(zx l).length=l.length:=by simp[zx]
 have j:∀(k:Nat) (h:k<(zx l).length) (C:k<l.length),(zx l)[k]=[str l[k]]:=fun k h C=>by simp[zx]
 simp[i];refine W8 (fun st=>st.U 0=.sl 1 (zx l)/\st.U 1=str s/\st.U 6=int l.length/\∃lo hi:Nat,lo<=hi/\hi<=l.length/\st.U 7=int lo/\st.U 8=int hi/\ZT (v8 l s) 0 l.length=ZT (v8 l s) lo hi)
  (fun st=>(bA (st.U 8)).toNat-(bA (st.U 7)).toNat) ⟨by simp,by simp,by simp,0,l.length,by simp,by simp,by simp,by simp,rfl⟩ ?_
 rintro⟨U,Y,Z⟩ ⟨p,q,r,lo,hi,D,w,t,u,e⟩;simp only at p q r t u;by_cases c:lo<hi
 ·have z:=wu ((lo:Int)+hi);have E:(lo+hi)/2<l.length:=by omega
  obtain⟨m,x⟩:∃m,m=(lo+hi)/2:=⟨_,rfl⟩;have f:i6.wrap ((IntKind.u64.wrap ((lo:Int)+hi)).fdiv (2 ^ min 1 IntKind.u64.bits))=(m:Int):=by
   have F:IntKind.u64.wrap ((lo:Int)+hi)=(lo:Int)+hi:=by rw[IntKind.wrap_u64];omega
   have G:(2 ^ min 1 IntKind.u64.bits:Int)=2:=by decide
   rw[F,G,Cm _ (by omega),wR (by omega) (by omega)];omega
  have a:m<l.length:=by omega
  have b:m<(zx l).length:=by omega
  have H:=ql m;have y:v8 l s m=Op.bytesLess l[m] s:=by simp only[v8,zl a];rw[qx,qz];exact Ko _ _
  rw[Xj (lo:=lo) c,<-x,y]at e;have d:=fun Y Z=>RT l[m] s Y Z (by have:=B _ (zj a);unfold zw;omega) (by unfold zw;omega)
  cases o:Op.bytesLess l[m] s
  ·rw[o,zd (by simp)]at e;rw[o]at d;simp[p,q,r,t,u,c,z,f,i,b,a,j m b a,d];exact⟨⟨lo,m,by omega,by omega,rfl,rfl,e⟩,by omega⟩
  ·rw[o,ze rfl]at e;rw[o]at d;simp[p,q,r,t,u,c,z,f,i,b,a,j m b a,d,H];exact⟨⟨m+1,hi,by omega,w,by omega,rfl,e⟩,by omega⟩
 ·have e:ZT (v8 l s) 0 l.length=lo:=by rw[e,cj (lo:=lo) c]
  unfold bkP Qp;rw[e];by_cases n:lo<l.length
  ·have g:lo<(zx l).length:=by omega
   have I:(yJ l[lo] s==0)=(l[lo]==s):=by rw[qx,jq,jq];exact xz _ _
   cases o:l[lo]==s <;>
    simp[p,q,r,t,u,c,n,g,j lo g n,I,o,f100,zI]
  ·have v:l[lo]?=none:=jr (by omega);simp[p,q,r,t,u,c,n,v,f100,zI]
theorem AQ:zf prog 100 (zg false [] (FKs bkP)):=
 vX (zS mixed ⟨DV,nt,trivial⟩:AM.Good Cbk _) func100 false [] fun⟨l,s⟩ ⟨a,hs⟩=>⟨zG (zk 2) (by decide),_,DW l s a hs,qc _⟩
noncomputable abbrev Chk:Ctx:=zR prog [(100,zg false [] (FKs bkP))]
theorem sv:zf prog 59 (zg false [] (FKs hkP)):=
 vX (zS mixed ⟨AQ,trivial⟩:AM.Good Chk _) func59 false [] fun⟨l,s⟩ ⟨b,hs⟩=>by
  have a:=fun Y Z=>AP bkP l s Y Z b hs rfl
  simp only[bkP]at a;exact⟨by simp[f59],_,zm rfl (by simp[a,hkP,zI,f59]),qc _⟩
theorem RU(l:List za)(s:za)(Y:Hp)(Z:Nat)(h:Yr l<=zw)(a:s.length<=zw):zg false [] (FKs hkP) [.sl 1 (zx l),str s] Y Z=some (wo (Qp l s).2,Y,Z):=AP hkP l s Y Z h a rfl
theorem RV{l:List za}(a:XE l)(s:za):(Qp l s).2=l.contains s:=by
 rw[qx,List.contains_iff_mem];constructor
 ·intro h;exact zL (ss h)
 ·intro h;obtain⟨j,b⟩:=mJ h;rw[lQ a b]
end Go.Q
namespace Go.AM
def HI(Q:St->Prop)(K:Exit->St->Prop)(e:Exit)(st:St):Prop:=match e with
 | .normal=>Q st
 |e=>K e st
@[simp]theorem zfM(Q:St->Prop)(K:Exit->St->Prop)(st:St):HI Q K .normal st=Q st:=rfl
@[simp]theorem zfN(Q:St->Prop)(K:Exit->St->Prop)(st:St):HI Q K .ret st=K .ret st:=rfl
@[simp]theorem zfO(Q:St->Prop)(K:Exit->St->Prop)(i:Nat)(st:St):HI Q K (.exit i) st=K (.exit i) st:=rfl
theorem Qf{C:Ctx}{a b:Code}{st:St}{K:Exit->St->Prop}(Q:St->Prop)(d:Zy C a st (HI Q K))(f:∀st,Q st->Zy C b st K):Zy C (.seq a b) st K:=by
 rw[Fj];refine d.mono fun e st c=>?_
 cases e
 case normal=>exact f _ c
 all_goals exact c
theorem ju{C:Ctx}{a b:Code}{st:St}{K:Exit->St->Prop}(Q:(Nat->O)->Hp->Nat->Prop)(c:Zy C a st (HI (fun st=>Q st.U st.Y st.Z) K))(d:∀U Y Z,Q U Y Z->Zy C b ⟨U,Y,Z⟩ K):Zy C (.seq a b) st K:=
 Qf _ c fun st h=>d st.U st.Y st.Z h
end Go.AM
namespace Go.Q
noncomputable def fl (g:Nat) (sp:AM.Spec):Nat->AM.Spec
 | 0=>fun _ _ _=>none
 |k+1=>yq (zR prog [(61,fl g sp k),(g,sp)]) f61
theorem Ks{f:FuncId}(a:∃fn,prog.funcs[f]?=some fn/\(fn.name== "runtime.NumGoroutine")=false/\fn.body.isNone=false):zf prog f (fun _ _ _=>none):=⟨a,fun _ _ _ _ _ _ h=>by cases h⟩
theorem aK{g:Nat}{sp:AM.Spec}(h:zf prog g sp):∀k,zf prog 61 (fl g sp k)
 | 0=>Ks ⟨_,func61,by kernel_rfl,by kernel_rfl⟩
 |k+1=>kQ (qq (q:=[]) (l:=[(61,fl g sp k),(g,sp)]) mixed ⟨aK h k,by simp,h,by simp,trivial⟩) func61
def kz{U:Type}(T:Nat->Prop)(Rep:U->Hp->Prop)(r:O)(s:U)(Y:Hp)(Z:Nat)(x:O)(a:Hp)(b:Nat):Prop:=x=r/\Rep s a/\Z<=b/\∀j,j<Z->¬T j->a j=Y j
theorem xW{S α:Type}{f:S->α->Bool×S}{s:S}{a:α}{l:List α}(h:(f s a).1=true):qP f s (a::l)=(true,(f s a).2):=by rw[qP,ze h]
theorem xb{S α:Type}{f:S->α->Bool×S}{s:S}{a:α}{l:List α}(h:(f s a).1=false):qP f s (a::l)=qP f (f s a).2 l:=by rw[qP,zd (by simp[h])]
theorem JG{α:Type}(f:α->Bool):∀l:List α,(qP (fun(_:Unit) n=>(f n,())) () l).1=l.any f
 |[]=>rfl
 |a::l=>by
  cases h:f a
  ·simp[qP,h,JG f l]
  ·simp[qP,h]
theorem lX{U:Type}{T:Nat->Prop}{Rep:U->Hp->Prop}{step:U->za->Bool×U}{Q:za->Prop}{g:Nat}{sp:AM.Spec}{cap:zb}{Z0:Nat}(t:¬g=61)
  (X:∀j,T j->j<Z0) (K:∀s Y j b,Z0<=j->Rep s Y->Rep s (qR Y j b))
  (hS:∀s n Y Z,Q n->n.length<=zw->Z0<=Z->Rep s Y->∃x A B,sp (str n::cap) Y Z=some (x,A,B)/\kz T Rep (wo (!(step s n).1)) (step s n).2 Y Z x A B) :
  ∀(k:Nat) (c:qW) (s:U) (Y:Hp) (Z:Nat),c.cb<=k->c.cb<=zw->(∀n∈c.names,Q n)->Z0<=Z->Rep s Y ->
   ∃x A B,fl g sp k [.agg c.V,.fn (.func g) [] cap] Y Z=some (x,A,B)/\kz T Rep (wo (!(qP step s c.names).1)) (qP step s c.names).2 Y Z x A B
 | 0,c,_,_,_,h,_,_,_,_=>absurd h (by have:=iW c;omega)
 |k+1,c,s,C,a,hk,hl,hq,L,M=>by
  have Gr:=Jm c;have hal:=xR c.args;have f:=Qe c;unfold fl yq;rw[ze (by simp[f61])];refine qF rfl ?_;have N:=hl;unfold zw at N;have D:Rep s (qR C a (some ⟨70,7,false,[c.V]⟩)):=K _ _ _ _ L M;have P:¬T a:=fun h=>by have:=X _ h;omega
  refine ju (fun U Y Z=>U 1=.fn (.func g) [] cap/\U 2=.ref a 0 0/\Y=qR C a (some ⟨70,7,false,[c.V]⟩)/\Z=a+1) (by simp) ?_;rintro U Y Z ⟨o,z,rfl,rfl⟩;refine ju (fun U Y Z=>U 1=.fn (.func g) [] cap/\U 2=.ref a 0 0/\a<Z/\Y a=some ⟨70,7,false,[c.V]⟩/\∃r,Rep r Y/\(∀j,j<a->¬T j->Y j=C j)/\qP step s c.names=qP step r (yw c.args)) ?_ ?_
  ·by_cases E:c.kind=5
   ·rw[ze E]at f;obtain⟨x,Y2,R,p,rfl,F,n2,G⟩:=hS s c.name _ (a+1) (hq c.name (by rw[f];simp)) (by unfold zw;omega) (by omega) D;cases e:(step s c.name).1
    ·rw[e]at p;simp[o,z,E,t,p];refine⟨by omega,by rw[G a (by omega) P];simp,(step s c.name).2,F,fun j J q=>by rw[G j (by omega) q,zM _ _ _ _ (by omega)],?_⟩;rw[f];exact xb e
    ·rw[e]at p;have hv:qP step s c.names=(true,(step s c.name).2):=by rw[f];exact xW e
     simp[o,z,E,t,p,kz,hv,f61];exact⟨F,by omega,fun j J q=>by rw[G j (by omega) q,zM _ _ _ _ (by omega)]⟩
   ·rw[zd E,ku]at f;have S:=jD E;simp[o,z,S];exact⟨s,D,fun j J q=>by rw[zM _ _ _ _ (by omega)],by rw[f]⟩
  rintro U Y Z ⟨o,z,u,hb,r,H,l,d⟩;simp[z,hb];refine zF (fun k U Y Z=>U 1=.fn (.func g) [] cap/\U 18=.sl 7 (c.args.map qW.V)/\U 19=int c.args.length/\U 20=int k/\a<Z/\(∀j,j<a->¬T j->Y j=C j)/\∃s2,Rep s2 Y/\qP step s c.names=qP step s2 (yw (c.args.drop k))) c.args.length
   ⟨by simp[o],by simp,by simp,by simp,u,l,r,H,by simpa using d⟩ ?_
  clear o z u hb H l d r U Y Z;rintro i U Y Z hi ⟨o,v,w,y,u,l,r,H,d⟩;by_cases m:i<c.args.length
  ·have hm:=Z8 (zj m);have hw:=ql i;have W:∀n∈c.args[i].names,Q n:=fun n q=>hq n (by rw[f];exact zK.2 (.inr (KO.2 ⟨_,zj m,q⟩)))
   obtain⟨x,Y2,R,p,rfl,F,n2,G⟩:=lX t X K hS k c.args[i] r (qR Y Z (some ⟨70,7,false,[c.args[i].V]⟩)) (Z+1) (by omega) (by unfold zw;omega) W (by omega) (K _ _ _ _ (by omega) H);rw[AJ m,oW]at d;have I:∀j,j<a->¬T j->Y2 j=C j:=fun j J q=>by rw[G j (by omega) q,zM _ _ _ _ (by omega)];exact l j J q
   cases e:(qP step r c.args[i].names).1
   ·rw[e,zd (by simp)]at d;rw[e]at p;simp[o,v,w,y,m,p,hw];exact⟨by omega,by omega,I,_,F,d⟩
   ·rw[e,ze rfl]at d;rw[e]at p;simp[o,v,w,y,m,p,kz,d,f61];exact⟨F,by omega,I⟩
  ·obtain rfl:i=c.args.length:=by omega
   rw[zn]at d;simp only[yw,qP]at d;simp[o,v,w,y,kz,d,f61];exact⟨H,by omega,l⟩
noncomputable def AR (Ta:Zu):AM.Spec:=yq (zR prog Ta) f107
noncomputable def FE (Ta:Zu):AM.Spec:=yq (zR prog [(107,AR Ta)]) f66
theorem DX{Ta:Zu}(h:XA True prog [] Ta):zf prog 107 (AR Ta):=kQ (qq (q:=[]) mixed h) func107
theorem DY{Ta:Zu}(h:XA True prog [] Ta):zf prog 66 (FE Ta):=kQ (qq (q:=[]) (l:=[(107,AR Ta)]) mixed ⟨DX h,by simp,trivial⟩) func66
theorem Ni{U:Type}{T:Nat->Prop}{Rep:U->Hp->Prop}{step:U->qu->Bool×U}{Ta:Zu}{g:Nat}{sp:AM.Spec}{fi cap:zb}{Z0:Nat}(A:lookup Ta g=some sp)(xs:List qu)(D:xs.length<=zw)
  (E:∀s x Y Z,x∈xs->Z0<=Z->Rep s Y->∃r b c,sp (fi++.agg x.V::cap) Y Z=some (r,b,c)/\kz T Rep (wo (step s x).1) (step s x).2 Y Z r b c)
  (h:U) (i:Hp) (a:Nat) (P:Z0<=a) (F:Rep h i) :
  ∃r b c,FE Ta [.sl 5 (xs.map qu.V),.fn (.func g) fi cap] i a=some (r,b,c)/\kz T Rep (wo (qP step h xs).1) (qP step h xs).2 i a r b c:=by
 have q:∃r b c,AR Ta [.sl 5 (xs.map qu.V),.fn (.func g) fi cap] i a=some (r,b,c)/\∃z:Int,r=int z/\decide (0<=z)=(qP step h xs).1/\kz T Rep (int z) (qP step h xs).2 i a r b c:=by
  unfold AR yq;rw[ze (by simp[f107])];refine qF rfl ?_;unfold zw at D;simp;refine zF (fun k U Y Z=>U 0=.sl 5 (xs.map qu.V)/\U 1=.fn (.func g) fi cap/\U 7=int xs.length/\U 8=int k/\a<=Z/\(∀j,j<a->¬T j->Y j=i j)/\∃s,Rep s Y/\qP step h xs=qP step s (xs.drop k)) xs.length ⟨by simp,by simp,by simp,by simp,zk _,fun _ _ _=>rfl,h,F,by simp⟩ ?_;rintro k U Y Z Q ⟨t,u,v,w,y,m,s,n,f⟩;by_cases d:k<xs.length
  ·have G:=ql k;obtain⟨x,p⟩:=yx (xs[k]);obtain⟨r,Y2,H,l,rfl,B,R,I⟩:=E s x Y Z (by rw[<-p];exact zj d) (by omega) n;rw[zc d,p]at f;have o:∀j,j<a->¬T j->Y2 j=i j:=fun j J C=>by rw[I j (by omega) C];exact m j J C
   cases e:(step s x).1
   ·rw[xb e]at f;rw[e]at l;simp[t,u,v,w,d,p,A,l,G];exact⟨by omega,by omega,o,_,B,f⟩
   ·rw[xW e]at f;rw[e]at l;simp[t,u,v,w,d,p,A,l,f,kz,f107];exact⟨B,by omega,o⟩
  ·obtain rfl:k=xs.length:=by omega
   rw[zn]at f;simp only[qP]at f;simp[t,u,v,w,f,kz,f107];exact⟨n,y,m⟩
 obtain⟨r,b,c,l,z,rfl,K,_,L,M,N⟩:=q;unfold FE yq;rw[ze (by simp[f66])];refine qF rfl ?_;simp[l,K,kz,f66];exact⟨L,M,N⟩
end Go.Q
namespace Go.AM
theorem yA{α:Type}{V:α->zb}{c:α->Prop}{out:α->O}(hi:∀a b,V a=V b->a=b)(a:α)(f:∀Y,zD Y (V a)=some (V a,Y))(h:c a)(d:(out a).flat=true\/(V a).all O.noOwn=true)(Y:Hp)(Z:Nat):zg false [] (qf V c out) (V a) Y Z=some (out a,Y,Z):=
 yP (Y1:=Y) (f Y) (by
  have e:yj [] (V a)=V a:=by cases V a<;>rfl
  rw[e];exact qM hi h) d
def HJ(P:Program)(t:TypeId):Option Nat:=match P.underlying t with
 |some (.slice e)=>qv P e
 |_=>none
theorem QL{P:Program}{Y:Hp}{t:TypeId}{s:Nat}{es:List zb}{k:Nat}(h:HJ P t=some s)(a:k<=es.length):yG P Y t (.sl s es) none (some (some (.v (.int .i64 (k:Int)))))=some (.sl s (es.take k)):=by
 unfold HJ at h;unfold yG;split at h
 ·rename_i e b;have c:0<=(k:Int):=by omega
  rw[b];simp[h,kD,c,a]
 ·cases h
end Go.AM
namespace Go.Q
structure JR where
 var:Int
 by_:List UInt8
 V1:List UInt8
 rs:List Rg
def JR.V(s:JR):zb:=[int s.var,str s.by_,str s.V1,.sl 3 (s.rs.map Vt)]
theorem sw{a b:JR}(h:a.V=b.V):a=b:=by cases a;cases b;simp only[JR.V,zh,zA]at h;obtain⟨c,d,e,f⟩:=h;rw[qI c,wb d,wb e,iT f]
def JR.cb(s:JR):Nat:=1+s.by_.length+s.V1.length+s.rs.length
structure kB where
 var:Int
 keys:List (List UInt8)
def kB.V(t:kB):zb:=[int t.var,.sl 1 (zx t.keys)]
theorem sx{a b:kB}(h:a.V=b.V):a=b:=by
 cases a;cases b;simp only[kB.V,zh,zA]at h;obtain⟨d,c⟩:=h;injection c with _ c
 rw[qI d,jd c]
def kB.cb(t:kB):Nat:=1+Yr t.keys
structure jB where
 flag:List UInt8
 var:Int
def jB.V(p:jB):zb:=[str p.flag,int p.var]
theorem FF{a b:jB}(h:a.V=b.V):a=b:=by cases a;cases b;simp only[jB.V,zh,zA]at h;rw[wb h.1,qI h.2]
def jB.cb(p:jB):Nat:=1+p.flag.length
@[simp]theorem zfc(p:jB):p.V.length=2:=rfl
@[simp]theorem zdD(p:jB):p.V.take 2=p.V:=rfl
structure Zh where
 name:List UInt8
 cond:qW
 uc:JR
def Zh.V(r:Zh):zb:=[str r.name]++r.cond.V++r.uc.V
theorem jU(r:Zh):r.V=[str r.name,int r.cond.kind,str r.cond.attr,int r.cond.op,.sl 5 (r.cond.kP.map qu.V),str r.cond.pat,str r.cond.name,.sl 7 (r.cond.args.map qW.V),int r.uc.var,str r.uc.by_,str r.uc.V1,.sl 3 (r.uc.rs.map Vt)]:=by unfold Zh.V;rw[q6];rfl
theorem FG{a b:Zh}(h:a.V=b.V):a=b:=by
 rw[jU,jU]at h;simp only[zh,zA]at h;obtain⟨c,d,e,f,g,i,j,k,l⟩:=h;have m:a.cond.V=b.cond.V:=by rw[q6,q6];simp only[zh,zA];exact⟨d,e,f,g,i,j,k⟩
 have hs:a.uc.V=b.uc.V:=by simp only[JR.V,zh,zA];exact l
 cases a;cases b;simp only at *;rw[wb c,Zk m,sw hs]
def Zh.cb(r:Zh):Nat:=1+r.name.length+r.cond.cb+r.uc.cb
@[simp]theorem zfd(r:Zh):r.V.length=12:=by rw[jU];rfl
@[simp]theorem zdE(r:Zh):r.V.take 12=r.V:=qL (by simp)
structure wC where
 name:List UInt8
 on:Bool
 vars:List qu
 off:Int
 wT:List jB
 Wz:List kB
 WW:List Zh
 WA:JR
def wC.V(f:wC):zb:=[str f.name,wo f.on,.sl 5 (f.vars.map qu.V),int f.off,.sl 2 (f.wT.map jB.V),.sl 2 (f.Wz.map kB.V),.sl 12 (f.WW.map Zh.V)]++f.WA.V
theorem qd(f:wC):f.V=[str f.name,wo f.on,.sl 5 (f.vars.map qu.V),int f.off,.sl 2 (f.wT.map jB.V),.sl 2 (f.Wz.map kB.V),.sl 12 (f.WW.map Zh.V),int f.WA.var,str f.WA.by_,str f.WA.V1,.sl 3 (f.WA.rs.map Vt)]:=rfl
theorem WS{a b:wC}(h:a.V=b.V):a=b:=by
 rw[qd,qd]at h;simp only[zh,zA]at h;obtain⟨g,i,c,j,d,e,f,k⟩:=h;have hs:a.WA.V=b.WA.V:=by simp only[JR.V,zh,zA];exact k
 injection c with _ c;injection d with _ d;injection e with _ e;injection f with _ f;have l:=iV c;have m:=yX (fun _ _=>FF) d;have n:=yX (fun _ _=>sx) e;have o:=yX (fun _ _=>FG) f;cases a;cases b;simp only at *;rw[wb g,QD i,l,qI j,m,n,o,sw hs]
theorem AU{a b:List wC}(h:O.sl 11 (a.map wC.V)=.sl 11 (b.map wC.V)):a=b:=by injection h with _ h;exact yX (fun _ _=>WS) h
def wC.cb(f:wC):Nat:=1+f.name.length+Ys f.vars+(f.wT.map jB.cb).sum+(f.Wz.map kB.cb).sum+(f.WW.map Zh.cb).sum+f.WA.cb
@[simp]theorem zfe(f:wC):f.V.length=11:=rfl
@[simp]theorem zdF(f:wC):f.V.take 11=f.V:=rfl
structure ky where
 V2:List qA
 flags:List wC
def ky.V(c:ky):zb:=[.sl 10 (c.V2.map qA.V),.sl 11 (c.flags.map wC.V)]
theorem cn{a b:ky}(h:a.V=b.V):a=b:=by simp only[ky.V,zh,zA]at h;have c:=vO h.1;have d:=AU h.2;cases a;cases b;simp only at *;rw[c,d]
def AV(l:List wC):Nat:=(l.map wC.cb).sum
def ky.cb(c:ky):Nat:=Jg c.V2+AV c.flags
theorem vF{α:Type}(f:α->Nat):∀{l:List α} {x:α},x∈l->f x<=(l.map f).sum
 |y::l,x,h=>by
  simp only[wc,gR];rcases zv.1 h with rfl|h
  ·omega
  ·have:=vF f h;omega
theorem kq{α:Type}(f:α->Nat)(a:∀x,0<f x):∀l:List α,l.length<=(l.map f).sum
 |[]=>by simp
 |x::l=>by have b:=a x;have c:=kq f a l;simp only[wc,gR,zP];omega
theorem Kt(p:jB):0<p.cb:=by unfold jB.cb;omega
theorem sy(p:kB):0<p.cb:=by unfold kB.cb;omega
theorem FH(p:Zh):0<p.cb:=by unfold Zh.cb;omega
theorem Xl(p:wC):0<p.cb:=by unfold wC.cb;omega
theorem AW:HJ prog 37=some 5:=by kernel_rfl
theorem AX:HJ prog 38=some 2:=by kernel_rfl
theorem AY:HJ prog 40=some 12:=by kernel_rfl
def VG(s:za):Bool:=jE s.length 1 40&&kd s
def XF(s:JR)(n:Int):Int:=if s.by_=[]then(if s.V1≠[]\/s.rs≠[]then 3 else if jE s.var 0 (n-1)=true then 0 else 1)else if s.var≠0 then 3 else if qG s.by_=true then(if VG s.V1=true then Z7 s.rs n else 3)else 5
noncomputable def XG (b:Int):List qu->List qu->Int
 |_,[]=>0
 |a,v::l=>if v.check=0 then(if v.kind=0\/v.kind≠b then 6 else if(a.any fun w=>wz v w==0)=true then 7 else XG b (a++[v]) l)else v.check
def FJ:List qu->Int
 |[]=>0
 |v::_=>v.kind
noncomputable def xX (l:List qu) (off:Int):Int:=if l.length=0 then 9 else if(20:Int)<l.length then 2 else if XG (FJ l) [] l=0 then(if jE off 0 ((l.length:Int)-1)=true then 0 else 1)else XG (FJ l) [] l
def lY:List jB->List jB->Int
 |_,[]=>0
 |a,p::l=>if qG p.flag=true then(if(a.any fun q=>q.flag==p.flag)=true then 7 else lY (a++[p]) l)else 5
def X9(l:List jB):Int:=if(10:Int)<l.length then 2 else lY [] l
theorem oZ{a:Int}{l:List qu}{k:Nat}(h:k<l.length):XG a (l.take k) (l.drop k)=if l[k].check=0 then(if l[k].kind=0\/l[k].kind≠a then 6 else if((l.take k).any fun w=>wz l[k] w==0)=true then 7 else XG a (l.take (k+1)) (l.drop (k+1)))else l[k].check:=by rw[zc h,XG,<-zX h]
theorem o0{l:List jB}{k:Nat}(h:k<l.length):lY (l.take k) (l.drop k)=if qG l[k].flag=true then(if((l.take k).any fun q=>q.flag==l[k].flag)=true then 7 else lY (l.take (k+1)) (l.drop (k+1)))else 5:=by rw[zc h,lY,<-zX h]
noncomputable abbrev Cslt:Ctx:=zR prog [(43,zg false [] (F3 jE)),(71,zg false [] (FS kd))]
theorem RW:AM.Good Cslt (fun g=>[43,71].contains g):=qq mixed ⟨xx,fun _=>zu _ _,YE,fun _=>zu _ _,trivial⟩
theorem AZ:zf prog 75 (zg false [] (FS VG)):=
 vX RW func75 false [] fun s hs=>by
  refine⟨by simp[f75],_,zm rfl ?_,qc _⟩;cases a:jE s.length 1 40
  ·simp[a,VG,zI,hs,f75]
  ·simp[a,VG,zI,hs,f75]
noncomputable def HK:zb->Option O:=qf (α:=JR×Int) (fun a=>[.agg a.1.V,int a.2]) (fun a=>a.1.cb<=zw/\1<=a.2/\a.2<=20) fun a=>int (XF a.1 a.2)
theorem Xm(s:JR)(n:Int)(Y:Hp)(Z:Nat)(h:s.cb<=zw/\1<=n/\n<=20):zg false [] HK [.agg s.V,int n] Y Z=some (int (XF s n),Y,Z):=
 yA (V:=fun a:JR×Int=>[O.agg a.1.V,int a.2]) (fun a b e=>by obtain⟨c,d⟩:=a;obtain⟨f,g⟩:=b;simp only[zh,zA,O.agg.injEq]at e;rw[sw e.1,qI e.2]) (s,n) (fun Y=>by simp[JR.V]) h (.inl rfl) Y Z
noncomputable abbrev Csrv:Ctx:=zR prog [(43,zg false [] (F3 jE)),(22,zg false [] (FS qG)),(75,zg false [] (FS VG)),(76,zg false [] (FRN (fun l n=>int (Z7 l n)) fun _ n=>1<=n/\n<=20))]
theorem Nj(s:JR)(n:Int)(h:s.cb<=zw/\1<=n/\n<=20):zo Csrv f42 [.agg s.V,int n]=some (int (XF s n)):=by
 obtain⟨m,o,p⟩:=h;unfold JR.cb zw at m;have j:=wu (n-1);have q:=fun Y Z=>uV (fun l n=>int (Z7 l n)) (fun _ n=>1<=n/\n<=20) s.rs n Y Z ⟨o,p⟩
 refine zm rfl ?_;unfold XF;by_cases b:s.by_=[]
 ·rw[ze b];by_cases a:s.V1=[]
  ·by_cases c:s.rs=[]
   ·rw[zd (by simp[a,c])];cases i:jE s.var 0 (n-1)<;>simp[JR.V,b,a,c,i,j,zI,f42]
   ·have k:0<s.rs.length:=jl.2 c;rw[ze (.inr c)];simp[JR.V,b,a,c,k,zI,f42]
  ·have e:s.V1.isEmpty=false:=by simpa using a
   rw[ze (.inl a)];simp[JR.V,b,a,e,zI,f42]
 ·have d:s.by_.isEmpty=false:=by simpa using b
  have f:s.by_.length<=zw:=by unfold zw;omega
  have g:s.V1.length<=zw:=by unfold zw;omega
  rw[zd b];by_cases a:s.var=0
  ·rw[zd (by simpa using a)];cases c:qG s.by_
   ·simp[JR.V,b,d,f,g,a,c,zI,f42]
   ·cases i:VG s.V1
    ·simp[JR.V,b,d,f,g,a,c,i,zI,f42]
    ·simp[JR.V,b,d,f,g,a,c,i,q,zI,f42]
  ·have e:=xN a;rw[ze a];simp[JR.V,b,d,a,e,zI,f42]
theorem o1:zf prog 42 (zg false [] HK):=
 vX (C:=Csrv) (zS mixed ⟨xx,xf,AZ,bG,trivial⟩) func42 false [] fun⟨s,n⟩ a=>⟨by simp[f42],_,Nj s n a,qc _⟩
end Go.Q
namespace Go.AM
variable{dr:Prop}
def tW(P:Program)(f e s by_:Nat):Prop:=
 (∀w,Calls P f #[.slice none 0 0,.int .i64 0] w fun r w'=>r=.returned (.slice none 0 0)/\w'=w) /\
 ∀(n:Nat) (w:World),0<n->n*by_<=140737488355328->n<=4611686018427387904->Calls P f #[.slice none 0 0,.int .i64 n] w fun r w'=>
  ∃cap a,cap<=maxLen/\a.size=cap*s/\r=.returned (.slice (some ⟨w.heap.size,0,none⟩) 0 cap)/\w'=w.drew.alloc (.cells a e)
theorem tW.of{P:Program}{c:Go.Shelf.Ren}(L:Lays8.n4 P c){s by_:Nat}{z:zb}(hs:qv P (c.t 25)=some s)(d:jV P (c.t 25)=some by_)(j:yC P (c.t 25)=some z)(k:z.length=s)(u:0<s):tW P (c.f 4) (c.t 25) s by_:=by
 obtain⟨i,v,hi,l,m⟩:=ZY j;obtain⟨i',b,o⟩:=WK hs;rw[hi]at b;injection b with b;subst b;have e:i.bytes=by_:=by unfold jV at d;rw[hi]at d;simpa using d
 have g:v.cells.size=s:=by have:=(jc (w:=default) (S:=fun _=>False) m).1;rw[k]at this;simpa using this.symm
 refine⟨fun w=>Any8.slices_Grow_room L none 0 0 0 w (by omega) (by omega) (by omega) (by omega),fun n w x d y=>?_⟩;refine(Any8.slices_Grow_grow L i v hi l (by omega) none 0 0 n [] w (by omega) (by omega) (by rw[e];simpa using d) (by omega) (by simp) (fun _=>rfl) (fun a h=>(nomatch h))).mono fun r w' p=>?_
 obtain⟨rfl,rfl⟩:=p;rw[yi]at *;have q:n<=grownCap w n 0 (c.t 25):=grownCap_ge _ _ _ _;refine⟨_,_,grownCap_le_maxLen w n 0 (c.t 25) (by unfold maxLen;omega),?_,rfl,rfl⟩;rw[Ql,Ql,O2,O2,g];simp only[jy,kv,yi,Nat.sub_zero];rw[<-qQ];congr 1;omega
def o5(e s by_:Nat):AM.Spec:=fun args Y Z=>match args with
 |[.nil,.v (.int .i64 n)]=>if n=0 then some (.nil,Y,Z)else if 0<n/\n*by_<=140737488355328/\n<=4611686018427387904 then some (.own Z 0 0,qR Y Z (some ⟨e,s,true,[]⟩),Z+1)else none
 |_=>none
theorem A0{P:Program}{f e s by_:Nat}(k:∃fn,P.funcs[f]?=some fn/\(fn.name== "runtime.NumGoroutine")=false/\fn.body.isNone=false)(l:qv P e=some s)(g:0<s)(h:tW P f e s by_):kh dr P f (o5 e s by_):=by
 refine⟨k,?_⟩;intro args Y Z r K L a w S G vs hi A;unfold o5 at a;split at a
 ·rename_i n;obtain⟨u,us,rfl,B,d⟩:=A.jG;obtain⟨v,us,rfl,C,d⟩:=d.jG;obtain rfl:=d.Wq;obtain rfl:=B.Zd;obtain⟨rfl,_⟩:=C.wX;split at a
  ·rename_i D;subst D;injection a with a
   injection a with o a;injection a with p q;subst o;subst p;subst q;refine(h.1 w).mono fun r w' t=>?_
   obtain⟨rfl,rfl⟩:=t;exact⟨_,_,_,rfl,.refl hi,.c .nil⟩
  ·split at a
   ·rename_i E y;injection a with a
    injection a with o a;injection a with p q;subst o;subst p;subst q;obtain⟨m,rfl⟩:∃m:Nat,n=m:=⟨n.toNat,by omega⟩;refine(h.2 m w (by omega) (Int.ofNat_le.1 (by rw[Int.natCast_mul];exact y.2.1)) (by have:=y.2.2;omega)).mono fun r w' t=>?_
    obtain⟨cap,b,F,H,rfl,rfl⟩:=t;have z:=kO.drew (dr:=dr) hi;obtain⟨i,x,j⟩:=WK l;have I:=kO.alloc (dr:=dr) z.inv b e true [] s g (by rw[x];simp[j]) (by simp) (by simp) (by simp);refine⟨_,_,_,rfl,z.trans I,?_⟩;have:=qe.own (w:=w.drew.alloc (.cells b e)) (S:=S) (G:=qR G Z ⟨w.drew.heap.size,b.size,s⟩) (Z:=Z+1) (id:=Z) (off:=0) (n:=0) (cap:=cap) (by omega) (by omega) F (by rw[wL];show(0+cap)*s=b.size;rw[H,yi]) (by rw[wL];exact g);rw[wL]at this;have J:0*s=0:=Tf s;simp only[J]at this;exact this
   ·cases a
 ·cases a
theorem wa.KP{P:Program}{Y:Hp}{Z e s by_:Nat}{v:O}{xs:List zb}{ys:List zb}{z:zb}{t:TypeId}(h:wa Y Z e s v xs)(b:wY P t=some e)(hs:qv P e=some s)(c:jV P e=some by_)(d:yC P e=some z)
  (a:z.length=s) (f:0<s) (g:xs.length+ys.length<=maxLen) (i:(xs.length+ys.length)*by_<=140737488355328) :
  ∃k l j,yW P Y Z t t v (.sl s ys)=some (k,l,j)/\wa l j e s k (xs++ys)/\Z<=j:=by
 rcases h with⟨rfl,rfl⟩|⟨id,hid,rfl,n⟩
 ·simp at g i;by_cases m:ys=[]
  ·subst m;exact⟨.nil,Y,Z,by simp[yW,b,hs,c,d,a,f,AM.view,maxLen],.inl ⟨rfl,rfl⟩,zk _⟩
  ·exact⟨.own Z 0 ys.length,_,Z+1,by simp[yW,b,hs,c,d,a,f,g,i,AM.view,m];rfl,.inr ⟨Z,by omega,by simp,by simp⟩,by omega⟩
 ·exact⟨.own Z 0 (xs.length+ys.length),_,Z+1,by simp[yW,b,hs,c,d,a,f,g,i,AM.view,n];rfl,.inr ⟨Z,by omega,by simp,by simp⟩,by omega⟩
end Go.AM
namespace Go.Proofs
open Go.Shelf
end Go.Proofs
namespace Go.Q
structure Lyr where
 name:List UInt8
 V1:List UInt8
 rest:Int
structure Hld where
 name:List UInt8
 V1:List UInt8
 buckets:Int
 zbi:List (List UInt8)
structure Phs where
 at_:Int
 zgd:List Sp
structure Xp where
 name:List UInt8
 zge:List UInt8
 flag:List UInt8
 cond:qW
 V1:List UInt8
 arms:List Rg
 zfR:List Phs
structure Bk where
 zbi:List Lyr
 holds:List Hld
 exps:List Xp
end Go.Q
namespace Go.AM
section
variable(C:Ctx)(ρ:Operand->Option O)(Y:Hp)(Z:Nat)
@[simp]theorem zca(t:TypeId)(x i:Operand)(a:Bool):zU C ρ Y Z (.lookup t x i a)=(do let p <-ρ x;let q <-ρ i;let r <-xC C.P Y t p q a;some (r,Y,Z)):=by simp only[zU];cases ρ x<;>cases ρ i<;>(try rfl);simp;cases xC C.P Y t _ _ a<;>rfl
@[simp]theorem RX(t:TypeId)(m k x:Operand):zU C ρ Y Z (.mapUpdate t m k x)=(do let p <-ρ m;let q <-ρ k;let y <-ρ x;let h <-Zt C.P Y t p q y;some (.wP [],h,Z)):=by simp only[zU];cases ρ m<;>cases ρ k<;>cases ρ x<;>(try rfl);simp;cases Zt C.P Y t _ _ _<;>rfl
@[simp]theorem zaO(t:TypeId):zU C ρ Y Z (.makeMap t none)=(do let _ <-K7 C.P t;some (.mp Z,qR Y Z (some ⟨t,0,false,[]⟩),Z+1)):=by simp only[zU];cases K7 C.P t<;>rfl
end
end Go.AM
namespace Go.Q
@[simp]theorem zdG(U:Nat->O):AM.get U (.const (.pointer none))=some (.v (.pointer none)):=rfl
def sz(l:List za):List zb:=l.map fun s=>[str s,wo true]
def lZ(l:List za):kN:=⟨107,0,false,sz l⟩
theorem dW(s:za):∀(l:List za) (i:Nat),(s ∉ l->xm (.string ⟨s.toArray⟩) (sz l) i=some none)/\(s∈l->∃j,xm (.string ⟨s.toArray⟩) (sz l) i=some (some (j,wo true)))
 |[],i=>⟨fun _=>rfl,fun h=>by simp at h⟩
 |x::l,i=>by
  obtain⟨c,d⟩:=dW s l (i+1);by_cases a:s=x
  ·refine⟨fun h=>absurd (by simp[a]) h,fun _=>⟨i,?_⟩⟩;subst a;simp[sz,xm,xd]
  ·have f:xd (.string ⟨s.toArray⟩) (.string ⟨x.toArray⟩)=some false:=by simp only[xd];congr 1;rw[jk];intro e;exact a (by simpa[Gk]using e)
   have b:xm (.string ⟨s.toArray⟩) (sz (x::l)) i=xm (.string ⟨s.toArray⟩) (sz l) (i+1):=by simp only[sz,wc,xm,f]
   refine⟨fun h=>by rw[b];exact c fun g=>h (zeg _ g),fun h=>?_⟩;rcases zv.1 h with h|h
   ·exact absurd h a
   ·rw[b];exact d h
@[simp]theorem zcb:K7 prog 107=some (none,4):=by kernel_rfl
@[simp]theorem zaP:bl prog 4=some (wo false):=by kernel_rfl
theorem Nk{Y:Hp}{id:Nat}{l:List za}(s:za)(h:Y id=some (lZ l)):xC prog Y 107 (.mp id) (str s) false=some (wo (decide (s∈l))):=by
 obtain⟨b,c⟩:=dW s l 0;by_cases a:s∈l
 ·obtain⟨j,d⟩:=c a;simp[xC,bm,h,lZ,Yv,d,a]
 ·simp[xC,bm,h,lZ,Yv,b a,a]
theorem RY{Y:Hp}{id:Nat}{l:List za}(s:za)(h:Y id=some (lZ l))(hs:s ∉ l):Zt prog Y 107 (.mp id) (str s) (wo true)=some (qR Y id (some (lZ (l++[s])))):=by obtain⟨a,b⟩:=dW s l 0;simp[Zt,h,lZ,Yv,a hs];simp[sz]
def ub(seen:List za):Option za->List za->Int
 |_,[]=>0
 |p,k::l=>if kd k=true then(if js p k=true then 8 else if k∈seen then 7 else ub seen (some k) l)else 3
def cp(n:Int):List za->List kB->Int
 |_,[]=>0
 |seen,t::l=>if jE t.var 0 (n-1)=true then(if t.keys.length=0 then 9 else if(1000:Int)<t.keys.length then 2 else if ub seen none t.keys=0 then cp n (seen++t.keys) l else ub seen none t.keys)else 1
def JH(l:List kB)(n:Int):Int:=if(20:Int)<l.length then 2 else cp n [] l
theorem A1{seen l:List za}{k:Nat}(h:k<l.length)(p:Option za):ub seen p (l.drop k)=if kd l[k]=true then(if js p l[k]=true then 8 else if l[k]∈seen then 7 else ub seen (some l[k]) (l.drop (k+1)))else 3:=by rw[zc h,ub]
theorem o6{n:Int}{seen:List za}{l:List kB}{k:Nat}(h:k<l.length):cp n seen (l.drop k)=if jE l[k].var 0 (n-1)=true then(if l[k].keys.length=0 then 9 else if(1000:Int)<l[k].keys.length then 2 else if ub seen none l[k].keys=0 then cp n (seen++l[k].keys) (l.drop (k+1))else ub seen none l[k].keys)else 1:=by rw[zc h,cp]
theorem T9{seen:List za}:∀(l:List za) (p:Option za),ub seen p l=0->(XE l/\∀q,p=some q->∀b∈l,Op.bytesLess q b=true)/\∀k∈l,k ∉ seen/\kd k=true
 |[],p,_=>⟨⟨.nil,fun _ _ _ hb=>by cases hb⟩,fun _ hb=>by cases hb⟩
 |a::l,p,h=>by
  simp only[ub]at h;split at h
  case isFalse=>simp at h
  rename_i e;split at h
  ·simp at h
  rename_i f;split at h
  ·simp at h
  rename_i hs;obtain⟨⟨g,d⟩,i⟩:=T9 l (some a) h;refine⟨⟨wG.2 ⟨d a rfl,g⟩,fun q j b hb=>?_⟩,fun k Ty=>?_⟩
  ·subst j;have c:Op.bytesLess q a=true:=vM (by simpa[js]using f);rcases zv.1 hb with rfl|hb
   ·exact c
   ·exact xV c (d a rfl b hb)
  ·rcases zv.1 Ty with rfl|Ty
   ·exact⟨hs,e⟩
   ·exact i k Ty
noncomputable def FTg:zb->Option O:=qf (α:=List kB×Int) (fun a=>[.sl 2 (a.1.map kB.V),int a.2]) (fun a=>(a.1.map kB.cb).sum<=zw/\1<=a.2/\a.2<=20) fun a=>int (JH a.1 a.2)
theorem Nl(l:List kB)(n:Int)(Y:Hp)(Z:Nat)(h:(l.map kB.cb).sum<=zw/\1<=n/\n<=20):zg false [] FTg [.sl 2 (l.map kB.V),int n] Y Z=some (int (JH l n),Y,Z):=
 yA (V:=fun a:List kB×Int=>[O.sl 2 (a.1.map kB.V),int a.2]) (fun a b e=>by obtain⟨f,g⟩:=a;obtain⟨i,j⟩:=b;simp only[zh,zA]at e;obtain⟨c,d⟩:=e;injection c with _ c;rw[yX (fun _ _=>sx) c,qI d]) (l,n) (fun Y=>by simp) h (.inl rfl) Y Z
noncomputable abbrev Ctgt:Ctx:=zR prog [(43,zg false [] (F3 jE)),(71,zg false [] (FS kd))]
theorem HL(l:List kB)(n:Int)(h:(l.map kB.cb).sum<=zw/\1<=n/\n<=20):zo Ctgt f40 [.sl 2 (l.map kB.V),int n]=some (int (JH l n)):=by
 obtain⟨hc,hn1,hn2⟩:=h;have hll:=kq kB.cb sy l;have nT:zw=268435456:=rfl;have E:=wu (n-1);refine zm rfl ?_;unfold JH;by_cases c2:(20:Int)<l.length
 ·rw[ze c2];simp[c2,zI,f40]
 rw[zd c2];simp[c2];refine zF (fun k U Y Z=>U 0=.sl 2 (l.map kB.V)/\U 1=int n/\U 5=.mp 0/\U 16=.sl 2 (l.map kB.V)/\U 17=int l.length/\U 18=int k/\0<Z/\∃seen,Y 0=some (lZ seen)/\cp n [] l=cp n seen (l.drop k)) l.length
  ⟨by simp,by simp,by simp,by simp,by simp,by simp,by simp,[],by simp[lZ,sz],by simp⟩ ?_
 rintro k U Y Z hk ⟨o,p,q,f,g,m,hnx,seen,b0,x⟩;by_cases B:k<l.length
 case neg=>
  obtain rfl:k=l.length:=by omega
  rw[zn,cp]at x;rw[x];simp[o,p,q,f,g,m,zI,f40]
 have hw:=ql k;obtain⟨t,C⟩:=yx (l[k]);have hm:=vF kB.cb (show t∈l by rw[<-C];exact zj B);have htc:t.cb=1+Yr t.keys:=rfl;have htl:=Q1 t.keys;have hkm:=fun s (hs:s∈t.keys)=>Kp hs
 rw[o6 B,C]at x;cases N:jE t.var 0 (n-1)
 ·rw[N]at x;simp only[zq,qn]at x;rw[x];simp[o,p,q,f,g,m,B,C,kB.V,E,N,zI,f40]
 rw[N,ze rfl]at x;by_cases d2:t.keys.length=0
 ·rw[ze d2]at x;have F:t.keys=[]:=zT.1 d2;rw[x];simp[o,p,q,f,g,m,B,C,kB.V,E,N,F,zI,f40]
 have F:((t.keys.length:Int)==0)=false:=by simpa using d2
 rw[zd d2]at x;by_cases d3:(1000:Int)<t.keys.length
 ·rw[ze d3]at x;rw[x];simp[o,p,q,f,g,m,B,C,kB.V,E,N,F,d3,zI,f40]
 rw[zd d3]at x;have n0:¬Z=0:=by omega
 have n0':¬0=Z:=by omega
 simp[o,p,q,f,g,m,B,C,kB.V,E,N,F,d3];refine zF (fun j d Y' Z'=>d 0=.sl 2 (l.map kB.V)/\d 1=int n/\d 5=.mp 0/\d 16=.sl 2 (l.map kB.V)/\d 17=int l.length/\d 18=int k/\d 7=.ref Z 0 0/\d 40=.sl 1 (zx t.keys)/\d 41=int t.keys.length/\d 42=int j/\Z<Z'/\Y' 0=some (lZ seen)/\Y' Z=some ⟨109,2,false,[t.V]⟩/\ub seen none t.keys=ub seen (vx t.keys j) (t.keys.drop j)) t.keys.length
  ⟨by simp[o],by simp[p],by simp[q],by simp[f],by simp[g],by simp[m],by simp,by simp,by simp,by simp,gv _,(zM _ _ _ _ n0').trans b0,by simp[kB.V],by simp[vx]⟩ ?_
 clear o p q f g m;rintro j σ1 Y1 nx1 hj ⟨o,p,q,f,g,m,J,u,v,w,L,b1,bt,c⟩;by_cases r:j<t.keys.length
 ·obtain⟨s,hs⟩:=yx (t.keys[j]);have D:s.length<=zw:=by have:=hkm s (by rw[<-hs];exact zj r);omega
  have P:=ql j;rw[A1 r,hs]at c;have Q:vx t.keys (j+1)=some s:=by simp[vx,r,hs]
  have G:=Nk s b1;have H:∀z:Int,z≠0->ub seen none t.keys=z->cp n [] l=z:=fun z hz hh=>by rw[x,zd (by rw[hh];exact hz),hh]
  cases K:kd s
  ·rw[K]at c;simp only[zq,qn]at c;rw[H 3 (by decide) c];simp[o,p,q,J,u,v,w,r,hs,D,K,zI,f40]
  rw[K,ze rfl]at c;by_cases k0:j=0
  ·subst k0;have w1:=wu 1;simp only[vx,js,qB,zq,qn]at c;by_cases I:s∈seen
   ·rw[ze I]at c;rw[H 7 (by decide) c];simp[o,p,q,J,u,v,w,r,hs,D,K,G,I,zI,f40]
   ·rw[zd I]at c;simp[o,p,q,f,g,m,J,u,v,w,r,hs,D,K,G,I,w1];exact⟨by omega,L,b1,bt,by rw[c,Q];simp⟩
  ·obtain⟨i,rfl⟩:∃i,j=i+1:=⟨j-1,by omega⟩;have hi:i<t.keys.length:=by omega
   have wj:i6.wrap ((i:Int)+1-1)=(i:Int):=by rw[wR (by omega) (by omega)];omega
   have M:=wu (i:Int);have j1:((i:Int)+1).toNat=i+1:=by omega
   have j2:0<(i:Int)+1:=by omega
   have j3:0<=(i:Int)+1:=by omega
   have j4:(i:Int)+1<t.keys.length:=by omega
   have wk:=wu ((i:Int)+1+1);have el:(Op.bytesLess s t.keys[i]||s==t.keys[i])=Vs s t.keys[i]:=rfl;have hpj:vx t.keys (i+1)=some t.keys[i]:=by simp[vx,hi]
   simp only[hpj,js]at c;have y:=bt;simp only[kB.V]at y;cases R:Vs s t.keys[i]
   ·rw[R]at c;simp only[zq,qn]at c;by_cases I:s∈seen
    ·rw[ze I]at c;rw[H 7 (by decide) c];simp[o,p,q,J,u,v,w,hi,r,hs,D,K,y,wj,M,j1,j2,j3,j4,el,R,G,I,zI,f40]
    ·rw[zd I]at c;simp[o,p,q,f,g,m,J,u,v,w,hi,r,hs,D,K,y,wj,M,j1,j2,j3,j4,el,R,G,I,wk];exact⟨by omega,L,b1,rfl,by rw[c,Q]⟩
   ·rw[R,ze rfl]at c;rw[H 8 (by decide) c];simp[o,p,q,J,u,v,w,hi,r,hs,D,K,y,wj,M,j1,j2,j3,j4,el,R,zI,f40]
 obtain rfl:j=t.keys.length:=by omega
 rw[zn,ub]at c;rw[c,ze rfl]at x;obtain⟨⟨hup,_⟩,hns⟩:=T9 t.keys none c;have y:=bt;simp only[kB.V]at y;simp[o,p,q,f,g,m,J,u,v,w,y];refine zF (fun j d Y' Z'=>d 0=.sl 2 (l.map kB.V)/\d 1=int n/\d 5=.mp 0/\d 16=.sl 2 (l.map kB.V)/\d 17=int l.length/\d 18=int k/\d 70=.sl 1 (zx t.keys)/\d 71=int t.keys.length/\d 72=int j/\0<Z'/\Y' 0=some (lZ (seen++t.keys.take j))) t.keys.length
  ⟨by simp[o],by simp[p],by simp[q],by simp[f],by simp[g],by simp[m],by simp,by simp,by simp,Nat.lt_trans hnx L,by simpa using b1⟩ ?_
 clear o p q f g m J u v w;rintro j σ2 Y2 CJ hj2 ⟨o,p,q,f,g,m,S,T,W,X,b2⟩;by_cases A:j<t.keys.length
 ·obtain⟨s,hs⟩:=yx (t.keys[j]);have E4:s∈t.keys:=by rw[<-hs];exact zj A
  have P:=ql j;have hnot:s ∉ seen++t.keys.take j:=by
   intro hh;rcases zK.1 hh with hh|hh
   ·exact(hns s E4).1 hh
   ·have hnd:t.keys.Nodup:=hup.imp fun{a b} h e=>by rw[e,JE]at h;cases h
    rw[<-vU j t.keys,Gj]at hnd;refine hnd.2.2 s hh s ?_ rfl;rw[zc A,hs];simp
  have hput:=RY s b2 hnot;simp[o,p,q,f,g,m,S,T,W,A,hs,hput,P];exact⟨by omega,X,by rw[zX A,hs]⟩
 ·obtain rfl:j=t.keys.length:=by omega
  rw[wJ]at b2;simp[o,p,q,f,g,m,S,T,W,hw];exact⟨by omega,X,_,b2,x⟩
theorem DZ:zf prog 40 (zg false [] FTg):=
 vX (C:=Ctgt) (zS mixed ⟨xx,YE,trivial⟩) func40 false [] fun⟨l,n⟩ a=>⟨by simp[f40],_,HL l n a,qc _⟩
noncomputable def A2 (Ta:Zu):AM.Spec:=yq (zR prog Ta) f112
noncomputable def FK (Ta:Zu):AM.Spec:=yq (zR prog [(112,A2 Ta)]) f69
theorem D0{Ta:Zu}(h:XA True prog [] Ta):zf prog 112 (A2 Ta):=kQ (qq (q:=[]) mixed h) func112
theorem D1{Ta:Zu}(h:XA True prog [] Ta):zf prog 69 (FK Ta):=kQ (qq (q:=[]) (l:=[(112,A2 Ta)]) mixed ⟨D0 h,by simp,trivial⟩) func69
theorem Nn{U:Type}{T:Nat->Prop}{Rep:U->Hp->Prop}{step:U->jB->Bool×U}{Ta:Zu}{g:Nat}{sp:AM.Spec}{fi cap:zb}{Z0:Nat}(A:lookup Ta g=some sp)(xs:List jB)(D:xs.length<=zw)
  (E:∀s x Y Z,x∈xs->Z0<=Z->Rep s Y->∃r b c,sp (fi++.agg x.V::cap) Y Z=some (r,b,c)/\kz T Rep (wo (step s x).1) (step s x).2 Y Z r b c)
  (h:U) (i:Hp) (a:Nat) (P:Z0<=a) (F:Rep h i) :
  ∃r b c,FK Ta [.sl 2 (xs.map jB.V),.fn (.func g) fi cap] i a=some (r,b,c)/\kz T Rep (wo (qP step h xs).1) (qP step h xs).2 i a r b c:=by
 have q:∃r b c,A2 Ta [.sl 2 (xs.map jB.V),.fn (.func g) fi cap] i a=some (r,b,c)/\∃z:Int,r=int z/\decide (0<=z)=(qP step h xs).1/\kz T Rep (int z) (qP step h xs).2 i a r b c:=by
  unfold A2 yq;rw[ze (by simp[f112])];refine qF rfl ?_;unfold zw at D;simp;refine zF (fun k U Y Z=>U 0=.sl 2 (xs.map jB.V)/\U 1=.fn (.func g) fi cap/\U 7=int xs.length/\U 8=int k/\a<=Z/\(∀j,j<a->¬T j->Y j=i j)/\∃s,Rep s Y/\qP step h xs=qP step s (xs.drop k)) xs.length ⟨by simp,by simp,by simp,by simp,zk _,fun _ _ _=>rfl,h,F,by simp⟩ ?_;rintro k U Y Z Q ⟨t,u,v,w,y,m,s,n,f⟩;by_cases d:k<xs.length
  ·have G:=ql k;obtain⟨x,p⟩:=yx (xs[k]);obtain⟨r,Y2,H,l,rfl,B,R,I⟩:=E s x Y Z (by rw[<-p];exact zj d) (by omega) n;rw[zc d,p]at f;have o:∀j,j<a->¬T j->Y2 j=i j:=fun j J C=>by rw[I j (by omega) C];exact m j J C
   cases e:(step s x).1
   ·rw[xb e]at f;rw[e]at l;simp[t,u,v,w,d,p,A,l,G];exact⟨by omega,by omega,o,_,B,f⟩
   ·rw[xW e]at f;rw[e]at l;simp[t,u,v,w,d,p,A,l,f,kz,f112];exact⟨B,by omega,o⟩
  ·obtain rfl:k=xs.length:=by omega
   rw[zn]at f;simp only[qP]at f;simp[t,u,v,w,f,kz,f112];exact⟨n,y,m⟩
 obtain⟨r,b,c,l,z,rfl,K,_,L,M,N⟩:=q;unfold FK yq;rw[ze (by simp[f69])];refine qF rfl ?_;simp[l,K,kz,f69];exact⟨L,M,N⟩
noncomputable abbrev Np:AM.Spec:=yq (zR prog [(68,zg false [] (Lp zw))]) f67
theorem HM:zf prog 67 Np:=kQ (qq (q:=[]) (l:=[(68,zg false [] (Lp zw))]) mixed ⟨VA zw,by simp,trivial⟩) func67
def VH(v:qu):kN:=⟨100,5,false,[v.V]⟩
theorem RZ(v w:qu)(a:v.vb<=zw)(c:w.vb<=zw)(Y:Hp)(Z id:Nat)(hid:id<Z)(b:Y id=some (VH v)):Np [.agg w.V,.ref id 0 0] Y Z=some (wo (wz v w==0),qR Y Z (some (VH w)),Z+1):=by
 have d:=fun Y Z=>Wd zw v w Y Z ⟨a,a,c⟩
 have n1:¬id=Z:=by omega
 unfold Np yq;rw[ze (by simp[f67])];refine yQ rfl ?_;simp only[VH]at b;simp[b,n1,d,VH,f67]
noncomputable abbrev TAvr:Zu:=[(67,Np)]
noncomputable def FVr2:zb->Option O:=qf (α:=List qu×Int) (fun a=>[.sl 5 (a.1.map qu.V),int a.2]) (fun a=>Ys a.1<=zw) fun a=>int (xX a.1 a.2)
theorem HN(l:List qu)(n:Int)(Y:Hp)(Z:Nat)(h:Ys l<=zw):zg false [] FVr2 [.sl 5 (l.map qu.V),int n] Y Z=some (int (xX l n),Y,Z):=
 yA (V:=fun a:List qu×Int=>[O.sl 5 (a.1.map qu.V),int a.2]) (fun a b e=>by obtain⟨f,g⟩:=a;obtain⟨i,j⟩:=b;simp only[zh,zA]at e;obtain⟨c,d⟩:=e;injection c with _ c;rw[iV c,qI d]) (l,n) (fun Y=>by simp) h (.inl rfl) Y Z
noncomputable abbrev Cvr2:Ctx:=zR prog [(65,GV fun v=>int v.check),(66,FE TAvr),(43,zg false [] (F3 jE))]
theorem HO(l:List qu)(off:Int)(h:Ys l<=zw):zo Cvr2 f38 [.sl 5 (l.map qu.V),int off]=some (int (xX l off)):=by
 have M:=ja l;have J:zw=268435456:=rfl;refine zm rfl ?_;by_cases u:l.length=0
 ·have:l=[]:=zT.1 u;subst this;simp[xX,zI,f38]
 have x:((l.length:Int)==0)=false:=by simpa using u
 by_cases D:(20:Int)<l.length
 ·have E:xX l off=2:=by unfold xX;rw[zd u,ze D]
  simp[x,D,E,zI,f38]
 obtain⟨i,n,F⟩:∃i,l[0]?=some i/\FJ l=i.kind:=by
  cases l with
  |nil=>exact absurd rfl u
  |cons v l=>exact⟨v,rfl,rfl⟩
 have E:xX l off=if XG i.kind [] l=0 then(if jE off 0 ((l.length:Int)-1)=true then 0 else 1)else XG i.kind [] l:=by unfold xX;rw[zd u,zd D,F]
 rw[E];simp[x,D];refine zF (fun k U Y Z=>U 0=.sl 5 (l.map qu.V)/\U 1=int off/\U 14=.sl 5 (l.map qu.V)/\U 15=int l.length/\U 16=int k/\XG i.kind [] l=XG i.kind (l.take k) (l.drop k)) l.length
  ⟨by simp,by simp,by simp,by simp,by simp,by simp⟩ ?_
 rintro k U Y Z S ⟨p,q,d,e,f,a⟩;by_cases b:k<l.length
 ·have G:=ql k;obtain⟨v,c⟩:=yx (l[k]);have W:=ko (show v∈l by rw[<-c];exact zj b);have s:=fun Y Z=>QV (fun v=>int v.check) v Y Z (by omega)
  rw[oZ b,c]at a;by_cases y:v.check=0
  case neg=>have H:=xN y;rw[zd y]at a;rw[a,zd y];simp[p,q,d,e,f,b,c,s,H,zI,f38]
  rw[ze y]at a;rw[y]at s;by_cases z:v.kind=0
  ·rw[ze (.inl z)]at a;rw[a];simp[p,q,d,e,f,b,c,s,z,zI,f38]
  have o:=jD z;by_cases A:v.kind=i.kind
  case neg=>
   have m:(v.kind != i.kind)=true:=by simpa using A
   rw[ze (.inr A)]at a;rw[a];simp[p,q,d,e,f,b,c,s,o,m,n,zI,f38]
  rw[zd (fun h=>h.elim z fun h=>h A)]at a;have m:(v.kind != i.kind)=false:=by simpa using A
  have B:¬i.kind=0:=by rw[<-A];exact z
  obtain⟨r,Y2,N,t,rfl,_,X,_⟩:=Ni (U:=Unit) (T:=fun _=>False) (Rep:=fun _ Y=>Y Z=some (VH v)) (step:=fun _ w=>(wz v w==0,())) (Ta:=TAvr) (g:=67) (sp:=Np) (fi:=[]) (cap:=[.ref Z 0 0]) (Z0:=Z+1) (by simp) (l.take k) (by rw[wB];omega)
   (fun _ w Y Q G hn K=>⟨_,_,_,RZ v w (by omega) (by have:=ko (JQ G);omega) Y Q Z (by omega) K,rfl,(zM _ _ _ _ (by omega)).trans K,by omega,fun j hj _=>zM _ _ _ _ (by omega)⟩) () (qR Y Z (some (VH v))) (Z+1) (zk _) (by simp)
  rw[JG,gS]at t;simp only[VH]at t;have C:=fun Y=>QL (P:=prog) (Y:=Y) (es:=l.map qu.V) (k:=k) AW (by rw[w9];omega)
  cases L:(l.take k).any fun w=>wz v w==0
  ·rw[L]at t a;simp only[zq,qn]at a;simp[p,q,d,e,f,b,c,s,o,m,n,C,t,G,B];exact⟨by omega,a⟩
  ·rw[L]at t a;simp only[qB]at a;rw[a];simp[p,q,d,e,f,b,c,s,o,m,n,C,t,B,zI,f38]
 ·obtain rfl:k=l.length:=by omega
  rw[zn,XG]at a;have I:=wu ((l.length:Int)-1);rw[a,ze rfl];cases R:jE off 0 ((l.length:Int)-1)<;>simp[p,q,d,e,f,I,R,zI,f38]
theorem D2:zf prog 38 (zg false [] FVr2):=
 vX (C:=Cvr2) (zS mixed ⟨eZ,DY ⟨HM,by simp,trivial⟩,xx,trivial⟩) func38 false [] fun⟨l,n⟩ a=>⟨by simp[f38],_,HO l n a,qc _⟩
noncomputable abbrev Nq:AM.Spec:=yq C0 f70
theorem HP:zf prog 70 Nq:=kQ jS func70
def Wh(p:jB):kN:=⟨54,2,false,[p.V]⟩
theorem R0(p q:jB)(Y:Hp)(Z id:Nat)(hid:id<Z)(a:Y id=some (Wh p)):Nq [.agg q.V,.ref id 0 0] Y Z=some (wo (q.flag==p.flag),qR Y Z (some (Wh q)),Z+1):=by
 have n1:¬id=Z:=by omega
 unfold Nq yq;rw[ze (by simp[f70])];refine yQ rfl ?_;simp only[Wh,jB.V]at a;simp[a,n1,Wh,jB.V,f70]
noncomputable abbrev TApq:Zu:=[(70,Nq)]
noncomputable def FPq:zb->Option O:=qf (α:=List jB) (fun l=>[.sl 2 (l.map jB.V)]) (fun l=>(l.map jB.cb).sum<=zw) fun l=>int (X9 l)
theorem A3(l:List jB)(Y:Hp)(Z:Nat)(h:(l.map jB.cb).sum<=zw):zg false [] FPq [.sl 2 (l.map jB.V)] Y Z=some (int (X9 l),Y,Z):=
 yA (V:=fun l:List jB=>[O.sl 2 (l.map jB.V)]) (fun a b e=>by
  simp only[zh,zA]at e;injection e with _ e
  exact yX (fun _ _=>FF) e) l (fun Y=>by simp) h (.inl rfl) Y Z
noncomputable abbrev Cpq:Ctx:=zR prog [(22,zg false [] (FS qG)),(69,FK TApq)]
theorem HQ(l:List jB)(h:(l.map jB.cb).sum<=zw):zo Cpq f39 [.sl 2 (l.map jB.V)]=some (int (X9 l)):=by
 have x:=kq jB.cb Kt l;have u:zw=268435456:=rfl;refine zm rfl ?_;unfold X9;by_cases n:(10:Int)<l.length
 ·rw[ze n];simp[n,zI,f39]
 rw[zd n];simp[n];refine zF (fun k U Y Z=>U 0=.sl 2 (l.map jB.V)/\U 8=.sl 2 (l.map jB.V)/\U 9=int l.length/\U 10=int k/\lY [] l=lY (l.take k) (l.drop k)) l.length
  ⟨by simp,by simp,by simp,by simp,by simp⟩ ?_
 rintro k U Y Z C ⟨o,s,t,d,a⟩;by_cases b:k<l.length
 ·have y:=ql k;obtain⟨p,c⟩:=yx (l[k]);have D:=vF jB.cb (show p∈l by rw[<-c];exact zj b);have z:p.cb=1+p.flag.length:=rfl;have e:p.flag.length<=zw:=by omega
  rw[o0 b,c]at a;cases i:qG p.flag
  ·rw[i]at a;simp only[zq,qn]at a;rw[a];simp[o,s,t,d,b,c,jB.V,e,i,zI,f39]
  rw[i,ze rfl]at a;obtain⟨r,Y2,A,f,rfl,_,E,_⟩:=Nn (U:=Unit) (T:=fun _=>False) (Rep:=fun _ Y=>Y Z=some (Wh p)) (step:=fun _ q=>(q.flag==p.flag,())) (Ta:=TApq) (g:=70) (sp:=Nq) (fi:=[]) (cap:=[.ref Z 0 0]) (Z0:=Z+1) (by simp) (l.take k) (by rw[wB];omega)
   (fun _ q Y B F G v=>⟨_,_,_,R0 p q Y B Z (by omega) v,rfl,(zM _ _ _ _ (by omega)).trans v,by omega,fun j H _=>zM _ _ _ _ (by omega)⟩) () (qR Y Z (some (Wh p))) (Z+1) (zk _) (by simp)
  rw[JG,gS]at f;simp only[Wh,jB.V]at f;have m:=fun Y=>QL (P:=prog) (Y:=Y) (es:=l.map jB.V) (k:=k) AX (by rw[w9];omega)
  cases w:(l.take k).any fun q=>q.flag==p.flag
  ·rw[w]at f a;simp only[zq,qn]at a;simp[o,s,t,d,b,c,jB.V,e,i,m,f,y];exact⟨by omega,a⟩
  ·rw[w]at f a;simp only[qB]at a;rw[a];simp[o,s,t,d,b,c,jB.V,e,i,m,f,zI,f39]
 ·obtain rfl:k=l.length:=by omega
  rw[zn,lY]at a;rw[a];simp[o,s,t,d,zI,f39]
theorem D3:zf prog 39 (zg false [] FPq):=
 vX (C:=Cpq) (zS mixed ⟨xf,D1 ⟨HP,by simp,trivial⟩,trivial⟩) func39 false [] fun l a=>⟨by simp[f39],_,HQ l a,qc _⟩
noncomputable def A4 (Ta:Zu):AM.Spec:=yq (zR prog Ta) f143
noncomputable def FL (Ta:Zu):AM.Spec:=yq (zR prog [(143,A4 Ta)]) f115
theorem D4{Ta:Zu}(h:XA True prog [] Ta):zf prog 143 (A4 Ta):=kQ (qq (q:=[]) mixed h) func143
theorem D5{Ta:Zu}(h:XA True prog [] Ta):zf prog 115 (FL Ta):=kQ (qq (q:=[]) (l:=[(143,A4 Ta)]) mixed ⟨D4 h,by simp,trivial⟩) func115
theorem Nr{U:Type}{T:Nat->Prop}{Rep:U->Hp->Prop}{step:U->qW->Bool×U}{Ta:Zu}{g:Nat}{sp:AM.Spec}{fi cap:zb}{Z0:Nat}(A:lookup Ta g=some sp)(xs:List qW)(D:xs.length<=zw)
  (E:∀s x Y Z,x∈xs->Z0<=Z->Rep s Y->∃r b c,sp (fi++.agg x.V::cap) Y Z=some (r,b,c)/\kz T Rep (wo (step s x).1) (step s x).2 Y Z r b c)
  (h:U) (i:Hp) (a:Nat) (P:Z0<=a) (F:Rep h i) :
  ∃r b c,FL Ta [.sl 7 (xs.map qW.V),.fn (.func g) fi cap] i a=some (r,b,c)/\kz T Rep (wo (qP step h xs).1) (qP step h xs).2 i a r b c:=by
 have q:∃r b c,A4 Ta [.sl 7 (xs.map qW.V),.fn (.func g) fi cap] i a=some (r,b,c)/\∃z:Int,r=int z/\decide (0<=z)=(qP step h xs).1/\kz T Rep (int z) (qP step h xs).2 i a r b c:=by
  unfold A4 yq;rw[ze (by simp[f143])];refine qF rfl ?_;unfold zw at D;simp;refine zF (fun k U Y Z=>U 0=.sl 7 (xs.map qW.V)/\U 1=.fn (.func g) fi cap/\U 7=int xs.length/\U 8=int k/\a<=Z/\(∀j,j<a->¬T j->Y j=i j)/\∃s,Rep s Y/\qP step h xs=qP step s (xs.drop k)) xs.length ⟨by simp,by simp,by simp,by simp,zk _,fun _ _ _=>rfl,h,F,by simp⟩ ?_;rintro k U Y Z Q ⟨t,u,v,w,y,m,s,n,f⟩;by_cases d:k<xs.length
  ·have G:=ql k;obtain⟨x,p⟩:=yx (xs[k]);obtain⟨r,Y2,H,l,rfl,B,R,I⟩:=E s x Y Z (by rw[<-p];exact zj d) (by omega) n;rw[zc d,p]at f;have o:∀j,j<a->¬T j->Y2 j=i j:=fun j J C=>by rw[I j (by omega) C];exact m j J C
   cases e:(step s x).1
   ·rw[xb e]at f;rw[e]at l;simp[t,u,v,w,d,p,A,l,G];exact⟨by omega,by omega,o,_,B,f⟩
   ·rw[xW e]at f;rw[e]at l;simp[t,u,v,w,d,p,A,l,f,kz,f143];exact⟨B,by omega,o⟩
  ·obtain rfl:k=xs.length:=by omega
   rw[zn]at f;simp only[qP]at f;simp[t,u,v,w,f,kz,f143];exact⟨n,y,m⟩
 obtain⟨r,b,c,l,z,rfl,K,_,L,M,N⟩:=q;unfold FL yq;rw[ze (by simp[f115])];refine qF rfl ?_;simp[l,K,kz,f115];exact⟨L,M,N⟩
def cq(l:List qA):kN:=⟨22,1,false,[[.sl 10 (l.map qA.V)]]⟩
noncomputable abbrev Ckn1:Ctx:=zR prog [(63,zg false [] AO)]
noncomputable abbrev Ns:AM.Spec:=yq Ckn1 f62
theorem HR:zf prog 62 Ns:=kQ (zS mixed ⟨lV,trivial⟩:AM.Good Ckn1 _) func62
theorem R1(l:List qA)(n:za)(b:l.length<=zw)(Y:Hp)(Z id:Nat)(a:Y id=some (cq l)):Ns [str n,.ref id 0 0] Y Z=some (wo (j7 l n),Y,Z):=by
 unfold Ns yq;rw[ze (by simp[f62])];refine yQ rfl ?_;have c:=fun Y Z=>lU l n Y Z b
 simp[cq]at a;simp[a,c,j7,f62]
theorem o7{f:za->Bool}:∀l:List za,(qP (fun(_:Unit) n=>(!f n,())) () l).1=!(l.all f)
 |[]=>rfl
 |a::l=>by
  cases h:f a
  ·simp[qP,h]
  ·simp[qP,h,o7 l]
noncomputable def FKn:zb->Option O:=qf (α:=List qA×qW) (fun a=>[.sl 10 (a.1.map qA.V),.agg a.2.V]) (fun a=>a.1.length<=zw/\a.2.cb<=zw) (fun a=>wo (ke a.1 a.2))
theorem Nt(l:List qA)(c:qW)(Y:Hp)(Z:Nat)(h:l.length<=zw)(d:c.cb<=zw):zg false [] FKn [.sl 10 (l.map qA.V),.agg c.V] Y Z=some (wo (ke l c),Y,Z):=
 XX (l,c) _ _ (by simp[q6]) (fun a b e=>by obtain⟨f,g⟩:=a;obtain⟨i,j⟩:=b;simp only[zh,zA,O.agg.injEq]at e;rw[vO e.1,Zk e.2]) ⟨h,d⟩ (.inl rfl)
noncomputable abbrev Ckn:Ctx:=zR prog [(61,fl 62 Ns zw)]
theorem D6(l:List qA)(c:qW)(e:l.length<=zw)(d:c.cb<=zw):zo Ckn f34 [.sl 10 (l.map qA.V),.agg c.V]=some (wo (ke l c)):=by
 refine zm rfl ?_;obtain⟨x,f,i,a,rfl,_,_,_⟩:=lX (U:=Unit) (T:=fun _=>False) (Rep:=fun _ Y=>Y 0=some (cq l)) (step:=fun _ n=>(!j7 l n,())) (Q:=fun _=>True) (g:=62) (sp:=Ns) (cap:=[.ref 0 0 0]) (Z0:=2) (by decide) (fun _ h=>h.elim)
  (fun _ Y j b k h=>by rw[zM _ _ _ _ (by omega)];exact h) (fun _ n Y Z _ _ _ h=>⟨_,Y,Z,R1 l n e Y Z 0 h,by simp,h,zk _,fun _ _ _=>rfl⟩) zw c () (qR (qR (fun _=>none) 0 (some (cq l))) 1 (some ⟨70,7,false,[c.V]⟩)) 2 d d (fun _ _=>trivial) (zk _) (by simp)
 rw[o7]at a;simp only[cq,Bool.not_not]at a;simp[a,ke,zI,f34]
theorem A5:zf prog 34 (zg false [] FKn):=
 vX (zS mixed ⟨aK HR zw,trivial⟩:AM.Good Ckn _) func34 false [] fun⟨l,c⟩ ⟨a,b⟩=>⟨by simp[f34],_,D6 l c a b,qc _⟩
def Ku(st:List Int):kN:=⟨3,1,true,st.map fun z=>[int z]⟩
noncomputable def Nu (sp:AM.Spec):AM.Spec:=yq (zR prog [(63,zg false [] AO),(35,sp)]) f64
noncomputable def l0:Nat->AM.Spec
 | 0=>fun _ _ _=>none
 |n+1=>yq (zR prog [(61,fl 64 (Nu (l0 n)) zw)]) f35
theorem HS{sp:AM.Spec}(h:zf prog 35 sp):zf prog 64 (Nu sp):=
 kQ (qq (q:=[]) (l:=[(63,zg false [] AO),(35,sp)]) mixed ⟨lV,by simp,h,by simp,trivial⟩) func64
theorem l3:∀n,zf prog 35 (l0 n)
 | 0=>Ks ⟨_,func35,by kernel_rfl,by kernel_rfl⟩
 |n+1=>kQ (qq (q:=[]) (l:=[(61,fl 64 (Nu (l0 n)) zw)]) mixed ⟨aK (HS (l3 n)) zw,by simp,trivial⟩) func35
theorem o8{S α b:Type}(f:S->b->Bool×S)(m:α->b):∀(s:S) (l:List α),qP (fun s a=>f s (m a)) s l=qP f s (l.map m)
 |_,[]=>rfl
 |s,a::l=>by simp only[wc,qP,o8 f m _ l]
theorem FM(st:List Int)(i:Nat)(v:Int):(st.map fun z=>[int z]).set i [int v]=(st.set i v).map fun z=>[int z]:=by rw[List.map_set]
theorem A6(l:List qA)(hl:Jg l<=zw)(S:∀s∈l,∀n∈s.cond.names,j7 l n=true)(ids:Nat):∀(n:Nat) (st:List Int) (i:Nat) (Y:Hp) (Z:Nat),vN st<n->st.length=l.length->i<l.length->ids<Z->Y ids=some (Ku st) ->
  ∃x W X,l0 n [.sl 10 (l.map qA.V),.own ids 0 l.length,int i] Y Z=some (x,W,X)/\kz (·=ids) (fun st Y=>Y ids=some (Ku st)) (wo (yE (yT l) n st i).1) (yE (yT l) n st i).2 Y Z x W X
 | 0,_,_,_,_,h,_,_,_,_=>absurd h (by omega)
 |n+1,st,i,Y0,a,hw,B,d,hid,C=>by
  have hle:=Kq l;have hm:=YK (zj d);have Po:l[i].cb=1+l[i].name.length+Yr l[i].ins+Yr l[i].outs+l[i].cond.cb:=rfl;unfold zw at hl;have ni:¬ids=a:=by omega
  have k:¬ids=a+1:=by omega
  have c:i<st.length:=by omega
  have D:=C;simp[Ku]at D;unfold l0 yq;rw[ze (by simp[f35])];refine qF rfl ?_;by_cases w:st[i]=0
  case neg=>
   have E:yE (yT l) (n+1) st i=(decide (st[i]?=some 1),st):=by simp only[yE];rw[zd (by rw[zl c];simpa using w)]
   have F:=xN w;have G:decide (st[i]?=some 1)=(st[i]==1):=by rw[zl c,qx];simp
   rw[E,G];simp[D,ni,k,d,c,F,kz,f35];exact⟨rfl,by omega,fun j H o=>by rw[zM _ _ _ _ (by omega),zM _ _ _ _ (by omega)]⟩
  have h0:st[i]?=some 0:=by rw[zl c,w]
  have hwc:=Xk h0 (v:=1) (by decide);have e:yT l i=l[i].cond.names.map (Y8 l):=by unfold yT;rw[zl d]
  have E:yE (yT l) (n+1) st i=((qP (yE (yT l) n) (st.set i 1) (yT l i)).1,(qP (yE (yT l) n) (st.set i 1) (yT l i)).2.set i 2):=by simp only[yE];rw[ze h0]
  have I:=Yi (jt (yT l) n) (yT l i) (st.set i 1);obtain⟨x,Y2,p,f,rfl,⟨q,r2b,r2c,J,K⟩,n2,r⟩:=lX (U:=List Int) (T:=(·=ids)) (Rep:=fun s Y=>Y ids=some (Ku s)/\s.length=l.length/\vN s<n/\Y a=some (cq l)/\Y (a+1)=some ⟨75,1,false,[[.own ids 0 l.length]]⟩) (step:=fun s m=>yE (yT l) n s (Y8 l m)) (Q:=fun m=>j7 l m=true) (g:=64)
   (sp:=Nu (l0 n)) (cap:=[.ref a 0 0,.ref (a+1) 0 0]) (Z0:=a+2) (by decide) (fun j H=>by omega)
   (fun s Y j b H ⟨L,y,z,t,A⟩=>⟨by rw[zM _ _ _ _ (by omega)];exact L,y,z,by rw[zM _ _ _ _ (by omega)];exact t,by rw[zM _ _ _ _ (by omega)];exact A⟩)
   (fun s m Y Z hq hml o ⟨L,y,z,t,A⟩=>by
    have M:=Ng hq;have G:=fun Y Z=>lU l m Y Z (by unfold zw;omega)
    obtain⟨x,Y2,p,f,rfl,q,n2,r⟩:=A6 l (by unfold zw;omega) S ids n s (Y8 l m) Y Z z y M (by omega) L;have u:=jt (yT l) n s (Y8 l m);refine⟨_,Y2,p,?_,rfl,⟨q,by rw[u.len];exact y,vY u.wh z,by rw[r a (by omega) (by omega)];exact t,by rw[r (a+1) (by omega) (by omega)];exact A⟩,n2,r⟩;unfold Nu yq;rw[ze (by simp[f64])];refine yQ rfl ?_;simp only[cq]at t;simp only[Y8]at f;simp[t,A,G,f,Y8,f64])
   zw l[i].cond (st.set i 1) (qR (qR (qR Y0 a (some (cq l))) (a+1) (some ⟨75,1,false,[[.own ids 0 l.length]]⟩)) ids (some (Ku (st.set i 1)))) (a+2) (by unfold zw;omega) (by unfold zw;omega) (fun m hm=>S _ (zj d) m hm) (zk _)
   ⟨by simp,by simp[B],by omega,by rw[zM _ _ _ _ (by omega),zM _ _ _ _ (by omega)];simp,by rw[zM _ _ _ _ (by omega)];simp⟩
  rw[o8 (yE (yT l) n) (Y8 l),<-e]at f q;rw[E];simp only[cq,Ku,<-FM]at f;simp only[Ku]at q;have N:¬a=ids:=by omega
  have P:¬a+1=ids:=by omega
  have R:i<(qP (yE (yT l) n) (st.set i 1) (yT l i)).2.length:=by rw[I.len,Xz];exact c
  simp[D,ni,k,N,P,d,c,w,f,q,J,K,R,kz,f35];exact⟨by rw[FM];rfl,by omega,fun j H o=>by rw[zM _ _ _ _ o,r j (by omega) o,zM _ _ _ _ o,zM _ _ _ _ (by omega),zM _ _ _ _ (by omega)]⟩
noncomputable def D7:zb->Option O:=qf (α:=qA×za) (fun a=>[.agg a.1.V,str a.2]) (fun _=>True) (fun a=>int (yJ a.1.name a.2))
theorem fm(x:qA)(s:za)(Y:Hp)(Z:Nat):zg false [] D7 [.agg x.V,str s] Y Z=some (int (yJ x.name s),Y,Z):=
 XX (x,s) _ _ (by simp[w8]) (fun a b e=>by obtain⟨c,d⟩:=a;obtain⟨f,g⟩:=b;simp only[zh,zA,O.agg.injEq]at e;rw[YJ e.1,wb e.2]) trivial (.inl rfl)
noncomputable abbrev zaQ:Ctx:=zR prog [(27,zg false [] (Hq yJ))]
theorem A7:zf prog 142 (zg false [] D7):=
 vX (zS mixed ⟨kC,trivial⟩:AM.Good zaQ _) func142 false [] fun⟨x,s⟩ _=>⟨by simp[f142],_,zm rfl (by simp[f142,w8]),qc _⟩
noncomputable def Nv:zb->Option O:=qf (α:=List qA×za) (fun a=>[.sl 10 (a.1.map qA.V),str a.2,.fn (.func 142) [] []]) (fun a=>a.1.length<=zw) (fun a=>.wP [int (Qp (a.1.map qA.name) a.2).1,wo (Qp (a.1.map qA.name) a.2).2])
theorem D8(l:List qA)(s:za)(Y:Hp)(Z:Nat)(h:l.length<=zw):zg false [] Nv [.sl 10 (l.map qA.V),str s,.fn (.func 142) [] []] Y Z=some (.wP [int (Qp (l.map qA.name) s).1,wo (Qp (l.map qA.name) s).2],Y,Z):=
 XX (l,s) _ _ rfl (fun a b e=>by obtain⟨f,g⟩:=a;obtain⟨i,j⟩:=b;simp only[zh,zA]at e;obtain⟨c,d⟩:=e;injection c with _ c;rw[yX (fun _ _=>YJ) c,wb d]) h (.inl rfl)
noncomputable abbrev Ua:Ctx:=zR prog [(142,zg false [] D7)]
theorem HT(l:List qA)(s:za)(w:l.length<=zw):zo Ua f103 [.sl 10 (l.map qA.V),str s,.fn (.func 142) [] []]=some (.wP [int (Qp (l.map qA.name) s).1,wo (Qp (l.map qA.name) s).2]):=by
 refine zm rfl ?_;unfold zw at w;have h:(l.map qA.name).length=l.length:=by simp
 simp;refine W8 (fun st=>st.U 0=.sl 10 (l.map qA.V)/\st.U 1=str s/\st.U 2=.fn (.func 142) [] []/\st.U 8=int l.length/\∃lo hi:Nat,lo<=hi/\hi<=l.length/\st.U 9=int lo/\st.U 10=int hi/\ZT (v8 (l.map qA.name) s) 0 (l.map qA.name).length=ZT (v8 (l.map qA.name) s) lo hi)
  (fun st=>(bA (st.U 10)).toNat-(bA (st.U 9)).toNat) ⟨by simp,by simp,by simp,by simp,0,l.length,by simp,by simp,by simp,by simp,by rw[h]⟩ ?_
 rintro⟨U,Y,Z⟩ ⟨i,j,k,n,lo,hi,y,t,o,d,f⟩;simp only at i j k n o d;by_cases b:lo<hi
 ·have a:=fun x Y Z=>fm x s Y Z
  have v:=wu ((lo:Int)+hi);have z:(lo+hi)/2<l.length:=by omega
  obtain⟨m,A⟩:∃m,m=(lo+hi)/2:=⟨_,rfl⟩;have g:i6.wrap ((IntKind.u64.wrap ((lo:Int)+hi)).fdiv (2 ^ min 1 IntKind.u64.bits))=(m:Int):=by
   have B:IntKind.u64.wrap ((lo:Int)+hi)=(lo:Int)+hi:=by rw[IntKind.wrap_u64];omega
   have C:(2 ^ min 1 IntKind.u64.bits:Int)=2:=by decide
   rw[B,C,Cm _ (by omega),wR (by omega) (by omega)];omega
  have e:m<l.length:=by omega
  have D:=ql m;have u:v8 (l.map qA.name) s m=decide (yJ l[m].name s<0):=by simp[v8,e]
  rw[Xj (lo:=lo) b,<-A,u]at f;have c:=a l[m];simp only[w8]at c;by_cases r:yJ l[m].name s<0
  ·simp only[r,decide_true,qB]at f;simp[i,j,k,n,o,d,b,v,g,e,c,r,D,w8];exact⟨⟨m+1,hi,by omega,t,by omega,rfl,by rw[h]at f;exact f⟩,by omega⟩
  ·simp only[r,decide_false,zq,qn]at f;simp[i,j,k,n,o,d,b,v,g,e,c,r,w8];exact⟨⟨lo,m,by omega,by omega,rfl,rfl,by rw[h]at f;exact f⟩,by omega⟩
 ·have f:ZT (v8 (l.map qA.name) s) 0 (l.map qA.name).length=lo:=by rw[f,cj (lo:=lo) b]
  have a:=fun x Y Z=>fm x s Y Z
  unfold Qp;rw[f];by_cases p:lo<l.length
  ·have c:=a l[lo];simp only[w8]at c;simp[i,j,k,n,o,d,b,p,c,w8,f103,zI]
  ·have q:l[lo]?=none:=jr (by omega);simp[i,j,k,n,o,d,b,p,q,f103,zI]
theorem D9:zf prog 103 (zg false [] Nv):=
 vX (qq (q:=[142]) mixed ⟨A7,fun _=>zu _ _,trivial⟩:AM.Good Ua _) func103 false [] fun⟨l,s⟩ a=>⟨zG (zk 3) (by decide),_,HT l s a,qc _⟩
noncomputable def FHs:zb->Option O:=qf (α:=List qA×za) (fun a=>[.sl 10 (a.1.map qA.V),str a.2]) (fun a=>a.1.length<=zw) fun a=>wo (j7 a.1 a.2)
theorem Nw(l:List qA)(s:za)(Y:Hp)(Z:Nat)(h:l.length<=zw):zg false [] FHs [.sl 10 (l.map qA.V),str s] Y Z=some (wo (j7 l s),Y,Z):=
 yA (V:=fun a:List qA×za=>[O.sl 10 (a.1.map qA.V),str a.2]) (fun a b e=>by obtain⟨c,d⟩:=a;obtain⟨f,g⟩:=b;simp only[zh,zA]at e;rw[vO e.1,wb e.2]) (l,s) (fun Y=>by simp) h (.inl rfl) Y Z
noncomputable abbrev Chs:Ctx:=zR prog [(103,zg false [] Nv)]
theorem sA:zf prog 114 (zg false [] FHs):=
 vX (zS mixed ⟨D9,trivial⟩:AM.Good Chs _) func114 false [] fun⟨l,s⟩ a=>by
  have b:=fun Y Z=>D8 l s Y Z a
  exact⟨by simp[f114],_,zm rfl (by simp[b,j7,zI,f114]),qc _⟩
theorem HU(l:List qA)(c:qW):ke l c=((c.kind != 5||j7 l c.name)&&!(c.args.any fun a=>!ke l a)):=by
 unfold ke;rw[Qe,List.all_append];congr 1
 ·by_cases h:c.kind=5<;>simp[h]
 ·rw[qx];simp only[zY,vk,List.any_eq_false,Bool.not_eq_true,Bool.not_eq_false'];constructor
  ·intro h a b;rw[Bool.not_eq_false];exact zY.2 fun n d=>h n (KO.2 ⟨a,b,d⟩)
  ·intro h n d;obtain⟨a,b,e⟩:=KO.1 d;have f:=h a b;rw[Bool.not_eq_false]at f;exact zY.1 f n e
noncomputable def FNa (k:Nat):zb->Option O:=qf (α:=List qA×qW) (fun a=>[.sl 10 (a.1.map qA.V),.agg a.2.V]) (fun a=>a.1.length<=zw/\a.2.cb<=zw/\a.2.cb<=k) fun a=>wo (ke a.1 a.2)
theorem A8(k:Nat)(l:List qA)(c:qW)(Y:Hp)(Z:Nat)(h:l.length<=zw/\c.cb<=zw/\c.cb<=k):zg false [] (FNa k) [.sl 10 (l.map qA.V),.agg c.V] Y Z=some (wo (ke l c),Y,Z):=
 yA (V:=fun a:List qA×qW=>[O.sl 10 (a.1.map qA.V),.agg a.2.V]) (fun a b e=>by obtain⟨d,f⟩:=a;obtain⟨g,i⟩:=b;simp only[zh,zA,O.agg.injEq]at e;rw[vO e.1,Zk e.2]) (l,c) (fun Y=>by simp[q6]) h (.inl rfl) Y Z
noncomputable abbrev Nx (k:Nat):AM.Spec:=yq (zR prog [(74,zg false [] (FNa k))]) f116
noncomputable abbrev TAna (k:Nat):Zu:=[(116,Nx k)]
theorem HV{k:Nat}(h:zf prog 74 (zg false [] (FNa k))):zf prog 116 (Nx k):=kQ (qq (q:=[]) (l:=[(74,zg false [] (FNa k))]) mixed ⟨h,by simp,trivial⟩) func116
theorem R2(k:Nat)(l:List qA)(c:qW)(h:l.length<=zw/\c.cb<=zw/\c.cb<=k)(Y:Hp)(Z id:Nat)(hid:id<Z)(a:Y id=some (cq l)):Nx k [.agg c.V,.ref id 0 0] Y Z=some (wo (!ke l c),qR Y Z (some ⟨70,7,false,[c.V]⟩),Z+1):=by
 have b:=fun Y Z=>A8 k l c Y Z h
 have n1:¬id=Z:=by omega
 unfold Nx yq;rw[ze (by simp[f116])];refine yQ rfl ?_;simp only[cq]at a;simp[a,n1,b,f116]
noncomputable abbrev Cna (k:Nat):Ctx:=zR prog [(114,zg false [] FHs),(115,FL (TAna k))]
theorem A9(k:Nat)(l:List qA)(c:qW)(h:l.length<=zw/\c.cb<=zw/\c.cb<=k+1):zo (Cna k) f74 [.sl 10 (l.map qA.V),.agg c.V]=some (wo (ke l c)):=by
 obtain⟨n,t,u⟩:=h;have o:=Jm c;have p:=xR c.args;have e:=fun Y Z=>Nw l c.name Y Z n
 obtain⟨r,Y2,q,d,rfl,_,v,_⟩:=Nr (U:=Unit) (T:=fun _=>False) (Rep:=fun _ Y=>Y 0=some (cq l)) (step:=fun _ a=>(!ke l a,())) (Ta:=TAna k) (g:=116) (sp:=Nx k) (fi:=[]) (cap:=[.ref 0 0 0]) (Z0:=2) (by simp) c.args (by omega)
  (fun _ a Y Z s w f=>⟨_,_,_,R2 k l a (by have:=Z8 s;omega) Y Z 0 (by omega) f,rfl,(zM _ _ _ _ (by omega)).trans f,by omega,fun j x _=>zM _ _ _ _ (by omega)⟩) () (qR (qR (fun _=>none) 0 (some (cq l))) 1 (some ⟨70,7,false,[c.V]⟩)) 2 (zk _) (by simp)
 rw[JG]at d;simp only[cq]at d;rw[q6 c]at d;refine zm rfl ?_;rw[HU];by_cases i:c.kind=5
 ·have b:(c.kind != 5)=false:=by simpa using i
  cases m:j7 l c.name
  ·simp[q6 c,b,m,e,zI,f74]
  ·simp[q6 c,b,m,e,d,zI,f74]
 ·have b:(c.kind != 5)=true:=by simpa using i
  simp[q6 c,b,d,zI,f74]
theorem cr:∀k,zf prog 74 (zg false [] (FNa k))
 | 0=>Js ⟨_,func74,by kernel_rfl,by kernel_rfl⟩ fun args r h=>by obtain⟨a,_,⟨_,_,d⟩,_⟩:=zN h;have:=iW a.2;omega
 |k+1=>vX (C:=Cna k) (qq (q:=[114]) mixed ⟨sA,fun _=>zu _ _,D5 ⟨HV (cr k),by simp,trivial⟩,by simp,trivial⟩) func74 false [] fun⟨l,c⟩ b=>⟨by simp[f74],_,A9 k l c b,qc _⟩
noncomputable def Ea:zb->Option O:=qf (α:=wC×za) (fun a=>[.agg a.1.V,str a.2]) (fun _=>True) (fun a=>int (yJ a.1.name a.2))
theorem fo(x:wC)(s:za)(Y:Hp)(Z:Nat):zg false [] Ea [.agg x.V,str s] Y Z=some (int (yJ x.name s),Y,Z):=
 XX (x,s) _ _ (by simp[qd]) (fun a b e=>by obtain⟨c,d⟩:=a;obtain⟨f,g⟩:=b;simp only[zh,zA,O.agg.injEq]at e;rw[WS e.1,wb e.2]) trivial (.inl rfl)
noncomputable abbrev zaR:Ctx:=zR prog [(27,zg false [] (Hq yJ))]
theorem Ba:zf prog 26 (zg false [] Ea):=
 vX (zS mixed ⟨kC,trivial⟩:AM.Good zaR _) func26 false [] fun⟨x,s⟩ _=>⟨by simp[f26],_,zm rfl (by simp[f26,qd]),qc _⟩
noncomputable def Ny:zb->Option O:=qf (α:=List wC×za) (fun a=>[.sl 11 (a.1.map wC.V),str a.2,.fn (.func 26) [] []]) (fun a=>a.1.length<=zw) (fun a=>.wP [int (Qp (a.1.map wC.name) a.2).1,wo (Qp (a.1.map wC.name) a.2).2])
theorem Eb(l:List wC)(s:za)(Y:Hp)(Z:Nat)(h:l.length<=zw):zg false [] Ny [.sl 11 (l.map wC.V),str s,.fn (.func 26) [] []] Y Z=some (.wP [int (Qp (l.map wC.name) s).1,wo (Qp (l.map wC.name) s).2],Y,Z):=
 XX (l,s) _ _ rfl (fun a b e=>by obtain⟨f,g⟩:=a;obtain⟨i,j⟩:=b;simp only[zh,zA]at e;obtain⟨c,d⟩:=e;injection c with _ c;rw[yX (fun _ _=>WS) c,wb d]) h (.inl rfl)
noncomputable abbrev Ub:Ctx:=zR prog [(26,zg false [] Ea)]
theorem HW(l:List wC)(s:za)(w:l.length<=zw):zo Ub f25 [.sl 11 (l.map wC.V),str s,.fn (.func 26) [] []]=some (.wP [int (Qp (l.map wC.name) s).1,wo (Qp (l.map wC.name) s).2]):=by
 refine zm rfl ?_;unfold zw at w;have h:(l.map wC.name).length=l.length:=by simp
 simp;refine W8 (fun st=>st.U 0=.sl 11 (l.map wC.V)/\st.U 1=str s/\st.U 2=.fn (.func 26) [] []/\st.U 8=int l.length/\∃lo hi:Nat,lo<=hi/\hi<=l.length/\st.U 9=int lo/\st.U 10=int hi/\ZT (v8 (l.map wC.name) s) 0 (l.map wC.name).length=ZT (v8 (l.map wC.name) s) lo hi)
  (fun st=>(bA (st.U 10)).toNat-(bA (st.U 9)).toNat) ⟨by simp,by simp,by simp,by simp,0,l.length,by simp,by simp,by simp,by simp,by rw[h]⟩ ?_
 rintro⟨U,Y,Z⟩ ⟨i,j,k,n,lo,hi,y,t,o,d,f⟩;simp only at i j k n o d;by_cases b:lo<hi
 ·have a:=fun x Y Z=>fo x s Y Z
  have v:=wu ((lo:Int)+hi);have z:(lo+hi)/2<l.length:=by omega
  obtain⟨m,A⟩:∃m,m=(lo+hi)/2:=⟨_,rfl⟩;have g:i6.wrap ((IntKind.u64.wrap ((lo:Int)+hi)).fdiv (2 ^ min 1 IntKind.u64.bits))=(m:Int):=by
   have B:IntKind.u64.wrap ((lo:Int)+hi)=(lo:Int)+hi:=by rw[IntKind.wrap_u64];omega
   have C:(2 ^ min 1 IntKind.u64.bits:Int)=2:=by decide
   rw[B,C,Cm _ (by omega),wR (by omega) (by omega)];omega
  have e:m<l.length:=by omega
  have D:=ql m;have u:v8 (l.map wC.name) s m=decide (yJ l[m].name s<0):=by simp[v8,e]
  rw[Xj (lo:=lo) b,<-A,u]at f;have c:=a l[m];simp only[qd]at c;by_cases r:yJ l[m].name s<0
  ·simp only[r,decide_true,qB]at f;simp[i,j,k,n,o,d,b,v,g,e,c,r,D,qd];exact⟨⟨m+1,hi,by omega,t,by omega,rfl,by rw[h]at f;exact f⟩,by omega⟩
  ·simp only[r,decide_false,zq,qn]at f;simp[i,j,k,n,o,d,b,v,g,e,c,r,qd];exact⟨⟨lo,m,by omega,by omega,rfl,rfl,by rw[h]at f;exact f⟩,by omega⟩
 ·have f:ZT (v8 (l.map wC.name) s) 0 (l.map wC.name).length=lo:=by rw[f,cj (lo:=lo) b]
  have a:=fun x Y Z=>fo x s Y Z
  unfold Qp;rw[f];by_cases p:lo<l.length
  ·have c:=a l[lo];simp only[qd]at c;simp[i,j,k,n,o,d,b,p,c,qd,f25,zI]
  ·have q:l[lo]?=none:=jr (by omega);simp[i,j,k,n,o,d,b,p,q,f25,zI]
theorem Ec:zf prog 25 (zg false [] Ny):=
 vX (qq (q:=[26]) mixed ⟨Ba,fun _=>zu _ _,trivial⟩:AM.Good Ub _) func25 false [] fun⟨l,s⟩ a=>⟨zG (zk 3) (by decide),_,HW l s a,qc _⟩
noncomputable def fp:zb->Option O:=qf (α:=List wC×za) (fun a=>[.sl 11 (a.1.map wC.V),str a.2]) (fun a=>a.1.length<=zw) (fun a=>.wP [int (Qp (a.1.map wC.name) a.2).1,wo (Qp (a.1.map wC.name) a.2).2])
theorem Kv(l:List wC)(s:za)(Y:Hp)(Z:Nat)(h:l.length<=zw):zg false [] fp [.sl 11 (l.map wC.V),str s] Y Z=some (.wP [int (Qp (l.map wC.name) s).1,wo (Qp (l.map wC.name) s).2],Y,Z):=
 XX (l,s) _ _ rfl (fun a b e=>by obtain⟨f,g⟩:=a;obtain⟨i,j⟩:=b;simp only[zh,zA]at e;obtain⟨c,d⟩:=e;injection c with _ c;rw[yX (fun _ _=>WS) c,wb d]) h (.inl rfl)
noncomputable abbrev zdH:Ctx:=zR prog [(25,zg false [] Ny)]
theorem Kw:zf prog 16 (zg false [] fp):=
 vX (zS mixed ⟨Ec,trivial⟩:AM.Good zdH _) func16 false [] fun⟨l,s⟩ a=>by
  have b:=fun Y Z=>Eb l s Y Z a
  exact⟨by simp[f16],_,zm rfl (by simp[b,zI,f16]),qc _⟩
noncomputable def Bb (Ta:Zu):AM.Spec:=yq (zR prog Ta) f113
noncomputable def FN (Ta:Zu):AM.Spec:=yq (zR prog [(113,Bb Ta)]) f72
theorem Ed{Ta:Zu}(h:XA True prog [] Ta):zf prog 113 (Bb Ta):=kQ (qq (q:=[]) mixed h) func113
theorem Ee{Ta:Zu}(h:XA True prog [] Ta):zf prog 72 (FN Ta):=kQ (qq (q:=[]) (l:=[(113,Bb Ta)]) mixed ⟨Ed h,by simp,trivial⟩) func72
theorem Nz{U:Type}{T:Nat->Prop}{Rep:U->Hp->Prop}{step:U->Zh->Bool×U}{Ta:Zu}{g:Nat}{sp:AM.Spec}{fi cap:zb}{Z0:Nat}(A:lookup Ta g=some sp)(xs:List Zh)(D:xs.length<=zw)
  (E:∀s x Y Z,x∈xs->Z0<=Z->Rep s Y->∃r b c,sp (fi++.agg x.V::cap) Y Z=some (r,b,c)/\kz T Rep (wo (step s x).1) (step s x).2 Y Z r b c)
  (h:U) (i:Hp) (a:Nat) (P:Z0<=a) (F:Rep h i) :
  ∃r b c,FN Ta [.sl 12 (xs.map Zh.V),.fn (.func g) fi cap] i a=some (r,b,c)/\kz T Rep (wo (qP step h xs).1) (qP step h xs).2 i a r b c:=by
 have q:∃r b c,Bb Ta [.sl 12 (xs.map Zh.V),.fn (.func g) fi cap] i a=some (r,b,c)/\∃z:Int,r=int z/\decide (0<=z)=(qP step h xs).1/\kz T Rep (int z) (qP step h xs).2 i a r b c:=by
  unfold Bb yq;rw[ze (by simp[f113])];refine qF rfl ?_;unfold zw at D;simp;refine zF (fun k U Y Z=>U 0=.sl 12 (xs.map Zh.V)/\U 1=.fn (.func g) fi cap/\U 7=int xs.length/\U 8=int k/\a<=Z/\(∀j,j<a->¬T j->Y j=i j)/\∃s,Rep s Y/\qP step h xs=qP step s (xs.drop k)) xs.length ⟨by simp,by simp,by simp,by simp,zk _,fun _ _ _=>rfl,h,F,by simp⟩ ?_;rintro k U Y Z Q ⟨t,u,v,w,y,m,s,n,f⟩;by_cases d:k<xs.length
  ·have G:=ql k;obtain⟨x,p⟩:=yx (xs[k]);obtain⟨r,Y2,H,l,rfl,B,R,I⟩:=E s x Y Z (by rw[<-p];exact zj d) (by omega) n;rw[zc d,p]at f;have o:∀j,j<a->¬T j->Y2 j=i j:=fun j J C=>by rw[I j (by omega) C];exact m j J C
   cases e:(step s x).1
   ·rw[xb e]at f;rw[e]at l;simp[t,u,v,w,d,p,A,l,G];exact⟨by omega,by omega,o,_,B,f⟩
   ·rw[xW e]at f;rw[e]at l;simp[t,u,v,w,d,p,A,l,f,kz,f113];exact⟨B,by omega,o⟩
  ·obtain rfl:k=xs.length:=by omega
   rw[zn]at f;simp only[qP]at f;simp[t,u,v,w,f,kz,f113];exact⟨n,y,m⟩
 obtain⟨r,b,c,l,z,rfl,K,_,L,M,N⟩:=q;unfold FN yq;rw[ze (by simp[f72])];refine qF rfl ?_;simp[l,K,kz,f72];exact⟨L,M,N⟩
noncomputable def ct (a:List qA) (n:Int):List Zh->List Zh->Int
 |_,[]=>0
 |b,r::l=>if qG r.name=true then(if(b.any fun o=>o.name==r.name)=true then 7 else if r.cond.check=0 then(if ke a r.cond=true then(if XF r.uc n=0 then ct a n (b++[r]) l else XF r.uc n)else 9)else r.cond.check)else 5
noncomputable def KY (a:List qA) (l:List Zh) (n:Int):Int:=if(40:Int)<l.length then 2 else ct a n [] l
theorem o9{a:List qA}{n:Int}{l:List Zh}{k:Nat}(h:k<l.length):ct a n (l.take k) (l.drop k)=if qG l[k].name=true then(if((l.take k).any fun o=>o.name==l[k].name)=true then 7 else if l[k].cond.check=0 then(if ke a l[k].cond=true then(if XF l[k].uc n=0 then ct a n (l.take (k+1)) (l.drop (k+1))else XF l[k].uc n)else 9)else l[k].cond.check)else 5:=by rw[zc h,ct,<-zX h]
noncomputable abbrev NA:AM.Spec:=yq C0 f73
theorem HX:zf prog 73 NA:=kQ jS func73
def YL(r:Zh):kN:=⟨111,12,false,[r.V]⟩
theorem R3(r o:Zh)(Y:Hp)(Z id:Nat)(hid:id<Z)(a:Y id=some (YL r)):NA [.agg o.V,.ref id 0 0] Y Z=some (wo (o.name==r.name),qR Y Z (some (YL o)),Z+1):=by
 have n1:¬id=Z:=by omega
 unfold NA yq;rw[ze (by simp[f73])];refine yQ rfl ?_;simp only[YL,jU]at a;simp[a,n1,YL,jU,f73]
noncomputable abbrev TAru:Zu:=[(73,NA)]
noncomputable def FRu:zb->Option O:=qf (α:=List qA×List Zh×Int) (fun a=>[.sl 10 (a.1.map qA.V),.sl 12 (a.2.1.map Zh.V),int a.2.2]) (fun a=>Jg a.1<=zw/\(a.2.1.map Zh.cb).sum<=zw/\1<=a.2.2/\a.2.2<=20) fun a=>int (KY a.1 a.2.1 a.2.2)
theorem NB(c:List qA)(l:List Zh)(n:Int)(Y:Hp)(Z:Nat)(h:Jg c<=zw/\(l.map Zh.cb).sum<=zw/\1<=n/\n<=20):zg false [] FRu [.sl 10 (c.map qA.V),.sl 12 (l.map Zh.V),int n] Y Z=some (int (KY c l n),Y,Z):=
 yA (V:=fun a:List qA×List Zh×Int=>[O.sl 10 (a.1.map qA.V),.sl 12 (a.2.1.map Zh.V),int a.2.2]) (fun a b e=>by obtain⟨i,j,k⟩:=a;obtain⟨m,o,p⟩:=b;simp only[zh,zA]at e;obtain⟨f,d,g⟩:=e;injection d with _ d;rw[vO f,yX (fun _ _=>FG) d,qI g]) (c,l,n) (fun Y=>by simp) h (.inl rfl) Y Z
noncomputable abbrev Cru:Ctx:=zR prog [(22,zg false [] (FS qG)),(72,FN TAru),(60,GC fun c=>int c.check),(74,zg false [] (FNa zw)),(42,zg false [] HK)]
theorem HY(a:List qA)(l:List Zh)(n:Int)(h:Jg a<=zw/\(l.map Zh.cb).sum<=zw/\1<=n/\n<=20):zo Cru f41 [.sl 10 (a.map qA.V),.sl 12 (l.map Zh.V),int n]=some (int (KY a l n)):=by
 obtain⟨hs,hc,G,H⟩:=h;have N:=kq Zh.cb FH l;have Q:=Kq a;have K:zw=268435456:=rfl;refine zm rfl ?_;unfold KY;by_cases B:(40:Int)<l.length
 ·rw[ze B];simp[B,zI,f41]
 rw[zd B];simp[B];refine zF (fun k U Y Z=>U 0=.sl 10 (a.map qA.V)/\U 1=.sl 12 (l.map Zh.V)/\U 2=int n/\U 14=.sl 12 (l.map Zh.V)/\U 15=int l.length/\U 16=int k/\ct a n [] l=ct a n (l.take k) (l.drop k)) l.length
  ⟨by simp,by simp,by simp,by simp,by simp,by simp,by simp⟩ ?_
 rintro k U Y Z hk ⟨u,v,w,f,i,m,b⟩;by_cases d:k<l.length
 ·have R:=ql k;obtain⟨r,e⟩:=yx (l[k]);have hm:=vF Zh.cb (show r∈l by rw[<-e];exact zj d);have S:r.cb=1+r.name.length+r.cond.cb+r.uc.cb:=rfl;have p:r.name.length<=zw:=by omega
  have y:=fun Y Z=>Zv (fun c=>int c.check) r.cond Y Z (by omega)
  have C:=fun Y Z=>A8 zw a r.cond Y Z ⟨by omega,by omega,by omega⟩
  have D:=fun Y Z=>Xm r.uc n Y Z ⟨by omega,G,H⟩
  rw[q6]at y C;simp only[JR.V]at D;rw[o9 d,e]at b;cases t:qG r.name
  ·rw[t]at b;simp only[zq,qn]at b;rw[b];simp[u,v,w,f,i,m,d,e,jU r,p,t,zI,f41]
  rw[t,ze rfl]at b;obtain⟨x,Y2,W,s,rfl,z,n2,_⟩:=Nz (U:=Unit) (T:=fun _=>False) (Rep:=fun _ Y=>Y Z=some (YL r)) (step:=fun _ o=>(o.name==r.name,())) (Ta:=TAru) (g:=73) (sp:=NA) (fi:=[]) (cap:=[.ref Z 0 0]) (Z0:=Z+1) (by simp) (l.take k) (by rw[wB];omega)
   (fun _ o Y X ho hn L=>⟨_,_,_,R3 r o Y X Z (by omega) L,rfl,(zM _ _ _ _ (by omega)).trans L,by omega,fun j hj _=>zM _ _ _ _ (by omega)⟩) () (qR Y Z (some (YL r))) (Z+1) (zk _) (by simp)
  rw[JG,gS]at s;simp only[YL,jU r]at s z;have q:=fun Y=>QL (P:=prog) (Y:=Y) (es:=l.map Zh.V) (k:=k) AY (by rw[w9];omega)
  cases M:(l.take k).any fun o=>o.name==r.name
  case true=>rw[M]at s b;simp only[qB]at b;rw[b];simp[u,v,w,f,i,m,d,e,jU r,p,t,q,s,zI,f41]
  rw[M]at s b;simp only[zq,qn]at b;by_cases E:r.cond.check=0
  case neg=>have I:=xN E;rw[zd E]at b;rw[b];simp[u,v,w,f,i,m,d,e,jU r,p,t,q,s,z,y,I,zI,f41]
  rw[ze E]at b;rw[E]at y;cases A:ke a r.cond
  ·rw[A]at b;simp only[zq,qn]at b;rw[b];simp[u,v,w,f,i,m,d,e,jU r,p,t,q,s,z,y,C,A,zI,f41]
  rw[A,ze rfl]at b;by_cases F:XF r.uc n=0
  ·rw[ze F]at b;rw[F]at D;simp[u,v,w,f,i,m,d,e,jU r,p,t,q,s,z,y,C,D,A,R];exact⟨by omega,b⟩
  ·have J:=xN F;rw[zd F]at b;rw[b];simp[u,v,w,f,i,m,d,e,jU r,p,t,q,s,z,y,C,D,A,J,zI,f41]
 ·obtain rfl:k=l.length:=by omega
  rw[zn,ct]at b;rw[b];simp[u,v,w,f,i,m,zI,f41]
theorem Ef:zf prog 41 (zg false [] FRu):=
 vX (C:=Cru) (zS mixed ⟨xf,Ee ⟨HX,by simp,trivial⟩,ch,cr zw,o1,trivial⟩) func41 false [] fun⟨s,l,n⟩ a=>⟨by simp[f41],_,HY s l n a,qc _⟩
noncomputable def YM (a:List qA) (f:wC):Int:=if xX f.vars f.off=0 then(if X9 f.wT=0 then(if JH f.Wz f.vars.length=0 then(if KY a f.WW f.vars.length=0 then XF f.WA f.vars.length else KY a f.WW f.vars.length)else JH f.Wz f.vars.length)else X9 f.wT)else xX f.vars f.off
theorem pa{l:List qu}{off:Int}(h:xX l off=0):1<=(l.length:Int)/\(l.length:Int)<=20:=by
 unfold xX at h;split at h
 ·simp at h
 rename_i a;split at h
 ·simp at h
 omega
noncomputable def FFl:zb->Option O:=qf (α:=List qA×wC) (fun a=>[.sl 10 (a.1.map qA.V),.agg a.2.V]) (fun a=>Jg a.1<=zw/\a.2.cb<=zw) fun a=>int (YM a.1 a.2)
theorem NC(c:List qA)(f:wC)(Y:Hp)(Z:Nat)(h:Jg c<=zw/\f.cb<=zw):zg false [] FFl [.sl 10 (c.map qA.V),.agg f.V] Y Z=some (int (YM c f),Y,Z):=
 yA (V:=fun a:List qA×wC=>[O.sl 10 (a.1.map qA.V),.agg a.2.V]) (fun a b e=>by obtain⟨d,g⟩:=a;obtain⟨i,j⟩:=b;simp only[zh,zA,O.agg.injEq]at e;rw[vO e.1,WS e.2]) (c,f) (fun Y=>by simp[qd]) h (.inl rfl) Y Z
noncomputable abbrev Cfl:Ctx:=zR prog [(38,zg false [] FVr2),(39,zg false [] FPq),(40,zg false [] FTg),(41,zg false [] FRu),(42,zg false [] HK)]
theorem HZ(a:List qA)(f:wC)(h:Jg a<=zw/\f.cb<=zw):zo Cfl f23 [.sl 10 (a.map qA.V),.agg f.V]=some (int (YM a f)):=by
 obtain⟨hs,t⟩:=h;have s:f.cb=1+f.name.length+Ys f.vars+(f.wT.map jB.cb).sum+(f.Wz.map kB.cb).sum+(f.WW.map Zh.cb).sum+f.WA.cb:=rfl;have b:=fun Y Z=>HN f.vars f.off Y Z (by omega)
 have c:=fun Y Z=>A3 f.wT Y Z (by omega)
 refine zm rfl ?_;unfold YM;by_cases d:xX f.vars f.off=0
 case neg=>have k:=xN d;rw[zd d];simp[qd,b,k,zI,f23]
 rw[ze d];rw[d]at b;obtain⟨l,m⟩:=pa d;have e:=fun Y Z=>Nl f.Wz f.vars.length Y Z ⟨by omega,l,m⟩
 have n:=fun Y Z=>NB a f.WW f.vars.length Y Z ⟨hs,by omega,l,m⟩
 have r:=fun Y Z=>Xm f.WA f.vars.length Y Z ⟨by omega,l,m⟩
 simp only[JR.V]at r;by_cases g:X9 f.wT=0
 case neg=>have o:=xN g;rw[zd g];simp[qd,b,c,o,zI,f23]
 rw[ze g];rw[g]at c;by_cases i:JH f.Wz f.vars.length=0
 case neg=>have p:=xN i;rw[zd i];simp[qd,b,c,e,p,zI,f23]
 rw[ze i];rw[i]at e;by_cases j:KY a f.WW f.vars.length=0
 case neg=>have q:=xN j;rw[zd j];simp[qd,b,c,e,n,q,zI,f23]
 rw[ze j];rw[j]at n;simp[qd,b,c,e,n,r,zI,f23]
theorem Eg:zf prog 23 (zg false [] FFl):=
 vX (C:=Cfl) (zS mixed ⟨D2,D3,DZ,Ef,o1,trivial⟩) func23 false [] fun⟨s,f⟩ a=>⟨by simp[f23],_,HZ s f a,qc _⟩
noncomputable def xq (l:List wC) (n:za):Bool:=(Qp (l.map wC.name) n).2
noncomputable def j8 (l:List wC) (n:za):Nat:=(Qp (l.map wC.name) n).1
theorem JI{l:List wC}{n:za}(h:xq l n=true):j8 l n<l.length:=by have:=Nc (l:=l.map wC.name) (s:=n) h;rw[w9]at this;exact this
noncomputable def pb (l:List wC) (n:za):Int:=match l[j8 l n]? with
 |some f=>f.vars.length
 |none=>0
noncomputable def ZE (l:List wC) (p:jB):Int:=if xq l p.flag=true then(if jE p.var 0 (pb l p.flag-1)=true then 0 else 1)else 9
noncomputable def kr (l:List wC):List jB->Int
 |[]=>0
 |p::q=>if ZE l p=0 then kr l q else ZE l p
noncomputable def vg (l:List wC):List wC->Int
 |[]=>0
 |f::q=>if kr l f.wT=0 then vg l q else kr l f.wT
noncomputable def wI (l:List wC) (i:Nat):List Nat:=match l[i]? with
 |some f=>f.wT.map fun p=>j8 l p.flag
 |none=>[]
noncomputable def sB (l:List wC):List Int->List Nat->Bool×List Int:=qP (yE (wI l) 268435457)
noncomputable def Yj (l:List wC):Bool:=(sB l (List.replicate l.length 0) (List.range l.length)).1
noncomputable def xj (l:List wC):Int:=if vg l l=0 then(if Yj l=true then 12 else 0)else vg l l
theorem cu{l:List wC}{q:List jB}{k:Nat}(h:k<q.length):kr l (q.drop k)=if ZE l q[k]=0 then kr l (q.drop (k+1))else ZE l q[k]:=by rw[zc h,kr]
theorem cv{l q:List wC}{k:Nat}(h:k<q.length):vg l (q.drop k)=if kr l q[k].wT=0 then vg l (q.drop (k+1))else kr l q[k].wT:=by rw[zc h,vg]
theorem ZL{l:List wC}:∀{q:List jB},kr l q=0->∀p∈q,xq l p.flag=true/\jE p.var 0 (pb l p.flag-1)=true
 |[],_,p,Y=>by cases Y
 |a::q,h,p,Y=>by
  simp only[kr]at h;split at h
  case isFalse c=>exact absurd h c
  rename_i b;rcases zv.1 Y with rfl|Y
  ·unfold ZE at b;split at b
   case isFalse=>simp at b
   rename_i d;refine⟨d,?_⟩;split at b
   case isFalse=>simp at b
   assumption
  ·exact ZL h p Y
theorem ZM{l:List wC}:∀{q:List wC},vg l q=0->∀f∈q,kr l f.wT=0
 |[],_,f,b=>by cases b
 |a::q,h,f,b=>by
  simp only[vg]at h;split at h
  case isFalse c=>exact absurd h c
  rename_i d;rcases zv.1 b with rfl|b
  ·exact d
  ·exact ZM h f b
noncomputable def dX:Nat->AM.Spec
 | 0=>fun _ _ _=>none
 |n+1=>yq (zR prog [(16,zg false [] fp),(44,dX n)]) f44
theorem fq:∀n,zf prog 44 (dX n)
 | 0=>Ks ⟨_,func44,by kernel_rfl,by kernel_rfl⟩
 |n+1=>kQ (qq (q:=[]) (l:=[(16,zg false [] fp),(44,dX n)]) mixed ⟨Kw,by simp,fq n,by simp,trivial⟩) func44
def FO(a:Nat)(b:Bool)(s:List Int)(Y:Hp)(Z:Nat)(x:O)(c:Hp)(d:Nat):Prop:=x=wo b/\(b=false->c a=some (Ku s))/\Z<=d/\∀j,j<Z->¬j=a->c j=Y j
theorem pc(l:List wC)(hl:AV l<=zw)(hk:∀f∈l,∀p∈f.wT,xq l p.flag=true)(a:Nat):∀(n:Nat) (st:List Int) (i:Nat) (Y:Hp) (Z:Nat),vN st<n->st.length=l.length->i<l.length->a<Z->Y a=some (Ku st) ->
  ∃x Y' Z',dX n [.sl 11 (l.map wC.V),.own a 0 l.length,int i] Y Z=some (x,Y',Z')/\FO a (yE (wI l) n st i).1 (yE (wI l) n st i).2 Y Z x Y' Z'
 | 0,_,_,_,_,h,_,_,_,_=>absurd h (by omega)
 |n+1,st,i,Y0,t,hw,P,d,hid,Q=>by
  unfold AV at hl;have nT:zw=268435456:=rfl;have hle:=kq wC.cb Xl l;obtain⟨f,u⟩:=yx (l[i]);have D:f∈l:=by rw[<-u];exact zj d
  have hm:=vF wC.cb D;have Po:f.cb=1+f.name.length+Ys f.vars+(f.wT.map jB.cb).sum+(f.Wz.map kB.cb).sum+(f.WW.map Zh.cb).sum+f.WA.cb:=rfl;have hpl:=kq jB.cb Kt f.wT;have e:i<st.length:=by omega
  have S:=Q;simp[Ku]at S;unfold dX yq;rw[ze (by simp[f44])];refine qF rfl ?_;by_cases M:st[i]=0
  case neg=>
   have T:yE (wI l) (n+1) st i=(decide (st[i]?=some 1),st):=by simp only[yE];rw[zd (by rw[zl e];simpa using M)]
   have W:=xN M;have E:decide (st[i]?=some 1)=(st[i]==1):=by rw[zl e,qx];simp
   rw[T,E];simp[S,d,e,W,FO,Ku,f44]
  have h0:st[i]?=some 0:=by rw[zl e,M]
  have hwc:=Xk h0 (v:=1) (by decide);have c:wI l i=f.wT.map fun p=>j8 l p.flag:=by unfold wI;rw[zl d,u]
  have T:yE (wI l) (n+1) st i=((qP (yE (wI l) n) (st.set i 1) (wI l i)).1,(qP (yE (wI l) n) (st.set i 1) (wI l i)).2.set i 2):=by simp only[yE];rw[ze h0]
  rw[T];obtain⟨R,hR⟩:=yx (qP (yE (wI l) n) (st.set i 1) (wI l i));rw[hR];simp[S,d,e,M,u,qd f];refine zF (fun k U Y Z=>U 0=.sl 11 (l.map wC.V)/\U 1=.own a 0 l.length/\U 2=int i/\U 28=.sl 2 (f.wT.map jB.V)/\U 29=int f.wT.length/\U 30=int k/\t<=Z/\(∀j,j<t->¬j=a->Y j=Y0 j)/\∃s:List Int,s.length=l.length/\vN s<n/\Y a=some (Ku s)/\R=qP (yE (wI l) n) s ((wI l i).drop k)) f.wT.length
   ⟨by simp,by simp,by simp,by simp,by simp,by simp,zk _,fun j N w=>zM _ _ _ _ w,st.set i 1,by simp[P],by omega,by simp[Ku],by simp[hR]⟩ ?_
  rintro k U Y Z Ty ⟨y,E,X,z,A,B,hnx,F,s,C,G,H,q⟩;have hsi2:i<s.length:=by omega
  by_cases m:k<f.wT.length
  ·have hwk:=ql k;obtain⟨p,o⟩:=yx (f.wT[k]);have hpm:p∈f.wT:=by rw[<-o];exact zj m
   have I:=hk f D p hpm;have hix:=JI I;have g1:=fun Y Z=>Kv l p.flag Y Z (by omega)
   have nid:¬a=Z:=by omega
   obtain⟨x,Y2,CJ,J,rfl,r2,n2,f2⟩:=pc l hl hk a n s (j8 l p.flag) (qR Y Z (some ⟨54,2,false,[p.V]⟩)) (Z+1) G C hix (by omega) (by rw[zM _ _ _ _ nid];exact H);have K:=jt (wI l) n s (j8 l p.flag);rw[c,zc (by simpa using m),List.getElem_map,o]at q;simp only[jB.V,j8]at J;have L:∀j,j<t->¬j=a->Y2 j=Y0 j:=fun j N w=>by rw[f2 j (by omega) w,zM _ _ _ _ (by omega)];exact F j N w
   cases g:(yE (wI l) n s (j8 l p.flag)).1
   ·rw[xb g]at q;have b:=g;simp only[j8]at b;rw[b]at J;simp[y,E,X,z,A,B,m,o,jB.V,g1,J,hwk];exact⟨by omega,by omega,L,_,by rw[K.len];exact C,vY K.wh G,r2 g,by rw[q,c]⟩
   ·rw[xW g]at q;have b:=g;simp only[j8]at b;rw[b]at J;simp[y,E,X,z,A,B,m,o,jB.V,g1,J,q,FO,f44];exact⟨by omega,L⟩
  ·obtain rfl:k=f.wT.length:=by omega
   rw[wF (by rw[c];simp)]at q;simp only[qP]at q;have r:=H;simp[Ku]at r;simp[y,E,X,z,A,B,r,d,C,q,FO,f44];exact⟨by simp[Ku],hnx,fun j N w=>by rw[zM _ _ _ _ w];exact F j N w⟩
noncomputable def ND:zb->Option O:=qf (α:=List wC) (fun l=>[.sl 11 (l.map wC.V)]) (fun l=>AV l<=zw) fun l=>int (xj l)
theorem Eh(l:List wC)(Y:Hp)(Z:Nat)(h:AV l<=zw):zg false [] ND [.sl 11 (l.map wC.V)] Y Z=some (int (xj l),Y,Z):=
 yA (V:=fun l:List wC=>[O.sl 11 (l.map wC.V)]) (fun a b e=>by simp only[zh,zA]at e;exact AU e) l (fun Y=>by simp) h (.inl rfl) Y Z
noncomputable abbrev Cnd0:Ctx:=zR prog [(16,zg false [] fp),(43,zg false [] (F3 jE)),(44,dX 268435457)]
theorem H0(l:List wC)(h:AV l<=zw):zo Cnd0 f24 [.sl 11 (l.map wC.V)]=some (int (xj l)):=by
 have Q:=h;unfold AV at h;have nT:zw=268435456:=rfl;have hle:=kq wC.cb Xl l;refine zm rfl ?_;refine ju (fun U Y Z=>U 0=.sl 11 (l.map wC.V)) (by simp) ?_;rintro U Y Z a;refine ju (fun U Y Z=>U 0=.sl 11 (l.map wC.V)/\vg l l=0) ?_ ?_
 ·simp[a];refine zF (fun k U Y Z=>U 0=.sl 11 (l.map wC.V)/\U 11=.sl 11 (l.map wC.V)/\U 12=int l.length/\U 13=int k/\vg l l=vg l (l.drop k)) l.length ⟨by simp[a],by simp,by simp,by simp,by simp⟩ ?_;clear a U Y Z;rintro k U Y Z hk ⟨a,b,c,d,e⟩;by_cases m:k<l.length
  case neg=>
   obtain rfl:k=l.length:=by omega
   rw[zn]at e;have e:vg l l=0:=by rw[e];rfl
   simp[a,b,c,d,e]
  have R:=ql k;obtain⟨f,v⟩:=yx (l[k]);have S:f∈l:=by rw[<-v];exact zj m
  have hm:=vF wC.cb S;have Po:f.cb=1+f.name.length+Ys f.vars+(f.wT.map jB.cb).sum+(f.Wz.map kB.cb).sum+(f.WW.map Zh.cb).sum+f.WA.cb:=rfl;have hpl:=kq jB.cb Kt f.wT;rw[cv m,v]at e;simp[a,b,c,d,m,v,qd f];refine zF (fun j U Y Z=>U 0=.sl 11 (l.map wC.V)/\U 11=.sl 11 (l.map wC.V)/\U 12=int l.length/\U 13=int k/\U 18=.sl 2 (f.wT.map jB.V)/\U 19=int f.wT.length/\U 20=int j/\kr l f.wT=kr l (f.wT.drop j)) f.wT.length ⟨by simp[a],by simp[b],by simp[c],by simp[d],by simp,by simp,by simp,by simp⟩ ?_;clear a b c d U Y Z;rintro j U Y Z hj ⟨a,b,c,d,q,r,s,i⟩;by_cases t:j<f.wT.length
  ·have T:=ql j;obtain⟨p,u⟩:=yx (f.wT[j]);have W:=fun Y Z=>Kv l p.flag Y Z (by omega)
   rw[cu t,u]at i;have E:∀z:Int,z≠0->kr l f.wT=z->xj l=z:=fun z hz hh=>by rw[hh,zd hz]at e;unfold xj;rw[e,zd hz]
   cases D:xq l p.flag
   ·have F:ZE l p=9:=by unfold ZE;rw[D,zd (by simp)]
    rw[F,zd (by decide)]at i;have w:=E 9 (by decide) i;have n:=D;unfold xq at n;simp[a,b,c,d,q,r,s,t,u,jB.V,W,n,w,f24]
   have y:=JI D;obtain⟨g,X⟩:=yx (l[j8 l p.flag]);have PL:g∈l:=by rw[<-X];exact zj y
   have hmg:=vF wC.cb PL;have hmgc:g.cb=1+g.name.length+Ys g.vars+(g.wT.map jB.cb).sum+(g.Wz.map kB.cb).sum+(g.WW.map Zh.cb).sum+g.WA.cb:=rfl;have hvl:=ja g.vars;have G:pb l p.flag=g.vars.length:=by unfold pb;rw[zl y,X]
   have H:=wu ((g.vars.length:Int)-1);have n:=D;unfold xq at n;have o:=y;unfold j8 at o;have A:=X;simp only[j8]at A;cases M:jE p.var 0 ((g.vars.length:Int)-1)
   ·have F:ZE l p=1:=by unfold ZE;rw[D,ze rfl,G,M,zd (by simp)]
    rw[F,zd (by decide)]at i;have w:=E 1 (by decide) i;simp[a,b,c,d,q,r,s,t,u,jB.V,W,n,o,A,qd g,H,M,w,f24]
   ·have F:ZE l p=0:=by unfold ZE;rw[D,ze rfl,G,M,ze rfl]
    rw[F,ze rfl]at i;simp[a,b,c,d,q,r,s,t,u,jB.V,W,n,o,A,qd g,H,M,T];exact⟨by omega,i⟩
  ·obtain rfl:j=f.wT.length:=by omega
   rw[zn,kr]at i;rw[i,ze rfl]at e;simp[a,b,c,d,q,r,s,R];exact⟨by omega,e⟩
 clear a U Y Z;rintro U Y Z ⟨a,hG⟩;have Tv:∀f∈l,∀p∈f.wT,xq l p.flag=true:=fun f hf p Y=>(ZL (ZM hG f hf) p Y).1
 have hm1:l.length<=maxLen:=by unfold maxLen;omega
 have hm2:l.length*8<=140737488355328:=by omega
 simp[a,Zz,hm1,hm2];obtain⟨P,hP⟩:=yx Z;rw[hP];refine zF (fun k U Y Z=>U 0=.sl 11 (l.map wC.V)/\U 9=.own P 0 l.length/\U 52=int l.length/\U 53=int k/\P<Z/\∃st:List Int,st.length=l.length/\vN st<268435457/\Y P=some (Ku st)/\Yj l=(sB l st ((List.range l.length).drop k)).1) l.length
  ⟨by simp[a],by simp,by simp,by simp,by simp,List.replicate l.length 0,by simp,by rw[Kr];omega,by simp[Ku],by simp[Yj]⟩ ?_
 clear a hP U Y Z;rintro k U Y Z hk ⟨a,h9,B,C,hPn,st,I,J,hb,e⟩;by_cases m:k<l.length
 ·have R:=ql k;obtain⟨x,Y2,CJ,N,rfl,r2,n2,f2⟩:=pc l Q Tv P 268435457 st k Y Z J I m hPn hb;have K:=jt (wI l) 268435457 st k;rw[zc (by simpa using m),List.getElem_range]at e;unfold sB at e;cases L:(yE (wI l) 268435457 st k).1
  ·rw[xb L]at e;rw[L]at N;simp[a,h9,B,C,m,N,R];exact⟨by omega,by omega,_,by rw[K.len];exact I,vY K.wh J,r2 L,by rw[e];rfl⟩
  ·rw[xW L]at e;rw[L]at N;have w:xj l=12:=by unfold xj;rw[ze hG,ze e]
   simp[a,h9,B,C,m,N,w,f24]
 ·obtain rfl:k=l.length:=by omega
  have e:Yj l=false:=by rw[e,wF (by simp)];rfl
  have w:xj l=0:=by unfold xj;rw[ze hG,e,zd (by simp)]
  simp[a,h9,B,C,w,f24]
theorem Ei:zf prog 24 (zg false [] ND):=
 vX (C:=Cnd0) (zS mixed ⟨Kw,xx,fq _,trivial⟩) func24 false [] fun l a=>⟨by simp[f24],_,H0 l a,qc _⟩
noncomputable abbrev Css1:Ctx:=zR prog [(59,zg false [] (FKs hkP))]
noncomputable abbrev R4:AM.Spec:=yq Css1 f58
theorem H2:zf prog 58 R4:=kQ (zS mixed ⟨sv,trivial⟩:AM.Good Css1 _) func58
def sC(s:qA):kN:=⟨72,10,false,[s.V]⟩
theorem R5(s:qA)(k:za)(b:Yr s.outs<=zw)(c:k.length<=zw)(Y:Hp)(Z id:Nat)(a:Y id=some (sC s)):R4 [str k,.ref id 0 0] Y Z=some (wo (Qp s.outs k).2,Y,Z):=by
 unfold R4 yq;rw[ze (by simp[f58])];refine yQ rfl ?_;have d:=fun Y Z=>RU s.outs k Y Z b c
 simp[sC]at a;simp[a,d,f58]
def Y9(f:za->Bool):Nat->List za->Int
 |_,[]=>-1
 |k,s::l=>if f s=true then k else Y9 f (k+1) l
theorem l4(f:za->Bool):∀(l:List za) (k:Nat),decide (0<=Y9 f k l)=l.any f
 |[],k=>by simp[Y9]
 |s::l,k=>by
  cases h:f s
  ·rw[Y9,h,zd (by simp),l4 f l (k+1),yr,h];rfl
  ·rw[Y9,h,ze rfl,yr,h];simp
noncomputable abbrev Csix:Ctx:=zR prog [(58,R4)]
noncomputable abbrev R6:AM.Spec:=yq Csix f99
theorem H3:zf prog 99 R6:=kQ (zS mixed ⟨H2,trivial⟩:AM.Good Csix _) func99
def nu(id:Nat):O:=.fn (.func 58) [] [.ref id 0 0]
theorem R7(s:qA)(hs:s.cb<=zw)(Y:Hp)(Z id:Nat)(q:Y id=some (sC s)) :
  R6 [.sl 1 (zx s.ins),nu id] Y Z=some (int (Y9 (fun k=>(Qp s.outs k).2) 0 s.ins),Y,Z):=by
 have r:s.cb=1+s.name.length+Yr s.ins+Yr s.outs+s.cond.cb:=rfl;have t:=Q1 s.ins;have u:=fun k (o:k∈s.ins)=>Kp o
 unfold zw at hs;unfold R6 yq;rw[ze (by simp[f99])];refine yQ rfl ?_;have e:(zx s.ins).length=s.ins.length:=by simp[zx]
 simp[nu,e];refine zF (fun k U Y1 f=>U 0=.sl 1 (zx s.ins)/\U 1=nu id/\U 7=int s.ins.length/\U 8=int k/\Y1=Y/\f=Z/\Y9 (fun k=>(Qp s.outs k).2) 0 s.ins=Y9 (fun k=>(Qp s.outs k).2) k (s.ins.drop k)) s.ins.length ⟨by simp,by simp[nu],by simp,by simp,rfl,rfl,by simp⟩ ?_;rintro k U Y1 f o ⟨i,j,l,m,rfl,rfl,c⟩;by_cases b:k<s.ins.length
 ·have p:=ql k;obtain⟨y,n⟩:=yx (s.ins[k]);have v:=u y (by rw[<-n];exact zj b);have d:k<(zx s.ins).length:=by omega
  have g:(zx s.ins)[k]=[str y]:=by simp[zx,n]
  have a:=R5 s y (by unfold zw;omega) (by unfold zw;omega) Y1 f id q;rw[zc b,n,Y9]at c;cases h:(Qp s.outs y).2
  ·rw[h,zd (by simp)]at c;rw[h]at a;simp[i,j,l,m,nu,b,e,d,g,a,p];exact⟨by omega,c⟩
  ·rw[h,ze rfl]at c;rw[h]at a;simp[i,j,l,m,nu,b,e,d,g,a,p,c,f99]
 ·obtain rfl:k=s.ins.length:=by omega
  rw[zn]at c;simp only[Y9]at c;simp[i,j,l,m,c,f99]
noncomputable abbrev Csct:Ctx:=zR prog [(99,R6)]
noncomputable abbrev R8:AM.Spec:=yq Csct f57
theorem H4:zf prog 57 R8:=kQ (zS mixed ⟨H3,trivial⟩:AM.Good Csct _) func57
theorem R9(s:qA)(hs:s.cb<=zw)(Y:Hp)(Z id:Nat)(b:Y id=some (sC s)) :
  R8 [.sl 1 (zx s.ins),nu id] Y Z=some (wo (s.ins.any fun k=>(Qp s.outs k).2),Y,Z):=by
 unfold R8 yq;rw[ze (by simp[f57])];refine yQ rfl ?_;have a:=R7 s hs Y Z id b;have c:=l4 (fun k=>(Qp s.outs k).2) s.ins 0;simp only[nu]at a;simp[nu,a,c,f57]
noncomputable def FSgm (out:qA->O):zb->Option O:=qf (α:=qA) (fun s=>[.agg s.V]) (fun s=>s.cb<=zw) out
theorem H5(out:qA->O)(s:qA)(Y:Hp)(Z:Nat)(h:s.cb<=zw)(c:(out s).flat=true):zg false [] (FSgm out) [.agg s.V] Y Z=some (out s,Y,Z):=
 XX s _ _ (by simp[w8]) (fun a b e=>by simp only[zh,zA,O.agg.injEq]at e;exact YJ e) h (.inl c)
noncomputable abbrev Csg1:Ctx:=zR prog [(56,zg false [] (PF (fun l=>int (xa l)) fun l=>Yr l<=zw)),(57,R8),(60,GC fun c=>int c.check)]
theorem Sa{l m:List za}(a:XE m):(l.any fun k=>(Qp m k).2)=l.any fun k=>m.contains k:=by congr 1;funext k;exact RV a k
theorem cw(s:qA)(h:s.cb<=zw):zo Csg1 f33 [.agg s.V]=some (int (Zf s)):=by
 have n:s.cb=1+s.name.length+Yr s.ins+Yr s.outs+s.cond.cb:=rfl;unfold zw at h;have j:=fun Y Z=>ck (fun l=>int (xa l)) (fun l=>Yr l<=zw) s.ins Y Z (by unfold zw;omega) rfl
 have m:=fun Y Z=>ck (fun l=>int (xa l)) (fun l=>Yr l<=zw) s.outs Y Z (by unfold zw;omega) rfl
 have o:=fun Y Z=>Zv (fun c=>int c.check) s.cond Y Z (by unfold zw;omega)
 refine zm rfl ?_;simp[zr,zJ,zp];rw[zE];by_cases b:xa s.ins=0
 case neg=>
  have a:Zf s=xa s.ins:=by unfold Zf;rw[zd b]
  have g:=xN b;simp[j,g,a,zI,f33]
 have p:=wu 1;have q:=wu 2;simp[j,b,p];rw[zE];by_cases d:xa s.outs=0
 case neg=>
  have a:Zf s=xa s.outs:=by unfold Zf;rw[ze b,zd d]
  have i:=xN d;simp[m,i,a,zI,f33]
 simp[m,d,q];rw[zE];have e:=R9 s (by unfold zw;omega) (qR (qR (fun _=>none) 0 (some (sC s))) 1 (some ⟨26,1,true,[[.sl 1 (zx s.ins)],[.sl 1 (zx s.outs)]]⟩)) 2 0 (by simp);rw[Sa (Nd d)]at e;simp only[nu,sC]at e;cases f:s.ins.any fun k=>s.outs.contains k
 ·have a:Zf s=s.cond.check:=by unfold Zf;rw[ze b,ze d,f,zd (by simp)]
  rw[f]at e;simp[e,o,a,zI,f33]
 ·have a:Zf s=7:=by unfold Zf;rw[ze b,ze d,f,ze rfl]
  rw[f]at e;simp[e,a,zI,f33]
theorem aL:zf prog 33 (zg false [] (FSgm fun s=>int (Zf s))):=
 vX (zS mixed ⟨gh,H4,ch,trivial⟩:AM.Good Csg1 _) func33 false [] fun s a=>⟨by simp[f33],_,cw s a,qc _⟩
def Ja(l:List qA)(k:Nat):Option za:=if k=0 then none else(l[k-1]?).map qA.name
noncomputable def FSs (out:List qA->O):zb->Option O:=qf (α:=List qA) (fun l=>[.sl 10 (l.map qA.V)]) (fun l=>Jg l<=zw) out
theorem NF(out:List qA->O)(l:List qA)(Y:Hp)(Z:Nat)(h:Jg l<=zw)(c:(out l).flat=true):zg false [] (FSs out) [.sl 10 (l.map qA.V)] Y Z=some (out l,Y,Z):=
 XX l _ _ rfl (fun a b e=>by simp only[zh,zA]at e;exact vO e) h (.inl c)
noncomputable abbrev Csgs:Ctx:=zR prog [(22,zg false [] (FS qG)),(33,zg false [] (FSgm fun s=>int (Zf s))),(34,zg false [] FKn),(35,l0 268435457)]
theorem Sb:Gd Csgs:=zS mixed ⟨xf,aL,A5,l3 _,trivial⟩
theorem H6:J6 Csgs g0F 21 f21:=qN func21
theorem aM(l:List qA)(h:Jg l<=zw):zo Csgs f21 [.sl 10 (l.map qA.V)]=some (int (kl l)):=by
 have hlen:=Kq l;have nT:zw=268435456:=rfl;refine zm rfl ?_;by_cases o:(100:Int)<l.length
 ·have d:kl l=2:=by unfold kl;rw[ze o]
  simp[o,d,f21]
 refine ju (fun U Y Z=>U 0=.sl 10 (l.map qA.V)) (by simp) ?_;rintro U Y Z c;refine ju (fun U Y Z=>U 0=.sl 10 (l.map qA.V)) (by simp[c,o]) ?_;clear c U Y Z;rintro U Y Z c;refine ju (fun U Y Z=>U 0=.sl 10 (l.map qA.V)/\WD none l=0) ?_ ?_
 ·simp[c];refine zF (fun k U Y Z=>U 0=.sl 10 (l.map qA.V)/\U 13=.sl 10 (l.map qA.V)/\U 14=int l.length/\U 15=int k/\WD none l=WD (Ja l k) (l.drop k)) l.length ⟨by simp[c],by simp,by simp,by simp,by simp[Ja]⟩ ?_;clear c U Y Z;rintro k U Y Z hk ⟨c,e,f,g,a⟩;by_cases b:k<l.length
  ·have G:=ql k;obtain⟨s,hs⟩:=yx (l[k]);have L:=YK (zj b);rw[hs]at L;have M:s.cb=1+s.name.length+Yr s.ins+Yr s.outs+s.cond.cb:=rfl;have i:s.name.length<=zw:=by omega
   have B:Ja l (k+1)=some s.name:=by simp[Ja,b,hs]
   have p:=fun Y Z=>H5 (fun s=>int (Zf s)) s Y Z (by omega) rfl
   rw[DR b,hs]at a;cases r:qG s.name
   ·rw[r,zd (by simp)]at a;have d:kl l=5:=by unfold kl;rw[zd o,a,zd (by decide)]
    simp[c,e,f,g,b,hs,i,r,d,f21]
   rw[r,ze rfl]at a;have key:js (Ja l k) s.name=true\/js (Ja l k) s.name=false:=by cases js (Ja l k) s.name<;>simp
   by_cases k0:k=0
   ·subst k0;have w1:=wu 1;simp only[Ja,js,qB,zq,qn]at a;by_cases m:Zf s=0
    ·rw[ze m]at a;simp[c,e,f,g,b,hs,i,r,p,m,w1];exact⟨by omega,by rw[a,B];simp⟩
    ·rw[zd m]at a;have t:=xN m;have d:kl l=Zf s:=by unfold kl;rw[zd o,a,zd m]
     simp[c,e,f,g,b,hs,i,r,p,t,d,f21]
   ·obtain⟨j,rfl⟩:∃j,k=j+1:=⟨k-1,by omega⟩;have H:j<l.length:=by omega
    have N:i6.wrap ((j:Int)+1-1)=(j:Int):=by rw[wR (by omega) (by omega)];omega
    have u:=wu (j:Int);have Q:((j:Int)+1).toNat=j+1:=by omega
    have R:0<(j:Int)+1:=by omega
    have S:0<=(j:Int)+1:=by omega
    have T:(j:Int)+1<l.length:=by omega
    have wk:=wu ((j:Int)+1+1);have W:(Op.bytesLess s.name l[j].name||s.name==l[j].name)=Vs s.name l[j].name:=rfl;have X:Ja l (j+1)=some l[j].name:=by simp[Ja,H]
    simp only[X,js]at a;cases C:Vs s.name l[j].name
    ·rw[C,zd (by simp)]at a;by_cases m:Zf s=0
     ·rw[ze m]at a;simp[c,e,f,g,b,H,hs,i,r,N,u,Q,R,S,T,W,C,wk,p,m];exact⟨by omega,by rw[a,B]⟩
     ·rw[zd m]at a;have t:=xN m;have d:kl l=Zf s:=by unfold kl;rw[zd o,a,zd m]
      simp[c,e,f,g,b,H,hs,i,r,N,u,Q,R,S,T,W,C,p,t,d,f21]
    ·rw[C,ze rfl]at a;have d:kl l=8:=by unfold kl;rw[zd o,a,zd (by decide)]
     simp[c,e,f,g,b,H,hs,i,r,N,u,Q,R,S,T,W,C,d,f21]
  ·obtain rfl:k=l.length:=by omega
   rw[zn]at a;have a:WD none l=0:=by rw[a];rfl
   simp[c,e,f,g,a]
 clear c U Y Z;rintro U Y Z ⟨c,hG⟩;refine ju (fun U Y Z=>U 0=.sl 10 (l.map qA.V)/\(l.all fun s=>ke l s.cond)=true) ?_ ?_
 ·simp[c];refine zF (fun k U Y Z=>U 0=.sl 10 (l.map qA.V)/\U 43=.sl 10 (l.map qA.V)/\U 44=int l.length/\U 45=int k/\(l.all fun s=>ke l s.cond)=(l.drop k).all fun s=>ke l s.cond) l.length ⟨by simp[c],by simp,by simp,by simp,by simp⟩ ?_;clear c U Y Z;rintro k U Y Z hk ⟨c,v,w,y,a⟩;by_cases b:k<l.length
  ·have G:=ql k;obtain⟨s,hs⟩:=yx (l[k]);have L:=YK (zj b);rw[hs]at L;have M:s.cb=1+s.name.length+Yr s.ins+Yr s.outs+s.cond.cb:=rfl;have q:=fun Y Z=>Nt l s.cond Y Z (by omega) (by omega)
   rw[zc b,hs,wO]at a;cases I:ke l s.cond
   ·rw[I,JP]at a;have d:kl l=9:=by unfold kl;rw[zd o,ze hG,a,zd (by simp)]
    simp[c,v,w,y,b,hs,q,I,d,f21]
   ·rw[I,kX]at a;simp[c,v,w,y,b,hs,q,I,G];exact⟨by omega,a⟩
  ·obtain rfl:k=l.length:=by omega
   rw[zn]at a;simp only[tP]at a;simp[c,v,w,y];exact zY.1 a
 clear c U Y Z;rintro U Y Z ⟨c,hK⟩;have q:∀s∈l,∀n∈s.cond.names,j7 l n=true:=fun s hs n hn=>zY.1 (zY.1 hK s hs) n hn
 have hm1:l.length<=maxLen:=by unfold maxLen;omega
 have hm2:l.length*8<=140737488355328:=by omega
 simp[c,Zz,hm1,hm2];obtain⟨P,hP⟩:=yx Z;rw[hP];refine zF (fun k U Y Z=>U 0=.sl 10 (l.map qA.V)/\U 8=.own P 0 l.length/\U 59=int l.length/\U 60=int k/\P<Z/\∃st:List Int,st.length=l.length/\vN st<268435457/\Y P=some (Ku st)/\lT l=(Nf l st ((List.range l.length).drop k)).1) l.length
  ⟨by simp[c],by simp,by simp,by simp,by simp,List.replicate l.length 0,by simp,by rw[Kr];omega,by simp[Ku],by simp[lT]⟩ ?_
 clear c hP U Y Z;rintro k U Y Z hk ⟨c,h8,z,A,hPn,st,D,E,hb,a⟩;by_cases b:k<l.length
 ·have G:=ql k;obtain⟨x,Y2,CJ,J,rfl,r2,n2,f2⟩:=A6 l h q P 268435457 st k Y Z E D b hPn hb;have F:=jt (yT l) 268435457 st k;rw[zc (by simpa using b),List.getElem_range]at a;unfold Nf at a;cases K:(yE (yT l) 268435457 st k).1
  ·rw[xb K]at a;rw[K]at J;simp[c,h8,z,A,b,J,G];exact⟨by omega,by omega,_,by rw[F.len];exact D,vY F.wh E,r2,by rw[a];rfl⟩
  ·rw[xW K]at a;rw[K]at J;have d:kl l=12:=by unfold kl;rw[zd o,ze hG,ze hK,ze a]
   simp[c,h8,z,A,b,J,d,f21]
 ·obtain rfl:k=l.length:=by omega
  have a:lT l=false:=by rw[a,wF (by simp)];rfl
  have d:kl l=0:=by unfold kl;rw[zd o,ze hG,ze hK,a,zd (by simp)]
  simp[c,h8,z,A,d,f21]
theorem XH:zf prog 21 (zg false [] (FSs fun l=>int (kl l))):=
 yt (fn:=f21) Sb H6 false [] _ fun args r h=>by obtain⟨l,rfl,a,rfl⟩:=zN h;exact⟨zG (zk 1) (by decide),_,aM l a,qc _⟩
noncomputable def vP (a:List qA):Option za->List wC->Int
 |_,[]=>0
 |p,f::l=>if qG f.name=true then(if js p f.name=true then 8 else if YM a f=0 then vP a (some f.name) l else YM a f)else 5
noncomputable def ZP (c:ky):Int:=if kl c.V2=0 then(if(200:Int)<c.flags.length then 2 else if vP c.V2 none c.flags=0 then xj c.flags else vP c.V2 none c.flags)else kl c.V2
def kJ(l:List wC)(k:Nat):Option za:=if k=0 then none else(l[k-1]?).map wC.name
theorem ft{a:List qA}{l:List wC}{k:Nat}(h:k<l.length)(p:Option za):vP a p (l.drop k)=if qG l[k].name=true then(if js p l[k].name=true then 8 else if YM a l[k]=0 then vP a (some l[k].name) (l.drop (k+1))else YM a l[k])else 5:=by rw[zc h,vP]
def jv(S:List qA)(L:List wC):kN:=⟨25,2,false,[[.sl 10 (S.map qA.V),.sl 11 (L.map wC.V)]]⟩
noncomputable def NG:zb->Option O:=qf (α:=ky) (fun c=>[.agg c.V]) (fun c=>c.cb<=zw) fun c=>int (ZP c)
theorem Ej(c:ky)(Y:Hp)(Z:Nat)(h:c.cb<=zw):zg false [] NG [.agg c.V] Y Z=some (int (ZP c),Y,Z):=
 yA (V:=fun c:ky=>[O.agg c.V]) (fun a b e=>by simp only[zh,zA,O.agg.injEq]at e;exact cn e) c (fun Y=>by simp[ky.V]) h (.inl rfl) Y Z
noncomputable abbrev Uc:Ctx:=zR prog [(21,zg false [] (FSs fun l=>int (kl l))),(22,zg false [] (FS qG)),(23,zg false [] FFl),(24,zg false [] ND)]
theorem NH(c:ky)(h:c.cb<=zw):zo Uc f15 [.agg c.V]=some (int (ZP c)):=by
 obtain⟨S,L⟩:=c;have Q:(⟨S,L⟩:ky).cb=Jg S+AV L:=rfl;have R:AV L=(L.map wC.cb).sum:=rfl;have N:=kq wC.cb Xl L;have P:zw=268435456:=rfl;have A:=fun Y Z=>NF (fun l=>int (kl l)) S Y Z (by omega) rfl
 have T:=fun Y Z=>Eh L Y Z (by omega)
 refine zm rfl ?_;unfold ZP;simp only;by_cases B:kl S=0
 case neg=>have E:=xN B;rw[zd B];simp[ky.V,A,E,zI,f15]
 rw[ze B];rw[B]at A;by_cases C:(200:Int)<L.length
 ·rw[ze C];simp[ky.V,A,C,zI,f15]
 rw[zd C];simp[ky.V,A,C];refine zF (fun k U Y Z=>U 1=.ref 0 0 0/\U 18=.sl 11 (L.map wC.V)/\U 19=int L.length/\U 20=int k/\0<Z/\Y 0=some (jv S L)/\vP S none L=vP S (kJ L k) (L.drop k)) L.length
  ⟨by simp,by simp,by simp,by simp,by simp,by simp[jv],by simp[kJ]⟩ ?_
 rintro k U Y Z hk ⟨s,e,g,i,W,X,a⟩;have w:¬0=Z:=by omega
 have m:¬Z=0:=by omega
 have d:=X;simp only[jv]at d;by_cases b:k<L.length
 ·have hw:=ql k;obtain⟨f,p⟩:=yx (L[k]);have hm:=vF wC.cb (show f∈L by rw[<-p];exact zj b);have Po:f.cb=1+f.name.length+Ys f.vars+(f.wT.map jB.cb).sum+(f.Wz.map kB.cb).sum+(f.WW.map Zh.cb).sum+f.WA.cb:=rfl;have n:f.name.length<=zw:=by omega
  have x:kJ L (k+1)=some f.name:=by simp[kJ,b,p]
  have t:=fun Y Z=>NC S f Y Z ⟨by omega,by omega⟩
  simp only[qd]at t;have q:∀z:Int,z≠0->vP S none L=z->(if vP S none L=0 then xj L else vP S none L)=z:=fun z hz hh=>by rw[hh,zd hz]
  rw[ft b,p]at a;cases r:qG f.name
  ·rw[r,zd (by simp)]at a;rw[q 5 (by decide) a];simp[s,e,g,i,d,w,m,b,p,qd f,n,r,zI,f15]
  rw[r,ze rfl]at a;by_cases k0:k=0
  ·subst k0;have w1:=wu 1;simp only[kJ,js,qB,zq,qn]at a;by_cases o:YM S f=0
   ·rw[ze o]at a;rw[o]at t;simp[s,e,g,i,d,w,m,b,p,qd f,n,r,t,w1];exact⟨by omega,rfl,by rw[a,x];simp⟩
   ·rw[zd o]at a;have u:=xN o;rw[q _ o a];simp[s,e,g,i,d,w,m,b,p,qd f,n,r,t,u,zI,f15]
  ·obtain⟨j,rfl⟩:∃j,k=j+1:=⟨k-1,by omega⟩;have D:j<L.length:=by omega
   have F:i6.wrap ((j:Int)+1-1)=(j:Int):=by rw[wR (by omega) (by omega)];omega
   have v:=wu (j:Int);have G:((j:Int)+1).toNat=j+1:=by omega
   have H:0<(j:Int)+1:=by omega
   have I:0<=(j:Int)+1:=by omega
   have J:(j:Int)+1<L.length:=by omega
   have wk:=wu ((j:Int)+1+1);have K:(Op.bytesLess f.name L[j].name||f.name==L[j].name)=Vs f.name L[j].name:=rfl;have M:kJ L (j+1)=some L[j].name:=by simp[kJ,D]
   simp only[M,js]at a;cases y:Vs f.name L[j].name
   ·rw[y,zd (by simp)]at a;by_cases o:YM S f=0
    ·rw[ze o]at a;rw[o]at t;simp[s,e,g,i,d,w,m,b,D,p,qd f,qd L[j],n,r,F,v,G,H,I,J,K,y,wk,t];exact⟨by omega,rfl,by rw[a,x]⟩
    ·rw[zd o]at a;have u:=xN o;rw[q _ o a];simp[s,e,g,i,d,w,m,b,D,p,qd f,qd L[j],n,r,F,v,G,H,I,J,K,y,t,u,zI,f15]
   ·rw[y,ze rfl]at a;rw[q 8 (by decide) a];simp[s,e,g,i,d,w,m,b,D,p,qd f,qd L[j],n,r,F,v,G,H,I,J,K,y,zI,f15]
 ·obtain rfl:k=L.length:=by omega
  rw[zn,vP]at a;rw[ze a];simp[s,e,g,i,d,T,zI,f15]
theorem H7:zf prog 15 (zg false [] NG):=
 vX (C:=Uc) (zS mixed ⟨XH,xf,Eg,Ei,trivial⟩) func15 false [] fun c a=>⟨by simp[f15],_,NH c a,qc _⟩
end Go.Q
