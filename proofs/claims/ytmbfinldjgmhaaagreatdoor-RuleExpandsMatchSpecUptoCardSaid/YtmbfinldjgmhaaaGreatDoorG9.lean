/- Lemmas. -/
import Derived.Lib.TrimByte
import Derived.Shelf.Spec.SlicesGrow
import Derived.Shelf.SlSortCmp.WholeK
import Derived.Shelf.SlSortCmp.NoneTotal
import Derived.Test.YtmbfinldjgmhaaaGreatDoorProg
import Derived.Test.YtmbfinldjgmhaaaGreatDoorG8
set_option maxRecDepth 100000
set_option maxHeartbeats 4000000
open Go Proofs Proofs.YtmbfinldjgmhaaaGreatDoor Proofs.Tryz RowKit AM SpanLaw Q Zz
open Go.IntKind renaming i64→i6
namespace Go.Q
structure qd where
 name:List UInt8
 ins:List (List UInt8)
 outs:List (List UInt8)
 cond:zG
def qd.V(s:qd):zb:=[str s.name,.sl 1 (zH s.ins),.sl 1 (zH s.outs)]++s.cond.V
theorem wE(s:qd):s.V=[str s.name,.sl 1 (zH s.ins),.sl 1 (zH s.outs),int s.cond.kind,str s.cond.attr,int s.cond.op,.sl 5 (s.cond.qZ.map zZ.V),str s.cond.pat,str s.cond.name,.sl 7 (s.cond.args.map zG.V)]:=by unfold qd.V;rw[zI];rfl
@[simp]theorem zgv(s:qd):s.V.length=10:=by rw[wE];rfl
@[simp]theorem zeY(s:qd):s.V.drop 3=s.cond.V:=rfl
@[simp]theorem zeZ(s:qd):s.V.take 10=s.V:=qe (by simp)
@[simp]theorem zhn(s:qd)(h:0<s.V.length):s.V[0]=str s.name:=rfl
@[simp]theorem zho(s:qd)(h:1<s.V.length):s.V[1]=.sl 1 (zH s.ins):=rfl
@[simp]theorem zhp(s:qd)(h:2<s.V.length):s.V[2]=.sl 1 (zH s.outs):=rfl
@[simp]theorem I8(s:qd):s.V.all O.wH=true:=by rw[wE];rfl
@[simp]theorem zb3(s:qd):(∀x,x∈s.V->O.wH x=true)=True:=by have:=I8 s;rw[zL]at this;exact eq_true this
theorem KK{a b:qd}(h:a.V=b.V):a=b:=by
 have f:a.cond.V=b.cond.V:=by rw[wE,wE]at h;simp only[zl,zM]at h;rw[zI,zI];simp only[zl,zM];exact h.2.2.2
 have c:=ka f;rw[wE,wE]at h;simp only[zl,zM]at h;obtain⟨g,d,e,_⟩:=h;cases a;cases b;simp only at *;injection d with _ d
 injection e with _ e;rw[wR g,jI d,jI e,c]
theorem Za{a b:List qd}(h:O.sl 10 (a.map qd.V)=.sl 10 (b.map qd.V)):a=b:=by injection h with _ h;exact vw (fun _ _=>KK) h
def Qh(l:List za):Nat:=(l.map fun s=>1+s.length).sum
def qd.cb(s:qd):Nat:=1+s.name.length+Qh s.ins+Qh s.outs+s.cond.cb
def Qb(l:List qd):Nat:=(l.map qd.cb).sum
theorem da:∀{l:List za} {s:za},s∈l->1+s.length<=Qh l
 |y::l,s,h=>by
  simp only[Qh,wg,zhr];rcases zv.1 h with rfl|h
  ·omega
  ·have:=da h;unfold Qh at this;omega
theorem Qy:∀l:List za,l.length<=Qh l
 |[]=>ze _
 |y::l=>by have:=Qy l;simp only[Qh,wg,zhr,z7]at *;omega
theorem xI:∀{l:List qd} {s:qd},s∈l->s.cb<=Qb l
 |y::l,s,h=>by
  simp only[Qb,wg,zhr];rcases zv.1 h with rfl|h
  ·omega
  ·have:=xI h;unfold Qb at this;omega
theorem xJ:∀l:List qd,l.length<=Qb l
 |[]=>ze _
 |y::l=>by
  have:=xJ l;have a:1<=y.cb:=by unfold qd.cb;omega
  simp only[Qb,wg,zhr,z7]at *;omega
mutual
def zG.names:zG->List za
 | .mk k _ _ _ _ n l=>(if k=5 then[n]else[])++yD l
def yD:List zG->List za
 |[]=>[]
 |c::l=>c.names++yD l
end
theorem yU(c:zG):c.names=(if c.kind=5 then[c.name]else[])++yD c.args:=by cases c;rfl
theorem jQ:∀{l:List zG} {n:za},n∈yD l↔∃c∈l,n∈c.names
 |[],n=>by simp[yD]
 |c::l,n=>by simp[yD,jQ (l:=l)]
theorem Cl{l:List zG}{k:Nat}(h:k<l.length):yD (l.drop k)=l[k].names++yD (l.drop (k+1)):=by rw[zh h,yD]
noncomputable def wS (l:List qd) (n:za):Nat:=(Kf (l.map qd.name) n).1
noncomputable def yx (l:List qd) (n:za):Bool:=(Kf (l.map qd.name) n).2
noncomputable def Qz (l:List qd) (c:zG):Bool:=c.names.all (yx l)
noncomputable def wb (l:List qd) (i:Nat):List Nat:=match l[i]? with
 |some s=>s.cond.names.map (wS l)
 |none=>[]
def J2:Option za->List za->Int
 |_,[]=>0
 |p,k::l=>if xv k=true then(if kP p k=true then 8 else J2 (some k) l)else 3
def vV(l:List za):Int:=if(1000:Int)<l.length then 2 else J2 none l
theorem mQ{l:List za}{k:Nat}(h:k<l.length)(p:Option za):J2 p (l.drop k)=if xv l[k]=true then(if kP p l[k]=true then 8 else J2 (some l[k]) (l.drop (k+1)))else 3:=by rw[zh h,J2]
theorem Cm:∀(l:List za) (p:Option za),J2 p l=0->dK l/\∀q,p=some q->∀b∈l,Op.bytesLess q b=true
 |[],p,_=>⟨.nil,fun _ _ _ hb=>by cases hb⟩
 |a::l,p,h=>by
  simp only[J2]at h;split at h
  case isFalse=>simp at h
  split at h
  ·simp at h
  rename_i e;obtain⟨f,d⟩:=Cm l (some a) h;refine⟨yc.2 ⟨d a rfl,f⟩,fun q g b hb=>?_⟩;subst g;have c:Op.bytesLess q a=true:=Qx (by simpa[kP]using e);rcases zv.1 hb with rfl|hb
  ·exact c
  ·exact Q0 c (d a rfl b hb)
theorem mR{l:List za}(h:vV l=0):dK l:=by
 unfold vV at h;split at h
 ·simp at h
 ·exact(Cm l none h).1
noncomputable def xw (s:qd):Int:=if vV s.ins=0 then(if vV s.outs=0 then(if(s.ins.any fun k=>s.outs.contains k)=true then 7 else s.cond.check)else vV s.outs)else vV s.ins
noncomputable def WY:Option za->List qd->Int
 |_,[]=>0
 |p,s::l=>if w8 s.name=true then(if kP p s.name=true then 8 else if xw s=0 then WY (some s.name) l else xw s)else 5
theorem Fu{l:List qd}{k:Nat}(h:k<l.length)(p:Option za):WY p (l.drop k)=if w8 l[k].name=true then(if kP p l[k].name=true then 8 else if xw l[k]=0 then WY (some l[k].name) (l.drop (k+1))else xw l[k])else 5:=by rw[zh h,WY]
theorem mS:∀(l:List qd) (p:Option za),WY p l=0->(dK (l.map qd.name)/\∀q,p=some q->∀b∈l,Op.bytesLess q b.name=true)/\∀s∈l,w8 s.name=true/\xw s=0
 |[],p,_=>⟨⟨.nil,fun _ _ _ hb=>by cases hb⟩,fun _ hb=>by cases hb⟩
 |a::l,p,h=>by
  simp only[WY]at h;split at h
  case isFalse=>simp at h
  rename_i e;split at h
  ·simp at h
  rename_i f;split at h
  case isFalse hs=>exact(hs h).elim
  rename_i hs;obtain⟨⟨g,d⟩,i⟩:=mS l (some a.name) h;refine⟨⟨?_,fun q j b hb=>?_⟩,fun s Gy=>?_⟩
  ·unfold dK;rw[wg];refine yc.2 ⟨fun x k=>?_,g⟩;obtain⟨b,hb,rfl⟩:=qp.1 k;exact d a.name rfl b hb
  ·subst j;have c:Op.bytesLess q a.name=true:=Qx (by simpa[kP]using f);rcases zv.1 hb with rfl|hb
   ·exact c
   ·exact Q0 c (d a.name rfl b hb)
  ·rcases zv.1 Gy with rfl|Gy
   ·exact⟨e,hs⟩
   ·exact i s Gy
noncomputable def OA (l:List qd):List Int->List Nat->Bool×List Int:=wB (ky (wb l) 268435457)
noncomputable def mT (l:List qd):Bool:=(OA l (List.replicate l.length 0) (List.range l.length)).1
noncomputable def jV (l:List qd):Int:=if(100:Int)<l.length then 2 else if WY none l=0 then(if(l.all fun s=>Qz l s.cond)=true then(if mT l=true then 12 else 0)else 9)else WY none l
structure Qa (l:List qd):Prop where
 len:l.length<=100
 up:dK (l.map qd.name)
 right:∀s∈l,w8 s.name=true/\xw s=0
 known:∀s∈l,∀n∈s.cond.names,yx l n=true
 acyc:∀i:Nat,¬Q5 (fun a b=>b∈wb l a) i i
theorem ZU{l:List qd}{n:za}(h:yx l n=true):wS l n<l.length:=by have:=zb2 (l:=l.map qd.name) (s:=n) h;rw[xQ]at this;exact this
theorem uj{l:List qd}(h:∀s∈l,∀n∈s.cond.names,yx l n=true)(i:Nat):∀j∈wb l i,j<l.length:=by
 intro j a;unfold wb at a;split at a
 ·rename_i s hs;obtain⟨n,b,rfl⟩:=qp.1 a;exact ZU (h s (zz hs) n b)
 ·cases a
theorem sb{l:List qd}{i:Nat}(h:l.length<=i):wb l i=[]:=by unfold wb;rw[yO h]
theorem mU(n:Nat):Zt (List.replicate n 0)=n:=by simp[Zt]
theorem Cn{l:List qd}(H:l.length<=100)(h:∀s∈l,∀n∈s.cond.names,yx l n=true):mT l=true↔∃i:Nat,Q5 (fun a b=>b∈wb l a) i i:=by
 constructor
 ·intro F;have f:∀(q:List Nat) (s:List Int),(∀g:Nat,s[g]?≠some 1)->(wB (ky (wb l) 268435457) s q).1=true->∃c,Q5 (fun a b=>b∈wb l a) c c:=by
   intro q
   induction q with
   |nil=>intro s _ e;simp[wB]at e
   |cons a q r=>
    intro s hs e;simp only[wB]at e;split at e
    ·rename_i t;exact mP (wb l) _ s a (fun g k=>(hs g k).elim) t
    ·exact r _ (fun g k=>hs g (((vk (wb l) _ s a).RE g).1 k)) e
  refine f _ _ (fun g k=>?_) F;rw[WD]at k;split at k<;>simp at k
 ·rintro⟨i,hi⟩;refine vC fun u=>?_
  have u:mT l=false:=by simpa using u
  have hs:=uj h;have f:∀(q:List Nat) (s:List Int),(∀v∈s,v=0\/v=1\/v=2)->s.length=l.length->Zt s<268435457->(∀b∈q,b<l.length)->(∀j:Nat,s[j]?=some 2->Acc (fun x y=>x∈wb l y) j)->(wB (ky (wb l) 268435457) s q).1=false ->
    ∀b,b∈q->Acc (fun x y=>x∈wb l y) b:=by
   intro q
   induction q with
   |nil=>intro s _ _ _ _ _ _ b d;cases d
   |cons a q r=>
    intro s o m C D d e;simp only[wB]at e;split at e
    ·simp at e
    ·rename_i t;have w:=vk (wb l) 268435457 s a;obtain⟨E,G⟩:=fP (wb l) _ s a o C (by rw[m];exact D a (by simp)) (fun x b d=>by rw[m];exact hs x b d) d (by simpa using t);intro b hbm;rcases zv.1 hbm with rfl|hbm
     ·exact E b G
     ·exact r _ (w.qZ o) (w.len.trans m) (DW w.wh C) (fun b d=>D b (by simp[d])) E e b hbm
  have p:=f (List.range l.length) (List.replicate l.length 0) (fun v o=>by rw[List.mem_replicate]at o;exact .inl o.2) (by simp) (by rw[mU];omega) (fun b d=>yg.1 d)
   (fun j z=>by rw[WD]at z;split at z<;>simp at z) u
  obtain⟨b,d,_⟩:=hi.head;have A:i<l.length:=by
   refine Nat.lt_of_not_le fun B=>?_
   rw[sb B]at d;cases d
  exact Ox (p i (yg.2 A)) hi
theorem Hg{l:List qd}(h:jV l=0):Qa l:=by
 unfold jV at h;split at h
 ·simp at h
 rename_i g;split at h
 case isFalse hs=>exact(hs h).elim
 rename_i hs;split at h
 case isFalse=>simp at h
 rename_i c;split at h
 ·simp at h
 rename_i a;obtain⟨⟨d,_⟩,e⟩:=mS l none hs;have b:∀s∈l,∀n∈s.cond.names,yx l n=true:=fun s hs n f=>zL.1 (zL.1 c s hs) n f
 refine⟨by omega,d,e,b,fun i hi=>?_⟩;exact a ((Cn (by omega) b).2 ⟨i,hi⟩)
noncomputable def Co (l:List qd) (i:Nat):Nat:=Hf (fun a b=>b∈wb l a) l.length i
theorem KL{l:List qd}(h:Qa l)(i:Nat):Co l i<=100:=zE (Oy _ _ _) h.len
theorem Jz{l:List qd}(h:Qa l)(i:Nat):∀j∈wb l i,Co l j<Co l i:=fun j a=>Oz (uj h.known i j a) a (h.acyc j)
mutual
def zG.y8(Wj:za->Bool)(b:zG->Bool):zG->Bool
 | .mk k a o v p n l=>if k=1 then allM Wj b l else if k=2 then anyM Wj b l else if k=3 then !(za6 Wj b l)else if k=5 then Wj n else b (.mk k a o v p n l)
def allM(Wj:za->Bool)(a:zG->Bool):List zG->Bool
 |[]=>true
 |c::l=>c.y8 Wj a&&allM Wj a l
def anyM(Wj:za->Bool)(a:zG->Bool):List zG->Bool
 |[]=>false
 |c::l=>c.y8 Wj a||anyM Wj a l
def za6(Wj:za->Bool)(a:zG->Bool):List zG->Bool
 |[]=>false
 |c::_=>c.y8 Wj a
end
def Tk(f:zG->Bool):List zG->Bool
 |[]=>false
 |x::_=>f x
theorem ZC(Wj:za->Bool)(b:zG->Bool)(c:zG):c.y8 Wj b=if c.kind=1 then c.args.all (fun x=>x.y8 Wj b)else if c.kind=2 then c.args.any (fun x=>x.y8 Wj b)else if c.kind=3 then !(Tk (fun x=>x.y8 Wj b) c.args)else if c.kind=5 then Wj c.name else b c:=by
 have e:∀l,allM Wj b l=l.all fun x=>x.y8 Wj b:=fun l=>by
  induction l with
  |nil=>rfl
  |cons c l d=>rw[allM,d];rfl
 have f:∀l,anyM Wj b l=l.any fun x=>x.y8 Wj b:=fun l=>by
  induction l with
  |nil=>rfl
  |cons c l d=>rw[anyM,d];rfl
 have g:∀l,za6 Wj b l=Tk (fun x=>x.y8 Wj b) l:=fun l=>by cases l<;>rfl
 cases c with
 |mk k a o v p n l=>rw[zG.y8,e,f,g];rfl
theorem Fv{f g:za->Bool}{d:zG->Bool}(c:zG):(∀n∈c.names,f n=g n)->c.y8 f d=c.y8 g d:=by
 induction c using zG.ind with
 |h k a o v p n l q=>
  intro h;rw[yU]at h;have b:∀x∈l,x.y8 f d=x.y8 g d:=fun x e=>q x e fun m r=>h m (zF.2 (.inr (jQ.2 ⟨x,e,r⟩)))
  rw[ZC,ZC];simp only[zG.kind,zG.args,zG.name];have s:(l.all fun x=>x.y8 f d)=l.all fun x=>x.y8 g d:=by rw[qv,zL,zL];exact⟨fun i x e=>by rw[<-b x e];exact i x e,fun i x e=>by rw[b x e];exact i x e⟩
  have t:(l.any fun x=>x.y8 f d)=l.any fun x=>x.y8 g d:=by rw[qv,jS,jS];exact⟨fun⟨x,e,i⟩=>⟨x,e,by rw[<-b x e];exact i⟩,fun⟨x,e,i⟩=>⟨x,e,by rw[b x e];exact i⟩⟩
  rw[s,t];have u:Tk (fun x=>x.y8 f d) l=Tk (fun x=>x.y8 g d) l:=by
   cases l with
   |nil=>rfl
   |cons x l=>exact b x (by simp)
  rw[u];by_cases j:k=5
  ·rw[h n (by simp[zG.kind,zG.name,j])]
  ·simp only[j,wx]
def OB(l:List qd)(a:za)(b:zG->Bool)(i:Nat)(f:za->Bool):Bool:=match l[i]? with
 |some s=>s.ins.contains a||(!s.outs.contains a&&s.cond.y8 f b)
 |none=>false
noncomputable def Fw (l:List qd) (a:za) (b:zG->Bool):Nat->Bool:=Cj (fun i f=>OB l a b i fun n=>f (wS l n)) 101
theorem Hh{l:List qd}(h:Qa l)(a:za)(b:zG->Bool)(i:Nat):Fw l a b i=OB l a b i fun n=>Fw l a b (wS l n):=by
 refine Tj (succ:=wb l) (rk:=Co l) (N:=100) (fun i f g c=>?_) (Jz h) (KL h) i;simp only[OB];cases hs:l[i]? with
 |none=>rfl
 |some s=>simp only;rw[Fv s.cond (f:=fun n=>f (wS l n)) (g:=fun n=>g (wS l n)) fun n d=>c (wS l n) (by unfold wb;rw[hs];exact wo d)]
noncomputable def zaE (l:List qd) (b:za) (a:zG->Bool) (c:zG):Bool:=c.y8 (fun n=>Fw l b a (wS l n)) a
theorem zb4{l:List qd}(a:dK (l.map qd.name)){i:Nat}{s:qd}(h:l[i]?=some s):wS l s.name=i/\yx l s.name=true:=by have:=Ft a (j:=i) (s:=s.name) (by rw[qf,h];rfl);unfold wS yx;rw[this];exact⟨rfl,rfl⟩
noncomputable def Fx:zb->Option O:=qu (α:=qd×za) (fun a=>[.agg a.1.V,str a.2]) (fun _=>True) (fun a=>int (yB a.1.name a.2))
theorem fQ(x:qd)(s:za)(Y:Hp)(Z:Nat):zi false [] Fx [.agg x.V,str s] Y Z=some (int (yB x.name s),Y,Z):=
 Js (x,s) _ _ (by simp[wE]) (fun a b e=>by obtain⟨c,d⟩:=a;obtain⟨f,g⟩:=b;simp only[zl,zM,O.agg.injEq]at e;rw[KK e.1,wR e.2]) trivial (.inl rfl)
noncomputable abbrev zb5:Ctx:=zW prog [(56,zi false [] (IP yB))]
theorem Cp:zg prog 55 (zi false [] Fx):=
 Z2 (qc mixed ⟨vK,trivial⟩:AM.Good zb5 _) func55 false [] fun⟨x,s⟩ _=>⟨by simp[f55],_,zn rfl (by simp[f55,wE]),qq _⟩
noncomputable def OC:zb->Option O:=qu (α:=List qd×za) (fun a=>[.sl 10 (a.1.map qd.V),str a.2,.fn (.func 55) [] []]) (fun a=>a.1.length<=zx) (fun a=>.wq [int (Kf (a.1.map qd.name) a.2).1,q8 (Kf (a.1.map qd.name) a.2).2])
theorem Fy(l:List qd)(s:za)(Y:Hp)(Z:Nat)(h:l.length<=zx):zi false [] OC [.sl 10 (l.map qd.V),str s,.fn (.func 55) [] []] Y Z=some (.wq [int (Kf (l.map qd.name) s).1,q8 (Kf (l.map qd.name) s).2],Y,Z):=
 Js (l,s) _ _ rfl (fun a b e=>by obtain⟨f,g⟩:=a;obtain⟨i,j⟩:=b;simp only[zl,zM]at e;obtain⟨c,d⟩:=e;injection c with _ c;rw[vw (fun _ _=>KK) c,wR d]) h (.inl rfl)
noncomputable abbrev zaF:Ctx:=zW prog [(55,zi false [] Fx)]
theorem I9(l:List qd)(s:za)(w:l.length<=zx):zt zaF f54 [.sl 10 (l.map qd.V),str s,.fn (.func 55) [] []]=some (.wq [int (Kf (l.map qd.name) s).1,q8 (Kf (l.map qd.name) s).2]):=by
 refine zn rfl ?_;unfold zx at w;have h:(l.map qd.name).length=l.length:=by simp
 simp;refine Wm (fun st=>st.U 0=.sl 10 (l.map qd.V)/\st.U 1=str s/\st.U 2=.fn (.func 55) [] []/\st.U 8=int l.length/\∃lo hi:Nat,lo<=hi/\hi<=l.length/\st.U 9=int lo/\st.U 10=int hi/\Zv (WX (l.map qd.name) s) 0 (l.map qd.name).length=Zv (WX (l.map qd.name) s) lo hi)
  (fun st=>(Vh (st.U 10)).toNat-(Vh (st.U 9)).toNat) ⟨by simp,by simp,by simp,by simp,0,l.length,by simp,by simp,by simp,by simp,by rw[h]⟩ ?_
 rintro⟨U,Y,Z⟩ ⟨i,j,k,n,lo,hi,y,t,o,d,f⟩;simp only at i j k n o d;by_cases b:lo<hi
 ·have a:=fun x Y Z=>fQ x s Y Z
  have v:=wX ((lo:Int)+hi);have z:(lo+hi)/2<l.length:=by omega
  obtain⟨m,A⟩:∃m,m=(lo+hi)/2:=⟨_,rfl⟩;have g:i6.wrap ((IntKind.u64.wrap ((lo:Int)+hi)).fdiv (2 ^ min 1 IntKind.u64.bits))=(m:Int):=by
   have B:IntKind.u64.wrap ((lo:Int)+hi)=(lo:Int)+hi:=by rw[IntKind.wrap_u64];omega
   have C:(2 ^ min 1 IntKind.u64.bits:Int)=2:=by decide
   rw[B,C,DX _ (by omega),wQ (by omega) (by omega)];omega
  have e:m<l.length:=by omega
  have D:=qH m;have u:WX (l.map qd.name) s m=decide (yB l[m].name s<0):=by simp[WX,e]
  rw[XU (lo:=lo) b,<-A,u]at f;have c:=a l[m];simp only[wE]at c;by_cases r:yB l[m].name s<0
  ·simp only[r,decide_true,qI]at f;simp[i,j,k,n,o,d,b,v,g,e,c,r,D,wE];exact⟨⟨m+1,hi,by omega,t,by omega,rfl,by rw[h]at f;exact f⟩,by omega⟩
  ·simp only[r,decide_false,zO,wx]at f;simp[i,j,k,n,o,d,b,v,g,e,c,r,wE];exact⟨⟨lo,m,by omega,by omega,rfl,rfl,by rw[h]at f;exact f⟩,by omega⟩
 ·have f:Zv (WX (l.map qd.name) s) 0 (l.map qd.name).length=lo:=by rw[f,c9 (lo:=lo) b]
  have a:=fun x Y Z=>fQ x s Y Z
  unfold Kf;rw[f];by_cases p:lo<l.length
  ·have c:=a l[lo];simp only[wE]at c;simp[i,j,k,n,o,d,b,p,c,wE,f54,wc]
  ·have q:l[lo]?=none:=yO (by omega);simp[i,j,k,n,o,d,b,p,q,f54,wc]
theorem Fz:zg prog 54 (zi false [] OC):=
 Z2 (qx (q:=[55]) mixed ⟨Cp,fun _=>zr _ _,trivial⟩:AM.Good zaF _) func54 false [] fun⟨l,s⟩ a=>⟨zE (ze 3) (by decide),_,I9 l s a,qq _⟩
noncomputable def db:zb->Option O:=qu (α:=List qd×za) (fun a=>[.sl 10 (a.1.map qd.V),str a.2]) (fun a=>a.1.length<=zx) (fun a=>.wq [int (Kf (a.1.map qd.name) a.2).1,q8 (Kf (a.1.map qd.name) a.2).2])
theorem YK(l:List qd)(s:za)(Y:Hp)(Z:Nat)(h:l.length<=zx):zi false [] db [.sl 10 (l.map qd.V),str s] Y Z=some (.wq [int (Kf (l.map qd.name) s).1,q8 (Kf (l.map qd.name) s).2],Y,Z):=
 Js (l,s) _ _ rfl (fun a b e=>by obtain⟨f,g⟩:=a;obtain⟨i,j⟩:=b;simp only[zl,zM]at e;obtain⟨c,d⟩:=e;injection c with _ c;rw[vw (fun _ _=>KK) c,wR d]) h (.inl rfl)
noncomputable abbrev ze0:Ctx:=zW prog [(54,zi false [] OC)]
theorem YL:zg prog 24 (zi false [] db):=
 Z2 (qc mixed ⟨Fz,trivial⟩:AM.Good ze0 _) func24 false [] fun⟨l,s⟩ a=>by
  have b:=fun Y Z=>Fy l s Y Z a
  exact⟨by simp[f24],_,zn rfl (by simp[b,wc,f24]),qq _⟩
noncomputable def Tl (out:List za->O) (a:List za->Prop):zb->Option O:=qu (α:=List za) (fun l=>[.sl 1 (zH l)]) a out
theorem dd(out:List za->O)(c:List za->Prop)(l:List za)(Y:Hp)(Z:Nat)(h:c l)(d:(out l).flat=true):zi false [] (Tl out c) [.sl 1 (zH l)] Y Z=some (out l,Y,Z):=
 Js l _ _ rfl (fun a b e=>by
  simp only[zl,zM]at e;injection e with _ e
  exact jI e) h (.inl d)
def Jh(l:List za)(k:Nat):Option za:=if k=0 then none else l[k-1]?
noncomputable abbrev Cck:Ctx:=zW prog [(43,zi false [] (FS xv))]
theorem mV(l:List za)(h:Qh l<=zx):zt Cck f99 [.sl 1 (zH l)]=some (int (vV l)):=by
 have D:=Qy l;have z:=fun s (hs:s∈l)=>da hs
 unfold zx at h;refine zn rfl ?_;unfold vV;by_cases o:(1000:Int)<l.length
 ·rw[zf o];simp[o,f99]
 rw[zc o];simp[o];refine zT (fun k U Y Z=>U 0=.sl 1 (zH l)/\U 8=.sl 1 (zH l)/\U 9=int l.length/\U 10=int k/\J2 none l=J2 (Jh l k) (l.drop k)) l.length
  ⟨by simp,by simp,by simp,by simp,by simp[Jh]⟩ ?_
 rintro k U Y Z E ⟨f,g,i,c,a⟩;by_cases b:k<l.length
 ·have F:=qH k;obtain⟨s,hs⟩:=jj (l[k]);have d:s.length<=zx:=by have:=z s (by rw[<-hs];exact zk b);unfold zx;omega
  rw[mQ b,hs]at a;have m:Jh l (k+1)=some s:=by simp[Jh,b,hs]
  cases e:xv s
  ·rw[e,zc (by simp)]at a;simp[f,g,i,c,b,hs,d,e,a,f99]
  rw[e,zf rfl]at a;by_cases A:k=0
  ·subst A;have B:=wX 1;simp only[Jh,kP,qI,zO,wx]at a;simp[f,g,i,c,b,hs,d,e,B];exact⟨by omega,by rw[a,m];simp⟩
  ·obtain⟨j,rfl⟩:∃j,k=j+1:=⟨k-1,by omega⟩;have q:j<l.length:=by omega
   have t:i6.wrap ((j:Int)+1-1)=(j:Int):=by rw[wQ (by omega) (by omega)];omega
   have n:=wX (j:Int);have u:((j:Int)+1).toNat=j+1:=by omega
   have v:0<(j:Int)+1:=by omega
   have w:0<=(j:Int)+1:=by omega
   have x:(j:Int)+1<l.length:=by omega
   have C:=wX ((j:Int)+1+1);have y:(Op.bytesLess s l[j]||s==l[j])=gM s l[j]:=rfl;have r:Jh l (j+1)=some l[j]:=by simp[Jh,q]
   simp only[r,kP]at a;cases p:gM s l[j]
   ·rw[p,zc (by simp)]at a;simp[f,g,i,c,b,q,hs,d,e,t,n,u,v,w,x,y,p,C];exact⟨by omega,by rw[a,m]⟩
   ·rw[p,zf rfl]at a;simp[f,g,i,c,b,q,hs,d,e,t,n,u,v,w,x,y,p,a,f99]
 ·obtain rfl:k=l.length:=by omega
  rw[zq]at a;have a:J2 none l=0:=by rw[a];rfl
  simp[f,g,i,c,a,f99]
theorem gX:zg prog 99 (zi false [] (Tl (fun l=>int (vV l)) fun l=>Qh l<=zx)):=
 Z2 (qc mixed ⟨VN,trivial⟩:AM.Good Cck _) func99 false [] fun l a=>⟨zE (ze 1) (by decide),_,mV l a,qq _⟩
theorem pc:zg prog 156 (zi false [] VS):=
 yj (fn:=f156) jY (qE func156) false [] _ fun args r h=>by
  unfold VS at h;split at h
  ·injection h with h;subst h;exact⟨by simp[f156],_,zn rfl (by simp[f156]),qq _⟩
  ·cases h
def lsP(a b:za):O:=q8 (Op.bytesLess a b)
theorem Tm(a b:za)(Y:Hp)(Z:Nat)(h:a.length<=zx)(c:b.length<=zx):zi false [] (Qg lsP fun _ _=>True) [str a,str b] Y Z=some (q8 (Op.bytesLess a b),Y,Z):=ko _ _ a b Y Z h c trivial rfl
noncomputable abbrev Cls:Ctx:=zW prog [(74,zi false [] VS)]
theorem FA:zg prog 81 (zi false [] (Qg lsP fun _ _=>True)):=
 yj (fn:=f81) (qc mixed ⟨cI,trivial⟩:AM.Good Cls _) (qE func81) false [] _ fun args r h=>by obtain⟨a,b,rfl,c,d,_,rfl⟩:=kB h;exact⟨by simp[f81],_,zn rfl (by simp[lsP,f81]),qq _⟩
noncomputable def FKs (out:List za->za->O):zb->Option O:=qu (α:=List za×za) (fun a=>[.sl 1 (zH a.1),str a.2]) (fun a=>Qh a.1<=zx/\a.2.length<=zx) (fun a=>out a.1 a.2)
theorem Cq(out:List za->za->O)(l:List za)(s:za)(Y:Hp)(Z:Nat)(h:Qh l<=zx)(d:s.length<=zx)(f:(out l s).flat=true):zi false [] (FKs out) [.sl 1 (zH l),str s] Y Z=some (out l s,Y,Z):=
 Js (l,s) _ _ rfl (fun a b e=>by obtain⟨i,j⟩:=a;obtain⟨k,m⟩:=b;simp only[zl,zM]at e;obtain⟨c,g⟩:=e;injection c with _ c;rw[jI c,wR g]) ⟨h,d⟩ (.inl f)
noncomputable def bkP (l:List za) (s:za):O:=.wq [int (Kf l s).1,q8 (Kf l s).2]
noncomputable def hkP (l:List za) (s:za):O:=q8 (Kf l s).2
noncomputable abbrev Cbk:Ctx:=zW prog [(81,zi false [] (Qg lsP fun _ _=>True)),(156,zi false [] VS)]
theorem FB(l:List za)(s:za)(A:Qh l<=zx)(hs:s.length<=zx):zt Cbk f124 [.sl 1 (zH l),str s]=some (bkP l s):=by
 refine zn rfl ?_;have J:=Qy l;have B:=fun s (hs:s∈l)=>da hs
 unfold zx at A hs;have i:(zH l).length=l.length:=by simp[zH]
 have j:∀(k:Nat) (h:k<(zH l).length) (C:k<l.length),(zH l)[k]=[str l[k]]:=fun k h C=>by simp[zH]
 simp[i];refine Wm (fun st=>st.U 0=.sl 1 (zH l)/\st.U 1=str s/\st.U 6=int l.length/\∃lo hi:Nat,lo<=hi/\hi<=l.length/\st.U 7=int lo/\st.U 8=int hi/\Zv (WX l s) 0 l.length=Zv (WX l s) lo hi)
  (fun st=>(Vh (st.U 8)).toNat-(Vh (st.U 7)).toNat) ⟨by simp,by simp,by simp,0,l.length,by simp,by simp,by simp,by simp,rfl⟩ ?_
 rintro⟨U,Y,Z⟩ ⟨p,q,r,lo,hi,D,w,t,u,e⟩;simp only at p q r t u;by_cases c:lo<hi
 ·have z:=wX ((lo:Int)+hi);have E:(lo+hi)/2<l.length:=by omega
  obtain⟨m,x⟩:∃m,m=(lo+hi)/2:=⟨_,rfl⟩;have f:i6.wrap ((IntKind.u64.wrap ((lo:Int)+hi)).fdiv (2 ^ min 1 IntKind.u64.bits))=(m:Int):=by
   have F:IntKind.u64.wrap ((lo:Int)+hi)=(lo:Int)+hi:=by rw[IntKind.wrap_u64];omega
   have G:(2 ^ min 1 IntKind.u64.bits:Int)=2:=by decide
   rw[F,G,DX _ (by omega),wQ (by omega) (by omega)];omega
  have a:m<l.length:=by omega
  have b:m<(zH l).length:=by omega
  have H:=qH m;have y:WX l s m=Op.bytesLess l[m] s:=by simp only[WX,zj a];rw[qv,qi];exact Jg _ _
  rw[XU (lo:=lo) c,<-x,y]at e;have d:=fun Y Z=>Tm l[m] s Y Z (by have:=B _ (zk a);unfold zx;omega) (by unfold zx;omega)
  cases o:Op.bytesLess l[m] s
  ·rw[o,zc (by simp)]at e;rw[o]at d;simp[p,q,r,t,u,c,z,f,i,b,a,j m b a,d];exact⟨⟨lo,m,by omega,by omega,rfl,rfl,e⟩,by omega⟩
  ·rw[o,zf rfl]at e;rw[o]at d;simp[p,q,r,t,u,c,z,f,i,b,a,j m b a,d,H];exact⟨⟨m+1,hi,by omega,w,by omega,rfl,e⟩,by omega⟩
 ·have e:Zv (WX l s) 0 l.length=lo:=by rw[e,c9 (lo:=lo) c]
  unfold bkP Kf;rw[e];by_cases n:lo<l.length
  ·have g:lo<(zH l).length:=by omega
   have I:(yB l[lo] s==0)=(l[lo]==s):=by rw[qv,yH,yH];exact kI _ _
   cases o:l[lo]==s <;>
    simp[p,q,r,t,u,c,n,g,j lo g n,I,o,f124,wc]
  ·have v:l[lo]?=none:=yO (by omega);simp[p,q,r,t,u,c,n,v,f124,wc]
theorem Cr:zg prog 124 (zi false [] (FKs bkP)):=
 Z2 (qc mixed ⟨FA,pc,trivial⟩:AM.Good Cbk _) func124 false [] fun⟨l,s⟩ ⟨a,hs⟩=>⟨zE (ze 2) (by decide),_,FB l s a hs,qq _⟩
noncomputable abbrev Chk:Ctx:=zW prog [(124,zi false [] (FKs bkP))]
theorem de:zg prog 90 (zi false [] (FKs hkP)):=
 Z2 (qc mixed ⟨Cr,trivial⟩:AM.Good Chk _) func90 false [] fun⟨l,s⟩ ⟨b,hs⟩=>by
  have a:=fun Y Z=>Cq bkP l s Y Z b hs rfl
  simp only[bkP]at a;exact⟨by simp[f90],_,zn rfl (by simp[a,hkP,wc,f90]),qq _⟩
theorem uk(l:List za)(s:za)(Y:Hp)(Z:Nat)(h:Qh l<=zx)(a:s.length<=zx):zi false [] (FKs hkP) [.sl 1 (zH l),str s] Y Z=some (q8 (Kf l s).2,Y,Z):=Cq hkP l s Y Z h a rfl
theorem um{l:List za}(a:dK l)(s:za):(Kf l s).2=l.contains s:=by
 rw[qv,zcC];constructor
 ·intro h;exact zz (Fs h)
 ·intro h;obtain⟨j,b⟩:=Kd h;rw[Ft a b]
end Go.Q
namespace Go.AM
def La(Q:St->Prop)(K:Exit->St->Prop)(e:Exit)(st:St):Prop:=match e with
 | .normal=>Q st
 |e=>K e st
@[simp]theorem zg2(Q:St->Prop)(K:Exit->St->Prop)(st:St):La Q K .normal st=Q st:=rfl
@[simp]theorem zg3(Q:St->Prop)(K:Exit->St->Prop)(st:St):La Q K .ret st=K .ret st:=rfl
@[simp]theorem zg4(Q:St->Prop)(K:Exit->St->Prop)(i:Nat)(st:St):La Q K (.exit i) st=K (.exit i) st:=rfl
theorem QA{C:Ctx}{a b:Code}{st:St}{K:Exit->St->Prop}(Q:St->Prop)(d:Zw C a st (La Q K))(f:∀st,Q st->Zw C b st K):Zw C (.seq a b) st K:=by
 rw[ti];refine d.mono fun e st c=>?_
 cases e
 case normal=>exact f _ c
 all_goals exact c
theorem vL{C:Ctx}{a b:Code}{st:St}{K:Exit->St->Prop}(Q:(Nat->O)->Hp->Nat->Prop)(c:Zw C a st (La (fun st=>Q st.U st.Y st.Z) K))(d:∀U Y Z,Q U Y Z->Zw C b ⟨U,Y,Z⟩ K):Zw C (.seq a b) st K:=
 QA _ c fun st h=>d st.U st.Y st.Z h
end Go.AM
namespace Go.Q
noncomputable def V6 (g:Nat) (sp:AM.Spec):Nat->AM.Spec
 | 0=>fun _ _ _=>none
 |k+1=>yz (zW prog [(40,V6 g sp k),(g,sp)]) f40
theorem YM{f:FuncId}(a:∃fn,prog.funcs[f]?=some fn/\(fn.name== "runtime.NumGoroutine")=false/\fn.body.isNone=false):zg prog f (fun _ _ _=>none):=⟨a,fun _ _ _ _ _ _ h=>by cases h⟩
theorem YN{g:Nat}{sp:AM.Spec}(h:zg prog g sp):∀k,zg prog 40 (V6 g sp k)
 | 0=>YM ⟨_,func40,by kernel_rfl,by kernel_rfl⟩
 |k+1=>kM (qx (q:=[]) (l:=[(40,V6 g sp k),(g,sp)]) mixed ⟨YN h k,by simp,h,by simp,trivial⟩) func40
def jc{U:Type}(T:Nat->Prop)(Rep:U->Hp->Prop)(r:O)(s:U)(Y:Hp)(Z:Nat)(x:O)(Y':Hp)(a:Nat):Prop:=x=r/\Rep s Y'/\Z<=a/\∀j,j<Z->¬T j->Y' j=Y j
theorem YO{S α:Type}{f:S->α->Bool×S}{s:S}{a:α}{l:List α}(h:(f s a).1=true):wB f s (a::l)=(true,(f s a).2):=by rw[wB,zf h]
theorem Z8{S α:Type}{f:S->α->Bool×S}{s:S}{a:α}{l:List α}(h:(f s a).1=false):wB f s (a::l)=wB f (f s a).2 l:=by rw[wB,zc (by simp[h])]
theorem XV{α:Type}(f:α->Bool):∀l:List α,(wB (fun(_:Unit) n=>(f n,())) () l).1=l.any f
 |[]=>rfl
 |a::l=>by
  cases h:f a
  ·simp[wB,h,XV f l]
  ·simp[wB,h]
theorem sd{f:zG->Bool}:∀l:List zG,(wB (fun(_:Unit) n=>(!f n,())) () l).1=!(l.all f)
 |[]=>rfl
 |a::l=>by
  cases h:f a
  ·simp[wB,h]
  ·simp[wB,h,sd l]
theorem V7{U:Type}{T:Nat->Prop}{Rep:U->Hp->Prop}{step:U->za->Bool×U}{Q:za->Prop}{g:Nat}{sp:AM.Spec}{cap:zb}{Z0:Nat}(t:¬g=40)
  (W:∀j,T j->j<Z0) (J:∀s Y j b,Z0<=j->Rep s Y->Rep s (qt Y j b))
  (X:∀s n Y Z,Q n->n.length<=zx->Z0<=Z->Rep s Y->∃x Y' A,sp (str n::cap) Y Z=some (x,Y',A)/\jc T Rep (q8 (!(step s n).1)) (step s n).2 Y Z x Y' A) :
  ∀(k:Nat) (c:zG) (s:U) (Y:Hp) (Z:Nat),c.cb<=k->c.cb<=zx->(∀n∈c.names,Q n)->Z0<=Z->Rep s Y ->
   ∃x Y' A,V6 g sp k [.agg c.V,.fn (.func g) [] cap] Y Z=some (x,Y',A)/\jc T Rep (q8 (!(wB step s c.names).1)) (wB step s c.names).2 Y Z x Y' A
 | 0,c,_,_,_,h,_,_,_,_=>absurd h (by have:=VX c;omega)
 |k+1,c,s,B,a,hk,hl,hq,K,L=>by
  have Ea:=xG c;have hal:=ju c.args;have f:=yU c;unfold V6 yz;rw[zf (by simp[f40])];refine qz rfl ?_;have M:=hl;unfold zx at M;have C:Rep s (qt B a (some ⟨26,7,false,[c.V]⟩)):=J _ _ _ _ K L;have N:¬T a:=fun h=>by have:=W _ h;omega
  refine vL (fun U Y Z=>U 1=.fn (.func g) [] cap/\U 2=.ref a 0 0/\Y=qt B a (some ⟨26,7,false,[c.V]⟩)/\Z=a+1) (by simp) ?_;rintro U Y Z ⟨o,z,rfl,rfl⟩;refine vL (fun U Y Z=>U 1=.fn (.func g) [] cap/\U 2=.ref a 0 0/\a<Z/\Y a=some ⟨26,7,false,[c.V]⟩/\∃r,Rep r Y/\(∀j,j<a->¬T j->Y j=B j)/\wB step s c.names=wB step r (yD c.args)) ?_ ?_
  ·by_cases D:c.kind=5
   ·rw[zf D]at f;obtain⟨x,Y2,P,p,rfl,E,n2,F⟩:=X s c.name _ (a+1) (hq c.name (by rw[f];simp)) (by unfold zx;omega) (by omega) C;cases e:(step s c.name).1
    ·rw[e]at p;simp[o,z,D,t,p];refine⟨by omega,by rw[F a (by omega) N];simp,(step s c.name).2,E,fun j I q=>by rw[F j (by omega) q,zm _ _ _ _ (by omega)],?_⟩;rw[f];exact Z8 e
    ·rw[e]at p;have hv:wB step s c.names=(true,(step s c.name).2):=by rw[f];exact YO e
     simp[o,z,D,t,p,jc,hv,f40];exact⟨E,by omega,fun j I q=>by rw[F j (by omega) q,zm _ _ _ _ (by omega)]⟩
   ·rw[zc D,kj]at f;have R:=yq D;simp[o,z,R];exact⟨s,C,fun j I q=>by rw[zm _ _ _ _ (by omega)],by rw[f]⟩
  rintro U Y Z ⟨o,z,u,hb,r,G,l,d⟩;simp[z,hb];refine zT (fun k U Y Z=>U 1=.fn (.func g) [] cap/\U 18=.sl 7 (c.args.map zG.V)/\U 19=int c.args.length/\U 20=int k/\a<Z/\(∀j,j<a->¬T j->Y j=B j)/\∃s2,Rep s2 Y/\wB step s c.names=wB step s2 (yD (c.args.drop k))) c.args.length
   ⟨by simp[o],by simp,by simp,by simp,u,l,r,G,by simpa using d⟩ ?_
  clear o z u hb G l d r U Y Z;rintro i U Y Z hi ⟨o,v,w,y,u,l,r,G,d⟩;by_cases m:i<c.args.length
  ·have hm:=kg (zk m);have hw:=qH i;have S:∀n∈c.args[i].names,Q n:=fun n q=>hq n (by rw[f];exact zF.2 (.inr (jQ.2 ⟨_,zk m,q⟩)))
   obtain⟨x,Y2,P,p,rfl,E,n2,F⟩:=V7 t W J X k c.args[i] r (qt Y Z (some ⟨26,7,false,[c.args[i].V]⟩)) (Z+1) (by omega) (by unfold zx;omega) S (by omega) (J _ _ _ _ (by omega) G);rw[Cl m,r9]at d;have H:∀j,j<a->¬T j->Y2 j=B j:=fun j I q=>by rw[F j (by omega) q,zm _ _ _ _ (by omega)];exact l j I q
   cases e:(wB step r c.args[i].names).1
   ·rw[e,zc (by simp)]at d;rw[e]at p;simp[o,v,w,y,m,p,hw];exact⟨by omega,by omega,H,_,E,d⟩
   ·rw[e,zf rfl]at d;rw[e]at p;simp[o,v,w,y,m,p,jc,d,f40];exact⟨E,by omega,H⟩
  ·obtain rfl:i=c.args.length:=by omega
   rw[zq]at d;simp only[yD,wB]at d;simp[o,v,w,y,jc,d,f40];exact⟨G,by omega,l⟩
noncomputable def Cs (Ta:Qf):AM.Spec:=yz (zW prog Ta) f126
noncomputable def Hi (Ta:Qf):AM.Spec:=yz (zW prog [(126,Cs Ta)]) f94
theorem FD{Ta:Qf}(h:cv True prog [] Ta):zg prog 126 (Cs Ta):=kM (qx (q:=[]) mixed h) func126
theorem FE{Ta:Qf}(h:cv True prog [] Ta):zg prog 94 (Hi Ta):=kM (qx (q:=[]) (l:=[(126,Cs Ta)]) mixed ⟨FD h,by simp,trivial⟩) func94
theorem OD{U:Type}{T:Nat->Prop}{Rep:U->Hp->Prop}{step:U->zZ->Bool×U}{Ta:Qf}{g:Nat}{sp:AM.Spec}{fi cap:zb}{Z0:Nat}(y:lookup Ta g=some sp)(xs:List zZ)(C:xs.length<=zx)
  (D:∀s x Y Z,x∈xs->Z0<=Z->Rep s Y->∃r Y' b,sp (fi++.agg x.V::cap) Y Z=some (r,Y',b)/\jc T Rep (q8 (step s x).1) (step s x).2 Y Z r Y' b)
  (f:U) (h:Hp) (a:Nat) (N:Z0<=a) (E:Rep f h) :
  ∃r Y' b,Hi Ta [.sl 5 (xs.map zZ.V),.fn (.func g) fi cap] h a=some (r,Y',b)/\jc T Rep (q8 (wB step f xs).1) (wB step f xs).2 h a r Y' b:=by
 have p:∃r Y' b,Cs Ta [.sl 5 (xs.map zZ.V),.fn (.func g) fi cap] h a=some (r,Y',b)/\∃z:Int,r=int z/\decide (0<=z)=(wB step f xs).1/\jc T Rep (int z) (wB step f xs).2 h a r Y' b:=by
  unfold Cs yz;rw[zf (by simp[f126])];refine qz rfl ?_;unfold zx at C;simp;refine zT (fun k U Y Z=>U 0=.sl 5 (xs.map zZ.V)/\U 1=.fn (.func g) fi cap/\U 7=int xs.length/\U 8=int k/\a<=Z/\(∀j,j<a->¬T j->Y j=h j)/\∃s,Rep s Y/\wB step f xs=wB step s (xs.drop k)) xs.length ⟨by simp,by simp,by simp,by simp,ze _,fun _ _ _=>rfl,f,E,by simp⟩ ?_;rintro k U Y Z P ⟨q,t,u,v,w,l,s,m,e⟩;by_cases c:k<xs.length
  ·have F:=qH k;obtain⟨x,o⟩:=jj (xs[k]);obtain⟨r,Y2,G,i,rfl,A,Q,H⟩:=D s x Y Z (by rw[<-o];exact zk c) (by omega) m;rw[zh c,o]at e;have n:∀j,j<a->¬T j->Y2 j=h j:=fun j I B=>by rw[H j (by omega) B];exact l j I B
   cases d:(step s x).1
   ·rw[Z8 d]at e;rw[d]at i;simp[q,t,u,v,c,o,y,i,F];exact⟨by omega,by omega,n,_,A,e⟩
   ·rw[YO d]at e;rw[d]at i;simp[q,t,u,v,c,o,y,i,e,jc,f126];exact⟨A,by omega,n⟩
  ·obtain rfl:k=xs.length:=by omega
   rw[zq]at e;simp only[wB]at e;simp[q,t,u,v,e,jc,f126];exact⟨m,w,l⟩
 obtain⟨r,Y',b,i,z,rfl,J,_,K,L,M⟩:=p;unfold Hi yz;rw[zf (by simp[f94])];refine qz rfl ?_;simp[i,J,jc,f94];exact⟨K,L,M⟩
@[simp]theorem zgw(s:qN):s.V.length=11:=rfl
@[simp]theorem ze1(s:qN):s.V.take 11=s.V:=qe (by simp)
noncomputable def Ct (Ta:Qf):AM.Spec:=yz (zW prog Ta) f215
noncomputable def Hj (Ta:Qf):AM.Spec:=yz (zW prog [(215,Ct Ta)]) f165
theorem FF{Ta:Qf}(h:cv True prog [] Ta):zg prog 215 (Ct Ta):=kM (qx (q:=[]) mixed h) func215
theorem FG{Ta:Qf}(h:cv True prog [] Ta):zg prog 165 (Hj Ta):=kM (qx (q:=[]) (l:=[(215,Ct Ta)]) mixed ⟨FF h,by simp,trivial⟩) func165
theorem OE{U:Type}{T:Nat->Prop}{Rep:U->Hp->Prop}{step:U->qN->Bool×U}{Ta:Qf}{g:Nat}{sp:AM.Spec}{fi cap:zb}{Z0:Nat}(y:lookup Ta g=some sp)(xs:List qN)(C:xs.length<=zx)
  (D:∀s x Y Z,x∈xs->Z0<=Z->Rep s Y->∃r Y' b,sp (fi++.agg x.V::cap) Y Z=some (r,Y',b)/\jc T Rep (q8 (step s x).1) (step s x).2 Y Z r Y' b)
  (f:U) (h:Hp) (a:Nat) (N:Z0<=a) (E:Rep f h) :
  ∃r Y' b,Hj Ta [.sl 11 (xs.map qN.V),.fn (.func g) fi cap] h a=some (r,Y',b)/\jc T Rep (q8 (wB step f xs).1) (wB step f xs).2 h a r Y' b:=by
 have p:∃r Y' b,Ct Ta [.sl 11 (xs.map qN.V),.fn (.func g) fi cap] h a=some (r,Y',b)/\∃z:Int,r=int z/\decide (0<=z)=(wB step f xs).1/\jc T Rep (int z) (wB step f xs).2 h a r Y' b:=by
  unfold Ct yz;rw[zf (by simp[f215])];refine qz rfl ?_;unfold zx at C;simp;refine zT (fun k U Y Z=>U 0=.sl 11 (xs.map qN.V)/\U 1=.fn (.func g) fi cap/\U 7=int xs.length/\U 8=int k/\a<=Z/\(∀j,j<a->¬T j->Y j=h j)/\∃s,Rep s Y/\wB step f xs=wB step s (xs.drop k)) xs.length ⟨by simp,by simp,by simp,by simp,ze _,fun _ _ _=>rfl,f,E,by simp⟩ ?_;rintro k U Y Z P ⟨q,t,u,v,w,l,s,m,e⟩;by_cases c:k<xs.length
  ·have F:=qH k;obtain⟨x,o⟩:=jj (xs[k]);obtain⟨r,Y2,G,i,rfl,A,Q,H⟩:=D s x Y Z (by rw[<-o];exact zk c) (by omega) m;rw[zh c,o]at e;have n:∀j,j<a->¬T j->Y2 j=h j:=fun j I B=>by rw[H j (by omega) B];exact l j I B
   cases d:(step s x).1
   ·rw[Z8 d]at e;rw[d]at i;simp[q,t,u,v,c,o,y,i,F];exact⟨by omega,by omega,n,_,A,e⟩
   ·rw[YO d]at e;rw[d]at i;simp[q,t,u,v,c,o,y,i,e,jc,f215];exact⟨A,by omega,n⟩
  ·obtain rfl:k=xs.length:=by omega
   rw[zq]at e;simp only[wB]at e;simp[q,t,u,v,e,jc,f215];exact⟨m,w,l⟩
 obtain⟨r,Y',b,i,z,rfl,J,_,K,L,M⟩:=p;unfold Hj yz;rw[zf (by simp[f165])];refine qz rfl ?_;simp[i,J,jc,f165];exact⟨K,L,M⟩
def Tn(a b:za):O:=q8 (Lib.hasSuffix a b)
theorem gY(a b:za)(c:a.length<=zx)(d:b.length<=zx):zt Cw0 f158 [str a,str b]=some (Tn a b):=by
 refine zn rfl ?_;have hs:=Lib.hasSuffix_of_drop a b;unfold zx at c d;by_cases h:b.length<=a.length
 ·rw[DV h,jK]at hs;have e:i6.wrap ((a.length:Int)-b.length)=((a.length-b.length:Nat):Int):=by rw[wQ (by omega) (by omega)];omega
  have f:(a.drop (a.length-b.length)).take (a.length-(a.length-b.length))=a.drop (a.length-b.length):=qe (by simp);simp[h,e,Tn,<-hs,f,f158]
 ·rw[decide_eq_false h,dE]at hs;have g:¬((b.length:Int)<=a.length):=by omega
  simp[h,g,Tn,<-hs,f158]
theorem eM:zg prog 158 (zi false [] (Qg Tn fun _ _=>True)):=
 yj (fn:=f158) EV (qE func158) false [] _ fun args r h=>by obtain⟨a,b,rfl,c,d,_,rfl⟩:=kB h;exact⟨by simp[f158],_,gY a b c d,qq _⟩
theorem Hk(a b:za)(Y:Hp)(Z:Nat)(h:a.length<=zx)(c:b.length<=zx):zi false [] (Qg Tn fun _ _=>True) [str a,str b] Y Z=some (q8 (Lib.hasSuffix a b),Y,Z):=ko _ _ a b Y Z h c trivial rfl
noncomputable abbrev Chsf:Ctx:=zW prog [(158,zi false [] (Qg Tn fun _ _=>True))]
theorem hC:zg prog 128 (zi false [] (Qg Tn fun _ _=>True)):=
 yj (fn:=f128) (qc mixed ⟨eM,trivial⟩:AM.Good Chsf _) (qE func128) false [] _ fun args r h=>by obtain⟨a,b,rfl,c,d,_,rfl⟩:=kB h;exact⟨by simp[f128],_,zn rfl (by simp[Hk,c,d,Tn,f128]),qq _⟩
noncomputable def FCu (f:Cut->O):zb->Option O:=qu (α:=Cut) (fun c=>[.agg c.V]) (fun c=>c.v.small) f
theorem OG(f:Cut->O)(c:Cut)(Y:Hp)(Z:Nat)(h:c.v.small)(d:(f c).flat=true):zi false [] (FCu f) [.agg c.V] Y Z=some (f c,Y,Z):=
 Js c _ _ (by simp[Cut.V]) (fun a b e=>by simp only[zl,zM,O.agg.injEq]at e;exact Zl e) h (.inl d)
def J3(c:Cut):Bool:=c.v.a==0&&(c.v.b==0&&(c.v.c==0&&((c.v.pre.length:Int)==0&&!c.after)))
theorem Cu(c:Cut):zt Cw0 f214 [.agg c.V]=some (q8 (J3 c)):=by
 refine zn rfl ?_;obtain⟨⟨x,y,z,p⟩,f⟩:=c;by_cases a:x=0
 case neg=>have d:=yq a;simp[Cut.V,d,J3,f214]
 by_cases b:y=0
 case neg=>have e:=yq b;simp[Cut.V,a,e,J3,f214]
 by_cases g:z=0
 case neg=>have h:=yq g;simp[Cut.V,a,b,h,J3,f214]
 cases i:((p.length:Int)==0)
 ·simp[Cut.V,a,b,g,i,J3,f214]
 ·cases f<;>simp[Cut.V,a,b,g,i,J3,f214]
theorem uo:zg prog 214 (zi false [] (FCu fun c=>q8 (J3 c))):=
 Z2 EV func214 false [] fun c _=>⟨by simp[f214],_,Cu c,qq _⟩
noncomputable def mW (v:wN) (c:Cut):Bool:=decide (0<Zy v c.v)||(Zy v c.v==0&&!c.after)
noncomputable def FVC (f:wN->Cut->O):zb->Option O:=qu (α:=wN×Cut) (fun a=>[.agg a.1.V,.agg a.2.V]) (fun a=>a.1.small/\a.2.v.small) (fun a=>f a.1 a.2)
theorem Cv(f:wN->Cut->O)(v:wN)(c:Cut)(Y:Hp)(Z:Nat)(h:v.small)(d:c.v.small)(g:(f v c).flat=true):zi false [] (FVC f) [.agg v.V,.agg c.V] Y Z=some (f v c,Y,Z):=
 Js (v,c) _ _ (by simp[Cut.V,wN.V]) (fun a b e=>by obtain⟨i,j⟩:=a;obtain⟨k,l⟩:=b;simp only[zl,zM,O.agg.injEq]at e;rw[Wo e.1,Zl e.2]) ⟨h,d⟩ (.inl g)
theorem Cw(v:wN)(c:Cut)(h:v.small)(f:c.v.small):zt Ccu f167 [.agg v.V,.agg c.V]=some (q8 (mW v c)):=by
 refine zn rfl ?_;have a:=fun Y Z=>tT v c.v Y Z h f
 simp only[wN.V]at a;by_cases d:0<Zy v c.v
 ·simp[Cut.V,wN.V,a,d,mW,f167]
 by_cases e:Zy v c.v=0
 ·cases g:c.after<;>simp[Cut.V,wN.V,a,e,g,mW,f167]
 ·have b:=yq e;simp[Cut.V,wN.V,a,d,b,mW,f167]
theorem uq:zg prog 167 (zi false [] (FVC fun v c=>q8 (mW v c))):=
 Z2 NV func167 false [] fun⟨v,c⟩ ⟨a,b⟩=>⟨by simp[f167],_,Cw v c a b,qq _⟩
noncomputable def YP (s:qN):Int:=if s.y7=true then(if J3 s.hi=true then 0 else 3)else if kq s.hi.v=0 then(if 0<=wv s.lo s.hi then 8 else 0)else kq s.hi.v
noncomputable def KM (p:Option qN) (s:qN):Bool:=match p with
 |none=>false
 |some q=>q.y7||decide (0<=wv q.hi s.lo)
noncomputable def ur:Option qN->List qN->Int
 |_,[]=>0
 |p,s::l=>if kq s.lo.v=0 then(if YP s=0 then(if KM p s=true then 8 else ur (some s) l)else YP s)else kq s.lo.v
theorem Lb{l:List qN}{k:Nat}(h:k<l.length)(p:Option qN):ur p (l.drop k)=if kq l[k].lo.v=0 then(if YP l[k]=0 then(if KM p l[k]=true then 8 else ur (some l[k]) (l.drop (k+1)))else YP l[k])else kq l[k].lo.v:=by rw[zh h,ur]
def fR(l:List qN)(k:Nat):Option qN:=if k=0 then none else l[k-1]?
noncomputable def J4 (l:List qN):Int:=if(100:Int)<l.length then 2 else ur none l
noncomputable def inS (v:wN) (s:qN):Bool:=mW v s.lo&&(s.y7||!mW v s.hi)
noncomputable abbrev Ccrg:Ctx:=zW prog [(163,qA [.g kp] (RZ fun v=>int (kq v))),(214,zi false [] (FCu fun c=>q8 (J3 c))),(181,qA [.g jz,.g jz] (AP fun v w=>int (wv v w)))]
theorem To:AM.Good Ccrg (fun g=>[181].contains g):=qx mixed ⟨ZQ,by simp,uo,by simp,xF,fun _=>yR _ _,trivial⟩
theorem Lc:QU Ccrg (fun g=>[181].contains g) 164 f164:=qE func164
theorem mX(v:wN)(Y:Hp)(Z:Nat)(h:v.small):qA [.g kp] (RZ fun v=>int (kq v)) [.agg v.V] Y Z=some (int (kq v),Y,Z):=lZ (fun v=>int (kq v)) v (.agg v.V) Y Y Z (.agg v.V) (by simp[wN.V]) (by simp[wN.V]) h rfl
theorem hU(l:List qN)(hl:yK l):zt Ccrg f164 [.sl 11 (z6 l)]=some (int (J4 l)):=by
 obtain⟨R,S⟩:=hl;unfold zx at R;have e:(z6 l).length=l.length:=by simp[z6]
 have T:∀(k:Nat) (h:k<(z6 l).length) (h':k<l.length),(z6 l)[k]=l[k].V:=fun k h h'=>by simp[z6]
 refine zn rfl ?_;by_cases E:(100:Int)<l.length
 ·have p:J4 l=2:=by unfold J4;rw[zf E]
  simp[e,E,p,f164]
 simp[e,E];refine zT (fun k U Y Z=>U 0=.sl 11 (z6 l)/\U 10=.sl 11 (z6 l)/\U 11=int l.length/\U 12=int k/\ur none l=ur (fR l k) (l.drop k)) l.length ⟨by simp,by simp,by simp,by simp,by simp[fR]⟩ ?_;rintro k U Y Z hk ⟨x,f,g,i,o⟩;by_cases b:k<l.length
 ·have hw:=qH k;obtain⟨s,hs⟩:=jj (l[k]);have y:=S s (by rw[<-hs];exact zk b);have a:k<(z6 l).length:=by omega
  have m:=T k a b;rw[hs]at m;have H:fR l (k+1)=some s:=by simp[fR,b,hs]
  have z:=fun Y Z=>mX s.lo.v Y Z y.1
  have I:=fun Y Z=>mX s.hi.v Y Z y.2
  have J:=fun Y Z=>OG (fun c=>q8 (J3 c)) s.hi Y Z y.2 rfl
  have K:=fun Y Z=>Wr s.lo s.hi Y Z y.1 y.2
  simp only[wN.V,Cut.V]at z I J K;rw[Lb b,hs]at o;by_cases u:kq s.lo.v=0
  case neg=>
   rw[zc u]at o;have d1':=ZX u;have p:J4 l=kq s.lo.v:=by unfold J4;rw[zc E,o]
   simp[x,f,g,i,e,b,a,m,qN.V,Cut.V,z,d1',p,f164]
  rw[zf u]at o;by_cases B:YP s=0
  case neg=>
   rw[zc B]at o;have p:J4 l=YP s:=by unfold J4;rw[zc E,o]
   cases n:s.y7
   ·by_cases d:kq s.hi.v=0
    ·by_cases w:0<=wv s.lo s.hi
     ·have W:YP s=8:=by unfold YP;rw[n,zc (by simp),zf d,zf w]
      simp[x,f,g,i,e,b,a,m,qN.V,Cut.V,z,I,K,u,n,d,w,p,W,f164]
     ·exact absurd (by unfold YP;rw[n,zc (by simp),zf d,zc w]) B
    ·have e2':=ZX d;have W:YP s=kq s.hi.v:=by unfold YP;rw[n,zc (by simp),zc d]
     simp[x,f,g,i,e,b,a,m,qN.V,Cut.V,z,I,u,n,e2',p,W,f164]
   ·cases d:J3 s.hi
    ·have W:YP s=3:=by unfold YP;rw[n,zf rfl,d,zc (by simp)]
     simp[x,f,g,i,e,b,a,m,qN.V,Cut.V,z,J,u,n,d,p,W,f164]
    ·exact absurd (by unfold YP;rw[n,zf rfl,d,zf rfl]) B
  rw[zf B]at o;have C:(s.y7=true/\J3 s.hi=true)\/(s.y7=false/\kq s.hi.v=0/\¬0<=wv s.lo s.hi):=by
   unfold YP at B;cases n:s.y7
   ·rw[n,zc (by simp)]at B;by_cases d:kq s.hi.v=0
    ·rw[zf d]at B;by_cases w:0<=wv s.lo s.hi
     ·rw[zf w]at B;omega
     ·exact .inr ⟨rfl,d,w⟩
    ·rw[zc d]at B;exact absurd B d
   ·rw[n,zf rfl]at B;cases d:J3 s.hi
    ·rw[d,zc (by simp)]at B;omega
    ·exact .inl ⟨rfl,rfl⟩
  by_cases k0:k=0
  ·subst k0;have w1:=wX 1;simp only[fR,KM,qI,zO,wx]at o;have F:ur none l=ur (fR l 1) l.tail:=by rw[o,H];simp
   rcases C with⟨n,d⟩|⟨n,d,w⟩
   ·simp[x,f,g,i,e,b,a,m,qN.V,Cut.V,z,J,u,n,d,w1];exact⟨by omega,F⟩
   ·simp[x,f,g,i,e,b,a,m,qN.V,Cut.V,z,I,K,u,n,d,w,w1];exact⟨by omega,F⟩
  ·obtain⟨j,rfl⟩:∃j,k=j+1:=⟨k-1,by omega⟩;have D:j<l.length:=by omega
   have r:j<(z6 l).length:=by omega
   obtain⟨q,hq⟩:=jj (l[j]);have hqq:=S q (by rw[<-hq];exact zk D);have t:=T j r D;rw[hq]at t;have L:i6.wrap ((j:Int)+1-1)=(j:Int):=by rw[wQ (by omega) (by omega)];omega
   have A:=wX (j:Int);have M:((j:Int)+1).toNat=j+1:=by omega
   have N:0<(j:Int)+1:=by omega
   have P:0<=(j:Int)+1:=by omega
   have Q:(j:Int)+1<l.length:=by omega
   have wk:=wX ((j:Int)+1+1);have hpj:fR l (j+1)=some q:=by simp[fR,D,hq]
   have X:=fun Y Z=>Wr q.hi s.lo Y Z hqq.2 y.1
   simp only[Cut.V]at X;rw[hpj]at o;cases G:q.y7
   ·by_cases o2:0<=wv q.hi s.lo
    ·have ho:KM (some q) s=true:=by simp[KM,o2]
     rw[ho,zf rfl]at o;have p:J4 l=8:=by unfold J4;rw[zc E,o]
     rcases C with⟨n,d⟩|⟨n,d,w⟩
     ·simp[x,f,g,i,e,b,a,m,D,r,t,qN.V,Cut.V,z,J,X,u,n,d,G,o2,L,A,M,N,P,Q,p,f164]
     ·simp[x,f,g,i,e,b,a,m,D,r,t,qN.V,Cut.V,z,I,K,X,u,n,d,w,G,o2,L,A,M,N,P,Q,p,f164]
    ·have ho:KM (some q) s=false:=by simp[KM,G];omega
     rw[ho,zc (by simp)]at o;rcases C with⟨n,d⟩|⟨n,d,w⟩
     ·simp[x,f,g,i,e,b,a,m,D,r,t,qN.V,Cut.V,z,J,X,u,n,d,G,o2,L,A,M,N,P,Q,wk];exact⟨by omega,by rw[o,H]⟩
     ·simp[x,f,g,i,e,b,a,m,D,r,t,qN.V,Cut.V,z,I,K,X,u,n,d,w,G,o2,L,A,M,N,P,Q,wk];exact⟨by omega,by rw[o,H]⟩
   ·have ho:KM (some q) s=true:=by simp[KM,G]
    rw[ho,zf rfl]at o;have p:J4 l=8:=by unfold J4;rw[zc E,o]
    rcases C with⟨n,d⟩|⟨n,d,w⟩
    ·simp[x,f,g,i,e,b,a,m,D,r,t,qN.V,Cut.V,z,J,u,n,d,G,L,A,M,N,P,Q,p,f164]
    ·simp[x,f,g,i,e,b,a,m,D,r,t,qN.V,Cut.V,z,I,K,u,n,d,w,G,L,A,M,N,P,Q,p,f164]
 ·obtain rfl:k=l.length:=by omega
  rw[zq]at o;have p:J4 l=0:=by unfold J4;rw[zc E,o];rfl
  simp[x,f,g,i,p,f164]
noncomputable def FRs (f:List qN->O):zb->Option O:=qu (α:=List qN) (fun l=>[.sl 11 (z6 l)]) yK f
theorem OH(f:List qN->O)(l:List qN)(Y:Hp)(Z:Nat)(h:yK l)(c:(f l).flat=true):zi false [] (FRs f) [.sl 11 (z6 l)] Y Z=some (f l,Y,Z):=
 Js l _ _ rfl (fun a b e=>by
  simp only[zl,zM]at e;injection e with _ e
  exact xd e) h (.inl c)
theorem eN:zg prog 164 (zi false [] (FRs fun l=>int (J4 l))):=
 yj (fn:=f164) To Lc false [] _ fun args r h=>by obtain⟨l,rfl,a,rfl⟩:=zK h;exact⟨zE (ze 1) (by decide),_,hU l a,qq _⟩
noncomputable abbrev Cwt1:Ctx:=zW prog [(167,zi false [] (FVC fun v c=>q8 (mW v c)))]
noncomputable abbrev OI:AM.Spec:=yz Cwt1 f166
theorem Ld:zg prog 166 OI:=kM (qc mixed ⟨uq,trivial⟩:AM.Good Cwt1 _) func166
def OJ(v:wN):kn:=⟨148,4,false,[v.V]⟩
theorem Tp(v:wN)(s:qN)(f:v.small)(i:s.lo.v.small)(j:s.hi.v.small)(Y:Hp)(Z id:Nat)(hid:id<Z)(a:Y id=some (OJ v)):OI [.agg s.V,.ref id 0 0] Y Z=some (q8 (inS v s),qt Y Z (some ⟨176,11,false,[s.V]⟩),Z+1):=by
 unfold OI yz;rw[zf (by simp[f166])];refine y0 rfl ?_;have b:=fun Y Z=>Cv (fun v c=>q8 (mW v c)) v s.lo Y Z f i rfl
 have g:=fun Y Z=>Cv (fun v c=>q8 (mW v c)) v s.hi Y Z f j rfl
 have d:¬id=Z:=by omega
 simp only[OJ,wN.V]at a;simp only[Cut.V,wN.V]at b g;cases e:mW v s.lo
 ·simp[qN.V,Cut.V,a,d,b,e,inS,f166]
 ·cases h:s.y7
  ·simp[qN.V,Cut.V,a,d,b,g,e,h,inS,f166]
  ·simp[qN.V,Cut.V,a,d,b,e,h,inS,f166]
noncomputable def uu (v:wN) (l:List qN):Bool×Int:=if kq v=0 then(if J4 l=0 then(l.any (inS v),0)else(false,J4 l))else(false,kq v)
noncomputable def Cx (v:wN) (l:List qN):O:=.wq [q8 (uu v l).1,int (uu v l).2]
noncomputable def FVR (f:wN->List qN->O):zb->Option O:=qu (α:=wN×List qN) (fun a=>[.agg a.1.V,.sl 11 (z6 a.2)]) (fun a=>a.1.small/\yK a.2) (fun a=>f a.1 a.2)
theorem OK(f:wN->List qN->O)(v:wN)(l:List qN)(Y:Hp)(Z:Nat)(h:v.small)(d:yK l)(g:(f v l).flat=true):zi false [] (FVR f) [.agg v.V,.sl 11 (z6 l)] Y Z=some (f v l,Y,Z):=
 Js (v,l) _ _ (by simp[wN.V]) (fun a b e=>by obtain⟨j,k⟩:=a;obtain⟨m,n⟩:=b;simp only[zl,zM,O.agg.injEq]at e;obtain⟨i,c⟩:=e;injection c with _ c;rw[Wo i,xd c]) ⟨h,d⟩ (.inl g)
noncomputable abbrev TAwt:Qf:=[(166,OI)]
noncomputable abbrev Cwth:Ctx:=zW prog [(163,qA [.g kp] (RZ fun v=>int (kq v))),(164,zi false [] (FRs fun l=>int (J4 l))),(165,Hj TAwt)]
theorem Cy(v:wN)(l:List qN)(k:v.small)(c:yK l):zt Cwth f132 [.agg v.V,.sl 11 (z6 l)]=some (Cx v l):=by
 refine zn rfl ?_;have d:=fun Y Z=>mX v Y Z k
 have m:=fun Y Z=>OH (fun l=>int (J4 l)) l Y Z c rfl
 obtain⟨r,Y',o,e,rfl,_,_,_⟩:=OE (U:=Unit) (T:=fun _=>False) (Rep:=fun _ Y=>Y 0=some (OJ v)) (step:=fun _ s=>(inS v s,())) (Ta:=TAwt) (g:=166) (sp:=OI) (fi:=[]) (cap:=[.ref 0 0 0]) (Z0:=1) (by simp) l c.1
  (fun _ s Y Z hs p n=>⟨_,_,_,Tp v s k (c.2 s hs).1 (c.2 s hs).2 Y Z 0 (by omega) n,rfl,(zm _ _ _ _ (by omega)).trans n,by omega,fun j q _=>zm _ _ _ _ (by omega)⟩) () (qt (fun _=>none) 0 (some (OJ v))) 1 (ze _) (by simp)
 rw[XV]at e;simp only[OJ,wN.V]at e;rw[show l.map qN.V=z6 l from rfl]at e;simp only[wN.V]at d;by_cases a:kq v=0
 case neg=>
  have h:=ZX a;have b:uu v l=(false,kq v):=by unfold uu;rw[zc a]
  simp[wN.V,d,h,Cx,b,wc,f132]
 by_cases f:J4 l=0
 case neg=>
  have i:=ZX f;have b:uu v l=(false,J4 l):=by unfold uu;rw[zf a,zc f]
  simp[wN.V,d,a,m,i,Cx,b,wc,f132]
 have b:uu v l=(l.any (inS v),0):=by unfold uu;rw[zf a,zf f]
 simp[wN.V,d,a,m,f,e,Cx,b,wc,f132]
theorem pd:zg prog 132 (zi false [] (FVR Cx)):=
 Z2 (qc mixed ⟨ZQ,eN,FG ⟨Ld,by simp,trivial⟩,trivial⟩:AM.Good Cwth _) func132 false [] fun⟨v,l⟩ ⟨a,b⟩=>⟨by simp[f132],_,Cy v l a b,qq _⟩
end Go.Q
namespace Go.LikeLaw
inductive Lk:List UInt8->List UInt8->Prop
 |nil:Lk [] []
 |RF {t p:List UInt8}:Lk t p->Lk t (42::p)
 |RG {c:UInt8} {t p:List UInt8}:Lk t (42::p)->Lk (c::t) (42::p)
 |one {c q:UInt8} {t p:List UInt8}:q≠42->(q=63\/q=c)->Lk t p->Lk (c::t) (q::p)
theorem XA{t p:za}:Lk t (42::p)↔∃a b,t=a++b/\Lk b p:=by
 constructor
 ·intro h;generalize d:(42::p:za)=q at h
  induction h with
  |nil=>cases d
  |RF h _=>cases d;exact⟨[],_,rfl,h⟩
  | @RG c t i h e=>obtain⟨a,b,rfl,g⟩:=e d;exact⟨c::a,b,rfl,g⟩
  |one f _ _=>cases d;exact absurd rfl f
 ·rintro⟨a,b,rfl,h⟩
  induction a with
  |nil=>exact .RF h
  |cons c a e=>exact .RG e
theorem iJ{c q:UInt8}{t p:za}(a:q≠42):Lk (c::t) (q::p)↔(q=63\/q=c)/\Lk t p:=by
 constructor
 ·intro h;cases h with
  |RF=>exact absurd rfl a
  |RG=>exact absurd rfl a
  |one _ b d=>exact⟨b,d⟩
 ·rintro⟨b,d⟩;exact .one a b d
theorem mY{q:UInt8}{p:za}(a:q≠42):¬Lk [] (q::p):=by intro h;cases h;exact a rfl
theorem Tq{p:za}:Lk [] p↔∀q∈p,q=42:=by
 induction p with
 |nil=>simp[Lk.nil]
 |cons q p b=>
  by_cases a:q=42
  ·subst a;rw[XA];constructor
   ·rintro⟨e,f,h,c⟩;obtain⟨_,rfl⟩:=List.append_eq_nil_iff.1 h.symm;simpa using b.1 c
   ·intro h;exact⟨[],[],rfl,b.2 fun x d=>h x (by simp[d])⟩
  ·constructor
   ·intro h;exact absurd h (mY a)
   ·intro h;exact absurd (h q (by simp)) a
theorem split{k:za}:∀{g t:za},Lk t (g++k)->∃d e,t=d++e/\Lk d g/\Lk e k
 |[],t,h=>⟨[],t,rfl,.nil,h⟩
 |q::g,t,h=>by
  by_cases f:q=42
  ·subst f;obtain⟨a,b,rfl,l⟩:=XA.1 h;obtain⟨d,e,rfl,i,j⟩:=split l;exact⟨a++d,e,by simp,XA.2 ⟨a,d,rfl,i⟩,j⟩
  ·cases t with
   |nil=>exact absurd h (mY f)
   |cons c t=>obtain⟨a,b⟩:=(iJ f).1 h;obtain⟨d,e,rfl,i,j⟩:=split b;exact⟨c::d,e,rfl,.one f a i,j⟩
theorem Wj{s:za}(hs:∀q∈s,q≠42){p:za}:∀{t:za},Lk t (s++p)->s.length<=t.length/\Lk (t.drop s.length) p:=by
 induction s with
 |nil=>intro t h;exact⟨by simp,h⟩
 |cons q s d=>
  intro t h;have a:q≠42:=hs q (by simp);cases t with
  |nil=>exact absurd h (mY a)
  |cons c t=>obtain⟨_,b⟩:=(iJ a).1 h;obtain⟨g,e⟩:=d (fun x f=>hs x (by simp[f])) b;exact⟨by simp;omega,by simpa using e⟩
structure Inv (t p:List UInt8) (star:Int) (fr i k:Nat):Prop where
 hi:i<=t.length
 hk:k<=p.length
 none_:star<0->star=-1/\(Lk t p↔Lk (t.drop i) (p.drop k))
 some_:0<=star->∃s,p.drop (star.toNat+1)=s++p.drop k/\star.toNat+1+s.length=k/\fr+s.length=i/\(∀q∈s,q≠42) /\
  (∀r,Lk (t.drop i) r->Lk (t.drop fr) (s++r))/\(Lk t p↔∃f,fr<=f/\f<=t.length/\Lk (t.drop f) (p.drop (star.toNat+1)))
theorem Inv.start(t p:za):Inv t p (-1) 0 0 0:=⟨by simp,by simp,fun _=>⟨rfl,by simp⟩,fun h=>by omega⟩
theorem J5{l:za}{k:Nat}(h:k<l.length):l.drop k=l[k]::l.drop (k+1):=zh h
theorem Inv.zcF{t p:za}{a:Int}{l i k:Nat}(h:Inv t p a l i k)(o:k<p.length)(q:p[k]=42):Inv t p k i i (k+1):=by
 have hd:=J5 o;rw[q]at hd;have b:Lk (t.drop i) (p.drop k)↔∃f,i<=f/\f<=t.length/\Lk (t.drop f) (p.drop (k+1)):=by
  rw[hd,XA];constructor
  ·rintro⟨c,g,e,d⟩;have u:c.length+g.length=t.length-i:=by have:=zu List.length e;simp at this;omega
   refine⟨i+c.length,by omega,by have:=h.hi;omega,?_⟩;rw[<-dF,e];simpa using d
  ·rintro⟨f,D,d,v⟩;refine⟨(t.drop i).take (f-i),t.drop f,?_,v⟩;rw[show t.drop f=(t.drop i).drop (f-i) by rw[dF];congr 1;omega];exact(vO _ _).symm
 refine⟨h.hi,by omega,fun E=>by omega,fun _=>⟨[],by simp,by simp,by simp,by simp,fun r w=>by simpa using w,?_⟩⟩;have x:(k:Int).toNat=k:=by simp
 rw[x];by_cases hs:a<0
 ·rw[(h.none_ hs).2,b]
 ·obtain⟨s,m,F,G,y,z,A⟩:=h.some_ (by omega);rw[A];constructor
  ·rintro⟨f,H,I,n⟩;rw[m]at n;obtain⟨B,j⟩:=Wj y n;rw[dF]at j;simp at B;rw[hd,XA]at j;obtain⟨c,g,e,d⟩:=j;have u:c.length+g.length=t.length-(f+s.length):=by have:=zu List.length e;simp at this;omega
   refine⟨f+s.length+c.length,by omega,by omega,?_⟩;rw[<-dF,e];simpa using d
  ·rintro C;exact⟨l,ze _,by have:=h.hi;omega,by rw[m];exact z _ (b.2 C)⟩
theorem Inv.fit{t p:za}{a:Int}{d i k:Nat}(h:Inv t p a d i k)(hi:i<t.length)(g:k<p.length)(b:p[k]≠42)(e:p[k]=63\/p[k]=t[i]):Inv t p a d (i+1) (k+1):=by
 have hd:=J5 g;have f:=J5 hi;refine⟨by omega,by omega,fun hs=>⟨(h.none_ hs).1,?_⟩,fun hs=>?_⟩
 ·rw[(h.none_ hs).2,hd,f,iJ b];exact⟨fun h=>h.2,fun h=>⟨e,h⟩⟩
 ·obtain⟨s,j,u,v,l,m,n⟩:=h.some_ hs;refine⟨s++[p[k]],by rw[j,hd];simp,by simp;omega,by simp;omega,?_,?_,n⟩
  ·intro q c;rcases zF.1 c with h|h
   ·exact l q h
   ·simp at h;rw[h];exact b
  ·intro r o;rw[qT];refine m _ ?_;rw[f];exact .one b e o
theorem zfa{t p:za}{i k:Nat}(hi:i<t.length)(h:k<p.length->∀d:k<p.length,p[k]≠42/\¬(p[k]=63\/p[k]=t[i])):¬Lk (t.drop i) (p.drop k):=by
 intro c;rw[J5 hi]at c;by_cases d:k<p.length
 ·rw[J5 d]at c;obtain⟨a,b⟩:=h d d;exact b ((iJ a).1 c).1
 ·rw[@UN _ p _ (by omega)]at c;cases c
theorem Inv.none{t p:za}{a:Int}{b i k:Nat}(h:Inv t p a b i k)(hs:a<0)(c:¬Lk (t.drop i) (p.drop k)):¬Lk t p:=by rw[(h.none_ hs).2];exact c
theorem Inv.back{t p:za}{a:Int}{c i k:Nat}(h:Inv t p a c i k)(hi:i<t.length)(hs:0<=a)(g:¬Lk (t.drop i) (p.drop k)):Inv t p a (c+1) (c+1) (a.toNat+1):=by
 obtain⟨s,j,v,l,m,w,n⟩:=h.some_ hs;have x:=h.hk;refine⟨by omega,by omega,fun h=>by omega,fun _=>⟨[],by simp,by simp,by simp,by simp,fun r o=>by simpa using o,?_⟩⟩;rw[n];constructor
 ·rintro⟨f,q,d,b⟩;by_cases u:f=c
  ·subst u;rw[j]at b;obtain⟨y,e⟩:=Wj m b;rw[dF,l]at e;exact absurd e g
  ·exact⟨f,by omega,d,b⟩
 ·rintro⟨f,q,d,b⟩;exact⟨f,by omega,d,b⟩
theorem Inv.done{t p:za}{a:Int}{b i k:Nat}(h:Inv t p a b i k)(hi:i=t.length):Lk t p↔∀q∈p.drop k,q=42:=by
 have e:t.drop i=[]:=UN (by omega);rw[<-Tq];by_cases hs:a<0
 ·rw[(h.none_ hs).2,e]
 ·obtain⟨s,c,r,u,d,g,j⟩:=h.some_ (by omega);rw[j,c];constructor
  ·rintro⟨f,v,w,l⟩;obtain⟨m,n⟩:=Wj d l;simp at m;rwa [dF,UN (by omega)]at n
  ·intro o;exact⟨b,ze _,by omega,g _ (by rw[e];exact o)⟩
def pg(n m:Nat)(a:Int)(b i:Nat):Nat:=((m:Int)-a).toNat*((n+2)*(n+2))+(n-b)*(n+2)+(n-i)
end Go.LikeLaw
namespace Go.Q
open Go.RowKit Go.AM Go.LikeLaw
theorem zb6(l:za):l.dropWhile (·==42)=[]↔∀q∈l,q=42:=by
 induction l with
 |nil=>simp
 |cons x l b=>
  by_cases a:x=42
  ·simp[a,b]
  ·simp[a]
theorem Le(l:za):Lib.trimB l 42=[]↔∀q∈l,q=42:=by
 unfold Lib.trimB Lib.trimLeftB Lib.trimRightB;rw[zb6];constructor
 ·intro h;have a:∀m:za,(∀q∈m.dropWhile (·==42),q=42)->∀q∈m,q=42:=by
   intro m
   induction m with
   |nil=>simp
   |cons x m f=>
    by_cases b:x=42
    ·subst b;simp only[List.dropWhile_cons,beq_self_eq_true,qI];intro c q hq;rcases zv.1 hq with rfl|hq
     ·rfl
     ·exact f c q hq
    ·have d:(x==42)=false:=by simpa using b
     simp only[List.dropWhile_cons,d,zO,wx];intro c;exact absurd (c x (by simp)) b
  intro q hq;exact a l.reverse (fun q hq=>h q (by simpa using hq)) q (by simpa using hq)
 ·intro h q hq;have e:=List.mem_reverse.1 hq;exact h q (List.mem_reverse.1 ((List.dropWhile_sublist _).mem e))
noncomputable abbrev Clk:Ctx:=zW prog [(160,zi false [] (Qg tbP fun _ b=>lT b))]
theorem zb7:AM.Good Clk (fun g=>[160].contains g):=qx mixed ⟨fE,fun _=>zr _ _,trivial⟩
theorem Cz(a:za)(Y:Hp)(Z:Nat)(h:a.length<=zx):zi false [] (Qg tbP fun _ b=>lT b) [str a,str [42]] Y Z=some (str (Lib.trimB a 42),Y,Z):=ko _ _ a [42] Y Z h (by decide) ⟨42,rfl,by decide⟩ rfl
theorem Lf{n m:Nat}{a:Int}{b i k:Nat}(e:a<k)(f:k<m):pg n m k i i<pg n m a b i:=by
 unfold pg;obtain⟨d,hd⟩:∃d:Nat,((m:Int)-a).toNat=((m:Int)-(k:Int)).toNat+1+d:=⟨((m:Int)-a).toNat-((m:Int)-(k:Int)).toNat-1,by omega⟩;have c:(((m:Int)-(k:Int)).toNat+1+d)*((n+2)*(n+2))=((m:Int)-(k:Int)).toNat*((n+2)*(n+2))+(n+2)*(n+2)+d*((n+2)*(n+2)):=by rw[qK (_+1) d,qK _ 1,zfG]
 rw[hd,c];have g:(n-i)*(n+2)<=n*(n+2):=zP _ (by omega);have h:(n+2)*(n+2)=n*(n+2)+2*(n+2):=by rw[qK]
 omega
theorem se{n m:Nat}{a:Int}{b i:Nat}(d:b<=i)(e:i<n):pg n m a (b+1) (b+1)<pg n m a b i:=by
 unfold pg;have:n-b=(n-(b+1))+1:=by omega
 have c:(n-(b+1)+1)*(n+2)=(n-(b+1))*(n+2)+(n+2):=by rw[qK _ 1,zfG]
 rw[this,c];omega
theorem CA{n m:Nat}{a:Int}{b i:Nat}(c:i<n):pg n m a b (i+1)<pg n m a b i:=by unfold pg;omega
open Classical in
noncomputable def df (t p:za):Bool:=decide (Lk t p)
theorem CB{t p:za}(h:¬Lk t p):df t p=false:=by simp[df,h]
structure LInv (t p:List UInt8) (star:Int) (fr i k:Nat):Prop extends LikeLaw.Inv t p star fr i k where
 s0:-1<=star
 s1:star<k
 f1:fr<=i
theorem Lg(t p:za)(K:t.length<=zx)(Y:p.length<=zx):zt Clk f130 [str t,str p]=some (q8 (df t p)):=by
 have z:=Cz;refine zn rfl ?_;simp;refine Wm (fun st=>∃(a:Int) (d i k:Nat),st.U 0=str t/\st.U 1=str p/\st.U 5=int a/\st.U 6=int d/\st.U 7=int i/\st.U 8=int k/\LInv t p a d i k)
  (fun st=>pg t.length p.length (Vh (st.U 5)) (Vh (st.U 6)).toNat (Vh (st.U 7)).toNat) ⟨-1,0,0,0,by simp,by simp,by simp,by simp,by simp,by simp,LikeLaw.Inv.start t p,by omega,by omega,by omega⟩ ?_
 rintro⟨U,Y,Z⟩ ⟨a,d,i,k,f,g,j,l,m,n,e⟩;simp only at f g j l m n;have A:=e.hk;have H:=e.hi;have L:=e.s0;have M:=e.s1;have G:=e.f1;unfold zx at *;by_cases hi:i<t.length
 ·have u:(∀A:k<p.length,p[k]≠42/\¬(p[k]=63\/p[k]=t[i]))->¬Lk (t.drop i) (p.drop k):=fun h=>zfa hi fun _=>h
  have v:(∀A:k<p.length,p[k]≠42/\¬(p[k]=63\/p[k]=t[i]))->(a<0->df t p=false)/\(0<=a->LInv t p a (d+1) (d+1) (a.toNat+1)):=fun h=>
   ⟨fun hs=>CB (e.none hs (u h)),fun hs=>⟨e.back hi hs (u h),by omega,by omega,by omega⟩⟩
  have s:i6.wrap ((d:Int)+1)=((d+1:Nat):Int):=by rw[wQ (by omega) (by omega)];omega
  have w:i6.wrap ((i:Int)+1)=((i+1:Nat):Int):=by rw[wQ (by omega) (by omega)];omega
  have B:i6.wrap ((k:Int)+1)=((k+1:Nat):Int):=by rw[wQ (by omega) (by omega)];omega
  by_cases b:k<p.length
  ·by_cases hs:p[k]=42
   ·simp[f,g,j,l,m,n,hi,b,hs];exact⟨⟨i,rfl,i,rfl,k+1,B,e.zcF b hs,by omega,by omega,by omega⟩,Lf e.s1 b⟩
   ·have q:((p[k].toNat:Int)==42)=false:=by rw[show(42:Int)=((42:UInt8).toNat:Int)from rfl,GU];simpa using hs
    by_cases x:p[k]=63
    ·simp[f,g,j,l,m,n,hi,b,x];exact⟨⟨d,rfl,i+1,w,k+1,B,e.fit hi b hs (.inl x),by omega,by omega,by omega⟩,by rw[w];exact CA hi⟩
    ·have r:((p[k].toNat:Int)==63)=false:=by rw[show(63:Int)=((63:UInt8).toNat:Int)from rfl,GU];simpa using x
     by_cases y:p[k]=t[i]
     ·have o:((p[k].toNat:Int)==(t[i].toNat:Int))=true:=by rw[GU];simp[y]
      simp[f,g,j,l,m,n,hi,b,q,r,o];exact⟨⟨d,rfl,i+1,w,k+1,B,e.fit hi b hs (.inr y),by omega,by omega,by omega⟩,by rw[w];exact CA hi⟩
     ·have o:((p[k].toNat:Int)==(t[i].toNat:Int))=false:=by rw[GU];simp[y]
      obtain⟨C,D⟩:=v fun _=>⟨hs,by simp[x,y]⟩
      by_cases c:0<=a
      ·have E:i6.wrap (a+1)=((a.toNat+1:Nat):Int):=by rw[wQ (by omega) (by omega)];omega
       simp[f,g,j,l,m,n,hi,b,q,r,o,c];exact⟨⟨d+1,s,d+1,s,a.toNat+1,E,D c⟩,by rw[s];exact se G hi⟩
      ·simp[f,g,j,l,m,n,hi,b,q,r,o,c,f130,C (by omega)]
  ·obtain⟨C,D⟩:=v fun h=>absurd h b
   by_cases c:0<=a
   ·have E:i6.wrap (a+1)=((a.toNat+1:Nat):Int):=by rw[wQ (by omega) (by omega)];omega
    simp[f,g,j,l,m,n,hi,b,c];exact⟨⟨d+1,s,d+1,s,a.toNat+1,E,D c⟩,by rw[s];exact se G hi⟩
   ·simp[f,g,j,l,m,n,hi,b,c,f130,C (by omega)]
 ·have hd:=e.done (by omega);have I:(p.drop k).length<=zx:=by simp[zx];omega
  have J:(Lib.trimB (p.drop k) 42).isEmpty=df t p:=by rw[qv];simp only[List.isEmpty_iff,Le,df,qi,hd]
  have F:((p.drop k).take (p.length-k))=p.drop k:=qe (by simp);simp[f,g,j,l,m,n,hi,A,F,J,z (p.drop k) Y Z I,f130]
noncomputable def likP (a b:za):O:=q8 (df a b)
theorem FH:zg prog 130 (zi false [] (Qg likP fun _ _=>True)):=
 yj (fn:=f130) zb7 (qE func130) false [] _ fun args r h=>by obtain⟨a,b,rfl,c,d,_,rfl⟩:=kB h;exact⟨by simp[f130],_,Lg a b c d,qq _⟩
end Go.Q
namespace Go.Q
theorem mZ:∀(b:List (List xN)) (o r:List qN),(∀a∈b,∀c∈a,c.vS)->yX o->Vk b o=some r->yX r
 |[],o,r,_,d,h=>by simp only[Vk]at h;injection h with h;subst h;exact d
 |l::b,o,r,e,d,h=>by
  simp only[Vk]at h;split at h
  ·rename_i m f;have g:yX [w5 qR]:=(Z5 kS).2;exact mZ b _ r (fun a i=>e a (by simp[i])) (kx or d (mC l _ m (e l (by simp)) g f).1) h
  ·cases h
theorem ph(t:za):yK (xe t).1:=by
 have b:yK []:=⟨by simp,fun s hs=>by cases hs⟩;unfold xe;split
 ·exact b
 rename_i e;split
 ·exact b
 rename_i f d;split
 ·exact b
 rename_i o h;split
 ·exact b
 rename_i g;have i:=(mD _ f t.length (fun s hs=>vf hs) d).1;exact yX.small (mZ f [] o (fun a j c k=>(i a j).1 c k) (fun s hs=>by cases hs) h) (show o.length<=zx by unfold zx;omega)
theorem FJ{v:wN}(h:kq v=0):v.small:=by
 unfold kq at h;split at h
 case isFalse=>omega
 split at h
 ·omega
 rename_i c;split at h
 ·omega
 rename_i a;refine⟨by unfold zx;omega,fun p Y=>?_⟩;have:¬w9 p=true:=fun b=>a (jS.2 ⟨p,Y,b⟩)
 unfold w9 at this;simp only[qF,qi,not_or]at this;unfold zx;omega
theorem Lh{t:za}{v:wN}(h:l4 t=some v):kq v=0/\v.small:=by
 have a:kq v=0:=by
  unfold l4 at h;split at h
  ·split at h
   ·split at h
    ·rename_i b;injection h with h
     rw[<-h];exact b
    ·cases h
   ·cases h
  ·cases h
 exact⟨a,FJ a⟩
noncomputable def V8 (l:List zZ) (v:zZ) (k:Nat):Bool:=match l[k]? with
 |some x=>decide (qQ x v<0)
 |none=>false
noncomputable def sf (l:List zZ) (v:zZ):Nat×Bool:=(Zv (V8 l v) 0 l.length,match l[Zv (V8 l v) 0 l.length]? with
 |some x=>qQ x v==0
 |none=>false)
noncomputable def FLv (f:List zZ->zZ->O) (b:zb):zb->Option O:=qu (α:=List zZ×zZ) (fun a=>.sl 5 (a.1.map zZ.V)::.agg a.2.V::b) (fun a=>JI a.1<=zx/\a.2.vb<=zx) (fun a=>f a.1 a.2)
theorem OL{d:zb}:∀a b:List zZ×zZ,O.sl 5 (a.1.map zZ.V)::.agg a.2.V::d=O.sl 5 (b.1.map zZ.V)::.agg b.2.V::d->a=b:=by rintro⟨g,h⟩ ⟨i,j⟩ e;simp only[zl,zM,O.agg.injEq]at e;obtain⟨c,f⟩:=e;injection c with _ c;rw[BJ c,Qs f]
noncomputable def lvT (l:List zZ) (v:zZ):O:=.wq [int (sf l v).1,q8 (sf l v).2]
def CC:O:=.fn (.func 105) [] []
theorem OM(l:List zZ)(v:zZ)(Y:Hp)(Z:Nat)(h:JI l<=zx)(a:v.vb<=zx):zi false [] (FLv lvT [CC]) [.sl 5 (l.map zZ.V),.agg v.V,CC] Y Z=some (lvT l v,Y,Z):=
 Js (l,v) _ _ (by simp[vJ v,CC]) OL ⟨h,a⟩ (.inl rfl)
theorem Hl(l:List zZ)(v:zZ)(Y:Hp)(Z:Nat)(h:JI l<=zx)(a:v.vb<=zx):zi false [] (FLv (fun l v=>q8 (sf l v).2) []) [.sl 5 (l.map zZ.V),.agg v.V] Y Z=some (q8 (sf l v).2,Y,Z):=
 Js (l,v) _ _ (by simp[vJ v]) OL ⟨h,a⟩ (.inl rfl)
noncomputable abbrev Cbsv:Ctx:=zW prog [(105,zi false [] (R0 zx))]
theorem Tr:AM.Good Cbsv (fun g=>[105].contains g):=qx mixed ⟨VW zx,fun _=>zr _ _,trivial⟩
theorem ON(l:List zZ)(v:zZ)(y:JI l<=zx)(z:v.vb<=zx):zt Cbsv f125 [.sl 5 (l.map zZ.V),.agg v.V,CC]=some (lvT l v):=by
 have G:=yE l;unfold zx at y z;refine zn rfl ?_;simp[CC];refine Wm (fun st=>st.U 0=.sl 5 (l.map zZ.V)/\st.U 2=.fn (.func 105) [] []/\st.U 4=.ref 0 0 0/\st.U 8=int l.length/\st.Y 0=some ⟨52,5,false,[v.V]⟩/\∃lo hi:Nat,lo<=hi/\hi<=l.length/\st.U 9=int lo/\st.U 10=int hi/\Zv (V8 l v) 0 l.length=Zv (V8 l v) lo hi)
  (fun st=>(Vh (st.U 10)).toNat-(Vh (st.U 9)).toNat) ⟨by simp,by simp,by simp,by simp,by simp,0,l.length,by simp,by simp,by simp,by simp,rfl⟩ ?_
 rintro⟨U,Y,Z⟩ ⟨i,j,n,o,p,lo,hi,A,t,q,c,f⟩;simp only at i j n o q c p;have d:=fun(k:Nat) (w:k<l.length) Y Z=>YC zx l[k] v Y Z ⟨by have:=js (zk w);unfold zx;omega,by have:=js (zk w);unfold zx;omega,by unfold zx;omega⟩
 by_cases b:lo<hi
 ·have x:=wX ((lo:Int)+hi);have B:(lo+hi)/2<l.length:=by omega
  obtain⟨m,C⟩:∃m,m=(lo+hi)/2:=⟨_,rfl⟩;have g:i6.wrap ((IntKind.u64.wrap ((lo:Int)+hi)).fdiv (2 ^ min 1 IntKind.u64.bits))=(m:Int):=by
   have D:IntKind.u64.wrap ((lo:Int)+hi)=(lo:Int)+hi:=by rw[IntKind.wrap_u64];omega
   have E:(2 ^ min 1 IntKind.u64.bits:Int)=2:=by decide
   rw[D,E,DX _ (by omega),wQ (by omega) (by omega)];omega
  have a:m<l.length:=by omega
  have F:=qH m;have u:V8 l v m=decide (qQ l[m] v<0):=by simp[V8,a]
  rw[XU (lo:=lo) b,<-C,u]at f;have e:=d m a;by_cases s:qQ l[m] v<0
  ·simp only[s,decide_true,qI]at f;simp[i,j,n,o,q,c,p,b,x,g,a,e,s,F];exact⟨⟨m+1,hi,by omega,t,by omega,rfl,f⟩,by omega⟩
  ·simp only[s,decide_false,zO,wx]at f;simp[i,j,n,o,q,c,p,b,x,g,a,e,s];exact⟨⟨lo,m,by omega,by omega,rfl,rfl,f⟩,by omega⟩
 ·have f:Zv (V8 l v) 0 l.length=lo:=by rw[f,c9 (lo:=lo) b]
  unfold lvT sf;rw[f];by_cases h:lo<l.length
  ·have e:=d lo h;simp[i,j,n,o,q,c,p,b,h,e,f125,wc]
  ·have r:l[lo]?=none:=yO (by omega);simp[i,j,n,o,q,c,p,b,h,r,f125,wc]
theorem Li:zg prog 125 (zi false [] (FLv lvT [CC])):=
 Z2 Tr func125 false [] fun⟨l,v⟩ ⟨a,b⟩=>⟨zE (ze 3) (by decide),_,ON l v a b,qq _⟩
noncomputable abbrev Cam:Ctx:=zW prog [(125,zi false [] (FLv lvT [CC]))]
theorem fS:zg prog 93 (zi false [] (FLv (fun l v=>q8 (sf l v).2) [])):=
 Z2 (qc mixed ⟨Li,trivial⟩:AM.Good Cam _) func93 false [] fun⟨l,v⟩ ⟨a,b⟩=>by
  have c:∀Y Z,zi false [] (FLv lvT [CC]) [.sl 5 (l.map zZ.V),.agg v.V,.fn (.func 105) [] []] Y Z=some (.wq [int (sf l v).1,q8 (sf l v).2],Y,Z):=fun Y Z=>OM l v Y Z a b
  exact⟨by simp[f93],_,zn rfl (by simp[c,f93]),qq _⟩
def CD(op n w:Int):Bool:=if op=3 then decide (n<w)else if op=4 then decide (n<=w)else if op=5 then decide (w<n)else decide (w<=n)
noncomputable def FOd:zb->Option O:=qu (α:=Int×Int×Int) (fun a=>[int a.1,int a.2.1,int a.2.2]) (fun _=>True) (fun a=>q8 (CD a.1 a.2.1 a.2.2))
theorem OO(a b c:Int)(Y:Hp)(Z:Nat):zi false [] FOd [int a,int b,int c] Y Z=some (q8 (CD a b c),Y,Z):=
 Js (a,b,c) _ _ rfl (fun x y e=>by obtain⟨d,f,g⟩:=x;obtain⟨h,i,j⟩:=y;simp only[zl,zM]at e;rw[qS e.1,qS e.2.1,qS e.2.2]) trivial (.inl rfl)
theorem pj:zg prog 97 (zi false [] FOd):=
 Z2 jY func97 false [] fun⟨a,b,c⟩ _=>by
  refine⟨by simp[f97],_,zn rfl ?_,qq _⟩;by_cases d:a=3
  ·simp[d,CD,f97]
  have e:=yq d;by_cases f:a=4
  ·simp[f,CD,f97]
  have g:=yq f;by_cases h:a=5
  ·simp[h,CD,f97]
  have i:=yq h;simp[d,e,f,g,h,i,CD,f97]
noncomputable def verF (s p:za):Bool:=match l4 s with
 |none=>false
 |some v=>(uu v (xe p).1).1
noncomputable def na (op:Int) (s p:za):Bool:=if op=7 then p.isPrefixOf s else if op=8 then Lib.hasSuffix s p else if op=9 then Lib.contains s p else if op=10 then df s p else verF s p
noncomputable def FFt:zb->Option O:=qu (α:=Int×za×za) (fun a=>[int a.1,str a.2.1,str a.2.2]) (fun a=>a.2.1.length+1<=zx/\a.2.2.length+1<=zx) (fun a=>q8 (na a.1 a.2.1 a.2.2))
theorem OP(a:Int)(b c:za)(Y:Hp)(Z:Nat)(h:b.length+1<=zx)(d:c.length+1<=zx):zi false [] FFt [int a,str b,str c] Y Z=some (q8 (na a b c),Y,Z):=
 Js (a,b,c) _ _ rfl (fun x y e=>by obtain⟨f,g,i⟩:=x;obtain⟨j,k,l⟩:=y;simp only[zl,zM]at e;rw[qS e.1,wR e.2.1,wR e.2.2]) ⟨h,d⟩ (.inl rfl)
noncomputable abbrev Cfts:Ctx:=zW prog [(127,zi false [] (Qg RY fun _ _=>True)),(128,zi false [] (Qg Tn fun _ _=>True)),(129,zi false [] (Qg ID fun _ _=>True)),(130,zi false [] (Qg likP fun _ _=>True)),(131,zi false [] (Vn AO)),(106,zi false [] (Vn rY)),(132,zi false [] (FVR Cx))]
theorem Lj(a:Int)(b c:za)(h:b.length+1<=zx)(r:c.length+1<=zx):zt Cfts f98 [int a,str b,str c]=some (q8 (na a b c)):=by
 refine zn rfl ?_;have s:=fun Y Z=>cB b c Y Z (by omega) (by omega)
 have t:=fun Y Z=>Hk b c Y Z (by omega) (by omega)
 have u:∀Y Z,zi false [] (Qg ID fun _ _=>True) [str b,str c] Y Z=some (q8 (Lib.contains b c),Y,Z):=fun Y Z=>ko _ _ b c Y Z (by omega) (by omega) trivial rfl
 have m:∀Y Z,zi false [] (Qg likP fun _ _=>True) [str b,str c] Y Z=some (q8 (df b c),Y,Z):=fun Y Z=>ko _ _ b c Y Z (by omega) (by omega) trivial rfl
 have d:=fun Y Z=>vI AO b Y Z h
 have i:=fun Y Z=>vI rY c Y Z r
 by_cases n:a=7
 ·simp[n,s,na,f98]
 have j:=yq n;by_cases o:a=8
 ·simp[o,t,na,f98]
 have k:=yq o;by_cases p:a=9
 ·simp[p,u,na,f98]
 have l:=yq p;by_cases f:a=10
 ·simp[f,m,na,f98]
 have e:=yq f;have w:na a b c=verF b c:=by unfold na;rw[zc n,zc o,zc p,zc f]
 rw[w];unfold verF;cases q:l4 b with
 |none=>simp only[AO,q]at d;simp[j,k,l,e,d,ax,wN.V,f98]
 |some v=>
  have hs:=(Lh q).2;have g:=fun Y Z=>OK Cx v (xe c).1 Y Z hs (ph c) rfl
  simp only[AO,q]at d;simp only[rY]at i;simp only[Cx]at g;simp only[wN.V]at d g;simp[j,k,l,e,d,i,g,f98]
theorem FK:zg prog 98 (zi false [] FFt):=
 Z2 (qc mixed ⟨Vi,hC,VO,FH,Jd,Vl,pd,trivial⟩:AM.Good Cfts _) func98 false [] fun⟨a,b,c⟩ ⟨d,e⟩=>⟨by simp[f98],_,Lj a b c d e,qq _⟩
def Yf(c:zG):kn:=⟨26,7,false,[c.V]⟩
noncomputable abbrev Cps1:Ctx:=zW prog [(93,zi false [] (FLv (fun l v=>q8 (sf l v).2) []))]
noncomputable abbrev OQ:AM.Spec:=yz Cps1 f95
theorem Ll:zg prog 95 OQ:=kM (qc mixed ⟨fS,trivial⟩:AM.Good Cps1 _) func95
theorem Ts(c:zG)(v:zZ)(g:c.cb<=zx)(b:v.vb<=zx)(Y:Hp)(Z id:Nat)(hid:id<Z)(a:Y id=some (Yf c)):OQ [.agg v.V,.ref id 0 0] Y Z=some (q8 (sf c.qZ v).2,qt Y Z (some ⟨52,5,false,[v.V]⟩),Z+1):=by
 have d:=xG c;unfold OQ yz;rw[zf (by simp[f95])];refine y0 rfl ?_;have e:=fun Y Z=>Hl c.qZ v Y Z (by omega) b
 have f:¬id=Z:=by omega
 simp only[Yf]at a;simp[a,f,e,f95]
def OR(l:List zZ):Int:=match l with
 |[]=>0
 |x::_=>x.n
noncomputable def WZ (c:zG) (v:zZ):Bool:=if c.op=1 then true else if c.op=2 then(sf c.qZ v).2 else if c.op=12 then v.kind==4&&v.items.any (fun x=>(sf c.qZ x).2)else if jU c.op=true then v.kind==2&&CD c.op v.n (OR c.qZ)else v.kind==3&&na c.op v.s c.pat
noncomputable def FPs:zb->Option O:=qu (α:=zG×zZ) (fun a=>[.agg a.1.V,.agg a.2.V]) (fun a=>a.1.cb<=zx/\a.2.vb<=zx/\(jU a.1.op=true->0<a.1.qZ.length)) (fun a=>q8 (WZ a.1 a.2))
theorem OS(c:zG)(v:zZ)(Y:Hp)(Z:Nat)(h:c.cb<=zx)(d:v.vb<=zx)(f:jU c.op=true->0<c.qZ.length):zi false [] FPs [.agg c.V,.agg v.V] Y Z=some (q8 (WZ c v),Y,Z):=
 Js (c,v) _ _ (by simp[vJ v,zI]) (fun a b e=>by obtain⟨g,i⟩:=a;obtain⟨j,k⟩:=b;simp only[zl,zM,O.agg.injEq]at e;rw[ka e.1,Qs e.2]) ⟨h,d,f⟩ (.inl rfl)
noncomputable abbrev TAps:Qf:=[(95,OQ)]
noncomputable abbrev Cps:Ctx:=zW prog [(93,zi false [] (FLv (fun l v=>q8 (sf l v).2) [])),(94,Hi TAps),(96,zi false [] (rZ jU)),(97,zi false [] FOd),(98,zi false [] FFt)]
theorem zb8:Gd Cps:=qc mixed ⟨fS,FE ⟨Ll,by simp,trivial⟩,V1,pj,FK,trivial⟩
theorem OT:QU Cps g0F 50 f50:=qE func50
theorem CE(c:zG)(v:zZ)(C:c.cb<=zx)(D:v.vb<=zx)(E:jU c.op=true->0<c.qZ.length):zt Cps f50 [.agg c.V,.agg v.V]=some (q8 (WZ c v)):=by
 have F:=xG c;have G:=xD v;refine zn rfl ?_;have u:zx=268435456:=rfl;by_cases f:c.op=1
 ·have a:WZ c v=true:=by unfold WZ;rw[zf f]
  simp[f,a,f50]
 have b:=yq f;by_cases i:c.op=2
 ·have a:WZ c v=(sf c.qZ v).2:=by unfold WZ;rw[zc f,zf i]
  have o:=fun Y Z=>Hl c.qZ v Y Z (by omega) D
  simp[i,o,a,f50]
 have d:=yq i;by_cases k:c.op=12
 ·have a:WZ c v=(v.kind==4&&v.items.any fun x=>(sf c.qZ x).2):=by unfold WZ;rw[zc f,zc i,zf k]
  have H:=yE v.items;have p:=fun x (m:x∈v.items)=>js m
  obtain⟨r,Y',J,q,rfl,_,_,_⟩:=OD (U:=Unit) (T:=fun _=>False) (Rep:=fun _ Y=>Y 0=some (Yf c)) (step:=fun _ x=>((sf c.qZ x).2,())) (Ta:=TAps) (g:=95) (sp:=OQ) (fi:=[]) (cap:=[.ref 0 0 0]) (Z0:=1) (by simp) v.items (by omega)
   (fun _ x Y Z m K w=>⟨_,_,_,Ts c x C (by have:=p x m;omega) Y Z 0 (by omega) w,rfl,(zm _ _ _ _ (by omega)).trans w,by omega,fun j L _=>zm _ _ _ _ (by omega)⟩) () (qt (qt (fun _=>none) 0 (some (Yf c))) 1 (some ⟨52,5,false,[v.V]⟩)) 2 (by omega) (by simp)
  rw[XV]at q;simp only[Yf]at q;rw[a];cases y:v.kind==4
  ·simp[k,y,f50]
  ·simp[k,y,q,f50]
 have e:=yq k;cases h:jU c.op
 ·have a:WZ c v=(v.kind==3&&na c.op v.s c.pat):=by unfold WZ;rw[zc f,zc i,zc k,h,zc (by simp)]
  have o:=fun Y Z=>OP c.op v.s c.pat Y Z (by omega) (by omega)
  rw[a];cases z:v.kind==3
  ·simp[b,d,e,h,z,f50]
  ·simp[b,d,e,h,z,o,f50]
 ·have a:WZ c v=(v.kind==2&&CD c.op v.n (OR c.qZ)):=by unfold WZ;rw[zc f,zc i,zc k,zf h]
  have A:=E h;obtain⟨x,l,m⟩:∃x l,c.qZ=x::l:=by
   cases t:c.qZ with
   |nil=>rw[t]at A;cases A
   |cons x l=>exact⟨x,l,rfl⟩
  have o:=fun Y Z=>OO c.op v.n x.n Y Z
  rw[a];have I:OR c.qZ=x.n:=by rw[m];rfl
  rw[I];cases B:v.kind==2
  ·simp[b,d,e,h,B,f50]
  ·simp[b,d,e,h,B,m,o,f50]
theorem uv:zg prog 50 (zi false [] FPs):=
 yj (fn:=f50) zb8 OT false [] _ fun args r h=>by obtain⟨⟨c,v⟩,rfl,⟨a,b,d⟩,rfl⟩:=zK h;exact⟨by simp[f50],_,CE c v a b d,qq _⟩
noncomputable def CF (Ta:Qf):AM.Spec:=yz (zW prog Ta) f89
noncomputable def Hm (Ta:Qf):AM.Spec:=yz (zW prog [(89,CF Ta)]) f46
theorem FL{Ta:Qf}(h:cv True prog [] Ta):zg prog 89 (CF Ta):=kM (qx (q:=[]) mixed h) func89
theorem FM{Ta:Qf}(h:cv True prog [] Ta):zg prog 46 (Hm Ta):=kM (qx (q:=[]) (l:=[(89,CF Ta)]) mixed ⟨FL h,by simp,trivial⟩) func46
theorem CG{U:Type}{T:Nat->Prop}{Rep:U->Hp->Prop}{step:U->zG->Bool×U}{Ta:Qf}{g:Nat}{sp:AM.Spec}{fi cap:zb}{Z0:Nat}(y:lookup Ta g=some sp)(xs:List zG)(C:xs.length<=zx)
  (D:∀s x Y Z,x∈xs->Z0<=Z->Rep s Y->∃r Y' b,sp (fi++.agg x.V::cap) Y Z=some (r,Y',b)/\jc T Rep (q8 (step s x).1) (step s x).2 Y Z r Y' b)
  (f:U) (h:Hp) (a:Nat) (N:Z0<=a) (E:Rep f h) :
  ∃r Y' b,Hm Ta [.sl 7 (xs.map zG.V),.fn (.func g) fi cap] h a=some (r,Y',b)/\jc T Rep (q8 (wB step f xs).1) (wB step f xs).2 h a r Y' b:=by
 have p:∃r Y' b,CF Ta [.sl 7 (xs.map zG.V),.fn (.func g) fi cap] h a=some (r,Y',b)/\∃z:Int,r=int z/\decide (0<=z)=(wB step f xs).1/\jc T Rep (int z) (wB step f xs).2 h a r Y' b:=by
  unfold CF yz;rw[zf (by simp[f89])];refine qz rfl ?_;unfold zx at C;simp;refine zT (fun k U Y Z=>U 0=.sl 7 (xs.map zG.V)/\U 1=.fn (.func g) fi cap/\U 7=int xs.length/\U 8=int k/\a<=Z/\(∀j,j<a->¬T j->Y j=h j)/\∃s,Rep s Y/\wB step f xs=wB step s (xs.drop k)) xs.length ⟨by simp,by simp,by simp,by simp,ze _,fun _ _ _=>rfl,f,E,by simp⟩ ?_;rintro k U Y Z P ⟨q,t,u,v,w,l,s,m,e⟩;by_cases c:k<xs.length
  ·have F:=qH k;obtain⟨x,o⟩:=jj (xs[k]);obtain⟨r,Y2,G,i,rfl,A,Q,H⟩:=D s x Y Z (by rw[<-o];exact zk c) (by omega) m;rw[zh c,o]at e;have n:∀j,j<a->¬T j->Y2 j=h j:=fun j I B=>by rw[H j (by omega) B];exact l j I B
   cases d:(step s x).1
   ·rw[Z8 d]at e;rw[d]at i;simp[q,t,u,v,c,o,y,i,F];exact⟨by omega,by omega,n,_,A,e⟩
   ·rw[YO d]at e;rw[d]at i;simp[q,t,u,v,c,o,y,i,e,jc,f89];exact⟨A,by omega,n⟩
  ·obtain rfl:k=xs.length:=by omega
   rw[zq]at e;simp only[wB]at e;simp[q,t,u,v,e,jc,f89];exact⟨m,w,l⟩
 obtain⟨r,Y',b,i,z,rfl,J,_,K,L,M⟩:=p;unfold Hm yz;rw[zf (by simp[f46])];refine qz rfl ?_;simp[i,J,jc,f46];exact⟨K,L,M⟩
def dh(l:List qd):kn:=⟨22,1,false,[[.sl 10 (l.map qd.V)]]⟩
noncomputable abbrev Ckn1:Ctx:=zW prog [(24,zi false [] db)]
noncomputable abbrev OU:AM.Spec:=yz Ckn1 f53
theorem Lm:zg prog 53 OU:=kM (qc mixed ⟨YL,trivial⟩:AM.Good Ckn1 _) func53
theorem Tt(l:List qd)(n:za)(b:l.length<=zx)(Y:Hp)(Z id:Nat)(a:Y id=some (dh l)):OU [str n,.ref id 0 0] Y Z=some (q8 (yx l n),Y,Z):=by
 unfold OU yz;rw[zf (by simp[f53])];refine y0 rfl ?_;have c:=fun Y Z=>YK l n Y Z b
 simp[dh]at a;simp[a,c,yx,f53]
theorem si{f:za->Bool}:∀l:List za,(wB (fun(_:Unit) n=>(!f n,())) () l).1=!(l.all f)
 |[]=>rfl
 |a::l=>by
  cases h:f a
  ·simp[wB,h]
  ·simp[wB,h,si l]
noncomputable def FKn:zb->Option O:=qu (α:=List qd×zG) (fun a=>[.sl 10 (a.1.map qd.V),.agg a.2.V]) (fun a=>a.1.length<=zx/\a.2.cb<=zx) (fun a=>q8 (Qz a.1 a.2))
theorem CH(l:List qd)(c:zG)(Y:Hp)(Z:Nat)(h:l.length<=zx)(d:c.cb<=zx):zi false [] FKn [.sl 10 (l.map qd.V),.agg c.V] Y Z=some (q8 (Qz l c),Y,Z):=
 Js (l,c) _ _ (by simp[zI]) (fun a b e=>by obtain⟨f,g⟩:=a;obtain⟨i,j⟩:=b;simp only[zl,zM,O.agg.injEq]at e;rw[Za e.1,ka e.2]) ⟨h,d⟩ (.inl rfl)
noncomputable abbrev Ckn:Ctx:=zW prog [(40,V6 53 OU zx)]
theorem FN(l:List qd)(c:zG)(e:l.length<=zx)(d:c.cb<=zx):zt Ckn f23 [.sl 10 (l.map qd.V),.agg c.V]=some (q8 (Qz l c)):=by
 refine zn rfl ?_;obtain⟨x,Y',f,a,rfl,_,_,_⟩:=V7 (U:=Unit) (T:=fun _=>False) (Rep:=fun _ Y=>Y 0=some (dh l)) (step:=fun _ n=>(!yx l n,())) (Q:=fun _=>True) (g:=53) (sp:=OU) (cap:=[.ref 0 0 0]) (Z0:=2) (by decide) (fun _ h=>h.elim)
  (fun _ Y j b i h=>by rw[zm _ _ _ _ (by omega)];exact h) (fun _ n Y Z _ _ _ h=>⟨_,Y,Z,Tt l n e Y Z 0 h,by simp,h,ze _,fun _ _ _=>rfl⟩) zx c () (qt (qt (fun _=>none) 0 (some (dh l))) 1 (some ⟨26,7,false,[c.V]⟩)) 2 d d (fun _ _=>trivial) (ze _) (by simp)
 rw[si]at a;simp only[dh,Bool.not_not]at a;simp[a,Qz,wc,f23]
theorem fT:zg prog 23 (zi false [] FKn):=
 Z2 (qc mixed ⟨YN Lm zx,trivial⟩:AM.Good Ckn _) func23 false [] fun⟨l,c⟩ ⟨a,b⟩=>⟨by simp[f23],_,FN l c a b,qq _⟩
def uw(st:List Int):kn:=⟨3,1,true,st.map fun z=>[int z]⟩
noncomputable def OV (sp:AM.Spec):AM.Spec:=yz (zW prog [(24,zi false [] db),(52,sp)]) f102
noncomputable def nb:Nat->AM.Spec
 | 0=>fun _ _ _=>none
 |n+1=>yz (zW prog [(40,V6 102 (OV (nb n)) zx)]) f52
theorem Ln{sp:AM.Spec}(h:zg prog 52 sp):zg prog 102 (OV sp):=
 kM (qx (q:=[]) (l:=[(24,zi false [] db),(52,sp)]) mixed ⟨YL,by simp,h,by simp,trivial⟩) func102
theorem nc:∀n,zg prog 52 (nb n)
 | 0=>YM ⟨_,func52,by kernel_rfl,by kernel_rfl⟩
 |n+1=>kM (qx (q:=[]) (l:=[(40,V6 102 (OV (nb n)) zx)]) mixed ⟨YN (Ln (nc n)) zx,by simp,trivial⟩) func52
theorem sj{S α b:Type}(f:S->b->Bool×S)(m:α->b):∀(s:S) (l:List α),wB (fun s a=>f s (m a)) s l=wB f s (l.map m)
 |_,[]=>rfl
 |s,a::l=>by simp only[wg,wB,sj f m _ l]
theorem Hn(st:List Int)(i:Nat)(v:Int):(st.map fun z=>[int z]).set i [int v]=(st.set i v).map fun z=>[int z]:=by rw[AE]
theorem CI(l:List qd)(hl:Qb l<=zx)(S:∀s∈l,∀n∈s.cond.names,yx l n=true)(ids:Nat):∀(n:Nat) (st:List Int) (i:Nat) (Y:Hp) (Z:Nat),Zt st<n->st.length=l.length->i<l.length->ids<Z->Y ids=some (uw st) ->
  ∃x Y' W,nb n [.sl 10 (l.map qd.V),.own ids 0 l.length,int i] Y Z=some (x,Y',W)/\jc (·=ids) (fun st Y=>Y ids=some (uw st)) (q8 (ky (wb l) n st i).1) (ky (wb l) n st i).2 Y Z x Y' W
 | 0,_,_,_,_,h,_,_,_,_=>absurd h (by omega)
 |n+1,st,i,Y0,a,hw,B,d,hid,C=>by
  have hle:=xJ l;have X:=xI (zk d);have hmc:l[i].cb=1+l[i].name.length+Qh l[i].ins+Qh l[i].outs+l[i].cond.cb:=rfl;unfold zx at hl;have ni:¬ids=a:=by omega
  have k:¬ids=a+1:=by omega
  have c:i<st.length:=by omega
  have D:=C;simp[uw]at D;unfold nb yz;rw[zf (by simp[f52])];refine qz rfl ?_;by_cases w:st[i]=0
  case neg=>
   have E:ky (wb l) (n+1) st i=(decide (st[i]?=some 1),st):=by simp only[ky];rw[zc (by rw[zj c];simpa using w)]
   have F:=ZX w;have G:decide (st[i]?=some 1)=(st[i]==1):=by rw[zj c,qv];simp
   rw[E,G];simp[D,ni,k,d,c,F,jc,f52];exact⟨rfl,by omega,fun j H o=>by rw[zm _ _ _ _ (by omega),zm _ _ _ _ (by omega)]⟩
  have h0:st[i]?=some 0:=by rw[zj c,w]
  have hwc:=count_set h0 (v:=1) (by decide);have e:wb l i=l[i].cond.names.map (wS l):=by unfold wb;rw[zj d]
  have E:ky (wb l) (n+1) st i=((wB (ky (wb l) n) (st.set i 1) (wb l i)).1,(wB (ky (wb l) n) (st.set i 1) (wb l i)).2.set i 2):=by simp only[ky];rw[zf h0]
  have I:=YJ (vk (wb l) n) (wb l i) (st.set i 1);obtain⟨x,Y2,p,f,rfl,⟨q,r2b,r2c,J,K⟩,n2,r⟩:=V7 (U:=List Int) (T:=(·=ids)) (Rep:=fun s Y=>Y ids=some (uw s)/\s.length=l.length/\Zt s<n/\Y a=some (dh l)/\Y (a+1)=some ⟨94,1,false,[[.own ids 0 l.length]]⟩) (step:=fun s m=>ky (wb l) n s (wS l m)) (Q:=fun m=>yx l m=true) (g:=102)
   (sp:=OV (nb n)) (cap:=[.ref a 0 0,.ref (a+1) 0 0]) (Z0:=a+2) (by decide) (fun j H=>by omega)
   (fun s Y j b H ⟨L,y,z,t,A⟩=>⟨by rw[zm _ _ _ _ (by omega)];exact L,y,z,by rw[zm _ _ _ _ (by omega)];exact t,by rw[zm _ _ _ _ (by omega)];exact A⟩)
   (fun s m Y Z hq hml o ⟨L,y,z,t,A⟩=>by
    have M:=ZU hq;have G:=fun Y Z=>YK l m Y Z (by unfold zx;omega)
    obtain⟨x,Y2,p,f,rfl,q,n2,r⟩:=CI l (by unfold zx;omega) S ids n s (wS l m) Y Z z y M (by omega) L;have u:=vk (wb l) n s (wS l m);refine⟨_,Y2,p,?_,rfl,⟨q,by rw[u.len];exact y,DW u.wh z,by rw[r a (by omega) (by omega)];exact t,by rw[r (a+1) (by omega) (by omega)];exact A⟩,n2,r⟩;unfold OV yz;rw[zf (by simp[f102])];refine y0 rfl ?_;simp only[dh]at t;simp only[wS]at f;simp[t,A,G,f,wS,f102])
   zx l[i].cond (st.set i 1) (qt (qt (qt Y0 a (some (dh l))) (a+1) (some ⟨94,1,false,[[.own ids 0 l.length]]⟩)) ids (some (uw (st.set i 1)))) (a+2) (by unfold zx;omega) (by unfold zx;omega) (fun m X=>S _ (zk d) m X) (ze _)
   ⟨by simp,by simp[B],by omega,by rw[zm _ _ _ _ (by omega),zm _ _ _ _ (by omega)];simp,by rw[zm _ _ _ _ (by omega)];simp⟩
  rw[sj (ky (wb l) n) (wS l),<-e]at f q;rw[E];simp only[dh,uw,<-Hn]at f;simp only[uw]at q;have N:¬a=ids:=by omega
  have P:¬a+1=ids:=by omega
  have R:i<(wB (ky (wb l) n) (st.set i 1) (wb l i)).2.length:=by rw[I.len,X8];exact c
  simp[D,ni,k,N,P,d,c,w,f,q,J,K,R,jc,f52];exact⟨by rw[Hn];rfl,by omega,fun j H o=>by rw[zm _ _ _ _ o,r j (by omega) o,zm _ _ _ _ o,zm _ _ _ _ (by omega),zm _ _ _ _ (by omega)]⟩
noncomputable abbrev Css1:Ctx:=zW prog [(90,zi false [] (FKs hkP))]
noncomputable abbrev Tu:AM.Spec:=yz Css1 f101
theorem Lo:zg prog 101 Tu:=kM (qc mixed ⟨de,trivial⟩:AM.Good Css1 _) func101
def bH(s:qd):kn:=⟨56,10,false,[s.V]⟩
theorem Tv(s:qd)(k:za)(b:Qh s.outs<=zx)(c:k.length<=zx)(Y:Hp)(Z id:Nat)(a:Y id=some (bH s)):Tu [str k,.ref id 0 0] Y Z=some (q8 (Kf s.outs k).2,Y,Z):=by
 unfold Tu yz;rw[zf (by simp[f101])];refine y0 rfl ?_;have d:=fun Y Z=>uk s.outs k Y Z b c
 simp[bH]at a;simp[a,d,f101]
def JA(f:za->Bool):Nat->List za->Int
 |_,[]=>-1
 |k,s::l=>if f s=true then k else JA f (k+1) l
theorem nf(f:za->Bool):∀(l:List za) (k:Nat),decide (0<=JA f k l)=l.any f
 |[],k=>by simp[JA]
 |s::l,k=>by
  cases h:f s
  ·rw[JA,h,zc (by simp),nf f l (k+1),jl,h];rfl
  ·rw[JA,h,zf rfl,jl,h];simp
noncomputable abbrev Csix:Ctx:=zW prog [(101,Tu)]
noncomputable abbrev Tw:AM.Spec:=yz Csix f133
theorem Lp:zg prog 133 Tw:=kM (qc mixed ⟨Lo,trivial⟩:AM.Good Csix _) func133
def pk(id:Nat):O:=.fn (.func 101) [] [.ref id 0 0]
theorem Tx(s:qd)(hs:s.cb<=zx)(Y:Hp)(Z id:Nat)(q:Y id=some (bH s)) :
  Tw [.sl 1 (zH s.ins),pk id] Y Z=some (int (JA (fun k=>(Kf s.outs k).2) 0 s.ins),Y,Z):=by
 have r:s.cb=1+s.name.length+Qh s.ins+Qh s.outs+s.cond.cb:=rfl;have t:=Qy s.ins;have u:=fun k (o:k∈s.ins)=>da o
 unfold zx at hs;unfold Tw yz;rw[zf (by simp[f133])];refine y0 rfl ?_;have e:(zH s.ins).length=s.ins.length:=by simp[zH]
 simp[pk,e];refine zT (fun k U Y1 f=>U 0=.sl 1 (zH s.ins)/\U 1=pk id/\U 7=int s.ins.length/\U 8=int k/\Y1=Y/\f=Z/\JA (fun k=>(Kf s.outs k).2) 0 s.ins=JA (fun k=>(Kf s.outs k).2) k (s.ins.drop k)) s.ins.length ⟨by simp,by simp[pk],by simp,by simp,rfl,rfl,by simp⟩ ?_;rintro k U Y1 f o ⟨i,j,l,m,rfl,rfl,c⟩;by_cases b:k<s.ins.length
 ·have p:=qH k;obtain⟨y,n⟩:=jj (s.ins[k]);have v:=u y (by rw[<-n];exact zk b);have d:k<(zH s.ins).length:=by omega
  have g:(zH s.ins)[k]=[str y]:=by simp[zH,n]
  have a:=Tv s y (by unfold zx;omega) (by unfold zx;omega) Y1 f id q;rw[zh b,n,JA]at c;cases h:(Kf s.outs y).2
  ·rw[h,zc (by simp)]at c;rw[h]at a;simp[i,j,l,m,pk,b,e,d,g,a,p];exact⟨by omega,c⟩
  ·rw[h,zf rfl]at c;rw[h]at a;simp[i,j,l,m,pk,b,e,d,g,a,p,c,f133]
 ·obtain rfl:k=s.ins.length:=by omega
  rw[zq]at c;simp only[JA]at c;simp[i,j,l,m,c,f133]
noncomputable abbrev Csct:Ctx:=zW prog [(133,Tw)]
noncomputable abbrev Ty:AM.Spec:=yz Csct f100
theorem Lq:zg prog 100 Ty:=kM (qc mixed ⟨Lp,trivial⟩:AM.Good Csct _) func100
theorem Tz(s:qd)(hs:s.cb<=zx)(Y:Hp)(Z id:Nat)(b:Y id=some (bH s)) :
  Ty [.sl 1 (zH s.ins),pk id] Y Z=some (q8 (s.ins.any fun k=>(Kf s.outs k).2),Y,Z):=by
 unfold Ty yz;rw[zf (by simp[f100])];refine y0 rfl ?_;have a:=Tx s hs Y Z id b;have c:=nf (fun k=>(Kf s.outs k).2) s.ins 0;simp only[pk]at a;simp[pk,a,c,f100]
noncomputable def FSgm (out:qd->O):zb->Option O:=qu (α:=qd) (fun s=>[.agg s.V]) (fun s=>s.cb<=zx) out
theorem Lr(out:qd->O)(s:qd)(Y:Hp)(Z:Nat)(h:s.cb<=zx)(c:(out s).flat=true):zi false [] (FSgm out) [.agg s.V] Y Z=some (out s,Y,Z):=
 Js s _ _ (by simp[wE]) (fun a b e=>by simp only[zl,zM,O.agg.injEq]at e;exact KK e) h (.inl c)
noncomputable abbrev Csg1:Ctx:=zW prog [(99,zi false [] (Tl (fun l=>int (vV l)) fun l=>Qh l<=zx)),(100,Ty),(11,GC fun c=>int c.check)]
theorem TA{l m:List za}(a:dK m):(l.any fun k=>(Kf m k).2)=l.any fun k=>m.contains k:=by congr 1;funext k;exact um a k
theorem di(s:qd)(h:s.cb<=zx):zt Csg1 f51 [.agg s.V]=some (int (xw s)):=by
 have n:s.cb=1+s.name.length+Qh s.ins+Qh s.outs+s.cond.cb:=rfl;unfold zx at h;have j:=fun Y Z=>dd (fun l=>int (vV l)) (fun l=>Qh l<=zx) s.ins Y Z (by unfold zx;omega) rfl
 have m:=fun Y Z=>dd (fun l=>int (vV l)) (fun l=>Qh l<=zx) s.outs Y Z (by unfold zx;omega) rfl
 have o:=fun Y Z=>xc (fun c=>int c.check) s.cond Y Z (by unfold zx;omega)
 refine zn rfl ?_;simp[zp,zy,zo];rw[zJ];by_cases b:vV s.ins=0
 case neg=>
  have a:xw s=vV s.ins:=by unfold xw;rw[zc b]
  have g:=ZX b;simp[j,g,a,wc,f51]
 have p:=wX 1;have q:=wX 2;simp[j,b,p];rw[zJ];by_cases d:vV s.outs=0
 case neg=>
  have a:xw s=vV s.outs:=by unfold xw;rw[zf b,zc d]
  have i:=ZX d;simp[m,i,a,wc,f51]
 simp[m,d,q];rw[zJ];have e:=Tz s (by unfold zx;omega) (qt (qt (fun _=>none) 0 (some (bH s))) 1 (some ⟨34,1,true,[[.sl 1 (zH s.ins)],[.sl 1 (zH s.outs)]]⟩)) 2 0 (by simp);rw[TA (mR d)]at e;simp only[pk,bH]at e;cases f:s.ins.any fun k=>s.outs.contains k
 ·have a:xw s=s.cond.check:=by unfold xw;rw[zf b,zf d,f,zc (by simp)]
  rw[f]at e;simp[e,o,a,wc,f51]
 ·have a:xw s=7:=by unfold xw;rw[zf b,zf d,f,zf rfl]
  rw[f]at e;simp[e,a,wc,f51]
theorem bI:zg prog 51 (zi false [] (FSgm fun s=>int (xw s))):=
 Z2 (qc mixed ⟨gX,Lq,KJ,trivial⟩:AM.Good Csg1 _) func51 false [] fun s a=>⟨by simp[f51],_,di s a,qq _⟩
def JB(l:List qd)(k:Nat):Option za:=if k=0 then none else(l[k-1]?).map qd.name
noncomputable def FSs (out:List qd->O):zb->Option O:=qu (α:=List qd) (fun l=>[.sl 10 (l.map qd.V)]) (fun l=>Qb l<=zx) out
theorem OW(out:List qd->O)(l:List qd)(Y:Hp)(Z:Nat)(h:Qb l<=zx)(c:(out l).flat=true):zi false [] (FSs out) [.sl 10 (l.map qd.V)] Y Z=some (out l,Y,Z):=
 Js l _ _ rfl (fun a b e=>by simp only[zl,zM]at e;exact Za e) h (.inl c)
noncomputable abbrev Csgs:Ctx:=zW prog [(44,zi false [] (FS w8)),(51,zi false [] (FSgm fun s=>int (xw s))),(23,zi false [] FKn),(52,nb 268435457)]
theorem TB:Gd Csgs:=qc mixed ⟨Yb,bI,fT,nc _,trivial⟩
theorem Ls:QU Csgs g0F 22 f22:=qE func22
theorem bJ(l:List qd)(h:Qb l<=zx):zt Csgs f22 [.sl 10 (l.map qd.V)]=some (int (jV l)):=by
 have hlen:=xJ l;have hlim:zx=268435456:=rfl;refine zn rfl ?_;by_cases o:(100:Int)<l.length
 ·have d:jV l=2:=by unfold jV;rw[zf o]
  simp[o,d,f22]
 refine vL (fun U Y Z=>U 0=.sl 10 (l.map qd.V)) (by simp) ?_;rintro U Y Z c;refine vL (fun U Y Z=>U 0=.sl 10 (l.map qd.V)) (by simp[c,o]) ?_;clear c U Y Z;rintro U Y Z c;refine vL (fun U Y Z=>U 0=.sl 10 (l.map qd.V)/\WY none l=0) ?_ ?_
 ·simp[c];refine zT (fun k U Y Z=>U 0=.sl 10 (l.map qd.V)/\U 13=.sl 10 (l.map qd.V)/\U 14=int l.length/\U 15=int k/\WY none l=WY (JB l k) (l.drop k)) l.length ⟨by simp[c],by simp,by simp,by simp,by simp[JB]⟩ ?_;clear c U Y Z;rintro k U Y Z hk ⟨c,e,f,g,a⟩;by_cases b:k<l.length
  ·have G:=qH k;obtain⟨s,hs⟩:=jj (l[k]);have L:=xI (zk b);rw[hs]at L;have M:s.cb=1+s.name.length+Qh s.ins+Qh s.outs+s.cond.cb:=rfl;have i:s.name.length<=zx:=by omega
   have B:JB l (k+1)=some s.name:=by simp[JB,b,hs]
   have p:=fun Y Z=>Lr (fun s=>int (xw s)) s Y Z (by omega) rfl
   rw[Fu b,hs]at a;cases r:w8 s.name
   ·rw[r,zc (by simp)]at a;have d:jV l=5:=by unfold jV;rw[zc o,a,zc (by decide)]
    simp[c,e,f,g,b,hs,i,r,d,f22]
   rw[r,zf rfl]at a;have key:kP (JB l k) s.name=true\/kP (JB l k) s.name=false:=by cases kP (JB l k) s.name<;>simp
   by_cases k0:k=0
   ·subst k0;have w1:=wX 1;simp only[JB,kP,qI,zO,wx]at a;by_cases m:xw s=0
    ·rw[zf m]at a;simp[c,e,f,g,b,hs,i,r,p,m,w1];exact⟨by omega,by rw[a,B];simp⟩
    ·rw[zc m]at a;have t:=ZX m;have d:jV l=xw s:=by unfold jV;rw[zc o,a,zc m]
     simp[c,e,f,g,b,hs,i,r,p,t,d,f22]
   ·obtain⟨j,rfl⟩:∃j,k=j+1:=⟨k-1,by omega⟩;have H:j<l.length:=by omega
    have N:i6.wrap ((j:Int)+1-1)=(j:Int):=by rw[wQ (by omega) (by omega)];omega
    have u:=wX (j:Int);have Q:((j:Int)+1).toNat=j+1:=by omega
    have R:0<(j:Int)+1:=by omega
    have S:0<=(j:Int)+1:=by omega
    have T:(j:Int)+1<l.length:=by omega
    have wk:=wX ((j:Int)+1+1);have W:(Op.bytesLess s.name l[j].name||s.name==l[j].name)=gM s.name l[j].name:=rfl;have X:JB l (j+1)=some l[j].name:=by simp[JB,H]
    simp only[X,kP]at a;cases C:gM s.name l[j].name
    ·rw[C,zc (by simp)]at a;by_cases m:xw s=0
     ·rw[zf m]at a;simp[c,e,f,g,b,H,hs,i,r,N,u,Q,R,S,T,W,C,wk,p,m];exact⟨by omega,by rw[a,B]⟩
     ·rw[zc m]at a;have t:=ZX m;have d:jV l=xw s:=by unfold jV;rw[zc o,a,zc m]
      simp[c,e,f,g,b,H,hs,i,r,N,u,Q,R,S,T,W,C,p,t,d,f22]
    ·rw[C,zf rfl]at a;have d:jV l=8:=by unfold jV;rw[zc o,a,zc (by decide)]
     simp[c,e,f,g,b,H,hs,i,r,N,u,Q,R,S,T,W,C,d,f22]
  ·obtain rfl:k=l.length:=by omega
   rw[zq]at a;have a:WY none l=0:=by rw[a];rfl
   simp[c,e,f,g,a]
 clear c U Y Z;rintro U Y Z ⟨c,hG⟩;refine vL (fun U Y Z=>U 0=.sl 10 (l.map qd.V)/\(l.all fun s=>Qz l s.cond)=true) ?_ ?_
 ·simp[c];refine zT (fun k U Y Z=>U 0=.sl 10 (l.map qd.V)/\U 43=.sl 10 (l.map qd.V)/\U 44=int l.length/\U 45=int k/\(l.all fun s=>Qz l s.cond)=(l.drop k).all fun s=>Qz l s.cond) l.length ⟨by simp[c],by simp,by simp,by simp,by simp⟩ ?_;clear c U Y Z;rintro k U Y Z hk ⟨c,v,w,y,a⟩;by_cases b:k<l.length
  ·have G:=qH k;obtain⟨s,hs⟩:=jj (l[k]);have L:=xI (zk b);rw[hs]at L;have M:s.cb=1+s.name.length+Qh s.ins+Qh s.outs+s.cond.cb:=rfl;have q:=fun Y Z=>CH l s.cond Y Z (by omega) (by omega)
   rw[zh b,hs,q9]at a;cases I:Qz l s.cond
   ·rw[I,dE]at a;have d:jV l=9:=by unfold jV;rw[zc o,zf hG,a,zc (by simp)]
    simp[c,v,w,y,b,hs,q,I,d,f22]
   ·rw[I,jK]at a;simp[c,v,w,y,b,hs,q,I,G];exact⟨by omega,a⟩
  ·obtain rfl:k=l.length:=by omega
   rw[zq]at a;simp only[Zn]at a;simp[c,v,w,y];exact zL.1 a
 clear c U Y Z;rintro U Y Z ⟨c,hK⟩;have q:∀s∈l,∀n∈s.cond.names,yx l n=true:=fun s hs n hn=>zL.1 (zL.1 hK s hs) n hn
 have hm1:l.length<=maxLen:=by unfold maxLen;omega
 have hm2:l.length*8<=140737488355328:=by omega
 simp[c,ZM,hm1,hm2];obtain⟨P,hP⟩:=jj Z;rw[hP];refine zT (fun k U Y Z=>U 0=.sl 10 (l.map qd.V)/\U 8=.own P 0 l.length/\U 59=int l.length/\U 60=int k/\P<Z/\∃st:List Int,st.length=l.length/\Zt st<268435457/\Y P=some (uw st)/\mT l=(OA l st ((List.range l.length).drop k)).1) l.length
  ⟨by simp[c],by simp,by simp,by simp,by simp,List.replicate l.length 0,by simp,by rw[mU];omega,by simp[uw],by simp[mT]⟩ ?_
 clear c hP U Y Z;rintro k U Y Z hk ⟨c,h8,z,A,hPn,st,D,E,hb,a⟩;by_cases b:k<l.length
 ·have G:=qH k;obtain⟨x,Y2,iS,J,rfl,r2,n2,f2⟩:=CI l h q P 268435457 st k Y Z E D b hPn hb;have F:=vk (wb l) 268435457 st k;rw[zh (by simpa using b),List.getElem_range]at a;unfold OA at a;cases K:(ky (wb l) 268435457 st k).1
  ·rw[Z8 K]at a;rw[K]at J;simp[c,h8,z,A,b,J,G];exact⟨by omega,by omega,_,by rw[F.len];exact D,DW F.wh E,r2,by rw[a];rfl⟩
  ·rw[YO K]at a;rw[K]at J;have d:jV l=12:=by unfold jV;rw[zc o,zf hG,zf hK,zf a]
   simp[c,h8,z,A,b,J,d,f22]
 ·obtain rfl:k=l.length:=by omega
  have a:mT l=false:=by rw[a,kW (by simp)];rfl
  have d:jV l=0:=by unfold jV;rw[zc o,zf hG,zf hK,a,zc (by simp)]
  simp[c,h8,z,A,d,f22]
theorem ag:zg prog 22 (zi false [] (FSs fun l=>int (jV l))):=
 yj (fn:=f22) TB Ls false [] _ fun args r h=>by obtain⟨l,rfl,a,rfl⟩:=zK h;exact⟨zE (ze 1) (by decide),_,bJ l a,qq _⟩
noncomputable def FFS (f:za×zZ->za->O):zb->Option O:=qu (α:=(za×zZ)×za) (fun a=>[.agg (ya a.1),str a.2]) (fun _=>True) (fun a=>f a.1 a.2)
theorem CJ(Y:Hp)(x:za×zZ):qa Y (.agg (ya x))=some (.agg (ya x),Y):=by simp[ya]
theorem FO(x:za×zZ):O.noOwn (.agg (ya x))=true:=by have:=XN x.2;simp only[O.noOwn,yF,ya,jl]at this⊢;simpa using this
theorem CK(f:za×zZ->za->O)(x:za×zZ)(s:za)(Y:Hp)(Z:Nat):zi false [] (FFS f) [.agg (ya x),str s] Y Z=some (f x s,Y,Z):=
 yk (Y1:=Y) (show zw Y [.agg (ya x),str s]=some ([.agg (ya x),str s],Y) by simp only[zw,CJ];simp)
  (qG (V:=fun a:(za×zZ)×za=>[O.agg (ya a.1),str a.2]) (a:=(x,s)) (fun a b e=>by
   obtain⟨d,h⟩:=a;obtain⟨b1,i⟩:=b;simp only[zl,zM,O.agg.injEq]at e;obtain⟨c,g⟩:=e;have c:ya d=ya b1:=by simpa only[ya,zl]using c
   rw[mK c,wR g]) trivial) (.inr (by simp only[q9,FO,Zn];rfl))
noncomputable abbrev Cac:Ctx:=zW prog [(56,zi false [] (IP yB))]
theorem pn:zg prog 92 (zi false [] (FFS fun x s=>int (yB x.1 s))):=
 Z2 (qc mixed ⟨vK,trivial⟩:AM.Good Cac _) func92 false [] fun⟨x,s⟩ _=>⟨by simp[f92],_,zn rfl (by simp[f92,ya]),qq _⟩
noncomputable def bK (l:List (za×zZ)) (s:za) (k:Nat):Bool:=match l[k]? with
 |some x=>decide (yB x.1 s<0)
 |none=>false
noncomputable def W0 (l:List (za×zZ)) (s:za):Nat×Bool:=(Zv (bK l s) 0 l.length,match l[Zv (bK l s) 0 l.length]? with
 |some x=>yB x.1 s==0
 |none=>false)
noncomputable def FBsA (g:Nat):zb->Option O:=qu (α:=List (za×zZ)×za) (fun a=>[.sl 6 (a.1.map ya),str a.2,.fn (.func g) [] []]) (fun a=>a.1.length<=zx) (fun a=>.wq [int (W0 a.1 a.2).1,q8 (W0 a.1 a.2).2])
theorem Lt(g:Nat)(l:List (za×zZ))(s:za)(Y:Hp)(Z:Nat)(h:l.length<=zx):zi false [] (FBsA g) [.sl 6 (l.map ya),str s,.fn (.func g) [] []] Y Z=some (.wq [int (W0 l s).1,q8 (W0 l s).2],Y,Z):=
 Js (l,s) _ _ rfl (fun a b e=>by obtain⟨f,i⟩:=a;obtain⟨j,k⟩:=b;simp only[zl,zM]at e;obtain⟨c,d⟩:=e;injection c with _ c;rw[vw (fun _ _=>mK) c,wR d]) h (.inl rfl)
noncomputable abbrev Cbs:Ctx:=zW prog [(92,zi false [] (FFS fun x s=>int (yB x.1 s)))]
theorem TC(l:List (za×zZ))(s:za)(v:l.length<=zx):zt Cbs f91 [.sl 6 (l.map ya),str s,.fn (.func 92) [] []]=some (.wq [int (W0 l s).1,q8 (W0 l s).2]):=by
 refine zn rfl ?_;unfold zx at v;simp;refine Wm (fun st=>st.U 0=.sl 6 (l.map ya)/\st.U 1=str s/\st.U 2=.fn (.func 92) [] []/\st.U 8=int l.length/\∃lo hi:Nat,lo<=hi/\hi<=l.length/\st.U 9=int lo/\st.U 10=int hi/\Zv (bK l s) 0 l.length=Zv (bK l s) lo hi)
  (fun st=>(Vh (st.U 10)).toNat-(Vh (st.U 9)).toNat) ⟨by simp,by simp,by simp,by simp,0,l.length,by simp,by simp,by simp,by simp,rfl⟩ ?_
 rintro⟨U,Y,Z⟩ ⟨h,i,j,k,lo,hi,w,r,n,d,f⟩;simp only at h i j k n d;by_cases b:lo<hi
 ·have a:=fun x Y Z=>CK (fun x s=>int (yB x.1 s)) x s Y Z
  have u:=wX ((lo:Int)+hi);have y:(lo+hi)/2<l.length:=by omega
  obtain⟨m,z⟩:∃m,m=(lo+hi)/2:=⟨_,rfl⟩;have g:i6.wrap ((IntKind.u64.wrap ((lo:Int)+hi)).fdiv (2 ^ min 1 IntKind.u64.bits))=(m:Int):=by
   have A:IntKind.u64.wrap ((lo:Int)+hi)=(lo:Int)+hi:=by rw[IntKind.wrap_u64];omega
   have B:(2 ^ min 1 IntKind.u64.bits:Int)=2:=by decide
   rw[A,B,DX _ (by omega),wQ (by omega) (by omega)];omega
  have e:m<l.length:=by omega
  have C:=qH m;have t:bK l s m=decide (yB l[m].1 s<0):=by simp[bK,e]
  rw[XU (lo:=lo) b,<-z,t]at f;have c:=a l[m];simp only[ya]at c;by_cases q:yB l[m].1 s<0
  ·simp only[q,decide_true,qI]at f;simp[h,i,j,k,n,d,b,u,g,e,c,q,C];exact⟨⟨m+1,hi,by omega,r,by omega,rfl,f⟩,by omega⟩
  ·simp only[q,decide_false,zO,wx]at f;simp[h,i,j,k,n,d,b,u,g,e,c,q];exact⟨⟨lo,m,by omega,by omega,rfl,rfl,f⟩,by omega⟩
 ·have f:Zv (bK l s) 0 l.length=lo:=by rw[f,c9 (lo:=lo) b]
  have a:=fun x Y Z=>CK (fun x s=>int (yB x.1 s)) x s Y Z
  unfold W0;rw[f];by_cases o:lo<l.length
  ·have c:=a l[lo];simp only[ya]at c;simp[h,i,j,k,n,d,b,o,c,f91,wc]
  ·have p:l[lo]?=none:=yO (by omega);simp[h,i,j,k,n,d,b,o,p,f91,wc]
theorem OX:zg prog 91 (zi false [] (FBsA 92)):=
 Z2 (qx (q:=[92]) mixed ⟨pn,fun _=>zr _ _,trivial⟩:AM.Good Cbs _) func91 false [] fun⟨l,s⟩ a=>⟨zE (ze 3) (by decide),_,TC l s a,qq _⟩
def CL:zZ:=.mk 0 0 [] [] []
def ki(s:za):zZ:=.mk 3 0 s [] []
def V9:za:=[107,101,121]
noncomputable def yu.find (x:yu) (s:za):zZ×Bool:=
 if s==V9 then(ki x.key,true)else match x.attrs[(W0 x.attrs s).1]? with
  |some a=>if(W0 x.attrs s).2 then(a.2,true)else(CL,false)
  |none=>(CL,false)
noncomputable def FXS (out:yu->za->O) (pre:yu->za->Prop):zb->Option O:=qu (α:=yu×za) (fun a=>[.agg a.1.V,str a.2]) (fun a=>a.1.cb<=zx/\a.2.length<=zx/\pre a.1 a.2) (fun a=>out a.1 a.2)
theorem OY(out:yu->za->O)(pre:yu->za->Prop)(x:yu)(s:za)(Y:Hp)(Z:Nat)(h:x.cb<=zx/\s.length<=zx/\pre x s):zi false [] (FXS out pre) [.agg x.V,str s] Y Z=some (out x s,Y,Z):=
 yk (Y1:=Y) (show zw Y [.agg x.V,str s]=some ([.agg x.V,str s],Y) by simp only[zw,fO];simp)
  (qG (V:=fun a:yu×za=>[O.agg a.1.V,str a.2]) (a:=(x,s)) (fun a b e=>by obtain⟨c,d⟩:=a;obtain⟨f,g⟩:=b;simp only[zl,zM,O.agg.injEq]at e;rw[mL e.1,wR e.2]) h) (.inr (by simp only[q9,mM,Zn];rfl))
theorem OZ{l:List (za×zZ)}{s:za}(h:(W0 l s).2=true):(W0 l s).1<l.length:=by
 unfold W0 at h⊢;simp only at h⊢;split at h
 ·rename_i x a;exact(zd.1 a).1
 ·cases h
def bL(r:zZ×Bool):O:=.wq [.agg r.1.V,q8 r.2]
noncomputable abbrev Cxa:Ctx:=zW prog [(91,zi false [] (FBsA 92))]
theorem Ho(k n:Int)(s:za):qg (.agg [int k,int n,str s,.nil,.nil]) (.agg (zZ.mk k n s [] []).V):=by rw[vJ];exact qP.agg (.cons (.refl _) (.cons (.refl _) (.cons (.refl _) (.cons (.YV (.inl ⟨rfl,rfl⟩)) (.cons (.YV (.inl ⟨rfl,rfl⟩)) .nil)))))
theorem CM(x:yu)(s:za)(h:x.cb<=zx):∃i,zt Cxa f49 [.agg x.V,str s]=some i/\qg i (bL (x.find s)):=by
 have j:=mJ x;have k:=jt x.attrs;have b:=fun Y Z=>Lt 92 x.attrs s Y Z (by omega)
 refine wW rfl ?_;have f:(s==V9)=false->(W0 x.attrs s).2=false->x.find s=(CL,false):=fun l m=>by unfold yu.find;rw[l,m];simp only[zO,wx];split<;>rfl
 cases c:(s==V9)
 ·have a:(s==[107,101,121])=false:=c;cases d:(W0 x.attrs s).2
  ·rw[f c d];simp[yu.V,a,b,d,zS,qn,f49];refine⟨.wq [.agg [int 0,int 0,str [],.nil,.nil],q8 false],by simp,?_⟩;exact qP.wq (.cons (Ho 0 0 []) (.cons (.refl _) .nil))
  ·have e:=OZ d;have g:x.find s=(x.attrs[(W0 x.attrs s).1].2,true):=by unfold yu.find;rw[c,d];simp[e]
   rw[g];simp[yu.V,a,b,d,e,f49];refine⟨bL (x.attrs[(W0 x.attrs s).1].2,true),by simp[bL],.refl _⟩
 ·have a:(s==[107,101,121])=true:=c;have g:x.find s=(ki x.key,true):=by unfold yu.find;rw[c];rfl
  rw[g];simp[yu.V,a,zS,qn,f49];refine⟨.wq [.agg [int 3,int 0,str x.key,.nil,.nil],q8 true],by simp,?_⟩;exact qP.wq (.cons (Ho 3 0 x.key) (.cons (.refl _) .nil))
theorem ux:zg prog 49 (zi false [] (FXS (fun x s=>bL (x.find s)) fun _ _=>True)):=
 xl (fn:=f49) (qc mixed ⟨OX,trivial⟩:AM.Good Cxa _) (qE func49) false [] _ fun args r h w S vs a=>by obtain⟨⟨x,s⟩,rfl,b,rfl⟩:=zK h;obtain⟨c,d,e⟩:=CM x s b.1;exact⟨_,c,a,zE (ze 2) (by decide),d,e⟩
end Go.Q
namespace Go.SpanLaw
abbrev Sp:=Int×Int
def zaG:Int->List Sp->Prop
 |_,[]=>True
 |lo,s::l=>lo<s.1/\s.1<s.2/\zaG s.2 l
def mem(l:List Sp)(k:Int):Prop:=∃s∈l,s.1<=k/\k<s.2
def skip(x:Int):List Sp->List Sp
 |[]=>[]
 |b::l=>if b.2<=x then skip x l else b::l
def Below(hi:Int)(l:List Sp):Prop:=∀s∈l,s.2<=hi
structure zhv (op:Int->Prop) (at_:Int) (out:List Sp):Prop where
 canon:zaG (-1) out
 below:Below at_ out
 holds:∀k,mem out k↔0<=k/\k<at_/\op k
end Go.SpanLaw
namespace Go.Q
end Go.Q
namespace Go.AM
variable{dr:Prop}
def AK(P:Program)(f e s by_:Nat):Prop:=
 (∀w,Calls P f #[.slice none 0 0,.int .i64 0] w fun r w'=>r=.returned (.slice none 0 0)/\w'=w) /\
 ∀(n:Nat) (w:World),0<n->n*by_<=140737488355328->n<=4611686018427387904->Calls P f #[.slice none 0 0,.int .i64 n] w fun r w'=>
  ∃cap a,cap<=maxLen/\a.size=cap*s/\r=.returned (.slice (some ⟨w.heap.size,0,none⟩) 0 cap)/\w'=w.drew.alloc (.cells a e)
theorem AK.of{P:Program}{c:Go.Shelf.Ren}(L:Lays8.n4 P c){s by_:Nat}{z:zb}(hs:qC P (c.t 25)=some s)(d:jB P (c.t 25)=some by_)(j:yT P (c.t 25)=some z)(k:z.length=s)(u:0<s):AK P (c.f 4) (c.t 25) s by_:=by
 obtain⟨i,v,hi,l,m⟩:=Qk j;obtain⟨i',b,o⟩:=W8 hs;rw[hi]at b;injection b with b;subst b;have e:i.bytes=by_:=by unfold jB at d;rw[hi]at d;simpa using d
 have g:v.cells.size=s:=by have:=(jf (w:=default) (S:=fun _=>False) m).1;rw[k]at this;simpa using this.symm
 refine⟨fun w=>Any8.slices_Grow_room L none 0 0 0 w (by omega) (by omega) (by omega) (by omega),fun n w x d y=>?_⟩;refine(Any8.slices_Grow_grow L i v hi l (by omega) none 0 0 n [] w (by omega) (by omega) (by rw[e];simpa using d) (by omega) (by simp) (fun _=>rfl) (fun a h=>(nomatch h))).mono fun r w' p=>?_
 obtain⟨rfl,rfl⟩:=p;rw[yl]at *;have q:n<=grownCap w n 0 (c.t 25):=grownCap_ge _ _ _ _;refine⟨_,_,grownCap_le_maxLen w n 0 (c.t 25) (by unfold maxLen;omega),?_,rfl,rfl⟩;rw[QG,QG,Rm,Rm,g];simp only[jv,xT,yl,Nat.sub_zero];rw[<-qK];congr 1;omega
def sk(e s by_:Nat):AM.Spec:=fun args Y Z=>match args with
 |[.nil,.v (.int .i64 n)]=>if n=0 then some (.nil,Y,Z)else if 0<n/\n*by_<=140737488355328/\n<=4611686018427387904 then some (.own Z 0 0,qt Y Z (some ⟨e,s,true,[]⟩),Z+1)else none
 |_=>none
theorem CN{P:Program}{f e s by_:Nat}(k:∃fn,P.funcs[f]?=some fn/\(fn.name== "runtime.NumGoroutine")=false/\fn.body.isNone=false)(l:qC P e=some s)(g:0<s)(h:AK P f e s by_):jr dr P f (sk e s by_):=by
 refine⟨k,?_⟩;intro args Y Z r Y' K a w S G vs hi A;unfold sk at a;split at a
 ·rename_i n;obtain⟨u,us,rfl,B,d⟩:=A.jF;obtain⟨v,us,rfl,C,d⟩:=d.jF;obtain rfl:=d.WE;obtain rfl:=B.Zp;obtain⟨rfl,_⟩:=C.wY;split at a
  ·rename_i D;subst D;injection a with a
   injection a with o a;injection a with p q;subst o;subst p;subst q;refine(h.1 w).mono fun r w' t=>?_
   obtain⟨rfl,rfl⟩:=t;exact⟨_,_,_,rfl,.refl hi,.c .nil⟩
  ·split at a
   ·rename_i E y;injection a with a
    injection a with o a;injection a with p q;subst o;subst p;subst q;obtain⟨m,rfl⟩:∃m:Nat,n=m:=⟨n.toNat,by omega⟩;refine(h.2 m w (by omega) (Int.ofNat_le.1 (by rw[Int.natCast_mul];exact y.2.1)) (by have:=y.2.2;omega)).mono fun r w' t=>?_
    obtain⟨cap,b,F,H,rfl,rfl⟩:=t;have z:=kd.drew (dr:=dr) hi;obtain⟨i,x,j⟩:=W8 l;have I:=kd.alloc (dr:=dr) z.inv b e true [] s g (by rw[x];simp[j]) (by simp) (by simp) (by simp);refine⟨_,_,_,rfl,z.trans I,?_⟩;have:=qb.own (w:=w.drew.alloc (.cells b e)) (S:=S) (G:=qt G Z ⟨w.drew.heap.size,b.size,s⟩) (Z:=Z+1) (id:=Z) (off:=0) (n:=0) (cap:=cap) (by omega) (by omega) F (by rw[wP];show(0+cap)*s=b.size;rw[H,yl]) (by rw[wP];exact g);rw[wP]at this;have J:0*s=0:=UP s;simp only[J]at this;exact this
   ·cases a
 ·cases a
theorem qU.K9{P:Program}{Y:Hp}{Z e s by_:Nat}{v:O}{xs:List zb}{ys:List zb}{z:zb}{t:TypeId}(h:qU Y Z e s v xs)(b:ym P t=some e)(hs:qC P e=some s)(c:jB P e=some by_)(d:yT P e=some z)
  (a:z.length=s) (f:0<s) (g:xs.length+ys.length<=maxLen) (i:(xs.length+ys.length)*by_<=140737488355328) :
  ∃k Y' j,yI P Y Z t t v (.sl s ys)=some (k,Y',j)/\qU Y' j e s k (xs++ys)/\Z<=j:=by
 rcases h with⟨rfl,rfl⟩|⟨id,hid,rfl,m⟩
 ·simp at g i;by_cases l:ys=[]
  ·subst l;exact⟨.nil,Y,Z,by simp[yI,b,hs,c,d,a,f,AM.view,maxLen],.inl ⟨rfl,rfl⟩,ze _⟩
  ·exact⟨.own Z 0 ys.length,_,Z+1,by simp[yI,b,hs,c,d,a,f,g,i,AM.view,l];rfl,.inr ⟨Z,by omega,by simp,by simp⟩,by omega⟩
 ·exact⟨.own Z 0 (xs.length+ys.length),_,Z+1,by simp[yI,b,hs,c,d,a,f,g,i,AM.view,m];rfl,.inr ⟨Z,by omega,by simp,by simp⟩,by omega⟩
end Go.AM
namespace Go.Proofs
open Go.Shelf
end Go.Proofs
namespace Go.Q
abbrev Rg:=Int×Int×Int
structure Lyr where
 name:List UInt8
 salt:List UInt8
 rest:Int
structure Hld where
 name:List UInt8
 salt:List UInt8
 buckets:Int
 zcG:List (List UInt8)
structure Phs where
 at_:Int
 zhw:List Sp
structure Xp where
 name:List UInt8
 zhx:List UInt8
 flag:List UInt8
 cond:zG
 salt:List UInt8
 arms:List Rg
 zg7:List Phs
structure Bk where
 zcG:List Lyr
 holds:List Hld
 exps:List Xp
end Go.Q
namespace Go.AM
section
variable(C:Ctx)(ρ:Operand->Option O)(Y:Hp)(Z:Nat)
@[simp]theorem zdB(t:TypeId)(x i:Operand)(a:Bool):zX C ρ Y Z (.lookup t x i a)=(do let p <-ρ x;let q <-ρ i;let r <-vu C.P Y t p q a;some (r,Y,Z)):=by simp only[zX];cases ρ x<;>cases ρ i<;>(try rfl);simp;cases vu C.P Y t _ _ a<;>rfl
@[simp]theorem TD(t:TypeId)(m k x:Operand):zX C ρ Y Z (.mapUpdate t m k x)=(do let p <-ρ m;let q <-ρ k;let y <-ρ x;let h <-xB C.P Y t p q y;some (.wq [],h,Z)):=by simp only[zX];cases ρ m<;>cases ρ k<;>cases ρ x<;>(try rfl);simp;cases xB C.P Y t _ _ _<;>rfl
@[simp]theorem zb9(t:TypeId):zX C ρ Y Z (.makeMap t none)=(do let _ <-Vx C.P t;some (.mp Z,qt Y Z (some ⟨t,0,false,[]⟩),Z+1)):=by simp only[zX];cases Vx C.P t<;>rfl
end
end Go.AM
namespace Go.Q
@[simp]theorem zfb(U:Nat->O):AM.get U (.const (.pointer none))=some (.v (.pointer none)):=rfl
@[simp]theorem zca:Vy prog 4=some (q8 false):=by kernel_rfl
inductive YW:zG->Prop
 |mk {k o:Int} {a p n:List UInt8} {v:List zZ} {l:List zG}:1<=k->k<=5->(k=3->l.length=1)->(k=4->jU o=true->0<v.length)->(∀x∈l,YW x)->YW (.mk k a o v p n l)
theorem YW.kind{c:zG}(h:YW c):1<=c.kind/\c.kind<=5:=by cases h;exact⟨by assumption,by assumption⟩
theorem YW.one{c:zG}(h:YW c)(a:c.kind=3):c.args.length=1:=by cases h with|mk _ _ b _ _=>exact b a
theorem YW.ord{c:zG}(h:YW c)(a:c.kind=4)(b:jU c.op=true):0<c.qZ.length:=by cases h with|mk _ _ _ d _=>exact d a b
theorem YW.args{c:zG}(h:YW c):∀x∈c.args,YW x:=by cases h with|mk _ _ _ _ a=>exact a
theorem ng:∀{l:List zG},xh l=0->∀x∈l,x.fault=0
 |[],_,x,a=>by cases a
 |c::l,h,x,a=>by
  rw[xh]at h;split at h
  ·rename_i b;rcases zv.1 a with rfl|a
   ·exact b
   ·exact ng h x a
  ·rename_i b;exact absurd h b
theorem FQ(c:zG):c.fault=0->YW c:=by
 induction c using zG.ind with
 |h k a o v p n l m=>
  intro e;rw[eJ]at e;split at e
  case isFalse d=>exact absurd e d
  rename_i d;have b:=ng e;unfold vr at d;split at d
  ·omega
  rename_i g;split at d
  ·omega
  rename_i i;simp only[c7,MK,zG.kind,zG.op,qF,not_or,yF,Bool.not_eq_false]at g;simp only[Zq,w6F,w7F,zG.kind,zG.op,zG.qZ,zG.args,qF,not_or]at i;obtain⟨⟨⟨_,_⟩,q⟩,r⟩:=i;have f:=g.1;simp only[xb,zC,qi]at f;refine .mk f.1 f.2 (fun s=>?_) (fun t u=>?_) fun x j=>m x j (b x j)
  ·refine vC fun w=>q ?_
   rw[s];simp only[beq_self_eq_true,jK,zhz,ne_eq];omega
  ·refine vC fun w=>r ?_
   rw[t,u];simp only[beq_self_eq_true,jK,zhz,ne_eq];omega
theorem nh{c:zG}(h:c.check=0):YW c:=by
 unfold zG.check at h;split at h
 ·omega
 ·exact FQ c h
def po(M:List (Nat×Bool)):List zb:=M.map fun p=>[int p.1,q8 p.2]
def nj(M:List (Nat×Bool)):kn:=⟨53,0,false,po M⟩
def uy(f:Nat->Bool)(M:List (Nat×Bool)):Prop:=∀p∈M,p.2=f p.1
theorem eO(i:Nat):∀(M:List (Nat×Bool)) (k:Nat),(xi (.int .i64 i) (po M) k=some none)\/∃j b,xi (.int .i64 i) (po M) k=some (some (k+j,q8 b))/\M[j]?=some (i,b)
 |[],k=>.inl rfl
 |(a,b)::M,k=>by
  by_cases h:i=a
  ·subst h;exact .inr ⟨0,b,by simp[po,xi,vY],rfl⟩
  ·have d:vY (.int .i64 (i:Int)) (.int .i64 (a:Int))=some false:=by simp only[vY,qI,zN,yy,ne_eq];omega
   have e:xi (.int .i64 i) (po ((a,b)::M)) k=xi (.int .i64 i) (po M) (k+1):=by simp only[po,wg,xi,d]
   rw[e];rcases eO i M (k+1)with c|⟨j,f,c,g⟩
   ·exact .inl c
   ·exact .inr ⟨j+1,f,by rw[c];simp;omega,by simpa using g⟩
@[simp]theorem zcb:Vx prog 53=some (some .i64,4):=by kernel_rfl
theorem Lu{Y:Hp}{m:Nat}{f:Nat->Bool}{M:List (Nat×Bool)}(c:uy f M)(i:Nat)(h:Y m=some (nj M)):vu prog Y 53 (.mp m) (int i) true=some (.wq [q8 (f i),q8 true])\/vu prog Y 53 (.mp m) (int i) true=some (.wq [q8 false,q8 false]):=by
 rcases eO i M 0 with a|⟨j,b,a,d⟩
 ·exact .inr (by simp[vu,cg,h,nj,WU,a])
 ·have:=c _ (zz d);simp only at this;exact .inl (by simp[vu,cg,h,nj,WU,a,this])
theorem nk{Y:Hp}{m:Nat}{f:Nat->Bool}{M:List (Nat×Bool)}(c:uy f M)(i:Nat)(h:Y m=some (nj M)):∃d,xB prog Y 53 (.mp m) (int i) (q8 (f i))=some (qt Y m (some (nj d)))/\uy f d:=by
 rcases eO i M 0 with a|⟨j,b,a,e⟩
 ·refine⟨M++[(i,f i)],by simp[xB,h,nj,WU,a];simp[po],fun p Y=>?_⟩;rcases zF.1 Y with Y|Y
  ·exact c p Y
  ·simp at Y;rw[Y]
 ·refine⟨M.set j (i,f i),by simp[xB,h,nj,WU,a];simp[po,AE],fun p Y=>?_⟩;rcases jW Y with Y|rfl
  ·exact c p Y
  ·rfl
def CO(l:List qd)(x:yu)(m:Nat):kn:=⟨87,4,false,[[.sl 10 (l.map qd.V),str x.key,.sl 6 (x.attrs.map ya),.mp m]]⟩
noncomputable abbrev TE:AM.Spec:=yz C0 f20
theorem Lv:zg prog 20 TE:=kM jY func20
theorem TF(l:List qd)(x:yu)(Y:Hp)(Z:Nat):TE [.sl 10 (l.map qd.V),.agg x.V] Y Z=some (.ref (Z+2) 0 0,qt (qt (qt Y Z (some ⟨29,2,false,[x.V]⟩)) (Z+1) (some (nj []))) (Z+2) (some (CO l x (Z+1))),Z+3):=by unfold TE yz;rw[zf (by simp[f20])];refine y0 rfl ?_;simp[yu.V,zS,qn,CO,nj,po,f20]
noncomputable def TG (sp:AM.Spec):AM.Spec:=yz (zW prog [(21,sp)]) f47
noncomputable abbrev TAh (sp:AM.Spec):Qf:=[(47,TG sp),(21,sp)]
noncomputable abbrev Chd (mem sp:AM.Spec):Ctx:=ZO prog [(46,Hm (TAh sp)),(21,sp),(24,zi false [] db),(48,mem),(49,zi false [] (FXS (fun x s=>bL (x.find s)) fun _ _=>True)),(50,zi false [] FPs)] 11 [1000004] []
noncomputable def Vm (mem:AM.Spec):Nat->AM.Spec
 | 0=>fun _ _ _=>none
 |k+1=>yz (Chd mem (Vm mem k)) f21
noncomputable abbrev Cmb (sp:AM.Spec):Ctx:=zW prog [(90,zi false [] (FKs hkP)),(21,sp)]
noncomputable def CP:Nat->AM.Spec
 | 0=>fun _ _ _=>none
 |n+1=>yz (Cmb (Vm (CP n) zx)) f48
theorem Lw{sp:AM.Spec}(h:zg prog 21 sp):zg prog 47 (TG sp):=
 kM (qx (q:=[]) (l:=[(21,sp)]) mixed ⟨h,by simp,trivial⟩) func47
theorem nm{mem:AM.Spec}(h:zg prog 48 mem)(k:Nat):zg prog 21 (Vm mem k):=by
 induction k with
 |zero=>exact YM ⟨_,func21,by kernel_rfl,by kernel_rfl⟩
 |succ k a=>exact kM (C:=Chd mem (Vm mem k)) (JO (q:=[24,49]) mixed ⟨FM ⟨Lw a,by simp,a,by simp,trivial⟩,by simp,a,by simp,YL,fun _=>zr _ _,h,by simp,ux,fun _=>zr _ _,uv,by simp,trivial⟩ (by simp[bh])) func21
theorem Lx(n:Nat):zg prog 48 (CP n):=by
 induction n with
 |zero=>exact YM ⟨_,func48,by kernel_rfl,by kernel_rfl⟩
 |succ n a=>exact kM (C:=Cmb (Vm (CP n) zx)) (qx (q:=[90]) mixed ⟨de,fun _=>zr _ _,nm a zx,by simp,trivial⟩) func48
end Go.Q
