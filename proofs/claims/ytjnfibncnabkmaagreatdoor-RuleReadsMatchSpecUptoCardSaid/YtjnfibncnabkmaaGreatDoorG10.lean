/- Lemmas. -/
import Derived.Shelf.Strings.OnBuilder
import Derived.Laws.Runes
import Derived.Test.YtjnfibncnabkmaaGreatDoorG9
set_option maxRecDepth 8000
set_option maxHeartbeats 4000000
open Go Proofs Proofs.YtjnfibncnabkmaaGreatDoor Proofs.Tryz RowKit AM SpanLaw Q Zz
namespace Go.Q
section
variable(s:za)
def oW:za->Rst->Rst
 |[],st=>st
 |c::l,st=>oW l (Ja s st c)
def iI(st:Rst):za×Rst:=if ka s st=48 then([48],if jg (ka s st.qH)=true then st.qH.fail st.qH.p 10 else st.qH)else fo s st 12
def Jh(st:Rst):za×Rst:=if ka s st=46 then fo s st.qH 3 else([],st)
def A2(st:Rst):Rst:=if ka s st=45 then st.qH else st
def aJ(st:Rst):za:=(iI s (A2 s st)).1++(Jh s (iI s (A2 s st)).2).1++Lib.repeatL [48] (3-(Jh s (iI s (A2 s st)).2).1.length)
def F2(st:Rst):Val×Rst:=(pd (if ka s st=45 then -QZ (aJ s st)else QZ (aJ s st)),(Jh s (iI s (A2 s st)).2).2)
def iJ:Nat->Nat->Rst->Option Nat×Rst
 | 0,n,st=>(some n,st)
 |k+1,n,st=>match KZ (ka s st)with
  |some d=>iJ k (n*16+d) st.qH
  |none=>(none,st.fail st.p 10)
def pG(st:Rst):UInt8×Rst:=
 if ka s st=34\/ka s st=92\/ka s st=47 then(ka s st,st.qH)
 else if ka s st=117 then match(iJ s 4 0 st.qH).1 with
  |none=>(0,(iJ s 4 0 st.qH).2)
  |some n=>(UInt8.ofNat n,if n<32\/126<n then(iJ s 4 0 st.qH).2.fail st.p 10 else(iJ s 4 0 st.qH).2)
 else(0,st.fail st.p 10)
def A3:Nat->za->Rst->za×Rst
 | 0,_,st=>([],st)
 |k+1,b,st=>if st.b≠none then([],st)else
  if ka s st<32\/126<ka s st then([],st.fail st.p 10)
  else if ka s st=34 then(b,st.qH)
  else if ka s st=92 then A3 k (b++[(pG s st.qH).1]) (pG s st.qH).2
  else A3 k (b++[ka s st]) st.qH
def kM(st:Rst):za×Rst:=A3 s (s.length+1) [] (Ja s st 34)
variable(f:Rst->Val×Rst)
def CV:Nat->List Val->Rst->List Val×Rst
 | 0,l,st=>(l,st)
 |k+1,l,st=>if st.b≠none then(l,st)else
  if(K9 s (f (kO s st)).2 93).1=true then CV k (l++[(f (kO s st)).1]) (K9 s (f (kO s st)).2 93).2 else(l++[(f (kO s st)).1],(K9 s (f (kO s st)).2 93).2)
def ZE(st:Rst):List Val×Rst:=if ka s (kO s (Ja s st 91))=93 then([],(kO s (Ja s st 91)).qH)else CV s f (s.length+1) [] (kO s (Ja s st 91))
end
def dK(n:za)(x:Val):List (za×Val)->List (za×Val)
 |[]=>[(n,x)]
 |y::l=>if Op.bytesLess y.1 n=true then y::dK n x l else(n,x)::y::l
def Jy(n:za)(l:List (za×Val)):List (za×Val):=l.filter fun y=>!(y.1==n)
def Yh(l:List (za×Val))(n:za)(x:Val):List (za×Val):=dK n x (Jy n l)
section
variable(s:za)(f:Rst->Val×Rst)
def pH(l:List (za×Val))(st:Rst):Rst:=if(l.map (·.1)).contains (kM s st).1=true then(kM s st).2.fail st.p 7 else(kM s st).2
def uP(l:List (za×Val))(st:Rst):Rst:=kO s (Ja s (kO s (pH s l st)) 58)
def CW:Nat->List (za×Val)->Rst->List (za×Val)×Rst
 | 0,l,st=>(l,st)
 |k+1,l,st=>if st.b≠none then(l,st)else
  if(K9 s (f (uP s l (kO s st))).2 125).1=true then CW k (Yh l (kM s (kO s st)).1 (f (uP s l (kO s st))).1) (K9 s (f (uP s l (kO s st))).2 125).2
  else(Yh l (kM s (kO s st)).1 (f (uP s l (kO s st))).1,(K9 s (f (uP s l (kO s st))).2 125).2)
def JQ(st:Rst):List (za×Val)×Rst:=if ka s (kO s (Ja s st 123))=125 then([],(kO s (Ja s st 123)).qH)else CW s f (s.length+1) [] (kO s (Ja s st 123))
def ky:Nat->Rst->Val×Rst
 | 0,st=>(zV,st)
 |k+1,st=>
  if ka s st=110 then(zV,oW s [110,117,108,108] st)
  else if ka s st=116 then(.mk 1 1 [] [] [],oW s [116,114,117,101] st)
  else if ka s st=102 then(.mk 1 0 [] [] [],oW s [102,97,108,115,101] st)
  else if ka s st=34 then(.mk 3 0 (kM s st).1 [] [],(kM s st).2)
  else if ka s st=91 then(.mk 4 0 [] (ZE s (ky k) st).1 [],(ZE s (ky k) st).2)
  else if ka s st=123 then(.mk 5 0 [] [] (JQ s (ky k) st).1,(JQ s (ky k) st).2)
  else if ka s st=45\/jg (ka s st)=true then F2 s st
  else(zV,st.fail st.p 10)
end
section
variable{s:za}
theorem Vd{st:Rst}(h:st.b≠none):ka s st=0:=by
 unfold ka;cases a:st.b with
 |none=>exact absurd a h
 |some q=>rfl
theorem ah{st:Rst}(h:st.b≠none)(k:Nat)(x:Int):st.fail k x=st:=by
 unfold Rst.fail;cases a:st.b with
 |none=>exact absurd a h
 |some q=>rfl
theorem HF(st:Rst)(k:Nat)(x:Int):(st.fail k x).b≠none:=by
 unfold Rst.fail;cases a:st.b with
 |none=>intro e;cases e
 |some q=>intro e;simp only[a]at e;cases e
theorem uQ{st:Rst}{c:UInt8}(h:st.b≠none)(a:c≠0):Ja s st c=st:=by unfold Ja;rw[Vd h,zf (fun e=>a e.symm),ah h]
theorem dL{st:Rst}(h:st.b≠none):kO s st=st:=by
 unfold kO;cases a:st.b with
 |none=>exact absurd a h
 |some q=>rfl
theorem HG{st:Rst}(h:st.b≠none):∀w:za,(∀c∈w,c≠0)->oW s w st=st
 |[],_=>rfl
 |c::w,a=>by rw[oW,uQ h (a c (by simp))];exact HG h w fun d hd=>a d (by simp[hd])
theorem nC:∀(w:za) (st:Rst),(∀c∈w,c≠0)->st.p<=s.length->st.p<=(oW s w st).p/\(oW s w st).p<=s.length
 |[],st,_,h=>⟨zk _,h⟩
 |c::w,st,a,h=>by have b:=Xi (s:=s) c (a c (by simp)) h;have e:=nC w (Ja s st c) (fun d hd=>a d (by simp[hd])) b.2;rw[oW];omega
theorem Po{st:Rst}(most:Nat)(h:st.p<=s.length):st.p<=(fo s st most).2.p/\(fo s st most).2.p<=s.length/\(fo s st most).1.length<=most:=by
 have:=Fv (s:=s) h;unfold fo;split
 ·simp only[xu,ze];omega
 ·split
  ·simp only[xu,ze];omega
  ·simp only;omega
theorem U2{l:za}(h:∀c∈l,jg c=true):kg l=true:=qB.2 fun c a=>by have:=h c a;rw[<-dq,Fs]at this;exact this
theorem CX(st:Rst)(most:Nat):∀c∈(fo s st most).1,jg c=true:=by
 unfold fo;split
 ·simp
 ·split
  ·simp
  ·unfold A1;split
   ·intro c a;have:=List.all_takeWhile (l:=s.drop st.p) (p:=jg);exact qB.1 this c a
   ·simp
theorem j7{st:Rst}{c:UInt8}(h:ka s st=c)(a:c≠0):st.p<=st.qH.p/\st.qH.p<=s.length:=by have:=(xO h a).1;simp only[Rst.qH];omega
theorem uR{st:Rst}(h:st.p<=s.length):st.p<=(A2 s st).p/\(A2 s st).p<=s.length:=by
 unfold A2;split
 ·rename_i a;exact j7 a (by decide)
 ·exact⟨zk _,h⟩
theorem uS{st:Rst}(h:st.p<=s.length):st.p<=(iI s st).2.p/\(iI s st).2.p<=s.length/\(iI s st).1.length<=12:=by
 unfold iI;split
 ·rename_i a;have:=j7 a (by decide);simp only;split
  ·rw[xu];exact⟨this.1,this.2,by decide⟩
  ·exact⟨this.1,this.2,by decide⟩
 ·exact Po 12 h
theorem nD(st:Rst):∀c∈(iI s st).1,jg c=true:=by
 unfold iI;split
 ·intro c a;simp at a;subst a;decide
 ·exact CX st 12
theorem lu{st:Rst}(h:st.p<=s.length):st.p<=(Jh s st).2.p/\(Jh s st).2.p<=s.length/\(Jh s st).1.length<=3:=by
 unfold Jh;split
 ·rename_i a;have b:=j7 a (by decide);have c:=Po (s:=s) (st:=st.qH) 3 b.2;omega
 ·exact⟨zk _,h,by simp⟩
theorem fB(st:Rst):∀c∈(Jh s st).1,jg c=true:=by
 unfold Jh;split
 ·exact CX _ 3
 ·simp
theorem zdw{st:Rst}(h:st.p<=s.length):st.p<=(F2 s st).2.p/\(F2 s st).2.p<=s.length:=by have a:=uR (s:=s) h;have b:=uS (s:=s) a.2;have c:=lu (s:=s) b.2.1;simp only[F2];omega
theorem sr(k:Nat):Lib.repeatL [48] k=List.replicate k 48:=by
 induction k with
 |zero=>rfl
 |succ k a=>rw[Lib.repeatL,a];rfl
theorem U3{st:Rst}(h:st.p<=s.length):aJ s st≠[]/\kg (aJ s st)=true/\(aJ s st).length<=15:=by
 have d:=uR (s:=s) h;have f:=uS (s:=s) d.2;have g:=lu (s:=s) f.2.1;have b:(aJ s st).length=(iI s (A2 s st)).1.length+(Jh s (iI s (A2 s st)).2).1.length+(3-(Jh s (iI s (A2 s st)).2).1.length):=by simp only[aJ,w7,sr,zek]
 refine⟨fun e=>?_,U2 fun c a=>?_,by omega⟩
 ·rw[e]at b;simp only[ze]at b;omega
 ·simp only[aJ,sr,qO,zjh]at a;rcases a with(a|a)|a
  ·exact nD _ c a
  ·exact fB _ c a
  ·rw[a.2];decide
theorem Pp:∀(k n:Nat) (st:Rst),st.p<=s.length->st.p<=(iJ s k n st).2.p/\(iJ s k n st).2.p<=s.length
 | 0,n,st,h=>⟨zk _,h⟩
 |k+1,n,st,h=>by
  rw[iJ];split
  ·rename_i d hd;have a:ka s st≠0:=fun e=>by rw[e]at hd;cases hd
   have b:=j7 rfl a;have:=Pp k (n*16+d) st.qH b.2;omega
  ·simp only[xu];exact⟨zk _,h⟩
theorem F4{st:Rst}(h:st.p<=s.length):st.p<=(pG s st).2.p/\(pG s st).2.p<=s.length:=by
 unfold pG;split
 ·rename_i a;refine j7 rfl fun e=>?_
  rw[e]at a;exact absurd a (by decide)
 ·split
  ·rename_i b;have c:=j7 b (by decide);have d:=Pp (s:=s) 4 0 st.qH c.2;split
   ·simp only;omega
   ·simp only;split
    ·rw[xu];omega
    ·omega
  ·simp only[xu];exact⟨zk _,h⟩
theorem F5:∀(k:Nat) (b:za) (st:Rst),st.p<=s.length->st.p<=(A3 s k b st).2.p/\(A3 s k b st).2.p<=s.length/\(A3 s k b st).1.length<=b.length+((A3 s k b st).2.p-st.p)
 | 0,b,st,h=>by simp only[A3];exact⟨zk _,h,by simp⟩
 |k+1,b,st,h=>by
  rw[A3];split
  ·exact⟨zk _,h,by simp⟩
  split
  ·simp only[xu];exact⟨zk _,h,by simp⟩
  split
  ·rename_i d;have:=j7 d (by decide);exact⟨this.1,this.2,Nat.le_add_right _ _⟩
  split
  ·rename_i d;have a:=j7 d (by decide);have i:st.qH.p=st.p+1:=rfl;have g:=F4 (s:=s) a.2;have c:=F5 k (b++[(pG s st.qH).1]) (pG s st.qH).2 g.2;simp only[w7,zem]at c;omega
  ·rename_i a g c;have f:ka s st≠0:=fun e=>a (by rw[e];exact .inl (by decide))
   have a:=j7 rfl f;have i:st.qH.p=st.p+1:=rfl;have c:=F5 k (b++[ka s st]) st.qH a.2;simp only[w7,zem]at c;omega
theorem uT{st:Rst}(h:st.p<=s.length):st.p<=(kM s st).2.p/\(kM s st).2.p<=s.length/\(kM s st).1.length<=(kM s st).2.p-st.p:=by have a:=Xi (s:=s) 34 (by decide) h;have b:=F5 (s:=s) (s.length+1) [] (Ja s st 34) a.2;simp only[ze,zh]at b;unfold kM;omega
theorem nE(n:Nat)(a b:za):WS n (a++b)=WS (WS n a) b:=by simp only[WS,Ii]
theorem bY:∀(l:za) (n:Nat),WS n l=n*10 ^ l.length+WS 0 l
 |[],n=>by simp[WS]
 |c::l,n=>by
  have a:∀m,WS m (c::l)=WS (m*10+(c.toNat-48)) l:=fun m=>rfl
  rw[a,a,bY l,bY l (0*10+_),zd,eu,zbm,zh,yc,MP,Yi 10,lF]
theorem nF(n:Nat):∀k,WS n (List.replicate k 48)=n*10 ^ k
 | 0=>by simp[WS]
 |k+1=>by rw[List.replicate_succ',nE,nF n k,eu,<-MP];simp[WS]
theorem gM:∀(l:za) (n:Nat),(∀c∈l,jg c=true)->Lib.decFrom n l=some (WS n l)
 |[],n,_=>rfl
 |c::l,n,h=>by
  have a:=h c (by simp);rw[Qr]at a;simp only[zD,q5]at a;have:=gM l (n*10+(c.toNat-48)) fun d hd=>h d (by simp[hd])
  simp only[Lib.decFrom,Lib.digitVal,a,and_self,zK];exact this
theorem Pq{l:za}(a:l≠[])(h:∀c∈l,jg c=true):QZ l=(WS 0 l:Nat):=by unfold QZ Lib.decNat;rw[zf (by simpa using a),gM l 0 h];rfl
theorem LH(a b:za)(g:∀c∈a,jg c=true)(h:∀c∈b,jg c=true)(i:b.length<=3):QZ (a++b++Lib.repeatL [48] (3-b.length))=((WS 0 a*1000+WS 0 b*10 ^ (3-b.length):Nat):Int):=by
 have f:a++b++Lib.repeatL [48] (3-b.length)≠[]:=fun e=>by have:=zp List.length e;simp only[w7,sr,zek,ze]at this;omega
 rw[Pq f fun c d=>by
  simp only[sr,qO,zjh]at d;rcases d with(d|d)|d
  ·exact g c d
  ·exact h c d
  ·rw[d.2];decide]
 rw[sr,nE,nE,nF,bY b (WS 0 a),yc,MP,<-Nat.pow_add,show b.length+(3-b.length)=3 by omega]
theorem jE.int{a:Jst}{b:Rst}(h:jE a b)(Y:b.p<=s.length)(c:b.b=none):jE (Xd s a).2 (iI s b).2/\((iI s b).2.b=none->(Xd s a).1=WS 0 (iI s b).1):=by
 unfold Xd iI;rw[YS h c];by_cases d:jq s a=48
 ·rw[zg d,zg d,YS h.qH c];have f:ka s b=48:=by rw[YS h c];exact d
  have i:=j7 f (by decide);have g:a.qH.p=b.qH.p:=(h.qH.Zm c).2;refine⟨?_,fun _=>rfl⟩;simp only;split
  ·rw[g];exact h.qH.fail i.2 (by decide)
  ·exact h.qH
 ·rw[zf d,zf d];have:=h.dg Y c (most:=12) (by omega);exact⟨this.1,fun e=>(this.2 e).1⟩
theorem jE.frac{a:Jst}{b:Rst}(h:jE a b)(n:Nat):jE (Wt s n a).2 (Jh s b).2/\((Jh s b).2.b=none->(Wt s n a).1=n+WS 0 (Jh s b).1*10 ^ (3-(Jh s b).1.length)):=by
 unfold Wt Jh;cases c:b.b with
 |none=>
  rw[YS h c];have i:=h.Zm c;by_cases d:jq s a=46
  ·rw[zg ⟨i.1,d⟩,zg d];have f:ka s b=46:=by rw[YS h c];exact d
   have j:=j7 f (by decide);have:=h.qH.dg j.2 (by exact c) (most:=3) (by omega);refine⟨this.1,fun e=>?_⟩;obtain⟨l,m,_⟩:=this.2 e;simp only;rw[l,m]
  ·rw[zf (fun e=>d e.2),zf d];exact⟨h,fun _=>by simp[WS]⟩
 |some q=>
  obtain⟨k,x⟩:=q;have hs:=h.XX c;have g:b.b≠none:=by rw[c];intro e;cases e
  rw[Vd g,zf (fun e=>hs.2.1 (hs.1.symm.trans e.1)),zf (by decide)];exact⟨h,fun _=>by simp[WS]⟩
theorem jE.num{a:Jst}{b:Rst}(h:jE a b)(Y:b.p<=s.length)(f:b.b=none):jE (aE s a).2 (F2 s b).2/\((F2 s b).2.b=none->(aE s a).1=(F2 s b).1):=by
 have j:jE (if jq s a=45 then a.qH else a) (A2 s b)/\(A2 s b).b=none:=by
  unfold A2;rw[YS h f];split
  ·exact⟨h.qH,f⟩
  ·exact⟨h,f⟩
 have c:=uR (s:=s) Y;have k:=j.1.int c.2 j.2;have l:=k.1.frac (s:=s) ((Xd s (if jq s a=45 then a.qH else a)).1*1000);have m:=uS (s:=s) c.2;have g:=lu (s:=s) m.2.1;simp only[aE,F2];refine⟨l.1,fun e=>?_⟩;have i:(iI s (A2 s b)).2.b=none:=by
  cases n:(iI s (A2 s b)).2.b with
  |none=>rfl
  |some q=>
   have d:(iI s (A2 s b)).2.b≠none:=by rw[n];intro e;cases e
   unfold Jh at e;rw[Vd d,zf (by decide)]at e;exact absurd e d
 rw[l.2 e,k.2 i,aJ,LH _ _ (nD _) (fB _) g.2.2,YS h f]
theorem jE.wd:∀(w:za) {a:Jst} {b:Rst},jE a b->b.p<=s.length->(∀c∈w,c≠0)->jE (Ep s w a) (oW s w b)
 |[],a,b,h,_,_=>h
 |c::w,a,b,h,Y,g=>by
  have i:=g c (by simp);have f:∀d∈w,d≠0:=fun d hd=>g d (by simp[hd])
  obtain⟨j,k⟩:=h.S6 i Y;rw[Ep,oW];split
  ·exact jE.wd w j (Xi c i Y).2 f
  ·rename_i l;rw[HG (fun e=>l (k.2 e)) w f];exact j
theorem jE.hx:∀(k n:Nat) {a:Jst} {b:Rst},jE a b->b.b=none->b.p<s.length->(eB s k n a).1=(iJ s k n b.qH).1/\jE (eB s k n a).2 (iJ s k n b.qH).2
 | 0,n,a,b,h,c,Y=>⟨rfl,h.qH⟩
 |k+1,n,a,b,h,c,Y=>by
  have i:=YS (s:=s) h.qH c;have j:(s[a.qH.p]?).bind KZ=KZ (jq s a.qH):=by
   unfold jq;cases s[a.qH.p]? with
   |none=>rfl
   |some x=>rfl
  have f:a.qH.p=b.qH.p:=(h.qH.Zm c).2;rw[eB,iJ,i,j];cases hd:KZ (jq s a.qH)with
  |none=>refine⟨rfl,?_⟩;simp only;rw[f];exact h.qH.fail Y (by decide)
  |some d=>
   have g:ka s b.qH≠0:=fun e=>by rw[<-i,e]at hd;cases hd
   exact jE.hx k (n*16+d) h.qH c (xO rfl g).1
theorem jE.esc{a:Jst}{b:Rst}(h:jE a b)(g:b.b=none)(Y:b.p<=s.length):jE (WQ s a).2 (pG s b).2/\(WQ s a).1=(pG s b).1:=by
 have k:=YS (s:=s) h g;have c:=(h.Zm g).2;unfold WQ pG;rw[k];by_cases d:jq s a=34\/jq s a=92\/jq s a=47
 ·have j:a.p<s.length:=by rcases d with e|e|e<;>exact Ww e (by decide)
  rw[zg ⟨j,d⟩,zg d];exact⟨h.qH,rfl⟩
 ·rw[zf (fun e=>d e.2),zf d];by_cases f:jq s a=117
  ·have j:=Ww f (by decide);rw[zf (fun e=>e.elim (fun e=>by omega) fun e=>e f),zg f]
   obtain⟨l,i⟩:=jE.hx (s:=s) 4 0 h g (by omega);rw[l];cases (iJ s 4 0 b.qH).1 with
   |none=>exact⟨i,rfl⟩
   |some n=>
    refine⟨?_,rfl⟩;simp only;split
    ·rw[c];exact i.fail Y (by decide)
    ·exact i
  ·rw[zg (.inr f),zf f,c];exact⟨h.fail Y (by decide),rfl⟩
theorem jE.tx:∀(k:Nat) (d:za) {a:Jst} {b:Rst},jE a b->b.p<=s.length->jE (AZ s k d a).2 (A3 s k d b).2/\((A3 s k d b).2.b=none->(AZ s k d a).1=(A3 s k d b).1)
 | 0,d,a,b,h,_=>⟨h,fun _=>rfl⟩
 |k+1,d,a,b,h,Y=>by
  rw[AZ,A3];cases j:b.b with
  |some q=>obtain⟨i,x⟩:=q;have hs:=h.XX j;rw[zg (by rw[hs.1];exact hs.2.1),zg (by intro e;cases e)];exact⟨h,fun _=>rfl⟩
  |none=>
   have hs:=h.Zm j;have o:=YS (s:=s) h j;rw[zf (by simpa using hs.1),zf (fun e:(none:Option (Nat×Int))≠none=>e rfl),o];have f:(s.length<=a.p\/jq s a<32\/126<jq s a)↔(jq s a<32\/126<jq s a):=by
    refine⟨fun e=>?_,.inr⟩;rcases e with e|e
    ·refine .inl ?_;rw[jq,wq e];decide
    ·exact e
   by_cases g:jq s a<32\/126<jq s a
   ·rw[zg (f.2 g),zg g,hs.2];exact⟨h.fail Y (by decide),fun _=>rfl⟩
   ·rw[zf (fun e=>g (f.1 e)),zf g];have n:ka s b≠0:=fun e=>g (by rw[<-o,e];exact .inl (by decide))
    have c:=j7 rfl n;by_cases l:jq s a=34
    ·rw[zg l,zg l];exact⟨h.qH,fun _=>rfl⟩
    ·rw[zf l,zf l];by_cases m:jq s a=92
     ·rw[zg m,zg m];obtain⟨r,t⟩:=h.qH.esc (s:=s) j c.2;rw[t];exact jE.tx k _ r (F4 c.2).2
     ·rw[zf m,zf m];exact jE.tx k _ h.qH c.2
theorem HH{st:Rst}(h:st.b≠none)(k:Nat)(a:za):A3 s k a st=([],st):=by
 cases k with
 |zero=>rfl
 |succ k=>rw[A3,zg h]
theorem jE.text{a:Jst}{b:Rst}(h:jE a b)(Y:b.p<=s.length):jE (jt s a).2 (kM s b).2/\((kM s b).2.b=none->(jt s a).1=(kM s b).1):=by
 obtain⟨f,g⟩:=h.S6 (c:=34) (by decide) Y;unfold jt kM;split
 ·exact jE.tx _ _ f (Xi 34 (by decide) Y).2
 ·rename_i i;have d:(Ja s b 34).b≠none:=fun e=>i (g.2 e)
  rw[HH d];exact⟨f,fun _=>rfl⟩
end
theorem LI{l:za}(a:l≠[])(b:kg l=true):Lib.atoi l=some (QZ l):=by
 obtain⟨n,h,_⟩:=Qs l 0 b;have f:Lib.decNat l=some n:=by unfold Lib.decNat;rw[zf (by simpa using a)];exact h
 cases l with
 |nil=>exact absurd rfl a
 |cons c l=>
  have j:48<=c.toNat/\c.toNat<=57:=by have:=b;simp only[kg,wZ,zD]at this;simpa[Kc,pr]using this.1
  have i:QZ (c::l)=n:=by unfold QZ;rw[f];rfl
  rw[i];have g:∀d:UInt8,d.toNat<48->(c==d)=false:=fun d hd=>by rw[w8];intro e;subst e;omega
  unfold Lib.atoi;simp only[];rw[g 45 (by decide),g 43 (by decide),f];rfl
noncomputable def FAd:zb->Option O:=qW (α:=za) (fun l=>[str l]) (fun l=>l.length<=18/\l≠[]/\kg l=true) (fun l=>.wL [int (QZ l),.v .nilIface])
theorem Em:zi prog 157 (zn false [] FAd):=
 j5 ⟨_,func157,by kernel_rfl,by kernel_rfl⟩ fun args r h=>by
  obtain⟨l,rfl,⟨c,d,f⟩,rfl⟩:=zL h;refine⟨[.string ⟨l.toArray⟩],rfl,by simp[lit],rfl,.tuple #[.int .i64 (QZ l),.nilIface],fun w S=>.wL rfl fun j i u a b=>?_,fun w S _=>?_⟩
  ·match j,a,b with
   | 0,a,b=>simp at a b;subst a;subst b;exact .v rfl
   | 1,a,b=>simp at a b;subst a;subst b;exact .v rfl
   |j+2,a,b=>simp at a
  refine(Any.strconv_Atoi Tryz.Ip ⟨l.toArray⟩ (QZ l) (by simpa using c) (by simpa using LI d f) w).mono fun e k g=>?_
  obtain⟨rfl,t,rfl⟩:=g;exact⟨rfl,B6 _ _ _⟩
theorem F6(l:za)(Y:Hp)(Z:Nat)(c:l.length<=18)(d:l≠[])(f:kg l=true):zn false [] FAd [str l] Y Z=some (.wL [int (QZ l),.v .nilIface],Y,Z):=
 iX l _ _ rfl (fun a b e=>by simp only[zq,qh]at e;exact yp e) ⟨c,d,f⟩ (.inl rfl)
noncomputable abbrev Cnr:Ctx:=qj prog [(97,bG),(102,zn false [] (BE iC)),(104,JL),(156,dgRS),(158,zn false [] FRt),(157,zn false [] FAd)]
theorem zdx:AM.jH False Cnr (fun g=>[97].contains g):=qx mixed ⟨xm.lax,fun _=>ym _ _,xX.lax,by simp,xW.lax,by simp,MQ.lax,by simp,uO,by simp,Em.lax,by simp,trivial⟩
noncomputable abbrev nmRS:AM.Spec:=mR aU (fun _ _ _=>True) (fun s st _=>(F2 s st).2) (fun s st _=>.agg (F2 s st).1.V)
theorem Pr{s:za}{st:Rst}{Y:Hp}{id Z:Nat}(a:Y id=some (qL s st))(hs:s.length<=1048576)(b:st.p<=s.length):nmRS [.ref id 0 0] Y Z=some (.agg (F2 s st).1.V,qf Y id (some (qL s (F2 s st).2)),Z):=ZP y5 (fun _=>rfl) () a hs b trivial
theorem Wi{s:za}{st:Rst}{Y:Hp}{Z:Nat}(a:Y 0=some (qL s st))(hs:s.length<=1048576)(b:st.p<=s.length):bG [.ref 0 0 0] Y Z=some (.v (.int .u8 (ka s st).toNat),Y,Z):=YL a hs b
theorem U4{l:za}(h:kg l=true):0<=QZ l/\QZ l<10 ^ l.length:=by
 obtain⟨n,c,a⟩:=Qs l 0 h;unfold QZ Lib.decNat;split
 ·rename_i b;simp at b;subst b;simp
 ·rw[c];simp only[WJ,zh,Nat.one_mul]at a⊢;exact⟨by omega,by exact_mod_cast a⟩
theorem LJ:wO False prog 103 nmRS:=
 wi (code:=_) zdx ⟨func103,by kernel_rfl,rfl,by kernel_rfl⟩ TR _ fun cs az cs' r h=>by
  obtain⟨s,st,⟨⟩,rfl,rfl,hs,Y,_,rfl,rfl⟩:=xt h;refine⟨by simp[aU,f103],?_⟩;clear h;refine zM (fun M Y Z=>M 0=.ref 0 0 0/\M 2=.ref 1 0 0/\Y 0=some (qL s st)/\Y 1=some jC/\Z=2) (by simp[aU,zZ,zz,qa,jC,zc]) ?_;rintro M Y1 _ ⟨l,m,i,j,rfl⟩;refine zM (fun d Y Z=>d 0=.ref 0 0 0/\d 2=.ref 1 0 0/\d 3=yh (decide (ka s st=45))/\Y 0=some (qL s st)/\Y 1=some jC/\Z=2) ?_ ?_
  ·have g:=Wi (Z:=2) i hs Y;by_cases o:ka s st=45
   ·rw[o]at g;simp[l,m,g,i,j,o]
   ·have this:(((ka s st).toNat:Int)==45)=false:=WW 45 o;simp[l,m,g,i,j,o,this]
  clear l m i j M Y1;rintro M Y1 _ ⟨l,m,q,i,j,rfl⟩;obtain⟨e,k⟩:=wM (A2 s st);have x:e.p<=s.length:=by rw[<-k];exact(uR Y).2
  refine zM (fun d Y Z=>d 0=.ref 0 0 0/\d 2=.ref 1 0 0/\d 3=yh (decide (ka s st=45))/\Y 0=some (qL s e)/\Y 1=some jC/\Z=2) ?_ ?_
  ·simp only[zz,qa,zd,ze,zh,Nat.reduceAdd]at i⊢;unfold A2 at k;by_cases o:ka s st=45
   ·have E:=wj ((st.p:Int)+1);rw[zg o]at k;have v:(⟨st.p+1,st.b⟩:Rst).bad=st.bad/\(⟨st.p+1,st.b⟩:Rst).QO=st.QO:=⟨rfl,rfl⟩;simp[l,m,q,i,j,o,<-k,E,Rst.qH,v,zc]
   ·rw[zf o]at k;simp[l,m,q,i,j,o,<-k]
  clear l m q i j M Y1;rintro M Y1 _ ⟨l,m,q,i,j,rfl⟩;refine zM (fun d Y Z=>d 0=.ref 0 0 0/\d 2=.ref 1 0 0/\d 3=yh (decide (ka s st=45))/\Y 0=some (qL s e)/\Y 1=some jC/\Z=2) (by simp[l,m,q,i,j]) ?_;clear l m q i j M Y1;rintro M Y1 _ ⟨l,m,q,i,j,rfl⟩;obtain⟨a,L⟩:=wM (iI s e);have I:=uS (s:=s) x;have N:=nD (s:=s) e;rw[L]at I N;refine zM (fun d Y Z=>d 0=.ref 0 0 0/\d 2=.ref 1 0 0/\d 3=yh (decide (ka s st=45))/\d 4=str a.1/\Y 0=some (qL s a.2)/\Y 1=some jC/\Z=2) ?_ ?_
  ·have g:=Wi (Z:=2) i hs x;by_cases o:ka s e=48
   ·have W:=j7 o (by decide);have hl1:e.qH.p=e.p+1:=rfl;have E:=wj ((e.p:Int)+1);rw[o]at g;obtain⟨c,P⟩:=wM (ka s e.qH);have C:qf Y1 0 (some (qL s e.qH)) 0=some (qL s e.qH):=by simp
    have u:=Wi (Z:=2) C hs W.2;have g3:=vq (Z:=2) e.qH.p 10 C hs W.2;rw[P]at u;have t:iI s e=([48],if jg c=true then e.qH.fail e.qH.p 10 else e.qH):=by rw[iI,zg o,P]
    rw[L,<-dq]at t;have v:(⟨e.p+1,e.b⟩:Rst).bad=e.bad/\(⟨e.p+1,e.b⟩:Rst).QO=e.QO:=⟨rfl,rfl⟩;simp only[zz,qa,Rst.qH,v,zd,ze,zh,Nat.reduceAdd,yk,qu]at i u g3⊢;cases hd:iC c.toNat
    ·rw[hd]at t;simp only[zm,zQ]at t;simp[l,m,q,i,j,g,u,E,hd,t,v,zc,Rst.qH]
    ·rw[hd]at t;simp only[zK]at t;simp[l,m,q,i,j,g,u,g3,E,hd,t,v,zc,Rst.qH]
   ·have J:(((ka s e).toNat:Int)==48)=false:=WW 48 o;have t:iI s e=fo s e 12:=by rw[iI,zf o]
    have u:=Co (Z:=2) 12 i hs x (by omega);simp only[qu]at u;rw[L]at t;simp[l,m,q,j,g,u,J,t,zc]
  clear l m q i j M Y1;rintro M Y1 _ ⟨l,m,q,B,i,j,rfl⟩;obtain⟨Q,f⟩:=a;simp only at I N B i;have F:=I.2.1;obtain⟨b,y⟩:=wM (Jh s f);have R:=lu (s:=s) F;have G:=fB (s:=s) f;rw[y]at R G;refine zM (fun d Y Z=>d 0=.ref 0 0 0/\d 2=.ref 1 0 0/\d 3=yh (decide (ka s st=45))/\d 4=str Q/\d 5=str []/\Y 0=some (qL s f)/\Y 1=some jC/\Z=2) (by simp[l,m,q,B,i,j]) ?_;clear l m q B i j M Y1;rintro M Y1 _ ⟨l,m,q,B,K,i,j,rfl⟩;refine zM (fun d Y Z=>d 0=.ref 0 0 0/\d 2=.ref 1 0 0/\d 3=yh (decide (ka s st=45))/\d 4=str Q/\d 5=str b.1/\Y 0=some (qL s b.2)/\Y 1=some jC/\Z=2) ?_ ?_
  ·have g:=Wi (Z:=2) i hs F;by_cases o:ka s f=46
   ·have W:=j7 o (by decide);have hl1:f.qH.p=f.p+1:=rfl;have E:=wj ((f.p:Int)+1);rw[o]at g;have A:Jh s f=fo s f.qH 3:=by rw[Jh,zg o]
    rw[y]at A;have C:qf Y1 0 (some (qL s f.qH)) 0=some (qL s f.qH):=by simp
    have u:=Co (Z:=2) 3 C hs W.2 (by omega);have v:(⟨f.p+1,f.b⟩:Rst).bad=f.bad/\(⟨f.p+1,f.b⟩:Rst).QO=f.QO:=⟨rfl,rfl⟩;rw[<-A]at u;simp only[zz,qa,Rst.qH,v,zd,ze,zh,Nat.reduceAdd,yk,qu]at i u⊢;simp[l,m,q,B,i,j,g,u,E,zc]
   ·have J:(((ka s f).toNat:Int)==46)=false:=WW 46 o;have A:Jh s f=([],f):=by rw[Jh,zf o]
    rw[y]at A;simp[l,m,q,B,K,i,j,g,J,A]
  clear l m q B K i j M Y1;rintro M Y1 _ ⟨l,m,q,B,K,i,j,rfl⟩;obtain⟨w,st3⟩:=b;simp only at R G K i;have D:=U3 (s:=s) Y;have H:aJ s st=Q++w++Lib.repeatL [48] (3-w.length):=by simp only[aJ,k,L,y]
  have S:F2 s st=(pd (if ka s st=45 then -QZ (aJ s st)else QZ (aJ s st)),st3):=by simp only[F2,k,L,y]
  rw[S];have X:=fun Y Z=>U1 48 (3-(w.length:Int)) Y Z (by omega) (by omega)
  rw[show(3-(w.length:Int)).toNat=3-w.length by omega]at X;have u:=fun Y Z=>F6 (aJ s st) Y Z (by omega) D.1 D.2.1
  have hnb:=U4 D.2.1;have hp10:(10:Int) ^ (aJ s st).length<=10 ^ 15:=by
   exact_mod_cast KB (n:=10) (by omega) D.2.2
  obtain⟨z,hz⟩:=wM (Lib.repeatL [48] (3-w.length));have T:z.length=3-w.length:=by rw[<-hz,sr,zek]
  rw[hz]at X H;obtain⟨n,hn⟩:=wM (QZ (aJ s st));rw[hn]at u hnb⊢;rw[H,qP]at u;have w3:=wj (3-(w.length:Int));have U:¬(3-(w.length:Int))<0:=by omega
  have m1:Q.length+w.length<=maxLen:=by unfold maxLen;omega
  have m2:Q.length+w.length+(3-w.length)<=maxLen:=by unfold maxLen;omega
  simp only[jC]at j;by_cases o:ka s st=45
  ·have E:=wj (-n);simp[l,m,q,B,K,j,o,E,X,u,w3,U,m1,m2,T,pd,zI,qe,f103];exact qc rfl (by rw[zc _ _ _ _ (by decide)];exact i) kD rfl
  ·simp[l,m,q,B,K,j,o,X,u,w3,U,m1,m2,T,pd,zI,qe,f103];exact qc rfl (by rw[zc _ _ _ _ (by decide)];exact i) kD rfl
end Go.Q
namespace Go.Proofs
open Go.Shelf
def Tryz.hZ:Go.Shelf.Ren:=⟨fun|118=>309|159=>246|165=>207|166=>208|167=>289|168=>310|169=>210|197=>187|204=>291|230=>290|240=>256|241=>257|242=>322|260=>229|262=>312|270=>311|274=>327|275=>328|276=>297|277=>298|278=>326|313=>323|n=>n,fun|0=>0|3=>3|4=>4|5=>5|9=>9|20=>20|21=>21|37=>157|46=>88|51=>131|70=>209|72=>211|75=>162|76=>163|80=>45|105=>189|107=>273|119=>264|127=>248|138=>266|139=>267|160=>304|162=>301|164=>279|203=>299|206=>312|208=>314|n=>n,fun|3=>1|4=>2|13=>5|n=>n⟩
theorem Tryz.zbw:Go.Proofs.Lays.n159 prog Tryz.hZ:={
 mixed:=by kernel_rfl
 f118:=func309.trans (zp some (by kernel_rfl))
 f159:=func246.trans (zp some (by kernel_rfl))
 f165:=func207.trans (zp some (by kernel_rfl))
 f166:=func208.trans (zp some (by kernel_rfl))
 f167:=func289.trans (zp some (by kernel_rfl))
 f168:=func310.trans (zp some (by kernel_rfl))
 f169:=func210.trans (zp some (by kernel_rfl))
 f197:=func187.trans (zp some (by kernel_rfl))
 f204:=func291.trans (zp some (by kernel_rfl))
 f230:=func290.trans (zp some (by kernel_rfl))
 f240:=func256.trans (zp some (by kernel_rfl))
 f241:=func257.trans (zp some (by kernel_rfl))
 f242:=func322.trans (zp some (by kernel_rfl))
 f260:=func229.trans (zp some (by kernel_rfl))
 f262:=func312.trans (zp some (by kernel_rfl))
 f270:=func311.trans (zp some (by kernel_rfl))
 f274:=func327.trans (zp some (by kernel_rfl))
 f275:=func328.trans (zp some (by kernel_rfl))
 f276:=func297.trans (zp some (by kernel_rfl))
 f277:=func298.trans (zp some (by kernel_rfl))
 f278:=func326.trans (zp some (by kernel_rfl))
 f313:=func323.trans (zp some (by kernel_rfl))
 t0:=underlying0
 a0:=isAgg0
 z0:=sizeOf0
 v0:=zeroValue0
 t3:=underlying3
 a3:=isAgg3
 z3:=sizeOf3
 v3:=zeroValue3
 t4:=underlying4
 a4:=isAgg4
 z4:=sizeOf4
 v4:=zeroValue4
 t5:=underlying5
 a5:=isAgg5
 z5:=sizeOf5
 v5:=zeroValue5
 t9:=underlying9
 a9:=isAgg9
 z9:=sizeOf9
 v9:=zeroValue9
 t20:=underlying20
 a20:=isAgg20
 z20:=sizeOf20
 v20:=zeroValue20
 t21:=underlying21
 a21:=isAgg21
 z21:=sizeOf21
 v21:=zeroValue21
 t37:=underlying157
 a37:=isAgg157
 z37:=sizeOf157
 v37:=zeroValue157
 t46:=underlying88
 a46:=isAgg88
 z46:=sizeOf88
 v46:=zeroValue88
 t51:=underlying131
 a51:=isAgg131
 z51:=sizeOf131
 v51:=zeroValue131
 t70:=underlying209
 a70:=isAgg209
 z70:=sizeOf209
 v70:=zeroValue209
 t72:=underlying211
 a72:=isAgg211
 z72:=sizeOf211
 v72:=zeroValue211
 t75:=underlying162
 a75:=isAgg162
 z75:=sizeOf162
 v75:=zeroValue162
 t76:=underlying163
 a76:=isAgg163
 z76:=sizeOf163
 v76:=zeroValue163
 t105:=underlying189
 a105:=isAgg189
 z105:=sizeOf189
 v105:=zeroValue189
 t107:=underlying273
 a107:=isAgg273
 z107:=sizeOf273
 v107:=zeroValue273
 t119:=underlying264
 a119:=isAgg264
 z119:=sizeOf264
 t127:=underlying248
 a127:=isAgg248
 z127:=sizeOf248
 v127:=zeroValue248
 t138:=underlying266
 a138:=isAgg266
 z138:=sizeOf266
 v138:=zeroValue266
 t139:=underlying267
 a139:=isAgg267
 z139:=sizeOf267
 v139:=zeroValue267
 t160:=underlying304
 a160:=isAgg304
 z160:=sizeOf304
 v160:=zeroValue304
 t162:=underlying301
 a162:=isAgg301
 z162:=sizeOf301
 v162:=zeroValue301
 t164:=underlying279
 a164:=isAgg279
 z164:=sizeOf279
 v164:=zeroValue279
 t203:=underlying299
 a203:=isAgg299
 z203:=sizeOf299
 v203:=zeroValue299
 t206:=underlying312
 a206:=isAgg312
 z206:=sizeOf312
 v206:=zeroValue312
 t208:=underlying314
 a208:=isAgg314
 z208:=sizeOf314
 v208:=zeroValue314
 g3:=by kernel_rfl
 g4:=by kernel_rfl
 g13:=by kernel_rfl}
theorem Tryz.ez:Builder.Extra prog Tryz.hZ:={
 sizeBuilder:=by kernel_rfl
 liesBuilder:=by kernel_rfl
 t5:=underlying5
 a5:=isAgg5
 z5:=sizeOf5
 v5:=zeroValue5
 infoByte:=by kernel_rfl
 cellsByte:=by kernel_rfl
 sizeByte:=by kernel_rfl
 neB5:=by decide}
end Go.Proofs
namespace Go.Q
theorem LK(c:UInt8)(h:c.toNat<128):Utf8.encode (c.toNat:Int)=⟨[c].toArray⟩:=by
 have a:Utf8.valid (c.toNat:Int)=true:=by simp[Utf8.valid];omega
 unfold Utf8.encode;simp only[a,zK,JE,h];simp
theorem _root_.Go.AM.Jd.zhq{dr:Prop}{C:Ctx}{N:Nat}{g:Array Oper}{i:Nat}{d:Tmp}{x:Operand}{b dst ty:TypeId}{p:String}{t:Array Edge}{l:List Nat}{st:St}{K:St->Prop}{k:IntKind}{c:UInt8}
  (y:g[i]?=some ⟨some d,.convert b dst x,ty,p,t,none⟩) (hd:d<N) (z:AM.get st.M x=some (.v (.int k c.toNat))) (o:c.toNat<128) (hs:(C.P.underlying b).isSome=true) (A:C.P.underlying dst=some .string)
  (h:Jd dr C N g l ⟨qf st.M d (str [c]),st.Y,st.Z⟩ K):Jd dr C N g (i::l) st K:=by
 intro B D L E F H a w Q q I;simp only[wpOpsIn,y];obtain⟨S,G,n⟩:=q;rw[cJ n.Zq,zg (VY _ _ _ _ _ _)];have r:∀c,(Op.convert b dst x:Op)≠.defer c:=fun c o=>by cases o
 refine⟨fun f _=>trivial,?_⟩;rw[Oper.semAt_eq _ _ _ r];obtain⟨s,_⟩:=(Jk n.Zq z).yn;have u:=run_convert_int_string w b dst k (c.toNat:Int) hs A;rw[LK c o,<-s]at u;have j:=h B D L E F H (a.put (some d) (.string ⟨[c].toArray⟩)) w Q ⟨S,G,n.step (dst:=some d) (.refl n.inv) (.c (.v rfl)) (fun _ e=>by cases e;exact hd)⟩ I;have m:(execOp a.eval ⟨some d,.convert b dst x,ty,p,t,none⟩).run C.P w=.ok (.value (.string ⟨[c].toArray⟩)) w:=by simp[execOp,u,-bind_pure_comp]
 rw[m];exact j
noncomputable def FLw:zb->Option O:=qW (α:=UInt8) (fun c=>[str [c]]) (fun c=>c.toNat<128) (fun c=>str [Lib.lowerB c])
theorem Ps(c:UInt8)(Y:Hp)(Z:Nat)(h:c.toNat<128):zn false [] FLw [str [c]] Y Z=some (str [Lib.lowerB c],Y,Z):=
 iX c _ _ rfl (fun a b e=>by simp only[zq,qh]at e;have:=yp e;injection this) h (.inl rfl)
theorem pI:wO False prog 246 (zn false [] FLw):=
 j5 ⟨_,func246,by kernel_rfl,by kernel_rfl⟩ fun xs r h=>by
  obtain⟨c,rfl,a,rfl⟩:=zL h;refine⟨[.string ⟨[c].toArray⟩],rfl,by simp[lit],rfl,.string ⟨[Lib.lowerB c].toArray⟩,fun w S=>.v rfl,fun w S i=>?_⟩;refine(Any.strings_ToLower_ascii Tryz.zbw Tryz.ez ⟨[c].toArray⟩ w (by simp[ByteArray.size]) (fun j b d=>?_)).mono fun e k f=>?_
  ·have:=zT d;simp at this;rw[this];exact a
  ·obtain⟨rfl,g⟩:=f;exact⟨rfl,CU g⟩
def uU(c:UInt8):Int:=match KZ c with
 |some d=>(d:Int)
 |none=>-1
theorem Pt(c:UInt8)(h:c.toNat<128):Lib.indexByte uH (Lib.lowerB c)=uU c:=by
 have a:(List.range 128).all (fun n=>Lib.indexByte uH (Lib.lowerB (UInt8.ofNat n))==uU (UInt8.ofNat n))=true:=by decide +kernel
 have:=qB.1 a c.toNat (xd.2 h);rw[UInt8.ofNat_toNat]at this;exact yI.1 this
theorem LL{c:UInt8}(h:127<c.toNat):KZ c=none:=by
 have hd:jg c=false:=by rw[Qr];simp;omega
 have a:128<=(c||| 32).toNat:=by rw[UInt8.toNat_or];exact z8 (by omega) (Nat.left_le_or)
 unfold KZ;rw[hd,zf (by decide),zf];rw[yv,yv];have b:(102:UInt8).toNat=102:=rfl;omega
noncomputable def Fsx:zb->Option O:=qW (α:=UInt8) (fun c=>[Zu c]) (fun c=>c.toNat<128) (fun c=>int (uU c))
theorem CY(c:UInt8)(Y:Hp)(Z:Nat)(h:c.toNat<128):zn false [] Fsx [Zu c] Y Z=some (int (uU c),Y,Z):=
 iX c _ _ rfl (fun a b e=>ue a b e) h (.inl rfl)
noncomputable abbrev Csx6:Ctx:=qj prog [(246,zn false [] FLw),(61,zn false [] (MZ Et))]
theorem zdy:AM.jH False Csx6 g0F:=qQ mixed ⟨pI,xf.lax,trivial⟩
theorem pJ:wO False prog 201 (zn false [] Fsx):=
 cP (C:=Csx6) func201 (by kernel_rfl) rfl false [] _ fun args r h=>by
  obtain⟨c,rfl,b,rfl⟩:=zL h;refine⟨by simp[f201],?_⟩;have a:=zdy;have d:=fun Y Z=>Ps c Y Z b
  have e:∀(Y:Hp) (Z:Nat),zn false [] (MZ Et) [.v (.string ⟨#[48,49,50,51,52,53,54,55,56,57,97,98,99,100,101,102]⟩),.v (.int .u8 (Lib.lowerB c).toNat)] Y Z=some (int (uU c),Y,Z):=fun Y Z=>by rw[<-Pt c b];exact Xe Et uH (Lib.lowerB c) Y Z (by decide) rfl
  refine Wp.seq (Wp.of a (by kernel_rfl) ?_);simp[Zu];have f:IntKind.i32.wrap (c.toNat:Int)=c.toNat:=by have g:(c.toNat:Int) % 4294967296=c.toNat:=Int.emod_eq_of_lt (by omega) (by omega);simp[IntKind.wrap,IntKind.bits,IntKind.signed,g];omega
  refine Wp.seq (Wp.region ?_);show Jd False Csx6 _ _ (List.range' 0 2++(2::(List.range' 3 4++[]))) _ _;refine Jd.pZ (l2:=[2,3,4,5,6]) a 0 2 (by decide) (by decide) ?_;simp[f];refine Jd.zhq (k:=.i32) (c:=c) rfl (by decide) (by simp[AM.get]) b (by kernel_rfl) un9 ?_;refine Jd.pZ (l2:=[]) a 3 4 (by decide) (by decide) ?_;simp[d,e];refine Jd.nil ?_;simp only[mc,ZQ];refine Wp.of a (by kernel_rfl) ?_;simp[f201]
noncomputable abbrev Cer:Ctx:=qj prog [(104,JL),(97,bG),(201,zn false [] Fsx)]
theorem zdz:AM.jH False Cer (fun g=>[97,201].contains g):=qx mixed ⟨xW.lax,by simp,xm.lax,fun _=>ym _ _,pJ,fun _=>zt _ _,trivial⟩
noncomputable abbrev esRS:AM.Spec:=mR aU (fun _ _ _=>True) (fun s st _=>(pG s st).2) (fun s st _=>Zu (pG s st).1)
theorem Pu{s:za}{st:Rst}{Y:Hp}{id Z:Nat}(a:Y id=some (qL s st))(hs:s.length<=1048576)(b:st.p<=s.length):esRS [.ref id 0 0] Y Z=some (Zu (pG s st).1,qf Y id (some (qL s (pG s st).2)),Z):=ZP y5 (fun _=>rfl) () a hs b trivial
theorem LM:wO False prog 151 esRS:=
 wi (code:=_) zdz ⟨func151,by kernel_rfl,rfl,by kernel_rfl⟩ TR _ fun cs az cs' r h=>by
  obtain⟨s,st,⟨⟩,rfl,rfl,hs,Y,_,rfl,rfl⟩:=xt h;refine⟨by simp[aU,f151],?_⟩;clear h;obtain⟨c,F⟩:=wM (ka s st);have Q:=Wi (Y:=zZ TR (qa s st)) (Z:=1) rfl hs Y;rw[F]at Q;have t:=vq (Y:=zZ TR (qa s st)) (id:=0) (Z:=1) st.p 10 rfl hs Y;refine zM (fun M Y Z=>M 0=.ref 0 0 0/\Y=zZ TR (qa s st)/\Z=1) (by simp[aU]) ?_;rintro M _ _ ⟨f,rfl,rfl⟩;refine zM (fun a Y Z=>a 0=.ref 0 0 0/\a 3=int st.p/\Y=zZ TR (qa s st)/\Z=1) (by simp[f,zZ,zz,qa]) ?_;clear f M;rintro M _ _ ⟨f,j,rfl,rfl⟩;rw[iW];refine zM (fun a Y Z=>a 0=.ref 0 0 0/\a 3=int st.p/\a 4=Zu c/\Y=zZ TR (qa s st)/\Z=1) (by simp[f,j,Q,Zu]) ?_;clear f j M;rintro M _ _ ⟨f,j,v,rfl,rfl⟩;simp only[zZ,zz,qa,Zu,zd,ze,zh,Nat.reduceAdd]at t v⊢;have E:=wj ((st.p:Int)+1);have w:(⟨st.p+1,st.b⟩:Rst).bad=st.bad/\(⟨st.p+1,st.b⟩:Rst).QO=st.QO:=⟨rfl,rfl⟩;by_cases x:c=34\/c=92\/c=47
  ·have G:pG s st=(c,st.qH):=by rw[pG,F,zg x]
   rw[G];rcases x with rfl|rfl|rfl
   ·simp[f,v,E,Rst.qH,w,f151];exact qc rfl rfl .id rfl
   ·simp[f,v,E,Rst.qH,w,f151];exact qc rfl rfl .id rfl
   ·simp[f,v,E,Rst.qH,w,f151];exact qc rfl rfl .id rfl
  have H:=x;simp only[not_or]at x;have q1:((c.toNat:Int)==34)=false:=WW 34 x.1;have q2:((c.toNat:Int)==92)=false:=WW 92 x.2.1;have q3:((c.toNat:Int)==47)=false:=WW 47 x.2.2;by_cases I:c=117
  case neg=>
   have q4:((c.toNat:Int)==117)=false:=WW 117 I;have G:pG s st=(0,st.fail st.p 10):=by rw[pG,F,zf H,zf I]
   rw[G];simp[f,j,v,q1,q2,q3,q4,t,f151];exact qc rfl rfl .id rfl
  obtain⟨hl,J⟩:=xO (F.trans I) (by decide);have G:pG s st=match(iJ s 4 0 st.qH).1 with
    |none=>(0,(iJ s 4 0 st.qH).2)
    |some n=>(UInt8.ofNat n,if n<32\/126<n then(iJ s 4 0 st.qH).2.fail st.p 10 else(iJ s 4 0 st.qH).2):=by
   rw[pG,F,zf H,zg I]
  rw[G];subst I;obtain⟨p,bb⟩:=st;simp only at hl J Y j E;subst J;simp[f,v];refine ql (fun k a Y Z=>a 0=.ref 0 0 0/\a 3=int p/\Z=1/\∃n q,a 5=int (n:Nat)/\a 35=int k/\q=p+1+k/\q<=s.length/\n<16 ^ k/\Y=zZ TR (qa s ⟨q,none⟩)/\iJ s (4-k) n ⟨q,none⟩=iJ s 4 0 ⟨p+1,none⟩) 4 ⟨by simp[f],by simp[j],by simp,0,p+1,by simp,by simp,rfl,hl,by simp,by simp[zZ,zz,qa,E,Rst.bad,Rst.QO],rfl⟩ ?_;clear f j v Q t E M;rintro k M _ _ hk ⟨f,j,rfl,n,q,y,l,hq',z,hn,rfl,R⟩;have hn16:n<65536:=yi hn (KB (by omega) hk);have w1:=wv q;by_cases hk4:k<4
  ·have o:(k:Int)<4:=by omega
   have w2:=wv k;obtain⟨i,A⟩:=wM (ka s ⟨q,none⟩);have g:=Wi (st:=⟨q,none⟩) (Y:=zZ TR (qa s ⟨q,none⟩)) (Z:=1) rfl hs z;rw[A]at g;have t:=vq (st:=⟨q,none⟩) (Y:=zZ TR (qa s ⟨q,none⟩)) (id:=0) (Z:=1) q 10 rfl hs z;have m:iJ s (4-k) n ⟨q,none⟩=match KZ i with
     |some d=>iJ s (3-k) (n*16+d) ⟨q+1,none⟩
     |none=>(none,(⟨q,none⟩:Rst).fail q 10):=by
    rw[show 4-k=(3-k)+1 by omega,iJ,A];cases KZ i<;>rfl
   rw[R]at m;cases hd:KZ i with
   |none=>
    rw[hd]at m;simp only at m;have S:iJ s 4 0 (Rst.qH ⟨p,none⟩)=(none,(⟨q,none⟩:Rst).fail q 10):=m;rw[S];simp only[zZ,zz,qa,zd,ze,zh,Nat.reduceAdd]at g t⊢;have u:ig TR (qa s ((⟨q,none⟩:Rst).fail q 10)) (Zu 0) (Zu 0) (qf (fun _=>none) 0 (some (zz TR (qa s ((⟨q,none⟩:Rst).fail q 10))))) 1:=qR rfl rfl;by_cases K:i=0
    ·subst K;simp[f,j,y,l,o,g,t,f151];exact u
    ·have N:((i.toNat:Int)==0)=false:=WW 0 K;by_cases z1:127<i.toNat
     ·have L:(127:Int)<i.toNat:=by omega
      simp[f,j,y,l,o,g,t,N,L,f151];exact u
     ·have L:¬(127:Int)<i.toNat:=by omega
      have B:=fun Y Z=>CY i Y Z (by omega)
      have C:uU i=-1:=by unfold uU;rw[hd]
      rw[C]at B;simp only[Zu]at B;simp[f,j,y,l,o,g,t,N,L,B,f151];exact u
   |some d=>
    rw[hd]at m;simp only at m;simp only[zZ,zz,qa,zd,ze,zh,Nat.reduceAdd]at g t⊢;have K:i≠0:=fun e=>by rw[e]at hd;cases hd
    have N:((i.toNat:Int)==0)=false:=WW 0 K;have z1:¬127<i.toNat:=fun h=>by rw[LL h]at hd;cases hd
    have L:¬(127:Int)<i.toNat:=by omega
    have T:=(xO A K).1;simp only at T;have hd16:=Ht hd;have B:=fun Y Z=>CY i Y Z (by omega)
    have C:uU i=(d:Int):=by unfold uU;rw[hd]
    rw[C]at B;simp only[Zu]at B;have e2:¬(d:Int)<0:=by omega
    have w3:=wj ((n:Int)*16);have w4:=wj ((n:Int)*16+(d:Int));simp[f,j,y,l,o,g,N,L,e2,B,w1,w2,w3,w4];refine⟨by omega,n*16+d,by omega,by omega,by rw[eu];omega,?_,?_⟩
    ·rw[show(q:Int)+1=(p:Int)+1+((k:Int)+1) by omega];rfl
    ·rw[show p+1+(k+1)=q+1 by omega,m]
  ·obtain rfl:k=4:=by omega
   have U:iJ s (4-4) n ⟨q,none⟩=(some n,⟨q,none⟩):=rfl;rw[U]at R;have W:iJ s 4 0 (Rst.qH ⟨p,none⟩)=(some n,⟨q,none⟩):=R.symm;rw[W];simp only;have t:=vq (st:=⟨q,none⟩) (Y:=zZ TR (qa s ⟨q,none⟩)) (id:=0) (Z:=1) p 10 rfl hs z;have D:=wu8m n;simp only[zZ,zz,qa,zd,ze,zh,Nat.reduceAdd]at t⊢;by_cases a1:n<32
   ·have P:(n:Int)<32:=by omega
    rw[zg (.inl a1)];simp[f,j,y,l,P,t,D,f151];exact qc rfl rfl .id rfl
   ·have P:¬(n:Int)<32:=by omega
    by_cases a2:126<n
    ·have X:(126:Int)<n:=by omega
     rw[zg (.inr a2)];simp[f,j,y,l,P,X,t,D,f151];exact qc rfl rfl .id rfl
    ·have X:¬(126:Int)<n:=by omega
     rw[zf (by omega)];simp[f,j,y,l,P,X,D,f151];exact qc rfl rfl .id rfl
noncomputable abbrev Ctr6:Ctx:=qj prog [(104,JL),(97,bG),(150,iu),(151,esRS)]
theorem U5:AM.jH False Ctr6 (fun g=>[97].contains g):=qx mixed ⟨xW.lax,by simp,xm.lax,fun _=>ym _ _,KC.lax,by simp,LM,by simp,trivial⟩
noncomputable abbrev U6:AM.Spec:=mR aU (fun _ _ _=>True) (fun s st _=>(kM s st).2) (fun s st _=>str (kM s st).1)
theorem ss{s:za}{st:Rst}{Y:Hp}{id Z:Nat}(a:Y id=some (qL s st))(hs:s.length<=1048576)(b:st.p<=s.length):U6 [.ref id 0 0] Y Z=some (str (kM s st).1,qf Y id (some (qL s (kM s st).2)),Z):=ZP y5 (fun _=>rfl) () a hs b trivial
def VC(s:za)(st:Rst):Nat:=if st.b=none then s.length-st.p+1 else 0
def TrI(s:za)(c:Rst)(n:Nat)(st:St):Prop:=st.M 0=.ref 0 0 0/\0<st.Z/\∃b a k,qN st.Y st.Z 5 1 (st.M 3) (b.map Eo)/\st.Y 0=some (qL s a)/\a.p<=s.length/\b.length<=a.p/\VC s a=n/\n<=k/\A3 s k b a=kM s c
theorem TrI.congr{s:za}{b:Rst}{n:Nat}{M a:Nat->O}{Y:Hp}{Z:Nat}(h:TrI s b n ⟨M,Y,Z⟩)(c:a 0=M 0)(d:a 3=M 3):TrI s b n ⟨a,Y,Z⟩:=by unfold TrI at h⊢;simp only[c,d];exact h
theorem lv{st:Rst}(h:st.b=none):st.bad=-1:=by unfold Rst.bad;rw[h]
theorem lx{st:Rst}(h:st.b≠none):0<=st.bad:=by
 unfold Rst.bad;cases a:st.b with
 |none=>exact absurd a h
 |some q=>obtain⟨k,x⟩:=q;simp
theorem nG:wO False prog 99 U6:=
 ya (C:=Ctr6) func99 (by kernel_rfl) rfl TR _ fun cs az cs' r h=>by
  obtain⟨s,st,⟨⟩,rfl,rfl,hs,Y,_,rfl,rfl⟩:=xt h;refine⟨by simp[aU,f99],?_⟩;clear h;have l:=U5;have g0:iu [.ref 0 0 0,.v (.int .u8 34)] (zZ TR (qa s st)) 1=some (.wL [],qf (zZ TR (qa s st)) 0 (some (qL s (Ja s st 34))),1):=Kb 34 rfl hs Y (by decide);have L:=Xi (s:=s) 34 (by decide) Y;refine Wp.cut l (fun M Y Z=>M 0=.ref 0 0 0/\Y=zZ TR (qa s st)/\Z=1) (by kernel_rfl) (by simp[aU]) ?_;rintro M _ _ ⟨f,rfl,rfl⟩;obtain⟨a,A⟩:=wM (Ja s st 34);have m:A3 s (s.length+1) [] a=kM s st:=by rw[kM,A]
  rw[A]at g0 L;refine Wp.cut l (fun d Y Z=>d 0=.ref 0 0 0/\Y 0=some (qL s a)/\Z=1) (by kernel_rfl) (by simp[f,g0]) ?_;clear g0 f A M;rintro M Y1 _ ⟨f,B,rfl⟩;refine Wp.cut l (fun d Y Z=>TrI s st (VC s a) ⟨d,Y,Z⟩) (by kernel_rfl) ?_ ?_
  ·simp[f];refine⟨by simp[f],by simp,[],a,s.length+1,.inl ⟨by simp,rfl⟩,B,L.2,by simp,rfl,?_,m⟩;unfold VC;split<;>omega
  clear f B M Y1 m L;rintro M Y1 Z hI;refine Wp.seq (Wp.block (Wp.loop (TrI s st) _ hI ?_));clear hI M Y1 Z a;rintro n ⟨M,Y1,Z⟩ ⟨f,G,b,a,k,E,B,N,oQ,hn,hnk,m⟩;simp only at f G E B;have i:=qZ E B rfl;by_cases S:a.b=none
  case neg=>
   have ht2:kM s st=([],a):=by rw[<-m];exact HH S k b
   have g:=B;simp only[zz,qa,zd,ze,zh,Nat.reduceAdd]at g;have hnb:¬a.bad<0:=by have:=lx S;omega
   refine Wp.seq (Wp.of l (by kernel_rfl) ?_);simp[f,g,hnb];refine Wp.of l (by kernel_rfl) ?_;rw[ht2];simp[f99];exact qR rfl B
  have zhn:s.length-a.p+1=n:=by rw[<-hn,VC,zg S]
  obtain⟨k,rfl⟩:∃k',k=k'+1:=⟨k-1,by omega⟩;obtain⟨c,hc⟩:=wM (ka s a);have g1:=Wi (Z:=Z) B hs N;rw[hc]at g1;have g:=B;have hbn:=lv S;simp only[zz,qa,zd,ze,zh,Nat.reduceAdd]at g;refine Wp.cut l (fun d H I=>d 0=.ref 0 0 0/\d 3=M 3/\H=Y1/\I=Z) (by kernel_rfl) (by simp[f,g,hbn]) ?_;rintro o Y1 Z ⟨e0,w,rfl,rfl⟩;rw[<-w]at E i;clear f w M;refine Wp.block ?_;refine Wp.cut l (fun d H I=>d 0=.ref 0 0 0/\d 3=o 3/\d 4=Zu c/\H=Y1/\I=Z) (by kernel_rfl) (by simp[e0,g1,Zu]) ?_;rintro M Y1 Z ⟨f,w,F,rfl,rfl⟩;rw[<-w]at E i;clear e0 w o;refine Wp.block ?_;rw[A3,zf (by simpa using S),hc]at m;simp only[Zu]at F;have c8:=BW c;have T:(c<32)↔c.toNat<32:=yM;have U:(126<c)↔126<c.toNat:=yM;have gf:=vq (Z:=Z) a.p 10 B hs N;have t:c<32\/126<c->TrI s st (VC s (a.fail a.p 10)) ⟨M,qf Y1 0 (some (qL s (a.fail a.p 10))),Z⟩/\VC s (a.fail a.p 10)<n:=fun h=>by
   rw[zg h]at m;have hl:VC s (a.fail a.p 10)=0:=by rw[VC,zf (HF _ _ _)]
   refine⟨⟨f,G,b,a.fail a.p 10,0,E.put i _,by simp,by rw[xu];exact N,by rw[xu];exact oQ,rfl,by omega,?_⟩,by omega⟩;rw[<-m];rfl
  by_cases W:c<32
  ·obtain⟨hT,P⟩:=t (.inl W);have y:(c.toNat:Int)<32:=by have:=T.1 W;omega
   refine Wp.of l (by kernel_rfl) ?_;simp[f,F,g,y,gf];exact⟨_,P,hT.congr (by simp) (by simp)⟩
  have y:¬(c.toNat:Int)<32:=by have h2:¬c.toNat<32:=fun h=>W (T.2 h);omega
  by_cases s3:126<c
  ·obtain⟨hT,P⟩:=t (.inr s3);have D:(126:Int)<c.toNat:=by have:=U.1 s3;omega
   refine Wp.of l (by kernel_rfl) ?_;simp[f,F,g,y,D,gf];exact⟨_,P,hT.congr (by simp) (by simp)⟩
  have D:¬(126:Int)<c.toNat:=by have h2:¬126<c.toNat:=fun h=>s3 (U.2 h);omega
  have hlt1:=(xO hc (fun e=>W (by rw[e];decide))).1;rw[zf (by simp[W,s3])]at m;clear t;have hw:=wj ((a.p:Int)+1);have Tq:a.qH.bad=a.bad/\a.qH.QO=a.QO:=⟨rfl,rfl⟩;have u:(⟨a.p+1,a.b⟩:Rst).bad=a.bad/\(⟨a.p+1,a.b⟩:Rst).QO=a.QO:=⟨rfl,rfl⟩;by_cases c1:c=34
  ·subst c1;rw[zg rfl]at m;rw[<-m];refine Wp.cut l (fun d H I=>d 0=.ref 0 0 0/\d 3=M 3/\d 4=.v (.int .u8 34)/\d 25=yh false/\H=Y1/\I=Z) (by kernel_rfl) (by simp[f,F,g,y,D]) ?_;clear f F;rintro o Y1 Z ⟨f,w,F,X,rfl,rfl⟩;rw[<-w]at E i;clear w M;refine Wp.cond (b:=false) (by simp[AM.get,X]) ?_;simp only[zm,zQ];refine Wp.cut l (fun d H I=>d 0=.ref 0 0 0/\d 3=o 3/\d 38=yh true/\H=Y1/\I=Z) (by kernel_rfl) (by simp[f,F]) ?_;clear f F X;rintro M Y1 Z ⟨f,w,h51,rfl,rfl⟩;rw[<-w]at E i;clear w o;refine Wp.cond (b:=true) (by simp[AM.get,h51]) ?_;simp only[zK];refine Wp.cut l (fun d H I=>d 3=M 3/\H=qf Y1 0 (some (qL s a.qH))/\I=Z) (by kernel_rfl) (by simp[f,g,hw,zz,qa,Rst.qH,u]) ?_;clear f h51;rintro o _ _ ⟨w,rfl,rfl⟩;have hO2:=E.put i (some (qL s a.qH));rw[<-w]at hO2;refine Wp.seq (Wp.region ?_);show Jd False Ctr6 _ _ (List.range' 0 1++(1::(List.range' 2 1++[]))) _ _;refine Jd.pZ l 0 1 (by decide) (by decide) ?_;simp;refine Jd.zch (q:=o 3) (s:=b) rfl (by decide) (by simp[AM.get]) hO2.view zbN un5 un9 ?_;refine Jd.pZ l 2 1 (by decide) (by decide) ?_;simp;refine Jd.nil ?_;simp only[mc,ZQ];refine Wp.of l (by kernel_rfl) ?_;simp[f99];exact qR rfl (by simp)
  have c1':((c.toNat:Int)==34)=false:=WW 34 c1;rw[zf c1]at m;by_cases c2:c=92
  ·subst c2;rw[zg rfl]at m;have hb1:qf Y1 0 (some (qL s a.qH)) 0=some (qL s a.qH):=by simp
   have hal:a.qH.p<=s.length:=by simp only[Rst.qH];omega
   have ge:=Pu (id:=0) (Z:=Z) hb1 hs hal;have J:=F4 (s:=s) hal;obtain⟨x,z,hx⟩:∃x z,pG s a.qH=(x,z):=⟨_,_,rfl⟩;rw[hx]at ge m J;simp only at ge m J;obtain⟨Y2,a1,O2,f2⟩:=ae (E.put i (some (qL s z))) x (by omega);have Q:Y2 0=some (qL s z):=by rw[f2 0 G i];simp
   rw[qV]at ge;simp only[zz,qa,Rst.qH,u,Eo,Zu,zd,ze,zh,Nat.reduceAdd,yk,qu]at ge a1;refine Wp.of l (by kernel_rfl) ?_;simp[f,F,g,y,D,zs,zF,zr,ge,a1,hw];simp only[Rst.qH]at J;have R:VC s z<n:=by unfold VC;split<;>omega
   exact⟨_,R,by simp[f],by simp,b++[x],z,k,by simpa using O2,Q,J.2,by simp;omega,rfl,by omega,m⟩
  have c2':((c.toNat:Int)==92)=false:=WW 92 c2;rw[zf c2]at m;obtain⟨Y2,a1,O2,f2⟩:=ae E c (by omega);have Q:Y2 0=some (qL s a):=by rw[f2 0 G i];exact B
  have K:=Q;simp only[zz,qa,zd,ze,zh,Nat.reduceAdd]at K;simp only[Eo]at a1;have R:VC s a.qH<n:=by simp only[VC,Rst.qH,S,zK];omega
  refine Wp.of l (by kernel_rfl) ?_;simp[f,F,g,y,D,c1',c2',zs,zF,zr,a1,K,hw];have O3:=O2.put (j:=0) (fun n e=>by injection e with e;omega) (some (qL s a.qH));exact⟨_,R,by simp[f],by simp,b++[c],a.qH,k,by simpa[zz,qa,Rst.qH,u]using O3,by simp[zz,qa,Rst.qH,u],by simp only[Rst.qH];omega,by simp[Rst.qH];omega,rfl,by omega,m⟩
section
variable{s:za}
theorem CZ{st:Rst}{c:UInt8}(d:c≠0)(h:(Ja s st c).b=none):st.b=none:=by
 cases f:st.b with
 |none=>rfl
 |some q=>
  have a:st.b≠none:=by rw[f];intro e;cases e
  rw[uQ a d]at h;exact absurd h a
theorem gN(st:Rst):(kO s st).b=st.b:=by
 unfold kO;split
 ·rename_i a;exact a.symm
 ·rfl
theorem C2(st:Rst):kO s (kO s st)=kO s st:=by
 obtain⟨p,b⟩:=st;cases b with
 |some q=>rfl
 |none=>
  refine B0 ?_;have hd:s.drop (p+((s.drop p).takeWhile J7).length)=(s.drop p).dropWhile J7:=by
   rw[<-List.drop_drop]
   conv=>lhs;arg 2;rw[<-List.takeWhile_append_dropWhile (p:=J7) (l:=s.drop p)]
   exact List.drop_left
  have a:=List.head?_dropWhile_not J7 (s.drop p);rw[<-hd]at a;simp only[kO,ka];rw[List.head?_drop]at a;cases e:s[p+((s.drop p).takeWhile J7).length]? with
  |none=>rfl
  |some c=>rw[e]at a;simpa using a
theorem jE.more{a:Jst}{b:Rst}(h:jE a b)(Y:b.p<=s.length){c:UInt8}(l:c≠0) :
  (((Qe s a).e=0/\jq s (Qe s a)=44)↔(K9 s b c).1=true)/\((K9 s b c).1=true->b.b=none/\jE (Qe s (Qe s a).qH) (kO s (K9 s b c).2))/\((K9 s b c).1=false->jE (QK s (Qe s a) c).2 (K9 s b c).2/\((K9 s b c).2.b=none->b.b=none)):=by
 have g:=h.bl (s:=s);have i:=vU (s:=s) Y;cases m:b.b with
 |some q=>
  have d:b.b≠none:=by rw[m];intro e;cases e
  have j:(kO s b).b=some q:=by rw[gN,m]
  obtain⟨k,x⟩:=q;have hs:=g.XX j;have n:(K9 s b c).1=false:=by unfold K9;rw[dL d,Vd d];rfl
  refine⟨⟨fun e=>absurd (hs.1.symm.trans e.1) hs.2.1,(fun e=>by rw[n]at e;cases e)⟩,(fun e=>by rw[n]at e;cases e),fun _=>?_⟩;have o:(K9 s b c).2=Ja s (kO s b) c:=by unfold K9;rw[dL d,Vd d];rfl
  rw[o];refine⟨(g.S6 l i.2.1).1,fun e=>?_⟩;have:=CZ l e;rw[j]at this;cases this
 |none=>
  have j:(kO s b).b=none:=by rw[gN,m]
  have hs:=g.Zm j;have r:=YS (s:=s) g j;unfold K9;rw[r];by_cases f:jq s (Qe s a)=44
  ·rw[zg f];exact⟨⟨fun _=>rfl,fun _=>⟨hs.1,f⟩⟩,fun _=>⟨rfl,g.qH.bl⟩,(fun e=>by cases e)⟩
  ·rw[zf f];exact⟨⟨fun e=>absurd e.2 f,(fun e=>by cases e)⟩,(fun e=>by cases e),fun _=>⟨(g.S6 l i.2.1).1,fun _=>rfl⟩⟩
theorem fC{st:Rst}(c:UInt8)(b:c≠0)(h:st.p<=s.length):st.p<=(K9 s st c).2.p/\(K9 s st c).2.p<=s.length/\((K9 s st c).1=true->st.p+1<=(K9 s st c).2.p):=by
 have d:=vU (s:=s) h;unfold K9;split
 ·rename_i f;have a:=j7 f (by decide);have g:(kO s st).qH.p=(kO s st).p+1:=rfl;simp only;exact⟨by omega,a.2,fun _=>by omega⟩
 ·have a:=Xi (s:=s) c b d.2.1;exact⟨by simp only;omega,a.2,fun e=>by cases e⟩
def Pv(s:za)(f:Jst->Val×Jst)(g:Rst->Val×Rst):Prop:=∀a b,jE a b->b.b=none->b.p<=s.length->jE (f a).2 (g b).2/\((g b).2.b=none->(f a).1=(g b).1)
def Ve(s:za)(g:Rst->Val×Rst):Prop:=∀st,st.p<=s.length->st.p<=(g st).2.p/\(g st).2.p<=s.length/\(g st).1.vb<=(g st).2.p-st.p+1
theorem jE.li{f:Jst->Val×Jst}{g:Rst->Val×Rst}(v:Pv s f g)(w:Ve s g):∀(k:Nat) (l:List Val) {a:Jst} {b:Rst},jE a (kO s b)->b.p<=s.length->s.length<b.p+k->jE (Er s f k l a).2 (CV s g k l b).2/\((CV s g k l b).2.b=none->(Er s f k l a).1=(CV s g k l b).1)
 | 0,l,a,b,h,Y,A=>by omega
 |k+1,l,a,b,h,Y,A=>by
  rw[Er,CV];have j:=vU (s:=s) Y;cases r:b.b with
  |some q=>rw[dL (by rw[r];intro e;cases e)]at h;obtain⟨i,x⟩:=q;have hs:=h.XX r;rw[zg (by rw[hs.1];exact hs.2.1),zg (by intro e;cases e)];exact⟨h,fun _=>rfl⟩
  |none=>
   have m:(kO s b).b=none:=by rw[gN,r]
   have hs:=h.Zm m;rw[zf (by simpa using hs.1),zf (fun e:(none:Option (Nat×Int))≠none=>e rfl)];obtain⟨B,y⟩:=v a (kO s b) h m j.2.1;have n:=w (kO s b) j.2.1;obtain⟨z,C,D⟩:=B.more (s:=s) n.2.1 (c:=93) (by decide);have o:=fC (s:=s) (st:=(g (kO s b)).2) 93 (by decide) n.2.1;cases d:(K9 s (g (kO s b)).2 93).1
   ·have t:¬((Qe s (f a).2).e=0/\jq s (Qe s (f a).2)=44):=fun e=>by rw[z.1 e]at d;cases d
    simp only[zf t,zm,zQ];obtain⟨n1,u⟩:=D d;exact⟨n1,fun e=>by rw[y (u e)]⟩
   ·simp only[zg (z.2 d),zK];obtain⟨n1,u⟩:=C d;rw[y n1];exact jE.li v w k _ u o.2.1 (by have:=o.2.2 d;omega)
theorem jE.list{f:Jst->Val×Jst}{g:Rst->Val×Rst}(k:Pv s f g)(l:Ve s g){a:Jst}{b:Rst}(h:jE a b)(d:ka s b=91):jE (Zy s f a).2 (ZE s g b).2/\((ZE s g b).2.b=none->(Zy s f a).1=(ZE s g b).1):=by
 have m:Ja s b 91=b.qH:=by unfold Ja;rw[zg d]
 have n:=(xO d (by decide)).2;have o:=j7 d (by decide);have e:=h.qH.bl (s:=s);have i:=vU (s:=s) o.2;have j:(kO s b.qH).b=none:=by rw[gN];exact n
 unfold Zy ZE;rw[m];simp only;rw[YS e j];by_cases c:jq s (Qe s a.qH)=93
 ·rw[zg c,zg c];exact⟨e.qH,fun _=>rfl⟩
 ·rw[zf c,zf c];exact jE.li k l _ _ (by rw[C2];exact e) i.2.1 (by omega)
theorem zdA{l:List (za×Val)}(h:(l.map (·.1)).Nodup)(hs:l.Pairwise (fun a b=>¬yW b.1 a.1<0)):l.Pairwise (fun a b=>yW a.1 b.1<0):=by
 rw[List.nodup_iff_pairwise_ne,Ih]at h;refine(List.Pairwise.and h hs).imp fun{a b} c=>?_
 have d:yW a.1 b.1≠0:=fun e=>c.1 ((xl _ _).1 e)
 have f:=kL.flip b.1 a.1;have:=c.2;omega
theorem Ys(n:za)(x:Val):∀l:List (za×Val),(dK n x l).Perm ((n,x)::l)
 |[]=>.refl _
 |y::l=>by
  rw[dK];split
  ·exact((Ys n x l).cons y).trans (List.Perm.swap _ _ _)
  ·exact .refl _
theorem HI{n:za}{x:Val}:∀{l:List (za×Val)},n ∉ l.map (·.1)->l.Pairwise (fun a b=>yW a.1 b.1<0)->(dK n x l).Pairwise (fun a b=>yW a.1 b.1<0)
 |[],_,_=>by simp[dK]
 |y::l,d,h=>by
  rw[wB]at h;simp only[wK,zv,not_or]at d;rw[dK];split
  ·rename_i f;refine List.Pairwise.cons (fun z c=>?_) (HI d.2 h.2);rcases zv.1 ((Ys n x l).subset c)with rfl|c
   ·exact(K8 _ _).2 f
   ·exact h.1 z c
  ·rename_i f;have i:¬yW y.1 n<0:=fun e=>f ((K8 _ _).1 e)
   have j:yW y.1 n≠0:=fun e=>d.1 ((xl _ _).1 e).symm
   have k:=kL.flip n y.1;have g:yW n y.1<0:=by omega
   refine List.Pairwise.cons (fun z c=>?_) (List.Pairwise.cons h.1 h.2);rcases zv.1 c with rfl|c
   ·exact g
   ·exact kL.trans g (h.1 z c)
theorem F7{n:za}{l:List (za×Val)}(h:n ∉ l.map (·.1)):Jy n l=l:=by
 refine List.filter_eq_self.2 fun y a=>?_
 have:y.1≠n:=fun e=>h (qq.2 ⟨y,a,e⟩)
 simpa using this
theorem gO{l:List (za×Val)}{n:za}(x:Val)(f:n ∉ l.map (·.1))(h:(l.map (·.1)).Nodup):Yh (zy l) n x=zy (l++[(n,x)]):=by
 obtain⟨_,c,g⟩:=vX l;obtain⟨_,i,j⟩:=vX (l++[(n,x)]);have d:n ∉ (zy l).map (·.1):=fun e=>f ((c.map _).subset e)
 have k:=zdA ((c.map (·.1)).nodup_iff.2 h) g;unfold Yh;rw[F7 d];refine(lq (r:=fun a b:za×Val=>yW a.1 b.1<0) (fun x m=>by rw[kL.refl]at m;omega) (fun x y o p=>by have:=kL.trans o p;rw[kL.refl]at this;omega) ?_ (HI d k) j).symm;exact(Ys n x _).trans (((c.cons (n,x)).trans (List.perm_append_singleton _ _).symm).trans i.symm)
theorem uW{l:List (za×Val)}{st:Rst}(h:st.p<=s.length):st.p<=(pH s l st).p/\(pH s l st).p<=s.length/\(kM s st).1.length<=(pH s l st).p-st.p:=by
 have:=uT (s:=s) h;unfold pH;split
 ·rw[xu];exact this
 ·exact this
theorem F8{l:List (za×Val)}{st:Rst}(h:st.p<=s.length):st.p<=(uP s l st).p/\(uP s l st).p<=s.length/\(kM s st).1.length<=(uP s l st).p-st.p:=by have a:=uW (s:=s) (l:=l) h;have b:=vU (s:=s) a.2.1;have c:=Xi (s:=s) 58 (by decide) b.2.1;have d:=vU (s:=s) c.2;unfold uP;omega
theorem jE.name{seen:List za}{l:List (za×Val)}(j:∀n,n∈seen↔n∈l.map (·.1)){a:Jst}{b:Rst}(h:jE a b)(Y:b.p<=s.length)(m:b.b=none):jE (Wu s seen a) (pH s l b)/\((pH s l b).b=none->(kM s b).2.b=none/\(jt s a).1=(kM s b).1/\(kM s b).1 ∉ seen):=by
 obtain⟨d,o⟩:=h.text Y;have f:=(h.Zm m).2;unfold Wu pH;cases g:(kM s b).2.b with
 |some q=>
  have c:(kM s b).2.b≠none:=by rw[g];intro e;cases e
  obtain⟨k,x⟩:=q;have hs:=d.XX g;have r:(if(l.map (·.1)).contains (kM s b).1=true then(kM s b).2.fail b.p 7 else(kM s b).2)=(kM s b).2:=by
   split
   ·exact ah c _ _
   ·rfl
  have t:(if seen.contains (jt s a).1=true then(jt s a).2.fail s.length a.p 7 else(jt s a).2)=(jt s a).2:=by
   split
   ·unfold Jst.fail;rw[zf (by rw[hs.1];exact hs.2.1)]
   ·rfl
  rw[r,t];exact⟨d,fun e=>absurd e c⟩
 |none=>
  rw[o g];have i:(l.map (·.1)).contains (kM s b).1=seen.contains (kM s b).1:=by rw[q6,ZU,ZU];exact(j _).symm
  rw[i];cases u:seen.contains (kM s b).1
  ·simp only[zm,zQ];refine⟨d,fun _=>⟨trivial,trivial,fun e=>?_⟩⟩;rw[<-ZU,u]at e;cases e
  ·simp only[zK];rw[f];exact⟨d.fail Y (by decide),fun e=>absurd e (HF _ _ _)⟩
theorem jE.cl{seen:List za}{l:List (za×Val)}(d:∀n,n∈seen↔n∈l.map (·.1)){a:Jst}{b:Rst}(h:jE a b)(Y:b.p<=s.length)(f:b.b=none):jE (bF s seen a) (uP s l b)/\((uP s l b).b=none->(jt s a).1=(kM s b).1/\(kM s b).1 ∉ seen):=by obtain⟨n1,g⟩:=h.name d Y f;have i:=uW (s:=s) (l:=l) Y;have j:=vU (s:=s) i.2.1;unfold bF uP;refine⟨((n1.bl).S6 (c:=58) (by decide) j.2.1).1.bl,fun e=>?_⟩;rw[gN]at e;have e:=CZ (by decide) e;rw[gN]at e;exact(g e).2
def ErrR(g:Rst->Val×Rst):Prop:=∀b,b.b≠none->(g b).2=b
theorem U7{st:Rst}{c:UInt8}(h:st.b≠none)(a:c≠0):K9 s st c=(false,st):=by unfold K9;rw[dL h,Vd h,zf (by decide),uQ h a]
theorem jE.ob{f:Jst->Val×Jst}{g:Rst->Val×Rst}(J:Pv s f g)(K:Ve s g)(L:ErrR g):∀(k:Nat) (l:List (za×Val)) {a:Jst} {b:Rst},(l.map (·.1)).Nodup->jE a (kO s b)->b.p<=s.length->s.length<b.p+k->jE (Es s f k (l.map (·.1)) l a).2 (CW s g k (zy l) b).2/\((CW s g k (zy l) b).2.b=none->zy (Es s f k (l.map (·.1)) l a).1=(CW s g k (zy l) b).1)
 | 0,l,a,b,_,h,Y,S=>by omega
 |k+1,l,a,b,m,h,Y,S=>by
  rw[Es,CW];have t:=vU (s:=s) Y;cases F:b.b with
  |some q=>rw[dL (by rw[F];intro e;cases e)]at h;obtain⟨i,x⟩:=q;have hs:=h.XX F;rw[zg (by rw[hs.1];exact hs.2.1),zg (by intro e;cases e)];exact⟨h,fun _=>rfl⟩
  |none=>
   have u:(kO s b).b=none:=by rw[gN,F]
   have hs:=h.Zm u;rw[zf (by simpa using hs.1),zf (fun e:(none:Option (Nat×Int))≠none=>e rfl)];have v:∀n,n∈l.map (·.1)↔n∈(zy l).map (·.1):=fun n=>(((vX l).2.1.map _).mem_iff).symm
   obtain⟨E,T⟩:=h.cl v t.2.1 u;have A:=F8 (s:=s) (l:=zy l) t.2.1;simp only;generalize hq:uP s (zy l) (kO s b)=q at *;generalize hw:bF s (l.map (·.1)) a=w at *;cases d:q.b with
   |some z=>
    have o:q.b≠none:=by rw[d];intro e;cases e
    obtain⟨i,x⟩:=z;have j:=E.XX d;rw[zg (by rw[j.1];exact j.2.1),L q o,U7 o (by decide)];simp only[zm,zQ];exact⟨E,fun e=>absurd e o⟩
   |none=>
    have j:=E.Zm d;rw[zf (by simpa using j.1)];obtain⟨U,G⟩:=T d;obtain⟨W,N⟩:=J w q E d A.2.1;have B:=K q A.2.1;obtain⟨P,X,m3⟩:=W.more (s:=s) B.2.1 (c:=125) (by decide);have C:=fC (s:=s) (st:=(g q).2) 125 (by decide) B.2.1;rw[U];cases r:(K9 s (g q).2 125).1
    ·have H:¬((Qe s (f w).2).e=0/\jq s (Qe s (f w).2)=44):=fun e=>by rw[P.1 e]at r;cases r
     simp only[zf H,zm,zQ];obtain⟨n1,I⟩:=m3 r;refine⟨n1,fun e=>?_⟩;rw[N (I e)];exact(gO _ G m).symm
    ·simp only[zg (P.2 r),zK];obtain⟨n1,I⟩:=X r;rw[N n1,gO _ G m];have D:((l++[((kM s (kO s b)).1,(g q).1)]).map (·.1)).Nodup:=by rw[kq,List.nodup_append];refine⟨m,by simp,fun x hx y Q=>?_⟩;simp at Q;subst Q;exact fun e=>G (e ▸ hx)
     have R:=jE.ob J K L k (l++[((kM s (kO s b)).1,(g q).1)]) D I C.2.1 (by have:=C.2.2 r;omega);simp only[kq,wK,QE]at R;exact R
theorem jE.obj{f:Jst->Val×Jst}{g:Rst->Val×Rst}(l:Pv s f g)(m:Ve s g)(n:ErrR g){a:Jst}{b:Rst}(h:jE a b)(e:ka s b=123):jE (YJ s f a).2 (JQ s g b).2/\((JQ s g b).2.b=none->zy (YJ s f a).1=(JQ s g b).1):=by
 have o:Ja s b 123=b.qH:=by unfold Ja;rw[zg e]
 have p:=(xO e (by decide)).2;have q:=j7 e (by decide);have i:=h.qH.bl (s:=s);have j:=vU (s:=s) q.2;have k:(kO s b.qH).b=none:=by rw[gN];exact p
 have d:zy []=[]:=nA (by simp[UpF]);unfold YJ JQ;rw[o];simp only;rw[YS i k];by_cases c:jq s (Qe s a.qH)=125
 ·rw[zg c,zg c];exact⟨i.qH,fun _=>d⟩
 ·rw[zf c,zf c];have:=jE.ob l m n (s.length+1) [] (a:=Qe s a.qH) (b:=kO s b.qH) (by simp) (by rw[C2];exact i) j.2.1 (by omega);rw[d]at this;exact this
theorem Pw{k:Nat}{b:Rst}(h:b.b≠none):(ky s k b).2=b:=by
 cases k with
 |zero=>rfl
 |succ k=>rw[ky,Vd h,zf (by decide),zf (by decide),zf (by decide),zf (by decide),zf (by decide),zf (by decide),zf (by decide)];exact ah h _ _
theorem Px{g:Rst->Val×Rst}(a:Ve s g):∀(k:Nat) (l:List Val) (st:Rst),st.p<=s.length->st.p<=(CV s g k l st).2.p/\(CV s g k l st).2.p<=s.length/\kh (CV s g k l st).1<=kh l+((CV s g k l st).2.p-st.p)+1
 | 0,l,st,h=>by simp only[CV];exact⟨zk _,h,by omega⟩
 |k+1,l,st,h=>by
  rw[CV];split
  ·exact⟨zk _,h,by simp only;omega⟩
  ·have c:=vU (s:=s) h;have d:=a (kO s st) c.2.1;have b:=fC (s:=s) 93 (by decide) d.2.1;split
   ·rename_i e;have f:=Px a k (l++[(g (kO s st)).1]) _ b.2.1;have:=b.2.2 e;rw[WA]at f;omega
   ·rw[WA];simp only;omega
theorem Py{g:Rst->Val×Rst}(b:Ve s g){st:Rst}(a:ka s st=91):st.p+1<=(ZE s g st).2.p/\(ZE s g st).2.p<=s.length/\kh (ZE s g st).1<=(ZE s g st).2.p-st.p:=by
 have c:Ja s st 91=st.qH:=by unfold Ja;rw[zg a]
 have d:=j7 a (by decide);have h:st.qH.p=st.p+1:=rfl;have e:=vU (s:=s) d.2;unfold ZE;rw[c];split
 ·rename_i f;have:=j7 f (by decide);simp only[kh];omega
 ·have:=Px b (s.length+1) [] (kO s st.qH) e.2.1;simp only[kh]at this;omega
theorem U8(n:za)(x:Val)(l:List (za×Val)):QJ (dK n x l)=QJ l+(n.length+x.vb):=by rw[CP (Ys n x l),QJ];omega
theorem C3(n:za):∀l:List (za×Val),QJ (Jy n l)<=QJ l
 |[]=>zk _
 |(m,x)::l=>by
  have:=C3 n l;unfold Jy at this⊢;rw[List.filter_cons];split
  ·simp only[QJ];omega
  ·simp only[QJ];omega
theorem U9(l:List (za×Val))(n:za)(x:Val):QJ (Yh l n x)<=QJ l+(n.length+x.vb):=by have:=C3 n l;rw[Yh,U8];omega
theorem Pz{g:Rst->Val×Rst}(a:Ve s g):∀(k:Nat) (l:List (za×Val)) (st:Rst),st.p<=s.length->st.p<=(CW s g k l st).2.p/\(CW s g k l st).2.p<=s.length/\QJ (CW s g k l st).1<=QJ l+((CW s g k l st).2.p-st.p)+1
 | 0,l,st,h=>by simp only[CW];exact⟨zk _,h,by omega⟩
 |k+1,l,st,h=>by
  rw[CW];split
  ·exact⟨zk _,h,by simp only;omega⟩
  ·have c:=vU (s:=s) h;have d:=F8 (s:=s) (l:=l) c.2.1;have e:=a (uP s l (kO s st)) d.2.1;have b:=fC (s:=s) 125 (by decide) e.2.1;have i:=U9 l (kM s (kO s st)).1 (g (uP s l (kO s st))).1;split
   ·rename_i f;have j:=Pz a k (Yh l (kM s (kO s st)).1 (g (uP s l (kO s st))).1) _ b.2.1;have:=b.2.2 f;omega
   ·simp only;omega
theorem zaa{g:Rst->Val×Rst}(b:Ve s g){st:Rst}(a:ka s st=123):st.p+1<=(JQ s g st).2.p/\(JQ s g st).2.p<=s.length/\QJ (JQ s g st).1<=(JQ s g st).2.p-st.p:=by
 have c:Ja s st 123=st.qH:=by unfold Ja;rw[zg a]
 have d:=j7 a (by decide);have h:st.qH.p=st.p+1:=rfl;have e:=vU (s:=s) d.2;unfold JQ;rw[c];split
 ·rename_i f;have:=j7 f (by decide);simp only[QJ];omega
 ·have:=Pz b (s.length+1) [] (kO s st.qH) e.2.1;simp only[QJ]at this;omega
theorem Vf:∀k,Ve s (ky s k)
 | 0=>fun st h=>by simp only[ky];exact⟨zk _,h,by rw[kv];simp[zV,Val.s,Val.items,Val.fields,kh,QJ]⟩
 |k+1=>fun st h=>by
  have e:=Vf k;have f:zV.vb=1:=by rw[kv];simp[zV,Val.s,Val.items,Val.fields,kh,QJ]
  have c:∀a b:Int,(Val.mk a b [] [] []).vb=1:=fun a b=>by rw[kv];simp[Val.s,Val.items,Val.fields,kh,QJ]
  rw[ky];split
  ·have:=nC (s:=s) [110,117,108,108] st (by decide) h;simp only[f];omega
  split
  ·have:=nC (s:=s) [116,114,117,101] st (by decide) h;simp only[c];omega
  split
  ·have:=nC (s:=s) [102,97,108,115,101] st (by decide) h;simp only[c];omega
  split
  ·have:=uT (s:=s) h;rw[kv];simp only[Val.s,Val.items,Val.fields,kh,QJ];omega
  split
  ·rename_i d;have:=Py e d;rw[kv];simp only[Val.s,Val.items,Val.fields,QJ,ze];omega
  split
  ·rename_i d;have:=zaa e d;rw[kv];simp only[Val.s,Val.items,Val.fields,kh,ze];omega
  split
  ·have:=zdw (s:=s) h;simp only[F2,pd]at this⊢;rw[c];omega
  ·simp only[xu,f];omega
theorem jE.val:∀k,Pv s (J8 zy s k) (ky s k)
 | 0=>fun a b h _ _=>⟨h,fun _=>rfl⟩
 |k+1=>fun a b h c Y=>by
  have hs:=h.Zm c;have j:=YS (s:=s) h c;by_cases r:s.length<=a.p
  ·have t:jq s a=0:=by rw[jq,wq r];rfl
   have u:J8 zy s (k+1) a=(zV,a.fail s.length a.p 10):=by rw[J8,zg r]
   have v:ky s (k+1) b=(zV,b.fail b.p 10):=by rw[ky,j,t];simp[jg]
   rw[u,v,hs.2];exact⟨h.fail Y (by decide),fun _=>rfl⟩
  rw[J8,ky,j,zf r];by_cases l:jq s a=110
  ·rw[zg l,zg l];exact⟨jE.wd (s:=s) [110,117,108,108] h Y (by decide),fun _=>rfl⟩
  rw[zf l,zf l];by_cases m:jq s a=116
  ·rw[zg m,zg m];exact⟨jE.wd (s:=s) [116,114,117,101] h Y (by decide),fun _=>rfl⟩
  rw[zf m,zf m];by_cases n:jq s a=102
  ·rw[zg n,zg n];exact⟨jE.wd (s:=s) [102,97,108,115,101] h Y (by decide),fun _=>rfl⟩
  rw[zf n,zf n];by_cases o:jq s a=34
  ·rw[zg o,zg o];obtain⟨d,f⟩:=h.text Y;exact⟨d,fun e=>by rw[f e]⟩
  rw[zf o,zf o];by_cases g:jq s a=91
  ·rw[zg g,zg g];obtain⟨d,f⟩:=jE.list (jE.val k) (Vf k) h (j.trans g);exact⟨d,fun e=>by rw[f e]⟩
  rw[zf g,zf g];by_cases i:jq s a=123
  ·rw[zg i,zg i];obtain⟨d,f⟩:=jE.obj (jE.val k) (Vf k) (fun b c=>Pw c) h (j.trans i);exact⟨d,fun e=>by rw[f e]⟩
  rw[zf i,zf i];by_cases q:jq s a=45\/jg (jq s a)=true
  ·rw[zg q,zg q];exact h.num Y c
  rw[zf q,zf q,hs.2];exact⟨h.fail Y (by decide),fun _=>rfl⟩
end
noncomputable abbrev Cwrd:Ctx:=qj prog [(150,iu)]
theorem zab:Gd Cwrd:=qQ mixed ⟨KC,trivial⟩
noncomputable def PA:AM.Spec:=kX Cwrd f98
theorem MU:zi prog 98 PA:=J3 zab func98
abbrev su(k n:Int):O:=.agg [int k,int n,str [],.nil,.nil]
theorem C4(s:za):∀(w:za) (c:UInt8) (st:Rst),oW s (w++[c]) st=Ja s (oW s w st) c
 |[],c,st=>rfl
 |d::w,c,st=>by rw[qU,oW,C4 s w,oW]
theorem zac{s w:za}{st:Rst}{Y:Hp}{Z:Nat}(k n:Int)(I:Y 0=some (qL s st))(J:0<Z)(hs:s.length<=1048576)(K:st.p<=s.length)(F:∀c∈w,c≠0)(L:w.length<=10) :
  ∃Y2 e,PA [.ref 0 0 0,str w,su k n] Y Z=some (su k n,Y2,e)/\Z<=e/\Y2 0=some (qL s (oW s w st))/\∀j,0<j->j<Z->Y2 j=Y j:=by
 have B:∃x Y2 e,jr Cwrd f98 [.ref 0 0 0,str w,su k n] Y Z=some (x,Y2,e)/\(x=su k n/\Z<=e/\Y2 0=some (qL s (oW s w st))/\∀j,0<j->j<Z->Y2 j=Y j):=by
  refine w9 rfl ?_;refine zM (fun M Y1 f=>M 0=.ref 0 0 0/\M 1=str w/\M 5=.ref Z 0 0/\M 6=.ref (Z+1) 0 0/\Y1=qf (qf Y Z (some ⟨43,5,false,[[int k,int n,str [],.nil,.nil]]⟩)) (Z+1) (some jC)/\f=Z+2) (by simp[jC]) ?_;rintro M _ _ ⟨u,m,q,r,rfl,rfl⟩;refine zM (fun d Y1 f=>d 5=.ref Z 0 0/\d 6=.ref (Z+1) 0 0/\Y1 0=some (qL s (oW s w st))/\(∀j,0<j->j<Z->Y1 j=Y j)/\Y1 Z=some ⟨43,5,false,[[int k,int n,str [],.nil,.nil]]⟩/\Y1 (Z+1)=some jC/\f=Z+2) ?_ ?_
  ·simp[u,m];refine ql (fun i d Y1 f=>d 0=.ref 0 0 0/\d 1=str w/\d 5=.ref Z 0 0/\d 6=.ref (Z+1) 0 0/\d 9=int w.length/\d 10=int i/\i<=w.length/\Y1 0=some (qL s (oW s (w.take i) st))/\(∀j,0<j->j<Z->Y1 j=Y j)/\Y1 Z=some ⟨43,5,false,[[int k,int n,str [],.nil,.nil]]⟩/\Y1 (Z+1)=some jC/\f=Z+2) w.length ⟨by simp[u],by simp[m],by simp[q],by simp[r],by simp,by simp,by omega,?_,?_,?_,by simp,rfl⟩ ?_
   ·dsimp only;rw[List.take_zero,zc _ _ _ _ (by omega),zc _ _ _ _ (by omega)];exact I
   ·intro j m G;dsimp only;rw[zc _ _ _ _ (by omega),zc _ _ _ _ (by omega)]
   ·dsimp only;rw[zc _ _ _ _ (by omega)];simp
   clear u m q r M;rintro i M Y1 _ Q ⟨u,m,q,r,H,v,N,h,A,o,l,rfl⟩;by_cases t:i<w.length
   ·have y:(i:Int)<w.length:=by omega
    have z:w[i]∈w:=zw t;have C:=nC (s:=s) (w.take i) st (fun c P=>F c (KA P)) K;have g:=Kb (Z:=Z+2) w[i] h hs C.2 (F _ z);have D:oW s (w.take (i+1)) st=Ja s (oW s (w.take i) st) w[i]:=by rw[List.take_add_one,zo t];exact C4 s _ _ _
    have E:=wv i;simp only[Zu]at g;simp[u,m,H,v,y,t,g,E];refine⟨by omega,q,r,by omega,by rw[D],fun j a b=>?_,?_,l⟩
    ·rw[zc _ _ _ _ (by omega)];exact A j a b
    ·rw[zc _ _ _ _ (by omega)];exact o
   ·obtain rfl:i=w.length:=by omega
    rw[we]at h;simp[H,v,q,r];exact⟨h,A,o,l⟩
  clear u m q r M;rintro M Y1 _ ⟨q,r,h,A,o,l,rfl⟩;simp only[jC]at l;simp[q,r,o,l,f98];refine⟨h,fun j a b=>?_⟩;rw[zc _ _ _ _ (by omega)];exact A j a b
 obtain⟨x,Y2,e,m,rfl,G⟩:=B;refine⟨Y2,e,?_,G⟩;unfold PA kX;rw[zg (by simp[f98])];exact m
noncomputable def iK (k:Nat):AM.Spec:=mR aU (fun s st _=>s.length-st.p<k) (fun s st _=>(ky s k st).2) (fun s st _=>.agg (ky s k st).1.V)
theorem nH{k:Nat}{s:za}{st:Rst}{Y:Hp}{id Z:Nat}(a:Y id=some (qL s st))(hs:s.length<=1048576)(b:st.p<=s.length)(c:s.length-st.p<k):iK k [.ref id 0 0] Y Z=some (.agg (ky s k st).1.V,qf Y id (some (qL s (ky s k st).2)),Z):=ZP y5 (fun _=>rfl) () a hs b c
noncomputable def liRS (k:Nat):AM.Spec:=mR aU (fun s st _=>ka s st=91/\s.length-st.p<=k) (fun s st _=>(ZE s (ky s k) st).2) (fun s st _=>.agg (Val.mk 4 0 [] (ZE s (ky s k) st).1 []).V)
theorem PB{k:Nat}{s:za}{st:Rst}{Y:Hp}{id Z:Nat}(a:Y id=some (qL s st))(hs:s.length<=1048576)(b:st.p<=s.length)(c:ka s st=91)(d:s.length-st.p<=k):liRS k [.ref id 0 0] Y Z=some (.agg (Val.mk 4 0 [] (ZE s (ky s k) st).1 []).V,qf Y id (some (qL s (ZE s (ky s k) st).2)),Z):=ZP y5 (fun _=>rfl) () a hs b ⟨c,d⟩
noncomputable def obRS (k:Nat):AM.Spec:=mR aU (fun s st _=>ka s st=123/\s.length-st.p<=k) (fun s st _=>(JQ s (ky s k) st).2) (fun s st _=>.agg (Val.mk 5 0 [] [] (JQ s (ky s k) st).1).V)
theorem PC{k:Nat}{s:za}{st:Rst}{Y:Hp}{id Z:Nat}(a:Y id=some (qL s st))(hs:s.length<=1048576)(b:st.p<=s.length)(c:ka s st=123)(d:s.length-st.p<=k):obRS k [.ref id 0 0] Y Z=some (.agg (Val.mk 5 0 [] [] (JQ s (ky s k) st).1).V,qf Y id (some (qL s (JQ s (ky s k) st).2)),Z):=ZP y5 (fun _=>rfl) () a hs b ⟨c,d⟩
noncomputable abbrev Clr (k:Nat):Ctx:=qj prog [(152,Le),(97,bG),(150,iu),(153,Fu),(72,iK k)]
theorem zdB{k:Nat}(h:wO False prog 72 (iK k)):AM.jH False (Clr k) (fun g=>[97].contains g):=qx mixed ⟨fX.lax,by simp,xm.lax,fun _=>ym _ _,KC.lax,by simp,s8.lax,by simp,h,by simp,trivial⟩
def LrI(s:za)(k:Nat)(b:Rst)(n:Nat)(st:St):Prop:=st.M 0=.ref 0 0 0/\st.M 2=.ref 1 0 0/\st.M 3=.ref 2 0 0/\2<st.Z/\st.Y 1=some jC/\∃v l a j,qN st.Y st.Z 43 5 v (l.map Val.V)/\st.Y 2=some ⟨43,5,false,[[int 4,int 0,str [],v,.nil]]⟩/\st.Y 0=some (qL s a)/\b.p+1<=a.p/\a.p<=s.length/\l.length<=a.p/\s.length-a.p+1=n/\n<=j/\CV s (ky s k) j l a=ZE s (ky s k) b
def LrQ(s:za)(Y2:Hp)(Z m:Nat)(st:St):Prop:=st.M 0=.ref 0 0 0/\st.M 2=.ref 1 0 0/\st.M 3=.ref 2 0 0/\st.Z=Z+2/\st.Y=qf Y2 2 (some (vx 4 (.own (Z+1) 0 m) .nil))
theorem gP{cs:zb}{Y:Hp}{Z:Nat}{v:O}{l:List Val}(b:qN Y Z 43 5 v (l.map Val.V))(a:Y 0=some (zz TR cs))(k:Int)(c:Nat):ig TR cs (.agg (Val.mk k 0 [] l []).V) (.agg [int k,int 0,str [],v,.nil]) Y c:=by
 have d:=qZ b a rfl;rcases b with⟨rfl,f⟩|⟨id,hid,rfl,g⟩
 ·have:l=[]:=by simpa using f
  subst this;exact qc rfl a kD rfl
 ·have h:AM.freeze Y (.agg [int k,int 0,str [],.own id 0 (l.map Val.V).length,.nil])=some (.agg [int k,int 0,str [],.sl 5 (l.map Val.V),.nil],qf Y id none):=by simp[AM.freeze,zO,qm,qp,g];exact qi (by simp)
  refine qc h ?_ kD ?_
  ·rw[zc _ _ _ _ (fun e=>d _ (by rw[<-e]))];exact a
  ·simp[o7,KQ,I0,wD,Val.kind,Val.n,Val.s,Val.items,Val.fields]
theorem sv{s:za}{st:Rst}(c:UInt8){Y:Hp}{Z:Nat}(a:Y 0=some (qL s st))(hs:s.length<=1048576)(b:st.p<=s.length)(d:c≠0):Fu [.ref 0 0 0,.v (.int .u8 c.toNat)] Y Z=some (yh (K9 s st c).1,qf Y 0 (some (qL s (K9 s st c).2)),Z):=OQ c a hs b d
theorem LN{k:Nat}(h:wO False prog 72 (iK k)):wO False prog 100 (liRS k):=
 ya (C:=Clr k) func100 (by kernel_rfl) rfl TR _ fun cs az cs' r hF=>by
  obtain⟨s,st,⟨⟩,rfl,rfl,hs,Y,⟨h91,hkk⟩,rfl,rfl⟩:=xt hF;refine⟨by simp[aU,f100],?_⟩;clear hF;have y:=zdB h;have hl0:=xO h91 (by decide);have X:Ja s st 91=st.qH:=by unfold Ja;rw[zg h91]
  obtain⟨a,o⟩:=wM (kO s st.qH);have R:st.qH.p<=s.length:=by simp only[Rst.qH];omega
  have J:=vU (s:=s) R;rw[o]at J;have sZ:st.qH.p=st.p+1:=rfl;refine Wp.cut y (fun M Y Z=>M 0=.ref 0 0 0/\M 2=.ref 1 0 0/\Y 0=some (qL s st)/\Y 1=some jC/\Z=2) (by kernel_rfl) (by simp[aU,zZ,zz,qa,jC,zc]) ?_;rintro M Y1 _ ⟨d,f,u,I,rfl⟩;refine Wp.cut y (fun c Y Z=>c 0=.ref 0 0 0/\c 2=.ref 1 0 0/\c 3=.ref 2 0 0/\Y 0=some (qL s st)/\Y 1=some jC/\Y 2=some (vx 4 .nil .nil)/\Z=3) (by kernel_rfl) (by simp[d,f,u,I,zc,zI,qe]) ?_;clear d f u I M Y1;rintro M Y1 _ ⟨d,f,i,u,I,z,rfl⟩;have g0:iu [.ref 0 0 0,.v (.int .u8 91)] Y1 3=some (.wL [],qf Y1 0 (some (qL s st.qH)),3):=by rw[<-X];exact Kb 91 u hs Y (by decide)
  refine Wp.cut y (fun c Y Z=>c 0=.ref 0 0 0/\c 2=.ref 1 0 0/\c 3=.ref 2 0 0/\Y 0=some (qL s st.qH)/\Y 1=some jC/\Y 2=some (vx 4 .nil .nil)/\Z=3) (by kernel_rfl) (by simp[d,f,i,g0,I,z,zc]) ?_;clear d f i u I z g0 M Y1;rintro M Y1 _ ⟨d,f,i,u,I,z,rfl⟩;have g1:=YM (id:=0) (Z:=3) u hs R;rw[o]at g1;have hb1:qf Y1 0 (some (qL s a)) 0=some (qL s a):=by simp
  have g2:=Wi (Z:=3) hb1 hs J.2.1;refine Wp.cut y (fun c Y Z=>c 0=.ref 0 0 0/\c 2=.ref 1 0 0/\c 3=.ref 2 0 0/\Y=qf Y1 0 (some (qL s a))/\Z=3) (by kernel_rfl) (by simp[d,f,i,g1]) ?_;clear d f i M;rintro M _ _ ⟨d,f,i,rfl,rfl⟩;by_cases A:ka s a=93
  ·have hl1:=xO A (by decide);have hw1:=wj ((a.p:Int)+1);have hr:ZE s (ky s k) st=([],a.qH):=by simp only[ZE,X,o,zg A]
   have Tq:(⟨a.p+1,a.b⟩:Rst).bad=a.bad/\(⟨a.p+1,a.b⟩:Rst).QO=a.QO:=⟨rfl,rfl⟩;rw[A]at g2;rw[hr];simp only[zz,qa,zd,ze,zh,Nat.reduceAdd]at g2⊢;refine Wp.seq (Wp.of y (by kernel_rfl) ?_);simp only[jC]at I;simp[d,f,i,g2,I,z,hw1,zc,f100];exact qc rfl (by simp[zc,zz,qa,Rst.qH,Tq]) kD rfl
  have hne:(((ka s a).toNat:Int)==93)=false:=WW 93 A;have hr:CV s (ky s k) (s.length+1) [] a=ZE s (ky s k) st:=by simp only[ZE,X,o,zf A]
  refine Wp.cut y (fun c Y Z=>LrI s k st (s.length-a.p+1) ⟨c,Y,Z⟩) (by kernel_rfl) ?_ ?_
  ·simp[d,g2,hne];exact⟨by simp[d],by simp[f],by simp[i],by simp,by simp[zc,I],.nil,[],a,s.length+1,.inl ⟨rfl,rfl⟩,by simp[zc,z],by simp,by omega,J.2.1,by simp,rfl,by omega,hr⟩
  clear d f i u hb1 I z g1 g2 M Y1;rintro M Y1 Z hI;refine Wp.seq (Wp.block (Wp.loop (LrI s k st) _ hI ?_));clear hI A hne hr J o M Y1 Z a;rintro n ⟨M,Y1,Z⟩ ⟨d,f,i,hnx,G,v,l,a,j,S,z,u,hge,hpl,hll,hn,hnj,B⟩;simp only at d f i hnx G S z u;have hox:=qZ S u rfl;have q:=qZ S G rfl;have T:=qZ S z rfl;obtain⟨j,rfl⟩:∃j',j=j'+1:=⟨j-1,by omega⟩;rw[CV]at B;have L:=u;simp only[zz,qa,zd,ze,zh,Nat.reduceAdd]at L;by_cases he:a.b=none
  case neg=>
   rw[zg he]at B;have hnb:¬a.bad<0:=by have:=lx he;omega
   refine Wp.seq (Wp.of y (by kernel_rfl) ?_);simp[d,L,hnb];refine Wp.of y (by kernel_rfl) ?_;rw[<-B];have t:=G;simp only[jC]at t;simp[f,i,z,t,S.cell,f100];exact gP (S.put q (some (vx 4 v .nil))) (by rw[zc _ _ _ _ (by decide)];exact u) 4 _
  rw[zf (by simpa using he)]at B;have hbn:=lv he;obtain⟨D,U⟩:=wM (kO s a);have hb0:=vU (s:=s) hpl;rw[U]at B hb0;obtain⟨x,m,hx⟩:∃x m,ky s k D=(x,m):=⟨_,_,rfl⟩;have N:=Vf k D hb0.2.1;rw[hx]at B N;simp only at B N;refine Wp.cut y (fun c Y' Z'=>c 0=.ref 0 0 0/\c 2=.ref 1 0 0/\c 3=.ref 2 0 0/\Y'=Y1/\Z'=Z) (by kernel_rfl) (by simp[d,f,i,L,hbn]) ?_;clear d f i M;rintro M Y1 Z ⟨d,f,i,rfl,rfl⟩;refine Wp.block ?_;have gb:=YM (id:=0) (Z:=Z) u hs hpl;rw[U]at gb;refine Wp.cut y (fun c Y' Z'=>c 0=.ref 0 0 0/\c 2=.ref 1 0 0/\c 3=.ref 2 0 0/\Y'=qf Y1 0 (some (qL s D))/\Z'=Z) (by kernel_rfl) (by simp[d,f,i,gb]) ?_;clear d f i M;rintro M _ Z ⟨d,f,i,rfl,rfl⟩;have W:qf Y1 0 (some (qL s D)) 0=some (qL s D):=by simp
  have hi0:qf Y1 0 (some (qL s D)) 2=some (vx 4 v .nil):=by rw[zc _ _ _ _ (by decide)];exact z
  have g:=nH (k:=k) (id:=0) (Z:=Z) W hs hb0.2.1 (by omega);rw[hx,qV]at g;simp only at g;obtain⟨Y2,a1,O2,f2⟩:=dJ (S.put hox (some (qL s m))) x (by omega);have b0:Y2 0=some (qL s m):=by rw[f2 0 (by omega) hox];simp
  have b1:Y2 1=some jC:=by rw[f2 1 (by omega) q,zc _ _ _ _ (by decide)];exact G
  have b2:Y2 2=some (vx 4 v .nil):=by rw[f2 2 (by omega) T,zc _ _ _ _ (by decide)];exact z
  refine Wp.seq (Wp.mono (K:=fun e st=>e=.normal/\LrQ s Y2 Z (l.length+1) st) ?_ ?_)
  ·refine Wp.aD mixed ?_;rw[show Wh _ _ _=[[0,1,2,3,4,5,6,7],[0,2,1,3,4,5,6,7],[0,2,3,1,4,5,6,7],[0,2,3,4,1,5,6,7],[2,0,1,3,4,5,6,7],[2,0,3,1,4,5,6,7],[2,0,3,4,1,5,6,7],[2,3,0,1,4,5,6,7],[2,3,0,4,1,5,6,7],[2,3,4,0,1,5,6,7]]from by kernel_rfl];intro lst hl;simp only[zv,wu,or_false]at hl;have n2:(2:Nat)≠Z:=by omega
   have n0:¬(0:Nat)=Z:=by omega
   rcases hl with rfl|rfl|rfl|rfl|rfl|rfl|rfl|rfl|rfl|rfl
   all_goals
    refine Jd.ord y _ (by kernel_rfl) (by decide) ?_;simp[d,f,i,z,g,a1,b2,n2,n0,zc,zs,zF,zr,LrQ]
  rintro e ⟨σ1,E,P⟩ ⟨rfl,e0,e2,e3,AR,F⟩;simp only at e0 e2 e3 AR F;simp only[ZQ];have d0:E 0=some (qL s m):=by rw[F,zc _ _ _ _ (by decide)];exact b0
  have d1:E 1=some jC:=by rw[F,zc _ _ _ _ (by decide)];exact b1
  have d2:E 2=some (vx 4 (.own (Z+1) 0 (l.length+1)) .nil):=by rw[F];simp
  have O3:qN E P 43 5 (.own (Z+1) 0 (l.length+1)) ((l++[x]).map Val.V):=by rw[F,AR];exact O2.put (fun n e=>by injection e with e;omega) _
  have S5:2<P:=by omega
  clear d f i S z hi0 u L W G hox q T g gb a1 O2 f2 b0 b1 b2 F M Y1 Y2 v;obtain⟨w,hw⟩:=wM (O.own (Z+1) 0 (l.length+1));rw[hw]at d2 O3;clear hw;have hox0:=qZ O3 d0 rfl;have q:=qZ O3 d1 rfl;have t:=d1;simp only[jC]at t;have Q:=fC (s:=s) (st:=m) 93 (by decide) N.2.1;have g5:Fu [.ref 0 0 0,.v (.int .u8 93)] E P=some (yh (K9 s m 93).1,qf E 0 (some (qL s (K9 s m 93).2)),P):=sv 93 d0 hs N.2.1 (by decide);obtain⟨bo,H,hmo⟩:∃bo H,K9 s m 93=(bo,H):=⟨_,_,rfl⟩;rw[hmo]at g5 B Q;simp only at g5 B Q;have O4:=O3.put hox0 (some (qL s H));cases bo
  ·simp only[zm,zQ]at B;rw[<-B];refine Wp.of y (by kernel_rfl) ?_;simp[e0,g5];refine Wp.of y (by kernel_rfl) ?_;simp[e2,e3,d2,t,O3.cell,zc,f100];exact gP (O4.put q (some (vx 4 w .nil))) (by rw[zc _ _ _ _ (by decide)];simp) 4 _
  ·simp only[zK]at B;have:=Q.2.2 rfl;refine Wp.of y (by kernel_rfl) ?_;simp[e0,g5];exact⟨s.length-H.p+1,by omega,by simp[e0],by simp[e2],by simp[e3],S5,by simp[zc,d1],w,l++[x],H,j,O4,by simp[zc,d2],by simp,by omega,Q.2.1,by simp;omega,rfl,by omega,B⟩
abbrev Rg:=Int×Int×Int
structure Lyr where
 name:List UInt8
 salt:List UInt8
 rest:Int
structure Hld where
 name:List UInt8
 salt:List UInt8
 buckets:Int
 zeq:List (List UInt8)
structure Phs where
 at_:Int
 zjf:List Sp
structure Xp where
 name:List UInt8
 zjg:List UInt8
 flag:List UInt8
 cond:Cnd
 salt:List UInt8
 arms:List Rg
 ziQ:List Phs
structure Bk where
 zeq:List Lyr
 holds:List Hld
 exps:List Xp
end Go.Q
namespace Go.AM
section
variable(C:Ctx)(ρ:Operand->Option O)(Y:Hp)(Z:Nat)
@[simp]theorem zfu(t:TypeId)(x i:Operand)(a:Bool):qb C ρ Y Z (.lookup t x i a)=(do let p <-ρ x;let q <-ρ i;let r <-Jj C.P Y t p q a;some (r,Y,Z)):=by simp only[qb];cases ρ x<;>cases ρ i<;>(try rfl);simp;cases Jj C.P Y t _ _ a<;>rfl
@[simp]theorem zad(t:TypeId)(m k x:Operand):qb C ρ Y Z (.mapUpdate t m k x)=(do let p <-ρ m;let q <-ρ k;let y <-ρ x;let h <-Qj C.P Y t p q y;some (.wL [],h,Z)):=by simp only[qb];cases ρ m<;>cases ρ k<;>cases ρ x<;>(try rfl);simp;cases Qj C.P Y t _ _ _<;>rfl
@[simp]theorem zdC(t:TypeId):qb C ρ Y Z (.makeMap t none)=(do let _ <-cz C.P t;some (.mp Z,qf Y Z (some ⟨t,0,false,[]⟩),Z+1)):=by simp only[qb];cases cz C.P t<;>rfl
end
end Go.AM
namespace Go.Q
@[simp]theorem zg3(M:Nat->O):AM.get M (.const (.pointer none))=some (.v (.pointer none)):=rfl
def uX(l:List za):List zb:=l.map fun s=>[str s,yh true]
def XA(l:List za):Blk:=⟨180,0,false,uX l⟩
theorem aj(s:za):∀(l:List za) (i:Nat),(s ∉ l->JZ (.string ⟨s.toArray⟩) (uX l) i=some none)/\(s∈l->∃j,JZ (.string ⟨s.toArray⟩) (uX l) i=some (some (j,yh true)))
 |[],i=>⟨fun _=>rfl,fun h=>by simp at h⟩
 |x::l,i=>by
  obtain⟨c,d⟩:=aj s l (i+1);by_cases a:s=x
  ·refine⟨fun h=>absurd (by simp[a]) h,fun _=>⟨i,?_⟩⟩;subst a;simp[uX,JZ,W6]
  ·have f:W6 (.string ⟨s.toArray⟩) (.string ⟨x.toArray⟩)=some false:=by simp only[W6];congr 1;rw[w8];intro e;exact a (by simpa[Ie]using e)
   have b:JZ (.string ⟨s.toArray⟩) (uX (x::l)) i=JZ (.string ⟨s.toArray⟩) (uX l) (i+1):=by simp only[uX,wK,JZ,f]
   refine⟨fun h=>by rw[b];exact c fun g=>h (List.mem_cons_of_mem _ g),fun h=>?_⟩;rcases zv.1 h with h|h
   ·exact absurd h a
   ·rw[b];exact d h
@[simp]theorem zfv:cz prog 180=some (none,4):=by kernel_rfl
@[simp]theorem zdD:cB prog 4=some (yh false):=by kernel_rfl
theorem PD{Y:Hp}{id:Nat}{l:List za}(s:za)(h:Y id=some (XA l)):Jj prog Y 180 (.mp id) (str s) false=some (yh (decide (s∈l))):=by
 obtain⟨b,c⟩:=aj s l 0;by_cases a:s∈l
 ·obtain⟨j,d⟩:=c a;simp[Jj,A8,h,XA,cA,d,a]
 ·simp[Jj,A8,h,XA,cA,b a,a]
theorem zae{Y:Hp}{id:Nat}{l:List za}(s:za)(h:Y id=some (XA l))(hs:s ∉ l):Qj prog Y 180 (.mp id) (str s) (yh true)=some (qf Y id (some (XA (l++[s])))):=by obtain⟨a,b⟩:=aj s l 0;simp[Qj,h,XA,cA,a hs];simp[uX]
theorem C5{Y:Hp}{Z:Nat}{v:O}{l:List (za×Val)}(f:qN Y Z 53 6 v (l.map wN))(x:za×Val)(g:l.length<100000000000):∃Y2,jF prog (qf Y Z (some ⟨53,6,true,[wN x]⟩)) (Z+1) 41 41 v (.own Z 0 1)=some (.own (Z+1) 0 (l.length+1),Y2,Z+2)/\qN Y2 (Z+2) 53 6 (.own (Z+1) 0 (l.length+1)) ((l++[x]).map wN)/\∀j,j<Z->(∀n,v≠.own j 0 n)->Y2 j=Y j:=by
 have a:=f.ji (P:=prog) (t:=41) (c:=wN x) el41 I2 by53 ze53 (by simp[wN]) (by omega) (by simp[maxLen];omega) (by simp;omega);have b:=qN.after (Y:=Y) (Z:=Z) (e:=53) (s:=6) (v:=v) (xs:=l.map wN) (c:=wN x) (tmp:=some ⟨53,6,true,[wN x]⟩);rw[yj]at a;refine⟨_,a,?_,fun j h d=>?_⟩
 ·rw[kq];simpa using b
 ·rw[w5 _ _ _ _ (by omega),yr f _ j d,w5 _ _ _ _ (by omega)]
theorem LO{Y:Hp}{id:Nat}{l:List za}(s:za)(h:Y id=some (XA l))(hs:s∈l):∃b,Qj prog Y 180 (.mp id) (str s) (yh true)=some (qf Y id (some b)):=by obtain⟨_,a⟩:=aj s l 0;obtain⟨j,c⟩:=a hs;exact⟨_,by simp[Qj,h,XA,cA,c];rfl⟩
theorem zg4{s:za}{st:Jst}{c:UInt8}(h:st.e≠0):(QK s st c).2.e≠0:=by
 have:QK s st c=(false,st):=by unfold QK;rw[zf (fun a=>h a.1),Jst.fail,zf h]
 rw[this];exact h
theorem zdE{s:za}{seen:List za}{st:Jst}(h:st.p<=s.length)(b:(bF s seen st).e=0):(jt s st).1 ∉ seen:=by
 intro d;have Y:=dB (s:=s) h;have f:(Wu s seen st).e≠0:=by
  unfold Wu;rw[zg (by simpa using d)];unfold Jst.fail;split
  ·simp
  ·assumption
 have a:(Wu s seen st).p<=s.length:=by
  unfold Wu;split
  ·rw[Zs];exact Y.2.1
  ·exact Y.2.1
 obtain⟨_,g,i,_⟩:=xN (s:=s) (st:=Wu s seen st) a;have j:=zg4 (s:=s) (st:=Qe s (Wu s seen st)) (c:=58) (by rw[i];exact f);have k:=K1 (s:=s) 58 g;obtain⟨_,_,l,_⟩:=xN (s:=s) (st:=(QK s (Qe s (Wu s seen st)) 58).2) k.2;exact j (by rw[<-l];exact b)
noncomputable abbrev Coj (k:Nat):Ctx:=qj prog [(112,Xf),(176,blS),(111,Xg),(174,Od),(114,UM),(79,iH k),(177,J4 6 178 UT UX)]
theorem zdF{k:Nat}(h:zi prog 79 (iH k)):AM.Good (Coj k) (fun g=>[111].contains g):=qx mixed ⟨xL,by simp,rO,by simp,xM,fun _=>ym _ _,X7,by simp,gK,by simp,h,by simp,CO,by simp,trivial⟩
def ObI(s:za)(k:Nat)(b:Jst)(n:Nat)(st:St):Prop:=st.M 0=.ref 0 0 0/\st.M 2=.ref 1 0 0/\st.M 3=.ref 2 0 0/\st.M 4=.mp 3/\3<st.Z/\st.Y 1=some jC/\∃v l seen a j,qN st.Y st.Z 53 6 v (l.map wN)/\st.Y 2=some (vx 5 .nil v)/\st.Y 0=some (wH s a)/\st.Y 3=some (XA seen)/\b.p+1<=a.p/\a.p<=s.length/\l.length<=a.p/\s.length-a.p+1=n/\n<=j/\Es s (Xz s k) j seen l a=YJ s (Xz s k) b
def ObE(s:za)(k:Nat)(b:Jst)(st:St):Prop:=st.M 2=.ref 1 0 0/\st.M 3=.ref 2 0 0/\2<st.Z/\st.Y 1=some jC/\∃v l a,qN st.Y st.Z 53 6 v (l.map wN)/\st.Y 2=some (vx 5 .nil v)/\st.Y 0=some (wH s a)/\l.length<=1048577/\YJ s (Xz s k) b=(l,a)
def ObQ(Z m:Nat)(Y2:Hp)(st:St):Prop:=st.M 0=.ref 0 0 0/\st.M 2=.ref 1 0 0/\st.M 3=.ref 2 0 0/\st.M 4=.mp 3/\st.Z=Z+2/\st.Y=qf Y2 2 (some (vx 5 .nil (.own (Z+1) 0 m)))
def nI(M:Nat->O):Prop:=M 0=.ref 0 0 0/\M 2=.ref 1 0 0/\M 3=.ref 2 0 0/\M 4=.mp 3
set_option maxHeartbeats 8000000 in
theorem F9{k:Nat}(h:zi prog 79 (iH k)):zi prog 116 (objS k):=
 ya (C:=Coj k) func116 (by kernel_rfl) rfl TJ _ fun cs az cs' r hF=>by
  obtain⟨s,st,⟨⟩,rfl,rfl,hs,Y,⟨h91,hkk⟩,rfl,rfl⟩:=Qp hF;refine⟨by simp[aU,f116],?_⟩;clear hF;have A:=zdF h;have hl0:=Ww h91 (by decide);have hw0:=wj ((st.p:Int)+1);obtain⟨m,I⟩:=wM (Qe s st.qH);have S7:st.qH.p<=s.length:=by simp only[Jst.qH];omega
  have oQ:=xN (s:=s) S7;rw[I]at oQ;simp only[Jst.qH]at oQ;refine Wp.cut A (fun M Y Z=>M 0=.ref 0 0 0/\M 2=.ref 1 0 0/\Y 0=some (wH s st)/\Y 1=some jC/\Z=2) (by kernel_rfl) (by simp[aU,zZ,zz,zN,jC,zc]) ?_;rintro M Y1 _ ⟨d,f,y,hv,rfl⟩;refine Wp.cut A (fun c Y Z=>c 0=.ref 0 0 0/\c 2=.ref 1 0 0/\c 3=.ref 2 0 0/\Y 0=some (wH s st)/\Y 1=some jC/\Y 2=some (vx 5 .nil .nil)/\Z=3) (by kernel_rfl) (by simp[d,f,y,hv,zc,zI,qe]) ?_;clear d f y hv M Y1;rintro M Y1 _ ⟨d,f,i,y,hv,D,rfl⟩;refine Wp.cut A (fun c Y Z=>nI c/\Y 0=some (wH s st)/\Y 1=some jC/\Y 2=some (vx 5 .nil .nil)/\Y 3=some (XA [])/\Z=4) (by kernel_rfl) (by simp[nI,d,f,i,y,hv,D,zc,XA,uX]) ?_;clear d f i y hv D M Y1;rintro M Y1 _ ⟨⟨d,f,i,q⟩,y,hv,D,R,rfl⟩;refine Wp.cut A (fun c Y Z=>nI c/\Y 0=some (wH s st.qH)/\Y 1=some jC/\Y 2=some (vx 5 .nil .nil)/\Y 3=some (XA [])/\Z=4) (by kernel_rfl) ?_ ?_
  ·simp only[zz,zN,zd,ze,zh,Nat.reduceAdd]at y⊢;simp[nI,d,f,i,q,y,hv,D,R,hw0,Jst.qH,zc]
  clear d f i q y hv D R M Y1;rintro M Y1 _ ⟨⟨d,f,i,q⟩,y,hv,D,R,rfl⟩;have g1:=Wv (id:=0) (Z:=4) y hs S7;rw[I]at g1;have hb1:qf Y1 0 (some (wH s m)) 0=some (wH s m):=by simp
  have g2:=ZO (Z:=4) hb1 hs oQ.2.1;by_cases h93:jq s m=125
  ·have hl1:=Ww h93 (by decide);have hw1:=wj ((m.p:Int)+1);have hr:YJ s (Xz s k) st=([],m.qH):=by simp only[YJ,I,zg h93]
   rw[h93]at g2;rw[hr];have hsn:zy []=[]:=nA (by simp[UpF]);simp only[hsn];simp only[zz,zN,zd,ze,zh,Nat.reduceAdd]at g1 g2 y;refine Wp.seq (Wp.of A (by kernel_rfl) ?_);simp only[jC]at hv;simp[d,f,i,g1,g2,hv,D,hw1,zc,f116];exact qc rfl (by simp[zc,zz,zN,Jst.qH]) kD rfl
  have hne:(((jq s m).toNat:Int)==125)=false:=WW 125 h93;have hr:Es s (Xz s k) (s.length+1) [] [] m=YJ s (Xz s k) st:=by simp only[YJ,I,zf h93]
  refine Wp.cut A (fun c Y Z=>ObI s k st (s.length-m.p+1) ⟨c,Y,Z⟩) (by kernel_rfl) ?_ ?_
  ·simp[d,g1,g2,hne];exact⟨by simp[d],by simp[f],by simp[i],by simp[q],by simp,by simp[zc,hv],.nil,[],[],m,s.length+1,.inl ⟨rfl,rfl⟩,by simp[zc,D],by simp,by simp[zc,R],oQ.1,oQ.2.1,by simp,rfl,by omega,hr⟩
  clear d f i q y hb1 hv D R g1 g2 M Y1;rintro M Y1 Z hI;refine Wp.seq (Wp.mono (K:=fun e st'=>e=.normal/\ObE s k st st') (Wp.block (Wp.loop (ObI s k st) _ hI ?_)) ?_)
  ·clear hI h93 hne hr oQ I M Y1 Z m;rintro n ⟨M,Y1,Z⟩ ⟨d,f,i,q,hnx,G,v,l,seen,m,j,z,D,y,R,hge,hpl,hll,hn,hnj,H⟩;simp only at d f i q hnx G z D y R;have J:=qZ z y rfl;have E:=qZ z G rfl;have F:=qZ z D rfl;have L:=qZ z R rfl;obtain⟨j,rfl⟩:∃j',j=j'+1:=⟨j-1,by omega⟩;rw[Es]at H;have hb':=y;simp only[zz,zN,zd,ze,zh,Nat.reduceAdd]at hb';by_cases he:m.e=0
   case neg=>rw[zg he]at H;refine Wp.seq (Wp.of A (by kernel_rfl) ?_);simp[d,hb',he,Zw he];exact⟨by simp[f],by simp[i],by simp only;omega,G,v,l,m,z,D,y,by omega,H.symm⟩
   rw[zf (by simpa using he)]at H;have hcl:=CT (s:=s) seen hpl;have Na:=dB (s:=s) hpl;have hce:=fun d=>zdE (s:=s) (seen:=seen) hpl d
   obtain⟨a,ha⟩:=wM ((jt s m).1);obtain⟨stT,hT⟩:=wM ((jt s m).2);obtain⟨t,hN⟩:=wM (Wu s seen m);obtain⟨S,h4J⟩:=wM (bF s seen m);have hNN:t=if a∈seen then stT.fail s.length m.p 7 else stT:=by
    rw[<-hN,Wu,ha,hT];by_cases R:a∈seen
    ·rw[zg (by simpa using R),zg R]
    ·rw[zf (by simpa using R),zf R]
   have hcol:Qe s (QK s (Qe s t) 58).2=S:=by rw[<-hN,<-h4J];rfl
   rw[ha]at H hcl hce Na;rw[hT]at Na;rw[h4J]at H hcl hce;have hNp:t.p<=s.length:=by rw[hNN];split<;>(try rw[Zs])<;>omega
   refine Wp.cut A (fun c N P=>nI c/\N=Y1/\P=Z) (by kernel_rfl) (by simp[nI,d,f,i,q,hb',he]) ?_;clear d f i q M;rintro M Y1 Z ⟨⟨d,f,i,q⟩,rfl,rfl⟩;refine Wp.block ?_;refine Wp.cut A (fun c N P=>nI c/\c 5=int m.p/\N=Y1/\P=Z) (by kernel_rfl) (by simp[nI,d,f,i,q,hb']) ?_;clear d f i q M;rintro M Y1 Z ⟨⟨d,f,i,q⟩,h5,rfl,rfl⟩;have gt:=nq (id:=0) (Z:=Z) y hs hpl;rw[ha,hT]at gt;refine Wp.cut A (fun c N P=>nI c/\c 5=int m.p/\c 6=str a/\N=qf Y1 0 (some (wH s stT))/\P=Z) (by kernel_rfl) (by simp[nI,d,f,i,q,h5,gt]) ?_;clear d f i q h5 gt M;rintro M _ Z ⟨⟨d,f,i,q⟩,h5,B,rfl,rfl⟩;have hmT:qf Y1 0 (some (wH s stT)) 3=some (XA seen):=by rw[zc _ _ _ _ (by decide)];exact R
   have hbT:qf Y1 0 (some (wH s stT)) 0=some (wH s stT):=by simp
   have gl:=PD (id:=3) a hmT;have gf:=vT (id:=0) (Z:=Z) m.p 7 hbT hs Na.2.1 (by omega);rw[qV]at gf;refine Wp.cut A (fun c N P=>nI c/\c 6=str a/\N=qf Y1 0 (some (wH s t))/\P=Z) (by kernel_rfl) ?_ ?_
   ·by_cases Q:a∈seen
    ·rw[show decide (a∈seen)=true from by simpa using Q]at gl;rw[zg Q]at hNN;simp[nI,d,f,i,q,h5,B,gl,gf,hNN]
    ·rw[show decide (a∈seen)=false from by simpa using Q]at gl;rw[zf Q]at hNN;simp[nI,d,f,i,q,h5,B,gl,hNN]
   clear d f i q h5 B gl gf hmT hbT M;rintro M _ Z ⟨⟨d,f,i,q⟩,B,rfl,rfl⟩;have hmN:qf Y1 0 (some (wH s t)) 3=some (XA seen):=by rw[zc _ _ _ _ (by decide)];exact R
   obtain⟨hpM,gp,hpm⟩:∃hpM,Qj prog (qf Y1 0 (some (wH s t))) 180 (.mp 3) (str a) (yh true)=some (qf (qf Y1 0 (some (wH s t))) 3 hpM)/\(a ∉ seen->hpM=some (XA (seen++[a]))):=by
    by_cases Q:a∈seen
    ·obtain⟨b,y⟩:=LO a hmN Q;exact⟨some b,y,fun h=>absurd Q h⟩
    ·exact⟨_,zae a hmN Q,fun _=>rfl⟩
   refine Wp.cut A (fun c N P=>nI c/\c 6=str a/\N=qf (qf Y1 0 (some (wH s t))) 3 hpM/\P=Z) (by kernel_rfl) (by simp[nI,d,f,i,q,B,gp]) ?_;clear d f i q B gp hmN M;rintro M Y2 Z ⟨⟨d,f,i,q⟩,B,Ir,rfl⟩;have c0:Y2 0=some (wH s t):=by rw[Ir,zc _ _ _ _ (by decide)];simp
   have c1:Y2 1=some jC:=by rw[Ir,zc _ _ _ _ (by decide),zc _ _ _ _ (by decide)];exact G
   have c2:Y2 2=some (vx 5 .nil v):=by rw[Ir,zc _ _ _ _ (by decide),zc _ _ _ _ (by decide)];exact D
   have c3:Y2 3=hpM:=by rw[Ir];simp
   have cO:qN Y2 Z 53 6 v (l.map wN):=by rw[Ir];exact(z.put J _).put L _
   clear Ir z D y hb' R G J E F L Y1;have gb1:=Wv (id:=0) (Z:=Z) c0 hs hNp;obtain⟨q1,q2,q3,_⟩:=xN (s:=s) (st:=t) hNp;have gs:Od [.ref 0 0 0,.v (.int .u8 58)] (qf Y2 0 (some (wH s (Qe s t)))) Z=some (yh (QK s (Qe s t) 58).1,qf (qf Y2 0 (some (wH s (Qe s t)))) 0 (some (wH s (QK s (Qe s t) 58).2)),Z):=Xh 58 (by simp) hs q2;have q4:=K1 (s:=s) 58 q2;have gb2:=Wv (Y:=qf Y2 0 (some (wH s (QK s (Qe s t) 58).2))) (id:=0) (Z:=Z) (by simp) hs q4.2;rw[hcol,qV]at gb2;rw[qV]at gs;refine Wp.cut A (fun c N P=>nI c/\c 6=str a/\N=qf Y2 0 (some (wH s (Qe s t)))/\P=Z) (by kernel_rfl) (by simp[nI,d,f,i,q,B,gb1]) ?_;clear d f i q B gb1 M;rintro M _ Z ⟨⟨d,f,i,q⟩,B,rfl,rfl⟩;refine Wp.cut A (fun c N P=>nI c/\c 6=str a/\N=qf Y2 0 (some (wH s (QK s (Qe s t) 58).2))/\P=Z) (by kernel_rfl) (by simp[nI,d,f,i,q,B,gs]) ?_;clear d f i q B gs M;rintro M _ Z ⟨⟨d,f,i,q⟩,B,rfl,rfl⟩;refine Wp.cut A (fun c N P=>nI c/\c 6=str a/\N=qf Y2 0 (some (wH s S))/\P=Z) (by kernel_rfl) (by simp[nI,d,f,i,q,B,gb2]) ?_;clear d f i q B gb2 q1 q2 q3 q4 M;rintro M Y1 Z ⟨⟨d,f,i,q⟩,B,hh1,rfl⟩;have b0:Y1 0=some (wH s S):=by rw[hh1];simp
   have b1:Y1 1=some jC:=by rw[hh1,zc _ _ _ _ (by decide)];exact c1
   have b2:Y1 2=some (vx 5 .nil v):=by rw[hh1,zc _ _ _ _ (by decide)];exact c2
   have b3:Y1 3=hpM:=by rw[hh1,zc _ _ _ _ (by decide)];exact c3
   have z:qN Y1 Z 53 6 v (l.map wN):=by rw[hh1];exact cO.put (qZ cO c0 rfl) _
   clear hh1 c0 c1 c2 c3 cO Y2;have b0':=b0;simp only[zz,zN,zd,ze,zh,Nat.reduceAdd]at b0';by_cases he4:S.e=0
   case neg=>rw[zg he4]at H;refine Wp.seq (Wp.of A (by kernel_rfl) ?_);simp[d,b0',he4,Zw he4,bne];exact⟨by simp[f],by simp[i],by simp only;omega,b1,v,l,S,z,b2,b0,by omega,H.symm⟩
   rw[zf (by simpa using he4)]at H;have b3:=b3.trans (hpm (hce he4));clear hpm hce;refine Wp.cut A (fun c N P=>nI c/\c 6=str a/\N=Y1/\P=Z) (by kernel_rfl) (by simp[nI,d,f,i,q,B,b0',he4,bne]) ?_;clear d f i q B b0' M;rintro M Y1 Z ⟨⟨d,f,i,q⟩,B,rfl,rfl⟩;have J:=qZ z b0 rfl;have E:=qZ z b1 rfl;have F:=qZ z b2 rfl;have L:=qZ z b3 rfl;obtain⟨x,T,hx⟩:∃x T,Xz s k S=(x,T):=⟨_,_,rfl⟩;have hvl:=lr s k S hcl.2.1;rw[hx]at H hvl;simp only at H hvl;have g:=fA (k:=k) (id:=0) (Z:=Z) b0 hs hcl.2.1 (by omega);rw[hx]at g;simp only at g;obtain⟨Y2,a1,O2,f2⟩:=C5 (z.put J (some (wH s T))) (a,x) (by omega);have c0:Y2 0=some (wH s T):=by rw[f2 0 (by omega) J];simp
   have c1:Y2 1=some jC:=by rw[f2 1 (by omega) E,zc _ _ _ _ (by decide)];exact b1
   have c2:Y2 2=some (vx 5 .nil v):=by rw[f2 2 (by omega) F,zc _ _ _ _ (by decide)];exact b2
   have c3:Y2 3=some (XA (seen++[a])):=by rw[f2 3 (by omega) L,zc _ _ _ _ (by decide)];exact b3
   simp only[wN,wD]at a1 g;refine Wp.seq (Wp.mono (K:=fun e st=>e=.normal/\ObQ Z (l.length+1) Y2 st) ?_ ?_)
   ·refine Wp.aD mixed ?_;rw[show Wh _ _ _=[[0,1,2,3,4,5,6,7,8,9],[0,1,3,2,4,5,6,7,8,9],[0,1,3,4,2,5,6,7,8,9],[0,2,1,3,4,5,6,7,8,9],[0,2,3,1,4,5,6,7,8,9],[0,2,3,4,1,5,6,7,8,9],[0,2,3,4,5,1,6,7,8,9],[0,2,3,4,5,6,1,7,8,9],[0,3,1,2,4,5,6,7,8,9],[0,3,1,4,2,5,6,7,8,9],[0,3,2,1,4,5,6,7,8,9],[0,3,2,4,1,5,6,7,8,9],[0,3,2,4,5,1,6,7,8,9],[0,3,2,4,5,6,1,7,8,9],[0,3,4,1,2,5,6,7,8,9],[0,3,4,2,1,5,6,7,8,9],[0,3,4,2,5,1,6,7,8,9],[0,3,4,2,5,6,1,7,8,9],[2,0,1,3,4,5,6,7,8,9],[2,0,3,1,4,5,6,7,8,9],[2,0,3,4,1,5,6,7,8,9],[2,0,3,4,5,1,6,7,8,9],[2,0,3,4,5,6,1,7,8,9],[2,3,0,1,4,5,6,7,8,9],[2,3,0,4,1,5,6,7,8,9],[2,3,0,4,5,1,6,7,8,9],[2,3,0,4,5,6,1,7,8,9],[2,3,4,0,1,5,6,7,8,9],[2,3,4,0,5,1,6,7,8,9],[2,3,4,0,5,6,1,7,8,9],[2,3,4,5,0,1,6,7,8,9],[2,3,4,5,0,6,1,7,8,9],[2,3,4,5,6,0,1,7,8,9],[3,0,1,2,4,5,6,7,8,9],[3,0,1,4,2,5,6,7,8,9],[3,0,2,1,4,5,6,7,8,9],[3,0,2,4,1,5,6,7,8,9],[3,0,2,4,5,1,6,7,8,9],[3,0,2,4,5,6,1,7,8,9],[3,0,4,1,2,5,6,7,8,9],[3,0,4,2,1,5,6,7,8,9],[3,0,4,2,5,1,6,7,8,9],[3,0,4,2,5,6,1,7,8,9],[3,2,0,1,4,5,6,7,8,9],[3,2,0,4,1,5,6,7,8,9],[3,2,0,4,5,1,6,7,8,9],[3,2,0,4,5,6,1,7,8,9],[3,2,4,0,1,5,6,7,8,9],[3,2,4,0,5,1,6,7,8,9],[3,2,4,0,5,6,1,7,8,9],[3,2,4,5,0,1,6,7,8,9],[3,2,4,5,0,6,1,7,8,9],[3,2,4,5,6,0,1,7,8,9],[3,4,0,1,2,5,6,7,8,9],[3,4,0,2,1,5,6,7,8,9],[3,4,0,2,5,1,6,7,8,9],[3,4,0,2,5,6,1,7,8,9],[3,4,2,0,1,5,6,7,8,9],[3,4,2,0,5,1,6,7,8,9],[3,4,2,0,5,6,1,7,8,9],[3,4,2,5,0,1,6,7,8,9],[3,4,2,5,0,6,1,7,8,9],[3,4,2,5,6,0,1,7,8,9]]from by kernel_rfl];intro lst hl;simp only[zv,wu,or_false]at hl;have n2:(2:Nat)≠Z:=by omega
    have n0:¬(0:Nat)=Z:=by omega
    rcases hl with rfl|rfl|rfl|rfl|rfl|rfl|rfl|rfl|rfl|rfl|rfl|rfl|rfl|rfl|rfl|rfl|rfl|rfl|rfl|rfl|rfl|rfl|rfl|rfl|rfl|rfl|rfl|rfl|rfl|rfl|rfl|rfl|rfl|rfl|rfl|rfl|rfl|rfl|rfl|rfl|rfl|rfl|rfl|rfl|rfl|rfl|rfl|rfl|rfl|rfl|rfl|rfl|rfl|rfl|rfl|rfl|rfl|rfl|rfl|rfl|rfl|rfl|rfl
    all_goals
     refine Jd.ord A _ (by kernel_rfl) (by decide) ?_;simp[d,f,i,q,B,b2,g,a1,c2,n2,n0,zc,zI,qe,yF,zs,zF,zr,ObQ]
   rintro e ⟨σ1,u,U⟩ ⟨rfl,e0,e2,e3,e4,AR,W⟩;simp only at e0 e2 e3 e4 AR W;simp only[ZQ];have d0:u 0=some (wH s T):=by rw[W,zc _ _ _ _ (by decide)];exact c0
   have d1:u 1=some jC:=by rw[W,zc _ _ _ _ (by decide)];exact c1
   have d2:u 2=some (vx 5 .nil (.own (Z+1) 0 (l.length+1))):=by rw[W];simp
   have d3:u 3=some (XA (seen++[a])):=by rw[W,zc _ _ _ _ (by decide)];exact c3
   have O3:qN u U 53 6 (.own (Z+1) 0 (l.length+1)) ((l++[(a,x)]).map wN):=by rw[W,AR];exact O2.put (fun n e=>by injection e with e;omega) _
   have S5:3<U:=by omega
   clear d f i q B b0 b1 b2 z J E F L g a1 O2 f2 c0 c1 c2 c3 W hNN hcol hN h4J hT ha Na;obtain⟨w,hw⟩:=wM (O.own (Z+1) 0 (l.length+1));rw[hw]at d2 O3;clear hw;obtain⟨bl1,bl2,bl3,_⟩:=xN (s:=s) (st:=T) hvl.2.1;obtain⟨o,hst2⟩:=wM (Qe s T);have g3:=Wv (id:=0) (Z:=U) d0 hs hvl.2.1;rw[hst2]at g3 H bl1 bl2 bl3;have d0':qf u 0 (some (wH s o)) 0=some (wH s o):=by simp
   have g4:=ZO (Z:=U) d0' hs bl2;have hox0:=qZ O3 d0 rfl;have g5:Od [.ref 0 0 0,.v (.int .u8 125)] (qf u 0 (some (wH s o))) U=some (yh (QK s o 125).1,qf (qf u 0 (some (wH s o))) 0 (some (wH s (QK s o 125).2)),U):=Xh 125 d0' hs bl2;rw[qV]at g5;by_cases hcm:o.e=0/\jq s o=44
   ·obtain⟨X,h44⟩:=hcm;rw[zg ⟨X,h44⟩]at H;have hl2:=Ww h44 (by decide);have hw2:=wj ((o.p:Int)+1);rw[h44]at g4;have zcl:o.qH.p<=s.length:=by simp only[Jst.qH];omega
    have d0'':qf u 0 (some (wH s o.qH)) 0=some (wH s o.qH):=by simp
    have g6:=Wv (id:=0) (Z:=U) d0'' hs zcl;rw[qV]at g6;obtain⟨k1,k2,_⟩:=xN (s:=s) (st:=o.qH) zcl;obtain⟨st3,hst3⟩:=wM (Qe s o.qH);rw[hst3]at g6 H k1 k2;simp only[Jst.qH]at k1;simp only[zz,zN,Jst.qH,zd,ze,zh,Nat.reduceAdd,yk,qu,X]at g3 g4 g6;refine Wp.of A (by kernel_rfl) ?_;simp[e0,g3,g4,g6,hw2];have O4:=O3.put hox0 (some (wH s st3));simp only[zz,zN,zd,ze,zh,Nat.reduceAdd]at O4;exact⟨s.length-st3.p+1,by omega,by simp[e0],by simp[e2],by simp[e3],by simp[e4],S5,by simp[zc,d1],w,l++[(a,x)],seen++[a],st3,j,by simpa using O4,by simp[zc,d2],by simp[zz,zN],by simp[zc,d3],by omega,k2,by simp;omega,rfl,by omega,H⟩
   rw[zf hcm]at H;have O4:=O3.put hox0 (some (wH s (QK s o 125).2));by_cases X:o.e=0
   ·have h44:¬jq s o=44:=fun h=>hcm ⟨X,h⟩
    have hne4:(((jq s o).toNat:Int)==44)=false:=WW 44 h44;simp only[zz,zN,Jst.qH,zd,ze,zh,Nat.reduceAdd,yk,qu,X]at g3 g4 g5 O4;refine Wp.of A (by kernel_rfl) ?_;simp[e0,g3,g4,g5,hne4];exact⟨by simp[e2],by simp[e3],by simp only;omega,by simp[zc,d1],w,l++[(a,x)],(QK s o 125).2,by simpa using O4,by simp[zc,d2],by simp[zz,zN],by simp;omega,H.symm⟩
   ·simp only[zz,zN,Jst.qH,zd,ze,zh,Nat.reduceAdd,yk,qu]at g3 g4 g5 O4;refine Wp.of A (by kernel_rfl) ?_;simp[e0,g3,g4,g5,X,Zw X];exact⟨by simp[e2],by simp[e3],by simp only;omega,by simp[zc,d1],w,l++[(a,x)],(QK s o 125).2,by simpa using O4,by simp[zc,d2],by simp[zz,zN],by simp;omega,H.symm⟩
  ·rintro e ⟨σ2,Y2,SC⟩ ⟨rfl,f,i,hnx,G,v,l,stF,z,D,y,hl,hr2⟩;simp only at f i hnx G z D y;simp only[ZQ];rw[hr2];have J:=qZ z y rfl;have E:=qZ z G rfl;have F:=qZ z D rfl;obtain⟨u,s1,O3,f3⟩:=FY (by have:qg=268435456:=rfl;omega) z;have b0:u 0=some (wH s stF):=by rw[f3 0 J];exact y
   have b1:u 1=some jC:=by rw[f3 1 E];exact G
   have b2:u 2=some (vx 5 .nil v):=by rw[f3 2 F];exact D
   have b1':=b1;simp only[jC]at b1';refine Wp.of A (by kernel_rfl) ?_;simp[f,i,D,s1,b2,b1',z.cell,f116];exact CQ (O3.put (qZ O3 b1 rfl) (some (vx 5 .nil v))) (by rw[zc _ _ _ _ (by decide)];exact b0) 5 _
noncomputable abbrev Crcv:Ctx:=qj prog [(32,zn false [] (On wI)),(129,zn false [] M3),(302,zn false [] (WV (fun a b=>int (yb a b)) fun _ _=>True))]
theorem zaf:AM.Good Crcv (fun g=>[32,129,302].contains g):=qx mixed ⟨Z3,fun _=>zt _ _,Xm,fun _=>zt _ _,dm,fun _=>zt _ _,trivial⟩
theorem VI(v w:yC)(W:v.small)(X:w.small):zG Crcv f269 [.agg v.V,.agg w.V]=some (int (QM v w)):=by
 obtain⟨a,b,c,p⟩:=v;obtain⟨t,u,x,f⟩:=w;obtain⟨Y1,Y2⟩:=W;obtain⟨y,z⟩:=X;simp only at Y1 Y2 y z;refine zu rfl ?_;obtain⟨o,T⟩:=wM (KE [wI a t,wI b u,wI c x]);have j:∀(Y:Hp) (Z id:Nat),Y id=some ⟨3,1,true,[[int (wI a t)],[int (wI b u)],[int (wI c x)]]⟩->zn false [] M3 [.own id 0 3] Y Z=some (int o,Y,Z):=fun Y Z id hh=>T ▸ dd [_,_,_] Y Z id _ (by show 3<=qg;decide) hh
 have d:QM ⟨a,b,c,p⟩ ⟨t,u,x,f⟩=if o=0 then(if p.length=0 then(if f.length=0 then 0 else 1)else if f.length=0 then -1 else yl yb p f)else o:=by rw[<-T];rfl
 by_cases F:o=0
 case neg=>have G:=VF F;simp[yC.V,j,zs,zF,zr,F,G,d,f269]
 subst F;have g:(qJ p).length=p.length:=by simp[qJ]
 have e:(qJ f).length=f.length:=by simp[qJ]
 by_cases A:p.length=0
 ·have s:wI f.length 0=if f.length=0 then 0 else 1:=by unfold wI;split<;>(try split)<;>(try split)<;>first|omega|rfl
  simp[yC.V,j,zs,zF,zr,A,d,g,e,s,f269]
 by_cases H:f.length=0
 ·have n:((p.length:Int)==0)=false:=by simpa using A
  have s:wI 0 p.length=-1:=by unfold wI;rw[zg (by omega)]
  simp[yC.V,j,zs,zF,zr,A,n,H,d,g,e,s,f269]
 have n:((p.length:Int)==0)=false:=by simpa using A
 have I:((f.length:Int)==0)=false:=by simpa using H
 obtain⟨m,hm,J,K,B⟩:=uB p.length f.length;unfold qg at Y1 y;have d:QM ⟨a,b,c,p⟩ ⟨t,u,x,f⟩=yl yb p f:=by rw[d];simp[A,H]
 rw[d];simp[yC.V,j,zs,zF,zr,n,I,g,e,hm];refine ql (fun k M Y Z=>M 2=.ref 0 0 0/\M 3=.ref 1 0 0/\Y 0=some ⟨111,4,false,[[int a,int b,int c,.sl 1 (qJ p)]]⟩/\Y 1=some ⟨111,4,false,[[int t,int u,int x,.sl 1 (qJ f)]]⟩/\M 51=int m/\M 52=int k/\yl yb p f=yl yb (p.drop k) (f.drop k)) m
  ⟨by simp,by simp,by simp,by simp,by simp,by simp,by simp⟩ ?_
 rintro k M Y Z hk ⟨L,N,P,Q,q,r,l⟩;by_cases C:k<m
 ·have h:k<p.length:=by omega
  have i:k<f.length:=by omega
  have R:=wv k;have s:=fun Y Z=>rS p[k] f[k] Y Z (Y2 _ (zw h)) (z _ (zw i))
  have U:=Xj h;have D:=Xj i;rw[zl h,zl i]at l;simp only[yl]at l;by_cases E:yb p[k] f[k]=0
  ·rw[zg E]at l;simp[L,N,q,r,P,Q,C,h,i,g,e,U,D,s,E,R];exact⟨by omega,l⟩
  ·rw[zf E]at l;have S:=VF E;simp[L,N,q,r,P,Q,C,h,i,g,e,U,D,s,S,l,f269]
 ·obtain rfl:k=m:=by omega
  rw[ni yb J K B]at l;simp[L,N,q,r,P,Q,g,e,l,f269]
theorem Vg:zi prog 269 (qK [.g vd,.g vd] (Ot fun v w=>int (QM v w))):=
 yf (fn:=f269) zaf (wc func269) _ _ fun args r h=>by obtain⟨⟨v,w⟩,rfl,⟨a,b⟩,rfl⟩:=zL h;exact⟨by simp[f269],_,VI v w a b,wW.refl _⟩
noncomputable abbrev Crcu:Ctx:=qj prog [(269,qK [.g vd,.g vd] (Ot fun v w=>int (QM v w)))]
theorem zag:Gd Crcu:=qQ mixed ⟨Vg,trivial⟩
theorem dM(x y:Cut)(l:x.v.small)(m:y.v.small):zG Crcu f225 [.agg x.V,.agg y.V]=some (int (wP x y)):=by
 obtain⟨⟨a,b,c,p⟩,f⟩:=x;obtain⟨⟨h,i,j,k⟩,f'⟩:=y;refine zu rfl ?_;have d:=fun Y Z=>Hr ⟨a,b,c,p⟩ ⟨h,i,j,k⟩ Y Z l m
 simp only[yC.V]at d;by_cases e:QM ⟨a,b,c,p⟩ ⟨h,i,j,k⟩=0
 ·cases f<;>cases f'<;>simp[Cut.V,d,e,wP,f225]
 ·have g:=jl e;simp[Cut.V,d,e,g,wP,f225]
theorem Z6:zi prog 225 (qK [.g jQ,.g jQ] (B9 fun v w=>int (wP v w))):=
 yf (fn:=f225) zag (wc func225) _ _ fun args r h=>by obtain⟨⟨v,w⟩,rfl,⟨a,b⟩,rfl⟩:=zL h;exact⟨by simp[f225],_,dM v w a b,wW.refl _⟩
theorem LP{l:List wG}{c:Cut}{k:Nat}(h:k<l.length):yE (l.drop k) c=(vA l[k] c||yE (l.drop (k+1)) c):=by rw[zl h];rfl
noncomputable abbrev Crco:Ctx:=qj prog [(225,qK [.g jQ,.g jQ] (B9 fun v w=>int (wP v w)))]
theorem zah:AM.Good Crco (fun g=>[225].contains g):=qx mixed ⟨Z6,fun _=>jn _ _,trivial⟩
theorem uY(l:List wG)(c:Cut)(D:jU l)(B:c.v.small):zG Crco f173 [.sl 11 (qn l),.agg c.V]=some (yh (yE l c)):=by
 obtain⟨y,z⟩:=D;refine zu rfl ?_;unfold qg at y;have d:(qn l).length=l.length:=by simp[qn]
 simp[d,Cut.V];refine ql (fun k M Y Z=>M 3=.ref 0 0 0/\1<=Z/\Y 0=some ⟨113,5,false,[c.V]⟩/\M 7=.sl 11 (qn l)/\M 8=int l.length/\M 9=int k/\yE l c=yE (l.drop k) c) l.length
  ⟨by simp,by simp,by simp[Cut.V],by simp,by simp,by simp,by simp⟩ ?_
 rintro k M Y Z F ⟨j,E,m,n,o,p,g⟩;by_cases b:k<l.length
 ·have C:=wv k;obtain⟨s,hs⟩:=wM (l[k]);have q:s.small:=z s (by rw[<-hs];exact zw b);have e:∀h:k<(qn l).length,(qn l)[k]=s.V:=fun h=>by simp[qn,hs]
  have r:=fun Y Z=>Kj s.lo c Y Z q.1 B
  have t:=fun Y Z=>Kj c s.hi Y Z B q.2
  have w:¬0=Z:=by omega
  have n1:¬Z=0:=by omega
  rw[LP b,hs]at g;have f:vA s c=(decide (wP s.lo c<=0)&&(s.vm||decide (wP c s.hi<0))):=rfl;simp only[wG.V,Cut.V,qU,xE]at r t e m;cases x:vA s c
  ·rw[x,Zp]at g;rw[x]at f;by_cases A:wP s.lo c<=0
   ·rw[ep A,XW]at f;have a:=f.symm;rw[wE]at a;simp[j,n,o,p,b,d,e,r,t,m,w,n1,A,a.1,a.2,C,-decide_eq_false_iff_not];exact⟨by omega,rfl,g⟩
   ·simp[j,n,o,p,b,d,e,r,t,m,w,n1,A,C];exact⟨by omega,rfl,g⟩
  ·rw[x,Bool.true_or]at g;rw[x]at f;have a:=f.symm;simp only[zD,q5]at a;have u:=a.2;cases i:s.vm
   ·rw[i,Zp,q5]at u;simp[j,n,o,p,b,d,e,r,t,m,w,n1,a.1,i,u,g,f173]
   ·simp[j,n,o,p,b,d,e,r,t,m,w,n1,a.1,i,g,f173]
 ·obtain rfl:k=l.length:=by omega
  have g:yE l c=false:=by rw[g,zA];rfl
  simp[j,n,o,p,g,f173]
theorem pK:zi prog 173 (qK [.s 11 jA,.g jQ] (FRC fun l c=>yh (yE l c))):=
 yf (fn:=f173) zah (wc func173) _ _ fun args r h=>by obtain⟨⟨l,c⟩,rfl,⟨a,b⟩,rfl⟩:=zL h;exact⟨by simp[f173],_,uY l c a b,wW.refl _⟩
def QS(w:Int)(a b:Bool):Bool:=if w=0 then a||b else if w=1 then a&&b else a&&!b
def FTk:zb->Option O
 |[.v (.int .i64 w),.v (.bool a),.v (.bool b)]=>some (yh (QS w a b))
 |_=>none
@[simp]theorem XB(w:Int)(a b:Bool)(Y:Hp)(Z:Nat):zn false [] FTk [.v (.int .i64 w),.v (.bool a),.v (.bool b)] Y Z=some (yh (QS w a b),Y,Z):=jm rfl rfl (.inl rfl)
theorem C6:zi prog 172 (zn false [] FTk):=
 y3 (fn:=f172) jj (wc func172) false [] _ fun args r h=>by
  have:∃w a b,args=[int w,yh a,yh b]/\r=yh (QS w a b):=by
   unfold FTk at h;split at h
   ·injection h with h;exact⟨_,_,_,rfl,h.symm⟩
   ·cases h
  obtain⟨w,a,b,rfl,rfl⟩:=this;refine⟨by simp[f172],_,zu rfl ?_,q9 _⟩;by_cases c:w=0
  ·subst c;simp[QS,f172]
  ·have d:=jl c;by_cases e:w=1
   ·subst e;simp[QS,f172]
   ·have f:=jl e;simp[c,d,e,f,QS,f172]
def jz(st:Part×Bool)(i:Nat)(t:za):Option (Part×Bool):=
 if yD t=true then some (st.1,true)else if st.2=false/\(xC t).isSome=true then some (st.1.put i ((xC t).getD 0),false)else none
def jk:Part×Bool->Nat->List za->Option (Part×Bool)
 |st,_,[]=>some st
 |st,i,t::l=>match jz st i t with
  |some q=>jk q (i+1) l
  |none=>none
def rdR(s:za):Option Part:=if 3<(qt (Lib.cut s [45]).1 [46]).length then none else
 match jk (wz,false) 0 (qt (Lib.cut s [45]).1 [46])with
 |none=>none
 |some st=>if(xa s).any yA=true then none else if((Lib.cut s [45]).2.2=false\/st.1.has=3)/\(xa s).length<=10 then some {st.1 with pre:=xa s}else none
def Qd(s:za):Option Part:=match rdR s with
 |some p=>if p.has=0 then none else some p
 |none=>none
theorem Kp{t:za}(h:yD t=true):xC t=none:=by simp only[yD,qT,yI]at h;rcases h with(rfl|rfl)|rfl<;>rfl
theorem uZ(p:Part)(i:Nat)(n:Int):(p.put i n).has=p.has+1/\(p.put i n).pre=p.pre:=by unfold Part.put;split<;>exact⟨rfl,rfl⟩
theorem fD:∀(l:List za) (p:Part) (i:Nat),p.has<i->i≠0->(jk (p,true) i l).map (·.1)=yy p i l/\∀st,jk (p,true) i l=some st->st.1=p
 |[],p,i,_,_=>⟨rfl,fun st h=>by simp only[jk]at h;injection h with h;rw[<-h]⟩
 |t::l,p,i,h,e=>by
  have b:¬p.has=i:=by omega
  obtain⟨f,g⟩:=fD l p (i+1) (by omega) (by omega);by_cases a:yD t=true
  ·have c:jz (p,true) i t=some (p,true):=by simp[jz,a]
   have d:w6 p i t=some p:=by simp[w6,a,e,Kp a]
   simp only[jk,yy,c,d];exact⟨f,g⟩
  ·have c:jz (p,true) i t=none:=by simp[jz,a]
   have d:w6 p i t=none:=by simp[w6,a,b]
   simp only[jk,yy,c,d];exact⟨rfl,fun st h=>by cases h⟩
theorem C7:∀(l:List za) (p:Part) (i:Nat),p.has=i->i≠0->(jk (p,false) i l).map (·.1)=yy p i l
 |[],p,i,_,_=>rfl
 |t::l,p,i,h,e=>by
  by_cases a:yD t=true
  ·have b:jz (p,false) i t=some (p,true):=by simp[jz,a]
   have c:w6 p i t=some p:=by simp[w6,a,e,Kp a]
   simp only[jk,yy,b,c];exact(fD l p (i+1) (by omega) (by omega)).1
  ·cases d:xC t with
   |none=>
    have b:jz (p,false) i t=none:=by simp[jz,a,d]
    have c:w6 p i t=none:=by simp[w6,a,d]
    simp only[jk,yy,b,c];rfl
   |some n=>
    have b:jz (p,false) i t=some (p.put i n,false):=by simp[jz,a,d]
    have c:w6 p i t=some (p.put i n):=by simp[w6,d,h]
    simp only[jk,yy,b,c];exact C7 l (p.put i n) (i+1) (by rw[(uZ p i n).1];omega) (by omega)
theorem LQ(t:za)(l:List za):(∃st,jk (wz,false) 0 (t::l)=some st/\((st.1.has=0/\yy wz 0 (t::l)=none)\/(1<=st.1.has/\yy wz 0 (t::l)=some st.1)))\/(jk (wz,false) 0 (t::l)=none/\yy wz 0 (t::l)=none):=by
 by_cases b:yD t=true
 ·have c:jz (wz,false) 0 t=some (wz,true):=by simp[jz,b]
  have a:w6 wz 0 t=none:=by simp[w6,Kp b]
  simp only[jk,yy,c,a];cases d:jk (wz,true) 1 l with
  |none=>exact .inr ⟨by simp,trivial⟩
  |some st=>have:=(fD l wz 1 (by show(0:Int)<1;omega) (by omega)).2 st d;exact .inl ⟨st,by simp,.inl ⟨by rw[this];rfl,trivial⟩⟩
 ·cases e:xC t with
  |none=>
   have c:jz (wz,false) 0 t=none:=by simp[jz,b,e]
   have a:w6 wz 0 t=none:=by simp[w6,b,e]
   simp only[jk,yy,c,a];exact .inr ⟨trivial,trivial⟩
  |some n=>
   have c:jz (wz,false) 0 t=some (wz.put 0 n,false):=by simp[jz,b,e]
   have a:w6 wz 0 t=some (wz.put 0 n):=by simp[w6,e,wz]
   have g:(wz.put 0 n).has=1:=by rw[(uZ wz 0 n).1];rfl
   have hs:=C7 l (wz.put 0 n) 1 g (by omega);simp only[jk,yy,c,a];cases d:jk (wz.put 0 n,false) 1 l with
   |none=>rw[d]at hs;exact .inr ⟨by simp,by simpa using hs.symm⟩
   |some st=>
    rw[d]at hs;simp only[zE]at hs;refine .inl ⟨st,by simp,.inr ⟨?_,by simpa using hs.symm⟩⟩;have f:yy wz 0 (t::l)=some st.1:=by simp only[yy,a];simpa using hs.symm
    have:=(lk (t::l) wz st.1 0 f (by simp[wz])).2.2.2.2.2.1;exact this (by simp)
theorem zdG{s:za}(h:Lib.contains s [45]=false):Lib.cut s [45]=(s,[],false):=by unfold Lib.contains at h;rw[kH]at h;unfold Lib.cut;rw[zf h]
theorem zai{s:za}(h:Lib.contains s [45]=true):(Lib.cut s [45]).2.2=true:=by unfold Lib.contains at h;rw[q5]at h;unfold Lib.cut;rw[zg h]
theorem zaj(a b c:Int)(l:List za)(f:0<=a/\a<=999999)(g:0<=b/\b<=999999)(i:0<=c/\c<=999999):Jf ⟨a,b,c,l⟩=0↔l.any yA=false/\l.length<=10:=by
 have e:v7 a 0 999999=true/\v7 b 0 999999=true/\v7 c 0 999999=true:=by simp[v7];omega
 unfold Jf;rw[zg e];simp only;by_cases d:10<l.length
 ·rw[zg d];constructor
  ·intro h;cases h
  ·rintro⟨_,h⟩;omega
 ·rw[zf d];cases j:l.any yA
  ·simp;omega
  ·simp
theorem ly(s:za):Qd s=if(zP s).2=true then some (zP s).1 else none:=by
 cases K:Lib.contains s [45]
 ·have o:=zdG K;have p:xa s=[]:=by unfold xa;rw[o];rfl
  unfold Qd rdR zP;simp only[K,zm,zQ,o,p];by_cases x:3<(qt s [46]).length
  ·rw[zg x,zg x];rfl
  rw[zf x,zf x];obtain⟨t,l,C⟩:∃t l,qt s [46]=t::l:=by
   cases h:qt s [46]with
   |nil=>exact absurd h (sb _ _)
   |cons t l=>exact⟨t,l,rfl⟩
  rw[C];rcases LQ t l with⟨st,D,⟨B,w⟩|⟨B,w⟩⟩|⟨D,w⟩
  ·rw[D,w];simp[B]
  ·have Y:st.1.pre=[]:=(lk (t::l) wz st.1 0 w (by simp[wz])).2.2.2.2.2.2;have Q:({st.1 with pre:=[]}:Part)=st.1:=by obtain⟨⟨a,b,c,d,e⟩,f⟩:=st;simp only at Y;subst Y;rfl
   have R:¬st.1.has=0:=by omega
   rw[D,w];simp[R,Q]
  ·rw[D,w];rfl
 ·have o:=zai K;unfold Qd rdR zP;rw[zg K,o];simp only[Bool.true_eq_false,false_or];obtain⟨l,C⟩:=wM (qt (Lib.cut s [45]).1 [46]);obtain⟨pre,p⟩:=wM (xa s);rw[C,p];have j:∀(m:List za) (st v:Part×Bool) (i:Nat),jk st i m=some v->v.1.has<=st.1.has+m.length:=by
   intro m
   induction m with
   |nil=>intro st v i h;simp only[jk]at h;injection h with h;rw[<-h];simp
   |cons t m S=>
    intro st v i h;simp only[jk]at h;cases hs:jz st i t with
    |none=>rw[hs]at h;cases h
    |some q=>
     rw[hs]at h;have D:=S q v (i+1) h;have B:q.1.has<=st.1.has+1:=by
      unfold jz at hs;split at hs
      ·injection hs with hs;rw[<-hs];simp only;omega
      ·split at hs
       ·injection hs with hs;rw[<-hs];simp only;rw[(uZ _ _ _).1];omega
       ·cases hs
     simp only[zd];omega
  by_cases x:l.length=3
  ·obtain⟨u,r,k,rfl⟩:∃a b c,l=[a,b,c]:=zbV x;unfold ug;rw[C,p];simp only;have y:¬3<[u,r,k].length:=by simp
   rw[zf y];cases E:xC u with
   |none=>
    have F:∀st,jk (wz,false) 0 [u,r,k]=some st->st.1.has<=2:=by
     intro st h;simp only[jk]at h;cases hs:jz (wz,false) 0 u with
     |none=>rw[hs]at h;cases h
     |some q=>
      rw[hs]at h;have N:q.1.has=0:=by
       unfold jz at hs;split at hs
       ·injection hs with hs;rw[<-hs];rfl
       ·rw[E]at hs;simp at hs
      have:=j [r,k] q st 1 (by simpa[jk]using h);simp only[zd,ze]at this;omega
    cases g:jk (wz,false) 0 [u,r,k]with
    |none=>rfl
    |some st=>
     have B:=F st g;have n:¬(st.1.has=3/\pre.length<=10):=by omega
     simp only[zf n];cases pre.any yA<;>rfl
   |some a=>
    have T:yD u=false:=by
     cases h:yD u with
     |false=>rfl
     |true=>rw[Kp h]at E;cases E
    have L:jz (wz,false) 0 u=some (wz.put 0 a,false):=by simp[jz,T,E]
    cases G:xC r with
    |none=>
     have F:∀st,jk (wz,false) 0 [u,r,k]=some st->st.1.has<=2:=by
      intro st h;simp only[jk,L]at h;cases hs:jz (wz.put 0 a,false) (0+1) r with
      |none=>rw[hs]at h;cases h
      |some q=>
       rw[hs]at h;have N:q.1.has=1:=by
        unfold jz at hs;split at hs
        ·injection hs with hs;rw[<-hs];rfl
        ·rw[G]at hs;simp at hs
       have:=j [k] q st 2 (by simpa[jk]using h);simp only[zd,ze]at this;omega
     cases g:jk (wz,false) 0 [u,r,k]with
     |none=>rfl
     |some st=>
      have B:=F st g;have n:¬(st.1.has=3/\pre.length<=10):=by omega
      simp only[zf n];cases pre.any yA<;>rfl
    |some b=>
     have U:yD r=false:=by
      cases h:yD r with
      |false=>rfl
      |true=>rw[Kp h]at G;cases G
     have P:jz (wz.put 0 a,false) (0+1) r=some ((wz.put 0 a).put 1 b,false):=by simp[jz,U,G]
     cases H:xC k with
     |none=>
      have F:∀st,jk (wz,false) 0 [u,r,k]=some st->st.1.has<=2:=by
       intro st h;simp only[jk,L,P]at h;cases hs:jz ((wz.put 0 a).put 1 b,false) (0+1+1) k with
       |none=>rw[hs]at h;cases h
       |some q=>
        rw[hs]at h;have N:q.1.has=2:=by
         unfold jz at hs;split at hs
         ·injection hs with hs;rw[<-hs];rfl
         ·rw[H]at hs;simp at hs
        simp only at h;injection h with h
        rw[<-h];omega
      cases g:jk (wz,false) 0 [u,r,k]with
      |none=>rfl
      |some st=>
       have B:=F st g;have n:¬(st.1.has=3/\pre.length<=10):=by omega
       simp only[zf n];cases pre.any yA<;>rfl
     |some c=>
      have W:yD k=false:=by
       cases h:yD k with
       |false=>rfl
       |true=>rw[Kp h]at H;cases H
      have X:jz ((wz.put 0 a).put 1 b,false) (0+1+1) k=some (((wz.put 0 a).put 1 b).put 2 c,false):=by simp[jz,W,H]
      have g:jk (wz,false) 0 [u,r,k]=some (((wz.put 0 a).put 1 b).put 2 c,false):=by simp only[jk,L,P,X]
      rw[g];have I:=zaj a b c pre (Va E) (Va G) (Va H);by_cases J:Jf ⟨a,b,c,pre⟩=0
      ·obtain⟨z,A⟩:=I.1 J;simp[J,z,A,wz,Part.put]
      ·have y:¬(pre.any yA=false/\pre.length<=10):=fun h=>J (I.2 h)
       cases z:pre.any yA
       ·have A:¬pre.length<=10:=fun h=>y ⟨z,h⟩
        simp[J,A]
       ·simp[J]
  ·have hd:ug s=none:=by
    unfold ug;rw[C];split
    ·exact absurd rfl x
    ·rfl
   rw[hd];simp only[zm,zQ];by_cases w:3<l.length
   ·rw[zg w]
   rw[zf w];cases g:jk (wz,false) 0 l with
   |none=>rfl
   |some st=>
    have h5:=j l (wz,false) st 0 g;have h6:st.1.has<=2:=by have:(wz:Part).has=0:=rfl;simp only[this]at h5;omega
    have n:¬(st.1.has=3/\pre.length<=10):=by omega
    simp only[zf n];cases pre.any yA<;>rfl
end Go.Q
