/- Lemmas. -/
import Derived.Test.YtmngbpkapamhoaaGreatDoorG3
set_option maxRecDepth 8000
open Go Proofs Proofs.YtmngbpkapamhoaaGreatDoor Proofs.Tryz RowKit AM SpanLaw Q Zz
namespace Go.AM
open Go.RowKit Go.WideShapes Go.ChangeShapes
variable{dr:Prop}
def DB(P:Program):Nat->List Field->Option Nat
 |o,[]=>some o
 |o,f::a=>if f.offset=o then DB P (o+P.cellsOf f.type) a else none
def mH(P:Program)(T:List TypeId):Bool:=T.all fun t=>match P.underlying t with
 |some .bool|some (.int _)|some .string=>P.cellsOf t==1
 |some (.slice e)=>P.cellsOf t==1&&T.contains e&&decide (0<P.cellsOf e)
 |some (.struct a)=>DB P 0 a.toList==some (P.cellsOf t)&&a.toList.all fun f=>T.contains f.type
 |_=>false
structure Bounds (H:Type) (Bl:Nat->Prop) (Bd:DataW H->Prop):Prop where
 slice:∀es sp,Bd (.slice es sp)->Bl es.length/\∀d∈es,Bd d
 nil:Bl 0
 agg:∀l,Bd (.agg l)->∀d∈l,Bd d
 str:∀b,Bd (.lit (.string b))->Bl b.length
section
variable{H:Type}{V:TypeId×Value->H}{P:Program}{w:World}{sp:Nat->Bool}{held:Bool}{Bl:Nat->Prop}{Bd:DataW H->Prop}
theorem si{α:Type}{l:List α}{o n j:Nat}(a:j<n):((l.drop o).take n)[j]?=l[o+j]?:=by rw[qI,zd a,q8]
theorem tN{R:O->Value->Prop}{Q:Field->zb->Prop}:∀(e:List Field) (o n:Nat) (cs:List Value),DB P o e=some n->cs.length=n ->
  (∀f∈e,∃a,Zip R a ((cs.drop f.offset).take (P.cellsOf f.type))/\Q f a) ->
  ∃a:zb,a.length+o=n/\(∀(j:Nat) (g:O) (u:Value),a[j]?=some g->cs[o+j]?=some u->R g u)/\∀f∈e,o<=f.offset/\Q f ((a.drop (f.offset-o)).take (P.cellsOf f.type))
 |[],o,n,cs,c,p,_=>by
  simp only[DB]at c;injection c with c
  subst c;exact⟨[],by simp,by simp,by simp⟩
 |f::e,o,n,cs,c,p,h=>by
  simp only[DB]at c;split at c
  ·rename_i s;obtain⟨d,q,t⟩:=h f (by simp);obtain⟨i,y,v,w⟩:=tN e (o+P.cellsOf f.type) n cs c p (fun f' b=>h f' (by simp[b]));have l:d.length=P.cellsOf f.type:=by have:=q.1;simp only[ju,mD]at this;omega
   refine⟨d++i,by simp;omega,fun j g u k r=>?_,fun f' b=>?_⟩
   ·by_cases m:j<d.length
    ·rw[qh m]at k;refine q.2 j g u k ?_;rw[si (by omega),s];exact r
    ·rw[zY (by omega)]at k;refine v (j-d.length) g u k ?_;rw[show o+P.cellsOf f.type+(j-d.length)=o+j from by omega];exact r
   ·rcases zw.1 b with rfl|b
    ·refine⟨by omega,?_⟩;have:((d++i).drop (f'.offset-o)).take (P.cellsOf f'.type)=d:=by rw[show f'.offset-o=0 from by omega,wY,<-l,List.take_left]
     rw[this];exact t
    ·obtain⟨z,x⟩:=w f' b;refine⟨by omega,?_⟩;have:(d++i).drop (f'.offset-o)=i.drop (f'.offset-(o+P.cellsOf f.type)):=by rw[List.drop_append,List.drop_eq_nil_of_le (by omega),w7];congr 1;omega
     rw[this];exact x
  ·cases c
end
section
variable{C:Ctx}{pf:FuncId->Bool}{f:FuncId}{fn:Func}{code:Code}
theorem Nj(n:kB dr C pf)(g:fK C pf f fn code){args:zb}(h:zv C fn args=some (.v (.bool true)))(o:args.length<=fn.ntmps){w:World}{vs:List Value}(i:w.ShapedOpen C.P)(a:∀t∈Jh,Dc w (fun b=>b<w.heap.size) t)(p:Zip (ya w (fun b=>b<w.heap.size)) args vs) :
  Calls C.P f vs.toArray w fun e w'=>e=.returned (.bool true)/\Below w.heap.size w w':=by
 unfold zv at h;split at h
 ·rename_i x hpe nxe j;obtain⟨⟨r,Y2⟩,l,m⟩:=z7 h;simp only at m;subst m;refine(Qk n g j o (fun _ q=>q) (MH.U7 i a) p).mono fun e w' s=>?_
  obtain⟨v,S',G',u,c,d,y,_⟩:=s;obtain⟨A,_,z⟩:=YQ (dr:=dr) d l y;obtain⟨rfl,_⟩:=z.yi;exact⟨u,c.os,c.tape,c.output,c.size,fun k g=>c.block k g fun h=>h⟩
 ·cases h
end
end Go.AM
namespace Go.AM
variable{dr:Prop}
attribute [congr] Dr Dt
attribute [simp] Rk Rl zav Nf LG Rm Ng zaw Rp Ro Hn Ho Du AE Nd Hq vj Hr gd
 sf Hs Dw Dx Rq
@[simp]theorem Ru(K:Exit->St->Prop)(st:St):Wf K st=K .normal st:=rfl
@[simp]theorem zaz(id i:Nat)(K:Exit->St->Prop)(st:St)(h:¬i=id):Yt id K (.exit i) st=K (.exit i) st:=by simp[Yt,h]
@[simp]theorem zz{α:Type}(f:Nat->α)(k i:Nat)(x:α)(h:¬i=k):qq f k x i=f i:=by simp[qq,h]
@[simp]theorem zgR(σ:Nat->O)(d:Nat)(x:O):put σ (some d) x=qq σ d x:=rfl
@[simp]theorem zgS(σ:Nat->O)(x:O):put σ none x=σ:=rfl
@[simp]theorem zfR(args:zb)(t:Nat):vn args t=(args[t]?).getD (.w5 []):=rfl
@[simp]theorem zi1(σ:Nat->O)(t:Nat):get σ (.tmp t)=some (σ t):=rfl
@[simp]theorem Rv(σ:Nat->O)(f:Nat):get σ (.func f)=some (.fn (.func f) [] []):=rfl
@[simp]theorem zi2(σ:Nat->O)(k:IntKind)(n:Int):get σ (.const (.int k n))=some (.v (.int k n)):=rfl
@[simp]theorem zgT(σ:Nat->O)(b:Bool):get σ (.const (.bool b))=some (.v (.bool b)):=rfl
@[simp]theorem zi3(σ:Nat->O)(s:ByteArray):get σ (.const (.string s))=some (.v (.string s)):=rfl
@[simp]theorem zi4(σ:Nat->O):get σ (.const (.slice none 0 0))=some .nil:=rfl
@[simp]theorem zc8(σ:Nat->O):get σ (.const .nilFunc)=some (.v .nilFunc):=rfl
@[simp]theorem zi5(σ:Nat->O)(cs:Array Value):get σ (.const (.agg cs))=(xp cs.toList).map .agg:=rfl
@[simp]theorem zd8(C:Ctx)(a:Array Oper)(d:Option Tmp)(op:Op)(t:TypeId)(p:String)(b:Array Edge)(st:St):jd C a ⟨d,op,t,p,b,none⟩ st =
  (qb C (get st.σ) st.Y st.Z op).map fun r=>⟨put st.σ d r.1,r.2.1,r.2.2⟩:=qT C a d op t p b st
def ZT(C:Ctx)(d:Option Tmp)(op:Op)(st:St)(y:Option Bool)(b:Bool):Option St:=
 if y=some b then(qb C (get st.σ) st.Y st.Z op).map fun r=>⟨put st.σ d r.1,r.2.1,r.2.2⟩else some ⟨put st.σ d (.w5 []),st.Y,st.Z⟩
theorem AJ{C:Ctx}{d:Option Tmp}{op:Op}{st:St}{y a:Option Bool}{b:Bool}(h:y=a):ZT C d op st y b=ZT C d op st a b:=by rw[h]
@[simp]theorem zd9(C:Ctx)(a:Array Oper)(d:Option Tmp)(op:Op)(t:TypeId)(p:String)(c:Array Edge)(j:Nat)(b:Bool)(st:St):jd C a ⟨d,op,t,p,c,some (j,b)⟩ st =
  ZT C d op st (Wq a st.σ j) b:=by
 unfold jd ZT Region.wanted;simp only[jY];split
 ·cases qb C (get st.σ) st.Y st.Z op<;>rfl
 ·rfl
@[simp]theorem zfS(C:Ctx)(d:Option Tmp)(op:Op)(st:St)(b:Bool):ZT C d op st (some b) b=(qb C (get st.σ) st.Y st.Z op).map fun r=>⟨put st.σ d r.1,r.2.1,r.2.2⟩:=by simp[ZT]
@[simp]theorem zgU(C:Ctx)(d:Option Tmp)(op:Op)(st:St):ZT C d op st (some true) false=some ⟨put st.σ d (.w5 []),st.Y,st.Z⟩:=by simp[ZT]
@[simp]theorem zgV(C:Ctx)(d:Option Tmp)(op:Op)(st:St):ZT C d op st (some false) true=some ⟨put st.σ d (.w5 []),st.Y,st.Z⟩:=by simp[ZT]
@[simp]theorem zea(C:Ctx)(d:Option Tmp)(op:Op)(st:St)(b:Bool):ZT C d op st none b=some ⟨put st.σ d (.w5 []),st.Y,st.Z⟩:=by simp[ZT]
attribute [congr] AJ
def XK:O->Option Bool
 | .v (.bool b)=>some b
 |_=>none
@[simp]theorem zc9(b:Bool):XK (.v (.bool b))=some b:=rfl
@[simp]theorem zeb(l:zb):XK (.w5 l)=none:=rfl
def Hv(σ:Nat->O):Option Nat->Option Bool
 |some d=>XK (σ d)
 |none=>none
@[simp]theorem zda(σ:Nat->O)(d:Nat):Hv σ (some d)=XK (σ d):=rfl
@[simp]theorem zfT(a:Array Oper)(σ:Nat->O)(j:Nat):Wq a σ j=Hv σ ((a[j]?).bind (·.dst)):=by
 unfold Wq Hv XK;cases (a[j]?).bind (·.dst)with
 |none=>rfl
 |some d=>rfl
section
variable(C:Ctx)(ρ:Operand->Option O)(Y:Hp)(Z:Nat)
@[simp]theorem zaA(x:Operand):qb C ρ Y Z (.move x)=(ρ x).map fun y=>(y,Y,Z):=rfl
@[simp]theorem Nk(x:Operand):qb C ρ Y Z (.assign x)=(ρ x).map fun y=>(y,Y,Z):=rfl
def Jm(c a b:Option O):Option O:=match c with
 |some (.v (.bool true))=>a
 |some (.v (.bool false))=>b
 |_=>none
@[simp]theorem zec(a b:Option O):Jm (some (.v (.bool true))) a b=a:=rfl
@[simp]theorem zdb(a b:Option O):Jm (some (.v (.bool false))) a b=b:=rfl
@[simp]theorem zaB(c a b:Operand):qb C ρ Y Z (.pick c a b)=(Jm (ρ c) (ρ a) (ρ b)).map fun y=>(y,Y,Z):=by
 unfold Jm;simp only[qb];generalize ρ c=o;cases o with
 |none=>rfl
 |some p=>cases p<;>(try rfl);rename_i x;cases x<;>(try rfl);rename_i t;cases t<;>rfl
@[simp]theorem zed(op:BinOp)(t a:TypeId)(x y:Operand):qb C ρ Y Z (.binOp op t x y a)=(do let p <-ρ x;let q <-ρ y;let r <-Xy (isK y) C.P op t p q;some (r,Y,Z)):=by simp only[qb];cases ρ x<;>cases ρ y<;>(try rfl);simp;cases Xy (isK y) C.P op t _ _<;>rfl
@[simp]theorem zgW(op:UnOp)(t:TypeId)(x:Operand):qb C ρ Y Z (.unOp op t x)=(do let p <-ρ x;let r <-ga op p;some (r,Y,Z)):=by simp only[qb];cases ρ x<;>(try rfl);simp;cases ga op _<;>rfl
@[simp]theorem zaC(s d:TypeId)(x:Operand):qb C ρ Y Z (.convert s d x)=(do let p <-ρ x;let r <-bQ C.P s d p;some (r,Y,Z)):=by simp only[qb];cases ρ x<;>(try rfl);simp;cases bQ C.P s d _<;>rfl
@[simp]theorem zaD(t:TypeId)(x:Operand):qb C ρ Y Z (.load t x)=(do let p <-ρ x;let r <-Ze C.P Y t p;some (r,Y,Z)):=by simp only[qb];cases ρ x<;>(try rfl);simp;cases Ze C.P Y t _<;>rfl
@[simp]theorem zgX(t:TypeId)(a x:Operand):qb C ρ Y Z (.store t a x)=(do let p <-ρ a;let q <-ρ x;let h <-Qj C.P Y t p q;some (.w5 [],h,Z)):=by simp only[qb];cases ρ a<;>cases ρ x<;>(try rfl);simp;cases Qj C.P Y t _ _<;>rfl
@[simp]theorem AK(t:TypeId)(x:Operand)(f:Nat):qb C ρ Y Z (.fieldAddr t x f)=(do let p <-ρ x;let r <-jv C.P t f p;some (r,Y,Z)):=by simp only[qb];cases ρ x<;>(try rfl);simp;cases jv C.P t f _<;>rfl
@[simp]theorem Rw(t:TypeId)(x:Operand)(f:Nat):qb C ρ Y Z (.field t x f)=(do let p <-ρ x;let r <-Qw C.P t f p;some (r,Y,Z)):=by simp only[qb];cases ρ x<;>(try rfl);simp;cases Qw C.P t f _<;>rfl
@[simp]theorem AL(t:TypeId)(x i:Operand):qb C ρ Y Z (.indexAddr t x i)=(do let p <-ρ x;let q <-ρ i;let r <-qW C.P Y t p q;some (r,Y,Z)):=by simp only[qb];cases ρ x<;>cases ρ i<;>(try rfl);simp;cases qW C.P Y t _ _<;>rfl
@[simp]theorem Rx(t:TypeId)(x i:Operand):qb C ρ Y Z (.index t x i)=(do let p <-ρ x;let q <-ρ i;let r <-Wo C.P t p q;some (r,Y,Z)):=by simp only[qb];cases ρ x<;>cases ρ i<;>(try rfl);simp;cases Wo C.P t _ _<;>rfl
@[simp]theorem Ry(t:TypeId)(x:Operand)(lo hi:Option Operand):qb C ρ Y Z (.slice t x lo hi none)=(do let p <-ρ x;let r <-jO C.P Y t p (lo.map ρ) (hi.map ρ);some (r,Y,Z)):=by simp only[qb];cases ρ x<;>(try rfl);simp;cases jO C.P Y t _ _ _<;>rfl
@[simp]theorem zaE(t:TypeId)(l c:Operand):qb C ρ Y Z (.makeSlice t l c)=(do let p <-ρ l;let q <-ρ c;Wn C.P Y Z t p q):=by simp only[qb];cases ρ l<;>cases ρ c<;>rfl
def KF(i:Nat):O->Option O
 | .w5 vs=>vs[i]?
 |_=>none
@[simp]theorem zaF(i:Nat)(vs:zb):KF i (.w5 vs)=vs[i]?:=rfl
@[simp]theorem Hw(x:Operand)(i:Nat):qb C ρ Y Z (.extract x i)=(do let p <-ρ x;let r <-KF i p;some (r,Y,Z)):=by
 simp only[qb];cases ρ x with
 |none=>rfl
 |some p=>cases p<;>(try rfl);simp[KF];rename_i vs;cases vs[i]?<;>rfl
@[simp]theorem zgY(t:TypeId):qb C ρ Y Z (.alloc t)=(do let n <-qE C.P t;let z <-y8 C.P t;if 0<n/\z.length=n then some (.ref Z 0 0,qq Y Z (some ⟨t,n,false,[z]⟩),Z+1)else none):=by simp only[qb];cases qE C.P t<;>cases y8 C.P t<;>rfl
@[simp]theorem zjK(t:TypeId)(x:Operand):qb C ρ Y Z (.box t x)=(do let n <-qE C.P t;let y <-ρ x;if 0<n/\y.cells.length=n/\y.cells.all O.yk=true then some (.ref Z 0 0,qq Y Z (some ⟨t,n,false,[y.cells]⟩),Z+1)else none):=by simp only[qb];cases qE C.P t<;>cases ρ x<;>rfl
@[simp]theorem zgZ(t:TypeId)(a:Array (Nat×Operand)):qb C ρ Y Z (.build t a)=(do let q <-vY ρ a.toList;let r <-qv C.P t q;some (r,Y,Z)):=by simp only[qb];cases vY ρ a.toList<;>(try rfl);simp;cases qv C.P t _<;>rfl
@[simp]theorem zam(t:TypeId)(n:Nat)(a:Array (Nat×Operand)):qb C ρ Y Z (.buildSlice t n a)=(do let q <-vY ρ a.toList;zt C.P Y Z t n q):=by simp only[qb];cases vY ρ a.toList<;>rfl
@[simp]theorem zdc(f:Fn)(a b:Array Operand):qb C ρ Y Z (.makeFunc f a b)=(do let p <-yH (a.toList.map ρ);let q <-yH (b.toList.map ρ);some (.fn f p q,Y,Z)):=by simp only[qb];cases yH (a.toList.map ρ)<;>cases yH (b.toList.map ρ)<;>rfl
@[simp]theorem zaG(f:Operand)(args:Array Operand)(ts:Array TypeId):qb C ρ Y Z (.call {callee:=.value f,args:=args,argTypes:=ts})=(do let xs <-yH (args.toList.map ρ);kg C Y Z (ρ f) xs):=by simp only[qb,Zp];cases yH (args.toList.map ρ)<;>rfl
@[simp]theorem Hy(b:Builtin)(args:Array Operand)(ts:Array TypeId):qb C ρ Y Z (.call {callee:=.builtin b,args:=args,argTypes:=ts})=(do let xs <-yH (args.toList.map ρ);yQ C.P Y Z ts b xs):=by simp only[qb,Zp];cases yH (args.toList.map ρ)<;>rfl
end
@[simp]theorem zdd{α:Type}:yH ([]:List (Option α))=some []:=rfl
@[simp]theorem zaH{α:Type}(x:α)(l:List (Option α)):yH (some x::l)=(yH l).map (x::·):=rfl
@[simp]theorem zfU(ρ:Operand->Option O):vY ρ []=some []:=rfl
@[simp]theorem zee(ρ:Operand->Option O)(i:Nat)(x:Operand)(l:List (Nat×Operand)):vY ρ ((i,x)::l)=(do let p <-ρ x;let r <-vY ρ l;some ((i,p)::r)):=by simp only[vY];cases ρ x<;>cases vY ρ l<;>rfl
theorem Hz(C:Ctx)(Y:Hp)(Z g:Nat)(first a xs:zb)(b:AM.Spec)(h:C.Γ g=some b):kg C Y Z (some (.fn (.func g) first a)) xs=b (first++xs++a) Y Z:=by simp[kg,h]
section
variable(P:Program)(Y:Hp)(Z:Nat)(t:TypeId)
@[simp]theorem zi6(op:BinOp)(k:IntKind)(a b:Int):Qi P op t (.v (.int k a)) (.v (.int k b))=PS op k a b:=by simp[Qi]
@[simp]theorem zi7(op:BinOp)(a b:ByteArray):Qi P op t (.v (.string a)) (.v (.string b))=PT op a b:=rfl
@[simp]theorem zjL(b:Bool):ga .not (.v (.bool b))=some (.v (.bool !b)):=rfl
@[simp]theorem zjM(k:IntKind)(n:Int):ga .neg (.v (.int k n))=some (.v (.int k (k.wrap (0-n)))):=rfl
@[simp]theorem zg0(cs:zb):Ze P Y t (.ptr cs)=qM P t cs:=rfl
@[simp]theorem zg1(id i j:Nat):Ze P Y t (.ref id i j)=(do let b <-Y id;let c <-b.es[i]?;qM P t (c.drop j)):=by
 simp only[Ze];cases Y id with
 |none=>rfl
 |some b=>simp;cases b.es[i]?<;>rfl
@[simp]theorem zan(f:Nat)(cs:zb):jv P t f (.ptr cs)=(do let q <-qY P t f;if q.2.1=0 then none else some (.ptr (cs.drop q.1))):=by simp only[jv];cases qY P t f<;>rfl
@[simp]theorem zao(f id i j:Nat):jv P t f (.ref id i j)=(do let q <-qY P t f;if q.2.1=0 then none else some (.ref id i (j+q.1))):=by simp only[jv];cases qY P t f<;>rfl
@[simp]theorem zi8(s:ByteArray):Vi P t (.v (.string s))=match P.underlying t with|some .string=>some (.v (.int .i64 s.size))|_=>none:=rfl
@[simp]theorem zjN(s:Nat)(es:List zb):Vi P t (.sl s es)=(yp P t).map fun _=>.v (.int .i64 es.length):=rfl
@[simp]theorem zi9:Vi P t .nil=(yp P t).map fun _=>.v (.int .i64 0):=rfl
@[simp]theorem zja(id off n:Nat):Vi P t (.own id off n)=(yp P t).map fun _=>.v (.int .i64 n):=rfl
theorem tO(i:Int)(x:O)(d:∀cs,x≠.ptr cs)(e:∀a b c,x≠.ref a b c):ZH P t i x=none:=by
 unfold ZH;split
 ·split
  ·split
   ·split
    ·exact absurd rfl (d _)
    ·exact absurd rfl (e _ _ _)
    ·rfl
   ·rfl
  ·rfl
 ·rfl
@[simp]theorem zg2(s:Nat)(es:List zb)(k:IntKind)(i:Int):qW P Y t (.sl s es) (.v (.int k i))=(do let e <-yp P t;let n <-qE P e;if s=n/\0<n/\0<=i then(es[i.toNat]?).map .ptr else none):=by
 simp only[qW];cases yp P t with
 |none=>exact(tO P t i _ (fun _=>by simp) (fun _ _ _=>by simp)).trans rfl
 |some e=>simp;cases qE P e<;>rfl
@[simp]theorem zfV(id off n:Nat)(k:IntKind)(i:Int):qW P Y t (.own id off n) (.v (.int k i))=(do let e <-yp P t;let m <-qE P e;let b <-Y id;if b.e=e/\0<m/\0<=i/\i.toNat<n then some (.ref id (off+i.toNat) 0)else none):=by
 simp only[qW];cases yp P t with
 |none=>exact(tO P t i _ (fun _=>by simp) (fun _ _ _=>by simp)).trans rfl
 |some e=>simp;cases qE P e<;>(try rfl);simp;cases Y id<;>rfl
end
@[simp]theorem zaI(P:Program)(Y:Hp)(Z:Nat)(ts:Array TypeId)(x:O):yQ P Y Z ts .len [x]=(do let t <-ts[0]?;let y <-Vi P t x;some (y,Y,Z)):=by
 simp only[yQ];cases ts[0]? with
 |none=>rfl
 |some t=>simp;cases Vi P t x<;>rfl
@[simp]theorem zaJ(P:Program)(Y:Hp)(Z:Nat)(ts:Array TypeId)(xs:zb):yQ P Y Z ts .min xs=(PU xs).map fun y=>(y,Y,Z):=rfl
@[simp]theorem zaK(P:Program)(Y:Hp)(Z:Nat)(ts:Array TypeId)(xs:zb):yQ P Y Z ts .max xs=(PW xs).map fun y=>(y,Y,Z):=rfl
@[simp]theorem zef(P:Program)(Y:Hp)(Z:Nat)(ts:Array TypeId)(s x:O):yQ P Y Z ts .append [s,x]=(do let t <-ts[0]?;let u <-ts[1]?;jb P Y Z t u s x):=by simp only[yQ];cases ts[0]?<;>cases ts[1]?<;>rfl
@[simp]theorem zfW(P:Program)(Y:Hp)(n:Nat)(e t u:TypeId)(i o k:Nat):nf P Y n e t u (.own i o k)=if u=t then view Y n (.own i o k)else none:=rfl
@[simp]theorem zg3(P:Program)(Y:Hp)(n:Nat)(e t u:TypeId)(k:Nat)(es:List zb):nf P Y n e t u (.sl k es)=if u=t then view Y n (.sl k es)else none:=rfl
@[simp]theorem zfX(P:Program)(Y:Hp)(n:Nat)(e t u:TypeId):nf P Y n e t u .nil=if u=t then view Y n .nil else none:=rfl
@[simp]theorem zg4(P:Program)(Y:Hp)(n:Nat)(e t u:TypeId):nf P Y n e t u .em=if u=t then view Y n .em else none:=rfl
@[simp]theorem zfY(P:Program)(Y:Hp)(n:Nat)(e t u:TypeId)(b:ByteArray):nf P Y n e t u (.v (.string b))=if PX P u=true/\De P e=true then some (b.data.toList.map fun c=>[.v (.int .u8 c.toNat)])else none:=rfl
@[simp]theorem zfZ(P:Program)(Y:Hp)(Z:Nat)(ts:Array TypeId)(x:O):yQ P Y Z ts .clear [x]=(do let t <-ts[0]?;fV P Y Z t x):=by simp only[yQ];cases ts[0]?<;>rfl
@[simp]theorem zg5(P:Program)(Y:Hp)(Z:Nat)(ts:Array TypeId)(s x:O):yQ P Y Z ts .copy [s,x]=(do let t <-ts[0]?;Ly P Y Z t s x):=by simp only[yQ];cases ts[0]?<;>rfl
attribute [simp] PU aG PW aH PS PT js Zq YO
@[simp]theorem zf0(cs:zb):O.cells (.agg cs)=cs:=rfl
@[simp]theorem zf1(cs:zb):O.cells (.w5 cs)=[.w5 cs]:=rfl
@[simp]theorem zjb(x:Value):O.cells (.v x)=[.v x]:=rfl
@[simp]theorem zf2:O.cells .nil=[.nil]:=rfl
@[simp]theorem zg6:O.cells .em=[.em]:=rfl
@[simp]theorem zg7(s:Nat)(es:List zb):O.cells (.sl s es)=[.sl s es]:=rfl
@[simp]theorem zf3(cs:zb):O.cells (.ptr cs)=[.ptr cs]:=rfl
@[simp]theorem zf4(i o n:Nat):O.cells (.own i o n)=[.own i o n]:=rfl
@[simp]theorem zf5(i o n:Nat):O.cells (.ref i o n)=[.ref i o n]:=rfl
@[simp]theorem zg8(f:Fn)(a b:zb):O.cells (.fn f a b)=[.fn f a b]:=rfl
@[simp]theorem zg9(x:Value):O.yk (.v x)=true:=rfl
@[simp]theorem zeg:O.yk .nil=true:=rfl
@[simp]theorem zf6:O.yk .em=true:=rfl
@[simp]theorem zf7(s:Nat)(es:List zb):O.yk (.sl s es)=true:=rfl
@[simp]theorem zeh(cs:zb):O.yk (.ptr cs)=true:=rfl
@[simp]theorem zei(i o n:Nat):O.yk (.own i o n)=true:=rfl
@[simp]theorem zej(i o n:Nat):O.yk (.ref i o n)=true:=rfl
@[simp]theorem zf8(f:Fn)(a b:zb):O.yk (.fn f a b)=true:=rfl
@[simp]theorem zek(cs:zb):O.yk (.agg cs)=false:=rfl
@[simp]theorem zel(cs:zb):O.yk (.w5 cs)=false:=rfl
attribute [simp] wI qt zC wJ AM.freeze O.flat O.isV O.noOwn
@[simp]theorem zaL(i o n:Nat):O.kq (.own i o n)=true:=rfl
@[simp]theorem zem(x:Value):O.kq (.v x)=false:=rfl
@[simp]theorem zaM:O.kq .nil=false:=rfl
@[simp]theorem zde:O.kq .em=false:=rfl
@[simp]theorem zdf(s:Nat)(es:List zb):O.kq (.sl s es)=false:=rfl
@[simp]theorem zaN(cs:zb):O.kq (.ptr cs)=false:=rfl
@[simp]theorem zaO(i o n:Nat):O.kq (.ref i o n)=false:=rfl
@[simp]theorem zdg(f:Fn)(a b:zb):O.kq (.fn f a b)=false:=rfl
@[simp]theorem zjc{α:Type}(f:Nat->α)(k:Nat)(x y:α):qq (qq f k x) k y=qq f k y:=by funext i;simp only[qq];split<;>rfl
@[simp]theorem zf9(P:Program)(Y:Hp)(t:TypeId)(id i j:Nat)(x:O):Qj P Y t (.ref id i j) x=(do
  let a <-Y id;let q <-(if a.arr=true then qt Y x else some (x,Y));let b <-q.2 id;let n <-qE P t;let c <-b.es[i]?
  if q.1.cells.length=n/\j+n<=c.length/\q.1.cells.all O.yk=true then some (qq q.2 id (some ⟨b.e,b.s,b.arr,b.es.set i (js c j q.1.cells)⟩))else none):=by
 simp only[Qj];cases Y id with
 |none=>rfl
 |some a=>
  simp only[Option.bind_eq_bind,qc];generalize (if a.arr=true then qt Y x else some (x,Y))=o;cases o with
  |none=>rfl
  |some q=>
   obtain⟨y,d⟩:=q;simp only[qc];cases d id with
   |none=>rfl
   |some b=>
    simp only[qc];cases qE P t with
    |none=>rfl
    |some n=>simp only[qc];cases b.es[i]?<;>rfl
@[simp]theorem zjd(x y:Value)(Y:Hp)(Z:Nat):wK (.v y) (.v x) Y Z=(x=y):=by simp[wK]
def dS:O->Int
 | .v (.int _ n)=>n
 |_=>0
@[simp]theorem zga(k:IntKind)(n:Int):dS (.v (.int k n))=n:=rfl
theorem wS{n:Int}(a:-9223372036854775808<=n)(b:n<=9223372036854775807):IntKind.i64.wrap n=n:=by rw[CS];omega
variable{dr:Prop}
open Classical in
noncomputable def qd {α b:Type} (V:α->zb) (pre:α->Prop) (out:α->b):zb->Option b:=fun args=>
 if h:∃a,args=V a/\pre a then some (out (Classical.choose h))else none
theorem qD{α e:Type}{V:α->zb}{pre:α->Prop}{out:α->e}(d:∀a b,V a=V b->a=b){a:α}(h:pre a):qd V pre out (V a)=some (out a):=by have c:∃b,V a=V b/\pre b:=⟨a,rfl,h⟩;unfold qd;rw[zcP c];have:=jX c;rw[<-d _ _ this.1]
theorem zO{α c:Type}{V:α->zb}{pre:α->Prop}{out:α->c}{args:zb}{r:c}(h:qd V pre out args=some r):∃a,args=V a/\pre a/\r=out a:=by
 unfold qd at h;split at h
 ·rename_i b;injection h with h
  have:=jX b;exact⟨_,this.1,this.2,h.symm⟩
 ·cases h
abbrev Y7:=List (Nat×AM.Spec)
def lookup:Y7->Nat->Option AM.Spec
 |[],_=>none
 |(k,s)::l,g=>if g=k then some s else lookup l g
@[simp]theorem iR(k:Nat)(s:AM.Spec)(l:Y7)(g:Nat):lookup ((k,s)::l) g=if g=k then some s else lookup l g:=rfl
def zV(P:Program)(l:Y7):Ctx:=⟨P,lookup l,fun _=>[],fun _=>[],fun _=>false,fun _=>[],fun _=>none⟩
@[simp]theorem zgb(P:Program)(l:Y7)(i:Nat):(zV P l).dyn i=[]:=rfl
@[simp]theorem zap(P:Program)(l:Y7)(i:Nat)(a:Array Oper)(d:Bool)(st:St)(K:Exit->St->Prop):ZX (zV P l) (.region i a d) st K=tL (zV P l) a a.toList st (Wf K):=Jk _ i a d st K rfl rfl
def Vs(P:Program)(l:Y7)(a:Nat->List (Tmp×Tmp)):Ctx:=⟨P,lookup l,a,fun _=>[],fun _=>false,fun _=>[],fun _=>none⟩
@[simp]theorem zha(P:Program)(l:Y7)(a:Nat->List (Tmp×Tmp)):(Vs P l a).P=P:=rfl
@[simp]theorem zje(P:Program)(l:Y7):(zV P l).P=P:=rfl
@[simp]theorem zjf(P:Program)(l:Y7)(Y:Hp)(Z g:Nat)(a b xs:zb):kg (zV P l) Y Z (some (.fn (.func g) a b)) xs=(lookup l g).bind fun s=>s (a++xs++b) Y Z:=by unfold kg zV;simp only;cases lookup l g<;>rfl
@[simp]theorem zhb(P:Program)(l:Y7)(c:Nat->List (Tmp×Tmp))(Y:Hp)(Z g:Nat)(a b xs:zb):kg (Vs P l c) Y Z (some (.fn (.func g) a b)) xs=(lookup l g).bind fun s=>s (a++xs++b) Y Z:=by unfold kg Vs;simp only;cases lookup l g<;>rfl
def sj(dr:Prop)(P:Program)(q:List Nat):Y7->Prop
 |[]=>True
 |(g,s)::l=>yY dr P g s/\(q.contains g=true->WZ s)/\sj dr P q l
theorem qC{P:Program}{l:Y7}{q:List Nat}(c:P.follows .mixedOrders=true)(h:sj dr P q l):kB dr (zV P l) (fun g=>q.contains g):=by
 have a:∀(l:Y7),sj dr P q l->∀g s,lookup l g=some s->yY dr P g s/\(q.contains g=true->WZ s):=by
  intro l
  induction l with
  |nil=>intro _ g s h;cases h
  |cons x l d=>
   obtain⟨k,sp⟩:=x;rintro⟨e,f,i⟩ g s hs;simp only[iR]at hs;split at hs
   ·rename_i b;injection hs with hs
    subst hs;subst b;exact⟨e,f⟩
   ·exact d i g s hs
 exact⟨fun g s hs=>(a l h g s hs).1,fun g s j hs=>(a l h g s hs).2 j,c,(fun _ _ h=>by cases h),(fun _ _ h=>by cases h)⟩
def AllE(dr:Prop)(P:Program):Y7->Prop
 |[]=>True
 |(g,s)::l=>yY dr P g s/\AllE dr P l
abbrev Hl:Nat->Bool:=fun g=>([]:List Nat).contains g
abbrev Gd(C:Ctx):Prop:=AM.Good C Hl
theorem allE{P:Program}:∀{l:Y7},AllE dr P l->sj dr P [] l
 |[],_=>trivial
 |(_,_)::_,h=>⟨h.1,by simp,allE h.2⟩
theorem zW{P:Program}{l:Y7}(a:P.follows .mixedOrders=true)(h:AllE dr P l):kB dr (zV P l) Hl:=qC (q:=[]) a (allE h)
theorem qe(k:Nat)(h:k<9223372036854775807:=by omega):IntKind.i64.wrap ((k:Int)+1)=(k:Int)+1:=wS (by omega) (by omega)
theorem wq(n:Int)(h:-9223372036854775808<=n/\n<=9223372036854775807:=by omega):IntKind.i64.wrap n=n:=wS h.1 h.2
theorem DC{P:Program}{l:Y7}{q:List Nat}(a:Nat->List (Tmp×Tmp))(b:P.follows .mixedOrders=true)(h:sj dr P q l):kB dr (Vs P l a) (fun g=>q.contains g):=
 let g:=qC b h
 ⟨g.spec,g.quiet,g.mixed,(fun _ _ h=>by cases h),(fun _ _ h=>by cases h)⟩
def iS(r:O)(x:O)(Y:Hp)(_:Nat):Prop:=∃a,(AM.freeze Y x).map (·.1)=some a/\XG a r
theorem YT{C:Ctx}{fn:Func}{code:Code}{args:zb}{r:O}(b:fn.body=some code)
  (h:ZX C code ⟨vn args,fun _=>none,0⟩ (Vq C.P fn (iS r))):∃a,zv C fn args=some a/\XG a r:=by
 obtain⟨x,Y',Z',c,a,d,e⟩:=qF b h;exact⟨a,by unfold zv;simp only[c];exact d,e⟩
theorem z8(x:O):XG x x:=by
 unfold XG;split
 ·exact⟨rfl,fun j x y b a=>by rw[b]at a;injection a with a;exact .inl a⟩
 ·exact .inl rfl
theorem Vt{C:Ctx}{fn:Func}{code:Code}{args:zb}{Y:Hp}{Z:Nat}{r:Option Blk}(a:fn.body=some code)
  (h:ZX C code ⟨vn args,Y,Z⟩ (Vq C.P fn (XJ r))):∃x Y' Z',yR C fn args Y Z=some (x,Y',Z')/\XJ r x Y' Z':=qF a h
def qN(Y:Hp)(Z:Nat)(e s:Nat)(v:O)(xs:List zb):Prop:=(v=.nil/\xs=[])\/∃id,id<Z/\v=.own id 0 xs.length/\Y id=some ⟨e,s,true,xs⟩
def Qx(v:O)(Y:Hp):Hp:=match v with
 | .own id _ _=>qq Y id none
 |_=>Y
theorem qN.nil(Y:Hp)(Z e s:Nat):qN Y Z e s .nil []:=.inl ⟨rfl,rfl⟩
theorem qN.len{P:Program}{Y:Hp}{Z e s:Nat}{v:O}{xs:List zb}{t:TypeId}(h:qN Y Z e s v xs)(a:yp P t=some e):Vi P t v=some (.v (.int .i64 xs.length)):=by rcases h with⟨rfl,rfl⟩|⟨id,_,rfl,_⟩<;>simp[a]
theorem qN.yx{P:Program}{Y:Hp}{Z e s by_:Nat}{v:O}{xs:List zb}{c z:zb}{t:TypeId}(h:qN Y Z e s v xs)(g:yp P t=some e)(hs:qE P e=some s)(i:kD P e=some by_)(j:y8 P e=some z)
  (a:z.length=s) (k:0<s) (b:xs.length+1<=maxLen) (d:(xs.length+1)*by_<=140737488355328) :
  jb P (qq Y Z (some ⟨e,s,true,[c]⟩)) (Z+1) t t v (.own Z 0 1) =
   some (.own (Z+1) 0 (xs.length+1),qq (Qx v (qq Y Z (some ⟨e,s,true,[c]⟩))) (Z+1) (some ⟨e,s,true,xs++[c]⟩),Z+2):=by
 rcases h with⟨rfl,rfl⟩|⟨id,hid,rfl,l⟩
 ·simp at b d;simp[jb,g,hs,i,j,a,k,b,d,AM.view,Qx]
 ·have f:¬id=Z:=by omega
  simp[jb,g,hs,i,j,a,k,b,d,AM.view,Qx,f,l]
theorem qN.after{Y:Hp}{Z e s:Nat}{v:O}{xs:List zb}{c:zb}{tmp:Option Blk}:qN (qq (Qx v (qq Y Z tmp)) (Z+1) (some ⟨e,s,true,xs++[c]⟩)) (Z+2) e s (.own (Z+1) 0 (xs.length+1)) (xs++[c]):=
 .inr ⟨Z+1,by omega,by simp,by simp⟩
theorem yr{Y:Hp}{Z e s:Nat}{v:O}{xs:List zb}(h:qN Y Z e s v xs)(Y':Hp)(id:Nat)(a:∀n,v≠.own id 0 n):Qx v Y' id=Y' id:=by
 rcases h with⟨rfl,rfl⟩|⟨k,b,rfl,c⟩
 ·rfl
 ·have:¬id=k:=fun e=>a _ (by rw[e])
  simp[Qx,this]
theorem qN.freeze{Y:Hp}{Z e s:Nat}{v:O}{xs:List zb}(h:qN Y Z e s v xs)(Z':Nat):iS (.sl s xs) v Y Z':=by
 rcases h with⟨rfl,rfl⟩|⟨id,hid,rfl,a⟩
 ·exact⟨.nil,by simp,.inr ⟨rfl,s,rfl⟩⟩
 ·exact⟨.sl s xs,by simp[a],z8 _⟩
theorem jZ{α c:Type}{f:α->c}(h:∀a b,f a=f b->a=b):∀{xs ys:List α},xs.map f=ys.map f->xs=ys
 |[],[],_=>rfl
 |[],y::ys,e=>by simp at e
 |x::xs,[],e=>by simp at e
 |x::xs,y::ys,e=>by simp at e;rw[h x y e.1,jZ h e.2]
def LF(I:Nat->(Nat->O)->Hp->Nat->Prop)(n k:Nat)(K:Exit->St->Prop)(e:Exit)(st:St):Prop:=match e with
 | .normal=>k+1<=n/\I (k+1) st.σ st.Y st.Z
 |e=>K e st
@[simp]theorem zdh(I:Nat->(Nat->O)->Hp->Nat->Prop)(n k:Nat)(K:Exit->St->Prop)(st:St):LF I n k K .normal st=(k+1<=n/\I (k+1) st.σ st.Y st.Z):=rfl
@[simp]theorem zhc(I:Nat->(Nat->O)->Hp->Nat->Prop)(n k:Nat)(K:Exit->St->Prop)(st:St):LF I n k K .ret st=K .ret st:=rfl
@[simp]theorem zgc(I:Nat->(Nat->O)->Hp->Nat->Prop)(n k i:Nat)(K:Exit->St->Prop)(st:St):LF I n k K (.exit i) st=K (.exit i) st:=rfl
theorem zL{C:Ctx}{b:Code}{st:St}{K:Exit->St->Prop}(I:Nat->(Nat->O)->Hp->Nat->Prop)(n:Nat)(j:I 0 st.σ st.Y st.Z)
  (a:∀k σ Y Z,k<=n->I k σ Y Z->ZX C b ⟨σ,Y,Z⟩ (LF I n k K)):ZX C (.loop b) st K:=by
 have f:∀d k st,n-k=d->k<=n->I k st.σ st.Y st.Z->ZX C (.loop b) st K:=by
  intro d
  induction d with
  |zero=>
   intro k st hd g i;rw[zR];refine(a k st.σ st.Y st.Z g i).mono fun e c h=>?_
   cases e
   case normal=>have:=h.1;omega
   all_goals exact h
  |succ d l=>
   intro k st hd g i;rw[zR];refine(a k st.σ st.Y st.Z g i).mono fun e c h=>?_
   cases e
   case normal=>exact l (k+1) c (by omega) h.1 h.2
   all_goals exact h
 exact f _ 0 st rfl (ZS _) j
end Go.AM
namespace Go.AM
open Go.RowKit Go.Sort Go.Proofs
variable{dr:Prop}
def Yu(xs:List zb)(i:Nat):zb:=xs.getD (if i<xs.length then i else 0) []
theorem vo{xs:List zb}(h:xs≠[])(i:Nat):Yu xs i∈xs:=by
 have b:0<xs.length:=jV.2 h;have a:(if i<xs.length then i else 0)<xs.length:=by split<;>assumption
 unfold Yu;rw[Vb,zq a];exact zi _
theorem Rz{xs:List zb}{i:Nat}(h:i<xs.length):Yu xs i=xs[i]:=by unfold Yu;rw[zd h,Vb,zq h];rfl
def nT(cf:zb->zb->Int)(xs:List zb)(i j:Nat):Int:=cf (Yu xs i) (Yu xs j)
def Qe(cf:zb->zb->Int)(xs:List zb):Array Nat:=pdq (ltOf (nT cf xs)) (Array.range xs.length) 0 xs.length (Lib.bitLen xs.length) true true
def W5(cf:zb->zb->Int)(xs:List zb):List zb:=if xs.length=0 then[]else(Qe cf xs).toList.map (Yu xs)
structure V7 (cf:List O->List O->Int) (xs:List (List O)):Prop where
 irrefl:∀x∈xs,0<=cf x x
 trans:∀x∈xs,∀y∈xs,∀z∈xs,cf x y<0->cf y z<0->cf x z<0
 ntrans:∀x∈xs,∀y∈xs,∀z∈xs,0<=cf x y->0<=cf y z->0<=cf x z
section
variable{cf:zb->zb->Int}{xs:List zb}
theorem LI{i j:Nat}(h:ltOf (nT cf xs) i j=true):cf (Yu xs i) (Yu xs j)<0:=vV h
theorem nU{i j:Nat}(h:ltOf (nT cf xs) i j=false):0<=cf (Yu xs i) (Yu xs j):=Int.not_lt.1 (of_decide_eq_false h)
theorem RA{i j:Nat}(h:cf (Yu xs i) (Yu xs j)<0):ltOf (nT cf xs) i j=true:=kp h
theorem LJ{i j:Nat}(h:0<=cf (Yu xs i) (Yu xs j)):ltOf (nT cf xs) i j=false:=kr (Int.not_lt.2 h)
theorem V7.swo(h:V7 cf xs)(a:xs≠[]):SWO (ltOf (nT cf xs)) where
 irrefl i:=LJ (h.irrefl _ (vo a i))
 trans i j k b c:=RA (h.trans _ (vo a i) _ (vo a j) _ (vo a k) (LI b) (LI c))
 ntrans i j k b c:=LJ (h.ntrans _ (vo a i) _ (vo a j) _ (vo a k) (nU b) (nU c))
theorem Vu(h:V7 cf xs)(a:xs≠[]):PermIn 0 xs.length (Array.range xs.length) (Qe cf xs)/\SortedIn (ltOf (nT cf xs)) 0 xs.length (Qe cf xs):=
 pdq_sorts (ltOf (nT cf xs)) (h.swo a) (Array.range xs.length) 0 xs.length (Lib.bitLen xs.length) true true (ZS _) (by simp) (Or.inl rfl)
theorem Vv(h:V7 cf xs)(a:xs≠[]):(Qe cf xs).size=xs.length:=by have:=(Vu h a).1.1;simpa using this
theorem cE(h:V7 cf xs):(W5 cf xs).Perm xs:=by
 unfold W5;split
 ·rename_i a;have:xs=[]:=qo.1 a;subst this;exact .refl _
 ·rename_i a;have c:xs≠[]:=by rintro rfl;simp at a
  obtain⟨k,_,d⟩:=(Vu h c).1;have hs:=Vv h c;have f:(Qe cf xs).extract 0 xs.length=Qe cf xs:=by rw[<-hs];simp
  have g:(Array.range xs.length).extract 0 xs.length=Array.range xs.length:=by
   conv=>lhs;rw[show xs.length=(Array.range xs.length).size by simp]
   simp
  rw[f,g]at d;have e:=d.map (Yu xs);have j:(Array.range xs.length).toList.map (Yu xs)=xs:=by
   apply List.ext_getElem
   ·simp
   ·intro i hi b;simp[Rz b]
  rw[j]at e;exact e
theorem AN(h:V7 cf xs):(W5 cf xs).Pairwise (fun x y=>0<=cf y x):=by
 unfold W5;split
 ·exact List.Pairwise.nil
 ·rename_i e;have c:xs≠[]:=by rintro rfl;simp at e
  have hs:=Vv h c;have f:=(Vu h c).2;rw[List.pairwise_map,Lr];intro i j hi a b;have d:=f i j (ZS _) b (by simp at a;omega);simp at hi a;rw[Y3 _ i hi,Y3 _ j a]at d;simpa using nU d
theorem AO(h:V7 cf xs):(W5 cf xs).length=xs.length:=(cE h).length_eq
end
def RB(P:Program)(f k:Nat):Prop:=
 (∀(α:Type) [Inhabited α] (V:α->List Value) (_:∀x,(V x).length=k) (_:∀x,∀v∈V x,v.oneCell'=true) (cf:α->α->Int) (_:SWO (ltOf cf)) (g:Nat) (blk off cap:Nat) (d:Array α) (w:World)
  (_:∀args w,(callFunc g args).run P w=.ok (.enter g args) w) (_:CmpLays P g #[] V k cf blk off d.size w) (_:HoldsK V k w blk off d) (_:blk<w.heap.size) (_:d.size<4611686018427387904),
  Calls P f #[.slice (some ⟨blk,off,none⟩) d.size cap,.func (.func g) #[] #[]] w fun e w'=>
   e=.returned (.tuple #[])/\∃n a,w'=sortWorldK V k w blk off n (pdq (ltOf cf) d 0 d.size (Lib.bitLen d.size) true true) a) /\
 ∀(p:Option Addr) (cap:Nat) (b:Value) (w:World),Calls P f #[.slice p 0 cap,b] w fun e w'=>e=.returned (.tuple #[])/\w'=w
def zdi(P:Program)(g k:Nat)(cf:zb->zb->Int)(dom:zb->Prop):Prop:=
 (∀args w,(callFunc g args).run P w=.ok (.enter g args) w)/\∃a,zg P g a/\∀x y,x.length=k->y.length=k->dom x->dom y->a [.agg x,.agg y] (fun _=>none) 0=some (.v (.int .i64 (cf x y)),fun _=>none,0)
open Classical in
noncomputable def nV (k:Nat) (g:Nat) (cf:zb->zb->Int) (dom:zb->Prop):AM.Spec:=fun args Y Z=>
 match args with
 |[.nil,.fn _ _ _]=>some (.w5 [],Y,Z)
 |[.own id off n,.fn (.func a) [] []]=>if n=0 then some (.w5 [],Y,Z)else match Y id with
  |some b=>if a=g/\b.arr=true/\b.s=k/\off+n<=b.es.length/\n<4611686018427387904/\V7 cf ((b.es.drop off).take n)/\∀x∈(b.es.drop off).take n,dom x then
    some (.w5 [],qq Y id (some ⟨b.e,b.s,b.arr,b.es.take off++W5 cf ((b.es.drop off).take n)++b.es.drop (off+n)⟩),Z)else none
  |none=>none
 |_=>none
theorem HA{W w':World}(h:Fr True W (fun _=>False) w'):∃q c,w'=grow (W.drewN q) c:=by
 refine⟨w'.drawn-W.drawn,w'.heap.extract W.heap.size w'.heap.size,?_⟩;obtain⟨a,e,d,n,b⟩:=w';obtain⟨f,g,j,m,k,l⟩:=h;simp only at f g j m k l;unfold grow World.drewN;simp only[World.mk.injEq];refine⟨?_,g,by have:=k trivial;omega,f,j⟩;apply Array.ext_getElem?;intro i;by_cases hi:i<W.heap.size
 ·rw[l i hi (fun h=>h),vU hi]
 ·rw[Array.getElem?_append_right (by omega),Array.getElem?_extract];by_cases o:i<a.size
  ·rw[zd (by omega)];congr 1;omega
  ·rw[ze (by omega),Array.getElem?_eq_none (by omega)]
theorem kW.grown{P:Program}{Y:Hp}{Z:Nat}{S:Nat->Prop}{G:Nat->GI}{w w':World}(h:Inv P w S G Y Z)(c:Fr dr w (fun _=>False) w'):kW dr P Y Z S G w Y Z S G w':=by
 have d:∀b,b<w.heap.size->w'.heap[b]?=w.heap[b]?:=fun b a=>c.block b a (fun h=>h)
 refine⟨⟨fun b a=>ja (h.st b a) c.size,h.top,fun id b a=>?_,h.apart,h.inj,h.fS.mono fun b a=>⟨a,d b (h.st b a)⟩⟩,zl _,fun _ _=>rfl,fun _ a=>a,fun _ a=>.inl a,fun id b a=>.inl ⟨id,b,a,rfl⟩,⟨c.os,c.tape,c.output,c.size,c.drawn,fun k f _=>c.block k f (fun h=>h)⟩⟩;have e:=h.live id b a;exact e.mono (fun b a=>⟨a,d b (h.st b a)⟩) (zl _) (fun _ _=>rfl) (d _ e.lt)
theorem Vw{α:Type}[Inhabited α](V:α->List Value)(k:Nat)(w:World)(blk off m:Nat)(d:Array α)(a:Array Obj):Fr dr (putRowK V k w blk off d) (fun _=>False) (sortWorldK V k w blk off m d a):=by
 refine⟨rfl,rfl,rfl,?_,fun _=>?_,fun b c _=>?_⟩
 ·show _<=(_++a).size;rw[Q7];exact U3 _ _
 ·exact U3 _ _
 ·exact vU c
theorem WN{α:Type}[Inhabited α](V:α->List Value)(k:Nat)(w:World)(blk off:Nat)(d:Array α){cur:Array Value}{e:TypeId}(h:w.heap[blk]?=some (.cells cur e (0,0))) :
  putRowK V k w blk off d=w.setRow blk (putCells (fun v:Value=>v) off (flatK V k d) cur):=by
 unfold putRowK putRow mapBlock World.setRow;congr 1;apply Array.ext_getElem?;intro i;simp only[kS];by_cases hi:blk=i
 ·subst hi;simp only[qV,h,zH,onCells];rfl
 ·simp[hi]
section
variable{P:Program}{f k g:Nat}{cf:zb->zb->Int}{dom:zb->Prop}
theorem DD(h0:0<k)(hfn:∃fn,P.funcs[f]?=some fn/\(fn.name== "runtime.NumGoroutine")=false/\fn.body.isNone=false)(hso:RB P f k)(hco:zdi P g k cf dom):yY dr P f (nV k g cf dom):=by
 refine⟨hfn,?_⟩;intro args Y Z r Y' Z' h w S G vs hi hz;unfold nV at h;split at h
 ·injection h with h;injection h with e1 h;injection h with e2 e3;subst e1;subst e2;subst e3;obtain⟨u,us,rfl,hu,z⟩:=hz.y9;obtain⟨v,us,rfl,hv,z⟩:=z.y9;obtain rfl:=z.Yq;obtain rfl:=hu.xQ;refine(hso.2 none 0 v w).mono fun e w' hh=>?_
  obtain⟨rfl,rfl⟩:=hh;exact⟨_,_,_,rfl,.refl hi,kx⟩
 ·rename_i id off n g';obtain⟨u,us,rfl,hu,z⟩:=hz.y9;obtain⟨v,us,rfl,hv,z⟩:=z.y9;obtain rfl:=z.Yq;have o:=hu.vy;obtain⟨cap,g1,g2,g3,g4,rfl⟩:=hu.vf;split at h
  ·rename_i hn0;subst hn0;injection h with h
   injection h with e1 h;injection h with e2 e3;subst e1;subst e2;subst e3;refine(hso.2 _ cap v w).mono fun e w' hh=>?_
   obtain⟨rfl,rfl⟩:=hh;exact⟨_,_,_,rfl,.refl hi,kx⟩
  rename_i hn0;split at h
  case h_2=>cases h
  rename_i b hb;split at h
  case isFalse=>cases h
  rename_i hc;obtain⟨rfl,harr,hbk,U,hn,hW,M⟩:=hc;injection h with h
  injection h with e1 h;injection h with e2 e3;subst e1;subst e2;subst e3;have d:=hi.live id b hb;obtain⟨us,ts,rfl,hus,hts,_,_⟩:=hv.CU;obtain rfl:us=#[]:=Array.eq_empty_of_size_eq_zero (by simpa using hus.symm);obtain rfl:ts=#[]:=Array.eq_empty_of_size_eq_zero (by simpa using hts.symm);have A:(G id).s=k:=by rw[<-d.bs];exact hbk
  obtain⟨cur,c1,c2,c3⟩:=d.row o;rw[A]at c3 g4;obtain⟨xs,N⟩:=wZ ((b.es.drop off).take n);rw[N]at hW M;have H:xs.length=n:=by rw[<-N];simp;omega
  have I:xs≠[]:=by rintro rfl;simp at H;omega
  have B:∀x∈xs,x.length=k:=fun x I=>by rw[<-A];rw[<-N]at I;exact d.len o x (List.mem_of_mem_drop (vu I))
  have hxg:∀i,i<n->xs[i]?=b.es[off+i]?:=fun i hi=>by rw[<-N,qI,zd hi,q8]
  let ix:Nat->Nat:=fun i=>if i<n then i else 0
  have hix:∀i,ix i<n:=fun i=>by show(if i<n then i else 0)<n;split<;>omega
  have hel:∀i,xs[ix i]?=some (Yu xs i):=fun i=>by
   unfold Yu;rw[Vb];show xs[if i<n then i else 0]?=_;have:(if i<n then i else 0)<xs.length:=by rw[H];exact hix i
   rw[H,zq this];rfl
  let V:Nat->List Value:=fun i=>(List.range k).map fun j=>(cur[(off+ix i)*k+j]?).getD undef
  have hek:∀x,(V x).length=k:=fun x=>by simp[V]
  have l:∀i j C,(Yu xs i)[j]?=some C->∃u,cur[(off+ix i)*k+j]?=some u/\(V i)[j]?=some u/\ya w S C u/\u.oneCell'=true:=fun i j C W=>by
   have J:j<k:=by have:=(zk.1 W).1;rw[B _ (vo I i)]at this;exact this
   obtain⟨u,R,L⟩:=c3 (off+ix i) j (Yu xs i) C (by rw[<-hxg _ (hix i)];exact hel i) W;rw[harr]at L;refine⟨u,R,?_,L.1 rfl,L.2.2⟩;simp[V,J,R]
  have E:∀i j,j<k->∃C,(Yu xs i)[j]?=some C:=fun i j W=>by
   have:j<(Yu xs i).length:=by rw[B _ (vo I i)];exact W
   exact⟨_,zq this⟩
  have h1c:∀x,∀v∈V x,v.oneCell'=true:=fun x v hv=>by obtain⟨j,W,rfl⟩:=q9.1 hv;obtain⟨C,hpv⟩:=E x j (jK.1 W);obtain⟨u,R,_,_,q4⟩:=l x j C hpv;rw[R];exact q4
  have hblk:(G id).g<w.heap.size:=d.lt;have F:∀m D (p:Array Nat) K,S K->(sortWorldK V k w (G id).g (off*k) m p D).heap[K]?=w.heap[K]?:=fun m D p K a=>by
   have Q:K<(putRowK V k w (G id).g (off*k) p).heap.size:=by rw[WN V k w _ _ p c1,size_setRow];exact hi.st K a
   rw[(Vw (dr:=True) V k w (G id).g (off*k) m p D).block K Q (fun h=>h),WN V k w _ _ p c1];exact setRow_other _ _ _ _ fun e=>hi.apart id b hb (e ▸ a)
  have ziP:∀m D (p:Array Nat),w.heap.size<=(sortWorldK V k w (G id).g (off*k) m p D).heap.size:=fun m D p=>by have:=(Vw (dr:=True) V k w (G id).g (off*k) m p D).size;rw[WN V k w _ _ p c1,size_setRow]at this;exact this
  obtain⟨eg,spec,hsp,zaa⟩:=hco;have hcmp:CmpLays P g' #[] V k (nT cf xs) (G id).g (off*k) n w:=by
   intro m D p hdk x y;have X:∀x,ya (sortWorldK V k w (G id).g (off*k) m p D) S (.agg (Yu xs x)) (.agg (V x).toArray):=fun x=>by
    refine .agg (by simp[hek,B _ (vo I x)]) fun j C u W hu=>?_
    obtain⟨u',_,L,q3,_⟩:=l x j C W;have:u=u':=by simpa[L]using hu.symm
    subst this;exact q3.mono fun K a=>⟨a,F m D p K a⟩
   have:=hsp.2 _ _ _ _ _ _ (zaa _ _ (B _ (vo I x)) (B _ (vo I y)) (M _ (vo I x)) (M _ (vo I y))) (sortWorldK V k w (G id).g (off*k) m p D) S G [.agg (V x).toArray,.agg (V y).toArray]
    ⟨fun K a=>ja (hi.st K a) (ziP m D p),fun _ _ h=>(nomatch h),fun _ _ h=>(nomatch h),fun _ _ h=>(nomatch h),fun _ _ _ _ h=>(nomatch h),hi.fS.mono fun K a=>⟨a,F m D p K a⟩⟩ (.cons (.c (X x)) (.cons (.c (X y)) .nil))
   refine this.mono fun e w' hh=>?_
   obtain⟨v,S',G',rfl,st,hv⟩:=hh;obtain⟨rfl,_⟩:=hv.yi;refine⟨rfl,HA ⟨st.fr.os,st.fr.tape,st.fr.output,st.fr.size,st.fr.drawn,fun k hk _=>st.fr.block k hk ?_⟩⟩;rintro⟨_,_,h,_⟩;cases h
  have hH:HoldsK V k w (G id).g (off*k) (Array.range n):=by
   intro t ht;have ht':t<n*k:=by simpa using ht
   have hd:=Nat.div_add_mod t k;have hm:=zkD t h0;have hdl:t/k<n:=(Nat.div_lt_iff_lt_mul h0).2 ht';rw[get_flatK _ _ _ _ (by simpa using ht')];have hr:(Array.range n)[t/k]! = t/k:=by rw[Y3 _ _ (by simpa using hdl)];simp
   obtain⟨C,hpv⟩:=E (t/k) (t % k) hm;obtain⟨u,R,L,_,_⟩:=l (t/k) (t % k) C hpv;have hixe:ix (t/k)=t/k:=zd hdl;constructor
   ·rw[zdY w _ _ cur _ _ c1,hr,List.getElem!_eq_getElem?_getD,L];rw[hixe]at R;have:off*k+t=(off+t/k)*k+t % k:=by rw[wo,fI (t/k) k];omega
    rw[this,R];rfl
   ·simp[World.frozen?,c1]
  have hsw:=hW.swo I;have key:=hso.1 Nat V hek h1c (nT cf xs) hsw g' (G id).g (off*k) cap (Array.range n) w eg (by simpa using hcmp) hH hblk (by simpa using hn);have es1:(Array.range n).size=n:=by simp
  rw[es1]at key;rw[A];refine key.mono fun e w' hh=>?_
  obtain⟨rfl,m,D,rfl⟩:=hh;have hidx:pdq (ltOf (nT cf xs)) (Array.range n) 0 n (Lib.bitLen n) true true=Qe cf xs:=by unfold Qe;rw[H]
  rw[hidx];have hds:(Qe cf xs).size=n:=by rw[Vv hW I,H]
  have Ls:(W5 cf xs).length=n:=by rw[AO hW,H]
  have hpl:off+(W5 cf xs).length<=b.es.length:=by rw[Ls];exact U
  have hsg:∀i,i<n->(W5 cf xs)[i]?=some (Yu xs (Qe cf xs)[i]!):=fun i hin=>by unfold W5;rw[ze (by omega),qz,Array.getElem?_toList,Y3 _ i (by omega),jC (by omega)];rfl
  refine⟨_,S,G,rfl,?_,kx⟩;rw[N];have Db:=kW.set (dr:=dr) hi hb o (putCells (fun v:Value=>v) (off*k) (flatK V k (Qe cf xs)) cur) (b.es.take off++W5 cf xs++b.es.drop (off+n)) (by simp[putCells,c2])
   (fun c hc=>by
    rw[qG]at hc;rcases qi.1 hc with hc|hc
    ·exact d.len o c (vu hc)
    rcases qi.1 hc with hc|hc
    ·rw[A];exact B c ((cE hW).mem_iff.1 hc)
    ·exact d.len o c (List.mem_of_mem_drop hc))
   (by have:=WL b.es (W5 cf xs) off hpl;rw[Ls]at this;rw[this];exact d.fit o)
   (fun i j c C q T=>by
    have hspl:=vZ b.es (W5 cf xs) off i hpl;rw[Ls]at hspl;rw[hspl]at q;rw[A];split at q
    ·rename_i hin;rw[hsg _ (by omega)]at q;injection q with q
     subst q;have J:j<k:=by have:=(zk.1 T).1;rw[B _ (vo I _)]at this;exact this
     obtain⟨u,R,L,q3,q4⟩:=l _ j C T;refine⟨u,?_,fun _=>q3,.c q3,q4⟩;obtain⟨i',rfl⟩:∃i',i=off+i':=⟨i-off,by omega⟩;have e1:off+i'-off=i':=by omega
     rw[e1]at L;have e2:(off+i')*k+j=off*k+(i'*k+j):=by rw[wo];omega
     have Q:i'*k+j<n*k:=kK (by omega) J;have hcl:off*k+(i'*k+j)<cur.size:=by rw[c2];have:=d.fit o;rw[A]at this;have h5:(off+n)*k<=b.es.length*k:=zT k U;rw[wo]at h5;omega
     rw[e2];unfold putCells;rw[Array.getElem?_mapIdx,jC hcl];simp only[zH,size_flatK,hds];rw[zd ⟨by omega,by omega⟩,show off*k+(i'*k+j)-off*k=i'*k+j by omega,get_flatK _ _ _ _ (by rw[hds];exact Q)];have e3:(i'*k+j)/k=i':=by rw[fI,Nat.mul_add_div h0,Nat.div_eq_of_lt J];rfl
     have e4:(i'*k+j) % k=j:=by rw[fI,Nat.mul_add_mod,Nat.mod_eq_of_lt J]
     rw[e3,e4,List.getElem!_eq_getElem?_getD,L];rfl
    ·rename_i hin;obtain⟨u,R,L⟩:=c3 i j c C q T;refine⟨u,?_,L⟩;have J:j<k:=by have:=(zk.1 T).1;rw[d.len o c (zN q),A]at this;exact this
     unfold putCells;rw[Array.getElem?_mapIdx,R];simp only[zH,size_flatK,hds];rw[ze];rintro⟨a1,a2⟩;apply hin;constructor
     ·apply Nat.not_lt.1;intro Q;have:(i+1)*k<=off*k:=zT k Q;rw[wo]at this;omega
     ·apply Nat.not_le.1;intro hle;have:(off+n)*k<=i*k:=zT k hle;rw[wo]at this;omega)
  rw[<-WN V k w _ _ _ c1]at Db;exact Db.trans (kW.grown Db.inv (Vw V k w (G id).g (off*k) m (Qe cf xs) D))
 ·cases h
end
end Go.AM
namespace Go.AM
variable{dr:Prop}
def CW(P:Program)(f e s by_:Nat):Prop:=
 (∀w,Calls P f #[.slice none 0 0,.int .i64 0] w fun r w'=>r=.returned (.slice none 0 0)/\w'=w) /\
 ∀(n:Nat) (w:World),0<n->n*by_<=140737488355328->n<=4611686018427387904->Calls P f #[.slice none 0 0,.int .i64 n] w fun r w'=>
  ∃cap cur,cap<=maxLen/\cur.size=cap*s/\r=.returned (.slice (some ⟨w.heap.size,0,none⟩) 0 cap)/\w'=w.drew.alloc (.cells cur e)
theorem CW.of{P:Program}{c:Go.Shelf.Ren}(L:Lays8.n4 P c){s by_:Nat}{z:zb}(hs:qE P (c.t 25)=some s)(d:kD P (c.t 25)=some by_)(j:y8 P (c.t 25)=some z)(k:z.length=s)(u:0<s):CW P (c.f 4) (c.t 25) s by_:=by
 obtain⟨i,v,hi,l,m⟩:=QI j;obtain⟨i',b,o⟩:=YP hs;rw[hi]at b;injection b with b;subst b;have e:i.bytes=by_:=by unfold kD at d;rw[hi]at d;simpa using d
 have g:v.cells.size=s:=by have:=(jI (w:=default) (S:=fun _=>False) m).1;rw[k]at this;simpa using this.symm
 refine⟨fun w=>Any8.slices_Grow_room L none 0 0 0 w (by omega) (by omega) (by omega) (by omega),fun n w x d y=>?_⟩;refine(Any8.slices_Grow_grow L i v hi l (by omega) none 0 0 n [] w (by omega) (by omega) (by rw[e];simpa using d) (by omega) (by simp) (fun _=>rfl) (fun a h=>(nomatch h))).mono fun r w' p=>?_
 obtain⟨rfl,rfl⟩:=p;rw[wg]at *;have q:n<=grownCap w n 0 (c.t 25):=grownCap_ge _ _ _ _;refine⟨_,_,grownCap_le_maxLen w n 0 (c.t 25) (by unfold maxLen;omega),?_,rfl,rfl⟩;rw[Q7,Q7,U4,U4,g];simp only[j9,qj,wg,Nat.sub_zero];rw[<-wo];congr 1;omega
def tP(e s by_:Nat):AM.Spec:=fun args Y Z=>match args with
 |[.nil,.v (.int .i64 n)]=>if n=0 then some (.nil,Y,Z)else if 0<n/\n*by_<=140737488355328/\n<=4611686018427387904 then some (.own Z 0 0,qq Y Z (some ⟨e,s,true,[]⟩),Z+1)else none
 |_=>none
theorem DE{P:Program}{f e s by_:Nat}(j:∃fn,P.funcs[f]?=some fn/\(fn.name== "runtime.NumGoroutine")=false/\fn.body.isNone=false)(k:qE P e=some s)(d:0<s)(h:CW P f e s by_):yY dr P f (tP e s by_):=by
 refine⟨j,?_⟩;intro args Y Z r Y' Z' a w S G vs hi z;unfold tP at a;split at a
 ·rename_i n;obtain⟨u,us,rfl,A,b⟩:=z.y9;obtain⟨v,us,rfl,B,b⟩:=b.y9;obtain rfl:=b.Yq;obtain rfl:=A.xQ;obtain⟨rfl,_⟩:=B.yi;split at a
  ·rename_i C;subst C;injection a with a
   injection a with l a;injection a with o p;subst l;subst o;subst p;refine(h.1 w).mono fun r w' q=>?_
   obtain⟨rfl,rfl⟩:=q;exact⟨_,_,_,rfl,.refl hi,.c .nil⟩
  ·split at a
   ·rename_i D x;injection a with a
    injection a with l a;injection a with o p;subst l;subst o;subst p;obtain⟨m,rfl⟩:∃m:Nat,n=m:=⟨n.toNat,by omega⟩;refine(h.2 m w (by omega) (Int.ofNat_le.1 (by rw[Int.natCast_mul];exact x.2.1)) (by have:=x.2.2;omega)).mono fun r w' q=>?_
    obtain⟨cap,cur,E,F,rfl,rfl⟩:=q;have y:=kW.drew (dr:=dr) hi;obtain⟨i,t,g⟩:=YP k;have H:=kW.alloc (dr:=dr) y.inv cur e true [] s d (by rw[t];simp[g]) (by simp) (by simp) (by simp);refine⟨_,_,_,rfl,y.trans H,?_⟩;have:=qw.own (w:=w.drew.alloc (.cells cur e)) (S:=S) (G:=qq G Z ⟨w.drew.heap.size,cur.size,s⟩) (Z:=Z+1) (id:=Z) (off:=0) (n:=0) (cap:=cap) (by omega) (by omega) E (by rw[wU];show(0+cap)*s=cur.size;rw[F,wg]) (by rw[wU];exact d);rw[wU]at this;have I:0*s=0:=Y4 s;simp only[I]at this;exact this
   ·cases a
 ·cases a
theorem qN.Y5{P:Program}{Y:Hp}{Z e s by_:Nat}{v:O}{xs:List zb}{ys:List zb}{z:zb}{t:TypeId}(h:qN Y Z e s v xs)(b:yp P t=some e)(hs:qE P e=some s)(c:kD P e=some by_)(d:y8 P e=some z)
  (a:z.length=s) (f:0<s) (g:xs.length+ys.length<=maxLen) (i:(xs.length+ys.length)*by_<=140737488355328) :
  ∃j Y' Z',jb P Y Z t t v (.sl s ys)=some (j,Y',Z')/\qN Y' Z' e s j (xs++ys)/\Z<=Z':=by
 rcases h with⟨rfl,rfl⟩|⟨id,hid,rfl,l⟩
 ·simp at g i;by_cases k:ys=[]
  ·subst k;exact⟨.nil,Y,Z,by simp[jb,b,hs,c,d,a,f,AM.view,maxLen],.inl ⟨rfl,rfl⟩,zl _⟩
  ·exact⟨.own Z 0 ys.length,_,Z+1,by simp[jb,b,hs,c,d,a,f,g,i,AM.view,k];rfl,.inr ⟨Z,by omega,by simp,by simp⟩,by omega⟩
 ·exact⟨.own Z 0 (xs.length+ys.length),_,Z+1,by simp[jb,b,hs,c,d,a,f,g,i,AM.view,l];rfl,.inr ⟨Z,by omega,by simp,by simp⟩,by omega⟩
variable{dr:Prop}
section
variable{C:Ctx}{pf:FuncId->Bool}{N:Nat}
def Wp(dr:Prop)(C:Ctx)(N:Nat)(c:Code)(st:St)(K:Exit->St->Prop):Prop:=
 ∀(d:World) (g L:Nat->Prop) (Z0:Nat) (h:Nat->GI) (f:Nat) (a:Act) (w:World) (Q:Exit->Act->World->Prop),f<=d.heap.size->mF dr C.P d g L N Z0 h f st a w ->
  (∀e b i w',K e b->mF dr C.P d g L N Z0 h f b i w'->Q e i w')->c.wpIn Fence.wide 0 C.P Q a w
theorem Wp.of(b:kB dr C pf){c:Code}{st:St}{K:Exit->St->Prop}(h:ZX C c st K)(f:xt pf C.dyn C.PJ C.bk N c=true:=by kernel_rfl):Wp dr C N c st K:=by obtain⟨e,d,i,j⟩:=h;intro k l L Z0 m n a w Q o hs p;exact nN b.spec b.quiet b.box b.iter b.mixed c f Fence.wide 0 (.inl rfl) (.inl rfl) k l L Z0 m n st d e a w Q o i hs fun q w' g=>p e d q w' j g
theorem Wp.mono{c:Code}{st:St}{K f:Exit->St->Prop}(h:Wp dr C N c st K)(g:∀e b,K e b->f e b):Wp dr C N c st f:=
 fun i j L Z0 k l a w Q m hs n=>h i j L Z0 k l a w Q m hs fun e b o w' d=>n e b o w' (g e b d)
def LK(dr:Prop)(C:Ctx)(N:Nat)(y:Code)(K:Exit->St->Prop)(e:Exit)(st:St):Prop:=match e with
 | .normal=>Wp dr C N y st K
 |e=>K e st
theorem Wp.seq{x y:Code}{st:St}{K:Exit->St->Prop}(h:Wp dr C N x st (LK dr C N y K)):Wp dr C N (.seq x y) st K:=by
 intro c d L Z0 f g a w Q i hs j;refine wpIn_seq (h c d L Z0 f g a w _ i hs fun e l m w' k b=>?_);cases e<;>first
  |exact k c d L Z0 f g m w' Q i b j
  |exact j _ _ _ _ k b
theorem Wp.block{id:Nat}{b:Code}{st:St}{K:Exit->St->Prop}(h:Wp dr C N b st (Yt id K)):Wp dr C N (.block id b) st K:=by
 intro j k L Z0 l m a w Q n hs f;refine wpIn_block (h j k L Z0 l m a w _ n hs fun e o p w' d c=>?_);cases e with
 |exit i=>
  unfold Yt at d;unfold Exit.inBlock;simp only at d⊢;split at d
  ·rename_i g;rw[zd g];exact f _ _ _ _ d c
  ·rename_i g;rw[ze g];exact f _ _ _ _ d c
 |_=>exact f _ _ _ _ d c
def AP(I:Nat->St->Prop)(n:Nat)(K:Exit->St->Prop)(e:Exit)(st:St):Prop:=match e with
 | .normal=>∃m,m<n/\I m st
 |e=>K e st
theorem Wp.loop{b:Code}{st:St}{K:Exit->St->Prop}(I:Nat->St->Prop)(n:Nat)(p:I n st)(h:∀n st,I n st->Wp dr C N b st (AP I n K)):Wp dr C N (.loop b) st K:=by
 intro i j L Z0 l o a w Q q hs r;refine wpIn_loop_rounds (n+1) ?_;have f:∀(k n:Nat) (st:St) (a:Act) (w:World),n<k->I n st->mF dr C.P i j L N Z0 l o st a w->Code.roundsIn Fence.wide 0 C.P b Q k a w:=by
  intro k
  induction k with
  |zero=>intro n st a w s;omega
  |succ k t=>
   intro n st a w s hi hs;rw[roundsIn_succ];refine h n st hi i j L Z0 l o a w _ q hs fun e g u w' c d=>?_
   cases e with
   |normal=>obtain⟨m,x,v⟩:=c;exact t m g u w' (by omega) v d
   |_=>exact r _ _ _ _ c d
 exact f _ n st a w (by omega) p hs
def Wa(dr:Prop)(C:Ctx)(N:Nat)(c:Array Oper)(l:List Nat)(st:St)(K:St->Prop):Prop:=
 ∀(d:World) (e L:Nat->Prop) (Z0:Nat) (f:Nat->GI) (g:Nat) (a:Act) (w:World) (Q:Exit->Act->World->Prop),mF dr C.P d e L N Z0 f g st a w ->
  (∀b h w',K b->mF dr C.P d e L N Z0 f g b h w'->Q .normal h w')->wpOpsIn Fence.wide 0 C.P c Q l a w
theorem Wp.region{id:Nat}{b:Array Oper}{st:St}{K:Exit->St->Prop}(h:Wa dr C N b (List.range b.size) st (Wf K)):Wp dr C N (.region id b false) st K:=
 fun e f L Z0 g i a w Q _ hs j=>wpIn_region (h e f L Z0 g i a w Q hs fun c k w' l d=>j .normal c k w' l d)
theorem Wa.nil{b:Array Oper}{st:St}{K:St->Prop}(h:K st):Wa dr C N b [] st K:=fun d e L Z0 f g a w Q hs c=>c st a w h hs
theorem Wa.cons(H:kB dr C pf){k:Array Oper}{i:Nat}{o:Oper}{l:List Nat}{st st1:St}{K:St->Prop}(I:k[i]?=some o)(hd:∀d,o.dst=some d->d<N)(j:jd C k o st=some st1)(h:Wa dr C N k l st1 K):Wa dr C N k (i::l) st K:=by
 intro q r L Z0 s t a w Q hs u;simp only[wpOpsIn,I];obtain⟨S,G,m⟩:=hs;unfold jd at j;rw[XF m.xZ];split at j
 ·rename_i z;rw[zd z];split at j
  ·rename_i x Y Z n;injection j with j
   subst j;have A:∀c,o.op≠.defer c:=by intro c B;rw[B]at n;simp[qb]at n
   refine⟨fun f _=>trivial,?_⟩;rw[Oper.semAt_eq _ _ _ A];have D:=dO H.spec m.inv (a:=a.eval) (fun y P J=>WJ m.xZ J) (o:=o) n;rcases D with⟨v,w',S',G',p,E,F⟩|⟨g,vs,p,B⟩
   ·have b:=h q r L Z0 s t _ w' Q ⟨S',G',m.step E F hd⟩ u;rcases p with p|⟨p,rfl⟩
    ·rw[p];exact b
    ·rw[p];exact b
   ·rw[p];refine⟨fun h=>by simp[Fence.wide]at h,rW.2 (B.mono fun e w' M=>?_)⟩;obtain⟨v,S',G',rfl,E,F⟩:=M;exact h q r L Z0 s t _ w' Q ⟨S',G',m.step E F hd⟩ u
  ·cases j
 ·rename_i z;rw[ze z];injection j with j
  subst j;exact⟨fun f _=>trivial,h q r L Z0 s t _ w Q ⟨S,G,m.step (.refl m.inv) kx hd⟩ u⟩
end
section
variable{P:Program}{w:World}{S:Nat->Prop}{G:Nat->GI}{Y:Hp}{Z:Nat}
theorem DF(hi:Inv P w S G Y Z){t ty e:TypeId}{n by_ id off k:Nat}{b:Blk}{ys:List zb}{z:zb}{u v:Value}
  (ht:yp P t=some e) (h1:qE P e=some n) (h2:kD P e=some by_) (h3:y8 P e=some z) (hn:0<n) (hzl:z.length=n) (hb:Y id=some b) (hba:b.arr=true) (hbe:b.e=e) (hk:off+k=b.es.length)
  (hl1:k+ys.length<=maxLen) (hl2:(k+ys.length)*by_<=140737488355328) (hs:qw w S G Z (.own id off k) u) {x:O} (hv:AM.view Y n x=some ys) (hx:qw w S G Z x v) :
  ∃r w' es' K G',(Builtin.append_ #[t,t] ty #[u,v]).run P w=.ok r w'/\(es'=b.es++ys/\K=off\/es'=b.es.drop off++ys/\K=0) /\
   kW dr P Y Z S G w (qq (qq Y id none) Z (some ⟨e,n,true,es'⟩)) (Z+1) S G' w'/\qw w' S G' (Z+1) (.own Z K (k+ys.length)) r:=by
 obtain⟨i,vz,i1,i2,i3⟩:=QI h3;have U:i.size=n:=by simpa[qE,i1]using h1
 have hby:i.bytes=by_:=by simpa[kD,i1]using h2
 have hzl':=(jI (w:=w) (S:=S) i3).1;have hzc:vz.cells.size=n:=by rw[<-hzl,hzl'];simp
 have hu:=vI ht;have PM:=hs.vy;obtain⟨cap,g1,g2,g3,g4,rfl⟩:=hs.vf;have hbr:=hi.live id b hb;obtain⟨cur,q1,q2,q3⟩:=hbr.row PM;have hsb:(G id).s=n:=by
  have h5:=hbr.size PM;rw[hbe]at h5;have h6:(P.info? e).map (·.size)=some n:=by simpa[qE]using h1
  rw[h6]at h5;injection h5 with h5
  exact h5.symm
 rw[hsb]at g4 q3⊢;rw[hbe]at q1;obtain⟨A,c,f,rfl,f1,f2⟩:=Vn hi hv hx;have hff:=aJ hn f1 f2;have W:((List.range (ys.length*n)).map f).length=ys.length*n:=by simp
 obtain⟨a,p⟩:=wZ ((List.range (ys.length*n)).map f);have hone:∀u∈a,u.oneCell'=true:=fun u hu=>by rw[<-p]at hu;obtain⟨k,hk,rfl⟩:=q9.1 hu;exact(hff k (jK.1 hk)).choose_spec.2.2
 have L:∀j u,a[j]?=some u->∃ad,A=some ad/\w.cell? (ad.add j)=some u:=fun j u o=>by
  have X:j<ys.length*n:=by rw[<-W,p];exact(zk.1 o).1
  obtain⟨ad',e1,e2,_⟩:=hff j X;rw[<-p,qz,kJ X]at o;simp at o;exact⟨ad',e1,by rw[e2,o]⟩
 have Ps:∀(i' j:Nat) (m:zb) (J:O),ys[i']?=some m->m[j]?=some J->∃T,a[i'*n+j]?=some T/\jM w S G Z true J T:=fun i' j m J d o=>by
  obtain⟨ad',a1,a2,a3⟩:=f2 i' j m J d o;have E:j<n:=by rw[<-f1 m (zN d)];exact(zk.1 o).1
  have I:=kK (n:=ys.length) (zk.1 d).1 E;exact⟨f (i'*n+j),by rw[<-p,qz,kJ I];rfl,a3⟩
 rw[p]at W;have M:Src P i.size t (.slice A ys.length c) ys.length a w:=by
  cases A with
  |some ad=>exact Src.ofSlice w hu ad _ c a (by rw[U];exact W) (fun j u o=>by obtain⟨ad',e1,e2⟩:=L j u o;injection e1 with e1;subst e1;exact e2) hone
  |none=>
   have hnil:a=[]:=by
    cases a with
    |nil=>rfl
    |cons u r=>obtain⟨_,e1,_⟩:=L 0 u rfl;cases e1
   have hm0:ys.length=0:=by
    rw[hnil]at W;rcases Nat.eq_zero_or_pos ys.length with h|h
    ·exact h
    ·have:=Nat.mul_pos h hn;simp at W;omega
   rw[hnil,hm0];exact Src.ofNil w hu c
 have hoz:cur.size=off*n+cap*n:=by rw[q2,<-g4,wo]
 have hkz:k*n<=cap*n:=zT _ g2;have zab:b.es.length*n=off*n+k*n:=by rw[<-hk,wo]
 have hsub:∀id' B,qq Y id none id'=some B->Y id'=some B:=fun id' B h=>vL h
 have hnl:∀id' B,qq Y id none id'=some B->(G id').g≠(G id).g:=fun id' B h he=>by
  have hne:id'≠id:=by rintro rfl;simp at h
  exact hne (hi.inj id' id B b (vL h) hb he)
 have y:∀m∈b.es,m.length=n:=fun m N=>by rw[<-hsb];exact hbr.len PM m N
 by_cases F:k+ys.length<=cap
 ·have hmz:k*n+ys.length*n<=cap*n:=by rw[<-wo];exact zT _ F
  obtain⟨q,H⟩:=wZ ((cur.toList.take (off*n+k*n)++a++cur.toList.drop (off*n+k*n+a.length)).toArray);have Db:=run_storeCells_at P (G id).g (off*n+k*n) e a 0 cur w q1 (by rw[W];omega) hone;simp only[vS]at Db;rw[H]at Db;have hcl:q.size=cur.size:=by rw[<-H];simp[W];omega
  have C:(Builtin.append_ #[t,t] ty #[.slice (some ⟨(G id).g,off*n,none⟩) k cap,.slice A ys.length c]).run P w=.ok (.slice (some ⟨(G id).g,off*n,none⟩) (k+ys.length) cap) (w.setRow (G id).g q):=by have y:=M.len;have l:=M.cells;rw[U]at l;simp[Builtin.append_,zK hu,sizeOf,typeInfo,i1,y,F,U,l,ko,Db]
  have ziQ:(b.es++ys).length*n<=(G id).z:=by rw[zm,wo,zab,<-q2,hoz];omega
  have k2:=kW.Ao (dr:=dr) (w':=w.setRow (G id).g q) (Y1:=qq Y id none) hi hsub ⟨(G id).g,(G id).z,n⟩ e true (b.es++ys) q rfl rfl rfl (by simp[World.setRow]) (zl _)
   (fun B=>B=(G id).g) (fun B Q=>by subst Q;exact⟨⟨id,b,hb,rfl⟩,hi.apart id b hb,hnl⟩)
   (fun B _ hne _=>setRow_other w _ _ _ hne) hnl (hi.apart id b hb) (.inl ⟨id,b,hb,rfl⟩) hn (by simpa[qE]using h1)
   (fun m N=>by
    rcases qi.1 N with h|h
    ·exact y m h
    ·exact f1 m h)
   ziQ (setRow_heap w _ cur _ _ _ q1) (hcl.trans q2) (fun i' j m J d o=>by
    show∃u,q[i'*n+j]?=some u/\jM w S G Z true J u;have R:m.length=n:=by
     rcases qi.1 (zN d)with h|h
     ·exact y m h
     ·exact f1 m h
    have E:j<n:=by rw[<-R];exact(zk.1 o).1
    have ht0:(cur.toList.take (off*n+k*n)).length=off*n+k*n:=by simp;omega
    have hto:∀x:Nat,q[x]?=(cur.toList.take (off*n+k*n)++(a++cur.toList.drop (off*n+k*n+a.length)))[x]?:=fun x=>by rw[<-H,qG];simp
    by_cases hik:i'<b.es.length
    ·have I:=kK (n:=b.es.length) hik E;rw[qh hik]at d;obtain⟨T,u1,u2⟩:=q3 i' j m J d o;rw[hba]at u2;exact⟨T,by rw[hto,qh (by omega),qI,zd (by omega)];simpa using u1,u2⟩
    ·rw[zY (by omega)]at d;have hge:b.es.length*n<=i'*n:=zT _ (by omega);have Dp:=(zk.1 d).1;have I:=kK (n:=ys.length) Dp E;obtain⟨T,u1,u2⟩:=Ps _ j m J d o;refine⟨T,?_,u2⟩;have hkk:i'*n+j-(off*n+k*n)=(i'-b.es.length)*n+j:=by rw[ME];omega
     rw[hto,zY (by omega),ht0,hkk,qh (by omega)];exact u1)
  refine⟨_,_,b.es++ys,off,_,C,.inl ⟨rfl,rfl⟩,k2,?_⟩;have:=qw.own (w:=w.setRow (G id).g q) (S:=S) (G:=qq G Z ⟨(G id).g,(G id).z,n⟩) (Z:=Z+1) (id:=Z) (off:=off) (n:=k+ys.length) (cap:=cap) (by omega) F g3 (by simpa using g4) (by simpa using hn);simpa using this
 ·obtain⟨olds,hol⟩:=wZ ((cur.toList.drop (off*n)).take (k*n));have D:olds.length=k*n:=by rw[<-hol];simp;omega
  have hget:∀j,j<k*n->olds[j]?=cur[off*n+j]?:=fun j o=>by rw[<-hol,qI,zd o,q8];simp
  have C:=run_append_grow_src (P:=P) w t t ty e i vz hu i1 i2 (some ⟨(G id).g,off*n,none⟩) k cap olds
   (by
    rw[U];refine run_firstCells_some w.drew n k ⟨(G id).g,off*n,none⟩ k cap olds D fun j u o=>?_
    have X:j<k*n:=by rw[<-D];exact(zk.1 o).1
    rw[hget j X]at o;rw[ko];exact(zdY w _ _ cur _ _ q1).trans o)
   (.slice A ys.length c) ys.length a M (by omega) (by unfold maxLen at hl1;omega) (growslice_fits (by omega) (by rw[hby];exact hl2))
  obtain⟨gc,hgc⟩:=wZ (grownCap w (k+ys.length) cap e);rw[hgc]at C;have hge:k+ys.length<=gc:=by rw[<-hgc];exact grownCap_ge w _ _ e
  have hgm:gc<=maxLen:=by rw[<-hgc];exact grownCap_le_maxLen w _ _ e hl1
  obtain⟨cells,l⟩:=wZ ((olds++a).toArray++Builtin.zeroCells vz.cells (gc-(k+ys.length)));rw[l]at C;have hcs:cells.size=gc*n:=by rw[<-l,Q7,U4,hzc];simp only[j9,zm,D,W];rw[<-wo,<-wo];congr 1;omega
  have hcg:∀j,j<(k+ys.length)*n->cells[j]?=(olds++a)[j]?:=fun j o=>by rw[<-l,vU (by simp[D,W];rw[<-wo];exact o)];simp
  have k2:=kW.Ao (dr:=dr) (w':=w.drew.alloc (.cells cells e)) (Y1:=qq Y id none) hi hsub ⟨w.heap.size,cells.size,n⟩ e true (b.es.drop off++ys) cells rfl rfl rfl (by simp) (yd _)
   (fun B=>B=(G id).g) (fun B Q=>by subst Q;exact⟨⟨id,b,hb,rfl⟩,hi.apart id b hb,hnl⟩)
   (fun B Q hne _=>Below.heap_alloc w.drew _ B Q) (fun id' B h=>Nat.ne_of_lt (hi.live id' B (vL h)).lt) (fun hS=>by have:=hi.st _ hS;simp at this) (.inr (zl _)) hn (by simpa[qE]using h1)
   (fun m N=>by
    rcases qi.1 N with h|h
    ·exact y m (Yl _ _ h)
    ·exact f1 m h)
   (by rw[zm,mD,hcs];exact zT _ (by omega)) (heap_alloc_new w.drew _) rfl (fun i' j m J d o=>by
    show∃u,cells[i'*n+j]?=some u/\jM w S G Z true J u;have R:m.length=n:=by
     rcases qi.1 (zN d)with h|h
     ·exact y m (Yl _ _ h)
     ·exact f1 m h
    have E:j<n:=by rw[<-R];exact(zk.1 o).1
    have Dp:=(zk.1 d).1;rw[zm,mD]at Dp;have I:i'*n+j<(k+ys.length)*n:=kK (by omega) E;by_cases hik:i'<k
    ·have hlt':=kK (n:=k) hik E;rw[qh (by rw[mD];omega),q8]at d;obtain⟨T,u1,u2⟩:=q3 (off+i') j m J d o;rw[hba]at u2;refine⟨T,?_,u2⟩;rw[hcg _ I,qh (by omega),hget _ hlt',<-u1,wo,na]
    ·rw[zY (by rw[mD];omega),mD]at d;have hge':k*n<=i'*n:=zT _ (by omega);obtain⟨T,u1,u2⟩:=Ps _ j m J d o;refine⟨T,?_,u2⟩;have hkk:i'*n+j-k*n=(i'-(b.es.length-off))*n+j:=by rw[show b.es.length-off=k from by omega,ME];omega
     rw[hcg _ I,zY (by omega),D,hkk];exact u1)
  refine⟨_,_,b.es.drop off++ys,0,_,C,.inr ⟨rfl,rfl⟩,k2,?_⟩;have:=qw.own (w:=w.drew.alloc (.cells cells e)) (S:=S) (G:=qq G Z ⟨w.heap.size,cells.size,n⟩) (Z:=Z+1) (id:=Z) (off:=0) (n:=k+ys.length) (cap:=gc) (by omega) hge hgm (by simp[hcs]) (by simpa using hn);simpa using this
end
section
variable{C:Ctx}{pf:Nat->Bool}{f:FuncId}{fn:Func}{code:Code}
theorem DG{st:St}{a:Act}{w:World}{S:Nat->Prop}{G:Nat->GI}(hi:Inv C.P w S G st.Y st.Z)(f:∀t,qw w S G st.Z (st.σ t) (a.tmps.getD t undef)){r:O}(h:Zq C.P fn st=some r):∃v,(results fn a.tmps).run C.P w=.ok v w/\qw w S G st.Z r v:=by
 unfold Zq at h;have k:∀xs,yH (fn.results.toList.map (YO C.P st))=some xs->r=(match xs with|[x]=>x|xs=>.w5 xs)->∃v,(results fn a.tmps).run C.P w=.ok v w/\qw w S G st.Z r v:=by
  intro xs g b;obtain⟨us,m,c⟩:=Kj hi f g;have e:(results fn a.tmps).run C.P w=.ok (if h:us.toArray.size=1 then us.toArray[0]else .tuple us.toArray) w:=by unfold results;rw[Array.mapM_eq_mapM_toList];simp only[xA,Sem.run_map];erw [m];rfl
  refine⟨_,e,?_⟩
  match xs,c,b with
  |[],c,b=>rw[c.Yq];subst b;exact .w5 rfl (by simp)
  |[y],c,b=>obtain⟨u,rfl,i⟩:=YS c;subst b;simpa using i
  |y::z::ys,c,b=>have l:=c.1;subst b;rw[dif_neg (by simp at l⊢;omega)];exact .w5 (by simpa using l) (fun j n u o i=>c.2 j n u o (by simpa using i))
 split at h
 ·rename_i y p;injection h with h
  exact k [y] p h.symm
 ·rename_i xs d g;injection h with h
  refine k xs g ?_;rw[<-h]
  match xs,d with
  |[],_=>rfl
  |[y],d=>exact(d y rfl).elim
  |y::z::ys,_=>rfl
 ·cases h
theorem DH(p:C.P.funcs[f]?=some fn)(q:fn.body=some code){args:zb}{Y:Hp}{Z:Nat}{R:O->Hp->Nat->Prop}(T:Wp dr C fn.ntmps code ⟨vn args,Y,Z⟩ (Vq C.P fn R))
  {w:World} {S:Nat->Prop} {G:Nat->GI} {vs:List Value} (hi:Inv C.P w S G Y Z) (s:Zip (qw w S G Z) args vs) (hn:args.length<=fn.ntmps) :
  Calls C.P f vs.toArray w fun e w'=>∃x Y' Z' v S' G',R x Y' Z'/\e=.returned v/\kW dr C.P Y Z S G w Y' Z' S' G' w'/\qw w' S' G' Z' x v:=by
 refine rW.1 (callsIn_of_wp_marks (n:=0) p q trivial ?_);have l:mF dr C.P w S (ke Y G) fn.ntmps Z G w.heap.size ⟨vn args,Y,Z⟩ {tmps:=vs.toArray++Array.replicate (fn.ntmps-vs.toArray.size) undef,defers:=[]} w:=by
  refine⟨S,G,hi,fun t=>?_,?_,.nil (zl _),fun _ h=>h,fun _ h=>.inl h,fun id b d=>.inl ⟨id,b,d,rfl⟩,Fr.refl _ _,zl _,fun _ _=>rfl⟩
  ·have u:vs.length=args.length:=s.1.symm;unfold vn;by_cases U:t<args.length
   ·have k:args[t]?=some args[t]:=zq U;have M:vs[t]?=some (vs[t]'(by omega)):=zq (by omega);have W:=s.2 t _ _ k M;have y:(vs.toArray++Array.replicate (fn.ntmps-vs.toArray.size) undef)[t]?=vs[t]?:=by rw[vU (by simpa using(by omega:t<vs.length))];simp
    simp only[k,Yn];rw[yJ,y,M];exact W
   ·have k:args[t]?=none:=jk (by omega);have y:(vs.toArray++Array.replicate (fn.ntmps-vs.toArray.size) undef).getD t undef=undef:=by rw[yJ,Array.getElem?_append_right (by simpa using(by omega:vs.length<=t)),aF];split<;>rfl
    simp only[k,Option.getD_none];rw[y];exact kx
  ·have u:vs.length=args.length:=s.1.symm;simp;omega
 refine T w S (ke Y G) Z G w.heap.size _ w _ (zl _) l fun e st z N c A=>?_
 obtain⟨S',G',a⟩:=A;obtain⟨X,Q,B,E,g⟩:=a.defers;have F:(e=.normal\/e=.ret)/\∃r,Zq C.P fn st=some r/\R r st.Y st.Z:=by
  cases e<;>first
   |exact⟨.inl rfl,c⟩
   |exact⟨.inr rfl,c⟩
   |exact c.elim
 obtain⟨F,r,H,hR⟩:=F;have m:LeavesInM Fence.wide 0 C.P fn z.tmps (fun e w'=>∃x Y' Z' v S' G',R x Y' Z'/\e=.returned v/\kW dr C.P Y Z S G w Y' Z' S' G' w'/\qw w' S' G' Z' x v) z.defers .returning N:=by
  rw[B];refine Vr (dr:=dr) Q N E (fun D hD=>(g D hD).2.1) fun w' j=>?_
  have o:∀b,b∈Q->Xx S' G' st.Y b:=fun b d=>⟨(g b d).2.2.1,(g b d).2.2.2⟩
  have i:=a.inv.frame j o;have I:∀t,qw w' S' G' st.Z (st.σ t) (z.tmps.getD t undef):=fun t=>(a.xZ t).mono (fun b d=>⟨d,j.block b (a.inv.st b d) fun J=>(o b J).1 d⟩) (zl _) (fun _ _=>rfl)
  have hk:kW dr C.P Y Z S G w st.Y st.Z S' G' w':=⟨i,a.up,a.loc,a.s0,a.s1,a.own,a.fr.trans j fun b d k=>by have:=(g b k).1;omega⟩;obtain⟨v,K,L⟩:=DG i I H;exact⟨v,K,r,_,_,v,S',G',hR,rfl,hk,L⟩
 rcases F with rfl|rfl
 ·exact m
 ·exact m
theorem YU(i:C.P.funcs[f]?=some fn)(t:(fn.name== "runtime.NumGoroutine")=false)(j:fn.body=some code)(l:Bool)(T:List Nat)(F:zb->Option O)(U:∀args r,F args=some r->args.length<=fn.ntmps/\Wp dr C fn.ntmps code ⟨vn args,fun _=>none,0⟩ (Vq C.P fn (iS r))):yY dr C.P f (zh l T F):=by
 refine⟨⟨fn,i,t,by rw[j];rfl⟩,?_⟩;intro args Y Z r Y' Z' h w S G vs hi W;unfold zh at h;split at h
 ·rename_i X Y1 u;split at h
  ·rename_i r0 y;obtain⟨hn,hW⟩:=U _ r0 y;obtain⟨S1,s,z,A⟩:=jJ (dr:=dr) hi u W;refine(DH i j hW (aN (fun _=>⟨0,0,0⟩) s.inv.st s.inv.fS) (W4 z).closed hn).mono fun e w' hh=>?_
   obtain⟨x,hpe,nxe,v,S',G',⟨r1,m,B⟩,N,k,hx⟩:=hh;have Q:Fr dr w (fun _=>False) w':=⟨k.fr.os,k.fr.tape,k.fr.output,k.fr.size,k.fr.drawn,fun b d _=>k.fr.block b d Ws⟩;obtain⟨⟨r2,hpf⟩,D,n⟩:=z7 m;simp only at n;subst n;obtain⟨S2,R,E⟩:=YQ (dr:=dr) k.inv D hx;have H:=AH E B;have o:∀b,S2 b->S1 b\/(w.heap.size<=b/\b<w'.heap.size):=by
    intro b d;have p:=R.inv.st b d;rcases R.from_ b d with h1|⟨id,blk,h1,rfl⟩|h1
    ·rcases k.from_ b h1 with a|a|a
     ·exact .inl a
     ·exact(Ws a).elim
     ·exact .inr ⟨a,p⟩
    ·rcases k.own id blk h1 with a|a
     ·exact(Ws a).elim
     ·exact .inr ⟨a,p⟩
    ·exact absurd h1 (by omega)
   split at h
   ·rename_i g;injection h with h
    injection h with I h;injection h with J K;subst I;subst J;subst K;refine⟨v,_,G,N,kW.outer hi Q,.c ?_⟩;rcases g with L|M
    ·exact nQ H L
    ·have q:=A M;exact H.mono fun b d=>⟨by rw[<-q];exact o b d,rfl⟩
   ·split at h
    ·injection h with h;injection h with I h;injection h with J K;subst I;subst J;subst K;exact⟨v,_,G,N,s.trans (kW.outer s.inv Q),.c (H.mono fun b d=>⟨o b d,rfl⟩)⟩
    ·cases h
  ·cases h
 ·cases h
theorem AQ(b:fK C pf f fn code)(a:Bool)(c:List Nat)(F:zb->Option O)(d:∀args r,F args=some r->args.length<=fn.ntmps/\Wp dr C fn.ntmps code ⟨vn args,fun _=>none,0⟩ (Vq C.P fn (iS r))):yY dr C.P f (zh a c F):=
 YU b.func b.name b.body a c F d
end
variable{dr:Prop}
abbrev str(l:za):O:=.v (.string ⟨l.toArray⟩)
@[simp]theorem zhd(l:za):(ByteArray.mk l.toArray).size=l.length:=by simp[ByteArray.size]
@[simp]theorem bget(l:za)(i:Nat):(ByteArray.mk l.toArray)[i]?=l[i]?:=by
 by_cases h:i<l.length
 ·rw[getElem?_pos (ByteArray.mk l.toArray) i (by simpa using h),zq h];rfl
 ·rw[getElem?_neg (ByteArray.mk l.toArray) i (by simpa using h),jk (by omega)]
@[simp]theorem RC(l:za)(a b:Nat):(ByteArray.mk l.toArray).extract a b=⟨((l.drop a).take (b-a)).toArray⟩:=by have h:=Lib.extract_data (ByteArray.mk l.toArray) a b;rw[ByteArray.ext_iff];apply U2.1;rw[h]
@[simp]theorem zjg(a b:za):ByteArray.mk a.toArray++ByteArray.mk b.toArray=⟨(a++b).toArray⟩:=by rw[ByteArray.ext_iff];apply U2.1;simp[ByteArray.data_append]
theorem wC{a b:za}(h:str a=str b):a=b:=by injection h with h;injection h with h;injection h with h;simpa using zo Array.toList h
@[simp]theorem zgd(P:Program)(t:TypeId)(l:za)(k:IntKind)(i:Int)(h:P.underlying t=some .string):Wo P t (.v (.string ⟨l.toArray⟩)) (.v (.int k i)) =
  if 0<=i then(l[i.toNat]?).map fun b=>.v (.int .u8 b.toNat)else none:=by
 simp only[Wo,h,bget];split
 ·cases l[i.toNat]?<;>rfl
 ·rfl
@[simp]theorem zge(P:Program)(Y:Hp)(t:TypeId)(l:za)(lo hi:Option (Option O))(h:P.underlying t=some .string):jO P Y t (.v (.string ⟨l.toArray⟩)) lo hi =
  (vD 0 lo).bind fun a=>(vD l.length hi).bind fun b=>if a<=b/\b<=l.length then some (str ((l.drop a).take (b-a)))else none:=by
 simp only[jO,h,zhd,RC];cases vD 0 lo<;>(try rfl);cases vD l.length hi<;>rfl
attribute [simp] vD
@[simp]theorem zaP(P:Program)(t:TypeId)(a b:Bool)(h:P.underlying t=some .bool):Qi P .eql t (.v (.bool a)) (.v (.bool b))=some (.v (.bool (a==b))):=by simp[Qi,h]
@[simp]theorem zaQ(P:Program)(t:TypeId)(a b:Bool)(h:P.underlying t=some .bool):Qi P .neq t (.v (.bool a)) (.v (.bool b))=some (.v (.bool (!(a==b)))):=by simp[Qi,h]
@[simp]theorem zhe(P:Program)(s d:TypeId)(k:IntKind)(n:Int):bQ P s d (.v (.int k n))=(P.underlying s).bind fun _=>(P.underlying d).bind fun u=>match u with|.int a=>some (.v (.int a (a.wrap n)))|_=>none:=by simp only[bQ];cases P.underlying s<;>(try rfl);cases P.underlying d<;>(try rfl);rename_i u;cases u<;>rfl
theorem yI{F:zb->Option O}{b:List Nat}{a:Bool}{args c:zb}{Y Y1:Hp}{Z:Nat}{r:O}(d:zC Y args=some (c,Y1))(e:F (yS b c)=some r)(f:r.flat=true\/args.all O.noOwn=true) :
  zh a b F args Y Z=some (r,Y,Z):=by
 unfold zh;simp only[d,e,f,qV]
theorem qR{k:IntKind}{a b:Int}(h:O.v (.int k a)=.v (.int k b)):a=b:=by injection h with h;injection h
theorem Wt{a b:Bool}(h:O.v (.bool a)=.v (.bool b)):a=b:=by injection h with h;injection h
def zdj{α a:Type}(f:α->a)(K:a->Prop)(x:α):Prop:=K (f x)
def zhf{α a:Type}(f:α->Option a)(K:a->Prop)(x:α):Prop:=JS (f x) K
@[simp]theorem zgf{α a:Type}(f:α->a)(K:a->Prop)(x:α):zdj f K x=K (f x):=rfl
@[simp]theorem zgg{α a:Type}(f:α->Option a)(K:a->Prop)(x:α):zhf f K x=JS (f x) K:=rfl
@[simp]theorem zgh{α a:Type}(f:α->a)(o:Option α)(K:a->Prop):JS (o.map f) K=JS o (zdj f K):=by cases o<;>simp[JS]
def Vx(C:Ctx)(pf:FuncId->Bool)(f:FuncId)(fn:Func):Prop:=∃code,fK C pf f fn code
theorem yy{C:Ctx}{pf:FuncId->Bool}{f:FuncId}{fn:Func}(e:kB dr C pf)(b:Vx C pf f fn)(a:Bool)(c:List Nat)(F:zb->Option O)(g:∀args r,F args=some r->args.length<=fn.ntmps/\∃d,zv C fn args=some d/\XG d r):yY dr C.P f (zh a c F):=
 let⟨_,b⟩:=b
 DA e b a c F g
def kOk(pf:FuncId->Bool)(C:Ctx)(fn:Func):Bool:=!(fn.name== "runtime.NumGoroutine")&&match fn.body with
 |some c=>xt pf C.dyn C.PJ C.bk fn.ntmps c
 |none=>false
theorem qX{C:Ctx}{pf:FuncId->Bool}{f:FuncId}{fn:Func}(h:C.P.funcs[f]?=some fn)(a:kOk pf C fn=true:=by kernel_rfl):Vx C pf f fn:=by
 unfold kOk at a;split at a
 ·rename_i c b;simp only[zE,Q6]at a;exact⟨c,h,a.1,b,a.2⟩
 ·simp at a
theorem vM{C:Ctx}{pf:FuncId->Bool}{f:FuncId}{fn:Func}{α:Type}{V:α->zb}{pre:α->Prop}{out:α->O}(e:kB dr C pf)(h:C.P.funcs[f]?=some fn)(b:Bool)(c:List Nat)(g:∀a,pre a->(V a).length<=fn.ntmps/\∃d,zv C fn (V a)=some d/\XG d (out a))(i:kOk pf C fn=true:=by kernel_rfl):yY dr C.P f (zh b c (qd V pre out)):=
 yy e (qX h i) b c _ fun args r h=>by obtain⟨a,rfl,Y,rfl⟩:=zO h;exact g a Y
theorem QL{α:Type}{V:α->zb}{pre:α->Prop}{out:α->O}(a:α)(Y:Hp)(Z:Nat)(b:zC Y (V a)=some (V a,Y))(hi:∀x y,V x=V y->x=y)(h:pre a)(c:(out a).flat=true\/(V a).all O.noOwn=true):zh false [] (qd V pre out) (V a) Y Z=some (out a,Y,Z):=
 yI b (by
  have e:∀l:zb,yS [] l=l:=fun l=>by cases l<;>rfl
  rw[e];exact qD hi h) c
noncomputable def wD (C:Ctx) (fn:Func):AM.Spec:=fun args Y Z=>if args.length<=fn.ntmps then yR C fn args Y Z else none
theorem HB{C:Ctx}{pf:FuncId->Bool}{f:FuncId}{fn:Func}{code:Code}(b:kB dr C pf)(a:fK C pf f fn code):yY dr C.P f (wD C fn):=by
 refine⟨⟨fn,a.func,a.name,by rw[a.body];rfl⟩,?_⟩;intro args Y Z r Y' Z' h w S G vs hi c;unfold wD at h;split at h
 ·rename_i d;exact cD b.spec b.quiet b.box b.iter b.mixed a.func a.body a.ok h hi c d
 ·cases h
theorem kL{C:Ctx}{pf:FuncId->Bool}{f:FuncId}{fn:Func}(a:kB dr C pf)(h:C.P.funcs[f]?=some fn)(b:kOk pf C fn=true:=by kernel_rfl):yY dr C.P f (wD C fn):=let⟨_,k⟩:=qX h b;HB a k
end Go.AM
namespace Go.AM
open Go.RowKit Go.WideShapes Go.ChangeShapes
variable{dr:Prop}
section
variable{H:Type}{V:TypeId×Value->H}{P:Program}
theorem bW(g:laidOutB P=true){W i:World}(j:Below W.heap.size W i){sp:Nat->Bool}:∀{ts:List TypeId} {vs:List Value} {ds:List (DataW H)} {b:List MemPlace},(∀t∈ts,P.readableRec t=true/\t<P.types.size) ->
  DataW.TrodAll V P W 0 (fun _=>true) true ts vs ds b->(∀p∈b,p.block<W.heap.size)->(∀p∈b,sp p.block=true)->DataW.TrodAll V P i 0 sp true ts vs ds b
 |[],vs,ds,b,_,h,_,_=>by obtain⟨rfl,rfl,rfl⟩:=trodAll_nil h;exact trodAll_mk0
 |t::ts,vs,ds,b,f,h,c,e=>by
  obtain⟨v,k,d,l,p,q,rfl,rfl,rfl,m,n⟩:=trodAll_cons h;exact trodAll_cons_mk (WideElems.Trod_stays g (f t (by simp)).1 (f t (by simp)).2 m (fun x a=>j.same (c x (by simp[a]))) (fun x a=>e x (by simp[a])))
   (bW g j (fun u o=>f u (by simp[o])) n (fun x a=>c x (by simp[a])) (fun x a=>e x (by simp[a])))
theorem RD{f:Func}{s:ChangeSpec}{a h c i:Bool}{W l:World}{args:Array Value}{ds gs:List (DataW H)}{before:List MemPlace}(C:laidOutB P=true)(D:∀t∈f.params.toList,P.readableRec t=true/\t<P.types.size)
  (z:s.vars=[]) (u:DataW.Whole V P f.params.toList s.vars a W args.toList ds gs before) (j:s.fn H ds={results:=[.lit (.bool true)],args:=ds}) {tb:TypeId} (A:f.resultTypes=#[tb]) (m:P.underlying tb=some .bool) (v:Below W.heap.size W l) :
  s.post V P f a h c i W args (.bool true) l:=by
 have k:∀p∈before,p.block<W.heap.size:=fun p Y=>u.lt p Y
 have w:=u;obtain⟨p,q,E,B,n,F,G⟩:=u;rw[z]at B;obtain⟨rfl,rfl⟩:=trodVars_none B;simp only[ku]at n;subst n;have x:DataW.TrodAll V P W 0 (fun _=>true) true f.params.toList args.toList ds before:=E;have d:∀sp:Nat->Bool,(∀p∈before,sp p.block=true)->DataW.TrodAll V P l 0 sp true f.params.toList args.toList ds before:=fun sp y=>bW C v D x k y
 have o:∀p∈before,(fun b=>decide (b<W.heap.size)) p.block=true:=fun p Y=>by simpa using k p Y
 have g:∀(b:Nat) (sp:Nat->Bool) (hd:Bool),DataW.TrodAll V P l b sp hd f.resultTypes.toList ((Value.bool true).resultList f.resultTypes.size) [.lit (.bool true)] []:=fun b sp hd=>by rw[A];exact trodAll_cons_mk (shut_bool m _) trodAll_mk0
 have e:∀sp,DataW.TrodVars V P l sp s.vars [] []:=fun sp=>by rw[z];rfl
 refine⟨ds,[],before,[],before,[],by simpa using w,?_,?_,?_,World.keptBut_mono (fun p Y=>⟨Y,.inr (.inl Y)⟩) (v.frame (·∈before)),fun _=>?_⟩
 ·rw[ku,j];exact g _ _ _
 ·rw[ku,j];exact d _ o
 ·rw[ku,j];exact e _
 ·refine⟨ok_one A rfl (okWide_bool_mk m _),_,_,([]++before)++[],⟨[]++before,[],trodAll_append (d _ (fun _ _=>rfl)) (g _ _ _),e _,rfl,?_,?_⟩,?_⟩
  ·intro b off Y;have r:MemPlace.cell b off∈before:=by simpa using Y
   rw[v.frozen (k _ r)];exact F b off (by simpa using r)
  ·intro I;have:=G I;simpa using this
  ·intro p Y _;simpa using Y
end
end Go.AM
namespace Go.AM
variable{dr:Prop}
def gf:Op->Bool
 | .move _|.assign _|.pick _ _ _|.load _ _|.binOp _ _ _ _ _|.unOp _ _ _|.convert _ _ _|.fieldAddr _ _ _|.field _ _ _|.indexAddr _ _ _|.index _ _ _|.extract _ _=>true
 | .slice _ _ _ _ none=>true
 | .call c=>match c.callee with
  | .builtin .len=>true
  | .builtin .min=>true
  | .builtin .max=>true
  |_=>false
 |_=>false
def AR(C:Ctx)(st:St)(op:Op):Option O:=(qb C (get st.σ) st.Y st.Z op).map (·.1)
theorem XL{o:Option O}{Y:Hp}{Z:Nat}:(o.map fun y=>(y,Y,Z))=((o.map fun y=>(y,Y,Z)).map (·.1)).map fun x=>(x,Y,Z):=by cases o<;>rfl
theorem xu{o:Option O}{Y:Hp}{Z:Nat}:(o.bind fun y=>some (y,Y,Z))=((o.bind fun y=>some (y,Y,Z)).map (·.1)).map fun x=>(x,Y,Z):=by cases o<;>rfl
theorem Nl{C:Ctx}{st:St}{op:Op}(h:gf op=true):qb C (get st.σ) st.Y st.Z op=(AR C st op).map fun x=>(x,st.Y,st.Z):=by
 unfold AR;generalize get st.σ=ρ;cases op with
 |move x=>simp only[zaA];exact XL
 |assign x=>simp only[Nk];exact XL
 |pick c a b=>simp only[zaB];exact XL
 |load t a=>simp only[zaD];cases ρ a<;>(try rfl);exact xu
 |binOp op t x y j=>simp only[zed];cases ρ x<;>cases ρ y<;>(try rfl);exact xu
 |unOp op t x=>simp only[zgW];cases ρ x<;>(try rfl);exact xu
 |convert s d x=>simp only[zaC];cases ρ x<;>(try rfl);exact xu
 |fieldAddr t x f=>simp only[AK];cases ρ x<;>(try rfl);exact xu
 |field t x f=>simp only[Rw];cases ρ x<;>(try rfl);exact xu
 |indexAddr t x i=>simp only[AL];cases ρ x<;>cases ρ i<;>(try rfl);exact xu
 |index t x i=>simp only[Rx];cases ρ x<;>cases ρ i<;>(try rfl);exact xu
 |extract x i=>simp only[Hw];cases ρ x<;>(try rfl);exact xu
 |slice t x lo hi g=>
  cases g with
  |none=>simp only[Ry];cases ρ x<;>(try rfl);exact xu
  |some m=>simp[gf]at h
 |call c=>
  obtain⟨e,args,ts⟩:=c;cases e with
  |builtin b=>
   simp only[Hy];cases yH (args.toList.map ρ)with
   |none=>rfl
   |some xs=>
    simp only[Option.bind_eq_bind,qc];cases b<;>(try (simp[gf]at h;done))
    case len=>
     cases xs with
     |nil=>rfl
     |cons x l=>
      cases l with
      |nil=>simp only[zaI];cases ts[0]?<;>(try rfl);exact xu
      |cons _ _=>rfl
    case min=>simp only[zaJ];exact XL
    case max=>simp only[zaK];exact XL
  |_=>simp[gf]at h
 |_=>simp[gf]at h
def ki(C:Ctx)(g:FuncId):Prop:=∀a,C.Γ g=some a->WZ a
def v7(C:Ctx)(op:Op):Prop:=∀st:St,qb C (get st.σ) st.Y st.Z op=(AR C st op).map fun x=>(x,st.Y,st.Z)
theorem kc{C:Ctx}{op:Op}(h:gf op=true):v7 C op:=fun _=>Nl h
@[simp]theorem zjh(C:Ctx)(g:FuncId)(a:Array Operand)(ts:Array TypeId)(h:ki C g):v7 C (.call ⟨.value (.func g),a,ts⟩):=by
 intro st;unfold AR;simp only[zaG,Rv];cases yH (a.toList.map (get st.σ))with
 |none=>rfl
 |some xs=>
  simp only[Option.bind_eq_bind,qc];cases hs:C.Γ g with
  |none=>simp[kg,hs]
  |some b=>
   rw[Hz C st.Y st.Z g [] [] xs b hs];cases c:b ([]++xs++[]) st.Y st.Z with
   |none=>rfl
   |some r=>obtain⟨x,Y',Z'⟩:=r;obtain⟨⟨rfl,rfl⟩,_⟩:=h b hs _ _ _ _ _ _ c;rfl
theorem yL{P:Program}{l:Y7}{g:Nat}{a:AM.Spec}(h:lookup l g=some a)(b:WZ a):ki (zV P l) g:=fun s hs=>by
 have:lookup l g=some s:=hs;rw[h]at this;injection this with this
 exact this ▸ b
@[simp]theorem zji(C:Ctx)(x:Operand):v7 C (.move x):=kc rfl
@[simp]theorem zgi(C:Ctx)(x:Operand):v7 C (.assign x):=kc rfl
@[simp]theorem zjj(C:Ctx)(c a b:Operand):v7 C (.pick c a b):=kc rfl
@[simp]theorem zjk(C:Ctx)(t:TypeId)(x:Operand):v7 C (.load t x):=kc rfl
@[simp]theorem zjO(C:Ctx)(o:BinOp)(t a:TypeId)(x y:Operand):v7 C (.binOp o t x y a):=kc rfl
@[simp]theorem zkh(C:Ctx)(o:UnOp)(t:TypeId)(x:Operand):v7 C (.unOp o t x):=kc rfl
@[simp]theorem zjl(C:Ctx)(t u:TypeId)(x:Operand):v7 C (.convert t u x):=kc rfl
@[simp]theorem zki(C:Ctx)(t:TypeId)(x:Operand)(f:Nat):v7 C (.fieldAddr t x f):=kc rfl
@[simp]theorem zkj(C:Ctx)(t:TypeId)(x:Operand)(f:Nat):v7 C (.field t x f):=kc rfl
@[simp]theorem zkk(C:Ctx)(t:TypeId)(x i:Operand):v7 C (.indexAddr t x i):=kc rfl
@[simp]theorem zkl(C:Ctx)(t:TypeId)(x i:Operand):v7 C (.index t x i):=kc rfl
@[simp]theorem zkm(C:Ctx)(x:Operand)(i:Nat):v7 C (.extract x i):=kc rfl
@[simp]theorem zkn(C:Ctx)(t:TypeId)(x:Operand)(lo hi:Option Operand):v7 C (.slice t x lo hi none):=kc rfl
@[simp]theorem zjP(C:Ctx)(a:Array Operand)(ts:Array TypeId):v7 C (.call ⟨.builtin .len,a,ts⟩):=kc rfl
@[simp]theorem zjQ(C:Ctx)(a:Array Operand)(ts:Array TypeId):v7 C (.call ⟨.builtin .min,a,ts⟩):=kc rfl
@[simp]theorem zjR(C:Ctx)(a:Array Operand)(ts:Array TypeId):v7 C (.call ⟨.builtin .max,a,ts⟩):=kc rfl
def bc{α:Type}(y:Bool)(a b:α):α:=match y with
 |true=>a
 |false=>b
@[simp]theorem zjm{α:Type}(a b:α):bc true a b=a:=rfl
@[simp]theorem zhg{α:Type}(a b:α):bc false a b=b:=rfl
@[simp]theorem zjS{α:Type}(y:Bool)(a b:α):bc (!y) a b=bc y b a:=by cases y<;>rfl
@[simp]theorem zjn{α:Type}(y:Bool)(a:α):bc y a a=a:=by cases y<;>rfl
def bx(y:Bool):Bool:=y
@[simp]theorem zjo:bx true=true:=rfl
@[simp]theorem zhh:bx false=false:=rfl
@[simp]theorem zjT{α:Type}(y:Bool)(a b c:α):bc y (bc y a b) c=bc y a c:=by cases y<;>rfl
@[simp]theorem zjU{α:Type}(y:Bool)(a b c:α):bc y a (bc y b c)=bc y a c:=by cases y<;>rfl
def sk(C:Ctx)(st:St)(op:Op)(y:Option Bool)(b:Bool):Option O:=if y=some b then AR C st op else some (.w5 [])
section
variable(C:Ctx)(d:Option Tmp)(op:Op)(st:St)
theorem nW(y:Option Bool)(b:Bool)(h:v7 C op):ZT C d op st y b=(sk C st op y b).map fun x=>⟨put st.σ d x,st.Y,st.Z⟩:=by
 unfold ZT sk;rw[h st];split
 ·cases AR C st op<;>rfl
 ·rfl
@[simp low] theorem zen(y b:Bool)(h:v7 C op):ZT C d op st (some y) b=(sk C st op (some y) b).map fun x=>⟨put st.σ d x,st.Y,st.Z⟩:=nW C d op st _ b h
@[simp]theorem zhi(y:Bool)(p q:Option Bool)(b:Bool)(h:v7 C op):ZT C d op st (bc y p q) b=(sk C st op (bc y p q) b).map fun x=>⟨put st.σ d x,st.Y,st.Z⟩:=nW C d op st _ b h
@[simp]theorem zjp(y:Bool)(p q:Option Bool)(b:Bool):sk C st op (bc y p q) b=bc y (sk C st op p b) (sk C st op q b):=by cases y<;>rfl
@[simp]theorem zgj(b:Bool):sk C st op none b=some (.w5 []):=rfl
@[simp]theorem zjV(y:Bool):sk C st op (some y) true=bc (bx y) (AR C st op) (some (.w5 [])):=by cases y<;>rfl
@[simp]theorem zjW(y:Bool):sk C st op (some y) false=bc (bx y) (some (.w5 [])) (AR C st op):=by cases y<;>rfl
end
@[simp]theorem zgk(y:Bool)(a b:O):XK (bc y a b)=bc y (XK a) (XK b):=by cases y<;>rfl
@[simp]theorem zjq{α:Type}(y:Bool)(a b:α):bc y (some a) (some b)=some (bc y a b):=by cases y<;>rfl
@[simp]theorem zhj(y z:Bool)(w:O):Jm (some (.v (.bool y))) (some (bc (bx y) (.v (.bool z)) w)) (some (.v (.bool false)))=some (.v (.bool (y&&z))):=by cases y<;>rfl
@[simp]theorem zjr(y z:Bool)(w:O):Jm (some (.v (.bool y))) (some (.v (.bool true))) (some (bc (bx y) w (.v (.bool z))))=some (.v (.bool (y||z))):=by cases y<;>rfl
@[simp]theorem zhk{α:Type}(y c:Bool)(a b d0 d:α):bc y (bc c (bc y a b) d) d0=bc y (bc c a d) d0:=by cases y<;>rfl
@[simp]theorem zhl{α:Type}(y c:Bool)(a b d0 d:α):bc y (bc c d (bc y a b)) d0=bc y (bc c d a) d0:=by cases y<;>rfl
@[simp]theorem zhm{α:Type}(y c:Bool)(a b d e:α):bc y d (bc c (bc y a b) e)=bc y d (bc c b e):=by cases y<;>rfl
@[simp]theorem zhn{α:Type}(y c:Bool)(a b d e:α):bc y d (bc c e (bc y a b))=bc y d (bc c e b):=by cases y<;>rfl
@[simp]theorem zho{α:Type}(y c d:Bool)(a b d0 e f:α):bc y (bc c (bc d (bc y a b) f) e) d0=bc y (bc c (bc d a f) e) d0:=by cases y<;>rfl
@[simp]theorem zhp{α:Type}(y c d:Bool)(a b d0 e f:α):bc y (bc c (bc d f (bc y a b)) e) d0=bc y (bc c (bc d f a) e) d0:=by cases y<;>rfl
@[simp]theorem zhq{α:Type}(y c d:Bool)(a b d0 e f:α):bc y (bc c e (bc d (bc y a b) f)) d0=bc y (bc c e (bc d a f)) d0:=by cases y<;>rfl
@[simp]theorem zhr{α:Type}(y c d:Bool)(a b d0 e f:α):bc y (bc c e (bc d f (bc y a b))) d0=bc y (bc c e (bc d f a)) d0:=by cases y<;>rfl
@[simp]theorem zhs{α:Type}(y c d:Bool)(a b e f g:α):bc y e (bc c (bc d (bc y a b) g) f)=bc y e (bc c (bc d b g) f):=by cases y<;>rfl
@[simp]theorem zgl{α:Type}(y c d:Bool)(a b e f g:α):bc y e (bc c (bc d g (bc y a b)) f)=bc y e (bc c (bc d g b) f):=by cases y<;>rfl
@[simp]theorem zgm{α:Type}(y c d:Bool)(a b e f g:α):bc y e (bc c f (bc d (bc y a b) g))=bc y e (bc c f (bc d b g)):=by cases y<;>rfl
@[simp]theorem zgn{α:Type}(y c d:Bool)(a b e f g:α):bc y e (bc c f (bc d g (bc y a b)))=bc y e (bc c f (bc d g b)):=by cases y<;>rfl
section
variable(P:Program)(C:Ctx)(Y:Hp)(Z:Nat)(t u:TypeId)(y:Bool)(a b:O)
@[simp]theorem zjs:Ze P Y t (bc y a b)=bc y (Ze P Y t a) (Ze P Y t b):=by cases y<;>rfl
@[simp]theorem zjt(o:BinOp)(x:O):Qi P o t (bc y a b) x=bc y (Qi P o t a x) (Qi P o t b x):=by cases y<;>rfl
@[simp]theorem zju(o:BinOp)(x:O):Qi P o t x (bc y a b)=bc y (Qi P o t x a) (Qi P o t x b):=by cases y<;>rfl
@[simp]theorem zht(c:Bool)(o:BinOp)(x:O):Xy c P o t (bc y a b) x=bc y (Xy c P o t a x) (Xy c P o t b x):=by cases y<;>rfl
@[simp]theorem zhu(c:Bool)(o:BinOp)(x:O):Xy c P o t x (bc y a b)=bc y (Xy c P o t x a) (Xy c P o t x b):=by cases y<;>rfl
@[simp]theorem zko(o:UnOp):ga o (bc y a b)=bc y (ga o a) (ga o b):=by cases y<;>rfl
@[simp]theorem zjv:bQ P t u (bc y a b)=bc y (bQ P t u a) (bQ P t u b):=by cases y<;>rfl
@[simp]theorem zaR(f:Nat):jv P t f (bc y a b)=bc y (jv P t f a) (jv P t f b):=by cases y<;>rfl
@[simp]theorem zdk(f:Nat):Qw P t f (bc y a b)=bc y (Qw P t f a) (Qw P t f b):=by cases y<;>rfl
@[simp]theorem zaq(x:O):qW P Y t (bc y a b) x=bc y (qW P Y t a x) (qW P Y t b x):=by cases y<;>rfl
@[simp]theorem zar(x:O):qW P Y t x (bc y a b)=bc y (qW P Y t x a) (qW P Y t x b):=by cases y<;>rfl
@[simp]theorem zgo(x:O):Wo P t (bc y a b) x=bc y (Wo P t a x) (Wo P t b x):=by cases y<;>rfl
@[simp]theorem zgp(x:O):Wo P t x (bc y a b)=bc y (Wo P t x a) (Wo P t x b):=by cases y<;>rfl
@[simp]theorem zjX:Vi P t (bc y a b)=bc y (Vi P t a) (Vi P t b):=by cases y<;>rfl
@[simp]theorem zgq(lo hi:Option (Option O)):jO P Y t (bc y a b) lo hi=bc y (jO P Y t a lo hi) (jO P Y t b lo hi):=by cases y<;>rfl
@[simp]theorem zgr(x:O)(hi:Option (Option O)):jO P Y t x (some (some (bc y a b))) hi=bc y (jO P Y t x (some (some a)) hi) (jO P Y t x (some (some b)) hi):=by cases y<;>rfl
@[simp]theorem zgs(x:O)(lo:Option (Option O)):jO P Y t x lo (some (some (bc y a b)))=bc y (jO P Y t x lo (some (some a))) (jO P Y t x lo (some (some b))):=by cases y<;>rfl
@[simp]theorem zeo(i:Nat):KF i (bc y a b)=bc y (KF i a) (KF i b):=by cases y<;>rfl
@[simp]theorem zhv(p q:Option O):Jm (some (bc y a b)) p q=bc y (Jm (some a) p q) (Jm (some b) p q):=by cases y<;>rfl
@[simp low] theorem zhw(p q:Option O):Jm p (some (bc y a b)) q=bc y (Jm p (some a) q) (Jm p (some b) q):=by cases y<;>rfl
@[simp low] theorem zhx(p q:Option O):Jm p q (some (bc y a b))=bc y (Jm p q (some a)) (Jm p q (some b)):=by cases y<;>rfl
@[simp]theorem zhy(c:Bool)(d:List Nat)(F:zb->Option O)(l:zb):zh c d F (bc y a b::l) Y Z=bc y (zh c d F (a::l) Y Z) (zh c d F (b::l) Y Z):=by cases y<;>rfl
@[simp]theorem zhz(c:Bool)(d:List Nat)(F:zb->Option O)(x:O)(l:zb):zh c d F (x::bc y a b::l) Y Z=bc y (zh c d F (x::a::l) Y Z) (zh c d F (x::b::l) Y Z):=by cases y<;>rfl
@[simp]theorem zhA(c:Bool)(d:List Nat)(F:zb->Option O)(x z:O)(l:zb):zh c d F (x::z::bc y a b::l) Y Z=bc y (zh c d F (x::z::a::l) Y Z) (zh c d F (x::z::b::l) Y Z):=by cases y<;>rfl
end
@[simp]theorem zjY{α c:Type}(y:Bool)(f:α->c)(a b:Option α):(bc y a b).map f=bc y (a.map f) (b.map f):=by cases y<;>rfl
@[simp]theorem zjw{α c:Type}(y:Bool)(f:α->Option c)(a b:Option α):(bc y a b).bind f=bc y (a.bind f) (b.bind f):=by cases y<;>rfl
attribute [simp] AR
variable{dr:Prop}
def DI(k:Nat)(D:List (Tmp×Tmp))(i:Nat):List (Tmp×Tmp):=if i=k then D else[]
@[simp]theorem zep(P:Program)(l:Y7)(k:Nat)(D:List (Tmp×Tmp))(i:Nat):(Vs P l (DI k D)).dyn i=if i=k then D else[]:=rfl
@[simp]theorem RE(P:Program)(l:Y7)(k:Nat)(D:List (Tmp×Tmp))(i:Nat)(a:Array Oper)(d:Bool)(st:St)(K:Exit->St->Prop)(h:¬i=k):ZX (Vs P l (DI k D)) (.region i a d) st K=tL (Vs P l (DI k D)) a a.toList st (Wf K):=Jk _ i a d st K (by simp[h]) rfl
theorem nX{a b:Tmp}{st:St}{id i j id' i' j':Nat}{blk:Blk}(d:st.σ a=.ref id i j)(e:st.σ b=.ref id' i' j')(f:id≠id')(g:st.Y id'=some blk)(h:blk.arr=false):Yr [(a,b)] st:=by
 intro p Y;obtain rfl:=wG.1 Y;intro k l m c;rw[d]at c;injection c with c _ _
 subst c;exact⟨id',i',j',blk,e,f,g,h⟩
theorem nY{w:World}{S:Nat->Prop}{G:Nat->GI}{Z:Nat}:∀{us vs:List Value},(∀u∈us,lit u=true)->Zip (qw w S G Z) (us.map O.v) vs->vs=us
 |[],vs,_,h=>by have:=h.1;simp at this;exact qo.1 this.symm
 |u::us,vs,a,h=>by
  obtain⟨v,b,rfl,d,e⟩:=h.y9;rw[nY (fun x f=>a x (by simp[f])) e];congr 1;cases d with
  |c g=>exact g.yi.1
theorem AU{P:Program}{g:FuncId}{F:zb->Option O}(j:∃fn,P.funcs[g]?=some fn/\(fn.name== "runtime.NumGoroutine")=false/\fn.body.isNone=false)
  (h:∀args r,F args=some r->∃us:List Value,args=us.map O.v/\(∀u∈us,lit u=true)/\∃v,r=.v v/\lit v=true/\∀w,Calls P g us.toArray w fun e w'=>e=.returned v/\w'=w):yY dr P g (zh false [] F):=by
 refine⟨j,?_⟩;intro args Y Z r Y' Z' hs w S G vs hi p;unfold zh at hs;split at hs
 ·rename_i k Y1 m;split at hs
  ·rename_i E q;obtain⟨us,e,s,v,rfl,t,z⟩:=h _ _ q;have A:yS [] k=k:=by cases k<;>rfl
   rw[A]at e;subst e;have d:args=us.map O.v:=by
    have n:∀(args:zb) (us:List Value) (Y1:Hp),zC Y args=some (us.map O.v,Y1)->args=us.map O.v:=by
     intro args
     induction args with
     |nil=>intro us Y1 b;simp only[zC]at b;injection b with b;injection b with b _
     |cons x l B=>
      intro us Y1 b;simp only[zC]at b;split at b
      ·rename_i y Y2 a;split at b
       ·rename_i H hp3 o;injection b with b
        injection b with b _;cases us with
        |nil=>simp at b
        |cons u us=>
         simp only[z6,zj]at b;obtain⟨rfl,rfl⟩:=b;have C:x=.v u/\Y2=Y:=by
          unfold qt at a;split at a
          ·split at a
           ·injection a with a;injection a with a _;cases a
           ·cases a
          ·unfold wI at a;split at a<;>first
            |(split at a<;>first|(split at a<;>first|(injection a with a;injection a with a _;cases a;done)|cases a)|cases a)
            |(injection a with a;injection a with i f;first|(exact⟨by rw[<-i],f.symm⟩)|cases i)
            |cases a
         obtain⟨rfl,rfl⟩:=C;rw[B us hp3 o];rfl
       ·cases b
      ·cases b
    exact n args us Y1 m
   subst d;simp only[O.flat,true_or,qV]at hs;injection hs with hs
   injection hs with i f;injection f with f D;subst i;subst f;subst D;rw[nY s p];refine(z w).mono fun e w' b=>?_
   obtain⟨rfl,rfl⟩:=b;exact⟨v,S,G,rfl,kW.refl hi,.c (.v t)⟩
  ·cases hs
 ·cases hs
theorem XM:∀(l cs:zb) (off:Nat),off+l.length<=cs.length->js cs off l=cs.take off++l++cs.drop (off+l.length)
 |[],cs,off,_=>by simp
 |x::l,cs,off,h=>by
  simp only[zx]at h;rw[js,XM l (cs.set off x) (off+1) (by simp;omega)];have b:(cs.set off x).take (off+1)=cs.take off++[x]:=by
   rw[zQ (by simp;omega)];have c:(cs.set off x).take off=cs.take off:=by
    apply List.ext_getElem?;intro j;simp only[qI,List.getElem?_set];by_cases a:j<off
    ·simp[a,show¬off=j by omega]
    ·simp[a]
   rw[c];simp
  have d:(cs.set off x).drop (off+1+l.length)=cs.drop (off+(x::l).length):=by rw[List.drop_set_of_lt (by omega)];simp only[zx];congr 1;omega
  rw[b,d];simp
@[simp]theorem RF(z cs:zb)(h:cs.length=z.length):js z 0 cs=cs:=by rw[XM cs z 0 (by omega)];simp[h]
@[simp]theorem zas(x:O)(z cs:zb)(h:cs.length=z.length):js (x::z) 1 cs=x::cs:=by rw[XM cs (x::z) 1 (by simp;omega)];simp[show 1+cs.length=z.length+1 by omega]
@[simp]theorem zac(σ:Nat->O):AM.get σ (.const .nilIface)=some (.v .nilIface):=rfl
section
variable(C:Ctx)(ρ:Operand->Option O)(Y:Hp)(Z:Nat)
def HC:O->Option O
 | .ref id i j=>some (.ref id i j)
 | .ptr cs=>some (.ptr cs)
 |_=>none
@[simp]theorem zeq(id i j:Nat):HC (.ref id i j)=some (.ref id i j):=rfl
@[simp]theorem zer(cs:zb):HC (.ptr cs)=some (.ptr cs):=rfl
@[simp]theorem zdl(x:Operand):qb C ρ Y Z (.nilCheck x)=(do let p <-ρ x;let r <-HC p;some (r,Y,Z)):=by
 simp only[qb];cases ρ x with
 |none=>rfl
 |some p=>cases p<;>rfl
end
theorem RG{α:Type}(f:Nat->α)(k:Nat)(x:α)(h:f k=x):qq f k x=f:=by
 funext i;by_cases e:i=k
 ·subst e;simp[h]
 ·simp[e]
@[simp]theorem zhB(i:Nat):O.cells (.mp i)=[.mp i]:=rfl
@[simp]theorem zgt(i:Nat):O.yk (.mp i)=true:=rfl
variable{dr:Prop}
section
variable{C:Ctx}{pf:FuncId->Bool}{f:FuncId}{fn:Func}{code:Code}
theorem AV(hg:kB dr C pf)(s:fK C pf f fn code)(k:Bool)(ns:List Nat)(F:zb->Option O)
  (hF:∀args r,F args=some r->∀(w:World) (S:Nat->Prop) (vs:List Value),Zip (ya w S) args vs->∃a t,Zip (ya w S) a vs/\a.length<=fn.ntmps/\zv C fn a=some t/\∀(w:World) (S:Nat->Prop) (u:Value),ya w S t u->ya w S r u):yY dr C.P f (zh k ns F):=by
 refine⟨⟨fn,s.func,s.name,by rw[s.body];rfl⟩,?_⟩;intro args Y Z r Y' Z' h w S G vs hi hz;unfold zh at h;split at h
 ·rename_i aZ Y1 z;split at h
  ·rename_i t A;obtain⟨X,y,B,D⟩:=jJ (dr:=dr) hi z hz;obtain⟨a,rr,E,hn,d,H⟩:=hF _ t A w X vs (W4 B);unfold zv at d;split at d
   ·rename_i x hpe nxe I;obtain⟨⟨r1,hpf1⟩,J,l⟩:=z7 d;simp only at l;subst l;refine(Qk hg s I hn y.inv.st y.inv.fS E).mono fun e w' hh=>?_
    obtain⟨v,S',G',he,fr,m,hx,hs0,K,_⟩:=hh;obtain⟨S2,k2,L⟩:=YQ (dr:=dr) m J hx;have M:=H _ _ _ L;have n:∀b,S2 b->X b\/(w.heap.size<=b/\b<w'.heap.size):=by
     intro b j;have o:=k2.inv.st b j;rcases k2.from_ b j with h1|⟨id,blk,h1,rfl⟩|h1
     ·rcases K b h1 with N|N
      ·exact .inl N
      ·exact .inr ⟨N,o⟩
     ·rcases Nat.lt_or_ge (G' id).g w.heap.size with h3|h3
      ·rename_i p;have:=p id blk h1;omega
      ·exact .inr ⟨h3,o⟩
     ·exact absurd h1 (by omega)
    split at h
    ·rename_i i;injection h with h
     injection h with Q h;injection h with R T;subst Q;subst R;subst T;refine⟨v,_,G,he,kW.outer hi fr,.c ?_⟩;rcases i with U|W
     ·exact nQ M U
     ·have q:=D W;exact M.mono fun b j=>⟨by rw[<-q];exact n b j,rfl⟩
    ·split at h
     ·injection h with h;injection h with Q h;injection h with R T;subst Q;subst R;subst T;exact⟨v,_,G,he,y.trans (kW.outer y.inv fr),.c (M.mono fun b j=>⟨n b j,rfl⟩)⟩
     ·cases h
   ·cases d
  ·cases h
 ·cases h
inductive iD (s:Nat):List (List O)->O->Prop
 |nil:iD s [] .nil
 |em:iD s [] .em
 |sl {c:List O} {es:List (List O)}:iD s (c::es) (.sl s (c::es))
theorem DJ{w:World}{S:Nat->Prop}{s:Nat}{es:List zb}{u:Value}(h:ya w S (.sl s es) u):∃y,iD s es y/\ya w S y u:=by
 cases es with
 |cons c es=>exact⟨_,.sl,h⟩
 |nil=>
  cases h with
  |sl us a d b e f g=>
   rename_i A cap;cases A with
   |none=>have:=a rfl;subst this;exact⟨.nil,.nil,.nil⟩
   |some ad=>exact⟨.em,.em,.em b⟩
theorem XN{w:World}{S:Nat->Prop}{s:Nat}{es:List zb}{y:O}{u:Value}(h:iD s es y)(a:ya w S y u):ya w S (.sl s es) u:=by
 cases h with
 |nil=>cases a;exact .sl (es:=[]) (fun _ _=>undef) (by simp) (by simp) (by simp[maxLen]) (by simp) (by simp) (by simp)
 |em=>
  cases a with
  |em b=>exact .sl (es:=[]) (fun _ _=>undef) (by simp) (by simp) b (by simp) (by simp) (by simp)
 |sl=>exact a
theorem iT{w:World}{S:Nat->Prop}{cs:zb}{u:Value}(h:ya w S (.agg cs) u){j s:Nat}{es:List zb}(c:cs[j]?=some (.sl s es)):∃y,iD s es y/\ya w S (.agg (cs.set j y)) u:=by
 cases h with
 |agg f d=>
  rename_i us;have g:j<cs.length:=(zk.1 c).1;obtain⟨y,i,l⟩:=DJ (d j _ us[j] c (by simp));refine⟨y,i,.agg (by simpa using f) fun k m u a b=>?_⟩;rw[List.getElem?_set]at a;split at a
  ·rename_i e;subst e;injection a with a
   subst a;rw[jC (by omega)]at b;injection b with b
   subst b;exact l
  ·exact d k m u a b
section
variable{P:Program}{Y:Hp}{Z:Nat}{t:TypeId}{s e:Nat}{es:List zb}{y:O}
theorem iD.cell(h:iD s es y):y.yk=true:=by cases h<;>rfl
end
theorem qN.more{Y:Hp}{Z e s:Nat}{v:O}{xs:List zb}(h:qN Y Z e s v xs)(b:Option Blk):qN (qq Y Z b) (Z+1) e s v xs:=by
 rcases h with⟨rfl,rfl⟩|⟨id,c,rfl,a⟩
 ·exact .inl ⟨rfl,rfl⟩
 ·exact .inr ⟨id,by omega,rfl,by rw[zz _ _ _ _ (by omega)];exact a⟩
theorem W6(g:kB dr C pf)(c:Vx C pf f fn)(b:Bool)(d:List Nat)(F:zb->Option O)
  (h:∀args r,F args=some r->∀(w:World) (S:Nat->Prop) (vs:List Value),Zip (ya w S) args vs->∃a e,Zip (ya w S) a vs/\a.length<=fn.ntmps/\zv C fn a=some e/\∀(w:World) (S:Nat->Prop) (u:Value),ya w S e u->ya w S r u):yY dr C.P f (zh b d F):=
 let⟨_,c⟩:=c
 AV g c b d F h
end
variable{dr:Prop}
def Yv(P:Program)(l:Y7)(k:Nat)(L:List Tmp)(b:List Nat):Ctx:=⟨P,lookup l,fun _=>[],fun i=>if i=k then L else[],fun g=>b.contains g,fun _=>[],fun _=>none⟩
@[simp]theorem zhC(P:Program)(l:Y7)(k:Nat)(L:List Tmp)(b:List Nat):(Yv P l k L b).P=P:=rfl
@[simp]theorem zhD(P:Program)(l:Y7)(k:Nat)(L:List Tmp)(b:List Nat)(Y:Hp)(Z g:Nat)(x y xs:zb):kg (Yv P l k L b) Y Z (some (.fn (.func g) x y)) xs=(lookup l g).bind fun s=>s (x++xs++y) Y Z:=by unfold kg Yv;simp only;cases lookup l g<;>rfl
@[simp]theorem RH(P:Program)(l:Y7)(k:Nat)(L:List Tmp)(b:List Nat)(i:Nat)(a:Array Oper)(d:Bool)(st:St)(K:Exit->St->Prop)(h:¬i=k):ZX (Yv P l k L b) (.region i a d) st K=tL (Yv P l k L b) a a.toList st (Wf K):=
 Jk _ i a d st K rfl (by simp[Yv,h])
theorem Xg{P:Program}{l:Y7}{k:Nat}{L:List Tmp}{b:List Nat}{a:Array Oper}{d:Bool}{st:St}{K:Exit->St->Prop}(h:QH L st):ZX (Yv P l k L b) (.region k a d) st K=tL (Yv P l k L b) a a.toList st (Wf K):=
 W0 _ k a d st K (fun _ h=>by cases h) (by simpa[Yv]using h)
def HD(P:Program)(l:Y7)(k:Nat)(t:Tmp):Ctx:=⟨P,lookup l,fun _=>[],fun _=>[],fun _=>false,fun i=>if i=k then[t]else[],fun _=>none⟩
@[simp]theorem zhE(P:Program)(l:Y7)(k:Nat)(t:Tmp):(HD P l k t).P=P:=rfl
@[simp]theorem zhF(P:Program)(l:Y7)(k:Nat)(t:Tmp)(Y:Hp)(Z g:Nat)(x y xs:zb):kg (HD P l k t) Y Z (some (.fn (.func g) x y)) xs=(lookup l g).bind fun s=>s (x++xs++y) Y Z:=by unfold kg HD;simp only;cases lookup l g<;>rfl
def gg(b:List Nat):Y7->Prop
 |[]=>True
 |(g,s)::l=>(b.contains g=true->WM s)/\gg b l
theorem nZ{P:Program}{l:Y7}{q:List Nat}{k:Nat}{L:List Tmp}{b:List Nat}(d:P.follows .mixedOrders=true)(h:sj dr P q l)(f:gg b l):kB dr (Yv P l k L b) (fun g=>q.contains g):=by
 let g:=qC d h;refine⟨g.spec,g.quiet,g.mixed,?_,fun _ _ h=>by cases h⟩;have c:∀l:Y7,gg b l->∀g s,b.contains g=true->lookup l g=some s->WM s:=by
  intro l
  induction l with
  |nil=>intro _ g s _ h;cases h
  |cons x l i=>
   obtain⟨k,sp⟩:=x;rintro⟨j,m⟩ g s a hs;simp only[iR]at hs;split at hs
   ·rename_i e;injection hs with hs
    subst hs;subst e;exact j a
   ·exact i m g s a hs
 exact fun g s a hs=>c l f g s a hs
theorem XO:∀{xs ys:zb} {Y Y1:Hp},zC Y xs=some (ys,Y1)->∀{id:Nat} {b:Blk},Y id=some b->b.arr=false->Y1 id=some b
 |[],ys,Y,Y1,h,id,b,a,c=>by simp only[zC]at h;injection h with h;injection h with _ h;subst h;exact a
 |x::l,ys,Y,Y1,h,id,b,a,c=>by
  simp only[zC]at h;split at h
  ·rename_i y Y2 d;split at h
   ·rename_i r hp3 e;injection h with h;injection h with _ h;subst h
    exact XO e (Kh d a c) c
   ·cases h
  ·cases h
def wL(a r:O):Prop:=∀(w:World) (S:Nat->Prop) (u:Value),ya w S a u->ya w S r u
def zhG(r:O)(x:O)(Y:Hp)(_:Nat):Prop:=∃a,(AM.freeze Y x).map (·.1)=some a/\wL a r
theorem dT{C:Ctx}{fn:Func}{code:Code}{args:zb}{r:O}(b:fn.body=some code)
  (h:ZX C code ⟨vn args,fun _=>none,0⟩ (Vq C.P fn (zhG r))):∃a,zv C fn args=some a/\wL a r:=by
 obtain⟨x,Y',Z',c,a,d,e⟩:=qF b h;exact⟨a,by unfold zv;simp only[c];exact d,e⟩
theorem AW{w:World}{S:Nat->Prop}{s:Nat}{xs:List zb}{y:O}{u:Value}(h:y=.nil/\xs=[]\/y=.sl s xs)(a:ya w S y u):ya w S (.sl s xs) u:=by
 rcases h with⟨rfl,rfl⟩|rfl
 ·exact XN .nil a
 ·exact a
theorem wL.refl(x:O):wL x x:=fun _ _ _ h=>h
theorem wL.Gw{s:Nat}{xs:List zb}{y:O}(h:y=.nil/\xs=[]\/y=.sl s xs):wL y (.sl s xs):=fun _ _ _ a=>AW h a
inductive xr:List O->List O->Prop
 |nil:xr [] []
 |cons {x y:O} {xs ys:List O}:wL x y->xr xs ys->xr (x::xs) (y::ys)
theorem xr.length{xs ys:zb}(h:xr xs ys):xs.length=ys.length:=by
 induction h with
 |nil=>rfl
 |cons _ _ a=>simp[a]
theorem xr.get{xs ys:zb}(h:xr xs ys):∀{j:Nat} {x y:O},xs[j]?=some x->ys[j]?=some y->wL x y:=by
 induction h with
 |nil=>intro j x y h;cases h
 |cons c _ d=>
  intro j x y a b;cases j with
  |zero=>simp at a b;subst a;subst b;exact c
  |succ j=>exact d (by simpa using a) (by simpa using b)
theorem xr.agg{xs ys:zb}(h:xr xs ys):wL (.agg xs) (.agg ys):=by
 intro w S u c;cases c with
 |agg d e=>
  refine .agg (by rw[<-h.length];exact d) fun j g u b f=>?_
  have a:j<xs.length:=by rw[h.length];exact(zk.1 b).1
  exact h.get (zq a) b _ _ _ (e j _ u (zq a) f)
theorem xr.w5{xs ys:zb}(h:xr xs ys):wL (.w5 xs) (.w5 ys):=by
 intro w S u c;cases c with
 |w5 d e=>
  refine .w5 (by rw[<-h.length];exact d) fun j g u b f=>?_
  have a:j<xs.length:=by rw[h.length];exact(zk.1 b).1
  exact h.get (zq a) b _ _ _ (e j _ u (zq a) f)
theorem qN.at_{Y:Hp}{Z e s:Nat}{v:O}{xs:List zb}(h:qN Y Z e s v xs)(a:0<xs.length):∃id,id<Z/\v=.own id 0 xs.length/\Y id=some ⟨e,s,true,xs⟩:=by
 rcases h with⟨rfl,rfl⟩|h
 ·simp at a
 ·exact h
def Nn(Q:St->Prop)(K:Exit->St->Prop)(e:Exit)(st:St):Prop:=match e with
 | .normal=>Q st
 |e=>K e st
@[simp]theorem zjZ(Q:St->Prop)(K:Exit->St->Prop)(st:St):Nn Q K .normal st=Q st:=rfl
@[simp]theorem zj0(Q:St->Prop)(K:Exit->St->Prop)(st:St):Nn Q K .ret st=K .ret st:=rfl
@[simp]theorem zj1(Q:St->Prop)(K:Exit->St->Prop)(i:Nat)(st:St):Nn Q K (.exit i) st=K (.exit i) st:=rfl
theorem y1{C:Ctx}{a b:Code}{st:St}{K:Exit->St->Prop}(Q:St->Prop)(d:ZX C a st (Nn Q K))(f:∀st,Q st->ZX C b st K):ZX C (.seq a b) st K:=by
 rw[LG];refine d.mono fun e st c=>?_
 cases e
 case normal=>exact f _ c
 all_goals exact c
theorem Zs{C:Ctx}{a b:Code}{st:St}{K:Exit->St->Prop}(Q:(Nat->O)->Hp->Nat->Prop)(c:ZX C a st (Nn (fun st=>Q st.σ st.Y st.Z) K))(d:∀σ Y Z,Q σ Y Z->ZX C b ⟨σ,Y,Z⟩ K):ZX C (.seq a b) st K:=
 y1 _ c fun st h=>d st.σ st.Y st.Z h
variable{dr:Prop}
section
variable{C:Ctx}{pf:FuncId->Bool}{N:Nat}
@[simp]theorem kM(y:Code)(K:Exit->St->Prop)(st:St):LK dr C N y K .normal st=Wp dr C N y st K:=rfl
@[simp]theorem zjx(y:Code)(K:Exit->St->Prop)(st:St):LK dr C N y K .ret st=K .ret st:=rfl
@[simp]theorem zjy(y:Code)(K:Exit->St->Prop)(i:Nat)(st:St):LK dr C N y K (.exit i) st=K (.exit i) st:=rfl
@[simp]theorem zhH(I:Nat->St->Prop)(n:Nat)(K:Exit->St->Prop)(st:St):AP I n K .normal st=∃m,m<n/\I m st:=rfl
@[simp]theorem zhI(I:Nat->St->Prop)(n:Nat)(K:Exit->St->Prop)(st:St):AP I n K .ret st=K .ret st:=rfl
@[simp]theorem zhJ(I:Nat->St->Prop)(n i:Nat)(K:Exit->St->Prop)(st:St):AP I n K (.exit i) st=K (.exit i) st:=rfl
theorem Wp.cut(f:kB dr C pf){a b:Code}{st:St}{K:Exit->St->Prop}(Q:(Nat->O)->Hp->Nat->Prop)(g:ZX C a st (Nn (fun st=>Q st.σ st.Y st.Z) K))(h:∀σ Y Z,Q σ Y Z->Wp dr C N b ⟨σ,Y,Z⟩ K)(c:xt pf C.dyn C.PJ C.bk N a=true:=by kernel_rfl):Wp dr C N (.seq a b) st K:=
 Wp.seq ((Wp.of f g c).mono fun e i d=>by
  cases e<;>first
   |exact h _ _ _ d
   |exact d)
theorem Wp.any{c:Code}{st:St}{K:Exit->St->Prop}(Q:(Nat->O)->Hp->Nat->Prop)(a:Q st.σ st.Y st.Z)(h:∀σ Y Z,Q σ Y Z->Wp dr C N c ⟨σ,Y,Z⟩ K):Wp dr C N c st K:=h _ _ _ a
theorem tQ{a:Array Oper}{K:St->Prop}(f:kB dr C pf):∀{l:List Nat} {b:List Oper} {l2:List Nat} {st st1:St},l.map (fun i=>a[i]?)=b.map some->(∀o∈b,∀d,o.dst=some d->d<N)->xS C a b st=some st1->Wa dr C N a l2 st1 K->Wa dr C N a (l++l2) st K
 |[],[],l2,st,st1,_,_,h,c=>by simp only[xS]at h;injection h with h;subst h;exact c
 |[],_::_,_,_,_,h,_,_,_=>by simp at h
 |_::_,[],_,_,_,h,_,_,_=>by simp at h
 |i::l,o::b,l2,st,st1,e,hd,h,c=>by
  simp only[z6,zj]at e;simp only[xS]at h;split at h
  ·rename_i s hs;exact Wa.cons f e.1 (hd o (by simp)) hs (tQ f e.2 (fun o g=>hd o (by simp[g])) h c)
  ·cases h
theorem Wa.pre(e:kB dr C pf){a:Array Oper}{l l2:List Nat}{b:List Oper}{st:St}{K:St->Prop}(f:l.map (fun i=>a[i]?)=b.map some)(hd:b.all (fun o=>match o.dst with|some d=>decide (d<N)|none=>true)=true)(h:tL C a b st fun st1=>Wa dr C N a l2 st1 K):Wa dr C N a (l++l2) st K:=by
 obtain⟨st1,g,j⟩:=h;exact tQ e f (fun o k d c=>by have:=ql.1 hd o k;rw[c]at this;simpa using this) g j
theorem Wa.Ap(f:kB dr C pf){c:Array Oper}{l2:List Nat}{st:St}{K:St->Prop}(a b:Nat)(j:a+b<=c.size)(hd:c.toList.all (fun o=>match o.dst with|some d=>decide (d<N)|none=>true)=true)(h:tL C c ((c.toList.drop a).take b) st fun st1=>Wa dr C N c l2 st1 K):Wa dr C N c (List.range' a b++l2) st K:=by
 refine Wa.pre f ?_ ?_ h
 ·apply List.ext_getElem?;intro i;rw[qz,qz,qI];by_cases hi:i<b
  ·have e:(List.range' a b)[i]?=some (a+i):=by rw[List.getElem?_range' hi];simp
   rw[e,zd hi,q8];have:a+i<c.size:=by omega
   simp[this]
  ·rw[ze hi,jk (by simp;omega)];rfl
 ·exact ql.2 fun o g=>ql.1 hd o (Yl _ _ (V2 _ _ g))
theorem Wa.append{m:Array Oper}{i:Nat}{d:Tmp}{x y:Operand}{t ty:TypeId}{p:String}{J:Array Edge}{l:List Nat}{st:St}{K:St->Prop}{e:TypeId}{n by_ id off k:Nat}{b:Blk}{v:O}{ys:List zb}{z:zb}
  (M:m[i]?=some ⟨some d,.call ⟨.builtin .append,#[x,y],#[t,t]⟩,ty,p,J,none⟩) (hd:d<N) (R:get st.σ x=some (.own id off k)) (T:get st.σ y=some v) (U:AM.view st.Y n v=some ys)
  (W:yp C.P t=some e) (X:qE C.P e=some n) (h2:kD C.P e=some by_) (h3:y8 C.P e=some z) (hn:0<n) (u:z.length=n) (hb:st.Y id=some b) (A:b.arr=true) (B:b.e=e) (hk:off+k=b.es.length)
  (D:k+ys.length<=maxLen) (E:(k+ys.length)*by_<=140737488355328)
  (h:∀j g,(j=b.es++ys/\g=off\/j=b.es.drop off++ys/\g=0)->Wa dr C N m l ⟨qq st.σ d (.own st.Z g (k+ys.length)),qq (qq st.Y id none) st.Z (some ⟨e,n,true,j⟩),st.Z+1⟩ K):Wa dr C N m (i::l) st K:=by
 intro w0 S0 L Z0 G0 n0 a w Q hs hQ;simp only[wpOpsIn,M];obtain⟨S,G,o⟩:=hs;rw[XF o.xZ,zd (JT _ _ _ _ _ _)];have F:∀c,(Op.call ⟨.builtin .append,#[x,y],#[t,t]⟩:Op)≠.defer c:=fun c hc=>by cases hc
 refine⟨fun f _=>trivial,?_⟩;rw[Oper.semAt_eq _ _ _ F];obtain⟨r,w',j,g,G',hr,he,H,I⟩:=DF (dr:=dr) (ty:=ty) o.inv W X h2 h3 hn u hb A B hk D E (WJ o.xZ R) U (WJ o.xZ T);have q:=h j g he w0 S0 L Z0 G0 n0 (a.put (some d) r) w' Q ⟨S,G',o.step (dst:=some d) H I (fun _ e=>by cases e;exact hd)⟩ hQ;have s:(execOp a.eval ⟨some d,.call ⟨.builtin .append,#[x,y],#[t,t]⟩,ty,p,J,none⟩).run C.P w=.ok (.value r) w':=by simp[execOp,resolve,invoke,builtin,hr,-bind_pure_comp]
 rw[s];exact q
@[simp]theorem zj2(P:Program)(t:TypeId)(ad:Addr):Vi P t (.v (.slice (some ad) 0 0))=(yp P t).map fun _=>.v (.int .i64 0):=rfl
theorem HE{P:Program}{w:World}{S:Nat->Prop}{G:Nat->GI}{Y:Hp}{Z:Nat}(hi:Inv P w S G Y Z){t e:TypeId}{n id off k:Nat}{b:Blk}{u:Value}(m:P.underlying t=some (.slice e))(hs:qE P e=some n)(x:Y id=some b)(d:b.s=n)(B:0<k)(o:qw w S G Z (.own id off k) u) :
  ∃r v,(Instr.sliceAt t u (some (.int .i64 1)) none none).run P w=.ok v w/\qw w S G Z r v/\(r=.own id (off+1) (k-1)\/k=1/\∃ad,r=.v (.slice (some ad) 0 0)):=by
 have f:=o.vy;obtain⟨cap,y,z,C,A,rfl⟩:=o.vf;have a:=Ji (P:=P) (w:=w) (S:=S) (G:=G) (Z:=Z) (isS:=true) (len:=k) (cap:=cap) (l:=1) (h:=k) (lo:=some (some (.v (.int .i64 1)))) (hi:=none) (vl:=some (.int .i64 1)) (vh:=none) rfl rfl (by omega) z (by simp) (fun p Y=>⟨_,rfl,by simp only[qa]at Y;subst Y;exact .c (.v rfl)⟩) (by simp) (fun _=>rfl) (by simp) (by simp);have i:(G id).s=n:=by rw[<-(hi.live id b x).bs,d]
 by_cases q:cap=1
 ·subst q;have j:k=1:=by omega
  subst j;exact⟨_,_,by simp[Instr.sliceAt,zK m,Instr.slice,a,yA hs];rfl,.c (.v rfl),.inr ⟨rfl,_,rfl⟩⟩
 ·refine⟨.own id (off+1) (k-1),.slice (some ⟨(G id).g,(off+1)*(G id).s,none⟩) (k-1) (cap-1),?_,.own y (by omega) (by omega) ?_ f,.inl rfl⟩
  ·simp[Instr.sliceAt,zK m,Instr.slice,a,yA hs,q,ko,i,wo]
  ·rw[show off+1+(cap-1)=off+cap from by omega];exact A
theorem Wa.slice{g:Array Oper}{i:Nat}{d:Tmp}{x:Operand}{t ty:TypeId}{p:String}{A:Array Edge}{l:List Nat}{st:St}{K:St->Prop}{e:TypeId}{n id off k:Nat}{b:Blk}
  (D:g[i]?=some ⟨some d,.slice t x (some (.const (.int .i64 1))) none none,ty,p,A,none⟩) (hd:d<N) (E:get st.σ x=some (.own id off k)) (F:C.P.underlying t=some (.slice e)) (hs:qE C.P e=some n) (H:st.Y id=some b) (q:b.s=n) (I:0<k)
  (h:∀r,(r=.own id (off+1) (k-1)\/k=1/\∃ad,r=.v (.slice (some ad) 0 0))->Wa dr C N g l ⟨qq st.σ d r,st.Y,st.Z⟩ K):Wa dr C N g (i::l) st K:=by
 intro J M L Z0 R T a w Q u U;simp only[wpOpsIn,D];obtain⟨S,G,j⟩:=u;rw[XF j.xZ,zd (JT _ _ _ _ _ _)];have y:∀c,(Op.slice t x (some (.const (.int .i64 1))) none none:Op)≠.defer c:=fun c W=>by cases W
 refine⟨fun f _=>trivial,?_⟩;rw[Oper.semAt_eq _ _ _ y];obtain⟨r,v,B,z,X⟩:=HE j.inv F hs H q I (WJ j.xZ E);have m:=h r X J M L Z0 R T (a.put (some d) v) w Q ⟨S,G,j.step (dst:=some d) (.refl j.inv) z (fun _ e=>by cases e;exact hd)⟩ U;have o:(execOp a.eval ⟨some d,.slice t x (some (.const (.int .i64 1))) none none,ty,p,A,none⟩).run C.P w=.ok (.value v) w:=by simp[execOp,Act.eval,-bind_pure_comp]at B⊢;simp[B]
 rw[o];exact m
theorem Np{P:Program}{w:World}{S:Nat->Prop}{G:Nat->GI}{Y:Hp}{Z:Nat}(hi:Inv P w S G Y Z){t ty e:TypeId}{n by_:Nat}{ad:Addr}{ys:List zb}{z:zb}{v:Value}{x:O}
  (ht:yp P t=some e) (h1:qE P e=some n) (h2:kD P e=some by_) (h3:y8 P e=some z) (J:0<n) (M:z.length=n) (B:ys.length<=maxLen) (N:ys.length*by_<=140737488355328) (hv:AM.view Y n x=some ys) (hx:qw w S G Z x v) :
  ∃r y w' Y' Z' G',(Builtin.append_ #[t,t] ty #[.slice (some ad) 0 0,v]).run P w=.ok r w'/\(ys=[]/\y=.v (.slice (some ad) 0 0)/\Y'=Y/\Z'=Z\/y=.own Z 0 ys.length/\Y'=qq Y Z (some ⟨e,n,true,ys⟩)/\Z'=Z+1)/\kW dr P Y Z S G w Y' Z' S G' w'/\qw w' S G' Z' y r:=by
 obtain⟨i,Q,K,i2,i3⟩:=QI h3;have R:i.size=n:=by simpa[qE,K]using h1
 have T:i.bytes=by_:=by simpa[kD,K]using h2
 have C:=(jI (w:=w) (S:=S) i3).1;have U:Q.cells.size=n:=by rw[<-M,C];simp
 have s:=vI ht;obtain⟨A,c,f,rfl,W,f2⟩:=Vn hi hv hx;have l:=aJ J W f2;by_cases hm:ys=[]
 ·subst hm;refine⟨_,_,w,Y,Z,G,?_,.inl ⟨rfl,rfl,rfl,rfl⟩,.refl hi,.c (.v rfl)⟩;cases A<;>simp[Builtin.append_,zK s,sizeOf,typeInfo,K,Builtin.lenOf,Builtin.firstCells,loadCells,loadCellsFrom,storeCells]
 have X:0<ys.length:=jV.2 hm;obtain⟨d,a⟩:=wZ ((List.range (ys.length*n)).map f);have L:d.length=ys.length*n:=by rw[<-a];simp
 obtain⟨m,rfl,_,_⟩:=l 0 (Nat.mul_pos X J);have D:Src P i.size t (.slice (some m) ys.length c) ys.length d w:=by
  refine Src.ofSlice w s m _ c d (by rw[R];exact L) (fun j u o=>?_) (fun u s=>?_)
  ·have E:j<ys.length*n:=by rw[<-L];exact(zk.1 o).1
   obtain⟨ad2,e1,e2,_⟩:=l j E;injection e1 with e1;subst e1;rw[<-a,qz,kJ E]at o;simp at o;rw[e2,o]
  ·rw[<-a]at s;obtain⟨k,hk,rfl⟩:=q9.1 s;exact(l k (jK.1 hk)).choose_spec.2.2
 have g:=run_append_grow_src (P:=P) w t t ty e i Q s K i2 (some ad) 0 0 [] (by simp[Builtin.firstCells,loadCells,loadCellsFrom]) (.slice (some m) ys.length c) ys.length d D (by omega) (by unfold maxLen at B;omega) (growslice_fits (by omega) (by rw[T,wg];exact N));simp only[wg,w7]at g;obtain⟨gc,p⟩:=wZ (grownCap w ys.length 0 e);rw[p]at g;have F:ys.length<=gc:=by rw[<-p];exact grownCap_ge w _ _ e
 have hgm:gc<=maxLen:=by rw[<-p];exact grownCap_le_maxLen w _ _ e B
 obtain⟨cells,b⟩:=wZ (d.toArray++Builtin.zeroCells Q.cells (gc-ys.length));rw[b]at g;have H:cells.size=gc*n:=by rw[<-b,Q7,U4,U];simp only[j9,L];rw[<-wo];congr 1;omega
 have k2:=kW.Ao (dr:=dr) (w':=w.drew.alloc (.cells cells e)) (Y1:=Y) hi (fun _ _ h=>h) ⟨w.heap.size,cells.size,n⟩ e true ys cells rfl rfl rfl (by simp) (yd _)
  (fun _=>False) (fun _ h=>h.elim) (fun b' hb' hne _=>Below.heap_alloc w.drew _ b' hb') (fun id' b' h=>Nat.ne_of_lt (hi.live id' b' h).lt) (fun hS=>by have:=hi.st _ hS;simp at this) (.inr (zl _)) J (by simpa[qE]using h1) W
  (by rw[H];exact zT _ F) (heap_alloc_new w.drew _) rfl (fun i' j c' pv q o=>by
   show∃u,cells[i'*n+j]?=some u/\jM w S G Z true pv u;obtain⟨ad2,a1,a2,a3⟩:=f2 i' j c' pv q o;have hjn:j<n:=by rw[<-W c' (zN q)];exact(zk.1 o).1
   have I:i'*n+j<ys.length*n:=kK (zk.1 q).1 hjn;refine⟨f (i'*n+j),?_,a3⟩;rw[<-b,vU (by simp[L];exact I)];simp[<-a,I])
 refine⟨_,_,_,_,_,_,g,.inr ⟨rfl,rfl,rfl⟩,k2,?_⟩;have:=qw.own (w:=w.drew.alloc (.cells cells e)) (S:=S) (G:=qq G Z ⟨w.heap.size,cells.size,n⟩) (Z:=Z+1) (id:=Z) (off:=0) (n:=ys.length) (cap:=gc) (by omega) F hgm (by simp[H]) (by simpa using J);simpa using this
theorem Wa.zcR{b:Array Oper}{i:Nat}{d:Tmp}{x y:Operand}{t ty:TypeId}{p:String}{D:Array Edge}{l:List Nat}{st:St}{K:St->Prop}{e:TypeId}{n by_:Nat}{ad:Addr}{v:O}{ys:List zb}{z:zb}
  (E:b[i]?=some ⟨some d,.call ⟨.builtin .append,#[x,y],#[t,t]⟩,ty,p,D,none⟩) (hd:d<N) (F:get st.σ x=some (.v (.slice (some ad) 0 0))) (H:get st.σ y=some v) (I:AM.view st.Y n v=some ys)
  (J:yp C.P t=some e) (M:qE C.P e=some n) (R:kD C.P e=some by_) (T:y8 C.P e=some z) (U:0<n) (m:z.length=n) (o:ys.length<=maxLen) (q:ys.length*by_<=140737488355328)
  (h:∀w Y' Z',(ys=[]/\w=.v (.slice (some ad) 0 0)/\Y'=st.Y/\Z'=st.Z\/w=.own st.Z 0 ys.length/\Y'=qq st.Y st.Z (some ⟨e,n,true,ys⟩)/\Z'=st.Z+1)->Wa dr C N b l ⟨qq st.σ d w,Y',Z'⟩ K):Wa dr C N b (i::l) st K:=by
 intro W X L Z0 G0 n0 a w Q hs hQ;simp only[wpOpsIn,E];obtain⟨S,G,g⟩:=hs;rw[XF g.xZ,zd (JT _ _ _ _ _ _)];have s:∀c,(Op.call ⟨.builtin .append,#[x,y],#[t,t]⟩:Op)≠.defer c:=fun c hc=>by cases hc
 refine⟨fun f _=>trivial,?_⟩;rw[Oper.semAt_eq _ _ _ s];obtain⟨u,_⟩:=(WJ g.xZ F).yi;obtain⟨r,y',w',Y',Z',G',hr,he,A,B⟩:=Np (dr:=dr) (ty:=ty) (ad:=ad) g.inv J M R T U m o q I (WJ g.xZ H);have j:=h y' Y' Z' he W X L Z0 G0 n0 (a.put (some d) r) w' Q ⟨S,G',g.step (dst:=some d) A B (fun _ e=>by cases e;exact hd)⟩ hQ;have k:(execOp a.eval ⟨some d,.call ⟨.builtin .append,#[x,y],#[t,t]⟩,ty,p,D,none⟩).run C.P w=.ok (.value r) w':=by simp[execOp,resolve,invoke,builtin,u,hr,-bind_pure_comp]
 rw[k];exact j
end
variable{dr:Prop}
structure Hid (n1 i m:Nat) (g:List (List O)×Option (List O)) (w:World) (S:Nat->Prop) (G:Nat->GI) (Y:Hp) (Z:Nat):Prop where
 li:i<Z
 lm:m<Z
 s1:(G i).s=1
 new:n1<=(G i).g
 ai:Xx S G Y (G i).g
 am:Xx S G Y (G m).g
 obj:∃(en:Array MapEntry) (clock:Nat) (seen:Array Nat),w.heap[(G m).g]?=some (.map en clock)/\Stamped en clock/\w.heap[(G i).g]?=some (.mapIter (some (G m).g) clock seen clock) /\
  g.1.length=(leftOf en seen).toList.length/\(∀(j:Nat) (c:List O) (e:MapEntry),g.1[j]?=some c->(leftOf en seen).toList[j]?=some e->fT w S c e) /\
  ∀c,g.2=some c->∃e ziR,e∈en.toList/\seen=Array.push ziR e.born/\fT w S c e
abbrev GS:=List zb×Option zb
section
variable{C:Ctx}{pf:FuncId->Bool}{N i m:Nat}
def WpG(dr:Prop)(C:Ctx)(N i m:Nat)(c:Code)(st:St)(g:GS)(K:Exit->St->GS->Prop):Prop:=
 ∀(d:World) (h L:Nat->Prop) (Z0:Nat) (j:Nat->GI) (f:Nat) (a:Act) (w:World) (Q:Exit->Act->World->Prop) (S:Nat->Prop) (G:Nat->GI),f<=d.heap.size->Q8 dr C.P d h L N Z0 j f st S G a w->Hid d.heap.size i m g w S G st.Y st.Z ->
  (∀e b k l w' S' G',K e b k->Q8 dr C.P d h L N Z0 j f b S' G' l w'->Hid d.heap.size i m k w' S' G' b.Y b.Z->Q e l w')->c.wpIn Fence.wide 0 C.P Q a w
def RI(dr:Prop)(C:Ctx)(N i m:Nat)(y:Code)(K:Exit->St->GS->Prop)(e:Exit)(st:St)(g:GS):Prop:=match e with
 | .normal=>WpG dr C N i m y st g K
 |e=>K e st g
@[simp]theorem zjz(y:Code)(K:Exit->St->GS->Prop)(st:St)(g:GS):RI dr C N i m y K .normal st g=WpG dr C N i m y st g K:=rfl
@[simp]theorem zjA(y:Code)(K:Exit->St->GS->Prop)(st:St)(g:GS):RI dr C N i m y K .ret st g=K .ret st g:=rfl
@[simp]theorem zjB(y:Code)(K:Exit->St->GS->Prop)(j:Nat)(st:St)(g:GS):RI dr C N i m y K (.exit j) st g=K (.exit j) st g:=rfl
def HF(id:Nat)(K:Exit->St->GS->Prop)(e:Exit)(st:St)(g:GS):Prop:=match e with
 | .exit j=>if j=id then K .normal st g else K (.exit j) st g
 |e=>K e st g
@[simp]theorem zhK(id:Nat)(K:Exit->St->GS->Prop)(st:St)(g:GS):HF id K .normal st g=K .normal st g:=rfl
@[simp]theorem zhL(id:Nat)(K:Exit->St->GS->Prop)(st:St)(g:GS):HF id K .ret st g=K .ret st g:=rfl
@[simp]theorem zhM(id j:Nat)(K:Exit->St->GS->Prop)(st:St)(g:GS):HF id K (.exit j) st g=if j=id then K .normal st g else K (.exit j) st g:=rfl
def HG(I:Nat->St->GS->Prop)(n:Nat)(K:Exit->St->GS->Prop)(e:Exit)(st:St)(g:GS):Prop:=match e with
 | .normal=>∃k,k<n/\I k st g
 |e=>K e st g
@[simp]theorem zhN(I:Nat->St->GS->Prop)(n:Nat)(K:Exit->St->GS->Prop)(st:St)(g:GS):HG I n K .normal st g=∃k,k<n/\I k st g:=rfl
@[simp]theorem zhO(I:Nat->St->GS->Prop)(n:Nat)(K:Exit->St->GS->Prop)(st:St)(g:GS):HG I n K .ret st g=K .ret st g:=rfl
@[simp]theorem zhP(I:Nat->St->GS->Prop)(n j:Nat)(K:Exit->St->GS->Prop)(st:St)(g:GS):HG I n K (.exit j) st g=K (.exit j) st g:=rfl
def YV(a:Array Oper):Nat->Array Bool->List (List Nat)
 | 0,_=>[[]]
 |f+1,b=>if(Region.ready .any a b).isEmpty=true then[[]]else(Region.ready .any a b).flatMap fun i=>(YV a f (b.setIfInBounds i true)).map (i::·)
theorem tR(ops:Array Oper):∀(f t:Nat) (ls:Array Bool),Region.linearise.go .any ops f t ls []∈YV ops f ls
 | 0,t,ls=>by simp[Region.linearise.go,YV]
 |f+1,t,ls=>by
  simp only[Region.linearise.go];change (match(Region.ready .any ops ls)[t % (Region.ready .any ops ls).length]? with
   |some i=>Region.linearise.go .any ops f (t/(Region.ready .any ops ls).length) (ls.setIfInBounds i true) [i]
   |none=>[].reverse)∈YV ops (f+1) ls
  unfold YV;cases hi:(Region.ready .any ops ls)[t % (Region.ready .any ops ls).length]? with
  |none=>
   have hnil:Region.ready .any ops ls=[]:=by
    cases hr:Region.ready .any ops ls with
    |nil=>rfl
    |cons x xs=>rw[hr]at hi;have hlt:t % (x::xs).length<(x::xs).length:=zkD _ (by simp);simp at hi;simp at hlt;omega
   rw[hnil];simp
  |some i=>
   have hm:=zN hi;rw[ze (by intro he;rw[List.isEmpty_iff]at he;rw[he]at hm;cases hm)]
   simp only[];rw[linearise_go_acc,List.reverse_singleton,List.singleton_append];exact List.mem_flatMap.2 ⟨i,hm,q9.2 ⟨_,tR ops f _ _,rfl⟩⟩
theorem Wp.Pt(hm:C.P.follows .mixedOrders=true){id:Nat}{ops:Array Oper}{st:St}{K:Exit->St->Prop}(h:∀l∈YV ops ops.size (Array.replicate ops.size false),Wa dr C N ops l st (Wf K)):Wp dr C N (.region id ops true) st K:=
 fun w0 S0 L Z0 G0 n0 a w Q _ hs hQ=>wpIn_region_draw fun t=>by rw[hm];exact h _ (by simp only[Region.schedule,V3,qV,Region.linearise];exact tR ops _ _ _) w0 S0 L Z0 G0 n0 a _ Q hs.drew fun st' a' w' hk hs'=>hQ .normal st' a' w' hk hs'
end
variable{dr:Prop}{C:Ctx}{N:Nat}{pf:FuncId->Bool}
variable{dr:Prop}{C:Ctx}{N:Nat}{pf:FuncId->Bool}
theorem QM{c:Array Oper}{d:Array Bool}{i:Nat}(h:i∈Region.ready .any c d):d[i]?=some false:=by
 have a:=(lR.1 h).1;cases hi:d[i]? with
 |none=>rw[yJ,hi]at a;cases a
 |some b=>rw[yJ,hi]at a;rw[show b=false from a]
theorem n9{a:Array Bool}{i:Nat}(h:a[i]?=some false):(a.setIfInBounds i true).toList.count false+1=a.toList.count false:=by
 have b:=(zM.1 h).1;have c:=(zM.1 h).2;rw[Array.toList_setIfInBounds,List.count_set (by simpa using b)];have Y:0<a.toList.count false:=List.count_pos_iff.2 (by rw[<-c];simp);have d:(a.toList[i]'(by simpa using b)==false)=true:=by simp[c]
 rw[zd d,ze (by decide)];omega
theorem Wa.ready{a:Array Oper}{K:St->Prop}(I:Array Bool->St->Prop)
  (c:∀(b:Array Bool) (st:St) (i:Nat),b.size=a.size->I b st->i∈Region.ready .any a b->∀(l:List Nat),(∀g,I (b.setIfInBounds i true) g->Wa dr C N a l g K)->Wa dr C N a (i::l) st K)
  (d:∀(b:Array Bool) (st:St),b.size=a.size->I b st->Region.ready .any a b=[]->K st) :
  ∀(f:Nat) (b:Array Bool) (st:St),b.size=a.size->I b st->b.toList.count false<=f->∀l∈YV a f b,Wa dr C N a l st K
 | 0,b,st,hs,h,m,l,e=>by
  have n:Region.ready .any a b=[]:=by rw[List.eq_nil_iff_forall_not_mem];intro i hi;have:=n9 (QM hi);omega
  simp only[YV,wG]at e;subst e;exact Wa.nil (d b st hs h n)
 |f+1,b,st,hs,h,m,l,e=>by
  unfold YV at e;split at e
  ·rename_i o;simp only[wG]at e;subst e;exact Wa.nil (d b st hs h (List.isEmpty_iff.1 o))
  ·obtain⟨i,hi,e⟩:=List.mem_flatMap.1 e;obtain⟨l',j,rfl⟩:=q9.1 e;have p:=n9 (QM hi);exact c b st i hs h hi l' fun g k=>Wa.ready I c d f _ g (by simpa using hs) k (by omega) l' j
theorem Wp.zcS(f:C.P.follows .mixedOrders=true){id:Nat}{a:Array Oper}{st:St}{K:Exit->St->Prop}(I:Array Bool->St->Prop)(g:I (Array.replicate a.size false) st)
  (c:∀(b:Array Bool) (st:St) (i:Nat),b.size=a.size->I b st->i∈Region.ready .any a b->∀(l:List Nat),(∀d,I (b.setIfInBounds i true) d->Wa dr C N a l d (Wf K))->Wa dr C N a (i::l) st (Wf K))
  (e:∀(b:Array Bool) (st:St),b.size=a.size->I b st->Region.ready .any a b=[]->K .normal st):Wp dr C N (.region id a true) st K:=
 Wp.Pt f fun l h=>Wa.ready I c e a.size _ st (by simp) g (zI List.count_le_length (by simp)) l h
end Go.AM
