/- Lemmas. -/
import Derived.ProofKit
import Derived.Lib.Strings
import Derived.Carry
import Derived.ChangeSame
import Derived.OpenShut
import Derived.Shelf.Small.Strs
import Derived.Shelf.Strconv.Itoa0
import Derived.Ground.Names2Prog
import Derived.Test.YtdlbkbojibiiaaaGreatDoorProg
import Derived.Test.YtdlbkbojibiiaaaGreatDoorG2
set_option maxRecDepth 8000
open Go Proofs Proofs.YtdlbkbojibiiaaaGreatDoor Proofs.Tryz RowKit AM SpanLaw Q Zz
namespace Go.AM
open Go.RowKit Go.WideShapes Go.ChangeShapes
variable{dr:Prop}
def Eu(P:Program):Nat->List Field->Option Nat
 |o,[]=>some o
 |o,f::a=>if f.offset=o then Eu P (o+P.cellsOf f.type) a else none
def nH(P:Program)(T:List TypeId):Bool:=T.all fun t=>match P.underlying t with
 |some .bool|some (.int _)|some .string=>P.cellsOf t==1
 |some (.slice e)=>P.cellsOf t==1&&T.contains e&&decide (0<P.cellsOf e)
 |some (.struct a)=>Eu P 0 a.toList==some (P.cellsOf t)&&a.toList.all fun f=>T.contains f.type
 |_=>false
structure Bounds (H:Type) (Bl:Nat->Prop) (Bd:DataW H->Prop):Prop where
 slice:∀es sp,Bd (.slice es sp)->Bl es.length/\∀d∈es,Bd d
 nil:Bl 0
 agg:∀l,Bd (.agg l)->∀d∈l,Bd d
 str:∀b,Bd (.lit (.string b))->Bl b.length
section
variable{H:Type}{V:TypeId×Value->H}{P:Program}{w:World}{sp:Nat->Bool}{held:Bool}{Bl:Nat->Prop}{Bd:DataW H->Prop}
theorem s9{α:Type}{l:List α}{o n j:Nat}(a:j<n):((l.drop o).take n)[j]?=l[o+j]?:=by rw[qN,zd a,wc]
theorem uI{R:O->Value->Prop}{Q:Field->zb->Prop}:∀(e:List Field) (o n:Nat) (cs:List Value),Eu P o e=some n->cs.length=n ->
  (∀f∈e,∃a,Zip R a ((cs.drop f.offset).take (P.cellsOf f.type))/\Q f a) ->
  ∃a:zb,a.length+o=n/\(∀(j:Nat) (g:O) (u:Value),a[j]?=some g->cs[o+j]?=some u->R g u)/\∀f∈e,o<=f.offset/\Q f ((a.drop (f.offset-o)).take (P.cellsOf f.type))
 |[],o,n,cs,c,p,_=>by
  simp only[Eu]at c;injection c with c
  subst c;exact⟨[],by simp,by simp,by simp⟩
 |f::e,o,n,cs,c,p,h=>by
  simp only[Eu]at c;split at c
  ·rename_i s;obtain⟨d,q,t⟩:=h f (by simp);obtain⟨i,y,v,w⟩:=uI e (o+P.cellsOf f.type) n cs c p (fun f' b=>h f' (by simp[b]));have l:d.length=P.cellsOf f.type:=by have:=q.1;simp only[jn,nE]at this;omega
   refine⟨d++i,by simp;omega,fun j g u k r=>?_,fun f' b=>?_⟩
   ·by_cases m:j<d.length
    ·rw[qp m]at k;refine q.2 j g u k ?_;rw[s9 (by omega),s];exact r
    ·rw[z8 (by omega)]at k;refine v (j-d.length) g u k ?_;rw[show o+P.cellsOf f.type+(j-d.length)=o+j from by omega];exact r
   ·rcases zA.1 b with rfl|b
    ·refine⟨by omega,?_⟩;have:((d++i).drop (f'.offset-o)).take (P.cellsOf f'.type)=d:=by rw[show f'.offset-o=0 from by omega,ym,<-l,List.take_left]
     rw[this];exact t
    ·obtain⟨z,x⟩:=w f' b;refine⟨by omega,?_⟩;have:(d++i).drop (f'.offset-o)=i.drop (f'.offset-(o+P.cellsOf f.type)):=by rw[List.drop_append,zeP (by omega),wC];congr 1;omega
     rw[this];exact x
  ·cases c
end
section
variable{C:Ctx}{pf:FuncId->Bool}{f:FuncId}{fn:Func}{code:Code}
theorem Pf(n:Qn dr C pf)(g:gD C pf f fn code){args:zb}(h:zr C fn args=some (.v (.bool true)))(o:args.length<=fn.ntmps){w:World}{vs:List Value}(i:w.ShapedOpen C.P)(a:∀t∈K4,D7 w (fun b=>b<w.heap.size) t)(p:Zip (yb w (fun b=>b<w.heap.size)) args vs) :
  Calls C.P f vs.toArray w fun e w'=>e=.returned (.bool true)/\Below w.heap.size w w':=by
 unfold zr at h;split at h
 ·rename_i x q s j;obtain⟨⟨r,Y2⟩,l,m⟩:=qh h;simp only at m;subst m;refine(Qx n g j o (fun _ u=>u) (OB.zb6 i a) p).mono fun e w' y=>?_
  obtain⟨v,D,E,z,c,d,A,_⟩:=y;obtain⟨F,_,B⟩:=Jp (dr:=dr) d l A;obtain⟨rfl,_⟩:=B.yq;exact⟨z,c.os,c.tape,c.output,c.size,fun k g=>c.block k g fun h=>h⟩
 ·cases h
end
end Go.AM
namespace Go.AM
variable{dr:Prop}
attribute [congr] Ei Ej
attribute [simp] Tz TA zcq O9 Bv TB Pb zcr TE TD IQ IU Ek Bu O8 IV sY IW gT
 sZ IX Em En TF
@[simp]theorem Ev(K:Exit->St->Prop)(st:St):K7 K st=K .normal st:=rfl
@[simp]theorem zcu(id i:Nat)(K:Exit->St->Prop)(st:St)(h:¬i=id):YX id K (.exit i) st=K (.exit i) st:=by simp[YX,h]
@[simp]theorem zt{α:Type}(f:Nat->α)(k i:Nat)(x:α)(h:¬i=k):qR f k x i=f i:=by simp[qR,h]
@[simp]theorem zjd(U:Nat->O)(d:Nat)(x:O):put U (some d) x=qR U d x:=rfl
@[simp]theorem zje(U:Nat->O)(x:O):put U none x=U:=rfl
@[simp]theorem zhY(args:zb)(t:Nat):vn args t=(args[t]?).getD (.wY []):=rfl
@[simp]theorem zlf(U:Nat->O)(t:Nat):get U (.tmp t)=some (U t):=rfl
@[simp]theorem TK(U:Nat->O)(f:Nat):get U (.func f)=some (.fn (.func f) [] []):=rfl
@[simp]theorem zlg(U:Nat->O)(k:IntKind)(n:Int):get U (.const (.int k n))=some (.v (.int k n)):=rfl
@[simp]theorem zjf(U:Nat->O)(b:Bool):get U (.const (.bool b))=some (.v (.bool b)):=rfl
@[simp]theorem zlh(U:Nat->O)(s:ByteArray):get U (.const (.string s))=some (.v (.string s)):=rfl
@[simp]theorem zli(U:Nat->O):get U (.const (.slice none 0 0))=some .nil:=rfl
@[simp]theorem zfd(U:Nat->O):get U (.const .nilFunc)=some (.v .nilFunc):=rfl
@[simp]theorem zlj(U:Nat->O)(cs:Array Value):get U (.const (.agg cs))=(xz cs.toList).map .agg:=rfl
@[simp]theorem zgl(C:Ctx)(a:Array Oper)(d:Option Tmp)(op:Op)(t:TypeId)(p:String)(b:Array Edge)(st:St):jf C a ⟨d,op,t,p,b,none⟩ st =
  (qf C (get st.U) st.Y st.Z op).map fun r=>⟨put st.U d r.1,r.2.1,r.2.2⟩:=TG C a d op t p b st
def Z1(C:Ctx)(d:Option Tmp)(op:Op)(st:St)(y:Option Bool)(b:Bool):Option St:=
 if y=some b then(qf C (get st.U) st.Y st.Z op).map fun r=>⟨put st.U d r.1,r.2.1,r.2.2⟩else some ⟨put st.U d (.wY []),st.Y,st.Z⟩
theorem BA{C:Ctx}{d:Option Tmp}{op:Op}{st:St}{y a:Option Bool}{b:Bool}(h:y=a):Z1 C d op st y b=Z1 C d op st a b:=by rw[h]
@[simp]theorem zgm(C:Ctx)(a:Array Oper)(d:Option Tmp)(op:Op)(t:TypeId)(p:String)(c:Array Edge)(j:Nat)(b:Bool)(st:St):jf C a ⟨d,op,t,p,c,some (j,b)⟩ st =
  Z1 C d op st (WN a st.U j) b:=by
 unfold jf Z1 Region.wanted;simp only[jq];split
 ·cases qf C (get st.U) st.Y st.Z op<;>rfl
 ·rfl
@[simp]theorem zhZ(C:Ctx)(d:Option Tmp)(op:Op)(st:St)(b:Bool):Z1 C d op st (some b) b=(qf C (get st.U) st.Y st.Z op).map fun r=>⟨put st.U d r.1,r.2.1,r.2.2⟩:=by simp[Z1]
@[simp]theorem zjg(C:Ctx)(d:Option Tmp)(op:Op)(st:St):Z1 C d op st (some true) false=some ⟨put st.U d (.wY []),st.Y,st.Z⟩:=by simp[Z1]
@[simp]theorem zjh(C:Ctx)(d:Option Tmp)(op:Op)(st:St):Z1 C d op st (some false) true=some ⟨put st.U d (.wY []),st.Y,st.Z⟩:=by simp[Z1]
@[simp]theorem zgn(C:Ctx)(d:Option Tmp)(op:Op)(st:St)(b:Bool):Z1 C d op st none b=some ⟨put st.U d (.wY []),st.Y,st.Z⟩:=by simp[Z1]
attribute [congr] BA
def ak:O->Option Bool
 | .v (.bool b)=>some b
 |_=>none
@[simp]theorem zfe(b:Bool):ak (.v (.bool b))=some b:=rfl
@[simp]theorem zgo(l:zb):ak (.wY l)=none:=rfl
def IZ(U:Nat->O):Option Nat->Option Bool
 |some d=>ak (U d)
 |none=>none
@[simp]theorem zff(U:Nat->O)(d:Nat):IZ U (some d)=ak (U d):=rfl
@[simp]theorem zh0(a:Array Oper)(U:Nat->O)(j:Nat):WN a U j=IZ U ((a[j]?).bind (·.dst)):=by
 unfold WN IZ ak;cases (a[j]?).bind (·.dst)with
 |none=>rfl
 |some d=>rfl
section
variable(C:Ctx)(ρ:Operand->Option O)(Y:Hp)(Z:Nat)
@[simp]theorem zcv(x:Operand):qf C ρ Y Z (.move x)=(ρ x).map fun y=>(y,Y,Z):=rfl
@[simp]theorem Pg(x:Operand):qf C ρ Y Z (.assign x)=(ρ x).map fun y=>(y,Y,Z):=rfl
def JQ(c a b:Option O):Option O:=match c with
 |some (.v (.bool true))=>a
 |some (.v (.bool false))=>b
 |_=>none
@[simp]theorem zgp(a b:Option O):JQ (some (.v (.bool true))) a b=a:=rfl
@[simp]theorem zfg(a b:Option O):JQ (some (.v (.bool false))) a b=b:=rfl
@[simp]theorem zcw(c a b:Operand):qf C ρ Y Z (.pick c a b)=(JQ (ρ c) (ρ a) (ρ b)).map fun y=>(y,Y,Z):=by
 unfold JQ;simp only[qf];generalize ρ c=o;cases o with
 |none=>rfl
 |some p=>cases p<;>(try rfl);rename_i x;cases x<;>(try rfl);rename_i t;cases t<;>rfl
@[simp]theorem zgq(op:BinOp)(t a:TypeId)(x y:Operand):qf C ρ Y Z (.binOp op t x y a)=(do let p <-ρ x;let q <-ρ y;let r <-X5 (isK y) C.P op t p q;some (r,Y,Z)):=by simp only[qf];cases ρ x<;>cases ρ y<;>(try rfl);simp;cases X5 (isK y) C.P op t _ _<;>rfl
@[simp]theorem zji(op:UnOp)(t:TypeId)(x:Operand):qf C ρ Y Z (.unOp op t x)=(do let p <-ρ x;let r <-unA op p;some (r,Y,Z)):=by simp only[qf];cases ρ x<;>(try rfl);simp;cases unA op _<;>rfl
@[simp]theorem zcx(s d:TypeId)(x:Operand):qf C ρ Y Z (.convert s d x)=(do let p <-ρ x;let r <-cq C.P s d p;some (r,Y,Z)):=by simp only[qf];cases ρ x<;>(try rfl);simp;cases cq C.P s d _<;>rfl
@[simp]theorem zcy(t:TypeId)(x:Operand):qf C ρ Y Z (.load t x)=(do let p <-ρ x;let r <-Zm C.P Y t p;some (r,Y,Z)):=by simp only[qf];cases ρ x<;>(try rfl);simp;cases Zm C.P Y t _<;>rfl
@[simp]theorem zjj(t:TypeId)(a x:Operand):qf C ρ Y Z (.store t a x)=(do let p <-ρ a;let q <-ρ x;let h <-WL C.P Y t p q;some (.wY [],h,Z)):=by simp only[qf];cases ρ a<;>cases ρ x<;>(try rfl);simp;cases WL C.P Y t _ _<;>rfl
@[simp]theorem BB(t:TypeId)(x:Operand)(f:Nat):qf C ρ Y Z (.fieldAddr t x f)=(do let p <-ρ x;let r <-jt C.P t f p;some (r,Y,Z)):=by simp only[qf];cases ρ x<;>(try rfl);simp;cases jt C.P t f _<;>rfl
@[simp]theorem TL(t:TypeId)(x:Operand)(f:Nat):qf C ρ Y Z (.field t x f)=(do let p <-ρ x;let r <-QJ C.P t f p;some (r,Y,Z)):=by simp only[qf];cases ρ x<;>(try rfl);simp;cases QJ C.P t f _<;>rfl
@[simp]theorem BC(t:TypeId)(x i:Operand):qf C ρ Y Z (.indexAddr t x i)=(do let p <-ρ x;let q <-ρ i;let r <-q6 C.P Y t p q;some (r,Y,Z)):=by simp only[qf];cases ρ x<;>cases ρ i<;>(try rfl);simp;cases q6 C.P Y t _ _<;>rfl
@[simp]theorem TM(t:TypeId)(x i:Operand):qf C ρ Y Z (.index t x i)=(do let p <-ρ x;let q <-ρ i;let r <-WM C.P t p q;some (r,Y,Z)):=by simp only[qf];cases ρ x<;>cases ρ i<;>(try rfl);simp;cases WM C.P t _ _<;>rfl
@[simp]theorem TN(t:TypeId)(x:Operand)(lo hi:Option Operand):qf C ρ Y Z (.slice t x lo hi none)=(do let p <-ρ x;let r <-jO C.P Y t p (lo.map ρ) (hi.map ρ);some (r,Y,Z)):=by simp only[qf];cases ρ x<;>(try rfl);simp;cases jO C.P Y t _ _ _<;>rfl
@[simp]theorem zcz(t:TypeId)(l c:Operand):qf C ρ Y Z (.makeSlice t l c)=(do let p <-ρ l;let q <-ρ c;ZA C.P Y Z t p q):=by simp only[qf];cases ρ l<;>cases ρ c<;>rfl
def K9(i:Nat):O->Option O
 | .wY vs=>vs[i]?
 |_=>none
@[simp]theorem zcA(i:Nat)(vs:zb):K9 i (.wY vs)=vs[i]?:=rfl
@[simp]theorem I0(x:Operand)(i:Nat):qf C ρ Y Z (.extract x i)=(do let p <-ρ x;let r <-K9 i p;some (r,Y,Z)):=by
 simp only[qf];cases ρ x with
 |none=>rfl
 |some p=>cases p<;>(try rfl);simp[K9];rename_i vs;cases vs[i]?<;>rfl
@[simp]theorem zjk(t:TypeId):qf C ρ Y Z (.alloc t)=(do let n <-qF C.P t;let z <-yN C.P t;if 0<n/\z.length=n then some (.ref Z 0 0,qR Y Z (some ⟨t,n,false,[z]⟩),Z+1)else none):=by simp only[qf];cases qF C.P t<;>cases yN C.P t<;>rfl
@[simp]theorem zmt(t:TypeId)(x:Operand):qf C ρ Y Z (.box t x)=(do let n <-qF C.P t;let y <-ρ x;if 0<n/\y.cells.length=n/\y.cells.all O.yo=true then some (.ref Z 0 0,qR Y Z (some ⟨t,n,false,[y.cells]⟩),Z+1)else none):=by simp only[qf];cases qF C.P t<;>cases ρ x<;>rfl
@[simp]theorem zjl(t:TypeId)(a:Array (Nat×Operand)):qf C ρ Y Z (.build t a)=(do let q <-xb ρ a.toList;let r <-qe C.P t q;some (r,Y,Z)):=by simp only[qf];cases xb ρ a.toList<;>(try rfl);simp;cases qe C.P t _<;>rfl
@[simp]theorem zch(t:TypeId)(n:Nat)(a:Array (Nat×Operand)):qf C ρ Y Z (.buildSlice t n a)=(do let q <-xb ρ a.toList;zz C.P Y Z t n q):=by simp only[qf];cases xb ρ a.toList<;>rfl
@[simp]theorem zfh(f:Fn)(a b:Array Operand):qf C ρ Y Z (.makeFunc f a b)=(do let p <-yF (a.toList.map ρ);let q <-yF (b.toList.map ρ);some (.fn f p q,Y,Z)):=by simp only[qf];cases yF (a.toList.map ρ)<;>cases yF (b.toList.map ρ)<;>rfl
@[simp]theorem zcB(f:Operand)(args:Array Operand)(ts:Array TypeId):qf C ρ Y Z (.call {callee:=.value f,args:=args,argTypes:=ts})=(do let xs <-yF (args.toList.map ρ);kd C Y Z (ρ f) xs):=by simp only[qf,ZB];cases yF (args.toList.map ρ)<;>rfl
@[simp]theorem I1(b:Builtin)(args:Array Operand)(ts:Array TypeId):qf C ρ Y Z (.call {callee:=.builtin b,args:=args,argTypes:=ts})=(do let xs <-yF (args.toList.map ρ);yO C.P Y Z ts b xs):=by simp only[qf,ZB];cases yF (args.toList.map ρ)<;>rfl
end
@[simp]theorem zfi{α:Type}:yF ([]:List (Option α))=some []:=rfl
@[simp]theorem zcC{α:Type}(x:α)(l:List (Option α)):yF (some x::l)=(yF l).map (x::·):=rfl
@[simp]theorem zh1(ρ:Operand->Option O):xb ρ []=some []:=rfl
@[simp]theorem zgr(ρ:Operand->Option O)(i:Nat)(x:Operand)(l:List (Nat×Operand)):xb ρ ((i,x)::l)=(do let p <-ρ x;let r <-xb ρ l;some ((i,p)::r)):=by simp only[xb];cases ρ x<;>cases xb ρ l<;>rfl
theorem I2(C:Ctx)(Y:Hp)(Z g:Nat)(first a xs:zb)(b:AM.Spec)(h:C.Γ g=some b):kd C Y Z (some (.fn (.func g) first a)) xs=b (first++xs++a) Y Z:=by simp[kd,h]
section
variable(P:Program)(Y:Hp)(Z:Nat)(t:TypeId)
@[simp]theorem zlk(op:BinOp)(k:IntKind)(a b:Int):ZZ P op t (.v (.int k a)) (.v (.int k b))=Tb op k a b:=by simp[ZZ]
@[simp]theorem zll(op:BinOp)(a b:ByteArray):ZZ P op t (.v (.string a)) (.v (.string b))=Tc op a b:=rfl
@[simp]theorem zmu(b:Bool):unA .not (.v (.bool b))=some (.v (.bool !b)):=rfl
@[simp]theorem zmv(k:IntKind)(n:Int):unA .neg (.v (.int k n))=some (.v (.int k (k.wrap (0-n)))):=rfl
@[simp]theorem zjm(cs:zb):Zm P Y t (.ptr cs)=zL P t cs:=rfl
@[simp]theorem zjn(id i j:Nat):Zm P Y t (.ref id i j)=(do let b <-Y id;let c <-b.es[i]?;zL P t (c.drop j)):=by
 simp only[Zm];cases Y id with
 |none=>rfl
 |some b=>simp;cases b.es[i]?<;>rfl
@[simp]theorem zci(f:Nat)(cs:zb):jt P t f (.ptr cs)=(do let q <-qU P t f;if q.2.1=0 then none else some (.ptr (cs.drop q.1))):=by simp only[jt];cases qU P t f<;>rfl
@[simp]theorem zcj(f id i j:Nat):jt P t f (.ref id i j)=(do let q <-qU P t f;if q.2.1=0 then none else some (.ref id i (j+q.1))):=by simp only[jt];cases qU P t f<;>rfl
@[simp]theorem zlm(s:ByteArray):VK P t (.v (.string s))=match P.underlying t with|some .string=>some (.v (.int .i64 s.size))|_=>none:=rfl
@[simp]theorem zmw(s:Nat)(es:List zb):VK P t (.sl s es)=(yg P t).map fun _=>.v (.int .i64 es.length):=rfl
@[simp]theorem zln:VK P t .nil=(yg P t).map fun _=>.v (.int .i64 0):=rfl
@[simp]theorem zlo(id off n:Nat):VK P t (.own id off n)=(yg P t).map fun _=>.v (.int .i64 n):=rfl
theorem uJ(i:Int)(x:O)(d:∀cs,x≠.ptr cs)(e:∀a b c,x≠.ref a b c):ZO P t i x=none:=by
 unfold ZO;split
 ·split
  ·split
   ·split
    ·exact absurd rfl (d _)
    ·exact absurd rfl (e _ _ _)
    ·rfl
   ·rfl
  ·rfl
 ·rfl
@[simp]theorem zjo(s:Nat)(es:List zb)(k:IntKind)(i:Int):q6 P Y t (.sl s es) (.v (.int k i))=(do let e <-yg P t;let n <-qF P e;if s=n/\0<n/\0<=i then(es[i.toNat]?).map .ptr else none):=by
 simp only[q6];cases yg P t with
 |none=>exact(uJ P t i _ (fun _=>by simp) (fun _ _ _=>by simp)).trans rfl
 |some e=>simp;cases qF P e<;>rfl
@[simp]theorem zh2(id off n:Nat)(k:IntKind)(i:Int):q6 P Y t (.own id off n) (.v (.int k i))=(do let e <-yg P t;let m <-qF P e;let b <-Y id;if b.e=e/\0<m/\0<=i/\i.toNat<n then some (.ref id (off+i.toNat) 0)else none):=by
 simp only[q6];cases yg P t with
 |none=>exact(uJ P t i _ (fun _=>by simp) (fun _ _ _=>by simp)).trans rfl
 |some e=>simp;cases qF P e<;>(try rfl);simp;cases Y id<;>rfl
end
@[simp]theorem zcD(P:Program)(Y:Hp)(Z:Nat)(ts:Array TypeId)(x:O):yO P Y Z ts .len [x]=(do let t <-ts[0]?;let y <-VK P t x;some (y,Y,Z)):=by
 simp only[yO];cases ts[0]? with
 |none=>rfl
 |some t=>simp;cases VK P t x<;>rfl
@[simp]theorem zcE(P:Program)(Y:Hp)(Z:Nat)(ts:Array TypeId)(xs:zb):yO P Y Z ts .min xs=(Td xs).map fun y=>(y,Y,Z):=rfl
@[simp]theorem zcF(P:Program)(Y:Hp)(Z:Nat)(ts:Array TypeId)(xs:zb):yO P Y Z ts .max xs=(Te xs).map fun y=>(y,Y,Z):=rfl
@[simp]theorem zgs(P:Program)(Y:Hp)(Z:Nat)(ts:Array TypeId)(s x:O):yO P Y Z ts .append [s,x]=(do let t <-ts[0]?;let u <-ts[1]?;jU P Y Z t u s x):=by simp only[yO];cases ts[0]?<;>cases ts[1]?<;>rfl
@[simp]theorem zh3(P:Program)(Y:Hp)(n:Nat)(e t u:TypeId)(i o k:Nat):od P Y n e t u (.own i o k)=if u=t then view Y n (.own i o k)else none:=rfl
@[simp]theorem zjp(P:Program)(Y:Hp)(n:Nat)(e t u:TypeId)(k:Nat)(es:List zb):od P Y n e t u (.sl k es)=if u=t then view Y n (.sl k es)else none:=rfl
@[simp]theorem zh4(P:Program)(Y:Hp)(n:Nat)(e t u:TypeId):od P Y n e t u .nil=if u=t then view Y n .nil else none:=rfl
@[simp]theorem zjq(P:Program)(Y:Hp)(n:Nat)(e t u:TypeId):od P Y n e t u .em=if u=t then view Y n .em else none:=rfl
@[simp]theorem zh5(P:Program)(Y:Hp)(n:Nat)(e t u:TypeId)(b:ByteArray):od P Y n e t u (.v (.string b))=if strU P u=true/\Nq P e=true then some (b.data.toList.map fun c=>[.v (.int .u8 c.toNat)])else none:=rfl
@[simp]theorem zh6(P:Program)(Y:Hp)(Z:Nat)(ts:Array TypeId)(x:O):yO P Y Z ts .clear [x]=(do let t <-ts[0]?;gM P Y Z t x):=by simp only[yO];cases ts[0]?<;>rfl
@[simp]theorem zjr(P:Program)(Y:Hp)(Z:Nat)(ts:Array TypeId)(s x:O):yO P Y Z ts .copy [s,x]=(do let t <-ts[0]?;Nr P Y Z t s x):=by simp only[yO];cases ts[0]?<;>rfl
attribute [simp] Td bl Te bm Tb Tc jz ZC Jn
@[simp]theorem zh7(cs:zb):O.cells (.agg cs)=cs:=rfl
@[simp]theorem zh8(cs:zb):O.cells (.wY cs)=[.wY cs]:=rfl
@[simp]theorem zlp(x:Value):O.cells (.v x)=[.v x]:=rfl
@[simp]theorem zh9:O.cells .nil=[.nil]:=rfl
@[simp]theorem zjs:O.cells .em=[.em]:=rfl
@[simp]theorem zjt(s:Nat)(es:List zb):O.cells (.sl s es)=[.sl s es]:=rfl
@[simp]theorem zia(cs:zb):O.cells (.ptr cs)=[.ptr cs]:=rfl
@[simp]theorem zib(i o n:Nat):O.cells (.own i o n)=[.own i o n]:=rfl
@[simp]theorem zic(i o n:Nat):O.cells (.ref i o n)=[.ref i o n]:=rfl
@[simp]theorem zju(f:Fn)(a b:zb):O.cells (.fn f a b)=[.fn f a b]:=rfl
@[simp]theorem zjv(x:Value):O.yo (.v x)=true:=rfl
@[simp]theorem zgt:O.yo .nil=true:=rfl
@[simp]theorem zid:O.yo .em=true:=rfl
@[simp]theorem zie(s:Nat)(es:List zb):O.yo (.sl s es)=true:=rfl
@[simp]theorem zgu(cs:zb):O.yo (.ptr cs)=true:=rfl
@[simp]theorem zgv(i o n:Nat):O.yo (.own i o n)=true:=rfl
@[simp]theorem zgw(i o n:Nat):O.yo (.ref i o n)=true:=rfl
@[simp]theorem zif(f:Fn)(a b:zb):O.yo (.fn f a b)=true:=rfl
@[simp]theorem zgx(cs:zb):O.yo (.agg cs)=false:=rfl
@[simp]theorem zgy(cs:zb):O.yo (.wY cs)=false:=rfl
attribute [simp] yf qH zv wV AM.freeze O.flat O.isV O.noOwn
@[simp]theorem zcG(i o n:Nat):O.v7 (.own i o n)=true:=rfl
@[simp]theorem zgz(x:Value):O.v7 (.v x)=false:=rfl
@[simp]theorem zcH:O.v7 .nil=false:=rfl
@[simp]theorem zfj:O.v7 .em=false:=rfl
@[simp]theorem zfk(s:Nat)(es:List zb):O.v7 (.sl s es)=false:=rfl
@[simp]theorem zcI(cs:zb):O.v7 (.ptr cs)=false:=rfl
@[simp]theorem zcJ(i o n:Nat):O.v7 (.ref i o n)=false:=rfl
@[simp]theorem zfl(f:Fn)(a b:zb):O.v7 (.fn f a b)=false:=rfl
@[simp]theorem zlq{α:Type}(f:Nat->α)(k:Nat)(x y:α):qR (qR f k x) k y=qR f k y:=by funext i;simp only[qR];split<;>rfl
@[simp]theorem zig(P:Program)(Y:Hp)(t:TypeId)(id i j:Nat)(x:O):WL P Y t (.ref id i j) x=(do
  let a <-Y id;let q <-(if a.arr=true then qH Y x else some (x,Y));let b <-q.2 id;let n <-qF P t;let c <-b.es[i]?
  if q.1.cells.length=n/\j+n<=c.length/\q.1.cells.all O.yo=true then some (qR q.2 id (some ⟨b.e,b.s,b.arr,b.es.set i (jz c j q.1.cells)⟩))else none):=by
 simp only[WL];cases Y id with
 |none=>rfl
 |some a=>
  simp only[Option.bind_eq_bind,qo];generalize (if a.arr=true then qH Y x else some (x,Y))=o;cases o with
  |none=>rfl
  |some q=>
   obtain⟨y,d⟩:=q;simp only[qo];cases d id with
   |none=>rfl
   |some b=>
    simp only[qo];cases qF P t with
    |none=>rfl
    |some n=>simp only[qo];cases b.es[i]?<;>rfl
@[simp]theorem zlr(x y:Value)(Y:Hp)(Z:Nat):qS (.v y) (.v x) Y Z=(x=y):=by simp[qS]
def Wz:O->Int
 | .v (.int _ n)=>n
 |_=>0
@[simp]theorem zih(k:IntKind)(n:Int):Wz (.v (.int k n))=n:=rfl
theorem zi{n:Int}(a:-9223372036854775808<=n)(b:n<=9223372036854775807):IntKind.i64.wrap n=n:=by rw[DU];omega
variable{dr:Prop}
open Classical in
noncomputable def z6 {α b:Type} (V:α->zb) (pre:α->Prop) (out:α->b):zb->Option b:=fun args=>
 if h:∃a,args=V a/\pre a then some (out (Classical.choose h))else none
theorem zE{α e:Type}{V:α->zb}{pre:α->Prop}{out:α->e}(d:∀a b,V a=V b->a=b){a:α}(h:pre a):z6 V pre out (V a)=some (out a):=by have c:∃b,V a=V b/\pre b:=⟨a,rfl,h⟩;unfold z6;rw[Oy c];have:=jT c;rw[<-d _ _ this.1]
theorem zp{α c:Type}{V:α->zb}{pre:α->Prop}{out:α->c}{args:zb}{r:c}(h:z6 V pre out args=some r):∃a,args=V a/\pre a/\r=out a:=by
 unfold z6 at h;split at h
 ·rename_i b;injection h with h
  have:=jT b;exact⟨_,this.1,this.2,h.symm⟩
 ·cases h
abbrev Qq:=List (Nat×AM.Spec)
def lookup:Qq->Nat->Option AM.Spec
 |[],_=>none
 |(k,s)::l,g=>if g=k then some s else lookup l g
@[simp]theorem lQ(k:Nat)(s:AM.Spec)(l:Qq)(g:Nat):lookup ((k,s)::l) g=if g=k then some s else lookup l g:=rfl
def zQ(P:Program)(l:Qq):Ctx:=⟨P,lookup l,fun _=>[],fun _=>[],fun _=>false,fun _=>[],fun _=>none⟩
@[simp]theorem zii(P:Program)(l:Qq)(i:Nat):(zQ P l).dyn i=[]:=rfl
@[simp]theorem zck(P:Program)(l:Qq)(i:Nat)(a:Array Oper)(d:Bool)(st:St)(K:Exit->St->Prop):ZY (zQ P l) (.region i a d) st K=uG (zQ P l) a a.toList st (K7 K):=JP _ i a d st K rfl rfl
def VU(P:Program)(l:Qq)(a:Nat->List (Tmp×Tmp)):Ctx:=⟨P,lookup l,a,fun _=>[],fun _=>false,fun _=>[],fun _=>none⟩
@[simp]theorem zjw(P:Program)(l:Qq)(a:Nat->List (Tmp×Tmp)):(VU P l a).P=P:=rfl
@[simp]theorem zls(P:Program)(l:Qq):(zQ P l).P=P:=rfl
@[simp]theorem zlt(P:Program)(l:Qq)(Y:Hp)(Z g:Nat)(a b xs:zb):kd (zQ P l) Y Z (some (.fn (.func g) a b)) xs=(lookup l g).bind fun s=>s (a++xs++b) Y Z:=by unfold kd zQ;simp only;cases lookup l g<;>rfl
@[simp]theorem zjx(P:Program)(l:Qq)(c:Nat->List (Tmp×Tmp))(Y:Hp)(Z g:Nat)(a b xs:zb):kd (VU P l c) Y Z (some (.fn (.func g) a b)) xs=(lookup l g).bind fun s=>s (a++xs++b) Y Z:=by unfold kd VU;simp only;cases lookup l g<;>rfl
def de(dr:Prop)(P:Program)(q:List Nat):Qq->Prop
 |[]=>True
 |(g,s)::l=>xB dr P g s/\(q.contains g=true->Yx s)/\de dr P q l
theorem zw{P:Program}{l:Qq}{q:List Nat}(c:P.follows .mixedOrders=true)(h:de dr P q l):Qn dr (zQ P l) (fun g=>q.contains g):=by
 have a:∀(l:Qq),de dr P q l->∀g s,lookup l g=some s->xB dr P g s/\(q.contains g=true->Yx s):=by
  intro l
  induction l with
  |nil=>intro _ g s h;cases h
  |cons x l d=>
   obtain⟨k,sp⟩:=x;rintro⟨e,f,i⟩ g s hs;simp only[lQ]at hs;split at hs
   ·rename_i b;injection hs with hs
    subst hs;subst b;exact⟨e,f⟩
   ·exact d i g s hs
 exact⟨fun g s hs=>(a l h g s hs).1,fun g s j hs=>(a l h g s hs).2 j,c,(fun _ _ h=>by cases h),(fun _ _ h=>by cases h)⟩
def AllE(dr:Prop)(P:Program):Qq->Prop
 |[]=>True
 |(g,s)::l=>xB dr P g s/\AllE dr P l
abbrev g0F:Nat->Bool:=fun g=>([]:List Nat).contains g
abbrev Gd(C:Ctx):Prop:=AM.Good C g0F
theorem allE{P:Program}:∀{l:Qq},AllE dr P l->de dr P [] l
 |[],_=>trivial
 |(_,_)::_,h=>⟨h.1,by simp,allE h.2⟩
theorem zph{P:Program}{l:Qq}(a:P.follows .mixedOrders=true)(h:AllE dr P l):Qn dr (zQ P l) g0F:=zw (q:=[]) a (allE h)
theorem zlL(k:Nat)(h:k<9223372036854775807:=by omega):IntKind.i64.wrap ((k:Int)+1)=(k:Int)+1:=zi (by omega) (by omega)
theorem zpg(n:Int)(h:-9223372036854775808<=n/\n<=9223372036854775807:=by omega):IntKind.i64.wrap n=n:=zi h.1 h.2
theorem Ew{P:Program}{l:Qq}{q:List Nat}(a:Nat->List (Tmp×Tmp))(b:P.follows .mixedOrders=true)(h:de dr P q l):Qn dr (VU P l a) (fun g=>q.contains g):=
 let g:=zw b h
 ⟨g.spec,g.quiet,g.mixed,(fun _ _ h=>by cases h),(fun _ _ h=>by cases h)⟩
def al(r:O)(x:O)(Y:Hp)(_:Nat):Prop:=∃a,(AM.freeze Y x).map (·.1)=some a/\ag a r
theorem Q8{C:Ctx}{fn:Func}{code:Code}{args:zb}{r:O}(b:fn.body=some code)
  (h:ZY C code ⟨vn args,fun _=>none,0⟩ (VS C.P fn (al r))):∃a,zr C fn args=some a/\ag a r:=by
 obtain⟨x,f,g,c,a,d,e⟩:=qw b h;exact⟨a,by unfold zr;simp only[c];exact d,e⟩
theorem zW(x:O):ag x x:=by
 unfold ag;split
 ·exact⟨rfl,fun j x y b a=>by rw[b]at a;injection a with a;exact .inl a⟩
 ·exact .inl rfl
@[simp]theorem zlu(x y:Value)(Y:Hp)(Z:Nat):al (.v y) (.v x) Y Z=(x=y):=by simp only[al,AM.freeze,qH,yf,zK,qj,exists_eq_left',ag,Bz];simp
theorem VV{C:Ctx}{fn:Func}{code:Code}{args:zb}{Y:Hp}{Z:Nat}{r:Option kV}(c:fn.body=some code)
  (h:ZY C code ⟨vn args,Y,Z⟩ (VS C.P fn (aj r))):∃x a b,kj C fn args Y Z=some (x,a,b)/\aj r x a b:=qw c h
def wg(Y:Hp)(Z:Nat)(e s:Nat)(v:O)(xs:List zb):Prop:=(v=.nil/\xs=[])\/∃id,id<Z/\v=.own id 0 xs.length/\Y id=some ⟨e,s,true,xs⟩
def WA(v:O)(Y:Hp):Hp:=match v with
 | .own id _ _=>qR Y id none
 |_=>Y
theorem wg.nil(Y:Hp)(Z e s:Nat):wg Y Z e s .nil []:=.inl ⟨rfl,rfl⟩
theorem wg.len{P:Program}{Y:Hp}{Z e s:Nat}{v:O}{xs:List zb}{t:TypeId}(h:wg Y Z e s v xs)(a:yg P t=some e):VK P t v=some (.v (.int .i64 xs.length)):=by rcases h with⟨rfl,rfl⟩|⟨id,_,rfl,_⟩<;>simp[a]
theorem wg.yL{P:Program}{Y:Hp}{Z e s by_:Nat}{v:O}{xs:List zb}{c z:zb}{t:TypeId}(h:wg Y Z e s v xs)(g:yg P t=some e)(hs:qF P e=some s)(i:j7 P e=some by_)(j:yN P e=some z)
  (a:z.length=s) (k:0<s) (b:xs.length+1<=maxLen) (d:(xs.length+1)*by_<=140737488355328) :
  jU P (qR Y Z (some ⟨e,s,true,[c]⟩)) (Z+1) t t v (.own Z 0 1) =
   some (.own (Z+1) 0 (xs.length+1),qR (WA v (qR Y Z (some ⟨e,s,true,[c]⟩))) (Z+1) (some ⟨e,s,true,xs++[c]⟩),Z+2):=by
 rcases h with⟨rfl,rfl⟩|⟨id,hid,rfl,l⟩
 ·simp at b d;simp[jU,g,hs,i,j,a,k,b,d,AM.view,WA]
 ·have f:¬id=Z:=by omega
  simp[jU,g,hs,i,j,a,k,b,d,AM.view,WA,f,l]
theorem wg.after{Y:Hp}{Z e s:Nat}{v:O}{xs:List zb}{c:zb}{tmp:Option kV}:wg (qR (WA v (qR Y Z tmp)) (Z+1) (some ⟨e,s,true,xs++[c]⟩)) (Z+2) e s (.own (Z+1) 0 (xs.length+1)) (xs++[c]):=
 .inr ⟨Z+1,by omega,by simp,by simp⟩
theorem yl{Y:Hp}{Z e s:Nat}{v:O}{xs:List zb}(h:wg Y Z e s v xs)(b:Hp)(id:Nat)(a:∀n,v≠.own id 0 n):WA v b id=b id:=by
 rcases h with⟨rfl,rfl⟩|⟨k,c,rfl,d⟩
 ·rfl
 ·have:¬id=k:=fun e=>a _ (by rw[e])
  simp[WA,this]
theorem wg.freeze{Y:Hp}{Z e s:Nat}{v:O}{xs:List zb}(h:wg Y Z e s v xs)(a:Nat):al (.sl s xs) v Y a:=by
 rcases h with⟨rfl,rfl⟩|⟨id,hid,rfl,b⟩
 ·exact⟨.nil,by simp,.inr ⟨rfl,s,rfl⟩⟩
 ·exact⟨.sl s xs,by simp[b],zW _⟩
theorem yX{α c:Type}{f:α->c}(h:∀a b,f a=f b->a=b):∀{xs ys:List α},xs.map f=ys.map f->xs=ys
 |[],[],_=>rfl
 |[],y::ys,e=>by simp at e
 |x::xs,[],e=>by simp at e
 |x::xs,y::ys,e=>by simp at e;rw[h x y e.1,yX h e.2]
def forK(I:Nat->(Nat->O)->Hp->Nat->Prop)(n k:Nat)(K:Exit->St->Prop)(e:Exit)(st:St):Prop:=match e with
 | .normal=>k+1<=n/\I (k+1) st.U st.Y st.Z
 |e=>K e st
@[simp]theorem zfm(I:Nat->(Nat->O)->Hp->Nat->Prop)(n k:Nat)(K:Exit->St->Prop)(st:St):forK I n k K .normal st=(k+1<=n/\I (k+1) st.U st.Y st.Z):=rfl
@[simp]theorem zjy(I:Nat->(Nat->O)->Hp->Nat->Prop)(n k:Nat)(K:Exit->St->Prop)(st:St):forK I n k K .ret st=K .ret st:=rfl
@[simp]theorem zij(I:Nat->(Nat->O)->Hp->Nat->Prop)(n k i:Nat)(K:Exit->St->Prop)(st:St):forK I n k K (.exit i) st=K (.exit i) st:=rfl
theorem zI{C:Ctx}{b:Code}{st:St}{K:Exit->St->Prop}(I:Nat->(Nat->O)->Hp->Nat->Prop)(n:Nat)(j:I 0 st.U st.Y st.Z)
  (a:∀k U Y Z,k<=n->I k U Y Z->ZY C b ⟨U,Y,Z⟩ (forK I n k K)):ZY C (.loop b) st K:=by
 have f:∀d k st,n-k=d->k<=n->I k st.U st.Y st.Z->ZY C (.loop b) st K:=by
  intro d
  induction d with
  |zero=>
   intro k st hd g i;rw[zT];refine(a k st.U st.Y st.Z g i).mono fun e c h=>?_
   cases e
   case normal=>have:=h.1;omega
   all_goals exact h
  |succ d l=>
   intro k st hd g i;rw[zT];refine(a k st.U st.Y st.Z g i).mono fun e c h=>?_
   cases e
   case normal=>exact l (k+1) c (by omega) h.1 h.2
   all_goals exact h
 exact f _ 0 st rfl (kM _) j
variable{dr:Prop}
abbrev str(l:za):O:=.v (.string ⟨l.toArray⟩)
@[simp]theorem zjz(l:za):(ByteArray.mk l.toArray).size=l.length:=by simp[ByteArray.size]
@[simp]theorem bget(l:za)(i:Nat):(ByteArray.mk l.toArray)[i]?=l[i]?:=by
 by_cases h:i<l.length
 ·rw[getElem?_pos (ByteArray.mk l.toArray) i (by simpa using h),zq h];rfl
 ·rw[getElem?_neg (ByteArray.mk l.toArray) i (by simpa using h),wP (by omega)]
@[simp]theorem TP(l:za)(a b:Nat):(ByteArray.mk l.toArray).extract a b=⟨((l.drop a).take (b-a)).toArray⟩:=by have h:=Lib.extract_data (ByteArray.mk l.toArray) a b;rw[ByteArray.ext_iff];apply Array.toList_inj.1;rw[h]
theorem q9{a b:za}(h:str a=str b):a=b:=by injection h with h;injection h with h;injection h with h;simpa using zC Array.toList h
@[simp]theorem zik(P:Program)(t:TypeId)(l:za)(k:IntKind)(i:Int)(h:P.underlying t=some .string):WM P t (.v (.string ⟨l.toArray⟩)) (.v (.int k i)) =
  if 0<=i then(l[i.toNat]?).map fun b=>.v (.int .u8 b.toNat)else none:=by
 simp only[WM,h,bget];split
 ·cases l[i.toNat]?<;>rfl
 ·rfl
@[simp]theorem zil(P:Program)(Y:Hp)(t:TypeId)(l:za)(lo hi:Option (Option O))(h:P.underlying t=some .string):jO P Y t (.v (.string ⟨l.toArray⟩)) lo hi =
  (vH 0 lo).bind fun a=>(vH l.length hi).bind fun b=>if a<=b/\b<=l.length then some (str ((l.drop a).take (b-a)))else none:=by
 simp only[jO,h,zjz,TP];cases vH 0 lo<;>(try rfl);cases vH l.length hi<;>rfl
attribute [simp] vH
@[simp]theorem zcK(P:Program)(t:TypeId)(a b:Bool)(h:P.underlying t=some .bool):ZZ P .eql t (.v (.bool a)) (.v (.bool b))=some (.v (.bool (a==b))):=by simp[ZZ,h]
@[simp]theorem zcL(P:Program)(t:TypeId)(a b:Bool)(h:P.underlying t=some .bool):ZZ P .neq t (.v (.bool a)) (.v (.bool b))=some (.v (.bool (!(a==b)))):=by simp[ZZ,h]
@[simp]theorem zjA(P:Program)(s d:TypeId)(k:IntKind)(n:Int):cq P s d (.v (.int k n))=(P.underlying s).bind fun _=>(P.underlying d).bind fun u=>match u with|.int a=>some (.v (.int a (a.wrap n)))|_=>none:=by simp only[cq];cases P.underlying s<;>(try rfl);cases P.underlying d<;>(try rfl);rename_i u;cases u<;>rfl
theorem oN(a b:UInt8):((a.toNat:Int)==(b.toNat:Int))=decide (a=b):=by rw[qc];simp[<-Zz];omega
theorem zU{F:zb->Option O}{b:List Nat}{a:Bool}{args c:zb}{Y Y1:Hp}{Z:Nat}{r:O}(d:zv Y args=some (c,Y1))(e:F (yP b c)=some r)(f:r.flat=true\/args.all O.noOwn=true) :
  zf a b F args Y Z=some (r,Y,Z):=by
 unfold zf;simp only[d,e,f,qA]
theorem qB{k:IntKind}{a b:Int}(h:O.v (.int k a)=.v (.int k b)):a=b:=by injection h with h;injection h
theorem WR{a b:Bool}(h:O.v (.bool a)=.v (.bool b)):a=b:=by injection h with h;injection h
def zjB{α a:Type}(f:α->a)(K:a->Prop)(x:α):Prop:=K (f x)
def zjC{α a:Type}(f:α->Option a)(K:a->Prop)(x:α):Prop:=af (f x) K
@[simp]theorem zim{α a:Type}(f:α->a)(K:a->Prop)(x:α):zjB f K x=K (f x):=rfl
@[simp]theorem zin{α a:Type}(f:α->Option a)(K:a->Prop)(x:α):zjC f K x=af (f x) K:=rfl
def Q9(C:Ctx)(pf:FuncId->Bool)(f:FuncId)(fn:Func):Prop:=∃code,gD C pf f fn code
theorem zX{C:Ctx}{pf:FuncId->Bool}{f:FuncId}{fn:Func}(e:Qn dr C pf)(b:Q9 C pf f fn)(a:Bool)(c:List Nat)(F:zb->Option O)(hF:∀args r,F args=some r->args.length<=fn.ntmps/\∃d,zr C fn args=some d/\ag d r):xB dr C.P f (zf a c F):=
 let⟨_,b⟩:=b
 Er e b a c F hF
def kOk(pf:FuncId->Bool)(C:Ctx)(fn:Func):Bool:=!(fn.name== "runtime.NumGoroutine")&&match fn.body with
 |some c=>xC pf C.dyn C.S6 C.bk fn.ntmps c
 |none=>false
theorem zpi{C:Ctx}{pf:FuncId->Bool}{f:FuncId}{fn:Func}(h:C.P.funcs[f]?=some fn)(a:kOk pf C fn=true:=by kernel_rfl):Q9 C pf f fn:=by
 unfold kOk at a;split at a
 ·rename_i c b;simp only[zH,vY]at a;exact⟨c,h,a.1,b,a.2⟩
 ·simp at a
theorem pS1{C:Ctx}{pf:FuncId->Bool}{f:FuncId}{fn:Func}{α:Type}{V:α->zb}{pre:α->Prop}{out:α->O}(e:Qn dr C pf)(h:C.P.funcs[f]?=some fn)(b:Bool)(c:List Nat)(hF:∀a,pre a->(V a).length<=fn.ntmps/\∃d,zr C fn (V a)=some d/\ag d (out a))(g:kOk pf C fn=true:=by kernel_rfl):xB dr C.P f (zf b c (z6 V pre out)):=
 zX e (zpi h g) b c _ fun args r h=>by obtain⟨a,rfl,Y,rfl⟩:=zp h;exact hF a Y
theorem hPc{α:Type}{V:α->zb}{pre:α->Prop}{out:α->O}(a:α)(Y:Hp)(Z:Nat)(b:zv Y (V a)=some (V a,Y))(hi:∀x y,V x=V y->x=y)(h:pre a)(c:(out a).flat=true\/(V a).all O.noOwn=true):zf false [] (z6 V pre out) (V a) Y Z=some (out a,Y,Z):=
 zU b (by
  have e:∀l:zb,yP [] l=l:=fun l=>by cases l<;>rfl
  rw[e];exact zE hi h) c
noncomputable def we (C:Ctx) (fn:Func):AM.Spec:=fun args Y Z=>if args.length<=fn.ntmps then kj C fn args Y Z else none
theorem qI{C:Ctx}{pf:FuncId->Bool}{f:FuncId}{fn:Func}{code:Code}(b:Qn dr C pf)(a:gD C pf f fn code):xB dr C.P f (we C fn):=by
 refine⟨⟨fn,a.func,a.name,by rw[a.body];rfl⟩,?_⟩;intro args Y Z r e g h w S G vs hi c;unfold we at h;split at h
 ·rename_i d;exact oL b.spec b.quiet b.box b.iter b.mixed a.func a.body a.ok h hi c d
 ·cases h
theorem zpj{C:Ctx}{pf:FuncId->Bool}{f:FuncId}{fn:Func}(a:Qn dr C pf)(h:C.P.funcs[f]?=some fn)(b:kOk pf C fn=true:=by kernel_rfl):xB dr C.P f (we C fn):=let⟨_,k⟩:=zpi h b;qI a k
end Go.AM
namespace Go.AM
open Go.RowKit Go.WideShapes Go.ChangeShapes
variable{dr:Prop}
section
variable{H:Type}{V:TypeId×Value->H}{P:Program}
theorem cy(g:laidOutB P=true){W i:World}(j:Below W.heap.size W i){sp:Nat->Bool}:∀{ts:List TypeId} {vs:List Value} {ds:List (DataW H)} {b:List MemPlace},(∀t∈ts,P.readableRec t=true/\t<P.types.size) ->
  DataW.TrodAll V P W 0 (fun _=>true) true ts vs ds b->(∀p∈b,p.block<W.heap.size)->(∀p∈b,sp p.block=true)->DataW.TrodAll V P i 0 sp true ts vs ds b
 |[],vs,ds,b,_,h,_,_=>by obtain⟨rfl,rfl,rfl⟩:=trodAll_nil h;exact trodAll_mk0
 |t::ts,vs,ds,b,f,h,c,e=>by
  obtain⟨v,k,d,l,p,q,rfl,rfl,rfl,m,n⟩:=trodAll_cons h;exact trodAll_cons_mk (WideElems.Trod_stays g (f t (by simp)).1 (f t (by simp)).2 m (fun x a=>j.same (c x (by simp[a]))) (fun x a=>e x (by simp[a])))
   (cy g j (fun u o=>f u (by simp[o])) n (fun x a=>c x (by simp[a])) (fun x a=>e x (by simp[a])))
theorem TQ{f:Func}{s:ChangeSpec}{a h c i:Bool}{W l:World}{args:Array Value}{ds gs:List (DataW H)}{before:List MemPlace}(C:laidOutB P=true)(D:∀t∈f.params.toList,P.readableRec t=true/\t<P.types.size)
  (z:s.vars=[]) (u:DataW.Whole V P f.params.toList s.vars a W args.toList ds gs before) (j:s.fn H ds={results:=[.lit (.bool true)],args:=ds}) {tb:TypeId} (A:f.resultTypes=#[tb]) (m:P.underlying tb=some .bool) (v:Below W.heap.size W l) :
  s.post V P f a h c i W args (.bool true) l:=by
 have k:∀p∈before,p.block<W.heap.size:=fun p Y=>u.lt p Y
 have w:=u;obtain⟨p,q,E,B,n,F,G⟩:=u;rw[z]at B;obtain⟨rfl,rfl⟩:=trodVars_none B;simp only[kr]at n;subst n;have x:DataW.TrodAll V P W 0 (fun _=>true) true f.params.toList args.toList ds before:=E;have d:∀sp:Nat->Bool,(∀p∈before,sp p.block=true)->DataW.TrodAll V P l 0 sp true f.params.toList args.toList ds before:=fun sp y=>cy C v D x k y
 have o:∀p∈before,(fun b=>decide (b<W.heap.size)) p.block=true:=fun p Y=>by simpa using k p Y
 have g:∀(b:Nat) (sp:Nat->Bool) (hd:Bool),DataW.TrodAll V P l b sp hd f.resultTypes.toList ((Value.bool true).resultList f.resultTypes.size) [.lit (.bool true)] []:=fun b sp hd=>by rw[A];exact trodAll_cons_mk (shut_bool m _) trodAll_mk0
 have e:∀sp,DataW.TrodVars V P l sp s.vars [] []:=fun sp=>by rw[z];rfl
 refine⟨ds,[],before,[],before,[],by simpa using w,?_,?_,?_,World.keptBut_mono (fun p Y=>⟨Y,.inr (.inl Y)⟩) (v.frame (·∈before)),fun _=>?_⟩
 ·rw[kr,j];exact g _ _ _
 ·rw[kr,j];exact d _ o
 ·rw[kr,j];exact e _
 ·refine⟨ok_one A rfl (okWide_bool_mk m _),_,_,([]++before)++[],⟨[]++before,[],trodAll_append (d _ (fun _ _=>rfl)) (g _ _ _),e _,rfl,?_,?_⟩,?_⟩
  ·intro b off Y;have r:MemPlace.cell b off∈before:=by simpa using Y
   rw[v.frozen (k _ r)];exact F b off (by simpa using r)
  ·intro I;have:=G I;simpa using this
  ·intro p Y _;simpa using Y
end
end Go.AM
namespace Go.AM
variable{dr:Prop}
def gW:Op->Bool
 | .move _|.assign _|.pick _ _ _|.load _ _|.binOp _ _ _ _ _|.unOp _ _ _|.convert _ _ _|.fieldAddr _ _ _|.field _ _ _|.indexAddr _ _ _|.index _ _ _|.extract _ _=>true
 | .slice _ _ _ _ none=>true
 | .call c=>match c.callee with
  | .builtin .len=>true
  | .builtin .min=>true
  | .builtin .max=>true
  |_=>false
 |_=>false
def BD(C:Ctx)(st:St)(op:Op):Option O:=(qf C (get st.U) st.Y st.Z op).map (·.1)
theorem ao{o:Option O}{Y:Hp}{Z:Nat}:(o.map fun y=>(y,Y,Z))=((o.map fun y=>(y,Y,Z)).map (·.1)).map fun x=>(x,Y,Z):=by cases o<;>rfl
theorem xD{o:Option O}{Y:Hp}{Z:Nat}:(o.bind fun y=>some (y,Y,Z))=((o.bind fun y=>some (y,Y,Z)).map (·.1)).map fun x=>(x,Y,Z):=by cases o<;>rfl
theorem Ph{C:Ctx}{st:St}{op:Op}(h:gW op=true):qf C (get st.U) st.Y st.Z op=(BD C st op).map fun x=>(x,st.Y,st.Z):=by
 unfold BD;generalize get st.U=ρ;cases op with
 |move x=>simp only[zcv];exact ao
 |assign x=>simp only[Pg];exact ao
 |pick c a b=>simp only[zcw];exact ao
 |load t a=>simp only[zcy];cases ρ a<;>(try rfl);exact xD
 |binOp op t x y j=>simp only[zgq];cases ρ x<;>cases ρ y<;>(try rfl);exact xD
 |unOp op t x=>simp only[zji];cases ρ x<;>(try rfl);exact xD
 |convert s d x=>simp only[zcx];cases ρ x<;>(try rfl);exact xD
 |fieldAddr t x f=>simp only[BB];cases ρ x<;>(try rfl);exact xD
 |field t x f=>simp only[TL];cases ρ x<;>(try rfl);exact xD
 |indexAddr t x i=>simp only[BC];cases ρ x<;>cases ρ i<;>(try rfl);exact xD
 |index t x i=>simp only[TM];cases ρ x<;>cases ρ i<;>(try rfl);exact xD
 |extract x i=>simp only[I0];cases ρ x<;>(try rfl);exact xD
 |slice t x lo hi g=>
  cases g with
  |none=>simp only[TN];cases ρ x<;>(try rfl);exact xD
  |some m=>simp[gW]at h
 |call c=>
  obtain⟨e,args,ts⟩:=c;cases e with
  |builtin b=>
   simp only[I1];cases yF (args.toList.map ρ)with
   |none=>rfl
   |some xs=>
    simp only[Option.bind_eq_bind,qo];cases b<;>(try (simp[gW]at h;done))
    case len=>
     cases xs with
     |nil=>rfl
     |cons x l=>
      cases l with
      |nil=>simp only[zcD];cases ts[0]?<;>(try rfl);exact xD
      |cons _ _=>rfl
    case min=>simp only[zcE];exact ao
    case max=>simp only[zcF];exact ao
  |_=>simp[gW]at h
 |_=>simp[gW]at h
def kg(C:Ctx)(g:FuncId):Prop:=∀a,C.Γ g=some a->Yx a
def xd(C:Ctx)(op:Op):Prop:=∀st:St,qf C (get st.U) st.Y st.Z op=(BD C st op).map fun x=>(x,st.Y,st.Z)
theorem j5{C:Ctx}{op:Op}(h:gW op=true):xd C op:=fun _=>Ph h
@[simp]theorem zlv(C:Ctx)(g:FuncId)(a:Array Operand)(ts:Array TypeId)(h:kg C g):xd C (.call ⟨.value (.func g),a,ts⟩):=by
 intro st;unfold BD;simp only[zcB,TK];cases yF (a.toList.map (get st.U))with
 |none=>rfl
 |some xs=>
  simp only[Option.bind_eq_bind,qo];cases hs:C.Γ g with
  |none=>simp[kd,hs]
  |some b=>
   rw[I2 C st.Y st.Z g [] [] xs b hs];cases c:b ([]++xs++[]) st.Y st.Z with
   |none=>rfl
   |some r=>obtain⟨x,d,e⟩:=r;obtain⟨⟨rfl,rfl⟩,_⟩:=h b hs _ _ _ _ _ _ c;rfl
theorem yI{P:Program}{l:Qq}{g:Nat}{a:AM.Spec}(h:lookup l g=some a)(b:Yx a):kg (zQ P l) g:=fun s hs=>by
 have:lookup l g=some s:=hs;rw[h]at this;injection this with this
 exact this ▸ b
@[simp]theorem zlw(C:Ctx)(x:Operand):xd C (.move x):=j5 rfl
@[simp]theorem zio(C:Ctx)(x:Operand):xd C (.assign x):=j5 rfl
@[simp]theorem zlx(C:Ctx)(c a b:Operand):xd C (.pick c a b):=j5 rfl
@[simp]theorem zly(C:Ctx)(t:TypeId)(x:Operand):xd C (.load t x):=j5 rfl
@[simp]theorem zmx(C:Ctx)(o:BinOp)(t a:TypeId)(x y:Operand):xd C (.binOp o t x y a):=j5 rfl
@[simp]theorem znB(C:Ctx)(o:UnOp)(t:TypeId)(x:Operand):xd C (.unOp o t x):=j5 rfl
@[simp]theorem zlz(C:Ctx)(t u:TypeId)(x:Operand):xd C (.convert t u x):=j5 rfl
@[simp]theorem znC(C:Ctx)(t:TypeId)(x:Operand)(f:Nat):xd C (.fieldAddr t x f):=j5 rfl
@[simp]theorem znD(C:Ctx)(t:TypeId)(x:Operand)(f:Nat):xd C (.field t x f):=j5 rfl
@[simp]theorem znE(C:Ctx)(t:TypeId)(x i:Operand):xd C (.indexAddr t x i):=j5 rfl
@[simp]theorem znF(C:Ctx)(t:TypeId)(x i:Operand):xd C (.index t x i):=j5 rfl
@[simp]theorem znG(C:Ctx)(x:Operand)(i:Nat):xd C (.extract x i):=j5 rfl
@[simp]theorem znH(C:Ctx)(t:TypeId)(x:Operand)(lo hi:Option Operand):xd C (.slice t x lo hi none):=j5 rfl
@[simp]theorem zmy(C:Ctx)(a:Array Operand)(ts:Array TypeId):xd C (.call ⟨.builtin .len,a,ts⟩):=j5 rfl
@[simp]theorem zmz(C:Ctx)(a:Array Operand)(ts:Array TypeId):xd C (.call ⟨.builtin .min,a,ts⟩):=j5 rfl
@[simp]theorem zmA(C:Ctx)(a:Array Operand)(ts:Array TypeId):xd C (.call ⟨.builtin .max,a,ts⟩):=j5 rfl
def bc{α:Type}(y:Bool)(a b:α):α:=match y with
 |true=>a
 |false=>b
@[simp]theorem zlA{α:Type}(a b:α):bc true a b=a:=rfl
@[simp]theorem zjD{α:Type}(a b:α):bc false a b=b:=rfl
@[simp]theorem zmB{α:Type}(y:Bool)(a b:α):bc (!y) a b=bc y b a:=by cases y<;>rfl
@[simp]theorem zlB{α:Type}(y:Bool)(a:α):bc y a a=a:=by cases y<;>rfl
def bx(y:Bool):Bool:=y
@[simp]theorem zlC:bx true=true:=rfl
@[simp]theorem zjE:bx false=false:=rfl
@[simp]theorem zmC{α:Type}(y:Bool)(a b c:α):bc y (bc y a b) c=bc y a c:=by cases y<;>rfl
@[simp]theorem zmD{α:Type}(y:Bool)(a b c:α):bc y a (bc y b c)=bc y a c:=by cases y<;>rfl
def ta(C:Ctx)(st:St)(op:Op)(y:Option Bool)(b:Bool):Option O:=if y=some b then BD C st op else some (.wY [])
section
variable(C:Ctx)(d:Option Tmp)(op:Op)(st:St)
theorem oO(y:Option Bool)(b:Bool)(h:xd C op):Z1 C d op st y b=(ta C st op y b).map fun x=>⟨put st.U d x,st.Y,st.Z⟩:=by
 unfold Z1 ta;rw[h st];split
 ·cases BD C st op<;>rfl
 ·rfl
@[simp low] theorem zgA(y b:Bool)(h:xd C op):Z1 C d op st (some y) b=(ta C st op (some y) b).map fun x=>⟨put st.U d x,st.Y,st.Z⟩:=oO C d op st _ b h
@[simp]theorem zjF(y:Bool)(p q:Option Bool)(b:Bool)(h:xd C op):Z1 C d op st (bc y p q) b=(ta C st op (bc y p q) b).map fun x=>⟨put st.U d x,st.Y,st.Z⟩:=oO C d op st _ b h
@[simp]theorem zlD(y:Bool)(p q:Option Bool)(b:Bool):ta C st op (bc y p q) b=bc y (ta C st op p b) (ta C st op q b):=by cases y<;>rfl
@[simp]theorem ziq(b:Bool):ta C st op none b=some (.wY []):=rfl
@[simp]theorem zmE(y:Bool):ta C st op (some y) true=bc (bx y) (BD C st op) (some (.wY [])):=by cases y<;>rfl
@[simp]theorem zmF(y:Bool):ta C st op (some y) false=bc (bx y) (some (.wY [])) (BD C st op):=by cases y<;>rfl
end
@[simp]theorem zir(y:Bool)(a b:O):ak (bc y a b)=bc y (ak a) (ak b):=by cases y<;>rfl
@[simp]theorem zlE{α:Type}(y:Bool)(a b:α):bc y (some a) (some b)=some (bc y a b):=by cases y<;>rfl
@[simp]theorem zjG(y z:Bool)(w:O):JQ (some (.v (.bool y))) (some (bc (bx y) (.v (.bool z)) w)) (some (.v (.bool false)))=some (.v (.bool (y&&z))):=by cases y<;>rfl
@[simp]theorem zlF(y z:Bool)(w:O):JQ (some (.v (.bool y))) (some (.v (.bool true))) (some (bc (bx y) w (.v (.bool z))))=some (.v (.bool (y||z))):=by cases y<;>rfl
@[simp]theorem zjH{α:Type}(y c:Bool)(a b d0 d:α):bc y (bc c (bc y a b) d) d0=bc y (bc c a d) d0:=by cases y<;>rfl
@[simp]theorem zjI{α:Type}(y c:Bool)(a b d0 d:α):bc y (bc c d (bc y a b)) d0=bc y (bc c d a) d0:=by cases y<;>rfl
@[simp]theorem zjJ{α:Type}(y c:Bool)(a b d e:α):bc y d (bc c (bc y a b) e)=bc y d (bc c b e):=by cases y<;>rfl
@[simp]theorem zjK{α:Type}(y c:Bool)(a b d e:α):bc y d (bc c e (bc y a b))=bc y d (bc c e b):=by cases y<;>rfl
@[simp]theorem zjL{α:Type}(y c d:Bool)(a b d0 e f:α):bc y (bc c (bc d (bc y a b) f) e) d0=bc y (bc c (bc d a f) e) d0:=by cases y<;>rfl
@[simp]theorem zjM{α:Type}(y c d:Bool)(a b d0 e f:α):bc y (bc c (bc d f (bc y a b)) e) d0=bc y (bc c (bc d f a) e) d0:=by cases y<;>rfl
@[simp]theorem zjN{α:Type}(y c d:Bool)(a b d0 e f:α):bc y (bc c e (bc d (bc y a b) f)) d0=bc y (bc c e (bc d a f)) d0:=by cases y<;>rfl
@[simp]theorem zjO{α:Type}(y c d:Bool)(a b d0 e f:α):bc y (bc c e (bc d f (bc y a b))) d0=bc y (bc c e (bc d f a)) d0:=by cases y<;>rfl
@[simp]theorem zjP{α:Type}(y c d:Bool)(a b e f g:α):bc y e (bc c (bc d (bc y a b) g) f)=bc y e (bc c (bc d b g) f):=by cases y<;>rfl
@[simp]theorem zis{α:Type}(y c d:Bool)(a b e f g:α):bc y e (bc c (bc d g (bc y a b)) f)=bc y e (bc c (bc d g b) f):=by cases y<;>rfl
@[simp]theorem zit{α:Type}(y c d:Bool)(a b e f g:α):bc y e (bc c f (bc d (bc y a b) g))=bc y e (bc c f (bc d b g)):=by cases y<;>rfl
@[simp]theorem ziu{α:Type}(y c d:Bool)(a b e f g:α):bc y e (bc c f (bc d g (bc y a b)))=bc y e (bc c f (bc d g b)):=by cases y<;>rfl
section
variable(P:Program)(C:Ctx)(Y:Hp)(Z:Nat)(t u:TypeId)(y:Bool)(a b:O)
@[simp]theorem zlG:Zm P Y t (bc y a b)=bc y (Zm P Y t a) (Zm P Y t b):=by cases y<;>rfl
@[simp]theorem zlH(o:BinOp)(x:O):ZZ P o t (bc y a b) x=bc y (ZZ P o t a x) (ZZ P o t b x):=by cases y<;>rfl
@[simp]theorem zlI(o:BinOp)(x:O):ZZ P o t x (bc y a b)=bc y (ZZ P o t x a) (ZZ P o t x b):=by cases y<;>rfl
@[simp]theorem zjQ(c:Bool)(o:BinOp)(x:O):X5 c P o t (bc y a b) x=bc y (X5 c P o t a x) (X5 c P o t b x):=by cases y<;>rfl
@[simp]theorem zjR(c:Bool)(o:BinOp)(x:O):X5 c P o t x (bc y a b)=bc y (X5 c P o t x a) (X5 c P o t x b):=by cases y<;>rfl
@[simp]theorem znI(o:UnOp):unA o (bc y a b)=bc y (unA o a) (unA o b):=by cases y<;>rfl
@[simp]theorem zlJ:cq P t u (bc y a b)=bc y (cq P t u a) (cq P t u b):=by cases y<;>rfl
@[simp]theorem zcM(f:Nat):jt P t f (bc y a b)=bc y (jt P t f a) (jt P t f b):=by cases y<;>rfl
@[simp]theorem zfn(f:Nat):QJ P t f (bc y a b)=bc y (QJ P t f a) (QJ P t f b):=by cases y<;>rfl
@[simp]theorem zcl(x:O):q6 P Y t (bc y a b) x=bc y (q6 P Y t a x) (q6 P Y t b x):=by cases y<;>rfl
@[simp]theorem zcm(x:O):q6 P Y t x (bc y a b)=bc y (q6 P Y t x a) (q6 P Y t x b):=by cases y<;>rfl
@[simp]theorem ziL(x:O):WM P t (bc y a b) x=bc y (WM P t a x) (WM P t b x):=by cases y<;>rfl
@[simp]theorem ziM(x:O):WM P t x (bc y a b)=bc y (WM P t x a) (WM P t x b):=by cases y<;>rfl
@[simp]theorem zmG:VK P t (bc y a b)=bc y (VK P t a) (VK P t b):=by cases y<;>rfl
@[simp]theorem ziN(lo hi:Option (Option O)):jO P Y t (bc y a b) lo hi=bc y (jO P Y t a lo hi) (jO P Y t b lo hi):=by cases y<;>rfl
@[simp]theorem ziO(x:O)(hi:Option (Option O)):jO P Y t x (some (some (bc y a b))) hi=bc y (jO P Y t x (some (some a)) hi) (jO P Y t x (some (some b)) hi):=by cases y<;>rfl
@[simp]theorem ziP(x:O)(lo:Option (Option O)):jO P Y t x lo (some (some (bc y a b)))=bc y (jO P Y t x lo (some (some a))) (jO P Y t x lo (some (some b))):=by cases y<;>rfl
@[simp]theorem zgB(i:Nat):K9 i (bc y a b)=bc y (K9 i a) (K9 i b):=by cases y<;>rfl
@[simp]theorem zjS(p q:Option O):JQ (some (bc y a b)) p q=bc y (JQ (some a) p q) (JQ (some b) p q):=by cases y<;>rfl
@[simp low] theorem zjT(p q:Option O):JQ p (some (bc y a b)) q=bc y (JQ p (some a) q) (JQ p (some b) q):=by cases y<;>rfl
@[simp low] theorem zjU(p q:Option O):JQ p q (some (bc y a b))=bc y (JQ p q (some a)) (JQ p q (some b)):=by cases y<;>rfl
@[simp]theorem zjV(c:Bool)(d:List Nat)(F:zb->Option O)(l:zb):zf c d F (bc y a b::l) Y Z=bc y (zf c d F (a::l) Y Z) (zf c d F (b::l) Y Z):=by cases y<;>rfl
@[simp]theorem zjW(c:Bool)(d:List Nat)(F:zb->Option O)(x:O)(l:zb):zf c d F (x::bc y a b::l) Y Z=bc y (zf c d F (x::a::l) Y Z) (zf c d F (x::b::l) Y Z):=by cases y<;>rfl
@[simp]theorem zjX(c:Bool)(d:List Nat)(F:zb->Option O)(x z:O)(l:zb):zf c d F (x::z::bc y a b::l) Y Z=bc y (zf c d F (x::z::a::l) Y Z) (zf c d F (x::z::b::l) Y Z):=by cases y<;>rfl
end
@[simp]theorem zmH{α c:Type}(y:Bool)(f:α->c)(a b:Option α):(bc y a b).map f=bc y (a.map f) (b.map f):=by cases y<;>rfl
@[simp]theorem zlK{α c:Type}(y:Bool)(f:α->Option c)(a b:Option α):(bc y a b).bind f=bc y (a.bind f) (b.bind f):=by cases y<;>rfl
attribute [simp] BD
variable{dr:Prop}
def Ex(k:Nat)(D:List (Tmp×Tmp))(i:Nat):List (Tmp×Tmp):=if i=k then D else[]
@[simp]theorem zgC(P:Program)(l:Qq)(k:Nat)(D:List (Tmp×Tmp))(i:Nat):(VU P l (Ex k D)).dyn i=if i=k then D else[]:=rfl
@[simp]theorem TR(P:Program)(l:Qq)(k:Nat)(D:List (Tmp×Tmp))(i:Nat)(a:Array Oper)(d:Bool)(st:St)(K:Exit->St->Prop)(h:¬i=k):ZY (VU P l (Ex k D)) (.region i a d) st K=uG (VU P l (Ex k D)) a a.toList st (K7 K):=JP _ i a d st K (by simp[h]) rfl
theorem oP{a b:Tmp}{st:St}{id i j id' i' j':Nat}{blk:kV}(d:st.U a=.ref id i j)(e:st.U b=.ref id' i' j')(f:id≠id')(g:st.Y id'=some blk)(h:blk.arr=false):YV [(a,b)] st:=by
 intro p Y;obtain rfl:=jG.1 Y;intro k l m c;rw[d]at c;injection c with c _ _
 subst c;exact⟨id',i',j',blk,e,f,g,h⟩
theorem oQ{w:World}{S:Nat->Prop}{G:Nat->GI}{Z:Nat}:∀{us vs:List Value},(∀u∈us,lit u=true)->Zip (qx w S G Z) (us.map O.v) vs->vs=us
 |[],vs,_,h=>by have:=h.1;simp at this;exact qv.1 this.symm
 |u::us,vs,a,h=>by
  obtain⟨v,b,rfl,d,e⟩:=h.kc;rw[oQ (fun x f=>a x (by simp[f])) e];congr 1;cases d with
  |c g=>exact g.yq.1
theorem BE{P:Program}{g:FuncId}{F:zb->Option O}(j:∃fn,P.funcs[g]?=some fn/\(fn.name== "runtime.NumGoroutine")=false/\fn.body.isNone=false)
  (h:∀args r,F args=some r->∃us:List Value,args=us.map O.v/\(∀u∈us,lit u=true)/\∃v,r=.v v/\lit v=true/\∀w,Calls P g us.toArray w fun e w'=>e=.returned v/\w'=w):xB dr P g (zf false [] F):=by
 refine⟨j,?_⟩;intro args Y Z r E H hs w S G vs hi q;unfold zf at hs;split at hs
 ·rename_i k Y1 m;split at hs
  ·rename_i I hF;obtain⟨us,e,s,v,rfl,t,z⟩:=h _ _ hF;have A:yP [] k=k:=by cases k<;>rfl
   rw[A]at e;subst e;have d:args=us.map O.v:=by
    have n:∀(args:zb) (us:List Value) (Y1:Hp),zv Y args=some (us.map O.v,Y1)->args=us.map O.v:=by
     intro args
     induction args with
     |nil=>intro us Y1 b;simp only[zv]at b;injection b with b;injection b with b _
     |cons x l B=>
      intro us Y1 b;simp only[zv]at b;split at b
      ·rename_i y Y2 a;split at b
       ·rename_i J o p;injection b with b
        injection b with b _;cases us with
        |nil=>simp at b
        |cons u us=>
         simp only[wD,zh]at b;obtain⟨rfl,rfl⟩:=b;have C:x=.v u/\Y2=Y:=by
          unfold qH at a;split at a
          ·split at a
           ·injection a with a;injection a with a _;cases a
           ·cases a
          ·unfold yf at a;split at a<;>first
            |(split at a<;>first|(split at a<;>first|(injection a with a;injection a with a _;cases a;done)|cases a)|cases a)
            |(injection a with a;injection a with i f;first|(exact⟨by rw[<-i],f.symm⟩)|cases i)
            |cases a
         obtain⟨rfl,rfl⟩:=C;rw[B us o p];rfl
       ·cases b
      ·cases b
    exact n args us Y1 m
   subst d;simp only[O.flat,true_or,qA]at hs;injection hs with hs
   injection hs with i f;injection f with f D;subst i;subst f;subst D;rw[oQ s q];refine(z w).mono fun e w' b=>?_
   obtain⟨rfl,rfl⟩:=b;exact⟨v,S,G,rfl,vA.refl hi,.c (.v t)⟩
  ·cases hs
 ·cases hs
theorem aq:∀(l cs:zb) (off:Nat),off+l.length<=cs.length->jz cs off l=cs.take off++l++cs.drop (off+l.length)
 |[],cs,off,_=>by simp
 |x::l,cs,off,h=>by
  simp only[zV]at h;rw[jz,aq l (cs.set off x) (off+1) (by simp;omega)];have b:(cs.set off x).take (off+1)=cs.take off++[x]:=by
   rw[zR (by simp;omega)];have c:(cs.set off x).take off=cs.take off:=by
    apply List.ext_getElem?;intro j;simp only[qN,List.getElem?_set];by_cases a:j<off
    ·simp[a,show¬off=j by omega]
    ·simp[a]
   rw[c];simp
  have d:(cs.set off x).drop (off+1+l.length)=cs.drop (off+(x::l).length):=by rw[List.drop_set_of_lt (by omega)];simp only[zV];congr 1;omega
  rw[b,d];simp
@[simp]theorem TS(z cs:zb)(h:cs.length=z.length):jz z 0 cs=cs:=by rw[aq cs z 0 (by omega)];simp[h]
@[simp]theorem zcn(x:O)(z cs:zb)(h:cs.length=z.length):jz (x::z) 1 cs=x::cs:=by rw[aq cs (x::z) 1 (by simp;omega)];simp[show 1+cs.length=z.length+1 by omega]
@[simp]theorem zb9(U:Nat->O):AM.get U (.const .nilIface)=some (.v .nilIface):=rfl
section
variable(C:Ctx)(ρ:Operand->Option O)(Y:Hp)(Z:Nat)
def I3:O->Option O
 | .ref id i j=>some (.ref id i j)
 | .ptr cs=>some (.ptr cs)
 |_=>none
@[simp]theorem zgD(id i j:Nat):I3 (.ref id i j)=some (.ref id i j):=rfl
@[simp]theorem zgE(cs:zb):I3 (.ptr cs)=some (.ptr cs):=rfl
@[simp]theorem zfo(x:Operand):qf C ρ Y Z (.nilCheck x)=(do let p <-ρ x;let r <-I3 p;some (r,Y,Z)):=by
 simp only[qf];cases ρ x with
 |none=>rfl
 |some p=>cases p<;>rfl
end
theorem TT{α:Type}(f:Nat->α)(k:Nat)(x:α)(h:f k=x):qR f k x=f:=by
 funext i;by_cases e:i=k
 ·subst e;simp[h]
 ·simp[e]
@[simp]theorem zjY(i:Nat):O.cells (.mp i)=[.mp i]:=rfl
@[simp]theorem ziQ(i:Nat):O.yo (.mp i)=true:=rfl
variable{dr:Prop}
section
variable{C:Ctx}{pf:FuncId->Bool}{f:FuncId}{fn:Func}{code:Code}
theorem BF(hg:Qn dr C pf)(s:gD C pf f fn code)(k:Bool)(ns:List Nat)(F:zb->Option O)
  (hF:∀args r,F args=some r->∀(w:World) (S:Nat->Prop) (vs:List Value),Zip (yb w S) args vs->∃a t,Zip (yb w S) a vs/\a.length<=fn.ntmps/\zr C fn a=some t/\∀(w:World) (S:Nat->Prop) (u:Value),yb w S t u->yb w S r u):xB dr C.P f (zf k ns F):=by
 refine⟨⟨fn,s.func,s.name,by rw[s.body];rfl⟩,?_⟩;intro args Y Z r Y' Z' h w S G vs hi hz;unfold zf at h;split at h
 ·rename_i aZ Y1 z;split at h
  ·rename_i t A;obtain⟨S1,y,B,D⟩:=kx (dr:=dr) hi z hz;obtain⟨a,rr,E,hn,d,H⟩:=hF _ t A w S1 vs (YA B);unfold zr at d;split at d
   ·rename_i x hpe nxe I;obtain⟨⟨r1,hpf1⟩,J,l⟩:=qh d;simp only at l;subst l;refine(Qx hg s I hn y.inv.st y.inv.oa E).mono fun e w' hh=>?_
    obtain⟨v,S',G',he,fr,m,hx,hs0,K,_⟩:=hh;obtain⟨S2,k2,L⟩:=Jp (dr:=dr) m J hx;have M:=H _ _ _ L;have n:∀b,S2 b->S1 b\/(w.heap.size<=b/\b<w'.heap.size):=by
     intro b j;have o:=k2.inv.st b j;rcases k2.from_ b j with h1|⟨id,blk,h1,rfl⟩|h1
     ·rcases K b h1 with N|N
      ·exact .inl N
      ·exact .inr ⟨N,o⟩
     ·rcases Nat.lt_or_ge (G' id).g w.heap.size with h3|h3
      ·rename_i p;have:=p id blk h1;omega
      ·exact .inr ⟨h3,o⟩
     ·exact absurd h1 (by omega)
    split at h
    ·rename_i i;injection h with h
     injection h with Q h;injection h with R T;subst Q;subst R;subst T;refine⟨v,_,G,he,vA.outer hi fr,.c ?_⟩;rcases i with W|X
     ·exact oM M W
     ·have q:=D X;exact M.mono fun b j=>⟨by rw[<-q];exact n b j,rfl⟩
    ·split at h
     ·injection h with h;injection h with Q h;injection h with R T;subst Q;subst R;subst T;exact⟨v,_,G,he,y.trans (vA.outer y.inv fr),.c (M.mono fun b j=>⟨n b j,rfl⟩)⟩
     ·cases h
   ·cases d
  ·cases h
 ·cases h
inductive lF (s:Nat):List (List O)->O->Prop
 |nil:lF s [] .nil
 |em:lF s [] .em
 |sl {c:List O} {es:List (List O)}:lF s (c::es) (.sl s (c::es))
theorem Ey{w:World}{S:Nat->Prop}{s:Nat}{es:List zb}{u:Value}(h:yb w S (.sl s es) u):∃y,lF s es y/\yb w S y u:=by
 cases es with
 |cons c es=>exact⟨_,.sl,h⟩
 |nil=>
  cases h with
  |sl us a d b e f g=>
   rename_i A cap;cases A with
   |none=>have:=a rfl;subst this;exact⟨.nil,.nil,.nil⟩
   |some ad=>exact⟨.em,.em,.em b⟩
theorem ar{w:World}{S:Nat->Prop}{s:Nat}{es:List zb}{y:O}{u:Value}(h:lF s es y)(a:yb w S y u):yb w S (.sl s es) u:=by
 cases h with
 |nil=>cases a;exact .sl (es:=[]) (fun _ _=>undef) (by simp) (by simp) (by simp[maxLen]) (by simp) (by simp) (by simp)
 |em=>
  cases a with
  |em b=>exact .sl (es:=[]) (fun _ _=>undef) (by simp) (by simp) b (by simp) (by simp) (by simp)
 |sl=>exact a
theorem lR{w:World}{S:Nat->Prop}{cs:zb}{u:Value}(h:yb w S (.agg cs) u){j s:Nat}{es:List zb}(c:cs[j]?=some (.sl s es)):∃y,lF s es y/\yb w S (.agg (cs.set j y)) u:=by
 cases h with
 |agg f d=>
  rename_i us;have g:j<cs.length:=(zn.1 c).1;obtain⟨y,i,l⟩:=Ey (d j _ us[j] c (by simp));refine⟨y,i,.agg (by simpa using f) fun k m u a b=>?_⟩;rw[List.getElem?_set]at a;split at a
  ·rename_i e;subst e;injection a with a
   subst a;rw[QX (by omega)]at b;injection b with b
   subst b;exact l
  ·exact d k m u a b
section
variable{P:Program}{Y:Hp}{Z:Nat}{t:TypeId}{s e:Nat}{es:List zb}{y:O}
theorem lF.cell(h:lF s es y):y.yo=true:=by cases h<;>rfl
end
theorem wg.more{Y:Hp}{Z e s:Nat}{v:O}{xs:List zb}(h:wg Y Z e s v xs)(b:Option kV):wg (qR Y Z b) (Z+1) e s v xs:=by
 rcases h with⟨rfl,rfl⟩|⟨id,c,rfl,a⟩
 ·exact .inl ⟨rfl,rfl⟩
 ·exact .inr ⟨id,by omega,rfl,by rw[zt _ _ _ _ (by omega)];exact a⟩
theorem xE(g:Qn dr C pf)(c:Q9 C pf f fn)(b:Bool)(d:List Nat)(F:zb->Option O)
  (hF:∀args r,F args=some r->∀(w:World) (S:Nat->Prop) (vs:List Value),Zip (yb w S) args vs->∃a e,Zip (yb w S) a vs/\a.length<=fn.ntmps/\zr C fn a=some e/\∀(w:World) (S:Nat->Prop) (u:Value),yb w S e u->yb w S r u):xB dr C.P f (zf b d F):=
 let⟨_,c⟩:=c
 BF g c b d F hF
end
variable{dr:Prop}
def WS(P:Program)(l:Qq)(k:Nat)(L:List Tmp)(b:List Nat):Ctx:=⟨P,lookup l,fun _=>[],fun i=>if i=k then L else[],fun g=>b.contains g,fun _=>[],fun _=>none⟩
@[simp]theorem zjZ(P:Program)(l:Qq)(k:Nat)(L:List Tmp)(b:List Nat):(WS P l k L b).P=P:=rfl
@[simp]theorem zj0(P:Program)(l:Qq)(k:Nat)(L:List Tmp)(b:List Nat)(Y:Hp)(Z g:Nat)(x y xs:zb):kd (WS P l k L b) Y Z (some (.fn (.func g) x y)) xs=(lookup l g).bind fun s=>s (x++xs++y) Y Z:=by unfold kd WS;simp only;cases lookup l g<;>rfl
@[simp]theorem TU(P:Program)(l:Qq)(k:Nat)(L:List Tmp)(b:List Nat)(i:Nat)(a:Array Oper)(d:Bool)(st:St)(K:Exit->St->Prop)(h:¬i=k):ZY (WS P l k L b) (.region i a d) st K=uG (WS P l k L b) a a.toList st (K7 K):=
 JP _ i a d st K rfl (by simp[WS,h])
theorem YY{P:Program}{l:Qq}{k:Nat}{L:List Tmp}{b:List Nat}{a:Array Oper}{d:Bool}{st:St}{K:Exit->St->Prop}(h:QI L st):ZY (WS P l k L b) (.region k a d) st K=uG (WS P l k L b) a a.toList st (K7 K):=
 Yy _ k a d st K (fun _ h=>by cases h) (by simpa[WS]using h)
def I4(P:Program)(l:Qq)(k:Nat)(t:Tmp):Ctx:=⟨P,lookup l,fun _=>[],fun _=>[],fun _=>false,fun i=>if i=k then[t]else[],fun _=>none⟩
@[simp]theorem zj1(P:Program)(l:Qq)(k:Nat)(t:Tmp):(I4 P l k t).P=P:=rfl
@[simp]theorem zj2(P:Program)(l:Qq)(k:Nat)(t:Tmp)(Y:Hp)(Z g:Nat)(x y xs:zb):kd (I4 P l k t) Y Z (some (.fn (.func g) x y)) xs=(lookup l g).bind fun s=>s (x++xs++y) Y Z:=by unfold kd I4;simp only;cases lookup l g<;>rfl
def df(b:List Nat):Qq->Prop
 |[]=>True
 |(g,s)::l=>(b.contains g=true->Yh s)/\df b l
theorem eG{P:Program}{l:Qq}{q:List Nat}{k:Nat}{L:List Tmp}{b:List Nat}(d:P.follows .mixedOrders=true)(h:de dr P q l)(f:df b l):Qn dr (WS P l k L b) (fun g=>q.contains g):=by
 let g:=zw d h;refine⟨g.spec,g.quiet,g.mixed,?_,fun _ _ h=>by cases h⟩;have c:∀l:Qq,df b l->∀g s,b.contains g=true->lookup l g=some s->Yh s:=by
  intro l
  induction l with
  |nil=>intro _ g s _ h;cases h
  |cons x l i=>
   obtain⟨k,sp⟩:=x;rintro⟨j,m⟩ g s a hs;simp only[lQ]at hs;split at hs
   ·rename_i e;injection hs with hs
    subst hs;subst e;exact j a
   ·exact i m g s a hs
 exact fun g s a hs=>c l f g s a hs
theorem au:∀{xs ys:zb} {Y Y1:Hp},zv Y xs=some (ys,Y1)->∀{id:Nat} {b:kV},Y id=some b->b.arr=false->Y1 id=some b
 |[],ys,Y,Y1,h,id,b,a,c=>by simp only[zv]at h;injection h with h;injection h with _ h;subst h;exact a
 |x::l,ys,Y,Y1,h,id,b,a,c=>by
  simp only[zv]at h;split at h
  ·rename_i y Y2 d;split at h
   ·rename_i r e f;injection h with h;injection h with _ h;subst h
    exact au f (KJ d a c) c
   ·cases h
  ·cases h
def qW(a r:O):Prop:=∀(w:World) (S:Nat->Prop) (u:Value),yb w S a u->yb w S r u
def zj3(r:O)(x:O)(Y:Hp)(_:Nat):Prop:=∃a,(AM.freeze Y x).map (·.1)=some a/\qW a r
theorem kB{C:Ctx}{fn:Func}{code:Code}{args:zb}{r:O}(b:fn.body=some code)
  (h:ZY C code ⟨vn args,fun _=>none,0⟩ (VS C.P fn (zj3 r))):∃a,zr C fn args=some a/\qW a r:=by
 obtain⟨x,f,g,c,a,d,e⟩:=qw b h;exact⟨a,by unfold zr;simp only[c];exact d,e⟩
theorem BG{w:World}{S:Nat->Prop}{s:Nat}{xs:List zb}{y:O}{u:Value}(h:y=.nil/\xs=[]\/y=.sl s xs)(a:yb w S y u):yb w S (.sl s xs) u:=by
 rcases h with⟨rfl,rfl⟩|rfl
 ·exact ar .nil a
 ·exact a
theorem qW.refl(x:O):qW x x:=fun _ _ _ h=>h
theorem qW.cZ{s:Nat}{xs:List zb}{y:O}(h:y=.nil/\xs=[]\/y=.sl s xs):qW y (.sl s xs):=fun _ _ _ a=>BG h a
inductive ki:List O->List O->Prop
 |nil:ki [] []
 |cons {x y:O} {xs ys:List O}:qW x y->ki xs ys->ki (x::xs) (y::ys)
theorem ki.length{xs ys:zb}(h:ki xs ys):xs.length=ys.length:=by
 induction h with
 |nil=>rfl
 |cons _ _ a=>simp[a]
theorem ki.get{xs ys:zb}(h:ki xs ys):∀{j:Nat} {x y:O},xs[j]?=some x->ys[j]?=some y->qW x y:=by
 induction h with
 |nil=>intro j x y h;cases h
 |cons c _ d=>
  intro j x y a b;cases j with
  |zero=>simp at a b;subst a;subst b;exact c
  |succ j=>exact d (by simpa using a) (by simpa using b)
theorem ki.agg{xs ys:zb}(h:ki xs ys):qW (.agg xs) (.agg ys):=by
 intro w S u c;cases c with
 |agg d e=>
  refine .agg (by rw[<-h.length];exact d) fun j g u b f=>?_
  have a:j<xs.length:=by rw[h.length];exact(zn.1 b).1
  exact h.get (zq a) b _ _ _ (e j _ u (zq a) f)
theorem ki.wY{xs ys:zb}(h:ki xs ys):qW (.wY xs) (.wY ys):=by
 intro w S u c;cases c with
 |wY d e=>
  refine .wY (by rw[<-h.length];exact d) fun j g u b f=>?_
  have a:j<xs.length:=by rw[h.length];exact(zn.1 b).1
  exact h.get (zq a) b _ _ _ (e j _ u (zq a) f)
theorem wg.at_{Y:Hp}{Z e s:Nat}{v:O}{xs:List zb}(h:wg Y Z e s v xs)(a:0<xs.length):∃id,id<Z/\v=.own id 0 xs.length/\Y id=some ⟨e,s,true,xs⟩:=by
 rcases h with⟨rfl,rfl⟩|h
 ·simp at a
 ·exact h
theorem wg.same{Y a:Hp}{Z b e s:Nat}{v:O}{xs:List zb}(h:wg Y Z e s v xs)(f:Z<=b)(c:∀id n,v=.own id 0 n->a id=Y id):wg a b e s v xs:=by
 rcases h with⟨rfl,rfl⟩|⟨id,g,rfl,d⟩
 ·exact .inl ⟨rfl,rfl⟩
 ·exact .inr ⟨id,by omega,rfl,by rw[c id _ rfl];exact d⟩
variable{dr:Prop}
def n1(s:Nat):O->O
 | .nil=>.sl s []
 | .em=>.sl s []
 |x=>x
@[simp]theorem zmI(s:Nat):n1 s .nil=.sl s []:=rfl
@[simp]theorem znJ(s:Nat):n1 s .em=.sl s []:=rfl
@[simp]theorem znK(s t:Nat)(es:List zb):n1 s (.sl t es)=.sl t es:=rfl
@[simp]theorem n1_v(s:Nat)(x:Value):n1 s (.v x)=.v x:=rfl
def Wa:List (Option Nat)->zb->zb
 |some s::l,x::xs=>n1 s x::Wa l xs
 |none::l,x::xs=>x::Wa l xs
 |_,xs=>xs
inductive Sh where
 |a
 |g (p:List (Option Nat))
 |s (n:Nat) (p:List (Option Nat))
def Sh.fix:Sh->O->O
 | .g p,.agg cs=>.agg (Wa p cs)
 | .s _ p,.sl m es=>.sl m (es.map (Wa p))
 | .s n _,x=>n1 n x
 |_,x=>x
@[simp]theorem Sh.zo9(x:O):Sh.fix .a x=x:=by cases x<;>rfl
@[simp]theorem Sh.zpa(p:List (Option Nat))(cs:zb):Sh.fix (.g p) (.agg cs)=.agg (Wa p cs):=rfl
@[simp]theorem Sh.sO(n m:Nat)(p:List (Option Nat))(es:List zb):Sh.fix (.s n p) (.sl m es)=.sl m (es.map (Wa p)):=rfl
@[simp]theorem Sh.zms(n:Nat)(p:List (Option Nat)):Sh.fix (.s n p) .nil=.sl n []:=rfl
@[simp]theorem Sh.znz(n:Nat)(p:List (Option Nat)):Sh.fix (.s n p) .em=.sl n []:=rfl
attribute [simp] Wa
def eH:List Sh->zb->zb
 |h::l,x::xs=>h.fix x::eH l xs
 |_,xs=>xs
attribute [simp] eH
theorem Pj(s:Nat)(x:O):qW x (n1 s x):=by
 intro w S u h;cases x with
 |nil=>exact ar .nil h
 |em=>exact ar .em h
 |_=>exact h
theorem xS:∀(p:List (Option Nat)) (cs:zb),(Wa p cs).length=cs.length
 |[],cs=>by cases cs<;>rfl
 |none::p,[]=>rfl
 |some s::p,[]=>rfl
 |none::p,x::cs=>by simp[xS p cs]
 |some s::p,x::cs=>by simp[xS p cs]
theorem ZP:∀(p:List (Option Nat)) (cs:zb),ki cs (Wa p cs)
 |[],[]=>.nil
 |[],x::cs=>by have:=ZP [] cs;rw[show Wa [] cs=cs by cases cs<;>rfl]at this;exact .cons (qW.refl x) this
 |none::p,[]=>.nil
 |some s::p,[]=>.nil
 |none::p,x::cs=>.cons (qW.refl x) (ZP p cs)
 |some s::p,x::cs=>.cons (Pj s x) (ZP p cs)
theorem VW(h:Sh)(x:O):qW x (h.fix x):=by
 intro w S u f;cases h with
 |a=>simpa using f
 |g p=>
  cases x with
  |agg cs=>exact(ZP p cs).agg w S u f
  |_=>exact f
 |s n p=>
  cases x with
  |sl m es=>
   cases f with
   |sl us o q r t v y=>
    rename_i A cap;have:=yb.sl (w:=w) (S:=S) (es:=es.map (Wa p)) (A:=A) (cap:=cap) (s:=m) us o (by simpa using q) r (fun c z=>by
     obtain⟨b,d,rfl⟩:=wA.1 z;rw[xS];exact t b d) (fun i j c B hi l=>by
     rw[qQ]at hi;obtain⟨b,d,rfl⟩:∃b,es[i]?=some b/\Wa p b=c:=by
      cases k:es[i]? with
      |none=>rw[k]at hi;cases hi
      |some b=>rw[k]at hi;injection hi with hi;exact⟨b,rfl,hi⟩
     have e:j<b.length:=by have:=(zn.1 l).1;rwa [xS]at this
     exact v i j b _ d (zq e)) (fun i j c B hi l=>by
     rw[qQ]at hi;obtain⟨b,d,rfl⟩:∃b,es[i]?=some b/\Wa p b=c:=by
      cases k:es[i]? with
      |none=>rw[k]at hi;cases hi
      |some b=>rw[k]at hi;injection hi with hi;exact⟨b,rfl,hi⟩
     have e:j<b.length:=by have:=(zn.1 l).1;rwa [xS]at this
     exact(ZP p b).get (zq e) l _ _ _ (y i j b _ d (zq e)))
    rw[jL]at this;exact this
  |nil=>exact ar .nil f
  |em=>exact ar .em f
  |_=>exact f
theorem Va{w:World}{S:Nat->Prop}:∀{hs:List Sh} {xs:zb} {us:List Value},Zip (yb w S) xs us->Zip (yb w S) (eH hs xs) us
 |[],xs,us,h=>by cases xs<;>exact h
 |s::hs,[],us,h=>h
 |s::hs,x::xs,us,h=>by obtain⟨u,a,rfl,b,c⟩:=h.kc;exact .cons (VW s x w S u b) (Va c)
def qG(a:List Sh)(F:zb->Option O):AM.Spec:=zf false [] fun args=>F (eH a args)
theorem y7(a:List Sh)(F:zb->Option O):Yx (qG a F):=zu _ _
theorem yc{C:Ctx}{pf:FuncId->Bool}{f:FuncId}{fn:Func}(c:Qn dr C pf)(d:Q9 C pf f fn)(a:List Sh)(F:zb->Option O)
  (hF:∀args r,F args=some r->args.length<=fn.ntmps/\∃b,zr C fn args=some b/\qW b r):xB dr C.P f (qG a F):=
 xE c d false [] _ fun args r h w S vs e=>by obtain⟨g,b,i,j⟩:=hF _ _ h;exact⟨eH a args,b,Va e,g,i,j⟩
theorem xF{a:List Sh}{F:zb->Option O}{args:zb}{Y:Hp}{Z:Nat}{b:zb}{r:O}(c:zv Y args=some (b,Y))(d:F (eH a b)=some r)(e:r.flat=true\/args.all O.noOwn=true) :
  qG a F args Y Z=some (r,Y,Z):=by
 have f:yP [] b=b:=by cases b<;>rfl
 exact zU c (by rw[f];exact d) e
def av(sh:Sh)(r:O)(x:O)(Y:Hp)(_:Nat):Prop:=∃a,(AM.freeze Y x).map (·.1)=some a/\sh.fix a=r
theorem Wb{C:Ctx}{fn:Func}{code:Code}{args:zb}{sh:Sh}{r:O}(b:fn.body=some code)
  (h:ZY C code ⟨vn args,fun _=>none,0⟩ (VS C.P fn (av sh r))):∃a,zr C fn args=some a/\qW a r:=by
 obtain⟨x,f,g,c,a,d,e⟩:=qw b h;exact⟨a,by unfold zr;simp only[c];exact d,e ▸ VW sh a⟩
def qC(sh:Sh)(r:O)(x:O)(Y:Hp)(_:Nat):Prop:=∃a y,(AM.freeze Y x).map (·.1)=some (.wY [a,y])/\.wY [sh.fix a,y]=r
theorem yZ{C:Ctx}{fn:Func}{code:Code}{args:zb}{sh:Sh}{r:O}(b:fn.body=some code)
  (h:ZY C code ⟨vn args,fun _=>none,0⟩ (VS C.P fn (qC sh r))):∃a,zr C fn args=some a/\qW a r:=by
 obtain⟨x,f,g,c,a,y,d,e⟩:=qw b h;exact⟨.wY [a,y],by unfold zr;simp only[c];exact d,e ▸ (ki.cons (VW sh a) (.cons (qW.refl y) .nil)).wY⟩
theorem xe{P:Program}{g:FuncId}{F:zb->Option O}(j:∃fn,P.funcs[g]?=some fn/\(fn.name== "runtime.NumGoroutine")=false/\fn.body.isNone=false)
  (h:∀args r,F args=some r->∃us:List Value,args=us.map O.v/\(∀u∈us,lit u=true)/\r.flat=true/\∃v,(∀w S,yb w S r v)/\∀w S,OB P w S->Calls P g us.toArray w fun e w'=>e=.returned v/\Fr dr w (fun _=>False) w'):xB dr P g (zf false [] F):=by
 refine⟨j,?_⟩;intro args Y Z r I J hs w S G vs hi s;unfold zf at hs;split at hs
 ·rename_i k Y1 m;split at hs
  ·rename_i K hF;obtain⟨us,e,t,n,v,z,A⟩:=h _ _ hF;have B:yP [] k=k:=by cases k<;>rfl
   rw[B]at e;subst e;have d:args=us.map O.v:=by
    have o:∀(args:zb) (us:List Value) (Y1:Hp),zv Y args=some (us.map O.v,Y1)->args=us.map O.v:=by
     intro args
     induction args with
     |nil=>intro us Y1 b;simp only[zv]at b;injection b with b;injection b with b _
     |cons x l C=>
      intro us Y1 b;simp only[zv]at b;split at b
      ·rename_i y Y2 a;split at b
       ·rename_i L p q;injection b with b
        injection b with b _;cases us with
        |nil=>simp at b
        |cons u us=>
         simp only[wD,zh]at b;obtain⟨rfl,rfl⟩:=b;have D:x=.v u/\Y2=Y:=by
          unfold qH at a;split at a
          ·split at a
           ·injection a with a;injection a with a _;cases a
           ·cases a
          ·unfold yf at a;split at a<;>first
            |(split at a<;>first|(split at a<;>first|(injection a with a;injection a with a _;cases a;done)|cases a)|cases a)
            |(injection a with a;injection a with i f;first|(exact⟨by rw[<-i],f.symm⟩)|cases i)
            |cases a
         obtain⟨rfl,rfl⟩:=D;rw[C us p q];rfl
       ·cases b
      ·cases b
    exact o args us Y1 m
   subst d;simp only[n,true_or,qA]at hs;injection hs with hs
   injection hs with i f;injection f with f E;subst i;subst f;subst E;rw[oQ t s];refine(A w S hi.oa).mono fun e w' b=>?_
   obtain⟨rfl,H⟩:=b;exact⟨v,_,G,rfl,vA.outer hi H,.c (z _ _)⟩
  ·cases hs
 ·cases hs
end Go.AM
namespace Go.Proofs
open Go.Shelf
def Tryz.H8:Go.Shelf.Ren:=⟨fun|213=>143|265=>180|n=>n,fun|9=>9|3=>3|n=>n,fun|n=>n⟩
theorem Tryz.zeT:Go.Proofs.Lays.n213 prog Tryz.H8:={
 mixed:=by kernel_rfl
 f213:=func143.trans (zC some (by kernel_rfl))
 f265:=func180.trans (zC some (by kernel_rfl))
 t3:=underlying3
 a3:=isAgg3
 z3:=sizeOf3
 v3:=zeroValue3
 t9:=underlying9
 a9:=isAgg9
 z9:=sizeOf9
 v9:=zeroValue9}
open Go.RowKit in
theorem Tryz.bytealg_CompareString(a b:ByteArray)(w:World) :
  Calls prog 143 #[.string a,.string b] w fun e w'=>e=.returned (.int .i64 (Lib.compareBytes a.data.toList b.data.toList))/\w'=w:=Any.bytealg_CompareString Tryz.zeT a b w
end Go.Proofs
