/- Lemmas. -/
import Derived.Laws.BytesString
import Derived.Shelf.Small.Strs
import Derived.Shelf.Strconv.Itoa0
import Derived.Ground.Names2Prog
import Derived.Test.YtmdpcoooleipcaaGreatDoorProg
import Derived.Shelf.Strings.Search2
import Derived.Shelf.Strings.Split
import Derived.Shelf.Strings.Trim
import Derived.Shelf.Strconv.Atoi
import Derived.Lib.Split
import Derived.Lib.Replace
import Derived.Lib.CountLaws
import Derived.Lib.TrimByte
import Derived.Lib.ItoaNum
import Derived.Lib.Repeat
import Derived.Lib.Join
import Derived.Test.YtmdpcoooleipcaaGreatDoorG6
set_option maxRecDepth 100000
open Go Proofs Proofs.YtmdpcoooleipcaaGreatDoor Proofs.Tryz RowKit AM SpanLaw Q Zz
open Go.IntKind renaming i64→i6
namespace Go.AM
variable{dr:Prop}
def zN(T:TypeId)(cs:zb):Blk:=⟨T,cs.length,false,[cs]⟩
def cellsOf(T:TypeId)(b:Blk):Option zb:=match b.es with
 |[cs]=>if b.e=T/\b.s=cs.length/\b.arr=false/\cs.all O.isV=true then some cs else none
 |_=>none
theorem YF{T:TypeId}{b:Blk}{cs:zb}(h:cellsOf T b=some cs):b=zN T cs/\cs.all O.isV=true:=by
 obtain⟨e,s,a,es⟩:=b;unfold cellsOf at h;simp only at h;split at h
 ·split at h
  ·rename_i c;obtain⟨d,f,g,i⟩:=c;injection h with h
   subst h;subst d;subst f;subst g;exact⟨rfl,i⟩
  ·cases h
 ·cases h
@[simp]theorem XX(T:TypeId)(cs:zb)(h:cs.all O.isV=true):cellsOf T (zN T cs)=some cs:=by simp only[cellsOf,zN];rw[zl ⟨trivial,trivial,trivial,h⟩]
def eu(T:TypeId)(F:zb->zb->Option (zb×O)):AM.Spec:=fun args Y Z=>match args with
 | .ref id 0 0::rest=>if rest.all O.isV=true then(Y id).bind fun b=>(cellsOf T b).bind fun cs=>(F cs rest).bind fun q=>if q.1.length=cs.length/\q.1.all O.isV=true then some (q.2,qb Y id (some (zN T q.1)),Z)else none else none
 |_=>none
theorem gN{T:TypeId}{F:zb->zb->Option (zb×O)}{id:Nat}{rest cs cs':zb}{Y:Hp}{Z:Nat}{r:O}(a:rest.all O.isV=true)(b:Y id=some (zN T cs))(c:cs.all O.isV=true)(d:F cs rest=some (cs',r))(e:cs'.length=cs.length)(f:cs'.all O.isV=true) :
  eu T F (.ref id 0 0::rest) Y Z=some (r,qb Y id (some (zN T cs')),Z):=by
 simp only[eu,zl a,b,zH,XX T cs c,d];rw[zl ⟨e,f⟩]
def lZ(T:TypeId)(cs':zb)(r x:O)(Y':Hp)(_:Nat):Prop:=∃r0 Y2,AM.freeze Y' x=some (r0,Y2)/\Y2 0=some (zN T cs')/\∀(w:World) (S:Nat->Prop) (v:Value),qO w S r0 v->qO w S r v
theorem wx{T:TypeId}{cs':zb}{Y:Hp}{Z:Nat}{r:O}(a:AM.freeze Y r=some (r,Y))(h:Y 0=some (zN T cs')):lZ T cs' r r Y Z:=⟨r,Y,a,h,fun _ _ _ h=>h⟩
theorem qB{T:TypeId}{cs':zb}{Y Y2:Hp}{Z:Nat}{x r0 r:O}(a:AM.freeze Y x=some (r0,Y2))(h:Y2 0=some (zN T cs')){u:O->O}(b:od u)(c:u r0=r):lZ T cs' r x Y Z:=⟨r0,Y2,a,h,fun w S v d=>c ▸ b w S r0 v d⟩
theorem vr{e x:Int}(h:¬e=x):(e==x)=false:=by simpa using h
def qM(T:TypeId)(cs:zb):Hp:=qb (fun _=>none) 0 (some (zN T cs))
theorem FL{x:O}(h:x.isV=true):∃v,x=.v v:=by
 cases x<;>first
  |exact⟨_,rfl⟩
  |cases h
theorem su{w a:World}{S S':Nat->Prop}{G G':Nat->GI}{Z Z':Nat}{x:O}{u:Value}(b:x.isV=true)(h:zR w S G Z x u):zR a S' G' Z' x u:=by obtain⟨v,rfl⟩:=FL b;obtain⟨rfl,d⟩:=h.wj;exact .c (.v d)
theorem sv{P:Program}{w:World}{S S':Nat->Prop}{G G':Nat->GI}{Z Z':Nat}{b:GI}{T:TypeId}{cs:zb}(a:0<b.s)(n:cs.all O.isV=true)(h:ji P w S G Z b (zN T cs)):ji P w S' G' Z' b (zN T cs):=by
 refine ji.jE a h.bs ⟨h.size a,h.len a,h.fit a,?_⟩;obtain⟨d,o,p,q⟩:=h.row a;refine⟨d,o,p,fun i j c g k l=>?_⟩;obtain⟨u,r,m⟩:=q i j c g k l;have t:c=cs:=by have v:=zI k;simpa[zN]using v
 subst t;have f:=qc.1 n g (zI l);exact⟨u,r,fun e=>by simp[zN]at e,su f m.2.1,m.2.2⟩
section
variable{C:Ctx}{f:FuncId}{fn:Func}{code:Code}
theorem yQ(A:C.P.funcs[f]?=some fn)(U:(fn.name== "runtime.NumGoroutine")=false)(B:fn.body=some code)(T:TypeId)(F:zb->zb->Option (zb×O))
  (hF:∀cs W cs' r,F cs W=some (cs',r)->W.length+1<=fn.ntmps/\Wp dr C fn.ntmps code ⟨ka (.ref 0 0 0::W),qM T cs,1⟩ (KW C.P fn (lZ T cs' r))):yU dr C.P f (eu T F):=by
 refine⟨⟨fn,A,U,by rw[B];rfl⟩,?_⟩;intro args Y Z r Y' Z' h w S G vs i hz;unfold eu at h;split at h
 case h_2=>cases h
 rename_i id rest;obtain⟨u,us,rfl,hu,D⟩:=hz.y8;split at h
 case isFalse=>cases h
 rename_i q;obtain⟨b,E,h⟩:=zT.1 h;obtain⟨cs,Ez,h⟩:=zT.1 h;obtain⟨⟨cs',r0⟩,hF0,h⟩:=zT.1 h;simp only at h;split at h
 case isFalse=>cases h
 rename_i H;injection h with h
 injection h with e1 h;injection h with e2 e3;subst e1;subst e2;subst e3;obtain⟨rfl,hcv⟩:=YF Ez;obtain⟨hn,hW⟩:=hF cs rest cs' r0 hF0;have t:=hu.xT;obtain⟨hid,rfl⟩:=hu.jQ;have hbr:=i.live id _ E;have Q:∀k c,qM T cs k=some c->k=0/\c=zN T cs:=by
  intro k c a;unfold qM qb at a;split at a
  ·injection a with a;exact⟨by assumption,a.symm⟩
  ·cases a
 have I:Inv C.P w S (fun _=>G id) (qM T cs) 1:=⟨i.st,fun k c a=>by rw[(Q k c a).1];omega,fun k c a=>by rw[(Q k c a).2];exact sv t hcv hbr,fun k c a=>i.apart id _ E,fun k k' c c' a z _=>by rw[(Q k c a).1,(Q k' c' z).1],i.KJ⟩
 have hz2:Zip (zR w S (fun _=>G id) 1) (.ref 0 0 0::rest) (.pointer (some ⟨(G id).g,0*(G id).s+0,none⟩)::us):=
  .cons (zR.ref (G:=fun _=>G id) (id:=0) (by omega) t) ⟨D.1,fun j x u h1 h2=>su (qc.1 q x (zI h1)) (D.2 j x u h1 h2)⟩
 refine(XW A B hW I hz2 (by simpa using hn)).mono fun e w' hh=>?_
 obtain⟨x,hpe,nxe,v,S',G',⟨y,Y2,hfz,h0,hup⟩,J,k,hxr⟩:=hh;obtain⟨R,k2,hc⟩:=vZ (dr:=dr) k.inv hfz hxr;have d:=k.trans k2;have K:G' 0=G id:=d.loc 0 (by omega);have l:∀b,yu (qM T cs) (fun _=>G id) b->b=(G id).g:=by rintro b ⟨k,c,a,e⟩;exact e.symm
 have L:¬R (G id).g:=by rw[<-K];exact d.inv.apart 0 _ h0
 have m:∀b,R b->S b\/w.heap.size<=b:=fun b n=>by
  rcases d.from_ b n with h1|h1|h1
  ·exact .inl h1
  ·rw[l b h1]at n;exact(L n).elim
  ·exact .inr h1
 have hS:=d.same I;have o:∀k c,qb Y id none k=some c->(G k).g≠(G id).g:=fun k c a J=>by
  have hne:k≠id:=by rintro rfl;simp at a
  exact hne (i.inj k id c _ (yH a) E J)
 have M:jN dr C.P Y Z S G w (qb Y id none) Z R G w':=by
  refine⟨⟨d.inv.st,fun k c a=>i.top k c (yH a),fun k c a=>?_,fun k c a hs2=>?_,fun k k' c c' a z J=>i.inj k k' c c' (yH a) (yH z) J,i.KJ.mono hS⟩,zi _,fun _ _=>rfl,d.Wa,fun b n=>?_,fun k c a=>.inl ⟨k,c,yH a,rfl⟩,?_⟩
  ·have hl:=i.live k c (yH a);exact hl.mono hS (zi _) (fun _ _=>rfl) (d.fr.block _ hl.lt fun h=>o k c a (l _ h))
  ·rcases m _ hs2 with h1|h1
   ·exact i.apart k c (yH a) h1
   ·have:=(i.live k c (yH a)).lt;omega
  ·rcases m b n with h1|h1
   ·exact .inl h1
   ·exact .inr (.inr h1)
  ·exact⟨d.fr.os,d.fr.tape,d.fr.output,d.fr.size,d.fr.drawn,fun b HG UL=>d.fr.block b HG fun h=>UL ⟨id,_,E,(l b h).symm⟩⟩
 have N:=d.inv.live 0 _ h0;rw[K]at N;have p:=M.ED (id:=id) (b:=zN T cs') E hid (sv t H.2 N) L fun k c a _=>o k c a
 have hpe:qb (qb Y id none) id (some (zN T cs'))=qb Y id (some (zN T cs')):=by
  funext j;by_cases h1:j=id
  ·subst h1;simp
  ·rw[zc _ _ _ _ h1,zc _ _ _ _ h1,zc _ _ _ _ h1]
 rw[hpe]at p;exact⟨v,R,G,J,p,.c (hup _ _ _ hc)⟩
theorem wZ{pf:FuncId->Bool}(d:j9 dr C pf)(b:Kd C pf f fn code)(T:TypeId)(F:zb->zb->Option (zb×O))
  (c:∀cs a cs' r,F cs a=some (cs',r)->a.length+1<=fn.ntmps/\vB C code ⟨ka (.ref 0 0 0::a),qM T cs,1⟩ (KW C.P fn (lZ T cs' r))):yU dr C.P f (eu T F):=
 yQ b.func b.name b.body T F fun cs a cs' r h=>⟨(c cs a cs' r h).1,Wp.of d b.ok (c cs a cs' r h).2⟩
end
open Classical in
noncomputable def fj {α:Type} (encC encA:α->zb) (pre:α->Prop) (out:α->zb×O):zb->zb->Option (zb×O):=fun cs b=>
 if h:∃a,cs=encC a/\b=encA a/\pre a then some (out (Classical.choose h))else none
theorem cq{α:Type}{encC encA:α->zb}{pre:α->Prop}{out:α->zb×O}(d:∀a b,encC a=encC b->encA a=encA b->a=b){a:α}(h:pre a):fj encC encA pre out (encC a) (encA a)=some (out a):=by have c:∃b,encC a=encC b/\encA a=encA b/\pre b:=⟨a,rfl,rfl,h⟩;unfold fj;rw[dif_pos c];have:=wJ c;rw[<-d _ _ this.1 this.2.1]
theorem fk{α:Type}{encC encA:α->zb}{pre:α->Prop}{out:α->zb×O}{cs c:zb}{r:zb×O}(h:fj encC encA pre out cs c=some r):∃a,cs=encC a/\c=encA a/\pre a/\r=out a:=by
 unfold fj at h;split at h
 ·rename_i b;injection h with h
  have:=wJ b;exact⟨_,this.1,this.2.1,this.2.2,h.symm⟩
 ·cases h
def XY(T:TypeId)(F:zb->zb->Option O):AM.Spec:=fun args Y Z=>match args with
 | .ref id 0 0::rest=>if rest.all O.isV=true then(Y id).bind fun b=>(cellsOf T b).bind fun cs=>(F cs rest).map fun r=>(r,Y,Z)else none
 |_=>none
theorem BP{T:TypeId}{F:zb->zb->Option O}{id:Nat}{rest cs:zb}{Y:Hp}{Z:Nat}{r:O}(a:rest.all O.isV=true)(b:Y id=some (zN T cs))(c:cs.all O.isV=true)(d:F cs rest=some r) :
  XY T F (.ref id 0 0::rest) Y Z=some (r,Y,Z):=by
 simp only[XY,zl a,b,zH,XX T cs c,d,zO]
theorem kL(T:TypeId)(F:zb->zb->Option O):xu (XY T F):=by
 intro args Y Z r Y' Z' h;unfold XY at h;split at h
 case h_2=>cases h
 rename_i id rest;split at h
 case isFalse=>cases h
 rename_i d;obtain⟨b,a,h⟩:=zT.1 h;obtain⟨cs,e,h⟩:=zT.1 h;obtain⟨r0,f,h⟩:=zD h;injection h with g h
 injection h with i j;subst g;subst i;subst j;refine⟨⟨rfl,rfl⟩,fun l k=>?_⟩;have c:id≠Z:=by rintro rfl;rw[k]at a;cases a
 simp only[XY,zl d,zc _ _ _ _ c,a,zH,e,f,zO]
theorem l0{P:Program}{f:FuncId}{T:TypeId}{F:zb->zb->Option O}(h:yU dr P f (eu T fun cs g=>(F cs g).map fun r=>(cs,r))):yU dr P f (XY T F):=by
 refine⟨h.1,fun args Y Z r Y' Z' e w S G vs i k=>?_⟩;refine h.2 args Y Z r Y' Z' ?_ w S G vs i k;unfold XY at e;split at e
 case h_2=>cases e
 rename_i id rest;split at e
 case isFalse=>cases e
 rename_i l;obtain⟨b,a,e⟩:=zT.1 e;obtain⟨cs,m,e⟩:=zT.1 e;obtain⟨r0,n,e⟩:=zD e;injection e with o e
 injection e with p q;subst o;subst p;subst q;obtain⟨rfl,c⟩:=YF m;rw[gN (cs':=cs) (r:=r0) l a c (by simp[n]) rfl c];have:qb Y id (some (zN T cs))=Y:=by
  funext j;by_cases d:j=id
  ·subst d;rw[q9,a]
  ·rw[zc _ _ _ _ d]
 rw[this]
theorem BQ{P:Program}{w:World}{S:Nat->Prop}{G:Nat->GI}{Y:Hp}{Z:Nat}(B:Inv P w S G Y Z){d dst e:TypeId}(hs:P.underlying d=some (.slice e))(C:P.underlying e=some (.int .u8))(D:P.underlying dst=some .string){p:O}{u:Value}{l:za}(E:AM.view Y 1 p=some (l.map ao))(F:zR w S G Z p u) :
  (convert d dst u).run P w=.ok (.string ⟨l.toArray⟩) w:=by
 obtain⟨A,c,f,rfl,Q,H⟩:=Ke B E F;have a:∀i,i<l.length->∃b,A=some b/\w.cell? (b.add i)=some (.int .u8 ((l.getD i 0).toNat:Int)):=fun i k=>by obtain⟨b,I,t,J⟩:=H i 0 (ao l[i]) (.v (.int .u8 l[i].toNat)) (by simp[k]) rfl;obtain⟨z,_⟩:=J.2.1.wj;refine⟨b,I,?_⟩;rw[Nat.mul_one,xm]at t z;rw[t,z];simp[List.getD,k]
 rw[yK,run_convert_bytes_string w d dst e _ _ _ hs C D];cases l with
 |nil=>
  cases A with
  |none=>simp[Conv.bytesToString];rfl
  |some b=>simp[Conv.bytesToString,loadCells,loadCellsFrom];rfl
 |cons x l=>
  obtain⟨b,rfl,_⟩:=a 0 (by simp);have K:(loadCells b (x::l).length).run P w=.ok (((x::l).map fun y=>((y.toNat:Nat):Int)).map (Value.int .u8)).toArray w:=by
   have:=run_loadCells_list (P:=P) w b (((x::l).map fun y=>((y.toNat:Nat):Int)).map (Value.int .u8)) (fun j v o=>by
    have g:j<(x::l).length:=by have:=(ze.1 o).1;simpa using this
    obtain⟨L,q,M⟩:=a j g;injection q with q;subst q;rw[M];rw[z8,z8,zm g]at o;simp only[zO,qu]at o;rw[<-o,List.getD,zm g];rfl)
   simpa using this
  have h:∀(m:za) (s:ByteArray),(m.map fun y=>((y.toNat:Nat):Int)).foldl (fun r n=>r.push (UInt8.ofNat n.toNat)) s=⟨s.data++m.toArray⟩:=by
   intro m
   induction m with
   |nil=>intro s;simp
   |cons n m N=>intro s;rw[zL,List.foldl_cons,N];simp[ByteArray.push]
  rw[run_bytesToString w _ _ _ _ K,h];simp[ByteArray.empty,ByteArray.emptyWithCapacity];rfl
section
variable{C:Ctx}{N:Nat}{pf:FuncId->Bool}
theorem KH.SS{g:Array Oper}{i:Nat}{d:Tmp}{x:Operand}{b dst e ty:TypeId}{p:String}{r:Array Edge}{l:List Nat}{st:St}{K:St->Prop}{q:O}{s:za}
  (t:g[i]?=some ⟨some d,.convert b dst x,ty,p,r,none⟩) (u:d<N) (y:get st.X x=some q) (z:AM.view st.Y 1 q=some (s.map ao)) (hs:C.P.underlying b=some (.slice e)) (A:C.P.underlying e=some (.int .u8)) (B:C.P.underlying dst=some .string)
  (h:KH dr C N g l ⟨qb st.X d (str s),st.Y,st.Z⟩ K):KH dr C N g (i::l) st K:=by
 intro D E L F H I a w Q n J;simp only[wpOpsIn,t];obtain⟨S,G,j⟩:=n;rw[bX j.vT,zl (XQ _ _ _ _ _ _)];have o:∀c,(Op.convert b dst x:Op)≠.defer c:=fun c M=>by cases M
 refine⟨fun f _=>trivial,?_⟩;rw[Oper.semAt_eq _ _ _ o];have R:=BQ j.inv hs A B z (Wf j.vT y);have k:=h D E L F H I (a.put (some d) (.string ⟨s.toArray⟩)) w Q ⟨S,G,j.step (dst:=some d) (.refl j.inv) (.c (.v rfl)) (fun _ e=>by cases e;exact u)⟩ J;have m:(execOp a.eval ⟨some d,.convert b dst x,ty,p,r,none⟩).run C.P w=.ok (.value (.string ⟨s.toArray⟩)) w:=by simp[execOp,R,-bind_pure_comp]
 rw[m];exact k
end
end Go.AM
namespace Go.Proofs
open Go.Shelf
def Tryz.oe:Go.Shelf.Ren:=⟨fun|213=>83|265=>122|n=>n,fun|9=>9|3=>3|n=>n,fun|n=>n⟩
theorem Tryz.HJ:Go.Proofs.Lays.n213 prog Tryz.oe:={
 mixed:=by kernel_rfl
 f213:=func83.trans (zk some (by kernel_rfl))
 f265:=func122.trans (zk some (by kernel_rfl))
 t3:=underlying3
 a3:=isAgg3
 z3:=sizeOf3
 v3:=zeroValue3
 t9:=underlying9
 a9:=isAgg9
 z9:=sizeOf9
 v9:=zeroValue9}
open Go.RowKit in
theorem Tryz.bytealg_CompareString(a b:ByteArray)(w:World) :
  Calls prog 83 #[.string a,.string b] w fun e c=>e=.returned (.int .i64 (Lib.compareBytes a.data.toList b.data.toList))/\c=w:=Any.bytealg_CompareString Tryz.HJ a b w
end Go.Proofs
namespace Go.Q
abbrev int(n:Int):O:=.v (.int .i64 n)
abbrev yW(b:Bool):O:=.v (.bool b)
abbrev FM(c:UInt8):O:=.v (.int .u8 c.toNat)
abbrev zX:Nat:=268435456
theorem mixed:prog.follows .mixedOrders=true:=by kernel_rfl
noncomputable abbrev C0:Ctx:=qp prog []
theorem kM:Gd C0:=qH mixed trivial
def F3(f:Int->Int->Int->Bool):zb->Option O
 |[.v (.int .i64 a),.v (.int .i64 b),.v (.int .i64 c)]=>some (.v (.bool (f a b c)))
 |_=>none
def LH(f:Int->Bool):zb->Option O
 |[.v (.int .u8 a)]=>some (.v (.bool (f a)))
 |_=>none
def ZO(n a b:Int):Bool:=decide (a<=n)&&decide (n<=b)
def QU(n:Int):Bool:=decide (97<=n)&&decide (n<=122)||decide (48<=n)&&decide (n<=57)||n==45||n==95
@[simp]theorem T9(f:Int->Int->Int->Bool)(a b c:Int)(Y:Hp)(Z:Nat):zp false [] (F3 f) [.v (.int .i64 a),.v (.int .i64 b),.v (.int .i64 c)] Y Z=some (.v (.bool (f a b c)),Y,Z):=yg rfl rfl (.inl rfl)
@[simp]theorem Ri(f:Int->Bool)(a:Int)(Y:Hp)(Z:Nat):zp false [] (LH f) [.v (.int .u8 a)] Y Z=some (.v (.bool (f a)),Y,Z):=yg rfl rfl (.inl rfl)
theorem BS{f:Int->Int->Int->Bool}{args:zb}{r:O}(h:F3 f args=some r):∃a b c,args=[int a,int b,int c]/\r=yW (f a b c):=by
 unfold F3 at h;split at h
 ·injection h with h;exact⟨_,_,_,rfl,h.symm⟩
 ·cases h
theorem FN{f:Int->Bool}{args:zb}{r:O}(h:LH f args=some r):∃a,args=[.v (.int .u8 a)]/\r=yW (f a):=by
 unfold LH at h;split at h
 ·injection h with h;exact⟨_,rfl,h.symm⟩
 ·cases h
theorem Zw:zh prog 29 (zp false [] (F3 ZO)):=
 jo (fn:=f29) kM (wL func29) false [] _ fun args r h=>by obtain⟨a,b,c,rfl,rfl⟩:=BS h;exact⟨by simp[f29],_,zw rfl (by simp[f29,ZO]),wy _⟩
theorem Wx:zh prog 39 (zp false [] (LH QU)):=
 jo (fn:=f39) kM (wL func39) false [] _ fun args r h=>by obtain⟨a,rfl,rfl⟩:=FN h;exact⟨by simp[f39],_,zw rfl (by simp[f39,QU]),wy _⟩
noncomputable def FS (f:za->Bool):zb->Option O:=qD (α:=za) (fun l=>[str l]) (fun l=>l.length<=zX) (fun l=>yW (f l))
@[simp]theorem vD(f:za->Bool)(l:za)(Y:Hp)(Z:Nat)(h:l.length<=zX):zp false [] (FS f) [str l] Y Z=some (yW (f l),Y,Z):=
 sn l _ _ rfl (fun a b e=>by simp only[zn,z7]at e;exact ya e) h (.inl rfl)
def pr(a b:Nat)(c:UInt8):Bool:=decide (a<=c.toNat)&&decide (c.toNat<=b)
theorem pc(a b:Nat)(c:UInt8):(decide ((c.toNat:Int)<a)||decide ((b:Int)<c.toNat))=!pr a b c:=by rw[vU];simp[pr]
def wi(a b:Nat)(l:za):Bool:=l.all (pr a b)
def LI(l:za):Bool:=wi 33 126 l&&ZO l.length 1 100
def Wy(l:za):Bool:=l.all fun c=>QU c.toNat
def sw:za->Bool
 |[]=>false
 |c::_=>decide ((97:Int)<=c.toNat)&&decide ((c.toNat:Int)<=(122:Int))
def yq(l:za):Bool:=ZO l.length 1 40&&sw l&&Wy l
noncomputable abbrev C1:Ctx:=qp prog [(29,zp false [] (F3 ZO)),(39,zp false [] (LH QU))]
abbrev qRl1:List Nat:=[29,39]
theorem Il:AM.Good C1 (fun g=>qRl1.contains g):=qH mixed ⟨Zw,fun _=>zv _ _,Wx,fun _=>zv _ _,trivial⟩
theorem K0{l:za}{p:UInt8->Bool}{k:Nat}(h:k<l.length):(l.drop k).all p=(p l[k]&&(l.drop (k+1)).all p):=by rw[zj h,wC]
theorem K1{a b:Nat}{l:za}{k:Nat}(h:k<l.length):wi a b (l.drop k)=(pr a b l[k]&&wi a b (l.drop (k+1))):=K0 h
theorem l3{l:za}{k:Nat}(h:k<l.length):Wy (l.drop k)=(QU l[k].toNat&&Wy (l.drop (k+1))):=K0 h
@[simp]theorem Im(a b:Nat):wi a b []=true:=rfl
@[simp]theorem LJ:Wy []=true:=rfl
theorem uc(l:za)(h:l.length<=zX):zM C1 f82 [str l]=some (yW (wi 32 126 l)):=by
 refine zw rfl ?_;unfold zX at h;simp;refine qA (fun k X Y Z=>X 0=str l/\X 5=int l.length/\X 6=int k/\wi 32 126 l=wi 32 126 (l.drop k)) l.length ⟨by simp,by simp,by simp,by simp⟩ ?_;rintro k X Y Z j ⟨d,e,f,b⟩;by_cases a:k<l.length
 ·have i:=wP k;rw[K1 a]at b;have g:=pc 32 126 l[k];simp only[qz]at g;cases c:pr 32 126 l[k]
  ·have b:wi 32 126 l=false:=by rw[b,c];rfl
   simp[d,e,f,a,b,g,c,f82]
  ·simp[d,e,f,a,g,c,i];exact⟨a,by rw[b,c];rfl⟩
 ·obtain rfl:k=l.length:=by omega
  have b:wi 32 126 l=true:=by rw[b,zE];rfl
  simp[d,e,f,b,f82]
theorem l4(l:za)(n:l.length<=zX):zM C1 f31 [str l]=some (yW (yq l)):=by
 refine zw rfl ?_;unfold zX at n;cases e:ZO l.length 1 40
 ·simp[e,yq,f31]
 have a:0<l.length:=by simp[ZO]at e;omega
 have o:sw l=(decide ((97:Int)<=l[0].toNat)&&decide ((l[0].toNat:Int)<=(122:Int))):=by
  cases l with
  |nil=>simp at a
  |cons c l=>rfl
 have m:(decide ((l[0].toNat:Int)<(97:Int))||decide ((122:Int)<l[0].toNat))=!sw l:=by rw[o,vU];simp
 cases g:sw l
 ·simp[e,a,m,g,yq,f31]
 simp[e,a,m,g];refine qA (fun k X Y Z=>X 0=str l/\X 19=int l.length/\X 20=int k/\Wy l=Wy (l.drop k)) l.length ⟨by simp,by simp,by simp,by simp⟩ ?_;rintro k X Y Z q ⟨h,i,j,d⟩;by_cases b:k<l.length
 ·have p:=wP k;rw[l3 b]at d;cases f:QU l[k].toNat
  ·have d:Wy l=false:=by rw[d,f];rfl
   simp[h,i,j,b,d,f,yq,f31]
  ·simp[h,i,j,b,f,p];exact⟨b,by rw[d,f];rfl⟩
 ·obtain rfl:k=l.length:=by omega
  have d:Wy l=true:=by rw[d,zE];rfl
  simp[h,i,j,d,e,g,yq,f31]
theorem pd:zh prog 82 (zp false [] (FS (wi 32 126))):=
 XV Il func82 false [] fun l Y=>⟨by simp[f82],_,uc l Y,wy _⟩
theorem gO:zh prog 31 (zp false [] (FS yq)):=
 XV Il func31 false [] fun l Y=>⟨by simp[f31],_,l4 l Y,wy _⟩
inductive Val where
 |mk (kind n:Int) (s:List UInt8) (items:List Val) (fields:List (List UInt8×Val))
namespace Val
def kind:Val->Int|.mk k _ _ _ _=>k
def n:Val->Int|.mk _ n _ _ _=>n
def s:Val->za|.mk _ _ s _ _=>s
def items:Val->List Val|.mk _ _ _ l _=>l
def fields:Val->List (za×Val)|.mk _ _ _ _ l=>l
end Val
theorem Val.ind{P:Val->Prop}(h:∀k n s e g,(∀x∈e,P x)->(∀f∈g,P f.2)->P (.mk k n s e g))(v:Val):P v:=
 Val.rec (motive_1:=P) (motive_2:=fun l=>∀x∈l,P x) (motive_3:=fun l=>∀f∈l,P f.2) (motive_4:=fun f=>P f.2) (fun k n s e g i j=>h k n s e g i j)
  (by simp) (fun x l c d y b=>by rcases zJ.1 b with rfl|b;(first|exact c|exact d y b);(first|exact c|exact d y b)) (by simp) (fun x l c d y b=>by rcases zJ.1 b with rfl|b;(first|exact c|exact d y b);(first|exact c|exact d y b)) (fun a v m=>m) v
mutual
def Val.V:Val->zb
 | .mk k n s a b=>[int k,int n,str s,.sl 5 (tp a),.sl 6 (tq b)]
def tp:List Val->List zb
 |[]=>[]
 |v::l=>v.V::tp l
def tq:List (za×Val)->List zb
 |[]=>[]
 |(a,v)::l=>(str a::v.V)::tq l
end
abbrev q6(f:za×Val):zb:=str f.1::f.2.V
theorem fl:∀l:List Val,tp l=l.map Val.V
 |[]=>rfl
 |v::l=>by simp[tp,fl l]
theorem fm:∀l:List (za×Val),tq l=l.map q6
 |[]=>rfl
 |(a,v)::l=>by simp[tq,fm l]
theorem wa(v:Val):v.V=[int v.kind,int v.n,str v.s,.sl 5 (v.items.map Val.V),.sl 6 (v.fields.map q6)]:=by
 cases v with
 |mk k n s a b=>simp[Val.V,fl,fm,Val.kind,Val.n,Val.s,Val.items,Val.fields]
@[simp]theorem LK(v:Val):v.V.length=5:=by rw[wa];rfl
@[simp]theorem fo(v:Val):v.V.all O.we=true:=by rw[wa];rfl
@[simp]theorem LL(v:Val):(∀x,x∈v.V->O.we x=true)=True:=by have:=fo v;rw[qc]at this;exact eq_true this
@[simp]theorem Rj(v:Val):v.V.take 5=v.V:=qv (by simp)
@[simp]theorem zaK(v:Val)(h:0<v.V.length):v.V[0]=int v.kind:=by simp[wa v]
@[simp]theorem zaL(v:Val)(h:1<v.V.length):v.V[1]=int v.n:=by simp[wa v]
@[simp]theorem zaM(v:Val)(h:2<v.V.length):v.V[2]=str v.s:=by simp[wa v]
@[simp]theorem zaN(v:Val)(h:3<v.V.length):v.V[3]=.sl 5 (v.items.map Val.V):=by simp[wa v]
@[simp]theorem zaO(v:Val)(h:4<v.V.length):v.V[4]=.sl 6 (v.fields.map q6):=by simp[wa v]
theorem Wz{α a:Type}{f:α->a}:∀{xs ys:List α},(∀x∈xs,∀y,f x=f y->x=y)->xs.map f=ys.map f->xs=ys
 |[],[],_,_=>rfl
 |[],y::ys,_,e=>by simp at e
 |x::xs,[],_,e=>by simp at e
 |x::xs,y::ys,h,e=>by simp only[zL,zn]at e;rw[h x (by simp) y e.1,Wz (fun z b=>h z (by simp[b])) e.2]
theorem vE:∀{a b:Val},a.V=b.V->a=b:=by
 intro a
 induction a using Val.ind with
 |h k n s q r g i=>
  intro b e;cases b with
  |mk t u v j l=>
   simp only[wa,Val.kind,Val.n,Val.s,Val.items,Val.fields,zn,z7]at e;obtain⟨m,o,p,c,d⟩:=e;obtain rfl:=ql m;obtain rfl:=ql o;obtain rfl:=ya p;injection c with _ c
   injection d with _ d;obtain rfl:=Wz (fun x f y=>g x f) c;obtain rfl:=Wz (fun x f y e=>by simp only[q6,zn]at e;exact Prod.ext (ya e.1) (i x f e.2)) d
   rfl
mutual
def Val.vb:Val->Nat
 | .mk _ _ s a b=>1+s.length+kf a+QM b
def kf:List Val->Nat
 |[]=>0
 |v::l=>v.vb+kf l
def QM:List (za×Val)->Nat
 |[]=>0
 |(a,v)::l=>a.length+v.vb+QM l
end
theorem xa(v:Val):v.vb=1+v.s.length+kf v.items+QM v.fields:=by cases v;rfl
theorem WA(v:Val):0<v.vb:=by rw[xa];omega
theorem kA:∀{l:List Val} {x:Val},x∈l->x.vb<=kf l
 |y::l,x,h=>by
  simp only[kf];rcases zJ.1 h with rfl|h
  ·omega
  ·have:=kA h;omega
theorem Qi:∀{l:List (za×Val)} {x:za×Val},x∈l->x.1.length+x.2.vb<=QM l
 |(a,y)::l,x,h=>by
  simp only[QM];rcases zJ.1 h with rfl|h
  ·simp only;omega
  ·have:=Qi h;omega
theorem y7:∀l:List Val,l.length<=kf l
 |[]=>by simp[kf]
 |v::l=>by have:=y7 l;have:=WA v;simp only[kf,zd];omega
theorem vO:∀l:List (za×Val),l.length<=QM l
 |[]=>by simp[QM]
 |(a,v)::l=>by have:=vO l;have:=WA v;simp only[QM,zd];omega
noncomputable def FV (out:Val->O) (n:Nat):zb->Option O:=qD (α:=Val) (fun v=>[.agg v.V]) (fun v=>v.vb<=zX/\v.vb<=n) out
theorem Rk(out:Val->O)(n:Nat)(v:Val)(h:v.vb<=zX/\v.vb<=n):FV out n [.agg v.V]=some (out v):=
 qj (V:=fun v:Val=>[.agg v.V]) (a:=v) (fun a b e=>by simp only[zn,z7,O.agg.injEq]at e;exact vE e) h
@[simp]theorem AQ(Y:Hp)(v:Val):qe Y v.V=some (v.V,Y):=by rw[wa];simp
theorem xG(Y:Hp)(v:Val):zS Y (.agg v.V)=some (.agg v.V,Y):=by rw[wa];simp
theorem ZF(v:Val):O.noOwn (.agg v.V)=true:=by rw[wa];simp
theorem a7(out:Val->O)(n:Nat)(v:Val)(Y:Hp)(Z:Nat)(h:v.vb<=zX/\v.vb<=n):zp false [] (FV out n) [.agg v.V] Y Z=some (out v,Y,Z):=
 yg (Y1:=Y) (show zt Y [.agg v.V]=some ([.agg v.V],Y) by simp only[zt,xG]) (Rk out n v h) (.inr (by simp only[wC,ZF,VV,Jd]))
mutual
def Val.parts:Val->Nat
 | .mk _ _ _ a b=>1+jK a+j5 b
def jK:List Val->Nat
 |[]=>0
 |v::l=>v.parts+jK l
def j5:List (za×Val)->Nat
 |[]=>0
 |(_,v)::l=>v.parts+j5 l
end
mutual
def Val.levels:Val->Nat
 | .mk _ _ _ a b=>max (ju a) (jF b)+1
def ju:List Val->Nat
 |[]=>0
 |v::l=>max v.levels (ju l)
def jF:List (za×Val)->Nat
 |[]=>0
 |(_,v)::l=>max v.levels (jF l)
end
theorem BT(v:Val):v.parts=1+jK v.items+j5 v.fields:=by cases v;rfl
theorem ud(v:Val):v.levels=max (ju v.items) (jF v.fields)+1:=by cases v;rfl
theorem l5(v:Val):v.parts<=v.vb:=by
 induction v using Val.ind with
 |h k n s e f g i=>
  have a:∀l:List Val,(∀x∈l,x.parts<=x.vb)->jK l<=kf l:=by
   intro l
   induction l with
   |nil=>simp[jK]
   |cons v l c=>intro h;have:=h v (by simp);have:=c fun x d=>h x (by simp[d]);simp only[jK,kf];omega
  have b:∀l:List (za×Val),(∀x∈l,x.2.parts<=x.2.vb)->j5 l<=QM l:=by
   intro l
   induction l with
   |nil=>simp[j5]
   |cons v l c=>intro h;have:=h v (by simp);have:=c fun x d=>h x (by simp[d]);obtain⟨a,v⟩:=v;simp only[j5,QM];simp only at *;omega
  have:=a e g;have:=b f i;simp only[Val.parts,Val.vb];omega
theorem fp(v:Val):v.levels<=v.parts:=by
 induction v using Val.ind with
 |h k n s e f g i=>
  have a:∀l:List Val,(∀x∈l,x.levels<=x.parts)->ju l<=jK l:=by
   intro l
   induction l with
   |nil=>simp[ju]
   |cons v l c=>intro h;have:=h v (by simp);have:=c fun x d=>h x (by simp[d]);simp only[ju,jK];omega
  have b:∀l:List (za×Val),(∀x∈l,x.2.levels<=x.2.parts)->jF l<=j5 l:=by
   intro l
   induction l with
   |nil=>simp[jF]
   |cons v l c=>intro h;have:=h v (by simp);have:=c fun x d=>h x (by simp[d]);obtain⟨a,v⟩:=v;simp only[jF,j5];simp only at *;omega
  have:=a e g;have:=b f i;simp only[Val.parts,Val.levels];omega
noncomputable abbrev Cc (n:Nat):Ctx:=vk prog [(58,zp false [] (FV (fun v=>.qS [int v.parts,int v.levels]) n))] (fg 2 [(2,1)])
theorem Qj{C:Ctx}{fn:Func}{code:Code}{args:zb}{Y:Hp}{Z:Nat}{x:O}{Y':Hp}{Z':Nat}(a:fn.body=some code)
  (h:vB C code ⟨ka args,Y,Z⟩ (KW C.P fn (fun y h m=>y=x/\h=Y'/\m=Z'))):yd C fn args Y Z=some (x,Y',Z'):=by
 obtain⟨y,c,n1,b,rfl,rfl,rfl⟩:=wX a h;exact b
theorem cr(n:Nat)(v:Val)(h:v.vb<=zX/\v.vb<=n)(Y:Hp)(Z i j:Nat)(s:i<Z)(t:j<Z)(b:i≠j)(p q:Nat)(c:Y i=some ⟨3,1,false,[[int p]]⟩)(d:Y j=some ⟨3,1,false,[[int q]]⟩)(f:p<=zX) :
  kE (Cc n) f80 [.agg v.V,.ref i 0 0,.ref j 0 0] Y Z =
   some (.qS [],qb (qb (qb Y Z (some ⟨48,5,false,[v.V]⟩)) i (some ⟨3,1,false,[[int ((p+v.parts:Nat):Int)]]⟩)) j (some ⟨3,1,false,[[int ((max q v.levels:Nat):Int)]]⟩),Z+1):=by
 have g:=l5 v;have k:=fp v;unfold zX at *;have l:=wY ((p:Int)+v.parts);unfold kE;rw[zl (by simp[f80])];refine Qj rfl ?_;have a:=fun Y Z=>a7 (fun v=>.qS [int v.parts,int v.levels]) n v Y Z h
 have e:¬i=Z:=by omega
 have m:¬j=Z:=by omega
 have o:¬j=i:=by omega
 have r:(if q<v.levels then(v.levels:Int)else q)=((max q v.levels:Nat):Int):=by split<;>omega
 simp[a];rw[kK _ _ _ _ _ _ (ck (blk:=⟨3,1,false,[[int p]]⟩) (id:=j) (i:=0) (j:=0) (id':=i) (i':=0) (j':=0) (by simp) (by simp) (Ne.symm b) (by simp[e,c]) rfl) (fun _ h=>by cases h)];simp[c,d,e,m,o,b,l,r,f80]
theorem J5(a b:List Val):jK (a++b)=jK a+jK b:=by
 induction a with
 |nil=>simp[jK]
 |cons v a c=>simp only[qg,jK,c];omega
theorem ct(a b:List Val):ju (a++b)=max (ju a) (ju b):=by
 induction a with
 |nil=>simp[ju]
 |cons v a c=>simp only[qg,ju,c];omega
theorem J6(a b:List (za×Val)):j5 (a++b)=j5 a+j5 b:=by
 induction a with
 |nil=>simp[j5]
 |cons v a c=>obtain⟨x,v⟩:=v;simp only[qg,j5,c];omega
theorem cu(a b:List (za×Val)):jF (a++b)=max (jF a) (jF b):=by
 induction a with
 |nil=>simp[jF]
 |cons v a c=>obtain⟨x,v⟩:=v;simp only[qg,jF,c];omega
theorem Rl{l:List Val}{k:Nat}(h:k<l.length):jK (l.take (k+1))=jK (l.take k)+l[k].parts/\ju (l.take (k+1))=max (ju (l.take k)) l[k].levels:=by rw[qR h,J5,ct];simp[jK,ju]
theorem Rm{l:List (za×Val)}{k:Nat}(h:k<l.length):j5 (l.take (k+1))=j5 (l.take k)+l[k].2.parts/\jF (l.take (k+1))=max (jF (l.take k)) l[k].2.levels:=by rw[qR h,J6,cu];simp[j5,jF]
theorem ue(l:List Val)(k:Nat):jK (l.take k)<=jK l:=by have:=J5 (l.take k) (l.drop k);rw[Nu]at this;omega
theorem uf(l:List (za×Val))(k:Nat):j5 (l.take k)<=j5 l:=by have:=J6 (l.take k) (l.drop k);rw[Nu]at this;omega
noncomputable abbrev Cd (n:Nat):Ctx:=vk prog [(80,kE (Cc n) f80)] (fg 13 [(3,2)])
theorem pg(n:Nat)(v:Val)(h:v.vb<=zX/\v.vb<=n+1):zM (Cd n) f58 [.agg v.V]=some (.qS [int v.parts,int v.levels]):=by
 have z:=l5 v;have hpe:=BT v;have A:=xa v;have t:=ud v;have B:=y7 v.items;have C:=vO v.fields;obtain⟨D,G⟩:=h;unfold zX at D;refine zw rfl ?_;simp;refine qA (fun k X Y Z=>X 1=.ref 0 0 0/\X 2=.ref 1 0 0/\X 3=.ref 2 0 0/\X 4=.fn (.func 80) [] [.ref 1 0 0,.ref 2 0 0]/\X 11=.sl 5 (v.items.map Val.V)/\X 12=int v.items.length/\X 13=int k/\3<=Z/\Y 0=some ⟨48,5,false,[v.V]⟩ /\
   Y 1=some ⟨3,1,false,[[int ((1+jK (v.items.take k):Nat):Int)]]⟩/\Y 2=some ⟨3,1,false,[[int (ju (v.items.take k))]]⟩) v.items.length
  ⟨by simp,by simp,by simp,by simp,by simp,by simp,by simp,by simp,by simp,by simp[jK],by simp[ju]⟩ ?_
 rintro k X Y Z y ⟨m,f,g,p,c,d,e,q,u,l,o⟩;by_cases a:k<v.items.length
 ·obtain⟨w,x⟩:=Rl a;have E:=kA (zz a);have r:=wP k;have s:=ue v.items k;have b:=cr n v.items[k] ⟨by unfold zX;omega,by omega⟩ (qb Y Z (some ⟨48,5,false,[v.items[k].V]⟩)) (Z+1) 1 2 (by omega) (by omega) (by omega) _ _ (by rw[wA _ _ _ _ (by omega)];exact l) (by rw[wA _ _ _ _ (by omega)];exact o) (by unfold zX;omega);simp[m,f,g,p,c,d,e,a,b,r];refine⟨a,by omega,?_,?_,?_⟩
  ·simp[u,show¬0=Z by omega,show¬0=Z+1 by omega]
  ·rw[w];omega
  ·rw[x]
 ·obtain rfl:k=v.items.length:=by omega
  rw[js]at l o;simp[m,f,g,p,c,d,e,u];refine qA (fun k X Y Z=>X 1=.ref 0 0 0/\X 2=.ref 1 0 0/\X 3=.ref 2 0 0/\X 4=.fn (.func 80) [] [.ref 1 0 0,.ref 2 0 0]/\X 22=.sl 6 (v.fields.map q6)/\X 23=int v.fields.length/\X 24=int k/\3<=Z /\
    Y 1=some ⟨3,1,false,[[int ((1+jK v.items+j5 (v.fields.take k):Nat):Int)]]⟩/\Y 2=some ⟨3,1,false,[[int ((max (ju v.items) (jF (v.fields.take k)):Nat):Int)]]⟩) v.fields.length
   ⟨by simp[m],by simp[f],by simp[g],by simp[p],by simp,by simp,by simp,q,by simp[l,j5],by simp[o,jF]⟩ ?_
  clear m f g p c d e q u l o a y Z Y X;rintro k X Y Z y ⟨m,f,g,p,c,d,e,q,l,o⟩;by_cases a:k<v.fields.length
  ·obtain⟨w,x⟩:=Rm a;have E:=Qi (zz a);have r:=wP k;have s:=uf v.fields k;have b:=cr n v.fields[k].2 ⟨by unfold zX;omega,by omega⟩ (qb Y Z (some ⟨65,6,false,[q6 v.fields[k]]⟩)) (Z+1) 1 2 (by omega) (by omega) (by omega) _ _ (by rw[wA _ _ _ _ (by omega)];exact l) (by rw[wA _ _ _ _ (by omega)];exact o) (by unfold zX;omega);simp[q6]at b;simp[m,f,g,p,c,d,e,a,r,b];refine⟨a,by omega,?_,?_⟩
   ·rw[w];omega
   ·rw[x]
  ·obtain rfl:k=v.fields.length:=by omega
   rw[js]at l o;have F:=fp v;have r:i6.wrap (((max (ju v.items) (jF v.fields):Nat):Int)+1)=(v.levels:Int):=by rw[wN (by omega) (by omega),t];omega
   simp[m,f,g,p,c,d,e];rw[kK _ _ _ _ _ _ (ck (id:=2) (i:=0) (j:=0) (id':=1) (i':=0) (j':=0) (by simp[g]) (by simp[f]) (by omega) (by exact l) rfl) (fun _ h=>by cases h)];simp[m,f,g,l,o,r,f58,ja];omega
theorem cv{out:Val->O}{n:Nat}{args:zb}{r:O}(h:FV out n args=some r):∃v:Val,args=[.agg v.V]/\(v.vb<=zX/\v.vb<=n)/\r=out v:=zQ h
theorem FO{out:Val->O}:∀args r,FV out 0 args=some r->False:=fun args r h=>by obtain⟨v,rfl,a,rfl⟩:=cv h;have:=WA v;omega
theorem sx{out:Val->O}{f:FuncId}(a:∃fn,prog.funcs[f]?=some fn/\(fn.name== "runtime.NumGoroutine")=false/\fn.body.isNone=false):zh prog f (zp false [] (FV out 0)):=by
 refine⟨a,fun args Y Z r Y' Z' h=>?_⟩;unfold zp at h;split at h
 ·split at h
  ·rename_i r0 b;exact(FO _ _ b).elim
  ·cases h
 ·cases h
theorem l6:∀n,zh prog 58 (zp false [] (FV (fun v=>.qS [int v.parts,int v.levels]) n)):=by
 intro n
 induction n with
 |zero=>exact sx ⟨_,func58,by kernel_rfl,by kernel_rfl⟩
 |succ n a=>
  have b:Gd (Cc n):=KX _ mixed ⟨a,by simp,trivial⟩;have c:zh prog 80 (kE (Cc n) f80):=KZ b func80;have d:Gd (Cd n):=KX _ mixed ⟨c,by simp,trivial⟩;exact jo (fn:=f58) d (wL func58) false [] _ fun args r h=>by obtain⟨v,rfl,e,rfl⟩:=cv h;exact⟨qm (zi 1) (by decide),_,pg n v e,wy _⟩
noncomputable abbrev GV (out:Val->O):AM.Spec:=zp false [] (FV out zX)
theorem a8(out:Val->O)(v:Val)(Y:Hp)(Z:Nat)(h:v.vb<=zX):GV out [.agg v.V] Y Z=some (out v,Y,Z):=a7 out zX v Y Z ⟨h,h⟩
def K2(k:Int):Bool:=decide (k<0)||decide (5<k)
def WB(k n:Int)(s:za)(i f:Nat):Bool:=n != 0&&k != 1&&k != 2||!(s==[])&&k != 3||decide (0<i)&&k != 4||decide (0<f)&&k != 5
def Jp(k n:Int):Bool:=k==1&&n != 0&&n != 1
def Zx(k n:Int):Bool:=k==2&&(decide (n<=-1000000000000000)||decide (1000000000000000<=n))
def sy(i f:Nat):Bool:=decide ((100:Int)<i)||decide ((100:Int)<f)
def sz(s:za):Bool:=decide ((500:Int)<s.length)
def vg(k n:Int)(s:za)(i f:Nat):Int:=
 if K2 k then 4 else if WB k n s i f then 3 else if Jp k n||Zx k n then 1 else if sz s then 2 else if wi 32 126 s then(if sy i f then 2 else 0)else 1
def FQ(a b:za):Bool:=Op.bytesLess a b||a==b
def l7(a:za):Bool:=a.isEmpty||decide ((60:Int)<a.length)||!wi 32 126 a
def fq(b:Option za)(a:za):Bool:=match b with
 |none=>false
 |some p=>FQ a p
mutual
def Val.fault:Val->Int
 | .mk k n s a b=>if vg k n s a.length b.length=0 then(if kg a=0 then xr none b else kg a)else vg k n s a.length b.length
def kg:List Val->Int
 |[]=>0
 |v::l=>if v.fault=0 then kg l else v.fault
def xr:Option za->List (za×Val)->Int
 |_,[]=>0
 |prev,(a,v)::l=>if l7 a then 5 else if fq prev a then 8 else if v.fault=0 then xr (some a) l else v.fault
end
theorem l8(v:Val):v.fault=if vg v.kind v.n v.s v.items.length v.fields.length=0 then(if kg v.items=0 then xr none v.fields else kg v.items)else vg v.kind v.n v.s v.items.length v.fields.length:=by cases v;rfl
theorem l9:zh prog 81 (GV fun v=>yW (WB v.kind v.n v.s v.items.length v.fields.length)):=
 jo (fn:=f81) kM (wL func81) false [] _ fun args r h=>by obtain⟨v,rfl,a,rfl⟩:=cv h;exact⟨by simp[f81],_,zw rfl (by simp[f81,WB]),wy _⟩
noncomputable abbrev Ck (n:Nat):Ctx:=qp prog [(59,zp false [] (FV (fun v=>int v.fault) n)),(81,GV fun v=>yW (WB v.kind v.n v.s v.items.length v.fields.length)),(82,zp false [] (FS (wi 32 126)))]
@[simp]theorem qk(n:Nat):kz (Ck n) 82:=yZ (by rfl) (zv _ _)
theorem ma{l:List Val}{k:Nat}(h:k<l.length):kg (l.drop k)=if l[k].fault=0 then kg (l.drop (k+1))else l[k].fault:=by rw[zj h,kg]
theorem mb{l:List (za×Val)}{k:Nat}(h:k<l.length)(p:Option za):xr p (l.drop k)=if l7 l[k].1 then 5 else if fq p l[k].1 then 8 else if l[k].2.fault=0 then xr (some l[k].1) (l.drop (k+1))else l[k].2.fault:=by rw[zj h,xr]
def Km(l:List (za×Val))(k:Nat):Option za:=if k=0 then none else(l[k-1]?).map (·.1)
theorem cw(n:Nat)(v:Val)(h:v.vb<=zX/\v.vb<=n+1):zM (Ck n) f59 [.agg v.V]=some (int v.fault):=by
 have hvb:=xa v;have SU:=y7 v.items;have hl2:=vO v.fields;obtain⟨ha,hb⟩:=h;unfold zX at ha;have b:=l8 v;have d:=fun Y Z=>a8 (fun v=>yW (WB v.kind v.n v.s v.items.length v.fields.length)) v Y Z ha
 have A:v.s.length<=zX:=by unfold zX;omega
 refine zw rfl ?_;have x:(decide (v.kind<0)||decide (5<v.kind))=K2 v.kind:=rfl;have F:(v.kind==1&&v.n != 0&&v.n != 1)=Jp v.kind v.n:=rfl;have H:(v.kind==2&&(decide (v.n<=-1000000000000000)||decide (1000000000000000<=v.n)))=Zx v.kind v.n:=rfl;have e4:(decide ((100:Int)<v.items.length)||decide ((100:Int)<v.fields.length))=sy v.items.length v.fields.length:=rfl;have L:decide ((500:Int)<v.s.length)=sz v.s:=rfl;cases q:K2 v.kind
 case true=>simp[x,q,b,vg,f59]
 cases y:WB v.kind v.n v.s v.items.length v.fields.length
 case true=>simp[x,q,d,y,b,vg,f59]
 cases B:Jp v.kind v.n
 case true=>simp[x,q,d,y,F,B,b,vg,f59]
 cases G:Zx v.kind v.n
 case true=>simp[x,q,d,y,F,B,H,G,b,vg,f59]
 cases I:sz v.s
 case true=>simp[x,q,d,y,F,B,H,G,L,I,b,vg,f59]
 cases M:wi 32 126 v.s
 case false=>simp[x,q,d,y,F,B,H,G,L,I,M,A,b,vg,f59]
 cases P:sy v.items.length v.fields.length
 case true=>simp[x,q,d,y,F,B,H,G,L,I,M,A,e4,P,b,vg,f59]
 have hh:vg v.kind v.n v.s v.items.length v.fields.length=0:=by simp[vg,q,y,B,G,I,M,P]
 rw[hh,zl rfl]at b;simp[x,q,d,y,F,B,H,G,L,I,M,A,e4,P];refine qA (fun k X Y Z=>X 1=.ref 0 0 0/\X 70=.sl 5 (v.items.map Val.V)/\X 71=int v.items.length/\X 72=int k/\1<=Z/\Y 0=some ⟨48,5,false,[v.V]⟩/\kg v.items=kg (v.items.drop k)) v.items.length
  ⟨by simp,by simp,by simp,by simp,by simp,by simp,by simp⟩ ?_
 rintro k X Y Z hk ⟨l,r,t,u,C,p,w⟩;have z:¬0=Z:=by omega
 by_cases c:k<v.items.length
 ·have hm:=kA (zz c);have hw:=wP k;have a:=fun Y Z=>a7 (fun v=>int v.fault) n v.items[k] Y Z ⟨by unfold zX;omega,by omega⟩
  rw[ma c]at w;by_cases e:v.items[k].fault=0
  ·rw[zl e]at w;simp[l,r,t,u,c,a,e,hw]
   and_intros<;>first|omega|exact w|simp[z,p]
  ·rw[zg e]at w;have o:=lx e;rw[w,zg e]at b;simp[l,r,t,u,c,a,o,b,f59]
 ·obtain rfl:k=v.items.length:=by omega
  rw[zE]at w;have w:kg v.items=0:=by rw[w];rfl
  rw[w,zl rfl]at b;simp[l,r,t,u,p];refine qA (fun k X Y Z=>X 1=.ref 0 0 0/\X 83=.sl 6 (v.fields.map q6)/\X 84=int v.fields.length/\X 85=int k/\1<=Z/\Y 0=some ⟨48,5,false,[v.V]⟩/\v.fault=xr (Km v.fields k) (v.fields.drop k)) v.fields.length
   ⟨by simp[l],by simp,by simp,by simp,C,p,by simp[b,Km]⟩ ?_
  clear l r t u C p c hk z Z Y X b;rintro k X Y Z hk ⟨l,f,g,i,C,p,b⟩;have z:¬0=Z:=by omega
  by_cases c:k<v.fields.length
  ·have hm:=Qi (zz c);have hw:=wP k;have m:v.fields[k].1.length<=zX:=by unfold zX;omega
   have a:=fun Y Z=>a7 (fun v=>int v.fault) n v.fields[k].2 Y Z ⟨by unfold zX;omega,by omega⟩
   have en:(v.fields[k].1.isEmpty||decide ((60:Int)<v.fields[k].1.length)||!wi 32 126 v.fields[k].1)=l7 v.fields[k].1:=rfl;rw[mb c]at b;cases D:l7 v.fields[k].1
   case true=>simp[l,f,g,i,c,m,en,D,b,f59]
   have J:Km v.fields (k+1)=some v.fields[k].1:=by simp[Km,c]
   simp only[D,zq,qf]at b;by_cases k0:k=0
   ·subst k0;simp only[Km,fq,qa,zq,qf]at b;by_cases e:v.fields[0].2.fault=0
    ·rw[zl e]at b;have w1:=wY 1;simp[l,f,g,i,c,m,en,D,a,e,w1]
     and_intros<;>first|omega|(rw[b];rw[J];simp;done)|simp[z,p]
    ·rw[zg e]at b;have o:=lx e;simp[l,f,g,i,c,m,en,D,a,o,b,f59]
   ·obtain⟨j,rfl⟩:∃j,k=j+1:=⟨k-1,by omega⟩;have N:j<v.fields.length:=by omega
    have Q:i6.wrap ((j:Int)+1-1)=(j:Int):=by rw[wN (by omega) (by omega)];omega
    have E:=wY (j:Int);have R:((j:Int)+1).toNat=j+1:=by omega
    have S:0<(j:Int)+1:=by omega
    have T:0<=(j:Int)+1:=by omega
    have U:(j:Int)+1<v.fields.length:=by omega
    have wk:=wY ((j:Int)+1+1);have W:(Op.bytesLess v.fields[j+1].1 v.fields[j].1||v.fields[j+1].1==v.fields[j].1)=FQ v.fields[j+1].1 v.fields[j].1:=rfl;have hpj:Km v.fields (j+1)=some v.fields[j].1:=by simp[Km,N]
    simp only[hpj,fq]at b;cases K:FQ v.fields[j+1].1 v.fields[j].1
    case true=>simp only[K,qa]at b;simp[l,f,g,i,c,N,m,en,D,a,p,z,Q,E,R,S,T,U,W,K,b,f59]
    simp only[K,zq,qf]at b;by_cases e:v.fields[j+1].2.fault=0
    ·rw[zl e]at b;simp[l,f,g,i,c,N,m,en,D,a,p,z,Q,E,R,S,T,U,W,K,e,wk]
     and_intros<;>first|omega|(rw[b];rw[J])|simp[z,p]
    ·rw[zg e]at b;have o:=lx e;simp[l,f,g,i,c,N,m,en,D,a,p,z,Q,E,R,S,T,U,W,K,o,b,f59]
  ·obtain rfl:k=v.fields.length:=by omega
   rw[zE]at b;have b:v.fault=0:=by rw[b];rfl
   simp[l,f,g,i,b,f59]
theorem aq:∀n,zh prog 59 (zp false [] (FV (fun v=>int v.fault) n)):=by
 intro n
 induction n with
 |zero=>exact sx ⟨_,func59,by kernel_rfl,by kernel_rfl⟩
 |succ n a=>
  have b:AM.Good (Ck n) (fun g=>[82].contains g):=qH mixed ⟨a,by simp,l9,by simp,pd,fun _=>zv _ _,trivial⟩;exact jo (fn:=f59) b (wL func59) false [] _ fun args r h=>by obtain⟨v,rfl,c,rfl⟩:=cv h;exact⟨qm (zi 1) (by decide),_,cw n v c,wy _⟩
def Val.check(v:Val):Int:=if decide ((1000:Int)<v.parts)||decide ((8:Int)<v.levels)then 2 else v.fault
noncomputable abbrev Cch:Ctx:=qp prog [(59,GV fun v=>int v.fault),(58,GV fun v=>.qS [int v.parts,int v.levels])]
theorem mc:zh prog 47 (GV fun v=>int v.check):=
 jo (fn:=f47) (qT mixed ⟨aq zX,l6 zX,trivial⟩:AM.Good Cch _) (wL func47) false [] _ fun args r h=>by
  obtain⟨v,rfl,a,rfl⟩:=cv h;have b:=fun Y Z=>a8 (fun v=>int v.fault) v Y Z a.1
  have c:=fun Y Z=>a8 (fun v=>.qS [int v.parts,int v.levels]) v Y Z a.1
  refine⟨by simp[f47],_,zw rfl ?_,wy _⟩;cases d:(decide ((1000:Int)<v.parts)||decide ((8:Int)<v.levels))
  ·simp[b,c,d,f47,Val.check]
  ·simp[b,c,d,f47,Val.check]
end Go.Q
namespace Go.AM
variable{dr:Prop}
section
variable{C:Ctx}{pf:FuncId->Bool}{f:FuncId}{fn:Func}{code:Code}
theorem gP(hg:j9 dr C pf)(s:Kd C pf f fn code)(k:Bool)(ns:List Nat)(F:zb->Option O)
  (hF:∀args r,F args=some r->∀(w:World) (S:Nat->Prop) (vs:List Value),Zip (qO w S) args vs->∃a r0,Zip (qO w S) a vs/\a.length<=fn.ntmps/\zM C fn a=some r0/\∀(w:World) (S:Nat->Prop) (u:Value),qO w S r0 u->qO w S r u):yU dr C.P f (zp k ns F):=by
 refine⟨⟨fn,s.func,s.name,by rw[s.body];rfl⟩,?_⟩;intro args Y Z r Y' Z' h w S G vs W hz;unfold zp at h;split at h
 ·rename_i aZ Y1 y;split at h
  ·rename_i r0 z;obtain⟨S1,t,A,B⟩:=ym (dr:=dr) W y hz;obtain⟨a,rr,D,hn,d,E⟩:=hF _ r0 z w S1 vs (xW A);unfold zM at d;split at d
   ·rename_i x hpe nxe H;obtain⟨⟨r1,hpf1⟩,I,l⟩:=zD d;simp only at l;subst l;refine(vM hg s H hn t.inv.st t.inv.KJ D).mono fun e w' hh=>?_
    obtain⟨v,S',G',he,fr,m,hx,hs0,J,_⟩:=hh;obtain⟨S2,k2,K⟩:=vZ (dr:=dr) m I hx;have L:=E _ _ _ K;have n:∀b,S2 b->S1 b\/(w.heap.size<=b/\b<w'.heap.size):=by
     intro b j;have o:=k2.inv.st b j;rcases k2.from_ b j with h1|⟨id,blk,h1,rfl⟩|h1
     ·rcases J b h1 with M|M
      ·exact .inl M
      ·exact .inr ⟨M,o⟩
     ·rcases Nat.lt_or_ge (G' id).g w.heap.size with h3|h3
      ·rename_i p;have:=p id blk h1;omega
      ·exact .inr ⟨h3,o⟩
     ·exact absurd h1 (by omega)
    split at h
    ·rename_i i;injection h with h
     injection h with N h;injection h with Q R;subst N;subst Q;subst R;refine⟨v,_,G,he,jN.outer W fr,.c ?_⟩;rcases i with T|U
     ·exact b5 L T
     ·have q:=B U;exact L.mono fun b j=>⟨by rw[<-q];exact n b j,rfl⟩
    ·split at h
     ·injection h with h;injection h with N h;injection h with Q R;subst N;subst Q;subst R;exact⟨v,_,G,he,t.trans (jN.outer t.inv fr),.c (L.mono fun b j=>⟨n b j,rfl⟩)⟩
     ·cases h
   ·cases d
  ·cases h
 ·cases h
inductive rZ (s:Nat):List (List O)->O->Prop
 |nil:rZ s [] .nil
 |em:rZ s [] .em
 |sl {c:List O} {es:List (List O)}:rZ s (c::es) (.sl s (c::es))
theorem BU{w:World}{S:Nat->Prop}{s:Nat}{es:List zb}{u:Value}(h:qO w S (.sl s es) u):∃y,rZ s es y/\qO w S y u:=by
 cases es with
 |cons c es=>exact⟨_,.sl,h⟩
 |nil=>
  cases h with
  |sl us a d b e f g=>
   rename_i A cap;cases A with
   |none=>have:=a rfl;subst this;exact⟨.nil,.nil,.nil⟩
   |some i=>exact⟨.em,.em,.em b⟩
theorem K3{w:World}{S:Nat->Prop}{s:Nat}{es:List zb}{y:O}{u:Value}(h:rZ s es y)(a:qO w S y u):qO w S (.sl s es) u:=by
 cases h with
 |nil=>cases a;exact .sl (es:=[]) (fun _ _=>undef) (by simp) (by simp) (by simp[maxLen]) (by simp) (by simp) (by simp)
 |em=>
  cases a with
  |em b=>exact .sl (es:=[]) (fun _ _=>undef) (by simp) (by simp) b (by simp) (by simp) (by simp)
 |sl=>exact a
theorem me{w:World}{S:Nat->Prop}{cs:zb}{u:Value}(h:qO w S (.agg cs) u){j s:Nat}{es:List zb}(c:cs[j]?=some (.sl s es)):∃y,rZ s es y/\qO w S (.agg (cs.set j y)) u:=by
 cases h with
 |agg f d=>
  rename_i us;have g:j<cs.length:=(ze.1 c).1;obtain⟨y,i,l⟩:=BU (d j _ us[j] c (by simp));refine⟨y,i,.agg (by simpa using f) fun k m u a b=>?_⟩;rw[List.getElem?_set]at a;split at a
  ·rename_i e;subst e;injection a with a
   subst a;rw[jO (by omega)]at b;injection b with b
   subst b;exact l
  ·exact d k m u a b
section
variable{P:Program}{Y:Hp}{Z:Nat}{t:TypeId}{s e:Nat}{es:List zb}{y:O}
end
theorem qV.more{Y:Hp}{Z e s:Nat}{v:O}{xs:List zb}(h:qV Y Z e s v xs)(b:Option Blk):qV (qb Y Z b) (Z+1) e s v xs:=by
 rcases h with⟨rfl,rfl⟩|⟨id,c,rfl,a⟩
 ·exact .inl ⟨rfl,rfl⟩
 ·exact .inr ⟨id,by omega,rfl,by rw[wA _ _ _ _ (by omega)];exact a⟩
theorem cx(e:j9 dr C pf)(c:Kl C pf f fn)(b:Bool)(d:List Nat)(F:zb->Option O)
  (g:∀args r,F args=some r->∀(w:World) (S:Nat->Prop) (vs:List Value),Zip (qO w S) args vs->∃a r0,Zip (qO w S) a vs/\a.length<=fn.ntmps/\zM C fn a=some r0/\∀(w:World) (S:Nat->Prop) (u:Value),qO w S r0 u->qO w S r u):yU dr C.P f (zp b d F):=
 let⟨_,c⟩:=c
 gP e c b d F g
end
variable{dr:Prop}
def ZP(P:Program)(l:Qh)(k:Nat)(L:List Tmp)(b:List Nat):Ctx:=⟨P,lookup l,fun _=>[],fun i=>if i=k then L else[],fun g=>b.contains g,fun _=>[],fun _=>none⟩
@[simp]theorem Rn(P:Program)(l:Qh)(k:Nat)(L:List Tmp)(b:List Nat):(ZP P l k L b).P=P:=rfl
@[simp]theorem Ro(P:Program)(l:Qh)(k:Nat)(L:List Tmp)(b:List Nat)(Y:Hp)(Z g:Nat)(x y xs:zb):yF (ZP P l k L b) Y Z (some (.fn (.func g) x y)) xs=(lookup l g).bind fun s=>s (x++xs++y) Y Z:=by unfold yF ZP;simp only;cases lookup l g<;>rfl
@[simp]theorem BV(P:Program)(l:Qh)(k:Nat)(L:List Tmp)(b:List Nat)(i:Nat)(a:Array Oper)(d:Bool)(st:St)(K:Exit->St->Prop)(h:¬i=k):vB (ZP P l k L b) (.region i a d) st K=bV (ZP P l k L b) a a.toList st (Zo K):=
 xE _ i a d st K rfl (by simp[ZP,h])
theorem ar{P:Program}{l:Qh}{k:Nat}{L:List Tmp}{b:List Nat}{a:Array Oper}{d:Bool}{st:St}{K:Exit->St->Prop}(h:vW L st):vB (ZP P l k L b) (.region k a d) st K=bV (ZP P l k L b) a a.toList st (Zo K):=
 kK _ k a d st K (fun _ h=>by cases h) (by simpa[ZP]using h)
def ph(P:Program)(l:Qh)(k:Nat)(t:Tmp):Ctx:=⟨P,lookup l,fun _=>[],fun _=>[],fun _=>false,fun i=>if i=k then[t]else[],fun _=>none⟩
@[simp]theorem Rp(P:Program)(l:Qh)(k:Nat)(t:Tmp):(ph P l k t).P=P:=rfl
@[simp]theorem Rq(P:Program)(l:Qh)(k:Nat)(t:Tmp)(Y:Hp)(Z g:Nat)(x y xs:zb):yF (ph P l k t) Y Z (some (.fn (.func g) x y)) xs=(lookup l g).bind fun s=>s (x++xs++y) Y Z:=by unfold yF ph;simp only;cases lookup l g<;>rfl
def gQ(b:List Nat):Qh->Prop
 |[]=>True
 |(g,s)::l=>(b.contains g=true->xN s)/\gQ b l
theorem mf{P:Program}{l:Qh}{q:List Nat}{k:Nat}{L:List Tmp}{b:List Nat}(d:P.follows .mixedOrders=true)(h:lV dr P q l)(f:gQ b l):j9 dr (ZP P l k L b) (fun g=>q.contains g):=by
 let g:=qH d h;refine⟨g.spec,g.quiet,g.mixed,?_,fun _ _ h=>by cases h⟩;have c:∀l:Qh,gQ b l->∀g s,b.contains g=true->lookup l g=some s->xN s:=by
  intro l
  induction l with
  |nil=>intro _ g s _ h;cases h
  |cons x l i=>
   obtain⟨k,n⟩:=x;rintro⟨j,m⟩ g s a hs;simp only[XT]at hs;split at hs
   ·rename_i e;injection hs with hs
    subst hs;subst e;exact j a
   ·exact i m g s a hs
 exact fun g s a hs=>c l f g s a hs
theorem YG:∀{xs ys:zb} {Y Y1:Hp},zt Y xs=some (ys,Y1)->∀{id:Nat} {b:Blk},Y id=some b->b.arr=false->Y1 id=some b
 |[],ys,Y,Y1,h,id,b,a,c=>by simp only[zt]at h;injection h with h;injection h with _ h;subst h;exact a
 |x::l,ys,Y,Y1,h,id,b,a,c=>by
  simp only[zt]at h;split at h
  ·rename_i y Y2 d;split at h
   ·rename_i r e f;injection h with h;injection h with _ h;subst h
    exact YG f (QA d a c) c
   ·cases h
  ·cases h
def yc(r0 r:O):Prop:=∀(w:World) (S:Nat->Prop) (u:Value),qO w S r0 u->qO w S r u
def Io(r:O)(x:O)(Y:Hp)(_:Nat):Prop:=∃r0,(AM.freeze Y x).map (·.1)=some r0/\yc r0 r
theorem yc.refl(x:O):yc x x:=fun _ _ _ h=>h
inductive vf:List O->List O->Prop
 |nil:vf [] []
 |cons {x y:O} {xs ys:List O}:yc x y->vf xs ys->vf (x::xs) (y::ys)
theorem vf.length{xs ys:zb}(h:vf xs ys):xs.length=ys.length:=by
 induction h with
 |nil=>rfl
 |cons _ _ a=>simp[a]
theorem vf.get{xs ys:zb}(h:vf xs ys):∀{j:Nat} {x y:O},xs[j]?=some x->ys[j]?=some y->yc x y:=by
 induction h with
 |nil=>intro j x y h;cases h
 |cons c _ d=>
  intro j x y a b;cases j with
  |zero=>simp at a b;subst a;subst b;exact c
  |succ j=>exact d (by simpa using a) (by simpa using b)
theorem vf.agg{xs ys:zb}(h:vf xs ys):yc (.agg xs) (.agg ys):=by
 intro w S u c;cases c with
 |agg d e=>
  refine .agg (by rw[<-h.length];exact d) fun j g u b f=>?_
  have a:j<xs.length:=by rw[h.length];exact(ze.1 b).1
  exact h.get (zm a) b _ _ _ (e j _ u (zm a) f)
theorem vf.qS{xs ys:zb}(h:vf xs ys):yc (.qS xs) (.qS ys):=by
 intro w S u c;cases c with
 |qS d e=>
  refine .qS (by rw[<-h.length];exact d) fun j g u b f=>?_
  have a:j<xs.length:=by rw[h.length];exact(ze.1 b).1
  exact h.get (zm a) b _ _ _ (e j _ u (zm a) f)
theorem qV.at_{Y:Hp}{Z e s:Nat}{v:O}{xs:List zb}(h:qV Y Z e s v xs)(a:0<xs.length):∃id,id<Z/\v=.own id 0 xs.length/\Y id=some ⟨e,s,true,xs⟩:=by
 rcases h with⟨rfl,rfl⟩|h
 ·simp at a
 ·exact h
theorem qV.same{Y Y':Hp}{Z Z' e s:Nat}{v:O}{xs:List zb}(h:qV Y Z e s v xs)(c:Z<=Z')(a:∀id n,v=.own id 0 n->Y' id=Y id):qV Y' Z' e s v xs:=by
 rcases h with⟨rfl,rfl⟩|⟨id,d,rfl,b⟩
 ·exact .inl ⟨rfl,rfl⟩
 ·exact .inr ⟨id,by omega,rfl,by rw[a id _ rfl];exact b⟩
end Go.AM
namespace Go.Q
def Kn(e s:Nat):zb->Option (Option Blk)
 |[.nil]=>some none
 |[.em]=>some (some ⟨e,s,true,[]⟩)
 |[.sl a es]=>if a=s/\es≠[]/\es.length<=zX then some (some ⟨e,s,true,es⟩)else none
 |_=>none
def Rr(s:Int×Bool):Bool:=s.2||decide (1000<s.1)
def Ip(s r:Int×Bool):Int×Bool:=if Rr s then s else(s.1+r.1,s.2||r.2)
mutual
def Val.rp:Val->Int->Int×Bool
 | .mk _ _ _ a b,l=>rpF b l (rpV a l (1,decide (8<l)))
def rpV:List Val->Int->Int×Bool->Int×Bool
 |[],_,s=>s
 |v::vs,l,s=>rpV vs l (Ip s (v.rp (l+1)))
def rpF:List (za×Val)->Int->Int×Bool->Int×Bool
 |[],_,s=>s
 |(_,v)::vs,l,s=>rpF vs l (Ip s (v.rp (l+1)))
end
def BW(xs:List Val):Nat:=(xs.map Val.parts).sum
def gR:List Val->Nat
 |[]=>0
 |v::l=>max v.levels (gR l)
structure RP (xs:List Val) (l:Int) (s r:Int×Bool):Prop where
 lo:s.1<=r.1
 hi:r.1<=s.1+BW xs
 deep:r.2=true->s.2=true\/8<l+(gR xs:Int)
 all:Rr r=false->r.1=s.1+BW xs/\(xs≠[]->l+(gR xs:Int)<=8)
structure Jst where
 p:Nat
 e:Int
 i:Nat
namespace Jst
def fail(N:Nat)(st:Jst)(k:Nat)(x:Int):Jst:=if st.e=0 then⟨st.p,x,min k N⟩else st
def qL(st:Jst):Jst:=⟨st.p+1,st.e,st.i⟩
def go(st:Jst)(k:Nat):Jst:=⟨st.p+k,st.e,st.i⟩
end Jst
def jM(c:UInt8):Bool:=decide (48<=c)&&decide (c<=57)
def JJ(c:UInt8):Bool:=c==9||c==10||c==13||c==32
section
variable(s:za)
def yD(st:Jst):UInt8:=(s[st.p]?).getD 0
def xb(st:Jst):Jst:=st.go ((s.drop st.p).takeWhile JJ).length
def xH(st:Jst)(c:UInt8):Bool×Jst:=if st.e=0/\s[st.p]?=some c then(true,st.qL)else(false,st.fail s.length st.p 10)
def oy:za->Jst->Jst
 |[],st=>st
 |c::l,st=>if(xH s st c).1=true then oy l (xH s st c).2 else(xH s st c).2
def cy(a:Nat):za->Nat->Nat->Jst->Nat×Nat×Jst
 |[],n,m,st=>(n,m,if m=0 then st.fail s.length st.p 10 else st)
 |c::l,n,m,st=>if jM c=true then(if m=a then(n,m,st.fail s.length st.p 10)else cy a l (n*10+(c.toNat-48)) (m+1) st.qL)else(n,m,if m=0 then st.fail s.length st.p 10 else st)
def K4(a:Nat)(st:Jst):Nat×Nat×Jst:=cy s a (s.drop st.p) 0 0 st
def zV:Val:=.mk 0 0 [] [] []
def pj(n:Int):Val:=.mk 2 n [] [] []
def YH(st:Jst):Nat×Jst:=if yD s st=48 then(0,if jM (yD s st.qL)=true then st.qL.fail s.length st.qL.p 10 else st.qL)else((K4 s 12 st).1,(K4 s 12 st).2.2)
def xv(n:Nat)(st:Jst):Nat×Jst:=if st.e=0/\yD s st=46 then(n+(K4 s 3 st.qL).1*10 ^ (3-(K4 s 3 st.qL).2.1),(K4 s 3 st.qL).2.2)else(n,st)
def JK(st:Jst):Val×Jst:=
 let c:=if yD s st=45 then st.qL else st
 let a:=YH s c;let b:=xv s (a.1*1000) a.2
 (pj (if yD s st=45 then -(b.1:Int)else b.1),b.2)
def gS(c:UInt8):Option Nat:=if jM c=true then some (c.toNat-48)else if 97<=(c||| 32)/\(c||| 32)<=102 then some ((c||| 32).toNat-87)else none
def au:Nat->Nat->Jst->Option Nat×Jst
 | 0,n,st=>(some n,st.qL)
 |k+1,n,st=>match(s[st.qL.p]?).bind gS with
  |some d=>au k (n*16+d) st.qL
  |none=>(none,st.qL.fail s.length st.qL.p 10)
def Zy(st:Jst):UInt8×Jst:=
 if st.p<s.length/\(yD s st=34\/yD s st=92\/yD s st=47)then(yD s st,st.qL)
 else if s.length<=st.p\/yD s st≠117 then(0,st.fail s.length st.p 10)
 else match(au s 4 0 st).1 with
  |none=>(0,(au s 4 0 st).2)
  |some n=>(UInt8.ofNat n,if n<32\/126<n then(au s 4 0 st).2.fail s.length st.p 10 else(au s 4 0 st).2)
def gT:Nat->za->Jst->za×Jst
 | 0,_,st=>([],st)
 |k+1,b,st=>if st.e≠0 then([],st)else
  if s.length<=st.p\/yD s st<32\/126<yD s st then([],st.fail s.length st.p 10)
  else if yD s st=34 then(b,st.qL)
  else if yD s st=92 then gT k (b++[(Zy s st.qL).1]) (Zy s st.qL).2
  else gT k (b++[yD s st]) st.qL
def yR(st:Jst):za×Jst:=if(xH s st 34).1=true then gT s (s.length+1) [] (xH s st 34).2 else([],(xH s st 34).2)
variable(f:Jst->Val×Jst)
def oz:Nat->List Val->Jst->List Val×Jst
 | 0,l,st=>(l,st)
 |k+1,l,st=>if st.e≠0 then(l,st)else
  let a:=xb s (f st).2
  if a.e=0/\yD s a=44 then oz k (l++[(f st).1]) (xb s a.qL)else(l++[(f st).1],(xH s a 93).2)
def vt(st:Jst):List Val×Jst:=
 let a:=xb s st.qL
 if yD s a=93 then([],a.qL)else oz s f (s.length+1) [] a
def xY(seen:List za)(st:Jst):Jst:=if seen.contains (yR s st).1=true then(yR s st).2.fail s.length st.p 7 else(yR s st).2
def K5(seen:List za)(st:Jst):Jst:=xb s (xH s (xb s (xY s seen st)) 58).2
def oA:Nat->List za->List (za×Val)->Jst->List (za×Val)×Jst
 | 0,_,l,st=>(l,st)
 |k+1,seen,l,st=>if st.e≠0 then(l,st)else
  let a:=K5 s seen st
  if a.e≠0 then(l,a)else
  let b:=xb s (f a).2
  if b.e=0/\yD s b=44 then oA k (seen++[(yR s st).1]) (l++[((yR s st).1,(f a).1)]) (xb s b.qL)else(l++[((yR s st).1,(f a).1)],(xH s b 125).2)
def ZQ(st:Jst):List (za×Val)×Jst:=
 let a:=xb s st.qL
 if yD s a=125 then([],a.qL)else oA s f (s.length+1) [] [] a
end
def QV(a:List (za×Val)->List (za×Val))(s:za):Nat->Jst->Val×Jst
 | 0,st=>(zV,st)
 |k+1,st=>
  if s.length<=st.p then(zV,st.fail s.length st.p 10)
  else if yD s st=110 then(zV,oy s [110,117,108,108] st)
  else if yD s st=116 then(.mk 1 1 [] [] [],oy s [116,114,117,101] st)
  else if yD s st=102 then(.mk 1 0 [] [] [],oy s [102,97,108,115,101] st)
  else if yD s st=34 then(.mk 3 0 (yR s st).1 [] [],(yR s st).2)
  else if yD s st=91 then(.mk 4 0 [] (vt s (QV a s k) st).1 [],(vt s (QV a s k) st).2)
  else if yD s st=123 then(.mk 5 0 [] [] (a (ZQ s (QV a s k) st).1),(ZQ s (QV a s k) st).2)
  else if yD s st=45\/jM (yD s st)=true then JK s st
  else(zV,st.fail s.length st.p 10)
def xc(a:List (za×Val)->List (za×Val))(s:za)(p:Nat):Val×Nat×Int:=
 let r:=QV a s (s.length+1) ⟨p,0,0⟩
 if r.2.e=0 then(r.1,r.2.p,0)else(zV,r.2.i,r.2.e)
end Go.Q
namespace Go.AM
variable{dr:Prop}
def n1(s:Nat):O->O
 | .nil=>.sl s []
 | .em=>.sl s []
 |x=>x
@[simp]theorem zaj(s:Nat):n1 s .nil=.sl s []:=rfl
@[simp]theorem zaP(s:Nat):n1 s .em=.sl s []:=rfl
@[simp]theorem zaQ(s t:Nat)(es:List zb):n1 s (.sl t es)=.sl t es:=rfl
@[simp]theorem n1_v(s:Nat)(x:Value):n1 s (.v x)=.v x:=rfl
def Qb:List (Option Nat)->zb->zb
 |some s::l,x::xs=>n1 s x::Qb l xs
 |none::l,x::xs=>x::Qb l xs
 |_,xs=>xs
inductive Sh where
 |a
 |g (p:List (Option Nat))
 |s (n:Nat) (p:List (Option Nat))
def Sh.fix:Sh->O->O
 | .g p,.agg cs=>.agg (Qb p cs)
 | .s _ p,.sl m es=>.sl m (es.map (Qb p))
 | .s n _,x=>n1 n x
 |_,x=>x
@[simp]theorem Sh.zaV(x:O):Sh.fix .a x=x:=by cases x<;>rfl
@[simp]theorem Sh.zaW(p:List (Option Nat))(cs:zb):Sh.fix (.g p) (.agg cs)=.agg (Qb p cs):=rfl
@[simp]theorem Sh.EF(n m:Nat)(p:List (Option Nat))(es:List zb):Sh.fix (.s n p) (.sl m es)=.sl m (es.map (Qb p)):=rfl
@[simp]theorem Sh.UQ(n:Nat)(p:List (Option Nat)):Sh.fix (.s n p) .nil=.sl n []:=rfl
@[simp]theorem Sh.zaA(n:Nat)(p:List (Option Nat)):Sh.fix (.s n p) .em=.sl n []:=rfl
attribute [simp] Qb
def av:List Sh->zb->zb
 |h::l,x::xs=>h.fix x::av l xs
 |_,xs=>xs
attribute [simp] av
theorem ug(s:Nat)(x:O):yc x (n1 s x):=by
 intro w S u h;cases x with
 |nil=>exact K3 .nil h
 |em=>exact K3 .em h
 |_=>exact h
theorem j6:∀(p:List (Option Nat)) (cs:zb),(Qb p cs).length=cs.length
 |[],cs=>by cases cs<;>rfl
 |none::p,[]=>rfl
 |some s::p,[]=>rfl
 |none::p,x::cs=>by simp[j6 p cs]
 |some s::p,x::cs=>by simp[j6 p cs]
theorem kX:∀(p:List (Option Nat)) (cs:zb),vf cs (Qb p cs)
 |[],[]=>.nil
 |[],x::cs=>by have:=kX [] cs;rw[show Qb [] cs=cs by cases cs<;>rfl]at this;exact .cons (yc.refl x) this
 |none::p,[]=>.nil
 |some s::p,[]=>.nil
 |none::p,x::cs=>.cons (yc.refl x) (kX p cs)
 |some s::p,x::cs=>.cons (ug s x) (kX p cs)
theorem Ko(h:Sh)(x:O):yc x (h.fix x):=by
 intro w S u k;cases h with
 |a=>simpa using k
 |g p=>
  cases x with
  |agg cs=>exact(kX p cs).agg w S u k
  |_=>exact k
 |s n p=>
  cases x with
  |sl m es=>
   cases k with
   |sl us q r t v y z=>
    rename_i A cap;have:=qO.sl (w:=w) (S:=S) (es:=es.map (Qb p)) (A:=A) (cap:=cap) (s:=m) us q (by simpa using r) t (fun c B=>by
     obtain⟨b,e,rfl⟩:=zZ.1 B;rw[j6];exact v b e) (fun i j c C d o=>by
     rw[z8]at d;obtain⟨b,e,rfl⟩:∃b,es[i]?=some b/\Qb p b=c:=by
      cases l:es[i]? with
      |none=>rw[l]at d;cases d
      |some b=>rw[l]at d;injection d with d;exact⟨b,rfl,d⟩
     have f:j<b.length:=by have:=(ze.1 o).1;rwa [j6]at this
     exact y i j b _ e (zm f)) (fun i j c C d o=>by
     rw[z8]at d;obtain⟨b,e,rfl⟩:∃b,es[i]?=some b/\Qb p b=c:=by
      cases l:es[i]? with
      |none=>rw[l]at d;cases d
      |some b=>rw[l]at d;injection d with d;exact⟨b,rfl,d⟩
     have f:j<b.length:=by have:=(ze.1 o).1;rwa [j6]at this
     exact(kX p b).get (zm f) o _ _ _ (z i j b _ e (zm f)))
    rw[yK]at this;exact this
  |nil=>exact K3 .nil k
  |em=>exact K3 .em k
  |_=>exact k
theorem QW{w:World}{S:Nat->Prop}:∀{hs:List Sh} {xs:zb} {us:List Value},Zip (qO w S) xs us->Zip (qO w S) (av hs xs) us
 |[],xs,us,h=>by cases xs<;>exact h
 |s::hs,[],us,h=>h
 |s::hs,x::xs,us,h=>by obtain⟨u,a,rfl,b,c⟩:=h.y8;exact .cons (Ko s x w S u b) (QW c)
def qN(a:List Sh)(F:zb->Option O):AM.Spec:=zp false [] fun args=>F (av a args)
theorem xd(a:List Sh)(F:zb->Option O):xu (qN a F):=zv _ _
theorem yC{C:Ctx}{pf:FuncId->Bool}{f:FuncId}{fn:Func}(b:j9 dr C pf)(c:Kl C pf f fn)(a:List Sh)(F:zb->Option O)
  (d:∀args r,F args=some r->args.length<=fn.ntmps/\∃r0,zM C fn args=some r0/\yc r0 r):yU dr C.P f (qN a F):=
 cx b c false [] _ fun args r h w S vs e=>by obtain⟨g,r0,i,j⟩:=d _ _ h;exact⟨av a args,r0,QW e,g,i,j⟩
theorem kN{a:List Sh}{F:zb->Option O}{args:zb}{Y:Hp}{Z:Nat}{b:zb}{r:O}(c:zt Y args=some (b,Y))(d:F (av a b)=some r)(e:r.flat=true\/args.all O.noOwn=true) :
  qN a F args Y Z=some (r,Y,Z):=by
 have f:yn [] b=b:=by cases b<;>rfl
 exact yg c (by rw[f];exact d) e
def cz(sh:Sh)(r:O)(x:O)(Y:Hp)(_:Nat):Prop:=∃r0,(AM.freeze Y x).map (·.1)=some r0/\sh.fix r0=r
theorem WC{C:Ctx}{fn:Func}{code:Code}{args:zb}{sh:Sh}{r:O}(a:fn.body=some code)
  (h:vB C code ⟨ka args,fun _=>none,0⟩ (KW C.P fn (cz sh r))):∃r0,zM C fn args=some r0/\yc r0 r:=by
 obtain⟨x,Y',Z',b,r0,c,d⟩:=wX a h;exact⟨r0,by unfold zM;simp only[b];exact c,d ▸ Ko sh r0⟩
def qP(sh:Sh)(r:O)(x:O)(Y:Hp)(_:Nat):Prop:=∃r0 y,(AM.freeze Y x).map (·.1)=some (.qS [r0,y])/\.qS [sh.fix r0,y]=r
theorem kp{C:Ctx}{fn:Func}{code:Code}{args:zb}{sh:Sh}{r:O}(a:fn.body=some code)
  (h:vB C code ⟨ka args,fun _=>none,0⟩ (KW C.P fn (qP sh r))):∃r0,zM C fn args=some r0/\yc r0 r:=by
 obtain⟨x,Y',Z',b,r0,y,c,d⟩:=wX a h;exact⟨.qS [r0,y],by unfold zM;simp only[b];exact c,d ▸ (vf.cons (Ko sh r0) (.cons (yc.refl y) .nil)).qS⟩
theorem jj{P:Program}{g:FuncId}{F:zb->Option O}(j:∃fn,P.funcs[g]?=some fn/\(fn.name== "runtime.NumGoroutine")=false/\fn.body.isNone=false)
  (h:∀args r,F args=some r->∃us:List Value,args=us.map O.v/\(∀u∈us,lit u=true)/\r.flat=true/\∃v,(∀w S,qO w S r v)/\∀w S,tm P w S->Calls P g us.toArray w fun e s=>e=.returned v/\Fr dr w (fun _=>False) s):yU dr P g (zp false [] F):=by
 refine⟨j,?_⟩;intro args Y Z r Y' Z' hs w S G vs t z;unfold zp at hs;split at hs
 ·rename_i k Y1 m;split at hs
  ·rename_i r0 A;obtain⟨us,e,B,n,v,C,D⟩:=h _ _ A;have E:yn [] k=k:=by cases k<;>rfl
   rw[E]at e;subst e;have d:args=us.map O.v:=by
    have o:∀(args:zb) (us:List Value) (Y1:Hp),zt Y args=some (us.map O.v,Y1)->args=us.map O.v:=by
     intro args
     induction args with
     |nil=>intro us Y1 b;simp only[zt]at b;injection b with b;injection b with b _
     |cons x l H=>
      intro us Y1 b;simp only[zt]at b;split at b
      ·rename_i y Y2 a;split at b
       ·rename_i L p q;injection b with b
        injection b with b _;cases us with
        |nil=>simp at b
        |cons u us=>
         simp only[zL,zn]at b;obtain⟨rfl,rfl⟩:=b;have I:x=.v u/\Y2=Y:=by
          unfold zS at a;split at a
          ·split at a
           ·injection a with a;injection a with a _;cases a
           ·cases a
          ·unfold qh at a;split at a<;>first
            |(split at a<;>first|(split at a<;>first|(injection a with a;injection a with a _;cases a;done)|cases a)|cases a)
            |(injection a with a;injection a with i f;first|(exact⟨by rw[<-i],f.symm⟩)|cases i)
            |cases a
         obtain⟨rfl,rfl⟩:=I;rw[H us p q];rfl
       ·cases b
      ·cases b
    exact o args us Y1 m
   subst d;simp only[n,true_or,qa]at hs;injection hs with hs
   injection hs with i f;injection f with f J;subst i;subst f;subst J;rw[cn B z];refine(D w S t.KJ).mono fun e s b=>?_
   obtain⟨rfl,K⟩:=b;exact⟨v,_,G,rfl,jN.outer t K,.c (C _ _)⟩
  ·cases hs
 ·cases hs
end Go.AM
namespace Go.Proofs
open Go.Shelf
def Tryz.og:Go.Shelf.Ren:=⟨fun|161=>194|231=>216|227=>140|233=>217|235=>218|228=>175|197=>124|151=>177|260=>154|152=>200|137=>53|119=>223|224=>181|225=>180|217=>76|266=>104|n=>n,fun|9=>9|4=>4|3=>3|5=>5|117=>182|116=>181|0=>0|124=>185|105=>164|21=>21|119=>211|46=>126|139=>214|138=>213|n=>n,fun|3=>1|4=>2|n=>n⟩
theorem Tryz.HK:Go.Proofs.Lays.n161 prog Tryz.og:={
 mixed:=by kernel_rfl
 f119:=func223.trans (zk some (by kernel_rfl))
 f137:=func53.trans (zk some (by kernel_rfl))
 f151:=func177.trans (zk some (by kernel_rfl))
 f152:=func200.trans (zk some (by kernel_rfl))
 f161:=func194.trans (zk some (by kernel_rfl))
 f197:=func124.trans (zk some (by kernel_rfl))
 f217:=func76.trans (zk some (by kernel_rfl))
 f224:=func181.trans (zk some (by kernel_rfl))
 f225:=func180.trans (zk some (by kernel_rfl))
 f227:=func140.trans (zk some (by kernel_rfl))
 f228:=func175.trans (zk some (by kernel_rfl))
 f231:=func216.trans (zk some (by kernel_rfl))
 f233:=func217.trans (zk some (by kernel_rfl))
 f235:=func218.trans (zk some (by kernel_rfl))
 f260:=func154.trans (zk some (by kernel_rfl))
 f266:=func104.trans (zk some (by kernel_rfl))
 t0:=underlying0
 a0:=isAgg0
 z0:=sizeOf0
 v0:=zeroValue0
 t3:=underlying3
 a3:=isAgg3
 z3:=sizeOf3
 v3:=zeroValue3
 t4:=underlying4
 a4:=isAgg4
 z4:=sizeOf4
 v4:=zeroValue4
 t5:=underlying5
 a5:=isAgg5
 z5:=sizeOf5
 v5:=zeroValue5
 t9:=underlying9
 a9:=isAgg9
 z9:=sizeOf9
 v9:=zeroValue9
 t21:=underlying21
 a21:=isAgg21
 z21:=sizeOf21
 v21:=zeroValue21
 t46:=underlying126
 a46:=isAgg126
 z46:=sizeOf126
 v46:=zeroValue126
 t105:=underlying164
 a105:=isAgg164
 z105:=sizeOf164
 v105:=zeroValue164
 t116:=underlying181
 a116:=isAgg181
 z116:=sizeOf181
 t117:=underlying182
 a117:=isAgg182
 z117:=sizeOf182
 v117:=zeroValue182
 t119:=underlying211
 a119:=isAgg211
 z119:=sizeOf211
 t124:=underlying185
 a124:=isAgg185
 z124:=sizeOf185
 v124:=zeroValue185
 t138:=underlying213
 a138:=isAgg213
 z138:=sizeOf213
 v138:=zeroValue213
 t139:=underlying214
 a139:=isAgg214
 z139:=sizeOf214
 v139:=zeroValue214
 g3:=by kernel_rfl
 g4:=by kernel_rfl}
def Tryz.oh:Go.Shelf.Ren:=⟨fun|137=>53|217=>76|266=>104|n=>n,fun|9=>9|5=>5|3=>3|n=>n,fun|n=>n⟩
theorem Tryz.HL:Go.Proofs.Lays.n137 prog Tryz.oh:={
 mixed:=by kernel_rfl
 f137:=func53.trans (zk some (by kernel_rfl))
 f217:=func76.trans (zk some (by kernel_rfl))
 f266:=func104.trans (zk some (by kernel_rfl))
 t3:=underlying3
 a3:=isAgg3
 z3:=sizeOf3
 v3:=zeroValue3
 t5:=underlying5
 a5:=isAgg5
 z5:=sizeOf5
 v5:=zeroValue5
 t9:=underlying9
 a9:=isAgg9
 z9:=sizeOf9
 v9:=zeroValue9}
def Tryz.oi:Go.Shelf.Ren:=⟨fun|172=>161|244=>189|245=>190|247=>210|279=>211|280=>212|281=>213|282=>214|287=>227|316=>228|171=>102|205=>229|321=>233|322=>234|243=>138|246=>174|283=>195|284=>196|285=>197|286=>198|129=>121|317=>219|318=>220|319=>221|320=>222|337=>230|338=>231|n=>n,fun|9=>9|3=>3|75=>52|76=>53|4=>4|5=>5|167=>232|37=>35|0=>0|85=>233|2=>2|168=>235|53=>162|175=>245|46=>126|210=>249|127=>57|145=>255|143=>253|21=>21|171=>220|173=>222|212=>240|51=>160|20=>20|213=>241|232=>256|233=>257|80=>40|n=>n,fun|15=>4|16=>5|17=>3|18=>6|19=>7|n=>n⟩
theorem Tryz.HM:Go.Proofs.Lays.n172 prog Tryz.oi:={
 mixed:=by kernel_rfl
 f129:=func121.trans (zk some (by kernel_rfl))
 f171:=func102.trans (zk some (by kernel_rfl))
 f172:=func161.trans (zk some (by kernel_rfl))
 f205:=func229.trans (zk some (by kernel_rfl))
 f243:=func138.trans (zk some (by kernel_rfl))
 f244:=func189.trans (zk some (by kernel_rfl))
 f245:=func190.trans (zk some (by kernel_rfl))
 f246:=func174.trans (zk some (by kernel_rfl))
 f247:=func210.trans (zk some (by kernel_rfl))
 f279:=func211.trans (zk some (by kernel_rfl))
 f280:=func212.trans (zk some (by kernel_rfl))
 f281:=func213.trans (zk some (by kernel_rfl))
 f282:=func214.trans (zk some (by kernel_rfl))
 f283:=func195.trans (zk some (by kernel_rfl))
 f284:=func196.trans (zk some (by kernel_rfl))
 f285:=func197.trans (zk some (by kernel_rfl))
 f286:=func198.trans (zk some (by kernel_rfl))
 f287:=func227.trans (zk some (by kernel_rfl))
 f316:=func228.trans (zk some (by kernel_rfl))
 f317:=func219.trans (zk some (by kernel_rfl))
 f318:=func220.trans (zk some (by kernel_rfl))
 f319:=func221.trans (zk some (by kernel_rfl))
 f320:=func222.trans (zk some (by kernel_rfl))
 f321:=func233.trans (zk some (by kernel_rfl))
 f322:=func234.trans (zk some (by kernel_rfl))
 f337:=func230.trans (zk some (by kernel_rfl))
 f338:=func231.trans (zk some (by kernel_rfl))
 t0:=underlying0
 a0:=isAgg0
 z0:=sizeOf0
 v0:=zeroValue0
 t2:=underlying2
 a2:=isAgg2
 z2:=sizeOf2
 v2:=zeroValue2
 t3:=underlying3
 a3:=isAgg3
 z3:=sizeOf3
 v3:=zeroValue3
 t4:=underlying4
 a4:=isAgg4
 z4:=sizeOf4
 v4:=zeroValue4
 t5:=underlying5
 a5:=isAgg5
 z5:=sizeOf5
 v5:=zeroValue5
 t9:=underlying9
 a9:=isAgg9
 z9:=sizeOf9
 v9:=zeroValue9
 t20:=underlying20
 a20:=isAgg20
 z20:=sizeOf20
 v20:=zeroValue20
 t21:=underlying21
 a21:=isAgg21
 z21:=sizeOf21
 v21:=zeroValue21
 t37:=underlying35
 a37:=isAgg35
 z37:=sizeOf35
 v37:=zeroValue35
 t46:=underlying126
 a46:=isAgg126
 z46:=sizeOf126
 v46:=zeroValue126
 t51:=underlying160
 a51:=isAgg160
 z51:=sizeOf160
 v51:=zeroValue160
 t53:=underlying162
 a53:=isAgg162
 z53:=sizeOf162
 v53:=zeroValue162
 t75:=underlying52
 a75:=isAgg52
 z75:=sizeOf52
 v75:=zeroValue52
 t76:=underlying53
 a76:=isAgg53
 z76:=sizeOf53
 v76:=zeroValue53
 t85:=underlying233
 a85:=isAgg233
 z85:=sizeOf233
 v85:=zeroValue233
 t127:=underlying57
 a127:=isAgg57
 z127:=sizeOf57
 v127:=zeroValue57
 t143:=underlying253
 a143:=isAgg253
 z143:=sizeOf253
 v143:=zeroValue253
 t145:=underlying255
 a145:=isAgg255
 z145:=sizeOf255
 v145:=zeroValue255
 t167:=underlying232
 a167:=isAgg232
 z167:=sizeOf232
 v167:=zeroValue232
 t168:=underlying235
 a168:=isAgg235
 z168:=sizeOf235
 v168:=zeroValue235
 t171:=underlying220
 a171:=isAgg220
 z171:=sizeOf220
 v171:=zeroValue220
 t173:=underlying222
 a173:=isAgg222
 z173:=sizeOf222
 v173:=zeroValue222
 t175:=underlying245
 a175:=isAgg245
 z175:=sizeOf245
 v175:=zeroValue245
 t210:=underlying249
 a210:=isAgg249
 z210:=sizeOf249
 v210:=zeroValue249
 t212:=underlying240
 a212:=isAgg240
 z212:=sizeOf240
 v212:=zeroValue240
 t213:=underlying241
 a213:=isAgg241
 z213:=sizeOf241
 t232:=underlying256
 a232:=isAgg256
 z232:=sizeOf256
 v232:=zeroValue256
 t233:=underlying257
 a233:=isAgg257
 z233:=sizeOf257
 v233:=zeroValue257
 g15:=by kernel_rfl
 g16:=by kernel_rfl
 g17:=by kernel_rfl
 g18:=by kernel_rfl
 g19:=by kernel_rfl}
def Tryz.oj:Go.Shelf.Ren:=⟨fun|219=>155|217=>76|225=>180|224=>181|267=>182|266=>104|314=>209|n=>n,fun|9=>9|3=>3|4=>4|5=>5|46=>126|146=>230|51=>160|n=>n,fun|1=>0|n=>n⟩
theorem Tryz.HN:Go.Proofs.Lays.n219 prog Tryz.oj:={
 mixed:=by kernel_rfl
 f217:=func76.trans (zk some (by kernel_rfl))
 f219:=func155.trans (zk some (by kernel_rfl))
 f224:=func181.trans (zk some (by kernel_rfl))
 f225:=func180.trans (zk some (by kernel_rfl))
 f266:=func104.trans (zk some (by kernel_rfl))
 f267:=func182.trans (zk some (by kernel_rfl))
 f314:=func209.trans (zk some (by kernel_rfl))
 t3:=underlying3
 a3:=isAgg3
 z3:=sizeOf3
 v3:=zeroValue3
 t4:=underlying4
 a4:=isAgg4
 z4:=sizeOf4
 v4:=zeroValue4
 t5:=underlying5
 a5:=isAgg5
 z5:=sizeOf5
 v5:=zeroValue5
 t9:=underlying9
 a9:=isAgg9
 z9:=sizeOf9
 v9:=zeroValue9
 t46:=underlying126
 a46:=isAgg126
 z46:=sizeOf126
 v46:=zeroValue126
 t51:=underlying160
 a51:=isAgg160
 z51:=sizeOf160
 v51:=zeroValue160
 t146:=underlying230
 a146:=isAgg230
 z146:=sizeOf230
 v146:=zeroValue230
 g1:=by kernel_rfl}
def Tryz.om:Go.Shelf.Ren:=⟨fun|138=>157|195=>183|218=>184|143=>125|219=>155|217=>76|225=>180|224=>181|267=>182|266=>104|314=>209|n=>n,fun|9=>9|3=>3|4=>4|5=>5|0=>0|46=>126|146=>230|51=>160|n=>n,fun|1=>0|n=>n⟩
theorem Tryz.HO:Go.Proofs.Lays.n138 prog Tryz.om:={
 mixed:=by kernel_rfl
 f138:=func157.trans (zk some (by kernel_rfl))
 f143:=func125.trans (zk some (by kernel_rfl))
 f195:=func183.trans (zk some (by kernel_rfl))
 f217:=func76.trans (zk some (by kernel_rfl))
 f218:=func184.trans (zk some (by kernel_rfl))
 f219:=func155.trans (zk some (by kernel_rfl))
 f224:=func181.trans (zk some (by kernel_rfl))
 f225:=func180.trans (zk some (by kernel_rfl))
 f266:=func104.trans (zk some (by kernel_rfl))
 f267:=func182.trans (zk some (by kernel_rfl))
 f314:=func209.trans (zk some (by kernel_rfl))
 t0:=underlying0
 a0:=isAgg0
 z0:=sizeOf0
 v0:=zeroValue0
 t3:=underlying3
 a3:=isAgg3
 z3:=sizeOf3
 v3:=zeroValue3
 t4:=underlying4
 a4:=isAgg4
 z4:=sizeOf4
 v4:=zeroValue4
 t5:=underlying5
 a5:=isAgg5
 z5:=sizeOf5
 v5:=zeroValue5
 t9:=underlying9
 a9:=isAgg9
 z9:=sizeOf9
 v9:=zeroValue9
 t46:=underlying126
 a46:=isAgg126
 z46:=sizeOf126
 v46:=zeroValue126
 t51:=underlying160
 a51:=isAgg160
 z51:=sizeOf160
 v51:=zeroValue160
 t146:=underlying230
 a146:=isAgg230
 z146:=sizeOf230
 v146:=zeroValue230
 g1:=by kernel_rfl}
end Go.Proofs
namespace Go.Q
noncomputable def Wd (f:za->za->O) (pre:za->za->Prop):zb->Option O:=qD (α:=za×za) (fun a=>[str a.1,str a.2]) (fun a=>a.1.length<=zX/\a.2.length<=zX/\pre a.1 a.2) (fun a=>f a.1 a.2)
theorem BX:∀a b:za×za,[str a.1,str a.2]=[str b.1,str b.2]->a=b:=by rintro⟨c,d⟩ ⟨f,g⟩ e;simp only[zn,z7]at e;rw[ya e.1,ya e.2]
theorem xe(f:za->za->O)(pre:za->za->Prop)(a b:za)(Y:Hp)(Z:Nat)(h:a.length<=zX)(c:b.length<=zX)(d:pre a b)(e:(f a b).flat=true):zp false [] (Wd f pre) [str a,str b] Y Z=some (f a b,Y,Z):=
 sn (a,b) _ _ rfl BX ⟨h,c,d⟩ (.inl e)
theorem kY{f:za->za->O}{pre:za->za->Prop}{args:zb}{r:O}(h:Wd f pre args=some r):∃a b,args=[str a,str b]/\a.length<=zX/\b.length<=zX/\pre a b/\r=f a b:=by obtain⟨⟨a,b⟩,rfl,⟨c,d,e⟩,rfl⟩:=zQ h;exact⟨a,b,rfl,c,d,e,rfl⟩
theorem sA:AZ prog 0:=by refine⟨wT (by kernel_rfl),#[.int .i64 0],3,by kernel_rfl,rfl,by kernel_rfl,by kernel_rfl,by kernel_rfl⟩
def pk(a b:za):O:=int (Lib.index a b)
def LM(a b:za):O:=int (Lib.count a b)
theorem mg:zh prog 155 (zp false [] (Wd pk fun _ _=>True)):=
 jj ⟨_,func155,by kernel_rfl,by kernel_rfl⟩ fun args r h=>by
  obtain⟨a,b,rfl,c,d,_,rfl⟩:=kY h;unfold zX at c d;refine⟨[.string ⟨a.toArray⟩,.string ⟨b.toArray⟩],rfl,by simp[lit],rfl,.int .i64 (Lib.index a b),fun w S=>.v rfl,fun w S f=>?_⟩;obtain⟨_,m,g⟩:=f.1 0 sA;refine(Any.stringslite_Index Tryz.HN ⟨a.toArray⟩ ⟨b.toArray⟩ m w (by simp;omega) g).mono fun e j i=>?_
  obtain⟨rfl,rfl⟩:=i;exact⟨by simp,Fr.refl _ _⟩
theorem gU:zh prog 157 (zp false [] (Wd LM fun _ b=>1<=b.length)):=
 jj ⟨_,func157,by kernel_rfl,by kernel_rfl⟩ fun args r h=>by
  obtain⟨a,b,rfl,c,d,f,rfl⟩:=kY h;unfold zX at c d;refine⟨[.string ⟨a.toArray⟩,.string ⟨b.toArray⟩],rfl,by simp[lit],rfl,.int .i64 (Lib.count a b),fun w S=>.v rfl,fun w S g=>?_⟩;obtain⟨_,m,i⟩:=g.1 0 sA;refine(Any.strings_Count_any Tryz.HO ⟨a.toArray⟩ ⟨b.toArray⟩ m w (by simp;omega) i (by simpa using f)).mono fun e k j=>?_
  obtain⟨rfl,rfl⟩:=j;exact⟨by simp[Lib.countB],Fr.refl _ _⟩
noncomputable abbrev Ci:Ctx:=qp prog [(155,zp false [] (Wd pk fun _ _=>True))]
theorem Iq:AM.Good Ci (fun g=>[155].contains g):=qH mixed ⟨mg,fun _=>zv _ _,trivial⟩
theorem QX(a b:za)(Y:Hp)(Z:Nat)(h:a.length<=zX)(c:b.length<=zX):zp false [] (Wd pk fun _ _=>True) [str a,str b] Y Z=some (int (Lib.index a b),Y,Z):=xe _ _ a b Y Z h c trivial rfl
theorem K6:zh prog 125 (zp false [] (Wd pk fun _ _=>True)):=
 jo (fn:=f125) Iq (wL func125) false [] _ fun args r h=>by obtain⟨a,b,rfl,c,d,_,rfl⟩:=kY h;exact⟨by simp[f125],_,zw rfl (by simp[QX,c,d,pk,f125]),wy _⟩
noncomputable abbrev Ci2:Ctx:=qp prog [(125,zp false [] (Wd pk fun _ _=>True)),(157,zp false [] (Wd LM fun _ b=>1<=b.length))]
theorem BZ:AM.Good Ci2 (fun g=>[125].contains g):=qH mixed ⟨K6,fun _=>zv _ _,gU,fun _=>zv _ _,trivial⟩
def FR(a b:za):O:=yW (Lib.contains a b)
theorem cA:zh prog 128 (zp false [] (Wd FR fun _ _=>True)):=
 jo (fn:=f128) BZ (wL func128) false [] _ fun args r h=>by obtain⟨a,b,rfl,c,d,_,rfl⟩:=kY h;exact⟨by simp[f128],_,zw rfl (by simp[QX,c,d,FR,Lib.contains,f128]),wy _⟩
def gV(a b:za):O:=.qS [str (Lib.cut a b).1,str (Lib.cut a b).2.1,yW (Lib.cut a b).2.2]
theorem B0(a b:za)(c:a.length<=zX)(d:b.length<=zX):zM Ci f185 [str a,str b]=some (gV a b):=by
 refine zw rfl ?_;unfold zX at c d;by_cases h:0<=Lib.index a b
 ·have l:=Lib.index_room a b h;have e:Lib.cut a b=(a.take (Lib.index a b).toNat,a.drop ((Lib.index a b).toNat+b.length),true):=by unfold Lib.cut;rw[zl h]
  have f:=wY (Lib.index a b+b.length);have g:(Lib.index a b+b.length).toNat=(Lib.index a b).toNat+b.length:=by omega
  have i:0<=Lib.index a b+b.length:=by omega
  have j:(Lib.index a b).toNat<=a.length:=by omega
  have k:(Lib.index a b).toNat+b.length<=a.length:=by omega
  simp[QX,zX,c,d,h,f,g,i,j,k,gV,e,ja,f185];rw[qv (by simp)]
 ·have e:Lib.cut a b=(a,[],false):=by unfold Lib.cut;rw[zg h]
  simp[QX,zX,c,d,h,gV,e,ja,f185]
theorem uh:zh prog 185 (zp false [] (Wd gV fun _ _=>True)):=
 jo (fn:=f185) Iq (wL func185) false [] _ fun args r h=>by obtain⟨a,b,rfl,c,d,_,rfl⟩:=kY h;exact⟨by simp[f185],_,B0 a b c d,wy _⟩
def B5(a b:za):O:=yW (b.isPrefixOf a)
theorem mh(a b:za):(decide (b.length<=a.length)&&(a.take b.length==b))=b.isPrefixOf a:=by
 rw[vU];simp only[zs,qE,yJ,n9];constructor
 ·rintro⟨_,h⟩;exact List.prefix_iff_eq_take.2 h.symm
 ·intro h;exact⟨h.length_le,(List.prefix_iff_eq_take.1 h).symm⟩
noncomputable abbrev Cw0:Ctx:=qp prog []
theorem LN:Gd Cw0:=qH mixed trivial
theorem aw(a b:za):zM Cw0 f75 [str a,str b]=some (B5 a b):=by
 refine zw rfl ?_;have Y:=mh a b;by_cases h:b.length<=a.length
 ·rw[decide_eq_true h,Bool.true_and]at Y;simp[h,B5,<-Y,f75]
 ·rw[decide_eq_false h,Bool.false_and]at Y;have c:¬((b.length:Int)<=a.length):=by omega
  simp[h,c,B5,<-Y,f75]
theorem V9:zh prog 75 (zp false [] (Wd B5 fun _ _=>True)):=
 jo (fn:=f75) LN (wL func75) false [] _ fun args r h=>by obtain⟨a,b,rfl,c,d,_,rfl⟩:=kY h;exact⟨by simp[f75],_,aw a b,wy _⟩
noncomputable abbrev Cw1:Ctx:=qp prog [(75,zp false [] (Wd B5 fun _ _=>True)),(185,zp false [] (Wd gV fun _ _=>True))]
theorem pn:AM.Good Cw1 (fun g=>[75].contains g):=qH mixed ⟨V9,fun _=>zv _ _,uh,fun _=>zv _ _,trivial⟩
theorem K7(a b:za)(Y:Hp)(Z:Nat)(h:a.length<=zX)(c:b.length<=zX):zp false [] (Wd B5 fun _ _=>True) [str a,str b] Y Z=some (yW (b.isPrefixOf a),Y,Z):=xe _ _ a b Y Z h c trivial rfl
theorem mi(a b:za)(Y:Hp)(Z:Nat)(h:a.length<=zX)(c:b.length<=zX):zp false [] (Wd gV fun _ _=>True) [str a,str b] Y Z=some (.qS [str (Lib.cut a b).1,str (Lib.cut a b).2.1,yW (Lib.cut a b).2.2],Y,Z):=xe _ _ a b Y Z h c trivial rfl
theorem ax:zh prog 52 (zp false [] (Wd B5 fun _ _=>True)):=
 jo (fn:=f52) pn (wL func52) false [] _ fun args r h=>by obtain⟨a,b,rfl,c,d,_,rfl⟩:=kY h;exact⟨by simp[f52],_,zw rfl (by simp[K7,c,d,B5,f52]),wy _⟩
theorem po:zh prog 158 (zp false [] (Wd gV fun _ _=>True)):=
 jo (fn:=f158) pn (wL func158) false [] _ fun args r h=>by obtain⟨a,b,rfl,c,d,_,rfl⟩:=kY h;exact⟨by simp[f158],_,zw rfl (by simp[mi,c,d,gV,ja,f158]),wy _⟩
def FT(a b:za):O:=.qS [str (if b.isPrefixOf a then a.drop b.length else a),yW (b.isPrefixOf a)]
theorem ay(a b:za)(c:a.length<=zX)(d:b.length<=zX):zM Cw1 f162 [str a,str b]=some (FT a b):=by
 refine zw rfl ?_;cases h:b.isPrefixOf a
 ·simp[K7,c,d,h,FT,ja,f162]
 ·have e:=(n9.1 h).length_le;simp[K7,c,d,h,e,FT,ja,f162];rw[qv (by simp)]
theorem Xa:zh prog 162 (zp false [] (Wd FT fun _ _=>True)):=
 jo (fn:=f162) pn (wL func162) false [] _ fun args r h=>by obtain⟨a,b,rfl,c,d,_,rfl⟩:=kY h;exact⟨by simp[f162],_,ay a b c d,wy _⟩
noncomputable abbrev Cw2:Ctx:=qp prog [(162,zp false [] (Wd FT fun _ _=>True))]
theorem LO:Gd Cw2:=qH mixed ⟨Xa,fun _=>zv _ _,trivial⟩
theorem sB(a b:za)(Y:Hp)(Z:Nat)(h:a.length<=zX)(c:b.length<=zX):zp false [] (Wd FT fun _ _=>True) [str a,str b] Y Z=some (.qS [str (if b.isPrefixOf a then a.drop b.length else a),yW (b.isPrefixOf a)],Y,Z):=xe _ _ a b Y Z h c trivial rfl
theorem aA:zh prog 131 (zp false [] (Wd FT fun _ _=>True)):=
 jo (fn:=f131) LO (wL func131) false [] _ fun args r h=>by obtain⟨a,b,rfl,c,d,_,rfl⟩:=kY h;exact⟨by simp[f131],_,zw rfl (by simp[sB,c,d,FT,ja,f131]),wy _⟩
def tlP(a b:za):O:=str (Lib.trimLeftB a (b.headD 0))
def pq(b:za):Prop:=∃c:UInt8,b=[c]/\c.toNat<128
theorem cB:zh prog 194 (zp false [] (Wd tlP fun _ b=>pq b)):=
 jj ⟨_,func194,by kernel_rfl,by kernel_rfl⟩ fun args r h=>by
  obtain⟨a,b,rfl,g,i,⟨c,rfl,d⟩,rfl⟩:=kY h;refine⟨[.string ⟨a.toArray⟩,.string ⟨#[c]⟩],rfl,by simp[lit],rfl,.string ⟨(Lib.trimLeftB a c).toArray⟩,fun w S=>.v rfl,fun w S _=>?_⟩;refine(Any.strings_TrimLeft_one Tryz.HK ⟨a.toArray⟩ c d w).mono fun e j f=>?_
  obtain⟨rfl,rfl⟩:=f;exact⟨by simp,Fr.refl _ _⟩
noncomputable def Ir (f:za->UInt8->O):zb->Option O:=qD (α:=za×UInt8) (fun a=>[str a.1,FM a.2]) (fun a=>a.1.length<=zX) (fun a=>f a.1 a.2)
theorem LP:∀a b:za×UInt8,[str a.1,FM a.2]=[str b.1,FM b.2]->a=b:=by
 rintro⟨g,c⟩ ⟨h,d⟩ e;simp only[zn,z7]at e;have i:=ql e.2;have f:c.toNat=d.toNat:=by omega
 rw[ya e.1,wE.1 f]
theorem cC(f:za->UInt8->O)(a:za)(c:UInt8)(Y:Hp)(Z:Nat)(h:a.length<=zX)(b:(f a c).flat=true):zp false [] (Ir f) [str a,FM c] Y Z=some (f a c,Y,Z):=
 sn (a,c) _ _ rfl LP h (.inl b)
def E4(a:za)(c:UInt8):O:=int (Lib.indexByte a c)
theorem Zh:zh prog 53 (zp false [] (Ir E4)):=
 jj ⟨_,func53,by kernel_rfl,by kernel_rfl⟩ fun args r h=>by
  obtain⟨⟨a,c⟩,rfl,d,rfl⟩:=zQ h;refine⟨[.string ⟨a.toArray⟩,.int .u8 c.toNat],rfl,by simp[lit],rfl,.int .i64 (Lib.indexByte a c),fun w S=>.v rfl,fun w S _=>?_⟩;refine(Any.strings_IndexByte Tryz.HL ⟨a.toArray⟩ c.toNat w).mono fun e f b=>?_
  obtain⟨rfl,rfl⟩:=b;exact⟨by simp,Fr.refl _ _⟩
abbrev TJ:TypeId:=123
def zA(s:za)(st:Jst):zb:=[str s,int st.p,int st.e,int st.i]
abbrev qG(s:za)(st:Jst):Blk:=zN TJ (zA s st)
theorem cD{s b:za}{st a:Jst}(h:zA s st=zA b a):s=b/\st=a:=by cases st;cases a;simp only[zA,zn,z7]at h;obtain⟨f,c,d,e⟩:=h;have c:=ql c;have d:=ql d;have e:=ql e;refine⟨ya f,?_⟩;simp only[Jst.mk.injEq];omega
noncomputable def FJ {b:Type} (encA:b->zb) (pre:za->Jst->b->Prop) (c:za->Jst->b->Jst) (out:za->Jst->b->O):zb->zb->Option (zb×O):=
 fj (α:=za×Jst×b) (fun a=>zA a.1 a.2.1) (fun a=>encA a.2.2) (fun a=>a.1.length<=1048576/\a.2.1.p<=a.1.length/\pre a.1 a.2.1 a.2.2) (fun a=>(zA a.1 (c a.1 a.2.1 a.2.2),out a.1 a.2.1 a.2.2))
noncomputable abbrev mJ {a:Type} (encA:a->zb) (pre:za->Jst->a->Prop) (b:za->Jst->a->Jst) (out:za->Jst->a->O):AM.Spec:=eu TJ (FJ encA pre b out)
theorem vF{c:Type}{encA:c->zb}{pre:za->Jst->c->Prop}{d:za->Jst->c->Jst}{out:za->Jst->c->O}(f:∀a b,encA a=encA b->a=b)(j:∀b,(encA b).all O.isV=true){s:za}{st:Jst}(b:c){Y:Hp}{id Z:Nat}(k:Y id=some (qG s st))(hs:s.length<=1048576)(Y':st.p<=s.length)(h:pre s st b) :
  mJ encA pre d out (.ref id 0 0::encA b) Y Z=some (out s st b,qb Y id (some (qG s (d s st b))),Z):=
 gN (j b) k rfl (cq (encC:=fun a:List UInt8×Jst×c=>zA a.1 a.2.1) (encA:=fun a=>encA a.2.2) (a:=(s,st,b)) (fun x y l e=>by obtain⟨m,n,o⟩:=x;obtain⟨q,r,t⟩:=y;obtain⟨g,i⟩:=cD l;simp only at g i;have e:=f _ _ e;simp only at e;rw[g,i,e]) ⟨hs,Y',h⟩) rfl rfl
theorem xf{c:Type}{encA:c->zb}{pre:za->Jst->c->Prop}{a:za->Jst->c->Jst}{out:za->Jst->c->O}{cs e cs':zb}{r:O}(h:FJ encA pre a out cs e=some (cs',r)) :
  ∃s st b,cs=zA s st/\e=encA b/\s.length<=1048576/\st.p<=s.length/\pre s st b/\cs'=zA s (a s st b)/\r=out s st b:=by
 obtain⟨⟨s,st,b⟩,f,g,⟨i,j,k⟩,d⟩:=fk h;injection d with d l;exact⟨s,st,b,f,g,i,j,k,d,l⟩
def B6(a:Nat×Int):zb:=[int a.1,int a.2]
theorem sC(a b:Nat×Int)(h:B6 a=B6 b):a=b:=by simp only[B6,zn,z7]at h;have d:=ql h.1;have c:=ql h.2;exact Prod.ext (by omega) c
def aU(_:Unit):zb:=[]
theorem kq(a b:Unit)(_:aU a=aU b):a=b:=rfl
def Xb(c:UInt8):O:=.v (.int .u8 c.toNat)
def aC(c:UInt8):zb:=[Xb c]
theorem FU{a b:UInt8}(h:Xb a=Xb b):a=b:=by have:=ql h;exact wE.1 (by omega)
theorem LQ(a b:UInt8)(h:aC a=aC b):a=b:=by simp only[aC,zn,z7]at h;exact FU h
def aS(s:za):zb:=[str s]
theorem pt(a b:za)(h:aS a=aS b):a=b:=by simp only[aS,zn,z7]at h;exact ya h
noncomputable abbrev YI:AM.Spec:=mJ B6 (fun _ _ b=>b.1<=1048576) (fun s st b=>st.fail s.length b.1 b.2) (fun _ _ _=>.qS [])
theorem kd{s:za}{st:Jst}(k:Nat)(x:Int){Y:Hp}{id Z:Nat}(a:Y id=some (qG s st))(hs:s.length<=1048576)(Y':st.p<=s.length)(b:k<=1048576) :
  YI [.ref id 0 0,int k,int x] Y Z=some (.qS [],qb Y id (some (qG s (st.fail s.length k x))),Z):=vF sC (fun _=>rfl) (k,x) a hs Y' b
theorem kO:zh prog 106 YI:=
 wZ (code:=_) kM ⟨func106,by kernel_rfl,rfl,by kernel_rfl⟩ TJ _ fun cs c cs' r h=>by
  obtain⟨s,st,⟨k,x⟩,rfl,rfl,hs,Y,d,rfl,rfl⟩:=xf h;refine⟨by simp[B6,f106],?_⟩;by_cases a:st.e=0
  ·simp[B6,qM,zN,zA,a,Jst.fail,f106];refine wx rfl ?_;have b:((min k s.length:Nat):Int)=if s.length<k then(s.length:Int)else k:=by split<;>omega
   simp[zN,b]
  ·simp[B6,qM,zN,zA,a,vr a,Jst.fail,f106];exact wx rfl rfl
noncomputable def FW:zb->zb->Option O:=fun cs a=>(FJ aU (fun _ _ _=>True) (fun _ st _=>st) (fun s st _=>Xb (yD s st)) cs a).map (·.2)
noncomputable abbrev YJ:AM.Spec:=XY TJ FW
theorem FY(s:za)(st:Jst)(hs:s.length<=1048576)(Y':st.p<=s.length):FW (zA s st) []=some (Xb (yD s st)):=by
 unfold FW FJ;rw[show([]:zb)=aU ()from rfl,cq (encC:=fun a:List UInt8×Jst×Unit=>zA a.1 a.2.1) (encA:=fun a=>aU a.2.2) (a:=(s,st,())) (fun x y d _=>by obtain⟨e,f,g⟩:=x;obtain⟨h,i,j⟩:=y;obtain⟨b,c⟩:=cD d;simp only at b c;rw[b,c]) ⟨hs,Y',trivial⟩]
 rfl
theorem cE{s:za}{st:Jst}{Y:Hp}{id Z:Nat}(a:Y id=some (qG s st))(hs:s.length<=1048576)(Y':st.p<=s.length):YJ [.ref id 0 0] Y Z=some (Xb (yD s st),Y,Z):=BP rfl a rfl (FY s st hs Y')
theorem kP:zh prog 105 YJ:=
 l0 (wZ (code:=_) kM ⟨func105,by kernel_rfl,rfl,by kernel_rfl⟩ TJ _ fun cs e cs' r h=>by
  unfold FW at h;rw[jc]at h;obtain⟨⟨c,f⟩,d,b⟩:=VT.1 h;obtain⟨s,st,⟨⟩,rfl,rfl,hs,Y,_,rfl,rfl⟩:=xf d;simp only[Function.comp_apply,bo]at b;obtain⟨rfl,rfl⟩:=b;refine⟨by simp[aU,f105],?_⟩;by_cases a:st.p<s.length
  ·simp[aU,qM,zN,zA,a,f105];refine qB rfl ?_ .id ?_
   ·rfl
   ·simp[Xb,yD,a]
  ·simp[aU,qM,zN,zA,a,f105];refine qB rfl ?_ .id ?_
   ·rfl
   ·simp[Xb,yD,a])
noncomputable abbrev Cbj:Ctx:=qp prog [(53,zp false [] (Ir E4))]
theorem LR:AM.Good Cbj (fun g=>[53].contains g):=qH mixed ⟨Zh,fun _=>zv _ _,trivial⟩
theorem pw:∀(l:za) (c:UInt8),decide (0<=Lib.indexByte l c)=l.contains c
 |[],c=>by simp[Lib.indexByte]
 |b::l,c=>by
  have g:=pw l c;have h:=Lib.indexByte_ge l c;rw[Lib.indexByte,List.contains_cons];by_cases a:b=c
  ·subst a;simp
  ·have d:¬c=b:=fun e=>a e.symm
   rw[zg (by simpa using a),wv.2 d,Bool.false_or,<-g];by_cases f:Lib.indexByte l c=-1
   ·simp[f]
   ·rw[zg (by simpa using f)];have:0<=Lib.indexByte l c:=by omega
    rw[decide_eq_true this,decide_eq_true (by omega)]
theorem LS(c:UInt8):decide (0<=Lib.indexByte [9,10,13,32] c)=JJ c:=by rw[pw];simp only[List.contains_cons,List.contains_nil,JJ,Bool.or_false,Bool.or_assoc]
theorem B7{s:za}{st:Jst}{c:UInt8}(h:s[st.p]?=some c)(a:JJ c=true):xb s st=xb s st.qL:=by
 have b:=(ze.1 h).1;have d:s.drop st.p=c::s.drop (st.p+1):=by rw[zj b,(ze.1 h).2]
 simp[xb,d,kU,a,Jst.go,Jst.qL];omega
theorem mj{s:za}{st:Jst}(h:∀c,s[st.p]?=some c->JJ c=false):xb s st=st:=by
 have:(s.drop st.p).takeWhile JJ=[]:=by
  cases a:s.drop st.p with
  |nil=>rfl
  |cons c l=>
   have:s[st.p]?=some c:=by
    have b:(s.drop st.p)[0]?=some c:=by rw[a];rfl
    simpa using b
   simp[kU,h c this]
 simp[xb,this,Jst.go]
theorem kQ{s:za}{st:Jst}(h:st.p<=s.length):st.p<=(xb s st).p/\(xb s st).p<=s.length/\(xb s st).e=st.e/\(xb s st).i=st.i:=by have:=(List.takeWhile_sublist JJ (l:=s.drop st.p)).length_le;simp only[xb,Jst.go];simp at this;refine⟨by omega,by omega,trivial,trivial⟩
noncomputable abbrev Ua:AM.Spec:=mJ aU (fun _ _ _=>True) (fun s st _=>xb s st) (fun _ _ _=>.qS [])
theorem xZ{s:za}{st:Jst}{Y:Hp}{id Z:Nat}(a:Y id=some (qG s st))(hs:s.length<=1048576)(Y':st.p<=s.length):Ua [.ref id 0 0] Y Z=some (.qS [],qb Y id (some (qG s (xb s st))),Z):=vF kq (fun _=>rfl) () a hs Y' trivial
theorem ft:zh prog 145 Ua:=
 wZ (code:=_) LR ⟨func145,by kernel_rfl,rfl,by kernel_rfl⟩ TJ _ fun cs z cs' r h=>by
  obtain⟨s,st,⟨⟩,rfl,rfl,hs,Y,t,rfl,rfl⟩:=xf h;refine⟨by simp[aU,f145],?_⟩;clear h;simp;refine qA (fun k X Y Z=>X 0=.ref 0 0 0/\Z=1/\∃q,q=st.p+k/\Y=qM TJ (zA s ⟨q,st.e,st.i⟩)/\q<=s.length/\xb s ⟨q,st.e,st.i⟩=xb s st) (s.length-st.p) ⟨by simp[aU],rfl,st.p,rfl,rfl,Y,rfl⟩ ?_;rintro k X Y _ t ⟨l,rfl,q,A,rfl,u,m⟩;by_cases b:q<s.length
  ·obtain⟨c,n⟩:=yX (s[q]);have f:s[q]?=some c:=by rw[<-n];exact zm b
   have w:=wP q;have o:∀(Y:Hp) (Z:Nat),zp false [] (Ir E4) [.v (.string ⟨#[9,10,13,32]⟩),.v (.int .u8 c.toNat)] Y Z=some (int (Lib.indexByte [9,10,13,32] c),Y,Z):=fun Y Z=>cC E4 [9,10,13,32] c Y Z (by decide) rfl
   have d:=LS c;cases j:JJ c
   ·have a:=mj (s:=s) (st:=⟨q,st.e,st.i⟩) (fun x g=>by simp only[f,qu]at g;rw[<-g];exact j);rw[j]at d;simp[l,qM,zN,zA,b,n,o,d,f145];rw[<-m,a];exact wx rfl rfl
   ·have a:=B7 (s:=s) (st:=⟨q,st.e,st.i⟩) f j;rw[j]at d;simp[l,qM,zN,zA,b,n,o,d,w,f145];have y:(q:Int)+1=st.p+(k+1):=by omega
    refine⟨by omega,by rw[y],by omega,?_⟩;rw[show st.p+(k+1)=q+1 by omega,<-m,a];rfl
  ·have a:=mj (s:=s) (st:=⟨q,st.e,st.i⟩) (fun x g=>by rw[q5 (by simp;omega)]at g;cases g);simp[l,qM,zN,zA,b,f145];rw[<-m,a];exact wx rfl rfl
noncomputable abbrev Csj:Ctx:=qp prog [(106,YI)]
theorem LU:Gd Csj:=qT mixed ⟨kO,trivial⟩
noncomputable abbrev B8:AM.Spec:=mJ aC (fun _ _ _=>True) (fun s st c=>(xH s st c).2) (fun s st c=>yW (xH s st c).1)
theorem YK{s:za}{st:Jst}(c:UInt8){Y:Hp}{id Z:Nat}(a:Y id=some (qG s st))(hs:s.length<=1048576)(Y':st.p<=s.length):B8 [.ref id 0 0,Xb c] Y Z=some (yW (xH s st c).1,qb Y id (some (qG s (xH s st c).2)),Z):=vF LQ (fun _=>rfl) c a hs Y' trivial
theorem Jq:zh prog 143 B8:=
 wZ (code:=_) LU ⟨func143,by kernel_rfl,rfl,by kernel_rfl⟩ TJ _ fun cs j cs' r h=>by
  obtain⟨s,st,c,rfl,rfl,hs,Y,k,rfl,rfl⟩:=xf h;refine⟨by simp[aC,f143],?_⟩;clear h;have i:=wY ((st.p:Int)+1);have d:YI [.ref 0 0 0,int st.p,int 10] (qM TJ (zA s st)) 1=some (.qS [],qb (qM TJ (zA s st)) 0 (some (qG s (st.fail s.length st.p 10))),1):=kd st.p 10 rfl hs Y (by omega);simp only[qM,zN,zA,zd,zf,zo,Nat.reduceAdd]at d;by_cases a:st.e=0
  ·by_cases b:st.p<s.length
   ·by_cases f:s[st.p]=c
    ·simp[aC,Xb,qM,zN,zA,a,b,f,i,xH,Jst.qL,f143];exact wx rfl rfl
    ·have g:((s[st.p].toNat:Int)==(c.toNat:Int))=false:=by rw[Ie];simpa using f
     rw[a]at d;simp[aC,Xb,qM,zN,zA,a,b,g,f,d,xH,f143];exact wx rfl (by simp;rfl)
   ·rw[a]at d;simp[aC,Xb,qM,zN,zA,a,b,d,xH,f143];exact wx rfl (by simp;rfl)
  ·simp[aC,Xb,qM,zN,zA,a,vr a,d,xH,f143];exact wx rfl (by simp;rfl)
theorem WD{s:za}{st:Jst}(c:UInt8)(h:st.p<=s.length):st.p<=(xH s st c).2.p/\(xH s st c).2.p<=s.length:=by
 unfold xH;split
 ·rename_i a;have:=(ze.1 a.2).1;simp only[Jst.qL];omega
 ·simp only[Jst.fail];split<;>exact⟨zi _,h⟩
noncomputable abbrev Cwj:Ctx:=qp prog [(143,B8)]
theorem LV:Gd Cwj:=qT mixed ⟨Jq,trivial⟩
noncomputable abbrev wdS:AM.Spec:=mJ aS (fun _ _ w=>w.length<=1048576) (fun s st w=>oy s w st) (fun _ _ _=>.qS [])
theorem cF{s:za}{st:Jst}(w:za){Y:Hp}{id Z:Nat}(a:Y id=some (qG s st))(hs:s.length<=1048576)(Y':st.p<=s.length)(b:w.length<=1048576):wdS [.ref id 0 0,str w] Y Z=some (.qS [],qb Y id (some (qG s (oy s w st))),Z):=vF pt (fun _=>rfl) w a hs Y' b
theorem ui:zh prog 107 wdS:=
 wZ (code:=_) LV ⟨func107,by kernel_rfl,rfl,by kernel_rfl⟩ TJ _ fun cs t cs' r h=>by
  obtain⟨s,st,w,rfl,rfl,hs,Y,o,rfl,rfl⟩:=xf h;refine⟨by simp[aS,f107],?_⟩;clear h;simp[aS];refine qA (fun k X Y Z=>X 0=.ref 0 0 0/\X 1=str w/\X 6=int w.length/\X 7=int k/\Z=1/\∃a,Y=qM TJ (zA s a)/\a.p<=s.length/\oy s (w.drop k) a=oy s w st) w.length ⟨by simp,by simp,by simp,by simp,rfl,st,rfl,Y,rfl⟩ ?_;rintro k X Y _ u ⟨f,g,i,j,rfl,a,rfl,Y',b⟩;by_cases d:k<w.length
  ·have q:=wP k;obtain⟨c,l⟩:=yX (w[k]);have e:B8 [.ref 0 0 0,.v (.int .u8 c.toNat)] (qM TJ (zA s a)) 1=some (yW (xH s a c).1,qb (qM TJ (zA s a)) 0 (some (qG s (xH s a c).2)),1):=YK c rfl hs Y';have m:=WD (s:=s) c Y';rw[zj d,l,oy]at b;cases n:(xH s a c).1
   ·rw[n]at e b;simp at b;simp[f,g,i,j,d,l,e,f107];rw[b];exact wx rfl (by simp)
   ·rw[n]at e b;simp at b;simp[f,g,i,j,d,l,e,q,f107];exact⟨by omega,_,by simp[qM,wI],m.2,b⟩
  ·obtain rfl:k=w.length:=by omega
   rw[zE]at b;simp[f,g,i,j,d,f107];rw[<-b];exact wx rfl rfl
end Go.Q
namespace Go.AM
def uj(Q:St->Prop)(K:Exit->St->Prop)(e:Exit)(st:St):Prop:=match e with
 | .normal=>Q st
 |e=>K e st
@[simp]theorem zak(Q:St->Prop)(K:Exit->St->Prop)(st:St):uj Q K .normal st=Q st:=rfl
@[simp]theorem zal(Q:St->Prop)(K:Exit->St->Prop)(st:St):uj Q K .ret st=K .ret st:=rfl
@[simp]theorem zam(Q:St->Prop)(K:Exit->St->Prop)(i:Nat)(st:St):uj Q K (.exit i) st=K (.exit i) st:=rfl
theorem Qk{C:Ctx}{a b:Code}{st:St}{K:Exit->St->Prop}(Q:St->Prop)(d:vB C a st (uj Q K))(f:∀st,Q st->vB C b st K):vB C (.seq a b) st K:=by
 rw[gB];refine d.mono fun e st c=>?_
 cases e
 case normal=>exact f _ c
 all_goals exact c
theorem qq{C:Ctx}{a b:Code}{st:St}{K:Exit->St->Prop}(Q:(Nat->O)->Hp->Nat->Prop)(c:vB C a st (uj (fun st=>Q st.X st.Y st.Z) K))(d:∀X Y Z,Q X Y Z->vB C b ⟨X,Y,Z⟩ K):vB C (.seq a b) st K:=
 Qk _ c fun st h=>d st.X st.Y st.Z h
end Go.AM
namespace Go.Q
theorem wu8(n:Nat)(h:n<256):IntKind.u8.wrap (n:Int)=n:=by have a:(n:Int) % 256=n:=Int.emod_eq_of_lt (by omega) (by omega);simp[IntKind.wrap,IntKind.bits,IntKind.signed];omega
theorem Ql(c:UInt8):jM c=(decide (48<=c.toNat)&&decide (c.toNat<=57)):=by simp[jM,wq]
theorem sD(c:UInt8):c.toNat<256:=c.toNat_lt
theorem vl(N:Nat)(st:Jst)(k:Nat)(x:Int):(st.fail N k x).p=st.p:=by unfold Jst.fail;split<;>rfl
theorem Is(s:za)(e:Nat):∀(l:za) (n m:Nat) (st:Jst),st.p<=(cy s e l n m st).2.2.p/\(cy s e l n m st).2.2.p<=st.p+l.length/\(cy s e l n m st).1<(n+1)*10 ^ (e-m)\/e<m
 |[],n,m,st=>by
  by_cases f:e<m
  ·exact .inr f
  ·refine .inl ?_;simp only[cy,zf,xm];have j:n+1<=(n+1)*10 ^ (e-m):=Nat.le_mul_of_pos_right _ (Nat.pow_pos (by omega));split<;>(try rw[vl])<;>exact⟨zi _,zi _,by omega⟩
 |c::l,n,m,st=>by
  by_cases f:e<m
  ·exact .inr f
  ·refine .inl ?_;have j:n+1<=(n+1)*10 ^ (e-m):=Nat.le_mul_of_pos_right _ (Nat.pow_pos (by omega));rw[cy];split
   ·rename_i i;split
    ·rename_i g;refine⟨?_,?_,?_⟩
     ·simp only[vl];omega
     ·simp only[vl];omega
     ·simp only;omega
    ·rename_i g;rcases Is s e l (n*10+(c.toNat-48)) (m+1) st.qL with⟨a,b,d⟩|h
     ·simp only[Jst.qL]at a b d⊢;refine⟨by omega,by simp;omega,q8 d ?_⟩;rw[Ql]at i;simp at i;have k:e-m=(e-(m+1))+1:=by omega
      rw[k,HF,VU (10 ^ _) 10,<-Nat.mul_assoc];exact z6 _ (by omega)
     ·omega
   ·split<;>(try simp only[vl])<;>refine⟨zi _,by omega,by omega⟩
theorem It(s:za)(a:Nat):∀(l:za) (n m:Nat) (st:Jst),m<=a->m<=(cy s a l n m st).2.1/\(cy s a l n m st).2.1<=a
 |[],n,m,st,h=>by simp only[cy];exact⟨zi _,h⟩
 |c::l,n,m,st,h=>by
  rw[cy];split
  ·split
   ·exact⟨zi _,h⟩
   ·have:=It s a l (n*10+(c.toNat-48)) (m+1) st.qL (by omega);omega
  ·exact⟨zi _,h⟩
noncomputable abbrev Cdj:Ctx:=qp prog [(106,YI),(105,YJ)]
theorem LW:AM.Good Cdj (fun g=>[105].contains g):=qH mixed ⟨kO,by simp,kP,fun _=>kL _ _,trivial⟩
def aN(n:Nat):zb:=[int n]
theorem LX(a b:Nat)(h:aN a=aN b):a=b:=by simp only[aN,zn,z7]at h;have:=ql h;omega
noncomputable abbrev dgS:AM.Spec:=mJ aN (fun _ _ n=>n<=12) (fun s st n=>(K4 s n st).2.2) (fun s st n=>.qS [int (K4 s n st).1,int (K4 s n st).2.1])
theorem ml{s:za}{st:Jst}(n:Nat){Y:Hp}{id Z:Nat}(a:Y id=some (qG s st))(hs:s.length<=1048576)(Y':st.p<=s.length)(b:n<=12):dgS [.ref id 0 0,int n] Y Z=some (.qS [int (K4 s n st).1,int (K4 s n st).2.1],qb Y id (some (qG s (K4 s n st).2.2)),Z):=vF LX (fun _=>rfl) n a hs Y' b
theorem uk:zh prog 148 dgS:=
 wZ (code:=_) LW ⟨func148,by kernel_rfl,rfl,by kernel_rfl⟩ TJ _ fun cs U cs' r h=>by
  obtain⟨s,st,a,rfl,rfl,hs,Y,F,rfl,rfl⟩:=xf h;refine⟨by simp[aN,f148],?_⟩;clear h;simp[aN];refine qA (fun k X Y Z=>X 0=.ref 0 0 0/\X 1=int a/\Z=1/\∃n q,X 4=int (n:Nat)/\X 5=int k/\q=st.p+k/\Y=qM TJ (zA s ⟨q,st.e,st.i⟩)/\q<=s.length/\k<=a/\n<10 ^ k/\cy s a (s.drop q) n k ⟨q,st.e,st.i⟩=K4 s a st) a ⟨by simp,by simp,rfl,0,st.p,by simp,by simp,rfl,rfl,Y,by omega,by simp,rfl⟩ ?_;rintro k X Y _ W ⟨v,w,rfl,n,q,x,y,hq,rfl,z,M,G,H⟩;have I:n<1000000000000:=q8 G (qm (SB (by omega) (show k<=12 by omega)) (by decide));have d:YJ [.ref 0 0 0] (qM TJ (zA s ⟨q,st.e,st.i⟩)) 1=some (Xb (yD s ⟨q,st.e,st.i⟩),qM TJ (zA s ⟨q,st.e,st.i⟩),1):=cE rfl hs z;have m:YI [.ref 0 0 0,int q,int 10] (qM TJ (zA s ⟨q,st.e,st.i⟩)) 1=some (.qS [],qb (qM TJ (zA s ⟨q,st.e,st.i⟩)) 0 (some (qG s (Jst.fail s.length ⟨q,st.e,st.i⟩ q 10))),1):=kd q 10 rfl hs z (by omega);obtain⟨c,E⟩:=yX (yD s ⟨q,st.e,st.i⟩);rw[E]at d;simp only[qM,zN,zA,Xb,zd,zf,zo,Nat.reduceAdd]at d m;have J:=sD c;have g:jM c=false->K4 s a st=(n,k,if k=0 then Jst.fail s.length ⟨q,st.e,st.i⟩ q 10 else⟨q,st.e,st.i⟩):=fun A=>by
   rw[<-H];by_cases f:q<s.length
   ·have o:s[q]=c:=by simpa[yD,f]using E
    rw[zj f,o,cy,A];simp
   ·rw[List.drop_eq_nil_iff.2 (by omega),cy]
  have j:jM c=true->q<s.length/\K4 s a st=if k=a then(n,k,Jst.fail s.length ⟨q,st.e,st.i⟩ q 10)else cy s a (s.drop (q+1)) (n*10+(c.toNat-48)) (k+1) ⟨q+1,st.e,st.i⟩:=fun A=>by
   have f:q<s.length:=by
    refine rY fun G=>?_
    have:c=0:=by rw[<-E,yD,q5 (by simp;omega)];rfl
    rw[this]at A;exact absurd A (by decide)
   have o:s[q]=c:=by simpa[yD,f]using E
   refine⟨f,?_⟩;rw[<-H,zj f,o,cy,A];simp[Jst.qL]
  rw[Ql]at g j;by_cases K:48<=c.toNat
  ·have t:(48:Int)<=c.toNat:=by omega
   by_cases L:c.toNat<=57
   ·have B:(c.toNat:Int)<=57:=by omega
    obtain⟨f,b⟩:=j (by simp[K,L]);by_cases C:k=a
    ·subst C;rw[zl rfl]at b;simp[v,w,x,y,qM,zN,zA,d,m,t,B,b,f148];exact wx rfl rfl
    ·rw[zg C]at b;have D:((k:Int)==(a:Int))=false:=by simp;omega
     have N:=wY ((n:Int)*10);have P:IntKind.u8.wrap ((c.toNat:Int)-48)=((c.toNat-48:Nat):Int):=by rw[show(c.toNat:Int)-48=((c.toNat-48:Nat):Int) by omega];exact wu8 _ (by omega)
     have Q:=wY ((c.toNat-48:Nat):Int);have R:i6.wrap ((n:Int)*10+((c.toNat-48:Nat):Int))=((n*10+(c.toNat-48):Nat):Int):=by rw[wN (by omega) (by omega)];omega
     have S:=wP k;have T:=wP q;simp[v,w,x,y,qM,zN,zA,d,m,t,B,D,N,P,Q,R,S,T,f148];refine⟨by omega,n*10+(c.toNat-48),by omega,by rw[show(q:Int)+1=st.p+(k+1) by omega],by omega,by omega,by rw[HF];omega,?_⟩;rw[show st.p+(k+1)=q+1 by omega];exact b.symm
   ·have B:¬(c.toNat:Int)<=57:=by omega
    have b:=g (by simp[L]);by_cases l:k=0
    ·subst l;simp[v,w,x,y,qM,zN,zA,d,m,t,B,b,f148];exact wx rfl rfl
    ·have u:((k:Int)==0)=false:=by simp;omega
     simp[v,w,x,y,qM,zN,zA,d,m,t,B,b,l,u,f148];exact wx rfl rfl
  ·have t:¬(48:Int)<=c.toNat:=by omega
   have b:=g (by simp[K]);by_cases l:k=0
   ·subst l;simp[v,w,x,y,qM,zN,zA,d,m,t,b,f148];exact wx rfl rfl
   ·have u:((k:Int)==0)=false:=by simp;omega
    simp[v,w,x,y,qM,zN,zA,d,m,t,b,l,u,f148];exact wx rfl rfl
theorem px{s:za}{st:Jst}(c:Nat)(h:st.p<=s.length):st.p<=(K4 s c st).2.2.p/\(K4 s c st).2.2.p<=s.length/\(K4 s c st).1<10 ^ c/\(K4 s c st).2.1<=c:=by
 have e:=It s c (s.drop st.p) 0 0 st (by omega);rcases Is s c (s.drop st.p) 0 0 st with⟨a,b,d⟩|h1
 ·simp at b d;exact⟨a,by unfold K4;omega,by unfold K4;omega,e.2⟩
 ·omega
noncomputable abbrev Cnj:Ctx:=qp prog [(106,YI),(105,YJ),(148,dgS)]
theorem LY:AM.Good Cnj (fun g=>[105].contains g):=qH mixed ⟨kO,by simp,kP,fun _=>kL _ _,uk,by simp,trivial⟩
noncomputable abbrev LZ:AM.Spec:=mJ aU (fun _ st _=>st.p+1<=1048576) (fun s st _=>(JK s st).2) (fun s st _=>.agg (JK s st).1.V)
theorem ZR{s:za}{st:Jst}{c:UInt8}(h:yD s st=c)(a:c≠0):st.p<s.length:=by
 refine rY fun b=>a ?_
 rw[<-h,yD,q5 (by omega)];rfl
theorem vG{s:za}{st:Jst}{Y:Hp}{Z:Nat}(a:Y 0=some (qG s st))(hs:s.length<=1048576)(Y':st.p<=s.length):YJ [.ref 0 0 0] Y Z=some (.v (.int .u8 (yD s st).toNat),Y,Z):=cE a hs Y'
def Zi:Blk:=⟨48,5,false,[[int 0,int 0,str [],.nil,.nil]]⟩
theorem ee{c:UInt8}(k:UInt8)(h:¬c=k):((c.toNat:Int)==(k.toNat:Int))=false:=by rw[Ie];simpa using h
abbrev uV:O->O:=tZ [fun x=>x,fun x=>x,fun x=>x,Lz 5,Lz 6]
theorem xw:od uV:=.agg fun u a=>by
 simp only[zJ,yO,or_false]at a;rcases a with rfl|rfl|rfl|rfl|rfl
 ·exact .id
 ·exact .id
 ·exact .id
 ·exact .nz 5
 ·exact .nz 6
theorem sE{s:za}{st:Jst}(h:st.p<=s.length):st.p<=(YH s st).2.p/\(YH s st).2.p<=s.length/\(YH s st).1<1000000000000:=by
 unfold YH;split
 ·rename_i a;have b:=ZR a (by decide);refine⟨?_,?_,by simp⟩<;>simp only<;>split<;>simp only[vl,Jst.qL]<;>omega
 ·have:=px (s:=s) 12 h;exact⟨this.1,this.2.1,this.2.2.1⟩
theorem Rs{n m:Nat}(h:n<1000)(a:m<=3):n*10 ^ (3-m)<1000000:=by
 have:m=0\/m=1\/m=2\/m=3:=by omega
 rcases this with rfl|rfl|rfl|rfl<;>simp<;>omega
theorem mm{s:za}{st:Jst}(n:Nat)(h:st.p<=s.length):st.p<=(xv s n st).2.p/\(xv s n st).2.p<=s.length/\(xv s n st).1<n+1000000:=by
 unfold xv;split
 ·rename_i a;have c:=ZR a.2 (by decide);have:=px (s:=s) (st:=st.qL) 3 (by simp only[Jst.qL];omega);have b:=Rs this.2.2.1 this.2.2.2;simp only[Jst.qL]at this b⊢;exact⟨by omega,this.2.1,by omega⟩
 ·exact⟨zi _,h,by simp only;omega⟩
theorem pz:zh prog 111 LZ:=
 wZ (code:=_) LY ⟨func111,by kernel_rfl,rfl,by kernel_rfl⟩ TJ _ fun cs az cs' r h=>by
  obtain⟨s,st,⟨⟩,rfl,rfl,hs,Y,zaX,rfl,rfl⟩:=xf h;refine⟨by simp[aU,f111],?_⟩;clear h;refine qq (fun X Y Z=>X 0=.ref 0 0 0/\X 2=.ref 1 0 0/\Y 0=some (qG s st)/\Y 1=some Zi/\Z=2) (by simp[aU,qM,zN,zA,Zi,zc]) ?_;rintro X Y1 _ ⟨q,t,f,o,rfl⟩;refine qq (fun d Y Z=>d 0=.ref 0 0 0/\d 2=.ref 1 0 0/\d 3=yW (decide (yD s st=45))/\Y 0=some (qG s st)/\Y 1=some Zi/\Z=2) ?_ ?_
  ·have g:=vG (Z:=2) f hs Y;by_cases v:yD s st=45
   ·rw[v]at g;simp[q,t,g,f,o,v]
   ·have this:(((yD s st).toNat:Int)==45)=false:=ee 45 v;simp[q,t,g,f,o,v,this]
  clear q t f o X Y1;rintro X Y1 _ ⟨q,t,u,f,o,rfl⟩;obtain⟨l,z⟩:=yX (if yD s st=45 then st.qL else st);have B:l.p<=s.length:=by
   rw[<-z];split
   ·rename_i v;have:=ZR v (by decide);simp only[Jst.qL];omega
   ·exact Y
  refine qq (fun d Y Z=>d 0=.ref 0 0 0/\d 2=.ref 1 0 0/\d 3=yW (decide (yD s st=45))/\Y 0=some (qG s l)/\Y 1=some Zi/\Z=2) ?_ ?_
  ·simp only[zN,zA,zd,zf,zo,Nat.reduceAdd]at f⊢;by_cases v:yD s st=45
   ·have F:=wY ((st.p:Int)+1);rw[zl v]at z;simp[q,t,u,f,o,v,<-z,F,Jst.qL,zc]
   ·rw[zg v]at z;simp[q,t,u,f,o,v,<-z]
  clear q t u f o X Y1;rintro X Y1 _ ⟨q,t,u,f,o,rfl⟩;refine qq (fun d Y Z=>d 0=.ref 0 0 0/\d 2=.ref 1 0 0/\d 3=yW (decide (yD s st=45))/\d 4=int 0/\Y 0=some (qG s l)/\Y 1=some Zi/\Z=2) (by simp[q,t,u,f,o]) ?_;clear q t u f o X Y1;rintro X Y1 _ ⟨q,t,u,w,f,o,rfl⟩;obtain⟨a,S⟩:=yX (YH s l);have K:=sE (s:=s) B;rw[S]at K;refine qq (fun d Y Z=>d 0=.ref 0 0 0/\d 2=.ref 1 0 0/\d 3=yW (decide (yD s st=45))/\d 4=int a.1/\Y 0=some (qG s a.2)/\Y 1=some Zi/\Z=2) ?_ ?_
  ·have g:=vG (Z:=2) f hs B;by_cases v:yD s l=48
   ·have hl:=ZR v (by decide);have F:=wY ((l.p:Int)+1);rw[v]at g;obtain⟨c,P⟩:=yX (yD s l.qL);have C:qb Y1 0 (some (qG s l.qL)) 0=some (qG s l.qL):=by simp
    have A:=vG (Z:=2) C hs (by simp only[Jst.qL];omega);have g3:=kd (Z:=2) l.qL.p 10 C hs (by simp only[Jst.qL];omega) (by simp only[Jst.qL];omega);rw[P]at A;have x:YH s l=(0,if jM c=true then l.qL.fail s.length l.qL.p 10 else l.qL):=by rw[YH,zl v,P]
    rw[S,Ql]at x;simp only[zN,zA,Jst.qL,zd,zf,zo,Nat.reduceAdd,yp,qz]at f A g3⊢;by_cases c1:48<=c.toNat
    ·have T:(48:Int)<=c.toNat:=by omega
     by_cases c2:c.toNat<=57
     ·have d2:(c.toNat:Int)<=57:=by omega
      simp only[c1,c2,decide_true,Jd,qa]at x;simp[q,t,u,w,f,o,g,A,g3,F,T,d2,x,zc,Jst.qL]
     ·have d2:¬(c.toNat:Int)<=57:=by omega
      simp only[c1,c2,decide_true,decide_false,Bool.and_false,zq,qf]at x;simp[q,t,u,w,f,o,g,A,F,T,d2,x,zc,Jst.qL]
    ·have T:¬(48:Int)<=c.toNat:=by omega
     simp only[c1,decide_false,Bool.false_and,zq,qf]at x;simp[q,t,u,w,f,o,g,A,F,T,x,zc,Jst.qL]
   ·have L:(((yD s l).toNat:Int)==48)=false:=ee 48 v;have x:YH s l=((K4 s 12 l).1,(K4 s 12 l).2.2):=by rw[YH,zg v]
    have A:=ml (Z:=2) 12 f hs B (by omega);simp only[qz]at A;rw[S]at x;simp[q,t,u,w,o,g,A,L,x,zc]
  clear q t u w f o X Y1;rintro X Y1 _ ⟨q,t,u,w,f,o,rfl⟩;obtain⟨n,i⟩:=a;simp only at K w f;have SV:i6.wrap ((n:Int)*1000)=((n*1000:Nat):Int):=by rw[wN (by omega) (by omega)];omega
  refine qq (fun d Y Z=>d 0=.ref 0 0 0/\d 2=.ref 1 0 0/\d 3=yW (decide (yD s st=45))/\d 4=int (n*1000:Nat)/\Y 0=some (qG s i)/\Y 1=some Zi/\Z=2) (by simp[q,t,u,w,f,o,SV]) ?_;clear q t u w f o X Y1;rintro X Y1 _ ⟨q,t,u,w,f,o,rfl⟩;have H:=K.2.1;obtain⟨b,D⟩:=yX (xv s (n*1000) i);have HG:=mm (s:=s) (n*1000) H;rw[D]at HG;refine qq (fun d Y Z=>d 0=.ref 0 0 0/\d 2=.ref 1 0 0/\d 3=yW (decide (yD s st=45))/\d 4=int b.1/\Y 0=some (qG s b.2)/\Y 1=some Zi/\Z=2) ?_ ?_
  ·have g:=vG (Z:=2) f hs H;by_cases M:i.e=0
   ·by_cases v:yD s i=46
    ·have hl:=ZR v (by decide);have F:=wY ((i.p:Int)+1);rw[v]at g;have y:xv s (n*1000) i=(n*1000+(K4 s 3 i.qL).1*10 ^ (3-(K4 s 3 i.qL).2.1),(K4 s 3 i.qL).2.2):=by rw[xv,zl ⟨M,v⟩]
     rw[D]at y;have I:i.qL.p<=s.length:=by simp only[Jst.qL];omega
     have G:=px (s:=s) (st:=i.qL) 3 I;obtain⟨m,k,N,hd⟩:∃m k N,K4 s 3 i.qL=(m,k,N):=⟨_,_,_,rfl⟩;rw[hd]at y G;simp only at y G;have hm3:=Rs G.2.2.1 G.2.2.2;have C:qb Y1 0 (some (qG s i.qL)) 0=some (qG s i.qL):=by simp
     have A:=ml (Z:=2) 3 C hs I (by omega);rw[hd]at A;simp only[zN,zA,Jst.qL,zd,zf,zo,Nat.reduceAdd,yp,qz]at f A⊢;rw[M]at A;simp[q,t,u,w,f,o,g,A,F,M];refine qA (fun j d Y Z=>d 0=.ref 0 0 0/\d 2=.ref 1 0 0/\d 3=yW (decide (yD s st=45))/\d 4=int (n*1000:Nat)/\d 6=int (m*10 ^ j:Nat)/\d 7=int (k+j:Nat)/\Y 0=some (qG s N)/\Y 1=some Zi/\Z=2) (3-k) ⟨by simp[q],by simp[t],by simp[u],by simp[w],by simp,by simp,by simp[zN,zA],by simp[zc,o],by simp⟩ ?_;clear g A f C o q t u w;rintro j X Y1 _ hj ⟨q,t,u,w,U,W,f,o,rfl⟩;have hmj:m*10 ^ j<1000000:=Nat.lt_of_le_of_lt (Nat.mul_le_mul_left _ (SB (by omega) hj)) hm3;by_cases hlt:k+j<3
     ·have E:((k+j:Nat):Int)<3:=by omega
      have J:i6.wrap (((m*10 ^ j:Nat):Int)*10)=((m*10 ^ (j+1):Nat):Int):=by rw[wN (by omega) (by omega),HF,<-Nat.mul_assoc];omega
      have w2:i6.wrap (((k+j:Nat):Int)+1)=((k+(j+1):Nat):Int):=by rw[wN (by omega) (by omega)];omega
      obtain⟨x1,Q⟩:=yX ((m*10 ^ (j+1):Nat):Int);obtain⟨y1,hy1⟩:=yX ((k+(j+1):Nat):Int);rw[Q]at J;rw[hy1]at w2;generalize ((m*10 ^ j:Nat):Int)=x0 at J U;generalize ((k+j:Nat):Int)=y0 at w2 W E;simp[q,t,u,w,U,W,E,J,w2,f,o];exact⟨by omega,by rw[<-Q];simp,by omega⟩
     ·obtain rfl:j=3-k:=by omega
      have E:¬((k+(3-k):Nat):Int)<3:=by omega
      have J:i6.wrap (((n*1000:Nat):Int)+((m*10 ^ (3-k):Nat):Int))=((n*1000+m*10 ^ (3-k):Nat):Int):=by rw[wN (by omega) (by omega)];omega
      simp only[y];generalize ((n*1000+m*10 ^ (3-k):Nat):Int)=x2 at J⊢;generalize ((m*10 ^ (3-k):Nat):Int)=x0 at J U;generalize ((n*1000:Nat):Int)=x1 at J w;generalize ((k+(3-k):Nat):Int)=y0 at W E;simp[q,t,u,w,U,W,E,J,f,o];rfl
    ·have L:(((yD s i).toNat:Int)==46)=false:=ee 46 v;have y:xv s (n*1000) i=(n*1000,i):=by rw[xv,zg (fun h=>v h.2)]
     rw[D]at y;simp only[zN,zA,zd,zf,zo,Nat.reduceAdd]at f⊢;simp[q,t,u,w,f,o,g,L,M,y]
   ·have y:xv s (n*1000) i=(n*1000,i):=by rw[xv,zg (fun h=>M h.1)]
    rw[D]at y;simp only[zN,zA,zd,zf,zo,Nat.reduceAdd]at f⊢;simp[q,t,u,w,f,o,g,M,vr M,y]
  clear q t u w f o X Y1;rintro X Y1 _ ⟨q,t,u,w,f,o,rfl⟩;have R:JK s st=(pj (if yD s st=45 then -(b.1:Int)else b.1),b.2):=by simp only[JK,z,S,D]
  rw[R];simp only[Zi]at o;by_cases v:yD s st=45
  ·have F:=wY (-(b.1:Int));simp[q,t,u,w,o,v,F,pj,zU,qn,f111];exact qB rfl (by rw[zc _ _ _ _ (by decide)];exact f) xw rfl
  ·simp[q,t,u,w,o,v,pj,zU,qn,f111];exact qB rfl (by rw[zc _ _ _ _ (by decide)];exact f) xw rfl
end Go.Q
namespace Go.PrLaw
open Go
def Zj:za->za
 |[]=>[]
 |c::l=>if(c==34||c==92)=true then 92::c::Zj l else c::Zj l
def yB(s:za):za:=34::(Zj s++[34])
theorem B9(s:za):(Zj s).length<=2*s.length:=by
 induction s with
 |nil=>simp[Zj]
 |cons x l a=>simp only[Zj];split<;>simp<;>omega
theorem YL(s:za):(yB s).length<=2*s.length+2:=by have:=B9 s;simp[yB];omega
def yb(r:Nat):za:=Lib.trimRightB ((Lib.decDigits (1000+r)).drop 1) 48
def ZS(n:Int):za:=(if n<0 then[45]else[])++(Lib.decDigits (n.natAbs/1000)++if n.natAbs % 1000=0 then[]else 46::yb (n.natAbs % 1000))
theorem Kp{u:Nat}(h:u<10):Lib.decDigits u=[UInt8.ofNat (48+u)]:=by rw[Lib.decDigits,dif_pos h]
theorem Kq{u:Nat}(h:10<=u):Lib.decDigits u=Lib.decDigits (u/10)++[UInt8.ofNat (48+u % 10)]:=by rw[Lib.decDigits,dif_neg (by omega)]
theorem Zz{r:Nat}(h:r<1000):(Lib.decDigits (1000+r)).drop 1=[UInt8.ofNat (48+r/100),UInt8.ofNat (48+r/10 % 10),UInt8.ofNat (48+r % 10)]:=by rw[Kq (by omega),Kq (u:=(1000+r)/10) (by omega),Kq (u:=(1000+r)/10/10) (by omega),Kp (u:=(1000+r)/10/10/10) (by omega)];simp only[qg,jh,zaz,jd];rw[show(1000+r)/10/10 % 10=r/100 from by omega,show(1000+r)/10 % 10=r/10 % 10 from by omega,show(1000+r) % 10=r % 10 from by omega]
theorem ba{d:Nat}(h:d<10):(UInt8.ofNat (48+d)==48)=decide (d=0):=by rw[vU];simp only[yJ,qE,<-wE,UInt8.toNat_ofNat'];rw[aT (by omega)];show 48+d=48↔d=0;omega
theorem gW:∀(k u:Nat),u<10 ^ (k+1)->(Lib.decDigits u).length<=k+1
 | 0,u,h=>by rw[Kp (by simpa using h)];simp
 |k+1,u,h=>by
  by_cases a:u<10
  ·rw[Kp a];simp
  ·rw[Kq (by omega),qK];have:=gW k (u/10) (by rw[HF]at h;omega);simp;omega
theorem YM(u:Nat):Lib.decDigits u≠[]:=by
 by_cases h:u<10
 ·rw[Kp h];simp
 ·rw[Kq (by omega)];simp
theorem Ca(l:za)(c:UInt8):(Lib.trimRightB l c).length<=l.length:=by unfold Lib.trimRightB;have:=(List.dropWhile_sublist (l:=l.reverse) (·==c)).length_le;simpa using this
theorem cG{r:Nat}(h:r<1000):(yb r).length<=3:=by have:=Ca ((Lib.decDigits (1000+r)).drop 1) 48;rw[Zz h]at this;unfold yb;rw[Zz h];simpa using this
theorem um{n:Int}(a:-1000000000000000<n)(b:n<1000000000000000):(ZS n).length<=17:=by
 unfold ZS;have d:=gW 11 (n.natAbs/1000) (by omega);have p:=cG (r:=n.natAbs % 1000) (by omega);rw[qK,qK];have c:(if n<0 then([45]:za)else[]).length<=1:=by split<;>simp
 have e:(if n.natAbs % 1000=0 then([]:za)else 46::yb (n.natAbs % 1000)).length<=4:=by split<;>simp<;>omega
 omega
def Qm(sep:za)(k:Nat)(l:List za):za:=if k=0 then Lib.join l sep else Lib.joinTail sep l
theorem ZG(sep:za)(k:Nat):Qm sep k []=[]:=by unfold Qm;split<;>rfl
theorem WE(sep:za)(k:Nat)(x:za)(l:List za):Qm sep k (x::l)=(if k=0 then[]else sep)++(x++Qm sep (k+1) l):=by
 unfold Qm;rw[zg (Nat.succ_ne_zero k)];split
 ·rw[lq,jh]
 ·simp[Lib.joinTail]
theorem K8(sep:za):∀l:List za,(Lib.joinTail sep l).length=(l.map fun x=>sep.length+x.length).sum
 |[]=>rfl
 |x::l=>by have:=K8 sep l;unfold Lib.joinTail at this⊢;simp[this];omega
theorem K9(sep:za)(l:List za):(Lib.join l sep).length<=(l.map fun x=>sep.length+x.length).sum:=by
 cases l with
 |nil=>simp[Lib.join_nil]
 |cons x l=>rw[lq,qK,K8];simp
end Go.PrLaw
namespace Go.Q
open Go.RowKit Go.AM Go.PrLaw
mutual
def Val.show:Val->za
 | .mk k n s a b=>if k=0 then[110,117,108,108]else if k=1 then(if n=1 then[116,114,117,101]else[102,97,108,115,101])else if k=2 then ZS n else if k=3 then yB s else
  if k=4 then 91::(Lib.join (la a) [44]++[93])else 123::(Lib.join (lb b) [44]++[125])
def la:List Val->List za
 |[]=>[]
 |v::l=>v.show::la l
def lb:List (za×Val)->List za
 |[]=>[]
 |(a,v)::l=>(yB a++(58::v.show))::lb l
end
theorem cH:∀l:List Val,la l=l.map Val.show
 |[]=>rfl
 |v::l=>by simp[la,cH l]
def jk(f:za×Val):za:=yB f.1++(58::f.2.show)
theorem cI:∀l:List (za×Val),lb l=l.map jk
 |[]=>rfl
 |(a,v)::l=>by simp[lb,cI l,jk]
theorem xP(v:Val):v.show=if v.kind=0 then[110,117,108,108]else if v.kind=1 then(if v.n=1 then[116,114,117,101]else[102,97,108,115,101])else if v.kind=2 then ZS v.n else if v.kind=3 then yB v.s else
  if v.kind=4 then 91::(Lib.join (v.items.map Val.show) [44]++[93])else 123::(Lib.join (v.fields.map jk) [44]++[125]):=by
 cases v;rw[Val.show,cH,cI];rfl
theorem gX(k n:Int)(s:za)(a:List Val)(b:List (za×Val)):(Val.mk k n s a b).show=if k=0 then[110,117,108,108]else if k=1 then(if n=1 then[116,114,117,101]else[102,97,108,115,101])else if k=2 then ZS n else if k=3 then yB s else
  if k=4 then 91::(Lib.join (a.map Val.show) [44]++[93])else 123::(Lib.join (b.map jk) [44]++[125]):=xP _
theorem cJ(k n:Int)(s:za)(a:List Val)(b:List (za×Val)):(Val.mk k n s a b).fault=if vg k n s a.length b.length=0 then(if kg a=0 then xr none b else kg a)else vg k n s a.length b.length:=l8 _
inductive KK:Val->Prop
 |mk {k n:Int} {s:List UInt8} {is:List Val} {fs:List (List UInt8×Val)}:0<=k->k<=5->(k=2->-1000000000000000<n/\n<1000000000000000)->(∀x∈is,KK x)->(∀f∈fs,KK f.2)->KK (.mk k n s is fs)
theorem KK.kind{v:Val}(h:KK v):0<=v.kind/\v.kind<=5:=by cases h;exact⟨by assumption,by assumption⟩
theorem KK.num{v:Val}(h:KK v)(a:v.kind=2):-1000000000000000<v.n/\v.n<1000000000000000:=by cases h with|mk _ _ b _ _=>exact b a
theorem KK.items{v:Val}(h:KK v):∀x∈v.items,KK x:=by cases h;assumption
theorem KK.fields{v:Val}(h:KK v):∀f∈v.fields,KK f.2:=by cases h;assumption
theorem mn(v:Val)(h:KK v):v.show.length+4<=30*v.vb:=by
 induction v using Val.ind with
 |h k n s i m p r=>
  have t:=xa (.mk k n s i m);simp only[Val.s,Val.items,Val.fields]at t;rw[gX];split
  ·simp;omega
  split
  ·split<;>simp<;>omega
  split
  ·rename_i u;obtain⟨a,b⟩:=h.num u;have:=um (n:=n) a b;omega
  split
  ·have:=YL s;omega
  split
  ·have e:∀l:List Val,(∀x∈l,x.show.length+4<=30*x.vb)->((l.map Val.show).map fun x=>([44]:za).length+x.length).sum<=30*kf l:=by
    intro l
    induction l with
    |nil=>intro _;simp
    |cons v l o=>
     intro g;have a:=g v (by simp);have b:=o fun x d=>g x (by simp[d])
     simp only[zL,List.sum_cons,kf,jZ]at b⊢;omega
   have j:=K9 [44] (i.map Val.show);have:=e i fun x d=>p x d (h.items x d)
   simp only[zd,qK,zf];omega
  ·have e:∀l:List (za×Val),(∀f∈l,f.2.show.length+4<=30*f.2.vb)->((l.map jk).map fun x=>([44]:za).length+x.length).sum<=30*QM l:=by
    intro l
    induction l with
    |nil=>intro _;simp
    |cons f l o=>
     intro g;have a:=g f (by simp);have b:=o fun x d=>g x (by simp[d])
     have q:=YL f.1;obtain⟨c,v⟩:=f;simp only[zL,List.sum_cons,QM,jZ,jk,qK,zd,zf]at a b q⊢;omega
   have j:=K9 [44] (m.map jk);have:=e m fun x d=>r x d (h.fields x d)
   simp only[zd,qK,zf];omega
theorem gY(v:Val)(h:v.fault=0):KK v:=by
 induction v using Val.ind with
 |h k n s t u w A=>
  rw[cJ]at h;split at h
  case isFalse d=>exact(d h).elim
  rename_i d;split at h
  case isFalse m=>exact(m h).elim
  rename_i m;have j:K2 k=false:=by
   cases o:K2 k
   ·rfl
   ·rw[vg,o]at d;simp at d
  have B:Zx k n=false:=by
   cases o:Zx k n
   ·rfl
   ·rw[vg,j,o]at d;simp only[Bool.or_true,qa,qf,zq]at d;split at d<;>simp at d
  simp[K2]at j;refine .mk j.1 j.2 (fun e=>?_) ?_ ?_
  ·subst e;simp[Zx]at B;omega
  ·have g:∀l:List Val,(∀x∈l,x.fault=0->KK x)->kg l=0->∀x∈l,KK x:=by
    intro l
    induction l with
    |nil=>intro _ _ x hx;cases hx
    |cons y l q=>
     intro a b x hx;rw[kg]at b;split at b
     ·rename_i i;rcases zJ.1 hx with rfl|hx
      ·exact a _ (by simp) i
      ·exact q (fun z r=>a z (by simp[r])) b x hx
     ·rename_i i;exact(i b).elim
   exact g t w m
  ·have g:∀(l:List (za×Val)) (p:Option za),(∀f∈l,f.2.fault=0->KK f.2)->xr p l=0->∀f∈l,KK f.2:=by
    intro l
    induction l with
    |nil=>intro _ _ _ x hx;cases hx
    |cons y l q=>
     intro p a b x hx;obtain⟨c,y⟩:=y;rw[xr]at b;split at b
     ·simp at b
     split at b
     ·simp at b
     split at b
     ·rename_i i;rcases zJ.1 hx with rfl|hx
      ·exact a _ (by simp) i
      ·exact q _ (fun z r=>a z (by simp[r])) b x hx
     ·rename_i i;exact(i b).elim
   exact g u none A h
end Go.Q
