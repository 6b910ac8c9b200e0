/- Lemmas. -/
import Derived.Test.YtnbicamkimignaaGreatDoorG2
set_option maxRecDepth 8000
set_option maxHeartbeats 4000000
open Go Proofs Proofs.YtnbicamkimignaaGreatDoor Proofs.Tryz RowKit AM SpanLaw Q Zz
namespace Go.AM
variable{dr:Prop}
section
variable{P:Program}{w:World}{S:Nat→Prop}{G:Nat→GI}{Y:Hp}{Z:Nat}
theorem Xc{t:TypeId}{f o n:Nat}{b:Bool}(h:wu P t f=some (o,n,b)):∃(a:Array Field) (x:Field),P.underlying t=some (.struct a)∧a[f]?=some x∧x.offset=o∧q8 P x.type=some n∧yo P x.type=some b:=by
 unfold wu at h;split at h
 ·rename_i a c;split at h
  ·rename_i x d;split at h
   ·rename_i l m e g;injection h with h
    injection h with i h;injection h with j k;subst i;subst j;subst k;exact⟨a,x,c,d,rfl,e,g⟩
   ·cases h
  ·cases h
 ·cases h
theorem zlZ(q:Inv P w S G Y Z){t:TypeId}{f:Nat}{p x:O}{u:Value}(h:jj P t f p=some x)(Y':qK w S G Z p u):QT dr P w Y Z S G x Y Z ((Instr.fieldAt t u f).run P w):=by
 have a:∀{o n:Nat} {g:Bool} {k:Addr},wu P t f=some (o,n,g)→n≠0→(Instr.fieldAt t (.pointer (some k)) f).run P w=.ok (.pointer (some (k.add o))) w:=by intro o n g k b d;obtain⟨z,x,r,s,rfl,hs,_⟩:=Xc b;simp[Instr.fieldAt,zP r,s,Instr.sureAddr,fieldPlace,yT hs,d]
 unfold jj at h;split at h
 ·rename_i cs;split at h
  ·rename_i o n g b;split at h
   ·cases h
   ·rename_i d;injection h with h
    subst h;cases Y'.VO with
    |ptr us v y=>
     refine qR q (a b d) (.c (.ptr (fun j=>us (o+j)) (fun j l e=>?_) (fun j l e=>?_)))
     ·rw[wF]at e;rw[Q1,cR];exact v _ l e
     ·rw[wF]at e;exact y _ l e
  ·cases h
 ·rename_i id i j;have m:=Y'.eS;obtain⟨hid,rfl⟩:=Y'.YE;split at h
  ·rename_i o n g b;split at h
   ·cases h
   ·rename_i d;injection h with h
    subst h;refine qR q (a b d) ?_;rw[jH,N2];exact .ref hid m
  ·cases h
 ·cases h
theorem FL(l:Inv P w S G Y Z){t:TypeId}{f:Nat}{p x:O}{u:Value}(h:Qe P t f p=some x)(Y':qK w S G Z p u):QT dr P w Y Z S G x Y Z ((Instr.field t u f).run P w):=by
 unfold Qe at h;split at h
 ·rename_i cs;obtain⟨us,rfl,q,m⟩:=Y'.QS;split at h
  ·rename_i o n d;split at h
   ·rename_i r;injection h with h
    subst h;obtain⟨s,x,e,g,rfl,hs,i⟩:=Xc d;refine qR (v:=.agg (us.extract x.offset (x.offset+n))) l ?_ (.agg ?_ ?_)
    ·simp[Instr.field,zP e,g,asAgg,part,xI i,yT hs]
    ·simp;omega
    ·intro j z v a c;rw[qG]at a;split at a
     ·rw[wF]at a;rw[Array.getElem?_extract]at c;split at c
      ·exact m _ z v a c
      ·cases c
     ·cases a
   ·cases h
  ·rename_i o n d;obtain⟨s,y,e,g,rfl,hs,i⟩:=Xc d;have k:y.offset<us.size:=by rw[←q];exact(zq.1 h).1
   have b:us[y.offset]?=some us[y.offset]:=by simp[k]
   refine qR (v:=us[y.offset]) l ?_ (m _ x _ h b);simp[Instr.field,zP e,g,asAgg,part,xI i,b]
  ·cases h
 ·cases h
theorem xJ{t e:TypeId}(h:yK P t=some e):P.underlying t=some (.slice e):=by
 unfold yK at h;split at h
 ·injection h with h;subst h;assumption
 ·cases h
theorem Ow{t:TypeId}{m:Nat}{e:TypeId}(h:lU P t=some (m,e)):P.underlying t=some (.array m e):=by
 unfold lU at h;split at h
 ·injection h with h;injection h with a b;subst a;subst b;assumption
 ·cases h
theorem pH(r:Inv P w S G Y Z){t:TypeId}{p x:O}{u:Value}{k:IntKind}{i:Int}(h:Zu P t i p=some x)(Y':qK w S G Z p u):QT dr P w Y Z S G x Y Z ((Instr.indexAt t u (.int k i)).run P w):=by
 unfold Zu at h;split at h
 ·rename_i m e A;have y:=Ow A;split at h
  ·rename_i n z;split at h
   ·rename_i B;obtain⟨d,f⟩:=B;split at h
    ·rename_i cs;injection h with h
     subst h;cases Y'.VO with
     |ptr us C D=>
      rename_i E;refine qR (v:=.pointer (some (E.add (i.toNat*n)))) r ?_ (.c (.ptr (fun j=>us (i.toNat*n+j)) (fun j o l=>?_) (fun j o l=>?_)))
      ·simp[Instr.indexAt,zP y,asIntOf,d,f,Instr.sureAddr,yT z]
      ·rw[wF]at l;rw[Q1,cR];exact C _ o l
      ·rw[wF]at l;exact D _ o l
    ·rename_i id a b;injection h with h
     subst h;have q:=Y'.eS;obtain⟨hid,rfl⟩:=Y'.YE;refine qR (v:=.pointer (some ((⟨(G id).g,a*(G id).s+b,none⟩:Addr).add (i.toNat*n)))) r ?_ ?_
     ·simp[Instr.indexAt,zP y,asIntOf,d,f,Instr.sureAddr,yT z]
     ·rw[jH,N2];exact .ref hid q
    ·cases h
   ·cases h
  ·cases h
 ·cases h
theorem l6(r:Inv P w S G Y Z){t:TypeId}{p q x:O}{u v:Value}(h:wb P Y t p q=some x)(Y':qK w S G Z p u)(M:qK w S G Z q v):QT dr P w Y Z S G x Y Z ((Instr.indexAt t u v).run P w):=by
 unfold wb at h;split at h
 ·rename_i k i;obtain⟨rfl,_⟩:=M.yH;split at h
  ·rename_i e N;have J:=xJ N;split at h
   ·rename_i n s es hs;split at h
    ·rename_i y;obtain⟨rfl,Q,d⟩:=y;cases a:es[i.toNat]? with
     |none=>simp[a]at h
     |some c=>
      simp[a]at h;subst h;cases Y'.af with
      |sl us h0 h1 h2 z B K=>
       rename_i A cap;have R:=z c (zO a);have T:i.toNat<es.length:=(zq.1 a).1;have C:c[0]?=some (c[0]'(by omega)):=zu (by omega);obtain⟨U,rfl,hS,_⟩:=B i.toNat 0 c _ a C;have f:i<es.length:=by omega
       refine qR (v:=.pointer (some (U.add (i.toNat*s)))) r ?_ (.c (.ptr (fun j=>us i.toNat j) (fun j D E=>?_) (fun j D E=>K i.toNat j c D a E)))
       ·simp[Instr.indexAt,zP J,asIntOf,d,f,yT hs]
       ·obtain⟨W,F,L,H,_⟩:=B i.toNat j c D a E;injection F with F;subst F;rw[Q1,cR];exact⟨L,H⟩
    ·cases h
   ·rename_i n id off m hs;split at h
    ·rename_i b X;split at h
     ·rename_i y;obtain⟨rfl,hn0,d,hik⟩:=y;injection h with h
      subst h;have l:=Y'.Zb;obtain⟨cap,z,B,K,L,rfl⟩:=Y'.xd;have I:(G id).s=n:=by
       have:=(r.live id b X).size l;have H:(P.info? b.e).map (·.size)=some n:=hs;rw[H]at this;injection this with this
       exact this.symm
      have o:i<m:=by omega
      refine qR (v:=.pointer (some ((⟨(G id).g,off*(G id).s,none⟩:Addr).add (i.toNat*n)))) r ?_ ?_
      ·simp[Instr.indexAt,zP J,asIntOf,d,o,yT hs]
      ·rw[jH,←I,←yL];have:=qK.ref (w:=w) (S:=S) (G:=G) (Z:=Z) (id:=id) (i:=off+i.toNat) (j:=0) z l;simpa using this
     ·cases h
    ·cases h
   ·cases h
  ·exact pH r h Y'
 ·cases h
theorem FM(a:Inv P w S G Y Z){t:TypeId}{p q x:O}{u v:Value}(h:Q3 P t p q=some x)(Y':qK w S G Z p u)(d:qK w S G Z q v):QT dr P w Y Z S G x Y Z ((Instr.index t u v).run P w):=by
 unfold Q3 at h;split at h
 ·rename_i s k i;obtain⟨rfl,_⟩:=d.yH;obtain⟨rfl,_⟩:=Y'.yH;split at h
  ·rename_i e;split at h
   ·rename_i f;split at h
    ·rename_i b g;injection h with h
     subst h;refine qR (v:=.int .u8 b.toNat) a ?_ (.c (.v rfl));simp[Instr.index,zP e,asIntOf,f,g]
    ·cases h
   ·cases h
  ·cases h
 ·cases h
theorem ur(c:Inv P w S G Y Z){vs:zc}{x:O}{i:Nat}{u:Value}(h:vs[i]?=some x)(Y':qK w S G Z (.yb vs) u):QT dr P w Y Z S G x Y Z ((Instr.extract u i).run P w):=by
 obtain⟨us,rfl,d,e⟩:=Y'.Lo;have b:i<us.size:=by rw[←d];exact(zq.1 h).1
 have a:us[i]?=some us[i]:=by simp[b]
 exact qR (v:=us[i]) c (by simp[Instr.extract,a]) (e i x _ h a)
theorem Zh(x:Value)(h:lit x=true):qK w S G Z (.v x) x:=.c (.v h)
theorem Ox{op:BinOp}{k:IntKind}{a b:Int}{x:O}(h:Oo op k a b=some x)(t:TypeId)(w:World):∃v,x=.v v∧lit v=true∧(binOp op t (.int k a) (.int k b)).run P w=.ok v w:=by
 unfold Oo at h;split at h<;>(try (split at h))<;>first
  |(injection h with h;subst h;exact⟨_,rfl,rfl,by simp[binOp,Op.intArith,Op.intDiv,Op.intCmp,Op.intBits,Op.shift, *]⟩)
  |cases h
theorem Oy{op:BinOp}{a b:ByteArray}{x:O}(h:Oq op a b=some x)(t:TypeId)(w:World):∃v,x=.v v∧lit v=true∧(binOp op t (.string a) (.string b)).run P w=.ok v w:=by
 have d:IntKind.i64.max=9223372036854775807:=by decide
 unfold Oq at h;split at h
 ·split at h
  ·rename_i c;injection h with h
   subst h;refine⟨_,rfl,rfl,?_⟩;have e:(a.size:Int)+(b.size:Int)≤9223372036854775807:=by simp only[maxLen]at c;omega
   simp[binOp,Op.stringOp,e]
  ·cases h
 all_goals first
  |(injection h with h;subst h;exact⟨_,rfl,rfl,by simp[binOp,Op.stringOp]⟩)
  |cases h
theorem Jp{op:BinOp}{t:TypeId}{x y:Operand}{a b:Value}(h:lit a=true)(c:a≠.nilIface)(w:World):(eqGuard op t x y a b).run P w=.ok () w:=by unfold eqGuard;cases op<;>simp<;>(cases a<;>cases b<;>simp_all[lit])
theorem Ih{t:TypeId}{k:Nat}(h:Lv P t=some k):yo P t=some false:=by
 unfold Lv at h;unfold yo;split at h<;>first
  |(rename_i a;rw[a];rfl)
  |cases h
theorem cU(w:World)(d:Nat)(B C:Array Value):∀(D:List Field) (k:Nat) (N:List Nat) (E F:zc) (r:Bool),rY P k D=some N→yi N E F=some r →
  (∀(j:Nat) (t:O),E[j]?=some t→∃u,B[k+j]?=some u∧qK w S G Z t u)→(∀(j:Nat) (t:O),F[j]?=some t→∃u,C[k+j]?=some u∧qK w S G Z t u) →
  (Op.eqFields (d+1) B C D).run P w=.ok r w
 |[],k,N,E,F,r,g,e,_,_=>by
  simp only[rY]at g;injection g with g
  subst g;simp only[yi]at e;injection e with e
  subst e;simp[Op.eqFields]
 |f::D,k,N,E,F,r,g,e,U,W=>by
  simp only[rY]at g;split at g
  ·rename_i z;split at g
   ·rename_i tg i H h2;injection g with g
    subst g;have A:∀(p q:O) (x y:zc) (b s:Bool),E=p::x→F=q::y→(∀u v,qK w S G Z p u→qK w S G Z q v→(Op.equalIn (d+1) f.type u v).run P w=.ok b w)→yi i x y=some s→r=(b&&s) →
      (Op.eqFields (d+1) B C (f::D)).run P w=.ok r w:=by
     intro p q x y b s h e2 h3 h4 h5;subst h;subst e2;subst h5;obtain⟨u,I,Q⟩:=U 0 p rfl;obtain⟨v,J,R⟩:=W 0 q rfl;simp only[BO]at I J;have X:=Ih H;have Y1:(part f.type B f.offset).run P w=.ok u w:=by simp[part,xI X,z.1,I]
     have Y2:(part f.type C f.offset).run P w=.ok v w:=by simp[part,xI X,z.1,J]
     have ih:=cU w d B C D (k+1) i x y s h2 h4 (fun j t T=>by have:=U (j+1) t (by simpa using T);rwa [show k+(j+1)=k+1+j from by omega]at this) (fun j t T=>by have:=W (j+1) t (by simpa using T);rwa [show k+(j+1)=k+1+j from by omega]at this);cases b<;>simp[Op.eqFields,z.2,Y1,Y2,h3 u v Q R,ih]
    unfold yi at e;unfold Lv at H;split at e
    ·simp_all
    ·rename_i K kk a l kk' b m h;injection h with h n
     subst h;subst n;split at e
     ·rename_i hk;subst hk;cases c:yi i l m with
      |none=>simp[c]at e
      |some s=>
       simp[c]at e;refine A _ _ _ _ (a==b) s rfl rfl (fun u v L M=>?_) c e.symm;obtain⟨rfl,_⟩:=L.yH;obtain⟨rfl,_⟩:=M.yH;split at H<;>first
        |(rename_i o;simp[Op.equalIn,zP o];done)
        |simp_all
     ·cases e
    ·rename_i K a l b m h;injection h with h n
     subst h;subst n;cases c:yi i l m with
     |none=>simp[c]at e
     |some s=>
      simp[c]at e;refine A _ _ _ _ (a==b) s rfl rfl (fun u v L M=>?_) c e.symm;obtain⟨rfl,_⟩:=L.yH;obtain⟨rfl,_⟩:=M.yH;split at H<;>first
       |(rename_i o;simp[Op.equalIn,zP o];done)
       |simp_all
    ·rename_i K a l b m h;injection h with h n
     subst h;subst n;cases c:yi i l m with
     |none=>simp[c]at e
     |some s=>
      simp[c]at e;refine A _ _ _ _ (a==b) s rfl rfl (fun u v L M=>?_) c e.symm;obtain⟨rfl,_⟩:=L.yH;obtain⟨rfl,_⟩:=M.yH;split at H<;>first
       |(rename_i o;simp[Op.equalIn,zP o];done)
       |simp_all
    ·cases e
   ·cases g
  ·cases g
def eq1:Nat→O→O→Option Bool
 | 0,.v (.int k a),.v (.int c b)=>if k=c then some (a==b)else none
 | 1,.v (.bool a),.v (.bool b)=>some (a==b)
 | 2,.v (.string a),.v (.string b)=>some (a==b)
 |_,_,_=>none
theorem K1(k:Nat)(a:List Nat)(b:zc):yi (k::a) [] b=none:=by unfold yi;split<;>first|rfl|simp_all
theorem K2(k:Nat)(a:List Nat)(b:zc):yi (k::a) b []=none:=by unfold yi;split<;>first|rfl|simp_all
theorem Yn(k:Nat)(c:List Nat)(p q:O)(d e:zc):yi (k::c) (p::d) (q::e)=(eq1 k p q).bind fun b=>(yi c d e).map (b&&·):=by
 match k with
 | 0=>
  cases p with
  |v x=>cases x with
   |int w a=>cases q with
    |v y=>cases y with
     |int f b=>simp only[yi,eq1];split<;>rfl
     |_=>rfl
    |_=>rfl
   |_=>rfl
  |_=>rfl
 | 1=>
  cases p with
  |v x=>cases x with
   |bool a=>cases q with
    |v y=>cases y<;>rfl
    |_=>rfl
   |_=>rfl
  |_=>rfl
 | 2=>
  cases p with
  |v x=>cases x with
   |string a=>cases q with
    |v y=>cases y<;>rfl
    |_=>rfl
   |_=>rfl
  |_=>rfl
 |k+3=>rfl
theorem Xd:∀(a c:List Nat) (d e:zc) (r:Bool),yi (a++c) d e=some r→∃f g,yi a d e=some f∧yi c (d.drop a.length) (e.drop a.length)=some g∧r=(f&&g)
 |[],c,d,e,r,h=>⟨true,r,rfl,h,rfl⟩
 |k::a,c,[],e,r,h=>by rw[q9,K1]at h;cases h
 |k::a,c,p::d,[],r,h=>by rw[q9,K2]at h;cases h
 |k::a,c,p::d,q::e,r,h=>by
  rw[q9,Yn]at h;cases i:eq1 k p q with
  |none=>rw[i]at h;cases h
  |some b=>rw[i,zS]at h;obtain⟨j,l,rfl⟩:=Option.map_eq_some_iff.1 h;obtain⟨f,g,m,n,rfl⟩:=Xd a c d e j l;exact⟨b&&f,g,by rw[Yn,i,zS,m];rfl,n,by rw[Fm]⟩
theorem cV:∀(a:List Nat) (b c:zc),yi a (b.take a.length) (c.take a.length)=yi a b c
 |[],b,c=>by simp only[yi]
 |k::a,[],c=>by rw[List.take_nil,K1,K1]
 |k::a,p::b,[]=>by rw[List.take_nil,K2,K2]
 |k::a,p::b,q::c=>by rw[qa,yE,yE,Yn,Yn,cV a b c]
theorem Oz{t:TypeId}{b:List Nat}(h:subA P t=some b):∃a,P.underlying t=some (.struct a)∧rY P 0 a.toList=some b∧P.stoodInHeld t=false∧q8 P t=some b.length:=by
 unfold subA at h;split at h
 ·cases h
 ·rename_i g;split at h
  ·rename_i a c;split at h
   ·rename_i d e;split at h
    ·rename_i f;injection h with h
     subst h;exact⟨a,c,e,by cases i:P.stoodInHeld t<;>simp_all,f⟩
    ·cases h
   ·cases h
  ·cases h
theorem JP(w:World)(d:Nat)(s t:Array Value):∀(Q:List Field) (k:Nat) (ks:List Nat) (I J:zc) (r:Bool),rZ P k Q=some ks→yi ks I J=some r →
  (∀(j:Nat) (c:O),I[j]?=some c→∃u,s[k+j]?=some u∧qK w S G Z c u)→(∀(j:Nat) (c:O),J[j]?=some c→∃u,t[k+j]?=some u∧qK w S G Z c u) →
  (Op.eqFields (d+2) s t Q).run P w=.ok r w
 |[],k,ks,I,J,r,g,h,_,_=>by
  simp only[rZ]at g;injection g with g
  subst g;simp only[yi]at h;injection h with h
  subst h;simp[Op.eqFields]
 |f::Q,k,ks,I,J,r,g,h,hx,hy=>by
  simp only[rZ]at g;split at g
  ·rename_i o;split at g
   ·rename_i tg R;split at g
    case h_2=>cases g
    rename_i l h2;injection g with g
    subst g;have K:∀(p q:O) (E F:zc) (b C:Bool),I=p::E→J=q::F→(∀u v,qK w S G Z p u→qK w S G Z q v→(Op.equalIn (d+2) f.type u v).run P w=.ok b w)→yi l E F=some C→r=(b&&C) →
      (Op.eqFields (d+2) s t (f::Q)).run P w=.ok r w:=by
     intro p q E F b C i e2 h3 h4 h5;subst i;subst e2;subst h5;obtain⟨u,m,x⟩:=hx 0 p rfl;obtain⟨v,T,hv2⟩:=hy 0 q rfl;simp only[BO]at m T;have ha:=Ih R;have Y1:(part f.type s f.offset).run P w=.ok u w:=by simp[part,xI ha,o.1,m]
     have Y2:(part f.type t f.offset).run P w=.ok v w:=by simp[part,xI ha,o.1,T]
     have ih:=JP w d s t Q (k+1) l E F C h2 h4 (fun j c D=>by have:=hx (j+1) c (by simpa using D);rwa [show k+(j+1)=k+1+j from by omega]at this) (fun j c D=>by have:=hy (j+1) c (by simpa using D);rwa [show k+(j+1)=k+1+j from by omega]at this);cases b<;>simp[Op.eqFields,o.2,Y1,Y2,h3 u v x hv2,ih]
    unfold yi at h;unfold Lv at R;split at h
    ·simp_all
    ·rename_i U kk a y kk' b z i;injection i with i A
     subst i;subst A;split at h
     ·rename_i hk;subst hk;cases e:yi l y z with
      |none=>simp[e]at h
      |some C=>
       simp[e]at h;refine K _ _ _ _ (a==b) C rfl rfl (fun u v W X=>?_) e h.symm;obtain⟨rfl,_⟩:=W.yH;obtain⟨rfl,_⟩:=X.yH;split at R<;>first
        |(rename_i B;simp[Op.equalIn,zP B];done)
        |simp_all
     ·cases h
    ·rename_i U a y b z i;injection i with i A
     subst i;subst A;cases e:yi l y z with
     |none=>simp[e]at h
     |some C=>
      simp[e]at h;refine K _ _ _ _ (a==b) C rfl rfl (fun u v W X=>?_) e h.symm;obtain⟨rfl,_⟩:=W.yH;obtain⟨rfl,_⟩:=X.yH;split at R<;>first
       |(rename_i B;simp[Op.equalIn,zP B];done)
       |simp_all
    ·rename_i U a y b z i;injection i with i A
     subst i;subst A;cases e:yi l y z with
     |none=>simp[e]at h
     |some C=>
      simp[e]at h;refine K _ _ _ _ (a==b) C rfl rfl (fun u v W X=>?_) e h.symm;obtain⟨rfl,_⟩:=W.yH;obtain⟨rfl,_⟩:=X.yH;split at R<;>first
       |(rename_i B;simp[Op.equalIn,zP B];done)
       |simp_all
    ·cases h
   ·split at g
    case h_2=>cases g
    rename_i n hs1;split at g
    case h_2=>cases g
    rename_i l h2;injection g with g
    subst g;obtain⟨r1,r2,i,e2,rfl⟩:=Xd _ _ _ _ _ h;rw[←cV]at i;obtain⟨gs,L,hgt,hgs,hgn⟩:=Oz hs1;have H:yo P f.type=some true:=by unfold yo;rw[L];rfl
    have hfo:P.fieldsOf f.type=gs:=by simp[Program.fieldsOf,L]
    have Y1:(part f.type s f.offset).run P w=.ok (.agg (s.extract k (k+n.length))) w:=by simp[part,xI H,o.1,yT hgn]
    have Y2:(part f.type t f.offset).run P w=.ok (.agg (t.extract k (k+n.length))) w:=by simp[part,xI H,o.1,yT hgn]
    have hin:∀(M:zc) (N:Array Value),(∀(j:Nat) (c:O),M[j]?=some c→∃u,N[k+j]?=some u∧qK w S G Z c u)→∀(j:Nat) (c:O),(M.take n.length)[j]?=some c→∃u,(N.extract k (k+n.length))[0+j]?=some u∧qK w S G Z c u:=by
     intro M N hz j c D;have hjl:j<n.length:=by have:=(zq.1 D).1;rw[yM]at this;omega
     rw[List.getElem?_take_of_lt hjl]at D;obtain⟨u,m,x⟩:=hz j c D;refine⟨u,?_,x⟩;rw[wD,Array.getElem?_extract];have hlt:=(qu.1 m).1;rw[zf (by omega)];exact m
    have hrun:(Op.equalIn (d+2) f.type (.agg (s.extract k (k+n.length))) (.agg (t.extract k (k+n.length)))).run P w=.ok r1 w:=by rw[run_equalIn_struct w (d+1) f.type _ _ (by rw[hfo];exact L) hgs,hfo];exact cU w d _ _ gs.toList 0 n _ _ r1 hgt i (hin I s hx) (hin J t hy)
    have Oi:∀(M:zc) (N:Array Value),(∀(j:Nat) (c:O),M[j]?=some c→∃u,N[k+j]?=some u∧qK w S G Z c u)→∀(j:Nat) (c:O),(M.drop n.length)[j]?=some c→∃u,N[k+n.length+j]?=some u∧qK w S G Z c u:=by intro M N hz j c D;rw[wF]at D;obtain⟨u,m,x⟩:=hz (n.length+j) c D;exact⟨u,by rwa [show k+(n.length+j)=k+n.length+j by omega]at m,x⟩
    have ih:=JP w d s t Q (k+n.length) l _ _ r2 h2 e2 (Oi I s hx) (Oi J t hy);cases r1<;>simp[Op.eqFields,o.2,Y1,Y2,hrun,ih]
  ·cases g
theorem sa{t:TypeId}{g:List Nat}{xs ys:zc}{r:Bool}{u v:Value}(b:lY P t=some g)(z:yi g xs ys=some r)(A:qK w S G Z (.agg xs) u)(B:qK w S G Z (.agg ys) v) :
  (Op.equal t u v).run P w=.ok r w∧∀(op:BinOp) (x y:Operand),(eqGuard op t x y u v).run P w=.ok () w:=by
 obtain⟨e,rfl,i,k⟩:=A.QS;obtain⟨f,rfl,l,m⟩:=B.QS;unfold lY at b;split at b
 ·cases b
 ·rename_i C;have n:P.stoodInHeld t=false:=by cases h:P.stoodInHeld t<;>simp_all
  have o:P.eqGuardType P.depth t=false:=by cases h:P.eqGuardType P.depth t<;>simp_all
  split at b
  ·rename_i q s;have c:P.fieldsOf t=q:=by simp[Program.fieldsOf,s]
   constructor
   ·unfold Op.equal Op.maxDepth;rw[show(10000:Nat)=9999+1 from rfl,run_equalIn_struct w 9999 t e f (by rw[c];exact s) n,c];exact JP w 9997 e f q.toList 0 g xs ys r b z
     (fun j p d=>by
      have a:j<e.size:=by rw[←i];exact(zq.1 d).1
      exact⟨e[j],by simp[a],k j p _ d (by simp[a])⟩)
     (fun j p d=>by
      have a:j<f.size:=by rw[←l];exact(zq.1 d).1
      exact⟨f[j],by simp[a],m j p _ d (by simp[a])⟩)
   ·intro op x y;unfold eqGuard;cases op<;>simp[o]
  ·cases b
theorem l7{t:TypeId}(a b:Bool)(c:P.underlying t=some .bool)(w:World):(Op.equal t (.bool a) (.bool b)).run P w=.ok (a==b) w:=by
 have h:∀d:Nat,(Op.equalIn (d+1) t (.bool a) (.bool b)).run P w=.ok (a==b) w:=fun d=>by simp only[Op.equalIn,Zd,zP c,kY,WR]
 exact h 9999
theorem sb{t e:TypeId}(A:Option Addr)(n c:Nat)(a:P.underlying t=some (.slice e))(w:World):(Op.equal t (.slice A n c) (.slice none 0 0)).run P w=.ok A.isNone w:=by
 have h:∀d:Nat,(Op.equalIn (d+1) t (.slice A n c) (.slice none 0 0)).run P w=.ok A.isNone w:=fun d=>by cases A<;>simp only[Op.equalIn,Zd,zP a,kY,WR]<;>rfl
 exact h 9999
theorem sd{p:O}{u:Value}{r:Bool}(h:ji p=some r)(b:qK w S G Z p u):∃A n c,u=.slice A n c∧A.isNone=r:=by
 unfold ji at h;split at h
 ·injection h with h;subst h;exact⟨none,0,0,b.xc,rfl⟩
 ·injection h with h;subst h;obtain⟨f,cap,rfl,_⟩:=b.pw;exact⟨_,_,_,rfl,rfl⟩
 ·injection h with h;subst h;obtain⟨cap,_,_,_,_,rfl⟩:=b.xd;exact⟨_,_,_,rfl,rfl⟩
 ·rename_i s c es;injection h with h;subst h
  cases b.af with
  |sl us d e g i j k=>
   rename_i A cap;cases A with
   |none=>have:=d rfl;subst this;simp at e
   |some a=>exact⟨_,_,_,rfl,rfl⟩
 ·cases h
theorem FN(g:Inv P w S G Y Z){op:BinOp}{t:TypeId}{p q x:O}{u v:Value}(C D:Operand)(h:jP P op t p q=some x)(f:qK w S G Z p u)(i:qK w S G Z q v) :
  QT dr P w Y Z S G x Y Z ((do eqGuard op t C D u v;binOp op t u v:Sem Value).run P w):=by
 unfold jP at h;split at h
 ·rename_i k a I b;obtain⟨rfl,_⟩:=f.yH;obtain⟨rfl,_⟩:=i.yH;split at h
  ·rename_i E;subst E;obtain⟨r,rfl,l,m⟩:=Ox (P:=P) h t w;exact qR (v:=r) g (by simp[Jp (a:=.int k a) rfl (by simp) w,m]) (Zh r l)
  ·cases h
 ·rename_i a b;obtain⟨rfl,_⟩:=f.yH;obtain⟨rfl,_⟩:=i.yH;obtain⟨r,rfl,l,m⟩:=Oy (P:=P) h t w;exact qR (v:=r) g (by simp[Jp (a:=.string a) rfl (by simp) w,m]) (Zh r l)
 ·rename_i a b;obtain⟨rfl,_⟩:=f.yH;obtain⟨rfl,_⟩:=i.yH;split at h
  ·rename_i j;injection h with h
   subst h;refine qR (v:=.bool (a==b)) g ?_ (Zh _ rfl);simp only[Zd,Jp (a:=.bool a) rfl (by simp) w,kY,binOp,l7 a b j,WR]
  ·rename_i j;injection h with h
   subst h;refine qR (v:=.bool (!(a==b))) g ?_ (Zh _ rfl);simp only[Zd,Jp (a:=.bool a) rfl (by simp) w,kY,binOp,l7 a b j,WR]
  ·cases h
 ·rename_i xs ys;split at h
  ·rename_i z B;split at h
   ·cases d:yi z xs ys with
    |none=>simp[d]at h
    |some r=>simp[d]at h;subst h;obtain⟨o,s⟩:=sa B d f i;obtain⟨F,rfl,_,_⟩:=f.QS;obtain⟨H,rfl,_,_⟩:=i.QS;exact qR (v:=.bool r) g (by simp[s,binOp,o]) (Zh _ rfl)
   ·cases d:yi z xs ys with
    |none=>simp[d]at h
    |some r=>simp[d]at h;subst h;obtain⟨o,s⟩:=sa B d f i;obtain⟨F,rfl,_,_⟩:=f.QS;obtain⟨H,rfl,_,_⟩:=i.QS;exact qR (v:=.bool !r) g (by simp[s,binOp,o]) (Zh _ rfl)
   ·cases h
  ·cases h
 ·have:=i.xc;subst this;split at h
  ·rename_i e r d y;injection h with h
   subst h;obtain⟨A,n,c,rfl,rfl⟩:=sd y f;refine qR (v:=.bool A.isNone) g ?_ (Zh _ rfl);simp only[Zd,eqGuard,binOp,sb A n c (xJ d),WR,kY];simp
  ·rename_i e r d y;injection h with h
   subst h;obtain⟨A,n,c,rfl,rfl⟩:=sd y f;refine qR (v:=.bool !A.isNone) g ?_ (Zh _ rfl);simp only[Zd,eqGuard,binOp,sb A n c (xJ d),WR,kY];simp
  ·cases h
 ·cases h
theorem Lw(b:Inv P w S G Y Z){op:BinOp}{t:TypeId}{p q x:O}{u v:Value}(g a:Operand)(h:Xa (isK a) P op t p q=some x)(i:qK w S G Z p u)(j:qK w S G Z q v) :
  QT dr P w Y Z S G x Y Z ((do eqGuard op t g a u v;binOp op t u v:Sem Value).run P w):=by
 unfold Xa at h;split at h
 ·rename_i l;obtain⟨rfl,_⟩:=i.yH;obtain⟨rfl,_⟩:=j.yH;obtain⟨c,rfl⟩:∃c,a=.const c:=by cases a<;>first|exact⟨_,rfl⟩|(simp[isK]at l)
  unfold Ic at h;split at h
  ·rename_i e;unfold FG at e;split at e
   ·rename_i m f;have k:(Op.equal t .nilIface .nilIface).run P w=.ok true w:=by
     have h:∀d:Nat,(Op.equalIn (d+1) t .nilIface .nilIface).run P w=.ok true w:=fun d=>by simp only[Op.equalIn,Zd,zP f,kY,WR]
     exact h 9999
    split at h
    ·injection h with h;subst h;refine qR (v:=.bool true) b ?_ (Zh _ rfl);simp[eqGuard,binOp,k,Result.andThen]
    ·injection h with h;subst h;refine qR (v:=.bool false) b ?_ (Zh _ rfl);simp[eqGuard,binOp,k,Result.andThen]
    ·cases h
   ·cases e
  ·cases h
 ·exact FN b g a h i j
theorem Lx(a:Inv P w S G Y Z){op:UnOp}{p x:O}{u:Value}(h:TV op p=some x)(b:qK w S G Z p u):QT dr P w Y Z S G x Y Z ((Op.unary op u).run P w):=by
 unfold TV at h;split at h
 ·obtain⟨rfl,_⟩:=b.yH;split at h
  ·injection h with h;subst h;exact qR (v:=_) a (by simp[Op.unary]) (Zh _ rfl)
  ·cases h
 ·obtain⟨rfl,_⟩:=b.yH;split at h
  ·injection h with h;subst h;exact qR (v:=_) a (by simp[Op.unary,Op.intArith]) (Zh _ rfl)
  ·cases h
 ·cases h
theorem Ly(e:Inv P w S G Y Z){a dst:TypeId}{p x:O}{u:Value}(h:a7 P a dst p=some x)(f:qK w S G Z p u):QT dr P w Y Z S G x Y Z ((convert a dst u).run P w):=by
 unfold a7 at h;split at h
 ·obtain⟨rfl,_⟩:=f.yH;split at h
  ·rename_i d k b c;injection h with h
   subst h;exact qR (v:=_) e (by simp[convert,zP b,zP c,Conv.intToInt]) (Zh _ rfl)
  ·cases h
 ·obtain⟨rfl,_⟩:=f.yH;split at h
  ·rename_i d b c;injection h with h
   subst h;exact qR (v:=_) e (by simp[convert,zP b,zP c]) (Zh _ rfl)
  ·cases h
 ·cases h
end
end Go.AM
