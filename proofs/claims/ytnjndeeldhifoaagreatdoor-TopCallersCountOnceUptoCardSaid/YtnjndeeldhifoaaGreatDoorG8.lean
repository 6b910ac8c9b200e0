/- Lemmas. -/
import Derived.RangeFuncBox
import Derived.RangeFuncLeaves
import Derived.Shelf.Abstract
import Derived.WalkKit
import Derived.OwnWalkIn
import Derived.TacticsInMore
import Derived.LoopNIn
import Derived.LoopIn
import Derived.Test.YtnjndeeldhifoaaGreatDoorG7
set_option maxRecDepth 100000
set_option maxHeartbeats 4000000
open Go Proofs Proofs.YtnjndeeldhifoaaGreatDoor Proofs.Tryz RowKit AM SpanLaw Q Zz
open Go.IntKind renaming i64→i6
namespace Go.Q
theorem tG{l:za}{n:Int}(h:W4 l=some n):0<=n/\n<=999999:=by
 unfold W4 at h;split at h
 ·rename_i a;injection h with h
  obtain⟨b,c⟩:=n9 a.1;obtain⟨m,d,e⟩:=W0 l 0 c;have f:Lib.decNat l=some m:=by unfold Lib.decNat;rw[zj (by simpa using b)];exact d
  have g:m<10 ^ 6:=wA (by simpa using e) (Nat.pow_le_pow_right (by omega) a.2);have i:n=(m:Int):=by rw[<-h];unfold lv;rw[f];rfl
  omega
 ·cases h
theorem CR{v:yE}(h:jM v=0):(0<=v.a/\v.a<=999999)/\(0<=v.b/\v.b<=999999)/\(0<=v.c/\v.c<=999999)/\v.pre.length<=10/\∀p∈v.pre,vc p=false:=by
 unfold jM at h;split at h
 ·rename_i d;simp only[vG,zx,qG]at d;split at h
  ·cases h
  ·rename_i g;split at h
   ·cases h
   ·rename_i e;refine⟨d.1,d.2.1,d.2.2,by omega,fun p Y=>?_⟩;cases f:vc p with
    |false=>rfl
    |true=>exact absurd (Iw.2 ⟨p,Y,f⟩) e
 ·cases h
theorem Mj{t:za}{v:yE}(h:mZ t=some v):jM v=0:=by
 unfold mZ at h;split at h
 ·split at h
  ·split at h
   ·rename_i a;injection h with h
    rw[<-h];exact a
   ·cases h
  ·cases h
 ·cases h
theorem tH{p:za}(h:vc p=false):p.length<=20:=by simp only[vc,Bool.or_eq_false_iff,decide_eq_false_iff_not]at h;omega
theorem AN:∀(l:List za) (p q:Part) (i:Nat),vd p i l=some q->(0<=p.n0/\p.n0<=999999)/\(0<=p.n1/\p.n1<=999999)/\(0<=p.n2/\p.n2<=999999)/\0<=p.has/\p.has<=i/\(1<=i->1<=p.has)/\p.pre=[] ->
  (0<=q.n0/\q.n0<=999999)/\(0<=q.n1/\q.n1<=999999)/\(0<=q.n2/\q.n2<=999999)/\0<=q.has/\q.has<=i+l.length/\(1<=i+l.length->1<=q.has)/\q.pre=[]
 |[],p,q,i,h,Y=>by
  simp only[vd]at h;injection h with h
  subst h;simpa using Y
 |t::l,p,q,i,h,Y=>by
  simp only[vd]at h;split at h
  ·rename_i r hs;obtain⟨a,b,c,d,e,f,g⟩:=Y;have m:(0<=r.n0/\r.n0<=999999)/\(0<=r.n1/\r.n1<=999999)/\(0<=r.n2/\r.n2<=999999)/\0<=r.has/\r.has<=(i+1:Nat)/\(1<=i+1->1<=r.has)/\r.pre=[]:=by
    unfold je at hs;split at hs
    ·rename_i j;injection hs with hs
     obtain⟨n,k⟩:=Option.isSome_iff_exists.1 j.1;have o:=tG k;rw[k]at hs;simp only[bE]at hs;subst hs;have s:=j.2;unfold Part.put;split<;>simp only<;>refine⟨?_,?_,?_,?_,?_,?_,g⟩<;>first|assumption|omega
    ·split at hs
     ·rename_i u;injection hs with hs
      subst hs;exact⟨a,b,c,d,by omega,fun _=>f (by omega),g⟩
     ·cases hs
   have:=AN l r q (i+1) h m;rw[zU];refine⟨this.1,this.2.1,this.2.2.1,this.2.2.2.1,?_,?_,this.2.2.2.2.2.2⟩
   ·have:=this.2.2.2.2.1;omega
   ·intro _;exact this.2.2.2.2.2.1 (by omega)
  ·cases h
def QK(l:List za):Prop:=l.length<=10/\∀p∈l,vc p=false
theorem Q3{l:List za}(h:QK l):vE l:=⟨by have:=h.1;unfold zw;omega,fun p Y=>by have:=tH (h.2 p Y);unfold zw;omega⟩
theorem CS(s sep:za):qy s sep≠[]:=by
 unfold qy Lib.split;intro h;cases a:Lib.count s sep with
 |zero=>rw[a]at h;cases h
 |succ n=>rw[a]at h;simp only[Lib.splitK]at h;split at h<;>cases h
theorem JL{t:za}(h:(zK t).2=true):(zK t).1.ok/\QK (zK t).1.pre:=by
 unfold zK at h⊢;split at h
 ·rename_i a;rw[ze a];split at h
  ·rename_i v i;obtain⟨b,c,d,e,f⟩:=CR (Mj i);exact⟨⟨b,c,d,⟨by simp,by simp⟩,Q3 ⟨e,f⟩⟩,e,f⟩
  ·cases h
 ·rename_i a;rw[zj a];split at h
  ·cases h
  ·rename_i j;rw[zj j];split at h
   ·rename_i p Y;have:=AN _ vB p 0 Y (by simp[vB]);obtain⟨b,c,d,e,f,k,l⟩:=this;have m:=zcS.2 (CS t [46]);have g:QK p.pre:=by rw[l];exact⟨by simp,by simp⟩
    exact⟨⟨b,c,d,⟨k (by omega),by show p.has<=3;omega⟩,Q3 g⟩,g⟩
   ·cases h
def vx.xe(c:vx):Prop:=c.sign.length<=3/\(c.sign=ju\/((c.p.ok/\QK c.p.pre)/\(c.sign=[45]->c.tu.ok/\QK c.tu.pre)))
theorem vx.xe.ok{c:vx}(h:c.xe):c.ok:=⟨by have:=h.1;unfold zw;omega,h.2.imp id fun⟨a,b⟩=>⟨a.1,fun e=>(b e).1⟩⟩
theorem oJ:∀(a:List za) (s:za),(wW a s).1=[]\/(wW a s).1∈a
 |[],s=>.inl rfl
 |g::l,s=>by
  simp only[wW];split
  ·exact .inr (by simp)
  ·exact(oJ l s).imp id fun h=>by simp[h]
theorem Gi{s:za}(h:s=[]\/s∈wP):s.length<=3/\s≠[45]:=by
 rcases h with rfl|h
 ·simp
 ·simp only[wP,zC,List.not_mem_nil,or_false]at h;rcases h with rfl|rfl|rfl|rfl|rfl|rfl|rfl<;>simp
theorem CT{w:za}{l l':List za}{c:vx}(h:ko w l=some (c,l')):c.xe/\l'.length<=l.length:=by
 refine⟨?_,FZ h⟩;have a:=Gi (oJ wP w);unfold ko at h;split at h
 ·injection h with h;injection h with h _;subst h;exact⟨by simp[ou,ju],.inl rfl⟩
 ·split at h
  ·split at h
   ·split at h
    ·rename_i b;injection h with h;injection h with h _;subst h
     exact⟨a.1,.inr ⟨JL b,fun e=>absurd e a.2⟩⟩
    ·cases h
   ·cases h
  ·split at h
   ·rename_i b;injection h with h;injection h with h _;subst h
    exact⟨a.1,.inr ⟨JL b,fun e=>absurd e a.2⟩⟩
   ·cases h
theorem gQ:∀(n:Nat) (a:List za) (l:List vx),wT n a=some l->(∀c∈l,c.xe)/\l.length<=a.length
 | 0,a,l,h=>by
  simp only[wT]at h;injection h with h;subst h
  exact⟨by simp,by simp⟩
 |n+1,[],l,h=>by
  simp only[wT]at h;injection h with h;subst h
  exact⟨by simp,by simp⟩
 |n+1,w::a,l,h=>by
  simp only[wT]at h;split at h
  ·rename_i c l' hs;obtain⟨e,g⟩:=CT hs;cases b:wT n l' with
   |none=>rw[b]at h;cases h
   |some r=>
    rw[b]at h;simp only[zL,wb]at h;subst h;obtain⟨f,i⟩:=gQ n l' r b;refine⟨fun x d=>?_,by simp;omega⟩;rcases zC.1 d with rfl|d
    ·exact e
    ·exact f x d
  ·cases h
theorem CU{t:za}(h:(Vr t).2=true):(∀c∈(Vr t).1,c.xe)/\(Vr t).1.length<=t.length+1:=by
 have n:(wa (qy t [32])).length<=t.length+1:=zA (Sy _ _) (Qb (by simp));have f:∀d:List za,d=wa (qy t [32])->((match wT d.length d with
   |some l=>(l,!l.isEmpty)
   |none=>([],false)):List vx×Bool).2=true->(∀c∈((match wT d.length d with
   |some l=>(l,!l.isEmpty)
   |none=>([],false)):List vx×Bool).1,c.xe)/\((match wT d.length d with
   |some l=>(l,!l.isEmpty)
   |none=>([],false)):List vx×Bool).1.length<=t.length+1:=by
  intro d e i;cases j:wT d.length d with
  |none=>rw[j]at i;cases i
  |some l=>obtain⟨o,k⟩:=gQ _ _ _ j;exact⟨o,by rw[e]at k;exact zA k n⟩
 unfold Vr at h⊢;split at h
 ·rename_i a b c e;split at h
  ·rename_i g;simp only[zx]at h;rw[ze g];refine⟨fun x m=>?_,by simp⟩;simp only[we]at m;subst m;exact⟨by simp,.inr ⟨JL h.1,fun _=>JL h.2⟩⟩
  ·rename_i g;rw[zj g];have:=f [a,b,c] (by rw[e]) h;exact this
 ·exact f _ rfl h
def Cut.xe(c:Cut):Prop:=QK c.v.pre
theorem Cut.xe.small{c:Cut}(h:c.xe):c.v.small:=Q3 h
theorem gR:WI.xe:=⟨by simp[WI],by simp[WI]⟩
theorem xj:yL.xe:=⟨by simp[yL],by simp[yL,vc,fy,a6,xS,jZ,Co,pr]⟩
theorem Jj(p:Part)(i:Nat):(kS p i).xe:=by
 have h:(kS p i).v.pre=[[48]]:=by unfold kS;split<;>rfl
 have:=xj;unfold Cut.xe at this⊢;rw[h];exact this
theorem Gj{p:Part}(h:QK p.pre):(JV p).xe:=h
theorem gS{p:Part}(h:QK p.pre):(QI p).xe:=by
 unfold QI;split
 ·exact Jj _ _
 ·exact h
theorem Wt{a b:Cut}(c:a.xe)(d:b.xe):(Ew a b).length<=1/\∀s∈Ew a b,s.lo.xe/\s.hi.xe:=by
 unfold Ew;split
 ·exact⟨by simp,by simp⟩
 ·refine⟨by simp,fun s hs=>?_⟩;simp only[we]at hs;subst hs;exact⟨c,d⟩
theorem Wu{a:Cut}(b:a.xe):([jN a]:List wG).length<=1/\∀s∈[jN a],s.lo.xe/\s.hi.xe:=by refine⟨by simp,fun s hs=>?_⟩;simp only[we]at hs;subst hs;exact⟨b,gR⟩
theorem gT{c:vx}(b:c.xe):(ZB c).1.length<=1/\∀s∈(ZB c).1,s.lo.xe/\s.hi.xe:=by
 obtain⟨_,b⟩:=b;unfold ZB;by_cases d:c.sign=ju
 ·rw[ze d];exact Wu xj
 rw[zj d];obtain⟨⟨_,Y⟩,g⟩:=b.resolve_left d;have a:=Gj Y;have f:=gS Y;split
 ·exact Wu a
 split
 ·exact Wt xj a
 split
 ·exact Wu f
 split
 ·exact Wt xj f
 split
 ·rename_i e;exact Wt a (gS (g e).2)
 split
 ·exact Wt a (Jj _ _)
 split
 ·exact Wt a (Jj _ _)
 ·exact Wt a f
def QT(l:List wG):Prop:=∀s∈l,s.lo.xe/\s.hi.xe
theorem QT.small{l:List wG}(h:QT l)(a:l.length<=zw):yQ l:=⟨a,fun s hs=>⟨(h s hs).1.small,(h s hs).2.small⟩⟩
theorem Yi(f:Bool->Bool->Bool){a b:List wG}(c:QT a)(d:QT b):QT (Ws f a b):=CM gR f c d
def CV:List za->Option (List (List vx))
 |[]=>some []
 |s::l=>if(Vr s).2=true then(CV l).map ((Vr s).1::·)else none
noncomputable def VA:List vx->List wG->Option (List wG)
 |[],m=>some m
 |c::l,m=>if(ZB c).2=true then VA l (Ws and m (ZB c).1)else none
noncomputable def Kn:List (List vx)->List wG->Option (List wG)
 |[],o=>some o
 |l::a,o=>match VA l [jN yL]with
  |some m=>Kn a (Ws or o m)
  |none=>none
noncomputable def vP (t:za):List wG×Int:=if(400:Int)<t.length then([],2)else match CV (qy t [124,124])with
 |none=>([],10)
 |some a=>match Kn a []with
  |none=>([],1)
  |some o=>if(100:Int)<o.length then([],2)else(o,0)
theorem dJ:∀(l:List vx) (m r:List wG),(∀c∈l,c.xe)->QT m->VA l m=some r->QT r/\r.length<=m.length+l.length
 |[],m,r,_,a,h=>by
  simp only[VA]at h;injection h with h;subst h
  exact⟨a,by simp⟩
 |c::l,m,r,b,a,h=>by
  simp only[VA]at h;split at h
  ·obtain⟨g,d⟩:=gT (b c (by simp));obtain⟨e,i⟩:=dJ l _ r (fun x f=>b x (by simp[f])) (Yi and a d) h;have:=XI and m (ZB c).1;exact⟨e,by simp only[zU];omega⟩
  ·cases h
theorem dK:∀(l:List za) (d:List (List vx)) (n:Nat),(∀s∈l,s.length<=n)->CV l=some d->(∀a∈d,(∀c∈a,c.xe)/\a.length<=n+1)/\d.length=l.length
 |[],d,n,_,h=>by
  simp only[CV]at h;injection h with h;subst h
  exact⟨by simp,rfl⟩
 |s::l,d,n,e,h=>by
  simp only[CV]at h;split at h
  ·rename_i hs;cases b:CV l with
   |none=>rw[b]at h;cases h
   |some r=>
    rw[b]at h;simp only[zL,wb]at h;subst h;obtain⟨f,g⟩:=dK l r n (fun x i=>e x (by simp[i])) b;obtain⟨j,k⟩:=CU hs;have:=e s (by simp);refine⟨fun a b=>?_,by simp[g]⟩;rcases zC.1 b with rfl|b
    ·exact⟨j,by omega⟩
    ·exact f a b
  ·cases h
attribute [local go_sem] Oper.semAt_some
theorem tI{P:Program}{g:FuncId}{F:zb->Option O}{us:List Value}{v:Value}(h:kF True P g (zg false [] F))(hF:zg false [] F (us.map O.v) (fun _=>none) 0=some (.v v,fun _=>none,0))(d:∀u∈us,lit u=true){W:World}(j:Bz P W fun b=>b<W.heap.size) :
  Calls P g us.toArray W fun e f=>e=.returned v/\Fr True W (fun _=>False) f:=by
 have l:Zip (zW W (fun b=>b<W.heap.size) (fun _=>⟨0,0,0⟩) 0) (us.map O.v) us:=by
  induction us with
  |nil=>exact .nil
  |cons u us i=>exact .cons (.c (.v (d u (by simp)))) (by
    clear hF;have:∀us:List Value,(∀u∈us,lit u=true)->Zip (zW W (fun b=>b<W.heap.size) (fun _=>⟨0,0,0⟩) 0) (us.map O.v) us:=by
     intro us
     induction us with
     |nil=>intro _;exact .nil
     |cons u us i=>intro h;exact .cons (.c (.v (h u (by simp)))) (i fun x a=>h x (by simp[a]))
    exact this us fun x a=>d x (by simp[a]))
 refine(h.2 _ _ _ _ _ _ hF W (fun b=>b<W.heap.size) (fun _=>⟨0,0,0⟩) us (JF _ (fun b m=>m) j) l).mono fun e f n=>?_
 obtain⟨x,p,q,rfl,st,a⟩:=n;obtain⟨rfl,_⟩:=a.wF;exact⟨rfl,⟨st.fr.os,st.fr.tape,st.fr.output,st.fr.size,st.fr.drawn,fun k o _=>st.fr.block k o fun⟨_,_,h,_⟩=>by cases h⟩⟩
theorem bN{W b:World}{L:Nat->Prop}(h:Fr True W L b){a:Addr}{v:Value}(c:W.cell? a=some v)(d:¬L a.block):b.cell? a=some v:=by rw[<-c];exact Js (h.block _ (Af c) d)
def JW(l:List za):List Value:=l.map fun p=>.string ⟨p.toArray⟩
def Gk(w:World)(b:Nat):Nat:=match w.cell? ⟨b,0,none⟩with
 |some (.string s)=>s.size
 |_=>0
def j8(w:World)(b:Nat)(v:Value):Prop:=∃cs ty,w.heap[b]?=some (.cells cs ty (0,0))/\cs[0]?=some v
theorem j8.cell{w:World}{b:Nat}{v:Value}(h:j8 w b v):w.cell? ⟨b,0,none⟩=some v:=by obtain⟨cs,ty,a,c⟩:=h;simp[World.cell?,a,c]
theorem j8.free{w:World}{b:Nat}{v:Value}(h:j8 w b v):w.frozen? ⟨b,0,none⟩=false:=by obtain⟨cs,ty,a,c⟩:=h;simp[World.frozen?,a]
theorem j8.same{w a:World}{b:Nat}{v:Value}(h:j8 w b v)(e:a.heap[b]?=w.heap[b]?):j8 a b v:=by obtain⟨cs,ty,c,d⟩:=h;exact⟨cs,ty,e.trans c,d⟩
theorem j8.lt{w:World}{b:Nat}{v:Value}(h:j8 w b v):b<w.heap.size:=by obtain⟨cs,ty,a,c⟩:=h;exact(qb.1 a).1
theorem j8.set{w:World}{b:Nat}{v:Value}(u:Value)(h:j8 w b v):j8 (w.setCell ⟨b,0,none⟩ u) b u:=by obtain⟨cs,ty,a,c⟩:=h;have d:=(qb.1 c).1;refine⟨cs.setIfInBounds 0 u,ty,?_,by simp[d]⟩;simp[World.setCell,vR,a]
theorem j8.IM{w:World}{b:Nat}(u:Value)(B:Nat->Prop)(a:B b):Fr True w B (w.setCell ⟨b,0,none⟩ u):=
 ⟨rfl,rfl,rfl,by simp[World.setCell],fun _=>zi _,fun k _ c=>by
  have:¬b=k:=fun e=>c (e ▸ a)
  simp[World.setCell,vR,this]⟩
theorem j8.str{w:World}{b:Nat}{s:ByteArray}(h:j8 w b (.string s)):Gk w b=s.size:=by unfold Gk;rw[h.cell]
theorem lO(n l B1 B2 B3:Nat)(sep t:za)(hs1:1<=sep.length)(hs2:sep.length<=zw)(ht:t.length<=zw)(h12:B1≠B2)(h23:B3≠B2)(J Jx:List Value->World->Prop)
  (hJ:∀pre W W',J pre W->Fr True W (fun b=>b=B1\/b=B2\/b=B3) W'->J pre W') (hGl:∀pre W,J pre W->Bz prog W fun b=>b<W.heap.size)
  (hY:∀pre x W,J pre W->(JW (qy t sep))[pre.length]?=some x->YieldAt Fence.wide n prog l #[x] W fun e W'=>(e=.returned (.bool true)/\J (pre++[x]) W'/\(∀b,(b=B1\/b=B2\/b=B3)->W'.heap[b]?=W.heap[b]?)/\W.heap.size<=W'.heap.size)\/(e=.returned (.bool false)/\Jx (pre++[x]) W'))
  (W:World) (h0:J [] W) (h1:W.cell? ⟨B1,0,none⟩=some (.string ⟨sep.toArray⟩)) (h2:j8 W B2 (.string ⟨t.toArray⟩)) (h3:W.cell? ⟨B3,0,none⟩=some (.int .i64 0)) :
  CallsIn Fence.wide (n+1) prog 241 #[.func (.yield l) #[] #[],.pointer (some ⟨B1,0,none⟩),.pointer (some ⟨B2,0,none⟩),.pointer (some ⟨B3,0,none⟩)] W fun e W'=>(∃v,e=.returned v)/\(J (JW (qy t sep)) W'\/∃pre,Jx pre W'):=by
 refine callsIn_of_wp func241 rfl trivial ?_ rfl;simp only[Tryz.ntmps241,List.size_toArray,zU,O1,Nat.reduceAdd,Nat.reduceSub,Array.replicate_succ,Array.replicate_zero,List.push_toArray,List.append_toArray,yW,q7];have h2c:=h2.cell;have hse:((sep.length:Int)==0)=false:=yC.2 (by omega)
 gi_wp2
 try simp only[hse]
 have hx:∀cur:za,cur.length<=zw->∀wr:World,Bz prog wr (fun b=>b<wr.heap.size)->Calls prog 175 #[.string ⟨cur.toArray⟩,.string ⟨sep.toArray⟩] wr fun e w'=>e=.returned (.int .i64 (Lib.index cur sep))/\Fr True wr (fun _=>False) w':=fun cur hc wr hg=>by exact tI (us:=[.string ⟨cur.toArray⟩,.string ⟨sep.toArray⟩]) Vd (Wk cur sep _ _ hc hs2) (by simp[lit]) hg
 gi_loopw [] (fun wr=>∃(done:List za) (cur:za),qy t sep=done++qy cur sep/\cur.length<=t.length/\J (JW done) wr/\wr.cell? ⟨B1,0,none⟩=some (.string ⟨sep.toArray⟩)/\j8 wr B2 (.string ⟨cur.toArray⟩)/\wr.cell? ⟨B3,0,none⟩=some (.int .i64 0))
  (fun wr=>Gk wr B2)
 case atStart=>exact⟨[],t,rfl,zi _,h0,h1,h2,h3⟩
 case round=>
  obtain⟨done,cur,hsp,hcl,hJs,c1,k2,c3⟩:=hrel;have c2:=k2.cell;have hg:=hGl _ _ hJs
  gi_wp2
  refine⟨trivial,fk.2 ((hx cur (zA hcl ht) wr hg).mono ?_)⟩;rintro e w1 ⟨rfl,fr⟩;dsimp only;have d1:=bN fr c1 (fun h=>h);have m2:=k2.same (fr.block _ k2.lt fun h=>h);have d2:=m2.cell;have d3:=bN fr c3 (fun h=>h);have hJ1:=hJ _ _ _ hJs ⟨fr.os,fr.tape,fr.output,fr.size,fr.drawn,fun k hk _=>fr.block k hk fun h=>h⟩;have hel:(JW done).length=done.length:=by simp[JW]
  by_cases hneg:Lib.index cur sep<0
  ·have hsk:qy cur sep=[cur]:=by
    have hm:Lib.index cur sep=-1:=by
     rcases Lib.index_spec cur sep with⟨h,_⟩|⟨i,h,_⟩
     ·exact h
     ·omega
    unfold qy Lib.split;rw[Lib.count_miss hm];rfl
   have hu:(JW (qy t sep))[(JW done).length]?=some (.string ⟨cur.toArray⟩):=by rw[hsp,hsk,hel];simp[JW]
   obtain⟨fn,tmps,assign,body,hy,hR⟩:=hY _ _ w1 hJ1 hu
   gi_wp2
   refine hR.mono ?_;rintro e W3 (⟨rfl,hJ3,hk3,hz3⟩|⟨rfl,hJx3⟩)
   ·gi_wp2
    go_end0
    refine⟨⟨_,rfl⟩,.inl ?_⟩;rw[hsp,hsk];simpa[JW]using hJ3
   ·gi_wp2
    go_end0
    exact⟨⟨_,rfl⟩,.inr ⟨_,hJx3⟩⟩
  ·obtain⟨i,hi⟩:∃i:Nat,Lib.index cur sep=i:=⟨(Lib.index cur sep).toNat,by omega⟩;have hne:sep≠[]:=by rintro rfl;simp at hs1
   have hsk:qy cur sep=cur.take i::qy (cur.drop (i+sep.length)) sep:=by unfold qy Lib.split;rw[Lib.count_hit hne hi,NV 1,cV hi]
   have htk:(cur.drop (i+sep.length)).take (cur.length-(i+sep.length))=cur.drop (i+sep.length):=q6 (by simp);have hroom:=Lib.index_room cur sep (by omega);rw[hi]at hroom;unfold zw at ht hs2;have hwi:wrap64 (i:Int)=(i:Int):=by unfold wrap64;omega
   have hu:(JW (qy t sep))[(JW done).length]?=some (.string ⟨(cur.take i).toArray⟩):=by rw[hsp,hsk,hel];simp[JW]
   obtain⟨fn,tmps,assign,body,hy,hR⟩:=hY _ _ w1 hJ1 hu;rw[hi]
   gi_wp2
   refine hR.mono ?_;rintro e W3 (⟨rfl,hJ3,hk3,hz3⟩|⟨rfl,hJx3⟩)
   ·have e1:W3.cell? ⟨B1,0,none⟩=some (.string ⟨sep.toArray⟩):=by rw[<-d1];exact Js (hk3 B1 (.inl rfl))
    have o2:=m2.same (hk3 B2 (.inr (.inl rfl)));have e2:=o2.cell;have e4:=o2.free;have e3:W3.cell? ⟨B3,0,none⟩=some (.int .i64 0):=by rw[<-d3];exact Js (hk3 B3 (.inr (.inr rfl)))
    gi_wp2
    go_roundw
    case rel=>
     refine⟨done++[cur.take i],cur.drop (i+sep.length),by rw[hsp,hsk];simp,by simp;omega,?_,?_,?_,?_⟩
     ·have:=hJ _ _ _ hJ3 (j8.IM (w:=W3) (b:=B2) (.string ⟨(cur.drop (i+sep.length)).toArray⟩) (fun b=>b=B1\/b=B2\/b=B3) (.inr (.inl rfl)));simpa[JW]using this
     ·exact bN (j8.IM (w:=W3) (b:=B2) _ (fun b=>b=B2) rfl) e1 h12
     ·exact o2.set (.string ⟨(cur.drop (i+sep.length)).toArray⟩)
     ·exact bN (j8.IM (w:=W3) (b:=B2) _ (fun b=>b=B2) rfl) e3 h23
    case measure=>have:=o2.set (.string ⟨(cur.drop (i+sep.length)).toArray⟩);rw[this.str,k2.str];simp;omega
   ·gi_wp2
    refine bodyPost_ret (results_none rfl _ _ _) rfl ?_;exact⟨⟨_,rfl⟩,.inr ⟨_,hJx3⟩⟩
def VB:xo:=fun cap Y=>match cap with
 |[.ref b 0 0,.ref a 0 0,.ref c 0 0]=>match Y b,Y a,Y c with
  |some ⟨_,1,false,[[.v (.string sep)]]⟩,some ⟨_,1,false,[[.v (.string t)]]⟩,some ⟨_,1,false,[[.v (.int .i64 0)]]⟩=>
   if b≠a/\c≠a/\1<=sep.data.toList.length/\sep.data.toList.length<=zw/\t.data.toList.length<=zw then some ((qy t.data.toList sep.data.toList).map str,ql (ql (ql Y b none) a none) c none)else none
  |_,_,_=>none
 |_=>none
theorem XL{P:Program}{w:World}{S:Nat->Prop}{G:Nat->GI}{Y:Hp}{Z id e:Nat}{u:Value}(c:Inv P w S G Y Z)(d:Y id=some ⟨e,1,false,[[.v u]]⟩):j8 w (G id).g u:=by have b:=c.live id _ d;have hs:(G id).s=1:=b.bs.symm;obtain⟨a,f,k,h⟩:=b.row (by omega);obtain⟨x,i,j⟩:=h 0 0 [.v u] (.v u) rfl rfl;obtain⟨rfl,_⟩:=j.2.1.wF;exact⟨a,e,f,by simpa[hs]using i⟩
theorem tJ:nI True prog 241 VB:=by
 refine⟨⟨_,func241,by kernel_rfl,by kernel_rfl⟩,fun cap Y Z xs Y1 h=>?_⟩;unfold VB at h;split at h
 case h_2=>cases h
 rename_i d c i3;split at h
 case h_2=>cases h
 rename_i e1 sep e2 t e3 s r u;split at h
 case isFalse=>cases h
 rename_i F;obtain⟨v,x,y,z,H⟩:=F;injection h with h
 injection h with I a;subst I;subst a;have f:∀id b,ql (ql (ql Y d none) c none) i3 none id=some b->Y id=some b/\id≠d/\id≠c/\id≠i3:=fun id b a=>by
  by_cases o:id=i3
  ·subst o;rw[wQ]at a;cases a
  rw[qu _ _ _ _ o]at a;by_cases p:id=c
  ·subst p;rw[wQ]at a;cases a
  rw[qu _ _ _ _ p]at a;by_cases q:id=d
  ·subst q;rw[wQ]at a;cases a
  rw[qu _ _ _ _ q]at a;exact⟨a,q,p,o⟩
 refine⟨JW (qy t.data.toList sep.data.toList),by simp[JW],by simp[JW,lit],fun id b a=>(f id b a).1,fun w S G vs j k=>?_⟩;obtain⟨v1,r1,rfl,K,k⟩:=k.jy;obtain⟨v2,r2,rfl,L,k⟩:=k.jy;obtain⟨v3,r3,rfl,M,k⟩:=k.jy;obtain rfl:=k.Qs;have N:=XL j s;have P:=XL j r;have Q:=XL j u;obtain⟨_,rfl⟩:=K.Zg;obtain⟨_,rfl⟩:=L.Zg;obtain⟨_,rfl⟩:=M.Zg;have A:(G d).g≠(G c).g:=fun e=>v (j.inj _ _ _ _ s r e)
 have B:(G i3).g≠(G c).g:=fun e=>x (j.inj _ _ _ _ u r e)
 refine⟨fun b=>b=(G d).g\/b=(G c).g\/b=(G i3).g,?_,?_⟩
 ·have m:∀i blk,Y i=some blk->(i=d\/i=c\/i=i3)->yP Y G (G i).g/\YN S G (ql (ql (ql Y d none) c none) i3 none) (G i).g:=fun i blk a C=>
   ⟨⟨i,blk,a,rfl⟩,j.apart i blk a,fun id R hid e=>by
     obtain⟨T,q,p,o⟩:=f id R hid;have:=j.inj _ _ _ _ T a e;subst this;rcases C with h|h|h
     ·exact q h
     ·exact p h
     ·exact o h⟩
  rintro b (rfl|rfl|rfl)
  ·exact m d _ s (.inl rfl)
  ·exact m c _ r (.inr (.inl rfl))
  ·exact m i3 _ u (.inr (.inr rfl))
 ·intro n l J X hJ hJx D hY W h0 E _;have:=lO n l (G d).g (G c).g (G i3).g sep.data.toList t.data.toList y z H A B J X hJ D hY W h0 (N.same (E _ (.inl rfl))).cell (P.same (E _ (.inr (.inl rfl)))) (Q.same (E _ (.inr (.inr rfl)))).cell;simpa using this
end Go.Q
namespace Go.AM
def KH(P:Program)(l:kW)(g:FuncId)(it:xo):Ctx:=⟨P,lookup l,fun _=>[],fun _=>[],fun _=>false,fun _=>[],fun k=>if k=g then some it else none⟩
@[simp]theorem zaO(P:Program)(l:kW)(g:FuncId)(it:xo):(KH P l g it).P=P:=rfl
@[simp]theorem zaP(P:Program)(l:kW)(k:FuncId)(it:xo)(Y:Hp)(Z g:Nat)(x y xs:zb):yR (KH P l k it) Y Z (some (.fn (.func g) x y)) xs=(lookup l g).bind fun s=>s (x++xs++y) Y Z:=by unfold yR KH;simp only;cases lookup l g<;>rfl
@[simp]theorem Gl(P:Program)(l:kW)(k:FuncId)(it:xo)(i:Nat)(a:Array Oper)(d:Bool)(st:St)(K:Exit->St->Prop):vU (KH P l k it) (.region i a d) st K=cH (KH P l k it) a a.toList st (Wg K):=Z7 _ i a d st K rfl rfl
theorem Gm{P:Program}{l:kW}{q:List Nat}{k:FuncId}{it:xo}(b:P.follows .mixedOrders=true)(h:YK True P q l)(c:Cb P k it):AM.Good (KH P l k it) (fun g=>q.contains g):=
 let g:=qc b h
 ⟨g.spec,g.quiet,g.mixed,(fun _ _ h=>by cases h),(fun j a h=>by
  have:(if j=k then some it else none)=some a:=h;split at this
  ·rename_i e;injection this with this
   subst this;subst e;exact c
  ·cases this)⟩
@[simp]theorem zcK(C:Ctx)(b:Code)(K:Exit->St->Prop)(st:St):UB C b K .normal st=vU C b st K:=rfl
@[simp]theorem zcL(I:Nat->Hp->Nat->Prop)(k:Nat)(U:Nat->O)(K:Exit->St->Prop)(st:St):Po I k U K .normal st=I (k+1) st.Y st.Z:=rfl
@[simp]theorem zcM(I:Nat->Hp->Nat->Prop)(k:Nat)(U:Nat->O)(K:Exit->St->Prop)(st:St):Po I k U K .ret st=K .ret ⟨U,st.Y,st.Z⟩:=rfl
theorem xw{Y:Hp}{Z e s:Nat}{v:O}{xs:List zb}(h:wD Y Z e s v xs){j:Nat}{b:jV}(a:Y j=some b)(c:b.arr=false):∀n,v≠.own j 0 n:=by
 rcases h with⟨rfl,_⟩|⟨id,f,rfl,d⟩
 ·intro n e;cases e
 ·intro n e;injection e with e
  subst e;rw[d]at a;injection a with a
  subst a;cases c
end Go.AM
namespace Go.Q
noncomputable def AO (t:za):O:=.q8 [.sl 11 (qD (vP t).1),int (vP t).2]
theorem dL:zf prog 211 (qq C0 f211):=w8 y7 func211
noncomputable abbrev Csq:Ctx:=zG prog [(211,qq C0 f211)]
theorem Rm:Gd Csq:=zM mixed ⟨dL,trivial⟩
theorem tK:zf prog 181 (qq Csq f181):=w8 Rm func181
def Mk(t sep:za)(Y:Hp)(Z:Nat):Hp:=ql (ql (ql Y Z (some ⟨9,1,false,[[str t]]⟩)) (Z+1) (some ⟨9,1,false,[[str sep]]⟩)) (Z+1+1) (some ⟨3,1,false,[[int 0]]⟩)
theorem lP(t sep:za)(Y:Hp)(Z:Nat):qq C0 f211 [str t,str sep,int 0] Y Z=some (.fn (.func 241) [] [.ref (Z+1) 0 0,.ref Z 0 0,.ref (Z+1+1) 0 0],Mk t sep Y Z,Z+1+1+1):=by unfold qq;rw[ze (by simp[f211])];refine wx rfl ?_;simp[Mk,f211]
theorem Gn(t sep:za)(Y:Hp)(Z:Nat):qq Csq f181 [str t,str sep] Y Z=some (.fn (.func 241) [] [.ref (Z+1) 0 0,.ref Z 0 0,.ref (Z+1+1) 0 0],Mk t sep Y Z,Z+1+1+1):=by
 have a:=fun Y Z=>lP t sep Y Z
 unfold qq;rw[ze (by simp[f181])];refine wx rfl ?_;simp[a,f181]
def Wa(Y:Hp)(Z:Nat)(v:O)(m:List wG):Prop:=v=.sl 11 (qD m)\/(v=.nil/\m=[])\/∃id,id<Z/\v=.own id 0 (qD m).length/\Y id=some ⟨258,11,true,qD m⟩
theorem Wa.frz{Y:Hp}{Z:Nat}{v:O}{m:List wG}(h:Wa Y Z v m):∃y Y1,qe Y v=some (y,Y1)/\(Sh.s 11 vr).fix y=.sl 11 (qD m)/\(∀j,(∀n,v≠.own j 0 n)->Y1 j=Y j)/\∀j b,Y1 j=some b->Y j=some b:=by
 rcases h with rfl|⟨rfl,rfl⟩|⟨id,f,rfl,c⟩
 ·exact⟨_,Y,rfl,dI m,fun _ _=>rfl,fun _ _ h=>h⟩
 ·exact⟨_,Y,rfl,rfl,fun _ _=>rfl,fun _ _ h=>h⟩
 ·refine⟨.sl 11 (qD m),ql Y id none,by simp[c],dI m,fun j d=>zk _ _ _ _ fun e=>d _ (by subst e;rfl),fun j b a=>?_⟩;by_cases e:j=id
  ·subst e;rw[wQ]at a;cases a
  ·rwa [qu _ _ _ _ e]at a
theorem Wa.keep{Y a:Hp}{Z Z':Nat}{v:O}{m:List wG}(h:Wa Y Z v m)(e:Z<=Z')(b:∀id,id<Z->(∀n,v=.own id 0 n->a id=Y id)):Wa a Z' v m:=by
 rcases h with rfl|⟨rfl,rfl⟩|⟨id,c,rfl,d⟩
 ·exact .inl rfl
 ·exact .inr (.inl ⟨rfl,rfl⟩)
 ·exact .inr (.inr ⟨id,by omega,rfl,by rw[b id c _ rfl];exact d⟩)
theorem Wa.len{Y:Hp}{Z:Nat}{v:O}{m:List wG}(h:Wa Y Z v m):YJ prog 215 v=some (int m.length):=by rcases h with rfl|⟨rfl,rfl⟩|⟨id,a,rfl,b⟩<;>simp[qD]
theorem Wa.box{Y:Hp}{Z:Nat}{v:O}{m:List wG}(h:Wa Y Z v m){j:Nat}{b:jV}(a:Y j=some b)(c:b.e≠258):∀n,v≠.own j 0 n:=by
 rcases h with rfl|⟨rfl,rfl⟩|⟨id,f,rfl,d⟩
 ·intro n e;cases e
 ·intro n e;cases e
 ·intro n e;injection e with e
  subst e;rw[d]at a;injection a with a
  subst a;exact c rfl
theorem Wa.lt{Y:Hp}{Z:Nat}{v:O}{m:List wG}(h:Wa Y Z v m){j n:Nat}(e:v=.own j 0 n):j<Z:=by
 rcases h with rfl|⟨rfl,rfl⟩|⟨id,a,rfl,b⟩
 ·cases e
 ·cases e
 ·injection e with e;omega
theorem Ml(c:vx)(Y:Hp)(Z:Nat)(h:c.ok):qH [.g lH] (FCm Q0) [.agg c.V] Y Z=some (Q0 c,Y,Z):=
 va (show zy Y [.agg c.V]=some ([.agg c.V],Y) by simp[vx.V]) (by
  have d:(Sh.g lH).fix (.agg c.V)=.agg c.V:=by simp[vx.V]
  show FCm Q0 [(Sh.g lH).fix (.agg c.V)]=_;rw[d];exact qx (V:=fun v:vx=>[O.agg v.V]) (a:=c) (fun a b e=>by simp only[zc,zs]at e;injection e with e;exact CG e) h) (.inr (by simp[vx.V]))
theorem oK(f:Bool->Bool->Bool)(g:Nat)(C:(f=and/\g=186)\/(f=or/\g=187)){Y:Hp}{Z:Nat}{v w:O}{a b:List wG}(D:Wa Y Z v a)(E:Wa Y Z w b)(h:∀id n k,v=.own id 0 n->w≠.own id 0 k)(u:yQ a)(A:yQ b) :
  ∃x i Z',JK [.s 11 vr,.s 11 vr] oG [v,w,.fn (.func g) [] []] Y Z=some (x,i,Z')/\Wa i Z' x (Ws f a b)/\Z<=Z'/\(∀j,j<Z->(∀n,v≠.own j 0 n)->(∀n,w≠.own j 0 n)->i j=Y j)/\(∀n j,x=.own j 0 n->Z<=j)/\∀s es,x≠.sl s es:=by
 obtain⟨y,Y1,F,G,l,_⟩:=D.frz;have m:Wa Y1 Z w b:=E.keep (zi _) fun id _ n e=>l id fun H I=>h id H n I e
 obtain⟨z,Y2,J,K,B,_⟩:=m.frz;have d:zy Y [v,w,.fn (.func g) [] []]=some ([y,z,.fn (.func g) [] []],Y2):=by simp only[zy,F,J];rfl
 have hF:oG (aU [.s 11 vr,.s 11 vr] (yr [] [y,z,.fn (.func g) [] []]))=some (Ji f a b):=by
  show oG [(Sh.s 11 vr).fix y,(Sh.s 11 vr).fix z,.fn (.func g) [] []]=_;rw[G,K];rcases C with⟨rfl,rfl⟩|⟨rfl,rfl⟩
  ·have:=qx (V:=fun a:List wG×List wG=>[O.sl 11 (qD a.1),.sl 11 (qD a.2),.fn (.func 186) [] []]) (pre:=fun a=>yQ a.1/\yQ a.2) (out:=fun a=>Ji and a.1 a.2) (a:=(a,b)) (AL _) ⟨u,A⟩;unfold oG;rw[this]
  ·have:=qx (V:=fun a:List wG×List wG=>[O.sl 11 (qD a.1),.sl 11 (qD a.2),.fn (.func 187) [] []]) (pre:=fun a=>yQ a.1/\yQ a.2) (out:=fun a=>Ji or a.1 a.2) (a:=(a,b)) (AL _) ⟨u,A⟩;have o:zS (α:=List wG×List wG) (fun a=>[O.sl 11 (qD a.1),.sl 11 (qD a.2),.fn (.func 186) [] []]) (fun a=>yQ a.1/\yQ a.2) (fun a=>Ji and a.1 a.2) [O.sl 11 (qD a),.sl 11 (qD b),.fn (.func 187) [] []]=none:=by
    cases L:zS (α:=List wG×List wG) (fun a=>[O.sl 11 (qD a.1),.sl 11 (qD a.2),.fn (.func 186) [] []]) (fun a=>yQ a.1/\yQ a.2) (fun a=>Ji and a.1 a.2) [O.sl 11 (qD a),.sl 11 (qD b),.fn (.func 187) [] []]with
    |none=>rfl
    |some r=>obtain⟨_,e,_⟩:=qd L;simp at e
   unfold oG;rw[o];exact this
 unfold JK km;by_cases p:Ws f a b=[]
 ·have c:=hF;unfold Ji at c;rw[ze p]at c;simp only[d,c];exact⟨_,_,_,rfl,.inr (.inl ⟨rfl,p⟩),zi _,fun j _ q t=>(B j t).trans (l j q),fun n j e=>(by cases e),fun s es e=>(by cases e)⟩
 ·have c:=hF;unfold Ji at c;rw[zj p]at c;simp only[d,c];exact⟨_,_,_,rfl,.inr (.inr ⟨Z,by omega,rfl,by simp⟩),by omega,fun j M q t=>by rw[zk _ _ _ _ (by omega)];exact(B j t).trans (l j q),fun n j e=>(by injection e with e;omega),fun s es e=>(by cases e)⟩
noncomputable abbrev Crrg:Ctx:=KH prog [(181,qq Csq f181),(182,zg false [] (da lK)),(183,qH [] (Kl KE)),(184,qH [.g lH] (FCm Q0)),(185,JK [.s 11 vr,.s 11 vr] oG),(188,qH [.g vr] (FSt idS))] 241 VB
theorem Rn:Gd Crrg:=Gm mixed ⟨tK,by simp,Vs,by simp,Wo,by simp,bd,by simp,fJ,by simp,Vz,by simp,trivial⟩ tJ
theorem dM(t:za)(ht:t.length+1<=zw):∃r0,zt Crrg f153 [str t]=some r0/\wu r0 (AO t):=by
 refine kJ (sh:=.s 11 vr) rfl ?_;by_cases T:(400:Int)<t.length
 ·have hv:vP t=([],2):=by unfold vP;rw[ze T]
  simp[T,AO,hv,qD,qV,f153]
 have hsq:=fun Y Z=>Gn t [124,124] Y Z
 obtain⟨a,u⟩:=kC (qy t [124,124]);have hpl:∀p∈a,p.length<=400:=fun p Y=>by have:=xT (by rw[u];exact Y);omega
 have hpn:a.length<=401:=by have:=Qb (s:=t) (sep:=[124,124]) (by simp);rw[u]at this;omega
 have b:vP t=match CV a with
  |none=>([],10)
  |some ls=>match Kn ls []with
   |none=>([],1)
   |some o=>if(100:Int)<o.length then([],2)else(o,0):=by unfold vP;rw[zj T,u]<;>rfl
 simp[T,hsq];refine Ca (p:=23) (xs:=a.map str) rfl (by simp;exact⟨rfl,rfl⟩) (it:=VB) rfl (by simp[VB,Mk,u];exact⟨⟨by decide,by omega⟩,rfl⟩) (fun k Y Z=>∃(v:O) (done:List (List vx)),6<=Z/\Y 0=some ⟨215,1,false,[[.nil]]⟩/\Y 1=some ⟨30,1,false,[[int 0]]⟩/\Y 2=some ⟨239,1,false,[[v]]⟩ /\
   wD Y Z 243 1 v (done.map fun l=>[.sl 11 (vI l)])/\done.length=k/\CV a=(CV (a.drop k)).map (done++·)) ?_ ?_ ?_
 ·exact⟨.nil,[],by simp,by simp,by simp,by simp,.inl ⟨rfl,rfl⟩,rfl,by rw[wZ];cases CV a<;>rfl⟩
 ·rintro k Y Z hk ⟨v,done,z,f,d,b2,C,Un,he⟩;have hk':k<a.length:=by simpa using hk
  have hpk:(a.map str)[k]=str a[k]:=by simp
  have hpkl:=hpl a[k] (zm hk');have halt:=fun Y Z=>Z2 lK a[k] Y Z (by unfold zw;omega)
  simp only[lK]at halt;rw[hpk];rw[zd hk']at he;simp only[CV]at he;cases D:(Vr a[k]).2
  ·rw[D]at he;simp only[zE,wE,Qn]at he;rw[he]at b;have n0:¬0=Z:=by omega
   have n1:¬1=Z:=by omega
   simp[halt,D,f,d,AO,b,qD,qV,f153]
  ·rw[D]at he;simp only[qI]at he;have se:=wD.jb (P:=prog) (t:=239) (c:=[.sl 11 (vI (Vr a[k]).1)]) C Ov zax zay zaz rfl (by omega) (by simp[Un];unfold maxLen;omega) (by simp[Un];omega);have k0:=fun Y'=>yo C Y' 0 (xw C f rfl)
   have k1:=fun Y'=>yo C Y' 1 (xw C d rfl)
   have k2:=fun Y'=>yo C Y' 2 (xw C b2 rfl)
   have n0:¬0=Z:=by omega
   have n1:¬1=Z:=by omega
   have n2:¬2=Z:=by omega
   have n3:¬1=Z+1:=by omega
   have n4:¬2=Z+1:=by omega
   have n5:¬Z+1=2:=by omega
   simp[halt,D,f,d,b2,se,k0,k1,k2,n0,n1,n2,n3,n4,n5,zu,zX,zv];refine⟨by omega,by rw[zk _ _ _ _ (by omega),k1,zk _ _ _ _ (by omega)];exact d,done++[(Vr a[k]).1],.inr ⟨Z+1,by omega,by simp,by rw[zk _ _ _ _ (by omega)];simp⟩,by simp[Un],?_⟩;rw[he];cases CV (a.drop (k+1))<;>simp
 ·rintro Y Z ⟨v,done,z,f,d,b2,C,Un,he⟩;rw[qQ]at Un;rw[qQ,zp]at he;simp only[CV,zL,yh]at he;obtain⟨zbC,hdl⟩:=dK a done 400 hpl he;rw[he]at b;simp only at b;have hlen:=C.len Ov;rw[qQ]at hlen;have hdn:done.length<=401:=by omega
  obtain⟨r,L⟩:=kC (done.map (fun l=>[O.sl 11 (vI l)]));rw[L]at C;have hrl:r.length=done.length:=by rw[<-L];simp
  simp[b2,hlen];refine zP (fun i U Y Z=>U 2=.ref 0 0 0/\U 3=.ref 1 0 0/\U 35=v/\U 36=int done.length/\U 37=int i/\6<=Z/\Y 0=some ⟨215,1,false,[[.nil]]⟩/\Y 1=some ⟨30,1,false,[[int 0]]⟩ /\
    wD Y Z 243 1 v r/\∃o,Wa Y Z (U 8) o/\(∀s es,U 8≠.sl s es)/\QT o/\o.length<=i*500/\Kn done []=Kn (done.drop i) o) done.length
   ⟨by simp,by simp,by simp,by simp,by simp,z,f,d,C,[],.inr (.inl ⟨by simp,rfl⟩),by simp,(by intro s hs;cases hs),by simp,by simp⟩ ?_
  clear z f d b2 C hlen Y Z;rintro i U Y Z hi ⟨M,N,H,A,B,z,f,d,C,o,K,Q,SM,O6,hj⟩;by_cases hlt:i<done.length
  ·obtain⟨Up,I,rfl,E⟩:=C.at_ (by omega);obtain⟨l,hl⟩:=kC (done[i]);have hri:∀h:i<r.length,r[i]=[O.sl 11 (vI l)]:=fun h=>by
    have:r[i]?=some [O.sl 11 (vI l)]:=by rw[<-L,qn,zn hlt,hl];rfl
    rw[zn h]at this;injection this
   obtain⟨hgl,hll⟩:=zbC l (by rw[<-hl];exact zm hlt);rw[zd hlt,hl]at hj;simp only[Kn]at hj;have hev:∀(Y:Hp) (Z:Nat),qH [] (Kl KE) [] Y Z=some (.sl 11 (qD [jN yL]),Y,Z):=fun Y Z=>Ya _ Y Z
   have hwi:=qz i;have hel:(vI l).length=l.length:=by simp[vI]
   simp[M,N,H,A,B,hlt,hrl,E,hri,hev,hel];refine zP (fun k U Y Z=>U 2=.ref 0 0 0/\U 3=.ref 1 0 0/\U 35=.own Up 0 r.length/\U 36=int done.length/\U 37=int i/\6<=Z/\Y 0=some ⟨215,1,false,[[.nil]]⟩/\Y 1=some ⟨30,1,false,[[int 0]]⟩ /\
     wD Y Z 243 1 (.own Up 0 r.length) r/\Wa Y Z (U 8) o/\(∀s es,U 8≠.sl s es)/\U 42=.sl 11 (vI l)/\U 43=int l.length/\U 44=int k/\∃m,Wa Y Z (U 11) m/\QT m/\m.length<=k+1/\(∀id n n',U 8=.own id 0 n->U 11≠.own id 0 n')/\VA l [jN yL]=VA (l.drop k) m) l.length
    ⟨by simp[M],by simp[N],by simp[H,hrl],by simp[A],by simp[B],z,f,d,C,by simpa using K,by simpa using Q,by simp,by simp,by simp,[jN yL],.inl (by simp),(Wu xj).2,by simp,by simp,by simp⟩ ?_
   clear M N H A B z f d C K Q hi E I U Y Z;rintro k U Y Z hk ⟨M,N,H,A,B,z,f,d,C,K,Q,h42,h43,h44,m,hM,SN,hml,se,y⟩;by_cases W:k<l.length
   ·obtain⟨c,hc⟩:=kC (l[k]);have hcg:c.xe:=hgl c (by rw[<-hc];exact zm W);obtain⟨hs1,hs2⟩:=gT hcg;have J:∀h:k<(vI l).length,(vI l)[k]=c.V:=fun h=>by simp[vI,hc]
    have rZ:=fun Y Z=>Ml c Y Z hcg.ok
    have hwk:=qz k;rw[zd W,hc]at y;simp only[VA]at y;have n0:¬0=Z:=by omega
    have n1:¬1=Z:=by omega
    cases D:(ZB c).2
    ·rw[D]at y;simp only[zE,wE]at y;rw[y]at hj;simp only at hj;rw[hj]at b;simp only at b;simp only[Q0,vx.V]at rZ J;simp[M,N,H,A,B,h42,h43,h44,W,hel,J,rZ,D,f,d,n0,n1,AO,b,qD,qV,f153]
    ·rw[D]at y;simp only[qI]at y;have hM':Wa (ql Y Z (some ⟨250,11,false,[c.V]⟩)) (Z+1) (U 11) m:=hM.keep (by omega) fun id hid n e=>zk _ _ _ _ (by omega)
     obtain⟨x,Y',Z',F,hX,hnx',BE,X,hxs⟩:=oK and 186 (.inl ⟨rfl,rfl⟩) hM' (.inl rfl:Wa _ _ (.sl 11 (qD (ZB c).1)) (ZB c).1) (fun id n k e e2=>by cases e2) (SN.small (by unfold zw;omega)) (QT.small hs2 (by unfold zw;omega));have G:∀j,j<Z->(∀n,U 11≠.own j 0 n)->Y' j=Y j:=fun j hj q=>by rw[BE j (by omega) q (fun n e=>by cases e),zk _ _ _ _ (by omega)]
     have hlm:=XI and m (ZB c).1;obtain⟨idA2,I,R,E⟩:=C.at_ (by omega);injection R with R
     subst R;simp only[Q0,vx.V]at rZ J F;simp[M,N,H,A,B,h42,h43,h44,W,hel,J,rZ,D,F,hwk];exact⟨by omega,by omega,by rw[G 0 (by omega) (hM.box f (by decide))];exact f,by rw[G 1 (by omega) (hM.box d (by decide))];exact d,.inr ⟨Up,by omega,rfl,by rw[G Up I (hM.box E (by simp))];exact E⟩,K.keep (by omega) (fun id hid n e=>G id hid fun n'=>se id n n' e),Q,_,hX,Yi and SN hs2,by omega,fun id n n' e e2=>by have:=K.lt e;have:=X _ _ e2;omega,y⟩
   ·obtain rfl:k=l.length:=by omega
    rw[zp]at y;simp only[VA]at y;rw[y]at hj;simp only at hj;obtain⟨x,Y',Z',F,hX,hnx',BE,X,hxs⟩:=oK or 187 (.inr ⟨rfl,rfl⟩) K hM se (SM.small (by unfold zw;omega)) (SN.small (by unfold zw;omega));have hlm:=XI or o m;obtain⟨idA2,I,R,E⟩:=C.at_ (by omega);injection R with R
    subst R;simp[M,N,H,A,B,h42,h43,h44,F,hwi];exact⟨by omega,hrl,by omega,by rw[BE 0 (by omega) (K.box f (by decide)) (hM.box f (by decide))];exact f,by rw[BE 1 (by omega) (K.box d (by decide)) (hM.box d (by decide))];exact d,.inr ⟨Up,by omega,by rw[hrl],by rw[BE Up I (K.box E (by simp)) (hM.box E (by simp))];exact E⟩,_,hX,hxs,Yi or SM SN,by omega,hj⟩
  ·obtain rfl:i=done.length:=by omega
   rw[zp]at hj;simp only[Kn]at hj;rw[hj]at b;simp only at b;have S:=K.len;by_cases N7:(100:Int)<o.length
   ·rw[ze N7]at b;simp[M,N,A,B,S,N7,f,d,AO,b,qD,qV,f153]
   rw[zj N7]at b;simp[M,N,A,B,S,N7];obtain⟨w,hw8⟩:=kC (U 8);rw[hw8]at K Q;refine zP (fun j U Y Z=>U 2=.ref 0 0 0/\U 3=.ref 1 0 0/\U 8=w/\U 66=w/\U 67=int o.length/\U 68=int j/\6<=Z/\Y 0=some ⟨215,1,false,[[.nil]]⟩/\Y 1=some ⟨30,1,false,[[int 0]]⟩/\Wa Y Z w o) o.length
    ⟨by simp[M],by simp[N],by simp[hw8],by simp[hw8],by simp,by simp,z,f,d,K⟩ ?_
   clear M N H A B z f d C K hi hw8 U Y Z S;rintro j U Y Z SD ⟨M,N,h8,h66,h67,h68,z,f,d,K⟩;by_cases SO:j<o.length
   ·have hwj:=qz j;rcases K with rfl|⟨rfl,rfl⟩|⟨id,hid,rfl,hb⟩
    ·exact absurd rfl (Q _ _)
    ·simp at SO
    ·obtain⟨s,hs⟩:=kC (o[j]);have Uk:=SM s (by rw[<-hs];exact zm SO);have hel:(qD o).length=o.length:=by simp[qD]
     have J:∀h:j<(qD o).length,(qD o)[j]=s.V:=fun h=>by simp[qD,hs]
     have hset:(qD o).set j s.V=qD o:=by
      have h':j<(qD o).length:=by omega
      rw[<-J h'];exact List.set_getElem_self h'
     have hcp:∀Y Z,qH [.g vr] (FSt idS) [.agg s.V] Y Z=some (.agg s.V,Y,Z):=fun Y Z=>Gh idS s (.agg s.V) Y Z ⟨Uk.1.small,Uk.2.small⟩ (by simp[wG.V,Cut.V]) (by simp[wG.V,Cut.V]) (by simp[wG.V,Cut.V])
     have m1:¬id=Z:=by omega
     simp only[wG.V,Cut.V,q7,yW]at J hcp hset;have i0:¬0=id:=fun e=>by rw[<-e]at hb;rw[hb]at f;simp at f
     have i1:¬1=id:=fun e=>by rw[<-e]at hb;rw[hb]at d;simp at d
     have n0:¬0=Z:=by omega
     have n1:¬1=Z:=by omega
     simp[M,N,h8,h66,h67,h68,SO,hel,hb,J,hcp,m1,hwj,hset];exact⟨by omega,by omega,by simp[i0,n0,f],by simp[i1,n1,d],.inr (.inr ⟨id,by omega,by rw[hel],by simp⟩)⟩
   ·obtain rfl:j=o.length:=by omega
    rcases K with rfl|⟨rfl,rfl⟩|⟨id,hid,rfl,hb⟩
    ·exact absurd rfl (Q _ _)
    ·simp[M,N,h8,h66,h67,h68,f,d,AO,b,qV,qD,f153]
    ·have i0:¬id=0:=fun e=>by rw[e]at hb;rw[hb]at f;simp at f
     have i1:¬id=1:=fun e=>by rw[e]at hb;rw[hb]at d;simp at d
     have hfx:=dI o;simp only[Sh.IB,O.sl.injEq,true_and]at hfx;simp[M,N,h8,h66,h67,h68,f,d,hb,i0,i1,AO,b,qV,hfx,f153]
theorem YG:zf prog 153 (zg false [] (da AO)):=
 YF (fn:=f153) Rn (qW func153) false [] _ fun args r h w S vs a=>by obtain⟨l,rfl,Y,rfl⟩:=qd h;obtain⟨b,c,d⟩:=dM l Y;exact⟨_,b,a,by simp[f153],c,d⟩
def oL(op:Int):Bool:=vG op 2 6||op==12
def av(op:Int):Bool:=vG op 7 11
def ZG(op:Int):Bool:=vG op 3 6
noncomputable abbrev Cwi:Ctx:=zG prog [(52,zg false [] (F3 vG))]
theorem tL:AM.Good Cwi (fun g=>[52].contains g):=qc mixed ⟨ZR,fun _=>zr _ _,trivial⟩
def oM(f:Int->Bool):zb->Option O
 |[.v (.int .i64 a)]=>some (qO (f a))
 |_=>none
theorem bO{f:Int->Bool}{args:zb}{r:O}(h:oM f args=some r):∃a,args=[int a]/\r=qO (f a):=by
 unfold oM at h;split at h
 ·injection h with h;exact⟨_,rfl,h.symm⟩
 ·cases h
@[simp]theorem zaQ(f:Int->Bool)(a:Int)(Y:Hp)(Z:Nat):zg false [] (oM f) [.v (.int .i64 a)] Y Z=some (qO (f a),Y,Z):=wR rfl rfl (.inl rfl)
theorem oN:zf prog 195 (zg false [] (oM oL)):=
 yt (fn:=f195) tL (qW func195) false [] _ fun args r h=>by obtain⟨a,rfl,rfl⟩:=bO h;exact⟨by simp[f195],_,zl rfl (by simp[oL,f195]),qa _⟩
theorem aw:zf prog 168 (zg false [] (oM av)):=
 yt (fn:=f168) tL (qW func168) false [] _ fun args r h=>by obtain⟨a,rfl,rfl⟩:=bO h;exact⟨by simp[f168],_,zl rfl (by simp[av,f168]),qa _⟩
theorem Jk:zf prog 106 (zg false [] (oM ZG)):=
 yt (fn:=f106) tL (qW func106) false [] _ fun args r h=>by obtain⟨a,rfl,rfl⟩:=bO h;exact⟨by simp[f106],_,zl rfl (by simp[ZG,f106]),qa _⟩
noncomputable abbrev Cms (n:Nat):Ctx:=zG prog [(134,zg false [] (FC (fun c=>.q8 [int c.parts,int c.levels]) n))]
theorem lQ(n:Nat)(c:qT)(h:c.cb<=zw/\c.cb<=n+1):zt (Cms n) f134 [.agg c.V]=some (.q8 [int c.parts,int c.levels]):=by
 have q:=gN c;have r:=Xy c;have s:=Kj c;have f:=dn c;have t:=tm c;have u:=xV c.args;obtain⟨v,B⟩:=h;unfold zw at v;refine zl rfl ?_;simp;refine zP (fun k U Y Z=>U 9=.sl 7 (c.args.map qT.V)/\U 10=int c.args.length/\U 11=int k/\U 2=int ((1+jo (c.args.take k):Nat):Int)/\U 3=int (yT (c.args.take k))) c.args.length
  ⟨by simp,by simp,by simp,by simp[jo],by simp[yT]⟩ ?_
 rintro k U Y Z C ⟨l,d,e,g,i⟩;by_cases a:k<c.args.length
 ·obtain⟨m,w⟩:=zaM a;have D:=W8 (zm a);have y:=qz k;have o:=gO c.args k;have j:=gO c.args (k+1);have z:=dp c.args fun x E=>gN x
  have b:=fun Y Z=>bK (fun c=>.q8 [int c.parts,int c.levels]) n c.args[k] Y Z ⟨by unfold zw;omega,by omega⟩
  have p:i6.wrap (((1+jo (c.args.take k):Nat):Int)+c.args[k].parts)=((1+jo (c.args.take (k+1)):Nat):Int):=by rw[qE (by omega) (by omega),m];omega
  have A:(if(yT (c.args.take k))<c.args[k].levels then(c.args[k].levels:Int)else yT (c.args.take k))=(yT (c.args.take (k+1)):Int):=by rw[w];split<;>omega
  simp[g,i,l,d,e,a,b,y];exact⟨by omega,by rw[qE (by omega) (by omega),m];omega,A⟩
 ·obtain rfl:k=c.args.length:=by omega
  rw[ja]at g i;have p:i6.wrap ((yT c.args:Int)+1)=(c.levels:Int):=by rw[qE (by omega) (by omega),f];omega
  simp[g,i,l,d,e,p,qU,f134];omega
theorem fK:∀n,zf prog 134 (zg false [] (FC (fun c=>.q8 [int c.parts,int c.levels]) n)):=by
 intro n
 induction n with
 |zero=>exact AD ⟨_,func134,by kernel_rfl,by kernel_rfl⟩
 |succ n a=>
  have b:Gd (Cms n):=zM mixed ⟨a,trivial⟩;exact yt (fn:=f134) b (qW func134) false [] _ fun args r h=>by obtain⟨c,rfl,d,rfl⟩:=dt h;exact⟨zA (zi 1) (by decide),_,lQ n c d,qa _⟩
def w1F(c:qT):Bool:=!(c.kind==4)&&(!c.attr.isEmpty||c.op != 0||decide (0<c.kc.length)||!c.pat.isEmpty)
def w2F(c:qT):Bool:=c.kind != 5&&!c.name.isEmpty
def w3F(c:qT):Bool:=!vG c.kind 1 3&&decide (0<c.args.length)
def w4F(c:qT):Bool:=c.kind==4&&!oL c.op&&decide (0<c.kc.length)
def w5F(c:qT):Bool:=c.kind==4&&!av c.op&&!c.pat.isEmpty
def w6F(c:qT):Bool:=c.kind==3&&(c.args.length:Int) != 1
def w7F(c:qT):Bool:=c.kind==4&&ZG c.op&&(c.kc.length:Int) != 1
def Qg(c:qT):Bool:=w1F c||w2F c||w3F c||w4F c||w5F c||w6F c||w7F c
noncomputable abbrev Cfo:Ctx:=zG prog [(52,zg false [] (F3 vG)),(195,zg false [] (oM oL)),(168,zg false [] (oM av)),(106,zg false [] (oM ZG))]
theorem Ro:AM.Good Cfo (fun g=>[52,195,168,106].contains g):=qc mixed ⟨ZR,fun _=>zr _ _,oN,fun _=>zr _ _,aw,fun _=>zr _ _,Jk,fun _=>zr _ _,trivial⟩
@[simp]theorem zaR:jJ Cfo 195:=yA (by rfl) (zr _ _)
@[simp]theorem zaS:jJ Cfo 168:=yA (by rfl) (zr _ _)
@[simp]theorem zaT:jJ Cfo 106:=yA (by rfl) (zr _ _)
theorem dN(c:qT)(h:c.cb<=zw):zt Cfo f166 [.agg c.V]=some (int (if Qg c=true then 3 else 0)):=by
 refine zl rfl ?_;have a:(!(c.kind==4)&&(!c.attr.isEmpty||c.op != 0||decide (0<c.kc.length)||!c.pat.isEmpty))=w1F c:=rfl;have d:(c.kind != 5&&!c.name.isEmpty)=w2F c:=rfl;have f:(!vG c.kind 1 3&&decide (0<c.args.length))=w3F c:=rfl;have i:(c.kind==4&&!oL c.op&&decide (0<c.kc.length))=w4F c:=rfl;have k:(c.kind==4&&!av c.op&&!c.pat.isEmpty)=w5F c:=rfl;have m:(c.kind==3&&(c.args.length:Int) != 1)=w6F c:=rfl;have o:(c.kind==4&&ZG c.op&&(c.kc.length:Int) != 1)=w7F c:=rfl;cases b:w1F c
 case true=>simp[a,b,Qg,f166]
 cases e:w2F c
 case true=>simp[a,b,d,e,Qg,f166]
 cases g:w3F c
 case true=>simp[a,b,d,e,f,g,Qg,f166]
 cases j:w4F c
 case true=>simp[a,b,d,e,f,g,i,j,Qg,f166]
 cases l:w5F c
 case true=>simp[a,b,d,e,f,g,i,j,k,l,Qg,f166]
 cases n:w6F c
 case true=>simp[a,b,d,e,f,g,i,j,k,l,m,n,Qg,f166]
 cases p:w7F c
 case true=>simp[a,b,d,e,f,g,i,j,k,l,m,n,o,p,Qg,f166]
 simp[a,b,d,e,f,g,i,j,k,l,m,n,o,p,Qg,f166]
theorem bg:zf prog 166 (GC fun c=>int (if Qg c=true then 3 else 0)):=
 yt (fn:=f166) Ro (qW func166) false [] _ fun args r h=>by obtain⟨c,rfl,a,rfl⟩:=dt h;exact⟨by simp[f166],_,dN c a.1,qa _⟩
noncomputable def lR (p:Option qp) (v:qp):Bool:=match p with
 |none=>false
 |some p=>decide (0<=yH p v)
def Gp(op:Int)(v:qp):Bool:=v.kind==0||ZG op&&v.kind != 2
noncomputable def tM (op:Int):Option qp->List qp->Int
 |_,[]=>0
 |p,v::l=>if v.check=0 then(if Gp op v=true then 6 else if lR p v=true then 8 else tM op (some v) l)else v.check
noncomputable def Jl (op:Int) (l:List qp):Int:=if(100:Int)<l.length then 2 else tM op none l
def ax(l:List qp)(k:Nat):Option qp:=if k=0 then none else l[k-1]?
noncomputable def FIv (f:Int->List qp->O):zb->Option O:=zS (α:=Int×List qp) (fun a=>[int a.1,.sl 5 (a.2.map qp.V)]) (fun a=>Ju a.2<=zw) (fun a=>f a.1 a.2)
theorem Gq(f:Int->List qp->O)(op:Int)(l:List qp)(Y:Hp)(Z:Nat)(h:Ju l<=zw):zg false [] (FIv f) [int op,.sl 5 (l.map qp.V)] Y Z=some (f op l,Y,Z):=
 Zc (op,l) _ _ (by simp) (fun x y e=>by obtain⟨c,d⟩:=x;obtain⟨g,i⟩:=y;simp only[zc,zs]at e;obtain⟨b,a⟩:=e;injection a with _ a;rw[zT b,Xw a]) h (.inr (by simp))
noncomputable abbrev Rp:Ctx:=zG prog [(31,GV fun v=>int v.check),(106,zg false [] (oM ZG)),(146,zg false [] (P7 zw))]
theorem Mm:AM.Good Rp (fun g=>[106,146].contains g):=qc mixed ⟨ak,by simp,Jk,fun _=>zr _ _,Jf zw,fun _=>zr _ _,trivial⟩
@[simp]theorem T2:jJ Rp 106:=yA (by rfl) (zr _ _)
theorem XM(op:Int)(l:List qp)(h:Ju l<=zw):zt Rp f167 [int op,.sl 5 (l.map qp.V)]=some (int (Jl op l)):=by
 have A:=ve l;unfold zw at h;refine zl rfl ?_;by_cases c:(100:Int)<l.length
 ·have x:Jl op l=2:=by unfold Jl;rw[ze c]
  simp[c,x,f167]
 have x:Jl op l=tM op none l:=by unfold Jl;rw[zj c]
 rw[x];simp[c];refine zP (fun k U Y Z=>U 0=int op/\U 1=.sl 5 (l.map qp.V)/\U 11=.sl 5 (l.map qp.V)/\U 12=int l.length/\U 13=int k/\tM op none l=tM op (ax l k) (l.drop k)) l.length
  ⟨by simp,by simp,by simp,by simp,by simp,by simp[ax]⟩ ?_
 rintro k U Y Z L ⟨p,q,d,e,f,a⟩;by_cases b:k<l.length
 ·have M:=Zd (zm b);have B:=qz k;have i:=fun Y Z=>Vh (fun v=>int v.check) l[k] Y Z (by unfold zw;omega)
  rw[zd b]at a;simp only[tM]at a;have r:ax l (k+1)=some l[k]:=by simp[ax,b]
  have m:(l[k].kind==0||ZG op&&l[k].kind != 2)=Gp op l[k]:=rfl;by_cases n:l[k].check=0
  case neg=>rw[zj n]at a;have y:=xE n;simp[p,q,d,e,f,b,i,y,a,f167]
  rw[ze n]at a;cases g:Gp op l[k]
  case true=>rw[g,ze rfl]at a;simp[p,q,d,e,f,b,i,n,m,g,a,f167]
  rw[g,zj (by simp)]at a;by_cases H:k=0
  ·subst H;have I:lR (ax l 0) l[0]=false:=rfl;rw[I,zj (by simp)]at a;simp[p,q,d,e,f,b,i,n,m,g,B];exact⟨by omega,by rw[a,show ax l 1=some l[0]from r];simp⟩
  ·obtain⟨j,rfl⟩:∃j,k=j+1:=⟨k-1,by omega⟩;have u:j<l.length:=by omega
   have J:=Zd (zm u);have C:i6.wrap ((j:Int)+1-1)=(j:Int):=by rw[qE (by omega) (by omega)];omega
   have s:=wo (j:Int);have D:((j:Int)+1).toNat=j+1:=by omega
   have E:0<(j:Int)+1:=by omega
   have F:0<=(j:Int)+1:=by omega
   have G:(j:Int)+1<l.length:=by omega
   have t:=fun Y Z=>Vk zw l[j] l[j+1] Y Z ⟨by unfold zw;omega,by unfold zw;omega,by unfold zw;omega⟩
   have z:lR (ax l (j+1)) l[j+1]=decide (0<=yH l[j] l[j+1]):=by simp[ax,u,lR]
   rw[z]at a;by_cases w:0<=yH l[j] l[j+1]
   ·have o:decide (0<=yH l[j] l[j+1])=true:=by simpa using w
    rw[ze o]at a;simp[p,q,d,e,f,b,u,i,n,m,g,B,C,s,D,E,F,G,t,w,a,f167]
   ·have o:¬decide (0<=yH l[j] l[j+1])=true:=by simpa using w
    rw[zj o]at a;have K:=wo ((j:Int)+1+1);simp[p,q,d,e,f,b,u,i,n,m,g,K,C,s,D,E,F,G,t,w];exact⟨by omega,by rw[a,r]⟩
 ·obtain rfl:k=l.length:=by omega
  rw[zp]at a;simp only[tM]at a;simp[p,q,d,e,f,a,f167]
theorem VC:zf prog 167 (zg false [] (FIv fun op l=>int (Jl op l))):=
 kL Mm func167 false [] fun⟨op,l⟩ a=>⟨by simp[f167],_,XM op l a,qa _⟩
noncomputable def fL (op:Int) (s:za):Int:=if(500:Int)<s.length then 2 else if yv 32 126 s=true then(if op=11 then(vP s).2 else 0)else 1
noncomputable def FIs (f:Int->za->O):zb->Option O:=zS (α:=Int×za) (fun a=>[int a.1,str a.2]) (fun a=>a.2.length<=zw) (fun a=>f a.1 a.2)
theorem Gr(f:Int->za->O)(op:Int)(s:za)(Y:Hp)(Z:Nat)(h:s.length<=zw):zg false [] (FIs f) [int op,str s] Y Z=some (f op s,Y,Z):=
 Zc (op,s) _ _ rfl (fun x y e=>by obtain⟨a,b⟩:=x;obtain⟨c,d⟩:=y;simp only[zc,zs]at e;rw[zT e.1,qv e.2]) h (.inr (by simp))
noncomputable abbrev Cpt:Ctx:=zG prog [(153,zg false [] (da AO))]
theorem Rq:Gd Cpt:=zM mixed ⟨YG,trivial⟩
theorem VD(op:Int)(s:za)(h:s.length<=zw):zt Cpt f169 [int op,str s]=some (int (fL op s)):=by
 unfold zw at h;refine zl rfl ?_;by_cases a:(500:Int)<s.length
 ·have b:fL op s=2:=by unfold fL;rw[ze a]
  simp[a,b,f169]
 have i:=fun Y Z=>Z2 AO s Y Z (by unfold zw;omega)
 simp only[AO]at i;have b:fL op s=if yv 32 126 s=true then(if op=11 then(vP s).2 else 0)else 1:=by unfold fL;rw[zj a]
 simp[a];refine zP (fun k U Y Z=>U 0=int op/\U 1=str s/\U 12=int s.length/\U 13=int k/\yv 32 126 s=yv 32 126 (s.drop k)) s.length ⟨by simp,by simp,by simp,by simp,by simp⟩ ?_;rintro k U Y Z q ⟨l,m,c,d,g⟩;by_cases e:k<s.length
 ·have p:=qz k;rw[WY e]at g;have o:=lp 32 126 s[k];simp only[rW]at o;cases n:pr 32 126 s[k]
  ·have g:yv 32 126 s=false:=by rw[g,n];rfl
   rw[g,zj (by simp)]at b;simp[l,m,c,d,e,b,o,n,f169]
  ·simp[l,m,c,d,e,o,n,p];exact⟨e,by rw[g,n];rfl⟩
 ·obtain rfl:k=s.length:=by omega
  have g:yv 32 126 s=true:=by rw[g,zp];rfl
  rw[g,ze rfl]at b;by_cases f:op=11
  ·rw[ze f]at b;subst f;simp[l,m,c,d,i,b,f169]
  ·rw[zj f]at b;have j:=jr f;simp[l,m,c,d,j,b,f169]
theorem KI:zf prog 169 (zg false [] (FIs fun op s=>int (fL op s))):=
 kL Rq func169 false [] fun⟨op,s⟩ a=>⟨by simp[f169],_,VD op s a,qa _⟩
def AP(c:qT):Bool:=!vG c.kind 1 5
def opC(c:qT):Bool:=c.kind==4&&!vG c.op 1 12
def Gs(c:qT):Bool:=(c.kind==4&&!qK c.attr)||(c.kind==5&&!qK c.name)
def Rr(c:qT):Bool:=c.kind==4&&av c.op
noncomputable def ZH (c:qT):Int:=if(AP c||opC c)=true then 4 else if Qg c=true then 3 else if Gs c=true then 5 else if Jl c.op c.kc=0 then(if Rr c=true then fL c.op c.pat else 0)else Jl c.op c.kc
mutual
noncomputable def qT.fault:qT->Int
 | .mk k a o v p n l=>if ZH (.mk k a o v p n l)=0 then xf l else ZH (.mk k a o v p n l)
noncomputable def xf:List qT->Int
 |[]=>0
 |c::l=>if c.fault=0 then xf l else c.fault
end
theorem gU(c:qT):c.fault=if ZH c=0 then xf c.args else ZH c:=by cases c;simp only[qT.fault];rfl
theorem ay{l:List qT}{k:Nat}(h:k<l.length):xf (l.drop k)=if l[k].fault=0 then xf (l.drop (k+1))else l[k].fault:=by rw[zd h,xf]
noncomputable abbrev Gt (n:Nat):Ctx:=zG prog [(135,zg false [] (FC (fun c=>int c.fault) n)),(52,zg false [] (F3 vG)),(166,GC fun c=>int (if Qg c=true then 3 else 0)),(30,zg false [] (FS qK)),
 (167,zg false [] (FIv fun op l=>int (Jl op l))),(168,zg false [] (oM av)),(169,zg false [] (FIs fun op s=>int (fL op s)))]
@[simp]theorem T3(n:Nat):jJ (Gt n) 52:=yA (by rfl) (zr _ _)
@[simp]theorem T4(n:Nat):jJ (Gt n) 30:=yA (by rfl) (zr _ _)
@[simp]theorem T5(n:Nat):jJ (Gt n) 168:=yA (by rfl) (zr _ _)
theorem bh(n:Nat)(c:qT)(h:c.cb<=zw/\c.cb<=n+1):zt (Gt n) f135 [.agg c.V]=some (int c.fault):=by
 have M:=Kj c;have N:=xV c.args;obtain⟨L,R⟩:=h;have x:=gU c;have i:=fun Y Z=>JI (fun c=>int (if Qg c=true then 3 else 0)) c Y Z L
 have r:=fun Y Z=>Gq (fun op l=>int (Jl op l)) c.op c.kc Y Z (by omega)
 have D:=fun Y Z=>Gr (fun op s=>int (fL op s)) c.op c.pat Y Z (by omega)
 have j:c.attr.length<=zw:=by omega
 have m:c.name.length<=zw:=by omega
 unfold zw at L;refine zl rfl ?_;have v:(!vG c.kind 1 5)=AP c:=rfl;have y:(c.kind==4&&!vG c.op 1 12)=opC c:=rfl;have E:((c.kind==4&&!qK c.attr)||(c.kind==5&&!qK c.name))=Gs c:=rfl;have H:(c.kind==4&&av c.op)=Rr c:=rfl;cases q:AP c
 case true=>simp[v,q,x,ZH,f135]
 cases t:opC c
 case true=>simp[v,q,y,t,x,ZH,f135]
 cases w:Qg c
 case true=>simp[v,q,y,t,i,w,x,ZH,f135]
 cases z:Gs c
 case true=>simp[v,q,y,t,i,w,j,m,E,z,x,ZH,f135]
 by_cases A:Jl c.op c.kc=0
 case neg=>have I:=xE A;simp[v,q,y,t,i,w,j,m,E,z,r,A,I,x,ZH,f135]
 have o:∀(C:ZH c=0),c.fault=xf c.args:=fun C=>by rw[x,ze C]
 cases F:Rr c
 case false=>
  have C:ZH c=0:=by simp[ZH,q,t,w,z,A,F]
  have p:=o C;simp[v,q,y,t,i,w,j,m,E,z,r,A,H,F];refine zP (fun k U Y Z=>U 73=.sl 7 (c.args.map qT.V)/\U 74=int c.args.length/\U 75=int k/\xf c.args=xf (c.args.drop k)) c.args.length ⟨by simp,by simp,by simp,by simp⟩ ?_;rintro k U Y Z P ⟨e,f,g,b⟩;by_cases d:k<c.args.length
  ·have Q:=W8 (zm d);have J:=qz k;have a:=fun Y Z=>bK (fun c=>int c.fault) n c.args[k] Y Z ⟨by unfold zw;omega,by omega⟩
   rw[ay d]at b;by_cases u:c.args[k].fault=0
   ·rw[ze u]at b;simp[e,f,g,d,a,u,J];exact⟨by omega,b⟩
   ·rw[zj u]at b;have B:=xE u;simp[e,f,g,d,a,B,p,b,f135]
  ·obtain rfl:k=c.args.length:=by omega
   rw[zp]at b;have b:xf c.args=0:=by rw[b];rfl
   simp[e,f,g,p,b,f135]
 case true=>
  by_cases G:fL c.op c.pat=0
  case neg=>have K:=xE G;simp[v,q,y,t,i,w,j,m,E,z,r,A,H,F,D,G,K,x,ZH,f135]
  have C:ZH c=0:=by simp[ZH,q,t,w,z,A,F,G]
  have p:=o C;simp[v,q,y,t,i,w,j,m,E,z,r,A,H,F,D,G];refine zP (fun k U Y Z=>U 73=.sl 7 (c.args.map qT.V)/\U 74=int c.args.length/\U 75=int k/\xf c.args=xf (c.args.drop k)) c.args.length ⟨by simp,by simp,by simp,by simp⟩ ?_;rintro k U Y Z P ⟨e,f,g,b⟩;by_cases d:k<c.args.length
  ·have Q:=W8 (zm d);have J:=qz k;have a:=fun Y Z=>bK (fun c=>int c.fault) n c.args[k] Y Z ⟨by unfold zw;omega,by omega⟩
   rw[ay d]at b;by_cases u:c.args[k].fault=0
   ·rw[ze u]at b;simp[e,f,g,d,a,u,J];exact⟨by omega,b⟩
   ·rw[zj u]at b;have B:=xE u;simp[e,f,g,d,a,B,p,b,f135]
  ·obtain rfl:k=c.args.length:=by omega
   rw[zp]at b;have b:xf c.args=0:=by rw[b];rfl
   simp[e,f,g,p,b,f135]
theorem XN:∀n,zf prog 135 (zg false [] (FC (fun c=>int c.fault) n)):=by
 intro n
 induction n with
 |zero=>exact AD ⟨_,func135,by kernel_rfl,by kernel_rfl⟩
 |succ n a=>
  have b:AM.Good (Gt n) (fun g=>[52,30,168].contains g):=qc mixed ⟨a,by simp,ZR,fun _=>zr _ _,bg,by simp,jK,fun _=>zr _ _,VC,by simp,aw,fun _=>zr _ _,KI,by simp,trivial⟩;exact yt (fn:=f135) b (qW func135) false [] _ fun args r h=>by obtain⟨c,rfl,d,rfl⟩:=dt h;exact⟨zA (zi 1) (by decide),_,bh n c d,qa _⟩
noncomputable def qT.check (c:qT):Int:=if(decide ((200:Int)<c.parts)||decide ((20:Int)<c.levels))=true then 2 else c.fault
noncomputable abbrev Ccch:Ctx:=zG prog [(135,GC fun c=>int c.fault),(134,GC fun c=>.q8 [int c.parts,int c.levels])]
theorem Yj:zf prog 79 (GC fun c=>int c.check):=
 yt (fn:=f79) (zM mixed ⟨XN zw,fK zw,trivial⟩:AM.Good Ccch _) (qW func79) false [] _ fun args r h=>by
  obtain⟨c,rfl,a,rfl⟩:=dt h;have b:=fun Y Z=>JI (fun c=>int c.fault) c Y Z a.1
  have d:=fun Y Z=>JI (fun c=>.q8 [int c.parts,int c.levels]) c Y Z a.1
  refine⟨by simp[f79],_,zl rfl ?_,qa _⟩;cases e:(decide ((200:Int)<c.parts)||decide ((20:Int)<c.levels))
  ·simp[b,d,e,f79,qT.check]
  ·simp[b,d,e,f79,qT.check]
structure XS (v:qp) (o3 o4:O) (Y:Hp) (Z:Nat):Prop where
 b0:Y 0=some ⟨94,5,false,[[int v.kind,int v.n,str v.s,o3,o4]]⟩
 b1:Y 1=some ⟨94,5,false,[[int 0,int 0,.v (.string ⟨#[]⟩),.nil,.nil]]⟩
 s3:wD Y Z 94 5 o3 (v.items.map qp.V)
 s4:wD Y Z 168 6 o4 (v.fields.map wS)
 d3:∀id m,id<2->o3≠.own id 0 m
 d4:∀id m,id<2->o4≠.own id 0 m
 d:∀id m m',o3=.own id 0 m->o4≠.own id 0 m'
 Lg:2<=Z
structure qf where
 key:List UInt8
 attrs:List (List UInt8×qp)
def qf.V(x:qf):zb:=[str x.key,.sl 6 (x.attrs.map wS)]
def qf.cb(x:qf):Nat:=x.key.length+V8 x.attrs
theorem XO(x:qf):x.cb=x.key.length+V8 x.attrs:=rfl
theorem dO{a b:za×qp}(h:wS a=wS b):a=b:=by simp only[wS,zc]at h;exact Prod.ext (qv h.1) (ZS h.2)
theorem dP{a b:qf}(h:a.V=b.V):a=b:=by obtain⟨k,l⟩:=a;obtain⟨e,l'⟩:=b;simp only[qf.V,zc,zs]at h;obtain⟨d,c⟩:=h;injection c with _ c;rw[qv d,yF (fun _ _=>dO) c]
def AQ(a:za):Bool:=!qK a||a==[107,101,121]
def Jm:Option za->List (za×qp)->Int
 |_,[]=>0
 |p,(a,v)::l=>if AQ a then 5 else if vH p a then 8 else if v.check=0 then(if v.kind=0 then 6 else Jm (some a) l)else v.check
theorem oO{l:List (za×qp)}{k:Nat}(h:k<l.length)(p:Option za):Jm p (l.drop k)=if AQ l[k].1 then 5 else if vH p l[k].1 then 8 else if l[k].2.check=0 then(if l[k].2.kind=0 then 6 else Jm (some l[k].1) (l.drop (k+1)))else l[k].2.check:=by rw[zd h,Jm]
def qf.fault(x:qf):Int:=if kM x.key then(if(50:Int)<x.attrs.length then 2 else Jm none x.attrs)else 3
noncomputable def FX (out:qf->O):zb->Option O:=zS (α:=qf) (fun x=>[.agg x.V]) (fun x=>x.cb<=zw) out
theorem az(Y:Hp)(x:qf):qe Y (.agg x.V)=some (.agg x.V,Y):=by simp[qf.V]
theorem dQ(x:qf):O.noOwn (.agg x.V)=true:=by simp[qf.V]
theorem Mn(out:qf->O)(x:qf)(Y:Hp)(Z:Nat)(h:x.cb<=zw):zg false [] (FX out) [.agg x.V] Y Z=some (out x,Y,Z):=
 wR (Y1:=Y) (show zy Y [.agg x.V]=some ([.agg x.V],Y) by simp only[zy,az])
  (qx (V:=fun x:qf=>[O.agg x.V]) (a:=x) (fun a b e=>by simp only[zc,zs,O.agg.injEq]at e;exact dP e) h) (.inr (by simp only[wJ,dQ,mQ,Bool.and_self]))
noncomputable abbrev Ccc:Ctx:=zG prog [(29,zg false [] (FS kM)),(30,zg false [] (FS qK)),(31,GV fun v=>int v.check)]
theorem fM(x:qf)(h:x.cb<=zw):zt Ccc f17 [.agg x.V]=some (int x.fault):=by
 have I:=XO x;have J:=vZ x.attrs;have p:x.key.length<=zw:=by omega
 unfold zw at h;refine zl rfl ?_;rw[qf.fault];cases F:kM x.key
 ·simp[qf.V,p,F,f17]
 by_cases H:(50:Int)<x.attrs.length
 ·simp[qf.V,p,F,H,f17]
 simp[qf.V,p,F,H];refine zP (fun k U Y Z=>U 1=.ref 0 0 0/\U 15=.sl 6 (x.attrs.map wS)/\U 16=int x.attrs.length/\U 17=int k/\1<=Z/\Y 0=some ⟨37,2,false,[[str x.key,.sl 6 (x.attrs.map wS)]]⟩/\Jm none x.attrs=Jm (xr x.attrs k) (x.attrs.drop k)) x.attrs.length
  ⟨by simp,by simp,by simp,by simp,by simp,by simp,by simp[xr]⟩ ?_
 rintro k U Y Z P ⟨m,d,e,f,K,s,b⟩;have t:¬0=Z:=by omega
 by_cases c:k<x.attrs.length
 ·have Q:=W6 (zm c);have R:=qz k;have i:x.attrs[k].1.length<=zw:=by unfold zw;omega
  have a:=fun Y Z=>Vh (fun v=>int v.check) x.attrs[k].2 Y Z (by unfold zw;omega)
  have en:(!qK x.attrs[k].1||x.attrs[k].1==[107,101,121])=AQ x.attrs[k].1:=rfl;rw[oO c]at b;cases n:AQ x.attrs[k].1
  case true=>simp[m,d,e,f,c,i,en,n,b,f17]
  have w:xr x.attrs (k+1)=some x.attrs[k].1:=by simp[xr,c]
  simp only[n,zE,wE]at b;by_cases L:k=0
  ·subst L;simp only[xr,vH,qI,zE,wE]at b;by_cases l:x.attrs[0].2.check=0
   ·rw[ze l]at b;by_cases g:x.attrs[0].2.kind=0
    ·rw[ze g]at b;simp[m,d,e,f,c,i,en,n,a,l,g,b,f17]
    ·rw[zj g]at b;have q:=jr g;have M:=wo 1;simp[m,d,e,f,c,i,en,n,a,l,q,M]
     and_intros<;>first|omega|(rw[b];rw[w];simp;done)|simp[t,s]
   ·rw[zj l]at b;have r:=xE l;simp[m,d,e,f,c,i,en,n,a,r,b,f17]
  ·obtain⟨j,rfl⟩:∃j,k=j+1:=⟨k-1,by omega⟩;have y:j<x.attrs.length:=by omega
   have z:i6.wrap ((j:Int)+1-1)=(j:Int):=by rw[qE (by omega) (by omega)];omega
   have o:=wo (j:Int);have A:((j:Int)+1).toNat=j+1:=by omega
   have B:0<(j:Int)+1:=by omega
   have C:0<=(j:Int)+1:=by omega
   have D:(j:Int)+1<x.attrs.length:=by omega
   have N:=wo ((j:Int)+1+1);have E:(Op.bytesLess x.attrs[j+1].1 x.attrs[j].1||x.attrs[j+1].1==x.attrs[j].1)=fC x.attrs[j+1].1 x.attrs[j].1:=rfl;have G:xr x.attrs (j+1)=some x.attrs[j].1:=by simp[xr,y]
   simp only[G,vH]at b;cases u:fC x.attrs[j+1].1 x.attrs[j].1
   case true=>simp only[u,qI]at b;simp[m,d,e,f,c,y,i,en,n,a,s,t,z,o,A,B,C,D,E,u,b,f17]
   simp only[u,zE,wE]at b;by_cases l:x.attrs[j+1].2.check=0
   ·rw[ze l]at b;by_cases g:x.attrs[j+1].2.kind=0
    ·rw[ze g]at b;simp[m,d,e,f,c,y,i,en,n,a,s,t,z,o,A,B,C,D,E,u,l,g,b,f17]
    ·rw[zj g]at b;have q:=jr g;simp[m,d,e,f,c,y,i,en,n,a,s,t,z,o,A,B,C,D,E,u,l,q,N]
     and_intros<;>first|omega|(rw[b];rw[w])|simp[t,s]
   ·rw[zj l]at b;have r:=xE l;simp[m,d,e,f,c,y,i,en,n,a,s,t,z,o,A,B,C,D,E,u,r,b,f17]
 ·obtain rfl:k=x.attrs.length:=by omega
  rw[zp]at b;have b:Jm none x.attrs=0:=by rw[b];rfl
  simp[m,d,e,f,b,f17]
theorem dR:zf prog 17 (zg false [] (FX fun x=>int x.fault)):=
 kL (zM mixed ⟨QG,jK,ak,trivial⟩:AM.Good Ccc _) func17 false [] fun x a=>⟨zA (zi 1) (by decide),_,fM x a,qa _⟩
theorem tN(a b:UInt8):a<b\/a=b\/b<a:=by
 rcases Nat.lt_trichotomy a.toNat b.toNat with h|h|h
 ·exact .inl (kq.2 h)
 ·exact .inr (.inl (O0.1 h))
 ·exact .inr (.inr (kq.2 h))
theorem dS(a:UInt8):¬a<a:=fun h=>Nat.lt_irrefl _ (kq.1 h)
theorem oP{a b:UInt8}(h:a<b):¬b<a:=fun c=>Nat.lt_asymm (kq.1 h) (kq.1 c)
theorem Gu{a b c:UInt8}(h:a<b)(d:b<c):a<c:=kq.2 (Nat.lt_trans (kq.1 h) (kq.1 d))
theorem VE:∀a b:za,wX a b<0↔Op.bytesLess a b=true
 |[],[]=>by simp[wX,Lib.compareBytes,Op.bytesLess]
 |[],_::_=>by simp[wX,Lib.compareBytes,Op.bytesLess]
 |_::_,[]=>by simp[wX,Lib.compareBytes,Op.bytesLess]
 |a::x,b::y=>by
  have d:=VE x y;unfold wX at d⊢;rcases tN a b with h|rfl|h
  ·simp[Lib.compareBytes,Op.bytesLess,h]
  ·simp[Lib.compareBytes,Op.bytesLess,dS,d]
  ·have c:¬a=b:=fun e=>dS b (e ▸ h)
   simp[Lib.compareBytes,Op.bytesLess,h,oP h,c]
theorem xX:∀a b:za,wX a b=0↔a=b
 |[],[]=>by simp[wX,Lib.compareBytes]
 |[],_::_=>by simp[wX,Lib.compareBytes]
 |_::_,[]=>by simp[wX,Lib.compareBytes]
 |a::x,b::y=>by
  have d:=xX x y;unfold wX at d⊢;rcases tN a b with h|rfl|h
  ·have c:¬a=b:=fun e=>dS b (e ▸ h)
   simp[Lib.compareBytes,h,c]
  ·simp[Lib.compareBytes,dS,d]
  ·have c:¬a=b:=fun e=>dS b (e ▸ h)
   simp[Lib.compareBytes,h,oP h,c]
theorem xY:∀{a b c:za},Op.bytesLess a b=true->Op.bytesLess b c=true->Op.bytesLess a c=true
 |_,[],_,h,_=>by simp[Op.bytesLess]at h
 |_,_::_,[],_,h=>by simp[Op.bytesLess]at h
 |[],_::_,_::_,_,_=>by simp[Op.bytesLess]
 |a::x,b::y,c::z,e,d=>by
  simp only[Op.bytesLess,qR,qG,zx,jh]at e d⊢;rcases e with e|⟨rfl,e⟩
  ·rcases d with d|⟨rfl,d⟩
   ·exact .inl (Gu e d)
   ·exact .inl e
  ·rcases d with d|⟨rfl,d⟩
   ·exact .inl d
   ·exact .inr ⟨rfl,xY e d⟩
theorem xx:∀{a b:za},fC a b=false->Op.bytesLess b a=true
 |[],[],h=>by simp[fC]at h
 |[],_::_,h=>by simp[fC,Op.bytesLess]at h
 |_::_,[],_=>by simp[Op.bytesLess]
 |a::x,b::y,h=>by
  simp only[fC,Op.bytesLess,Bool.or_eq_false_iff,decide_eq_false_iff_not,Bool.and_eq_false_iff,yC]at h;obtain⟨⟨d,c⟩,f⟩:=h;simp only[Op.bytesLess,qR,qG,zx,jh];rcases tN a b with g|rfl|g
  ·exact absurd g d
  ·refine .inr ⟨rfl,xx ?_⟩;rcases c with c|c
   ·exact absurd rfl c
   ·have:¬x=y:=fun e=>f (by rw[e])
    simp[fC,c,this]
  ·exact .inl g
def jg(f:Nat->Bool)(lo a:Nat):Nat:=if h:lo<a then(if f ((lo+a)/2)then jg f ((lo+a)/2+1) a else jg f lo ((lo+a)/2))else lo
termination_by a-lo
decreasing_by all_goals omega
theorem vt{f:Nat->Bool}{lo a:Nat}(h:lo<a):jg f lo a=if f ((lo+a)/2)then jg f ((lo+a)/2+1) a else jg f lo ((lo+a)/2):=by rw[jg,zcl h]
theorem Zp{f:Nat->Bool}{lo a:Nat}(h:¬lo<a):jg f lo a=lo:=by rw[jg,dif_neg h]
theorem AR(f:Nat->Bool)(lo hi:Nat)(h:lo<=hi):lo<=jg f lo hi/\jg f lo hi<=hi:=by
 induction lo,hi using jg.induct (f:=f)with
 |case1 lo hi a b c=>rw[jg,zcl a,ze b];have:=c (by omega);omega
 |case2 lo hi a b c=>rw[jg,zcl a,zj b];have:=c (by omega);omega
 |case3 lo hi a=>rw[jg,dif_neg a];omega
theorem CW{f:Nat->Bool}{n m:Nat}(j:∀k,k<m->f k=true)(l:∀k,m<=k->k<n->f k=false):∀{lo b:Nat},lo<=m->m<=b->b<=n->jg f lo b=m:=by
 intro lo b
 induction lo,b using jg.induct (f:=f)with
 |case1 lo b a d e=>
  intro g h i;rw[jg,zcl a,ze d];refine e ?_ h i;apply Nat.succ_le_of_lt;refine Nat.lt_of_not_le fun c=>?_
  rw[l _ c (by omega)]at d;cases d
 |case2 lo b a d e=>
  intro g h i;rw[jg,zcl a,zj d];refine e g ?_ (by omega);refine Nat.le_of_not_lt fun c=>?_
  exact d (j _ c)
 |case3 lo b a=>intro g h _;rw[jg,dif_neg a];omega
noncomputable def kx (l:List za) (s:za) (k:Nat):Bool:=match l[k]? with
 |some x=>decide (wX x s<0)
 |none=>false
noncomputable def kD (l:List za) (s:za):Nat×Bool:=(jg (kx l s) 0 l.length,match l[jg (kx l s) 0 l.length]? with
 |some x=>wX x s==0
 |none=>false)
theorem tO{l:List za}{s:za}(h:(kD l s).2=true):l[(kD l s).1]?=some s:=by
 unfold kD at h⊢;simp only at h⊢;split at h
 ·rename_i x a;rw[a,(xX x s).1 (by simpa using h)]
 ·cases h
theorem tP{l:List za}{s:za}(h:(kD l s).2=true):(kD l s).1<l.length:=(zh.1 (tO h)).1
def oQ(l:List za):Prop:=l.Pairwise fun a b=>Op.bytesLess a b=true
theorem oR(a:za):Op.bytesLess a a=false:=by
 cases h:Op.bytesLess a a with
 |false=>rfl
 |true=>have b:=(VE a a).2 h;have c:=(xX a a).2 rfl;omega
theorem tQ{l:List za}{s:za}(f:oQ l){j:Nat}(g:l[j]?=some s):kD l s=(j,true):=by
 obtain⟨a,b⟩:=zh.1 g;have i:jg (kx l s) 0 l.length=j:=by
  refine CW (n:=l.length) (fun k d=>?_) (fun k d c=>?_) (ka _) (Nat.le_of_lt a) (zi _)
  ·have:=Aa.1 f k j (by omega) a d;rw[b]at this;simp[kx,show k<l.length by omega,(VE _ _).2 this]
  ·rcases Nat.lt_or_eq_of_le d with h|rfl
   ·have:=Aa.1 f j k a c h;rw[b]at this;have e:¬wX l[k] s<0:=fun m=>by have:=xY this ((VE _ _).1 m);rw[oR]at this;cases this
    simp[kx,c,e]
   ·have e:¬wX s s<0:=by rw[(xX s s).2 rfl];omega
    simp[kx,a,b,e]
 unfold kD;rw[i,g];simp[(xX s s).2 rfl]
end Go.Q
namespace Go.AM
def qw{S α:Type}(f:S->α->Bool×S):S->List α->Bool×S
 |s,[]=>(false,s)
 |s,a::l=>if(f s a).1=true then(true,(f s a).2)else qw f (f s a).2 l
theorem gV{S α:Type}(f:S->α->Bool×S):∀(s:S) (l m:List α),qw f s (l++m)=if(qw f s l).1=true then(true,(qw f s l).2)else qw f (qw f s l).2 m
 |s,[],m=>by simp[qw]
 |s,a::l,m=>by
  simp only[q7,qw];split
  ·simp
  ·exact gV f _ l m
def jw(succ:Nat->List Nat):Nat->List Int->Nat->Bool×List Int
 | 0,st,_=>(false,st)
 |n+1,st,i=>if st[i]?=some 0 then((qw (jw succ n) (st.set i 1) (succ i)).1,(qw (jw succ n) (st.set i 1) (succ i)).2.set i 2)else(decide (st[i]?=some 1),st)
def vF(st:List Int):Nat:=st.count 0
theorem XP{st:List Int}{i:Nat}{v:Int}(h:st[i]?=some 0)(b:v≠0):vF (st.set i v)+1=vF st:=by
 unfold vF
 induction st generalizing i with
 |nil=>simp at h
 |cons a l c=>
  cases i with
  |zero=>simp at h;subst h;simp[b]
  |succ i=>have:=c (i:=i) (by simpa using h);simp only[List.set_cons_succ,List.count_cons]at this⊢;omega
theorem lS{st:List Int}{i:Nat}{v:Int}(b:v≠0):vF (st.set i v)<=vF st:=by
 unfold vF
 induction st generalizing i with
 |nil=>simp
 |cons a l c=>
  cases i with
  |zero=>simp[List.count_cons,b]
  |succ i=>have:=c (i:=i);simp only[List.set_cons_succ,List.count_cons]at this⊢;omega
structure Kept (st st':List Int):Prop where
 len:st'.length=st.length
 wh:vF st'<=vF st
 black:∀j:Nat,st[j]?=some 2->st'[j]?=some 2
 IP:∀j:Nat,st'[j]?=some 1↔st[j]?=some 1
 kc:(∀v∈st,v=0\/v=1\/v=2)->∀v∈st',v=0\/v=1\/v=2
theorem Kept.refl(st:List Int):Kept st st:=⟨rfl,zi _,fun _ h=>h,fun _=>Iff.rfl,fun h=>h⟩
theorem Kept.trans{a b c:List Int}(h:Kept a b)(g:Kept b c):Kept a c:=
 ⟨g.len.trans h.len,zA g.wh h.wh,fun j d=>g.black j (h.black j d),fun j=>(g.IP j).trans (h.IP j),fun e=>g.kc (h.kc e)⟩
theorem Qh{f:List Int->Nat->Bool×List Int}(b:∀st i,Kept st (f st i).2):∀(l:List Nat) (st:List Int),Kept st (qw f st l).2
 |[],st=>Kept.refl st
 |a::l,st=>by
  simp only[qw];split
  ·exact b st a
  ·exact(b st a).trans (Qh b l _)
theorem j5(succ:Nat->List Nat):∀(n:Nat) (st:List Int) (i:Nat),Kept st (jw succ n st i).2
 | 0,st,i=>Kept.refl st
 |n+1,st,i=>by
  simp only[jw];split
  ·rename_i c;have k:i<st.length:=(zh.1 c).1;have b:=Qh (j5 succ n) (succ i) (st.set i 1);obtain⟨r,g⟩:=kC ((qw (jw succ n) (st.set i 1) (succ i)).2);rw[g]at b;simp only[g];have l:r.length=st.length:=by rw[b.len,gk]
   refine⟨by rw[gk,l],?_,fun j d=>?_,fun j=>?_,fun m v e=>?_⟩
   ·have o:=b.wh;have p:=XP c (v:=1) (by decide);have q:=lS (st:=r) (i:=i) (v:=2) (by decide);omega
   ·by_cases a:i=j
    ·subst a;rw[c]at d;simp at d
    ·rw[yu a];exact b.black j (by rw[yu a];exact d)
   ·by_cases a:i=j
    ·subst a;rw[vv (by omega),c];simp
    ·rw[yu a,b.IP,yu a]
   ·have f:=b.kc (fun v e=>by
     rcases kf e with h|rfl
     ·exact m v h
     ·exact .inr (.inl rfl))
    rcases kf e with h|rfl
    ·exact f v h
    ·exact .inr (.inr rfl)
  ·exact Kept.refl st
inductive Wb (E:Nat->Nat->Prop):Nat->Nat->Prop
 |one {a b:Nat}:E a b->Wb E a b
 |tail {a b c:Nat}:Wb E a b->E b c->Wb E a c
theorem Wb.trans{E:Nat->Nat->Prop}{a b c:Nat}(h:Wb E a b)(g:Wb E b c):Wb E a c:=by
 induction g with
 |one e=>exact .tail h e
 |tail _ e d=>exact .tail d e
theorem Wb.head{E:Nat->Nat->Prop}{a c:Nat}(h:Wb E a c):∃b,E a b/\(b=c\/Wb E b c):=by
 induction h with
 |one e=>exact⟨_,e,.inl rfl⟩
 |tail _ e d=>
  obtain⟨b,f,h2⟩:=d;refine⟨b,f,.inr ?_⟩;rcases h2 with rfl|h2
  ·exact .one e
  ·exact .tail h2 e
theorem Gv{E:Nat->Nat->Prop}{a:Nat}(h:Acc (fun x y=>E y x) a):¬Wb E a a:=by
 induction h with
 |intro x _ c=>
  intro d;obtain⟨y,b,h2⟩:=d.head;rcases h2 with rfl|h2
  ·exact c y b d
  ·exact c y b (.tail h2 b)
theorem aA(succ:Nat->List Nat):∀(n:Nat) (st:List Int) (i:Nat),(∀v∈st,v=0\/v=1\/v=2)->vF st<n->i<st.length->(∀a,∀b∈succ a,b<st.length)->(∀j:Nat,st[j]?=some 2->Acc (fun x y=>x∈succ y) j)->(jw succ n st i).1=false ->
  (∀j:Nat,(jw succ n st i).2[j]?=some 2->Acc (fun x y=>x∈succ y) j)/\(jw succ n st i).2[i]?=some 2
 | 0,st,i,_,F,_,_,_,_=>by omega
 |n+1,st,i,E,F,z,hs,hb,e=>by
  simp only[jw]at e⊢;split at e
  ·rename_i f;rw[ze f];simp only at e⊢;have o:i<st.length:=z;have G:=XP f (v:=1) (by decide);have A:∀v∈st.set i 1,v=0\/v=1\/v=2:=fun v H=>by
    rcases kf H with h|rfl
    ·exact E v h
    ·exact .inr (.inl rfl)
   have B:∀j:Nat,(st.set i 1)[j]?=some 2->Acc (fun x y=>x∈succ y) j:=fun j g=>by
    by_cases c:i=j
    ·subst c;rw[vv o]at g;simp at g
    ·rw[yu c]at g;exact hb j g
   have C:∀(l:List Nat) (s:List Int),(∀v∈s,v=0\/v=1\/v=2)->vF s<n->s.length=st.length->(∀b∈l,b<st.length)->(∀j:Nat,s[j]?=some 2->Acc (fun x y=>x∈succ y) j)->(qw (jw succ n) s l).1=false ->
     (∀j:Nat,(qw (jw succ n) s l).2[j]?=some 2->Acc (fun x y=>x∈succ y) j)/\∀b∈l,(qw (jw succ n) s l).2[b]?=some 2:=by
    intro l
    induction l with
    |nil=>intro s _ _ _ _ k _;exact⟨k,fun b hb=>by cases hb⟩
    |cons a l I=>
     intro s p q m r k d;simp only[qw]at d⊢;split at d
     ·simp at d
     ·rename_i t;rw[zj t];have u:=j5 succ n s a;obtain⟨w,D⟩:=aA succ n s a p q (by rw[m];exact r a (by simp)) (fun x b hb=>by rw[m];exact hs x b hb) k (by simpa using t);obtain⟨J,K⟩:=I _ (u.kc p) (zdh u.wh q) (u.len.trans m) (fun b hb=>r b (by simp[hb])) w d;refine⟨J,fun b hb=>?_⟩;rcases zC.1 hb with rfl|hb
      ·exact(Qh (j5 succ n) l _).black _ D
      ·exact K b hb
   obtain⟨w,D⟩:=C (succ i) (st.set i 1) A (by omega) (by rw[gk]) (hs i) B e;have u:=Qh (j5 succ n) (succ i) (st.set i 1);refine⟨fun j g=>?_,by rw[vv (by rw[u.len,gk];exact o)]⟩;by_cases c:i=j
   ·subst c;exact⟨_,fun b hb=>w b (D b hb)⟩
   ·rw[yu c]at g;exact w j g
  ·rename_i f;rw[zj f];simp only at e⊢;refine⟨hb,?_⟩;have L:st[i]?=some st[i]:=zn z;have M:=E _ (zm z);rw[L]at f e⊢;rcases M with h|h|h
   ·rw[h]at f;exact(f rfl).elim
   ·rw[h]at e;simp at e
   ·rw[h]
theorem dT(succ:Nat->List Nat):∀(n:Nat) (st:List Int) (i:Nat),(∀g:Nat,st[g]?=some 1->Wb (fun a b=>b∈succ a) g i)->(jw succ n st i).1=true->∃c,Wb (fun a b=>b∈succ a) c c
 | 0,st,i,_,h=>by simp[jw]at h
 |n+1,st,i,p,h=>by
  simp only[jw]at h;split at h
  ·rename_i r;simp only at h;have t:i<st.length:=(zh.1 r).1;have m:∀(l:List Nat) (s:List Int),(∀g:Nat,s[g]?=some 1↔(st.set i 1)[g]?=some 1)->(∀b∈l,b∈succ i)->(qw (jw succ n) s l).1=true->∃c,Wb (fun a b=>b∈succ a) c c:=by
    intro l
    induction l with
    |nil=>intro s _ _ e;simp[qw]at e
    |cons a l u=>
     intro s f j e;simp only[qw]at e;split at e
     ·rename_i v;refine dT succ n s a (fun g d=>?_) v;have d:=(f g).1 d;have q:a∈succ i:=j a (by simp);by_cases k:i=g
      ·subst k;exact .one q
      ·rw[yu k]at d;exact .tail (p g d) q
     ·exact u _ (fun g=>((j5 succ n s a).IP g).trans (f g)) (fun b o=>j b (by simp[o])) e
   exact m (succ i) (st.set i 1) (fun _=>Iff.rfl) (fun _ o=>o) h
  ·simp at h;exact⟨i,p i h⟩
theorem gW{α:Type}{p q:α->Bool}:∀{l:List α},(∀x∈l,p x=true->q x=true)->(∃x∈l,q x=true/\p x=false)->l.countP p<l.countP q
 |[],_,⟨x,b,_⟩=>by cases b
 |a::l,h,⟨x,b,d,e⟩=>by
  have f:l.countP p<=l.countP q:=List.countP_mono_left fun y c=>h y (by simp[c])
  rcases zC.1 b with rfl|b
  ·rw[List.countP_cons,List.countP_cons,d,e];simp;omega
  ·have:=gW (l:=l) (fun y c=>h y (by simp[c])) ⟨x,b,d,e⟩;rw[List.countP_cons,List.countP_cons];have g:=h a (by simp);cases Y:p a
   ·simp only[zE,wE];split<;>omega
   ·rw[g Y];simp;omega
open Classical in
noncomputable def AU (E:Nat->Nat->Prop) (N i:Nat):Nat:=(List.range N).countP fun j=>decide (Wb E i j)
theorem Gw(E:Nat->Nat->Prop)(N i:Nat):AU E N i<=N:=by have:=List.countP_le_length (p:=fun j=>@decide (Wb E i j) (Classical.propDecidable _)) (l:=List.range N);rwa [List.length_range]at this
open Classical in
theorem Gx{E:Nat->Nat->Prop}{N i j:Nat}(b:j<N)(a:E i j)(c:¬Wb E j j):AU E N j<AU E N i:=by
 refine gW (fun k _ d=>?_) ⟨j,jl.2 b,?_,?_⟩
 ·exact Zv ((Wb.one a).trans (yK d))
 ·exact Zv (.one a)
 ·exact Qo c
structure Bfs {α:Type} (next:α->List α) (start out queue:List α):Prop where
 nodup:out.Nodup
 strt:∀a∈start,a∈out\/a∈queue
 step:∀a∈out,∀b∈next a,b∈out\/b∈queue
 only:∀(Q:α->Prop),(∀a∈start,Q a)->(∀a b,Q a->b∈next a->Q b)->(∀a∈out,Q a)/\∀a∈queue,Q a
inductive SP {α:Type} (next:α->List α) (start:List α):α->Prop
 |here {a:α}:a∈start->SP next start a
 |there {a b:α}:SP next start a->b∈next a->SP next start b
def oS(F:Nat->(Nat->Bool)->Bool):Nat->Nat->Bool
 | 0,_=>false
 |n+1,i=>F i (oS F n)
theorem gX{F:Nat->(Nat->Bool)->Bool}{succ:Nat->List Nat}{rk:Nat->Nat}(hF:∀i f g,(∀j∈succ i,f j=g j)->F i f=F i g)(a:∀i,∀j∈succ i,rk j<rk i):∀(r i m k:Nat),rk i<=r->r<m->r<k->oS F m i=oS F k i
 |r,i,m,k,h,d,e=>by
  obtain⟨m,rfl⟩:∃q,m=q+1:=⟨m-1,by omega⟩;obtain⟨k,rfl⟩:∃q,k=q+1:=⟨k-1,by omega⟩;simp only[oS];refine hF i _ _ fun j b=>?_
  have:=a i j b;obtain⟨c,rfl⟩:∃q,r=q+1:=⟨r-1,by omega⟩;exact gX hF a c j m k (by omega) (by omega) (by omega)
theorem Mo{F:Nat->(Nat->Bool)->Bool}{succ:Nat->List Nat}{rk:Nat->Nat}{N:Nat}(hF:∀i f g,(∀j∈succ i,f j=g j)->F i f=F i g)(a:∀i,∀j∈succ i,rk j<rk i)(b:∀i,rk i<=N)(i:Nat):oS F (N+1) i=F i (oS F (N+1)):=by
 show F i (oS F N)=_;refine hF i _ _ fun j c=>?_
 have d:=a i j c;have e:=b i;exact gX hF a (rk j) j N (N+1) (zi _) (by omega) (by omega)
end Go.AM
namespace Go.Q
structure qN where
 name:List UInt8
 ins:List (List UInt8)
 outs:List (List UInt8)
 cond:qT
def qN.V(s:qN):zb:=[str s.name,.sl 1 (zZ s.ins),.sl 1 (zZ s.outs)]++s.cond.V
theorem kT(s:qN):s.V=[str s.name,.sl 1 (zZ s.ins),.sl 1 (zZ s.outs),int s.cond.kind,str s.cond.attr,int s.cond.op,.sl 5 (s.cond.kc.map qp.V),str s.cond.pat,str s.cond.name,.sl 7 (s.cond.args.map qT.V)]:=by unfold qN.V;rw[wY];rfl
@[simp]theorem zcg(s:qN):s.V.length=10:=by rw[kT];rfl
@[simp]theorem zaU(s:qN):s.V.drop 3=s.cond.V:=rfl
@[simp]theorem zaV(s:qN):s.V.take 10=s.V:=q6 (by simp)
@[simp]theorem zc9(s:qN)(h:0<s.V.length):s.V[0]=str s.name:=rfl
@[simp]theorem zda(s:qN)(h:1<s.V.length):s.V[1]=.sl 1 (zZ s.ins):=rfl
@[simp]theorem zdb(s:qN)(h:2<s.V.length):s.V[2]=.sl 1 (zZ s.outs):=rfl
@[simp]theorem CX(s:qN):s.V.all O.wz=true:=by rw[kT];rfl
@[simp]theorem Rs(s:qN):(∀x,x∈s.V->O.wz x=true)=True:=by have:=CX s;rw[zQ]at this;exact eq_true this
theorem VF{a b:qN}(h:a.V=b.V):a=b:=by
 have f:a.cond.V=b.cond.V:=by rw[kT,kT]at h;simp only[zc,zs]at h;rw[wY,wY];simp only[zc,zs];exact h.2.2.2
 have c:=Jg f;rw[kT,kT]at h;simp only[zc,zs]at h;obtain⟨g,d,e,_⟩:=h;cases a;cases b;simp only at *;injection d with _ d
 injection e with _ e;rw[qv g,jd d,jd e,c]
theorem VG{a b:List qN}(h:O.sl 10 (a.map qN.V)=.sl 10 (b.map qN.V)):a=b:=by injection h with _ h;exact yF (fun _ _=>VF) h
def VH(l:List za):Nat:=(l.map fun s=>1+s.length).sum
def qN.cb(s:qN):Nat:=1+s.name.length+VH s.ins+VH s.outs+s.cond.cb
def bm(l:List qN):Nat:=(l.map qN.cb).sum
theorem bQ:∀{l:List za} {s:za},s∈l->1+s.length<=VH l
 |y::l,s,h=>by
  simp only[VH,z6,Jt];rcases zC.1 h with rfl|h
  ·omega
  ·have:=bQ h;unfold VH at this;omega
theorem bR:∀l:List za,l.length<=VH l
 |[]=>zi _
 |y::l=>by have:=bR l;simp only[VH,z6,Jt,zU]at *;omega
theorem VI:∀{l:List qN} {s:qN},s∈l->s.cb<=bm l
 |y::l,s,h=>by
  simp only[bm,z6,Jt];rcases zC.1 h with rfl|h
  ·omega
  ·have:=VI h;unfold bm at this;omega
theorem JM:∀l:List qN,l.length<=bm l
 |[]=>zi _
 |y::l=>by
  have:=JM l;have a:1<=y.cb:=by unfold qN.cb;omega
  simp only[bm,z6,Jt,zU]at *;omega
mutual
def qT.names:qT->List za
 | .mk k _ _ _ _ n l=>(if k=5 then[n]else[])++xD l
def xD:List qT->List za
 |[]=>[]
 |c::l=>c.names++xD l
end
theorem VJ(c:qT):c.names=(if c.kind=5 then[c.name]else[])++xD c.args:=by cases c;rfl
theorem Yz:∀{l:List qT} {n:za},n∈xD l↔∃c∈l,n∈c.names
 |[],n=>by simp[xD]
 |c::l,n=>by simp[xD,Yz (l:=l)]
theorem oT{l:List qT}{k:Nat}(h:k<l.length):xD (l.drop k)=l[k].names++xD (l.drop (k+1)):=by rw[zd h,xD]
noncomputable def ZD (l:List qN) (n:za):Nat:=(kD (l.map qN.name) n).1
noncomputable def xy (l:List qN) (n:za):Bool:=(kD (l.map qN.name) n).2
noncomputable def Yk (l:List qN) (c:qT):Bool:=c.names.all (xy l)
noncomputable def yB (l:List qN) (i:Nat):List Nat:=match l[i]? with
 |some s=>s.cond.names.map (ZD l)
 |none=>[]
def Ko:Option za->List za->Int
 |_,[]=>0
 |p,k::l=>if kM k=true then(if vH p k=true then 8 else Ko (some k) l)else 3
def ZI(l:List za):Int:=if(1000:Int)<l.length then 2 else Ko none l
theorem tR{l:List za}{k:Nat}(h:k<l.length)(p:Option za):Ko p (l.drop k)=if kM l[k]=true then(if vH p l[k]=true then 8 else Ko (some l[k]) (l.drop (k+1)))else 3:=by rw[zd h,Ko]
theorem oU:∀(l:List za) (p:Option za),Ko p l=0->oQ l/\∀q,p=some q->∀b∈l,Op.bytesLess q b=true
 |[],p,_=>⟨.nil,fun _ _ _ hb=>by cases hb⟩
 |a::l,p,h=>by
  simp only[Ko]at h;split at h
  case isFalse=>simp at h
  split at h
  ·simp at h
  rename_i e;obtain⟨f,d⟩:=oU l (some a) h;refine⟨J1.2 ⟨d a rfl,f⟩,fun q g b hb=>?_⟩;subst g;have c:Op.bytesLess q a=true:=xx (by simpa[vH]using e);rcases zC.1 hb with rfl|hb
  ·exact c
  ·exact xY c (d a rfl b hb)
theorem dU{l:List za}(h:ZI l=0):oQ l:=by
 unfold ZI at h;split at h
 ·simp at h
 ·exact(oU l none h).1
noncomputable def ZU (s:qN):Int:=if ZI s.ins=0 then(if ZI s.outs=0 then(if(s.ins.any fun k=>s.outs.contains k)=true then 7 else s.cond.check)else ZI s.outs)else ZI s.ins
noncomputable def YH:Option za->List qN->Int
 |_,[]=>0
 |p,s::l=>if qK s.name=true then(if vH p s.name=true then 8 else if ZU s=0 then YH (some s.name) l else ZU s)else 5
theorem tS{l:List qN}{k:Nat}(h:k<l.length)(p:Option za):YH p (l.drop k)=if qK l[k].name=true then(if vH p l[k].name=true then 8 else if ZU l[k]=0 then YH (some l[k].name) (l.drop (k+1))else ZU l[k])else 5:=by rw[zd h,YH]
theorem oV:∀(l:List qN) (p:Option za),YH p l=0->(oQ (l.map qN.name)/\∀q,p=some q->∀b∈l,Op.bytesLess q b.name=true)/\∀s∈l,qK s.name=true/\ZU s=0
 |[],p,_=>⟨⟨.nil,fun _ _ _ hb=>by cases hb⟩,fun _ hb=>by cases hb⟩
 |a::l,p,h=>by
  simp only[YH]at h;split at h
  case isFalse=>simp at h
  rename_i e;split at h
  ·simp at h
  rename_i f;split at h
  case isFalse hs=>exact(hs h).elim
  rename_i hs;obtain⟨⟨g,d⟩,i⟩:=oV l (some a.name) h;refine⟨⟨?_,fun q j b hb=>?_⟩,fun s IC=>?_⟩
  ·unfold oQ;rw[z6];refine J1.2 ⟨fun x k=>?_,g⟩;obtain⟨b,hb,rfl⟩:=zN.1 k;exact d a.name rfl b hb
  ·subst j;have c:Op.bytesLess q a.name=true:=xx (by simpa[vH]using f);rcases zC.1 hb with rfl|hb
   ·exact c
   ·exact xY c (d a.name rfl b hb)
  ·rcases zC.1 IC with rfl|IC
   ·exact⟨e,hs⟩
   ·exact i s IC
noncomputable def Gy (l:List qN):List Int->List Nat->Bool×List Int:=qw (jw (yB l) 2097153)
noncomputable def gY (l:List qN):Bool:=(Gy l (List.replicate l.length 0) (List.range l.length)).1
noncomputable def ky (l:List qN):Int:=if(100:Int)<l.length then 2 else if YH none l=0 then(if(l.all fun s=>Yk l s.cond)=true then(if gY l=true then 12 else 0)else 9)else YH none l
structure V9 (l:List qN):Prop where
 len:l.length<=100
 up:oQ (l.map qN.name)
 right:∀s∈l,qK s.name=true/\ZU s=0
 known:∀s∈l,∀n∈s.cond.names,xy l n=true
 acyc:∀i:Nat,¬Wb (fun a b=>b∈yB l a) i i
theorem lT{l:List qN}{n:za}(h:xy l n=true):ZD l n<l.length:=by have:=tP (l:=l.map qN.name) (s:=n) h;rw[qQ]at this;exact this
theorem AV{l:List qN}(h:∀s∈l,∀n∈s.cond.names,xy l n=true)(i:Nat):∀j∈yB l i,j<l.length:=by
 intro j a;unfold yB at a;split at a
 ·rename_i s hs;obtain⟨n,b,rfl⟩:=zN.1 a;exact lT (h s (zD hs) n b)
 ·cases a
theorem CY{l:List qN}{i:Nat}(h:l.length<=i):yB l i=[]:=by unfold yB;rw[qS h]
theorem dV(n:Nat):vF (List.replicate n 0)=n:=by simp[vF]
theorem Gz{l:List qN}(I:l.length<=100)(h:∀s∈l,∀n∈s.cond.names,xy l n=true):gY l=true↔∃i:Nat,Wb (fun a b=>b∈yB l a) i i:=by
 constructor
 ·intro G;have f:∀(q:List Nat) (s:List Int),(∀g:Nat,s[g]?≠some 1)->(qw (jw (yB l) 2097153) s q).1=true->∃c,Wb (fun a b=>b∈yB l a) c c:=by
   intro q
   induction q with
   |nil=>intro s _ e;simp[qw]at e
   |cons a q r=>
    intro s hs e;simp only[qw]at e;split at e
    ·rename_i t;exact dT (yB l) _ s a (fun g k=>(hs g k).elim) t
    ·exact r _ (fun g k=>hs g (((j5 (yB l) _ s a).IP g).1 k)) e
  refine f _ _ (fun g k=>?_) G;rw[Zu]at k;split at k<;>simp at k
 ·rintro⟨i,C⟩;refine Decidable.byContradiction fun u=>?_
  have u:gY l=false:=by simpa using u
  have hs:=AV h;have f:∀(q:List Nat) (s:List Int),(∀v∈s,v=0\/v=1\/v=2)->s.length=l.length->vF s<2097153->(∀b∈q,b<l.length)->(∀j:Nat,s[j]?=some 2->Acc (fun x y=>x∈yB l y) j)->(qw (jw (yB l) 2097153) s q).1=false ->
    ∀b,b∈q->Acc (fun x y=>x∈yB l y) b:=by
   intro q
   induction q with
   |nil=>intro s _ _ _ _ _ _ b d;cases d
   |cons a q r=>
    intro s o m D E d e;simp only[qw]at e;split at e
    ·simp at e
    ·rename_i t;have w:=j5 (yB l) 2097153 s a;obtain⟨F,H⟩:=aA (yB l) _ s a o D (by rw[m];exact E a (by simp)) (fun x b d=>by rw[m];exact hs x b d) d (by simpa using t);intro b hbm;rcases zC.1 hbm with rfl|hbm
     ·exact F b H
     ·exact r _ (w.kc o) (w.len.trans m) (zdh w.wh D) (fun b d=>E b (by simp[d])) F e b hbm
  have p:=f (List.range l.length) (List.replicate l.length 0) (fun v o=>by rw[List.mem_replicate]at o;exact .inl o.2) (by simp) (by rw[dV];omega) (fun b d=>jl.1 d)
   (fun j z=>by rw[Zu]at z;split at z<;>simp at z) u
  obtain⟨b,d,_⟩:=C.head;have A:i<l.length:=by
   refine Nat.lt_of_not_le fun B=>?_
   rw[CY B]at d;cases d
  exact Gv (p i (jl.2 A)) C
theorem AW{l:List qN}(h:ky l=0):V9 l:=by
 unfold ky at h;split at h
 ·simp at h
 rename_i j;split at h
 case isFalse hs=>exact(hs h).elim
 rename_i hs;split at h
 case isFalse=>simp at h
 rename_i c;split at h
 ·simp at h
 rename_i a;obtain⟨⟨d,_⟩,e⟩:=oV l none hs;have b:∀s∈l,∀n∈s.cond.names,xy l n=true:=fun s hs n f=>zQ.1 (zQ.1 c s hs) n f
 refine⟨by omega,d,e,b,fun i g=>?_⟩;exact a ((Gz (by omega) b).2 ⟨i,g⟩)
noncomputable def Rt (l:List qN) (i:Nat):Nat:=AU (fun a b=>b∈yB l a) l.length i
theorem GA{l:List qN}(h:V9 l)(i:Nat):Rt l i<=100:=zA (Gw _ _ _) h.len
theorem GB{l:List qN}(h:V9 l)(i:Nat):∀j∈yB l i,Rt l j<Rt l i:=fun j a=>Gx (AV h.known i j a) a (h.acyc j)
mutual
def qT.vm(Kr:za->Bool)(b:qT->Bool):qT->Bool
 | .mk k a o v p n l=>if k=1 then allM Kr b l else if k=2 then anyM Kr b l else if k=3 then !(O9 Kr b l)else if k=5 then Kr n else b (.mk k a o v p n l)
def allM(Kr:za->Bool)(a:qT->Bool):List qT->Bool
 |[]=>true
 |c::l=>c.vm Kr a&&allM Kr a l
def anyM(Kr:za->Bool)(a:qT->Bool):List qT->Bool
 |[]=>false
 |c::l=>c.vm Kr a||anyM Kr a l
def O9(Kr:za->Bool)(a:qT->Bool):List qT->Bool
 |[]=>false
 |c::_=>c.vm Kr a
end
def T6(f:qT->Bool):List qT->Bool
 |[]=>false
 |x::_=>f x
theorem dW(Kr:za->Bool)(b:qT->Bool)(c:qT):c.vm Kr b=if c.kind=1 then c.args.all (fun x=>x.vm Kr b)else if c.kind=2 then c.args.any (fun x=>x.vm Kr b)else if c.kind=3 then !(T6 (fun x=>x.vm Kr b) c.args)else if c.kind=5 then Kr c.name else b c:=by
 have e:∀l,allM Kr b l=l.all fun x=>x.vm Kr b:=fun l=>by
  induction l with
  |nil=>rfl
  |cons c l d=>rw[allM,d];rfl
 have f:∀l,anyM Kr b l=l.any fun x=>x.vm Kr b:=fun l=>by
  induction l with
  |nil=>rfl
  |cons c l d=>rw[anyM,d];rfl
 have g:∀l,O9 Kr b l=T6 (fun x=>x.vm Kr b) l:=fun l=>by cases l<;>rfl
 cases c with
 |mk k a o v p n l=>rw[qT.vm,e,f,g];rfl
theorem tT{f g:za->Bool}{d:qT->Bool}(c:qT):(∀n∈c.names,f n=g n)->c.vm f d=c.vm g d:=by
 induction c using qT.ind with
 |h k a o v p n l q=>
  intro h;rw[VJ]at h;have b:∀x∈l,x.vm f d=x.vm g d:=fun x e=>q x e fun m r=>h m (qh.2 (.inr (Yz.2 ⟨x,e,r⟩)))
  rw[dW,dW];simp only[qT.kind,qT.args,qT.name];have s:(l.all fun x=>x.vm f d)=l.all fun x=>x.vm g d:=by rw[yg,zQ,zQ];exact⟨fun i x e=>by rw[<-b x e];exact i x e,fun i x e=>by rw[b x e];exact i x e⟩
  have t:(l.any fun x=>x.vm f d)=l.any fun x=>x.vm g d:=by rw[yg,Iw,Iw];exact⟨fun⟨x,e,i⟩=>⟨x,e,by rw[<-b x e];exact i⟩,fun⟨x,e,i⟩=>⟨x,e,by rw[b x e];exact i⟩⟩
  rw[s,t];have u:T6 (fun x=>x.vm f d) l=T6 (fun x=>x.vm g d) l:=by
   cases l with
   |nil=>rfl
   |cons x l=>exact b x (by simp)
  rw[u];by_cases j:k=5
  ·rw[h n (by simp[qT.kind,qT.name,j])]
  ·simp only[j,wE]
def Mp(l:List qN)(a:za)(b:qT->Bool)(i:Nat)(f:za->Bool):Bool:=match l[i]? with
 |some s=>s.ins.contains a||(!s.outs.contains a&&s.cond.vm f b)
 |none=>false
noncomputable def GD (l:List qN) (a:za) (b:qT->Bool):Nat->Bool:=oS (fun i f=>Mp l a b i fun n=>f (ZD l n)) 101
theorem Mq{l:List qN}(h:V9 l)(a:za)(b:qT->Bool)(i:Nat):GD l a b i=Mp l a b i fun n=>GD l a b (ZD l n):=by
 refine Mo (succ:=yB l) (rk:=Rt l) (N:=100) (fun i f g c=>?_) (GB h) (GA h) i;simp only[Mp];cases hs:l[i]? with
 |none=>rfl
 |some s=>simp only;rw[tT s.cond (f:=fun n=>f (ZD l n)) (g:=fun n=>g (ZD l n)) fun n d=>c (ZD l n) (by unfold yB;rw[hs];exact YM d)]
noncomputable def zaW (l:List qN) (b:za) (a:qT->Bool) (c:qT):Bool:=c.vm (fun n=>GD l b a (ZD l n)) a
theorem GF{l:List qN}(a:oQ (l.map qN.name)){i:Nat}{s:qN}(h:l[i]?=some s):ZD l s.name=i/\xy l s.name=true:=by have:=tQ a (j:=i) (s:=s.name) (by rw[qn,h];rfl);unfold ZD xy;rw[this];exact⟨rfl,rfl⟩
noncomputable def tU:zb->Option O:=zS (α:=qN×za) (fun a=>[.agg a.1.V,str a.2]) (fun _=>True) (fun a=>int (wX a.1.name a.2))
theorem aB(x:qN)(s:za)(Y:Hp)(Z:Nat):zg false [] tU [.agg x.V,str s] Y Z=some (int (wX x.name s),Y,Z):=
 Zc (x,s) _ _ (by simp[kT]) (fun a b e=>by obtain⟨c,d⟩:=a;obtain⟨f,g⟩:=b;simp only[zc,zs,O.agg.injEq]at e;rw[VF e.1,qv e.2]) trivial (.inl rfl)
noncomputable abbrev Ru:Ctx:=zG prog [(41,zg false [] (Cy wX))]
theorem oW:zf prog 100 (zg false [] tU):=
 kL (zM mixed ⟨yd,trivial⟩:AM.Good Ru _) func100 false [] fun⟨x,s⟩ _=>⟨by simp[f100],_,zl rfl (by simp[f100,kT]),qa _⟩
noncomputable def GG:zb->Option O:=zS (α:=List qN×za) (fun a=>[.sl 10 (a.1.map qN.V),str a.2,.fn (.func 100) [] []]) (fun a=>a.1.length<=zw) (fun a=>.q8 [int (kD (a.1.map qN.name) a.2).1,qO (kD (a.1.map qN.name) a.2).2])
theorem tV(l:List qN)(s:za)(Y:Hp)(Z:Nat)(h:l.length<=zw):zg false [] GG [.sl 10 (l.map qN.V),str s,.fn (.func 100) [] []] Y Z=some (.q8 [int (kD (l.map qN.name) s).1,qO (kD (l.map qN.name) s).2],Y,Z):=
 Zc (l,s) _ _ rfl (fun a b e=>by obtain⟨f,g⟩:=a;obtain⟨i,j⟩:=b;simp only[zc,zs]at e;obtain⟨c,d⟩:=e;injection c with _ c;rw[yF (fun _ _=>VF) c,qv d]) h (.inl rfl)
noncomputable abbrev OL:Ctx:=zG prog [(100,zg false [] tU)]
theorem CZ(l:List qN)(s:za)(w:l.length<=zw):zt OL f99 [.sl 10 (l.map qN.V),str s,.fn (.func 100) [] []]=some (.q8 [int (kD (l.map qN.name) s).1,qO (kD (l.map qN.name) s).2]):=by
 refine zl rfl ?_;unfold zw at w;have h:(l.map qN.name).length=l.length:=by simp
 simp;refine jI (fun st=>st.U 0=.sl 10 (l.map qN.V)/\st.U 1=str s/\st.U 2=.fn (.func 100) [] []/\st.U 8=int l.length/\∃lo hi:Nat,lo<=hi/\hi<=l.length/\st.U 9=int lo/\st.U 10=int hi/\jg (kx (l.map qN.name) s) 0 (l.map qN.name).length=jg (kx (l.map qN.name) s) lo hi)
  (fun st=>(k7 (st.U 10)).toNat-(k7 (st.U 9)).toNat) ⟨by simp,by simp,by simp,by simp,0,l.length,by simp,by simp,by simp,by simp,by rw[h]⟩ ?_
 rintro⟨U,Y,Z⟩ ⟨i,j,k,n,lo,hi,y,t,o,d,f⟩;simp only at i j k n o d;by_cases b:lo<hi
 ·have a:=fun x Y Z=>aB x s Y Z
  have v:=wo ((lo:Int)+hi);have z:(lo+hi)/2<l.length:=by omega
  obtain⟨m,A⟩:∃m,m=(lo+hi)/2:=⟨_,rfl⟩;have g:i6.wrap ((IntKind.u64.wrap ((lo:Int)+hi)).fdiv (2 ^ min 1 IntKind.u64.bits))=(m:Int):=by
   have B:IntKind.u64.wrap ((lo:Int)+hi)=(lo:Int)+hi:=by rw[Qp];omega
   have C:(2 ^ min 1 IntKind.u64.bits:Int)=2:=by decide
   rw[B,C,jP _ (by omega),qE (by omega) (by omega)];omega
  have e:m<l.length:=by omega
  have D:=qz m;have u:kx (l.map qN.name) s m=decide (wX l[m].name s<0):=by simp[kx,e]
  rw[vt (lo:=lo) b,<-A,u]at f;have c:=a l[m];simp only[kT]at c;by_cases r:wX l[m].name s<0
  ·simp only[r,fl,qI]at f;simp[i,j,k,n,o,d,b,v,g,e,c,r,D,kT];exact⟨⟨m+1,hi,by omega,t,by omega,rfl,by rw[h]at f;exact f⟩,by omega⟩
  ·simp only[r,V5,zE,wE]at f;simp[i,j,k,n,o,d,b,v,g,e,c,r,kT];exact⟨⟨lo,m,by omega,by omega,rfl,rfl,by rw[h]at f;exact f⟩,by omega⟩
 ·have f:jg (kx (l.map qN.name) s) 0 (l.map qN.name).length=lo:=by rw[f,Zp (lo:=lo) b]
  have a:=fun x Y Z=>aB x s Y Z
  unfold kD;rw[f];by_cases p:lo<l.length
  ·have c:=a l[lo];simp only[kT]at c;simp[i,j,k,n,o,d,b,p,c,kT,f99,qU]
  ·have q:l[lo]?=none:=qS (by omega);simp[i,j,k,n,o,d,b,p,q,f99,qU]
theorem tW:zf prog 99 (zg false [] GG):=
 kL (qc (q:=[100]) mixed ⟨oW,fun _=>zr _ _,trivial⟩:AM.Good OL _) func99 false [] fun⟨l,s⟩ a=>⟨zA (zi 3) (by decide),_,CZ l s a,qa _⟩
noncomputable def gZ:zb->Option O:=zS (α:=List qN×za) (fun a=>[.sl 10 (a.1.map qN.V),str a.2]) (fun a=>a.1.length<=zw) (fun a=>.q8 [int (kD (a.1.map qN.name) a.2).1,qO (kD (a.1.map qN.name) a.2).2])
theorem KJ(l:List qN)(s:za)(Y:Hp)(Z:Nat)(h:l.length<=zw):zg false [] gZ [.sl 10 (l.map qN.V),str s] Y Z=some (.q8 [int (kD (l.map qN.name) s).1,qO (kD (l.map qN.name) s).2],Y,Z):=
 Zc (l,s) _ _ rfl (fun a b e=>by obtain⟨f,g⟩:=a;obtain⟨i,j⟩:=b;simp only[zc,zs]at e;obtain⟨c,d⟩:=e;injection c with _ c;rw[yF (fun _ _=>VF) c,qv d]) h (.inl rfl)
noncomputable abbrev zaX:Ctx:=zG prog [(99,zg false [] GG)]
theorem KK:zf prog 62 (zg false [] gZ):=
 kL (zM mixed ⟨tW,trivial⟩:AM.Good zaX _) func62 false [] fun⟨l,s⟩ a=>by
  have b:=fun Y Z=>tV l s Y Z a
  exact⟨by simp[f62],_,zl rfl (by simp[b,qU,f62]),qa _⟩
noncomputable def FTl (out:List za->O) (a:List za->Prop):zb->Option O:=zS (α:=List za) (fun l=>[.sl 1 (zZ l)]) a out
theorem oX(out:List za->O)(c:List za->Prop)(l:List za)(Y:Hp)(Z:Nat)(h:c l)(d:(out l).flat=true):zg false [] (FTl out c) [.sl 1 (zZ l)] Y Z=some (out l,Y,Z):=
 Zc l _ _ rfl (fun a b e=>by
  simp only[zc,zs]at e;injection e with _ e
  exact jd e) h (.inl d)
def dX(l:List za)(k:Nat):Option za:=if k=0 then none else l[k-1]?
noncomputable abbrev Cck:Ctx:=zG prog [(29,zg false [] (FS kM))]
theorem dY(l:List za)(h:VH l<=zw):zt Cck f75 [.sl 1 (zZ l)]=some (int (ZI l)):=by
 have D:=bR l;have z:=fun s (hs:s∈l)=>bQ hs
 unfold zw at h;refine zl rfl ?_;unfold ZI;by_cases o:(1000:Int)<l.length
 ·rw[ze o];simp[o,f75]
 rw[zj o];simp[o];refine zP (fun k U Y Z=>U 0=.sl 1 (zZ l)/\U 8=.sl 1 (zZ l)/\U 9=int l.length/\U 10=int k/\Ko none l=Ko (dX l k) (l.drop k)) l.length
  ⟨by simp,by simp,by simp,by simp,by simp[dX]⟩ ?_
 rintro k U Y Z E ⟨f,g,i,c,a⟩;by_cases b:k<l.length
 ·have F:=qz k;obtain⟨s,hs⟩:=kC (l[k]);have d:s.length<=zw:=by have:=z s (by rw[<-hs];exact zm b);unfold zw;omega
  rw[tR b,hs]at a;have m:dX l (k+1)=some s:=by simp[dX,b,hs]
  cases e:kM s
  ·rw[e,zj (by simp)]at a;simp[f,g,i,c,b,hs,d,e,a,f75]
  rw[e,ze rfl]at a;by_cases A:k=0
  ·subst A;have B:=wo 1;simp only[dX,vH,qI,zE,wE]at a;simp[f,g,i,c,b,hs,d,e,B];exact⟨by omega,by rw[a,m];simp⟩
  ·obtain⟨j,rfl⟩:∃j,k=j+1:=⟨k-1,by omega⟩;have q:j<l.length:=by omega
   have t:i6.wrap ((j:Int)+1-1)=(j:Int):=by rw[qE (by omega) (by omega)];omega
   have n:=wo (j:Int);have u:((j:Int)+1).toNat=j+1:=by omega
   have v:0<(j:Int)+1:=by omega
   have w:0<=(j:Int)+1:=by omega
   have x:(j:Int)+1<l.length:=by omega
   have C:=wo ((j:Int)+1+1);have y:(Op.bytesLess s l[j]||s==l[j])=fC s l[j]:=rfl;have r:dX l (j+1)=some l[j]:=by simp[dX,q]
   simp only[r,vH]at a;cases p:fC s l[j]
   ·rw[p,zj (by simp)]at a;simp[f,g,i,c,b,q,hs,d,e,t,n,u,v,w,x,y,p,C];exact⟨by omega,by rw[a,m]⟩
   ·rw[p,ze rfl]at a;simp[f,g,i,c,b,q,hs,d,e,t,n,u,v,w,x,y,p,a,f75]
 ·obtain rfl:k=l.length:=by omega
  rw[zp]at a;have a:Ko none l=0:=by rw[a];rfl
  simp[f,g,i,c,a,f75]
theorem bn:zf prog 75 (zg false [] (FTl (fun l=>int (ZI l)) fun l=>VH l<=zw)):=
 kL (zM mixed ⟨QG,trivial⟩:AM.Good Cck _) func75 false [] fun l a=>⟨zA (zi 1) (by decide),_,dY l a,qa _⟩
theorem fN:zf prog 165 (zg false [] Jd):=
 yt (fn:=f165) y7 (qW func165) false [] _ fun args r h=>by
  unfold Jd at h;split at h
  ·injection h with h;subst h;exact⟨by simp[f165],_,zl rfl (by simp[f165]),qa _⟩
  ·cases h
def lsP(a b:za):O:=qO (Op.bytesLess a b)
theorem Mr(a b:za)(Y:Hp)(Z:Nat)(h:a.length<=zw)(c:b.length<=zw):zg false [] (xR lsP fun _ _=>True) [str a,str b] Y Z=some (qO (Op.bytesLess a b),Y,Z):=jL _ _ a b Y Z h c trivial rfl
noncomputable abbrev Cls:Ctx:=zG prog [(164,zg false [] Jd)]
theorem tX:zf prog 129 (zg false [] (xR lsP fun _ _=>True)):=
 yt (fn:=f129) (zM mixed ⟨Vi,trivial⟩:AM.Good Cls _) (qW func129) false [] _ fun args r h=>by obtain⟨a,b,rfl,c,d,_,rfl⟩:=jB h;exact⟨by simp[f129],_,zl rfl (by simp[lsP,f129]),qa _⟩
noncomputable def Rv (out:List za->za->O):zb->Option O:=zS (α:=List za×za) (fun a=>[.sl 1 (zZ a.1),str a.2]) (fun a=>VH a.1<=zw/\a.2.length<=zw) (fun a=>out a.1 a.2)
theorem oY(out:List za->za->O)(l:List za)(s:za)(Y:Hp)(Z:Nat)(h:VH l<=zw)(d:s.length<=zw)(f:(out l s).flat=true):zg false [] (Rv out) [.sl 1 (zZ l),str s] Y Z=some (out l s,Y,Z):=
 Zc (l,s) _ _ rfl (fun a b e=>by obtain⟨i,j⟩:=a;obtain⟨k,m⟩:=b;simp only[zc,zs]at e;obtain⟨c,g⟩:=e;injection c with _ c;rw[jd c,qv g]) ⟨h,d⟩ (.inl f)
noncomputable def T7 (l:List za) (s:za):O:=.q8 [int (kD l s).1,qO (kD l s).2]
noncomputable def T8 (l:List za) (s:za):O:=qO (kD l s).2
noncomputable abbrev Cbk:Ctx:=zG prog [(129,zg false [] (xR lsP fun _ _=>True)),(165,zg false [] Jd)]
theorem tY(l:List za)(s:za)(A:VH l<=zw)(hs:s.length<=zw):zt Cbk f133 [.sl 1 (zZ l),str s]=some (T7 l s):=by
 refine zl rfl ?_;have J:=bR l;have B:=fun s (hs:s∈l)=>bQ hs
 unfold zw at A hs;have i:(zZ l).length=l.length:=by simp[zZ]
 have j:∀(k:Nat) (h:k<(zZ l).length) (C:k<l.length),(zZ l)[k]=[str l[k]]:=fun k h C=>by simp[zZ]
 simp[i];refine jI (fun st=>st.U 0=.sl 1 (zZ l)/\st.U 1=str s/\st.U 6=int l.length/\∃lo hi:Nat,lo<=hi/\hi<=l.length/\st.U 7=int lo/\st.U 8=int hi/\jg (kx l s) 0 l.length=jg (kx l s) lo hi)
  (fun st=>(k7 (st.U 8)).toNat-(k7 (st.U 7)).toNat) ⟨by simp,by simp,by simp,0,l.length,by simp,by simp,by simp,by simp,rfl⟩ ?_
 rintro⟨U,Y,Z⟩ ⟨p,q,r,lo,hi,D,w,t,u,e⟩;simp only at p q r t u;by_cases c:lo<hi
 ·have z:=wo ((lo:Int)+hi);have E:(lo+hi)/2<l.length:=by omega
  obtain⟨m,x⟩:∃m,m=(lo+hi)/2:=⟨_,rfl⟩;have f:i6.wrap ((IntKind.u64.wrap ((lo:Int)+hi)).fdiv (2 ^ min 1 IntKind.u64.bits))=(m:Int):=by
   have F:IntKind.u64.wrap ((lo:Int)+hi)=(lo:Int)+hi:=by rw[Qp];omega
   have G:(2 ^ min 1 IntKind.u64.bits:Int)=2:=by decide
   rw[F,G,jP _ (by omega),qE (by omega) (by omega)];omega
  have a:m<l.length:=by omega
  have b:m<(zZ l).length:=by omega
  have H:=qz m;have y:kx l s m=Op.bytesLess l[m] s:=by simp only[kx,zn a];rw[yg,qG];exact VE _ _
  rw[vt (lo:=lo) c,<-x,y]at e;have d:=fun Y Z=>Mr l[m] s Y Z (by have:=B _ (zm a);unfold zw;omega) (by unfold zw;omega)
  cases o:Op.bytesLess l[m] s
  ·rw[o,zj (by simp)]at e;rw[o]at d;simp[p,q,r,t,u,c,z,f,i,b,a,j m b a,d];exact⟨⟨lo,m,by omega,by omega,rfl,rfl,e⟩,by omega⟩
  ·rw[o,ze rfl]at e;rw[o]at d;simp[p,q,r,t,u,c,z,f,i,b,a,j m b a,d,H];exact⟨⟨m+1,hi,by omega,w,by omega,rfl,e⟩,by omega⟩
 ·have e:jg (kx l s) 0 l.length=lo:=by rw[e,Zp (lo:=lo) c]
  unfold T7 kD;rw[e];by_cases n:lo<l.length
  ·have g:lo<(zZ l).length:=by omega
   have I:(wX l[lo] s==0)=(l[lo]==s):=by rw[yg,jh,jh];exact xX _ _
   cases o:l[lo]==s <;>
    simp[p,q,r,t,u,c,n,g,j lo g n,I,o,f133,qU]
  ·have v:l[lo]?=none:=qS (by omega);simp[p,q,r,t,u,c,n,v,f133,qU]
theorem oZ:zf prog 133 (zg false [] (Rv T7)):=
 kL (zM mixed ⟨tX,fN,trivial⟩:AM.Good Cbk _) func133 false [] fun⟨l,s⟩ ⟨a,hs⟩=>⟨zA (zi 2) (by decide),_,tY l s a hs,qa _⟩
noncomputable abbrev Chk:Ctx:=zG prog [(133,zg false [] (Rv T7))]
theorem VK:zf prog 78 (zg false [] (Rv T8)):=
 kL (zM mixed ⟨oZ,trivial⟩:AM.Good Chk _) func78 false [] fun⟨l,s⟩ ⟨b,hs⟩=>by
  have a:=fun Y Z=>oY T7 l s Y Z b hs rfl
  simp only[T7]at a;exact⟨by simp[f78],_,zl rfl (by simp[a,T8,qU,f78]),qa _⟩
theorem lU(l:List za)(s:za)(Y:Hp)(Z:Nat)(h:VH l<=zw)(a:s.length<=zw):zg false [] (Rv T8) [.sl 1 (zZ l),str s] Y Z=some (qO (kD l s).2,Y,Z):=oY T8 l s Y Z h a rfl
theorem bS{l:List za}(a:oQ l)(s:za):(kD l s).2=l.contains s:=by
 rw[yg,SA];constructor
 ·intro h;exact zD (tO h)
 ·intro h;obtain⟨j,b⟩:=fj h;rw[tQ a b]
end Go.Q
namespace Go.AM
def C2(Q:St->Prop)(K:Exit->St->Prop)(e:Exit)(st:St):Prop:=match e with
 | .normal=>Q st
 |e=>K e st
@[simp]theorem zcN(Q:St->Prop)(K:Exit->St->Prop)(st:St):C2 Q K .normal st=Q st:=rfl
@[simp]theorem zcO(Q:St->Prop)(K:Exit->St->Prop)(st:St):C2 Q K .ret st=K .ret st:=rfl
@[simp]theorem zcP(Q:St->Prop)(K:Exit->St->Prop)(i:Nat)(st:St):C2 Q K (.exit i) st=K (.exit i) st:=rfl
theorem Ms{C:Ctx}{a b:Code}{st:St}{K:Exit->St->Prop}(Q:St->Prop)(d:vU C a st (C2 Q K))(f:∀st,Q st->vU C b st K):vU C (.seq a b) st K:=by
 rw[iW];refine d.mono fun e st c=>?_
 cases e
 case normal=>exact f _ c
 all_goals exact c
theorem vf{C:Ctx}{a b:Code}{st:St}{K:Exit->St->Prop}(Q:(Nat->O)->Hp->Nat->Prop)(c:vU C a st (C2 (fun st=>Q st.U st.Y st.Z) K))(d:∀U Y Z,Q U Y Z->vU C b ⟨U,Y,Z⟩ K):vU C (.seq a b) st K:=
 Ms _ c fun st h=>d st.U st.Y st.Z h
end Go.AM
namespace Go.Q
noncomputable def aC (g:Nat) (sp:AM.Spec):Nat->AM.Spec
 | 0=>fun _ _ _=>none
 |k+1=>qq (zG prog [(80,aC g sp k),(g,sp)]) f80
theorem Qi{f:FuncId}(a:∃fn,prog.funcs[f]?=some fn/\(fn.name== "runtime.NumGoroutine")=false/\fn.body.isNone=false):zf prog f (fun _ _ _=>none):=⟨a,fun _ _ _ _ _ _ h=>by cases h⟩
theorem KL{g:Nat}{sp:AM.Spec}(h:zf prog g sp):∀k,zf prog 80 (aC g sp k)
 | 0=>Qi ⟨_,func80,by kernel_rfl,by kernel_rfl⟩
 |k+1=>w8 (qc (q:=[]) (l:=[(80,aC g sp k),(g,sp)]) mixed ⟨KL h k,by simp,h,by simp,trivial⟩) func80
def wO{U:Type}(T:Nat->Prop)(Rep:U->Hp->Prop)(r:O)(s:U)(Y:Hp)(Z:Nat)(x:O)(a:Hp)(Z':Nat):Prop:=x=r/\Rep s a/\Z<=Z'/\∀j,j<Z->¬T j->a j=Y j
theorem v8{S α:Type}{f:S->α->Bool×S}{s:S}{a:α}{l:List α}(h:(f s a).1=true):qw f s (a::l)=(true,(f s a).2):=by rw[qw,ze h]
theorem vg{S α:Type}{f:S->α->Bool×S}{s:S}{a:α}{l:List α}(h:(f s a).1=false):qw f s (a::l)=qw f (f s a).2 l:=by rw[qw,zj (by simp[h])]
theorem Wv{α:Type}(f:α->Bool):∀l:List α,(qw (fun(_:Unit) n=>(f n,())) () l).1=l.any f
 |[]=>rfl
 |a::l=>by
  cases h:f a
  ·simp[qw,h,Wv f l]
  ·simp[qw,h]
theorem XQ{f:qT->Bool}:∀l:List qT,(qw (fun(_:Unit) n=>(!f n,())) () l).1=!(l.all f)
 |[]=>rfl
 |a::l=>by
  cases h:f a
  ·simp[qw,h]
  ·simp[qw,h,XQ l]
theorem dZ{U:Type}{T:Nat->Prop}{Rep:U->Hp->Prop}{step:U->za->Bool×U}{Q:za->Prop}{g:Nat}{sp:AM.Spec}{cap:zb}{Z0:Nat}(t:¬g=80)
  (W:∀j,T j->j<Z0) (J:∀s Y j b,Z0<=j->Rep s Y->Rep s (ql Y j b))
  (X:∀s n Y Z,Q n->n.length<=zw->Z0<=Z->Rep s Y->∃x A Z',sp (str n::cap) Y Z=some (x,A,Z')/\wO T Rep (qO (!(step s n).1)) (step s n).2 Y Z x A Z') :
  ∀(k:Nat) (c:qT) (s:U) (Y:Hp) (Z:Nat),c.cb<=k->c.cb<=zw->(∀n∈c.names,Q n)->Z0<=Z->Rep s Y ->
   ∃x A Z',aC g sp k [.agg c.V,.fn (.func g) [] cap] Y Z=some (x,A,Z')/\wO T Rep (qO (!(qw step s c.names).1)) (qw step s c.names).2 Y Z x A Z'
 | 0,c,_,_,_,h,_,_,_,_=>absurd h (by have:=Xx c;omega)
 |k+1,c,s,B,a,hk,hl,hq,K,L=>by
  have SL:=Kj c;have hal:=xV c.args;have f:=VJ c;unfold aC qq;rw[ze (by simp[f80])];refine zY rfl ?_;have M:=hl;unfold zw at M;have C:Rep s (ql B a (some ⟨66,7,false,[c.V]⟩)):=J _ _ _ _ K L;have N:¬T a:=fun h=>by have:=W _ h;omega
  refine vf (fun U Y Z=>U 1=.fn (.func g) [] cap/\U 2=.ref a 0 0/\Y=ql B a (some ⟨66,7,false,[c.V]⟩)/\Z=a+1) (by simp) ?_;rintro U Y Z ⟨o,z,rfl,rfl⟩;refine vf (fun U Y Z=>U 1=.fn (.func g) [] cap/\U 2=.ref a 0 0/\a<Z/\Y a=some ⟨66,7,false,[c.V]⟩/\∃r,Rep r Y/\(∀j,j<a->¬T j->Y j=B j)/\qw step s c.names=qw step r (xD c.args)) ?_ ?_
  ·by_cases D:c.kind=5
   ·rw[ze D]at f;obtain⟨x,Y2,P,p,rfl,E,n2,F⟩:=X s c.name _ (a+1) (hq c.name (by rw[f];simp)) (by unfold zw;omega) (by omega) C;cases e:(step s c.name).1
    ·rw[e]at p;simp[o,z,D,t,p];refine⟨by omega,by rw[F a (by omega) N];simp,(step s c.name).2,E,fun j I q=>by rw[F j (by omega) q,zk _ _ _ _ (by omega)],?_⟩;rw[f];exact vg e
    ·rw[e]at p;have hv:qw step s c.names=(true,(step s c.name).2):=by rw[f];exact v8 e
     simp[o,z,D,t,p,wO,hv,f80];exact⟨E,by omega,fun j I q=>by rw[F j (by omega) q,zk _ _ _ _ (by omega)]⟩
   ·rw[zj D,yW]at f;have R:=jr D;simp[o,z,R];exact⟨s,C,fun j I q=>by rw[zk _ _ _ _ (by omega)],by rw[f]⟩
  rintro U Y Z ⟨o,z,u,hb,r,G,l,d⟩;simp[z,hb];refine zP (fun k U Y Z=>U 1=.fn (.func g) [] cap/\U 18=.sl 7 (c.args.map qT.V)/\U 19=int c.args.length/\U 20=int k/\a<Z/\(∀j,j<a->¬T j->Y j=B j)/\∃s2,Rep s2 Y/\qw step s c.names=qw step s2 (xD (c.args.drop k))) c.args.length
   ⟨by simp[o],by simp,by simp,by simp,u,l,r,G,by simpa using d⟩ ?_
  clear o z u hb G l d r U Y Z;rintro i U Y Z hi ⟨o,v,w,y,u,l,r,G,d⟩;by_cases m:i<c.args.length
  ·have hm:=W8 (zm m);have hw:=qz i;have S:∀n∈c.args[i].names,Q n:=fun n q=>hq n (by rw[f];exact qh.2 (.inr (Yz.2 ⟨_,zm m,q⟩)))
   obtain⟨x,Y2,P,p,rfl,E,n2,F⟩:=dZ t W J X k c.args[i] r (ql Y Z (some ⟨66,7,false,[c.args[i].V]⟩)) (Z+1) (by omega) (by unfold zw;omega) S (by omega) (J _ _ _ _ (by omega) G);rw[oT m,gV]at d;have H:∀j,j<a->¬T j->Y2 j=B j:=fun j I q=>by rw[F j (by omega) q,zk _ _ _ _ (by omega)];exact l j I q
   cases e:(qw step r c.args[i].names).1
   ·rw[e,zj (by simp)]at d;rw[e]at p;simp[o,v,w,y,m,p,hw];exact⟨by omega,by omega,H,_,E,d⟩
   ·rw[e,ze rfl]at d;rw[e]at p;simp[o,v,w,y,m,p,wO,d,f80];exact⟨E,by omega,H⟩
  ·obtain rfl:i=c.args.length:=by omega
   rw[zp]at d;simp only[xD,qw]at d;simp[o,v,w,y,wO,d,f80];exact⟨G,by omega,l⟩
noncomputable def o0 (Ta:kW):AM.Spec:=qq (zG prog Ta) f147
noncomputable def AX (Ta:kW):AM.Spec:=qq (zG prog [(147,o0 Ta)]) f104
theorem tZ{Ta:kW}(h:YK True prog [] Ta):zf prog 147 (o0 Ta):=w8 (qc (q:=[]) mixed h) func147
theorem ua{Ta:kW}(h:YK True prog [] Ta):zf prog 104 (AX Ta):=w8 (qc (q:=[]) (l:=[(147,o0 Ta)]) mixed ⟨tZ h,by simp,trivial⟩) func104
theorem GH{U:Type}{T:Nat->Prop}{Rep:U->Hp->Prop}{step:U->qp->Bool×U}{Ta:kW}{g:Nat}{sp:AM.Spec}{fi cap:zb}{Z0:Nat}(y:lookup Ta g=some sp)(xs:List qp)(C:xs.length<=zw)
  (D:∀s x Y Z,x∈xs->Z0<=Z->Rep s Y->∃r b Z',sp (fi++.agg x.V::cap) Y Z=some (r,b,Z')/\wO T Rep (qO (step s x).1) (step s x).2 Y Z r b Z')
  (f:U) (h:Hp) (a:Nat) (N:Z0<=a) (E:Rep f h) :
  ∃r b Z',AX Ta [.sl 5 (xs.map qp.V),.fn (.func g) fi cap] h a=some (r,b,Z')/\wO T Rep (qO (qw step f xs).1) (qw step f xs).2 h a r b Z':=by
 have p:∃r b Z',o0 Ta [.sl 5 (xs.map qp.V),.fn (.func g) fi cap] h a=some (r,b,Z')/\∃z:Int,r=int z/\decide (0<=z)=(qw step f xs).1/\wO T Rep (int z) (qw step f xs).2 h a r b Z':=by
  unfold o0 qq;rw[ze (by simp[f147])];refine zY rfl ?_;unfold zw at C;simp;refine zP (fun k U Y Z=>U 0=.sl 5 (xs.map qp.V)/\U 1=.fn (.func g) fi cap/\U 7=int xs.length/\U 8=int k/\a<=Z/\(∀j,j<a->¬T j->Y j=h j)/\∃s,Rep s Y/\qw step f xs=qw step s (xs.drop k)) xs.length ⟨by simp,by simp,by simp,by simp,zi _,fun _ _ _=>rfl,f,E,by simp⟩ ?_;rintro k U Y Z P ⟨q,t,u,v,w,l,s,m,e⟩;by_cases c:k<xs.length
  ·have F:=qz k;obtain⟨x,o⟩:=kC (xs[k]);obtain⟨r,Y2,G,i,rfl,A,Q,H⟩:=D s x Y Z (by rw[<-o];exact zm c) (by omega) m;rw[zd c,o]at e;have n:∀j,j<a->¬T j->Y2 j=h j:=fun j I B=>by rw[H j (by omega) B];exact l j I B
   cases d:(step s x).1
   ·rw[vg d]at e;rw[d]at i;simp[q,t,u,v,c,o,y,i,F];exact⟨by omega,by omega,n,_,A,e⟩
   ·rw[v8 d]at e;rw[d]at i;simp[q,t,u,v,c,o,y,i,e,wO,f147];exact⟨A,by omega,n⟩
  ·obtain rfl:k=xs.length:=by omega
   rw[zp]at e;simp only[qw]at e;simp[q,t,u,v,e,wO,f147];exact⟨m,w,l⟩
 obtain⟨r,b,Z',i,z,rfl,J,_,K,L,M⟩:=p;unfold AX qq;rw[ze (by simp[f104])];refine zY rfl ?_;simp[i,J,wO,f104];exact⟨K,L,M⟩
@[simp]theorem zch(s:wG):s.V.length=11:=rfl
@[simp]theorem zaY(s:wG):s.V.take 11=s.V:=q6 (by simp)
noncomputable def o1 (Ta:kW):AM.Spec:=qq (zG prog Ta) f227
noncomputable def AY (Ta:kW):AM.Spec:=qq (zG prog [(227,o1 Ta)]) f190
theorem ub{Ta:kW}(h:YK True prog [] Ta):zf prog 227 (o1 Ta):=w8 (qc (q:=[]) mixed h) func227
theorem uc{Ta:kW}(h:YK True prog [] Ta):zf prog 190 (AY Ta):=w8 (qc (q:=[]) (l:=[(227,o1 Ta)]) mixed ⟨ub h,by simp,trivial⟩) func190
theorem GJ{U:Type}{T:Nat->Prop}{Rep:U->Hp->Prop}{step:U->wG->Bool×U}{Ta:kW}{g:Nat}{sp:AM.Spec}{fi cap:zb}{Z0:Nat}(y:lookup Ta g=some sp)(xs:List wG)(C:xs.length<=zw)
  (D:∀s x Y Z,x∈xs->Z0<=Z->Rep s Y->∃r b Z',sp (fi++.agg x.V::cap) Y Z=some (r,b,Z')/\wO T Rep (qO (step s x).1) (step s x).2 Y Z r b Z')
  (f:U) (h:Hp) (a:Nat) (N:Z0<=a) (E:Rep f h) :
  ∃r b Z',AY Ta [.sl 11 (xs.map wG.V),.fn (.func g) fi cap] h a=some (r,b,Z')/\wO T Rep (qO (qw step f xs).1) (qw step f xs).2 h a r b Z':=by
 have p:∃r b Z',o1 Ta [.sl 11 (xs.map wG.V),.fn (.func g) fi cap] h a=some (r,b,Z')/\∃z:Int,r=int z/\decide (0<=z)=(qw step f xs).1/\wO T Rep (int z) (qw step f xs).2 h a r b Z':=by
  unfold o1 qq;rw[ze (by simp[f227])];refine zY rfl ?_;unfold zw at C;simp;refine zP (fun k U Y Z=>U 0=.sl 11 (xs.map wG.V)/\U 1=.fn (.func g) fi cap/\U 7=int xs.length/\U 8=int k/\a<=Z/\(∀j,j<a->¬T j->Y j=h j)/\∃s,Rep s Y/\qw step f xs=qw step s (xs.drop k)) xs.length ⟨by simp,by simp,by simp,by simp,zi _,fun _ _ _=>rfl,f,E,by simp⟩ ?_;rintro k U Y Z P ⟨q,t,u,v,w,l,s,m,e⟩;by_cases c:k<xs.length
  ·have F:=qz k;obtain⟨x,o⟩:=kC (xs[k]);obtain⟨r,Y2,G,i,rfl,A,Q,H⟩:=D s x Y Z (by rw[<-o];exact zm c) (by omega) m;rw[zd c,o]at e;have n:∀j,j<a->¬T j->Y2 j=h j:=fun j I B=>by rw[H j (by omega) B];exact l j I B
   cases d:(step s x).1
   ·rw[vg d]at e;rw[d]at i;simp[q,t,u,v,c,o,y,i,F];exact⟨by omega,by omega,n,_,A,e⟩
   ·rw[v8 d]at e;rw[d]at i;simp[q,t,u,v,c,o,y,i,e,wO,f227];exact⟨A,by omega,n⟩
  ·obtain rfl:k=xs.length:=by omega
   rw[zp]at e;simp only[qw]at e;simp[q,t,u,v,e,wO,f227];exact⟨m,w,l⟩
 obtain⟨r,b,Z',i,z,rfl,J,_,K,L,M⟩:=p;unfold AY qq;rw[ze (by simp[f190])];refine zY rfl ?_;simp[i,J,wO,f190];exact⟨K,L,M⟩
def Mt(a b:za):O:=qO (Lib.hasSuffix a b)
theorem bo(a b:za)(c:a.length<=zw)(d:b.length<=zw):zt Cw0 f174 [str a,str b]=some (Mt a b):=by
 refine zl rfl ?_;have hs:=Lib.hasSuffix_of_drop a b;unfold zw at c d;by_cases h:b.length<=a.length
 ·rw[Zv h,Ej]at hs;have e:i6.wrap ((a.length:Int)-b.length)=((a.length-b.length:Nat):Int):=by rw[qE (by omega) (by omega)];omega
  have f:(a.drop (a.length-b.length)).take (a.length-(a.length-b.length))=a.drop (a.length-b.length):=q6 (by simp);simp[h,e,Mt,<-hs,f,f174]
 ·rw[Qo h,Bool.false_and]at hs;have g:¬((b.length:Int)<=a.length):=by omega
  simp[h,g,Mt,<-hs,f174]
theorem XR:zf prog 174 (zg false [] (xR Mt fun _ _=>True)):=
 yt (fn:=f174) ta (qW func174) false [] _ fun args r h=>by obtain⟨a,b,rfl,c,d,_,rfl⟩:=jB h;exact⟨by simp[f174],_,bo a b c d,qa _⟩
theorem AZ(a b:za)(Y:Hp)(Z:Nat)(h:a.length<=zw)(c:b.length<=zw):zg false [] (xR Mt fun _ _=>True) [str a,str b] Y Z=some (qO (Lib.hasSuffix a b),Y,Z):=jL _ _ a b Y Z h c trivial rfl
noncomputable abbrev Chsf:Ctx:=zG prog [(174,zg false [] (xR Mt fun _ _=>True))]
theorem bp:zf prog 149 (zg false [] (xR Mt fun _ _=>True)):=
 yt (fn:=f149) (zM mixed ⟨XR,trivial⟩:AM.Good Chsf _) (qW func149) false [] _ fun args r h=>by obtain⟨a,b,rfl,c,d,_,rfl⟩:=jB h;exact⟨by simp[f149],_,zl rfl (by simp[AZ,c,d,Mt,f149]),qa _⟩
noncomputable def FCu (f:Cut->O):zb->Option O:=zS (α:=Cut) (fun c=>[.agg c.V]) (fun c=>c.v.small) f
theorem GK(f:Cut->O)(c:Cut)(Y:Hp)(Z:Nat)(h:c.v.small)(d:(f c).flat=true):zg false [] (FCu f) [.agg c.V] Y Z=some (f c,Y,Z):=
 Zc c _ _ (by simp[Cut.V]) (fun a b e=>by simp only[zc,zs,O.agg.injEq]at e;exact xi e) h (.inl d)
def Ww(c:Cut):Bool:=c.v.a==0&&(c.v.b==0&&(c.v.c==0&&((c.v.pre.length:Int)==0&&!c.after)))
theorem o5(c:Cut):zt Cw0 f226 [.agg c.V]=some (qO (Ww c)):=by
 refine zl rfl ?_;obtain⟨⟨x,y,z,p⟩,f⟩:=c;by_cases a:x=0
 case neg=>have d:=jr a;simp[Cut.V,d,Ww,f226]
 by_cases b:y=0
 case neg=>have e:=jr b;simp[Cut.V,a,e,Ww,f226]
 by_cases g:z=0
 case neg=>have h:=jr g;simp[Cut.V,a,b,h,Ww,f226]
 cases i:((p.length:Int)==0)
 ·simp[Cut.V,a,b,g,i,Ww,f226]
 ·cases f<;>simp[Cut.V,a,b,g,i,Ww,f226]
theorem lV:zf prog 226 (zg false [] (FCu fun c=>qO (Ww c))):=
 kL ta func226 false [] fun c _=>⟨by simp[f226],_,o5 c,qa _⟩
noncomputable def ea (v:yE) (c:Cut):Bool:=decide (0<Wn v c.v)||(Wn v c.v==0&&!c.after)
noncomputable def FVC (f:yE->Cut->O):zb->Option O:=zS (α:=yE×Cut) (fun a=>[.agg a.1.V,.agg a.2.V]) (fun a=>a.1.small/\a.2.v.small) (fun a=>f a.1 a.2)
theorem o6(f:yE->Cut->O)(v:yE)(c:Cut)(Y:Hp)(Z:Nat)(h:v.small)(d:c.v.small)(g:(f v c).flat=true):zg false [] (FVC f) [.agg v.V,.agg c.V] Y Z=some (f v c,Y,Z):=
 Zc (v,c) _ _ (by simp[Cut.V,yE.V]) (fun a b e=>by obtain⟨i,j⟩:=a;obtain⟨k,l⟩:=b;simp only[zc,zs,O.agg.injEq]at e;rw[Wl e.1,xi e.2]) ⟨h,d⟩ (.inl g)
theorem o7(v:yE)(c:Cut)(h:v.small)(f:c.v.small):zt Ccu f192 [.agg v.V,.agg c.V]=some (qO (ea v c)):=by
 refine zl rfl ?_;have a:=fun Y Z=>Az v c.v Y Z h f
 simp only[yE.V]at a;by_cases d:0<Wn v c.v
 ·simp[Cut.V,yE.V,a,d,ea,f192]
 by_cases e:Wn v c.v=0
 ·cases g:c.after<;>simp[Cut.V,yE.V,a,e,g,ea,f192]
 ·have b:=jr e;simp[Cut.V,yE.V,a,d,b,ea,f192]
theorem lW:zf prog 192 (zg false [] (FVC fun v c=>qO (ea v c))):=
 kL FJ func192 false [] fun⟨v,c⟩ ⟨a,b⟩=>⟨by simp[f192],_,o7 v c a b,qa _⟩
noncomputable def Qj (s:wG):Int:=if s.ki=true then(if Ww s.hi=true then 0 else 3)else if jM s.hi.v=0 then(if 0<=xl s.lo s.hi then 8 else 0)else jM s.hi.v
noncomputable def Yl (p:Option wG) (s:wG):Bool:=match p with
 |none=>false
 |some q=>q.ki||decide (0<=xl q.hi s.lo)
noncomputable def lX:Option wG->List wG->Int
 |_,[]=>0
 |p,s::l=>if jM s.lo.v=0 then(if Qj s=0 then(if Yl p s=true then 8 else lX (some s) l)else Qj s)else jM s.lo.v
theorem C3{l:List wG}{k:Nat}(h:k<l.length)(p:Option wG):lX p (l.drop k)=if jM l[k].lo.v=0 then(if Qj l[k]=0 then(if Yl p l[k]=true then 8 else lX (some l[k]) (l.drop (k+1)))else Qj l[k])else jM l[k].lo.v:=by rw[zd h,lX]
def aD(l:List wG)(k:Nat):Option wG:=if k=0 then none else l[k-1]?
noncomputable def Wx (l:List wG):Int:=if(100:Int)<l.length then 2 else lX none l
noncomputable def Rw (v:yE) (s:wG):Bool:=ea v s.lo&&(s.ki||!ea v s.hi)
noncomputable abbrev Rx:Ctx:=zG prog [(180,qH [.g Zn] (I7 fun v=>int (jM v))),(226,zg false [] (FCu fun c=>qO (Ww c))),(223,qH [.g v7,.g v7] (FG fun v w=>int (xl v w)))]
theorem Mu:AM.Good Rx (fun g=>[223].contains g):=qc mixed ⟨vY,by simp,lV,by simp,kR,fun _=>vp _ _,trivial⟩
theorem C4:Zy Rx (fun g=>[223].contains g) 189 f189:=qW func189
theorem ec(v:yE)(Y:Hp)(Z:Nat)(h:v.small):qH [.g Zn] (I7 fun v=>int (jM v)) [.agg v.V] Y Z=some (int (jM v),Y,Z):=c7 (fun v=>int (jM v)) v (.agg v.V) Y Y Z (.agg v.V) (by simp[yE.V]) (by simp[yE.V]) h rfl
theorem bq(l:List wG)(hl:yQ l):zt Rx f189 [.sl 11 (qD l)]=some (int (Wx l)):=by
 obtain⟨R,S⟩:=hl;unfold zw at R;have e:(qD l).length=l.length:=by simp[qD]
 have T:∀(k:Nat) (h:k<(qD l).length) (h':k<l.length),(qD l)[k]=l[k].V:=fun k h h'=>by simp[qD]
 refine zl rfl ?_;by_cases E:(100:Int)<l.length
 ·have p:Wx l=2:=by unfold Wx;rw[ze E]
  simp[e,E,p,f189]
 simp[e,E];refine zP (fun k U Y Z=>U 0=.sl 11 (qD l)/\U 10=.sl 11 (qD l)/\U 11=int l.length/\U 12=int k/\lX none l=lX (aD l k) (l.drop k)) l.length ⟨by simp,by simp,by simp,by simp,by simp[aD]⟩ ?_;rintro k U Y Z hk ⟨x,f,g,i,o⟩;by_cases b:k<l.length
 ·have hw:=qz k;obtain⟨s,hs⟩:=kC (l[k]);have y:=S s (by rw[<-hs];exact zm b);have a:k<(qD l).length:=by omega
  have m:=T k a b;rw[hs]at m;have H:aD l (k+1)=some s:=by simp[aD,b,hs]
  have z:=fun Y Z=>ec s.lo.v Y Z y.1
  have I:=fun Y Z=>ec s.hi.v Y Z y.2
  have J:=fun Y Z=>GK (fun c=>qO (Ww c)) s.hi Y Z y.2 rfl
  have K:=fun Y Z=>Jh s.lo s.hi Y Z y.1 y.2
  simp only[yE.V,Cut.V]at z I J K;rw[C3 b,hs]at o;by_cases u:jM s.lo.v=0
  case neg=>
   rw[zj u]at o;have d1':=xE u;have p:Wx l=jM s.lo.v:=by unfold Wx;rw[zj E,o]
   simp[x,f,g,i,e,b,a,m,wG.V,Cut.V,z,d1',p,f189]
  rw[ze u]at o;by_cases B:Qj s=0
  case neg=>
   rw[zj B]at o;have p:Wx l=Qj s:=by unfold Wx;rw[zj E,o]
   cases n:s.ki
   ·by_cases d:jM s.hi.v=0
    ·by_cases w:0<=xl s.lo s.hi
     ·have W:Qj s=8:=by unfold Qj;rw[n,zj (by simp),ze d,ze w]
      simp[x,f,g,i,e,b,a,m,wG.V,Cut.V,z,I,K,u,n,d,w,p,W,f189]
     ·exact absurd (by unfold Qj;rw[n,zj (by simp),ze d,zj w]) B
    ·have e2':=xE d;have W:Qj s=jM s.hi.v:=by unfold Qj;rw[n,zj (by simp),zj d]
     simp[x,f,g,i,e,b,a,m,wG.V,Cut.V,z,I,u,n,e2',p,W,f189]
   ·cases d:Ww s.hi
    ·have W:Qj s=3:=by unfold Qj;rw[n,ze rfl,d,zj (by simp)]
     simp[x,f,g,i,e,b,a,m,wG.V,Cut.V,z,J,u,n,d,p,W,f189]
    ·exact absurd (by unfold Qj;rw[n,ze rfl,d,ze rfl]) B
  rw[ze B]at o;have C:(s.ki=true/\Ww s.hi=true)\/(s.ki=false/\jM s.hi.v=0/\¬0<=xl s.lo s.hi):=by
   unfold Qj at B;cases n:s.ki
   ·rw[n,zj (by simp)]at B;by_cases d:jM s.hi.v=0
    ·rw[ze d]at B;by_cases w:0<=xl s.lo s.hi
     ·rw[ze w]at B;omega
     ·exact .inr ⟨rfl,d,w⟩
    ·rw[zj d]at B;exact absurd B d
   ·rw[n,ze rfl]at B;cases d:Ww s.hi
    ·rw[d,zj (by simp)]at B;omega
    ·exact .inl ⟨rfl,rfl⟩
  by_cases k0:k=0
  ·subst k0;have w1:=wo 1;simp only[aD,Yl,qI,zE,wE]at o;have F:lX none l=lX (aD l 1) l.tail:=by rw[o,H];simp
   rcases C with⟨n,d⟩|⟨n,d,w⟩
   ·simp[x,f,g,i,e,b,a,m,wG.V,Cut.V,z,J,u,n,d,w1];exact⟨by omega,F⟩
   ·simp[x,f,g,i,e,b,a,m,wG.V,Cut.V,z,I,K,u,n,d,w,w1];exact⟨by omega,F⟩
  ·obtain⟨j,rfl⟩:∃j,k=j+1:=⟨k-1,by omega⟩;have D:j<l.length:=by omega
   have r:j<(qD l).length:=by omega
   obtain⟨q,hq⟩:=kC (l[j]);have hqq:=S q (by rw[<-hq];exact zm D);have t:=T j r D;rw[hq]at t;have L:i6.wrap ((j:Int)+1-1)=(j:Int):=by rw[qE (by omega) (by omega)];omega
   have A:=wo (j:Int);have M:((j:Int)+1).toNat=j+1:=by omega
   have N:0<(j:Int)+1:=by omega
   have P:0<=(j:Int)+1:=by omega
   have Q:(j:Int)+1<l.length:=by omega
   have wk:=wo ((j:Int)+1+1);have hpj:aD l (j+1)=some q:=by simp[aD,D,hq]
   have X:=fun Y Z=>Jh q.hi s.lo Y Z hqq.2 y.1
   simp only[Cut.V]at X;rw[hpj]at o;cases G:q.ki
   ·by_cases o2:0<=xl q.hi s.lo
    ·have ho:Yl (some q) s=true:=by simp[Yl,o2]
     rw[ho,ze rfl]at o;have p:Wx l=8:=by unfold Wx;rw[zj E,o]
     rcases C with⟨n,d⟩|⟨n,d,w⟩
     ·simp[x,f,g,i,e,b,a,m,D,r,t,wG.V,Cut.V,z,J,X,u,n,d,G,o2,L,A,M,N,P,Q,p,f189]
     ·simp[x,f,g,i,e,b,a,m,D,r,t,wG.V,Cut.V,z,I,K,X,u,n,d,w,G,o2,L,A,M,N,P,Q,p,f189]
    ·have ho:Yl (some q) s=false:=by simp[Yl,G];omega
     rw[ho,zj (by simp)]at o;rcases C with⟨n,d⟩|⟨n,d,w⟩
     ·simp[x,f,g,i,e,b,a,m,D,r,t,wG.V,Cut.V,z,J,X,u,n,d,G,o2,L,A,M,N,P,Q,wk];exact⟨by omega,by rw[o,H]⟩
     ·simp[x,f,g,i,e,b,a,m,D,r,t,wG.V,Cut.V,z,I,K,X,u,n,d,w,G,o2,L,A,M,N,P,Q,wk];exact⟨by omega,by rw[o,H]⟩
   ·have ho:Yl (some q) s=true:=by simp[Yl,G]
    rw[ho,ze rfl]at o;have p:Wx l=8:=by unfold Wx;rw[zj E,o]
    rcases C with⟨n,d⟩|⟨n,d,w⟩
    ·simp[x,f,g,i,e,b,a,m,D,r,t,wG.V,Cut.V,z,J,u,n,d,G,L,A,M,N,P,Q,p,f189]
    ·simp[x,f,g,i,e,b,a,m,D,r,t,wG.V,Cut.V,z,I,K,u,n,d,w,G,L,A,M,N,P,Q,p,f189]
 ·obtain rfl:k=l.length:=by omega
  rw[zp]at o;have p:Wx l=0:=by unfold Wx;rw[zj E,o];rfl
  simp[x,f,g,i,p,f189]
noncomputable def FRs (f:List wG->O):zb->Option O:=zS (α:=List wG) (fun l=>[.sl 11 (qD l)]) yQ f
theorem GL(f:List wG->O)(l:List wG)(Y:Hp)(Z:Nat)(h:yQ l)(c:(f l).flat=true):zg false [] (FRs f) [.sl 11 (qD l)] Y Z=some (f l,Y,Z):=
 Zc l _ _ rfl (fun a b e=>by
  simp only[zc,zs]at e;injection e with _ e
  exact Qd e) h (.inl c)
theorem XT:zf prog 189 (zg false [] (FRs fun l=>int (Wx l))):=
 yt (fn:=f189) Mu C4 false [] _ fun args r h=>by obtain⟨l,rfl,a,rfl⟩:=qd h;exact⟨zA (zi 1) (by decide),_,bq l a,qa _⟩
noncomputable abbrev Cwt1:Ctx:=zG prog [(192,zg false [] (FVC fun v c=>qO (ea v c)))]
noncomputable abbrev GM:AM.Spec:=qq Cwt1 f191
theorem C5:zf prog 191 GM:=w8 (zM mixed ⟨lW,trivial⟩:AM.Good Cwt1 _) func191
def GN(v:yE):jV:=⟨212,4,false,[v.V]⟩
theorem Mv(v:yE)(s:wG)(f:v.small)(i:s.lo.v.small)(j:s.hi.v.small)(Y:Hp)(Z id:Nat)(hid:id<Z)(a:Y id=some (GN v)):GM [.agg s.V,.ref id 0 0] Y Z=some (qO (Rw v s),ql Y Z (some ⟨258,11,false,[s.V]⟩),Z+1):=by
 unfold GM qq;rw[ze (by simp[f191])];refine wx rfl ?_;have b:=fun Y Z=>o6 (fun v c=>qO (ea v c)) v s.lo Y Z f i rfl
 have g:=fun Y Z=>o6 (fun v c=>qO (ea v c)) v s.hi Y Z f j rfl
 have d:¬id=Z:=by omega
 simp only[GN,yE.V]at a;simp only[Cut.V,yE.V]at b g;cases e:ea v s.lo
 ·simp[wG.V,Cut.V,a,d,b,e,Rw,f191]
 ·cases h:s.ki
  ·simp[wG.V,Cut.V,a,d,b,g,e,h,Rw,f191]
  ·simp[wG.V,Cut.V,a,d,b,e,h,Rw,f191]
noncomputable def lY (v:yE) (l:List wG):Bool×Int:=if jM v=0 then(if Wx l=0 then(l.any (Rw v),0)else(false,Wx l))else(false,jM v)
noncomputable def o8 (v:yE) (l:List wG):O:=.q8 [qO (lY v l).1,int (lY v l).2]
noncomputable def FVR (f:yE->List wG->O):zb->Option O:=zS (α:=yE×List wG) (fun a=>[.agg a.1.V,.sl 11 (qD a.2)]) (fun a=>a.1.small/\yQ a.2) (fun a=>f a.1 a.2)
theorem GO(f:yE->List wG->O)(v:yE)(l:List wG)(Y:Hp)(Z:Nat)(h:v.small)(d:yQ l)(g:(f v l).flat=true):zg false [] (FVR f) [.agg v.V,.sl 11 (qD l)] Y Z=some (f v l,Y,Z):=
 Zc (v,l) _ _ (by simp[yE.V]) (fun a b e=>by obtain⟨j,k⟩:=a;obtain⟨m,n⟩:=b;simp only[zc,zs,O.agg.injEq]at e;obtain⟨i,c⟩:=e;injection c with _ c;rw[Wl i,Qd c]) ⟨h,d⟩ (.inl g)
noncomputable abbrev TAwt:kW:=[(191,GM)]
noncomputable abbrev Cwth:Ctx:=zG prog [(180,qH [.g Zn] (I7 fun v=>int (jM v))),(189,zg false [] (FRs fun l=>int (Wx l))),(190,AY TAwt)]
theorem o9(v:yE)(l:List wG)(k:v.small)(c:yQ l):zt Cwth f154 [.agg v.V,.sl 11 (qD l)]=some (o8 v l):=by
 refine zl rfl ?_;have d:=fun Y Z=>ec v Y Z k
 have m:=fun Y Z=>GL (fun l=>int (Wx l)) l Y Z c rfl
 obtain⟨r,o,Z',e,rfl,_,_,_⟩:=GJ (U:=Unit) (T:=fun _=>False) (Rep:=fun _ Y=>Y 0=some (GN v)) (step:=fun _ s=>(Rw v s,())) (Ta:=TAwt) (g:=191) (sp:=GM) (fi:=[]) (cap:=[.ref 0 0 0]) (Z0:=1) (by simp) l c.1
  (fun _ s Y Z hs p n=>⟨_,_,_,Mv v s k (c.2 s hs).1 (c.2 s hs).2 Y Z 0 (by omega) n,rfl,(zk _ _ _ _ (by omega)).trans n,by omega,fun j q _=>zk _ _ _ _ (by omega)⟩) () (ql (fun _=>none) 0 (some (GN v))) 1 (zi _) (by simp)
 rw[Wv]at e;simp only[GN,yE.V]at e;rw[show l.map wG.V=qD l from rfl]at e;simp only[yE.V]at d;by_cases a:jM v=0
 case neg=>
  have h:=xE a;have b:lY v l=(false,jM v):=by unfold lY;rw[zj a]
  simp[yE.V,d,h,o8,b,qU,f154]
 by_cases f:Wx l=0
 case neg=>
  have i:=xE f;have b:lY v l=(false,Wx l):=by unfold lY;rw[ze a,zj f]
  simp[yE.V,d,a,m,i,o8,b,qU,f154]
 have b:lY v l=(l.any (Rw v),0):=by unfold lY;rw[ze a,ze f]
 simp[yE.V,d,a,m,f,e,o8,b,qU,f154]
theorem fO:zf prog 154 (zg false [] (FVR o8)):=
 kL (zM mixed ⟨vY,XT,uc ⟨C5,by simp,trivial⟩,trivial⟩:AM.Good Cwth _) func154 false [] fun⟨v,l⟩ ⟨a,b⟩=>⟨by simp[f154],_,o9 v l a b,qa _⟩
end Go.Q
