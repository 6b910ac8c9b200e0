/-
The reference's spans of a layer: what is busy.
For every book, layer, name and time (of bulk up to 1048576) the law burgeelaw4.LayerFreeMatchesSpec answers true: its evaluation.
The abstract machine, part 27: what the row reads, as pure values, datum by datum.
The abstract machine, part 28: data taken apart by their types' shapes.
-/
import Derived.Test.YtdkfdoeijcfbhaaGreatDoorG32
import Derived.Test.YtdkfdoeijcfbhaaGreatDoorG29
import Derived.Test.YtdkfdoeijcfbhaaGreatDoorG9
set_option maxRecDepth 8000
namespace Go.Proofs.YtdkfdoeijcfbhaaGreatDoor
open Go.Proofs.Tryz
open Go.RowKit Go.AM Go.SpanLaw
theorem insPc_end {hp:Hp} {nx:Nat} {v:PV} {xs:List (List PV)} {c:List PV} (h:OwnS hp nx 47 3 v xs) (hm:xs.length≤4194304) :
  hRun C0 f40 [v,int (xs.length:Nat),.own nx 0 1] (upd hp nx (some ⟨47,3,true,[c]⟩)) (nx+1)=some (.own (nx+1) 0 (xs.length+1),upd (vn v (upd hp nx (some ⟨47,3,true,[c]⟩))) (nx+1) (some ⟨47,3,true,xs++[c]⟩),nx+2):=by
 unfold hRun
 rw[if_pos (by simp[f40])]
 refine wK rfl ?_
 have hap:=OwnS.append1 (P:=prog) (t:=42) (c:=c) h el42 sz47 by47 ze47 rfl (by omega) (by unfold maxLen;omega) (by omega)
 rcases h with⟨rfl,rfl⟩ | ⟨id,hid,rfl,hh⟩
 ·simp at hap
  simp[qS,hap,f40]
 ·have n1:¬id=nx:=by omega
  simp[qS,hap,hh,n1,f40]
noncomputable abbrev zdG:AM.Spec:=hIns C0 f40 47 3 32
set_option maxRecDepth 100000 in
theorem insPS_sound:za prog 40 zdG :=
 KW (JT ⟨_,func40,by decide,by kernel_rfl⟩ sz47 (by decide) insP_ok) (ql (code:=_) qA ⟨func40,by kernel_rfl,rfl,by kernel_rfl⟩)
theorem insPS_call {hp:Hp} {nx i:Nat} {v:PV} {xs:List (List PV)} {c:List PV} (h:OwnS hp nx 47 3 v xs) (hi:i≤xs.length) (hm:xs.length≤4194304) :
  zdG [v,int i,.own nx 0 1] (upd hp nx (some ⟨47,3,true,[c]⟩)) (nx+1)=some (.own (nx+1) 0 (xs.length+1),upd (vn v (upd hp nx (some ⟨47,3,true,[c]⟩))) (nx+1) (some ⟨47,3,true,xs.take i++c::xs.drop i⟩),nx+2):=by
 unfold zdG hIns
 by_cases hlt:i<xs.length
 ·rw[zal h hlt (by omega) (by unfold maxLen;omega)]
 ·obtain rfl:i=xs.length:=by omega
  rw[zcd h]
  simp only
  rw[insPc_end h hm,List.take_length,List.drop_length]
def We (p:Pce):List Pce→List Pce
 | []=>[p]
 | a::l=>if a.1.1<p.1.1 then a::We p l else p::a::l
theorem VW (p:Pce):∀(l:List Pce) (i:Nat),i≤l.length→(∀j (h:j<l.length),j<i→l[j].1.1<p.1.1)→(∀h:i<l.length,¬l[i].1.1<p.1.1)→We p l=l.take i++p::l.drop i
 | [],i,hi,_,_=>by
   obtain rfl:i=0:=by simpa using hi
   rfl
 | a::l,0,_,_,h2=>by
   have h:=h2 (by simp)
   simp only[List.getElem_cons_zero] at h
   simp only[We]
   rw[if_neg h]
   rfl
 | a::l,i+1,hi,h1,h2=>by
   have ha:=h1 0 (by simp) (by omega)
   simp only[List.getElem_cons_zero] at ha
   simp only[We]
   rw[if_pos ha,VW p l i (by simpa using hi) (fun j hj hji=>h1 (j+1) (by simpa using hj) (by omega)) (fun h=>h2 (by simpa using h))]
   rfl
theorem ZB (p:Pce):∀l:List Pce,(We p l).Perm (p::l)
 | []=>.refl _
 | a::l=>by
   simp only[We]
   split
   ·exact ((ZB p l).cons a).trans (.swap p a l)
   ·exact .refl _
theorem Yg (p:Pce):∀l:List Pce,(l.Pairwise fun a b=>a.1.1≤b.1.1)→(We p l).Pairwise fun a b=>a.1.1≤b.1.1
 | [],_=>by simp[We]
 | a::l,h=>by
   obtain⟨h1,h2⟩:=List.pairwise_cons.1 h
   simp only[We]
   split
   ·rename_i hc
    refine List.pairwise_cons.2 ⟨fun x hx=>?_,Yg p l h2⟩
    rcases List.mem_cons.1 ((ZB p l).mem_iff.1 hx) with rfl | hx
    ·omega
    ·exact h1 x hx
   ·rename_i hc
    refine List.pairwise_cons.2 ⟨fun x hx=>?_,h⟩
    rcases List.mem_cons.1 hx with rfl | hx
    ·omega
    ·have:=h1 x hx;omega
def J9 (d:List Pce) (T:List Pce):List Pce:=T.foldl (fun o p=>We p o) d
theorem K1 (d:List Pce) (p:Pce) (T:List Pce):J9 d (p::T)=J9 (We p d) T:=rfl
theorem K2:∀(T d:List Pce),(d.Pairwise fun a b=>a.1.1≤b.1.1)→((J9 d T).Pairwise fun a b=>a.1.1≤b.1.1)∧(J9 d T).Perm (d++T)
 | [],d,h=>⟨h,by simp[J9]⟩
 | p::T,d,h=>by
   rw[K1]
   obtain⟨h1,h2⟩:=K2 T (We p d) (Yg p d h)
   exact⟨h1,h2.trans (((ZB p d).append_right T).trans (List.perm_middle.symm))⟩
theorem zd7:∀{l m:List Pce},l.Perm m→(l.Pairwise fun a b=>a.1.1≤b.1.1)→(m.Pairwise fun a b=>a.1.1<b.1.1)→l=m
 | [],m,h,_,_=>(List.nil_perm.1 h).symm
 | a::l,[],h,_,_=>absurd h.length_eq (by simp)
 | a::l,b::m,h,hl,hm=>by
   obtain⟨l1,l2⟩:=List.pairwise_cons.1 hl
   obtain⟨m1,m2⟩:=List.pairwise_cons.1 hm
   have hab:a=b:=by
    rcases List.mem_cons.1 (h.mem_iff.1 (show a∈a::l by simp)) with e | ha
    ·exact e
    ·rcases List.mem_cons.1 (h.mem_iff.2 (show b∈b::m by simp)) with e | hb
     ·exact e.symm
     ·have:=m1 a ha
      have:=l1 b hb
      omega
   subst hab
   rw[zd7 h.cons_inv l2 m2]
theorem zcj {α:Type} {R S:α→α→Prop}:∀{l:List α},(∀a∈l,∀b∈l,R a b→S a b)→l.Pairwise R→l.Pairwise S
 | [],_,_=>.nil
 | a::l,h,hp=>by
   obtain⟨h1,h2⟩:=List.pairwise_cons.1 hp
   exact List.pairwise_cons.2 ⟨fun b hb=>h a (by simp) b (by simp[hb]) (h1 b hb),zcj (fun x hx y hy=>h x (by simp[hx]) y (by simp[hy])) h2⟩
theorem busy_same {b:Bk} (h:zP b=0) (s:List UInt8) {n:Int} (hn:n≤4000000000):J9 [] (busL s n b.exps)=vX (busL s n b.exps):=by
 obtain⟨h1,h2⟩:=K2 (busL s n b.exps) [] .nil
 rw[List.nil_append] at h2
 obtain⟨_,p2,_⟩:=jy (Zt h s n)
 refine zd7 (h2.trans p2.symm) h1 (zcj (fun a ha c _ hac=>?_) (busy_apart h s hn))
 have:=zaA h s n a (p2.mem_iff.1 ha)
 omega
noncomputable abbrev Crbz:Ctx:=zF prog [(35,zd false [] (FBNI lyrR)),(31,zd false [] (FXI (fun x n=>.sl 2 ((hasG [] n x.phases).map encS)) fun x _=>x.phases.length≤lim)),(40,zdG)]
theorem goodrbz:AM.Good Crbz (fun g=>([]:List Nat).contains g):=zk mixed ⟨Wd,by simp,Wc,by simp,insPS_sound,by simp,trivial⟩
def BzI (T rest:List Pce) (hp:Hp) (nx:Nat) (v:PV):Prop:=∃d,OwnS hp nx 47 3 v (d.map qd)∧d.length+rest.length=T.length∧J9 [] T=J9 d rest
theorem insPc_len (p:Pce) (l:List Pce):(We p l).length=l.length+1:=(ZB p l).length_eq
set_option maxHeartbeats 4000000 in
theorem rBusy_eval (b:Bk) (s:List UInt8) (n:Int) (hb:b.cb≤lim):∃r0,zi Crbz f15 [.agg b.enc,str s,int n]=some r0∧Stands r0 (X0 (xe b s n)):=by
 refine qz rfl ?_
 have hlen:=zN xM b.exps
 have hbc:b.cb=sumB Lyr.cb b.layers+sumB Hld.cb b.holds+sumB Xp.cb b.exps:=rfl
 have hcl:∀(hp:Hp) (nx:Nat),zd false [] (FBNI lyrR) [.agg b.enc,str s,int n] hp nx=some (lyrR b s n,hp,nx):=fun hp nx=>jx lyrR b s n hp nx hb
 simp only[Bk.enc] at hcl
 by_cases c1:chkL b s n=0
 case neg =>
  have hv:xe b s n=([],chkL b s n):=by unfold xe;rw[if_neg c1]
  have hl:lyrR b s n=.tup [.agg [str [],str [],int 0],int (chkL b s n)]:=by unfold lyrR;rw[if_neg c1]
  have c1':(chkL b s n != 0)=true:=by simpa using c1
  rw[hl] at hcl
  rw[hv]
  simp[Bk.enc,hcl,c1',f15]
  exact⟨_,by simp,vY _⟩
 obtain⟨⟨_,hchk,_⟩,htm⟩:=WB hb c1
 obtain⟨y,f1,_⟩:=zd6 hb c1
 have hl:lyrR b s n=.tup [.agg [str y.name,str y.salt,int y.rest],int 0]:=by unfold lyrR;rw[if_pos c1,f1];rfl
 have hsame:=busy_same hchk s (JX htm).2
 have hv:xe b s n=if (100:Int)<(busL s n b.exps).length then ([],2) else (J9 [] (busL s n b.exps),0):=by unfold xe;rw[if_pos c1,hsame]
 unfold lim at hb
 obtain⟨T,hT⟩:∃T,busL s n b.exps=T:=⟨_,rfl⟩
 have hTl:T.length≤1048576:=by have:=VH s n b.exps;rw[hT] at this;omega
 rw[hT] at hv
 rw[hv]
 rw[hl] at hcl
 simp[Bk.enc,hcl]
 refine zq (fun k σ hp nx=>σ 1=str s∧σ 2=int n∧σ 27=.sl 13 (b.exps.map Xp.enc)∧σ 28=int b.exps.length∧σ 29=int k∧BzI T (busL s n (b.exps.drop k)) hp nx (σ 10)) b.exps.length
  ⟨by simp,by simp,by simp,by simp,by simp,[],.inl ⟨by simp,rfl⟩,by simp[hT],by simp[hT]⟩ ?_
 rintro k σ hp nx hk ⟨h1,h2,h27,h28,h29,d,hO,hdl,he⟩
 by_cases hlt:k<b.exps.length
 ·obtain⟨x,hx⟩:∃x,b.exps[k]=x:=⟨_,rfl⟩
  have hxm:x∈b.exps:=by rw[←hx];exact List.getElem_mem hlt
  have hmx:=qt (f:=Xp.cb) hxm
  have hxc:x.cb=x.name.length+x.layer.length+x.flag.length+x.cond.cb+x.salt.length+x.arms.length+sumB Phs.cb x.phases:=rfl
  have hxpl:=zN jC x.phases
  rw[X1 hlt,hx] at hdl he
  have hw:IntKind.i64.wrap ((k:Int)+1)=(k:Int)+1:=zc (by omega) (by omega)
  have hO1:=hO.more (some ⟨66,13,false,[x.enc]⟩)
  by_cases c2:x.layer=s
  case neg =>
   have c2':(x.layer==s)=false:=by simpa using c2
   rw[if_neg c2,List.nil_append] at hdl he
   simp[h1,h2,h27,h28,h29,hlt,hx,zw,c2',hw]
   rw[zw] at hO1
   exact⟨by omega,d,hO1,hdl,he⟩
  have c2':(x.layer==s)=true:=by simpa using c2
  rw[if_pos c2] at hdl he
  have hhc:=fun hp nx=>Yv (fun x n=>.sl 2 ((hasG [] n x.phases).map encS)) (fun x _=>x.phases.length≤lim) x n hp nx (by unfold lim;omega)
  obtain⟨L,hL⟩:∃L,hasG [] n x.phases=L:=⟨_,rfl⟩
  have hLl:L.length≤1048576:=by have:=QR n x.phases;rw[hL] at this;omega
  rw[hL] at hhc hdl he
  simp only[zw] at hhc
  simp[h1,h2,h27,h28,h29,hlt,hx,zw,c2',hhc]
  obtain⟨P,hP⟩:∃P,nx=P:=⟨_,rfl⟩
  rw[hP] at hO1 ⊢
  rw[zw] at hO1
  refine zq (fun i σ hp nx=>σ 1=str s∧σ 2=int n∧σ 27=.sl 13 (b.exps.map Xp.enc)∧σ 28=int b.exps.length∧σ 29=int k∧σ 12=.ref P 0 0∧σ 39=.sl 2 (L.map encS)∧σ 40=int L.length∧σ 41=int i∧P<nx∧hp P=some ⟨66,13,false,[x.enc]⟩∧BzI T (JC x.name (L.drop i)++busL s n (b.exps.drop (k+1))) hp nx (σ 10)) L.length
   ⟨by simp[h1],by simp[h2],by simp[h27],by simp[h28],by simp[h29],by simp,by simp,by simp,by simp,(by show P<P+1;omega),by simp[zw],d,by simpa using hO1,by simpa using hdl,by simpa using he⟩ ?_
  clear h1 h2 h27 h28 h29 hO hO1 hdl he hP d hk σ hp nx
  rintro i σ hp nx hi ⟨h1,h2,h27,h28,h29,h12,h39,h40,h41,hPn,bP,d,hO,hdl,he⟩
  by_cases hlti:i<L.length
  ·obtain⟨p,hpd⟩:∃p,L[i]=p:=⟨_,rfl⟩
   rw[zbT hlti,hpd,List.cons_append] at hdl he
   rw[K1] at he
   rw[List.length_cons] at hdl
   have hwi:IntKind.i64.wrap ((i:Int)+1)=(i:Int)+1:=zc (by omega) (by omega)
   obtain⟨Q,hQ⟩:∃Q,nx=Q:=⟨_,rfl⟩
   obtain⟨v,hv10⟩:∃v,σ 10=v:=⟨_,rfl⟩
   have hO1:=hO.more (some ⟨41,2,false,[encS p]⟩)
   rw[hv10] at hO1
   have nPQ:¬P=nx:=by omega
   simp[h1,h2,h27,h28,h29,h12,h39,h40,h41,hlti,hpd,encS]
   rw[hQ] at hO1 nPQ ⊢
   refine zq (fun m σ hp nx=>σ 1=str s∧σ 2=int n∧σ 27=.sl 13 (b.exps.map Xp.enc)∧σ 28=int b.exps.length∧σ 29=int k∧σ 12=.ref P 0 0∧σ 39=.sl 2 (L.map encS)∧σ 40=int L.length∧σ 41=int i∧σ 14=.ref Q 0 0∧σ 10=v∧σ 15=int m∧P<Q∧Q<nx∧hp P=some ⟨66,13,false,[x.enc]⟩∧hp Q=some ⟨41,2,false,[encS p]⟩∧OwnS hp nx 47 3 v (d.map qd)∧∀j (h:j<d.length),j<m→d[j].1.1<p.1) d.length
    ⟨by simp[h1],by simp[h2],by simp[h27],by simp[h28],by simp[h29],by simp[h12],by simp[h39],by simp[h40],by simp[h41],by simp,by simp[hv10],by simp,by omega,(by show Q<Q+1;omega),by simp[nPQ,bP],by simp[encS],by simpa[encS] using hO1,fun j _ h=>absurd h (by omega)⟩ ?_
   clear h1 h2 h27 h28 h29 h12 h39 h40 h41 hPn bP hO hO1 hQ hv10 nPQ hi σ hp nx
   rintro m σ hp nx hm ⟨h1,h2,h27,h28,h29,h12,h39,h40,h41,h14,h10,h15,hPQ,hQn,bP,bQ,hO,hbef⟩
   have hwm:IntKind.i64.wrap ((m:Int)+1)=(m:Int)+1:=zc (by omega) (by omega)
   have hlenO:=hO.len (P:=prog) (t:=42) el42
   rw[List.length_map] at hlenO
   have nP:¬P=nx:=by omega
   have nQ:¬Q=nx:=by omega
   have bP':=bP
   have bQ':=bQ
   simp only[zw] at bP'
   simp only[encS] at bQ'
   have hins:=insPS_call (i:=m) (c:=qd (p,x.name)) hO (by simpa using hm) (by simp;omega)
   rw[List.length_map,←List.map_take,←List.map_drop,←List.map_cons,←List.map_append] at hins
   have hbs:∀hp nx,zf prog hp nx 42 1 [(0,.agg (qd (p,x.name)))]=some (.own nx 0 1,upd hp nx (some ⟨47,3,true,[qd (p,x.name)]⟩),nx+1):=fun hp nx=>by
    simp[zf,zn,zg,qd]
   have hfin:We (p,x.name) d=d.take m++(p,x.name)::d.drop m→BzI T (JC x.name (L.drop (i+1))++busL s n (b.exps.drop (k+1))) (upd (vn v (upd hp nx (some ⟨47,3,true,[qd (p,x.name)]⟩))) (nx+1) (some ⟨47,3,true,(d.take m++(p,x.name)::d.drop m).map qd⟩)) (nx+2) (.own (nx+1) 0 (d.length+1)):=fun e=>by
    rw[e] at he
    have hl:=insPc_len (p,x.name) d
    rw[e] at hl
    exact⟨_,.inr ⟨nx+1,by omega,by rw[List.length_map,hl],by simp⟩,by rw[hl];omega,he⟩
   simp only[qd] at hins hbs hfin
   by_cases hlm:m<d.length
   ·obtain⟨id,hid,hve,hbd⟩:=hO.at_ (by rw[List.length_map];omega)
    rw[List.length_map] at hve
    obtain⟨a,ha⟩:∃a,d[m]=a:=⟨_,rfl⟩
    have hke:∀h:m<(d.map qd).length,(d.map qd)[m]=qd a:=fun h=>by simp[ha]
    simp only[qd] at hke
    by_cases hc:a.1.1<p.1
    ·subst hve
     simp[h1,h2,h27,h28,h29,h12,h39,h40,h41,h14,h10,h15,hlenO,hlm,hbd,hke,ha,qd,bQ',hc,hwm]
     refine⟨by omega,hPQ,hQn,bP,(by simpa using hO),fun j hj hjm=>?_⟩
     rcases Nat.lt_or_ge j m with h | h
     ·exact hbef j hj h
     ·obtain rfl:j=m:=by omega
      rw[ha];exact hc
    ·have e:=VW (p,x.name) d m hm (fun j hj hjm=>hbef j hj hjm) (fun h=>by rw[ha];exact hc)
     have hk:=fun hp'=>zU hO hp' P (jl hO bP rfl)
     subst hve
     simp[h1,h2,h27,h28,h29,h12,h39,h40,h41,h14,h10,h15,hlenO,hlm,hbd,hke,ha,qd,bP',bQ',hc,hwi,nP,nQ,zt,zM,hbs,hins]
     exact⟨by omega,by omega,by rw[zl _ _ _ _ (by omega),hk,zl _ _ _ _ (by omega)];exact bP,by simpa[qd] using hfin e⟩
   ·obtain rfl:m=d.length:=by omega
    have e:=VW (p,x.name) d d.length hm (fun j hj hjm=>hbef j hj hjm) (fun h=>absurd h (by omega))
    have hk:=fun hp'=>zU hO hp' P (jl hO bP rfl)
    simp[h1,h2,h27,h28,h29,h12,h39,h40,h41,h14,h10,h15,hlenO,bP',bQ',hwi,nP,nQ,zt,zM,hbs,hins]
    exact⟨by omega,by omega,by rw[zl _ _ _ _ (by omega),hk,zl _ _ _ _ (by omega)];exact bP,by simpa[qd] using hfin e⟩
  ·obtain rfl:i=L.length:=by omega
   rw[List.drop_length,show JC x.name []=[] from rfl,List.nil_append] at hdl he
   simp[h1,h2,h27,h28,h29,h12,h39,h40,h41,hw]
   exact⟨by omega,d,hO,hdl,he⟩
 ·obtain rfl:k=b.exps.length:=by omega
  rw[List.drop_length,busL] at hdl he
  have he:J9 [] T=d:=he
  rw[List.length_nil,Nat.add_zero] at hdl
  have hlen2:=hO.len (P:=prog) (t:=42) el42
  rw[List.length_map,hdl] at hlen2
  rw[he]
  by_cases c3:(100:Int)<T.length
  ·rw[if_pos c3]
   simp[h1,h2,h27,h28,h29,hlen2,c3,f15]
   exact⟨_,by simp,vY _⟩
  ·rw[if_neg c3]
   simp[h1,h2,h27,h28,h29,hlen2,c3,f15]
   obtain⟨r0,g1,g2⟩:=hO.freeze2 (.int .i64 0) nx
   exact⟨r0,g1,fun w S u hr=>Qn hr g2⟩
set_option maxRecDepth 100000 in
theorem rBusy_sound:za prog 15 (zd false [] (FBNI fun b s n=>X0 (xe b s n))) :=
 yw (fn:=f15) goodrbz ⟨_,func15,by kernel_rfl,rfl,by kernel_rfl⟩ false [] _ fun args r h w S vs hz=>by
  obtain⟨⟨b,s,n⟩,rfl,hx,rfl⟩:=ze h
  obtain⟨r0,h1,h2⟩:=rBusy_eval b s n hx
  exact⟨_,r0,hz,by simp[f15],h1,h2⟩
theorem bstrE (a b:List UInt8):((⟨a.toArray⟩:ByteArray)==⟨b.toArray⟩)=decide (a=b):=by
 show (a.toArray==b.toArray)=_
 by_cases h:a=b<;>simp[h]
theorem binPc (x y u v:Int) (s t:List UInt8):binA prog .neq 47 (.agg [int x,int y,str s]) (.agg [int u,int v,str t])=some (boo (!(decide (x=u)&&(decide (y=v)&&decide (s=t))))):=by
 simp only[binA,fl47,qe,if_true,Option.map_some,Bool.and_true,bstrE]
 rfl
theorem pc_ext {a b:Pce}:decide (a=b)=(decide (a.1.1=b.1.1)&&(decide (a.1.2=b.1.2)&&decide (a.2=b.2))):=by
 obtain⟨⟨a1,a2⟩,a3⟩:=a
 obtain⟨⟨b1,b2⟩,b3⟩:=b
 rw[Bool.eq_iff_iff]
 simp[Prod.ext_iff,and_assoc]
theorem eqPc_drop {a b:List Pce} {k:Nat} (ha:k<a.length) (hb:k<b.length):decide (a.drop k=b.drop k)=(decide (a[k]=b[k])&&decide (a.drop (k+1)=b.drop (k+1))):=by
 rw[List.drop_eq_getElem_cons ha,List.drop_eq_getElem_cons hb,←Bool.decide_and]
 congr 1
 simp only[List.cons.injEq]
theorem equalP_eval (a b:List Pce) (ha:a.length≤lim):zi C0 f16 [.sl 3 (a.map qd),.sl 3 (b.map qd)]=some (boo (decide (a=b))):=by
 unfold lim at ha
 refine zb rfl ?_
 by_cases hl:a.length=b.length
 case neg =>
  have hl':((a.length:Int) != (b.length:Int))=true:=by simp;omega
  have hne:¬a=b:=fun e=>hl (by rw[e])
  simp[hl',hne,f16]
 have hl':((a.length:Int) != (b.length:Int))=false:=by simp[hl]
 simp[hl']
 refine zq (fun k σ hp nx=>σ 0=.sl 3 (a.map qd)∧σ 1=.sl 3 (b.map qd)∧σ 12=int a.length∧σ 13=int k∧decide (a=b)=decide (a.drop k=b.drop k)) a.length
  ⟨by simp,by simp,by simp,by simp,by simp⟩ ?_
 rintro k σ hp nx hk ⟨h0,h1,h12,h13,hf⟩
 by_cases hlt:k<a.length
 ·have hlt':k<b.length:=by omega
  have hw:IntKind.i64.wrap ((k:Int)+1)=(k:Int)+1:=zc (by omega) (by omega)
  obtain⟨p,hp0⟩:∃p,a[k]=p:=⟨_,rfl⟩
  obtain⟨q,hq0⟩:∃q,b[k]=q:=⟨_,rfl⟩
  have hb:=binPc p.1.1 p.1.2 q.1.1 q.1.2 p.2 q.2
  rw[←pc_ext] at hb
  rw[eqPc_drop hlt hlt',hp0,hq0] at hf
  cases hd:decide (p=q)
  ·rw[hd] at hf hb
   simp at hf
   simp[h0,h1,h12,h13,hlt,hlt',hp0,hq0,qd,hb,hf,f16]
  ·rw[hd] at hf hb
   simp at hf
   simp[h0,h1,h12,h13,hlt,hlt',hp0,hq0,qd,hb,hw]
   exact⟨by omega,hf⟩
 ·obtain rfl:k=a.length:=by omega
  rw[List.drop_length,hl,List.drop_length] at hf
  simp[h0,h1,h12,h13,hf,f16]
noncomputable def FPq:List PV→Option PV:=zH (α:=List Pce×List Pce) (fun a=>[.sl 3 (a.1.map qd),.sl 3 (a.2.map qd)]) (fun a=>a.1.length≤lim) (fun a=>boo (decide (a.1=a.2)))
theorem FPq_call (a b:List Pce) (hp:Hp) (nx:Nat) (h:a.length≤lim):zd false [] FPq [.sl 3 (a.map qd),.sl 3 (b.map qd)] hp nx=some (boo (decide (a=b)),hp,nx) :=
 zy rfl (zm (enc:=fun a:List Pce×List Pce=>[PV.sl 3 (a.1.map qd),.sl 3 (a.2.map qd)]) (a:=(a,b)) (fun x y e=>by
  obtain⟨x1,x2⟩:=x;obtain⟨y1,y2⟩:=y
  simp only[List.cons.injEq,and_true] at e
  obtain⟨e1,e2⟩:=e
  injection e1 with _ e1
  injection e2 with _ e2
  rw[qW (fun _ _=>QQ) e1,qW (fun _ _=>QQ) e2]) h) (.inl rfl)
theorem equalP_sound:za prog 16 (zd false [] FPq) :=
 zI (fn:=f16) qA ⟨_,func16,by kernel_rfl,rfl,by kernel_rfl⟩ false [] _ fun args r h=>by
  obtain⟨⟨a,b⟩,rfl,hx,rfl⟩:=ze h
  exact⟨Nat.le_trans (Nat.le_refl 2) (by decide),_,equalP_eval a b hx,zG _⟩
theorem hasR_len {b:Bk} (hb:b.cb≤lim) (s:List UInt8) (n:Int):(hasR b s n).1.length≤lim:=by
 unfold hasR
 split
 ·split
  ·rename_i x hx
   have:=QR n x.phases
   have hmx:=qt (f:=Xp.cb) (List.mem_of_getElem? hx)
   have hxc:x.cb=x.name.length+x.layer.length+x.flag.length+x.cond.cb+x.salt.length+x.arms.length+sumB Phs.cb x.phases:=rfl
   have hbc:b.cb=sumB Lyr.cb b.layers+sumB Hld.cb b.holds+sumB Xp.cb b.exps:=rfl
   simp only
   omega
  ·simp
 ·simp
theorem freeR_len {b:Bk} (s:List UInt8) (n:Int):(xd b s n).1.length≤lim:=by
 have h:∀l:List Sp,(limR l).1.length≤lim:=fun l=>by
  unfold limR lim
  split
  ·simp
  ·simp only;omega
 unfold xd
 split
 ·exact h _
 ·simp
theorem busyR_len {b:Bk} (s:List UInt8) (n:Int) (hb:b.cb≤lim):(xe b s n).1.length≤lim:=by
 unfold xe
 split
 ·rename_i c1
  obtain⟨⟨_,hchk,_⟩,_⟩:=WB hb c1
  split
  ·simp
  ·have:=(jy (Zt hchk s n)).2.1.length_eq
   unfold lim
   simp only
   omega
 ·simp
abbrev qlf:List Nat:=[11,16]
noncomputable abbrev Clf:Ctx:=zF prog [(9,zd false [] (FBNI fun b s n=>wW (hasR b s n))),(10,zd false [] (FBNI fun b s n=>wW (hasR b s n))),(12,zd false [] (FBNI fun b s n=>wW (xd b s n))),(13,zd false [] (FBNI fun b s n=>wW (xd b s n))),(14,zd false [] (FBNI fun b s n=>X0 (xe b s n))),(15,zd false [] (FBNI fun b s n=>X0 (xe b s n))),(11,zd false [] (FPP (fun a b=>boo (decide (a=b))) fun a _=>a.length≤lim)),(16,zd false [] FPq)]
theorem goodlf:AM.Good Clf (fun g=>qlf.contains g):=zk mixed ⟨Has_sound,by simp,rHas_sound,by simp,Free_sound,by simp,rFree_sound,by simp,Busy_sound,by simp,rBusy_sound,by simp,W9,fun _=>zh _ _,equalP_sound,fun _=>zh _ _,trivial⟩
set_option maxHeartbeats 2000000 in
theorem lf_eval (b:Bk) (s t:List UInt8) (n:Int) (hb:b.cb≤lim):zi Clf Tryz.f4 [.agg b.enc,str s,str t,int n]=some (boo true):=by
 refine zb rfl ?_
 have l1:=hasR_len hb t n
 have l2:=freeR_len (b:=b) s n
 have l3:=busyR_len s n hb
 obtain⟨⟨h,e1⟩,hH⟩:∃r,hasR b t n=r:=⟨_,rfl⟩
 obtain⟨⟨f,e2⟩,hF⟩:∃r,xd b s n=r:=⟨_,rfl⟩
 obtain⟨⟨z,e3⟩,hB⟩:∃r,xe b s n=r:=⟨_,rfl⟩
 rw[hH] at l1
 rw[hF] at l2
 rw[hB] at l3
 have hh:∀hp nx,zd false [] (FBNI fun b s n=>wW (hasR b s n)) [.agg b.enc,str t,int n] hp nx=some (.tup [.sl 2 (h.map encS),int e1],hp,nx):=fun hp nx=>by rw[jx _ b t n hp nx hb,hH];rfl
 have hf:∀hp nx,zd false [] (FBNI fun b s n=>wW (xd b s n)) [.agg b.enc,str s,int n] hp nx=some (.tup [.sl 2 (f.map encS),int e2],hp,nx):=fun hp nx=>by rw[jx _ b s n hp nx hb,hF];rfl
 have hz:∀hp nx,zd false [] (FBNI fun b s n=>X0 (xe b s n)) [.agg b.enc,str s,int n] hp nx=some (.tup [.sl 3 (z.map qd),int e3],hp,nx):=fun hp nx=>by rw[jx _ b s n hp nx hb,hB];rfl
 have q1:=fun hp nx=>Zq (fun a b=>boo (decide (a=b))) (fun a _=>a.length≤lim) h h hp nx l1
 have q2:=fun hp nx=>Zq (fun a b=>boo (decide (a=b))) (fun a _=>a.length≤lim) f f hp nx l2
 have q3:=fun hp nx=>FPq_call z z hp nx l3
 rw[decide_eq_true rfl] at q1 q2 q3
 simp only[Bk.enc] at hh hf hz
 simp[Bk.enc,hh,hf,hz,q1,q2,q3,Tryz.f4]
theorem lf_known:Ki Clf (fun g=>qlf.contains g) 4 Tryz.f4:=⟨_,func4,by kernel_rfl,rfl,by kernel_rfl⟩
end Go.Proofs.YtdkfdoeijcfbhaaGreatDoor
namespace Go.AM
open Go.RowKit Go.WideShapes Go.ChangeShapes
def wR {H:Type} (P:Program):Nat→TypeId→DataW H→List PV→Prop
 | 0,_,_,_=>False
 | n+1,t,d,pvs=>match P.underlying t with
   | some .bool=>∃b,d=.lit (.bool b)∧pvs=[.v (.bool b)]
   | some (.int k)=>∃i,d=.lit (.int k i)∧pvs=[.v (.int k i)]∧(Lit.int k i).wf=true
   | some .string=>∃s:ByteArray,d=.lit (.string s.data.toList)∧pvs=[.v (.string s)]∧s.size≤maxLen
   | some (.slice e)=>∃(es:List (List PV)) (ds:List (DataW H)),((d=.nil∧ds=[])∨∃sp,d=.slice ds sp)∧pvs=[.sl (P.cellsOf e) es]∧es.length≤maxLen∧Zip (fun c y=>c.length=P.cellsOf e∧wR P n e y c) es ds
   | some (.struct fs)=>∃ds:List (DataW H),d=.agg ds∧pvs.length=P.cellsOf t∧ds.length=fs.size∧∀(i:Nat) f y,fs[i]?=some f→ds[i]?=some y→wR P n f.type y ((pvs.drop f.offset).take (P.cellsOf f.type))
   | _=>False
section
variable {H:Type} {enc:TypeId×Value→H} {P:Program} {w:World} {sp:Nat→Bool} {held:Bool}
theorem ZC {T:List TypeId} (hT:Vb P T=true):∀(fuel:Nat) (t:TypeId) (cs:List Value) (d:DataW H) (ps:List MemPlace),t∈T→DataW.trod enc P w 0 sp held fuel t cs=some (d,ps) →
  ∃pvs,Zip (fun pv u=>RepC w (fun b=>b<w.heap.size) pv u∧u.oneCell'=true) pvs cs∧cs.length=P.cellsOf t∧wR P fuel t d pvs
 | 0,t,cs,d,ps,_,h=>by simp[DataW.trod] at h
 | n+1,t,cs,d,ps,ht,h=>by
   have hTt:=List.all_eq_true.1 hT t ht
   have one:∀{pv:PV} {u:Value},RepC w (fun b=>b<w.heap.size) pv u→u.oneCell'=true→Zip (fun pv u=>RepC w (fun b=>b<w.heap.size) pv u∧u.oneCell'=true) [pv] [u]:=fun h1 h2=>.cons ⟨h1,h2⟩ .nil
   split at hTt
   ·rename_i hu
    obtain⟨b,rfl,hx⟩:=DataW.trod_bool hu h
    simp only[Prod.mk.injEq] at hx
    exact⟨[.v (.bool b)],one (.v rfl) rfl,by simpa using (by simpa using hTt:P.cellsOf t=1).symm,by unfold wR;rw[hu];exact⟨b,hx.1,rfl⟩⟩
   ·rename_i k hu
    obtain⟨i,rfl,hx,hwf⟩:=DataW.trod_int hu h
    simp only[Prod.mk.injEq] at hx
    exact⟨[.v (.int k i)],one (.v rfl) rfl,by simpa using (by simpa using hTt:P.cellsOf t=1).symm,by unfold wR;rw[hu];exact⟨i,hx.1,rfl,hwf⟩⟩
   ·rename_i hu
    obtain⟨s,rfl,hx,hs⟩:=DataW.trod_string hu h
    simp only[Prod.mk.injEq] at hx
    exact⟨[.v (.string s)],one (.v rfl) rfl,by simpa using (by simpa using hTt:P.cellsOf t=1).symm,by unfold wR;rw[hu];exact⟨s,hx.1,rfl,hs⟩⟩
   ·rename_i e hu
    simp only[Bool.and_eq_true,beq_iff_eq,decide_eq_true_eq,List.contains_iff_mem] at hTt
    obtain⟨⟨hc1,heT⟩,hce⟩:=hTt
    rcases DataW.trod_slice hu h with⟨rfl,hx⟩ | ⟨a,len,cap,elems,rest,m,hm,rfl,hx,_,hlc,hcm,hel,hget,_,_⟩
    ·simp only[Prod.mk.injEq] at hx
     refine⟨[.sl (P.cellsOf e) []],one ?_ rfl,by simp[hc1],by unfold wR;rw[hu];exact⟨[],[],.inl ⟨hx.1,rfl⟩,rfl,by simp,.nil⟩⟩
     exact RepC.sl (es:=[]) (s:=P.cellsOf e) (fun _ _=>undef) (by simp) (by simp) (by simp[maxLen]) (by simp) (by simp) (by simp)
    ·obtain rfl:m=n:=by omega
     simp only[Prod.mk.injEq] at hx
     have hel':∀i (hi:i<len),∃cs',w.cells? 0 (a.add (i*P.cellsOf e)) (P.cellsOf e)=some cs'∧DataW.trod enc P w 0 sp held m e cs'=some (elems[i]'(by omega)):=by
      intro i hi
      have h1:=hget i hi
      have h2:elems[i]?=some (elems[i]'(by omega)):=List.getElem?_eq_getElem (by omega)
      rw[h2] at h1
      cases hc:w.cells? 0 (a.add (i*P.cellsOf e)) (P.cellsOf e) with
      | none=>simp[hc] at h1
      | some cs'=>exact⟨cs',rfl,by simpa[hc] using h1⟩
     have hch:∀i,∃q:List Value×List PV,∀hi:i<len,w.cells? 0 (a.add (i*P.cellsOf e)) (P.cellsOf e)=some q.1∧Zip (fun pv u=>RepC w (fun b=>b<w.heap.size) pv u∧u.oneCell'=true) q.2 q.1∧q.1.length=P.cellsOf e∧wR P m e (elems[i]'(by omega)).1 q.2:=by
      intro i
      by_cases hi:i<len
      ·obtain⟨cs',g1,g3⟩:=hel' i hi
       obtain⟨pvs,q1,q2,q3⟩:=ZC hT m e cs' (elems[i]'(by omega)).1 (elems[i]'(by omega)).2 heT (by rw[g3])
       exact⟨(cs',pvs),fun _=>⟨g1,q1,q2,q3⟩⟩
      ·exact⟨([],[]),fun h=>absurd h hi⟩
     let q:Nat→List Value×List PV:=fun i=>Classical.choose (hch i)
     have hq:∀i (hi:i<len),w.cells? 0 (a.add (i*P.cellsOf e)) (P.cellsOf e)=some (q i).1∧Zip (fun pv u=>RepC w (fun b=>b<w.heap.size) pv u∧u.oneCell'=true) (q i).2 (q i).1∧(q i).1.length=P.cellsOf e∧wR P m e (elems[i]'(by omega)).1 (q i).2:=fun i=>Classical.choose_spec (hch i)
     have hlen:((List.range len).map fun i=>(q i).2).length=len:=by simp
     have hgi:∀(i:Nat) (c:List PV),((List.range len).map fun i=>(q i).2)[i]?=some c→i<len∧c=(q i).2:=by
      intro i c hi
      have hil:i<len:=by have:=(List.getElem?_eq_some_iff.1 hi).1;simpa using this
      rw[List.getElem?_map,List.getElem?_range hil] at hi
      simp at hi
      exact⟨hil,hi.symm⟩
     have key:RepC w (fun b=>b<w.heap.size) (.sl (P.cellsOf e) ((List.range len).map fun i=>(q i).2)) (.slice (some a) ((List.range len).map fun i=>(q i).2).length cap):=by
      refine .sl (fun i j=>((q i).1[j]?).getD undef) (by simp) (by rw[hlen];exact hlc) hcm (fun c hc=>?_) (fun i j c pv hi hj=>?_) (fun i j c pv hi hj=>?_)
      ·obtain⟨i,hi,rfl⟩:=List.mem_map.1 hc
       have h1:=hq i (List.mem_range.1 hi)
       rw[h1.2.1.1,h1.2.2.1]
      ·obtain⟨hil,rfl⟩:=hgi i c hi
       obtain⟨g1,g2,g3,_⟩:=hq i hil
       have hjl:j<(q i).1.length:=by rw[←g2.1];exact (List.getElem?_eq_some_iff.1 hj).1
       have hju:(q i).1[j]?=some ((q i).1[j]):=List.getElem?_eq_getElem hjl
       obtain⟨_,g5,g6⟩:=World.cells?_some g1
       have hcell:=g6 j (by omega)
       rw[YD] at hcell
       rw[hju] at hcell
       refine⟨a,rfl,?_,?_,?_⟩
       ·have:=block_lt_of_cell hcell
        rwa [jZ] at this
       ·rw[hcell,hju];rfl
       ·rw[hju];exact (g2.2 j pv _ hj hju).2
      ·obtain⟨hil,rfl⟩:=hgi i c hi
       obtain⟨g1,g2,g3,_⟩:=hq i hil
       have hjl:j<(q i).1.length:=by rw[←g2.1];exact (List.getElem?_eq_some_iff.1 hj).1
       have hju:(q i).1[j]?=some ((q i).1[j]):=List.getElem?_eq_getElem hjl
       rw[hju]
       exact (g2.2 j pv _ hj hju).1
     rw[hlen] at key
     refine⟨[.sl (P.cellsOf e) ((List.range len).map fun i=>(q i).2)],one key rfl,by simp[hc1],?_⟩
     unfold wR
     rw[hu]
     refine⟨_,elems.map (·.1),.inr ⟨_,hx.1⟩,rfl,by rw[hlen];omega,by rw[hlen,List.length_map,hel],fun i c y hi hy=>?_⟩
     obtain⟨hil,rfl⟩:=hgi i c hi
     have h1:=hq i hil
     rw[List.getElem?_map,List.getElem?_eq_getElem (by omega)] at hy
     simp only[Option.map_some,Option.some.injEq] at hy
     subst hy
     exact⟨by rw[h1.2.1.1,h1.2.2.1],h1.2.2.2⟩
   ·rename_i fs hu
    simp only[Bool.and_eq_true,beq_iff_eq,List.all_eq_true,List.contains_iff_mem] at hTt
    obtain⟨htile,hfT⟩:=hTt
    obtain⟨xs,m,hm,hx,hcl,hxl,hf⟩:=DataW.trod_struct hu h
    obtain rfl:m=n:=by omega
    simp only[Prod.mk.injEq] at hx
    obtain⟨pvs,g1,g2,g3⟩:=Xg (P:=P) (R:=fun pv u=>RepC w (fun b=>b<w.heap.size) pv u∧u.oneCell'=true) (Q:=fun f pvs=>∀(i:Nat) y,fs[i]?=some f→(xs.map (·.1))[i]?=some y→wR P m f.type y pvs) fs.toList 0 (P.cellsOf t) cs htile hcl (fun f hfm=>by
     obtain⟨i,hi⟩:=List.getElem?_of_mem hfm
     have hfi:=hf i f (by simpa using hi)
     have hil:i<xs.length:=by rw[hxl];have:=(List.getElem?_eq_some_iff.1 hi).1;simpa using this
     rw[List.getElem?_eq_getElem hil] at hfi
     obtain⟨pvs,q1,_,q3⟩:=ZC hT m f.type _ (xs[i]).1 (xs[i]).2 (hfT f hfm) hfi
     refine⟨pvs,q1,fun k y hk hy=>?_⟩
     have hfk:=hf k f hk
     rw[hfi] at hfk
     rw[List.getElem?_map,←hfk] at hy
     simp only[Option.map_some,Option.some.injEq] at hy
     subst hy
     exact q3)
    refine⟨pvs,⟨by omega,fun j pv u hj hu'=>g2 j pv u hj (by simpa using hu')⟩,hcl,?_⟩
    unfold wR
    rw[hu]
    refine⟨xs.map (·.1),hx.1,by omega,by rw[List.length_map,hxl],fun i f y hi hy=>?_⟩
    have hfm:f∈fs.toList:=by
     have:fs.toList[i]?=some f:=by simpa using hi
     exact List.mem_of_getElem? this
    have:=(g3 f hfm).2 i y hi hy
    simpa using this
   ·cases hTt
theorem arg_struct {T:List TypeId} (hT:Vb P T=true) {t:TypeId} {v:Value} {d:DataW H} {ps:List MemPlace} {r:Reach} {base:Nat} {fs:Array Field} (ht:t∈T) (hu:P.underlying t=some (.struct fs)) (hv:Value.okWide P w r base t v) (h:DataW.Trod enc P w 0 sp held t v d ps) :
  ∃(n:Nat) (pvs:List PV),wR P n t d pvs∧RepC w (fun b=>b<w.heap.size) (.agg pvs) v:=by
 obtain⟨n,hn⟩:=h
 obtain⟨pvs,h1,h2,h3⟩:=ZC hT n t v.cells.toList d ps ht hn
 obtain⟨cs,rfl,hsz⟩:=okWide_struct hu hv
 exact⟨n,pvs,h3,.agg (by have:=h1.1;simpa[Value.cells] using this) (fun j pv u hj hu'=>(h1.2 j pv u hj (by simpa[Value.cells] using hu')).1)⟩
theorem VX {T:List TypeId} (hT:Vb P T=true) {t:TypeId} {v:Value} {d:DataW H} {ps:List MemPlace} {r:Reach} {base:Nat} (ht:t∈T) (hu:¬∃fs,P.underlying t=some (.struct fs)) (hv:Value.okWide P w r base t v) (h:DataW.Trod enc P w 0 sp held t v d ps) :
  ∃(n:Nat) (p:PV),wR P n t d [p]∧RepC w (fun b=>b<w.heap.size) p v:=by
 obtain⟨n,hn⟩:=h
 obtain⟨pvs,h1,h2,h3⟩:=ZC hT n t v.cells.toList d ps ht hn
 have hTt:=List.all_eq_true.1 hT t ht
 have hc1:P.cellsOf t=1:=by
  split at hTt
  ·simpa using hTt
  ·simpa using hTt
  ·simpa using hTt
  ·simp only[Bool.and_eq_true,beq_iff_eq] at hTt;exact hTt.1.1
  ·rename_i fs hun;exact absurd ⟨fs,hun⟩ hu
  ·cases hTt
 rw[hc1] at h2
 match pvs,h1,h3 with
 | [],h1,h3=>have:=h1.1;rw[h2] at this;simp at this
 | p::q::l,h1,h3=>have:=h1.1;rw[h2] at this;simp at this
 | [p],h1,h3 =>
   obtain⟨u,hu',hr,ho⟩:=vL h1
   have hvu:v=u:=by
    cases v with
    | agg cs =>
      exfalso
      split at hTt
      ·rename_i hun;simp[Value.okWide,hun,Cell.okWide,Cell.ok] at hv
      ·rename_i hun;simp[Value.okWide,hun,Cell.okWide,Cell.ok] at hv
      ·rename_i hun;simp[Value.okWide,hun,Cell.okWide,Cell.ok] at hv
      ·rename_i hun;simp[Value.okWide,hun,Cell.okWide,Cell.ok] at hv
      ·rename_i fs hun;exact hu ⟨fs,hun⟩
      ·cases hTt
    | _=>simpa[Value.cells] using hu'
   subst hvu
   exact⟨n,p,h3,hr⟩
end
end Go.AM
namespace Go.AM
open Go.RowKit
def kO (P:Program) (t:TypeId):Option (List (TypeId×Nat×Nat)):=match P.underlying t with
 | some (.struct fs)=>some (fs.toList.map fun f=>(f.type,f.offset,P.cellsOf f.type))
 | _=>none
def WN {H:Type} (P:Program) (n:Nat) (pvs:List PV):List (TypeId×Nat×Nat)→List (DataW H)→Prop
 | [],[]=>True
 | (t,o,c)::l,y::ds=>wR P n t y ((pvs.drop o).take c)∧WN P n pvs l ds
 | _,_=>False
section
variable {H:Type} {P:Program} {n:Nat} {t:TypeId} {d:DataW H} {pvs:List PV}
theorem K3 (n:Nat) (pvs:List PV):∀(fs:List Field) (ds:List (DataW H)),ds.length=fs.length→(∀(i:Nat) f y,fs[i]?=some f→ds[i]?=some y→wR P n f.type y ((pvs.drop f.offset).take (P.cellsOf f.type)))→WN P n pvs (fs.map fun f=>(f.type,f.offset,P.cellsOf f.type)) ds
 | [],[],_,_=>trivial
 | f::fs,y::ds,hl,h=>⟨h 0 f y rfl rfl,K3 n pvs fs ds (by simpa using hl) fun i f' y' hf hy=>h (i+1) f' y' (by simpa using hf) (by simpa using hy)⟩
theorem Yh {l:List (TypeId×Nat×Nat)} (hs:kO P t=some l):∃fs,P.underlying t=some (.struct fs)∧l=fs.toList.map fun f=>(f.type,f.offset,P.cellsOf f.type):=by
 unfold kO at hs
 split at hs
 ·rename_i fs hu
  injection hs with hs
  exact⟨fs,hu,hs.symm⟩
 ·cases hs
theorem qT {l:List (TypeId×Nat×Nat)} (hs:kO P t=some l) (h:wR P n t d pvs):∃(m:Nat) (ds:List (DataW H)),n=m+1∧d=.agg ds∧pvs.length=P.cellsOf t∧WN P m pvs l ds:=by
 obtain⟨fs,hu,rfl⟩:=Yh hs
 cases n with
 | zero=>exact h.elim
 | succ m =>
   unfold wR at h
   rw[hu] at h
   obtain⟨ds,h1,h2,h3,h4⟩:=h
   exact⟨m,ds,rfl,h1,h2,K3 m pvs fs.toList ds (by simpa using h3) fun i f y hf hy=>h4 i f y (by simpa using hf) hy⟩
theorem zs {o c:Nat} {l:List (TypeId×Nat×Nat)} {ds:List (DataW H)} (h:WN P n pvs ((t,o,c)::l) ds):∃y ds',ds=y::ds'∧wR P n t y ((pvs.drop o).take c)∧WN P n pvs l ds':=by
 cases ds with
 | nil=>exact h.elim
 | cons y ds'=>exact⟨y,ds',rfl,h.1,h.2⟩
theorem wz {ds:List (DataW H)} (h:WN P n pvs [] ds):ds=[]:=by
 cases ds with
 | nil=>rfl
 | cons y ds'=>exact h.elim
theorem wD {k:IntKind} (hu:P.underlying t=some (.int k)) (h:wR P n t d pvs):∃i,d=.lit (.int k i)∧pvs=[.v (.int k i)]∧(Lit.int k i).wf=true:=by
 cases n with
 | zero=>exact h.elim
 | succ m=>unfold wR at h;rw[hu] at h;exact h
theorem qg (hu:P.underlying t=some .string) (h:wR P n t d pvs):∃l:List UInt8,d=.lit (.string l)∧pvs=[str l]∧l.length≤maxLen:=by
 cases n with
 | zero=>exact h.elim
 | succ m =>
   unfold wR at h
   rw[hu] at h
   obtain⟨s,h1,h2,h3⟩:=h
   exact⟨s.data.toList,h1,by rw[h2],h3⟩
theorem wd {e:TypeId} (hu:P.underlying t=some (.slice e)) (h:wR P n t d pvs):∃(m:Nat) (es:List (List PV)) (ds:List (DataW H)),n=m+1∧((d=.nil∧ds=[])∨∃sp,d=.slice ds sp)∧pvs=[.sl (P.cellsOf e) es]∧es.length≤maxLen∧Zip (fun c y=>c.length=P.cellsOf e∧wR P m e y c) es ds:=by
 cases n with
 | zero=>exact h.elim
 | succ m =>
   unfold wR at h
   rw[hu] at h
   obtain⟨es,ds,h1,h2,h3,h4⟩:=h
   exact⟨m,es,ds,rfl,h1,h2,h3,h4⟩
theorem wq {α:Type} {enc:α→List PV} {w:α→Nat} {b:DataW H→Nat} {R:List PV→DataW H→Prop} (hR:∀c y,R c y→∃a,c=enc a∧w a≤b y):∀{es:List (List PV)} {ds:List (DataW H)},Zip R es ds→∃l:List α,es=l.map enc∧(l.map w).sum≤(ds.map b).sum
 | [],[],_=>⟨[],rfl,by simp⟩
 | [],_::_,h=>by have:=h.1;simp at this
 | _::_,[],h=>by have:=h.1;simp at this
 | c::es,y::ds,h=>by
   obtain⟨a,rfl,ha⟩:=hR c y (h.2 0 c y rfl rfl)
   obtain⟨l,rfl,hl⟩:=wq hR (es:=es) (ds:=ds) ⟨by have:=h.1;simpa using this,fun i c' y' hc hy=>h.2 (i+1) c' y' (by simpa using hc) (by simpa using hy)⟩
   exact⟨a::l,rfl,by simp;omega⟩
end
end Go.AM
