/-
Copies of versions and stretches.
Plain law: what is read of a range is right, and small.
strings.SplitSeq: the function over which a loop ranges gives the parts, one a round.
ReadRange.
-/
import Derived.Test.YtanbabpnlgfcpaaGreatDoorG17
import Derived.Test.YtanbabpnlgfcpaaGreatDoorG13
import Derived.Test.YtanbabpnlgfcpaaGreatDoorG12
import Derived.RangeFuncBox
import Derived.RangeFuncLeaves
import Derived.Shelf.Abstract
import Derived.WalkKit
import Derived.OwnWalkIn
import Derived.TacticsInMore
import Derived.LoopNIn
import Derived.LoopIn
set_option maxRecDepth 8000
namespace Go.Proofs.YtanbabpnlgfcpaaGreatDoor
open Go.Proofs.Tryz
open Go.RowKit Go.AM
theorem cloneT_eval (args:List PV) (r:Option Blk) (h:cloneF 9 1 args=some r):args.length≤f210.ntmps∧∃x hp nx,wu C0 f210 args (fun _=>none) 0=some (x,hp,nx)∧OwnR r x hp nx:=by
 unfold cloneF at h
 split at h
 ·injection h with h;subst h
  exact⟨by simp[f210],zu rfl (by simp[binA,xz,f210,OwnR])⟩
 ·injection h with h;subst h
  exact⟨by simp[f210],zu rfl (by simp[binA,xz,f210,OwnR,zl,wO,AM.view,maxLen,zx,zm])⟩
 ·rename_i es
  split at h
  ·rename_i hc
   obtain⟨rfl,hne,hl⟩:=hc
   injection h with h;subst h
   cases es with
   | nil=>exact absurd rfl hne
   | cons c es =>
     unfold lim at hl
     simp at hl
     have m1:es.length+1≤maxLen:=by unfold maxLen;omega
     have m2:(es.length+1)*16≤140737488355328:=by omega
     refine⟨by simp[f210],zu rfl ?_⟩
     simp[binA,xz,f210,OwnR,zl,wO,AM.view,zx,zm,m1,m2]
  ·cases h
 ·cases h
theorem cloneT_sound:za prog 210 (wR [] (cloneF 9 1)) :=
 kU (fn:=f210) (code:=_) wA ⟨func210,by kernel_rfl,rfl,by kernel_rfl⟩ [] _ cloneT_eval
def idV (v:Ver):PV:=.agg v.enc
def idS (s:Str):PV:=.agg s.enc
noncomputable def FVe (f:Ver→PV):List PV→Option PV:=zG (α:=Ver) (fun v=>[.agg v.enc]) (fun v=>v.pre.length≤lim) f
theorem FVe_call (f:Ver→PV) (v:Ver) (hp:Hp) (nx:Nat) (h:v.pre.length≤lim):zR [.g vpat] (FVe f) [.agg v.enc] hp nx=some (f v,hp,nx) :=
 w9 (show zh hp [.agg v.enc]=some ([.agg v.enc],hp) by simp[Ver.enc]) (by
  have e1:(Sh.g vpat).fix (.agg v.enc)=.agg v.enc:=by simp[Ver.enc]
  show FVe f [(Sh.g vpat).fix (.agg v.enc)]=_
  rw[e1]
  exact zn (enc:=fun v:Ver=>[PV.agg v.enc]) (a:=v) (fun a b e=>by simp only[List.cons.injEq,and_true] at e;injection e with e;exact vF e) h) (.inr (by simp[Ver.enc]))
noncomputable abbrev Ccpv:Ctx:=zA prog [(210,wR [] (cloneF 9 1))]
theorem goodcpv:AM.Good Ccpv (fun g=>([]:List Nat).contains g):=zk mixed ⟨cloneT_sound,by simp,trivial⟩
theorem copyVersion_eval (v:Ver) (y:PV) (hy:SlOf 1 (encT v.pre) y) (hl:v.pre.length≤lim):∃r0,zi Ccpv f188 [.agg [int v.a,int v.b,int v.c,y]]=some r0∧Stands r0 (.agg v.enc):=by
 obtain⟨a,b,c,p⟩:=v
 refine kW (sh:=.g vpat) rfl ?_
 simp only at hl hy
 generalize hT:encT p=T at hy
 have hTl:T.length≤lim:=by rw[←hT];simpa[encT] using hl
 cases hy with
 | nil=>simp[wR,qG,cloneF,pureF,Ver.enc,hT,f188]
 | em=>simp[wR,qG,cloneF,pureF,Ver.enc,hT,f188]
 | sl =>
   rename_i c0 es
   simp only[List.length_cons] at hTl
   simp[wR,qG,cloneF,pureF,Ver.enc,hT,hTl,f188]
theorem copyVersion_sound:za prog 188 (zR [.g vpat] (FVe idV)) :=
 xN (fn:=f188) goodcpv ⟨_,func188,by kernel_rfl,rfl,by kernel_rfl⟩ false [] _ fun args r h w S vs hz=>by
  obtain⟨v,e,hv,rfl⟩:=zf h
  have hz':=vC (hs:=[.g vpat]) hz
  rw[e] at hz'
  obtain⟨u,hu,hr⟩:=xk hz'
  subst hu
  obtain⟨y,hy,hr2⟩:=rep_agg_set hr (j:=3) (s:=1) (es:=encT v.pre) (by simp[Ver.enc])
  obtain⟨r0,h1,h2⟩:=copyVersion_eval v y hy hv
  exact⟨_,r0,.cons hr2 .nil,by simp[f188],by simpa[Ver.enc] using h1,h2⟩
noncomputable def FSt (f:Str→PV):List PV→Option PV:=zG (α:=Str) (fun s=>[.agg s.enc]) Str.small f
theorem FSt_call (f:Str→PV) (s:Str) (u:PV) (hp:Hp) (nx:Nat) (h:s.small) (hu:(Sh.g spat).fix u=.agg s.enc) (hf:zF hp u=some (u,hp)) (hn:u.noOwn=true):zR [.g spat] (FSt f) [u] hp nx=some (f s,hp,nx) :=
 w9 (show zh hp [u]=some ([u],hp) by simp only[zh,hf]) (by
  show FSt f [(Sh.g spat).fix u]=_
  rw[hu]
  exact zn (enc:=fun v:Str=>[PV.agg v.enc]) (a:=s) (fun a b e=>by simp only[List.cons.injEq,and_true] at e;injection e with e;exact strenc_inj e) h) (.inr (by rw[List.all_cons,hn];rfl))
noncomputable abbrev Ccps:Ctx:=zA prog [(188,zR [.g vpat] (FVe idV))]
theorem goodcps:AM.Good Ccps (fun g=>[188].contains g):=zk mixed ⟨copyVersion_sound,fun _=>wU _ _,trivial⟩
theorem copyStretch_eval (s:Str) (hs:s.small):zi Ccps f150 [.agg s.enc]=some (.agg s.enc):=by
 refine zb rfl ?_
 have h1:∀hp nx,zR [.g vpat] (FVe idV) [.agg [int s.lo.v.a,int s.lo.v.b,int s.lo.v.c,.sl 1 (encT s.lo.v.pre)]] hp nx=some (.agg [int s.lo.v.a,int s.lo.v.b,int s.lo.v.c,.sl 1 (encT s.lo.v.pre)],hp,nx):=fun hp nx=>FVe_call idV s.lo.v hp nx hs.1.1
 have h2:∀hp nx,zR [.g vpat] (FVe idV) [.agg [int s.hi.v.a,int s.hi.v.b,int s.hi.v.c,.sl 1 (encT s.hi.v.pre)]] hp nx=some (.agg [int s.hi.v.a,int s.hi.v.b,int s.hi.v.c,.sl 1 (encT s.hi.v.pre)],hp,nx):=fun hp nx=>FVe_call idV s.hi.v hp nx hs.2.1
 simp[Str.enc,Cut.enc,h1,h2,zU,f150,qz]
theorem copyStretch_sound:za prog 150 (zR [.g spat] (FSt idS)) :=
 qB (fn:=f150) goodcps ⟨_,func150,by kernel_rfl,rfl,by kernel_rfl⟩ _ _ fun args r h=>by
  obtain⟨s,rfl,h1,rfl⟩:=zf h
  exact⟨by simp[f150],_,copyStretch_eval s h1,Stands.refl _⟩
theorem vnum_range {l:List UInt8} {n:Int} (h:vnum l=some n):0≤n∧n≤999999:=by
 unfold vnum at h
 split at h
 ·rename_i hc
  injection h with h
  obtain⟨h1,h2⟩:=whole_ne hc.1
  obtain⟨m,h3,h4⟩:=kY l 0 h2
  have h5:Lib.decNat l=some m:=by
   unfold Lib.decNat
   rw[if_neg (by simpa using h1)]
   exact h3
  have h6:m<10 ^ 6:=Nat.lt_of_lt_of_le (by simpa using h4) (Nat.pow_le_pow_right (by omega) hc.2)
  have h7:n=(m:Int):=by rw[←h];unfold numB;rw[h5];rfl
  omega
 ·cases h
theorem chkV_zero {v:Ver} (h:chkV v=0):(0≤v.a∧v.a≤999999)∧(0≤v.b∧v.b≤999999)∧(0≤v.c∧v.c≤999999)∧v.pre.length≤10∧∀p∈v.pre,yB p=false:=by
 unfold chkV at h
 split at h
 ·rename_i hc
  simp only[inB,Bool.and_eq_true,decide_eq_true_eq] at hc
  split at h
  ·cases h
  ·rename_i hl
   split at h
   ·cases h
   ·rename_i hb
    refine⟨hc.1,hc.2.1,hc.2.2,by omega,fun p hp=>?_⟩
    cases hq:yB p with
    | false=>rfl
    | true=>exact absurd (List.any_eq_true.2 ⟨p,hp,hq⟩) hb
 ·cases h
theorem rdV_chk {t:List UInt8} {v:Ver} (h:rdV t=some v):chkV v=0:=by
 unfold rdV at h
 split at h
 ·split at h
  ·split at h
   ·rename_i hc
    injection h with h
    rw[←h];exact hc
   ·cases h
  ·cases h
 ·cases h
theorem badPre_len {p:List UInt8} (h:yB p=false):p.length≤20:=by
 simp only[yB,Bool.or_eq_false_iff,decide_eq_false_iff_not] at h
 omega
theorem fold_ok:∀(l:List (List UInt8)) (p q:Part) (i:Nat),yb p i l=some q→(0≤p.n0∧p.n0≤999999)∧(0≤p.n1∧p.n1≤999999)∧(0≤p.n2∧p.n2≤999999)∧0≤p.has∧p.has≤i∧(1≤i→1≤p.has)∧p.pre=[] →
  (0≤q.n0∧q.n0≤999999)∧(0≤q.n1∧q.n1≤999999)∧(0≤q.n2∧q.n2≤999999)∧0≤q.has∧q.has≤i+l.length∧(1≤i+l.length→1≤q.has)∧q.pre=[]
 | [],p,q,i,h,hp=>by
   simp only[yb] at h
   injection h with h
   subst h
   simpa using hp
 | t::l,p,q,i,h,hp=>by
   simp only[yb] at h
   split at h
   ·rename_i r hs
    obtain⟨a,b,c,d,e,f,g⟩:=hp
    have hr:(0≤r.n0∧r.n0≤999999)∧(0≤r.n1∧r.n1≤999999)∧(0≤r.n2∧r.n2≤999999)∧0≤r.has∧r.has≤(i+1:Nat)∧(1≤i+1→1≤r.has)∧r.pre=[]:=by
     unfold qU at hs
     split at hs
     ·rename_i hv
      injection hs with hs
      obtain⟨n,hn⟩:=Option.isSome_iff_exists.1 hv.1
      have hb:=vnum_range hn
      rw[hn] at hs
      simp only[Option.getD_some] at hs
      subst hs
      have hh:=hv.2
      unfold Part.put
      split<;>simp only<;>refine⟨?_,?_,?_,?_,?_,?_,g⟩<;>first | assumption | omega
     ·split at hs
      ·rename_i ho
       injection hs with hs
       subst hs
       exact⟨a,b,c,d,by omega,fun _=>f (by omega),g⟩
      ·cases hs
    have:=fold_ok l r q (i+1) h hr
    rw[List.length_cons]
    refine⟨this.1,this.2.1,this.2.2.1,this.2.2.2.1,?_,?_,this.2.2.2.2.2.2⟩
    ·have:=this.2.2.2.2.1;omega
    ·intro _;exact this.2.2.2.2.2.1 (by omega)
   ·cases h
def vj (l:List (List UInt8)):Prop:=l.length≤10∧∀p∈l,yB p=false
theorem kq {l:List (List UInt8)} (h:vj l):yR l:=⟨by have:=h.1;unfold lim;omega,fun p hp=>by have:=badPre_len (h.2 p hp);unfold lim;omega⟩
theorem splitL_ne (s sep:List UInt8):zO s sep≠[]:=by
 unfold zO Lib.split
 intro h
 cases hc:Lib.count s sep with
 | zero=>rw[hc] at h;cases h
 | succ n =>
   rw[hc] at h
   simp only[Lib.splitK] at h
   split at h<;>cases h
theorem xX {t:List UInt8} (h:(zw t).2=true):(zw t).1.ok∧vj (zw t).1.pre:=by
 unfold zw at h ⊢
 split at h
 ·rename_i hc
  rw[if_pos hc]
  split at h
  ·rename_i v hv
   obtain⟨h1,h2,h3,h4,h5⟩:=chkV_zero (rdV_chk hv)
   exact⟨⟨h1,h2,h3,⟨by simp,by simp⟩,kq ⟨h4,h5⟩⟩,h4,h5⟩
  ·cases h
 ·rename_i hc
  rw[if_neg hc]
  split at h
  ·cases h
  ·rename_i hl
   rw[if_neg hl]
   split at h
   ·rename_i p hp
    have:=fold_ok _ part0 p 0 hp (by simp[part0])
    obtain⟨h1,h2,h3,h4,h5,h6,h7⟩:=this
    have hn:=List.length_pos_iff.2 (splitL_ne t [46])
    have hg:vj p.pre:=by rw[h7];exact⟨by simp,by simp⟩
    exact⟨⟨h1,h2,h3,⟨h6 (by omega),by show p.has≤3;omega⟩,kq hg⟩,hg⟩
   ·cases h
def Cpn.good (c:Cpn):Prop:=c.sign.length≤3∧(c.sign=wP∨((c.p.ok∧vj c.p.pre)∧(c.sign=[45]→c.tu.ok∧vj c.tu.pre)))
theorem Cpn.good.ok {c:Cpn} (h:c.good):c.ok:=⟨by have:=h.1;unfold lim;omega,h.2.imp id fun⟨h1,h2⟩=>⟨h1.1,fun e=>(h2 e).1⟩⟩
theorem opW_sign:∀(gs:List (List UInt8)) (s:List UInt8),(opW gs s).1=[]∨(opW gs s).1∈gs
 | [],s=>.inl rfl
 | g::l,s=>by
   simp only[opW]
   split
   ·exact .inr (by simp)
   ·exact (opW_sign l s).imp id fun h=>by simp[h]
theorem sgs_sign {s:List UInt8} (h:s=[]∨s∈sgs):s.length≤3∧s≠[45]:=by
 rcases h with rfl | h
 ·simp
 ·simp only[sgs,List.mem_cons,List.not_mem_nil,or_false] at h
  rcases h with rfl | rfl | rfl | rfl | rfl | rfl | rfl<;>simp
theorem altS_good {w:List UInt8} {l l':List (List UInt8)} {c:Cpn} (h:altS w l=some (c,l')):c.good∧l'.length≤l.length:=by
 refine⟨?_,altS_len h⟩
 have hsg:=sgs_sign (opW_sign sgs w)
 unfold altS at h
 split at h
 ·injection h with h;injection h with h _;subst h
  exact⟨by simp[cAll,wP],.inl rfl⟩
 ·split at h
  ·split at h
   ·split at h
    ·rename_i hr
     injection h with h;injection h with h _;subst h
     exact⟨hsg.1,.inr ⟨xX hr,fun e=>absurd e hsg.2⟩⟩
    ·cases h
   ·cases h
  ·split at h
   ·rename_i hr
    injection h with h;injection h with h _;subst h
    exact⟨hsg.1,.inr ⟨xX hr,fun e=>absurd e hsg.2⟩⟩
   ·cases h
theorem altN_good:∀(n:Nat) (ws:List (List UInt8)) (l:List Cpn),altN n ws=some l→(∀c∈l,c.good)∧l.length≤ws.length
 | 0,ws,l,h=>by
   simp only[altN] at h;injection h with h;subst h
   exact⟨by simp,by simp⟩
 | n+1,[],l,h=>by
   simp only[altN] at h;injection h with h;subst h
   exact⟨by simp,by simp⟩
 | n+1,w::ws,l,h=>by
   simp only[altN] at h
   split at h
   ·rename_i c l' hs
    obtain⟨h1,h2⟩:=altS_good hs
    cases ha:altN n l' with
    | none=>rw[ha] at h;cases h
    | some r =>
      rw[ha] at h
      simp only[Option.map_some,Option.some.injEq] at h
      subst h
      obtain⟨h3,h4⟩:=altN_good n l' r ha
      refine⟨fun x hx=>?_,by simp;omega⟩
      rcases List.mem_cons.1 hx with rfl | hx
      ·exact h1
      ·exact h3 x hx
   ·cases h
theorem altR_good {t:List UInt8} (h:(altR t).2=true):(∀c∈(altR t).1,c.good)∧(altR t).1.length≤t.length+1:=by
 have hw:(qa (zO t [32])).length≤t.length+1:=Nat.le_trans (List.length_filter_le _ _) (jR (by simp))
 have key:∀ws:List (List UInt8),ws=qa (zO t [32])→((match altN ws.length ws with
   | some l=>(l,!l.isEmpty)
   | none=>([],false)):List Cpn×Bool).2=true→(∀c∈((match altN ws.length ws with
   | some l=>(l,!l.isEmpty)
   | none=>([],false)):List Cpn×Bool).1,c.good)∧((match altN ws.length ws with
   | some l=>(l,!l.isEmpty)
   | none=>([],false)):List Cpn×Bool).1.length≤t.length+1:=by
  intro ws hws hk
  cases ha:altN ws.length ws with
  | none=>rw[ha] at hk;cases hk
  | some l =>
    obtain⟨h1,h2⟩:=altN_good _ _ _ ha
    exact⟨h1,by rw[hws] at h2;exact Nat.le_trans h2 hw⟩
 unfold altR at h ⊢
 split at h
 ·rename_i a b c hws
  split at h
  ·rename_i hb
   simp only[Bool.and_eq_true] at h
   rw[if_pos hb]
   refine⟨fun x hx=>?_,by simp⟩
   simp only[List.mem_singleton] at hx
   subst hx
   exact⟨by simp,.inr ⟨xX h.1,fun _=>xX h.2⟩⟩
  ·rename_i hb
   rw[if_neg hb]
   have:=key [a,b,c] (by rw[hws]) h
   exact this
 ·exact key _ rfl h
def Cut.good (c:Cut):Prop:=vj c.v.pre
theorem Cut.good.small {c:Cut} (h:c.good):c.v.small:=kq h
theorem cut0_good:cut0.good:=⟨by simp[cut0],by simp[cut0]⟩
theorem yq:leastC.good:=⟨by simp[leastC],by simp[leastC,yB,preB,preC,digs,wN,digB,pr]⟩
theorem xt (p:Part) (i:Nat):(yc p i).good:=by
 have h:(yc p i).v.pre=[[48]]:=by unfold yc;split<;>rfl
 have:=yq
 unfold Cut.good at this ⊢
 rw[h]
 exact this
theorem low_good {p:Part} (h:vj p.pre):(lowC p).good:=h
theorem high_good {p:Part} (h:vj p.pre):(xU p).good:=by
 unfold xU
 split
 ·exact xt _ _
 ·exact h
theorem vK {a b:Cut} (ha:a.good) (hb:b.good):(btw a b).length≤1∧∀s∈btw a b,s.lo.good∧s.hi.good:=by
 unfold btw
 split
 ·exact⟨by simp,by simp⟩
 ·refine⟨by simp,fun s hs=>?_⟩
  simp only[List.mem_singleton] at hs
  subst hs
  exact⟨ha,hb⟩
theorem vk {a:Cut} (ha:a.good):([yj a]:List Str).length≤1∧∀s∈[yj a],s.lo.good∧s.hi.good:=by
 refine⟨by simp,fun s hs=>?_⟩
 simp only[List.mem_singleton] at hs
 subst hs
 exact⟨ha,cut0_good⟩
theorem strS_good {c:Cpn} (hc:c.good):(strS c).1.length≤1∧∀s∈(strS c).1,s.lo.good∧s.hi.good:=by
 obtain⟨_,hc⟩:=hc
 unfold strS
 by_cases h0:c.sign=wP
 ·rw[if_pos h0];exact vk yq
 rw[if_neg h0]
 obtain⟨⟨_,hp⟩,ht⟩:=hc.resolve_left h0
 have hl:=low_good hp
 have hh:=high_good hp
 split
 ·exact vk hl
 split
 ·exact vK yq hl
 split
 ·exact vk hh
 split
 ·exact vK yq hh
 split
 ·rename_i e;exact vK hl (high_good (ht e).2)
 split
 ·exact vK hl (xt _ _)
 split
 ·exact vK hl (xt _ _)
 ·exact vK hl hh
def goodR (l:List Str):Prop:=∀s∈l,s.lo.good∧s.hi.good
theorem goodR.small {l:List Str} (h:goodR l) (hl:l.length≤lim):qW l:=⟨hl,fun s hs=>⟨(h s hs).1.small,(h s hs).2.small⟩⟩
theorem vL (f:Bool→Bool→Bool) {a b:List Str} (ha:goodR a) (hb:goodR b):goodR (combL f a b):=combL_all cut0_good f ha hb
def rrA:List (List UInt8)→Option (List (List Cpn))
 | []=>some []
 | s::l=>if (altR s).2=true then (rrA l).map ((altR s).1::·) else none
noncomputable def meetL:List Cpn→List Str→Option (List Str)
 | [],m=>some m
 | c::l,m=>if (strS c).2=true then meetL l (combL and m (strS c).1) else none
noncomputable def joinL:List (List Cpn)→List Str→Option (List Str)
 | [],o=>some o
 | l::ls,o=>match meetL l [yj leastC] with
   | some m=>joinL ls (combL or o m)
   | none=>none
noncomputable def yO (t:List UInt8):List Str×Int:=if (400:Int)<t.length then ([],2) else match rrA (zO t [124,124]) with
 | none=>([],10)
 | some ls=>match joinL ls [] with
   | none=>([],1)
   | some o=>if (100:Int)<o.length then ([],2) else (o,0)
theorem meetL_good:∀(l:List Cpn) (m r:List Str),(∀c∈l,c.good)→goodR m→meetL l m=some r→goodR r∧r.length≤m.length+l.length
 | [],m,r,_,hm,h=>by
   simp only[meetL] at h;injection h with h;subst h
   exact⟨hm,by simp⟩
 | c::l,m,r,hl,hm,h=>by
   simp only[meetL] at h
   split at h
   ·obtain⟨h1,h2⟩:=strS_good (hl c (by simp))
    obtain⟨h3,h4⟩:=meetL_good l _ r (fun x hx=>hl x (by simp[hx])) (vL and hm h2) h
    have:=combL_len and m (strS c).1
    exact⟨h3,by simp only[List.length_cons];omega⟩
   ·cases h
theorem rrA_good:∀(l:List (List UInt8)) (ls:List (List Cpn)) (n:Nat),(∀s∈l,s.length≤n)→rrA l=some ls→(∀a∈ls,(∀c∈a,c.good)∧a.length≤n+1)∧ls.length=l.length
 | [],ls,n,_,h=>by
   simp only[rrA] at h;injection h with h;subst h
   exact⟨by simp,rfl⟩
 | s::l,ls,n,hn,h=>by
   simp only[rrA] at h
   split at h
   ·rename_i hs
    cases ha:rrA l with
    | none=>rw[ha] at h;cases h
    | some r =>
      rw[ha] at h
      simp only[Option.map_some,Option.some.injEq] at h
      subst h
      obtain⟨h1,h2⟩:=rrA_good l r n (fun x hx=>hn x (by simp[hx])) ha
      obtain⟨h3,h4⟩:=altR_good hs
      have:=hn s (by simp)
      refine⟨fun a ha=>?_,by simp[h2]⟩
      rcases List.mem_cons.1 ha with rfl | ha
      ·exact⟨h3,by omega⟩
      ·exact h1 a ha
   ·cases h
attribute [local go_sem] Oper.semAt_some
theorem spec_calls {P:Program} {g:FuncId} {F:List PV→Option PV} {us:List Value} {v:Value} (h:jL True P g (zc false [] F)) (hF:zc false [] F (us.map PV.v) (fun _=>none) 0=some (.v v,fun _=>none,0)) (hl:∀u∈us,lit u=true) {W:World} (hG:Glo P W fun b=>b<W.heap.size) :
  Calls P g us.toArray W fun e w'=>e=.returned v∧Fr True W (fun _=>False) w':=by
 have hz:Zip (RepO W (fun b=>b<W.heap.size) (fun _=>⟨0,0,0⟩) 0) (us.map PV.v) us:=by
  induction us with
  | nil=>exact .nil
  | cons u us ih=>exact .cons (.c (.v (hl u (by simp)))) (by
    clear hF
    have:∀us:List Value,(∀u∈us,lit u=true)→Zip (RepO W (fun b=>b<W.heap.size) (fun _=>⟨0,0,0⟩) 0) (us.map PV.v) us:=by
     intro us
     induction us with
     | nil=>intro _;exact .nil
     | cons u us ih=>intro h;exact .cons (.c (.v (h u (by simp)))) (ih fun x hx=>h x (by simp[hx]))
    exact this us fun x hx=>hl x (by simp[hx]))
 refine (h.2 _ _ _ _ _ _ hF W (fun b=>b<W.heap.size) (fun _=>⟨0,0,0⟩) us (inv_empty _ (fun b hb=>hb) hG) hz).mono fun e w' hh=>?_
 obtain⟨x,S',G',rfl,st,hx⟩:=hh
 obtain⟨rfl,_⟩:=hx.v_inv
 exact⟨rfl,⟨st.fr.os,st.fr.tape,st.fr.output,st.fr.size,st.fr.drawn,fun k hk _=>st.fr.block k hk fun⟨_,_,h,_⟩=>by cases h⟩⟩
theorem fr_cell {W W':World} {L:Nat→Prop} (h:Fr True W L W') {a:Addr} {v:Value} (hc:W.cell? a=some v) (hn:¬L a.block):W'.cell? a=some v:=by
 rw[←hc]
 exact World.cell?_of_block (h.block _ (cell_lt hc) hn)
def encB (l:List (List UInt8)):List Value:=l.map fun p=>.string ⟨p.toArray⟩
def strAt (w:World) (b:Nat):Nat:=match w.cell? ⟨b,0,none⟩ with
 | some (.string s)=>s.size
 | _=>0
def CellAt (w:World) (b:Nat) (v:Value):Prop:=∃cs ty,w.heap[b]?=some (.cells cs ty (0,0))∧cs[0]?=some v
theorem CellAt.cell {w:World} {b:Nat} {v:Value} (h:CellAt w b v):w.cell? ⟨b,0,none⟩=some v:=by
 obtain⟨cs,ty,h1,h2⟩:=h
 simp[World.cell?,h1,h2]
theorem CellAt.free {w:World} {b:Nat} {v:Value} (h:CellAt w b v):w.frozen? ⟨b,0,none⟩=false:=by
 obtain⟨cs,ty,h1,h2⟩:=h
 simp[World.frozen?,h1]
theorem CellAt.same {w w':World} {b:Nat} {v:Value} (h:CellAt w b v) (e:w'.heap[b]?=w.heap[b]?):CellAt w' b v:=by
 obtain⟨cs,ty,h1,h2⟩:=h
 exact⟨cs,ty,e.trans h1,h2⟩
theorem CellAt.lt {w:World} {b:Nat} {v:Value} (h:CellAt w b v):b<w.heap.size:=by
 obtain⟨cs,ty,h1,h2⟩:=h
 exact (Array.getElem?_eq_some_iff.1 h1).1
theorem CellAt.set {w:World} {b:Nat} {v:Value} (u:Value) (h:CellAt w b v):CellAt (w.setCell ⟨b,0,none⟩ u) b u:=by
 obtain⟨cs,ty,h1,h2⟩:=h
 have hl:=(Array.getElem?_eq_some_iff.1 h2).1
 refine⟨cs.setIfInBounds 0 u,ty,?_,by simp[hl]⟩
 simp[World.setCell,Array.getElem?_modify,h1]
theorem CellAt.setFr {w:World} {b:Nat} (u:Value) (B:Nat→Prop) (hB:B b):Fr True w B (w.setCell ⟨b,0,none⟩ u) :=
 ⟨rfl,rfl,rfl,by simp[World.setCell],fun _=>Nat.le_refl _,fun k _ hn=>by
  have:¬b=k:=fun e=>hn (e ▸ hB)
  simp[World.setCell,Array.getElem?_modify,this]⟩
theorem CellAt.str {w:World} {b:Nat} {s:ByteArray} (h:CellAt w b (.string s)):strAt w b=s.size:=by
 unfold strAt
 rw[h.cell]
set_option maxRecDepth 100000 in
set_option maxHeartbeats 2000000 in
theorem splitSeq1_in (n l B1 B2 B3:Nat) (sep t:List UInt8) (hs1:1≤sep.length) (hs2:sep.length≤lim) (ht:t.length≤lim) (h12:B1≠B2) (h23:B3≠B2) (J Jx:List Value→World→Prop)
  (hJ:∀pre W W',J pre W→Fr True W (fun b=>b=B1∨b=B2∨b=B3) W'→J pre W') (hGl:∀pre W,J pre W→Glo prog W fun b=>b<W.heap.size)
  (hY:∀pre x W,J pre W→(encB (zO t sep))[pre.length]?=some x→YieldAt Fence.wide n prog l #[x] W fun e W'=>(e=.returned (.bool true)∧J (pre++[x]) W'∧(∀b,(b=B1∨b=B2∨b=B3)→W'.heap[b]?=W.heap[b]?)∧W.heap.size≤W'.heap.size)∨(e=.returned (.bool false)∧Jx (pre++[x]) W'))
  (W:World) (h0:J [] W) (h1:W.cell? ⟨B1,0,none⟩=some (.string ⟨sep.toArray⟩)) (h2:CellAt W B2 (.string ⟨t.toArray⟩)) (h3:W.cell? ⟨B3,0,none⟩=some (.int .i64 0)) :
  CallsIn Fence.wide (n+1) prog 204 #[.func (.yield l) #[] #[],.pointer (some ⟨B1,0,none⟩),.pointer (some ⟨B2,0,none⟩),.pointer (some ⟨B3,0,none⟩)] W fun e W'=>(∃v,e=.returned v)∧(J (encB (zO t sep)) W'∨∃pre,Jx pre W'):=by
 refine callsIn_of_wp func204 rfl trivial ?_ rfl
 simp only[Tryz.ntmps204,List.size_toArray,List.length_cons,List.length_nil,Nat.reduceAdd,Nat.reduceSub,Array.replicate_succ,Array.replicate_zero,List.push_toArray,List.append_toArray,List.nil_append,List.cons_append]
 have h2c:=h2.cell
 have hse:((sep.length:Int)==0)=false:=beq_eq_false_iff_ne.2 (by omega)
 gi_wp2
 try simp only[hse]
 have hx:∀cur:List UInt8,cur.length≤lim→∀wr:World,Glo prog wr (fun b=>b<wr.heap.size)→Calls prog 137 #[.string ⟨cur.toArray⟩,.string ⟨sep.toArray⟩] wr fun e w'=>e=.returned (.int .i64 (Lib.index cur sep))∧Fr True wr (fun _=>False) w':=fun cur hc wr hg=>by
  exact spec_calls (us:=[.string ⟨cur.toArray⟩,.string ⟨sep.toArray⟩]) sIndex_sound (vD cur sep _ _ hc hs2) (by simp[lit]) hg
 gi_loopw [] (fun wr=>∃(done:List (List UInt8)) (cur:List UInt8),zO t sep=done++zO cur sep∧cur.length≤t.length∧J (encB done) wr∧wr.cell? ⟨B1,0,none⟩=some (.string ⟨sep.toArray⟩)∧CellAt wr B2 (.string ⟨cur.toArray⟩)∧wr.cell? ⟨B3,0,none⟩=some (.int .i64 0))
  (fun wr=>strAt wr B2)
 case atStart=>exact⟨[],t,rfl,Nat.le_refl _,h0,h1,h2,h3⟩
 case round =>
  obtain⟨done,cur,hsp,hcl,hJs,c1,k2,c3⟩:=hrel
  have c2:=k2.cell
  have hg:=hGl _ _ hJs
  gi_wp2
  refine⟨trivial,callsIn_wide.2 ((hx cur (Nat.le_trans hcl ht) wr hg).mono ?_)⟩
  rintro e w1 ⟨rfl,fr⟩
  dsimp only
  have d1:=fr_cell fr c1 (fun h=>h)
  have m2:=k2.same (fr.block _ k2.lt fun h=>h)
  have d2:=m2.cell
  have d3:=fr_cell fr c3 (fun h=>h)
  have hJ1:=hJ _ _ _ hJs ⟨fr.os,fr.tape,fr.output,fr.size,fr.drawn,fun k hk _=>fr.block k hk fun h=>h⟩
  have hel:(encB done).length=done.length:=by simp[encB]
  by_cases hneg:Lib.index cur sep<0
  ·have hsk:zO cur sep=[cur]:=by
    have hm:Lib.index cur sep=-1:=by
     rcases Lib.index_spec cur sep with⟨h,_⟩ | ⟨i,h,_⟩
     ·exact h
     ·omega
    unfold zO Lib.split
    rw[Lib.count_miss hm]
    rfl
   have hu:(encB (zO t sep))[(encB done).length]?=some (.string ⟨cur.toArray⟩):=by
    rw[hsp,hsk,hel]
    simp[encB]
   obtain⟨fn,tmps,assign,body,hy,hR⟩:=hY _ _ w1 hJ1 hu
   gi_wp2
   refine hR.mono ?_
   rintro e W3 (⟨rfl,hJ3,hk3,hz3⟩ | ⟨rfl,hJx3⟩)
   ·gi_wp2
    go_end0
    refine⟨⟨_,rfl⟩,.inl ?_⟩
    rw[hsp,hsk]
    simpa[encB] using hJ3
   ·gi_wp2
    go_end0
    exact⟨⟨_,rfl⟩,.inr ⟨_,hJx3⟩⟩
  ·obtain⟨i,hi⟩:∃i:Nat,Lib.index cur sep=i:=⟨(Lib.index cur sep).toNat,by omega⟩
   have hne:sep≠[]:=by rintro rfl;simp at hs1
   have hsk:zO cur sep=cur.take i::zO (cur.drop (i+sep.length)) sep:=by
    unfold zO Lib.split
    rw[Lib.count_hit hne hi,Nat.add_comm 1,splitK_hit hi]
   have htk:(cur.drop (i+sep.length)).take (cur.length - (i+sep.length))=cur.drop (i+sep.length):=List.take_of_length_le (by simp)
   have hroom:=Lib.index_room cur sep (by omega)
   rw[hi] at hroom
   unfold lim at ht hs2
   have hwi:wrap64 (i:Int)=(i:Int):=by unfold wrap64;omega
   have hu:(encB (zO t sep))[(encB done).length]?=some (.string ⟨(cur.take i).toArray⟩):=by
    rw[hsp,hsk,hel]
    simp[encB]
   obtain⟨fn,tmps,assign,body,hy,hR⟩:=hY _ _ w1 hJ1 hu
   rw[hi]
   gi_wp2
   refine hR.mono ?_
   rintro e W3 (⟨rfl,hJ3,hk3,hz3⟩ | ⟨rfl,hJx3⟩)
   ·have e1:W3.cell? ⟨B1,0,none⟩=some (.string ⟨sep.toArray⟩):=by rw[←d1];exact World.cell?_of_block (hk3 B1 (.inl rfl))
    have o2:=m2.same (hk3 B2 (.inr (.inl rfl)))
    have e2:=o2.cell
    have e4:=o2.free
    have e3:W3.cell? ⟨B3,0,none⟩=some (.int .i64 0):=by rw[←d3];exact World.cell?_of_block (hk3 B3 (.inr (.inr rfl)))
    gi_wp2
    go_roundw
    case rel =>
     refine⟨done++[cur.take i],cur.drop (i+sep.length),by rw[hsp,hsk];simp,by simp;omega,?_,?_,?_,?_⟩
     ·have:=hJ _ _ _ hJ3 (CellAt.setFr (w:=W3) (b:=B2) (.string ⟨(cur.drop (i+sep.length)).toArray⟩) (fun b=>b=B1∨b=B2∨b=B3) (.inr (.inl rfl)))
      simpa[encB] using this
     ·exact fr_cell (CellAt.setFr (w:=W3) (b:=B2) _ (fun b=>b=B2) rfl) e1 h12
     ·exact o2.set (.string ⟨(cur.drop (i+sep.length)).toArray⟩)
     ·exact fr_cell (CellAt.setFr (w:=W3) (b:=B2) _ (fun b=>b=B2) rfl) e3 h23
    case measure =>
     have:=o2.set (.string ⟨(cur.drop (i+sep.length)).toArray⟩)
     rw[this.str,k2.str]
     simp
     omega
   ·gi_wp2
    refine bodyPost_ret (results_none rfl _ _ _) rfl ?_
    exact⟨⟨_,rfl⟩,.inr ⟨_,hJx3⟩⟩
def itSplit:yU:=fun cap hp=>match cap with
 | [.ref i1 0 0,.ref i2 0 0,.ref i3 0 0]=>match hp i1,hp i2,hp i3 with
   | some ⟨_,1,false,[[.v (.string sep)]]⟩,some ⟨_,1,false,[[.v (.string t)]]⟩,some ⟨_,1,false,[[.v (.int .i64 0)]]⟩ =>
     if i1≠i2∧i3≠i2∧1≤sep.data.toList.length∧sep.data.toList.length≤lim∧t.data.toList.length≤lim then some ((zO t.data.toList sep.data.toList).map str,upd (upd (upd hp i1 none) i2 none) i3 none) else none
   | _,_,_=>none
 | _=>none
theorem live_cell {P:Program} {w:World} {S:Nat→Prop} {G:Nat→GI} {hp:Hp} {nx id e:Nat} {u:Value} (hi:Inv P w S G hp nx) (hb:hp id=some ⟨e,1,false,[[.v u]]⟩):CellAt w (G id).g u:=by
 have hl:=hi.live id _ hb
 have hs:(G id).s=1:=hl.bs.symm
 obtain⟨cur,h1,h2,h3⟩:=hl.row (by omega)
 obtain⟨x,h4,h5⟩:=h3 0 0 [.v u] (.v u) rfl rfl
 obtain⟨rfl,_⟩:=h5.2.1.v_inv
 exact⟨cur,e,h1,by simpa[hs] using h4⟩
set_option maxRecDepth 100000 in
theorem split_iter:IterD True prog 204 itSplit:=by
 refine⟨⟨_,func204,by kernel_rfl,by kernel_rfl⟩,fun cap hp nx xs hp1 h=>?_⟩
 unfold itSplit at h
 split at h
 case h_2=>cases h
 rename_i i1 i2 i3
 split at h
 case h_2=>cases h
 rename_i e1 sep e2 t e3 b1 b2 b3
 split at h
 case isFalse=>cases h
 rename_i hc
 obtain⟨n12,n32,hs1,hs2,ht⟩:=hc
 injection h with h
 injection h with ha hb
 subst ha;subst hb
 have hsub:∀id b,upd (upd (upd hp i1 none) i2 none) i3 none id=some b→hp id=some b∧id≠i1∧id≠i2∧id≠i3:=fun id b hb=>by
  by_cases q3:id=i3
  ·subst q3;rw[qf] at hb;cases hb
  rw[zN _ _ _ _ q3] at hb
  by_cases q2:id=i2
  ·subst q2;rw[qf] at hb;cases hb
  rw[zN _ _ _ _ q2] at hb
  by_cases q1:id=i1
  ·subst q1;rw[qf] at hb;cases hb
  rw[zN _ _ _ _ q1] at hb
  exact⟨hb,q1,q2,q3⟩
 refine⟨encB (zO t.data.toList sep.data.toList),by simp[encB],by simp[encB,lit],fun id b hb=>(hsub id b hb).1,fun w S G vs hi hz=>?_⟩
 obtain⟨v1,r1,rfl,z1,hz⟩:=hz.uncons
 obtain⟨v2,r2,rfl,z2,hz⟩:=hz.uncons
 obtain⟨v3,r3,rfl,z3,hz⟩:=hz.uncons
 obtain rfl:=hz.unnil
 have c1:=live_cell hi b1
 have c2:=live_cell hi b2
 have c3:=live_cell hi b3
 obtain⟨_,rfl⟩:=z1.ref_inv
 obtain⟨_,rfl⟩:=z2.ref_inv
 obtain⟨_,rfl⟩:=z3.ref_inv
 have g12:(G i1).g≠(G i2).g:=fun e=>n12 (hi.inj _ _ _ _ b1 b2 e)
 have g32:(G i3).g≠(G i2).g:=fun e=>n32 (hi.inj _ _ _ _ b3 b2 e)
 refine⟨fun b=>b=(G i1).g∨b=(G i2).g∨b=(G i3).g,?_,?_⟩
 ·have key:∀i blk,hp i=some blk→(i=i1∨i=i2∨i=i3)→wI hp G (G i).g∧Away S G (upd (upd (upd hp i1 none) i2 none) i3 none) (G i).g:=fun i blk hb hi' =>
   ⟨⟨i,blk,hb,rfl⟩,hi.apart i blk hb,fun id b' hid e=>by
     obtain⟨q0,q1,q2,q3⟩:=hsub id b' hid
     have:=hi.inj _ _ _ _ q0 hb e
     subst this
     rcases hi' with h | h | h
     ·exact q1 h
     ·exact q2 h
     ·exact q3 h⟩
  rintro b (rfl | rfl | rfl)
  ·exact key i1 _ b1 (.inl rfl)
  ·exact key i2 _ b2 (.inr (.inl rfl))
  ·exact key i3 _ b3 (.inr (.inr rfl))
 ·intro n l J Jx hJ hJx hGl hY W h0 hW _
  have:=splitSeq1_in n l (G i1).g (G i2).g (G i3).g sep.data.toList t.data.toList hs1 hs2 ht g12 g32 J Jx hJ hGl hY W h0 (c1.same (hW _ (.inl rfl))).cell (c2.same (hW _ (.inr (.inl rfl)))) (c3.same (hW _ (.inr (.inr rfl)))).cell
  simpa using this
end Go.Proofs.YtanbabpnlgfcpaaGreatDoor
namespace Go.AM
open Go.RowKit
def mkCtxI (P:Program) (l:Tab) (g:FuncId) (it:yU):Ctx:=⟨P,lookup l,fun _=>[],fun _=>[],fun _=>false,fun _=>[],fun k=>if k=g then some it else none⟩
@[simp] theorem mkCtxI_P (P:Program) (l:Tab) (g:FuncId) (it:yU):(mkCtxI P l g it).P=P:=rfl
@[simp] theorem call_mkI (P:Program) (l:Tab) (k:FuncId) (it:yU) (hp:Hp) (nx g:Nat) (x y xs:List PV):qN (mkCtxI P l k it) hp nx (some (.fn (.func g) x y)) xs=(lookup l g).bind fun s=>s (x++xs++y) hp nx:=by
 unfold qN mkCtxI
 simp only
 cases lookup l g<;>rfl
@[simp] theorem EvC_region_mkI (P:Program) (l:Tab) (k:FuncId) (it:yU) (i:Nat) (ops:Array Oper) (d:Bool) (st:St) (K:Exit→St→Prop):EvC (mkCtxI P l k it) (.region i ops d) st K=EvL (mkCtxI P l k it) ops ops.toList st (normK K):=jN _ i ops d st K rfl rfl
theorem good_ofI {P:Program} {l:Tab} {q:List Nat} {k:FuncId} {it:yU} (hm:P.follows .mixedOrders=true) (h:AllD True P q l) (hi:IterSound P k it):AM.Good (mkCtxI P l k it) (fun g=>q.contains g) :=
 let g:=zk hm h
 ⟨g.spec,g.quiet,g.mixed,(fun _ _ h=>by cases h),(fun j it' h=>by
  have:(if j=k then some it else none)=some it':=h
  split at this
  ·rename_i e
   injection this with this
   subst this;subst e
   exact hi
  ·cases this)⟩
@[simp] theorem asgK_n (C:Ctx) (b:Code) (K:Exit→St→Prop) (st:St):asgK C b K .normal st=EvC C b st K:=rfl
@[simp] theorem rngK_n (I:Nat→Hp→Nat→Prop) (k:Nat) (σ:Nat→PV) (K:Exit→St→Prop) (st:St):rngK I k σ K .normal st=I (k+1) st.hp st.nx:=rfl
@[simp] theorem rngK_r (I:Nat→Hp→Nat→Prop) (k:Nat) (σ:Nat→PV) (K:Exit→St→Prop) (st:St):rngK I k σ K .ret st=K .ret ⟨σ,st.hp,st.nx⟩:=rfl
theorem y8 {hp:Hp} {nx e s:Nat} {v:PV} {xs:List (List PV)} (h:OwnS hp nx e s v xs) {j:Nat} {b:Blk} (hb:hp j=some b) (ha:b.arr=false):∀n,v≠.own j 0 n:=by
 rcases h with⟨rfl,_⟩ | ⟨id,h1,rfl,h2⟩
 ·intro n e;cases e
 ·intro n e
  injection e with e
  subst e
  rw[h2] at hb
  injection hb with hb
  subst hb
  cases ha
end Go.AM
namespace Go.Proofs.YtanbabpnlgfcpaaGreatDoor
open Go.Proofs.Tryz
open Go.RowKit Go.AM
noncomputable def rrP (t:List UInt8):PV:=.tup [.sl 11 (encR (yO t).1),int (yO t).2]
set_option maxRecDepth 100000 in
theorem splitSeq_sound:za prog 174 (hRun C0 f174):=zs (code:=_) wA ⟨func174,by kernel_rfl,rfl,by kernel_rfl⟩
noncomputable abbrev Csq:Ctx:=zA prog [(174,hRun C0 f174)]
theorem goodsq:AM.Good Csq (fun g=>([]:List Nat).contains g):=zk mixed ⟨splitSeq_sound,by simp,trivial⟩
set_option maxRecDepth 100000 in
theorem sseq_sound:za prog 143 (hRun Csq f143):=zs (code:=_) goodsq ⟨func143,by kernel_rfl,rfl,by kernel_rfl⟩
def hpSq (t sep:List UInt8) (hp:Hp) (nx:Nat):Hp:=upd (upd (upd hp nx (some ⟨9,1,false,[[str t]]⟩)) (nx+1) (some ⟨9,1,false,[[str sep]]⟩)) (nx+1+1) (some ⟨3,1,false,[[int 0]]⟩)
theorem splitSeq_run (t sep:List UInt8) (hp:Hp) (nx:Nat):hRun C0 f174 [str t,str sep,int 0] hp nx=some (.fn (.func 204) [] [.ref (nx+1) 0 0,.ref nx 0 0,.ref (nx+1+1) 0 0],hpSq t sep hp nx,nx+1+1+1):=by
 unfold hRun
 rw[if_pos (by simp[f174])]
 refine zZ rfl ?_
 simp[hpSq,f174]
theorem sseq_run (t sep:List UInt8) (hp:Hp) (nx:Nat):hRun Csq f143 [str t,str sep] hp nx=some (.fn (.func 204) [] [.ref (nx+1) 0 0,.ref nx 0 0,.ref (nx+1+1) 0 0],hpSq t sep hp nx,nx+1+1+1):=by
 have h1:=fun hp nx=>splitSeq_run t sep hp nx
 unfold hRun
 rw[if_pos (by simp[f143])]
 refine zZ rfl ?_
 simp[h1,f143]
def HasR (hp:Hp) (nx:Nat) (v:PV) (m:List Str):Prop:=v=.sl 11 (encR m)∨(v=.nil∧m=[])∨∃id,id<nx∧v=.own id 0 (encR m).length∧hp id=some ⟨216,11,true,encR m⟩
theorem HasR.frz {hp:Hp} {nx:Nat} {v:PV} {m:List Str} (h:HasR hp nx v m):∃y hp1,zF hp v=some (y,hp1)∧(Sh.s 11 spat).fix y=.sl 11 (encR m)∧(∀j,(∀n,v≠.own j 0 n)→hp1 j=hp j)∧∀j b,hp1 j=some b→hp j=some b:=by
 rcases h with rfl | ⟨rfl,rfl⟩ | ⟨id,h1,rfl,h2⟩
 ·exact⟨_,hp,rfl,spat_fix m,fun _ _=>rfl,fun _ _ h=>h⟩
 ·exact⟨_,hp,rfl,rfl,fun _ _=>rfl,fun _ _ h=>h⟩
 ·refine⟨.sl 11 (encR m),upd hp id none,by simp[h2],spat_fix m,fun j hj=>ze _ _ _ _ fun e=>hj _ (by subst e;rfl),fun j b hb=>?_⟩
  by_cases e:j=id
  ·subst e;rw[qf] at hb;cases hb
  ·rwa [zN _ _ _ _ e] at hb
theorem HasR.keep {hp hp':Hp} {nx nx':Nat} {v:PV} {m:List Str} (h:HasR hp nx v m) (hn:nx≤nx') (hh:∀id,id<nx→(∀n,v=.own id 0 n→hp' id=hp id)):HasR hp' nx' v m:=by
 rcases h with rfl | ⟨rfl,rfl⟩ | ⟨id,h1,rfl,h2⟩
 ·exact .inl rfl
 ·exact .inr (.inl ⟨rfl,rfl⟩)
 ·exact .inr (.inr ⟨id,by omega,rfl,by rw[hh id h1 _ rfl];exact h2⟩)
theorem HasR.len {hp:Hp} {nx:Nat} {v:PV} {m:List Str} (h:HasR hp nx v m):lenA prog 180 v=some (int m.length):=by
 rcases h with rfl | ⟨rfl,rfl⟩ | ⟨id,h1,rfl,h2⟩<;>simp[encR]
theorem HasR.box {hp:Hp} {nx:Nat} {v:PV} {m:List Str} (h:HasR hp nx v m) {j:Nat} {b:Blk} (hb:hp j=some b) (he:b.e≠216):∀n,v≠.own j 0 n:=by
 rcases h with rfl | ⟨rfl,rfl⟩ | ⟨id,h1,rfl,h2⟩
 ·intro n e;cases e
 ·intro n e;cases e
 ·intro n e
  injection e with e
  subst e
  rw[h2] at hb
  injection hb with hb
  subst hb
  exact he rfl
theorem HasR.lt {hp:Hp} {nx:Nat} {v:PV} {m:List Str} (h:HasR hp nx v m) {j n:Nat} (e:v=.own j 0 n):j<nx:=by
 rcases h with rfl | ⟨rfl,rfl⟩ | ⟨id,h1,rfl,h2⟩
 ·cases e
 ·cases e
 ·injection e with e;omega
theorem st_call (c:Cpn) (hp:Hp) (nx:Nat) (h:c.ok):zR [.g mpat] (FCm strP) [.agg c.enc] hp nx=some (strP c,hp,nx) :=
 w9 (show zh hp [.agg c.enc]=some ([.agg c.enc],hp) by simp[Cpn.enc]) (by
  have e1:(Sh.g mpat).fix (.agg c.enc)=.agg c.enc:=by simp[Cpn.enc]
  show FCm strP [(Sh.g mpat).fix (.agg c.enc)]=_
  rw[e1]
  exact zn (enc:=fun v:Cpn=>[PV.agg v.enc]) (a:=c) (fun a b e=>by simp only[List.cons.injEq,and_true] at e;injection e with e;exact cpenc_inj e) h) (.inr (by simp[Cpn.enc]))
theorem cmb_call (f:Bool→Bool→Bool) (g:Nat) (hg:(f=and∧g=148)∨(f=or∧g=149)) {hp:Hp} {nx:Nat} {v w:PV} {a b:List Str} (ha:HasR hp nx v a) (hb:HasR hp nx w b) (hne:∀id n k,v=.own id 0 n→w≠.own id 0 k) (h1:qW a) (h2:qW b) :
  ∃x hp' nx',hFreshN [.s 11 spat,.s 11 spat] FCmb [v,w,.fn (.func g) [] []] hp nx=some (x,hp',nx')∧HasR hp' nx' x (combL f a b)∧nx≤nx'∧(∀j,j<nx→(∀n,v≠.own j 0 n)→(∀n,w≠.own j 0 n)→hp' j=hp j)∧(∀n j,x=.own j 0 n→nx≤j)∧∀s es,x≠.sl s es:=by
 obtain⟨y,hp1,f1,e1,k1,_⟩:=ha.frz
 have hb':HasR hp1 nx w b:=hb.keep (Nat.le_refl _) fun id _ n e=>k1 id fun n' e'=>hne id n' n e' e
 obtain⟨z,hp2,f2,e2,k2,_⟩:=hb'.frz
 have hfr:zh hp [v,w,.fn (.func g) [] []]=some ([y,z,.fn (.func g) [] []],hp2):=by
  simp only[zh,f1,f2]
  rfl
 have hF:FCmb (fixL [.s 11 spat,.s 11 spat] (qG [] [y,z,.fn (.func g) [] []]))=some (combR f a b):=by
  show FCmb [(Sh.s 11 spat).fix y,(Sh.s 11 spat).fix z,.fn (.func g) [] []]=_
  rw[e1,e2]
  rcases hg with⟨rfl,rfl⟩ | ⟨rfl,rfl⟩
  ·have:=zn (enc:=fun a:List Str×List Str=>[PV.sl 11 (encR a.1),.sl 11 (encR a.2),.fn (.func 148) [] []]) (pre:=fun a=>qW a.1∧qW a.2) (out:=fun a=>combR and a.1 a.2) (a:=(a,b)) (cmb_inj _) ⟨h1,h2⟩
   unfold FCmb
   rw[this]
  ·have:=zn (enc:=fun a:List Str×List Str=>[PV.sl 11 (encR a.1),.sl 11 (encR a.2),.fn (.func 149) [] []]) (pre:=fun a=>qW a.1∧qW a.2) (out:=fun a=>combR or a.1 a.2) (a:=(a,b)) (cmb_inj _) ⟨h1,h2⟩
   have hno:zG (α:=List Str×List Str) (fun a=>[PV.sl 11 (encR a.1),.sl 11 (encR a.2),.fn (.func 148) [] []]) (fun a=>qW a.1∧qW a.2) (fun a=>combR and a.1 a.2) [PV.sl 11 (encR a),.sl 11 (encR b),.fn (.func 149) [] []]=none:=by
    cases hh:zG (α:=List Str×List Str) (fun a=>[PV.sl 11 (encR a.1),.sl 11 (encR a.2),.fn (.func 148) [] []]) (fun a=>qW a.1∧qW a.2) (fun a=>combR and a.1 a.2) [PV.sl 11 (encR a),.sl 11 (encR b),.fn (.func 149) [] []] with
    | none=>rfl
    | some r =>
      obtain⟨_,e,_⟩:=zf hh
      simp at e
   unfold FCmb
   rw[hno]
   exact this
 unfold hFreshN wR
 by_cases hz:combL f a b=[]
 ·have hF':=hF
  unfold combR at hF'
  rw[if_pos hz] at hF'
  simp only[hfr,hF']
  exact⟨_,_,_,rfl,.inr (.inl ⟨rfl,hz⟩),Nat.le_refl _,fun j _ q1 q2=>(k2 j q2).trans (k1 j q1),fun n j e=>(by cases e),fun s es e=>(by cases e)⟩
 ·have hF':=hF
  unfold combR at hF'
  rw[if_neg hz] at hF'
  simp only[hfr,hF']
  exact⟨_,_,_,rfl,.inr (.inr ⟨nx,by omega,rfl,by simp⟩),by omega,fun j hj q1 q2=>by rw[ze _ _ _ _ (by omega)];exact (k2 j q2).trans (k1 j q1),fun n j e=>(by injection e with e;omega),fun s es e=>(by cases e)⟩
noncomputable abbrev Crrg:Ctx:=mkCtxI prog [(143,hRun Csq f143),(144,zc false [] (FSP1 altP)),(145,zR [] (FUnit everyP)),(146,zR [.g mpat] (FCm strP)),(147,hFreshN [.s 11 spat,.s 11 spat] FCmb),(150,zR [.g spat] (FSt idS))] 204 itSplit
theorem goodrr:AM.Good Crrg (fun g=>([]:List Nat).contains g):=good_ofI mixed ⟨sseq_sound,by simp,alternative_sound,by simp,kA,by simp,stretches_sound,by simp,combine_sound,by simp,copyStretch_sound,by simp,trivial⟩ split_iter
set_option maxHeartbeats 4000000 in
theorem readRange_eval (t:List UInt8) (ht:t.length+1≤lim):∃r0,zi Crrg f122 [str t]=some r0∧Stands r0 (rrP t):=by
 refine wC (sh:=.s 11 spat) rfl ?_
 by_cases h400:(400:Int)<t.length
 ·have hv:yO t=([],2):=by unfold yO;rw[if_pos h400]
  simp[h400,rrP,hv,encR,z7,f122]
 have hsq:=fun hp nx=>sseq_run t [124,124] hp nx
 obtain⟨parts,hparts⟩:∃parts,zO t [124,124]=parts:=⟨_,rfl⟩
 have hpl:∀p∈parts,p.length≤400:=fun p hp=>by have:=jc (by rw[hparts];exact hp);omega
 have hpn:parts.length≤401:=by have:=jR (s:=t) (sep:=[124,124]) (by simp);rw[hparts] at this;omega
 have hval:yO t=match rrA parts with
  | none=>([],10)
  | some ls=>match joinL ls [] with
    | none=>([],1)
    | some o=>if (100:Int)<o.length then ([],2) else (o,0):=by unfold yO;rw[if_neg h400,hparts]<;>rfl
 simp[h400,hsq]
 refine EvC_range (p:=23) (xs:=parts.map str) rfl (by simp;exact⟨rfl,rfl⟩) (it:=itSplit) rfl (by simp[itSplit,hpSq,hparts];exact⟨⟨by decide,by omega⟩,rfl⟩) (fun k hp nx=>∃(v:PV) (done:List (List Cpn)),6≤nx∧hp 0=some ⟨180,1,false,[[.nil]]⟩∧hp 1=some ⟨33,1,false,[[int 0]]⟩∧hp 2=some ⟨197,1,false,[[v]]⟩ ∧
   OwnS hp nx 201 1 v (done.map fun l=>[.sl 11 (encM l)])∧done.length=k∧rrA parts=(rrA (parts.drop k)).map (done++·)) ?_ ?_ ?_
 ·exact⟨.nil,[],by simp,by simp,by simp,by simp,.inl ⟨rfl,rfl⟩,rfl,by rw[List.drop_zero];cases rrA parts<;>rfl⟩
 ·rintro k hp nx hk ⟨v,done,hnx,b0,b1,b2,hO,hdk,he⟩
  have hk':k<parts.length:=by simpa using hk
  have hpk:(parts.map str)[k]=str parts[k]:=by simp
  have hpkl:=hpl parts[k] (List.getElem_mem hk')
  have halt:=fun hp nx=>jS altP parts[k] hp nx (by unfold lim;omega)
  simp only[altP] at halt
  rw[hpk]
  rw[List.drop_eq_getElem_cons hk'] at he
  simp only[rrA] at he
  cases hok:(altR parts[k]).2
  ·rw[hok] at he
   simp only[Bool.false_eq_true,if_false,Option.map_none] at he
   rw[he] at hval
   have n0:¬0=nx:=by omega
   have n1:¬1=nx:=by omega
   simp[halt,hok,b0,b1,rrP,hval,encR,z7,f122]
  ·rw[hok] at he
   simp only[if_true] at he
   have hap:=OwnS.append1 (P:=prog) (t:=197) (c:=[.sl 11 (encM (altR parts[k]).1)]) hO el197 sz201 by201 ze201 rfl (by omega) (by simp[hdk];unfold maxLen;omega) (by simp[hdk];omega)
   have k0:=fun hp'=>qq hO hp' 0 (y8 hO b0 rfl)
   have k1:=fun hp'=>qq hO hp' 1 (y8 hO b1 rfl)
   have k2:=fun hp'=>qq hO hp' 2 (y8 hO b2 rfl)
   have n0:¬0=nx:=by omega
   have n1:¬1=nx:=by omega
   have n2:¬2=nx:=by omega
   have n3:¬1=nx+1:=by omega
   have n4:¬2=nx+1:=by omega
   have n5:¬nx+1=2:=by omega
   simp[halt,hok,b0,b1,b2,hap,k0,k1,k2,n0,n1,n2,n3,n4,n5,zl,zx,zm]
   refine⟨by omega,by rw[ze _ _ _ _ (by omega),k1,ze _ _ _ _ (by omega)];exact b1,done++[(altR parts[k]).1],.inr ⟨nx+1,by omega,by simp,by rw[ze _ _ _ _ (by omega)];simp⟩,by simp[hdk],?_⟩
   rw[he]
   cases rrA (parts.drop (k+1))<;>simp
 ·rintro hp nx ⟨v,done,hnx,b0,b1,b2,hO,hdk,he⟩
  rw[List.length_map] at hdk
  rw[List.length_map,List.drop_length] at he
  simp only[rrA,Option.map_some,List.append_nil] at he
  obtain⟨hgood,hdl⟩:=rrA_good parts done 400 hpl he
  rw[he] at hval
  simp only at hval
  have hlen:=hO.len el197
  rw[List.length_map] at hlen
  have hdn:done.length≤401:=by omega
  obtain⟨rows,hrows⟩:∃rows,done.map (fun l=>[PV.sl 11 (encM l)])=rows:=⟨_,rfl⟩
  rw[hrows] at hO
  have hrl:rows.length=done.length:=by rw[←hrows];simp
  simp[b2,hlen]
  refine zC (fun i σ hp nx=>σ 2=.ref 0 0 0∧σ 3=.ref 1 0 0∧σ 35=v∧σ 36=int done.length∧σ 37=int i∧6≤nx∧hp 0=some ⟨180,1,false,[[.nil]]⟩∧hp 1=some ⟨33,1,false,[[int 0]]⟩ ∧
    OwnS hp nx 201 1 v rows∧∃o,HasR hp nx (σ 8) o∧(∀s es,σ 8≠.sl s es)∧goodR o∧o.length≤i*500∧joinL done []=joinL (done.drop i) o) done.length
   ⟨by simp,by simp,by simp,by simp,by simp,hnx,b0,b1,hO,[],.inr (.inl ⟨by simp,rfl⟩),by simp,(by intro s hs;cases hs),by simp,by simp⟩ ?_
  clear hnx b0 b1 b2 hO hlen hp nx
  rintro i σ hp nx hi ⟨h2,h3,h35,h36,h37,hnx,b0,b1,hO,o,hR,hsl,hgo,hol,hj⟩
  by_cases hlt:i<done.length
  ·obtain⟨idA,hidA,rfl,hbA⟩:=hO.at_ (by omega)
   obtain⟨l,hl⟩:∃l,done[i]=l:=⟨_,rfl⟩
   have hri:∀h:i<rows.length,rows[i]=[PV.sl 11 (encM l)]:=fun h=>by
    have:rows[i]?=some [PV.sl 11 (encM l)]:=by rw[←hrows,List.getElem?_map,List.getElem?_eq_getElem hlt,hl];rfl
    rw[List.getElem?_eq_getElem h] at this
    injection this
   obtain⟨hgl,hll⟩:=hgood l (by rw[←hl];exact List.getElem_mem hlt)
   rw[List.drop_eq_getElem_cons hlt,hl] at hj
   simp only[joinL] at hj
   have hev:∀(hp:Hp) (nx:Nat),zR [] (FUnit everyP) [] hp nx=some (.sl 11 (encR [yj leastC]),hp,nx):=fun hp nx=>vH _ hp nx
   have hwi:IntKind.i64.wrap ((i:Int)+1)=(i:Int)+1:=zd (by omega) (by omega)
   have hel:(encM l).length=l.length:=by simp[encM]
   simp[h2,h3,h35,h36,h37,hlt,hrl,hbA,hri,hev,hel]
   refine zC (fun k σ hp nx=>σ 2=.ref 0 0 0∧σ 3=.ref 1 0 0∧σ 35=.own idA 0 rows.length∧σ 36=int done.length∧σ 37=int i∧6≤nx∧hp 0=some ⟨180,1,false,[[.nil]]⟩∧hp 1=some ⟨33,1,false,[[int 0]]⟩ ∧
     OwnS hp nx 201 1 (.own idA 0 rows.length) rows∧HasR hp nx (σ 8) o∧(∀s es,σ 8≠.sl s es)∧σ 42=.sl 11 (encM l)∧σ 43=int l.length∧σ 44=int k∧∃m,HasR hp nx (σ 11) m∧goodR m∧m.length≤k+1∧(∀id n n',σ 8=.own id 0 n→σ 11≠.own id 0 n')∧meetL l [yj leastC]=meetL (l.drop k) m) l.length
    ⟨by simp[h2],by simp[h3],by simp[h35,hrl],by simp[h36],by simp[h37],hnx,b0,b1,hO,by simpa using hR,by simpa using hsl,by simp,by simp,by simp,[yj leastC],.inl (by simp),(vk yq).2,by simp,by simp,by simp⟩ ?_
   clear h2 h3 h35 h36 h37 hnx b0 b1 hO hR hsl hi hbA hidA σ hp nx
   rintro k σ hp nx hk ⟨h2,h3,h35,h36,h37,hnx,b0,b1,hO,hR,hsl,h42,h43,h44,m,hM,hgm,hml,hap,hme⟩
   by_cases hltk:k<l.length
   ·obtain⟨c,hc⟩:∃c,l[k]=c:=⟨_,rfl⟩
    have hcg:c.good:=hgl c (by rw[←hc];exact List.getElem_mem hltk)
    obtain⟨hs1,hs2⟩:=strS_good hcg
    have hke:∀h:k<(encM l).length,(encM l)[k]=c.enc:=fun h=>by simp[encM,hc]
    have hst:=fun hp nx=>st_call c hp nx hcg.ok
    have hwk:IntKind.i64.wrap ((k:Int)+1)=(k:Int)+1:=zd (by omega) (by omega)
    rw[List.drop_eq_getElem_cons hltk,hc] at hme
    simp only[meetL] at hme
    have n0:¬0=nx:=by omega
    have n1:¬1=nx:=by omega
    cases hok:(strS c).2
    ·rw[hok] at hme
     simp only[Bool.false_eq_true,if_false] at hme
     rw[hme] at hj
     simp only at hj
     rw[hj] at hval
     simp only at hval
     simp only[strP,Cpn.enc] at hst hke
     simp[h2,h3,h35,h36,h37,h42,h43,h44,hltk,hel,hke,hst,hok,b0,b1,n0,n1,rrP,hval,encR,z7,f122]
    ·rw[hok] at hme
     simp only[if_true] at hme
     have hM':HasR (upd hp nx (some ⟨208,11,false,[c.enc]⟩)) (nx+1) (σ 11) m:=hM.keep (by omega) fun id hid n e=>ze _ _ _ _ (by omega)
     obtain⟨x,hp',nx',hcomb,hX,hnx',hfr,hfresh,hxs⟩:=cmb_call and 148 (.inl ⟨rfl,rfl⟩) hM' (.inl rfl:HasR _ _ (.sl 11 (encR (strS c).1)) (strS c).1) (fun id n k e e2=>by cases e2) (hgm.small (by unfold lim;omega)) (goodR.small hs2 (by unfold lim;omega))
     have hpres:∀j,j<nx→(∀n,σ 11≠.own j 0 n)→hp' j=hp j:=fun j hj q=>by
      rw[hfr j (by omega) q (fun n e=>by cases e),ze _ _ _ _ (by omega)]
     have hlm:=combL_len and m (strS c).1
     obtain⟨idA2,hidA,heA,hbA⟩:=hO.at_ (by omega)
     injection heA with heA
     subst heA
     simp only[strP,Cpn.enc] at hst hke hcomb
     simp[h2,h3,h35,h36,h37,h42,h43,h44,hltk,hel,hke,hst,hok,hcomb,hwk]
     exact⟨by omega,by omega,by rw[hpres 0 (by omega) (hM.box b0 (by decide))];exact b0,by rw[hpres 1 (by omega) (hM.box b1 (by decide))];exact b1,.inr ⟨idA,by omega,rfl,by rw[hpres idA hidA (hM.box hbA (by simp))];exact hbA⟩,hR.keep (by omega) (fun id hid n e=>hpres id hid fun n'=>hap id n n' e),hsl,_,hX,vL and hgm hs2,by omega,fun id n n' e e2=>by have:=hR.lt e;have:=hfresh _ _ e2;omega,hme⟩
   ·obtain rfl:k=l.length:=by omega
    rw[List.drop_length] at hme
    simp only[meetL] at hme
    rw[hme] at hj
    simp only at hj
    obtain⟨x,hp',nx',hcomb,hX,hnx',hfr,hfresh,hxs⟩:=cmb_call or 149 (.inr ⟨rfl,rfl⟩) hR hM hap (hgo.small (by unfold lim;omega)) (hgm.small (by unfold lim;omega))
    have hlm:=combL_len or o m
    obtain⟨idA2,hidA,heA,hbA⟩:=hO.at_ (by omega)
    injection heA with heA
    subst heA
    simp[h2,h3,h35,h36,h37,h42,h43,h44,hcomb,hwi]
    exact⟨by omega,hrl,by omega,by rw[hfr 0 (by omega) (hR.box b0 (by decide)) (hM.box b0 (by decide))];exact b0,by rw[hfr 1 (by omega) (hR.box b1 (by decide)) (hM.box b1 (by decide))];exact b1,.inr ⟨idA,by omega,by rw[hrl],by rw[hfr idA hidA (hR.box hbA (by simp)) (hM.box hbA (by simp))];exact hbA⟩,_,hX,hxs,vL or hgo hgm,by omega,hj⟩
  ·obtain rfl:i=done.length:=by omega
   rw[List.drop_length] at hj
   simp only[joinL] at hj
   rw[hj] at hval
   simp only at hval
   have hlenR:=hR.len
   by_cases h100:(100:Int)<o.length
   ·rw[if_pos h100] at hval
    simp[h2,h3,h36,h37,hlenR,h100,b0,b1,rrP,hval,encR,z7,f122]
   rw[if_neg h100] at hval
   simp[h2,h3,h36,h37,hlenR,h100]
   obtain⟨w,hw8⟩:∃w,σ 8=w:=⟨_,rfl⟩
   rw[hw8] at hR hsl
   refine zC (fun j σ hp nx=>σ 2=.ref 0 0 0∧σ 3=.ref 1 0 0∧σ 8=w∧σ 66=w∧σ 67=int o.length∧σ 68=int j∧6≤nx∧hp 0=some ⟨180,1,false,[[.nil]]⟩∧hp 1=some ⟨33,1,false,[[int 0]]⟩∧HasR hp nx w o) o.length
    ⟨by simp[h2],by simp[h3],by simp[hw8],by simp[hw8],by simp,by simp,hnx,b0,b1,hR⟩ ?_
   clear h2 h3 h35 h36 h37 hnx b0 b1 hO hR hi hw8 σ hp nx hlenR
   rintro j σ hp nx hjl ⟨h2,h3,h8,h66,h67,h68,hnx,b0,b1,hR⟩
   by_cases hltj:j<o.length
   ·have hwj:IntKind.i64.wrap ((j:Int)+1)=(j:Int)+1:=zd (by omega) (by omega)
    rcases hR with rfl | ⟨rfl,rfl⟩ | ⟨id,hid,rfl,hb⟩
    ·exact absurd rfl (hsl _ _)
    ·simp at hltj
    ·obtain⟨s,hs⟩:∃s,o[j]=s:=⟨_,rfl⟩
     have hgs:=hgo s (by rw[←hs];exact List.getElem_mem hltj)
     have hel:(encR o).length=o.length:=by simp[encR]
     have hke:∀h:j<(encR o).length,(encR o)[j]=s.enc:=fun h=>by simp[encR,hs]
     have hset:(encR o).set j s.enc=encR o:=by
      have h':j<(encR o).length:=by omega
      rw[←hke h'];exact List.set_getElem_self h'
     have hcp:∀hp nx,zR [.g spat] (FSt idS) [.agg s.enc] hp nx=some (.agg s.enc,hp,nx):=fun hp nx=>FSt_call idS s (.agg s.enc) hp nx ⟨hgs.1.small,hgs.2.small⟩ (by simp[Str.enc,Cut.enc]) (by simp[Str.enc,Cut.enc]) (by simp[Str.enc,Cut.enc])
     have m1:¬id=nx:=by omega
     simp only[Str.enc,Cut.enc,List.cons_append,List.nil_append] at hke hcp hset
     have i0:¬0=id:=fun e=>by rw[←e] at hb;rw[hb] at b0;simp at b0
     have i1:¬1=id:=fun e=>by rw[←e] at hb;rw[hb] at b1;simp at b1
     have n0:¬0=nx:=by omega
     have n1:¬1=nx:=by omega
     simp[h2,h3,h8,h66,h67,h68,hltj,hel,hb,hke,hcp,m1,hwj,hset]
     exact⟨by omega,by omega,by simp[i0,n0,b0],by simp[i1,n1,b1],.inr (.inr ⟨id,by omega,by rw[hel],by simp⟩)⟩
   ·obtain rfl:j=o.length:=by omega
    rcases hR with rfl | ⟨rfl,rfl⟩ | ⟨id,hid,rfl,hb⟩
    ·exact absurd rfl (hsl _ _)
    ·simp[h2,h3,h8,h66,h67,h68,b0,b1,rrP,hval,z7,encR,f122]
    ·have i0:¬id=0:=fun e=>by rw[e] at hb;rw[hb] at b0;simp at b0
     have i1:¬id=1:=fun e=>by rw[e] at hb;rw[hb] at b1;simp at b1
     have hfx:=spat_fix o
     simp only[Sh.fix_s,PV.sl.injEq,true_and] at hfx
     simp[h2,h3,h8,h66,h67,h68,b0,b1,hb,i0,i1,rrP,hval,z7,hfx,f122]
theorem vm:za prog 122 (zc false [] (FSP1 rrP)) :=
 xN (fn:=f122) goodrr ⟨_,func122,by kernel_rfl,rfl,by kernel_rfl⟩ false [] _ fun args r h w S vs hz=>by
  obtain⟨l,rfl,hp,rfl⟩:=zf h
  obtain⟨r0,h1,h2⟩:=readRange_eval l hp
  exact⟨_,r0,hz,by simp[f122],h1,h2⟩
end Go.Proofs.YtanbabpnlgfcpaaGreatDoor
