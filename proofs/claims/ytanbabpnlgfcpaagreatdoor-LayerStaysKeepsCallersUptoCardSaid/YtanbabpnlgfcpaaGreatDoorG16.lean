/-
An alternative of a range: its comparisons.
Whether a range covers the place behind a cut.
Plain law: the order of versions and cuts is a total one.
-/
import Derived.Test.YtanbabpnlgfcpaaGreatDoorG15
import Derived.Test.YtanbabpnlgfcpaaGreatDoorG14
set_option maxRecDepth 8000
namespace Go.Proofs.YtanbabpnlgfcpaaGreatDoor
open Go.Proofs.Tryz
open Go.RowKit Go.AM
def cAll:Cpn:=⟨wP,part0,part0⟩
def cOf (sg:List UInt8) (p:Part):Cpn:=⟨sg,p,part0⟩
def altS (w:List UInt8) (l:List (List UInt8)):Option (Cpn×List (List UInt8)) :=
 if (opW sgs w).1=[]∧jQ (opW sgs w).2=true then some (cAll,l)
 else if (opW sgs w).1≠[]∧(opW sgs w).2=[]∧l≠[] then (match l with
  | r::l'=>if (zw r).2=true then some (cOf (opW sgs w).1 (zw r).1,l') else none
  | []=>none)
 else if (zw (opW sgs w).2).2=true then some (cOf (opW sgs w).1 (zw (opW sgs w).2).1,l) else none
def altN:Nat→List (List UInt8)→Option (List Cpn)
 | 0,_=>some []
 | _+1,[]=>some []
 | n+1,w::l=>match altS w l with
   | some (c,l')=>(altN n l').map (c::·)
   | none=>none
theorem altS_len {w:List UInt8} {l l':List (List UInt8)} {c:Cpn} (h:altS w l=some (c,l')):l'.length≤l.length:=by
 unfold altS at h
 split at h
 ·injection h with h;injection h with _ h;subst h;exact Nat.le_refl _
 ·split at h
  ·split at h
   ·split at h
    ·injection h with h;injection h with _ h;subst h;simp
    ·cases h
   ·cases h
  ·split at h
   ·injection h with h;injection h with _ h;subst h;exact Nat.le_refl _
   ·cases h
def altR (t:List UInt8):List Cpn×Bool :=
 match qa (zO t [32]) with
 | [a,b,c]=>if b=[45] then ([⟨[45],(zw a).1,(zw c).1⟩],(zw a).2&&(zw c).2) else (match altN 3 [a,b,c] with
   | some l=>(l,!l.isEmpty)
   | none=>([],false))
 | ws=>match altN ws.length ws with
   | some l=>(l,!l.isEmpty)
   | none=>([],false)
def encM (l:List Cpn):List (List PV):=l.map Cpn.enc
def altP (t:List UInt8):PV:=.tup [.sl 11 (encM (altR t).1),boo (altR t).2]
theorem opW_len:∀(gs:List (List UInt8)) (s:List UInt8),(opW gs s).2.length≤s.length
 | [],s=>Nat.le_refl _
 | g::l,s=>by
   simp only[opW]
   split
   ·simp
   ·exact opW_len l s
noncomputable abbrev Calt:Ctx:=zA prog [(140,wR [] FSp),(175,hRun Cdf f175),(177,zc false [] (FSP1 qV)),(178,zc false [] (FSP opP)),(179,zc false [] (FS jQ))]
theorem goodalt:AM.Good Calt (fun g=>[179].contains g):=zk mixed ⟨xo,by simp,deleteFunc_sound,by simp,readPartial_sound,by simp,operator_sound,by simp,open_sound,fun _=>zg _ _,trivial⟩
def lenO:PV→Nat
 | .own _ _ n=>n
 | _=>0
def LoopI (ws:List (List UInt8)) (rows:List (List PV)) (st:St):Prop:=∃f rest l xs,rest.length≤f∧xs.length+rest.length≤ws.length∧ws.drop (ws.length - rest.length)=rest∧(rest=[]∧st.σ 4=.sl 1 []∨st.σ 4=.own 0 (ws.length - rest.length) rest.length) ∧
 OwnS st.hp st.nx 208 11 (st.σ 9) xs∧(∀n,st.σ 9≠.own 0 0 n)∧xs.map (fixC mpat)=encM l∧1≤st.nx∧st.hp 0=some ⟨9,1,true,rows⟩∧altN ws.length ws=(altN f rest).map (l++·)
theorem sl1 (hp:Hp) (rows:List (List PV)) (o n:Nat) (hh:hp 0=some ⟨9,1,true,rows⟩):wo prog hp 102 (.own 0 o (n+1)) (some (some (int 1))) none=some (if n=0 then .sl 1 [] else .own 0 (o+1) n):=by
 simp[wo,hh,wG]
theorem yv {ws rows} {f':Nat} {l':List (List UInt8)} {l:List Cpn} {c:Cpn} {xs:List (List PV)} {raw:List PV} {st:St} {v4:PV} (hf:l'.length≤f') (hx:xs.length+1+l'.length≤ws.length) (hdr:ws.drop (ws.length - l'.length)=l') (h4:st.σ 4=v4) (hv4:l'=[]∧v4=.sl 1 []∨v4=.own 0 (ws.length - l'.length) l'.length)
  (hO:OwnS st.hp st.nx 208 11 (st.σ 9) (xs++[raw])) (hO0:∀n,st.σ 9≠.own 0 0 n) (hfix:fixC mpat raw=c.enc) (hxs:xs.map (fixC mpat)=encM l) (hnx:1≤st.nx) (b0:st.hp 0=some ⟨9,1,true,rows⟩) (he:altN ws.length ws=(altN f' l').map ((l++[c])++·)):LoopI ws rows st :=
 ⟨f',l',l++[c],xs++[raw],hf,by simp;omega,hdr,by rw[h4];exact hv4,hO,hO0,by simp[hxs,hfix,encM],hnx,b0,he⟩
theorem altN_nil (f:Nat):altN f []=some []:=by cases f<;>rfl
set_option maxHeartbeats 4000000 in
theorem alternative_eval (t:List UInt8) (ht:t.length+1≤lim):∃r0,zi Calt f144 [str t]=some r0∧Stands r0 (altP t):=by
 refine wC (sh:=.s 11 mpat) rfl ?_
 have hsp:=fun hp nx=>vE t [32] hp nx (by omega) (by decide) (by decide)
 have hpl:∀p∈zO t [32],p.length+1≤lim:=fun p hp=>by have:=jc hp;omega
 have hsm:yR (zO t [32]):=⟨by have:=jR (s:=t) (sep:=[32]) (by simp);omega,fun p hp=>by have:=hpl p hp;omega⟩
 obtain⟨x,hp1,nx1,hdel,hx,hnx,⟨pad,hb⟩,hfr⟩:=delete_run (zO t [32]) (upd (fun _=>none) 0 (some ⟨9,1,true,encT (zO t [32])⟩)) 1 0 hsm (by simp)
 subst hx;subst hnx
 obtain⟨ws,hws⟩:∃ws,qa (zO t [32])=ws:=⟨_,rfl⟩
 have hwl:∀p∈ws,p.length+1≤lim:=fun p hp=>hpl p (by rw[←hws] at hp;exact (List.mem_filter.1 hp).1)
 rw[hws] at hdel hb
 simp only[fnE] at hdel
 have hwn:ws.length≤lim:=by
  have h1:=List.length_filter_le (fun x=>!emp x) (zO t [32])
  have h2:=jR (s:=t) (sep:=[32]) (by simp)
  have h3:ws.length=(qa (zO t [32])).length:=by rw[hws]
  unfold qa at h3
  omega
 have hrd:=fun (p:List UInt8) (hp:p.length+1≤lim) hp' nx=>jS qV p hp' nx hp
 simp[hsp,hdel]
 by_cases hc:∃a c,ws=[a,[45],c]
 ·obtain⟨a,c,rfl⟩:=hc
  have ha:=fun hp' nx=>hrd a (hwl a (by simp)) hp' nx
  have hcc:=fun hp' nx=>hrd c (hwl c (by simp)) hp' nx
  simp only[qV,Part.enc] at ha hcc
  have hval:altP t=.tup [.sl 11 (encM [⟨[45],(zw a).1,(zw c).1⟩]),boo ((zw a).2&&(zw c).2)]:=by simp only[altP,altR,hws,if_true]
  rw[hval]
  have hn:∀k,0<k→hp1 k=none:=fun k hk=>by rw[hfr k (by omega),ze _ _ _ _ (by omega)]
  simp[hb,ha,hcc,zK,z8,zl,zx,zm,z7,encM,Cpn.enc,f144]
 ·have hval:altP t=(match altN ws.length ws with
   | some l=>.tup [.sl 11 (encM l),boo (!l.isEmpty)]
   | none=>.tup [.sl 11 [],boo false]):=by
   have hR:altR t=(match altN ws.length ws with
    | some l=>(l,!l.isEmpty)
    | none=>([],false)):=by
    unfold altR
    rw[hws]
    match ws,hc with
    | [],_=>rfl
    | [_],_=>rfl
    | [_,_],_=>rfl
    | [a,b,c],hc =>
      have:¬b=[45]:=fun e=>hc ⟨a,c,by rw[e]⟩
      simp only[if_neg this]
      rfl
    | _::_::_::_::_,_=>rfl
   unfold altP
   rw[hR]
   cases altN ws.length ws<;>rfl
  obtain⟨rows,hrows⟩:∃rows,encT ws++pad=rows:=⟨_,rfl⟩
  have hrl:ws.length≤rows.length:=by rw[←hrows];simp
  have hat:∀k (h:k<ws.length) (h':k<rows.length),rows[k]=[str ws[k]]:=fun k h h'=>by
   subst hrows
   rw[List.getElem_append_left (by simpa using h)]
   simp[encT]
  rw[hrows] at hb
  clear hrows
  by_cases h3:ws.length=3
  ·have h31:=hat 1 (by omega) (by omega)
   have hne:(ws[1]==[45])=false:=by
    match ws,h3,hc with
    | [a,b,c],_,hc=>simpa using fun e=>hc ⟨a,c,by rw[e]⟩
   have h3l:1<rows.length:=by omega
   have h33:((ws.length:Int)==3)=true:=by simp[h3]
   simp[hb,h33,h3,h31,hne,h3l]
   refine wv (LoopI ws rows) (fun st=>lenO (st.σ 4)) ⟨ws.length,ws,[],[],Nat.le_refl _,by simp,by simp,.inr (by simp;try omega),.inl ⟨by simp,rfl⟩,by simp,rfl,by simp,by simpa using hb,by simp⟩ ?_
   clear hdel hfr hsp
   rintro⟨σ,hp,nx⟩ ⟨f,rest,l,xs,hf,hxl,hdr,h4,hO,hO0,hxs,hnx,b0,he⟩
   simp only at h4 hO hO0 hnx b0
   cases rest with
   | nil =>
     rw[altN_nil] at he
     simp only[Option.map_some,List.append_nil] at he
     rw[he] at hval
     rw[hval]
     have hxl2:xs.length=l.length:=by have:=congrArg List.length hxs;simpa[encM] using this
     have hb1:(decide ((0:Int)<(xs.length:Int)))=!l.isEmpty:=by
      rw[hxl2];cases l<;>simp
     have hb2:(decide (0<xs.length))=!l.isEmpty:=by
      rw[hxl2];cases l<;>simp
     have h4':σ 4=.sl 1 []∨σ 4=.own 0 ws.length 0:=by
      rcases h4 with⟨_,h4⟩ | h4
      ·exact .inl h4
      ·exact .inr (by simpa using h4)
     rcases hO with⟨h9,rfl⟩ | ⟨id,hid,h9,hb9⟩
     ·simp[encM] at hxs
      subst hxs
      rcases h4' with h4' | h4'<;>simp[h4',h9,z7,encM,f144]
     ·rcases h4' with h4' | h4'<;>simp[h4',h9,hb9,hb1,hb2,hxs,z7,f144]
   | cons w l' =>
     obtain⟨f',rfl⟩:∃f',f=f'+1:=⟨f - 1,by simp at hf;omega⟩
     simp only[List.length_cons] at hf hxl hdr h4
     obtain⟨o,ho⟩:∃o,ws.length - (l'.length+1)=o:=⟨_,rfl⟩
     rw[ho] at hdr h4
     have h4':σ 4=.own 0 o (l'.length+1):=by
      rcases h4 with⟨h,_⟩ | h
      ·cases h
      ·exact h
     have hol:o<ws.length:=by omega
     have hor:o<rows.length:=by omega
     rw[List.drop_eq_getElem_cons hol] at hdr
     injection hdr with hdw hdl
     have hrow:rows[o]=[str w]:=by rw[hat o hol hor,hdw]
     have hww:w.length+1≤lim:=hwl w (by rw[←hdw];exact List.getElem_mem hol)
     have hop:=fun hp' nx'=>FSP_call opP w hp' nx' (by omega) rfl
     simp only[opP] at hop
     have hrl2:(opW sgs w).2.length+1≤lim:=by have:=opW_len sgs w;omega
     have hopn:=fun hp' nx'=>yM jQ (opW sgs w).2 hp' nx' (by omega)
     obtain⟨v4,hv4⟩:∃v4,(if l'.length=0 then PV.sl 1 [] else .own 0 (o+1) l'.length)=v4:=⟨_,rfl⟩
     have hs1:=fun hp' (hh:hp' 0=some _)=>sl1 hp' rows o l'.length hh
     rw[hv4] at hs1
     have hs1':=hs1 hp b0
     have ho1:o+1=ws.length - l'.length:=by omega
     have hv4':l'=[]∧v4=.sl 1 []∨v4=.own 0 (ws.length - l'.length) l'.length:=by
      rw[←hv4,←ho1]
      by_cases h:l'.length=0
      ·exact .inl ⟨List.length_eq_zero_iff.1 h,if_pos h⟩
      ·exact .inr (if_neg h)
     have hmu:lenO v4<l'.length+1:=by rcases hv4' with⟨_,h⟩ | h<;>rw[h]<;>simp[lenO]
     have hl4:lenA prog 102 v4=some (int l'.length):=by
      rcases hv4' with⟨h1,h⟩ | h
      ·subst h1;rw[h];simp
      ·rw[h];simp
     rw[ho1] at hdl
     have hap:=fun c hO=>OwnS.append1 (hp:=hp) (nx:=nx) (v:=σ 9) (xs:=xs) (P:=prog) (t:=201) (c:=c) hO el201 sz208 by208 ze208 rfl (by omega) (by unfold maxLen;unfold lim at hwn;omega) (by unfold lim at hwn;omega)
     by_cases hA:(opW sgs w).1=[]∧jQ (opW sgs w).2=true
     ·have hS:altS w l'=some (cAll,l'):=by unfold altS;rw[if_pos hA]
      have he':altN ws.length ws=(altN f' l').map ((l++[cAll])++·):=by
       rw[he];simp only[altN,hS];cases altN f' l'<;>simp
      have hap1:=hap [str wP,int 0,int 0,int 0,int 0,.nil,int 0,int 0,int 0,int 0,.nil] hO
      obtain⟨hA1,hA2⟩:=hA
      simp only[wP] at hap1
      simp[h4',b0,hor,hrow,hop,hopn,hs1',hA1,hA2,hap1,zK,z8,zl,zx,zm]
      have n0:¬0=nx:=by omega
      have n1:¬0=nx+1:=by omega
      have n2:¬0=nx+2:=by omega
      have hk0:=fun hp'=>qq hO hp' 0 hO0
      exact⟨yv (v4:=v4) (c:=cAll) (f':=f') (l':=l') (l:=l) (xs:=xs) (by omega) (by omega) hdl (by simp) hv4' (by simpa using OwnS.after) (by simp<;>omega) rfl hxs (by simp) (by simp[hk0,n0,n1,n2,b0]) he',by simpa[lenO] using hmu⟩
     have n0:¬0=nx:=by omega
     have n1:¬0=nx+1:=by omega
     have n2:¬0=nx+2:=by omega
     have hk0:=fun hp'=>qq hO hp' 0 hO0
     by_cases hE:(opW sgs w).1=[]
     ·have hE1:((opW sgs w).1==[])=true:=by simpa using hE
      have hE2:(opW sgs w).1.isEmpty=true:=by simpa using hE
      have hE3:((opW sgs w).1 != [])=false:=by simpa using hE
      have hOp:jQ (opW sgs w).2=false:=by
       cases h:jQ (opW sgs w).2
       ·rfl
       ·exact absurd ⟨hE,h⟩ hA
      have hrp:=fun hp' nx'=>hrd (opW sgs w).2 hrl2 hp' nx'
      simp only[qV,Part.enc] at hrp
      cases hok:(zw (opW sgs w).2).2
      ·have hS:altS w l'=none:=by unfold altS;rw[if_neg hA,if_neg (fun h=>h.1 hE),if_neg (by rw[hok];simp)]
       have he':altN ws.length ws=none:=by rw[he];simp only[altN,hS];rfl
       rw[he'] at hval
       simp[h4',b0,hor,hrow,hop,hopn,hs1',hE1,hE2,hE3,hOp,hrp,hok,zK,z8,hval,encM,z7,f144]
      ·have hS:altS w l'=some (cOf (opW sgs w).1 (zw (opW sgs w).2).1,l'):=by unfold altS;rw[if_neg hA,if_neg (fun h=>h.1 hE),if_pos hok]
       have he':altN ws.length ws=(altN f' l').map ((l++[cOf (opW sgs w).1 (zw (opW sgs w).2).1])++·):=by
        rw[he];simp only[altN,hS];cases altN f' l'<;>simp
       have hap2:=OwnS.append1 (P:=prog) (t:=201) (c:=[str (opW sgs w).1,int (zw (opW sgs w).2).1.n0,int (zw (opW sgs w).2).1.n1,int (zw (opW sgs w).2).1.n2,int (zw (opW sgs w).2).1.has,.sl 1 (encT (zw (opW sgs w).2).1.pre),int 0,int 0,int 0,int 0,.nil]) (hO.more (some ⟨206,5,false,[(zw (opW sgs w).2).1.enc]⟩)) el201 sz208 by208 ze208 rfl (by omega) (by unfold maxLen;unfold lim at hwn;omega) (by unfold lim at hwn;omega)
       simp only[Part.enc] at hap2
       simp[h4',b0,hor,hrow,hop,hopn,hs1',hE1,hE2,hE3,hOp,hrp,hok,hap2,zK,z8,zl,zx,zm]
       exact⟨yv (v4:=v4) (c:=cOf (opW sgs w).1 (zw (opW sgs w).2).1) (f':=f') (l':=l') (l:=l) (xs:=xs) (by omega) (by omega) hdl (by simp) hv4' (by simpa using OwnS.after) (by simp<;>omega) rfl hxs (by simp) (by simp[hk0,n0,n1,n2,b0]) he',by simpa[lenO] using hmu⟩
     have hE1:((opW sgs w).1==[])=false:=by simpa using hE
     have hE2:(opW sgs w).1.isEmpty=false:=by simpa using hE
     have hE3:((opW sgs w).1 != [])=true:=by simpa using hE
     by_cases hR:(opW sgs w).2=[]
     ·have hR1:((opW sgs w).2==[])=true:=by simpa using hR
      have hR2:(opW sgs w).2.isEmpty=true:=by simpa using hR
      by_cases hL:l'=[]
      ·have hLz:l'.length=0:=by rw[hL];rfl
       have hLp:¬0<l'.length:=by omega
       have hLq:¬(0:Int)<(l'.length:Int):=by omega
       have hrp:=fun hp' nx'=>hrd (opW sgs w).2 hrl2 hp' nx'
       simp only[qV,Part.enc] at hrp
       cases hok:(zw (opW sgs w).2).2
       ·have hS:altS w l'=none:=by unfold altS;rw[if_neg hA,if_neg (fun h=>h.2.2 hL),if_neg (by rw[hok];simp)]
        have he':altN ws.length ws=none:=by rw[he];simp only[altN,hS];rfl
        rw[he'] at hval
        simp[h4',b0,hor,hrow,hop,hopn,hs1',hE1,hE2,hE3,hR1,hR2,hl4,hLp,hLq,hrp,hok,zK,z8,hval,encM,z7,f144]
       ·have hS:altS w l'=some (cOf (opW sgs w).1 (zw (opW sgs w).2).1,l'):=by unfold altS;rw[if_neg hA,if_neg (fun h=>h.2.2 hL),if_pos hok]
        have he':altN ws.length ws=(altN f' l').map ((l++[cOf (opW sgs w).1 (zw (opW sgs w).2).1])++·):=by
         rw[he];simp only[altN,hS];cases altN f' l'<;>simp
        have hap2:=OwnS.append1 (P:=prog) (t:=201) (c:=[str (opW sgs w).1,int (zw (opW sgs w).2).1.n0,int (zw (opW sgs w).2).1.n1,int (zw (opW sgs w).2).1.n2,int (zw (opW sgs w).2).1.has,.sl 1 (encT (zw (opW sgs w).2).1.pre),int 0,int 0,int 0,int 0,.nil]) (hO.more (some ⟨206,5,false,[(zw (opW sgs w).2).1.enc]⟩)) el201 sz208 by208 ze208 rfl (by omega) (by unfold maxLen;unfold lim at hwn;omega) (by unfold lim at hwn;omega)
        simp only[Part.enc] at hap2
        simp[h4',b0,hor,hrow,hop,hopn,hs1',hE1,hE2,hE3,hR1,hR2,hl4,hLp,hLq,hrp,hok,hap2,zK,z8,zl,zx,zm]
        exact⟨yv (v4:=v4) (c:=cOf (opW sgs w).1 (zw (opW sgs w).2).1) (f':=f') (l':=l') (l:=l) (xs:=xs) (by omega) (by omega) hdl (by simp) hv4' (by simpa using OwnS.after) (by simp<;>omega) rfl hxs (by simp) (by simp[hk0,n0,n1,n2,b0]) he',by simpa[lenO] using hmu⟩
      ·obtain⟨r,l2,rfl⟩:∃r l2,l'=r::l2:=by
        cases l' with
        | nil=>exact absurd rfl hL
        | cons r l2=>exact⟨r,l2,rfl⟩
       have hv:v4=.own 0 (o+1) (l2.length+1):=by
        rcases hv4' with⟨h,_⟩ | h
        ·cases h
        ·rw[h,←ho1];rfl
       subst hv
       simp only[List.length_cons] at hf hxl ho h4' hs1' ho1 hdl hmu
       have hol2:o+1<ws.length:=by omega
       have hor2:o+1<rows.length:=by omega
       rw[←ho1,List.drop_eq_getElem_cons hol2] at hdl
       injection hdl with hdw2 hdl2
       have hrow2:rows[o+1]=[str r]:=by rw[hat (o+1) hol2 hor2,hdw2]
       have ho2:o+1+1=ws.length - l2.length:=by omega
       obtain⟨v5,hv5⟩:∃v5,(if l2.length=0 then PV.sl 1 [] else .own 0 (o+1+1) l2.length)=v5:=⟨_,rfl⟩
       have hs2':=sl1 hp rows (o+1) l2.length b0
       rw[hv5] at hs2'
       have hv5':l2=[]∧v5=.sl 1 []∨v5=.own 0 (ws.length - l2.length) l2.length:=by
        rw[←hv5,←ho2]
        by_cases h:l2.length=0
        ·exact .inl ⟨List.length_eq_zero_iff.1 h,if_pos h⟩
        ·exact .inr (if_neg h)
       have hmu5:lenO v5<l2.length+1+1:=by rcases hv5' with⟨_,h⟩ | h<;>rw[h]<;>simp[lenO];omega
       rw[ho2] at hdl2
       have hpos:(0:Int)<(l2.length:Int)+1:=by omega
       have hpos2:(0:Int)<(l2.length:Int)+1+1:=by omega
       have hrp:=fun hp' nx'=>hrd r (hwl r (by rw[←hdw2];exact List.getElem_mem hol2)) hp' nx'
       simp only[qV,Part.enc] at hrp
       cases hok:(zw r).2
       ·have hS:altS w (r::l2)=none:=by unfold altS;rw[if_neg hA,if_pos ⟨hE,hR,by simp⟩];simp only[hok];rfl
        have he':altN ws.length ws=none:=by rw[he];simp only[altN,hS];rfl
        rw[he'] at hval
        simp[h4',b0,hor,hrow,hop,hopn,hs1',hs2',hor2,hrow2,hE1,hE2,hE3,hR1,hR2,hpos,hpos2,hrp,hok,zK,z8,hval,encM,z7,f144]
       ·have hS:altS w (r::l2)=some (cOf (opW sgs w).1 (zw r).1,l2):=by unfold altS;rw[if_neg hA,if_pos ⟨hE,hR,by simp⟩];simp only[hok,if_true]
        have he':altN ws.length ws=(altN f' l2).map ((l++[cOf (opW sgs w).1 (zw r).1])++·):=by
         rw[he];simp only[altN,hS];cases altN f' l2<;>simp
        have hap2:=OwnS.append1 (P:=prog) (t:=201) (c:=[str (opW sgs w).1,int (zw r).1.n0,int (zw r).1.n1,int (zw r).1.n2,int (zw r).1.has,.sl 1 (encT (zw r).1.pre),int 0,int 0,int 0,int 0,.nil]) (hO.more (some ⟨206,5,false,[(zw r).1.enc]⟩)) el201 sz208 by208 ze208 rfl (by omega) (by unfold maxLen;unfold lim at hwn;omega) (by unfold lim at hwn;omega)
        simp only[Part.enc] at hap2
        simp[h4',b0,hor,hrow,hop,hopn,hs1',hs2',hor2,hrow2,hE1,hE2,hE3,hR1,hR2,hpos,hpos2,hrp,hok,hap2,zK,z8,zl,zx,zm]
        exact⟨yv (v4:=v5) (c:=cOf (opW sgs w).1 (zw r).1) (f':=f') (l':=l2) (l:=l) (xs:=xs) (by omega) (by omega) hdl2 (by simp) hv5' (by simpa using OwnS.after) (by simp<;>omega) rfl hxs (by simp) (by simp[hk0,n0,n1,n2,b0]) he',by simpa[lenO] using hmu5⟩
     ·have hR1:((opW sgs w).2==[])=false:=by simpa using hR
      have hR2:(opW sgs w).2.isEmpty=false:=by simpa using hR
      have hrp:=fun hp' nx'=>hrd (opW sgs w).2 hrl2 hp' nx'
      simp only[qV,Part.enc] at hrp
      cases hok:(zw (opW sgs w).2).2
      ·have hS:altS w l'=none:=by unfold altS;rw[if_neg hA,if_neg (fun h=>hR h.2.1),if_neg (by rw[hok];simp)]
       have he':altN ws.length ws=none:=by rw[he];simp only[altN,hS];rfl
       rw[he'] at hval
       simp[h4',b0,hor,hrow,hop,hopn,hs1',hE1,hE2,hE3,hR1,hR2,hrp,hok,zK,z8,hval,encM,z7,f144]
      ·have hS:altS w l'=some (cOf (opW sgs w).1 (zw (opW sgs w).2).1,l'):=by unfold altS;rw[if_neg hA,if_neg (fun h=>hR h.2.1),if_pos hok]
       have he':altN ws.length ws=(altN f' l').map ((l++[cOf (opW sgs w).1 (zw (opW sgs w).2).1])++·):=by
        rw[he];simp only[altN,hS];cases altN f' l'<;>simp
       have hap2:=OwnS.append1 (P:=prog) (t:=201) (c:=[str (opW sgs w).1,int (zw (opW sgs w).2).1.n0,int (zw (opW sgs w).2).1.n1,int (zw (opW sgs w).2).1.n2,int (zw (opW sgs w).2).1.has,.sl 1 (encT (zw (opW sgs w).2).1.pre),int 0,int 0,int 0,int 0,.nil]) (hO.more (some ⟨206,5,false,[(zw (opW sgs w).2).1.enc]⟩)) el201 sz208 by208 ze208 rfl (by omega) (by unfold maxLen;unfold lim at hwn;omega) (by unfold lim at hwn;omega)
       simp only[Part.enc] at hap2
       simp[h4',b0,hor,hrow,hop,hopn,hs1',hE1,hE2,hE3,hR1,hR2,hrp,hok,hap2,zK,z8,zl,zx,zm]
       exact⟨yv (v4:=v4) (c:=cOf (opW sgs w).1 (zw (opW sgs w).2).1) (f':=f') (l':=l') (l:=l) (xs:=xs) (by omega) (by omega) hdl (by simp) hv4' (by simpa using OwnS.after) (by simp<;>omega) rfl hxs (by simp) (by simp[hk0,n0,n1,n2,b0]) he',by simpa[lenO] using hmu⟩
  ·have h33:((ws.length:Int)==3)=false:=by simp;omega
   simp[hb,h33]
   refine wv (LoopI ws rows) (fun st=>lenO (st.σ 4)) ⟨ws.length,ws,[],[],Nat.le_refl _,by simp,by simp,.inr (by simp;try omega),.inl ⟨by simp,rfl⟩,by simp,rfl,by simp,by simpa using hb,by simp⟩ ?_
   clear hdel hfr hsp
   rintro⟨σ,hp,nx⟩ ⟨f,rest,l,xs,hf,hxl,hdr,h4,hO,hO0,hxs,hnx,b0,he⟩
   simp only at h4 hO hO0 hnx b0
   cases rest with
   | nil =>
     rw[altN_nil] at he
     simp only[Option.map_some,List.append_nil] at he
     rw[he] at hval
     rw[hval]
     have hxl2:xs.length=l.length:=by have:=congrArg List.length hxs;simpa[encM] using this
     have hb1:(decide ((0:Int)<(xs.length:Int)))=!l.isEmpty:=by
      rw[hxl2];cases l<;>simp
     have hb2:(decide (0<xs.length))=!l.isEmpty:=by
      rw[hxl2];cases l<;>simp
     have h4':σ 4=.sl 1 []∨σ 4=.own 0 ws.length 0:=by
      rcases h4 with⟨_,h4⟩ | h4
      ·exact .inl h4
      ·exact .inr (by simpa using h4)
     rcases hO with⟨h9,rfl⟩ | ⟨id,hid,h9,hb9⟩
     ·simp[encM] at hxs
      subst hxs
      rcases h4' with h4' | h4'<;>simp[h4',h9,z7,encM,f144]
     ·rcases h4' with h4' | h4'<;>simp[h4',h9,hb9,hb1,hb2,hxs,z7,f144]
   | cons w l' =>
     obtain⟨f',rfl⟩:∃f',f=f'+1:=⟨f - 1,by simp at hf;omega⟩
     simp only[List.length_cons] at hf hxl hdr h4
     obtain⟨o,ho⟩:∃o,ws.length - (l'.length+1)=o:=⟨_,rfl⟩
     rw[ho] at hdr h4
     have h4':σ 4=.own 0 o (l'.length+1):=by
      rcases h4 with⟨h,_⟩ | h
      ·cases h
      ·exact h
     have hol:o<ws.length:=by omega
     have hor:o<rows.length:=by omega
     rw[List.drop_eq_getElem_cons hol] at hdr
     injection hdr with hdw hdl
     have hrow:rows[o]=[str w]:=by rw[hat o hol hor,hdw]
     have hww:w.length+1≤lim:=hwl w (by rw[←hdw];exact List.getElem_mem hol)
     have hop:=fun hp' nx'=>FSP_call opP w hp' nx' (by omega) rfl
     simp only[opP] at hop
     have hrl2:(opW sgs w).2.length+1≤lim:=by have:=opW_len sgs w;omega
     have hopn:=fun hp' nx'=>yM jQ (opW sgs w).2 hp' nx' (by omega)
     obtain⟨v4,hv4⟩:∃v4,(if l'.length=0 then PV.sl 1 [] else .own 0 (o+1) l'.length)=v4:=⟨_,rfl⟩
     have hs1:=fun hp' (hh:hp' 0=some _)=>sl1 hp' rows o l'.length hh
     rw[hv4] at hs1
     have hs1':=hs1 hp b0
     have ho1:o+1=ws.length - l'.length:=by omega
     have hv4':l'=[]∧v4=.sl 1 []∨v4=.own 0 (ws.length - l'.length) l'.length:=by
      rw[←hv4,←ho1]
      by_cases h:l'.length=0
      ·exact .inl ⟨List.length_eq_zero_iff.1 h,if_pos h⟩
      ·exact .inr (if_neg h)
     have hmu:lenO v4<l'.length+1:=by rcases hv4' with⟨_,h⟩ | h<;>rw[h]<;>simp[lenO]
     have hl4:lenA prog 102 v4=some (int l'.length):=by
      rcases hv4' with⟨h1,h⟩ | h
      ·subst h1;rw[h];simp
      ·rw[h];simp
     rw[ho1] at hdl
     have hap:=fun c hO=>OwnS.append1 (hp:=hp) (nx:=nx) (v:=σ 9) (xs:=xs) (P:=prog) (t:=201) (c:=c) hO el201 sz208 by208 ze208 rfl (by omega) (by unfold maxLen;unfold lim at hwn;omega) (by unfold lim at hwn;omega)
     by_cases hA:(opW sgs w).1=[]∧jQ (opW sgs w).2=true
     ·have hS:altS w l'=some (cAll,l'):=by unfold altS;rw[if_pos hA]
      have he':altN ws.length ws=(altN f' l').map ((l++[cAll])++·):=by
       rw[he];simp only[altN,hS];cases altN f' l'<;>simp
      have hap1:=hap [str wP,int 0,int 0,int 0,int 0,.nil,int 0,int 0,int 0,int 0,.nil] hO
      obtain⟨hA1,hA2⟩:=hA
      simp only[wP] at hap1
      simp[h4',b0,hor,hrow,hop,hopn,hs1',hA1,hA2,hap1,zK,z8,zl,zx,zm]
      have n0:¬0=nx:=by omega
      have n1:¬0=nx+1:=by omega
      have n2:¬0=nx+2:=by omega
      have hk0:=fun hp'=>qq hO hp' 0 hO0
      exact⟨yv (v4:=v4) (c:=cAll) (f':=f') (l':=l') (l:=l) (xs:=xs) (by omega) (by omega) hdl (by simp) hv4' (by simpa using OwnS.after) (by simp<;>omega) rfl hxs (by simp) (by simp[hk0,n0,n1,n2,b0]) he',by simpa[lenO] using hmu⟩
     have n0:¬0=nx:=by omega
     have n1:¬0=nx+1:=by omega
     have n2:¬0=nx+2:=by omega
     have hk0:=fun hp'=>qq hO hp' 0 hO0
     by_cases hE:(opW sgs w).1=[]
     ·have hE1:((opW sgs w).1==[])=true:=by simpa using hE
      have hE2:(opW sgs w).1.isEmpty=true:=by simpa using hE
      have hE3:((opW sgs w).1 != [])=false:=by simpa using hE
      have hOp:jQ (opW sgs w).2=false:=by
       cases h:jQ (opW sgs w).2
       ·rfl
       ·exact absurd ⟨hE,h⟩ hA
      have hrp:=fun hp' nx'=>hrd (opW sgs w).2 hrl2 hp' nx'
      simp only[qV,Part.enc] at hrp
      cases hok:(zw (opW sgs w).2).2
      ·have hS:altS w l'=none:=by unfold altS;rw[if_neg hA,if_neg (fun h=>h.1 hE),if_neg (by rw[hok];simp)]
       have he':altN ws.length ws=none:=by rw[he];simp only[altN,hS];rfl
       rw[he'] at hval
       simp[h4',b0,hor,hrow,hop,hopn,hs1',hE1,hE2,hE3,hOp,hrp,hok,zK,z8,hval,encM,z7,f144]
      ·have hS:altS w l'=some (cOf (opW sgs w).1 (zw (opW sgs w).2).1,l'):=by unfold altS;rw[if_neg hA,if_neg (fun h=>h.1 hE),if_pos hok]
       have he':altN ws.length ws=(altN f' l').map ((l++[cOf (opW sgs w).1 (zw (opW sgs w).2).1])++·):=by
        rw[he];simp only[altN,hS];cases altN f' l'<;>simp
       have hap2:=OwnS.append1 (P:=prog) (t:=201) (c:=[str (opW sgs w).1,int (zw (opW sgs w).2).1.n0,int (zw (opW sgs w).2).1.n1,int (zw (opW sgs w).2).1.n2,int (zw (opW sgs w).2).1.has,.sl 1 (encT (zw (opW sgs w).2).1.pre),int 0,int 0,int 0,int 0,.nil]) (hO.more (some ⟨206,5,false,[(zw (opW sgs w).2).1.enc]⟩)) el201 sz208 by208 ze208 rfl (by omega) (by unfold maxLen;unfold lim at hwn;omega) (by unfold lim at hwn;omega)
       simp only[Part.enc] at hap2
       simp[h4',b0,hor,hrow,hop,hopn,hs1',hE1,hE2,hE3,hOp,hrp,hok,hap2,zK,z8,zl,zx,zm]
       exact⟨yv (v4:=v4) (c:=cOf (opW sgs w).1 (zw (opW sgs w).2).1) (f':=f') (l':=l') (l:=l) (xs:=xs) (by omega) (by omega) hdl (by simp) hv4' (by simpa using OwnS.after) (by simp<;>omega) rfl hxs (by simp) (by simp[hk0,n0,n1,n2,b0]) he',by simpa[lenO] using hmu⟩
     have hE1:((opW sgs w).1==[])=false:=by simpa using hE
     have hE2:(opW sgs w).1.isEmpty=false:=by simpa using hE
     have hE3:((opW sgs w).1 != [])=true:=by simpa using hE
     by_cases hR:(opW sgs w).2=[]
     ·have hR1:((opW sgs w).2==[])=true:=by simpa using hR
      have hR2:(opW sgs w).2.isEmpty=true:=by simpa using hR
      by_cases hL:l'=[]
      ·have hLz:l'.length=0:=by rw[hL];rfl
       have hLp:¬0<l'.length:=by omega
       have hLq:¬(0:Int)<(l'.length:Int):=by omega
       have hrp:=fun hp' nx'=>hrd (opW sgs w).2 hrl2 hp' nx'
       simp only[qV,Part.enc] at hrp
       cases hok:(zw (opW sgs w).2).2
       ·have hS:altS w l'=none:=by unfold altS;rw[if_neg hA,if_neg (fun h=>h.2.2 hL),if_neg (by rw[hok];simp)]
        have he':altN ws.length ws=none:=by rw[he];simp only[altN,hS];rfl
        rw[he'] at hval
        simp[h4',b0,hor,hrow,hop,hopn,hs1',hE1,hE2,hE3,hR1,hR2,hl4,hLp,hLq,hrp,hok,zK,z8,hval,encM,z7,f144]
       ·have hS:altS w l'=some (cOf (opW sgs w).1 (zw (opW sgs w).2).1,l'):=by unfold altS;rw[if_neg hA,if_neg (fun h=>h.2.2 hL),if_pos hok]
        have he':altN ws.length ws=(altN f' l').map ((l++[cOf (opW sgs w).1 (zw (opW sgs w).2).1])++·):=by
         rw[he];simp only[altN,hS];cases altN f' l'<;>simp
        have hap2:=OwnS.append1 (P:=prog) (t:=201) (c:=[str (opW sgs w).1,int (zw (opW sgs w).2).1.n0,int (zw (opW sgs w).2).1.n1,int (zw (opW sgs w).2).1.n2,int (zw (opW sgs w).2).1.has,.sl 1 (encT (zw (opW sgs w).2).1.pre),int 0,int 0,int 0,int 0,.nil]) (hO.more (some ⟨206,5,false,[(zw (opW sgs w).2).1.enc]⟩)) el201 sz208 by208 ze208 rfl (by omega) (by unfold maxLen;unfold lim at hwn;omega) (by unfold lim at hwn;omega)
        simp only[Part.enc] at hap2
        simp[h4',b0,hor,hrow,hop,hopn,hs1',hE1,hE2,hE3,hR1,hR2,hl4,hLp,hLq,hrp,hok,hap2,zK,z8,zl,zx,zm]
        exact⟨yv (v4:=v4) (c:=cOf (opW sgs w).1 (zw (opW sgs w).2).1) (f':=f') (l':=l') (l:=l) (xs:=xs) (by omega) (by omega) hdl (by simp) hv4' (by simpa using OwnS.after) (by simp<;>omega) rfl hxs (by simp) (by simp[hk0,n0,n1,n2,b0]) he',by simpa[lenO] using hmu⟩
      ·obtain⟨r,l2,rfl⟩:∃r l2,l'=r::l2:=by
        cases l' with
        | nil=>exact absurd rfl hL
        | cons r l2=>exact⟨r,l2,rfl⟩
       have hv:v4=.own 0 (o+1) (l2.length+1):=by
        rcases hv4' with⟨h,_⟩ | h
        ·cases h
        ·rw[h,←ho1];rfl
       subst hv
       simp only[List.length_cons] at hf hxl ho h4' hs1' ho1 hdl hmu
       have hol2:o+1<ws.length:=by omega
       have hor2:o+1<rows.length:=by omega
       rw[←ho1,List.drop_eq_getElem_cons hol2] at hdl
       injection hdl with hdw2 hdl2
       have hrow2:rows[o+1]=[str r]:=by rw[hat (o+1) hol2 hor2,hdw2]
       have ho2:o+1+1=ws.length - l2.length:=by omega
       obtain⟨v5,hv5⟩:∃v5,(if l2.length=0 then PV.sl 1 [] else .own 0 (o+1+1) l2.length)=v5:=⟨_,rfl⟩
       have hs2':=sl1 hp rows (o+1) l2.length b0
       rw[hv5] at hs2'
       have hv5':l2=[]∧v5=.sl 1 []∨v5=.own 0 (ws.length - l2.length) l2.length:=by
        rw[←hv5,←ho2]
        by_cases h:l2.length=0
        ·exact .inl ⟨List.length_eq_zero_iff.1 h,if_pos h⟩
        ·exact .inr (if_neg h)
       have hmu5:lenO v5<l2.length+1+1:=by rcases hv5' with⟨_,h⟩ | h<;>rw[h]<;>simp[lenO];omega
       rw[ho2] at hdl2
       have hpos:(0:Int)<(l2.length:Int)+1:=by omega
       have hpos2:(0:Int)<(l2.length:Int)+1+1:=by omega
       have hrp:=fun hp' nx'=>hrd r (hwl r (by rw[←hdw2];exact List.getElem_mem hol2)) hp' nx'
       simp only[qV,Part.enc] at hrp
       cases hok:(zw r).2
       ·have hS:altS w (r::l2)=none:=by unfold altS;rw[if_neg hA,if_pos ⟨hE,hR,by simp⟩];simp only[hok];rfl
        have he':altN ws.length ws=none:=by rw[he];simp only[altN,hS];rfl
        rw[he'] at hval
        simp[h4',b0,hor,hrow,hop,hopn,hs1',hs2',hor2,hrow2,hE1,hE2,hE3,hR1,hR2,hpos,hpos2,hrp,hok,zK,z8,hval,encM,z7,f144]
       ·have hS:altS w (r::l2)=some (cOf (opW sgs w).1 (zw r).1,l2):=by unfold altS;rw[if_neg hA,if_pos ⟨hE,hR,by simp⟩];simp only[hok,if_true]
        have he':altN ws.length ws=(altN f' l2).map ((l++[cOf (opW sgs w).1 (zw r).1])++·):=by
         rw[he];simp only[altN,hS];cases altN f' l2<;>simp
        have hap2:=OwnS.append1 (P:=prog) (t:=201) (c:=[str (opW sgs w).1,int (zw r).1.n0,int (zw r).1.n1,int (zw r).1.n2,int (zw r).1.has,.sl 1 (encT (zw r).1.pre),int 0,int 0,int 0,int 0,.nil]) (hO.more (some ⟨206,5,false,[(zw r).1.enc]⟩)) el201 sz208 by208 ze208 rfl (by omega) (by unfold maxLen;unfold lim at hwn;omega) (by unfold lim at hwn;omega)
        simp only[Part.enc] at hap2
        simp[h4',b0,hor,hrow,hop,hopn,hs1',hs2',hor2,hrow2,hE1,hE2,hE3,hR1,hR2,hpos,hpos2,hrp,hok,hap2,zK,z8,zl,zx,zm]
        exact⟨yv (v4:=v5) (c:=cOf (opW sgs w).1 (zw r).1) (f':=f') (l':=l2) (l:=l) (xs:=xs) (by omega) (by omega) hdl2 (by simp) hv5' (by simpa using OwnS.after) (by simp<;>omega) rfl hxs (by simp) (by simp[hk0,n0,n1,n2,b0]) he',by simpa[lenO] using hmu5⟩
     ·have hR1:((opW sgs w).2==[])=false:=by simpa using hR
      have hR2:(opW sgs w).2.isEmpty=false:=by simpa using hR
      have hrp:=fun hp' nx'=>hrd (opW sgs w).2 hrl2 hp' nx'
      simp only[qV,Part.enc] at hrp
      cases hok:(zw (opW sgs w).2).2
      ·have hS:altS w l'=none:=by unfold altS;rw[if_neg hA,if_neg (fun h=>hR h.2.1),if_neg (by rw[hok];simp)]
       have he':altN ws.length ws=none:=by rw[he];simp only[altN,hS];rfl
       rw[he'] at hval
       simp[h4',b0,hor,hrow,hop,hopn,hs1',hE1,hE2,hE3,hR1,hR2,hrp,hok,zK,z8,hval,encM,z7,f144]
      ·have hS:altS w l'=some (cOf (opW sgs w).1 (zw (opW sgs w).2).1,l'):=by unfold altS;rw[if_neg hA,if_neg (fun h=>hR h.2.1),if_pos hok]
       have he':altN ws.length ws=(altN f' l').map ((l++[cOf (opW sgs w).1 (zw (opW sgs w).2).1])++·):=by
        rw[he];simp only[altN,hS];cases altN f' l'<;>simp
       have hap2:=OwnS.append1 (P:=prog) (t:=201) (c:=[str (opW sgs w).1,int (zw (opW sgs w).2).1.n0,int (zw (opW sgs w).2).1.n1,int (zw (opW sgs w).2).1.n2,int (zw (opW sgs w).2).1.has,.sl 1 (encT (zw (opW sgs w).2).1.pre),int 0,int 0,int 0,int 0,.nil]) (hO.more (some ⟨206,5,false,[(zw (opW sgs w).2).1.enc]⟩)) el201 sz208 by208 ze208 rfl (by omega) (by unfold maxLen;unfold lim at hwn;omega) (by unfold lim at hwn;omega)
       simp only[Part.enc] at hap2
       simp[h4',b0,hor,hrow,hop,hopn,hs1',hE1,hE2,hE3,hR1,hR2,hrp,hok,hap2,zK,z8,zl,zx,zm]
       exact⟨yv (v4:=v4) (c:=cOf (opW sgs w).1 (zw (opW sgs w).2).1) (f':=f') (l':=l') (l:=l) (xs:=xs) (by omega) (by omega) hdl (by simp) hv4' (by simpa using OwnS.after) (by simp<;>omega) rfl hxs (by simp) (by simp[hk0,n0,n1,n2,b0]) he',by simpa[lenO] using hmu⟩
theorem alternative_sound:za prog 144 (zc false [] (FSP1 altP)) :=
 xN (fn:=f144) goodalt ⟨_,func144,by kernel_rfl,rfl,by kernel_rfl⟩ false [] _ fun args r h w S vs hz=>by
  obtain⟨l,rfl,hp,rfl⟩:=zf h
  obtain⟨r0,h1,h2⟩:=alternative_eval l hp
  exact⟨_,r0,hz,by simp[f144],h1,h2⟩
noncomputable def covB (s:Str) (c:Cut):Bool:=decide (cmpC s.lo c≤0)&&(s.endless||decide (cmpC c s.hi<0))
def Str.small (s:Str):Prop:=s.lo.v.small∧s.hi.v.small
theorem xW (x y:Cut) (hp:Hp) (nx:Nat) (h1:x.v.small) (h2:y.v.small):zR [.g cpat,.g cpat] (FCC fun v w=>int (cmpC v w)) [.agg x.enc,.agg y.enc] hp nx=some (int (cmpC x y),hp,nx):=cc_call x y (.agg x.enc) (.agg y.enc) hp nx (cutfix x) (cutfix y) (by simp only[zh,cutfrz]) h1 h2
noncomputable abbrev Ccov1:Ctx:=zA prog [(186,zR [.g cpat,.g cpat] (FCC fun v w=>int (cmpC v w)))]
theorem goodcov1:AM.Good Ccov1 (fun g=>[186].contains g):=zk mixed ⟨wE,fun _=>wU _ _,trivial⟩
set_option maxRecDepth 100000 in
theorem cov1_sound:za prog 209 (hRun Ccov1 f209):=zs (code:=_) goodcov1 ⟨func209,by kernel_rfl,rfl,by kernel_rfl⟩
theorem cov1_run (s:Str) (c:Cut) (hs:s.small) (hc:c.v.small) (hp:Hp) (nx id:Nat) (hid:id<nx) (hh:hp id=some ⟨214,5,false,[c.enc]⟩) :
  hRun Ccov1 f209 [.agg s.enc,.ref id 0 0] hp nx=some (boo (covB s c),upd hp nx (some ⟨216,11,false,[s.enc]⟩),nx+1):=by
 unfold hRun
 rw[if_pos (by simp[f209])]
 refine zZ rfl ?_
 have h1:=fun hp nx=>xW s.lo c hp nx hs.1 hc
 have h2:=fun hp nx=>xW c s.hi hp nx hc hs.2
 have e1:¬id=nx:=by omega
 simp only[Cut.enc] at h1 h2 hh
 by_cases ha:cmpC s.lo c≤0<;>cases hb:s.endless <;>
  simp[Str.enc,Cut.enc,h1,h2,hh,e1,ha,hb,covB,f209]
noncomputable def covI (c:Cut):Nat→List Str→Int
 | _,[]=>-1
 | k,s::l=>if covB s c=true then k else covI c (k+1) l
theorem covI_any (c:Cut):∀(l:List Str) (k:Nat),decide (0≤covI c k l)=l.any (covB · c)
 | [],k=>by simp[covI]
 | s::l,k=>by
   by_cases h:covB s c=true
   ·have e:covI c k (s::l)=k:=by simp only[covI,if_pos h]
    rw[e,List.any_cons,h];simp
   ·have e:covI c k (s::l)=covI c (k+1) l:=by simp only[covI,if_neg h]
    rw[e,covI_any c l (k+1),List.any_cons,Bool.eq_false_iff.2 h];rfl
noncomputable abbrev Ccix:Ctx:=zA prog [(209,hRun Ccov1 f209)]
theorem goodcix:AM.Good Ccix (fun g=>([]:List Nat).contains g):=zk mixed ⟨cov1_sound,by simp,trivial⟩
set_option maxRecDepth 100000 in
theorem cix_sound:za prog 190 (hRun Ccix f190):=zs (code:=_) goodcix ⟨func190,by kernel_rfl,rfl,by kernel_rfl⟩
def fnC (id:Nat):PV:=.fn (.func 209) [] [.ref id 0 0]
def KeepQ (r:PV) (hp:Hp) (nx:Nat) (x:PV) (hp':Hp) (nx':Nat):Prop:=x=r∧nx≤nx'∧∀j,j<nx→hp' j=hp j
theorem cix_run (l:List Str) (c:Cut) (hl:l.length≤lim) (hs:∀s∈l,s.small) (hc:c.v.small) (hp0:Hp) (nx0 id:Nat) (hid:id<nx0) (hh:hp0 id=some ⟨214,5,false,[c.enc]⟩) :
  ∃x hp' nx',hRun Ccix f190 [.sl 11 (encR l),fnC id] hp0 nx0=some (x,hp',nx')∧KeepQ (int (covI c 0 l)) hp0 nx0 x hp' nx':=by
 unfold hRun
 rw[if_pos (by simp[f190])]
 refine zu rfl ?_
 unfold lim at hl
 have hel:(encR l).length=l.length:=by simp[encR]
 simp[fnC,hel]
 refine zC (fun k σ hp nx=>σ 0=.sl 11 (encR l)∧σ 1=fnC id∧σ 7=int l.length∧σ 8=int k∧nx0≤nx∧(∀j,j<nx0→hp j=hp0 j)∧covI c 0 l=covI c k (l.drop k)) l.length ⟨by simp,by simp[fnC],by simp,by simp,Nat.le_refl _,fun _ _=>rfl,by simp⟩ ?_
 rintro k σ hp nx hk ⟨h0,h1,h7,h8,hnx,hfr,he⟩
 by_cases hlt:k<l.length
 ·have hw:IntKind.i64.wrap ((k:Int)+1)=(k:Int)+1:=zd (by omega) (by omega)
  have hrun:=cov1_run l[k] c (hs _ (List.getElem_mem hlt)) hc hp nx id (by omega) (by rw[hfr id hid];exact hh)
  have hke:∀h:k<(encR l).length,(encR l)[k]=l[k].enc:=fun h=>by simp[encR]
  simp only[Str.enc,Cut.enc,List.cons_append,List.nil_append] at hrun hke
  rw[List.drop_eq_getElem_cons hlt] at he
  simp only[covI] at he
  cases hz:covB l[k] c
  ·rw[hz,if_neg (by simp)] at he
   rw[hz] at hrun
   simp[h0,h1,h7,h8,fnC,hlt,hel,hke,hrun,hw]
   exact⟨hlt,by omega,fun j hj=>by rw[ze _ _ _ _ (by omega)];exact hfr j hj,he⟩
  ·rw[hz,if_pos rfl] at he
   rw[hz] at hrun
   simp[h0,h1,h7,h8,fnC,hlt,hel,hke,hrun,hw,f190]
   exact⟨by rw[he],by omega,fun j hj=>by rw[ze _ _ _ _ (by omega)];exact hfr j hj⟩
 ·obtain rfl:k=l.length:=by omega
  rw[List.drop_length] at he
  simp only[covI] at he
  simp[h0,h1,h7,h8,f190]
  exact⟨by rw[he],hnx,hfr⟩
noncomputable abbrev Cctn:Ctx:=zA prog [(190,hRun Ccix f190)]
theorem goodctn:AM.Good Cctn (fun g=>([]:List Nat).contains g):=zk mixed ⟨cix_sound,by simp,trivial⟩
set_option maxRecDepth 100000 in
theorem ctn_sound:za prog 152 (hRun Cctn f152):=zs (code:=_) goodctn ⟨func152,by kernel_rfl,rfl,by kernel_rfl⟩
noncomputable def covA (l:List Str) (c:Cut):Bool:=l.any (covB · c)
theorem ctn_run (l:List Str) (c:Cut) (hl:l.length≤lim) (hs:∀s∈l,s.small) (hc:c.v.small) (hp0:Hp) (nx0 id:Nat) (hid:id<nx0) (hh:hp0 id=some ⟨214,5,false,[c.enc]⟩) :
  ∃x hp' nx',hRun Cctn f152 [.sl 11 (encR l),fnC id] hp0 nx0=some (x,hp',nx')∧KeepQ (boo (covA l c)) hp0 nx0 x hp' nx':=by
 unfold hRun
 rw[if_pos (by simp[f152])]
 refine zu rfl ?_
 obtain⟨x,hp',nx',h1,h2,h3,h4⟩:=cix_run l c hl hs hc hp0 nx0 id hid hh
 subst h2
 have ha:=covI_any c l 0
 simp only[fnC] at h1
 simp[fnC,h1,ha,KeepQ,covA,h3,f152]
 exact h4
noncomputable abbrev Ccov:Ctx:=zA prog [(152,hRun Cctn f152)]
theorem goodcov:AM.Good Ccov (fun g=>([]:List Nat).contains g):=zk mixed ⟨ctn_sound,by simp,trivial⟩
def qW (l:List Str):Prop:=l.length≤lim∧∀s∈l,s.small
theorem strenc_inj {a b:Str} (h:a.enc=b.enc):a=b:=by
 obtain⟨⟨⟨a1,a2,a3,a4⟩,a5⟩,⟨⟨a6,a7,a8,a9⟩,a10⟩,a11⟩:=a
 obtain⟨⟨⟨b1,b2,b3,b4⟩,b5⟩,⟨⟨b6,b7,b8,b9⟩,b10⟩,b11⟩:=b
 simp only[Str.enc,Cut.enc,List.cons_append,List.nil_append,List.cons.injEq,and_true] at h
 obtain⟨h1,h2,h3,h4,h5,h6,h7,h8,h9,h10,h11⟩:=h
 injection h4 with _ h4
 injection h9 with _ h9
 rw[zD h1,zD h2,zD h3,qT h4,jP h5,zD h6,zD h7,zD h8,qT h9,jP h10,jP h11]
theorem jU {a b:List Str} (h:encR a=encR b):a=b:=qH (fun _ _ e=>strenc_inj e) h
noncomputable def FRC (f:List Str→Cut→PV):List PV→Option PV:=zG (α:=List Str×Cut) (fun a=>[.sl 11 (encR a.1),.agg a.2.enc]) (fun a=>qW a.1∧a.2.v.small) (fun a=>f a.1 a.2)
theorem rc_inj:∀a b:List Str×Cut,[PV.sl 11 (encR a.1),.agg a.2.enc]=[PV.sl 11 (encR b.1),.agg b.2.enc]→a=b:=by
 rintro⟨a1,a2⟩ ⟨b1,b2⟩ e
 simp only[List.cons.injEq,and_true] at e
 obtain⟨e1,e2⟩:=e
 injection e1 with _ e1
 injection e2 with e2
 rw[jU e1,yC e2]
theorem covers_eval (l:List Str) (c:Cut) (hl:qW l) (hc:c.v.small):zi Ccov f187 [.sl 11 (encR l),.agg c.enc]=some (boo (covA l c)):=by
 refine zb rfl ?_
 obtain⟨x,hp',nx',h1,h2,h3,h4⟩:=ctn_run l c hl.1 hl.2 hc (upd (fun _=>none) 0 (some ⟨214,5,false,[c.enc]⟩)) 1 0 (by omega) (by simp)
 subst h2
 simp only[fnC,Cut.enc] at h1
 simp[Cut.enc,h1,zU,f187]
theorem covers_sound:za prog 187 (zR [.s 11 spat,.g cpat] (FRC fun l c=>boo (covA l c))) :=
 qB (fn:=f187) goodcov ⟨_,func187,by kernel_rfl,rfl,by kernel_rfl⟩ _ _ fun args r h=>by
  obtain⟨⟨l,c⟩,rfl,⟨h1,h2⟩,rfl⟩:=zf h
  exact⟨by simp[f187],_,covers_eval l c h1 h2,Stands.refl _⟩
structure TO {α:Type} (c:α→α→Int):Prop where
 refl:∀x,c x x=0
 flip:∀x y,c x y<0↔0<c y x
 tr:∀x y z,c x y≤0→c y z≤0→c x z≤0
theorem TO.le {α:Type} {c:α→α→Int} (h:TO c) (x y:α):c x y≤0↔0≤c y x:=by
 have:=h.flip y x
 omega
theorem TO.eq {α:Type} {c:α→α→Int} (h:TO c) (x y:α):c x y=0↔c y x=0:=by
 have h1:=h.flip y x
 have h2:=h.flip x y
 omega
theorem TO.trans {α:Type} {c:α→α→Int} (h:TO c) {x y z:α} (h1:c x y<0) (h2:c y z<0):c x z<0:=by
 have h3:=h.tr x y z (by omega) (by omega)
 rcases Int.lt_or_eq_of_le h3 with h4 | h4
 ·exact h4
 ·have h5:=(h.eq x z).1 h4
  have h6:=h.tr z x y (by omega) (by omega)
  have:=(h.flip y z).1 h2
  omega
theorem TO.ntrans {α:Type} {c:α→α→Int} (h:TO c) {x y z:α} (h1:0≤c x y) (h2:0≤c y z):0≤c x z :=
 (h.le z x).1 (h.tr z y x ((h.le z y).2 h2) ((h.le y x).2 h1))
theorem TO.pull {α β:Type} {c:β→β→Int} (h:TO c) (f:α→β):TO fun x y=>c (f x) (f y):=⟨fun _=>h.refl _,fun _ _=>h.flip _ _,fun _ _ _=>h.tr _ _ _⟩
def lexC {α:Type} (c d:α→α→Int) (x y:α):Int:=if c x y=0 then d x y else c x y
theorem TO.lex {α:Type} {c d:α→α→Int} (hc:TO c) (hd:TO d):TO (lexC c d) where
 refl x:=by simp[lexC,hc.refl,hd.refl]
 flip x y:=by
  unfold lexC
  have h1:=hc.flip x y
  have h2:=hc.flip y x
  have h3:=hd.flip x y
  by_cases h:c x y=0
  ·rw[if_pos h,if_pos ((hc.eq x y).1 h)];exact h3
  ·rw[if_neg h,if_neg (fun e=>h ((hc.eq x y).2 e))];exact h1
 tr x y z:=by
  unfold lexC
  intro h1 h2
  by_cases a:c x y=0<;>by_cases b:c y z=0
  ·rw[if_pos a] at h1
   rw[if_pos b] at h2
   have e1:=hc.tr x y z (by omega) (by omega)
   have e2:=hc.tr z y x (by have:=(hc.eq y z).1 b;omega) (by have:=(hc.eq x y).1 a;omega)
   have e3:=(hc.le z x).1 e2
   rw[if_pos (by omega)]
   exact hd.tr x y z h1 h2
  ·rw[if_neg b] at h2
   have e1:=hc.tr x y z (by omega) h2
   by_cases e:c x z=0
   ·exfalso
    have e2:=hc.tr z x y (by have:=(hc.eq x z).1 e;omega) (by omega)
    have:=(hc.flip y z).1 (by omega)
    omega
   ·rw[if_neg e];exact e1
  ·rw[if_neg a] at h1
   have e1:=hc.tr x y z h1 (by omega)
   by_cases e:c x z=0
   ·exfalso
    have e2:=hc.tr y z x (by omega) (by have:=(hc.eq x z).1 e;omega)
    have:=(hc.flip x y).1 (by omega)
    omega
   ·rw[if_neg e];exact e1
  ·rw[if_neg a] at h1
   rw[if_neg b] at h2
   have:=hc.trans (x:=x) (y:=y) (z:=z) (by omega) (by omega)
   rw[if_neg (by omega)]
   omega
theorem TO.zero {α:Type}:TO fun (_ _:α)=>(0:Int):=⟨fun _=>rfl,fun _ _=>by simp,fun _ _ _ _ _=>Int.le_refl _⟩
theorem lexL_to {α:Type} {c:α→α→Int} (h:TO c):TO (lexL c) where
 refl l:=by
  induction l with
  | nil=>rfl
  | cons x l ih=>simp[lexL,h.refl,ih]
 flip a b:=by
  induction a generalizing b with
  | nil=>cases b<;>simp[lexL]
  | cons x a ih =>
    cases b with
    | nil=>simp[lexL]
    | cons y b =>
      simp only[lexL]
      by_cases e:c x y=0
      ·rw[if_pos e,if_pos ((h.eq x y).1 e)];exact ih b
      ·rw[if_neg e,if_neg (fun e'=>e ((h.eq x y).2 e'))];exact h.flip x y
 tr a b d:=by
  induction a generalizing b d with
  | nil=>cases d<;>simp[lexL]
  | cons x a ih =>
    cases b with
    | nil=>simp[lexL]
    | cons y b =>
      cases d with
      | nil=>simp[lexL]
      | cons z d =>
        simp only[lexL]
        intro h1 h2
        by_cases p:c x y=0<;>by_cases q:c y z=0
        ·rw[if_pos p] at h1
         rw[if_pos q] at h2
         have e1:=h.tr x y z (by omega) (by omega)
         have e2:=h.tr z y x (by have:=(h.eq y z).1 q;omega) (by have:=(h.eq x y).1 p;omega)
         have e3:=(h.le z x).1 e2
         rw[if_pos (by omega)]
         exact ih b d h1 h2
        ·rw[if_neg q] at h2
         have e1:=h.tr x y z (by omega) h2
         by_cases e:c x z=0
         ·exfalso
          have e2:=h.tr z x y (by have:=(h.eq x z).1 e;omega) (by omega)
          have:=(h.flip y z).1 (by omega)
          omega
         ·rw[if_neg e];exact e1
        ·rw[if_neg p] at h1
         have e1:=h.tr x y z h1 (by omega)
         by_cases e:c x z=0
         ·exfalso
          have e2:=h.tr y z x (by omega) (by have:=(h.eq x z).1 e;omega)
          have:=(h.flip x y).1 (by omega)
          omega
         ·rw[if_neg e];exact e1
        ·rw[if_neg p] at h1
         rw[if_neg q] at h2
         have:=h.trans (x:=x) (y:=y) (z:=z) (by omega) (by omega)
         rw[if_neg (by omega)]
         omega
theorem cmpI_to:TO cmpI:=⟨fun x=>by simp[cmpI],fun x y=>by unfold cmpI;split<;>split<;>(try split)<;>omega,fun x y z=>by unfold cmpI;repeat' split<;>omega⟩
theorem cmpB_lex:∀a b:List UInt8,cmpB a b=lexL (fun x y:UInt8=>cmpI x.toNat y.toNat) a b
 | [],[]=>rfl
 | [],_::_=>rfl
 | _::_,[]=>rfl
 | x::a,y::b=>by
   have ih:=cmpB_lex a b
   simp only[lexL]
   unfold cmpB at ih ⊢
   simp only[Lib.compareBytes]
   rcases Nat.lt_trichotomy x.toNat y.toNat with h | h | h
   ·have h1:x<y:=h
    have e:cmpI x.toNat y.toNat=-1:=by unfold cmpI;rw[if_pos (by omega)]
    simp[h1,e]
   ·have e:cmpI x.toNat y.toNat=0:=by unfold cmpI;rw[if_neg (by omega),if_neg (by omega)]
    have h1:¬x<y:=by show ¬x.toNat<y.toNat;omega
    have h2:¬y<x:=by show ¬y.toNat<x.toNat;omega
    simp[h1,h2,e,ih]
   ·have h1:¬x<y:=by show ¬x.toNat<y.toNat;omega
    have h2:y<x:=h
    have e:cmpI x.toNat y.toNat=1:=by unfold cmpI;rw[if_neg (by omega),if_pos (by omega)]
    simp[h1,h2,e]
theorem cmpB_to:TO cmpB:=by
 have:cmpB=lexL (fun x y:UInt8=>cmpI x.toNat y.toNat):=by funext a b;exact cmpB_lex a b
 rw[this]
 exact lexL_to (cmpI_to.pull fun x:UInt8=>(x.toNat:Int))
noncomputable def preKey (a:List UInt8):Int×Int×List UInt8×List UInt8:=if digs1 a=true then (0,(Lib.trimLeftB a 48).length,Lib.trimLeftB a 48,[]) else (1,0,[],a)
theorem cmpPreB_key (a b:List UInt8):qI a b=lexC (fun x y=>cmpI x.1 y.1) (lexC (fun x y=>cmpI x.2.1 y.2.1) (lexC (fun x y=>cmpB x.2.2.1 y.2.2.1) fun x y=>cmpB x.2.2.2 y.2.2.2)) (preKey a) (preKey b):=by
 unfold qI preKey lexC
 have r:=cmpB_to.refl []
 have r1:cmpI 0 0=0:=rfl
 have r2:cmpI 1 1=0:=rfl
 by_cases h1:digs1 a=true<;>by_cases h2:digs1 b=true
 ·simp only[h1,h2,if_true,r1,r,orL]
 ·simp[h1,h2,cmpI]
 ·simp[h1,h2,cmpI]
 ·simp[h1,h2,r1,r2,r]
theorem cmpPreB_to:TO qI:=by
 have:qI=fun a b=>lexC (fun x y=>cmpI x.1 y.1) (lexC (fun x y=>cmpI x.2.1 y.2.1) (lexC (fun x y=>cmpB x.2.2.1 y.2.2.1) fun x y=>cmpB x.2.2.2 y.2.2.2)) (preKey a) (preKey b):=by funext a b;exact cmpPreB_key a b
 rw[this]
 exact TO.pull (TO.lex (cmpI_to.pull fun x:Int×Int×List UInt8×List UInt8=>x.1) (TO.lex (cmpI_to.pull fun x:Int×Int×List UInt8×List UInt8=>x.2.1) (TO.lex (cmpB_to.pull fun x:Int×Int×List UInt8×List UInt8=>x.2.2.1) (cmpB_to.pull fun x:Int×Int×List UInt8×List UInt8=>x.2.2.2)))) preKey
def preNo (v:Ver):Int:=if v.pre.length=0 then 1 else 0
theorem cmpV_lex (v w:Ver):cmpV v w=lexC (fun x y=>cmpI x.a y.a) (lexC (fun x y=>cmpI x.b y.b) (lexC (fun x y=>cmpI x.c y.c) (lexC (fun x y=>cmpI (preNo x) (preNo y)) fun x y=>lexL qI x.pre y.pre))) v w:=by
 unfold cmpV lexC
 by_cases h1:cmpI v.a w.a=0
 ·by_cases h2:cmpI v.b w.b=0
  ·by_cases h3:cmpI v.c w.c=0
   ·simp only[orL,h1,h2,h3,if_true]
    by_cases p:v.pre.length=0<;>by_cases q:w.pre.length=0
    ·have e1:v.pre=[]:=List.length_eq_zero_iff.1 p
     have e2:w.pre=[]:=List.length_eq_zero_iff.1 q
     simp[preNo,p,q,cmpI,e1,e2,lexL]
    ·simp[preNo,p,q,cmpI]
    ·simp[preNo,p,q,cmpI]
    ·simp[preNo,p,q,cmpI]
   ·simp[orL,h1,h2,h3]
  ·simp[orL,h1,h2]
 ·simp[orL,h1]
theorem cmpV_to:TO cmpV:=by
 have:cmpV=lexC (fun x y=>cmpI x.a y.a) (lexC (fun x y=>cmpI x.b y.b) (lexC (fun x y=>cmpI x.c y.c) (lexC (fun x y=>cmpI (preNo x) (preNo y)) fun x y=>lexL qI x.pre y.pre))):=by funext a b;exact cmpV_lex a b
 rw[this]
 exact TO.lex (cmpI_to.pull fun x:Ver=>x.a) (TO.lex (cmpI_to.pull fun x:Ver=>x.b) (TO.lex (cmpI_to.pull fun x:Ver=>x.c) (TO.lex (cmpI_to.pull preNo) ((lexL_to cmpPreB_to).pull fun x:Ver=>x.pre))))
def aftI (c:Cut):Int:=if c.after=true then 1 else 0
theorem cmpC_lex (a b:Cut):cmpC a b=lexC (fun x y=>cmpV x.v y.v) (fun x y=>cmpI (aftI x) (aftI y)) a b:=by
 unfold cmpC lexC
 by_cases h:cmpV a.v b.v=0
 ·simp only[h,if_true]
  cases ha:a.after<;>cases hb:b.after<;>simp[aftI,ha,hb,cmpI]
 ·simp[h]
theorem cmpC_to:TO cmpC:=by
 have:cmpC=lexC (fun x y=>cmpV x.v y.v) (fun x y=>cmpI (aftI x) (aftI y)):=by funext a b;exact cmpC_lex a b
 rw[this]
 exact TO.lex (cmpV_to.pull fun x:Cut=>x.v) (cmpI_to.pull aftI)
end Go.Proofs.YtanbabpnlgfcpaaGreatDoor
