/-
Words: operators, slices.DeleteFunc at texts.
An alternative of a range: its comparisons.
Whether a range covers the place behind a cut.
-/
import Derived.Test.YtpeaooooimfihaaGreatDoorG17
set_option maxRecDepth 8000
namespace Go.Proofs.YtpeaooooimfihaaGreatDoor
open Go.Proofs.Tryz
open Go.RowKit Go.AM
def sgs:List (List UInt8):=[[62,61],[60,61],[62],[60],[61],[126],[94]]
def opW:List (List UInt8)→List UInt8→List UInt8×List UInt8
 | [],s=>([],s)
 | g::l,s=>if g.isPrefixOf s=true then (g,s.drop g.length) else opW l s
def opP (s:List UInt8):PV:=.tup [str (opW sgs s).1,str (opW sgs s).2]
noncomputable abbrev Cop:Ctx:=zF prog [(145,zf false [] (FTT cpP fun _ _=>True))]
theorem goodop:AM.Good Cop (fun g=>([]:List Nat).contains g):=zm mixed ⟨cutPrefix_sound,by simp,trivial⟩
theorem operator_eval (s:List UInt8) (h:s.length≤lim):zj Cop f100 [str s]=some (opP s):=by
 refine zb rfl ?_
 have hb:∀hp nx,zd prog hp nx 45 7 [(0,str [62,61]),(1,str [60,61]),(2,str [62]),(3,str [60]),(4,str [61]),(5,str [126]),(6,str [94])]=some (.own nx 0 7,upd hp nx (some ⟨9,1,true,encT sgs⟩),nx+1):=fun hp nx=>by
  simp[zd,zl,zc,sgs,str]
 simp[str] at hb
 simp[hb]
 refine zy (fun k σ hp nx=>σ 0=str s∧σ 8=.own 0 0 7∧σ 9=int 7∧σ 10=int k∧hp 0=some ⟨9,1,true,encT sgs⟩∧opW sgs s=opW (sgs.drop k) s) 7 ⟨by simp,by simp,by simp,by simp,by simp,by simp⟩ ?_
 rintro k σ hp nx hk ⟨h0,h8,h9,h10,b0,he⟩
 by_cases hlt:k<7
 ·have hl:k<sgs.length:=hlt
  have hgl:sgs[k].length≤lim:=by
   have:∀q∈sgs,q.length≤lim:=by decide
   exact this _ (List.getElem_mem hl)
  have hc:=fun hp nx=>cp_call s sgs[k] hp nx h hgl
  have hw:IntKind.i64.wrap ((k:Int)+1)=(k:Int)+1:=zh (by omega) (by omega)
  have hk7:(k:Int)<7:=by omega
  rw[List.drop_eq_getElem_cons hl] at he
  simp only[opW] at he
  by_cases hp:(sgs[k]).isPrefixOf s=true
  ·rw[if_pos hp] at he
   simp[h0,h8,h9,h10,b0,hk7,hlt,hl,hc,hp,hw,opP,he,qi,f100]
  ·rw[if_neg hp] at he
   have hp':(sgs[k]).isPrefixOf s=false:=Bool.eq_false_iff.2 hp
   simp[h0,h8,h9,h10,b0,hk7,hlt,hl,hc,hp',hw]
   exact⟨by omega,he⟩
 ·obtain rfl:k=7:=by omega
  rw[show sgs.drop 7=[] from rfl] at he
  simp only[opW] at he
  simp[h0,h8,h9,h10,opP,he,qi, f100]
theorem operator_sound:za prog 100 (zf false [] (FSP opP)) :=
 zO (fn:=f100) goodop ⟨_,func100,by kernel_rfl,rfl,by kernel_rfl⟩ false [] _ fun args r h=>by
  obtain⟨l,rfl,hp,rfl⟩:=ze h
  exact⟨by simp[f100],_,operator_eval l hp,zM _⟩
def emp (l:List UInt8):Bool:=l.isEmpty
theorem alt1_sound:za prog 98 (zf false [] (FS emp)) :=
 zO (fn:=f98) wT ⟨_,func98,by kernel_rfl,rfl,by kernel_rfl⟩ false [] _ fun args r h=>by
  obtain⟨l,rfl,hp,rfl⟩:=ze h
  exact⟨by simp[f98],_,zb rfl (by simp[qi,emp,f98]),zM _⟩
def idxE:Nat→List (List UInt8)→Int
 | _,[]=>-1
 | k,x::l=>if x=[] then k else idxE (k+1) l
def fnE:PV:=.fn (.func 98) [] []
noncomputable def FIx:List PV→Option PV:=zH (α:=List (List UInt8)) (fun l=>[.sl 1 (encT l),fnE]) wJ (fun l=>int (idxE 0 l))
noncomputable abbrev Cixf:Ctx:=zF prog [(98,zf false [] (FS emp))]
theorem goodixf:AM.Good Cixf (fun g=>([]:List Nat).contains g):=zm mixed ⟨alt1_sound,by simp,trivial⟩
theorem indexFuncE_eval (l:List (List UInt8)) (h:wJ l):zj Cixf f141 [.sl 1 (encT l),fnE]=some (int (idxE 0 l)):=by
 refine zb rfl ?_
 obtain⟨hl,hps⟩:=h
 unfold lim at hl
 simp[fnE]
 refine zy (fun k σ hp nx=>σ 0=.sl 1 (encT l)∧σ 1=fnE∧σ 7=int l.length∧σ 8=int k∧idxE 0 l=idxE k (l.drop k)) l.length ⟨by simp,by simp[fnE],by simp,by simp,by simp⟩ ?_
 rintro k σ hp nx hk ⟨h0,h1,h7,h8,he⟩
 by_cases hlt:k<l.length
 ·have hw:IntKind.i64.wrap ((k:Int)+1)=(k:Int)+1:=zh (by omega) (by omega)
  have hc:=fun hp' nx=>wi emp l[k] hp' nx (hps _ (List.getElem_mem hlt))
  rw[List.drop_eq_getElem_cons hlt] at he
  simp only[idxE] at he
  by_cases hz:l[k]=[]
  ·rw[if_pos hz] at he
   have hz':emp l[k]=true:=by simpa[emp] using hz
   simp[h0,h1,h7,h8,fnE,hlt,hc,hz',hw,he,qi,f141]
  ·rw[if_neg hz] at he
   have hz':emp l[k]=false:=by simpa[emp] using hz
   simp[h0,h1,h7,h8,fnE,hlt,hc,hz',hw]
   exact⟨hlt,he⟩
 ·obtain rfl:k=l.length:=by omega
  rw[List.drop_length] at he
  simp only[idxE] at he
  simp[h0,h1,h7,h8,he,qi,f141]
theorem fixe_inj:∀a b:List (List UInt8),[PV.sl 1 (encT a),fnE]=[PV.sl 1 (encT b),fnE]→a=b:=fun a b e=>by
 simp only[List.cons.injEq,and_true] at e
 injection e with _ e
 exact w8 e
theorem indexFuncE_sound:za prog 141 (zf false [] FIx) :=
 zO (fn:=f141) goodixf ⟨_,func141,by kernel_rfl,rfl,by kernel_rfl⟩ false [] _ fun args r h=>by
  obtain⟨l,rfl,hp,rfl⟩:=ze h
  exact⟨by simp[f141],_,indexFuncE_eval l hp,zM _⟩
theorem ixe_call (l:List (List UInt8)) (hp:Hp) (nx id:Nat) (h:wJ l) (hh:hp id=some (blkT l)):zf false [] FIx [.own id 0 l.length,fnE] hp nx=some (int (idxE 0 l),hp,nx):=by
 have ht:(encT l).take l.length=encT l:=List.take_of_length_le (by simp)
 refine zK (show zi hp [.own id 0 l.length,fnE]=some ([.sl 1 (encT l),fnE],upd hp id none) by
  have:hp id=some ⟨9,1,true,encT l⟩:=hh
  simp[fnE,this,ht]) (zn (enc:=fun l:List (List UInt8)=>[PV.sl 1 (encT l),fnE]) (a:=l) fixe_inj h) (.inl rfl)
def zL (l:List (List UInt8)):List (List UInt8):=l.filter fun x=>!emp x
theorem idxE_spec:∀(l:List (List UInt8)) (k:Nat),(idxE k l=-1∧zL l=l)∨∃i,∃h:i<l.length,idxE k l=((k+i:Nat):Int)∧emp l[i]=true∧zL (l.take i)=l.take i
 | [],k=>.inl ⟨rfl,rfl⟩
 | x::l,k=>by
   by_cases hx:x=[]
   ·exact .inr ⟨0,by simp,by simp[idxE,hx],by simp[emp,hx],by simp[zL]⟩
   ·have hx':emp x=false:=by simpa[emp] using hx
    rcases idxE_spec l (k+1) with⟨h1,h2⟩ | ⟨i,h,h1,h2,h3⟩
    ·exact .inl ⟨by simp[idxE,hx,h1],by simp only[zL,List.filter_cons,hx'];simpa[zL] using h2⟩
    ·refine .inr ⟨i+1,by simpa using h,by simp only[idxE,if_neg hx,h1];congr 1;omega,by simpa using h2,?_⟩
     simp only[List.take_succ_cons,zL,List.filter_cons,hx']
     simpa[zL] using h3
theorem vQ {l:List (List UInt8)} {j:Nat} (h:j<l.length):zL (l.take (j+1))=if emp l[j]=true then zL (l.take j) else zL (l.take j)++[l[j]]:=by
 rw[List.take_succ_eq_append_getElem h]
 simp only[zL,List.filter_append,List.filter_cons,List.filter_nil]
 cases emp l[j]<;>simp
theorem encT_append (a b:List (List UInt8)):encT (a++b)=encT a++encT b:=by simp[encT]
theorem row_split {l:List (List UInt8)} {i:Nat} (h:i<l.length):encT l=encT (l.take i)++[str l[i]]::encT (l.drop (i+1)):=by
 rw[←xP,←encT_append,←List.drop_eq_getElem_cons h,List.take_append_drop]
noncomputable abbrev Cdf:Ctx:=zF prog [(98,zf false [] (FS emp)),(141,zf false [] FIx)]
theorem gooddf:AM.Good Cdf (fun g=>([]:List Nat).contains g):=zm mixed ⟨alt1_sound,by simp,indexFuncE_sound,by simp,trivial⟩
set_option maxRecDepth 100000 in
theorem deleteFunc_sound:za prog 97 (hRun Cdf f97):=wx (code:=_) gooddf ⟨func97,by kernel_rfl,rfl,by kernel_rfl⟩
def DelQ (l:List (List UInt8)) (id:Nat) (hp:Hp) (nx:Nat) (x:PV) (hp':Hp) (nx':Nat):Prop:=x=.own id 0 (zL l).length∧nx'=nx∧(∃pad,hp' id=some ⟨9,1,true,encT (zL l)++pad⟩)∧∀j,j≠id→hp' j=hp j
theorem delete_run (l:List (List UInt8)) (hp0:Hp) (nx0 id:Nat) (h:wJ l) (hh:hp0 id=some (blkT l)):∃x hp' nx',hRun Cdf f97 [.own id 0 l.length,fnE] hp0 nx0=some (x,hp',nx')∧DelQ l id hp0 nx0 x hp' nx':=by
 unfold hRun
 rw[if_pos (by simp[f97])]
 refine zN rfl ?_
 have hix:=ixe_call l hp0 nx0 id h hh
 obtain⟨hl,hps⟩:=h
 unfold lim at hl
 simp only[fnE] at hix
 have hb0:hp0 id=some ⟨9,1,true,encT l⟩:=hh
 rcases idxE_spec l 0 with⟨e1,e2⟩ | ⟨i,hi,e1,e2,e3⟩
 ·rw[e1] at hix
  simp[fnE,hix,DelQ,e2,f97]
  exact⟨[],by simpa using hb0⟩
 ·rw[e1] at hix
  have hi1:((i:Int)==-1)=false:=by simp
  have hwi:IntKind.i64.wrap ((i:Int)+1)=(i:Int)+1:=zh (by omega) (by omega)
  simp[fnE,hix,hi1,hwi]
  refine zy (fun k σ hp nx=>σ 0=.own id 0 l.length∧σ 1=fnE∧σ 5=int (zL (l.take (i+1+k))).length∧σ 6=int ((i:Int)+1+k)∧nx=nx0∧(∀j,j≠id→hp j=hp0 j) ∧
    ∃mid,hp id=some ⟨9,1,true,encT (zL (l.take (i+1+k)))++mid++encT (l.drop (i+1+k))⟩∧(zL (l.take (i+1+k))).length+mid.length=i+1+k∧0<mid.length∧∀c∈mid,c.length=1) (l.length - (i+1))
   ⟨by simp,by simp[fnE],by simp[vQ hi,e2,e3];omega,by simp,rfl,fun _ _=>rfl,[[str l[i]]],by simp[vQ hi,e2,e3,hb0];exact row_split hi,by simp[vQ hi,e2,e3];omega,by simp,by simp⟩ ?_
  rintro k σ hp nx hk ⟨h0,h1,h5,h6,rfl,hfr,mid,hb,hml,hm0,hm1⟩
  obtain⟨j,hj⟩:∃j,i+1+k=j:=⟨_,rfl⟩
  have h6':σ 6=int j:=by rw[h6];congr 2;omega
  rw[hj] at h5 hb hml
  by_cases hlt:j<l.length
  ·have hc:=fun hp' nx=>wi emp l[j] hp' nx (hps _ (List.getElem_mem hlt))
   have hwj:IntKind.i64.wrap ((j:Int)+1)=(j:Int)+1:=zh (by omega) (by omega)
   have hww:IntKind.i64.wrap (((zL (l.take j)).length:Int)+1)=((zL (l.take j)).length:Int)+1:=zh (by omega) (by omega)
   have hget:(encT (zL (l.take j))++mid++encT (l.drop j))[j]?=some [str l[j]]:=by
    rw[List.getElem?_append_right (by simp;omega),List.drop_eq_getElem_cons hlt,xP]
    rw[show j - (encT (zL (l.take j))++mid).length=0 by simp;omega]
    rfl
   have hlen:(encT (zL (l.take j))++mid++encT (l.drop j)).length=l.length:=by simp;omega
   obtain⟨rows,hrows⟩:∃rows,encT (zL (l.take j))++mid++encT (l.drop j)=rows:=⟨_,rfl⟩
   rw[hrows] at hb hget hlen
   have hget2:∀h:j<rows.length,rows[j]=[str l[j]]:=fun h=>(List.getElem?_eq_some_iff.1 hget).2
   have hwt:=vQ hlt
   have hjj:i+1+(k+1)=j+1:=by omega
   have hwi:(zL (l.take j)).length<l.length:=by omega
   cases he:emp l[j]
   ·rw[he,if_neg (by simp)] at hwt
    obtain⟨y,mid',rfl,hmid'⟩:∃y mid',mid=[y]::mid'∧∀c∈mid',c.length=1:=by
     cases mid with
     | nil=>simp at hm0
     | cons x mid' =>
       have:=hm1 x (by simp)
       match x,this with
       | [y],_=>exact⟨y,mid',rfl,fun c hc=>hm1 c (by simp[hc])⟩
    have hg3:∀h:(zL (l.take j)).length<rows.length,rows[(zL (l.take j)).length]=[y]:=fun h=>by
     have:rows[(zL (l.take j)).length]?=some [y]:=by
      rw[←hrows,List.append_assoc,List.getElem?_append_right (by simp)]
      simp
     exact (List.getElem?_eq_some_iff.1 this).2
    have hset:rows.set (zL (l.take j)).length [str l[j]]=encT (zL (l.take j))++([str l[j]]::mid'++encT (l.drop j)):=by
     rw[←hrows,List.append_assoc,List.set_append_right _ _ (by simp)]
     simp
    simp only[List.length_cons] at hml
    simp[h0,h1,h5,h6',fnE,hlt,hb,hget2,hc,he,hwj,hww,hwi,hlen,hg3,hset,hjj,hwt]
    refine⟨by omega,by omega,fun q hq=>by rw[qd _ _ _ _ hq];exact hfr q hq,mid'++[[str l[j]]],?_,by simp;omega,by simp,?_⟩
    ·rw[encT_append]
     simp
     rw[List.drop_eq_getElem_cons hlt,xP]
    ·intro c hc
     rcases List.mem_append.1 hc with hc | hc
     ·exact hmid' c hc
     ·simp at hc;subst hc;rfl
   ·rw[he,if_pos rfl] at hwt
    simp[h0,h1,h5,h6',fnE,hlt,hb,hget2,hc,he,hwj,hjj,hwt,hlen]
    refine⟨by omega,by omega,hfr,mid++[[str l[j]]],?_,by simp;omega,by simp,?_⟩
    ·rw[←hrows]
     simp
     rw[List.drop_eq_getElem_cons hlt,xP]
    ·intro c hc
     rcases List.mem_append.1 hc with hc | hc
     ·exact hm1 c hc
     ·simp at hc;subst hc;rfl
  ·obtain rfl:j=l.length:=by omega
   rw[List.take_length] at h5 hb hml
   rw[List.drop_length,encT_nil,List.append_nil] at hb
   have hn1:¬(l.length:Int)<l.length:=by omega
   have hwle:(zL l).length≤l.length:=by omega
   have hsub:l.length - (zL l).length=mid.length:=by omega
   have hcl:clearA prog hp nx 45 (.own id (zL l).length mid.length)=some (.tup [],upd hp id (some ⟨9,1,true,encT (zL l)++List.replicate mid.length [str []]⟩),nx):=by
    have ht:(encT (zL l)++mid).take (zL l).length=encT (zL l):=by rw[List.take_append_of_le_length (by simp),encT_take]
    have hd:(encT (zL l)++mid).drop ((zL l).length+mid.length)=[]:=List.drop_of_length_le (by simp)
    simp[clearA,hb,ht,hd,hm0,str]
   have hs1:∀hp:Hp,hp id=some ⟨9,1,true,encT (zL l)++mid⟩→qS prog hp 45 (.own id 0 l.length) (some (some (int (zL l).length))) none=some (.own id (zL l).length mid.length):=fun hp hh=>by
    have:¬l.length=(zL l).length:=by omega
    simp[qS,hh,wB,hwle,hsub,this]
    intro e
    rw[e] at hsub ⊢
    simp at hsub
    simp[hsub]
   have hs2:∀(hp:Hp) (r:List (List PV)),hp id=some ⟨9,1,true,r⟩→qS prog hp 45 (.own id 0 l.length) none (some (some (int (zL l).length)))=some (.own id 0 (zL l).length):=fun hp r hh=>by
    simp[qS,hh,wB,hwle]
   have hs1':=hs1 hp hb
   have hs2':=hs2 (upd hp id (some ⟨9,1,true,encT (zL l)++List.replicate mid.length [str []]⟩)) _ (by simp;rfl)
   simp[h0,h1,h5,h6',fnE,hb,hs1',hs2',hcl,f97]
   exact⟨rfl,rfl,⟨_,by simp;rfl⟩,fun q hq=>by rw[qd _ _ _ _ hq];exact hfr q hq⟩
def cAll:Cpn:=⟨qX,part0,part0⟩
def cOf (sg:List UInt8) (p:Part):Cpn:=⟨sg,p,part0⟩
def altS (w:List UInt8) (l:List (List UInt8)):Option (Cpn×List (List UInt8)) :=
 if (opW sgs w).1=[]∧qw (opW sgs w).2=true then some (cAll,l)
 else if (opW sgs w).1≠[]∧(opW sgs w).2=[]∧l≠[] then (match l with
  | r::l'=>if (zo r).2=true then some (cOf (opW sgs w).1 (zo r).1,l') else none
  | []=>none)
 else if (zo (opW sgs w).2).2=true then some (cOf (opW sgs w).1 (zo (opW sgs w).2).1,l) else none
def altN:Nat→List (List UInt8)→Option (List Cpn)
 | 0,_=>some []
 | _+1,[]=>some []
 | n+1,w::l=>match altS w l with
   | some (c,l')=>(altN n l').map (c::·)
   | none=>none
theorem altS_len {w:List UInt8} {l l':List (List UInt8)} {c:Cpn} (h:altS w l=some (c,l')):l'.length≤l.length:=by
 unfold altS at h
 split at h
 ·injection h with h;injection h with _ h;subst h;exact Nat.le_refl _
 ·split at h
  ·split at h
   ·split at h
    ·injection h with h;injection h with _ h;subst h;simp
    ·cases h
   ·cases h
  ·split at h
   ·injection h with h;injection h with _ h;subst h;exact Nat.le_refl _
   ·cases h
def altR (t:List UInt8):List Cpn×Bool :=
 match zL (zu t [32]) with
 | [a,b,c]=>if b=[45] then ([⟨[45],(zo a).1,(zo c).1⟩],(zo a).2&&(zo c).2) else (match altN 3 [a,b,c] with
   | some l=>(l,!l.isEmpty)
   | none=>([],false))
 | ws=>match altN ws.length ws with
   | some l=>(l,!l.isEmpty)
   | none=>([],false)
def encM (l:List Cpn):List (List PV):=l.map Cpn.enc
def altP (t:List UInt8):PV:=.tup [.sl 11 (encM (altR t).1),boo (altR t).2]
theorem xo:∀(gs:List (List UInt8)) (s:List UInt8),(opW gs s).2.length≤s.length
 | [],s=>Nat.le_refl _
 | g::l,s=>by
   simp only[opW]
   split
   ·simp
   ·exact xo l s
noncomputable abbrev Calt:Ctx:=zF prog [(77,qT [] FSp),(97,hRun Cdf f97),(99,zf false [] (FSP1 qP)),(100,zf false [] (FSP opP)),(101,zf false [] (FS qw))]
theorem goodalt:AM.Good Calt (fun g=>[101].contains g):=zm mixed ⟨je,by simp,deleteFunc_sound,by simp,readPartial_sound,by simp,operator_sound,by simp,open_sound,fun _=>zg _ _,trivial⟩
def lenO:PV→Nat
 | .own _ _ n=>n
 | _=>0
def LoopI (ws:List (List UInt8)) (rows:List (List PV)) (st:St):Prop:=∃f rest l xs,rest.length≤f∧xs.length+rest.length≤ws.length∧ws.drop (ws.length - rest.length)=rest∧(rest=[]∧st.σ 4=.sl 1 []∨st.σ 4=.own 0 (ws.length - rest.length) rest.length) ∧
 OwnS st.hp st.nx 96 11 (st.σ 9) xs∧(∀n,st.σ 9≠.own 0 0 n)∧xs.map (fixC mpat)=encM l∧1≤st.nx∧st.hp 0=some ⟨9,1,true,rows⟩∧altN ws.length ws=(altN f rest).map (l++·)
theorem sl1 (hp:Hp) (rows:List (List PV)) (o n:Nat) (hh:hp 0=some ⟨9,1,true,rows⟩):qS prog hp 45 (.own 0 o (n+1)) (some (some (int 1))) none=some (if n=0 then .sl 1 [] else .own 0 (o+1) n):=by
 simp[qS,hh,wB]
theorem yu {ws rows} {f':Nat} {l':List (List UInt8)} {l:List Cpn} {c:Cpn} {xs:List (List PV)} {raw:List PV} {st:St} {v4:PV} (hf:l'.length≤f') (hx:xs.length+1+l'.length≤ws.length) (hdr:ws.drop (ws.length - l'.length)=l') (h4:st.σ 4=v4) (hv4:l'=[]∧v4=.sl 1 []∨v4=.own 0 (ws.length - l'.length) l'.length)
  (hO:OwnS st.hp st.nx 96 11 (st.σ 9) (xs++[raw])) (hO0:∀n,st.σ 9≠.own 0 0 n) (hfix:fixC mpat raw=c.enc) (hxs:xs.map (fixC mpat)=encM l) (hnx:1≤st.nx) (b0:st.hp 0=some ⟨9,1,true,rows⟩) (he:altN ws.length ws=(altN f' l').map ((l++[c])++·)):LoopI ws rows st :=
 ⟨f',l',l++[c],xs++[raw],hf,by simp;omega,hdr,by rw[h4];exact hv4,hO,hO0,by simp[hxs,hfix,encM],hnx,b0,he⟩
theorem altN_nil (f:Nat):altN f []=some []:=by cases f<;>rfl
set_option maxHeartbeats 4000000 in
theorem alternative_eval (t:List UInt8) (ht:t.length+1≤lim):∃r0,zj Calt f66 [str t]=some r0∧Stands r0 (altP t):=by
 refine qe (sh:=.s 11 mpat) rfl ?_
 have hsp:=fun hp nx=>yl t [32] hp nx (by omega) (by decide) (by decide)
 have hpl:∀p∈zu t [32],p.length+1≤lim:=fun p hp=>by have:=wz hp;omega
 have hsm:wJ (zu t [32]):=⟨by have:=wS (s:=t) (sep:=[32]) (by simp);omega,fun p hp=>by have:=hpl p hp;omega⟩
 obtain⟨x,hp1,nx1,hdel,hx,hnx,⟨pad,hb⟩,hfr⟩:=delete_run (zu t [32]) (upd (fun _=>none) 0 (some ⟨9,1,true,encT (zu t [32])⟩)) 1 0 hsm (by simp)
 subst hx;subst hnx
 obtain⟨ws,hws⟩:∃ws,zL (zu t [32])=ws:=⟨_,rfl⟩
 have hwl:∀p∈ws,p.length+1≤lim:=fun p hp=>hpl p (by rw[←hws] at hp;exact (List.mem_filter.1 hp).1)
 rw[hws] at hdel hb
 simp only[fnE] at hdel
 have hwn:ws.length≤lim:=by
  have h1:=List.length_filter_le (fun x=>!emp x) (zu t [32])
  have h2:=wS (s:=t) (sep:=[32]) (by simp)
  have h3:ws.length=(zL (zu t [32])).length:=by rw[hws]
  unfold zL at h3
  omega
 have hrd:=fun (p:List UInt8) (hp:p.length+1≤lim) hp' nx=>yb qP p hp' nx hp
 simp[hsp,hdel]
 by_cases hc:∃a c,ws=[a,[45],c]
 ·obtain⟨a,c,rfl⟩:=hc
  have ha:=fun hp' nx=>hrd a (hwl a (by simp)) hp' nx
  have hcc:=fun hp' nx=>hrd c (hwl c (by simp)) hp' nx
  simp only[qP,Part.enc] at ha hcc
  have hval:altP t=.tup [.sl 11 (encM [⟨[45],(zo a).1,(zo c).1⟩]),boo ((zo a).2&&(zo c).2)]:=by simp only[altP,altR,hws,if_true]
  rw[hval]
  have hn:∀k,0<k→hp1 k=none:=fun k hk=>by rw[hfr k (by omega),qd _ _ _ _ (by omega)]
  simp[hb,ha,hcc,zw,zJ,zd,zl,zc,zx,encM,Cpn.enc,f66]
 ·have hval:altP t=(match altN ws.length ws with
   | some l=>.tup [.sl 11 (encM l),boo (!l.isEmpty)]
   | none=>.tup [.sl 11 [],boo false]):=by
   have hR:altR t=(match altN ws.length ws with
    | some l=>(l,!l.isEmpty)
    | none=>([],false)):=by
    unfold altR
    rw[hws]
    match ws,hc with
    | [],_=>rfl
    | [_],_=>rfl
    | [_,_],_=>rfl
    | [a,b,c],hc =>
      have:¬b=[45]:=fun e=>hc ⟨a,c,by rw[e]⟩
      simp only[if_neg this]
      rfl
    | _::_::_::_::_,_=>rfl
   unfold altP
   rw[hR]
   cases altN ws.length ws<;>rfl
  obtain⟨rows,hrows⟩:∃rows,encT ws++pad=rows:=⟨_,rfl⟩
  have hrl:ws.length≤rows.length:=by rw[←hrows];simp
  have hat:∀k (h:k<ws.length) (h':k<rows.length),rows[k]=[str ws[k]]:=fun k h h'=>by
   subst hrows
   rw[List.getElem_append_left (by simpa using h)]
   simp[encT]
  rw[hrows] at hb
  clear hrows
  by_cases h3:ws.length=3
  ·have h31:=hat 1 (by omega) (by omega)
   have hne:(ws[1]==[45])=false:=by
    match ws,h3,hc with
    | [a,b,c],_,hc=>simpa using fun e=>hc ⟨a,c,by rw[e]⟩
   have h3l:1<rows.length:=by omega
   have h33:((ws.length:Int)==3)=true:=by simp[h3]
   simp[hb,h33,h3,h31,hne,h3l]
   refine EvC_loop (LoopI ws rows) (fun st=>lenO (st.σ 4)) ⟨ws.length,ws,[],[],Nat.le_refl _,by simp,by simp,.inr (by simp;try omega),.inl ⟨by simp,rfl⟩,by simp,rfl,by simp,by simpa using hb,by simp⟩ ?_
   clear hdel hfr hsp
   rintro⟨σ,hp,nx⟩ ⟨f,rest,l,xs,hf,hxl,hdr,h4,hO,hO0,hxs,hnx,b0,he⟩
   simp only at h4 hO hO0 hnx b0
   cases rest with
   | nil =>
     rw[altN_nil] at he
     simp only[Option.map_some,List.append_nil] at he
     rw[he] at hval
     rw[hval]
     have hxl2:xs.length=l.length:=by have:=congrArg List.length hxs;simpa[encM] using this
     have hb1:(decide ((0:Int)<(xs.length:Int)))=!l.isEmpty:=by
      rw[hxl2];cases l<;>simp
     have hb2:(decide (0<xs.length))=!l.isEmpty:=by
      rw[hxl2];cases l<;>simp
     have h4':σ 4=.sl 1 []∨σ 4=.own 0 ws.length 0:=by
      rcases h4 with⟨_,h4⟩ | h4
      ·exact .inl h4
      ·exact .inr (by simpa using h4)
     rcases hO with⟨h9,rfl⟩ | ⟨id,hid,h9,hb9⟩
     ·simp[encM] at hxs
      subst hxs
      rcases h4' with h4' | h4'<;>simp[h4',h9,zx,encM,f66]
     ·rcases h4' with h4' | h4'<;>simp[h4',h9,hb9,hb1,hb2,hxs,zx,f66]
   | cons w l' =>
     obtain⟨f',rfl⟩:∃f',f=f'+1:=⟨f - 1,by simp at hf;omega⟩
     simp only[List.length_cons] at hf hxl hdr h4
     obtain⟨o,ho⟩:∃o,ws.length - (l'.length+1)=o:=⟨_,rfl⟩
     rw[ho] at hdr h4
     have h4':σ 4=.own 0 o (l'.length+1):=by
      rcases h4 with⟨h,_⟩ | h
      ·cases h
      ·exact h
     have hol:o<ws.length:=by omega
     have hor:o<rows.length:=by omega
     rw[List.drop_eq_getElem_cons hol] at hdr
     injection hdr with hdw hdl
     have hrow:rows[o]=[str w]:=by rw[hat o hol hor,hdw]
     have hww:w.length+1≤lim:=hwl w (by rw[←hdw];exact List.getElem_mem hol)
     have hop:=fun hp' nx'=>FSP_call opP w hp' nx' (by omega) rfl
     simp only[opP] at hop
     have hrl2:(opW sgs w).2.length+1≤lim:=by have:=xo sgs w;omega
     have hopn:=fun hp' nx'=>wi qw (opW sgs w).2 hp' nx' (by omega)
     obtain⟨v4,hv4⟩:∃v4,(if l'.length=0 then PV.sl 1 [] else .own 0 (o+1) l'.length)=v4:=⟨_,rfl⟩
     have hs1:=fun hp' (hh:hp' 0=some _)=>sl1 hp' rows o l'.length hh
     rw[hv4] at hs1
     have hs1':=hs1 hp b0
     have ho1:o+1=ws.length - l'.length:=by omega
     have hv4':l'=[]∧v4=.sl 1 []∨v4=.own 0 (ws.length - l'.length) l'.length:=by
      rw[←hv4,←ho1]
      by_cases h:l'.length=0
      ·exact .inl ⟨List.length_eq_zero_iff.1 h,if_pos h⟩
      ·exact .inr (if_neg h)
     have hmu:lenO v4<l'.length+1:=by rcases hv4' with⟨_,h⟩ | h<;>rw[h]<;>simp[lenO]
     have hl4:lenA prog 45 v4=some (int l'.length):=by
      rcases hv4' with⟨h1,h⟩ | h
      ·subst h1;rw[h];simp
      ·rw[h];simp
     rw[ho1] at hdl
     have hap:=fun c hO=>OwnS.append1 (hp:=hp) (nx:=nx) (v:=σ 9) (xs:=xs) (P:=prog) (t:=88) (c:=c) hO el88 sz96 by96 ze96 rfl (by omega) (by unfold maxLen;unfold lim at hwn;omega) (by unfold lim at hwn;omega)
     by_cases hA:(opW sgs w).1=[]∧qw (opW sgs w).2=true
     ·have hS:altS w l'=some (cAll,l'):=by unfold altS;rw[if_pos hA]
      have he':altN ws.length ws=(altN f' l').map ((l++[cAll])++·):=by
       rw[he];simp only[altN,hS];cases altN f' l'<;>simp
      have hap1:=hap [str qX,int 0,int 0,int 0,int 0,.nil,int 0,int 0,int 0,int 0,.nil] hO
      obtain⟨hA1,hA2⟩:=hA
      simp only[qX] at hap1
      simp[h4',b0,hor,hrow,hop,hopn,hs1',hA1,hA2,hap1,zw,zJ,zd,zl,zc]
      have n0:¬0=nx:=by omega
      have n1:¬0=nx+1:=by omega
      have n2:¬0=nx+2:=by omega
      have hk0:=fun hp'=>qu hO hp' 0 hO0
      exact⟨yu (v4:=v4) (c:=cAll) (f':=f') (l':=l') (l:=l) (xs:=xs) (by omega) (by omega) hdl (by simp) hv4' (by simpa using OwnS.after) (by simp<;>omega) rfl hxs (by simp) (by simp[hk0,n0,n1,n2,b0]) he',by simpa[lenO] using hmu⟩
     have n0:¬0=nx:=by omega
     have n1:¬0=nx+1:=by omega
     have n2:¬0=nx+2:=by omega
     have hk0:=fun hp'=>qu hO hp' 0 hO0
     by_cases hE:(opW sgs w).1=[]
     ·have hE1:((opW sgs w).1==[])=true:=by simpa using hE
      have hE2:(opW sgs w).1.isEmpty=true:=by simpa using hE
      have hE3:((opW sgs w).1 != [])=false:=by simpa using hE
      have hOp:qw (opW sgs w).2=false:=by
       cases h:qw (opW sgs w).2
       ·rfl
       ·exact absurd ⟨hE,h⟩ hA
      have hrp:=fun hp' nx'=>hrd (opW sgs w).2 hrl2 hp' nx'
      simp only[qP,Part.enc] at hrp
      cases hok:(zo (opW sgs w).2).2
      ·have hS:altS w l'=none:=by unfold altS;rw[if_neg hA,if_neg (fun h=>h.1 hE),if_neg (by rw[hok];simp)]
       have he':altN ws.length ws=none:=by rw[he];simp only[altN,hS];rfl
       rw[he'] at hval
       simp[h4',b0,hor,hrow,hop,hopn,hs1',hE1,hE2,hE3,hOp,hrp,hok,zw,zJ,hval,encM,zx,f66]
      ·have hS:altS w l'=some (cOf (opW sgs w).1 (zo (opW sgs w).2).1,l'):=by unfold altS;rw[if_neg hA,if_neg (fun h=>h.1 hE),if_pos hok]
       have he':altN ws.length ws=(altN f' l').map ((l++[cOf (opW sgs w).1 (zo (opW sgs w).2).1])++·):=by
        rw[he];simp only[altN,hS];cases altN f' l'<;>simp
       have hap2:=OwnS.append1 (P:=prog) (t:=88) (c:=[str (opW sgs w).1,int (zo (opW sgs w).2).1.n0,int (zo (opW sgs w).2).1.n1,int (zo (opW sgs w).2).1.n2,int (zo (opW sgs w).2).1.has,.sl 1 (encT (zo (opW sgs w).2).1.pre),int 0,int 0,int 0,int 0,.nil]) (hO.more (some ⟨94,5,false,[(zo (opW sgs w).2).1.enc]⟩)) el88 sz96 by96 ze96 rfl (by omega) (by unfold maxLen;unfold lim at hwn;omega) (by unfold lim at hwn;omega)
       simp only[Part.enc] at hap2
       simp[h4',b0,hor,hrow,hop,hopn,hs1',hE1,hE2,hE3,hOp,hrp,hok,hap2,zw,zJ,zd,zl,zc]
       exact⟨yu (v4:=v4) (c:=cOf (opW sgs w).1 (zo (opW sgs w).2).1) (f':=f') (l':=l') (l:=l) (xs:=xs) (by omega) (by omega) hdl (by simp) hv4' (by simpa using OwnS.after) (by simp<;>omega) rfl hxs (by simp) (by simp[hk0,n0,n1,n2,b0]) he',by simpa[lenO] using hmu⟩
     have hE1:((opW sgs w).1==[])=false:=by simpa using hE
     have hE2:(opW sgs w).1.isEmpty=false:=by simpa using hE
     have hE3:((opW sgs w).1 != [])=true:=by simpa using hE
     by_cases hR:(opW sgs w).2=[]
     ·have hR1:((opW sgs w).2==[])=true:=by simpa using hR
      have hR2:(opW sgs w).2.isEmpty=true:=by simpa using hR
      by_cases hL:l'=[]
      ·have hLz:l'.length=0:=by rw[hL];rfl
       have hLp:¬0<l'.length:=by omega
       have hLq:¬(0:Int)<(l'.length:Int):=by omega
       have hrp:=fun hp' nx'=>hrd (opW sgs w).2 hrl2 hp' nx'
       simp only[qP,Part.enc] at hrp
       cases hok:(zo (opW sgs w).2).2
       ·have hS:altS w l'=none:=by unfold altS;rw[if_neg hA,if_neg (fun h=>h.2.2 hL),if_neg (by rw[hok];simp)]
        have he':altN ws.length ws=none:=by rw[he];simp only[altN,hS];rfl
        rw[he'] at hval
        simp[h4',b0,hor,hrow,hop,hopn,hs1',hE1,hE2,hE3,hR1,hR2,hl4,hLp,hLq,hrp,hok,zw,zJ,hval,encM,zx,f66]
       ·have hS:altS w l'=some (cOf (opW sgs w).1 (zo (opW sgs w).2).1,l'):=by unfold altS;rw[if_neg hA,if_neg (fun h=>h.2.2 hL),if_pos hok]
        have he':altN ws.length ws=(altN f' l').map ((l++[cOf (opW sgs w).1 (zo (opW sgs w).2).1])++·):=by
         rw[he];simp only[altN,hS];cases altN f' l'<;>simp
        have hap2:=OwnS.append1 (P:=prog) (t:=88) (c:=[str (opW sgs w).1,int (zo (opW sgs w).2).1.n0,int (zo (opW sgs w).2).1.n1,int (zo (opW sgs w).2).1.n2,int (zo (opW sgs w).2).1.has,.sl 1 (encT (zo (opW sgs w).2).1.pre),int 0,int 0,int 0,int 0,.nil]) (hO.more (some ⟨94,5,false,[(zo (opW sgs w).2).1.enc]⟩)) el88 sz96 by96 ze96 rfl (by omega) (by unfold maxLen;unfold lim at hwn;omega) (by unfold lim at hwn;omega)
        simp only[Part.enc] at hap2
        simp[h4',b0,hor,hrow,hop,hopn,hs1',hE1,hE2,hE3,hR1,hR2,hl4,hLp,hLq,hrp,hok,hap2,zw,zJ,zd,zl,zc]
        exact⟨yu (v4:=v4) (c:=cOf (opW sgs w).1 (zo (opW sgs w).2).1) (f':=f') (l':=l') (l:=l) (xs:=xs) (by omega) (by omega) hdl (by simp) hv4' (by simpa using OwnS.after) (by simp<;>omega) rfl hxs (by simp) (by simp[hk0,n0,n1,n2,b0]) he',by simpa[lenO] using hmu⟩
      ·obtain⟨r,l2,rfl⟩:∃r l2,l'=r::l2:=by
        cases l' with
        | nil=>exact absurd rfl hL
        | cons r l2=>exact⟨r,l2,rfl⟩
       have hv:v4=.own 0 (o+1) (l2.length+1):=by
        rcases hv4' with⟨h,_⟩ | h
        ·cases h
        ·rw[h,←ho1];rfl
       subst hv
       simp only[List.length_cons] at hf hxl ho h4' hs1' ho1 hdl hmu
       have hol2:o+1<ws.length:=by omega
       have hor2:o+1<rows.length:=by omega
       rw[←ho1,List.drop_eq_getElem_cons hol2] at hdl
       injection hdl with hdw2 hdl2
       have hrow2:rows[o+1]=[str r]:=by rw[hat (o+1) hol2 hor2,hdw2]
       have ho2:o+1+1=ws.length - l2.length:=by omega
       obtain⟨v5,hv5⟩:∃v5,(if l2.length=0 then PV.sl 1 [] else .own 0 (o+1+1) l2.length)=v5:=⟨_,rfl⟩
       have hs2':=sl1 hp rows (o+1) l2.length b0
       rw[hv5] at hs2'
       have hv5':l2=[]∧v5=.sl 1 []∨v5=.own 0 (ws.length - l2.length) l2.length:=by
        rw[←hv5,←ho2]
        by_cases h:l2.length=0
        ·exact .inl ⟨List.length_eq_zero_iff.1 h,if_pos h⟩
        ·exact .inr (if_neg h)
       have hmu5:lenO v5<l2.length+1+1:=by rcases hv5' with⟨_,h⟩ | h<;>rw[h]<;>simp[lenO];omega
       rw[ho2] at hdl2
       have hpos:(0:Int)<(l2.length:Int)+1:=by omega
       have hpos2:(0:Int)<(l2.length:Int)+1+1:=by omega
       have hrp:=fun hp' nx'=>hrd r (hwl r (by rw[←hdw2];exact List.getElem_mem hol2)) hp' nx'
       simp only[qP,Part.enc] at hrp
       cases hok:(zo r).2
       ·have hS:altS w (r::l2)=none:=by unfold altS;rw[if_neg hA,if_pos ⟨hE,hR,by simp⟩];simp only[hok];rfl
        have he':altN ws.length ws=none:=by rw[he];simp only[altN,hS];rfl
        rw[he'] at hval
        simp[h4',b0,hor,hrow,hop,hopn,hs1',hs2',hor2,hrow2,hE1,hE2,hE3,hR1,hR2,hpos,hpos2,hrp,hok,zw,zJ,hval,encM,zx,f66]
       ·have hS:altS w (r::l2)=some (cOf (opW sgs w).1 (zo r).1,l2):=by unfold altS;rw[if_neg hA,if_pos ⟨hE,hR,by simp⟩];simp only[hok,if_true]
        have he':altN ws.length ws=(altN f' l2).map ((l++[cOf (opW sgs w).1 (zo r).1])++·):=by
         rw[he];simp only[altN,hS];cases altN f' l2<;>simp
        have hap2:=OwnS.append1 (P:=prog) (t:=88) (c:=[str (opW sgs w).1,int (zo r).1.n0,int (zo r).1.n1,int (zo r).1.n2,int (zo r).1.has,.sl 1 (encT (zo r).1.pre),int 0,int 0,int 0,int 0,.nil]) (hO.more (some ⟨94,5,false,[(zo r).1.enc]⟩)) el88 sz96 by96 ze96 rfl (by omega) (by unfold maxLen;unfold lim at hwn;omega) (by unfold lim at hwn;omega)
        simp only[Part.enc] at hap2
        simp[h4',b0,hor,hrow,hop,hopn,hs1',hs2',hor2,hrow2,hE1,hE2,hE3,hR1,hR2,hpos,hpos2,hrp,hok,hap2,zw,zJ,zd,zl,zc]
        exact⟨yu (v4:=v5) (c:=cOf (opW sgs w).1 (zo r).1) (f':=f') (l':=l2) (l:=l) (xs:=xs) (by omega) (by omega) hdl2 (by simp) hv5' (by simpa using OwnS.after) (by simp<;>omega) rfl hxs (by simp) (by simp[hk0,n0,n1,n2,b0]) he',by simpa[lenO] using hmu5⟩
     ·have hR1:((opW sgs w).2==[])=false:=by simpa using hR
      have hR2:(opW sgs w).2.isEmpty=false:=by simpa using hR
      have hrp:=fun hp' nx'=>hrd (opW sgs w).2 hrl2 hp' nx'
      simp only[qP,Part.enc] at hrp
      cases hok:(zo (opW sgs w).2).2
      ·have hS:altS w l'=none:=by unfold altS;rw[if_neg hA,if_neg (fun h=>hR h.2.1),if_neg (by rw[hok];simp)]
       have he':altN ws.length ws=none:=by rw[he];simp only[altN,hS];rfl
       rw[he'] at hval
       simp[h4',b0,hor,hrow,hop,hopn,hs1',hE1,hE2,hE3,hR1,hR2,hrp,hok,zw,zJ,hval,encM,zx,f66]
      ·have hS:altS w l'=some (cOf (opW sgs w).1 (zo (opW sgs w).2).1,l'):=by unfold altS;rw[if_neg hA,if_neg (fun h=>hR h.2.1),if_pos hok]
       have he':altN ws.length ws=(altN f' l').map ((l++[cOf (opW sgs w).1 (zo (opW sgs w).2).1])++·):=by
        rw[he];simp only[altN,hS];cases altN f' l'<;>simp
       have hap2:=OwnS.append1 (P:=prog) (t:=88) (c:=[str (opW sgs w).1,int (zo (opW sgs w).2).1.n0,int (zo (opW sgs w).2).1.n1,int (zo (opW sgs w).2).1.n2,int (zo (opW sgs w).2).1.has,.sl 1 (encT (zo (opW sgs w).2).1.pre),int 0,int 0,int 0,int 0,.nil]) (hO.more (some ⟨94,5,false,[(zo (opW sgs w).2).1.enc]⟩)) el88 sz96 by96 ze96 rfl (by omega) (by unfold maxLen;unfold lim at hwn;omega) (by unfold lim at hwn;omega)
       simp only[Part.enc] at hap2
       simp[h4',b0,hor,hrow,hop,hopn,hs1',hE1,hE2,hE3,hR1,hR2,hrp,hok,hap2,zw,zJ,zd,zl,zc]
       exact⟨yu (v4:=v4) (c:=cOf (opW sgs w).1 (zo (opW sgs w).2).1) (f':=f') (l':=l') (l:=l) (xs:=xs) (by omega) (by omega) hdl (by simp) hv4' (by simpa using OwnS.after) (by simp<;>omega) rfl hxs (by simp) (by simp[hk0,n0,n1,n2,b0]) he',by simpa[lenO] using hmu⟩
  ·have h33:((ws.length:Int)==3)=false:=by simp;omega
   simp[hb,h33]
   refine EvC_loop (LoopI ws rows) (fun st=>lenO (st.σ 4)) ⟨ws.length,ws,[],[],Nat.le_refl _,by simp,by simp,.inr (by simp;try omega),.inl ⟨by simp,rfl⟩,by simp,rfl,by simp,by simpa using hb,by simp⟩ ?_
   clear hdel hfr hsp
   rintro⟨σ,hp,nx⟩ ⟨f,rest,l,xs,hf,hxl,hdr,h4,hO,hO0,hxs,hnx,b0,he⟩
   simp only at h4 hO hO0 hnx b0
   cases rest with
   | nil =>
     rw[altN_nil] at he
     simp only[Option.map_some,List.append_nil] at he
     rw[he] at hval
     rw[hval]
     have hxl2:xs.length=l.length:=by have:=congrArg List.length hxs;simpa[encM] using this
     have hb1:(decide ((0:Int)<(xs.length:Int)))=!l.isEmpty:=by
      rw[hxl2];cases l<;>simp
     have hb2:(decide (0<xs.length))=!l.isEmpty:=by
      rw[hxl2];cases l<;>simp
     have h4':σ 4=.sl 1 []∨σ 4=.own 0 ws.length 0:=by
      rcases h4 with⟨_,h4⟩ | h4
      ·exact .inl h4
      ·exact .inr (by simpa using h4)
     rcases hO with⟨h9,rfl⟩ | ⟨id,hid,h9,hb9⟩
     ·simp[encM] at hxs
      subst hxs
      rcases h4' with h4' | h4'<;>simp[h4',h9,zx,encM,f66]
     ·rcases h4' with h4' | h4'<;>simp[h4',h9,hb9,hb1,hb2,hxs,zx,f66]
   | cons w l' =>
     obtain⟨f',rfl⟩:∃f',f=f'+1:=⟨f - 1,by simp at hf;omega⟩
     simp only[List.length_cons] at hf hxl hdr h4
     obtain⟨o,ho⟩:∃o,ws.length - (l'.length+1)=o:=⟨_,rfl⟩
     rw[ho] at hdr h4
     have h4':σ 4=.own 0 o (l'.length+1):=by
      rcases h4 with⟨h,_⟩ | h
      ·cases h
      ·exact h
     have hol:o<ws.length:=by omega
     have hor:o<rows.length:=by omega
     rw[List.drop_eq_getElem_cons hol] at hdr
     injection hdr with hdw hdl
     have hrow:rows[o]=[str w]:=by rw[hat o hol hor,hdw]
     have hww:w.length+1≤lim:=hwl w (by rw[←hdw];exact List.getElem_mem hol)
     have hop:=fun hp' nx'=>FSP_call opP w hp' nx' (by omega) rfl
     simp only[opP] at hop
     have hrl2:(opW sgs w).2.length+1≤lim:=by have:=xo sgs w;omega
     have hopn:=fun hp' nx'=>wi qw (opW sgs w).2 hp' nx' (by omega)
     obtain⟨v4,hv4⟩:∃v4,(if l'.length=0 then PV.sl 1 [] else .own 0 (o+1) l'.length)=v4:=⟨_,rfl⟩
     have hs1:=fun hp' (hh:hp' 0=some _)=>sl1 hp' rows o l'.length hh
     rw[hv4] at hs1
     have hs1':=hs1 hp b0
     have ho1:o+1=ws.length - l'.length:=by omega
     have hv4':l'=[]∧v4=.sl 1 []∨v4=.own 0 (ws.length - l'.length) l'.length:=by
      rw[←hv4,←ho1]
      by_cases h:l'.length=0
      ·exact .inl ⟨List.length_eq_zero_iff.1 h,if_pos h⟩
      ·exact .inr (if_neg h)
     have hmu:lenO v4<l'.length+1:=by rcases hv4' with⟨_,h⟩ | h<;>rw[h]<;>simp[lenO]
     have hl4:lenA prog 45 v4=some (int l'.length):=by
      rcases hv4' with⟨h1,h⟩ | h
      ·subst h1;rw[h];simp
      ·rw[h];simp
     rw[ho1] at hdl
     have hap:=fun c hO=>OwnS.append1 (hp:=hp) (nx:=nx) (v:=σ 9) (xs:=xs) (P:=prog) (t:=88) (c:=c) hO el88 sz96 by96 ze96 rfl (by omega) (by unfold maxLen;unfold lim at hwn;omega) (by unfold lim at hwn;omega)
     by_cases hA:(opW sgs w).1=[]∧qw (opW sgs w).2=true
     ·have hS:altS w l'=some (cAll,l'):=by unfold altS;rw[if_pos hA]
      have he':altN ws.length ws=(altN f' l').map ((l++[cAll])++·):=by
       rw[he];simp only[altN,hS];cases altN f' l'<;>simp
      have hap1:=hap [str qX,int 0,int 0,int 0,int 0,.nil,int 0,int 0,int 0,int 0,.nil] hO
      obtain⟨hA1,hA2⟩:=hA
      simp only[qX] at hap1
      simp[h4',b0,hor,hrow,hop,hopn,hs1',hA1,hA2,hap1,zw,zJ,zd,zl,zc]
      have n0:¬0=nx:=by omega
      have n1:¬0=nx+1:=by omega
      have n2:¬0=nx+2:=by omega
      have hk0:=fun hp'=>qu hO hp' 0 hO0
      exact⟨yu (v4:=v4) (c:=cAll) (f':=f') (l':=l') (l:=l) (xs:=xs) (by omega) (by omega) hdl (by simp) hv4' (by simpa using OwnS.after) (by simp<;>omega) rfl hxs (by simp) (by simp[hk0,n0,n1,n2,b0]) he',by simpa[lenO] using hmu⟩
     have n0:¬0=nx:=by omega
     have n1:¬0=nx+1:=by omega
     have n2:¬0=nx+2:=by omega
     have hk0:=fun hp'=>qu hO hp' 0 hO0
     by_cases hE:(opW sgs w).1=[]
     ·have hE1:((opW sgs w).1==[])=true:=by simpa using hE
      have hE2:(opW sgs w).1.isEmpty=true:=by simpa using hE
      have hE3:((opW sgs w).1 != [])=false:=by simpa using hE
      have hOp:qw (opW sgs w).2=false:=by
       cases h:qw (opW sgs w).2
       ·rfl
       ·exact absurd ⟨hE,h⟩ hA
      have hrp:=fun hp' nx'=>hrd (opW sgs w).2 hrl2 hp' nx'
      simp only[qP,Part.enc] at hrp
      cases hok:(zo (opW sgs w).2).2
      ·have hS:altS w l'=none:=by unfold altS;rw[if_neg hA,if_neg (fun h=>h.1 hE),if_neg (by rw[hok];simp)]
       have he':altN ws.length ws=none:=by rw[he];simp only[altN,hS];rfl
       rw[he'] at hval
       simp[h4',b0,hor,hrow,hop,hopn,hs1',hE1,hE2,hE3,hOp,hrp,hok,zw,zJ,hval,encM,zx,f66]
      ·have hS:altS w l'=some (cOf (opW sgs w).1 (zo (opW sgs w).2).1,l'):=by unfold altS;rw[if_neg hA,if_neg (fun h=>h.1 hE),if_pos hok]
       have he':altN ws.length ws=(altN f' l').map ((l++[cOf (opW sgs w).1 (zo (opW sgs w).2).1])++·):=by
        rw[he];simp only[altN,hS];cases altN f' l'<;>simp
       have hap2:=OwnS.append1 (P:=prog) (t:=88) (c:=[str (opW sgs w).1,int (zo (opW sgs w).2).1.n0,int (zo (opW sgs w).2).1.n1,int (zo (opW sgs w).2).1.n2,int (zo (opW sgs w).2).1.has,.sl 1 (encT (zo (opW sgs w).2).1.pre),int 0,int 0,int 0,int 0,.nil]) (hO.more (some ⟨94,5,false,[(zo (opW sgs w).2).1.enc]⟩)) el88 sz96 by96 ze96 rfl (by omega) (by unfold maxLen;unfold lim at hwn;omega) (by unfold lim at hwn;omega)
       simp only[Part.enc] at hap2
       simp[h4',b0,hor,hrow,hop,hopn,hs1',hE1,hE2,hE3,hOp,hrp,hok,hap2,zw,zJ,zd,zl,zc]
       exact⟨yu (v4:=v4) (c:=cOf (opW sgs w).1 (zo (opW sgs w).2).1) (f':=f') (l':=l') (l:=l) (xs:=xs) (by omega) (by omega) hdl (by simp) hv4' (by simpa using OwnS.after) (by simp<;>omega) rfl hxs (by simp) (by simp[hk0,n0,n1,n2,b0]) he',by simpa[lenO] using hmu⟩
     have hE1:((opW sgs w).1==[])=false:=by simpa using hE
     have hE2:(opW sgs w).1.isEmpty=false:=by simpa using hE
     have hE3:((opW sgs w).1 != [])=true:=by simpa using hE
     by_cases hR:(opW sgs w).2=[]
     ·have hR1:((opW sgs w).2==[])=true:=by simpa using hR
      have hR2:(opW sgs w).2.isEmpty=true:=by simpa using hR
      by_cases hL:l'=[]
      ·have hLz:l'.length=0:=by rw[hL];rfl
       have hLp:¬0<l'.length:=by omega
       have hLq:¬(0:Int)<(l'.length:Int):=by omega
       have hrp:=fun hp' nx'=>hrd (opW sgs w).2 hrl2 hp' nx'
       simp only[qP,Part.enc] at hrp
       cases hok:(zo (opW sgs w).2).2
       ·have hS:altS w l'=none:=by unfold altS;rw[if_neg hA,if_neg (fun h=>h.2.2 hL),if_neg (by rw[hok];simp)]
        have he':altN ws.length ws=none:=by rw[he];simp only[altN,hS];rfl
        rw[he'] at hval
        simp[h4',b0,hor,hrow,hop,hopn,hs1',hE1,hE2,hE3,hR1,hR2,hl4,hLp,hLq,hrp,hok,zw,zJ,hval,encM,zx,f66]
       ·have hS:altS w l'=some (cOf (opW sgs w).1 (zo (opW sgs w).2).1,l'):=by unfold altS;rw[if_neg hA,if_neg (fun h=>h.2.2 hL),if_pos hok]
        have he':altN ws.length ws=(altN f' l').map ((l++[cOf (opW sgs w).1 (zo (opW sgs w).2).1])++·):=by
         rw[he];simp only[altN,hS];cases altN f' l'<;>simp
        have hap2:=OwnS.append1 (P:=prog) (t:=88) (c:=[str (opW sgs w).1,int (zo (opW sgs w).2).1.n0,int (zo (opW sgs w).2).1.n1,int (zo (opW sgs w).2).1.n2,int (zo (opW sgs w).2).1.has,.sl 1 (encT (zo (opW sgs w).2).1.pre),int 0,int 0,int 0,int 0,.nil]) (hO.more (some ⟨94,5,false,[(zo (opW sgs w).2).1.enc]⟩)) el88 sz96 by96 ze96 rfl (by omega) (by unfold maxLen;unfold lim at hwn;omega) (by unfold lim at hwn;omega)
        simp only[Part.enc] at hap2
        simp[h4',b0,hor,hrow,hop,hopn,hs1',hE1,hE2,hE3,hR1,hR2,hl4,hLp,hLq,hrp,hok,hap2,zw,zJ,zd,zl,zc]
        exact⟨yu (v4:=v4) (c:=cOf (opW sgs w).1 (zo (opW sgs w).2).1) (f':=f') (l':=l') (l:=l) (xs:=xs) (by omega) (by omega) hdl (by simp) hv4' (by simpa using OwnS.after) (by simp<;>omega) rfl hxs (by simp) (by simp[hk0,n0,n1,n2,b0]) he',by simpa[lenO] using hmu⟩
      ·obtain⟨r,l2,rfl⟩:∃r l2,l'=r::l2:=by
        cases l' with
        | nil=>exact absurd rfl hL
        | cons r l2=>exact⟨r,l2,rfl⟩
       have hv:v4=.own 0 (o+1) (l2.length+1):=by
        rcases hv4' with⟨h,_⟩ | h
        ·cases h
        ·rw[h,←ho1];rfl
       subst hv
       simp only[List.length_cons] at hf hxl ho h4' hs1' ho1 hdl hmu
       have hol2:o+1<ws.length:=by omega
       have hor2:o+1<rows.length:=by omega
       rw[←ho1,List.drop_eq_getElem_cons hol2] at hdl
       injection hdl with hdw2 hdl2
       have hrow2:rows[o+1]=[str r]:=by rw[hat (o+1) hol2 hor2,hdw2]
       have ho2:o+1+1=ws.length - l2.length:=by omega
       obtain⟨v5,hv5⟩:∃v5,(if l2.length=0 then PV.sl 1 [] else .own 0 (o+1+1) l2.length)=v5:=⟨_,rfl⟩
       have hs2':=sl1 hp rows (o+1) l2.length b0
       rw[hv5] at hs2'
       have hv5':l2=[]∧v5=.sl 1 []∨v5=.own 0 (ws.length - l2.length) l2.length:=by
        rw[←hv5,←ho2]
        by_cases h:l2.length=0
        ·exact .inl ⟨List.length_eq_zero_iff.1 h,if_pos h⟩
        ·exact .inr (if_neg h)
       have hmu5:lenO v5<l2.length+1+1:=by rcases hv5' with⟨_,h⟩ | h<;>rw[h]<;>simp[lenO];omega
       rw[ho2] at hdl2
       have hpos:(0:Int)<(l2.length:Int)+1:=by omega
       have hpos2:(0:Int)<(l2.length:Int)+1+1:=by omega
       have hrp:=fun hp' nx'=>hrd r (hwl r (by rw[←hdw2];exact List.getElem_mem hol2)) hp' nx'
       simp only[qP,Part.enc] at hrp
       cases hok:(zo r).2
       ·have hS:altS w (r::l2)=none:=by unfold altS;rw[if_neg hA,if_pos ⟨hE,hR,by simp⟩];simp only[hok];rfl
        have he':altN ws.length ws=none:=by rw[he];simp only[altN,hS];rfl
        rw[he'] at hval
        simp[h4',b0,hor,hrow,hop,hopn,hs1',hs2',hor2,hrow2,hE1,hE2,hE3,hR1,hR2,hpos,hpos2,hrp,hok,zw,zJ,hval,encM,zx,f66]
       ·have hS:altS w (r::l2)=some (cOf (opW sgs w).1 (zo r).1,l2):=by unfold altS;rw[if_neg hA,if_pos ⟨hE,hR,by simp⟩];simp only[hok,if_true]
        have he':altN ws.length ws=(altN f' l2).map ((l++[cOf (opW sgs w).1 (zo r).1])++·):=by
         rw[he];simp only[altN,hS];cases altN f' l2<;>simp
        have hap2:=OwnS.append1 (P:=prog) (t:=88) (c:=[str (opW sgs w).1,int (zo r).1.n0,int (zo r).1.n1,int (zo r).1.n2,int (zo r).1.has,.sl 1 (encT (zo r).1.pre),int 0,int 0,int 0,int 0,.nil]) (hO.more (some ⟨94,5,false,[(zo r).1.enc]⟩)) el88 sz96 by96 ze96 rfl (by omega) (by unfold maxLen;unfold lim at hwn;omega) (by unfold lim at hwn;omega)
        simp only[Part.enc] at hap2
        simp[h4',b0,hor,hrow,hop,hopn,hs1',hs2',hor2,hrow2,hE1,hE2,hE3,hR1,hR2,hpos,hpos2,hrp,hok,hap2,zw,zJ,zd,zl,zc]
        exact⟨yu (v4:=v5) (c:=cOf (opW sgs w).1 (zo r).1) (f':=f') (l':=l2) (l:=l) (xs:=xs) (by omega) (by omega) hdl2 (by simp) hv5' (by simpa using OwnS.after) (by simp<;>omega) rfl hxs (by simp) (by simp[hk0,n0,n1,n2,b0]) he',by simpa[lenO] using hmu5⟩
     ·have hR1:((opW sgs w).2==[])=false:=by simpa using hR
      have hR2:(opW sgs w).2.isEmpty=false:=by simpa using hR
      have hrp:=fun hp' nx'=>hrd (opW sgs w).2 hrl2 hp' nx'
      simp only[qP,Part.enc] at hrp
      cases hok:(zo (opW sgs w).2).2
      ·have hS:altS w l'=none:=by unfold altS;rw[if_neg hA,if_neg (fun h=>hR h.2.1),if_neg (by rw[hok];simp)]
       have he':altN ws.length ws=none:=by rw[he];simp only[altN,hS];rfl
       rw[he'] at hval
       simp[h4',b0,hor,hrow,hop,hopn,hs1',hE1,hE2,hE3,hR1,hR2,hrp,hok,zw,zJ,hval,encM,zx,f66]
      ·have hS:altS w l'=some (cOf (opW sgs w).1 (zo (opW sgs w).2).1,l'):=by unfold altS;rw[if_neg hA,if_neg (fun h=>hR h.2.1),if_pos hok]
       have he':altN ws.length ws=(altN f' l').map ((l++[cOf (opW sgs w).1 (zo (opW sgs w).2).1])++·):=by
        rw[he];simp only[altN,hS];cases altN f' l'<;>simp
       have hap2:=OwnS.append1 (P:=prog) (t:=88) (c:=[str (opW sgs w).1,int (zo (opW sgs w).2).1.n0,int (zo (opW sgs w).2).1.n1,int (zo (opW sgs w).2).1.n2,int (zo (opW sgs w).2).1.has,.sl 1 (encT (zo (opW sgs w).2).1.pre),int 0,int 0,int 0,int 0,.nil]) (hO.more (some ⟨94,5,false,[(zo (opW sgs w).2).1.enc]⟩)) el88 sz96 by96 ze96 rfl (by omega) (by unfold maxLen;unfold lim at hwn;omega) (by unfold lim at hwn;omega)
       simp only[Part.enc] at hap2
       simp[h4',b0,hor,hrow,hop,hopn,hs1',hE1,hE2,hE3,hR1,hR2,hrp,hok,hap2,zw,zJ,zd,zl,zc]
       exact⟨yu (v4:=v4) (c:=cOf (opW sgs w).1 (zo (opW sgs w).2).1) (f':=f') (l':=l') (l:=l) (xs:=xs) (by omega) (by omega) hdl (by simp) hv4' (by simpa using OwnS.after) (by simp<;>omega) rfl hxs (by simp) (by simp[hk0,n0,n1,n2,b0]) he',by simpa[lenO] using hmu⟩
theorem alternative_sound:za prog 66 (zf false [] (FSP1 altP)) :=
 xN (fn:=f66) goodalt ⟨_,func66,by kernel_rfl,rfl,by kernel_rfl⟩ false [] _ fun args r h w S vs hz=>by
  obtain⟨l,rfl,hp,rfl⟩:=ze h
  obtain⟨r0,h1,h2⟩:=alternative_eval l hp
  exact⟨_,r0,hz,by simp[f66],h1,h2⟩
noncomputable def covB (s:Str) (c:Cut):Bool:=decide (cmpC s.lo c≤0)&&(s.endless||decide (cmpC c s.hi<0))
def Str.small (s:Str):Prop:=s.lo.v.small∧s.hi.v.small
theorem vR (x y:Cut) (hp:Hp) (nx:Nat) (h1:x.v.small) (h2:y.v.small):zC [.g cpat,.g cpat] (FCC fun v w=>int (cmpC v w)) [.agg x.enc,.agg y.enc] hp nx=some (int (cmpC x y),hp,nx):=cc_call x y (.agg x.enc) (.agg y.enc) hp nx (cutfix x) (cutfix y) (by simp only[zi,cutfrz]) h1 h2
noncomputable abbrev Ccov1:Ctx:=zF prog [(108,zC [.g cpat,.g cpat] (FCC fun v w=>int (cmpC v w)))]
theorem goodcov1:AM.Good Ccov1 (fun g=>[108].contains g):=zm mixed ⟨yp,fun _=>qq _ _,trivial⟩
set_option maxRecDepth 100000 in
theorem cov1_sound:za prog 151 (hRun Ccov1 f151):=wx (code:=_) goodcov1 ⟨func151,by kernel_rfl,rfl,by kernel_rfl⟩
theorem cov1_run (s:Str) (c:Cut) (hs:s.small) (hc:c.v.small) (hp:Hp) (nx id:Nat) (hid:id<nx) (hh:hp id=some ⟨104,5,false,[c.enc]⟩) :
  hRun Ccov1 f151 [.agg s.enc,.ref id 0 0] hp nx=some (boo (covB s c),upd hp nx (some ⟨106,11,false,[s.enc]⟩),nx+1):=by
 unfold hRun
 rw[if_pos (by simp[f151])]
 refine ji rfl ?_
 have h1:=fun hp nx=>vR s.lo c hp nx hs.1 hc
 have h2:=fun hp nx=>vR c s.hi hp nx hc hs.2
 have e1:¬id=nx:=by omega
 simp only[Cut.enc] at h1 h2 hh
 by_cases ha:cmpC s.lo c≤0<;>cases hb:s.endless <;>
  simp[Str.enc,Cut.enc,h1,h2,hh,e1,ha,hb,covB,f151]
noncomputable def covI (c:Cut):Nat→List Str→Int
 | _,[]=>-1
 | k,s::l=>if covB s c=true then k else covI c (k+1) l
theorem covI_any (c:Cut):∀(l:List Str) (k:Nat),decide (0≤covI c k l)=l.any (covB · c)
 | [],k=>by simp[covI]
 | s::l,k=>by
   by_cases h:covB s c=true
   ·have e:covI c k (s::l)=k:=by simp only[covI,if_pos h]
    rw[e,List.any_cons,h];simp
   ·have e:covI c k (s::l)=covI c (k+1) l:=by simp only[covI,if_neg h]
    rw[e,covI_any c l (k+1),List.any_cons,Bool.eq_false_iff.2 h];rfl
noncomputable abbrev Ccix:Ctx:=zF prog [(151,hRun Ccov1 f151)]
theorem goodcix:AM.Good Ccix (fun g=>([]:List Nat).contains g):=zm mixed ⟨cov1_sound,by simp,trivial⟩
set_option maxRecDepth 100000 in
theorem cix_sound:za prog 196 (hRun Ccix f196):=wx (code:=_) goodcix ⟨func196,by kernel_rfl,rfl,by kernel_rfl⟩
def fnC (id:Nat):PV:=.fn (.func 151) [] [.ref id 0 0]
def KeepQ (r:PV) (hp:Hp) (nx:Nat) (x:PV) (hp':Hp) (nx':Nat):Prop:=x=r∧nx≤nx'∧∀j,j<nx→hp' j=hp j
theorem cix_run (l:List Str) (c:Cut) (hl:l.length≤lim) (hs:∀s∈l,s.small) (hc:c.v.small) (hp0:Hp) (nx0 id:Nat) (hid:id<nx0) (hh:hp0 id=some ⟨104,5,false,[c.enc]⟩) :
  ∃x hp' nx',hRun Ccix f196 [.sl 11 (encR l),fnC id] hp0 nx0=some (x,hp',nx')∧KeepQ (int (covI c 0 l)) hp0 nx0 x hp' nx':=by
 unfold hRun
 rw[if_pos (by simp[f196])]
 refine zN rfl ?_
 unfold lim at hl
 have hel:(encR l).length=l.length:=by simp[encR]
 simp[fnC,hel]
 refine zy (fun k σ hp nx=>σ 0=.sl 11 (encR l)∧σ 1=fnC id∧σ 7=int l.length∧σ 8=int k∧nx0≤nx∧(∀j,j<nx0→hp j=hp0 j)∧covI c 0 l=covI c k (l.drop k)) l.length ⟨by simp,by simp[fnC],by simp,by simp,Nat.le_refl _,fun _ _=>rfl,by simp⟩ ?_
 rintro k σ hp nx hk ⟨h0,h1,h7,h8,hnx,hfr,he⟩
 by_cases hlt:k<l.length
 ·have hw:IntKind.i64.wrap ((k:Int)+1)=(k:Int)+1:=zh (by omega) (by omega)
  have hrun:=cov1_run l[k] c (hs _ (List.getElem_mem hlt)) hc hp nx id (by omega) (by rw[hfr id hid];exact hh)
  have hke:∀h:k<(encR l).length,(encR l)[k]=l[k].enc:=fun h=>by simp[encR]
  simp only[Str.enc,Cut.enc,List.cons_append,List.nil_append] at hrun hke
  rw[List.drop_eq_getElem_cons hlt] at he
  simp only[covI] at he
  cases hz:covB l[k] c
  ·rw[hz,if_neg (by simp)] at he
   rw[hz] at hrun
   simp[h0,h1,h7,h8,fnC,hlt,hel,hke,hrun,hw]
   exact⟨hlt,by omega,fun j hj=>by rw[qd _ _ _ _ (by omega)];exact hfr j hj,he⟩
  ·rw[hz,if_pos rfl] at he
   rw[hz] at hrun
   simp[h0,h1,h7,h8,fnC,hlt,hel,hke,hrun,hw,f196]
   exact⟨by rw[he],by omega,fun j hj=>by rw[qd _ _ _ _ (by omega)];exact hfr j hj⟩
 ·obtain rfl:k=l.length:=by omega
  rw[List.drop_length] at he
  simp only[covI] at he
  simp[h0,h1,h7,h8,f196]
  exact⟨by rw[he],hnx,hfr⟩
noncomputable abbrev Cctn:Ctx:=zF prog [(196,hRun Ccix f196)]
theorem goodctn:AM.Good Cctn (fun g=>([]:List Nat).contains g):=zm mixed ⟨cix_sound,by simp,trivial⟩
set_option maxRecDepth 100000 in
theorem ctn_sound:za prog 150 (hRun Cctn f150):=wx (code:=_) goodctn ⟨func150,by kernel_rfl,rfl,by kernel_rfl⟩
noncomputable def covA (l:List Str) (c:Cut):Bool:=l.any (covB · c)
theorem ctn_run (l:List Str) (c:Cut) (hl:l.length≤lim) (hs:∀s∈l,s.small) (hc:c.v.small) (hp0:Hp) (nx0 id:Nat) (hid:id<nx0) (hh:hp0 id=some ⟨104,5,false,[c.enc]⟩) :
  ∃x hp' nx',hRun Cctn f150 [.sl 11 (encR l),fnC id] hp0 nx0=some (x,hp',nx')∧KeepQ (boo (covA l c)) hp0 nx0 x hp' nx':=by
 unfold hRun
 rw[if_pos (by simp[f150])]
 refine zN rfl ?_
 obtain⟨x,hp',nx',h1,h2,h3,h4⟩:=cix_run l c hl hs hc hp0 nx0 id hid hh
 subst h2
 have ha:=covI_any c l 0
 simp only[fnC] at h1
 simp[fnC,h1,ha,KeepQ,covA,h3,f150]
 exact h4
noncomputable abbrev Ccov:Ctx:=zF prog [(150,hRun Cctn f150)]
theorem goodcov:AM.Good Ccov (fun g=>([]:List Nat).contains g):=zm mixed ⟨ctn_sound,by simp,trivial⟩
def qW (l:List Str):Prop:=l.length≤lim∧∀s∈l,s.small
theorem strenc_inj {a b:Str} (h:a.enc=b.enc):a=b:=by
 obtain⟨⟨⟨a1,a2,a3,a4⟩,a5⟩,⟨⟨a6,a7,a8,a9⟩,a10⟩,a11⟩:=a
 obtain⟨⟨⟨b1,b2,b3,b4⟩,b5⟩,⟨⟨b6,b7,b8,b9⟩,b10⟩,b11⟩:=b
 simp only[Str.enc,Cut.enc,List.cons_append,List.nil_append,List.cons.injEq,and_true] at h
 obtain⟨h1,h2,h3,h4,h5,h6,h7,h8,h9,h10,h11⟩:=h
 injection h4 with _ h4
 injection h9 with _ h9
 rw[zG h1,zG h2,zG h3,w8 h4,jY h5,zG h6,zG h7,zG h8,w8 h9,jY h10,jY h11]
theorem yq {a b:List Str} (h:encR a=encR b):a=b:=ve (fun _ _ e=>strenc_inj e) h
noncomputable def FRC (f:List Str→Cut→PV):List PV→Option PV:=zH (α:=List Str×Cut) (fun a=>[.sl 11 (encR a.1),.agg a.2.enc]) (fun a=>qW a.1∧a.2.v.small) (fun a=>f a.1 a.2)
theorem rc_inj:∀a b:List Str×Cut,[PV.sl 11 (encR a.1),.agg a.2.enc]=[PV.sl 11 (encR b.1),.agg b.2.enc]→a=b:=by
 rintro⟨a1,a2⟩ ⟨b1,b2⟩ e
 simp only[List.cons.injEq,and_true] at e
 obtain⟨e1,e2⟩:=e
 injection e1 with _ e1
 injection e2 with e2
 rw[yq e1,jj e2]
theorem covers_eval (l:List Str) (c:Cut) (hl:qW l) (hc:c.v.small):zj Ccov f109 [.sl 11 (encR l),.agg c.enc]=some (boo (covA l c)):=by
 refine zb rfl ?_
 obtain⟨x,hp',nx',h1,h2,h3,h4⟩:=ctn_run l c hl.1 hl.2 hc (upd (fun _=>none) 0 (some ⟨104,5,false,[c.enc]⟩)) 1 0 (by omega) (by simp)
 subst h2
 simp only[fnC,Cut.enc] at h1
 simp[Cut.enc,h1,qi,f109]
theorem covers_sound:za prog 109 (zC [.s 11 spat,.g cpat] (FRC fun l c=>boo (covA l c))) :=
 zP (fn:=f109) goodcov ⟨_,func109,by kernel_rfl,rfl,by kernel_rfl⟩ _ _ fun args r h=>by
  obtain⟨⟨l,c⟩,rfl,⟨h1,h2⟩,rfl⟩:=ze h
  exact⟨by simp[f109],_,covers_eval l c h1 h2,Stands.refl _⟩
end Go.Proofs.YtpeaooooimfihaaGreatDoor
