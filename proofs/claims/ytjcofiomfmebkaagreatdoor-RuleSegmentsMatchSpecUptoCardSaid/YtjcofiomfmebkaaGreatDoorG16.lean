/-
Words: operators, slices.DeleteFunc at texts.
-/
import Derived.Test.YtjcofiomfmebkaaGreatDoorG15
set_option maxRecDepth 8000
namespace Go.Proofs.YtjcofiomfmebkaaGreatDoor
open Go.Proofs.Tryz
open Go.RowKit Go.AM
def sgs:List (List UInt8):=[[62,61],[60,61],[62],[60],[61],[126],[94]]
def opW:List (List UInt8)→List UInt8→List UInt8×List UInt8
 | [],s=>([],s)
 | g::l,s=>if g.isPrefixOf s=true then (g,s.drop g.length) else opW l s
def opP (s:List UInt8):PV:=.tup [str (opW sgs s).1,str (opW sgs s).2]
noncomputable abbrev Cop:Ctx:=zC prog [(231,zd false [] (FTT cpP fun _ _=>True))]
theorem ztr:AM.Good Cop (fun g=>([]:List Nat).contains g):=zk mixed ⟨Ku,by simp,trivial⟩
theorem zbd (s:List UInt8) (h:s.length≤lim):zg Cop f191 [str s]=some (opP s):=by
 refine zb rfl ?_
 have hb:∀hp nx,zh prog hp nx 37 7 [(0,str [62,61]),(1,str [60,61]),(2,str [62]),(3,str [60]),(4,str [61]),(5,str [126]),(6,str [94])]=some (.own nx 0 7,upd hp nx (some ⟨9,1,true,zD sgs⟩),nx+1):=fun hp nx=>by
  simp[zh,zo,zf,sgs,str]
 simp[str] at hb
 simp[hb]
 refine zu (fun k σ hp nx=>σ 0=str s∧σ 8=.own 0 0 7∧σ 9=int 7∧σ 10=int k∧hp 0=some ⟨9,1,true,zD sgs⟩∧opW sgs s=opW (sgs.drop k) s) 7 ⟨by simp,by simp,by simp,by simp,by simp,by simp⟩ ?_
 rintro k σ hp nx hk ⟨h0,h8,h9,h10,b0,he⟩
 by_cases hlt:k<7
 ·have hl:k<sgs.length:=hlt
  have hgl:sgs[k].length≤lim:=by
   have:∀q∈sgs,q.length≤lim:=by decide
   exact this _ (List.getElem_mem hl)
  have hc:=fun hp nx=>zld s sgs[k] hp nx h hgl
  have hw:IntKind.i64.wrap ((k:Int)+1)=(k:Int)+1:=zc (by omega) (by omega)
  have hk7:(k:Int)<7:=by omega
  rw[List.drop_eq_getElem_cons hl] at he
  simp only[opW] at he
  by_cases hp:(sgs[k]).isPrefixOf s=true
  ·rw[if_pos hp] at he
   simp[h0,h8,h9,h10,b0,hk7,hlt,hl,hc,hp,hw,opP,he,qe,f191]
  ·rw[if_neg hp] at he
   have hp':(sgs[k]).isPrefixOf s=false:=Bool.eq_false_iff.2 hp
   simp[h0,h8,h9,h10,b0,hk7,hlt,hl,hc,hp',hw]
   exact⟨by omega,he⟩
 ·obtain rfl:k=7:=by omega
  rw[show sgs.drop 7=[] from rfl] at he
  simp only[opW] at he
  simp[h0,h8,h9,h10,opP,he,qe, f191]
theorem Xk:za prog 191 (zd false [] (FSP opP)) :=
 zL (fn:=f191) ztr ⟨_,func191,by kernel_rfl,rfl,by kernel_rfl⟩ false [] _ fun args r h=>by
  obtain⟨l,rfl,hp,rfl⟩:=ze h
  exact⟨by simp[f191],_,zbd l hp,zK _⟩
def emp (l:List UInt8):Bool:=l.isEmpty
theorem zac:za prog 189 (zd false [] (FS emp)) :=
 zL (fn:=f189) yl ⟨_,func189,by kernel_rfl,rfl,by kernel_rfl⟩ false [] _ fun args r h=>by
  obtain⟨l,rfl,hp,rfl⟩:=ze h
  exact⟨by simp[f189],_,zb rfl (by simp[qe,emp,f189]),zK _⟩
def zi1:Nat→List (List UInt8)→Int
 | _,[]=>-1
 | k,x::l=>if x=[] then k else zi1 (k+1) l
def fnE:PV:=.fn (.func 189) [] []
noncomputable def FIx:List PV→Option PV:=zJ (α:=List (List UInt8)) (fun l=>[.sl 1 (zD l),fnE]) yL (fun l=>int (zi1 0 l))
noncomputable abbrev zvS:Ctx:=zC prog [(189,zd false [] (FS emp))]
theorem zq0:AM.Good zvS (fun g=>([]:List Nat).contains g):=zk mixed ⟨zac,by simp,trivial⟩
theorem KO (l:List (List UInt8)) (h:yL l):zg zvS f61 [.sl 1 (zD l),fnE]=some (int (zi1 0 l)):=by
 refine zb rfl ?_
 obtain⟨hl,hps⟩:=h
 unfold lim at hl
 simp[fnE]
 refine zu (fun k σ hp nx=>σ 0=.sl 1 (zD l)∧σ 1=fnE∧σ 7=int l.length∧σ 8=int k∧zi1 0 l=zi1 k (l.drop k)) l.length ⟨by simp,by simp[fnE],by simp,by simp,by simp⟩ ?_
 rintro k σ hp nx hk ⟨h0,h1,h7,h8,he⟩
 by_cases hlt:k<l.length
 ·have hw:IntKind.i64.wrap ((k:Int)+1)=(k:Int)+1:=zc (by omega) (by omega)
  have hc:=fun hp' nx=>wO emp l[k] hp' nx (hps _ (List.getElem_mem hlt))
  rw[List.drop_eq_getElem_cons hlt] at he
  simp only[zi1] at he
  by_cases hz:l[k]=[]
  ·rw[if_pos hz] at he
   have hz':emp l[k]=true:=by simpa[emp] using hz
   simp[h0,h1,h7,h8,fnE,hlt,hc,hz',hw,he,qe,f61]
  ·rw[if_neg hz] at he
   have hz':emp l[k]=false:=by simpa[emp] using hz
   simp[h0,h1,h7,h8,fnE,hlt,hc,hz',hw]
   exact⟨hlt,he⟩
 ·obtain rfl:k=l.length:=by omega
  rw[List.drop_length] at he
  simp only[zi1] at he
  simp[h0,h1,h7,h8,he,qe,f61]
theorem zou:∀a b:List (List UInt8),[PV.sl 1 (zD a),fnE]=[PV.sl 1 (zD b),fnE]→a=b:=fun a b e=>by
 simp only[List.cons.injEq,and_true] at e
 injection e with _ e
 exact wt e
theorem Jy:za prog 61 (zd false [] FIx) :=
 zL (fn:=f61) zq0 ⟨_,func61,by kernel_rfl,rfl,by kernel_rfl⟩ false [] _ fun args r h=>by
  obtain⟨l,rfl,hp,rfl⟩:=ze h
  exact⟨by simp[f61],_,KO l hp,zK _⟩
theorem zov (l:List (List UInt8)) (hp:Hp) (nx id:Nat) (h:yL l) (hh:hp id=some (zaW l)):zd false [] FIx [.own id 0 l.length,fnE] hp nx=some (int (zi1 0 l),hp,nx):=by
 have ht:(zD l).take l.length=zD l:=List.take_of_length_le (by simp)
 refine zH (show zj hp [.own id 0 l.length,fnE]=some ([.sl 1 (zD l),fnE],upd hp id none) by
  have:hp id=some ⟨9,1,true,zD l⟩:=hh
  simp[fnE,this,ht]) (zm (enc:=fun l:List (List UInt8)=>[PV.sl 1 (zD l),fnE]) (a:=l) zou h) (.inl rfl)
def z7 (l:List (List UInt8)):List (List UInt8):=l.filter fun x=>!emp x
theorem zdn:∀(l:List (List UInt8)) (k:Nat),(zi1 k l=-1∧z7 l=l)∨∃i,∃h:i<l.length,zi1 k l=((k+i:Nat):Int)∧emp l[i]=true∧z7 (l.take i)=l.take i
 | [],k=>.inl ⟨rfl,rfl⟩
 | x::l,k=>by
   by_cases hx:x=[]
   ·exact .inr ⟨0,by simp,by simp[zi1,hx],by simp[emp,hx],by simp[z7]⟩
   ·have hx':emp x=false:=by simpa[emp] using hx
    rcases zdn l (k+1) with⟨h1,h2⟩ | ⟨i,h,h1,h2,h3⟩
    ·exact .inl ⟨by simp[zi1,hx,h1],by simp only[z7,List.filter_cons,hx'];simpa[z7] using h2⟩
    ·refine .inr ⟨i+1,by simpa using h,by simp only[zi1,if_neg hx,h1];congr 1;omega,by simpa using h2,?_⟩
     simp only[List.take_succ_cons,z7,List.filter_cons,hx']
     simpa[z7] using h3
theorem Z0 {l:List (List UInt8)} {j:Nat} (h:j<l.length):z7 (l.take (j+1))=if emp l[j]=true then z7 (l.take j) else z7 (l.take j)++[l[j]]:=by
 rw[List.take_succ_eq_append_getElem h]
 simp only[z7,List.filter_append,List.filter_cons,List.filter_nil]
 cases emp l[j]<;>simp
theorem KP (a b:List (List UInt8)):zD (a++b)=zD a++zD b:=by simp[zD]
theorem zlv {l:List (List UInt8)} {i:Nat} (h:i<l.length):zD l=zD (l.take i)++[str l[i]]::zD (l.drop (i+1)):=by
 rw[←Wf,←KP,←List.drop_eq_getElem_cons h,List.take_append_drop]
noncomputable abbrev Cdf:Ctx:=zC prog [(189,zd false [] (FS emp)),(61,zd false [] FIx)]
theorem zts:AM.Good Cdf (fun g=>([]:List Nat).contains g):=zk mixed ⟨zac,by simp,Jy,by simp,trivial⟩
set_option maxRecDepth 100000 in
theorem Jz:za prog 188 (yf Cdf f188):=zX (code:=_) zts ⟨func188,by kernel_rfl,rfl,by kernel_rfl⟩
def zvT (l:List (List UInt8)) (id:Nat) (hp:Hp) (nx:Nat) (x:PV) (hp':Hp) (nx':Nat):Prop:=x=.own id 0 (z7 l).length∧nx'=nx∧(∃pad,hp' id=some ⟨9,1,true,zD (z7 l)++pad⟩)∧∀j,j≠id→hp' j=hp j
theorem zi2 (l:List (List UInt8)) (hp0:Hp) (nx0 id:Nat) (h:yL l) (hh:hp0 id=some (zaW l)):∃x hp' nx',yf Cdf f188 [.own id 0 l.length,fnE] hp0 nx0=some (x,hp',nx')∧zvT l id hp0 nx0 x hp' nx':=by
 unfold yf
 rw[if_pos (by simp[f188])]
 refine zM rfl ?_
 have hix:=zov l hp0 nx0 id h hh
 obtain⟨hl,hps⟩:=h
 unfold lim at hl
 simp only[fnE] at hix
 have hb0:hp0 id=some ⟨9,1,true,zD l⟩:=hh
 rcases zdn l 0 with⟨e1,e2⟩ | ⟨i,hi,e1,e2,e3⟩
 ·rw[e1] at hix
  simp[fnE,hix,zvT,e2,f188]
  exact⟨[],by simpa using hb0⟩
 ·rw[e1] at hix
  have hi1:((i:Int)==-1)=false:=by simp
  have hwi:IntKind.i64.wrap ((i:Int)+1)=(i:Int)+1:=zc (by omega) (by omega)
  simp[fnE,hix,hi1,hwi]
  refine zu (fun k σ hp nx=>σ 0=.own id 0 l.length∧σ 1=fnE∧σ 5=int (z7 (l.take (i+1+k))).length∧σ 6=int ((i:Int)+1+k)∧nx=nx0∧(∀j,j≠id→hp j=hp0 j) ∧
    ∃mid,hp id=some ⟨9,1,true,zD (z7 (l.take (i+1+k)))++mid++zD (l.drop (i+1+k))⟩∧(z7 (l.take (i+1+k))).length+mid.length=i+1+k∧0<mid.length∧∀c∈mid,c.length=1) (l.length - (i+1))
   ⟨by simp,by simp[fnE],by simp[Z0 hi,e2,e3];omega,by simp,rfl,fun _ _=>rfl,[[str l[i]]],by simp[Z0 hi,e2,e3,hb0];exact zlv hi,by simp[Z0 hi,e2,e3];omega,by simp,by simp⟩ ?_
  rintro k σ hp nx hk ⟨h0,h1,h5,h6,rfl,hfr,mid,hb,hml,hm0,hm1⟩
  obtain⟨j,hj⟩:∃j,i+1+k=j:=⟨_,rfl⟩
  have h6':σ 6=int j:=by rw[h6];congr 2;omega
  rw[hj] at h5 hb hml
  by_cases hlt:j<l.length
  ·have hc:=fun hp' nx=>wO emp l[j] hp' nx (hps _ (List.getElem_mem hlt))
   have hwj:IntKind.i64.wrap ((j:Int)+1)=(j:Int)+1:=zc (by omega) (by omega)
   have hww:IntKind.i64.wrap (((z7 (l.take j)).length:Int)+1)=((z7 (l.take j)).length:Int)+1:=zc (by omega) (by omega)
   have hget:(zD (z7 (l.take j))++mid++zD (l.drop j))[j]?=some [str l[j]]:=by
    rw[List.getElem?_append_right (by simp;omega),List.drop_eq_getElem_cons hlt,Wf]
    rw[show j - (zD (z7 (l.take j))++mid).length=0 by simp;omega]
    rfl
   have hlen:(zD (z7 (l.take j))++mid++zD (l.drop j)).length=l.length:=by simp;omega
   obtain⟨rows,hrows⟩:∃rows,zD (z7 (l.take j))++mid++zD (l.drop j)=rows:=⟨_,rfl⟩
   rw[hrows] at hb hget hlen
   have hget2:∀h:j<rows.length,rows[j]=[str l[j]]:=fun h=>(List.getElem?_eq_some_iff.1 hget).2
   have hwt:=Z0 hlt
   have hjj:i+1+(k+1)=j+1:=by omega
   have hwi:(z7 (l.take j)).length<l.length:=by omega
   cases he:emp l[j]
   ·rw[he,if_neg (by simp)] at hwt
    obtain⟨y,mid',rfl,hmid'⟩:∃y mid',mid=[y]::mid'∧∀c∈mid',c.length=1:=by
     cases mid with
     | nil=>simp at hm0
     | cons x mid' =>
       have:=hm1 x (by simp)
       match x,this with
       | [y],_=>exact⟨y,mid',rfl,fun c hc=>hm1 c (by simp[hc])⟩
    have hg3:∀h:(z7 (l.take j)).length<rows.length,rows[(z7 (l.take j)).length]=[y]:=fun h=>by
     have:rows[(z7 (l.take j)).length]?=some [y]:=by
      rw[←hrows,List.append_assoc,List.getElem?_append_right (by simp)]
      simp
     exact (List.getElem?_eq_some_iff.1 this).2
    have hset:rows.set (z7 (l.take j)).length [str l[j]]=zD (z7 (l.take j))++([str l[j]]::mid'++zD (l.drop j)):=by
     rw[←hrows,List.append_assoc,List.set_append_right _ _ (by simp)]
     simp
    simp only[List.length_cons] at hml
    simp[h0,h1,h5,h6',fnE,hlt,hb,hget2,hc,he,hwj,hww,hwi,hlen,hg3,hset,hjj,hwt]
    refine⟨by omega,by omega,fun q hq=>by rw[zq _ _ _ _ hq];exact hfr q hq,mid'++[[str l[j]]],?_,by simp;omega,by simp,?_⟩
    ·rw[KP]
     simp
     rw[List.drop_eq_getElem_cons hlt,Wf]
    ·intro c hc
     rcases List.mem_append.1 hc with hc | hc
     ·exact hmid' c hc
     ·simp at hc;subst hc;rfl
   ·rw[he,if_pos rfl] at hwt
    simp[h0,h1,h5,h6',fnE,hlt,hb,hget2,hc,he,hwj,hjj,hwt,hlen]
    refine⟨by omega,by omega,hfr,mid++[[str l[j]]],?_,by simp;omega,by simp,?_⟩
    ·rw[←hrows]
     simp
     rw[List.drop_eq_getElem_cons hlt,Wf]
    ·intro c hc
     rcases List.mem_append.1 hc with hc | hc
     ·exact hm1 c hc
     ·simp at hc;subst hc;rfl
  ·obtain rfl:j=l.length:=by omega
   rw[List.take_length] at h5 hb hml
   rw[List.drop_length,zog,List.append_nil] at hb
   have hn1:¬(l.length:Int)<l.length:=by omega
   have hwle:(z7 l).length≤l.length:=by omega
   have hsub:l.length - (z7 l).length=mid.length:=by omega
   have hcl:XH prog hp nx 37 (.own id (z7 l).length mid.length)=some (.tup [],upd hp id (some ⟨9,1,true,zD (z7 l)++List.replicate mid.length [str []]⟩),nx):=by
    have ht:(zD (z7 l)++mid).take (z7 l).length=zD (z7 l):=by rw[List.take_append_of_le_length (by simp),zlh]
    have hd:(zD (z7 l)++mid).drop ((z7 l).length+mid.length)=[]:=List.drop_of_length_le (by simp)
    simp[XH,hb,ht,hd,hm0,str]
   have hs1:∀hp:Hp,hp id=some ⟨9,1,true,zD (z7 l)++mid⟩→wB prog hp 37 (.own id 0 l.length) (some (some (int (z7 l).length))) none=some (.own id (z7 l).length mid.length):=fun hp hh=>by
    have:¬l.length=(z7 l).length:=by omega
    simp[wB,hh,yx,hwle,hsub,this]
    intro e
    rw[e] at hsub ⊢
    simp at hsub
    simp[hsub]
   have hs2:∀(hp:Hp) (r:List (List PV)),hp id=some ⟨9,1,true,r⟩→wB prog hp 37 (.own id 0 l.length) none (some (some (int (z7 l).length)))=some (.own id 0 (z7 l).length):=fun hp r hh=>by
    simp[wB,hh,yx,hwle]
   have hs1':=hs1 hp hb
   have hs2':=hs2 (upd hp id (some ⟨9,1,true,zD (z7 l)++List.replicate mid.length [str []]⟩)) _ (by simp;rfl)
   simp[h0,h1,h5,h6',fnE,hb,hs1',hs2',hcl,f188]
   exact⟨rfl,rfl,⟨_,by simp;rfl⟩,fun q hq=>by rw[zq _ _ _ _ hq];exact hfr q hq⟩
def zi3:Cpn:=⟨wK,part0,part0⟩
def cOf (sg:List UInt8) (p:Part):Cpn:=⟨sg,p,part0⟩
def ke (w:List UInt8) (l:List (List UInt8)):Option (Cpn×List (List UInt8)) :=
 if (opW sgs w).1=[]∧qH (opW sgs w).2=true then some (zi3,l)
 else if (opW sgs w).1≠[]∧(opW sgs w).2=[]∧l≠[] then (match l with
  | r::l'=>if (zt r).2=true then some (cOf (opW sgs w).1 (zt r).1,l') else none
  | []=>none)
 else if (zt (opW sgs w).2).2=true then some (cOf (opW sgs w).1 (zt (opW sgs w).2).1,l) else none
def wM:Nat→List (List UInt8)→Option (List Cpn)
 | 0,_=>some []
 | _+1,[]=>some []
 | n+1,w::l=>match ke w l with
   | some (c,l')=>(wM n l').map (c::·)
   | none=>none
theorem zow {w:List UInt8} {l l':List (List UInt8)} {c:Cpn} (h:ke w l=some (c,l')):l'.length≤l.length:=by
 unfold ke at h
 split at h
 ·injection h with h;injection h with _ h;subst h;exact Nat.le_refl _
 ·split at h
  ·split at h
   ·split at h
    ·injection h with h;injection h with _ h;subst h;simp
    ·cases h
   ·cases h
  ·split at h
   ·injection h with h;injection h with _ h;subst h;exact Nat.le_refl _
   ·cases h
def Yd (t:List UInt8):List Cpn×Bool :=
 match z7 (zy t [32]) with
 | [a,b,c]=>if b=[45] then ([⟨[45],(zt a).1,(zt c).1⟩],(zt a).2&&(zt c).2) else (match wM 3 [a,b,c] with
   | some l=>(l,!l.isEmpty)
   | none=>([],false))
 | ws=>match wM ws.length ws with
   | some l=>(l,!l.isEmpty)
   | none=>([],false)
def Qr (l:List Cpn):List (List PV):=l.map Cpn.enc
def zox (t:List UInt8):PV:=.tup [.sl 11 (Qr (Yd t).1),boo (Yd t).2]
theorem QG:∀(gs:List (List UInt8)) (s:List UInt8),(opW gs s).2.length≤s.length
 | [],s=>Nat.le_refl _
 | g::l,s=>by
   simp only[opW]
   split
   ·simp
   ·exact QG l s
noncomputable abbrev zvU:Ctx:=zC prog [(143,qP [] FSp),(188,yf Cdf f188),(190,zd false [] (VU wz)),(191,zd false [] (FSP opP)),(192,zd false [] (FS qH))]
theorem zq1:AM.Good zvU (fun g=>[192].contains g):=zk mixed ⟨kF,by simp,Jz,by simp,Yo,by simp,Xk,by simp,X3,fun _=>zi _ _,trivial⟩
def zad:PV→Nat
 | .own _ _ n=>n
 | _=>0
def zq2 (ws:List (List UInt8)) (rows:List (List PV)) (st:St):Prop:=∃f rest l xs,rest.length≤f∧xs.length+rest.length≤ws.length∧ws.drop (ws.length - rest.length)=rest∧(rest=[]∧st.σ 4=.sl 1 []∨st.σ 4=.own 0 (ws.length - rest.length) rest.length) ∧
 OwnS st.hp st.nx 156 11 (st.σ 9) xs∧(∀n,st.σ 9≠.own 0 0 n)∧xs.map (Yc zot)=Qr l∧1≤st.nx∧st.hp 0=some ⟨9,1,true,rows⟩∧wM ws.length ws=(wM f rest).map (l++·)
theorem sl1 (hp:Hp) (rows:List (List PV)) (o n:Nat) (hh:hp 0=some ⟨9,1,true,rows⟩):wB prog hp 37 (.own 0 o (n+1)) (some (some (int 1))) none=some (if n=0 then .sl 1 [] else .own 0 (o+1) n):=by
 simp[wB,hh,yx]
theorem jC {ws rows} {f':Nat} {l':List (List UInt8)} {l:List Cpn} {c:Cpn} {xs:List (List PV)} {raw:List PV} {st:St} {v4:PV} (hf:l'.length≤f') (hx:xs.length+1+l'.length≤ws.length) (hdr:ws.drop (ws.length - l'.length)=l') (h4:st.σ 4=v4) (hv4:l'=[]∧v4=.sl 1 []∨v4=.own 0 (ws.length - l'.length) l'.length)
  (hO:OwnS st.hp st.nx 156 11 (st.σ 9) (xs++[raw])) (hO0:∀n,st.σ 9≠.own 0 0 n) (hfix:Yc zot raw=c.enc) (hxs:xs.map (Yc zot)=Qr l) (hnx:1≤st.nx) (b0:st.hp 0=some ⟨9,1,true,rows⟩) (he:wM ws.length ws=(wM f' l').map ((l++[c])++·)):zq2 ws rows st :=
 ⟨f',l',l++[c],xs++[raw],hf,by simp;omega,hdr,by rw[h4];exact hv4,hO,hO0,by simp[hxs,hfix,Qr],hnx,b0,he⟩
theorem zhl (f:Nat):wM f []=some []:=by cases f<;>rfl
set_option maxHeartbeats 4000000 in
theorem JA (t:List UInt8) (ht:t.length+1≤lim):∃r0,zg zvU f147 [str t]=some r0∧Stands r0 (zox t):=by
 refine qt (sh:=.s 11 zot) rfl ?_
 have hsp:=fun hp nx=>jv t [32] hp nx (by omega) (by decide) (by decide)
 have hpl:∀p∈zy t [32],p.length+1≤lim:=fun p hp=>by have:=w8 hp;omega
 have hsm:yL (zy t [32]):=⟨by have:=yY (s:=t) (sep:=[32]) (by simp);omega,fun p hp=>by have:=hpl p hp;omega⟩
 obtain⟨x,hp1,nx1,hdel,hx,hnx,⟨pad,hb⟩,hfr⟩:=zi2 (zy t [32]) (upd (fun _=>none) 0 (some ⟨9,1,true,zD (zy t [32])⟩)) 1 0 hsm (by simp)
 subst hx;subst hnx
 obtain⟨ws,hws⟩:∃ws,z7 (zy t [32])=ws:=⟨_,rfl⟩
 have hwl:∀p∈ws,p.length+1≤lim:=fun p hp=>hpl p (by rw[←hws] at hp;exact (List.mem_filter.1 hp).1)
 rw[hws] at hdel hb
 simp only[fnE] at hdel
 have hwn:ws.length≤lim:=by
  have h1:=List.length_filter_le (fun x=>!emp x) (zy t [32])
  have h2:=yY (s:=t) (sep:=[32]) (by simp)
  have h3:ws.length=(z7 (zy t [32])).length:=by rw[hws]
  unfold z7 at h3
  omega
 have hrd:=fun (p:List UInt8) (hp:p.length+1≤lim) hp' nx=>wu wz p hp' nx hp
 simp[hsp,hdel]
 by_cases hc:∃a c,ws=[a,[45],c]
 ·obtain⟨a,c,rfl⟩:=hc
  have ha:=fun hp' nx=>hrd a (hwl a (by simp)) hp' nx
  have hcc:=fun hp' nx=>hrd c (hwl c (by simp)) hp' nx
  simp only[wz,Part.enc] at ha hcc
  have hval:zox t=.tup [.sl 11 (Qr [⟨[45],(zt a).1,(zt c).1⟩]),boo ((zt a).2&&(zt c).2)]:=by simp only[zox,Yd,hws,if_true]
  rw[hval]
  have hn:∀k,0<k→hp1 k=none:=fun k hk=>by rw[hfr k (by omega),zq _ _ _ _ (by omega)]
  simp[hb,ha,hcc,zx,zR,zh,zo,zf,zF,Qr,Cpn.enc,f147]
 ·have hval:zox t=(match wM ws.length ws with
   | some l=>.tup [.sl 11 (Qr l),boo (!l.isEmpty)]
   | none=>.tup [.sl 11 [],boo false]):=by
   have hR:Yd t=(match wM ws.length ws with
    | some l=>(l,!l.isEmpty)
    | none=>([],false)):=by
    unfold Yd
    rw[hws]
    match ws,hc with
    | [],_=>rfl
    | [_],_=>rfl
    | [_,_],_=>rfl
    | [a,b,c],hc =>
      have:¬b=[45]:=fun e=>hc ⟨a,c,by rw[e]⟩
      simp only[if_neg this]
      rfl
    | _::_::_::_::_,_=>rfl
   unfold zox
   rw[hR]
   cases wM ws.length ws<;>rfl
  obtain⟨rows,hrows⟩:∃rows,zD ws++pad=rows:=⟨_,rfl⟩
  have hrl:ws.length≤rows.length:=by rw[←hrows];simp
  have hat:∀k (h:k<ws.length) (h':k<rows.length),rows[k]=[str ws[k]]:=fun k h h'=>by
   subst hrows
   rw[List.getElem_append_left (by simpa using h)]
   simp[zD]
  rw[hrows] at hb
  clear hrows
  by_cases h3:ws.length=3
  ·have h31:=hat 1 (by omega) (by omega)
   have hne:(ws[1]==[45])=false:=by
    match ws,h3,hc with
    | [a,b,c],_,hc=>simpa using fun e=>hc ⟨a,c,by rw[e]⟩
   have h3l:1<rows.length:=by omega
   have h33:((ws.length:Int)==3)=true:=by simp[h3]
   simp[hb,h33,h3,h31,hne,h3l]
   refine kX (zq2 ws rows) (fun st=>zad (st.σ 4)) ⟨ws.length,ws,[],[],Nat.le_refl _,by simp,by simp,.inr (by simp;try omega),.inl ⟨by simp,rfl⟩,by simp,rfl,by simp,by simpa using hb,by simp⟩ ?_
   clear hdel hfr hsp
   rintro⟨σ,hp,nx⟩ ⟨f,rest,l,xs,hf,hxl,hdr,h4,hO,hO0,hxs,hnx,b0,he⟩
   simp only at h4 hO hO0 hnx b0
   cases rest with
   | nil =>
     rw[zhl] at he
     simp only[Option.map_some,List.append_nil] at he
     rw[he] at hval
     rw[hval]
     have hxl2:xs.length=l.length:=by have:=congrArg List.length hxs;simpa[Qr] using this
     have hb1:(decide ((0:Int)<(xs.length:Int)))=!l.isEmpty:=by
      rw[hxl2];cases l<;>simp
     have hb2:(decide (0<xs.length))=!l.isEmpty:=by
      rw[hxl2];cases l<;>simp
     have h4':σ 4=.sl 1 []∨σ 4=.own 0 ws.length 0:=by
      rcases h4 with⟨_,h4⟩ | h4
      ·exact .inl h4
      ·exact .inr (by simpa using h4)
     rcases hO with⟨h9,rfl⟩ | ⟨id,hid,h9,hb9⟩
     ·simp[Qr] at hxs
      subst hxs
      rcases h4' with h4' | h4'<;>simp[h4',h9,zF,Qr,f147]
     ·rcases h4' with h4' | h4'<;>simp[h4',h9,hb9,hb1,hb2,hxs,zF,f147]
   | cons w l' =>
     obtain⟨f',rfl⟩:∃f',f=f'+1:=⟨f - 1,by simp at hf;omega⟩
     simp only[List.length_cons] at hf hxl hdr h4
     obtain⟨o,ho⟩:∃o,ws.length - (l'.length+1)=o:=⟨_,rfl⟩
     rw[ho] at hdr h4
     have h4':σ 4=.own 0 o (l'.length+1):=by
      rcases h4 with⟨h,_⟩ | h
      ·cases h
      ·exact h
     have hol:o<ws.length:=by omega
     have hor:o<rows.length:=by omega
     rw[List.drop_eq_getElem_cons hol] at hdr
     injection hdr with hdw hdl
     have hrow:rows[o]=[str w]:=by rw[hat o hol hor,hdw]
     have hww:w.length+1≤lim:=hwl w (by rw[←hdw];exact List.getElem_mem hol)
     have hop:=fun hp' nx'=>JR opP w hp' nx' (by omega) rfl
     simp only[opP] at hop
     have hrl2:(opW sgs w).2.length+1≤lim:=by have:=QG sgs w;omega
     have hopn:=fun hp' nx'=>wO qH (opW sgs w).2 hp' nx' (by omega)
     obtain⟨v4,hv4⟩:∃v4,(if l'.length=0 then PV.sl 1 [] else .own 0 (o+1) l'.length)=v4:=⟨_,rfl⟩
     have hs1:=fun hp' (hh:hp' 0=some _)=>sl1 hp' rows o l'.length hh
     rw[hv4] at hs1
     have hs1':=hs1 hp b0
     have ho1:o+1=ws.length - l'.length:=by omega
     have hv4':l'=[]∧v4=.sl 1 []∨v4=.own 0 (ws.length - l'.length) l'.length:=by
      rw[←hv4,←ho1]
      by_cases h:l'.length=0
      ·exact .inl ⟨List.length_eq_zero_iff.1 h,if_pos h⟩
      ·exact .inr (if_neg h)
     have hmu:zad v4<l'.length+1:=by rcases hv4' with⟨_,h⟩ | h<;>rw[h]<;>simp[zad]
     have hl4:VW prog 37 v4=some (int l'.length):=by
      rcases hv4' with⟨h1,h⟩ | h
      ·subst h1;rw[h];simp
      ·rw[h];simp
     rw[ho1] at hdl
     have hap:=fun c hO=>OwnS.append1 (hp:=hp) (nx:=nx) (v:=σ 9) (xs:=xs) (P:=prog) (t:=149) (c:=c) hO V4 V5 V6 V7 rfl (by omega) (by unfold maxLen;unfold lim at hwn;omega) (by unfold lim at hwn;omega)
     by_cases hA:(opW sgs w).1=[]∧qH (opW sgs w).2=true
     ·have hS:ke w l'=some (zi3,l'):=by unfold ke;rw[if_pos hA]
      have he':wM ws.length ws=(wM f' l').map ((l++[zi3])++·):=by
       rw[he];simp only[wM,hS];cases wM f' l'<;>simp
      have hap1:=hap [str wK,int 0,int 0,int 0,int 0,.nil,int 0,int 0,int 0,int 0,.nil] hO
      obtain⟨hA1,hA2⟩:=hA
      simp only[wK] at hap1
      simp[h4',b0,hor,hrow,hop,hopn,hs1',hA1,hA2,hap1,zx,zR,zh,zo,zf]
      have n0:¬0=nx:=by omega
      have n1:¬0=nx+1:=by omega
      have n2:¬0=nx+2:=by omega
      have hk0:=fun hp'=>qM hO hp' 0 hO0
      exact⟨jC (v4:=v4) (c:=zi3) (f':=f') (l':=l') (l:=l) (xs:=xs) (by omega) (by omega) hdl (by simp) hv4' (by simpa using OwnS.after) (by simp<;>omega) rfl hxs (by simp) (by simp[hk0,n0,n1,n2,b0]) he',by simpa[zad] using hmu⟩
     have n0:¬0=nx:=by omega
     have n1:¬0=nx+1:=by omega
     have n2:¬0=nx+2:=by omega
     have hk0:=fun hp'=>qM hO hp' 0 hO0
     by_cases hE:(opW sgs w).1=[]
     ·have hE1:((opW sgs w).1==[])=true:=by simpa using hE
      have hE2:(opW sgs w).1.isEmpty=true:=by simpa using hE
      have hE3:((opW sgs w).1 != [])=false:=by simpa using hE
      have hOp:qH (opW sgs w).2=false:=by
       cases h:qH (opW sgs w).2
       ·rfl
       ·exact absurd ⟨hE,h⟩ hA
      have hrp:=fun hp' nx'=>hrd (opW sgs w).2 hrl2 hp' nx'
      simp only[wz,Part.enc] at hrp
      cases hok:(zt (opW sgs w).2).2
      ·have hS:ke w l'=none:=by unfold ke;rw[if_neg hA,if_neg (fun h=>h.1 hE),if_neg (by rw[hok];simp)]
       have he':wM ws.length ws=none:=by rw[he];simp only[wM,hS];rfl
       rw[he'] at hval
       simp[h4',b0,hor,hrow,hop,hopn,hs1',hE1,hE2,hE3,hOp,hrp,hok,zx,zR,hval,Qr,zF,f147]
      ·have hS:ke w l'=some (cOf (opW sgs w).1 (zt (opW sgs w).2).1,l'):=by unfold ke;rw[if_neg hA,if_neg (fun h=>h.1 hE),if_pos hok]
       have he':wM ws.length ws=(wM f' l').map ((l++[cOf (opW sgs w).1 (zt (opW sgs w).2).1])++·):=by
        rw[he];simp only[wM,hS];cases wM f' l'<;>simp
       have hap2:=OwnS.append1 (P:=prog) (t:=149) (c:=[str (opW sgs w).1,int (zt (opW sgs w).2).1.n0,int (zt (opW sgs w).2).1.n1,int (zt (opW sgs w).2).1.n2,int (zt (opW sgs w).2).1.has,.sl 1 (zD (zt (opW sgs w).2).1.pre),int 0,int 0,int 0,int 0,.nil]) (hO.more (some ⟨154,5,false,[(zt (opW sgs w).2).1.enc]⟩)) V4 V5 V6 V7 rfl (by omega) (by unfold maxLen;unfold lim at hwn;omega) (by unfold lim at hwn;omega)
       simp only[Part.enc] at hap2
       simp[h4',b0,hor,hrow,hop,hopn,hs1',hE1,hE2,hE3,hOp,hrp,hok,hap2,zx,zR,zh,zo,zf]
       exact⟨jC (v4:=v4) (c:=cOf (opW sgs w).1 (zt (opW sgs w).2).1) (f':=f') (l':=l') (l:=l) (xs:=xs) (by omega) (by omega) hdl (by simp) hv4' (by simpa using OwnS.after) (by simp<;>omega) rfl hxs (by simp) (by simp[hk0,n0,n1,n2,b0]) he',by simpa[zad] using hmu⟩
     have hE1:((opW sgs w).1==[])=false:=by simpa using hE
     have hE2:(opW sgs w).1.isEmpty=false:=by simpa using hE
     have hE3:((opW sgs w).1 != [])=true:=by simpa using hE
     by_cases hR:(opW sgs w).2=[]
     ·have hR1:((opW sgs w).2==[])=true:=by simpa using hR
      have hR2:(opW sgs w).2.isEmpty=true:=by simpa using hR
      by_cases hL:l'=[]
      ·have hLz:l'.length=0:=by rw[hL];rfl
       have hLp:¬0<l'.length:=by omega
       have hLq:¬(0:Int)<(l'.length:Int):=by omega
       have hrp:=fun hp' nx'=>hrd (opW sgs w).2 hrl2 hp' nx'
       simp only[wz,Part.enc] at hrp
       cases hok:(zt (opW sgs w).2).2
       ·have hS:ke w l'=none:=by unfold ke;rw[if_neg hA,if_neg (fun h=>h.2.2 hL),if_neg (by rw[hok];simp)]
        have he':wM ws.length ws=none:=by rw[he];simp only[wM,hS];rfl
        rw[he'] at hval
        simp[h4',b0,hor,hrow,hop,hopn,hs1',hE1,hE2,hE3,hR1,hR2,hl4,hLp,hLq,hrp,hok,zx,zR,hval,Qr,zF,f147]
       ·have hS:ke w l'=some (cOf (opW sgs w).1 (zt (opW sgs w).2).1,l'):=by unfold ke;rw[if_neg hA,if_neg (fun h=>h.2.2 hL),if_pos hok]
        have he':wM ws.length ws=(wM f' l').map ((l++[cOf (opW sgs w).1 (zt (opW sgs w).2).1])++·):=by
         rw[he];simp only[wM,hS];cases wM f' l'<;>simp
        have hap2:=OwnS.append1 (P:=prog) (t:=149) (c:=[str (opW sgs w).1,int (zt (opW sgs w).2).1.n0,int (zt (opW sgs w).2).1.n1,int (zt (opW sgs w).2).1.n2,int (zt (opW sgs w).2).1.has,.sl 1 (zD (zt (opW sgs w).2).1.pre),int 0,int 0,int 0,int 0,.nil]) (hO.more (some ⟨154,5,false,[(zt (opW sgs w).2).1.enc]⟩)) V4 V5 V6 V7 rfl (by omega) (by unfold maxLen;unfold lim at hwn;omega) (by unfold lim at hwn;omega)
        simp only[Part.enc] at hap2
        simp[h4',b0,hor,hrow,hop,hopn,hs1',hE1,hE2,hE3,hR1,hR2,hl4,hLp,hLq,hrp,hok,hap2,zx,zR,zh,zo,zf]
        exact⟨jC (v4:=v4) (c:=cOf (opW sgs w).1 (zt (opW sgs w).2).1) (f':=f') (l':=l') (l:=l) (xs:=xs) (by omega) (by omega) hdl (by simp) hv4' (by simpa using OwnS.after) (by simp<;>omega) rfl hxs (by simp) (by simp[hk0,n0,n1,n2,b0]) he',by simpa[zad] using hmu⟩
      ·obtain⟨r,l2,rfl⟩:∃r l2,l'=r::l2:=by
        cases l' with
        | nil=>exact absurd rfl hL
        | cons r l2=>exact⟨r,l2,rfl⟩
       have hv:v4=.own 0 (o+1) (l2.length+1):=by
        rcases hv4' with⟨h,_⟩ | h
        ·cases h
        ·rw[h,←ho1];rfl
       subst hv
       simp only[List.length_cons] at hf hxl ho h4' hs1' ho1 hdl hmu
       have hol2:o+1<ws.length:=by omega
       have hor2:o+1<rows.length:=by omega
       rw[←ho1,List.drop_eq_getElem_cons hol2] at hdl
       injection hdl with hdw2 hdl2
       have hrow2:rows[o+1]=[str r]:=by rw[hat (o+1) hol2 hor2,hdw2]
       have ho2:o+1+1=ws.length - l2.length:=by omega
       obtain⟨v5,hv5⟩:∃v5,(if l2.length=0 then PV.sl 1 [] else .own 0 (o+1+1) l2.length)=v5:=⟨_,rfl⟩
       have hs2':=sl1 hp rows (o+1) l2.length b0
       rw[hv5] at hs2'
       have hv5':l2=[]∧v5=.sl 1 []∨v5=.own 0 (ws.length - l2.length) l2.length:=by
        rw[←hv5,←ho2]
        by_cases h:l2.length=0
        ·exact .inl ⟨List.length_eq_zero_iff.1 h,if_pos h⟩
        ·exact .inr (if_neg h)
       have hmu5:zad v5<l2.length+1+1:=by rcases hv5' with⟨_,h⟩ | h<;>rw[h]<;>simp[zad];omega
       rw[ho2] at hdl2
       have hpos:(0:Int)<(l2.length:Int)+1:=by omega
       have hpos2:(0:Int)<(l2.length:Int)+1+1:=by omega
       have hrp:=fun hp' nx'=>hrd r (hwl r (by rw[←hdw2];exact List.getElem_mem hol2)) hp' nx'
       simp only[wz,Part.enc] at hrp
       cases hok:(zt r).2
       ·have hS:ke w (r::l2)=none:=by unfold ke;rw[if_neg hA,if_pos ⟨hE,hR,by simp⟩];simp only[hok];rfl
        have he':wM ws.length ws=none:=by rw[he];simp only[wM,hS];rfl
        rw[he'] at hval
        simp[h4',b0,hor,hrow,hop,hopn,hs1',hs2',hor2,hrow2,hE1,hE2,hE3,hR1,hR2,hpos,hpos2,hrp,hok,zx,zR,hval,Qr,zF,f147]
       ·have hS:ke w (r::l2)=some (cOf (opW sgs w).1 (zt r).1,l2):=by unfold ke;rw[if_neg hA,if_pos ⟨hE,hR,by simp⟩];simp only[hok,if_true]
        have he':wM ws.length ws=(wM f' l2).map ((l++[cOf (opW sgs w).1 (zt r).1])++·):=by
         rw[he];simp only[wM,hS];cases wM f' l2<;>simp
        have hap2:=OwnS.append1 (P:=prog) (t:=149) (c:=[str (opW sgs w).1,int (zt r).1.n0,int (zt r).1.n1,int (zt r).1.n2,int (zt r).1.has,.sl 1 (zD (zt r).1.pre),int 0,int 0,int 0,int 0,.nil]) (hO.more (some ⟨154,5,false,[(zt r).1.enc]⟩)) V4 V5 V6 V7 rfl (by omega) (by unfold maxLen;unfold lim at hwn;omega) (by unfold lim at hwn;omega)
        simp only[Part.enc] at hap2
        simp[h4',b0,hor,hrow,hop,hopn,hs1',hs2',hor2,hrow2,hE1,hE2,hE3,hR1,hR2,hpos,hpos2,hrp,hok,hap2,zx,zR,zh,zo,zf]
        exact⟨jC (v4:=v5) (c:=cOf (opW sgs w).1 (zt r).1) (f':=f') (l':=l2) (l:=l) (xs:=xs) (by omega) (by omega) hdl2 (by simp) hv5' (by simpa using OwnS.after) (by simp<;>omega) rfl hxs (by simp) (by simp[hk0,n0,n1,n2,b0]) he',by simpa[zad] using hmu5⟩
     ·have hR1:((opW sgs w).2==[])=false:=by simpa using hR
      have hR2:(opW sgs w).2.isEmpty=false:=by simpa using hR
      have hrp:=fun hp' nx'=>hrd (opW sgs w).2 hrl2 hp' nx'
      simp only[wz,Part.enc] at hrp
      cases hok:(zt (opW sgs w).2).2
      ·have hS:ke w l'=none:=by unfold ke;rw[if_neg hA,if_neg (fun h=>hR h.2.1),if_neg (by rw[hok];simp)]
       have he':wM ws.length ws=none:=by rw[he];simp only[wM,hS];rfl
       rw[he'] at hval
       simp[h4',b0,hor,hrow,hop,hopn,hs1',hE1,hE2,hE3,hR1,hR2,hrp,hok,zx,zR,hval,Qr,zF,f147]
      ·have hS:ke w l'=some (cOf (opW sgs w).1 (zt (opW sgs w).2).1,l'):=by unfold ke;rw[if_neg hA,if_neg (fun h=>hR h.2.1),if_pos hok]
       have he':wM ws.length ws=(wM f' l').map ((l++[cOf (opW sgs w).1 (zt (opW sgs w).2).1])++·):=by
        rw[he];simp only[wM,hS];cases wM f' l'<;>simp
       have hap2:=OwnS.append1 (P:=prog) (t:=149) (c:=[str (opW sgs w).1,int (zt (opW sgs w).2).1.n0,int (zt (opW sgs w).2).1.n1,int (zt (opW sgs w).2).1.n2,int (zt (opW sgs w).2).1.has,.sl 1 (zD (zt (opW sgs w).2).1.pre),int 0,int 0,int 0,int 0,.nil]) (hO.more (some ⟨154,5,false,[(zt (opW sgs w).2).1.enc]⟩)) V4 V5 V6 V7 rfl (by omega) (by unfold maxLen;unfold lim at hwn;omega) (by unfold lim at hwn;omega)
       simp only[Part.enc] at hap2
       simp[h4',b0,hor,hrow,hop,hopn,hs1',hE1,hE2,hE3,hR1,hR2,hrp,hok,hap2,zx,zR,zh,zo,zf]
       exact⟨jC (v4:=v4) (c:=cOf (opW sgs w).1 (zt (opW sgs w).2).1) (f':=f') (l':=l') (l:=l) (xs:=xs) (by omega) (by omega) hdl (by simp) hv4' (by simpa using OwnS.after) (by simp<;>omega) rfl hxs (by simp) (by simp[hk0,n0,n1,n2,b0]) he',by simpa[zad] using hmu⟩
  ·have h33:((ws.length:Int)==3)=false:=by simp;omega
   simp[hb,h33]
   refine kX (zq2 ws rows) (fun st=>zad (st.σ 4)) ⟨ws.length,ws,[],[],Nat.le_refl _,by simp,by simp,.inr (by simp;try omega),.inl ⟨by simp,rfl⟩,by simp,rfl,by simp,by simpa using hb,by simp⟩ ?_
   clear hdel hfr hsp
   rintro⟨σ,hp,nx⟩ ⟨f,rest,l,xs,hf,hxl,hdr,h4,hO,hO0,hxs,hnx,b0,he⟩
   simp only at h4 hO hO0 hnx b0
   cases rest with
   | nil =>
     rw[zhl] at he
     simp only[Option.map_some,List.append_nil] at he
     rw[he] at hval
     rw[hval]
     have hxl2:xs.length=l.length:=by have:=congrArg List.length hxs;simpa[Qr] using this
     have hb1:(decide ((0:Int)<(xs.length:Int)))=!l.isEmpty:=by
      rw[hxl2];cases l<;>simp
     have hb2:(decide (0<xs.length))=!l.isEmpty:=by
      rw[hxl2];cases l<;>simp
     have h4':σ 4=.sl 1 []∨σ 4=.own 0 ws.length 0:=by
      rcases h4 with⟨_,h4⟩ | h4
      ·exact .inl h4
      ·exact .inr (by simpa using h4)
     rcases hO with⟨h9,rfl⟩ | ⟨id,hid,h9,hb9⟩
     ·simp[Qr] at hxs
      subst hxs
      rcases h4' with h4' | h4'<;>simp[h4',h9,zF,Qr,f147]
     ·rcases h4' with h4' | h4'<;>simp[h4',h9,hb9,hb1,hb2,hxs,zF,f147]
   | cons w l' =>
     obtain⟨f',rfl⟩:∃f',f=f'+1:=⟨f - 1,by simp at hf;omega⟩
     simp only[List.length_cons] at hf hxl hdr h4
     obtain⟨o,ho⟩:∃o,ws.length - (l'.length+1)=o:=⟨_,rfl⟩
     rw[ho] at hdr h4
     have h4':σ 4=.own 0 o (l'.length+1):=by
      rcases h4 with⟨h,_⟩ | h
      ·cases h
      ·exact h
     have hol:o<ws.length:=by omega
     have hor:o<rows.length:=by omega
     rw[List.drop_eq_getElem_cons hol] at hdr
     injection hdr with hdw hdl
     have hrow:rows[o]=[str w]:=by rw[hat o hol hor,hdw]
     have hww:w.length+1≤lim:=hwl w (by rw[←hdw];exact List.getElem_mem hol)
     have hop:=fun hp' nx'=>JR opP w hp' nx' (by omega) rfl
     simp only[opP] at hop
     have hrl2:(opW sgs w).2.length+1≤lim:=by have:=QG sgs w;omega
     have hopn:=fun hp' nx'=>wO qH (opW sgs w).2 hp' nx' (by omega)
     obtain⟨v4,hv4⟩:∃v4,(if l'.length=0 then PV.sl 1 [] else .own 0 (o+1) l'.length)=v4:=⟨_,rfl⟩
     have hs1:=fun hp' (hh:hp' 0=some _)=>sl1 hp' rows o l'.length hh
     rw[hv4] at hs1
     have hs1':=hs1 hp b0
     have ho1:o+1=ws.length - l'.length:=by omega
     have hv4':l'=[]∧v4=.sl 1 []∨v4=.own 0 (ws.length - l'.length) l'.length:=by
      rw[←hv4,←ho1]
      by_cases h:l'.length=0
      ·exact .inl ⟨List.length_eq_zero_iff.1 h,if_pos h⟩
      ·exact .inr (if_neg h)
     have hmu:zad v4<l'.length+1:=by rcases hv4' with⟨_,h⟩ | h<;>rw[h]<;>simp[zad]
     have hl4:VW prog 37 v4=some (int l'.length):=by
      rcases hv4' with⟨h1,h⟩ | h
      ·subst h1;rw[h];simp
      ·rw[h];simp
     rw[ho1] at hdl
     have hap:=fun c hO=>OwnS.append1 (hp:=hp) (nx:=nx) (v:=σ 9) (xs:=xs) (P:=prog) (t:=149) (c:=c) hO V4 V5 V6 V7 rfl (by omega) (by unfold maxLen;unfold lim at hwn;omega) (by unfold lim at hwn;omega)
     by_cases hA:(opW sgs w).1=[]∧qH (opW sgs w).2=true
     ·have hS:ke w l'=some (zi3,l'):=by unfold ke;rw[if_pos hA]
      have he':wM ws.length ws=(wM f' l').map ((l++[zi3])++·):=by
       rw[he];simp only[wM,hS];cases wM f' l'<;>simp
      have hap1:=hap [str wK,int 0,int 0,int 0,int 0,.nil,int 0,int 0,int 0,int 0,.nil] hO
      obtain⟨hA1,hA2⟩:=hA
      simp only[wK] at hap1
      simp[h4',b0,hor,hrow,hop,hopn,hs1',hA1,hA2,hap1,zx,zR,zh,zo,zf]
      have n0:¬0=nx:=by omega
      have n1:¬0=nx+1:=by omega
      have n2:¬0=nx+2:=by omega
      have hk0:=fun hp'=>qM hO hp' 0 hO0
      exact⟨jC (v4:=v4) (c:=zi3) (f':=f') (l':=l') (l:=l) (xs:=xs) (by omega) (by omega) hdl (by simp) hv4' (by simpa using OwnS.after) (by simp<;>omega) rfl hxs (by simp) (by simp[hk0,n0,n1,n2,b0]) he',by simpa[zad] using hmu⟩
     have n0:¬0=nx:=by omega
     have n1:¬0=nx+1:=by omega
     have n2:¬0=nx+2:=by omega
     have hk0:=fun hp'=>qM hO hp' 0 hO0
     by_cases hE:(opW sgs w).1=[]
     ·have hE1:((opW sgs w).1==[])=true:=by simpa using hE
      have hE2:(opW sgs w).1.isEmpty=true:=by simpa using hE
      have hE3:((opW sgs w).1 != [])=false:=by simpa using hE
      have hOp:qH (opW sgs w).2=false:=by
       cases h:qH (opW sgs w).2
       ·rfl
       ·exact absurd ⟨hE,h⟩ hA
      have hrp:=fun hp' nx'=>hrd (opW sgs w).2 hrl2 hp' nx'
      simp only[wz,Part.enc] at hrp
      cases hok:(zt (opW sgs w).2).2
      ·have hS:ke w l'=none:=by unfold ke;rw[if_neg hA,if_neg (fun h=>h.1 hE),if_neg (by rw[hok];simp)]
       have he':wM ws.length ws=none:=by rw[he];simp only[wM,hS];rfl
       rw[he'] at hval
       simp[h4',b0,hor,hrow,hop,hopn,hs1',hE1,hE2,hE3,hOp,hrp,hok,zx,zR,hval,Qr,zF,f147]
      ·have hS:ke w l'=some (cOf (opW sgs w).1 (zt (opW sgs w).2).1,l'):=by unfold ke;rw[if_neg hA,if_neg (fun h=>h.1 hE),if_pos hok]
       have he':wM ws.length ws=(wM f' l').map ((l++[cOf (opW sgs w).1 (zt (opW sgs w).2).1])++·):=by
        rw[he];simp only[wM,hS];cases wM f' l'<;>simp
       have hap2:=OwnS.append1 (P:=prog) (t:=149) (c:=[str (opW sgs w).1,int (zt (opW sgs w).2).1.n0,int (zt (opW sgs w).2).1.n1,int (zt (opW sgs w).2).1.n2,int (zt (opW sgs w).2).1.has,.sl 1 (zD (zt (opW sgs w).2).1.pre),int 0,int 0,int 0,int 0,.nil]) (hO.more (some ⟨154,5,false,[(zt (opW sgs w).2).1.enc]⟩)) V4 V5 V6 V7 rfl (by omega) (by unfold maxLen;unfold lim at hwn;omega) (by unfold lim at hwn;omega)
       simp only[Part.enc] at hap2
       simp[h4',b0,hor,hrow,hop,hopn,hs1',hE1,hE2,hE3,hOp,hrp,hok,hap2,zx,zR,zh,zo,zf]
       exact⟨jC (v4:=v4) (c:=cOf (opW sgs w).1 (zt (opW sgs w).2).1) (f':=f') (l':=l') (l:=l) (xs:=xs) (by omega) (by omega) hdl (by simp) hv4' (by simpa using OwnS.after) (by simp<;>omega) rfl hxs (by simp) (by simp[hk0,n0,n1,n2,b0]) he',by simpa[zad] using hmu⟩
     have hE1:((opW sgs w).1==[])=false:=by simpa using hE
     have hE2:(opW sgs w).1.isEmpty=false:=by simpa using hE
     have hE3:((opW sgs w).1 != [])=true:=by simpa using hE
     by_cases hR:(opW sgs w).2=[]
     ·have hR1:((opW sgs w).2==[])=true:=by simpa using hR
      have hR2:(opW sgs w).2.isEmpty=true:=by simpa using hR
      by_cases hL:l'=[]
      ·have hLz:l'.length=0:=by rw[hL];rfl
       have hLp:¬0<l'.length:=by omega
       have hLq:¬(0:Int)<(l'.length:Int):=by omega
       have hrp:=fun hp' nx'=>hrd (opW sgs w).2 hrl2 hp' nx'
       simp only[wz,Part.enc] at hrp
       cases hok:(zt (opW sgs w).2).2
       ·have hS:ke w l'=none:=by unfold ke;rw[if_neg hA,if_neg (fun h=>h.2.2 hL),if_neg (by rw[hok];simp)]
        have he':wM ws.length ws=none:=by rw[he];simp only[wM,hS];rfl
        rw[he'] at hval
        simp[h4',b0,hor,hrow,hop,hopn,hs1',hE1,hE2,hE3,hR1,hR2,hl4,hLp,hLq,hrp,hok,zx,zR,hval,Qr,zF,f147]
       ·have hS:ke w l'=some (cOf (opW sgs w).1 (zt (opW sgs w).2).1,l'):=by unfold ke;rw[if_neg hA,if_neg (fun h=>h.2.2 hL),if_pos hok]
        have he':wM ws.length ws=(wM f' l').map ((l++[cOf (opW sgs w).1 (zt (opW sgs w).2).1])++·):=by
         rw[he];simp only[wM,hS];cases wM f' l'<;>simp
        have hap2:=OwnS.append1 (P:=prog) (t:=149) (c:=[str (opW sgs w).1,int (zt (opW sgs w).2).1.n0,int (zt (opW sgs w).2).1.n1,int (zt (opW sgs w).2).1.n2,int (zt (opW sgs w).2).1.has,.sl 1 (zD (zt (opW sgs w).2).1.pre),int 0,int 0,int 0,int 0,.nil]) (hO.more (some ⟨154,5,false,[(zt (opW sgs w).2).1.enc]⟩)) V4 V5 V6 V7 rfl (by omega) (by unfold maxLen;unfold lim at hwn;omega) (by unfold lim at hwn;omega)
        simp only[Part.enc] at hap2
        simp[h4',b0,hor,hrow,hop,hopn,hs1',hE1,hE2,hE3,hR1,hR2,hl4,hLp,hLq,hrp,hok,hap2,zx,zR,zh,zo,zf]
        exact⟨jC (v4:=v4) (c:=cOf (opW sgs w).1 (zt (opW sgs w).2).1) (f':=f') (l':=l') (l:=l) (xs:=xs) (by omega) (by omega) hdl (by simp) hv4' (by simpa using OwnS.after) (by simp<;>omega) rfl hxs (by simp) (by simp[hk0,n0,n1,n2,b0]) he',by simpa[zad] using hmu⟩
      ·obtain⟨r,l2,rfl⟩:∃r l2,l'=r::l2:=by
        cases l' with
        | nil=>exact absurd rfl hL
        | cons r l2=>exact⟨r,l2,rfl⟩
       have hv:v4=.own 0 (o+1) (l2.length+1):=by
        rcases hv4' with⟨h,_⟩ | h
        ·cases h
        ·rw[h,←ho1];rfl
       subst hv
       simp only[List.length_cons] at hf hxl ho h4' hs1' ho1 hdl hmu
       have hol2:o+1<ws.length:=by omega
       have hor2:o+1<rows.length:=by omega
       rw[←ho1,List.drop_eq_getElem_cons hol2] at hdl
       injection hdl with hdw2 hdl2
       have hrow2:rows[o+1]=[str r]:=by rw[hat (o+1) hol2 hor2,hdw2]
       have ho2:o+1+1=ws.length - l2.length:=by omega
       obtain⟨v5,hv5⟩:∃v5,(if l2.length=0 then PV.sl 1 [] else .own 0 (o+1+1) l2.length)=v5:=⟨_,rfl⟩
       have hs2':=sl1 hp rows (o+1) l2.length b0
       rw[hv5] at hs2'
       have hv5':l2=[]∧v5=.sl 1 []∨v5=.own 0 (ws.length - l2.length) l2.length:=by
        rw[←hv5,←ho2]
        by_cases h:l2.length=0
        ·exact .inl ⟨List.length_eq_zero_iff.1 h,if_pos h⟩
        ·exact .inr (if_neg h)
       have hmu5:zad v5<l2.length+1+1:=by rcases hv5' with⟨_,h⟩ | h<;>rw[h]<;>simp[zad];omega
       rw[ho2] at hdl2
       have hpos:(0:Int)<(l2.length:Int)+1:=by omega
       have hpos2:(0:Int)<(l2.length:Int)+1+1:=by omega
       have hrp:=fun hp' nx'=>hrd r (hwl r (by rw[←hdw2];exact List.getElem_mem hol2)) hp' nx'
       simp only[wz,Part.enc] at hrp
       cases hok:(zt r).2
       ·have hS:ke w (r::l2)=none:=by unfold ke;rw[if_neg hA,if_pos ⟨hE,hR,by simp⟩];simp only[hok];rfl
        have he':wM ws.length ws=none:=by rw[he];simp only[wM,hS];rfl
        rw[he'] at hval
        simp[h4',b0,hor,hrow,hop,hopn,hs1',hs2',hor2,hrow2,hE1,hE2,hE3,hR1,hR2,hpos,hpos2,hrp,hok,zx,zR,hval,Qr,zF,f147]
       ·have hS:ke w (r::l2)=some (cOf (opW sgs w).1 (zt r).1,l2):=by unfold ke;rw[if_neg hA,if_pos ⟨hE,hR,by simp⟩];simp only[hok,if_true]
        have he':wM ws.length ws=(wM f' l2).map ((l++[cOf (opW sgs w).1 (zt r).1])++·):=by
         rw[he];simp only[wM,hS];cases wM f' l2<;>simp
        have hap2:=OwnS.append1 (P:=prog) (t:=149) (c:=[str (opW sgs w).1,int (zt r).1.n0,int (zt r).1.n1,int (zt r).1.n2,int (zt r).1.has,.sl 1 (zD (zt r).1.pre),int 0,int 0,int 0,int 0,.nil]) (hO.more (some ⟨154,5,false,[(zt r).1.enc]⟩)) V4 V5 V6 V7 rfl (by omega) (by unfold maxLen;unfold lim at hwn;omega) (by unfold lim at hwn;omega)
        simp only[Part.enc] at hap2
        simp[h4',b0,hor,hrow,hop,hopn,hs1',hs2',hor2,hrow2,hE1,hE2,hE3,hR1,hR2,hpos,hpos2,hrp,hok,hap2,zx,zR,zh,zo,zf]
        exact⟨jC (v4:=v5) (c:=cOf (opW sgs w).1 (zt r).1) (f':=f') (l':=l2) (l:=l) (xs:=xs) (by omega) (by omega) hdl2 (by simp) hv5' (by simpa using OwnS.after) (by simp<;>omega) rfl hxs (by simp) (by simp[hk0,n0,n1,n2,b0]) he',by simpa[zad] using hmu5⟩
     ·have hR1:((opW sgs w).2==[])=false:=by simpa using hR
      have hR2:(opW sgs w).2.isEmpty=false:=by simpa using hR
      have hrp:=fun hp' nx'=>hrd (opW sgs w).2 hrl2 hp' nx'
      simp only[wz,Part.enc] at hrp
      cases hok:(zt (opW sgs w).2).2
      ·have hS:ke w l'=none:=by unfold ke;rw[if_neg hA,if_neg (fun h=>hR h.2.1),if_neg (by rw[hok];simp)]
       have he':wM ws.length ws=none:=by rw[he];simp only[wM,hS];rfl
       rw[he'] at hval
       simp[h4',b0,hor,hrow,hop,hopn,hs1',hE1,hE2,hE3,hR1,hR2,hrp,hok,zx,zR,hval,Qr,zF,f147]
      ·have hS:ke w l'=some (cOf (opW sgs w).1 (zt (opW sgs w).2).1,l'):=by unfold ke;rw[if_neg hA,if_neg (fun h=>hR h.2.1),if_pos hok]
       have he':wM ws.length ws=(wM f' l').map ((l++[cOf (opW sgs w).1 (zt (opW sgs w).2).1])++·):=by
        rw[he];simp only[wM,hS];cases wM f' l'<;>simp
       have hap2:=OwnS.append1 (P:=prog) (t:=149) (c:=[str (opW sgs w).1,int (zt (opW sgs w).2).1.n0,int (zt (opW sgs w).2).1.n1,int (zt (opW sgs w).2).1.n2,int (zt (opW sgs w).2).1.has,.sl 1 (zD (zt (opW sgs w).2).1.pre),int 0,int 0,int 0,int 0,.nil]) (hO.more (some ⟨154,5,false,[(zt (opW sgs w).2).1.enc]⟩)) V4 V5 V6 V7 rfl (by omega) (by unfold maxLen;unfold lim at hwn;omega) (by unfold lim at hwn;omega)
       simp only[Part.enc] at hap2
       simp[h4',b0,hor,hrow,hop,hopn,hs1',hE1,hE2,hE3,hR1,hR2,hrp,hok,hap2,zx,zR,zh,zo,zf]
       exact⟨jC (v4:=v4) (c:=cOf (opW sgs w).1 (zt (opW sgs w).2).1) (f':=f') (l':=l') (l:=l) (xs:=xs) (by omega) (by omega) hdl (by simp) hv4' (by simpa using OwnS.after) (by simp<;>omega) rfl hxs (by simp) (by simp[hk0,n0,n1,n2,b0]) he',by simpa[zad] using hmu⟩
theorem Yr:za prog 147 (zd false [] (VU zox)) :=
 xw (fn:=f147) zq1 ⟨_,func147,by kernel_rfl,rfl,by kernel_rfl⟩ false [] _ fun args r h w S vs hz=>by
  obtain⟨l,rfl,hp,rfl⟩:=ze h
  obtain⟨r0,h1,h2⟩:=JA l hp
  exact⟨_,r0,hz,by simp[f147],h1,h2⟩
noncomputable def vk (s:Str) (c:Cut):Bool:=decide (qx s.lo c≤0)&&(s.endless||decide (qx c s.hi<0))
def Str.small (s:Str):Prop:=s.lo.v.small∧s.hi.v.small
theorem jD (x y:Cut) (hp:Hp) (nx:Nat) (h1:x.v.small) (h2:y.v.small):zG [.g y8,.g y8] (FCC fun v w=>int (qx v w)) [.agg x.enc,.agg y.enc] hp nx=some (int (qx x y),hp,nx):=zfy x y (.agg x.enc) (.agg y.enc) hp nx (zhk x) (zhk y) (by simp only[zj,zp8]) h1 h2
noncomputable abbrev zoy:Ctx:=zC prog [(199,zG [.g y8,.g y8] (FCC fun v w=>int (qx v w)))]
theorem zoz:AM.Good zoy (fun g=>[199].contains g):=zk mixed ⟨yt,fun _=>qv _ _,trivial⟩
set_option maxRecDepth 100000 in
theorem zi4:za prog 234 (yf zoy f234):=zX (code:=_) zoz ⟨func234,by kernel_rfl,rfl,by kernel_rfl⟩
theorem zoA (s:Str) (c:Cut) (hs:s.small) (hc:c.v.small) (hp:Hp) (nx id:Nat) (hid:id<nx) (hh:hp id=some ⟨162,5,false,[c.enc]⟩) :
  yf zoy f234 [.agg s.enc,.ref id 0 0] hp nx=some (boo (vk s c),upd hp nx (some ⟨164,11,false,[s.enc]⟩),nx+1):=by
 unfold yf
 rw[if_pos (by simp[f234])]
 refine qB rfl ?_
 have h1:=fun hp nx=>jD s.lo c hp nx hs.1 hc
 have h2:=fun hp nx=>jD c s.hi hp nx hc hs.2
 have e1:¬id=nx:=by omega
 simp only[Cut.enc] at h1 h2 hh
 by_cases ha:qx s.lo c≤0<;>cases hb:s.endless <;>
  simp[Str.enc,Cut.enc,h1,h2,hh,e1,ha,hb,vk,f234]
noncomputable def zi5 (c:Cut):Nat→List Str→Int
 | _,[]=>-1
 | k,s::l=>if vk s c=true then k else zi5 c (k+1) l
theorem zhm (c:Cut):∀(l:List Str) (k:Nat),decide (0≤zi5 c k l)=l.any (vk · c)
 | [],k=>by simp[zi5]
 | s::l,k=>by
   by_cases h:vk s c=true
   ·have e:zi5 c k (s::l)=k:=by simp only[zi5,if_pos h]
    rw[e,List.any_cons,h];simp
   ·have e:zi5 c k (s::l)=zi5 c (k+1) l:=by simp only[zi5,if_neg h]
    rw[e,zhm c l (k+1),List.any_cons,Bool.eq_false_iff.2 h];rfl
noncomputable abbrev zuG:Ctx:=zC prog [(234,yf zoy f234)]
theorem zq3:AM.Good zuG (fun g=>([]:List Nat).contains g):=zk mixed ⟨zi4,by simp,trivial⟩
set_option maxRecDepth 100000 in
theorem zlw:za prog 203 (yf zuG f203):=zX (code:=_) zq3 ⟨func203,by kernel_rfl,rfl,by kernel_rfl⟩
def fnC (id:Nat):PV:=.fn (.func 234) [] [.ref id 0 0]
def zq4 (r:PV) (hp:Hp) (nx:Nat) (x:PV) (hp':Hp) (nx':Nat):Prop:=x=r∧nx≤nx'∧∀j,j<nx→hp' j=hp j
theorem zq5 (l:List Str) (c:Cut) (hl:l.length≤lim) (hs:∀s∈l,s.small) (hc:c.v.small) (hp0:Hp) (nx0 id:Nat) (hid:id<nx0) (hh:hp0 id=some ⟨162,5,false,[c.enc]⟩) :
  ∃x hp' nx',yf zuG f203 [.sl 11 (zN l),fnC id] hp0 nx0=some (x,hp',nx')∧zq4 (int (zi5 c 0 l)) hp0 nx0 x hp' nx':=by
 unfold yf
 rw[if_pos (by simp[f203])]
 refine zM rfl ?_
 unfold lim at hl
 have hel:(zN l).length=l.length:=by simp[zN]
 simp[fnC,hel]
 refine zu (fun k σ hp nx=>σ 0=.sl 11 (zN l)∧σ 1=fnC id∧σ 7=int l.length∧σ 8=int k∧nx0≤nx∧(∀j,j<nx0→hp j=hp0 j)∧zi5 c 0 l=zi5 c k (l.drop k)) l.length ⟨by simp,by simp[fnC],by simp,by simp,Nat.le_refl _,fun _ _=>rfl,by simp⟩ ?_
 rintro k σ hp nx hk ⟨h0,h1,h7,h8,hnx,hfr,he⟩
 by_cases hlt:k<l.length
 ·have hw:IntKind.i64.wrap ((k:Int)+1)=(k:Int)+1:=zc (by omega) (by omega)
  have hrun:=zoA l[k] c (hs _ (List.getElem_mem hlt)) hc hp nx id (by omega) (by rw[hfr id hid];exact hh)
  have hke:∀h:k<(zN l).length,(zN l)[k]=l[k].enc:=fun h=>by simp[zN]
  simp only[Str.enc,Cut.enc,List.cons_append,List.nil_append] at hrun hke
  rw[List.drop_eq_getElem_cons hlt] at he
  simp only[zi5] at he
  cases hz:vk l[k] c
  ·rw[hz,if_neg (by simp)] at he
   rw[hz] at hrun
   simp[h0,h1,h7,h8,fnC,hlt,hel,hke,hrun,hw]
   exact⟨hlt,by omega,fun j hj=>by rw[zq _ _ _ _ (by omega)];exact hfr j hj,he⟩
  ·rw[hz,if_pos rfl] at he
   rw[hz] at hrun
   simp[h0,h1,h7,h8,fnC,hlt,hel,hke,hrun,hw,f203]
   exact⟨by rw[he],by omega,fun j hj=>by rw[zq _ _ _ _ (by omega)];exact hfr j hj⟩
 ·obtain rfl:k=l.length:=by omega
  rw[List.drop_length] at he
  simp only[zi5] at he
  simp[h0,h1,h7,h8,f203]
  exact⟨by rw[he],hnx,hfr⟩
noncomputable abbrev zuH:Ctx:=zC prog [(203,yf zuG f203)]
theorem zq6:AM.Good zuH (fun g=>([]:List Nat).contains g):=zk mixed ⟨zlw,by simp,trivial⟩
set_option maxRecDepth 100000 in
theorem zlx:za prog 155 (yf zuH f155):=zX (code:=_) zq6 ⟨func155,by kernel_rfl,rfl,by kernel_rfl⟩
noncomputable def wG (l:List Str) (c:Cut):Bool:=l.any (vk · c)
theorem zq7 (l:List Str) (c:Cut) (hl:l.length≤lim) (hs:∀s∈l,s.small) (hc:c.v.small) (hp0:Hp) (nx0 id:Nat) (hid:id<nx0) (hh:hp0 id=some ⟨162,5,false,[c.enc]⟩) :
  ∃x hp' nx',yf zuH f155 [.sl 11 (zN l),fnC id] hp0 nx0=some (x,hp',nx')∧zq4 (boo (wG l c)) hp0 nx0 x hp' nx':=by
 unfold yf
 rw[if_pos (by simp[f155])]
 refine zM rfl ?_
 obtain⟨x,hp',nx',h1,h2,h3,h4⟩:=zq5 l c hl hs hc hp0 nx0 id hid hh
 subst h2
 have ha:=zhm c l 0
 simp only[fnC] at h1
 simp[fnC,h1,ha,zq4,wG,h3,f155]
 exact h4
noncomputable abbrev zvV:Ctx:=zC prog [(155,yf zuH f155)]
theorem zq8:AM.Good zvV (fun g=>([]:List Nat).contains g):=zk mixed ⟨zlx,by simp,trivial⟩
def qK (l:List Str):Prop:=l.length≤lim∧∀s∈l,s.small
theorem zae {a b:Str} (h:a.enc=b.enc):a=b:=by
 obtain⟨⟨⟨a1,a2,a3,a4⟩,a5⟩,⟨⟨a6,a7,a8,a9⟩,a10⟩,a11⟩:=a
 obtain⟨⟨⟨b1,b2,b3,b4⟩,b5⟩,⟨⟨b6,b7,b8,b9⟩,b10⟩,b11⟩:=b
 simp only[Str.enc,Cut.enc,List.cons_append,List.nil_append,List.cons.injEq,and_true] at h
 obtain⟨h1,h2,h3,h4,h5,h6,h7,h8,h9,h10,h11⟩:=h
 injection h4 with _ h4
 injection h9 with _ h9
 rw[zP h1,zP h2,zP h3,wt h4,vR h5,zP h6,zP h7,zP h8,wt h9,vR h10,vR h11]
theorem yu {a b:List Str} (h:zN a=zN b):a=b:=yz (fun _ _ e=>zae e) h
noncomputable def FRC (f:List Str→Cut→PV):List PV→Option PV:=zJ (α:=List Str×Cut) (fun a=>[.sl 11 (zN a.1),.agg a.2.enc]) (fun a=>qK a.1∧a.2.v.small) (fun a=>f a.1 a.2)
theorem ztt:∀a b:List Str×Cut,[PV.sl 11 (zN a.1),.agg a.2.enc]=[PV.sl 11 (zN b.1),.agg b.2.enc]→a=b:=by
 rintro⟨a1,a2⟩ ⟨b1,b2⟩ e
 simp only[List.cons.injEq,and_true] at e
 obtain⟨e1,e2⟩:=e
 injection e1 with _ e1
 injection e2 with e2
 rw[yu e1,jg e2]
theorem zfC (l:List Str) (c:Cut) (hl:qK l) (hc:c.v.small):zg zvV f200 [.sl 11 (zN l),.agg c.enc]=some (boo (wG l c)):=by
 refine zb rfl ?_
 obtain⟨x,hp',nx',h1,h2,h3,h4⟩:=zq7 l c hl.1 hl.2 hc (upd (fun _=>none) 0 (some ⟨162,5,false,[c.enc]⟩)) 1 0 (by omega) (by simp)
 subst h2
 simp only[fnC,Cut.enc] at h1
 simp[Cut.enc,h1,qe,f200]
theorem zdo:za prog 200 (zG [.s 11 y9,.g y8] (FRC fun l c=>boo (wG l c))) :=
 zZ (fn:=f200) zq8 ⟨_,func200,by kernel_rfl,rfl,by kernel_rfl⟩ _ _ fun args r h=>by
  obtain⟨⟨l,c⟩,rfl,⟨h1,h2⟩,rfl⟩:=ze h
  exact⟨by simp[f200],_,zfC l c h1 h2,Stands.refl _⟩
end Go.Proofs.YtjcofiomfmebkaaGreatDoor
