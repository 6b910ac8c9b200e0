/-
Books: phases, what comes too near.
The checker: its salts, its layers, its holds.
The asker: which conditions hold (its walks; what segments say is remembered).
The asker: what Holds and Member answer.
slices.ContainsFunc at spans, with a function of the program's.
-/
import Derived.Test.YtanbabpnlgfcpaaGreatDoorG23
import Derived.Test.YtanbabpnlgfcpaaGreatDoorG21
import Derived.Test.YtanbabpnlgfcpaaGreatDoorG22
import Derived.Test.YtanbabpnlgfcpaaGreatDoorG20
set_option maxRecDepth 8000
namespace Go.Proofs.YtanbabpnlgfcpaaGreatDoor
open Go.Proofs.Tryz
open Go.RowKit Go.AM Go.SpanLaw
def prevAt (p:Option Int) (x:Int):Bool:=match p with
 | none=>false
 | some q=>decide (x≤q)
def phF:Option Int→List Sp→List Phs→Int
 | _,_,[]=>0
 | p,b,x::l=>if j6 x.at_=true then (if prevAt p x.at_=true then 8 else if qx x.spans=0 then (if x.spans=b then 7 else phF (some x.at_) x.spans l) else qx x.spans) else 1
def qJ (l:List Phs):Int:=if (50:Int)<l.length then 2 else phF none [] l
def prevA (l:List Phs) (k:Nat):Option Int:=if k=0 then none else (l[k - 1]?).map (·.at_)
theorem equalS2_sound:za prog 110 (zc false [2,2] (FPP (fun a b=>boo (decide (a=b))) fun a _=>a.length≤lim)) :=
 zJ (fn:=f110) wA ⟨_,func110,by kernel_rfl,rfl,by kernel_rfl⟩ false [2,2] _ fun args r h=>by
  obtain⟨⟨a,b⟩,rfl,hx,rfl⟩:=zf h
  exact⟨Nat.le_trans (Nat.le_refl 2) (by decide),_,equalS_eval a b hx,zI _⟩
theorem eqS_call (a b:List Sp) (v:PV) (hp:Hp) (nx:Nat) (h:a.length≤lim) (hv:v=.sl 2 (b.map encS)∨(v=.nil∧b=[])):zc false [2,2] (FPP (fun a b=>boo (decide (a=b))) fun a _=>a.length≤lim) [.sl 2 (a.map encS),v] hp nx=some (boo (decide (a=b)),hp,nx):=by
 have hs:FPP (fun a b=>boo (decide (a=b))) (fun a _=>a.length≤lim) [.sl 2 (a.map encS),.sl 2 (b.map encS)]=some (boo (decide (a=b))) :=
  zn (enc:=fun a:List Sp×List Sp=>[PV.sl 2 (a.1.map encS),.sl 2 (a.2.map encS)]) (a:=(a,b)) (fun a b e=>by
   obtain⟨a1,a2⟩:=a;obtain⟨b1,b2⟩:=b
   simp only[List.cons.injEq,and_true] at e
   rw[yE e.1,yE e.2]) h
 rcases hv with rfl | ⟨rfl,rfl⟩
 ·exact zt rfl hs (.inl rfl)
 ·exact zt rfl hs (.inl rfl)
noncomputable abbrev Cph:Ctx:=zA prog [(15,zc false [] (FIb j6)),(27,zc false [] (FP (fun l=>int (qx l)) fun _=>True)),(110,zc false [2,2] (FPP (fun a b=>boo (decide (a=b))) fun a _=>a.length≤lim))]
theorem goodph:AM.Good Cph (fun g=>([]:List Nat).contains g):=zk mixed ⟨yF,by simp,kC,by simp,equalS2_sound,by simp,trivial⟩
noncomputable def FPh (out:List Phs→PV):List PV→Option PV:=zG (α:=List Phs) (fun l=>[.sl 2 (l.map Phs.enc)]) (fun l=>sumB Phs.cb l≤lim) out
theorem phss_inj {a b:List Phs} (h:PV.sl 2 (a.map Phs.enc)=PV.sl 2 (b.map Phs.enc)):a=b:=by
 injection h with _ h
 exact qH (fun _ _=>phs_inj) h
theorem FPh_call (out:List Phs→PV) (l:List Phs) (hp:Hp) (nx:Nat) (h:sumB Phs.cb l≤lim):zc false [] (FPh out) [.sl 2 (l.map Phs.enc)] hp nx=some (out l,hp,nx) :=
 zt rfl (zn (enc:=fun l:List Phs=>[PV.sl 2 (l.map Phs.enc)]) (a:=l) (fun a b e=>by simp only[List.cons.injEq,and_true] at e;exact phss_inj e) h) (.inr rfl)
theorem phases_eval (l:List Phs) (h:sumB Phs.cb l≤lim):zi Cph f83 [.sl 2 (l.map Phs.enc)]=some (int (qJ l)):=by
 have hlen:=qg phs_pos l
 unfold lim at h
 refine zb rfl ?_
 by_cases h50:(50:Int)<l.length
 ·have hv:qJ l=2:=by unfold qJ;rw[if_pos h50]
  simp[h50,hv,f83]
 have hv:qJ l=phF none [] l:=by unfold qJ;rw[if_neg h50]
 rw[hv]
 simp[h50]
 refine zC (fun k σ hp nx=>σ 0=.sl 2 (l.map Phs.enc)∧σ 10=.sl 2 (l.map Phs.enc)∧σ 11=int l.length∧σ 12=int k∧∃b,(σ 3=.sl 2 (b.map encS)∨(σ 3=.nil∧b=[]))∧phF none [] l=phF (prevA l k) b (l.drop k)) l.length
  ⟨by simp,by simp,by simp,by simp,[],.inr ⟨by simp,rfl⟩,by simp[prevA]⟩ ?_
 rintro k σ hp nx hk ⟨h0,h10,h11,h12,b,hb,he⟩
 by_cases hlt:k<l.length
 ·have hm:=qA (f:=Phs.cb) (List.getElem_mem hlt)
  obtain⟨x,hx⟩:∃x,l[k]=x:=⟨_,rfl⟩
  have hpn:prevA l (k+1)=some x.at_:=by simp[prevA,hlt,hx]
  rw[hx] at hm
  have hmx:x.cb=1+x.spans.length:=rfl
  rw[List.drop_eq_getElem_cons hlt,hx] at he
  simp only[phF] at he
  have hke:∀h:k<(l.map Phs.enc).length,(l.map Phs.enc)[k]=x.enc:=fun h=>by simp[hx]
  have hcs:=fun hp nx=>FP_call (fun l=>int (qx l)) (fun _=>True) x.spans hp nx trivial
  have heq:=fun hp nx=>eqS_call x.spans b (σ 3) hp nx (by unfold lim;omega) hb
  have hw:IntKind.i64.wrap ((k:Int)+1)=(k:Int)+1:=zd (by omega) (by omega)
  cases ht:j6 x.at_
  case false =>
   rw[ht,if_neg (by simp)] at he
   simp[h0,h10,h11,h12,hlt,hx,Phs.enc,ht,he,f83]
  rw[ht,if_pos rfl] at he
  have step:∀(hp:Hp) (nx:Nat) (hpv:prevAt (prevA l k) x.at_=false),phF none [] l=if qx x.spans=0 then (if x.spans=b then 7 else phF (some x.at_) x.spans (l.drop (k+1))) else qx x.spans:=fun _ _ hpv=>by
   rw[hpv,if_neg (by simp)] at he;exact he
  by_cases k0:k=0
  ·subst k0
   have he:=step hp nx rfl
   by_cases hs:qx x.spans=0
   case neg =>
    rw[if_neg hs] at he
    have hs2:(qx x.spans != 0)=true:=by simpa using hs
    simp[h0,h10,h11,h12,hlt,hx,Phs.enc,ht,hcs,hs2,he,f83]
   rw[if_pos hs] at he
   by_cases hq:x.spans=b
   ·rw[if_pos hq] at he
    rw[decide_eq_true hq] at heq
    simp[h0,h10,h11,h12,hlt,hx,Phs.enc,ht,hcs,hs,heq,he,f83]
   ·rw[if_neg hq] at he
    rw[decide_eq_false hq] at heq
    simp[h0,h10,h11,h12,hlt,hx,Phs.enc,ht,hcs,hs,heq,hw]
    exact⟨by omega,x.spans,rfl,by rw[he,show prevA l 1=some x.at_ from hpn];simp⟩
  ·obtain⟨j,rfl⟩:∃j,k=j+1:=⟨k - 1,by omega⟩
   have hj:j<l.length:=by omega
   have wj:IntKind.i64.wrap ((j:Int)+1 - 1)=(j:Int):=by rw[zd (by omega) (by omega)];omega
   have wj':IntKind.i64.wrap (j:Int)=(j:Int):=zd (by omega) (by omega)
   have wk:IntKind.i64.wrap ((j:Int)+1+1)=(j:Int)+1+1:=zd (by omega) (by omega)
   have j1:((j:Int)+1).toNat=j+1:=by omega
   have j2:0<(j:Int)+1:=by omega
   have j3:0≤(j:Int)+1:=by omega
   have j4:(j:Int)+1<l.length:=by omega
   have hpv:prevAt (prevA l (j+1)) x.at_=decide (x.at_≤l[j].at_):=by simp[prevA,hj,prevAt]
   by_cases hc:x.at_≤l[j].at_
   ·rw[hpv,if_pos (by simpa using hc)] at he
    simp[h0,h10,h11,h12,hlt,hj,hx,Phs.enc,ht,wj,wj',j1,j2,j3,j4,hc,he,f83]
   have he:=step hp nx (by rw[hpv];simpa using hc)
   by_cases hs:qx x.spans=0
   case neg =>
    rw[if_neg hs] at he
    have hs2:(qx x.spans != 0)=true:=by simpa using hs
    simp[h0,h10,h11,h12,hlt,hj,hx,Phs.enc,ht,wj,wj',j1,j2,j3,j4,hc,hcs,hs2,he,f83]
   rw[if_pos hs] at he
   by_cases hq:x.spans=b
   ·rw[if_pos hq] at he
    rw[decide_eq_true hq] at heq
    simp[h0,h10,h11,h12,hlt,hj,hx,Phs.enc,ht,wj,wj',j1,j2,j3,j4,hc,hcs,hs,heq,he,f83]
   ·rw[if_neg hq] at he
    rw[decide_eq_false hq] at heq
    simp[h0,h10,h11,h12,hlt,hj,hx,Phs.enc,ht,wj,wj',wk,j1,j2,j3,j4,hc,hcs,hs,heq]
    exact⟨by omega,x.spans,rfl,by rw[he,hpn]⟩
 ·obtain rfl:k=l.length:=by omega
  rw[List.drop_length] at he
  simp only[phF] at he
  simp[h0,h10,h11,h12,he,f83]
theorem phases_sound:za prog 83 (zc false [] (FPh fun l=>int (qJ l))) :=
 zJ (fn:=f83) goodph ⟨_,func83,by kernel_rfl,rfl,by kernel_rfl⟩ false [] _ fun args r h=>by
  obtain⟨l,rfl,hx,rfl⟩:=zf h
  exact⟨by simp[f83],_,phases_eval l hx,zI _⟩
def endF (l:List Phs) (i:Nat):Int:=match l[i+1]? with
 | some p=>p.at_
 | none=>1125899906842624
noncomputable def FPi2 (f:List Phs→Nat→PV):List PV→Option PV:=zG (α:=List Phs×Nat) (fun a=>[.sl 2 (a.1.map Phs.enc),int a.2]) (fun a=>a.1.length≤lim∧a.2≤lim) (fun a=>f a.1 a.2)
theorem FPi2_call (f:List Phs→Nat→PV) (l:List Phs) (i:Nat) (hp:Hp) (nx:Nat) (h:l.length≤lim∧i≤lim):zc false [] (FPi2 f) [.sl 2 (l.map Phs.enc),int i] hp nx=some (f l i,hp,nx) :=
 zt rfl (zn (enc:=fun a:List Phs×Nat=>[PV.sl 2 (a.1.map Phs.enc),int a.2]) (a:=(l,i)) (fun a b e=>by
  obtain⟨a1,a2⟩:=a;obtain⟨b1,b2⟩:=b
  simp only[List.cons.injEq,and_true] at e
  have:=zD e.2
  rw[phss_inj e.1,show a2=b2 by omega]) h) (.inr rfl)
theorem end_sound:za prog 112 (zc false [] (FPi2 fun l i=>int (endF l i))) :=
 zJ (fn:=f112) wA ⟨_,func112,by kernel_rfl,rfl,by kernel_rfl⟩ false [] _ fun args r h=>by
  obtain⟨⟨l,i⟩,rfl,⟨h1,h2⟩,rfl⟩:=zf h
  unfold lim at h1 h2
  simp only at h1 h2
  refine⟨by simp[f112],_,zb rfl ?_,zI _⟩
  have w1:IntKind.i64.wrap ((i:Int)+1)=(i:Int)+1:=zd (by omega) (by omega)
  by_cases hlt:i+1<l.length
  ·have hlt':(i:Int)+1<l.length:=by omega
   have i1:((i:Int)+1).toNat=i+1:=by omega
   have i2:0≤(i:Int)+1:=by omega
   simp[w1,hlt,hlt',i1,i2,endF,Phs.enc,f112]
  ·have hlt':¬(i:Int)+1<l.length:=by omega
   have hno:l[i+1]?=none:=List.getElem?_eq_none (by omega)
   simp[w1,hlt',endF,hno,f112]
def wX:List Sp→List Sp→Bool
 | a::l,b::m=>if a.2≤b.1 then wX l (b::m) else if b.2≤a.1 then wX (a::l) m else true
 | _,_=>false
termination_by a b=>a.length+b.length
theorem meets_drop {a b:List Sp} {i k:Nat} (hi:i<a.length) (hk:k<b.length):wX (a.drop i) (b.drop k)=if a[i].2≤b[k].1 then wX (a.drop (i+1)) (b.drop k) else if b[k].2≤a[i].1 then wX (a.drop i) (b.drop (k+1)) else true:=by
 rw[List.drop_eq_getElem_cons hi,List.drop_eq_getElem_cons hk,wX]
theorem meets_nil_l (b:List Sp):wX [] b=false:=by unfold wX;rfl
theorem meets_nil_r (a:List Sp):wX a []=false:=by cases a<;>(unfold wX;rfl)
theorem meets_eval (a b:List Sp) (ha:a.length≤lim) (hb:b.length≤lim):zi C0 f113 [.sl 2 (a.map encS),.sl 2 (b.map encS)]=some (boo (wX a b)):=by
 unfold lim at ha hb
 refine zb rfl ?_
 simp
 refine wv (fun st=>st.σ 0=.sl 2 (a.map encS)∧st.σ 1=.sl 2 (b.map encS)∧∃i k:Nat,st.σ 5=int i∧st.σ 6=int k∧i≤a.length∧k≤b.length∧wX a b=wX (a.drop i) (b.drop k))
  (fun st=>a.length+b.length - (jn (st.σ 5)).toNat - (jn (st.σ 6)).toNat) ⟨by simp,by simp,0,0,by simp,by simp,by simp,by simp,by simp⟩ ?_
 rintro⟨σ,hp,nx⟩ ⟨h0,h1,i,k,h5,h6,hi,hk,he⟩
 simp only at h0 h1 h5 h6
 by_cases hia:i<a.length
 ·by_cases hkb:k<b.length
  ·rw[meets_drop hia hkb] at he
   have wi:IntKind.i64.wrap ((i:Int)+1)=(i:Int)+1:=zd (by omega) (by omega)
   have wk:IntKind.i64.wrap ((k:Int)+1)=(k:Int)+1:=zd (by omega) (by omega)
   by_cases h2:a[i].2≤b[k].1
   ·rw[if_pos h2] at he
    simp[h0,h1,h5,h6,hia,hkb,h2,wi]
    exact⟨⟨i+1,by omega,k,rfl,by omega,hk,he⟩,by omega⟩
   ·rw[if_neg h2] at he
    by_cases h3:b[k].2≤a[i].1
    ·rw[if_pos h3] at he
     simp[h0,h1,h5,h6,hia,hkb,h2,h3,wk]
     exact⟨⟨i,rfl,k+1,by omega,hi,by omega,he⟩,by omega⟩
    ·rw[if_neg h3] at he
     simp[h0,h1,h5,h6,hia,hkb,h2,h3,he,f113]
  ·obtain rfl:k=b.length:=by omega
   rw[List.drop_length,meets_nil_r] at he
   simp[h0,h1,h5,h6,hia,he,f113]
 ·obtain rfl:i=a.length:=by omega
  rw[List.drop_length,meets_nil_l] at he
  simp[h0,h1,h5,h6,he,f113]
theorem meets_sound:za prog 113 (zc false [] (FPP (fun a b=>boo (wX a b)) fun a b=>a.length≤lim∧b.length≤lim)) :=
 zJ (fn:=f113) wA ⟨_,func113,by kernel_rfl,rfl,by kernel_rfl⟩ false [] _ fun args r h=>by
  obtain⟨⟨a,b⟩,rfl,hx,rfl⟩:=zf h
  exact⟨by simp[f113],_,meets_eval a b hx.1 hx.2,zI _⟩
def nearB (a b:List Phs) (i k:Nat) (p q:Phs) (rest:Int):Bool:=(decide (p.at_≤q.at_)&&decide (q.at_<endF a i+rest))||(decide (q.at_≤p.at_)&&decide (p.at_<endF b k+rest))
def hitB (a b:List Phs) (i k:Nat) (p q:Phs) (rest:Int):Bool:=nearB a b i k p q rest&&wX p.spans q.spans
def vu (a b:List Phs) (i:Nat) (p:Phs) (rest:Int):Nat→List Phs→Bool
 | _,[]=>false
 | k,q::l=>hitB a b i k p q rest||vu a b i p rest (k+1) l
def vv (a b:List Phs) (rest:Int):Nat→List Phs→Bool
 | _,[]=>false
 | i,p::l=>vu a b i p rest 0 b||vv a b rest (i+1) l
def xg (a b:Xp) (rest:Int):Bool:=vv a.phases b.phases rest 0 a.phases
def timesOk (l:List Phs):Prop:=∀p∈l,0≤p.at_∧p.at_≤4000000000
theorem end_range {l:List Phs} (h:timesOk l) (i:Nat):0≤endF l i∧endF l i≤1125899906842624:=by
 unfold endF
 split
 ·rename_i p hp
  have:=h p (List.mem_of_getElem? hp)
  omega
 ·omega
def Xp.okC (x:Xp):Prop:=timesOk x.phases∧x.cb≤lim
noncomputable def FClash:List PV→Option PV:=zG (α:=Xp×Xp×Int) (fun a=>[.agg a.1.enc,.agg a.2.1.enc,int a.2.2]) (fun a=>a.1.okC∧a.2.1.okC∧0≤a.2.2∧a.2.2≤100000000) (fun a=>boo (xg a.1 a.2.1 a.2.2))
theorem freeze_xp (hp:Hp) (x:Xp):zF hp (.agg x.enc)=some (.agg x.enc,hp):=by
 rw[zS]
 simp
theorem noOwn_xp (x:Xp):PV.noOwn (.agg x.enc)=true:=by
 rw[zS]
 simp
theorem FClash_call (a b:Xp) (rest:Int) (hp:Hp) (nx:Nat) (h:a.okC∧b.okC∧0≤rest∧rest≤100000000):zc false [] FClash [.agg a.enc,.agg b.enc,int rest] hp nx=some (boo (xg a b rest),hp,nx) :=
 zt (hp1:=hp) (show zh hp [.agg a.enc,.agg b.enc,int rest]=some ([.agg a.enc,.agg b.enc,int rest],hp) by simp only[zh,freeze_xp];rfl) (zn (enc:=fun a:Xp×Xp×Int=>[.agg a.1.enc,.agg a.2.1.enc,int a.2.2]) (a:=(a,b,rest)) (fun x y e=>by
  obtain⟨x1,x2,x3⟩:=x;obtain⟨y1,y2,y3⟩:=y
  simp only[List.cons.injEq,and_true,PV.agg.injEq] at e
  rw[xp_inj e.1,xp_inj e.2.1,zD e.2.2]) h) (.inl rfl)
noncomputable abbrev Ccla:Ctx:=zA prog [(112,zc false [] (FPi2 fun l i=>int (endF l i))),(113,zc false [] (FPP (fun a b=>boo (wX a b)) fun a b=>a.length≤lim∧b.length≤lim))]
theorem goodcla:AM.Good Ccla (fun g=>[112,113].contains g):=zk mixed ⟨end_sound,fun _=>zg _ _,meets_sound,fun _=>zg _ _,trivial⟩
@[simp] theorem quietcla1:wy Ccla 112:=qr (by rfl) (zg _ _)
@[simp] theorem quietcla2:wy Ccla 113:=qr (by rfl) (zg _ _)
theorem clash1_drop {a b:List Phs} {rest:Int} {i:Nat} {l:List Phs} (h:i<l.length):vv a b rest i (l.drop i)=(vu a b i l[i] rest 0 b||vv a b rest (i+1) (l.drop (i+1))):=by
 rw[List.drop_eq_getElem_cons h,vv]
theorem clash2_drop {a b:List Phs} {rest:Int} {i k:Nat} {p:Phs} {l:List Phs} (h:k<l.length):vu a b i p rest k (l.drop k)=(hitB a b i k p l[k] rest||vu a b i p rest (k+1) (l.drop (k+1))):=by
 rw[List.drop_eq_getElem_cons h,vu]
set_option maxHeartbeats 2000000 in
theorem clash_eval (a b:Xp) (rest:Int) (ha:a.okC) (hb:b.okC) (hr:0≤rest∧rest≤100000000):zi Ccla f86 [.agg a.enc,.agg b.enc,int rest]=some (boo (xg a b rest)):=by
 obtain⟨hta,hca⟩:=ha
 obtain⟨htb,hcb⟩:=hb
 have hla:=qg phs_pos a.phases
 have hlb:=qg phs_pos b.phases
 have xca:a.cb=a.name.length+a.layer.length+a.flag.length+a.cond.cb+a.salt.length+a.arms.length+sumB Phs.cb a.phases:=rfl
 have xcb:b.cb=b.name.length+b.layer.length+b.flag.length+b.cond.cb+b.salt.length+b.arms.length+sumB Phs.cb b.phases:=rfl
 unfold lim at hca hcb
 refine zb rfl ?_
 simp[zS]
 have hval:xg a b rest=vv a.phases b.phases rest 0 a.phases:=rfl
 refine zC (fun i σ hp nx=>σ 2=int rest∧σ 3=.ref 0 0 0∧σ 4=.ref 1 0 0∧σ 13=.sl 2 (a.phases.map Phs.enc)∧σ 14=int a.phases.length∧σ 15=int i∧2≤nx∧hp 0=some ⟨72,13,false,[a.enc]⟩∧hp 1=some ⟨72,13,false,[b.enc]⟩∧xg a b rest=vv a.phases b.phases rest i (a.phases.drop i)) a.phases.length
  ⟨by simp,by simp,by simp,by simp,by simp,by simp,by simp,by simp[zS],by simp[zS],by rw[hval];simp⟩ ?_
 rintro i σ hp nx hi ⟨h2,h3,h4,h13,h14,h15,hnx,b0,b1,he⟩
 by_cases hlt:i<a.phases.length
 ·obtain⟨p,hpd⟩:∃p,a.phases[i]=p:=⟨_,rfl⟩
  have hpm:=hta p (by rw[←hpd];exact List.getElem_mem hlt)
  have hsp:=qA (f:=Phs.cb) (show p∈a.phases by rw[←hpd];exact List.getElem_mem hlt)
  have hpc:p.cb=1+p.spans.length:=rfl
  rw[clash1_drop hlt,hpd] at he
  have hwi:IntKind.i64.wrap ((i:Int)+1)=(i:Int)+1:=zd (by omega) (by omega)
  have n0:¬0=nx:=by omega
  have n1:¬1=nx:=by omega
  simp[h2,h3,h4,h13,h14,h15,hlt,hpd,Phs.enc,b0,b1,n0,n1,zS]
  obtain⟨P,hP⟩:∃P,nx=P:=⟨_,rfl⟩
  rw[hP]
  have hea:=end_range hta i
  refine zC (fun k σ hp nx=>σ 2=int rest∧σ 3=.ref 0 0 0∧σ 4=.ref 1 0 0∧σ 13=.sl 2 (a.phases.map Phs.enc)∧σ 14=int a.phases.length∧σ 15=int i∧σ 7=int i∧σ 8=.ref P 0 0∧σ 21=.sl 2 (b.phases.map Phs.enc)∧σ 22=int b.phases.length∧σ 23=int k∧2≤P∧P<nx ∧
    hp 0=some ⟨72,13,false,[a.enc]⟩∧hp 1=some ⟨72,13,false,[b.enc]⟩∧hp P=some ⟨75,2,false,[p.enc]⟩∧xg a b rest=(vu a.phases b.phases i p rest k (b.phases.drop k)||vv a.phases b.phases rest (i+1) (a.phases.drop (i+1)))) b.phases.length
   ⟨by simp[h2],by simp[h3],by simp[h4],by simp[h13],by simp[h14],by simp[h15],by simp,by simp,by simp,by simp,by simp,by omega,(by show P<P+1;omega),by simp[b0,show ¬0=P by omega],by simp[b1,show ¬1=P by omega],by simp[Phs.enc],by simpa using he⟩ ?_
  clear h2 h3 h4 h13 h14 h15 hnx b0 b1 n0 n1 hP hi σ hp nx
  rintro k σ hp nx hk ⟨h2,h3,h4,h13,h14,h15,h7,h8,h21,h22,h23,hP2,hPn,b0,b1,bP,he⟩
  by_cases hltk:k<b.phases.length
  ·obtain⟨q,hqd⟩:∃q,b.phases[k]=q:=⟨_,rfl⟩
   have hqm:=htb q (by rw[←hqd];exact List.getElem_mem hltk)
   have hsq:=qA (f:=Phs.cb) (show q∈b.phases by rw[←hqd];exact List.getElem_mem hltk)
   have hqc:q.cb=1+q.spans.length:=rfl
   rw[clash2_drop hltk,hqd] at he
   have hwk:IntKind.i64.wrap ((k:Int)+1)=(k:Int)+1:=zd (by omega) (by omega)
   have heb:=end_range htb k
   have wa:IntKind.i64.wrap (endF a.phases i+rest)=endF a.phases i+rest:=zd (by omega) (by omega)
   have wb:IntKind.i64.wrap (endF b.phases k+rest)=endF b.phases k+rest:=zd (by omega) (by omega)
   have hce:=fun hp nx=>FPi2_call (fun l i=>int (endF l i)) a.phases i hp nx ⟨by unfold lim;omega,by unfold lim;omega⟩
   have hcf:=fun hp nx=>FPi2_call (fun l i=>int (endF l i)) b.phases k hp nx ⟨by unfold lim;omega,by unfold lim;omega⟩
   have hcm:=fun hp nx=>FPP_call (fun a b=>boo (wX a b)) (fun a b=>a.length≤lim∧b.length≤lim) p.spans q.spans hp nx ⟨by unfold lim;omega,by unfold lim;omega⟩
   have n0:¬0=nx:=by omega
   have n1:¬1=nx:=by omega
   have nP:¬P=nx:=by omega
   have hnear:((decide (p.at_≤q.at_)&&decide (q.at_<endF a.phases i+rest))||(decide (q.at_≤p.at_)&&decide (p.at_<endF b.phases k+rest)))=nearB a.phases b.phases i k p q rest:=rfl
   have hhit:(nearB a.phases b.phases i k p q rest&&wX p.spans q.spans)=hitB a.phases b.phases i k p q rest:=rfl
   rw[Phs.enc] at bP
   rw[zS] at b0 b1
   cases hh:hitB a.phases b.phases i k p q rest
   ·rw[hh] at he
    simp[h2,h3,h4,h7,h8,h13,h14,h15,h21,h22,h23,hltk,hqd,Phs.enc,b0,b1,bP,n0,n1,nP,hce,hcf,hcm,wa,wb,hnear,hhit,hh,hwk]
    exact⟨by omega,hP2,by omega,(zS a).symm,(zS b).symm,by rw[he];rfl⟩
   ·rw[hh] at he
    simp[h2,h3,h4,h7,h8,h13,h14,h15,h21,h22,h23,hltk,hqd,Phs.enc,b0,b1,bP,n0,n1,nP,hce,hcf,hcm,wa,wb,hnear,hhit,hh,he,f86]
  ·obtain rfl:k=b.phases.length:=by omega
   rw[List.drop_length] at he
   simp only[vu,Bool.false_or] at he
   simp[h2,h3,h4,h13,h14,h15,h21,h22,h23,hwi]
   exact⟨by omega,by omega,by rw[←zS];exact b0,by rw[←zS];exact b1,he⟩
 ·obtain rfl:i=a.phases.length:=by omega
  rw[List.drop_length] at he
  simp only[vv] at he
  simp[h2,h3,h4,h13,h14,h15,he,f86]
set_option maxRecDepth 100000 in
theorem clash_sound:za prog 86 (zc false [] FClash) :=
 zJ (fn:=f86) goodcla ⟨_,func86,by kernel_rfl,rfl,by kernel_rfl⟩ false [] _ fun args r h=>by
  obtain⟨⟨a,b,rest⟩,rfl,⟨h1,h2,h3⟩,rfl⟩:=zf h
  exact⟨by simp[f86],_,clash_eval a b rest h1 h2 h3,zI _⟩
end Go.Proofs.YtanbabpnlgfcpaaGreatDoor
namespace Go.AM
open Go.RowKit
section
variable (C:Ctx) (ρ:Operand→Option PV) (hp:Hp) (nx:Nat)
@[simp] theorem op_lookup (t:TypeId) (x i:Operand) (ok:Bool):zr C ρ hp nx (.lookup t x i ok)=(do let p ←ρ x;let q ←ρ i;let r ←yL C.P hp t p q ok;some (r,hp,nx)):=by
 simp only[zr];cases ρ x<;>cases ρ i<;>(try rfl);simp;cases yL C.P hp t _ _ ok<;>rfl
@[simp] theorem op_mapUpdate (t:TypeId) (m k x:Operand):zr C ρ hp nx (.mapUpdate t m k x)=(do let p ←ρ m;let q ←ρ k;let y ←ρ x;let h ←jh C.P hp t p q y;some (.tup [],h,nx)):=by
 simp only[zr];cases ρ m<;>cases ρ k<;>cases ρ x<;>(try rfl);simp;cases jh C.P hp t _ _ _<;>rfl
@[simp] theorem op_makeMap (t:TypeId):zr C ρ hp nx (.makeMap t none)=(do let _ ←mapKT C.P t;some (.mp nx,upd hp nx (some ⟨t,0,false,[]⟩),nx+1)):=by
 simp only[zr];cases mapKT C.P t<;>rfl
end
end Go.AM
namespace Go.Proofs.YtanbabpnlgfcpaaGreatDoor
open Go.Proofs.Tryz
open Go.RowKit Go.AM Go.SpanLaw
@[simp] theorem get_ptrn (σ:Nat→PV):AM.get σ (.const (.pointer none))=some (.v (.pointer none)):=rfl
def entM (l:List (List UInt8)):List (List PV):=l.map fun s=>[str s,boo true]
def blkM (l:List (List UInt8)):Blk:=⟨113,0,false,entM l⟩
theorem findE_set (s:List UInt8):∀(l:List (List UInt8)) (i:Nat),(s ∉ l→j9 (.string ⟨s.toArray⟩) (entM l) i=some none)∧(s∈l→∃j,j9 (.string ⟨s.toArray⟩) (entM l) i=some (some (j,boo true)))
 | [],i=>⟨fun _=>rfl,fun h=>by simp at h⟩
 | x::l,i=>by
   obtain⟨h1,h2⟩:=findE_set s l (i+1)
   by_cases he:s=x
   ·refine⟨fun h=>absurd (by simp[he]) h,fun _=>⟨i,?_⟩⟩
    subst he
    simp[entM,j9,yK]
   ·have hk:yK (.string ⟨s.toArray⟩) (.string ⟨x.toArray⟩)=some false:=by
     simp only[yK]
     congr 1
     rw[beq_eq_false_iff_ne]
     intro e
     exact he (by simpa[ByteArray.toList_eq] using e)
    have hf:j9 (.string ⟨s.toArray⟩) (entM (x::l)) i=j9 (.string ⟨s.toArray⟩) (entM l) (i+1):=by
     simp only[entM,List.map_cons,j9,hk]
    refine⟨fun h=>by rw[hf];exact h1 fun h'=>h (List.mem_cons_of_mem _ h'),fun h=>?_⟩
    rcases List.mem_cons.1 h with h | h
    ·exact absurd h he
    ·rw[hf];exact h2 h
@[simp] theorem mapKT_set:mapKT prog 113=some (none,4):=by kernel_rfl
@[simp] theorem zeroV_bool:zeroV prog 4=some (boo false):=by kernel_rfl
theorem look_set {hp:Hp} {id:Nat} {l:List (List UInt8)} (s:List UInt8) (h:hp id=some (blkM l)):yL prog hp 113 (.mp id) (str s) false=some (boo (decide (s∈l))):=by
 obtain⟨h1,h2⟩:=findE_set s l 0
 by_cases hm:s∈l
 ·obtain⟨j,hj⟩:=h2 hm
  simp[yL,entsA,h,blkM,keyOk,hj,hm]
 ·simp[yL,entsA,h,blkM,keyOk,h1 hm,hm]
theorem put_set {hp:Hp} {id:Nat} {l:List (List UInt8)} (s:List UInt8) (h:hp id=some (blkM l)) (hs:s ∉ l):jh prog hp 113 (.mp id) (str s) (boo true)=some (upd hp id (some (blkM (l++[s])))):=by
 obtain⟨h1,h2⟩:=findE_set s l 0
 simp[jh,h,blkM,keyOk,h1 hs]
 simp[entM]
def blkC (b:Bk) (m g:Nat) (any:Bool):Blk:=⟨115,6,false,[b.enc++[.mp m,.mp g,boo any]]⟩
theorem wn (b:Bk) (m g:Nat) (any:Bool):blkC b m g any=⟨115,6,false,[[.sl 3 (b.layers.map Lyr.enc),.sl 4 (b.holds.map Hld.enc),.sl 13 (b.exps.map Xp.enc),.mp m,.mp g,boo any]]⟩:=rfl
def yG (l:List (List UInt8)) (s:List UInt8):Int:=if saltB s=true then (if s∈l then 7 else 0) else 3
def yk (l:List (List UInt8)) (s:List UInt8):List (List UInt8):=if yG l s=0 then l++[s] else l
noncomputable abbrev Csal:Ctx:=zA prog [(107,zc false [] (FS saltB))]
theorem goodsal:AM.Good Csal (fun g=>([]:List Nat).contains g):=zk mixed ⟨isSalt_sound,by simp,trivial⟩
set_option maxRecDepth 100000 in
theorem vN:za prog 80 (hRun Csal f80):=zs (code:=_) goodsal ⟨func80,by kernel_rfl,rfl,by kernel_rfl⟩
theorem salt_run (b:Bk) (l:List (List UInt8)) (s:List UInt8) (hs:s.length≤lim) (any:Bool) (hp:Hp) (nx id m g:Nat) (hc:hp id=some (blkC b m g any)) (hm:hp m=some (blkM l)) :
  hRun Csal f80 [.ref id 0 0,str s] hp nx=some (int (yG l s),upd hp m (some (blkM (yk l s))),nx):=by
 unfold hRun
 rw[if_pos (by simp[f80])]
 refine zZ rfl ?_
 rw[wn] at hc
 have hl:=look_set s hm
 cases hb:saltB s
 ·have h0:yG l s=3:=by simp[yG,hb]
  have hS:upd hp m (some (blkM (yk l s)))=hp:=upd_id _ _ _ (by rw[yk,h0];exact hm)
  simp[hs,hb,h0,hS,f80]
 ·by_cases hx:s∈l
  ·have h0:yG l s=7:=by simp[yG,hb,hx]
   have hS:upd hp m (some (blkM (yk l s)))=hp:=upd_id _ _ _ (by rw[yk,h0];exact hm)
   rw[decide_eq_true hx] at hl
   simp[hs,hb,h0,hS,hc,hl,f80]
  ·have h0:yG l s=0:=by simp[yG,hb,hx]
   have hS:yk l s=l++[s]:=by rw[yk,h0];rfl
   have hp:=put_set s hm hx
   rw[decide_eq_false hx] at hl
   simp[hs,hb,h0,hS,hc,hl,hp,f80]
def wY (r:PV) (l:List (List UInt8)) (m:Nat) (hp:Hp) (nx:Nat) (x:PV) (hp':Hp) (nx':Nat):Prop:=x=r∧nx≤nx'∧hp' m=some (blkM l)∧∀j,j<nx→j≠m→hp' j=hp j
def qt:List UInt8→List (List UInt8)→List Lyr→Int×List (List UInt8)
 | _,l,[]=>(0,l)
 | before,l,x::xs=>if wF x.name before=0 then (if yG l x.salt=0 then (if inB x.rest 0 100000000=true then qt x.name (yk l x.salt) xs else (1,yk l x.salt)) else (yG l x.salt,yk l x.salt)) else (wF x.name before,l)
noncomputable abbrev Clay:Ctx:=zA prog [(79,zc false [] (FSS2 fun a b=>int (wF a b))),(80,hRun Csal f80),(32,zc false [] (F3 inB))]
theorem goodlay:AM.Good Clay (fun g=>([]:List Nat).contains g):=zk mixed ⟨yh,by simp,vN,by simp,yg,by simp,trivial⟩
set_option maxRecDepth 100000 in
theorem layers_sound:za prog 48 (hRun Clay f48):=zs (code:=_) goodlay ⟨func48,by kernel_rfl,rfl,by kernel_rfl⟩
theorem layers_run (b:Bk) (l:List (List UInt8)) (hb:b.cb≤lim) (any:Bool) (hp0:Hp) (nx0 id m g:Nat) (hid:id<nx0) (hmd:m<nx0) (hne:id≠m) (hc0:hp0 id=some (blkC b m g any)) (hm0:hp0 m=some (blkM l)) :
  ∃x hp' nx',hRun Clay f48 [.ref id 0 0] hp0 nx0=some (x,hp',nx')∧wY (int (qt [] l b.layers).1) (qt [] l b.layers).2 m hp0 nx0 x hp' nx':=by
 unfold hRun
 rw[if_pos (by simp[f48])]
 refine zu rfl ?_
 have hlen:=qg vq b.layers
 have hbc:b.cb=sumB Lyr.cb b.layers+sumB Hld.cb b.holds+sumB Xp.cb b.exps:=rfl
 unfold lim at hb
 have hc:=hc0
 rw[wn] at hc
 simp[hc]
 refine zC (fun k σ hp nx=>σ 0=.ref id 0 0∧σ 12=.sl 3 (b.layers.map Lyr.enc)∧σ 13=int b.layers.length∧σ 14=int k∧nx0≤nx∧(∀j,j<nx0→j≠m→hp j=hp0 j)∧∃(before:List UInt8) (l':List (List UInt8)),σ 3=str before∧hp m=some (blkM l')∧qt [] l b.layers=qt before l' (b.layers.drop k)) b.layers.length
  ⟨by simp,by simp,by simp,by simp,Nat.le_refl _,fun _ _ _=>rfl,[],l,by simp,hm0,by simp⟩ ?_
 rintro k σ hp nx hk ⟨h0,h12,h13,h14,hnx,hfr,before,l',h3,hm,he⟩
 by_cases hlt:k<b.layers.length
 ·obtain⟨x,hx⟩:∃x,b.layers[k]=x:=⟨_,rfl⟩
  have hmx:=qA (f:=Lyr.cb) (List.getElem_mem hlt)
  rw[hx] at hmx
  have hxc:x.cb=1+x.name.length+x.salt.length:=rfl
  rw[List.drop_eq_getElem_cons hlt,hx] at he
  simp only[qt] at he
  have hw:IntKind.i64.wrap ((k:Int)+1)=(k:Int)+1:=zd (by omega) (by omega)
  have hnf:=fun hp nx=>Zb (fun a b=>int (wF a b)) x.name before hp nx (by unfold lim;omega) (by simp)
  have nm:¬m=nx:=by omega
  have ni:¬id=nx:=by omega
  have hci:upd hp nx (some ⟨94,3,false,[x.enc]⟩) id=some (blkC b m g any):=by rw[ze _ _ _ _ ni,hfr id hid hne];exact hc0
  have hmi:upd hp nx (some ⟨94,3,false,[x.enc]⟩) m=some (blkM l'):=by rw[ze _ _ _ _ nm];exact hm
  have hsr:=salt_run b l' x.salt (by unfold lim;omega) any _ (nx+1) id m g hci hmi
  simp only[Lyr.enc] at hsr
  have hnx':¬nx=m:=by omega
  by_cases c1:wF x.name before=0
  case neg =>
   rw[if_neg c1] at he
   have c1':(wF x.name before != 0)=true:=by simpa using c1
   simp[h0,h3,h12,h13,h14,hlt,hx,Lyr.enc,hnf,c1',f48,wY,he]
   exact⟨by omega,by rw[ze _ _ _ _ nm];exact hm,fun j hj hjm=>by rw[ze _ _ _ _ (by omega)];exact hfr j hj hjm⟩
  rw[if_pos c1] at he
  by_cases c2:yG l' x.salt=0
  case neg =>
   rw[if_neg c2] at he
   have c2':(yG l' x.salt != 0)=true:=by simpa using c2
   simp[h0,h3,h12,h13,h14,hlt,hx,Lyr.enc,hnf,c1,hsr,c2',f48,wY,he]
   exact⟨by omega,fun j hj hjm=>by rw[ze _ _ _ _ hjm,ze _ _ _ _ (by omega)];exact hfr j hj hjm⟩
  rw[if_pos c2] at he
  cases c3:inB x.rest 0 100000000
  ·rw[c3,if_neg (by simp)] at he
   simp[h0,h3,h12,h13,h14,hlt,hx,Lyr.enc,hnf,c1,hsr,c2,c3,hnx',f48,wY,he]
   exact⟨by omega,fun j hj hjm=>by rw[ze _ _ _ _ hjm,ze _ _ _ _ (by omega)];exact hfr j hj hjm⟩
  ·rw[c3,if_pos rfl] at he
   simp[h0,h3,h12,h13,h14,hlt,hx,Lyr.enc,hnf,c1,hsr,c2,c3,hnx',hw]
   exact⟨by omega,by omega,fun j hj hjm=>by rw[ze _ _ _ _ hjm,ze _ _ _ _ (by omega)];exact hfr j hj hjm,yk l' x.salt,rfl,he⟩
 ·obtain rfl:k=b.layers.length:=by omega
  rw[List.drop_length] at he
  simp only[qt] at he
  simp[h0,h12,h13,h14,f48,wY,he]
  exact⟨hnx,hm,hfr⟩
end Go.Proofs.YtanbabpnlgfcpaaGreatDoor
namespace Go.Proofs.YtanbabpnlgfcpaaGreatDoor
open Go.Proofs.Tryz
open Go.RowKit Go.AM
inductive GoodC:Cnd→Prop
 | mk {k o:Int} {a p n:List UInt8} {v:List Val} {l:List Cnd}:1≤k→k≤5→(k=3→l.length=1)→(k=4→vR o=true→0<v.length)→(∀x∈l,GoodC x)→GoodC (.mk k a o v p n l)
theorem GoodC.kind {c:Cnd} (h:GoodC c):1≤c.kind∧c.kind≤5:=by cases h;exact⟨by assumption,by assumption⟩
theorem GoodC.one {c:Cnd} (h:GoodC c) (hk:c.kind=3):c.args.length=1:=by cases h with | mk _ _ h3 _ _=>exact h3 hk
theorem GoodC.ord {c:Cnd} (h:GoodC c) (hk:c.kind=4) (ho:vR c.op=true):0<c.vals.length:=by cases h with | mk _ _ _ h4 _=>exact h4 hk ho
theorem GoodC.args {c:Cnd} (h:GoodC c):∀x∈c.args,GoodC x:=by cases h with | mk _ _ _ _ h5=>exact h5
theorem faultC_all:∀{l:List Cnd},faultC l=0→∀x∈l,x.fault=0
 | [],_,x,hx=>by cases hx
 | c::l,h,x,hx=>by
   rw[faultC] at h
   split at h
   ·rename_i hc
    rcases List.mem_cons.1 hx with rfl | hx
    ·exact hc
    ·exact faultC_all h x hx
   ·rename_i hc;exact absurd h hc
theorem good_fault (c:Cnd):c.fault=0→GoodC c:=by
 induction c using Cnd.ind with
 | h k a o v p n l hl =>
   intro hf
   rw[cfault_eq] at hf
   split at hf
   case isFalse hh=>exact absurd hf hh
   rename_i hh
   have hargs:=faultC_all hf
   unfold vS at hh
   split at hh
   ·omega
   rename_i h1
   split at hh
   ·omega
   rename_i h2
   simp only[kindC,opC,Cnd.kind,Cnd.op,Bool.or_eq_true,not_or,Bool.not_eq_true',Bool.not_eq_false] at h1
   simp only[xv,w6F,w7F,Cnd.kind,Cnd.op,Cnd.vals,Cnd.args,Bool.or_eq_true,not_or] at h2
   obtain⟨⟨⟨_,_⟩,w6⟩,w7⟩:=h2
   have hk:=h1.1
   simp only[inB,Bool.and_eq_true,decide_eq_true_eq] at hk
   refine .mk hk.1 hk.2 (fun h3=>?_) (fun h4 ho=>?_) fun x hx=>hl x hx (hargs x hx)
   ·refine Decidable.byContradiction fun hn=>w6 ?_
    rw[h3]
    simp only[beq_self_eq_true,Bool.true_and,bne_iff_ne,ne_eq]
    omega
   ·refine Decidable.byContradiction fun hn=>w7 ?_
    rw[h4,ho]
    simp only[beq_self_eq_true,Bool.true_and,bne_iff_ne,ne_eq]
    omega
theorem good_check {c:Cnd} (h:c.check=0):GoodC c:=by
 unfold Cnd.check at h
 split at h
 ·omega
 ·exact good_fault c h
def entI (M:List (Nat×Bool)):List (List PV):=M.map fun p=>[int p.1,boo p.2]
def blkN (M:List (Nat×Bool)):Blk:=⟨120,0,false,entI M⟩
def RightM (f:Nat→Bool) (M:List (Nat×Bool)):Prop:=∀p∈M,p.2=f p.1
theorem findE_int (i:Nat):∀(M:List (Nat×Bool)) (k:Nat),(j9 (.int .i64 i) (entI M) k=some none)∨∃j b,j9 (.int .i64 i) (entI M) k=some (some (k+j,boo b))∧M[j]?=some (i,b)
 | [],k=>.inl rfl
 | (a,b)::M,k=>by
   by_cases h:i=a
   ·subst h
    exact .inr ⟨0,b,by simp[entI,j9,yK],rfl⟩
   ·have hk:yK (.int .i64 (i:Int)) (.int .i64 (a:Int))=some false:=by
     simp only[yK,if_true,Option.some.injEq,beq_eq_false_iff_ne,ne_eq]
     omega
    have hf:j9 (.int .i64 i) (entI ((a,b)::M)) k=j9 (.int .i64 i) (entI M) (k+1):=by
     simp only[entI,List.map_cons,j9,hk]
    rw[hf]
    rcases findE_int i M (k+1) with h1 | ⟨j,b',h1,h2⟩
    ·exact .inl h1
    ·exact .inr ⟨j+1,b',by rw[h1];simp;omega,by simpa using h2⟩
@[simp] theorem mapKT_memo:mapKT prog 120=some (some .i64,4):=by kernel_rfl
theorem look_memo {hp:Hp} {m:Nat} {f:Nat→Bool} {M:List (Nat×Bool)} (hr:RightM f M) (i:Nat) (h:hp m=some (blkN M)):yL prog hp 120 (.mp m) (int i) true=some (.tup [boo (f i),boo true])∨yL prog hp 120 (.mp m) (int i) true=some (.tup [boo false,boo false]):=by
 rcases findE_int i M 0 with h1 | ⟨j,b,h1,h2⟩
 ·exact .inr (by simp[yL,entsA,h,blkN,keyOk,h1])
 ·have:=hr _ (List.mem_of_getElem? h2)
  simp only at this
  exact .inl (by simp[yL,entsA,h,blkN,keyOk,h1,this])
theorem put_memo {hp:Hp} {m:Nat} {f:Nat→Bool} {M:List (Nat×Bool)} (hr:RightM f M) (i:Nat) (h:hp m=some (blkN M)):∃M',jh prog hp 120 (.mp m) (int i) (boo (f i))=some (upd hp m (some (blkN M')))∧RightM f M':=by
 rcases findE_int i M 0 with h1 | ⟨j,b,h1,h2⟩
 ·refine⟨M++[(i,f i)],by simp[jh,h,blkN,keyOk,h1];simp[entI],fun p hp=>?_⟩
  rcases List.mem_append.1 hp with hp | hp
  ·exact hr p hp
  ·simp at hp;rw[hp]
 ·refine⟨M.set j (i,f i),by simp[jh,h,blkN,keyOk,h1];simp[entI,List.map_set],fun p hp=>?_⟩
  rcases List.mem_or_eq_of_mem_set hp with hp | rfl
  ·exact hr p hp
  ·rfl
def blkA (l:List Sgm) (x:Ctxt) (m:Nat):Blk:=⟨122,4,false,[[.sl 10 (l.map Sgm.enc),str x.key,.sl 6 (x.attrs.map encF),.mp m]]⟩
noncomputable abbrev askS:AM.Spec:=hRun C0 f35
set_option maxRecDepth 100000 in
theorem ask_sound:za prog 35 askS:=zs (code:=_) wA ⟨func35,by kernel_rfl,rfl,by kernel_rfl⟩
theorem ask_run (l:List Sgm) (x:Ctxt) (hp:Hp) (nx:Nat):askS [.sl 10 (l.map Sgm.enc),.agg x.enc] hp nx=some (.ref (nx+2) 0 0,upd (upd (upd hp nx (some ⟨30,2,false,[x.enc]⟩)) (nx+1) (some (blkN []))) (nx+2) (some (blkA l x (nx+1))),nx+3):=by
 unfold askS hRun
 rw[if_pos (by simp[f35])]
 refine zZ rfl ?_
 simp[Ctxt.enc,zK,z8,blkA,blkN,entI,f35]
noncomputable def hd1S (sp:AM.Spec):AM.Spec:=hRun (zA prog [(38,sp)]) f58
noncomputable abbrev TAh (sp:AM.Spec):Tab:=[(58,hd1S sp),(38,sp)]
noncomputable abbrev Chd (mem sp:AM.Spec):Ctx:=kV prog [(57,cqctS (TAh sp)),(38,sp),(59,zc false [] FOfSg),(60,mem),(61,zc false [] (FXS (fun x s=>valTup (x.find s)) fun _ _=>True)),(62,zc false [] FPs)] 11 [1000004] []
noncomputable def holdS (mem:AM.Spec):Nat→AM.Spec
 | 0=>fun _ _ _=>none
 | k+1=>hRun (Chd mem (holdS mem k)) f38
noncomputable abbrev Cmb (sp:AM.Spec):Ctx:=zA prog [(74,zc false [] (FKs hkP)),(38,sp)]
noncomputable def memS:Nat→AM.Spec
 | 0=>fun _ _ _=>none
 | n+1=>hRun (Cmb (holdS (memS n) lim)) f60
set_option maxRecDepth 100000 in
theorem hd1_sound {sp:AM.Spec} (h:za prog 38 sp):za prog 58 (hd1S sp) :=
 zs (code:=_) (zk (q:=[]) (l:=[(38,sp)]) mixed ⟨h,by simp,trivial⟩) ⟨func58,by kernel_rfl,rfl,by kernel_rfl⟩
set_option maxRecDepth 100000 in
theorem hold_sound {mem:AM.Spec} (h:za prog 60 mem) (k:Nat):za prog 38 (holdS mem k):=by
 induction k with
 | zero=>exact jY ⟨_,func38,by kernel_rfl,by kernel_rfl⟩
 | succ k ih=>exact zs (code:=_) (C:=Chd mem (holdS mem k)) (good_ofL (q:=[59,61]) mixed ⟨cqct_sound ⟨hd1_sound ih,by simp,ih,by simp,trivial⟩,by simp,ih,by simp,ofSg_sound,fun _=>zg _ _,h,by simp,attrOf_sound,fun _=>zg _ _,passes_sound,by simp,trivial⟩ (by simp[AllBox])) ⟨func38,by kernel_rfl,rfl,by kernel_rfl⟩
set_option maxRecDepth 100000 in
theorem mem_sound (n:Nat):za prog 60 (memS n):=by
 induction n with
 | zero=>exact jY ⟨_,func60,by kernel_rfl,by kernel_rfl⟩
 | succ n ih=>exact zs (code:=_) (C:=Cmb (holdS (memS n) lim)) (zk (q:=[74]) mixed ⟨hasKey_sound,fun _=>zg _ _,hold_sound ih lim,by simp,trivial⟩) ⟨func60,by kernel_rfl,rfl,by kernel_rfl⟩
noncomputable def tstF (x:Ctxt) (c:Cnd):Bool:=(x.find c.attr).2&&x0 c (x.find c.attr).1
noncomputable def hF (l:List Sgm) (x:Ctxt) (c:Cnd):Bool:=heldF l x.key (tstF x) c
noncomputable def mF (l:List Sgm) (x:Ctxt) (i:Nat):Bool:=memF l x.key (tstF x) i
theorem hF_eq (l:List Sgm) (x:Ctxt) (c:Cnd):hF l x c=if c.kind=1 then c.args.all (hF l x) else if c.kind=2 then c.args.any (hF l x) else if c.kind=3 then !(hdC (hF l x) c.args) else if c.kind=5 then mF l x (idxG l c.name) else tstF x c:=means_eq _ _ c
def AskR (l:List Sgm) (x:Ctxt) (ida m:Nat) (_:Unit) (hp:Hp):Prop:=hp ida=some (blkA l x m)∧∃M,hp m=some (blkN M)∧RightM (mF l x) M
theorem AskR.upd {l:List Sgm} {x:Ctxt} {ida m:Nat} {u:Unit} {hp:Hp} (h:AskR l x ida m u hp) {j:Nat} (b:Option Blk) (h1:ida≠j) (h2:m≠j):AskR l x ida m u (upd hp j b):=by
 obtain⟨g1,M,g2,g3⟩:=h
 exact⟨by rw[ze _ _ _ _ h1];exact g1,M,by rw[ze _ _ _ _ h2];exact g2,g3⟩
def boxA (ida:Nat):Blk:=⟨91,1,false,[[.ref ida 0 0]]⟩
theorem find_vb (x:Ctxt) (s:List UInt8) (hx:x.cb+2≤lim):(x.find s).1.vb≤lim:=by
 have hcb:=xcb_eq x
 unfold Ctxt.find
 split
 ·rw[vb_eq];simp[textVal,Val.s,Val.items,Val.fields,vbs,fbs];omega
 ·split
  ·rename_i a ha
   have:=xp (List.mem_of_getElem? ha)
   split
   ·simp only;omega
   ·rw[vb_eq];simp[noVal,Val.s,Val.items,Val.fields,vbs,fbs,lim]
  ·rw[vb_eq];simp[noVal,Val.s,Val.items,Val.fields,vbs,fbs,lim]
set_option maxHeartbeats 2000000 in
theorem Zc {mem:AM.Spec} {l:List Sgm} {x:Ctxt} {ida m nx0:Nat} {I:Nat→Prop} (hne:ida≠m) (hid:ida<nx0) (hm:m<nx0) (hl:l.length≤lim) (hx:x.cb+2≤lim)
  (hmem:∀i hp nx,I i→nx0≤nx→AskR l x ida m () hp→∃r hp' nx',mem [.ref ida 0 0,int i] hp nx=some (r,hp',nx')∧qL (·=m) (AskR l x ida m) (boo (mF l x i)) () hp nx r hp' nx') :
  ∀(k:Nat) (c:Cnd) (hp:Hp) (nx:Nat),c.cb≤k→c.cb≤lim→GoodC c→(∀n∈c.names,I (idxG l n))→nx0≤nx→AskR l x ida m () hp →
   ∃r hp' nx',holdS mem k [.ref ida 0 0,.agg c.enc] hp nx=some (r,hp',nx')∧qL (·=m) (AskR l x ida m) (boo (hF l x c)) () hp nx r hp' nx'
 | 0,c,_,_,h,_,_,_,_,_=>absurd h (by have:=cb_pos c;omega)
 | k+1,c,hp0,nx1,hk,hcl,hg,hI,hn1,hR=>by
   have hcb:=cb_eq c
   have hal:=jd c.args
   have hnm:=names_eq c
   have hvv:=hF_eq l x c
   have hlim:lim=2097152:=rfl
   have am:∀y∈c.args,y.cb≤k∧y.cb≤lim∧GoodC y∧∀n∈y.names,I (idxG l n):=fun y hy=>by
    have:=xq hy
    exact⟨by omega,by omega,hg.args y hy,fun n hn=>hI n (by rw[hnm];exact List.mem_append.2 (.inr (namesC_mem.2 ⟨y,hy,hn⟩)))⟩
   have hRb:AskR l x ida m () (upd (upd hp0 nx1 (some (boxA ida))) (nx1+1) (some (boxC c))):=(hR.upd _ (by omega) (by omega)).upd _ (by omega) (by omega)
   have hfr:∀{hp':Hp},(∀j,j<nx1+2→¬j=m→hp' j=upd (upd hp0 nx1 (some (boxA ida))) (nx1+1) (some (boxC c)) j)→∀j,j<nx1→¬j=m→hp' j=hp0 j:=fun f j hj hjm=>by
    rw[f j (by omega) hjm,ze _ _ _ _ (by omega),ze _ _ _ _ (by omega)]
   unfold holdS hRun
   rw[if_pos (by simp[f38])]
   refine zu rfl ?_
   refine yf (fun σ hp nx=>σ 2=.ref nx1 0 0∧σ 3=.ref (nx1+1) 0 0∧σ 4=boo false∧σ 1000004=.tup []∧hp=upd (upd hp0 nx1 (some (boxA ida))) (nx1+1) (some (boxC c))∧nx=nx1+2) (by simp[boxA,boxC]) ?_
   rintro σ hp nx ⟨h2,h3,h4,h6,rfl,rfl⟩
   have ma:¬nx1=nx1+1:=by omega
   by_cases k1:c.kind=1
   ·rw[if_pos k1] at hvv
    obtain⟨r,hp',nx',e1,rfl,⟨r2,_⟩,n2,f2⟩:=cqct_run (σ:=Unit) (T:=(·=m)) (Rep:=fun u hp=>AskR l x ida m u hp∧hp nx1=some (boxA ida)) (step:=fun _ y=>(!hF l x y,())) (Ta:=TAh (holdS mem k)) (g:=58) (sp:=hd1S (holdS mem k)) (fi:=[]) (cap:=[.ref nx1 0 0]) (nx0:=nx1+2) (by simp) c.args (by omega)
     (fun _ y hp nx hy hn ⟨g1,g2⟩=>by
      obtain⟨a1,a2,a3,a4⟩:=am y hy
      obtain⟨r,hp',nx',e1,rfl,r2,n2,f2⟩:=Zc hne hid hm hl hx hmem k y (upd hp nx (some (boxC y))) (nx+1) a1 a2 a3 a4 (by omega) (g1.upd _ (by omega) (by omega))
      refine⟨_,hp',nx',?_,rfl,⟨r2,by rw[f2 nx1 (by omega) (by omega),ze _ _ _ _ (by omega)];exact g2⟩,by omega,fun j hj hjm=>by rw[f2 j (by omega) hjm,ze _ _ _ _ (by omega)]⟩
      unfold hd1S hRun
      rw[if_pos (by simp[f58])]
      refine zZ rfl ?_
      have n1:¬nx1=nx:=by omega
      simp only[boxA] at g2
      simp only[boxC] at e1
      simp[g2,n1,e1,f58]) () _ (nx1+2) (Nat.le_refl _) ⟨hRb,by rw[ze _ _ _ _ ma];simp⟩
    rw[foldT_not] at e1
    have f3:=hfr f2
    simp only[boxA,boxC] at e1
    simp[h2,h3,boxA,boxC,k1,e1,hvv,qL,f38]
    exact⟨r2,by omega,f3⟩
   have k1':(c.kind==1)=false:=by simpa using k1
   rw[if_neg k1] at hvv
   by_cases k2:c.kind=2
   ·rw[if_pos k2] at hvv
    obtain⟨r,hp',nx',e1,rfl,r2,n2,f2⟩:=cqct_run (σ:=Unit) (T:=(·=m)) (Rep:=AskR l x ida m) (step:=fun _ y=>(hF l x y,())) (Ta:=TAh (holdS mem k)) (g:=38) (sp:=holdS mem k) (fi:=[.ref ida 0 0]) (cap:=[]) (nx0:=nx0) (by simp) c.args (by omega)
     (fun _ y hp nx hy hn g1=>by
      obtain⟨a1,a2,a3,a4⟩:=am y hy
      exact Zc hne hid hm hl hx hmem k y hp nx a1 a2 a3 a4 hn g1) () _ (nx1+2) (by omega) hRb
    rw[jZ] at e1
    have f3:=hfr f2
    simp only[boxA,boxC] at e1
    simp[h2,h3,boxA,boxC,k2,e1,hvv,qL,f38]
    exact⟨r2,by omega,f3⟩
   have k2':(c.kind==2)=false:=by simpa using k2
   rw[if_neg k2] at hvv
   by_cases k3:c.kind=3
   ·rw[if_pos k3] at hvv
    obtain⟨y,hy⟩:∃y,c.args=[y]:=by
     have:=hg.one k3
     match h:c.args,this with
     | [y],_=>exact⟨y,rfl⟩
    obtain⟨a1,a2,a3,a4⟩:=am y (by rw[hy];simp)
    obtain⟨r,hp',nx',e1,rfl,r2,n2,f2⟩:=Zc hne hid hm hl hx hmem k y _ (nx1+2) a1 a2 a3 a4 (by omega) hRb
    have f3:=hfr f2
    rw[hy] at hvv
    simp only[hdC] at hvv
    simp only[boxA,boxC] at e1
    simp[h2,h3,boxA,boxC,k3,hy,e1,hvv,qL,f38]
    exact⟨r2,by omega,f3⟩
   have k3':(c.kind==3)=false:=by simpa using k3
   rw[if_neg k3] at hvv
   by_cases k5:c.kind=5
   ·rw[if_pos k5] at hvv
    have hIn:=hI c.name (by rw[hnm,if_pos k5];simp)
    obtain⟨r,hp',nx',e1,rfl,r2,n2,f2⟩:=hmem (idxG l c.name) _ (nx1+2) hIn (by omega) hRb
    have f3:=hfr f2
    have g1:=fun hp nx=>FOfSg_call l c.name hp nx hl
    have hba:=hR.1
    have mi1:¬ida=nx1:=by omega
    have mi2:¬ida=nx1+1:=by omega
    simp only[blkA] at hba
    simp only[boxA,boxC,idxG] at e1
    simp[h2,h3,boxA,boxC,k5,hba,mi1,mi2,g1,e1,hvv,qL,idxG,f38]
    exact⟨r2,by omega,f3⟩
   have k5':(c.kind==5)=false:=by simpa using k5
   rw[if_neg k5] at hvv
   have hkk:=hg.kind
   have k4:c.kind=4:=by omega
   have g1:∀hp nx,zc false [] (FXS (fun x s=>valTup (x.find s)) fun _ _=>True) [.agg [str x.key,.sl 6 (x.attrs.map encF)],str c.attr] hp nx=some (.tup [.agg (x.find c.attr).1.enc,boo (x.find c.attr).2],hp,nx):=fun hp nx=>FXS_call (fun x s=>valTup (x.find s)) (fun _ _=>True) x c.attr hp nx ⟨by omega,by omega,trivial⟩
   have g2:=fun hp nx=>FPs_call c (x.find c.attr).1 hp nx hcl (find_vb x c.attr hx) (hg.ord k4)
   have hba:=hR.1
   have mi1:¬ida=nx1:=by omega
   have mi2:¬ida=nx1+1:=by omega
   simp only[blkA] at hba
   rw[hvv]
   unfold tstF
   refine yf (fun σ hp nx=>σ 2=.ref nx1 0 0∧σ 3=.ref (nx1+1) 0 0∧σ 4=boo false∧σ 1000004=.tup []∧hp=upd (upd hp0 nx1 (some (boxA ida))) (nx1+1) (some (boxC c))∧nx=nx1+2) (by simp[h2,h3,h4,h6,boxA,boxC,k1',k2',k3',k5']) ?_
   clear h2 h3 h4 h6 σ
   rintro σ hp nx ⟨h2,h3,h4,h6,rfl,rfl⟩
   have hrf:j8 [1000004] ⟨σ,upd (upd hp0 nx1 (some (boxA ida))) (nx1+1) (some (boxC c)),nx1+2⟩:=fun t ht=>by
    have:t=1000004:=by simpa using ht
    subst this
    refine⟨⟨fun id o n e=>?_,fun id i j e=>?_⟩,fun _=>?_⟩
    ·have e:σ 1000004=.own id o n:=e
     rw[h6] at e
     cases e
    ·have e:σ 1000004=.ref id i j:=e
     rw[h6] at e
     cases e
    ·show (σ 4).shutZ=true
     rw[h4]
     rfl
   rw[EvC_seq,EvC_region_here hrf]
   cases hf:(x.find c.attr).2
   ·rw[hf] at g1
    simp[h2,h3,boxA,boxC,hba,mi1,mi2,g1,qL,f38]
    exact⟨hRb.upd _ (by omega) (by omega),by omega,fun j hj hjm=>by rw[ze _ _ _ _ (by omega),ze _ _ _ _ (by omega),ze _ _ _ _ (by omega)]⟩
   ·rw[hf] at g1
    simp[h2,h3,boxA,boxC,hba,mi1,mi2,g1,g2,qL,f38]
    exact⟨hRb.upd _ (by omega) (by omega),by omega,fun j hj hjm=>by rw[ze _ _ _ _ (by omega),ze _ _ _ _ (by omega),ze _ _ _ _ (by omega)]⟩
theorem segF_ok {s:Sgm} (h:segF s=0):UpN s.ins∧UpN s.outs∧s.cond.check=0:=by
 unfold segF at h
 split at h
 case isFalse hh=>exact absurd h hh
 rename_i h1
 split at h
 case isFalse hh=>exact absurd h hh
 rename_i h2
 split at h
 ·omega
 ·exact⟨keysF_up h1,keysF_up h2,h⟩
set_option maxHeartbeats 2000000 in
theorem mem_run {l:List Sgm} {x:Ctxt} {ida m nx0:Nat} (hne:ida≠m) (hid:ida<nx0) (hm:m<nx0) (hok:SegOk l) (hl:sgb l≤lim) (hx:x.cb+2≤lim) :
  ∀(n i:Nat) (hp:Hp) (nx:Nat),i<l.length→rkG l i<n→nx0≤nx→AskR l x ida m () hp→∃r hp' nx',memS n [.ref ida 0 0,int i] hp nx=some (r,hp',nx')∧qL (·=m) (AskR l x ida m) (boo (mF l x i)) () hp nx r hp' nx'
 | 0,_,_,_,_,h,_,_=>absurd h (by omega)
 | n+1,i,hp0,nx1,hil,hrk,hn1,hR=>by
   have hle:=sgb_len l
   obtain⟨s,hs⟩:∃s,l[i]=s:=⟨_,rfl⟩
   have hsm:s∈l:=by rw[←hs];exact List.getElem_mem hil
   have hm2:=sgb_mem hsm
   have hmc:s.cb=1+s.name.length+tbs s.ins+tbs s.outs+s.cond.cb:=rfl
   have hxk:=xcb_eq x
   obtain⟨u1,u2,hck⟩:=segF_ok (hok.right s hsm).2
   have hgi:l[i]?=some s:=by rw[List.getElem?_eq_getElem hil,hs]
   have hmv:mF l x i=(s.ins.contains x.key||(!s.outs.contains x.key&&hF l x s.cond)):=by
    show memF l x.key (tstF x) i=_
    rw[memF_eq hok,memG,hgi]
    rfl
   have hH:=Zc (mem:=memS n) (I:=fun j=>j<l.length∧rkG l j<n) hne hid hm (by omega) hx (fun j hp nx hj hn hr=>mem_run hne hid hm hok hl hx n j hp nx hj.1 hj.2 hn hr) lim s.cond
    (upd hp0 nx1 (some (boxS s))) (nx1+1) (by omega) (by omega) (good_check hck) (fun y hy=>⟨idx_lt (hok.known s hsm y hy),by
     have hsu:idxG l y∈q7 l i:=by unfold q7;rw[hgi];exact List.mem_map_of_mem hy
     have:=rkG_lt hok i _ hsu
     omega⟩) (by omega) (hR.upd _ (by omega) (by omega))
   obtain⟨r,hp',nx',e1,rfl,r2,n2,f2⟩:=hH
   have q1:=fun hp nx=>hk_call s.ins x.key hp nx (by omega) (by omega)
   have q2:=fun hp nx=>hk_call s.outs x.key hp nx (by omega) (by omega)
   rw[bsN_any u1] at q1
   rw[bsN_any u2] at q2
   have hba:=hR.1
   obtain⟨M,hM,hMr⟩:=hR.2
   have mi1:¬ida=nx1:=by omega
   have mi2:¬m=nx1:=by omega
   unfold memS hRun
   rw[if_pos (by simp[f60])]
   refine zu rfl ?_
   have hb2:=hba
   simp only[blkA] at hb2
   rcases look_memo hMr i hM with hlk | hlk
   ·simp[hb2,hlk,qL,f60]
    exact hR
   simp only[boxS] at e1
   cases c1:s.ins.contains x.key
   ·cases c2:s.outs.contains x.key
    ·have hv:mF l x i=hF l x s.cond:=by rw[hmv,c1,c2];rfl
     obtain⟨M2,hM2,hMr2⟩:=r2.2
     obtain⟨M3,hput,hMr3⟩:=put_memo hMr2 i hM2
     have hb3:=r2.1
     simp only[blkA] at hb3
     rw[hv] at hput
     rw[c1] at q1
     rw[c2] at q2
     simp[hb2,hlk,hil,hs,mi1,q1,q2,e1,hb3,hput,hv,qL,f60]
     exact⟨⟨by rw[ze _ _ _ _ hne];exact r2.1,M3,by simp,hMr3⟩,by omega,fun j hj hjm=>by rw[ze _ _ _ _ hjm,f2 j (by omega) hjm,ze _ _ _ _ (by omega)]⟩
    ·have hv:mF l x i=false:=by rw[hmv,c1,c2];rfl
     obtain⟨M3,hput,hMr3⟩:=put_memo (hp:=upd hp0 nx1 (some (boxS s))) hMr i (by rw[ze _ _ _ _ mi2];exact hM)
     simp only[boxS] at hput
     rw[hv] at hput
     rw[c1] at q1
     rw[c2] at q2
     simp[hb2,hlk,hil,hs,mi1,q1,q2,hput,hv,qL,f60]
     exact⟨⟨by rw[ze _ _ _ _ hne,ze _ _ _ _ mi1];exact hba,M3,by simp,hMr3⟩,fun j hj hjm=>by rw[ze _ _ _ _ hjm,ze _ _ _ _ (by omega)]⟩
   ·have hv:mF l x i=true:=by rw[hmv,c1];rfl
    obtain⟨M3,hput,hMr3⟩:=put_memo (hp:=upd hp0 nx1 (some (boxS s))) hMr i (by rw[ze _ _ _ _ mi2];exact hM)
    simp only[boxS] at hput
    rw[hv] at hput
    rw[c1] at q1
    simp[hb2,hlk,hil,hs,mi1,q1,hput,hv,qL,f60]
    exact⟨⟨by rw[ze _ _ _ _ hne,ze _ _ _ _ mi1];exact hba,M3,by simp,hMr3⟩,fun j hj hjm=>by rw[ze _ _ _ _ hjm,ze _ _ _ _ (by omega)]⟩
noncomputable def sqixS (Ta:Tab):AM.Spec:=hRun (zA prog Ta) f24
noncomputable def sqctS (Ta:Tab):AM.Spec:=hRun (zA prog [(24,sqixS Ta)]) Tryz.f9
set_option maxRecDepth 100000 in
theorem sqix_sound {Ta:Tab} (h:AllD True prog [] Ta):za prog 24 (sqixS Ta):=zs (code:=_) (zk (q:=[]) mixed h) ⟨func24,by kernel_rfl,rfl,by kernel_rfl⟩
set_option maxRecDepth 100000 in
theorem sqct_sound {Ta:Tab} (h:AllD True prog [] Ta):za prog 9 (sqctS Ta):=zs (code:=_) (zk (q:=[]) (l:=[(24,sqixS Ta)]) mixed ⟨sqix_sound h,by simp,trivial⟩) ⟨func9,by kernel_rfl,rfl,by kernel_rfl⟩
theorem sqct_run {σ:Type} {T:Nat→Prop} {Rep:σ→Hp→Prop} {step:σ→SpanLaw.Sp→Bool×σ} {Ta:Tab} {g:Nat} {sp:AM.Spec} {fi cap:List PV} {nx0:Nat} (hg:lookup Ta g=some sp) (xs:List SpanLaw.Sp) (hl:xs.length≤lim)
  (hS:∀s x hp nx,x∈xs→nx0≤nx→Rep s hp→∃r hp' nx',sp (fi++.agg (encS x)::cap) hp nx=some (r,hp',nx')∧qL T Rep (boo (step s x).1) (step s x).2 hp nx r hp' nx')
  (s0:σ) (hp0:Hp) (nx1:Nat) (hn:nx0≤nx1) (hr:Rep s0 hp0) :
  ∃r hp' nx',sqctS Ta [.sl 2 (xs.map encS),.fn (.func g) fi cap] hp0 nx1=some (r,hp',nx')∧qL T Rep (boo (zT step s0 xs).1) (zT step s0 xs).2 hp0 nx1 r hp' nx':=by
 have key:∃r hp' nx',sqixS Ta [.sl 2 (xs.map encS),.fn (.func g) fi cap] hp0 nx1=some (r,hp',nx')∧∃z:Int,r=int z∧decide (0≤z)=(zT step s0 xs).1∧qL T Rep (int z) (zT step s0 xs).2 hp0 nx1 r hp' nx':=by
  unfold sqixS hRun
  rw[if_pos (by simp[f24])]
  refine zu rfl ?_
  unfold lim at hl
  simp
  refine zC (fun k σ hp nx=>σ 0=.sl 2 (xs.map encS)∧σ 1=.fn (.func g) fi cap∧σ 7=int xs.length∧σ 8=int k∧nx1≤nx∧(∀j,j<nx1→¬T j→hp j=hp0 j)∧∃s,Rep s hp∧zT step s0 xs=zT step s (xs.drop k)) xs.length ⟨by simp,by simp,by simp,by simp,Nat.le_refl _,fun _ _ _=>rfl,s0,hr,by simp⟩ ?_
  rintro k σ hp nx hk ⟨h0,h1,h7,h8,hnx,hfr,s,hrs,he⟩
  by_cases hlt:k<xs.length
  ·have hw:IntKind.i64.wrap ((k:Int)+1)=(k:Int)+1:=zd (by omega) (by omega)
   obtain⟨x,hx⟩:∃x,xs[k]=x:=⟨_,rfl⟩
   obtain⟨r,hp2,nx2,e1,rfl,r2,n2,f2⟩:=hS s x hp nx (by rw[←hx];exact List.getElem_mem hlt) (by omega) hrs
   rw[List.drop_eq_getElem_cons hlt,hx] at he
   have hf2:∀j,j<nx1→¬T j→hp2 j=hp0 j:=fun j hj ht=>by rw[f2 j (by omega) ht];exact hfr j hj ht
   cases hst:(step s x).1
   ·rw[yu hst] at he
    rw[hst] at e1
    simp[h0,h1,h7,h8,hlt,hx,hg,e1,hw]
    exact⟨by omega,by omega,hf2,_,r2,he⟩
   ·rw[jf hst] at he
    rw[hst] at e1
    simp[h0,h1,h7,h8,hlt,hx,hg,e1,he,qL,f24]
    exact⟨r2,by omega,hf2⟩
  ·obtain rfl:k=xs.length:=by omega
   rw[List.drop_length] at he
   simp only[zT] at he
   simp[h0,h1,h7,h8,he,qL,f24]
   exact⟨hrs,hnx,hfr⟩
 obtain⟨r,hp',nx',e1,z,rfl,hz,_,k2,k3,k4⟩:=key
 unfold sqctS hRun
 rw[if_pos (by simp[Tryz.f9])]
 refine zu rfl ?_
 simp[e1,hz,qL,Tryz.f9]
 exact⟨k2,k3,k4⟩
end Go.Proofs.YtanbabpnlgfcpaaGreatDoor
