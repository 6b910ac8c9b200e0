/-
Holds of a layer: the first that holds a key; whether spans hold a bucket.
flag.XvariationAt: the variation of a bucket.
The checker, with segments: names, an experiment, the check of a book.
The check of a book, with segments.
What is free.
slices.SortFunc at pieces off the kit's shelf, at this program (turned from the text for spans).
What is busy.
-/
import Derived.Test.YtanbabpnlgfcpaaGreatDoorG24
import Derived.Test.YtanbabpnlgfcpaaGreatDoorG25
import Derived.Test.YtanbabpnlgfcpaaGreatDoorG23
import Derived.Test.YtanbabpnlgfcpaaGreatDoorG19
import Derived.Test.YtanbabpnlgfcpaaGreatDoorG21
import Derived.Test.YtanbabpnlgfcpaaGreatDoorG22
import Derived.Shelf.SlSortCmp.WholeK
import Derived.Shelf.SlSortCmp.NoneTotal
import Derived.Test.YtanbabpnlgfcpaaGreatDoorProg
import Derived.Test.YtanbabpnlgfcpaaGreatDoorG17
set_option maxRecDepth 8000
namespace Go.Proofs.YtanbabpnlgfcpaaGreatDoor
open Go.Proofs.Tryz
open Go.RowKit Go.AM Go.SpanLaw
def heldB (h:Hld) (layer key:List UInt8):Bool:=decide (layer∈h.layers)&&decide ((xy h.salt key:Int)<h.buckets)
def js (layer key:List UInt8):List Hld→List UInt8×Bool
 | []=>([],false)
 | h::l=>if heldB h layer key=true then (h.name,true) else js layer key l
def htP (r:List UInt8×Bool):PV:=.tup [str r.1,boo r.2]
noncomputable def FBSS (out:Bk→List UInt8→List UInt8→PV):List PV→Option PV:=zG (α:=Bk×List UInt8×List UInt8) (fun a=>[.agg a.1.enc,str a.2.1,str a.2.2]) (fun a=>a.1.cb≤lim∧a.2.1.length≤lim∧a.2.2.length≤lim) (fun a=>out a.1 a.2.1 a.2.2)
theorem FBSS_call (out:Bk→List UInt8→List UInt8→PV) (b:Bk) (s t:List UInt8) (hp:Hp) (nx:Nat) (h:b.cb≤lim) (h1:s.length≤lim) (h2:t.length≤lim):zc false [] (FBSS out) [.agg b.enc,str s,str t] hp nx=some (out b s t,hp,nx) :=
 zt (hp1:=hp) (show zh hp [.agg b.enc,str s,str t]=some ([.agg b.enc,str s,str t],hp) by simp[Bk.enc]) (zn (enc:=fun a:Bk×List UInt8×List UInt8=>[.agg a.1.enc,str a.2.1,str a.2.2]) (a:=(b,s,t)) (fun a b e=>by
  obtain⟨a1,a2,a3⟩:=a;obtain⟨b1,b2,b3⟩:=b
  simp only[List.cons.injEq,and_true,PV.agg.injEq] at e
  rw[bk_inj e.1,zM e.2.1,zM e.2.2]) ⟨h,h1,h2⟩) (.inr (by simp[Bk.enc]))
noncomputable abbrev Chel:Ctx:=zA prog [(43,zc false [1] (FTS fun l v=>boo (decide (v∈l)))),(36,zc false [] (FTT buP fun _ _=>True))]
theorem goodhel:AM.Good Chel (fun g=>[43,36].contains g):=zk mixed ⟨containsT_sound,fun _=>zg _ _,bucket_sound,fun _=>zg _ _,trivial⟩
theorem held_eval (b:Bk) (s t:List UInt8) (hb:b.cb≤lim) (hs:s.length≤lim) (ht:t.length≤lim):zi Chel f20 [.agg b.enc,str s,str t]=some (htP (js s t b.holds)):=by
 have hlen:=qg hld_pos b.holds
 have hbc:b.cb=sumB Lyr.cb b.layers+sumB Hld.cb b.holds+sumB Xp.cb b.exps:=rfl
 have hlim:lim=2097152:=rfl
 refine zb rfl ?_
 simp[Bk.enc]
 refine zC (fun k σ hp nx=>σ 1=str s∧σ 2=str t∧σ 11=.sl 4 (b.holds.map Hld.enc)∧σ 12=int b.holds.length∧σ 13=int k∧js s t b.holds=js s t (b.holds.drop k)) b.holds.length ⟨by simp,by simp,by simp,by simp,by simp,by simp⟩ ?_
 rintro k σ hp nx hk ⟨h1,h2,h11,h12,h13,he⟩
 by_cases hlt:k<b.holds.length
 ·obtain⟨x,hx⟩:∃x,b.holds[k]=x:=⟨_,rfl⟩
  have hmx:=qA (f:=Hld.cb) (List.getElem_mem hlt)
  rw[hx] at hmx
  have hxc:x.cb=1+x.name.length+x.salt.length+sumB (fun s=>1+s.length) x.layers:=rfl
  have hxl:=qg (f:=fun s:List UInt8=>1+s.length) (fun _=>by omega) x.layers
  have hw:IntKind.i64.wrap ((k:Int)+1)=(k:Int)+1:=zd (by omega) (by omega)
  have g1:=fun hp nx=>FTS_call (fun l v=>boo (decide (v∈l))) x.layers s hp nx (by omega)
  have g2:=fun hp nx=>bu_call x.salt t hp nx (by omega) ht
  rw[List.drop_eq_getElem_cons hlt,hx,js] at he
  by_cases c1:s∈x.layers
  ·by_cases c2:(xy x.salt t:Int)<x.buckets
   ·have hh:heldB x s t=true:=by simp[heldB,c1,c2]
    rw[hh,if_pos rfl] at he
    simp[h1,h2,h11,h12,h13,hlt,hx,Hld.enc,g1,g2,c1,c2,he,htP,zU,f20]
   ·have hh:heldB x s t=false:=by simp[heldB,c2]
    rw[hh,if_neg (by simp)] at he
    simp[h1,h2,h11,h12,h13,hlt,hx,Hld.enc,g1,g2,c1,c2,hw]
    exact⟨by omega,he⟩
  ·have hh:heldB x s t=false:=by simp[heldB,c1]
   rw[hh,if_neg (by simp)] at he
   simp[h1,h2,h11,h12,h13,hlt,hx,Hld.enc,g1,c1,hw]
   exact⟨by omega,he⟩
 ·obtain rfl:k=b.holds.length:=by omega
  rw[List.drop_length] at he
  simp only[js] at he
  simp[h1,h2,h11,h12,h13,he,htP,zU,f20]
theorem held_sound:za prog 20 (zc false [] (FBSS fun b s t=>htP (js s t b.holds))) :=
 zJ (fn:=f20) goodhel ⟨_,func20,by kernel_rfl,rfl,by kernel_rfl⟩ false [] _ fun args r h=>by
  obtain⟨⟨b,s,t⟩,rfl,⟨h1,h2,h3⟩,rfl⟩:=zf h
  exact⟨by simp[f20],_,held_eval b s t h1 h2 h3,zI _⟩
noncomputable def heldT (b:Bk) (s t:List UInt8):(List UInt8×Bool)×Int:=if chkL b s 0=0 then (if yA t=true then (js s t b.holds,0) else (([],false),3)) else (([],false),chkL b s 0)
noncomputable def hdP (b:Bk) (s t:List UInt8):PV:=.tup [str (heldT b s t).1.1,boo (heldT b s t).1.2,int (heldT b s t).2]
noncomputable abbrev CHel:Ctx:=zA prog [(18,zc false [] (FBNI fun b s n=>int (chkL b s n))),(19,zc false [] (FS yA)),(20,zc false [] (FBSS fun b s t=>htP (js s t b.holds)))]
theorem Held_eval (b:Bk) (s t:List UInt8) (hb:b.cb≤lim) (hs:s.length≤lim) (ht:t.length≤lim):zi CHel Tryz.f7 [.agg b.enc,str s,str t]=some (hdP b s t):=by
 refine zb rfl ?_
 have g1:=fun hp nx=>FBNI_call (fun b s n=>int (chkL b s n)) b s 0 hp nx hb
 have g2:∀hp nx,zc false [] (FBSS fun b s t=>htP (js s t b.holds)) [.agg b.enc,str s,str t] hp nx=some (.tup [str (js s t b.holds).1,boo (js s t b.holds).2],hp,nx):=fun hp nx=>FBSS_call (fun b s t=>htP (js s t b.holds)) b s t hp nx hb hs ht
 simp only[Bk.enc] at g1 g2
 by_cases c1:chkL b s 0=0
 case neg =>
  have c1':(chkL b s 0 != 0)=true:=by simpa using c1
  have hv:heldT b s t=(([],false),chkL b s 0):=by unfold heldT;rw[if_neg c1]
  simp[Bk.enc,g1,c1',hdP,hv,zU,Tryz.f7]
 cases c2:yA t
 ·have hv:heldT b s t=(([],false),3):=by unfold heldT;rw[if_pos c1,c2,if_neg (by simp)]
  simp[Bk.enc,g1,c1,ht,c2,hdP,hv,zU,Tryz.f7]
 ·have hv:heldT b s t=(js s t b.holds,0):=by unfold heldT;rw[if_pos c1,c2,if_pos rfl]
  simp[Bk.enc,g1,c1,ht,c2,g2,hdP,hv,zU,Tryz.f7]
theorem Held_sound:za prog 7 (zc false [] (FBSS hdP)) :=
 zJ (fn:=Tryz.f7) (zk (q:=[]) mixed ⟨cly_sound,by simp,kj,by simp,held_sound,by simp,trivial⟩:AM.Good CHel _) ⟨_,func7,by kernel_rfl,rfl,by kernel_rfl⟩ false [] _ fun args r h=>by
  obtain⟨⟨b,s,t⟩,rfl,⟨h1,h2,h3⟩,rfl⟩:=zf h
  exact⟨by simp[Tryz.f7],_,Held_eval b s t h1 h2 h3,zI _⟩
def inSp (n:Int) (s:Sp):Bool:=decide (s.1≤n)&&decide (n<s.2)
noncomputable abbrev hb1S:AM.Spec:=hRun C0 f56
set_option maxRecDepth 100000 in
theorem hb1_sound:za prog 56 hb1S:=zs (code:=_) wA ⟨func56,by kernel_rfl,rfl,by kernel_rfl⟩
theorem hb1_run (n:Int) (s:Sp) (hp:Hp) (nx id:Nat) (hid:id<nx) (hh:hp id=some ⟨3,1,false,[[int n]]⟩):hb1S [.agg (encS s),.ref id 0 0] hp nx=some (boo (inSp n s),upd hp nx (some ⟨45,2,false,[encS s]⟩),nx+1):=by
 unfold hb1S hRun
 rw[if_pos (by simp[f56])]
 refine zZ rfl ?_
 have e1:¬id=nx:=by omega
 by_cases c1:s.1≤n
 ·by_cases c2:n<s.2<;>simp[hh,e1,c1,c2,inSp,f56]
 ·simp[hh,e1,c1,inSp,f56]
noncomputable abbrev TAhb:Tab:=[(56,hb1S)]
noncomputable def FSI (out:List Sp→Int→PV):List PV→Option PV:=zG (α:=List Sp×Int) (fun a=>[.sl 2 (a.1.map encS),int a.2]) (fun a=>a.1.length≤lim) (fun a=>out a.1 a.2)
theorem FSI_call (out:List Sp→Int→PV) (l:List Sp) (n:Int) (hp:Hp) (nx:Nat) (h:l.length≤lim) (hf:(out l n).flat=true):zc false [] (FSI out) [.sl 2 (l.map encS),int n] hp nx=some (out l n,hp,nx) :=
 zt rfl (zn (enc:=fun a:List Sp×Int=>[PV.sl 2 (a.1.map encS),int a.2]) (a:=(l,n)) (fun a b e=>by
  obtain⟨a1,a2⟩:=a;obtain⟨b1,b2⟩:=b
  simp only[List.cons.injEq,and_true] at e
  rw[yE e.1,zD e.2]) h) (.inl hf)
noncomputable abbrev Chbk:Ctx:=zA prog [(9,sqctS TAhb)]
theorem holdsB_eval (l:List Sp) (n:Int) (h:l.length≤lim):zi Chbk f37 [.sl 2 (l.map encS),int n]=some (boo (l.any (inSp n))):=by
 refine zb rfl ?_
 obtain⟨r,hp',nx',e1,rfl,_,_,_⟩:=sqct_run (σ:=Unit) (T:=fun _=>False) (Rep:=fun _ hp=>hp 0=some ⟨3,1,false,[[int n]]⟩) (step:=fun _ s=>(inSp n s,())) (Ta:=TAhb) (g:=56) (sp:=hb1S) (fi:=[]) (cap:=[.ref 0 0 0]) (nx0:=1) (by simp) l h
  (fun _ s hp nx hs hn hr=>⟨_,_,_,hb1_run n s hp nx 0 (by omega) hr,rfl,(ze _ _ _ _ (by omega)).trans hr,by omega,fun j hj _=>ze _ _ _ _ (by omega)⟩) () (upd (fun _=>none) 0 (some ⟨3,1,false,[[int n]]⟩)) 1 (Nat.le_refl _) (by simp)
 rw[jZ] at e1
 simp[e1,f37]
theorem holdsB_sound:za prog 37 (zc false [] (FSI fun l n=>boo (l.any (inSp n)))) :=
 zJ (fn:=f37) (zk (q:=[]) mixed ⟨sqct_sound ⟨hb1_sound,by simp,trivial⟩,by simp,trivial⟩:AM.Good Chbk _) ⟨_,func37,by kernel_rfl,rfl,by kernel_rfl⟩ false [] _ fun args r h=>by
  obtain⟨⟨l,n⟩,rfl,h1,rfl⟩:=zf h
  exact⟨by simp[f37],_,holdsB_eval l n h1,zI _⟩
end Go.Proofs.YtanbabpnlgfcpaaGreatDoor
namespace Go.Proofs.YtanbabpnlgfcpaaGreatDoor
open Go.Proofs.Tryz
open Go.RowKit Go.AM
noncomputable def FKr:List PV→Option PV:=zG (α:=Rg×Int) (fun a=>[.agg (encG a.1),int a.2]) (fun a=>0≤a.1.2.1∧a.1.2.1≤100000∧0≤a.2∧a.2≤100000) (fun a=>int (a.1.2.1 - a.2))
theorem FKr_call (r:Rg) (n:Int) (hp:Hp) (nx:Nat) (h:0≤r.2.1∧r.2.1≤100000∧0≤n∧n≤100000):zc false [] FKr [.agg (encG r),int n] hp nx=some (int (r.2.1 - n),hp,nx) :=
 zt (hp1:=hp) rfl (zn (enc:=fun a:Rg×Int=>[PV.agg (encG a.1),int a.2]) (a:=(r,n)) (fun a b e=>by
  obtain⟨a1,a2⟩:=a;obtain⟨b1,b2⟩:=b
  simp only[List.cons.injEq,and_true,PV.agg.injEq] at e
  obtain⟨e1,e2⟩:=e
  rw[encG_inj (a:=a1) (b:=b1) (by simpa using e1),zD e2]) h) (.inl rfl)
theorem varKey_sound:za prog 64 (zc false [] FKr) :=
 zJ (fn:=f64) wA ⟨_,func64,by kernel_rfl,rfl,by kernel_rfl⟩ false [] _ fun args r h=>by
  obtain⟨⟨r,n⟩,rfl,⟨h1,h2,h3,h4⟩,rfl⟩:=zf h
  have w1:IntKind.i64.wrap (r.2.1 - n)=r.2.1 - n:=zd (by simp only at h1 h2 h3 h4;omega) (by simp only at h1 h2 h3 h4;omega)
  exact⟨by simp[f64],_,zb rfl (by simp[w1,f64]),zI _⟩
def lessR (l:List Rg) (n:Int) (k:Nat):Bool:=match l[k]? with
 | some r=>decide (r.2.1 - n<0)
 | none=>false
def bsR (l:List Rg) (n:Int):Nat×Bool:=(bsGo (lessR l n) 0 l.length,match l[bsGo (lessR l n) 0 l.length]? with
 | some r=>r.2.1 - n==0
 | none=>false)
def fnRg:PV:=.fn (.func 64) [] []
noncomputable def FBr:List PV→Option PV:=zG (α:=List Rg×Int) (fun a=>[.sl 3 (a.1.map encG),int a.2,fnRg]) (fun a=>a.1.length≤200∧(∀r∈a.1,0≤r.2.1∧r.2.1≤100000)∧0≤a.2∧a.2≤100000) (fun a=>.tup [int (bsR a.1 a.2).1,boo (bsR a.1 a.2).2])
theorem FBr_call (l:List Rg) (n:Int) (hp:Hp) (nx:Nat) (h:l.length≤200∧(∀r∈l,0≤r.2.1∧r.2.1≤100000)∧0≤n∧n≤100000):zc false [] FBr [.sl 3 (l.map encG),int n,fnRg] hp nx=some (.tup [int (bsR l n).1,boo (bsR l n).2],hp,nx) :=
 zt rfl (zn (enc:=fun a:List Rg×Int=>[PV.sl 3 (a.1.map encG),int a.2,fnRg]) (a:=(l,n)) (fun a b e=>by
  obtain⟨a1,a2⟩:=a;obtain⟨b1,b2⟩:=b
  simp only[List.cons.injEq,and_true] at e
  rw[ranges_inj e.1,zD e.2]) h) (.inl rfl)
noncomputable abbrev Cbr:Ctx:=zA prog [(64,zc false [] FKr)]
theorem bsR_eval (l:List Rg) (n:Int) (hl:l.length≤200) (hr:∀r∈l,0≤r.2.1∧r.2.1≤100000) (hn:0≤n) (hn2:n≤100000):zi Cbr f63 [.sl 3 (l.map encG),int n,fnRg]=some (.tup [int (bsR l n).1,boo (bsR l n).2]):=by
 refine zb rfl ?_
 simp[fnRg]
 refine wv (fun st=>st.σ 0=.sl 3 (l.map encG)∧st.σ 1=int n∧st.σ 2=.fn (.func 64) [] []∧st.σ 8=int l.length∧∃lo hi:Nat,lo≤hi∧hi≤l.length∧st.σ 9=int lo∧st.σ 10=int hi∧bsGo (lessR l n) 0 l.length=bsGo (lessR l n) lo hi)
  (fun st=>(jn (st.σ 10)).toNat - (jn (st.σ 9)).toNat) ⟨by simp,by simp,by simp,by simp,0,l.length,by simp,by simp,by simp,by simp,rfl⟩ ?_
 rintro⟨σ,hp,nx⟩ ⟨h0,h1,h2,h8,lo,hi,hlh,hhi,h9,h10,he⟩
 simp only at h0 h1 h2 h8 h9 h10
 have hcall:=fun (k:Nat) (hk:k<l.length) hp nx=>FKr_call l[k] n hp nx ⟨(hr _ (List.getElem_mem hk)).1,(hr _ (List.getElem_mem hk)).2,hn,hn2⟩
 by_cases hlt:lo<hi
 ·have w1:IntKind.i64.wrap ((lo:Int)+hi)=(lo:Int)+hi:=zd (by omega) (by omega)
  have hml:(lo+hi) / 2<l.length:=by omega
  obtain⟨m,hm⟩:∃m,m=(lo+hi) / 2:=⟨_,rfl⟩
  have hmid:IntKind.i64.wrap ((IntKind.u64.wrap ((lo:Int)+hi)).fdiv (2 ^ min 1 IntKind.u64.bits))=(m:Int):=by
   have e1:IntKind.u64.wrap ((lo:Int)+hi)=(lo:Int)+hi:=by rw[IntKind.wrap_u64];omega
   have e2:(2 ^ min 1 IntKind.u64.bits:Int)=2:=by decide
   rw[e1,e2,Int.fdiv_eq_ediv_of_nonneg _ (by omega),zd (by omega) (by omega)]
   omega
  have hml':m<l.length:=by omega
  have wm:IntKind.i64.wrap ((m:Int)+1)=(m:Int)+1:=zd (by omega) (by omega)
  have hla:lessR l n m=decide (l[m].2.1 - n<0):=by simp[lessR,hml']
  rw[yd (lo:=lo) hlt,←hm,hla] at he
  have hcm:=hcall m hml'
  by_cases hc:l[m].2.1 - n<0
  ·simp only[hc,decide_true,if_true] at he
   simp[h0,h1,h2,h8,h9,h10,hlt,w1,hmid,hml',hcm,hc,wm]
   exact⟨⟨m+1,hi,by omega,hhi,by omega,rfl,he⟩,by omega⟩
  ·simp only[hc,decide_false,Bool.false_eq_true,if_false] at he
   simp[h0,h1,h2,h8,h9,h10,hlt,w1,hmid,hml',hcm,hc]
   exact⟨⟨lo,m,by omega,by omega,rfl,rfl,he⟩,by omega⟩
 ·have he:bsGo (lessR l n) 0 l.length=lo:=by rw[he,jA (lo:=lo) hlt]
  unfold bsR
  rw[he]
  by_cases hlo:lo<l.length
  ·have hcm:=hcall lo hlo
   simp[h0,h1,h2,h8,h9,h10,hlt,hlo,hcm,f63,zU]
  ·have hlo':l[lo]?=none:=List.getElem?_eq_none (by omega)
   simp[h0,h1,h2,h8,h9,h10,hlt,hlo,hlo',f63,zU]
theorem bsR_sound:za prog 63 (zc false [] FBr) :=
 zJ (fn:=f63) (zk (q:=[64]) mixed ⟨varKey_sound,fun _=>zg _ _,trivial⟩:AM.Good Cbr _) ⟨_,func63,by kernel_rfl,rfl,by kernel_rfl⟩ false [] _ fun args r h=>by
  obtain⟨⟨l,n⟩,rfl,⟨h1,h2,h3,h4⟩,rfl⟩:=zf h
  exact⟨Nat.le_trans (Nat.le_refl 3) (by decide),_,bsR_eval l n h1 h2 h3 h4,zI _⟩
theorem bsGo_prev (f:Nat→Bool) (lo hi:Nat) (h:lo≤hi):lo<bsGo f lo hi→f (bsGo f lo hi - 1)=true:=by
 induction lo,hi using bsGo.induct (f:=f) with
 | case1 lo hi hlt hf ih =>
   rw[yd hlt,if_pos hf]
   intro hh
   have hle:=(bsGo_le f ((lo+hi) / 2+1) hi (by omega)).1
   rcases Nat.lt_or_eq_of_le hle with g | g
   ·exact ih (by omega) g
   ·rw[←g];simpa using hf
 | case2 lo hi hlt hf ih =>
   rw[yd hlt,if_neg hf]
   intro hh
   exact ih (by omega) hh
 | case3 lo hi hlt =>
   rw[jA hlt]
   intro hh
   omega
theorem chain_all:∀{n lo hi:Int} {p:Option Int} {l:List Rg},Chain n lo hi p l→∀r∈l,lo<r.2.1∧r.2.1≤hi
 | _,_,_,_,[],_,r,hr=>by cases hr
 | n,lo,hi,p,a::l,h,r,hr=>by
   obtain⟨h1,h2,h3,h4,h5,h6,h7⟩:=h
   rcases List.mem_cons.1 hr with rfl | hr
   ·omega
   ·have:=chain_all h7 r hr;omega
theorem chain_last:∀{n lo hi:Int} {p:Option Int} {l:List Rg} (h:Chain n lo hi p l) (hl:0<l.length),(l[l.length - 1]'(by omega)).2.1=hi
 | _,_,_,_,[],_,hl=>by cases hl
 | n,lo,hi,p,[a],h,_=>by obtain⟨_,_,_,_,_,_,h7⟩:=h;exact h7
 | n,lo,hi,p,a::b::l,h,_=>by
   obtain⟨_,_,_,_,_,_,h7⟩:=h
   have:=chain_last h7 (by simp)
   simpa using this
def varF (l:List Rg) (n:Int):Int:=match l[(bsR l (n+1)).1]? with
 | some r=>r.2.2
 | none=>0
theorem bsR_lt {l:List Rg} {n m:Int} (h:qy l m=0) (h1:n<100000):(bsR l (n+1)).1<l.length:=by
 obtain⟨hc,_,h0⟩:=Za h
 have hle:=(bsGo_le (lessR l (n+1)) 0 l.length (Nat.zero_le _)).2
 refine Nat.lt_of_le_of_ne hle fun he=>?_
 have he:bsGo (lessR l (n+1)) 0 l.length=l.length:=he
 have hpv:=bsGo_prev (lessR l (n+1)) 0 l.length (Nat.zero_le _) (by rw[he];exact h0)
 rw[he] at hpv
 have hlast:=chain_last hc h0
 unfold lessR at hpv
 rw[List.getElem?_eq_getElem (by omega)] at hpv
 simp only[decide_eq_true_eq] at hpv
 omega
noncomputable abbrev Cva:Ctx:=zA prog [(63,zc false [] FBr)]
theorem varAtF_sound:za prog 39 (zc false [] (FRN (fun l n=>int (varF l n)) fun l n=>qy l 20=0∧0≤n∧n<100000)) :=
 zJ (fn:=f39) (zk (q:=[]) mixed ⟨bsR_sound,by simp,trivial⟩:AM.Good Cva _) ⟨_,func39,by kernel_rfl,rfl,by kernel_rfl⟩ false [] _ fun args r h=>by
  obtain⟨⟨l,n⟩,rfl,⟨h1,h2,h3⟩,rfl⟩:=zf h
  simp only at h1 h2 h3
  obtain⟨hc,hl,h0⟩:=Za h1
  have ha:=chain_all hc
  have hlt:=bsR_lt h1 h3
  have w1:IntKind.i64.wrap (n+1)=n+1:=zd (by omega) (by omega)
  have hb:∀hp nx,zc false [] FBr [.sl 3 (l.map encG),int (n+1),.fn (.func 64) [] []] hp nx=some (.tup [int (bsR l (n+1)).1,boo (bsR l (n+1)).2],hp,nx):=fun hp nx=>FBr_call l (n+1) hp nx ⟨hl,fun r hr=>by have:=ha r hr;omega,by omega,by omega⟩
  have hv:varF l n=l[(bsR l (n+1)).1].2.2:=by unfold varF;rw[List.getElem?_eq_getElem hlt]
  exact⟨by simp[f39],_,zb rfl (by simp[w1,hb,hlt,hv,f39]),zI _⟩
end Go.Proofs.YtanbabpnlgfcpaaGreatDoor
namespace Go.Proofs.YtanbabpnlgfcpaaGreatDoor
open Go.Proofs.Tryz
open Go.RowKit Go.AM Go.SpanLaw
def nmB (gs:List (List UInt8)) (c:Cnd):Bool:=c.names.all fun n=>decide (n∈gs)
theorem nmB_eq (gs:List (List UInt8)) (c:Cnd):nmB gs c=((!(c.kind==5)||decide (c.name∈gs))&&c.args.all (nmB gs)):=by
 have h:∀l:List Cnd,(namesC l).all (fun n=>decide (n∈gs))=l.all (nmB gs):=fun l=>by
  induction l with
  | nil=>rfl
  | cons x l ih=>rw[namesC,List.all_append,ih,List.all_cons];rfl
 have e:nmB gs c=c.names.all fun n=>decide (n∈gs):=rfl
 rw[e,names_eq,List.all_append,h]
 by_cases hk:c.kind=5
 ·simp[hk]
 ·have hk':(c.kind==5)=false:=by simpa using hk
  simp[hk,hk']
noncomputable def nm1S (sp:AM.Spec):AM.Spec:=hRun (zA prog [(81,sp)]) f108
noncomputable abbrev TAnm (sp:AM.Spec):Tab:=[(108,nm1S sp)]
noncomputable abbrev CnmS (sp:AM.Spec):Ctx:=zA prog [(57,cqctS (TAnm sp))]
noncomputable def namS:Nat→AM.Spec
 | 0=>fun _ _ _=>none
 | k+1=>hRun (CnmS (namS k)) f81
set_option maxRecDepth 100000 in
theorem nm1_sound {sp:AM.Spec} (h:za prog 81 sp):za prog 108 (nm1S sp) :=
 zs (code:=_) (zk (q:=[]) (l:=[(81,sp)]) mixed ⟨h,by simp,trivial⟩) ⟨func108,by kernel_rfl,rfl,by kernel_rfl⟩
set_option maxRecDepth 100000 in
theorem namS_sound:∀k,za prog 81 (namS k)
 | 0=>jY ⟨_,func81,by kernel_rfl,by kernel_rfl⟩
 | k+1=>zs (code:=_) (C:=CnmS (namS k)) (zk (q:=[]) mixed ⟨cqct_sound ⟨nm1_sound (namS_sound k),by simp,trivial⟩,by simp,trivial⟩) ⟨func81,by kernel_rfl,rfl,by kernel_rfl⟩
set_option maxHeartbeats 2000000 in
theorem names_runS (b:Bk) (gs:List (List UInt8)) (id m g:Nat):∀(k:Nat) (c:Cnd) (hp:Hp) (nx:Nat),c.cb≤k→c.cb≤lim→id<nx→g<nx→hp id=some (blkC b m g false)→hp g=some (blkM gs) →
  ∃x hp' nx',namS k [.ref id 0 0,.agg c.enc] hp nx=some (x,hp',nx')∧KeepQ (boo (nmB gs c)) hp nx x hp' nx'
 | 0,c,_,_,h,_,_,_,_,_=>absurd h (by have:=cb_pos c;omega)
 | k+1,c,hp0,nx1,hk,hcl,hid,hgd,hc0,hg0=>by
   have hcb:=cb_eq c
   have hal:=jd c.args
   have hv:=nmB_eq gs c
   have ni:¬id=nx1:=by omega
   have ni2:¬id=nx1+1:=by omega
   have ng:¬g=nx1:=by omega
   have ng2:¬g=nx1+1:=by omega
   have hc:=hc0
   rw[wn] at hc
   have hlk:=look_set (hp:=upd (upd hp0 nx1 (some ⟨81,1,false,[[.ref id 0 0]]⟩)) (nx1+1) (some ⟨68,7,false,[c.enc]⟩)) c.name (by rw[ze _ _ _ _ ng2,ze _ _ _ _ ng];exact hg0)
   obtain⟨r,hp',nx',e1,rfl,_,n2,f2⟩:=cqct_run (σ:=Unit) (T:=fun _=>False) (Rep:=fun _ hp=>hp id=some (blkC b m g false)∧hp g=some (blkM gs)∧hp nx1=some ⟨81,1,false,[[.ref id 0 0]]⟩) (step:=fun _ y=>(!nmB gs y,())) (Ta:=TAnm (namS k)) (g:=108) (sp:=nm1S (namS k)) (fi:=[]) (cap:=[.ref nx1 0 0]) (nx0:=nx1+2) (by simp) c.args (by unfold lim at hcl;unfold lim;omega)
    (fun _ y hp nx hy hn ⟨g1,g2,g3⟩=>by
     have hm:=xq hy
     obtain⟨r,hp',nx',e1,rfl,n2,f2⟩:=names_runS b gs id m g k y (upd hp nx (some ⟨68,7,false,[y.enc]⟩)) (nx+1) (by omega) (by omega) (by omega) (by omega) (by rw[ze _ _ _ _ (by omega)];exact g1) (by rw[ze _ _ _ _ (by omega)];exact g2)
     refine⟨_,hp',nx',?_,rfl,⟨by rw[f2 id (by omega),ze _ _ _ _ (by omega)];exact g1,by rw[f2 g (by omega),ze _ _ _ _ (by omega)];exact g2,by rw[f2 nx1 (by omega),ze _ _ _ _ (by omega)];exact g3⟩,by omega,fun j hj _=>by rw[f2 j (by omega),ze _ _ _ _ (by omega)]⟩
     unfold nm1S hRun
     rw[if_pos (by simp[f108])]
     refine zZ rfl ?_
     have n1:¬nx1=nx:=by omega
     simp[g3,n1,e1,f108]) () (upd (upd hp0 nx1 (some ⟨81,1,false,[[.ref id 0 0]]⟩)) (nx1+1) (some ⟨68,7,false,[c.enc]⟩)) (nx1+2) (Nat.le_refl _)
    ⟨by rw[ze _ _ _ _ ni2,ze _ _ _ _ ni];exact hc0,by rw[ze _ _ _ _ ng2,ze _ _ _ _ ng];exact hg0,by rw[ze _ _ _ _ (by omega)];simp⟩
   rw[foldT_not] at e1
   have hfr:∀j,j<nx1→hp' j=hp0 j:=fun j hj=>by rw[f2 j (by omega) (fun h=>h),ze _ _ _ _ (by omega),ze _ _ _ _ (by omega)]
   unfold namS hRun
   rw[if_pos (by simp[f81])]
   refine zu rfl ?_
   by_cases k5:c.kind=5
   ·by_cases hmem:c.name∈gs
    ·have hv:nmB gs c=c.args.all (nmB gs):=by rw[hv];simp[hmem]
     rw[decide_eq_true hmem] at hlk
     simp[hc,ni,ni2,k5,hlk,e1,hv,KeepQ,f81]
     exact⟨by omega,hfr⟩
    ·have hv:nmB gs c=false:=by rw[hv];simp[k5,hmem]
     rw[decide_eq_false hmem] at hlk
     simp[hc,ni,ni2,k5,hlk,hv,KeepQ,f81]
     exact⟨by omega,fun j hj=>by rw[ze _ _ _ _ (by omega),ze _ _ _ _ (by omega)]⟩
   ·have hv:nmB gs c=c.args.all (nmB gs):=by rw[hv];simp[k5]
    have k5':(c.kind != 5)=true:=by simpa using k5
    simp[hc,ni,ni2,k5',e1,hv,KeepQ,f81]
    exact⟨by omega,hfr⟩
noncomputable def expN (gs:List (List UInt8)) (L:List Lyr) (before:List UInt8) (l:List (List UInt8)) (x:Xp):Int×List (List UInt8) :=
 if wF x.name before=0 then (if (bsN (L.map Lyr.name) x.layer).2=true then (if qh x.flag=true then (if x.cond.check=0 then (if nmB gs x.cond=true then (if yG l x.salt=0 then (if qy x.arms 20=0 then (qJ x.phases,yk l x.salt) else (qy x.arms 20,yk l x.salt)) else (yG l x.salt,yk l x.salt)) else (9,l)) else (x.cond.check,l)) else (5,l)) else (9,l)) else (wF x.name before,l)
noncomputable abbrev CexpS:Ctx:=zA prog [(79,zc false [] (FSS2 fun a b=>int (wF a b))),(41,zc false [] FOfL),(33,zc false [] (FS qh)),(75,GC fun c=>int c.check),(81,namS lim),(80,hRun Csal f80),(82,zc false [] (FRN (fun l n=>int (qy l n)) fun _ n=>1≤n∧n≤20)),(83,zc false [] (FPh fun l=>int (qJ l)))]
theorem goodexpS:AM.Good CexpS (fun g=>[41].contains g):=zk mixed ⟨yh,by simp,vt,fun _=>zg _ _,wV,by simp,vn,by simp,namS_sound lim,by simp,vN,by simp,j5,by simp,phases_sound,by simp,trivial⟩
set_option maxRecDepth 100000 in
theorem experimentS_sound:za prog 50 (hRun CexpS f50):=zs (code:=_) goodexpS ⟨func50,by kernel_rfl,rfl,by kernel_rfl⟩
set_option maxHeartbeats 2000000 in
theorem experimentS_run (b:Bk) (l:List (List UInt8)) (before:List UInt8) (x:Xp) (hb:b.cb≤lim) (hxb:x.cb≤lim) (hp0:Hp) (nx0 id m g:Nat) (hid:id<nx0) (hmd:m<nx0) (hne:id≠m) (hgd:g<nx0) (hgm:g≠m) (gs:List (List UInt8)) (hc0:hp0 id=some (blkC b m g false)) (hm0:hp0 m=some (blkM l)) (hg0:hp0 g=some (blkM gs)) :
  ∃x1 hp' nx',hRun CexpS f50 [.ref id 0 0,.agg x.enc,str before] hp0 nx0=some (x1,hp',nx')∧wY (int (expN gs b.layers before l x).1) (expN gs b.layers before l x).2 m hp0 nx0 x1 hp' nx':=by
 unfold hRun
 rw[if_pos (by simp[f50])]
 refine zu rfl ?_
 have hleL:=qg vq b.layers
 have hbc:b.cb=sumB Lyr.cb b.layers+sumB Hld.cb b.holds+sumB Xp.cb b.exps:=rfl
 have hxc:x.cb=x.name.length+x.layer.length+x.flag.length+x.cond.cb+x.salt.length+x.arms.length+sumB Phs.cb x.phases:=rfl
 unfold lim at hb hxb
 have nm:¬m=nx0:=by omega
 have ni:¬id=nx0:=by omega
 have hnf:=fun hp nx=>Zb (fun a b=>int (wF a b)) x.name before hp nx (by unfold lim;omega) (by simp)
 have hof:=fun hp nx=>vr b.layers x.layer hp nx (by unfold lim;omega)
 have hfl:x.flag.length≤lim:=by unfold lim;omega
 have hcc:=fun hp nx=>GC_call (fun c=>int c.check) x.cond hp nx (by unfold lim;omega)
 have hrg:=fun hp nx=>FRN_call (fun l n=>int (qy l n)) (fun _ n=>1≤n∧n≤20) x.arms 20 hp nx ⟨by omega,by omega⟩
 have hph:=fun hp nx=>FPh_call (fun l=>int (qJ l)) x.phases hp nx (by unfold lim;omega)
 have ng:¬g=nx0:=by omega
 obtain⟨xn,hp1,nn,hnr,rfl,hn1,hk1⟩:=names_runS b gs id m g lim x.cond (upd hp0 nx0 (some ⟨72,13,false,[x.enc]⟩)) (nx0+1) (by unfold lim;omega) (by unfold lim;omega) (by omega) (by omega) (by rw[ze _ _ _ _ ni];exact hc0) (by rw[ze _ _ _ _ ng];exact hg0)
 have hci:hp1 id=some (blkC b m g false):=by rw[hk1 id (by omega),ze _ _ _ _ ni];exact hc0
 have hmi:hp1 m=some (blkM l):=by rw[hk1 m (by omega),ze _ _ _ _ nm];exact hm0
 have hxi:hp1 nx0=some ⟨72,13,false,[x.enc]⟩:=by rw[hk1 nx0 (by omega)];simp
 have hfr:∀j,j<nx0→hp1 j=hp0 j:=fun j hj=>by rw[hk1 j (by omega),ze _ _ _ _ (by omega)]
 have hsr:=salt_run b l x.salt (by unfold lim;omega) false hp1 nn id m g hci hmi
 have hnx':¬nx0=m:=by omega
 have hc:=hc0
 rw[wn] at hc
 rw[zS] at hnr hxi
 rw[ql] at hnr
 simp only[ql] at hcc
 rw[zS]
 by_cases c1:wF x.name before=0
 case neg =>
  have hv:expN gs b.layers before l x=(wF x.name before,l):=by unfold expN;rw[if_neg c1]
  have c1':(wF x.name before != 0)=true:=by simpa using c1
  simp[hnf,c1',hv,f50,wY]
  exact⟨by rw[ze _ _ _ _ nm];exact hm0,fun j hj hjm=>by rw[ze _ _ _ _ (by omega)]⟩
 cases c2:(bsN (b.layers.map Lyr.name) x.layer).2
 ·have hv:expN gs b.layers before l x=(9,l):=by unfold expN;rw[if_pos c1,c2,if_neg (by simp)]
  simp[hnf,c1,ni,hc,hof,c2,hv,f50,wY]
  exact⟨by rw[ze _ _ _ _ nm];exact hm0,fun j hj hjm=>by rw[ze _ _ _ _ (by omega)]⟩
 cases c3:qh x.flag
 ·have hv:expN gs b.layers before l x=(5,l):=by unfold expN;rw[if_pos c1,c2,if_pos rfl,c3,if_neg (by simp)]
  simp[hnf,c1,ni,hc,hof,c2,hfl,c3,hv,f50,wY]
  exact⟨by rw[ze _ _ _ _ nm];exact hm0,fun j hj hjm=>by rw[ze _ _ _ _ (by omega)]⟩
 by_cases c4:x.cond.check=0
 case neg =>
  have hv:expN gs b.layers before l x=(x.cond.check,l):=by unfold expN;rw[if_pos c1,c2,if_pos rfl,c3,if_pos rfl,if_neg c4]
  have c4':(x.cond.check != 0)=true:=by simpa using c4
  simp[hnf,c1,ni,hc,hof,c2,hfl,c3,hcc,c4',hv,f50,wY]
  exact⟨by rw[ze _ _ _ _ nm];exact hm0,fun j hj hjm=>by rw[ze _ _ _ _ (by omega)]⟩
 cases cn:nmB gs x.cond
 ·have hv:expN gs b.layers before l x=(9,l):=by unfold expN;rw[if_pos c1,c2,if_pos rfl,c3,if_pos rfl,if_pos c4,cn,if_neg (by simp)]
  rw[cn] at hnr
  simp[hnf,c1,ni,hc,hof,c2,hfl,c3,hcc,c4,hnr,hv,f50,wY]
  exact⟨by omega,hmi,fun j hj hjm=>hfr j hj⟩
 rw[cn] at hnr
 by_cases c5:yG l x.salt=0
 case neg =>
  have hv:expN gs b.layers before l x=(yG l x.salt,yk l x.salt):=by unfold expN;rw[if_pos c1,c2,if_pos rfl,c3,if_pos rfl,if_pos c4,cn,if_pos rfl,if_neg c5]
  have c5':(yG l x.salt != 0)=true:=by simpa using c5
  simp[hnf,c1,ni,hc,hof,c2,hfl,c3,hcc,c4,hnr,hxi,hsr,c5',hv,f50,wY]
  exact⟨by omega,fun j hj hjm=>by rw[ze _ _ _ _ hjm];exact hfr j hj⟩
 by_cases c6:qy x.arms 20=0
 case neg =>
  have hv:expN gs b.layers before l x=(qy x.arms 20,yk l x.salt):=by unfold expN;rw[if_pos c1,c2,if_pos rfl,c3,if_pos rfl,if_pos c4,cn,if_pos rfl,if_pos c5,if_neg c6]
  have c6':(qy x.arms 20 != 0)=true:=by simpa using c6
  simp[hnf,c1,ni,hc,hof,c2,hfl,c3,hcc,c4,hnr,hxi,hnx',hsr,c5,hrg,c6',hv,f50,wY]
  exact⟨by omega,fun j hj hjm=>by rw[ze _ _ _ _ hjm];exact hfr j hj⟩
 ·have hv:expN gs b.layers before l x=(qJ x.phases,yk l x.salt):=by unfold expN;rw[if_pos c1,c2,if_pos rfl,c3,if_pos rfl,if_pos c4,cn,if_pos rfl,if_pos c5,if_pos c6]
  simp[hnf,c1,ni,hc,hof,c2,hfl,c3,hcc,c4,hnr,hxi,hnx',hsr,c5,hrg,c6,hph,hv,f50,wY]
  exact⟨by omega,fun j hj hjm=>by rw[ze _ _ _ _ hjm];exact hfr j hj⟩
noncomputable def expsN (gs:List (List UInt8)) (L:List Lyr):List UInt8→List (List UInt8)→List Xp→Int×List (List UInt8)
 | _,l,[]=>(0,l)
 | before,l,x::xs=>if (expN gs L before l x).1=0 then expsN gs L x.name (expN gs L before l x).2 xs else expN gs L before l x
noncomputable def jt (gs:List (List UInt8)) (b:Bk):Int :=
 if (20:Int)<b.layers.length∨(10:Int)<b.holds.length∨(100:Int)<b.exps.length then 2
 else if (qt [] [] b.layers).1=0 then
  (if (yH b.layers [] (qt [] [] b.layers).2 b.holds).1=0 then
   (if (expsN gs b.layers [] (yH b.layers [] (qt [] [] b.layers).2 b.holds).2 b.exps).1=0 then (if clsF b.layers b.exps 0 b.exps=true then 13 else 0)
    else (expsN gs b.layers [] (yH b.layers [] (qt [] [] b.layers).2 b.holds).2 b.exps).1)
   else (yH b.layers [] (qt [] [] b.layers).2 b.holds).1)
 else (qt [] [] b.layers).1
theorem expN_ok {gs:List (List UInt8)} {L:List Lyr} {before:List UInt8} {l:List (List UInt8)} {x:Xp} (h:(expN gs L before l x).1=0):expF L before l x=expN gs L before l x∧nmB gs x.cond=true:=by
 unfold expN at h ⊢
 unfold expF
 by_cases c1:wF x.name before=0
 case neg=>rw[if_neg c1] at h;exact absurd h c1
 rw[if_pos c1] at h ⊢;rw[if_pos c1]
 by_cases c2:(bsN (L.map Lyr.name) x.layer).2=true
 case neg=>rw[if_neg c2] at h;simp at h
 rw[if_pos c2] at h ⊢;rw[if_pos c2]
 by_cases c3:qh x.flag=true
 case neg=>rw[if_neg c3] at h;simp at h
 rw[if_pos c3] at h ⊢;rw[if_pos c3]
 by_cases c4:x.cond.check=0
 case neg=>rw[if_neg c4] at h;exact absurd h c4
 rw[if_pos c4] at h ⊢;rw[if_pos c4]
 by_cases cn:nmB gs x.cond=true
 case neg=>rw[if_neg cn] at h;simp at h
 rw[if_pos cn] at h ⊢
 exact⟨rfl,cn⟩
theorem expsN_ok {gs:List (List UInt8)} {L:List Lyr}:∀{xs:List Xp} {before:List UInt8} {l:List (List UInt8)},(expsN gs L before l xs).1=0→(vU L before l xs).1=0∧∀x∈xs,nmB gs x.cond=true
 | [],_,_,h=>⟨rfl,fun x hx=>by cases hx⟩
 | x::xs,before,l,h=>by
   simp only[expsN] at h
   split at h
   ·rename_i c
    obtain⟨e1,e2⟩:=expN_ok c
    obtain⟨e3,e4⟩:=expsN_ok h
    refine⟨by simp only[vU];rw[e1,if_pos c];exact e3,fun y hy=>?_⟩
    rcases List.mem_cons.1 hy with rfl | hy
    ·exact e2
    ·exact e4 y hy
   ·rename_i c;exact absurd h c
theorem checkN_ok {gs:List (List UInt8)} {b:Bk} (h:jt gs b=0):qb b=0∧∀x∈b.exps,nmB gs x.cond=true:=by
 unfold jt at h
 unfold qb
 split at h
 ·simp at h
 rename_i c0
 rw[if_neg c0]
 split at h
 case isFalse c=>exact absurd h c
 rename_i c1
 rw[if_pos c1]
 split at h
 case isFalse c=>exact absurd h c
 rename_i c2
 rw[if_pos c2]
 split at h
 case isFalse c=>exact absurd h c
 rename_i c3
 obtain⟨e1,e2⟩:=expsN_ok c3
 rw[if_pos e1]
 exact⟨h,e2⟩
noncomputable abbrev CchkS:Ctx:=zA prog [(48,hRun Clay f48),(49,hRun Chol f49),(50,hRun CexpS f50),(51,hRun Ccls f51)]
theorem goodchkS:AM.Good CchkS (fun g=>([]:List Nat).contains g):=zk mixed ⟨layers_sound,by simp,holds_sound,by simp,experimentS_sound,by simp,clashes_sound,by simp,trivial⟩
set_option maxRecDepth 100000 in
theorem bkCheckS_sound:za prog 31 (hRun CchkS f31):=zs (code:=_) goodchkS ⟨func31,by kernel_rfl,rfl,by kernel_rfl⟩
set_option maxHeartbeats 2000000 in
theorem check_runS (b:Bk) (hb:b.cb≤lim) (hp0:Hp) (nx0 id m g:Nat) (hid:id<nx0) (hmd:m<nx0) (hgd:g<nx0) (hne:id≠m) (hgm:g≠m) (gs:List (List UInt8)) (hc0:hp0 id=some (blkC b m g false)) (hm0:hp0 m=some (blkM [])) (hg0:hp0 g=some (blkM gs)) :
  ∃x1 hp' nx',hRun CchkS f31 [.ref id 0 0] hp0 nx0=some (x1,hp',nx')∧x1=int (jt gs b):=by
 unfold hRun
 rw[if_pos (by simp[f31])]
 refine zu rfl ?_
 have hlen:=qg xp_pos b.exps
 have hleL:=qg vq b.layers
 have hleH:=qg hld_pos b.holds
 have hbc:b.cb=sumB Lyr.cb b.layers+sumB Hld.cb b.holds+sumB Xp.cb b.exps:=rfl
 have hb':=hb
 unfold lim at hb
 obtain⟨x1,hp1,nx1,l1,rfl,l3,l4,l5⟩:=layers_run b [] hb' false hp0 nx0 id m g hid hmd hne hc0 hm0
 have hc1:hp1 id=some (blkC b m g false):=by rw[l5 id hid hne];exact hc0
 obtain⟨e1,he1⟩:∃e,qt [] [] b.layers=e:=⟨_,rfl⟩
 rw[he1] at l1 l4
 obtain⟨x2,hp2,nx2,g1,rfl,g3,g4,g5⟩:=holds_run b e1.2 hb' false hp1 nx1 id m g (by omega) (by omega) hne hc1 l4
 have hc2:hp2 id=some (blkC b m g false):=by rw[g5 id (by omega) hne];exact hc1
 have hg2:hp2 g=some (blkM gs):=by rw[g5 g (by omega) hgm,l5 g hgd hgm];exact hg0
 obtain⟨e2,he2⟩:∃e,yH b.layers [] e1.2 b.holds=e:=⟨_,rfl⟩
 rw[he2] at g1 g4
 obtain⟨e3,he3⟩:∃e,expsN gs b.layers [] e2.2 b.exps=e:=⟨_,rfl⟩
 have hc:=hc0
 rw[wn] at hc
 have hcc2:=hc2
 rw[wn] at hcc2
 by_cases a1:(20:Int)<b.layers.length
 ·have hv:jt gs b=2:=by unfold jt;rw[if_pos (.inl a1)]
  simp[hc,a1,hv,f31]
 by_cases a2:(10:Int)<b.holds.length
 ·have hv:jt gs b=2:=by unfold jt;rw[if_pos (.inr (.inl a2))]
  simp[hc,a1,a2,hv,f31]
 by_cases a3:(100:Int)<b.exps.length
 ·have hv:jt gs b=2:=by unfold jt;rw[if_pos (.inr (.inr a3))]
  simp[hc,a1,a2,a3,hv,f31]
 have hv0:jt gs b=if e1.1=0 then (if e2.1=0 then (if e3.1=0 then (if clsF b.layers b.exps 0 b.exps=true then 13 else 0) else e3.1) else e2.1) else e1.1:=by
  unfold jt;rw[if_neg (by omega),he1,he2,he3]
 by_cases c1:e1.1=0
 case neg =>
  rw[if_neg c1] at hv0
  have c1':(e1.1 != 0)=true:=by simpa using c1
  simp[hc,a1,a2,a3,l1,c1',hv0,f31]
 rw[if_pos c1] at hv0
 by_cases c2:e2.1=0
 case neg =>
  rw[if_neg c2] at hv0
  have c2':(e2.1 != 0)=true:=by simpa using c2
  simp[hc,a1,a2,a3,l1,c1,g1,c2',hv0,f31]
 rw[if_pos c2] at hv0
 simp[hc,a1,a2,a3,l1,c1,g1,c2,hcc2]
 refine zC (fun k σ hp nx=>σ 0=.ref id 0 0∧σ 48=.sl 13 (b.exps.map Xp.enc)∧σ 49=int b.exps.length∧σ 50=int k∧nx0≤nx∧hp id=some (blkC b m g false)∧hp g=some (blkM gs)∧∃(before:List UInt8) (l':List (List UInt8)),σ 5=str before∧hp m=some (blkM l')∧e3=expsN gs b.layers before l' (b.exps.drop k)) b.exps.length
  ⟨by simp,by simp,by simp,by simp,by simp;omega,hc2,hg2,[],e2.2,by simp,g4,by simp[he3]⟩ ?_
 clear l1 l3 l4 l5 hc1 g1 g3 g4 g5 hc2 hcc2 hc hg2
 rintro k σ hp nx hk ⟨h0,h48,h49,h50,hnx,hcn,hgn,before,l',h5,hm,he⟩
 by_cases hlt:k<b.exps.length
 ·obtain⟨x,hx⟩:∃x,b.exps[k]=x:=⟨_,rfl⟩
  have hmx:=qA (f:=Xp.cb) (List.getElem_mem hlt)
  rw[hx] at hmx
  have nm:¬m=nx:=by omega
  have ni:¬id=nx:=by omega
  have hw:IntKind.i64.wrap ((k:Int)+1)=(k:Int)+1:=zd (by omega) (by omega)
  rw[List.drop_eq_getElem_cons hlt,hx] at he
  simp only[expsN] at he
  obtain⟨x3,hp3,nx3,q1,rfl,q3,q4,q5⟩:=experimentS_run b l' before x hb' (by unfold lim;omega) (upd hp nx (some (boxX x))) (nx+1) id m g (by omega) (by omega) hne (by omega) hgm gs (by rw[ze _ _ _ _ ni];exact hcn) (by rw[ze _ _ _ _ nm];exact hm) (by rw[ze _ _ _ _ (by omega)];exact hgn)
  have hc3:hp3 id=some (blkC b m g false):=by rw[q5 id (by omega) hne,ze _ _ _ _ ni];exact hcn
  have hg3:hp3 g=some (blkM gs):=by rw[q5 g (by omega) hgm,ze _ _ _ _ (by omega)];exact hgn
  have hx3:hp3 nx=some (boxX x):=by rw[q5 nx (by omega) (by omega)];simp
  simp only[boxX,zS] at q1 hx3
  by_cases d1:(expN gs b.layers before l' x).1=0
  case neg =>
   rw[if_neg d1] at he
   have hv:jt gs b=(expN gs b.layers before l' x).1:=by rw[hv0,he,if_neg d1]
   have d1':((expN gs b.layers before l' x).1 != 0)=true:=by simpa using d1
   simp[h0,h5,h48,h49,h50,hlt,hx,zS,q1,d1',hv,f31]
  ·rw[if_pos d1] at he
   simp[h0,h5,h48,h49,h50,hlt,hx,zS,q1,d1,hx3,hw]
   exact⟨by omega,by omega,hc3,hg3,_,q4,he⟩
 ·obtain rfl:k=b.exps.length:=by omega
  rw[List.drop_length] at he
  simp only[expsN] at he
  have hz:(expsN gs b.layers [] e2.2 b.exps).1=0:=by rw[he3,he]
  have hyr:=layers_ok (by rw[he1];exact c1)
  have hex:=exps_ok (expsN_ok hz).1
  obtain⟨x3,hp3,nx3,q1,rfl,q3,q4⟩:=clashes_run b hb' (fun x hxm=>⟨⟨phasesF_ok (hex x hxm).1,by have:=qA (f:=Xp.cb) hxm;unfold lim;omega⟩,(hex x hxm).2⟩) hyr false hp nx id m g (by omega) hcn
  have hv:jt gs b=if clsF b.layers b.exps 0 b.exps=true then 13 else 0:=by rw[hv0,he,if_pos rfl]
  cases hcl:clsF b.layers b.exps 0 b.exps
  ·rw[hcl,if_neg (by simp)] at hv
   rw[hcl] at q1
   simp[h0,h48,h49,h50,q1,hv,f31]
  ·rw[hcl,if_pos rfl] at hv
   rw[hcl] at q1
   simp[h0,h48,h49,h50,q1,hv,f31]
theorem checkerOf_runS (l:List Sgm) (b:Bk) (hl:sgb l≤lim) (hu:UpN (l.map Sgm.name)) (hp0:Hp) (nx0:Nat):∃x1 hp' nx',hRun C0 f30 [.sl 10 (l.map Sgm.enc),.agg b.enc] hp0 nx0=some (x1,hp',nx')∧x1=.ref (nx0+1+1+1) 0 0∧nx0+1+1+1+1≤nx'∧hp' (nx0+1)=some (blkM [])∧hp' (nx0+1+1)=some (blkM (l.map Sgm.name))∧hp' (nx0+1+1+1)=some (blkC b (nx0+1) (nx0+1+1) false):=by
 have hle:=sgb_len l
 unfold lim at hl
 unfold hRun
 rw[if_pos (by simp[f30])]
 refine zu rfl ?_
 simp[Bk.enc,zK,z8]
 refine zC (fun k σ hp nx=>σ 13=.sl 10 (l.map Sgm.enc)∧σ 14=int l.length∧σ 15=int k∧σ 5=.ref (nx0+1+1+1) 0 0∧nx0+1+1+1+1≤nx∧hp (nx0+1)=some (blkM [])∧hp (nx0+1+1)=some (blkM ((l.take k).map Sgm.name))∧hp (nx0+1+1+1)=some (blkC b (nx0+1) (nx0+1+1) false)) l.length
  ⟨by simp,by simp,by simp,by simp,by simp,by simp[blkM,entM],by simp[blkM,entM],by simp[wn]⟩ ?_
 rintro k σ hp nx hk ⟨h13,h14,h15,h5,hnx,hm,hg,hc⟩
 by_cases hlt:k<l.length
 ·have hw:IntKind.i64.wrap ((k:Int)+1)=(k:Int)+1:=zd (by omega) (by omega)
  obtain⟨s,hs⟩:∃s,l[k]=s:=⟨_,rfl⟩
  have hns:s.name ∉ (l.take k).map Sgm.name:=by
   intro hmem
   obtain⟨y,hy,he⟩:=List.mem_map.1 hmem
   obtain⟨j,hj⟩:=List.getElem?_of_mem hy
   have hjk:j<k:=by
    have:=(List.getElem?_eq_some_iff.1 hj).1
    simp at this;omega
   have hjy:l[j]?=some y:=by rw[List.getElem?_take_of_lt hjk] at hj;exact hj
   have h1:=(idx_at hu hjy).1
   have h2:=(idx_at hu (i:=k) (s:=s) (by rw[List.getElem?_eq_getElem hlt,hs])).1
   rw[he] at h1
   omega
  have ng:¬nx0+1+1=nx:=by omega
  have nc:¬nx0+1+1+1=nx:=by omega
  have nm:¬nx0+1=nx:=by omega
  have hput:=put_set (hp:=upd hp nx (some (boxS s))) (id:=nx0+1+1) (l:=(l.take k).map Sgm.name) s.name (by rw[ze _ _ _ _ ng];exact hg) hns
  have hpre:(l.take k).map Sgm.name++[s.name]=(l.take (k+1)).map Sgm.name:=by rw[List.take_succ_eq_append_getElem hlt,hs];simp
  rw[hpre] at hput
  have hc':=hc
  rw[wn] at hc'
  simp only[boxS] at hput
  simp[h13,h14,h15,h5,hlt,hs,hc',nc,hput,hw]
  exact⟨by omega,by omega,by rw[ze _ _ _ _ nm];exact hm,by simp[wn]⟩
 ·obtain rfl:k=l.length:=by omega
  rw[List.take_length] at hg
  simp[h13,h14,h15,h5,f30]
  exact⟨hnx,hm,hg,hc⟩
noncomputable def chkB (l:List Sgm) (b:Bk):Int:=if yt l=0 then jt (l.map Sgm.name) b else yt l
noncomputable def FLB (out:List Sgm→Bk→PV):List PV→Option PV:=zG (α:=List Sgm×Bk) (fun a=>[.sl 10 (a.1.map Sgm.enc),.agg a.2.enc]) (fun a=>sgb a.1≤lim∧a.2.cb≤lim) (fun a=>out a.1 a.2)
theorem FLB_call (out:List Sgm→Bk→PV) (l:List Sgm) (b:Bk) (hp:Hp) (nx:Nat) (h:sgb l≤lim) (h2:b.cb≤lim):zc false [] (FLB out) [.sl 10 (l.map Sgm.enc),.agg b.enc] hp nx=some (out l b,hp,nx) :=
 zt (hp1:=hp) (show zh hp [.sl 10 (l.map Sgm.enc),.agg b.enc]=some ([.sl 10 (l.map Sgm.enc),.agg b.enc],hp) by simp[Bk.enc]) (zn (enc:=fun a:List Sgm×Bk=>[.sl 10 (a.1.map Sgm.enc),.agg a.2.enc]) (a:=(l,b)) (fun a b e=>by
  obtain⟨a1,a2⟩:=a;obtain⟨b1,b2⟩:=b
  simp only[List.cons.injEq,and_true,PV.agg.injEq] at e
  rw[sgms_inj e.1,bk_inj e.2]) ⟨h,h2⟩) (.inr (by simp[Bk.enc]))
noncomputable abbrev Cck2:Ctx:=zA prog [(29,zc false [] (FSs fun l=>int (yt l))),(30,hRun C0 f30),(31,hRun CchkS f31)]
set_option maxRecDepth 100000 in
theorem goodck2:AM.Good Cck2 (fun g=>([]:List Nat).contains g):=zk mixed ⟨checkSegments_sound,by simp,vw,by simp,bkCheckS_sound,by simp,trivial⟩
set_option maxRecDepth 20000 in
theorem Check_eval (l:List Sgm) (b:Bk) (hl:sgb l≤lim) (h:b.cb≤lim):zi Cck2 f14 [.sl 10 (l.map Sgm.enc),.agg b.enc]=some (int (chkB l b)):=by
 refine zb rfl ?_
 have g1:=fun hp nx=>FSs_call (fun l=>int (yt l)) l hp nx hl rfl
 by_cases c1:yt l=0
 case neg =>
  have c1':(yt l != 0)=true:=by simpa using c1
  have hv:chkB l b=yt l:=by unfold chkB;rw[if_neg c1]
  simp[Bk.enc,g1,c1',hv,zU,f14]
 have hok:=segs_ok c1
 have hv:chkB l b=jt (l.map Sgm.name) b:=by unfold chkB;rw[if_pos c1]
 obtain⟨x1,hp1,nx1,l1,rfl,l3,l4,l5,l6⟩:=checkerOf_runS l b hl hok.up (upd (fun _=>none) 0 (some ⟨27,3,false,[b.enc]⟩)) 1
 obtain⟨x2,hp2,nx2,q1,rfl⟩:=check_runS b h hp1 nx1 4 2 3 (by omega) (by omega) (by omega) (by omega) (by omega) (l.map Sgm.name) l6 l4 l5
 simp only[Bk.enc] at l1
 simp[Bk.enc,g1,c1,l1,q1,hv,zU,f14]
set_option maxRecDepth 100000 in
theorem Check_sound:za prog 14 (zc false [] (FLB fun l b=>int (chkB l b))) :=
 zJ (fn:=f14) goodck2 ⟨_,func14,by kernel_rfl,rfl,by kernel_rfl⟩ false [] _ fun args r h=>by
  obtain⟨⟨l,b⟩,rfl,⟨h1,h2⟩,rfl⟩:=zf h
  exact⟨by simp[f14],_,Check_eval l b h1 h2,zI _⟩
theorem chk_ok {b:Bk} (h:qb b=0):(∀y∈b.layers,0≤y.rest∧y.rest≤100000000)∧(∀x∈b.exps,qJ x.phases=0∧(bsN (b.layers.map Lyr.name) x.layer).2=true)∧clsF b.layers b.exps 0 b.exps=false:=by
 unfold qb at h
 split at h
 ·exact absurd h (by simp)
 split at h
 ·rename_i c1
  split at h
  ·split at h
   ·rename_i c3
    split at h
    ·exact absurd h (by simp)
    ·rename_i c4
     exact⟨layers_ok c1,exps_ok c3,by simpa using c4⟩
   ·rename_i c;exact absurd h c
  ·rename_i c;exact absurd h c
 ·rename_i c;exact absurd h c
theorem phF_spans:∀{xs:List Phs} {p:Option Int} {b:List Sp},phF p b xs=0→∀y∈xs,qx y.spans=0
 | [],_,_,_,y,hy=>by simp at hy
 | x::xs,p,b,h,y,hy=>by
   simp only[phF] at h
   split at h
   ·split at h
    ·exact absurd h (by simp)
    ·split at h
     ·rename_i c
      split at h
      ·exact absurd h (by simp)
      ·rcases List.mem_cons.1 hy with rfl | hy
       ·exact c
       ·exact phF_spans h y hy
     ·rename_i c;exact absurd h c
   ·exact absurd h (by simp)
theorem yi {l:List Phs} (h:qJ l=0):∀y∈l,qx y.spans=0:=by
 unfold qJ at h
 split at h
 ·exact absurd h (by simp)
 ·exact phF_spans h
end Go.Proofs.YtanbabpnlgfcpaaGreatDoor
namespace Go.Proofs
open Go.Shelf
open Go.AM
end Go.Proofs
namespace Go.Proofs.YtanbabpnlgfcpaaGreatDoor
open Go.Proofs.Tryz
open Go.RowKit Go.AM Go.SpanLaw
theorem hasG_or (n:Int):∀(l:List Phs) (acc:List Sp),hasG acc n l=acc∨∃p∈l,hasG acc n l=p.spans
 | [],acc=>.inl rfl
 | p::l,acc=>by
   simp only[hasG]
   rcases hasG_or n l (if p.at_≤n then p.spans else acc) with h | ⟨q,hq,h⟩
   ·split at h
    ·rename_i c;rw[if_pos c];exact .inr ⟨p,by simp,h⟩
    ·rename_i c;rw[if_neg c];exact .inl h
   ·exact .inr ⟨q,by simp[hq],h⟩
theorem hasG_len (n:Int) (l:List Phs):(hasG [] n l).length≤sumB Phs.cb l:=by
 rcases hasG_or n l [] with h | ⟨p,hp,h⟩
 ·rw[h];simp
 ·rw[h]
  have:=qA (f:=Phs.cb) hp
  have hpc:p.cb=1+p.spans.length:=rfl
  omega
end Go.Proofs.YtanbabpnlgfcpaaGreatDoor
