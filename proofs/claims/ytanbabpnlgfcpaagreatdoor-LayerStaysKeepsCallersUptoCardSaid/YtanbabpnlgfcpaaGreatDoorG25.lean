/-
value.Bucket: what it computes lies below 100000.
The checker: its holds.
The checker: one experiment (any segment is let in).
The checker: what comes too near; the check of a book.
The check of a book.
What a layer gives: the check, what an experiment has, what is free.
The reference's books: times, salts, names in order, the search in line.
The reference's books: a text in a list.
-/
import Derived.Shelf.Bits.Mul64
import Derived.Test.YtanbabpnlgfcpaaGreatDoorG12
import Derived.Test.YtanbabpnlgfcpaaGreatDoorG20
import Derived.Test.YtanbabpnlgfcpaaGreatDoorG24
set_option maxRecDepth 8000
namespace Go.Proofs
open Go.Shelf
def Tryz.lays264_ren:Go.Shelf.Ren:=⟨fun | 264=>90 | n=>n,fun | 46=>154 | 53=>123 | n=>n,fun | n=>n⟩
theorem Tryz.lays264:Go.Proofs.Lays.n264 prog Tryz.lays264_ren:={
 mixed:=by kernel_rfl
 f264:=func90.trans (congrArg some (by kernel_rfl))
 t46:=underlying154
 a46:=isAgg154
 z46:=sizeOf154
 v46:=zeroValue154
 t53:=underlying123
 a53:=isAgg123
 z53:=sizeOf123
 v53:=zeroValue123 }
end Go.Proofs
namespace Go.Proofs.YtanbabpnlgfcpaaGreatDoor
open Go.Proofs.Tryz
open Go.RowKit Go.AM
abbrev u64 (n:Int):PV:=.v (.int .u64 n)
def mulH (x y:Nat):Nat:=x*y / 18446744073709551616
def mulL (x y:Nat):Nat:=x*y % 18446744073709551616
noncomputable def FMu:List PV→Option PV:=zG (α:=Nat×Nat) (fun a=>[u64 a.1,u64 a.2]) (fun a=>a.1<18446744073709551616∧a.2<18446744073709551616) (fun a=>.tup [u64 (mulH a.1 a.2),u64 (mulL a.1 a.2)])
theorem u64_inj {a b:Nat} (h:u64 (a:Int)=u64 b):a=b:=by
 injection h with h;injection h with _ h;omega
theorem mu_inj:∀a b:Nat×Nat,[u64 (a.1:Int),u64 (a.2:Int)]=[u64 b.1,u64 b.2]→a=b:=by
 rintro⟨a1,a2⟩ ⟨b1,b2⟩ e
 simp only[List.cons.injEq,and_true] at e
 rw[u64_inj e.1,u64_inj e.2]
theorem mul64_sound:za prog 90 (zc false [] FMu) :=
 wD ⟨_,func90,by kernel_rfl,by kernel_rfl⟩ fun args r h=>by
  obtain⟨⟨a,b⟩,rfl,⟨h1,h2⟩,rfl⟩:=zf h
  refine⟨[.int .u64 a,.int .u64 b],rfl,by simp[lit],rfl,.tuple #[.int .u64 (mulH a b),.int .u64 (mulL a b)],fun w S=>.tup rfl fun j pv u hj hu=>?_,fun w S _=>?_⟩
  ·match j with
   | 0=>simp at hj hu;subst hj;subst hu;exact .v rfl
   | 1=>simp at hj hu;subst hj;subst hu;exact .v rfl
   | j+2=>simp at hj
  ·refine (Any.bits_Mul64 Tryz.lays264 a b h1 h2 w).mono fun e w' hh=>?_
   obtain⟨rfl,rfl⟩:=hh
   exact⟨rfl,Fr.refl _ _⟩
theorem mu_call (a b:Nat) (hp:Hp) (nx:Nat) (h1:a<18446744073709551616) (h2:b<18446744073709551616):zc false [] FMu [u64 a,u64 b] hp nx=some (.tup [u64 (mulH a b),u64 (mulL a b)],hp,nx) :=
 zt rfl (zn (enc:=fun a:Nat×Nat=>[u64 a.1,u64 a.2]) (a:=(a,b)) mu_inj ⟨h1,h2⟩) (.inl rfl)
def xorU (a b:Int):Int:=IntKind.u64.wrap (((a % 2 ^ IntKind.u64.bits).toNat ^^^ (b % 2 ^ IntKind.u64.bits).toNat:Nat):Int)
def shr33 (a:Int):Int:=a.fdiv (2 ^ min 33 IntKind.u64.bits)
def mixU (z k:Int):Int:=IntKind.u64.wrap (xorU z (shr33 z)*k)
def lastU (z:Int):Int:=xorU (mixU (mixU z 18397679294719823053) 14181476777654086739) (shr33 (mixU (mixU z 18397679294719823053) 14181476777654086739))
def kw (z:Int):Nat:=mulH (lastU z).toNat 100000
theorem wrap_range (a:Int):0≤IntKind.u64.wrap a∧IntKind.u64.wrap a<18446744073709551616:=by rw[IntKind.wrap_u64];omega
theorem last_range (z:Int):0≤lastU z∧lastU z<18446744073709551616:=wrap_range _
theorem spread_lt (z:Int):kw z<100000:=by
 have:=last_range z
 unfold kw mulH
 omega
noncomputable abbrev Cspr:Ctx:=zA prog [(90,zc false [] FMu)]
noncomputable def FSr:List PV→Option PV:=zG (α:=Int) (fun a=>[u64 a]) (fun _=>True) (fun a=>int (kw a))
theorem FSr_call (a:Int) (hp:Hp) (nx:Nat):zc false [] FSr [u64 a] hp nx=some (int (kw a),hp,nx) :=
 zt rfl (zn (enc:=fun a:Int=>[u64 a]) (a:=a) (fun a b e=>by simp only[List.cons.injEq,and_true] at e;injection e with e;injection e with _ e) trivial) (.inl rfl)
theorem spread_eval (z:Int):zi Cspr f55 [u64 z]=some (int (kw z)):=by
 refine zb rfl ?_
 have hr:=last_range z
 have hs:=spread_lt z
 have hc:=fun hp nx=>mu_call (lastU z).toNat 100000 hp nx (by omega) (by omega)
 have e1:(((lastU z).toNat:Nat):Int)=lastU z:=by omega
 rw[e1] at hc
 have fx:∀a b:Int,IntKind.u64.wrap (((a % 2 ^ IntKind.u64.bits).toNat ^^^ (b % 2 ^ IntKind.u64.bits).toNat:Nat):Int)=xorU a b:=fun _ _=>rfl
 have fs:∀a:Int,a.fdiv (2 ^ min 33 IntKind.u64.bits)=shr33 a:=fun _=>rfl
 have fm:∀a k:Int,IntKind.u64.wrap (xorU a (shr33 a)*k)=mixU a k:=fun _ _=>rfl
 have fl:xorU (mixU (mixU z 18397679294719823053) 14181476777654086739) (shr33 (mixU (mixU z 18397679294719823053) 14181476777654086739))=lastU z:=rfl
 have w1:IntKind.i64.wrap (mulH (lastU z).toNat 100000:Nat)=(kw z:Int):=zd (by unfold kw at hs;omega) (by unfold kw at hs;omega)
 simp only[Int.cast_ofNat_Int] at hc
 simp[fx,fs,fm,fl,hc,w1,f55]
theorem spread_sound:za prog 55 (zc false [] FSr) :=
 zJ (fn:=f55) (zk (q:=[]) mixed ⟨mul64_sound,by simp,trivial⟩:AM.Good Cspr _) ⟨_,func55,by kernel_rfl,rfl,by kernel_rfl⟩ false [] _ fun args r h=>by
  obtain⟨a,rfl,_,rfl⟩:=zf h
  exact⟨by simp[f55],_,spread_eval a,zI _⟩
def stepU (h:Int) (c:UInt8):Int:=IntKind.u64.wrap (xorU h (IntKind.u64.wrap c.toNat)*1099511628211)
def xx (h:Int) (s:List UInt8):Int:=s.foldl stepU h
def xy (salt key:List UInt8):Nat:=kw (xx (xx (xx 14695981039346656037 salt) [47]) key)
theorem buck_lt (salt key:List UInt8):xy salt key<100000:=spread_lt _
def buP (a b:List UInt8):PV:=int (xy a b)
noncomputable abbrev Cbuk:Ctx:=zA prog [(55,zc false [] FSr)]
theorem bucket_eval (a b:List UInt8) (ha:a.length≤lim) (hb:b.length≤lim):zi Cbuk f36 [str a,str b]=some (buP a b):=by
 unfold lim at ha hb
 have w1:IntKind.i64.wrap 1=1:=zd (by omega) (by omega)
 have fx:∀a b:Int,IntKind.u64.wrap (((a % 2 ^ IntKind.u64.bits).toNat ^^^ (b % 2 ^ IntKind.u64.bits).toNat:Nat):Int)=xorU a b:=fun _ _=>rfl
 have ft:∀(h:Int) (c:UInt8),IntKind.u64.wrap (xorU h (IntKind.u64.wrap c.toNat)*1099511628211)=stepU h c:=fun _ _=>rfl
 obtain⟨L,hL⟩:∃L:List (List UInt8),L=[a,[47],b]:=⟨_,rfl⟩
 obtain⟨E,hE⟩:∃E:List (List PV),E=[[str a],[str [47]],[str b]]:=⟨_,rfl⟩
 have hEl:E.length=3:=by rw[hE];rfl
 have hLl:∀s∈L,s.length≤2097152:=fun s hs=>by
  rw[hL] at hs
  simp at hs
  rcases hs with rfl | rfl | rfl
  ·exact ha
  ·simp
  ·exact hb
 refine zb rfl ?_
 simp[zl,zx,zm]
 refine zC (fun k σ hp nx=>σ 11=.own 0 0 3∧σ 12=int 3∧σ 13=int k∧hp 0=some ⟨9,1,true,E⟩∧σ 5=u64 ((L.take k).foldl xx 14695981039346656037)) 3 ⟨by simp,by simp,by simp,by simp[hE],by simp⟩ ?_
 rintro k σ hp nx hk ⟨h11,h12,h13,hb0,h5⟩
 by_cases hlt:k<3
 ·have hlt':(k:Int)<3:=by omega
  have hw:IntKind.i64.wrap ((k:Int)+1)=(k:Int)+1:=zd (by omega) (by omega)
  have hkL:k<L.length:=by rw[hL];exact hlt
  obtain⟨s,hs⟩:∃s,L[k]=s:=⟨_,rfl⟩
  have hsl:=hLl s (by rw[←hs];exact List.getElem_mem hkL)
  have hkE:k<E.length:=by omega
  have hes:E[k]=[str s]:=by
   have hc:k=0∨k=1∨k=2:=by omega
   subst hL;subst hE
   rcases hc with rfl | rfl | rfl<;>(simp at hs;simp[hs])
  obtain⟨H,hH⟩:∃H,(L.take k).foldl xx 14695981039346656037=H:=⟨_,rfl⟩
  have hHs:(L.take (k+1)).foldl xx 14695981039346656037=xx H s:=by rw[List.take_succ_eq_append_getElem hkL,List.foldl_append,hH,hs];rfl
  rw[hH] at h5
  simp[h11,h12,h13,h5,hb0,hlt,hlt',hkE,hes]
  refine zC (fun i σ hp nx=>σ 11=.own 0 0 3∧σ 12=int 3∧σ 13=int k∧hp 0=some ⟨9,1,true,E⟩∧σ 7=str s∧σ 18=int s.length∧σ 19=int i∧σ 5=u64 (xx H (s.take i))) s.length ⟨by simp[h11],by simp[h12],by simp[h13],by simp[hb0],by simp,by simp,by simp,by simp[h5,xx]⟩ ?_
  clear h11 h12 h13 hb0 h5 σ hp nx
  rintro i σ hp nx hi ⟨h11,h12,h13,hb0,h7,h18,h19,h5⟩
  by_cases hli:i<s.length
  ·have hwi:IntKind.i64.wrap ((i:Int)+1)=(i:Int)+1:=zd (by omega) (by omega)
   have hst:xx H (s.take (i+1))=stepU (xx H (s.take i)) s[i]:=by unfold xx;rw[List.take_succ_eq_append_getElem hli,List.foldl_append];rfl
   simp[h11,h12,h13,hb0,h7,h18,h19,h5,hli,hwi,fx,ft]
   exact⟨by omega,by rw[hst]⟩
  ·obtain rfl:i=s.length:=by omega
   rw[List.take_length] at h5
   simp[h11,h12,h13,hb0,h7,h18,h19,h5,hw]
   exact⟨by omega,by rw[hHs]⟩
 ·obtain rfl:k=3:=by omega
  have hc:=fun hp nx=>FSr_call (xx (xx (xx 14695981039346656037 a) [47]) b) hp nx
  subst hL
  simp at h5
  simp[h11,h12,h13,h5,hc,buP,xy,f36]
theorem bucket_sound:za prog 36 (zc false [] (FTT buP fun _ _=>True)) :=
 zJ (fn:=f36) (zk (q:=[]) mixed ⟨spread_sound,by simp,trivial⟩:AM.Good Cbuk _) ⟨_,func36,by kernel_rfl,rfl,by kernel_rfl⟩ false [] _ fun args r h=>by
  obtain⟨a,b,rfl,h1,h2,_,rfl⟩:=wq h
  exact⟨by simp[f36],_,bucket_eval a b h1 h2,zI _⟩
theorem bu_call (a b:List UInt8) (hp:Hp) (nx:Nat) (h:a.length≤lim) (h2:b.length≤lim):zc false [] (FTT buP fun _ _=>True) [str a,str b] hp nx=some (int (xy a b),hp,nx):=ww _ _ a b hp nx h h2 trivial rfl
end Go.Proofs.YtanbabpnlgfcpaaGreatDoor
namespace Go.Proofs.YtanbabpnlgfcpaaGreatDoor
open Go.Proofs.Tryz
open Go.RowKit Go.AM Go.SpanLaw
def leP (p:Option (List UInt8)) (s:List UInt8):Bool:=match p with
 | none=>false
 | some q=>leB s q
noncomputable def holdLs (L:List Lyr):Option (List UInt8)→List (List UInt8)→Int
 | _,[]=>0
 | p,s::l=>if (bsN (L.map Lyr.name) s).2=true then (if leP p s=true then 8 else holdLs L (some s) l) else 9
noncomputable def holdF (L:List Lyr) (x:Hld):Int:=if inB x.buckets 1 100000=true then (if x.layers.length=0 then 9 else holdLs L none x.layers) else 1
noncomputable def yH (L:List Lyr):List UInt8→List (List UInt8)→List Hld→Int×List (List UInt8)
 | _,l,[]=>(0,l)
 | before,l,x::xs=>if wF x.name before=0 then (if yG l x.salt=0 then (if holdF L x=0 then yH L x.name (yk l x.salt) xs else (holdF L x,yk l x.salt)) else (yG l x.salt,yk l x.salt)) else (wF x.name before,l)
def prevT (l:List (List UInt8)) (k:Nat):Option (List UInt8):=if k=0 then none else l[k - 1]?
noncomputable abbrev Chol:Ctx:=zA prog [(79,zc false [] (FSS2 fun a b=>int (wF a b))),(80,hRun Csal f80),(32,zc false [] (F3 inB)),(41,zc false [] FOfL)]
theorem goodhol:AM.Good Chol (fun g=>([]:List Nat).contains g):=zk mixed ⟨yh,by simp,vN,by simp,yg,by simp,vt,by simp,trivial⟩
set_option maxRecDepth 100000 in
theorem holds_sound:za prog 49 (hRun Chol f49):=zs (code:=_) goodhol ⟨func49,by kernel_rfl,rfl,by kernel_rfl⟩
set_option maxHeartbeats 2000000 in
theorem holds_run (b:Bk) (l:List (List UInt8)) (hb:b.cb≤lim) (any:Bool) (hp0:Hp) (nx0 id m g:Nat) (hid:id<nx0) (hmd:m<nx0) (hne:id≠m) (hc0:hp0 id=some (blkC b m g any)) (hm0:hp0 m=some (blkM l)) :
  ∃x hp' nx',hRun Chol f49 [.ref id 0 0] hp0 nx0=some (x,hp',nx')∧wY (int (yH b.layers [] l b.holds).1) (yH b.layers [] l b.holds).2 m hp0 nx0 x hp' nx':=by
 unfold hRun
 rw[if_pos (by simp[f49])]
 refine zu rfl ?_
 have hlen:=qg hld_pos b.holds
 have hleL:=qg vq b.layers
 have hbc:b.cb=sumB Lyr.cb b.layers+sumB Hld.cb b.holds+sumB Xp.cb b.exps:=rfl
 unfold lim at hb
 have hc:=hc0
 rw[wn] at hc
 simp[hc]
 refine zC (fun k σ hp nx=>σ 0=.ref id 0 0∧σ 16=.sl 4 (b.holds.map Hld.enc)∧σ 17=int b.holds.length∧σ 18=int k∧nx0≤nx∧(∀j,j<nx0→j≠m→hp j=hp0 j)∧∃(before:List UInt8) (l':List (List UInt8)),σ 3=str before∧hp m=some (blkM l')∧yH b.layers [] l b.holds=yH b.layers before l' (b.holds.drop k)) b.holds.length
  ⟨by simp,by simp,by simp,by simp,Nat.le_refl _,fun _ _ _=>rfl,[],l,by simp,hm0,by simp⟩ ?_
 rintro k σ hp nx hk ⟨h0,h16,h17,h18,hnx,hfr,before,l',h3,hm,he⟩
 by_cases hlt:k<b.holds.length
 ·obtain⟨x,hx⟩:∃x,b.holds[k]=x:=⟨_,rfl⟩
  have hmx:=qA (f:=Hld.cb) (List.getElem_mem hlt)
  rw[hx] at hmx
  have hxc:x.cb=1+x.name.length+x.salt.length+sumB (fun s=>1+s.length) x.layers:=rfl
  have hxl:=qg (f:=fun s:List UInt8=>1+s.length) (fun _=>by omega) x.layers
  rw[List.drop_eq_getElem_cons hlt,hx] at he
  simp only[yH] at he
  have hw:IntKind.i64.wrap ((k:Int)+1)=(k:Int)+1:=zd (by omega) (by omega)
  have hnf:=fun hp nx=>Zb (fun a b=>int (wF a b)) x.name before hp nx (by unfold lim;omega) (by simp)
  have nm:¬m=nx:=by omega
  have ni:¬id=nx:=by omega
  have hci:upd hp nx (some ⟨104,4,false,[x.enc]⟩) id=some (blkC b m g any):=by rw[ze _ _ _ _ ni,hfr id hid hne];exact hc0
  have hmi:upd hp nx (some ⟨104,4,false,[x.enc]⟩) m=some (blkM l'):=by rw[ze _ _ _ _ nm];exact hm
  have hsr:=salt_run b l' x.salt (by unfold lim;omega) any _ (nx+1) id m g hci hmi
  simp only[Hld.enc] at hsr
  have hnx':¬nx=m:=by omega
  by_cases c1:wF x.name before=0
  case neg =>
   rw[if_neg c1] at he
   have c1':(wF x.name before != 0)=true:=by simpa using c1
   simp[h0,h3,h16,h17,h18,hlt,hx,Hld.enc,hnf,c1',f49,wY,he]
   exact⟨by omega,by rw[ze _ _ _ _ nm];exact hm,fun j hj hjm=>by rw[ze _ _ _ _ (by omega)];exact hfr j hj hjm⟩
  rw[if_pos c1] at he
  by_cases c2:yG l' x.salt=0
  case neg =>
   rw[if_neg c2] at he
   have c2':(yG l' x.salt != 0)=true:=by simpa using c2
   simp[h0,h3,h16,h17,h18,hlt,hx,Hld.enc,hnf,c1,hsr,c2',f49,wY,he]
   exact⟨by omega,fun j hj hjm=>by rw[ze _ _ _ _ hjm,ze _ _ _ _ (by omega)];exact hfr j hj hjm⟩
  rw[if_pos c2] at he
  cases c3:inB x.buckets 1 100000
  ·have hf:holdF b.layers x=1:=by unfold holdF;rw[c3,if_neg (by simp)]
   rw[hf,if_neg (by decide)] at he
   simp[h0,h3,h16,h17,h18,hlt,hx,Hld.enc,hnf,c1,hsr,c2,c3,hnx',f49,wY,he]
   exact⟨by omega,fun j hj hjm=>by rw[ze _ _ _ _ hjm,ze _ _ _ _ (by omega)];exact hfr j hj hjm⟩
  by_cases c4:x.layers.length=0
  ·have hf:holdF b.layers x=9:=by unfold holdF;rw[c3,if_pos rfl,if_pos c4]
   rw[hf,if_neg (by decide)] at he
   have hel:(encT x.layers).length=0:=by simpa[encT] using c4
   simp[h0,h3,h16,h17,h18,hlt,hx,Hld.enc,hel,hnf,c1,hsr,c2,c3,hnx',f49,wY,he]
   exact⟨by omega,fun j hj hjm=>by rw[ze _ _ _ _ hjm,ze _ _ _ _ (by omega)];exact hfr j hj hjm⟩
  have hf:holdF b.layers x=holdLs b.layers none x.layers:=by unfold holdF;rw[c3,if_pos rfl,if_neg c4]
  rw[hf] at he
  have c4':((x.layers.length:Int)==0)=false:=by rw[beq_eq_false_iff_ne];omega
  have hel:(encT x.layers).length=x.layers.length:=by simp[encT]
  simp[h0,h3,h16,h17,h18,hlt,hx,Hld.enc,hel,hnf,c1,hsr,c2,c3,c4',hnx']
  obtain⟨P,hP⟩:∃P,nx=P:=⟨_,rfl⟩
  rw[hP]
  refine zC (fun i σ hp nx=>σ 0=.ref id 0 0∧σ 16=.sl 4 (b.holds.map Hld.enc)∧σ 17=int b.holds.length∧σ 18=int k∧σ 5=.ref P 0 0∧σ 47=.sl 1 (encT x.layers)∧σ 48=int x.layers.length∧σ 49=int i∧nx0≤P∧P<nx∧hp P=some ⟨104,4,false,[x.enc]⟩∧(∀j,j<nx0→j≠m→hp j=hp0 j)∧hp m=some (blkM (yk l' x.salt))∧holdLs b.layers none x.layers=holdLs b.layers (prevT x.layers i) (x.layers.drop i)) x.layers.length
   ⟨by simp[h0],by simp[h16],by simp[h17],by simp[h18],by simp,by simp,by simp,by simp,by omega,(by show P<P+1;omega),by simp[Hld.enc,show ¬P=m by omega],fun j hj hjm=>by simp only;rw[ze _ _ _ _ hjm,ze _ _ _ _ (by omega)];exact hfr j hj hjm,by simp,by simp[prevT]⟩ ?_
  clear h0 h3 h16 h17 h18 hnx hfr hm hsr hci hmi hnf nm ni hnx' hP σ hp nx
  rintro i σ hp nx hi ⟨h0,h16,h17,h18,h5,h47,h48,h49,hP,hPn,hbP,hfr,hm,hh⟩
  have hci:hp id=some (blkC b m g any):=by rw[hfr id hid hne];exact hc0
  rw[wn] at hci
  by_cases hlti:i<x.layers.length
  ·obtain⟨s,hs⟩:∃s,x.layers[i]=s:=⟨_,rfl⟩
   have hms:=qA (f:=fun s:List UInt8=>1+s.length) (List.getElem_mem hlti)
   rw[hs] at hms
   have hpn:prevT x.layers (i+1)=some s:=by simp[prevT,hlti,hs]
   rw[List.drop_eq_getElem_cons hlti,hs] at hh
   simp only[holdLs] at hh
   have hke:∀h:i<(encT x.layers).length,(encT x.layers)[i]=[str s]:=fun h=>by simp[encT,hs]
   have hof:=fun hp nx=>vr b.layers s hp nx (by unfold lim;omega)
   have hwi:IntKind.i64.wrap ((i:Int)+1)=(i:Int)+1:=zd (by omega) (by omega)
   have hel:i<(encT x.layers).length:=by simp[encT,hlti]
   cases d1:(bsN (b.layers.map Lyr.name) s).2
   ·rw[d1,if_neg (by simp)] at hh
    rw[hh,if_neg (by decide)] at he
    simp[h0,h5,h16,h17,h18,h47,h48,h49,hlti,hel,hke,hci,hof,d1,he,f49,wY]
    exact⟨by omega,hm,hfr⟩
   rw[d1,if_pos rfl] at hh
   by_cases k0:i=0
   ·subst k0
    rw[show leP (prevT x.layers 0) s=false from rfl,if_neg (by simp)] at hh
    simp[h0,h5,h16,h17,h18,h47,h48,h49,hlti,hel,hke,hci,hof,d1,hwi]
    exact⟨by omega,hP,hPn,hbP,hfr,hm,by rw[hh,show prevT x.layers 1=some s from hpn];simp⟩
   ·obtain⟨j,rfl⟩:∃j,i=j+1:=⟨i - 1,by omega⟩
    have hj:j<x.layers.length:=by omega
    have hej:j<(encT x.layers).length:=by simp[encT,hj]
    have hkj:∀h:j<(encT x.layers).length,(encT x.layers)[j]=[str x.layers[j]]:=fun h=>by simp[encT]
    have wj:IntKind.i64.wrap ((j:Int)+1 - 1)=(j:Int):=by rw[zd (by omega) (by omega)];omega
    have wj':IntKind.i64.wrap (j:Int)=(j:Int):=zd (by omega) (by omega)
    have wk:IntKind.i64.wrap ((j:Int)+1+1)=(j:Int)+1+1:=zd (by omega) (by omega)
    have j1:((j:Int)+1).toNat=j+1:=by omega
    have j2:0<(j:Int)+1:=by omega
    have j3:0≤(j:Int)+1:=by omega
    have j4:(j:Int)+1<x.layers.length:=by omega
    have hlp:leP (prevT x.layers (j+1)) s=leB s x.layers[j]:=by simp[prevT,hj,leP]
    rw[hlp] at hh
    have hle:(Op.bytesLess s x.layers[j]||s==x.layers[j])=leB s x.layers[j]:=rfl
    rw[Hld.enc] at hbP
    cases d2:leB s x.layers[j]
    ·rw[d2,if_neg (by simp)] at hh
     simp[h0,h5,h16,h17,h18,h47,h48,h49,hlti,hel,hke,hci,hof,d1,wj,wj',wk,j1,j2,j3,j4,hbP,hej,hkj,hle,d2,hj]
     exact⟨by omega,hP,hPn,rfl,hfr,hm,by rw[hh,hpn]⟩
    ·rw[d2,if_pos rfl] at hh
     rw[hh,if_neg (by decide)] at he
     simp[h0,h5,h16,h17,h18,h47,h48,h49,hlti,hel,hke,hci,hof,d1,wj,wj',wk,j1,j2,j3,j4,hbP,hej,hkj,hle,d2,hj,he,f49,wY]
     exact⟨by omega,hm,hfr⟩
  ·obtain rfl:i=x.layers.length:=by omega
   rw[List.drop_length] at hh
   simp only[holdLs] at hh
   rw[hh,if_pos rfl] at he
   have hnP:¬P=m:=by omega
   rw[Hld.enc] at hbP
   simp[h0,h5,h16,h17,h18,h47,h48,h49,hbP,hw]
   exact⟨by omega,by omega,hfr,_,hm,he⟩
 ·obtain rfl:k=b.holds.length:=by omega
  rw[List.drop_length] at he
  simp only[yH] at he
  simp[h0,h16,h17,h18,f49,wY,he]
  exact⟨hnx,hm,hfr⟩
noncomputable abbrev Cnam:Ctx:=zA prog []
theorem goodnam:AM.Good Cnam (fun g=>[57].contains g):=zk mixed trivial
set_option maxRecDepth 100000 in
theorem names_sound:za prog 81 (hRun Cnam f81):=zs (code:=_) goodnam ⟨func81,by kernel_rfl,rfl,by kernel_rfl⟩
theorem names_run (b:Bk) (c:Cnd) (hp:Hp) (nx id m g:Nat) (hid:id<nx) (hc:hp id=some (blkC b m g true)) :
  ∃hp',hRun Cnam f81 [.ref id 0 0,.agg c.enc] hp nx=some (boo true,hp',nx+2)∧∀j,j<nx→hp' j=hp j:=by
 unfold hRun
 rw[if_pos (by simp[f81])]
 refine⟨upd (upd hp nx (some ⟨81,1,false,[[.ref id 0 0]]⟩)) (nx+1) (some ⟨68,7,false,[c.enc]⟩),?_,fun j hj=>by rw[ze _ _ _ _ (by omega),ze _ _ _ _ (by omega)]⟩
 refine zZ rfl ?_
 rw[wn] at hc
 have n1:¬id=nx:=by omega
 have n2:¬id=nx+1:=by omega
 simp[ql,hc,n1,n2,f81]
noncomputable def expF (L:List Lyr) (before:List UInt8) (l:List (List UInt8)) (x:Xp):Int×List (List UInt8) :=
 if wF x.name before=0 then (if (bsN (L.map Lyr.name) x.layer).2=true then (if qh x.flag=true then (if x.cond.check=0 then (if yG l x.salt=0 then (if qy x.arms 20=0 then (qJ x.phases,yk l x.salt) else (qy x.arms 20,yk l x.salt)) else (yG l x.salt,yk l x.salt)) else (x.cond.check,l)) else (5,l)) else (9,l)) else (wF x.name before,l)
noncomputable abbrev Cexp:Ctx:=zA prog [(79,zc false [] (FSS2 fun a b=>int (wF a b))),(41,zc false [] FOfL),(33,zc false [] (FS qh)),(75,GC fun c=>int c.check),(81,hRun Cnam f81),(80,hRun Csal f80),(82,zc false [] (FRN (fun l n=>int (qy l n)) fun _ n=>1≤n∧n≤20)),(83,zc false [] (FPh fun l=>int (qJ l)))]
theorem goodexp:AM.Good Cexp (fun g=>[41].contains g):=zk mixed ⟨yh,by simp,vt,fun _=>zg _ _,wV,by simp,vn,by simp,names_sound,by simp,vN,by simp,j5,by simp,phases_sound,by simp,trivial⟩
set_option maxRecDepth 100000 in
theorem experiment_sound:za prog 50 (hRun Cexp f50):=zs (code:=_) goodexp ⟨func50,by kernel_rfl,rfl,by kernel_rfl⟩
set_option maxHeartbeats 2000000 in
theorem experiment_run (b:Bk) (l:List (List UInt8)) (before:List UInt8) (x:Xp) (hb:b.cb≤lim) (hxb:x.cb≤lim) (hp0:Hp) (nx0 id m g:Nat) (hid:id<nx0) (hmd:m<nx0) (hne:id≠m) (hc0:hp0 id=some (blkC b m g true)) (hm0:hp0 m=some (blkM l)) :
  ∃x1 hp' nx',hRun Cexp f50 [.ref id 0 0,.agg x.enc,str before] hp0 nx0=some (x1,hp',nx')∧wY (int (expF b.layers before l x).1) (expF b.layers before l x).2 m hp0 nx0 x1 hp' nx':=by
 unfold hRun
 rw[if_pos (by simp[f50])]
 refine zu rfl ?_
 have hleL:=qg vq b.layers
 have hbc:b.cb=sumB Lyr.cb b.layers+sumB Hld.cb b.holds+sumB Xp.cb b.exps:=rfl
 have hxc:x.cb=x.name.length+x.layer.length+x.flag.length+x.cond.cb+x.salt.length+x.arms.length+sumB Phs.cb x.phases:=rfl
 unfold lim at hb hxb
 have nm:¬m=nx0:=by omega
 have ni:¬id=nx0:=by omega
 have hnf:=fun hp nx=>Zb (fun a b=>int (wF a b)) x.name before hp nx (by unfold lim;omega) (by simp)
 have hof:=fun hp nx=>vr b.layers x.layer hp nx (by unfold lim;omega)
 have hfl:x.flag.length≤lim:=by unfold lim;omega
 have hcc:=fun hp nx=>GC_call (fun c=>int c.check) x.cond hp nx (by unfold lim;omega)
 have hrg:=fun hp nx=>FRN_call (fun l n=>int (qy l n)) (fun _ n=>1≤n∧n≤20) x.arms 20 hp nx ⟨by omega,by omega⟩
 have hph:=fun hp nx=>FPh_call (fun l=>int (qJ l)) x.phases hp nx (by unfold lim;omega)
 obtain⟨hp1,hnr,hk1⟩:=names_run b x.cond (upd hp0 nx0 (some ⟨72,13,false,[x.enc]⟩)) (nx0+1) id m g (by omega) (by rw[ze _ _ _ _ ni];exact hc0)
 have hci:hp1 id=some (blkC b m g true):=by rw[hk1 id (by omega),ze _ _ _ _ ni];exact hc0
 have hmi:hp1 m=some (blkM l):=by rw[hk1 m (by omega),ze _ _ _ _ nm];exact hm0
 have hxi:hp1 nx0=some ⟨72,13,false,[x.enc]⟩:=by rw[hk1 nx0 (by omega)];simp
 have hfr:∀j,j<nx0→hp1 j=hp0 j:=fun j hj=>by rw[hk1 j (by omega),ze _ _ _ _ (by omega)]
 have hsr:=salt_run b l x.salt (by unfold lim;omega) true hp1 (nx0+1+2) id m g hci hmi
 have hnx':¬nx0=m:=by omega
 have hc:=hc0
 rw[wn] at hc
 rw[zS] at hnr hxi
 rw[ql] at hnr
 simp only[ql] at hcc
 rw[zS]
 by_cases c1:wF x.name before=0
 case neg =>
  have hv:expF b.layers before l x=(wF x.name before,l):=by unfold expF;rw[if_neg c1]
  have c1':(wF x.name before != 0)=true:=by simpa using c1
  simp[hnf,c1',hv,f50,wY]
  exact⟨by rw[ze _ _ _ _ nm];exact hm0,fun j hj hjm=>by rw[ze _ _ _ _ (by omega)]⟩
 cases c2:(bsN (b.layers.map Lyr.name) x.layer).2
 ·have hv:expF b.layers before l x=(9,l):=by unfold expF;rw[if_pos c1,c2,if_neg (by simp)]
  simp[hnf,c1,ni,hc,hof,c2,hv,f50,wY]
  exact⟨by rw[ze _ _ _ _ nm];exact hm0,fun j hj hjm=>by rw[ze _ _ _ _ (by omega)]⟩
 cases c3:qh x.flag
 ·have hv:expF b.layers before l x=(5,l):=by unfold expF;rw[if_pos c1,c2,if_pos rfl,c3,if_neg (by simp)]
  simp[hnf,c1,ni,hc,hof,c2,hfl,c3,hv,f50,wY]
  exact⟨by rw[ze _ _ _ _ nm];exact hm0,fun j hj hjm=>by rw[ze _ _ _ _ (by omega)]⟩
 by_cases c4:x.cond.check=0
 case neg =>
  have hv:expF b.layers before l x=(x.cond.check,l):=by unfold expF;rw[if_pos c1,c2,if_pos rfl,c3,if_pos rfl,if_neg c4]
  have c4':(x.cond.check != 0)=true:=by simpa using c4
  simp[hnf,c1,ni,hc,hof,c2,hfl,c3,hcc,c4',hv,f50,wY]
  exact⟨by rw[ze _ _ _ _ nm];exact hm0,fun j hj hjm=>by rw[ze _ _ _ _ (by omega)]⟩
 by_cases c5:yG l x.salt=0
 case neg =>
  have hv:expF b.layers before l x=(yG l x.salt,yk l x.salt):=by unfold expF;rw[if_pos c1,c2,if_pos rfl,c3,if_pos rfl,if_pos c4,if_neg c5]
  have c5':(yG l x.salt != 0)=true:=by simpa using c5
  simp[hnf,c1,ni,hc,hof,c2,hfl,c3,hcc,c4,hnr,hxi,hsr,c5',hv,f50,wY]
  exact⟨by omega,fun j hj hjm=>by rw[ze _ _ _ _ hjm];exact hfr j hj⟩
 by_cases c6:qy x.arms 20=0
 case neg =>
  have hv:expF b.layers before l x=(qy x.arms 20,yk l x.salt):=by unfold expF;rw[if_pos c1,c2,if_pos rfl,c3,if_pos rfl,if_pos c4,if_pos c5,if_neg c6]
  have c6':(qy x.arms 20 != 0)=true:=by simpa using c6
  simp[hnf,c1,ni,hc,hof,c2,hfl,c3,hcc,c4,hnr,hxi,hnx',hsr,c5,hrg,c6',hv,f50,wY]
  exact⟨by omega,fun j hj hjm=>by rw[ze _ _ _ _ hjm];exact hfr j hj⟩
 ·have hv:expF b.layers before l x=(qJ x.phases,yk l x.salt):=by unfold expF;rw[if_pos c1,c2,if_pos rfl,c3,if_pos rfl,if_pos c4,if_pos c5,if_pos c6]
  simp[hnf,c1,ni,hc,hof,c2,hfl,c3,hcc,c4,hnr,hxi,hnx',hsr,c5,hrg,c6,hph,hv,f50,wY]
  exact⟨by omega,fun j hj hjm=>by rw[ze _ _ _ _ hjm];exact hfr j hj⟩
def boxX (x:Xp):Blk:=⟨72,13,false,[x.enc]⟩
def boxI (n:Int):Blk:=⟨3,1,false,[[int n]]⟩
def cls1 (x:Xp) (rest:Int) (y:Xp):Bool:=decide (y.layer=x.layer)&&xg x y rest
noncomputable abbrev Ccl1:Ctx:=zA prog [(86,zc false [] FClash)]
theorem goodcl1:AM.Good Ccl1 (fun g=>[86].contains g):=zk mixed ⟨clash_sound,fun _=>zg _ _,trivial⟩
set_option maxRecDepth 100000 in
theorem cls1_sound:za prog 85 (hRun Ccl1 f85):=zs (code:=_) goodcl1 ⟨func85,by kernel_rfl,rfl,by kernel_rfl⟩
theorem cls1_run (x y:Xp) (rest:Int) (hx:x.okC) (hy:y.okC) (hr:0≤rest∧rest≤100000000) (hp:Hp) (nx xb rb:Nat) (hxb:xb<nx) (hrb:rb<nx) (bx:hp xb=some (boxX x)) (br:hp rb=some (boxI rest)) :
  hRun Ccl1 f85 [.agg y.enc,.ref xb 0 0,.ref rb 0 0] hp nx=some (boo (cls1 x rest y),upd hp nx (some (boxX y)),nx+1):=by
 unfold hRun
 rw[if_pos (by simp[f85])]
 refine zZ rfl ?_
 have n1:¬xb=nx:=by omega
 have n2:¬rb=nx:=by omega
 have hcl:=fun hp nx=>FClash_call x y rest hp nx ⟨hx,hy,hr.1,hr.2⟩
 rw[boxX,zS] at bx
 rw[boxI] at br
 simp only[zS] at hcl
 by_cases he:y.layer=x.layer
 ·have hd:(y.layer==x.layer)=true:=by simpa using he
  have hv:cls1 x rest y=xg x y rest:=by simp[cls1,he]
  simp[zS,boxX,n1,n2,bx,br,hd,hcl,hv,f85]
 ·have hd:(y.layer==x.layer)=false:=by simpa using he
  have hv:cls1 x rest y=false:=by simp[cls1,he]
  simp[zS,boxX,n1,n2,bx,br,hd,hv,f85]
def clsI (x:Xp) (rest:Int):Nat→List Xp→Int
 | _,[]=>-1
 | k,y::l=>if cls1 x rest y=true then k else clsI x rest (k+1) l
theorem clsI_any (x:Xp) (rest:Int):∀(l:List Xp) (k:Nat),decide (0≤clsI x rest k l)=l.any (cls1 x rest)
 | [],k=>by simp[clsI]
 | s::l,k=>by
   by_cases h:cls1 x rest s=true
   ·have e:clsI x rest k (s::l)=k:=by simp only[clsI,if_pos h]
    rw[e,List.any_cons,h];simp
   ·have e:clsI x rest k (s::l)=clsI x rest (k+1) l:=by simp only[clsI,if_neg h]
    rw[e,clsI_any x rest l (k+1),List.any_cons,Bool.eq_false_iff.2 h];rfl
noncomputable abbrev Cxix:Ctx:=zA prog [(85,hRun Ccl1 f85)]
theorem goodxix:AM.Good Cxix (fun g=>([]:List Nat).contains g):=zk mixed ⟨cls1_sound,by simp,trivial⟩
set_option maxRecDepth 100000 in
theorem xix_sound:za prog 111 (hRun Cxix f111):=zs (code:=_) goodxix ⟨func111,by kernel_rfl,rfl,by kernel_rfl⟩
def fnX (xb rb:Nat):PV:=.fn (.func 85) [] [.ref xb 0 0,.ref rb 0 0]
def KeepX (r:PV) (hp:Hp) (nx:Nat) (x:PV) (hp':Hp) (nx':Nat):Prop:=x=r∧nx≤nx'∧∀j,j<nx→hp' j=hp j
theorem xix_run (l:List Xp) (x:Xp) (rest:Int) (hl:l.length≤lim) (hs:∀s∈l,s.okC) (hx:x.okC) (hr:0≤rest∧rest≤100000000) (hp0:Hp) (nx0 xb rb:Nat) (hxb:xb<nx0) (hrb:rb<nx0) (bx:hp0 xb=some (boxX x)) (br:hp0 rb=some (boxI rest)) :
  ∃x1 hp' nx',hRun Cxix f111 [.sl 13 (l.map Xp.enc),fnX xb rb] hp0 nx0=some (x1,hp',nx')∧KeepX (int (clsI x rest 0 l)) hp0 nx0 x1 hp' nx':=by
 unfold hRun
 rw[if_pos (by simp[f111])]
 refine zu rfl ?_
 unfold lim at hl
 simp[fnX]
 refine zC (fun k σ hp nx=>σ 0=.sl 13 (l.map Xp.enc)∧σ 1=fnX xb rb∧σ 7=int l.length∧σ 8=int k∧nx0≤nx∧(∀j,j<nx0→hp j=hp0 j)∧clsI x rest 0 l=clsI x rest k (l.drop k)) l.length ⟨by simp,by simp[fnX],by simp,by simp,Nat.le_refl _,fun _ _=>rfl,by simp⟩ ?_
 rintro k σ hp nx hk ⟨h0,h1,h7,h8,hnx,hfr,he⟩
 by_cases hlt:k<l.length
 ·have hw:IntKind.i64.wrap ((k:Int)+1)=(k:Int)+1:=zd (by omega) (by omega)
  have hrun:=cls1_run x l[k] rest hx (hs _ (List.getElem_mem hlt)) hr hp nx xb rb (by omega) (by omega) (by rw[hfr xb hxb];exact bx) (by rw[hfr rb hrb];exact br)
  simp only[zS] at hrun
  rw[List.drop_eq_getElem_cons hlt] at he
  simp only[clsI] at he
  cases hz:cls1 x rest l[k]
  ·rw[hz,if_neg (by simp)] at he
   rw[hz] at hrun
   simp[h0,h1,h7,h8,fnX,hlt,zS,hrun,hw]
   exact⟨hlt,by omega,fun j hj=>by rw[ze _ _ _ _ (by omega)];exact hfr j hj,he⟩
  ·rw[hz,if_pos rfl] at he
   rw[hz] at hrun
   simp[h0,h1,h7,h8,fnX,hlt,zS,hrun,hw,f111]
   exact⟨by rw[he],by omega,fun j hj=>by rw[ze _ _ _ _ (by omega)];exact hfr j hj⟩
 ·obtain rfl:k=l.length:=by omega
  rw[List.drop_length] at he
  simp only[clsI] at he
  simp[h0,h1,h7,h8,f111]
  exact⟨by rw[he],hnx,hfr⟩
noncomputable abbrev Cxtn:Ctx:=zA prog [(111,hRun Cxix f111)]
theorem goodxtn:AM.Good Cxtn (fun g=>([]:List Nat).contains g):=zk mixed ⟨xix_sound,by simp,trivial⟩
set_option maxRecDepth 100000 in
theorem xtn_sound:za prog 84 (hRun Cxtn f84):=zs (code:=_) goodxtn ⟨func84,by kernel_rfl,rfl,by kernel_rfl⟩
theorem xtn_run (l:List Xp) (x:Xp) (rest:Int) (hl:l.length≤lim) (hs:∀s∈l,s.okC) (hx:x.okC) (hr:0≤rest∧rest≤100000000) (hp0:Hp) (nx0 xb rb:Nat) (hxb:xb<nx0) (hrb:rb<nx0) (bx:hp0 xb=some (boxX x)) (br:hp0 rb=some (boxI rest)) :
  ∃x1 hp' nx',hRun Cxtn f84 [.sl 13 (l.map Xp.enc),fnX xb rb] hp0 nx0=some (x1,hp',nx')∧KeepX (boo (l.any (cls1 x rest))) hp0 nx0 x1 hp' nx':=by
 unfold hRun
 rw[if_pos (by simp[f84])]
 refine zu rfl ?_
 obtain⟨x1,hp',nx',h1,h2,h3,h4⟩:=xix_run l x rest hl hs hx hr hp0 nx0 xb rb hxb hrb bx br
 subst h2
 have ha:=clsI_any x rest l 0
 simp only[fnX] at h1
 simp[fnX,h1,ha,KeepX,h3,f84]
 exact h4
theorem slX (hp:Hp) (l:List Xp) (k:Nat) (h:k≤l.length):wo prog hp 25 (.sl 13 (l.map Xp.enc)) none (some (some (int k)))=some (.sl 13 ((l.take k).map Xp.enc)):=by
 simp[wo,h]
noncomputable def restOf (L:List Lyr) (s:List UInt8):Int:=match L[(bsN (L.map Lyr.name) s).1]? with
 | some y=>y.rest
 | none=>0
noncomputable def clsF (L:List Lyr) (all:List Xp):Nat→List Xp→Bool
 | _,[]=>false
 | i,x::l=>(all.take i).any (cls1 x (restOf L x.layer))||clsF L all (i+1) l
noncomputable abbrev Ccls:Ctx:=zA prog [(41,zc false [] FOfL),(84,hRun Cxtn f84)]
theorem goodcls:AM.Good Ccls (fun g=>[41].contains g):=zk mixed ⟨vt,fun _=>zg _ _,xtn_sound,by simp,trivial⟩
set_option maxRecDepth 100000 in
theorem clashes_sound:za prog 51 (hRun Ccls f51):=zs (code:=_) goodcls ⟨func51,by kernel_rfl,rfl,by kernel_rfl⟩
set_option maxHeartbeats 2000000 in
theorem clashes_run (b:Bk) (hb:b.cb≤lim) (hs:∀x∈b.exps,x.okC∧(bsN (b.layers.map Lyr.name) x.layer).2=true) (hr:∀y∈b.layers,0≤y.rest∧y.rest≤100000000) (any:Bool) (hp0:Hp) (nx0 id m g:Nat) (hid:id<nx0) (hc0:hp0 id=some (blkC b m g any)) :
  ∃x1 hp' nx',hRun Ccls f51 [.ref id 0 0] hp0 nx0=some (x1,hp',nx')∧KeepX (boo (clsF b.layers b.exps 0 b.exps)) hp0 nx0 x1 hp' nx':=by
 unfold hRun
 rw[if_pos (by simp[f51])]
 refine zu rfl ?_
 have hlen:=qg xp_pos b.exps
 have hleL:=qg vq b.layers
 have hbc:b.cb=sumB Lyr.cb b.layers+sumB Hld.cb b.holds+sumB Xp.cb b.exps:=rfl
 unfold lim at hb
 have hc:=hc0
 rw[wn] at hc
 simp[hc]
 refine zC (fun k σ hp nx=>σ 0=.ref id 0 0∧σ 12=.sl 13 (b.exps.map Xp.enc)∧σ 13=int b.exps.length∧σ 14=int k∧nx0≤nx∧(∀j,j<nx0→hp j=hp0 j)∧clsF b.layers b.exps 0 b.exps=clsF b.layers b.exps k (b.exps.drop k)) b.exps.length
  ⟨by simp,by simp,by simp,by simp,Nat.le_refl _,fun _ _=>rfl,by simp⟩ ?_
 rintro k σ hp nx hk ⟨h0,h12,h13,h14,hnx,hfr,he⟩
 by_cases hlt:k<b.exps.length
 ·obtain⟨x,hx⟩:∃x,b.exps[k]=x:=⟨_,rfl⟩
  have hxm:x∈b.exps:=by rw[←hx];exact List.getElem_mem hlt
  obtain⟨hxo,hxl⟩:=hs x hxm
  have hmx:=qA (f:=Xp.cb) hxm
  have hxc:x.cb=x.name.length+x.layer.length+x.flag.length+x.cond.cb+x.salt.length+x.arms.length+sumB Phs.cb x.phases:=rfl
  rw[List.drop_eq_getElem_cons hlt,hx] at he
  simp only[clsF] at he
  have hw:IntKind.i64.wrap ((k:Int)+1)=(k:Int)+1:=zd (by omega) (by omega)
  have hof:=fun hp nx=>vr b.layers x.layer hp nx (by unfold lim;omega)
  obtain⟨q,hq⟩:∃q,(bsN (b.layers.map Lyr.name) x.layer).1=q:=⟨_,rfl⟩
  have hql:q<b.layers.length:=by have:=bsN_lt hxl;rw[hq] at this;simpa using this
  obtain⟨y,hy⟩:∃y,b.layers[q]=y:=⟨_,rfl⟩
  have hyr:=hr y (by rw[←hy];exact List.getElem_mem hql)
  have hrest:restOf b.layers x.layer=y.rest:=by unfold restOf;rw[hq,List.getElem?_eq_getElem hql,hy]
  rw[hrest] at he
  have ni:¬id=nx:=by omega
  have ni2:¬id=nx+1:=by omega
  have hci:hp id=some (blkC b m g any):=by rw[hfr id hid];exact hc0
  rw[wn] at hci
  obtain⟨x1,hp',nx',h1,h2,h3,h4⟩:=xtn_run (b.exps.take k) x y.rest (by unfold lim;simp;omega) (fun s hsm=>(hs s (List.mem_of_mem_take hsm)).1) hxo hyr (upd (upd hp nx (some (boxX x))) (nx+1) (some (boxI y.rest))) (nx+1+1) nx (nx+1) (by omega) (by omega) (by rw[ze _ _ _ _ (by omega)];simp) (by simp)
  subst h2
  simp only[fnX,boxX,boxI,zS,List.map_take] at h1
  have hfr':∀j,j<nx0→hp' j=hp0 j:=fun j hj=>by rw[h4 j (by omega),ze _ _ _ _ (by omega),ze _ _ _ _ (by omega)];exact hfr j hj
  have hsl:=fun hp=>slX hp b.exps k (by omega)
  cases hz:(b.exps.take k).any (cls1 x y.rest)
  ·rw[hz,Bool.false_or] at he
   rw[hz] at h1
   simp[h0,h12,h13,h14,hlt,hx,zS,ni,ni2,hci,hof,hq,hql,hy,Lyr.enc,hsl,h1,hw]
   exact⟨by omega,by omega,hfr',he⟩
  ·rw[hz,Bool.true_or] at he
   rw[hz] at h1
   simp[h0,h12,h13,h14,hlt,hx,zS,ni,ni2,hci,hof,hq,hql,hy,Lyr.enc,hsl,h1,hw,f51,KeepX,he]
   exact⟨by omega,hfr'⟩
 ·obtain rfl:k=b.exps.length:=by omega
  rw[List.drop_length] at he
  simp only[clsF] at he
  simp[h0,h12,h13,h14,f51,KeepX,he]
  exact⟨hnx,hfr⟩
noncomputable def vU (L:List Lyr):List UInt8→List (List UInt8)→List Xp→Int×List (List UInt8)
 | _,l,[]=>(0,l)
 | before,l,x::xs=>if (expF L before l x).1=0 then vU L x.name (expF L before l x).2 xs else expF L before l x
noncomputable def qb (b:Bk):Int :=
 if (20:Int)<b.layers.length∨(10:Int)<b.holds.length∨(100:Int)<b.exps.length then 2
 else if (qt [] [] b.layers).1=0 then
  (if (yH b.layers [] (qt [] [] b.layers).2 b.holds).1=0 then
   (if (vU b.layers [] (yH b.layers [] (qt [] [] b.layers).2 b.holds).2 b.exps).1=0 then (if clsF b.layers b.exps 0 b.exps=true then 13 else 0)
    else (vU b.layers [] (yH b.layers [] (qt [] [] b.layers).2 b.holds).2 b.exps).1)
   else (yH b.layers [] (qt [] [] b.layers).2 b.holds).1)
 else (qt [] [] b.layers).1
theorem inB_iff (n lo hi:Int):inB n lo hi=true↔lo≤n∧n≤hi:=by simp[inB]
theorem layers_ok:∀{xs:List Lyr} {before:List UInt8} {l:List (List UInt8)},(qt before l xs).1=0→∀y∈xs,0≤y.rest∧y.rest≤100000000
 | [],_,_,_,y,hy=>by simp at hy
 | x::xs,before,l,h,y,hy=>by
   simp only[qt] at h
   split at h
   ·split at h
    ·split at h
     ·rename_i c3
      rcases List.mem_cons.1 hy with rfl | hy
      ·exact (inB_iff _ _ _).1 c3
      ·exact layers_ok h y hy
     ·exact absurd h (by simp)
    ·rename_i c;exact absurd h c
   ·rename_i c;exact absurd h c
theorem phF_ok:∀{xs:List Phs} {p:Option Int} {b:List Sp},phF p b xs=0→timesOk xs
 | [],_,_,_,y,hy=>by simp at hy
 | x::xs,p,b,h,y,hy=>by
   simp only[phF] at h
   split at h
   ·rename_i c1
    split at h
    ·exact absurd h (by simp)
    ·split at h
     ·split at h
      ·exact absurd h (by simp)
      ·rcases List.mem_cons.1 hy with rfl | hy
       ·exact (inB_iff _ _ _).1 c1
       ·exact phF_ok h y hy
     ·rename_i c;exact absurd h c
   ·exact absurd h (by simp)
theorem phasesF_ok {l:List Phs} (h:qJ l=0):timesOk l:=by
 unfold qJ at h
 split at h
 ·exact absurd h (by simp)
 ·exact phF_ok h
theorem expF_ok {L:List Lyr} {before:List UInt8} {l:List (List UInt8)} {x:Xp} (h:(expF L before l x).1=0):qJ x.phases=0∧(bsN (L.map Lyr.name) x.layer).2=true∧qy x.arms 20=0∧x.cond.check=0∧wF x.name before=0:=by
 unfold expF at h
 split at h
 ·rename_i c1
  split at h
  ·rename_i c2
   split at h
   ·split at h
    ·rename_i c4
     split at h
     ·split at h
      ·rename_i c6;exact⟨h,c2,c6,c4,c1⟩
      ·rename_i c;exact absurd h c
     ·rename_i c;exact absurd h c
    ·rename_i c;exact absurd h c
   ·exact absurd h (by simp)
  ·exact absurd h (by simp)
 ·rename_i c;exact absurd h c
theorem exps_ok {L:List Lyr}:∀{xs:List Xp} {before:List UInt8} {l:List (List UInt8)},(vU L before l xs).1=0→∀y∈xs,qJ y.phases=0∧(bsN (L.map Lyr.name) y.layer).2=true
 | [],_,_,_,y,hy=>by simp at hy
 | x::xs,before,l,h,y,hy=>by
   simp only[vU] at h
   split at h
   ·rename_i c
    rcases List.mem_cons.1 hy with rfl | hy
    ·exact⟨(expF_ok c).1,(expF_ok c).2.1⟩
    ·exact exps_ok h y hy
   ·rename_i c;exact absurd h c
noncomputable abbrev Cchk:Ctx:=zA prog [(48,hRun Clay f48),(49,hRun Chol f49),(50,hRun Cexp f50),(51,hRun Ccls f51)]
theorem goodchk:AM.Good Cchk (fun g=>([]:List Nat).contains g):=zk mixed ⟨layers_sound,by simp,holds_sound,by simp,experiment_sound,by simp,clashes_sound,by simp,trivial⟩
set_option maxRecDepth 100000 in
theorem bkCheck_sound:za prog 31 (hRun Cchk f31):=zs (code:=_) goodchk ⟨func31,by kernel_rfl,rfl,by kernel_rfl⟩
set_option maxHeartbeats 2000000 in
theorem check_run (b:Bk) (hb:b.cb≤lim) (hp0:Hp) (nx0 id m g:Nat) (hid:id<nx0) (hmd:m<nx0) (hne:id≠m) (hc0:hp0 id=some (blkC b m g true)) (hm0:hp0 m=some (blkM [])) :
  ∃x1 hp' nx',hRun Cchk f31 [.ref id 0 0] hp0 nx0=some (x1,hp',nx')∧x1=int (qb b):=by
 unfold hRun
 rw[if_pos (by simp[f31])]
 refine zu rfl ?_
 have hlen:=qg xp_pos b.exps
 have hleL:=qg vq b.layers
 have hleH:=qg hld_pos b.holds
 have hbc:b.cb=sumB Lyr.cb b.layers+sumB Hld.cb b.holds+sumB Xp.cb b.exps:=rfl
 have hb':=hb
 unfold lim at hb
 obtain⟨x1,hp1,nx1,l1,rfl,l3,l4,l5⟩:=layers_run b [] hb' true hp0 nx0 id m g hid hmd hne hc0 hm0
 have hc1:hp1 id=some (blkC b m g true):=by rw[l5 id hid hne];exact hc0
 obtain⟨e1,he1⟩:∃e,qt [] [] b.layers=e:=⟨_,rfl⟩
 rw[he1] at l1 l4
 obtain⟨x2,hp2,nx2,g1,rfl,g3,g4,g5⟩:=holds_run b e1.2 hb' true hp1 nx1 id m g (by omega) (by omega) hne hc1 l4
 have hc2:hp2 id=some (blkC b m g true):=by rw[g5 id (by omega) hne];exact hc1
 obtain⟨e2,he2⟩:∃e,yH b.layers [] e1.2 b.holds=e:=⟨_,rfl⟩
 rw[he2] at g1 g4
 obtain⟨e3,he3⟩:∃e,vU b.layers [] e2.2 b.exps=e:=⟨_,rfl⟩
 have hc:=hc0
 rw[wn] at hc
 have hcc2:=hc2
 rw[wn] at hcc2
 by_cases a1:(20:Int)<b.layers.length
 ·have hv:qb b=2:=by unfold qb;rw[if_pos (.inl a1)]
  simp[hc,a1,hv,f31]
 by_cases a2:(10:Int)<b.holds.length
 ·have hv:qb b=2:=by unfold qb;rw[if_pos (.inr (.inl a2))]
  simp[hc,a1,a2,hv,f31]
 by_cases a3:(100:Int)<b.exps.length
 ·have hv:qb b=2:=by unfold qb;rw[if_pos (.inr (.inr a3))]
  simp[hc,a1,a2,a3,hv,f31]
 have hv0:qb b=if e1.1=0 then (if e2.1=0 then (if e3.1=0 then (if clsF b.layers b.exps 0 b.exps=true then 13 else 0) else e3.1) else e2.1) else e1.1:=by
  unfold qb;rw[if_neg (by omega),he1,he2,he3]
 by_cases c1:e1.1=0
 case neg =>
  rw[if_neg c1] at hv0
  have c1':(e1.1 != 0)=true:=by simpa using c1
  simp[hc,a1,a2,a3,l1,c1',hv0,f31]
 rw[if_pos c1] at hv0
 by_cases c2:e2.1=0
 case neg =>
  rw[if_neg c2] at hv0
  have c2':(e2.1 != 0)=true:=by simpa using c2
  simp[hc,a1,a2,a3,l1,c1,g1,c2',hv0,f31]
 rw[if_pos c2] at hv0
 simp[hc,a1,a2,a3,l1,c1,g1,c2,hcc2]
 refine zC (fun k σ hp nx=>σ 0=.ref id 0 0∧σ 48=.sl 13 (b.exps.map Xp.enc)∧σ 49=int b.exps.length∧σ 50=int k∧nx0≤nx∧hp id=some (blkC b m g true)∧∃(before:List UInt8) (l':List (List UInt8)),σ 5=str before∧hp m=some (blkM l')∧e3=vU b.layers before l' (b.exps.drop k)) b.exps.length
  ⟨by simp,by simp,by simp,by simp,by simp;omega,hc2,[],e2.2,by simp,g4,by simp[he3]⟩ ?_
 clear l1 l3 l4 l5 hc1 g1 g3 g4 g5 hc2 hcc2 hc
 rintro k σ hp nx hk ⟨h0,h48,h49,h50,hnx,hcn,before,l',h5,hm,he⟩
 by_cases hlt:k<b.exps.length
 ·obtain⟨x,hx⟩:∃x,b.exps[k]=x:=⟨_,rfl⟩
  have hmx:=qA (f:=Xp.cb) (List.getElem_mem hlt)
  rw[hx] at hmx
  have nm:¬m=nx:=by omega
  have ni:¬id=nx:=by omega
  have hw:IntKind.i64.wrap ((k:Int)+1)=(k:Int)+1:=zd (by omega) (by omega)
  rw[List.drop_eq_getElem_cons hlt,hx] at he
  simp only[vU] at he
  obtain⟨x3,hp3,nx3,q1,rfl,q3,q4,q5⟩:=experiment_run b l' before x hb' (by unfold lim;omega) (upd hp nx (some (boxX x))) (nx+1) id m g (by omega) (by omega) hne (by rw[ze _ _ _ _ ni];exact hcn) (by rw[ze _ _ _ _ nm];exact hm)
  have hc3:hp3 id=some (blkC b m g true):=by rw[q5 id (by omega) hne,ze _ _ _ _ ni];exact hcn
  have hx3:hp3 nx=some (boxX x):=by rw[q5 nx (by omega) (by omega)];simp
  simp only[boxX,zS] at q1 hx3
  by_cases d1:(expF b.layers before l' x).1=0
  case neg =>
   rw[if_neg d1] at he
   have hv:qb b=(expF b.layers before l' x).1:=by rw[hv0,he,if_neg d1]
   have d1':((expF b.layers before l' x).1 != 0)=true:=by simpa using d1
   simp[h0,h5,h48,h49,h50,hlt,hx,zS,q1,d1',hv,f31]
  ·rw[if_pos d1] at he
   simp[h0,h5,h48,h49,h50,hlt,hx,zS,q1,d1,hx3,hw]
   exact⟨by omega,by omega,hc3,_,q4,he⟩
 ·obtain rfl:k=b.exps.length:=by omega
  rw[List.drop_length] at he
  simp only[vU] at he
  have hz:(vU b.layers [] e2.2 b.exps).1=0:=by rw[he3,he]
  have hyr:=layers_ok (by rw[he1];exact c1)
  have hex:=exps_ok hz
  obtain⟨x3,hp3,nx3,q1,rfl,q3,q4⟩:=clashes_run b hb' (fun x hxm=>⟨⟨phasesF_ok (hex x hxm).1,by have:=qA (f:=Xp.cb) hxm;unfold lim;omega⟩,(hex x hxm).2⟩) hyr true hp nx id m g (by omega) hcn
  have hv:qb b=if clsF b.layers b.exps 0 b.exps=true then 13 else 0:=by rw[hv0,he,if_pos rfl]
  cases hcl:clsF b.layers b.exps 0 b.exps
  ·rw[hcl,if_neg (by simp)] at hv
   rw[hcl] at q1
   simp[h0,h48,h49,h50,q1,hv,f31]
  ·rw[hcl,if_pos rfl] at hv
   rw[hcl] at q1
   simp[h0,h48,h49,h50,q1,hv,f31]
set_option maxRecDepth 100000 in
theorem vw:za prog 30 (hRun C0 f30):=zs (code:=_) wA ⟨func30,by kernel_rfl,rfl,by kernel_rfl⟩
theorem checkerOf_run (b:Bk) (hp0:Hp) (nx0:Nat):∃x1 hp' nx',hRun C0 f30 [.nil,.agg b.enc] hp0 nx0=some (x1,hp',nx')∧x1=.ref (nx0+1+1+1) 0 0∧nx'=nx0+1+1+1+1∧hp' (nx0+1)=some (blkM [])∧hp' (nx0+1+1+1)=some (blkC b (nx0+1) (nx0+1+1) false):=by
 unfold hRun
 rw[if_pos (by simp[f30])]
 refine zu rfl ?_
 simp[Bk.enc,zK,z8]
 refine zC (fun k σ hp nx=>σ 14=int 0∧σ 15=int k∧σ 5=.ref (nx0+1+1+1) 0 0∧nx=nx0+1+1+1+1∧hp (nx0+1)=some (blkM [])∧hp (nx0+1+1+1)=some (blkC b (nx0+1) (nx0+1+1) false)) 0
  ⟨by simp,by simp,by simp,by simp,by simp[blkM,entM],by simp[wn]⟩ ?_
 rintro k σ hp nx hk ⟨h14,h15,h5,hnx,hm,hc⟩
 obtain rfl:k=0:=by omega
 simp[h14,h15,h5,hnx,f30]
 exact⟨hm,hc⟩
noncomputable def FBk (out:Bk→PV):List PV→Option PV:=zG (α:=Bk) (fun b=>[.agg b.enc]) (fun b=>b.cb≤lim) out
theorem FBk_call (out:Bk→PV) (b:Bk) (hp:Hp) (nx:Nat) (h:b.cb≤lim):zc false [] (FBk out) [.agg b.enc] hp nx=some (out b,hp,nx) :=
 zt (hp1:=hp) (show zh hp [.agg b.enc]=some ([.agg b.enc],hp) by simp[Bk.enc]) (zn (enc:=fun b:Bk=>[.agg b.enc]) (a:=b) (fun a b e=>by simp only[List.cons.injEq,and_true,PV.agg.injEq] at e;exact bk_inj e) h) (.inr (by simp[Bk.enc]))
noncomputable abbrev Cxcb:Ctx:=zA prog [(30,hRun C0 f30),(31,hRun Cchk f31)]
set_option maxRecDepth 100000 in
theorem goodxcb:AM.Good Cxcb (fun g=>([]:List Nat).contains g):=zk mixed ⟨vw,by simp,bkCheck_sound,by simp,trivial⟩
set_option maxRecDepth 20000 in
theorem xcb_eval (b:Bk) (h:b.cb≤lim):zi Cxcb f40 [.agg b.enc]=some (int (qb b)):=by
 refine zb rfl ?_
 obtain⟨x1,hp1,nx1,l1,rfl,rfl,l4,l5⟩:=checkerOf_run b (upd (fun _=>none) 0 (some ⟨27,3,false,[b.enc]⟩)) 1
 obtain⟨x2,hp2,nx2,g1,rfl⟩:=check_run b h (upd hp1 4 (some (blkC b 2 3 true))) 5 4 2 3 (by omega) (by omega) (by omega) (by simp) (by rw[ze _ _ _ _ (by omega)];exact l4)
 simp only[Bk.enc] at l1
 rw[wn] at l5 g1
 simp[Bk.enc,l1,l5,g1,zU,f40]
set_option maxRecDepth 100000 in
theorem xcb_sound:za prog 40 (zc false [] (FBk fun b=>int (qb b))) :=
 zJ (fn:=f40) goodxcb ⟨_,func40,by kernel_rfl,rfl,by kernel_rfl⟩ false [] _ fun args r h=>by
  obtain⟨b,rfl,hx,rfl⟩:=zf h
  exact⟨by simp[f40],_,xcb_eval b hx,zI _⟩
end Go.Proofs.YtanbabpnlgfcpaaGreatDoor
namespace Go.AM
open Go.RowKit
end Go.AM
namespace Go.Proofs.YtanbabpnlgfcpaaGreatDoor
open Go.Proofs.Tryz
open Go.RowKit Go.AM Go.SpanLaw
noncomputable def chkL (b:Bk) (s:List UInt8) (n:Int):Int:=if qb b=0 then (if (bsN (b.layers.map Lyr.name) s).2=true then (if j6 n=true then 0 else 1) else 5) else qb b
noncomputable def FBNI (out:Bk→List UInt8→Int→PV):List PV→Option PV:=zG (α:=Bk×List UInt8×Int) (fun a=>[.agg a.1.enc,str a.2.1,int a.2.2]) (fun a=>a.1.cb≤lim) (fun a=>out a.1 a.2.1 a.2.2)
theorem freeze_bk (hp:Hp) (b:Bk):zF hp (.agg b.enc)=some (.agg b.enc,hp):=by simp[Bk.enc]
theorem noOwn_bk (b:Bk):PV.noOwn (.agg b.enc)=true:=by simp[Bk.enc]
theorem FBNI_call (out:Bk→List UInt8→Int→PV) (b:Bk) (s:List UInt8) (n:Int) (hp:Hp) (nx:Nat) (h:b.cb≤lim):zc false [] (FBNI out) [.agg b.enc,str s,int n] hp nx=some (out b s n,hp,nx) :=
 zt (hp1:=hp) (show zh hp [.agg b.enc,str s,int n]=some ([.agg b.enc,str s,int n],hp) by simp only[zh,freeze_bk];rfl) (zn (enc:=fun a:Bk×List UInt8×Int=>[.agg a.1.enc,str a.2.1,int a.2.2]) (a:=(b,s,n)) (fun x y e=>by
  obtain⟨x1,x2,x3⟩:=x;obtain⟨y1,y2,y3⟩:=y
  simp only[List.cons.injEq,and_true,PV.agg.injEq] at e
  rw[bk_inj e.1,zM e.2.1,zD e.2.2]) h) (.inr (by simp only[List.all_cons,noOwn_bk];rfl))
noncomputable abbrev Ccly:Ctx:=zA prog [(40,zc false [] (FBk fun b=>int (qb b))),(41,zc false [] FOfL),(15,zc false [] (FIb j6))]
theorem goodcly:AM.Good Ccly (fun g=>([]:List Nat).contains g):=zk mixed ⟨xcb_sound,by simp,vt,by simp,yF,by simp,trivial⟩
theorem cly_eval (b:Bk) (s:List UInt8) (n:Int) (h:b.cb≤lim):zi Ccly f18 [.agg b.enc,str s,int n]=some (int (chkL b s n)):=by
 refine zb rfl ?_
 have hleL:=qg vq b.layers
 have hbc:b.cb=sumB Lyr.cb b.layers+sumB Hld.cb b.holds+sumB Xp.cb b.exps:=rfl
 have hk:=fun hp nx=>FBk_call (fun b=>int (qb b)) b hp nx h
 unfold lim at h
 have hof:=fun hp nx=>vr b.layers s hp nx (by unfold lim;omega)
 simp only[Bk.enc] at hk
 by_cases c1:qb b=0
 case neg =>
  have hv:chkL b s n=qb b:=by unfold chkL;rw[if_neg c1]
  have c1':(qb b != 0)=true:=by simpa using c1
  simp[Bk.enc,hk,c1',hv,f18]
 cases c2:(bsN (b.layers.map Lyr.name) s).2
 ·have hv:chkL b s n=5:=by unfold chkL;rw[if_pos c1,c2,if_neg (by simp)]
  simp[Bk.enc,hk,c1,hof,c2,hv,f18]
 cases c3:j6 n
 ·have hv:chkL b s n=1:=by unfold chkL;rw[if_pos c1,c2,if_pos rfl,c3,if_neg (by simp)]
  simp[Bk.enc,hk,c1,hof,c2,c3,hv,f18]
 ·have hv:chkL b s n=0:=by unfold chkL;rw[if_pos c1,c2,if_pos rfl,c3,if_pos rfl]
  simp[Bk.enc,hk,c1,hof,c2,c3,hv,f18]
set_option maxRecDepth 100000 in
theorem cly_sound:za prog 18 (zc false [] (FBNI fun b s n=>int (chkL b s n))) :=
 zJ (fn:=f18) goodcly ⟨_,func18,by kernel_rfl,rfl,by kernel_rfl⟩ false [] _ fun args r h=>by
  obtain⟨⟨b,s,n⟩,rfl,hx,rfl⟩:=zf h
  exact⟨by simp[f18],_,cly_eval b s n hx,zI _⟩
def hasG (acc:List Sp) (n:Int):List Phs→List Sp
 | []=>acc
 | p::l=>hasG (if p.at_≤n then p.spans else acc) n l
noncomputable def FXI (out:Xp→Int→PV) (pre:Xp→Int→Prop):List PV→Option PV:=zG (α:=Xp×Int) (fun a=>[.agg a.1.enc,int a.2]) (fun a=>pre a.1 a.2) (fun a=>out a.1 a.2)
theorem FXI_call (out:Xp→Int→PV) (pre:Xp→Int→Prop) (x:Xp) (n:Int) (hp:Hp) (nx:Nat) (h:pre x n):zc false [] (FXI out pre) [.agg x.enc,int n] hp nx=some (out x n,hp,nx) :=
 zt (hp1:=hp) (show zh hp [.agg x.enc,int n]=some ([.agg x.enc,int n],hp) by simp only[zh,freeze_xp];rfl) (zn (enc:=fun a:Xp×Int=>[.agg a.1.enc,int a.2]) (a:=(x,n)) (fun x y e=>by
  obtain⟨x1,x2⟩:=x;obtain⟨y1,y2⟩:=y
  simp only[List.cons.injEq,and_true,PV.agg.injEq] at e
  rw[xp_inj e.1,zD e.2]) h) (.inr (by simp only[List.all_cons,noOwn_xp];rfl))
theorem hasX_eval (x:Xp) (n:Int) (h:x.phases.length≤lim):∃r0,zi C0 f23 [.agg x.enc,int n]=some r0∧Stands r0 (.sl 2 ((hasG [] n x.phases).map encS)):=by
 refine wS rfl ?_
 unfold lim at h
 rw[zS]
 simp
 refine zC (fun k σ hp nx=>σ 1=int n∧σ 9=.sl 2 (x.phases.map Phs.enc)∧σ 10=int x.phases.length∧σ 11=int k∧∃d,(σ 5=.sl 2 (d.map encS)∨(σ 5=.nil∧d=[]))∧hasG [] n x.phases=hasG d n (x.phases.drop k)) x.phases.length
  ⟨by simp,by simp,by simp,by simp,[],.inr ⟨by simp,rfl⟩,by simp⟩ ?_
 rintro k σ hp nx hk ⟨h1,h9,h10,h11,d,hd,he⟩
 by_cases hlt:k<x.phases.length
 ·obtain⟨p,hp0⟩:∃p,x.phases[k]=p:=⟨_,rfl⟩
  rw[List.drop_eq_getElem_cons hlt,hp0] at he
  simp only[hasG] at he
  have hw:IntKind.i64.wrap ((k:Int)+1)=(k:Int)+1:=zd (by omega) (by omega)
  by_cases hc:p.at_≤n
  ·rw[if_pos hc] at he
   simp[h1,h9,h10,h11,hlt,hp0,Phs.enc,hc,hw]
   exact⟨by omega,p.spans,rfl,he⟩
  ·rw[if_neg hc] at he
   simp[h1,h9,h10,h11,hlt,hp0,Phs.enc,hc,hw]
   exact⟨by omega,d,hd,he⟩
 ·obtain rfl:k=x.phases.length:=by omega
  rw[List.drop_length] at he
  simp only[hasG] at he
  rw[he]
  rcases hd with hd | ⟨hd,rfl⟩
  ·simp[h1,h9,h10,h11,hd,f23]
   exact⟨_,by simp,.refl _⟩
  ·simp[h1,h9,h10,h11,hd,f23]
   exact⟨_,by simp,.nilOr (.inl ⟨rfl,rfl⟩)⟩
theorem hasX_sound:za prog 23 (zc false [] (FXI (fun x n=>.sl 2 ((hasG [] n x.phases).map encS)) fun x _=>x.phases.length≤lim)) :=
 xN (fn:=f23) wA ⟨_,func23,by kernel_rfl,rfl,by kernel_rfl⟩ false [] _ fun args r h w S vs hz=>by
  obtain⟨⟨x,n⟩,rfl,hx,rfl⟩:=zf h
  obtain⟨r0,h1,h2⟩:=hasX_eval x n hx
  exact⟨_,r0,hz,by simp[f23],h1,h2⟩
def idxT (v:List UInt8):Nat→List (List UInt8)→Int
 | _,[]=>-1
 | k,s::l=>if v=s then k else idxT v (k+1) l
theorem idxT_mem (v:List UInt8):∀(l:List (List UInt8)) (k:Nat),decide (0≤idxT v k l)=decide (v∈l)
 | [],k=>by simp[idxT]
 | s::l,k=>by
   by_cases h:v=s
   ·have e:idxT v k (s::l)=k:=by simp only[idxT,if_pos h]
    rw[e];simp[h]
   ·have e:idxT v k (s::l)=idxT v (k+1) l:=by simp only[idxT,if_neg h]
    rw[e,idxT_mem v l (k+1)];simp[h]
noncomputable def FTS (out:List (List UInt8)→List UInt8→PV):List PV→Option PV:=zG (α:=List (List UInt8)×List UInt8) (fun a=>[.sl 1 (encT a.1),str a.2]) (fun a=>a.1.length≤lim) (fun a=>out a.1 a.2)
theorem ts_inj:∀a b:List (List UInt8)×List UInt8,[PV.sl 1 (encT a.1),str a.2]=[PV.sl 1 (encT b.1),str b.2]→a=b:=by
 rintro⟨a1,a2⟩ ⟨b1,b2⟩ e
 simp only[List.cons.injEq,and_true] at e
 obtain⟨e1,e2⟩:=e
 injection e1 with _ e1
 rw[qT e1,zM e2]
theorem FTS_call (out:List (List UInt8)→List UInt8→PV) (l:List (List UInt8)) (v:List UInt8) (hp:Hp) (nx:Nat) (h:l.length≤lim):zc false [1] (FTS out) [.sl 1 (encT l),str v] hp nx=some (out l v,hp,nx) :=
 zt rfl (zn (enc:=fun a:List (List UInt8)×List UInt8=>[PV.sl 1 (encT a.1),str a.2]) (a:=(l,v)) ts_inj h) (.inr rfl)
theorem idxT_eval (l:List (List UInt8)) (v:List UInt8) (h:l.length≤lim):zi C0 f68 [.sl 1 (encT l),str v]=some (int (idxT v 0 l)):=by
 refine zb rfl ?_
 unfold lim at h
 have hel:(encT l).length=l.length:=by simp[encT]
 simp[hel]
 refine zC (fun k σ hp nx=>σ 0=.sl 1 (encT l)∧σ 1=str v∧σ 7=int l.length∧σ 8=int k∧idxT v 0 l=idxT v k (l.drop k)) l.length ⟨by simp,by simp,by simp,by simp,by simp⟩ ?_
 rintro k σ hp nx hk ⟨h0,h1,h7,h8,he⟩
 by_cases hlt:k<l.length
 ·obtain⟨s,hs⟩:∃s,l[k]=s:=⟨_,rfl⟩
  have hw:IntKind.i64.wrap ((k:Int)+1)=(k:Int)+1:=zd (by omega) (by omega)
  have hke:∀h:k<(encT l).length,(encT l)[k]=[str s]:=fun h=>by simp[encT,hs]
  have hle:k<(encT l).length:=by omega
  rw[List.drop_eq_getElem_cons hlt,hs] at he
  simp only[idxT] at he
  by_cases hc:v=s
  ·rw[if_pos hc] at he
   have hc':(v==s)=true:=by simpa using hc
   simp[h0,h1,h7,h8,hlt,hel,hle,hke,hc',he,f68]
  ·rw[if_neg hc] at he
   have hc':(v==s)=false:=by simpa using hc
   simp[h0,h1,h7,h8,hlt,hel,hle,hke,hc',hw]
   exact⟨by omega,he⟩
 ·obtain rfl:k=l.length:=by omega
  rw[List.drop_length] at he
  simp only[idxT] at he
  simp[h0,h1,h7,h8,he,f68]
theorem idxT_sound:za prog 68 (zc false [1] (FTS fun l v=>int (idxT v 0 l))) :=
 zJ (fn:=f68) wA ⟨_,func68,by kernel_rfl,rfl,by kernel_rfl⟩ false [1] _ fun args r h=>by
  obtain⟨⟨l,v⟩,rfl,hx,rfl⟩:=zf h
  exact⟨by simp[f68],_,idxT_eval l v hx,zI _⟩
noncomputable abbrev Cctt:Ctx:=zA prog [(68,zc false [1] (FTS fun l v=>int (idxT v 0 l)))]
theorem containsT_sound:za prog 43 (zc false [1] (FTS fun l v=>boo (decide (v∈l)))) :=
 zJ (fn:=f43) (zk (q:=[]) mixed ⟨idxT_sound,by simp,trivial⟩:AM.Good Cctt _) ⟨_,func43,by kernel_rfl,rfl,by kernel_rfl⟩ false [1] _ fun args r h=>by
  obtain⟨⟨l,v⟩,rfl,hx,rfl⟩:=zf h
  have hc:=fun hp nx=>FTS_call (fun l v=>int (idxT v 0 l)) l v hp nx hx
  have hm:=idxT_mem v l 0
  exact⟨by simp[f43],_,zb rfl (by simp[hc,hm,f43]),zI _⟩
end Go.Proofs.YtanbabpnlgfcpaaGreatDoor
