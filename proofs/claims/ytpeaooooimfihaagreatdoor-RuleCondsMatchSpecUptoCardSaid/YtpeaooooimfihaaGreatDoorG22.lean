/-
The reference's printing of values: Quote, numberText, Write, valuesText, opWord.
The reference's printing: Write, valuesText, opWord.
The search by halves; the order of texts.
The reference's Compare of two values.
Plain law: conditions, as the reference counts and checks them.
The reference's versions: digits, numbers, parts of Pre, comparing.
-/
import Derived.Test.YtpeaooooimfihaaGreatDoorG13
import Derived.Test.YtpeaooooimfihaaGreatDoorG15
import Derived.Test.YtpeaooooimfihaaGreatDoorG21
import Derived.Test.YtpeaooooimfihaaGreatDoorG16
import Derived.Test.YtpeaooooimfihaaGreatDoorG14
import Derived.Test.YtpeaooooimfihaaGreatDoorG17
import Derived.Test.YtpeaooooimfihaaGreatDoorG18
import Derived.Test.YtpeaooooimfihaaGreatDoorG19
set_option maxRecDepth 8000
namespace Go.Proofs.YtpeaooooimfihaaGreatDoor
open Go.Proofs.Tryz
open Go.RowKit Go.AM Go.PrLaw
noncomputable def FQr:List PV→Option PV:=zH (α:=List UInt8) (fun s=>[str s]) (fun s=>s.length≤lim) (fun s=>str (quoB s))
theorem FQr_call (s:List UInt8) (hp:Hp) (nx:Nat) (h:s.length≤lim):zf false [] FQr [str s] hp nx=some (str (quoB s),hp,nx) :=
 zK rfl (zn (enc:=fun s:List UInt8=>[str s]) (a:=s) (fun a b e=>by simpa using e) h) (.inl rfl)
noncomputable abbrev Crq:Ctx:=zF prog [(39,zf false [] FRp)]
theorem goodrq:AM.GoodD False Crq (fun g=>([]:List Nat).contains g):=zm mixed ⟨replaceAll_sound,by simp,trivial⟩
theorem rquote_sound:SpecD False prog 22 (zf false [] FQr) :=
 zO (fn:=f22) goodrq ⟨_,func22,by kernel_rfl,rfl,by kernel_rfl⟩ false [] _ fun args r h=>by
  obtain⟨s,rfl,hs,rfl⟩:=ze h
  unfold lim at hs
  have h1:=subB_len 92 92 92 s
  have h2:=subB_len 34 92 34 (subB 92 [92,92] s)
  have r1:=fun hp nx=>rp_call s 92 [92,92] hp nx (by omega) (by simp) (by simp)
  have r2:=fun hp nx=>rp_call (subB 92 [92,92] s) 34 [92,34] hp nx (by omega) (by simp) (by simp)
  rw[esc_sub] at r2 h2
  have m1:1+(escB s).length≤maxLen:=by unfold maxLen;omega
  have m2:(escB s).length+1+1≤maxLen:=by unfold maxLen;omega
  exact⟨by simp[f22],_,zb rfl (by simp[r1,r2,m1,m2,quoB,f22]),zM _⟩
noncomputable def FNt:List PV→Option PV:=zH (α:=Int) (fun n=>[int n]) (fun n=>-1000000000000000<n∧n<1000000000000000) (fun n=>str (xm n))
theorem FNt_call (n:Int) (hp:Hp) (nx:Nat) (h:-1000000000000000<n∧n<1000000000000000):zf false [] FNt [int n] hp nx=some (str (xm n),hp,nx) :=
 zK rfl (zn (enc:=fun n:Int=>[int n]) (a:=n) (fun a b e=>by simpa using e) h) (.inl rfl)
noncomputable abbrev Crnt:Ctx:=zF prog [(87,zf false [] FIt),(89,zf false [] FRt),(88,zf false [] (FTT trP fun _ b=>one7 b))]
theorem goodrnt:AM.GoodD False Crnt (fun g=>([]:List Nat).contains g):=zm mixed ⟨itoa_sound.lax,by simp,repeat_sound,by simp,trimRight_sound.lax,by simp,trivial⟩
theorem rnum_eval (n:Int) (hs:-1000000000000000<n∧n<1000000000000000):zj Crnt f57 [int n]=some (str (xm n)):=by
 refine zb rfl ?_
 obtain⟨u,hu⟩:∃u,n.natAbs=u:=⟨_,rfl⟩
 have hul:u<1000000000000000:=by omega
 have hnb:xm n=(if n<0 then [45] else [])++(Lib.decDigits (u / 1000)++if u % 1000=0 then [] else 46::w9 (u % 1000)):=by rw[←hu];rfl
 have hpl:Lib.trimRightB ((Lib.decDigits (1000+u % 1000)).drop 1) 48=w9 (u % 1000):=rfl
 have hdl:((Lib.decDigits (1000+u % 1000)).drop 1).length≤1000:=by rw[wQ (by omega)];simp
 have q1:((u:Int)).tdiv 1000=(u:Int) / 1000:=Int.tdiv_eq_ediv_of_nonneg (by omega)
 have q2:((u:Int)).tmod 1000=(u:Int) % 1000:=Int.tmod_eq_emod_of_nonneg (by omega)
 have i1:=fun hp nx=>FIt_call ((u:Int) / 1000) hp nx (by omega) (by omega)
 have i2:=fun hp nx=>FIt_call ((u:Int) % 1000) hp nx (by omega) (by omega)
 rw[show ((u:Int) / 1000).toNat=u / 1000 by omega] at i1
 rw[show ((u:Int) % 1000).toNat=u % 1000 by omega] at i2
 have w1:IntKind.i64.wrap (u:Int)=u:=zh (by omega) (by omega)
 have w2:IntKind.i64.wrap ((u:Int) / 1000)=(u:Int) / 1000:=zh (by omega) (by omega)
 have w3:IntKind.i64.wrap ((u:Int) % 1000)=(u:Int) % 1000:=zh (by omega) (by omega)
 obtain⟨D,hD⟩:∃D,Lib.decDigits (u % 1000)=D:=⟨_,rfl⟩
 have hDl:D.length≤3:=by rw[←hD];exact dec_len 2 _ (by omega)
 have w4:IntKind.i64.wrap (3 - (D.length:Int))=3 - (D.length:Int):=zh (by omega) (by omega)
 have i4:=fun hp nx=>rt_call 48 (3 - (D.length:Int)) hp nx (by omega) (by omega)
 rw[show (3 - (D.length:Int)).toNat=3 - D.length by omega] at i4
 obtain⟨Z,hZ⟩:∃Z,Lib.repeatL [48] (3 - D.length)=Z:=⟨_,rfl⟩
 have hpad:Z++D=(Lib.decDigits (1000+u % 1000)).drop 1:=by rw[←hZ,←hD];exact dec_pad (by omega)
 have i3:=fun hp nx=>trR_call ((Lib.decDigits (1000+u % 1000)).drop 1) hp nx hdl
 rw[hpl,←hpad] at i3
 rw[hZ] at i4
 rw[hD] at i2
 have m1:Z.length+D.length≤maxLen:=by have:=hdl;rw[←hpad] at this;simp at this;unfold maxLen;omega
 obtain⟨E,hE⟩:∃E,Lib.decDigits (u / 1000)=E:=⟨_,rfl⟩
 have hEl:E.length≤12:=by rw[←hE];exact dec_len 11 _ (by omega)
 rw[hE] at i1 hnb
 obtain⟨Q,hQ⟩:∃Q,w9 (u % 1000)=Q:=⟨_,rfl⟩
 have hQl:Q.length≤3:=by rw[←hQ];exact places_len (by omega)
 have hQn:=places_nil (r:=u % 1000) (by omega)
 rw[hQ] at i3 hnb hQn
 have m2:E.length≤maxLen:=by unfold maxLen;omega
 have m3:1+E.length≤maxLen:=by unfold maxLen;omega
 have m4:E.length+1≤maxLen:=by unfold maxLen;omega
 have m5:E.length+1+1≤maxLen:=by unfold maxLen;omega
 have m6:E.length+1+Q.length≤maxLen:=by unfold maxLen;omega
 have m7:E.length+1+1+Q.length≤maxLen:=by unfold maxLen;omega
 rw[hnb]
 clear hnb
 rcases Int.lt_or_le n 0 with hn | hn
 ·obtain rfl:n=-(u:Int):=by omega
  have hu0:0<u:=by omega
  rw[if_pos hn]
  by_cases hr:u % 1000=0
  ·rw[if_pos hr]
   have hq0:=hQn.2 hr
   subst hq0
   simp[hu0,q1,q2,i1,i2,i3,i4,w1,w2,w3,w4,m1,m2,m3,f57]
  ·rw[if_neg hr]
   have hq0:(Q==[])=false:=by
    cases hb:(Q==[])
    ·rfl
    ·exact absurd (hQn.1 (by simpa using hb)) hr
   simp[hu0,q1,q2,i1,i2,i3,i4,w1,w2,w3,w4,m1,m2,m3,m4,m5,m6,m7,hq0,f57]
 ·obtain rfl:n=(u:Int):=by omega
  have hn':¬(u:Int)<0:=by omega
  rw[if_neg hn']
  by_cases hr:u % 1000=0
  ·rw[if_pos hr]
   have hq0:=hQn.2 hr
   subst hq0
   simp[hn',q1,q2,i1,i2,i3,i4,w1,w2,w3,w4,m1,m2,m3,f57]
  ·rw[if_neg hr]
   have hq0:(Q==[])=false:=by
    cases hb:(Q==[])
    ·rfl
    ·exact absurd (hQn.1 (by simpa using hb)) hr
   simp[hn',q1,q2,i1,i2,i3,i4,w1,w2,w3,w4,m1,m2,m3,m4,m5,m6,m7,hq0,f57]
theorem rnum_sound:SpecD False prog 57 (zf false [] FNt) :=
 zO (fn:=f57) goodrnt ⟨_,func57,by kernel_rfl,rfl,by kernel_rfl⟩ false [] _ fun args r h=>by
  obtain⟨n,rfl,hn,rfl⟩:=ze h
  exact⟨by simp[f57],_,rnum_eval n hn,zM _⟩
noncomputable def FVw (n:Nat):List PV→Option PV:=zH (α:=Val) (fun v=>[.agg v.enc]) (fun v=>VOk v∧v.vb≤lim∧v.vb≤n) (fun v=>str v.show)
theorem FVw_call (n:Nat) (v:Val) (hp:Hp) (nx:Nat) (h:VOk v∧v.vb≤lim∧v.vb≤n):zf false [] (FVw n) [.agg v.enc] hp nx=some (str v.show,hp,nx) :=
 zK (hp1:=hp) (show zi hp [.agg v.enc]=some ([.agg v.enc],hp) by simp only[zi,wR]) (zn (enc:=fun v:Val=>[.agg v.enc]) (a:=v) (fun a b e=>by simp only[List.cons.injEq,and_true,PV.agg.injEq] at e;exact ky e) h) (.inl rfl)
theorem FVw_zero {f:FuncId} (hfn:∃fn,prog.funcs[f]?=some fn∧(fn.name== "runtime.NumGoroutine")=false∧fn.body.isNone=false):SpecD False prog f (zf false [] (FVw 0)):=by
 refine⟨hfn,fun args hp nx r hp' nx' h=>?_⟩
 unfold zf at h
 split at h
 ·split at h
  ·rename_i hF
   obtain⟨v,_,hv,_⟩:=ze hF
   have:=xe v
   omega
  ·cases h
 ·cases h
theorem yv (l:List (List UInt8)) (k:Nat) (h:k<l.length):encT (l.take (k+1))=encT (l.take k)++[[str l[k]]]:=by
 rw[List.take_succ_eq_append_getElem h];unfold encT;rw[List.map_append];rfl
theorem joinV_len (l:List Val) (h:∀x∈l,VOk x):(Lib.join (l.map Val.show) [44]).length≤30*vbs l:=by
 have j:=kx [44] (l.map Val.show)
 refine Nat.le_trans j ?_
 clear j
 induction l with
 | nil=>simp
 | cons v l ih =>
   have a:=vN v (h v (by simp))
   have b:=ih fun x hx=>h x (by simp[hx])
   simp only[List.map_cons,List.sum_cons,vbs,List.length_cons,List.length_nil] at b ⊢
   omega
theorem joinF_len (l:List (List UInt8×Val)) (h:∀f∈l,VOk f.2):(Lib.join (l.map jr) [44]).length≤30*fbs l:=by
 have j:=kx [44] (l.map jr)
 refine Nat.le_trans j ?_
 clear j
 induction l with
 | nil=>simp
 | cons f l ih =>
   have a:=vN f.2 (h f (by simp))
   have b:=ih fun x hx=>h x (by simp[hx])
   have q:=jA f.1
   obtain⟨c,v⟩:=f
   simp only[List.map_cons,List.sum_cons,fbs,jr,List.length_append,List.length_cons,List.length_nil] at a b q ⊢
   omega
noncomputable abbrev Crw (n:Nat):Ctx:=zF prog [(40,zf false [] (FVw n)),(57,zf false [] FNt),(22,zf false [] FQr),(19,hJn)]
set_option maxHeartbeats 4000000 in
theorem rwrite_eval (n:Nat) (v:Val) (h:VOk v∧v.vb≤lim∧v.vb≤n+1):zj (Crw n) f40 [.agg v.enc]=some (str v.show):=by
 obtain⟨hok,hv,hvn⟩:=h
 have hvb:=kM v
 have hl1:=qp v.items
 have hl2:=qL v.fields
 have hshl:=vN v hok
 unfold lim at hv
 have hkd:=hok.kind
 have hnt:=fun h hp nx=>FNt_call v.n hp nx h
 have hqt:=fun hp nx=>FQr_call v.s hp nx (by unfold lim;omega)
 refine zb rfl ?_
 rcases (by omega:v.kind=0∨v.kind=1∨v.kind=2∨v.kind=3∨v.kind=4∨v.kind=5) with hk | hk | hk | hk | hk | hk
 ·have hsv:v.show=[110,117,108,108]:=by rw[wM,if_pos hk]
  simp[hk,hsv,f40]
 ·by_cases h1:v.n=1
  ·have hsv:v.show=[116,114,117,101]:=by rw[wM,if_neg (by omega),if_pos hk,if_pos h1]
   simp[hk,h1,hsv,f40]
  ·have hsv:v.show=[102,97,108,115,101]:=by rw[wM,if_neg (by omega),if_pos hk,if_neg h1]
   have h1':(v.n==1)=false:=beq_eq_false_iff_ne.2 h1
   simp[hk,h1',hsv,f40]
 ·have hsv:v.show=xm v.n:=by rw[wM,if_neg (by omega),if_neg (by omega),if_pos hk]
  have hnt:=hnt (hok.num hk)
  simp[hk,hnt,hsv,f40]
 ·have hsv:v.show=quoB v.s:=by rw[wM,if_neg (by omega),if_neg (by omega),if_neg (by omega),if_pos hk]
  simp[hk,hqt,hsv,f40]
 ·have hsv:v.show=91::(Lib.join (v.items.map Val.show) [44]++[93]):=by rw[wM,if_neg (by omega),if_neg (by omega),if_neg (by omega),if_neg (by omega),if_pos hk]
  have hjl:=joinV_len v.items hok.items
  simp[hk]
  refine zy (fun k σ hp nx=>σ 30=.sl 5 (v.items.map Val.enc)∧σ 31=int v.items.length∧σ 32=int k∧OwnS hp nx 9 1 (σ 3) (encT ((v.items.map Val.show).take k))) v.items.length ⟨by simp,by simp,by simp,.inl ⟨by simp,rfl⟩⟩ ?_
  rintro k σ hp nx hkl ⟨h30,h31,h32,hO⟩
  by_cases hlt:k<v.items.length
  ·have hw:IntKind.i64.wrap ((k:Int)+1)=(k:Int)+1:=zh (by omega) (by omega)
   have hmem:=List.getElem_mem hlt
   have hm:=q8 hmem
   have hxo:=hok.items _ hmem
   have hE:=yv (v.items.map Val.show) k (by simpa using hlt)
   rw[List.getElem_map] at hE
   obtain⟨x,hx⟩:∃x,v.items[k]=x:=⟨_,rfl⟩
   rw[hx] at hm hxo hE
   obtain⟨ys,hys⟩:∃ys,encT ((v.items.map Val.show).take k)=ys:=⟨_,rfl⟩
   have hyl:ys.length≤1048576:=by rw[←hys];simp;omega
   rw[hys] at hO hE
   have hcall:=fun hp nx=>FVw_call n x hp nx ⟨hxo,by unfold lim;omega,by omega⟩
   have hO1:=hO.more (some ⟨63,5,false,[x.enc]⟩)
   have hap:=OwnS.append1 (P:=prog) (t:=45) (c:=[str x.show]) hO1 el45 sz9 by9 ze9 rfl (by omega) (by unfold maxLen;omega) (by omega)
   simp[h30,h31,h32,hlt,hx,hcall,hap,hw,zd,zl,zc]
   exact⟨by omega,by rw[hE];simpa using OwnS.after⟩
  ·obtain rfl:k=v.items.length:=by omega
   rw[List.take_of_length_le (by simp)] at hO
   have hjn:=fun nx=>jn_own [44] hO (by simp;omega) (by omega) nx
   have m1:1+(Lib.join (v.items.map Val.show) [44]).length≤maxLen:=by unfold maxLen;omega
   have m2:(Lib.join (v.items.map Val.show) [44]).length+1+1≤maxLen:=by unfold maxLen;omega
   simp[h30,h31,h32,hjn,m1,m2,hsv,f40]
 ·have hsv:v.show=123::(Lib.join (v.fields.map jr) [44]++[125]):=by rw[wM,if_neg (by omega),if_neg (by omega),if_neg (by omega),if_neg (by omega),if_neg (by omega)]
  have hjl:=joinF_len v.fields hok.fields
  simp[hk]
  refine zy (fun k σ hp nx=>σ 47=.sl 6 (v.fields.map encF)∧σ 48=int v.fields.length∧σ 49=int k∧OwnS hp nx 9 1 (σ 3) (encT ((v.fields.map jr).take k))) v.fields.length ⟨by simp,by simp,by simp,.inl ⟨by simp,rfl⟩⟩ ?_
  rintro k σ hp nx hkl ⟨h30,h31,h32,hO⟩
  by_cases hlt:k<v.fields.length
  ·have hw:IntKind.i64.wrap ((k:Int)+1)=(k:Int)+1:=zh (by omega) (by omega)
   have hmem:=List.getElem_mem hlt
   have hm:=yn hmem
   have hxo:=hok.fields _ hmem
   have hE:=yv (v.fields.map jr) k (by simpa using hlt)
   rw[List.getElem_map] at hE
   obtain⟨⟨a,x⟩,hx⟩:∃x,v.fields[k]=x:=⟨_,rfl⟩
   rw[hx] at hm hxo hE
   simp only[jr] at hm hxo hE
   obtain⟨ys,hys⟩:∃ys,encT ((v.fields.map jr).take k)=ys:=⟨_,rfl⟩
   have hyl:ys.length≤1048576:=by rw[←hys];simp;omega
   have hxl:=vN x hxo
   have hql:=jA a
   rw[hys] at hO hE
   have hcall:=fun hp nx=>FVw_call n x hp nx ⟨hxo,by unfold lim;omega,by omega⟩
   have hqa:=fun hp nx=>FQr_call a hp nx (by unfold lim;omega)
   have m1:(quoB a).length+1≤maxLen:=by unfold maxLen;omega
   have m2:(quoB a).length+1+x.show.length≤maxLen:=by unfold maxLen;omega
   have hO1:=hO.more (some ⟨77,6,false,[str a::x.enc]⟩)
   have hap:=OwnS.append1 (P:=prog) (t:=45) (c:=[str (quoB a++58::x.show)]) hO1 el45 sz9 by9 ze9 rfl (by omega) (by unfold maxLen;omega) (by omega)
   simp[h30,h31,h32,hlt,hx,hcall,hqa,m1,m2,hap,hw,zd,zl,zc]
   exact⟨by omega,by rw[hE];simpa using OwnS.after⟩
  ·obtain rfl:k=v.fields.length:=by omega
   rw[List.take_of_length_le (by simp)] at hO
   have hjn:=fun nx=>jn_own [44] hO (by simp;omega) (by omega) nx
   have m1:1+(Lib.join (v.fields.map jr) [44]).length≤maxLen:=by unfold maxLen;omega
   have m2:(Lib.join (v.fields.map jr) [44]).length+1+1≤maxLen:=by unfold maxLen;omega
   simp[h30,h31,h32,hjn,m1,m2,hsv,f40]
set_option maxRecDepth 100000 in
theorem rwrite_sound:∀n,SpecD False prog 40 (zf false [] (FVw n)):=by
 intro n
 induction n with
 | zero=>exact FVw_zero ⟨_,func40,by kernel_rfl,by kernel_rfl⟩
 | succ n ih =>
   have hg:AM.GoodD False (Crw n) (fun g=>[40,22].contains g):=zm mixed ⟨ih,fun _=>zg _ _,rnum_sound,by simp,rquote_sound,fun _=>zg _ _,join_sound,by simp,trivial⟩
   exact zO (fn:=f40) hg ⟨_,func40,by kernel_rfl,rfl,by kernel_rfl⟩ false [] _ fun args r h=>by
    obtain⟨v,rfl,hv,rfl⟩:=ze h
    exact⟨Nat.le_trans (Nat.le_refl 1) (by decide),_,rwrite_eval n v hv,zM _⟩
noncomputable def FVt:List PV→Option PV:=zH (α:=List Val) (fun l=>[.sl 5 (l.map Val.enc)]) (fun l=>(∀x∈l,VOk x)∧vbs l≤lim) (fun l=>str (valsB l))
theorem FVt_call (l:List Val) (hp:Hp) (nx:Nat) (h:∀x∈l,VOk x) (h2:vbs l≤lim):zf false [] FVt [.sl 5 (l.map Val.enc)] hp nx=some (str (valsB l),hp,nx) :=
 zK (hp1:=hp) (show zi hp [.sl 5 (l.map Val.enc)]=some ([.sl 5 (l.map Val.enc)],hp) by simp) (zn (enc:=fun l:List Val=>[PV.sl 5 (l.map Val.enc)]) (a:=l) (fun x y e=>by
  simp only[List.cons.injEq,and_true] at e
  injection e with _ e
  exact vals_inj e) ⟨h,h2⟩) (.inl rfl)
noncomputable abbrev Crvt:Ctx:=zF prog [(40,zf false [] (FVw lim)),(19,hJn)]
theorem goodrvt:AM.GoodD False Crvt (fun g=>([]:List Nat).contains g):=zm mixed ⟨rwrite_sound lim,by simp,join_sound,by simp,trivial⟩
theorem rvals_eval (l:List Val) (hok:∀x∈l,VOk x) (hb:vbs l≤lim):zj Crvt f23 [.sl 5 (l.map Val.enc)]=some (str (valsB l)):=by
 have hl1:=qp l
 have hvl:=valsB_len l hok
 unfold lim at hb
 refine zb rfl ?_
 by_cases hv:l=[]
 ·subst hv
  simp[valsB,f23]
 have hvl0:((l.length:Int)==0)=false:=beq_eq_false_iff_ne.2 fun e=>hv (List.eq_nil_of_length_eq_zero (by omega))
 have hvb:valsB l=Lib.join (l.map Val.show) [32,124,32]:=by rw[valsB,if_neg hv]
 rw[hvb] at hvl
 simp[hvl0]
 refine zy (fun k σ hp nx=>σ 9=.sl 5 (l.map Val.enc)∧σ 10=int l.length∧σ 11=int k∧OwnS hp nx 9 1 (σ 3) (encT ((l.map Val.show).take k))) l.length ⟨by simp,by simp,by simp,.inl ⟨by simp,rfl⟩⟩ ?_
 rintro k σ hp nx hkl ⟨h30,h31,h32,hO⟩
 by_cases hlt:k<l.length
 ·have hw:IntKind.i64.wrap ((k:Int)+1)=(k:Int)+1:=zh (by omega) (by omega)
  have hmem:=List.getElem_mem hlt
  have hm:=q8 hmem
  have hxo:=hok _ hmem
  have hE:=yv (l.map Val.show) k (by simpa using hlt)
  rw[List.getElem_map] at hE
  obtain⟨x,hx⟩:∃x,l[k]=x:=⟨_,rfl⟩
  rw[hx] at hm hxo hE
  obtain⟨ys,hys⟩:∃ys,encT ((l.map Val.show).take k)=ys:=⟨_,rfl⟩
  have hyl:ys.length≤1048576:=by rw[←hys];simp;omega
  rw[hys] at hO hE
  have hcall:=fun hp nx=>FVw_call lim x hp nx ⟨hxo,by unfold lim;omega,by unfold lim;omega⟩
  have hO1:=hO.more (some ⟨63,5,false,[x.enc]⟩)
  have hap:=OwnS.append1 (P:=prog) (t:=45) (c:=[str x.show]) hO1 el45 sz9 by9 ze9 rfl (by omega) (by unfold maxLen;omega) (by omega)
  simp[h30,h31,h32,hlt,hx,hcall,hap,hw,zd,zl,zc]
  exact⟨by omega,by rw[hE];simpa using OwnS.after⟩
 ·obtain rfl:k=l.length:=by omega
  rw[List.take_of_length_le (by simp)] at hO
  have hjn:=fun nx=>jn_own [32,124,32] hO (by simp;omega) (by omega) nx
  simp[h30,h31,h32,hjn,hvb,f23]
theorem rvals_sound:SpecD False prog 23 (zf false [] FVt) :=
 zO (fn:=f23) goodrvt ⟨_,func23,by kernel_rfl,rfl,by kernel_rfl⟩ false [] _ fun args r h=>by
  obtain⟨l,rfl,hl,rfl⟩:=ze h
  exact⟨by simp[f23],_,rvals_eval l hl.1 hl.2,zM _⟩
noncomputable def FOw:List PV→Option PV:=zH (α:=Int) (fun n=>[int n]) (fun n=>0≤n∧n≤12) (fun n=>str (sgn n))
theorem FOw_call (n:Int) (hp:Hp) (nx:Nat) (h:0≤n∧n≤12):zf false [] FOw [int n] hp nx=some (str (sgn n),hp,nx) :=
 zK rfl (zn (enc:=fun n:Int=>[int n]) (a:=n) (fun a b e=>by simpa using e) h) (.inl rfl)
theorem opWord_sound:za prog 21 (zf false [] FOw) :=
 zO (fn:=f21) wT ⟨_,func21,by kernel_rfl,rfl,by kernel_rfl⟩ false [] _ fun args r h=>by
  obtain⟨n,rfl,⟨h1,h2⟩,rfl⟩:=ze h
  refine⟨by simp[f21],_,zb rfl ?_,zM _⟩
  rcases (by omega:n=0∨n=1∨n=2∨n=3∨n=4∨n=5∨n=6∨n=7∨n=8∨n=9∨n=10∨n=11∨n=12) with rfl | rfl | rfl | rfl | rfl | rfl | rfl | rfl | rfl | rfl | rfl | rfl | rfl <;>
   simp[zd,zl,zc,maxLen,sgn,sgnB,f21]
end Go.Proofs.YtpeaooooimfihaaGreatDoor
namespace Go.Proofs.YtpeaooooimfihaaGreatDoor
open Go.Proofs.Tryz
open Go.RowKit Go.AM
theorem u8_tri (a b:UInt8):a<b∨a=b∨b<a:=by
 rcases Nat.lt_trichotomy a.toNat b.toNat with h | h | h
 ·exact .inl (UInt8.lt_iff_toNat_lt.2 h)
 ·exact .inr (.inl (UInt8.toNat_inj.1 h))
 ·exact .inr (.inr (UInt8.lt_iff_toNat_lt.2 h))
theorem u8_irr (a:UInt8):¬a<a:=fun h=>Nat.lt_irrefl _ (UInt8.lt_iff_toNat_lt.1 h)
theorem u8_asymm {a b:UInt8} (h:a<b):¬b<a:=fun h'=>Nat.lt_asymm (UInt8.lt_iff_toNat_lt.1 h) (UInt8.lt_iff_toNat_lt.1 h')
theorem u8_trans {a b c:UInt8} (h:a<b) (h':b<c):a<c:=UInt8.lt_iff_toNat_lt.2 (Nat.lt_trans (UInt8.lt_iff_toNat_lt.1 h) (UInt8.lt_iff_toNat_lt.1 h'))
theorem cmpB_lt:∀a b:List UInt8,cmpB a b<0↔Op.bytesLess a b=true
 | [],[]=>by simp[cmpB,Lib.compareBytes,Op.bytesLess]
 | [],_::_=>by simp[cmpB,Lib.compareBytes,Op.bytesLess]
 | _::_,[]=>by simp[cmpB,Lib.compareBytes,Op.bytesLess]
 | a::x,b::y=>by
   have ih:=cmpB_lt x y
   unfold cmpB at ih ⊢
   rcases u8_tri a b with h | rfl | h
   ·simp[Lib.compareBytes,Op.bytesLess,h]
   ·simp[Lib.compareBytes,Op.bytesLess,u8_irr,ih]
   ·have hne:¬a=b:=fun e=>u8_irr b (e ▸ h)
    simp[Lib.compareBytes,Op.bytesLess,h,u8_asymm h,hne]
theorem ke:∀a b:List UInt8,cmpB a b=0↔a=b
 | [],[]=>by simp[cmpB,Lib.compareBytes]
 | [],_::_=>by simp[cmpB,Lib.compareBytes]
 | _::_,[]=>by simp[cmpB,Lib.compareBytes]
 | a::x,b::y=>by
   have ih:=ke x y
   unfold cmpB at ih ⊢
   rcases u8_tri a b with h | rfl | h
   ·have hne:¬a=b:=fun e=>u8_irr b (e ▸ h)
    simp[Lib.compareBytes,h,hne]
   ·simp[Lib.compareBytes,u8_irr,ih]
   ·have hne:¬a=b:=fun e=>u8_irr b (e ▸ h)
    simp[Lib.compareBytes,h,u8_asymm h,hne]
theorem less_trans:∀{a b c:List UInt8},Op.bytesLess a b=true→Op.bytesLess b c=true→Op.bytesLess a c=true
 | _,[],_,h,_=>by simp[Op.bytesLess] at h
 | _,_::_,[],_,h=>by simp[Op.bytesLess] at h
 | [],_::_,_::_,_,_=>by simp[Op.bytesLess]
 | a::x,b::y,c::z,h1,h2=>by
   simp only[Op.bytesLess,Bool.or_eq_true,decide_eq_true_eq,Bool.and_eq_true,beq_iff_eq] at h1 h2 ⊢
   rcases h1 with h1 | ⟨rfl,h1⟩
   ·rcases h2 with h2 | ⟨rfl,h2⟩
    ·exact .inl (u8_trans h1 h2)
    ·exact .inl h1
   ·rcases h2 with h2 | ⟨rfl,h2⟩
    ·exact .inl h2
    ·exact .inr ⟨rfl,less_trans h1 h2⟩
theorem xf:∀{a b:List UInt8},leB a b=false→Op.bytesLess b a=true
 | [],[],h=>by simp[leB] at h
 | [],_::_,h=>by simp[leB,Op.bytesLess] at h
 | _::_,[],_=>by simp[Op.bytesLess]
 | a::x,b::y,h=>by
   simp only[leB,Op.bytesLess,Bool.or_eq_false_iff,decide_eq_false_iff_not,Bool.and_eq_false_iff,beq_eq_false_iff_ne] at h
   obtain⟨⟨h1,h2⟩,h3⟩:=h
   simp only[Op.bytesLess,Bool.or_eq_true,decide_eq_true_eq,Bool.and_eq_true,beq_iff_eq]
   rcases u8_tri a b with g | rfl | g
   ·exact absurd g h1
   ·refine .inr ⟨rfl,xf ?_⟩
    rcases h2 with h2 | h2
    ·exact absurd rfl h2
    ·have:¬x=y:=fun e=>h3 (by rw[e])
     simp[leB,h2,this]
   ·exact .inl g
theorem less_irr (a:List UInt8):Op.bytesLess a a=false:=by
 cases h:Op.bytesLess a a with
 | false=>rfl
 | true =>
   have h1:=(cmpB_lt a a).2 h
   have h2:=(ke a a).2 rfl
   omega
theorem cmpS_B:∀a b:List UInt8,cmpS a b=cmpB a b
 | [],[]=>by simp[cmpS,cmpB,Lib.compareBytes,Op.bytesLess]
 | [],_::_=>by simp[cmpS,cmpB,Lib.compareBytes,Op.bytesLess]
 | _::_,[]=>by simp[cmpS,cmpB,Lib.compareBytes,Op.bytesLess]
 | a::x,b::y=>by
   have ih:=cmpS_B x y
   unfold cmpS cmpB at ih ⊢
   rcases u8_tri a b with h | rfl | h
   ·simp[Lib.compareBytes,Op.bytesLess,h]
   ·simpa[Lib.compareBytes,Op.bytesLess,u8_irr] using ih
   ·have hne:¬a=b:=fun e=>u8_irr b (e ▸ h)
    simp[Lib.compareBytes,Op.bytesLess,h,u8_asymm h,hne]
theorem cmpI_zero {a b:Int} (h:cmpI a b=0):a=b:=by
 unfold cmpI at h
 split at h
 ·cases h
 ·split at h
  ·cases h
  ·omega
theorem lexL_end {α:Type} (c:α→α→Int) {a b:List α} {m:Nat} (h1:m≤a.length) (h2:m≤b.length) (h3:m=a.length∨m=b.length):lexL c (a.drop m) (b.drop m)=cmpI a.length b.length:=by
 unfold cmpI
 by_cases ha:m<a.length
 ·have hb:m=b.length:=by omega
  rw[List.drop_eq_getElem_cons ha,List.drop_of_length_le (l:=b) (by omega),if_neg (by omega),if_pos (by omega)]
  rfl
 ·rw[List.drop_of_length_le (l:=a) (by omega)]
  by_cases hb:m<b.length
  ·rw[List.drop_eq_getElem_cons hb,if_pos (by omega)]
   rfl
  ·rw[List.drop_of_length_le (l:=b) (by omega),if_neg (by omega),if_neg (by omega)]
   rfl
theorem min_nat (a b:Nat):∃m:Nat,(if b<a then (b:Int) else a)=m∧m≤a∧m≤b∧(m=a∨m=b):=by
 by_cases h:b<a
 ·exact⟨b,by rw[if_pos h],by omega,Nat.le_refl _,.inr rfl⟩
 ·exact⟨a,by rw[if_neg h],Nat.le_refl _,by omega,.inl rfl⟩
theorem cmpFld_eq (f g:List UInt8×Val):wt f g=if cmpB f.1 g.1=0 then z8 f.2 g.2 else cmpB f.1 g.1:=by
 unfold wt
 simp only[orL]
 split
 ·split
  ·rename_i h;rw[h]
  ·rfl
 ·rfl
noncomputable abbrev Crcm (n:Nat):Ctx:=zF prog [(51,zf false [] (FCV n)),(60,zf false [] (F2I cmpI)),(76,zf false [] (F2S cmpS))]
set_option maxHeartbeats 1000000 in
theorem rcompare_eval (n:Nat) (a b:Val) (h:a.vb≤lim∧a.vb≤n+1∧b.vb≤lim):zj (Crcm n) f51 [.agg a.enc,.agg b.enc]=some (int (z8 a b)):=by
 obtain⟨h1,h2,h3⟩:=h
 have va:=kM a
 have vb:=kM b
 have la:=qp a.items
 have lb:=qp b.items
 have fa:=qL a.fields
 have fb:=qL b.fields
 unfold lim at h1 h3
 refine zb rfl ?_
 have hcv:=cmpVal_eq a b
 by_cases hk:a.kind=b.kind
 case neg =>
  rw[if_neg hk] at hcv
  have e0:(cmpI a.kind b.kind != 0)=true:=by
   rw[bne_iff_ne];exact fun e=>hk (cmpI_zero e)
  simp[e0,hcv,f51]
 rw[if_pos hk] at hcv
 by_cases k1:a.kind=1
 ·rw[if_pos (.inl k1)] at hcv
  have kb:b.kind=1:=by omega
  simp[k1,kb,hcv,f51]
 by_cases k2:a.kind=2
 ·rw[if_pos (.inr k2)] at hcv
  have kb:b.kind=2:=by omega
  simp[k2,kb,hcv,f51]
 rw[if_neg (by omega)] at hcv
 by_cases k3:a.kind=3
 ·rw[if_pos k3] at hcv
  have kb:b.kind=3:=by omega
  have hs:=cmpS_B a.s b.s
  simp[k3,kb,hcv,hs,f51]
 rw[if_neg k3] at hcv
 by_cases k4:a.kind=4
 ·rw[if_pos k4] at hcv
  have kb:b.kind=4:=by omega
  obtain⟨m,hm,hma,hmb,hmm⟩:=min_nat a.items.length b.items.length
  rw[hcv]
  simp[k4,kb,hm]
  refine zy (fun k σ hp nx=>σ 2=.ref 0 0 0∧σ 3=.ref 1 0 0∧σ 43=int m∧σ 44=int k∧hp 0=some ⟨63,5,false,[a.enc]⟩∧hp 1=some ⟨63,5,false,[b.enc]⟩∧lexL z8 a.items b.items=lexL z8 (a.items.drop k) (b.items.drop k)) m
   ⟨by simp,by simp,by simp,by simp,by simp,by simp,by simp⟩ ?_
  rintro k σ hp nx hk ⟨h2,h3,h43,h44,b0,b1,he⟩
  by_cases hlt:k<m
  ·have hka:k<a.items.length:=by omega
   have hkb:k<b.items.length:=by omega
   have ma:=q8 (List.getElem_mem hka)
   have mb:=q8 (List.getElem_mem hkb)
   have hc:=fun hp nx=>vO n a.items[k] b.items[k] hp nx ⟨by unfold lim;omega,by omega,by unfold lim;omega⟩
   have hw:IntKind.i64.wrap ((k:Int)+1)=(k:Int)+1:=zh (by omega) (by omega)
   rw[List.drop_eq_getElem_cons hka,List.drop_eq_getElem_cons hkb] at he
   simp only[lexL] at he
   by_cases hz:z8 a.items[k] b.items[k]=0
   ·rw[if_pos hz] at he
    simp[h2,h3,h43,h44,b0,b1,hlt,hka,hkb,hc,hz,hw]
    exact⟨hlt,he⟩
   ·rw[if_neg hz] at he
    have hz':(z8 a.items[k] b.items[k] != 0)=true:=by simpa using hz
    simp[h2,h3,h43,h44,b0,b1,hlt,hka,hkb,hc,hz',he,f51]
  ·obtain rfl:k=m:=by omega
   rw[lexL_end z8 hma hmb hmm] at he
   simp[h2,h3,h43,h44,b0,b1,he,f51]
 rw[if_neg k4] at hcv
 by_cases k5:a.kind=5
 ·rw[if_pos k5] at hcv
  have kb:b.kind=5:=by omega
  obtain⟨m,hm,hma,hmb,hmm⟩:=min_nat a.fields.length b.fields.length
  rw[hcv]
  simp[k5,kb,hm]
  refine zy (fun k σ hp nx=>σ 2=.ref 0 0 0∧σ 3=.ref 1 0 0∧σ 77=int m∧σ 78=int k∧hp 0=some ⟨63,5,false,[a.enc]⟩∧hp 1=some ⟨63,5,false,[b.enc]⟩∧lexL wt a.fields b.fields=lexL wt (a.fields.drop k) (b.fields.drop k)) m
   ⟨by simp,by simp,by simp,by simp,by simp,by simp,by simp⟩ ?_
  rintro k σ hp nx hk ⟨h2,h3,h43,h44,b0,b1,he⟩
  by_cases hlt:k<m
  ·have hka:k<a.fields.length:=by omega
   have hkb:k<b.fields.length:=by omega
   have ma:=yn (List.getElem_mem hka)
   have mb:=yn (List.getElem_mem hkb)
   have hc:=fun hp nx=>vO n a.fields[k].2 b.fields[k].2 hp nx ⟨by unfold lim;omega,by omega,by unfold lim;omega⟩
   have hs:=cmpS_B a.fields[k].1 b.fields[k].1
   have hw:IntKind.i64.wrap ((k:Int)+1)=(k:Int)+1:=zh (by omega) (by omega)
   rw[List.drop_eq_getElem_cons hka,List.drop_eq_getElem_cons hkb] at he
   simp only[lexL] at he
   rw[cmpFld_eq] at he
   by_cases hn:cmpB a.fields[k].1 b.fields[k].1=0
   ·rw[if_pos hn] at he
    by_cases hz:z8 a.fields[k].2 b.fields[k].2=0
    ·rw[if_pos hz] at he
     simp[h2,h3,h43,h44,b0,b1,hlt,hka,hkb,hc,hs,hn,hz,hw]
     exact⟨hlt,he⟩
    ·rw[if_neg hz] at he
     have hz':(z8 a.fields[k].2 b.fields[k].2 != 0)=true:=by simpa using hz
     simp[h2,h3,h43,h44,b0,b1,hlt,hka,hkb,hc,hs,hn,hz',he,f51]
   ·rw[if_neg hn,if_neg hn] at he
    have hn':(cmpB a.fields[k].1 b.fields[k].1==0)=false:=by simpa using hn
    have hn2:(cmpB a.fields[k].1 b.fields[k].1 != 0)=true:=by simpa using hn
    simp[h2,h3,h43,h44,b0,b1,hlt,hka,hkb,hc,hs,hn',hn2,he,f51]
  ·obtain rfl:k=m:=by omega
   rw[lexL_end wt hma hmb hmm] at he
   simp[h2,h3,h43,h44,b0,b1,he,f51]
 rw[if_neg k5] at hcv
 have e1:(a.kind==1)=false:=by simpa using k1
 have e2:(a.kind==2)=false:=by simpa using k2
 have e3:(a.kind==3)=false:=by simpa using k3
 have e4:(a.kind==4)=false:=by simpa using k4
 have e5:(a.kind==5)=false:=by simpa using k5
 have e0:cmpI a.kind b.kind=0:=by rw[hk];simp
 simp[e0,e1,e2,e3,e4,e5,hcv,f51]
set_option maxRecDepth 100000 in
theorem rcompare_sound:∀n,za prog 51 (zf false [] (FCV n)):=by
 intro n
 induction n with
 | zero =>
   exact spec_none ⟨_,func51,by kernel_rfl,by kernel_rfl⟩ fun args r h=>by
    obtain⟨a,b,_,h2,_⟩:=FCV_inv h
    have:=xe a
    omega
 | succ n ih =>
   have hg:AM.Good (Crcm n) (fun g=>([]:List Nat).contains g):=zm mixed ⟨ih,by simp,yX,by simp,cmpS_sound,by simp,trivial⟩
   exact zO (fn:=f51) hg ⟨_,func51,by kernel_rfl,rfl,by kernel_rfl⟩ false [] _ fun args r h=>by
    obtain⟨a,b,rfl,h1,rfl⟩:=FCV_inv h
    exact⟨Nat.le_trans (Nat.le_refl 2) (by decide),_,rcompare_eval n a b h1,zM _⟩
def cutC (s:Int×Bool):Bool:=s.2||decide (200<s.1)
def stepC (s r:Int×Bool):Int×Bool:=if cutC s then s else (s.1+r.1,s.2||r.2)
mutual
def Cnd.rp:Cnd→Int→Int×Bool
 | .mk _ _ _ _ _ _ xs,l=>rpC xs l (1,decide (20<l))
def rpC:List Cnd→Int→Int×Bool→Int×Bool
 | [],_,s=>s
 | c::cs,l,s=>rpC cs l (stepC s (c.rp (l+1)))
end
theorem crp_eq (c:Cnd) (l:Int):c.rp l=rpC c.args l (1,decide (20<l)):=by cases c;rfl
theorem rpC_stop {l:Int} {s:Int×Bool} (h:cutC s=true):∀xs:List Cnd,rpC xs l s=s
 | []=>rfl
 | c::cs=>by
   have:stepC s (c.rp (l+1))=s:=if_pos h
   simp only[rpC]
   rw[this]
   exact rpC_stop h cs
theorem rpC_drop {xs:List Cnd} {l:Int} {s:Int×Bool} {k:Nat} (h:k<xs.length):rpC (xs.drop k) l s=rpC (xs.drop (k+1)) l (stepC s (xs[k].rp (l+1))):=by
 rw[List.drop_eq_getElem_cons h,rpC]
structure RPC (xs:List Cnd) (l:Int) (s r:Int×Bool):Prop where
 lo:s.1≤r.1
 hi:r.1≤s.1+partsC xs
 deep:r.2=true→s.2=true∨20<l+(levelsC xs:Int)
 all:cutC r=false→r.1=s.1+partsC xs∧(xs≠[]→l+(levelsC xs:Int)≤20)
theorem crp_spec (c:Cnd):∀l,0≤(c.rp l).1∧(c.rp l).1≤c.parts∧((c.rp l).2=true→20<l+(c.levels:Int) - 1)∧(cutC (c.rp l)=false→(c.rp l).1=c.parts∧l+(c.levels:Int) - 1≤20):=by
 induction c using Cnd.ind with
 | h k a o v p n ys ih =>
   intro l
   have key:∀(xs:List Cnd) (s:Int×Bool),0≤s.1→(∀x∈xs,x∈ys)→RPC xs l s (rpC xs l s):=by
    intro xs
    induction xs with
    | nil=>intro s _ _;exact⟨by simp[rpC],by simp[rpC,partsC],fun h=>.inl (by simpa[rpC] using h),fun _=>⟨by simp[rpC,partsC],fun h=>absurd rfl h⟩⟩
    | cons x xs ihx =>
      intro s h0 hm
      by_cases hc:cutC s=true
      ·rw[rpC_stop hc]
       exact⟨by omega,by omega,fun h=>.inl h,fun h=>by rw[hc] at h;cases h⟩
      ·have e:rpC (x::xs) l s=rpC xs l (s.1+(x.rp (l+1)).1,s.2||(x.rp (l+1)).2):=by
        simp only[rpC,stepC,hc];rfl
       rw[e]
       obtain⟨g1,g2,g3,g4⟩:=ih x (hm x (by simp)) (l+1)
       have hr:=ihx (s.1+(x.rp (l+1)).1,s.2||(x.rp (l+1)).2) (by simp only;omega) (fun y hy=>hm y (by simp[hy]))
       have hpi:partsC (x::xs)=x.parts+partsC xs:=by simp[partsC]
       have hlv:levelsC (x::xs)=max x.levels (levelsC xs):=by simp[levelsC]
       have hlo:=hr.lo
       have hhi:=hr.hi
       simp only at hlo hhi
       refine⟨by omega,by rw[hpi];omega,fun h=>?_,fun h=>?_⟩
       ·rw[hlv]
        rcases hr.deep h with h | h
        ·simp only[Bool.or_eq_true] at h
         rcases h with h | h
         ·exact .inl h
         ·right;have:=g3 h;omega
        ·right;omega
       ·obtain⟨a1,a2⟩:=hr.all h
        have hx:cutC (x.rp (l+1))=false:=by
         simp only[cutC,Bool.or_eq_false_iff,decide_eq_false_iff_not] at h hc ⊢
         refine⟨?_,by omega⟩
         cases hd:(x.rp (l+1)).2 with
         | false=>rfl
         | true =>
           exfalso
           have hst:cutC (s.1+(x.rp (l+1)).1,s.2||(x.rp (l+1)).2)=true:=by simp[cutC,hd]
           rw[rpC_stop hst] at h
           simp[hd] at h
        obtain⟨b1,b2⟩:=g4 hx
        simp only at a1
        refine⟨by rw[hpi];omega,fun _=>?_⟩
        rw[hlv]
        by_cases hn:xs=[]
        ·subst hn;simp only[levelsC];omega
        ·have:=a2 hn;omega
   have hk:=key ys (1,decide (20<l)) (by simp) fun x hx=>hx
   rw[crp_eq,cparts_eq,clevels_eq]
   simp only[Cnd.args]
   have k1:=hk.lo
   have k2:=hk.hi
   simp only at k1 k2
   refine⟨by omega,by omega,fun h=>?_,fun h=>?_⟩
   ·rcases hk.deep h with h | h
    ·simp at h;omega
    ·omega
   ·obtain⟨a1,a2⟩:=hk.all h
    simp only at a1
    refine⟨by omega,?_⟩
    by_cases hn:ys=[]
    ·rw[hn] at h ⊢
     simp[rpC,cutC] at h
     simp only[levelsC]
     omega
    ·have:=a2 hn;omega
theorem clarge_eq (c:Cnd):cutC (c.rp 1)=(decide ((200:Int)<c.parts)||decide ((20:Int)<c.levels)):=by
 obtain⟨h1,h2,h3,h4⟩:=crp_spec c 1
 rw[Bool.eq_iff_iff]
 constructor
 ·intro h
  simp only[cutC,Bool.or_eq_true,decide_eq_true_eq] at h ⊢
  rcases h with h | h
  ·right;have:=h3 h;omega
  ·left;omega
 ·intro h
  refine Decidable.byContradiction fun hn=>?_
  have hn:cutC (c.rp 1)=false:=by simpa using hn
  obtain⟨a1,a2⟩:=h4 hn
  simp only[cutC,Bool.or_eq_false_iff,decide_eq_false_iff_not] at hn
  simp only[Bool.or_eq_true,decide_eq_true_eq] at h
  omega
theorem cmpI_flip (a b:Int):cmpI a b<0↔0<cmpI b a:=by
 unfold cmpI
 by_cases h1:a<b
 ·rw[if_pos h1,if_neg (by omega),if_pos h1];omega
 ·by_cases h2:b<a
  ·rw[if_neg h1,if_pos h2,if_pos h2];omega
  ·rw[if_neg h1,if_neg h2,if_neg h2,if_neg h1]
theorem cmpB_flip (a b:List UInt8):cmpB a b<0↔0<cmpB b a:=by
 have h1:=cmpB_lt a b
 have h2:=cmpB_lt b a
 have h3:=ke a b
 have h4:=ke b a
 constructor
 ·intro h
  have hl:=h1.1 h
  have g1:¬cmpB b a<0:=fun hn=>by
   have:=less_trans hl (h2.1 hn)
   rw[less_irr] at this
   cases this
  have g2:¬cmpB b a=0:=fun e=>by
   have:=h4.1 e
   have:=h3.2 this.symm
   omega
  omega
 ·intro h
  refine Decidable.byContradiction fun hn=>?_
  have h5:¬a=b:=fun e=>by have:=h4.2 e.symm;omega
  have h6:leB a b=false:=by
   unfold leB
   rw[Bool.or_eq_false_iff]
   refine⟨?_,by simpa using h5⟩
   cases hx:Op.bytesLess a b with
   | false=>rfl
   | true=>exact absurd (h1.2 hx) hn
  have:=h2.2 (xf h6)
  omega
theorem lexL_flip {α:Type} {c:α→α→Int}:∀{a b:List α},(∀x∈a,∀y∈b,c x y<0↔0<c y x)→(∀x∈a,∀y∈b,c x y=0↔c y x=0)→(lexL c a b<0↔0<lexL c b a)∧(lexL c a b=0↔lexL c b a=0)
 | [],[],_,_=>by simp[lexL]
 | [],_::_,_,_=>by simp[lexL]
 | _::_,[],_,_=>by simp[lexL]
 | x::a,y::b,h1,h2=>by
   have ih:=lexL_flip (a:=a) (b:=b) (fun u hu v hv=>h1 u (by simp[hu]) v (by simp[hv])) (fun u hu v hv=>h2 u (by simp[hu]) v (by simp[hv]))
   have g1:=h1 x (by simp) y (by simp)
   have g2:=h2 x (by simp) y (by simp)
   simp only[lexL]
   by_cases e:c x y=0
   ·rw[if_pos e,if_pos (g2.1 e)];exact ih
   ·rw[if_neg e,if_neg fun e'=>e (g2.2 e')];exact⟨g1,g2⟩
theorem flip_zero {α:Type} {c:α→α→Int} {x y:α} (h1:c x y<0↔0<c y x) (h2:c y x<0↔0<c x y):c x y=0↔c y x=0:=by omega
theorem cmpVal_flip:∀(n:Nat) (a b:Val),a.vb+b.vb≤n→(z8 a b<0↔0<z8 b a)
 | 0,a,b,h=>by have:=xe a;omega
 | n+1,a,b,h=>by
   have ih:=cmpVal_flip n
   have va:=kM a
   have vb:=kM b
   rw[cmpVal_eq a b,cmpVal_eq b a]
   by_cases hk:a.kind=b.kind
   case neg =>
    rw[if_neg hk,if_neg fun e=>hk e.symm]
    exact cmpI_flip _ _
   rw[if_pos hk,if_pos hk.symm,←hk]
   split
   ·exact cmpI_flip _ _
   split
   ·exact cmpB_flip _ _
   split
   ·have hv:∀x∈a.items,∀y∈b.items,(z8 x y<0↔0<z8 y x)∧(z8 y x<0↔0<z8 x y):=fun x hx y hy=>by
     have:=q8 hx
     have:=q8 hy
     exact⟨ih x y (by omega),ih y x (by omega)⟩
    exact (lexL_flip (fun x hx y hy=>(hv x hx y hy).1) fun x hx y hy=>flip_zero (hv x hx y hy).1 (hv x hx y hy).2).1
   split
   ·have hv:∀x∈a.fields,∀y∈b.fields,(wt x y<0↔0<wt y x)∧(wt y x<0↔0<wt x y):=fun x hx y hy=>by
     have:=yn hx
     have:=yn hy
     have h1:=ih x.2 y.2 (by omega)
     have h2:=ih y.2 x.2 (by omega)
     have b1:=cmpB_flip x.1 y.1
     have b2:=cmpB_flip y.1 x.1
     have b3:=flip_zero b1 b2
     rw[cmpFld_eq,cmpFld_eq]
     by_cases e:cmpB x.1 y.1=0
     ·rw[if_pos e,if_pos (b3.1 e)];exact⟨h1,h2⟩
     ·rw[if_neg e,if_neg fun e'=>e (b3.2 e')];exact⟨b1,b2⟩
    exact (lexL_flip (fun x hx y hy=>(hv x hx y hy).1) fun x hx y hy=>flip_zero (hv x hx y hy).1 (hv x hx y hy).2).1
   ·simp
theorem cmpVal_turn (a b:Val):z8 b a≤0↔0≤z8 a b:=by
 have:=cmpVal_flip _ a b (Nat.le_refl _)
 omega
def formR (c:Cnd):Bool:=!((!(c.kind==4)&&(!c.attr.isEmpty||c.op != 0))||(c.kind != 5&&!c.name.isEmpty))&&!((!((c.kind==4)&&kN c.op)&&decide (0<c.vals.length))||(!((c.kind==4)&&js c.op)&&!c.pat.isEmpty)) &&
 (if c.kind=3 then (c.args.length:Int)==1 else if c.kind=4∨c.kind=5 then ((c.args.length:Int)==0&&(!yt c.op||(c.vals.length:Int)==1)) else true)
theorem form_same (c:Cnd) (h:inB c.kind 1 5=true):formR c=!jp c:=by
 have hk:c.kind=1∨c.kind=2∨c.kind=3∨c.kind=4∨c.kind=5:=by simp[inB] at h;omega
 have ha:(decide (0<c.args.length))=!((c.args.length:Int)==0):=by
  cases c.args with
  | nil=>rfl
  | cons x l=>simp;omega
 have hv1:((c.vals.length:Int) != 1)=!((c.vals.length:Int)==1):=rfl
 have ha1:((c.args.length:Int) != 1)=!((c.args.length:Int)==1):=rfl
 have ho1:(c.op != 0)=!(c.op==0):=rfl
 have hz:c.op=0→yt c.op=false:=fun e=>by rw[e];rfl
 unfold formR jp w1F w2F w3F w4F w5F w6F w7F
 rw[ha,hv1,ha1,ho1]
 generalize c.attr.isEmpty=x1
 generalize c.name.isEmpty=x3
 generalize decide (0<c.vals.length)=x4
 generalize c.pat.isEmpty=x5
 generalize kN c.op=x6
 generalize js c.op=x7
 generalize ((c.vals.length:Int)==1)=x9
 generalize ((c.args.length:Int)==0)=x10
 generalize ((c.args.length:Int)==1)=x11
 by_cases h0:c.op=0
 ·rw[hz h0,h0]
  rcases hk with k | k | k | k | k<;>rw[k]<;>cases x1<;>cases x3<;>cases x4<;>cases x5<;>cases x10<;>simp[inB]<;>cases x6<;>cases x7<;>rfl
 ·have h0':(c.op==0)=false:=by simpa using h0
  rw[h0']
  generalize yt c.op=x8
  rcases hk with k | k | k | k | k<;>rw[k]<;>cases x1<;>cases x3<;>cases x4<;>cases x5<;>cases x10<;>simp[inB]<;>cases x6<;>cases x7<;>cases x8<;>cases x9<;>rfl
def digI (n:Int):Bool:=decide (48≤n)&&decide (n≤57)
theorem digI_b (c:UInt8):digI c.toNat=digB c:=by
 rw[Bool.eq_iff_iff];simp[digI,digB,pr];omega
theorem xg:za prog 202 (zf false [] (F1b digI)) :=
 zO (fn:=f202) wT ⟨_,func202,by kernel_rfl,rfl,by kernel_rfl⟩ false [] _ fun args r h=>by
  obtain⟨a,rfl,rfl⟩:=F1b_inv h
  exact⟨by simp[f202],_,zb rfl (by simp[f202,digI]),zM _⟩
noncomputable abbrev Crd:Ctx:=zF prog [(202,zf false [] (F1b digI))]
theorem goodrd:AM.Good Crd (fun g=>[202].contains g):=zm mixed ⟨xg,fun _=>zg _ _,trivial⟩
theorem rAllDigits_eval (l:List UInt8) (hl:l.length≤lim):zj Crd f237 [str l]=some (boo (yP l)):=by
 refine zb rfl ?_
 unfold lim at hl
 simp
 refine zy (fun k σ hp nx=>σ 0=str l∧σ 5=int l.length∧σ 6=int k∧digs l=digs (l.drop k)) l.length ⟨by simp,by simp,by simp,by simp⟩ ?_
 rintro k σ hp nx hk ⟨h0,h5,h6,he⟩
 by_cases hlt:k<l.length
 ·have hw:IntKind.i64.wrap ((k:Int)+1)=(k:Int)+1:=zh (by omega) (by omega)
  rw[digs_drop hlt] at he
  have ho:=digI_b l[k]
  cases hc:digB l[k]
  ·have he:digs l=false:=by rw[he,hc];rfl
   rw[hc] at ho
   simp[h0,h5,h6,hlt,he,ho,yP,f237]
  ·rw[hc] at ho
   simp[h0,h5,h6,hlt,ho,hw]
   exact⟨hlt,by rw[he,hc];rfl⟩
 ·obtain rfl:k=l.length:=by omega
  have he:digs l=true:=by rw[he,List.drop_length];rfl
  simp[h0,h5,h6,he,yP,f237]
theorem rAllDigits_sound:za prog 237 (zf false [] (FS yP)) :=
 zO (fn:=f237) goodrd ⟨_,func237,by kernel_rfl,rfl,by kernel_rfl⟩ false [] _ fun args r h=>by
  obtain⟨l,rfl,hp,rfl⟩:=ze h
  exact⟨by simp[f237],_,rAllDigits_eval l hp,zM _⟩
def vx (l:List UInt8):Bool:=l.isEmpty||(l.headD 0==48&&!(l==[48]))
theorem whole_ref (l:List UInt8):(!vx l&&digs l)=qr l:=by
 cases l with
 | nil=>rfl
 | cons c l =>
   cases l with
   | nil =>
     by_cases h:c=48
     ·subst h;rfl
     ·simp[vx,qr,h]
   | cons d l=>simp[vx,qr]
theorem rnumber_eval (l:List UInt8) (hl:l.length≤lim):zj C0 f201 [str l]=some (boo (qr l)):=by
 refine zb rfl ?_
 unfold lim at hl
 rw[←whole_ref]
 cases hb:vx l
 case true =>
  cases l with
  | nil=>simp[vx,f201]
  | cons c l =>
    simp only[vx,List.isEmpty_cons,List.headD_cons,Bool.false_or,Bool.and_eq_true,beq_iff_eq,Bool.not_eq_true',beq_eq_false_iff_ne] at hb
    obtain⟨rfl,hb⟩:=hb
    have hb':l.isEmpty=false:=by cases l with
     | nil=>exact absurd rfl hb
     | cons d l=>rfl
    simp[hb',f201]
 case false =>
  have hne:l≠[]:=fun e=>by subst e;simp[vx] at hb
  have h0:0<l.length:=List.length_pos_iff.2 hne
  have hemp:(l==[])=false:=by simpa using hne
  have hh:((l[0].toNat:Int)==48&&!(l==[48]))=false:=by
   cases l with
   | nil=>exact absurd rfl hne
   | cons c l =>
     have e1:((c.toNat:Int)==48)=(c==48):=by rw[Bool.eq_iff_iff];simp[←UInt8.toNat_inj];omega
     simp only[List.getElem_cons_zero,e1]
     simpa[vx] using hb
  have hh':((l[0].toNat:Int)==48&&l != [48])=false:=hh
  simp[hemp,hne,h0,hh,hh']
  refine zy (fun k σ hp nx=>σ 0=str l∧σ 16=int l.length∧σ 17=int k∧digs l=digs (l.drop k)) l.length ⟨by simp,by simp,by simp,by simp⟩ ?_
  rintro k σ hp nx hk ⟨g0,h16,h17,he⟩
  by_cases hlt:k<l.length
  ·have hw:IntKind.i64.wrap ((k:Int)+1)=(k:Int)+1:=zh (by omega) (by omega)
   rw[digs_drop hlt] at he
   have ho:=pr_out 48 57 l[k]
   simp only[Int.cast_ofNat_Int] at ho
   cases hc:digB l[k]
   ·have he:digs l=false:=by rw[he,hc];rfl
    have hc':pr 48 57 l[k]=false:=hc
    simp[g0,h16,h17,hlt,he,ho,hc',f201]
   ·have hc':pr 48 57 l[k]=true:=hc
    simp[g0,h16,h17,hlt,ho,hc',hw]
    exact⟨hlt,by rw[he,hc];rfl⟩
  ·obtain rfl:k=l.length:=by omega
   have he:digs l=true:=by rw[he,List.drop_length];rfl
   simp[g0,h16,h17,he,f201]
theorem rnumber_sound:za prog 201 (zf false [] (FS qr)) :=
 zO (fn:=f201) wT ⟨_,func201,by kernel_rfl,rfl,by kernel_rfl⟩ false [] _ fun args r h=>by
  obtain⟨l,rfl,hp,rfl⟩:=ze h
  exact⟨by simp[f201],_,rnumber_eval l hp,zM _⟩
def letC (c:UInt8):Bool:=pr 97 122 c||pr 65 90 c||c==45
theorem pre_split (c:UInt8):preC c=(letC c||digB c):=by
 simp only[preC,letC,digB]
 cases pr 97 122 c<;>cases pr 65 90 c<;>cases pr 48 57 c<;>simp
theorem let_dig (c:UInt8) (h:letC c=true):digB c=false:=by
 cases hd:digB c with
 | false=>rfl
 | true =>
   simp only[letC,digB,pr,Bool.or_eq_true,Bool.and_eq_true,decide_eq_true_eq,beq_iff_eq] at h hd
   rcases h with (h | h) | rfl
   ·omega
   ·omega
   ·simp at hd
theorem badPre_eq (l:List UInt8) (h:l.all preC=true):(inB l.length 1 20&&(!(l.all fun c=>!letC c)||qr l))=!qg l:=by
 have e:(l.all fun c=>!letC c)=digs l:=by
  induction l with
  | nil=>rfl
  | cons c l ih =>
    simp only[List.all_cons,Bool.and_eq_true] at h
    have h1:=h.1
    rw[pre_split] at h1
    rw[List.all_cons,ih h.2]
    show _=(digB c&&digs l)
    cases hl:letC c
    ·rw[hl,Bool.false_or] at h1;rw[h1];rfl
    ·rw[let_dig c hl];rfl
 rw[e]
 unfold qg preB
 rw[h]
 cases l with
 | nil=>rfl
 | cons c l =>
   rw[Bool.eq_iff_iff]
   simp[inB]
   omega
theorem badPre_not (l:List UInt8) (h:l.all preC=false):qg l=true:=by
 unfold qg preB
 rw[h]
 simp
noncomputable abbrev Crip:Ctx:=zF prog [(202,zf false [] (F1b digI)),(113,zf false [] (F3 inB)),(201,zf false [] (FS qr))]
theorem goodrip:AM.Good Crip (fun g=>[202,113,201].contains g):=zm mixed ⟨xg,fun _=>zg _ _,wZ,fun _=>zg _ _,rnumber_sound,fun _=>zg _ _,trivial⟩
@[simp] theorem quietrip2:wo Crip 201:=qv (by rfl) (zg _ _)
theorem risPre_eval (l:List UInt8) (hl:l.length≤lim):zj Crip f163 [str l]=some (boo (!qg l)):=by
 refine zb rfl ?_
 have hnum:=fun hp nx=>wi qr l hp nx hl
 unfold lim at hl
 simp
 refine zy (fun k σ hp nx=>σ 0=str l∧σ 3=boo ((l.take k).all fun c=>!letC c)∧σ 8=int l.length∧σ 9=int k∧l.all preC=(l.drop k).all preC) l.length ⟨by simp,by simp,by simp,by simp,by simp⟩ ?_
 rintro k σ hp nx hk ⟨h0,h3,h8,h9,he⟩
 by_cases hlt:k<l.length
 ·have hw:IntKind.i64.wrap ((k:Int)+1)=(k:Int)+1:=zh (by omega) (by omega)
  rw[pres_drop hlt,pre_split] at he
  have ho:(decide ((97:Int)≤l[k].toNat)&&decide ((l[k].toNat:Int)≤122)||decide ((65:Int)≤l[k].toNat)&&decide ((l[k].toNat:Int)≤90)||((l[k].toNat:Int)==45))=letC l[k]:=by
   have e1:((l[k].toNat:Int)==45)=(l[k]==45):=by
    rw[Bool.eq_iff_iff];simp[←UInt8.toNat_inj];omega
   rw[e1,Bool.eq_iff_iff]
   simp[letC,pr,←UInt8.toNat_inj]
   omega
  have hd:=digI_b l[k]
  have ht:((l.take (k+1)).all fun c=>!letC c)=(((l.take k).all fun c=>!letC c)&&!letC l[k]):=by rw[List.take_succ_eq_append_getElem hlt,List.all_append];simp
  obtain⟨T,hT⟩:∃T,((l.take k).all fun c=>!letC c)=T:=⟨_,rfl⟩
  rw[hT] at h3 ht
  cases hc:letC l[k]
  ·cases hg:digB l[k]
   ·rw[hc,hg] at he
    have he:l.all preC=false:=he
    have hb:=badPre_not l he
    rw[hc] at ho;rw[hg] at hd
    simp[h0,h3,h8,h9,hlt,ho,hd,hb,-List.all_eq_true,-List.all_eq_false,f163]
   ·rw[hc,hg] at he
    rw[hc] at ho ht;rw[hg] at hd
    simp[h0,h3,h8,h9,hlt,ho,hd,hw,-List.all_eq_true,-List.all_eq_false]
    exact⟨hlt,by rw[ht];simp,he⟩
  ·rw[hc] at he ho ht
   simp[h0,h3,h8,h9,hlt,ho,hw,-List.all_eq_true,-List.all_eq_false]
   exact⟨hlt,by rw[ht];simp,he⟩
 ·obtain rfl:k=l.length:=by omega
  have he:l.all preC=true:=by rw[he,List.drop_length];rfl
  have hb:=badPre_eq l he
  rw[List.take_length] at h3
  obtain⟨T,hT⟩:∃T,(l.all fun c=>!letC c)=T:=⟨_,rfl⟩
  rw[hT] at h3 hb
  simp[h0,h3,h8,h9,hnum,hb,-List.all_eq_true,-List.all_eq_false,f163]
theorem risPre_sound:za prog 163 (zf false [] (FS fun l=>!qg l)) :=
 zO (fn:=f163) goodrip ⟨_,func163,by kernel_rfl,rfl,by kernel_rfl⟩ false [] _ fun args r h=>by
  obtain⟨l,rfl,hp,rfl⟩:=ze h
  exact⟨by simp[f163],_,risPre_eval l hp,zM _⟩
theorem risOpen_eval (l:List UInt8):zj C0 f120 [str l]=some (boo (qw l)):=by
 refine zb rfl ?_
 have e:qw l=(l==[42]||l==[120]||l==[88]):=by unfold qw;cases l==[42]<;>cases l==[120]<;>cases l==[88]<;>rfl
 rw[e]
 cases h1:(l==[42])
 ·cases h2:(l==[120])
  ·simp[h1,h2,f120]
  ·simp[h1,h2,f120]
 ·simp[h1,f120]
theorem risOpen_sound:za prog 120 (zf false [] (FS qw)) :=
 zO (fn:=f120) wT ⟨_,func120,by kernel_rfl,rfl,by kernel_rfl⟩ false [] _ fun args r h=>by
  obtain⟨l,rfl,hp,rfl⟩:=ze h
  exact⟨by simp[f120],_,risOpen_eval l,zM _⟩
noncomputable def FNm:List PV→Option PV:=zH (α:=List UInt8) (fun l=>[str l,int 6]) (fun l=>l.length≤lim) xO
theorem FNm_call (l:List UInt8) (hp:Hp) (nx:Nat) (h:l.length≤lim):zf false [] FNm [str l,int 6] hp nx=some (.tup [int ((vnum l).getD 0),boo (vnum l).isSome],hp,nx) :=
 zK rfl (zn (enc:=fun l:List UInt8=>[str l,int 6]) (a:=l) (fun a b e=>by simp only[List.cons.injEq,and_true] at e;exact qt e) h) (.inl rfl)
noncomputable abbrev Crnm:Ctx:=zF prog [(201,zf false [] (FS qr)),(182,zf false [] FAt)]
theorem goodrnm:AM.Good Crnm (fun g=>[201].contains g):=zm mixed ⟨rnumber_sound,fun _=>zg _ _,atoi_sound,by simp,trivial⟩
theorem rNumber_eval (l:List UInt8) (hl:l.length≤lim):zj Crnm f162 [str l,int 6]=some (xO l):=by
 refine zb rfl ?_
 have hw:=fun hp nx=>wi qr l hp nx hl
 cases h1:qr l
 ·simp[hw,h1,xO,vnum,qi,f162]
 ·by_cases h2:l.length≤6
  ·have h3:¬((6:Int)<l.length):=by omega
   have ha:=fun hp nx=>atoi_call l hp nx (by omega) h1
   simp[hw,h1,h2,h3,ha,xO,vnum,qi,f162]
  ·have h3:(6:Int)<l.length:=by omega
   have h2':6<l.length:=by omega
   simp[hw,h1,h2,h2',h3,xO,vnum,qi,f162]
theorem rNumber_sound:za prog 162 (zf false [] FNm) :=
 zO (fn:=f162) goodrnm ⟨_,func162,by kernel_rfl,rfl,by kernel_rfl⟩ false [] _ fun args r h=>by
  obtain⟨l,rfl,hp,rfl⟩:=ze h
  exact⟨by simp[f162],_,rNumber_eval l hp,zM _⟩
noncomputable abbrev Crcp:Ctx:=zF prog [(237,zf false [] (FS yP)),(156,zf false [] (FTT tlP fun _ b=>one7 b)),(60,zf false [] (F2I cmpI)),(76,zf false [] (F2S cmpS)),(95,zf false [] FOr)]
theorem goodrcp:AM.Good Crcp (fun g=>([]:List Nat).contains g):=zm mixed ⟨rAllDigits_sound,by simp,jK,by simp,yX,by simp,cmpS_sound,by simp,or_sound,by simp,trivial⟩
theorem rcomparePre_eval (a b:List UInt8) (ha:a.length≤lim) (hb:b.length≤lim):zj Crcp f224 [str a,str b]=some (int (zT a b)):=by
 refine zb rfl ?_
 have da:=fun hp nx=>wi yP a hp nx ha
 have db:=fun hp nx=>wi yP b hp nx hb
 have ta:=fun hp nx=>tl_call a hp nx ha
 have tb:=fun hp nx=>tl_call b hp nx hb
 have eS:=cmpS_B
 cases h1:yP a<;>cases h2:yP b
 ·simp[da,db,h1,h2,zT,eS,f224]
 ·simp[da,db,h1,h2,zT,f224]
 ·simp[da,db,h1,h2,zT,f224]
 ·have ho:∀(hp:Hp) (nx id:Nat),hp id=some ⟨3,1,true,[[int (cmpI (Lib.trimLeftB a 48).length (Lib.trimLeftB b 48).length)],[int (cmpB (Lib.trimLeftB a 48) (Lib.trimLeftB b 48))]]⟩→zf false [] FOr [.own id 0 2] hp nx=some (int (orL [cmpI (Lib.trimLeftB a 48).length (Lib.trimLeftB b 48).length,cmpB (Lib.trimLeftB a 48) (Lib.trimLeftB b 48)]),hp,nx):=fun hp nx id hh=>or_call [_,_] hp nx id _ (by show 2≤lim;decide) hh
  simp[da,db,ta,tb,h1,h2,ho,eS,zd,zl,zc,zT,f224]
theorem rcomparePre_sound:za prog 224 (zf false [] (FTT (fun a b=>int (zT a b)) fun _ _=>True)) :=
 zO (fn:=f224) goodrcp ⟨_,func224,by kernel_rfl,rfl,by kernel_rfl⟩ false [] _ fun args r h=>by
  obtain⟨a,b,rfl,h1,h2,_,rfl⟩:=wL h
  exact⟨by simp[f224],_,rcomparePre_eval a b h1 h2,zM _⟩
end Go.Proofs.YtpeaooooimfihaaGreatDoor
