/-
The reference's versions: comparing versions and cuts, what a range covers, reading.
-/
import Derived.Test.YtjcofiomfmebkaaGreatDoorG17
import Derived.Test.YtjcofiomfmebkaaGreatDoorG9
import Derived.Shelf.SlSortCmp.InsertionK
import Derived.Sort.AssemblyPlain
import Derived.Test.YtjcofiomfmebkaaGreatDoorG16
import Derived.Test.YtjcofiomfmebkaaGreatDoorG10
import Derived.Shelf.SlSortCmp.WholeK
import Derived.Shelf.SlSortCmp.NoneTotal
import Derived.Test.YtjcofiomfmebkaaGreatDoorProg
set_option maxRecDepth 8000
namespace Go.Proofs.YtjcofiomfmebkaaGreatDoor
open Go.Proofs.Tryz
open Go.RowKit Go.AM
noncomputable abbrev zv3:Ctx:=zC prog [(134,zd false [] (F2I qI)),(171,zd false [] FOr),(272,zd false [] (FTT (fun a b=>int (qa a b)) fun _ _=>True))]
theorem zrd:AM.Good zv3 (fun g=>[134,171,272].contains g):=zk mixed ⟨kq,fun _=>zi _ _,Wl,fun _=>zi _ _,Yu,fun _=>zi _ _,trivial⟩
set_option maxHeartbeats 1000000 in
theorem ZA (v w:Ver) (hv:v.small) (hw:w.small):zg zv3 f248 [.agg v.enc,.agg w.enc]=some (int (vU v w)):=by
 obtain⟨a,b,c,p⟩:=v
 obtain⟨a',b',c',p'⟩:=w
 obtain⟨hp1,hp2⟩:=hv
 obtain⟨hq1,hq2⟩:=hw
 simp only at hp1 hp2 hq1 hq2
 refine zb rfl ?_
 obtain⟨o,ho⟩:∃o,orL [qI a a',qI b b',qI c c']=o:=⟨_,rfl⟩
 have hor:∀(hp:Hp) (nx id:Nat),hp id=some ⟨3,1,true,[[int (qI a a')],[int (qI b b')],[int (qI c c')]]⟩→zd false [] FOr [.own id 0 3] hp nx=some (int o,hp,nx):=fun hp nx id hh=>ho ▸ KI [_,_,_] hp nx id _ (by show 3≤lim;decide) hh
 have hval:vU ⟨a,b,c,p⟩ ⟨a',b',c',p'⟩=if o=0 then (if p.length=0 then (if p'.length=0 then 0 else 1) else if p'.length=0 then -1 else wo qa p p') else o:=by rw[←ho];rfl
 by_cases h1:o=0
 case neg =>
  have h1':(o != 0)=true:=by simpa using h1
  simp[Ver.enc,hor,zh,zo,zf,h1,h1',hval,f248]
 subst h1
 have hel:(zD p).length=p.length:=by simp[zD]
 have hel':(zD p').length=p'.length:=by simp[zD]
 by_cases h2:p.length=0
 ·have hc:qI p'.length 0=if p'.length=0 then 0 else 1:=by unfold qI;split<;>(try split)<;>(try split)<;>first | omega | rfl
  simp[Ver.enc,hor,zh,zo,zf,h2,hval,hel,hel',hc,f248]
 by_cases h3:p'.length=0
 ·have h2':((p.length:Int)==0)=false:=by simpa using h2
  have hc:qI 0 p.length=-1:=by unfold qI;rw[if_pos (by omega)]
  simp[Ver.enc,hor,zh,zo,zf,h2,h2',h3,hval,hel,hel',hc,f248]
 have h2':((p.length:Int)==0)=false:=by simpa using h2
 have h3':((p'.length:Int)==0)=false:=by simpa using h3
 obtain⟨m,hm,hma,hmb,hmab⟩:=zfE p.length p'.length
 unfold lim at hp1 hq1
 have hval:vU ⟨a,b,c,p⟩ ⟨a',b',c',p'⟩=wo qa p p':=by rw[hval];simp[h2,h3]
 rw[hval]
 simp[Ver.enc,hor,zh,zo,zf,h2',h3',hel,hel',hm]
 refine zu (fun k σ hp nx=>σ 2=.ref 0 0 0∧σ 3=.ref 1 0 0∧hp 0=some ⟨115,4,false,[[int a,int b,int c,.sl 1 (zD p)]]⟩∧hp 1=some ⟨115,4,false,[[int a',int b',int c',.sl 1 (zD p')]]⟩∧σ 51=int m∧σ 52=int k∧wo qa p p'=wo qa (p.drop k) (p'.drop k)) m
  ⟨by simp,by simp,by simp,by simp,by simp,by simp,by simp⟩ ?_
 rintro k σ hp nx hk ⟨g2,g3,b0,b1,g51,g52,he⟩
 by_cases hlt:k<m
 ·have hlp:k<p.length:=by omega
  have hlq:k<p'.length:=by omega
  have hwk:IntKind.i64.wrap ((k:Int)+1)=(k:Int)+1:=zc (by omega) (by omega)
  have hc:=fun hp nx=>zdj p[k] p'[k] hp nx (hp2 _ (List.getElem_mem hlp)) (hq2 _ (List.getElem_mem hlq))
  have hg:=ZW hlp
  have hg':=ZW hlq
  rw[List.drop_eq_getElem_cons hlp,List.drop_eq_getElem_cons hlq] at he
  simp only[wo] at he
  by_cases hz:qa p[k] p'[k]=0
  ·rw[if_pos hz] at he
   simp[g2,g3,g51,g52,b0,b1,hlt,hlp,hlq,hel,hel',hg,hg',hc,hz,hwk]
   exact⟨by omega,he⟩
  ·rw[if_neg hz] at he
   have hz':(qa p[k] p'[k] != 0)=true:=by simpa using hz
   simp[g2,g3,g51,g52,b0,b1,hlt,hlp,hlq,hel,hel',hg,hg',hc,hz',he,f248]
 ·obtain rfl:k=m:=by omega
  rw[zbj qa hma hmb hmab] at he
  simp[g2,g3,g51,g52,b0,b1,hel,hel',he,f248]
theorem xW:za prog 248 (zG [.g jP,.g jP] (ztk fun v w=>int (vU v w))) :=
 zZ (fn:=f248) zrd ⟨_,func248,by kernel_rfl,rfl,by kernel_rfl⟩ _ _ fun args r h=>by
  obtain⟨⟨v,w⟩,rfl,⟨h1,h2⟩,rfl⟩:=ze h
  exact⟨by simp[f248],_,ZA v w h1 h2,Stands.refl _⟩
noncomputable abbrev zv4:Ctx:=zC prog [(248,zG [.g jP,.g jP] (ztk fun v w=>int (vU v w)))]
theorem zre:AM.Good zv4 (fun g=>([]:List Nat).contains g):=zk mixed ⟨xW,by simp,trivial⟩
theorem Yv (x y:Cut) (hx:x.v.small) (hy:y.v.small):zg zv4 f216 [.agg x.enc,.agg y.enc]=some (int (qx x y)):=by
 obtain⟨⟨a,b,c,p⟩,f⟩:=x
 obtain⟨⟨a',b',c',p'⟩,f'⟩:=y
 refine zb rfl ?_
 have hcv:=fun hp nx=>zfx ⟨a,b,c,p⟩ ⟨a',b',c',p'⟩ hp nx hx hy
 simp only[Ver.enc] at hcv
 by_cases h1:vU ⟨a,b,c,p⟩ ⟨a',b',c',p'⟩=0
 ·cases f<;>cases f'<;>simp[Cut.enc,hcv,h1,qx,f216]
 ·have h1':(vU ⟨a,b,c,p⟩ ⟨a',b',c',p'⟩==0)=false:=by simpa using h1
  simp[Cut.enc,hcv,h1,h1',qx,f216]
theorem yd:za prog 216 (zG [.g y8,.g y8] (FCC fun v w=>int (qx v w))) :=
 zZ (fn:=f216) zre ⟨_,func216,by kernel_rfl,rfl,by kernel_rfl⟩ _ _ fun args r h=>by
  obtain⟨⟨v,w⟩,rfl,⟨h1,h2⟩,rfl⟩:=ze h
  exact⟨by simp[f216],_,Yv v w h1 h2,Stands.refl _⟩
theorem zlC {l:List Str} {c:Cut} {k:Nat} (h:k<l.length):wG (l.drop k) c=(vk l[k] c||wG (l.drop (k+1)) c):=by
 rw[List.drop_eq_getElem_cons h];rfl
noncomputable abbrev zv5:Ctx:=zC prog [(216,zG [.g y8,.g y8] (FCC fun v w=>int (qx v w)))]
theorem zrf:AM.Good zv5 (fun g=>[216].contains g):=zk mixed ⟨yd,fun _=>qv _ _,trivial⟩
theorem zdu (l:List Str) (c:Cut) (hl:qK l) (hc:c.v.small):zg zv5 f164 [.sl 11 (zN l),.agg c.enc]=some (boo (wG l c)):=by
 obtain⟨hl1,hl2⟩:=hl
 refine zb rfl ?_
 unfold lim at hl1
 have hel:(zN l).length=l.length:=by simp[zN]
 simp[hel,Cut.enc]
 refine zu (fun k σ hp nx=>σ 3=.ref 0 0 0∧1≤nx∧hp 0=some ⟨162,5,false,[c.enc]⟩∧σ 7=.sl 11 (zN l)∧σ 8=int l.length∧σ 9=int k∧wG l c=wG (l.drop k) c) l.length
  ⟨by simp,by simp,by simp[Cut.enc],by simp,by simp,by simp,by simp⟩ ?_
 rintro k σ hp nx hk ⟨h3,hnx,b0,h7,h8,h9,he⟩
 by_cases hlt:k<l.length
 ·have hw:IntKind.i64.wrap ((k:Int)+1)=(k:Int)+1:=zc (by omega) (by omega)
  obtain⟨s,hs⟩:∃s,l[k]=s:=⟨_,rfl⟩
  have hss:s.small:=hl2 s (by rw[←hs];exact List.getElem_mem hlt)
  have hke:∀h:k<(zN l).length,(zN l)[k]=s.enc:=fun h=>by simp[zN,hs]
  have h1:=fun hp nx=>jD s.lo c hp nx hss.1 hc
  have h2:=fun hp nx=>jD c s.hi hp nx hc hss.2
  have n0:¬0=nx:=by omega
  have n1:¬nx=0:=by omega
  rw[zlC hlt,hs] at he
  have hcb:vk s c=(decide (qx s.lo c≤0)&&(s.endless||decide (qx c s.hi<0))):=rfl
  simp only[Str.enc,Cut.enc,List.cons_append,List.nil_append] at h1 h2 hke b0
  cases hb:vk s c
  ·rw[hb,Bool.false_or] at he
   rw[hb] at hcb
   by_cases ha:qx s.lo c≤0
   ·rw[decide_eq_true ha,Bool.true_and] at hcb
    have hcb':=hcb.symm
    rw[Bool.or_eq_false_iff] at hcb'
    simp[h3,h7,h8,h9,hlt,hel,hke,h1,h2,b0,n0,n1,ha,hcb'.1,hcb'.2,hw,-decide_eq_false_iff_not]
    exact⟨by omega,rfl,he⟩
   ·simp[h3,h7,h8,h9,hlt,hel,hke,h1,h2,b0,n0,n1,ha,hw]
    exact⟨by omega,rfl,he⟩
  ·rw[hb,Bool.true_or] at he
   rw[hb] at hcb
   have hcb':=hcb.symm
   simp only[Bool.and_eq_true,decide_eq_true_eq] at hcb'
   have hcc:=hcb'.2
   cases hen:s.endless
   ·rw[hen,Bool.false_or,decide_eq_true_eq] at hcc
    simp[h3,h7,h8,h9,hlt,hel,hke,h1,h2,b0,n0,n1,hcb'.1,hen,hcc,he,f164]
   ·simp[h3,h7,h8,h9,hlt,hel,hke,h1,h2,b0,n0,n1,hcb'.1,hen,he,f164]
 ·obtain rfl:k=l.length:=by omega
  have he:wG l c=false:=by rw[he,List.drop_length];rfl
  simp[h3,h7,h8,h9,he,f164]
theorem Wu:za prog 164 (zG [.s 11 y9,.g y8] (FRC fun l c=>boo (wG l c))) :=
 zZ (fn:=f164) zrf ⟨_,func164,by kernel_rfl,rfl,by kernel_rfl⟩ _ _ fun args r h=>by
  obtain⟨⟨l,c⟩,rfl,⟨h1,h2⟩,rfl⟩:=ze h
  exact⟨by simp[f164],_,zdu l c h1 h2,Stands.refl _⟩
def xX (w:Int) (a b:Bool):Bool:=if w=0 then a||b else if w=1 then a&&b else a&&!b
def FTk:List PV→Option PV
 | [.v (.int .i64 w),.v (.bool a),.v (.bool b)]=>some (boo (xX w a b))
 | _=>none
@[simp] theorem Wv (w:Int) (a b:Bool) (hp:Hp) (nx:Nat):zd false [] FTk [.v (.int .i64 w),.v (.bool a),.v (.bool b)] hp nx=some (boo (xX w a b),hp,nx):=zH rfl rfl (.inl rfl)
theorem zfG:za prog 214 (zd false [] FTk) :=
 zL (fn:=f214) yl ⟨_,func214,by kernel_rfl,rfl,by kernel_rfl⟩ false [] _ fun args r h=>by
  have:∃w a b,args=[int w,boo a,boo b]∧r=boo (xX w a b):=by
   unfold FTk at h
   split at h
   ·injection h with h;exact⟨_,_,_,rfl,h.symm⟩
   ·cases h
  obtain⟨w,a,b,rfl,rfl⟩:=this
  refine⟨by simp[f214],_,zb rfl ?_,zK _⟩
  by_cases h0:w=0
  ·subst h0
   simp[xX,f214]
  ·have h0':(w==0)=false:=by simpa using h0
   by_cases h1:w=1
   ·subst h1
    simp[xX,f214]
   ·have h1':(w==1)=false:=by simpa using h1
    simp[h0,h0',h1,h1',xX,f214]
end Go.Proofs.YtjcofiomfmebkaaGreatDoor
namespace Go.AM
open Go.RowKit Go.Sort Go.Proofs
variable {dr:Prop}
def JD (xs:List (List PV)) (i:Nat):List PV:=xs.getD (if i<xs.length then i else 0) []
theorem wR {xs:List (List PV)} (h:xs≠[]) (i:Nat):JD xs i∈xs:=by
 have h0:0<xs.length:=List.length_pos_iff.2 h
 have hl:(if i<xs.length then i else 0)<xs.length:=by split<;>assumption
 unfold JD
 rw[List.getD_eq_getElem?_getD,List.getElem?_eq_getElem hl]
 exact List.getElem_mem _
theorem zoI {xs:List (List PV)} {i:Nat} (h:i<xs.length):JD xs i=xs[i]:=by
 unfold JD
 rw[if_pos h,List.getD_eq_getElem?_getD,List.getElem?_eq_getElem h]
 rfl
def zlD (cf:List PV→List PV→Int) (xs:List (List PV)) (i j:Nat):Int:=cf (JD xs i) (JD xs j)
def jS (cf:List PV→List PV→Int) (xs:List (List PV)):Array Nat:=pdq (ltOf (zlD cf xs)) (Array.range xs.length) 0 xs.length (Lib.bitLen xs.length) true true
def ZB (cf:List PV→List PV→Int) (xs:List (List PV)):List (List PV):=if xs.length=0 then [] else (jS cf xs).toList.map (JD xs)
structure WeakOn (cf:List PV→List PV→Int) (xs:List (List PV)):Prop where
 irrefl:∀x∈xs,0≤cf x x
 trans:∀x∈xs,∀y∈xs,∀z∈xs,cf x y<0→cf y z<0→cf x z<0
 ntrans:∀x∈xs,∀y∈xs,∀z∈xs,0≤cf x y→0≤cf y z→0≤cf x z
section
variable {cf:List PV→List PV→Int} {xs:List (List PV)}
theorem zlE {i j:Nat} (h:ltOf (zlD cf xs) i j=true):cf (JD xs i) (JD xs j)<0:=of_decide_eq_true h
theorem zbn {i j:Nat} (h:ltOf (zlD cf xs) i j=false):0≤cf (JD xs i) (JD xs j):=Int.not_lt.1 (of_decide_eq_false h)
theorem zoJ {i j:Nat} (h:cf (JD xs i) (JD xs j)<0):ltOf (zlD cf xs) i j=true:=decide_eq_true h
theorem zlF {i j:Nat} (h:0≤cf (JD xs i) (JD xs j)):ltOf (zlD cf xs) i j=false:=decide_eq_false (Int.not_lt.2 h)
theorem WeakOn.swo (h:WeakOn cf xs) (hx:xs≠[]):SWO (ltOf (zlD cf xs)) where
 irrefl i:=zlF (h.irrefl _ (wR hx i))
 trans i j k h1 h2:=zoJ (h.trans _ (wR hx i) _ (wR hx j) _ (wR hx k) (zlE h1) (zlE h2))
 ntrans i j k h1 h2:=zlF (h.ntrans _ (wR hx i) _ (wR hx j) _ (wR hx k) (zbn h1) (zbn h2))
theorem ZC (h:WeakOn cf xs) (hx:xs≠[]):PermIn 0 xs.length (Array.range xs.length) (jS cf xs)∧SortedIn (ltOf (zlD cf xs)) 0 xs.length (jS cf xs) :=
 pdq_sorts (ltOf (zlD cf xs)) (h.swo hx) (Array.range xs.length) 0 xs.length (Lib.bitLen xs.length) true true (Nat.zero_le _) (by simp) (Or.inl rfl)
theorem ZD (h:WeakOn cf xs) (hx:xs≠[]):(jS cf xs).size=xs.length:=by
 have:=(ZC h hx).1.1
 simpa using this
theorem Yw (h:WeakOn cf xs):(ZB cf xs).Perm xs:=by
 unfold ZB
 split
 ·rename_i h0
  have:xs=[]:=List.length_eq_zero_iff.1 h0
  subst this
  exact .refl _
 ·rename_i h0
  have hx:xs≠[]:=by rintro rfl;simp at h0
  obtain⟨h1,_,h3⟩:=(ZC h hx).1
  have hs:=ZD h hx
  have e1:(jS cf xs).extract 0 xs.length=jS cf xs:=by rw[←hs];simp
  have e2:(Array.range xs.length).extract 0 xs.length=Array.range xs.length:=by
   conv=>lhs;rw[show xs.length=(Array.range xs.length).size by simp]
   simp
  rw[e1,e2] at h3
  have h4:=h3.map (JD xs)
  have e3:(Array.range xs.length).toList.map (JD xs)=xs:=by
   apply List.ext_getElem
   ·simp
   ·intro i hi hi'
    simp[zoI hi']
  rw[e3] at h4
  exact h4
theorem zdv (h:WeakOn cf xs):(ZB cf xs).Pairwise (fun x y=>0≤cf y x):=by
 unfold ZB
 split
 ·exact List.Pairwise.nil
 ·rename_i h0
  have hx:xs≠[]:=by rintro rfl;simp at h0
  have hs:=ZD h hx
  have h2:=(ZC h hx).2
  rw[List.pairwise_map,List.pairwise_iff_getElem]
  intro i j hi hj hij
  have h3:=h2 i j (Nat.zero_le _) hij (by simp at hj;omega)
  simp at hi hj
  rw[getElem!_pos _ i hi,getElem!_pos _ j hj] at h3
  simpa using zbn h3
theorem zdw (h:WeakOn cf xs):(ZB cf xs).length=xs.length:=(Yw h).length_eq
end
def zqa (P:Program) (f k:Nat):Prop :=
 (∀(α:Type) [Inhabited α] (enc:α→List Value) (_:∀x,(enc x).length=k) (_:∀x,∀v∈enc x,v.oneCell'=true) (cf:α→α→Int) (_:SWO (ltOf cf)) (g:Nat) (blk off cap:Nat) (d:Array α) (w:World)
  (_:∀args w,(callFunc g args).run P w=.ok (.enter g args) w) (_:CmpLays P g #[] enc k cf blk off d.size w) (_:HoldsK enc k w blk off d) (_:blk<w.heap.size) (_:d.size<4611686018427387904),
  Calls P f #[.slice (some ⟨blk,off,none⟩) d.size cap,.func (.func g) #[] #[]] w fun e w' =>
   e=.returned (.tuple #[])∧∃n os,w'=sortWorldK enc k w blk off n (pdq (ltOf cf) d 0 d.size (Lib.bitLen d.size) true true) os) ∧
 ∀(p:Option Addr) (cap:Nat) (fv:Value) (w:World),Calls P f #[.slice p 0 cap,fv] w fun e w'=>e=.returned (.tuple #[])∧w'=w
def ztw (P:Program) (g k:Nat) (cf:List PV→List PV→Int) (dom:List PV→Prop):Prop :=
 (∀args w,(callFunc g args).run P w=.ok (.enter g args) w)∧∃spec,za P g spec∧∀x y,x.length=k→y.length=k→dom x→dom y→spec [.agg x,.agg y] (fun _=>none) 0=some (.v (.int .i64 (cf x y)),fun _=>none,0)
open Classical in
noncomputable def zfH (k:Nat) (g:Nat) (cf:List PV→List PV→Int) (dom:List PV→Prop):AM.Spec:=fun args hp nx =>
 match args with
 | [.nil,.fn _ _ _]=>some (.tup [],hp,nx)
 | [.own id off n,.fn (.func g') [] []]=>if n=0 then some (.tup [],hp,nx) else match hp id with
   | some b=>if g'=g∧b.arr=true∧b.s=k∧off+n≤b.es.length∧n<4611686018427387904∧WeakOn cf ((b.es.drop off).take n)∧∀x∈(b.es.drop off).take n,dom x then
     some (.tup [],upd hp id (some ⟨b.e,b.s,b.arr,b.es.take off++ZB cf ((b.es.drop off).take n)++b.es.drop (off+n)⟩),nx) else none
   | none=>none
 | _=>none
theorem zi8 {W w':World} (h:Fr True W (fun _=>False) w'):∃q os',w'=grow (W.drewN q) os':=by
 refine⟨w'.drawn - W.drawn,w'.heap.extract W.heap.size w'.heap.size,?_⟩
 obtain⟨heap,tape,drawn,os,output⟩:=w'
 obtain⟨h1,h2,h3,h4,h5,h6⟩:=h
 simp only at h1 h2 h3 h4 h5 h6
 unfold grow World.drewN
 simp only[World.mk.injEq]
 refine⟨?_,h2,by have:=h5 trivial;omega,h1,h3⟩
 apply Array.ext_getElem?
 intro i
 by_cases hi:i<W.heap.size
 ·rw[h6 i hi (fun h=>h),Array.getElem?_append_left hi]
 ·rw[Array.getElem?_append_right (by omega),Array.getElem?_extract]
  by_cases hj:i<heap.size
  ·rw[if_pos (by omega)];congr 1;omega
  ·rw[if_neg (by omega),Array.getElem?_eq_none (by omega)]
theorem Stp.grown {P:Program} {hp:Hp} {nx:Nat} {S:Nat→Prop} {G:Nat→GI} {w w':World} (h:Inv P w S G hp nx) (fr:Fr dr w (fun _=>False) w'):Stp dr P hp nx S G w hp nx S G w':=by
 have hS:∀b,b<w.heap.size→w'.heap[b]?=w.heap[b]?:=fun b hb=>fr.block b hb (fun h=>h)
 refine⟨⟨fun b hb=>Nat.lt_of_lt_of_le (h.st b hb) fr.size,h.top,fun id b hb=>?_,h.apart,h.inj,h.glo.mono fun b hb=>⟨hb,hS b (h.st b hb)⟩⟩,Nat.le_refl _,fun _ _=>rfl,fun _ hb=>hb,fun _ hb=>.inl hb,fun id b hb=>.inl ⟨id,b,hb,rfl⟩,⟨fr.os,fr.tape,fr.output,fr.size,fr.drawn,fun k hk _=>fr.block k hk (fun h=>h)⟩⟩
 have hl:=h.live id b hb
 exact hl.mono (fun b hb=>⟨hb,hS b (h.st b hb)⟩) (Nat.le_refl _) (fun _ _=>rfl) (hS _ hl.lt)
theorem ZE {α:Type} [Inhabited α] (enc:α→List Value) (k:Nat) (w:World) (blk off m:Nat) (d:Array α) (os:Array Obj):Fr dr (putRowK enc k w blk off d) (fun _=>False) (sortWorldK enc k w blk off m d os):=by
 refine⟨rfl,rfl,rfl,?_,fun _=>?_,fun b hb _=>?_⟩
 ·show _≤(_++os).size
  rw[Array.size_append]
  exact Nat.le_add_right _ _
 ·exact Nat.le_add_right _ _
 ·exact Array.getElem?_append_left hb
theorem kf {α:Type} [Inhabited α] (enc:α→List Value) (k:Nat) (w:World) (blk off:Nat) (d:Array α) {cur:Array Value} {e:TypeId} (h:w.heap[blk]?=some (.cells cur e (0,0))) :
  putRowK enc k w blk off d=w.setRow blk (putCells (fun v:Value=>v) off (flatK enc k d) cur):=by
 unfold putRowK putRow mapBlock World.setRow
 congr 1
 apply Array.ext_getElem?
 intro i
 simp only[Array.getElem?_modify]
 by_cases hi:blk=i
 ·subst hi
  simp only[if_true,h,Option.map_some,onCells]
  rfl
 ·simp[hi]
section
variable {P:Program} {f k g:Nat} {cf:List PV→List PV→Int} {dom:List PV→Prop}
theorem zfI (h0:0<k) (hfn:∃fn,P.funcs[f]?=some fn∧(fn.name== "runtime.NumGoroutine")=false∧fn.body.isNone=false) (hso:zqa P f k) (hco:ztw P g k cf dom):jt dr P f (zfH k g cf dom):=by
 refine⟨hfn,?_⟩
 intro args hp nx r hp' nx' h w S G vs hi hz
 unfold zfH at h
 split at h
 ·injection h with h
  injection h with e1 h
  injection h with e2 e3
  subst e1;subst e2;subst e3
  obtain⟨u,us,rfl,hu,hz'⟩:=hz.uncons
  obtain⟨v,us,rfl,hv,hz'⟩:=hz'.uncons
  obtain rfl:=hz'.unnil
  obtain rfl:=hu.nil_inv
  refine (hso.2 none 0 v w).mono fun e w' hh=>?_
  obtain⟨rfl,rfl⟩:=hh
  exact⟨_,_,_,rfl,.refl hi,qW⟩
 ·rename_i id off n g'
  obtain⟨u,us,rfl,hu,hz'⟩:=hz.uncons
  obtain⟨v,us,rfl,hv,hz'⟩:=hz'.uncons
  obtain rfl:=hz'.unnil
  have hop:=hu.own_pos
  obtain⟨cap,g1,g2,g3,g4,rfl⟩:=hu.own_inv
  split at h
  ·rename_i hn0
   subst hn0
   injection h with h
   injection h with e1 h
   injection h with e2 e3
   subst e1;subst e2;subst e3
   refine (hso.2 _ cap v w).mono fun e w' hh=>?_
   obtain⟨rfl,rfl⟩:=hh
   exact⟨_,_,_,rfl,.refl hi,qW⟩
  rename_i hn0
  split at h
  case h_2=>cases h
  rename_i b hb
  split at h
  case isFalse=>cases h
  rename_i hc
  obtain⟨rfl,harr,hbk,hfit,hn,hW,hdom⟩:=hc
  injection h with h
  injection h with e1 h
  injection h with e2 e3
  subst e1;subst e2;subst e3
  have hbr:=hi.live id b hb
  obtain⟨us,ts,rfl,hus,hts,_,_⟩:=hv.fn_inv
  obtain rfl:us=#[]:=Array.eq_empty_of_size_eq_zero (by simpa using hus.symm)
  obtain rfl:ts=#[]:=Array.eq_empty_of_size_eq_zero (by simpa using hts.symm)
  have hgs:(G id).s=k:=by rw[←hbr.bs];exact hbk
  obtain⟨cur,c1,c2,c3⟩:=hbr.row hop
  rw[hgs] at c3 g4
  obtain⟨xs,hxs⟩:∃xs,(b.es.drop off).take n=xs:=⟨_,rfl⟩
  rw[hxs] at hW hdom
  have hxl:xs.length=n:=by rw[←hxs];simp;omega
  have hx:xs≠[]:=by rintro rfl;simp at hxl;omega
  have hxk:∀x∈xs,x.length=k:=fun x hx=>by
   rw[←hgs];rw[←hxs] at hx
   exact hbr.len hop x (List.mem_of_mem_drop (List.mem_of_mem_take hx))
  have hxg:∀i,i<n→xs[i]?=b.es[off+i]?:=fun i hi=>by
   rw[←hxs,List.getElem?_take,if_pos hi,List.getElem?_drop]
  let ix:Nat→Nat:=fun i=>if i<n then i else 0
  have hix:∀i,ix i<n:=fun i=>by show (if i<n then i else 0)<n;split<;>omega
  have hel:∀i,xs[ix i]?=some (JD xs i):=fun i=>by
   unfold JD
   rw[List.getD_eq_getElem?_getD]
   show xs[if i<n then i else 0]?=_
   have:(if i<n then i else 0)<xs.length:=by rw[hxl];exact hix i
   rw[hxl,List.getElem?_eq_getElem this]
   rfl
  let enc:Nat→List Value:=fun i=>(List.range k).map fun j=>(cur[(off+ix i)*k+j]?).getD undef
  have hek:∀x,(enc x).length=k:=fun x=>by simp[enc]
  have hcell:∀i j pv,(JD xs i)[j]?=some pv→∃u,cur[(off+ix i)*k+j]?=some u∧(enc i)[j]?=some u∧RepC w S pv u∧u.oneCell'=true:=fun i j pv hj=>by
   have hlj:j<k:=by
    have:=(List.getElem?_eq_some_iff.1 hj).1
    rw[hxk _ (wR hx i)] at this
    exact this
   obtain⟨u,q1,q2⟩:=c3 (off+ix i) j (JD xs i) pv (by rw[←hxg _ (hix i)];exact hel i) hj
   rw[harr] at q2
   refine⟨u,q1,?_,q2.1 rfl,q2.2.2⟩
   simp[enc,hlj,q1]
  have hcell':∀i j,j<k→∃pv,(JD xs i)[j]?=some pv:=fun i j hj=>by
   have:j<(JD xs i).length:=by rw[hxk _ (wR hx i)];exact hj
   exact⟨_,List.getElem?_eq_getElem this⟩
  have h1c:∀x,∀v∈enc x,v.oneCell'=true:=fun x v hv=>by
   obtain⟨j,hj,rfl⟩:=List.mem_map.1 hv
   obtain⟨pv,hpv⟩:=hcell' x j (List.mem_range.1 hj)
   obtain⟨u,q1,_,_,q4⟩:=hcell x j pv hpv
   rw[q1]
   exact q4
  have hblk:(G id).g<w.heap.size:=hbr.lt
  have hother:∀m os (dk:Array Nat) b',S b'→(sortWorldK enc k w (G id).g (off*k) m dk os).heap[b']?=w.heap[b']?:=fun m os dk b' hb'=>by
   have hlt:b'<(putRowK enc k w (G id).g (off*k) dk).heap.size:=by
    rw[kf enc k w _ _ dk c1,size_setRow]
    exact hi.st b' hb'
   rw[(ZE (dr:=True) enc k w (G id).g (off*k) m dk os).block b' hlt (fun h=>h),kf enc k w _ _ dk c1]
   exact setRow_other _ _ _ _ fun e=>hi.apart id b hb (e ▸ hb')
  have hsize:∀m os (dk:Array Nat),w.heap.size≤(sortWorldK enc k w (G id).g (off*k) m dk os).heap.size:=fun m os dk=>by
   have:=(ZE (dr:=True) enc k w (G id).g (off*k) m dk os).size
   rw[kf enc k w _ _ dk c1,size_setRow] at this
   exact this
  obtain⟨eg,spec,hsp,hcall⟩:=hco
  have hcmp:CmpLays P g' #[] enc k (zlD cf xs) (G id).g (off*k) n w:=by
   intro m os dk hdk x y
   have hagg:∀x,RepC (sortWorldK enc k w (G id).g (off*k) m dk os) S (.agg (JD xs x)) (.agg (enc x).toArray):=fun x=>by
    refine .agg (by simp[hek,hxk _ (wR hx x)]) fun j pv u hj hu=>?_
    obtain⟨u',_,q2,q3,_⟩:=hcell x j pv hj
    have:u=u':=by simpa[q2] using hu.symm
    subst this
    exact q3.mono fun b' hb'=>⟨hb',hother m os dk b' hb'⟩
   have:=hsp.2 _ _ _ _ _ _ (hcall _ _ (hxk _ (wR hx x)) (hxk _ (wR hx y)) (hdom _ (wR hx x)) (hdom _ (wR hx y))) (sortWorldK enc k w (G id).g (off*k) m dk os) S G [.agg (enc x).toArray,.agg (enc y).toArray]
    ⟨fun b' hb'=>Nat.lt_of_lt_of_le (hi.st b' hb') (hsize m os dk),fun _ _ h=>(nomatch h),fun _ _ h=>(nomatch h),fun _ _ h=>(nomatch h),fun _ _ _ _ h=>(nomatch h),hi.glo.mono fun b' hb'=>⟨hb',hother m os dk b' hb'⟩⟩ (.cons (.c (hagg x)) (.cons (.c (hagg y)) .nil))
   refine this.mono fun e w' hh=>?_
   obtain⟨v,S',G',rfl,st,hv⟩:=hh
   obtain⟨rfl,_⟩:=hv.v_inv
   refine⟨rfl,zi8 ⟨st.fr.os,st.fr.tape,st.fr.output,st.fr.size,st.fr.drawn,fun k hk _=>st.fr.block k hk ?_⟩⟩
   rintro⟨_,_,h,_⟩
   cases h
  have hH:HoldsK enc k w (G id).g (off*k) (Array.range n):=by
   intro t ht
   have ht':t<n*k:=by simpa using ht
   have hd:=Nat.div_add_mod t k
   have hm:=Nat.mod_lt t h0
   have hdl:t / k<n:=(Nat.div_lt_iff_lt_mul h0).2 ht'
   rw[get_flatK _ _ _ _ (by simpa using ht')]
   have hr:(Array.range n)[t / k]! = t / k:=by rw[getElem!_pos _ _ (by simpa using hdl)];simp
   obtain⟨pv,hpv⟩:=hcell' (t / k) (t % k) hm
   obtain⟨u,q1,q2,_,_⟩:=hcell (t / k) (t % k) pv hpv
   have hixe:ix (t / k)=t / k:=if_pos hdl
   constructor
   ·rw[cell_of_row w _ _ cur _ _ c1,hr,List.getElem!_eq_getElem?_getD,q2]
    rw[hixe] at q1
    have:off*k+t=(off+t / k)*k+t % k:=by rw[Nat.add_mul,Nat.mul_comm (t / k) k];omega
    rw[this,q1]
    rfl
   ·simp[World.frozen?,c1]
  have hsw:=hW.swo hx
  have key:=hso.1 Nat enc hek h1c (zlD cf xs) hsw g' (G id).g (off*k) cap (Array.range n) w eg (by simpa using hcmp) hH hblk (by simpa using hn)
  have es1:(Array.range n).size=n:=by simp
  rw[es1] at key
  rw[hgs]
  refine key.mono fun e w' hh=>?_
  obtain⟨rfl,m,os,rfl⟩:=hh
  have hidx:pdq (ltOf (zlD cf xs)) (Array.range n) 0 n (Lib.bitLen n) true true=jS cf xs:=by unfold jS;rw[hxl]
  rw[hidx]
  have hds:(jS cf xs).size=n:=by rw[ZD hW hx,hxl]
  have hsl:(ZB cf xs).length=n:=by rw[zdw hW,hxl]
  have hpl:off+(ZB cf xs).length≤b.es.length:=by rw[hsl];exact hfit
  have hsg:∀i,i<n→(ZB cf xs)[i]?=some (JD xs (jS cf xs)[i]!):=fun i hin=>by
   unfold ZB
   rw[if_neg (by omega),List.getElem?_map,Array.getElem?_toList,getElem!_pos _ i (by omega),Array.getElem?_eq_getElem (by omega)]
   rfl
  refine⟨_,S,G,rfl,?_,qW⟩
  rw[hxs]
  have hst:=Stp.set (dr:=dr) hi hb hop (putCells (fun v:Value=>v) (off*k) (flatK enc k (jS cf xs)) cur) (b.es.take off++ZB cf xs++b.es.drop (off+n)) (by simp[putCells,c2])
   (fun c hc=>by
    rw[List.append_assoc] at hc
    rcases List.mem_append.1 hc with hc | hc
    ·exact hbr.len hop c (List.mem_of_mem_take hc)
    rcases List.mem_append.1 hc with hc | hc
    ·rw[hgs];exact hxk c ((Yw hW).mem_iff.1 hc)
    ·exact hbr.len hop c (List.mem_of_mem_drop hc))
   (by
    have:=j7 b.es (ZB cf xs) off hpl
    rw[hsl] at this
    rw[this]
    exact hbr.fit hop)
   (fun i j c pv hci hcj=>by
    have hspl:=wZ b.es (ZB cf xs) off i hpl
    rw[hsl] at hspl
    rw[hspl] at hci
    rw[hgs]
    split at hci
    ·rename_i hin
     rw[hsg _ (by omega)] at hci
     injection hci with hci
     subst hci
     have hlj:j<k:=by
      have:=(List.getElem?_eq_some_iff.1 hcj).1
      rw[hxk _ (wR hx _)] at this
      exact this
     obtain⟨u,q1,q2,q3,q4⟩:=hcell _ j pv hcj
     refine⟨u,?_,fun _=>q3,.c q3,q4⟩
     obtain⟨i',rfl⟩:∃i',i=off+i':=⟨i - off,by omega⟩
     have e1:off+i' - off=i':=by omega
     rw[e1] at q2
     have e2:(off+i')*k+j=off*k+(i'*k+j):=by rw[Nat.add_mul];omega
     have hlt:i'*k+j<n*k:=yh (by omega) hlj
     have hcl:off*k+(i'*k+j)<cur.size:=by
      rw[c2]
      have:=hbr.fit hop
      rw[hgs] at this
      have h5:(off+n)*k≤b.es.length*k:=Nat.mul_le_mul_right k hfit
      rw[Nat.add_mul] at h5
      omega
     rw[e2]
     unfold putCells
     rw[Array.getElem?_mapIdx,Array.getElem?_eq_getElem hcl]
     simp only[Option.map_some,size_flatK,hds]
     rw[if_pos ⟨by omega,by omega⟩,show off*k+(i'*k+j) - off*k=i'*k+j by omega,get_flatK _ _ _ _ (by rw[hds];exact hlt)]
     have e3:(i'*k+j) / k=i':=by rw[Nat.mul_comm,Nat.mul_add_div h0,Nat.div_eq_of_lt hlj];rfl
     have e4:(i'*k+j) % k=j:=by rw[Nat.mul_comm,Nat.mul_add_mod,Nat.mod_eq_of_lt hlj]
     rw[e3,e4,List.getElem!_eq_getElem?_getD,q2]
     rfl
    ·rename_i hin
     obtain⟨u,q1,q2⟩:=c3 i j c pv hci hcj
     refine⟨u,?_,q2⟩
     have hlj:j<k:=by
      have:=(List.getElem?_eq_some_iff.1 hcj).1
      rw[hbr.len hop c (List.mem_of_getElem? hci),hgs] at this
      exact this
     unfold putCells
     rw[Array.getElem?_mapIdx,q1]
     simp only[Option.map_some,size_flatK,hds]
     rw[if_neg]
     rintro⟨a1,a2⟩
     apply hin
     constructor
     ·apply Nat.not_lt.1
      intro hlt
      have:(i+1)*k≤off*k:=Nat.mul_le_mul_right k hlt
      rw[Nat.add_mul] at this
      omega
     ·apply Nat.not_le.1
      intro hle
      have:(off+n)*k≤i*k:=Nat.mul_le_mul_right k hle
      rw[Nat.add_mul] at this
      omega)
  rw[←kf enc k w _ _ _ c1] at hst
  exact hst.trans (Stp.grown hst.inv (ZE enc k w (G id).g (off*k) m (jS cf xs) os))
 ·cases h
end
end Go.AM
namespace Go.Proofs.YtjcofiomfmebkaaGreatDoor
open Go.Proofs.Tryz
open Go.RowKit Go.AM
open Classical in
noncomputable def cfC (x y:List PV):Int:=if h:∃a b:Cut,x=a.enc∧y=b.enc then qx (Classical.choose h) (Classical.choose (Classical.choose_spec h)) else 0
theorem xB (a b:Cut):cfC a.enc b.enc=qx a b:=by
 have h:∃c d:Cut,a.enc=c.enc∧b.enc=d.enc:=⟨a,b,rfl,rfl⟩
 unfold cfC
 rw[dif_pos h]
 have h2:=Classical.choose_spec (Classical.choose_spec h)
 exact congr (congrArg qx (jg h2.1).symm) (jg h2.2).symm
def qb (l:List Cut):List (List PV):=l.map Cut.enc
theorem zrg (l:List Cut):WeakOn cfC (qb l) where
 irrefl x hx:=by
  obtain⟨a,_,rfl⟩:=List.mem_map.1 hx
  rw[xB,cmpC_to.refl]
  exact Int.le_refl _
 trans x hx y hy z hz:=by
  obtain⟨a,_,rfl⟩:=List.mem_map.1 hx
  obtain⟨b,_,rfl⟩:=List.mem_map.1 hy
  obtain⟨c,_,rfl⟩:=List.mem_map.1 hz
  rw[xB,xB,xB]
  exact cmpC_to.trans
 ntrans x hx y hy z hz:=by
  obtain⟨a,_,rfl⟩:=List.mem_map.1 hx
  obtain⟨b,_,rfl⟩:=List.mem_map.1 hy
  obtain⟨c,_,rfl⟩:=List.mem_map.1 hz
  rw[xB,xB,xB]
  exact cmpC_to.ntrans
def zuI (x:List PV):Prop:=∃a:Cut,x=a.enc∧a.v.small
theorem ztx:ztw prog 199 5 cfC zuI:=by
 refine⟨fun args w=>?_,_,yt,fun x y _ _ hx hy=>?_⟩
 ·have h:prog.funcs[199]?=some f199:=func199
  simp[callFunc,h,f199]
 ·obtain⟨a,rfl,ha⟩:=hx
  obtain⟨b,rfl,hb⟩:=hy
  rw[xB]
  exact jD a b _ _ ha hb
open Classical in
noncomputable def zrh (x:List PV):Cut:=if h:∃a:Cut,x=a.enc then Classical.choose h else leastC
theorem zoK (a:Cut):zrh a.enc=a:=by
 have h:∃c:Cut,a.enc=c.enc:=⟨a,rfl⟩
 unfold zrh
 rw[dif_pos h]
 exact (jg (Classical.choose_spec h)).symm
theorem Ww (l:List Cut):(qb l).map zrh=l:=by
 induction l with
 | nil=>rfl
 | cons a l ih =>
   show zrh a.enc::(qb l).map zrh=_
   rw[zoK,ih]
theorem QH (l:List Cut):∃s:List Cut,ZB cfC (qb l)=qb s∧s.Perm l∧s.Pairwise fun a b=>qx a b≤0:=by
 have hp:=Yw (zrg l)
 have hs:=zdv (zrg l)
 have key:∀(r:List (List PV)),(∀x∈r,∃a:Cut,x=a.enc)→∃s:List Cut,r=qb s:=by
  intro r
  induction r with
  | nil=>intro _;exact⟨[],rfl⟩
  | cons x r ih =>
    intro h
    obtain⟨a,rfl⟩:=h x (by simp)
    obtain⟨s,rfl⟩:=ih fun y hy=>h y (by simp[hy])
    exact⟨a::s,rfl⟩
 obtain⟨s,e⟩:=key (ZB cfC (qb l)) fun x hx=>by
  have:=hp.mem_iff.1 hx
  obtain⟨a,_,rfl⟩:=List.mem_map.1 this
  exact⟨a,rfl⟩
 rw[e] at hp hs
 refine⟨s,e,?_,?_⟩
 ·have:=hp.map zrh
  rwa [Ww,Ww] at this
 ·rw[qb,List.pairwise_map] at hs
  refine hs.imp fun {a b} h=>?_
  rw[xB] at h
  exact (cmpC_to.le a b).2 h
def kI (out:List Str) (c:Cut):List Str:=match out.getLast? with
 | some s=>out.dropLast++[⟨s.lo,c,false⟩]
 | none=>out
def swS (is:Cut→Bool) (st:Bool×List Str) (c:Cut):Bool×List Str:=(is c,if (is c&&!st.1)=true then st.2++[qz c] else if (!is c&&st.1)=true then kI st.2 c else st.2)
theorem zlG (is:Cut→Bool) (st:Bool×List Str) (c:Cut):swS is (swS is st c) c=swS is st c:=by
 unfold swS
 cases is c<;>simp
def swL (is:Cut→Bool) (l:List Cut) (st:Bool×List Str):Bool×List Str:=l.foldl (swS is) st
open Classical in
noncomputable def zbo:List Cut→List Cut
 | []=>[]
 | a::l=>match zbo l with
   | []=>[a]
   | b::r=>if a=b then b::r else a::b::r
theorem zbp (is:Cut→Bool):∀(l:List Cut) (st:Bool×List Str),swL is l st=swL is (zbo l) st
 | [],st=>rfl
 | a::l,st=>by
   have ih:=zbp is l (swS is st a)
   show swL is l (swS is st a)=_
   rw[ih]
   simp only[zbo]
   split
   ·rename_i e;rw[e];rfl
   ·rename_i b r e
    rw[e]
    split
    ·rename_i h
     subst h
     show swL is r (swS is (swS is st a) a)=swL is r (swS is st a)
     rw[zlG]
    ·rfl
theorem KX:∀(l:List Cut) (c:Cut),c∈zbo l↔c∈l
 | [],c=>by simp[zbo]
 | a::l,c=>by
   have ih:=KX l c
   simp only[zbo]
   split
   ·rename_i e
    rw[e] at ih
    simp only[List.mem_cons,List.not_mem_nil,or_false]
    rw[←ih]
    simp
   ·rename_i b r e
    rw[e] at ih
    split
    ·rename_i h
     subst h
     rw[List.mem_cons (b:=a) (l:=l),←ih]
     simp
    ·rw[List.mem_cons,List.mem_cons (b:=a) (l:=l),ih]
theorem Jd:∀(l:List Cut) (_:∀a∈l,∀b∈l,qx a b=0→a=b),(l.Pairwise fun a b=>qx a b≤0)→(zbo l).Pairwise fun a b=>qx a b<0
 | [],_,_=>.nil
 | a::l,he,hs=>by
   obtain⟨h1,h2⟩:=List.pairwise_cons.1 hs
   have ih:=Jd l (fun x hx y hy=>he x (by simp[hx]) y (by simp[hy])) h2
   simp only[zbo]
   split
   ·simp
   ·rename_i b r e
    rw[e] at ih
    split
    ·exact ih
    ·rename_i hab
     refine List.pairwise_cons.2 ⟨fun c hc=>?_,ih⟩
     have hb:b∈l:=(KX l b).1 (by rw[e];simp)
     have hlt:qx a b<0:=by
      rcases Int.lt_or_eq_of_le (h1 b hb) with h | h
      ·exact h
      ·exact absurd (he a (by simp) b (by simp[hb]) h) hab
     rcases List.mem_cons.1 hc with rfl | hc
     ·exact hlt
     ·exact cmpC_to.trans hlt ((List.pairwise_cons.1 ih).1 c hc)
theorem zdx:∀(x y:List Cut),(x.Pairwise fun a b=>qx a b<0)→(y.Pairwise fun a b=>qx a b<0)→(∀c,c∈x↔c∈y)→x=y
 | [],[],_,_,_=>rfl
 | [],b::y,_,_,h=>absurd ((h b).2 (by simp)) (by simp)
 | a::x,[],_,_,h=>absurd ((h a).1 (by simp)) (by simp)
 | a::x,b::y,hx,hy,h=>by
   obtain⟨x1,x2⟩:=List.pairwise_cons.1 hx
   obtain⟨y1,y2⟩:=List.pairwise_cons.1 hy
   have irr:∀c:Cut,¬qx c c<0:=fun c=>by rw[cmpC_to.refl];omega
   have hab:a=b:=by
    rcases List.mem_cons.1 ((h a).1 (by simp)) with e | ha
    ·exact e
    ·rcases List.mem_cons.1 ((h b).2 (by simp)) with e | hb
     ·exact e.symm
     ·exact absurd (cmpC_to.trans (x1 b hb) (y1 a ha)) (irr a)
   subst hab
   rw[zdx x y x2 y2 fun c=>?_]
   constructor
   ·intro hc
    rcases List.mem_cons.1 ((h c).1 (by simp[hc])) with e | hc'
    ·subst e;exact absurd (x1 c hc) (irr c)
    ·exact hc'
   ·intro hc
    rcases List.mem_cons.1 ((h c).2 (by simp[hc])) with e | hc'
    ·subst e;exact absurd (y1 c hc) (irr c)
    ·exact hc'
def zV:List Str→List Cut
 | []=>[]
 | s::l=>(if s.endless=true then [s.lo] else [s.lo,s.hi])++zV l
theorem kg (a b:List Str):zV (a++b)=zV a++zV b:=by
 induction a with
 | nil=>rfl
 | cons s a ih=>simp only[List.cons_append,zV,ih,List.append_assoc]
theorem jw (a:List Str):(zV a).length≤2*a.length:=by
 induction a with
 | nil=>simp[zV]
 | cons s a ih=>simp only[zV,List.length_append,List.length_cons];split<;>simp<;>omega
theorem vX {Q:Cut→Prop} {a:List Str} (h:∀s∈a,Q s.lo∧Q s.hi):∀c∈zV a,Q c:=by
 induction a with
 | nil=>intro c hc;cases hc
 | cons s a ih =>
   intro c hc
   obtain⟨h1,h2⟩:=h s (by simp)
   simp only[zV,List.mem_append] at hc
   rcases hc with hc | hc
   ·split at hc
    ·rw[List.mem_singleton] at hc;rw[hc];exact h1
    ·simp only[List.mem_cons,List.not_mem_nil,or_false] at hc
     rcases hc with rfl | rfl
     ·exact h1
     ·exact h2
   ·exact ih (fun x hx=>h x (by simp[hx])) c hc
noncomputable def vn (l:List Cut):List Cut:=(ZB cfC (qb l)).map zrh
theorem zi9 (l:List Cut):ZB cfC (qb l)=qb (vn l):=by
 obtain⟨s,h,_⟩:=QH l
 unfold vn
 rw[h,Ww]
theorem yR (l:List Cut):(vn l).Perm l:=by
 obtain⟨s,h,h1,_⟩:=QH l
 unfold vn
 rw[h,Ww]
 exact h1
theorem zbq (l:List Cut):(vn l).Pairwise fun a b=>qx a b≤0:=by
 obtain⟨s,h,_,h1⟩:=QH l
 unfold vn
 rw[h,Ww]
 exact h1
noncomputable def yS (f:Bool→Bool→Bool) (a b:List Str):List Str:=(swL (fun c=>f (wG a c) (wG b c)) (vn (zV a++zV b)) (false,[])).2
theorem zfJ (out:List Str) (c:Cut):(kI out c).length=out.length:=by
 unfold kI
 split
 ·rename_i s h
  have:out≠[]:=by rintro rfl;cases h
  have:=List.length_pos_iff.2 this
  simp
  omega
 ·rfl
theorem zlH (is:Cut→Bool):∀(l:List Cut) (st:Bool×List Str),2*(swL is l st).2.length+(if st.1=true then 1 else 0)≤2*st.2.length+l.length+(if (swL is l st).1=true then 1 else 0)
 | [],st=>by
   show 2*st.2.length+(if st.1=true then 1 else 0)≤2*st.2.length+0+(if st.1=true then 1 else 0)
   omega
 | c::l,st=>by
   have ih:=zlH is l (swS is st c)
   have e:swL is (c::l) st=swL is l (swS is st c):=rfl
   rw[e]
   have hs:2*(swS is st c).2.length+(if st.1=true then 1 else 0)≤2*st.2.length+1+(if (swS is st c).1=true then 1 else 0):=by
    obtain⟨o,out⟩:=st
    unfold swS
    cases is c<;>cases o<;>simp[zfJ]<;>omega
   simp only[List.length_cons]
   omega
theorem vY (f:Bool→Bool→Bool) (a b:List Str):(yS f a b).length≤a.length+b.length:=by
 have h:=zlH (fun c=>f (wG a c) (wG b c)) (vn (zV a++zV b)) (false,[])
 have h1:=(yR (zV a++zV b)).length_eq
 have h2:=jw a
 have h3:=jw b
 rw[List.length_append] at h1
 unfold yS
 simp only[Bool.false_eq_true,if_false,List.length_nil] at h
 split at h<;>omega
theorem zfK {Q:Cut→Prop} {out:List Str} {c:Cut} (h:∀s∈out,Q s.lo∧Q s.hi) (hc:Q c):∀s∈kI out c,Q s.lo∧Q s.hi:=by
 unfold kI
 split
 ·rename_i s hs
  intro x hx
  rcases List.mem_append.1 hx with hx | hx
  ·exact h x (List.dropLast_subset _ hx)
  ·rw[List.mem_singleton] at hx
   rw[hx]
   exact⟨(h s (List.mem_of_getLast? hs)).1,hc⟩
 ·exact h
theorem zlI {Q:Cut→Prop} (h0:Q cut0) (is:Cut→Bool):∀(l:List Cut) (st:Bool×List Str),(∀c∈l,Q c)→(∀s∈st.2,Q s.lo∧Q s.hi)→∀s∈(swL is l st).2,Q s.lo∧Q s.hi
 | [],st,_,h=>h
 | c::l,st,hl,h=>by
   refine zlI h0 is l (swS is st c) (fun x hx=>hl x (by simp[hx])) ?_
   have hc:=hl c (by simp)
   unfold swS
   dsimp only
   split
   ·intro s hs
    rcases List.mem_append.1 hs with hs | hs
    ·exact h s hs
    ·rw[List.mem_singleton] at hs
     rw[hs]
     exact⟨hc,h0⟩
   ·split
    ·exact zfK h hc
    ·exact h
theorem zdy {Q:Cut→Prop} (h0:Q cut0) (f:Bool→Bool→Bool) {a b:List Str} (ha:∀s∈a,Q s.lo∧Q s.hi) (hb:∀s∈b,Q s.lo∧Q s.hi):∀s∈yS f a b,Q s.lo∧Q s.hi :=
 zlI h0 _ _ _ (fun c hc=>by
  have:=(yR _).mem_iff.1 hc
  rcases List.mem_append.1 this with h | h
  ·exact vX ha c h
  ·exact vX hb c h) (fun s hs=>by cases hs)
end Go.Proofs.YtjcofiomfmebkaaGreatDoor
namespace Go.AM
open Go.RowKit
variable {dr:Prop}
def zja (p:List (Option Nat)) (b:Blk):Blk:=⟨b.e,b.s,b.arr,b.es.map (Yc p)⟩
theorem BlkRep.fixed {P:Program} {w:World} {S:Nat→Prop} {G:Nat→GI} {nx:Nat} {gi:GI} {b:Blk} (h:BlkRep P w S G nx gi b) (h0:0<gi.s) (ha:b.arr=true) (p:List (Option Nat)):BlkRep P w S G nx gi (zja p b):=by
 refine BlkRep.ofCells h0 h.bs ⟨h.size h0,fun c hc=>?_,by simpa[zja] using h.fit h0,?_⟩
 ·obtain⟨c',hc',rfl⟩:=List.mem_map.1 hc
  rw[yk]
  exact h.len h0 c' hc'
 ·obtain⟨cur,h1,h2,h3⟩:=h.row h0
  refine⟨cur,h1,h2,fun i j c pv hi hj=>?_⟩
  simp only[zja,List.getElem?_map] at hi
  obtain⟨c',hc',rfl⟩:∃c',b.es[i]?=some c'∧Yc p c'=c:=by
   cases hh:b.es[i]? with
   | none=>rw[hh] at hi;cases hi
   | some c'=>rw[hh] at hi;injection hi with hi;exact⟨c',rfl,hi⟩
  have hjl:j<c'.length:=by
   have:=(List.getElem?_eq_some_iff.1 hj).1
   rwa [yk] at this
  obtain⟨u,h4,h5,_,h6⟩:=h3 i j c' c'[j] hc' (List.getElem?_eq_getElem hjl)
  have hr:=(yW p c').get (List.getElem?_eq_getElem hjl) hj _ _ _ (h5 ha)
  exact⟨u,h4,fun _=>hr,.c hr,h6⟩
theorem Stp.fixed {P:Program} {hp:Hp} {nx:Nat} {S:Nat→Prop} {G:Nat→GI} {w:World} {hp2:Hp} {nx2:Nat} {S2:Nat→Prop} {G2:Nat→GI} {w2:World} (k:Stp dr P hp nx S G w hp2 nx2 S2 G2 w2)
  {id:Nat} {b:Blk} (hb:hp2 id=some b) (ha:b.arr=true) (h0:0<(G2 id).s) (p:List (Option Nat)):Stp dr P hp nx S G w (upd hp2 id (some (zja p b))) nx2 S2 G2 w2:=by
 have hex:∀k c,upd hp2 id (some (zja p b)) k=some c→∃c0,hp2 k=some c0:=fun k c hk=>by
  by_cases e:k=id
  ·subst e;exact⟨b,hb⟩
  ·rw[zT _ _ _ _ e] at hk;exact⟨c,hk⟩
 refine⟨⟨k.inv.st,fun i c hc=>?_,fun i c hc=>?_,fun i c hc=>?_,fun i i' c c' hc hc' he=>?_,k.inv.glo⟩,k.up,k.loc,k.keep,k.from_,fun i c hc=>?_,k.fr⟩
 ·obtain⟨c0,h⟩:=hex i c hc;exact k.inv.top i c0 h
 ·by_cases e:i=id
  ·subst e
   rw[qd] at hc
   injection hc with hc
   subst hc
   exact (k.inv.live i b hb).fixed h0 ha p
  ·rw[zT _ _ _ _ e] at hc
   exact k.inv.live i c hc
 ·obtain⟨c0,h⟩:=hex i c hc;exact k.inv.apart i c0 h
 ·obtain⟨c0,h⟩:=hex i c hc
  obtain⟨c1,h'⟩:=hex i' c' hc'
  exact k.inv.inj i i' c0 c1 h h' he
 ·obtain⟨c0,h⟩:=hex i c hc;exact k.own i c0 h
def yC (shs:List Sh) (F:List PV→Option (Option Blk)):AM.Spec:=qP [] fun args=>F (zhb shs args)
def zlJ (p:List (Option Nat)) (r:Option Blk) (x:PV) (hp:Hp) (_:Nat):Prop:=match r with
 | none=>x=.nil
 | some b=>∃id b0,x=.own id 0 b0.es.length∧hp id=some b0∧b0.arr=true∧b=zja p b0
section
variable {C:Ctx} {pf:FuncId→Bool} {f:FuncId} {fn:Func} {code:Code}
theorem xC (hg:GoodD dr C pf) (hk:xP C pf f fn) (shs:List Sh) (p:List (Option Nat)) (F:List PV→Option (Option Blk)) (hF:∀args r,F args=some r→args.length≤fn.ntmps∧∃x hp nx,q8 C fn args (fun _=>none) 0=some (x,hp,nx)∧zlJ p r x hp nx) :
  jt dr C.P f (yC shs F):=by
 obtain⟨_,hk⟩:=hk
 refine⟨⟨fn,hk.func,hk.name,by rw[hk.body];rfl⟩,?_⟩
 intro args hp nx r hp' nx' h w S G vs hi hz
 unfold yC qP at h
 split at h
 ·rename_i aZ hp1 hfr
  obtain⟨S1,k1,hz1,_⟩:=qR (dr:=dr) hi hfr hz
  have hsub:∀id b,hp1 id=some b→hp1 id=some b∧¬False:=fun id b h=>⟨h,fun h=>h⟩
  split at h
  ·rename_i hF0
   obtain⟨hn,x,hpe,nxe,hef,hx0⟩:=hF _ none hF0
   injection h with h
   injection h with e1 h
   injection h with e2 e3
   subst e1;subst e2;subst e3
   simp only[zlJ] at hx0
   subst hx0
   refine (ju hg hk hef hn k1.inv.st k1.inv.glo (ZU (kY hz1))).mono fun e w' hh=>?_
   obtain⟨v,S',G',he,fr,inv',hx,hs0,hs1,_⟩:=hh
   have k2:=Kn (dr:=dr) (D:=fun _=>False) (hp2:=hp1) k1.inv hsub (fun _ h=>h.elim) fr inv' hs0 (fun b hb=>(hs1 b hb).imp (fun h=>h) .inr)
   have:=hx.nil_inv
   subst this
   exact⟨_,_,_,he,k1.trans k2,.c .nil⟩
  ·rename_i b hF0
   obtain⟨hn,x,hpe,nxe,hef,hx0⟩:=hF _ (some b) hF0
   injection h with h
   injection h with e1 h
   injection h with e2 e3
   subst e1;subst e2;subst e3
   obtain⟨id,b0,rfl,hid,harr,rfl⟩:=hx0
   refine (ju hg hk hef hn k1.inv.st k1.inv.glo (ZU (kY hz1))).mono fun e w' hh=>?_
   obtain⟨v,S',G',he,fr,inv',hx,hs0,hs1,hown⟩:=hh
   have k2:=zg6 (dr:=dr) (D:=fun _=>False) (hp2:=hp1) k1.inv hsub (fun _ h=>h.elim) fr inv' hs0 (fun b hb=>(hs1 b hb).imp (fun h=>h) .inr) hid harr (.inr (hown id b0 hid))
   have hx':=zg7 (nx:=nx) (G:=G) hx
   have k3:=k2.fixed (id:=nx) (by simp) harr hx'.own_pos p
   rw[show upd (upd hp1 nx (some b0)) nx (some (zja p b0))=upd hp1 nx (some (zja p b0)) by funext i;unfold upd;split<;>rfl] at k3
   refine⟨_,_,_,he,k1.trans k3,?_⟩
   rw[show (zja p b0).es.length=b0.es.length by simp[zja]]
   exact hx'
  ·cases h
 ·cases h
end
end Go.AM
namespace Go.Proofs
open Go.Shelf
def Tryz.sortC_ren:Go.Shelf.Ren:=⟨fun | 6=>198 | 15=>104 | 14=>233 | 28=>132 | 29=>133 | 20=>262 | 21=>263 | 22=>264 | 23=>265 | 24=>266 | 25=>267 | 26=>268 | 27=>269 | 46=>278 | 47=>166 | 48=>167 | 49=>279 | 50=>280 | 57=>286 | n=>n,fun | 22=>205 | 24=>162 | 25=>208 | 3=>3 | 39=>81 | 0=>0 | 53=>131 | 55=>133 | 4=>4 | 46=>125 | 45=>124 | 50=>31 | 5=>5 | 9=>9 | 66=>175 | 70=>179 | 76=>224 | 77=>82 | n=>n,fun | n=>n⟩
theorem Tryz.sortC:Go.Proofs.SlLaysF0.n6 prog Tryz.sortC_ren:={
 mixed:=by kernel_rfl
 f6:=⟨f198.name,by decide,func198.trans (congrArg some (by kernel_rfl))⟩
 f14:=⟨f233.name,by decide,func233.trans (congrArg some (by kernel_rfl))⟩
 f15:=func104.trans (congrArg some (by kernel_rfl))
 f20:=⟨f262.name,by decide,func262.trans (congrArg some (by kernel_rfl))⟩
 f21:=⟨f263.name,by decide,func263.trans (congrArg some (by kernel_rfl))⟩
 f22:=⟨f264.name,by decide,func264.trans (congrArg some (by kernel_rfl))⟩
 f23:=⟨f265.name,by decide,func265.trans (congrArg some (by kernel_rfl))⟩
 f24:=⟨f266.name,by decide,func266.trans (congrArg some (by kernel_rfl))⟩
 f25:=⟨f267.name,by decide,func267.trans (congrArg some (by kernel_rfl))⟩
 f26:=⟨f268.name,by decide,func268.trans (congrArg some (by kernel_rfl))⟩
 f27:=⟨f269.name,by decide,func269.trans (congrArg some (by kernel_rfl))⟩
 f28:=func132.trans (congrArg some (by kernel_rfl))
 f29:=func133.trans (congrArg some (by kernel_rfl))
 f46:=⟨f278.name,by decide,func278.trans (congrArg some (by kernel_rfl))⟩
 f47:=func166.trans (congrArg some (by kernel_rfl))
 f48:=func167.trans (congrArg some (by kernel_rfl))
 f49:=⟨f279.name,by decide,func279.trans (congrArg some (by kernel_rfl))⟩
 f50:=⟨f280.name,by decide,func280.trans (congrArg some (by kernel_rfl))⟩
 f57:=⟨f286.name,by decide,func286.trans (congrArg some (by kernel_rfl))⟩
 t0:=underlying0
 a0:=isAgg0
 z0:=sizeOf0
 v0:=zeroValue0
 t3:=underlying3
 a3:=isAgg3
 z3:=sizeOf3
 v3:=zeroValue3
 t4:=underlying4
 a4:=isAgg4
 z4:=sizeOf4
 v4:=zeroValue4
 t5:=underlying5
 a5:=isAgg5
 z5:=sizeOf5
 v5:=zeroValue5
 t9:=underlying9
 a9:=isAgg9
 z9:=sizeOf9
 v9:=zeroValue9
 t22:=underlying205
 a22:=isAgg205
 z22:=sizeOf205
 v22:=zeroValue205
 t25:=underlying208
 a25:=isAgg208
 z25:=sizeOf208
 v25:=zeroValue208
 t39:=underlying81
 a39:=isAgg81
 z39:=sizeOf81
 v39:=zeroValue81
 t45:=underlying124
 a45:=isAgg124
 z45:=sizeOf124
 v45:=zeroValue124
 t46:=underlying125
 a46:=isAgg125
 z46:=sizeOf125
 v46:=zeroValue125
 t50:=underlying31
 a50:=isAgg31
 z50:=sizeOf31
 v50:=zeroValue31
 t53:=underlying131
 a53:=isAgg131
 z53:=sizeOf131
 v53:=zeroValue131
 t55:=underlying133
 a55:=isAgg133
 z55:=sizeOf133
 v55:=zeroValue133
 t66:=underlying175
 a66:=isAgg175
 z66:=sizeOf175
 v66:=zeroValue175
 t70:=underlying179
 a70:=isAgg179
 z70:=sizeOf179
 v70:=zeroValue179
 t76:=underlying224
 a76:=isAgg224
 z76:=sizeOf224
 v76:=zeroValue224
 t77:=underlying82
 a77:=isAgg82
 z77:=sizeOf82
 v77:=zeroValue82 }
open Go.AM
theorem Tryz.sortC_ok:zqa prog 198 5:=⟨fun _ _ enc hk h1 cf hO g blk off cap d w eg hcmp hH hblk hsz=>AnyQ.slices_SortFunc_eq Tryz.sortC 5 isAgg162 sizeOf162 enc hk h1 cf hO g #[] blk off cap d w eg hcmp hH hblk hsz,
 fun p cap fv w=>AnyF.slices_SortFunc_none Tryz.sortC p cap fv w⟩
end Go.Proofs
