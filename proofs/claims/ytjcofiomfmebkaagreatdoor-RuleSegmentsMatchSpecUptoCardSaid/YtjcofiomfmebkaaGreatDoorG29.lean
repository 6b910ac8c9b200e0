/-
The checker: its holds.
-/
import Derived.Test.YtjcofiomfmebkaaGreatDoorG28
import Derived.Test.YtjcofiomfmebkaaGreatDoorG26
import Derived.Test.YtjcofiomfmebkaaGreatDoorG17
import Derived.Test.YtjcofiomfmebkaaGreatDoorG27
import Derived.Test.YtjcofiomfmebkaaGreatDoorG24
set_option maxRecDepth 8000
namespace Go.Proofs.YtjcofiomfmebkaaGreatDoor
open Go.Proofs.Tryz
open Go.RowKit Go.AM Go.SpanLaw
def leP (p:Option (List UInt8)) (s:List UInt8):Bool:=match p with
 | none=>false
 | some q=>leB s q
noncomputable def zqq (L:List Lyr):Option (List UInt8)→List (List UInt8)→Int
 | _,[]=>0
 | p,s::l=>if (bsN (L.map Lyr.name) s).2=true then (if leP p s=true then 8 else zqq L (some s) l) else 9
noncomputable def zua (L:List Lyr) (x:Hld):Int:=if inB x.buckets 1 100000=true then (if x.layers.length=0 then 9 else zqq L none x.layers) else 1
noncomputable def zev (L:List Lyr):List UInt8→List (List UInt8)→List Hld→Int×List (List UInt8)
 | _,l,[]=>(0,l)
 | before,l,x::xs=>if zjP x.name before=0 then (if zgt l x.salt=0 then (if zua L x=0 then zev L x.name (zb8 l x.salt) xs else (zua L x,zb8 l x.salt)) else (zgt l x.salt,zb8 l x.salt)) else (zjP x.name before,l)
noncomputable def zvu (L:List Lyr) (before:List UInt8) (l:List (List UInt8)) (x:Xp):Int×List (List UInt8) :=
 if zjP x.name before=0 then (if (bsN (L.map Lyr.name) x.layer).2=true then (if qi x.flag=true then (if x.cond.check=0 then (if zgt l x.salt=0 then (if zmK x.arms 20=0 then (zr7 x.phases,zb8 l x.salt) else (zmK x.arms 20,zb8 l x.salt)) else (zgt l x.salt,zb8 l x.salt)) else (x.cond.check,l)) else (5,l)) else (9,l)) else (zjP x.name before,l)
def zwY (x:Xp) (rest:Int) (y:Xp):Bool:=decide (y.layer=x.layer)&&zt9 x y rest
noncomputable def zub (L:List Lyr) (s:List UInt8):Int:=match L[(bsN (L.map Lyr.name) s).1]? with
 | some y=>y.rest
 | none=>0
noncomputable def zwA (L:List Lyr) (all:List Xp):Nat→List Xp→Bool
 | _,[]=>false
 | i,x::l=>(all.take i).any (zwY x (zub L x.layer))||zwA L all (i+1) l
noncomputable def zr8 (L:List Lyr):List UInt8→List (List UInt8)→List Xp→Int×List (List UInt8)
 | _,l,[]=>(0,l)
 | before,l,x::xs=>if (zvu L before l x).1=0 then zr8 L x.name (zvu L before l x).2 xs else zvu L before l x
noncomputable def zqr (b:Bk):Int :=
 if (20:Int)<b.layers.length∨(10:Int)<b.holds.length∨(100:Int)<b.exps.length then 2
 else if (QU [] [] b.layers).1=0 then
  (if (zev b.layers [] (QU [] [] b.layers).2 b.holds).1=0 then
   (if (zr8 b.layers [] (zev b.layers [] (QU [] [] b.layers).2 b.holds).2 b.exps).1=0 then (if zwA b.layers b.exps 0 b.exps=true then 13 else 0)
    else (zr8 b.layers [] (zev b.layers [] (QU [] [] b.layers).2 b.holds).2 b.exps).1)
   else (zev b.layers [] (QU [] [] b.layers).2 b.holds).1)
 else (QU [] [] b.layers).1
end Go.Proofs.YtjcofiomfmebkaaGreatDoor
namespace Go.AM
open Go.RowKit
end Go.AM
namespace Go.Proofs.YtjcofiomfmebkaaGreatDoor
open Go.Proofs.Tryz
open Go.RowKit Go.AM Go.SpanLaw
noncomputable def chkL (b:Bk) (s:List UInt8) (n:Int):Int:=if zqr b=0 then (if (bsN (b.layers.map Lyr.name) s).2=true then (if zt7 n=true then 0 else 1) else 5) else zqr b
noncomputable def FBNI (out:Bk→List UInt8→Int→PV):List PV→Option PV:=zJ (α:=Bk×List UInt8×Int) (fun a=>[.agg a.1.enc,str a.2.1,int a.2.2]) (fun a=>a.1.cb≤lim) (fun a=>out a.1 a.2.1 a.2.2)
def zwZ (acc:List Sp) (n:Int):List Phs→List Sp
 | []=>acc
 | p::l=>zwZ (if p.at_≤n then p.spans else acc) n l
def zeR (v:List UInt8):Nat→List (List UInt8)→Int
 | _,[]=>-1
 | k,s::l=>if v=s then k else zeR v (k+1) l
theorem zh2 (v:List UInt8):∀(l:List (List UInt8)) (k:Nat),decide (0≤zeR v k l)=decide (v∈l)
 | [],k=>by simp[zeR]
 | s::l,k=>by
   by_cases h:v=s
   ·have e:zeR v k (s::l)=k:=by simp only[zeR,if_pos h]
    rw[e];simp[h]
   ·have e:zeR v k (s::l)=zeR v (k+1) l:=by simp only[zeR,if_neg h]
    rw[e,zh2 v l (k+1)];simp[h]
noncomputable def FTS (out:List (List UInt8)→List UInt8→PV):List PV→Option PV:=zJ (α:=List (List UInt8)×List UInt8) (fun a=>[.sl 1 (zD a.1),str a.2]) (fun a=>a.1.length≤lim) (fun a=>out a.1 a.2)
theorem zqs:∀a b:List (List UInt8)×List UInt8,[PV.sl 1 (zD a.1),str a.2]=[PV.sl 1 (zD b.1),str b.2]→a=b:=by
 rintro⟨a1,a2⟩ ⟨b1,b2⟩ e
 simp only[List.cons.injEq,and_true] at e
 obtain⟨e1,e2⟩:=e
 injection e1 with _ e1
 rw[wt e1,qg e2]
theorem W5 (out:List (List UInt8)→List UInt8→PV) (l:List (List UInt8)) (v:List UInt8) (hp:Hp) (nx:Nat) (h:l.length≤lim):zd false [1] (FTS out) [.sl 1 (zD l),str v] hp nx=some (out l v,hp,nx) :=
 zH rfl (zm (enc:=fun a:List (List UInt8)×List UInt8=>[PV.sl 1 (zD a.1),str a.2]) (a:=(l,v)) zqs h) (.inr rfl)
theorem zr9 (out:List (List UInt8)→List UInt8→PV) {l:List (List UInt8)} {v:List UInt8} {hp:Hp} {nx e:Nat} {x:PV} (hO:OwnS hp nx e 1 x (zD l)) (h:l.length≤lim) (hf:(out l v).flat=true):zd false [1] (FTS out) [x,str v] hp nx=some (out l v,hp,nx):=by
 have hs:FTS out [.sl 1 (zD l),str v]=some (out l v):=zm (enc:=fun a:List (List UInt8)×List UInt8=>[PV.sl 1 (zD a.1),str a.2]) (a:=(l,v)) zqs h
 rcases hO with⟨rfl,h0⟩ | ⟨id,hid,rfl,hh⟩
 ·have hl:l=[]:=by simpa[zD] using h0
  subst hl
  exact zH (hp1:=hp) rfl hs (.inl hf)
 ·exact zH (hp1:=upd hp id none) (show zj hp [.own id 0 (zD l).length,str v]=some ([.sl 1 (zD l),str v],upd hp id none) by
   simp[hh]
   try rw[List.take_of_length_le (by simp)]) hs (.inl hf)
theorem zmM (l:List (List UInt8)) (v:List UInt8) (h:l.length≤lim):zg C0 f46 [.sl 1 (zD l),str v]=some (int (zeR v 0 l)):=by
 refine zb rfl ?_
 unfold lim at h
 have hel:(zD l).length=l.length:=by simp[zD]
 simp[hel]
 refine zu (fun k σ hp nx=>σ 0=.sl 1 (zD l)∧σ 1=str v∧σ 7=int l.length∧σ 8=int k∧zeR v 0 l=zeR v k (l.drop k)) l.length ⟨by simp,by simp,by simp,by simp,by simp⟩ ?_
 rintro k σ hp nx hk ⟨h0,h1,h7,h8,he⟩
 by_cases hlt:k<l.length
 ·obtain⟨s,hs⟩:∃s,l[k]=s:=⟨_,rfl⟩
  have hw:IntKind.i64.wrap ((k:Int)+1)=(k:Int)+1:=zc (by omega) (by omega)
  have hke:∀h:k<(zD l).length,(zD l)[k]=[str s]:=fun h=>by simp[zD,hs]
  have hle:k<(zD l).length:=by omega
  rw[List.drop_eq_getElem_cons hlt,hs] at he
  simp only[zeR] at he
  by_cases hc:v=s
  ·rw[if_pos hc] at he
   have hc':(v==s)=true:=by simpa using hc
   simp[h0,h1,h7,h8,hlt,hel,hle,hke,hc',he,f46]
  ·rw[if_neg hc] at he
   have hc':(v==s)=false:=by simpa using hc
   simp[h0,h1,h7,h8,hlt,hel,hle,hke,hc',hw]
   exact⟨by omega,he⟩
 ·obtain rfl:k=l.length:=by omega
  rw[List.drop_length] at he
  simp only[zeR] at he
  simp[h0,h1,h7,h8,he,f46]
theorem zjQ:za prog 46 (zd false [1] (FTS fun l v=>int (zeR v 0 l))) :=
 zL (fn:=f46) yl ⟨_,func46,by kernel_rfl,rfl,by kernel_rfl⟩ false [1] _ fun args r h=>by
  obtain⟨⟨l,v⟩,rfl,hx,rfl⟩:=ze h
  exact⟨by simp[f46],_,zmM l v hx,zK _⟩
noncomputable abbrev zw0:Ctx:=zC prog [(46,zd false [1] (FTS fun l v=>int (zeR v 0 l)))]
theorem jo:za prog 21 (zd false [1] (FTS fun l v=>boo (decide (v∈l)))) :=
 zL (fn:=f21) (zk (q:=[]) mixed ⟨zjQ,by simp,trivial⟩:AM.Good zw0 _) ⟨_,func21,by kernel_rfl,rfl,by kernel_rfl⟩ false [1] _ fun args r h=>by
  obtain⟨⟨l,v⟩,rfl,hx,rfl⟩:=ze h
  have hc:=fun hp nx=>W5 (fun l v=>int (zeR v 0 l)) l v hp nx hx
  have hm:=zh2 v l 0
  exact⟨by simp[f21],_,zb rfl (by simp[hc,hm,f21]),zK _⟩
end Go.Proofs.YtjcofiomfmebkaaGreatDoor
namespace Go.Proofs.YtjcofiomfmebkaaGreatDoor
open Go.Proofs.Tryz
open Go.RowKit Go.AM
def zpD (l:List Sgm):Blk:=⟨22,1,false,[[.sl 10 (l.map Sgm.enc)]]⟩
noncomputable abbrev zwB:Ctx:=zC prog [(8,zd false [] zec)]
noncomputable abbrev zuc:AM.Spec:=yf zwB f41
set_option maxRecDepth 100000 in
theorem zmN:za prog 41 zuc:=zX (code:=_) (zk (q:=[]) mixed ⟨Z6,by simp,trivial⟩:AM.Good zwB _) ⟨func41,by kernel_rfl,rfl,by kernel_rfl⟩
theorem zsa (l:List Sgm) (n:List UInt8) (hl:l.length≤lim) (hp:Hp) (nx id:Nat) (hh:hp id=some (zpD l)):zuc [str n,.ref id 0 0] hp nx=some (boo (jz l n),hp,nx):=by
 unfold zuc yf
 rw[if_pos (by simp[f41])]
 refine qB rfl ?_
 have h1:=fun hp nx=>Z5 l n hp nx hl
 simp[zpD] at hh
 simp[hh,h1,jz,f41]
theorem zew {f:List UInt8→Bool}:∀l:List (List UInt8),(qo (fun (_:Unit) n=>(!f n,())) () l).1=!(l.all f)
 | []=>rfl
 | a::l=>by
   cases h:f a
   ·simp[qo,h]
   ·simp[qo,h,zew l]
noncomputable def FKn:List PV→Option PV:=zJ (α:=List Sgm×Cnd) (fun a=>[.sl 10 (a.1.map Sgm.enc),.agg a.2.enc]) (fun a=>a.1.length≤lim∧a.2.cb≤lim) (fun a=>boo (xT a.1 a.2))
theorem zpE (l:List Sgm) (c:Cnd) (hp:Hp) (nx:Nat) (h:l.length≤lim) (h2:c.cb≤lim):zd false [] FKn [.sl 10 (l.map Sgm.enc),.agg c.enc] hp nx=some (boo (xT l c),hp,nx) :=
 zH (hp1:=hp) (show zj hp [.sl 10 (l.map Sgm.enc),.agg c.enc]=some ([.sl 10 (l.map Sgm.enc),.agg c.enc],hp) by simp[qc]) (zm (enc:=fun a:List Sgm×Cnd=>[PV.sl 10 (a.1.map Sgm.enc),.agg a.2.enc]) (a:=(l,c)) (fun a b e=>by
  obtain⟨a1,a2⟩:=a;obtain⟨b1,b2⟩:=b
  simp only[List.cons.injEq,and_true,PV.agg.injEq] at e
  rw[kn e.1,jE e.2]) ⟨h,h2⟩) (.inl rfl)
noncomputable abbrev Ckn:Ctx:=zC prog [(40,zed 41 zuc lim)]
theorem zjR (l:List Sgm) (c:Cnd) (hl:l.length≤lim) (hc:c.cb≤lim):zg Ckn f17 [.sl 10 (l.map Sgm.enc),.agg c.enc]=some (boo (xT l c)):=by
 refine zb rfl ?_
 obtain⟨x,hp',nx',e1,rfl,_,_,_⟩:=zbX (σ:=Unit) (T:=fun _=>False) (Rep:=fun _ hp=>hp 0=some (zpD l)) (step:=fun _ n=>(!jz l n,())) (Q:=fun _=>True) (g:=41) (sp:=zuc) (cap:=[.ref 0 0 0]) (nx0:=2) (by decide) (fun _ h=>h.elim)
  (fun _ hp j b hj h=>by rw[zq _ _ _ _ (by omega)];exact h) (fun _ n hp nx _ _ _ h=>⟨_,hp,nx,zsa l n hl hp nx 0 h,by simp,h,Nat.le_refl _,fun _ _ _=>rfl⟩) lim c () (upd (upd (fun _=>none) 0 (some (zpD l))) 1 (some ⟨41,7,false,[c.enc]⟩)) 2 hc hc (fun _ _=>trivial) (Nat.le_refl _) (by simp)
 rw[zew] at e1
 simp only[zpD,Bool.not_not] at e1
 simp[e1,xT,qe,f17]
theorem zgu:za prog 17 (zd false [] FKn) :=
 zL (fn:=f17) (zk (q:=[]) mixed ⟨YO zmN lim,by simp,trivial⟩:AM.Good Ckn _) ⟨_,func17,by kernel_rfl,rfl,by kernel_rfl⟩ false [] _ fun args r h=>by
  obtain⟨⟨l,c⟩,rfl,⟨h1,h2⟩,rfl⟩:=ze h
  exact⟨by simp[f17],_,zjR l c h1 h2,zK _⟩
def zpF (st:List Int):Blk:=⟨3,1,true,st.map fun z=>[int z]⟩
noncomputable def zud (sp:AM.Spec):AM.Spec:=yf (zC prog [(8,zd false [] zec),(18,sp)]) f42
noncomputable def zgv:Nat→AM.Spec
 | 0=>fun _ _ _=>none
 | n+1=>yf (zC prog [(40,zed 42 (zud (zgv n)) lim)]) f18
set_option maxRecDepth 100000 in
theorem zmO {sp:AM.Spec} (h:za prog 18 sp):za prog 42 (zud sp) :=
 zX (code:=_) (zk (q:=[]) (l:=[(8,zd false [] zec),(18,sp)]) mixed ⟨Z6,by simp,h,by simp,trivial⟩) ⟨func42,by kernel_rfl,rfl,by kernel_rfl⟩
set_option maxRecDepth 100000 in
theorem zat:∀n,za prog 18 (zgv n)
 | 0=>xb ⟨_,func18,by kernel_rfl,by kernel_rfl⟩
 | n+1=>zX (code:=_) (zk (q:=[]) (l:=[(40,zed 42 (zud (zgv n)) lim)]) mixed ⟨YO (zmO (zat n)) lim,by simp,trivial⟩) ⟨func18,by kernel_rfl,rfl,by kernel_rfl⟩
theorem zex {S α β:Type} (f:S→β→Bool×S) (m:α→β):∀(s:S) (l:List α),qo (fun s a=>f s (m a)) s l=qo f s (l.map m)
 | _,[]=>rfl
 | s,a::l=>by simp only[List.map_cons,qo,zex f m _ l]
theorem zmP (st:List Int) (i:Nat) (v:Int):(st.map fun z=>[int z]).set i [int v]=(st.set i v).map fun z=>[int z]:=by rw[List.map_set]
set_option maxHeartbeats 2000000 in
theorem zh3 (l:List Sgm) (hl:sgb l≤lim) (hk:∀s∈l,∀n∈s.cond.names,jz l n=true) (ids:Nat):∀(n:Nat) (st:List Int) (i:Nat) (hp:Hp) (nx:Nat),jV st<n→st.length=l.length→i<l.length→ids<nx→hp ids=some (zpF st) →
  ∃x hp' nx',zgv n [.sl 10 (l.map Sgm.enc),.own ids 0 l.length,int i] hp nx=some (x,hp',nx')∧wT (·=ids) (fun st hp=>hp ids=some (zpF st)) (boo (yT (qT l) n st i).1) (yT (qT l) n st i).2 hp nx x hp' nx'
 | 0,_,_,_,_,h,_,_,_,_=>absurd h (by omega)
 | n+1,st,i,hp0,nx1,hw,hsl,hil,hid,hb0=>by
   have hle:=xH l
   have hm:=vF (List.getElem_mem hil)
   have hmc:l[i].cb=1+l[i].name.length+tbs l[i].ins+tbs l[i].outs+l[i].cond.cb:=rfl
   unfold lim at hl
   have ni:¬ids=nx1:=by omega
   have ni2:¬ids=nx1+1:=by omega
   have hsi:i<st.length:=by omega
   have hb:=hb0
   simp[zpF] at hb
   unfold zgv yf
   rw[if_pos (by simp[f18])]
   refine zM rfl ?_
   by_cases hz:st[i]=0
   case neg =>
    have hv:yT (qT l) (n+1) st i=(decide (st[i]?=some 1),st):=by
     simp only[yT]
     rw[if_neg (by rw[List.getElem?_eq_getElem hsi];simpa using hz)]
    have hz':(st[i] != 0)=true:=by simpa using hz
    have h1:decide (st[i]?=some 1)=(st[i]==1):=by rw[List.getElem?_eq_getElem hsi,Bool.eq_iff_iff];simp
    rw[hv,h1]
    simp[hb,ni,ni2,hil,hsi,hz',wT,f18]
    exact⟨rfl,by omega,fun j hj hn=>by rw[zq _ _ _ _ (by omega),zq _ _ _ _ (by omega)]⟩
   have h0:st[i]?=some 0:=by rw[List.getElem?_eq_getElem hsi,hz]
   have hwc:=Vq h0 (v:=1) (by decide)
   have hsucc:qT l i=l[i].cond.names.map (kv l):=by unfold qT;rw[List.getElem?_eq_getElem hil]
   have hv:yT (qT l) (n+1) st i=((qo (yT (qT l) n) (st.set i 1) (qT l i)).1,(qo (yT (qT l) n) (st.set i 1) (qT l i)).2.set i 2):=by simp only[yT];rw[if_pos h0]
   have hkp:=xa (ya (qT l) n) (qT l i) (st.set i 1)
   obtain⟨x,hp2,nx2,e1,rfl,⟨r2,r2b,r2c,r2d,r2e⟩,n2,f2⟩:=zbX (σ:=List Int) (T:=(·=ids)) (Rep:=fun s hp=>hp ids=some (zpF s)∧s.length=l.length∧jV s<n∧hp nx1=some (zpD l)∧hp (nx1+1)=some ⟨50,1,false,[[.own ids 0 l.length]]⟩) (step:=fun s m=>yT (qT l) n s (kv l m)) (Q:=fun m=>jz l m=true) (g:=42)
    (sp:=zud (zgv n)) (cap:=[.ref nx1 0 0,.ref (nx1+1) 0 0]) (nx0:=nx1+2) (by decide) (fun j hj=>by omega)
    (fun s hp j b hj ⟨g1,g2,g3,g4,g5⟩=>⟨by rw[zq _ _ _ _ (by omega)];exact g1,g2,g3,by rw[zq _ _ _ _ (by omega)];exact g4,by rw[zq _ _ _ _ (by omega)];exact g5⟩)
    (fun s m hp nx hq hml hn ⟨g1,g2,g3,g4,g5⟩=>by
     have hix:=zhM hq
     have h1:=fun hp nx=>Z5 l m hp nx (by unfold lim;omega)
     obtain⟨x,hp2,nx2,e1,rfl,r2,n2,f2⟩:=zh3 l (by unfold lim;omega) hk ids n s (kv l m) hp nx g3 g2 hix (by omega) g1
     have hkq:=ya (qT l) n s (kv l m)
     refine⟨_,hp2,nx2,?_,rfl,⟨r2,by rw[hkq.len];exact g2,Nat.lt_of_le_of_lt hkq.wh g3,by rw[f2 nx1 (by omega) (by omega)];exact g4,by rw[f2 (nx1+1) (by omega) (by omega)];exact g5⟩,n2,f2⟩
     unfold zud yf
     rw[if_pos (by simp[f42])]
     refine qB rfl ?_
     simp only[zpD] at g4
     simp only[kv] at e1
     simp[g4,g5,h1,e1,kv,f42])
    lim l[i].cond (st.set i 1) (upd (upd (upd hp0 nx1 (some (zpD l))) (nx1+1) (some ⟨50,1,false,[[.own ids 0 l.length]]⟩)) ids (some (zpF (st.set i 1)))) (nx1+2) (by unfold lim;omega) (by unfold lim;omega) (fun m hm=>hk _ (List.getElem_mem hil) m hm) (Nat.le_refl _)
    ⟨by simp,by simp[hsl],by omega,by rw[zq _ _ _ _ (by omega),zq _ _ _ _ (by omega)];simp,by rw[zq _ _ _ _ (by omega)];simp⟩
   rw[zex (yT (qT l) n) (kv l),←hsucc] at e1 r2
   rw[hv]
   simp only[zpD,zpF,←zmP] at e1
   simp only[zpF] at r2
   have ni3:¬nx1=ids:=by omega
   have ni4:¬nx1+1=ids:=by omega
   have hrl:i<(qo (yT (qT l) n) (st.set i 1) (qT l i)).2.length:=by rw[hkp.len,List.length_set];exact hsi
   simp[hb,ni,ni2,ni3,ni4,hil,hsi,hz,e1,r2,r2d,r2e,hrl,wT,f18]
   exact⟨by rw[zmP];rfl,by omega,fun j hj hn=>by rw[zq _ _ _ _ hn,f2 j (by omega) hn,zq _ _ _ _ hn,zq _ _ _ _ (by omega),zq _ _ _ _ (by omega)]⟩
noncomputable abbrev zwC:Ctx:=zC prog [(28,zd false [] (FKs hkP))]
noncomputable abbrev zuN:AM.Spec:=yf zwC f38
set_option maxRecDepth 100000 in
theorem zmQ:za prog 38 zuN:=zX (code:=_) (zk (q:=[]) mixed ⟨Jk,by simp,trivial⟩:AM.Good zwC _) ⟨func38,by kernel_rfl,rfl,by kernel_rfl⟩
def zgw (s:Sgm):Blk:=⟨43,10,false,[s.enc]⟩
theorem zsb (s:Sgm) (k:List UInt8) (h1:tbs s.outs≤lim) (h2:k.length≤lim) (hp:Hp) (nx id:Nat) (hh:hp id=some (zgw s)):zuN [str k,.ref id 0 0] hp nx=some (boo (bsN s.outs k).2,hp,nx):=by
 unfold zuN yf
 rw[if_pos (by simp[f38])]
 refine qB rfl ?_
 have hc:=fun hp nx=>zgc s.outs k hp nx h1 h2
 simp[zgw] at hh
 simp[hh,hc,f38]
def Qv (f:List UInt8→Bool):Nat→List (List UInt8)→Int
 | _,[]=>-1
 | k,s::l=>if f s=true then k else Qv f (k+1) l
theorem zau (f:List UInt8→Bool):∀(l:List (List UInt8)) (k:Nat),decide (0≤Qv f k l)=l.any f
 | [],k=>by simp[Qv]
 | s::l,k=>by
   cases h:f s
   ·rw[Qv,h,if_neg (by simp),zau f l (k+1),List.any_cons,h];rfl
   ·rw[Qv,h,if_pos rfl,List.any_cons,h];simp
noncomputable abbrev zwD:Ctx:=zC prog [(38,zuN)]
noncomputable abbrev zuO:AM.Spec:=yf zwD f61
set_option maxRecDepth 100000 in
theorem zmR:za prog 61 zuO:=zX (code:=_) (zk (q:=[]) mixed ⟨zmQ,by simp,trivial⟩:AM.Good zwD _) ⟨func61,by kernel_rfl,rfl,by kernel_rfl⟩
def znt (id:Nat):PV:=.fn (.func 38) [] [.ref id 0 0]
theorem zsc (s:Sgm) (hs:s.cb≤lim) (hp:Hp) (nx id:Nat) (hh:hp id=some (zgw s)) :
  zuO [.sl 1 (zD s.ins),znt id] hp nx=some (int (Qv (fun k=>(bsN s.outs k).2) 0 s.ins),hp,nx):=by
 have hmc:s.cb=1+s.name.length+tbs s.ins+tbs s.outs+s.cond.cb:=rfl
 have hle:=xG s.ins
 have hm:=fun k (hk:k∈s.ins)=>Vs hk
 unfold lim at hs
 unfold zuO yf
 rw[if_pos (by simp[f61])]
 refine qB rfl ?_
 have hel:(zD s.ins).length=s.ins.length:=by simp[zD]
 simp[znt,hel]
 refine zu (fun k σ hp1 nx1=>σ 0=.sl 1 (zD s.ins)∧σ 1=znt id∧σ 7=int s.ins.length∧σ 8=int k∧hp1=hp∧nx1=nx∧Qv (fun k=>(bsN s.outs k).2) 0 s.ins=Qv (fun k=>(bsN s.outs k).2) k (s.ins.drop k)) s.ins.length ⟨by simp,by simp[znt],by simp,by simp,rfl,rfl,by simp⟩ ?_
 rintro k σ hp1 nx1 hk ⟨h0,h1,h7,h8,rfl,rfl,he⟩
 by_cases hlt:k<s.ins.length
 ·have hw:IntKind.i64.wrap ((k:Int)+1)=(k:Int)+1:=zc (by omega) (by omega)
  obtain⟨y,hy⟩:∃y,s.ins[k]=y:=⟨_,rfl⟩
  have hmy:=hm y (by rw[←hy];exact List.getElem_mem hlt)
  have hlt2:k<(zD s.ins).length:=by omega
  have hke:(zD s.ins)[k]=[str y]:=by simp[zD,hy]
  have hrun:=zsb s y (by unfold lim;omega) (by unfold lim;omega) hp1 nx1 id hh
  rw[List.drop_eq_getElem_cons hlt,hy,Qv] at he
  cases hz:(bsN s.outs y).2
  ·rw[hz,if_neg (by simp)] at he
   rw[hz] at hrun
   simp[h0,h1,h7,h8,znt,hlt,hel,hlt2,hke,hrun,hw]
   exact⟨by omega,he⟩
  ·rw[hz,if_pos rfl] at he
   rw[hz] at hrun
   simp[h0,h1,h7,h8,znt,hlt,hel,hlt2,hke,hrun,hw,he,f61]
 ·obtain rfl:k=s.ins.length:=by omega
  rw[List.drop_length] at he
  simp only[Qv] at he
  simp[h0,h1,h7,h8,he,f61]
noncomputable abbrev zwE:Ctx:=zC prog [(61,zuO)]
noncomputable abbrev zuP:AM.Spec:=yf zwE f37
set_option maxRecDepth 100000 in
theorem zmS:za prog 37 zuP:=zX (code:=_) (zk (q:=[]) mixed ⟨zmR,by simp,trivial⟩:AM.Good zwE _) ⟨func37,by kernel_rfl,rfl,by kernel_rfl⟩
theorem zsd (s:Sgm) (hs:s.cb≤lim) (hp:Hp) (nx id:Nat) (hh:hp id=some (zgw s)) :
  zuP [.sl 1 (zD s.ins),znt id] hp nx=some (boo (s.ins.any fun k=>(bsN s.outs k).2),hp,nx):=by
 unfold zuP yf
 rw[if_pos (by simp[f37])]
 refine qB rfl ?_
 have h1:=zsc s hs hp nx id hh
 have ha:=zau (fun k=>(bsN s.outs k).2) s.ins 0
 simp only[znt] at h1
 simp[znt,h1,ha,f37]
noncomputable def zvv (out:Sgm→PV):List PV→Option PV:=zJ (α:=Sgm) (fun s=>[.agg s.enc]) (fun s=>s.cb≤lim) out
theorem zmT (out:Sgm→PV) (s:Sgm) (hp:Hp) (nx:Nat) (h:s.cb≤lim) (hf:(out s).flat=true):zd false [] (zvv out) [.agg s.enc] hp nx=some (out s,hp,nx) :=
 zH (hp1:=hp) (show zj hp [.agg s.enc]=some ([.agg s.enc],hp) by simp[qJ]) (zm (enc:=fun s:Sgm=>[PV.agg s.enc]) (a:=s) (fun a b e=>by
  simp only[List.cons.injEq,and_true,PV.agg.injEq] at e
  exact QR e) h) (.inl hf)
noncomputable abbrev zwF:Ctx:=zC prog [(36,zd false [] (FTl (fun l=>int (ja l)) fun l=>tbs l≤lim)),(37,zuP),(39,GC fun c=>int c.check)]
theorem zse {l m:List (List UInt8)} (hm:UpN m):(l.any fun k=>(bsN m k).2)=l.any fun k=>m.contains k:=by
 congr 1
 funext k
 exact zgd hm k
theorem YT (s:Sgm) (h:s.cb≤lim):zg zwF f16 [.agg s.enc]=some (int (xZ s)):=by
 have hmc:s.cb=1+s.name.length+tbs s.ins+tbs s.outs+s.cond.cb:=rfl
 unfold lim at h
 have k1:=fun hp nx=>JW (fun l=>int (ja l)) (fun l=>tbs l≤lim) s.ins hp nx (by unfold lim;omega) rfl
 have k2:=fun hp nx=>JW (fun l=>int (ja l)) (fun l=>tbs l≤lim) s.outs hp nx (by unfold lim;omega) rfl
 have k3:=fun hp nx=>vE (fun c=>int c.check) s.cond hp nx (by unfold lim;omega)
 refine zb rfl ?_
 simp[zh,zo,zf]
 rw[zl]
 by_cases c1:ja s.ins=0
 case neg =>
  have hv:xZ s=ja s.ins:=by unfold xZ;rw[if_neg c1]
  have c1':(ja s.ins != 0)=true:=by simpa using c1
  simp[k1,c1',hv,qe,f16]
 have w1:IntKind.i64.wrap 1=1:=zc (by omega) (by omega)
 have w2:IntKind.i64.wrap 2=2:=zc (by omega) (by omega)
 simp[k1,c1,w1]
 rw[zl]
 by_cases c2:ja s.outs=0
 case neg =>
  have hv:xZ s=ja s.outs:=by unfold xZ;rw[if_pos c1,if_neg c2]
  have c2':(ja s.outs != 0)=true:=by simpa using c2
  simp[k2,c2',hv,qe,f16]
 simp[k2,c2,w2]
 rw[zl]
 have h5:=zsd s (by unfold lim;omega) (upd (upd (fun _=>none) 0 (some (zgw s))) 1 (some ⟨37,1,true,[[.sl 1 (zD s.ins)],[.sl 1 (zD s.outs)]]⟩)) 2 0 (by simp)
 rw[zse (zbT c2)] at h5
 simp only[znt,zgw] at h5
 cases c3:s.ins.any fun k=>s.outs.contains k
 ·have hv:xZ s=s.cond.check:=by unfold xZ;rw[if_pos c1,if_pos c2,c3,if_neg (by simp)]
  rw[c3] at h5
  simp[h5,k3,hv,qe,f16]
 ·have hv:xZ s=7:=by unfold xZ;rw[if_pos c1,if_pos c2,c3,if_pos rfl]
  rw[c3] at h5
  simp[h5,hv,qe,f16]
theorem W6:za prog 16 (zd false [] (zvv fun s=>int (xZ s))) :=
 zL (fn:=f16) (zk (q:=[]) mixed ⟨Vu,by simp,zmS,by simp,zd6,by simp,trivial⟩:AM.Good zwF _) ⟨_,func16,by kernel_rfl,rfl,by kernel_rfl⟩ false [] _ fun args r h=>by
  obtain⟨s,rfl,h1,rfl⟩:=ze h
  exact⟨by simp[f16],_,YT s h1,zK _⟩
def Qw (l:List Sgm) (k:Nat):Option (List UInt8):=if k=0 then none else (l[k - 1]?).map Sgm.name
noncomputable def FSs (out:List Sgm→PV):List PV→Option PV:=zJ (α:=List Sgm) (fun l=>[.sl 10 (l.map Sgm.enc)]) (fun l=>sgb l≤lim) out
theorem zh4 (out:List Sgm→PV) (l:List Sgm) (hp:Hp) (nx:Nat) (h:sgb l≤lim) (hf:(out l).flat=true):zd false [] (FSs out) [.sl 10 (l.map Sgm.enc)] hp nx=some (out l,hp,nx) :=
 zH rfl (zm (enc:=fun l:List Sgm=>[PV.sl 10 (l.map Sgm.enc)]) (a:=l) (fun a b e=>by
  simp only[List.cons.injEq,and_true] at e
  exact kn e) h) (.inl hf)
noncomputable abbrev zvw:Ctx:=zC prog [(15,zd false [] (FS qi)),(16,zd false [] (zvv fun s=>int (xZ s))),(17,zd false [] FKn),(18,zgv 2097153)]
theorem zsf:AM.Good zvw (fun g=>([]:List Nat).contains g):=zk mixed ⟨vf,by simp,W6,by simp,zgu,by simp,zat _,by simp,trivial⟩
theorem zmU:xP zvw (fun g=>([]:List Nat).contains g) 6 Tryz.f6:=⟨_,func6,by kernel_rfl,rfl,by kernel_rfl⟩
set_option maxHeartbeats 2000000 in
theorem W7 (l:List Sgm) (h:sgb l≤lim):zg zvw Tryz.f6 [.sl 10 (l.map Sgm.enc)]=some (int (yc l)):=by
 have hlen:=xH l
 have hlim:lim=2097152:=rfl
 refine zb rfl ?_
 by_cases c0:(100:Int)<l.length
 ·have hv:yc l=2:=by unfold yc;rw[if_pos c0]
  simp[c0,hv,Tryz.f6]
 refine yv (fun σ hp nx=>σ 0=.sl 10 (l.map Sgm.enc)) (by simp) ?_
 rintro σ hp nx h0
 refine yv (fun σ hp nx=>σ 0=.sl 10 (l.map Sgm.enc)) (by simp[h0,c0]) ?_
 clear h0 σ hp nx
 rintro σ hp nx h0
 refine yv (fun σ hp nx=>σ 0=.sl 10 (l.map Sgm.enc)∧Qf none l=0) ?_ ?_
 ·simp[h0]
  refine zu (fun k σ hp nx=>σ 0=.sl 10 (l.map Sgm.enc)∧σ 13=.sl 10 (l.map Sgm.enc)∧σ 14=int l.length∧σ 15=int k∧Qf none l=Qf (Qw l k) (l.drop k)) l.length ⟨by simp[h0],by simp,by simp,by simp,by simp[Qw]⟩ ?_
  clear h0 σ hp nx
  rintro k σ hp nx hk ⟨h0,h13,h14,h15,he⟩
  by_cases hlt:k<l.length
  ·have hw:IntKind.i64.wrap ((k:Int)+1)=(k:Int)+1:=zc (by omega) (by omega)
   obtain⟨s,hs⟩:∃s,l[k]=s:=⟨_,rfl⟩
   have hm:=vF (List.getElem_mem hlt)
   rw[hs] at hm
   have hmc:s.cb=1+s.name.length+tbs s.ins+tbs s.outs+s.cond.cb:=rfl
   have hnl:s.name.length≤lim:=by omega
   have hpv:Qw l (k+1)=some s.name:=by simp[Qw,hlt,hs]
   have hcs:=fun hp nx=>zmT (fun s=>int (xZ s)) s hp nx (by omega) rfl
   rw[zjv hlt,hs] at he
   cases d1:qi s.name
   ·rw[d1,if_neg (by simp)] at he
    have hv:yc l=5:=by unfold yc;rw[if_neg c0,he,if_neg (by decide)]
    simp[h0,h13,h14,h15,hlt,hs,hnl,d1,hv,Tryz.f6]
   rw[d1,if_pos rfl] at he
   have key:yK (Qw l k) s.name=true∨yK (Qw l k) s.name=false:=by cases yK (Qw l k) s.name<;>simp
   by_cases k0:k=0
   ·subst k0
    have w1:IntKind.i64.wrap 1=1:=zc (by omega) (by omega)
    simp only[Qw,yK,if_true,Bool.false_eq_true,if_false] at he
    by_cases c2:xZ s=0
    ·rw[if_pos c2] at he
     simp[h0,h13,h14,h15,hlt,hs,hnl,d1,hcs,c2,w1]
     exact⟨by omega,by rw[he,hpv];simp⟩
    ·rw[if_neg c2] at he
     have c2':(xZ s != 0)=true:=by simpa using c2
     have hv:yc l=xZ s:=by unfold yc;rw[if_neg c0,he,if_neg c2]
     simp[h0,h13,h14,h15,hlt,hs,hnl,d1,hcs,c2',hv,Tryz.f6]
   ·obtain⟨j,rfl⟩:∃j,k=j+1:=⟨k - 1,by omega⟩
    have hj:j<l.length:=by omega
    have wj:IntKind.i64.wrap ((j:Int)+1 - 1)=(j:Int):=by rw[zc (by omega) (by omega)];omega
    have wj':IntKind.i64.wrap (j:Int)=(j:Int):=zc (by omega) (by omega)
    have j1:((j:Int)+1).toNat=j+1:=by omega
    have j2:0<(j:Int)+1:=by omega
    have j3:0≤(j:Int)+1:=by omega
    have j4:(j:Int)+1<l.length:=by omega
    have wk:IntKind.i64.wrap ((j:Int)+1+1)=(j:Int)+1+1:=zc (by omega) (by omega)
    have el:(Op.bytesLess s.name l[j].name||s.name==l[j].name)=leB s.name l[j].name:=rfl
    have hpj:Qw l (j+1)=some l[j].name:=by simp[Qw,hj]
    simp only[hpj,yK] at he
    cases d2:leB s.name l[j].name
    ·rw[d2,if_neg (by simp)] at he
     by_cases c2:xZ s=0
     ·rw[if_pos c2] at he
      simp[h0,h13,h14,h15,hlt,hj,hs,hnl,d1,wj,wj',j1,j2,j3,j4,el,d2,wk,hcs,c2]
      exact⟨by omega,by rw[he,hpv]⟩
     ·rw[if_neg c2] at he
      have c2':(xZ s != 0)=true:=by simpa using c2
      have hv:yc l=xZ s:=by unfold yc;rw[if_neg c0,he,if_neg c2]
      simp[h0,h13,h14,h15,hlt,hj,hs,hnl,d1,wj,wj',j1,j2,j3,j4,el,d2,hcs,c2',hv,Tryz.f6]
    ·rw[d2,if_pos rfl] at he
     have hv:yc l=8:=by unfold yc;rw[if_neg c0,he,if_neg (by decide)]
     simp[h0,h13,h14,h15,hlt,hj,hs,hnl,d1,wj,wj',j1,j2,j3,j4,el,d2,hv,Tryz.f6]
  ·obtain rfl:k=l.length:=by omega
   rw[List.drop_length] at he
   have he:Qf none l=0:=by rw[he];rfl
   simp[h0,h13,h14,h15,he]
 clear h0 σ hp nx
 rintro σ hp nx ⟨h0,hG⟩
 refine yv (fun σ hp nx=>σ 0=.sl 10 (l.map Sgm.enc)∧(l.all fun s=>xT l s.cond)=true) ?_ ?_
 ·simp[h0]
  refine zu (fun k σ hp nx=>σ 0=.sl 10 (l.map Sgm.enc)∧σ 43=.sl 10 (l.map Sgm.enc)∧σ 44=int l.length∧σ 45=int k∧(l.all fun s=>xT l s.cond)=(l.drop k).all fun s=>xT l s.cond) l.length ⟨by simp[h0],by simp,by simp,by simp,by simp⟩ ?_
  clear h0 σ hp nx
  rintro k σ hp nx hk ⟨h0,h43,h44,h45,he⟩
  by_cases hlt:k<l.length
  ·have hw:IntKind.i64.wrap ((k:Int)+1)=(k:Int)+1:=zc (by omega) (by omega)
   obtain⟨s,hs⟩:∃s,l[k]=s:=⟨_,rfl⟩
   have hm:=vF (List.getElem_mem hlt)
   rw[hs] at hm
   have hmc:s.cb=1+s.name.length+tbs s.ins+tbs s.outs+s.cond.cb:=rfl
   have hkn:=fun hp nx=>zpE l s.cond hp nx (by omega) (by omega)
   rw[List.drop_eq_getElem_cons hlt,hs,List.all_cons] at he
   cases c1:xT l s.cond
   ·rw[c1,Bool.false_and] at he
    have hv:yc l=9:=by unfold yc;rw[if_neg c0,if_pos hG,he,if_neg (by simp)]
    simp[h0,h43,h44,h45,hlt,hs,hkn,c1,hv,Tryz.f6]
   ·rw[c1,Bool.true_and] at he
    simp[h0,h43,h44,h45,hlt,hs,hkn,c1,hw]
    exact⟨by omega,he⟩
  ·obtain rfl:k=l.length:=by omega
   rw[List.drop_length] at he
   simp only[List.all_nil] at he
   simp[h0,h43,h44,h45]
   exact List.all_eq_true.1 he
 clear h0 σ hp nx
 rintro σ hp nx ⟨h0,hK⟩
 have hkn:∀s∈l,∀n∈s.cond.names,jz l n=true:=fun s hs n hn=>List.all_eq_true.1 (List.all_eq_true.1 hK s hs) n hn
 have hm1:l.length≤maxLen:=by unfold maxLen;omega
 have hm2:l.length*8≤140737488355328:=by omega
 simp[h0,yV,hm1,hm2]
 obtain⟨P,hP⟩:∃P,nx=P:=⟨_,rfl⟩
 rw[hP]
 refine zu (fun k σ hp nx=>σ 0=.sl 10 (l.map Sgm.enc)∧σ 8=.own P 0 l.length∧σ 59=int l.length∧σ 60=int k∧P<nx∧∃st:List Int,st.length=l.length∧jV st<2097153∧hp P=some (zpF st)∧zf9 l=(zrR l st ((List.range l.length).drop k)).1) l.length
  ⟨by simp[h0],by simp,by simp,by simp,by simp,List.replicate l.length 0,by simp,by rw[zaq];omega,by simp[zpF],by simp[zf9]⟩ ?_
 clear h0 hP σ hp nx
 rintro k σ hp nx hk ⟨h0,h8,h59,h60,hPn,st,hsl,hws,hb,he⟩
 by_cases hlt:k<l.length
 ·have hw:IntKind.i64.wrap ((k:Int)+1)=(k:Int)+1:=zc (by omega) (by omega)
  obtain⟨x,hp2,nx2,e1,rfl,r2,n2,f2⟩:=zh3 l h hkn P 2097153 st k hp nx hws hsl hlt hPn hb
  have hkp:=ya (qT l) 2097153 st k
  rw[List.drop_eq_getElem_cons (by simpa using hlt),List.getElem_range] at he
  unfold zrR at he
  cases hc:(yT (qT l) 2097153 st k).1
  ·rw[kO hc] at he
   rw[hc] at e1
   simp[h0,h8,h59,h60,hlt,e1,hw]
   exact⟨by omega,by omega,_,by rw[hkp.len];exact hsl,Nat.lt_of_le_of_lt hkp.wh hws,r2,by rw[he];rfl⟩
  ·rw[xc hc] at he
   rw[hc] at e1
   have hv:yc l=12:=by unfold yc;rw[if_neg c0,if_pos hG,if_pos hK,if_pos he]
   simp[h0,h8,h59,h60,hlt,e1,hv,Tryz.f6]
 ·obtain rfl:k=l.length:=by omega
  have he:zf9 l=false:=by
   rw[he,List.drop_of_length_le (by simp)]
   rfl
  have hv:yc l=0:=by unfold yc;rw[if_neg c0,if_pos hG,if_pos hK,he,if_neg (by simp)]
  simp[h0,h8,h59,h60,hv,Tryz.f6]
theorem kP:za prog 6 (zd false [] (FSs fun l=>int (yc l))) :=
 zL (fn:=Tryz.f6) zsf zmU false [] _ fun args r h=>by
  obtain⟨l,rfl,h1,rfl⟩:=ze h
  exact⟨Nat.le_trans (Nat.le_refl 1) (by decide),_,W7 l h1,zK _⟩
noncomputable def x0 (s:Sgm) (q:List UInt8):Int:=if qi s.name=true then (if leB s.name q=true then 8 else xZ s) else 5
noncomputable def zvx (out:Sgm→List UInt8→PV):List PV→Option PV:=zJ (α:=Sgm×List UInt8) (fun a=>[.agg a.1.enc,str a.2]) (fun a=>a.1.cb≤lim) fun a=>out a.1 a.2
theorem zmV (out:Sgm→List UInt8→PV) (s:Sgm) (q:List UInt8) (hp:Hp) (nx:Nat) (h:s.cb≤lim) (hf:(out s q).flat=true):zd false [] (zvx out) [.agg s.enc,str q] hp nx=some (out s q,hp,nx) :=
 zH (hp1:=hp) (show zj hp [.agg s.enc,str q]=some ([.agg s.enc,str q],hp) by simp[qJ]) (zm (enc:=fun a:Sgm×List UInt8=>[PV.agg a.1.enc,str a.2]) (a:=(s,q)) (fun a b e=>by
  obtain⟨a1,a2⟩:=a;obtain⟨b1,b2⟩:=b
  simp only[List.cons.injEq,and_true,PV.agg.injEq] at e
  rw[QR e.1,qg e.2]) h) (.inl hf)
noncomputable abbrev zwG:Ctx:=zC prog [(31,zd false [] (FS qi)),(43,zd false [] (FTl (fun l=>int (ja l)) fun l=>tbs l≤lim)),(21,zd false [1] (FTS fun l v=>boo (decide (v∈l)))),(44,GC fun c=>int c.check)]
theorem J0 {α:Type} {p:α→Bool} {l:List α} {k:Nat} (h:k<l.length):(l.drop k).any p=(p l[k]||(l.drop (k+1)).any p):=by
 rw[List.drop_eq_getElem_cons h,List.any_cons]
theorem W8 (s:Sgm) (q:List UInt8) (h:s.cb≤lim):zg zwG f19 [.agg s.enc,str q]=some (int (x0 s q)):=by
 have hmc:s.cb=1+s.name.length+tbs s.ins+tbs s.outs+s.cond.cb:=rfl
 have hil:=xG s.ins
 have hol:=xG s.outs
 unfold lim at h
 have hnl:s.name.length≤lim:=by unfold lim;omega
 have k1:=fun hp nx=>JW (fun l=>int (ja l)) (fun l=>tbs l≤lim) s.ins hp nx (by unfold lim;omega) rfl
 have k2:=fun hp nx=>JW (fun l=>int (ja l)) (fun l=>tbs l≤lim) s.outs hp nx (by unfold lim;omega) rfl
 have k3:=fun hp nx=>vE (fun c=>int c.check) s.cond hp nx (by unfold lim;omega)
 have el:(Op.bytesLess s.name q||s.name==q)=leB s.name q:=rfl
 refine zb rfl ?_
 unfold x0
 cases c0:qi s.name
 ·simp[hnl,c0,f19]
 cases c1:leB s.name q
 case true=>simp[hnl,c0,el,c1,f19]
 by_cases c2:ja s.ins=0
 case neg =>
  have hv:xZ s=ja s.ins:=by unfold xZ;rw[if_neg c2]
  have c2':(ja s.ins != 0)=true:=by simpa using c2
  simp[hnl,c0,el,c1,k1,c2',hv,f19]
 by_cases c3:ja s.outs=0
 case neg =>
  have hv:xZ s=ja s.outs:=by unfold xZ;rw[if_pos c2,if_neg c3]
  have c3':(ja s.outs != 0)=true:=by simpa using c3
  simp[hnl,c0,el,c1,k1,c2,k2,c3',hv,f19]
 simp[hnl,c0,el,c1,k1,c2,k2,c3]
 refine zu (fun k σ hp nx=>σ 2=.ref 0 0 0∧σ 32=.sl 1 (zD s.ins)∧σ 33=int s.ins.length∧σ 34=int k∧1≤nx∧hp 0=some (zgw s)∧(s.ins.any fun k=>s.outs.contains k)=(s.ins.drop k).any fun k=>s.outs.contains k) s.ins.length
  ⟨by simp,by simp,by simp,by simp,by simp,by simp[zgw],by simp⟩ ?_
 rintro k σ hp nx hk ⟨h2,h32,h33,h34,hnx,b0,hf⟩
 simp only[zgw] at b0
 by_cases hlt:k<s.ins.length
 ·have hw:IntKind.i64.wrap ((k:Int)+1)=(k:Int)+1:=zc (by omega) (by omega)
  obtain⟨x,hx⟩:∃x,s.ins[k]=x:=⟨_,rfl⟩
  rw[J0 hlt,hx] at hf
  have k4:=fun hp nx=>W5 (fun l v=>boo (decide (v∈l))) s.outs x hp nx (by unfold lim;omega)
  by_cases d:x∈s.outs
  ·have hv:xZ s=7:=by
    unfold xZ
    rw[if_pos c2,if_pos c3,hf]
    simp[d]
   simp[h2,h32,h33,h34,hlt,hx,b0,k4,d,hv,f19]
  ·have d':s.outs.contains x=false:=by simpa using d
   rw[d',Bool.false_or] at hf
   simp[h2,h32,h33,h34,hlt,hx,b0,k4,d,hw]
   and_intros<;>first | omega | exact b0 | rfl | simpa using hf
 ·obtain rfl:k=s.ins.length:=by omega
  rw[List.drop_length] at hf
  have hv:xZ s=s.cond.check:=by
   unfold xZ
   rw[if_pos c2,if_pos c3,hf]
   simp
  simp[h2,h32,h33,h34,b0,k3,hv,f19]
theorem QV:za prog 19 (zd false [] (zvx fun s q=>int (x0 s q))) :=
 zL (fn:=f19) (zk (q:=[]) mixed ⟨xx,by simp,JM,by simp,jo,by simp,zb7,by simp,trivial⟩:AM.Good zwG _) ⟨_,func19,by kernel_rfl,rfl,by kernel_rfl⟩ false [] _ fun args r h=>by
  obtain⟨⟨s,q⟩,rfl,h1,rfl⟩:=ze h
  exact⟨Nat.le_trans (Nat.le_refl 2) (by decide),_,W8 s q h1,zK _⟩
theorem YU:za prog 92 (zd false [] FOd) :=
 zL (fn:=f92) yl ⟨_,func92,by kernel_rfl,rfl,by kernel_rfl⟩ false [] _ fun args r h=>by
  obtain⟨⟨a,b,c⟩,rfl,_,rfl⟩:=ze h
  refine⟨by simp[f92],_,zb rfl ?_,zK _⟩
  by_cases h1:a=3
  ·simp[h1,zhU,f92]
  have h1':(a==3)=false:=by simpa using h1
  by_cases h2:a=4
  ·simp[h2,zhU,f92]
  have h2':(a==4)=false:=by simpa using h2
  by_cases h3:a=5
  ·simp[h3,zhU,f92]
  have h3':(a==5)=false:=by simpa using h3
  simp[h1,h1',h2,h2',h3,h3',zhU,f92]
noncomputable def zgx (v:Val) (l:List Val):Bool:=l.any fun w=>zO v w==0
noncomputable def FVL (out:Val→List Val→PV):List PV→Option PV:=zJ (α:=Val×List Val) (fun a=>[.agg a.1.enc,.sl 5 (a.2.map Val.enc)]) (fun a=>a.1.vb≤lim∧vbs a.2≤lim) fun a=>out a.1 a.2
theorem zh5 (out:Val→List Val→PV) (v:Val) (l:List Val) (hp:Hp) (nx:Nat) (h:v.vb≤lim∧vbs l≤lim) (hf:(out v l).flat=true):zd false [] (FVL out) [.agg v.enc,.sl 5 (l.map Val.enc)] hp nx=some (out v l,hp,nx) :=
 zH (hp1:=hp) (show zj hp [.agg v.enc,.sl 5 (l.map Val.enc)]=some ([.agg v.enc,.sl 5 (l.map Val.enc)],hp) by simp[js]) (zm (enc:=fun a:Val×List Val=>[PV.agg a.1.enc,.sl 5 (a.2.map Val.enc)]) (a:=(v,l)) (fun a b e=>by
  obtain⟨a1,a2⟩:=a;obtain⟨b1,b2⟩:=b
  simp only[List.cons.injEq,and_true,PV.agg.injEq] at e
  obtain⟨e1,e2⟩:=e
  injection e2 with _ e2
  rw[jR e1,yz (fun _ _=>jR) e2]) h) (.inl hf)
noncomputable abbrev zue:Ctx:=zC prog [(117,zd false [] (FCV lim))]
theorem zjS (v:Val) (l:List Val) (hv:v.vb≤lim) (hl:vbs l≤lim):zg zue f90 [.agg v.enc,.sl 5 (l.map Val.enc)]=some (boo (zgx v l)):=by
 have hm:=fun w (hw:w∈l)=>wA hw
 have hlen:=qD l
 have hlim:lim=2097152:=rfl
 refine zb rfl ?_
 unfold zgx
 simp
 refine zu (fun k σ hp nx=>σ 2=.ref 0 0 0∧σ 7=.sl 5 (l.map Val.enc)∧σ 8=int l.length∧σ 9=int k∧1≤nx∧hp 0=some ⟨61,5,false,[v.enc]⟩∧(l.any fun w=>zO v w==0)=(l.drop k).any fun w=>zO v w==0) l.length
  ⟨by simp,by simp,by simp,by simp,by simp,by simp,by simp⟩ ?_
 rintro k σ hp nx hk ⟨h2,h7,h8,h9,hnx,b0,hf⟩
 have n1:¬0=nx:=by omega
 by_cases hlt:k<l.length
 ·have hw:IntKind.i64.wrap ((k:Int)+1)=(k:Int)+1:=zc (by omega) (by omega)
  obtain⟨x,hx⟩:∃x,l[k]=x:=⟨_,rfl⟩
  have hxm:=hm x (by rw[←hx];exact List.getElem_mem hlt)
  rw[J0 hlt,hx] at hf
  have k1:=fun hp nx=>vm lim v x hp nx ⟨hv,hv,by omega⟩
  cases d:(zO v x==0)
  ·rw[d,Bool.false_or] at hf
   simp[h2,h7,h8,h9,hlt,hx,b0,n1,k1,d,hw]
   and_intros<;>first | omega | exact b0 | exact hf | simpa using hf | simp[n1,b0]
  ·rw[d,Bool.true_or] at hf
   simp[h2,h7,h8,h9,hlt,hx,b0,n1,k1,d,hf,f90]
 ·obtain rfl:k=l.length:=by omega
  rw[List.drop_length] at hf
  simp[h2,h7,h8,h9,hf,f90]
theorem zgy:za prog 90 (zd false [] (FVL fun v l=>boo (zgx v l))) :=
 zL (fn:=f90) (zk (q:=[]) mixed ⟨Qt lim,by simp,trivial⟩:AM.Good zue _) ⟨_,func90,by kernel_rfl,rfl,by kernel_rfl⟩ false [] _ fun args r h=>by
  obtain⟨⟨v,l⟩,rfl,h1,rfl⟩:=ze h
  exact⟨Nat.le_trans (Nat.le_refl 2) (by decide),_,zjS v l h1.1 h1.2,zK _⟩
theorem zuf (s:List UInt8):(rvR s).2.1≤3:=by
 unfold rvR
 split
 ·decide
 ·rename_i hl
  split
  ·decide
  ·rename_i st hst
   split
   ·exact (by decide:(0:Int)≤3)
   ·have:=JY _ _ _ _ hst
    have h0:part0.has=0:=rfl
    simp only[h0] at this
    simp only
    omega
noncomputable abbrev zug:Ctx:=zC prog [(159,zd false [] (VU rvP)),(160,zG [.g jP] (FVr fun v=>int (wV v)))]
theorem YV (t:List UInt8) (ht:t.length+1≤lim):∃r0,zg zug f119 [str t]=some r0∧Stands r0 (rdP t):=by
 refine qt (sh:=.g jP) rfl ?_
 have g1:=fun hp nx=>wu rvP t hp nx ht
 simp only[rvP,Ver.enc] at g1
 have hrd:=zt1 t
 have hle:=zuf t
 by_cases c:(rvR t).2.2=true∧(rvR t).2.1=3
 ·rw[if_pos c] at hrd
  obtain⟨c1,c2⟩:=c
  obtain⟨hck,hsm⟩:=Vz hrd
  have g2:=fun hp nx=>xI (rvR t).1 hp nx hsm
  simp only[Ver.enc,hck] at g2
  simp[g1,c1,c2,g2,rdP,hrd,zF,Ver.enc,f119]
 ·rw[if_neg c] at hrd
  cases c1:(rvR t).2.2
  ·rw[c1] at g1
   simp[g1,zx,zR,rdP,hrd,zF,ver0,Ver.enc,f119]
  ·have c2:(rvR t).2.1<3:=by
    have:¬(rvR t).2.1=3:=fun h=>c ⟨c1,h⟩
    omega
   rw[c1] at g1
   simp[g1,c2,zx,zR,rdP,hrd,zF,ver0,Ver.enc,f119]
theorem W9:za prog 119 (zd false [] (VU rdP)) :=
 xw (fn:=f119) (zk (q:=[]) mixed ⟨ji,by simp,yU,by simp,trivial⟩:AM.Good zug _) ⟨_,func119,by kernel_rfl,rfl,by kernel_rfl⟩ false [] _ fun args r h w S vs hz=>by
  obtain⟨t,rfl,ht,rfl⟩:=ze h
  obtain⟨r0,h1,h2⟩:=YV t ht
  exact⟨_,r0,hz,by simp[f119],h1,h2⟩
noncomputable abbrev zwH:Ctx:=zC prog [(109,zd false [] (FTT hpP fun _ _=>True)),(110,zd false [] (FTT hsP fun _ _=>True)),(111,zd false [] (FTT zp1 fun _ _=>True)),(118,zd false [] (FTT zsM fun _ _=>True)),(119,zd false [] (VU rdP)),(120,zd false [] (VU rrP)),(121,zd false [] (FVR zeQ))]
theorem zb9 (a:Int) (b c:List UInt8) (h:b.length+1≤lim) (h2:c.length+1≤lim):zg zwH f94 [int a,str b,str c]=some (boo (zas a b c)):=by
 refine zb rfl ?_
 have g7:=fun hp nx=>Yl b c hp nx (by omega) (by omega)
 have g8:=fun hp nx=>zge b c hp nx (by omega) (by omega)
 have g9:∀hp nx,zd false [] (FTT zp1 fun _ _=>True) [str b,str c] hp nx=some (boo (Lib.contains b c),hp,nx):=fun hp nx=>wq _ _ b c hp nx (by omega) (by omega) trivial rfl
 have g10:∀hp nx,zd false [] (FTT zsM fun _ _=>True) [str b,str c] hp nx=some (boo (WV b c),hp,nx):=fun hp nx=>wq _ _ b c hp nx (by omega) (by omega) trivial rfl
 have g11:=fun hp nx=>wu rdP b hp nx h
 have g12:=fun hp nx=>wu rrP c hp nx h2
 by_cases h7:a=7
 ·simp[h7,g7,zas,f94]
 have h7':(a==7)=false:=by simpa using h7
 by_cases h8:a=8
 ·simp[h8,g8,zas,f94]
 have h8':(a==8)=false:=by simpa using h8
 by_cases h9:a=9
 ·simp[h9,g9,zas,f94]
 have h9':(a==9)=false:=by simpa using h9
 by_cases h10:a=10
 ·simp[h10,g10,zas,f94]
 have h10':(a==10)=false:=by simpa using h10
 have hv:zas a b c=ztV b c:=by unfold zas;rw[if_neg h7,if_neg h8,if_neg h9,if_neg h10]
 rw[hv]
 unfold ztV
 cases hr:rdV b with
 | none =>
   simp only[rdP,hr] at g11
   simp[h7',h8',h9',h10',g11,ver0,Ver.enc,f94]
 | some v =>
   have hs:=(Vz hr).2
   have g13:=fun hp nx=>zhS zeQ v (yD c).1 hp nx hs (WW c) rfl
   simp only[rdP,hr] at g11
   simp only[rrP] at g12
   simp only[zeQ] at g13
   simp only[Ver.enc] at g11 g13
   simp[h7',h8',h9',h10',g11,g12,g13,f94]
theorem XC:za prog 94 (zd false [] FFt) :=
 zL (fn:=f94) (zk (q:=[]) mixed ⟨kE,by simp,ZM,by simp,vt,by simp,zgp,by simp,W9,by simp,xR,by simp,zmD,by simp,trivial⟩:AM.Good zwH _) ⟨_,func94,by kernel_rfl,rfl,by kernel_rfl⟩ false [] _ fun args r h=>by
  obtain⟨⟨a,b,c⟩,rfl,⟨h1,h2⟩,rfl⟩:=ze h
  exact⟨by simp[f94],_,zb9 a b c h1 h2,zK _⟩
end Go.Proofs.YtjcofiomfmebkaaGreatDoor
