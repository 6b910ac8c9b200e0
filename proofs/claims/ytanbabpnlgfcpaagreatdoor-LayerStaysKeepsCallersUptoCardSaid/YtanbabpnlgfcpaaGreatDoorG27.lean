/-
layer.where: the experiments in which a context is.
The law: pieces are apart and not free.
What an experiment has at a time (the program's Has).
Plain law: names of a right book in order; sets within the buckets.
Plain law: where a caller is: in one experiment of a layer, whose buckets have its bucket.
Spans: the two laws' evaluation.
For all segments, books, contexts and times (of bulk up to 1048576) the law burgeelaw4.LayerWhereIsOnce answers true: its evaluation.
-/
import Derived.Test.YtanbabpnlgfcpaaGreatDoorG24
import Derived.Test.YtanbabpnlgfcpaaGreatDoorG26
import Derived.Test.YtanbabpnlgfcpaaGreatDoorG23
set_option maxRecDepth 8000
namespace Go.Proofs.YtanbabpnlgfcpaaGreatDoor
open Go.Proofs.Tryz
open Go.RowKit Go.AM Go.SpanLaw
theorem AskR.congr {l:List Sgm} {x:Ctxt} {ida m:Nat} {u:Unit} {hp hp':Hp} (h:AskR l x ida m u hp) (h1:hp' ida=hp ida) (h2:hp' m=hp m):AskR l x ida m u hp':=by
 obtain⟨g1,M,g2,g3⟩:=h
 exact⟨h1.trans g1,M,h2.trans g2,g3⟩
theorem ask_holds {l:List Sgm} {x:Ctxt} {ida m nx0:Nat} (hne:ida≠m) (hid:ida<nx0) (hm:m<nx0) (hok:SegOk l) (hl:sgb l≤lim) (hx:x.cb+2≤lim) (c:Cnd) (hc:c.cb≤lim) (hg:c.check=0) (hn:∀n∈c.names,kr l n=true) (hp:Hp) (nx:Nat) (hn1:nx0≤nx) (hR:AskR l x ida m () hp) :
  ∃r hp' nx',holdS (memS 101) lim [.ref ida 0 0,.agg c.enc] hp nx=some (r,hp',nx')∧qL (·=m) (AskR l x ida m) (boo (hF l x c)) () hp nx r hp' nx' :=
 Zc (mem:=memS 101) (I:=fun j=>j<l.length∧rkG l j<101) hne hid hm (Nat.le_trans (sgb_len l) hl) hx (fun j hp nx hj hn hr=>mem_run hne hid hm hok hl hx 101 j hp nx hj.1 hj.2 hn hr) lim c hp nx hc hc (good_check hg) (fun n hn'=>⟨idx_lt (hn n hn'),by have:=rkG_le hok (idxG l n);omega⟩) hn1 hR
structure Pl where
 ly:List UInt8
 ex:List UInt8
 bu:Int
 arm:Int
def qp (p:Pl):List PV:=[str p.ly,str p.ex,int p.bu,int p.arm]
theorem encPl_inj {a b:Pl} (h:qp a=qp b):a=b:=by
 obtain⟨a1,a2,a3,a4⟩:=a;obtain⟨b1,b2,b3,b4⟩:=b
 simp only[qp,List.cons.injEq,and_true] at h
 rw[zM h.1,zM h.2.1,zD h.2.2.1,zD h.2.2.2]
noncomputable def inX (l:List Sgm) (x:Ctxt) (n:Int) (y:Lyr) (e:Xp):Bool:=e.layer==y.name&&((hasG [] n e.phases).any (inSp (xy y.salt x.key))&&hF l x e.cond)
def plX (x:Ctxt) (y:Lyr) (e:Xp):Pl:=⟨y.name,e.name,xy y.salt x.key,varF e.arms (xy e.salt x.key)⟩
noncomputable def whX (l:List Sgm) (x:Ctxt) (n:Int) (y:Lyr):List Xp→List Pl
 | []=>[]
 | e::t=>(if inX l x n y e=true then [plX x y e] else [])++whX l x n y t
noncomputable def whL (l:List Sgm) (b:Bk) (x:Ctxt) (n:Int):List Lyr→List Pl
 | []=>[]
 | y::t=>(if (js y.name x.key b.holds).2=true then [] else whX l x n y b.exps)++whL l b x n t
theorem whX_len (l:List Sgm) (x:Ctxt) (n:Int) (y:Lyr):∀es:List Xp,(whX l x n y es).length≤es.length
 | []=>Nat.le_refl _
 | e::t=>by
   have:=whX_len l x n y t
   simp only[whX,List.length_append,List.length_cons]
   split<;>simp<;>omega
theorem whL_len (l:List Sgm) (b:Bk) (x:Ctxt) (n:Int):∀ys:List Lyr,(whL l b x n ys).length≤ys.length*b.exps.length
 | []=>by simp[whL]
 | y::t=>by
   have h1:=whL_len l b x n t
   have h2:=whX_len l x n y b.exps
   simp only[whL,List.length_append,List.length_cons,Nat.add_mul,Nat.one_mul]
   split<;>simp<;>omega
theorem chk_lens {b:Bk} (h:qb b=0):b.layers.length≤20∧b.exps.length≤100:=by
 unfold qb at h
 split at h
 ·simp at h
 ·omega
theorem chk_exp {b:Bk} (h:qb b=0):∀e∈b.exps,qy e.arms 20=0∧e.cond.check=0:=by
 have key:∀{L:List Lyr} {xs:List Xp} {before:List UInt8} {l:List (List UInt8)},(vU L before l xs).1=0→∀y∈xs,qy y.arms 20=0∧y.cond.check=0:=by
  intro L xs
  induction xs with
  | nil=>intro _ _ _ y hy;cases hy
  | cons x xs ih =>
    intro before l hh y hy
    simp only[vU] at hh
    split at hh
    ·rename_i c
     rcases List.mem_cons.1 hy with rfl | hy
     ·exact⟨(expF_ok c).2.2.1,(expF_ok c).2.2.2.1⟩
     ·exact ih hh y hy
    ·rename_i c;exact absurd hh c
 unfold qb at h
 split at h
 ·simp at h
 split at h
 case isFalse c=>exact absurd h c
 split at h
 case isFalse c=>exact absurd h c
 split at h
 case isFalse c=>exact absurd h c
 rename_i c3
 exact key c3
noncomputable abbrev Cwhr:Ctx:=zA prog [(35,askS),(20,zc false [] (FBSS fun b s t=>htP (js s t b.holds))),(36,zc false [] (FTT buP fun _ _=>True)),(23,zc false [] (FXI (fun x n=>.sl 2 ((hasG [] n x.phases).map encS)) fun x _=>x.phases.length≤lim)),(37,zc false [] (FSI fun l n=>boo (l.any (inSp n)))),(38,holdS (memS 101) lim),(39,zc false [] (FRN (fun l n=>int (varF l n)) fun l n=>qy l 20=0∧0≤n∧n<100000))]
theorem goodwhr:AM.Good Cwhr (fun g=>[36,39].contains g):=zk mixed ⟨ask_sound,by simp,held_sound,by simp,bucket_sound,fun _=>zg _ _,hasX_sound,by simp,holdsB_sound,by simp,hold_sound (mem_sound 101) lim,by simp,varAtF_sound,fun _=>zg _ _,trivial⟩
set_option maxRecDepth 100000 in
theorem whr_known:kz Cwhr (fun g=>[36,39].contains g) 17 f17:=⟨_,func17,by kernel_rfl,rfl,by kernel_rfl⟩
def boxB (b:Bk):Blk:=⟨27,3,false,[b.enc]⟩
def boxT (x:Ctxt):Blk:=⟨30,2,false,[x.enc]⟩
def boxY (y:Lyr):Blk:=⟨94,3,false,[y.enc]⟩
set_option maxHeartbeats 4000000 in
theorem where_eval (l:List Sgm) (b:Bk) (x:Ctxt) (n:Int) (hok:SegOk l) (hl:sgb l≤lim) (hb:b.cb≤lim) (hx:x.cb+2≤lim) (hchk:qb b=0) (hnm:∀e∈b.exps,∀m∈e.cond.names,kr l m=true) :
  ∃r0,zi Cwhr f17 [.sl 10 (l.map Sgm.enc),.agg b.enc,.agg x.enc,int n]=some r0∧Stands r0 (.sl 4 ((whL l b x n b.layers).map qp)):=by
 refine wS rfl ?_
 have hlim:lim=2097152:=rfl
 obtain⟨hll,hxl⟩:=chk_lens hchk
 have hex:=chk_exp hchk
 have hbc:b.cb=sumB Lyr.cb b.layers+sumB Hld.cb b.holds+sumB Xp.cb b.exps:=rfl
 have hxc:=xcb_eq x
 obtain⟨T,hT⟩:∃T,whL l b x n b.layers=T:=⟨_,rfl⟩
 have hTl:T.length≤2000:=by
  have:=whL_len l b x n b.layers
  rw[hT] at this
  have h2:=Nat.mul_le_mul hll hxl
  omega
 rw[hT]
 have hask:=ask_run l x (upd (upd (fun _=>none) 0 (some (boxB b))) 1 (some (boxT x))) 2
 simp only[boxB,boxT] at hask
 refine yf (fun σ hp nx=>σ 0=.sl 10 (l.map Sgm.enc)∧σ 3=int n∧σ 5=.ref 0 0 0∧σ 6=.ref 1 0 0∧hp=upd (upd (fun _=>none) 0 (some (boxB b))) 1 (some (boxT x))∧nx=2) (by simp[boxB,boxT,Bk.enc,Ctxt.enc]) ?_
 rintro σ hp nx ⟨h0,h3,h5,h6,rfl,rfl⟩
 refine yf (fun σ hp nx=>σ 3=int n∧σ 5=.ref 0 0 0∧σ 6=.ref 1 0 0∧σ 9=.nil∧σ 0=.sl 10 (l.map Sgm.enc)∧hp=upd (upd (fun _=>none) 0 (some (boxB b))) 1 (some (boxT x))∧nx=2) (by simp[h0,h3,h5,h6]) ?_
 clear h0 h3 h5 h6 σ
 rintro σ hp nx ⟨h3,h5,h6,h9,h0,rfl,rfl⟩
 refine yf (fun σ hp nx=>σ 3=int n∧σ 5=.ref 0 0 0∧σ 6=.ref 1 0 0∧σ 9=.nil∧σ 10=.ref 4 0 0∧5≤nx∧hp 0=some (boxB b)∧hp 1=some (boxT x)∧AskR l x 4 3 () hp) ?_ ?_
 ·simp only[Ctxt.enc] at hask
  simp[h0,h3,h5,h6,h9,boxB,boxT,Ctxt.enc,hask]
  exact⟨rfl,[],rfl,fun p hp=>by cases hp⟩
 clear h0 h3 h5 h6 h9 hask σ
 rintro σ hp nx ⟨h3,h5,h6,h9,h10,hnx,b0,b1,hR⟩
 have b0':=b0
 simp only[boxB,Bk.enc] at b0'
 simp[h5,b0']
 refine zC (fun k σ hp nx=>σ 3=int n∧σ 5=.ref 0 0 0∧σ 6=.ref 1 0 0∧σ 10=.ref 4 0 0∧σ 23=.sl 3 (b.layers.map Lyr.enc)∧σ 24=int b.layers.length∧σ 25=int k∧5≤nx∧hp 0=some (boxB b)∧hp 1=some (boxT x)∧AskR l x 4 3 () hp∧∃d,OwnS hp nx 37 4 (σ 9) (d.map qp)∧d++whL l b x n (b.layers.drop k)=T) b.layers.length
  ⟨by simp[h3],by simp[h5],by simp[h6],by simp[h10],by simp,by simp,by simp,hnx,b0,b1,hR,[],.inl (by simp[h9]),by simpa using hT⟩ ?_
 clear h3 h5 h6 h9 h10 hnx b0 b1 hR b0' σ hp nx
 rintro k σ hp nx hk ⟨h3,h5,h6,h10,h23,h24,h25,hnx,b0,b1,hR,d,hO,hd⟩
 by_cases hlt:k<b.layers.length
 ·obtain⟨y,hy⟩:∃y,b.layers[k]=y:=⟨_,rfl⟩
  have hmy:=qA (f:=Lyr.cb) (List.getElem_mem hlt)
  rw[hy] at hmy
  have hyc:y.cb=1+y.name.length+y.salt.length:=rfl
  have hw:IntKind.i64.wrap ((k:Int)+1)=(k:Int)+1:=zd (by omega) (by omega)
  have n0:¬0=nx:=by omega
  have n1:¬1=nx:=by omega
  rw[List.drop_eq_getElem_cons hlt,hy,whL] at hd
  have hO1:=hO.more (some (boxY y))
  have hR1:=hR.upd (j:=nx) (some (boxY y)) (by omega) (by omega)
  have g1:∀hp nx,zc false [] (FBSS fun b s t=>htP (js s t b.holds)) [.agg b.enc,str y.name,str x.key] hp nx=some (.tup [str (js y.name x.key b.holds).1,boo (js y.name x.key b.holds).2],hp,nx):=fun hp nx=>FBSS_call (fun b s t=>htP (js s t b.holds)) b y.name x.key hp nx hb (by omega) (by omega)
  have g2:=fun hp nx=>bu_call y.salt x.key hp nx (by omega) (by omega)
  have b0':=b0
  have b1':=b1
  simp only[boxB,Bk.enc] at b0'
  simp only[boxT,Ctxt.enc] at b1'
  simp only[Bk.enc] at g1
  simp only[boxY] at hO1 hR1
  cases ch:(js y.name x.key b.holds).2
  case true =>
   rw[ch,if_pos rfl,List.nil_append] at hd
   rw[ch] at g1
   simp only[Lyr.enc] at hO1 hR1
   simp[h3,h5,h6,h10,h23,h24,h25,hlt,hy,Lyr.enc,n0,n1,b0',b1',g1,hw]
   exact⟨by omega,by omega,rfl,rfl,hR1,d,hO1,hd⟩
  rw[ch,if_neg (by simp)] at hd
  rw[ch] at g1
  simp[h3,h5,h6,h10,h23,h24,h25,hlt,hy,Lyr.enc,n0,n1,b0',b1',g1,g2]
  obtain⟨P,hP⟩:∃P,nx=P:=⟨_,rfl⟩
  rw[hP] at hO1 hR1 hnx n0 n1 ⊢
  refine zC (fun i σ hp nx=>σ 3=int n∧σ 5=.ref 0 0 0∧σ 6=.ref 1 0 0∧σ 10=.ref 4 0 0∧σ 23=.sl 3 (b.layers.map Lyr.enc)∧σ 24=int b.layers.length∧σ 25=int k∧σ 12=.ref P 0 0∧σ 15=int (xy y.salt x.key)∧σ 45=.sl 13 (b.exps.map Xp.enc)∧σ 46=int b.exps.length∧σ 47=int i∧P<nx∧hp 0=some (boxB b)∧hp 1=some (boxT x)∧hp P=some (boxY y)∧AskR l x 4 3 () hp∧∃d,OwnS hp nx 37 4 (σ 9) (d.map qp)∧d++(whX l x n y (b.exps.drop i)++whL l b x n (b.layers.drop (k+1)))=T) b.exps.length
   ⟨by simp[h3],by simp[h5],by simp[h6],by simp[h10],by simp[h23],by simp[h24],by simp[h25],by simp,by simp,by simp,by simp,by simp,(by show P<P+1;omega),by simp only;rw[ze _ _ _ _ n0];exact b0,by simp only;rw[ze _ _ _ _ n1];exact b1,by simp[boxY,Lyr.enc],by simpa[Lyr.enc] using hR1,d,by simpa[Lyr.enc] using hO1,by simpa using hd⟩ ?_
  clear h3 h5 h6 h10 h23 h24 h25 b0 b1 hR hO hd hO1 hR1 b0' b1' hP d g1 n0 n1 hk σ hp nx
  rintro i σ hp nx hi ⟨h3,h5,h6,h10,h23,h24,h25,h12,h15,h45,h46,h47,hPn,b0,b1,bP,hR,d,hO,hd⟩
  by_cases hli:i<b.exps.length
  ·obtain⟨e,he⟩:∃e,b.exps[i]=e:=⟨_,rfl⟩
   have hem:e∈b.exps:=by rw[←he];exact List.getElem_mem hli
   have hme:=qA (f:=Xp.cb) hem
   have hec:e.cb=e.name.length+e.layer.length+e.flag.length+e.cond.cb+e.salt.length+e.arms.length+sumB Phs.cb e.phases:=rfl
   have hepl:=qg phs_pos e.phases
   have hwi:IntKind.i64.wrap ((i:Int)+1)=(i:Int)+1:=zd (by omega) (by omega)
   have n0:¬0=nx:=by omega
   have n1:¬1=nx:=by omega
   have nP:¬P=nx:=by omega
   rw[List.drop_eq_getElem_cons hli,he,whX] at hd
   have hO1:=hO.more (some (boxX e))
   have hR1:=hR.upd (j:=nx) (some (boxX e)) (by omega) (by omega)
   have b0':=b0
   have b1':=b1
   have bP':=bP
   simp only[boxB,Bk.enc] at b0'
   simp only[boxT,Ctxt.enc] at b1'
   simp only[boxY,Lyr.enc] at bP'
   have k0:upd hp nx (some (boxX e)) 0=some (boxB b):=by rw[ze _ _ _ _ n0];exact b0
   have k1:upd hp nx (some (boxX e)) 1=some (boxT x):=by rw[ze _ _ _ _ n1];exact b1
   have kP:upd hp nx (some (boxX e)) P=some (boxY y):=by rw[ze _ _ _ _ nP];exact bP
   by_cases c1:e.layer=y.name
   case neg =>
    have c1':(e.layer==y.name)=false:=by simpa using c1
    have hin:inX l x n y e=false:=by simp[inX,c1']
    rw[hin,if_neg (by simp),List.nil_append] at hd
    rw[boxX,zS] at hO1 hR1 k0 k1 kP
    simp[h3,h5,h6,h10,h23,h24,h25,h12,h15,h45,h46,h47,hli,he,zS,nP,bP',c1',hwi]
    exact⟨by omega,by omega,k0,k1,rfl,hR1,d,hO1,hd⟩
   have c1':(e.layer==y.name)=true:=by simpa using c1
   have hhc:=fun hp nx=>FXI_call (fun x n=>.sl 2 ((hasG [] n x.phases).map encS)) (fun x _=>x.phases.length≤lim) e n hp nx (by omega)
   obtain⟨L,hL⟩:∃L,hasG [] n e.phases=L:=⟨_,rfl⟩
   have hLl:L.length≤lim:=by have:=hasG_len n e.phases;rw[hL] at this;omega
   rw[hL] at hhc
   have hhb:=fun hp nx=>FSI_call (fun l n=>boo (l.any (inSp n))) L (xy y.salt x.key) hp nx hLl rfl
   cases c2:L.any (inSp (xy y.salt x.key))
   ·have hin:inX l x n y e=false:=by simp[inX,hL,c2]
    rw[hin,if_neg (by simp),List.nil_append] at hd
    rw[c2] at hhb
    rw[boxX,zS] at hO1 hR1 k0 k1 kP
    simp only[zS] at hhc
    simp[h3,h5,h6,h10,h23,h24,h25,h12,h15,h45,h46,h47,hli,he,zS,nP,bP',c1',hhc,hhb,hwi]
    exact⟨by omega,by omega,k0,k1,rfl,hR1,d,hO1,hd⟩
   rw[c2] at hhb
   obtain⟨hex1,hex2⟩:=hex e hem
   obtain⟨r,hp2,nx2,e1,rfl,r2,n2,f2⟩:=ask_holds (nx0:=5) (by decide) (by decide) (by decide) hok hl hx e.cond (by omega) hex2 (hnm e hem) (upd hp nx (some (boxX e))) (nx+1) (by omega) hR1
   have q0:hp2 0=some (boxB b):=by rw[f2 0 (by omega) (by decide)];exact k0
   have q1:hp2 1=some (boxT x):=by rw[f2 1 (by omega) (by decide)];exact k1
   have qP:hp2 P=some (boxY y):=by rw[f2 P (by omega) (by omega)];exact kP
   have qX:hp2 nx=some (boxX e):=by rw[f2 nx (by omega) (by omega)];simp
   obtain⟨M0,hM0,_⟩:=hR1.2
   have hO2:OwnS hp2 nx2 37 4 (σ 9) (d.map qp):=hO1.same n2 fun id m hv=>by
    have hno:=y8 hO1 hM0 rfl m
    have hlt:id<nx+1:=by
     rcases hO1 with⟨hn,_⟩ | ⟨id',hid',hv',_⟩
     ·rw[hn] at hv;cases hv
     ·rw[hv'] at hv;injection hv with hv;omega
    refine f2 id hlt fun h3=>hno ?_
    have h3:id=3:=h3
    rw[hv,h3]
   cases c3:hF l x e.cond
   ·have hin:inX l x n y e=false:=by simp[inX,c3]
    rw[hin,if_neg (by simp),List.nil_append] at hd
    rw[c3] at e1
    simp only[boxX,zS] at e1
    simp only[ql] at e1
    simp only[zS] at hhc
    simp[h3,h5,h6,h10,h23,h24,h25,h12,h15,h45,h46,h47,hli,he,zS,nP,bP',c1',hhc,hhb,e1,hwi]
    exact⟨by omega,by omega,q0,q1,qP,r2,d,hO2,hd⟩
   have hin:inX l x n y e=true:=by simp[inX,hL,c1',c2,c3]
   rw[hin,if_pos rfl] at hd
   rw[c3] at e1
   have g3:=fun hp nx=>bu_call e.salt x.key hp nx (by omega) (by omega)
   have hbl:=buck_lt e.salt x.key
   have g4:=fun hp nx=>FRN_call (fun l n=>int (varF l n)) (fun l n=>qy l 20=0∧0≤n∧n<100000) e.arms (xy e.salt x.key) hp nx ⟨hex1,by omega,by omega⟩
   have hdl:d.length+1≤2000:=by
    have:=congrArg List.length hd
    simp only[List.length_append,List.length_cons,List.length_nil] at this
    omega
   obtain⟨p,hp0⟩:∃p,plX x y e=p:=⟨_,rfl⟩
   rw[hp0] at hd
   have hap:=hO2.append1 (P:=prog) (t:=32) (c:=qp p) el32 sz37 by37 ze37 rfl (by omega) (by rw[List.length_map];unfold maxLen;omega) (by rw[List.length_map];omega)
   have hbs:∀hp nx,zl prog hp nx 32 1 [(0,.agg (qp p))]=some (.own nx 0 1,upd hp nx (some ⟨37,4,true,[qp p]⟩),nx+1):=fun hp nx=>by
    simp[zl,zx,zm,qp]
   have hke:=fun j (h:∀m,σ 9≠.own j 0 m)=>qq hO2 (upd hp2 nx2 (some ⟨37,4,true,[qp p]⟩)) j h
   have kk0:=hke 0 (y8 hO2 q0 rfl)
   have kk1:=hke 1 (y8 hO2 q1 rfl)
   have kkP:=hke P (y8 hO2 qP rfl)
   have kk4:=hke 4 (y8 hO2 r2.1 rfl)
   obtain⟨M2,hM2,_⟩:=r2.2
   have kk3:=hke 3 (y8 hO2 hM2 rfl)
   rw[ze _ _ _ _ (by omega)] at kk0 kk1 kkP kk4 kk3
   have qX':=qX
   have qP':=qP
   have q1':=q1
   simp only[boxX,zS] at e1 qX'
   simp only[ql] at e1
   simp only[boxY,Lyr.enc] at qP'
   simp only[boxT,Ctxt.enc] at q1'
   simp only[zS] at hhc
   rw[←hp0] at hap hbs kk0 kk1 kkP kk4 kk3 hd
   simp only[qp,plX,List.length_map] at hap hbs kk0 kk1 kkP kk4 kk3
   simp[h3,h5,h6,h10,h23,h24,h25,h12,h15,h45,h46,h47,hli,he,zS,nP,bP',c1',hhc,hhb,e1,qX',qP',q1',g3,g4,zK,z8,hbs,hap,hwi]
   refine⟨by omega,by omega,kk0.trans q0,?_,?_,r2.congr ?_ ?_,d++[plX x y e],.inr ⟨nx2+1,by omega,by simp,by simp[qp,plX]⟩,by rw[List.append_assoc];exact hd⟩
   ·rw[ze _ _ _ _ (by omega)];exact kk1.trans q1
   ·rw[ze _ _ _ _ (by omega)];exact kkP.trans qP
   ·rw[ze _ _ _ _ (by omega)];exact kk4
   ·rw[ze _ _ _ _ (by omega)];exact kk3
  ·obtain rfl:i=b.exps.length:=by omega
   rw[List.drop_length,whX,List.nil_append] at hd
   simp[h3,h5,h6,h10,h23,h24,h25,h12,h15,h45,h46,h47,hw]
   exact⟨by omega,by omega,b0,b1,hR,d,hO,hd⟩
 ·obtain rfl:k=b.layers.length:=by omega
  rw[List.drop_length,whL,List.append_nil] at hd
  subst hd
  simp[h3,h5,h6,h10,h23,h24,h25,f17]
  obtain⟨r0,g1,g2⟩:=hO.freeze nx
  exact⟨r0,g1,fun w S u hr=>up_rep hr g2⟩
def wPre (a:List Sgm×Bk×Ctxt×Int):Prop:=SegOk a.1∧sgb a.1≤lim∧a.2.1.cb≤lim∧a.2.2.1.cb+2≤lim∧qb a.2.1=0∧∀e∈a.2.1.exps,∀m∈e.cond.names,kr a.1 m=true
def encW (a:List Sgm×Bk×Ctxt×Int):List PV:=[.sl 10 (a.1.map Sgm.enc),.agg a.2.1.enc,.agg a.2.2.1.enc,int a.2.2.2]
theorem encW_inj (a b:List Sgm×Bk×Ctxt×Int) (e:encW a=encW b):a=b:=by
 obtain⟨a1,a2,a3,a4⟩:=a;obtain⟨b1,b2,b3,b4⟩:=b
 simp only[encW,List.cons.injEq,and_true,PV.agg.injEq] at e
 rw[sgms_inj e.1,bk_inj e.2.1,ctxt_inj e.2.2.1,zD e.2.2.2]
noncomputable def FWh (out:List Sgm→Bk→Ctxt→Int→PV) (pre:List Sgm×Bk×Ctxt×Int→Prop):List PV→Option PV:=zG encW pre (fun a=>out a.1 a.2.1 a.2.2.1 a.2.2.2)
theorem FWh_call (out:List Sgm→Bk→Ctxt→Int→PV) (pre:List Sgm×Bk×Ctxt×Int→Prop) (l:List Sgm) (b:Bk) (x:Ctxt) (n:Int) (hp:Hp) (nx:Nat) (h:pre (l,b,x,n)):zc false [] (FWh out pre) [.sl 10 (l.map Sgm.enc),.agg b.enc,.agg x.enc,int n] hp nx=some (out l b x n,hp,nx) :=
 zt (hp1:=hp) (show zh hp [.sl 10 (l.map Sgm.enc),.agg b.enc,.agg x.enc,int n]=some ([.sl 10 (l.map Sgm.enc),.agg b.enc,.agg x.enc,int n],hp) by simp[Bk.enc,Ctxt.enc]) (zn (a:=(l,b,x,n)) encW_inj h) (.inr (by simp[Bk.enc,Ctxt.enc]))
theorem where_sound:za prog 17 (zc false [] (FWh (fun l b x n=>.sl 4 ((whL l b x n b.layers).map qp)) wPre)) :=
 xN (fn:=f17) goodwhr whr_known false [] _ fun args r h w S vs hz=>by
  obtain⟨⟨l,b,x,n⟩,rfl,⟨h1,h2,h3,h4,h5,h6⟩,rfl⟩:=zf h
  obtain⟨r0,g1,g2⟩:=where_eval l b x n h1 h2 h3 h4 h5 h6
  exact⟨_,r0,hz,Nat.le_trans (Nat.le_refl 4) (by decide),g1,g2⟩
noncomputable def whR (l:List Sgm) (b:Bk) (x:Ctxt) (n:Int):List Pl×Int:=if chkB l b=0 then (if j6 n=true then (if x.fault=0 then (whL l b x n b.layers,0) else ([],x.fault)) else ([],1)) else ([],chkB l b)
def plTup (r:List Pl×Int):PV:=.tup [.sl 4 (r.1.map qp),int r.2]
theorem chkB_ok {l:List Sgm} {b:Bk} (h:chkB l b=0):SegOk l∧qb b=0∧∀e∈b.exps,∀m∈e.cond.names,kr l m=true:=by
 unfold chkB at h
 split at h
 case isFalse c=>exact absurd h c
 rename_i c
 have hok:=segs_ok c
 obtain⟨h1,h2⟩:=checkN_ok h
 refine⟨hok,h1,fun e he m hm=>?_⟩
 have:=List.all_eq_true.1 (h2 e he) m hm
 unfold kr
 rw[bsN_any hok.up,List.contains_iff_mem]
 exact of_decide_eq_true this
theorem vx (f:Int):Stands (.tup [.nil,int f]) (plTup ([],f)):=StandsL.tup (.cons (.nilOr (.inl ⟨rfl,rfl⟩)) (.cons (.refl _) .nil))
noncomputable abbrev CWhr:Ctx:=zA prog [(14,zc false [] (FLB fun l b=>int (chkB l b))),(15,zc false [] (FIb j6)),(16,zc false [] (FX fun x=>int x.fault)),(17,zc false [] (FWh (fun l b x n=>.sl 4 ((whL l b x n b.layers).map qp)) wPre))]
theorem goodWhr:AM.Good CWhr (fun g=>([]:List Nat).contains g):=zk mixed ⟨Check_sound,by simp,yF,by simp,checkCtx_sound,by simp,where_sound,by simp,trivial⟩
theorem Where_eval (l:List Sgm) (b:Bk) (x:Ctxt) (n:Int) (hl:sgb l≤lim) (hb:b.cb≤lim) (hx:x.cb+2≤lim):∃r0,zi CWhr Tryz.f6 [.sl 10 (l.map Sgm.enc),.agg b.enc,.agg x.enc,int n]=some r0∧Stands r0 (plTup (whR l b x n)):=by
 refine wS rfl ?_
 have g1:=fun hp nx=>FLB_call (fun l b=>int (chkB l b)) l b hp nx hl hb
 have g2:=fun hp nx=>FX_call (fun x=>int x.fault) x hp nx (by omega)
 simp only[Bk.enc] at g1
 simp only[Ctxt.enc] at g2
 by_cases c1:chkB l b=0
 case neg =>
  have c1':(chkB l b != 0)=true:=by simpa using c1
  have hv:whR l b x n=([],chkB l b):=by unfold whR;rw[if_neg c1]
  rw[hv]
  simp[Bk.enc,Ctxt.enc,g1,c1',Tryz.f6]
  exact⟨_,by simp,vx _⟩
 obtain⟨k1,k2,k3⟩:=chkB_ok c1
 have g3:=fun hp nx=>FWh_call (fun l b x n=>.sl 4 ((whL l b x n b.layers).map qp)) wPre l b x n hp nx ⟨k1,hl,hb,hx,k2,k3⟩
 simp only[Bk.enc,Ctxt.enc] at g3
 cases c2:j6 n
 ·have hv:whR l b x n=([],1):=by unfold whR;rw[if_pos c1,c2,if_neg (by simp)]
  rw[hv]
  simp[Bk.enc,Ctxt.enc,g1,c1,c2,Tryz.f6]
  exact⟨_,by simp,vx _⟩
 by_cases c3:x.fault=0
 case neg =>
  have c3':(x.fault != 0)=true:=by simpa using c3
  have hv:whR l b x n=([],x.fault):=by unfold whR;rw[if_pos c1,c2,if_pos rfl,if_neg c3]
  rw[hv]
  simp[Bk.enc,Ctxt.enc,g1,c1,c2,g2,c3',Tryz.f6]
  exact⟨_,by simp,vx _⟩
 have hv:whR l b x n=(whL l b x n b.layers,0):=by unfold whR;rw[if_pos c1,c2,if_pos rfl,if_pos c3]
 rw[hv]
 simp[Bk.enc,Ctxt.enc,g1,c1,c2,g2,c3,g3,Tryz.f6]
 exact⟨plTup (whL l b x n b.layers,0),by simp[plTup],.refl _⟩
theorem Where_sound:za prog 6 (zc false [] (FWh (fun l b x n=>plTup (whR l b x n)) fun a=>sgb a.1≤lim∧a.2.1.cb≤lim∧a.2.2.1.cb+2≤lim)) :=
 xN (fn:=Tryz.f6) goodWhr ⟨_,func6,by kernel_rfl,rfl,by kernel_rfl⟩ false [] _ fun args r h w S vs hz=>by
  obtain⟨⟨l,b,x,n⟩,rfl,⟨h1,h2,h3⟩,rfl⟩:=zf h
  obtain⟨r0,g1,g2⟩:=Where_eval l b x n h1 h2 h3
  exact⟨_,r0,hz,Nat.le_trans (Nat.le_refl 4) (by decide),g1,g2⟩
theorem hasG_at (n:Int):∀(l:List Phs) (acc:List Sp),(hasG acc n l=acc∧∀p∈l,n<p.at_)∨∃(k:Nat) (p:Phs),l[k]?=some p∧p.at_≤n∧hasG acc n l=p.spans∧∀q,l[k+1]?=some q→n<q.at_
 | [],acc=>.inl ⟨rfl,fun p hp=>by simp at hp⟩
 | p0::l,acc=>by
   simp only[hasG]
   rcases hasG_at n l (if p0.at_≤n then p0.spans else acc) with⟨h1,h2⟩ | ⟨k,p,h1,h2,h3,h4⟩
   ·by_cases hc:p0.at_≤n
    ·rw[if_pos hc] at h1 ⊢
     refine .inr ⟨0,p0,rfl,hc,h1,fun q hq=>?_⟩
     exact h2 q (List.mem_of_getElem? (by simpa using hq))
    ·rw[if_neg hc] at h1 ⊢
     refine .inl ⟨h1,fun p hp=>?_⟩
     rcases List.mem_cons.1 hp with rfl | hp
     ·omega
     ·exact h2 p hp
   ·exact .inr ⟨k+1,p,by simpa using h1,h2,h3,fun q hq=>h4 q (by simpa using hq)⟩
theorem hasG_run {n:Int} {l:List Phs} (hn:n≤4000000000):hasG [] n l=[]∨∃(k:Nat) (p:Phs),l[k]?=some p∧p.at_≤n∧hasG [] n l=p.spans∧n<endF l k:=by
 rcases hasG_at n l [] with⟨h,_⟩ | ⟨k,p,h1,h2,h3,h4⟩
 ·exact .inl h
 ·refine .inr ⟨k,p,h1,h2,h3,?_⟩
  unfold endF
  split
  ·rename_i q hq;exact h4 q hq
  ·omega
theorem restOf_pos {b:Bk} (h:qb b=0) (s:List UInt8):0≤restOf b.layers s∧restOf b.layers s≤100000000:=by
 unfold restOf
 split
 ·rename_i y hy;exact (chk_ok h).1 y (List.mem_of_getElem? hy)
 ·omega
def DisjS (a b:Sp):Prop:=a.2≤b.1∨b.2≤a.1
theorem canon_ge:∀{lo:Int} {l:List Sp},vp lo l→∀s∈l,lo<s.1
 | _,[],_,s,h=>by simp at h
 | lo,x::l,hc,s,h=>by
   rcases List.mem_cons.1 h with rfl | h
   ·exact hc.1
   ·have:=canon_ge hc.2.2 s h
    have:=hc.1;have:=hc.2.1
    omega
theorem meets_disj:∀(l m:List Sp) {lo lo':Int},vp lo l→vp lo' m→wX l m=false→∀a∈l,∀c∈m,DisjS a c
 | [],m,_,_,_,_,_,a,ha,c,hc=>by simp at ha
 | x::l,[],_,_,_,_,_,a,ha,c,hc=>by simp at hc
 | x::l,y::m,lo,lo',h1,h2,h,a,ha,c,hc=>by
   rw[wX] at h
   split at h
   ·rename_i g
    have ih:=meets_disj l (y::m) h1.2.2 h2 h
    rcases List.mem_cons.1 ha with rfl | ha
    ·left
     rcases List.mem_cons.1 hc with rfl | hc
     ·exact g
     ·have:=canon_ge h2.2.2 c hc
      have:=h2.2.1
      omega
    ·exact ih a ha c hc
   ·split at h
    ·rename_i g
     have ih:=meets_disj (x::l) m h1 h2.2.2 h
     rcases List.mem_cons.1 hc with rfl | hc
     ·right
      rcases List.mem_cons.1 ha with rfl | ha
      ·exact g
      ·have:=canon_ge h1.2.2 a ha
       have:=h1.2.1
       omega
     ·exact ih a ha c hc
    ·exact absurd h (by simp)
termination_by l m=>l.length+m.length
theorem clash2_false {a b:List Phs} {i:Nat} {p:Phs} {rest:Int}:∀{l:List Phs} {k:Nat},vu a b i p rest k l=false→∀(m:Nat) (q:Phs),l[m]?=some q→hitB a b i (k+m) p q rest=false
 | [],k,_,m,q,hq=>by simp at hq
 | y::l,k,h,m,q,hq=>by
   simp only[vu,Bool.or_eq_false_iff] at h
   cases m with
   | zero=>simp at hq;subst hq;exact h.1
   | succ m =>
     have:=clash2_false h.2 m q (by simpa using hq)
     rw[show k+1+m=k+(m+1) by omega] at this
     exact this
theorem clash1_false {a b:List Phs} {rest:Int}:∀{l:List Phs} {i:Nat},vv a b rest i l=false→∀(m:Nat) (p:Phs),l[m]?=some p→vu a b (i+m) p rest 0 b=false
 | [],i,_,m,q,hq=>by simp at hq
 | y::l,i,h,m,q,hq=>by
   simp only[vv,Bool.or_eq_false_iff] at h
   cases m with
   | zero=>simp at hq;subst hq;exact h.1
   | succ m =>
     have:=clash1_false h.2 m q (by simpa using hq)
     rw[show i+1+m=i+(m+1) by omega] at this
     exact this
theorem clash_disj {x y:Xp} {rest n:Int} (hr:0≤rest) (hn:n≤4000000000) (h:xg x y rest=false) (hx:∀p∈x.phases,qx p.spans=0) (hy:∀p∈y.phases,qx p.spans=0):∀a∈hasG [] n x.phases,∀c∈hasG [] n y.phases,DisjS a c:=by
 rcases hasG_run (l:=x.phases) hn with e | ⟨i,p,h1,h2,h3,h4⟩
 ·rw[e];intro a ha;simp at ha
 rcases hasG_run (l:=y.phases) hn with e | ⟨k,q,g1,g2,g3,g4⟩
 ·rw[e];intro a ha c hc;simp at hc
 rw[h3,g3]
 have hh:=clash2_false (clash1_false h i p h1) k q g1
 rw[Nat.zero_add,Nat.zero_add] at hh
 have hnear:nearB x.phases y.phases i k p q rest=true:=by
  unfold nearB
  rcases Int.le_total p.at_ q.at_ with hle | hle
  ·rw[decide_eq_true hle,decide_eq_true (show q.at_<endF x.phases i+rest by omega)];rfl
  ·rw[decide_eq_true hle,decide_eq_true (show p.at_<endF y.phases k+rest by omega)];simp
 unfold hitB at hh
 rw[hnear,Bool.true_and] at hh
 exact meets_disj p.spans q.spans (kv (hx p (List.mem_of_getElem? h1))).1 (kv (hy q (List.mem_of_getElem? g1))).1 hh
theorem cls_pair {L:List Lyr} {all:List Xp}:∀{l:List Xp} {k:Nat},l=all.drop k→clsF L all k l=false→∀j (hj:j<all.length),k≤j→(all.take j).any (cls1 all[j] (restOf L all[j].layer))=false
 | [],k,hl,_,j,hj,hkj=>by
   have:=congrArg List.length hl
   simp at this
   omega
 | x::l,k,hl,h,j,hj,hkj=>by
   simp only[clsF,Bool.or_eq_false_iff] at h
   have hk:k<all.length:=by omega
   rw[List.drop_eq_getElem_cons hk] at hl
   injection hl with e1 e2
   rcases Nat.eq_or_lt_of_le hkj with rfl | hlt
   ·rw[←e1];exact h.1
   ·exact cls_pair e2 h.2 j hj hlt
def Apart (s:List UInt8) (n:Int) (x y:Xp):Prop:=x.layer=s→y.layer=s→∀a∈hasG [] n x.phases,∀c∈hasG [] n y.phases,DisjS a c
theorem exps_apart {b:Bk} (h:qb b=0) (s:List UInt8) {n:Int} (hn:n≤4000000000):b.exps.Pairwise (Apart s n):=by
 rw[List.pairwise_iff_getElem]
 intro i j hi hj hij hx hy
 obtain⟨_,hex,hcl⟩:=chk_ok h
 have hc:=cls_pair (all:=b.exps) (k:=0) rfl hcl j hj (Nat.zero_le _)
 rw[List.any_eq_false] at hc
 have hm:b.exps[i]∈b.exps.take j:=by rw[List.mem_take_iff_getElem];exact⟨i,by omega,rfl⟩
 have hc:=hc _ hm
 have hcl:xg b.exps[j] b.exps[i] (restOf b.layers b.exps[j].layer)=false:=by
  simpa[cls1,hx,hy] using hc
 have:=clash_disj (restOf_pos h _).1 hn hcl (yi (hex _ (List.getElem_mem hj)).1) (yi (hex _ (List.getElem_mem hi)).1)
 exact fun a ha c hc=>(this c hc a ha).elim .inr .inl
noncomputable def chkX (b:Bk) (s:List UInt8) (n:Int):Int:=if qb b=0 then (if (bsN (b.exps.map Xp.name) s).2=true then (if j6 n=true then 0 else 1) else 5) else qb b
noncomputable def kE (b:Bk) (s:List UInt8) (n:Int):Nat:=if chkX b s n=0 then (bsN (b.exps.map Xp.name) s).1 else 0
noncomputable abbrev Ccx:Ctx:=zA prog [(40,zc false [] (FBk fun b=>int (qb b))),(44,zc false [] FOfX),(15,zc false [] (FIb j6))]
theorem goodcx:AM.Good Ccx (fun g=>([]:List Nat).contains g):=zk mixed ⟨xcb_sound,by simp,ofX_sound,by simp,yF,by simp,trivial⟩
theorem cx_eval (b:Bk) (s:List UInt8) (n:Int) (h:b.cb≤lim):zi Ccx f21 [.agg b.enc,str s,int n]=some (.tup [int (kE b s n),int (chkX b s n)]):=by
 refine zb rfl ?_
 have hlen:=qg xp_pos b.exps
 have hbc:b.cb=sumB Lyr.cb b.layers+sumB Hld.cb b.holds+sumB Xp.cb b.exps:=rfl
 have hk:=fun hp nx=>FBk_call (fun b=>int (qb b)) b hp nx h
 unfold lim at h
 have hof:=fun hp nx=>FOfX_call b.exps s hp nx (by unfold lim;omega)
 simp only[Bk.enc] at hk
 by_cases c1:qb b=0
 case neg =>
  have hv:chkX b s n=qb b:=by unfold chkX;rw[if_neg c1]
  have hi:kE b s n=0:=by unfold kE;rw[hv,if_neg c1]
  have c1':(qb b != 0)=true:=by simpa using c1
  simp[Bk.enc,hk,c1',hv,hi,zU,f21]
 cases c2:(bsN (b.exps.map Xp.name) s).2
 ·have hv:chkX b s n=5:=by unfold chkX;rw[if_pos c1,c2,if_neg (by simp)]
  have hi:kE b s n=0:=by unfold kE;rw[hv,if_neg (by decide)]
  simp[Bk.enc,hk,c1,hof,c2,hv,hi,zU,f21]
 cases c3:j6 n
 ·have hv:chkX b s n=1:=by unfold chkX;rw[if_pos c1,c2,if_pos rfl,c3,if_neg (by simp)]
  have hi:kE b s n=0:=by unfold kE;rw[hv,if_neg (by decide)]
  simp[Bk.enc,hk,c1,hof,c2,c3,hv,hi,zU,f21]
 ·have hv:chkX b s n=0:=by unfold chkX;rw[if_pos c1,c2,if_pos rfl,c3,if_pos rfl]
  have hi:kE b s n=(bsN (b.exps.map Xp.name) s).1:=by unfold kE;rw[hv,if_pos rfl]
  simp[Bk.enc,hk,c1,hof,c2,c3,hv,hi,zU,f21]
set_option maxRecDepth 100000 in
theorem cx_sound:za prog 21 (zc false [] (FBNI fun b s n=>.tup [int (kE b s n),int (chkX b s n)])) :=
 zJ (fn:=f21) goodcx ⟨_,func21,by kernel_rfl,rfl,by kernel_rfl⟩ false [] _ fun args r h=>by
  obtain⟨⟨b,s,n⟩,rfl,hx,rfl⟩:=zf h
  exact⟨by simp[f21],_,cx_eval b s n hx,zI _⟩
theorem cloneP_eval (es:List (List PV)) (hl:es.length≤lim) (y:PV) (hy:SlOf 2 es y):∃r0,zi C0 f22 [y]=some r0∧Stands r0 (.sl 2 es):=by
 refine wS rfl ?_
 cases hy with
 | nil =>
   simp[binA,xz,f22]
   exact⟨_,by simp,.nilOr (.inl ⟨rfl,rfl⟩)⟩
 | em =>
   simp[binA,xz,f22,zl,wO,AM.view,maxLen,zx,zm]
   exact⟨_,by simp,.refl _⟩
 | @sl c es =>
   unfold lim at hl
   simp at hl
   have m1:es.length+1≤maxLen:=by unfold maxLen;omega
   have m2:(es.length+1)*16≤140737488355328:=by omega
   simp[binA,xz,f22,zl,wO,AM.view,zx,zm,m1,m2]
   exact⟨_,by simp,.refl _⟩
theorem cloneP_sound:za prog 22 (zc false [] (FP (fun l=>.sl 2 (l.map encS)) fun l=>l.length≤lim)) :=
 xN (fn:=f22) wA ⟨_,func22,by kernel_rfl,rfl,by kernel_rfl⟩ false [] _ fun args r h w S vs hz=>by
  obtain⟨l,rfl,hx,rfl⟩:=zf h
  obtain⟨u,rfl,hr⟩:=xk hz
  obtain⟨y,hy,hr2⟩:=rep_slOf hr
  obtain⟨r0,h1,h2⟩:=cloneP_eval (l.map encS) (by simpa using hx) y hy
  exact⟨_,r0,.cons hr2 .nil,Nat.le_trans (Nat.le_refl 1) (by decide),h1,h2⟩
noncomputable def hasR (b:Bk) (s:List UInt8) (n:Int):List Sp×Int:=if chkX b s n=0 then (match b.exps[(bsN (b.exps.map Xp.name) s).1]? with
 | some x=>(hasG [] n x.phases,0)
 | none=>([],0)) else ([],chkX b s n)
theorem chkX_ok {b:Bk} {s:List UInt8} {n:Int} (h:chkX b s n=0):qb b=0∧(bsN (b.exps.map Xp.name) s).2=true∧j6 n=true:=by
 unfold chkX at h
 split at h
 ·rename_i c1
  split at h
  ·rename_i c2
   split at h
   ·rename_i c3;exact⟨c1,c2,c3⟩
   ·exact absurd h (by simp)
  ·exact absurd h (by simp)
 ·rename_i c;exact absurd h c
noncomputable abbrev Chx:Ctx:=zA prog [(21,zc false [] (FBNI fun b s n=>.tup [int (kE b s n),int (chkX b s n)])),(23,zc false [] (FXI (fun x n=>.sl 2 ((hasG [] n x.phases).map encS)) fun x _=>x.phases.length≤lim)),(22,zc false [] (FP (fun l=>.sl 2 (l.map encS)) fun l=>l.length≤lim))]
theorem goodhx:AM.Good Chx (fun g=>([]:List Nat).contains g):=zk mixed ⟨cx_sound,by simp,hasX_sound,by simp,cloneP_sound,by simp,trivial⟩
theorem Has_eval (b:Bk) (s:List UInt8) (n:Int) (hb:b.cb≤lim):∃r0,zi Chx Tryz.f8 [.agg b.enc,str s,int n]=some r0∧Stands r0 (spTup (hasR b s n)):=by
 refine wS rfl ?_
 have hbc:b.cb=sumB Lyr.cb b.layers+sumB Hld.cb b.holds+sumB Xp.cb b.exps:=rfl
 have hcl:=fun hp nx=>FBNI_call (fun b s n=>.tup [int (kE b s n),int (chkX b s n)]) b s n hp nx hb
 simp only[Bk.enc] at hcl
 by_cases c1:chkX b s n=0
 case neg =>
  have hv:hasR b s n=([],chkX b s n):=by unfold hasR;rw[if_neg c1]
  have c1':(chkX b s n != 0)=true:=by simpa using c1
  rw[hv]
  simp[Bk.enc,hcl,c1',Tryz.f8]
  exact⟨_,by simp,stands_nilS _⟩
 obtain⟨_,hfl,_⟩:=chkX_ok c1
 have hci:kE b s n=(bsN (b.exps.map Xp.name) s).1:=by unfold kE;rw[if_pos c1]
 obtain⟨q,hq⟩:∃q,(bsN (b.exps.map Xp.name) s).1=q:=⟨_,rfl⟩
 have hql:q<b.exps.length:=by have:=bsN_lt hfl;rw[hq] at this;simpa using this
 obtain⟨x,hx⟩:∃x,b.exps[q]=x:=⟨_,rfl⟩
 have hxm:x∈b.exps:=by rw[←hx];exact List.getElem_mem hql
 have hmx:=qA (f:=Xp.cb) hxm
 have hxc:x.cb=x.name.length+x.layer.length+x.flag.length+x.cond.cb+x.salt.length+x.arms.length+sumB Phs.cb x.phases:=rfl
 have hxpl:=qg phs_pos x.phases
 have hv:hasR b s n=(hasG [] n x.phases,0):=by unfold hasR;rw[if_pos c1,hq,List.getElem?_eq_getElem hql,hx]
 have hcl2:=hcl
 rw[c1,hci,hq] at hcl2
 have hhc:=fun hp nx=>FXI_call (fun x n=>.sl 2 ((hasG [] n x.phases).map encS)) (fun x _=>x.phases.length≤lim) x n hp nx (by unfold lim at hb ⊢;omega)
 have hlen:(hasG [] n x.phases).length≤lim:=by
  have:(hasG [] n x.phases).length≤sumB Phs.cb x.phases:=by
   have key:∀(l:List Phs) (acc:List Sp),(hasG acc n l).length≤acc.length+sumB Phs.cb l:=by
    intro l
    induction l with
    | nil=>intro acc;simp[hasG]
    | cons p l ih =>
      intro acc
      have h1:=ih (if p.at_≤n then p.spans else acc)
      have hpc:p.cb=1+p.spans.length:=rfl
      simp only[hasG,sumB,List.map_cons,List.sum_cons] at *
      split at h1<;>rename_i c<;>simp only[c,if_true,if_false]<;>omega
   simpa using key x.phases []
  unfold lim at hb ⊢
  omega
 have hcc:=fun hp nx=>FP_call (fun l=>.sl 2 (l.map encS)) (fun l=>l.length≤lim) (hasG [] n x.phases) hp nx hlen
 simp only[zS] at hhc
 rw[hv]
 simp[Bk.enc,hcl2,hql,hx,zS,hhc,hcc,Tryz.f8]
 exact⟨spTup (hasG [] n x.phases,0),by simp[spTup],.refl _⟩
set_option maxRecDepth 100000 in
theorem Has_sound:za prog 8 (zc false [] (FBNI fun b s n=>spTup (hasR b s n))) :=
 xN (fn:=Tryz.f8) goodhx ⟨_,func8,by kernel_rfl,rfl,by kernel_rfl⟩ false [] _ fun args r h w S vs hz=>by
  obtain⟨⟨b,s,n⟩,rfl,hx,rfl⟩:=zf h
  obtain⟨r0,h1,h2⟩:=Has_eval b s n hx
  exact⟨_,r0,hz,by simp[Tryz.f8],h1,h2⟩
theorem nameF_up {a b:List UInt8} (h:wF a b=0):qh a=true∧Op.bytesLess b a=true:=by
 unfold wF at h
 split at h
 ·rename_i c
  split at h
  ·exact absurd h (by simp)
  ·rename_i d;exact⟨c,yw (by simpa using d)⟩
 ·exact absurd h (by simp)
theorem layers_up:∀{xs:List Lyr} {before:List UInt8} {l:List (List UInt8)},(qt before l xs).1=0→(∀y∈xs,Op.bytesLess before y.name=true)∧UpN (xs.map Lyr.name)∧(qt before l xs).2=l++xs.map Lyr.salt
 | [],_,l,_=>⟨fun y hy=>by simp at hy,.nil,by simp[qt]⟩
 | x::xs,before,l,h=>by
   simp only[qt] at h ⊢
   split at h
   ·rename_i c1
    rw[if_pos c1]
    split at h
    ·rename_i c2
     rw[if_pos c2]
     split at h
     ·rename_i c3
      rw[if_pos c3]
      have hx:=(nameF_up c1).2
      obtain⟨h1,h2,h3⟩:=layers_up h
      refine⟨fun y hy=>?_,?_,?_⟩
      ·rcases List.mem_cons.1 hy with rfl | hy
       ·exact hx
       ·exact yr hx (h1 y hy)
      ·rw[List.map_cons]
       exact List.pairwise_cons.2 ⟨fun s hs=>by obtain⟨y,hy,rfl⟩:=List.mem_map.1 hs;exact h1 y hy,h2⟩
      ·rw[h3];unfold yk;rw[if_pos c2];simp
     ·exact absurd h (by simp)
    ·rename_i c;exact absurd h c
   ·rename_i c;exact absurd h c
theorem exps_up {L:List Lyr}:∀{xs:List Xp} {before:List UInt8} {l:List (List UInt8)},(vU L before l xs).1=0→(∀y∈xs,Op.bytesLess before y.name=true)∧UpN (xs.map Xp.name)
 | [],_,_,_=>⟨fun y hy=>by simp at hy,.nil⟩
 | x::xs,before,l,h=>by
   simp only[vU] at h
   split at h
   ·rename_i c
    have hx:=(nameF_up (expF_ok c).2.2.2.2).2
    obtain⟨h1,h2⟩:=exps_up h
    refine⟨fun y hy=>?_,?_⟩
    ·rcases List.mem_cons.1 hy with rfl | hy
     ·exact hx
     ·exact yr hx (h1 y hy)
    ·rw[List.map_cons]
     exact List.pairwise_cons.2 ⟨fun s hs=>by obtain⟨y,hy,rfl⟩:=List.mem_map.1 hs;exact h1 y hy,h2⟩
   ·rename_i c;exact absurd h c
theorem chk_up {b:Bk} (h:qb b=0):UpN (b.layers.map Lyr.name)∧UpN (b.exps.map Xp.name):=by
 unfold qb at h
 split at h
 ·exact absurd h (by simp)
 split at h
 ·rename_i c1
  split at h
  ·split at h
   ·rename_i c3;exact⟨(layers_up c1).2.1,(exps_up c3).2⟩
   ·rename_i c;exact absurd h c
  ·rename_i c;exact absurd h c
 ·rename_i c;exact absurd h c
theorem okS_nil:okS []:=⟨trivial,(fun s hs=>by cases hs),(fun s hs=>by cases hs),by simp⟩
theorem inX_spec {l:List Sgm} {x:Ctxt} {n:Int} {y:Lyr} {e:Xp} (h:inX l x n y e=true):e.layer=y.name∧(hasG [] n e.phases).any (inSp (xy y.salt x.key))=true∧hF l x e.cond=true:=by
 simp only[inX,Bool.and_eq_true,beq_iff_eq] at h
 exact h
theorem whX_mem {l:List Sgm} {x:Ctxt} {n:Int} {y:Lyr}:∀{es:List Xp} {p:Pl},p∈whX l x n y es↔∃e∈es,inX l x n y e=true∧p=plX x y e
 | [],p=>by simp[whX]
 | e::t,p=>by
   have ih:=whX_mem (l:=l) (x:=x) (n:=n) (y:=y) (es:=t) (p:=p)
   simp only[whX,List.mem_append,ih]
   constructor
   ·rintro (h | ⟨e',h1,h2,h3⟩)
    ·split at h
     ·rename_i hc
      simp at h
      exact⟨e,by simp,hc,h⟩
     ·cases h
    ·exact⟨e',by simp[h1],h2,h3⟩
   ·rintro⟨e',h1,h2,h3⟩
    rcases List.mem_cons.1 h1 with rfl | h1
    ·left;rw[if_pos h2];simp[h3]
    ·exact .inr ⟨e',h1,h2,h3⟩
theorem whL_mem {l:List Sgm} {b:Bk} {x:Ctxt} {n:Int}:∀{ys:List Lyr} {p:Pl},p∈whL l b x n ys↔∃y∈ys,(js y.name x.key b.holds).2=false∧∃e∈b.exps,inX l x n y e=true∧p=plX x y e
 | [],p=>by simp[whL]
 | y::t,p=>by
   have ih:=whL_mem (l:=l) (b:=b) (x:=x) (n:=n) (ys:=t) (p:=p)
   simp only[whL,List.mem_append,ih]
   constructor
   ·rintro (h | ⟨y',h1,h2⟩)
    ·split at h
     ·cases h
     ·rename_i hc
      exact⟨y,by simp,by simpa using hc,whX_mem.1 h⟩
    ·exact⟨y',by simp[h1],h2⟩
   ·rintro⟨y',h1,h2,h3⟩
    rcases List.mem_cons.1 h1 with rfl | h1
    ·left;rw[if_neg (by simp[h2])];exact whX_mem.2 h3
    ·exact .inr ⟨y',h1,h2,h3⟩
theorem inSp_any {l:List Sp} {n:Int} (h:l.any (inSp n)=true):∃s∈l,s.1≤n∧n<s.2:=by
 obtain⟨s,hs,hh⟩:=List.any_eq_true.1 h
 simp only[inSp,Bool.and_eq_true,decide_eq_true_eq] at hh
 exact⟨s,hs,hh⟩
theorem whX_pair {l:List Sgm} {x:Ctxt} {n:Int} {y:Lyr}:∀{es:List Xp},es.Pairwise (Apart y.name n)→(whX l x n y es).Pairwise fun _ _=>False
 | [],_=>.nil
 | e::t,h=>by
   rw[List.pairwise_cons] at h
   simp only[whX]
   split
   ·rename_i hc
    have:whX l x n y t=[]:=by
     refine List.eq_nil_iff_forall_not_mem.2 fun p hp=>?_
     obtain⟨e',h1,h2,_⟩:=whX_mem.1 hp
     obtain⟨a1,a2,_⟩:=inX_spec hc
     obtain⟨b1,b2,_⟩:=inX_spec h2
     obtain⟨s,hs,hs2⟩:=inSp_any a2
     obtain⟨s',hs',hs2'⟩:=inSp_any b2
     rcases h.1 e' h1 a1 b1 s hs s' hs' with g | g<;>omega
    rw[this]
    exact List.pairwise_singleton _ _
   ·exact whX_pair h.2
theorem whL_up {l:List Sgm} {b:Bk} {x:Ctxt} {n:Int} (hp:∀s,b.exps.Pairwise (Apart s n)):∀{ys:List Lyr},UpN (ys.map Lyr.name)→(whL l b x n ys).Pairwise fun a c=>Op.bytesLess a.ly c.ly=true
 | [],_=>.nil
 | y::t,h=>by
   unfold UpN at h
   rw[List.map_cons,List.pairwise_cons] at h
   simp only[whL]
   rw[List.pairwise_append]
   refine⟨?_,whL_up hp h.2,fun a ha c hc=>?_⟩
   ·split
    ·exact .nil
    ·exact (whX_pair (hp y.name)).imp fun hh=>hh.elim
   ·split at ha
    ·cases ha
    ·obtain⟨e,_,_,rfl⟩:=whX_mem.1 ha
     obtain⟨y',h1,_,e',_,_,rfl⟩:=whL_mem.1 hc
     exact h.1 _ (List.mem_map_of_mem h1)
theorem not_le {a b:List UInt8} (h:Op.bytesLess a b=true):leB b a=false:=by
 unfold leB
 rw[Bool.or_eq_false_iff]
 constructor
 ·cases hb:Op.bytesLess b a
  ·rfl
  ·have:=yr h hb
   rw[less_irr] at this
   cases this
 ·rw[beq_eq_false_iff_ne]
  rintro rfl
  rw[less_irr] at h
  cases h
theorem found_exp {b:Bk} (h:qb b=0) {e:Xp} (he:e∈b.exps):∃j:Nat,b.exps[j]?=some e∧bsN (b.exps.map Xp.name) e.name=(j,true):=by
 obtain⟨j,hj⟩:=List.getElem?_of_mem he
 exact⟨j,hj,bsN_of (chk_up h).2 (by rw[List.getElem?_map,hj];rfl)⟩
theorem found_lay {b:Bk} (h:qb b=0) {y:Lyr} (hy:y∈b.layers):(bsN (b.layers.map Lyr.name) y.name).2=true:=by
 obtain⟨j,hj⟩:=List.getElem?_of_mem hy
 rw[bsN_of (chk_up h).1 (j:=j) (by rw[List.getElem?_map,hj];rfl)]
theorem key_of {x:Ctxt} (h:x.fault=0):yA x.key=true:=by
 unfold Ctxt.fault at h
 split at h
 ·assumption
 ·simp at h
theorem where_law {l:List Sgm} {b:Bk} {x:Ctxt} {n:Int} (h:(whR l b x n).2=0) :
  ((whR l b x n).1.Pairwise fun a c=>Op.bytesLess a.ly c.ly=true)∧∀p∈(whR l b x n).1,(heldT b p.ly x.key).1.2=false∧(heldT b p.ly x.key).2=0∧(hasR b p.ex n).2=0∧(hasR b p.ex n).1.any (inSp p.bu)=true:=by
 unfold whR at h ⊢
 split at h
 case isFalse c=>exact absurd h c
 rename_i c1
 split at h
 case isFalse c=>simp at h
 rename_i c2
 split at h
 case isFalse c=>exact absurd h c
 rename_i c3
 rw[if_pos c1,if_pos c2,if_pos c3]
 obtain⟨_,hk,_⟩:=chkB_ok c1
 have hn:n≤4000000000:=by simp only[j6,inB,Bool.and_eq_true,decide_eq_true_eq] at c2;omega
 refine⟨whL_up (fun s=>exps_apart hk s hn) (chk_up hk).1,fun p hp=>?_⟩
 obtain⟨y,hy,hh,e,he,hin,rfl⟩:=whL_mem.1 hp
 obtain⟨_,a2,_⟩:=inX_spec hin
 have hcl:chkL b y.name 0=0:=by unfold chkL;rw[if_pos hk,if_pos (found_lay hk hy),if_pos (by decide)]
 have hht:heldT b y.name x.key=(js y.name x.key b.holds,0):=by unfold heldT;rw[if_pos hcl,if_pos (key_of c3)]
 obtain⟨j,hj,hb⟩:=found_exp hk he
 have hcx:chkX b e.name n=0:=by unfold chkX;rw[if_pos hk,hb,if_pos rfl,if_pos c2]
 have hhr:hasR b e.name n=(hasG [] n e.phases,0):=by unfold hasR;rw[if_pos hcx,hb];simp only[hj]
 simp only[plX]
 rw[hht,hhr]
 exact⟨hh,rfl,rfl,a2⟩
theorem Size_own {e id:Nat} {hp:Hp} (nx:Nat) (h:hp id=some ⟨e,2,true,[[int 3,int 5]]⟩):zc false [] (FP (fun l=>twoI (sizeR l)) fun _=>True) [.own id 0 1] hp nx=some (.tup [int 2,int 0],hp,nx):=by
 refine zt (show zh hp [.own id 0 1]=some ([.sl 2 (([(3,5)]:List Sp).map encS)],upd hp id none) by simp[zh,zF,zX,h]) ?_ (.inl rfl)
 exact zn (enc:=fun l:List Sp=>[PV.sl 2 (l.map encS)]) (a:=[(3,5)]) (fun a b e=>by simp only[List.cons.injEq,and_true] at e;exact yE e) trivial
def yesF (args:List PV):Option PV:=if args.isEmpty then some (boo true) else none
noncomputable abbrev Caw:Ctx:=zA prog [(13,zc false [] (FP (fun l=>twoI (sizeR l)) fun _=>True))]
theorem awake_eval:zi Caw Tryz.f5 []=some (boo true):=by
 have hbs:∀hp nx,zl prog hp nx 40 1 [(0,.agg [int 3,int 5])]=some (.own nx 0 1,upd hp nx (some ⟨45,2,true,[[int 3,int 5]]⟩),nx+1):=fun hp nx=>by
  simp[zl,zx,zm]
 have c1:=fun hp nx=>Size_own (e:=45) (id:=nx) (hp:=upd hp nx (some ⟨45,2,true,[[int 3,int 5]]⟩)) (nx+1) (by simp)
 refine zb rfl ?_
 simp[zK,z8,hbs,c1,Tryz.f5]
theorem awake_sound:za prog 5 (zc false [] yesF) :=
 zJ (fn:=Tryz.f5) (zk (q:=[]) mixed ⟨Size_sound,by simp,trivial⟩:AM.Good Caw _) ⟨_,func5,by kernel_rfl,rfl,by kernel_rfl⟩ false [] _ fun args r h=>by
  cases args with
  | nil =>
    injection h with h
    subst h
    exact⟨Nat.le_trans (Nat.le_refl 0) (Nat.zero_le _),_,awake_eval,zI _⟩
  | cons x l=>cases h
theorem where_len {l:List Sgm} {b:Bk} {x:Ctxt} {n:Int} {p:Pl} (h:p∈(whR l b x n).1):p.ly.length≤b.cb:=by
 have key:p∈whL l b x n b.layers→p.ly.length≤b.cb:=fun hp=>by
  obtain⟨y,hy,_,e,_,_,rfl⟩:=whL_mem.1 hp
  have hm:=qA (f:=Lyr.cb) hy
  have hyc:y.cb=1+y.name.length+y.salt.length:=rfl
  have hbc:b.cb=sumB Lyr.cb b.layers+sumB Hld.cb b.holds+sumB Xp.cb b.exps:=rfl
  simp only[plX]
  omega
 unfold whR at h
 split at h
 ·split at h
  ·split at h
   ·exact key h
   ·cases h
  ·cases h
 ·cases h
theorem where_fault {l:List Sgm} {b:Bk} {x:Ctxt} {n:Int} (h:(whR l b x n).2≠0):(whR l b x n).1=[]:=by
 unfold whR at h ⊢
 split
 ·rename_i c1
  rw[if_pos c1] at h
  split
  ·rename_i c2
   rw[if_pos c2] at h
   split
   ·rename_i c3
    rw[if_pos c3] at h
    exact absurd rfl h
   ·rfl
  ·rfl
 ·rfl
noncomputable abbrev lw1S:AM.Spec:=hRun C0 f10
set_option maxRecDepth 100000 in
theorem lw1_sound:za prog 10 lw1S:=zs (code:=_) wA ⟨func10,by kernel_rfl,rfl,by kernel_rfl⟩
def boxP (p:Pl):Blk:=⟨37,4,false,[qp p]⟩
theorem lw1_run (p:Pl) (s:Sp) (hp:Hp) (nx id:Nat) (hid:id<nx) (hh:hp id=some (boxP p)):lw1S [.agg (encS s),.ref id 0 0] hp nx=some (boo (inSp p.bu s),upd hp nx (some ⟨45,2,false,[encS s]⟩),nx+1):=by
 unfold lw1S hRun
 rw[if_pos (by simp[f10])]
 refine zZ rfl ?_
 have e1:¬id=nx:=by omega
 simp only[boxP,qp] at hh
 by_cases c1:s.1≤p.bu
 ·by_cases c2:p.bu<s.2<;>simp[hh,e1,c1,c2,inSp,f10]
 ·simp[hh,e1,c1,inSp,f10]
noncomputable abbrev TAlw:Tab:=[(10,lw1S)]
noncomputable abbrev Clwi:Ctx:=zA prog [(5,zc false [] yesF),(6,zc false [] (FWh (fun l b x n=>plTup (whR l b x n)) fun a=>sgb a.1≤lim∧a.2.1.cb≤lim∧a.2.2.1.cb+2≤lim)),(7,zc false [] (FBSS hdP)),(8,zc false [] (FBNI fun b s n=>spTup (hasR b s n))),(9,sqctS TAlw)]
theorem goodlwi:AM.Good Clwi (fun g=>([]:List Nat).contains g):=zk mixed ⟨awake_sound,by simp,Where_sound,by simp,Held_sound,by simp,Has_sound,by simp,sqct_sound ⟨lw1_sound,by simp,trivial⟩,by simp,trivial⟩
theorem has_len (b:Bk) (s:List UInt8) (n:Int):(hasR b s n).1.length≤b.cb:=by
 have hbc:b.cb=sumB Lyr.cb b.layers+sumB Hld.cb b.holds+sumB Xp.cb b.exps:=rfl
 unfold hasR
 split
 ·split
  ·rename_i e he
   have hm:=qA (f:=Xp.cb) (List.mem_of_getElem? he)
   have hec:e.cb=e.name.length+e.layer.length+e.flag.length+e.cond.cb+e.salt.length+e.arms.length+sumB Phs.cb e.phases:=rfl
   have:=hasG_len n e.phases
   simp only
   omega
  ·simp
 ·simp
set_option maxHeartbeats 4000000 in
theorem lw_eval (l:List Sgm) (b:Bk) (x:Ctxt) (n:Int) (hl:sgb l≤lim) (hb:b.cb≤lim) (hx:x.cb+2≤lim):zi Clwi Tryz.f3 [.sl 10 (l.map Sgm.enc),.agg b.enc,.agg x.enc,int n]=some (boo true):=by
 refine zb rfl ?_
 have hxc:=xcb_eq x
 have law1:=where_fault (l:=l) (b:=b) (x:=x) (n:=n)
 have law2:=where_law (l:=l) (b:=b) (x:=x) (n:=n)
 have law3:=fun p=>where_len (l:=l) (b:=b) (x:=x) (n:=n) (p:=p)
 have hwh:=fun hp nx=>FWh_call (fun l b x n=>plTup (whR l b x n)) (fun a=>sgb a.1≤lim∧a.2.1.cb≤lim∧a.2.2.1.cb+2≤lim) l b x n hp nx ⟨hl,hb,hx⟩
 have haw:∀hp nx,zc false [] yesF [] hp nx=some (boo true,hp,nx):=fun hp nx=>zt (hp1:=hp) rfl rfl (.inr rfl)
 obtain⟨⟨T,e1⟩,hB⟩:∃r,whR l b x n=r:=⟨_,rfl⟩
 rw[hB] at law1 law2
 simp only[hB] at law3
 simp only at law1 law2
 have hwh':∀hp nx,zc false [] (FWh (fun l b x n=>plTup (whR l b x n)) fun a=>sgb a.1≤lim∧a.2.1.cb≤lim∧a.2.2.1.cb+2≤lim) [.sl 10 (l.map Sgm.enc),.agg b.enc,.agg x.enc,int n] hp nx=some (.tup [.sl 4 (T.map qp),int e1],hp,nx):=fun hp nx=>by rw[hwh,hB];rfl
 simp only[Bk.enc,Ctxt.enc] at hwh'
 by_cases c1:e1=0
 case neg =>
  have hl:=law1 c1
  subst hl
  have c1':(e1 != 0)=true:=by simpa using c1
  simp[Bk.enc,Ctxt.enc,haw,hwh',c1',zU,Tryz.f3]
 obtain⟨hup,hall⟩:=law2 c1
 simp[Bk.enc,Ctxt.enc,haw,hwh',c1]
 have hTl:T.length≤2000:=by
  have:=whL_len l b x n b.layers
  have hw:T=whL l b x n b.layers∨T=[]:=by
   have hh:=hB
   unfold whR at hh
   split at hh
   ·split at hh
    ·split at hh
     ·injection hh with hh _;exact .inl hh.symm
     ·injection hh with hh _;exact .inr hh.symm
    ·injection hh with hh _;exact .inr hh.symm
   ·injection hh with hh _;exact .inr hh.symm
  rcases hw with hw | hw
  ·have hck:qb b=0:=by
    have hh:=hB
    unfold whR at hh
    split at hh
    ·rename_i c;exact (chkB_ok c).2.1
    ·rename_i c;injection hh with _ hh;rw[c1] at hh;exact absurd hh c
   obtain⟨h1,h2⟩:=chk_lens hck
   have h3:=Nat.mul_le_mul h1 h2
   rw[hw]
   omega
  ·rw[hw];simp
 refine zC (fun k σ hp nx=>σ 3=int n∧σ 5=.ref 0 0 0∧σ 6=.ref 1 0 0∧σ 9=.sl 4 (T.map qp)∧σ 34=.sl 4 (T.map qp)∧σ 35=int T.length∧σ 36=int k∧2≤nx∧hp 0=some (boxB b)∧hp 1=some (boxT x)) T.length
  ⟨by simp,by simp,by simp,by simp,by simp,by simp,by simp,by simp,by simp[boxB,Bk.enc],by simp[boxT,Ctxt.enc]⟩ ?_
 rintro k σ hp nx hk ⟨h3,h5,h6,h9,h34,h35,h36,hnx,b0,b1⟩
 by_cases hlt:k<T.length
 ·obtain⟨p,hpd⟩:∃p,T[k]=p:=⟨_,rfl⟩
  have hpm:p∈T:=by rw[←hpd];exact List.getElem_mem hlt
  obtain⟨a1,a2,a3,a4⟩:=hall p hpm
  have hpl:=law3 p hpm
  have hw:IntKind.i64.wrap ((k:Int)+1)=(k:Int)+1:=zd (by omega) (by omega)
  obtain⟨nm,hnm⟩:∃s,(heldT b p.ly x.key).1.1=s:=⟨_,rfl⟩
  have g1:∀hp nx,zc false [] (FBSS hdP) [.agg b.enc,str p.ly,str x.key] hp nx=some (.tup [str nm,boo false,int 0],hp,nx):=fun hp nx=>by
   rw[FBSS_call hdP b p.ly x.key hp nx hb (by omega) (by omega)]
   simp only[hdP,hnm,a1,a2]
  obtain⟨S,hS⟩:∃S,(hasR b p.ex n).1=S:=⟨_,rfl⟩
  have hSl:S.length≤lim:=by rw[←hS];exact Nat.le_trans (has_len b p.ex n) hb
  have g2:∀hp nx,zc false [] (FBNI fun b s n=>spTup (hasR b s n)) [.agg b.enc,str p.ex,int n] hp nx=some (.tup [.sl 2 (S.map encS),int 0],hp,nx):=fun hp nx=>by
   rw[FBNI_call (fun b s n=>spTup (hasR b s n)) b p.ex n hp nx hb]
   simp only[spTup,hS,a3]
  rw[hS] at a4
  obtain⟨r,hp2,nx2,q1,rfl,q2,q3,q4⟩:=sqct_run (σ:=Unit) (T:=fun _=>False) (Rep:=fun _ hp=>hp nx=some (boxP p)) (step:=fun _ s=>(inSp p.bu s,())) (Ta:=TAlw) (g:=10) (sp:=lw1S) (fi:=[]) (cap:=[.ref nx 0 0]) (nx0:=nx+1) (by simp) S hSl
   (fun _ s hp nx' hs hn hr=>⟨_,_,_,lw1_run p s hp nx' nx (by omega) hr,rfl,(ze _ _ _ _ (by omega)).trans hr,by omega,fun j hj _=>ze _ _ _ _ (by omega)⟩) () (upd hp nx (some (boxP p))) (nx+1) (Nat.le_refl _) (by simp)
  rw[jZ,a4] at q1
  simp only[boxP,qp] at q1
  have n0:¬0=nx:=by omega
  have n1:¬1=nx:=by omega
  have b0':=b0
  have b1':=b1
  simp only[boxB,Bk.enc] at b0'
  simp only[boxT,Ctxt.enc] at b1'
  simp only[Bk.enc] at g1 g2
  have z0:hp2 0=some (boxB b):=by rw[q4 0 (by omega) (fun h=>h),ze _ _ _ _ n0];exact b0
  have z1:hp2 1=some (boxT x):=by rw[q4 1 (by omega) (fun h=>h),ze _ _ _ _ n1];exact b1
  by_cases k0:k=0
  ·subst k0
   have w1:IntKind.i64.wrap 1=1:=zd (by omega) (by omega)
   simp[h3,h5,h6,h9,h34,h35,h36,hlt,hpd,qp,b0',b1',n0,n1,g1,g2,q1,w1]
   exact⟨by omega,by omega,z0,z1⟩
  ·obtain⟨j,rfl⟩:∃j,k=j+1:=⟨k - 1,by omega⟩
   have hj:j<T.length:=by omega
   have wj:IntKind.i64.wrap ((j:Int)+1 - 1)=(j:Int):=by rw[zd (by omega) (by omega)];omega
   have wj':IntKind.i64.wrap (j:Int)=(j:Int):=zd (by omega) (by omega)
   have wk:IntKind.i64.wrap ((j:Int)+1+1)=(j:Int)+1+1:=zd (by omega) (by omega)
   have j1:((j:Int)+1).toNat=j+1:=by omega
   have j2:0<(j:Int)+1:=by omega
   have j3:0≤(j:Int)+1:=by omega
   have j4:(j:Int)+1<T.length:=by omega
   have hle:leB p.ly T[j].ly=false:=by
    have:=List.pairwise_iff_getElem.1 hup j (j+1) hj hlt (by omega)
    rw[hpd] at this
    exact not_le this
   have el:(Op.bytesLess p.ly T[j].ly||p.ly==T[j].ly)=leB p.ly T[j].ly:=rfl
   simp[h3,h5,h6,h9,h34,h35,h36,hlt,hj,hpd,qp,wj,wj',wk,j1,j2,j3,j4,el,hle,b0',b1',n0,n1,g1,g2,q1]
   exact⟨by omega,by omega,z0,z1⟩
 ·obtain rfl:k=T.length:=by omega
  simp[h3,h5,h6,h9,h34,h35,h36,zU,Tryz.f3]
set_option maxRecDepth 100000 in
theorem lw_known:kz Clwi (fun g=>([]:List Nat).contains g) 3 Tryz.f3:=⟨_,func3,by kernel_rfl,rfl,by kernel_rfl⟩
end Go.Proofs.YtanbabpnlgfcpaaGreatDoor
