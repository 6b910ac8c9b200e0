/- Lemmas. -/
import Derived.Sort.Walk0
import Derived.Lib.SlicesCompact
import Derived.Sort.EncStr
import Derived.Shelf.Sort.Plain
import Derived.Shelf.Slices.CompactS
import Derived.Shelf.Slices.In.SortNone
import Derived.Lib.RowBridge
import Derived.Ground.Names2Prog
import Derived.Deep.AppendSrc
import Derived.Maps.RangeRun
import Derived.Test.YtcebnehlnlcckaaGreatDoorG11
set_option maxRecDepth 100000
set_option maxHeartbeats 4000000
open Go Proofs Proofs.YtcebnehlnlcckaaGreatDoor Proofs.Tryz RowKit AM SpanLaw Q Zz
namespace Go.Q
theorem KB:∀a b:List qW,yw (a++b)=yw a++yw b
 |[],b=>rfl
 |x::a,b=>by show x.names++yw (a++b)=(x.names++yw a)++yw b;rw[KB a b,q5]
theorem YQ{l:List qW}{k:Nat}(h:k<l.length):yw (l.take (k+1))=yw (l.take k)++l[k].names:=by rw[zX h,KB];show _++(l[k].names++[])=_;rw[jL]
theorem pB{n:Nat}(a:∀c:qW,c.cb<=n->c.names.length<=c.cb):∀l:List qW,mM l<=n->(yw l).length<=mM l
 |[],_=>zk _
 |x::l,h=>by
  have b:mM (x::l)=x.cb+mM l:=by simp[mM]
  have d:=a x (by omega);have e:=pB a l (by omega);show(x.names++yw l).length<=_;rw[qj];omega
theorem vQ:∀(n:Nat) (c:qW),c.cb<=n->c.names.length<=c.cb
 | 0,c,h=>by have:=iW c;omega
 |n+1,c,h=>by have a:=Jm c;have:=pB (vQ n) c.args (by omega);rw[Qe,qj];split<;>simp<;>omega
noncomputable abbrev Cnm (n:Nat):Ctx:=zR prog [(80,zg false [] (FC (fun c=>.sl 1 (zx c.names)) n))]
theorem ti(n:Nat)(c:qW)(h:c.cb<=zw/\c.cb<=n+1):∃C,zo (Cnm n) f80 [.agg c.V]=some C/\YC C (.sl 1 (zx c.names)):=by
 have D:=Jm c;have E:=xR c.args;have w:=vQ _ c (zk _);obtain⟨F,L⟩:=h;unfold zw at F;have g:∀k,(yw (c.args.take k)).length<=c.cb:=fun k=>by
  have e:yw c.args=yw (c.args.take k)++yw (c.args.drop k):=by rw[<-KB,vU]
  have:=zt List.length e;rw[Qe,qj]at w;rw[qj]at this;omega
 refine xe rfl ?_;by_cases v:c.kind=5
 ·have s:=fun Y Z=>wa.y8 (P:=prog) (t:=26) (c:=[str c.name]) (wa.nil Y Z 9 1) dq Dh G9 Ha rfl (by omega) (by simp[maxLen]) (by simp)
  have i:(c.kind==5)=true:=by simpa using v
  simp only[Wb]at s;simp[q6,i,zr,zJ,zp,s];refine zF (fun k U Y Z=>U 15=.sl 7 (c.args.map qW.V)/\U 16=int c.args.length/\U 17=int k/\wa Y Z 9 1 (U 3) (zx ([c.name]++yw (c.args.take k)))) c.args.length
   ⟨by simp,by simp,by simp,by simp;exact .inr ⟨_,by omega,rfl,by simp[zx,yw]⟩⟩ ?_
  rintro k U Y Z G ⟨b,d,f,j⟩;by_cases a:k<c.args.length
  ·have y:=ql k;obtain⟨x,l⟩:=yx (c.args[k]);have m:x∈c.args:=by rw[<-l];exact zj a
   have z:=Z8 m;have A:=vQ _ x (zk _);have B:=fun Y Z=>QX (fun c=>.sl 1 (zx c.names)) n x Y Z ⟨by unfold zw;omega,by omega⟩
   have H:=g k;have o:=j.more (some ⟨70,7,false,[x.V]⟩);obtain⟨I,J,K,p,q,_⟩:=o.KP (P:=prog) (t:=26) (ys:=zx x.names) dq Dh G9 Ha rfl (by omega) (by simp[maxLen,qJ];omega) (by simp[qJ];omega);have u:=YQ a;rw[l]at u;simp[b,d,f,a,l,B,p,y,Xc];refine⟨by omega,?_⟩;rw[u];simpa[zx]using q
  ·obtain rfl:k=c.args.length:=by omega
   rw[wJ]at j;have r:=j.freeze Z;simp[b,d,f,f80];rw[Qe];simpa[v]using r
 ·have i:=jD v;simp[q6,i];refine zF (fun k U Y Z=>U 15=.sl 7 (c.args.map qW.V)/\U 16=int c.args.length/\U 17=int k/\wa Y Z 9 1 (U 3) (zx (yw (c.args.take k)))) c.args.length
   ⟨by simp,by simp,by simp,by simp;exact .inl ⟨rfl,by simp[zx,yw]⟩⟩ ?_
  rintro k U Y Z G ⟨b,d,f,j⟩;by_cases a:k<c.args.length
  ·have y:=ql k;obtain⟨x,l⟩:=yx (c.args[k]);have m:x∈c.args:=by rw[<-l];exact zj a
   have z:=Z8 m;have A:=vQ _ x (zk _);have B:=fun Y Z=>QX (fun c=>.sl 1 (zx c.names)) n x Y Z ⟨by unfold zw;omega,by omega⟩
   have H:=g k;have o:=j.more (some ⟨70,7,false,[x.V]⟩);obtain⟨I,J,K,p,q,_⟩:=o.KP (P:=prog) (t:=26) (ys:=zx x.names) dq Dh G9 Ha rfl (by omega) (by simp[maxLen,qJ];omega) (by simp[qJ];omega);have u:=YQ a;rw[l]at u;simp[b,d,f,a,l,B,p,y,Xc];refine⟨by omega,?_⟩;rw[u];simpa[zx]using q
  ·obtain rfl:k=c.args.length:=by omega
   rw[wJ]at j;have r:=j.freeze Z;simp[b,d,f,f80];rw[Qe];simpa[v]using r
theorem Jb:∀n,zf prog 80 (zg false [] (FC (fun c=>.sl 1 (zx c.names)) n)):=by
 intro n
 induction n with
 |zero=>exact rQ ⟨_,func80,by kernel_rfl,by kernel_rfl⟩
 |succ n a=>
  have b:Gd (Cnm n):=zS mixed ⟨a,trivial⟩;exact yt (fn:=f80) b (qN func80) false [] _ fun args r h=>by obtain⟨c,rfl,d,rfl⟩:=Y3 h;obtain⟨e,f,g⟩:=ti n c d;exact⟨zG (zk 1) (by decide),e,f,g⟩
def CI(l:List qA)(a:List za):Bool:=a.all fun n=>(ym n l).isSome
def Ez(l:List qA)(cs:List qW):Int:=if(cs.all fun c=>CI l c.names)=true then 0 else 9
theorem pC{α:Type}{p:α->Bool}{l:List α}{k:Nat}(h:k<l.length):(l.drop k).all p=(p l[k]&&(l.drop (k+1)).all p):=by rw[zc h,wO]
noncomputable def FSC (out:List qA->List qW->O):zb->Option O:=qf (α:=List qA×List qW) (fun a=>[.sl 10 (a.1.map qA.V),.sl 7 (a.2.map qW.V)]) (fun a=>a.1.length<=zw/\mM a.2<=zw) fun a=>out a.1 a.2
theorem za1(out:List qA->List qW->O)(l:List qA)(cs:List qW)(h:l.length<=zw/\mM cs<=zw):FSC out [.sl 10 (l.map qA.V),.sl 7 (cs.map qW.V)]=some (out l cs):=
 qM (V:=fun a:List qA×List qW=>[O.sl 10 (a.1.map qA.V),.sl 7 (a.2.map qW.V)]) (a:=(l,cs)) (fun a b e=>by obtain⟨f,g⟩:=a;obtain⟨i,j⟩:=b;simp only[zh,zA]at e;obtain⟨d,c⟩:=e;injection c with _ c;rw[vO d,yX (fun _ _=>Zk) c]) h
noncomputable abbrev Uk:Ctx:=zR prog [(80,zg false [] (FC (fun c=>.sl 1 (zx c.names)) zw)),(81,zg false [] (H9 (fun l s=>YN (ym s l)) fun l _=>l.length<=zw))]
theorem ez(l:List qA)(cs:List qW)(z:l.length<=zw)(G:mM cs<=zw):zo Uk f47 [.sl 10 (l.map qA.V),.sl 7 (cs.map qW.V)]=some (int (Ez l cs)):=by
 have v:zw=268435456:=rfl;have A:=xR cs;refine zm rfl ?_;obtain⟨B,w⟩:=yx (cs.all fun c=>CI l c.names);unfold Ez;rw[w];simp;refine zF (fun k U Y Z=>U 0=.sl 10 (l.map qA.V)/\U 11=.sl 7 (cs.map qW.V)/\U 12=int cs.length/\U 13=int k/\B=(cs.drop k).all fun c=>CI l c.names) cs.length
  ⟨by simp,by simp,by simp,by simp,by simp[w]⟩ ?_
 rintro k U Y Z H ⟨g,a,b,e,f⟩;by_cases h:k<cs.length
 ·have C:=ql k;obtain⟨x,q⟩:=yx (cs[k]);have r:x∈cs:=by rw[<-q];exact zj h
  have D:=Z8 r;have E:=vQ _ x (zk _);have F:=fun Y Z=>QX (fun c=>.sl 1 (zx c.names)) zw x Y Z ⟨by omega,by omega⟩
  rw[pC h,q]at f;simp[g,a,b,e,h,q,F];refine zF (fun j U Y Z=>U 0=.sl 10 (l.map qA.V)/\U 11=.sl 7 (cs.map qW.V)/\U 12=int cs.length/\U 13=int k/\U 18=.sl 1 (zx x.names)/\U 19=int x.names.length/\U 20=int j/\B=(CI l (x.names.drop j)&&(cs.drop (k+1)).all fun c=>CI l c.names)) x.names.length
   ⟨by simp[g],by simp[a],by simp[b],by simp[e],by simp,by simp,by simp,by simpa using f⟩ ?_
  rintro j U Y Z I ⟨g,a,b,e,i,m,n,f⟩;by_cases o:j<x.names.length
  ·have t:=ql j;obtain⟨y,u⟩:=yx (x.names[j]);have p:∀Y Z,zg false [] (H9 (fun l s=>YN (ym s l)) fun l _=>l.length<=zw) [.sl 10 (l.map qA.V),str y] Y Z=some (.wP [.agg (Bc (ym y l)).V,wo (ym y l).isSome],Y,Z):=fun Y Z=>ea (fun l s=>YN (ym s l)) (fun l _=>l.length<=zw) l y Y Z z
   unfold CI at f;rw[pC o,u]at f;cases d:(ym y l).isSome
   ·rw[d,JP,JP]at f;rw[d]at p;simp[g,a,b,e,i,m,n,o,u,p,f,f47]
   ·rw[d,kX]at f;rw[d]at p;simp[g,a,b,e,i,m,n,o,u,p,t];exact⟨by omega,f⟩
  ·obtain rfl:j=x.names.length:=by omega
   rw[zn]at f;have f:B=(cs.drop (k+1)).all fun c=>CI l c.names:=by simpa[CI]using f
   simp[g,a,b,e,i,m,n,C];exact⟨by omega,f⟩
 ·obtain rfl:k=cs.length:=by omega
  rw[zn]at f;simp[g,a,b,e,f,f47]
theorem cJ:zf prog 47 (zg false [] (FSC fun l cs=>int (Ez l cs))):=
 vX (zS mixed ⟨Jb zw,QM,trivial⟩:AM.Good Uk _) func47 false [] fun⟨l,cs⟩ a=>⟨zG (zk 2) (by decide),_,ez l cs a.1 a.2,qc _⟩
theorem SO(l:List qA)(n:za):(Bc (ym n l)).cond.names=vy l n:=by unfold vy Bc;cases ym n l<;>rfl
def qm(out:List za):List qA->Nat
 |[]=>0
 |s::l=>(if out.contains s.name=true then 0 else s.cond.names.length)+qm out l
theorem F4(out:List za)(n:za):∀l:List qA,qm (out++[n]) l<=qm out l
 |[]=>zk _
 |s::l=>by
  have:=F4 out n l;simp only[qm];by_cases h:out.contains s.name=true
  ·rw[ze h,ze (by simp at h⊢;exact .inl h)];omega
  ·rw[zd h];split<;>omega
theorem gM{out:List za}{n:za}(h:n ∉ out):∀l:List qA,(vy l n).length+qm (out++[n]) l<=qm out l
 |[]=>zk _
 |s::l=>by
  by_cases hs:s.name=n
  ·have a:vy (s::l) n=s.cond.names:=by simp[vy,ym,hs]
   have:=F4 out n l;rw[a];simp only[qm];rw[ze (by simp[hs]),zd (by rw[hs];simpa using h)];omega
  ·have a:vy (s::l) n=vy l n:=by simp[vy,ym,hs]
   have:=gM h l;rw[a];simp only[qm];have b:(out++[n]).contains s.name=out.contains s.name:=by simp[hs]
   rw[b];omega
theorem Oo(out:List za):∀l:List qA,qm out l<=Jg l
 |[]=>j9 _
 |s::l=>by
  have a:=Oo out l;have b:=vQ _ s.cond (zk _);have c:Jg (s::l)=s.cb+Jg l:=by simp[Jg]
  have d:s.cb=1+s.name.length+Yr s.ins+Yr s.outs+s.cond.cb:=rfl;simp only[qm];split<;>omega
theorem EA:∀(x y:List za),XE x->XE y->(∀c,c∈x↔c∈y)->x=y
 |[],[],_,_,_=>rfl
 |[],b::y,_,_,h=>absurd ((h b).2 (by simp)) (by simp)
 |a::x,[],_,_,h=>absurd ((h a).1 (by simp)) (by simp)
 |a::x,b::y,k,l,h=>by
  obtain⟨i,m⟩:=wG.1 k;obtain⟨j,n⟩:=wG.1 l;have f:a=b:=by
   rcases zv.1 ((h a).1 (by simp))with e|e
   ·exact e
   ·rcases zv.1 ((h b).2 (by simp))with g|g
    ·exact g.symm
    ·have:=xV (i b g) (j a e);rw[JE]at this;cases this
  subst f;rw[EA x y m n fun c=>⟨fun d=>?_,fun d=>?_⟩]
  ·rcases zv.1 ((h c).1 (by simp[d]))with e|e
   ·subst e;have:=i c d;rw[JE]at this;cases this
   ·exact e
  ·rcases zv.1 ((h c).2 (by simp[d]))with e|e
   ·subst e;have:=j c d;rw[JE]at this;cases this
   ·exact e
theorem tj{l:List za}(h:l.Nodup):XE (l.mergeSort fun x y=>decide (x<=y)):=by
 have Y:=pR l fun x y=>decide (x<=y)
 have hs:=List.pairwise_mergeSort (le:=fun x y:za=>decide (x<=y)) (fun a b c d e=>by simp only[qz]at d e⊢;exact List.le_trans d e) (fun a b=>by simp only[qS,qz];exact List.le_total a b) l;have f:(l.mergeSort fun x y=>decide (x<=y)).Nodup:=Y.nodup_iff.2 h;refine(hs.and f).imp fun{a b} g=>?_
 rw[bytesLess_eq];obtain⟨d,e⟩:=g;simp only[qz]at d⊢;exact ZS fun f=>e (List.le_antisymm d (List.not_lt.1 f))
theorem Q4{l:List za}(h:l.Nodup):Lib.compact l=l:=by
 refine Lib.compact_all l fun j a=>?_
 unfold Lib.keeps;simp only[qz];by_cases b:j=0
 ·exact .inl b
 ·refine .inr fun e=>?_
  rw[WU _ _ (by simpa using a),WU _ _ (by simp;omega)]at e;simp only[List.getElem_toArray]at e;exact(E3.1 h (j-1) j (by omega) a (by omega)) e.symm
open Classical in
noncomputable def a8 (l:List qA) (a:List za):List za:=if h:∃L,XE L/\∀n,n∈L↔Yu (vy l) a n then h.choose else[]
theorem tk{l:List qA}{a out:List za}(h:CB (vy l) a out []):Lib.compact (out.mergeSort fun x y=>decide (x<=y))=a8 l a:=by
 have d:=tj h.nodup;have Y:=pR out fun x y=>decide (x<=y)
 have e:∀n,n∈(out.mergeSort fun x y=>decide (x<=y))↔Yu (vy l) a n:=fun n=>Y.mem_iff.trans (h.done n)
 rw[Q4 (Y.nodup_iff.2 h.nodup)];have b:∃L,XE L/\∀n,n∈L↔Yu (vy l) a n:=⟨_,d,e⟩;unfold a8;rw[Te b];exact EA _ _ d b.choose_spec.1 fun c=>(e c).trans (b.choose_spec.2 c).symm
theorem Oq{l:List qA}{a:List za}(h:∃out,CB (vy l) a out [])(n:za):n∈a8 l a↔Yu (vy l) a n:=by
 obtain⟨out,h⟩:=h;have b:=tj h.nodup;have Y:=pR out fun x y=>decide (x<=y)
 rw[<-tk h,Q4 (Y.nodup_iff.2 h.nodup)];exact Y.mem_iff.trans (h.done n)
theorem tm(l:List qA)(start:List za):∀(n:Nat) (out b:List za),CB (vy l) start out b->b.length+qm out l<=n->∃c,CB (vy l) start c []
 |_,out,[],h,_=>⟨out,h⟩
 | 0,_,_::_,_,h=>by simp at h
 |n+1,out,a::q,h,e=>by
  simp only[zP]at e;by_cases d:a∈out
  ·exact tm l start n out q (h.skip d) (by omega)
  ·have:=gM d l;exact tm l start n _ _ (h.take d) (by rw[qj];omega)
theorem F5(l:List qA)(a:List za)(n:za):n∈a8 l a↔Yu (vy l) a n:=Oq (tm l a _ [] a (.begin _ _) (zk _)) n
def ba(succ:Nat->List Nat):Nat->List Nat->Nat->List Nat
 | 0,M,_=>M
 |n+1,M,i=>if i∈M then M else(succ i).foldl (ba succ n) (M++[i])
def Ot(N:Nat)(M:List Nat):Nat:=(List.range N).countP fun j=>!M.contains j
theorem Ou{N:Nat}{M a:List Nat}(h:∀j∈M,j∈a):Ot N a<=Ot N M:=List.countP_mono_left fun j _ b=>by simp only[vk,List.contains_eq_mem,yM]at b⊢;exact fun c=>b (h j c)
theorem Ov{N i:Nat}{M:List Nat}(hi:i<N)(b:i ∉ M):Ot N (M++[i])<Ot N M:=oX (fun j _ a=>by simp only[vk,List.contains_eq_mem,yM,zK]at a⊢;exact fun h=>a (.inl h)) ⟨i,ye.2 hi,by simpa using b,by simp⟩
structure Vis (succ:Nat->List Nat) (N:Nat) (M:List Nat) (ks:List Nat) (M':List Nat):Prop where
 nd:M'.Nodup
 lt:∀j∈M',j<N
 keep:∀j∈M,j∈M'
 here:∀k∈ks,k∈M'
 from_:∀j∈M',j∈M\/∃k∈ks,j=k\/Wr (fun a b=>b∈succ a) k j
 shut:∀j∈M',j ∉ M->∀k∈succ j,k∈M'
theorem mv{succ:Nat->List Nat}{N n:Nat}(o:∀M i,M.Nodup->(∀j∈M,j<N)->i<N->Ot N M<n->Vis succ N M [i] (ba succ n M i)):∀(e M:List Nat),M.Nodup->(∀j∈M,j<N)->(∀k∈e,k<N)->Ot N M<n->Vis succ N M e (e.foldl (ba succ n) M)
 |[],M,g,l,_,_=>⟨g,l,fun _ h=>h,by simp,fun _ h=>.inl h,fun j a b=>absurd a b⟩
 |k::e,M,g,l,p,q=>by
  have a:=o M k g l (p k (by simp)) q;have b:=mv o e _ a.nd a.lt (fun j c=>p j (by simp[c])) (vY (Ou a.keep) q);rw[vA];refine⟨b.nd,b.lt,fun j c=>b.keep j (a.keep j c),fun j c=>?_,fun j c=>?_,fun j c r m d=>?_⟩
  ·rcases zv.1 c with rfl|c
   ·exact b.keep _ (a.here _ (by simp))
   ·exact b.here j c
  ·rcases b.from_ j c with h|⟨m,d,h⟩
   ·rcases a.from_ j h with h|⟨m,d,h⟩
    ·exact .inl h
    ·exact .inr ⟨m,by simp at d;simp[d],h⟩
   ·exact .inr ⟨m,by simp[d],h⟩
  ·by_cases f:j∈ba succ n M k
   ·exact b.keep m (a.shut j f r m d)
   ·exact b.shut j c f m d
theorem F6{succ:Nat->List Nat}{N:Nat}(hs:∀a,∀b∈succ a,b<N):∀(n:Nat) (M:List Nat) (i:Nat),M.Nodup->(∀j∈M,j<N)->i<N->Ot N M<n->Vis succ N M [i] (ba succ n M i)
 | 0,_,_,_,_,_,h=>absurd h (by omega)
 |n+1,M,i,g,l,q,t=>by
  unfold ba;split
  ·rename_i hi;exact⟨g,l,fun _ h=>h,by simpa using hi,fun _ h=>.inl h,fun j a b=>absurd a b⟩
  ·rename_i hi;have u:=Ov q hi;have a:=mv (F6 hs n) (succ i) (M++[i]) (Gj.2 ⟨g,by simp,fun a r b o=>by simp at o;subst o;exact fun e=>hi (e ▸ r)⟩) (fun j c=>by
    rcases zK.1 c with h|h
    ·exact l j h
    ·simp at h;omega) (hs i) (by omega)
   refine⟨a.nd,a.lt,fun j c=>a.keep j (by simp[c]),fun k d=>by simp at d;subst d;exact a.keep _ (by simp),fun j c=>?_,fun j c s m p=>?_⟩
   ·rcases a.from_ j c with h|⟨k,d,h⟩
    ·rcases zK.1 h with h|h
     ·exact .inl h
     ·exact .inr ⟨i,by simp,.inl (by simpa using h)⟩
    ·refine .inr ⟨i,by simp,.inr ?_⟩;rcases h with rfl|h
     ·exact .one d
     ·exact(Wr.one (E:=fun a b=>b∈succ a) d).trans h
   ·by_cases f:j=i
    ·subst f;exact a.here m p
    ·exact a.shut j c (by simp[s,f]) m p
end Go.Q
namespace Go.AM
open Go.RowKit Go.Sort Go.Proofs
variable{dr:Prop}
abbrev WT(zs:List za):List zb:=zs.map fun n=>[str n]
theorem Ow{a b:List za}(h:WT a=WT b):a=b:=
 yX (fun x y e=>by have:=List.head_eq_of_cons_eq e;exact wb this) h
@[simp]theorem fE(zs:List za):(WT zs).length=zs.length:=by simp[WT]
theorem Ox{zs:List za}{i:Nat}{c:zb}(h:(WT zs)[i]?=some c):∃hi:i<zs.length,c=[str zs[i]]:=by
 unfold WT at h;rw[qo]at h;cases a:zs[i]? with
 |none=>rw[a]at h;cases h
 |some x=>rw[a]at h;obtain⟨hi,rfl⟩:=zi.1 a;exact⟨hi,by simpa using h.symm⟩
def EB(P:Program)(f:Nat)(F:List za->List za)(a:Bool):Prop:=
 ∀(blk cap:Nat) (zs:List za) (w:World),Holds encStr w blk 0 zs.toArray->blk<w.heap.size->zs.length<4611686018427387904->zs.length<=cap ->
  Calls P f #[.slice (some ⟨blk,0,none⟩) zs.length cap] w fun e w'=>e=.returned (if a then .slice (some ⟨blk,0,none⟩) (F zs).length cap else .tuple #[]) /\
   ∃(q:Nat) (b:Array Obj) (d:List za),d.length=zs.length/\(∃r,d=F zs++r)/\w'=grow (putRow encStr (Sort.ahead w q) blk 0 d.toArray) b
open Classical in
noncomputable def mw (es:List zb):Option (List za):=if h:∃zs:List za,es=WT zs then some h.choose else none
theorem IJ(zs:List za):mw (WT zs)=some zs:=by have a:∃ys:List za,WT zs=WT ys:=⟨zs,rfl⟩;unfold mw;rw[Te a];have e:=Ow a.choose_spec;rw[<-e]
theorem EC{es:List zb}{zs:List za}(h:mw es=some zs):es=WT zs:=by
 unfold mw at h;split at h
 ·rename_i a;injection h with h
  rw[<-h];exact a.choose_spec
 ·cases h
noncomputable def cK (F:List za->List za) (a:Bool):AM.Spec:=fun args Y Z=>
 match args with
 |[.nil]=>some (if a then .nil else .wP [],Y,Z)
 |[.own id off n]=>match Y id with
  |some b=>match mw b.es with
   |some zs=>if off=0/\b.arr=true/\b.s=1/\n=zs.length/\zs.length<4611686018427387904 then
     some (if a then .own id 0 (F zs).length else .wP [],qR Y id (some ⟨b.e,b.s,b.arr,WT (F zs)⟩),Z)else none
   |none=>none
  |none=>none
 |_=>none
theorem mx(F:List za->List za)(a:Bool){id e:Nat}{zs:List za}{Y:Hp}{Z:Nat}(h:Y id=some ⟨e,1,true,WT zs⟩)(b:zs.length<4611686018427387904) :
  cK F a [.own id 0 zs.length] Y Z=some (if a then .own id 0 (F zs).length else .wP [],qR Y id (some ⟨e,1,true,WT (F zs)⟩),Z):=by
 unfold cK;simp only[h,IJ];simp only[b,and_self,qB]
theorem my(w:World)(blk:Nat)(d:Array za){a:Array Value}{e:TypeId}(h:w.heap[blk]?=some (.cells a e (0,0))) :
  putRow encStr w blk 0 d=w.setRow blk (putCells encStr 0 d a):=by
 unfold putRow mapBlock World.setRow;congr 1;apply Array.ext_getElem?;intro i;simp only[vT];by_cases hi:blk=i
 ·subst hi;simp only[qB,h,zy,onCells]
 ·simp[hi]
theorem tn(w:World)(blk q:Nat)(d:Array za)(a:Array Obj):Fr dr (putRow encStr w blk 0 d) (fun _=>False) (grow (putRow encStr (Sort.ahead w q) blk 0 d) a):=by
 refine⟨rfl,rfl,rfl,?_,fun _=>?_,fun b c _=>?_⟩
 ·show _<=(_++a).size;rw[Ql];exact Nat.le_add_right _ _
 ·exact Nat.le_add_right _ _
 ·exact vm c
theorem fF{P:Program}{f:Nat}{F:List za->List za}{k:Bool}(J:∃fn,P.funcs[f]?=some fn/\(fn.name== "runtime.NumGoroutine")=false/\fn.body.isNone=false)(K:EB P f F k)(B:∀w,Calls P f #[.slice none 0 0] w fun e w'=>e=.returned (if k then .slice none 0 0 else .tuple #[])/\w'=w):kh dr P f (cK F k):=by
 refine⟨J,?_⟩;intro args Y Z r Y' Z' h w S G vs hi hz;unfold cK at h;split at h
 case h_3=>cases h
 case h_1=>
  obtain⟨u,us,rfl,I,y⟩:=hz.jG;obtain rfl:=y.Wq;obtain rfl:=I.Zd;injection h with h;injection h with L h;injection h with M N;subst L;subst M;subst N;refine(B w).mono fun e w' Q=>?_
  obtain⟨rfl,rfl⟩:=Q;refine⟨_,S,G,rfl,.refl hi,?_⟩;cases k with
  |false=>exact jM
  |true=>exact .c .nil
 rename_i id off n;obtain⟨u,us,rfl,I,y⟩:=hz.jG;obtain rfl:=y.Wq;have l:=I.xk;obtain⟨cap,g1,g2,g3,g4,rfl⟩:=I.vH;split at h
 case h_2=>cases h
 rename_i b hb;split at h
 case h_2=>cases h
 rename_i zs m;have m:=EC m;split at h
 case isFalse=>cases h
 rename_i hx;obtain⟨rfl,harr,R,hn,C⟩:=hx;injection h with h
 injection h with L h;injection h with M N;subst L;subst M;subst N;subst hn;have o:=hi.live id b hb;have a:(G id).s=1:=by rw[<-o.bs];exact R
 obtain⟨p,T,c2,c3⟩:=o.row l;rw[a]at c3 g4;have t:=o.fit l;rw[m,a]at t;simp only[fE,zed,yi]at t g4;have z:∀j (D:j<zs.length),p[j]?=some (encStr zs[j]):=fun j D=>by obtain⟨u,q1,q2⟩:=c3 j 0 [str zs[j]] (str zs[j]) (by rw[m];simp[WT,D]) rfl;rw[zed,Qk]at q1;obtain⟨rfl,_⟩:=q2.2.1.wX;exact q1
 have hH:Holds encStr w (G id).g 0 zs.toArray:=by
  intro j D;have W:j<zs.length:=by simpa using D
  constructor
  ·rw[yi,UA w _ _ p _ _ T,z j W,WU _ j D];simp
  ·simp[World.frozen?,T]
 have X:=K (G id).g cap zs w hH o.lt C g2;rw[a];simp only[Tf];refine X.mono fun e w' Q=>?_
 obtain⟨rfl,q,os,d,hd1,⟨rr,E⟩,rfl⟩:=Q;have hFl:(F zs).length<=zs.length:=by rw[<-hd1,E,qj];omega
 have A:=kO.set (dr:=dr) hi hb l (putCells encStr 0 d.toArray p) (WT (F zs)) (by simp[putCells,c2])
  (fun c hc=>by obtain⟨x,_,rfl⟩:=qw.1 hc;rw[a];rfl)
  (by rw[a,fE];omega)
  (fun i j c pv hci H=>by
   obtain⟨PI,rfl⟩:=Ox hci;have hj0:j=0:=by have:=(zi.1 H).1;simpa using this
   subst hj0;obtain rfl:str (F zs)[i]=pv:=by simpa using H
   refine⟨encStr (F zs)[i],?_,fun _=>.v rfl,.c (.v rfl),rfl⟩;rw[a,zed,Qk];have hic:i<p.size:=by rw[c2];omega
   unfold putCells;rw[Array.getElem?_mapIdx,jY hic];simp only[zy];have hid:i<d.length:=by omega
   rw[ze ⟨j9 _,by simpa using hid⟩];have:d.toArray[i-0]! = (F zs)[i]:=by rw[Nat.sub_zero,WU _ i (by simpa using hid)];simp[E,List.getElem_append_left PI]
   rw[this])
 rw[<-my w _ _ T]at A;refine⟨_,S,G,rfl,A.trans (kO.grown A.inv (tn w (G id).g q d.toArray os)),?_⟩;cases k with
 |false=>exact jM
 |true=>simp only[qB];have:=qe.own (w:=grow (putRow encStr (Sort.ahead w q) (G id).g 0 d.toArray) os) (S:=S) (G:=G) (Z:=Z) (id:=id) (off:=0) (n:=(F zs).length) (cap:=cap) g1 (by omega) g3 (by rw[a];omega) l;simpa using this
end Go.AM
namespace Go.Proofs
open Go.Shelf
def Tryz.CF:Go.Shelf.Ren:=⟨fun|125=>55|128=>97|129=>98|190=>31|258=>54|302=>88|303=>89|304=>90|305=>91|306=>92|307=>93|308=>94|309=>95|310=>96|329=>127|330=>128|333=>126|334=>129|335=>130|336=>131|344=>152|n=>n,fun|0=>0|3=>3|4=>4|5=>5|9=>9|31=>26|46=>85|51=>128|53=>130|131=>51|182=>120|183=>121|218=>153|222=>157|228=>167|229=>133|n=>n,fun|n=>n⟩
theorem Tryz.Gt:Go.Proofs.Lays.n190 prog Tryz.CF:={
 mixed:=by kernel_rfl
 f125:=func55.trans (zt some (by kernel_rfl))
 f128:=func97.trans (zt some (by kernel_rfl))
 f129:=func98.trans (zt some (by kernel_rfl))
 f190:=func31.trans (zt some (by kernel_rfl))
 f258:=func54.trans (zt some (by kernel_rfl))
 f302:=func88.trans (zt some (by kernel_rfl))
 f303:=func89.trans (zt some (by kernel_rfl))
 f304:=func90.trans (zt some (by kernel_rfl))
 f305:=func91.trans (zt some (by kernel_rfl))
 f306:=func92.trans (zt some (by kernel_rfl))
 f307:=func93.trans (zt some (by kernel_rfl))
 f308:=func94.trans (zt some (by kernel_rfl))
 f309:=func95.trans (zt some (by kernel_rfl))
 f310:=func96.trans (zt some (by kernel_rfl))
 f329:=func127.trans (zt some (by kernel_rfl))
 f330:=func128.trans (zt some (by kernel_rfl))
 f333:=func126.trans (zt some (by kernel_rfl))
 f334:=func129.trans (zt some (by kernel_rfl))
 f335:=func130.trans (zt some (by kernel_rfl))
 f336:=func131.trans (zt some (by kernel_rfl))
 f344:=func152.trans (zt some (by kernel_rfl))
 t0:=underlying0
 a0:=isAgg0
 z0:=sizeOf0
 v0:=zeroValue0
 t3:=underlying3
 a3:=isAgg3
 z3:=sizeOf3
 v3:=zeroValue3
 t4:=underlying4
 a4:=isAgg4
 z4:=sizeOf4
 v4:=zeroValue4
 t5:=underlying5
 a5:=isAgg5
 z5:=sizeOf5
 v5:=zeroValue5
 t9:=underlying9
 a9:=isAgg9
 z9:=sizeOf9
 v9:=zeroValue9
 t31:=underlying26
 a31:=isAgg26
 z31:=sizeOf26
 v31:=zeroValue26
 t46:=underlying85
 a46:=isAgg85
 z46:=sizeOf85
 v46:=zeroValue85
 t51:=underlying128
 a51:=isAgg128
 z51:=sizeOf128
 v51:=zeroValue128
 t53:=underlying130
 a53:=isAgg130
 z53:=sizeOf130
 v53:=zeroValue130
 t131:=underlying51
 a131:=isAgg51
 z131:=sizeOf51
 v131:=zeroValue51
 t182:=underlying120
 a182:=isAgg120
 z182:=sizeOf120
 v182:=zeroValue120
 t183:=underlying121
 a183:=isAgg121
 z183:=sizeOf121
 v183:=zeroValue121
 t218:=underlying153
 a218:=isAgg153
 z218:=sizeOf153
 v218:=zeroValue153
 t222:=underlying157
 a222:=isAgg157
 z222:=sizeOf157
 v222:=zeroValue157
 t228:=underlying167
 a228:=isAgg167
 z228:=sizeOf167
 v228:=zeroValue167
 t229:=underlying133
 a229:=isAgg133
 z229:=sizeOf133
 v229:=zeroValue133}
def Tryz.CG:Go.Shelf.Ren:=⟨fun|194=>32|n=>n,fun|0=>0|3=>3|4=>4|9=>9|31=>26|n=>n,fun|n=>n⟩
theorem Tryz.Gu:Go.Proofs.Lays.n194 prog Tryz.CG:={
 mixed:=by kernel_rfl
 f194:=func32.trans (zt some (by kernel_rfl))
 t0:=underlying0
 a0:=isAgg0
 z0:=sizeOf0
 v0:=zeroValue0
 t3:=underlying3
 a3:=isAgg3
 z3:=sizeOf3
 v3:=zeroValue3
 t4:=underlying4
 a4:=isAgg4
 z4:=sizeOf4
 v4:=zeroValue4
 t9:=underlying9
 a9:=isAgg9
 z9:=sizeOf9
 v9:=zeroValue9
 t31:=underlying26
 a31:=isAgg26
 z31:=sizeOf26
 v31:=zeroValue26}
end Go.Proofs
namespace Go.Q
open Go.RowKit Go.AM Go.Sort
abbrev ag(zs:List za):List za:=zs.mergeSort fun x y=>decide (x<=y)
theorem Oy:EB prog 31 ag false:=by
 intro blk cap zs w a b c g;refine(Any.slices_Sort_string Tryz.Gt blk 0 cap zs w a b c).mono fun e w' d=>?_
 obtain⟨rfl,n,f,rfl⟩:=d;exact⟨rfl,n,f,_,by rw[List.length_mergeSort],⟨[],by simp⟩,rfl⟩
theorem BL:EB prog 32 Lib.compact true:=by
 intro blk cap zs w a d f b;refine(Any.slices_Compact_string Tryz.Gu blk 0 cap zs w a (by omega) b).mono fun e w' c=>?_
 obtain⟨rfl,q,rfl⟩:=c;refine⟨rfl,q,#[],Lib.compact zs++List.replicate (zs.length-(Lib.compact zs).length) [],?_,⟨_,rfl⟩,by simp⟩;have:=Lib.compact_length_le zs;simp;omega
theorem BM:zf prog 31 (cK ag false):=
 fF ⟨_,func31,by decide,by kernel_rfl⟩ Oy fun w=>Any.slices_Sort_string_none Tryz.Gt none 0 w
theorem mz:zf prog 32 (cK Lib.compact true):=
 fF ⟨_,func32,by decide,by kernel_rfl⟩ BL fun w=>Any.slices_Compact_string_empty Tryz.Gu none 0 w
def Qh(l:List za):List za:=Lib.compact (ag l)
noncomputable abbrev Ul:Ctx:=zR prog [(30,yI [] (Z6 9 1)),(31,cK ag false),(32,cK Lib.compact true)]
theorem BN(l:List za)(g:l.length<=zw)(y:O)(c:eI 1 (zx l) y):∃i,zo Ul f19 [y]=some i/\qX i (.sl 1 (zx (Qh l))):=by
 refine WO rfl ?_;have m:l.length<4611686018427387904:=by unfold zw at g;omega
 have d:(ag l).length=l.length:=List.length_mergeSort _;have a:=iR (e:=9) c (by simpa[zx]using g) (fun _=>none) 0;have f:y=.nil/\l=[]\/(Zj 9 1 (zx l) y 0).1=.own 0 0 l.length/\(Zj 9 1 (zx l) y 0).2.1 (fun _=>none)=qR (fun _=>none) 0 (some ⟨9,1,true,WT l⟩)/\(Zj 9 1 (zx l) y 0).2.2=1:=by
  generalize b:zx l=es at c;cases c with
  |nil=>exact .inl ⟨rfl,by simpa[zx]using b⟩
  |em=>exact .inr ⟨by simp[Zj,<-b,zx],by simp[Zj,<-b,zx,WT],rfl⟩
  |sl=>exact .inr ⟨by simp[Zj,<-b,zx],by simp[Zj,<-b,zx,WT],rfl⟩
 rcases f with⟨rfl,rfl⟩|⟨n,o,p⟩
 ·simp only[Zj]at a;have q:Qh []=[]:=by simp[Qh,ag,Lib.compact,Lib.compactUpTo]
  simp[a,cK,f19];rw[q];exact⟨.nil,by simp,qX.ah (.inl ⟨rfl,rfl⟩)⟩
 ·rw[n,o,p]at a;have r:=mx ag false (id:=0) (e:=9) (zs:=l) (Y:=qR (fun _=>none) 0 (some ⟨9,1,true,WT l⟩)) (Z:=1) (by simp) m;have j:=fun Y (h:Y 0=some ⟨9,1,true,WT (ag l)⟩)=>mx Lib.compact true (id:=0) (e:=9) (zs:=ag l) (Y:=Y) (Z:=1) h (by omega)
  rw[d]at j;have k:=j _ (by simp:qR (qR (fun _=>none) 0 (some (⟨9,1,true,WT l⟩:kN))) 0 (some ⟨9,1,true,WT (ag l)⟩) 0=_);simp at k;simp[a,r,k,f19];refine⟨.sl 1 (zx (Qh l)),?_,qX.refl _⟩;simp[Qh,zx,WT];exact qL (by simp)
theorem cL:zf prog 19 (zg true [1] (PF (fun l=>.sl 1 (zx (Qh l))) fun l=>l.length<=zw)):=
 Qu (fn:=f19) (zS mixed ⟨b7,BM,mz,trivial⟩:AM.Good Ul _) (qN func19) true [1] _ fun args r h w S vs b=>by obtain⟨l,rfl,c,rfl⟩:=zN h;obtain⟨u,rfl,d⟩:=WN b;obtain⟨y,e,a⟩:=uL d;obtain⟨f,g,i⟩:=BN l c y e;exact⟨_,f,.cons a .nil,zG (zk 1) (by decide),g,i⟩
end Go.Q
namespace Go.Q
mutual
def qW.zeo:qW->List qW
 | .mk k a o v p n l=>(if k=4 then[.mk k a o v p n l]else[])++Pt l
def Pt:List qW->List qW
 |[]=>[]
 |c::l=>c.zeo++Pt l
end
inductive UK:qW->Prop
 |mk {k o:Int} {a p n:List UInt8} {v:List qu} {l:List qW}:1<=k->k<=5->(k=3->l.length=1)->(k=4->vf o=true->0<v.length)->(∀x∈l,UK x)->UK (.mk k a o v p n l)
@[simp]theorem za2:K7 prog 34=some (some .i64,4):=by kernel_rfl
end Go.Q
namespace Go.AM
variable{dr:Prop}
end Go.AM
namespace Go.Q
@[simp]theorem zdP(U:Nat->O):AM.get U (.const (.map none))=some (.v (.map none)):=rfl
@[simp]theorem szF:qv prog 60=some 1:=by kernel_rfl
@[simp]theorem byF:jV prog 60=some 8:=by kernel_rfl
@[simp]theorem zeF:yC prog 60=some [.v .nilFunc]:=by kernel_rfl
@[simp]theorem agF:wQ prog 60=some false:=by kernel_rfl
def nK(M:List Nat):List zb:=M.map fun(i:Nat)=>[int i,wo true]
def cM(M:List Nat):kN:=⟨34,0,false,nK M⟩
theorem tp(i:Nat):∀(M:List Nat) (k:Nat),(i ∉ M->xm (.int .i64 i) (nK M) k=some none)/\(i∈M->∃j,xm (.int .i64 i) (nK M) k=some (some (j,wo true)))
 |[],k=>⟨fun _=>rfl,fun h=>by simp at h⟩
 |x::M,k=>by
  obtain⟨c,d⟩:=tp i M (k+1);by_cases a:i=x
  ·refine⟨fun h=>absurd (by simp[a]) h,fun _=>⟨k,?_⟩⟩;subst a;simp[nK,xm,xd]
  ·have e:xd (.int .i64 (i:Int)) (.int .i64 (x:Int))=some false:=by simp only[xd,qB,zW,jk,ne_eq];omega
   have b:xm (.int .i64 i) (nK (x::M)) k=xm (.int .i64 i) (nK M) (k+1):=by simp only[nK,wc,xm,e]
   refine⟨fun h=>by rw[b];exact c fun f=>h (zeg _ f),fun h=>?_⟩;rcases zv.1 h with h|h
   ·exact absurd h a
   ·rw[b];exact d h
theorem Oz{Y:Hp}{id:Nat}{M:List Nat}(i:Nat)(h:Y id=some (cM M)):xC prog Y 34 (.mp id) (int i) false=some (wo (decide (i∈M))):=by
 obtain⟨b,c⟩:=tp i M 0;by_cases a:i∈M
 ·obtain⟨j,d⟩:=c a;simp[xC,bm,h,cM,Yv,d,a]
 ·simp[xC,bm,h,cM,Yv,b a,a]
theorem zdQ{Y:Hp}{id:Nat}{M:List Nat}(i:Nat)(h:Y id=some (cM M))(hs:i ∉ M):Zt prog Y 34 (.mp id) (int i) (wo true)=some (qR Y id (some (cM (M++[i])))):=by obtain⟨a,b⟩:=tp i M 0;simp[Zt,h,cM,Yv,a hs];simp[nK]
theorem pD(succ:Nat->List Nat):∀(n:Nat) (M:List Nat) (i j:Nat),j∈M->j∈ba succ n M i
 | 0,_,_,_,h=>h
 |n+1,M,i,j,h=>by
  have b:∀(a M:List Nat),j∈M->j∈a.foldl (ba succ n) M:=by
   intro a
   induction a with
   |nil=>exact fun M h=>h
   |cons k a c=>exact fun M h=>c _ (pD succ n M k j h)
  unfold ba;split
  ·exact h
  ·exact b _ _ (by simp[h])
end Go.Q
namespace Go.Q
open Go.RowKit Go.AM Go.LikeLaw
end Go.Q
namespace Go.Q
inductive UL:qW->Prop
 |mk {k o:Int} {a p n:List UInt8} {v:List qu} {l:List qW}:(k=4->1<=o/\o<=12/\UpV v)->(∀x∈l,UL x)->UL (.mk k a o v p n l)
end Go.Q
namespace Go.AM
variable{dr:Prop}
section
variable{C:Ctx}{pf:FuncId->Bool}{N:Nat}
def Wp(dr:Prop)(C:Ctx)(N:Nat)(c:Code)(st:St)(K:Exit->St->Prop):Prop:=
 ∀(d:World) (g L:Nat->Prop) (Z0:Nat) (h:Nat->GI) (f:Nat) (a:Act) (w:World) (Q:Exit->Act->World->Prop),f<=d.heap.size->gz dr C.P d g L N Z0 h f st a w ->
  (∀e b i w',K e b->gz dr C.P d g L N Z0 h f b i w'->Q e i w')->c.wpIn Fence.wide 0 C.P Q a w
theorem Wp.of(b:xJ dr C pf){c:Code}{st:St}{K:Exit->St->Prop}(f:vI pf C.dyn C.Lr C.bk N c=true)(h:Zy C c st K):Wp dr C N c st K:=by obtain⟨e,d,i,j⟩:=h;intro k l L Z0 m n a w Q o hs p;exact iC b.spec b.quiet b.box b.iter b.mixed c f Fence.wide 0 (.inl rfl) (.inl rfl) k l L Z0 m n st d e a w Q o i hs fun q w' g=>p e d q w' j g
theorem Wp.mono{c:Code}{st:St}{K f:Exit->St->Prop}(h:Wp dr C N c st K)(g:∀e b,K e b->f e b):Wp dr C N c st f:=
 fun i j L Z0 k l a w Q m hs n=>h i j L Z0 k l a w Q m hs fun e b o w' d=>n e b o w' (g e b d)
def F7(dr:Prop)(C:Ctx)(N:Nat)(y:Code)(K:Exit->St->Prop)(e:Exit)(st:St):Prop:=match e with
 | .normal=>Wp dr C N y st K
 |e=>K e st
theorem Wp.seq{x y:Code}{st:St}{K:Exit->St->Prop}(h:Wp dr C N x st (F7 dr C N y K)):Wp dr C N (.seq x y) st K:=by
 intro c d L Z0 f g a w Q i hs j;refine wpIn_seq (h c d L Z0 f g a w _ i hs fun e l m w' k b=>?_);cases e<;>first
  |exact k c d L Z0 f g m w' Q i b j
  |exact j _ _ _ _ k b
theorem Wp.block{id:Nat}{b:Code}{st:St}{K:Exit->St->Prop}(h:Wp dr C N b st (Wu id K)):Wp dr C N (.block id b) st K:=by
 intro j k L Z0 l m a w Q n hs f;refine wpIn_block (h j k L Z0 l m a w _ n hs fun e o p w' d c=>?_);cases e with
 |exit i=>
  unfold Wu at d;unfold Exit.inBlock;simp only at d⊢;split at d
  ·rename_i g;rw[ze g];exact f _ _ _ _ d c
  ·rename_i g;rw[zd g];exact f _ _ _ _ d c
 |_=>exact f _ _ _ _ d c
theorem Wp.cond{c:Operand}{x y:Code}{st:St}{K:Exit->St->Prop}{b:Bool}(e:get st.U c=some (.v (.bool b)))(h:Wp dr C N (if b=true then x else y) st K):Wp dr C N (.cond c x y) st K:=by intro f g L Z0 i j a w Q k hs l;obtain⟨S,G,d⟩:=hs;obtain⟨m,_⟩:=(ZX d.xc e).wX;exact wpIn_cond m (h f g L Z0 i j a w Q k ⟨S,G,d⟩ l)
def tq(I:Nat->St->Prop)(n:Nat)(K:Exit->St->Prop)(e:Exit)(st:St):Prop:=match e with
 | .normal=>∃m,m<n/\I m st
 |e=>K e st
theorem Wp.loop{b:Code}{st:St}{K:Exit->St->Prop}(I:Nat->St->Prop)(n:Nat)(p:I n st)(h:∀n st,I n st->Wp dr C N b st (tq I n K)):Wp dr C N (.loop b) st K:=by
 intro i j L Z0 l o a w Q q hs r;refine wpIn_loop_rounds (n+1) ?_;have f:∀(k n:Nat) (st:St) (a:Act) (w:World),n<k->I n st->gz dr C.P i j L N Z0 l o st a w->Code.roundsIn Fence.wide 0 C.P b Q k a w:=by
  intro k
  induction k with
  |zero=>intro n st a w s;omega
  |succ k t=>
   intro n st a w s hi hs;rw[roundsIn_succ];refine h n st hi i j L Z0 l o a w _ q hs fun e g u w' c d=>?_
   cases e with
   |normal=>obtain⟨m,x,v⟩:=c;exact t m g u w' (by omega) v d
   |_=>exact r _ _ _ _ c d
 exact f _ n st a w (by omega) p hs
def Qo(dr:Prop)(C:Ctx)(N:Nat)(c:Array Oper)(l:List Nat)(st:St)(K:St->Prop):Prop:=
 ∀(d:World) (e L:Nat->Prop) (Z0:Nat) (f:Nat->GI) (g:Nat) (a:Act) (w:World) (Q:Exit->Act->World->Prop),gz dr C.P d e L N Z0 f g st a w ->
  (∀b h w',K b->gz dr C.P d e L N Z0 f g b h w'->Q .normal h w')->wpOpsIn Fence.wide 0 C.P c Q l a w
theorem Wp.region{id:Nat}{b:Array Oper}{st:St}{K:Exit->St->Prop}(h:Qo dr C N b (List.range b.size) st (KU K)):Wp dr C N (.region id b false) st K:=
 fun e f L Z0 g i a w Q _ hs j=>wpIn_region (h e f L Z0 g i a w Q hs fun c k w' l d=>j .normal c k w' l d)
theorem Qo.nil{b:Array Oper}{st:St}{K:St->Prop}(h:K st):Qo dr C N b [] st K:=fun d e L Z0 f g a w Q hs c=>c st a w h hs
theorem Qo.cons(M:xJ dr C pf){k:Array Oper}{i:Nat}{o:Oper}{l:List Nat}{st q:St}{K:St->Prop}(P:k[i]?=some o)(hd:∀d,o.dst=some d->d<N)(j:yD C k o st=some q)(h:Qo dr C N k l q K):Qo dr C N k (i::l) st K:=by
 intro r s L Z0 t u a w Q hs z;simp only[wpOpsIn,P];obtain⟨S,G,m⟩:=hs;unfold yD at j;rw[Vf m.xc];split at j
 ·rename_i A;rw[ze A];split at j
  ·rename_i x Y Z n;injection j with j
   subst j;have B:∀c,o.op≠.defer c:=by intro c D;rw[D]at n;simp[zU]at n
   refine⟨fun f _=>trivial,?_⟩;rw[Oper.semAt_eq _ _ _ B];have E:=bq M.spec m.inv (a:=a.eval) (fun y W R=>ZX m.xc R) (o:=o) n;rcases E with⟨v,w',F,H,p,I,J⟩|⟨g,vs,p,D⟩
   ·have b:=h r s L Z0 t u _ w' Q ⟨F,H,m.step I J hd⟩ z;rcases p with p|⟨p,rfl⟩
    ·rw[p];exact b
    ·rw[p];exact b
   ·rw[p];refine⟨fun h=>by simp[Fence.wide]at h,mK.2 (D.mono fun e w' T=>?_)⟩;obtain⟨v,F,H,rfl,I,J⟩:=T;exact h r s L Z0 t u _ w' Q ⟨F,H,m.step I J hd⟩ z
  ·cases j
 ·rename_i A;rw[zd A];injection j with j
  subst j;exact⟨fun f _=>trivial,h r s L Z0 t u _ w Q ⟨S,G,m.step (.refl m.inv) jM hd⟩ z⟩
end
section
variable{P:Program}{w:World}{S:Nat->Prop}{G:Nat->GI}{Y:Hp}{Z:Nat}
theorem BO(hi:Inv P w S G Y Z){t ty e:TypeId}{n by_ id off k:Nat}{b:kN}{ys:List zb}{z:zb}{u v:Value}
  (ht:wY P t=some e) (h1:qv P e=some n) (h2:jV P e=some by_) (h3:yC P e=some z) (hn:0<n) (hzl:z.length=n) (hb:Y id=some b) (hba:b.arr=true) (hbe:b.e=e) (hk:off+k=b.es.length)
  (hl1:k+ys.length<=maxLen) (hl2:(k+ys.length)*by_<=140737488355328) (hs:qe w S G Z (.own id off k) u) {x:O} (hv:AM.view Y n x=some ys) (hx:qe w S G Z x v) :
  ∃r w' es' L G',(Builtin.append_ #[t,t] ty #[u,v]).run P w=.ok r w'/\(es'=b.es++ys/\L=off\/es'=b.es.drop off++ys/\L=0) /\
   kO dr P Y Z S G w (qR (qR Y id none) Z (some ⟨e,n,true,es'⟩)) (Z+1) S G' w'/\qe w' S G' (Z+1) (.own Z L (k+ys.length)) r:=by
 obtain⟨i,vz,i1,i2,i3⟩:=ZY h3;have X:i.size=n:=by simpa[qv,i1]using h1
 have hby:i.bytes=by_:=by simpa[jV,i1]using h2
 have hzl':=(jc (w:=w) (S:=S) i3).1;have hzc:vz.cells.size=n:=by rw[<-hzl,hzl'];simp
 have hu:=kW ht;have Lt:=hs.xk;obtain⟨cap,g1,g2,g3,g4,rfl⟩:=hs.vH;have hbr:=hi.live id b hb;obtain⟨o,q1,q2,q3⟩:=hbr.row Lt;have hsb:(G id).s=n:=by
  have h5:=hbr.size Lt;rw[hbe]at h5;have h6:(P.info? e).map (·.size)=some n:=by simpa[qv]using h1
  rw[h6]at h5;injection h5 with h5
  exact h5.symm
 rw[hsb]at g4 q3⊢;rw[hbe]at q1;obtain⟨A,c,f,rfl,f1,f2⟩:=JY hi hv hx;have hff:=V7 hn f1 f2;have hl:((List.range (ys.length*n)).map f).length=ys.length*n:=by simp
 obtain⟨a,q⟩:=yx ((List.range (ys.length*n)).map f);have hone:∀u∈a,u.oneCell'=true:=fun u hu=>by rw[<-q]at hu;obtain⟨k,hk,rfl⟩:=qw.1 hu;exact(hff k (ye.1 hk)).choose_spec.2.2
 have M:∀j u,a[j]?=some u->∃ad,A=some ad/\w.cell? (ad.add j)=some u:=fun j u p=>by
  have PH:j<ys.length*n:=by rw[<-hl,q];exact(zi.1 p).1
  obtain⟨ad',e1,e2,_⟩:=hff j PH;rw[<-q,qo,jZ PH]at p;simp at p;exact⟨ad',e1,by rw[e2,p]⟩
 have Ld:∀(i' j:Nat) (m:zb) (K:O),ys[i']?=some m->m[j]?=some K->∃W,a[i'*n+j]?=some W/\jg w S G Z true K W:=fun i' j m K d p=>by
  obtain⟨ad',a1,a2,a3⟩:=f2 i' j m K d p;have F:j<n:=by rw[<-f1 m (zL d)];exact(zi.1 p).1
  have J:=j5 (n:=ys.length) (zi.1 d).1 F;exact⟨f (i'*n+j),by rw[<-q,qo,jZ J];rfl,a3⟩
 rw[q]at hl;have N:Src P i.size t (.slice A ys.length c) ys.length a w:=by
  cases A with
  |some ad=>exact Src.ofSlice w hu ad _ c a (by rw[X];exact hl) (fun j u p=>by obtain⟨ad',e1,e2⟩:=M j u p;injection e1 with e1;subst e1;exact e2) hone
  |none=>
   have hnil:a=[]:=by
    cases a with
    |nil=>rfl
    |cons u r=>obtain⟨_,e1,_⟩:=M 0 u rfl;cases e1
   have hm0:ys.length=0:=by
    rw[hnil]at hl;rcases Nat.eq_zero_or_pos ys.length with h|h
    ·exact h
    ·have:=Nat.mul_pos h hn;simp at hl;omega
   rw[hnil,hm0];exact Src.ofNil w hu c
 have hoz:o.size=off*n+cap*n:=by rw[q2,<-g4,qQ]
 have hkz:k*n<=cap*n:=zH _ g2;have Pq:b.es.length*n=off*n+k*n:=by rw[<-hk,qQ]
 have hsub:∀id' C,qR Y id none id'=some C->Y id'=some C:=fun id' C h=>Q7 h
 have Ti:∀id' C,qR Y id none id'=some C->(G id').g≠(G id).g:=fun id' C h he=>by
  have hne:id'≠id:=by rintro rfl;simp at h
  exact hne (hi.inj id' id C b (Q7 h) hb he)
 have B:∀m∈b.es,m.length=n:=fun m Q=>by rw[<-hsb];exact hbr.len Lt m Q
 by_cases H:k+ys.length<=cap
 ·have hmz:k*n+ys.length*n<=cap*n:=by rw[<-qQ];exact zH _ H
  obtain⟨y,I⟩:=yx ((o.toList.take (off*n+k*n)++a++o.toList.drop (off*n+k*n+a.length)).toArray);have pS:=run_storeCells_at P (G id).g (off*n+k*n) e a 0 o w q1 (by rw[hl];omega) hone;simp only[Qk]at pS;rw[I]at pS;have hcl:y.size=o.size:=by rw[<-I];simp[hl];omega
  have D:(Builtin.append_ #[t,t] ty #[.slice (some ⟨(G id).g,off*n,none⟩) k cap,.slice A ys.length c]).run P w=.ok (.slice (some ⟨(G id).g,off*n,none⟩) (k+ys.length) cap) (w.setRow (G id).g y):=by have B:=N.len;have l:=N.cells;rw[X]at l;simp[Builtin.append_,zz hu,sizeOf,typeInfo,i1,B,H,X,l,kg,pS]
  have zep:(b.es++ys).length*n<=(G id).z:=by rw[qj,qQ,Pq,<-q2,hoz];omega
  have k2:=kO.pU (dr:=dr) (w':=w.setRow (G id).g y) (Y1:=qR Y id none) hi hsub ⟨(G id).g,(G id).z,n⟩ e true (b.es++ys) y rfl rfl rfl (by simp[World.setRow]) (zk _)
   (fun C=>C=(G id).g) (fun C R=>by subst R;exact⟨⟨id,b,hb,rfl⟩,hi.apart id b hb,Ti⟩)
   (fun C _ hne _=>setRow_other w _ _ _ hne) Ti (hi.apart id b hb) (.inl ⟨id,b,hb,rfl⟩) hn (by simpa[qv]using h1)
   (fun m Q=>by
    rcases zK.1 Q with h|h
    ·exact B m h
    ·exact f1 m h)
   zep (setRow_heap w _ o _ _ _ q1) (hcl.trans q2) (fun i' j m K d p=>by
    show∃u,y[i'*n+j]?=some u/\jg w S G Z true K u;have T:m.length=n:=by
     rcases zK.1 (zL d)with h|h
     ·exact B m h
     ·exact f1 m h
    have F:j<n:=by rw[<-T];exact(zi.1 p).1
    have ht0:(o.toList.take (off*n+k*n)).length=off*n+k*n:=by simp;omega
    have hto:∀x:Nat,y[x]?=(o.toList.take (off*n+k*n)++(a++o.toList.drop (off*n+k*n+a.length)))[x]?:=fun x=>by rw[<-I,q5];simp
    by_cases hik:i'<b.es.length
    ·have J:=j5 (n:=b.es.length) hik F;rw[z8 hik]at d;obtain⟨W,u1,u2⟩:=q3 i' j m K d p;rw[hba]at u2;exact⟨W,by rw[hto,z8 (by omega),qt,ze (by omega)];simpa using u1,u2⟩
    ·rw[zQ (by omega)]at d;have hge:b.es.length*n<=i'*n:=zH _ (by omega);have PI:=(zi.1 d).1;have J:=j5 (n:=ys.length) PI F;obtain⟨W,u1,u2⟩:=Ld _ j m K d p;refine⟨W,?_,u2⟩;have hkk:i'*n+j-(off*n+k*n)=(i'-b.es.length)*n+j:=by rw[Gi];omega
     rw[hto,zQ (by omega),ht0,hkk,z8 (by omega)];exact u1)
  refine⟨_,_,b.es++ys,off,_,D,.inl ⟨rfl,rfl⟩,k2,?_⟩;have:=qe.own (w:=w.setRow (G id).g y) (S:=S) (G:=qR G Z ⟨(G id).g,(G id).z,n⟩) (Z:=Z+1) (id:=Z) (off:=off) (n:=k+ys.length) (cap:=cap) (by omega) H g3 (by simpa using g4) (by simpa using hn);simpa using this
 ·obtain⟨olds,hol⟩:=yx ((o.toList.drop (off*n)).take (k*n));have E:olds.length=k*n:=by rw[<-hol];simp;omega
  have hget:∀j,j<k*n->olds[j]?=o[off*n+j]?:=fun j p=>by rw[<-hol,qt,ze p,qK];simp
  have D:=run_append_grow_src (P:=P) w t t ty e i vz hu i1 i2 (some ⟨(G id).g,off*n,none⟩) k cap olds
   (by
    rw[X];refine run_firstCells_some w.drew n k ⟨(G id).g,off*n,none⟩ k cap olds E fun j u p=>?_
    have PH:j<k*n:=by rw[<-E];exact(zi.1 p).1
    rw[hget j PH]at p;rw[kg];exact(UA w _ _ o _ _ q1).trans p)
   (.slice A ys.length c) ys.length a N (by omega) (by unfold maxLen at hl1;omega) (growslice_fits (by omega) (by rw[hby];exact hl2))
  obtain⟨gc,hgc⟩:=yx (grownCap w (k+ys.length) cap e);rw[hgc]at D;have hge:k+ys.length<=gc:=by rw[<-hgc];exact grownCap_ge w _ _ e
  have PL:gc<=maxLen:=by rw[<-hgc];exact grownCap_le_maxLen w _ _ e hl1
  obtain⟨cells,l⟩:=yx ((olds++a).toArray++Builtin.zeroCells vz.cells (gc-(k+ys.length)));rw[l]at D;have hcs:cells.size=gc*n:=by rw[<-l,Ql,O2,hzc];simp only[jy,qj,E,hl];rw[<-qQ,<-qQ];congr 1;omega
  have hcg:∀j,j<(k+ys.length)*n->cells[j]?=(olds++a)[j]?:=fun j p=>by rw[<-l,vm (by simp[E,hl];rw[<-qQ];exact p)];simp
  have k2:=kO.pU (dr:=dr) (w':=w.drew.alloc (.cells cells e)) (Y1:=qR Y id none) hi hsub ⟨w.heap.size,cells.size,n⟩ e true (b.es.drop off++ys) cells rfl rfl rfl (by simp) (Qj _)
   (fun C=>C=(G id).g) (fun C R=>by subst R;exact⟨⟨id,b,hb,rfl⟩,hi.apart id b hb,Ti⟩)
   (fun C R hne _=>Below.heap_alloc w.drew _ C R) (fun id' C h=>Nat.ne_of_lt (hi.live id' C (Q7 h)).lt) (fun hS=>by have:=hi.st _ hS;simp at this) (.inr (zk _)) hn (by simpa[qv]using h1)
   (fun m Q=>by
    rcases zK.1 Q with h|h
    ·exact B m (Wm _ _ h)
    ·exact f1 m h)
   (by rw[qj,gx,hcs];exact zH _ (by omega)) (heap_alloc_new w.drew _) rfl (fun i' j m K d p=>by
    show∃u,cells[i'*n+j]?=some u/\jg w S G Z true K u;have T:m.length=n:=by
     rcases zK.1 (zL d)with h|h
     ·exact B m (Wm _ _ h)
     ·exact f1 m h
    have F:j<n:=by rw[<-T];exact(zi.1 p).1
    have PI:=(zi.1 d).1;rw[qj,gx]at PI;have J:i'*n+j<(k+ys.length)*n:=j5 (by omega) F;by_cases hik:i'<k
    ·have Tj:=j5 (n:=k) hik F;rw[z8 (by rw[gx];omega),qK]at d;obtain⟨W,u1,u2⟩:=q3 (off+i') j m K d p;rw[hba]at u2;refine⟨W,?_,u2⟩;rw[hcg _ J,z8 (by omega),hget _ Tj,<-u1,qQ,gQ]
    ·rw[zQ (by rw[gx];omega),gx]at d;have hge':k*n<=i'*n:=zH _ (by omega);obtain⟨W,u1,u2⟩:=Ld _ j m K d p;refine⟨W,?_,u2⟩;have hkk:i'*n+j-k*n=(i'-(b.es.length-off))*n+j:=by rw[show b.es.length-off=k from by omega,Gi];omega
     rw[hcg _ J,zQ (by omega),E,hkk];exact u1)
  refine⟨_,_,b.es.drop off++ys,0,_,D,.inr ⟨rfl,rfl⟩,k2,?_⟩;have:=qe.own (w:=w.drew.alloc (.cells cells e)) (S:=S) (G:=qR G Z ⟨w.heap.size,cells.size,n⟩) (Z:=Z+1) (id:=Z) (off:=0) (n:=k+ys.length) (cap:=gc) (by omega) hge PL (by simp[hcs]) (by simpa using hn);simpa using this
end
section
variable{C:Ctx}{pf:Nat->Bool}{f:FuncId}{fn:Func}{code:Code}
theorem BP{st:St}{a:Act}{w:World}{S:Nat->Prop}{G:Nat->GI}(hi:Inv C.P w S G st.Y st.Z)(f:∀t,qe w S G st.Z (st.U t) (a.tmps.getD t undef)){r:O}(h:xP C.P fn st=some r):∃v,(results fn a.tmps).run C.P w=.ok v w/\qe w S G st.Z r v:=by
 unfold xP at h;have k:∀xs,yh (fn.results.toList.map (WJ C.P st))=some xs->r=(match xs with|[x]=>x|xs=>.wP xs)->∃v,(results fn a.tmps).run C.P w=.ok v w/\qe w S G st.Z r v:=by
  intro xs g b;obtain⟨us,m,c⟩:=YZ hi f g;have e:(results fn a.tmps).run C.P w=.ok (if h:us.toArray.size=1 then us.toArray[0]else .tuple us.toArray) w:=by unfold results;rw[Array.mapM_eq_mapM_toList];simp only[vS,Sem.run_map];erw [m];rfl
  refine⟨_,e,?_⟩
  match xs,c,b with
  |[],c,b=>rw[c.Wq];subst b;exact .wP rfl (by simp)
  |[y],c,b=>obtain⟨u,rfl,i⟩:=WN c;subst b;simpa using i
  |y::z::ys,c,b=>have l:=c.1;subst b;rw[dif_neg (by simp at l⊢;omega)];exact .wP (by simpa using l) (fun j n u o i=>c.2 j n u o (by simpa using i))
 split at h
 ·rename_i y p;injection h with h
  exact k [y] p h.symm
 ·rename_i xs d g;injection h with h
  refine k xs g ?_;rw[<-h]
  match xs,d with
  |[],_=>rfl
  |[y],d=>exact(d y rfl).elim
  |y::z::ys,_=>rfl
 ·cases h
theorem BQ(y:C.P.funcs[f]?=some fn)(z:fn.body=some code){args:zb}{Y:Hp}{Z:Nat}{R:O->Hp->Nat->Prop}(hW:Wp dr C fn.ntmps code ⟨kE args,Y,Z⟩ (J2 C.P fn R))
  {w:World} {S:Nat->Prop} {G:Nat->GI} {vs:List Value} (hi:Inv C.P w S G Y Z) (A:Zip (qe w S G Z) args vs) (hn:args.length<=fn.ntmps) :
  Calls C.P f vs.toArray w fun e w'=>∃x p l v d g,R x p l/\e=.returned v/\kO dr C.P Y Z S G w p l d g w'/\qe w' d g l x v:=by
 refine mK.1 (callsIn_of_wp_marks (n:=0) y z trivial ?_);have q:gz dr C.P w S (kF Y G) fn.ntmps Z G w.heap.size ⟨kE args,Y,Z⟩ {tmps:=vs.toArray++Array.replicate (fn.ntmps-vs.toArray.size) undef,defers:=[]} w:=by
  refine⟨S,G,hi,fun t=>?_,?_,.nil (zk _),fun _ h=>h,fun _ h=>.inl h,fun id b i=>.inl ⟨id,b,i,rfl⟩,Fr.refl _ _,zk _,fun _ _=>rfl⟩
  ·have B:vs.length=args.length:=A.1.symm;unfold kE;by_cases ht:t<args.length
   ·have o:args[t]?=some args[t]:=zl ht;have W:vs[t]?=some (vs[t]'(by omega)):=zl (by omega);have h3:=A.2 t _ _ o W;have E:(vs.toArray++Array.replicate (fn.ntmps-vs.toArray.size) undef)[t]?=vs[t]?:=by rw[vm (by simpa using(by omega:t<vs.length))];simp
    simp only[o,Wo];rw[YR,E,W];exact h3
   ·have o:args[t]?=none:=jr (by omega);have E:(vs.toArray++Array.replicate (fn.ntmps-vs.toArray.size) undef).getD t undef=undef:=by rw[YR,Array.getElem?_append_right (by simpa using(by omega:vs.length<=t)),Array.getElem?_replicate];split<;>rfl
    simp only[o,Option.getD_none];rw[E];exact jM
  ·have B:vs.length=args.length:=A.1.symm;simp;omega
 refine hW w S (kF Y G) Z G w.heap.size _ w _ (zk _) q fun e st F X c H=>?_
 obtain⟨d,g,a⟩:=H;obtain⟨hd0,Ds,I,J,j⟩:=a.defers;have K:(e=.normal\/e=.ret)/\∃r,xP C.P fn st=some r/\R r st.Y st.Z:=by
  cases e<;>first
   |exact⟨.inl rfl,c⟩
   |exact⟨.inr rfl,c⟩
   |exact c.elim
 obtain⟨K,r,L,hR⟩:=K;have s:LeavesInM Fence.wide 0 C.P fn F.tmps (fun e w'=>∃x p l v d g,R x p l/\e=.returned v/\kO dr C.P Y Z S G w p l d g w'/\qe w' d g l x v) F.defers .returning X:=by
  rw[I];refine J3 (dr:=dr) Ds X J (fun D hD=>(j D hD).2.1) fun w' m=>?_
  have u:∀b,b∈Ds->K5 d g st.Y b:=fun b i=>⟨(j b i).2.2.1,(j b i).2.2.2⟩
  have k:=a.inv.frame m u;have M:∀t,qe w' d g st.Z (st.U t) (F.tmps.getD t undef):=fun t=>(a.xc t).mono (fun b i=>⟨i,m.block b (a.inv.st b i) fun N=>(u b N).1 i⟩) (zk _) (fun _ _=>rfl)
  have hk:kO dr C.P Y Z S G w st.Y st.Z d g w':=⟨k,a.up,a.loc,a.s0,a.s1,a.own,a.fr.trans m fun b i o=>by have:=(j b o).1;omega⟩;obtain⟨v,Q,T⟩:=BP k M L;exact⟨v,Q,r,_,_,v,d,g,hR,rfl,hk,T⟩
 rcases K with rfl|rfl
 ·exact s
 ·exact s
theorem cN(i:C.P.funcs[f]?=some fn)(t:(fn.name== "runtime.NumGoroutine")=false)(j:fn.body=some code)(l:Bool)(T:List Nat)(F:zb->Option O)(hF:∀args r,F args=some r->args.length<=fn.ntmps/\Wp dr C fn.ntmps code ⟨kE args,fun _=>none,0⟩ (J2 C.P fn (Jl r))):kh dr C.P f (zg l T F):=by
 refine⟨⟨fn,i,t,by rw[j];rfl⟩,?_⟩;intro args Y Z r Y' Z' h w S G vs hi W;unfold zg at h;split at h
 ·rename_i X Y1 u;split at h
  ·rename_i r0 y;obtain⟨hn,hW⟩:=hF _ r0 y;obtain⟨S1,s,z,A⟩:=jN (dr:=dr) hi u W;refine(BQ i j hW (dm (fun _=>⟨0,0,0⟩) s.inv.st s.inv.gT) (Wa z).closed hn).mono fun e w' hh=>?_
   obtain⟨x,hpe,nxe,v,S',G',⟨r1,m,B⟩,N,k,hx⟩:=hh;have Q:Fr dr w (fun _=>False) w':=⟨k.fr.os,k.fr.tape,k.fr.output,k.fr.size,k.fr.drawn,fun b d _=>k.fr.block b d QC⟩;obtain⟨⟨r2,hpf⟩,D,n⟩:=zV m;simp only at n;subst n;obtain⟨S2,R,E⟩:=WL (dr:=dr) k.inv D hx;have H:=rq E B;have o:∀b,S2 b->S1 b\/(w.heap.size<=b/\b<w'.heap.size):=by
    intro b d;have p:=R.inv.st b d;rcases R.from_ b d with h1|⟨id,blk,h1,rfl⟩|h1
    ·rcases k.from_ b h1 with a|a|a
     ·exact .inl a
     ·exact(QC a).elim
     ·exact .inr ⟨a,p⟩
    ·rcases k.own id blk h1 with a|a
     ·exact(QC a).elim
     ·exact .inr ⟨a,p⟩
    ·exact absurd h1 (by omega)
   split at h
   ·rename_i g;injection h with h
    injection h with I h;injection h with J K;subst I;subst J;subst K;refine⟨v,_,G,N,kO.outer hi Q,.c ?_⟩;rcases g with L|M
    ·exact iE H L
    ·have q:=A M;exact H.mono fun b d=>⟨by rw[<-q];exact o b d,rfl⟩
   ·split at h
    ·injection h with h;injection h with I h;injection h with J K;subst I;subst J;subst K;exact⟨v,_,G,N,s.trans (kO.outer s.inv Q),.c (H.mono fun b d=>⟨o b d,rfl⟩)⟩
    ·cases h
  ·cases h
 ·cases h
theorem tt(b:fM C pf f fn code)(a:Bool)(c:List Nat)(F:zb->Option O)(hF:∀args r,F args=some r->args.length<=fn.ntmps/\Wp dr C fn.ntmps code ⟨kE args,fun _=>none,0⟩ (J2 C.P fn (Jl r))):kh dr C.P f (zg a c F):=
 cN b.func b.name b.body a c F hF
end
variable{dr:Prop}
section
variable{C:Ctx}{pf:FuncId->Bool}{N:Nat}
@[simp]theorem cO(y:Code)(K:Exit->St->Prop)(st:St):F7 dr C N y K .normal st=Wp dr C N y st K:=rfl
@[simp]theorem zfg(y:Code)(K:Exit->St->Prop)(st:St):F7 dr C N y K .ret st=K .ret st:=rfl
@[simp]theorem zfh(y:Code)(K:Exit->St->Prop)(i:Nat)(st:St):F7 dr C N y K (.exit i) st=K (.exit i) st:=rfl
@[simp]theorem zdR(I:Nat->St->Prop)(n:Nat)(K:Exit->St->Prop)(st:St):tq I n K .normal st=∃m,m<n/\I m st:=rfl
@[simp]theorem zdS(I:Nat->St->Prop)(n:Nat)(K:Exit->St->Prop)(st:St):tq I n K .ret st=K .ret st:=rfl
@[simp]theorem zdT(I:Nat->St->Prop)(n i:Nat)(K:Exit->St->Prop)(st:St):tq I n K (.exit i) st=K (.exit i) st:=rfl
theorem Wp.cut(f:xJ dr C pf){a b:Code}{st:St}{K:Exit->St->Prop}(Q:(Nat->O)->Hp->Nat->Prop)(c:vI pf C.dyn C.Lr C.bk N a=true)(g:Zy C a st (HI (fun st=>Q st.U st.Y st.Z) K))(h:∀U Y Z,Q U Y Z->Wp dr C N b ⟨U,Y,Z⟩ K):Wp dr C N (.seq a b) st K:=
 Wp.seq ((Wp.of f c g).mono fun e i d=>by
  cases e<;>first
   |exact h _ _ _ d
   |exact d)
theorem Wp.any{c:Code}{st:St}{K:Exit->St->Prop}(Q:(Nat->O)->Hp->Nat->Prop)(a:Q st.U st.Y st.Z)(h:∀U Y Z,Q U Y Z->Wp dr C N c ⟨U,Y,Z⟩ K):Wp dr C N c st K:=h _ _ _ a
theorem pE{a:Array Oper}{K:St->Prop}(g:xJ dr C pf):∀{l:List Nat} {c:List Oper} {l2:List Nat} {st b:St},l.map (fun i=>a[i]?)=c.map some->(∀o∈c,∀d,o.dst=some d->d<N)->xn C a c st=some b->Qo dr C N a l2 b K->Qo dr C N a (l++l2) st K
 |[],[],l2,st,b,_,_,h,e=>by simp only[xn]at h;injection h with h;subst h;exact e
 |[],_::_,_,_,_,h,_,_,_=>by simp at h
 |_::_,[],_,_,_,h,_,_,_=>by simp at h
 |i::l,o::c,l2,st,b,f,hd,h,e=>by
  simp only[wc,zh]at f;simp only[xn]at h;split at h
  ·rename_i s hs;exact Qo.cons g f.1 (hd o (by simp)) hs (pE g f.2 (fun o j=>hd o (by simp[j])) h e)
  ·cases h
theorem Qo.pre(f:xJ dr C pf){a:Array Oper}{l l2:List Nat}{c:List Oper}{st:St}{K:St->Prop}(g:l.map (fun i=>a[i]?)=c.map some)(hd:c.all (fun o=>match o.dst with|some d=>decide (d<N)|none=>true)=true)(h:rk C a c st fun b=>Qo dr C N a l2 b K):Qo dr C N a (l++l2) st K:=by
 obtain⟨b,j,k⟩:=h;exact pE f g (fun o m d e=>by have:=zY.1 hd o m;rw[e]at this;simpa using this) j k
theorem Qo.gA(g:xJ dr C pf){c:Array Oper}{l2:List Nat}{st:St}{K:St->Prop}(a b:Nat)(k:a+b<=c.size)(hd:c.toList.all (fun o=>match o.dst with|some d=>decide (d<N)|none=>true)=true)(h:rk C c ((c.toList.drop a).take b) st fun f=>Qo dr C N c l2 f K):Qo dr C N c (List.range' a b++l2) st K:=by
 refine Qo.pre g ?_ ?_ h
 ·apply List.ext_getElem?;intro i;rw[qo,qo,qt];by_cases hi:i<b
  ·have e:(List.range' a b)[i]?=some (a+i):=by rw[List.getElem?_range' hi];simp
   rw[e,ze hi,qK];have:a+i<c.size:=by omega
   simp[this]
  ·rw[zd hi,jr (by simp;omega)];rfl
 ·exact zY.2 fun o j=>zY.1 hd o (Wm _ _ (KG _ _ j))
theorem Qo.append{m:Array Oper}{i:Nat}{d:Tmp}{x y:Operand}{t ty:TypeId}{p:String}{J:Array Edge}{l:List Nat}{st:St}{K:St->Prop}{e:TypeId}{n by_ id off k:Nat}{b:kN}{v:O}{ys:List zb}{z:zb}
  (M:m[i]?=some ⟨some d,.call ⟨.builtin .append,#[x,y],#[t,t]⟩,ty,p,J,none⟩) (hd:d<N) (R:get st.U x=some (.own id off k)) (T:get st.U y=some v) (W:AM.view st.Y n v=some ys)
  (X:wY C.P t=some e) (h1:qv C.P e=some n) (h2:jV C.P e=some by_) (h3:yC C.P e=some z) (hn:0<n) (u:z.length=n) (hb:st.Y id=some b) (A:b.arr=true) (B:b.e=e) (hk:off+k=b.es.length)
  (D:k+ys.length<=maxLen) (E:(k+ys.length)*by_<=140737488355328)
  (h:∀j g,(j=b.es++ys/\g=off\/j=b.es.drop off++ys/\g=0)->Qo dr C N m l ⟨qR st.U d (.own st.Z g (k+ys.length)),qR (qR st.Y id none) st.Z (some ⟨e,n,true,j⟩),st.Z+1⟩ K):Qo dr C N m (i::l) st K:=by
 intro w0 S0 L Z0 G0 n0 a w Q hs hQ;simp only[wpOpsIn,M];obtain⟨S,G,o⟩:=hs;rw[Vf o.xc,ze (YB _ _ _ _ _ _)];have F:∀c,(Op.call ⟨.builtin .append,#[x,y],#[t,t]⟩:Op)≠.defer c:=fun c hc=>by cases hc
 refine⟨fun f _=>trivial,?_⟩;rw[Oper.semAt_eq _ _ _ F];obtain⟨r,w',j,g,G',hr,he,H,I⟩:=BO (dr:=dr) (ty:=ty) o.inv X h1 h2 h3 hn u hb A B hk D E (ZX o.xc R) W (ZX o.xc T);have q:=h j g he w0 S0 L Z0 G0 n0 (a.put (some d) r) w' Q ⟨S,G',o.step (dst:=some d) H I (fun _ e=>by cases e;exact hd)⟩ hQ;have s:(execOp a.eval ⟨some d,.call ⟨.builtin .append,#[x,y],#[t,t]⟩,ty,p,J,none⟩).run C.P w=.ok (.value r) w':=by simp[execOp,resolve,invoke,builtin,hr,-bind_pure_comp]
 rw[s];exact q
@[simp]theorem zfP(P:Program)(t:TypeId)(ad:Addr):JT P t (.v (.slice (some ad) 0 0))=(wY P t).map fun _=>.v (.int .i64 0):=rfl
theorem ED{P:Program}{w:World}{S:Nat->Prop}{G:Nat->GI}{Y:Hp}{Z:Nat}(hi:Inv P w S G Y Z){t e:TypeId}{n id off k:Nat}{b:kN}{u:Value}(m:P.underlying t=some (.slice e))(hs:qv P e=some n)(x:Y id=some b)(d:b.s=n)(B:0<k)(o:qe w S G Z (.own id off k) u) :
  ∃r v,(Instr.sliceAt t u (some (.int .i64 1)) none none).run P w=.ok v w/\qe w S G Z r v/\(r=.own id (off+1) (k-1)\/k=1/\∃ad,r=.v (.slice (some ad) 0 0)):=by
 have f:=o.xk;obtain⟨cap,y,z,C,A,rfl⟩:=o.vH;have a:=W6 (P:=P) (w:=w) (S:=S) (G:=G) (Z:=Z) (isS:=true) (len:=k) (cap:=cap) (l:=1) (h:=k) (lo:=some (some (.v (.int .i64 1)))) (hi:=none) (vl:=some (.int .i64 1)) (vh:=none) rfl rfl (by omega) z (by simp) (fun p Y=>⟨_,rfl,by simp only[zW]at Y;subst Y;exact .c (.v rfl)⟩) (by simp) (fun _=>rfl) (by simp) (by simp);have i:(G id).s=n:=by rw[<-(hi.live id b x).bs,d]
 by_cases q:cap=1
 ·subst q;have j:k=1:=by omega
  subst j;exact⟨_,_,by simp[Instr.sliceAt,zz m,Instr.slice,a,ya hs];rfl,.c (.v rfl),.inr ⟨rfl,_,rfl⟩⟩
 ·refine⟨.own id (off+1) (k-1),.slice (some ⟨(G id).g,(off+1)*(G id).s,none⟩) (k-1) (cap-1),?_,.own y (by omega) (by omega) ?_ f,.inl rfl⟩
  ·simp[Instr.sliceAt,zz m,Instr.slice,a,ya hs,q,kg,i,qQ]
  ·rw[show off+1+(cap-1)=off+cap from by omega];exact A
theorem Qo.slice{g:Array Oper}{i:Nat}{d:Tmp}{x:Operand}{t ty:TypeId}{p:String}{A:Array Edge}{l:List Nat}{st:St}{K:St->Prop}{e:TypeId}{n id off k:Nat}{b:kN}
  (D:g[i]?=some ⟨some d,.slice t x (some (.const (.int .i64 1))) none none,ty,p,A,none⟩) (hd:d<N) (E:get st.U x=some (.own id off k)) (F:C.P.underlying t=some (.slice e)) (hs:qv C.P e=some n) (H:st.Y id=some b) (q:b.s=n) (I:0<k)
  (h:∀r,(r=.own id (off+1) (k-1)\/k=1/\∃ad,r=.v (.slice (some ad) 0 0))->Qo dr C N g l ⟨qR st.U d r,st.Y,st.Z⟩ K):Qo dr C N g (i::l) st K:=by
 intro J M L Z0 R T a w Q u W;simp only[wpOpsIn,D];obtain⟨S,G,j⟩:=u;rw[Vf j.xc,ze (YB _ _ _ _ _ _)];have y:∀c,(Op.slice t x (some (.const (.int .i64 1))) none none:Op)≠.defer c:=fun c X=>by cases X
 refine⟨fun f _=>trivial,?_⟩;rw[Oper.semAt_eq _ _ _ y];obtain⟨r,v,B,z,he⟩:=ED j.inv F hs H q I (ZX j.xc E);have m:=h r he J M L Z0 R T (a.put (some d) v) w Q ⟨S,G,j.step (dst:=some d) (.refl j.inv) z (fun _ e=>by cases e;exact hd)⟩ W;have o:(execOp a.eval ⟨some d,.slice t x (some (.const (.int .i64 1))) none none,ty,p,A,none⟩).run C.P w=.ok (.value v) w:=by simp[execOp,Act.eval,-bind_pure_comp]at B⊢;simp[B]
 rw[o];exact m
theorem IK{P:Program}{w:World}{S:Nat->Prop}{G:Nat->GI}{Y:Hp}{Z:Nat}(hi:Inv P w S G Y Z){t ty e:TypeId}{n by_:Nat}{ad:Addr}{ys:List zb}{z:zb}{v:Value}{x:O}
  (ht:wY P t=some e) (h1:qv P e=some n) (h2:jV P e=some by_) (h3:yC P e=some z) (J:0<n) (N:z.length=n) (B:ys.length<=maxLen) (Q:ys.length*by_<=140737488355328) (hv:AM.view Y n x=some ys) (hx:qe w S G Z x v) :
  ∃r y w' R K G',(Builtin.append_ #[t,t] ty #[.slice (some ad) 0 0,v]).run P w=.ok r w'/\(ys=[]/\y=.v (.slice (some ad) 0 0)/\R=Y/\K=Z\/y=.own Z 0 ys.length/\R=qR Y Z (some ⟨e,n,true,ys⟩)/\K=Z+1)/\kO dr P Y Z S G w R K S G' w'/\qe w' S G' K y r:=by
 obtain⟨i,T,L,i2,i3⟩:=ZY h3;have W:i.size=n:=by simpa[qv,L]using h1
 have X:i.bytes=by_:=by simpa[jV,L]using h2
 have C:=(jc (w:=w) (S:=S) i3).1;have hzc:T.cells.size=n:=by rw[<-N,C];simp
 have s:=kW ht;obtain⟨A,c,f,rfl,f1,f2⟩:=JY hi hv hx;have l:=V7 J f1 f2;by_cases hm:ys=[]
 ·subst hm;refine⟨_,_,w,Y,Z,G,?_,.inl ⟨rfl,rfl,rfl,rfl⟩,.refl hi,.c (.v rfl)⟩;cases A<;>simp[Builtin.append_,zz s,sizeOf,typeInfo,L,Builtin.lenOf,Builtin.firstCells,loadCells,loadCellsFrom,storeCells]
 have hm0:0<ys.length:=jl.2 hm;obtain⟨d,a⟩:=yx ((List.range (ys.length*n)).map f);have M:d.length=ys.length*n:=by rw[<-a];simp
 obtain⟨m,rfl,_,_⟩:=l 0 (Nat.mul_pos hm0 J);have D:Src P i.size t (.slice (some m) ys.length c) ys.length d w:=by
  refine Src.ofSlice w s m _ c d (by rw[W];exact M) (fun j u o=>?_) (fun u s=>?_)
  ·have E:j<ys.length*n:=by rw[<-M];exact(zi.1 o).1
   obtain⟨ad2,e1,e2,_⟩:=l j E;injection e1 with e1;subst e1;rw[<-a,qo,jZ E]at o;simp at o;rw[e2,o]
  ·rw[<-a]at s;obtain⟨k,hk,rfl⟩:=qw.1 s;exact(l k (ye.1 hk)).choose_spec.2.2
 have g:=run_append_grow_src (P:=P) w t t ty e i T s L i2 (some ad) 0 0 [] (by simp[Builtin.firstCells,loadCells,loadCellsFrom]) (.slice (some m) ys.length c) ys.length d D (by omega) (by unfold maxLen at B;omega) (growslice_fits (by omega) (by rw[X,yi];exact Q));simp only[yi,ku]at g;obtain⟨gc,p⟩:=yx (grownCap w ys.length 0 e);rw[p]at g;have F:ys.length<=gc:=by rw[<-p];exact grownCap_ge w _ _ e
 have PL:gc<=maxLen:=by rw[<-p];exact grownCap_le_maxLen w _ _ e B
 obtain⟨cells,b⟩:=yx (d.toArray++Builtin.zeroCells T.cells (gc-ys.length));rw[b]at g;have H:cells.size=gc*n:=by rw[<-b,Ql,O2,hzc];simp only[jy,M];rw[<-qQ];congr 1;omega
 have k2:=kO.pU (dr:=dr) (w':=w.drew.alloc (.cells cells e)) (Y1:=Y) hi (fun _ _ h=>h) ⟨w.heap.size,cells.size,n⟩ e true ys cells rfl rfl rfl (by simp) (Qj _)
  (fun _=>False) (fun _ h=>h.elim) (fun b' hb' hne _=>Below.heap_alloc w.drew _ b' hb') (fun id' b' h=>Nat.ne_of_lt (hi.live id' b' h).lt) (fun hS=>by have:=hi.st _ hS;simp at this) (.inr (zk _)) J (by simpa[qv]using h1) f1
  (by rw[H];exact zH _ F) (heap_alloc_new w.drew _) rfl (fun i' j c' pv q o=>by
   show∃u,cells[i'*n+j]?=some u/\jg w S G Z true pv u;obtain⟨ad2,a1,a2,a3⟩:=f2 i' j c' pv q o;have hjn:j<n:=by rw[<-f1 c' (zL q)];exact(zi.1 o).1
   have I:i'*n+j<ys.length*n:=j5 (zi.1 q).1 hjn;refine⟨f (i'*n+j),?_,a3⟩;rw[<-b,vm (by simp[M];exact I)];simp[<-a,I])
 refine⟨_,_,_,_,_,_,g,.inr ⟨rfl,rfl,rfl⟩,k2,?_⟩;have:=qe.own (w:=w.drew.alloc (.cells cells e)) (S:=S) (G:=qR G Z ⟨w.heap.size,cells.size,n⟩) (Z:=Z+1) (id:=Z) (off:=0) (n:=ys.length) (cap:=gc) (by omega) F PL (by simp[H]) (by simpa using J);simpa using this
theorem Qo.Gv{b:Array Oper}{i:Nat}{d:Tmp}{x y:Operand}{t ty:TypeId}{p:String}{F:Array Edge}{l:List Nat}{st:St}{K:St->Prop}{e:TypeId}{n by_:Nat}{ad:Addr}{v:O}{ys:List zb}{z:zb}
  (H:b[i]?=some ⟨some d,.call ⟨.builtin .append,#[x,y],#[t,t]⟩,ty,p,F,none⟩) (hd:d<N) (I:get st.U x=some (.v (.slice (some ad) 0 0))) (J:get st.U y=some v) (M:AM.view st.Y n v=some ys)
  (R:wY C.P t=some e) (T:qv C.P e=some n) (W:jV C.P e=some by_) (X:yC C.P e=some z) (hn:0<n) (q:z.length=n) (s:ys.length<=maxLen) (u:ys.length*by_<=140737488355328)
  (h:∀w g j,(ys=[]/\w=.v (.slice (some ad) 0 0)/\g=st.Y/\j=st.Z\/w=.own st.Z 0 ys.length/\g=qR st.Y st.Z (some ⟨e,n,true,ys⟩)/\j=st.Z+1)->Qo dr C N b l ⟨qR st.U d w,g,j⟩ K):Qo dr C N b (i::l) st K:=by
 intro w0 S0 L Z0 G0 n0 a w Q hs hQ;simp only[wpOpsIn,H];obtain⟨S,G,k⟩:=hs;rw[Vf k.xc,ze (YB _ _ _ _ _ _)];have A:∀c,(Op.call ⟨.builtin .append,#[x,y],#[t,t]⟩:Op)≠.defer c:=fun c hc=>by cases hc
 refine⟨fun f _=>trivial,?_⟩;rw[Oper.semAt_eq _ _ _ A];obtain⟨B,_⟩:=(ZX k.xc I).wX;obtain⟨r,y',w',g,j,G',hr,he,D,E⟩:=IK (dr:=dr) (ty:=ty) (ad:=ad) k.inv R T W X hn q s u M (ZX k.xc J);have m:=h y' g j he w0 S0 L Z0 G0 n0 (a.put (some d) r) w' Q ⟨S,G',k.step (dst:=some d) D E (fun _ e=>by cases e;exact hd)⟩ hQ;have o:(execOp a.eval ⟨some d,.call ⟨.builtin .append,#[x,y],#[t,t]⟩,ty,p,F,none⟩).run C.P w=.ok (.value r) w':=by simp[execOp,resolve,invoke,builtin,B,hr,-bind_pure_comp]
 rw[o];exact m
end
end Go.AM
namespace Go.Q
def nU(Y:Hp)(Z:Nat)(e s:Nat)(v:O)(xs:List zb):Prop:=(v=.nil/\xs=[])\/(xs≠[]/\∃id,id<Z/\v=.own id 0 xs.length/\Y id=some ⟨e,s,true,xs⟩)
theorem nU.more{Y:Hp}{Z e s:Nat}{v:O}{xs:List zb}(h:nU Y Z e s v xs)(b:Option kN):nU (qR Y Z b) (Z+1) e s v xs:=by
 rcases h with⟨rfl,rfl⟩|⟨a,id,d,rfl,c⟩
 ·exact .inl ⟨rfl,rfl⟩
 ·exact .inr ⟨a,id,by omega,rfl,by rw[zM _ _ _ _ (by omega)];exact c⟩
theorem nU.KP{P:Program}{Y:Hp}{Z e s by_:Nat}{v:O}{xs:List zb}{ys:List zb}{z:zb}{t:TypeId}(h:nU Y Z e s v xs)(b:wY P t=some e)(hs:qv P e=some s)(c:jV P e=some by_)(d:yC P e=some z)
  (a:z.length=s) (f:0<s) (g:xs.length+ys.length<=maxLen) (i:(xs.length+ys.length)*by_<=140737488355328) :
  ∃k l m,yW P Y Z t t v (.sl s ys)=some (k,l,m)/\nU l m e s k (xs++ys):=by
 rcases h with⟨rfl,rfl⟩|⟨n,id,hid,rfl,o⟩
 ·simp at g i;by_cases j:ys=[]
  ·subst j;exact⟨.nil,Y,Z,by simp[yW,b,hs,c,d,a,f,AM.view,maxLen],.inl ⟨rfl,rfl⟩⟩
  ·exact⟨.own Z 0 ys.length,_,Z+1,by simp[yW,b,hs,c,d,a,f,g,i,AM.view,j];rfl,.inr ⟨by simpa using j,Z,by omega,by simp,by simp⟩⟩
 ·exact⟨.own Z 0 (xs.length+ys.length),_,Z+1,by simp[yW,b,hs,c,d,a,f,g,i,AM.view,o];rfl,.inr ⟨by simp[n],Z,by omega,by simp,by simp⟩⟩
def pF(a:List za):Option kN:=if a=[]then none else some ⟨9,1,true,zx a⟩
theorem nU.ret{Y:Hp}{Z:Nat}{v:O}{a:List za}(h:nU Y Z 9 1 v (zx a))(c:Nat):Vi (pF a) v Y c:=by
 rcases h with⟨rfl,b⟩|⟨b,id,hid,rfl,d⟩
 ·have:a=[]:=by simpa[zx]using b
  subst this;rfl
 ·have f:a≠[]:=fun e=>b (by rw[e];rfl)
  unfold pF;rw[zd f];exact⟨id,rfl,d,rfl⟩
theorem nL(c:qW)(I:c.cb<=zw):∃x Y Z,jJ (Cnm zw) f80 [.agg c.V] (fun _=>none) 0=some (x,Y,Z)/\Vi (pF c.names) x Y Z:=by
 have B:=Jm c;have C:=xR c.args;have s:=vQ _ c (zk _);have A:zw=268435456:=rfl;have g:∀k,(yw (c.args.take k)).length<=c.cb:=fun k=>by
  have e:yw c.args=yw (c.args.take k)++yw (c.args.drop k):=by rw[<-KB,vU]
  have:=zt List.length e;rw[Qe,qj]at s;rw[qj]at this;omega
 refine J5 rfl ?_;by_cases r:c.kind=5
 ·have p:=fun Y Z=>wa.y8 (P:=prog) (t:=26) (c:=[str c.name]) (wa.nil Y Z 9 1) dq Dh G9 Ha rfl (by omega) (by simp[maxLen]) (by simp)
  have h:(c.kind==5)=true:=by simpa using r
  simp only[Wb]at p;simp[q6,h,zr,zJ,zp,p];refine zF (fun k U Y Z=>U 15=.sl 7 (c.args.map qW.V)/\U 16=int c.args.length/\U 17=int k/\nU Y Z 9 1 (U 3) (zx ([c.name]++yw (c.args.take k)))) c.args.length
   ⟨by simp,by simp,by simp,by simp;exact .inr ⟨by simp[zx],_,by omega,rfl,by simp[zx,yw]⟩⟩ ?_
  rintro k U Y Z D ⟨b,d,f,i⟩;by_cases a:k<c.args.length
  ·have u:=ql k;obtain⟨x,j⟩:=yx (c.args[k]);have l:x∈c.args:=by rw[<-j];exact zj a
   have v:=Z8 l;have w:=vQ _ x (zk _);have y:=fun Y Z=>QX (fun c=>.sl 1 (zx c.names)) zw x Y Z ⟨by omega,by omega⟩
   have E:=g k;have m:=i.more (some ⟨70,7,false,[x.V]⟩);obtain⟨F,G,H,n,o⟩:=m.KP (P:=prog) (t:=26) (ys:=zx x.names) dq Dh G9 Ha rfl (by omega) (by simp[maxLen,qJ];omega) (by simp[qJ];omega);have q:=YQ a;rw[j]at q;simp[b,d,f,a,j,y,n,u,Xc];refine⟨by omega,?_⟩;rw[q];simpa[zx]using o
  ·obtain rfl:k=c.args.length:=by omega
   rw[wJ]at i;have z:=i.ret Z;simp[b,d,f,f80];rw[Qe];simpa[r]using z
 ·have h:=jD r;simp[q6,h];refine zF (fun k U Y Z=>U 15=.sl 7 (c.args.map qW.V)/\U 16=int c.args.length/\U 17=int k/\nU Y Z 9 1 (U 3) (zx (yw (c.args.take k)))) c.args.length
   ⟨by simp,by simp,by simp,by simp;exact .inl ⟨rfl,by simp[zx,yw]⟩⟩ ?_
  rintro k U Y Z D ⟨b,d,f,i⟩;by_cases a:k<c.args.length
  ·have u:=ql k;obtain⟨x,j⟩:=yx (c.args[k]);have l:x∈c.args:=by rw[<-j];exact zj a
   have v:=Z8 l;have w:=vQ _ x (zk _);have y:=fun Y Z=>QX (fun c=>.sl 1 (zx c.names)) zw x Y Z ⟨by omega,by omega⟩
   have E:=g k;have m:=i.more (some ⟨70,7,false,[x.V]⟩);obtain⟨F,G,H,n,o⟩:=m.KP (P:=prog) (t:=26) (ys:=zx x.names) dq Dh G9 Ha rfl (by omega) (by simp[maxLen,qJ];omega) (by simp[qJ];omega);have q:=YQ a;rw[j]at q;simp[b,d,f,a,j,y,n,u,Xc];refine⟨by omega,?_⟩;rw[q];simpa[zx]using o
  ·obtain rfl:k=c.args.length:=by omega
   rw[wJ]at i;have z:=i.ret Z;simp[b,d,f,f80];rw[Qe];simpa[r]using z
noncomputable def FNf:zb->Option (Option kN):=qf (α:=qW) (fun c=>[.agg c.V]) (fun c=>c.cb<=zw) fun c=>pF c.names
theorem BR(c:qW)(Y:Hp)(Z:Nat)(h:c.cb<=zw):yI [] FNf [.agg c.V] Y Z=if c.names=[]then some (.nil,Y,Z)else some (.own Z 0 c.names.length,qR Y Z (some ⟨9,1,true,zx c.names⟩),Z+1):=by
 have e:FNf [.agg c.V]=some (pF c.names):=qM (V:=fun c:qW=>[O.agg c.V]) (a:=c) (fun a b e=>by simp only[zh,zA,O.agg.injEq]at e;exact Zk e) h
 unfold yI;simp only[show zD Y [.agg c.V]=some ([.agg c.V],Y) by simp[q6],show yj [] [O.agg c.V]=[O.agg c.V]from rfl,e];unfold pF;by_cases d:c.names=[]
 ·rw[ze d,ze d]
 ·rw[zd d,zd d];simp[zx]
theorem nM:zf prog 80 (yI [] FNf):=
 Z1 (fn:=f80) (code:=_) (zS mixed ⟨Jb zw,trivial⟩:AM.Good (Cnm zw) _) ⟨func80,by kernel_rfl,rfl,by kernel_rfl⟩ [] _ fun args r h=>by obtain⟨c,rfl,a,rfl⟩:=zN h;exact⟨by simp[f80],nL c a⟩
noncomputable abbrev Li:Ctx:=zR prog [(80,yI [] FNf),(14,zg false [1] (IG fun l v=>wo (decide (v∈l)))),(81,zg false [] (H9 (fun l s=>YN (ym s l)) fun l _=>l.length<=zw)),(19,zg true [1] (PF (fun l=>.sl 1 (zx (Qh l))) fun l=>l.length<=zw))]
theorem SP:Gd Li:=zS mixed ⟨nM,kf,QM,cL,trivial⟩
def Que(Y:Hp)(Z:Nat)(v w:O)(q:List za):Prop:=(w=.nil/\q=[])\/((∃ad,w=.v (.slice (some ad) 0 0))/\q=[])\/∃id off es,id<Z/\w=.own id off q.length/\Y id=some ⟨9,1,true,es⟩/\off+q.length=es.length/\es.drop off=zx q/\∀m,v≠.own id 0 m
theorem Que.len{Y:Hp}{Z:Nat}{v w:O}{q:List za}(h:Que Y Z v w q):JT prog 26 w=some (int q.length):=by
 rcases h with⟨rfl,rfl⟩|⟨⟨ad,rfl⟩,rfl⟩|⟨id,off,es,_,rfl,_⟩
 ·simp
 ·simp
 ·simp
theorem SQ(l:List qA)(a:za)(h:Jg l<=zw):(Bc (ym a l)).cond.cb<=zw:=by
 by_cases b:∃y∈l,y.name=a
 ·obtain⟨j,c,d,_⟩:=dY b;rw[d];have:=YK (zj c);have f:l[j].cb=1+l[j].name.length+Yr l[j].ins+Yr l[j].outs+l[j].cond.cb:=rfl;show l[j].cond.cb<=zw;omega
 ·rw[VI fun y g e=>b ⟨y,g,e⟩];show mO.cond.cb<=zw;have:mO.cond.cb=1:=by simp[mO,Jm,qW.kP,qW.args,qW.attr,qW.pat,qW.name,mM,Ys]
  rw[this];decide
theorem fG{Y:Hp}{Z:Nat}{v:O}{l:List za}(c:wa Y Z 9 1 v (zx l))(d:l.length<=zw):∃f,zg true [1] (PF (fun l=>.sl 1 (zx (Qh l))) fun l=>l.length<=zw) [v] Y Z=some (.sl 1 (zx (Qh l)),f,Z):=by
 have hs:PF (fun l=>.sl 1 (zx (Qh l))) (fun l=>l.length<=zw) [.sl 1 (zx l)]=some (.sl 1 (zx (Qh l))):=qM (V:=fun l:List za=>[O.sl 1 (zx l)]) (a:=l) (fun a b e=>by
  simp only[zh,zA]at e;injection e with _ e
  exact jd e) d
 rcases c with⟨rfl,g⟩|⟨id,hid,rfl,h⟩
 ·have hd:l=[]:=by simpa[zx]using g
  subst hd;exact⟨Y,yP (Y1:=Y) rfl hs (.inr rfl)⟩
 ·refine⟨qR Y id none,?_⟩;have i:zD Y [.own id 0 (zx l).length]=some ([.sl 1 (zx l)],qR Y id none):=by
   simp[h]
   try rw[qL (by simp)]
  unfold zg;rw[i];have j:yj [1] [O.sl 1 (zx l)]=[O.sl 1 (zx l)]:=rfl;simp only[j,hs];simp[O.flat,O.noOwn]
theorem pG{Y:Hp}{Z e s id:Nat}{v:O}{xs:List zb}(h:wa Y Z e s v xs)(a:∀m,v≠.own id 0 m):wa (qR Y id none) Z e s v xs:=by
 rcases h with⟨rfl,rfl⟩|⟨i,hi,rfl,b⟩
 ·exact .inl ⟨rfl,rfl⟩
 ·exact .inr ⟨i,hi,rfl,by rw[zM _ _ _ _ (by rintro rfl;exact a _ rfl)];exact b⟩
theorem gN{Y:Hp}{Z e s id m:Nat}{v:O}{xs:List zb}(h:wa Y Z e s v xs)(a:Z<=id):v≠.own id 0 m:=by
 rcases h with⟨rfl,rfl⟩|⟨i,hi,rfl,b⟩
 ·simp
 ·intro e;injection e with e;omega
theorem F8{q c:List za}{es b:List zb}{off a:Nat}(d:off+q.length=es.length)(hd:es.drop off=zx q)(h:b=es++zx c/\a=off\/b=es.drop off++zx c/\a=0):a+(q++c).length=b.length/\b.drop a=zx (q++c):=by
 rcases h with⟨rfl,rfl⟩|⟨rfl,rfl⟩
 ·exact⟨by simp[qJ];omega,by rw[List.drop_append_of_le_length (by omega),hd];simp[zx]⟩
 ·rw[hd];exact⟨by simp[qJ],by simp[zx]⟩
def RchI(l:List qA)(a:List za)(n:Nat)(st:St):Prop:=st.U 0=.sl 10 (l.map qA.V)/\∃out q,wa st.Y st.Z 9 1 (st.U 5) (zx out)/\Que st.Y st.Z (st.U 5) (st.U 6) q/\CB (vy l) a out q/\q.length+qm out l=n/\out.length+n<=zw
noncomputable def FRch:zb->Option O:=qf (α:=List qA×qW) (fun a=>[.sl 10 (a.1.map qA.V),.agg a.2.V]) (fun a=>Jg a.1+a.2.cb<=zw) fun a=>.sl 1 (zx (a8 a.1 a.2.names))
theorem IL(l:List qA)(c:qW)(Y:Hp)(Z:Nat)(h:Jg l+c.cb<=zw):zg false [] FRch [.sl 10 (l.map qA.V),.agg c.V] Y Z=some (.sl 1 (zx (a8 l c.names)),Y,Z):=
 XX (l,c) _ _ (by simp[q6]) (fun a b e=>by obtain⟨d,f⟩:=a;obtain⟨g,i⟩:=b;simp only[zh,zA,O.agg.injEq]at e;rw[vO e.1,Zk e.2]) h (.inr (by simp[q6,O.noOwn]))
theorem BS{es:List zb}{off:Nat}{a:za}{q:List za}(h:es.drop off=zx (a::q)):es[off]?=some [str a]/\es.drop (off+1)=zx q:=by
 have b:(es.drop off)[0]?=some [str a]:=by rw[h];rfl
 rw[qK,Qk]at b;refine⟨b,?_⟩;rw[<-List.drop_drop,h];rfl
theorem EE(l:List qA)(c:qW)(hlc:Jg l+c.cb<=zw){code:Code}(hb:f48.body=some code):Wp True Li f48.ntmps code ⟨kE [.sl 10 (l.map qA.V),.agg c.V],fun _=>none,0⟩ (J2 Li.P f48 (Jl (.sl 1 (zx (a8 l c.names))))):=by
 have nT:zw=268435456:=rfl;have i:=SP;have hll:=Kq l;have hcn:=vQ _ c (zk _);have N:=Oo [] l;have k0:=fun Y Z=>BR c Y Z (by omega)
 injection hb with hb;subst hb;refine Wp.seq (Wp.of i (by kernel_rfl) ?_);simp[q6];refine Wp.seq (Wp.of i (by kernel_rfl) ?_);simp;refine Wp.cut i (fun U Y Z=>RchI l c.names (c.names.length+qm [] l) ⟨U,Y,Z⟩) (by kernel_rfl) ?_ ?_
 ·simp only[q6]at k0;by_cases hn0:c.names=[]
  ·simp[k0,hn0];exact⟨by simp,[],[],by simp;exact .inl ⟨rfl,rfl⟩,.inl ⟨by simp,rfl⟩,.begin _ _,by simp,by simp;omega⟩
  ·simp[k0,hn0];exact⟨by simp,[],c.names,by simp;exact .inl ⟨rfl,rfl⟩,.inr (.inr ⟨1,0,zx c.names,by simp,by simp,by simp,by simp[zx],by simp,by simp⟩),.begin _ _,by simp,by simp;omega⟩
 rintro U Y Z hI;refine Wp.seq (Wp.block (Wp.loop (RchI l c.names) _ hI ?_));clear hI U Y Z;rintro n ⟨U,Y,Z⟩ ⟨h0,out,q,B,hQ,hB,hn,hbd⟩;simp only at h0 B hQ;cases q with
 |nil=>have hlen:=hQ.len;refine Wp.seq (Wp.of i (by kernel_rfl) ?_);simp[hlen];obtain⟨f,e1⟩:=fG B (by omega);have hv:Qh out=a8 l c.names:=tk hB;refine Wp.of i (by kernel_rfl) ?_;simp[e1,hv,Jl,f48];exact qc _
 |cons a q=>
  obtain⟨id,off,es,hid,h6,C,D,pT,o⟩:=(hQ.resolve_left (by rintro⟨_,e⟩;cases e)).resolve_left (by rintro⟨_,e⟩;cases e);obtain⟨hga,E⟩:=BS pT;simp only[zP]at hn D h6;refine Wp.cut i (fun b f k=>b 0=U 0/\b 5=U 5/\b 6=U 6/\f=Y/\k=Z) (by kernel_rfl) (by simp[h6]) ?_;rintro d Y Z ⟨x,e5,z,rfl,rfl⟩;rw[h0]at x;rw[<-e5]at B o;rw[h6]at z;clear h0 h6 e5 hQ U;refine Wp.block ?_;refine Wp.cut i (fun b f k=>b 0=d 0/\b 5=d 5/\b 6=d 6/\b 7=str a/\f=Y/\k=Z) (by kernel_rfl) (by simp[z,C,hga,D]) ?_;rintro U Y Z ⟨A,Q,I,R,rfl,rfl⟩;rw[x]at A;rw[<-Q]at B o;rw[z]at I;clear x z Q d;refine Wp.seq (Wp.region ?_);show Qo True Li _ _ (List.range' 0 1++(1::(List.range' 2 1++[]))) _ _;refine Qo.gA i 0 1 (by decide) (by decide) ?_;simp[I];refine Qo.slice (n:=1) (e:=9) rfl (by decide) rfl un26 Dh C rfl (by omega) ?_;rintro r hr;refine Qo.gA i 2 1 (by decide) (by decide) ?_;simp;refine Qo.nil ?_;simp only[bz,cO];rw[Nat.add_sub_cancel]at hr;refine Wp.any (fun b f k=>b 0=U 0/\b 5=U 5/\b 6=r/\b 7=U 7/\f=Y/\k=Z) (by simp) ?_;rintro d Y Z ⟨x,e5,z,K,rfl,rfl⟩;rw[A]at x;rw[<-e5]at B o;rw[R]at K;clear A I R e5 U;have p:off+1+q.length=es.length:=by omega
  generalize off+1=L at hr E p;clear D pT hga off;have N:r=.own id L q.length\/q=[]/\∃ad,r=.v (.slice (some ad) 0 0):=hr.imp (fun h=>h) fun⟨h1,h2⟩=>⟨xr (by omega),h2⟩
  clear hr;have F:=F1 (fun l v=>wo (decide (v∈l))) (v:=a) B (by omega) rfl;by_cases ha:a∈out
  ·rw[show decide (a∈out)=true from by simpa using ha]at F;refine Wp.seq (Wp.of i (by kernel_rfl) ?_);simp[K,F];refine⟨_,by omega,by simp[x],out,q,by simpa using B,?_,hB.skip ha,rfl,by omega⟩;rcases N with rfl|⟨rfl,ad,rfl⟩
   ·exact .inr (.inr ⟨id,L,es,by simpa using hid,by simp[z],by simpa using C,by omega,E,by simpa using o⟩)
   ·exact .inr (.inl ⟨⟨ad,by simp[z]⟩,rfl⟩)
  ·rw[show decide (a∈out)=false from by simpa using ha]at F;refine Wp.cut i (fun b f k=>b 0=d 0/\b 5=d 5/\b 6=d 6/\b 7=d 7/\f=Y/\k=Z) (by kernel_rfl) (by simp[K,F]) ?_;rintro U Y Z ⟨A,Q,I,R,rfl,rfl⟩;rw[x]at A;rw[<-Q]at B o;rw[z]at I;rw[K]at R;clear x z K Q F d;have nS:=B.y8 (P:=prog) (t:=26) (c:=[str a]) dq Dh G9 Ha rfl (by omega) (by simp[qJ,maxLen];omega) (by simp[qJ];omega);have hk:=yO B (qR Y Z (some ⟨9,1,true,[[str a]]⟩)) id o;have w:¬id=Z:=by omega
   have u:¬id=Z+1:=by omega
   have haf:=wa.after (Y:=Y) (Z:=Z) (e:=9) (s:=1) (v:=U 5) (xs:=zx out) (c:=[str a]) (tmp:=some ⟨9,1,true,[[str a]]⟩);have haa:zx out++[[str a]]=zx (out++[a]):=by simp[zx]
   refine Wp.cut i (fun b f k=>b 0=U 0/\b 6=U 6/\b 7=U 7/\Z<=k/\wa f k 9 1 (b 5) (zx (out++[a]))/\f id=some ⟨9,1,true,es⟩/\∀m,b 5≠.own id 0 m) (by kernel_rfl) (by simp[R,zr,zJ,zp,nS,u,hk,w,C];rw[<-haa];exact⟨by simpa[qJ]using haf,fun e=>u e.symm⟩) ?_
   clear nS hk w u haf;rintro d Y1 g ⟨x,z,K,hn1,hO1,hes1,M⟩;have hid1:id<g:=by omega
   rw[A]at x;rw[I]at z;rw[R]at K;clear C hn1 B o hid A I R U Y Z;have hsg:=fun Y Z=>ea (fun l s=>YN (ym s l)) (fun l _=>l.length<=zw) l a Y Z (by omega)
   obtain⟨s,hs⟩:=yx (Bc (ym a l));have hsc:s.cond.cb<=zw:=by rw[<-hs];exact SQ l a (by omega)
   have hnx:s.cond.names=vy l a:=by rw[<-hs];exact SO l a
   have pS:YN (ym a l)=.wP [.agg s.V,wo (ym a l).isSome]:=by rw[<-hs];rfl
   simp only[pS]at hsg;have w:¬id=g:=by omega
   refine Wp.cut i (fun b f k=>b 0=d 0/\b 5=d 5/\b 6=d 6/\b 8=.ref g 0 0/\f=qR Y1 g (some ⟨72,10,false,[s.V]⟩)/\k=g+1) (by kernel_rfl) (by simp[x,K,hsg,w8]) ?_
   rintro U Y Z ⟨A,Q,I,f8,rfl,rfl⟩;rw[x]at A;rw[z]at I;rw[<-Q]at hO1 M;have S:id<g+1:=by omega
   have hO2:=hO1.more (some ⟨72,10,false,[s.V]⟩);have hes2:qR Y1 g (some (⟨72,10,false,[s.V]⟩:kN)) id=some ⟨9,1,true,es⟩:=by rw[zM _ _ _ _ w];exact hes1
   have J:=hB.take ha;have hpu:=gM ha l;rw[<-hnx]at J hpu;have T:out.length+1+((q++s.cond.names).length+qm (out++[a]) l)<=zw:=by simp;omega
   have hm:(q++s.cond.names).length+qm (out++[a]) l<n:=by simp;omega
   have hcl:∀Y Z,∃y f k,yI [] FNf [.agg s.cond.V] Y Z=some (y,f,k)/\AM.view f 1 y=some (zx s.cond.names)/\Z<=k/\(∀j,j<Z->f j=Y j)/\(∀e s v xs,wa Y Z e s v xs->wa f k e s v xs):=fun Y Z=>by
    have h1:=BR s.cond Y Z hsc;by_cases G:s.cond.names=[]
    ·rw[ze G]at h1;exact⟨_,_,_,h1,by simp[AM.view,G,zx],zk _,fun _ _=>rfl,fun _ _ _ _ h=>h⟩
    ·rw[zd G]at h1;exact⟨_,_,_,h1,by simp[AM.view,qJ],by omega,fun j hj=>zM _ _ _ _ (by omega),fun _ _ _ _ h=>h.more _⟩
   obtain⟨y,Y2,CJ,hc1,hc2,hc3,hc4,hc5⟩:=hcl (qR Y1 g (some ⟨72,10,false,[s.V]⟩)) (g+1);have H:=hc5 _ _ _ _ hO2;have hes3:Y2 id=some ⟨9,1,true,es⟩:=by rw[hc4 id S];exact hes2
   have hid3:id<CJ:=by omega
   simp only[q6,w8]at hc1;refine Wp.region ?_;show Qo True Li _ _ (List.range' 0 4++(4::(List.range' 5 1++[]))) _ _;refine Qo.gA i 0 4 (by decide) (by decide) ?_;simp[I,f8,w8,q6,hc1];have Ti:=vQ _ s.cond (zk _);have W:q.length+(zx s.cond.names).length<=maxLen:=by simp[qJ,maxLen];omega
   have X:(q.length+(zx s.cond.names).length)*16<=140737488355328:=by simp[qJ];omega
   rcases N with rfl|⟨rfl,ad,rfl⟩
   ·refine Qo.append (e:=9) (n:=1) (by_:=16) (ys:=zx s.cond.names) (v:=y) rfl (by decide) (by simp) (by simp) hc2 dq Dh G9 Ha (by omega) rfl hes3 rfl rfl p W X ?_;intro es' off' hew;obtain⟨hl',hd'⟩:=F8 p E hew;refine Qo.gA (l2:=[]) i 5 1 (by decide) (by decide) ?_;simp;refine Qo.nil ?_;refine⟨_,hm,by simp[A],out++[a],q++s.cond.names,?_,.inr (.inr ⟨CJ,off',es',by simp,by simp[qJ],by simp,hl',hd',?_⟩),J,rfl,by simp;simp at T;omega⟩
    ·simpa using(pG H M).more _
    ·intro m;simpa using gN H (zk _)
   ·simp only[kv,yi]at W X;refine Qo.Gv (ad:=ad) (e:=9) (n:=1) (by_:=16) (ys:=zx s.cond.names) (v:=y) rfl (by decide) (by simp) (by simp) hc2 dq Dh G9 Ha (by omega) rfl W X ?_;rintro r f k (⟨hy0,rfl,rfl,rfl⟩|⟨rfl,rfl,rfl⟩)
    ·have G:s.cond.names=[]:=by simpa[zx]using hy0
     refine Qo.gA (l2:=[]) i 5 1 (by decide) (by decide) ?_;simp;refine Qo.nil ?_;refine⟨_,hm,by simp[A],out++[a],[]++s.cond.names,by simpa using H,.inr (.inl ⟨⟨ad,by simp⟩,by simp[G]⟩),J,rfl,by simp;simp at T;omega⟩
    ·refine Qo.gA (l2:=[]) i 5 1 (by decide) (by decide) ?_;simp;refine Qo.nil ?_;refine⟨_,hm,by simp[A],out++[a],[]++s.cond.names,?_,.inr (.inr ⟨CJ,0,zx s.cond.names,by simp,by simp[qJ],by simp,by simp[qJ],by simp,?_⟩),J,rfl,by simp;simp at T;omega⟩
     ·simpa using H.more _
     ·intro m;simpa using gN H (zk _)
theorem nN:zf prog 48 (zg false [] FRch):=
 tt (C:=Li) (pf:=fun g=>([]:List Nat).contains g) (fn:=f48) (code:=_) ⟨func48,by kernel_rfl,rfl,by kernel_rfl⟩ false [] _ fun args r h=>by obtain⟨⟨l,c⟩,rfl,a,rfl⟩:=zN h;exact⟨by simp[f48],EE l c a rfl⟩
theorem tw(l:List qA)(start:List za):∀(n:Nat) (out b:List za),CB (vy l) start out b->b.length+qm out l<=n->∃c,CB (vy l) start c []/\c.length<=out.length+n
 |_,out,[],h,_=>⟨out,h,by omega⟩
 | 0,_,_::_,_,h=>by simp at h
 |n+1,out,a::q,h,g=>by
  simp only[zP]at g;by_cases d:a∈out
  ·obtain⟨o,e,f⟩:=tw l start n out q (h.skip d) (by omega);exact⟨o,e,by omega⟩
  ·have:=gM d l;obtain⟨o,e,f⟩:=tw l start n _ _ (h.take d) (by rw[qj];omega);exact⟨o,e,by simp at f;omega⟩
theorem SR(l:List qA)(c:qW)(h:Jg l+c.cb<=zw):(a8 l c.names).length<=zw:=by
 have d:=Oo [] l;have e:=vQ _ c (zk _);obtain⟨o,a,b⟩:=tw l c.names _ [] c.names (.begin _ _) (zk _);have Y:=pR o fun x y=>decide (x<=y)
 rw[<-tk a,Q4 (Y.nodup_iff.2 a.nodup),Y.length_eq];simp at b;omega
noncomputable def Wy:za->List qA->Int
 |_,[]=>0
 |q,s::l=>if Wl s q=0 then Wy s.name l else Wl s q
noncomputable def QP (l:List qA):Int:=if(100:Int)<l.length then 2 else if Wy [] l=0 then(if(l.all fun s=>CI l s.cond.names)=true then(if(l.any fun s=>decide (s.name∈a8 l s.cond.names))=true then 12 else 0)else 9)else Wy [] l
theorem BT{l:List qA}{k:Nat}(h:k<l.length)(q:za):Wy q (l.drop k)=if Wl l[k] q=0 then Wy l[k].name (l.drop (k+1))else Wl l[k] q:=by rw[zc h];rfl
theorem BU:∀(l:List qA) (p:Option za) (q:za),(p=none/\q=[]\/p=some q)->Wy q l=WD p l
 |[],p,q,_=>rfl
 |s::l,p,q,h=>by
  have j:=BU l (some s.name) s.name (.inr rfl);have k:Wy q (s::l)=if Wl s q=0 then Wy s.name l else Wl s q:=rfl
  rw[k];by_cases d:qG s.name=true
  case neg=>
   have f:Wl s q=5:=by unfold Wl;rw[zd d]
   simp only[WD,zd d];rw[f,zd (by decide)]
  case pos=>
   have m:Vs s.name q=js p s.name:=by
    rcases h with⟨rfl,rfl⟩|rfl
    ·simp only[js];have i:s.name≠[]:=by rintro e;rw[e]at d;exact absurd d (by decide)
     cases n:s.name with
     |nil=>exact absurd n i
     |cons a b=>simp[Vs,Op.bytesLess]
    ·rfl
   have f:Wl s q=if js p s.name=true then 8 else Zf s:=by unfold Wl;rw[ze d,m]
   simp only[WD,ze d];by_cases c:js p s.name=true
   case pos=>rw[ze c]at f;rw[f,zd (by decide),ze c]
   case neg=>
    rw[zd c]at f;rw[f,zd c];by_cases g:Zf s=0
    ·rw[ze g,ze g];exact j
    ·rw[zd g,zd g]
theorem IM(l:List qA):QP l=kl l:=by
 unfold QP kl;rw[BU l none [] (.inl ⟨rfl,rfl⟩)];by_cases h:(100:Int)<l.length
 ·rw[ze h,ze h]
 rw[zd h,zd h];by_cases c:WD none l=0
 case neg=>rw[zd c,zd c]
 rw[ze c,ze c];have j:=(lS l none c).1.1;have p:∀n,(ym n l).isSome=j7 l n:=fun n=>by
  rcases cx j n with⟨a,r,b,_⟩|⟨a,b⟩
  ·rw[a,b];rfl
  ·rw[a,b];rfl
 have d:(l.all fun s=>CI l s.cond.names)=l.all fun s=>ke l s.cond:=by congr 1;funext s;unfold CI ke;congr 1;funext n;exact p n
 rw[d];by_cases f:(l.all fun s=>ke l s.cond)=true
 case neg=>rw[zd f,zd f]
 rw[ze f,ze f];have g:∀s∈l,∀n∈s.cond.names,j7 l n=true:=fun s hs n q=>zY.1 (zY.1 f s hs) n q
 have k:=H8 j g;have m:=AL (l:=l) (by omega) g;have o:(l.any fun s=>decide (s.name∈a8 l s.cond.names))=true↔∃s∈l,Yu (vy l) s.cond.names s.name:=by simp only[List.any_eq_true,qz];exact⟨fun⟨s,a,b⟩=>⟨s,a,(F5 _ _ _).1 b⟩,fun⟨s,a,b⟩=>⟨s,a,(F5 _ _ _).2 b⟩⟩
 by_cases i:lT l=true
 ·rw[ze i,ze (o.2 (k.2 (m.1 i)))]
 ·rw[zd i,zd fun e=>i (m.2 (k.1 (o.1 e)))]
theorem SS(out:List qA->List qW->O)(l:List qA)(c:qW)(Y:Hp)(Z:Nat)(a:l.length<=zw)(b:c.cb<=zw)(d:(out l [c]).flat=true):zg false [] (FSC out) [.sl 10 (l.map qA.V),.own Z 0 1] (qR Y Z (some ⟨70,7,true,[c.V]⟩)) (Z+1)=some (out l [c],qR Y Z (some ⟨70,7,true,[c.V]⟩),Z+1):=
 yP (Y1:=qR (qR Y Z (some ⟨70,7,true,[c.V]⟩)) Z none) (show zD (qR Y Z (some ⟨70,7,true,[c.V]⟩)) [.sl 10 (l.map qA.V),.own Z 0 1]=some ([.sl 10 (l.map qA.V),.sl 7 ([c].map qW.V)],_) by simp) (za1 out l [c] ⟨a,by simpa[mM]using b⟩) (.inl d)
noncomputable abbrev Crcs:Ctx:=zR prog [(46,zg false [] (FSgB fun s q=>int (Wl s q))),(47,zg false [] (FSC fun l cs=>int (Ez l cs))),(48,zg false [] FRch),(14,zg false [1] (IG fun l v=>wo (decide (v∈l))))]
theorem SU:AM.Good Crcs (fun g=>[48,14].contains g):=qq mixed ⟨XM,by simp,cJ,by simp,nN,fun _=>zu _ _,kf,fun _=>zu _ _,trivial⟩
theorem IP:J6 Crcs (fun g=>[48,14].contains g) 28 f28:=qN func28
theorem XN(l:List qA)(h:2*Jg l<=zw):zo Crcs f28 [.sl 10 (l.map qA.V)]=some (int (QP l)):=by
 have G:=Kq l;have H:zw=268435456:=rfl;refine zm rfl ?_;by_cases i:(100:Int)<l.length
 ·have e:QP l=2:=by unfold QP;rw[ze i]
  simp[i,e,f28]
 refine ju (fun U Y Z=>U 0=.sl 10 (l.map qA.V)) (by simp) ?_;rintro U Y Z a;refine ju (fun U Y Z=>U 0=.sl 10 (l.map qA.V)) (by simp[a,i]) ?_;clear a U Y Z;rintro U Y Z a;refine ju (fun U Y Z=>U 0=.sl 10 (l.map qA.V)/\U 3=str []) (by simp[a]) ?_;clear a U Y Z;rintro U Y Z ⟨a,z⟩;refine ju (fun U Y Z=>U 0=.sl 10 (l.map qA.V)/\Wy [] l=0) ?_ ?_
 ·simp[a];refine zF (fun k U Y Z=>U 0=.sl 10 (l.map qA.V)/\U 15=.sl 10 (l.map qA.V)/\U 16=int l.length/\U 17=int k/\∃q,U 3=str q/\Wy [] l=Wy q (l.drop k)) l.length ⟨by simp[a],by simp,by simp,by simp,[],by simp[z],by simp⟩ ?_;clear a z U Y Z;rintro k U Y Z I ⟨a,j,m,n,q,z,c⟩;by_cases b:k<l.length
  ·have A:=ql k;obtain⟨s,hs⟩:=yx (l[k]);have B:=YK (zj b);rw[hs]at B;have o:=fun Y Z=>II (fun s q=>int (Wl s q)) s q Y Z (by omega) rfl
   simp only[w8,q6]at o;rw[BT b,hs]at c;by_cases C:Wl s q=0
   ·rw[ze C]at c;simp[a,z,j,m,n,b,hs,o,C,A,w8,q6];exact⟨by omega,c⟩
   ·rw[zd C]at c;have D:=xN C;have e:QP l=Wl s q:=by unfold QP;rw[zd i,c,zd C]
    simp[a,z,j,m,n,b,hs,o,D,e,w8,q6,f28]
  ·obtain rfl:k=l.length:=by omega
   rw[zn]at c;have c:Wy [] l=0:=by rw[c];rfl
   simp[a,j,m,n,c]
 clear a z U Y Z;rintro U Y Z ⟨a,E⟩;refine ju (fun U Y Z=>U 0=.sl 10 (l.map qA.V)/\(l.all fun s=>CI l s.cond.names)=true) ?_ ?_
 ·simp[a];refine zF (fun k U Y Z=>U 0=.sl 10 (l.map qA.V)/\U 30=.sl 10 (l.map qA.V)/\U 31=int l.length/\U 32=int k/\(l.all fun s=>CI l s.cond.names)=(l.drop k).all fun s=>CI l s.cond.names) l.length ⟨by simp[a],by simp,by simp,by simp,by simp⟩ ?_;clear a U Y Z;rintro k U Y Z I ⟨a,p,r,t,c⟩;by_cases b:k<l.length
  ·have A:=ql k;obtain⟨s,hs⟩:=yx (l[k]);have B:=YK (zj b);rw[hs]at B;have F:s.cb=1+s.name.length+Yr s.ins+Yr s.outs+s.cond.cb:=rfl;have J:Ez l [s.cond]=if CI l s.cond.names=true then 0 else 9:=by simp[Ez]
   rw[zc b,hs,wO]at c;have d:=fun Y Z=>SS (fun l cs=>int (Ez l cs)) l s.cond Y Z (by omega) (by omega) rfl
   cases f:CI l s.cond.names
   ·rw[f,JP]at c;have e:QP l=9:=by unfold QP;rw[zd i,ze E,c,zd (by simp)]
    rw[J,f]at d;simp only[q6]at d;simp[a,p,r,t,b,hs,zr,zJ,zp,d,e,w8,q6,f28]
   ·rw[f,kX]at c;rw[J,f]at d;simp only[q6]at d;simp[a,p,r,t,b,hs,zr,zJ,zp,d,A,w8,q6];exact⟨by omega,c⟩
  ·obtain rfl:k=l.length:=by omega
   rw[zn]at c;simp only[tP]at c;simp[a,p,r,t];exact zY.1 c
 clear a U Y Z;rintro U Y Z ⟨a,K⟩;simp[a];refine zF (fun k U Y Z=>U 0=.sl 10 (l.map qA.V)/\U 45=.sl 10 (l.map qA.V)/\U 46=int l.length/\U 47=int k/\(l.any fun s=>decide (s.name∈a8 l s.cond.names))=(l.drop k).any fun s=>decide (s.name∈a8 l s.cond.names)) l.length ⟨by simp[a],by simp,by simp,by simp,by simp⟩ ?_;clear a U Y Z;rintro k U Y Z I ⟨a,u,w,x,c⟩;by_cases b:k<l.length
 ·have A:=ql k;obtain⟨s,hs⟩:=yx (l[k]);have B:=YK (zj b);rw[hs]at B;have F:s.cb=1+s.name.length+Yr s.ins+Yr s.outs+s.cond.cb:=rfl;have y:=fun Y Z=>IL l s.cond Y Z (by omega)
  have g:=fun Y Z=>JM (fun l v=>wo (decide (v∈l))) (a8 l s.cond.names) s.name Y Z (SR l s.cond (by omega))
  simp only[q6]at y;rw[BJ b,hs]at c;cases f:decide (s.name∈a8 l s.cond.names)
  ·rw[f,km]at c;rw[f]at g;simp[a,u,w,x,b,hs,y,g,A,w8,q6];exact⟨by omega,c⟩
  ·rw[f,KI]at c;rw[f]at g;have e:QP l=12:=by unfold QP;rw[zd i,ze E,ze K,ze c]
   simp[a,u,w,x,b,hs,y,g,e,w8,q6,f28]
 ·obtain rfl:k=l.length:=by omega
  rw[zn]at c;have e:QP l=0:=by unfold QP;rw[zd i,ze E,ze K,c,zd (by simp)]
  simp[a,u,w,x,e,f28]
theorem VW:zf prog 28 (zg false [] (qf (α:=List qA) (fun l=>[.sl 10 (l.map qA.V)]) (fun l=>2*Jg l<=zw) fun l=>int (kl l))):=
 yt (fn:=f28) SU IP false [] _ fun args r h=>by obtain⟨l,rfl,a,rfl⟩:=zN h;exact⟨zG (zk 1) (by decide),_,XN l a,by rw[IM];exact qc _⟩
end Go.Q
namespace Go.AM
variable{dr:Prop}
variable{dr:Prop}
structure Hid (n1 i m:Nat) (g:List (List O)×Option (List O)) (w:World) (S:Nat->Prop) (G:Nat->GI) (Y:Hp) (Z:Nat):Prop where
 li:i<Z
 lm:m<Z
 s1:(G i).s=1
 new:n1<=(G i).g
 ai:K5 S G Y (G i).g
 am:K5 S G Y (G m).g
 obj:∃(en:Array MapEntry) (clock:Nat) (seen:Array Nat),w.heap[(G m).g]?=some (.map en clock)/\Stamped en clock/\w.heap[(G i).g]?=some (.mapIter (some (G m).g) clock seen clock) /\
  g.1.length=(leftOf en seen).toList.length/\(∀(j:Nat) (c:List O) (e:MapEntry),g.1[j]?=some c->(leftOf en seen).toList[j]?=some e->c9 w S c e) /\
  ∀c,g.2=some c->∃e zeq,e∈en.toList/\seen=Array.push zeq e.born/\c9 w S c e
abbrev GS:=List zb×Option zb
section
variable{C:Ctx}{pf:FuncId->Bool}{N i m:Nat}
def WpG(dr:Prop)(C:Ctx)(N i m:Nat)(c:Code)(st:St)(g:GS)(K:Exit->St->GS->Prop):Prop:=
 ∀(d:World) (h L:Nat->Prop) (Z0:Nat) (j:Nat->GI) (f:Nat) (a:Act) (w:World) (Q:Exit->Act->World->Prop) (S:Nat->Prop) (G:Nat->GI),f<=d.heap.size->Qm dr C.P d h L N Z0 j f st S G a w->Hid d.heap.size i m g w S G st.Y st.Z ->
  (∀e b k l w' n o,K e b k->Qm dr C.P d h L N Z0 j f b n o l w'->Hid d.heap.size i m k w' n o b.Y b.Z->Q e l w')->c.wpIn Fence.wide 0 C.P Q a w
def OA(dr:Prop)(C:Ctx)(N i m:Nat)(y:Code)(K:Exit->St->GS->Prop)(e:Exit)(st:St)(g:GS):Prop:=match e with
 | .normal=>WpG dr C N i m y st g K
 |e=>K e st g
@[simp]theorem zfi(y:Code)(K:Exit->St->GS->Prop)(st:St)(g:GS):OA dr C N i m y K .normal st g=WpG dr C N i m y st g K:=rfl
@[simp]theorem zfj(y:Code)(K:Exit->St->GS->Prop)(st:St)(g:GS):OA dr C N i m y K .ret st g=K .ret st g:=rfl
@[simp]theorem zfk(y:Code)(K:Exit->St->GS->Prop)(j:Nat)(st:St)(g:GS):OA dr C N i m y K (.exit j) st g=K (.exit j) st g:=rfl
def EF(id:Nat)(K:Exit->St->GS->Prop)(e:Exit)(st:St)(g:GS):Prop:=match e with
 | .exit j=>if j=id then K .normal st g else K (.exit j) st g
 |e=>K e st g
@[simp]theorem zdU(id:Nat)(K:Exit->St->GS->Prop)(st:St)(g:GS):EF id K .normal st g=K .normal st g:=rfl
@[simp]theorem zdV(id:Nat)(K:Exit->St->GS->Prop)(st:St)(g:GS):EF id K .ret st g=K .ret st g:=rfl
@[simp]theorem zdW(id j:Nat)(K:Exit->St->GS->Prop)(st:St)(g:GS):EF id K (.exit j) st g=if j=id then K .normal st g else K (.exit j) st g:=rfl
def EG(I:Nat->St->GS->Prop)(n:Nat)(K:Exit->St->GS->Prop)(e:Exit)(st:St)(g:GS):Prop:=match e with
 | .normal=>∃k,k<n/\I k st g
 |e=>K e st g
@[simp]theorem zdX(I:Nat->St->GS->Prop)(n:Nat)(K:Exit->St->GS->Prop)(st:St)(g:GS):EG I n K .normal st g=∃k,k<n/\I k st g:=rfl
@[simp]theorem zdY(I:Nat->St->GS->Prop)(n:Nat)(K:Exit->St->GS->Prop)(st:St)(g:GS):EG I n K .ret st g=K .ret st g:=rfl
@[simp]theorem zdZ(I:Nat->St->GS->Prop)(n j:Nat)(K:Exit->St->GS->Prop)(st:St)(g:GS):EG I n K (.exit j) st g=K (.exit j) st g:=rfl
def KC(a:Array Oper):Nat->Array Bool->List (List Nat)
 | 0,_=>[[]]
 |f+1,b=>if(Region.ready .any a b).isEmpty=true then[[]]else(Region.ready .any a b).flatMap fun i=>(KC a f (b.setIfInBounds i true)).map (i::·)
theorem pH(ops:Array Oper):∀(f t:Nat) (ls:Array Bool),Region.linearise.go .any ops f t ls []∈KC ops f ls
 | 0,t,ls=>by simp[Region.linearise.go,KC]
 |f+1,t,ls=>by
  simp only[Region.linearise.go];change (match(Region.ready .any ops ls)[t % (Region.ready .any ops ls).length]? with
   |some i=>Region.linearise.go .any ops f (t/(Region.ready .any ops ls).length) (ls.setIfInBounds i true) [i]
   |none=>[].reverse)∈KC ops (f+1) ls
  unfold KC;cases hi:(Region.ready .any ops ls)[t % (Region.ready .any ops ls).length]? with
  |none=>
   have hnil:Region.ready .any ops ls=[]:=by
    cases hr:Region.ready .any ops ls with
    |nil=>rfl
    |cons x xs=>rw[hr]at hi;have hlt:t % (x::xs).length<(x::xs).length:=zgh _ (by simp);simp at hi;simp at hlt;omega
   rw[hnil];simp
  |some i=>
   have hm:=zL hi;rw[zd (by intro he;rw[List.isEmpty_iff]at he;rw[he]at hm;cases hm)]
   simp only[];rw[linearise_go_acc,List.reverse_singleton,List.singleton_append];exact List.mem_flatMap.2 ⟨i,hm,qw.2 ⟨_,pH ops f _ _,rfl⟩⟩
theorem Wp.Lj(hm:C.P.follows .mixedOrders=true){id:Nat}{ops:Array Oper}{st:St}{K:Exit->St->Prop}(h:∀l∈KC ops ops.size (Array.replicate ops.size false),Qo dr C N ops l st (KU K)):Wp dr C N (.region id ops true) st K:=
 fun w0 S0 L Z0 G0 n0 a w Q _ hs hQ=>wpIn_region_draw fun t=>by rw[hm];exact h _ (by simp only[Region.schedule,KI,qB,Region.linearise];exact pH ops _ _ _) w0 S0 L Z0 G0 n0 a _ Q hs.drew fun st' a' w' hk hs'=>hQ .normal st' a' w' hk hs'
theorem Qo.ord(c:xJ dr C pf){a:Array Oper}(l:List Nat){st:St}{K:St->Prop}(e:l.map (fun i=>a[i]?)=(l.filterMap fun i=>a[i]?).map some)(hd:a.toList.all (fun o=>match o.dst with|some d=>decide (d<N)|none=>true)=true)(h:rk C a (l.filterMap fun i=>a[i]?) st K):Qo dr C N a l st K:=by
 rw[<-jL l];refine Qo.pre c e (zY.2 fun o f=>zY.1 hd o ?_) ?_
 ·obtain⟨i,_,hi⟩:=List.mem_filterMap.1 f;exact Array.mem_toList_iff.2 (fL hi)
 ·obtain⟨b,g,j⟩:=h;exact⟨b,g,Qo.nil j⟩
end
end Go.AM
namespace Go.Q
structure UsR (m b:Nat) (K:List (List UInt8)) (Y:Hp):Prop where
 set:Y m=some (lZ K)
 box:Y b=some ⟨107,1,false,[[.mp m]]⟩
theorem IQ{Y:Hp}{Z:Nat}{v:O}{K:List za}(i:wa Y Z 9 1 v (zx K))(s:za)(m:K.length<1000000000000):∃Y2,yW prog (qR Y Z (some ⟨9,1,true,[[str s]]⟩)) (Z+1) 26 26 v (.own Z 0 1)=some (.own (Z+1) 0 (K.length+1),Y2,Z+2)/\wa Y2 (Z+2) 9 1 (.own (Z+1) 0 (K.length+1)) (zx (K++[s]))/\∀j b,j<Z->Y j=some b->b.arr=false->Y2 j=some b:=by
 have d:=i.y8 (P:=prog) (t:=26) (c:=[str s]) dq Dh G9 Ha rfl (by omega) (by simp[qJ,maxLen];omega) (by simp[qJ];omega);have f:=wa.after (Y:=Y) (Z:=Z) (e:=9) (s:=1) (v:=v) (xs:=zx K) (c:=[str s]) (tmp:=some ⟨9,1,true,[[str s]]⟩);have g:zx K++[[str s]]=zx (K++[s]):=by simp[zx]
 rw[qJ]at d;refine⟨_,d,?_,fun j b n a k=>?_⟩
 ·rw[<-g];simpa[qJ]using f
 ·rw[zM _ _ _ _ (by omega)];rcases i with⟨rfl,_⟩|⟨id,hid,rfl,l⟩
  ·simp only[Wb];rw[zM _ _ _ _ (by omega)];exact a
  ·have h:j≠id:=by rintro rfl;rw[l]at a;injection a with a;subst a;cases k
   simp only[Wb];rw[zM _ _ _ _ h,zM _ _ _ _ (by omega)];exact a
noncomputable def jR (c:ky) (n:za):Int×Int:=if ZP c=0 then(if xq c.flags n=true then((j8 c.flags n:Int),0)else(0,5))else(0,ZP c)
noncomputable def mA (out:ky->za->O):zb->Option O:=qf (α:=ky×za) (fun a=>[.agg a.1.V,str a.2]) (fun a=>a.1.cb<=zw) fun a=>out a.1 a.2
theorem QQ(out:ky->za->O)(c:ky)(n:za)(Y:Hp)(Z:Nat)(h:c.cb<=zw):zg false [] (mA out) [.agg c.V,str n] Y Z=some (out c n,Y,Z):=
 yA (V:=fun a:ky×za=>[O.agg a.1.V,str a.2]) (fun a b e=>by obtain⟨d,f⟩:=a;obtain⟨g,i⟩:=b;simp only[zh,zA,O.agg.injEq]at e;rw[cn e.1,wb e.2]) (c,n) (fun Y=>by simp[ky.V]) h (.inr (by simp[ky.V])) Y Z
noncomputable abbrev fH (c:ky) (n:za):O:=.wP [int (jR c n).1,int (jR c n).2]
noncomputable abbrev Um:Ctx:=zR prog [(15,zg false [] NG),(16,zg false [] fp)]
theorem eA(c:ky)(h:c.cb<=zw):c.flags.length<=zw:=by have a:=kq wC.cb Xl c.flags;have b:c.cb=Jg c.V2+(c.flags.map wC.cb).sum:=rfl;omega
theorem IU(c:ky)(n:za)(h:c.cb<=zw):zo Um Tryz.f9 [.agg c.V,str n]=some (fH c n):=by
 have b:=fun Y Z=>Ej c Y Z h
 have f:=fun Y Z=>Kv c.flags n Y Z (eA c h)
 simp only[ky.V]at b;refine zm rfl ?_;unfold fH jR;by_cases d:ZP c=0
 case neg=>have e:=xN d;rw[zd d];simp[ky.V,b,e,zI,Tryz.f9]
 rw[ze d];rw[d]at b;cases g:xq c.flags n
 ·have a:=g;unfold xq at a;simp[ky.V,b,f,a,zI,Tryz.f9]
 ·have a:=g;unfold xq at a;simp[ky.V,b,f,a,j8,zI,Tryz.f9]
theorem EH:zf prog 9 (zg false [] (mA fH)):=
 vX (C:=Um) (zS mixed ⟨H7,Kw,trivial⟩) func9 false [] fun⟨c,n⟩ a=>⟨by simp[Tryz.f9],_,IU c n a,qc _⟩
theorem eB{c:ky}(h:ZP c=0):c.flags.length<=200/\vg c.flags c.flags=0/\Yj c.flags=false:=by
 unfold ZP at h;split at h
 case isFalse a=>exact absurd h a
 split at h
 ·simp at h
 rename_i d;split at h
 case isFalse a=>exact absurd h a
 unfold xj at h;split at h
 case isFalse a=>exact absurd h a
 rename_i a;split at h
 ·simp at h
 rename_i b;exact⟨by omega,a,by simpa using b⟩
theorem cP{c:ky}{n:za}(h:(jR c n).2=0):ZP c=0/\xq c.flags n=true/\(jR c n).1=(j8 c.flags n:Int):=by
 unfold jR at h⊢;split at h
 ·rename_i a;split at h
  ·rename_i b;exact⟨a,b,by rw[ze a,ze b]⟩
  ·simp at h
 ·rename_i a;exact absurd h a
noncomputable def VX (succ:Nat->List Nat) (n:Nat) (M:List Nat) (i:Nat):List Nat:=(succ i).foldl (ba succ n) M
noncomputable def eC:Nat->AM.Spec
 | 0=>fun _ _ _=>none
 |n+1=>yq (zR prog [(16,zg false [] fp),(10,eC n)]) f10
theorem fI:∀n,zf prog 10 (eC n)
 | 0=>Ks ⟨_,func10,by kernel_rfl,by kernel_rfl⟩
 |n+1=>kQ (qq (q:=[]) (l:=[(16,zg false [] fp),(10,eC n)]) mixed ⟨Kw,by simp,fI n,by simp,trivial⟩) func10
def Un(m:Nat)(M:List Nat)(Y:Hp)(Z:Nat)(_:O)(a:Hp)(b:Nat):Prop:=a m=some (cM M)/\Z<=b/\∀j,j<Z->¬j=m->a j=Y j
theorem eD(l:List wC)(hl:AV l<=zw)(hk:∀f∈l,∀p∈f.wT,xq l p.flag=true)(m:Nat):∀(n:Nat) (M:List Nat) (i:Nat) (Y:Hp) (Z:Nat),Ot l.length M<n->i<l.length->m<Z->Y m=some (cM M) ->
  ∃x Y' Z',eC n [.sl 11 (l.map wC.V),int i,.mp m] Y Z=some (x,Y',Z')/\Un m (VX (wI l) n M i) Y Z x Y' Z'
 | 0,_,_,_,_,h,_,_,_=>absurd h (by omega)
 |n+1,M,i,Y0,r,hw,t,hid,K=>by
  unfold AV at hl;have nT:zw=268435456:=rfl;have hle:=kq wC.cb Xl l;obtain⟨f,u⟩:=yx (l[i]);have E:f∈l:=by rw[<-u];exact zj t
  have hm:=vF wC.cb E;have Po:f.cb=1+f.name.length+Ys f.vars+(f.wT.map jB.cb).sum+(f.Wz.map kB.cb).sum+(f.WW.map Zh.cb).sum+f.WA.cb:=rfl;have hpl:=kq jB.cb Kt f.wT;have a:wI l i=f.wT.map fun p=>j8 l p.flag:=by unfold wI;rw[zl t,u]
  obtain⟨R,L⟩:=yx (VX (wI l) (n+1) M i);rw[L];unfold VX at L;unfold eC yq;rw[ze (by simp[f10])];refine qF rfl ?_;simp[t,u,qd f];refine zF (fun k U Y Z=>U 0=.sl 11 (l.map wC.V)/\U 2=.mp m/\U 14=.sl 2 (f.wT.map jB.V)/\U 15=int f.wT.length/\U 16=int k/\r<=Z/\(∀j,j<r->¬j=m->Y j=Y0 j)/\∃s:List Nat,Ot l.length s<n+1/\Y m=some (cM s)/\R=((wI l i).drop k).foldl (ba (wI l) (n+1)) s) f.wT.length
   ⟨by simp,by simp,by simp,by simp,by simp,zk _,fun j J D=>rfl,M,hw,K,by simp[L]⟩ ?_
  rintro k U Y Z Ty ⟨P,Q,v,w,y,S,z,s,hs,F,A⟩;by_cases d:k<f.wT.length
  ·have G:=ql k;obtain⟨p,e⟩:=yx (f.wT[k]);have T:p∈f.wT:=by rw[<-e];exact zj d
   have o:=hk f E p T;have B:=JI o;have W:=fun Y Z=>Kv l p.flag Y Z (by omega)
   have c:=o;unfold xq at c;obtain⟨q,X⟩:=yx (j8 l p.flag);have H:=X;unfold j8 at H;rw[c,H]at W;rw[X]at B;have nid:¬m=Z:=by omega
   have g:qR Y Z (some ⟨54,2,false,[p.V]⟩) m=some (cM s):=by rw[zM _ _ _ _ nid];exact F
   have C:=Oz q g;rw[a,zc (by simpa using d),List.getElem_map,e,X,vA]at A;simp only[jB.V]at C g;by_cases b:q∈s
   ·have hv:ba (wI l) (n+1) s q=s:=by unfold ba;rw[ze b]
    rw[hv]at A;simp[P,Q,v,w,y,d,e,jB.V,W,C,b,G];refine⟨by omega,by omega,fun j J D=>?_,s,hs,g,by rw[A,a]⟩;rw[zM _ _ _ _ (by omega)];exact z j J D
   ·have hpt:=zdQ q g b;have hlt2:=Ov (N:=l.length) B b;obtain⟨x,Y2,CJ,e1,r2,n2,f2⟩:=eD l hl hk m n (s++[q]) q (qR (qR Y Z (some ⟨54,2,false,[[str p.flag,int p.var]]⟩)) m (some (cM (s++[q])))) (Z+1) (by omega) B (by omega) (by simp);have hv:ba (wI l) (n+1) s q=VX (wI l) n (s++[q]) q:=by
     unfold VX
     conv=>lhs;unfold ba;rw[zd b]
    have I:=Ou (N:=l.length) (pD (wI l) (n+1) s q);rw[hv]at A I;have hf2:∀j,j<r->¬j=m->Y2 j=Y0 j:=fun j J D=>by rw[f2 j (by omega) D,zM _ _ _ _ D,zM _ _ _ _ (by omega)];exact z j J D
    simp[P,Q,v,w,y,d,e,jB.V,W,C,b,hpt,e1,G];exact⟨by omega,by omega,hf2,_,by omega,r2,by rw[A,a]⟩
  ·obtain rfl:k=f.wT.length:=by omega
   rw[wF (by rw[a];simp),List.foldl_nil]at A;simp[P,Q,v,w,y,Un,f10];exact⟨by rw[A];exact F,S,z⟩
def tx(f:Nat->Bool)(M:List Nat):List zb:=M.map fun(i:Nat)=>[int i,wo (f i)]
def gr(f:Nat->Bool)(M:List Nat):kN:=⟨34,0,false,tx f M⟩
theorem tz(f:Nat->Bool)(i:Nat):∀(M:List Nat) (k:Nat),(i ∉ M->xm (.int .i64 i) (tx f M) k=some none)/\(i∈M->∃j,xm (.int .i64 i) (tx f M) k=some (some (j,wo (f i))))
 |[],k=>⟨fun _=>rfl,fun h=>by simp at h⟩
 |x::M,k=>by
  obtain⟨c,d⟩:=tz f i M (k+1);by_cases a:i=x
  ·refine⟨fun h=>absurd (by simp[a]) h,fun _=>⟨k,?_⟩⟩;subst a;simp[tx,xm,xd]
  ·have e:xd (.int .i64 (i:Int)) (.int .i64 (x:Int))=some false:=by simp only[xd,qB,zW,jk,ne_eq];omega
   have b:xm (.int .i64 i) (tx f (x::M)) k=xm (.int .i64 i) (tx f M) (k+1):=by simp only[tx,wc,xm,e]
   refine⟨fun h=>by rw[b];exact c fun g=>h (zeg _ g),fun h=>?_⟩;rcases zv.1 h with h|h
   ·exact absurd h a
   ·rw[b];exact d h
theorem za3{Y:Hp}{id:Nat}{f:Nat->Bool}{M:List Nat}(i:Nat)(h:Y id=some (gr f M)):xC prog Y 34 (.mp id) (int i) false=some (wo (decide (i∈M)&&f i)):=by
 obtain⟨b,c⟩:=tz f i M 0;by_cases a:i∈M
 ·obtain⟨j,d⟩:=c a;simp[xC,bm,h,gr,Yv,d,a]
 ·simp[xC,bm,h,gr,Yv,b a,a]
theorem zd0{Y:Hp}{id:Nat}{f:Nat->Bool}{M:List Nat}(i:Nat)(h:Y id=some (gr f M))(hs:i ∉ M):Zt prog Y 34 (.mp id) (int i) (wo (f i))=some (qR Y id (some (gr f (M++[i])))):=by obtain⟨a,b⟩:=tz f i M 0;simp[Zt,h,gr,Yv,a hs];simp[tx]
theorem za4(M:List Nat):cM M=gr (fun _=>true) M:=rfl
def Yo(l:List wC)(f:Nat->Bool)(k:Nat):List za:=(List.range k).filterMap fun i=>if f i=true then(l[i]?).map wC.name else none
theorem eE{l:List wC}{f:Nat->Bool}{k:Nat}(h:k<l.length):Yo l f (k+1)=Yo l f k++(if f k=true then[l[k].name]else[]):=by unfold Yo;rw[List.range_succ,List.filterMap_append];congr 1;cases a:f k<;>simp[a,h]
theorem VY(l:List wC)(f:Nat->Bool)(k:Nat):(Yo l f k).length<=k:=by have:=List.length_filterMap_le (fun i=>if f i=true then(l[i]?).map wC.name else none) (List.range k);simpa[Yo]using this
noncomputable abbrev F9:AM.Spec:=yq C0 f11
theorem EI:zf prog 11 F9:=kQ jS func11
def Uo(K:List za)(_:Hp)(_:Nat)(x:O)(a:Hp)(b:Nat):Prop:=wa a b 9 1 x (zx K)
theorem BV(l:List wC)(I:l.length<=200)(f:Nat->Bool)(M:List Nat)(m:Nat)(n:Hp)(Z0:Nat)(C:m<Z0)(o:n m=some (gr f M)) :
  ∃x v w,F9 [.sl 11 (l.map wC.V),.mp m] n Z0=some (x,v,w)/\Uo (Yo l (fun i=>decide (i∈M)&&f i) l.length) n Z0 x v w:=by
 obtain⟨g,y⟩:=yx (fun i=>decide (i∈M)&&f i);rw[y];unfold F9 yq;rw[ze (by simp[f11])];refine qF rfl ?_;simp;refine zF (fun k U Y Z=>U 1=.mp m/\U 8=.sl 11 (l.map wC.V)/\U 9=int l.length/\U 10=int k/\m<Z/\Y m=some (gr f M)/\wa Y Z 9 1 (U 5) (zx (Yo l g k))) l.length
  ⟨by simp,by simp,by simp,by simp,C,o,by simp[Yo,zx];exact .inl ⟨rfl,rfl⟩⟩ ?_
 rintro k U Y Z J ⟨p,q,r,c,D,E,z⟩;by_cases d:k<l.length
 ·have A:=ql k;obtain⟨x,s⟩:=yx (l[k]);have e:qR Y Z (some ⟨45,11,false,[x.V]⟩) m=some (gr f M):=by rw[zM _ _ _ _ (by omega)];exact E
  have b:=za3 k e;have t:(decide (k∈M)&&f k)=g k:=congrFun y k;rw[t]at b;have h:=z.more (some ⟨45,11,false,[x.V]⟩);have F:=VY l g k;have a:=eE (f:=g) d;rw[s]at a;simp only[qd x]at b;cases j:g k
  ·rw[j]at b a;simp only[zq,qn,jL]at a;simp[p,q,r,c,d,s,qd x,b,A];refine⟨by omega,by omega,?_,by rw[a];simpa[qd x]using h⟩;simpa[qd x]using e
  ·rw[j]at b a;simp only[qB]at a;obtain⟨Y2,B,G,H⟩:=IQ h x.name (by omega);have u:=H m _ (by omega) e rfl;simp only[qd x]at B;simp[p,q,r,c,d,s,qd x,b,zr,zJ,zp,B,A];exact⟨by omega,by omega,u,by rw[a];exact G⟩
 ·obtain rfl:k=l.length:=by omega
  simp[p,q,r,c,Uo,f11];exact z
noncomputable def gu (l:List wC) (i:Nat):List Nat:=VX (wI l) 268435457 [] i
noncomputable def xA (c:ky) (n:za):List za×Int:=if(jR c n).2=0 then(Yo c.flags (fun i=>decide (i∈gu c.flags (j8 c.flags n))) c.flags.length,0)else([],(jR c n).2)
noncomputable def Qi (c:ky) (n:za):List za×Int:=if(jR c n).2=0 then(Yo c.flags (fun i=>decide (j8 c.flags n∈gu c.flags i)) c.flags.length,0)else([],(jR c n).2)
noncomputable abbrev Jc (a:List za×Int):O:=.wP [.sl 1 (zx a.1),int a.2]
theorem cQ(e:Int)(Y:Hp)(Z:Nat):Jl (Jc ([],e)) (.wP [.nil,int e]) Y Z:=by have:=(wa.nil Y Z 9 1).gU (.int .i64 e) Z;simpa[Jc,zx]using this
theorem tA(N:Nat):Ot N []<=N:=by have:Ot N []<=(List.range N).length:=List.countP_le_length;simpa using this
noncomputable abbrev CNd:Ctx:=zR prog [(9,zg false [] (mA fH)),(10,eC 268435457),(11,F9)]
theorem OB:Gd CNd:=zS mixed ⟨EH,fI _,EI,trivial⟩
theorem EJ(c:ky)(n:za)(h:c.cb<=zw):∃j,zo CNd Tryz.f4 [.agg c.V,str n]=some j/\YC j (Jc (xA c n)):=by
 have b:=fun Y Z=>QQ fH c n Y Z h
 simp only[ky.V,fH]at b;refine xe rfl ?_;unfold xA;by_cases a:(jR c n).2=0
 case neg=>have d:=xN a;have m:=cQ (jR c n).2;rw[zd a];simp[ky.V,b,d,Tryz.f4];exact m _ _
 obtain⟨o,q,r⟩:=cP a;obtain⟨s,t,_⟩:=eB o;have u:∀f∈c.flags,∀p∈f.wT,xq c.flags p.flag=true:=fun f v p Y=>(ZL (ZM t f v) p Y).1
 have e:=JI q;have w:=tA c.flags.length;have g:AV c.flags<=zw:=by have E:c.cb=Jg c.V2+AV c.flags:=rfl;omega
 obtain⟨x,Y2,i,z,A,F,B⟩:=eD c.flags g u 1 268435457 [] (j8 c.flags n) (qR (qR (fun _=>none) 0 (some ⟨25,2,false,[[.sl 10 (c.V2.map qA.V),.sl 11 (c.flags.map wC.V)]]⟩)) 1 (some ⟨34,0,false,[]⟩)) 2 (by omega) e (by omega) (by simp[cM,nK]);obtain⟨y,C,D,k,O⟩:=BV c.flags s (fun _=>true) (VX (wI c.flags) 268435457 [] (j8 c.flags n)) 1 Y2 i (by omega) (by rw[<-za4];exact A);have l:=B 0 (by omega) (by omega);simp only[Bool.and_true]at k O;simp at l;rw[ze a];rw[a,r]at b;simp[ky.V,b,z,l,k,Tryz.f4];exact O.gU _ _
theorem BW:zf prog 4 (zg false [] (mA fun c n=>Jc (xA c n))):=
 vX OB func4 false [] fun⟨c,n⟩ a=>⟨by simp[Tryz.f4],EJ c n a⟩
theorem EK{l:List wC}{f g:Nat->Bool}{k:Nat}(h:∀i,i<k->f i=g i):Yo l f k=Yo l g k:=by
 unfold Yo
 induction k with
 |zero=>rfl
 |succ k a=>rw[List.range_succ,List.filterMap_append,List.filterMap_append,a fun i hi=>h i (by omega),List.filterMap_cons,List.filterMap_cons,h k (by omega)];rfl
theorem EL(c:ky)(n:za)(h:c.cb<=zw):∃G,zo CNd Tryz.f6 [.agg c.V,str n]=some G/\YC G (Jc (Qi c n)):=by
 have e:=fun Y Z=>QQ fH c n Y Z h
 simp only[ky.V,fH]at e;refine xe rfl ?_;unfold Qi;by_cases j:(jR c n).2=0
 case neg=>have u:=xN j;have K:=cQ (jR c n).2;rw[zd j];simp[ky.V,e,u,Tryz.f6];exact K _ _
 obtain⟨M,N,P⟩:=cP j;obtain⟨Q,R,_⟩:=eB M;have T:∀f∈c.flags,∀p∈f.wT,xq c.flags p.flag=true:=fun f W p Y=>(ZL (ZM R f W) p Y).1
 have v:=JI N;have X:=tA c.flags.length;have w:AV c.flags<=zw:=by have z:c.cb=Jg c.V2+AV c.flags:=rfl;omega
 rw[ze j];rw[j,P]at e;obtain⟨S,L⟩:=c;simp only at *;obtain⟨a,ha⟩:=yx (j8 L n);rw[ha]at e v⊢;obtain⟨g,l⟩:∃g:Nat->Bool,(fun i=>decide (a∈gu L i))=g:=⟨_,rfl⟩;rw[l];simp[ky.V,e];refine zF (fun k U Y Z=>U 2=.ref 0 0 0/\U 6=int a/\U 8=.mp 1/\U 22=.sl 11 (L.map wC.V)/\U 23=int L.length/\U 24=int k/\1<Z/\Y 0=some (jv S L)/\Y 1=some (gr g (List.range k))) L.length
  ⟨by simp,by simp,by simp,by simp,by simp,by simp,by simp,by simp[jv],by simp[gr,tx]⟩ ?_
 rintro k U Y Z Ty ⟨z,H,I,m,o,q,A,d,r⟩;by_cases s:k<L.length
 ·have hw:=ql k;obtain⟨x,Y2,CJ,e1,r2,n2,J⟩:=eD L w T Z 268435457 [] k (qR Y Z (some ⟨34,0,false,[]⟩)) (Z+1) (by omega) s (by omega) (by simp[cM,nK]);have B:=J 0 (by omega) (by omega);have C:=J 1 (by omega) (by omega);rw[zM _ _ _ _ (by omega)]at B C;rw[d]at B;rw[r]at C;have t:=Oz a r2;have D:decide (a∈VX (wI L) 268435457 [] k)=g k:=congrFun l k;rw[D]at t;have E:=zd0 k C (by simp);have n0:¬0=Z:=by omega
  have F:¬Z=0:=by omega
  have b:=d;simp only[jv]at b;simp[z,H,I,m,o,q,s,b,n0,F,e1,t,E,hw];exact⟨by omega,by omega,B,by rw[List.range_succ]⟩
 ·obtain rfl:k=L.length:=by omega
  obtain⟨y,hp3,nx3,e2,O⟩:=BV L Q g (List.range L.length) 1 Y Z A r;rw[EK (g:=g) (fun i hi=>by simp[hi])]at O;have b:=d;simp only[jv]at b;simp[z,H,I,m,o,q,b,e2,Tryz.f6];exact O.gU _ _
theorem BX:zf prog 6 (zg false [] (mA fun c n=>Jc (Qi c n))):=
 vX OB func6 false [] fun⟨c,n⟩ a=>⟨by simp[Tryz.f6],EL c n a⟩
theorem cR(l:List Rg)(n:Int)(Q:1<=n/\n<=20):zo C0 f125 [.sl 3 (l.map Vt),int n]=some (int (Z7 l n)):=by
 refine zm rfl ?_;rw[Z7];by_cases u:l.length=0
 ·have:l=[]:=zT.1 u;subst this;simp[f125]
 have p:¬l=[]:=fun h=>u (by rw[h];rfl)
 have D:((l.length:Int)==0)=false:=by simpa using p
 by_cases E:(200:Int)<l.length
 ·simp[D,u,p,E,f125]
 simp[D,u,p,E];refine zF (fun k U Y Z=>U 0=.sl 3 (l.map Vt)/\U 1=int n/\U 16=.sl 3 (l.map Vt)/\U 17=int l.length/\U 18=int k/\∃a:Int,U 5=int a/\Mi n 0 none l=Mi n a (YF l k) (l.drop k)) l.length
  ⟨by simp,by simp,by simp,by simp,by simp,0,by simp,by simp[YF]⟩ ?_
 rintro k U Y Z R ⟨i,m,d,e,f,a,o,b⟩;by_cases c:k<l.length
 ·have S:=ql k;rw[uU c]at b;have g:(decide (l[k].2.2<0)||decide (n<=l[k].2.2))=!jE l[k].2.2 0 (n-1):=by simp only[jE];by_cases K:l[k].2.2<0<;>by_cases L:n<=l[k].2.2<;>simp[K,L]<;>omega
  cases y:jE l[k].2.2 0 (n-1)
  case false=>rw[y]at b g;simp at b;simp only[Bool.not_false]at g;simp[i,m,o,d,e,f,c,g,b,f125]
  rw[y]at g;simp only[Bool.not_true]at g;simp only[y,qB]at b;have q:((l[k].1 != a)||decide (l[k].2.1<=l[k].1))=rgO a l[k]:=rfl;cases z:rgO a l[k]
  case true=>rw[z]at q b;simp only[qB]at b;simp[i,m,o,d,e,f,c,g,q,b,f125]
  rw[z]at q;simp only[z,zq,qn]at b;by_cases r:(100000:Int)<l[k].2.1
  ·rw[ze r]at b;simp[i,m,o,d,e,f,c,g,q,r,b,f125]
  rw[zd r]at b;have s:YF l (k+1)=some l[k].2.2:=by simp[YF,c]
  by_cases M:k=0
  ·subst M;simp only[YF,qB,TX,zq,qn]at b;have N:=wu 1;simp[i,m,o,d,e,f,c,g,q,r,N];exact⟨c,by rw[b,s];simp⟩
  ·obtain⟨j,rfl⟩:∃j,k=j+1:=⟨k-1,by omega⟩;have A:j<l.length:=by omega
   have F:IntKind.i64.wrap ((j:Int)+1-1)=(j:Int):=by rw[wR (by omega) (by omega)];omega
   have t:=wu (j:Int);have G:((j:Int)+1).toNat=j+1:=by omega
   have H:0<(j:Int)+1:=by omega
   have I:0<=(j:Int)+1:=by omega
   have J:(j:Int)+1<l.length:=by omega
   have P:=wu ((j:Int)+1+1);have B:YF l (j+1)=some l[j].2.2:=by simp[YF,A]
   have v:(l[j+1].2.2==l[j].2.2)=TX (some l[j].2.2) l[j+1]:=BEq.comm;rw[B]at b;cases w:TX (some l[j].2.2) l[j+1]
   ·rw[w]at v;simp only[w,zq,qn]at b;simp[i,m,o,d,e,f,c,A,g,q,r,v,F,t,G,H,I,J,P];exact⟨by omega,by rw[b,s]⟩
   ·rw[w]at v;simp only[w,qB]at b;simp[i,m,o,d,e,f,c,A,g,q,r,v,F,t,G,H,I,J,b,f125]
 ·obtain rfl:k=l.length:=by omega
  rw[zn,Mi]at b;by_cases x:a=100000
  ·rw[ze x]at b;simp[i,m,o,d,e,f,x,b,f125]
  ·rw[zd x]at b;have C:(a != 100000)=true:=by simpa using x
   simp[i,m,o,d,e,f,C,b,f125]
theorem bb:zf prog 125 (zg false [] (FRN (fun l n=>int (Z7 l n)) fun _ n=>1<=n/\n<=20)):=
 vX jS func125 false [] fun⟨l,n⟩ a=>⟨zG (zk 2) (by decide),_,cR l n a,qc _⟩
end Go.Q
