/-
  The abstract machine, part 4: steps of the heap.
-/
import Derived.Test.YtphmgjcjcdodhaaAm2
namespace Go.AM
open Go.RowKit

def liveIn (hp : Hp) (G : Nat → GI) (b : Nat) : Prop := ∃ id blk, hp id = some blk ∧ (G id).g = b

/-- A step of the heap: what is stable stays, the live blocks may change, new ones may come. -/
structure Stp (P : Program) (hp : Hp) (nx : Nat) (S : Nat → Prop) (G : Nat → GI) (w : World) (hp' : Hp) (nx' : Nat) (S' : Nat → Prop) (G' : Nat → GI) (w' : World) : Prop where
  inv : Inv P w' S' G' hp' nx'
  up : nx ≤ nx'
  loc : ∀ id, id < nx → G' id = G id
  keep : ∀ b, S b → S' b
  from_ : ∀ b, S' b → S b ∨ liveIn hp G b ∨ w.heap.size ≤ b
  own : ∀ id blk, hp' id = some blk → liveIn hp G (G' id).g ∨ w.heap.size ≤ (G' id).g
  fr : Fr w (liveIn hp G) w'

theorem Stp.same {P : Program} {hp hp' : Hp} {nx nx' : Nat} {S S' : Nat → Prop} {G G' : Nat → GI} {w w' : World} (h : Stp P hp nx S G w hp' nx' S' G' w') (hi : Inv P w S G hp nx) :
    ∀ b, S b → S' b ∧ w'.heap[b]? = w.heap[b]? := fun b hb =>
  ⟨h.keep b hb, h.fr.block b (hi.st b hb) fun ⟨id, blk, hid, e⟩ => hi.apart id blk hid (e ▸ hb)⟩

theorem Stp.refl {P : Program} {hp : Hp} {nx : Nat} {S : Nat → Prop} {G : Nat → GI} {w : World} (h : Inv P w S G hp nx) : Stp P hp nx S G w hp nx S G w :=
  ⟨h, Nat.le_refl _, fun _ _ => rfl, fun _ h => h, fun _ h => .inl h, fun id blk hb => .inl ⟨id, blk, hb, rfl⟩, Fr.refl _ _⟩

theorem Stp.trans {P : Program} {hp hp' hp'' : Hp} {nx nx' nx'' : Nat} {S S' S'' : Nat → Prop} {G G' G'' : Nat → GI} {w w' w'' : World}
    (h : Stp P hp nx S G w hp' nx' S' G' w') (k : Stp P hp' nx' S' G' w' hp'' nx'' S'' G'' w'') : Stp P hp nx S G w hp'' nx'' S'' G'' w'' := by
  have hl : ∀ b, liveIn hp' G' b → liveIn hp G b ∨ w.heap.size ≤ b := by
    rintro b ⟨id, blk, h1, rfl⟩
    exact h.own id blk h1
  refine ⟨k.inv, Nat.le_trans h.up k.up, fun id hid => (k.loc id (Nat.lt_of_lt_of_le hid h.up)).trans (h.loc id hid), fun b hb => k.keep b (h.keep b hb), fun b hb => ?_, fun id blk hb => ?_, ?_⟩
  · rcases k.from_ b hb with h1 | h1 | h1
    · exact h.from_ b h1
    · rcases hl b h1 with h2 | h2
      · exact .inr (.inl h2)
      · exact .inr (.inr h2)
    · exact .inr (.inr (Nat.le_trans h.fr.size h1))
  · rcases k.own id blk hb with h1 | h1
    · exact hl _ h1
    · exact .inr (Nat.le_trans h.fr.size h1)
  · refine h.fr.trans k.fr fun b hb h1 => ?_
    rcases hl b h1 with h2 | h2
    · exact h2
    · omega

theorem Inv.same {P : Program} {w w' : World} {S : Nat → Prop} {G : Nat → GI} {hp : Hp} {nx : Nat} (h : Inv P w S G hp nx) (hh : w'.heap = w.heap) : Inv P w' S G hp nx := by
  have hS : ∀ b, S b → S b ∧ w'.heap[b]? = w.heap[b]? := fun b hb => ⟨hb, by rw [hh]⟩
  exact ⟨fun b hb => by rw [hh]; exact h.st b hb, h.top, fun id b hb => (h.live id b hb).mono hS (Nat.le_refl _) (fun _ _ => rfl) (by rw [hh]), h.apart, h.inj⟩

theorem Stp.drew {P : Program} {hp : Hp} {nx : Nat} {S : Nat → Prop} {G : Nat → GI} {w : World} (h : Inv P w S G hp nx) : Stp P hp nx S G w hp nx S G w.drew :=
  ⟨h.same rfl, Nat.le_refl _, fun _ _ => rfl, fun _ h => h, fun _ h => .inl h, fun id blk hb => .inl ⟨id, blk, hb, rfl⟩, Fr.drew _ _⟩

/-- A new block. -/
theorem Stp.alloc {P : Program} {hp : Hp} {nx : Nat} {S : Nat → Prop} {G : Nat → GI} {w : World} (h : Inv P w S G hp nx) (cur : Array Value) (e : TypeId) (arr : Bool) (es : List (List PV)) (s : Nat)
    (hsz : (P.info? e).map (·.size) = some s) (hlen : ∀ c ∈ es, c.length = s) (hfit : es.length * s ≤ cur.size)
    (hrow : ∀ (i j : Nat) (c : List PV) (pv : PV), es[i]? = some c → c[j]? = some pv → ∃ u, cur[i * s + j]? = some u ∧ CellRep w S G nx arr pv u) :
    Stp P hp nx S G w (upd hp nx (some ⟨e, s, arr, es⟩)) (nx + 1) S (upd G nx ⟨w.heap.size, cur.size, s⟩) (w.alloc (.cells cur e)) := by
  have hold : ∀ b, b < w.heap.size → (w.alloc (.cells cur e)).heap[b]? = w.heap[b]? := fun b hb => Below.heap_alloc w _ b hb
  have hS : ∀ b, S b → S b ∧ (w.alloc (.cells cur e)).heap[b]? = w.heap[b]? := fun b hb => ⟨hb, hold b (h.st b hb)⟩
  have hG : ∀ id, id < nx → upd G nx ⟨w.heap.size, cur.size, s⟩ id = G id := fun id hid => upd_other _ _ _ _ (by omega)
  have hpo : ∀ id, id ≠ nx → upd hp nx (some ⟨e, s, arr, es⟩) id = hp id := fun id hid => upd_other _ _ _ _ hid
  have hsize : (w.alloc (.cells cur e)).heap.size = w.heap.size + 1 := by show (w.heap.push _).size = _; simp
  have hlv : ∀ id b, hp id = some b → (G id).g < w.heap.size := fun id b hb => (h.live id b hb).lt
  refine ⟨⟨fun b hb => by rw [hsize]; have := h.st b hb; omega, fun id b hb => ?_, fun id b hb => ?_, fun id b hb => ?_, fun id id' b b' hb hb' he => ?_⟩, by omega, hG, fun _ hb => hb, fun _ hb => .inl hb, fun id b hb => ?_, ⟨rfl, rfl, rfl, by rw [hsize]; omega, Nat.le_refl _, fun k hk _ => hold k hk⟩⟩
  · by_cases hid : id = nx
    · omega
    · rw [hpo id hid] at hb; have := h.top id b hb; omega
  · by_cases hid : id = nx
    · subst hid
      simp only [upd_same] at hb ⊢
      injection hb with hb
      subst hb
      refine ⟨rfl, hsz, hlen, hfit, cur, heap_alloc_new w _, rfl, fun i j c pv hi hj => ?_⟩
      obtain ⟨u, h1, h2⟩ := hrow i j c pv hi hj
      exact ⟨u, h1, h2.mono hS (by omega) hG⟩
    · rw [hpo id hid] at hb
      have ht := h.top id b hb
      rw [hG id ht]
      exact (h.live id b hb).mono hS (by omega) hG (hold _ (hlv id b hb))
  · by_cases hid : id = nx
    · subst hid
      simp only [upd_same]
      intro hs
      have := h.st _ hs
      omega
    · rw [hpo id hid] at hb
      rw [hG id (h.top id b hb)]
      exact h.apart id b hb
  · by_cases hid : id = nx <;> by_cases hid' : id' = nx
    · omega
    · subst hid
      rw [hpo id' hid'] at hb'
      rw [hG id' (h.top id' b' hb')] at he
      have := hlv id' b' hb'
      simp at he
      omega
    · subst hid'
      rw [hpo id hid] at hb
      rw [hG id (h.top id b hb)] at he
      have := hlv id b hb
      simp at he
      omega
    · rw [hpo id hid] at hb
      rw [hpo id' hid'] at hb'
      rw [hG id (h.top id b hb), hG id' (h.top id' b' hb')] at he
      exact h.inj id id' b b' hb hb' he
  · by_cases hid : id = nx
    · subst hid
      simp
    · rw [hpo id hid] at hb
      rw [hG id (h.top id b hb)]
      exact .inl ⟨id, b, hb, rfl⟩

/-- A live block's contents are replaced. -/
theorem Stp.set {P : Program} {hp : Hp} {nx : Nat} {S : Nat → Prop} {G : Nat → GI} {w : World} (h : Inv P w S G hp nx) {id : Nat} {b : Blk} (hid : hp id = some b) (cur' : Array Value) (es : List (List PV))
    (hz : cur'.size = (G id).z) (hlen : ∀ c ∈ es, c.length = (G id).s) (hfit : es.length * (G id).s ≤ (G id).z)
    (hrow : ∀ (i j : Nat) (c : List PV) (pv : PV), es[i]? = some c → c[j]? = some pv → ∃ u, cur'[i * (G id).s + j]? = some u ∧ CellRep w S G nx b.arr pv u) :
    Stp P hp nx S G w (upd hp id (some ⟨b.e, b.s, b.arr, es⟩)) nx S G (w.setRow (G id).g cur') := by
  have hother : ∀ k, k ≠ (G id).g → (w.setRow (G id).g cur').heap[k]? = w.heap[k]? := fun k hk => setRow_other w _ k _ hk
  have hS : ∀ b, S b → S b ∧ (w.setRow (G id).g cur').heap[b]? = w.heap[b]? := fun k hk => ⟨hk, hother k fun e => h.apart id b hid (e ▸ hk)⟩
  have hpo : ∀ k, k ≠ id → upd hp id (some ⟨b.e, b.s, b.arr, es⟩) k = hp k := fun k hk => upd_other _ _ _ _ hk
  obtain ⟨cur, hcur, hcz, _⟩ := (h.live id b hid).row
  refine ⟨⟨fun k hk => by rw [setRow_size]; exact h.st k hk, fun k c hk => ?_, fun k c hk => ?_, fun k c hk => ?_, fun k k' c c' hk hk' he => ?_⟩, Nat.le_refl _, fun _ _ => rfl, fun _ hb => hb, fun _ hb => .inl hb, fun k c hk => ?_, ⟨rfl, rfl, rfl, by simp, Nat.le_refl _, fun k _ hn => hother k fun e => hn ⟨id, b, hid, e.symm⟩⟩⟩
  · by_cases hki : k = id
    · subst hki; exact h.top _ b hid
    · rw [hpo k hki] at hk; exact h.top k c hk
  · by_cases hki : k = id
    · subst hki
      simp only [upd_same] at hk
      injection hk with hk
      subst hk
      refine ⟨(h.live _ b hid).bs, (h.live _ b hid).size, hlen, hfit, cur', setRow_heap w _ cur _ _ _ hcur, hz, fun i j c pv hi hj => ?_⟩
      obtain ⟨u, h1, h2⟩ := hrow i j c pv hi hj
      exact ⟨u, h1, h2.mono hS (Nat.le_refl _) (fun _ _ => rfl)⟩
    · rw [hpo k hki] at hk
      exact (h.live k c hk).mono hS (Nat.le_refl _) (fun _ _ => rfl) (hother _ fun e => hki (h.inj k id c b hk hid e))
  · by_cases hki : k = id
    · subst hki; exact h.apart _ b hid
    · rw [hpo k hki] at hk; exact h.apart k c hk
  · have hx : ∀ k c, upd hp id (some ⟨b.e, b.s, b.arr, es⟩) k = some c → ∃ c', hp k = some c' := by
      intro k c hk
      by_cases hki : k = id
      · subst hki; exact ⟨b, hid⟩
      · rw [hpo k hki] at hk; exact ⟨c, hk⟩
    obtain ⟨c1, h1⟩ := hx k c hk
    obtain ⟨c2, h2⟩ := hx k' c' hk'
    exact h.inj k k' c1 c2 h1 h2 he
  · by_cases hki : k = id
    · subst hki; exact .inl ⟨_, b, hid, rfl⟩
    · rw [hpo k hki] at hk; exact .inl ⟨k, c, hk, rfl⟩

/-- A live block is given up: from now on it is stable. -/
theorem Stp.kill {P : Program} {hp : Hp} {nx : Nat} {S : Nat → Prop} {G : Nat → GI} {w : World} (h : Inv P w S G hp nx) {id : Nat} {b : Blk} (hid : hp id = some b) :
    Stp P hp nx S G w (upd hp id none) nx (fun k => S k ∨ k = (G id).g) G w := by
  have hS : ∀ k, S k → (S k ∨ k = (G id).g) ∧ w.heap[k]? = w.heap[k]? := fun k hk => ⟨.inl hk, rfl⟩
  have hx : ∀ k c, upd hp id none k = some c → k ≠ id ∧ hp k = some c := by
    intro k c hk
    by_cases hki : k = id
    · subst hki; simp at hk
    · rw [upd_other _ _ _ _ hki] at hk; exact ⟨hki, hk⟩
  refine ⟨⟨fun k hk => ?_, fun k c hk => h.top k c (hx k c hk).2, fun k c hk => (h.live k c (hx k c hk).2).mono hS (Nat.le_refl _) (fun _ _ => rfl) rfl, fun k c hk => ?_, fun k k' c c' hk hk' he => h.inj k k' c c' (hx k c hk).2 (hx k' c' hk').2 he⟩,
    Nat.le_refl _, fun _ _ => rfl, fun _ hb => .inl hb, fun k hk => ?_, fun k c hk => .inl ⟨k, c, (hx k c hk).2, rfl⟩, Fr.refl _ _⟩
  · rcases hk with hk | rfl
    · exact h.st k hk
    · exact (h.live id b hid).lt
  · rintro (hs | he)
    · exact h.apart k c (hx k c hk).2 hs
    · exact (hx k c hk).1 (h.inj k id c b (hx k c hk).2 hid he)
  · rcases hk with hk | rfl
    · exact .inl hk
    · exact .inr (.inl ⟨id, b, hid, rfl⟩)

/-- A live block is simply forgotten. -/
theorem Stp.drop {P : Program} {hp : Hp} {nx : Nat} {S : Nat → Prop} {G : Nat → GI} {w : World} (h : Inv P w S G hp nx) (id : Nat) :
    Stp P hp nx S G w (upd hp id none) nx S G w := by
  have hS : ∀ k, S k → S k ∧ w.heap[k]? = w.heap[k]? := fun k hk => ⟨hk, rfl⟩
  have hx : ∀ k c, upd hp id none k = some c → hp k = some c := by
    intro k c hk
    by_cases hki : k = id
    · subst hki; simp at hk
    · rw [upd_other _ _ _ _ hki] at hk; exact hk
  exact ⟨⟨h.st, fun k c hk => h.top k c (hx k c hk), fun k c hk => (h.live k c (hx k c hk)).mono hS (Nat.le_refl _) (fun _ _ => rfl) rfl, fun k c hk => h.apart k c (hx k c hk), fun k k' c c' hk hk' he => h.inj k k' c c' (hx k c hk) (hx k' c' hk') he⟩,
    Nat.le_refl _, fun _ _ => rfl, fun _ hb => hb, fun k hk => .inl hk, fun k c hk => .inl ⟨k, c, hx k c hk, rfl⟩, Fr.refl _ _⟩

/-- The contents of an array that is given up. -/
theorem frozen_rep {P : Program} {hp : Hp} {nx : Nat} {S : Nat → Prop} {G : Nat → GI} {w : World} (h : Inv P w S G hp nx) {id off n cap : Nat} {b : Blk} (hid : hp id = some b) (harr : b.arr = true) (hn : off + n ≤ b.es.length)
    (hcap : n ≤ cap) (hmax : cap ≤ maxLen) (S' : Nat → Prop) (hS : ∀ k, S k → S' k) (hg : S' (G id).g) :
    RepC w S' (.sl b.s ((b.es.drop off).take n)) (.slice (some ⟨(G id).g, off * (G id).s, none⟩) n cap) := by
  have hb := h.live id b hid
  obtain ⟨cur, h1, h2, h3⟩ := hb.row
  have hl : ((b.es.drop off).take n).length = n := by simp; omega
  have hget : ∀ (i : Nat) (c : List PV), ((b.es.drop off).take n)[i]? = some c → b.es[off + i]? = some c := by
    intro i c hi
    rw [List.getElem?_take] at hi
    split at hi
    · rwa [List.getElem?_drop] at hi
    · cases hi
  have hex : ∀ (i j : Nat), ∃ u, ∀ (c : List PV) (pv : PV), ((b.es.drop off).take n)[i]? = some c → c[j]? = some pv → cur[(off + i) * (G id).s + j]? = some u ∧ CellRep w S G nx b.arr pv u := by
    intro i j
    by_cases hc : ∃ c pv, ((b.es.drop off).take n)[i]? = some c ∧ c[j]? = some pv
    · obtain ⟨c, pv, hi, hj⟩ := hc
      obtain ⟨u, h4, h5⟩ := h3 (off + i) j c pv (hget i c hi) hj
      refine ⟨u, fun c' pv' hi' hj' => ?_⟩
      rw [hi] at hi'
      injection hi' with hi'
      subst hi'
      rw [hj] at hj'
      injection hj' with hj'
      subst hj'
      exact ⟨h4, h5⟩
    · exact ⟨undef, fun c pv hi hj => (hc ⟨c, pv, hi, hj⟩).elim⟩
  rw [hb.bs]
  have key : RepC w S' (.sl (G id).s ((b.es.drop off).take n)) (.slice (some ⟨(G id).g, off * (G id).s, none⟩) ((b.es.drop off).take n).length cap) := by
    refine .sl (s := (G id).s) (fun i j => Classical.choose (hex i j)) (by simp) (by omega) hmax (fun c hc => hb.len c (List.drop_subset _ _ (List.take_subset _ _ hc))) (fun i j c pv hi hj => ?_) (fun i j c pv hi hj => ?_)
    · obtain ⟨h4, h5⟩ := Classical.choose_spec (hex i j) c pv hi hj
      refine ⟨_, rfl, hg, ?_, h5.2.2⟩
      have hadd : (⟨(G id).g, off * (G id).s, none⟩ : Addr).add (i * (G id).s + j) = ⟨(G id).g, (off + i) * (G id).s + j, none⟩ := by
        unfold Addr.add
        split
        · rename_i h0
          have h01 : i * (G id).s = 0 := by omega
          have h02 : j = 0 := by omega
          simp [Nat.add_mul, h01, h02]
        · simp [Nat.add_mul]; omega
      rw [hadd, cell_of_row w _ _ cur _ _ h1]
      exact h4
    · obtain ⟨h4, h5⟩ := Classical.choose_spec (hex i j) c pv hi hj
      exact (h5.1 harr).mono fun k hk => ⟨hS k hk, rfl⟩
  rwa [hl] at key

/-- The state after a step. -/
theorem SimAt.step {P : Program} {w0 : World} {S0 L : Nat → Prop} {N nx0 : Nat} {G0 : Nat → GI} {st : St} {S S' : Nat → Prop} {G G' : Nat → GI} {a : Act} {w w' : World} {hp' : Hp} {nx' : Nat} {x : PV} {u : Value} {dst : Option Tmp}
    (h : SimAt P w0 S0 L N nx0 G0 st S G a w) (k : Stp P st.hp st.nx S G w hp' nx' S' G' w') (hx : RepO w' S' G' nx' x u) (hd : ∀ d, dst = some d → d < N) :
    SimAt P w0 S0 L N nx0 G0 ⟨put st.σ dst x, hp', nx'⟩ S' G' (a.put dst u) w' := by
  have hS := k.same h.inv
  have hl : ∀ b, liveIn st.hp G b → L b ∨ w0.heap.size ≤ b := by
    rintro b ⟨id, blk, h1, rfl⟩
    exact h.own id blk h1
  refine ⟨k.inv, fun t => ?_, ?_, ?_, fun b hb => k.keep b (h.s0 b hb), fun b hb => ?_, fun id blk hb => ?_, ?_, Nat.le_trans h.up k.up, fun id hid => (k.loc id (Nat.lt_of_lt_of_le hid h.up)).trans (h.loc id hid)⟩
  · have hold : RepO w' S' G' nx' (st.σ t) (a.tmps.getD t undef) := (h.slots t).mono hS k.up k.loc
    cases dst with
    | none => exact hold
    | some d =>
      show RepO w' S' G' nx' (upd st.σ d x t) ((a.tmps.setIfInBounds d u).getD t undef)
      by_cases e : t = d
      · subst e
        have : t < a.tmps.size := by rw [h.size]; exact hd t rfl
        simpa [upd, this] using hx
      · have e' : ¬ d = t := fun h => e h.symm
        simp only [upd, e, if_false]
        have : (a.tmps.setIfInBounds d u).getD t undef = a.tmps.getD t undef := by
          simp [Array.getElem?_setIfInBounds_ne e']
        rw [this]
        exact hold
  · cases dst with
    | none => exact h.size
    | some d => show (a.tmps.setIfInBounds d u).size = N; simp [h.size]
  · cases dst <;> exact h.defers
  · rcases k.from_ b hb with h1 | h1 | h1
    · exact h.s1 b h1
    · rcases hl b h1 with h2 | h2
      · exact .inr (.inl h2)
      · exact .inr (.inr h2)
    · exact .inr (.inr (Nat.le_trans h.fr.size h1))
  · rcases k.own id blk hb with h1 | h1
    · exact hl _ h1
    · exact .inr (Nat.le_trans h.fr.size h1)
  · refine h.fr.trans k.fr fun b hb h1 => ?_
    rcases hl b h1 with h2 | h2
    · exact h2
    · omega

end Go.AM
