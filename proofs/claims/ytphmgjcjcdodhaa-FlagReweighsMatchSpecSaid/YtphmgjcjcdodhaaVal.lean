/-
  Values as data: their cells, their bulk, how a reading gives one.
-/
import Derived.Test.YtphmgjcjcdodhaaRule1
namespace Go.Proofs.Ytphmgjcjcdodhaa
open Go.RowKit Go.AM

inductive Val where
  | mk (kind n : Int) (s : List UInt8) (items : List Val) (fields : List (List UInt8 × Val))
namespace Val
def kind : Val → Int | .mk k _ _ _ _ => k
def n : Val → Int | .mk _ n _ _ _ => n
def s : Val → List UInt8 | .mk _ _ s _ _ => s
def items : Val → List Val | .mk _ _ _ l _ => l
def fields : Val → List (List UInt8 × Val) | .mk _ _ _ _ l => l
end Val
theorem Val.ind {P : Val → Prop} (h : ∀ k n s is fs, (∀ x ∈ is, P x) → (∀ f ∈ fs, P f.2) → P (.mk k n s is fs)) (v : Val) : P v :=
  Val.rec (motive_1 := P) (motive_2 := fun l => ∀ x ∈ l, P x) (motive_3 := fun l => ∀ f ∈ l, P f.2) (motive_4 := fun f => P f.2) (fun k n s is fs h1 h2 => h k n s is fs h1 h2)
    (by simp) (fun x l hx hl y hy => by rcases List.mem_cons.1 hy with rfl | hy; (first | exact hx | exact hl y hy); (first | exact hx | exact hl y hy)) (by simp) (fun x l hx hl y hy => by rcases List.mem_cons.1 hy with rfl | hy; (first | exact hx | exact hl y hy); (first | exact hx | exact hl y hy)) (fun a v hv => hv) v

mutual
/-- A value's five cells. -/
def Val.enc : Val → List PV
  | .mk k n s is fs => [int k, int n, str s, .sl 5 (encVs is), .sl 6 (encFs fs)]
def encVs : List Val → List (List PV)
  | [] => []
  | v :: l => v.enc :: encVs l
def encFs : List (List UInt8 × Val) → List (List PV)
  | [] => []
  | (a, v) :: l => (str a :: v.enc) :: encFs l
end
abbrev encF (f : List UInt8 × Val) : List PV := str f.1 :: f.2.enc
theorem encVs_map : ∀ l : List Val, encVs l = l.map Val.enc
  | [] => rfl
  | v :: l => by simp [encVs, encVs_map l]
theorem encFs_map : ∀ l : List (List UInt8 × Val), encFs l = l.map encF
  | [] => rfl
  | (a, v) :: l => by simp [encFs, encFs_map l]
theorem enc_eq (v : Val) : v.enc = [int v.kind, int v.n, str v.s, .sl 5 (v.items.map Val.enc), .sl 6 (v.fields.map encF)] := by
  cases v with
  | mk k n s is fs => simp [Val.enc, encVs_map, encFs_map, Val.kind, Val.n, Val.s, Val.items, Val.fields]
@[simp] theorem enc_length (v : Val) : v.enc.length = 5 := by rw [enc_eq]; rfl

@[simp] theorem enc_cells (v : Val) : v.enc.all PV.isCell = true := by rw [enc_eq]; rfl
@[simp] theorem enc_cells' (v : Val) : (∀ x, x ∈ v.enc → PV.isCell x = true) = True := by
  have := enc_cells v
  rw [List.all_eq_true] at this
  exact eq_true this
@[simp] theorem enc_take (v : Val) : v.enc.take 5 = v.enc := List.take_of_length_le (by simp)
@[simp] theorem enc_0 (v : Val) (h : 0 < v.enc.length) : v.enc[0] = int v.kind := by simp [enc_eq v]
@[simp] theorem enc_1 (v : Val) (h : 1 < v.enc.length) : v.enc[1] = int v.n := by simp [enc_eq v]
@[simp] theorem enc_2 (v : Val) (h : 2 < v.enc.length) : v.enc[2] = str v.s := by simp [enc_eq v]
@[simp] theorem enc_3 (v : Val) (h : 3 < v.enc.length) : v.enc[3] = .sl 5 (v.items.map Val.enc) := by simp [enc_eq v]
@[simp] theorem enc_4 (v : Val) (h : 4 < v.enc.length) : v.enc[4] = .sl 6 (v.fields.map encF) := by simp [enc_eq v]
theorem map_inj_on {α β : Type} {f : α → β} : ∀ {xs ys : List α}, (∀ x ∈ xs, ∀ y, f x = f y → x = y) → xs.map f = ys.map f → xs = ys
  | [], [], _, _ => rfl
  | [], y :: ys, _, e => by simp at e
  | x :: xs, [], _, e => by simp at e
  | x :: xs, y :: ys, h, e => by
    simp only [List.map_cons, List.cons.injEq] at e
    rw [h x (by simp) y e.1, map_inj_on (fun z hz => h z (by simp [hz])) e.2]
theorem enc_inj : ∀ {a b : Val}, a.enc = b.enc → a = b := by
  intro a
  induction a using Val.ind with
  | h k n s is fs h1 h2 =>
    intro b e
    cases b with
    | mk k' n' s' is' fs' =>
      simp only [enc_eq, Val.kind, Val.n, Val.s, Val.items, Val.fields, List.cons.injEq, and_true] at e
      obtain ⟨e1, e2, e3, e4, e5⟩ := e
      obtain rfl := pint_inj e1
      obtain rfl := pint_inj e2
      obtain rfl := str_inj e3
      injection e4 with _ e4
      injection e5 with _ e5
      obtain rfl := map_inj_on (fun x hx y => h1 x hx) e4
      obtain rfl := map_inj_on (fun x hx y e => by
        simp only [encF, List.cons.injEq] at e
        exact Prod.ext (str_inj e.1) (h2 x hx e.2)) e5
      rfl

mutual
/-- How much a value holds. -/
def Val.vb : Val → Nat
  | .mk _ _ s is fs => 1 + s.length + vbs is + fbs fs
def vbs : List Val → Nat
  | [] => 0
  | v :: l => v.vb + vbs l
def fbs : List (List UInt8 × Val) → Nat
  | [] => 0
  | (a, v) :: l => a.length + v.vb + fbs l
end
theorem vb_eq (v : Val) : v.vb = 1 + v.s.length + vbs v.items + fbs v.fields := by cases v; rfl
theorem vb_pos (v : Val) : 0 < v.vb := by rw [vb_eq]; omega
theorem vbs_mem : ∀ {l : List Val} {x : Val}, x ∈ l → x.vb ≤ vbs l
  | y :: l, x, h => by
    simp only [vbs]
    rcases List.mem_cons.1 h with rfl | h
    · omega
    · have := vbs_mem h; omega
theorem fbs_mem : ∀ {l : List (List UInt8 × Val)} {x : List UInt8 × Val}, x ∈ l → x.1.length + x.2.vb ≤ fbs l
  | (a, y) :: l, x, h => by
    simp only [fbs]
    rcases List.mem_cons.1 h with rfl | h
    · simp only; omega
    · have := fbs_mem h; omega
theorem vbs_length : ∀ l : List Val, l.length ≤ vbs l
  | [] => by simp [vbs]
  | v :: l => by have := vbs_length l; have := vb_pos v; simp only [vbs, List.length_cons]; omega
theorem fbs_length : ∀ l : List (List UInt8 × Val), l.length ≤ fbs l
  | [] => by simp [fbs]
  | (a, v) :: l => by have := fbs_length l; have := vb_pos v; simp only [fbs, List.length_cons]; omega
theorem vbs_drop : ∀ (l : List Val) (k : Nat), vbs (l.drop k) ≤ vbs l
  | [], k => by simp
  | v :: l, 0 => by simp
  | v :: l, k + 1 => by have := vbs_drop l k; simp only [List.drop_succ_cons, vbs]; omega

/-- A function of a value. -/
noncomputable def FV (out : Val → PV) (n : Nat) : List PV → Option PV := specOf (α := Val) (fun v => [.agg v.enc]) (fun v => v.vb ≤ lim ∧ v.vb ≤ n) out
theorem FV_eq (out : Val → PV) (n : Nat) (v : Val) (h : v.vb ≤ lim ∧ v.vb ≤ n) : FV out n [.agg v.enc] = some (out v) :=
  specOf_eq (enc := fun v : Val => [.agg v.enc]) (a := v) (fun a b e => by simp only [List.cons.injEq, and_true, PV.agg.injEq] at e; exact enc_inj e) h
@[simp] theorem freezeCells_enc (hp : Hp) (v : Val) : freezeCells hp v.enc = some (v.enc, hp) := by rw [enc_eq]; simp
theorem freeze_enc (hp : Hp) (v : Val) : freezeVal hp (.agg v.enc) = some (.agg v.enc, hp) := by
  rw [enc_eq]
  simp
theorem noOwn_enc (v : Val) : PV.noOwn (.agg v.enc) = true := by
  rw [enc_eq]
  simp
theorem FV_call (out : Val → PV) (n : Nat) (v : Val) (hp : Hp) (nx : Nat) (h : v.vb ≤ lim ∧ v.vb ≤ n) : hPure false [] (FV out n) [.agg v.enc] hp nx = some (out v, hp, nx) :=
  hPure_v (hp1 := hp) (show freezeVals hp [.agg v.enc] = some ([.agg v.enc], hp) by simp only [freezeVals, freeze_enc]) (FV_eq out n v h) (.inr (by simp only [List.all_cons, noOwn_enc, List.all_nil, Bool.and_self]))

mutual
def Val.parts : Val → Nat
  | .mk _ _ _ is fs => 1 + partsV is + partsF fs
def partsV : List Val → Nat
  | [] => 0
  | v :: l => v.parts + partsV l
def partsF : List (List UInt8 × Val) → Nat
  | [] => 0
  | (_, v) :: l => v.parts + partsF l
end
mutual
def Val.levels : Val → Nat
  | .mk _ _ _ is fs => max (levelsV is) (levelsF fs) + 1
def levelsV : List Val → Nat
  | [] => 0
  | v :: l => max v.levels (levelsV l)
def levelsF : List (List UInt8 × Val) → Nat
  | [] => 0
  | (_, v) :: l => max v.levels (levelsF l)
end
theorem parts_eq (v : Val) : v.parts = 1 + partsV v.items + partsF v.fields := by cases v; rfl
theorem levels_eq (v : Val) : v.levels = max (levelsV v.items) (levelsF v.fields) + 1 := by cases v; rfl
theorem parts_le (v : Val) : v.parts ≤ v.vb := by
  induction v using Val.ind with
  | h k n s is fs h1 h2 =>
    have a : ∀ l : List Val, (∀ x ∈ l, x.parts ≤ x.vb) → partsV l ≤ vbs l := by
      intro l
      induction l with
      | nil => simp [partsV]
      | cons v l ih => intro h; have := h v (by simp); have := ih fun x hx => h x (by simp [hx]); simp only [partsV, vbs]; omega
    have b : ∀ l : List (List UInt8 × Val), (∀ x ∈ l, x.2.parts ≤ x.2.vb) → partsF l ≤ fbs l := by
      intro l
      induction l with
      | nil => simp [partsF]
      | cons v l ih => intro h; have := h v (by simp); have := ih fun x hx => h x (by simp [hx]); obtain ⟨a, v⟩ := v; simp only [partsF, fbs]; simp only at *; omega
    have := a is h1
    have := b fs h2
    simp only [Val.parts, Val.vb]
    omega
theorem levels_le (v : Val) : v.levels ≤ v.parts := by
  induction v using Val.ind with
  | h k n s is fs h1 h2 =>
    have a : ∀ l : List Val, (∀ x ∈ l, x.levels ≤ x.parts) → levelsV l ≤ partsV l := by
      intro l
      induction l with
      | nil => simp [levelsV]
      | cons v l ih => intro h; have := h v (by simp); have := ih fun x hx => h x (by simp [hx]); simp only [levelsV, partsV]; omega
    have b : ∀ l : List (List UInt8 × Val), (∀ x ∈ l, x.2.levels ≤ x.2.parts) → levelsF l ≤ partsF l := by
      intro l
      induction l with
      | nil => simp [levelsF]
      | cons v l ih => intro h; have := h v (by simp); have := ih fun x hx => h x (by simp [hx]); obtain ⟨a, v⟩ := v; simp only [levelsF, partsF]; simp only at *; omega
    have := a is h1
    have := b fs h2
    simp only [Val.parts, Val.levels]
    omega

/-! ### value.count -/
noncomputable abbrev Cc (n : Nat) : Ctx := mkCtxD Try.prog [(81, hPure false [] (FV (fun v => .tup [int v.parts, int v.levels]) n))] (dynAt 2 [(2, 1)])
theorem evalFunc_eq {C : Ctx} {fn : Func} {code : Code} {args : List PV} {hp : Hp} {nx : Nat} {x : PV} {hp' : Hp} {nx' : Nat} (hb : fn.body = some code)
    (h : EvC C code ⟨startσ args, hp, nx⟩ (retK C.P fn (fun y h m => y = x ∧ h = hp' ∧ m = nx'))) : evalFunc C fn args hp nx = some (x, hp', nx') := by
  obtain ⟨y, h1, n1, he, rfl, rfl, rfl⟩ := evalFunc_of hb h
  exact he
set_option maxRecDepth 4000 in
theorem count1_run (n : Nat) (v : Val) (h : v.vb ≤ lim ∧ v.vb ≤ n) (hp : Hp) (nx i j : Nat) (hi : i < nx) (hj : j < nx) (hij : i ≠ j) (p q : Nat) (hpi : hp i = some ⟨3, 1, false, [[int p]]⟩) (hpj : hp j = some ⟨3, 1, false, [[int q]]⟩) (hpb : p ≤ lim) :
    hRun (Cc n) Try.f103 [.agg v.enc, .ref i 0 0, .ref j 0 0] hp nx =
      some (.tup [], upd (upd (upd hp nx (some ⟨28, 5, false, [v.enc]⟩)) i (some ⟨3, 1, false, [[int ((p + v.parts : Nat) : Int)]]⟩)) j (some ⟨3, 1, false, [[int ((max q v.levels : Nat) : Int)]]⟩), nx + 1) := by
  have hpl := parts_le v
  have hll := levels_le v
  unfold lim at *
  have w1 : IntKind.i64.wrap ((p : Int) + v.parts) = (p : Int) + v.parts := wrap_fit (by omega) (by omega)
  unfold hRun
  rw [if_pos (by simp [Try.f103])]
  refine evalFunc_eq rfl ?_
  have hcall := fun hp nx => FV_call (fun v => .tup [int v.parts, int v.levels]) n v hp nx h
  have e1 : ¬ i = nx := by omega
  have e2 : ¬ j = nx := by omega
  have e3 : ¬ j = i := by omega
  have e4 : (if q < v.levels then (v.levels : Int) else q) = ((max q v.levels : Nat) : Int) := by split <;> omega
  simp [hcall]
  rw [EvC_region' _ _ _ _ _ _ (apartA_one (blk := ⟨3, 1, false, [[int p]]⟩) (id := j) (i := 0) (j := 0) (id' := i) (i' := 0) (j' := 0) (by simp) (by simp) (Ne.symm hij) (by simp [e1, hpi]) rfl) (fun _ h => by cases h)]
  simp [hpi, hpj, e1, e2, e3, hij, w1, e4, Try.f103]

theorem partsV_append (a b : List Val) : partsV (a ++ b) = partsV a + partsV b := by
  induction a with
  | nil => simp [partsV]
  | cons v a ih => simp only [List.cons_append, partsV, ih]; omega
theorem levelsV_append (a b : List Val) : levelsV (a ++ b) = max (levelsV a) (levelsV b) := by
  induction a with
  | nil => simp [levelsV]
  | cons v a ih => simp only [List.cons_append, levelsV, ih]; omega
theorem partsF_append (a b : List (List UInt8 × Val)) : partsF (a ++ b) = partsF a + partsF b := by
  induction a with
  | nil => simp [partsF]
  | cons v a ih => obtain ⟨x, v⟩ := v; simp only [List.cons_append, partsF, ih]; omega
theorem levelsF_append (a b : List (List UInt8 × Val)) : levelsF (a ++ b) = max (levelsF a) (levelsF b) := by
  induction a with
  | nil => simp [levelsF]
  | cons v a ih => obtain ⟨x, v⟩ := v; simp only [List.cons_append, levelsF, ih]; omega
theorem takeV {l : List Val} {k : Nat} (h : k < l.length) : partsV (l.take (k + 1)) = partsV (l.take k) + l[k].parts ∧ levelsV (l.take (k + 1)) = max (levelsV (l.take k)) l[k].levels := by
  rw [List.take_succ_eq_append_getElem h, partsV_append, levelsV_append]
  simp [partsV, levelsV]
theorem takeF {l : List (List UInt8 × Val)} {k : Nat} (h : k < l.length) : partsF (l.take (k + 1)) = partsF (l.take k) + l[k].2.parts ∧ levelsF (l.take (k + 1)) = max (levelsF (l.take k)) l[k].2.levels := by
  rw [List.take_succ_eq_append_getElem h, partsF_append, levelsF_append]
  simp [partsF, levelsF]
theorem partsV_le (l : List Val) (k : Nat) : partsV (l.take k) ≤ partsV l := by
  have := partsV_append (l.take k) (l.drop k)
  rw [List.take_append_drop] at this
  omega
theorem partsF_le (l : List (List UInt8 × Val)) (k : Nat) : partsF (l.take k) ≤ partsF l := by
  have := partsF_append (l.take k) (l.drop k)
  rw [List.take_append_drop] at this
  omega

noncomputable abbrev Cd (n : Nat) : Ctx := mkCtxD Try.prog [(103, hRun (Cc n) Try.f103)] (dynAt 13 [(3, 2)])
set_option maxRecDepth 4000 in
theorem count_eval (n : Nat) (v : Val) (h : v.vb ≤ lim ∧ v.vb ≤ n + 1) : evalPure (Cd n) Try.f81 [.agg v.enc] = some (.tup [int v.parts, int v.levels]) := by
  have hpl := parts_le v
  have hpe := parts_eq v
  have hvb := vb_eq v
  have hle := levels_eq v
  have hl1 := vbs_length v.items
  have hl2 := fbs_length v.fields
  obtain ⟨ha, hb⟩ := h
  unfold lim at ha
  refine evalPure_of rfl ?_
  simp
  refine EvC_for (fun k σ hp nx => σ 1 = .ref 0 0 0 ∧ σ 2 = .ref 1 0 0 ∧ σ 3 = .ref 2 0 0 ∧ σ 4 = .fn (.func 103) [] [.ref 1 0 0, .ref 2 0 0] ∧ σ 11 = .sl 5 (v.items.map Val.enc) ∧ σ 12 = int v.items.length ∧ σ 13 = int k ∧ 3 ≤ nx ∧ hp 0 = some ⟨28, 5, false, [v.enc]⟩ ∧
      hp 1 = some ⟨3, 1, false, [[int ((1 + partsV (v.items.take k) : Nat) : Int)]]⟩ ∧ hp 2 = some ⟨3, 1, false, [[int (levelsV (v.items.take k))]]⟩) v.items.length
    ⟨by simp, by simp, by simp, by simp, by simp, by simp, by simp, by simp, by simp, by simp [partsV], by simp [levelsV]⟩ ?_
  rintro k σ hp nx hk ⟨h1, h2, h3, h4, h11, h12, h13, hnx, b0, b1, b2⟩
  by_cases hlt : k < v.items.length
  · obtain ⟨t1, t2⟩ := takeV hlt
    have hm := vbs_mem (List.getElem_mem hlt)
    have hw : IntKind.i64.wrap ((k : Int) + 1) = (k : Int) + 1 := wrap_fit (by omega) (by omega)
    have hple := partsV_le v.items k
    have hrun := count1_run n v.items[k] ⟨by unfold lim; omega, by omega⟩ (upd hp nx (some ⟨28, 5, false, [v.items[k].enc]⟩)) (nx + 1) 1 2 (by omega) (by omega) (by omega) _ _ (by rw [upd_miss _ _ _ _ (by omega)]; exact b1) (by rw [upd_miss _ _ _ _ (by omega)]; exact b2) (by unfold lim; omega)
    simp [h1, h2, h3, h4, h11, h12, h13, hlt, hrun, hw]
    refine ⟨hlt, by omega, ?_, ?_, ?_⟩
    · simp [b0, show ¬ 0 = nx by omega, show ¬ 0 = nx + 1 by omega]
    · rw [t1]; omega
    · rw [t2]
  · obtain rfl : k = v.items.length := by omega
    rw [List.take_length] at b1 b2
    simp [h1, h2, h3, h4, h11, h12, h13, b0]
    refine EvC_for (fun k σ hp nx => σ 1 = .ref 0 0 0 ∧ σ 2 = .ref 1 0 0 ∧ σ 3 = .ref 2 0 0 ∧ σ 4 = .fn (.func 103) [] [.ref 1 0 0, .ref 2 0 0] ∧ σ 22 = .sl 6 (v.fields.map encF) ∧ σ 23 = int v.fields.length ∧ σ 24 = int k ∧ 3 ≤ nx ∧
        hp 1 = some ⟨3, 1, false, [[int ((1 + partsV v.items + partsF (v.fields.take k) : Nat) : Int)]]⟩ ∧ hp 2 = some ⟨3, 1, false, [[int ((max (levelsV v.items) (levelsF (v.fields.take k)) : Nat) : Int)]]⟩) v.fields.length
      ⟨by simp [h1], by simp [h2], by simp [h3], by simp [h4], by simp, by simp, by simp, hnx, by simp [b1, partsF], by simp [b2, levelsF]⟩ ?_
    clear h1 h2 h3 h4 h11 h12 h13 hnx b0 b1 b2 hlt hk nx hp σ
    rintro k σ hp nx hk ⟨h1, h2, h3, h4, h11, h12, h13, hnx, b1, b2⟩
    by_cases hlt : k < v.fields.length
    · obtain ⟨t1, t2⟩ := takeF hlt
      have hm := fbs_mem (List.getElem_mem hlt)
      have hw : IntKind.i64.wrap ((k : Int) + 1) = (k : Int) + 1 := wrap_fit (by omega) (by omega)
      have hple := partsF_le v.fields k
      have hrun := count1_run n v.fields[k].2 ⟨by unfold lim; omega, by omega⟩ (upd hp nx (some ⟨99, 6, false, [encF v.fields[k]]⟩)) (nx + 1) 1 2 (by omega) (by omega) (by omega) _ _ (by rw [upd_miss _ _ _ _ (by omega)]; exact b1) (by rw [upd_miss _ _ _ _ (by omega)]; exact b2) (by unfold lim; omega)
      simp [encF] at hrun
      simp [h1, h2, h3, h4, h11, h12, h13, hlt, hw, hrun]
      refine ⟨hlt, by omega, ?_, ?_⟩
      · rw [t1]; omega
      · rw [t2]
    · obtain rfl : k = v.fields.length := by omega
      rw [List.take_length] at b1 b2
      have hll := levels_le v
      have hw : IntKind.i64.wrap (((max (levelsV v.items) (levelsF v.fields) : Nat) : Int) + 1) = (v.levels : Int) := by rw [wrap_fit (by omega) (by omega), hle]; omega
      simp [h1, h2, h3, h4, h11, h12, h13]
      rw [EvC_region' _ _ _ _ _ _ (apartA_one (id := 2) (i := 0) (j := 0) (id' := 1) (i' := 0) (j' := 0) (by simp [h3]) (by simp [h2]) (by omega) (by exact b1) rfl) (fun _ h => by cases h)]
      simp [h1, h2, h3, b1, b2, hw, Try.f81, pureR]
      omega

theorem FV_inv {out : Val → PV} {n : Nat} {args : List PV} {r : PV} (h : FV out n args = some r) : ∃ v : Val, args = [.agg v.enc] ∧ (v.vb ≤ lim ∧ v.vb ≤ n) ∧ r = out v := specOf_inv h
theorem FV_none {out : Val → PV} : ∀ args r, FV out 0 args = some r → False := fun args r h => by
  obtain ⟨v, rfl, hv, rfl⟩ := FV_inv h
  have := vb_pos v
  omega
/-- Nothing is said. -/
theorem FV_zero {out : Val → PV} {f : FuncId} (hfn : ∃ fn, Try.prog.funcs[f]? = some fn ∧ (fn.name == "runtime.NumGoroutine") = false ∧ fn.body.isNone = false) : SpecSound Try.prog f (hPure false [] (FV out 0)) := by
  refine ⟨hfn, fun args hp nx r hp' nx' h => ?_⟩
  unfold hPure at h
  split at h
  · split at h
    · rename_i r0 hF
      exact (FV_none _ _ hF).elim
    · cases h
  · cases h
set_option maxRecDepth 100000 in
theorem count_sound : ∀ n, SpecSound Try.prog 81 (hPure false [] (FV (fun v => .tup [int v.parts, int v.levels]) n)) := by
  intro n
  induction n with
  | zero => exact FV_zero ⟨_, Try.func81, by kernel_rfl, by kernel_rfl⟩
  | succ n ih =>
    have hc : AM.Good (Cc n) (fun g => ([] : List Nat).contains g) := good_ofD _ mixed ⟨ih, by simp, trivial⟩
    have h1 : SpecSound Try.prog 103 (hRun (Cc n) Try.f103) := hRun_sound (code := _) hc ⟨Try.func103, by kernel_rfl, rfl, by kernel_rfl⟩
    have hd : AM.Good (Cd n) (fun g => ([] : List Nat).contains g) := good_ofD _ mixed ⟨h1, by simp, trivial⟩
    exact pureS (fn := Try.f81) hd ⟨_, Try.func81, by kernel_rfl, rfl, by kernel_rfl⟩ false [] _ fun args r h => by
      obtain ⟨v, rfl, hv, rfl⟩ := FV_inv h
      exact ⟨Nat.le_trans (Nat.le_refl 1) (by decide), _, count_eval n v hv, up_of _⟩
/-- A function of a value, whatever its bulk up to the bound. -/
noncomputable abbrev GV (out : Val → PV) : AM.Spec := hPure false [] (FV out lim)
theorem GV_call (out : Val → PV) (v : Val) (hp : Hp) (nx : Nat) (h : v.vb ≤ lim) : GV out [.agg v.enc] hp nx = some (out v, hp, nx) := FV_call out lim v hp nx ⟨h, h⟩
end Go.Proofs.Ytphmgjcjcdodhaa
