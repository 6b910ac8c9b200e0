/-
  Names, keys and texts: what the program's and the reference's functions on bytes compute.
-/
import Derived.Test.YtphmgjcjcdodhaaAm24
import Derived.Test.YtphmgjcjcdodhaaFacts
import Derived.Test.YtphmgjcjcdodhaaShelf
namespace Go.Proofs.Ytphmgjcjcdodhaa
open Go.RowKit Go.AM

abbrev int (n : Int) : PV := .v (.int .i64 n)
abbrev boo (b : Bool) : PV := .v (.bool b)
abbrev byte (c : UInt8) : PV := .v (.int .u8 c.toNat)
abbrev lim : Nat := 1048576
theorem mixed : Try.prog.follows .mixedOrders = true := by kernel_rfl
noncomputable abbrev C0 : Ctx := mkCtx Try.prog []
theorem good0 : AM.Good C0 (fun g => ([] : List Nat).contains g) := good_of mixed trivial

/-- Three numbers. -/
def F3 (f : Int → Int → Int → Bool) : List PV → Option PV
  | [.v (.int .i64 a), .v (.int .i64 b), .v (.int .i64 c)] => some (.v (.bool (f a b c)))
  | _ => none
def F1b (f : Int → Bool) : List PV → Option PV
  | [.v (.int .u8 a)] => some (.v (.bool (f a)))
  | _ => none
def inB (n a b : Int) : Bool := decide (a ≤ n) && decide (n ≤ b)
def wordB (n : Int) : Bool := decide (97 ≤ n) && decide (n ≤ 122) || decide (48 ≤ n) && decide (n ≤ 57) || n == 45 || n == 95
@[simp] theorem F3_call (f : Int → Int → Int → Bool) (a b c : Int) (hp : Hp) (nx : Nat) : hPure false [] (F3 f) [.v (.int .i64 a), .v (.int .i64 b), .v (.int .i64 c)] hp nx = some (.v (.bool (f a b c)), hp, nx) := hPure_v rfl rfl (.inl rfl)
@[simp] theorem F1b_call (f : Int → Bool) (a : Int) (hp : Hp) (nx : Nat) : hPure false [] (F1b f) [.v (.int .u8 a)] hp nx = some (.v (.bool (f a)), hp, nx) := hPure_v rfl rfl (.inl rfl)
theorem F3_inv {f : Int → Int → Int → Bool} {args : List PV} {r : PV} (h : F3 f args = some r) : ∃ a b c, args = [int a, int b, int c] ∧ r = boo (f a b c) := by
  unfold F3 at h
  split at h
  · injection h with h; exact ⟨_, _, _, rfl, h.symm⟩
  · cases h
theorem F1b_inv {f : Int → Bool} {args : List PV} {r : PV} (h : F1b f args = some r) : ∃ a, args = [.v (.int .u8 a)] ∧ r = boo (f a) := by
  unfold F1b at h
  split at h
  · injection h with h; exact ⟨_, rfl, h.symm⟩
  · cases h

theorem within_sound : SpecSound Try.prog 73 (hPure false [] (F3 inB)) :=
  pureS (fn := Try.f73) good0 ⟨_, Try.func73, by kernel_rfl, rfl, by kernel_rfl⟩ false [] _ fun args r h => by
    obtain ⟨a, b, c, rfl, rfl⟩ := F3_inv h
    exact ⟨by simp [Try.f73], _, evalPure_of rfl (by simp [Try.f73, inB]), up_of _⟩
theorem rWithin_sound : SpecSound Try.prog 108 (hPure false [] (F3 inB)) :=
  pureS (fn := Try.f108) good0 ⟨_, Try.func108, by kernel_rfl, rfl, by kernel_rfl⟩ false [] _ fun args r h => by
    obtain ⟨a, b, c, rfl, rfl⟩ := F3_inv h
    exact ⟨by simp [Try.f108], _, evalPure_of rfl (by simp [Try.f108, inB]), up_of _⟩
set_option maxRecDepth 4000 in
theorem isWord_sound : SpecSound Try.prog 74 (hPure false [] (F1b wordB)) :=
  pureS (fn := Try.f74) good0 ⟨_, Try.func74, by kernel_rfl, rfl, by kernel_rfl⟩ false [] _ fun args r h => by
    obtain ⟨a, rfl, rfl⟩ := F1b_inv h
    exact ⟨by simp [Try.f74], _, evalPure_of rfl (by simp [Try.f74, wordB]), up_of _⟩
set_option maxRecDepth 4000 in
theorem wordByte_sound : SpecSound Try.prog 102 (hPure false [] (F1b wordB)) :=
  pureS (fn := Try.f102) good0 ⟨_, Try.func102, by kernel_rfl, rfl, by kernel_rfl⟩ false [] _ fun args r h => by
    obtain ⟨a, rfl, rfl⟩ := F1b_inv h
    exact ⟨by simp [Try.f102], _, evalPure_of rfl (by simp [Try.f102, wordB]), up_of _⟩

/-- One text, of no more than lim bytes. -/
noncomputable def FS (f : List UInt8 → Bool) : List PV → Option PV := specOf (α := List UInt8) (fun l => [str l]) (fun l => l.length ≤ lim) (fun l => boo (f l))
@[simp] theorem FS_call (f : List UInt8 → Bool) (l : List UInt8) (hp : Hp) (nx : Nat) (h : l.length ≤ lim) : hPure false [] (FS f) [str l] hp nx = some (boo (f l), hp, nx) :=
  hPure_v rfl (specOf_eq (enc := fun l : List UInt8 => [str l]) (a := l) (fun a b e => by simp only [List.cons.injEq, and_true] at e; exact str_inj e) h) (.inl rfl)
def pr (a b : Nat) (c : UInt8) : Bool := decide (a ≤ c.toNat) && decide (c.toNat ≤ b)
theorem pr_out (a b : Nat) (c : UInt8) : (decide ((c.toNat : Int) < a) || decide ((b : Int) < c.toNat)) = !pr a b c := by
  rw [Bool.eq_iff_iff]; simp [pr]
def bytesIn (a b : Nat) (l : List UInt8) : Bool := l.all (pr a b)
def isKeyB (l : List UInt8) : Bool := bytesIn 33 126 l && inB l.length 1 100
def seenB (l : List UInt8) : Bool := bytesIn 33 126 l && !(l == [])
def wordsB (l : List UInt8) : Bool := l.all fun c => wordB c.toNat
def wordsB1 (l : List UInt8) : Bool := wordsB l && !(l == [])
/-- The first byte is a small letter. -/
def headB : List UInt8 → Bool
  | [] => false
  | c :: _ => decide ((97 : Int) ≤ c.toNat) && decide ((c.toNat : Int) ≤ (122 : Int))
def isNameB (l : List UInt8) : Bool := inB l.length 1 40 && headB l && wordsB l

noncomputable abbrev C1 : Ctx := mkCtx Try.prog [(73, hPure false [] (F3 inB)), (74, hPure false [] (F1b wordB)), (108, hPure false [] (F3 inB)), (102, hPure false [] (F1b wordB))]
abbrev q1 : List Nat := [73, 74, 108, 102]
theorem good1 : AM.Good C1 (fun g => q1.contains g) := good_of mixed ⟨within_sound, fun _ => hPure_quiet _ _, isWord_sound, fun _ => hPure_quiet _ _, rWithin_sound, fun _ => hPure_quiet _ _, wordByte_sound, fun _ => hPure_quiet _ _, trivial⟩

theorem all_drop {l : List UInt8} {p : UInt8 → Bool} {k : Nat} (h : k < l.length) : (l.drop k).all p = (p l[k] && (l.drop (k + 1)).all p) := by rw [List.drop_eq_getElem_cons h, List.all_cons]

theorem bytesIn_drop {a b : Nat} {l : List UInt8} {k : Nat} (h : k < l.length) : bytesIn a b (l.drop k) = (pr a b l[k] && bytesIn a b (l.drop (k + 1))) := all_drop h
theorem wordsB_drop {l : List UInt8} {k : Nat} (h : k < l.length) : wordsB (l.drop k) = (wordB l[k].toNat && wordsB (l.drop (k + 1))) := all_drop h
@[simp] theorem bytesIn_nil (a b : Nat) : bytesIn a b [] = true := rfl
@[simp] theorem wordsB_nil : wordsB [] = true := rfl

set_option maxRecDepth 4000 in
theorem seen_eval (l : List UInt8) (hl : l.length ≤ lim) : evalPure C1 Try.f105 [str l] = some (boo (bytesIn 32 126 l)) := by
  refine evalPure_of rfl ?_
  unfold lim at hl
  simp
  refine EvC_for (fun k σ hp nx => σ 0 = str l ∧ σ 5 = int l.length ∧ σ 6 = int k ∧ bytesIn 32 126 l = bytesIn 32 126 (l.drop k)) l.length ⟨by simp, by simp, by simp, by simp⟩ ?_
  rintro k σ hp nx hk ⟨h0, h5, h6, he⟩
  by_cases hlt : k < l.length
  · have hw : IntKind.i64.wrap ((k : Int) + 1) = (k : Int) + 1 := wrap_fit (by omega) (by omega)
    rw [bytesIn_drop hlt] at he
    have ho := pr_out 32 126 l[k]
    simp only [Int.cast_ofNat_Int] at ho
    cases hc : pr 32 126 l[k]
    · have he : bytesIn 32 126 l = false := by rw [he, hc]; rfl
      simp [h0, h5, h6, hlt, he, ho, hc, Try.f105]
    · simp [h0, h5, h6, hlt, ho, hc, hw]
      exact ⟨hlt, by rw [he, hc]; rfl⟩
  · obtain rfl : k = l.length := by omega
    have he : bytesIn 32 126 l = true := by rw [he, List.drop_length]; rfl
    simp [h0, h5, h6, he, Try.f105]
set_option maxRecDepth 4000 in
theorem printable_eval (l : List UInt8) (hl : l.length ≤ lim) : evalPure C1 Try.f109 [str l] = some (boo (bytesIn 32 126 l)) := by
  refine evalPure_of rfl ?_
  unfold lim at hl
  simp
  refine EvC_for (fun k σ hp nx => σ 0 = str l ∧ σ 5 = int l.length ∧ σ 6 = int k ∧ bytesIn 32 126 l = bytesIn 32 126 (l.drop k)) l.length ⟨by simp, by simp, by simp, by simp⟩ ?_
  rintro k σ hp nx hk ⟨h0, h5, h6, he⟩
  by_cases hlt : k < l.length
  · have hw : IntKind.i64.wrap ((k : Int) + 1) = (k : Int) + 1 := wrap_fit (by omega) (by omega)
    rw [bytesIn_drop hlt] at he
    have ho := pr_out 32 126 l[k]
    simp only [Int.cast_ofNat_Int] at ho
    cases hc : pr 32 126 l[k]
    · have he : bytesIn 32 126 l = false := by rw [he, hc]; rfl
      simp [h0, h5, h6, hlt, he, ho, hc, Try.f109]
    · simp [h0, h5, h6, hlt, ho, hc, hw]
      exact ⟨hlt, by rw [he, hc]; rfl⟩
  · obtain rfl : k = l.length := by omega
    have he : bytesIn 32 126 l = true := by rw [he, List.drop_length]; rfl
    simp [h0, h5, h6, he, Try.f109]
set_option maxRecDepth 4000 in
theorem isKey_eval (l : List UInt8) (hl : l.length ≤ lim) : evalPure C1 Try.f41 [str l] = some (boo (isKeyB l)) := by
  refine evalPure_of rfl ?_
  unfold lim at hl
  simp
  refine EvC_for (fun k σ hp nx => σ 0 = str l ∧ σ 5 = int l.length ∧ σ 6 = int k ∧ bytesIn 33 126 l = bytesIn 33 126 (l.drop k)) l.length ⟨by simp, by simp, by simp, by simp⟩ ?_
  rintro k σ hp nx hk ⟨h0, h5, h6, he⟩
  by_cases hlt : k < l.length
  · have hw : IntKind.i64.wrap ((k : Int) + 1) = (k : Int) + 1 := wrap_fit (by omega) (by omega)
    rw [bytesIn_drop hlt] at he
    have ho := pr_out 33 126 l[k]
    simp only [Int.cast_ofNat_Int] at ho
    cases hc : pr 33 126 l[k]
    · have he : bytesIn 33 126 l = false := by rw [he, hc]; rfl
      simp [h0, h5, h6, hlt, he, ho, hc, isKeyB, Try.f41]
    · simp [h0, h5, h6, hlt, ho, hc, hw]
      exact ⟨hlt, by rw [he, hc]; rfl⟩
  · obtain rfl : k = l.length := by omega
    have he : bytesIn 33 126 l = true := by rw [he, List.drop_length]; rfl
    simp [h0, h5, h6, he, isKeyB, Try.f41]
set_option maxRecDepth 4000 in
theorem rSeen_eval (l : List UInt8) (hl : l.length ≤ lim) : evalPure C1 Try.f83 [str l] = some (boo (seenB l)) := by
  refine evalPure_of rfl ?_
  unfold lim at hl
  simp
  refine EvC_for (fun k σ hp nx => σ 0 = str l ∧ σ 5 = int l.length ∧ σ 6 = int k ∧ bytesIn 33 126 l = bytesIn 33 126 (l.drop k)) l.length ⟨by simp, by simp, by simp, by simp⟩ ?_
  rintro k σ hp nx hk ⟨h0, h5, h6, he⟩
  by_cases hlt : k < l.length
  · have hw : IntKind.i64.wrap ((k : Int) + 1) = (k : Int) + 1 := wrap_fit (by omega) (by omega)
    rw [bytesIn_drop hlt] at he
    have ho := pr_out 33 126 l[k]
    simp only [Int.cast_ofNat_Int] at ho
    cases hc : pr 33 126 l[k]
    · have he : bytesIn 33 126 l = false := by rw [he, hc]; rfl
      simp [h0, h5, h6, hlt, he, ho, hc, seenB, Try.f83]
    · simp [h0, h5, h6, hlt, ho, hc, hw]
      exact ⟨hlt, by rw [he, hc]; rfl⟩
  · obtain rfl : k = l.length := by omega
    have he : bytesIn 33 126 l = true := by rw [he, List.drop_length]; rfl
    simp [h0, h5, h6, he, seenB, Try.f83]
set_option maxRecDepth 4000 in
theorem rIsWord_eval (l : List UInt8) (hl : l.length ≤ lim) : evalPure C1 Try.f80 [str l] = some (boo (wordsB1 l)) := by
  refine evalPure_of rfl ?_
  unfold lim at hl
  simp
  refine EvC_for (fun k σ hp nx => σ 0 = str l ∧ σ 5 = int l.length ∧ σ 6 = int k ∧ wordsB l = wordsB (l.drop k)) l.length ⟨by simp, by simp, by simp, by simp⟩ ?_
  rintro k σ hp nx hk ⟨h0, h5, h6, he⟩
  by_cases hlt : k < l.length
  · have hw : IntKind.i64.wrap ((k : Int) + 1) = (k : Int) + 1 := wrap_fit (by omega) (by omega)
    rw [wordsB_drop hlt] at he
    cases hc : wordB l[k].toNat
    · have he : wordsB l = false := by rw [he, hc]; rfl
      simp [h0, h5, h6, hlt, he, hc, wordsB1, Try.f80]
    · simp [h0, h5, h6, hlt, hc, hw]
      exact ⟨hlt, by rw [he, hc]; rfl⟩
  · obtain rfl : k = l.length := by omega
    have he : wordsB l = true := by rw [he, List.drop_length]; rfl
    simp [h0, h5, h6, he, wordsB1, Try.f80]
set_option maxRecDepth 4000 in
theorem isName_eval (l : List UInt8) (hl : l.length ≤ lim) : evalPure C1 Try.f36 [str l] = some (boo (isNameB l)) := by
  refine evalPure_of rfl ?_
  unfold lim at hl
  cases hn : inB l.length 1 40
  · simp [hn, isNameB, Try.f36]
  have hpos : 0 < l.length := by simp [inB] at hn; omega
  have hh : headB l = (decide ((97 : Int) ≤ l[0].toNat) && decide ((l[0].toNat : Int) ≤ (122 : Int))) := by
    cases l with
    | nil => simp at hpos
    | cons c l => rfl
  have hf : (decide ((l[0].toNat : Int) < (97 : Int)) || decide ((122 : Int) < l[0].toNat)) = !headB l := by rw [hh, Bool.eq_iff_iff]; simp
  cases hb : headB l
  · simp [hn, hpos, hf, hb, isNameB, Try.f36]
  simp [hn, hpos, hf, hb]
  refine EvC_for (fun k σ hp nx => σ 0 = str l ∧ σ 19 = int l.length ∧ σ 20 = int k ∧ wordsB l = wordsB (l.drop k)) l.length ⟨by simp, by simp, by simp, by simp⟩ ?_
  rintro k σ hp nx hk ⟨h0, h5, h6, he⟩
  by_cases hlt : k < l.length
  · have hw : IntKind.i64.wrap ((k : Int) + 1) = (k : Int) + 1 := wrap_fit (by omega) (by omega)
    rw [wordsB_drop hlt] at he
    cases hc : wordB l[k].toNat
    · have he : wordsB l = false := by rw [he, hc]; rfl
      simp [h0, h5, h6, hlt, he, hc, isNameB, Try.f36]
    · simp [h0, h5, h6, hlt, hc, hw]
      exact ⟨hlt, by rw [he, hc]; rfl⟩
  · obtain rfl : k = l.length := by omega
    have he : wordsB l = true := by rw [he, List.drop_length]; rfl
    simp [h0, h5, h6, he, hn, hb, isNameB, Try.f36]

theorem seen_sound : SpecSound Try.prog 105 (hPure false [] (FS (bytesIn 32 126))) :=
  pureS (fn := Try.f105) good1 ⟨_, Try.func105, by kernel_rfl, rfl, by kernel_rfl⟩ false [] _ fun args r h => by
    obtain ⟨l, rfl, hp, rfl⟩ := specOf_inv h
    exact ⟨by simp [Try.f105], _, seen_eval l hp, up_of _⟩
theorem printable_sound : SpecSound Try.prog 109 (hPure false [] (FS (bytesIn 32 126))) :=
  pureS (fn := Try.f109) good1 ⟨_, Try.func109, by kernel_rfl, rfl, by kernel_rfl⟩ false [] _ fun args r h => by
    obtain ⟨l, rfl, hp, rfl⟩ := specOf_inv h
    exact ⟨by simp [Try.f109], _, printable_eval l hp, up_of _⟩
theorem isKey_sound : SpecSound Try.prog 41 (hPure false [] (FS isKeyB)) :=
  pureS (fn := Try.f41) good1 ⟨_, Try.func41, by kernel_rfl, rfl, by kernel_rfl⟩ false [] _ fun args r h => by
    obtain ⟨l, rfl, hp, rfl⟩ := specOf_inv h
    exact ⟨by simp [Try.f41], _, isKey_eval l hp, up_of _⟩
theorem rSeen_sound : SpecSound Try.prog 83 (hPure false [] (FS seenB)) :=
  pureS (fn := Try.f83) good1 ⟨_, Try.func83, by kernel_rfl, rfl, by kernel_rfl⟩ false [] _ fun args r h => by
    obtain ⟨l, rfl, hp, rfl⟩ := specOf_inv h
    exact ⟨by simp [Try.f83], _, rSeen_eval l hp, up_of _⟩
theorem rIsWord_sound : SpecSound Try.prog 80 (hPure false [] (FS wordsB1)) :=
  pureS (fn := Try.f80) good1 ⟨_, Try.func80, by kernel_rfl, rfl, by kernel_rfl⟩ false [] _ fun args r h => by
    obtain ⟨l, rfl, hp, rfl⟩ := specOf_inv h
    exact ⟨by simp [Try.f80], _, rIsWord_eval l hp, up_of _⟩
theorem isName_sound : SpecSound Try.prog 36 (hPure false [] (FS isNameB)) :=
  pureS (fn := Try.f36) good1 ⟨_, Try.func36, by kernel_rfl, rfl, by kernel_rfl⟩ false [] _ fun args r h => by
    obtain ⟨l, rfl, hp, rfl⟩ := specOf_inv h
    exact ⟨by simp [Try.f36], _, isName_eval l hp, up_of _⟩
noncomputable abbrev C2 : Ctx := mkCtx Try.prog [(105, hPure false [] (FS (bytesIn 32 126))), (109, hPure false [] (FS (bytesIn 32 126))), (41, hPure false [] (FS isKeyB)), (83, hPure false [] (FS seenB)), (80, hPure false [] (FS wordsB1)), (36, hPure false [] (FS isNameB)), (73, hPure false [] (F3 inB)), (108, hPure false [] (F3 inB))]
abbrev q2 : List Nat := [105, 109, 41, 83, 80, 36, 73, 108]
theorem good2 : AM.Good C2 (fun g => q2.contains g) := good_of mixed ⟨seen_sound, fun _ => hPure_quiet _ _, printable_sound, fun _ => hPure_quiet _ _, isKey_sound, fun _ => hPure_quiet _ _, rSeen_sound, fun _ => hPure_quiet _ _, rIsWord_sound, fun _ => hPure_quiet _ _, isName_sound, fun _ => hPure_quiet _ _, within_sound, fun _ => hPure_quiet _ _, rWithin_sound, fun _ => hPure_quiet _ _, trivial⟩
@[simp] theorem quiet2_0 : QuietIn C2 105 := quietIn_of (by rfl) (hPure_quiet _ _)
@[simp] theorem quiet2_1 : QuietIn C2 109 := quietIn_of (by rfl) (hPure_quiet _ _)
@[simp] theorem quiet2_2 : QuietIn C2 41 := quietIn_of (by rfl) (hPure_quiet _ _)
@[simp] theorem quiet2_3 : QuietIn C2 83 := quietIn_of (by rfl) (hPure_quiet _ _)
@[simp] theorem quiet2_4 : QuietIn C2 80 := quietIn_of (by rfl) (hPure_quiet _ _)
@[simp] theorem quiet2_5 : QuietIn C2 36 := quietIn_of (by rfl) (hPure_quiet _ _)
@[simp] theorem quiet2_w : QuietIn C2 73 := quietIn_of (by rfl) (hPure_quiet _ _)
@[simp] theorem quiet2_W : QuietIn C2 108 := quietIn_of (by rfl) (hPure_quiet _ _)

theorem seenB_key (l : List UInt8) : (seenB l && decide ((l.length : Int) ≤ 100)) = isKeyB l := by
  cases l with
  | nil => rfl
  | cons c l => rw [Bool.eq_iff_iff]; simp [seenB, isKeyB, inB]; omega
set_option maxRecDepth 4000 in
theorem rIsKey_eval (l : List UInt8) (hl : l.length ≤ lim) : evalPure C2 Try.f43 [str l] = some (boo (isKeyB l)) := by
  refine evalPure_of rfl ?_
  simp [hl, Try.f43, seenB_key]
theorem wordsB1_name (l : List UInt8) (h : 0 < l.length) : (wordsB1 l && decide ((l.length : Int) ≤ 40) && decide ((97 : Int) ≤ l[0].toNat) && decide ((l[0].toNat : Int) ≤ (122 : Int))) = isNameB l := by
  cases l with
  | nil => simp at h
  | cons c l =>
    unfold wordsB1 isNameB
    generalize wordsB (c :: l) = w
    rw [Bool.eq_iff_iff]
    cases w <;> simp [inB, headB] <;> omega
set_option maxRecDepth 4000 in
theorem rIsName_eval (l : List UInt8) (hl : l.length ≤ lim) : evalPure C2 Try.f39 [str l] = some (boo (isNameB l)) := by
  refine evalPure_of rfl ?_
  cases l with
  | nil => simp [Try.f39, wordsB1, isNameB, headB]
  | cons c l =>
    have hpos : 0 < (c :: l).length := by simp
    have := wordsB1_name (c :: l) hpos
    generalize hm : c :: l = m at *
    simp [hl, hpos, Try.f39, this]
theorem rIsKey_sound : SpecSound Try.prog 43 (hPure false [] (FS isKeyB)) :=
  pureS (fn := Try.f43) good2 ⟨_, Try.func43, by kernel_rfl, rfl, by kernel_rfl⟩ false [] _ fun args r h => by
    obtain ⟨l, rfl, hp, rfl⟩ := specOf_inv h
    exact ⟨by simp [Try.f43], _, rIsKey_eval l hp, up_of _⟩
theorem rIsName_sound : SpecSound Try.prog 39 (hPure false [] (FS isNameB)) :=
  pureS (fn := Try.f39) good2 ⟨_, Try.func39, by kernel_rfl, rfl, by kernel_rfl⟩ false [] _ fun args r h => by
    obtain ⟨l, rfl, hp, rfl⟩ := specOf_inv h
    exact ⟨by simp [Try.f39], _, rIsName_eval l hp, up_of _⟩
end Go.Proofs.Ytphmgjcjcdodhaa
