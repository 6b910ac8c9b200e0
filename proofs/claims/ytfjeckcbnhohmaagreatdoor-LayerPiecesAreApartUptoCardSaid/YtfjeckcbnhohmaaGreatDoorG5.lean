/-
  The library's comparison of strings, off the kit's shelf, at this program (written after what the kit's tool prints).
  Names, keys and texts: what the program's and the reference's functions on bytes compute.
  Values as data: their cells, their bulk, how a reading gives one.
  value.Check: what it computes.
  Conditions as data: their cells.
-/
import Derived.Shelf.Small.Strs
import Derived.Shelf.Strconv.Itoa0
import Derived.Ground.Names2Prog
import Derived.Test.YtfjeckcbnhohmaaGreatDoorProg
import Derived.Test.YtfjeckcbnhohmaaGreatDoorG3
import Derived.Test.YtfjeckcbnhohmaaGreatDoorG4
namespace Go.Proofs
open Go.Shelf
def Tryz.lays213_ren : Go.Shelf.Ren := ⟨fun | 213 => 135 | 265 => 185 | n => n, fun | 9 => 9 | 3 => 3 | n => n, fun | n => n⟩
theorem Tryz.lays213 : Go.Proofs.Lays.n213 Tryz.prog Tryz.lays213_ren := {
  mixed := by kernel_rfl
  f213 := Tryz.func135.trans (congrArg some (by kernel_rfl))
  f265 := Tryz.func185.trans (congrArg some (by kernel_rfl))
  t3 := Tryz.underlying3
  a3 := Tryz.isAgg3
  z3 := Tryz.sizeOf3
  v3 := Tryz.zeroValue3
  t9 := Tryz.underlying9
  a9 := Tryz.isAgg9
  z9 := Tryz.sizeOf9
  v9 := Tryz.zeroValue9 }
open Go.RowKit in
theorem Tryz.bytealg_CompareString (a b : ByteArray) (w : World) :
    Calls Tryz.prog 135 #[.string a, .string b] w fun e w' => e = .returned (.int .i64 (Lib.compareBytes a.data.toList b.data.toList)) ∧ w' = w := Any.bytealg_CompareString Tryz.lays213 a b w
end Go.Proofs
namespace Go.Proofs.YtfjeckcbnhohmaaGreatDoor
open Go.RowKit Go.AM

abbrev int (n : Int) : PV := .v (.int .i64 n)
abbrev boo (b : Bool) : PV := .v (.bool b)
abbrev byte (c : UInt8) : PV := .v (.int .u8 c.toNat)
abbrev lim : Nat := 1048576
theorem mixed : Tryz.prog.follows .mixedOrders = true := by kernel_rfl
noncomputable abbrev C0 : Ctx := mkCtx Tryz.prog []
theorem good0 : AM.Good C0 (fun g => ([] : List Nat).contains g) := good_of mixed trivial

/-- Three numbers. -/
def F3 (f : Int → Int → Int → Bool) : List PV → Option PV
  | [.v (.int .i64 a), .v (.int .i64 b), .v (.int .i64 c)] => some (.v (.bool (f a b c)))
  | _ => none
def F1b (f : Int → Bool) : List PV → Option PV
  | [.v (.int .u8 a)] => some (.v (.bool (f a)))
  | _ => none
def inB (n a b : Int) : Bool := decide (a ≤ n) && decide (n ≤ b)
def wordB (n : Int) : Bool := decide (97 ≤ n) && decide (n ≤ 122) || decide (48 ≤ n) && decide (n ≤ 57) || n == 45 || n == 95
@[simp] theorem F3_call (f : Int → Int → Int → Bool) (a b c : Int) (hp : Hp) (nx : Nat) : hPure false [] (F3 f) [.v (.int .i64 a), .v (.int .i64 b), .v (.int .i64 c)] hp nx = some (.v (.bool (f a b c)), hp, nx) := hPure_v rfl rfl (.inl rfl)
@[simp] theorem F1b_call (f : Int → Bool) (a : Int) (hp : Hp) (nx : Nat) : hPure false [] (F1b f) [.v (.int .u8 a)] hp nx = some (.v (.bool (f a)), hp, nx) := hPure_v rfl rfl (.inl rfl)
theorem F3_inv {f : Int → Int → Int → Bool} {args : List PV} {r : PV} (h : F3 f args = some r) : ∃ a b c, args = [int a, int b, int c] ∧ r = boo (f a b c) := by
  unfold F3 at h
  split at h
  · injection h with h; exact ⟨_, _, _, rfl, h.symm⟩
  · cases h
theorem F1b_inv {f : Int → Bool} {args : List PV} {r : PV} (h : F1b f args = some r) : ∃ a, args = [.v (.int .u8 a)] ∧ r = boo (f a) := by
  unfold F1b at h
  split at h
  · injection h with h; exact ⟨_, rfl, h.symm⟩
  · cases h

theorem within_sound : SpecSound Tryz.prog 65 (hPure false [] (F3 inB)) :=
  pureS (fn := Tryz.f65) good0 ⟨_, Tryz.func65, by kernel_rfl, rfl, by kernel_rfl⟩ false [] _ fun args r h => by
    obtain ⟨a, b, c, rfl, rfl⟩ := F3_inv h
    exact ⟨by simp [Tryz.f65], _, evalPure_of rfl (by simp [Tryz.f65, inB]), up_of _⟩
theorem rWithin_sound : SpecSound Tryz.prog 227 (hPure false [] (F3 inB)) :=
  pureS (fn := Tryz.f227) good0 ⟨_, Tryz.func227, by kernel_rfl, rfl, by kernel_rfl⟩ false [] _ fun args r h => by
    obtain ⟨a, b, c, rfl, rfl⟩ := F3_inv h
    exact ⟨by simp [Tryz.f227], _, evalPure_of rfl (by simp [Tryz.f227, inB]), up_of _⟩
set_option maxRecDepth 4000 in
theorem isWord_sound : SpecSound Tryz.prog 109 (hPure false [] (F1b wordB)) :=
  pureS (fn := Tryz.f109) good0 ⟨_, Tryz.func109, by kernel_rfl, rfl, by kernel_rfl⟩ false [] _ fun args r h => by
    obtain ⟨a, rfl, rfl⟩ := F1b_inv h
    exact ⟨by simp [Tryz.f109], _, evalPure_of rfl (by simp [Tryz.f109, wordB]), up_of _⟩
set_option maxRecDepth 4000 in
theorem wordByte_sound : SpecSound Tryz.prog 161 (hPure false [] (F1b wordB)) :=
  pureS (fn := Tryz.f161) good0 ⟨_, Tryz.func161, by kernel_rfl, rfl, by kernel_rfl⟩ false [] _ fun args r h => by
    obtain ⟨a, rfl, rfl⟩ := F1b_inv h
    exact ⟨by simp [Tryz.f161], _, evalPure_of rfl (by simp [Tryz.f161, wordB]), up_of _⟩

/-- One text, of no more than lim bytes. -/
noncomputable def FS (f : List UInt8 → Bool) : List PV → Option PV := specOf (α := List UInt8) (fun l => [str l]) (fun l => l.length ≤ lim) (fun l => boo (f l))
@[simp] theorem FS_call (f : List UInt8 → Bool) (l : List UInt8) (hp : Hp) (nx : Nat) (h : l.length ≤ lim) : hPure false [] (FS f) [str l] hp nx = some (boo (f l), hp, nx) :=
  hPure_v rfl (specOf_eq (enc := fun l : List UInt8 => [str l]) (a := l) (fun a b e => by simp only [List.cons.injEq, and_true] at e; exact str_inj e) h) (.inl rfl)
def pr (a b : Nat) (c : UInt8) : Bool := decide (a ≤ c.toNat) && decide (c.toNat ≤ b)
theorem pr_out (a b : Nat) (c : UInt8) : (decide ((c.toNat : Int) < a) || decide ((b : Int) < c.toNat)) = !pr a b c := by
  rw [Bool.eq_iff_iff]; simp [pr]
def bytesIn (a b : Nat) (l : List UInt8) : Bool := l.all (pr a b)
def isKeyB (l : List UInt8) : Bool := bytesIn 33 126 l && inB l.length 1 100
def seenB (l : List UInt8) : Bool := bytesIn 33 126 l && !(l == [])
def wordsB (l : List UInt8) : Bool := l.all fun c => wordB c.toNat
def wordsB1 (l : List UInt8) : Bool := wordsB l && !(l == [])
/-- The first byte is a small letter. -/
def headB : List UInt8 → Bool
  | [] => false
  | c :: _ => decide ((97 : Int) ≤ c.toNat) && decide ((c.toNat : Int) ≤ (122 : Int))
def isNameB (l : List UInt8) : Bool := inB l.length 1 40 && headB l && wordsB l

noncomputable abbrev C1 : Ctx := mkCtx Tryz.prog [(65, hPure false [] (F3 inB)), (109, hPure false [] (F1b wordB)), (227, hPure false [] (F3 inB)), (161, hPure false [] (F1b wordB))]
abbrev q1 : List Nat := [65, 109, 227, 161]
theorem good1 : AM.Good C1 (fun g => q1.contains g) := good_of mixed ⟨within_sound, fun _ => hPure_quiet _ _, isWord_sound, fun _ => hPure_quiet _ _, rWithin_sound, fun _ => hPure_quiet _ _, wordByte_sound, fun _ => hPure_quiet _ _, trivial⟩

theorem all_drop {l : List UInt8} {p : UInt8 → Bool} {k : Nat} (h : k < l.length) : (l.drop k).all p = (p l[k] && (l.drop (k + 1)).all p) := by rw [List.drop_eq_getElem_cons h, List.all_cons]

theorem bytesIn_drop {a b : Nat} {l : List UInt8} {k : Nat} (h : k < l.length) : bytesIn a b (l.drop k) = (pr a b l[k] && bytesIn a b (l.drop (k + 1))) := all_drop h
theorem wordsB_drop {l : List UInt8} {k : Nat} (h : k < l.length) : wordsB (l.drop k) = (wordB l[k].toNat && wordsB (l.drop (k + 1))) := all_drop h
@[simp] theorem bytesIn_nil (a b : Nat) : bytesIn a b [] = true := rfl
@[simp] theorem wordsB_nil : wordsB [] = true := rfl

set_option maxRecDepth 4000 in
theorem seen_eval (l : List UInt8) (hl : l.length ≤ lim) : evalPure C1 Tryz.f207 [str l] = some (boo (bytesIn 32 126 l)) := by
  refine evalPure_of rfl ?_
  unfold lim at hl
  simp
  refine EvC_for (fun k σ hp nx => σ 0 = str l ∧ σ 5 = int l.length ∧ σ 6 = int k ∧ bytesIn 32 126 l = bytesIn 32 126 (l.drop k)) l.length ⟨by simp, by simp, by simp, by simp⟩ ?_
  rintro k σ hp nx hk ⟨h0, h5, h6, he⟩
  by_cases hlt : k < l.length
  · have hw : IntKind.i64.wrap ((k : Int) + 1) = (k : Int) + 1 := wrap_fit (by omega) (by omega)
    rw [bytesIn_drop hlt] at he
    have ho := pr_out 32 126 l[k]
    simp only [Int.cast_ofNat_Int] at ho
    cases hc : pr 32 126 l[k]
    · have he : bytesIn 32 126 l = false := by rw [he, hc]; rfl
      simp [h0, h5, h6, hlt, he, ho, hc, Tryz.f207]
    · simp [h0, h5, h6, hlt, ho, hc, hw]
      exact ⟨hlt, by rw [he, hc]; rfl⟩
  · obtain rfl : k = l.length := by omega
    have he : bytesIn 32 126 l = true := by rw [he, List.drop_length]; rfl
    simp [h0, h5, h6, he, Tryz.f207]
set_option maxRecDepth 4000 in
theorem printable_eval (l : List UInt8) (hl : l.length ≤ lim) : evalPure C1 Tryz.f228 [str l] = some (boo (bytesIn 32 126 l)) := by
  refine evalPure_of rfl ?_
  unfold lim at hl
  simp
  refine EvC_for (fun k σ hp nx => σ 0 = str l ∧ σ 5 = int l.length ∧ σ 6 = int k ∧ bytesIn 32 126 l = bytesIn 32 126 (l.drop k)) l.length ⟨by simp, by simp, by simp, by simp⟩ ?_
  rintro k σ hp nx hk ⟨h0, h5, h6, he⟩
  by_cases hlt : k < l.length
  · have hw : IntKind.i64.wrap ((k : Int) + 1) = (k : Int) + 1 := wrap_fit (by omega) (by omega)
    rw [bytesIn_drop hlt] at he
    have ho := pr_out 32 126 l[k]
    simp only [Int.cast_ofNat_Int] at ho
    cases hc : pr 32 126 l[k]
    · have he : bytesIn 32 126 l = false := by rw [he, hc]; rfl
      simp [h0, h5, h6, hlt, he, ho, hc, Tryz.f228]
    · simp [h0, h5, h6, hlt, ho, hc, hw]
      exact ⟨hlt, by rw [he, hc]; rfl⟩
  · obtain rfl : k = l.length := by omega
    have he : bytesIn 32 126 l = true := by rw [he, List.drop_length]; rfl
    simp [h0, h5, h6, he, Tryz.f228]
set_option maxRecDepth 4000 in
theorem isKey_eval (l : List UInt8) (hl : l.length ≤ lim) : evalPure C1 Tryz.f293 [str l] = some (boo (isKeyB l)) := by
  refine evalPure_of rfl ?_
  unfold lim at hl
  simp
  refine EvC_for (fun k σ hp nx => σ 0 = str l ∧ σ 5 = int l.length ∧ σ 6 = int k ∧ bytesIn 33 126 l = bytesIn 33 126 (l.drop k)) l.length ⟨by simp, by simp, by simp, by simp⟩ ?_
  rintro k σ hp nx hk ⟨h0, h5, h6, he⟩
  by_cases hlt : k < l.length
  · have hw : IntKind.i64.wrap ((k : Int) + 1) = (k : Int) + 1 := wrap_fit (by omega) (by omega)
    rw [bytesIn_drop hlt] at he
    have ho := pr_out 33 126 l[k]
    simp only [Int.cast_ofNat_Int] at ho
    cases hc : pr 33 126 l[k]
    · have he : bytesIn 33 126 l = false := by rw [he, hc]; rfl
      simp [h0, h5, h6, hlt, he, ho, hc, isKeyB, Tryz.f293]
    · simp [h0, h5, h6, hlt, ho, hc, hw]
      exact ⟨hlt, by rw [he, hc]; rfl⟩
  · obtain rfl : k = l.length := by omega
    have he : bytesIn 33 126 l = true := by rw [he, List.drop_length]; rfl
    simp [h0, h5, h6, he, isKeyB, Tryz.f293]
set_option maxRecDepth 4000 in
theorem rIsWord_eval (l : List UInt8) (hl : l.length ≤ lim) : evalPure C1 Tryz.f115 [str l] = some (boo (wordsB1 l)) := by
  refine evalPure_of rfl ?_
  unfold lim at hl
  simp
  refine EvC_for (fun k σ hp nx => σ 0 = str l ∧ σ 5 = int l.length ∧ σ 6 = int k ∧ wordsB l = wordsB (l.drop k)) l.length ⟨by simp, by simp, by simp, by simp⟩ ?_
  rintro k σ hp nx hk ⟨h0, h5, h6, he⟩
  by_cases hlt : k < l.length
  · have hw : IntKind.i64.wrap ((k : Int) + 1) = (k : Int) + 1 := wrap_fit (by omega) (by omega)
    rw [wordsB_drop hlt] at he
    cases hc : wordB l[k].toNat
    · have he : wordsB l = false := by rw [he, hc]; rfl
      simp [h0, h5, h6, hlt, he, hc, wordsB1, Tryz.f115]
    · simp [h0, h5, h6, hlt, hc, hw]
      exact ⟨hlt, by rw [he, hc]; rfl⟩
  · obtain rfl : k = l.length := by omega
    have he : wordsB l = true := by rw [he, List.drop_length]; rfl
    simp [h0, h5, h6, he, wordsB1, Tryz.f115]
set_option maxRecDepth 4000 in
theorem isName_eval (l : List UInt8) (hl : l.length ≤ lim) : evalPure C1 Tryz.f67 [str l] = some (boo (isNameB l)) := by
  refine evalPure_of rfl ?_
  unfold lim at hl
  cases hn : inB l.length 1 40
  · simp [hn, isNameB, Tryz.f67]
  have hpos : 0 < l.length := by simp [inB] at hn; omega
  have hh : headB l = (decide ((97 : Int) ≤ l[0].toNat) && decide ((l[0].toNat : Int) ≤ (122 : Int))) := by
    cases l with
    | nil => simp at hpos
    | cons c l => rfl
  have hf : (decide ((l[0].toNat : Int) < (97 : Int)) || decide ((122 : Int) < l[0].toNat)) = !headB l := by rw [hh, Bool.eq_iff_iff]; simp
  cases hb : headB l
  · simp [hn, hpos, hf, hb, isNameB, Tryz.f67]
  simp [hn, hpos, hf, hb]
  refine EvC_for (fun k σ hp nx => σ 0 = str l ∧ σ 19 = int l.length ∧ σ 20 = int k ∧ wordsB l = wordsB (l.drop k)) l.length ⟨by simp, by simp, by simp, by simp⟩ ?_
  rintro k σ hp nx hk ⟨h0, h5, h6, he⟩
  by_cases hlt : k < l.length
  · have hw : IntKind.i64.wrap ((k : Int) + 1) = (k : Int) + 1 := wrap_fit (by omega) (by omega)
    rw [wordsB_drop hlt] at he
    cases hc : wordB l[k].toNat
    · have he : wordsB l = false := by rw [he, hc]; rfl
      simp [h0, h5, h6, hlt, he, hc, isNameB, Tryz.f67]
    · simp [h0, h5, h6, hlt, hc, hw]
      exact ⟨hlt, by rw [he, hc]; rfl⟩
  · obtain rfl : k = l.length := by omega
    have he : wordsB l = true := by rw [he, List.drop_length]; rfl
    simp [h0, h5, h6, he, hn, hb, isNameB, Tryz.f67]

theorem seen_sound : SpecSound Tryz.prog 207 (hPure false [] (FS (bytesIn 32 126))) :=
  pureS (fn := Tryz.f207) good1 ⟨_, Tryz.func207, by kernel_rfl, rfl, by kernel_rfl⟩ false [] _ fun args r h => by
    obtain ⟨l, rfl, hp, rfl⟩ := specOf_inv h
    exact ⟨by simp [Tryz.f207], _, seen_eval l hp, up_of _⟩
theorem printable_sound : SpecSound Tryz.prog 228 (hPure false [] (FS (bytesIn 32 126))) :=
  pureS (fn := Tryz.f228) good1 ⟨_, Tryz.func228, by kernel_rfl, rfl, by kernel_rfl⟩ false [] _ fun args r h => by
    obtain ⟨l, rfl, hp, rfl⟩ := specOf_inv h
    exact ⟨by simp [Tryz.f228], _, printable_eval l hp, up_of _⟩
theorem isKey_sound : SpecSound Tryz.prog 293 (hPure false [] (FS isKeyB)) :=
  pureS (fn := Tryz.f293) good1 ⟨_, Tryz.func293, by kernel_rfl, rfl, by kernel_rfl⟩ false [] _ fun args r h => by
    obtain ⟨l, rfl, hp, rfl⟩ := specOf_inv h
    exact ⟨by simp [Tryz.f293], _, isKey_eval l hp, up_of _⟩
theorem rIsWord_sound : SpecSound Tryz.prog 115 (hPure false [] (FS wordsB1)) :=
  pureS (fn := Tryz.f115) good1 ⟨_, Tryz.func115, by kernel_rfl, rfl, by kernel_rfl⟩ false [] _ fun args r h => by
    obtain ⟨l, rfl, hp, rfl⟩ := specOf_inv h
    exact ⟨by simp [Tryz.f115], _, rIsWord_eval l hp, up_of _⟩
theorem isName_sound : SpecSound Tryz.prog 67 (hPure false [] (FS isNameB)) :=
  pureS (fn := Tryz.f67) good1 ⟨_, Tryz.func67, by kernel_rfl, rfl, by kernel_rfl⟩ false [] _ fun args r h => by
    obtain ⟨l, rfl, hp, rfl⟩ := specOf_inv h
    exact ⟨by simp [Tryz.f67], _, isName_eval l hp, up_of _⟩
noncomputable abbrev C2 : Ctx := mkCtx Tryz.prog [(207, hPure false [] (FS (bytesIn 32 126))), (228, hPure false [] (FS (bytesIn 32 126))), (293, hPure false [] (FS isKeyB)), (115, hPure false [] (FS wordsB1)), (67, hPure false [] (FS isNameB)), (65, hPure false [] (F3 inB)), (227, hPure false [] (F3 inB))]
abbrev q2 : List Nat := [207, 228, 293, 115, 67, 65, 227]
theorem good2 : AM.Good C2 (fun g => q2.contains g) := good_of mixed ⟨seen_sound, fun _ => hPure_quiet _ _, printable_sound, fun _ => hPure_quiet _ _, isKey_sound, fun _ => hPure_quiet _ _, rIsWord_sound, fun _ => hPure_quiet _ _, isName_sound, fun _ => hPure_quiet _ _, within_sound, fun _ => hPure_quiet _ _, rWithin_sound, fun _ => hPure_quiet _ _, trivial⟩
@[simp] theorem quiet2_0 : QuietIn C2 207 := quietIn_of (by rfl) (hPure_quiet _ _)
@[simp] theorem quiet2_1 : QuietIn C2 228 := quietIn_of (by rfl) (hPure_quiet _ _)
@[simp] theorem quiet2_2 : QuietIn C2 293 := quietIn_of (by rfl) (hPure_quiet _ _)
@[simp] theorem quiet2_4 : QuietIn C2 115 := quietIn_of (by rfl) (hPure_quiet _ _)
@[simp] theorem quiet2_5 : QuietIn C2 67 := quietIn_of (by rfl) (hPure_quiet _ _)
@[simp] theorem quiet2_w : QuietIn C2 65 := quietIn_of (by rfl) (hPure_quiet _ _)
@[simp] theorem quiet2_W : QuietIn C2 227 := quietIn_of (by rfl) (hPure_quiet _ _)

theorem seenB_key (l : List UInt8) : (seenB l && decide ((l.length : Int) ≤ 100)) = isKeyB l := by
  cases l with
  | nil => rfl
  | cons c l => rw [Bool.eq_iff_iff]; simp [seenB, isKeyB, inB]; omega
theorem wordsB1_name (l : List UInt8) (h : 0 < l.length) : (wordsB1 l && decide ((l.length : Int) ≤ 40) && decide ((97 : Int) ≤ l[0].toNat) && decide ((l[0].toNat : Int) ≤ (122 : Int))) = isNameB l := by
  cases l with
  | nil => simp at h
  | cons c l =>
    unfold wordsB1 isNameB
    generalize wordsB (c :: l) = w
    rw [Bool.eq_iff_iff]
    cases w <;> simp [inB, headB] <;> omega
set_option maxRecDepth 4000 in
theorem rIsName_eval (l : List UInt8) (hl : l.length ≤ lim) : evalPure C2 Tryz.f73 [str l] = some (boo (isNameB l)) := by
  refine evalPure_of rfl ?_
  cases l with
  | nil => simp [Tryz.f73, wordsB1, isNameB, headB]
  | cons c l =>
    have hpos : 0 < (c :: l).length := by simp
    have := wordsB1_name (c :: l) hpos
    generalize hm : c :: l = m at *
    simp [hl, hpos, Tryz.f73, this]
theorem rIsName_sound : SpecSound Tryz.prog 73 (hPure false [] (FS isNameB)) :=
  pureS (fn := Tryz.f73) good2 ⟨_, Tryz.func73, by kernel_rfl, rfl, by kernel_rfl⟩ false [] _ fun args r h => by
    obtain ⟨l, rfl, hp, rfl⟩ := specOf_inv h
    exact ⟨by simp [Tryz.f73], _, rIsName_eval l hp, up_of _⟩
end Go.Proofs.YtfjeckcbnhohmaaGreatDoor
namespace Go.Proofs.YtfjeckcbnhohmaaGreatDoor
open Go.RowKit Go.AM

inductive Val where
  | mk (kind n : Int) (s : List UInt8) (items : List Val) (fields : List (List UInt8 × Val))
namespace Val
def kind : Val → Int | .mk k _ _ _ _ => k
def n : Val → Int | .mk _ n _ _ _ => n
def s : Val → List UInt8 | .mk _ _ s _ _ => s
def items : Val → List Val | .mk _ _ _ l _ => l
def fields : Val → List (List UInt8 × Val) | .mk _ _ _ _ l => l
end Val
theorem Val.ind {P : Val → Prop} (h : ∀ k n s is fs, (∀ x ∈ is, P x) → (∀ f ∈ fs, P f.2) → P (.mk k n s is fs)) (v : Val) : P v :=
  Val.rec (motive_1 := P) (motive_2 := fun l => ∀ x ∈ l, P x) (motive_3 := fun l => ∀ f ∈ l, P f.2) (motive_4 := fun f => P f.2) (fun k n s is fs h1 h2 => h k n s is fs h1 h2)
    (by simp) (fun x l hx hl y hy => by rcases List.mem_cons.1 hy with rfl | hy; (first | exact hx | exact hl y hy); (first | exact hx | exact hl y hy)) (by simp) (fun x l hx hl y hy => by rcases List.mem_cons.1 hy with rfl | hy; (first | exact hx | exact hl y hy); (first | exact hx | exact hl y hy)) (fun a v hv => hv) v

mutual
/-- A value's five cells. -/
def Val.enc : Val → List PV
  | .mk k n s is fs => [int k, int n, str s, .sl 5 (encVs is), .sl 6 (encFs fs)]
def encVs : List Val → List (List PV)
  | [] => []
  | v :: l => v.enc :: encVs l
def encFs : List (List UInt8 × Val) → List (List PV)
  | [] => []
  | (a, v) :: l => (str a :: v.enc) :: encFs l
end

abbrev encF (f : List UInt8 × Val) : List PV := str f.1 :: f.2.enc
theorem encVs_map : ∀ l : List Val, encVs l = l.map Val.enc
  | [] => rfl
  | v :: l => by simp [encVs, encVs_map l]
theorem encFs_map : ∀ l : List (List UInt8 × Val), encFs l = l.map encF
  | [] => rfl
  | (a, v) :: l => by simp [encFs, encFs_map l]
theorem enc_eq (v : Val) : v.enc = [int v.kind, int v.n, str v.s, .sl 5 (v.items.map Val.enc), .sl 6 (v.fields.map encF)] := by
  cases v with
  | mk k n s is fs => simp [Val.enc, encVs_map, encFs_map, Val.kind, Val.n, Val.s, Val.items, Val.fields]
@[simp] theorem enc_length (v : Val) : v.enc.length = 5 := by rw [enc_eq]; rfl

@[simp] theorem enc_cells (v : Val) : v.enc.all PV.isCell = true := by rw [enc_eq]; rfl
@[simp] theorem enc_cells' (v : Val) : (∀ x, x ∈ v.enc → PV.isCell x = true) = True := by
  have := enc_cells v
  rw [List.all_eq_true] at this
  exact eq_true this
@[simp] theorem enc_take (v : Val) : v.enc.take 5 = v.enc := List.take_of_length_le (by simp)
@[simp] theorem enc_0 (v : Val) (h : 0 < v.enc.length) : v.enc[0] = int v.kind := by simp [enc_eq v]
@[simp] theorem enc_1 (v : Val) (h : 1 < v.enc.length) : v.enc[1] = int v.n := by simp [enc_eq v]
@[simp] theorem enc_2 (v : Val) (h : 2 < v.enc.length) : v.enc[2] = str v.s := by simp [enc_eq v]
@[simp] theorem enc_3 (v : Val) (h : 3 < v.enc.length) : v.enc[3] = .sl 5 (v.items.map Val.enc) := by simp [enc_eq v]
@[simp] theorem enc_4 (v : Val) (h : 4 < v.enc.length) : v.enc[4] = .sl 6 (v.fields.map encF) := by simp [enc_eq v]
theorem map_inj_on {α β : Type} {f : α → β} : ∀ {xs ys : List α}, (∀ x ∈ xs, ∀ y, f x = f y → x = y) → xs.map f = ys.map f → xs = ys
  | [], [], _, _ => rfl
  | [], y :: ys, _, e => by simp at e
  | x :: xs, [], _, e => by simp at e
  | x :: xs, y :: ys, h, e => by
    simp only [List.map_cons, List.cons.injEq] at e
    rw [h x (by simp) y e.1, map_inj_on (fun z hz => h z (by simp [hz])) e.2]
theorem enc_inj : ∀ {a b : Val}, a.enc = b.enc → a = b := by
  intro a
  induction a using Val.ind with
  | h k n s is fs h1 h2 =>
    intro b e
    cases b with
    | mk k' n' s' is' fs' =>
      simp only [enc_eq, Val.kind, Val.n, Val.s, Val.items, Val.fields, List.cons.injEq, and_true] at e
      obtain ⟨e1, e2, e3, e4, e5⟩ := e
      obtain rfl := pint_inj e1
      obtain rfl := pint_inj e2
      obtain rfl := str_inj e3
      injection e4 with _ e4
      injection e5 with _ e5
      obtain rfl := map_inj_on (fun x hx y => h1 x hx) e4
      obtain rfl := map_inj_on (fun x hx y e => by
        simp only [encF, List.cons.injEq] at e
        exact Prod.ext (str_inj e.1) (h2 x hx e.2)) e5
      rfl

mutual
/-- How much a value holds. -/
def Val.vb : Val → Nat
  | .mk _ _ s is fs => 1 + s.length + vbs is + fbs fs
def vbs : List Val → Nat
  | [] => 0
  | v :: l => v.vb + vbs l
def fbs : List (List UInt8 × Val) → Nat
  | [] => 0
  | (a, v) :: l => a.length + v.vb + fbs l
end

theorem vb_eq (v : Val) : v.vb = 1 + v.s.length + vbs v.items + fbs v.fields := by cases v; rfl
theorem vb_pos (v : Val) : 0 < v.vb := by rw [vb_eq]; omega
theorem vbs_mem : ∀ {l : List Val} {x : Val}, x ∈ l → x.vb ≤ vbs l
  | y :: l, x, h => by
    simp only [vbs]
    rcases List.mem_cons.1 h with rfl | h
    · omega
    · have := vbs_mem h; omega
theorem fbs_mem : ∀ {l : List (List UInt8 × Val)} {x : List UInt8 × Val}, x ∈ l → x.1.length + x.2.vb ≤ fbs l
  | (a, y) :: l, x, h => by
    simp only [fbs]
    rcases List.mem_cons.1 h with rfl | h
    · simp only; omega
    · have := fbs_mem h; omega
theorem vbs_length : ∀ l : List Val, l.length ≤ vbs l
  | [] => by simp [vbs]
  | v :: l => by have := vbs_length l; have := vb_pos v; simp only [vbs, List.length_cons]; omega
theorem fbs_length : ∀ l : List (List UInt8 × Val), l.length ≤ fbs l
  | [] => by simp [fbs]
  | (a, v) :: l => by have := fbs_length l; have := vb_pos v; simp only [fbs, List.length_cons]; omega
theorem vbs_drop : ∀ (l : List Val) (k : Nat), vbs (l.drop k) ≤ vbs l
  | [], k => by simp
  | v :: l, 0 => by simp
  | v :: l, k + 1 => by have := vbs_drop l k; simp only [List.drop_succ_cons, vbs]; omega

/-- A function of a value. -/
noncomputable def FV (out : Val → PV) (n : Nat) : List PV → Option PV := specOf (α := Val) (fun v => [.agg v.enc]) (fun v => v.vb ≤ lim ∧ v.vb ≤ n) out
theorem FV_eq (out : Val → PV) (n : Nat) (v : Val) (h : v.vb ≤ lim ∧ v.vb ≤ n) : FV out n [.agg v.enc] = some (out v) :=
  specOf_eq (enc := fun v : Val => [.agg v.enc]) (a := v) (fun a b e => by simp only [List.cons.injEq, and_true, PV.agg.injEq] at e; exact enc_inj e) h
@[simp] theorem freezeCells_enc (hp : Hp) (v : Val) : freezeCells hp v.enc = some (v.enc, hp) := by rw [enc_eq]; simp
theorem freeze_enc (hp : Hp) (v : Val) : freezeVal hp (.agg v.enc) = some (.agg v.enc, hp) := by
  rw [enc_eq]
  simp
theorem noOwn_enc (v : Val) : PV.noOwn (.agg v.enc) = true := by
  rw [enc_eq]
  simp
theorem FV_call (out : Val → PV) (n : Nat) (v : Val) (hp : Hp) (nx : Nat) (h : v.vb ≤ lim ∧ v.vb ≤ n) : hPure false [] (FV out n) [.agg v.enc] hp nx = some (out v, hp, nx) :=
  hPure_v (hp1 := hp) (show freezeVals hp [.agg v.enc] = some ([.agg v.enc], hp) by simp only [freezeVals, freeze_enc]) (FV_eq out n v h) (.inr (by simp only [List.all_cons, noOwn_enc, List.all_nil, Bool.and_self]))

mutual
def Val.parts : Val → Nat
  | .mk _ _ _ is fs => 1 + partsV is + partsF fs
def partsV : List Val → Nat
  | [] => 0
  | v :: l => v.parts + partsV l
def partsF : List (List UInt8 × Val) → Nat
  | [] => 0
  | (_, v) :: l => v.parts + partsF l
end

mutual
def Val.levels : Val → Nat
  | .mk _ _ _ is fs => max (levelsV is) (levelsF fs) + 1
def levelsV : List Val → Nat
  | [] => 0
  | v :: l => max v.levels (levelsV l)
def levelsF : List (List UInt8 × Val) → Nat
  | [] => 0
  | (_, v) :: l => max v.levels (levelsF l)
end

theorem parts_eq (v : Val) : v.parts = 1 + partsV v.items + partsF v.fields := by cases v; rfl
theorem levels_eq (v : Val) : v.levels = max (levelsV v.items) (levelsF v.fields) + 1 := by cases v; rfl
theorem parts_le (v : Val) : v.parts ≤ v.vb := by
  induction v using Val.ind with
  | h k n s is fs h1 h2 =>
    have a : ∀ l : List Val, (∀ x ∈ l, x.parts ≤ x.vb) → partsV l ≤ vbs l := by
      intro l
      induction l with
      | nil => simp [partsV]
      | cons v l ih => intro h; have := h v (by simp); have := ih fun x hx => h x (by simp [hx]); simp only [partsV, vbs]; omega
    have b : ∀ l : List (List UInt8 × Val), (∀ x ∈ l, x.2.parts ≤ x.2.vb) → partsF l ≤ fbs l := by
      intro l
      induction l with
      | nil => simp [partsF]
      | cons v l ih => intro h; have := h v (by simp); have := ih fun x hx => h x (by simp [hx]); obtain ⟨a, v⟩ := v; simp only [partsF, fbs]; simp only at *; omega
    have := a is h1
    have := b fs h2
    simp only [Val.parts, Val.vb]
    omega
theorem levels_le (v : Val) : v.levels ≤ v.parts := by
  induction v using Val.ind with
  | h k n s is fs h1 h2 =>
    have a : ∀ l : List Val, (∀ x ∈ l, x.levels ≤ x.parts) → levelsV l ≤ partsV l := by
      intro l
      induction l with
      | nil => simp [levelsV]
      | cons v l ih => intro h; have := h v (by simp); have := ih fun x hx => h x (by simp [hx]); simp only [levelsV, partsV]; omega
    have b : ∀ l : List (List UInt8 × Val), (∀ x ∈ l, x.2.levels ≤ x.2.parts) → levelsF l ≤ partsF l := by
      intro l
      induction l with
      | nil => simp [levelsF]
      | cons v l ih => intro h; have := h v (by simp); have := ih fun x hx => h x (by simp [hx]); obtain ⟨a, v⟩ := v; simp only [levelsF, partsF]; simp only at *; omega
    have := a is h1
    have := b fs h2
    simp only [Val.parts, Val.levels]
    omega

/-! ### value.count -/
noncomputable abbrev Cc (n : Nat) : Ctx := mkCtxD Tryz.prog [(147, hPure false [] (FV (fun v => .tup [int v.parts, int v.levels]) n))] (dynAt 2 [(2, 1)])
theorem evalFunc_eq {C : Ctx} {fn : Func} {code : Code} {args : List PV} {hp : Hp} {nx : Nat} {x : PV} {hp' : Hp} {nx' : Nat} (hb : fn.body = some code)
    (h : EvC C code ⟨startσ args, hp, nx⟩ (retK C.P fn (fun y h m => y = x ∧ h = hp' ∧ m = nx'))) : evalFunc C fn args hp nx = some (x, hp', nx') := by
  obtain ⟨y, h1, n1, he, rfl, rfl, rfl⟩ := evalFunc_of hb h
  exact he
set_option maxRecDepth 4000 in
theorem count1_run (n : Nat) (v : Val) (h : v.vb ≤ lim ∧ v.vb ≤ n) (hp : Hp) (nx i j : Nat) (hi : i < nx) (hj : j < nx) (hij : i ≠ j) (p q : Nat) (hpi : hp i = some ⟨3, 1, false, [[int p]]⟩) (hpj : hp j = some ⟨3, 1, false, [[int q]]⟩) (hpb : p ≤ lim) :
    hRun (Cc n) Tryz.f205 [.agg v.enc, .ref i 0 0, .ref j 0 0] hp nx =
      some (.tup [], upd (upd (upd hp nx (some ⟨146, 5, false, [v.enc]⟩)) i (some ⟨3, 1, false, [[int ((p + v.parts : Nat) : Int)]]⟩)) j (some ⟨3, 1, false, [[int ((max q v.levels : Nat) : Int)]]⟩), nx + 1) := by
  have hpl := parts_le v
  have hll := levels_le v
  unfold lim at *
  have w1 : IntKind.i64.wrap ((p : Int) + v.parts) = (p : Int) + v.parts := wrap_fit (by omega) (by omega)
  unfold hRun
  rw [if_pos (by simp [Tryz.f205])]
  refine evalFunc_eq rfl ?_
  have hcall := fun hp nx => FV_call (fun v => .tup [int v.parts, int v.levels]) n v hp nx h
  have e1 : ¬ i = nx := by omega
  have e2 : ¬ j = nx := by omega
  have e3 : ¬ j = i := by omega
  have e4 : (if q < v.levels then (v.levels : Int) else q) = ((max q v.levels : Nat) : Int) := by split <;> omega
  simp [hcall]
  rw [EvC_region' _ _ _ _ _ _ (apartA_one (blk := ⟨3, 1, false, [[int p]]⟩) (id := j) (i := 0) (j := 0) (id' := i) (i' := 0) (j' := 0) (by simp) (by simp) (Ne.symm hij) (by simp [e1, hpi]) rfl) (fun _ h => by cases h)]
  simp [hpi, hpj, e1, e2, e3, hij, w1, e4, Tryz.f205]

theorem partsV_append (a b : List Val) : partsV (a ++ b) = partsV a + partsV b := by
  induction a with
  | nil => simp [partsV]
  | cons v a ih => simp only [List.cons_append, partsV, ih]; omega
theorem levelsV_append (a b : List Val) : levelsV (a ++ b) = max (levelsV a) (levelsV b) := by
  induction a with
  | nil => simp [levelsV]
  | cons v a ih => simp only [List.cons_append, levelsV, ih]; omega
theorem partsF_append (a b : List (List UInt8 × Val)) : partsF (a ++ b) = partsF a + partsF b := by
  induction a with
  | nil => simp [partsF]
  | cons v a ih => obtain ⟨x, v⟩ := v; simp only [List.cons_append, partsF, ih]; omega
theorem levelsF_append (a b : List (List UInt8 × Val)) : levelsF (a ++ b) = max (levelsF a) (levelsF b) := by
  induction a with
  | nil => simp [levelsF]
  | cons v a ih => obtain ⟨x, v⟩ := v; simp only [List.cons_append, levelsF, ih]; omega
theorem takeV {l : List Val} {k : Nat} (h : k < l.length) : partsV (l.take (k + 1)) = partsV (l.take k) + l[k].parts ∧ levelsV (l.take (k + 1)) = max (levelsV (l.take k)) l[k].levels := by
  rw [List.take_succ_eq_append_getElem h, partsV_append, levelsV_append]
  simp [partsV, levelsV]
theorem takeF {l : List (List UInt8 × Val)} {k : Nat} (h : k < l.length) : partsF (l.take (k + 1)) = partsF (l.take k) + l[k].2.parts ∧ levelsF (l.take (k + 1)) = max (levelsF (l.take k)) l[k].2.levels := by
  rw [List.take_succ_eq_append_getElem h, partsF_append, levelsF_append]
  simp [partsF, levelsF]
theorem partsV_le (l : List Val) (k : Nat) : partsV (l.take k) ≤ partsV l := by
  have := partsV_append (l.take k) (l.drop k)
  rw [List.take_append_drop] at this
  omega
theorem partsF_le (l : List (List UInt8 × Val)) (k : Nat) : partsF (l.take k) ≤ partsF l := by
  have := partsF_append (l.take k) (l.drop k)
  rw [List.take_append_drop] at this
  omega

noncomputable abbrev Cd (n : Nat) : Ctx := mkCtxD Tryz.prog [(205, hRun (Cc n) Tryz.f205)] (dynAt 13 [(3, 2)])
set_option maxRecDepth 4000 in
theorem count_eval (n : Nat) (v : Val) (h : v.vb ≤ lim ∧ v.vb ≤ n + 1) : evalPure (Cd n) Tryz.f147 [.agg v.enc] = some (.tup [int v.parts, int v.levels]) := by
  have hpl := parts_le v
  have hpe := parts_eq v
  have hvb := vb_eq v
  have hle := levels_eq v
  have hl1 := vbs_length v.items
  have hl2 := fbs_length v.fields
  obtain ⟨ha, hb⟩ := h
  unfold lim at ha
  refine evalPure_of rfl ?_
  simp
  refine EvC_for (fun k σ hp nx => σ 1 = .ref 0 0 0 ∧ σ 2 = .ref 1 0 0 ∧ σ 3 = .ref 2 0 0 ∧ σ 4 = .fn (.func 205) [] [.ref 1 0 0, .ref 2 0 0] ∧ σ 11 = .sl 5 (v.items.map Val.enc) ∧ σ 12 = int v.items.length ∧ σ 13 = int k ∧ 3 ≤ nx ∧ hp 0 = some ⟨146, 5, false, [v.enc]⟩ ∧
      hp 1 = some ⟨3, 1, false, [[int ((1 + partsV (v.items.take k) : Nat) : Int)]]⟩ ∧ hp 2 = some ⟨3, 1, false, [[int (levelsV (v.items.take k))]]⟩) v.items.length
    ⟨by simp, by simp, by simp, by simp, by simp, by simp, by simp, by simp, by simp, by simp [partsV], by simp [levelsV]⟩ ?_
  rintro k σ hp nx hk ⟨h1, h2, h3, h4, h11, h12, h13, hnx, b0, b1, b2⟩
  by_cases hlt : k < v.items.length
  · obtain ⟨t1, t2⟩ := takeV hlt
    have hm := vbs_mem (List.getElem_mem hlt)
    have hw : IntKind.i64.wrap ((k : Int) + 1) = (k : Int) + 1 := wrap_fit (by omega) (by omega)
    have hple := partsV_le v.items k
    have hrun := count1_run n v.items[k] ⟨by unfold lim; omega, by omega⟩ (upd hp nx (some ⟨146, 5, false, [v.items[k].enc]⟩)) (nx + 1) 1 2 (by omega) (by omega) (by omega) _ _ (by rw [upd_miss _ _ _ _ (by omega)]; exact b1) (by rw [upd_miss _ _ _ _ (by omega)]; exact b2) (by unfold lim; omega)
    simp [h1, h2, h3, h4, h11, h12, h13, hlt, hrun, hw]
    refine ⟨hlt, by omega, ?_, ?_, ?_⟩
    · simp [b0, show ¬ 0 = nx by omega, show ¬ 0 = nx + 1 by omega]
    · rw [t1]; omega
    · rw [t2]
  · obtain rfl : k = v.items.length := by omega
    rw [List.take_length] at b1 b2
    simp [h1, h2, h3, h4, h11, h12, h13, b0]
    refine EvC_for (fun k σ hp nx => σ 1 = .ref 0 0 0 ∧ σ 2 = .ref 1 0 0 ∧ σ 3 = .ref 2 0 0 ∧ σ 4 = .fn (.func 205) [] [.ref 1 0 0, .ref 2 0 0] ∧ σ 22 = .sl 6 (v.fields.map encF) ∧ σ 23 = int v.fields.length ∧ σ 24 = int k ∧ 3 ≤ nx ∧
        hp 1 = some ⟨3, 1, false, [[int ((1 + partsV v.items + partsF (v.fields.take k) : Nat) : Int)]]⟩ ∧ hp 2 = some ⟨3, 1, false, [[int ((max (levelsV v.items) (levelsF (v.fields.take k)) : Nat) : Int)]]⟩) v.fields.length
      ⟨by simp [h1], by simp [h2], by simp [h3], by simp [h4], by simp, by simp, by simp, hnx, by simp [b1, partsF], by simp [b2, levelsF]⟩ ?_
    clear h1 h2 h3 h4 h11 h12 h13 hnx b0 b1 b2 hlt hk nx hp σ
    rintro k σ hp nx hk ⟨h1, h2, h3, h4, h11, h12, h13, hnx, b1, b2⟩
    by_cases hlt : k < v.fields.length
    · obtain ⟨t1, t2⟩ := takeF hlt
      have hm := fbs_mem (List.getElem_mem hlt)
      have hw : IntKind.i64.wrap ((k : Int) + 1) = (k : Int) + 1 := wrap_fit (by omega) (by omega)
      have hple := partsF_le v.fields k
      have hrun := count1_run n v.fields[k].2 ⟨by unfold lim; omega, by omega⟩ (upd hp nx (some ⟨180, 6, false, [encF v.fields[k]]⟩)) (nx + 1) 1 2 (by omega) (by omega) (by omega) _ _ (by rw [upd_miss _ _ _ _ (by omega)]; exact b1) (by rw [upd_miss _ _ _ _ (by omega)]; exact b2) (by unfold lim; omega)
      simp [encF] at hrun
      simp [h1, h2, h3, h4, h11, h12, h13, hlt, hw, hrun]
      refine ⟨hlt, by omega, ?_, ?_⟩
      · rw [t1]; omega
      · rw [t2]
    · obtain rfl : k = v.fields.length := by omega
      rw [List.take_length] at b1 b2
      have hll := levels_le v
      have hw : IntKind.i64.wrap (((max (levelsV v.items) (levelsF v.fields) : Nat) : Int) + 1) = (v.levels : Int) := by rw [wrap_fit (by omega) (by omega), hle]; omega
      simp [h1, h2, h3, h4, h11, h12, h13]
      rw [EvC_region' _ _ _ _ _ _ (apartA_one (id := 2) (i := 0) (j := 0) (id' := 1) (i' := 0) (j' := 0) (by simp [h3]) (by simp [h2]) (by omega) (by exact b1) rfl) (fun _ h => by cases h)]
      simp [h1, h2, h3, b1, b2, hw, Tryz.f147, pureR]
      omega

theorem FV_inv {out : Val → PV} {n : Nat} {args : List PV} {r : PV} (h : FV out n args = some r) : ∃ v : Val, args = [.agg v.enc] ∧ (v.vb ≤ lim ∧ v.vb ≤ n) ∧ r = out v := specOf_inv h
theorem FV_none {out : Val → PV} : ∀ args r, FV out 0 args = some r → False := fun args r h => by
  obtain ⟨v, rfl, hv, rfl⟩ := FV_inv h
  have := vb_pos v
  omega
/-- Nothing is said. -/
theorem FV_zero {out : Val → PV} {f : FuncId} (hfn : ∃ fn, Tryz.prog.funcs[f]? = some fn ∧ (fn.name == "runtime.NumGoroutine") = false ∧ fn.body.isNone = false) : SpecSound Tryz.prog f (hPure false [] (FV out 0)) := by
  refine ⟨hfn, fun args hp nx r hp' nx' h => ?_⟩
  unfold hPure at h
  split at h
  · split at h
    · rename_i r0 hF
      exact (FV_none _ _ hF).elim
    · cases h
  · cases h
set_option maxRecDepth 100000 in
theorem count_sound : ∀ n, SpecSound Tryz.prog 147 (hPure false [] (FV (fun v => .tup [int v.parts, int v.levels]) n)) := by
  intro n
  induction n with
  | zero => exact FV_zero ⟨_, Tryz.func147, by kernel_rfl, by kernel_rfl⟩
  | succ n ih =>
    have hc : AM.Good (Cc n) (fun g => ([] : List Nat).contains g) := good_ofD _ mixed ⟨ih, by simp, trivial⟩
    have h1 : SpecSound Tryz.prog 205 (hRun (Cc n) Tryz.f205) := hRun_sound (code := _) hc ⟨Tryz.func205, by kernel_rfl, rfl, by kernel_rfl⟩
    have hd : AM.Good (Cd n) (fun g => ([] : List Nat).contains g) := good_ofD _ mixed ⟨h1, by simp, trivial⟩
    exact pureS (fn := Tryz.f147) hd ⟨_, Tryz.func147, by kernel_rfl, rfl, by kernel_rfl⟩ false [] _ fun args r h => by
      obtain ⟨v, rfl, hv, rfl⟩ := FV_inv h
      exact ⟨Nat.le_trans (Nat.le_refl 1) (by decide), _, count_eval n v hv, up_of _⟩
/-- A function of a value, whatever its bulk up to the bound. -/
noncomputable abbrev GV (out : Val → PV) : AM.Spec := hPure false [] (FV out lim)
theorem GV_call (out : Val → PV) (v : Val) (hp : Hp) (nx : Nat) (h : v.vb ≤ lim) : GV out [.agg v.enc] hp nx = some (out v, hp, nx) := FV_call out lim v hp nx ⟨h, h⟩
end Go.Proofs.YtfjeckcbnhohmaaGreatDoor
namespace Go.Proofs.YtfjeckcbnhohmaaGreatDoor
open Go.RowKit Go.AM

def cKind (k : Int) : Bool := decide (k < 0) || decide (5 < k)
def cSpare (k n : Int) (s : List UInt8) (i f : Nat) : Bool := n != 0 && k != 1 && k != 2 || !(s == []) && k != 3 || decide (0 < i) && k != 4 || decide (0 < f) && k != 5
def cRange1 (k n : Int) : Bool := k == 1 && n != 0 && n != 1
def cRange2 (k n : Int) : Bool := k == 2 && (decide (n ≤ -1000000000000000) || decide (1000000000000000 ≤ n))
def cMany (i f : Nat) : Bool := decide ((100 : Int) < i) || decide ((100 : Int) < f)
def cLong (s : List UInt8) : Bool := decide ((500 : Int) < s.length)
def headF (k n : Int) (s : List UInt8) (i f : Nat) : Int :=
  if cKind k then 4 else if cSpare k n s i f then 3 else if cRange1 k n || cRange2 k n then 1 else if cLong s then 2 else if bytesIn 32 126 s then (if cMany i f then 2 else 0) else 1
def leB (a b : List UInt8) : Bool := Op.bytesLess a b || a == b
def cName (a : List UInt8) : Bool := a.isEmpty || decide ((60 : Int) < a.length) || !bytesIn 32 126 a
def cPrev (prev : Option (List UInt8)) (a : List UInt8) : Bool := match prev with
  | none => false
  | some p => leB a p
mutual
/-- What is wrong with a value; 0: nothing. -/
def Val.fault : Val → Int
  | .mk k n s is fs => if headF k n s is.length fs.length = 0 then (if faultV is = 0 then faultF none fs else faultV is) else headF k n s is.length fs.length
def faultV : List Val → Int
  | [] => 0
  | v :: l => if v.fault = 0 then faultV l else v.fault
def faultF : Option (List UInt8) → List (List UInt8 × Val) → Int
  | _, [] => 0
  | prev, (a, v) :: l => if cName a then 5 else if cPrev prev a then 8 else if v.fault = 0 then faultF (some a) l else v.fault
end

theorem fault_eq (v : Val) : v.fault = if headF v.kind v.n v.s v.items.length v.fields.length = 0 then (if faultV v.items = 0 then faultF none v.fields else faultV v.items) else headF v.kind v.n v.s v.items.length v.fields.length := by cases v; rfl

theorem spare_sound : SpecSound Tryz.prog 206 (GV fun v => boo (cSpare v.kind v.n v.s v.items.length v.fields.length)) :=
  pureS (fn := Tryz.f206) good0 ⟨_, Tryz.func206, by kernel_rfl, rfl, by kernel_rfl⟩ false [] _ fun args r h => by
    obtain ⟨v, rfl, hv, rfl⟩ := FV_inv h
    exact ⟨by simp [Tryz.f206], _, evalPure_of rfl (by simp [Tryz.f206, cSpare]), up_of _⟩

noncomputable abbrev Ck (n : Nat) : Ctx := mkCtx Tryz.prog [(148, hPure false [] (FV (fun v => int v.fault) n)), (206, GV fun v => boo (cSpare v.kind v.n v.s v.items.length v.fields.length)), (207, hPure false [] (FS (bytesIn 32 126)))]
@[simp] theorem qk (n : Nat) : QuietIn (Ck n) 207 := quietIn_of (by rfl) (hPure_quiet _ _)

theorem faultV_drop {l : List Val} {k : Nat} (h : k < l.length) : faultV (l.drop k) = if l[k].fault = 0 then faultV (l.drop (k + 1)) else l[k].fault := by
  rw [List.drop_eq_getElem_cons h, faultV]
theorem faultF_drop {l : List (List UInt8 × Val)} {k : Nat} (h : k < l.length) (p : Option (List UInt8)) : faultF p (l.drop k) = if cName l[k].1 then 5 else if cPrev p l[k].1 then 8 else if l[k].2.fault = 0 then faultF (some l[k].1) (l.drop (k + 1)) else l[k].2.fault := by
  rw [List.drop_eq_getElem_cons h, faultF]
def prevOf (l : List (List UInt8 × Val)) (k : Nat) : Option (List UInt8) := if k = 0 then none else (l[k - 1]?).map (·.1)

set_option maxRecDepth 8000 in
theorem checkPart_eval (n : Nat) (v : Val) (h : v.vb ≤ lim ∧ v.vb ≤ n + 1) : evalPure (Ck n) Tryz.f148 [.agg v.enc] = some (int v.fault) := by
  have hvb := vb_eq v
  have hl1 := vbs_length v.items
  have hl2 := fbs_length v.fields
  obtain ⟨ha, hb⟩ := h
  unfold lim at ha
  have hf := fault_eq v
  have hsp := fun hp nx => GV_call (fun v => boo (cSpare v.kind v.n v.s v.items.length v.fields.length)) v hp nx ha
  have hsl : v.s.length ≤ lim := by unfold lim; omega
  refine evalPure_of rfl ?_
  have e1 : (decide (v.kind < 0) || decide (5 < v.kind)) = cKind v.kind := rfl
  have e2 : (v.kind == 1 && v.n != 0 && v.n != 1) = cRange1 v.kind v.n := rfl
  have e3 : (v.kind == 2 && (decide (v.n ≤ -1000000000000000) || decide (1000000000000000 ≤ v.n))) = cRange2 v.kind v.n := rfl
  have e4 : (decide ((100 : Int) < v.items.length) || decide ((100 : Int) < v.fields.length)) = cMany v.items.length v.fields.length := rfl
  have e5 : decide ((500 : Int) < v.s.length) = cLong v.s := rfl
  cases c1 : cKind v.kind
  case true => simp [e1, c1, hf, headF, Tryz.f148]
  cases c2 : cSpare v.kind v.n v.s v.items.length v.fields.length
  case true => simp [e1, c1, hsp, c2, hf, headF, Tryz.f148]
  cases c3 : cRange1 v.kind v.n
  case true => simp [e1, c1, hsp, c2, e2, c3, hf, headF, Tryz.f148]
  cases c4 : cRange2 v.kind v.n
  case true => simp [e1, c1, hsp, c2, e2, c3, e3, c4, hf, headF, Tryz.f148]
  cases c5 : cLong v.s
  case true => simp [e1, c1, hsp, c2, e2, c3, e3, c4, e5, c5, hf, headF, Tryz.f148]
  cases c6 : bytesIn 32 126 v.s
  case false => simp [e1, c1, hsp, c2, e2, c3, e3, c4, e5, c5, c6, hsl, hf, headF, Tryz.f148]
  cases c7 : cMany v.items.length v.fields.length
  case true => simp [e1, c1, hsp, c2, e2, c3, e3, c4, e5, c5, c6, hsl, e4, c7, hf, headF, Tryz.f148]
  have hh : headF v.kind v.n v.s v.items.length v.fields.length = 0 := by simp [headF, c1, c2, c3, c4, c5, c6, c7]
  rw [hh, if_pos rfl] at hf
  simp [e1, c1, hsp, c2, e2, c3, e3, c4, e5, c5, c6, hsl, e4, c7]
  refine EvC_for (fun k σ hp nx => σ 1 = .ref 0 0 0 ∧ σ 70 = .sl 5 (v.items.map Val.enc) ∧ σ 71 = int v.items.length ∧ σ 72 = int k ∧ 1 ≤ nx ∧ hp 0 = some ⟨146, 5, false, [v.enc]⟩ ∧ faultV v.items = faultV (v.items.drop k)) v.items.length
    ⟨by simp, by simp, by simp, by simp, by simp, by simp, by simp⟩ ?_
  rintro k σ hp nx hk ⟨h1, h70, h71, h72, hnx, b0, he⟩
  have n0 : ¬ 0 = nx := by omega
  by_cases hlt : k < v.items.length
  · have hm := vbs_mem (List.getElem_mem hlt)
    have hw : IntKind.i64.wrap ((k : Int) + 1) = (k : Int) + 1 := wrap_fit (by omega) (by omega)
    have hcall := fun hp nx => FV_call (fun v => int v.fault) n v.items[k] hp nx ⟨by unfold lim; omega, by omega⟩
    rw [faultV_drop hlt] at he
    by_cases hz : v.items[k].fault = 0
    · rw [if_pos hz] at he
      simp [h1, h70, h71, h72, hlt, hcall, hz, hw]
      and_intros <;> first | omega | exact he | simp [n0, b0]
    · rw [if_neg hz] at he
      have hz2 : (v.items[k].fault != 0) = true := by simpa using hz
      rw [he, if_neg hz] at hf
      simp [h1, h70, h71, h72, hlt, hcall, hz2, hf, Tryz.f148]
  · obtain rfl : k = v.items.length := by omega
    rw [List.drop_length] at he
    have he : faultV v.items = 0 := by rw [he]; rfl
    rw [he, if_pos rfl] at hf
    simp [h1, h70, h71, h72, b0]
    refine EvC_for (fun k σ hp nx => σ 1 = .ref 0 0 0 ∧ σ 83 = .sl 6 (v.fields.map encF) ∧ σ 84 = int v.fields.length ∧ σ 85 = int k ∧ 1 ≤ nx ∧ hp 0 = some ⟨146, 5, false, [v.enc]⟩ ∧ v.fault = faultF (prevOf v.fields k) (v.fields.drop k)) v.fields.length
      ⟨by simp [h1], by simp, by simp, by simp, hnx, b0, by simp [hf, prevOf]⟩ ?_
    clear h1 h70 h71 h72 hnx b0 hlt hk n0 nx hp σ hf
    rintro k σ hp nx hk ⟨h1, h83, h84, h85, hnx, b0, hf⟩
    have n0 : ¬ 0 = nx := by omega
    by_cases hlt : k < v.fields.length
    · have hm := fbs_mem (List.getElem_mem hlt)
      have hw : IntKind.i64.wrap ((k : Int) + 1) = (k : Int) + 1 := wrap_fit (by omega) (by omega)
      have hnl : v.fields[k].1.length ≤ lim := by unfold lim; omega
      have hcall := fun hp nx => FV_call (fun v => int v.fault) n v.fields[k].2 hp nx ⟨by unfold lim; omega, by omega⟩
      have en : (v.fields[k].1.isEmpty || decide ((60 : Int) < v.fields[k].1.length) || !bytesIn 32 126 v.fields[k].1) = cName v.fields[k].1 := rfl
      rw [faultF_drop hlt] at hf
      cases d1 : cName v.fields[k].1
      case true => simp [h1, h83, h84, h85, hlt, hnl, en, d1, hf, Tryz.f148]
      have hpv : prevOf v.fields (k + 1) = some v.fields[k].1 := by simp [prevOf, hlt]
      simp only [d1, Bool.false_eq_true, if_false] at hf
      by_cases k0 : k = 0
      · subst k0
        simp only [prevOf, cPrev, if_true, Bool.false_eq_true, if_false] at hf
        by_cases hz : v.fields[0].2.fault = 0
        · rw [if_pos hz] at hf
          have w1 : IntKind.i64.wrap 1 = 1 := wrap_fit (by omega) (by omega)
          simp [h1, h83, h84, h85, hlt, hnl, en, d1, hcall, hz, w1]
          and_intros <;> first | omega | (rw [hf]; rw [hpv]; simp; done) | simp [n0, b0]
        · rw [if_neg hz] at hf
          have hz2 : (v.fields[0].2.fault != 0) = true := by simpa using hz
          simp [h1, h83, h84, h85, hlt, hnl, en, d1, hcall, hz2, hf, Tryz.f148]
      · obtain ⟨j, rfl⟩ : ∃ j, k = j + 1 := ⟨k - 1, by omega⟩
        have hj : j < v.fields.length := by omega
        have wj : IntKind.i64.wrap ((j : Int) + 1 - 1) = (j : Int) := by rw [wrap_fit (by omega) (by omega)]; omega
        have wj' : IntKind.i64.wrap (j : Int) = (j : Int) := wrap_fit (by omega) (by omega)
        have j1 : ((j : Int) + 1).toNat = j + 1 := by omega
        have j2 : 0 < (j : Int) + 1 := by omega
        have j3 : 0 ≤ (j : Int) + 1 := by omega
        have j4 : (j : Int) + 1 < v.fields.length := by omega
        have wk : IntKind.i64.wrap ((j : Int) + 1 + 1) = (j : Int) + 1 + 1 := wrap_fit (by omega) (by omega)
        have el : (Op.bytesLess v.fields[j + 1].1 v.fields[j].1 || v.fields[j + 1].1 == v.fields[j].1) = leB v.fields[j + 1].1 v.fields[j].1 := rfl
        have hpj : prevOf v.fields (j + 1) = some v.fields[j].1 := by simp [prevOf, hj]
        simp only [hpj, cPrev] at hf
        cases d2 : leB v.fields[j + 1].1 v.fields[j].1
        case true =>
          simp only [d2, if_true] at hf
          simp [h1, h83, h84, h85, hlt, hj, hnl, en, d1, hcall, b0, n0, wj, wj', j1, j2, j3, j4, el, d2, hf, Tryz.f148]
        simp only [d2, Bool.false_eq_true, if_false] at hf
        by_cases hz : v.fields[j + 1].2.fault = 0
        · rw [if_pos hz] at hf
          simp [h1, h83, h84, h85, hlt, hj, hnl, en, d1, hcall, b0, n0, wj, wj', j1, j2, j3, j4, el, d2, hz, wk]
          and_intros <;> first | omega | (rw [hf]; rw [hpv]) | simp [n0, b0]
        · rw [if_neg hz] at hf
          have hz2 : (v.fields[j + 1].2.fault != 0) = true := by simpa using hz
          simp [h1, h83, h84, h85, hlt, hj, hnl, en, d1, hcall, b0, n0, wj, wj', j1, j2, j3, j4, el, d2, hz2, hf, Tryz.f148]
    · obtain rfl : k = v.fields.length := by omega
      rw [List.drop_length] at hf
      have hf : v.fault = 0 := by rw [hf]; rfl
      simp [h1, h83, h84, h85, hf, Tryz.f148]
set_option maxRecDepth 100000 in
theorem checkPart_sound : ∀ n, SpecSound Tryz.prog 148 (hPure false [] (FV (fun v => int v.fault) n)) := by
  intro n
  induction n with
  | zero => exact FV_zero ⟨_, Tryz.func148, by kernel_rfl, by kernel_rfl⟩
  | succ n ih =>
    have hg : AM.Good (Ck n) (fun g => [207].contains g) := good_of mixed ⟨ih, by simp, spare_sound, by simp, seen_sound, fun _ => hPure_quiet _ _, trivial⟩
    exact pureS (fn := Tryz.f148) hg ⟨_, Tryz.func148, by kernel_rfl, rfl, by kernel_rfl⟩ false [] _ fun args r h => by
      obtain ⟨v, rfl, hv, rfl⟩ := FV_inv h
      exact ⟨Nat.le_trans (Nat.le_refl 1) (by decide), _, checkPart_eval n v hv, up_of _⟩
def Val.check (v : Val) : Int := if decide ((1000 : Int) < v.parts) || decide ((8 : Int) < v.levels) then 2 else v.fault
noncomputable abbrev Cch : Ctx := mkCtx Tryz.prog [(148, GV fun v => int v.fault), (147, GV fun v => .tup [int v.parts, int v.levels])]
set_option maxRecDepth 4000 in
theorem check_sound : SpecSound Tryz.prog 110 (GV fun v => int v.check) :=
  pureS (fn := Tryz.f110) (good_of (q := []) mixed ⟨checkPart_sound lim, by simp, count_sound lim, by simp, trivial⟩ : AM.Good Cch _) ⟨_, Tryz.func110, by kernel_rfl, rfl, by kernel_rfl⟩ false [] _ fun args r h => by
    obtain ⟨v, rfl, hv, rfl⟩ := FV_inv h
    have h1 := fun hp nx => GV_call (fun v => int v.fault) v hp nx hv.1
    have h2 := fun hp nx => GV_call (fun v => .tup [int v.parts, int v.levels]) v hp nx hv.1
    refine ⟨by simp [Tryz.f110], _, evalPure_of rfl ?_, up_of _⟩
    cases hc : (decide ((1000 : Int) < v.parts) || decide ((8 : Int) < v.levels))
    · simp [h1, h2, hc, Tryz.f110, Val.check]
    · simp [h1, h2, hc, Tryz.f110, Val.check]
end Go.Proofs.YtfjeckcbnhohmaaGreatDoor
namespace Go.Proofs.YtfjeckcbnhohmaaGreatDoor
open Go.RowKit Go.AM

inductive Cnd where
  | mk (kind : Int) (attr : List UInt8) (op : Int) (vals : List Val) (pat name : List UInt8) (args : List Cnd)
namespace Cnd
def kind : Cnd → Int | .mk k _ _ _ _ _ _ => k
def attr : Cnd → List UInt8 | .mk _ a _ _ _ _ _ => a
def op : Cnd → Int | .mk _ _ o _ _ _ _ => o
def vals : Cnd → List Val | .mk _ _ _ v _ _ _ => v
def pat : Cnd → List UInt8 | .mk _ _ _ _ p _ _ => p
def name : Cnd → List UInt8 | .mk _ _ _ _ _ n _ => n
def args : Cnd → List Cnd | .mk _ _ _ _ _ _ l => l
end Cnd
theorem Cnd.ind {P : Cnd → Prop} (h : ∀ k a o v p n l, (∀ x ∈ l, P x) → P (.mk k a o v p n l)) (c : Cnd) : P c :=
  Cnd.rec (motive_1 := P) (motive_2 := fun l => ∀ x ∈ l, P x) (fun k a o v p n l hl => h k a o v p n l hl) (by simp)
    (fun x l hx hl y hy => by
      rcases List.mem_cons.1 hy with rfl | hy
      · exact hx
      · exact hl y hy) c
mutual
/-- A condition's seven cells. -/
def Cnd.enc : Cnd → List PV
  | .mk k a o v p n l => [int k, str a, int o, .sl 5 (v.map Val.enc), str p, str n, .sl 7 (encCds l)]
def encCds : List Cnd → List (List PV)
  | [] => []
  | c :: l => c.enc :: encCds l
end

theorem encCds_map : ∀ l : List Cnd, encCds l = l.map Cnd.enc
  | [] => rfl
  | c :: l => by simp [encCds, encCds_map l]
theorem cenc_eq (c : Cnd) : c.enc = [int c.kind, str c.attr, int c.op, .sl 5 (c.vals.map Val.enc), str c.pat, str c.name, .sl 7 (c.args.map Cnd.enc)] := by
  cases c with
  | mk k a o v p n l => simp [Cnd.enc, encCds_map, Cnd.kind, Cnd.attr, Cnd.op, Cnd.vals, Cnd.pat, Cnd.name, Cnd.args]
@[simp] theorem cenc_length (c : Cnd) : c.enc.length = 7 := by rw [cenc_eq]; rfl
@[simp] theorem cenc_cells (c : Cnd) : c.enc.all PV.isCell = true := by rw [cenc_eq]; rfl
@[simp] theorem cenc_cells' (c : Cnd) : (∀ x, x ∈ c.enc → PV.isCell x = true) = True := by
  have := cenc_cells c
  rw [List.all_eq_true] at this
  exact eq_true this
@[simp] theorem cenc_take (c : Cnd) : c.enc.take 7 = c.enc := List.take_of_length_le (by simp)
@[simp] theorem cenc_0 (c : Cnd) (h : 0 < c.enc.length) : c.enc[0] = int c.kind := by simp [cenc_eq c]
@[simp] theorem cenc_1 (c : Cnd) (h : 1 < c.enc.length) : c.enc[1] = str c.attr := by simp [cenc_eq c]
@[simp] theorem cenc_2 (c : Cnd) (h : 2 < c.enc.length) : c.enc[2] = int c.op := by simp [cenc_eq c]
@[simp] theorem cenc_3 (c : Cnd) (h : 3 < c.enc.length) : c.enc[3] = .sl 5 (c.vals.map Val.enc) := by simp [cenc_eq c]
@[simp] theorem cenc_4 (c : Cnd) (h : 4 < c.enc.length) : c.enc[4] = str c.pat := by simp [cenc_eq c]
@[simp] theorem cenc_5 (c : Cnd) (h : 5 < c.enc.length) : c.enc[5] = str c.name := by simp [cenc_eq c]
@[simp] theorem cenc_6 (c : Cnd) (h : 6 < c.enc.length) : c.enc[6] = .sl 7 (c.args.map Cnd.enc) := by simp [cenc_eq c]
theorem vals_inj {a b : List Val} (h : a.map Val.enc = b.map Val.enc) : a = b := map_inj (fun _ _ => enc_inj) h
theorem cenc_inj : ∀ {a b : Cnd}, a.enc = b.enc → a = b := by
  intro a
  induction a using Cnd.ind with
  | h k a o v p n l hl =>
    intro b e
    cases b with
    | mk k' a' o' v' p' n' l' =>
      simp only [cenc_eq, Cnd.kind, Cnd.attr, Cnd.op, Cnd.vals, Cnd.pat, Cnd.name, Cnd.args, List.cons.injEq, and_true] at e
      obtain ⟨e1, e2, e3, e4, e5, e6, e7⟩ := e
      obtain rfl := pint_inj e1
      obtain rfl := str_inj e2
      obtain rfl := pint_inj e3
      injection e4 with _ e4
      obtain rfl := vals_inj e4
      obtain rfl := str_inj e5
      obtain rfl := str_inj e6
      injection e7 with _ e7
      rw [map_inj_on (fun x hx y => hl x hx) e7]
mutual
/-- How much a condition holds. -/
def Cnd.cb : Cnd → Nat
  | .mk _ a _ v p n l => 1 + a.length + vbs v + p.length + n.length + cbs l
def cbs : List Cnd → Nat
  | [] => 0
  | c :: l => c.cb + cbs l
end

theorem cb_eq (c : Cnd) : c.cb = 1 + c.attr.length + vbs c.vals + c.pat.length + c.name.length + cbs c.args := by cases c; rfl
theorem cb_pos (c : Cnd) : 0 < c.cb := by rw [cb_eq]; omega
theorem cbs_mem : ∀ {l : List Cnd} {x : Cnd}, x ∈ l → x.cb ≤ cbs l
  | y :: l, x, h => by
    simp only [cbs]
    rcases List.mem_cons.1 h with rfl | h
    · omega
    · have := cbs_mem h; omega
theorem cbs_length : ∀ l : List Cnd, l.length ≤ cbs l
  | [] => by simp [cbs]
  | c :: l => by have := cbs_length l; have := cb_pos c; simp only [cbs, List.length_cons]; omega
mutual
def Cnd.parts : Cnd → Nat
  | .mk _ _ _ _ _ _ l => 1 + partsC l
def partsC : List Cnd → Nat
  | [] => 0
  | c :: l => c.parts + partsC l
end

mutual
def Cnd.levels : Cnd → Nat
  | .mk _ _ _ _ _ _ l => levelsC l + 1
def levelsC : List Cnd → Nat
  | [] => 0
  | c :: l => max c.levels (levelsC l)
end

theorem cparts_eq (c : Cnd) : c.parts = 1 + partsC c.args := by cases c; rfl
theorem clevels_eq (c : Cnd) : c.levels = levelsC c.args + 1 := by cases c; rfl
theorem partsC_le' (l : List Cnd) (h : ∀ x ∈ l, x.parts ≤ x.cb) : partsC l ≤ cbs l := by
  induction l with
  | nil => simp [partsC]
  | cons v l ih => have := h v (by simp); have := ih fun x hx => h x (by simp [hx]); simp only [partsC, cbs]; omega
theorem cparts_le (c : Cnd) : c.parts ≤ c.cb := by
  induction c using Cnd.ind with
  | h k a o v p n l hl =>
    have := partsC_le' l hl
    rw [cparts_eq, cb_eq]
    simp only [Cnd.args]
    omega
theorem levelsC_le' (l : List Cnd) (h : ∀ x ∈ l, x.levels ≤ x.parts) : levelsC l ≤ partsC l := by
  induction l with
  | nil => simp [levelsC]
  | cons v l ih => have := h v (by simp); have := ih fun x hx => h x (by simp [hx]); simp only [partsC, levelsC]; omega
theorem clevels_le (c : Cnd) : c.levels ≤ c.parts := by
  induction c using Cnd.ind with
  | h k a o v p n l hl =>
    have := levelsC_le' l hl
    rw [cparts_eq, clevels_eq]
    simp only [Cnd.args]
    omega
theorem partsC_append (a b : List Cnd) : partsC (a ++ b) = partsC a + partsC b := by
  induction a with
  | nil => simp [partsC]
  | cons v a ih => simp only [List.cons_append, partsC, ih]; omega
theorem levelsC_append (a b : List Cnd) : levelsC (a ++ b) = max (levelsC a) (levelsC b) := by
  induction a with
  | nil => simp [levelsC]
  | cons v a ih => simp only [List.cons_append, levelsC, ih]; omega
theorem takeC {l : List Cnd} {k : Nat} (h : k < l.length) : partsC (l.take (k + 1)) = partsC (l.take k) + l[k].parts ∧ levelsC (l.take (k + 1)) = max (levelsC (l.take k)) l[k].levels := by
  rw [List.take_succ_eq_append_getElem h, partsC_append, levelsC_append]
  simp [partsC, levelsC]
theorem partsC_le (l : List Cnd) (k : Nat) : partsC (l.take k) ≤ partsC l := by
  have := partsC_append (l.take k) (l.drop k)
  rw [List.take_append_drop] at this
  omega
/-- A function of a condition. -/
noncomputable def FC (out : Cnd → PV) (n : Nat) : List PV → Option PV := specOf (α := Cnd) (fun c => [.agg c.enc]) (fun c => c.cb ≤ lim ∧ c.cb ≤ n) out
theorem FC_eq (out : Cnd → PV) (n : Nat) (c : Cnd) (h : c.cb ≤ lim ∧ c.cb ≤ n) : FC out n [.agg c.enc] = some (out c) :=
  specOf_eq (enc := fun c : Cnd => [.agg c.enc]) (a := c) (fun a b e => by simp only [List.cons.injEq, and_true, PV.agg.injEq] at e; exact cenc_inj e) h
@[simp] theorem freezeCells_cenc (hp : Hp) (c : Cnd) : freezeCells hp c.enc = some (c.enc, hp) := by rw [cenc_eq]; simp
theorem freeze_cenc (hp : Hp) (c : Cnd) : freezeVal hp (.agg c.enc) = some (.agg c.enc, hp) := by
  rw [cenc_eq]
  simp
theorem noOwn_cenc (c : Cnd) : PV.noOwn (.agg c.enc) = true := by
  rw [cenc_eq]
  simp
theorem FC_call (out : Cnd → PV) (n : Nat) (c : Cnd) (hp : Hp) (nx : Nat) (h : c.cb ≤ lim ∧ c.cb ≤ n) : hPure false [] (FC out n) [.agg c.enc] hp nx = some (out c, hp, nx) :=
  hPure_v (hp1 := hp) (show freezeVals hp [.agg c.enc] = some ([.agg c.enc], hp) by simp only [freezeVals, freeze_cenc]) (FC_eq out n c h) (.inr (by simp only [List.all_cons, noOwn_cenc, List.all_nil, Bool.and_self]))
theorem FC_inv {out : Cnd → PV} {n : Nat} {args : List PV} {r : PV} (h : FC out n args = some r) : ∃ c : Cnd, args = [.agg c.enc] ∧ (c.cb ≤ lim ∧ c.cb ≤ n) ∧ r = out c := specOf_inv h
/-- Nothing is said. -/
theorem FC_zero {out : Cnd → PV} {f : FuncId} (hfn : ∃ fn, Tryz.prog.funcs[f]? = some fn ∧ (fn.name == "runtime.NumGoroutine") = false ∧ fn.body.isNone = false) : SpecSound Tryz.prog f (hPure false [] (FC out 0)) := by
  refine ⟨hfn, fun args hp nx r hp' nx' h => ?_⟩
  unfold hPure at h
  split at h
  · split at h
    · rename_i r0 hF
      obtain ⟨c, _, hc, _⟩ := FC_inv hF
      have := cb_pos c
      omega
    · cases h
  · cases h
/-- A function of a condition, whatever its bulk up to the bound. -/
noncomputable abbrev GC (out : Cnd → PV) : AM.Spec := hPure false [] (FC out lim)
theorem GC_call (out : Cnd → PV) (c : Cnd) (hp : Hp) (nx : Nat) (h : c.cb ≤ lim) : GC out [.agg c.enc] hp nx = some (out c, hp, nx) := FC_call out lim c hp nx ⟨h, h⟩
end Go.Proofs.YtfjeckcbnhohmaaGreatDoor
