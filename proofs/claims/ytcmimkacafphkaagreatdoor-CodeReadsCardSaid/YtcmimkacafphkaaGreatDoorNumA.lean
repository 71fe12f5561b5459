import Derived.Lib.IndexMore
import Derived.Test.YtcmimkacafphkaaGreatDoorRoA
import Derived.Test.YtcmimkacafphkaaGreatDoorFun2
import Derived.Test.YtcmimkacafphkaaGreatDoorAmOpenF
set_option linter.all false
/- words and names as plain data -/
set_option maxHeartbeats 4000000
namespace Go.AM.Cap
open Go.AM Go.Proofs
theorem zbja {s p : List UInt8} : Lib.contains s p = true ↔ p <:+: s := by
  unfold Lib.contains
  rw [decide_eq_true_eq]
  constructor
  · intro h
    rcases Lib.index_spec s p with ⟨h1, _⟩ | ⟨i, _, h2, h3, _⟩
    · omega
    · unfold Lib.occAt at h3
      rw [List.isPrefixOf_iff_prefix] at h3
      exact h3.isInfix.trans (List.drop_suffix i s).isInfix
  · rintro ⟨a, b, rfl⟩
    rcases Lib.index_spec (a ++ p ++ b) p with ⟨_, h2⟩ | ⟨i, h1, _⟩
    · have := h2 a.length (by simp)
      unfold Lib.occAt at this
      rw [List.append_assoc, List.drop_left] at this
      have h3 : p.isPrefixOf (p ++ b) = true := List.isPrefixOf_iff_prefix.2 (List.prefix_append p b)
      rw [h3] at this
      cases this
    · omega
def z9e : List (List UInt8) → List UInt8
  | [] => [32]
  | w :: l => 32 :: (w ++ z9e l)
theorem zbqa {s w : List UInt8} {l : List UInt8} (hs : ∀ b ∈ s, b ≠ 32) (hw : ∀ b ∈ w, b ≠ 32) (h : (s ++ [32]) <+: (w ++ 32 :: l)) : s = w := by
  induction s generalizing w with
  | nil =>
    cases w with
    | nil => rfl
    | cons c w =>
      simp only [List.nil_append, List.cons_append, List.cons_prefix_cons] at h
      exact (hw c (by simp) h.1.symm).elim
  | cons b s ih =>
    cases w with
    | nil =>
      simp only [List.nil_append, List.cons_append, List.cons_prefix_cons] at h
      exact (hs b (by simp) h.1).elim
    | cons c w =>
      simp only [List.cons_append, List.cons_prefix_cons] at h
      obtain ⟨rfl, h⟩ := h
      rw [ih (fun b hb => hs b (by simp [hb])) (fun b hb => hw b (by simp [hb])) h]
theorem zbso {p w l : List UInt8} (hw : ∀ b ∈ w, b ≠ 32) (h : (32 :: p) <:+: (w ++ l)) : (32 :: p) <:+: l := by
  induction w with
  | nil => exact h
  | cons c w ih =>
    rw [List.cons_append, List.infix_cons_iff] at h
    rcases h with h | h
    · rw [List.cons_prefix_cons] at h
      exact (hw c (by simp) h.1.symm).elim
    · exact ih (fun b hb => hw b (by simp [hb])) h
theorem zble (l : List (List UInt8)) : ∃ r, z9e l = 32 :: r := by
  cases l with
  | nil => exact ⟨_, rfl⟩
  | cons w l => exact ⟨_, rfl⟩
theorem zbd1 {s : List UInt8} (hs : ∀ b ∈ s, b ≠ 32) (hn : s ≠ []) : ∀ {l : List (List UInt8)}, (∀ w ∈ l, ∀ b ∈ w, b ≠ 32) → ((32 :: (s ++ [32])) <:+: z9e l ↔ s ∈ l)
  | [], _ => by
    constructor
    · intro h
      have := h.length_le
      have h2 : s.length ≠ 0 := fun q => hn (List.eq_nil_of_length_eq_zero q)
      simp [z9e] at this
    · simp
  | w :: l, hw => by
    have hw0 := hw w (by simp)
    have ih := zbd1 hs hn (l := l) (fun w hw' => hw w (by simp [hw']))
    obtain ⟨r, hr⟩ := zble l
    rw [z9e, List.infix_cons_iff, List.mem_cons]
    constructor
    · rintro (h | h)
      · rw [List.cons_prefix_cons] at h
        rw [hr] at h
        exact .inl (zbqa hs hw0 h.2)
      · exact .inr (ih.1 (zbso hw0 h))
    · rintro (rfl | h)
      · left
        rw [List.cons_prefix_cons, hr]
        exact ⟨rfl, r, by simp⟩
      · exact .inr ((ih.2 h).trans (List.suffix_append w _).isInfix)
def zff : ByteArray := ⟨#[65, 66, 67, 68, 69, 70, 71, 72, 73, 74, 75, 76, 77, 78, 79, 80, 81, 82, 83, 84, 85, 86, 87, 88, 89, 90, 95, 48, 49, 50, 51, 52, 53, 54, 55, 56, 57]⟩
theorem zbd2 : ∀ b ∈ bv zff, b.toNat < 128 := by decide +kernel
def zbsp : List (List UInt8) := [[80, 82, 79, 71, 82, 65, 77], [69, 78, 68, 95, 80, 82, 79, 71, 82, 65, 77], [86, 65, 82], [86, 65, 82, 95, 73, 78, 80, 85, 84], [86, 65, 82, 95, 79, 85, 84, 80, 85, 84], [69, 78, 68, 95, 86, 65, 82], [65, 82, 82, 65, 89], [79, 70], [66, 79, 79, 76], [73, 78, 84], [68, 73, 78, 84], [84, 73, 77, 69], [84, 79, 78], [84, 79, 70], [84, 80], [67, 84, 85], [67, 84, 68], [82, 95, 84, 82, 73, 71], [70, 95, 84, 82, 73, 71], [83, 82], [82, 83], [81, 85, 65, 68], [73, 70], [84, 72, 69, 78], [69, 76, 83, 73, 70], [69, 76, 83, 69], [69, 78, 68, 95, 73, 70], [67, 65, 83, 69], [69, 78, 68, 95, 67, 65, 83, 69], [87, 72, 73, 76, 69], [68, 79], [69, 78, 68, 95, 87, 72, 73, 76, 69], [70, 79, 82], [84, 79], [66, 89], [69, 78, 68, 95, 70, 79, 82], [82, 69, 80, 69, 65, 84], [85, 78, 84, 73, 76], [69, 78, 68, 95, 82, 69, 80, 69, 65, 84], [69, 88, 73, 84], [82, 69, 84, 85, 82, 78], [65, 78, 68], [79, 82], [88, 79, 82], [78, 79, 84], [77, 79, 68], [84, 82, 85, 69], [70, 65, 76, 83, 69], [84, 79, 95, 73, 78, 84], [84, 79, 95, 68, 73, 78, 84], [84, 79, 95, 84, 73, 77, 69]]
def zz5 : List ByteArray := zbsp.map fun l => ⟨l.toArray⟩
def zboh : ByteArray := ⟨#[32, 80, 82, 79, 71, 82, 65, 77, 32, 69, 78, 68, 95, 80, 82, 79, 71, 82, 65, 77, 32, 86, 65, 82, 32, 86, 65, 82, 95, 73, 78, 80, 85, 84, 32, 86, 65, 82, 95, 79, 85, 84, 80, 85, 84, 32, 69, 78, 68, 95, 86, 65, 82, 32, 65, 82, 82, 65, 89, 32, 79, 70, 32, 66, 79, 79, 76, 32, 73, 78, 84, 32, 68, 73, 78, 84, 32, 84, 73, 77, 69, 32, 84, 79, 78, 32, 84, 79, 70, 32, 84, 80, 32, 67, 84, 85, 32, 67, 84, 68, 32, 82, 95, 84, 82, 73, 71, 32, 70, 95, 84, 82, 73, 71, 32, 83, 82, 32, 82, 83, 32, 81, 85, 65, 68, 32, 73, 70, 32, 84, 72, 69, 78, 32, 69, 76, 83, 73, 70, 32, 69, 76, 83, 69, 32, 69, 78, 68, 95, 73, 70, 32, 67, 65, 83, 69, 32, 69, 78, 68, 95, 67, 65, 83, 69, 32, 87, 72, 73, 76, 69, 32, 68, 79, 32, 69, 78, 68, 95, 87, 72, 73, 76, 69, 32, 70, 79, 82, 32, 84, 79, 32, 66, 89, 32, 69, 78, 68, 95, 70, 79, 82, 32, 82, 69, 80, 69, 65, 84, 32, 85, 78, 84, 73, 76, 32, 69, 78, 68, 95, 82, 69, 80, 69, 65, 84, 32, 69, 88, 73, 84, 32, 82, 69, 84, 85, 82, 78, 32, 65, 78, 68, 32, 79, 82, 32, 88, 79, 82, 32, 78, 79, 84, 32, 77, 79, 68, 32, 84, 82, 85, 69, 32, 70, 65, 76, 83, 69, 32, 84, 79, 95, 73, 78, 84, 32, 84, 79, 95, 68, 73, 78, 84, 32, 84, 79, 95, 84, 73, 77, 69, 32]⟩
theorem zbsq : zboh.data.toList = z9e zbsp := by decide +kernel
theorem zblf : ∀ w ∈ zbsp, ∀ b ∈ w, b ≠ 32 := by decide +kernel
def zbsr : ByteArray := ⟨#[48, 49, 50, 51, 52, 53, 54, 55, 56, 57]⟩
def zo0 (s : ByteArray) : Bool := decide (s ≠ ⟨#[]⟩ ∧ s.size ≤ 24) && (bv s).all (inS (bv zff)) && !decide (48 ≤ ((bv s).getD 0 0).toNat ∧ ((bv s).getD 0 0).toNat ≤ 57)
def zbal (s : ByteArray) : Bool := zz5.any fun k => decide (k = s)
def zv2 (s : ByteArray) : Bool := zo0 s && !zbal s
theorem z9f {s : ByteArray} : zbal s = true ↔ s ∈ zz5 := by simp [zbal]
theorem zbqb : ∀ b : BitVec 8, Lib.contains zbsr.data.toList [UInt8.ofBitVec b] = decide (48 ≤ b.toNat ∧ b.toNat ≤ 57) := by
  have h : ∀ n : Fin 256, Lib.contains zbsr.data.toList [UInt8.ofBitVec (BitVec.ofFin n)] = decide (48 ≤ (BitVec.ofFin (w := 8) n).toNat ∧ (BitVec.ofFin (w := 8) n).toNat ≤ 57) := by decide +kernel
  intro b
  exact h b.toFin
theorem zbd3 : ∀ b : BitVec 8, inS (bv zff) b = decide ((65 ≤ b.toNat ∧ b.toNat ≤ 90) ∨ (48 ≤ b.toNat ∧ b.toNat ≤ 57) ∨ b.toNat = 95) := by
  have h : ∀ n : Fin 256, inS (bv zff) (BitVec.ofFin n) = decide ((65 ≤ (BitVec.ofFin (w := 8) n).toNat ∧ (BitVec.ofFin (w := 8) n).toNat ≤ 90) ∨ (48 ≤ (BitVec.ofFin (w := 8) n).toNat ∧ (BitVec.ofFin (w := 8) n).toNat ≤ 57) ∨ (BitVec.ofFin (w := 8) n).toNat = 95) := by decide +kernel
  intro b
  exact h b.toFin
theorem zbnh {s : ByteArray} (h : (bv s).all (inS (bv zff)) = true) : ∀ b ∈ s.data.toList, b ≠ 32 := by
  intro b hb e
  subst e
  have h1 := List.all_eq_true.1 h (UInt8.toBitVec 32) (List.mem_map_of_mem hb)
  rw [zbd3] at h1
  revert h1
  decide
theorem zbss {s : ByteArray} (h : (bv s).all (inS (bv zff)) = true) (hn : s ≠ ⟨#[]⟩) : Lib.contains zboh.data.toList (32 :: (s.data.toList ++ [32])) = zbal s := by
  rw [Bool.eq_iff_iff, zbja, z9f, zbsq, zbd1 (zbnh h) (fun q => hn (by cases s with | mk d => simp at q; rw [q])) zblf]
  unfold zz5
  rw [List.mem_map]
  constructor
  · exact fun q => ⟨_, q, by cases s; simp⟩
  · rintro ⟨l, hl, rfl⟩
    simpa using hl
end Go.AM.Cap

/- num: which values fit -/
namespace Go.AM.Cap
open Go.AM Go.Proofs
theorem zgd (n : Int) : zj .and (i64 n) (i64 1) = some (i64 (n % 2)) := by
  have h1 : (BitVec.ofInt 64 n &&& BitVec.ofInt 64 1).toNat = (n % 2).toNat := by
    rw [show BitVec.ofInt 64 1 = 1#64 from rfl, BitVec.toNat_and, show (1#64).toNat = 2 ^ 1 - 1 from rfl, Nat.and_two_pow_sub_one_eq_mod, BitVec.toNat_ofInt]
    omega
  have e : zj .and (i64 n) (i64 1) = some (.int .i64 (IntKind.i64.wrap ((BitVec.ofInt 64 n &&& BitVec.ofInt 64 1).toNat : Int))) := rfl
  rw [e, h1, i64_in (by omega) (by omega)]
  congr 2
  omega
theorem zbst (n : Int) : IntKind.i16.wrap n = (n + 32768) % 65536 - 32768 := by simp [IntKind.wrap, IntKind.signed, IntKind.bits]; omega
theorem zbsu (n : Int) : IntKind.i32.wrap n = (n + 2147483648) % 4294967296 - 2147483648 := by simp [IntKind.wrap, IntKind.signed, IntKind.bits]; omega
def fits (t n : Int) : Prop := (t = 1 ∧ (n = 0 ∨ n = 1)) ∨ (t = 2 ∧ -32768 ≤ n ∧ n ≤ 32767) ∨ ((t = 3 ∨ t = 4) ∧ -2147483648 ≤ n ∧ n ≤ 2147483647)
instance (t n : Int) : Decidable (fits t n) := by unfold fits; exact inferInstance
theorem zj4 (t : Int) : zhl [i64 t] = ret (.bool (decide (1 ≤ t ∧ t ≤ 4))) := zwc fun H => by
  show wp (zvt (i64 t)) _ H
  (repeat' (first | (simp (maxSteps := 1000000) (disch := first | omega | (simp only [Z3]; omega) | (simp; done) | assumption | decide | (refine not_not_intro ?_; assumption)) only [Z1, Z2, splice, zvt]) | (refine zfl (fun _ => ?_) (fun _ => ?_)) | (refine zhj (fun _ => ?_) (fun _ => ?_)) | (refine zgk (fun _ => ?_) (fun _ => ?_)) | (refine zex (fun _ => ?_) (fun _ => ?_)) | (refine ziu (fun _ => ?_) (fun _ => ?_)) | (refine znh (fun _ => ?_) (fun _ => ?_)) | (refine zkd (fun _ => ?_) (fun _ => ?_)) | (refine zhk (fun _ => ?_) (fun _ => ?_))))
  all_goals refine ⟨?_, by trivial⟩
  all_goals ((try simp only [true_and, and_true, false_and, and_false, true_or, or_true, false_or, or_false]); (try ((repeat' split) <;> (first | rfl | omega | (refine congrArg (Value.int _) ?_; omega) | (refine congrArg Value.bool ?_; apply decide_eq_decide.mpr; omega) | (refine congrArg Value.bool ?_; exact (decide_eq_false (by omega)).symm) | (refine congrArg Value.bool ?_; exact (decide_eq_true (by omega)).symm) | (exfalso; omega) | (simp_all; done) | (refine congrArg Value.bool ?_; apply decide_eq_decide.mpr; simp_all; done)))))
def zbsv (t n : Int) : Int := if t = 1 then n % 2 else if t = 2 then (n + 32768) % 65536 - 32768 else (n + 2147483648) % 4294967296 - 2147483648
theorem zsa (t n : Int) : zg8 [i64 t, i64 n] = ret (i64 (zbsv t n)) := zwc fun H => by
  show wp (zyx (i64 t) (i64 n)) _ H
  (repeat' (first | (simp (maxSteps := 1000000) (disch := first | omega | (simp only [Z3]; omega) | (simp; done) | assumption | decide | (refine not_not_intro ?_; assumption)) only [Z1, Z2, splice, zyx, zgd, zbac, zyk, zbst, zbsu]) | (refine zfl (fun _ => ?_) (fun _ => ?_)) | (refine zhj (fun _ => ?_) (fun _ => ?_)) | (refine zgk (fun _ => ?_) (fun _ => ?_)) | (refine zex (fun _ => ?_) (fun _ => ?_)) | (refine ziu (fun _ => ?_) (fun _ => ?_)) | (refine znh (fun _ => ?_) (fun _ => ?_)) | (refine zkd (fun _ => ?_) (fun _ => ?_)) | (refine zhk (fun _ => ?_) (fun _ => ?_))))
  all_goals refine ⟨?_, by trivial⟩
  all_goals ((try simp only [zbsv, true_and, and_true, false_and, and_false, true_or, or_true, false_or, or_false]); (try ((repeat' split) <;> (first | rfl | omega | (refine congrArg (Value.int _) ?_; omega) | (refine congrArg Value.bool ?_; apply decide_eq_decide.mpr; omega) | (refine congrArg Value.bool ?_; exact (decide_eq_false (by omega)).symm) | (refine congrArg Value.bool ?_; exact (decide_eq_true (by omega)).symm) | (exfalso; omega) | (simp_all; done) | (refine congrArg Value.bool ?_; apply decide_eq_decide.mpr; simp_all; done)))))
theorem zhn (t n : Int) : zep [i64 t, i64 n] = ret (.bool (decide (fits t n))) := zwc fun H => by
  show wp (zyy (i64 t) (i64 n)) _ H
  (repeat' (first | (simp (maxSteps := 1000000) (disch := first | omega | (simp only [Z3]; omega) | (simp; done) | assumption | decide | (refine not_not_intro ?_; assumption)) only [Z1, Z2, splice, zyy, zj4, zsa]) | (refine zfl (fun _ => ?_) (fun _ => ?_)) | (refine zhj (fun _ => ?_) (fun _ => ?_)) | (refine zgk (fun _ => ?_) (fun _ => ?_)) | (refine zex (fun _ => ?_) (fun _ => ?_)) | (refine ziu (fun _ => ?_) (fun _ => ?_)) | (refine znh (fun _ => ?_) (fun _ => ?_)) | (refine zkd (fun _ => ?_) (fun _ => ?_)) | (refine zhk (fun _ => ?_) (fun _ => ?_))))
  all_goals refine ⟨?_, by trivial⟩
  all_goals (simp only [zbsv, fits]; ((try simp only [true_and, and_true, false_and, and_false, true_or, or_true, false_or, or_false]); (try ((repeat' split) <;> (first | rfl | omega | (refine congrArg (Value.int _) ?_; omega) | (refine congrArg Value.bool ?_; apply decide_eq_decide.mpr; omega) | (refine congrArg Value.bool ?_; exact (decide_eq_false (by omega)).symm) | (refine congrArg Value.bool ?_; exact (decide_eq_true (by omega)).symm) | (exfalso; omega) | (simp_all; done) | (refine congrArg Value.bool ?_; apply decide_eq_decide.mpr; simp_all; done))))))
theorem zi1 (t : Int) : zgr [i64 t] = ret (.bool (decide (1 ≤ t ∧ t ≤ 4))) := zwc fun H => by
  show wp (zt0 (i64 t)) _ H
  (repeat' (first | (simp (maxSteps := 1000000) (disch := first | omega | (simp only [Z3]; omega) | (simp; done) | assumption | decide | (refine not_not_intro ?_; assumption)) only [Z1, Z2, splice, zt0]) | (refine zfl (fun _ => ?_) (fun _ => ?_)) | (refine zhj (fun _ => ?_) (fun _ => ?_)) | (refine zgk (fun _ => ?_) (fun _ => ?_)) | (refine zex (fun _ => ?_) (fun _ => ?_)) | (refine ziu (fun _ => ?_) (fun _ => ?_)) | (refine znh (fun _ => ?_) (fun _ => ?_)) | (refine zkd (fun _ => ?_) (fun _ => ?_)) | (refine zhk (fun _ => ?_) (fun _ => ?_))))
  all_goals refine ⟨?_, by trivial⟩
  all_goals ((try simp only [true_and, and_true, false_and, and_false, true_or, or_true, false_or, or_false]); (try ((repeat' split) <;> (first | rfl | omega | (refine congrArg (Value.int _) ?_; omega) | (refine congrArg Value.bool ?_; apply decide_eq_decide.mpr; omega) | (refine congrArg Value.bool ?_; exact (decide_eq_false (by omega)).symm) | (refine congrArg Value.bool ?_; exact (decide_eq_true (by omega)).symm) | (exfalso; omega) | (simp_all; done) | (refine congrArg Value.bool ?_; apply decide_eq_decide.mpr; simp_all; done)))))
theorem z4z (t : Int) : zm2 [i64 t] = ret (i64 (if t = 2 then 65536 else 4294967296)) := zwc fun H => by
  show wp (zt1 (i64 t)) _ H
  (repeat' (first | (simp (maxSteps := 1000000) (disch := first | omega | (simp only [Z3]; omega) | (simp; done) | assumption | decide | (refine not_not_intro ?_; assumption)) only [Z1, Z2, splice, zt1, z4q]) | (refine zfl (fun _ => ?_) (fun _ => ?_)) | (refine zhj (fun _ => ?_) (fun _ => ?_)) | (refine zgk (fun _ => ?_) (fun _ => ?_)) | (refine zex (fun _ => ?_) (fun _ => ?_)) | (refine ziu (fun _ => ?_) (fun _ => ?_)) | (refine znh (fun _ => ?_) (fun _ => ?_)) | (refine zkd (fun _ => ?_) (fun _ => ?_)) | (refine zhk (fun _ => ?_) (fun _ => ?_))))
  all_goals refine ⟨?_, by trivial⟩
  all_goals ((try simp only [true_and, and_true, false_and, and_false, true_or, or_true, false_or, or_false]); (try ((repeat' split) <;> (first | rfl | omega | (refine congrArg (Value.int _) ?_; omega) | (refine congrArg Value.bool ?_; apply decide_eq_decide.mpr; omega) | (refine congrArg Value.bool ?_; exact (decide_eq_false (by omega)).symm) | (refine congrArg Value.bool ?_; exact (decide_eq_true (by omega)).symm) | (exfalso; omega) | (simp_all; done) | (refine congrArg Value.bool ?_; apply decide_eq_decide.mpr; simp_all; done)))))
theorem zboi (k : IntKind) (n : Int) : un .neg (.int k n) = some (.int k (k.wrap (0 - n))) := rfl
theorem zbv9 : Int.tdiv 65536 2 = (32768 : Int) := by decide
theorem zbwa : Int.tdiv (0 - 65536) 2 = (-32768 : Int) := by decide
theorem zbwb : Int.tdiv 4294967296 2 = (2147483648 : Int) := by decide
theorem zbwc : Int.tdiv (0 - 4294967296) 2 = (-2147483648 : Int) := by decide
theorem zwy (t n : Int) : zj3 [i64 t, i64 n] = ret (.bool (decide (fits t n))) := zwc fun H => by
  show wp (zqf (i64 t) (i64 n)) _ H
  by_cases h2 : t = 2
  · subst h2
    (repeat' (first | (simp (maxSteps := 1000000) (disch := first | omega | (simp only [Z3]; omega) | (simp; done) | assumption | decide | (refine not_not_intro ?_; assumption)) only [Z1, Z2, splice, zqf, zww, zi1, z4z, zboi, zbof, zbv9, zbwa, zbwb, zbwc]) | (refine zfl (fun _ => ?_) (fun _ => ?_)) | (refine zhj (fun _ => ?_) (fun _ => ?_)) | (refine zgk (fun _ => ?_) (fun _ => ?_)) | (refine zex (fun _ => ?_) (fun _ => ?_)) | (refine ziu (fun _ => ?_) (fun _ => ?_)) | (refine znh (fun _ => ?_) (fun _ => ?_)) | (refine zkd (fun _ => ?_) (fun _ => ?_)) | (refine zhk (fun _ => ?_) (fun _ => ?_))))
    all_goals refine ⟨?_, by trivial⟩
    all_goals (simp only [fits]; ((try simp only [true_and, and_true, false_and, and_false, true_or, or_true, false_or, or_false]); (try ((repeat' split) <;> (first | rfl | omega | (refine congrArg (Value.int _) ?_; omega) | (refine congrArg Value.bool ?_; apply decide_eq_decide.mpr; omega) | (refine congrArg Value.bool ?_; exact (decide_eq_false (by omega)).symm) | (refine congrArg Value.bool ?_; exact (decide_eq_true (by omega)).symm) | (exfalso; omega) | (simp_all; done) | (refine congrArg Value.bool ?_; apply decide_eq_decide.mpr; simp_all; done))))))
  · (repeat' (first | (simp (maxSteps := 1000000) (disch := first | omega | (simp only [Z3]; omega) | (simp; done) | assumption | decide | (refine not_not_intro ?_; assumption)) only [Z1, Z2, splice, zqf, zww, zi1, z4z, zboi, zbof, zbv9, zbwa, zbwb, zbwc, if_neg h2]) | (refine zfl (fun _ => ?_) (fun _ => ?_)) | (refine zhj (fun _ => ?_) (fun _ => ?_)) | (refine zgk (fun _ => ?_) (fun _ => ?_)) | (refine zex (fun _ => ?_) (fun _ => ?_)) | (refine ziu (fun _ => ?_) (fun _ => ?_)) | (refine znh (fun _ => ?_) (fun _ => ?_)) | (refine zkd (fun _ => ?_) (fun _ => ?_)) | (refine zhk (fun _ => ?_) (fun _ => ?_))))
    all_goals refine ⟨?_, by trivial⟩
    all_goals (simp only [fits]; ((try simp only [true_and, and_true, false_and, and_false, true_or, or_true, false_or, or_false]); (try ((repeat' split) <;> (first | rfl | omega | (refine congrArg (Value.int _) ?_; omega) | (refine congrArg Value.bool ?_; apply decide_eq_decide.mpr; omega) | (refine congrArg Value.bool ?_; exact (decide_eq_false (by omega)).symm) | (refine congrArg Value.bool ?_; exact (decide_eq_true (by omega)).symm) | (exfalso; omega) | (simp_all; done) | (refine congrArg Value.bool ?_; apply decide_eq_decide.mpr; simp_all; done))))))
end Go.AM.Cap
