import Derived.Lib.IndexMore
import Derived.Test.YtcmimkacafphkaaGreatDoorRoA
set_option linter.all false
/- words and names as plain data -/
set_option maxHeartbeats 4000000
namespace Go.AM.Cap
open Go.AM Go.Proofs

theorem contains_iff {s p : List UInt8} : Lib.contains s p = true ↔ p <:+: s := by
  unfold Lib.contains
  rw [decide_eq_true_eq]
  constructor
  · intro h
    rcases Lib.index_spec s p with ⟨h1, _⟩ | ⟨i, _, h2, h3, _⟩
    · omega
    · unfold Lib.occAt at h3
      rw [List.isPrefixOf_iff_prefix] at h3
      exact h3.isInfix.trans (List.drop_suffix i s).isInfix
  · rintro ⟨a, b, rfl⟩
    rcases Lib.index_spec (a ++ p ++ b) p with ⟨_, h2⟩ | ⟨i, h1, _⟩
    · have := h2 a.length (by simp)
      unfold Lib.occAt at this
      rw [List.append_assoc, List.drop_left] at this
      have h3 : p.isPrefixOf (p ++ b) = true := List.isPrefixOf_iff_prefix.2 (List.prefix_append p b)
      rw [h3] at this
      cases this
    · omega
/-- words, a blank ahead of each and behind all -/
def spaced : List (List UInt8) → List UInt8
  | [] => [32]
  | w :: l => 32 :: (w ++ spaced l)
theorem pre_words {s w : List UInt8} {l : List UInt8} (hs : ∀ b ∈ s, b ≠ 32) (hw : ∀ b ∈ w, b ≠ 32) (h : (s ++ [32]) <+: (w ++ 32 :: l)) : s = w := by
  induction s generalizing w with
  | nil =>
    cases w with
    | nil => rfl
    | cons c w =>
      simp only [List.nil_append, List.cons_append, List.cons_prefix_cons] at h
      exact (hw c (by simp) h.1.symm).elim
  | cons b s ih =>
    cases w with
    | nil =>
      simp only [List.nil_append, List.cons_append, List.cons_prefix_cons] at h
      exact (hs b (by simp) h.1).elim
    | cons c w =>
      simp only [List.cons_append, List.cons_prefix_cons] at h
      obtain ⟨rfl, h⟩ := h
      rw [ih (fun b hb => hs b (by simp [hb])) (fun b hb => hw b (by simp [hb])) h]
theorem inf_skip {p w l : List UInt8} (hw : ∀ b ∈ w, b ≠ 32) (h : (32 :: p) <:+: (w ++ l)) : (32 :: p) <:+: l := by
  induction w with
  | nil => exact h
  | cons c w ih =>
    rw [List.cons_append, List.infix_cons_iff] at h
    rcases h with h | h
    · rw [List.cons_prefix_cons] at h
      exact (hw c (by simp) h.1.symm).elim
    · exact ih (fun b hb => hw b (by simp [hb])) h
theorem spaced_head (l : List (List UInt8)) : ∃ r, spaced l = 32 :: r := by
  cases l with
  | nil => exact ⟨_, rfl⟩
  | cons w l => exact ⟨_, rfl⟩
theorem spaced_iff {s : List UInt8} (hs : ∀ b ∈ s, b ≠ 32) (hn : s ≠ []) : ∀ {l : List (List UInt8)}, (∀ w ∈ l, ∀ b ∈ w, b ≠ 32) → ((32 :: (s ++ [32])) <:+: spaced l ↔ s ∈ l)
  | [], _ => by
    constructor
    · intro h
      have := h.length_le
      have h2 : s.length ≠ 0 := fun q => hn (List.eq_nil_of_length_eq_zero q)
      simp [spaced] at this
    · simp
  | w :: l, hw => by
    have hw0 := hw w (by simp)
    have ih := spaced_iff hs hn (l := l) (fun w hw' => hw w (by simp [hw']))
    obtain ⟨r, hr⟩ := spaced_head l
    rw [spaced, List.infix_cons_iff, List.mem_cons]
    constructor
    · rintro (h | h)
      · rw [List.cons_prefix_cons] at h
        rw [hr] at h
        exact .inl (pre_words hs hw0 h.2)
      · exact .inr (ih.1 (inf_skip hw0 h))
    · rintro (rfl | h)
      · left
        rw [List.cons_prefix_cons, hr]
        exact ⟨rfl, r, by simp⟩
      · exact .inr ((ih.2 h).trans (List.suffix_append w _).isInfix)

def lettersC : ByteArray := ⟨#[65, 66, 67, 68, 69, 70, 71, 72, 73, 74, 75, 76, 77, 78, 79, 80, 81, 82, 83, 84, 85, 86, 87, 88, 89, 90, 95, 48, 49, 50, 51, 52, 53, 54, 55, 56, 57]⟩
theorem lettersC_ascii : ∀ b ∈ bv lettersC, b.toNat < 128 := by decide +kernel
def keysU : List (List UInt8) := [[80, 82, 79, 71, 82, 65, 77], [69, 78, 68, 95, 80, 82, 79, 71, 82, 65, 77], [86, 65, 82], [86, 65, 82, 95, 73, 78, 80, 85, 84], [86, 65, 82, 95, 79, 85, 84, 80, 85, 84], [69, 78, 68, 95, 86, 65, 82], [65, 82, 82, 65, 89], [79, 70], [66, 79, 79, 76], [73, 78, 84], [68, 73, 78, 84], [84, 73, 77, 69], [84, 79, 78], [84, 79, 70], [84, 80], [67, 84, 85], [67, 84, 68], [82, 95, 84, 82, 73, 71], [70, 95, 84, 82, 73, 71], [83, 82], [82, 83], [81, 85, 65, 68], [73, 70], [84, 72, 69, 78], [69, 76, 83, 73, 70], [69, 76, 83, 69], [69, 78, 68, 95, 73, 70], [67, 65, 83, 69], [69, 78, 68, 95, 67, 65, 83, 69], [87, 72, 73, 76, 69], [68, 79], [69, 78, 68, 95, 87, 72, 73, 76, 69], [70, 79, 82], [84, 79], [66, 89], [69, 78, 68, 95, 70, 79, 82], [82, 69, 80, 69, 65, 84], [85, 78, 84, 73, 76], [69, 78, 68, 95, 82, 69, 80, 69, 65, 84], [69, 88, 73, 84], [82, 69, 84, 85, 82, 78], [65, 78, 68], [79, 82], [88, 79, 82], [78, 79, 84], [77, 79, 68], [84, 82, 85, 69], [70, 65, 76, 83, 69], [84, 79, 95, 73, 78, 84], [84, 79, 95, 68, 73, 78, 84], [84, 79, 95, 84, 73, 77, 69]]
def keysL : List ByteArray := keysU.map fun l => ⟨l.toArray⟩
def keysT : ByteArray := ⟨#[32, 80, 82, 79, 71, 82, 65, 77, 32, 69, 78, 68, 95, 80, 82, 79, 71, 82, 65, 77, 32, 86, 65, 82, 32, 86, 65, 82, 95, 73, 78, 80, 85, 84, 32, 86, 65, 82, 95, 79, 85, 84, 80, 85, 84, 32, 69, 78, 68, 95, 86, 65, 82, 32, 65, 82, 82, 65, 89, 32, 79, 70, 32, 66, 79, 79, 76, 32, 73, 78, 84, 32, 68, 73, 78, 84, 32, 84, 73, 77, 69, 32, 84, 79, 78, 32, 84, 79, 70, 32, 84, 80, 32, 67, 84, 85, 32, 67, 84, 68, 32, 82, 95, 84, 82, 73, 71, 32, 70, 95, 84, 82, 73, 71, 32, 83, 82, 32, 82, 83, 32, 81, 85, 65, 68, 32, 73, 70, 32, 84, 72, 69, 78, 32, 69, 76, 83, 73, 70, 32, 69, 76, 83, 69, 32, 69, 78, 68, 95, 73, 70, 32, 67, 65, 83, 69, 32, 69, 78, 68, 95, 67, 65, 83, 69, 32, 87, 72, 73, 76, 69, 32, 68, 79, 32, 69, 78, 68, 95, 87, 72, 73, 76, 69, 32, 70, 79, 82, 32, 84, 79, 32, 66, 89, 32, 69, 78, 68, 95, 70, 79, 82, 32, 82, 69, 80, 69, 65, 84, 32, 85, 78, 84, 73, 76, 32, 69, 78, 68, 95, 82, 69, 80, 69, 65, 84, 32, 69, 88, 73, 84, 32, 82, 69, 84, 85, 82, 78, 32, 65, 78, 68, 32, 79, 82, 32, 88, 79, 82, 32, 78, 79, 84, 32, 77, 79, 68, 32, 84, 82, 85, 69, 32, 70, 65, 76, 83, 69, 32, 84, 79, 95, 73, 78, 84, 32, 84, 79, 95, 68, 73, 78, 84, 32, 84, 79, 95, 84, 73, 77, 69, 32]⟩
theorem keysT_eq : keysT.data.toList = spaced keysU := by decide +kernel
theorem keysU_words : ∀ w ∈ keysU, ∀ b ∈ w, b ≠ 32 := by decide +kernel
def numsC : ByteArray := ⟨#[48, 49, 50, 51, 52, 53, 54, 55, 56, 57]⟩
/-- could it be a word? -/
def wordB (s : ByteArray) : Bool := decide (s ≠ ⟨#[]⟩ ∧ s.size ≤ 24) && (bv s).all (inS (bv lettersC)) && !decide (48 ≤ ((bv s).getD 0 0).toNat ∧ ((bv s).getD 0 0).toNat ≤ 57)
def isKey (s : ByteArray) : Bool := keysL.any fun k => decide (k = s)
def nameB (s : ByteArray) : Bool := wordB s && !isKey s
theorem isKey_iff {s : ByteArray} : isKey s = true ↔ s ∈ keysL := by simp [isKey]
theorem digit_iff : ∀ b : BitVec 8, Lib.contains numsC.data.toList [UInt8.ofBitVec b] = decide (48 ≤ b.toNat ∧ b.toNat ≤ 57) := by
  have h : ∀ n : Fin 256, Lib.contains numsC.data.toList [UInt8.ofBitVec (BitVec.ofFin n)] = decide (48 ≤ (BitVec.ofFin (w := 8) n).toNat ∧ (BitVec.ofFin (w := 8) n).toNat ≤ 57) := by decide +kernel
  intro b
  exact h b.toFin
theorem letter_iff : ∀ b : BitVec 8, inS (bv lettersC) b = decide ((65 ≤ b.toNat ∧ b.toNat ≤ 90) ∨ (48 ≤ b.toNat ∧ b.toNat ≤ 57) ∨ b.toNat = 95) := by
  have h : ∀ n : Fin 256, inS (bv lettersC) (BitVec.ofFin n) = decide ((65 ≤ (BitVec.ofFin (w := 8) n).toNat ∧ (BitVec.ofFin (w := 8) n).toNat ≤ 90) ∨ (48 ≤ (BitVec.ofFin (w := 8) n).toNat ∧ (BitVec.ofFin (w := 8) n).toNat ≤ 57) ∨ (BitVec.ofFin (w := 8) n).toNat = 95) := by decide +kernel
  intro b
  exact h b.toFin
theorem word_blank {s : ByteArray} (h : (bv s).all (inS (bv lettersC)) = true) : ∀ b ∈ s.data.toList, b ≠ 32 := by
  intro b hb e
  subst e
  have h1 := List.all_eq_true.1 h (UInt8.toBitVec 32) (List.mem_map_of_mem hb)
  rw [letter_iff] at h1
  revert h1
  decide
theorem keys_iff {s : ByteArray} (h : (bv s).all (inS (bv lettersC)) = true) (hn : s ≠ ⟨#[]⟩) : Lib.contains keysT.data.toList (32 :: (s.data.toList ++ [32])) = isKey s := by
  rw [Bool.eq_iff_iff, contains_iff, isKey_iff, keysT_eq, spaced_iff (word_blank h) (fun q => hn (by cases s with | mk d => simp at q; rw [q])) keysU_words]
  unfold keysL
  rw [List.mem_map]
  constructor
  · exact fun q => ⟨_, q, by cases s; simp⟩
  · rintro ⟨l, hl, rfl⟩
    simpa using hl
end Go.AM.Cap
