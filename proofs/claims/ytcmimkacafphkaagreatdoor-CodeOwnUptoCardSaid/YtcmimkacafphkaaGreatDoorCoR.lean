import Derived.Test.YtcmimkacafphkaaGreatDoorCoQ
set_option linter.all false
/- code: what is put behind; CodeOwn on the machine -/
set_option maxHeartbeats 16000000
namespace Go.AM.Cap
open Go.AM Go.Proofs

theorem ask_mono {types : List Int} {n f : Nat} {i : Ins} (h : AskP types n f i) : AskP types (n + 1) f i := by
  unfold AskP at *
  by_cases h3 : f = fid_code_rules_3
  · subst h3
    rw [if_neg (by decide), if_neg (by decide), if_pos rfl] at h ⊢
    push_cast
    omega
  · by_cases h1 : f = fid_code_rules_1
    · rw [if_pos h1] at h ⊢; exact h
    · by_cases h2 : f = fid_code_rules_2
      · rw [if_neg h1, if_pos h2] at h ⊢; exact h
      · rw [if_neg h1, if_neg h2, if_neg h3] at h ⊢; exact h
theorem may_mono {types : List Int} {n : Nat} {i : Ins} (h : mayB types n i = true) : mayB types (n + 1) i = true := by
  rw [mayB_iff] at *
  obtain ⟨k, h1, h2, h3, h4, h5, h6⟩ := h
  exact ⟨k, h1, h2, h3, h4, h5, ask_mono h6⟩
theorem check_zero {p : PIm} : (checkS p).2 = 0 ↔ SoundP p ∧ ∀ i ∈ p.code, mayB p.types p.code.length i = true := by
  unfold checkS
  by_cases hs : SoundP p
  · rw [if_pos hs]
    cases hi : idxP (fun i => !mayB p.types p.code.length i) p.code with
    | none =>
      rw [idxP_none] at hi
      simp only [true_iff]
      exact ⟨hs, fun i hm => by have := hi i hm; simpa using this⟩
    | some j =>
      obtain ⟨h1, h2, _⟩ := idxP_spec (d := default) hi
      refine ⟨fun q => absurd q (by show ¬ ((130 : Int) = 0); decide), fun q => ?_⟩
      have := q.2 _ (getD_mem' (d := default) h1)
      rw [this] at h2
      cases h2
  · rw [if_neg hs]
    exact ⟨fun q => absurd q (by show ¬ ((130 : Int) = 0); decide), fun q => absurd q.1 hs⟩
theorem check_code (p : PIm) : (checkS p).2 = 0 ∨ (checkS p).2 = 130 := by
  unfold checkS
  split
  · split
    · exact .inr rfl
    · exact .inl rfl
  · exact .inr rfl
def PIm.more (p : PIm) (c : Ins) : PIm := ⟨p.name, p.types, p.first, p.ins, p.outs, p.code ++ [c]⟩
theorem sound_more {p : PIm} (h : SoundP p) (hl : p.code.length ≠ 4096) (c : Ins) : SoundP (p.more c) := by
  obtain ⟨h1, h2, h3, h4, h5, h6, h7, h8, h9⟩ := h
  have e : (p.more c).code.length = p.code.length + 1 := by simp [PIm.more]
  exact ⟨h1, h2, h3, by omega, by omega, h6, h7, h8, h9⟩
theorem check_more {p : PIm} (h : (checkS p).2 = 0) (hl : p.code.length ≠ 4096) {c : Ins} (hc : c ∈ p.code) : checkS (p.more c) = (0, 0) := by
  rw [check_zero] at h
  obtain ⟨hs, hm⟩ := h
  have e : (p.more c).code.length = p.code.length + 1 := by simp [PIm.more]
  have : idxP (fun i => !mayB (p.more c).types (p.more c).code.length i) (p.more c).code = none := by
    rw [idxP_none]
    intro i hi
    have hi' : i ∈ p.code := by
      rcases List.mem_append.1 hi with q | q
      · exact q
      · simp only [List.mem_singleton] at q; subst q; exact hc
    rw [e]
    have := may_mono (hm i hi')
    show (!mayB p.types (p.code.length + 1) i) = false
    rw [this]; rfl
  unfold checkS
  rw [if_pos (sound_more hs hl c), this]
theorem bad_99 (types : List Int) (n : Nat) : mayB types n ⟨99, 0, 0, 0⟩ = false := by
  rw [← Bool.not_eq_true, mayB_iff]
  rintro ⟨k, h1, h2, _⟩
  simp only at h2
  omega
theorem check_bad {p : PIm} (h : (checkS p).2 = 0) (hl : p.code.length ≠ 4096) : checkS (p.more ⟨99, 0, 0, 0⟩) = ((p.code.length : Int), 130) := by
  rw [check_zero] at h
  obtain ⟨hs, hm⟩ := h
  have e : (p.more ⟨99, 0, 0, 0⟩).code.length = p.code.length + 1 := by simp [PIm.more]
  have : idxP (fun i => !mayB (p.more ⟨99, 0, 0, 0⟩).types (p.more ⟨99, 0, 0, 0⟩).code.length i) (p.more ⟨99, 0, 0, 0⟩).code = some p.code.length := by
    refine idxP_some (d := default) (by rw [e]; omega) ?_ fun j hj => ?_
    · have : (p.more ⟨99, 0, 0, 0⟩).code.getD p.code.length default = ⟨99, 0, 0, 0⟩ := by
        show (p.code ++ [(⟨99, 0, 0, 0⟩ : Ins)]).getD p.code.length default = _
        rw [List.getD_eq_getElem?_getD, List.getElem?_append_right (Nat.le_refl _), Nat.sub_self]
        rfl
      rw [this, bad_99]; rfl
    · have h2 : (p.more ⟨99, 0, 0, 0⟩).code.getD j default = p.code.getD j default := by
        show (p.code ++ [(⟨99, 0, 0, 0⟩ : Ins)]).getD j default = _
        rw [List.getD_eq_getElem?_getD, List.getElem?_append_left hj, ← List.getD_eq_getElem?_getD]
      rw [h2, e]
      have := may_mono (hm _ (getD_mem' (d := default) hj))
      show (!mayB p.types (p.code.length + 1) _) = false
      rw [this]; rfl
  unfold checkS
  rw [if_pos (sound_more hs hl _), this]
/-- which place is meant -/
theorem own_at (a : Int) (n : Nat) (hn : 0 < n) (hn2 : n ≤ 100000000) : ∃ (k : Nat) (m : Int), k < n ∧ cvi .u64 (i64 a) = some (.int .u64 m) ∧ cvi .u64 (i64 n) = some (.int .u64 n) ∧ bin .rem (.int .u64 m) (.int .u64 n) = some (.int .u64 k) ∧ cvi .i64 (.int .u64 (k : Int)) = some (i64 k) := by
  have hu : IntKind.u64.wrap (n : Int) = n := by
    simp [IntKind.wrap, IntKind.signed, IntKind.bits]; omega
  have h0 : 0 ≤ IntKind.u64.wrap a := by simp [IntKind.wrap, IntKind.signed, IntKind.bits]; omega
  have hm0 : 0 ≤ IntKind.u64.wrap a % (n : Int) := Int.emod_nonneg _ (by omega)
  have hm1 : IntKind.u64.wrap a % (n : Int) < n := Int.emod_lt_of_pos _ (by omega)
  have ek : (((IntKind.u64.wrap a % (n : Int)).toNat : Nat) : Int) = IntKind.u64.wrap a % (n : Int) := Int.toNat_of_nonneg hm0
  refine ⟨(IntKind.u64.wrap a % (n : Int)).toNat, IntKind.u64.wrap a, by omega, rfl, by rw [cvi_int, hu], by rw [ek]; exact int_remn h0 (by omega), by rw [ek, cvi_int, i64_in (by omega) (by omega)]⟩
end Go.AM.Cap
