import Derived.Test.YtcmimkacafphkaaGreatDoorWiF
import Derived.Test.YtcmimkacafphkaaGreatDoorAmOpenF
import Derived.Test.YtcmimkacafphkaaGreatDoorCoRb
import Derived.Test.YtcmimkacafphkaaGreatDoorCoRe
set_option linter.all false
/- wire: an item that is read -/
set_option maxHeartbeats 16000000
namespace Go.AM.Cap
open Go.AM Go.Proofs

end Go.AM.Cap

/- wire: the reference's item -/
set_option maxHeartbeats 16000000
namespace Go.AM.Cap
open Go.AM Go.Proofs

end Go.AM.Cap

/- wire: Decode -/
set_option maxHeartbeats 16000000
namespace Go.AM.Cap
open Go.AM Go.Proofs

end Go.AM.Cap

/- wire: the reference's Decode; the lists' book -/
set_option maxHeartbeats 16000000
namespace Go.AM.Cap
open Go.AM Go.Proofs

end Go.AM.Cap

/- wire: the lists' book; works -/
set_option maxHeartbeats 16000000
namespace Go.AM.Cap
open Go.AM Go.Proofs

end Go.AM.Cap

/- wire: there and back, cuts, joins: the plain law -/
set_option maxHeartbeats 4000000
namespace Go.AM.Cap
open Go.AM Go.Proofs

end Go.AM.Cap

/- code: an image's items and bytes, there and back (plain) -/
set_option maxHeartbeats 8000000
namespace Go.AM.Cap
open Go.AM Go.Proofs

/-- an instruction whose parts fit their bytes -/
def okIns (i : Ins) : Prop := (0 ≤ i.op ∧ i.op < 256) ∧ (0 ≤ i.a ∧ i.a < 65536) ∧ (0 ≤ i.b ∧ i.b < 65536) ∧ -140737488355328 ≤ i.n ∧ i.n < 140737488355328
theorem b8_toNat (n : Int) : ((b8 n).toNat : Int) = n % 256 := by
  unfold b8
  rw [BitVec.toNat_ofInt]
  omega
end Go.AM.Cap

/- code: what is encoded is decoded as the image, and nothing else (plain) -/
set_option maxHeartbeats 8000000
namespace Go.AM.Cap
open Go.AM Go.Proofs

theorem fits_small {t n : Int} (h : fits t n) : (1 ≤ t ∧ t ≤ 4) ∧ -2147483648 ≤ n ∧ n ≤ 2147483647 := by
  unfold fits at h; omega
theorem fields_kind {k : Int} {l : List Int} (h : fieldsS k = some l) : 1 ≤ k ∧ k ≤ 10 := by
  unfold fieldsS at h
  split at h
  · omega
  · split at h
    · omega
    · split at h
      · omega
      · split at h
        · omega
        · split at h
          · omega
          · cases h
theorem cellsS_at {types : List Int} {a m : Int} {l : List Int} (h : cellsS types a m = some l) : 0 ≤ a ∧ a < types.length := by
  unfold cellsS at h
  split at h
  · cases h
  · omega
theorem opS_at {op t many : Int} (h : opS op t many = true) (hm : many = 1 ∨ many = 2) : (1 ≤ op ∧ op ≤ 16) ∧ 1 ≤ t ∧ t ≤ 4 := by
  unfold opS at h
  rw [Bool.and_eq_true, decide_eq_true_eq] at h
  obtain ⟨h1, h2⟩ := h
  rcases hm with rfl | rfl
  · rw [if_pos rfl, decide_eq_true_eq] at h2; omega
  · rw [if_neg (by decide)] at h2
    split at h2
    · omega
    · split at h2
      · omega
      · split at h2
        · omega
        · rw [decide_eq_true_eq] at h2; omega
/-- an instruction that may be fits its bytes -/
theorem may_small {types : List Int} {n : Nat} {i : Ins} (hl : types.length ≤ 1024) (hn : n ≤ 4096) (h : MayP types n i) : okIns i := by
  have hop : ∃ k : Nat, k < 12 ∧ i.op = (k : Int) + 1 := by obtain ⟨k, h1, h2, _⟩ := h; exact ⟨k, h1, h2⟩
  obtain ⟨k, hk, he⟩ := hop
  unfold okIns
  rcases (show i.op = 1 ∨ (i.op = 2 ∨ i.op = 3) ∨ (i.op = 4 ∨ i.op = 5) ∨ i.op = 6 ∨ i.op = 7 ∨ i.op = 8 ∨ (i.op = 9 ∨ i.op = 10) ∨ i.op = 11 ∨ i.op = 12 by omega) with o | o | o | o | o | o | o | o | o
  · have := (may_1 o).1 h
    have := fits_small this.2
    omega
  · obtain ⟨h1, h2, l, h3, _⟩ := (may_23 o).1 h
    have := cellsS_at h3
    omega
  · obtain ⟨h1, h2, h3, l, h4, _⟩ := (may_45 o).1 h
    have := cellsS_at h4
    omega
  · obtain ⟨h1, h2⟩ := (may_6 o).1 h
    have := opS_at h2 (.inr rfl)
    omega
  · obtain ⟨h1, h2⟩ := (may_7 o).1 h
    have := opS_at h2 (.inl rfl)
    omega
  · have := (may_8 o).1 h
    omega
  · have := (may_9 o).1 h
    omega
  · obtain ⟨h1, l, h2, h3⟩ := (may_11 o).1 h
    have := fields_kind h2
    have := cellsS_at h3
    omega
  · have := (may_12 o).1 h
    omega
theorem sound_raw {p : PIm} (h : (checkS p).2 = 0) : p.types.length = p.first.length ∧ p.types.length ≤ 1024 ∧ p.ins.length ≤ 1024 ∧ p.outs.length ≤ 1024 ∧ (∀ i ∈ p.code, okIns i) ∧ (∀ x ∈ p.types.zip p.first, (1 ≤ x.1 ∧ x.1 ≤ 4) ∧ -2147483648 ≤ x.2 ∧ x.2 ≤ 2147483647) ∧ (∀ c ∈ p.ins, 0 ≤ c ∧ c ≤ 1024) ∧ (∀ c ∈ p.outs, 0 ≤ c ∧ c ≤ 1024) := by
  obtain ⟨⟨s1, s2, s3, s4, s5, s6, s7, s8, s9⟩, hc⟩ := check_zero.1 h
  rw [List.length_append] at s6
  refine ⟨s2, s3, by omega, by omega, fun i hi => may_small s3 s5 (mayB_iff.1 (hc i hi)), fun x hx => ?_, fun c hc => ?_, fun c hc => ?_⟩
  · obtain ⟨j, hj, rfl⟩ := List.getElem_of_mem hx
    rw [List.length_zip] at hj
    have := fits_small (s7 j (by omega))
    rw [List.getD_eq_getElem?_getD, List.getD_eq_getElem?_getD, List.getElem?_eq_getElem (by omega), List.getElem?_eq_getElem (by omega)] at this
    simpa using this
  · have := s8 c (by simp [hc]); omega
  · have := s8 c (by simp [hc]); omega
end Go.AM.Cap
