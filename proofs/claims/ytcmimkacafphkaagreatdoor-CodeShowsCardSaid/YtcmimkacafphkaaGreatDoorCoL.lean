import Derived.Test.YtcmimkacafphkaaGreatDoorCoK
import Derived.Lib.ItoaLen
import Derived.Test.YtcmimkacafphkaaGreatDoorAmMap
set_option linter.all false
/- code: Show, its own and the document's -/
set_option maxHeartbeats 8000000
namespace Go.AM.Cap
open Go.AM Go.Proofs

/-! ### digits -/
theorem dec_small {u : Nat} (h : u < 10) : Lib.decDigits u = [UInt8.ofNat (48 + u)] := by rw [Lib.decDigits, dif_pos h]
theorem dec_big {u : Nat} (h : ¬ u < 10) : Lib.decDigits u = Lib.decDigits (u / 10) ++ [UInt8.ofNat (48 + u % 10)] := by rw [Lib.decDigits, dif_neg h]
def bya (l : List UInt8) : ByteArray := ⟨l.toArray⟩
theorem bya_app (a b : List UInt8) : bya a ++ bya b = bya (a ++ b) := by
  have h : (bya a ++ bya b).data = (bya a).data ++ (bya b).data := ByteArray.data_append
  cases hq : bya a ++ bya b with
  | mk d =>
    rw [hq] at h
    simp only at h
    rw [h]
    simp [bya]
theorem bya_size (l : List UInt8) : (bya l).size = l.length := by simp [bya, ByteArray.size]
theorem one_byte (m : Nat) (h : m < 10) : sv [BitVec.ofNat 8 (48 + m)] = bya [UInt8.ofNat (48 + m)] := rfl
theorem digits_ok {H : Heap} (n : Int) (h0 : 0 ≤ n) (h1 : n ≤ 9223372036854775807) (Q : V → Heap → Prop) (hQ : ∀ H', Keeps [] H H' → Q (.string (bya (Lib.decDigits n.toNat))) H') : wp (A_ref05_Digits [i64 n]) Q H := by
  show wp (F_ref05_Digits (i64 n)) Q H
  unfold F_ref05_Digits
  rw [wp_bnd, wp_bnd]
  refine wp_loop (Inv := fun k vs H' => ∃ (m : Nat) (acc : List UInt8), 1 ≤ k ∧ k ≤ 19 ∧ m < 10 ^ k ∧ m ≤ 9223372036854775807 ∧ vs = [i64 m, .string (bya acc)] ∧ Keeps [] H H' ∧ Lib.decDigits n.toNat = Lib.decDigits m ++ acc ∧ acc.length + k = 19) (n := 19) (by unfold FUEL; omega)
    ⟨n.toNat, [], by omega, by omega, by omega, by omega, by rw [show ((n.toNat : Nat) : Int) = n by omega]; rfl, Keeps.refl _ _, by simp, rfl⟩ ?_
  rintro k vs H1 ⟨m, acc, hk1, hk2, hm, hm2, rfl, kk, hd, hac⟩
  have e1 : bin .rem (i64 m) (Value.int .i64 10) = some (i64 ((m % 10 : Nat) : Int)) := by
    rw [int_remn (by omega) (by omega)]
    rfl
  have e2 : bin .quo (i64 m) (Value.int .i64 10) = some (i64 ((m / 10 : Nat) : Int)) := by
    rw [int_quon (by omega) (by omega), i64_in (by omega) (by omega)]
    rfl
  have hr : m % 10 < 10 := Nat.mod_lt _ (by omega)
  have e3 : bin .add (Value.int .i64 48) (i64 ((m % 10 : Nat) : Int)) = some (i64 ((48 + m % 10 : Nat) : Int)) := by
    show bin .add (i64 48) (i64 ((m % 10 : Nat) : Int)) = _
    rw [i64_add, i64_in (by omega) (by omega)]
    rw [show (48 : Int) + ((m % 10 : Nat) : Int) = ((48 + m % 10 : Nat) : Int) by omega]
  have e4 : cvi .u8 (i64 ((48 + m % 10 : Nat) : Int)) = some (B (BitVec.ofNat 8 (48 + m % 10))) := by
    rw [cvi_int, u8_in (by omega) (by omega)]
    show _ = some (Value.int .u8 ((BitVec.ofNat 8 (48 + m % 10)).toNat : Int))
    have e : (48 + m % 10) % 2 ^ 8 = 48 + m % 10 := Nat.mod_eq_of_lt (by omega)
    rw [BitVec.toNat_ofNat, e]
  (try simp (maxSteps := 1000000) (disch := first | omega | (simp only [Z3]; omega) | (simp; done) | assumption | decide | (refine not_not_intro ?_; assumption)) only [Z1, Z2, splice, ref05_Digits_l0, e1, e2, e3, e4])
  refine (wp_bslc (by rfl) (cs := encs [BitVec.ofNat 8 (48 + m % 10)]) (by rfl)).mpr ?_
  have k2 : Keeps [] H1 (H1.push (some (.cells true (encs [BitVec.ofNat 8 (48 + m % 10)])))) := Keeps.push _ _ _
  have o2 : OwnF (H1.push (some (.cells true (encs [BitVec.ofNat 8 (48 + m % 10)])))) (slc H1.next 0 1 1 1) [BitVec.ofNat 8 (48 + m % 10)] := .inr ⟨_, rfl, Heap.get_push_self _ _⟩
  generalize H1.push (some (.cells true (encs [BitVec.ofNat 8 (48 + m % 10)]))) = H2 at *
  (try simp (maxSteps := 1000000) (disch := first | omega | (simp only [Z3]; omega) | (simp; done) | assumption | decide | (refine not_not_intro ?_; assumption)) only [Z1, Z2, splice])
  refine ownF_b2s o2 ?_
  rw [one_byte _ hr]
  have e5 : bin .add (.string (bya [UInt8.ofNat (48 + m % 10)])) (.string (bya acc)) = some (.string (bya (UInt8.ofNat (48 + m % 10) :: acc))) := by
    rw [str_add (by rw [bya_size, bya_size]; simp; omega), bya_app]
    rfl
  have kk2 := kk.trans k2 (by simp)
  by_cases hz : m / 10 = 0
  · have hz' : ((m / 10 : Nat) : Int) = 0 := by omega
    (try simp (maxSteps := 1000000) (disch := first | omega | (simp only [Z3]; omega) | (simp; done) | assumption | decide | (refine not_not_intro ?_; assumption)) only [Z1, Z2, splice, e5, decide_eq_true hz'])
    have : Lib.decDigits n.toNat = UInt8.ofNat (48 + m % 10) :: acc := by
      rw [hd, dec_small (by omega), Nat.mod_eq_of_lt (by omega)]
      rfl
    rw [← this]
    exact hQ _ kk2
  · have hz' : ¬ ((m / 10 : Nat) : Int) = 0 := by omega
    have hk3 : 2 ≤ k := by
      rcases Nat.lt_or_ge k 2 with q | q
      · have : k = 1 := by omega
        subst this
        omega
      · exact q
    (try simp (maxSteps := 1000000) (disch := first | omega | (simp only [Z3]; omega) | (simp; done) | assumption | decide | (refine not_not_intro ?_; assumption)) only [Z1, Z2, splice, e5, decide_eq_false hz'])
    have hp : 10 ^ k = 10 * 10 ^ (k - 1) := by
      obtain ⟨j, rfl⟩ : ∃ j, k = j + 1 := ⟨k - 1, by omega⟩
      rw [Nat.add_sub_cancel, Nat.pow_succ, Nat.mul_comm]
    refine ⟨k - 1, by omega, m / 10, UInt8.ofNat (48 + m % 10) :: acc, by omega, by omega, by omega, by omega, rfl, kk2, ?_, by simp; omega⟩
    rw [hd, dec_big (by omega), List.append_assoc]
    rfl
theorem itoa_lit : (⟨#[45, 57, 50, 50, 51, 51, 55, 50, 48, 51, 54, 56, 53, 52, 55, 55, 53, 56, 48, 56]⟩ : ByteArray) = bya (Lib.itoa (-9223372036854775808)) := by
  have : Lib.itoa (-9223372036854775808) = [45, 57, 50, 50, 51, 51, 55, 50, 48, 51, 54, 56, 53, 52, 55, 55, 53, 56, 48, 56] := by
    rw [Lib.itoa, if_pos (by decide), show Int.natAbs (-9223372036854775808) = 9223372036854775808 from rfl]
    iterate 18 rw [dec_big (by decide)]
    rw [dec_small (by decide)]
    decide
  rw [this]; rfl
theorem signed_ok {H : Heap} (n : Int) (h0 : -9223372036854775808 ≤ n) (h1 : n ≤ 9223372036854775807) (Q : V → Heap → Prop) (hQ : ∀ H', Keeps [] H H' → Q (.string (bya (Lib.itoa n))) H') : wp (A_ref13_Signed [i64 n]) Q H := by
  show wp (F_ref13_Signed (i64 n)) Q H
  unfold F_ref13_Signed
  by_cases hm : n = -9223372036854775808
  · subst hm
    (try simp (maxSteps := 1000000) (disch := first | omega | (simp only [Z3]; omega) | (simp; done) | assumption | decide | (refine not_not_intro ?_; assumption)) only [Z1, Z2, splice])
    rw [itoa_lit]
    exact hQ _ (Keeps.refl _ _)
  (try simp (maxSteps := 1000000) (disch := first | omega | (simp only [Z3]; omega) | (simp; done) | assumption | decide | (refine not_not_intro ?_; assumption)) only [Z1, Z2, splice, ref13_Signed_k0])
  show wp (F_ref05_Signed (i64 n)) _ H
  unfold F_ref05_Signed
  by_cases hn : n < 0
  · have e1 : un .neg (i64 n) = some (i64 (-n)) := by
      show some (Value.int .i64 (IntKind.i64.wrap (0 - n))) = _
      rw [i64_in (by omega) (by omega)]
      congr 2
      omega
    (try simp (maxSteps := 1000000) (disch := first | omega | (simp only [Z3]; omega) | (simp; done) | assumption | decide | (refine not_not_intro ?_; assumption)) only [Z1, Z2, splice, decide_eq_true hn, e1])
    refine digits_ok (-n) (by omega) (by omega) _ fun H2 k2 => ?_
    have e2 : Lib.itoa n = 45 :: Lib.decDigits (-n).toNat := by
      rw [Lib.itoa, if_pos hn, show n.natAbs = (-n).toNat by omega]
    have hlen : (Lib.decDigits (-n).toNat).length ≤ 21 := by
      have := Lib.itoa_length_le n h0 h1
      rw [e2] at this
      simp at this; omega
    have e5 : bin .add (.string (⟨#[45]⟩ : ByteArray)) (.string (bya (Lib.decDigits (-n).toNat))) = some (.string (bya (Lib.itoa n))) := by
      rw [show (⟨#[45]⟩ : ByteArray) = bya [45] from rfl, str_add (by rw [bya_size, bya_size]; simp; omega), bya_app, e2]
      rfl
    (try simp (maxSteps := 1000000) (disch := first | omega | (simp only [Z3]; omega) | (simp; done) | assumption | decide | (refine not_not_intro ?_; assumption)) only [Z1, Z2, splice, e5])
    exact hQ _ k2
  · (try simp (maxSteps := 1000000) (disch := first | omega | (simp only [Z3]; omega) | (simp; done) | assumption | decide | (refine not_not_intro ?_; assumption)) only [Z1, Z2, splice, decide_eq_false hn, ref05_Signed_k0])
    refine digits_ok n (by omega) (by omega) _ fun H2 k2 => ?_
    (try simp (maxSteps := 1000000) (disch := first | omega | (simp only [Z3]; omega) | (simp; done) | assumption | decide | (refine not_not_intro ?_; assumption)) only [Z1, Z2, splice])
    have e2 : Lib.itoa n = Lib.decDigits n.toNat := by rw [Lib.itoa, if_neg hn]
    rw [← e2]
    exact hQ _ k2
end Go.AM.Cap
