import Derived.Test.YtcmimkacafphkaaGreatDoorWiD
import Derived.Test.YtcmimkacafphkaaGreatDoorAmOpenF
set_option linter.all false
/- code: numbers as items -/
set_option maxHeartbeats 8000000
namespace Go.AM.Cap
open Go.AM Go.Proofs

def numC (n : Int) : It := ⟨false, n, ⟨#[]⟩⟩
theorem numI_ok {H0 H : Heap} {L : List Thing} (st : Hp H0 H L) {v : V} {xs : List Int} (hx : Sl H v xs) (hl : xs.length ≤ 10000000) (Q : V → Heap → Prop) (hQ : ∀ w H', Hp H0 H' (own w (xs.map numC) :: L) → Keeps [] H H' → Q w H') : wp (A_code_numbers_int [v]) Q H := by
  show wp (F_code_numbers_int v) Q H
  have hlen := hx.len
  (try simp (maxSteps := 1000000) (disch := first | omega | (simp only [Z3]; omega) | (simp; done) | assumption | decide | (refine not_not_intro ?_; assumption)) only [Z1, Z2, splice, F_code_numbers_int, hlen])
  refine wp_loop (Inv := fun k vs H' => ∃ (j : Nat) (w : V), k = xs.length - j ∧ j ≤ xs.length ∧ vs = [w, v, i64 xs.length, i64 j] ∧ Hp H0 H' (own w ((xs.take j).map numC) :: L) ∧ Keeps [] H H' ∧ (∀ b ∈ vb w, H.next ≤ b)) (n := xs.length) (by unfold FUEL; omega)
    ⟨0, _, by omega, by omega, rfl, st.nilo, Keeps.refl _ _, by simp⟩ ?_
  rintro k vs H1 ⟨j, w, hk, hj, rfl, s1, k1, v1⟩
  by_cases hlt : j < xs.length
  case neg =>
    have : j = xs.length := by omega
    subst this
    rw [List.take_length] at s1
    (try simp (maxSteps := 1000000) (disch := first | omega | (simp only [Z3]; omega) | (simp; done) | assumption | decide | (refine not_not_intro ?_; assumption)) only [Z1, Z2, splice, code_numbers_int_l2, code_numbers_int_k3])
    exact hQ _ _ s1 k1
  have a1 := (hx.keep0 k1).addr1 rfl (k := .i64) (i := j) (by omega) (by omega)
  rw [Int.toNat_natCast] at a1
  have d1 := (hx.keep0 k1).cell1 rfl hlt 0
  have hst := take_succ_getD hlt 0
  generalize xs.getD j 0 = c at *
  (try simp (maxSteps := 1000000) (disch := first | omega | (simp only [Z3]; omega) | (simp; done) | assumption | decide | (refine not_not_intro ?_; assumption)) only [Z1, Z2, splice, code_numbers_int_l2, code_numbers_int_k1, a1, d1])
  refine (wp_bslc (by rfl) (cs := encs [numC c]) (by rfl)).mpr ?_
  have s2 := s1.newo (n := 3) (m := 1) [numC c] rfl rfl
  have k2 := Keeps.push [] H1 (some (.cells true (encs [numC c])))
  generalize H1.push (some (.cells true (encs [numC c]))) = H2 at *
  (try simp (maxSteps := 1000000) (disch := first | omega | (simp only [Z3]; omega) | (simp; done) | assumption | decide | (refine not_not_intro ?_; assumption)) only [Z1, Z2, splice])
  have hv2 := (s2.own (i := 1) rfl).lt
  refine ownF_appV rfl (s2.own (i := 1) rfl) (s2.own (i := 0) rfl).sl (by simp; omega) (by simp; omega) fun w3 H3 o3 k3 v3 => ?_
  have s3 := s2.step (i := 1) rfl (t' := own w3 ((xs.take j).map numC ++ [numC c])) k3 o3 v3
  (try simp (maxSteps := 1000000) (disch := first | omega | (simp only [Z3]; omega) | (simp; done) | assumption | decide | (refine not_not_intro ?_; assumption)) only [Z1, Z2, splice, code_numbers_int_k0])
  refine ⟨xs.length - (j + 1), by omega, j + 1, w3, rfl, by omega, by push_cast; rfl, ?_, (k1.trans k2 (by simp)).trans k3 fun b hb hm => by have := v1 b hm; omega, fun b hb => ?_⟩
  · rw [hst, List.map_append]
    exact s3.tail
  · rcases v3 b hb with q | q
    · exact v1 b q
    · have := (k1.trans k2 (by simp)).next; omega
theorem numL_ok {H0 H : Heap} {L : List Thing} (st : Hp H0 H L) {v : V} {xs : List Int} (hx : Sl H v xs) (hl : xs.length ≤ 10000000) (Q : V → Heap → Prop) (hQ : ∀ w H', Hp H0 H' (own w (xs.map numC) :: L) → Keeps [] H H' → Q w H') : wp (A_code_numbers_int64 [v]) Q H := by
  show wp (F_code_numbers_int64 v) Q H
  have hlen := hx.len
  (try simp (maxSteps := 1000000) (disch := first | omega | (simp only [Z3]; omega) | (simp; done) | assumption | decide | (refine not_not_intro ?_; assumption)) only [Z1, Z2, splice, F_code_numbers_int64, hlen])
  refine wp_loop (Inv := fun k vs H' => ∃ (j : Nat) (w : V), k = xs.length - j ∧ j ≤ xs.length ∧ vs = [w, v, i64 xs.length, i64 j] ∧ Hp H0 H' (own w ((xs.take j).map numC) :: L) ∧ Keeps [] H H' ∧ (∀ b ∈ vb w, H.next ≤ b)) (n := xs.length) (by unfold FUEL; omega)
    ⟨0, _, by omega, by omega, rfl, st.nilo, Keeps.refl _ _, by simp⟩ ?_
  rintro k vs H1 ⟨j, w, hk, hj, rfl, s1, k1, v1⟩
  by_cases hlt : j < xs.length
  case neg =>
    have : j = xs.length := by omega
    subst this
    rw [List.take_length] at s1
    (try simp (maxSteps := 1000000) (disch := first | omega | (simp only [Z3]; omega) | (simp; done) | assumption | decide | (refine not_not_intro ?_; assumption)) only [Z1, Z2, splice, code_numbers_int64_l2, code_numbers_int64_k3])
    exact hQ _ _ s1 k1
  have a1 := (hx.keep0 k1).addr1 rfl (k := .i64) (i := j) (by omega) (by omega)
  rw [Int.toNat_natCast] at a1
  have d1 := (hx.keep0 k1).cell1 rfl hlt 0
  have hst := take_succ_getD hlt 0
  generalize xs.getD j 0 = c at *
  (try simp (maxSteps := 1000000) (disch := first | omega | (simp only [Z3]; omega) | (simp; done) | assumption | decide | (refine not_not_intro ?_; assumption)) only [Z1, Z2, splice, code_numbers_int64_l2, code_numbers_int64_k1, a1, d1])
  refine (wp_bslc (by rfl) (cs := encs [numC c]) (by rfl)).mpr ?_
  have s2 := s1.newo (n := 3) (m := 1) [numC c] rfl rfl
  have k2 := Keeps.push [] H1 (some (.cells true (encs [numC c])))
  generalize H1.push (some (.cells true (encs [numC c]))) = H2 at *
  (try simp (maxSteps := 1000000) (disch := first | omega | (simp only [Z3]; omega) | (simp; done) | assumption | decide | (refine not_not_intro ?_; assumption)) only [Z1, Z2, splice])
  have hv2 := (s2.own (i := 1) rfl).lt
  refine ownF_appV rfl (s2.own (i := 1) rfl) (s2.own (i := 0) rfl).sl (by simp; omega) (by simp; omega) fun w3 H3 o3 k3 v3 => ?_
  have s3 := s2.step (i := 1) rfl (t' := own w3 ((xs.take j).map numC ++ [numC c])) k3 o3 v3
  (try simp (maxSteps := 1000000) (disch := first | omega | (simp only [Z3]; omega) | (simp; done) | assumption | decide | (refine not_not_intro ?_; assumption)) only [Z1, Z2, splice, code_numbers_int64_k0])
  refine ⟨xs.length - (j + 1), by omega, j + 1, w3, rfl, by omega, by push_cast; rfl, ?_, (k1.trans k2 (by simp)).trans k3 fun b hb hm => by have := v1 b hm; omega, fun b hb => ?_⟩
  · rw [hst, List.map_append]
    exact s3.tail
  · rcases v3 b hb with q | q
    · exact v1 b q
    · have := (k1.trans k2 (by simp)).next; omega
end Go.AM.Cap
