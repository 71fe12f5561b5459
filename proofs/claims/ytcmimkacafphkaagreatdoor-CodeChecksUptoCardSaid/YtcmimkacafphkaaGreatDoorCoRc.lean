import Derived.Test.YtcmimkacafphkaaGreatDoorCoRb
import Derived.Test.YtcmimkacafphkaaGreatDoorAmOpenF
set_option linter.all false
/- code: the document's same -/
set_option maxHeartbeats 8000000
namespace Go.AM.Cap
open Go.AM Go.Proofs

/-- so many cells, all of one type -/
def SameP (types : List Int) (a m : Int) : Prop := ∃ l, cellsS types a m = some l ∧ ∀ t ∈ l, t = l.getD 0 0
theorem same_iff {types : List Int} {a m : Nat} (ha : a < types.length) (hm : a + m ≤ types.length) (h1 : 1 ≤ m) : SameP types a m ↔ ∀ i, a ≤ i → i < a + m → types.getD i 0 = types.getD a 0 := by
  have e : cellsS types a m = some ((types.drop a).take m) := by
    unfold cellsS; rw [if_neg (by omega)]; rfl
  have g : ∀ j, j < m → ((types.drop a).take m).getD j 0 = types.getD (a + j) 0 := fun j hj => by
    rw [List.getD_eq_getElem?_getD, List.getD_eq_getElem?_getD, List.getElem?_take_of_lt hj, List.getElem?_drop]
  have hl : ((types.drop a).take m).length = m := by rw [List.length_take, List.length_drop]; omega
  unfold SameP
  rw [e]
  constructor
  · rintro ⟨l, hl2, h⟩ i h2 h3
    cases hl2
    have := h _ (getD_mem' (d := 0) (show i - a < _ by rw [hl]; omega))
    rw [g _ (by omega), g 0 (by omega)] at this
    rwa [show a + (i - a) = i by omega, Nat.add_zero] at this
  · intro h
    refine ⟨_, rfl, fun t ht => ?_⟩
    obtain ⟨j, hj, rfl⟩ := List.getElem_of_mem ht
    rw [hl] at hj
    have e1 : ((types.drop a).take m)[j] = ((types.drop a).take m).getD j 0 := by
      rw [List.getD_eq_getElem?_getD, List.getElem?_eq_getElem]; rfl
    rw [e1, g j hj, g 0 (by omega), Nat.add_zero]
    exact h _ (by omega) (by omega)
theorem rsame_ok {H : Heap} {x : Im} (h : ImAt H x) (hl : x.types.xs.length ≤ 100000000) (a m : Int) (h1 : 1 ≤ m) (hm : m ≤ 100) (Q : V → Heap → Prop) (hQ : ∀ H' b, Keeps [] H H' → (b = true ↔ SameP x.types.xs a m) → Q (.bool b) H') : wp (A_ref13_same [.agg (Flat.enc x).toArray, i64 a, i64 m]) Q H := by
  show wp (F_ref13_same (.agg (Flat.enc x).toArray) (i64 a) (i64 m)) Q H
  have hne : ∀ {p : Prop}, ¬ p → ((false = true) ↔ p) := fun q => ⟨Bool.noConfusion, fun e => (q e).elim⟩
  have hye : ∀ {p : Prop}, p → ((true = true) ↔ p) := fun q => ⟨fun _ => q, fun _ => rfl⟩
  have ho := im_one x
  have hlen := h.types.len
  unfold F_ref13_same
  rw [wp_bnd, wp_bnd, enc_im]
  refine (wp_boxg ho).mpr ?_
  have k1 : Keeps [] H (H.push (some (.cells true [.string x.name, x.types.v, x.first.v, x.ins.v, x.outs.v, x.code.v]))) := Keeps.push _ _ _
  have g1 : (H.push (some (.cells true [.string x.name, x.types.v, x.first.v, x.ins.v, x.outs.v, x.code.v]))).get H.next = some (.cells true [.string x.name, x.types.v, x.first.v, x.ins.v, x.outs.v, x.code.v]) := Heap.get_push_self _ _
  generalize H.push (some (.cells true [.string x.name, x.types.v, x.first.v, x.ins.v, x.outs.v, x.code.v])) = H1 at *
  generalize hpp : H.next = p at *
  have out : (a < 0 ∨ a ≥ x.types.xs.length ∨ m > x.types.xs.length - a) → ¬ SameP x.types.xs a m := fun q => by
    rintro ⟨l, e, _⟩; unfold cellsS at e; rw [if_pos q] at e; cases e
  by_cases q1 : a < 0
  · (try simp (maxSteps := 1000000) (disch := first | omega | (simp only [Z3]; omega) | (simp; done) | assumption | decide | (refine not_not_intro ?_; assumption)) only [Z1, Z2, splice, decide_eq_true q1])
    exact hQ _ _ k1 (hne (out (.inl q1)))
  by_cases q2 : a ≥ x.types.xs.length
  · (try simp (maxSteps := 1000000) (disch := first | omega | (simp only [Z3]; omega) | (simp; done) | assumption | decide | (refine not_not_intro ?_; assumption)) only [Z1, Z2, splice, decide_eq_false q1, decide_eq_true q2, g1, hlen])
    exact hQ _ _ k1 (hne (out (.inr (.inl q2))))
  by_cases q3 : m > x.types.xs.length - a
  · (try simp (maxSteps := 1000000) (disch := first | omega | (simp only [Z3]; omega) | (simp; done) | assumption | decide | (refine not_not_intro ?_; assumption)) only [Z1, Z2, splice, decide_eq_false q1, decide_eq_false q2, decide_eq_true q3, g1, hlen])
    exact hQ _ _ k1 (hne (out (.inr (.inr q3))))
  obtain ⟨an, rfl⟩ : ∃ n : Nat, a = n := ⟨a.toNat, by omega⟩
  obtain ⟨mn, rfl⟩ : ∃ n : Nat, m = n := ⟨m.toNat, by omega⟩
  have hiff := same_iff (types := x.types.xs) (a := an) (m := mn) (by omega) (by omega) (by omega)
  have v1 := h.types.keep0 k1
  (try simp (maxSteps := 1000000) (disch := first | omega | (simp only [Z3]; omega) | (simp; done) | assumption | decide | (refine not_not_intro ?_; assumption)) only [Z1, Z2, splice, decide_eq_false q1, decide_eq_false q2, decide_eq_false q3, g1, hlen, ref13_same_k4])
  refine wp_loop (Inv := fun k vs H' => ∃ j : Nat, k = mn - j ∧ j ≤ mn ∧ vs = [i64 an, i64 mn, ptr p 0, i64 ((an + j : Nat) : Int)] ∧ H1 = H' ∧ (∀ i, an ≤ i → i < an + j → x.types.xs.getD i 0 = x.types.xs.getD an 0)) (n := mn) (by unfold FUEL; omega)
    ⟨0, by omega, by omega, rfl, rfl, by omega⟩ ?_
  rintro k vs H' ⟨j, hk, hj, rfl, rfl, hall⟩
  by_cases hlt : j < mn
  case neg =>
    have : j = mn := by omega
    subst this
    have e : decide (((an + j : Nat) : Int) < (an : Int) + (j : Int)) = false := decide_eq_false (by omega)
    (try simp (maxSteps := 1000000) (disch := first | omega | (simp only [Z3]; omega) | (simp; done) | assumption | decide | (refine not_not_intro ?_; assumption)) only [Z1, Z2, splice, ref13_same_l2, e, ref13_same_k3])
    exact hQ _ _ k1 (hye (hiff.2 hall))
  have e : decide (((an + j : Nat) : Int) < (an : Int) + (mn : Int)) = true := decide_eq_true (by omega)
  have a1 := v1.addr1 rfl (k := .i64) (i := ((an + j : Nat) : Int)) (by omega) (by omega)
  rw [Int.toNat_natCast] at a1
  have d1 := v1.cell1 rfl (i := an + j) (by omega) 0
  have a2 := v1.addr1 rfl (k := .i64) (i := (an : Int)) (by omega) (by omega)
  rw [Int.toNat_natCast] at a2
  have d2 := v1.cell1 rfl (i := an) (by omega) 0
  by_cases hq : x.types.xs.getD (an + j) 0 = x.types.xs.getD an 0
  · have hall' : ∀ i, an ≤ i → i < an + (j + 1) → x.types.xs.getD i 0 = x.types.xs.getD an 0 := fun i h2 h3 => by
      rcases Nat.lt_or_ge i (an + j) with z | z
      · exact hall i h2 z
      · have : i = an + j := by omega
        rw [this]; exact hq
    (try simp (maxSteps := 1000000) (disch := first | omega | (simp only [Z3]; omega) | (simp; done) | assumption | decide | (refine not_not_intro ?_; assumption)) only [Z1, Z2, splice, ref13_same_l2, e, ref13_same_k1, g1, a1, d1, a2, d2, decide_eq_true hq, ref13_same_k0])
    exact ⟨mn - (j + 1), by omega, j + 1, rfl, by omega, by push_cast; rfl, hall'⟩
  · (try simp (maxSteps := 1000000) (disch := first | omega | (simp only [Z3]; omega) | (simp; done) | assumption | decide | (refine not_not_intro ?_; assumption)) only [Z1, Z2, splice, ref13_same_l2, e, ref13_same_k1, g1, a1, d1, a2, d2, decide_eq_false hq])
    exact hQ _ _ k1 (hne (fun z => hq (hiff.1 z _ (by omega) (by omega))))
end Go.AM.Cap
