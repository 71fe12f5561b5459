import Derived.Test.YtcmimkacafphkaaGreatDoorCoPb
import Derived.Test.YtcmimkacafphkaaGreatDoorAmOpenF
set_option linter.all false
/- code: the document's May on the machine -/
set_option maxHeartbeats 16000000
namespace Go.AM.Cap
open Go.AM Go.Proofs
theorem zbvt {H : Heap} {x : Im} (h : ImAt H x) (hl : x.types.xs.length ≤ 100000000) (hc : x.code.xs.length ≤ 100000000) (i : Ins) (Q : V → Heap → Prop) (hQ : ∀ H' b, Keeps [] H H' → (b = true ↔ zx3 x.types.xs x.code.xs.length i) → Q (.bool b) H') : wp (zr9 [.agg (Flat.enc x).toArray, .agg (Flat.enc i).toArray]) Q H := by
  show wp (zvw (.agg (Flat.enc x).toArray) (.agg (Flat.enc i).toArray)) Q H
  have hne : ∀ {p : Prop}, ¬ p → ((false = true) ↔ p) := fun q => ⟨Bool.noConfusion, fun e => (q e).elim⟩
  have hye : ∀ {p : Prop}, p → ((true = true) ↔ p) := fun q => ⟨fun _ => q, fun _ => rfl⟩
  have ek : ∀ a b : Bool, zhx false (eqK .b (.bool a) (.bool b)) = some (.bool (a == b)) := fun _ _ => rfl
  have ho := zhd x
  have ho2 := zk4 i
  have hlen := h.code.len
  unfold zvw
  (try simp (maxSteps := 1000000) (disch := first | omega | (simp only [Z3]; omega) | (simp; done) | assumption | decide | (refine not_not_intro ?_; assumption)) only [Z1, zv, z6, zdv, zia, eq_self, true_and, zd7, zdn, zf7, ze8, zcc, Heap.get_push_eq, Heap.get_push_lt, Heap.get_set_eq, Heap.get_set_ne', Heap.next_push', Heap.next_set', Heap.set_push_lt, Heap.set_push_eq, Heap.set_set, zct, zcu, zb0, zcx, zcy, zbg, zb2, zcz, zco, zbz, zcp, zcq, zcr, zcs, List.set_cons_zero, List.set_cons_succ, List.length_cons, List.length_nil, List.drop_succ_cons, List.drop_zero, List.take_succ_cons, List.take_zero, List.nil_append, List.cons_append, splice, zbw, zbx, zbf, zz, zn, zby, zcv, zb1, zfj, zdw, zcw, zc0, zbt, zx, zbu, Option.map_some, zc1, zc2, zbi, zb3, zb4, zb5, zbh, zb6, zb7])
  (try simp (maxSteps := 1000000) (disch := first | omega | (simp only [Z3]; omega) | (simp; done) | assumption | decide | (refine not_not_intro ?_; assumption)) only [Z1, Z2, splice, zbc, zcf])
  rw [← zbc, ← zcf]
  refine zjm fun H2 k2 g2 hlt => ?_
  obtain ⟨g2a, g2b⟩ := g2 _ (Keeps.refl _ _)
  rw [zbc] at g2a
  rw [zcf] at g2b
  have hat := h.keep0 k2
  by_cases o1 : i.op = 1
  · by_cases b0 : i.b = 0
    · (try simp (maxSteps := 1000000) (disch := first | omega | (simp only [Z3]; omega) | (simp; done) | assumption | decide | (refine not_not_intro ?_; assumption)) only [Z1, Z2, splice, g2b, decide_eq_true o1, decide_eq_true b0, zw, zwy])
      exact hQ _ _ k2 (by rw [zbt3 o1]; simp [b0])
    · (try simp (maxSteps := 1000000) (disch := first | omega | (simp only [Z3]; omega) | (simp; done) | assumption | decide | (refine not_not_intro ?_; assumption)) only [Z1, Z2, splice, g2b, decide_eq_true o1, decide_eq_false b0, zw])
      exact hQ _ _ k2 (hne (by rw [zbt3 o1]; exact fun q => b0 q.1))
  by_cases n0 : i.n = 0
  case neg =>
    (try simp (maxSteps := 1000000) (disch := first | omega | (simp only [Z3]; omega) | (simp; done) | assumption | decide | (refine not_not_intro ?_; assumption)) only [Z1, Z2, splice, g2b, decide_eq_false o1, decide_eq_false n0])
    refine hQ _ _ k2 (hne ?_)
    rintro ⟨k, hk, e, _, _, h3, _⟩
    have hk0 : k ≠ 0 := by omega
    have : (zh6.getD k default).n = false := by
      rcases (show k = 1 ∨ k = 2 ∨ k = 3 ∨ k = 4 ∨ k = 5 ∨ k = 6 ∨ k = 7 ∨ k = 8 ∨ k = 9 ∨ k = 10 ∨ k = 11 by omega) with rfl | rfl | rfl | rfl | rfl | rfl | rfl | rfl | rfl | rfl | rfl <;> rfl
    rw [this] at h3
    rcases h3 with h3 | h3
    · cases h3
    · exact n0 h3
  by_cases o2 : i.op = 2 ∨ i.op = 3
  · have hm := zbt4 (types := x.types.xs) (n := x.code.xs.length) o2
    have o2' : decide (i.op = 2) = true ∨ (decide (i.op = 2) = false ∧ decide (i.op = 3) = true) := by
      rcases o2 with q | q
      · exact .inl (decide_eq_true q)
      · exact .inr ⟨decide_eq_false (by omega), decide_eq_true q⟩
    by_cases b0 : i.b = 0
    · have fin : ∀ (H' : Heap) (b : Bool), Keeps [] H2 H' → (b = true ↔ z2s x.types.xs i.a 1) → Q (.bool b) H' := fun H' b k hb => hQ _ _ (k2.trans k (by simp)) (by rw [hm, hb]; simp [b0, n0])
      rcases o2' with q | ⟨q, q'⟩
      · (try simp (maxSteps := 1000000) (disch := first | omega | (simp only [Z3]; omega) | (simp; done) | assumption | decide | (refine not_not_intro ?_; assumption)) only [Z1, Z2, splice, g2a, g2b, decide_eq_false o1, decide_eq_true n0, q, decide_eq_true b0, zw, z7])
        rw [← zbc]
        refine z73 hat hl _ 1 (by omega) (by omega) _ fun H3 b k3 hb => ?_
        (try simp (maxSteps := 1000000) (disch := first | omega | (simp only [Z3]; omega) | (simp; done) | assumption | decide | (refine not_not_intro ?_; assumption)) only [Z1, Z2, splice])
        exact fin _ _ k3 hb
      · (try simp (maxSteps := 1000000) (disch := first | omega | (simp only [Z3]; omega) | (simp; done) | assumption | decide | (refine not_not_intro ?_; assumption)) only [Z1, Z2, splice, g2a, g2b, decide_eq_false o1, decide_eq_true n0, q, q', decide_eq_true b0, zw, z7])
        rw [← zbc]
        refine z73 hat hl _ 1 (by omega) (by omega) _ fun H3 b k3 hb => ?_
        (try simp (maxSteps := 1000000) (disch := first | omega | (simp only [Z3]; omega) | (simp; done) | assumption | decide | (refine not_not_intro ?_; assumption)) only [Z1, Z2, splice])
        exact fin _ _ k3 hb
    · have no := hQ _ _ k2 (hne (by rw [hm]; exact fun q => b0 q.1))
      rcases o2' with q | ⟨q, q'⟩
      · (try simp (maxSteps := 1000000) (disch := first | omega | (simp only [Z3]; omega) | (simp; done) | assumption | decide | (refine not_not_intro ?_; assumption)) only [Z1, Z2, splice, g2a, g2b, decide_eq_false o1, decide_eq_true n0, q, decide_eq_false b0, zw, z7])
        exact no
      · (try simp (maxSteps := 1000000) (disch := first | omega | (simp only [Z3]; omega) | (simp; done) | assumption | decide | (refine not_not_intro ?_; assumption)) only [Z1, Z2, splice, g2a, g2b, decide_eq_false o1, decide_eq_true n0, q, q', decide_eq_false b0, zw, z7])
        exact no
  have n2 : ¬ i.op = 2 := fun q => o2 (.inl q)
  have n3 : ¬ i.op = 3 := fun q => o2 (.inr q)
  by_cases o4 : i.op = 4 ∨ i.op = 5
  · have hm := zbt5 (types := x.types.xs) (n := x.code.xs.length) o4
    have o4' : decide (i.op = 4) = true ∨ (decide (i.op = 4) = false ∧ decide (i.op = 5) = true) := by
      rcases o4 with q | q
      · exact .inl (decide_eq_true q)
      · exact .inr ⟨decide_eq_false (by omega), decide_eq_true q⟩
    by_cases b1 : i.b ≥ 1
    case neg =>
      have no := hQ _ _ k2 (hne (by rw [hm]; omega))
      rcases o4' with q | ⟨q, q'⟩
      · (try simp (maxSteps := 1000000) (disch := first | omega | (simp only [Z3]; omega) | (simp; done) | assumption | decide | (refine not_not_intro ?_; assumption)) only [Z1, Z2, splice, g2a, g2b, decide_eq_false o1, decide_eq_true n0, decide_eq_false n2, decide_eq_false n3, q, decide_eq_false b1, zw, z7, zbp])
        exact no
      · (try simp (maxSteps := 1000000) (disch := first | omega | (simp only [Z3]; omega) | (simp; done) | assumption | decide | (refine not_not_intro ?_; assumption)) only [Z1, Z2, splice, g2a, g2b, decide_eq_false o1, decide_eq_true n0, decide_eq_false n2, decide_eq_false n3, q, q', decide_eq_false b1, zw, z7, zbp])
        exact no
    by_cases b2 : i.b ≤ 32
    case neg =>
      have no := hQ _ _ k2 (hne (by rw [hm]; omega))
      rcases o4' with q | ⟨q, q'⟩
      · (try simp (maxSteps := 1000000) (disch := first | omega | (simp only [Z3]; omega) | (simp; done) | assumption | decide | (refine not_not_intro ?_; assumption)) only [Z1, Z2, splice, g2a, g2b, decide_eq_false o1, decide_eq_true n0, decide_eq_false n2, decide_eq_false n3, q, decide_eq_true b1, decide_eq_false b2, zw, z7, zbp])
        exact no
      · (try simp (maxSteps := 1000000) (disch := first | omega | (simp only [Z3]; omega) | (simp; done) | assumption | decide | (refine not_not_intro ?_; assumption)) only [Z1, Z2, splice, g2a, g2b, decide_eq_false o1, decide_eq_true n0, decide_eq_false n2, decide_eq_false n3, q, q', decide_eq_true b1, decide_eq_false b2, zw, z7, zbp])
        exact no
    have fin : ∀ (H' : Heap) (b : Bool), Keeps [] H2 H' → (b = true ↔ z2s x.types.xs i.a i.b) → Q (.bool b) H' := fun H' b k hb => hQ _ _ (k2.trans k (by simp)) (by rw [hm, hb]; simp only [n0, true_and]; exact ⟨fun q => ⟨b1, b2, q⟩, fun q => q.2.2⟩)
    rcases o4' with q | ⟨q, q'⟩
    · (try simp (maxSteps := 1000000) (disch := first | omega | (simp only [Z3]; omega) | (simp; done) | assumption | decide | (refine not_not_intro ?_; assumption)) only [Z1, Z2, splice, g2a, g2b, decide_eq_false o1, decide_eq_true n0, decide_eq_false n2, decide_eq_false n3, q, decide_eq_true b1, decide_eq_true b2, zw, z7, zbp])
      rw [← zbc]
      refine z73 hat hl _ _ (by omega) (by omega) _ fun H3 b k3 hb => ?_
      (try simp (maxSteps := 1000000) (disch := first | omega | (simp only [Z3]; omega) | (simp; done) | assumption | decide | (refine not_not_intro ?_; assumption)) only [Z1, Z2, splice])
      exact fin _ _ k3 hb
    · (try simp (maxSteps := 1000000) (disch := first | omega | (simp only [Z3]; omega) | (simp; done) | assumption | decide | (refine not_not_intro ?_; assumption)) only [Z1, Z2, splice, g2a, g2b, decide_eq_false o1, decide_eq_true n0, decide_eq_false n2, decide_eq_false n3, q, q', decide_eq_true b1, decide_eq_true b2, zw, z7, zbp])
      rw [← zbc]
      refine z73 hat hl _ _ (by omega) (by omega) _ fun H3 b k3 hb => ?_
      (try simp (maxSteps := 1000000) (disch := first | omega | (simp only [Z3]; omega) | (simp; done) | assumption | decide | (refine not_not_intro ?_; assumption)) only [Z1, Z2, splice])
      exact fin _ _ k3 hb
  have n4 : ¬ i.op = 4 := fun q => o4 (.inl q)
  have n5 : ¬ i.op = 5 := fun q => o4 (.inr q)
  by_cases o6 : i.op = 6
  · (try simp (maxSteps := 1000000) (disch := first | omega | (simp only [Z3]; omega) | (simp; done) | assumption | decide | (refine not_not_intro ?_; assumption)) only [Z1, Z2, splice, g2a, g2b, decide_eq_false o1, decide_eq_true n0, decide_eq_false n2, decide_eq_false n3, decide_eq_false n4, decide_eq_false n5, decide_eq_true o6, zw, z7, zbp, zbou])
    exact hQ _ _ k2 (by rw [zbwf o6]; simp [n0])
  by_cases o7 : i.op = 7
  · (try simp (maxSteps := 1000000) (disch := first | omega | (simp only [Z3]; omega) | (simp; done) | assumption | decide | (refine not_not_intro ?_; assumption)) only [Z1, Z2, splice, g2a, g2b, decide_eq_false o1, decide_eq_true n0, decide_eq_false n2, decide_eq_false n3, decide_eq_false n4, decide_eq_false n5, decide_eq_false o6, decide_eq_true o7, zw, z7, zbp, zbou])
    exact hQ _ _ k2 (by rw [zbwg o7]; simp [n0])
  by_cases o8 : i.op = 8
  · have hm := zbwh (types := x.types.xs) (n := x.code.xs.length) o8
    by_cases ta : 1 ≤ i.a ∧ i.a ≤ 4
    case neg =>
      (try simp (maxSteps := 1000000) (disch := first | omega | (simp only [Z3]; omega) | (simp; done) | assumption | decide | (refine not_not_intro ?_; assumption)) only [Z1, Z2, splice, g2a, g2b, decide_eq_false o1, decide_eq_true n0, decide_eq_false n2, decide_eq_false n3, decide_eq_false n4, decide_eq_false n5, decide_eq_false o6, decide_eq_false o7, decide_eq_true o8, zw, z7, zbp, zi1, decide_eq_false ta])
      exact hQ _ _ k2 (hne (by rw [hm]; exact fun q => ta q.2.1))
    by_cases tb : 1 ≤ i.b ∧ i.b ≤ 4
    case neg =>
      (try simp (maxSteps := 1000000) (disch := first | omega | (simp only [Z3]; omega) | (simp; done) | assumption | decide | (refine not_not_intro ?_; assumption)) only [Z1, Z2, splice, g2a, g2b, decide_eq_false o1, decide_eq_true n0, decide_eq_false n2, decide_eq_false n3, decide_eq_false n4, decide_eq_false n5, decide_eq_false o6, decide_eq_false o7, decide_eq_true o8, zw, z7, zbp, zi1, decide_eq_true ta, decide_eq_false tb])
      exact hQ _ _ k2 (hne (by rw [hm]; exact fun q => tb q.2.2.1))
    (try simp (maxSteps := 1000000) (disch := first | omega | (simp only [Z3]; omega) | (simp; done) | assumption | decide | (refine not_not_intro ?_; assumption)) only [Z1, Z2, splice, g2a, g2b, decide_eq_false o1, decide_eq_true n0, decide_eq_false n2, decide_eq_false n3, decide_eq_false n4, decide_eq_false n5, decide_eq_false o6, decide_eq_false o7, decide_eq_true o8, zw, z7, zbp, zi1, decide_eq_true ta, decide_eq_true tb, ek])
    refine hQ _ _ k2 ?_
    rw [hm]
    simp only [n0, ta, tb, true_and, and_self, beq_iff_eq]
    by_cases q1 : i.a = 1 <;> by_cases q2 : i.b = 1 <;> simp [q1, q2]
  by_cases o9 : i.op = 9 ∨ i.op = 10
  · have hm := zbwi (types := x.types.xs) (n := x.code.xs.length) o9
    have o9' : decide (i.op = 9) = true ∨ (decide (i.op = 9) = false ∧ decide (i.op = 10) = true) := by
      rcases o9 with q | q
      · exact .inl (decide_eq_true q)
      · exact .inr ⟨decide_eq_false (by omega), decide_eq_true q⟩
    by_cases b0 : i.b = 0
    case neg =>
      have no := hQ _ _ k2 (hne (by rw [hm]; exact fun q => b0 q.1))
      rcases o9' with q | ⟨q, q'⟩
      · (try simp (maxSteps := 1000000) (disch := first | omega | (simp only [Z3]; omega) | (simp; done) | assumption | decide | (refine not_not_intro ?_; assumption)) only [Z1, Z2, splice, g2a, g2b, decide_eq_false o1, decide_eq_true n0, decide_eq_false n2, decide_eq_false n3, decide_eq_false n4, decide_eq_false n5, decide_eq_false o6, decide_eq_false o7, decide_eq_false o8, q, decide_eq_false b0, zw, z7, zbp, zfy])
        exact no
      · (try simp (maxSteps := 1000000) (disch := first | omega | (simp only [Z3]; omega) | (simp; done) | assumption | decide | (refine not_not_intro ?_; assumption)) only [Z1, Z2, splice, g2a, g2b, decide_eq_false o1, decide_eq_true n0, decide_eq_false n2, decide_eq_false n3, decide_eq_false n4, decide_eq_false n5, decide_eq_false o6, decide_eq_false o7, decide_eq_false o8, q, q', decide_eq_false b0, zw, z7, zbp, zfy])
        exact no
    by_cases a0 : i.a ≥ 0
    case neg =>
      have no := hQ _ _ k2 (hne (by rw [hm]; exact fun q => a0 q.2.2.1))
      rcases o9' with q | ⟨q, q'⟩
      · (try simp (maxSteps := 1000000) (disch := first | omega | (simp only [Z3]; omega) | (simp; done) | assumption | decide | (refine not_not_intro ?_; assumption)) only [Z1, Z2, splice, g2a, g2b, decide_eq_false o1, decide_eq_true n0, decide_eq_false n2, decide_eq_false n3, decide_eq_false n4, decide_eq_false n5, decide_eq_false o6, decide_eq_false o7, decide_eq_false o8, q, decide_eq_true b0, decide_eq_false a0, zw, z7, zbp, zfy])
        exact no
      · (try simp (maxSteps := 1000000) (disch := first | omega | (simp only [Z3]; omega) | (simp; done) | assumption | decide | (refine not_not_intro ?_; assumption)) only [Z1, Z2, splice, g2a, g2b, decide_eq_false o1, decide_eq_true n0, decide_eq_false n2, decide_eq_false n3, decide_eq_false n4, decide_eq_false n5, decide_eq_false o6, decide_eq_false o7, decide_eq_false o8, q, q', decide_eq_true b0, decide_eq_false a0, zw, z7, zbp, zfy])
        exact no
    have fin := hQ _ (decide (i.a < x.code.xs.length)) k2 (by rw [hm, decide_eq_true_eq]; exact ⟨fun q => ⟨b0, n0, a0, q⟩, fun q => q.2.2.2⟩)
    rcases o9' with q | ⟨q, q'⟩
    · (try simp (maxSteps := 1000000) (disch := first | omega | (simp only [Z3]; omega) | (simp; done) | assumption | decide | (refine not_not_intro ?_; assumption)) only [Z1, Z2, splice, g2a, g2b, decide_eq_false o1, decide_eq_true n0, decide_eq_false n2, decide_eq_false n3, decide_eq_false n4, decide_eq_false n5, decide_eq_false o6, decide_eq_false o7, decide_eq_false o8, q, decide_eq_true b0, decide_eq_true a0, zw, z7, zbp, zfy, hlen])
      exact fin
    · (try simp (maxSteps := 1000000) (disch := first | omega | (simp only [Z3]; omega) | (simp; done) | assumption | decide | (refine not_not_intro ?_; assumption)) only [Z1, Z2, splice, g2a, g2b, decide_eq_false o1, decide_eq_true n0, decide_eq_false n2, decide_eq_false n3, decide_eq_false n4, decide_eq_false n5, decide_eq_false o6, decide_eq_false o7, decide_eq_false o8, q, q', decide_eq_true b0, decide_eq_true a0, zw, z7, zbp, zfy, hlen])
      exact fin
  have n9 : ¬ i.op = 9 := fun q => o9 (.inl q)
  have n10 : ¬ i.op = 10 := fun q => o9 (.inr q)
  by_cases o11 : i.op = 11
  · (try simp (maxSteps := 1000000) (disch := first | omega | (simp only [Z3]; omega) | (simp; done) | assumption | decide | (refine not_not_intro ?_; assumption)) only [Z1, Z2, splice, g2a, g2b, decide_eq_false o1, decide_eq_true n0, decide_eq_false n2, decide_eq_false n3, decide_eq_false n4, decide_eq_false n5, decide_eq_false o6, decide_eq_false o7, decide_eq_false o8, decide_eq_false n9, decide_eq_false n10, decide_eq_true o11, zw, z7, zbp, zfy])
    rw [← zbc]
    refine zbqu hat hl _ _ _ fun H3 b k3 hb => ?_
    (try simp (maxSteps := 1000000) (disch := first | omega | (simp only [Z3]; omega) | (simp; done) | assumption | decide | (refine not_not_intro ?_; assumption)) only [Z1, Z2, splice])
    exact hQ _ _ (k2.trans k3 (by simp)) (by rw [zbt6 o11, hb]; simp [n0])
  by_cases o12 : i.op = 12
  · have hm := zbt7 (types := x.types.xs) (n := x.code.xs.length) o12
    by_cases a0 : i.a = 0
    · (try simp (maxSteps := 1000000) (disch := first | omega | (simp only [Z3]; omega) | (simp; done) | assumption | decide | (refine not_not_intro ?_; assumption)) only [Z1, Z2, splice, g2a, g2b, decide_eq_false o1, decide_eq_true n0, decide_eq_false n2, decide_eq_false n3, decide_eq_false n4, decide_eq_false n5, decide_eq_false o6, decide_eq_false o7, decide_eq_false o8, decide_eq_false n9, decide_eq_false n10, decide_eq_false o11, decide_eq_true o12, decide_eq_true a0, zw, z7, zbp, zfy])
      exact hQ _ _ k2 (by rw [hm, decide_eq_true_eq]; exact ⟨fun q => ⟨n0, a0, q⟩, fun q => q.2.2⟩)
    · (try simp (maxSteps := 1000000) (disch := first | omega | (simp only [Z3]; omega) | (simp; done) | assumption | decide | (refine not_not_intro ?_; assumption)) only [Z1, Z2, splice, g2a, g2b, decide_eq_false o1, decide_eq_true n0, decide_eq_false n2, decide_eq_false n3, decide_eq_false n4, decide_eq_false n5, decide_eq_false o6, decide_eq_false o7, decide_eq_false o8, decide_eq_false n9, decide_eq_false n10, decide_eq_false o11, decide_eq_true o12, decide_eq_false a0, zw, z7, zbp, zfy])
      exact hQ _ _ k2 (hne (by rw [hm]; exact fun q => a0 q.2.1))
  (try simp (maxSteps := 1000000) (disch := first | omega | (simp only [Z3]; omega) | (simp; done) | assumption | decide | (refine not_not_intro ?_; assumption)) only [Z1, Z2, splice, g2a, g2b, decide_eq_false o1, decide_eq_true n0, decide_eq_false n2, decide_eq_false n3, decide_eq_false n4, decide_eq_false n5, decide_eq_false o6, decide_eq_false o7, decide_eq_false o8, decide_eq_false n9, decide_eq_false n10, decide_eq_false o11, decide_eq_false o12, zw, z7, zbp, zfy, z7s])
  refine hQ _ _ k2 (hne ?_)
  rintro ⟨k, hk, e, _⟩
  omega
end Go.AM.Cap
