import Derived.Test.YtjchglndancedaaGreatDoorCfA
import Derived.Test.YtjchglndancedaaGreatDoorAmOpenF
set_option linter.all false
/- conf: the plan's Check -/
set_option maxHeartbeats 8000000
namespace Go.AM.Cap
open Go.AM Go.Proofs
theorem zbd5 {H : Heap} {wv : V} {ws : List Win} (frame n : Int) (h : Sl H wv ws) (hl : ws.length ≤ 1000000) (Q : V → Heap → Prop) (hQ : ∀ a H', Keeps [] H H' → Q (.tuple #[i64 a, i64 (z4r frame ws n)]) H') : wp (zrm [.agg [i64 frame, wv].toArray, i64 n]) Q H := by
  show wp (zhx (.agg [i64 frame, wv].toArray) (i64 n)) Q H
  have ho : ([i64 frame, wv] : List V).all Value.isOne = true := by simp [h.isOne]
  have k1 : Keeps [] H (H.push (some (.cells true [i64 frame, wv]))) := Keeps.push _ _ _
  have g1 : (H.push (some (.cells true [i64 frame, wv]))).get H.next = some (.cells true [i64 frame, wv]) := Heap.get_push_self _ _
  by_cases c1 : n < 1 ∨ n > 8
  · have q := hQ (-1) _ k1
    rw [z4r, if_pos c1] at q
    by_cases c : n < 1
    · (try simp (maxSteps := 1000000) (disch := first | omega | (simp only [Z3]; omega) | (simp; done) | assumption | decide | (refine not_not_intro ?_; assumption)) only [Z1, Z2, splice, zhx, h.len])
      exact q
    · (try simp (maxSteps := 1000000) (disch := first | omega | (simp only [Z3]; omega) | (simp; done) | assumption | decide | (refine not_not_intro ?_; assumption)) only [Z1, Z2, splice, zhx, h.len])
      exact q
  by_cases c2 : frame < 1 ∨ frame > 65536 ∨ ws.length < 1 ∨ ws.length > 32
  · have q := hQ (-1) _ k1
    rw [z4r, if_neg c1, if_pos c2] at q
    by_cases d1 : frame < 1
    · (try simp (maxSteps := 1000000) (disch := first | omega | (simp only [Z3]; omega) | (simp; done) | assumption | decide | (refine not_not_intro ?_; assumption)) only [Z1, Z2, splice, zhx, h.len])
      exact q
    by_cases d2 : frame > 65536
    · (try simp (maxSteps := 1000000) (disch := first | omega | (simp only [Z3]; omega) | (simp; done) | assumption | decide | (refine not_not_intro ?_; assumption)) only [Z1, Z2, splice, zhx, h.len])
      exact q
    by_cases d3 : ws.length < 1
    · (try simp (maxSteps := 1000000) (disch := first | omega | (simp only [Z3]; omega) | (simp; done) | assumption | decide | (refine not_not_intro ?_; assumption)) only [Z1, Z2, splice, zhx, h.len])
      exact q
    · (try simp (maxSteps := 1000000) (disch := first | omega | (simp only [Z3]; omega) | (simp; done) | assumption | decide | (refine not_not_intro ?_; assumption)) only [Z1, Z2, splice, zhx, h.len])
      exact q
  (try simp (maxSteps := 1000000) (disch := first | omega | (simp only [Z3]; omega) | (simp; done) | assumption | decide | (refine not_not_intro ?_; assumption)) only [Z1, Z2, splice, zhx, h.len, z1z])
  generalize H.push (some (.cells true [i64 frame, wv])) = H1 at *
  have hp : H.next < H1.next := Heap.get_lt g1
  have hE : z4r frame ws n = if zz9 frame n 0 ws = true then 210 else if zxg ws (-1) > 1 then 210 else if ∃ p ∈ List.range n.toNat, zxg ws (p : Int) = 0 then 210 else 0 := by rw [z4r, if_neg c1, if_neg c2]
  refine ze6 ws.length (by omega) (fun j vs H' => ∃ e : Int, vs = [i64 n, ptr H.next 0, i64 e, wv, i64 ws.length, i64 j] ∧ 0 ≤ e ∧ e ≤ frame ∧ Keeps [] H1 H' ∧ zz9 frame n e (ws.drop j) = zz9 frame n 0 ws) ⟨0, rfl, by omega, by omega, Keeps.refl _ _, rfl⟩ ?_
  rintro j vs H2 hj ⟨e, rfl, he0, he1, k2, hb⟩
  have g2 := k2.get g1 (by simp)
  have k02 := k1.trans k2 (fun _ _ h => h)
  have h2 := h.keep0 k02
  by_cases hlt : j < ws.length
  · rw [zbcu ws j default hlt, zz9] at hb
    have a1 := h2.addr' (n := 3) rfl (k := .i64) (i := j) (by omega) (by omega)
    rw [Int.toNat_natCast] at a1
    have d1 := fun Q => h2.ldn' (Q := Q) (n := 3) rfl hlt default
    generalize ws.getD j default = x at *
    obtain ⟨wp_, ws_, wl_⟩ := x
    have kp : Keeps [] H1 (H2.push (some (.cells true [i64 wp_, i64 ws_, i64 wl_]))) := zdw k2
    have gp : (H2.push (some (.cells true [i64 wp_, i64 ws_, i64 wl_]))).get H.next = some (.cells true [i64 frame, wv]) := by rw [Heap.get_push_lt (by have := Heap.get_lt g2; omega)]; exact g2
    have gx : (H2.push (some (.cells true [i64 wp_, i64 ws_, i64 wl_]))).get H2.next = some (.cells true [i64 wp_, i64 ws_, i64 wl_]) := Heap.get_push_self _ _
    have hne : H.next ≠ H2.next := by have := Heap.get_lt g2; omega
    by_cases cb : z9e frame n e ⟨wp_, ws_, wl_⟩
    · rw [if_pos cb] at hb
      have q := hQ (j : Int) _ (k1.trans kp (fun _ _ h => h))
      rw [hE, if_pos hb.symm] at q
      simp only [z9e] at cb
      by_cases e1 : wp_ < -1
      · (try simp (maxSteps := 1000000) (disch := first | omega | (simp only [Z3]; omega) | (simp; done) | assumption | decide | (refine not_not_intro ?_; assumption)) only [Z1, zl, zf, zbx, zb8, eq_self, true_and, zby, zbt, zb0, zbi, zbc, Heap.get_push_eq, Heap.get_push_lt, Heap.get_set_eq, Heap.get_set_ne', Heap.next_push', Heap.next_set', Heap.set_push_lt, Heap.set_push_eq, Heap.set_set, zbj, zbk, zp, zbn, zbo, zi, zw, zbp, zbd, zu, zbe, zbf, zbg, zbh, List.set_cons_zero, List.set_cons_succ, List.length_cons, List.length_nil, List.drop_succ_cons, List.drop_zero, List.take_succ_cons, List.take_zero, List.nil_append, List.cons_append, splice, zq, zr, zh, ze, zd, zt, zbl, zv, zb2, zbu, zbm, zbs, zg, zm, zbb, Option.map_some, zbq, zbr, zk, zba, z7, zz, zj, zx, zy, zhw, ziz, a1, d1, zrw])
        exact q
      by_cases e2 : wp_ ≥ n
      · (try simp (maxSteps := 1000000) (disch := first | omega | (simp only [Z3]; omega) | (simp; done) | assumption | decide | (refine not_not_intro ?_; assumption)) only [Z1, zl, zf, zbx, zb8, eq_self, true_and, zby, zbt, zb0, zbi, zbc, Heap.get_push_eq, Heap.get_push_lt, Heap.get_set_eq, Heap.get_set_ne', Heap.next_push', Heap.next_set', Heap.set_push_lt, Heap.set_push_eq, Heap.set_set, zbj, zbk, zp, zbn, zbo, zi, zw, zbp, zbd, zu, zbe, zbf, zbg, zbh, List.set_cons_zero, List.set_cons_succ, List.length_cons, List.length_nil, List.drop_succ_cons, List.drop_zero, List.take_succ_cons, List.take_zero, List.nil_append, List.cons_append, splice, zq, zr, zh, ze, zd, zt, zbl, zv, zb2, zbu, zbm, zbs, zg, zm, zbb, Option.map_some, zbq, zbr, zk, zba, z7, zz, zj, zx, zy, zhw, ziz, a1, d1, zrw])
        exact q
      by_cases e3 : wl_ < 1
      · (try simp (maxSteps := 1000000) (disch := first | omega | (simp only [Z3]; omega) | (simp; done) | assumption | decide | (refine not_not_intro ?_; assumption)) only [Z1, zl, zf, zbx, zb8, eq_self, true_and, zby, zbt, zb0, zbi, zbc, Heap.get_push_eq, Heap.get_push_lt, Heap.get_set_eq, Heap.get_set_ne', Heap.next_push', Heap.next_set', Heap.set_push_lt, Heap.set_push_eq, Heap.set_set, zbj, zbk, zp, zbn, zbo, zi, zw, zbp, zbd, zu, zbe, zbf, zbg, zbh, List.set_cons_zero, List.set_cons_succ, List.length_cons, List.length_nil, List.drop_succ_cons, List.drop_zero, List.take_succ_cons, List.take_zero, List.nil_append, List.cons_append, splice, zq, zr, zh, ze, zd, zt, zbl, zv, zb2, zbu, zbm, zbs, zg, zm, zbb, Option.map_some, zbq, zbr, zk, zba, z7, zz, zj, zx, zy, zhw, ziz, a1, d1, zrw])
        exact q
      by_cases e4 : ws_ < e
      · (try simp (maxSteps := 1000000) (disch := first | omega | (simp only [Z3]; omega) | (simp; done) | assumption | decide | (refine not_not_intro ?_; assumption)) only [Z1, zl, zf, zbx, zb8, eq_self, true_and, zby, zbt, zb0, zbi, zbc, Heap.get_push_eq, Heap.get_push_lt, Heap.get_set_eq, Heap.get_set_ne', Heap.next_push', Heap.next_set', Heap.set_push_lt, Heap.set_push_eq, Heap.set_set, zbj, zbk, zp, zbn, zbo, zi, zw, zbp, zbd, zu, zbe, zbf, zbg, zbh, List.set_cons_zero, List.set_cons_succ, List.length_cons, List.length_nil, List.drop_succ_cons, List.drop_zero, List.take_succ_cons, List.take_zero, List.nil_append, List.cons_append, splice, zq, zr, zh, ze, zd, zt, zbl, zv, zb2, zbu, zbm, zbs, zg, zm, zbb, Option.map_some, zbq, zbr, zk, zba, z7, zz, zj, zx, zy, zhw, ziz, a1, d1, zrw])
        exact q
      by_cases e5 : ws_ > frame
      · (try simp (maxSteps := 1000000) (disch := first | omega | (simp only [Z3]; omega) | (simp; done) | assumption | decide | (refine not_not_intro ?_; assumption)) only [Z1, zl, zf, zbx, zb8, eq_self, true_and, zby, zbt, zb0, zbi, zbc, Heap.get_push_eq, Heap.get_push_lt, Heap.get_set_eq, Heap.get_set_ne', Heap.next_push', Heap.next_set', Heap.set_push_lt, Heap.set_push_eq, Heap.set_set, zbj, zbk, zp, zbn, zbo, zi, zw, zbp, zbd, zu, zbe, zbf, zbg, zbh, List.set_cons_zero, List.set_cons_succ, List.length_cons, List.length_nil, List.drop_succ_cons, List.drop_zero, List.take_succ_cons, List.take_zero, List.nil_append, List.cons_append, splice, zq, zr, zh, ze, zd, zt, zbl, zv, zb2, zbu, zbm, zbs, zg, zm, zbb, Option.map_some, zbq, zbr, zk, zba, z7, zz, zj, zx, zy, zhw, ziz, a1, d1, zrw, gp, gx, g2])
        exact q
      · have e6 : wl_ > frame - ws_ := by omega
        (try simp (maxSteps := 1000000) (disch := first | omega | (simp only [Z3]; omega) | (simp; done) | assumption | decide | (refine not_not_intro ?_; assumption)) only [Z1, zl, zf, zbx, zb8, eq_self, true_and, zby, zbt, zb0, zbi, zbc, Heap.get_push_eq, Heap.get_push_lt, Heap.get_set_eq, Heap.get_set_ne', Heap.next_push', Heap.next_set', Heap.set_push_lt, Heap.set_push_eq, Heap.set_set, zbj, zbk, zp, zbn, zbo, zi, zw, zbp, zbd, zu, zbe, zbf, zbg, zbh, List.set_cons_zero, List.set_cons_succ, List.length_cons, List.length_nil, List.drop_succ_cons, List.drop_zero, List.take_succ_cons, List.take_zero, List.nil_append, List.cons_append, splice, zq, zr, zh, ze, zd, zt, zbl, zv, zb2, zbu, zbm, zbs, zg, zm, zbb, Option.map_some, zbq, zbr, zk, zba, z7, zz, zj, zx, zy, zhw, ziz, a1, d1, zrw, gp, gx, g2])
        exact q
    · rw [if_neg cb] at hb
      simp only [z9e] at cb
      (try simp (maxSteps := 1000000) (disch := first | omega | (simp only [Z3]; omega) | (simp; done) | assumption | decide | (refine not_not_intro ?_; assumption)) only [Z1, zl, zf, zbx, zb8, eq_self, true_and, zby, zbt, zb0, zbi, zbc, Heap.get_push_eq, Heap.get_push_lt, Heap.get_set_eq, Heap.get_set_ne', Heap.next_push', Heap.next_set', Heap.set_push_lt, Heap.set_push_eq, Heap.set_set, zbj, zbk, zp, zbn, zbo, zi, zw, zbp, zbd, zu, zbe, zbf, zbg, zbh, List.set_cons_zero, List.set_cons_succ, List.length_cons, List.length_nil, List.drop_succ_cons, List.drop_zero, List.take_succ_cons, List.take_zero, List.nil_append, List.cons_append, splice, zq, zr, zh, ze, zd, zt, zbl, zv, zb2, zbu, zbm, zbs, zg, zm, zbb, Option.map_some, zbq, zbr, zk, zba, z7, zz, zj, zx, zy, zhw, ziz, a1, d1, zrw, z3q, z3r, gp, gx, g2])
      exact ⟨hlt, ws_ + wl_, rfl, by omega, by omega, kp, hb⟩
  have : j = ws.length := by omega
  subst this
  rw [List.drop_length, zz9] at hb
  rw [← hb] at hE
  have hl2 : ([i64 frame, wv] : List V).length = 2 := rfl
  have d2 := fun Q => zcg (Q := Q) g2 hl2
  (try simp (maxSteps := 1000000) (disch := first | omega | (simp only [Z3]; omega) | (simp; done) | assumption | decide | (refine not_not_intro ?_; assumption)) only [Z1, zl, zf, zbx, zb8, eq_self, true_and, zby, zbt, zb0, zbi, zbc, Heap.get_push_eq, Heap.get_push_lt, Heap.get_set_eq, Heap.get_set_ne', Heap.next_push', Heap.next_set', Heap.set_push_lt, Heap.set_push_eq, Heap.set_set, zbj, zbk, zp, zbn, zbo, zi, zw, zbp, zbd, zu, zbe, zbf, zbg, zbh, List.set_cons_zero, List.set_cons_succ, List.length_cons, List.length_nil, List.drop_succ_cons, List.drop_zero, List.take_succ_cons, List.take_zero, List.nil_append, List.cons_append, splice, zq, zr, zh, ze, zd, zt, zbl, zv, zb2, zbu, zbm, zbs, zg, zm, zbb, Option.map_some, zbq, zbr, zk, zba, z7, zz, zj, zx, zy, zhw, z3w, d2])
  refine zbmc frame h2 hl (-1) _ fun H3 k3 => ?_
  have g3 := k3.get g2 (by simp)
  have k03 := k02.trans k3 (fun _ _ h => h)
  by_cases cm : zxg ws (-1) > 1
  · have q := hQ (-1) _ k03
    rw [hE, if_neg (by simp), if_pos cm] at q
    (try simp (maxSteps := 1000000) (disch := first | omega | (simp only [Z3]; omega) | (simp; done) | assumption | decide | (refine not_not_intro ?_; assumption)) only [Z1, Z2, splice])
    exact q
  rw [if_neg (by simp), if_neg cm] at hE
  (try simp (maxSteps := 1000000) (disch := first | omega | (simp only [Z3]; omega) | (simp; done) | assumption | decide | (refine not_not_intro ?_; assumption)) only [Z1, Z2, splice, z3v])
  refine ze6 n.toNat (by omega) (fun j vs H' => vs = [ptr H.next 0, i64 n, i64 j] ∧ Keeps [] H3 H' ∧ ∀ p, p < j → zxg ws (p : Int) ≠ 0) ⟨rfl, Keeps.refl _ _, by omega⟩ ?_
  rintro i vs H4 hi ⟨rfl, k4, hi2⟩
  have g4 := k4.get g3 (by simp)
  have k04 := k03.trans k4 (fun _ _ h => h)
  by_cases hlt2 : i < n.toNat
  · have d4 := fun Q => zcg (Q := Q) g4 hl2
    (try simp (maxSteps := 1000000) (disch := first | omega | (simp only [Z3]; omega) | (simp; done) | assumption | decide | (refine not_not_intro ?_; assumption)) only [Z1, zl, zf, zbx, zb8, eq_self, true_and, zby, zbt, zb0, zbi, zbc, Heap.get_push_eq, Heap.get_push_lt, Heap.get_set_eq, Heap.get_set_ne', Heap.next_push', Heap.next_set', Heap.set_push_lt, Heap.set_push_eq, Heap.set_set, zbj, zbk, zp, zbn, zbo, zi, zw, zbp, zbd, zu, zbe, zbf, zbg, zbh, List.set_cons_zero, List.set_cons_succ, List.length_cons, List.length_nil, List.drop_succ_cons, List.drop_zero, List.take_succ_cons, List.take_zero, List.nil_append, List.cons_append, splice, zq, zr, zh, ze, zd, zt, zbl, zv, zb2, zbu, zbm, zbs, zg, zm, zbb, Option.map_some, zbq, zbr, zk, zba, z7, zz, zj, zx, zy, zx3, z3t, d4])
    refine zbmc frame (h.keep0 k04) hl i _ fun H5 k5 => ?_
    by_cases cz : zxg ws (i : Int) = 0
    · have q := hQ (-1) _ (k04.trans k5 (fun _ _ h => h))
      rw [hE, if_pos ⟨i, List.mem_range.2 hlt2, cz⟩] at q
      rw [cz]
      (try simp (maxSteps := 1000000) (disch := first | omega | (simp only [Z3]; omega) | (simp; done) | assumption | decide | (refine not_not_intro ?_; assumption)) only [Z1, Z2, splice])
      exact q
    · have : ¬ ((zxg ws (i : Int) : Int) = 0) := by omega
      (try simp (maxSteps := 1000000) (disch := first | omega | (simp only [Z3]; omega) | (simp; done) | assumption | decide | (refine not_not_intro ?_; assumption)) only [Z1, Z2, splice, z3s])
      refine ⟨hlt2, rfl, k4.trans k5 (fun _ _ h => h), fun p hp2 => ?_⟩
      rcases Nat.lt_or_eq_of_le (Nat.lt_succ_iff.1 hp2) with q | rfl
      · exact hi2 p q
      · exact cz
  · have : i = n.toNat := by omega
    subst this
    have q := hQ 0 _ k04
    rw [hE, if_neg (by rintro ⟨p, hp1, hp2⟩; exact hi2 p (List.mem_range.1 hp1) hp2)] at q
    (try simp (maxSteps := 1000000) (disch := first | omega | (simp only [Z3]; omega) | (simp; done) | assumption | decide | (refine not_not_intro ?_; assumption)) only [Z1, Z2, splice, zx3, z3u])
    exact q
end Go.AM.Cap
