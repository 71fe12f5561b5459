import Derived.Test.YtehhkminlafeiaaGreatDoorSeA
import Derived.Test.YtehhkminlafeiaaGreatDoorAmOpenF
set_option linter.all false
/- sess: numbers, Read; the reference's -/
set_option maxHeartbeats 16000000
namespace Go.AM.Cap
open Go.AM Go.Proofs

/-! parts of slices -/
theorem sub_take {α : Type} [Flat α] {n : Nat} (hs : Flat.size α = n) {H : Heap} {v : V} {l : List α} (h : Sl H v l) {k : Nat} (hk : k ≤ l.length) : ∃ w, subV n v none (some (i64 (k : Int))) = some w ∧ Sl H w (l.take k) ∧ ∀ b ∈ vb w, b ∈ vb v := by
  subst hs
  rcases h with ⟨rfl, rfl⟩ | ⟨b, o, u, c, rfl, hc, hb, hl2, hu2⟩
  · have hk0 : k = 0 := by simpa using hk
    subst hk0
    exact ⟨.slice none 0 0, rfl, Sl.nil H, by simp⟩
  · have e1 : bound l.length c (some (i64 (k : Int))) = some k := by simp [bound]; omega
    have hb0 : bound 0 k none = some 0 := rfl
    have hu3 : u = Flat.size α ∨ u = 0 := hu2.symm
    have hw : subV (Flat.size α) (slc b o u l.length c) none (some (i64 (k : Int))) = some (slc b o u k c) := by
      simp only [subV, e1, hb0]
      rw [if_pos hu3]
      simp [cutAt]
    have htl : (l.take k).length = k := by rw [List.length_take]; omega
    refine ⟨slc b o u k c, hw, .inr ⟨b, o, u, c, by rw [htl], by omega, hb, ?_, hu2⟩, by simp⟩
    rcases hl2 with rfl | ⟨rw_, cs, hg, q1, q2⟩
    · left; simp
    · refine .inr ⟨rw_, cs, hg, ?_, ?_⟩
      · rw [htl]; have : k * Flat.size α ≤ l.length * Flat.size α := Nat.mul_le_mul_right _ (by omega); omega
      · rw [htl]
        have : (cs.drop o).take (k * Flat.size α) = ((cs.drop o).take (l.length * Flat.size α)).take (k * Flat.size α) := by
          rw [List.take_take, Nat.min_eq_left (Nat.mul_le_mul_right _ (by omega))]
        rw [this, q2, encs_take]
theorem sub_drop {α : Type} [Flat α] {n : Nat} (hs : Flat.size α = n) {H : Heap} {v : V} {l : List α} (h : Sl H v l) {k : Nat} (hk : k ≤ l.length) : ∃ w, subV n v (some (i64 (k : Int))) none = some w ∧ Sl H w (l.drop k) ∧ ∀ b ∈ vb w, b ∈ vb v := by
  subst hs
  rcases h with ⟨rfl, rfl⟩ | ⟨b, o, u, c, rfl, hc, hb, hl2, hu2⟩
  · have hk0 : k = 0 := by simpa using hk
    subst hk0
    exact ⟨.slice none 0 0, rfl, Sl.nil H, by simp⟩
  · have e1 : bound l.length c none = some l.length := rfl
    have hb0 : bound 0 l.length (some (i64 (k : Int))) = some k := by simp [bound]; omega
    have hu3 : u = Flat.size α ∨ u = 0 := hu2.symm
    have hdl : (l.drop k).length = l.length - k := by rw [List.length_drop]
    by_cases hck : c = k
    · have hw : subV (Flat.size α) (slc b o u l.length c) (some (i64 (k : Int))) none = some (slc b o u (l.length - k) (c - k)) := by
        simp only [subV, e1, hb0]
        rw [if_pos hu3]
        simp [cutAt, hck]
      have hnil : l.drop k = [] := List.drop_of_length_le (by omega)
      refine ⟨_, hw, .inr ⟨b, o, u, c - k, by rw [hdl], by omega, hb, .inl hnil, hu2⟩, by simp⟩
    · have hw : subV (Flat.size α) (slc b o u l.length c) (some (i64 (k : Int))) none = some (slc b (o + k * Flat.size α) u (l.length - k) (c - k)) := by
        simp only [subV, e1, hb0]
        rw [if_pos hu3]
        simp [cutAt, hck]
      refine ⟨_, hw, .inr ⟨b, o + k * Flat.size α, u, c - k, by rw [hdl], by omega, hb, ?_, hu2⟩, by simp⟩
      rcases hl2 with rfl | ⟨rw_, cs, hg, q1, q2⟩
      · left; simp
      · refine .inr ⟨rw_, cs, hg, ?_, ?_⟩
        · rw [hdl]
          have : (l.length - k) * Flat.size α + k * Flat.size α = l.length * Flat.size α := by rw [← Nat.add_mul]; congr 1; omega
          omega
        · rw [hdl]
          have e2 : l.length * Flat.size α - k * Flat.size α = (l.length - k) * Flat.size α := by rw [Nat.sub_mul]
          have : (cs.drop (o + k * Flat.size α)).take ((l.length - k) * Flat.size α) = ((cs.drop o).take (l.length * Flat.size α)).drop (k * Flat.size α) := by
            rw [List.drop_take, List.drop_drop, e2]
          rw [this, q2, encs_drop]

/-! numbers that stand ahead -/
def badN (x : It) : Bool := x.t || decide (x.n < 1 ∨ x.n > 1073741824)
def numbersS : List It → Option (Int × Int × List It)
  | x :: y :: r => if badN x || badN y then none else some (x.n, y.n, r)
  | _ => none
theorem numbersS_two (x y : It) (r : List It) : numbersS (x :: y :: r) = if badN x || badN y then none else some (x.n, y.n, r) := rfl
theorem numbers_ok {H : Heap} {v : V} {l : List It} (h : Sl H v l) (Q : V → Heap → Prop) (h0 : ∀ H', Keeps [] H H' → numbersS l = none → Q (.tuple #[i64 0, i64 0, .slice none 0 0, .bool false]) H')
    (h1 : ∀ w H' a b r, Keeps [] H H' → numbersS l = some (a, b, r) → Sl H' w r → (∀ x ∈ vb w, x ∈ vb v) → Q (.tuple #[i64 a, i64 b, w, .bool true]) H') : wp (A_sess_numbers [v]) Q H := by
  show wp (F_sess_numbers v) Q H
  have hlen := h.len
  match l, h, h0, h1, hlen with
  | [], h, h0, h1, hlen =>
    (try simp (maxSteps := 1000000) (disch := first | omega | (simp only [Z3]; omega) | (simp; done) | assumption | decide | (refine not_not_intro ?_; assumption)) only [Z1, Z2, splice, F_sess_numbers, hlen, List.length_nil])
    exact h0 H (Keeps.refl _ _) rfl
  | [x], h, h0, h1, hlen =>
    (try simp (maxSteps := 1000000) (disch := first | omega | (simp only [Z3]; omega) | (simp; done) | assumption | decide | (refine not_not_intro ?_; assumption)) only [Z1, Z2, splice, F_sess_numbers, hlen])
    exact h0 H (Keeps.refl _ _) rfl
  | x :: y :: r, h, h0, h1, hlen =>
    obtain ⟨w2, hw2, hs2, _⟩ := sub_take (n := 3) rfl h (k := 2) (by simp)
    have hs2' : Sl H w2 [x, y] := hs2
    have hl2 := hs2'.len
    obtain ⟨w3, hw3, hs3, hv3⟩ := sub_drop (n := 3) rfl h (k := 2) (by simp)
    have hs3' : Sl H w3 r := hs3
    have hlt : ¬ (((x :: y :: r).length : Int) < 2) := by simp; omega
    have hw2' : subV 3 v none (some (i64 2)) = some w2 := hw2
    have hw3' : subV 3 v (some (i64 2)) none = some w3 := hw3
    (try simp (maxSteps := 1000000) (disch := first | omega | (simp only [Z3]; omega) | (simp; done) | assumption | decide | (refine not_not_intro ?_; assumption)) only [Z1, Z2, splice, F_sess_numbers, hlen, sess_numbers_k4, hw2', hl2])
    refine wp_loop (Inv := fun k vs H' => ∃ j : Nat, k = 2 - j ∧ j ≤ 2 ∧ vs = [v, w2, i64 2, i64 j] ∧ Keeps [] H H' ∧ ∀ i, i < j → badN ([x, y].getD i default) = false) (n := 2) (by unfold FUEL; omega)
      ⟨0, by omega, by omega, rfl, Keeps.refl _ _, by omega⟩ ?_
    rintro k vs H1 ⟨j, hk, hj, rfl, k1, hn⟩
    by_cases hlt2 : j < 2
    case neg =>
      have : j = 2 := by omega
      subst this
      have b0 : badN x = false := hn 0 (by omega)
      have b1 : badN y = false := hn 1 (by omega)
      have e : numbersS (x :: y :: r) = some (x.n, y.n, r) := by rw [numbersS_two, b0, b1]; rfl
      have hx := h.keep0 k1
      have a0 := hx.addr' (n := 3) rfl (k := .i64) (i := 0) (by omega) (by simp; omega)
      have a1 := hx.addr' (n := 3) rfl (k := .i64) (i := 1) (by omega) (by simp; omega)
      have c0 := hx.cell' (n := 3) rfl (i := 0) (off := 1) (by simp) (by omega) default
      have c1 := hx.cell' (n := 3) rfl (i := 1) (off := 1) (by simp) (by omega) default
      have e0 : (Flat.enc ((x :: y :: r).getD 0 default))[1]? = some (i64 x.n) := rfl
      have e1 : (Flat.enc ((x :: y :: r).getD 1 default))[1]? = some (i64 y.n) := rfl
      rw [e0, cellP_get] at c0
      rw [e1, cellP_get] at c1
      rw [show (0 : Int).toNat = 0 from rfl] at a0
      rw [show (1 : Int).toNat = 1 from rfl] at a1
      (try simp (maxSteps := 1000000) (disch := first | omega | (simp only [Z3]; omega) | (simp; done) | assumption | decide | (refine not_not_intro ?_; assumption)) only [Z1, Z2, splice, sess_numbers_l2, sess_numbers_k3, a0, a1, hw3', c0, c1])
      exact h1 w3 H1 _ _ r k1 e (hs3'.keep0 k1) hv3
    have hs := hs2'.keep0 k1
    have a1 := hs.addr' (n := 3) rfl (k := .i64) (i := j) (by omega) (by simp; omega)
    rw [Int.toNat_natCast] at a1
    have d1 := fun Q => hs.ldn' (Q := Q) (n := 3) rfl (i := j) (by simpa using hlt2) default
    have hbad : badN ([x, y].getD j default) = true → numbersS (x :: y :: r) = none := fun q => by
      rw [numbersS_two]
      have : (badN x || badN y) = true := by
        match j, hlt2, q with
        | 0, _, q => have q' : badN x = true := q; rw [q']; rfl
        | 1, _, q => have q' : badN y = true := q; rw [q']; simp
      rw [if_pos this]
    generalize hz : [x, y].getD j default = z at *
    have k2 : Keeps [] H (H1.push (some (.cells true [.bool z.t, i64 z.n, .string z.s]))) := keeps_push k1
    (try simp (maxSteps := 1000000) (disch := first | omega | (simp only [Z3]; omega) | (simp; done) | assumption | decide | (refine not_not_intro ?_; assumption)) only [Z1, cellP_get, cellG_cells, wp_st1g, stG_c, eq_self, true_and, wp_stng, stnG_ok, ldG_ok, wp_newcg, wp_boxg, Heap.get_push_eq, Heap.get_push_lt, Heap.get_set_eq, Heap.get_set_ne', Heap.next_push', Heap.next_set', Heap.set_push_lt, Heap.set_push_eq, Heap.set_set, fld1_agg, fldn_agg, ext_tuple, outV_nil, outV_two, outV_three, outV_four, chk_ld1g, chkO_int, chkO_bool, chkO_str, chkO_ptr, chkO_slc, chkO_map, List.set_cons_zero, List.set_cons_succ, List.length_cons, List.length_nil, List.drop_succ_cons, List.drop_zero, List.take_succ_cons, List.take_zero, List.nil_append, List.cons_append, splice, isOne_int, isOne_str, isOne_bool, isOne_slice, isOne_pointer, isOne_map, condM_nf, condM_nef, gd_nef, gdf_nef, pick_nef, build_eq, fillA_nil, fillA_one, fillA_agg, Option.map_some, resv_one, resv_two, freeIn_nil, fillA_slc, fillA_int, fillA_str, fillA_bool, fillA_ptr, fillA_map, sess_numbers_l2, sess_numbers_k1, a1, d1, enc_it])
    obtain ⟨zt, zn, zs⟩ := z
    cases zt with
    | true =>
      (try simp (maxSteps := 1000000) (disch := first | omega | (simp only [Z3]; omega) | (simp; done) | assumption | decide | (refine not_not_intro ?_; assumption)) only [Z1, Z2, splice])
      exact h0 _ k2 (hbad rfl)
    | false =>
      by_cases b1 : zn < 1
      · (try simp (maxSteps := 1000000) (disch := first | omega | (simp only [Z3]; omega) | (simp; done) | assumption | decide | (refine not_not_intro ?_; assumption)) only [Z1, Z2, splice])
        exact h0 _ k2 (hbad (by simp [badN, b1]))
      by_cases b2 : zn > 1073741824
      · (try simp (maxSteps := 1000000) (disch := first | omega | (simp only [Z3]; omega) | (simp; done) | assumption | decide | (refine not_not_intro ?_; assumption)) only [Z1, Z2, splice])
        exact h0 _ k2 (hbad (by simp [badN, b2]))
      · (try simp (maxSteps := 1000000) (disch := first | omega | (simp only [Z3]; omega) | (simp; done) | assumption | decide | (refine not_not_intro ?_; assumption)) only [Z1, Z2, splice, sess_numbers_k0])
        refine ⟨2 - (j + 1), by omega, j + 1, rfl, by omega, by push_cast; rfl, k2, fun i hi => ?_⟩
        rcases Nat.lt_or_eq_of_le (Nat.lt_succ_iff.1 hi) with q | rfl
        · exact hn i q
        · rw [hz]; simp only [badN, Bool.false_or]; exact decide_eq_false (by omega)

theorem fault_ne {b : List (BitVec 8)} : (faultOf (decI b).2 = (0, 0)) ↔ (decI b).2 = none := by
  cases hd : (decI b).2 with
  | none => simp [faultOf]
  | some e =>
    have := (decI_bad hd).2
    simp only [faultOf, reduceCtorEq, iff_false]
    intro q; rw [q] at this; exact this rfl
end Go.AM.Cap
