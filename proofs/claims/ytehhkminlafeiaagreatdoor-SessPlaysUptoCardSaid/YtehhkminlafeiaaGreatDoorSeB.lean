import Derived.Test.YtehhkminlafeiaaGreatDoorSeA
import Derived.Test.YtehhkminlafeiaaGreatDoorAmOpenF
set_option linter.all false
/- sess: numbers, Read; the reference's -/
set_option maxHeartbeats 16000000
namespace Go.AM.Cap
open Go.AM Go.Proofs
theorem zbj8 {α : Type} [Flat α] {n : Nat} (hs : Flat.size α = n) {H : Heap} {v : V} {l : List α} (h : Sl H v l) {k : Nat} (hk : k ≤ l.length) : ∃ w, zh7 n v none (some (i64 (k : Int))) = some w ∧ Sl H w (l.take k) ∧ ∀ b ∈ vb w, b ∈ vb v := by
  subst hs
  rcases h with ⟨rfl, rfl⟩ | ⟨b, o, u, c, rfl, hc, hb, hl2, hu2⟩
  · have hk0 : k = 0 := by simpa using hk
    subst hk0
    exact ⟨.slice none 0 0, rfl, Sl.nil H, by simp⟩
  · have e1 : zd5 l.length c (some (i64 (k : Int))) = some k := by simp [zd5]; omega
    have hb0 : zd5 0 k none = some 0 := rfl
    have hu3 : u = Flat.size α ∨ u = 0 := hu2.symm
    have hw : zh7 (Flat.size α) (slc b o u l.length c) none (some (i64 (k : Int))) = some (slc b o u k c) := by
      simp only [zh7, e1, hb0]
      rw [if_pos hu3]
      simp [zp1]
    have htl : (l.take k).length = k := by rw [List.length_take]; omega
    refine ⟨slc b o u k c, hw, .inr ⟨b, o, u, c, by rw [htl], by omega, hb, ?_, hu2⟩, by simp⟩
    rcases hl2 with rfl | ⟨rw_, cs, hg, q1, q2⟩
    · left; simp
    · refine .inr ⟨rw_, cs, hg, ?_, ?_⟩
      · rw [htl]; have : k * Flat.size α ≤ l.length * Flat.size α := Nat.mul_le_mul_right _ (by omega); omega
      · rw [htl]
        have : (cs.drop o).take (k * Flat.size α) = ((cs.drop o).take (l.length * Flat.size α)).take (k * Flat.size α) := by
          rw [List.take_take, Nat.min_eq_left (Nat.mul_le_mul_right _ (by omega))]
        rw [this, q2, zblz]
theorem zbd8 {α : Type} [Flat α] {n : Nat} (hs : Flat.size α = n) {H : Heap} {v : V} {l : List α} (h : Sl H v l) {k : Nat} (hk : k ≤ l.length) : ∃ w, zh7 n v (some (i64 (k : Int))) none = some w ∧ Sl H w (l.drop k) ∧ ∀ b ∈ vb w, b ∈ vb v := by
  subst hs
  rcases h with ⟨rfl, rfl⟩ | ⟨b, o, u, c, rfl, hc, hb, hl2, hu2⟩
  · have hk0 : k = 0 := by simpa using hk
    subst hk0
    exact ⟨.slice none 0 0, rfl, Sl.nil H, by simp⟩
  · have e1 : zd5 l.length c none = some l.length := rfl
    have hb0 : zd5 0 l.length (some (i64 (k : Int))) = some k := by simp [zd5]; omega
    have hu3 : u = Flat.size α ∨ u = 0 := hu2.symm
    have hdl : (l.drop k).length = l.length - k := by rw [List.length_drop]
    by_cases hck : c = k
    · have hw : zh7 (Flat.size α) (slc b o u l.length c) (some (i64 (k : Int))) none = some (slc b o u (l.length - k) (c - k)) := by
        simp only [zh7, e1, hb0]
        rw [if_pos hu3]
        simp [zp1, hck]
      have hnil : l.drop k = [] := List.drop_of_length_le (by omega)
      refine ⟨_, hw, .inr ⟨b, o, u, c - k, by rw [hdl], by omega, hb, .inl hnil, hu2⟩, by simp⟩
    · have hw : zh7 (Flat.size α) (slc b o u l.length c) (some (i64 (k : Int))) none = some (slc b (o + k * Flat.size α) u (l.length - k) (c - k)) := by
        simp only [zh7, e1, hb0]
        rw [if_pos hu3]
        simp [zp1, hck]
      refine ⟨_, hw, .inr ⟨b, o + k * Flat.size α, u, c - k, by rw [hdl], by omega, hb, ?_, hu2⟩, by simp⟩
      rcases hl2 with rfl | ⟨rw_, cs, hg, q1, q2⟩
      · left; simp
      · refine .inr ⟨rw_, cs, hg, ?_, ?_⟩
        · rw [hdl]
          have : (l.length - k) * Flat.size α + k * Flat.size α = l.length * Flat.size α := by rw [← Nat.add_mul]; congr 1; omega
          omega
        · rw [hdl]
          have e2 : l.length * Flat.size α - k * Flat.size α = (l.length - k) * Flat.size α := by rw [Nat.sub_mul]
          have : (cs.drop (o + k * Flat.size α)).take ((l.length - k) * Flat.size α) = ((cs.drop o).take (l.length * Flat.size α)).drop (k * Flat.size α) := by
            rw [List.drop_take, List.drop_drop, e2]
          rw [this, q2, zbly]
def zt1 (x : It) : Bool := x.t || decide (x.n < 1 ∨ x.n > 1073741824)
def zkb : List It → Option (Int × Int × List It)
  | x :: y :: r => if zt1 x || zt1 y then none else some (x.n, y.n, r)
  | _ => none
theorem ztt (x y : It) (r : List It) : zkb (x :: y :: r) = if zt1 x || zt1 y then none else some (x.n, y.n, r) := rfl
theorem zbth {H : Heap} {v : V} {l : List It} (h : Sl H v l) (Q : V → Heap → Prop) (h0 : ∀ H', Keeps [] H H' → zkb l = none → Q (.tuple #[i64 0, i64 0, .slice none 0 0, .bool false]) H')
    (h1 : ∀ w H' a b r, Keeps [] H H' → zkb l = some (a, b, r) → Sl H' w r → (∀ x ∈ vb w, x ∈ vb v) → Q (.tuple #[i64 a, i64 b, w, .bool true]) H') : wp (zld [v]) Q H := by
  show wp (zlc v) Q H
  have hlen := h.len
  match l, h, h0, h1, hlen with
  | [], h, h0, h1, hlen =>
    (try simp (maxSteps := 1000000) (disch := first | omega | (simp only [Z3]; omega) | (simp; done) | assumption | decide | (refine not_not_intro ?_; assumption)) only [Z1, Z2, splice, zlc, hlen, List.length_nil])
    exact h0 H (Keeps.refl _ _) rfl
  | [x], h, h0, h1, hlen =>
    (try simp (maxSteps := 1000000) (disch := first | omega | (simp only [Z3]; omega) | (simp; done) | assumption | decide | (refine not_not_intro ?_; assumption)) only [Z1, Z2, splice, zlc, hlen])
    exact h0 H (Keeps.refl _ _) rfl
  | x :: y :: r, h, h0, h1, hlen =>
    obtain ⟨w2, hw2, hs2, _⟩ := zbj8 (n := 3) rfl h (k := 2) (by simp)
    have hs2' : Sl H w2 [x, y] := hs2
    have hl2 := hs2'.len
    obtain ⟨w3, hw3, hs3, hv3⟩ := zbd8 (n := 3) rfl h (k := 2) (by simp)
    have hs3' : Sl H w3 r := hs3
    have hlt : ¬ (((x :: y :: r).length : Int) < 2) := by simp; omega
    have hw2' : zh7 3 v none (some (i64 2)) = some w2 := hw2
    have hw3' : zh7 3 v (some (i64 2)) none = some w3 := hw3
    (try simp (maxSteps := 1000000) (disch := first | omega | (simp only [Z3]; omega) | (simp; done) | assumption | decide | (refine not_not_intro ?_; assumption)) only [Z1, Z2, splice, zlc, hlen, z5r, hw2', hl2])
    refine zbt (Inv := fun k vs H' => ∃ j : Nat, k = 2 - j ∧ j ≤ 2 ∧ vs = [v, w2, i64 2, i64 j] ∧ Keeps [] H H' ∧ ∀ i, i < j → zt1 ([x, y].getD i default) = false) (n := 2) (by unfold zcc; omega)
      ⟨0, by omega, by omega, rfl, Keeps.refl _ _, by omega⟩ ?_
    rintro k vs H1 ⟨j, hk, hj, rfl, k1, hn⟩
    by_cases hlt2 : j < 2
    case neg =>
      have : j = 2 := by omega
      subst this
      have b0 : zt1 x = false := hn 0 (by omega)
      have b1 : zt1 y = false := hn 1 (by omega)
      have e : zkb (x :: y :: r) = some (x.n, y.n, r) := by rw [ztt, b0, b1]; rfl
      have hx := h.keep0 k1
      have a0 := hx.addr' (n := 3) rfl (k := .i64) (i := 0) (by omega) (by simp; omega)
      have a1 := hx.addr' (n := 3) rfl (k := .i64) (i := 1) (by omega) (by simp; omega)
      have c0 := hx.cell' (n := 3) rfl (i := 0) (off := 1) (by simp) (by omega) default
      have c1 := hx.cell' (n := 3) rfl (i := 1) (off := 1) (by simp) (by omega) default
      have e0 : (Flat.enc ((x :: y :: r).getD 0 default))[1]? = some (i64 x.n) := rfl
      have e1 : (Flat.enc ((x :: y :: r).getD 1 default))[1]? = some (i64 y.n) := rfl
      rw [e0, zl] at c0
      rw [e1, zl] at c1
      rw [show (0 : Int).toNat = 0 from rfl] at a0
      rw [show (1 : Int).toNat = 1 from rfl] at a1
      (try simp (maxSteps := 1000000) (disch := first | omega | (simp only [Z3]; omega) | (simp; done) | assumption | decide | (refine not_not_intro ?_; assumption)) only [Z1, Z2, splice, zv2, z5q, a0, a1, hw3', c0, c1])
      exact h1 w3 H1 _ _ r k1 e (hs3'.keep0 k1) hv3
    have hs := hs2'.keep0 k1
    have a1 := hs.addr' (n := 3) rfl (k := .i64) (i := j) (by omega) (by simp; omega)
    rw [Int.toNat_natCast] at a1
    have d1 := fun Q => hs.ldn' (Q := Q) (n := 3) rfl (i := j) (by simpa using hlt2) default
    have hbad : zt1 ([x, y].getD j default) = true → zkb (x :: y :: r) = none := fun q => by
      rw [ztt]
      have : (zt1 x || zt1 y) = true := by
        match j, hlt2, q with
        | 0, _, q => have q' : zt1 x = true := q; rw [q']; rfl
        | 1, _, q => have q' : zt1 y = true := q; rw [q']; simp
      rw [if_pos this]
    generalize hz : [x, y].getD j default = z at *
    have k2 : Keeps [] H (H1.push (some (.cells true [.bool z.t, i64 z.n, .string z.s]))) := zh8 k1
    (try simp (maxSteps := 1000000) (disch := first | omega | (simp only [Z3]; omega) | (simp; done) | assumption | decide | (refine not_not_intro ?_; assumption)) only [Z1, zl, zr, zcr, zeh, eq_self, true_and, zcu, zck, zc6, zby, zbu, Heap.get_push_eq, Heap.get_push_lt, Heap.get_set_eq, Heap.get_set_ne', Heap.next_push', Heap.next_set', Heap.set_push_lt, Heap.set_push_eq, Heap.set_set, zbz, zb0, zbf, zb3, zb4, z4, zbh, zb5, zbq, zbe, zbv, zbw, zbo, zbx, List.set_cons_zero, List.set_cons_succ, List.length_cons, List.length_nil, List.drop_succ_cons, List.drop_zero, List.take_succ_cons, List.take_zero, List.nil_append, List.cons_append, splice, zbb, zbc, z0, zq, zm, zbd, zb1, zbg, zc8, zcm, zb2, zb8, zx, zo, z9, Option.map_some, zb6, zbn, z6, zbi, zbj, zbk, z5, zbl, zbm, zv2, z5p, a1, d1, zzs])
    obtain ⟨zt, zn, zs⟩ := z
    cases zt with
    | true =>
      (try simp (maxSteps := 1000000) (disch := first | omega | (simp only [Z3]; omega) | (simp; done) | assumption | decide | (refine not_not_intro ?_; assumption)) only [Z1, Z2, splice])
      exact h0 _ k2 (hbad rfl)
    | false =>
      by_cases b1 : zn < 1
      · (try simp (maxSteps := 1000000) (disch := first | omega | (simp only [Z3]; omega) | (simp; done) | assumption | decide | (refine not_not_intro ?_; assumption)) only [Z1, Z2, splice])
        exact h0 _ k2 (hbad (by simp [zt1, b1]))
      by_cases b2 : zn > 1073741824
      · (try simp (maxSteps := 1000000) (disch := first | omega | (simp only [Z3]; omega) | (simp; done) | assumption | decide | (refine not_not_intro ?_; assumption)) only [Z1, Z2, splice])
        exact h0 _ k2 (hbad (by simp [zt1, b2]))
      · (try simp (maxSteps := 1000000) (disch := first | omega | (simp only [Z3]; omega) | (simp; done) | assumption | decide | (refine not_not_intro ?_; assumption)) only [Z1, Z2, splice, z5o])
        refine ⟨2 - (j + 1), by omega, j + 1, rfl, by omega, by push_cast; rfl, k2, fun i hi => ?_⟩
        rcases Nat.lt_or_eq_of_le (Nat.lt_succ_iff.1 hi) with q | rfl
        · exact hn i q
        · rw [hz]; simp only [zt1, Bool.false_or]; exact decide_eq_false (by omega)
def ztu : It := ⟨true, 0, ⟨#[114, 101, 112, 108, 121]⟩⟩
theorem zbgj : build [Value.bool false, Value.int .i64 0, (Value.string ⟨#[]⟩ : V)] [(0, 1, (Value.bool true)), (2, 1, (Value.string ⟨#[114, 101, 112, 108, 121]⟩))] = some (.agg (Flat.enc ztu).toArray) := by rfl
theorem zbze {b : List (BitVec 8)} : (zdz (zee b).2 = (0, 0)) ↔ (zee b).2 = none := by
  cases hd : (zee b).2 with
  | none => simp [zdz]
  | some e =>
    have := (zbq4 hd).2
    simp only [zdz, reduceCtorEq, iff_false]
    intro q; rw [q] at this; exact this rfl
end Go.AM.Cap
