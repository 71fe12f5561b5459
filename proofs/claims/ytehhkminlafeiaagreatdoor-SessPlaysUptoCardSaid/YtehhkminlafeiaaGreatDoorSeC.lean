import Derived.Test.YtehhkminlafeiaaGreatDoorSeB
import Derived.Test.YtehhkminlafeiaaGreatDoorAmOpenF
set_option linter.all false
/- sess: the reference's Message and Read -/
set_option maxHeartbeats 16000000
namespace Go.AM.Cap
open Go.AM Go.Proofs
theorem zbrb {H : Heap} (k : ByteArray) (hk : k.size ≤ 1048576) {av sv' : V} {al says : List It} (ha : zcj H av al) (hs : Sl H sv' says) (hdis : ∀ b ∈ vb sv', b ∉ vb av) (hal : al.length ≤ 10) (hsl : says.length ≤ 1048576) (a b : Int) (Q : V → Heap → Prop)
    (hQ : ∀ H', Keeps (vb av) H H' → Q (.tuple #[.string (z09 k (al ++ (zdw a :: zdw b :: says))).1, i64 (z09 k (al ++ (zdw a :: zdw b :: says))).2]) H') : wp (zl7 [.string k, av, i64 a, i64 b, sv']) Q H := by
  show wp (zw8 (.string k) av (i64 a) (i64 b) sv') Q H
  unfold zw8
  rw [zk, zk, zbs, z8w, zz, zk, zbs, z8w, zz, zk]
  refine (zgv (cs := zba [zdw a, zdw b]) (by rfl) (zbra a b)).mpr ?_
  have k1 : Keeps [] H (H.push (some (.cells true (zba [zdw a, zdw b])))) := Keeps.push _ _ _
  have o1 := zd1 (H := H) (xs := [zdw a, zdw b]) (n := 3) (m := 2) rfl rfl
  have n1 : (H.push (some (.cells true (zba [zdw a, zdw b])))).next = H.next + 1 := by simp
  generalize H.push (some (.cells true (zba [zdw a, zdw b]))) = H1 at *
  rw [zk]
  refine zfk (α := It) rfl (ha.keep0 k1) o1.sl (by simp; omega) (by simp; omega) fun w2 H2 o2 k2 v2 => ?_
  have hs2 : Sl H2 sv' says := (hs.keep0 k1).keep k2 hdis
  have hav := ha.lt
  rw [zk]
  refine zfk (α := It) rfl o2 hs2 (by simp; omega) (by simp; omega) fun w3 H3 o3 k3 v3 => ?_
  have k03 : Keeps (vb av) H H3 := by
    have q1 := k1.next
    have q2 := k2.next
    refine ⟨by have := k3.next; omega, fun c hc hn => ?_⟩
    rw [k3.same c (by omega) (fun q => (v2 c q).elim hn (fun q => by omega)), k2.same c (by omega) hn, k1.same c hc (by simp)]
  have ecat : (al ++ [zdw a, zdw b]) ++ says = al ++ (zdw a :: zdw b :: says) := by simp
  rw [ecat] at o3
  (try simp (maxSteps := 1000000) (disch := first | omega | (simp only [Z3]; omega) | (simp; done) | assumption | decide | (refine not_not_intro ?_; assumption)) only [Z1, Z2, splice])
  refine zb02 o3.sl _ fun H4 k4 => ?_
  have k04 : Keeps (vb av) H H4 := k03.trans k4 (by simp)
  have hsz := zbfe (al ++ (zdw a :: zdw b :: says))
  unfold z09 at hQ
  by_cases he : (zhu (al ++ (zdw a :: zdw b :: says))).2 = 0
  · rw [if_pos he] at hQ
    rw [he]
    (try simp (maxSteps := 1000000) (disch := first | omega | (simp only [Z3]; omega) | (simp; done) | assumption | decide | (refine not_not_intro ?_; assumption)) only [Z1, Z2, splice, z9w])
    refine zxg H4 k _ (by omega) (by omega) _ fun H5 k5 => ?_
    have ea := zm3 (x := (zhu (al ++ (zdw a :: zdw b :: says))).1) (y := sv (tag (bv k) (bv (zhu (al ++ (zdw a :: zdw b :: says))).1))) (by rw [zgw, zoq]; omega)
    (try simp (maxSteps := 1000000) (disch := first | omega | (simp only [Z3]; omega) | (simp; done) | assumption | decide | (refine not_not_intro ?_; assumption)) only [Z1, Z2, splice, ea])
    exact hQ _ (k04.trans k5 (by simp))
  · rw [if_neg he] at hQ
    (try simp (maxSteps := 1000000) (disch := first | omega | (simp only [Z3]; omega) | (simp; done) | assumption | decide | (refine not_not_intro ?_; assumption)) only [Z1, Z2, splice])
    exact hQ _ k04
theorem zbrc {H : Heap} (k : ByteArray) (hk : k.size ≤ 1048576) {sv' : V} {says : List It} (hs : Sl H sv' says) (hsl : says.length ≤ 1048576) (a b : Int) (Q : V → Heap → Prop)
    (hQ : ∀ H', Keeps [] H H' → Q (.tuple #[.string (zg2 k a b says).1, i64 (zg2 k a b says).2]) H') : wp (zmo [.string k, i64 a, i64 b, sv']) Q H := by
  show wp (zqq (.string k) (i64 a) (i64 b) sv') Q H
  unfold zqq
  rw [zk, zk]
  refine zbrb k hk (zcj.nil H) hs (by simp) (by simp) hsl a b _ fun H1 k1 => ?_
  (try simp (maxSteps := 1000000) (disch := first | omega | (simp only [Z3]; omega) | (simp; done) | assumption | decide | (refine not_not_intro ?_; assumption)) only [Z1, Z2, splice, List.nil_append])
  exact hQ _ (by simpa using k1)
theorem zbrd {H : Heap} {v : V} {l : List It} (h : Sl H v l) (at' : Nat) (hat : at' ≤ 10) (hl : l.length ≤ 1000000000) (Q : V → Heap → Prop) (h0 : zkb (l.drop at') = none → Q (.tuple #[i64 0, i64 0, .bool false]) H)
    (h1 : ∀ a b r, zkb (l.drop at') = some (a, b, r) → Q (.tuple #[i64 a, i64 b, .bool true]) H) : wp (zmr [v, i64 at']) Q H := by
  show wp (zmq v (i64 at')) Q H
  have hlen := h.len
  by_cases hlt : l.length < at' + 2
  · have e : zkb (l.drop at') = none := by
      have hd : (l.drop at').length < 2 := by rw [List.length_drop]; omega
      match l.drop at', hd with
      | [], _ => rfl
      | [x], _ => rfl
    have hlt' : ((l.length : Int) < (at' : Int) + 2) := by omega
    (try simp (maxSteps := 1000000) (disch := first | omega | (simp only [Z3]; omega) | (simp; done) | assumption | decide | (refine not_not_intro ?_; assumption)) only [Z1, Z2, splice, zmq, hlen])
    exact h0 e
  have hlt' : ¬ ((l.length : Int) < (at' : Int) + 2) := by omega
  have hd : l.drop at' = l.getD at' default :: l.getD (at' + 1) default :: l.drop (at' + 2) := by
    rw [List.drop_eq_getElem_cons (show at' < l.length by omega), List.drop_eq_getElem_cons (show at' + 1 < l.length by omega), List.getD_eq_getElem?_getD, List.getD_eq_getElem?_getD, List.getElem?_eq_getElem (show at' < l.length by omega), List.getElem?_eq_getElem (show at' + 1 < l.length by omega)]
    rfl
  rw [hd, ztt] at h0 h1
  (try simp (maxSteps := 1000000) (disch := first | omega | (simp only [Z3]; omega) | (simp; done) | assumption | decide | (refine not_not_intro ?_; assumption)) only [Z1, Z2, splice, zmq, hlen, z25])
  refine zbt (Inv := fun k vs H' => ∃ j : Nat, k = 2 - j ∧ j ≤ 2 ∧ vs = [v, i64 at', i64 ((at' : Int) + j)] ∧ H' = H ∧ ∀ i, i < j → zt1 (l.getD (at' + i) default) = false) (n := 2) (by unfold zcc; omega)
    ⟨0, by omega, by omega, by simp, rfl, by omega⟩ ?_
  rintro k vs H1 ⟨j, hk, hj, rfl, he, hn⟩
  rw [he]; clear he H1
  by_cases hlt2 : j < 2
  case neg =>
    have : j = 2 := by omega
    subst this
    have b0 : zt1 (l.getD at' default) = false := hn 0 (by omega)
    have b1 : zt1 (l.getD (at' + 1) default) = false := hn 1 (by omega)
    rw [b0, b1] at h1
    have q := h1 _ _ _ rfl
    have a0 := h.addr' (n := 3) rfl (k := .i64) (i := (at' : Int)) (by omega) (by omega)
    have a1 := h.addr' (n := 3) rfl (k := .i64) (i := (at' : Int) + 1) (by omega) (by omega)
    rw [Int.toNat_natCast] at a0
    rw [show ((at' : Int) + 1).toNat = at' + 1 from by omega] at a1
    have c0 := h.cell' (n := 3) rfl (i := at') (off := 1) (by omega) (by omega) default
    have c1 := h.cell' (n := 3) rfl (i := at' + 1) (off := 1) (by omega) (by omega) default
    have e0 : (Flat.enc (l.getD at' default))[1]? = some (i64 (l.getD at' default).n) := rfl
    have e1 : (Flat.enc (l.getD (at' + 1) default))[1]? = some (i64 (l.getD (at' + 1) default).n) := rfl
    rw [e0, zl] at c0
    rw [e1, zl] at c1
    have hno : ¬ ((at' : Int) + ((2 : Nat) : Int) < (at' : Int) + 2) := by omega
    (try simp (maxSteps := 1000000) (disch := first | omega | (simp only [Z3]; omega) | (simp; done) | assumption | decide | (refine not_not_intro ?_; assumption)) only [Z1, Z2, splice, zix, z24, a0, a1, c0, c1])
    exact q
  have a0 := h.addr' (n := 3) rfl (k := .i64) (i := (at' : Int) + (j : Int)) (by omega) (by omega)
  rw [show ((at' : Int) + (j : Int)).toNat = at' + j from by omega] at a0
  have c0 := h.cell' (n := 3) rfl (i := at' + j) (off := 0) (by omega) (by omega) default
  have c1 := h.cell' (n := 3) rfl (i := at' + j) (off := 1) (by omega) (by omega) default
  have e0 : (Flat.enc (l.getD (at' + j) default))[0]? = some (.bool (l.getD (at' + j) default).t) := rfl
  have e1 : (Flat.enc (l.getD (at' + j) default))[1]? = some (i64 (l.getD (at' + j) default).n) := rfl
  rw [e0, zl, Nat.add_zero] at c0
  rw [e1, zl] at c1
  have hbad : zt1 (l.getD (at' + j) default) = true → Q (.tuple #[i64 0, i64 0, .bool false]) H := fun q => h0 (by
    have : (zt1 (l.getD at' default) || zt1 (l.getD (at' + 1) default)) = true := by
      match j, hlt2, q with
      | 0, _, q => have q' : zt1 (l.getD at' default) = true := q; rw [q']; rfl
      | 1, _, q => have q' : zt1 (l.getD (at' + 1) default) = true := q; rw [q']; simp
    rw [if_pos this])
  have hyes : ((at' : Int) + (j : Int) < (at' : Int) + 2) := by omega
  generalize hz : l.getD (at' + j) default = z at *
  obtain ⟨zt, zn, zs⟩ := z
  dsimp only at c0 c1
  cases zt with
  | true =>
    (try simp (maxSteps := 1000000) (disch := first | omega | (simp only [Z3]; omega) | (simp; done) | assumption | decide | (refine not_not_intro ?_; assumption)) only [Z1, Z2, splice, zix, zll, a0, c0, c1])
    exact hbad rfl
  | false =>
    by_cases b1 : zn < 1
    · (try simp (maxSteps := 1000000) (disch := first | omega | (simp only [Z3]; omega) | (simp; done) | assumption | decide | (refine not_not_intro ?_; assumption)) only [Z1, Z2, splice, zix, zll, a0, c0, c1])
      exact hbad (by simp [zt1, b1])
    by_cases b2 : zn > 1073741824
    · (try simp (maxSteps := 1000000) (disch := first | omega | (simp only [Z3]; omega) | (simp; done) | assumption | decide | (refine not_not_intro ?_; assumption)) only [Z1, Z2, splice, zix, zll, a0, c0, c1])
      exact hbad (by simp [zt1, b2])
    · (try simp (maxSteps := 1000000) (disch := first | omega | (simp only [Z3]; omega) | (simp; done) | assumption | decide | (refine not_not_intro ?_; assumption)) only [Z1, Z2, splice, zix, zll, a0, c0, c1, z23])
      refine ⟨2 - (j + 1), by omega, j + 1, rfl, by omega, by push_cast; rw [Int.add_assoc], fun i hi => ?_⟩
      rcases Nat.lt_or_eq_of_le (Nat.lt_succ_iff.1 hi) with q | rfl
      · exact hn i q
      · rw [hz]; simp only [zt1, Bool.false_or]; exact decide_eq_false (by omega)
theorem zban {l : List It} {a b : Int} {r : List It} (h : zkb l = some (a, b, r)) : r = l.drop 2 ∧ 2 ≤ l.length := by
  match l, h with
  | [], h => cases h
  | [x], h => cases h
  | x :: y :: q, h =>
    rw [ztt] at h
    split at h
    · cases h
    · cases h; exact ⟨rfl, by simp⟩
end Go.AM.Cap
