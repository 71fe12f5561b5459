import Derived.Test.YtcmimkacafphkaaGreatDoorWiI
import Derived.Test.YtcmimkacafphkaaGreatDoorAmOpenF
set_option linter.all false
/- wire: the reference's Decode; the lists' book -/
set_option maxHeartbeats 16000000
namespace Go.AM.Cap
open Go.AM Go.Proofs
theorem zx4 {H : Heap} (a c : Int) (Q : V → Heap → Prop) (hQ : ∀ H', Keeps [] H H' → Q (.agg #[i64 a, i64 c]) H') : wp (zgq [i64 a, i64 c]) Q H := by
  show wp (zrs (i64 a) (i64 c)) Q H
  (try simp (maxSteps := 1000000) (disch := first | omega | (simp only [Z3]; omega) | (simp; done) | assumption | decide | (refine not_not_intro ?_; assumption)) only [Z1, Z2, splice, zrs])
  exact hQ _ (zq (Keeps.refl _ _))
set_option maxRecDepth 20000 in
theorem zbvk {H : Heap} (b : ByteArray) (Q : V → Heap → Prop) (hQ : ∀ w H', Keeps [] H H' → zf5 H' w (zeu (bv b)).1 → (∀ x ∈ vb w, H.next ≤ x) → (∀ c, (zeu (bv b)).2 = some c → c.2 ≠ 0) → Q (.tuple #[w, .agg #[i64 (zoc (zeu (bv b)).2).1, i64 (zoc (zeu (bv b)).2).2]]) H') : wp (zl5 [.string b]) Q H := by
  show wp (zqa (.string b)) Q H
  have hlen : (bv b).length = b.size := zbl b
  have k1 : Keeps [] H (H.push (some (.cells true [i64 0, i64 0]))) := Keeps.push _ _ _
  have g1 : (H.push (some (.cells true [i64 0, i64 0]))).get H.next = some (.cells true [i64 0, i64 0]) := Heap.get_push_self _ _
  have n1 : (H.push (some (.cells true [i64 0, i64 0]))).next = H.next + 1 := by simp
  (try simp (maxSteps := 1000000) (disch := first | omega | (simp only [Z3]; omega) | (simp; done) | assumption | decide | (refine not_not_intro ?_; assumption)) only [Z1, zv, z6, zdv, zia, eq_self, true_and, zd7, zdn, zf7, ze8, zcc, zd8, Heap.get_set_eq, Heap.get_set_ne', Heap.next_push', Heap.next_set', Heap.set_push_lt, Heap.set_push_eq, Heap.set_set, zct, zcu, zb0, zcx, zcy, zbg, zb2, zcz, zco, zbz, zcp, zcq, zcr, zcs, List.set_cons_zero, List.set_cons_succ, List.length_cons, List.length_nil, List.drop_succ_cons, List.drop_zero, List.take_succ_cons, List.take_zero, List.nil_append, List.cons_append, splice, zbw, zbx, zbf, zz, zn, zby, zcv, zb1, zfj, zdw, zcw, zc0, zbt, zx, zbu, Option.map_some, zc1, zc2, zbi, zb3, zb4, zb5, zbh, zb6, zb7, zqa])
  generalize H.push (some (.cells true [i64 0, i64 0])) = H1 at *
  have herr : ∀ (e : Int × Int) (H2 H3 : Heap), zeu (bv b) = ([], some e) → e.2 ≠ 0 → Keeps [] H H2 → H3 = H2.set H.next (some (.cells true [i64 e.1, i64 e.2])) → Q (.tuple #[.slice none 0 0, .agg #[i64 e.1, i64 e.2]]) H3 := fun e H2 H3 he hne hk heq => by
    subst heq
    have := hQ (.slice none 0 0) (H2.set H.next (some (.cells true [i64 e.1, i64 e.2]))) (zbm hk (.inr (Nat.le_refl _)))
    rw [he] at this
    exact this (zf5.nil _) (by simp) (fun c hc => by cases hc; exact hne)
  by_cases h1 : b.size > 65536
  · have hd : zeu (bv b) = ([], some (0, 2)) := by unfold zeu; rw [if_pos (by omega)]
    (try simp (maxSteps := 1000000) (disch := first | omega | (simp only [Z3]; omega) | (simp; done) | assumption | decide | (refine not_not_intro ?_; assumption)) only [Z1, Z2, splice])
    refine zx4 0 2 _ fun H2 k2 => ?_
    have g2 := k2.get g1 (by simp)
    have n2 := k2.next
    (try simp (maxSteps := 1000000) (disch := first | omega | (simp only [Z3]; omega) | (simp; done) | assumption | decide | (refine not_not_intro ?_; assumption)) only [Z1, Z2, splice, g2])
    exact herr _ H2 _ hd (by decide) (k1.trans k2 (by simp)) rfl
  by_cases h2 : b.size < 2
  · have hd : zeu (bv b) = ([], some (0, 30)) := by unfold zeu; rw [if_neg (by omega), if_pos (by omega)]
    (try simp (maxSteps := 1000000) (disch := first | omega | (simp only [Z3]; omega) | (simp; done) | assumption | decide | (refine not_not_intro ?_; assumption)) only [Z1, Z2, splice, zoa])
    refine zx4 0 30 _ fun H2 k2 => ?_
    have g2 := k2.get g1 (by simp)
    have n2 := k2.next
    (try simp (maxSteps := 1000000) (disch := first | omega | (simp only [Z3]; omega) | (simp; done) | assumption | decide | (refine not_not_intro ?_; assumption)) only [Z1, Z2, splice, g2])
    exact herr _ H2 _ hd (by decide) (k1.trans k2 (by simp)) rfl
  have i0 := zgj (s := b) (k := .i64) (i := 0) (by omega) (by omega)
  have i1 := zgj (s := b) (k := .i64) (i := 1) (by omega) (by omega)
  rw [show (0 : Int).toNat = 0 from rfl] at i0
  rw [show (1 : Int).toNat = 1 from rfl] at i1
  have hle := zsc (r := bv b) (by omega)
  have hnv : (zgs ((bv b).take 2)).toNat = ((bv b).getD 0 0).toNat * 256 + ((bv b).getD 1 0).toNat := by rw [zbec (by omega), z2r]
  have hx0 := ((bv b).getD 0 0).isLt
  have hx1 := ((bv b).getD 1 0).isLt
  have hdec : zeu (bv b) = if (zgs ((bv b).take 2)).toNat > 1000 then ([], some (0, 2))
    else match zgz (zgs ((bv b).take 2)).toNat ((bv b).drop 2) 2 with
    | .inr e => ([], some e)
    | .inl (xs, a) => if a < (bv b).length then ([], some ((a : Int), 31)) else (xs, none) := by
      conv => lhs; unfold zeu
      rw [if_neg (by omega), if_neg (by omega)]
      all_goals rfl
  generalize (bv b).getD 0 0 = x0 at *
  generalize (bv b).getD 1 0 = x1 at *
  have c0 : cvi .i64 (B x0) = some (i64 x0.toNat) := by rw [zyk, i64_in (by omega) (by omega)]
  have c1 : cvi .i64 (B x1) = some (i64 x1.toNat) := by rw [zyk, i64_in (by omega) (by omega)]
  generalize (zgs ((bv b).take 2)).toNat = many at *
  have e1 : (x0.toNat : Int) * 256 + (x1.toNat : Int) = (many : Int) := by omega
  by_cases h3 : many > 1000
  · have hd : zeu (bv b) = ([], some (0, 2)) := by rw [hdec, if_pos h3]
    (try simp (maxSteps := 1000000) (disch := first | omega | (simp only [Z3]; omega) | (simp; done) | assumption | decide | (refine not_not_intro ?_; assumption)) only [Z1, Z2, splice, zoa, zso, i0, i1, c0, c1, e1])
    refine zx4 0 2 _ fun H2 k2 => ?_
    have g2 := k2.get g1 (by simp)
    have n2 := k2.next
    (try simp (maxSteps := 1000000) (disch := first | omega | (simp only [Z3]; omega) | (simp; done) | assumption | decide | (refine not_not_intro ?_; assumption)) only [Z1, Z2, splice, g2])
    exact herr _ H2 _ hd (by decide) (k1.trans k2 (by simp)) rfl
  rw [if_neg h3] at hdec
  (try simp (maxSteps := 1000000) (disch := first | omega | (simp only [Z3]; omega) | (simp; done) | assumption | decide | (refine not_not_intro ?_; assumption)) only [Z1, Z2, splice, zoa, zso, i0, i1, c0, c1, e1, zzv])
  refine zb9 (Inv := fun k vs H' => ∃ (j : Nat) (xs : List It) (a : Nat) (w : V), k = many - j ∧ j ≤ many ∧ vs = [.string b, ptr H.next 0, i64 many, w, i64 a, i64 j] ∧ zf5 H' w xs ∧ Keeps [] H1 H' ∧ (∀ x ∈ vb w, H1.next ≤ x) ∧ a ≤ b.size ∧ xs.length = j ∧ zgz many ((bv b).drop 2) 2 = preI xs (zgz (many - j) ((bv b).drop a) a)) (n := many) (by unfold zcb; omega)
    ⟨0, [], 2, .slice none 0 0, by omega, by omega, rfl, zf5.nil _, Keeps.refl _ _, by simp, by omega, rfl, by
      rw [Nat.sub_zero]
      cases zgz many ((bv b).drop 2) 2 with
      | inl p => rfl
      | inr e => rfl⟩ ?_
  rintro k vs H2 ⟨j, xs, a, w, hk, hj, rfl, ho, hk1, hfr, ha, hxl, hdi⟩
  have g2 := hk1.get g1 (by simp)
  have n2 := hk1.next
  by_cases hlt : j < many
  case neg =>
    have : j = many := by omega
    subst this
    rw [Nat.sub_self] at hdi
    have hdi' : zgz j ((bv b).drop 2) 2 = .inl (xs, a) := by rw [hdi]; simp [preI, zgz]
    rw [hdi'] at hdec
    dsimp only at hdec
    by_cases hm : a < b.size
    · rw [if_pos (by omega)] at hdec
      (try simp (maxSteps := 1000000) (disch := first | omega | (simp only [Z3]; omega) | (simp; done) | assumption | decide | (refine not_not_intro ?_; assumption)) only [Z1, Z2, splice, zn9, zsn])
      refine zx4 _ 31 _ fun H3 k3 => ?_
      have g3 := k3.get g2 (by simp)
      have n3 := k3.next
      (try simp (maxSteps := 1000000) (disch := first | omega | (simp only [Z3]; omega) | (simp; done) | assumption | decide | (refine not_not_intro ?_; assumption)) only [Z1, Z2, splice, g3])
      exact herr _ H3 _ hdec (show (31 : Int) ≠ 0 by decide) ((k1.trans hk1 (by simp)).trans k3 (by simp)) rfl
    · rw [if_neg (by omega)] at hdec
      rw [hdec] at hQ
      (try simp (maxSteps := 1000000) (disch := first | omega | (simp only [Z3]; omega) | (simp; done) | assumption | decide | (refine not_not_intro ?_; assumption)) only [Z1, Z2, splice, zn9, zsn, zzu, g2])
      refine hQ w _ (zbm (k1.trans hk1 (by simp)) (.inr (Nat.le_refl _))) ?_ (fun x hx => by have := hfr x hx; omega) (by simp)
      exact ho.keep (Keeps.set (S := [H.next]) (by simp)) (fun c hc => by intro q; simp at q; subst q; have := hfr _ hc; omega)
  obtain ⟨m, hm⟩ : ∃ m, many - j = m + 1 := ⟨many - j - 1, by omega⟩
  rw [hm, zsd] at hdi
  (try simp (maxSteps := 1000000) (disch := first | omega | (simp only [Z3]; omega) | (simp; done) | assumption | decide | (refine not_not_intro ?_; assumption)) only [Z1, Z2, splice, zn9, zzt])
  refine zbtu b a ha (by omega) _ fun H3 k3 => ?_
  have g3 := k3.get g2 (by simp)
  have n3 := k3.next
  cases hd : zek ((bv b).drop a) with
  | inr e =>
    rw [hd] at hdi
    dsimp only [preI] at hdi
    rw [hdi] at hdec
    have he0 : e ≠ 0 := by
      revert hd
      cases (bv b).drop a with
      | nil => intro hd; cases hd; decide
      | cons c r =>
        intro hd
        unfold zek at hd
        dsimp only at hd
        repeat' split at hd
        all_goals first | (cases hd; decide) | cases hd
    have k4 : Keeps [] H3 (H3.push (some (.cells true [.bool false, i64 0, .string ⟨#[]⟩]))) := Keeps.push _ _ _
    have n4 : (H3.push (some (.cells true [.bool false, i64 0, .string ⟨#[]⟩]))).next = H3.next + 1 := by simp
    have hbi : zj .neq (i64 e) (i64 0) = some (.bool true) := by rw [zbhx]; simp [he0]
    have hen : Flat.enc (default : It) = [.bool false, i64 0, .string ⟨#[]⟩] := rfl
    (try simp (maxSteps := 1000000) (disch := first | omega | (simp only [Z3]; omega) | (simp; done) | assumption | decide | (refine not_not_intro ?_; assumption)) only [zbhi, zbhj, zc4, zbhe, zuh, wp_ret, zbmu, zbmv, zbmw, z8s, z8t, z8u, zbb8, zbb9, zbca, zbhu, zbhv, zbce, zbcf, gd_t, gd_f, zbr8, zbr9, zbhh, zbr6, zbr7, zbmy, zbmz, zbm0, zbm1, zbhr, zbhs, zbsa, zbsb, zbht, z8x, z5h, z5i, z0o, z8w, z8v, Nat.zero_add, Nat.add_zero, zbmx, z5g, zyi, zbcd, zbhk, zbhl, zbhm, i64_in, zbhw, zbhn, zbho, zbhp, zbhq, zbhy, zbhz, if_true, zbhg, zbb7, zbhf, zbh3, zbh4, zbch, zbci, List.getElem?_cons_zero, List.getElem?_cons_succ, Z2, splice, zbnq, hbi, hen])
    generalize H3.push (some (.cells true [.bool false, i64 0, .string ⟨#[]⟩])) = H4 at *
    refine zx4 _ e _ fun H5 k5 => ?_
    have g5 := k5.get (k4.get g3 (by simp)) (by simp)
    have n5 := k5.next
    (try simp (maxSteps := 1000000) (disch := first | omega | (simp only [Z3]; omega) | (simp; done) | assumption | decide | (refine not_not_intro ?_; assumption)) only [Z1, Z2, splice, g5])
    exact herr _ H5 _ hdec he0 ((((k1.trans hk1 (by simp)).trans k3 (by simp)).trans k4 (by simp)).trans k5 (by simp)) rfl
  | inl p =>
    obtain ⟨x, n⟩ := p
    rw [hd] at hdi
    dsimp only at hdi
    have hln := z28 hd
    rw [List.length_drop, hlen] at hln
    have k4 : Keeps [] H3 (H3.push (some (.cells true [.bool x.t, i64 x.n, .string x.s]))) := Keeps.push _ _ _
    have g4 : (H3.push (some (.cells true [.bool x.t, i64 x.n, .string x.s]))).get H3.next = some (.cells true [.bool x.t, i64 x.n, .string x.s]) := Heap.get_push_self _ _
    have n4 : (H3.push (some (.cells true [.bool x.t, i64 x.n, .string x.s]))).next = H3.next + 1 := by simp
    (try simp (maxSteps := 1000000) (disch := first | omega | (simp only [Z3]; omega) | (simp; done) | assumption | decide | (refine not_not_intro ?_; assumption)) only [Z1, zv, z6, zdv, zia, eq_self, true_and, zd7, zdn, zf7, ze8, zcc, zd8, Heap.get_set_eq, Heap.get_set_ne', Heap.next_push', Heap.next_set', Heap.set_push_lt, Heap.set_push_eq, Heap.set_set, zct, zcu, zb0, zcx, zcy, zbg, zb2, zcz, zco, zbz, zcp, zcq, zcr, zcs, List.set_cons_zero, List.set_cons_succ, List.length_cons, List.length_nil, List.drop_succ_cons, List.drop_zero, List.take_succ_cons, List.take_zero, List.nil_append, List.cons_append, splice, zbw, zbx, zbf, zz, zn, zby, zcv, zb1, zfj, zdw, zcw, zc0, zbt, zx, zbu, Option.map_some, zc1, zc2, zbi, zb3, zb4, zb5, zbh, zb6, zb7, zbnq, zw0, g4, zzr])
    generalize H3.push (some (.cells true [.bool x.t, i64 x.n, .string x.s])) = H4 at *
    refine zbty ((ho.keep0 k3).keep0 k4) (by omega) x _ fun w' H5 o5 k5 v5 => ?_
    (try simp (maxSteps := 1000000) (disch := first | omega | (simp only [Z3]; omega) | (simp; done) | assumption | decide | (refine not_not_intro ?_; assumption)) only [Z1, Z2, splice, zzs])
    refine ⟨many - (j + 1), by omega, j + 1, _, a + n, w', rfl, by omega, by push_cast; rfl, o5, ?_, ?_, by omega, by simp [hxl], ?_⟩
    · exact ((hk1.trans k3 (by simp)).trans k4 (by simp)).trans k5 fun c hc hm => by have := hfr c hm; omega
    · intro c hc
      rcases v5 c hc with q | q
      · exact hfr c q
      · omega
    · rw [hdi, List.drop_drop, show many - (j + 1) = m from by omega]
      cases zgz m ((bv b).drop (a + n)) (a + n) with
      | inl p => simp [preI]
      | inr e => rfl
end Go.AM.Cap

/- wire: the lists' book; works -/
set_option maxHeartbeats 16000000
namespace Go.AM.Cap
open Go.AM Go.Proofs
theorem zbxr (a b c d : Int) : z3k [.i, .i] (.agg (#[i64 a, i64 b] : Array V)) (.agg (#[i64 c, i64 d] : Array V)) = some (decide (a = c ∧ b = d)) := by
  show zqq [.i, .i] [i64 a, i64 b] [i64 c, i64 d] = _
  simp only [zqq, eqK, if_true]
  by_cases h1 : a = c
  · subst h1
    by_cases h2 : b = d
    · subst h2; simp
    · have e : (b == d) = false := by simpa using h2
      simp [e, h2]
  · have e : (a == c) = false := by simpa using h1
    simp [e, h1]
theorem zbvl (b : Bool) : zhx true (some b) = some (.bool (!b)) := rfl
end Go.AM.Cap
