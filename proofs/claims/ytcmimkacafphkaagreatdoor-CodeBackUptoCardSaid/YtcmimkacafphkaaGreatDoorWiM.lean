import Derived.Test.YtcmimkacafphkaaGreatDoorWiK
set_option linter.all false
/- wire: there and back, cuts, joins: the plain law -/
set_option maxHeartbeats 4000000
namespace Go.AM.Cap
open Go.AM Go.Proofs

/-! numbers -/
theorem val8_append (l : List (BitVec 8)) (b : BitVec 8) : val8 (l ++ [b]) = val8 l <<< 8 ||| b.setWidth 64 := by
  unfold val8; rw [List.foldl_append]; rfl
def nv (l : List (BitVec 8)) : Nat := l.foldl (fun n b => n * 256 + b.toNat) 0
theorem val8_nv' : ∀ (l : List (BitVec 8)) (x : BitVec 64) (k : Nat), x.toNat < 256 ^ k → k + l.length ≤ 8 → (l.foldl (fun (n : BitVec 64) b => n <<< 8 ||| b.setWidth 64) x).toNat = l.foldl (fun n b => n * 256 + b.toNat) x.toNat
  | [], _, _, _, _ => rfl
  | b :: l, x, k, hx, hk => by
    rw [List.length_cons] at hk
    have hb := b.isLt
    have h1 : 256 ^ (k + 1) ≤ 256 ^ 8 := Nat.pow_le_pow_right (by omega) (by omega)
    have h2 : x.toNat * 256 + 256 ≤ 256 ^ (k + 1) := by rw [Nat.pow_succ]; omega
    have h3 : (256 : Nat) ^ 8 = 18446744073709551616 := by decide
    have e : (x <<< 8 ||| b.setWidth 64).toNat = x.toNat * 256 + b.toNat := by
      rw [← step256, BitVec.toNat_add, BitVec.toNat_mul, BitVec.toNat_setWidth]
      show (x.toNat * 256 % 18446744073709551616 + b.toNat % 18446744073709551616) % 18446744073709551616 = _
      omega
    rw [List.foldl_cons, List.foldl_cons, ← e]
    exact val8_nv' l _ (k + 1) (by rw [e]; omega) (by omega)
theorem val8_nv {l : List (BitVec 8)} (h : l.length ≤ 8) : (val8 l).toNat = nv l := val8_nv' l 0 0 (by decide) (by omega)

theorem be8_val (n : Int) : val8 (be8 n) = BitVec.ofInt 64 n := by
  generalize hx : BitVec.ofInt 64 n = x
  have key : ∀ j, j ≤ 8 → val8 ((be8 n).take j) = x >>> (64 - 8 * j) := by
    intro j
    induction j with
    | zero => intro _; apply BitVec.eq_of_toNat_eq; simp [val8, BitVec.toNat_ushiftRight, Nat.shiftRight_eq_div_pow, Nat.div_eq_of_lt x.isLt]
    | succ j ih =>
      intro hj
      rw [be8_at n j (by omega), val8_append, ih (by omega), hx]
      apply BitVec.eq_of_getLsbD_eq
      intro i hi
      simp only [BitVec.getLsbD_or, BitVec.getLsbD_shiftLeft, BitVec.getLsbD_setWidth, BitVec.getLsbD_ushiftRight]
      by_cases h8 : i < 8
      · simp [h8, hi, show 64 - 8 * (j + 1) = 56 - 8 * j by omega]
      · have e : 64 - 8 * j + (i - 8) = 64 - 8 * (j + 1) + i := by omega
        simp [h8, hi, e]
  have := key 8 (Nat.le_refl _)
  rw [List.take_of_length_le (by rw [be8_length]; omega)] at this
  rw [this]
  simp
theorem be8_toInt {n : Int} (h0 : -9223372036854775808 ≤ n) (h1 : n ≤ 9223372036854775807) : (val8 (be8 n)).toInt = n := by
  rw [be8_val, BitVec.toInt_ofInt]
  exact Int.bmod_eq_of_le (by omega) (by omega)
theorem val_be8 {l : List (BitVec 8)} (h : l.length = 8) : be8 (val8 l).toInt = l := by
  unfold be8
  rw [BitVec.ofInt_toInt]
  match l, h with
  | [a, b, c, d, e, f, g, i], _ =>
    have hv := val8_nv (l := [a, b, c, d, e, f, g, i]) (by simp)
    generalize val8 [a, b, c, d, e, f, g, i] = x at hv
    have ha := a.isLt
    have hb := b.isLt
    have hc := c.isLt
    have hd := d.isLt
    have he := e.isLt
    have hf := f.isLt
    have hg := g.isLt
    have hi := i.isLt
    simp only [nv, List.foldl_cons, List.foldl_nil, Nat.zero_mul, Nat.zero_add] at hv
    have key : ∀ (k : Nat) (y : BitVec 8), x.toNat / 2 ^ k % 256 = y.toNat → (x >>> k).setWidth 8 = y := fun k y hy => by
      apply BitVec.eq_of_toNat_eq
      rw [BitVec.toNat_setWidth, BitVec.toNat_ushiftRight, Nat.shiftRight_eq_div_pow]
      exact hy
    show [(x >>> 56).setWidth 8, (x >>> 48).setWidth 8, (x >>> 40).setWidth 8, (x >>> 32).setWidth 8, (x >>> 24).setWidth 8, (x >>> 16).setWidth 8, (x >>> 8).setWidth 8, (x >>> 0).setWidth 8] = _
    rw [key 56 a (by omega), key 48 b (by omega), key 40 c (by omega), key 32 d (by omega), key 24 e (by omega), key 16 f (by omega), key 8 g (by omega), key 0 i (by omega)]
theorem w2_length (n : Nat) : (w2 n).length = 2 := rfl
theorem val_w2 {n : Nat} (h : n ≤ 65535) : (val8 (w2 n)).toNat = n := by
  unfold w2
  rw [val8_two, BitVec.toNat_ofNat, BitVec.toNat_ofNat]
  omega
theorem w2_val {l : List (BitVec 8)} (h : l.length = 2) : w2 (val8 l).toNat = l := by
  match l, h with
  | [a, b], _ =>
    rw [val8_two]
    have ha := a.isLt
    have hb := b.isLt
    have e1 : BitVec.ofNat 8 ((a.toNat * 256 + b.toNat) / 256) = a := by
      apply BitVec.eq_of_toNat_eq
      rw [BitVec.toNat_ofNat]; omega
    have e2 : BitVec.ofNat 8 (a.toNat * 256 + b.toNat) = b := by
      apply BitVec.eq_of_toNat_eq
      rw [BitVec.toNat_ofNat]; omega
    show [BitVec.ofNat 8 ((a.toNat * 256 + b.toNat) / 256), BitVec.ofNat 8 (a.toNat * 256 + b.toNat)] = [a, b]
    rw [e1, e2]

/-- a number that is one -/
def okI (x : It) : Prop := -9223372036854775808 ≤ x.n ∧ x.n ≤ 9223372036854775807

/-! an item there and back -/
theorem ditem_one {x : It} (hm : mayI x = true) (hn : okI x) (r : List (BitVec 8)) : ditem (oneI x ++ r) = .inl (x, (oneI x).length) := by
  obtain ⟨t, n, s⟩ := x
  cases t with
  | true =>
    simp only [mayI, if_true, decide_eq_true_eq] at hm
    obtain ⟨rfl, hs⟩ := hm
    have e : oneI ⟨true, 0, s⟩ = 36 :: (w2 s.size ++ bv s) := rfl
    rw [e]
    show ditem (36 :: ((w2 s.size ++ bv s) ++ r)) = _
    unfold ditem
    dsimp only
    have hl := bv_length s
    have h2 : ((w2 s.size ++ bv s) ++ r).take 2 = w2 s.size := rfl
    have h3 : ((w2 s.size ++ bv s) ++ r).drop 2 = bv s ++ r := rfl
    have hlen : ((w2 s.size ++ bv s) ++ r).length = 2 + s.size + r.length := by simp [w2_length, hl]; omega
    rw [if_neg (by decide), if_pos rfl, if_neg (by omega), h2, val_w2 hs, if_neg (by omega), h3, List.take_append_of_le_length (by omega), List.take_of_length_le (by omega), sv_bv]
    simp [w2_length, hl]; omega
  | false =>
    have hs : s = ⟨#[]⟩ := by simpa [mayI] using hm
    subst hs
    have e : oneI ⟨false, n, ⟨#[]⟩⟩ = 35 :: be8 n := rfl
    rw [e]
    show ditem (35 :: (be8 n ++ r)) = _
    unfold ditem
    dsimp only
    rw [if_pos rfl, if_neg (by simp [be8_length]), List.take_append_of_le_length (by rw [be8_length]; omega), List.take_of_length_le (by rw [be8_length]; omega), be8_toInt hn.1 hn.2]
    simp [be8_length]
theorem one_ditem {r : List (BitVec 8)} {x : It} {n : Nat} (h : ditem r = .inl (x, n)) : mayI x = true ∧ r.take n = oneI x ∧ n = (oneI x).length := by
  have hln := ditem_len h
  cases r with
  | nil => cases h
  | cons c r =>
    unfold ditem at h
    dsimp only at h
    split at h
    · rename_i hc
      split at h
      · cases h
      · rename_i hl
        cases h
        subst hc
        have ht : (r.take 8).length = 8 := by rw [List.length_take]; omega
        refine ⟨rfl, ?_, ?_⟩
        · show (35 :: r).take (8 + 1) = 35 :: be8 _
          rw [List.take_succ_cons, val_be8 ht]
        · show 9 = (35 :: be8 _).length
          rw [List.length_cons, be8_length]
    · split at h
      · rename_i hc
        split at h
        · cases h
        · rename_i hl
          split at h
          · cases h
          · rename_i hl2
            cases h
            subst hc
            have ht : (r.take 2).length = 2 := by rw [List.length_take]; omega
            have hle := val8_two_le (r := r) (by omega)
            have hw := w2_val ht
            generalize (val8 (r.take 2)).toNat = n at *
            have hsz : (sv ((r.drop 2).take n)).size = n := by rw [sv_size, List.length_take, List.length_drop]; omega
            have hone : oneI ⟨true, 0, sv ((r.drop 2).take n)⟩ = 36 :: (r.take 2 ++ (r.drop 2).take n) := by
              show 36 :: (w2 (sv ((r.drop 2).take n)).size ++ bv (sv ((r.drop 2).take n))) = _
              rw [hsz, bv_sv, hw]
            refine ⟨by show decide ((0 : Int) = 0 ∧ (sv ((r.drop 2).take n)).size ≤ 65535) = true; exact decide_eq_true ⟨rfl, by rw [hsz]; exact hle⟩, ?_, ?_⟩
            · rw [hone, show 3 + n = (2 + n) + 1 by omega, List.take_succ_cons, ← List.take_add]
            · rw [hone]; simp; omega
      · cases h
/-! lists -/
theorem ditems_flat : ∀ (l : List It) (r : List (BitVec 8)) (a : Nat), (∀ x ∈ l, mayI x = true ∧ okI x) → ditems l.length (l.flatMap oneI ++ r) a = .inl (l, a + (l.flatMap oneI).length)
  | [], r, a, _ => rfl
  | x :: l, r, a, h => by
    rw [List.length_cons, ditems_succ, List.flatMap_cons, List.append_assoc, ditem_one (h x (by simp)).1 (h x (by simp)).2]
    dsimp only
    rw [List.drop_left, ditems_flat l r _ (fun y hy => h y (by simp [hy]))]
    simp [Nat.add_assoc]
theorem flat_ditems : ∀ (k : Nat) (r : List (BitVec 8)) (a : Nat) (xs : List It) (e : Nat), ditems k r a = .inl (xs, e) → xs.length = k ∧ (∀ x ∈ xs, mayI x = true) ∧ (xs.flatMap oneI).length ≤ r.length ∧ r.take (xs.flatMap oneI).length = xs.flatMap oneI ∧ e = a + (xs.flatMap oneI).length
  | 0, r, a, xs, e, h => by cases h; simp
  | k + 1, r, a, xs, e, h => by
    rw [ditems_succ] at h
    cases hd : ditem r with
    | inr q => rw [hd] at h; cases h
    | inl p =>
      obtain ⟨x, n⟩ := p
      rw [hd] at h
      dsimp only at h
      cases hq : ditems k (r.drop n) (a + n) with
      | inr q => rw [hq] at h; cases h
      | inl p =>
        obtain ⟨ys, e'⟩ := p
        rw [hq] at h
        cases h
        obtain ⟨h1, h2, h3, h4, h5⟩ := flat_ditems k _ _ _ _ hq
        obtain ⟨g1, g2, g3⟩ := one_ditem hd
        have hln := ditem_len hd
        rw [List.length_drop] at h3
        refine ⟨by simp [h1], fun y hy => ?_, ?_, ?_, ?_⟩
        · rcases List.mem_cons.1 hy with rfl | hy
          · exact g1
          · exact h2 y hy
        · rw [List.flatMap_cons, List.length_append]; omega
        · rw [List.flatMap_cons, List.length_append, ← g3, List.take_add, g2, h4]
        · rw [List.flatMap_cons, List.length_append]; omega
theorem fullI_length (l : List It) : (fullI l).length = 2 + (l.flatMap oneI).length := by
  unfold fullI; rw [List.length_append, w2_length]
theorem encI_ok {l : List It} (h : (encI l).2 = 0) : l.length ≤ 1000 ∧ (∀ x ∈ l, mayI x = true) ∧ (fullI l).length ≤ 65536 ∧ (encI l).1 = sv (fullI l) := by
  unfold encI at h ⊢
  split at h
  · cases h
  · rename_i h1
    split at h
    · cases h
    · rename_i h2
      split at h
      · cases h
      · rename_i h3
        rw [if_neg h1, if_neg h2, if_neg h3]
        refine ⟨by omega, fun x hx => ?_, by omega, rfl⟩
        have h2' : l.any (fun x => !mayI x) = false := by simpa only [Bool.not_eq_true] using h2
        have := (List.any_eq_false.1 h2') x hx
        simpa using this
theorem encI_of {l : List It} (h1 : l.length ≤ 1000) (h2 : ∀ x ∈ l, mayI x = true) (h3 : (fullI l).length ≤ 65536) : encI l = (sv (fullI l), 0) := by
  unfold encI
  rw [if_neg (by omega), if_neg, if_neg (by omega)]
  simp only [Bool.not_eq_true]
  rw [List.any_eq_false]
  intro x hx
  simp [h2 x hx]
theorem decI_mid {b : List (BitVec 8)} (h1 : b.length ≤ 65536) (h2 : 2 ≤ b.length) (h3 : (val8 (b.take 2)).toNat ≤ 1000) : decI b = match ditems (val8 (b.take 2)).toNat (b.drop 2) 2 with
    | .inr e => ([], some e)
    | .inl (xs, a) => if a < b.length then ([], some ((a : Int), 31)) else (xs, none) := by
  conv => lhs; unfold decI
  rw [if_neg (by omega), if_neg (by omega), if_neg (by omega)]
  all_goals rfl
/-- what is encoded is decoded as the list -/
theorem dec_enc {l : List It} (h : (encI l).2 = 0) (hn : ∀ x ∈ l, okI x) : decI (bv (encI l).1) = (l, none) := by
  obtain ⟨h1, h2, h3, h4⟩ := encI_ok h
  rw [h4, bv_sv]
  have hlen := fullI_length l
  have ht : (fullI l).take 2 = w2 l.length := rfl
  have hd : (fullI l).drop 2 = l.flatMap oneI ++ [] := by rw [List.append_nil]; rfl
  rw [decI_mid h3 (by omega) (by rw [ht, val_w2 (by omega)]; exact h1), ht, val_w2 (by omega), hd, ditems_flat l [] 2 (fun x hx => ⟨h2 x hx, hn x hx⟩)]
  dsimp only
  rw [if_neg (by omega)]
theorem decI_ok {b : List (BitVec 8)} (h : (decI b).2 = none) : encI (decI b).1 = (sv b, 0) ∧ (decI b).1.length ≤ 1000 := by
  unfold decI at h ⊢
  split at h
  · cases h
  · rename_i h1
    split at h
    · cases h
    · rename_i h2
      split at h
      · cases h
      · rename_i h3
        rw [if_neg h1, if_neg h2, if_neg h3]
        cases hq : ditems (val8 (b.take 2)).toNat (b.drop 2) 2 with
        | inr e => rw [hq] at h; cases h
        | inl p =>
          obtain ⟨xs, a⟩ := p
          rw [hq] at h
          dsimp only at h ⊢
          split at h
          · cases h
          · rename_i h4
            rw [if_neg h4]
            obtain ⟨g1, g2, g3, g4, g5⟩ := flat_ditems _ _ _ _ _ hq
            have ht : (b.take 2).length = 2 := by rw [List.length_take]; omega
            rw [List.length_drop] at g3
            have hfull : fullI xs = b := by
              have hfl : xs.flatMap oneI = b.drop 2 := g4.symm.trans (List.take_of_length_le (by rw [List.length_drop]; omega))
              unfold fullI
              rw [g1, w2_val ht, hfl, List.take_append_drop]
            rw [encI_of (by omega) g2 (by rw [hfull]; omega), hfull]
            exact ⟨rfl, by dsimp only; omega⟩
theorem decI_bad {b : List (BitVec 8)} {e : Int × Int} (h : (decI b).2 = some e) : (decI b).1 = [] ∧ e.2 ≠ 0 := by
  unfold decI at h ⊢
  split at h
  · rename_i h1; rw [if_pos h1]; cases h; exact ⟨rfl, show (2 : Int) ≠ 0 by decide⟩
  · rename_i h1
    rw [if_neg h1]
    split at h
    · rename_i h2; rw [if_pos h2]; cases h; exact ⟨rfl, show (30 : Int) ≠ 0 by decide⟩
    · rename_i h2
      rw [if_neg h2]
      split at h
      · rename_i h3; rw [if_pos h3]; cases h; exact ⟨rfl, show (2 : Int) ≠ 0 by decide⟩
      · rename_i h3
        rw [if_neg h3]
        cases hq : ditems (val8 (b.take 2)).toNat (b.drop 2) 2 with
        | inr q =>
          rw [hq] at h
          cases h
          refine ⟨rfl, ?_⟩
          have key : ∀ (k : Nat) (r : List (BitVec 8)) (a : Nat) (e : Int × Int), ditems k r a = .inr e → e.2 ≠ 0 := by
            intro k
            induction k with
            | zero => intro r a e h; cases h
            | succ k ih =>
              intro r a e h
              rw [ditems_succ] at h
              cases hd : ditem r with
              | inr q =>
                rw [hd] at h
                cases h
                revert hd
                cases r with
                | nil => intro hd; cases hd; show (30 : Int) ≠ 0; decide
                | cons c r =>
                  intro hd
                  unfold ditem at hd
                  dsimp only at hd
                  show q ≠ 0
                  repeat' split at hd
                  all_goals first | (cases hd; decide) | cases hd
              | inl p =>
                obtain ⟨x, n⟩ := p
                rw [hd] at h
                dsimp only at h
                cases hq : ditems k (r.drop n) (a + n) with
                | inr q => rw [hq] at h; cases h; exact ih _ _ _ hq
                | inl p => obtain ⟨xs, e⟩ := p; rw [hq] at h; cases h
          exact key _ _ _ _ hq
        | inl p =>
          obtain ⟨xs, a⟩ := p
          rw [hq] at h
          dsimp only at h ⊢
          split at h
          · rename_i h4
            rw [if_pos h4]
            cases h
            exact ⟨rfl, show (31 : Int) ≠ 0 by decide⟩
          · cases h
end Go.AM.Cap
