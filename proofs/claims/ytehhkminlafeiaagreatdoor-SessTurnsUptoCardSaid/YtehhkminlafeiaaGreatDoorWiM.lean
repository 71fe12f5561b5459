import Derived.Test.YtehhkminlafeiaaGreatDoorWiK
set_option linter.all false
/- wire: there and back, cuts, joins: the plain law -/
set_option maxHeartbeats 4000000
namespace Go.AM.Cap
open Go.AM Go.Proofs

/-! numbers -/
theorem val8_append (l : List (BitVec 8)) (b : BitVec 8) : val8 (l ++ [b]) = val8 l <<< 8 ||| b.setWidth 64 := by
  unfold val8; rw [List.foldl_append]; rfl
theorem be8_val (n : Int) : val8 (be8 n) = BitVec.ofInt 64 n := by
  generalize hx : BitVec.ofInt 64 n = x
  have key : ∀ j, j ≤ 8 → val8 ((be8 n).take j) = x >>> (64 - 8 * j) := by
    intro j
    induction j with
    | zero => intro _; apply BitVec.eq_of_toNat_eq; simp [val8, BitVec.toNat_ushiftRight, Nat.shiftRight_eq_div_pow, Nat.div_eq_of_lt x.isLt]
    | succ j ih =>
      intro hj
      rw [be8_at n j (by omega), val8_append, ih (by omega), hx]
      apply BitVec.eq_of_getLsbD_eq
      intro i hi
      simp only [BitVec.getLsbD_or, BitVec.getLsbD_shiftLeft, BitVec.getLsbD_setWidth, BitVec.getLsbD_ushiftRight]
      by_cases h8 : i < 8
      · simp [h8, hi, show 64 - 8 * (j + 1) = 56 - 8 * j by omega]
      · have e : 64 - 8 * j + (i - 8) = 64 - 8 * (j + 1) + i := by omega
        simp [h8, hi, e]
  have := key 8 (Nat.le_refl _)
  rw [List.take_of_length_le (by rw [be8_length]; omega)] at this
  rw [this]
  simp
theorem be8_toInt {n : Int} (h0 : -9223372036854775808 ≤ n) (h1 : n ≤ 9223372036854775807) : (val8 (be8 n)).toInt = n := by
  rw [be8_val, BitVec.toInt_ofInt]
  exact Int.bmod_eq_of_le (by omega) (by omega)
theorem w2_length (n : Nat) : (w2 n).length = 2 := rfl
theorem val_w2 {n : Nat} (h : n ≤ 65535) : (val8 (w2 n)).toNat = n := by
  unfold w2
  rw [val8_two, BitVec.toNat_ofNat, BitVec.toNat_ofNat]
  omega
/-- a number that is one -/
def okI (x : It) : Prop := -9223372036854775808 ≤ x.n ∧ x.n ≤ 9223372036854775807

/-! an item there and back -/
theorem ditem_one {x : It} (hm : mayI x = true) (hn : okI x) (r : List (BitVec 8)) : ditem (oneI x ++ r) = .inl (x, (oneI x).length) := by
  obtain ⟨t, n, s⟩ := x
  cases t with
  | true =>
    simp only [mayI, if_true, decide_eq_true_eq] at hm
    obtain ⟨rfl, hs⟩ := hm
    have e : oneI ⟨true, 0, s⟩ = 36 :: (w2 s.size ++ bv s) := rfl
    rw [e]
    show ditem (36 :: ((w2 s.size ++ bv s) ++ r)) = _
    unfold ditem
    dsimp only
    have hl := bv_length s
    have h2 : ((w2 s.size ++ bv s) ++ r).take 2 = w2 s.size := rfl
    have h3 : ((w2 s.size ++ bv s) ++ r).drop 2 = bv s ++ r := rfl
    have hlen : ((w2 s.size ++ bv s) ++ r).length = 2 + s.size + r.length := by simp [w2_length, hl]; omega
    rw [if_neg (by decide), if_pos rfl, if_neg (by omega), h2, val_w2 hs, if_neg (by omega), h3, List.take_append_of_le_length (by omega), List.take_of_length_le (by omega), sv_bv]
    simp [w2_length, hl]; omega
  | false =>
    have hs : s = ⟨#[]⟩ := by simpa [mayI] using hm
    subst hs
    have e : oneI ⟨false, n, ⟨#[]⟩⟩ = 35 :: be8 n := rfl
    rw [e]
    show ditem (35 :: (be8 n ++ r)) = _
    unfold ditem
    dsimp only
    rw [if_pos rfl, if_neg (by simp [be8_length]), List.take_append_of_le_length (by rw [be8_length]; omega), List.take_of_length_le (by rw [be8_length]; omega), be8_toInt hn.1 hn.2]
    simp [be8_length]
/-! lists -/
theorem ditems_flat : ∀ (l : List It) (r : List (BitVec 8)) (a : Nat), (∀ x ∈ l, mayI x = true ∧ okI x) → ditems l.length (l.flatMap oneI ++ r) a = .inl (l, a + (l.flatMap oneI).length)
  | [], r, a, _ => rfl
  | x :: l, r, a, h => by
    rw [List.length_cons, ditems_succ, List.flatMap_cons, List.append_assoc, ditem_one (h x (by simp)).1 (h x (by simp)).2]
    dsimp only
    rw [List.drop_left, ditems_flat l r _ (fun y hy => h y (by simp [hy]))]
    simp [Nat.add_assoc]
theorem fullI_length (l : List It) : (fullI l).length = 2 + (l.flatMap oneI).length := by
  unfold fullI; rw [List.length_append, w2_length]
theorem encI_ok {l : List It} (h : (encI l).2 = 0) : l.length ≤ 1000 ∧ (∀ x ∈ l, mayI x = true) ∧ (fullI l).length ≤ 65536 ∧ (encI l).1 = sv (fullI l) := by
  unfold encI at h ⊢
  split at h
  · cases h
  · rename_i h1
    split at h
    · cases h
    · rename_i h2
      split at h
      · cases h
      · rename_i h3
        rw [if_neg h1, if_neg h2, if_neg h3]
        refine ⟨by omega, fun x hx => ?_, by omega, rfl⟩
        have h2' : l.any (fun x => !mayI x) = false := by simpa only [Bool.not_eq_true] using h2
        have := (List.any_eq_false.1 h2') x hx
        simpa using this
theorem encI_bad {l : List It} (h : (encI l).2 ≠ 0) : (encI l).1 = ⟨#[]⟩ := by
  unfold encI at h ⊢
  split
  · rfl
  · split
    · rfl
    · split
      · rfl
      · rename_i h1 h2 h3
        rw [if_neg h1, if_neg h2, if_neg h3] at h
        exact absurd rfl h

theorem decI_mid {b : List (BitVec 8)} (h1 : b.length ≤ 65536) (h2 : 2 ≤ b.length) (h3 : (val8 (b.take 2)).toNat ≤ 1000) : decI b = match ditems (val8 (b.take 2)).toNat (b.drop 2) 2 with
    | .inr e => ([], some e)
    | .inl (xs, a) => if a < b.length then ([], some ((a : Int), 31)) else (xs, none) := by
  conv => lhs; unfold decI
  rw [if_neg (by omega), if_neg (by omega), if_neg (by omega)]
  all_goals rfl
/-- what is encoded is decoded as the list -/
theorem dec_enc {l : List It} (h : (encI l).2 = 0) (hn : ∀ x ∈ l, okI x) : decI (bv (encI l).1) = (l, none) := by
  obtain ⟨h1, h2, h3, h4⟩ := encI_ok h
  rw [h4, bv_sv]
  have hlen := fullI_length l
  have ht : (fullI l).take 2 = w2 l.length := rfl
  have hd : (fullI l).drop 2 = l.flatMap oneI ++ [] := by rw [List.append_nil]; rfl
  rw [decI_mid h3 (by omega) (by rw [ht, val_w2 (by omega)]; exact h1), ht, val_w2 (by omega), hd, ditems_flat l [] 2 (fun x hx => ⟨h2 x hx, hn x hx⟩)]
  dsimp only
  rw [if_neg (by omega)]
theorem decI_bad {b : List (BitVec 8)} {e : Int × Int} (h : (decI b).2 = some e) : (decI b).1 = [] ∧ e.2 ≠ 0 := by
  unfold decI at h ⊢
  split at h
  · rename_i h1; rw [if_pos h1]; cases h; exact ⟨rfl, show (2 : Int) ≠ 0 by decide⟩
  · rename_i h1
    rw [if_neg h1]
    split at h
    · rename_i h2; rw [if_pos h2]; cases h; exact ⟨rfl, show (30 : Int) ≠ 0 by decide⟩
    · rename_i h2
      rw [if_neg h2]
      split at h
      · rename_i h3; rw [if_pos h3]; cases h; exact ⟨rfl, show (2 : Int) ≠ 0 by decide⟩
      · rename_i h3
        rw [if_neg h3]
        cases hq : ditems (val8 (b.take 2)).toNat (b.drop 2) 2 with
        | inr q =>
          rw [hq] at h
          cases h
          refine ⟨rfl, ?_⟩
          have key : ∀ (k : Nat) (r : List (BitVec 8)) (a : Nat) (e : Int × Int), ditems k r a = .inr e → e.2 ≠ 0 := by
            intro k
            induction k with
            | zero => intro r a e h; cases h
            | succ k ih =>
              intro r a e h
              rw [ditems_succ] at h
              cases hd : ditem r with
              | inr q =>
                rw [hd] at h
                cases h
                revert hd
                cases r with
                | nil => intro hd; cases hd; show (30 : Int) ≠ 0; decide
                | cons c r =>
                  intro hd
                  unfold ditem at hd
                  dsimp only at hd
                  show q ≠ 0
                  repeat' split at hd
                  all_goals first | (cases hd; decide) | cases hd
              | inl p =>
                obtain ⟨x, n⟩ := p
                rw [hd] at h
                dsimp only at h
                cases hq : ditems k (r.drop n) (a + n) with
                | inr q => rw [hq] at h; cases h; exact ih _ _ _ hq
                | inl p => obtain ⟨xs, e⟩ := p; rw [hq] at h; cases h
          exact key _ _ _ _ hq
        | inl p =>
          obtain ⟨xs, a⟩ := p
          rw [hq] at h
          dsimp only at h ⊢
          split at h
          · rename_i h4
            rw [if_pos h4]
            cases h
            exact ⟨rfl, show (31 : Int) ≠ 0 by decide⟩
          · cases h
end Go.AM.Cap
