import Derived.Test.YtcmimkacafphkaaGreatDoorWiK
set_option linter.all false
/- wire: there and back, cuts, joins: the plain law -/
set_option maxHeartbeats 4000000
namespace Go.AM.Cap
open Go.AM Go.Proofs
theorem zbln (l : List (BitVec 8)) (b : BitVec 8) : zgs (l ++ [b]) = zgs l <<< 8 ||| b.setWidth 64 := by
  unfold zgs; rw [List.foldl_append]; rfl
def nv (l : List (BitVec 8)) : Nat := l.foldl (fun n b => n * 256 + b.toNat) 0
theorem zblo : ∀ (l : List (BitVec 8)) (x : BitVec 64) (k : Nat), x.toNat < 256 ^ k → k + l.length ≤ 8 → (l.foldl (fun (n : BitVec 64) b => n <<< 8 ||| b.setWidth 64) x).toNat = l.foldl (fun n b => n * 256 + b.toNat) x.toNat
  | [], _, _, _, _ => rfl
  | b :: l, x, k, hx, hk => by
    rw [List.length_cons] at hk
    have hb := b.isLt
    have h1 : 256 ^ (k + 1) ≤ 256 ^ 8 := Nat.pow_le_pow_right (by omega) (by omega)
    have h2 : x.toNat * 256 + 256 ≤ 256 ^ (k + 1) := by rw [Nat.pow_succ]; omega
    have h3 : (256 : Nat) ^ 8 = 18446744073709551616 := by decide
    have e : (x <<< 8 ||| b.setWidth 64).toNat = x.toNat * 256 + b.toNat := by
      rw [← zbor, BitVec.toNat_add, BitVec.toNat_mul, BitVec.toNat_setWidth]
      show (x.toNat * 256 % 18446744073709551616 + b.toNat % 18446744073709551616) % 18446744073709551616 = _
      omega
    rw [List.foldl_cons, List.foldl_cons, ← e]
    exact zblo l _ (k + 1) (by rw [e]; omega) (by omega)
theorem zbos {l : List (BitVec 8)} (h : l.length ≤ 8) : (zgs l).toNat = nv l := zblo l 0 0 (by decide) (by omega)
theorem zbvm (n : Int) : zgs (be8 n) = BitVec.ofInt 64 n := by
  generalize hx : BitVec.ofInt 64 n = x
  have key : ∀ j, j ≤ 8 → zgs ((be8 n).take j) = x >>> (64 - 8 * j) := by
    intro j
    induction j with
    | zero => intro _; apply BitVec.eq_of_toNat_eq; simp [zgs, BitVec.toNat_ushiftRight, Nat.shiftRight_eq_div_pow, Nat.div_eq_of_lt x.isLt]
    | succ j ih =>
      intro hj
      rw [zbtf n j (by omega), zbln, ih (by omega), hx]
      apply BitVec.eq_of_getLsbD_eq
      intro i hi
      simp only [BitVec.getLsbD_or, BitVec.getLsbD_shiftLeft, BitVec.getLsbD_setWidth, BitVec.getLsbD_ushiftRight]
      by_cases h8 : i < 8
      · simp [h8, hi, show 64 - 8 * (j + 1) = 56 - 8 * j by omega]
      · have e : 64 - 8 * j + (i - 8) = 64 - 8 * (j + 1) + i := by omega
        simp [h8, hi, e]
  have := key 8 (Nat.le_refl _)
  rw [List.take_of_length_le (by rw [zh7]; omega)] at this
  rw [this]
  simp
theorem zbqn {n : Int} (h0 : -9223372036854775808 ≤ n) (h1 : n ≤ 9223372036854775807) : (zgs (be8 n)).toInt = n := by
  rw [zbvm, BitVec.toInt_ofInt]
  exact Int.bmod_eq_of_le (by omega) (by omega)
theorem zbvn {l : List (BitVec 8)} (h : l.length = 8) : be8 (zgs l).toInt = l := by
  unfold be8
  rw [BitVec.ofInt_toInt]
  match l, h with
  | [a, b, c, d, e, f, g, i], _ =>
    have hv := zbos (l := [a, b, c, d, e, f, g, i]) (by simp)
    generalize zgs [a, b, c, d, e, f, g, i] = x at hv
    have ha := a.isLt
    have hb := b.isLt
    have hc := c.isLt
    have hd := d.isLt
    have he := e.isLt
    have hf := f.isLt
    have hg := g.isLt
    have hi := i.isLt
    simp only [nv, List.foldl_cons, List.foldl_nil, Nat.zero_mul, Nat.zero_add] at hv
    have key : ∀ (k : Nat) (y : BitVec 8), x.toNat / 2 ^ k % 256 = y.toNat → (x >>> k).setWidth 8 = y := fun k y hy => by
      apply BitVec.eq_of_toNat_eq
      rw [BitVec.toNat_setWidth, BitVec.toNat_ushiftRight, Nat.shiftRight_eq_div_pow]
      exact hy
    show [(x >>> 56).setWidth 8, (x >>> 48).setWidth 8, (x >>> 40).setWidth 8, (x >>> 32).setWidth 8, (x >>> 24).setWidth 8, (x >>> 16).setWidth 8, (x >>> 8).setWidth 8, (x >>> 0).setWidth 8] = _
    rw [key 56 a (by omega), key 48 b (by omega), key 40 c (by omega), key 32 d (by omega), key 24 e (by omega), key 16 f (by omega), key 8 g (by omega), key 0 i (by omega)]
theorem z9m (n : Nat) : (w2 n).length = 2 := rfl
theorem zbnr {n : Nat} (h : n ≤ 65535) : (zgs (w2 n)).toNat = n := by
  unfold w2
  rw [z2r, BitVec.toNat_ofNat, BitVec.toNat_ofNat]
  omega
theorem zbtz {l : List (BitVec 8)} (h : l.length = 2) : w2 (zgs l).toNat = l := by
  match l, h with
  | [a, b], _ =>
    rw [z2r]
    have ha := a.isLt
    have hb := b.isLt
    have e1 : BitVec.ofNat 8 ((a.toNat * 256 + b.toNat) / 256) = a := by
      apply BitVec.eq_of_toNat_eq
      rw [BitVec.toNat_ofNat]; omega
    have e2 : BitVec.ofNat 8 (a.toNat * 256 + b.toNat) = b := by
      apply BitVec.eq_of_toNat_eq
      rw [BitVec.toNat_ofNat]; omega
    show [BitVec.ofNat 8 ((a.toNat * 256 + b.toNat) / 256), BitVec.ofNat 8 (a.toNat * 256 + b.toNat)] = [a, b]
    rw [e1, e2]
def okI (x : It) : Prop := -9223372036854775808 ≤ x.n ∧ x.n ≤ 9223372036854775807
theorem zbqo {x : It} (hm : zhe x = true) (hn : okI x) (r : List (BitVec 8)) : zek (zo4 x ++ r) = .inl (x, (zo4 x).length) := by
  obtain ⟨t, n, s⟩ := x
  cases t with
  | true =>
    simp only [zhe, if_true, decide_eq_true_eq] at hm
    obtain ⟨rfl, hs⟩ := hm
    have e : zo4 ⟨true, 0, s⟩ = 36 :: (w2 s.size ++ bv s) := rfl
    rw [e]
    show zek (36 :: ((w2 s.size ++ bv s) ++ r)) = _
    unfold zek
    dsimp only
    have hl := zbl s
    have h2 : ((w2 s.size ++ bv s) ++ r).take 2 = w2 s.size := rfl
    have h3 : ((w2 s.size ++ bv s) ++ r).drop 2 = bv s ++ r := rfl
    have hlen : ((w2 s.size ++ bv s) ++ r).length = 2 + s.size + r.length := by simp [z9m, hl]; omega
    rw [if_neg (by decide), if_pos rfl, if_neg (by omega), h2, zbnr hs, if_neg (by omega), h3, List.take_append_of_le_length (by omega), List.take_of_length_le (by omega), z92]
    simp [z9m, hl]; omega
  | false =>
    have hs : s = ⟨#[]⟩ := by simpa [zhe] using hm
    subst hs
    have e : zo4 ⟨false, n, ⟨#[]⟩⟩ = 35 :: be8 n := rfl
    rw [e]
    show zek (35 :: (be8 n ++ r)) = _
    unfold zek
    dsimp only
    rw [if_pos rfl, if_neg (by simp [zh7]), List.take_append_of_le_length (by rw [zh7]; omega), List.take_of_length_le (by rw [zh7]; omega), zbqn hn.1 hn.2]
    simp [zh7]
theorem zbqp {r : List (BitVec 8)} {x : It} {n : Nat} (h : zek r = .inl (x, n)) : zhe x = true ∧ r.take n = zo4 x ∧ n = (zo4 x).length := by
  have hln := z28 h
  cases r with
  | nil => cases h
  | cons c r =>
    unfold zek at h
    dsimp only at h
    split at h
    · rename_i hc
      split at h
      · cases h
      · rename_i hl
        cases h
        subst hc
        have ht : (r.take 8).length = 8 := by rw [List.length_take]; omega
        refine ⟨rfl, ?_, ?_⟩
        · show (35 :: r).take (8 + 1) = 35 :: be8 _
          rw [List.take_succ_cons, zbvn ht]
        · show 9 = (35 :: be8 _).length
          rw [List.length_cons, zh7]
    · split at h
      · rename_i hc
        split at h
        · cases h
        · rename_i hl
          split at h
          · cases h
          · rename_i hl2
            cases h
            subst hc
            have ht : (r.take 2).length = 2 := by rw [List.length_take]; omega
            have hle := zsc (r := r) (by omega)
            have hw := zbtz ht
            generalize (zgs (r.take 2)).toNat = n at *
            have hsz : (sv ((r.drop 2).take n)).size = n := by rw [z22, List.length_take, List.length_drop]; omega
            have hone : zo4 ⟨true, 0, sv ((r.drop 2).take n)⟩ = 36 :: (r.take 2 ++ (r.drop 2).take n) := by
              show 36 :: (w2 (sv ((r.drop 2).take n)).size ++ bv (sv ((r.drop 2).take n))) = _
              rw [hsz, zvp, hw]
            refine ⟨by show decide ((0 : Int) = 0 ∧ (sv ((r.drop 2).take n)).size ≤ 65535) = true; exact decide_eq_true ⟨rfl, by rw [hsz]; exact hle⟩, ?_, ?_⟩
            · rw [hone, show 3 + n = (2 + n) + 1 by omega, List.take_succ_cons, ← List.take_add]
            · rw [hone]; simp; omega
      · cases h
theorem zbao : ∀ (l : List It) (r : List (BitVec 8)) (a : Nat), (∀ x ∈ l, zhe x = true ∧ okI x) → zgz l.length (l.flatMap zo4 ++ r) a = .inl (l, a + (l.flatMap zo4).length)
  | [], r, a, _ => rfl
  | x :: l, r, a, h => by
    rw [List.length_cons, zsd, List.flatMap_cons, List.append_assoc, zbqo (h x (by simp)).1 (h x (by simp)).2]
    dsimp only
    rw [List.drop_left, zbao l r _ (fun y hy => h y (by simp [hy]))]
    simp [Nat.add_assoc]
theorem zbap : ∀ (k : Nat) (r : List (BitVec 8)) (a : Nat) (xs : List It) (e : Nat), zgz k r a = .inl (xs, e) → xs.length = k ∧ (∀ x ∈ xs, zhe x = true) ∧ (xs.flatMap zo4).length ≤ r.length ∧ r.take (xs.flatMap zo4).length = xs.flatMap zo4 ∧ e = a + (xs.flatMap zo4).length
  | 0, r, a, xs, e, h => by cases h; simp
  | k + 1, r, a, xs, e, h => by
    rw [zsd] at h
    cases hd : zek r with
    | inr q => rw [hd] at h; cases h
    | inl p =>
      obtain ⟨x, n⟩ := p
      rw [hd] at h
      dsimp only at h
      cases hq : zgz k (r.drop n) (a + n) with
      | inr q => rw [hq] at h; cases h
      | inl p =>
        obtain ⟨ys, e'⟩ := p
        rw [hq] at h
        cases h
        obtain ⟨h1, h2, h3, h4, h5⟩ := zbap k _ _ _ _ hq
        obtain ⟨g1, g2, g3⟩ := zbqp hd
        have hln := z28 hd
        rw [List.length_drop] at h3
        refine ⟨by simp [h1], fun y hy => ?_, ?_, ?_, ?_⟩
        · rcases List.mem_cons.1 hy with rfl | hy
          · exact g1
          · exact h2 y hy
        · rw [List.flatMap_cons, List.length_append]; omega
        · rw [List.flatMap_cons, List.length_append, ← g3, List.take_add, g2, h4]
        · rw [List.flatMap_cons, List.length_append]; omega
theorem zbjg (l : List It) : (zqw l).length = 2 + (l.flatMap zo4).length := by
  unfold zqw; rw [List.length_append, z9m]
theorem zbot {l : List It} (h : (zsq l).2 = 0) : l.length ≤ 1000 ∧ (∀ x ∈ l, zhe x = true) ∧ (zqw l).length ≤ 65536 ∧ (zsq l).1 = sv (zqw l) := by
  unfold zsq at h ⊢
  split at h
  · cases h
  · rename_i h1
    split at h
    · cases h
    · rename_i h2
      split at h
      · cases h
      · rename_i h3
        rw [if_neg h1, if_neg h2, if_neg h3]
        refine ⟨by omega, fun x hx => ?_, by omega, rfl⟩
        have h2' : l.any (fun x => !zhe x) = false := by simpa only [Bool.not_eq_true] using h2
        have := (List.any_eq_false.1 h2') x hx
        simpa using this
theorem zbvo {l : List It} (h1 : l.length ≤ 1000) (h2 : ∀ x ∈ l, zhe x = true) (h3 : (zqw l).length ≤ 65536) : zsq l = (sv (zqw l), 0) := by
  unfold zsq
  rw [if_neg (by omega), if_neg, if_neg (by omega)]
  simp only [Bool.not_eq_true]
  rw [List.any_eq_false]
  intro x hx
  simp [h2 x hx]
theorem zbt0 {b : List (BitVec 8)} (h1 : b.length ≤ 65536) (h2 : 2 ≤ b.length) (h3 : (zgs (b.take 2)).toNat ≤ 1000) : zeu b = match zgz (zgs (b.take 2)).toNat (b.drop 2) 2 with
    | .inr e => ([], some e)
    | .inl (xs, a) => if a < b.length then ([], some ((a : Int), 31)) else (xs, none) := by
  conv => lhs; unfold zeu
  rw [if_neg (by omega), if_neg (by omega), if_neg (by omega)]
  all_goals rfl
theorem zbvp {l : List It} (h : (zsq l).2 = 0) (hn : ∀ x ∈ l, okI x) : zeu (bv (zsq l).1) = (l, none) := by
  obtain ⟨h1, h2, h3, h4⟩ := zbot h
  rw [h4, zvp]
  have hlen := zbjg l
  have ht : (zqw l).take 2 = w2 l.length := rfl
  have hd : (zqw l).drop 2 = l.flatMap zo4 ++ [] := by rw [List.append_nil]; rfl
  rw [zbt0 h3 (by omega) (by rw [ht, zbnr (by omega)]; exact h1), ht, zbnr (by omega), hd, zbao l [] 2 (fun x hx => ⟨h2 x hx, hn x hx⟩)]
  dsimp only
  rw [if_neg (by omega)]
theorem zbjh {b : List (BitVec 8)} (h : (zeu b).2 = none) : zsq (zeu b).1 = (sv b, 0) ∧ (zeu b).1.length ≤ 1000 := by
  unfold zeu at h ⊢
  split at h
  · cases h
  · rename_i h1
    split at h
    · cases h
    · rename_i h2
      split at h
      · cases h
      · rename_i h3
        rw [if_neg h1, if_neg h2, if_neg h3]
        cases hq : zgz (zgs (b.take 2)).toNat (b.drop 2) 2 with
        | inr e => rw [hq] at h; cases h
        | inl p =>
          obtain ⟨xs, a⟩ := p
          rw [hq] at h
          dsimp only at h ⊢
          split at h
          · cases h
          · rename_i h4
            rw [if_neg h4]
            obtain ⟨g1, g2, g3, g4, g5⟩ := zbap _ _ _ _ _ hq
            have ht : (b.take 2).length = 2 := by rw [List.length_take]; omega
            rw [List.length_drop] at g3
            have hfull : zqw xs = b := by
              have hfl : xs.flatMap zo4 = b.drop 2 := g4.symm.trans (List.take_of_length_le (by rw [List.length_drop]; omega))
              unfold zqw
              rw [g1, zbtz ht, hfl, List.take_append_drop]
            rw [zbvo (by omega) g2 (by rw [hfull]; omega), hfull]
            exact ⟨rfl, by dsimp only; omega⟩
theorem zblp {b : List (BitVec 8)} {e : Int × Int} (h : (zeu b).2 = some e) : (zeu b).1 = [] ∧ e.2 ≠ 0 := by
  unfold zeu at h ⊢
  split at h
  · rename_i h1; rw [if_pos h1]; cases h; exact ⟨rfl, show (2 : Int) ≠ 0 by decide⟩
  · rename_i h1
    rw [if_neg h1]
    split at h
    · rename_i h2; rw [if_pos h2]; cases h; exact ⟨rfl, show (30 : Int) ≠ 0 by decide⟩
    · rename_i h2
      rw [if_neg h2]
      split at h
      · rename_i h3; rw [if_pos h3]; cases h; exact ⟨rfl, show (2 : Int) ≠ 0 by decide⟩
      · rename_i h3
        rw [if_neg h3]
        cases hq : zgz (zgs (b.take 2)).toNat (b.drop 2) 2 with
        | inr q =>
          rw [hq] at h
          cases h
          refine ⟨rfl, ?_⟩
          have key : ∀ (k : Nat) (r : List (BitVec 8)) (a : Nat) (e : Int × Int), zgz k r a = .inr e → e.2 ≠ 0 := by
            intro k
            induction k with
            | zero => intro r a e h; cases h
            | succ k ih =>
              intro r a e h
              rw [zsd] at h
              cases hd : zek r with
              | inr q =>
                rw [hd] at h
                cases h
                revert hd
                cases r with
                | nil => intro hd; cases hd; show (30 : Int) ≠ 0; decide
                | cons c r =>
                  intro hd
                  unfold zek at hd
                  dsimp only at hd
                  show q ≠ 0
                  repeat' split at hd
                  all_goals first | (cases hd; decide) | cases hd
              | inl p =>
                obtain ⟨x, n⟩ := p
                rw [hd] at h
                dsimp only at h
                cases hq : zgz k (r.drop n) (a + n) with
                | inr q => rw [hq] at h; cases h; exact ih _ _ _ hq
                | inl p => obtain ⟨xs, e⟩ := p; rw [hq] at h; cases h
          exact key _ _ _ _ hq
        | inl p =>
          obtain ⟨xs, a⟩ := p
          rw [hq] at h
          dsimp only at h ⊢
          split at h
          · rename_i h4
            rw [if_pos h4]
            cases h
            exact ⟨rfl, show (31 : Int) ≠ 0 by decide⟩
          · cases h
end Go.AM.Cap
