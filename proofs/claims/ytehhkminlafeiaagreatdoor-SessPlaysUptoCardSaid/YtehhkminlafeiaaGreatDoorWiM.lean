import Derived.Test.YtehhkminlafeiaaGreatDoorWiK
set_option linter.all false
/- wire: there and back, cuts, joins: the plain law -/
set_option maxHeartbeats 4000000
namespace Go.AM.Cap
open Go.AM Go.Proofs
theorem zbq2 (l : List (BitVec 8)) (b : BitVec 8) : zht (l ++ [b]) = zht l <<< 8 ||| b.setWidth 64 := by
  unfold zht; rw [List.foldl_append]; rfl
def nv (l : List (BitVec 8)) : Nat := l.foldl (fun n b => n * 256 + b.toNat) 0
theorem zbq3 : ∀ (l : List (BitVec 8)) (x : BitVec 64) (k : Nat), x.toNat < 256 ^ k → k + l.length ≤ 8 → (l.foldl (fun (n : BitVec 64) b => n <<< 8 ||| b.setWidth 64) x).toNat = l.foldl (fun n b => n * 256 + b.toNat) x.toNat
  | [], _, _, _, _ => rfl
  | b :: l, x, k, hx, hk => by
    rw [List.length_cons] at hk
    have hb := b.isLt
    have h1 : 256 ^ (k + 1) ≤ 256 ^ 8 := Nat.pow_le_pow_right (by omega) (by omega)
    have h2 : x.toNat * 256 + 256 ≤ 256 ^ (k + 1) := by rw [Nat.pow_succ]; omega
    have h3 : (256 : Nat) ^ 8 = 18446744073709551616 := by decide
    have e : (x <<< 8 ||| b.setWidth 64).toNat = x.toNat * 256 + b.toNat := by
      rw [← zbul, BitVec.toNat_add, BitVec.toNat_mul, BitVec.toNat_setWidth]
      show (x.toNat * 256 % 18446744073709551616 + b.toNat % 18446744073709551616) % 18446744073709551616 = _
      omega
    rw [List.foldl_cons, List.foldl_cons, ← e]
    exact zbq3 l _ (k + 1) (by rw [e]; omega) (by omega)
theorem zb09 {l : List (BitVec 8)} (h : l.length ≤ 8) : (zht l).toNat = nv l := zbq3 l 0 0 (by decide) (by omega)
theorem zb1a (n : Int) : zht (be8 n) = BitVec.ofInt 64 n := by
  generalize hx : BitVec.ofInt 64 n = x
  have key : ∀ j, j ≤ 8 → zht ((be8 n).take j) = x >>> (64 - 8 * j) := by
    intro j
    induction j with
    | zero => intro _; apply BitVec.eq_of_toNat_eq; simp [zht, BitVec.toNat_ushiftRight, Nat.shiftRight_eq_div_pow, Nat.div_eq_of_lt x.isLt]
    | succ j ih =>
      intro hj
      rw [zbj0 n j (by omega), zbq2, ih (by omega), hx]
      apply BitVec.eq_of_getLsbD_eq
      intro i hi
      simp only [BitVec.getLsbD_or, BitVec.getLsbD_shiftLeft, BitVec.getLsbD_setWidth, BitVec.getLsbD_ushiftRight]
      by_cases h8 : i < 8
      · simp [h8, hi, show 64 - 8 * (j + 1) = 56 - 8 * j by omega]
      · have e : 64 - 8 * j + (i - 8) = 64 - 8 * (j + 1) + i := by omega
        simp [h8, hi, e]
  have := key 8 (Nat.le_refl _)
  rw [List.take_of_length_le (by rw [zdt]; omega)] at this
  rw [this]
  simp
theorem zbv4 {n : Int} (h0 : -9223372036854775808 ≤ n) (h1 : n ≤ 9223372036854775807) : (zht (be8 n)).toInt = n := by
  rw [zb1a, BitVec.toInt_ofInt]
  exact Int.bmod_eq_of_le (by omega) (by omega)
theorem zb1b {l : List (BitVec 8)} (h : l.length = 8) : be8 (zht l).toInt = l := by
  unfold be8
  rw [BitVec.ofInt_toInt]
  match l, h with
  | [a, b, c, d, e, f, g, i], _ =>
    have hv := zb09 (l := [a, b, c, d, e, f, g, i]) (by simp)
    generalize zht [a, b, c, d, e, f, g, i] = x at hv
    have ha := a.isLt
    have hb := b.isLt
    have hc := c.isLt
    have hd := d.isLt
    have he := e.isLt
    have hf := f.isLt
    have hg := g.isLt
    have hi := i.isLt
    simp only [nv, List.foldl_cons, List.foldl_nil, Nat.zero_mul, Nat.zero_add] at hv
    have key : ∀ (k : Nat) (y : BitVec 8), x.toNat / 2 ^ k % 256 = y.toNat → (x >>> k).setWidth 8 = y := fun k y hy => by
      apply BitVec.eq_of_toNat_eq
      rw [BitVec.toNat_setWidth, BitVec.toNat_ushiftRight, Nat.shiftRight_eq_div_pow]
      exact hy
    show [(x >>> 56).setWidth 8, (x >>> 48).setWidth 8, (x >>> 40).setWidth 8, (x >>> 32).setWidth 8, (x >>> 24).setWidth 8, (x >>> 16).setWidth 8, (x >>> 8).setWidth 8, (x >>> 0).setWidth 8] = _
    rw [key 56 a (by omega), key 48 b (by omega), key 40 c (by omega), key 32 d (by omega), key 24 e (by omega), key 16 f (by omega), key 8 g (by omega), key 0 i (by omega)]
theorem zbfb (n : Nat) : (w2 n).length = 2 := rfl
theorem zbte {n : Nat} (h : n ≤ 65535) : (zht (w2 n)).toNat = n := by
  unfold w2
  rw [z79, BitVec.toNat_ofNat, BitVec.toNat_ofNat]
  omega
theorem zby2 {l : List (BitVec 8)} (h : l.length = 2) : w2 (zht l).toNat = l := by
  match l, h with
  | [a, b], _ =>
    rw [z79]
    have ha := a.isLt
    have hb := b.isLt
    have e1 : BitVec.ofNat 8 ((a.toNat * 256 + b.toNat) / 256) = a := by
      apply BitVec.eq_of_toNat_eq
      rw [BitVec.toNat_ofNat]; omega
    have e2 : BitVec.ofNat 8 (a.toNat * 256 + b.toNat) = b := by
      apply BitVec.eq_of_toNat_eq
      rw [BitVec.toNat_ofNat]; omega
    show [BitVec.ofNat 8 ((a.toNat * 256 + b.toNat) / 256), BitVec.ofNat 8 (a.toNat * 256 + b.toNat)] = [a, b]
    rw [e1, e2]
def okI (x : It) : Prop := -9223372036854775808 ≤ x.n ∧ x.n ≤ 9223372036854775807
theorem zbv5 {x : It} (hm : zjr x = true) (hn : okI x) (r : List (BitVec 8)) : ze5 (zpx x ++ r) = .inl (x, (zpx x).length) := by
  obtain ⟨t, n, s⟩ := x
  cases t with
  | true =>
    simp only [zjr, if_true, decide_eq_true_eq] at hm
    obtain ⟨rfl, hs⟩ := hm
    have e : zpx ⟨true, 0, s⟩ = 36 :: (w2 s.size ++ bv s) := rfl
    rw [e]
    show ze5 (36 :: ((w2 s.size ++ bv s) ++ r)) = _
    unfold ze5
    dsimp only
    have hl := zb7 s
    have h2 : ((w2 s.size ++ bv s) ++ r).take 2 = w2 s.size := rfl
    have h3 : ((w2 s.size ++ bv s) ++ r).drop 2 = bv s ++ r := rfl
    have hlen : ((w2 s.size ++ bv s) ++ r).length = 2 + s.size + r.length := by simp [zbfb, hl]; omega
    rw [if_neg (by decide), if_pos rfl, if_neg (by omega), h2, zbte hs, if_neg (by omega), h3, List.take_append_of_le_length (by omega), List.take_of_length_le (by omega), zbpy]
    simp [zbfb, hl]; omega
  | false =>
    have hs : s = ⟨#[]⟩ := by simpa [zjr] using hm
    subst hs
    have e : zpx ⟨false, n, ⟨#[]⟩⟩ = 35 :: be8 n := rfl
    rw [e]
    show ze5 (35 :: (be8 n ++ r)) = _
    unfold ze5
    dsimp only
    rw [if_pos rfl, if_neg (by simp [zdt]), List.take_append_of_le_length (by rw [zdt]; omega), List.take_of_length_le (by rw [zdt]; omega), zbv4 hn.1 hn.2]
    simp [zdt]
theorem zbv6 {r : List (BitVec 8)} {x : It} {n : Nat} (h : ze5 r = .inl (x, n)) : zjr x = true ∧ r.take n = zpx x ∧ n = (zpx x).length := by
  have hln := z8u h
  cases r with
  | nil => cases h
  | cons c r =>
    unfold ze5 at h
    dsimp only at h
    split at h
    · rename_i hc
      split at h
      · cases h
      · rename_i hl
        cases h
        subst hc
        have ht : (r.take 8).length = 8 := by rw [List.length_take]; omega
        refine ⟨rfl, ?_, ?_⟩
        · show (35 :: r).take (8 + 1) = 35 :: be8 _
          rw [List.take_succ_cons, zb1b ht]
        · show 9 = (35 :: be8 _).length
          rw [List.length_cons, zdt]
    · split at h
      · rename_i hc
        split at h
        · cases h
        · rename_i hl
          split at h
          · cases h
          · rename_i hl2
            cases h
            subst hc
            have ht : (r.take 2).length = 2 := by rw [List.length_take]; omega
            have hle := zvm (r := r) (by omega)
            have hw := zby2 ht
            generalize (zht (r.take 2)).toNat = n at *
            have hsz : (sv ((r.drop 2).take n)).size = n := by rw [zgw, List.length_take, List.length_drop]; omega
            have hone : zpx ⟨true, 0, sv ((r.drop 2).take n)⟩ = 36 :: (r.take 2 ++ (r.drop 2).take n) := by
              show 36 :: (w2 (sv ((r.drop 2).take n)).size ++ bv (sv ((r.drop 2).take n))) = _
              rw [hsz, zlq, hw]
            refine ⟨by show decide ((0 : Int) = 0 ∧ (sv ((r.drop 2).take n)).size ≤ 65535) = true; exact decide_eq_true ⟨rfl, by rw [hsz]; exact hle⟩, ?_, ?_⟩
            · rw [hone, show 3 + n = (2 + n) + 1 by omega, List.take_succ_cons, ← List.take_add]
            · rw [hone]; simp; omega
      · cases h
theorem zbgh : ∀ (l : List It) (r : List (BitVec 8)) (a : Nat), (∀ x ∈ l, zjr x = true ∧ okI x) → zhs l.length (l.flatMap zpx ++ r) a = .inl (l, a + (l.flatMap zpx).length)
  | [], r, a, _ => rfl
  | x :: l, r, a, h => by
    rw [List.length_cons, zvn, List.flatMap_cons, List.append_assoc, zbv5 (h x (by simp)).1 (h x (by simp)).2]
    dsimp only
    rw [List.drop_left, zbgh l r _ (fun y hy => h y (by simp [hy]))]
    simp [Nat.add_assoc]
theorem zbgi : ∀ (k : Nat) (r : List (BitVec 8)) (a : Nat) (xs : List It) (e : Nat), zhs k r a = .inl (xs, e) → xs.length = k ∧ (∀ x ∈ xs, zjr x = true) ∧ (xs.flatMap zpx).length ≤ r.length ∧ r.take (xs.flatMap zpx).length = xs.flatMap zpx ∧ e = a + (xs.flatMap zpx).length
  | 0, r, a, xs, e, h => by cases h; simp
  | k + 1, r, a, xs, e, h => by
    rw [zvn] at h
    cases hd : ze5 r with
    | inr q => rw [hd] at h; cases h
    | inl p =>
      obtain ⟨x, n⟩ := p
      rw [hd] at h
      dsimp only at h
      cases hq : zhs k (r.drop n) (a + n) with
      | inr q => rw [hq] at h; cases h
      | inl p =>
        obtain ⟨ys, e'⟩ := p
        rw [hq] at h
        cases h
        obtain ⟨h1, h2, h3, h4, h5⟩ := zbgi k _ _ _ _ hq
        obtain ⟨g1, g2, g3⟩ := zbv6 hd
        have hln := z8u hd
        rw [List.length_drop] at h3
        refine ⟨by simp [h1], fun y hy => ?_, ?_, ?_, ?_⟩
        · rcases List.mem_cons.1 hy with rfl | hy
          · exact g1
          · exact h2 y hy
        · rw [List.flatMap_cons, List.length_append]; omega
        · rw [List.flatMap_cons, List.length_append, ← g3, List.take_add, g2, h4]
        · rw [List.flatMap_cons, List.length_append]; omega
theorem zbol (l : List It) : (zvl l).length = 2 + (l.flatMap zpx).length := by
  unfold zvl; rw [List.length_append, zbfb]
theorem zbun {l : List It} (h : (zhu l).2 = 0) : l.length ≤ 1000 ∧ (∀ x ∈ l, zjr x = true) ∧ (zvl l).length ≤ 65536 ∧ (zhu l).1 = sv (zvl l) := by
  unfold zhu at h ⊢
  split at h
  · cases h
  · rename_i h1
    split at h
    · cases h
    · rename_i h2
      split at h
      · cases h
      · rename_i h3
        rw [if_neg h1, if_neg h2, if_neg h3]
        refine ⟨by omega, fun x hx => ?_, by omega, rfl⟩
        have h2' : l.any (fun x => !zjr x) = false := by simpa only [Bool.not_eq_true] using h2
        have := (List.any_eq_false.1 h2') x hx
        simpa using this
theorem zb1c {l : List It} (h1 : l.length ≤ 1000) (h2 : ∀ x ∈ l, zjr x = true) (h3 : (zvl l).length ≤ 65536) : zhu l = (sv (zvl l), 0) := by
  unfold zhu
  rw [if_neg (by omega), if_neg, if_neg (by omega)]
  simp only [Bool.not_eq_true]
  rw [List.any_eq_false]
  intro x hx
  simp [h2 x hx]
theorem zby3 {l : List It} (h : (zhu l).2 ≠ 0) : (zhu l).1 = ⟨#[]⟩ := by
  unfold zhu at h ⊢
  split
  · rfl
  · split
    · rfl
    · split
      · rfl
      · rename_i h1 h2 h3
        rw [if_neg h1, if_neg h2, if_neg h3] at h
        exact absurd rfl h
theorem zby4 {b : List (BitVec 8)} (h1 : b.length ≤ 65536) (h2 : 2 ≤ b.length) (h3 : (zht (b.take 2)).toNat ≤ 1000) : zee b = match zhs (zht (b.take 2)).toNat (b.drop 2) 2 with
    | .inr e => ([], some e)
    | .inl (xs, a) => if a < b.length then ([], some ((a : Int), 31)) else (xs, none) := by
  conv => lhs; unfold zee
  rw [if_neg (by omega), if_neg (by omega), if_neg (by omega)]
  all_goals rfl
theorem zb1d {l : List It} (h : (zhu l).2 = 0) (hn : ∀ x ∈ l, okI x) : zee (bv (zhu l).1) = (l, none) := by
  obtain ⟨h1, h2, h3, h4⟩ := zbun h
  rw [h4, zlq]
  have hlen := zbol l
  have ht : (zvl l).take 2 = w2 l.length := rfl
  have hd : (zvl l).drop 2 = l.flatMap zpx ++ [] := by rw [List.append_nil]; rfl
  rw [zby4 h3 (by omega) (by rw [ht, zbte (by omega)]; exact h1), ht, zbte (by omega), hd, zbgh l [] 2 (fun x hx => ⟨h2 x hx, hn x hx⟩)]
  dsimp only
  rw [if_neg (by omega)]
theorem zb1e {b : List (BitVec 8)} (h : (zee b).2 = none) : zhu (zee b).1 = (sv b, 0) ∧ (zee b).1.length ≤ 1000 := by
  unfold zee at h ⊢
  split at h
  · cases h
  · rename_i h1
    split at h
    · cases h
    · rename_i h2
      split at h
      · cases h
      · rename_i h3
        rw [if_neg h1, if_neg h2, if_neg h3]
        cases hq : zhs (zht (b.take 2)).toNat (b.drop 2) 2 with
        | inr e => rw [hq] at h; cases h
        | inl p =>
          obtain ⟨xs, a⟩ := p
          rw [hq] at h
          dsimp only at h ⊢
          split at h
          · cases h
          · rename_i h4
            rw [if_neg h4]
            obtain ⟨g1, g2, g3, g4, g5⟩ := zbgi _ _ _ _ _ hq
            have ht : (b.take 2).length = 2 := by rw [List.length_take]; omega
            rw [List.length_drop] at g3
            have hfull : zvl xs = b := by
              have hfl : xs.flatMap zpx = b.drop 2 := g4.symm.trans (List.take_of_length_le (by rw [List.length_drop]; omega))
              unfold zvl
              rw [g1, zby2 ht, hfl, List.take_append_drop]
            rw [zb1c (by omega) g2 (by rw [hfull]; omega), hfull]
            exact ⟨rfl, by dsimp only; omega⟩
theorem zbq4 {b : List (BitVec 8)} {e : Int × Int} (h : (zee b).2 = some e) : (zee b).1 = [] ∧ e.2 ≠ 0 := by
  unfold zee at h ⊢
  split at h
  · rename_i h1; rw [if_pos h1]; cases h; exact ⟨rfl, show (2 : Int) ≠ 0 by decide⟩
  · rename_i h1
    rw [if_neg h1]
    split at h
    · rename_i h2; rw [if_pos h2]; cases h; exact ⟨rfl, show (30 : Int) ≠ 0 by decide⟩
    · rename_i h2
      rw [if_neg h2]
      split at h
      · rename_i h3; rw [if_pos h3]; cases h; exact ⟨rfl, show (2 : Int) ≠ 0 by decide⟩
      · rename_i h3
        rw [if_neg h3]
        cases hq : zhs (zht (b.take 2)).toNat (b.drop 2) 2 with
        | inr q =>
          rw [hq] at h
          cases h
          refine ⟨rfl, ?_⟩
          have key : ∀ (k : Nat) (r : List (BitVec 8)) (a : Nat) (e : Int × Int), zhs k r a = .inr e → e.2 ≠ 0 := by
            intro k
            induction k with
            | zero => intro r a e h; cases h
            | succ k ih =>
              intro r a e h
              rw [zvn] at h
              cases hd : ze5 r with
              | inr q =>
                rw [hd] at h
                cases h
                revert hd
                cases r with
                | nil => intro hd; cases hd; show (30 : Int) ≠ 0; decide
                | cons c r =>
                  intro hd
                  unfold ze5 at hd
                  dsimp only at hd
                  show q ≠ 0
                  repeat' split at hd
                  all_goals first | (cases hd; decide) | cases hd
              | inl p =>
                obtain ⟨x, n⟩ := p
                rw [hd] at h
                dsimp only at h
                cases hq : zhs k (r.drop n) (a + n) with
                | inr q => rw [hq] at h; cases h; exact ih _ _ _ hq
                | inl p => obtain ⟨xs, e⟩ := p; rw [hq] at h; cases h
          exact key _ _ _ _ hq
        | inl p =>
          obtain ⟨xs, a⟩ := p
          rw [hq] at h
          dsimp only at h ⊢
          split at h
          · rename_i h4
            rw [if_pos h4]
            cases h
            exact ⟨rfl, show (31 : Int) ≠ 0 by decide⟩
          · cases h
end Go.AM.Cap
