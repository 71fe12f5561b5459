import Derived.Test.YtcmimkacafphkaaGreatDoorCoY
import Derived.Test.YtcmimkacafphkaaGreatDoorAmOpenF
import Derived.Test.YtcmimkacafphkaaGreatDoorWiE
set_option linter.all false
/- code: CodeLong on the machine -/
set_option maxHeartbeats 8000000
namespace Go.AM.Cap
open Go.AM Go.Proofs

theorem encI_no {l : List It} (h : (encI l).2 ≠ 0) : (encI l).1 = ⟨#[]⟩ := by
  unfold encI at *
  split
  · rfl
  · split
    · rfl
    · split
      · rfl
      · rename_i h1 h2 h3
        rw [if_neg h1, if_neg h2, if_neg h3] at h
        exact absurd rfl h
theorem encI_yes {l : List It} (h : (encI l).2 = 0) : (encI l).1 = sv (fullI l) := by
  unfold encI at *
  split
  · rename_i h1
    rw [if_pos h1] at h; exact absurd h (by show ¬ ((2 : Int) = 0); decide)
  · rename_i h1
    rw [if_neg h1] at h
    split
    · rename_i h2
      rw [if_pos h2] at h; exact absurd h (by show ¬ ((4 : Int) = 0); decide)
    · rename_i h2
      rw [if_neg h2] at h
      split
      · rename_i h3
        rw [if_pos h3] at h; exact absurd h (by show ¬ ((2 : Int) = 0); decide)
      · rfl
theorem encode_bad {p : PIm} (h : (encodeS p).2 ≠ 0) : (encodeS p).1 = ⟨#[]⟩ := by
  unfold encodeS at *
  split
  · rename_i h1; rw [if_pos h1] at h; exact encI_no h
  · rfl
theorem encode_good {p : PIm} (h : (encodeS p).2 = 0) : (checkS p).2 = 0 ∧ (encodeS p).1 = sv (fullI (itemsS p)) := by
  unfold encodeS at *
  split
  · rename_i h1; rw [if_pos h1] at h; exact ⟨h1, encI_yes h⟩
  · rename_i h1; rw [if_neg h1] at h; exact absurd h (by show ¬ ((130 : Int) = 0); decide)
end Go.AM.Cap

/- wire: the reference's Encode -/
set_option maxHeartbeats 16000000
namespace Go.AM.Cap
open Go.AM Go.Proofs

end Go.AM.Cap

/- wire: an item that is read -/
set_option maxHeartbeats 16000000
namespace Go.AM.Cap
open Go.AM Go.Proofs

/-- an item at the start of bytes, and how many bytes it has; or a code -/
def ditem : List (BitVec 8) → (It × Nat) ⊕ Int
  | [] => .inr 30
  | c :: r => if c = 35 then (if r.length < 8 then .inr 30 else .inl (⟨false, (val8 (r.take 8)).toInt, ⟨#[]⟩⟩, 9))
    else if c = 36 then (if r.length < 2 then .inr 30 else if r.length - 2 < (val8 (r.take 2)).toNat then .inr 30 else .inl (⟨true, 0, sv ((r.drop 2).take (val8 (r.take 2)).toNat)⟩, 3 + (val8 (r.take 2)).toNat))
    else .inr 3
def itemV (d : (It × Nat) ⊕ Int) (a : Nat) : V := match d with
  | .inl (x, n) => .tuple #[.agg (Flat.enc x).toArray, i64 ((a + n : Nat) : Int), .nilIface]
  | .inr e => .tuple #[.agg (Flat.enc (default : It)).toArray, i64 0, errV (some ((a : Int), e))]
theorem val8_two (x y : BitVec 8) : (val8 [x, y]).toNat = x.toNat * 256 + y.toNat := by
  have e : val8 [x, y] = BitVec.ofNat 64 (x.toNat * 256 + y.toNat) := by
    show ((0 : BitVec 64) <<< 8 ||| x.setWidth 64) <<< 8 ||| y.setWidth 64 = _
    revert x y
    have key : ∀ x y : BitVec 8, ((0 : BitVec 64) <<< 8 ||| x.setWidth 64) <<< 8 ||| y.setWidth 64 = BitVec.ofNat 64 (x.toNat * 256 + y.toNat) := by
      intro x y
      apply BitVec.eq_of_toNat_eq
      have hx := x.isLt
      have hy := y.isLt
      rw [BitVec.toNat_or, BitVec.toNat_shiftLeft, BitVec.toNat_or, BitVec.toNat_setWidth, BitVec.toNat_setWidth, BitVec.toNat_ofNat, BitVec.toNat_shiftLeft]
      have e1 : x.toNat % 2 ^ 64 = x.toNat := Nat.mod_eq_of_lt (by omega)
      have e2 : y.toNat % 2 ^ 64 = y.toNat := Nat.mod_eq_of_lt (by omega)
      rw [e1, e2]
      have e3 : ((0 : BitVec 64).toNat <<< 8 % 2 ^ 64 ||| x.toNat) = x.toNat := by simp
      rw [e3]
      have e4 : x.toNat <<< 8 % 2 ^ 64 = x.toNat <<< 8 := Nat.mod_eq_of_lt (by rw [Nat.shiftLeft_eq]; omega)
      rw [e4, ← Nat.shiftLeft_add_eq_or_of_lt (by omega), Nat.shiftLeft_eq]
      omega
    exact key
  rw [e, BitVec.toNat_ofNat]
  have hx := x.isLt
  have hy := y.isLt
  omega
theorem toInt_small (x : BitVec 64) (h : x.toNat ≤ 1000000) : x.toInt = (x.toNat : Int) := by
  rw [BitVec.toInt_eq_toNat_of_lt (by omega)]
theorem take_two {r : List (BitVec 8)} (h : 2 ≤ r.length) : r.take 2 = [r.getD 0 0, r.getD 1 0] := by
  match r, h with
  | a :: b :: r, _ => rfl
theorem val8_two_le {r : List (BitVec 8)} (h : 2 ≤ r.length) : (val8 (r.take 2)).toNat ≤ 65535 := by
  rw [take_two h, val8_two]
  have := (r.getD 0 0).isLt
  have := (r.getD 1 0).isLt
  omega
theorem str_ext0 {s : ByteArray} : s = ⟨#[]⟩ ↔ bv s = [] := bv_nil.symm
theorem byte_ne {c : BitVec 8} {n : Nat} (hn : n < 256) (h : c ≠ BitVec.ofNat 8 n) : ¬ ((c.toNat : Int) = (n : Int)) := fun q => h (by
  apply BitVec.eq_of_toNat_eq
  rw [BitVec.toNat_ofNat, Nat.mod_eq_of_lt hn]; omega)

theorem chk_it0 {H : Heap} {b : Nat} (h : H.get b = some (.cells true [.bool false, i64 0, .string ⟨#[]⟩])) : chk (ldn 3 (ptr b 0)) H (.agg (#[.bool false, i64 0, .string ⟨#[]⟩] : Array V)) = true := by
  have e : ldn 3 (ptr b 0) H = some (.agg (#[.bool false, i64 0, .string ⟨#[]⟩] : Array V), H) := by
    simp only [ldn, cellsAt, h]
    rfl
  unfold chk
  rw [e]
  rfl
set_option maxRecDepth 20000 in
theorem item_ok {H : Heap} (b : ByteArray) (a : Nat) (ha : a ≤ b.size) (hb : b.size ≤ 65536) (Q : V → Heap → Prop) (hQ : ∀ H', Keeps [] H H' → Q (itemV (ditem ((bv b).drop a)) a) H') : wp (A_wire_item [.string b, i64 a]) Q H := by
  show wp (F_wire_item (.string b) (i64 a)) Q H
  have k1 : Keeps [] H (H.push (some (.cells true [.bool false, i64 0, .string ⟨#[]⟩]))) := Keeps.push _ _ _
  have g1 : (H.push (some (.cells true [.bool false, i64 0, .string ⟨#[]⟩]))).get H.next = some (.cells true [.bool false, i64 0, .string ⟨#[]⟩]) := Heap.get_push_self _ _
  have n1 : (H.push (some (.cells true [.bool false, i64 0, .string ⟨#[]⟩]))).next = H.next + 1 := by simp
  have hsub := subS_lo (s := b) (k := .i64) (a := a) (by omega) (by omega)
  rw [Int.toNat_natCast] at hsub
  unfold F_wire_item
  rw [wp_bnd, wp_bnd]
  refine (wp_newc (by rfl)).mpr ?_
  generalize (H.push (some (.cells true [.bool false, i64 0, .string ⟨#[]⟩]))) = H1 at *
  have hr : bv (b.extract a b.size) = (bv b).drop a := by
    rw [bv_extract, List.take_of_length_le (by rw [List.length_drop, bv_length]; omega)]
  have hrs : (b.extract a b.size).size = b.size - a := size_extract b (Nat.le_refl _)
  generalize hrest : b.extract a b.size = rest at hsub hr hrs
  rw [← hr] at hQ
  have hlen : (bv rest).length = rest.size := bv_length rest
  -- an error
  have herr : ∀ (e : Int), ditem (bv rest) = .inr e → ∀ H', Keeps [] H H' → Q (.tuple #[.agg [Value.bool false, i64 0, .string ⟨#[]⟩].toArray, i64 0, errV (some ((a : Int), e))]) H' := fun e he H' hk => by
    have := hQ H' hk
    rw [he] at this
    exact this
  have hset : Keeps [] H (H1.set H.next (some (.cells true [.bool false, i64 0, .string ⟨#[]⟩]))) := keeps_set k1 (.inr (Nat.le_refl _))
  have hset' : ∀ x : It, Keeps [] H (H1.set H.next (some (.cells true [.bool x.t, i64 x.n, .string x.s]))) := fun x => keeps_set k1 (.inr (Nat.le_refl _))
  have hk0 : ∀ (e : Int), e = 30 → ditem (bv rest) = .inr e → wp (wire_item_k0 [i64 a, ptr H.next 0]) (fun o H' => wp (finM o fun vs => bnd (ldn 3 (at_ vs 0)) fun r0 => ret (outV [r0, (at_ vs 1), (at_ vs 2)])) Q H') H1 := fun e he hd => by
    subst he
    (try simp (maxSteps := 1000000) (disch := first | omega | (simp only [Z3]; omega) | (simp; done) | assumption | decide | (refine not_not_intro ?_; assumption)) only [Z1, Z2, splice, wire_item_k0, g1, bad_eq, chk_it0 g1])
    exact herr _ hd _ hset
  match hm : bv rest with
  | [] =>
    have e0 : rest = ⟨#[]⟩ := str_ext0.2 hm
    (try simp (maxSteps := 1000000) (disch := first | omega | (simp only [Z3]; omega) | (simp; done) | assumption | decide | (refine not_not_intro ?_; assumption)) only [Z1, Z2, splice, hsub, e0, g1, bad_eq, chk_it0 g1])
    exact herr 30 (by rw [hm]; rfl) _ hset
  | c :: r =>
    have hne : ¬ rest = ⟨#[]⟩ := fun q => by rw [q] at hm; cases hm
    have hl : rest.size = r.length + 1 := by rw [← hlen, hm]; rfl
    have i0 := idxS_bv (s := rest) (k := .i64) (i := 0) (by omega) (by omega)
    rw [hm] at i0
    have i0' : idxS (.string rest) (i64 0) = some (B c) := i0
    by_cases hc : c = 35
    · subst hc
      by_cases h8 : r.length < 8
      · have hd : ditem (bv rest) = .inr 30 := by rw [hm]; simp [ditem, h8]
        (try simp (maxSteps := 1000000) (disch := first | omega | (simp only [Z3]; omega) | (simp; done) | assumption | decide | (refine not_not_intro ?_; assumption)) only [Z1, Z2, splice, hsub, hne, i0', B35])
        exact hk0 _ rfl hd
      · have hs9 := subS_both (s := rest) (k := .i64) (k' := .i64) (a := 1) (b := 9) (by omega) (by omega) (by omega)
        have hv : bv (rest.extract 1 9) = r.take 8 := by rw [bv_extract, hm]; rfl
        have hd : ditem (bv rest) = .inl (⟨false, (val8 (r.take 8)).toInt, ⟨#[]⟩⟩, 9) := by rw [hm]; simp [ditem, h8]
        have hu := unsigned_eq (rest.extract 1 9) (by rw [size_extract _ (by omega)]; omega)
        rw [hv] at hu
        (try simp (maxSteps := 1000000) (disch := first | omega | (simp only [Z3]; omega) | (simp; done) | assumption | decide | (refine not_not_intro ?_; assumption)) only [Z1, Z2, splice, hsub, hne, i0', B35, hs9, Int.reduceToNat, hu, w64_i64, g1])
        have := hQ _ (hset' ⟨false, (val8 (r.take 8)).toInt, ⟨#[]⟩⟩)
        rw [hd] at this
        exact this
    · have hc' := byte_ne (n := 35) (by omega) hc
      by_cases hc2 : c = 36
      · subst hc2
        by_cases h2 : r.length < 2
        · have hd : ditem (bv rest) = .inr 30 := by rw [hm]; simp [ditem, h2]
          (try simp (maxSteps := 1000000) (disch := first | omega | (simp only [Z3]; omega) | (simp; done) | assumption | decide | (refine not_not_intro ?_; assumption)) only [Z1, Z2, splice, hsub, hne, i0', B36])
          exact hk0 _ rfl hd
        · have hs3 := subS_both (s := rest) (k := .i64) (k' := .i64) (a := 1) (b := 3) (by omega) (by omega) (by omega)
          have hv : bv (rest.extract 1 3) = r.take 2 := by rw [bv_extract, hm]; rfl
          have hu := unsigned_eq (rest.extract 1 3) (by rw [size_extract _ (by omega)]; omega)
          rw [hv] at hu
          have hle := val8_two_le (r := r) (by omega)
          have hti := toInt_small (val8 (r.take 2)) (by omega)
          generalize hnn : (val8 (r.take 2)).toNat = n at hle hti
          by_cases hn : r.length - 2 < n
          · have hd : ditem (bv rest) = .inr 30 := by rw [hm]; simp [ditem, h2, hnn, hn]
            (try simp (maxSteps := 1000000) (disch := first | omega | (simp only [Z3]; omega) | (simp; done) | assumption | decide | (refine not_not_intro ?_; assumption)) only [Z1, Z2, splice, hsub, hne, i0', B36, hs3, Int.reduceToNat, hu, w64_i64, hti])
            exact hk0 _ rfl hd
          · have hd : ditem (bv rest) = .inl (⟨true, 0, sv ((r.drop 2).take n)⟩, 3 + n) := by rw [hm]; simp [ditem, h2, hnn, hn]
            have hsn := subS_both (s := rest) (k := .i64) (k' := .i64) (a := 3) (b := 3 + (n : Int)) (by omega) (by omega) (by omega)
            have hvn : rest.extract (3 : Int).toNat (3 + (n : Int)).toNat = sv ((r.drop 2).take n) := by
              apply bv_inj
              rw [bv_extract, bv_sv, hm, show (3 + (n : Int)).toNat - (3 : Int).toNat = n from by omega]
              rfl
            rw [hvn] at hsn
            (try simp (maxSteps := 1000000) (disch := first | omega | (simp only [Z3]; omega) | (simp; done) | assumption | decide | (refine not_not_intro ?_; assumption)) only [Z1, Z2, splice, hsub, hne, i0', B36, hs3, Int.reduceToNat, hu, w64_i64, hti, hsn, g1])
            have := hQ _ (hset' ⟨true, 0, sv ((r.drop 2).take n)⟩)
            rw [hd] at this
            rw [show (a : Int) + 3 + (n : Int) = ((a + (3 + n) : Nat) : Int) from by push_cast; omega]
            exact this
      · have hc2' := byte_ne (n := 36) (by omega) hc2
        have hd : ditem (bv rest) = .inr 3 := by rw [hm]; unfold ditem; dsimp only; rw [if_neg hc, if_neg hc2]
        (try simp (maxSteps := 1000000) (disch := first | omega | (simp only [Z3]; omega) | (simp; done) | assumption | decide | (refine not_not_intro ?_; assumption)) only [Z1, Z2, splice, hsub, hne, i0', g1, bad_eq, chk_it0 g1])
        exact herr _ hd _ hset
end Go.AM.Cap

/- wire: the reference's item -/
set_option maxHeartbeats 16000000
namespace Go.AM.Cap
open Go.AM Go.Proofs

theorem step256 (x : BitVec 64) (y : BitVec 8) : x * (256 : BitVec 64) + y.setWidth 64 = x <<< 8 ||| y.setWidth 64 := by
  have h1 : x * (256 : BitVec 64) = x <<< 8 := by
    apply BitVec.eq_of_toNat_eq
    rw [BitVec.toNat_mul, BitVec.toNat_shiftLeft, Nat.shiftLeft_eq]
    rfl
  rw [h1, BitVec.add_eq_or_of_and_eq_zero]
  apply BitVec.eq_of_getLsbD_eq
  intro i hi
  simp only [BitVec.getLsbD_and, BitVec.getLsbD_shiftLeft, BitVec.getLsbD_setWidth, BitVec.getLsbD_zero]
  by_cases h : i < 8
  · simp [h]
  · have : y.getLsbD i = false := BitVec.getLsbD_of_ge _ _ (by omega)
    simp [this]
end Go.AM.Cap
