import Derived.Test.YtcmimkacafphkaaGreatDoorCoY
import Derived.Test.YtcmimkacafphkaaGreatDoorAmOpenF
import Derived.Test.YtcmimkacafphkaaGreatDoorWiE
set_option linter.all false
/- code: CodeLong on the machine -/
set_option maxHeartbeats 8000000
namespace Go.AM.Cap
open Go.AM Go.Proofs
theorem zbtr {l : List It} (h : (zsq l).2 = 0) : (zsq l).1 = sv (zqw l) := by
  unfold zsq at *
  split
  · rename_i h1
    rw [if_pos h1] at h; exact absurd h (by show ¬ ((2 : Int) = 0); decide)
  · rename_i h1
    rw [if_neg h1] at h
    split
    · rename_i h2
      rw [if_pos h2] at h; exact absurd h (by show ¬ ((4 : Int) = 0); decide)
    · rename_i h2
      rw [if_neg h2] at h
      split
      · rename_i h3
        rw [if_pos h3] at h; exact absurd h (by show ¬ ((2 : Int) = 0); decide)
      · rfl
theorem zblk {p : PIm} (h : (zdj p).2 = 0) : (zfa p).2 = 0 ∧ (zdj p).1 = sv (zqw (zma p)) := by
  unfold zdj at *
  split
  · rename_i h1; rw [if_pos h1] at h; exact ⟨h1, zbtr h⟩
  · rename_i h1; rw [if_neg h1] at h; exact absurd h (by show ¬ ((130 : Int) = 0); decide)
end Go.AM.Cap

/- wire: the reference's Encode -/
set_option maxHeartbeats 16000000
namespace Go.AM.Cap
open Go.AM Go.Proofs
end Go.AM.Cap

/- wire: an item that is read -/
set_option maxHeartbeats 16000000
namespace Go.AM.Cap
open Go.AM Go.Proofs
def zek : List (BitVec 8) → (It × Nat) ⊕ Int
  | [] => .inr 30
  | c :: r => if c = 35 then (if r.length < 8 then .inr 30 else .inl (⟨false, (zgs (r.take 8)).toInt, ⟨#[]⟩⟩, 9))
    else if c = 36 then (if r.length < 2 then .inr 30 else if r.length - 2 < (zgs (r.take 2)).toNat then .inr 30 else .inl (⟨true, 0, sv ((r.drop 2).take (zgs (r.take 2)).toNat)⟩, 3 + (zgs (r.take 2)).toNat))
    else .inr 3
def zbts (d : (It × Nat) ⊕ Int) (a : Nat) : V := match d with
  | .inl (x, n) => .tuple #[.agg (Flat.enc x).toArray, i64 ((a + n : Nat) : Int), .nilIface]
  | .inr e => .tuple #[.agg (Flat.enc (default : It)).toArray, i64 0, errV (some ((a : Int), e))]
def zbnq (d : (It × Nat) ⊕ Int) (a : Nat) : V := match d with
  | .inl (x, n) => .tuple #[.agg (Flat.enc x).toArray, i64 ((a + n : Nat) : Int), i64 0]
  | .inr e => .tuple #[.agg (Flat.enc (default : It)).toArray, i64 0, i64 e]
theorem z2r (x y : BitVec 8) : (zgs [x, y]).toNat = x.toNat * 256 + y.toNat := by
  have e : zgs [x, y] = BitVec.ofNat 64 (x.toNat * 256 + y.toNat) := by
    show ((0 : BitVec 64) <<< 8 ||| x.setWidth 64) <<< 8 ||| y.setWidth 64 = _
    revert x y
    have key : ∀ x y : BitVec 8, ((0 : BitVec 64) <<< 8 ||| x.setWidth 64) <<< 8 ||| y.setWidth 64 = BitVec.ofNat 64 (x.toNat * 256 + y.toNat) := by
      intro x y
      apply BitVec.eq_of_toNat_eq
      have hx := x.isLt
      have hy := y.isLt
      rw [BitVec.toNat_or, BitVec.toNat_shiftLeft, BitVec.toNat_or, BitVec.toNat_setWidth, BitVec.toNat_setWidth, BitVec.toNat_ofNat, BitVec.toNat_shiftLeft]
      have e1 : x.toNat % 2 ^ 64 = x.toNat := Nat.mod_eq_of_lt (by omega)
      have e2 : y.toNat % 2 ^ 64 = y.toNat := Nat.mod_eq_of_lt (by omega)
      rw [e1, e2]
      have e3 : ((0 : BitVec 64).toNat <<< 8 % 2 ^ 64 ||| x.toNat) = x.toNat := by simp
      rw [e3]
      have e4 : x.toNat <<< 8 % 2 ^ 64 = x.toNat <<< 8 := Nat.mod_eq_of_lt (by rw [Nat.shiftLeft_eq]; omega)
      rw [e4, ← Nat.shiftLeft_add_eq_or_of_lt (by omega), Nat.shiftLeft_eq]
      omega
    exact key
  rw [e, BitVec.toNat_ofNat]
  have hx := x.isLt
  have hy := y.isLt
  omega
theorem zbll (x : BitVec 64) (h : x.toNat ≤ 1000000) : x.toInt = (x.toNat : Int) := by
  rw [BitVec.toInt_eq_toNat_of_lt (by omega)]
theorem zbec {r : List (BitVec 8)} (h : 2 ≤ r.length) : r.take 2 = [r.getD 0 0, r.getD 1 0] := by
  match r, h with
  | a :: b :: r, _ => rfl
theorem zsc {r : List (BitVec 8)} (h : 2 ≤ r.length) : (zgs (r.take 2)).toNat ≤ 65535 := by
  rw [zbec h, z2r]
  have := (r.getD 0 0).isLt
  have := (r.getD 1 0).isLt
  omega
theorem zbtt {s : ByteArray} : s = ⟨#[]⟩ ↔ bv s = [] := zbh0.symm
theorem zbba {c : BitVec 8} {n : Nat} (hn : n < 256) (h : c ≠ BitVec.ofNat 8 n) : ¬ ((c.toNat : Int) = (n : Int)) := fun q => h (by
  apply BitVec.eq_of_toNat_eq
  rw [BitVec.toNat_ofNat, Nat.mod_eq_of_lt hn]; omega)
theorem zbjf {H : Heap} {b : Nat} (h : H.get b = some (.cells true [.bool false, i64 0, .string ⟨#[]⟩])) : chk (ldn 3 (ptr b 0)) H (.agg (#[.bool false, i64 0, .string ⟨#[]⟩] : Array V)) = true := by
  have e : ldn 3 (ptr b 0) H = some (.agg (#[.bool false, i64 0, .string ⟨#[]⟩] : Array V), H) := by
    simp only [ldn, cellsAt, h]
    rfl
  unfold chk
  rw [e]
  rfl
set_option maxRecDepth 20000 in
theorem zbvh {H : Heap} (b : ByteArray) (a : Nat) (ha : a ≤ b.size) (hb : b.size ≤ 65536) (Q : V → Heap → Prop) (hQ : ∀ H', Keeps [] H H' → Q (zbts (zek ((bv b).drop a)) a) H') : wp (zr4 [.string b, i64 a]) Q H := by
  show wp (zvq (.string b) (i64 a)) Q H
  have k1 : Keeps [] H (H.push (some (.cells true [.bool false, i64 0, .string ⟨#[]⟩]))) := Keeps.push _ _ _
  have g1 : (H.push (some (.cells true [.bool false, i64 0, .string ⟨#[]⟩]))).get H.next = some (.cells true [.bool false, i64 0, .string ⟨#[]⟩]) := Heap.get_push_self _ _
  have n1 : (H.push (some (.cells true [.bool false, i64 0, .string ⟨#[]⟩]))).next = H.next + 1 := by simp
  have hsub := zbh1 (s := b) (k := .i64) (a := a) (by omega) (by omega)
  rw [Int.toNat_natCast] at hsub
  unfold zvq
  rw [zc4, zc4]
  refine (zbod (by rfl)).mpr ?_
  generalize (H.push (some (.cells true [.bool false, i64 0, .string ⟨#[]⟩]))) = H1 at *
  have hr : bv (b.extract a b.size) = (bv b).drop a := by
    rw [zgf, List.take_of_length_le (by rw [List.length_drop, zbl]; omega)]
  have hrs : (b.extract a b.size).size = b.size - a := zhf b (Nat.le_refl _)
  generalize hrest : b.extract a b.size = rest at hsub hr hrs
  rw [← hr] at hQ
  have hlen : (bv rest).length = rest.size := zbl rest
  have herr : ∀ (e : Int), zek (bv rest) = .inr e → ∀ H', Keeps [] H H' → Q (.tuple #[.agg [Value.bool false, i64 0, .string ⟨#[]⟩].toArray, i64 0, errV (some ((a : Int), e))]) H' := fun e he H' hk => by
    have := hQ H' hk
    rw [he] at this
    exact this
  have hset : Keeps [] H (H1.set H.next (some (.cells true [.bool false, i64 0, .string ⟨#[]⟩]))) := zbm k1 (.inr (Nat.le_refl _))
  have hset' : ∀ x : It, Keeps [] H (H1.set H.next (some (.cells true [.bool x.t, i64 x.n, .string x.s]))) := fun x => zbm k1 (.inr (Nat.le_refl _))
  have hk0 : ∀ (e : Int), e = 30 → zek (bv rest) = .inr e → wp (zyq [i64 a, ptr H.next 0]) (fun o H' => wp (zbn o fun vs => zb (ldn 3 (zc vs 0)) fun r0 => ret (zbe [r0, (zc vs 1), (zc vs 2)])) Q H') H1 := fun e he hd => by
    subst he
    (try simp (maxSteps := 1000000) (disch := first | omega | (simp only [Z3]; omega) | (simp; done) | assumption | decide | (refine not_not_intro ?_; assumption)) only [Z1, Z2, splice, zyq, g1, z5v, zbjf g1])
    exact herr _ hd _ hset
  match hm : bv rest with
  | [] =>
    have e0 : rest = ⟨#[]⟩ := zbtt.2 hm
    (try simp (maxSteps := 1000000) (disch := first | omega | (simp only [Z3]; omega) | (simp; done) | assumption | decide | (refine not_not_intro ?_; assumption)) only [Z1, Z2, splice, hsub, e0, g1, z5v, zbjf g1])
    exact herr 30 (by rw [hm]; rfl) _ hset
  | c :: r =>
    have hne : ¬ rest = ⟨#[]⟩ := fun q => by rw [q] at hm; cases hm
    have hl : rest.size = r.length + 1 := by rw [← hlen, hm]; rfl
    have i0 := zgj (s := rest) (k := .i64) (i := 0) (by omega) (by omega)
    rw [hm] at i0
    have i0' : zh9 (.string rest) (i64 0) = some (B c) := i0
    by_cases hc : c = 35
    · subst hc
      by_cases h8 : r.length < 8
      · have hd : zek (bv rest) = .inr 30 := by rw [hm]; simp [zek, h8]
        (try simp (maxSteps := 1000000) (disch := first | omega | (simp only [Z3]; omega) | (simp; done) | assumption | decide | (refine not_not_intro ?_; assumption)) only [Z1, Z2, splice, hsub, hne, i0', B35])
        exact hk0 _ rfl hd
      · have hs9 := zoj (s := rest) (k := .i64) (k' := .i64) (a := 1) (b := 9) (by omega) (by omega) (by omega)
        have hv : bv (rest.extract 1 9) = r.take 8 := by rw [zgf, hm]; rfl
        have hd : zek (bv rest) = .inl (⟨false, (zgs (r.take 8)).toInt, ⟨#[]⟩⟩, 9) := by rw [hm]; simp [zek, h8]
        have hu := z2p (rest.extract 1 9) (by rw [zhf _ (by omega)]; omega)
        rw [hv] at hu
        (try simp (maxSteps := 1000000) (disch := first | omega | (simp only [Z3]; omega) | (simp; done) | assumption | decide | (refine not_not_intro ?_; assumption)) only [Z1, Z2, splice, hsub, hne, i0', B35, hs9, Int.reduceToNat, hu, z27, g1])
        have := hQ _ (hset' ⟨false, (zgs (r.take 8)).toInt, ⟨#[]⟩⟩)
        rw [hd] at this
        exact this
    · have hc' := zbba (n := 35) (by omega) hc
      by_cases hc2 : c = 36
      · subst hc2
        by_cases h2 : r.length < 2
        · have hd : zek (bv rest) = .inr 30 := by rw [hm]; simp [zek, h2]
          (try simp (maxSteps := 1000000) (disch := first | omega | (simp only [Z3]; omega) | (simp; done) | assumption | decide | (refine not_not_intro ?_; assumption)) only [Z1, Z2, splice, hsub, hne, i0', B36])
          exact hk0 _ rfl hd
        · have hs3 := zoj (s := rest) (k := .i64) (k' := .i64) (a := 1) (b := 3) (by omega) (by omega) (by omega)
          have hv : bv (rest.extract 1 3) = r.take 2 := by rw [zgf, hm]; rfl
          have hu := z2p (rest.extract 1 3) (by rw [zhf _ (by omega)]; omega)
          rw [hv] at hu
          have hle := zsc (r := r) (by omega)
          have hti := zbll (zgs (r.take 2)) (by omega)
          generalize hnn : (zgs (r.take 2)).toNat = n at hle hti
          by_cases hn : r.length - 2 < n
          · have hd : zek (bv rest) = .inr 30 := by rw [hm]; simp [zek, h2, hnn, hn]
            (try simp (maxSteps := 1000000) (disch := first | omega | (simp only [Z3]; omega) | (simp; done) | assumption | decide | (refine not_not_intro ?_; assumption)) only [Z1, Z2, splice, hsub, hne, i0', B36, hs3, Int.reduceToNat, hu, z27, hti])
            exact hk0 _ rfl hd
          · have hd : zek (bv rest) = .inl (⟨true, 0, sv ((r.drop 2).take n)⟩, 3 + n) := by rw [hm]; simp [zek, h2, hnn, hn]
            have hsn := zoj (s := rest) (k := .i64) (k' := .i64) (a := 3) (b := 3 + (n : Int)) (by omega) (by omega) (by omega)
            have hvn : rest.extract (3 : Int).toNat (3 + (n : Int)).toNat = sv ((r.drop 2).take n) := by
              apply zbcg
              rw [zgf, zvp, hm, show (3 + (n : Int)).toNat - (3 : Int).toNat = n from by omega]
              rfl
            rw [hvn] at hsn
            (try simp (maxSteps := 1000000) (disch := first | omega | (simp only [Z3]; omega) | (simp; done) | assumption | decide | (refine not_not_intro ?_; assumption)) only [Z1, Z2, splice, hsub, hne, i0', B36, hs3, Int.reduceToNat, hu, z27, hti, hsn, g1])
            have := hQ _ (hset' ⟨true, 0, sv ((r.drop 2).take n)⟩)
            rw [hd] at this
            rw [show (a : Int) + 3 + (n : Int) = ((a + (3 + n) : Nat) : Int) from by push_cast; omega]
            exact this
      · have hc2' := zbba (n := 36) (by omega) hc2
        have hd : zek (bv rest) = .inr 3 := by rw [hm]; unfold zek; dsimp only; rw [if_neg hc, if_neg hc2]
        (try simp (maxSteps := 1000000) (disch := first | omega | (simp only [Z3]; omega) | (simp; done) | assumption | decide | (refine not_not_intro ?_; assumption)) only [Z1, Z2, splice, hsub, hne, i0', g1, z5v, zbjf g1])
        exact herr _ hd _ hset
end Go.AM.Cap

/- wire: the reference's item -/
set_option maxHeartbeats 16000000
namespace Go.AM.Cap
open Go.AM Go.Proofs
theorem zbor (x : BitVec 64) (y : BitVec 8) : x * (256 : BitVec 64) + y.setWidth 64 = x <<< 8 ||| y.setWidth 64 := by
  have h1 : x * (256 : BitVec 64) = x <<< 8 := by
    apply BitVec.eq_of_toNat_eq
    rw [BitVec.toNat_mul, BitVec.toNat_shiftLeft, Nat.shiftLeft_eq]
    rfl
  rw [h1, BitVec.add_eq_or_of_and_eq_zero]
  apply BitVec.eq_of_getLsbD_eq
  intro i hi
  simp only [BitVec.getLsbD_and, BitVec.getLsbD_shiftLeft, BitVec.getLsbD_setWidth, BitVec.getLsbD_zero]
  by_cases h : i < 8
  · simp [h]
  · have : y.getLsbD i = false := BitVec.getLsbD_of_ge _ _ (by omega)
    simp [this]
theorem zbed (x : BitVec 64) : zj .mul (W x) (.int .u64 256) = some (W (x * (256 : BitVec 64))) := by
  show some (Value.int .u64 (IntKind.u64.wrap ((x.toNat : Int) * 256))) = _
  rw [IntKind.wrap_u64]
  show some (Value.int .u64 _) = some (Value.int .u64 ((x * (256 : BitVec 64)).toNat : Int))
  rw [BitVec.toNat_mul]
  rfl
theorem zbgu (l : List (BitVec 8)) (i : Nat) (h : i < l.length) : zgs (l.take (i + 1)) = zgs (l.take i) * (256 : BitVec 64) + (l.getD i 0).setWidth 64 := by
  rw [zbor]
  unfold zgs
  rw [List.take_succ, List.getElem?_eq_getElem h, List.getD_eq_getElem?_getD, List.getElem?_eq_getElem h, List.foldl_append]
  rfl
set_option maxRecDepth 20000 in
theorem zbtu {H : Heap} (b : ByteArray) (a : Nat) (ha : a ≤ b.size) (hb : b.size ≤ 65536) (Q : V → Heap → Prop) (hQ : ∀ H', Keeps [] H H' → Q (zbnq (zek ((bv b).drop a)) a) H') : wp (zp9 [.string b, i64 a]) Q H := by
  show wp (zp8 (.string b) (i64 a)) Q H
  have k1 : Keeps [] H ((H.push (some (.cells true [.bool false, i64 0, .string ⟨#[]⟩]))).push (some (.cells true [.bool false, i64 0, .string ⟨#[]⟩]))) := zq (Keeps.push _ _ _)
  have g1 : ((H.push (some (.cells true [.bool false, i64 0, .string ⟨#[]⟩]))).push (some (.cells true [.bool false, i64 0, .string ⟨#[]⟩]))).get H.next = some (.cells true [.bool false, i64 0, .string ⟨#[]⟩]) := by
    rw [Heap.get_push_lt (by simp)]; exact Heap.get_push_self _ _
  have g2 : ((H.push (some (.cells true [.bool false, i64 0, .string ⟨#[]⟩]))).push (some (.cells true [.bool false, i64 0, .string ⟨#[]⟩]))).get (H.next + 1) = some (.cells true [.bool false, i64 0, .string ⟨#[]⟩]) := Heap.get_push_eq (by simp)
  have n1 : ((H.push (some (.cells true [.bool false, i64 0, .string ⟨#[]⟩]))).push (some (.cells true [.bool false, i64 0, .string ⟨#[]⟩]))).next = H.next + 2 := by simp
  have hlen : (bv b).length = b.size := zbl b
  have herr : ∀ (e : Int), zek ((bv b).drop a) = .inr e → ∀ H', Keeps [] H H' → Q (.tuple #[.agg [Value.bool false, i64 0, .string ⟨#[]⟩].toArray, i64 0, i64 e]) H' := fun e he H' hk => by
    have := hQ H' hk
    rw [he] at this
    exact this
  match hm : (bv b).drop a with
  | [] =>
    have e0 : b.size ≤ a := by
      have := congrArg List.length hm
      rw [List.length_drop, hlen] at this
      simp at this; omega
    have hset : Keeps [] H (((H.push (some (.cells true [.bool false, i64 0, .string ⟨#[]⟩]))).push (some (.cells true [.bool false, i64 0, .string ⟨#[]⟩]))).set H.next (some (.cells true [.bool false, i64 0, .string ⟨#[]⟩]))) := zbm k1 (.inr (Nat.le_refl _))
    (try simp (maxSteps := 1000000) (disch := first | omega | (simp only [Z3]; omega) | (simp; done) | assumption | decide | (refine not_not_intro ?_; assumption)) only [Z1, Z2, splice, zp8])
    refine herr 30 (by rw [hm]; rfl) _ ?_
    (repeat (first | exact Keeps.refl _ _ | assumption | apply zq | refine zbm ?_ (by simp; omega)))
  | c :: r =>
    have hl : b.size = a + (r.length + 1) := by
      have := congrArg List.length hm
      rw [List.length_drop, hlen] at this
      simp at this; omega
    have hat : ∀ j, (bv b).getD (a + j) 0 = (c :: r).getD j 0 := fun j => by
      rw [← hm, List.getD_eq_getElem?_getD, List.getD_eq_getElem?_getD, List.getElem?_drop]
    have i0 := zgj (s := b) (k := .i64) (i := a) (by omega) (by omega)
    rw [Int.toNat_natCast, show (bv b).getD a 0 = c from hat 0] at i0
    have step : wp (zhm [.string b, i64 a, ptr H.next 0, ptr (H.next + 1) 0]) (fun o H' => wp (zbn o fun vs => zb (ldn 3 (zc vs 0)) fun r0 => ret (zbe [r0, (zc vs 1), (zc vs 2)])) Q H') ((H.push (some (.cells true [.bool false, i64 0, .string ⟨#[]⟩]))).push (some (.cells true [.bool false, i64 0, .string ⟨#[]⟩]))) := by
      generalize ((H.push (some (.cells true [.bool false, i64 0, .string ⟨#[]⟩]))).push (some (.cells true [.bool false, i64 0, .string ⟨#[]⟩]))) = H1 at *
      have hset : Keeps [] H (H1.set H.next (some (.cells true [.bool false, i64 0, .string ⟨#[]⟩]))) := zbm k1 (.inr (Nat.le_refl _))
      have hset' : ∀ x : It, Keeps [] H (H1.set H.next (some (.cells true [.bool x.t, i64 x.n, .string x.s]))) := fun x => zbm k1 (.inr (Nat.le_refl _))
      by_cases hc : c = 35
      · subst hc
        by_cases h8 : r.length < 8
        · have hd : zek ((bv b).drop a) = .inr 30 := by rw [hm]; simp [zek, h8]
          (try simp (maxSteps := 1000000) (disch := first | omega | (simp only [Z3]; omega) | (simp; done) | assumption | decide | (refine not_not_intro ?_; assumption)) only [Z1, Z2, splice, zhm, i0, B35, g1, g2])
          exact herr _ hd _ hset
        have hd : zek ((bv b).drop a) = .inl (⟨false, (zgs (r.take 8)).toInt, ⟨#[]⟩⟩, 9) := by rw [hm]; simp [zek, h8]
        (try simp (maxSteps := 1000000) (disch := first | omega | (simp only [Z3]; omega) | (simp; done) | assumption | decide | (refine not_not_intro ?_; assumption)) only [Z1, Z2, splice, zhm, i0, B35, z4k])
        refine zb9 (Inv := fun k vs H' => ∃ (j : Nat), k = 8 - j ∧ j ≤ 8 ∧ vs = [.string b, i64 a, ptr H.next 0, W (zgs (r.take j)), i64 (1 + (j : Int))] ∧ H' = H1) (n := 8) (by unfold zcb; omega)
          ⟨0, by omega, by omega, rfl, rfl⟩ ?_
        rintro k vs H' ⟨j, hk, hj, rfl, he⟩
        rw [he]; clear he H'
        by_cases hlt : j < 8
        · have ij := zgj (s := b) (k := .i64) (i := (a : Int) + (1 + (j : Int))) (by omega) (by omega)
          rw [show ((a : Int) + (1 + (j : Int))).toNat = a + (1 + j) from by omega, hat, show (35 :: r).getD (1 + j) 0 = r.getD j 0 from by rw [Nat.add_comm]; rfl] at ij
          (try simp (maxSteps := 1000000) (disch := first | omega | (simp only [Z3]; omega) | (simp; done) | assumption | decide | (refine not_not_intro ?_; assumption)) only [Z1, Z2, splice, zwp, z4i, zbed, ij, zbtd, zboq, z4h])
          refine ⟨8 - (j + 1), by omega, j + 1, rfl, by omega, ?_⟩
          rw [zbgu r j (by omega)]
          exact ⟨by push_cast; rw [Int.add_assoc], trivial⟩
        · have : j = 8 := by omega
          subst this
          (try simp (maxSteps := 1000000) (disch := first | omega | (simp only [Z3]; omega) | (simp; done) | assumption | decide | (refine not_not_intro ?_; assumption)) only [Z1, Z2, splice, zwp, z4j, z27, g1])
          have := hQ _ (hset' ⟨false, (zgs (r.take 8)).toInt, ⟨#[]⟩⟩)
          rw [hm] at this
          rw [hm] at hd
          rw [hd] at this
          exact this
      · have hc' := zbba (n := 35) (by omega) hc
        by_cases hc2 : c = 36
        · subst hc2
          by_cases h2 : r.length < 2
          · have hd : zek ((bv b).drop a) = .inr 30 := by rw [hm]; simp [zek, h2]
            (try simp (maxSteps := 1000000) (disch := first | omega | (simp only [Z3]; omega) | (simp; done) | assumption | decide | (refine not_not_intro ?_; assumption)) only [Z1, Z2, splice, zhm, i0, B36, znr, zrt, g1, g2])
            exact herr _ hd _ hset
          have i1 := zgj (s := b) (k := .i64) (i := (a : Int) + 1) (by omega) (by omega)
          have i2 := zgj (s := b) (k := .i64) (i := (a : Int) + 2) (by omega) (by omega)
          rw [show ((a : Int) + 1).toNat = a + 1 from by omega, hat, show (36 :: r).getD 1 0 = r.getD 0 0 from rfl] at i1
          rw [show ((a : Int) + 2).toNat = a + 2 from by omega, hat, show (36 :: r).getD 2 0 = r.getD 1 0 from rfl] at i2
          have hle := zsc (r := r) (by omega)
          have hnv : (zgs (r.take 2)).toNat = (r.getD 0 0).toNat * 256 + (r.getD 1 0).toNat := by rw [zbec (by omega), z2r]
          have hx0 := (r.getD 0 0).isLt
          have hx1 := (r.getD 1 0).isLt
          generalize r.getD 0 0 = x0 at *
          generalize r.getD 1 0 = x1 at *
          have c0 : cvi .i64 (B x0) = some (i64 x0.toNat) := by rw [zyk, i64_in (by omega) (by omega)]
          have c1 : cvi .i64 (B x1) = some (i64 x1.toNat) := by rw [zyk, i64_in (by omega) (by omega)]
          generalize hnn : (zgs (r.take 2)).toNat = n at hle hnv
          by_cases hn : r.length - 2 < n
          · have hd : zek ((bv b).drop a) = .inr 30 := by rw [hm]; simp [zek, h2, hnn, hn]
            (try simp (maxSteps := 1000000) (disch := first | omega | (simp only [Z3]; omega) | (simp; done) | assumption | decide | (refine not_not_intro ?_; assumption)) only [Z1, Z2, splice, zhm, i0, B36, znr, zrt, zwq, i1, i2, c0, c1, g1, g2])
            exact herr _ hd _ hset
          · have hd : zek ((bv b).drop a) = .inl (⟨true, 0, sv ((r.drop 2).take n)⟩, 3 + n) := by rw [hm]; simp [zek, h2, hnn, hn]
            have e1 : (x0.toNat : Int) * 256 + (x1.toNat : Int) = (n : Int) := by omega
            have hsn := zoj (s := b) (k := .i64) (k' := .i64) (a := (a : Int) + 3) (b := (a : Int) + 3 + (n : Int)) (by omega) (by omega) (by omega)
            have hvn : b.extract ((a : Int) + 3).toNat ((a : Int) + 3 + (n : Int)).toNat = sv ((r.drop 2).take n) := by
              apply zbcg
              rw [zgf, zvp, show ((a : Int) + 3).toNat = a + 3 from by omega, show ((a : Int) + 3 + (n : Int)).toNat - (a + 3) = n from by omega, ← List.drop_drop, hm]
              rfl
            rw [hvn] at hsn
            (try simp (maxSteps := 1000000) (disch := first | omega | (simp only [Z3]; omega) | (simp; done) | assumption | decide | (refine not_not_intro ?_; assumption)) only [Z1, Z2, splice, zhm, i0, B36, znr, zrt, zwq, i1, i2, c0, c1, e1, z4l, hsn, g1])
            have := hQ _ (hset' ⟨true, 0, sv ((r.drop 2).take n)⟩)
            rw [hm] at this
            rw [hm] at hd
            rw [hd] at this
            rw [show (a : Int) + 3 + (n : Int) = ((a + (3 + n) : Nat) : Int) from by push_cast; omega]
            exact this
        · have hc2' := zbba (n := 36) (by omega) hc2
          have hd : zek ((bv b).drop a) = .inr 3 := by rw [hm]; unfold zek; dsimp only; rw [if_neg hc, if_neg hc2]
          (try simp (maxSteps := 1000000) (disch := first | omega | (simp only [Z3]; omega) | (simp; done) | assumption | decide | (refine not_not_intro ?_; assumption)) only [Z1, Z2, splice, zhm, i0, znr, g1, g2])
          exact herr _ hd _ hset
    (try simp (maxSteps := 1000000) (disch := first | omega | (simp only [Z3]; omega) | (simp; done) | assumption | decide | (refine not_not_intro ?_; assumption)) only [Z1, Z2, splice, zp8])
    exact step
end Go.AM.Cap
