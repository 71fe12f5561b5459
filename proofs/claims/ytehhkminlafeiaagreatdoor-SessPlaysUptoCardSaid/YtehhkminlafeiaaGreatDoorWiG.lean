import Derived.Test.YtehhkminlafeiaaGreatDoorWiF
import Derived.Test.YtehhkminlafeiaaGreatDoorAmOpenF
set_option linter.all false
/- wire: an item that is read -/
set_option maxHeartbeats 16000000
namespace Go.AM.Cap
open Go.AM Go.Proofs
def ze5 : List (BitVec 8) → (It × Nat) ⊕ Int
  | [] => .inr 30
  | c :: r => if c = 35 then (if r.length < 8 then .inr 30 else .inl (⟨false, (zht (r.take 8)).toInt, ⟨#[]⟩⟩, 9))
    else if c = 36 then (if r.length < 2 then .inr 30 else if r.length - 2 < (zht (r.take 2)).toNat then .inr 30 else .inl (⟨true, 0, sv ((r.drop 2).take (zht (r.take 2)).toNat)⟩, 3 + (zht (r.take 2)).toNat))
    else .inr 3
def zbyw (d : (It × Nat) ⊕ Int) (a : Nat) : V := match d with
  | .inl (x, n) => .tuple #[.agg (Flat.enc x).toArray, i64 ((a + n : Nat) : Int), .nilIface]
  | .inr e => .tuple #[.agg (Flat.enc (default : It)).toArray, i64 0, errV (some ((a : Int), e))]
def zbta (d : (It × Nat) ⊕ Int) (a : Nat) : V := match d with
  | .inl (x, n) => .tuple #[.agg (Flat.enc x).toArray, i64 ((a + n : Nat) : Int), i64 0]
  | .inr e => .tuple #[.agg (Flat.enc (default : It)).toArray, i64 0, i64 e]
theorem z79 (x y : BitVec 8) : (zht [x, y]).toNat = x.toNat * 256 + y.toNat := by
  have e : zht [x, y] = BitVec.ofNat 64 (x.toNat * 256 + y.toNat) := by
    show ((0 : BitVec 64) <<< 8 ||| x.setWidth 64) <<< 8 ||| y.setWidth 64 = _
    revert x y
    have key : ∀ x y : BitVec 8, ((0 : BitVec 64) <<< 8 ||| x.setWidth 64) <<< 8 ||| y.setWidth 64 = BitVec.ofNat 64 (x.toNat * 256 + y.toNat) := by
      intro x y
      apply BitVec.eq_of_toNat_eq
      have hx := x.isLt
      have hy := y.isLt
      rw [BitVec.toNat_or, BitVec.toNat_shiftLeft, BitVec.toNat_or, BitVec.toNat_setWidth, BitVec.toNat_setWidth, BitVec.toNat_ofNat, BitVec.toNat_shiftLeft]
      have e1 : x.toNat % 2 ^ 64 = x.toNat := Nat.mod_eq_of_lt (by omega)
      have e2 : y.toNat % 2 ^ 64 = y.toNat := Nat.mod_eq_of_lt (by omega)
      rw [e1, e2]
      have e3 : ((0 : BitVec 64).toNat <<< 8 % 2 ^ 64 ||| x.toNat) = x.toNat := by simp
      rw [e3]
      have e4 : x.toNat <<< 8 % 2 ^ 64 = x.toNat <<< 8 := Nat.mod_eq_of_lt (by rw [Nat.shiftLeft_eq]; omega)
      rw [e4, ← Nat.shiftLeft_add_eq_or_of_lt (by omega), Nat.shiftLeft_eq]
      omega
    exact key
  rw [e, BitVec.toNat_ofNat]
  have hx := x.isLt
  have hy := y.isLt
  omega
theorem zbq0 (x : BitVec 64) (h : x.toNat ≤ 1000000) : x.toInt = (x.toNat : Int) := by
  rw [BitVec.toInt_eq_toNat_of_lt (by omega)]
theorem zbj4 {r : List (BitVec 8)} (h : 2 ≤ r.length) : r.take 2 = [r.getD 0 0, r.getD 1 0] := by
  match r, h with
  | a :: b :: r, _ => rfl
theorem zvm {r : List (BitVec 8)} (h : 2 ≤ r.length) : (zht (r.take 2)).toNat ≤ 65535 := by
  rw [zbj4 h, z79]
  have := (r.getD 0 0).isLt
  have := (r.getD 1 0).isLt
  omega
theorem zbyx {s : ByteArray} : s = ⟨#[]⟩ ↔ bv s = [] := zbx7.symm
theorem zbhe {c : BitVec 8} {n : Nat} (hn : n < 256) (h : c ≠ BitVec.ofNat 8 n) : ¬ ((c.toNat : Int) = (n : Int)) := fun q => h (by
  apply BitVec.eq_of_toNat_eq
  rw [BitVec.toNat_ofNat, Nat.mod_eq_of_lt hn]; omega)
theorem zboj {H : Heap} {b : Nat} (h : H.get b = some (.cells true [.bool false, i64 0, .string ⟨#[]⟩])) : chk (ldn 3 (ptr b 0)) H (.agg (#[.bool false, i64 0, .string ⟨#[]⟩] : Array V)) = true := by
  have e : ldn 3 (ptr b 0) H = some (.agg (#[.bool false, i64 0, .string ⟨#[]⟩] : Array V), H) := by
    simp only [ldn, cellsAt, h]
    rfl
  unfold chk
  rw [e]
  rfl
set_option maxRecDepth 20000 in
theorem zb03 {H : Heap} (b : ByteArray) (a : Nat) (ha : a ≤ b.size) (hb : b.size ≤ 65536) (Q : V → Heap → Prop) (hQ : ∀ H', Keeps [] H H' → Q (zbyw (ze5 ((bv b).drop a)) a) H') : wp (zvf [.string b, i64 a]) Q H := by
  show wp (z0p (.string b) (i64 a)) Q H
  have k1 : Keeps [] H (H.push (some (.cells true [.bool false, i64 0, .string ⟨#[]⟩]))) := Keeps.push _ _ _
  have g1 : (H.push (some (.cells true [.bool false, i64 0, .string ⟨#[]⟩]))).get H.next = some (.cells true [.bool false, i64 0, .string ⟨#[]⟩]) := Heap.get_push_self _ _
  have n1 : (H.push (some (.cells true [.bool false, i64 0, .string ⟨#[]⟩]))).next = H.next + 1 := by simp
  have hsub := zbg7 (s := b) (k := .i64) (a := a) (by omega) (by omega)
  rw [Int.toNat_natCast] at hsub
  unfold z0p
  rw [zk, zk]
  refine (z8n (by rfl)).mpr ?_
  generalize (H.push (some (.cells true [.bool false, i64 0, .string ⟨#[]⟩]))) = H1 at *
  have hr : bv (b.extract a b.size) = (bv b).drop a := by
    rw [zi4, List.take_of_length_le (by rw [List.length_drop, zb7]; omega)]
  have hrs : (b.extract a b.size).size = b.size - a := zr9 b (Nat.le_refl _)
  generalize hrest : b.extract a b.size = rest at hsub hr hrs
  rw [← hr] at hQ
  have hlen : (bv rest).length = rest.size := zb7 rest
  have herr : ∀ (e : Int), ze5 (bv rest) = .inr e → ∀ H', Keeps [] H H' → Q (.tuple #[.agg [Value.bool false, i64 0, .string ⟨#[]⟩].toArray, i64 0, errV (some ((a : Int), e))]) H' := fun e he H' hk => by
    have := hQ H' hk
    rw [he] at this
    exact this
  have hset : Keeps [] H (H1.set H.next (some (.cells true [.bool false, i64 0, .string ⟨#[]⟩]))) := zfj k1 (.inr (Nat.le_refl _))
  have hset' : ∀ x : It, Keeps [] H (H1.set H.next (some (.cells true [.bool x.t, i64 x.n, .string x.s]))) := fun x => zfj k1 (.inr (Nat.le_refl _))
  have hk0 : ∀ (e : Int), e = 30 → ze5 (bv rest) = .inr e → wp (z4m [i64 a, ptr H.next 0]) (fun o H' => wp (zcf o fun vs => zb (ldn 3 (zc vs 0)) fun r0 => ret (zca [r0, (zc vs 1), (zc vs 2)])) Q H') H1 := fun e he hd => by
    subst he
    (try simp (maxSteps := 1000000) (disch := first | omega | (simp only [Z3]; omega) | (simp; done) | assumption | decide | (refine not_not_intro ?_; assumption)) only [Z1, Z2, splice, z4m, g1, zbbf, zboj g1])
    exact herr _ hd _ hset
  match hm : bv rest with
  | [] =>
    have e0 : rest = ⟨#[]⟩ := zbyx.2 hm
    (try simp (maxSteps := 1000000) (disch := first | omega | (simp only [Z3]; omega) | (simp; done) | assumption | decide | (refine not_not_intro ?_; assumption)) only [Z1, Z2, splice, hsub, e0, g1, zbbf, zboj g1])
    exact herr 30 (by rw [hm]; rfl) _ hset
  | c :: r =>
    have hne : ¬ rest = ⟨#[]⟩ := fun q => by rw [q] at hm; cases hm
    have hl : rest.size = r.length + 1 := by rw [← hlen, hm]; rfl
    have i0 := zoy (s := rest) (k := .i64) (i := 0) (by omega) (by omega)
    rw [hm] at i0
    have i0' : zk1 (.string rest) (i64 0) = some (B c) := i0
    by_cases hc : c = 35
    · subst hc
      by_cases h8 : r.length < 8
      · have hd : ze5 (bv rest) = .inr 30 := by rw [hm]; simp [ze5, h8]
        (try simp (maxSteps := 1000000) (disch := first | omega | (simp only [Z3]; omega) | (simp; done) | assumption | decide | (refine not_not_intro ?_; assumption)) only [Z1, Z2, splice, hsub, hne, i0', B35])
        exact hk0 _ rfl hd
      · have hs9 := z8o (s := rest) (k := .i64) (k' := .i64) (a := 1) (b := 9) (by omega) (by omega) (by omega)
        have hv : bv (rest.extract 1 9) = r.take 8 := by rw [zi4, hm]; rfl
        have hd : ze5 (bv rest) = .inl (⟨false, (zht (r.take 8)).toInt, ⟨#[]⟩⟩, 9) := by rw [hm]; simp [ze5, h8]
        have hu := z78 (rest.extract 1 9) (by rw [zr9 _ (by omega)]; omega)
        rw [hv] at hu
        (try simp (maxSteps := 1000000) (disch := first | omega | (simp only [Z3]; omega) | (simp; done) | assumption | decide | (refine not_not_intro ?_; assumption)) only [Z1, Z2, splice, hsub, hne, i0', B35, hs9, Int.reduceToNat, hu, zbhb, g1])
        have := hQ _ (hset' ⟨false, (zht (r.take 8)).toInt, ⟨#[]⟩⟩)
        rw [hd] at this
        exact this
    · have hc' := zbhe (n := 35) (by omega) hc
      by_cases hc2 : c = 36
      · subst hc2
        by_cases h2 : r.length < 2
        · have hd : ze5 (bv rest) = .inr 30 := by rw [hm]; simp [ze5, h2]
          (try simp (maxSteps := 1000000) (disch := first | omega | (simp only [Z3]; omega) | (simp; done) | assumption | decide | (refine not_not_intro ?_; assumption)) only [Z1, Z2, splice, hsub, hne, i0', B36])
          exact hk0 _ rfl hd
        · have hs3 := z8o (s := rest) (k := .i64) (k' := .i64) (a := 1) (b := 3) (by omega) (by omega) (by omega)
          have hv : bv (rest.extract 1 3) = r.take 2 := by rw [zi4, hm]; rfl
          have hu := z78 (rest.extract 1 3) (by rw [zr9 _ (by omega)]; omega)
          rw [hv] at hu
          have hle := zvm (r := r) (by omega)
          have hti := zbq0 (zht (r.take 2)) (by omega)
          generalize hnn : (zht (r.take 2)).toNat = n at hle hti
          by_cases hn : r.length - 2 < n
          · have hd : ze5 (bv rest) = .inr 30 := by rw [hm]; simp [ze5, h2, hnn, hn]
            (try simp (maxSteps := 1000000) (disch := first | omega | (simp only [Z3]; omega) | (simp; done) | assumption | decide | (refine not_not_intro ?_; assumption)) only [Z1, Z2, splice, hsub, hne, i0', B36, hs3, Int.reduceToNat, hu, zbhb, hti])
            exact hk0 _ rfl hd
          · have hd : ze5 (bv rest) = .inl (⟨true, 0, sv ((r.drop 2).take n)⟩, 3 + n) := by rw [hm]; simp [ze5, h2, hnn, hn]
            have hsn := z8o (s := rest) (k := .i64) (k' := .i64) (a := 3) (b := 3 + (n : Int)) (by omega) (by omega) (by omega)
            have hvn : rest.extract (3 : Int).toNat (3 + (n : Int)).toNat = sv ((r.drop 2).take n) := by
              apply z1g
              rw [zi4, zlq, hm, show (3 + (n : Int)).toNat - (3 : Int).toNat = n from by omega]
              rfl
            rw [hvn] at hsn
            (try simp (maxSteps := 1000000) (disch := first | omega | (simp only [Z3]; omega) | (simp; done) | assumption | decide | (refine not_not_intro ?_; assumption)) only [Z1, Z2, splice, hsub, hne, i0', B36, hs3, Int.reduceToNat, hu, zbhb, hti, hsn, g1])
            have := hQ _ (hset' ⟨true, 0, sv ((r.drop 2).take n)⟩)
            rw [hd] at this
            rw [show (a : Int) + 3 + (n : Int) = ((a + (3 + n) : Nat) : Int) from by push_cast; omega]
            exact this
      · have hc2' := zbhe (n := 36) (by omega) hc2
        have hd : ze5 (bv rest) = .inr 3 := by rw [hm]; unfold ze5; dsimp only; rw [if_neg hc, if_neg hc2]
        (try simp (maxSteps := 1000000) (disch := first | omega | (simp only [Z3]; omega) | (simp; done) | assumption | decide | (refine not_not_intro ?_; assumption)) only [Z1, Z2, splice, hsub, hne, i0', g1, zbbf, zboj g1])
        exact herr _ hd _ hset
end Go.AM.Cap
