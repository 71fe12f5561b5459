import Derived.Test.YtehhkminlafeiaaGreatDoorWiG
import Derived.Test.YtehhkminlafeiaaGreatDoorAmOpenF
set_option linter.all false
/- wire: the reference's item -/
set_option maxHeartbeats 16000000
namespace Go.AM.Cap
open Go.AM Go.Proofs
theorem zbul (x : BitVec 64) (y : BitVec 8) : x * (256 : BitVec 64) + y.setWidth 64 = x <<< 8 ||| y.setWidth 64 := by
  have h1 : x * (256 : BitVec 64) = x <<< 8 := by
    apply BitVec.eq_of_toNat_eq
    rw [BitVec.toNat_mul, BitVec.toNat_shiftLeft, Nat.shiftLeft_eq]
    rfl
  rw [h1, BitVec.add_eq_or_of_and_eq_zero]
  apply BitVec.eq_of_getLsbD_eq
  intro i hi
  simp only [BitVec.getLsbD_and, BitVec.getLsbD_shiftLeft, BitVec.getLsbD_setWidth, BitVec.getLsbD_zero]
  by_cases h : i < 8
  · simp [h]
  · have : y.getLsbD i = false := BitVec.getLsbD_of_ge _ _ (by omega)
    simp [this]
theorem zbtb (x : BitVec 64) : zj .mul (W x) (.int .u64 256) = some (W (x * (256 : BitVec 64))) := by
  show some (Value.int .u64 (IntKind.u64.wrap ((x.toNat : Int) * 256))) = _
  rw [IntKind.wrap_u64]
  show some (Value.int .u64 _) = some (Value.int .u64 ((x * (256 : BitVec 64)).toNat : Int))
  rw [BitVec.toNat_mul]
  rfl
theorem zbv3 (l : List (BitVec 8)) (i : Nat) (h : i < l.length) : zht (l.take (i + 1)) = zht (l.take i) * (256 : BitVec 64) + (l.getD i 0).setWidth 64 := by
  rw [zbul]
  unfold zht
  rw [List.take_succ, List.getElem?_eq_getElem h, List.getD_eq_getElem?_getD, List.getElem?_eq_getElem h, List.foldl_append]
  rfl
set_option maxRecDepth 20000 in
theorem zbyy {H : Heap} (b : ByteArray) (a : Nat) (ha : a ≤ b.size) (hb : b.size ≤ 65536) (Q : V → Heap → Prop) (hQ : ∀ H', Keeps [] H H' → Q (zbta (ze5 ((bv b).drop a)) a) H') : wp (ztc [.string b, i64 a]) Q H := by
  show wp (ztb (.string b) (i64 a)) Q H
  have k1 : Keeps [] H ((H.push (some (.cells true [.bool false, i64 0, .string ⟨#[]⟩]))).push (some (.cells true [.bool false, i64 0, .string ⟨#[]⟩]))) := zh8 (Keeps.push _ _ _)
  have g1 : ((H.push (some (.cells true [.bool false, i64 0, .string ⟨#[]⟩]))).push (some (.cells true [.bool false, i64 0, .string ⟨#[]⟩]))).get H.next = some (.cells true [.bool false, i64 0, .string ⟨#[]⟩]) := by
    rw [Heap.get_push_lt (by simp)]; exact Heap.get_push_self _ _
  have g2 : ((H.push (some (.cells true [.bool false, i64 0, .string ⟨#[]⟩]))).push (some (.cells true [.bool false, i64 0, .string ⟨#[]⟩]))).get (H.next + 1) = some (.cells true [.bool false, i64 0, .string ⟨#[]⟩]) := Heap.get_push_eq (by simp)
  have n1 : ((H.push (some (.cells true [.bool false, i64 0, .string ⟨#[]⟩]))).push (some (.cells true [.bool false, i64 0, .string ⟨#[]⟩]))).next = H.next + 2 := by simp
  have hlen : (bv b).length = b.size := zb7 b
  have herr : ∀ (e : Int), ze5 ((bv b).drop a) = .inr e → ∀ H', Keeps [] H H' → Q (.tuple #[.agg [Value.bool false, i64 0, .string ⟨#[]⟩].toArray, i64 0, i64 e]) H' := fun e he H' hk => by
    have := hQ H' hk
    rw [he] at this
    exact this
  match hm : (bv b).drop a with
  | [] =>
    have e0 : b.size ≤ a := by
      have := congrArg List.length hm
      rw [List.length_drop, hlen] at this
      simp at this; omega
    have hset : Keeps [] H (((H.push (some (.cells true [.bool false, i64 0, .string ⟨#[]⟩]))).push (some (.cells true [.bool false, i64 0, .string ⟨#[]⟩]))).set H.next (some (.cells true [.bool false, i64 0, .string ⟨#[]⟩]))) := zfj k1 (.inr (Nat.le_refl _))
    (try simp (maxSteps := 1000000) (disch := first | omega | (simp only [Z3]; omega) | (simp; done) | assumption | decide | (refine not_not_intro ?_; assumption)) only [Z1, Z2, splice, ztb])
    refine herr 30 (by rw [hm]; rfl) _ ?_
    (repeat (first | exact Keeps.refl _ _ | assumption | apply zh8 | refine zfj ?_ (by simp; omega)))
  | c :: r =>
    have hl : b.size = a + (r.length + 1) := by
      have := congrArg List.length hm
      rw [List.length_drop, hlen] at this
      simp at this; omega
    have hat : ∀ j, (bv b).getD (a + j) 0 = (c :: r).getD j 0 := fun j => by
      rw [← hm, List.getD_eq_getElem?_getD, List.getD_eq_getElem?_getD, List.getElem?_drop]
    have i0 := zoy (s := b) (k := .i64) (i := a) (by omega) (by omega)
    rw [Int.toNat_natCast, show (bv b).getD a 0 = c from hat 0] at i0
    have step : wp (zir [.string b, i64 a, ptr H.next 0, ptr (H.next + 1) 0]) (fun o H' => wp (zcf o fun vs => zb (ldn 3 (zc vs 0)) fun r0 => ret (zca [r0, (zc vs 1), (zc vs 2)])) Q H') ((H.push (some (.cells true [.bool false, i64 0, .string ⟨#[]⟩]))).push (some (.cells true [.bool false, i64 0, .string ⟨#[]⟩]))) := by
      generalize ((H.push (some (.cells true [.bool false, i64 0, .string ⟨#[]⟩]))).push (some (.cells true [.bool false, i64 0, .string ⟨#[]⟩]))) = H1 at *
      have hset : Keeps [] H (H1.set H.next (some (.cells true [.bool false, i64 0, .string ⟨#[]⟩]))) := zfj k1 (.inr (Nat.le_refl _))
      have hset' : ∀ x : It, Keeps [] H (H1.set H.next (some (.cells true [.bool x.t, i64 x.n, .string x.s]))) := fun x => zfj k1 (.inr (Nat.le_refl _))
      by_cases hc : c = 35
      · subst hc
        by_cases h8 : r.length < 8
        · have hd : ze5 ((bv b).drop a) = .inr 30 := by rw [hm]; simp [ze5, h8]
          (try simp (maxSteps := 1000000) (disch := first | omega | (simp only [Z3]; omega) | (simp; done) | assumption | decide | (refine not_not_intro ?_; assumption)) only [Z1, Z2, splice, zir, i0, B35, g1, g2])
          exact herr _ hd _ hset
        have hd : ze5 ((bv b).drop a) = .inl (⟨false, (zht (r.take 8)).toInt, ⟨#[]⟩⟩, 9) := by rw [hm]; simp [ze5, h8]
        (try simp (maxSteps := 1000000) (disch := first | omega | (simp only [Z3]; omega) | (simp; done) | assumption | decide | (refine not_not_intro ?_; assumption)) only [Z1, Z2, splice, zir, i0, B35, zbab])
        refine zbt (Inv := fun k vs H' => ∃ (j : Nat), k = 8 - j ∧ j ≤ 8 ∧ vs = [.string b, i64 a, ptr H.next 0, W (zht (r.take j)), i64 (1 + (j : Int))] ∧ H' = H1) (n := 8) (by unfold zcc; omega)
          ⟨0, by omega, by omega, rfl, rfl⟩ ?_
        rintro k vs H' ⟨j, hk, hj, rfl, he⟩
        rw [he]; clear he H'
        by_cases hlt : j < 8
        · have ij := zoy (s := b) (k := .i64) (i := (a : Int) + (1 + (j : Int))) (by omega) (by omega)
          rw [show ((a : Int) + (1 + (j : Int))).toNat = a + (1 + j) from by omega, hat, show (35 :: r).getD (1 + j) 0 = r.getD j 0 from by rw [Nat.add_comm]; rfl] at ij
          (try simp (maxSteps := 1000000) (disch := first | omega | (simp only [Z3]; omega) | (simp; done) | assumption | decide | (refine not_not_intro ?_; assumption)) only [Z1, Z2, splice, z13, z99, zbtb, ij, zb13, zb00, z98])
          refine ⟨8 - (j + 1), by omega, j + 1, rfl, by omega, ?_⟩
          rw [zbv3 r j (by omega)]
          exact ⟨by push_cast; rw [Int.add_assoc], trivial⟩
        · have : j = 8 := by omega
          subst this
          (try simp (maxSteps := 1000000) (disch := first | omega | (simp only [Z3]; omega) | (simp; done) | assumption | decide | (refine not_not_intro ?_; assumption)) only [Z1, Z2, splice, z13, zbaa, zbhb, g1])
          have := hQ _ (hset' ⟨false, (zht (r.take 8)).toInt, ⟨#[]⟩⟩)
          rw [hm] at this
          rw [hm] at hd
          rw [hd] at this
          exact this
      · have hc' := zbhe (n := 35) (by omega) hc
        by_cases hc2 : c = 36
        · subst hc2
          by_cases h2 : r.length < 2
          · have hd : ze5 ((bv b).drop a) = .inr 30 := by rw [hm]; simp [ze5, h2]
            (try simp (maxSteps := 1000000) (disch := first | omega | (simp only [Z3]; omega) | (simp; done) | assumption | decide | (refine not_not_intro ?_; assumption)) only [Z1, Z2, splice, zir, i0, B36, zqe, zu0, g1, g2])
            exact herr _ hd _ hset
          have i1 := zoy (s := b) (k := .i64) (i := (a : Int) + 1) (by omega) (by omega)
          have i2 := zoy (s := b) (k := .i64) (i := (a : Int) + 2) (by omega) (by omega)
          rw [show ((a : Int) + 1).toNat = a + 1 from by omega, hat, show (36 :: r).getD 1 0 = r.getD 0 0 from rfl] at i1
          rw [show ((a : Int) + 2).toNat = a + 2 from by omega, hat, show (36 :: r).getD 2 0 = r.getD 1 0 from rfl] at i2
          have hle := zvm (r := r) (by omega)
          have hnv : (zht (r.take 2)).toNat = (r.getD 0 0).toNat * 256 + (r.getD 1 0).toNat := by rw [zbj4 (by omega), z79]
          have hx0 := (r.getD 0 0).isLt
          have hx1 := (r.getD 1 0).isLt
          generalize r.getD 0 0 = x0 at *
          generalize r.getD 1 0 = x1 at *
          have c0 : cvi .i64 (B x0) = some (i64 x0.toNat) := by rw [zbg8, i64_in (by omega) (by omega)]
          have c1 : cvi .i64 (B x1) = some (i64 x1.toNat) := by rw [zbg8, i64_in (by omega) (by omega)]
          generalize hnn : (zht (r.take 2)).toNat = n at hle hnv
          by_cases hn : r.length - 2 < n
          · have hd : ze5 ((bv b).drop a) = .inr 30 := by rw [hm]; simp [ze5, h2, hnn, hn]
            (try simp (maxSteps := 1000000) (disch := first | omega | (simp only [Z3]; omega) | (simp; done) | assumption | decide | (refine not_not_intro ?_; assumption)) only [Z1, Z2, splice, zir, i0, B36, zqe, zu0, z14, i1, i2, c0, c1, g1, g2])
            exact herr _ hd _ hset
          · have hd : ze5 ((bv b).drop a) = .inl (⟨true, 0, sv ((r.drop 2).take n)⟩, 3 + n) := by rw [hm]; simp [ze5, h2, hnn, hn]
            have e1 : (x0.toNat : Int) * 256 + (x1.toNat : Int) = (n : Int) := by omega
            have hsn := z8o (s := b) (k := .i64) (k' := .i64) (a := (a : Int) + 3) (b := (a : Int) + 3 + (n : Int)) (by omega) (by omega) (by omega)
            have hvn : b.extract ((a : Int) + 3).toNat ((a : Int) + 3 + (n : Int)).toNat = sv ((r.drop 2).take n) := by
              apply z1g
              rw [zi4, zlq, show ((a : Int) + 3).toNat = a + 3 from by omega, show ((a : Int) + 3 + (n : Int)).toNat - (a + 3) = n from by omega, ← List.drop_drop, hm]
              rfl
            rw [hvn] at hsn
            (try simp (maxSteps := 1000000) (disch := first | omega | (simp only [Z3]; omega) | (simp; done) | assumption | decide | (refine not_not_intro ?_; assumption)) only [Z1, Z2, splice, zir, i0, B36, zqe, zu0, z14, i1, i2, c0, c1, e1, zbac, hsn, g1])
            have := hQ _ (hset' ⟨true, 0, sv ((r.drop 2).take n)⟩)
            rw [hm] at this
            rw [hm] at hd
            rw [hd] at this
            rw [show (a : Int) + 3 + (n : Int) = ((a + (3 + n) : Nat) : Int) from by push_cast; omega]
            exact this
        · have hc2' := zbhe (n := 36) (by omega) hc2
          have hd : ze5 ((bv b).drop a) = .inr 3 := by rw [hm]; unfold ze5; dsimp only; rw [if_neg hc, if_neg hc2]
          (try simp (maxSteps := 1000000) (disch := first | omega | (simp only [Z3]; omega) | (simp; done) | assumption | decide | (refine not_not_intro ?_; assumption)) only [Z1, Z2, splice, zir, i0, zqe, g1, g2])
          exact herr _ hd _ hset
    (try simp (maxSteps := 1000000) (disch := first | omega | (simp only [Z3]; omega) | (simp; done) | assumption | decide | (refine not_not_intro ?_; assumption)) only [Z1, Z2, splice, ztb])
    exact step
end Go.AM.Cap
