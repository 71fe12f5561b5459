import Derived.Test.YtehhkminlafeiaaGreatDoorFun2
import Derived.Test.YtehhkminlafeiaaGreatDoorAmHeap
set_option linter.all false
/- sha: ShaA -/
namespace Go.AM.Cap
open Go.AM Go.Proofs
def znn (x : BitVec 32) (n : Nat) : BitVec 32 := x >>> n ||| x <<< (32 - n)
theorem zbn9 (x : BitVec 32) (n : Nat) (h : n ≤ 32) : z4h (U x) (i64 n) = ret (U (znn x n)) := by
  funext H
  have h1 : IntKind.i64.wrap (32 - (n : Int)) = ((32 - n : Nat) : Int) := by rw [i64_in (by omega) (by omega)]; omega
  simp [z4h, zb, zbii, za, h1, zbij, ret, znn]
theorem zhq (x : BitVec 32) (n : Nat) (h : n ≤ 32) : zc7 [U x, i64 n] = ret (U (znn x n)) := zbn9 x n h
def zbl8 (b : List (BitVec 8)) (t : Nat) : BitVec 32 :=
  (b.getD (4 * t) 0).setWidth 32 <<< 24 ||| (b.getD (4 * t + 1) 0).setWidth 32 <<< 16 ||| (b.getD (4 * t + 2) 0).setWidth 32 <<< 8 ||| (b.getD (4 * t + 3) 0).setWidth 32
def zbl9 (w : List (BitVec 32)) (t : Nat) : BitVec 32 :=
  let x := w.getD (t - 15) 0
  let y := w.getD (t - 2) 0
  w.getD (t - 16) 0 + (znn x 7 ^^^ znn x 18 ^^^ x >>> 3) + w.getD (t - 7) 0 + (znn y 17 ^^^ znn y 19 ^^^ y >>> 10)
def words (b : List (BitVec 8)) : Nat → List (BitVec 32)
  | 0 => []
  | t + 1 => words b t ++ [if t < 16 then zbl8 b t else zbl9 (words b t) t]
theorem zd4 (b : List (BitVec 8)) : ∀ t, (words b t).length = t
  | 0 => rfl
  | t + 1 => by simp [words, zd4 b t]
def zil (l : List (BitVec 32)) : List V := (l ++ List.replicate (64 - l.length) 0#32).map U
theorem zbak (l : List (BitVec 32)) (h : l.length ≤ 64) : (zil l).length = 64 := by simp [zil]; omega
theorem zbjs (l : List (BitVec 32)) (x : BitVec 32) (h : l.length < 64) : (zil l).set l.length (U x) = zil (l ++ [x]) := by
  unfold zil
  obtain ⟨m, hm⟩ : ∃ m, 64 - l.length = m + 1 := ⟨63 - l.length, by omega⟩
  have hm2 : 64 - (l ++ [x]).length = m := by simp; omega
  rw [hm2, hm, List.replicate_succ, List.map_append, List.map_append, List.map_append, List.set_append_right _ _ (by simp)]
  simp
theorem zbjt (l : List (BitVec 32)) (i : Nat) (h : i < l.length) : (zil l)[i]? = some (U (l.getD i 0)) := by
  simp [zil, List.getElem?_append, h]
theorem zb2r (H : Heap) (s : V) (bb bo u cap wb t : Nat) (b : List (BitVec 8)) (cs : List V) (rw1 : Bool) (hcs : ∀ i, i < 64 → cs[bo + i]? = some (B (b.getD i 0)))
    (h1 : H.get bb = some (.cells rw1 cs)) (h2 : H.get wb = some (.cells true (zil (words b t)))) (ht : t < 16) (Q : Out → Heap → Prop)
    (hQ : Q (.nxt [s, slc bb bo u 64 cap, ptr wb 0, i64 (t + 1)]) (H.set wb (some (.cells true (zil (words b (t + 1))))))) :
    wp (zs2 [s, slc bb bo u 64 cap, ptr wb 0, i64 t]) Q H := by
  have e0 : (4 * (t : Int)).toNat = 4 * t := by omega
  have e1 : (4 * (t : Int) + 1).toNat = 4 * t + 1 := by omega
  have e2 : (4 * (t : Int) + 2).toNat = 4 * t + 2 := by omega
  have e3 : (4 * (t : Int) + 3).toNat = 4 * t + 3 := by omega
  have hl : (zil (words b t)).length = 64 := zbak _ (by rw [zd4]; omega)
  have hs := zbjs (words b t) (zbl8 b t) (by rw [zd4]; omega)
  rw [zd4] at hs
  simp only [words, if_pos ht, ← hs] at hQ
  simp only [zbl8] at hQ
  simp (disch := first | omega | simp) only [↓reduceIte, zs2, z0g, i64_in, zq0, zq1, zea h1, e0, e1, e2, e3, hcs, zbt5, zxx h2, z32, zks, zk, zbs, zz, zbp, zcg, zii, zbxw, zb2i, Int.toNat_natCast, Nat.mul_one, Nat.zero_add, Int.reduceToNat, wp_ret, zew, zdi]
  exact hQ
theorem zb2s (H : Heap) (s : V) (wb t : Nat) (b : List (BitVec 8))
    (h2 : H.get wb = some (.cells true (zil (words b t)))) (ht : t < 64) (ht2 : 16 ≤ t) (Q : Out → Heap → Prop)
    (hQ : Q (.nxt [s, ptr wb 0, i64 (t + 1)]) (H.set wb (some (.cells true (zil (words b (t + 1))))))) :
    wp (zs3 [s, ptr wb 0, i64 t]) Q H := by
  have e0 : ((t : Int) - 15).toNat = t - 15 := by omega
  have e1 : ((t : Int) - 2).toNat = t - 2 := by omega
  have e2 : ((t : Int) - 16).toNat = t - 16 := by omega
  have e3 : ((t : Int) - 7).toNat = t - 7 := by omega
  have hl : (zil (words b t)).length = 64 := zbak _ (by rw [zd4]; omega)
  have hs := zbjs (words b t) (zbl9 (words b t) t) (by rw [zd4]; omega)
  have hw := zd4 b t
  have hg := zbjt (words b t)
  rw [zd4] at hs
  simp only [words, if_neg (show ¬ t < 16 by omega), ← hs] at hQ
  simp only [zbl9] at hQ
  have hG2 : ∀ x, zc7 [U x, i64 2] = ret (U (znn x 2)) := fun x => zhq x 2 (by omega)
  have hG7 : ∀ x, zc7 [U x, i64 7] = ret (U (znn x 7)) := fun x => zhq x 7 (by omega)
  have hG18 : ∀ x, zc7 [U x, i64 18] = ret (U (znn x 18)) := fun x => zhq x 18 (by omega)
  have hG17 : ∀ x, zc7 [U x, i64 17] = ret (U (znn x 17)) := fun x => zhq x 17 (by omega)
  have hG19 : ∀ x, zc7 [U x, i64 19] = ret (U (znn x 19)) := fun x => zhq x 19 (by omega)
  simp (config := { maxSteps := 10000000 }) (disch := first | omega | simp) only [↓reduceIte, zs3, z0h, i64_in, zq0, zq1, zea h2, e0, e1, e2, e3, hg, hG7, hG17, hG18, hG19, zbg6, zxx h2, zwm, zks, zk, zz6, zxw, z30, z33, zbq, zbs, zz, zbp, zcg, zii, z31, zbg5, Int.toNat_natCast, Nat.mul_one, Nat.zero_add, Int.reduceToNat, wp_ret, zew, zdi]
  exact hQ
theorem zbvx (H : Heap) (s : V) (bb bo u cap wb : Nat) (b : List (BitVec 8)) (cs : List V) (rw1 : Bool) (hcs : ∀ i, i < 64 → cs[bo + i]? = some (B (b.getD i 0)))
    (h1 : H.get bb = some (.cells rw1 cs)) (hbw : bb ≠ wb) (hw : wb < H.next) (h2 : H.get wb = some (.cells true (zil []))) (Q : Out → Heap → Prop)
    (hQ : Q (.brk 0 [s, ptr wb 0]) (H.set wb (some (.cells true (zil (words b 16)))))) :
    wp (zce zcc znd [s, slc bb bo u 64 cap, ptr wb 0, i64 0]) Q H := by
  refine zbt (Inv := fun k vs H' => ∃ t, k = 16 - t ∧ t ≤ 16 ∧ vs = [s, slc bb bo u 64 cap, ptr wb 0, i64 t] ∧ H' = H.set wb (some (.cells true (zil (words b t))))) (n := 16) (by decide) ⟨0, by simp, by omega, rfl, ?_⟩ ?_
  · show H = _
    rw [words, Heap.set_same h2]
  · rintro k vs H' ⟨t, hk, ht, rfl, rfl⟩
    by_cases h : t < 16
    · have hd : decide ((t : Int) < 16) = true := by simp; omega
      simp only [znd, zbp, zcg, zk, zbs, zge, zz, hd, zft, wp_ret, zdi]
      refine zb2r _ s bb bo u cap wb t b cs rw1 hcs (by rw [Heap.get_set_ne _ _ _ hbw]; exact h1) (Heap.get_set_self hw) h _ ?_
      exact ⟨16 - (t + 1), by omega, t + 1, rfl, by omega, by simp, by rw [Heap.set_set]⟩
    · have hd : decide ((t : Int) < 16) = false := by simp; omega
      have : t = 16 := by omega
      subst this
      simp only [znd, zbp, zcg, zk, zbs, zge, zz, hd, zeg, wp_ret, zm2]
      exact hQ
theorem zbs2 (H : Heap) (s : V) (wb : Nat) (b : List (BitVec 8))
    (hw : wb < H.next) (h2 : H.get wb = some (.cells true (zil (words b 16)))) (Q : Out → Heap → Prop)
    (hQ : Q (.brk 2 [s, ptr wb 0]) (H.set wb (some (.cells true (zil (words b 64)))))) :
    wp (zce zcc zne [s, ptr wb 0, i64 16]) Q H := by
  refine zbt (Inv := fun k vs H' => ∃ t, k = 64 - t ∧ 16 ≤ t ∧ t ≤ 64 ∧ vs = [s, ptr wb 0, i64 t] ∧ H' = H.set wb (some (.cells true (zil (words b t))))) (n := 48) (by decide) ⟨16, by omega, by omega, by omega, rfl, ?_⟩ ?_
  · rw [Heap.set_same h2]
  · rintro k vs H' ⟨t, hk, ht0, ht, rfl, rfl⟩
    by_cases h : t < 64
    · have hd : decide ((t : Int) < 64) = true := by simp; omega
      simp only [zne, zbp, zcg, zk, zbs, zge, zz, hd, zft, wp_ret, zdi]
      refine zb2s _ s wb t b (Heap.get_set_self hw) h ht0 _ ?_
      exact ⟨64 - (t + 1), by omega, t + 1, rfl, by omega, by omega, by simp, by rw [Heap.set_set]⟩
    · have hd : decide ((t : Int) < 64) = false := by simp; omega
      have : t = 64 := by omega
      subst this
      simp only [zne, zbp, zcg, zk, zbs, zge, zz, hd, zeg, wp_ret, zm2]
      exact hQ
def tab : List (BitVec 32) := [0x428a2f98, 0x71374491, 0xb5c0fbcf, 0xe9b5dba5, 0x3956c25b, 0x59f111f1, 0x923f82a4, 0xab1c5ed5,
  0xd807aa98, 0x12835b01, 0x243185be, 0x550c7dc3, 0x72be5d74, 0x80deb1fe, 0x9bdc06a7, 0xc19bf174,
  0xe49b69c1, 0xefbe4786, 0x0fc19dc6, 0x240ca1cc, 0x2de92c6f, 0x4a7484aa, 0x5cb0a9dc, 0x76f988da,
  0x983e5152, 0xa831c66d, 0xb00327c8, 0xbf597fc7, 0xc6e00bf3, 0xd5a79147, 0x06ca6351, 0x14292967,
  0x27b70a85, 0x2e1b2138, 0x4d2c6dfc, 0x53380d13, 0x650a7354, 0x766a0abb, 0x81c2c92e, 0x92722c85,
  0xa2bfe8a1, 0xa81a664b, 0xc24b8b70, 0xc76c51a3, 0xd192e819, 0xd6990624, 0xf40e3585, 0x106aa070,
  0x19a4c116, 0x1e376c08, 0x2748774c, 0x34b0bcb5, 0x391c0cb3, 0x4ed8aa4a, 0x5b9cca4f, 0x682e6ff3,
  0x748f82ee, 0x78a5636f, 0x84c87814, 0x8cc70208, 0x90befffa, 0xa4506ceb, 0xbef9a3f7, 0xc67178f2]
structure St where
  (a b c d e f g h : BitVec 32)
def St.l (s : St) : List (BitVec 32) := [s.a, s.b, s.c, s.d, s.e, s.f, s.g, s.h]
def St.t1 (s : St) (k w : BitVec 32) : BitVec 32 := s.h + (znn s.e 6 ^^^ znn s.e 11 ^^^ znn s.e 25) + (s.e &&& s.f ^^^ ~~~s.e &&& s.g) + k + w
def St.t2 (s : St) : BitVec 32 := (znn s.a 2 ^^^ znn s.a 13 ^^^ znn s.a 22) + (s.a &&& s.b ^^^ s.a &&& s.c ^^^ s.b &&& s.c)
def St.round (s : St) (k w : BitVec 32) : St := ⟨s.t1 k w + s.t2, s.a, s.b, s.c, s.d + s.t1 k w, s.e, s.f, s.g⟩
def St.rounds (w : List (BitVec 32)) (s : St) : Nat → St
  | 0 => s
  | t + 1 => (s.rounds w t).round (tab.getD t 0) (w.getD t 0)
def St.add (s v : St) : St := ⟨s.a + v.a, s.b + v.b, s.c + v.c, s.d + v.d, s.e + v.e, s.f + v.f, s.g + v.g, s.h + v.h⟩
def St.take (s : St) (b : List (BitVec 8)) : St := s.add (s.rounds (words b 64) 64)
def St.cells (s : St) : List V := [U s.a, U s.b, U s.c, U s.d, U s.e, U s.f, U s.g, U s.h]
set_option maxHeartbeats 4000000 in
theorem zb3z (H : Heap) (p : V) (wb vb t : Nat) (w : List (BitVec 32)) (s : St) (rw1 rw2 : Bool) (ks cs : List V) (hk : ∀ i, i < 64 → ks[i]? = some (U (tab.getD i 0)))
    (h1 : H.get gid_sha_rounds = some (.cells rw1 ks)) (h2 : H.get wb = some (.cells rw2 cs)) (hw : ∀ i, i < 64 → cs[i]? = some (U (w.getD i 0))) (h3 : H.get vb = some (.cells true s.cells)) (ht : t < 64) (Q : Out → Heap → Prop)
    (hQ : Q (.nxt [p, ptr wb 0, ptr vb 0, i64 (t + 1)]) (H.set vb (some (.cells true (s.round (tab.getD t 0) (w.getD t 0)).cells)))) :
    wp (zs4 [p, ptr wb 0, ptr vb 0, i64 t]) Q H := by
  have hG2 : ∀ x, zc7 [U x, i64 2] = ret (U (znn x 2)) := fun x => zhq x 2 (by omega)
  have hG13 : ∀ x, zc7 [U x, i64 13] = ret (U (znn x 13)) := fun x => zhq x 13 (by omega)
  have hG22 : ∀ x, zc7 [U x, i64 22] = ret (U (znn x 22)) := fun x => zhq x 22 (by omega)
  have hG6 : ∀ x, zc7 [U x, i64 6] = ret (U (znn x 6)) := fun x => zhq x 6 (by omega)
  have hG11 : ∀ x, zc7 [U x, i64 11] = ret (U (znn x 11)) := fun x => zhq x 11 (by omega)
  have hG25 : ∀ x, zc7 [U x, i64 25] = ret (U (znn x 25)) := fun x => zhq x 25 (by omega)
  have c0 : zhl H (ptr vb 0) = some (U s.a) := by rw [zea h3]; rfl
  have c1 : zhl H (ptr vb 1) = some (U s.b) := by rw [zea h3]; rfl
  have c2 : zhl H (ptr vb 2) = some (U s.c) := by rw [zea h3]; rfl
  have c3 : zhl H (ptr vb 3) = some (U s.d) := by rw [zea h3]; rfl
  have c4 : zhl H (ptr vb 4) = some (U s.e) := by rw [zea h3]; rfl
  have c5 : zhl H (ptr vb 5) = some (U s.f) := by rw [zea h3]; rfl
  have c6 : zhl H (ptr vb 6) = some (U s.g) := by rw [zea h3]; rfl
  have c7 : zhl H (ptr vb 7) = some (U s.h) := by rw [zea h3]; rfl
  have ck : zhl H (ptr gid_sha_rounds t) = some (U (tab.getD t 0)) := by rw [zea h1]; exact hk t ht
  have cw : zhl H (ptr wb t) = some (U (w.getD t 0)) := by rw [zea h2]; exact hw t ht
  generalize tab.getD t 0 = k at ck hQ
  generalize w.getD t 0 = ww at cw hQ
  have hb : ∀ x0 x1 x2 x3 x4 x5 x6 x7 : BitVec 32, build [Value.int .u32 0, Value.int .u32 0, Value.int .u32 0, Value.int .u32 0, Value.int .u32 0, Value.int .u32 0, Value.int .u32 0, Value.int .u32 0] [(0, 1, U x0), (1, 1, U x1), (2, 1, U x2), (3, 1, U x3), (4, 1, U x4), (5, 1, U x5), (6, 1, U x6), (7, 1, U x7)] = some (.agg (St.cells ⟨x0, x1, x2, x3, x4, x5, x6, x7⟩).toArray) := fun _ _ _ _ _ _ _ _ => rfl
  simp (config := { maxSteps := 10000000 }) (disch := first | omega | simp) only [zs4, i64_in, zq1, c0, c1, c2, c3, c4, c5, c6, c7, ck, cw, hG2, hG13, hG22, hG6, hG11, hG25, zk, zz6, zxw, z30, z33, zbq, zbs, zz, zbp, zcg, zii, z31, zbt3, zbt4, zbg5, Int.toNat_natCast, Nat.mul_one, Nat.zero_add, Int.reduceToNat, wp_ret, zew, zdi, hb]
  refine (zbm7 (n := 8) h3 (by rfl) (by rfl) (by show 0 + 8 ≤ s.cells.length; simp [St.cells])).mpr ?_
  simp (disch := first | omega | simp) only [z0i, wp_ret, zew, zdi, zbp, zcg, zk, zbs, zks, i64_in, zz]
  exact hQ
theorem zbs3 (H : Heap) (p : V) (wb vb : Nat) (w : List (BitVec 32)) (s : St) (rw1 rw2 : Bool) (ks cs : List V) (hk : ∀ i, i < 64 → ks[i]? = some (U (tab.getD i 0)))
    (h1 : H.get gid_sha_rounds = some (.cells rw1 ks)) (h2 : H.get wb = some (.cells rw2 cs)) (hw : ∀ i, i < 64 → cs[i]? = some (U (w.getD i 0))) (h3 : H.get vb = some (.cells true s.cells)) (hlt : vb < H.next) (hv1 : gid_sha_rounds ≠ vb) (hvw : wb ≠ vb) (Q : Out → Heap → Prop)
    (hQ : Q (.brk 4 [p, ptr vb 0]) (H.set vb (some (.cells true (s.rounds w 64).cells)))) :
    wp (zce zcc znf [p, ptr wb 0, ptr vb 0, i64 0]) Q H := by
  refine zbt (Inv := fun k vs H' => ∃ t, k = 64 - t ∧ t ≤ 64 ∧ vs = [p, ptr wb 0, ptr vb 0, i64 t] ∧ H' = H.set vb (some (.cells true (s.rounds w t).cells))) (n := 64) (by decide) ⟨0, by omega, by omega, rfl, ?_⟩ ?_
  · rw [St.rounds, Heap.set_same h3]
  · rintro k vs H' ⟨t, hk2, ht, rfl, rfl⟩
    by_cases h : t < 64
    · have hd : decide ((t : Int) < 64) = true := by simp; omega
      simp only [znf, zbp, zcg, zk, zbs, zge, zz, hd, zft, wp_ret, zdi]
      refine zb3z _ p wb vb t w (s.rounds w t) rw1 rw2 ks cs hk (by rw [Heap.get_set_ne _ _ _ hv1]; exact h1) (by rw [Heap.get_set_ne _ _ _ hvw]; exact h2) hw (Heap.get_set_self hlt) h _ ?_
      exact ⟨64 - (t + 1), by omega, t + 1, rfl, by omega, by simp, by rw [Heap.set_set]; rfl⟩
    · have hd : decide ((t : Int) < 64) = false := by simp; omega
      have : t = 64 := by omega
      subst this
      simp only [znf, zbp, zcg, zk, zbs, zge, zz, hd, zeg, wp_ret, zm2]
      exact hQ
def St.part (s v : St) (t : Nat) : List V := (s.add v).cells.take t ++ s.cells.drop t
theorem zbvy (s v : St) (t : Nat) (h : t < 8) : ∃ x y : BitVec 32, s.cells[t]? = some (U x) ∧ v.cells[t]? = some (U y) ∧ (s.part v t)[t]? = some (U x) ∧ (s.part v t).set t (U (x + y)) = s.part v (t + 1) := by
  have h8 : t = 0 ∨ t = 1 ∨ t = 2 ∨ t = 3 ∨ t = 4 ∨ t = 5 ∨ t = 6 ∨ t = 7 := by omega
  rcases h8 with h | h | h | h | h | h | h | h <;> subst h <;> exact ⟨_, _, rfl, rfl, rfl, rfl⟩
theorem zb0r (H : Heap) (sb vb : Nat) (s v : St) (rest : List V) (h3 : H.get vb = some (.cells true v.cells)) (h1 : H.get sb = some (.cells true (s.cells ++ rest))) (hlt : sb < H.next) (hne : vb ≠ sb) (Q : Out → Heap → Prop)
    (hQ : Q (.brk 6 []) (H.set sb (some (.cells true ((s.add v).cells ++ rest))))) :
    wp (zce zcc zl9 [ptr sb 0, ptr vb 0, i64 0]) Q H := by
  refine zbt (Inv := fun k vs H' => ∃ t, k = 8 - t ∧ t ≤ 8 ∧ vs = [ptr sb 0, ptr vb 0, i64 t] ∧ H' = H.set sb (some (.cells true (s.part v t ++ rest)))) (n := 8) (by decide) ⟨0, by omega, by omega, rfl, ?_⟩ ?_
  · show H = H.set sb (some (.cells true (s.cells ++ rest)))
    rw [Heap.set_same h1]
  · rintro k vs H' ⟨t, hk2, ht, rfl, rfl⟩
    by_cases h : t < 8
    · have hd : decide ((t : Int) < 8) = true := by simp; omega
      obtain ⟨x, y, p1, p2, p3, p4⟩ := zbvy s v t h
      have hlen : (s.part v t).length = 8 := by
        have h8 : t = 0 ∨ t = 1 ∨ t = 2 ∨ t = 3 ∨ t = 4 ∨ t = 5 ∨ t = 6 ∨ t = 7 := by omega
        rcases h8 with h | h | h | h | h | h | h | h <;> subst h <;> rfl
      have g1 : (H.set sb (some (.cells true (s.part v t ++ rest)))).get sb = some (.cells true (s.part v t ++ rest)) := Heap.get_set_self hlt
      have g3 : (H.set sb (some (.cells true (s.part v t ++ rest)))).get vb = some (.cells true v.cells) := by rw [Heap.get_set_ne _ _ _ hne]; exact h3
      have c1 : zhl (H.set sb (some (.cells true (s.part v t ++ rest)))) (ptr sb t) = some (U x) := by rw [zea g1, List.getElem?_append_left (by omega)]; exact p3
      have c3 : zhl (H.set sb (some (.cells true (s.part v t ++ rest)))) (ptr vb t) = some (U y) := by rw [zea g3]; exact p2
      simp (disch := first | omega | simp) only [zl9, zyr, zs5, zbp, zcg, zk, zbs, zge, zz, hd, zft, wp_ret, zdi, zgl, zq1, zii, c1, c3, z31, Int.toNat_natCast, Nat.mul_one, Nat.zero_add]
      refine (zxx g1 (by rfl) (by rw [List.length_append, hlen]; omega)).mpr ?_
      simp (disch := first | omega | simp) only [zs5, wp_ret, zew, zdi, zbp, zcg, zk, zbs, zks, i64_in, zz]
      exact ⟨8 - (t + 1), by omega, t + 1, rfl, by omega, by simp, by rw [Heap.set_set, List.set_append_left _ _ (by omega), p4]⟩
    · have hd : decide ((t : Int) < 8) = false := by simp; omega
      have : t = 8 := by omega
      subst this
      simp only [zl9, zbp, zcg, zk, zbs, zge, zz, hd, zeg, wp_ret, zm2]
      exact hQ
theorem zbs4 : zil [] = List.replicate 64 (Value.int .u32 0) := rfl
theorem zbqp (H : Heap) (sb bb bo u cap : Nat) (b : List (BitVec 8)) (s : St) (rest ks cs : List V) (rw1 rw2 : Bool)
    (hk : ∀ i, i < 64 → ks[i]? = some (U (tab.getD i 0))) (h1 : H.get gid_sha_rounds = some (.cells rw1 ks)) (hb : H.get bb = some (.cells rw2 cs)) (hcs : ∀ i, i < 64 → cs[bo + i]? = some (B (b.getD i 0)))
    (hs : H.get sb = some (.cells true (s.cells ++ rest))) (hl1 : gid_sha_rounds < H.next) (hlb : bb < H.next) (hls : sb < H.next) :
    wp (ziv (ptr sb 0) (slc bb bo u 64 cap)) (fun _ H' => Keeps [sb] H H' ∧ H'.get sb = some (.cells true ((s.take b).cells ++ rest))) H := by
  have hz : (List.replicate 64 (Value.int .u32 0)).all zno = true := by decide
  have n1 : bb ≠ H.next := by omega
  simp only [ziv, zk]
  refine (z8n hz).mpr ?_
  rw [← zbs4]
  refine zbvx _ _ bb bo u cap H.next b cs rw2 hcs (by rw [Heap.get_push_lt hlb]; exact hb) n1 (by simp) (Heap.get_push_self _ _) _ ?_
  simp only [zfh, if_true, zdi, wp_ret, zk, zyu, zbp, zcg]
  refine zbs2 _ _ H.next b (by simp) (Heap.get_set_self (by simp)) _ ?_
  simp only [zfh, if_true, zdi, wp_ret, zk, zyt, zbp, zcg, zgl, zbs, zz, Heap.set_set]
  generalize hHw : (H.push (some (.cells true (zil [])))).set H.next (some (.cells true (zil (words b 64)))) = H1
  have nH1 : H1.next = H.next + 1 := by rw [← hHw]; simp
  have gw : H1.get H.next = some (.cells true (zil (words b 64))) := by rw [← hHw]; exact Heap.get_set_self (by simp)
  have go : ∀ c, c < H.next → H1.get c = H.get c := fun c hc => by rw [← hHw, Heap.get_set_ne _ _ _ (by omega), Heap.get_push_lt hc]
  refine (zbay (n := 8) (cs := s.cells ++ rest) (by rw [go sb hls]; exact hs) (by simp [St.cells])).mpr ?_
  refine (z8n (by decide)).mpr ?_
  have hv : ((s.cells ++ rest).drop 0).take 8 = s.cells := rfl
  rw [hv]
  refine (zbm7 (n := 8) (cs := List.replicate 8 (Value.int .u32 0)) (Heap.get_push_self _ _) (by rfl) (by rfl) (by decide)).mpr ?_
  have hsp : splice (List.replicate 8 (Value.int .u32 0)) 0 s.cells = s.cells := rfl
  rw [hsp]
  generalize hHv : (H1.push (some (.cells true _))).set H1.next (some (.cells true s.cells)) = H2
  have nH2 : H2.next = H.next + 2 := by rw [← hHv]; simp [nH1]
  have gv : H2.get H1.next = some (.cells true s.cells) := by rw [← hHv]; exact Heap.get_set_self (by simp)
  have gw2 : H2.get H.next = some (.cells true (zil (words b 64))) := by rw [← hHv, Heap.get_set_ne _ _ _ (by omega), Heap.get_push_lt (by omega)]; exact gw
  have go2 : ∀ c, c < H.next → H2.get c = H.get c := fun c hc => by rw [← hHv, Heap.get_set_ne _ _ _ (by omega), Heap.get_push_lt (by omega)]; exact go c hc
  refine zbs3 H2 _ H.next H1.next (words b 64) s rw1 true ks _ hk (by rw [go2 _ hl1]; exact h1) gw2 (fun i hi => zbjt _ _ (by rw [zd4]; exact hi)) gv (by omega) (by omega) (by omega) _ ?_
  simp only [zfh, if_true, zdi, wp_ret, zk, zys, zbp, zcg]
  refine zb0r _ sb H1.next s (s.rounds (words b 64) 64) rest (Heap.get_set_self (by omega)) (by rw [Heap.get_set_ne _ _ _ (by omega), go2 sb hls]; exact hs) (by simp; omega) (by omega) _ ?_
  simp only [zfh, if_true, zdi, wp_ret, zk, zbb9]
  refine ⟨⟨by simp; omega, fun c hc hn => ?_⟩, Heap.get_set_self (by simp; omega)⟩
  rw [Heap.get_set_ne _ _ _ (by simpa using hn), Heap.get_set_ne _ _ _ (by omega), go2 c hc]
end Go.AM.Cap
