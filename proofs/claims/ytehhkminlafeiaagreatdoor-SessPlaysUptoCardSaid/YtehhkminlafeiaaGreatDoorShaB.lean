import Derived.Test.YtehhkminlafeiaaGreatDoorShaA
set_option linter.all false
/- sha: ShaB -/
namespace Go.AM.Cap
open Go.AM Go.Proofs
theorem zgc (x : BitVec 32) (n : Nat) (h : n ≤ 32) : zch [U x, i64 n] = ret (U (znn x n)) := by
  funext H
  have h1 : IntKind.i64.wrap (32 - (n : Int)) = ((32 - n : Nat) : Int) := by rw [i64_in (by omega) (by omega)]; omega
  simp [zch, z4f, zb, zbii, za, h1, zbij, ret, znn]
theorem zbyj (x y z w : BitVec 8) : x.setWidth 32 <<< 24 + y.setWidth 32 <<< 16 + z.setWidth 32 <<< 8 + w.setWidth 32 = (x.setWidth 32 <<< 24 ||| y.setWidth 32 <<< 16 ||| z.setWidth 32 <<< 8 ||| w.setWidth 32 : BitVec 32) := by
  have hy : ∀ j, 8 ≤ j → y.getLsbD j = false := fun j hj => BitVec.getLsbD_of_ge _ _ hj
  have hz : ∀ j, 8 ≤ j → z.getLsbD j = false := fun j hj => BitVec.getLsbD_of_ge _ _ hj
  have hw : ∀ j, 8 ≤ j → w.getLsbD j = false := fun j hj => BitVec.getLsbD_of_ge _ _ hj
  have h1 : (x.setWidth 32 <<< 24 : BitVec 32) &&& (y.setWidth 32 <<< 16) = 0#32 := by
    apply BitVec.eq_of_getLsbD_eq
    intro i hi
    by_cases c : i < 24
    · simp [BitVec.getLsbD_shiftLeft, BitVec.getLsbD_setWidth, c]
    · simp [BitVec.getLsbD_shiftLeft, BitVec.getLsbD_setWidth, hy (i - 16) (by omega)]
  have h2 : (x.setWidth 32 <<< 24 ||| y.setWidth 32 <<< 16 : BitVec 32) &&& (z.setWidth 32 <<< 8) = 0#32 := by
    apply BitVec.eq_of_getLsbD_eq
    intro i hi
    by_cases c : i < 16
    · simp [BitVec.getLsbD_shiftLeft, BitVec.getLsbD_setWidth, c, show i < 24 by omega]
    · simp [BitVec.getLsbD_shiftLeft, BitVec.getLsbD_setWidth, hz (i - 8) (by omega)]
  have h3 : (x.setWidth 32 <<< 24 ||| y.setWidth 32 <<< 16 ||| z.setWidth 32 <<< 8 : BitVec 32) &&& (w.setWidth 32) = 0#32 := by
    apply BitVec.eq_of_getLsbD_eq
    intro i hi
    by_cases c : i < 8
    · simp [BitVec.getLsbD_shiftLeft, BitVec.getLsbD_setWidth, c, show i < 24 by omega, show i < 16 by omega]
    · simp [BitVec.getLsbD_setWidth, hw i (by omega)]
  rw [BitVec.add_eq_or_of_and_eq_zero _ _ h1, BitVec.add_eq_or_of_and_eq_zero _ _ h2, BitVec.add_eq_or_of_and_eq_zero _ _ h3]
theorem zb30 (H : Heap) (w' : V) (bb bo u cap t : Nat) (b : List (BitVec 8)) (cs : List V) (rw1 : Bool) (hcs : ∀ i, i < 64 → cs[bo + i]? = some (B (b.getD i 0)))
    (h1 : H.get bb = some (.cells rw1 cs)) (hw : Own H w' ((words b t).map U)) (ht : t < 16) (Q : Out → Heap → Prop)
    (hQ : ∀ v H', Own H' v ((words b (t + 1)).map U) → Keeps (vb w') H H' → (∀ x ∈ vb v, H.next ≤ x) → Q (.nxt [slc bb bo u 64 cap, v, i64 (t + 1)]) H') :
    wp (zof [slc bb bo u 64 cap, w', i64 t]) Q H := by
  have e0 : (4 * (t : Int)).toNat = 4 * t := by omega
  have e1 : (4 * (t : Int) + 1).toNat = 4 * t + 1 := by omega
  have e2 : (4 * (t : Int) + 2).toNat = 4 * t + 2 := by omega
  have e3 : (4 * (t : Int) + 3).toNat = 4 * t + 3 := by omega
  have hd : decide ((t : Int) < 16) = true := by simp; omega
  simp (config := { maxSteps := 10000000 }) (disch := first | omega | simp) only [zof, hd, zge, zft, i64_in, zq0, zea h1, e0, e1, e2, e3, hcs, zbt5, z32, zks, zk, zbs, zz, zbp, zcg, zii, zbxw, z31, Int.toNat_natCast, Nat.mul_one, Nat.zero_add, Int.reduceToNat, wp_ret, zew, zdi]
  rw [zbyj]
  refine z1f (new := [U (zbl8 b t)]) hw (by rfl) (by rfl) (by omega) (by rfl) (by rfl) (by simp [zd4]; omega) (by simp [zd4]; omega) fun c H' h2 h3 h4 => ?_
  simp (disch := first | omega | simp) only [zyp, if_true, zm2, wp_ret, zfh, zdi, zbp, zcg, zk, zbs, zks, i64_in, zz]
  refine hQ _ _ ?_ h3 (by simpa using h4)
  have : (words b (t + 1)).map U = (words b t).map U ++ [U (zbl8 b t)] := by simp [words, if_pos ht]
  rw [this]; exact h2
theorem zb31 (H : Heap) (w' blk : V) (t : Nat) (b : List (BitVec 8)) (hw : Own H w' ((words b t).map U)) (ht : t < 64) (ht2 : 16 ≤ t) (Q : Out → Heap → Prop)
    (hQ : ∀ v H', Own H' v ((words b (t + 1)).map U) → Keeps (vb w') H H' → (∀ x ∈ vb v, H.next ≤ x) → Q (.nxt [blk, v, i64 (t + 1)]) H') :
    wp (zof [blk, w', i64 t]) Q H := by
  have e0 : ((t : Int) - 15) = ((t - 15 : Nat) : Int) := by omega
  have e1 : ((t : Int) - 2) = ((t - 2 : Nat) : Int) := by omega
  have e2 : ((t : Int) - 16) = ((t - 16 : Nat) : Int) := by omega
  have e3 : ((t : Int) - 7) = ((t - 7 : Nat) : Int) := by omega
  have hd : decide ((t : Int) < 16) = false := by simp; omega
  have hl := zd4 b t
  obtain ⟨p0, a0, g0⟩ := hw.idx (k := .i64) (i := t - 15) (by simp [hl]; omega)
  obtain ⟨p1, a1, g1⟩ := hw.idx (k := .i64) (i := t - 2) (by simp [hl]; omega)
  obtain ⟨p2, a2, g2⟩ := hw.idx (k := .i64) (i := t - 16) (by simp [hl]; omega)
  obtain ⟨p3, a3, g3⟩ := hw.idx (k := .i64) (i := t - 7) (by simp [hl]; omega)
  have hgg : ∀ i (h : i < ((words b t).map U).length), ((words b t).map U)[i] = U ((words b t).getD i 0) := fun i h => by
    have h' : i < (words b t).length := by simpa using h
    simp [h']
  rw [hgg] at g0 g1 g2 g3
  have hG7 : ∀ x, zch [U x, i64 7] = ret (U (znn x 7)) := fun x => zgc x 7 (by omega)
  have hG18 : ∀ x, zch [U x, i64 18] = ret (U (znn x 18)) := fun x => zgc x 18 (by omega)
  have hG17 : ∀ x, zch [U x, i64 17] = ret (U (znn x 17)) := fun x => zgc x 17 (by omega)
  have hG19 : ∀ x, zch [U x, i64 19] = ret (U (znn x 19)) := fun x => zgc x 19 (by omega)
  simp (config := { maxSteps := 10000000 }) (disch := first | omega | simp) only [zof, z7g, hd, zge, zeg, i64_in, a0, a1, a2, a3, g0, g1, g2, g3, e0, e1, e2, e3, hG7, hG17, hG18, hG19, zbg6, zwm, zk, zbs, zz, zbp, zcg, zii, z31, zbg5, Int.toNat_natCast, Nat.mul_one, Nat.zero_add, Int.reduceToNat, wp_ret, zew, zdi]
  refine z1f (new := [U (zbl9 (words b t) t)]) hw (by rfl) ?_ (by omega) (by rfl) (by rfl) (by simp [zd4]; omega) (by simp [zd4]; omega) fun c H' h2 h3 h4 => ?_
  · show some [U _] = some [U _]
    congr 3
    simp only [zbl9]
    ac_rfl
  simp (disch := first | omega | simp) only [zyp, wp_ret, zew, zdi, zbp, zcg, zk, zbs, zks, i64_in, zz]
  refine hQ _ _ ?_ h3 (by simpa using h4)
  have : (words b (t + 1)).map U = (words b t).map U ++ [U (zbl9 (words b t) t)] := by simp [words, if_neg (show ¬ t < 16 by omega)]
  rw [this]; exact h2
theorem zbvz (H : Heap) (bb bo u cap : Nat) (b : List (BitVec 8)) (cs : List V) (rw1 : Bool) (hcs : ∀ i, i < 64 → cs[bo + i]? = some (B (b.getD i 0)))
    (h1 : H.get bb = some (.cells rw1 cs)) (Q : V → Heap → Prop) (hQ : ∀ v H', Own H' v ((words b 64).map U) → Keeps [] H H' → (∀ x ∈ vb v, H.next ≤ x) → Q v H') :
    wp (zqc (slc bb bo u 64 cap)) Q H := by
  simp only [zqc, zk]
  refine zbt (Inv := fun k vs H' => ∃ t w', k = 64 - t ∧ t ≤ 64 ∧ vs = [slc bb bo u 64 cap, w', i64 t] ∧ Own H' w' ((words b t).map U) ∧ Keeps [] H H' ∧ ∀ x ∈ vb w', H.next ≤ x) (n := 64) (by decide)
    ⟨0, _, by omega, by omega, rfl, Own.nil _, Keeps.refl _ _, by simp⟩ ?_
  rintro k vs H' ⟨t, w', hk, ht, rfl, ho, hke, hf⟩
  by_cases h : t < 64
  · have hd : decide ((t : Int) < 64) = true := by simp; omega
    simp only [zyq, zbp, zcg, zk, zbs, zge, zz, hd, zft, wp_ret, zdi]
    have hnext : ∀ v H2, Own H2 v ((words b (t + 1)).map U) → Keeps (vb w') H' H2 → (∀ x ∈ vb v, H'.next ≤ x) → ∃ k', k' < k ∧ ∃ t2 w2, k' = 64 - t2 ∧ t2 ≤ 64 ∧ [slc bb bo u 64 cap, v, i64 (t + 1)] = [slc bb bo u 64 cap, w2, i64 (t2 : Nat)] ∧ Own H2 w2 ((words b t2).map U) ∧ Keeps [] H H2 ∧ ∀ x ∈ vb w2, H.next ≤ x :=
      fun v H2 q1 q2 q3 => ⟨64 - (t + 1), by omega, t + 1, v, rfl, by omega, by simp, q1, hke.trans q2 (fun c hc hm => by have := hf c hm; omega), fun x hx => Nat.le_trans hke.next (q3 x hx)⟩
    by_cases h16 : t < 16
    · exact zb30 H' w' bb bo u cap t b cs rw1 hcs (hke.get h1 (by simp)) ho h16 _ hnext
    · exact zb31 H' w' _ t b ho h (by omega) _ hnext
  · have hd : decide ((t : Int) < 64) = false := by simp; omega
    have : t = 64 := by omega
    subst this
    simp only [zyq, zbp, zcg, zk, zbs, zge, zz, hd, zeg, wp_ret, zm2, zfh, if_true, zdi, z7h, zk2, zk3]
    exact hQ _ _ ho hke hf
theorem zbd4 {H : Heap} {zero new : List V} {parts : List (Nat × Nat × V)} {m : Nat} {Q : V → Heap → Prop} (hz : zero.all zno = true) (hf : zef zero parts = some new) (hl : new.length = m)
    (hQ : ∀ v H', Own H' v new → Keeps [] H H' → (∀ x ∈ vb v, H.next ≤ x) → Q v H') : wp (zd7 1 m zero parts) Q H := by
  refine (zgv hz hf).mpr ?_
  subst hl
  exact hQ _ _ (.inr ⟨_, rfl, Heap.get_push_self _ _⟩) (Keeps.push _ _ _) (by simp)
theorem zb0s (H : Heap) (Q : V → Heap → Prop) (hQ : ∀ v H', Own H' v (tab.map U) → Keeps [] H H' → (∀ x ∈ vb v, H.next ≤ x) → Q v H') : wp zj0 Q H := by
  simp only [zj0, zk]
  refine zbd4 (new := tab.map U) (by decide) (by kernel_rfl) (by kernel_rfl) fun v H' h1 h2 h3 => ?_
  simp only [wp_ret, zk2, zk3, zbp]
  exact hQ v H' h1 h2 h3
theorem zbue {H : Heap} {v : V} {l : List (BitVec 32)} (h : Own H v (l.map U)) {k : IntKind} {i : Nat} (hi : i < l.length) : ∃ b, zv 1 v (.int k i) = some (ptr b i) ∧ zhl H (ptr b i) = some (U (l.getD i 0)) := by
  obtain ⟨b, h1, h2⟩ := h.idx (k := k) (i := i) (by simpa using hi)
  refine ⟨b, h1, ?_⟩
  rw [h2]; simp [hi]
set_option maxHeartbeats 4000000 in
theorem zb32 (H : Heap) (p wv kv : V) (t : Nat) (w : List (BitVec 32)) (s : St) (hw : Own H wv (w.map U)) (hwl : w.length = 64) (hk : Own H kv (tab.map U)) (ht : t < 64) (Q : Out → Heap → Prop)
    (hQ : Q (.nxt [p, wv, kv, U (s.round (tab.getD t 0) (w.getD t 0)).a, U (s.round (tab.getD t 0) (w.getD t 0)).b, U (s.round (tab.getD t 0) (w.getD t 0)).c, U (s.round (tab.getD t 0) (w.getD t 0)).d, U (s.round (tab.getD t 0) (w.getD t 0)).e, U (s.round (tab.getD t 0) (w.getD t 0)).f, U (s.round (tab.getD t 0) (w.getD t 0)).g, U (s.round (tab.getD t 0) (w.getD t 0)).h, i64 (t + 1)]) H) :
    wp (z1w [p, wv, kv, U s.a, U s.b, U s.c, U s.d, U s.e, U s.f, U s.g, U s.h, i64 t]) Q H := by
  have hG2 : ∀ x, zch [U x, i64 2] = ret (U (znn x 2)) := fun x => zgc x 2 (by omega)
  have hG13 : ∀ x, zch [U x, i64 13] = ret (U (znn x 13)) := fun x => zgc x 13 (by omega)
  have hG22 : ∀ x, zch [U x, i64 22] = ret (U (znn x 22)) := fun x => zgc x 22 (by omega)
  have hG6 : ∀ x, zch [U x, i64 6] = ret (U (znn x 6)) := fun x => zgc x 6 (by omega)
  have hG11 : ∀ x, zch [U x, i64 11] = ret (U (znn x 11)) := fun x => zgc x 11 (by omega)
  have hG25 : ∀ x, zch [U x, i64 25] = ret (U (znn x 25)) := fun x => zgc x 25 (by omega)
  obtain ⟨pk, ak, gk⟩ := zbue hk (k := .i64) (i := t) (by rw [show tab.length = 64 from rfl]; exact ht)
  obtain ⟨pw, aw, gw⟩ := zbue hw (k := .i64) (i := t) (by omega)
  generalize tab.getD t 0 = k at gk hQ
  generalize w.getD t 0 = ww at gw hQ
  simp (config := { maxSteps := 10000000 }) (disch := first | omega | simp) only [z1w, z9m, ak, gk, aw, gw, hG2, hG13, hG22, hG6, hG11, hG25, zk, zz6, zxw, z30, z33, zbq, zbs, zz, zbp, zcg, zii, z31, zbt3, zbt4, zbg5, zks, i64_in, wp_ret, zew, zdi]
  exact hQ
theorem zqj {H : Heap} {v : V} {l : List V} (h : Own H v l) {k : IntKind} {i : Nat} {x : V} (hi : l[i]? = some x) : ∃ b, zv 1 v (.int k i) = some (ptr b i) ∧ zhl H (ptr b i) = some x := by
  have hlt : i < l.length := by
    rcases Nat.lt_or_ge i l.length with h | h
    · exact h
    · rw [List.getElem?_eq_none h] at hi; cases hi
  obtain ⟨b, h1, h2⟩ := h.idx (k := k) hlt
  exact ⟨b, h1, by rw [h2, ← hi]; simp [hlt]⟩
theorem zbyk (H : Heap) (sv : V) (bb bo u cap : Nat) (b : List (BitVec 8)) (s : St) (cs : List V) (rw1 : Bool) (hcs : ∀ i, i < 64 → cs[bo + i]? = some (B (b.getD i 0)))
    (h1 : H.get bb = some (.cells rw1 cs)) (hs : Own H sv s.cells) (Q : V → Heap → Prop) (hQ : ∀ v H', Own H' v (s.take b).cells → Keeps [] H H' → (∀ x ∈ vb v, H.next ≤ x) → Q v H') :
    wp (zsv  sv (slc bb bo u 64 cap)) Q H := by
  simp only [zsv, zk]
  show wp (zqc (slc bb bo u 64 cap)) _ H
  refine zbvz H bb bo u cap b cs rw1 hcs h1 _ fun wv H1 ow1 kp1 fr1 => ?_
  show wp zj0 _ H1
  refine zb0s H1 _ fun kv H2 ok2 kp2 fr2 => ?_
  have kp02 : Keeps [] H H2 := kp1.trans kp2 (by simp)
  have os2 : Own H2 sv s.cells := hs.keep kp02 (by simp)
  have ow2 : Own H2 wv ((words b 64).map U) := ow1.keep kp2 (by simp)
  obtain ⟨p0, a0, g0⟩ := zqj os2 (k := .i64) (i := 0) (x := U s.a) rfl
  obtain ⟨p1, a1, g1⟩ := zqj os2 (k := .i64) (i := 1) (x := U s.b) rfl
  obtain ⟨p2, a2, g2⟩ := zqj os2 (k := .i64) (i := 2) (x := U s.c) rfl
  obtain ⟨p3, a3, g3⟩ := zqj os2 (k := .i64) (i := 3) (x := U s.d) rfl
  obtain ⟨p4, a4, g4⟩ := zqj os2 (k := .i64) (i := 4) (x := U s.e) rfl
  obtain ⟨p5, a5, g5⟩ := zqj os2 (k := .i64) (i := 5) (x := U s.f) rfl
  obtain ⟨p6, a6, g6⟩ := zqj os2 (k := .i64) (i := 6) (x := U s.g) rfl
  obtain ⟨p7, a7, g7⟩ := zqj os2 (k := .i64) (i := 7) (x := U s.h) rfl
  simp only [Int.natCast_zero, Int.natCast_one, Int.cast_ofNat_Int] at a0 a1 a2 a3 a4 a5 a6 a7
  simp only [a0, a1, a2, a3, a4, a5, a6, a7, g0, g1, g2, g3, g4, g5, g6, g7, zk, zbs, zz, zii]
  refine zbt (Inv := fun k vs H' => ∃ t, H' = H2 ∧ k = 64 - t ∧ t ≤ 64 ∧ vs = [sv, wv, kv, U (s.rounds (words b 64) t).a, U (s.rounds (words b 64) t).b, U (s.rounds (words b 64) t).c, U (s.rounds (words b 64) t).d, U (s.rounds (words b 64) t).e, U (s.rounds (words b 64) t).f, U (s.rounds (words b 64) t).g, U (s.rounds (words b 64) t).h, i64 t]) (n := 64) (by decide)
    ⟨0, rfl, by omega, by omega, rfl⟩ ?_
  rintro k vs H' ⟨t, rfl, hk, ht, rfl⟩
  by_cases h : t < 64
  · have hd : decide ((t : Int) < 64) = true := by simp; omega
    simp only [z1x, zbp, zcg, zk, zbs, zge, zz, hd, zft, wp_ret, zdi]
    refine zb32  H' sv wv kv t (words b 64) (s.rounds (words b 64) t) ow2 (zd4 b 64) ok2 h _ ?_
    exact ⟨64 - (t + 1), by omega, t + 1, rfl, rfl, by omega, by simp [St.rounds]⟩
  · have hd : decide ((t : Int) < 64) = false := by simp; omega
    have : t = 64 := by omega
    subst this
    simp only [z1x, zbp, zcg, zk, zbs, zge, zz, hd, zeg, wp_ret, zm2, zfh, if_true, zdi, z9n, a0, a1, a2, a3, a4, a5, a6, a7, g0, g1, g2, g3, g4, g5, g6, g7, zii, z31]
    refine zbd4 (new := (s.take b).cells) (by decide) (by rfl) (by rfl) fun v H3 q1 q2 q3 => ?_
    simp only [zk2, zk3, zbp, wp_ret]
    exact hQ v H3 q1 (kp02.trans q2 (by simp)) fun x hx => Nat.le_trans kp02.next (q3 x hx)
end Go.AM.Cap
