import Derived.Test.YtcmimkacafphkaaGreatDoorCoPf
import Derived.Test.YtcmimkacafphkaaGreatDoorWiK
import Derived.Test.YtcmimkacafphkaaGreatDoorAmOpenF
set_option linter.all false
/- code: the document's instr, Decode -/
set_option maxHeartbeats 16000000
namespace Go.AM.Cap
open Go.AM Go.Proofs
theorem zbq3 (x : BitVec 64) : zj .sub (W x) (.int .u64 281474976710656) = some (W (x - 281474976710656#64)) := by
  show some (Value.int .u64 (IntKind.u64.wrap ((x.toNat : Int) - 281474976710656))) = some (Value.int .u64 ((x - 281474976710656#64).toNat : Int))
  rw [IntKind.wrap_u64, BitVec.toNat_sub]
  have := x.isLt
  congr 2
  rw [show (281474976710656#64).toNat = 281474976710656 from rfl]
  omega
theorem zbl1 (x : BitVec 64) (h1 : 140737488355328 ≤ x.toNat) (h2 : x.toNat < 281474976710656) : (x - 281474976710656#64).toInt = (x.toNat : Int) - 281474976710656 := by
  rw [BitVec.toInt_eq_toNat_cond, BitVec.toNat_sub, show (281474976710656#64).toNat = 281474976710656 from rfl]
  split <;> omega
theorem zbl2 (x : BitVec 64) (h2 : x.toNat < 281474976710656) : x.toInt = (x.toNat : Int) := by
  rw [BitVec.toInt_eq_toNat_cond, if_pos (by omega)]
theorem zbug {H : Heap} (s : ByteArray) (hs : s.size = 11) (Q : V → Heap → Prop) (hQ : ∀ H', Keeps [] H H' → Q (.agg (Flat.enc (zse (bv s))).toArray) H') : wp (zns [.string s]) Q H := by
  show wp (zru (.string s)) Q H
  unfold zru
  rw [zc4, zc4]
  refine (zcc (by rfl)).mpr ?_
  have k1 := Keeps.push [] H (some (.cells true [i64 0, i64 0, i64 0, i64 0]))
  have g1 := Heap.get_push_self H (some (.cells true [i64 0, i64 0, i64 0, i64 0]))
  generalize H.push (some (.cells true [i64 0, i64 0, i64 0, i64 0])) = H1 at *
  generalize hr : H.next = r at *
  have hr1 := Heap.get_lt g1
  have hlen := zbl s
  (try simp (maxSteps := 1000000) (disch := first | omega | (simp only [Z3]; omega) | (simp; done) | assumption | decide | (refine not_not_intro ?_; assumption)) only [Z1, Z2, splice])
  refine zb9 (Inv := fun k vs H' => ∃ j : Nat, k = 6 - j ∧ j ≤ 6 ∧ vs = [.string s, ptr r 0, W (zgs (((bv s).drop 5).take j)), i64 ((5 + j : Nat) : Int)] ∧ H' = H1) (n := 6) (by unfold zcb; omega)
    ⟨0, by omega, by omega, rfl, rfl⟩ ?_
  rintro k vs H' ⟨j, hk, hj, rfl, he⟩
  rw [he]; clear he H'
  by_cases hlt : j < 6
  · have ix := zgj (s := s) (k := .i64) (i := ((5 + j : Nat) : Int)) (by omega) (by omega)
    rw [Int.toNat_natCast] at ix
    have hv := zbgu ((bv s).drop 5) j (by rw [List.length_drop]; omega)
    have hg : ((bv s).drop 5).getD j 0 = (bv s).getD (5 + j) 0 := by
      rw [List.getD_eq_getElem?_getD, List.getD_eq_getElem?_getD, List.getElem?_drop]
    rw [hg] at hv
    have hd : decide (((5 + j : Nat) : Int) < 11) = true := decide_eq_true (by omega)
    (try simp (maxSteps := 1000000) (disch := first | omega | (simp only [Z3]; omega) | (simp; done) | assumption | decide | (refine not_not_intro ?_; assumption)) only [Z1, Z2, splice, zu4, hd, z13, zbed, ix, zbtd, zboq, z12])
    refine ⟨6 - (j + 1), by omega, j + 1, rfl, by omega, ?_⟩
    rw [hv, show ((5 + (j + 1) : Nat) : Int) = ((5 + j : Nat) : Int) + 1 by omega]
    exact ⟨rfl, trivial⟩
  have : j = 6 := by omega
  subst this
  have hd : decide (((5 + 6 : Nat) : Int) < 11) = false := by decide
  (try simp (maxSteps := 1000000) (disch := first | omega | (simp only [Z3]; omega) | (simp; done) | assumption | decide | (refine not_not_intro ?_; assumption)) only [Z1, Z2, splice, zu4, hd, z14])
  have hnv := zbos (l := ((bv s).drop 5).take 6) (by rw [List.length_take]; omega)
  have hlt6 : nv (((bv s).drop 5).take 6) < 281474976710656 := by
    refine Nat.lt_of_lt_of_le (zbud _) (Nat.le_trans (Nat.pow_le_pow_right (by omega) (List.length_take_le _ _)) (by decide))
  have i0 := zgj (s := s) (k := .i64) (i := 0) (by omega) (by omega)
  have i1 := zgj (s := s) (k := .i64) (i := 1) (by omega) (by omega)
  have i2 := zgj (s := s) (k := .i64) (i := 2) (by omega) (by omega)
  have i3 := zgj (s := s) (k := .i64) (i := 3) (by omega) (by omega)
  have i4 := zgj (s := s) (k := .i64) (i := 4) (by omega) (by omega)
  rw [show (0 : Int).toNat = 0 from rfl] at i0
  rw [show (1 : Int).toNat = 1 from rfl] at i1
  rw [show (2 : Int).toNat = 2 from rfl] at i2
  rw [show (3 : Int).toNat = 3 from rfl] at i3
  rw [show (4 : Int).toNat = 4 from rfl] at i4
  have hins : zse (bv s) = ⟨(((bv s).getD 0 0).toNat : Int), (((bv s).getD 1 0).toNat : Int) * 256 + (((bv s).getD 2 0).toNat : Int), (((bv s).getD 3 0).toNat : Int) * 256 + (((bv s).getD 4 0).toNat : Int), val6 (((bv s).drop 5).take 6)⟩ := by
    have e : ∀ l : List (BitVec 8), l.length = 11 → zse l = ⟨((l.getD 0 0).toNat : Int), ((l.getD 1 0).toNat : Int) * 256 + ((l.getD 2 0).toNat : Int), ((l.getD 3 0).toNat : Int) * 256 + ((l.getD 4 0).toNat : Int), val6 ((l.drop 5).take 6)⟩ := fun l hl => by
      match l, hl with
      | [a0, a1, a2, a3, a4, a5, a6, a7, a8, a9, a10], _ => simp [zse, nv]
    exact e _ (by rw [hlen, hs])
  have b1 := ((bv s).getD 1 0).isLt
  have b2 := ((bv s).getD 2 0).isLt
  have b3 := ((bv s).getD 3 0).isLt
  have b4 := ((bv s).getD 4 0).isLt
  have fin := hQ (H1.set r (some (.cells true (Flat.enc (zse (bv s)))))) (zbm k1 (.inr (by omega)))
  rw [hins] at fin
  unfold val6 at fin
  generalize (bv s).getD 0 0 = c0 at *
  generalize (bv s).getD 1 0 = c1 at *
  generalize (bv s).getD 2 0 = c2 at *
  generalize (bv s).getD 3 0 = c3 at *
  generalize (bv s).getD 4 0 = c4 at *
  generalize zgs (((bv s).drop 5).take 6) = x at *
  generalize nv (((bv s).drop 5).take 6) = m at *
  by_cases hm : (x.toNat : Int) ≥ 140737488355328
  · rw [if_neg (by omega)] at fin
    (try simp (maxSteps := 1000000) (disch := first | omega | (simp only [Z3]; omega) | (simp; done) | assumption | decide | (refine not_not_intro ?_; assumption)) only [Z1, Z2, splice, decide_eq_true hm, zbq3, zu5, i0, i1, i2, i3, i4, z78, z27, g1])
    rw [zbl1 x (by omega) (by omega), hnv]
    exact fin
  · rw [if_pos (by omega)] at fin
    (try simp (maxSteps := 1000000) (disch := first | omega | (simp only [Z3]; omega) | (simp; done) | assumption | decide | (refine not_not_intro ?_; assumption)) only [Z1, Z2, splice, decide_eq_false hm, zu5, i0, i1, i2, i3, i4, z78, z27, g1])
    rw [zbl2 x (by omega), hnv]
    exact fin
theorem zbny {H0 H : Heap} {L : List Thing} {p q : Nat} {lv rv nv0 : V} {l : List It} {a : Nat} {bad : Bool} (hnv : nv0.isOne = true) (hl : Sl H0 lv l) (hll : l.length ≤ 100000) (ha : a ≤ l.length) (n : Nat) (hn : n ≤ 1024)
    (st : Hp H0 H (cel p [lv, i64 a, .bool bad] :: cel q [nv0, .slice none 0 0, .slice none 0 0, .slice none 0 0, .slice none 0 0, .slice none 0 0] :: L))
    (R : Out → Heap → Prop) (hR : ∀ w1 w2 ts fs a' bad' H', a' ≤ l.length → ts.length ≤ 1024 → fs.length ≤ 1024 → (bad = true → bad' = true) → (bad' = true → bad = true ∨ zii (zk5 9) n (l.drop a) = none) → (bad' = false → ts.length = fs.length ∧ zii (zk5 9) n (l.drop a) = some (ts.zip fs, l.drop a')) → Hp H0 H' (cel p [lv, i64 a', .bool bad'] :: own w1 ts :: own w2 fs :: cel q [nv0, w1, w2, .slice none 0 0, .slice none 0 0, .slice none 0 0] :: L) → R (.brk 0 [rv, lv, ptr p 0, ptr q 0]) H') : wp (zcg zcb zj8 [rv, lv, ptr p 0, ptr q 0, i64 n, i64 0]) R H := by
  have hlen := hl.len
  refine zb9 (Inv := fun k vs H' => ∃ (j : Nat) (w1 w2 : V) (ts fs : List Int) (a' : Nat) (bad' : Bool), k = n - j ∧ j ≤ n ∧ vs = [rv, lv, ptr p 0, ptr q 0, i64 n, i64 j] ∧ a' ≤ l.length ∧ ts.length ≤ j ∧ fs.length ≤ j ∧ Hp H0 H' (cel p [lv, i64 a', .bool bad'] :: own w1 ts :: own w2 fs :: cel q [nv0, w1, w2, .slice none 0 0, .slice none 0 0, .slice none 0 0] :: L) ∧ (bad = true → bad' = true) ∧ (bad' = true → bad = true ∨ zii (zk5 9) n (l.drop a) = none) ∧ (bad' = false → ts.length = j ∧ fs.length = j ∧ zii (zk5 9) n (l.drop a) = (zii (zk5 9) (n - j) (l.drop a')).map fun z => (ts.zip fs ++ z.1, z.2))) (n := n) (by unfold zcb; omega)
    ⟨0, .slice none 0 0, .slice none 0 0, [], [], a, bad, by omega, by omega, rfl, ha, by simp, by simp, ((st.nilo (α := Int)).nilo (α := Int)).perm (by
      refine List.Perm.trans (List.Perm.swap _ _ _) ?_
      refine List.Perm.trans (List.Perm.cons _ (List.Perm.swap _ _ _)) ?_
      exact List.Perm.swap _ _ _), id, fun h => .inl h, fun _ => by simp⟩ ?_
  rintro k vs H2 ⟨j, w1, w2, ts, fs, a', bad', hk, hj, rfl, ha', ht, hfs, s2, hb0, hbt, hbf⟩
  have gp := s2.get (i := 0) rfl
  by_cases hlt : j < n
  case neg =>
    have e0 : n - j = 0 := by omega
    (try simp (maxSteps := 1000000) (disch := first | omega | (simp only [Z3]; omega) | (simp; done) | assumption | decide | (refine not_not_intro ?_; assumption)) only [Z1, Z2, splice, zj8])
    refine hR w1 w2 ts fs a' bad' H2 ha' (by omega) (by omega) hb0 hbt (fun h => ?_) s2
    obtain ⟨z1, z2, z3⟩ := hbf h
    rw [z3, e0]
    simp [zii, z1, z2]
  cases bad' with
  | true =>
    (try simp (maxSteps := 1000000) (disch := first | omega | (simp only [Z3]; omega) | (simp; done) | assumption | decide | (refine not_not_intro ?_; assumption)) only [Z1, Z2, splice, zj8, gp])
    exact hR w1 w2 ts fs a' true H2 ha' (by omega) (by omega) hb0 hbt (fun h => by cases h) s2
  | false =>
  obtain ⟨z1, z2, z3⟩ := hbf rfl
  have hbad : bad = false := by cases bad with | false => rfl | true => exact absurd (hb0 rfl) (by decide)
  obtain ⟨m, hm⟩ : ∃ m, n - j = m + 1 := ⟨n - j - 1, by omega⟩
  rw [hm] at z3
  simp only [zii] at z3
  have g2 := s2.get (i := 3) rfl
  have c1 := zv4 (s2.own (i := 1) rfl).sl
  have c2 := zv4 (s2.own (i := 2) rfl).sl
  (try simp (maxSteps := 1000000) (disch := first | omega | (simp only [Z3]; omega) | (simp; done) | assumption | decide | (refine not_not_intro ?_; assumption)) only [Z1, Z2, splice, zj8, gp, zzw, g2])
  refine z8a hl hll ha' s2 9 _ (fun H3 s3 hb => ?_) fun x H3 _ hlt3 hok3 hp3 s3 => ?_
  · have hnone : zii (zk5 9) n (l.drop a) = none := by
      rcases hb with q | q
      · cases q
      · rw [z3, q]; rfl
    have g3 := s3.get (i := 3) rfl
    (try simp (maxSteps := 1000000) (disch := first | omega | (simp only [Z3]; omega) | (simp; done) | assumption | decide | (refine not_not_intro ?_; assumption)) only [Z1, Z2, splice])
    refine (zbb (by rfl) (cs := zr [(0 : Int)]) (by rfl)).mpr ?_
    have s4 := s3.newo (n := 1) (m := 1) [(0 : Int)] rfl rfl
    generalize H3.push (some (.cells true (zr [(0 : Int)]))) = H4 at *
    have g4 := s4.get (i := 4) rfl
    (try simp (maxSteps := 1000000) (disch := first | omega | (simp only [Z3]; omega) | (simp; done) | assumption | decide | (refine not_not_intro ?_; assumption)) only [Z1, Z2, splice])
    refine zg0 s4 (i := 2) rfl rfl (s4.own (i := 0) rfl).sl (by simp; omega) (by simp; omega) fun w5 H5 s5 => ?_
    have s5 : Hp H0 H5 (own _ [(0 : Int)] :: cel p [lv, i64 a', .bool true] :: own w5 (ts ++ [0]) :: own w2 fs :: cel q [nv0, w1, w2, .slice none 0 0, .slice none 0 0, .slice none 0 0] :: L) := s5
    have g5 := s5.get (i := 4) rfl
    have p5 := s5.get (i := 1) rfl
    have o5 := (s5.own (i := 2) rfl).isOne
    have hq5 := Heap.get_lt g5
    have hpq : q ≠ p := fun e => by
      have := s5.apart2 (i := 4) (j := 1) rfl rfl (by omega) q (by simp [cel])
      exact this (by simp [cel, e])
    have s6 : Hp H0 _ (cel p [lv, i64 a', .bool true] :: own w5 (ts ++ [0]) :: own w2 fs :: cel q [nv0, w5, w2, .slice none 0 0, .slice none 0 0, .slice none 0 0] :: L) := (s5.set (i := 4) rfl [nv0, w5, w2, .slice none 0 0, .slice none 0 0, .slice none 0 0]).tail
    (try simp (maxSteps := 1000000) (disch := first | omega | (simp only [Z3]; omega) | (simp; done) | assumption | decide | (refine not_not_intro ?_; assumption)) only [Z1, Z2, splice, g3, g4, g5, p5, o5, c1])
    generalize H5.set q (some (.cells true [nv0, w5, w2, .slice none 0 0, .slice none 0 0, .slice none 0 0])) = H6 at *
    have g6 := s6.get (i := 3) rfl
    have p6 := s6.get (i := 0) rfl
    have hq6 := Heap.get_lt g6
    have hp6 := Heap.get_lt p6
    have hl6 := (s6.ro hl).len
    by_cases hlt6 : (a' : Int) < l.length
    case neg =>
      have s7 : Hp H0 _ (cel p [lv, i64 a', .bool true] :: own w5 (ts ++ [0]) :: own w2 fs :: cel q [nv0, w5, w2, .slice none 0 0, .slice none 0 0, .slice none 0 0] :: L) := s6.set (i := 0) rfl [lv, i64 a', .bool true]
      (try simp (maxSteps := 1000000) (disch := first | omega | (simp only [Z3]; omega) | (simp; done) | assumption | decide | (refine not_not_intro ?_; assumption)) only [Z1, Z2, splice, p6, hl6, decide_eq_false hlt6, zhb])
      exact ⟨n - (j + 1), by omega, j + 1, w5, w2, ts ++ [0], fs, a', true, rfl, by omega, by push_cast; rfl, ha', by simp; omega, by omega, s7, fun _ => rfl, fun _ => .inr hnone, fun h => by cases h⟩
    have hlt6' : a' < l.length := by omega
    have hl6' := s6.ro hl
    obtain ⟨x0, x1, x2⟩ := z79 hl6' hlt6'
    have a0 := z3b hl6' hlt6' (a' : Int) rfl
    generalize l.getD a' default = y at *
    cases hy : y.t with
    | true =>
      have s7 : Hp H0 _ (cel p [lv, i64 a', .bool true] :: own w5 (ts ++ [0]) :: own w2 fs :: cel q [nv0, w5, w2, .slice none 0 0, .slice none 0 0, .slice none 0 0] :: L) := s6.set (i := 0) rfl [lv, i64 a', .bool true]
      (try simp (maxSteps := 1000000) (disch := first | omega | (simp only [Z3]; omega) | (simp; done) | assumption | decide | (refine not_not_intro ?_; assumption)) only [Z1, Z2, splice, p6, hl6, decide_eq_true hlt6, a0, x0, hy, Bool.not_true, zhb])
      exact ⟨n - (j + 1), by omega, j + 1, w5, w2, ts ++ [0], fs, a', true, rfl, by omega, by push_cast; rfl, ha', by simp; omega, by omega, s7, fun _ => rfl, fun _ => .inr hnone, fun h => by cases h⟩
    | false =>
      (try simp (maxSteps := 1000000) (disch := first | omega | (simp only [Z3]; omega) | (simp; done) | assumption | decide | (refine not_not_intro ?_; assumption)) only [Z1, Z2, splice, p6, g6, hl6, decide_eq_true hlt6, a0, x0, x1, hy, Bool.not_false])
      refine (zbb (by rfl) (cs := zr [y.n]) (by rfl)).mpr ?_
      have s8 := s6.newo (n := 1) (m := 1) [y.n] rfl rfl
      generalize H6.push (some (.cells true (zr [y.n]))) = H8 at *
      have g8 := s8.get (i := 4) rfl
      (try simp (maxSteps := 1000000) (disch := first | omega | (simp only [Z3]; omega) | (simp; done) | assumption | decide | (refine not_not_intro ?_; assumption)) only [Z1, Z2, splice])
      refine zg0 s8 (i := 3) rfl rfl (s8.own (i := 0) rfl).sl (by simp; omega) (by simp; omega) fun w9 H9 s9 => ?_
      have s9 : Hp H0 H9 (own _ [y.n] :: cel p [lv, i64 a', .bool true] :: own w5 (ts ++ [0]) :: own w9 (fs ++ [y.n]) :: cel q [nv0, w5, w2, .slice none 0 0, .slice none 0 0, .slice none 0 0] :: L) := s9
      have g9 := s9.get (i := 4) rfl
      have p9 := s9.get (i := 1) rfl
      have o9 := (s9.own (i := 3) rfl).isOne
      have hq9 := Heap.get_lt g9
      have hp9 := Heap.get_lt p9
      have e1 : ((a' + 1 : Nat) : Int) = (a' : Int) + 1 := by omega
      have s10 : Hp H0 _ (cel p [lv, i64 ((a' : Int) + 1), .bool true] :: own w5 (ts ++ [0]) :: own w9 (fs ++ [y.n]) :: cel q [nv0, w5, w9, .slice none 0 0, .slice none 0 0, .slice none 0 0] :: L) := ((s9.set (i := 4) rfl [nv0, w5, w9, .slice none 0 0, .slice none 0 0, .slice none 0 0]).set (i := 1) rfl [lv, i64 ((a' : Int) + 1), .bool true]).tail
      rw [← e1] at s10
      (try simp (maxSteps := 1000000) (disch := first | omega | (simp only [Z3]; omega) | (simp; done) | assumption | decide | (refine not_not_intro ?_; assumption)) only [Z1, Z2, splice, g8, g9, p9, o9, c2, zhb])
      refine ⟨n - (j + 1), by omega, j + 1, w5, w9, ts ++ [0], fs ++ [y.n], a' + 1, true, rfl, by omega, by push_cast; rfl, by omega, by simp; omega, by simp; omega, ?_, fun _ => rfl, fun _ => .inr hnone, fun h => by cases h⟩
      rw [e1] at s10 ⊢
      exact s10
  · have g3 := s3.get (i := 3) rfl
    (try simp (maxSteps := 1000000) (disch := first | omega | (simp only [Z3]; omega) | (simp; done) | assumption | decide | (refine not_not_intro ?_; assumption)) only [Z1, Z2, splice])
    refine (zbb (by rfl) (cs := zr [x]) (by rfl)).mpr ?_
    have s4 := s3.newo (n := 1) (m := 1) [x] rfl rfl
    generalize H3.push (some (.cells true (zr [x]))) = H4 at *
    have g4 := s4.get (i := 4) rfl
    (try simp (maxSteps := 1000000) (disch := first | omega | (simp only [Z3]; omega) | (simp; done) | assumption | decide | (refine not_not_intro ?_; assumption)) only [Z1, Z2, splice])
    refine zg0 s4 (i := 2) rfl rfl (s4.own (i := 0) rfl).sl (by simp; omega) (by simp; omega) fun w5 H5 s5 => ?_
    have s5 : Hp H0 H5 (own _ [x] :: cel p [lv, i64 ((a' + 1 : Nat) : Int), .bool false] :: own w5 (ts ++ [x]) :: own w2 fs :: cel q [nv0, w1, w2, .slice none 0 0, .slice none 0 0, .slice none 0 0] :: L) := s5
    have g5 := s5.get (i := 4) rfl
    have p5 := s5.get (i := 1) rfl
    have o5 := (s5.own (i := 2) rfl).isOne
    have hq5 := Heap.get_lt g5
    have hpq : q ≠ p := fun e => by
      have := s5.apart2 (i := 4) (j := 1) rfl rfl (by omega) q (by simp [cel])
      exact this (by simp [cel, e])
    have s6 : Hp H0 _ (cel p [lv, i64 ((a' + 1 : Nat) : Int), .bool false] :: own w5 (ts ++ [x]) :: own w2 fs :: cel q [nv0, w5, w2, .slice none 0 0, .slice none 0 0, .slice none 0 0] :: L) := (s5.set (i := 4) rfl [nv0, w5, w2, .slice none 0 0, .slice none 0 0, .slice none 0 0]).tail
    (try simp (maxSteps := 1000000) (disch := first | omega | (simp only [Z3]; omega) | (simp; done) | assumption | decide | (refine not_not_intro ?_; assumption)) only [Z1, Z2, splice, g3, g4, g5, p5, o5, c1])
    generalize H5.set q (some (.cells true [nv0, w5, w2, .slice none 0 0, .slice none 0 0, .slice none 0 0])) = H6 at *
    have g6 := s6.get (i := 3) rfl
    have p6 := s6.get (i := 0) rfl
    have hq6 := Heap.get_lt g6
    have hp6 := Heap.get_lt p6
    have hl6 := (s6.ro hl).len
    rw [hp3] at z3
    simp only [Option.bind_some] at z3
    generalize hA : a' + 1 = A at *
    by_cases hlt6 : (A : Int) < l.length
    case neg =>
      have hnone : zii (zk5 9) n (l.drop a) = none := by
        rw [z3, List.drop_of_length_le (by omega)]; rfl
      have s7 : Hp H0 _ (cel p [lv, i64 A, .bool true] :: own w5 (ts ++ [x]) :: own w2 fs :: cel q [nv0, w5, w2, .slice none 0 0, .slice none 0 0, .slice none 0 0] :: L) := s6.set (i := 0) rfl [lv, i64 A, .bool true]
      (try simp (maxSteps := 1000000) (disch := first | omega | (simp only [Z3]; omega) | (simp; done) | assumption | decide | (refine not_not_intro ?_; assumption)) only [Z1, Z2, splice, p6, hl6, decide_eq_false hlt6, zhb])
      exact ⟨n - (j + 1), by omega, j + 1, w5, w2, ts ++ [x], fs, A, true, rfl, by omega, by push_cast; rfl, by omega, by simp; omega, by omega, s7, fun _ => rfl, fun _ => .inr hnone, fun h => by cases h⟩
    have hlt6' : A < l.length := by omega
    have hl6' := s6.ro hl
    obtain ⟨x0, x1, x2⟩ := z79 hl6' hlt6'
    have a0 := z3b hl6' hlt6' (A : Int) rfl
    have hd := z9r hlt6' default
    generalize l.getD A default = y at *
    rw [hd] at z3
    cases hy : y.t with
    | true =>
      have hnone : zii (zk5 9) n (l.drop a) = none := by
        rw [z3]; simp [zq8, hy]
      have s7 : Hp H0 _ (cel p [lv, i64 A, .bool true] :: own w5 (ts ++ [x]) :: own w2 fs :: cel q [nv0, w5, w2, .slice none 0 0, .slice none 0 0, .slice none 0 0] :: L) := s6.set (i := 0) rfl [lv, i64 A, .bool true]
      (try simp (maxSteps := 1000000) (disch := first | omega | (simp only [Z3]; omega) | (simp; done) | assumption | decide | (refine not_not_intro ?_; assumption)) only [Z1, Z2, splice, p6, hl6, decide_eq_true hlt6, a0, x0, hy, Bool.not_true, zhb])
      exact ⟨n - (j + 1), by omega, j + 1, w5, w2, ts ++ [x], fs, A, true, rfl, by omega, by push_cast; rfl, by omega, by simp; omega, by omega, s7, fun _ => rfl, fun _ => .inr hnone, fun h => by cases h⟩
    | false =>
      have hp1 : zq8 zvc (y :: l.drop (A + 1)) = some (y.n, l.drop (A + 1)) := by simp [zq8, hy, zvc]
      rw [hp1] at z3
      simp only [Option.bind_some] at z3
      (try simp (maxSteps := 1000000) (disch := first | omega | (simp only [Z3]; omega) | (simp; done) | assumption | decide | (refine not_not_intro ?_; assumption)) only [Z1, Z2, splice, p6, g6, hl6, decide_eq_true hlt6, a0, x0, x1, hy, Bool.not_false])
      refine (zbb (by rfl) (cs := zr [y.n]) (by rfl)).mpr ?_
      have s8 := s6.newo (n := 1) (m := 1) [y.n] rfl rfl
      generalize H6.push (some (.cells true (zr [y.n]))) = H8 at *
      have g8 := s8.get (i := 4) rfl
      (try simp (maxSteps := 1000000) (disch := first | omega | (simp only [Z3]; omega) | (simp; done) | assumption | decide | (refine not_not_intro ?_; assumption)) only [Z1, Z2, splice])
      refine zg0 s8 (i := 3) rfl rfl (s8.own (i := 0) rfl).sl (by simp; omega) (by simp; omega) fun w9 H9 s9 => ?_
      have s9 : Hp H0 H9 (own _ [y.n] :: cel p [lv, i64 A, .bool false] :: own w5 (ts ++ [x]) :: own w9 (fs ++ [y.n]) :: cel q [nv0, w5, w2, .slice none 0 0, .slice none 0 0, .slice none 0 0] :: L) := s9
      have g9 := s9.get (i := 4) rfl
      have p9 := s9.get (i := 1) rfl
      have o9 := (s9.own (i := 3) rfl).isOne
      have hq9 := Heap.get_lt g9
      have hp9 := Heap.get_lt p9
      have e1 : ((A + 1 : Nat) : Int) = (A : Int) + 1 := by omega
      have s10 : Hp H0 _ (cel p [lv, i64 ((A : Int) + 1), .bool false] :: own w5 (ts ++ [x]) :: own w9 (fs ++ [y.n]) :: cel q [nv0, w5, w9, .slice none 0 0, .slice none 0 0, .slice none 0 0] :: L) := ((s9.set (i := 4) rfl [nv0, w5, w9, .slice none 0 0, .slice none 0 0, .slice none 0 0]).set (i := 1) rfl [lv, i64 ((A : Int) + 1), .bool false]).tail
      (try simp (maxSteps := 1000000) (disch := first | omega | (simp only [Z3]; omega) | (simp; done) | assumption | decide | (refine not_not_intro ?_; assumption)) only [Z1, Z2, splice, g8, g9, p9, o9, c2, zhb])
      refine ⟨n - (j + 1), by omega, j + 1, w5, w9, ts ++ [x], fs ++ [y.n], A + 1, false, rfl, by omega, by push_cast; rfl, by omega, by simp; omega, by simp; omega, ?_, (fun h => by rw [hbad] at h; cases h), (fun h => by cases h), fun _ => ⟨by simp [z1], by simp [z2], ?_⟩⟩
      · rw [e1]; exact s10
      · rw [z3, show n - (j + 1) = m by omega, List.zip_append (by omega)]
        simp only [Option.map_map]
        congr 1
        funext z
        simp
end Go.AM.Cap
