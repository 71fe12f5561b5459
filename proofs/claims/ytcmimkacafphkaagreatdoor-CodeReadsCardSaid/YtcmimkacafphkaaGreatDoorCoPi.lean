import Derived.Test.YtcmimkacafphkaaGreatDoorCoPg
import Derived.Test.YtcmimkacafphkaaGreatDoorAmOpenF
set_option linter.all false
/- code: the document's Decode on the machine -/
set_option maxHeartbeats 16000000
namespace Go.AM.Cap
open Go.AM Go.Proofs
theorem zbq4 {H0 H : Heap} {L : List Thing} {p : Nat} {lv : V} {l : List It} {a : Nat} {bad : Bool} (hl : Sl H0 lv l) (hll : l.length ≤ 100000) (ha : a ≤ l.length) (st : Hp H0 H (cel p [lv, i64 a, .bool bad] :: L)) (m : Int) (hm : 0 ≤ m)
    (Q : V → Heap → Prop) (hQ : ∀ n a' bad' H', a' ≤ l.length → 0 ≤ n → n ≤ m → (bad' = true → bad = true ∨ zq8 (zk5 m) (l.drop a) = none) → (bad' = false → bad = false ∧ zq8 (zk5 m) (l.drop a) = some (n, l.drop a')) → Hp H0 H' (cel p [lv, i64 (a' : Int), .bool bad'] :: L) → Q (i64 n) H') : wp (zc7 [ptr p 0, i64 m]) Q H :=
  z8a hl hll ha st m Q (fun H' s h => hQ 0 a true H' ha (by omega) hm (fun _ => h) (fun q => by cases q) s) (fun n H' hb hlt ho hp s => hQ n (a + 1) false H' (by omega) (by have := of_decide_eq_true ho; omega) (by have := of_decide_eq_true ho; omega) (fun q => by cases q) (fun _ => ⟨hb, hp⟩) s)
theorem zbem {H0 H : Heap} {L : List Thing} {p : Nat} {lv : V} {l : List It} {a : Nat} {bad : Bool} (hl : Sl H0 lv l) (hll : l.length ≤ 100000) (ha : a ≤ l.length) (st : Hp H0 H (cel p [lv, i64 a, .bool bad] :: L))
    (Q : V → Heap → Prop) (hQ : ∀ s a' bad' H', a' ≤ l.length → (bad' = true → bad = true ∨ zqn (l.drop a) = none) → (bad' = false → bad = false ∧ zqn (l.drop a) = some (s, l.drop a')) → Hp H0 H' (cel p [lv, i64 (a' : Int), .bool bad'] :: L) → Q (.string s) H') : wp (zeq [ptr p 0]) Q H :=
  zbq1 hl hll ha st Q (fun H' s h => hQ _ a true H' ha (fun _ => h) (fun q => by cases q) s) (fun n H' hb hlt hp s => hQ n (a + 1) false H' (by omega) (fun q => by cases q) (fun _ => ⟨hb, hp⟩) s)
theorem zben {H0 H : Heap} {L : List Thing} {p : Nat} {lv : V} {l : List It} {a : Nat} {bad : Bool} (hl : Sl H0 lv l) (hll : l.length ≤ 100000) (ha : a ≤ l.length) (st : Hp H0 H (cel p [lv, i64 a, .bool bad] :: L))
    (Q : V → Heap → Prop) (hQ : ∀ w xs a' bad' H', a' ≤ l.length → xs.length ≤ 1024 → (bad' = true → bad = true ∨ zqo znz (l.drop a) = none) → (bad' = false → bad = false ∧ zqo znz (l.drop a) = some (xs, l.drop a')) → Hp H0 H' (own (α := Int) w xs :: cel p [lv, i64 (a' : Int), .bool bad'] :: L) → Q w H') : wp (zer [ptr p 0]) Q H :=
  zbq2 hl hll ha st Q (fun w xs a' H' ha' hx s h => hQ w xs a' true H' ha' hx (fun _ => h) (fun q => by cases q) s) (fun w xs a' H' hb ha' hx hp s => hQ w xs a' false H' ha' hx (fun q => by cases q) (fun _ => ⟨hb, hp⟩) s)
theorem zbq5 {H0 H : Heap} {L : List Thing} {q : Nat} {a0 a1 a2 a3 a4 rv : V} (s : ByteArray) (hs : s.size ≤ 65535) (n : Nat) (hn : s.size = 11 * n)
    (st : Hp H0 H (cel q [a0, a1, a2, a3, a4, .slice none 0 0] :: L))
    (R : Out → Heap → Prop) (hR : ∀ w H', Hp H0 H' (own w (zho n (bv s)) :: cel q [a0, a1, a2, a3, a4, w] :: L) → R (.brk 2 [rv, ptr q 0]) H') : wp (zcg zcb zob [rv, ptr q 0, .string s, i64 0]) R H := by
  refine zb9 (Inv := fun k vs H' => ∃ (j : Nat) (w : V), k = n - j ∧ j ≤ n ∧ vs = [rv, ptr q 0, .string s, i64 ((11 * j : Nat) : Int)] ∧ Hp H0 H' (own w (zho j (bv s)) :: cel q [a0, a1, a2, a3, a4, w] :: L)) (n := n) (by unfold zcb; omega)
    ⟨0, .slice none 0 0, by omega, by omega, rfl, st.nilo⟩ ?_
  rintro k vs H1 ⟨j, w1, hk, hj, rfl, s1⟩
  by_cases hlt : j < n
  case neg =>
    have : j = n := by omega
    subst this
    have hd : decide (((11 * j : Nat) : Int) < (s.size : Int)) = false := decide_eq_false (by omega)
    (try simp (maxSteps := 1000000) (disch := first | omega | (simp only [Z3]; omega) | (simp; done) | assumption | decide | (refine not_not_intro ?_; assumption)) only [Z1, Z2, splice, zob, hd])
    exact hR _ _ s1
  have hd : decide (((11 * j : Nat) : Int) < (s.size : Int)) = true := decide_eq_true (by omega)
  have g1 := s1.get (i := 1) rfl
  have x1 := zoj (s := s) (k := .i64) (k' := .i64) (a := ((11 * j : Nat) : Int)) (b := ((11 * j : Nat) : Int) + 11) (by omega) (by omega) (by omega)
  rw [Int.toNat_natCast, show (((11 * j : Nat) : Int) + 11).toNat = 11 * j + 11 by omega] at x1
  have c1 := zv4 (s1.own (i := 0) rfl).sl
  (try simp (maxSteps := 1000000) (disch := first | omega | (simp only [Z3]; omega) | (simp; done) | assumption | decide | (refine not_not_intro ?_; assumption)) only [Z1, Z2, splice, zob, hd, zzy, x1, g1])
  refine zbug _ (by rw [zhf _ (by omega)]; omega) _ fun H2 k2 => ?_
  have hins : zse (bv (s.extract (11 * j) (11 * j + 11))) = zse ((bv s).drop (11 * j)) := by
    rw [zgf, show 11 * j + 11 - 11 * j = 11 by omega]
    have hl : 11 ≤ ((bv s).drop (11 * j)).length := by rw [List.length_drop, zbl]; omega
    generalize (bv s).drop (11 * j) = l at *
    match l, hl with
    | b0 :: b1 :: b2 :: b3 :: b4 :: b5 :: b6 :: b7 :: b8 :: b9 :: b10 :: r, _ => simp [zse]
  rw [hins]
  have s2 := s1.keep0 k2
  have g2 := s2.get (i := 1) rfl
  (try simp (maxSteps := 1000000) (disch := first | omega | (simp only [Z3]; omega) | (simp; done) | assumption | decide | (refine not_not_intro ?_; assumption)) only [Z1, Z2, splice])
  refine (zbb (by rfl) (cs := zr [zse ((bv s).drop (11 * j))]) (by rfl)).mpr ?_
  have s3 := s2.newo (n := 4) (m := 1) [zse ((bv s).drop (11 * j))] rfl rfl
  generalize H2.push (some (.cells true (zr [zse ((bv s).drop (11 * j))]))) = H3 at *
  have g3 := s3.get (i := 2) rfl
  (try simp (maxSteps := 1000000) (disch := first | omega | (simp only [Z3]; omega) | (simp; done) | assumption | decide | (refine not_not_intro ?_; assumption)) only [Z1, Z2, splice])
  have hcl := zqp j (bv s)
  refine zg0 s3 (i := 1) rfl rfl (s3.own (i := 0) rfl).sl (by rw [hcl, List.length_singleton]; omega) (by rw [hcl, List.length_singleton]; omega) fun w5 H5 s5 => ?_
  have s5 : Hp H0 H5 (own _ [zse ((bv s).drop (11 * j))] :: own w5 (zho j (bv s) ++ [zse ((bv s).drop (11 * j))]) :: cel q [a0, a1, a2, a3, a4, w1] :: L) := s5
  have g5 := s5.get (i := 2) rfl
  have o5 := (s5.own (i := 1) rfl).isOne
  have s6 := (s5.set (i := 2) rfl [a0, a1, a2, a3, a4, w5]).tail
  have hq5 := Heap.get_lt g5
  have e11 : ((11 * (j + 1) : Nat) : Int) = ((11 * j : Nat) : Int) + 11 := by omega
  (try simp (maxSteps := 1000000) (disch := first | omega | (simp only [Z3]; omega) | (simp; done) | assumption | decide | (refine not_not_intro ?_; assumption)) only [Z1, Z2, splice, g2, g3, g5, o5, c1, zzx])
  refine ⟨n - (j + 1), by omega, j + 1, w5, rfl, by omega, by rw [e11], ?_⟩
  rw [z5w]; exact s6
theorem zbq6 {l : List It} {nm s : ByteArray} {n : Int} {tf : List (Int × Int)} {is os : List Int} {a1 a2 a3 a4 a5 a6 : Nat} {b1 b2 b3 b4 b5 b6 : Bool}
    (t1 : b1 = true → zqn l = none) (f1 : b1 = false → zqn l = some (nm, l.drop a1))
    (t2 : b2 = true → b1 = true ∨ zq8 znz (l.drop a1) = none) (f2 : b2 = false → b1 = false ∧ zq8 znz (l.drop a1) = some (n, l.drop a2))
    (t3 : b3 = true → b2 = true ∨ zii (zk5 9) n.toNat (l.drop a2) = none) (f3 : b3 = false → b2 = false ∧ zii (zk5 9) n.toNat (l.drop a2) = some (tf, l.drop a3))
    (t4 : b4 = true → b3 = true ∨ zqo znz (l.drop a3) = none) (f4 : b4 = false → b3 = false ∧ zqo znz (l.drop a3) = some (is, l.drop a4))
    (t5 : b5 = true → b4 = true ∨ zqo znz (l.drop a4) = none) (f5 : b5 = false → b4 = false ∧ zqo znz (l.drop a4) = some (os, l.drop a5))
    (t6 : b6 = true → b5 = true ∨ zqn (l.drop a5) = none) (f6 : b6 = false → b5 = false ∧ zqn (l.drop a5) = some (s, l.drop a6)) :
    (b6 = true → z7z (zk5 9) znz l = none) ∧ (b6 = false → z7z (zk5 9) znz l = some ⟨nm, tf, is, os, s, l.drop a6⟩) := by
  unfold z7z
  cases b1 with
  | true =>
    have := t1 rfl
    rw [this]
    refine ⟨fun _ => rfl, fun h => ?_⟩
    have h5 := (f6 h).1; have h4 := (f5 h5).1; have h3 := (f4 h4).1; have h2 := (f3 h3).1; have h1 := (f2 h2).1
    cases h1
  | false =>
  rw [f1 rfl]
  simp only [Option.bind_some]
  cases b2 with
  | true =>
    rcases t2 rfl with q | q
    · cases q
    rw [q]
    refine ⟨fun _ => rfl, fun h => ?_⟩
    have h5 := (f6 h).1; have h4 := (f5 h5).1; have h3 := (f4 h4).1; have h2 := (f3 h3).1
    cases h2
  | false =>
  rw [(f2 rfl).2]
  simp only [Option.bind_some]
  cases b3 with
  | true =>
    rcases t3 rfl with q | q
    · cases q
    rw [q]
    refine ⟨fun _ => rfl, fun h => ?_⟩
    have h5 := (f6 h).1; have h4 := (f5 h5).1; have h3 := (f4 h4).1
    cases h3
  | false =>
  rw [(f3 rfl).2]
  simp only [Option.bind_some]
  cases b4 with
  | true =>
    rcases t4 rfl with q | q
    · cases q
    rw [q]
    refine ⟨fun _ => rfl, fun h => ?_⟩
    have h5 := (f6 h).1; have h4 := (f5 h5).1
    cases h4
  | false =>
  rw [(f4 rfl).2]
  simp only [Option.bind_some]
  cases b5 with
  | true =>
    rcases t5 rfl with q | q
    · cases q
    rw [q]
    refine ⟨fun _ => rfl, fun h => ?_⟩
    have h5 := (f6 h).1
    cases h5
  | false =>
  rw [(f5 rfl).2]
  simp only [Option.bind_some]
  cases b6 with
  | true =>
    rcases t6 rfl with q | q
    · cases q
    rw [q]
    exact ⟨fun _ => rfl, fun h => by cases h⟩
  | false =>
  rw [(f6 rfl).2]
  exact ⟨(fun h => by cases h), fun _ => rfl⟩
theorem zbuh {pm : PIm} {b : ByteArray} {o : Option Raw} (h : zdj pm = (b, 0)) (hr : z7z (zk5 9) znz (zeu (bv b)).1 = o) : o = some (zbeh pm) ∧ (zeu (bv b)).2 = none ∧ (zfa pm).2 = 0 := by
  obtain ⟨c1, c2⟩ := zt7 h
  rw [c2] at hr ⊢
  rw [← hr, zy9 c1 (zk5 9) znz (fun n h1 h2 => by simp [zk5]; omega) (fun n h1 h2 => zq9.2 ⟨h1, h2⟩)]
  exact ⟨rfl, rfl, c1⟩
end Go.AM.Cap

/- code: the document's Decode, whole -/
set_option maxHeartbeats 16000000
namespace Go.AM.Cap
open Go.AM Go.Proofs
theorem zbnz {H : Heap} (b : ByteArray)
    (Q : V → Heap → Prop) (hQ : ∀ (y : Im) H', Keeps [] H H' → ImAt H' y → y.p = (zh8 b).1 → Q (.tuple #[.agg (Flat.enc y).toArray, i64 (zh8 b).2]) H') : wp (zjl [.string b]) Q H := by
  show wp (zqj (.string b)) Q H
  unfold zqj
  rw [zc4, zc4]
  refine (zcc (by rfl)).mpr ?_
  have k1 := Keeps.push [] H (some (.cells true [.string ⟨#[]⟩, .slice none 0 0, .slice none 0 0, .slice none 0 0, .slice none 0 0, .slice none 0 0]))
  have g1 := Heap.get_push_self H (some (.cells true [.string ⟨#[]⟩, .slice none 0 0, .slice none 0 0, .slice none 0 0, .slice none 0 0, .slice none 0 0]))
  have n1 : (H.push (some (.cells true [.string ⟨#[]⟩, .slice none 0 0, .slice none 0 0, .slice none 0 0, .slice none 0 0, .slice none 0 0]))).next = H.next + 1 := by simp
  generalize H.push (some (.cells true [.string ⟨#[]⟩, .slice none 0 0, .slice none 0 0, .slice none 0 0, .slice none 0 0, .slice none 0 0])) = H1 at *
  generalize hr : H.next = r at *
  (try simp (maxSteps := 1000000) (disch := first | omega | (simp only [Z3]; omega) | (simp; done) | assumption | decide | (refine not_not_intro ?_; assumption)) only [Z1, Z2, splice])
  refine zbvk b _ fun w H2 k2 ow _ hdb => ?_
  have g2 := k2.get g1 (by simp)
  have hr2 := Heap.get_lt g2
  have k02 := k1.trans k2 (by simp)
  have how := ow.isOne
  have fail : ∀ H', Keeps [] H H' → (∀ pm, zdj pm ≠ (b, 0)) → Q (.tuple #[.agg #[.string ⟨#[]⟩, .slice none 0 0, .slice none 0 0, .slice none 0 0, .slice none 0 0, .slice none 0 0], i64 130]) H' := fun H' k hn => by
    have := hQ im0 H' k (zbuf _) (by rw [zo2 hn]; rfl)
    rw [zo2 hn] at this
    exact this
  cases hd : (zeu (bv b)).2 with
  | some e =>
    have hne := hdb e hd
    have hdb' : ¬ (zoc (some e)).2 = 0 := hne
    (try simp (maxSteps := 1000000) (disch := first | omega | (simp only [Z3]; omega) | (simp; done) | assumption | decide | (refine not_not_intro ?_; assumption)) only [Z1, Z2, splice, decide_eq_false hdb', g2])
    refine fail _ (zq (zbm k02 (.inr (by omega)))) (fun pm hpm => ?_)
    have := (zt7 hpm).2
    rw [this] at hd
    cases hd
  | none =>
  have e0 : zoc none = (0, 0) := rfl
  have hll : (zeu (bv b)).1.length ≤ 100000 := by have := (zbjh hd).2; omega
  have hmay := zbjk hd
  have hl0 := ow.sl
  have hraw : ∀ pm, zdj pm = (b, 0) → ∀ o, z7z (zk5 9) znz (zeu (bv b)).1 = o → o = some (zbeh pm) ∧ (zfa pm).2 = 0 := fun pm h o ho => ⟨(zbuh h ho).1, (zbuh h ho).2.2⟩
  have hgood : ∀ w, z7z (zk5 9) znz (zeu (bv b)).1 = some w → w.rest = [] → w.code.size % 11 = 0 → (zfa (imOf w)).2 = 0 → zdj (imOf w) = (b, 0) := fun w h h2 h3 h4 => zbvs hd h h2 h3 h4
  rw [e0]
  (try simp (maxSteps := 1000000) (disch := first | omega | (simp only [Z3]; omega) | (simp; done) | assumption | decide | (refine not_not_intro ?_; assumption)) only [Z1, Z2, splice, zxt, how])
  have hlen0 := hl0.len
  generalize (zeu (bv b)).1 = l at *
  refine (zd8 (vs := [w, i64 0, .bool false]) (by simp [how])).mpr ?_
  have s3 := ((Hp.start H2).push (some (Blk.cells true [i64 0, i64 0]))).newc [w, i64 ((0 : Nat) : Int), .bool false]
  have ez : (i64 ((0 : Nat) : Int)) = (i64 0 : V) := rfl
  rw [← ez]
  generalize (H2.push (some (Blk.cells true [i64 ((0 : Nat) : Int), i64 ((0 : Nat) : Int)]))).push (some (.cells true [w, i64 ((0 : Nat) : Int), .bool false])) = H3 at *
  generalize (H2.push (some (Blk.cells true [i64 ((0 : Nat) : Int), i64 ((0 : Nat) : Int)]))).next = p at *
  refine zbem hl0 hll (by omega) s3 _ fun nm a1 b1 H4 ha1 t1 f1 s4 => ?_
  rw [List.drop_zero] at t1 f1
  (try simp (maxSteps := 1000000) (disch := first | omega | (simp only [Z3]; omega) | (simp; done) | assumption | decide | (refine not_not_intro ?_; assumption)) only [Z1, Z2, splice])
  have s5 := (s4.newc [.string nm, .slice none 0 0, .slice none 0 0, .slice none 0 0, .slice none 0 0, .slice none 0 0]).perm (List.Perm.swap _ _ _)
  generalize H4.push (some (.cells true [.string nm, .slice none 0 0, .slice none 0 0, .slice none 0 0, .slice none 0 0, .slice none 0 0])) = H5 at *
  generalize H4.next = q at *
  refine zbq4 hl0 hll ha1 s5 1024 (by omega) _ fun n a2 b2 H6 ha2 hn0 hn1 t2 f2 s6 => ?_
  obtain ⟨n, rfl⟩ := Int.eq_ofNat_of_zero_le hn0
  (try simp (maxSteps := 1000000) (disch := first | omega | (simp only [Z3]; omega) | (simp; done) | assumption | decide | (refine not_not_intro ?_; assumption)) only [Z1, Z2, splice])
  refine zbny (by rfl) hl0 hll ha2 n (by omega) s6 _ fun w1 w2 ts fs a3 b3 H7 ha3 hts hfs t3' t3 f3 s7 => ?_
  have o1 := (s7.own (i := 1) rfl).isOne
  have o2 := (s7.own (i := 2) rfl).isOne
  (try simp (maxSteps := 1000000) (disch := first | omega | (simp only [Z3]; omega) | (simp; done) | assumption | decide | (refine not_not_intro ?_; assumption)) only [Z1, Z2, splice, zz2])
  refine zben hl0 hll ha3 s7 _ fun w3 is a4 b4 H8 ha4 his t4 f4 s8 => ?_
  have g8 := s8.get (i := 4) rfl
  have h8 := Heap.get_lt g8
  have o3 := (s8.own (i := 0) rfl).isOne
  have s9 := (s8.set (i := 4) rfl [.string nm, w1, w2, w3, .slice none 0 0, .slice none 0 0]).perm (List.Perm.swap _ _ _)
  (try simp (maxSteps := 1000000) (disch := first | omega | (simp only [Z3]; omega) | (simp; done) | assumption | decide | (refine not_not_intro ?_; assumption)) only [Z1, Z2, splice, g8, o3])
  generalize H8.set q (some (.cells true [.string nm, w1, w2, w3, .slice none 0 0, .slice none 0 0])) = H9 at *
  refine zben hl0 hll ha4 s9 _ fun w4 os a5 b5 H10 ha5 hos t5 f5 s10 => ?_
  have g10 := s10.get (i := 5) rfl
  have h10 := Heap.get_lt g10
  have o4 := (s10.own (i := 0) rfl).isOne
  have s11 := (s10.set (i := 5) rfl [.string nm, w1, w2, w3, w4, .slice none 0 0]).perm (List.Perm.swap _ _ _)
  (try simp (maxSteps := 1000000) (disch := first | omega | (simp only [Z3]; omega) | (simp; done) | assumption | decide | (refine not_not_intro ?_; assumption)) only [Z1, Z2, splice, g10, o4])
  generalize H10.set q (some (.cells true [.string nm, w1, w2, w3, w4, .slice none 0 0])) = H11 at *
  refine zbem hl0 hll ha5 s11 _ fun s a6 b6 H12 ha6 t6 f6 s12 => ?_
  have s12 : Hp H2 H12 (cel p [w, i64 a6, .bool b6] :: own w4 os :: own w3 is :: own w1 ts :: own w2 fs :: cel q [.string nm, w1, w2, w3, w4, .slice none 0 0] :: []) := s12
  have s13 := s12.rotN [] [cel p [w, i64 a6, .bool b6], own w4 os, own w3 is, own w1 ts, own w2 fs] [cel q [.string nm, w1, w2, w3, w4, .slice none 0 0]]
  have s13 : Hp H2 H12 (cel q [.string nm, w1, w2, w3, w4, .slice none 0 0] :: cel p [w, i64 a6, .bool b6] :: own w4 os :: own w3 is :: own w1 ts :: own w2 fs :: []) := s13
  have hparts := zbq6 (nm := nm) (s := s) (n := (n : Int)) (tf := ts.zip fs) (is := is) (os := os) (a1 := a1) (a2 := a2) (a3 := a3) (a4 := a4) (a5 := a5) (a6 := a6)
    (fun h => by
      rcases t1 h with z | z
      · cases z
      · exact z) (fun h => (f1 h).2) t2 f2 t3 (fun h => ⟨(by
      cases b2 with
      | false => rfl
      | true => have := t3' rfl; rw [h] at this; cases this), (f3 h).2⟩) t4 f4 t5 f5 t6 f6
  have g12 := s13.keeps.get g2 (by simp)
  have p12 := s13.get (i := 1) rfl
  have hr12 := Heap.get_lt g12
  have k012 := k02.trans s13.keeps (by simp)
  cases b6 with
  | true =>
    have hnone := hparts.1 rfl
    (try simp (maxSteps := 1000000) (disch := first | omega | (simp only [Z3]; omega) | (simp; done) | assumption | decide | (refine not_not_intro ?_; assumption)) only [Z1, Z2, splice, p12, g12])
    exact fail _ (zbm k012 (.inr (by omega))) (fun pm hpm => by have := (hraw pm hpm _ hnone).1; cases this)
  | false =>
  have hsome := hparts.2 rfl
  have hlen3 : ts.length = fs.length := by
    have h5 := (f6 rfl).1; have h4 := (f5 h5).1; have h3 := (f4 h4).1
    exact (f3 h3).1
  by_cases hc1 : (a6 : Int) = l.length
  case neg =>
    (try simp (maxSteps := 1000000) (disch := first | omega | (simp only [Z3]; omega) | (simp; done) | assumption | decide | (refine not_not_intro ?_; assumption)) only [Z1, Z2, splice, p12, g12, hlen0, decide_eq_false hc1])
    refine fail _ (zbm k012 (.inr (by omega))) (fun pm hpm => ?_)
    have := (hraw pm hpm _ hsome).1
    have := congrArg Raw.rest (Option.some.inj this)
    have : l.drop a6 = [] := this
    have := congrArg List.length this
    rw [List.length_drop] at this
    simp at this
    omega
  have hrem : zj .rem (i64 (s.size : Int)) (i64 11) = some (i64 ((s.size : Int) % 11)) := zbsd (by omega) (by omega)
  by_cases hc2 : (s.size : Int) % 11 = 0
  case neg =>
    (try simp (maxSteps := 1000000) (disch := first | omega | (simp only [Z3]; omega) | (simp; done) | assumption | decide | (refine not_not_intro ?_; assumption)) only [Z1, Z2, splice, p12, g12, hlen0, decide_eq_true hc1, hrem, decide_eq_false hc2])
    refine fail _ (zbm k012 (.inr (by omega))) (fun pm hpm => ?_)
    have := (hraw pm hpm _ hsome).1
    have := congrArg Raw.code (Option.some.inj this)
    have : s = sv (zju pm.code) := this
    rw [this, z22, zy8] at hc2
    omega
  obtain ⟨hform, _⟩ := zbgw hmay hsome
  have hsm : s.size ≤ 65535 := by
    have : (⟨true, 0, s⟩ : It) ∈ l := by rw [hform]; simp [rawI]
    have := hmay _ this
    unfold zhe at this
    simpa using this
  have hnm : nm.size ≤ 65535 := by
    have : (⟨true, 0, nm⟩ : It) ∈ l := by rw [hform]; simp [rawI]
    have := hmay _ this
    unfold zhe at this
    simpa using this
  (try simp (maxSteps := 1000000) (disch := first | omega | (simp only [Z3]; omega) | (simp; done) | assumption | decide | (refine not_not_intro ?_; assumption)) only [Z1, Z2, splice, p12, hlen0, decide_eq_true hc1, hrem, decide_eq_true hc2, zz1])
  refine zbq5 s hsm (s.size / 11) (by omega) s13 _ fun w5 H14 s14 => ?_
  have g14 := s14.get (i := 1) rfl
  have o5 := (s14.own (i := 0) rfl).isOne
  let y : Im := ⟨nm, ⟨w1, ts, o1⟩, ⟨w2, fs, o2⟩, ⟨w3, is, o3⟩, ⟨w4, os, o4⟩, ⟨w5, zho (s.size / 11) (bv s), o5⟩⟩
  have hyp : y.p = imOf ⟨nm, ts.zip fs, is, os, s, l.drop a6⟩ := by
    show (⟨nm, ts, fs, is, os, zho (s.size / 11) (bv s)⟩ : PIm) = ⟨nm, (ts.zip fs).map Prod.fst, (ts.zip fs).map Prod.snd, is, os, zho (s.size / 11) (bv s)⟩
    rw [zbov hlen3, zbow hlen3]
  have hya : ImAt H14 y := ⟨(s14.own (i := 5) rfl).sl, (s14.own (i := 6) rfl).sl, (s14.own (i := 4) rfl).sl, (s14.own (i := 3) rfl).sl, (s14.own (i := 0) rfl).sl⟩
  have hye : (Flat.enc y) = [.string nm, w1, w2, w3, w4, w5] := rfl
  have k014 : Keeps [] H H14 := k02.trans s14.keeps (by simp)
  have nw : ∀ i v (xs : List Int), (own w5 (zho (s.size / 11) (bv s)) :: cel q [.string nm, w1, w2, w3, w4, w5] :: cel p [w, i64 a6, .bool false] :: own w4 os :: own w3 is :: own w1 ts :: own w2 fs :: [])[i]? = some (own v xs) → r ∉ vb v := fun i v xs h hm => by
    have := s14.newAt h r hm
    omega
  have n1' := nw 5 w1 _ rfl
  have n2' := nw 6 w2 _ rfl
  have n3' := nw 4 w3 _ rfl
  have n4' := nw 3 w4 _ rfl
  have n5' : r ∉ vb w5 := fun hm => by
    have := s14.newAt (i := 0) rfl r hm
    omega
  clear nw
  have hrest : l.drop a6 = [] := List.drop_of_length_le (by omega)
  (try simp (maxSteps := 1000000) (disch := first | omega | (simp only [Z3]; omega) | (simp; done) | assumption | decide | (refine not_not_intro ?_; assumption)) only [Z1, Z2, splice, zz0, g14])
  rw [← hye]
  refine zbqy hya (by show nm.size ≤ _; omega) (by show ts.length ≤ _; omega) (by show fs.length ≤ _; omega) (by show is.length ≤ _; omega) (by show os.length ≤ _; omega) (by show (zho _ _).length ≤ _; rw [zqp]; omega) _ fun H15 k15 => ?_
  have g15 := k15.get g14 (by simp)
  have r15 := k15.get (s14.keeps.get g2 (by simp)) (by simp)
  have hr15 := Heap.get_lt r15
  have k015 := k014.trans k15 (by simp)
  have hya15 := hya.keep0 k15
  rw [hyp]
  by_cases he : (zfa (imOf ⟨nm, ts.zip fs, is, os, s, l.drop a6⟩)).2 = 0
  case neg =>
    (try simp (maxSteps := 1000000) (disch := first | omega | (simp only [Z3]; omega) | (simp; done) | assumption | decide | (refine not_not_intro ?_; assumption)) only [Z1, Z2, splice, r15, decide_eq_false he])
    refine fail _ (zbm k015 (.inr (by omega))) (fun pm hpm => ?_)
    obtain ⟨z1, z2⟩ := hraw pm hpm _ hsome
    rw [Option.some.inj z1, zbjj z2] at he
    exact he z2
  have henc := hgood _ hsome hrest (by show s.size % 11 = 0; omega) he
  have hds := zza henc
  have fin := hQ y (H15.set r (some (.cells true (Flat.enc y)))) (zbm k015 (.inr (by omega))) (by
    have kk : Keeps [r] H15 (H15.set r (some (.cells true (Flat.enc y)))) := Keeps.set (by simp)
    have nn : ∀ v : V, r ∉ vb v → ∀ b ∈ vb v, b ∉ [r] := fun v hv b hb hm => by simp at hm; subst hm; exact hv hb
    exact ⟨hya15.types.keep kk (nn _ n1'), hya15.first.keep kk (nn _ n2'), hya15.ins.keep kk (nn _ n3'), hya15.outs.keep kk (nn _ n4'), hya15.code.keep kk (nn _ n5')⟩) (by rw [hds]; exact hyp)
  rw [hds] at fin
  have ho : ([.string nm, w1, w2, w3, w4, w5] : List V).all Value.isOne = true := zhd y
  (try simp (maxSteps := 1000000) (disch := first | omega | (simp only [Z3]; omega) | (simp; done) | assumption | decide | (refine not_not_intro ?_; assumption)) only [Z1, Z2, splice, r15, decide_eq_true he, zzz, g15])
  exact fin
end Go.AM.Cap
