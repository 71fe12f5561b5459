import Derived.Test.YtcmimkacafphkaaGreatDoorCoPe
import Derived.Test.YtcmimkacafphkaaGreatDoorAmOpenF
set_option linter.all false
/- code: the document's reader -/
set_option maxHeartbeats 16000000
namespace Go.AM.Cap
open Go.AM Go.Proofs
def zk5 (m : Int) (n : Int) : Bool := decide (0 ≤ n ∧ n ≤ m)
theorem z9r {α : Type} {l : List α} {a : Nat} (h : a < l.length) (d : α) : l.drop a = l.getD a d :: l.drop (a + 1) := by
  rw [List.drop_eq_getElem_cons h, List.getD_eq_getElem?_getD, List.getElem?_eq_getElem h]
  rfl
theorem z79 {H : Heap} {lv : V} {l : List It} (h : Sl H lv l) {a : Nat} (ha : a < l.length) :
    zbcj (H.get (slB lv)) (slO lv + a * 3) = some (.bool (l.getD a default).t) ∧ zbcj (H.get (slB lv)) (slO lv + a * 3 + 1) = some (i64 (l.getD a default).n) ∧ zbcj (H.get (slB lv)) (slO lv + a * 3 + 2) = some (.string (l.getD a default).s) := by
  have c0 := h.cell' (n := 3) rfl (off := 0) ha (by omega) default
  have c1 := h.cell' (n := 3) rfl (off := 1) ha (by omega) default
  have c2 := h.cell' (n := 3) rfl (off := 2) ha (by omega) default
  rw [zv] at c0 c1 c2
  exact ⟨c0, c1, c2⟩
theorem z3b {H : Heap} {lv : V} {l : List It} (h : Sl H lv l) {a : Nat} (ha : a < l.length) (i : Int) (hi : i = a) : zbo 3 lv (i64 i) = some (ptr (slB lv) (slO lv + a * 3)) := by
  subst hi
  have := h.addr' (n := 3) rfl (k := .i64) (i := (a : Int)) (by omega) (by omega)
  rwa [Int.toNat_natCast] at this
theorem z8a {H0 H : Heap} {L : List Thing} {p : Nat} {lv : V} {l : List It} {a : Nat} {bad : Bool} (hl : Sl H0 lv l) (hll : l.length ≤ 100000) (ha : a ≤ l.length) (st : Hp H0 H (cel p [lv, i64 a, .bool bad] :: L)) (m : Int)
    (Q : V → Heap → Prop) (h0 : ∀ H', Hp H0 H' (cel p [lv, i64 a, .bool true] :: L) → (bad = true ∨ zq8 (zk5 m) (l.drop a) = none) → Q (i64 0) H')
    (h1 : ∀ n H', bad = false → a < l.length → zk5 m n = true → zq8 (zk5 m) (l.drop a) = some (n, l.drop (a + 1)) → Hp H0 H' (cel p [lv, i64 ((a + 1 : Nat) : Int), .bool false] :: L) → Q (i64 n) H') : wp (zc7 [ptr p 0, i64 m]) Q H := by
  show wp (zj2 (ptr p 0) (i64 m)) Q H
  unfold zj2
  have gp := st.get (i := 0) rfl
  have hp := Heap.get_lt gp
  have hl1 := st.ro hl
  have hlen := hl1.len
  have fail : (bad = true ∨ zq8 (zk5 m) (l.drop a) = none) → Q (i64 0) (H.set p (some (.cells true [lv, i64 a, .bool true]))) := fun q => h0 _ (st.set (i := 0) rfl _) q
  cases bad with
  | true =>
    (try simp (maxSteps := 1000000) (disch := first | omega | (simp only [Z3]; omega) | (simp; done) | assumption | decide | (refine not_not_intro ?_; assumption)) only [Z1, Z2, splice, gp])
    exact fail (.inl rfl)
  | false =>
  by_cases hlt : (a : Int) ≥ l.length
  · (try simp (maxSteps := 1000000) (disch := first | omega | (simp only [Z3]; omega) | (simp; done) | assumption | decide | (refine not_not_intro ?_; assumption)) only [Z1, Z2, splice, gp, hlen, decide_eq_true hlt])
    refine fail (.inr ?_)
    rw [List.drop_of_length_le (by omega)]; rfl
  have hlt' : a < l.length := by omega
  obtain ⟨c0, c1, c2⟩ := z79 hl1 hlt'
  have a0 := z3b hl1 hlt' (a : Int) rfl
  have a1 := z3b hl1 hlt' ((a : Int) + 1 - 1) (by omega)
  have hd := z9r hlt' default
  have hblk : slB lv ≠ p := by
    rcases hl with ⟨_, e⟩ | ⟨b, o, u, c, rfl, _, hb, _⟩
    · rw [e] at hlt'; simp at hlt'
    · intro q
      have h2 := st.newAt (i := 0) rfl p (by simp [cel])
      have : b = p := q
      rw [this] at hb
      have hne : l ≠ [] := fun e => by rw [e] at hlt'; simp at hlt'
      omega
  generalize l.getD a default = x at *
  rw [hd] at fail h1
  cases hx : x.t with
  | true =>
    (try simp (maxSteps := 1000000) (disch := first | omega | (simp only [Z3]; omega) | (simp; done) | assumption | decide | (refine not_not_intro ?_; assumption)) only [Z1, Z2, splice, gp, hlen, decide_eq_false hlt, a0, c0, hx])
    refine fail (.inr ?_)
    simp [zq8, hx]
  | false =>
  by_cases q1 : x.n < 0
  · (try simp (maxSteps := 1000000) (disch := first | omega | (simp only [Z3]; omega) | (simp; done) | assumption | decide | (refine not_not_intro ?_; assumption)) only [Z1, Z2, splice, gp, hlen, decide_eq_false hlt, a0, c0, c1, hx, decide_eq_true q1])
    refine fail (.inr ?_)
    simp [zq8, zk5, hx]; omega
  by_cases q2 : x.n > m
  · (try simp (maxSteps := 1000000) (disch := first | omega | (simp only [Z3]; omega) | (simp; done) | assumption | decide | (refine not_not_intro ?_; assumption)) only [Z1, Z2, splice, gp, hlen, decide_eq_false hlt, a0, c0, c1, hx, decide_eq_false q1, decide_eq_true q2])
    refine fail (.inr ?_)
    simp [zq8, zk5, hx]; omega
  have hok : zk5 m x.n = true := by simp [zk5]; omega
  have fin := h1 x.n (H.set p (some (.cells true [lv, i64 ((a + 1 : Nat) : Int), .bool false]))) rfl hlt' hok (by simp [zq8, hx, hok]) (st.set (i := 0) rfl _)
  have e : ((a + 1 : Nat) : Int) = (a : Int) + 1 := by omega
  rw [e] at fin
  (try simp (maxSteps := 1000000) (disch := first | omega | (simp only [Z3]; omega) | (simp; done) | assumption | decide | (refine not_not_intro ?_; assumption)) only [Z1, Z2, splice, gp, hlen, decide_eq_false hlt, a0, c0, c1, hx, decide_eq_false q1, decide_eq_false q2, zs4, a1])
  exact fin
theorem zbq1 {H0 H : Heap} {L : List Thing} {p : Nat} {lv : V} {l : List It} {a : Nat} {bad : Bool} (hl : Sl H0 lv l) (hll : l.length ≤ 100000) (ha : a ≤ l.length) (st : Hp H0 H (cel p [lv, i64 a, .bool bad] :: L))
    (Q : V → Heap → Prop) (h0 : ∀ H', Hp H0 H' (cel p [lv, i64 a, .bool true] :: L) → (bad = true ∨ zqn (l.drop a) = none) → Q (.string ⟨#[]⟩) H')
    (h1 : ∀ s H', bad = false → a < l.length → zqn (l.drop a) = some (s, l.drop (a + 1)) → Hp H0 H' (cel p [lv, i64 ((a + 1 : Nat) : Int), .bool false] :: L) → Q (.string s) H') : wp (zeq [ptr p 0]) Q H := by
  show wp (zi3 (ptr p 0)) Q H
  unfold zi3
  have gp := st.get (i := 0) rfl
  have hp := Heap.get_lt gp
  have hl1 := st.ro hl
  have hlen := hl1.len
  have fail : (bad = true ∨ zqn (l.drop a) = none) → Q (.string ⟨#[]⟩) (H.set p (some (.cells true [lv, i64 a, .bool true]))) := fun q => h0 _ (st.set (i := 0) rfl _) q
  cases bad with
  | true =>
    (try simp (maxSteps := 1000000) (disch := first | omega | (simp only [Z3]; omega) | (simp; done) | assumption | decide | (refine not_not_intro ?_; assumption)) only [Z1, Z2, splice, gp])
    exact fail (.inl rfl)
  | false =>
  by_cases hlt : (a : Int) ≥ l.length
  · (try simp (maxSteps := 1000000) (disch := first | omega | (simp only [Z3]; omega) | (simp; done) | assumption | decide | (refine not_not_intro ?_; assumption)) only [Z1, Z2, splice, gp, hlen, decide_eq_true hlt])
    refine fail (.inr ?_)
    rw [List.drop_of_length_le (by omega)]; rfl
  have hlt' : a < l.length := by omega
  obtain ⟨c0, c1, c2⟩ := z79 hl1 hlt'
  have a0 := z3b hl1 hlt' (a : Int) rfl
  have a1 := z3b hl1 hlt' ((a : Int) + 1 - 1) (by omega)
  have hd := z9r hlt' default
  have hblk : slB lv ≠ p := by
    rcases hl with ⟨_, e⟩ | ⟨b, o, u, c, rfl, _, hb, _⟩
    · rw [e] at hlt'; simp at hlt'
    · intro q
      have h2 := st.newAt (i := 0) rfl p (by simp [cel])
      have : b = p := q
      rw [this] at hb
      have hne : l ≠ [] := fun e => by rw [e] at hlt'; simp at hlt'
      omega
  generalize l.getD a default = x at *
  rw [hd] at fail h1
  cases hx : x.t with
  | false =>
    (try simp (maxSteps := 1000000) (disch := first | omega | (simp only [Z3]; omega) | (simp; done) | assumption | decide | (refine not_not_intro ?_; assumption)) only [Z1, Z2, splice, gp, hlen, decide_eq_false hlt, a0, c0, hx])
    refine fail (.inr ?_)
    simp [zqn, hx]
  | true =>
  have fin := h1 x.s (H.set p (some (.cells true [lv, i64 ((a + 1 : Nat) : Int), .bool false]))) rfl hlt' (by simp [zqn, hx]) (st.set (i := 0) rfl _)
  have e : ((a + 1 : Nat) : Int) = (a : Int) + 1 := by omega
  rw [e] at fin
  (try simp (maxSteps := 1000000) (disch := first | omega | (simp only [Z3]; omega) | (simp; done) | assumption | decide | (refine not_not_intro ?_; assumption)) only [Z1, Z2, splice, gp, hlen, decide_eq_false hlt, a0, c0, c2, hx, zr6, a1])
  exact fin
theorem zbq2 {H0 H : Heap} {L : List Thing} {p : Nat} {lv : V} {l : List It} {a : Nat} {bad : Bool} (hl : Sl H0 lv l) (hll : l.length ≤ 100000) (ha : a ≤ l.length) (st : Hp H0 H (cel p [lv, i64 a, .bool bad] :: L))
    (Q : V → Heap → Prop) (h0 : ∀ w xs a' H', a' ≤ l.length → xs.length ≤ 1024 → Hp H0 H' (own (α := Int) w xs :: cel p [lv, i64 a', .bool true] :: L) → (bad = true ∨ zqo (zk5 1024) (l.drop a) = none) → Q w H')
    (h1 : ∀ w xs a' H', bad = false → a' ≤ l.length → xs.length ≤ 1024 → zqo (zk5 1024) (l.drop a) = some (xs, l.drop a') → Hp H0 H' (own w xs :: cel p [lv, i64 a', .bool false] :: L) → Q w H') : wp (zer [ptr p 0]) Q H := by
  show wp (zi4 (ptr p 0)) Q H
  unfold zi4
  (try simp (maxSteps := 1000000) (disch := first | omega | (simp only [Z3]; omega) | (simp; done) | assumption | decide | (refine not_not_intro ?_; assumption)) only [Z1, Z2, splice])
  refine z8a hl hll ha st 1024 _ (fun H1 s1 hb => ?_) fun n H1 hb hlt hok hp1 s1 => ?_
  · have gp := (s1.nilo (α := Int)).get (i := 1) rfl
    (try simp (maxSteps := 1000000) (disch := first | omega | (simp only [Z3]; omega) | (simp; done) | assumption | decide | (refine not_not_intro ?_; assumption)) only [Z1, Z2, splice])
    refine zb9 (Inv := fun k vs H' => vs = [ptr p 0, .slice none 0 0, i64 0, i64 0] ∧ H' = H1) (n := 0) (by unfold zcb; omega) ⟨rfl, rfl⟩ ?_
    rintro k vs H' ⟨rfl, rfl⟩
    (try simp (maxSteps := 1000000) (disch := first | omega | (simp only [Z3]; omega) | (simp; done) | assumption | decide | (refine not_not_intro ?_; assumption)) only [Z1, Z2, splice, zgy, zis])
    refine h0 _ [] a _ ha (by simp) s1.nilo ?_
    rcases hb with q | q
    · exact .inl q
    · refine .inr ?_
      unfold zqo
      rw [show znz = zk5 1024 from rfl, q]; rfl
  · subst hb
    have ho := zq9.1 hok
    obtain ⟨n, rfl⟩ := Int.eq_ofNat_of_zero_le ho.1
    have hpl : zqo (zk5 1024) (l.drop a) = zs8 (zk5 1024) n (l.drop (a + 1)) := by
      unfold zqo
      rw [show znz = zk5 1024 from rfl, hp1]
      simp
    rw [hpl] at h0 h1
    (try simp (maxSteps := 1000000) (disch := first | omega | (simp only [Z3]; omega) | (simp; done) | assumption | decide | (refine not_not_intro ?_; assumption)) only [Z1, Z2, splice])
    refine zb9 (Inv := fun k vs H' => ∃ (j : Nat) (w : V) (acc : List Int) (a' : Nat) (bad : Bool), k = n - j ∧ j ≤ n ∧ vs = [ptr p 0, w, i64 n, i64 j] ∧ a' ≤ l.length ∧ Hp H0 H' (own w acc :: cel p [lv, i64 a', .bool bad] :: L) ∧ acc.length = j ∧ (bad = true → zs8 (zk5 1024) n (l.drop (a + 1)) = none) ∧ (bad = false → zs8 (zk5 1024) n (l.drop (a + 1)) = (zs8 (zk5 1024) (n - j) (l.drop a')).map fun q => (acc ++ q.1, q.2))) (n := n) (by unfold zcb; omega)
      ⟨0, .slice none 0 0, [], a + 1, false, by omega, by omega, rfl, by omega, s1.nilo, rfl, fun h => by (cases h), fun _ => by simp⟩ ?_
    rintro k vs H2 ⟨j, w, acc, a', bad, hk, hj, rfl, ha', s2, hal, hbt, hbf⟩
    have gp := s2.get (i := 1) rfl
    by_cases hlt2 : j < n
    case neg =>
      have e0 : n - j = 0 := by omega
      (try simp (maxSteps := 1000000) (disch := first | omega | (simp only [Z3]; omega) | (simp; done) | assumption | decide | (refine not_not_intro ?_; assumption)) only [Z1, Z2, splice, zgy, zis])
      cases bad with
      | true => exact h0 w acc a' H2 ha' (by omega) s2 (.inr (hbt rfl))
      | false =>
        refine h1 w acc a' H2 rfl ha' (by omega) ?_ s2
        rw [hbf rfl, e0]
        simp [zs8]
    cases bad with
    | true =>
      (try simp (maxSteps := 1000000) (disch := first | omega | (simp only [Z3]; omega) | (simp; done) | assumption | decide | (refine not_not_intro ?_; assumption)) only [Z1, Z2, splice, zgy, gp, zis])
      exact h0 w acc a' H2 ha' (by omega) s2 (.inr (hbt rfl))
    | false =>
    obtain ⟨m, hm⟩ : ∃ m, n - j = m + 1 := ⟨n - j - 1, by omega⟩
    have hbf := hbf rfl
    rw [hm] at hbf
    simp only [zs8] at hbf
    (try simp (maxSteps := 1000000) (disch := first | omega | (simp only [Z3]; omega) | (simp; done) | assumption | decide | (refine not_not_intro ?_; assumption)) only [Z1, Z2, splice, zgy, gp, zr7])
    refine z8a hl hll ha' (s2.perm (List.Perm.swap _ _ _)) 1024 _ (fun H3 s3 hb => ?_) fun x H3 _ hlt3 _ hp3 s3 => ?_
    · (try simp (maxSteps := 1000000) (disch := first | omega | (simp only [Z3]; omega) | (simp; done) | assumption | decide | (refine not_not_intro ?_; assumption)) only [Z1, Z2, splice])
      refine (zbb (by rfl) (cs := zr [(0 : Int)]) (by rfl)).mpr ?_
      have s4 := s3.newo (n := 1) (m := 1) [(0 : Int)] rfl rfl
      generalize H3.push (some (.cells true (zr [(0 : Int)]))) = H4 at *
      (try simp (maxSteps := 1000000) (disch := first | omega | (simp only [Z3]; omega) | (simp; done) | assumption | decide | (refine not_not_intro ?_; assumption)) only [Z1, Z2, splice])
      refine zg0 s4 (i := 2) rfl rfl (s4.own (i := 0) rfl).sl (by simp; omega) (by simp; omega) fun w5 H5 s5 => ?_
      have s5 : Hp H0 H5 (own _ [(0 : Int)] :: cel p [lv, i64 a', .bool true] :: own w5 (acc ++ [0]) :: L) := s5
      (try simp (maxSteps := 1000000) (disch := first | omega | (simp only [Z3]; omega) | (simp; done) | assumption | decide | (refine not_not_intro ?_; assumption)) only [Z1, Z2, splice, zl6])
      refine ⟨n - (j + 1), by omega, j + 1, w5, acc ++ [0], a', true, rfl, by omega, by push_cast; rfl, ha', s5.tail.perm (List.Perm.swap _ _ _), by simp [hal], fun _ => ?_, fun h => by (cases h)⟩
      rcases hb with q | q
      · cases q
      · rw [hbf, q]; rfl
    · (try simp (maxSteps := 1000000) (disch := first | omega | (simp only [Z3]; omega) | (simp; done) | assumption | decide | (refine not_not_intro ?_; assumption)) only [Z1, Z2, splice])
      refine (zbb (by rfl) (cs := zr [x]) (by rfl)).mpr ?_
      have s4 := s3.newo (n := 1) (m := 1) [x] rfl rfl
      generalize H3.push (some (.cells true (zr [x]))) = H4 at *
      (try simp (maxSteps := 1000000) (disch := first | omega | (simp only [Z3]; omega) | (simp; done) | assumption | decide | (refine not_not_intro ?_; assumption)) only [Z1, Z2, splice])
      refine zg0 s4 (i := 2) rfl rfl (s4.own (i := 0) rfl).sl (by simp; omega) (by simp; omega) fun w5 H5 s5 => ?_
      have s5 : Hp H0 H5 (own _ [x] :: cel p [lv, i64 ((a' + 1 : Nat) : Int), .bool false] :: own w5 (acc ++ [x]) :: L) := s5
      (try simp (maxSteps := 1000000) (disch := first | omega | (simp only [Z3]; omega) | (simp; done) | assumption | decide | (refine not_not_intro ?_; assumption)) only [Z1, Z2, splice, zl6])
      refine ⟨n - (j + 1), by omega, j + 1, w5, acc ++ [x], a' + 1, false, rfl, by omega, by push_cast; rfl, by omega, s5.tail.perm (List.Perm.swap _ _ _), by simp [hal], fun h => by (cases h), fun _ => ?_⟩
      rw [hbf, hp3, show n - (j + 1) = m by omega]
      simp only [Option.bind_some, Option.map_map]
      congr 1
      funext q
      simp
end Go.AM.Cap
