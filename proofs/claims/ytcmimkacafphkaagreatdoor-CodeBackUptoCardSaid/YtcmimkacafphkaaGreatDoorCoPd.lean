import Derived.Test.YtcmimkacafphkaaGreatDoorCoPc
import Derived.Test.YtcmimkacafphkaaGreatDoorAmOpenF
set_option linter.all false
/- code: Decode -/
set_option maxHeartbeats 16000000
namespace Go.AM.Cap
open Go.AM Go.Proofs

/-! ### what is read is what the plain law says -/
theorem tkN_of {l r : List It} {n : Int} (h : pNum okAll l = some (n, r)) : tkN (some l) = (n, some r) := by
  cases l with
  | nil => cases h
  | cons x l =>
    simp only [pNum] at h
    split at h
    · rename_i hx; cases h; simp [tkN, tk, hx.1]
    · cases h
theorem many_of {l r : List It} {n : Int} (h : pNum okLen l = some (n, r)) : manyS (some l) = (n, some r) := by
  cases l with
  | nil => cases h
  | cons x l =>
    simp only [pNum] at h
    split at h
    · rename_i hx
      cases h
      have ho := okLen_iff.1 hx.2
      have e : tkN (some (x :: r)) = (x.n, some r) := by simp [tkN, tk, hx.1]
      unfold manyS
      rw [e, if_neg (by simp only; omega)]
    · cases h
theorem nums_of : ∀ {k : Nat} {l r : List It} {xs : List Int}, pNums okAll k l = some (xs, r) → numsS k (some l) = (xs, some r)
  | 0, l, r, xs, h => by simp only [pNums] at h; cases h; rfl
  | k + 1, l, r, xs, h => by
    simp only [pNums] at h
    obtain ⟨⟨n, l1⟩, h1, h2⟩ := Option.bind_eq_some_iff.1 h
    obtain ⟨⟨ys, r'⟩, h3, h4⟩ := Option.map_eq_some_iff.1 h2
    cases h4
    simp only [numsS]
    rw [tkN_of h1]
    simp only
    rw [nums_of h3]
theorem pairs_of : ∀ {k : Nat} {l r : List It} {xs : List (Int × Int)}, pPairs okAll k l = some (xs, r) → pairsS k (some l) = (xs, some r)
  | 0, l, r, xs, h => by simp only [pPairs] at h; cases h; rfl
  | k + 1, l, r, xs, h => by
    simp only [pPairs] at h
    obtain ⟨⟨n, l1⟩, h1, h2⟩ := Option.bind_eq_some_iff.1 h
    obtain ⟨⟨m, l2⟩, h1', h2⟩ := Option.bind_eq_some_iff.1 h2
    obtain ⟨⟨ys, r'⟩, h3, h4⟩ := Option.map_eq_some_iff.1 h2
    cases h4
    simp only [pairsS]
    rw [tkN_of h1]
    simp only
    rw [tkN_of h1']
    simp only
    rw [pairs_of h3]
theorem list_of {l r : List It} {xs : List Int} (h : pList okAll l = some (xs, r)) : listS (some l) = (xs, some r) := by
  unfold pList at h
  obtain ⟨⟨n, l1⟩, h1, h2⟩ := Option.bind_eq_some_iff.1 h
  unfold listS
  rw [many_of h1]
  exact nums_of h2
theorem text_of {l r : List It} {s : ByteArray} (h : pText l = some (s, r)) : (tk true (some l)).1.s = s ∧ (tk true (some l)).2 = some r := by
  cases l with
  | nil => cases h
  | cons x l =>
    simp only [pText] at h
    split at h
    · rename_i hx; cases h; simp [tk, hx]
    · cases h
def rd1 (σ : Option (List It)) := tk true σ
def rd2 (σ : Option (List It)) := manyS (rd1 σ).2
def rd3 (σ : Option (List It)) := pairsS (rd2 σ).1.toNat (rd2 σ).2
def rd4 (σ : Option (List It)) := listS (rd3 σ).2
def rd5 (σ : Option (List It)) := listS (rd4 σ).2
def rd6 (σ : Option (List It)) := tk true (rd5 σ).2
def ownP (σ : Option (List It)) : PIm := ⟨(rd1 σ).1.s, (rd3 σ).1.map Prod.fst, (rd3 σ).1.map Prod.snd, (rd4 σ).1, (rd5 σ).1, codeD ((rd6 σ).1.s.size / 11) (bv (rd6 σ).1.s)⟩
theorem own_raw {l : List It} {w : Raw} (h : pRaw okAll okAll l = some w) : ownP (some l) = imOf w ∧ (rd6 (some l)).2 = some w.rest := by
  unfold pRaw at h
  obtain ⟨⟨nm, l1⟩, h1, h⟩ := Option.bind_eq_some_iff.1 h
  obtain ⟨⟨n, l2⟩, h2, h⟩ := Option.bind_eq_some_iff.1 h
  obtain ⟨⟨tf, l3⟩, h3, h⟩ := Option.bind_eq_some_iff.1 h
  obtain ⟨⟨is, l4⟩, h4, h⟩ := Option.bind_eq_some_iff.1 h
  obtain ⟨⟨os, l5⟩, h5, h⟩ := Option.bind_eq_some_iff.1 h
  obtain ⟨⟨s, l6⟩, h6, h⟩ := Option.map_eq_some_iff.1 h
  simp only at h2 h3 h4 h5 h6 h
  subst h
  obtain ⟨e1, e1'⟩ := text_of h1
  have q1 : (rd1 (some l)).1.s = nm := e1
  have q1' : (rd1 (some l)).2 = some l1 := e1'
  have q2 : rd2 (some l) = (n, some l2) := by unfold rd2; rw [q1']; exact many_of h2
  have q3 : rd3 (some l) = (tf, some l3) := by unfold rd3; rw [q2]; exact pairs_of h3
  have q4 : rd4 (some l) = (is, some l4) := by unfold rd4; rw [q3]; exact list_of h4
  have q5 : rd5 (some l) = (os, some l5) := by unfold rd5; rw [q4]; exact list_of h5
  obtain ⟨e6, e6'⟩ := text_of h6
  have q6 : (rd6 (some l)).1.s = s := by unfold rd6; rw [q5]; exact e6
  have q6' : (rd6 (some l)).2 = some l6 := by unfold rd6; rw [q5]; exact e6'
  refine ⟨?_, q6'⟩
  unfold ownP imOf
  rw [q1, q3, q4, q5, q6]
/-- a text that is taken is one of the list's -/
theorem tk_mem {t : Bool} {σ : Option (List It)} : (∀ y ∈ (tk t σ).2.getD [], y ∈ σ.getD []) ∧ ((tk t σ).1 = zI ∨ (tk t σ).1 ∈ σ.getD []) := by
  match σ with
  | none => exact ⟨by simp [tk], .inl rfl⟩
  | some [] => exact ⟨by simp [tk], .inl rfl⟩
  | some (x :: l) =>
    by_cases h : x.t = t
    · simp only [tk, h, if_true]
      exact ⟨fun y hy => by simp at hy ⊢; exact .inr hy, .inr (by simp)⟩
    · simp only [tk, h, if_false]
      exact ⟨by simp, .inl trivial⟩
theorem many_mem {σ : Option (List It)} : ∀ y ∈ (manyS σ).2.getD [], y ∈ σ.getD [] := by
  unfold manyS
  split
  · simp
  · exact tk_mem.1
theorem nums_mem : ∀ {k : Nat} {σ : Option (List It)}, ∀ y ∈ (numsS k σ).2.getD [], y ∈ σ.getD []
  | 0, _ => fun y h => h
  | k + 1, σ => fun y h => tk_mem.1 y (nums_mem y h)
theorem pairs_mem : ∀ {k : Nat} {σ : Option (List It)}, ∀ y ∈ (pairsS k σ).2.getD [], y ∈ σ.getD []
  | 0, _ => fun y h => h
  | k + 1, σ => fun y h => tk_mem.1 y (tk_mem.1 y (pairs_mem y h))
theorem list_mem {σ : Option (List It)} : ∀ y ∈ (listS σ).2.getD [], y ∈ σ.getD [] := fun y h => many_mem y (nums_mem y h)
theorem code_small {σ : Option (List It)} (h : ∀ x ∈ σ.getD [], mayI x = true) : (rd6 σ).1.s.size ≤ 65535 := by
  have hall : ∀ y ∈ (rd5 σ).2.getD [], mayI y = true := fun y hy => h y (tk_mem.1 y (many_mem y (pairs_mem y (list_mem y (list_mem y hy)))))
  unfold rd6
  rcases (tk_mem (t := true) (σ := (rd5 σ).2)).2 with q | q
  · rw [q]; decide
  · have := hall _ q
    unfold mayI at this
    split at this
    · simpa using (of_decide_eq_true this).2
    · rw [of_decide_eq_true this]; decide
theorem codeD_succ : ∀ (j : Nat) (l : List (BitVec 8)), codeD (j + 1) l = codeD j l ++ [insD (l.drop (11 * j))]
  | 0, l => by simp [codeD]
  | j + 1, l => by
    have := codeD_succ j (l.drop 11)
    rw [List.drop_drop] at this
    simp only [codeD] at this ⊢
    rw [this]
    simp [show 11 + 11 * j = 11 * (j + 1) by omega]
/-! ### the loops -/
theorem dpairs_ok {H0 H : Heap} {L : List Thing} {E G C : List V → M V} {p q : Nat} {lv bv0 rv nv0 : V} {σ : Option (List It)} (hnv : nv0.isOne = true) (hl : Sl H0 lv (σ.getD [])) (n : Nat) (hn : n ≤ 1024)
    (st : Hp H0 H (cel p [lv, .bool σ.isNone] :: cel q [nv0, .slice none 0 0, .slice none 0 0, .slice none 0 0, .slice none 0 0, .slice none 0 0] :: L))
    (R : Out → Heap → Prop) (hR : ∀ lv' w1 w2 H', Sl H0 lv' ((pairsS n σ).2.getD []) → Hp H0 H' (cel p [lv', .bool (pairsS n σ).2.isNone] :: own w1 ((pairsS n σ).1.map Prod.fst) :: own w2 ((pairsS n σ).1.map Prod.snd) :: cel q [nv0, w1, w2, .slice none 0 0, .slice none 0 0, .slice none 0 0] :: L) → R (.brk 0 [bv0, rv, ptr p 0, ptr q 0]) H') : wp (loopM FUEL (code_Decode_l2 E G C) [bv0, rv, ptr p 0, ptr q 0, i64 n, i64 0]) R H := by
  refine wp_loop (Inv := fun k vs H' => ∃ (j : Nat) (w1 w2 lv' : V) (acc : List (Int × Int)) (σ' : Option (List It)), k = n - j ∧ j ≤ n ∧ vs = [bv0, rv, ptr p 0, ptr q 0, i64 n, i64 j] ∧ Sl H0 lv' (σ'.getD []) ∧ Hp H0 H' (cel p [lv', .bool σ'.isNone] :: own w1 (acc.map Prod.fst) :: own w2 (acc.map Prod.snd) :: cel q [nv0, w1, w2, .slice none 0 0, .slice none 0 0, .slice none 0 0] :: L) ∧ acc.length = j ∧ acc ++ (pairsS (n - j) σ').1 = (pairsS n σ).1 ∧ (pairsS (n - j) σ').2 = (pairsS n σ).2) (n := n) (by unfold FUEL; omega)
    ⟨0, .slice none 0 0, .slice none 0 0, lv, [], σ, by omega, by omega, rfl, hl, ((st.nilo (α := Int)).nilo (α := Int)).perm (by
      refine List.Perm.trans (List.Perm.swap _ _ _) ?_
      refine List.Perm.trans (List.Perm.cons _ (List.Perm.swap _ _ _)) ?_
      exact List.Perm.swap _ _ _), rfl, by simp, by simp⟩ ?_
  rintro k vs H2 ⟨j, w1, w2, lv2, acc, σ2, hk, hj, rfl, hl2, s2, ha, h1, h2⟩
  by_cases hlt : j < n
  case neg =>
    have : n - j = 0 := by omega
    rw [this] at h1 h2
    simp only [pairsS, List.append_nil] at h1 h2
    (try simp (maxSteps := 1000000) (disch := first | omega | (simp only [Z3]; omega) | (simp; done) | assumption | decide | (refine not_not_intro ?_; assumption)) only [Z1, Z2, splice, code_Decode_l2])
    exact hR lv2 w1 w2 H2 (by rw [← h2]; exact hl2) (by rw [← h1, ← h2]; exact s2)
  obtain ⟨m, hm⟩ : ∃ m, n - j = m + 1 := ⟨n - j - 1, by omega⟩
  rw [hm] at h1 h2
  simp only [pairsS] at h1 h2
  have g2 := s2.get (i := 3) rfl
  have c1 := chk_slc (s2.own (i := 1) rfl).sl
  (try simp (maxSteps := 1000000) (disch := first | omega | (simp only [Z3]; omega) | (simp; done) | assumption | decide | (refine not_not_intro ?_; assumption)) only [Z1, Z2, splice, code_Decode_l2, code_Decode_k1, g2])
  refine take_ok hl2 s2 false _ fun lv3 H3 hl3 s3 => ?_
  have g3 := s3.get (i := 3) rfl
  have e2 : (tk false σ2).2 = (tkN σ2).2 := rfl
  have e1 : (tk false σ2).1.n = (tkN σ2).1 := rfl
  rw [e2] at hl3 s3
  rw [enc_it, e1]
  generalize (tkN σ2).1 = x at *
  generalize (tkN σ2).2 = σ3 at *
  (try simp (maxSteps := 1000000) (disch := first | omega | (simp only [Z3]; omega) | (simp; done) | assumption | decide | (refine not_not_intro ?_; assumption)) only [Z1, Z2, splice])
  refine (wp_bslc (by rfl) (cs := encs [x]) (by rfl)).mpr ?_
  have s4 := s3.newo (n := 1) (m := 1) [x] rfl rfl
  generalize H3.push (some (.cells true (encs [x]))) = H4 at *
  have g4 := s4.get (i := 4) rfl
  (try simp (maxSteps := 1000000) (disch := first | omega | (simp only [Z3]; omega) | (simp; done) | assumption | decide | (refine not_not_intro ?_; assumption)) only [Z1, Z2, splice])
  refine st_appV s4 (i := 2) rfl rfl (s4.own (i := 0) rfl).sl (by simp; omega) (by simp; omega) fun w5 H5 s5 => ?_
  have s5 : Hp H0 H5 (own _ [x] :: cel p [lv3, .bool σ3.isNone] :: own w5 (acc.map Prod.fst ++ [x]) :: own w2 (acc.map Prod.snd) :: cel q [nv0, w1, w2, .slice none 0 0, .slice none 0 0, .slice none 0 0] :: L) := s5
  have g5 := s5.get (i := 4) rfl
  have o5 := (s5.own (i := 2) rfl).isOne
  have s6 := (s5.set (i := 4) rfl [nv0, w5, w2, .slice none 0 0, .slice none 0 0, .slice none 0 0]).tail
  have hq5 := Heap.get_lt g5
  have c2 := chk_slc (s2.own (i := 2) rfl).sl
  (try simp (maxSteps := 1000000) (disch := first | omega | (simp only [Z3]; omega) | (simp; done) | assumption | decide | (refine not_not_intro ?_; assumption)) only [Z1, Z2, splice, g3, g4, g5, o5, c1])
  generalize H5.set q (some (.cells true [nv0, w5, w2, .slice none 0 0, .slice none 0 0, .slice none 0 0])) = H6 at *
  have s6 : Hp H0 H6 (cel p [lv3, .bool σ3.isNone] :: own w5 (acc.map Prod.fst ++ [x]) :: own w2 (acc.map Prod.snd) :: cel q [nv0, w5, w2, .slice none 0 0, .slice none 0 0, .slice none 0 0] :: L) := s6
  have g6 := s6.get (i := 3) rfl
  (try simp (maxSteps := 1000000) (disch := first | omega | (simp only [Z3]; omega) | (simp; done) | assumption | decide | (refine not_not_intro ?_; assumption)) only [Z1, Z2, splice, g6])
  refine take_ok hl3 s6 false _ fun lv7 H7 hl7 s7 => ?_
  have g7 := s7.get (i := 3) rfl
  have e2 : (tk false σ3).2 = (tkN σ3).2 := rfl
  have e1 : (tk false σ3).1.n = (tkN σ3).1 := rfl
  rw [e2] at hl7 s7
  rw [enc_it, e1]
  generalize (tkN σ3).1 = y at *
  generalize (tkN σ3).2 = σ7 at *
  (try simp (maxSteps := 1000000) (disch := first | omega | (simp only [Z3]; omega) | (simp; done) | assumption | decide | (refine not_not_intro ?_; assumption)) only [Z1, Z2, splice])
  refine (wp_bslc (by rfl) (cs := encs [y]) (by rfl)).mpr ?_
  have s8 := s7.newo (n := 1) (m := 1) [y] rfl rfl
  generalize H7.push (some (.cells true (encs [y]))) = H8 at *
  have g8 := s8.get (i := 4) rfl
  (try simp (maxSteps := 1000000) (disch := first | omega | (simp only [Z3]; omega) | (simp; done) | assumption | decide | (refine not_not_intro ?_; assumption)) only [Z1, Z2, splice])
  refine st_appV s8 (i := 3) rfl rfl (s8.own (i := 0) rfl).sl (by simp; omega) (by simp; omega) fun w9 H9 s9 => ?_
  have s9 : Hp H0 H9 (own _ [y] :: cel p [lv7, .bool σ7.isNone] :: own w5 (acc.map Prod.fst ++ [x]) :: own w9 (acc.map Prod.snd ++ [y]) :: cel q [nv0, w5, w2, .slice none 0 0, .slice none 0 0, .slice none 0 0] :: L) := s9
  have g9 := s9.get (i := 4) rfl
  have o9 := (s9.own (i := 3) rfl).isOne
  have s10 := (s9.set (i := 4) rfl [nv0, w5, w9, .slice none 0 0, .slice none 0 0, .slice none 0 0]).tail
  have hq9 := Heap.get_lt g9
  (try simp (maxSteps := 1000000) (disch := first | omega | (simp only [Z3]; omega) | (simp; done) | assumption | decide | (refine not_not_intro ?_; assumption)) only [Z1, Z2, splice, g7, g8, g9, o9, c2, code_Decode_k0])
  refine ⟨n - (j + 1), by omega, j + 1, w5, w9, lv7, acc ++ [(x, y)], σ7, rfl, by omega, by push_cast; rfl, hl7, ?_, by simp [ha], ?_, ?_⟩
  · rw [List.map_append, List.map_append]; exact s10
  · rw [show n - (j + 1) = m by omega, ← h1, List.append_assoc]; rfl
  · rw [show n - (j + 1) = m by omega]; exact h2
theorem dcode_ok {H0 H : Heap} {L : List Thing} {E G C : List V → M V} {q : Nat} {a0 a1 a2 a3 a4 bv0 rv pv : V} (s : ByteArray) (hs : s.size ≤ 65535)
    (st : Hp H0 H (cel q [a0, a1, a2, a3, a4, .slice none 0 0] :: L))
    (R : Out → Heap → Prop) (hR : ∀ w H', Hp H0 H' (own w (codeD (s.size / 11) (bv s)) :: cel q [a0, a1, a2, a3, a4, w] :: L) → R (.brk 2 [bv0, rv, pv, ptr q 0]) H') : wp (loopM FUEL (code_Decode_l5 E G C) [bv0, rv, pv, ptr q 0, .string s]) R H := by
  refine wp_loop (Inv := fun k vs H' => ∃ (j : Nat) (w : V) (s' : ByteArray), k = s'.size ∧ vs = [bv0, rv, pv, ptr q 0, .string s'] ∧ bv s' = (bv s).drop (11 * j) ∧ 11 * j ≤ s.size ∧ Hp H0 H' (own w (codeD j (bv s)) :: cel q [a0, a1, a2, a3, a4, w] :: L)) (n := s.size) (by unfold FUEL; omega)
    ⟨0, .slice none 0 0, s, rfl, rfl, by simp, by omega, st.nilo⟩ ?_
  rintro k vs H1 ⟨j, w1, s', hk, rfl, hb, hj, s1⟩
  have hsz : s'.size = s.size - 11 * j := by rw [← bv_length, hb, List.length_drop, bv_length]
  by_cases hlt : (s'.size : Int) ≥ 11
  case neg =>
    have : s.size / 11 = j := by omega
    rw [← this] at s1
    (try simp (maxSteps := 1000000) (disch := first | omega | (simp only [Z3]; omega) | (simp; done) | assumption | decide | (refine not_not_intro ?_; assumption)) only [Z1, Z2, splice, code_Decode_l5, decide_eq_false hlt])
    exact hR _ _ s1
  have g1 := s1.get (i := 1) rfl
  have x1 := subS_both (s := s') (k := .i64) (k' := .i64) (a := 5) (b := 11) (by omega) (by omega) (by omega)
  have x2 := subS_both (s := s') (k := .i64) (k' := .i64) (a := 1) (b := 3) (by omega) (by omega) (by omega)
  have x3 := subS_both (s := s') (k := .i64) (k' := .i64) (a := 3) (b := 5) (by omega) (by omega) (by omega)
  have x4 := subS_lo (s := s') (k := .i64) (a := 11) (by omega) (by omega)
  have i0 := idxS_bv (s := s') (k := .i64) (i := 0) (by omega) (by omega)
  rw [show (0 : Int).toNat = 0 from rfl] at i0
  rw [show (5 : Int).toNat = 5 from rfl, show (11 : Int).toNat = 11 from rfl] at x1
  rw [show (1 : Int).toNat = 1 from rfl, show (3 : Int).toNat = 3 from rfl] at x2
  rw [show (3 : Int).toNat = 3 from rfl, show (5 : Int).toNat = 5 from rfl] at x3
  rw [show (11 : Int).toNat = 11 from rfl] at x4
  have u1 := uns_eq (s'.extract 5 11) (by rw [size_extract _ (by omega)]; omega)
  have u2 := uns_eq (s'.extract 1 3) (by rw [size_extract _ (by omega)]; omega)
  have u3 := uns_eq (s'.extract 3 5) (by rw [size_extract _ (by omega)]; omega)
  rw [bv_extract] at u1 u2 u3
  have hlt6 : nv (((bv s').drop 5).take (11 - 5)) < 281474976710656 := by
    refine Nat.lt_of_lt_of_le (nv_lt _) (Nat.le_trans (Nat.pow_le_pow_right (by omega) (List.length_take_le _ _)) (by decide))
  obtain ⟨y, y1, y2⟩ := sx_48 _ hlt6
  have hins : insD (bv s') = ⟨((bv s').getD 0 0).toNat, nv (((bv s').drop 1).take (3 - 1)), nv (((bv s').drop 3).take (5 - 3)), if nv (((bv s').drop 5).take (11 - 5)) < 140737488355328 then (nv (((bv s').drop 5).take (11 - 5)) : Int) else (nv (((bv s').drop 5).take (11 - 5)) : Int) - 281474976710656⟩ := rfl
  have hst := codeD_succ j (bv s)
  rw [← hb] at hst
  generalize (if nv (((bv s').drop 5).take (11 - 5)) < 140737488355328 then (nv (((bv s').drop 5).take (11 - 5)) : Int) else (nv (((bv s').drop 5).take (11 - 5)) : Int) - 281474976710656) = d at *
  generalize nv (((bv s').drop 5).take (11 - 5)) = n5 at *
  generalize nv (((bv s').drop 1).take (3 - 1)) = n1 at *
  generalize nv (((bv s').drop 3).take (5 - 3)) = n3 at *
  have c1 := chk_slc (s1.own (i := 0) rfl).sl
  (try simp (maxSteps := 1000000) (disch := first | omega | (simp only [Z3]; omega) | (simp; done) | assumption | decide | (refine not_not_intro ?_; assumption)) only [Z1, Z2, splice, code_Decode_l5, decide_eq_true hlt, code_Decode_k4, x1, x2, x3, i0, u1, u2, u3, y1, y2, byte_i64, g1])
  refine (wp_bslc (by rfl) (cs := encs [insD (bv s')]) (by rw [hins]; rfl)).mpr ?_
  have s2 := s1.newo (n := 4) (m := 1) [insD (bv s')] rfl rfl
  generalize H1.push (some (.cells true (encs [insD (bv s')]))) = H2 at *
  have g2 := s2.get (i := 2) rfl
  (try simp (maxSteps := 1000000) (disch := first | omega | (simp only [Z3]; omega) | (simp; done) | assumption | decide | (refine not_not_intro ?_; assumption)) only [Z1, Z2, splice])
  have hcl := codeD_length j (bv s)
  refine st_appV s2 (i := 1) rfl rfl (s2.own (i := 0) rfl).sl (by rw [hcl, List.length_singleton]; omega) (by rw [hcl, List.length_singleton]; omega) fun w5 H5 s5 => ?_
  have s5 : Hp H0 H5 (own _ [insD (bv s')] :: own w5 (codeD j (bv s) ++ [insD (bv s')]) :: cel q [a0, a1, a2, a3, a4, w1] :: L) := s5
  have g5 := s5.get (i := 2) rfl
  have o5 := (s5.own (i := 1) rfl).isOne
  have s6 := (s5.set (i := 2) rfl [a0, a1, a2, a3, a4, w5]).tail
  have hq5 := Heap.get_lt g5
  (try simp (maxSteps := 1000000) (disch := first | omega | (simp only [Z3]; omega) | (simp; done) | assumption | decide | (refine not_not_intro ?_; assumption)) only [Z1, Z2, splice, g1, g2, g5, o5, c1, code_Decode_k3, x4])
  refine ⟨(s'.extract 11 s'.size).size, by rw [size_extract _ (by omega)]; omega, j + 1, w5, s'.extract 11 s'.size, rfl, rfl, ?_, by omega, ?_⟩
  · rw [bv_extract, hb, List.drop_drop, show 11 * j + 11 = 11 * (j + 1) by omega]
    refine List.take_of_length_le ?_
    rw [List.length_drop, bv_length]
    omega
  · rw [hst]; exact s6
end Go.AM.Cap
