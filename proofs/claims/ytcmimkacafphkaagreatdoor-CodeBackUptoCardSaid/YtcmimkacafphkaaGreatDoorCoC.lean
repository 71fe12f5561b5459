import Derived.Test.YtcmimkacafphkaaGreatDoorCoB
import Derived.Test.YtcmimkacafphkaaGreatDoorAmOpenF
set_option linter.all false
/- code: operations: find, has, does, Two, One, Convert -/
set_option maxHeartbeats 16000000
namespace Go.AM.Cap
open Go.AM Go.Proofs

theorem find_op {H : Heap} (n : Int) (Q : V → Heap → Prop) (h0 : ∀ H', Keeps [] H H' → (n < 1 ∨ n > 16) → Q (.tuple #[.agg #[i64 0, .bool false, .nilFunc, .bool false], .bool false]) H')
    (h1 : ∀ H' (i : Nat), Keeps [] H H' → i < 16 → n = (i : Int) + 1 → Q (.tuple #[.agg (Flat.enc (opsT.getD i default)).toArray, .bool true]) H') : wp (A_num_find [i64 n]) Q H := by
  show wp (F_num_find (i64 n)) Q H
  (try simp (maxSteps := 1000000) (disch := first | omega | (simp only [Z3]; omega) | (simp; done) | assumption | decide | (refine not_not_intro ?_; assumption)) only [Z1, Z2, splice, F_num_find])
  have st1 := (Hp.start H).newc [i64 0, .bool false, .nilFunc, .bool false]
  generalize hp : H.next = p at *
  generalize H.push (some (.cells true [i64 0, .bool false, .nilFunc, .bool false])) = H1 at *
  refine (wp_bslc (cs := encs opsT) (by rfl) (by rfl)).mpr ?_
  have st2 := st1.newo (n := 4) (m := 16) opsT rfl rfl
  generalize hq : H1.next = q at *
  generalize H1.push (some (.cells true (encs opsT))) = H2 at *
  have g2 := st2.get (i := 1) rfl
  have o2 := st2.own (i := 0) rfl
  have l2 := Heap.get_lt g2
  by_cases b1 : n < 1
  · (try simp (maxSteps := 1000000) (disch := first | omega | (simp only [Z3]; omega) | (simp; done) | assumption | decide | (refine not_not_intro ?_; assumption)) only [Z1, Z2, splice, g2])
    exact h0 _ (st2.set (i := 1) rfl _).keeps (.inl b1)
  by_cases b2 : n > 16
  · (try simp (maxSteps := 1000000) (disch := first | omega | (simp only [Z3]; omega) | (simp; done) | assumption | decide | (refine not_not_intro ?_; assumption)) only [Z1, Z2, splice, g2])
    exact h0 _ (st2.set (i := 1) rfl _).keeps (.inr b2)
  obtain ⟨i, hi⟩ : ∃ i : Nat, n = (i : Int) + 1 := ⟨(n - 1).toNat, by omega⟩
  have hi16 : i < opsT.length := by show i < 16; omega
  have a1 := o2.sl.addr' (n := 4) rfl (k := .i64) (i := (i : Int)) (by omega) (by omega)
  rw [Int.toNat_natCast] at a1
  have r1 := fun Q => o2.sl.ldn' (Q := Q) (n := 4) rfl hi16 default
  have hsub : n - 1 = (i : Int) := by omega
  have hone := opn_one (opsT.getD i default)
  have h1' := fun H' hk => h1 H' i hk (by omega) hi
  generalize opsT.getD i default = x at *
  (try simp (maxSteps := 1000000) (disch := first | omega | (simp only [Z3]; omega) | (simp; done) | assumption | decide | (refine not_not_intro ?_; assumption)) only [Z1, cellP_get, cellG_cells, wp_st1g, stG_c, eq_self, true_and, wp_stng, stnG_ok, ldG_ok, wp_newcg, wp_boxg, Heap.get_push_eq, Heap.get_push_lt, Heap.get_set_eq, Heap.get_set_ne', Heap.next_push', Heap.next_set', Heap.set_push_lt, Heap.set_push_eq, Heap.set_set, fld1_agg, fldn_agg, ext_tuple, outV_nil, outV_two, outV_three, outV_four, chk_ld1g, chkO_int, chkO_bool, chkO_str, chkO_ptr, chkO_slc, chkO_map, List.set_cons_zero, List.set_cons_succ, List.length_cons, List.length_nil, List.drop_succ_cons, List.drop_zero, List.take_succ_cons, List.take_zero, List.nil_append, List.cons_append, splice, isOne_int, isOne_str, isOne_bool, isOne_slice, isOne_pointer, isOne_map, condM_nf, condM_nef, gd_nef, gdf_nef, pick_nef, build_eq, fillA_nil, fillA_one, fillA_agg, Option.map_some, resv_one, resv_two, freeIn_nil, fillA_slc, fillA_int, fillA_str, fillA_bool, fillA_ptr, fillA_map, g2, num_find_k0, hsub, a1, r1, enc_opn])
  (try simp (maxSteps := 1000000) (disch := first | omega | (simp only [Z3]; omega) | (simp; done) | assumption | decide | (refine not_not_intro ?_; assumption)) only [Z1, Z2, splice])
  exact h1' _ (st2.set (i := 1) rfl _).keeps
theorem opsT_of : ∀ x ∈ opsT, x.of = 28 ∨ x.of = 12 ∨ x.of = 14 ∨ x.of = 30 := by
  intro x hx
  simp only [opsT, List.mem_cons, List.not_mem_nil, or_false] at hx
  rcases hx with rfl | rfl | rfl | rfl | rfl | rfl | rfl | rfl | rfl | rfl | rfl | rfl | rfl | rfl | rfl | rfl <;> simp
theorem shr_of {a t : Int} (ha : a = 28 ∨ a = 12 ∨ a = 14 ∨ a = 30) (ht : 1 ≤ t ∧ t ≤ 4) : bin .shr (i64 a) (i64 t) = some (i64 (a / 2 ^ t.toNat)) := by
  have h : t = 1 ∨ t = 2 ∨ t = 3 ∨ t = 4 := by omega
  rcases ha with rfl | rfl | rfl | rfl <;> rcases h with rfl | rfl | rfl | rfl <;> rfl
/-- the bit of a type -/
theorem op_has {H : Heap} (x : Opn) (hx : x ∈ opsT) (t : Int) (Q : V → Heap → Prop) (hQ : ∀ H', Keeps [] H H' → Q (.bool (decide ((1 ≤ t ∧ t ≤ 4) ∧ (x.of / 2 ^ t.toNat) % 2 = 1))) H') : wp (A_num_op_has [.agg (Flat.enc x).toArray, i64 t]) Q H := by
  show wp (F_num_op_has (.agg (Flat.enc x).toArray) (i64 t)) Q H
  have ho := opn_one x
  have hof := opsT_of x hx
  by_cases ht : 1 ≤ t ∧ t ≤ 4
  · have hs := shr_of hof ht
    have e : decide ((1 ≤ t ∧ t ≤ 4) ∧ (x.of / 2 ^ t.toNat) % 2 = 1) = decide ((x.of / 2 ^ t.toNat) % 2 = 1) := decide_eq_decide.2 ⟨fun q => q.2, fun q => ⟨ht, q⟩⟩
    rw [e] at hQ
    (try simp (maxSteps := 1000000) (disch := first | omega | (simp only [Z3]; omega) | (simp; done) | assumption | decide | (refine not_not_intro ?_; assumption)) only [Z1, Z2, splice, F_num_op_has, enc_opn, num_known_eq, decide_eq_true ht, hs, i64_and1])
    exact hQ _ (Keeps.push _ _ _)
  · rw [decide_eq_false (fun q => ht q.1)] at hQ
    (try simp (maxSteps := 1000000) (disch := first | omega | (simp only [Z3]; omega) | (simp; done) | assumption | decide | (refine not_not_intro ?_; assumption)) only [Z1, Z2, splice, F_num_op_has, enc_opn, num_known_eq, decide_eq_false ht])
    exact hQ _ (Keeps.push _ _ _)
theorem fits_one {t : Int} (h : 1 ≤ t ∧ t ≤ 4) : fits t 1 := by
  unfold fits; omega
theorem opS_tab : ∀ i, i < 16 → ∀ t : Int, 1 ≤ t ∧ t ≤ 4 → ∀ one : Bool, (((opsT.getD i default).one = one ∧ ((opsT.getD i default).of / 2 ^ t.toNat) % 2 = 1) ↔ opS ((i : Int) + 1) t (if one then 1 else 2) = true) := by
  intro i hi t ht one
  have h : t = 1 ∨ t = 2 ∨ t = 3 ∨ t = 4 := by omega
  have h2 : i = 0 ∨ i = 1 ∨ i = 2 ∨ i = 3 ∨ i = 4 ∨ i = 5 ∨ i = 6 ∨ i = 7 ∨ i = 8 ∨ i = 9 ∨ i = 10 ∨ i = 11 ∨ i = 12 ∨ i = 13 ∨ i = 14 ∨ i = 15 := by omega
  rcases h2 with rfl | rfl | rfl | rfl | rfl | rfl | rfl | rfl | rfl | rfl | rfl | rfl | rfl | rfl | rfl | rfl <;> rcases h with rfl | rfl | rfl | rfl <;> cases one <;> decide
theorem opS_out {n t : Int} (many : Int) (h : n < 1 ∨ n > 16 ∨ t < 1 ∨ t > 4) : opS n t many = false := by
  unfold opS
  by_cases ht : 1 ≤ t ∧ t ≤ 4
  · have hn : n < 1 ∨ n > 16 := by omega
    rw [decide_eq_true ht, Bool.true_and]
    repeat' split
    all_goals first | (apply decide_eq_false; omega) | (exfalso; omega)
  · rw [decide_eq_false ht, Bool.false_and]
/-- of two values or one, is there such an operation? -/
theorem does_ok {H : Heap} (n t : Int) (one : Bool) (Q : V → Heap → Prop) (hQ : ∀ H' r e, Keeps [] H H' → (e = 0 ↔ opS n t (if one then 1 else 2) = true) → Q (.tuple #[i64 r, i64 e]) H') : wp (A_num_does [i64 n, i64 t, .bool one, i64 1, i64 1]) Q H := by
  show wp (F_num_does (i64 n) (i64 t) (.bool one) (i64 1) (i64 1)) Q H
  have ek : ∀ a b : Bool, notIf true (eqK .b (.bool a) (.bool b)) = some (.bool (!(a == b))) := fun _ _ => rfl
  unfold F_num_does
  rw [wp_bnd, wp_bnd]
  refine find_op n _ (fun H1 k1 hn => ?_) (fun H1 i k1 hi hn => ?_)
  · (try simp (maxSteps := 1000000) (disch := first | omega | (simp only [Z3]; omega) | (simp; done) | assumption | decide | (refine not_not_intro ?_; assumption)) only [Z1, Z2, splice])
    exact hQ _ 0 40 (keeps_push k1) (by rw [opS_out _ (by omega)]; simp)
  · have hx : opsT.getD i default ∈ opsT := getD_mem' (d := default) (show i < opsT.length from hi)
    have ht := fun q => opS_tab i hi t q one
    rw [← hn] at ht
    generalize opsT.getD i default = x at *
    have ho := opn_one x
    have k2 : Keeps [] H (H1.push (some (.cells true [i64 x.of, .bool x.one, .func (.func x.f) #[] #[], .bool x.truth]))) := keeps_push k1
    have g2 : (H1.push (some (.cells true [i64 x.of, .bool x.one, .func (.func x.f) #[] #[], .bool x.truth]))).get H1.next = some (.cells true [i64 x.of, .bool x.one, .func (.func x.f) #[] #[], .bool x.truth]) := Heap.get_push_self _ _
    (try simp (maxSteps := 1000000) (disch := first | omega | (simp only [Z3]; omega) | (simp; done) | assumption | decide | (refine not_not_intro ?_; assumption)) only [Z1, Z2, splice, enc_opn])
    generalize H1.push (some (.cells true [i64 x.of, .bool x.one, .func (.func x.f) #[] #[], .bool x.truth])) = H2 at *
    by_cases h1 : x.one = one
    case neg =>
      have hb : (x.one == one) = false := by cases hx1 : x.one <;> cases one <;> simp_all
      have hno : ¬ opS n t (if one then 1 else 2) = true := fun q => by
        by_cases htt : 1 ≤ t ∧ t ≤ 4
        · exact h1 ((ht htt).2 q).1
        · rw [opS_out _ (by omega)] at q; cases q
      (try simp (maxSteps := 1000000) (disch := first | omega | (simp only [Z3]; omega) | (simp; done) | assumption | decide | (refine not_not_intro ?_; assumption)) only [Z1, Z2, splice, ek, hb, Bool.not_false])
      exact hQ _ 0 40 k2 (by simp [hno])
    have hb : (x.one == one) = true := by rw [h1]; simp
    (try simp (maxSteps := 1000000) (disch := first | omega | (simp only [Z3]; omega) | (simp; done) | assumption | decide | (refine not_not_intro ?_; assumption)) only [Z1, Z2, splice, ek, hb, Bool.not_true, g2])
    refine op_has x hx t _ fun H3 k3 => ?_
    have g3 := k3.get g2 (by simp)
    have k03 := k2.trans k3 (by simp)
    by_cases h2 : (1 ≤ t ∧ t ≤ 4) ∧ (x.of / 2 ^ t.toNat) % 2 = 1
    case neg =>
      have hno : ¬ opS n t (if one then 1 else 2) = true := fun q => by
        by_cases htt : 1 ≤ t ∧ t ≤ 4
        · exact h2 ⟨htt, ((ht htt).2 q).2⟩
        · rw [opS_out _ (by omega)] at q; cases q
      rw [decide_eq_false h2]
      (try simp (maxSteps := 1000000) (disch := first | omega | (simp only [Z3]; omega) | (simp; done) | assumption | decide | (refine not_not_intro ?_; assumption)) only [Z1, Z2, splice])
      exact hQ _ 0 40 k03 (by simp [hno])
    have hyes : opS n t (if one then 1 else 2) = true := (ht h2.1).1 ⟨h1, h2.2⟩
    have hf := fits_one h2.1
    have hne : ¬ ((1 : Int) = 0) := by decide
    rw [decide_eq_true h2]
    have fin : ∀ K, Keeps [] H K → ∀ r : Int, Q (.tuple #[i64 r, .int .i64 0]) K := fun K hK r => hQ _ r 0 hK (by simp [hyes])
    have q0 : ¬ ((1 : Int) = 0) := by decide
    cases htr : x.truth with
    | true =>
      rw [htr] at g3
      by_cases n4 : n = 4
      · (try simp (maxSteps := 1000000) (disch := first | omega | (simp only [Z3]; omega) | (simp; done) | assumption | decide | (refine not_not_intro ?_; assumption)) only [Z1, Z2, splice, num_Fits_eq, decide_eq_true hf, g3])
        refine opc_all x hx _ fun r => ?_
        (try simp (maxSteps := 1000000) (disch := first | omega | (simp only [Z3]; omega) | (simp; done) | assumption | decide | (refine not_not_intro ?_; assumption)) only [Z1, Z2, splice])
        exact fin _ k03 r
      by_cases n5 : n = 5
      · (try simp (maxSteps := 1000000) (disch := first | omega | (simp only [Z3]; omega) | (simp; done) | assumption | decide | (refine not_not_intro ?_; assumption)) only [Z1, Z2, splice, num_Fits_eq, decide_eq_true hf, g3])
        refine opc_all x hx _ fun r => ?_
        (try simp (maxSteps := 1000000) (disch := first | omega | (simp only [Z3]; omega) | (simp; done) | assumption | decide | (refine not_not_intro ?_; assumption)) only [Z1, Z2, splice])
        exact fin _ k03 r
      (try simp (maxSteps := 1000000) (disch := first | omega | (simp only [Z3]; omega) | (simp; done) | assumption | decide | (refine not_not_intro ?_; assumption)) only [Z1, Z2, splice, num_Fits_eq, decide_eq_true hf, g3])
      refine opc_all x hx _ fun r => ?_
      (try simp (maxSteps := 1000000) (disch := first | omega | (simp only [Z3]; omega) | (simp; done) | assumption | decide | (refine not_not_intro ?_; assumption)) only [Z1, Z2, splice])
      exact fin _ k03 r
    | false =>
      rw [htr] at g3
      by_cases n4 : n = 4
      · (try simp (maxSteps := 1000000) (disch := first | omega | (simp only [Z3]; omega) | (simp; done) | assumption | decide | (refine not_not_intro ?_; assumption)) only [Z1, Z2, splice, num_Fits_eq, decide_eq_true hf, g3, num_does_k0])
        refine opc_all x hx _ fun r => ?_
        (try simp (maxSteps := 1000000) (disch := first | omega | (simp only [Z3]; omega) | (simp; done) | assumption | decide | (refine not_not_intro ?_; assumption)) only [Z1, Z2, splice, num_wrap_eq])
        exact fin _ k03 _
      by_cases n5 : n = 5
      · (try simp (maxSteps := 1000000) (disch := first | omega | (simp only [Z3]; omega) | (simp; done) | assumption | decide | (refine not_not_intro ?_; assumption)) only [Z1, Z2, splice, num_Fits_eq, decide_eq_true hf, g3, num_does_k0])
        refine opc_all x hx _ fun r => ?_
        (try simp (maxSteps := 1000000) (disch := first | omega | (simp only [Z3]; omega) | (simp; done) | assumption | decide | (refine not_not_intro ?_; assumption)) only [Z1, Z2, splice, num_wrap_eq])
        exact fin _ k03 _
      (try simp (maxSteps := 1000000) (disch := first | omega | (simp only [Z3]; omega) | (simp; done) | assumption | decide | (refine not_not_intro ?_; assumption)) only [Z1, Z2, splice, num_Fits_eq, decide_eq_true hf, g3, num_does_k0])
      refine opc_all x hx _ fun r => ?_
      (try simp (maxSteps := 1000000) (disch := first | omega | (simp only [Z3]; omega) | (simp; done) | assumption | decide | (refine not_not_intro ?_; assumption)) only [Z1, Z2, splice, num_wrap_eq])
      exact fin _ k03 _
theorem two_ok {H : Heap} (n t : Int) (Q : V → Heap → Prop) (hQ : ∀ H' r e, Keeps [] H H' → (e = 0 ↔ opS n t 2 = true) → Q (.tuple #[i64 r, i64 e]) H') : wp (A_num_Two [i64 n, i64 t, i64 1, i64 1]) Q H := by
  show wp (F_num_Two (i64 n) (i64 t) (i64 1) (i64 1)) Q H
  unfold F_num_Two
  rw [wp_bnd, wp_bnd]
  refine does_ok n t false _ fun H1 r e k1 he => ?_
  (try simp (maxSteps := 1000000) (disch := first | omega | (simp only [Z3]; omega) | (simp; done) | assumption | decide | (refine not_not_intro ?_; assumption)) only [Z1, Z2, splice])
  exact hQ _ r e k1 he
theorem one_ok' {H : Heap} (n t : Int) (Q : V → Heap → Prop) (hQ : ∀ H' r e, Keeps [] H H' → (e = 0 ↔ opS n t 1 = true) → Q (.tuple #[i64 r, i64 e]) H') : wp (A_num_One [i64 n, i64 t, i64 1]) Q H := by
  show wp (F_num_One (i64 n) (i64 t) (i64 1)) Q H
  unfold F_num_One
  rw [wp_bnd, wp_bnd]
  refine does_ok n t true _ fun H1 r e k1 he => ?_
  (try simp (maxSteps := 1000000) (disch := first | omega | (simp only [Z3]; omega) | (simp; done) | assumption | decide | (refine not_not_intro ?_; assumption)) only [Z1, Z2, splice])
  exact hQ _ r e k1 he
theorem convert_ok {H : Heap} (a b : Int) (Q : V → Heap → Prop) (hQ : ∀ r e, (e = 0 ↔ (1 ≤ a ∧ a ≤ 4) ∧ (1 ≤ b ∧ b ≤ 4) ∧ (a = 1 ↔ b = 1)) → Q (.tuple #[i64 r, i64 e]) H) : wp (A_num_Convert [i64 a, i64 b, i64 0]) Q H := by
  show wp (F_num_Convert (i64 a) (i64 b) (i64 0)) Q H
  have ek : ∀ a b : Bool, notIf true (eqK .b (.bool a) (.bool b)) = some (.bool (!(a == b))) := fun _ _ => rfl
  by_cases h1 : 1 ≤ a ∧ a ≤ 4
  case neg =>
    (try simp (maxSteps := 1000000) (disch := first | omega | (simp only [Z3]; omega) | (simp; done) | assumption | decide | (refine not_not_intro ?_; assumption)) only [Z1, Z2, splice, F_num_Convert, num_known_eq, decide_eq_false h1])
    exact hQ 0 40 (by simp [h1])
  by_cases h2 : 1 ≤ b ∧ b ≤ 4
  case neg =>
    (try simp (maxSteps := 1000000) (disch := first | omega | (simp only [Z3]; omega) | (simp; done) | assumption | decide | (refine not_not_intro ?_; assumption)) only [Z1, Z2, splice, F_num_Convert, num_known_eq, decide_eq_true h1, decide_eq_false h2])
    exact hQ 0 40 (by simp [h2])
  have hf : fits a 0 := by unfold fits; omega
  have hb : ∀ p q : Prop, [Decidable p] → [Decidable q] → (decide p == decide q) = decide (p ↔ q) := fun p q _ _ => by
    by_cases hp : p <;> by_cases hq : q <;> simp [hp, hq]
  by_cases h3 : (a = 1 ↔ b = 1)
  · (try simp (maxSteps := 1000000) (disch := first | omega | (simp only [Z3]; omega) | (simp; done) | assumption | decide | (refine not_not_intro ?_; assumption)) only [Z1, Z2, splice, F_num_Convert, num_known_eq, decide_eq_true h1, decide_eq_true h2, ek, hb, decide_eq_true h3, Bool.not_true, num_Fits_eq, decide_eq_true hf, num_Convert_k0, num_wrap_eq])
    exact hQ _ 0 (by simp only [h1, h2, h3, true_and, and_self])
  · (try simp (maxSteps := 1000000) (disch := first | omega | (simp only [Z3]; omega) | (simp; done) | assumption | decide | (refine not_not_intro ?_; assumption)) only [Z1, Z2, splice, F_num_Convert, num_known_eq, decide_eq_true h1, decide_eq_true h2, ek, hb, decide_eq_false h3, Bool.not_false])
    exact hQ 0 40 (by simp only [h3]; simp)
end Go.AM.Cap
