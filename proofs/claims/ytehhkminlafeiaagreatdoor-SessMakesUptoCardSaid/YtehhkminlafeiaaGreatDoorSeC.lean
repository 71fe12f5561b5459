import Derived.Test.YtehhkminlafeiaaGreatDoorSeB
import Derived.Test.YtehhkminlafeiaaGreatDoorAmIn
set_option linter.all false
/- sess: the reference's Message and Read -/
set_option maxHeartbeats 16000000
namespace Go.AM.Cap
open Go.AM Go.Proofs

theorem rlist_ok {H : Heap} (k : ByteArray) (hk : k.size ≤ 1048576) {av sv' : V} {al says : List It} (ha : OwnF H av al) (hs : Sl H sv' says) (hdis : ∀ b ∈ vb sv', b ∉ vb av) (hal : al.length ≤ 10) (hsl : says.length ≤ 1048576) (a b : Int) (Q : V → Heap → Prop)
    (hQ : ∀ H', Keeps (vb av) H H' → Q (.tuple #[.string (packS k (al ++ (numI a :: numI b :: says))).1, i64 (packS k (al ++ (numI a :: numI b :: says))).2]) H') : wp (A_ref25_list [.string k, av, i64 a, i64 b, sv']) Q H := by
  show wp (F_ref25_list (.string k) av (i64 a) (i64 b) sv') Q H
  unfold F_ref25_list
  rw [wp_bnd, wp_bnd, wp_lift, num_build, wpO_some, wp_bnd, wp_lift, num_build, wpO_some, wp_bnd]
  refine (wp_bslc (cs := encs [numI a, numI b]) (by rfl) (two_flat a b)).mpr ?_
  have k1 : Keeps [] H (H.push (some (.cells true (encs [numI a, numI b])))) := Keeps.push _ _ _
  have o1 := ownF_push (H := H) (xs := [numI a, numI b]) (n := 3) (m := 2) rfl rfl
  have n1 : (H.push (some (.cells true (encs [numI a, numI b])))).next = H.next + 1 := by simp
  generalize H.push (some (.cells true (encs [numI a, numI b]))) = H1 at *
  rw [wp_bnd]
  refine ownF_appV (α := It) rfl (ha.keep0 k1) o1.sl (by simp; omega) (by simp; omega) fun w2 H2 o2 k2 v2 => ?_
  have hs2 : Sl H2 sv' says := (hs.keep0 k1).keep k2 hdis
  have hav := ha.lt
  rw [wp_bnd]
  refine ownF_appV (α := It) rfl o2 hs2 (by simp; omega) (by simp; omega) fun w3 H3 o3 k3 v3 => ?_
  have k03 : Keeps (vb av) H H3 := by
    have q1 := k1.next
    have q2 := k2.next
    refine ⟨by have := k3.next; omega, fun c hc hn => ?_⟩
    rw [k3.same c (by omega) (fun q => (v2 c q).elim hn (fun q => by omega)), k2.same c (by omega) hn, k1.same c hc (by simp)]
  have ecat : (al ++ [numI a, numI b]) ++ says = al ++ (numI a :: numI b :: says) := by simp
  rw [ecat] at o3
  (try simp (maxSteps := 1000000) (disch := first | omega | (simp only [Heap.next_push', Heap.next_set']; omega) | (simp; done) | assumption | decide | (refine not_not_intro ?_; assumption)) only [Z1, Z2, splice])
  refine renc_ok o3.sl _ fun H4 k4 => ?_
  have k04 : Keeps (vb av) H H4 := k03.trans k4 (by simp)
  have hsz := encI_size (al ++ (numI a :: numI b :: says))
  unfold packS at hQ
  by_cases he : (encI (al ++ (numI a :: numI b :: says))).2 = 0
  · rw [if_pos he] at hQ
    rw [he]
    (try simp (maxSteps := 1000000) (disch := first | omega | (simp only [Heap.next_push', Heap.next_set']; omega) | (simp; done) | assumption | decide | (refine not_not_intro ?_; assumption)) only [Z1, Z2, splice, ref25_list_k0])
    refine ref02_Tag_ok H4 k _ (by omega) (by omega) _ fun H5 k5 => ?_
    have ea := str_add (x := (encI (al ++ (numI a :: numI b :: says))).1) (y := sv (tag (bv k) (bv (encI (al ++ (numI a :: numI b :: says))).1))) (by rw [sv_size, tag_length]; omega)
    (try simp (maxSteps := 1000000) (disch := first | omega | (simp only [Heap.next_push', Heap.next_set']; omega) | (simp; done) | assumption | decide | (refine not_not_intro ?_; assumption)) only [Z1, Z2, splice, ea])
    exact hQ _ (k04.trans k5 (by simp))
  · rw [if_neg he] at hQ
    (try simp (maxSteps := 1000000) (disch := first | omega | (simp only [Heap.next_push', Heap.next_set']; omega) | (simp; done) | assumption | decide | (refine not_not_intro ?_; assumption)) only [Z1, Z2, splice])
    exact hQ _ k04
theorem rmessage_ok {H : Heap} (k : ByteArray) (hk : k.size ≤ 1048576) {sv' : V} {says : List It} (hs : Sl H sv' says) (hsl : says.length ≤ 1048576) (a b : Int) (Q : V → Heap → Prop)
    (hQ : ∀ H', Keeps [] H H' → Q (.tuple #[.string (messageS k a b says).1, i64 (messageS k a b says).2]) H') : wp (A_ref25_Message [.string k, i64 a, i64 b, sv']) Q H := by
  show wp (F_ref25_Message (.string k) (i64 a) (i64 b) sv') Q H
  unfold F_ref25_Message
  rw [wp_bnd, wp_bnd]
  refine rlist_ok k hk (OwnF.nil H) hs (by simp) (by simp) hsl a b _ fun H1 k1 => ?_
  (try simp (maxSteps := 1000000) (disch := first | omega | (simp only [Heap.next_push', Heap.next_set']; omega) | (simp; done) | assumption | decide | (refine not_not_intro ?_; assumption)) only [Z1, Z2, splice, List.nil_append])
  exact hQ _ (by simpa using k1)

/-- the reference's numbers, from a place on -/
theorem rnumbers_ok {H : Heap} {v : V} {l : List It} (h : Sl H v l) (at' : Nat) (hat : at' ≤ 10) (hl : l.length ≤ 1000000000) (Q : V → Heap → Prop) (h0 : numbersS (l.drop at') = none → Q (.tuple #[i64 0, i64 0, .bool false]) H)
    (h1 : ∀ a b r, numbersS (l.drop at') = some (a, b, r) → Q (.tuple #[i64 a, i64 b, .bool true]) H) : wp (A_ref25_numbers [v, i64 at']) Q H := by
  show wp (F_ref25_numbers v (i64 at')) Q H
  have hlen := h.len
  by_cases hlt : l.length < at' + 2
  · have e : numbersS (l.drop at') = none := by
      have hd : (l.drop at').length < 2 := by rw [List.length_drop]; omega
      match l.drop at', hd with
      | [], _ => rfl
      | [x], _ => rfl
    have hlt' : ((l.length : Int) < (at' : Int) + 2) := by omega
    (try simp (maxSteps := 1000000) (disch := first | omega | (simp only [Heap.next_push', Heap.next_set']; omega) | (simp; done) | assumption | decide | (refine not_not_intro ?_; assumption)) only [Z1, Z2, splice, F_ref25_numbers, hlen])
    exact h0 e
  have hlt' : ¬ ((l.length : Int) < (at' : Int) + 2) := by omega
  have hd : l.drop at' = l.getD at' default :: l.getD (at' + 1) default :: l.drop (at' + 2) := by
    rw [List.drop_eq_getElem_cons (show at' < l.length by omega), List.drop_eq_getElem_cons (show at' + 1 < l.length by omega), List.getD_eq_getElem?_getD, List.getD_eq_getElem?_getD, List.getElem?_eq_getElem (show at' < l.length by omega), List.getElem?_eq_getElem (show at' + 1 < l.length by omega)]
    rfl
  rw [hd, numbersS_two] at h0 h1
  (try simp (maxSteps := 1000000) (disch := first | omega | (simp only [Heap.next_push', Heap.next_set']; omega) | (simp; done) | assumption | decide | (refine not_not_intro ?_; assumption)) only [Z1, Z2, splice, F_ref25_numbers, hlen, ref25_numbers_k4])
  refine wp_loop (Inv := fun k vs H' => ∃ j : Nat, k = 2 - j ∧ j ≤ 2 ∧ vs = [v, i64 at', i64 ((at' : Int) + j)] ∧ H' = H ∧ ∀ i, i < j → badN (l.getD (at' + i) default) = false) (n := 2) (by unfold FUEL; omega)
    ⟨0, by omega, by omega, by simp, rfl, by omega⟩ ?_
  rintro k vs H1 ⟨j, hk, hj, rfl, he, hn⟩
  rw [he]; clear he H1
  by_cases hlt2 : j < 2
  case neg =>
    have : j = 2 := by omega
    subst this
    have b0 : badN (l.getD at' default) = false := hn 0 (by omega)
    have b1 : badN (l.getD (at' + 1) default) = false := hn 1 (by omega)
    rw [b0, b1] at h1
    have q := h1 _ _ _ rfl
    have a0 := h.addr' (n := 3) rfl (k := .i64) (i := (at' : Int)) (by omega) (by omega)
    have a1 := h.addr' (n := 3) rfl (k := .i64) (i := (at' : Int) + 1) (by omega) (by omega)
    rw [Int.toNat_natCast] at a0
    rw [show ((at' : Int) + 1).toNat = at' + 1 from by omega] at a1
    have c0 := h.cell' (n := 3) rfl (i := at') (off := 1) (by omega) (by omega) default
    have c1 := h.cell' (n := 3) rfl (i := at' + 1) (off := 1) (by omega) (by omega) default
    have e0 : (Flat.enc (l.getD at' default))[1]? = some (i64 (l.getD at' default).n) := rfl
    have e1 : (Flat.enc (l.getD (at' + 1) default))[1]? = some (i64 (l.getD (at' + 1) default).n) := rfl
    rw [e0, cellP_get] at c0
    rw [e1, cellP_get] at c1
    have hno : ¬ ((at' : Int) + ((2 : Nat) : Int) < (at' : Int) + 2) := by omega
    (try simp (maxSteps := 1000000) (disch := first | omega | (simp only [Heap.next_push', Heap.next_set']; omega) | (simp; done) | assumption | decide | (refine not_not_intro ?_; assumption)) only [Z1, Z2, splice, ref25_numbers_l2, ref25_numbers_k3, a0, a1, c0, c1])
    exact q
  have a0 := h.addr' (n := 3) rfl (k := .i64) (i := (at' : Int) + (j : Int)) (by omega) (by omega)
  rw [show ((at' : Int) + (j : Int)).toNat = at' + j from by omega] at a0
  have c0 := h.cell' (n := 3) rfl (i := at' + j) (off := 0) (by omega) (by omega) default
  have c1 := h.cell' (n := 3) rfl (i := at' + j) (off := 1) (by omega) (by omega) default
  have e0 : (Flat.enc (l.getD (at' + j) default))[0]? = some (.bool (l.getD (at' + j) default).t) := rfl
  have e1 : (Flat.enc (l.getD (at' + j) default))[1]? = some (i64 (l.getD (at' + j) default).n) := rfl
  rw [e0, cellP_get, Nat.add_zero] at c0
  rw [e1, cellP_get] at c1
  have hbad : badN (l.getD (at' + j) default) = true → Q (.tuple #[i64 0, i64 0, .bool false]) H := fun q => h0 (by
    have : (badN (l.getD at' default) || badN (l.getD (at' + 1) default)) = true := by
      match j, hlt2, q with
      | 0, _, q => have q' : badN (l.getD at' default) = true := q; rw [q']; rfl
      | 1, _, q => have q' : badN (l.getD (at' + 1) default) = true := q; rw [q']; simp
    rw [if_pos this])
  have hyes : ((at' : Int) + (j : Int) < (at' : Int) + 2) := by omega
  generalize hz : l.getD (at' + j) default = z at *
  obtain ⟨zt, zn, zs⟩ := z
  dsimp only at c0 c1
  cases zt with
  | true =>
    (try simp (maxSteps := 1000000) (disch := first | omega | (simp only [Heap.next_push', Heap.next_set']; omega) | (simp; done) | assumption | decide | (refine not_not_intro ?_; assumption)) only [Z1, Z2, splice, ref25_numbers_l2, ref25_numbers_k1, a0, c0, c1])
    exact hbad rfl
  | false =>
    by_cases b1 : zn < 1
    · (try simp (maxSteps := 1000000) (disch := first | omega | (simp only [Heap.next_push', Heap.next_set']; omega) | (simp; done) | assumption | decide | (refine not_not_intro ?_; assumption)) only [Z1, Z2, splice, ref25_numbers_l2, ref25_numbers_k1, a0, c0, c1])
      exact hbad (by simp [badN, b1])
    by_cases b2 : zn > 1073741824
    · (try simp (maxSteps := 1000000) (disch := first | omega | (simp only [Heap.next_push', Heap.next_set']; omega) | (simp; done) | assumption | decide | (refine not_not_intro ?_; assumption)) only [Z1, Z2, splice, ref25_numbers_l2, ref25_numbers_k1, a0, c0, c1])
      exact hbad (by simp [badN, b2])
    · (try simp (maxSteps := 1000000) (disch := first | omega | (simp only [Heap.next_push', Heap.next_set']; omega) | (simp; done) | assumption | decide | (refine not_not_intro ?_; assumption)) only [Z1, Z2, splice, ref25_numbers_l2, ref25_numbers_k1, a0, c0, c1, ref25_numbers_k0])
      refine ⟨2 - (j + 1), by omega, j + 1, rfl, by omega, by push_cast; rw [Int.add_assoc], fun i hi => ?_⟩
      rcases Nat.lt_or_eq_of_le (Nat.lt_succ_iff.1 hi) with q | rfl
      · exact hn i q
      · rw [hz]; simp only [badN, Bool.false_or]; exact decide_eq_false (by omega)

theorem may_dec {b : List (BitVec 8)} (h : (decI b).2 = none) : ∀ x ∈ (decI b).1, mayI x = true := by
  have := (decI_ok h).1
  exact (encI_ok (l := (decI b).1) (by rw [this])).2.1
theorem reply_of {x : It} (hm : mayI x = true) : (x = replyI) ↔ (x.t = true ∧ x.s = ⟨#[114, 101, 112, 108, 121]⟩) := by
  obtain ⟨t, n, s⟩ := x
  constructor
  · intro q; cases q; exact ⟨rfl, rfl⟩
  · rintro ⟨q1, q2⟩
    dsimp only at q1 q2
    subst q1; subst q2
    simp only [mayI, if_true, decide_eq_true_eq] at hm
    obtain ⟨rfl, _⟩ := hm
    rfl
theorem readL_need {l : List It} {p : Int × Int × List It} (h : readL l = some p) : ∃ x r, l = x :: r ∧ x = replyI ∧ numbersS r = some p := by
  cases l with
  | nil => cases h
  | cons x r =>
    rw [readL_cons] at h
    by_cases hx : x = replyI
    · rw [if_pos hx] at h; exact ⟨x, r, rfl, hx, h⟩
    · rw [if_neg hx] at h; cases h
theorem numbersS_drop {l : List It} {a b : Int} {r : List It} (h : numbersS l = some (a, b, r)) : r = l.drop 2 ∧ 2 ≤ l.length := by
  match l, h with
  | [], h => cases h
  | [x], h => cases h
  | x :: y :: q, h =>
    rw [numbersS_two] at h
    split at h
    · cases h
    · cases h; exact ⟨rfl, by simp⟩
theorem rread_ok {H : Heap} (k s : ByteArray) (hk : k.size ≤ 1048576) (hs : s.size ≤ 1048576) (Q : V → Heap → Prop) (hQ : ∀ w H', Keeps [] H H' → Sl H' w (readS k s).2.2.1 → Q (.tuple #[i64 (readS k s).1, i64 (readS k s).2.1, w, i64 (readS k s).2.2.2]) H') : wp (A_ref25_Read [.string k, .string s]) Q H := by
  show wp (F_ref25_Read (.string k) (.string s)) Q H
  unfold F_ref25_Read
  rw [wp_bnd, wp_bnd]
  refine ref02_Open_ok H k s (by omega) (by omega) _ fun H1 k1 => ?_
  by_cases ho : (openS k s).2 = 0
  case neg =>
    have e : readS k s = (0, 0, [], (openS k s).2) := by unfold readS; rw [if_pos ho]
    rw [e] at hQ
    (try simp (maxSteps := 1000000) (disch := first | omega | (simp only [Heap.next_push', Heap.next_set']; omega) | (simp; done) | assumption | decide | (refine not_not_intro ?_; assumption)) only [Z1, Z2, splice])
    exact hQ _ H1 k1 (Sl.nil _)
  have e : readS k s = if (decI (bv (openS k s).1)).2 = none then readR (readL (decI (bv (openS k s).1)).1) else readR none := by unfold readS; rw [if_neg (by simp [ho])]
  rw [e] at hQ
  rw [ho]
  (try simp (maxSteps := 1000000) (disch := first | omega | (simp only [Heap.next_push', Heap.next_set']; omega) | (simp; done) | assumption | decide | (refine not_not_intro ?_; assumption)) only [Z1, Z2, splice, ref25_Read_k1])
  refine rdec_ok _ _ fun w H2 k2 o2 f2 hcode => ?_
  have hmay := may_dec (b := bv (openS k s).1)
  have hlen5 : (decI (bv (openS k s).1)).1.length ≤ 1000 := by
    cases hd : (decI (bv (openS k s).1)).2 with
    | none => exact (decI_ok hd).2
    | some e => rw [(decI_bad hd).1]; simp
  generalize bv (openS k s).1 = bs at *
  have k02 : Keeps [] H H2 := k1.trans k2 (by simp)
  have k3 : Keeps [] H2 (H2.push (some (.cells true [i64 (faultOf (decI bs).2).1, i64 (faultOf (decI bs).2).2]))) := Keeps.push _ _ _
  have g3 : (H2.push (some (.cells true [i64 (faultOf (decI bs).2).1, i64 (faultOf (decI bs).2).2]))).get H2.next = some (.cells true [i64 (faultOf (decI bs).2).1, i64 (faultOf (decI bs).2).2]) := Heap.get_push_self _ _
  have k03 := k02.trans k3 (by simp)
  have o3 := o2.keep0 k3
  (try simp (maxSteps := 1000000) (disch := first | omega | (simp only [Heap.next_push', Heap.next_set']; omega) | (simp; done) | assumption | decide | (refine not_not_intro ?_; assumption)) only [Z1, cellP_get, cellG_cells, wp_st1g, stG_c, eq_self, true_and, wp_stng, stnG_ok, wp_ldng, ldG_ok, wp_newcg, wp_boxg, Heap.get_set_eq, Heap.get_set_ne', Heap.next_push', Heap.next_set', Heap.set_push_lt, Heap.set_push_eq, Heap.set_set, fld1_agg, fldn_agg, ext_tuple, outV_nil, outV_two, outV_three, outV_four, chk_ld1g, chkO_int, chkO_bool, chkO_str, chkO_ptr, chkO_slc, chkO_map, List.set_cons_zero, List.set_cons_succ, List.length_cons, List.length_nil, List.drop_succ_cons, List.drop_zero, List.take_succ_cons, List.take_zero, List.nil_append, List.cons_append, splice, isOne_int, isOne_str, isOne_bool, isOne_slice, isOne_pointer, isOne_map, condM_nf, condM_nef, gd_nef, gdf_nef, pick_nef, build_eq, fillA_nil, fillA_one, fillA_agg, Option.map_some, resv_one, resv_two, freeIn_nil, fillA_slc, fillA_int, fillA_str, fillA_bool, fillA_ptr, fillA_map])
  generalize H2.push (some (.cells true [i64 (faultOf (decI bs).2).1, i64 (faultOf (decI bs).2).2])) = H3 at *
  have hcode2 : (faultOf (decI bs).2).2 = 0 ↔ (decI bs).2 = none := by
    cases hd : (decI bs).2 with
    | none => simp [faultOf]
    | some c => have := hcode c hd; simp [faultOf, this]
  generalize faultOf (decI bs).2 = f at *
  generalize hl : (decI bs).1 = l at *
  have hbad : ∀ (q : (decI bs).2 = none → readL l = none), Q (.tuple #[i64 0, i64 0, .slice none 0 0, i64 3]) H3 := fun q => by
    have := hQ (.slice none 0 0) H3 k03
    by_cases hd : (decI bs).2 = none
    · rw [if_pos hd, q hd] at this; exact this (Sl.nil _)
    · rw [if_neg hd] at this; exact this (Sl.nil _)
  refine rnumbers_ok (at' := 1) o3.sl (by omega) (by omega) _ (fun hn => ?_) (fun a b r hn => ?_)
  · have hb := hbad (fun _ => by
      cases l with
      | nil => rfl
      | cons x r =>
        rw [readL_cons]
        by_cases hx : x = replyI
        · rw [if_pos hx]; exact hn
        · rw [if_neg hx])
    by_cases hf : f.2 = 0
    · (try simp (maxSteps := 1000000) (disch := first | omega | (simp only [Heap.next_push', Heap.next_set']; omega) | (simp; done) | assumption | decide | (refine not_not_intro ?_; assumption)) only [Z1, Z2, splice, g3])
      exact hb
    · (try simp (maxSteps := 1000000) (disch := first | omega | (simp only [Heap.next_push', Heap.next_set']; omega) | (simp; done) | assumption | decide | (refine not_not_intro ?_; assumption)) only [Z1, Z2, splice, g3])
      exact hb
  · obtain ⟨hr, hr2⟩ := numbersS_drop hn
    rw [List.length_drop] at hr2
    match l, hl, hn, hr, hr2, hQ, o3, hmay, hbad, hlen5 with
    | [], _, _, _, hr2, _, _, _, _, _ => simp at hr2
    | x :: t, hl, hn, hr, hr2, hQ, o3, hmay, hbad, hlen5 =>
      have hn' : numbersS t = some (a, b, r) := hn
      by_cases hf : f.2 = 0
      case neg =>
        have hb := hbad (fun q => absurd (hcode2.2 q) hf)
        (try simp (maxSteps := 1000000) (disch := first | omega | (simp only [Heap.next_push', Heap.next_set']; omega) | (simp; done) | assumption | decide | (refine not_not_intro ?_; assumption)) only [Z1, Z2, splice, g3])
        exact hb
      have hd := hcode2.1 hf
      have hmx := hmay hd x (by simp)
      have a0 := o3.sl.addr' (n := 3) rfl (k := .i64) (i := 0) (by omega) (by simp only [List.length_cons]; omega)
      rw [show (0 : Int).toNat = 0 from rfl] at a0
      have c0 := o3.sl.cell' (n := 3) rfl (i := 0) (off := 0) (by simp) (by omega) default
      have c2 := o3.sl.cell' (n := 3) rfl (i := 0) (off := 2) (by simp) (by omega) default
      have e0 : (Flat.enc ((x :: t).getD 0 default))[0]? = some (.bool x.t) := rfl
      have e2 : (Flat.enc ((x :: t).getD 0 default))[2]? = some (.string x.s) := rfl
      rw [e0, cellP_get, Nat.add_zero] at c0
      rw [e2, cellP_get] at c2
      have hrep := reply_of hmx
      by_cases ht : x.t = true
      case neg =>
        have hb := hbad (fun _ => by rw [readL_cons, if_neg (fun q => ht (hrep.1 q).1)])
        have ht' : x.t = false := by simpa using ht
        rw [ht'] at c0
        (try simp (maxSteps := 1000000) (disch := first | omega | (simp only [Heap.next_push', Heap.next_set']; omega) | (simp; done) | assumption | decide | (refine not_not_intro ?_; assumption)) only [Z1, Z2, splice, g3, a0, c0])
        exact hb
      rw [ht] at c0
      by_cases hsx : x.s = ⟨#[114, 101, 112, 108, 121]⟩
      case neg =>
        have hb := hbad (fun _ => by rw [readL_cons, if_neg (fun q => hsx (hrep.1 q).2)])
        (try simp (maxSteps := 1000000) (disch := first | omega | (simp only [Heap.next_push', Heap.next_set']; omega) | (simp; done) | assumption | decide | (refine not_not_intro ?_; assumption)) only [Z1, Z2, splice, g3, a0, c0, c2])
        exact hb
      have hx := hrep.2 ⟨ht, hsx⟩
      have er : readL (x :: t) = some (a, b, r) := by rw [readL_cons, if_pos hx, hn']
      rw [if_pos hd, er] at hQ
      have hr3 : r = (x :: t).drop 3 := by rw [hr, List.drop_drop]
      obtain ⟨w3, hw3, hs3, _⟩ := sub_drop (n := 3) rfl o3.sl (k := 3) (by simp at hr2 ⊢; omega)
      have hw3' : subV 3 w (some (i64 3)) none = some w3 := hw3
      rw [← hr3] at hs3
      (try simp (maxSteps := 1000000) (disch := first | omega | (simp only [Heap.next_push', Heap.next_set']; omega) | (simp; done) | assumption | decide | (refine not_not_intro ?_; assumption)) only [Z1, Z2, splice, g3, a0, c0, c2, hsx, ref25_Read_k0, hw3'])
      exact hQ w3 H3 k03 hs3
end Go.AM.Cap
