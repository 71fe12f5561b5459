import Derived.Test.YtcmimkacafphkaaGreatDoorWiE
import Derived.Test.YtcmimkacafphkaaGreatDoorAmOpenF
set_option linter.all false
/- wire: the reference's Encode -/
set_option maxHeartbeats 16000000
namespace Go.AM.Cap
open Go.AM Go.Proofs

theorem may_ok {H : Heap} (x : It) (Q : V → Heap → Prop) (hQ : ∀ H', Keeps [] H H' → Q (.bool (mayI x)) H') : wp (A_ref03_May [.agg (Flat.enc x).toArray]) Q H := by
  show wp (F_ref03_May (.agg (Flat.enc x).toArray)) Q H
  obtain ⟨t, n, s⟩ := x
  have hk : Keeps [] H (H.push (some (.cells true [.bool t, i64 n, .string s]))) := Keeps.push _ _ _
  have hq := hQ _ hk
  cases t with
  | true =>
    by_cases h1 : n = 0
    · subst h1
      by_cases h2 : (s.size : Int) ≤ 65535
      · have e : mayI ⟨true, 0, s⟩ = true := by simp only [mayI, if_true]; simp; omega
        rw [e] at hq
        (try simp (maxSteps := 1000000) (disch := first | omega | (simp only [Z3]; omega) | (simp; done) | assumption | decide | (refine not_not_intro ?_; assumption)) only [Z1, Z2, splice, F_ref03_May, enc_it])
        exact hq
      · have e : mayI ⟨true, 0, s⟩ = false := by simp only [mayI, if_true]; simp; omega
        rw [e] at hq
        (try simp (maxSteps := 1000000) (disch := first | omega | (simp only [Z3]; omega) | (simp; done) | assumption | decide | (refine not_not_intro ?_; assumption)) only [Z1, Z2, splice, F_ref03_May, enc_it])
        exact hq
    · have e : mayI ⟨true, n, s⟩ = false := by simp [mayI, h1]
      rw [e] at hq
      (try simp (maxSteps := 1000000) (disch := first | omega | (simp only [Z3]; omega) | (simp; done) | assumption | decide | (refine not_not_intro ?_; assumption)) only [Z1, Z2, splice, F_ref03_May, enc_it])
      exact hq
  | false =>
    have e : mayI ⟨false, n, s⟩ = decide (s = ⟨#[]⟩) := by simp [mayI]
    rw [e] at hq
    (try simp (maxSteps := 1000000) (disch := first | omega | (simp only [Z3]; omega) | (simp; done) | assumption | decide | (refine not_not_intro ?_; assumption)) only [Z1, Z2, splice, F_ref03_May, enc_it])
    exact hq

theorem i64_quo256 (n : Nat) : bin .quo (i64 n) (i64 256) = some (i64 (IntKind.i64.wrap ((n : Int) / 256))) := int_quon (by omega) (by omega)
theorem i64_rem256 (n : Nat) : bin .rem (i64 n) (i64 256) = some (i64 ((n : Int) % 256)) := int_remn (by omega) (by omega)
theorem quo_u8 (n : Nat) : cvi .u8 (i64 ((n : Int) / 256)) = some (B (BitVec.ofNat 8 (n / 256))) := i64_u8 (n / 256)
theorem rem_u8 (n : Nat) : cvi .u8 (i64 ((n : Int) % 256)) = some (B (BitVec.ofNat 8 n)) := by
  have e : BitVec.ofNat 8 (n % 256) = BitVec.ofNat 8 n := by apply BitVec.eq_of_toNat_eq; simp
  rw [← e]
  exact i64_u8 (n % 256)

theorem one_ok {H : Heap} (x : It) (hm : mayI x = true) (Q : V → Heap → Prop) (hQ : ∀ H', Keeps [] H H' → Q (.string (sv (oneI x))) H') : wp (A_ref03_One [.agg (Flat.enc x).toArray]) Q H := by
  show wp (F_ref03_One (.agg (Flat.enc x).toArray)) Q H
  obtain ⟨t, n, s⟩ := x
  have hk : Keeps [] H (H.push (some (.cells true [.bool t, i64 n, .string s]))) := Keeps.push _ _ _
  have g1 : (H.push (some (.cells true [.bool t, i64 n, .string s]))).get H.next = some (.cells true [.bool t, i64 n, .string s]) := Heap.get_push_self _ _
  have n1 : (H.push (some (.cells true [.bool t, i64 n, .string s]))).next = H.next + 1 := by simp
  cases t with
  | true =>
    have hs : s.size ≤ 65535 := by simp only [mayI, if_true, decide_eq_true_eq] at hm; exact hm.2
    (try simp (maxSteps := 1000000) (disch := first | omega | (simp only [Z3]; omega) | (simp; done) | assumption | decide | (refine not_not_intro ?_; assumption)) only [Z1, cellP_get, cellG_cells, wp_st1g, stG_c, eq_self, true_and, wp_stng, stnG_ok, wp_ldng, ldG_ok, wp_newcg, wp_boxg, Heap.get_set_eq, Heap.get_set_ne', Heap.next_push', Heap.next_set', Heap.set_push_lt, Heap.set_push_eq, Heap.set_set, fld1_agg, fldn_agg, ext_tuple, outV_nil, outV_two, outV_three, outV_four, chk_ld1g, chkO_int, chkO_bool, chkO_str, chkO_ptr, chkO_slc, chkO_map, List.set_cons_zero, List.set_cons_succ, List.length_cons, List.length_nil, List.drop_succ_cons, List.drop_zero, List.take_succ_cons, List.take_zero, List.nil_append, List.cons_append, splice, isOne_int, isOne_str, isOne_bool, isOne_slice, isOne_pointer, isOne_map, condM_nf, condM_nef, gd_nef, gdf_nef, pick_nef, build_eq, fillA_nil, fillA_one, fillA_agg, Option.map_some, resv_one, resv_two, freeIn_nil, fillA_slc, fillA_int, fillA_str, fillA_bool, fillA_ptr, fillA_map, F_ref03_One, enc_it, g1])
    generalize H.push (some (.cells true [.bool true, i64 n, .string s])) = H1 at *
    (try simp (maxSteps := 1000000) (disch := first | omega | (simp only [Z3]; omega) | (simp; done) | assumption | decide | (refine not_not_intro ?_; assumption)) only [Z1, Z2, splice, g1, i64_quo256, i64_rem256, quo_u8, rem_u8])
    refine (wp_bslc (cs := encs (36 :: w2 s.size)) (by rfl) (by rfl)).mpr ?_
    have k4 : Keeps [] H1 (H1.push (some (.cells true (encs (36 :: w2 s.size))))) := Keeps.push _ _ _
    have o4 := ownF_push (H := H1) (xs := (36 :: w2 s.size)) (n := 1) (m := 3) rfl rfl
    have g4 := k4.get g1 (by simp)
    generalize H1.push (some (.cells true (encs (36 :: w2 s.size)))) = H4 at *
    refine ownF_b2s o4 ?_
    (try simp (maxSteps := 1000000) (disch := first | omega | (simp only [Z3]; omega) | (simp; done) | assumption | decide | (refine not_not_intro ?_; assumption)) only [Z1, Z2, splice, g4])
    rw [str_add (by rw [sv_size]; simp [w2]; omega)]
    have e : sv (oneI ⟨true, n, s⟩) = sv (36 :: w2 s.size) ++ s := by
      apply bv_inj
      rw [bv_append, bv_sv, bv_sv]
      simp [oneI]
    (try simp (maxSteps := 1000000) (disch := first | omega | (simp only [Z3]; omega) | (simp; done) | assumption | decide | (refine not_not_intro ?_; assumption)) only [Z1, Z2, splice])
    rw [← e]
    exact hQ _ (hk.trans k4 (by simp))
  | false =>
    (try simp (maxSteps := 1000000) (disch := first | omega | (simp only [Z3]; omega) | (simp; done) | assumption | decide | (refine not_not_intro ?_; assumption)) only [Z1, cellP_get, cellG_cells, wp_st1g, stG_c, eq_self, true_and, wp_stng, stnG_ok, wp_ldng, ldG_ok, wp_newcg, wp_boxg, Heap.get_set_eq, Heap.get_set_ne', Heap.next_push', Heap.next_set', Heap.set_push_lt, Heap.set_push_eq, Heap.set_set, fld1_agg, fldn_agg, ext_tuple, outV_nil, outV_two, outV_three, outV_four, chk_ld1g, chkO_int, chkO_bool, chkO_str, chkO_ptr, chkO_slc, chkO_map, List.set_cons_zero, List.set_cons_succ, List.length_cons, List.length_nil, List.drop_succ_cons, List.drop_zero, List.take_succ_cons, List.take_zero, List.nil_append, List.cons_append, splice, isOne_int, isOne_str, isOne_bool, isOne_slice, isOne_pointer, isOne_map, condM_nf, condM_nef, gd_nef, gdf_nef, pick_nef, build_eq, fillA_nil, fillA_one, fillA_agg, Option.map_some, resv_one, resv_two, freeIn_nil, fillA_slc, fillA_int, fillA_str, fillA_bool, fillA_ptr, fillA_map, F_ref03_One, enc_it, g1, ref03_One_k4])
    generalize H.push (some (.cells true [.bool false, i64 n, .string s])) = H1 at *
    refine (wp_bslc (cs := encs [(35 : BitVec 8)]) (by rfl) (by rfl)).mpr ?_
    have k4 : Keeps [] H1 (H1.push (some (.cells true (encs [(35 : BitVec 8)])))) := Keeps.push _ _ _
    have o4 := ownF_push (H := H1) (xs := [(35 : BitVec 8)]) (n := 1) (m := 1) rfl rfl
    have g4 := k4.get g1 (by simp)
    have n4 : (H1.push (some (.cells true (encs [(35 : BitVec 8)])))).next = H1.next + 1 := by simp
    generalize H1.push (some (.cells true (encs [(35 : BitVec 8)]))) = H4 at *
    (try simp (maxSteps := 1000000) (disch := first | omega | (simp only [Z3]; omega) | (simp; done) | assumption | decide | (refine not_not_intro ?_; assumption)) only [Z1, Z2, splice])
    refine wp_loop (Inv := fun k vs H' => ∃ (j : Nat) (w' : V), k = 8 - j ∧ j ≤ 8 ∧ vs = [ptr H.next 0, w', i64 (7 - (j : Int))] ∧ OwnF H' w' ((35 : BitVec 8) :: (be8 n).take j) ∧ Keeps [] H1 H' ∧ (∀ b ∈ vb w', H1.next ≤ b)) (n := 8) (by unfold FUEL; omega)
      ⟨0, _, by omega, by omega, rfl, o4, k4, by simp⟩ ?_
    rintro k vs H5 ⟨j, w', hkk, hj, rfl, ho, hk1, hv⟩
    by_cases hlt : j < 8
    case neg =>
      have : j = 8 := by omega
      subst this
      (try simp (maxSteps := 1000000) (disch := first | omega | (simp only [Z3]; omega) | (simp; done) | assumption | decide | (refine not_not_intro ?_; assumption)) only [Z1, Z2, splice, ref03_One_l2, ref03_One_k3])
      rw [List.take_of_length_le (by rw [be8_length]; omega)] at ho
      refine ownF_b2s ho ?_
      (try simp (maxSteps := 1000000) (disch := first | omega | (simp only [Z3]; omega) | (simp; done) | assumption | decide | (refine not_not_intro ?_; assumption)) only [Z1, Z2, splice])
      exact hQ _ (hk.trans hk1 (by simp))
    have g5 := hk1.get g1 (by simp)
    (try simp (maxSteps := 1000000) (disch := first | omega | (simp only [Z3]; omega) | (simp; done) | assumption | decide | (refine not_not_intro ?_; assumption)) only [Z1, Z2, splice, ref03_One_l2, ref03_One_k1, g5, i64_w64, w64_shr, w64_u8])
    refine ownF_apps (α := BitVec 8) (ys := [((BitVec.ofInt 64 n) >>> (56 - 8 * j)).setWidth 8]) rfl ho (by rfl) (by rw [show (8 * (7 - (j : Int))).toNat = 56 - 8 * j from by omega]; rfl) rfl ?_ ?_ fun w2 H2 o2 k2 v2 => ?_
    · simp [be8_length]; omega
    · simp [be8_length]; omega
    (try simp (maxSteps := 1000000) (disch := first | omega | (simp only [Z3]; omega) | (simp; done) | assumption | decide | (refine not_not_intro ?_; assumption)) only [Z1, Z2, splice, ref03_One_k0])
    refine ⟨8 - (j + 1), by omega, j + 1, w2, rfl, by omega, ?_, ?_, ?_, ?_⟩
    · simp; omega
    · rw [be8_at n j hlt, ← List.cons_append]; exact o2
    · exact hk1.trans k2 fun b hb hm => by have := hv b hm; omega
    · intro b hb
      rcases v2 b hb with q | q
      · exact hv b q
      · exact Nat.le_trans hk1.next q

theorem bytes_ok {H : Heap} {v : V} {l : List It} (h : Sl H v l) (hl : l.length ≤ 1000) (hm : ∀ i, i < l.length → mayI (l.getD i default) = true) (Q : V → Heap → Prop) (hQ : ∀ H' acc, Part l l.length acc → acc.length ≤ 140000 → Keeps [] H H' → Q (.string (sv acc)) H') : wp (A_ref03_Bytes [v]) Q H := by
  show wp (F_ref03_Bytes v) Q H
  have hlen := h.len
  (try simp (maxSteps := 1000000) (disch := first | omega | (simp only [Z3]; omega) | (simp; done) | assumption | decide | (refine not_not_intro ?_; assumption)) only [Z1, Z2, splice, F_ref03_Bytes, hlen, i64_quo256, i64_rem256, quo_u8, rem_u8])
  refine (wp_bslc (cs := encs (w2 l.length)) (by rfl) (by rfl)).mpr ?_
  have k4 : Keeps [] H (H.push (some (.cells true (encs (w2 l.length))))) := Keeps.push _ _ _
  have o4 := ownF_push (H := H) (xs := w2 l.length) (n := 1) (m := 2) rfl rfl
  generalize H.push (some (.cells true (encs (w2 l.length)))) = H4 at *
  (try simp (maxSteps := 1000000) (disch := first | omega | (simp only [Z3]; omega) | (simp; done) | assumption | decide | (refine not_not_intro ?_; assumption)) only [Z1, Z2, splice])
  refine wp_loop (Inv := fun k vs H' => ∃ (i : Nat) (w : V) (acc : List (BitVec 8)), k = l.length - i ∧ i ≤ l.length ∧ vs = [v, w, i64 i] ∧ OwnF H' w acc ∧ Keeps [] H H' ∧ (∀ b ∈ vb w, H.next ≤ b) ∧ Part l i acc ∧ acc.length ≤ 140000) (n := l.length) (by unfold FUEL; omega)
    ⟨0, _, w2 l.length, by omega, by omega, rfl, o4, k4, by simp, ⟨by simp, .inl (by simp)⟩, by simp [w2]⟩ ?_
  rintro k vs H1 ⟨i, w, acc, hk, hi, rfl, ho, hk1, hv, hp, ha⟩
  have hacc := ho.len
  by_cases hbig : acc.length > 65536
  · have hp' : Part l l.length acc := by
      have : ∀ d i, i + d = l.length → Part l i acc → Part l l.length acc := by
        intro d
        induction d with
        | zero => intro i hi hp; rw [Nat.add_zero] at hi; rw [← hi]; exact hp
        | succ d ih => intro i hi hp; exact ih (i + 1) (by omega) (hp.stay (by omega) hbig)
      exact this (l.length - i) i (by omega) hp
    by_cases hlt : i < l.length
    · (try simp (maxSteps := 1000000) (disch := first | omega | (simp only [Z3]; omega) | (simp; done) | assumption | decide | (refine not_not_intro ?_; assumption)) only [Z1, Z2, splice, ref03_Bytes_l2, ref03_Bytes_k3, hlen, hacc])
      refine ownF_b2s ho ?_
      (try simp (maxSteps := 1000000) (disch := first | omega | (simp only [Z3]; omega) | (simp; done) | assumption | decide | (refine not_not_intro ?_; assumption)) only [Z1, Z2, splice])
      exact hQ _ _ hp' ha hk1
    · (try simp (maxSteps := 1000000) (disch := first | omega | (simp only [Z3]; omega) | (simp; done) | assumption | decide | (refine not_not_intro ?_; assumption)) only [Z1, Z2, splice, ref03_Bytes_l2, ref03_Bytes_k3, hlen, hacc])
      refine ownF_b2s ho ?_
      (try simp (maxSteps := 1000000) (disch := first | omega | (simp only [Z3]; omega) | (simp; done) | assumption | decide | (refine not_not_intro ?_; assumption)) only [Z1, Z2, splice])
      exact hQ _ _ hp' ha hk1
  by_cases hlt : i < l.length
  case neg =>
    have : i = l.length := by omega
    subst this
    (try simp (maxSteps := 1000000) (disch := first | omega | (simp only [Z3]; omega) | (simp; done) | assumption | decide | (refine not_not_intro ?_; assumption)) only [Z1, Z2, splice, ref03_Bytes_l2, ref03_Bytes_k3, hlen, hacc])
    refine ownF_b2s ho ?_
    (try simp (maxSteps := 1000000) (disch := first | omega | (simp only [Z3]; omega) | (simp; done) | assumption | decide | (refine not_not_intro ?_; assumption)) only [Z1, Z2, splice])
    exact hQ _ _ hp ha hk1
  have hs1 := h.keep0 hk1
  have a1 := hs1.addr' (n := 3) rfl (k := .i64) (i := i) (by omega) (by omega)
  rw [Int.toNat_natCast] at a1
  have d1 := fun Q => hs1.ldn' (Q := Q) (n := 3) rfl hlt default
  have hm1 := hm i hlt
  (try simp (maxSteps := 1000000) (disch := first | omega | (simp only [Z3]; omega) | (simp; done) | assumption | decide | (refine not_not_intro ?_; assumption)) only [Z1, Z2, splice, ref03_Bytes_l2, hlen, hacc, ref03_Bytes_k1, a1, d1])
  refine one_ok _ hm1 _ fun H2 k2 => ?_
  have := oneI_len _ hm1
  refine ownF_appS (ho.keep0 k2) (by rw [sv_size]; omega) fun w3 H3 o3 k3 v3 => ?_
  (try simp (maxSteps := 1000000) (disch := first | omega | (simp only [Z3]; omega) | (simp; done) | assumption | decide | (refine not_not_intro ?_; assumption)) only [Z1, Z2, splice, ref03_Bytes_k0])
  refine ⟨l.length - (i + 1), by omega, i + 1, w3, _, rfl, by omega, by push_cast; rfl, o3, ?_, ?_, ?_, ?_⟩
  · exact (hk1.trans k2 (by simp)).trans k3 fun b hb hm => by have := hv b hm; omega
  · intro b hb
    rcases v3 b hb with q | q
    · exact hv b q
    · have := hk1.next; have := k2.next; omega
  · rw [bv_sv]; exact hp.grow hlt (by omega)
  · rw [bv_sv, List.length_append]; omega

theorem renc_ok {H : Heap} {v : V} {l : List It} (h : Sl H v l) (Q : V → Heap → Prop) (hQ : ∀ H', Keeps [] H H' → Q (.tuple #[.string (encI l).1, i64 (encI l).2]) H') : wp (A_ref03_Encode [v]) Q H := by
  show wp (F_ref03_Encode v) Q H
  have hlen := h.len
  unfold F_ref03_Encode
  by_cases h1 : l.length > 1000
  · have e : encI l = (⟨#[]⟩, 2) := by unfold encI; rw [if_pos h1]
    rw [e] at hQ
    (try simp (maxSteps := 1000000) (disch := first | omega | (simp only [Z3]; omega) | (simp; done) | assumption | decide | (refine not_not_intro ?_; assumption)) only [Z1, Z2, splice, hlen])
    exact hQ H (Keeps.refl _ _)
  (try simp (maxSteps := 1000000) (disch := first | omega | (simp only [Z3]; omega) | (simp; done) | assumption | decide | (refine not_not_intro ?_; assumption)) only [Z1, Z2, splice, hlen, ref03_Encode_k5])
  have hres : l.any (fun x => !mayI x) = true → encI l = (⟨#[]⟩, 4) := fun q => by unfold encI; rw [if_neg h1, if_pos q]
  refine wp_loop (Inv := fun k vs H' => ∃ (i : Nat), k = l.length - i ∧ i ≤ l.length ∧ vs = [v, i64 i] ∧ Keeps [] H H' ∧ (∀ j, j < i → mayI (l.getD j default) = true)) (n := l.length) (by unfold FUEL; omega)
    ⟨0, by omega, by omega, rfl, Keeps.refl _ _, by omega⟩ ?_
  rintro k vs H1 ⟨i, hk, hi, rfl, hk1, hmay⟩
  by_cases hlt : i < l.length
  case neg =>
    have : i = l.length := by omega
    subst this
    have hany := any_none hmay
    (try simp (maxSteps := 1000000) (disch := first | omega | (simp only [Z3]; omega) | (simp; done) | assumption | decide | (refine not_not_intro ?_; assumption)) only [Z1, Z2, splice, ref03_Encode_l2, hlen, ref03_Encode_k4])
    refine bytes_ok (h.keep0 hk1) (by omega) hmay _ fun H2 acc hp ha k2 => ?_
    have hd := hp.done
    have hsz := sv_size acc
    by_cases hbig : acc.length > 65536
    · have e : encI l = (⟨#[]⟩, 2) := by unfold encI; rw [if_neg h1, if_neg (by simp [hany]), if_pos (hd.2 hbig)]
      rw [e] at hQ
      (try simp (maxSteps := 1000000) (disch := first | omega | (simp only [Z3]; omega) | (simp; done) | assumption | decide | (refine not_not_intro ?_; assumption)) only [Z1, Z2, splice, hsz])
      exact hQ _ (hk1.trans k2 (by simp))
    · have e0 := hd.1 (by omega)
      have e : encI l = (sv (fullI l), 0) := by unfold encI; rw [if_neg h1, if_neg (by simp [hany]), if_neg (by rw [← e0]; omega)]
      rw [e] at hQ
      (try simp (maxSteps := 1000000) (disch := first | omega | (simp only [Z3]; omega) | (simp; done) | assumption | decide | (refine not_not_intro ?_; assumption)) only [Z1, Z2, splice, hsz, ref03_Encode_k3])
      rw [e0]
      exact hQ _ (hk1.trans k2 (by simp))
  have hs1 := h.keep0 hk1
  have a1 := hs1.addr' (n := 3) rfl (k := .i64) (i := i) (by omega) (by omega)
  rw [Int.toNat_natCast] at a1
  have d1 := fun Q => hs1.ldn' (Q := Q) (n := 3) rfl hlt default
  (try simp (maxSteps := 1000000) (disch := first | omega | (simp only [Z3]; omega) | (simp; done) | assumption | decide | (refine not_not_intro ?_; assumption)) only [Z1, Z2, splice, ref03_Encode_l2, hlen, ref03_Encode_k1, a1, d1])
  refine may_ok _ _ fun H2 k2 => ?_
  cases hm : mayI (l.getD i default) with
  | false =>
    rw [hres (any_at hlt hm)] at hQ
    (try simp (maxSteps := 1000000) (disch := first | omega | (simp only [Z3]; omega) | (simp; done) | assumption | decide | (refine not_not_intro ?_; assumption)) only [Z1, Z2, splice])
    exact hQ _ (hk1.trans k2 (by simp))
  | true =>
    (try simp (maxSteps := 1000000) (disch := first | omega | (simp only [Z3]; omega) | (simp; done) | assumption | decide | (refine not_not_intro ?_; assumption)) only [Z1, Z2, splice, ref03_Encode_k0])
    refine ⟨l.length - (i + 1), by omega, i + 1, rfl, by omega, by push_cast; rfl, hk1.trans k2 (by simp), fun j hj => ?_⟩
    rcases Nat.lt_or_eq_of_le (Nat.lt_succ_iff.1 hj) with q | rfl
    · exact hmay j q
    · exact hm
end Go.AM.Cap
