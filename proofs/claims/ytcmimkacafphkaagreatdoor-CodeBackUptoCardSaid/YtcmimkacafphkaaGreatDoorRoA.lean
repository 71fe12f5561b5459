import Derived.Test.YtcmimkacafphkaaGreatDoorFun2
import Derived.Test.YtcmimkacafphkaaGreatDoorAmOwnF
import Derived.Test.YtcmimkacafphkaaGreatDoorAmOpenF
set_option linter.all false
/- roles: strings.Trim at a set of ASCII letters -/
set_option maxHeartbeats 8000000
namespace Go.AM.Cap
open Go.AM Go.Proofs

theorem splice_all {cs vs : List V} (h : vs.length = cs.length) : splice cs 0 vs = vs := by
  unfold splice
  rw [List.take_zero, List.nil_append, List.drop_of_length_le (by omega), List.append_nil]
theorem wp_stn_all {H : Heap} {b n : Nat} {cs vs : List V} {Q : V → Heap → Prop} (hg : H.get b = some (.cells true cs)) (h1 : cs.length = n) (h2 : vs.length = n) (h3 : vs.all Value.isOne = true) : wp (stn n (ptr b 0) (.agg vs.toArray)) Q H ↔ Q undef (H.set b (some (.cells true vs))) := by
  rw [wp_stng, hg, stnG_ok h3 h2 (by omega), splice_all (by omega)]
theorem wp_ldn_all {H : Heap} {b n : Nat} {rw_ : Bool} {cs : List V} {Q : V → Heap → Prop} (hg : H.get b = some (.cells rw_ cs)) (h1 : cs.length = n) : wp (ldn n (ptr b 0)) Q H ↔ Q (.agg cs.toArray) H := by
  rw [wp_ldng, hg, ldG_ok (by omega), List.drop_zero, List.take_of_length_le (by omega)]

def inS (cs : List (BitVec 8)) (b : BitVec 8) : Bool := cs.any fun c => c.toNat == b.toNat
def setC (cs : List (BitVec 8)) : List V := (List.range 256).map fun j => .bool (cs.any fun c => c.toNat == j)
theorem setC_length (cs : List (BitVec 8)) : (setC cs).length = 256 := by simp [setC]
theorem setC_nil : setC [] = List.replicate 256 (Value.bool false) := by kernel_rfl
theorem setC_one (cs : List (BitVec 8)) : (setC cs).all Value.isOne = true := by
  rw [List.all_eq_true]
  intro v hv
  simp only [setC, List.mem_map] at hv
  obtain ⟨j, _, rfl⟩ := hv
  rfl
theorem setC_get (cs : List (BitVec 8)) (b : BitVec 8) : (setC cs)[b.toNat]? = some (.bool (inS cs b)) := by
  have := b.isLt
  simp only [setC, List.getElem?_map, List.getElem?_range this, Option.map_some, inS]
theorem setC_step (cs : List (BitVec 8)) (b : BitVec 8) : (setC cs).set b.toNat (.bool true) = setC (cs ++ [b]) := by
  apply List.ext_getElem?
  intro j
  rw [List.getElem?_set, setC_length]
  by_cases hj : b.toNat = j
  · subst hj
    rw [if_pos rfl, if_pos b.isLt, setC_get]
    simp [inS]
  · rw [if_neg hj]
    simp only [setC, List.getElem?_map]
    by_cases h : j < 256
    · rw [List.getElem?_range h]
      simp [hj]
    · rw [List.getElem?_eq_none (by simpa using h)]
      rfl
/-- the set of a string's letters -/
theorem set_ok {H : Heap} (s : ByteArray) (ha : ∀ b ∈ bv s, b.toNat < 128) (hs : s.size ≤ 1000000) (Q : V → Heap → Prop) (hQ : ∀ H', Keeps [] H H' → Q (.tuple #[.agg (setC (bv s)).toArray, .bool true]) H') : wp (A_strings_makeASCIISet [.string s]) Q H := by
  show wp (F_strings_makeASCIISet (.string s)) Q H
  have hb := bv_length s
  unfold F_strings_makeASCIISet
  rw [wp_bnd, wp_bnd]
  refine (wp_newcg (by kernel_rfl)).mpr ?_
  rw [← setC_nil]
  have k1 : Keeps [] H (H.push (some (.cells true (setC [])))) := Keeps.push _ _ _
  have g1 : (H.push (some (.cells true (setC [])))).get H.next = some (.cells true (setC [])) := Heap.get_push_self _ _
  have n1 : (H.push (some (.cells true (setC [])))).next = H.next + 1 := by simp
  generalize H.push (some (.cells true (setC []))) = H1 at *
  (try simp (maxSteps := 1000000) (disch := first | omega | (simp only [Z3]; omega) | (simp; done) | assumption | decide | (refine not_not_intro ?_; assumption)) only [Z1, Z2, splice])
  refine wp_loop (Inv := fun k vs H' => ∃ i : Nat, k = s.size - i ∧ i ≤ s.size ∧ vs = [.string s, ptr H.next 0, i64 i] ∧ Keeps [] H H' ∧ H.next < H'.next ∧ H'.get H.next = some (.cells true (setC ((bv s).take i)))) (n := s.size) (by unfold FUEL; omega)
    ⟨0, by omega, by omega, rfl, k1, by omega, g1⟩ ?_
  rintro k vs H2 ⟨i, hk, hi, rfl, hk2, hn2, hg2⟩
  by_cases hlt : i < s.size
  case neg =>
    have : i = s.size := by omega
    subst this
    rw [← hb, List.take_length] at hg2
    have g3 := Heap.get_set_eq (x := some (.cells true (setC (bv s)))) hn2
    (try simp (maxSteps := 1000000) (disch := first | omega | (simp only [Z3]; omega) | (simp; done) | assumption | decide | (refine not_not_intro ?_; assumption)) only [Z1, cellP_get, cellG_cells, wp_st1g, stG_c, eq_self, true_and, stnG_ok, ldG_ok, wp_newcg, wp_boxg, Heap.get_push_eq, Heap.get_push_lt, Heap.get_set_eq, Heap.get_set_ne', Heap.next_push', Heap.next_set', Heap.set_push_lt, Heap.set_push_eq, Heap.set_set, fld1_agg, fldn_agg, ext_tuple, outV_nil, outV_two, outV_three, outV_four, chk_ld1g, chkO_int, chkO_bool, chkO_str, chkO_ptr, chkO_slc, chkO_map, List.set_cons_zero, List.set_cons_succ, List.length_cons, List.length_nil, List.drop_succ_cons, List.drop_zero, List.take_succ_cons, List.take_zero, List.nil_append, List.cons_append, splice, isOne_int, isOne_str, isOne_bool, isOne_slice, isOne_pointer, isOne_map, condM_nf, condM_nef, gd_nef, gdf_nef, pick_nef, build_eq, fillA_nil, fillA_one, fillA_agg, Option.map_some, resv_one, resv_two, freeIn_nil, fillA_slc, fillA_int, fillA_str, fillA_bool, fillA_ptr, fillA_map, strings_makeASCIISet_l3, strings_makeASCIISet_k4, wp_ldn_all hg2 (setC_length _), wp_stn_all hg2 (setC_length _) (setC_length _) (setC_one _), wp_ldn_all g3 (setC_length _)])
    exact hQ _ (keeps_set hk2 (.inr (Nat.le_refl _)))
  have ix := idxS_bv (s := s) (k := .i64) (i := i) (by omega) (by omega)
  rw [Int.toNat_natCast] at ix
  have hlt' : i < (bv s).length := by omega
  have hmem : (bv s).getD i 0 ∈ bv s := by
    rw [List.getD_eq_getElem?_getD, List.getElem?_eq_getElem hlt']; exact List.getElem_mem hlt'
  have hsm := ha _ hmem
  have hst : (bv s).take (i + 1) = (bv s).take i ++ [(bv s).getD i 0] := by
    rw [List.take_succ, List.getElem?_eq_getElem hlt', List.getD_eq_getElem?_getD, List.getElem?_eq_getElem hlt']; rfl
  generalize (bv s).getD i 0 = c at *
  have hia : iaddrA 256 1 (ptr H.next 0) (B c) = some (ptr H.next c.toNat) := by
    rw [iaddrA_ptr (by omega) (by omega)]; simp
  have hlc : c.toNat < (setC ((bv s).take i)).length := by rw [setC_length]; omega
  (try simp (maxSteps := 1000000) (disch := first | omega | (simp only [Z3]; omega) | (simp; done) | assumption | decide | (refine not_not_intro ?_; assumption)) only [Z1, Z2, splice, strings_makeASCIISet_l3, strings_makeASCIISet_k2, ix, strings_makeASCIISet_k0, hia, hg2, strings_makeASCIISet_k1])
  refine ⟨s.size - (i + 1), by omega, i + 1, rfl, by omega, by push_cast; rfl, keeps_set hk2 (.inr (Nat.le_refl _)), by omega, ?_⟩
  rw [hst, ← setC_step]

/-- what is left of bytes when the letters of a set are taken away at their ends -/
def dropR (cs l : List (BitVec 8)) : List (BitVec 8) := (l.reverse.dropWhile (inS cs)).reverse
def dropL (cs l : List (BitVec 8)) : List (BitVec 8) := l.dropWhile (inS cs)
theorem has_ok {H : Heap} {b : Nat} {cs : List (BitVec 8)} (hg : H.get b = some (.cells true (setC cs))) (c : BitVec 8) (Q : V → Heap → Prop) (hQ : Q (.bool (inS cs c)) H) : wp (A_strings_asciiSet_contains [ptr b 0, B c]) Q H := by
  show wp (F_strings_asciiSet_contains (ptr b 0) (B c)) Q H
  have hlt := c.isLt
  have hia : iaddrA 256 1 (ptr b 0) (B c) = some (ptr b c.toNat) := by
    rw [iaddrA_ptr (by omega) (by omega)]; simp
  have hget := setC_get cs c
  (try simp (maxSteps := 1000000) (disch := first | omega | (simp only [Z3]; omega) | (simp; done) | assumption | decide | (refine not_not_intro ?_; assumption)) only [Z1, Z2, splice, F_strings_asciiSet_contains, hia, hg, hget])
  exact hQ
theorem dropR_append (cs l : List (BitVec 8)) (c : BitVec 8) : dropR cs (l ++ [c]) = if inS cs c then dropR cs l else l ++ [c] := by
  unfold dropR
  rw [List.reverse_append]
  show (List.dropWhile (inS cs) (c :: l.reverse)).reverse = _
  rw [List.dropWhile_cons]
  split
  · rfl
  · simp
theorem trimR_ok {H : Heap} {b : Nat} {cs : List (BitVec 8)} (hg : H.get b = some (.cells true (setC cs))) (s : ByteArray) (hs : s.size ≤ 100000000) (Q : V → Heap → Prop) (hQ : Q (.string (sv (dropR cs (bv s)))) H) : wp (A_strings_trimRightASCII [.string s, ptr b 0]) Q H := by
  show wp (F_strings_trimRightASCII (.string s) (ptr b 0)) Q H
  (try simp (maxSteps := 1000000) (disch := first | omega | (simp only [Z3]; omega) | (simp; done) | assumption | decide | (refine not_not_intro ?_; assumption)) only [Z1, Z2, splice, F_strings_trimRightASCII])
  refine wp_loop (Inv := fun k vs H' => ∃ l : List (BitVec 8), k = l.length ∧ l.length ≤ s.size ∧ vs = [.string (sv l), ptr b 0] ∧ H' = H ∧ dropR cs l = dropR cs (bv s)) (n := s.size) (by unfold FUEL; omega)
    ⟨bv s, (bv_length s).symm, by rw [bv_length]; omega, by rw [sv_bv], rfl, rfl⟩ ?_
  rintro k vs H' ⟨l, hk, hl, rfl, he, hd⟩
  rw [he]; clear he H'
  have hsz := sv_size l
  rcases List.eq_nil_or_concat l with rfl | ⟨m, c, rfl⟩
  · have hz : ¬ (((sv ([] : List (BitVec 8))).size : Int) > 0) := by rw [hsz]; simp
    (try simp (maxSteps := 1000000) (disch := first | omega | (simp only [Z3]; omega) | (simp; done) | assumption | decide | (refine not_not_intro ?_; assumption)) only [Z1, Z2, splice, strings_trimRightASCII_l2, strings_trimRightASCII_k3])
    rw [← hd] at hQ
    exact hQ
  · rw [List.concat_eq_append] at *
    have hln : (m ++ [c]).length = m.length + 1 := by simp
    have ix := idxS_bv (s := sv (m ++ [c])) (k := .i64) (i := (m.length : Int)) (by omega) (by omega)
    rw [Int.toNat_natCast, bv_sv, show (m ++ [c]).getD m.length 0 = c from by simp] at ix
    have hsub := subS_hi (s := sv (m ++ [c])) (k' := .i64) (b := (m.length : Int)) (by omega) (by omega)
    have hv : (sv (m ++ [c])).extract 0 (m.length : Int).toNat = sv m := by
      apply bv_inj
      rw [bv_extract, bv_sv, bv_sv]; simp
    rw [hv] at hsub
    rw [dropR_append] at hd
    have e1 : (((m ++ [c]).length : Nat) : Int) - 1 = m.length := by omega
    (try simp (maxSteps := 1000000) (disch := first | omega | (simp only [Z3]; omega) | (simp; done) | assumption | decide | (refine not_not_intro ?_; assumption)) only [Z1, Z2, splice, strings_trimRightASCII_l2, strings_trimRightASCII_k1, hsz, e1, ix])
    refine has_ok hg c _ ?_
    cases hin : inS cs c with
    | true =>
      rw [hin, if_pos rfl] at hd
      (try simp (maxSteps := 1000000) (disch := first | omega | (simp only [Z3]; omega) | (simp; done) | assumption | decide | (refine not_not_intro ?_; assumption)) only [Z1, Z2, splice, strings_trimRightASCII_k0, hsz, e1, hsub])
      exact ⟨m.length, by omega, m, rfl, by omega, rfl, hd⟩
    | false =>
      rw [hin, if_neg (by simp)] at hd
      have h01 : ((0 : Nat) = 1) = False := by simp
      (try simp (maxSteps := 1000000) (disch := first | omega | (simp only [Z3]; omega) | (simp; done) | assumption | decide | (refine not_not_intro ?_; assumption)) only [Z1, Z2, splice, h01, if_false, strings_trimRightASCII_k3])
      rw [← hd] at hQ
      exact hQ
theorem trimL_ok {H : Heap} {b : Nat} {cs : List (BitVec 8)} (hg : H.get b = some (.cells true (setC cs))) (s : ByteArray) (hs : s.size ≤ 100000000) (Q : V → Heap → Prop) (hQ : Q (.string (sv (dropL cs (bv s)))) H) : wp (A_strings_trimLeftASCII [.string s, ptr b 0]) Q H := by
  show wp (F_strings_trimLeftASCII (.string s) (ptr b 0)) Q H
  (try simp (maxSteps := 1000000) (disch := first | omega | (simp only [Z3]; omega) | (simp; done) | assumption | decide | (refine not_not_intro ?_; assumption)) only [Z1, Z2, splice, F_strings_trimLeftASCII])
  refine wp_loop (Inv := fun k vs H' => ∃ l : List (BitVec 8), k = l.length ∧ l.length ≤ s.size ∧ vs = [.string (sv l), ptr b 0] ∧ H' = H ∧ dropL cs l = dropL cs (bv s)) (n := s.size) (by unfold FUEL; omega)
    ⟨bv s, (bv_length s).symm, by rw [bv_length]; omega, by rw [sv_bv], rfl, rfl⟩ ?_
  rintro k vs H' ⟨l, hk, hl, rfl, he, hd⟩
  rw [he]; clear he H'
  have hsz := sv_size l
  match l, hk, hl, hd, hsz with
  | [], hk, hl, hd, hsz =>
    have hz : ¬ (((sv ([] : List (BitVec 8))).size : Int) > 0) := by rw [hsz]; simp
    (try simp (maxSteps := 1000000) (disch := first | omega | (simp only [Z3]; omega) | (simp; done) | assumption | decide | (refine not_not_intro ?_; assumption)) only [Z1, Z2, splice, strings_trimLeftASCII_l2, strings_trimLeftASCII_k3])
    rw [← hd] at hQ
    exact hQ
  | c :: m, hk, hl, hd, hsz =>
    rw [List.length_cons] at hsz hk hl
    have ix := idxS_bv (s := sv (c :: m)) (k := .i64) (i := 0) (by omega) (by omega)
    rw [bv_sv, show (c :: m).getD (0 : Int).toNat 0 = c from rfl] at ix
    have hsub := subS_lo (s := sv (c :: m)) (k := .i64) (a := 1) (by omega) (by omega)
    have hv : (sv (c :: m)).extract (1 : Int).toNat (sv (c :: m)).size = sv m := by
      apply bv_inj
      rw [bv_extract, bv_sv, bv_sv, hsz]; simp
    rw [hv] at hsub
    have hdl : dropL cs (c :: m) = if inS cs c then dropL cs m else c :: m := by
      unfold dropL; rw [List.dropWhile_cons]
    rw [hdl] at hd
    (try simp (maxSteps := 1000000) (disch := first | omega | (simp only [Z3]; omega) | (simp; done) | assumption | decide | (refine not_not_intro ?_; assumption)) only [Z1, Z2, splice, strings_trimLeftASCII_l2, strings_trimLeftASCII_k1, hsz, ix])
    refine has_ok hg c _ ?_
    cases hin : inS cs c with
    | true =>
      rw [hin, if_pos rfl] at hd
      (try simp (maxSteps := 1000000) (disch := first | omega | (simp only [Z3]; omega) | (simp; done) | assumption | decide | (refine not_not_intro ?_; assumption)) only [Z1, Z2, splice, strings_trimLeftASCII_k0, hsub])
      exact ⟨m.length, by omega, m, rfl, by omega, rfl, hd⟩
    | false =>
      rw [hin, if_neg (by simp)] at hd
      have h01 : ((0 : Nat) = 1) = False := by simp
      (try simp (maxSteps := 1000000) (disch := first | omega | (simp only [Z3]; omega) | (simp; done) | assumption | decide | (refine not_not_intro ?_; assumption)) only [Z1, Z2, splice, h01, if_false, strings_trimLeftASCII_k3])
      rw [← hd] at hQ
      exact hQ
theorem dropR_len (cs l : List (BitVec 8)) : (dropR cs l).length ≤ l.length := by
  unfold dropR
  rw [List.length_reverse]
  have := (List.dropWhile_sublist (inS cs) (l := l.reverse)).length_le
  rwa [List.length_reverse] at this
/-- strings.Trim at letters of which there are two at least -/
theorem trim_ok {H : Heap} {G : List V → M V} (s cs : ByteArray) (hs : s.size ≤ 100000000) (ha : ∀ b ∈ bv cs, b.toNat < 128) (hc : 2 ≤ cs.size) (hc2 : cs.size ≤ 1000000) (Q : V → Heap → Prop) (hQ : ∀ H', Keeps [] H H' → Q (.string (sv (dropL (bv cs) (dropR (bv cs) (bv s))))) H') : wp (A_strings_Trim G [.string s, .string cs]) Q H := by
  show wp (F_strings_Trim G (.string s) (.string cs)) Q H
  have hne : ¬ cs = ⟨#[]⟩ := fun q => by rw [q] at hc; revert hc; decide
  have hn1 : ¬ ((cs.size : Int) = 1) := by omega
  by_cases h0 : s = ⟨#[]⟩
  · subst h0
    (try simp (maxSteps := 1000000) (disch := first | omega | (simp only [Z3]; omega) | (simp; done) | assumption | decide | (refine not_not_intro ?_; assumption)) only [Z1, Z2, splice, F_strings_Trim])
    exact hQ H (Keeps.refl _ _)
  (try simp (maxSteps := 1000000) (disch := first | omega | (simp only [Z3]; omega) | (simp; done) | assumption | decide | (refine not_not_intro ?_; assumption)) only [Z1, cellP_get, cellG_cells, wp_st1g, stG_c, eq_self, true_and, wp_stng, stnG_ok, wp_ldng, ldG_ok, wp_boxg, Heap.get_push_eq, Heap.get_push_lt, Heap.get_set_eq, Heap.get_set_ne', Heap.next_push', Heap.next_set', Heap.set_push_lt, Heap.set_push_eq, Heap.set_set, fld1_agg, fldn_agg, ext_tuple, outV_nil, outV_two, outV_three, outV_four, chk_ld1g, chkO_int, chkO_bool, chkO_str, chkO_ptr, chkO_slc, chkO_map, List.set_cons_zero, List.set_cons_succ, List.length_cons, List.length_nil, List.drop_succ_cons, List.drop_zero, List.take_succ_cons, List.take_zero, List.nil_append, List.cons_append, splice, isOne_int, isOne_str, isOne_bool, isOne_slice, isOne_pointer, isOne_map, condM_nf, condM_nef, gd_nef, gdf_nef, pick_nef, build_eq, fillA_nil, fillA_one, fillA_agg, Option.map_some, resv_one, resv_two, freeIn_nil, fillA_slc, fillA_int, fillA_str, fillA_bool, fillA_ptr, fillA_map, F_strings_Trim, strings_Trim_k2, strings_Trim_k1])
  refine set_ok cs ha hc2 _ fun H1 k1 => ?_
  (try simp (maxSteps := 1000000) (disch := first | omega | (simp only [Z3]; omega) | (simp; done) | assumption | decide | (refine not_not_intro ?_; assumption)) only [Z1, cellP_get, cellG_cells, wp_st1g, stG_c, eq_self, true_and, wp_stng, stnG_ok, wp_ldng, ldG_ok, wp_boxg, Heap.get_push_eq, Heap.get_push_lt, Heap.get_set_eq, Heap.get_set_ne', Heap.next_push', Heap.next_set', Heap.set_push_lt, Heap.set_push_eq, Heap.set_set, fld1_agg, fldn_agg, ext_tuple, outV_nil, outV_two, outV_three, outV_four, chk_ld1g, chkO_int, chkO_bool, chkO_str, chkO_ptr, chkO_slc, chkO_map, List.set_cons_zero, List.set_cons_succ, List.length_cons, List.length_nil, List.drop_succ_cons, List.drop_zero, List.take_succ_cons, List.take_zero, List.nil_append, List.cons_append, splice, isOne_int, isOne_str, isOne_bool, isOne_slice, isOne_pointer, isOne_map, condM_nf, condM_nef, gd_nef, gdf_nef, pick_nef, build_eq, fillA_nil, fillA_one, fillA_agg, Option.map_some, resv_one, resv_two, freeIn_nil, fillA_slc, fillA_int, fillA_str, fillA_bool, fillA_ptr, fillA_map])
  refine (wp_newcg (by kernel_rfl)).mpr ?_
  have k2 : Keeps [] H1 (H1.push (some (.cells true (List.replicate 256 (Value.bool false))))) := Keeps.push _ _ _
  have g2 : (H1.push (some (.cells true (List.replicate 256 (Value.bool false))))).get H1.next = some (.cells true (List.replicate 256 (Value.bool false))) := Heap.get_push_self _ _
  have n2 : (H1.push (some (.cells true (List.replicate 256 (Value.bool false))))).next = H1.next + 1 := Heap.next_push' ..
  generalize H1.push (some (.cells true (List.replicate 256 (Value.bool false)))) = H2 at *
  (try simp (maxSteps := 1000000) (disch := first | omega | (simp only [Z3]; omega) | (simp; done) | assumption | decide | (refine not_not_intro ?_; assumption)) only [Z1, cellP_get, cellG_cells, wp_st1g, stG_c, eq_self, true_and, stnG_ok, wp_ldng, ldG_ok, wp_newcg, wp_boxg, Heap.get_push_eq, Heap.get_push_lt, Heap.get_set_eq, Heap.get_set_ne', Heap.next_push', Heap.next_set', Heap.set_push_lt, Heap.set_push_eq, Heap.set_set, fld1_agg, fldn_agg, ext_tuple, outV_nil, outV_two, outV_three, outV_four, chk_ld1g, chkO_int, chkO_bool, chkO_str, chkO_ptr, chkO_slc, chkO_map, List.set_cons_zero, List.set_cons_succ, List.length_cons, List.length_nil, List.drop_succ_cons, List.drop_zero, List.take_succ_cons, List.take_zero, List.nil_append, List.cons_append, splice, isOne_int, isOne_str, isOne_bool, isOne_slice, isOne_pointer, isOne_map, condM_nf, condM_nef, gd_nef, gdf_nef, pick_nef, build_eq, fillA_nil, fillA_one, fillA_agg, Option.map_some, resv_one, resv_two, freeIn_nil, fillA_slc, fillA_int, fillA_str, fillA_bool, fillA_ptr, fillA_map, wp_stn_all g2 (List.length_replicate) (setC_length _) (setC_one _)])
  have g3 := Heap.get_set_eq (x := some (.cells true (setC (bv cs)))) (show H1.next < H2.next by omega)
  have k3 : Keeps [] H1 (H2.set H1.next (some (.cells true (setC (bv cs))))) := keeps_set k2 (.inr (Nat.le_refl _))
  generalize H2.set H1.next (some (.cells true (setC (bv cs)))) = H3 at *
  refine trimR_ok g3 s hs _ ?_
  (try simp (maxSteps := 1000000) (disch := first | omega | (simp only [Z3]; omega) | (simp; done) | assumption | decide | (refine not_not_intro ?_; assumption)) only [Z1, Z2, splice])
  refine trimL_ok g3 _ (by rw [sv_size]; have := dropR_len (bv cs) (bv s); rw [bv_length] at this; omega) _ ?_
  (try simp (maxSteps := 1000000) (disch := first | omega | (simp only [Z3]; omega) | (simp; done) | assumption | decide | (refine not_not_intro ?_; assumption)) only [Z1, Z2, splice])
  rw [bv_sv]
  exact hQ _ (k1.trans k3 (by simp))
theorem dropW_nil {α : Type} (p : α → Bool) : ∀ l : List α, l.dropWhile p = [] ↔ ∀ b ∈ l, p b = true
  | [] => by simp
  | a :: l => by
    rw [List.dropWhile_cons]
    by_cases h : p a = true
    · rw [if_pos h, dropW_nil p l]; simp [h]
    · rw [if_neg h]; simp [h]
/-- nothing is left just where all are letters of the set -/
theorem trim_nil (cs l : List (BitVec 8)) : dropL cs (dropR cs l) = [] ↔ ∀ b ∈ l, inS cs b = true := by
  unfold dropL dropR
  rw [dropW_nil]
  constructor
  · intro h
    by_cases hn : l.reverse.dropWhile (inS cs) = []
    · rw [dropW_nil] at hn
      intro b hb
      exact hn b (by simpa using hb)
    · have h1 := List.head_dropWhile_not (inS cs) (l := l.reverse) hn
      have h2 := h ((l.reverse.dropWhile (inS cs)).head hn) (by simp)
      rw [h1] at h2
      exact absurd h2 (by simp)
  · intro h b hb
    rw [List.mem_reverse] at hb
    have := (List.dropWhile_sublist (inS cs) (l := l.reverse)).subset hb
    exact h b (by simpa using this)
end Go.AM.Cap
