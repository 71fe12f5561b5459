/- roles: the plain law; works -/
import Derived.Test.YtfcjpopnibhagaaDoorRoD
import Derived.KernelRfl
set_option linter.all false
set_option maxHeartbeats 8000000
namespace Go.AM.Cap
open Go.AM Go.Proofs

/-- users that may be -/
structure OkUs (l : List Us) (parts : Int) : Prop where
  range : 1 ≤ parts ∧ parts ≤ 8
  len : l.length ≤ 8
  each : ∀ u ∈ l, formedS u = true ∧ wrongS u.rs.xs parts = 0
  names : l.Pairwise fun u w => u.name ≠ w.name
theorem findS_none {l : List Us} {n : ByteArray} : findS l n = none ↔ ∀ u ∈ l, u.name ≠ n := by
  unfold findS
  rw [idxP_none]
  simp
theorem checkGo_ok {parts : Int} : ∀ {r ah : List Us}, (checkGo parts ah r).2 = 0 → (∀ u ∈ r, formedS u = true ∧ wrongS u.rs.xs parts = 0) ∧ (r.Pairwise fun u w => u.name ≠ w.name) ∧ ∀ u ∈ ah, ∀ w ∈ r, u.name ≠ w.name
  | [], _, _ => ⟨fun u hu => by simp at hu, .nil, fun u _ w hw => by simp at hw⟩
  | u :: r, ah, h => by
    unfold checkGo at h
    split at h
    · rename_i h1
      split at h
      · cases h
      · rename_i h2
        split at h
        · rename_i h3
          obtain ⟨g1, g2, g3⟩ := checkGo_ok h
          have h2' : findS ah u.name = none := by
            cases hq : findS ah u.name with
            | none => rfl
            | some i => rw [hq] at h2; exact absurd rfl h2
          rw [findS_none] at h2'
          refine ⟨fun w hw => ?_, ?_, fun x hx w hw => ?_⟩
          · rcases List.mem_cons.1 hw with rfl | hw
            · exact ⟨h1, h3⟩
            · exact g1 w hw
          · exact List.pairwise_cons.2 ⟨fun w hw => g3 u (by simp) w hw, g2⟩
          · rcases List.mem_cons.1 hw with rfl | hw
            · exact h2' x hx
            · exact g3 x (by simp [hx]) w hw
        · rename_i h3; exact absurd h h3
    · cases h
theorem checkGo_of {parts : Int} : ∀ {r ah : List Us}, (∀ u ∈ r, formedS u = true ∧ wrongS u.rs.xs parts = 0) → (r.Pairwise fun u w => u.name ≠ w.name) → (∀ u ∈ ah, ∀ w ∈ r, u.name ≠ w.name) → checkGo parts ah r = (0, 0)
  | [], _, _, _, _ => rfl
  | u :: r, ah, h1, h2, h3 => by
    unfold checkGo
    obtain ⟨g1, g2⟩ := h1 u (by simp)
    have hf : findS ah u.name = none := findS_none.2 fun w hw => h3 w hw u (by simp)
    rw [if_pos g1, hf, if_neg (by simp), if_pos g2]
    rw [List.pairwise_cons] at h2
    refine checkGo_of (fun w hw => h1 w (by simp [hw])) h2.2 (fun x hx w hw => ?_)
    rcases List.mem_append.1 hx with hx | hx
    · exact h3 x hx w (by simp [hw])
    · simp at hx; subst hx; exact h2.1 w hw
theorem chkUs_ok {l : List Us} {parts : Int} (h : (chkUs l parts).2 = 0) : OkUs l parts := by
  unfold chkUs at h
  split at h
  · cases h
  · rename_i h1
    split at h
    · cases h
    · rename_i h2
      obtain ⟨g1, g2, _⟩ := checkGo_ok h
      exact ⟨by omega, by omega, g1, g2⟩
theorem chkUs_of {l : List Us} {parts : Int} (h : OkUs l parts) : chkUs l parts = (0, 0) := by
  have := h.range
  have := h.len
  unfold chkUs
  rw [if_neg (by omega), if_neg (by omega)]
  exact checkGo_of h.each h.names (fun u hu => by simp at hu)
theorem OkUs.rev {l : List Us} {parts : Int} (h : OkUs l parts) : OkUs l.reverse parts :=
  ⟨h.range, by rw [List.length_reverse]; exact h.len, fun u hu => h.each u (by simpa using hu), by
    rw [List.pairwise_reverse]; exact h.names.imp fun q => q.symm⟩
/-- who is found -/
theorem find_at {l : List Us} (h : l.Pairwise fun u w => u.name ≠ w.name) {i : Nat} (hi : i < l.length) : findS l (l.getD i default).name = some i := by
  refine idxP_some (d := default) hi (by simp) fun j hj => ?_
  rw [List.pairwise_iff_getElem] at h
  have := h j i (by omega) hi hj
  rw [List.getD_eq_getElem?_getD, List.getD_eq_getElem?_getD, List.getElem?_eq_getElem hi, List.getElem?_eq_getElem (show j < l.length by omega)]
  simpa using this
theorem find_mem {l : List Us} (h : l.Pairwise fun u w => u.name ≠ w.name) {u : Us} (hu : u ∈ l) : ∃ i, findS l u.name = some i ∧ l.getD i default = u := by
  obtain ⟨i, hi, rfl⟩ := List.getElem_of_mem hu
  have := find_at h hi
  rw [List.getD_eq_getElem?_getD, List.getElem?_eq_getElem hi] at this
  exact ⟨i, this, by rw [List.getD_eq_getElem?_getD, List.getElem?_eq_getElem hi]; rfl⟩
theorem asked_rev {l : List Us} {parts : Int} (h : OkUs l parts) (n : ByteArray) (cmd : Int) : askedS l.reverse n cmd = askedS l n cmd := by
  unfold askedS
  split
  · rfl
  · cases hf : findS l n with
    | none =>
      rw [findS_none] at hf
      rw [findS_none.2 fun u hu => hf u (by simpa using hu)]
    | some i =>
      obtain ⟨hi, hp, _⟩ := idxP_spec (d := default) hf
      have hn : (l.getD i default).name = n := by simpa using hp
      have hm : l.getD i default ∈ l.reverse := by simpa using getD_mem' (d := default) hi
      obtain ⟨j, hj, hu⟩ := find_mem h.rev.names hm
      rw [← hn, hj]
      dsimp only
      rw [hu]
theorem may_rev {l : List Us} {parts : Int} (h : OkUs l parts) (n : ByteArray) (cmd part : Int) : mayS l.reverse n cmd part = mayS l n cmd part := by
  unfold mayS; rw [asked_rev h]
theorem aims_rev {l : List Us} {parts : Int} (h : OkUs l parts) (n : ByteArray) (cmd : Int) : aimsS l.reverse n cmd = aimsS l n cmd := by
  unfold aimsS
  rw [asked_rev h]
  simp only [may_rev h]

/-! levels -/
def levF (part : Int) (l : List Rl) : Int := l.foldl (fun lv r => if r.part = part then r.level else lv) 0
theorem levF_snoc (part : Int) (l : List Rl) (r : Rl) : levF part (l ++ [r]) = if r.part = part then r.level else levF part l := by
  unfold levF; rw [List.foldl_append]; rfl
theorem wrong_zero {rs : List Rl} {parts : Int} (h : wrongS rs parts = 0) : (∀ r ∈ rs, badR parts r = false) ∧ (rs.map (·.part)).Nodup := by
  unfold wrongS at h
  split at h
  · cases h
  · rename_i h1
    split at h
    · rename_i h2
      refine ⟨fun r hr => ?_, h2⟩
      have h1' : rs.any (badR parts) = false := by simpa only [Bool.not_eq_true] using h1
      simpa using (List.any_eq_false.1 h1') r hr
    · cases h
theorem foldl_keep (part : Int) : ∀ (l : List Rl) (a : Int), (∀ r ∈ l, r.part ≠ part) → l.foldl (fun lv r => if r.part = part then r.level else lv) a = a
  | [], _, _ => rfl
  | r :: l, a, h => by
    rw [List.foldl_cons, if_neg (h r (by simp)), foldl_keep part l a (fun x hx => h x (by simp [hx]))]
theorem levF_eq (part : Int) : ∀ {l : List Rl}, (l.map (·.part)).Nodup → levF part l = levelS l part := by
  have key : ∀ (l : List Rl) (a : Int), (l.map (·.part)).Nodup → l.foldl (fun lv r => if r.part = part then r.level else lv) a = match idxP (hasS part) l with | none => a | some i => (l.getD i default).level := by
    intro l
    induction l with
    | nil => intro a _; rfl
    | cons r l ih =>
      intro a hn
      rw [List.map_cons, List.nodup_cons] at hn
      rw [List.foldl_cons]
      by_cases h : r.part = part
      · rw [if_pos h, foldl_keep part l r.level (fun x hx q => hn.1 (by rw [h, ← q]; exact List.mem_map.2 ⟨x, hx, rfl⟩))]
        have : hasS part r = true := by simp [hasS, h]
        simp [idxP, this]
      · rw [if_neg h, ih a hn.2]
        have : hasS part r = false := by simp [hasS, h]
        have e : idxP (hasS part) (r :: l) = (idxP (hasS part) l).map (· + 1) := by
          show (if hasS part r = true then _ else _) = _
          rw [if_neg (by simp [this])]
        rw [e]
        cases idxP (hasS part) l with
        | none => rfl
        | some i => simp
  intro l hn
  exact key l 0 hn
/-- what a user that is found may do -/
theorem may_found {l : List Us} {parts : Int} (h : OkUs l parts) {i : Nat} (hi : i < l.length) {cmd : Int} (h1 : 1 ≤ cmd) (h2 : cmd ≤ 8) (part : Int) :
    (mayS l (l.getD i default).name cmd part = 0) ↔ (cmd = 8 ∨ (0 < levelS (l.getD i default).rs.xs part ∧ levelS (l.getD i default).rs.xs part ≥ (needsS cmd).1)) := by
  have hn : needsS cmd = (needT.getD cmd.toNat 0, 0) := by unfold needsS; rw [if_neg (by omega)]
  have ha : askedS l (l.getD i default).name cmd = ((needsS cmd).1, l.getD i default, 0) := by
    unfold askedS; rw [hn, if_neg (by simp), find_at h.names hi]
  have hmem := getD_mem' (d := default) hi
  obtain ⟨hb, hnd⟩ := wrong_zero (h.each _ hmem).2
  unfold mayS
  rw [ha]
  dsimp only
  rw [if_neg (by simp)]
  generalize l.getD i default = u at *
  by_cases h8 : cmd = 8
  · rw [if_pos h8]; simp [h8]
  · rw [if_neg h8]
    unfold levelS
    cases hf : idxP (hasS part) u.rs.xs with
    | none => simp [h8]
    | some j =>
      obtain ⟨hj, _, _⟩ := idxP_spec (d := default) hf
      have hbj := hb _ (getD_mem' (d := default) hj)
      simp only [badR, decide_eq_false_iff_not] at hbj
      simp only [h8, false_or, Option.isNone_some, Bool.false_eq_true]
      generalize (u.rs.xs.getD j default).level = lv at *
      have : 0 < lv := by omega
      by_cases hlv : lv < (needsS cmd).1
      · rw [if_pos hlv]; constructor
        · intro q; cases q
        · intro q; omega
      · rw [if_neg hlv]; constructor
        · intro _; omega
        · intro _; rfl
theorem needs_in {cmd : Int} (h1 : 1 ≤ cmd) (h2 : cmd ≤ 8) : (needsS cmd).2 = 0 := by unfold needsS; rw [if_neg (by omega)]

/-! works -/
def annS : ByteArray := ⟨#[97, 110, 110]⟩
def key16 : ByteArray := ⟨#[48, 49, 50, 51, 52, 53, 54, 55, 56, 57, 97, 98, 99, 100, 101, 102]⟩
def bobS : ByteArray := ⟨#[98, 111, 98]⟩
theorem works_ann (v : V) (one : v.isOne = true) : chkUs [⟨annS, key16, ⟨v, [⟨0, 2⟩], one⟩⟩] 2 = (0, 0) := by
  have hf : formedS ⟨annS, key16, ⟨v, [⟨0, 2⟩], one⟩⟩ = true := show (namedS annS && decide (16 ≤ key16.size ∧ key16.size ≤ 64)) = true from by kernel_rfl
  have hw : wrongS [⟨0, 2⟩] 2 = 0 := by decide
  refine chkUs_of ⟨by decide, by simp, fun u hu => ?_, by simp⟩
  simp at hu; subst hu
  exact ⟨hf, hw⟩
theorem ann_ne_bob : ¬ annS = bobS := by decide
theorem works_find (u : Us) (n : ByteArray) : findS [u] n = if u.name = n then some 0 else none := by
  unfold findS idxP
  by_cases h : u.name = n <;> simp [h, idxP]
theorem works_may (v : V) (one : v.isOne = true) : mayS [⟨annS, key16, ⟨v, [⟨0, 2⟩], one⟩⟩] annS 3 0 = 0 ∧ mayS [⟨annS, key16, ⟨v, [⟨0, 2⟩], one⟩⟩] annS 5 0 = 240 ∧ mayS [⟨annS, key16, ⟨v, [⟨0, 2⟩], one⟩⟩] annS 1 1 = 240 ∧ mayS [⟨annS, key16, ⟨v, [⟨0, 2⟩], one⟩⟩] bobS 1 0 = 90 := by
  have e1 : findS [⟨annS, key16, ⟨v, [⟨0, 2⟩], one⟩⟩] annS = some 0 := by rw [works_find]; exact if_pos rfl
  have e2 : findS [⟨annS, key16, ⟨v, [⟨0, 2⟩], one⟩⟩] bobS = none := by rw [works_find]; exact if_neg ann_ne_bob
  have n3 : needsS 3 = (2, 0) := by decide
  have n5 : needsS 5 = (3, 0) := by decide
  have n1 : needsS 1 = (1, 0) := by decide
  have i0 : idxP (hasS 0) [⟨0, 2⟩] = some 0 := by decide
  have i1 : idxP (hasS 1) [⟨0, 2⟩] = none := by decide
  refine ⟨?_, ?_, ?_, ?_⟩
  · simp [mayS, askedS, e1, n3, levelS, i0]
  · simp [mayS, askedS, e1, n5, levelS, i0]
  · simp [mayS, askedS, e1, n1, levelS, i1]
  · simp [mayS, askedS, e2, n1]

set_option maxRecDepth 20000 in
theorem rworks_ok {H : Heap} {G : List V → M V} (hN : Need H) (Q : V → Heap → Prop) (hQ : ∀ H', Keeps [] H H' → Q (.bool true) H') : wp (A_law24_works G []) Q H := by
  show wp (F_law24_works G) Q H
  have b1 : build [Value.int .i64 0, (Value.int .i64 0 : V)] [(0, 1, (Value.int .i64 0)), (1, 1, (Value.int .i64 2))] = some (.agg (Flat.enc (⟨0, 2⟩ : Rl)).toArray) := by rfl
  unfold F_law24_works
  rw [wp_bnd, wp_bnd, wp_lift, b1, wpO_some, wp_bnd]
  refine (wp_bslc (cs := encs [(⟨0, 2⟩ : Rl)]) (by rfl) (by rfl)).mpr ?_
  have k1 : Keeps [] H (H.push (some (.cells true (encs [(⟨0, 2⟩ : Rl)])))) := Keeps.push _ _ _
  have o1 := ownF_push (H := H) (xs := [(⟨0, 2⟩ : Rl)]) (n := 2) (m := 1) rfl rfl
  generalize H.push (some (.cells true (encs [(⟨0, 2⟩ : Rl)]))) = H1 at *
  have b2 : build [Value.string ⟨#[]⟩, Value.string ⟨#[]⟩, (Value.slice none 0 0 : V)] [(0, 1, (Value.string ⟨#[97, 110, 110]⟩)), (1, 1, (Value.string ⟨#[48, 49, 50, 51, 52, 53, 54, 55, 56, 57, 97, 98, 99, 100, 101, 102]⟩)), (2, 1, slc H.next 0 2 1 1)] = some (.agg (Flat.enc (⟨annS, key16, ⟨slc H.next 0 2 1 1, [⟨0, 2⟩], rfl⟩⟩ : Us)).toArray) := by rfl
  rw [wp_bnd, wp_lift, b2, wpO_some, wp_bnd]
  generalize hu : (⟨annS, key16, ⟨slc H.next 0 2 1 1, [⟨0, 2⟩], rfl⟩⟩ : Us) = u
  have hfill : fillA (rep 1 [Value.string ⟨#[]⟩, Value.string ⟨#[]⟩, Value.slice none 0 0]) [(0, 3, .agg (Flat.enc u).toArray)] = some (encs [u]) := by subst hu; rfl
  refine (wp_bslc (cs := encs [u]) (by rfl) hfill).mpr ?_
  have k2 : Keeps [] H1 (H1.push (some (.cells true (encs [u])))) := Keeps.push _ _ _
  have o2 := ownF_push (H := H1) (xs := [u]) (n := 3) (m := 1) rfl rfl
  generalize H1.push (some (.cells true (encs [u]))) = H2 at *
  have hus : Users H2 (slc H1.next 0 3 1 1) [u] := ⟨o2.sl, fun w hw => by
    simp at hw; subst hw; subst hu
    exact ⟨(o1.keep0 k2).sl, show 1 ≤ 1048576 by decide⟩⟩
  have k02 : Keeps [] H H2 := k1.trans k2 (by simp)
  have hc : chkUs [u] 2 = (0, 0) := by subst hu; exact works_ann _ _
  obtain ⟨m1, m2, m3, m4⟩ : mayS [u] annS 3 0 = 0 ∧ mayS [u] annS 5 0 = 240 ∧ mayS [u] annS 1 1 = 240 ∧ mayS [u] bobS 1 0 = 90 := by subst hu; exact works_may _ _
  rw [wp_bnd]
  refine check_ok hus 2 _ fun H3 k3 => ?_
  rw [hc]
  have k03 : Keeps [] H H3 := k02.trans k3 (by simp)
  (try simp (maxSteps := 1000000) (disch := first | omega | (simp only [Heap.next_push', Heap.next_set']; omega) | (simp; done) | assumption | decide | (refine not_not_intro ?_; assumption)) only [at_zero, at_succ, wp_bnd, wp_lift, wpO_some, wp_ret, nx_nxt, nx_brk, nx_ret, unblk_nxt, unblk_ret, unblk_brk, finM_nxt, finM_ret, outV_one, condM_t, condM_f, condM_dt, condM_df, gd_t, gd_f, gdf_t, gdf_f, gd_skip, gd_dt, gd_df, gdf_dt, gdf_df, pick_t, pick_f, pick_dt, pick_df, not_t, not_f, not_dec, isNil_ptr, isNil_ptr', isNil_pnil, isNil_pnil', nilck_ptr, faddr_ptr, Nat.zero_add, Nat.add_zero, wp_ld1, lenStr_str, lenSlc_slice, strV_str, i64_add, i64_sub, i64_mul, i64_in, int_eqd, int_ned, int_lss, int_leq, int_gtr, int_geq, str_eqd, str_ned, if_true, wp_bndH, wp_withH, wp_need, enc_int, enc_str, enc_byte, enc_bool, List.getElem?_cons_zero, List.getElem?_cons_succ, cellP_get, cellG_cells, wp_st1g, stG_c, eq_self, true_and, wp_stng, stnG_ok, wp_ldng, ldG_ok, wp_newcg, wp_boxg, Heap.get_push_eq, Heap.get_push_lt, Heap.get_set_eq, Heap.get_set_ne', Heap.next_push', Heap.next_set', Heap.set_push_lt, Heap.set_push_eq, Heap.set_set, fld1_agg, fldn_agg, ext_tuple, outV_nil, outV_two, outV_three, outV_four, chk_ld1g, chkO_int, chkO_bool, chkO_str, chkO_ptr, chkO_slc, chkO_map, List.set_cons_zero, List.set_cons_succ, List.length_cons, List.length_nil, List.drop_succ_cons, List.drop_zero, List.take_succ_cons, List.take_zero, List.nil_append, List.cons_append, splice, isOne_int, isOne_str, isOne_bool, isOne_slice, isOne_pointer, isOne_map, condM_nf, condM_nef, gd_nef, gdf_nef, pick_nef, build_eq, fillA_nil, fillA_one, fillA_agg, Option.map_some, resv_one, resv_two, freeIn_nil, fillA_slc, fillA_int, fillA_str, fillA_bool, fillA_ptr, fillA_map])
  refine may_ok (n := annS) (hN.keep0 k03) (hus.keep0 k3) (by simp) 3 0 _ fun H4 k4 => ?_
  rw [m1]
  have k04 : Keeps [] H H4 := k03.trans k4 (by simp)
  (try simp (maxSteps := 1000000) (disch := first | omega | (simp only [Heap.next_push', Heap.next_set']; omega) | (simp; done) | assumption | decide | (refine not_not_intro ?_; assumption)) only [at_zero, at_succ, wp_bnd, wp_lift, wpO_some, wp_ret, nx_nxt, nx_brk, nx_ret, unblk_nxt, unblk_ret, unblk_brk, finM_nxt, finM_ret, outV_one, condM_t, condM_f, condM_dt, condM_df, gd_t, gd_f, gdf_t, gdf_f, gd_skip, gd_dt, gd_df, gdf_dt, gdf_df, pick_t, pick_f, pick_dt, pick_df, not_t, not_f, not_dec, isNil_ptr, isNil_ptr', isNil_pnil, isNil_pnil', nilck_ptr, faddr_ptr, Nat.zero_add, Nat.add_zero, wp_ld1, lenStr_str, lenSlc_slice, strV_str, i64_add, i64_sub, i64_mul, i64_in, int_eqd, int_ned, int_lss, int_leq, int_gtr, int_geq, str_eqd, str_ned, if_true, wp_bndH, wp_withH, wp_need, enc_int, enc_str, enc_byte, enc_bool, List.getElem?_cons_zero, List.getElem?_cons_succ, cellP_get, cellG_cells, wp_st1g, stG_c, eq_self, true_and, wp_stng, stnG_ok, wp_ldng, ldG_ok, wp_newcg, wp_boxg, Heap.get_push_eq, Heap.get_push_lt, Heap.get_set_eq, Heap.get_set_ne', Heap.next_push', Heap.next_set', Heap.set_push_lt, Heap.set_push_eq, Heap.set_set, fld1_agg, fldn_agg, ext_tuple, outV_nil, outV_two, outV_three, outV_four, chk_ld1g, chkO_int, chkO_bool, chkO_str, chkO_ptr, chkO_slc, chkO_map, List.set_cons_zero, List.set_cons_succ, List.length_cons, List.length_nil, List.drop_succ_cons, List.drop_zero, List.take_succ_cons, List.take_zero, List.nil_append, List.cons_append, splice, isOne_int, isOne_str, isOne_bool, isOne_slice, isOne_pointer, isOne_map, condM_nf, condM_nef, gd_nef, gdf_nef, pick_nef, build_eq, fillA_nil, fillA_one, fillA_agg, Option.map_some, resv_one, resv_two, freeIn_nil, fillA_slc, fillA_int, fillA_str, fillA_bool, fillA_ptr, fillA_map])
  refine may_ok (n := annS) (hN.keep0 k04) ((hus.keep0 k3).keep0 k4) (by simp) 5 0 _ fun H5 k5 => ?_
  rw [m2]
  have k05 : Keeps [] H H5 := k04.trans k5 (by simp)
  (try simp (maxSteps := 1000000) (disch := first | omega | (simp only [Heap.next_push', Heap.next_set']; omega) | (simp; done) | assumption | decide | (refine not_not_intro ?_; assumption)) only [at_zero, at_succ, wp_bnd, wp_lift, wpO_some, wp_ret, nx_nxt, nx_brk, nx_ret, unblk_nxt, unblk_ret, unblk_brk, finM_nxt, finM_ret, outV_one, condM_t, condM_f, condM_dt, condM_df, gd_t, gd_f, gdf_t, gdf_f, gd_skip, gd_dt, gd_df, gdf_dt, gdf_df, pick_t, pick_f, pick_dt, pick_df, not_t, not_f, not_dec, isNil_ptr, isNil_ptr', isNil_pnil, isNil_pnil', nilck_ptr, faddr_ptr, Nat.zero_add, Nat.add_zero, wp_ld1, lenStr_str, lenSlc_slice, strV_str, i64_add, i64_sub, i64_mul, i64_in, int_eqd, int_ned, int_lss, int_leq, int_gtr, int_geq, str_eqd, str_ned, if_true, wp_bndH, wp_withH, wp_need, enc_int, enc_str, enc_byte, enc_bool, List.getElem?_cons_zero, List.getElem?_cons_succ, cellP_get, cellG_cells, wp_st1g, stG_c, eq_self, true_and, wp_stng, stnG_ok, wp_ldng, ldG_ok, wp_newcg, wp_boxg, Heap.get_push_eq, Heap.get_push_lt, Heap.get_set_eq, Heap.get_set_ne', Heap.next_push', Heap.next_set', Heap.set_push_lt, Heap.set_push_eq, Heap.set_set, fld1_agg, fldn_agg, ext_tuple, outV_nil, outV_two, outV_three, outV_four, chk_ld1g, chkO_int, chkO_bool, chkO_str, chkO_ptr, chkO_slc, chkO_map, List.set_cons_zero, List.set_cons_succ, List.length_cons, List.length_nil, List.drop_succ_cons, List.drop_zero, List.take_succ_cons, List.take_zero, List.nil_append, List.cons_append, splice, isOne_int, isOne_str, isOne_bool, isOne_slice, isOne_pointer, isOne_map, condM_nf, condM_nef, gd_nef, gdf_nef, pick_nef, build_eq, fillA_nil, fillA_one, fillA_agg, Option.map_some, resv_one, resv_two, freeIn_nil, fillA_slc, fillA_int, fillA_str, fillA_bool, fillA_ptr, fillA_map])
  refine may_ok (n := annS) (hN.keep0 k05) (((hus.keep0 k3).keep0 k4).keep0 k5) (by simp) 1 1 _ fun H6 k6 => ?_
  rw [m3]
  have k06 : Keeps [] H H6 := k05.trans k6 (by simp)
  (try simp (maxSteps := 1000000) (disch := first | omega | (simp only [Heap.next_push', Heap.next_set']; omega) | (simp; done) | assumption | decide | (refine not_not_intro ?_; assumption)) only [at_zero, at_succ, wp_bnd, wp_lift, wpO_some, wp_ret, nx_nxt, nx_brk, nx_ret, unblk_nxt, unblk_ret, unblk_brk, finM_nxt, finM_ret, outV_one, condM_t, condM_f, condM_dt, condM_df, gd_t, gd_f, gdf_t, gdf_f, gd_skip, gd_dt, gd_df, gdf_dt, gdf_df, pick_t, pick_f, pick_dt, pick_df, not_t, not_f, not_dec, isNil_ptr, isNil_ptr', isNil_pnil, isNil_pnil', nilck_ptr, faddr_ptr, Nat.zero_add, Nat.add_zero, wp_ld1, lenStr_str, lenSlc_slice, strV_str, i64_add, i64_sub, i64_mul, i64_in, int_eqd, int_ned, int_lss, int_leq, int_gtr, int_geq, str_eqd, str_ned, if_true, wp_bndH, wp_withH, wp_need, enc_int, enc_str, enc_byte, enc_bool, List.getElem?_cons_zero, List.getElem?_cons_succ, cellP_get, cellG_cells, wp_st1g, stG_c, eq_self, true_and, wp_stng, stnG_ok, wp_ldng, ldG_ok, wp_newcg, wp_boxg, Heap.get_push_eq, Heap.get_push_lt, Heap.get_set_eq, Heap.get_set_ne', Heap.next_push', Heap.next_set', Heap.set_push_lt, Heap.set_push_eq, Heap.set_set, fld1_agg, fldn_agg, ext_tuple, outV_nil, outV_two, outV_three, outV_four, chk_ld1g, chkO_int, chkO_bool, chkO_str, chkO_ptr, chkO_slc, chkO_map, List.set_cons_zero, List.set_cons_succ, List.length_cons, List.length_nil, List.drop_succ_cons, List.drop_zero, List.take_succ_cons, List.take_zero, List.nil_append, List.cons_append, splice, isOne_int, isOne_str, isOne_bool, isOne_slice, isOne_pointer, isOne_map, condM_nf, condM_nef, gd_nef, gdf_nef, pick_nef, build_eq, fillA_nil, fillA_one, fillA_agg, Option.map_some, resv_one, resv_two, freeIn_nil, fillA_slc, fillA_int, fillA_str, fillA_bool, fillA_ptr, fillA_map])
  refine may_ok (n := bobS) (hN.keep0 k06) ((((hus.keep0 k3).keep0 k4).keep0 k5).keep0 k6) (by simp) 1 0 _ fun H7 k7 => ?_
  rw [m4]
  (try simp (maxSteps := 1000000) (disch := first | omega | (simp only [Heap.next_push', Heap.next_set']; omega) | (simp; done) | assumption | decide | (refine not_not_intro ?_; assumption)) only [at_zero, at_succ, wp_bnd, wp_lift, wpO_some, wp_ret, nx_nxt, nx_brk, nx_ret, unblk_nxt, unblk_ret, unblk_brk, finM_nxt, finM_ret, outV_one, condM_t, condM_f, condM_dt, condM_df, gd_t, gd_f, gdf_t, gdf_f, gd_skip, gd_dt, gd_df, gdf_dt, gdf_df, pick_t, pick_f, pick_dt, pick_df, not_t, not_f, not_dec, isNil_ptr, isNil_ptr', isNil_pnil, isNil_pnil', nilck_ptr, faddr_ptr, Nat.zero_add, Nat.add_zero, wp_ld1, lenStr_str, lenSlc_slice, strV_str, i64_add, i64_sub, i64_mul, i64_in, int_eqd, int_ned, int_lss, int_leq, int_gtr, int_geq, str_eqd, str_ned, if_true, wp_bndH, wp_withH, wp_need, enc_int, enc_str, enc_byte, enc_bool, List.getElem?_cons_zero, List.getElem?_cons_succ, cellP_get, cellG_cells, wp_st1g, stG_c, eq_self, true_and, wp_stng, stnG_ok, wp_ldng, ldG_ok, wp_newcg, wp_boxg, Heap.get_push_eq, Heap.get_push_lt, Heap.get_set_eq, Heap.get_set_ne', Heap.next_push', Heap.next_set', Heap.set_push_lt, Heap.set_push_eq, Heap.set_set, fld1_agg, fldn_agg, ext_tuple, outV_nil, outV_two, outV_three, outV_four, chk_ld1g, chkO_int, chkO_bool, chkO_str, chkO_ptr, chkO_slc, chkO_map, List.set_cons_zero, List.set_cons_succ, List.length_cons, List.length_nil, List.drop_succ_cons, List.drop_zero, List.take_succ_cons, List.take_zero, List.nil_append, List.cons_append, splice, isOne_int, isOne_str, isOne_bool, isOne_slice, isOne_pointer, isOne_map, condM_nf, condM_nef, gd_nef, gdf_nef, pick_nef, build_eq, fillA_nil, fillA_one, fillA_agg, Option.map_some, resv_one, resv_two, freeIn_nil, fillA_slc, fillA_int, fillA_str, fillA_bool, fillA_ptr, fillA_map])
  exact hQ _ (k06.trans k7 (by simp))
end Go.AM.Cap
