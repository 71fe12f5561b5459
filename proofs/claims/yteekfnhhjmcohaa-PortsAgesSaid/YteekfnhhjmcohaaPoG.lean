/- ports: New, of the program and of the reference -/
import Derived.Test.YteekfnhhjmcohaaPoF
set_option linter.all false
set_option maxHeartbeats 8000000
namespace Go.AM.Cap
open Go.AM Go.Proofs

theorem chkL_good : ∀ (i : Nat) (ls : List Port), (chkL i ls).2 = 0 → ∀ q ∈ ls, wrongP q = 0
  | _, [], _ => fun q hq => (List.not_mem_nil hq).elim
  | i, p :: ps, h => by
    simp only [chkL] at h
    by_cases hw : wrongP p ≠ 0
    · rw [if_pos hw] at h; exact absurd h hw
    · rw [if_neg hw] at h
      intro q hq
      rcases List.mem_cons.1 hq with rfl | hq
      · exact Decidable.not_not.mp hw
      · exact chkL_good (i + 1) ps h q hq
theorem chk_good {ls : List Port} (h : (chkP ls).2 = 0) : ls.length ≤ 16 ∧ ∀ q ∈ ls, wrongP q = 0 := by
  unfold chkP at h
  split at h
  · simp at h
  · exact ⟨by omega, chkL_good 0 ls h⟩

/-- append(an empty own slice, x...) -/
theorem appV_empty {α : Type} [Flat α] {H : Heap} {b n bytes : Nat} {xv : V} {xs : List α} {Q : V → Heap → Prop} (hs : Flat.size α = n) (hb : H.get b = some (.cells true [])) (hx : Sl H xv xs) (hn : xs.length * n ≤ 1000000) (hl : xs.length ≤ 1000000) (hby : bytes ≤ 1000) (hQ : ∀ w H', (w = slc b 0 n 0 0 ∧ xs = [] ∧ H' = H ∨ w = slc H.next 0 n xs.length xs.length ∧ H'.get H.next = some (.cells true (encs xs)) ∧ Keeps [b] H H' ∧ xs ≠ [] ∧ H'.next = H.next + 1) → Q w H') : wp (appV n bytes (slc b 0 n 0 0) xv) Q H := by
  subst hs
  by_cases h0 : xs = []
  · subst h0
    refine ⟨slc b 0 (Flat.size α) 0 0, H, ?_, hQ _ _ (.inl ⟨rfl, rfl, rfl⟩)⟩
    rcases hx with ⟨rfl, _⟩ | ⟨bb, o, u, c, rfl, _⟩ <;> rfl
  · have hne : xs.length ≠ 0 := fun h => h0 (List.eq_nil_of_length_eq_zero h)
    have hc : cellsOfSlice H (Flat.size α) xv = some (encs xs) := by
      rcases hx with ⟨rfl, e⟩ | ⟨bb, o, u, c, rfl, hc, _, hl2, _⟩
      · exact absurd e h0
      · rcases hl2 with e | ⟨rw, cs, hg, q1, q2⟩
        · exact absurd e h0
        · simp only [cellsOfSlice, hne, if_false, cellsAt, hg]
          rw [if_pos q1, q2]
    have hf : ∃ a c, xv = .slice a xs.length c := by
      rcases hx with ⟨rfl, e⟩ | ⟨bb, o, u, c, rfl, _⟩
      · exact absurd e h0
      · exact ⟨_, _, rfl⟩
    obtain ⟨a, c, rfl⟩ := hf
    have hlt := Heap.get_lt hb
    have hone := encs_one xs
    have hel := encs_length xs
    have hcs0 : cellsOfSlice H (Flat.size α) (slc b 0 (Flat.size α) 0 0) = some [] := rfl
    have hm : xs.length * bytes ≤ 1000000 * 1000 := Nat.mul_le_mul hl hby
    refine ⟨slc H.next 0 (Flat.size α) xs.length xs.length, (H.set b none).push (some (.cells true (encs xs))), ?_, hQ _ _ (.inr ⟨rfl, ?_, ?_, h0, by simp⟩)⟩
    · simp only [appV, hc, appTo, hne, if_false, hcs0, giveUp, hb, if_true]
      rw [if_pos ⟨by rw [Nat.zero_add]; omega, by omega, hone, hel⟩]
      simp
    · have := Heap.get_push_self (H.set b none) (some (.cells true (encs xs)))
      simpa using this
    · exact ⟨by simp, fun c hc hn => by rw [Heap.get_push_lt (by simpa using hc), Heap.get_set_ne _ _ _ (by simpa using hn)]⟩

theorem clone_ok {H : Heap} {lv : V} {ls : List Port} (hl : Sl H lv ls) (hsm : ls.length ≤ 16) (Q : V → Heap → Prop) (hQ : ∀ w H', Sl H' w ls → Keeps [] H H' → (∀ b ∈ vb w, H.next ≤ b) → Q w H') : wp (A_slices_Clone_S_api_Port_api_Port [lv]) Q H := by
  show wp (F_slices_Clone_S_api_Port_api_Port lv) Q H
  by_cases hn : lv = .slice none 0 0
  · subst hn
    have hls : ls = [] := by
      rcases hl with ⟨_, e⟩ | ⟨bb, o, u, c, e, _⟩
      · exact e
      · cases e
    subst hls
    have e : notIf false (isNil .s (.slice none 0 0)) = some (.bool true) := rfl
    (try simp (maxSteps := 1000000) (disch := first | omega | (simp only [Heap.next_push', Heap.next_set']; omega) | (simp; done) | assumption | decide | (refine not_not_intro ?_; assumption)) only [at_zero, at_succ, wp_bnd, wp_lift, wpO_some, wp_ret, nx_nxt, nx_brk, nx_ret, unblk_nxt, unblk_ret, unblk_brk, finM_nxt, finM_ret, outV_one, condM_t, condM_f, condM_dt, condM_df, gd_t, gd_f, gdf_t, gdf_f, gd_skip, gd_dt, gd_df, gdf_dt, gdf_df, pick_t, pick_f, pick_dt, pick_df, not_t, not_f, not_dec, isNil_ptr, isNil_ptr', isNil_pnil, isNil_pnil', nilck_ptr, faddr_ptr, Nat.zero_add, Nat.add_zero, wp_ld1, lenStr_str, lenSlc_slice, strV_str, i64_add, i64_sub, i64_mul, i64_in, int_eqd, int_ned, int_lss, int_leq, int_gtr, int_geq, str_eqd, str_ned, if_true, wp_bndH, wp_withH, wp_need, enc_int, enc_str, enc_byte, enc_bool, List.getElem?_cons_zero, List.getElem?_cons_succ, cellP_get, cellG_cells, wp_st1g, stG_c, eq_self, true_and, wp_stng, stnG_ok, wp_ldng, ldG_ok, wp_newcg, wp_boxg, Heap.get_push_eq, Heap.get_push_lt, Heap.get_set_eq, Heap.get_set_ne', Heap.next_push', Heap.next_set', Heap.set_push_lt, Heap.set_push_eq, Heap.set_set, fld1_agg, fldn_agg, ext_tuple, outV_nil, outV_two, outV_three, outV_four, chk_ld1g, chkO_int, chkO_bool, chkO_str, chkO_ptr, chkO_slc, chkO_map, List.set_cons_zero, List.set_cons_succ, List.length_cons, List.length_nil, List.drop_succ_cons, List.drop_zero, List.take_succ_cons, List.take_zero, List.nil_append, List.cons_append, splice, isOne_int, isOne_str, isOne_bool, isOne_slice, isOne_pointer, isOne_map, condM_nf, condM_nef, gd_nef, gdf_nef, pick_nef, build_eq, fillA_nil, fillA_one, fillA_agg, Option.map_some, resv_one, resv_two, freeIn_nil, fillA_slc, fillA_int, fillA_str, fillA_bool, fillA_ptr, fillA_map, F_slices_Clone_S_api_Port_api_Port, e])
    exact hQ _ _ (Sl.nil _) (Keeps.refl _ _) (by simp)
  · have e : notIf false (isNil .s lv) = some (.bool false) := by
      rcases hl with ⟨rfl, _⟩ | ⟨bb, o, u, c, rfl, _⟩
      · exact absurd rfl hn
      · rfl
    (try simp (maxSteps := 1000000) (disch := first | omega | (simp only [Heap.next_push', Heap.next_set']; omega) | (simp; done) | assumption | decide | (refine not_not_intro ?_; assumption)) only [at_zero, at_succ, wp_bnd, wp_lift, wpO_some, wp_ret, nx_nxt, nx_brk, nx_ret, unblk_nxt, unblk_ret, unblk_brk, finM_nxt, finM_ret, outV_one, condM_t, condM_f, condM_dt, condM_df, gd_t, gd_f, gdf_t, gdf_f, gd_skip, gd_dt, gd_df, gdf_dt, gdf_df, pick_t, pick_f, pick_dt, pick_df, not_t, not_f, not_dec, isNil_ptr, isNil_ptr', isNil_pnil, isNil_pnil', nilck_ptr, faddr_ptr, Nat.zero_add, Nat.add_zero, wp_ld1, lenStr_str, lenSlc_slice, strV_str, i64_add, i64_sub, i64_mul, i64_in, int_eqd, int_ned, int_lss, int_leq, int_gtr, int_geq, str_eqd, str_ned, if_true, wp_bndH, wp_withH, wp_need, enc_int, enc_str, enc_byte, enc_bool, List.getElem?_cons_zero, List.getElem?_cons_succ, cellP_get, cellG_cells, wp_st1g, stG_c, eq_self, true_and, wp_stng, stnG_ok, wp_ldng, ldG_ok, wp_newcg, wp_boxg, Heap.get_push_eq, Heap.get_push_lt, Heap.get_set_eq, Heap.get_set_ne', Heap.next_push', Heap.next_set', Heap.set_push_lt, Heap.set_push_eq, Heap.set_set, fld1_agg, fldn_agg, ext_tuple, outV_nil, outV_two, outV_three, outV_four, chk_ld1g, chkO_int, chkO_bool, chkO_str, chkO_ptr, chkO_slc, chkO_map, List.set_cons_zero, List.set_cons_succ, List.length_cons, List.length_nil, List.drop_succ_cons, List.drop_zero, List.take_succ_cons, List.take_zero, List.nil_append, List.cons_append, splice, isOne_int, isOne_str, isOne_bool, isOne_slice, isOne_pointer, isOne_map, condM_nf, condM_nef, gd_nef, gdf_nef, pick_nef, build_eq, fillA_nil, fillA_one, fillA_agg, Option.map_some, resv_one, resv_two, freeIn_nil, fillA_slc, fillA_int, fillA_str, fillA_bool, fillA_ptr, fillA_map, F_slices_Clone_S_api_Port_api_Port, e, slices_Clone_S_api_Port_api_Port_k0])
    refine (wp_bslc (cs := []) (by decide) (by rfl)).mpr ?_
    have k1 := Keeps.push [] H (some (.cells true []))
    refine appV_empty (α := Port) rfl (Heap.get_push_self _ _) (hl.keep0 k1) (by omega) (by omega) (by omega) fun w H2 hw => ?_
    (try simp (maxSteps := 1000000) (disch := first | omega | (simp only [Heap.next_push', Heap.next_set']; omega) | (simp; done) | assumption | decide | (refine not_not_intro ?_; assumption)) only [at_zero, at_succ, wp_bnd, wp_lift, wpO_some, wp_ret, nx_nxt, nx_brk, nx_ret, unblk_nxt, unblk_ret, unblk_brk, finM_nxt, finM_ret, outV_one, condM_t, condM_f, condM_dt, condM_df, gd_t, gd_f, gdf_t, gdf_f, gd_skip, gd_dt, gd_df, gdf_dt, gdf_df, pick_t, pick_f, pick_dt, pick_df, not_t, not_f, not_dec, isNil_ptr, isNil_ptr', isNil_pnil, isNil_pnil', nilck_ptr, faddr_ptr, Nat.zero_add, Nat.add_zero, wp_ld1, lenStr_str, lenSlc_slice, strV_str, i64_add, i64_sub, i64_mul, i64_in, int_eqd, int_ned, int_lss, int_leq, int_gtr, int_geq, str_eqd, str_ned, if_true, wp_bndH, wp_withH, wp_need, enc_int, enc_str, enc_byte, enc_bool, List.getElem?_cons_zero, List.getElem?_cons_succ, cellP_get, cellG_cells, wp_st1g, stG_c, eq_self, true_and, wp_stng, stnG_ok, wp_ldng, ldG_ok, wp_newcg, wp_boxg, Heap.get_push_eq, Heap.get_push_lt, Heap.get_set_eq, Heap.get_set_ne', Heap.next_push', Heap.next_set', Heap.set_push_lt, Heap.set_push_eq, Heap.set_set, fld1_agg, fldn_agg, ext_tuple, outV_nil, outV_two, outV_three, outV_four, chk_ld1g, chkO_int, chkO_bool, chkO_str, chkO_ptr, chkO_slc, chkO_map, List.set_cons_zero, List.set_cons_succ, List.length_cons, List.length_nil, List.drop_succ_cons, List.drop_zero, List.take_succ_cons, List.take_zero, List.nil_append, List.cons_append, splice, isOne_int, isOne_str, isOne_bool, isOne_slice, isOne_pointer, isOne_map, condM_nf, condM_nef, gd_nef, gdf_nef, pick_nef, build_eq, fillA_nil, fillA_one, fillA_agg, Option.map_some, resv_one, resv_two, freeIn_nil, fillA_slc, fillA_int, fillA_str, fillA_bool, fillA_ptr, fillA_map])
    rcases hw with ⟨rfl, rfl, rfl⟩ | ⟨rfl, hg, hk, _, _⟩
    · exact hQ _ _ (.inr ⟨_, _, _, _, rfl, Nat.le_refl _, Heap.get_lt (Heap.get_push_self _ _), .inl rfl, .inr rfl⟩) k1 (by simp)
    · have hn1 : (H.push (some (.cells true []))).next = H.next + 1 := by simp
      refine hQ _ _ (.inr ⟨_, _, _, _, rfl, Nat.le_refl _, Heap.get_lt hg, .inr ⟨_, _, hg, by rw [encs_length]; omega, ?_⟩, .inr rfl⟩) (k1.trans hk (fun b hb hm => by simp at hm; omega)) (by simp)
      rw [List.drop_zero, List.take_of_length_le (by rw [encs_length]; exact Nat.le_refl _)]

def gs0 : GS := ⟨⟨none, 0, 0⟩, ⟨none, 0, 0⟩, [], [], 0, 0⟩
def st0 : PSt := ⟨[], [], 0, 0⟩
theorem gs0_fp : gs0.fp = [] := rfl
/-- a box that is laid anew -/
theorem BoxV.new {H : Heap} {p sb : Nat} {w : V} {ls : List Port} (hp : H.get p = some (.cells true [w, slc sb 0 4 ls.length ls.length])) (hw : Sl H w ls) (hsb : H.get sb = some (.cells true (encs (List.replicate ls.length gs0)))) (h1 : p ≠ sb) (h2 : p ∉ vb w) (h3 : sb ∉ vb w) (hgood : (chkP ls).2 = 0) :
    BoxV H p w sb ls (List.replicate ls.length gs0) ∧ (List.replicate ls.length gs0).map GS.st = List.replicate ls.length st0 ∧ ∀ b ∈ foot p sb w (List.replicate ls.length gs0), b = p ∨ b = sb ∨ b ∈ vb w := by
  have hg := chk_good hgood
  have hmem : ∀ (i : Nat) (g : GS), (List.replicate ls.length gs0)[i]? = some g → g = gs0 := fun i g h => by
    have := List.mem_of_getElem? h
    exact (List.mem_replicate.1 this).2
  refine ⟨⟨by rw [List.length_replicate]; exact hp, hw, by simp, hsb, fun i g h => ?_, fun i g h => ?_, fun i g h => ?_, fun i j g g' h h' _ => ?_, fun i g h => ?_, h1, h2, h3, fun i g h => ?_, hg.1, hg.2⟩, by simp [gs0, GS.st, st0], fun b hb => ?_⟩
  · obtain rfl := hmem i g h; exact Seg.nil _
  · obtain rfl := hmem i g h; exact Seg.nil _
  · obtain rfl := hmem i g h; intro b hb; simp [gs0, SV.v] at hb
  · obtain rfl := hmem i g h; intro b hb; simp [gs0_fp] at hb
  · obtain rfl := hmem i g h; intro b hb; simp [gs0_fp] at hb
  · obtain rfl := hmem i g h; exact ⟨by simp [gs0], by simp [gs0]⟩
  · simp only [foot, List.mem_cons, List.mem_append, List.mem_flatMap] at hb
    rcases hb with hb | hb | hb | ⟨g, hg, hb⟩
    · exact .inl hb
    · exact .inr (.inl hb)
    · exact .inr (.inr hb)
    · obtain rfl := (List.mem_replicate.1 hg).2
      simp [gs0_fp] at hb

theorem ports_New_ok {H : Heap} {lv : V} {ls : List Port} (hl : Sl H lv ls) (Q : V → Heap → Prop)
    (hbad : (chkP ls).2 ≠ 0 → ∀ H', Keeps [] H H' → Q (.tuple #[.pointer none, i64 (chkP ls).2]) H')
    (hQ : (chkP ls).2 = 0 → ∀ p w sb gs H', BoxV H' p w sb ls gs → gs.map GS.st = List.replicate ls.length st0 → Keeps [] H H' → (∀ b ∈ foot p sb w gs, H.next ≤ b) → Q (.tuple #[ptr p 0, i64 0]) H') : wp (A_ports_New [lv]) Q H := by
  show wp (F_ports_New lv) Q H
  simp only [F_ports_New, wp_bnd]
  refine ports_Check_ok H lv ls hl _ fun H1 k1 => ?_
  by_cases he : (chkP ls).2 ≠ 0
  · (try simp (maxSteps := 1000000) (disch := first | omega | (simp only [Heap.next_push', Heap.next_set']; omega) | (simp; done) | assumption | decide | (refine not_not_intro ?_; assumption)) only [at_zero, at_succ, wp_bnd, wp_lift, wpO_some, wp_ret, nx_nxt, nx_brk, nx_ret, unblk_nxt, unblk_ret, unblk_brk, finM_nxt, finM_ret, outV_one, condM_t, condM_f, condM_dt, condM_df, gd_t, gd_f, gdf_t, gdf_f, gd_skip, gd_dt, gd_df, gdf_dt, gdf_df, pick_t, pick_f, pick_dt, pick_df, not_t, not_f, not_dec, isNil_ptr, isNil_ptr', isNil_pnil, isNil_pnil', nilck_ptr, faddr_ptr, Nat.zero_add, Nat.add_zero, wp_ld1, lenStr_str, lenSlc_slice, strV_str, i64_add, i64_sub, i64_mul, i64_in, int_eqd, int_ned, int_lss, int_leq, int_gtr, int_geq, str_eqd, str_ned, if_true, wp_bndH, wp_withH, wp_need, enc_int, enc_str, enc_byte, enc_bool, List.getElem?_cons_zero, List.getElem?_cons_succ, cellP_get, cellG_cells, wp_st1g, stG_c, eq_self, true_and, wp_stng, stnG_ok, wp_ldng, ldG_ok, wp_newcg, wp_boxg, Heap.get_push_eq, Heap.get_push_lt, Heap.get_set_eq, Heap.get_set_ne', Heap.next_push', Heap.next_set', Heap.set_push_lt, Heap.set_push_eq, Heap.set_set, fld1_agg, fldn_agg, ext_tuple, outV_nil, outV_two, outV_three, outV_four, chk_ld1g, chkO_int, chkO_bool, chkO_str, chkO_ptr, chkO_slc, chkO_map, List.set_cons_zero, List.set_cons_succ, List.length_cons, List.length_nil, List.drop_succ_cons, List.drop_zero, List.take_succ_cons, List.take_zero, List.nil_append, List.cons_append, splice, isOne_int, isOne_str, isOne_bool, isOne_slice, isOne_pointer, isOne_map, condM_nf, condM_nef, gd_nef, gdf_nef, pick_nef, build_eq, fillA_nil, fillA_one, fillA_agg, Option.map_some, resv_one, resv_two, freeIn_nil, fillA_slc, fillA_int, fillA_str, fillA_bool, fillA_ptr, fillA_map])
    exact hbad he H1 k1
  have he0 : (chkP ls).2 = 0 := Decidable.not_not.mp he
  have hsm := (chk_good he0).1
  have hl1 := hl.keep0 k1
  (try simp (maxSteps := 1000000) (disch := first | omega | (simp only [Heap.next_push', Heap.next_set']; omega) | (simp; done) | assumption | decide | (refine not_not_intro ?_; assumption)) only [at_zero, at_succ, wp_bnd, wp_lift, wpO_some, wp_ret, nx_nxt, nx_brk, nx_ret, unblk_nxt, unblk_ret, unblk_brk, finM_nxt, finM_ret, outV_one, condM_t, condM_f, condM_dt, condM_df, gd_t, gd_f, gdf_t, gdf_f, gd_skip, gd_dt, gd_df, gdf_dt, gdf_df, pick_t, pick_f, pick_dt, pick_df, not_t, not_f, not_dec, isNil_ptr, isNil_ptr', isNil_pnil, isNil_pnil', nilck_ptr, faddr_ptr, Nat.zero_add, Nat.add_zero, wp_ld1, lenStr_str, lenSlc_slice, strV_str, i64_add, i64_sub, i64_mul, i64_in, int_eqd, int_ned, int_lss, int_leq, int_gtr, int_geq, str_eqd, str_ned, if_true, wp_bndH, wp_withH, wp_need, enc_int, enc_str, enc_byte, enc_bool, List.getElem?_cons_zero, List.getElem?_cons_succ, cellP_get, cellG_cells, wp_st1g, stG_c, eq_self, true_and, wp_stng, stnG_ok, wp_ldng, ldG_ok, wp_newcg, wp_boxg, Heap.get_push_eq, Heap.get_push_lt, Heap.get_set_eq, Heap.get_set_ne', Heap.next_push', Heap.next_set', Heap.set_push_lt, Heap.set_push_eq, Heap.set_set, fld1_agg, fldn_agg, ext_tuple, outV_nil, outV_two, outV_three, outV_four, chk_ld1g, chkO_int, chkO_bool, chkO_str, chkO_ptr, chkO_slc, chkO_map, List.set_cons_zero, List.set_cons_succ, List.length_cons, List.length_nil, List.drop_succ_cons, List.drop_zero, List.take_succ_cons, List.take_zero, List.nil_append, List.cons_append, splice, isOne_int, isOne_str, isOne_bool, isOne_slice, isOne_pointer, isOne_map, condM_nf, condM_nef, gd_nef, gdf_nef, pick_nef, build_eq, fillA_nil, fillA_one, fillA_agg, Option.map_some, resv_one, resv_two, freeIn_nil, fillA_slc, fillA_int, fillA_str, fillA_bool, fillA_ptr, fillA_map, ports_New_k0, hl1.len, wp_withResv])
  have kp : Keeps [] H1 (H1.push none) := Keeps.push _ _ _
  refine clone_ok (hl1.keep0 kp) hsm _ fun w H2 hw k2 fw => ?_
  have hb2 : H2.get H1.next = none := by rw [k2.same H1.next (by simp) (by simp)]; exact Heap.get_push_self _ _
  have hb1 : (H1.push none).get H1.next = none := Heap.get_push_self _ _
  have hn2 := k2.next
  simp only [Heap.next_push'] at hn2 fw
  (try simp (maxSteps := 1000000) (disch := first | omega | (simp only [Heap.next_push', Heap.next_set']; omega) | (simp; done) | assumption | decide | (refine not_not_intro ?_; assumption)) only [at_zero, at_succ, wp_bnd, wp_lift, wpO_some, wp_ret, nx_nxt, nx_brk, nx_ret, unblk_nxt, unblk_ret, unblk_brk, finM_nxt, finM_ret, outV_one, condM_t, condM_f, condM_dt, condM_df, gd_t, gd_f, gdf_t, gdf_f, gd_skip, gd_dt, gd_df, gdf_dt, gdf_df, pick_t, pick_f, pick_dt, pick_df, not_t, not_f, not_dec, isNil_ptr, isNil_ptr', isNil_pnil, isNil_pnil', nilck_ptr, faddr_ptr, Nat.zero_add, Nat.add_zero, wp_ld1, lenStr_str, lenSlc_slice, strV_str, i64_add, i64_sub, i64_mul, i64_in, int_eqd, int_ned, int_lss, int_leq, int_gtr, int_geq, str_eqd, str_ned, if_true, wp_bndH, wp_withH, wp_need, enc_int, enc_str, enc_byte, enc_bool, List.getElem?_cons_zero, List.getElem?_cons_succ, cellP_get, cellG_cells, wp_st1g, stG_c, eq_self, true_and, wp_stng, stnG_ok, wp_ldng, ldG_ok, wp_newcg, wp_boxg, Heap.get_push_eq, Heap.get_push_lt, Heap.get_set_eq, Heap.get_set_ne', Heap.next_push', Heap.next_set', Heap.set_push_lt, Heap.set_push_eq, Heap.set_set, fld1_agg, fldn_agg, ext_tuple, outV_nil, outV_two, outV_three, outV_four, chk_ld1g, chkO_int, chkO_bool, chkO_str, chkO_ptr, chkO_slc, chkO_map, List.set_cons_zero, List.set_cons_succ, List.length_cons, List.length_nil, List.drop_succ_cons, List.drop_zero, List.take_succ_cons, List.take_zero, List.nil_append, List.cons_append, splice, isOne_int, isOne_str, isOne_bool, isOne_slice, isOne_pointer, isOne_map, condM_nf, condM_nef, gd_nef, gdf_nef, pick_nef, build_eq, fillA_nil, fillA_one, fillA_agg, Option.map_some, resv_one, resv_two, freeIn_nil, fillA_slc, fillA_int, fillA_str, fillA_bool, fillA_ptr, fillA_map, freeIn_cons (bs := []) hb1 (by simp), freeIn_cons (bs := []) hb2 (by omega), Bool.and_true])
  refine wp_flt_mkslc (n := ls.length) (c := ls.length) hb2 (by omega) (by decide) (Nat.le_refl _) (by omega) (by omega) ?_
  rw [rep_encs gs0 _ (by rfl)]
  have hwo := hw.isOne
  (try simp (maxSteps := 1000000) (disch := first | omega | (simp only [Heap.next_push', Heap.next_set']; omega) | (simp; done) | assumption | decide | (refine not_not_intro ?_; assumption)) only [at_zero, at_succ, wp_bnd, wp_lift, wpO_some, wp_ret, nx_nxt, nx_brk, nx_ret, unblk_nxt, unblk_ret, unblk_brk, finM_nxt, finM_ret, outV_one, condM_t, condM_f, condM_dt, condM_df, gd_t, gd_f, gdf_t, gdf_f, gd_skip, gd_dt, gd_df, gdf_dt, gdf_df, pick_t, pick_f, pick_dt, pick_df, not_t, not_f, not_dec, isNil_ptr, isNil_ptr', isNil_pnil, isNil_pnil', nilck_ptr, faddr_ptr, Nat.zero_add, Nat.add_zero, wp_ld1, lenStr_str, lenSlc_slice, strV_str, i64_add, i64_sub, i64_mul, i64_in, int_eqd, int_ned, int_lss, int_leq, int_gtr, int_geq, str_eqd, str_ned, if_true, wp_bndH, wp_withH, wp_need, enc_int, enc_str, enc_byte, enc_bool, List.getElem?_cons_zero, List.getElem?_cons_succ, cellP_get, cellG_cells, wp_st1g, stG_c, eq_self, true_and, wp_stng, stnG_ok, wp_ldng, ldG_ok, wp_newcg, wp_boxg, Heap.get_push_eq, Heap.get_push_lt, Heap.get_set_eq, Heap.get_set_ne', Heap.next_push', Heap.next_set', Heap.set_push_lt, Heap.set_push_eq, Heap.set_set, fld1_agg, fldn_agg, ext_tuple, outV_nil, outV_two, outV_three, outV_four, chk_ld1g, chkO_int, chkO_bool, chkO_str, chkO_ptr, chkO_slc, chkO_map, List.set_cons_zero, List.set_cons_succ, List.length_cons, List.length_nil, List.drop_succ_cons, List.drop_zero, List.take_succ_cons, List.take_zero, List.nil_append, List.cons_append, splice, isOne_int, isOne_str, isOne_bool, isOne_slice, isOne_pointer, isOne_map, condM_nf, condM_nef, gd_nef, gdf_nef, pick_nef, build_eq, fillA_nil, fillA_one, fillA_agg, Option.map_some, resv_one, resv_two, freeIn_nil, fillA_slc, fillA_int, fillA_str, fillA_bool, fillA_ptr, fillA_map, hwo])
  refine (wp_boxg (by simp [hwo])).mpr ?_
  (try simp (maxSteps := 1000000) (disch := first | omega | (simp only [Heap.next_push', Heap.next_set']; omega) | (simp; done) | assumption | decide | (refine not_not_intro ?_; assumption)) only [at_zero, at_succ, wp_bnd, wp_lift, wpO_some, wp_ret, nx_nxt, nx_brk, nx_ret, unblk_nxt, unblk_ret, unblk_brk, finM_nxt, finM_ret, outV_one, condM_t, condM_f, condM_dt, condM_df, gd_t, gd_f, gdf_t, gdf_f, gd_skip, gd_dt, gd_df, gdf_dt, gdf_df, pick_t, pick_f, pick_dt, pick_df, not_t, not_f, not_dec, isNil_ptr, isNil_ptr', isNil_pnil, isNil_pnil', nilck_ptr, faddr_ptr, Nat.zero_add, Nat.add_zero, wp_ld1, lenStr_str, lenSlc_slice, strV_str, i64_add, i64_sub, i64_mul, i64_in, int_eqd, int_ned, int_lss, int_leq, int_gtr, int_geq, str_eqd, str_ned, if_true, wp_bndH, wp_withH, wp_need, enc_int, enc_str, enc_byte, enc_bool, List.getElem?_cons_zero, List.getElem?_cons_succ, cellP_get, cellG_cells, wp_st1g, stG_c, eq_self, true_and, wp_stng, stnG_ok, wp_ldng, ldG_ok, wp_newcg, wp_boxg, Heap.get_push_eq, Heap.get_push_lt, Heap.get_set_eq, Heap.get_set_ne', Heap.next_push', Heap.next_set', Heap.set_push_lt, Heap.set_push_eq, Heap.set_set, fld1_agg, fldn_agg, ext_tuple, outV_nil, outV_two, outV_three, outV_four, chk_ld1g, chkO_int, chkO_bool, chkO_str, chkO_ptr, chkO_slc, chkO_map, List.set_cons_zero, List.set_cons_succ, List.length_cons, List.length_nil, List.drop_succ_cons, List.drop_zero, List.take_succ_cons, List.take_zero, List.nil_append, List.cons_append, splice, isOne_int, isOne_str, isOne_bool, isOne_slice, isOne_pointer, isOne_map, condM_nf, condM_nef, gd_nef, gdf_nef, pick_nef, build_eq, fillA_nil, fillA_one, fillA_agg, Option.map_some, resv_one, resv_two, freeIn_nil, fillA_slc, fillA_int, fillA_str, fillA_bool, fillA_ptr, fillA_map])
  have hne := k1.next
  have hg1 : ((H2.set H1.next (some (.cells true (encs (List.replicate ls.length gs0))))).push (some (.cells true [w, slc H1.next 0 4 ls.length ls.length]))).get H2.next = some (.cells true [w, slc H1.next 0 4 ls.length ls.length]) := Heap.get_push_eq (by simp)
  have hg2 : ((H2.set H1.next (some (.cells true (encs (List.replicate ls.length gs0))))).push (some (.cells true [w, slc H1.next 0 4 ls.length ls.length]))).get H1.next = some (.cells true (encs (List.replicate ls.length gs0))) := by
    rw [Heap.get_push_lt (by simp; omega), Heap.get_set_self (by omega)]
  have hk3 : Keeps [H1.next] H2 ((H2.set H1.next (some (.cells true (encs (List.replicate ls.length gs0))))).push (some (.cells true [w, slc H1.next 0 4 ls.length ls.length]))) := keeps_push (Keeps.set (by simp))
  obtain ⟨q1, q2, q3⟩ := BoxV.new hg1 (hw.keep hk3 (fun b hb hm => by have := fw b hb; simp at hm; omega)) hg2 (by omega) (fun hm => by have := hw.lt _ hm; omega) (fun hm => by have := fw _ hm; omega) he0
  refine hQ he0 _ _ _ _ _ q1 q2 (((k1.trans kp (fun _ _ h => h)).trans k2 (fun _ _ h => h)).trans hk3 (fun b hb hm => by simp at hm; omega)) fun b hb => ?_
  rcases q3 b hb with rfl | rfl | hb
  · omega
  · omega
  · have := fw b hb; omega

theorem ref20_New_ok {H : Heap} {lv : V} {ls : List Port} (hl : Sl H lv ls) (Q : V → Heap → Prop)
    (hbad : (chkP ls).2 ≠ 0 → ∀ H', Keeps [] H H' → Q (.tuple #[.pointer none, i64 (chkP ls).2]) H')
    (hQ : (chkP ls).2 = 0 → ∀ p w sb gs H', BoxV H' p w sb ls gs → gs.map GS.st = List.replicate ls.length st0 → Keeps [] H H' → (∀ b ∈ foot p sb w gs, H.next ≤ b) → Q (.tuple #[ptr p 0, i64 0]) H') : wp (A_ref20_New [lv]) Q H := by
  show wp (F_ref20_New lv) Q H
  simp only [F_ref20_New, wp_bnd]
  refine ref20_Check_ok H lv ls hl _ fun H1 k1 => ?_
  by_cases he : (chkP ls).2 ≠ 0
  · (try simp (maxSteps := 1000000) (disch := first | omega | (simp only [Heap.next_push', Heap.next_set']; omega) | (simp; done) | assumption | decide | (refine not_not_intro ?_; assumption)) only [at_zero, at_succ, wp_bnd, wp_lift, wpO_some, wp_ret, nx_nxt, nx_brk, nx_ret, unblk_nxt, unblk_ret, unblk_brk, finM_nxt, finM_ret, outV_one, condM_t, condM_f, condM_dt, condM_df, gd_t, gd_f, gdf_t, gdf_f, gd_skip, gd_dt, gd_df, gdf_dt, gdf_df, pick_t, pick_f, pick_dt, pick_df, not_t, not_f, not_dec, isNil_ptr, isNil_ptr', isNil_pnil, isNil_pnil', nilck_ptr, faddr_ptr, Nat.zero_add, Nat.add_zero, wp_ld1, lenStr_str, lenSlc_slice, strV_str, i64_add, i64_sub, i64_mul, i64_in, int_eqd, int_ned, int_lss, int_leq, int_gtr, int_geq, str_eqd, str_ned, if_true, wp_bndH, wp_withH, wp_need, enc_int, enc_str, enc_byte, enc_bool, List.getElem?_cons_zero, List.getElem?_cons_succ, cellP_get, cellG_cells, wp_st1g, stG_c, eq_self, true_and, wp_stng, stnG_ok, wp_ldng, ldG_ok, wp_newcg, wp_boxg, Heap.get_push_eq, Heap.get_push_lt, Heap.get_set_eq, Heap.get_set_ne', Heap.next_push', Heap.next_set', Heap.set_push_lt, Heap.set_push_eq, Heap.set_set, fld1_agg, fldn_agg, ext_tuple, outV_nil, outV_two, outV_three, outV_four, chk_ld1g, chkO_int, chkO_bool, chkO_str, chkO_ptr, chkO_slc, chkO_map, List.set_cons_zero, List.set_cons_succ, List.length_cons, List.length_nil, List.drop_succ_cons, List.drop_zero, List.take_succ_cons, List.take_zero, List.nil_append, List.cons_append, splice, isOne_int, isOne_str, isOne_bool, isOne_slice, isOne_pointer, isOne_map, condM_nf, condM_nef, gd_nef, gdf_nef, pick_nef, build_eq, fillA_nil, fillA_one, fillA_agg, Option.map_some, resv_one, resv_two, freeIn_nil, fillA_slc, fillA_int, fillA_str, fillA_bool, fillA_ptr, fillA_map])
    exact hbad he H1 k1
  have he0 : (chkP ls).2 = 0 := Decidable.not_not.mp he
  have hsm := (chk_good he0).1
  have hl1 := hl.keep0 k1
  have hne := k1.next
  (try simp (maxSteps := 1000000) (disch := first | omega | (simp only [Heap.next_push', Heap.next_set']; omega) | (simp; done) | assumption | decide | (refine not_not_intro ?_; assumption)) only [at_zero, at_succ, wp_bnd, wp_lift, wpO_some, wp_ret, nx_nxt, nx_brk, nx_ret, unblk_nxt, unblk_ret, unblk_brk, finM_nxt, finM_ret, outV_one, condM_t, condM_f, condM_dt, condM_df, gd_t, gd_f, gdf_t, gdf_f, gd_skip, gd_dt, gd_df, gdf_dt, gdf_df, pick_t, pick_f, pick_dt, pick_df, not_t, not_f, not_dec, isNil_ptr, isNil_ptr', isNil_pnil, isNil_pnil', nilck_ptr, faddr_ptr, Nat.zero_add, Nat.add_zero, wp_ld1, lenStr_str, lenSlc_slice, strV_str, i64_add, i64_sub, i64_mul, i64_in, int_eqd, int_ned, int_lss, int_leq, int_gtr, int_geq, str_eqd, str_ned, if_true, wp_bndH, wp_withH, wp_need, enc_int, enc_str, enc_byte, enc_bool, List.getElem?_cons_zero, List.getElem?_cons_succ, cellP_get, cellG_cells, wp_st1g, stG_c, eq_self, true_and, wp_stng, stnG_ok, wp_ldng, ldG_ok, wp_newcg, wp_boxg, Heap.get_push_eq, Heap.get_push_lt, Heap.get_set_eq, Heap.get_set_ne', Heap.next_push', Heap.next_set', Heap.set_push_lt, Heap.set_push_eq, Heap.set_set, fld1_agg, fldn_agg, ext_tuple, outV_nil, outV_two, outV_three, outV_four, chk_ld1g, chkO_int, chkO_bool, chkO_str, chkO_ptr, chkO_slc, chkO_map, List.set_cons_zero, List.set_cons_succ, List.length_cons, List.length_nil, List.drop_succ_cons, List.drop_zero, List.take_succ_cons, List.take_zero, List.nil_append, List.cons_append, splice, isOne_int, isOne_str, isOne_bool, isOne_slice, isOne_pointer, isOne_map, condM_nf, condM_nef, gd_nef, gdf_nef, pick_nef, build_eq, fillA_nil, fillA_one, fillA_agg, Option.map_some, resv_one, resv_two, freeIn_nil, fillA_slc, fillA_int, fillA_str, fillA_bool, fillA_ptr, fillA_map, ref20_New_k0, hl1.len, wp_withResv])
  have kp : Keeps [] H1 ((H1.push none).push none) := keeps_push (Keeps.push _ _ _)
  have g0 : ((H1.push none).push none).get H1.next = none := by rw [Heap.get_push_lt (by simp)]; exact Heap.get_push_self _ _
  have g1 : ((H1.push none).push none).get (H1.next + 1) = none := by rw [Heap.get_push_eq (by simp)]
  have gn : ((H1.push none).push none).next = H1.next + 2 := by simp
  generalize hH2 : (H1.push none).push none = H2 at *
  refine wp_flt_bslc (cs := []) g0 (by omega) (by decide) (by rfl) ?_
  have kf : Keeps [H1.next] H2 (H2.set H1.next (some (.cells true []))) := Keeps.set (by simp)
  have kf0 : Keeps [] H1 (H2.set H1.next (some (.cells true []))) := kp.trans kf (fun b hb hm => by simp at hm; omega)
  refine appV_empty (α := Port) rfl (Heap.get_set_self (by omega)) (hl1.keep0 kf0) (by omega) (by omega) (by omega) fun w H3 hw => ?_
  have hw3 : Sl H3 w ls ∧ Keeps [] H1 H3 ∧ (∀ b ∈ vb w, b = H1.next ∨ H1.next + 2 ≤ b) ∧ H3.get (H1.next + 1) = none ∧ H1.next + 2 ≤ H3.next := by
    rcases hw with ⟨rfl, rfl, rfl⟩ | ⟨rfl, hg, hk, _, hn⟩
    · exact ⟨.inr ⟨_, _, _, _, rfl, Nat.le_refl _, Heap.get_lt (Heap.get_set_self (by omega)), .inl rfl, .inr rfl⟩, kf0, by simp, by rw [Heap.get_set_ne _ _ _ (by omega)]; exact g1, by simp; omega⟩
    · refine ⟨.inr ⟨_, _, _, _, rfl, Nat.le_refl _, Heap.get_lt (hg), .inr ⟨_, _, hg, by rw [encs_length]; omega, by rw [List.drop_zero, List.take_of_length_le (by rw [encs_length]; exact Nat.le_refl _)]⟩, .inr rfl⟩, kf0.trans hk (fun b hb hm => by simp at hm; omega), by simp; omega, ?_, by rw [hn]; simp; omega⟩
      rw [hk.same _ (by simp; omega) (by simp), Heap.get_set_ne _ _ _ (by omega)]; exact g1
  obtain ⟨w1, w2, w3, w4, w5⟩ := hw3
  have g1s : (H2.set H1.next (some (.cells true []))).get (H1.next + 1) = none := by rw [Heap.get_set_ne _ _ _ (by omega)]; exact g1
  (try simp (maxSteps := 1000000) (disch := first | omega | (simp only [Heap.next_push', Heap.next_set']; omega) | (simp; done) | assumption | decide | (refine not_not_intro ?_; assumption)) only [at_zero, at_succ, wp_bnd, wp_lift, wpO_some, wp_ret, nx_nxt, nx_brk, nx_ret, unblk_nxt, unblk_ret, unblk_brk, finM_nxt, finM_ret, outV_one, condM_t, condM_f, condM_dt, condM_df, gd_t, gd_f, gdf_t, gdf_f, gd_skip, gd_dt, gd_df, gdf_dt, gdf_df, pick_t, pick_f, pick_dt, pick_df, not_t, not_f, not_dec, isNil_ptr, isNil_ptr', isNil_pnil, isNil_pnil', nilck_ptr, faddr_ptr, Nat.zero_add, Nat.add_zero, wp_ld1, lenStr_str, lenSlc_slice, strV_str, i64_add, i64_sub, i64_mul, i64_in, int_eqd, int_ned, int_lss, int_leq, int_gtr, int_geq, str_eqd, str_ned, if_true, wp_bndH, wp_withH, wp_need, enc_int, enc_str, enc_byte, enc_bool, List.getElem?_cons_zero, List.getElem?_cons_succ, cellP_get, cellG_cells, wp_st1g, stG_c, eq_self, true_and, wp_stng, stnG_ok, wp_ldng, ldG_ok, wp_newcg, wp_boxg, Heap.get_push_eq, Heap.get_push_lt, Heap.get_set_eq, Heap.get_set_ne', Heap.next_push', Heap.next_set', Heap.set_push_lt, Heap.set_push_eq, Heap.set_set, fld1_agg, fldn_agg, ext_tuple, outV_nil, outV_two, outV_three, outV_four, chk_ld1g, chkO_int, chkO_bool, chkO_str, chkO_ptr, chkO_slc, chkO_map, List.set_cons_zero, List.set_cons_succ, List.length_cons, List.length_nil, List.drop_succ_cons, List.drop_zero, List.take_succ_cons, List.take_zero, List.nil_append, List.cons_append, splice, isOne_int, isOne_str, isOne_bool, isOne_slice, isOne_pointer, isOne_map, condM_nf, condM_nef, gd_nef, gdf_nef, pick_nef, build_eq, fillA_nil, fillA_one, fillA_agg, Option.map_some, resv_one, resv_two, freeIn_nil, fillA_slc, fillA_int, fillA_str, fillA_bool, fillA_ptr, fillA_map, freeIn_cons (bs := []) g1s (by simp; omega), freeIn_cons (bs := []) w4 (by omega), Bool.and_true])
  refine wp_flt_mkslc (n := ls.length) (c := ls.length) w4 (by omega) (by decide) (Nat.le_refl _) (by omega) (by omega) ?_
  rw [rep_encs gs0 _ (by rfl)]
  have hwo := w1.isOne
  (try simp (maxSteps := 1000000) (disch := first | omega | (simp only [Heap.next_push', Heap.next_set']; omega) | (simp; done) | assumption | decide | (refine not_not_intro ?_; assumption)) only [at_zero, at_succ, wp_bnd, wp_lift, wpO_some, wp_ret, nx_nxt, nx_brk, nx_ret, unblk_nxt, unblk_ret, unblk_brk, finM_nxt, finM_ret, outV_one, condM_t, condM_f, condM_dt, condM_df, gd_t, gd_f, gdf_t, gdf_f, gd_skip, gd_dt, gd_df, gdf_dt, gdf_df, pick_t, pick_f, pick_dt, pick_df, not_t, not_f, not_dec, isNil_ptr, isNil_ptr', isNil_pnil, isNil_pnil', nilck_ptr, faddr_ptr, Nat.zero_add, Nat.add_zero, wp_ld1, lenStr_str, lenSlc_slice, strV_str, i64_add, i64_sub, i64_mul, i64_in, int_eqd, int_ned, int_lss, int_leq, int_gtr, int_geq, str_eqd, str_ned, if_true, wp_bndH, wp_withH, wp_need, enc_int, enc_str, enc_byte, enc_bool, List.getElem?_cons_zero, List.getElem?_cons_succ, cellP_get, cellG_cells, wp_st1g, stG_c, eq_self, true_and, wp_stng, stnG_ok, wp_ldng, ldG_ok, wp_newcg, wp_boxg, Heap.get_push_eq, Heap.get_push_lt, Heap.get_set_eq, Heap.get_set_ne', Heap.next_push', Heap.next_set', Heap.set_push_lt, Heap.set_push_eq, Heap.set_set, fld1_agg, fldn_agg, ext_tuple, outV_nil, outV_two, outV_three, outV_four, chk_ld1g, chkO_int, chkO_bool, chkO_str, chkO_ptr, chkO_slc, chkO_map, List.set_cons_zero, List.set_cons_succ, List.length_cons, List.length_nil, List.drop_succ_cons, List.drop_zero, List.take_succ_cons, List.take_zero, List.nil_append, List.cons_append, splice, isOne_int, isOne_str, isOne_bool, isOne_slice, isOne_pointer, isOne_map, condM_nf, condM_nef, gd_nef, gdf_nef, pick_nef, build_eq, fillA_nil, fillA_one, fillA_agg, Option.map_some, resv_one, resv_two, freeIn_nil, fillA_slc, fillA_int, fillA_str, fillA_bool, fillA_ptr, fillA_map, hwo])
  refine (wp_boxg (by simp [hwo])).mpr ?_
  (try simp (maxSteps := 1000000) (disch := first | omega | (simp only [Heap.next_push', Heap.next_set']; omega) | (simp; done) | assumption | decide | (refine not_not_intro ?_; assumption)) only [at_zero, at_succ, wp_bnd, wp_lift, wpO_some, wp_ret, nx_nxt, nx_brk, nx_ret, unblk_nxt, unblk_ret, unblk_brk, finM_nxt, finM_ret, outV_one, condM_t, condM_f, condM_dt, condM_df, gd_t, gd_f, gdf_t, gdf_f, gd_skip, gd_dt, gd_df, gdf_dt, gdf_df, pick_t, pick_f, pick_dt, pick_df, not_t, not_f, not_dec, isNil_ptr, isNil_ptr', isNil_pnil, isNil_pnil', nilck_ptr, faddr_ptr, Nat.zero_add, Nat.add_zero, wp_ld1, lenStr_str, lenSlc_slice, strV_str, i64_add, i64_sub, i64_mul, i64_in, int_eqd, int_ned, int_lss, int_leq, int_gtr, int_geq, str_eqd, str_ned, if_true, wp_bndH, wp_withH, wp_need, enc_int, enc_str, enc_byte, enc_bool, List.getElem?_cons_zero, List.getElem?_cons_succ, cellP_get, cellG_cells, wp_st1g, stG_c, eq_self, true_and, wp_stng, stnG_ok, wp_ldng, ldG_ok, wp_newcg, wp_boxg, Heap.get_push_eq, Heap.get_push_lt, Heap.get_set_eq, Heap.get_set_ne', Heap.next_push', Heap.next_set', Heap.set_push_lt, Heap.set_push_eq, Heap.set_set, fld1_agg, fldn_agg, ext_tuple, outV_nil, outV_two, outV_three, outV_four, chk_ld1g, chkO_int, chkO_bool, chkO_str, chkO_ptr, chkO_slc, chkO_map, List.set_cons_zero, List.set_cons_succ, List.length_cons, List.length_nil, List.drop_succ_cons, List.drop_zero, List.take_succ_cons, List.take_zero, List.nil_append, List.cons_append, splice, isOne_int, isOne_str, isOne_bool, isOne_slice, isOne_pointer, isOne_map, condM_nf, condM_nef, gd_nef, gdf_nef, pick_nef, build_eq, fillA_nil, fillA_one, fillA_agg, Option.map_some, resv_one, resv_two, freeIn_nil, fillA_slc, fillA_int, fillA_str, fillA_bool, fillA_ptr, fillA_map])
  have hg1 : ((H3.set (H1.next + 1) (some (.cells true (encs (List.replicate ls.length gs0))))).push (some (.cells true [w, slc (H1.next + 1) 0 4 ls.length ls.length]))).get H3.next = some (.cells true [w, slc (H1.next + 1) 0 4 ls.length ls.length]) := Heap.get_push_eq (by simp)
  have hg2 : ((H3.set (H1.next + 1) (some (.cells true (encs (List.replicate ls.length gs0))))).push (some (.cells true [w, slc (H1.next + 1) 0 4 ls.length ls.length]))).get (H1.next + 1) = some (.cells true (encs (List.replicate ls.length gs0))) := by
    rw [Heap.get_push_lt (by simp; omega), Heap.get_set_self (by omega)]
  have hk3 : Keeps [H1.next + 1] H3 ((H3.set (H1.next + 1) (some (.cells true (encs (List.replicate ls.length gs0))))).push (some (.cells true [w, slc (H1.next + 1) 0 4 ls.length ls.length]))) := keeps_push (Keeps.set (by simp))
  obtain ⟨q1, q2, q3⟩ := BoxV.new hg1 (w1.keep hk3 (fun b hb hm => by have := w3 b hb; simp at hm; omega)) hg2 (by omega) (fun hm => by have := w1.lt _ hm; omega) (fun hm => by have := w3 _ hm; omega) he0
  refine hQ he0 _ _ _ _ _ q1 q2 ((k1.trans w2 (fun _ _ h => h)).trans hk3 (fun b hb hm => by simp at hm; omega)) fun b hb => ?_
  rcases q3 b hb with rfl | rfl | hb
  · omega
  · omega
  · have := w3 b hb; omega
end Go.AM.Cap
