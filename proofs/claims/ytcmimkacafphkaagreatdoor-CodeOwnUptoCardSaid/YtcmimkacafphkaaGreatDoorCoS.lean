import Derived.Test.YtcmimkacafphkaaGreatDoorCoR
import Derived.Test.YtcmimkacafphkaaGreatDoorAmMap
set_option linter.all false
/- code: CodeOwn on the machine -/
set_option maxHeartbeats 16000000
namespace Go.AM.Cap
open Go.AM Go.Proofs

theorem own_ok {H : Heap} {G : List V → M V} (hm : MaxL H) (hp : Pow10 H) (ho : OpNames H) {x : Im} (h : ImAt H x) (hl : x.types.xs.length ≤ 10000000) (hf : x.first.xs.length ≤ 10000000) (hi : x.ins.xs.length ≤ 10000000) (hu : x.outs.xs.length ≤ 10000000) (hc : x.code.xs.length ≤ 10000000) (a : Int) : wp (A_law13_CodeOwn G containsF itoaF formatF joinF [.agg (Flat.enc x).toArray, i64 a]) (fun r _ => r = .bool true) H := by
  show wp (F_law13_CodeOwn G containsF itoaF formatF joinF (.agg (Flat.enc x).toArray) (i64 a)) _ H
  have h1 := im_one x
  unfold F_law13_CodeOwn
  rw [wp_bnd, wp_bnd, enc_im]
  refine (wp_boxg h1).mpr ?_
  have k1 : Keeps [] H (H.push (some (.cells true [.string x.name, x.types.v, x.first.v, x.ins.v, x.outs.v, x.code.v]))) := Keeps.push _ _ _
  have g1 : (H.push (some (.cells true [.string x.name, x.types.v, x.first.v, x.ins.v, x.outs.v, x.code.v]))).get H.next = some (.cells true [.string x.name, x.types.v, x.first.v, x.ins.v, x.outs.v, x.code.v]) := Heap.get_push_self _ _
  generalize H.push (some (.cells true [.string x.name, x.types.v, x.first.v, x.ins.v, x.outs.v, x.code.v])) = H1 at *
  generalize hpp : H.next = p at *
  (try simp (maxSteps := 1000000) (disch := first | omega | (simp only [Z3]; omega) | (simp; done) | assumption | decide | (refine not_not_intro ?_; assumption)) only [Z1, Z2, splice])
  refine works_ok (hm.keep k1) (k1.get hp (by simp)) (k1.get ho (by simp)) _ fun H2 k2 => ?_
  have k02 := k1.trans k2 (by simp)
  have g2 := k2.get g1 (by simp)
  (try simp (maxSteps := 1000000) (disch := first | omega | (simp only [Z3]; omega) | (simp; done) | assumption | decide | (refine not_not_intro ?_; assumption)) only [Z1, Z2, splice, law13_CodeOwn_k2, g2])
  rw [← enc_im]
  refine imCheck_ok (hm.keep k02) (h.keep0 k02) (by omega) (by omega) (by omega) (by omega) (by omega) _ fun H3 k3 => ?_
  have k03 := k02.trans k3 (by simp)
  have g3 := k3.get g2 (by simp)
  have lc := h.code.len
  rcases check_code x.p with hz | hz
  case inr =>
    rw [hz]
    (try simp (maxSteps := 1000000) (disch := first | omega | (simp only [Z3]; omega) | (simp; done) | assumption | decide | (refine not_not_intro ?_; assumption)) only [Z1, Z2, splice])
  by_cases hl2 : (x.code.xs.length : Int) = 4096
  · rw [hz]
    (try simp (maxSteps := 1000000) (disch := first | omega | (simp only [Z3]; omega) | (simp; done) | assumption | decide | (refine not_not_intro ?_; assumption)) only [Z1, Z2, splice, g3, lc, decide_eq_true hl2])
  have hl3 : x.p.code.length ≠ 4096 := by show x.code.xs.length ≠ 4096; omega
  rw [hz]
  (try simp (maxSteps := 1000000) (disch := first | omega | (simp only [Z3]; omega) | (simp; done) | assumption | decide | (refine not_not_intro ?_; assumption)) only [Z1, Z2, splice, g3, lc, decide_eq_false hl2, law13_CodeOwn_k1])
  rw [← enc_im]
  refine copyIm_ok (h.keep0 k03) (by omega) (by omega) (by omega) (by omega) (by omega) _ fun H4 y hy st => ?_
  have h2 := im_one y
  have k34 := st.keeps
  have k04 := k03.trans k34 (by simp)
  have g4 := k34.get g3 (by simp)
  rw [enc_im]
  have hyt : y.types.xs = x.types.xs := congrArg PIm.types hy
  have hyf : y.first.xs = x.first.xs := congrArg PIm.first hy
  have hyi : y.ins.xs = x.ins.xs := congrArg PIm.ins hy
  have hyo : y.outs.xs = x.outs.xs := congrArg PIm.outs hy
  have hyc : y.code.xs = x.code.xs := congrArg PIm.code hy
  have hsnd := (check_zero.1 hz).1
  have hpos : 0 < x.code.xs.length := hsnd.2.2.2.1
  obtain ⟨k, m, hk, q1, q2, q3, q4⟩ := own_at a x.code.xs.length hpos (by omega)
  have st5 := st.newc [.string y.name, y.types.v, y.first.v, y.ins.v, y.outs.v, y.code.v]
  have g5 := (Keeps.push [] H4 (some (.cells true [.string y.name, y.types.v, y.first.v, y.ins.v, y.outs.v, y.code.v]))).get g4 (by simp)
  have r5 := st5.get (i := 0) rfl
  have v5 := h.code.keep0 (k03.trans st5.keeps (by simp))
  have a1 := v5.addr' (n := 4) rfl (k := .i64) (i := (k : Int)) (by omega) (by omega)
  rw [Int.toNat_natCast] at a1
  have d1 := fun Q => v5.ldn' (Q := Q) (n := 4) rfl hk default
  have hmem : x.code.xs.getD k default ∈ x.code.xs := getD_mem' hk
  generalize x.code.xs.getD k default = c at *
  (try simp (maxSteps := 1000000) (disch := first | omega | (simp only [Z3]; omega) | (simp; done) | assumption | decide | (refine not_not_intro ?_; assumption)) only [Z1, cellP_get, cellG_cells, wp_st1g, stG_c, eq_self, true_and, wp_stng, stnG_ok, ldG_ok, wp_newcg, wp_boxg, Heap.get_push_eq, Heap.get_push_lt, Heap.get_set_eq, Heap.get_set_ne', Heap.next_push', Heap.next_set', Heap.set_push_lt, Heap.set_push_eq, Heap.set_set, fld1_agg, fldn_agg, ext_tuple, outV_nil, outV_two, outV_three, outV_four, chk_ld1g, chkO_int, chkO_bool, chkO_str, chkO_ptr, chkO_slc, chkO_map, List.set_cons_zero, List.set_cons_succ, List.length_cons, List.length_nil, List.drop_succ_cons, List.drop_zero, List.take_succ_cons, List.take_zero, List.nil_append, List.cons_append, splice, isOne_int, isOne_str, isOne_bool, isOne_slice, isOne_pointer, isOne_map, condM_nf, condM_nef, gd_nef, gdf_nef, pick_nef, build_eq, fillA_nil, fillA_one, fillA_agg, Option.map_some, resv_one, resv_two, freeIn_nil, fillA_slc, fillA_int, fillA_str, fillA_bool, fillA_ptr, fillA_map])
  generalize H4.push (some (.cells true [.string y.name, y.types.v, y.first.v, y.ins.v, y.outs.v, y.code.v])) = H5 at *
  generalize hr : H4.next = r at *
  (try simp (maxSteps := 1000000) (disch := first | omega | (simp only [Z3]; omega) | (simp; done) | assumption | decide | (refine not_not_intro ?_; assumption)) only [Z1, cellP_get, cellG_cells, wp_st1g, stG_c, eq_self, true_and, wp_stng, stnG_ok, ldG_ok, wp_newcg, wp_boxg, Heap.get_push_eq, Heap.get_push_lt, Heap.get_set_eq, Heap.get_set_ne', Heap.next_push', Heap.next_set', Heap.set_push_lt, Heap.set_push_eq, Heap.set_set, fld1_agg, fldn_agg, ext_tuple, outV_nil, outV_two, outV_three, outV_four, chk_ld1g, chkO_int, chkO_bool, chkO_str, chkO_ptr, chkO_slc, chkO_map, List.set_cons_zero, List.set_cons_succ, List.length_cons, List.length_nil, List.drop_succ_cons, List.drop_zero, List.take_succ_cons, List.take_zero, List.nil_append, List.cons_append, splice, isOne_int, isOne_str, isOne_bool, isOne_slice, isOne_pointer, isOne_map, condM_nf, condM_nef, gd_nef, gdf_nef, pick_nef, build_eq, fillA_nil, fillA_one, fillA_agg, Option.map_some, resv_one, resv_two, freeIn_nil, fillA_slc, fillA_int, fillA_str, fillA_bool, fillA_ptr, fillA_map, r5, g5, q1, lc, q2, q3, q4, a1, d1])
  refine (wp_bslc (by rfl) (cs := encs [c]) (by rfl)).mpr ?_
  have st6 := st5.newo (n := 4) (m := 1) [c] rfl rfl
  generalize H5.push (some (.cells true (encs [c]))) = H6 at *
  have r6 := st6.get (i := 1) rfl
  have ck := chk_slc (st6.own (i := 6) rfl).sl
  refine st_appV st6 (i := 6) rfl rfl (st6.own (i := 0) rfl).sl (by rw [hyc]; simp; omega) (by rw [hyc]; simp; omega) fun w H7 st7 => ?_
  have hw := (st7.own (i := 6) rfl).sl.isOne
  have r7 := st7.get (i := 1) rfl
  have st8 := st7.set (i := 1) rfl [.string y.name, y.types.v, y.first.v, y.ins.v, y.outs.v, w]
  (try simp (maxSteps := 1000000) (disch := first | omega | (simp only [Z3]; omega) | (simp; done) | assumption | decide | (refine not_not_intro ?_; assumption)) only [Z1, Z2, splice, r7, r6, ck, hw])
  generalize H7.set r (some (.cells true [.string y.name, y.types.v, y.first.v, y.ins.v, y.outs.v, w])) = H8 at *
  have r8 := st8.get (i := 1) rfl
  have k08 := k03.trans st8.keeps (by simp)
  (try simp (maxSteps := 1000000) (disch := first | omega | (simp only [Z3]; omega) | (simp; done) | assumption | decide | (refine not_not_intro ?_; assumption)) only [Z1, Z2, splice, r8])
  have e2 : (Im.mk y.name y.types y.first y.ins y.outs ⟨w, y.code.xs ++ [c], hw⟩).p = x.p.more c := by rw [← hy]; rfl
  refine imCheck_ok (hm.keep k08) (x := ⟨y.name, y.types, y.first, y.ins, y.outs, ⟨w, y.code.xs ++ [c], hw⟩⟩) ⟨(st8.own (i := 2) rfl).sl, (st8.own (i := 3) rfl).sl, (st8.own (i := 4) rfl).sl, (st8.own (i := 5) rfl).sl, (st8.own (i := 6) rfl).sl⟩
    (by rw [hyt]; omega) (by rw [hyf]; omega) (by rw [hyi]; omega) (by rw [hyo]; omega) (by simp only [List.length_append, List.length_cons, List.length_nil]; rw [hyc]; omega) _ fun H9 k9 => ?_
  rw [e2, check_more hz hl3 hmem]
  have st9 := st8.keep0 k9
  have k09 := k08.trans k9 (by simp)
  have r9 := st9.get (i := 1) rfl
  have gp9 : H9.get p = some (.cells true [.string x.name, x.types.v, x.first.v, x.ins.v, x.outs.v, x.code.v]) := st9.keeps.get g3 (by simp)
  have hlt : x.code.xs.length < (y.code.xs ++ [c]).length := by rw [List.length_append, hyc]; simp
  have a9 := (st9.own (i := 6) rfl).sl.addr' (n := 4) rfl (k := .i64) (i := (x.code.xs.length : Int)) (by omega) (by omega)
  rw [Int.toNat_natCast] at a9
  (try simp (maxSteps := 1000000) (disch := first | omega | (simp only [Z3]; omega) | (simp; done) | assumption | decide | (refine not_not_intro ?_; assumption)) only [Z1, cellP_get, cellG_cells, wp_st1g, stG_c, eq_self, true_and, stnG_ok, wp_ldng, ldG_ok, wp_newcg, wp_boxg, Heap.get_push_eq, Heap.get_push_lt, Heap.get_set_eq, Heap.get_set_ne', Heap.next_push', Heap.next_set', Heap.set_push_lt, Heap.set_push_eq, Heap.set_set, fld1_agg, fldn_agg, ext_tuple, outV_nil, outV_two, outV_three, outV_four, chk_ld1g, chkO_int, chkO_bool, chkO_str, chkO_ptr, chkO_slc, chkO_map, List.set_cons_zero, List.set_cons_succ, List.length_cons, List.length_nil, List.drop_succ_cons, List.drop_zero, List.take_succ_cons, List.take_zero, List.nil_append, List.cons_append, splice, isOne_int, isOne_str, isOne_bool, isOne_slice, isOne_pointer, isOne_map, condM_nf, condM_nef, gd_nef, gdf_nef, pick_nef, build_eq, fillA_nil, fillA_one, fillA_agg, Option.map_some, resv_one, resv_two, freeIn_nil, fillA_slc, fillA_int, fillA_str, fillA_bool, fillA_ptr, fillA_map, law13_CodeOwn_k0, r9, gp9, lc, a9])
  refine st_elt st9 (idx := 6) (i := x.code.xs.length) (x' := (⟨99, 0, 0, 0⟩ : Ins)) rfl rfl hlt fun H10 st10 => ?_
  have r10 := st10.get (i := 1) rfl
  have k010 := k03.trans st10.keeps (by simp)
  have gp10 : H10.get p = some (.cells true [.string x.name, x.types.v, x.first.v, x.ins.v, x.outs.v, x.code.v]) := st10.keeps.get g3 (by simp)
  have hset : (y.code.xs ++ [c]).set x.code.xs.length ⟨99, 0, 0, 0⟩ = y.code.xs ++ [⟨99, 0, 0, 0⟩] := by
    rw [hyc, List.set_append_right _ _ (Nat.le_refl _), Nat.sub_self]
    rfl
  rw [hset] at st10
  have e3 : (Im.mk y.name y.types y.first y.ins y.outs ⟨w, y.code.xs ++ [⟨99, 0, 0, 0⟩], hw⟩).p = x.p.more ⟨99, 0, 0, 0⟩ := by rw [← hy]; rfl
  (try simp (maxSteps := 1000000) (disch := first | omega | (simp only [Z3]; omega) | (simp; done) | assumption | decide | (refine not_not_intro ?_; assumption)) only [Z1, Z2, splice, r10])
  refine imCheck_ok (hm.keep k010) (x := ⟨y.name, y.types, y.first, y.ins, y.outs, ⟨w, y.code.xs ++ [⟨99, 0, 0, 0⟩], hw⟩⟩) ⟨(st10.own (i := 2) rfl).sl, (st10.own (i := 3) rfl).sl, (st10.own (i := 4) rfl).sl, (st10.own (i := 5) rfl).sl, (st10.own (i := 6) rfl).sl⟩
    (by rw [hyt]; omega) (by rw [hyf]; omega) (by rw [hyi]; omega) (by rw [hyo]; omega) (by simp only [List.length_append, List.length_cons, List.length_nil]; rw [hyc]; omega) _ fun H11 k11 => ?_
  rw [e3, check_bad hz hl3]
  have gp11 := k11.get gp10 (by simp)
  have elen : x.p.code.length = x.code.xs.length := rfl
  (try simp (maxSteps := 1000000) (disch := first | omega | (simp only [Z3]; omega) | (simp; done) | assumption | decide | (refine not_not_intro ?_; assumption)) only [Z1, Z2, splice, gp11, lc, elen])
  simp
end Go.AM.Cap
