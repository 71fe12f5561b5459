import Derived.Test.YtcmimkacafphkaaGreatDoorCoRh
import Derived.Test.YtcmimkacafphkaaGreatDoorCoPb
import Derived.Test.YtcmimkacafphkaaGreatDoorCoY
import Derived.Test.YtcmimkacafphkaaGreatDoorWiF
import Derived.Test.YtcmimkacafphkaaGreatDoorAmOpenF
set_option linter.all false
/- code: the document's Items, Encode -/
set_option maxHeartbeats 16000000
namespace Go.AM.Cap
open Go.AM Go.Proofs

theorem rnum_ok {H : Heap} (n : Int) (Q : V → Heap → Prop) (hQ : ∀ H', Keeps [] H H' → Q (.agg (Flat.enc (numC n)).toArray) H') : wp (A_ref13_num [i64 n]) Q H := by
  show wp (F_ref13_num (i64 n)) Q H
  unfold F_ref13_num
  (try simp (maxSteps := 1000000) (disch := first | omega | (simp only [Z3]; omega) | (simp; done) | assumption | decide | (refine not_not_intro ?_; assumption)) only [Z1, Z2, splice])
  refine hQ _ ?_
  (repeat (first | exact Keeps.refl _ _ | assumption | apply keeps_push | refine keeps_set ?_ (by simp; omega)))
theorem q256 {a : Int} (h : 0 ≤ a ∧ a < 65536) : bin .quo (i64 a) (i64 256) = some (i64 (a / 256)) := by
  obtain ⟨n, rfl⟩ := Int.eq_ofNat_of_zero_le h.1
  rw [i64_quo256, i64_in (by omega) (by omega)]
theorem r256 {a : Int} (h : 0 ≤ a ∧ a < 65536) : bin .rem (i64 a) (i64 256) = some (i64 (a % 256)) := by
  obtain ⟨n, rfl⟩ := Int.eq_ofNat_of_zero_le h.1
  rw [i64_rem256]
theorem b8_mod (a : Int) : b8 (a % 256) = b8 a := by
  apply BitVec.eq_of_toNat_eq
  have h1 := b8_toNat (a % 256)
  have h2 := b8_toNat a
  omega
theorem sh_b8 (n : Int) (j : Nat) (hj : j ≤ 5) : ((BitVec.ofInt 64 n) >>> (40 - 8 * j)).setWidth 8 = b8 (n / 2 ^ (40 - 8 * j)) := by
  apply BitVec.eq_of_toNat_eq
  have h1 := b8_toNat (n / 2 ^ (40 - 8 * j))
  rw [BitVec.toNat_setWidth, BitVec.toNat_ushiftRight, Nat.shiftRight_eq_div_pow, BitVec.toNat_ofInt]
  generalize (b8 (n / 2 ^ (40 - 8 * j))).toNat = y at *
  rcases (show j = 0 ∨ j = 1 ∨ j = 2 ∨ j = 3 ∨ j = 4 ∨ j = 5 by omega) with rfl | rfl | rfl | rfl | rfl | rfl <;> omega
theorem rtloop_ok {H0 H : Heap} {L : List Thing} {p : Nat} {w tv fv : V} {c0 c3 c4 c5 : V} {ts fs : List Int} {acc : List It} (gp : H0.get p = some (.cells true [c0, tv, fv, c3, c4, c5])) (ht : Sl H0 tv ts) (hf : Sl H0 fv fs) (he : ts.length = fs.length) (hl : ts.length ≤ 100000) (ha : acc.length ≤ 1000000) (st : Hp H0 H (own w acc :: L))
    (R : Out → Heap → Prop) (hR : ∀ w' H', Hp H0 H' (own w' (acc ++ tfS (ts.zip fs)) :: L) → R (.brk 0 [ptr p 0, w']) H') : wp (loopM FUEL ref13_Items_l2 [ptr p 0, w, i64 0]) R H := by
  have hzl : (ts.zip fs).length = ts.length := by rw [List.length_zip]; omega
  refine wp_loop (Inv := fun k vs H' => ∃ (j : Nat) (w' : V), k = ts.length - j ∧ j ≤ ts.length ∧ vs = [ptr p 0, w', i64 j] ∧ Hp H0 H' (own w' (acc ++ tfS ((ts.zip fs).take j)) :: L)) (n := ts.length) (by unfold FUEL; omega)
    ⟨0, w, by omega, by omega, rfl, by simpa [tfS] using st⟩ ?_
  rintro k vs H1 ⟨j, w1, hk, hj, rfl, s1⟩
  have g1 := s1.keeps.get gp (by simp)
  have lt := ht.len
  by_cases hlt : j < ts.length
  case neg =>
    have : j = ts.length := by omega
    subst this
    rw [← hzl, List.take_length] at s1
    (try simp (maxSteps := 1000000) (disch := first | omega | (simp only [Z3]; omega) | (simp; done) | assumption | decide | (refine not_not_intro ?_; assumption)) only [Z1, Z2, splice, ref13_Items_l2, g1, lt])
    exact hR _ _ s1
  have hlt2 : j < fs.length := by omega
  have v1 := s1.ro ht
  have v2 := s1.ro hf
  have a1 := v1.addr1 rfl (k := .i64) (i := j) (by omega) (by omega)
  rw [Int.toNat_natCast] at a1
  have d1 := v1.cell1 rfl hlt 0
  have a2 := v2.addr1 rfl (k := .i64) (i := j) (by omega) (by omega)
  rw [Int.toNat_natCast] at a2
  have d2 := v2.cell1 rfl hlt2 0
  have k1f : ∀ H', Keeps [] H1 H' → cellP H' (ptr (slB fv) (slO fv + j)) = some (i64 (fs.getD j 0)) := fun H' k => by
    have := (v2.keep0 k).cell1 rfl hlt2 0
    exact this
  have cf := chk_slc hf
  have hst := tfS_take (l := ts.zip fs) (j := j) (by omega)
  rw [zip_getD hlt hlt2] at hst
  have htl : (tfS ((ts.zip fs).take j)).length ≤ 200000 := by rw [tfS_length, List.length_take]; omega
  rw [cellP_get] at d1 d2
  generalize ts.getD j 0 = t at *
  generalize fs.getD j 0 = f at *
  (try simp (maxSteps := 1000000) (disch := first | omega | (simp only [Z3]; omega) | (simp; done) | assumption | decide | (refine not_not_intro ?_; assumption)) only [Z1, Z2, splice, ref13_Items_l2, ref13_Items_k1, a1, d1, a2, d2, g1, lt])
  refine rnum_ok _ _ fun H2 k2 => ?_
  have s2 := s1.keep0 k2
  have g2 := k2.get g1 (by simp)
  have c2 := k1f _ k2
  rw [cellP_get] at c2
  (try simp (maxSteps := 1000000) (disch := first | omega | (simp only [Z3]; omega) | (simp; done) | assumption | decide | (refine not_not_intro ?_; assumption)) only [Z1, Z2, splice])
  refine (wp_bslc (by rfl) (cs := encs [numC t, numC f]) (by rfl)).mpr ?_
  have s3 := s2.newo (n := 3) (m := 2) [numC t, numC f] rfl rfl
  generalize H2.push (some (.cells true (encs [numC t, numC f]))) = H3 at *
  (try simp (maxSteps := 1000000) (disch := first | omega | (simp only [Z3]; omega) | (simp; done) | assumption | decide | (refine not_not_intro ?_; assumption)) only [Z1, Z2, splice])
  refine st_appV s3 (i := 1) rfl rfl (s3.own (i := 0) rfl).sl (by rw [List.length_append]; simp; omega) (by rw [List.length_append]; simp; omega) fun w4 H4 s4 => ?_
  (try simp (maxSteps := 1000000) (disch := first | omega | (simp only [Z3]; omega) | (simp; done) | assumption | decide | (refine not_not_intro ?_; assumption)) only [Z1, Z2, splice, g2, cf, c2, ref13_Items_k0])
  refine ⟨ts.length - (j + 1), by omega, j + 1, w4, rfl, by omega, by push_cast; rfl, ?_⟩
  rw [hst, ← List.append_assoc]
  exact s4.tail
theorem riloop_ok {H0 H : Heap} {L : List Thing} {p : Nat} {w xv : V} {c0 c1 c2 c3 c5 : V} {xs : List Int} {acc : List It} (gp : H0.get p = some (.cells true [c0, c1, c2, xv, c3, c5])) (hx : Sl H0 xv xs) (hl : xs.length ≤ 100000) (ha : acc.length ≤ 1000000) (st : Hp H0 H (own w acc :: L))
    (R : Out → Heap → Prop) (hR : ∀ w' H', Hp H0 H' (own w' (acc ++ xs.map numC) :: L) → R (.brk 2 [ptr p 0, w']) H') : wp (loopM FUEL ref13_Items_l5 [ptr p 0, w, i64 0]) R H := by
  refine wp_loop (Inv := fun k vs H' => ∃ (j : Nat) (w' : V), k = xs.length - j ∧ j ≤ xs.length ∧ vs = [ptr p 0, w', i64 j] ∧ Hp H0 H' (own w' (acc ++ (xs.take j).map numC) :: L)) (n := xs.length) (by unfold FUEL; omega)
    ⟨0, w, by omega, by omega, rfl, by simpa using st⟩ ?_
  rintro k vs H1 ⟨j, w1, hk, hj, rfl, s1⟩
  have g1 := s1.keeps.get gp (by simp)
  have lt := hx.len
  by_cases hlt : j < xs.length
  case neg =>
    have : j = xs.length := by omega
    subst this
    rw [List.take_length] at s1
    (try simp (maxSteps := 1000000) (disch := first | omega | (simp only [Z3]; omega) | (simp; done) | assumption | decide | (refine not_not_intro ?_; assumption)) only [Z1, Z2, splice, ref13_Items_l5, g1, lt])
    exact hR _ _ s1
  have v1 := s1.ro hx
  have a1 := v1.addr1 rfl (k := .i64) (i := j) (by omega) (by omega)
  rw [Int.toNat_natCast] at a1
  have d1 := v1.cell1 rfl hlt 0
  have hst := take_succ_getD hlt 0
  have htl : ((xs.take j).map numC).length ≤ 100000 := by rw [List.length_map, List.length_take]; omega
  rw [cellP_get] at d1
  generalize xs.getD j 0 = t at *
  (try simp (maxSteps := 1000000) (disch := first | omega | (simp only [Z3]; omega) | (simp; done) | assumption | decide | (refine not_not_intro ?_; assumption)) only [Z1, Z2, splice, ref13_Items_l5, ref13_Items_k4, a1, d1, g1, lt])
  refine rnum_ok _ _ fun H2 k2 => ?_
  have s2 := s1.keep0 k2
  (try simp (maxSteps := 1000000) (disch := first | omega | (simp only [Z3]; omega) | (simp; done) | assumption | decide | (refine not_not_intro ?_; assumption)) only [Z1, Z2, splice])
  refine (wp_bslc (by rfl) (cs := encs [numC t]) (by rfl)).mpr ?_
  have s3 := s2.newo (n := 3) (m := 1) [numC t] rfl rfl
  generalize H2.push (some (.cells true (encs [numC t]))) = H3 at *
  (try simp (maxSteps := 1000000) (disch := first | omega | (simp only [Z3]; omega) | (simp; done) | assumption | decide | (refine not_not_intro ?_; assumption)) only [Z1, Z2, splice])
  refine st_appV s3 (i := 1) rfl rfl (s3.own (i := 0) rfl).sl (by rw [List.length_append, List.length_singleton]; omega) (by rw [List.length_append, List.length_singleton]; omega) fun w4 H4 s4 => ?_
  (try simp (maxSteps := 1000000) (disch := first | omega | (simp only [Z3]; omega) | (simp; done) | assumption | decide | (refine not_not_intro ?_; assumption)) only [Z1, Z2, splice, ref13_Items_k3])
  refine ⟨xs.length - (j + 1), by omega, j + 1, w4, rfl, by omega, by push_cast; rfl, ?_⟩
  rw [hst, List.map_append, ← List.append_assoc]
  exact s4.tail
theorem roloop_ok {H0 H : Heap} {L : List Thing} {p : Nat} {w xv : V} {c0 c1 c2 c3 c5 : V} {xs : List Int} {acc : List It} (gp : H0.get p = some (.cells true [c0, c1, c2, c3, xv, c5])) (hx : Sl H0 xv xs) (hl : xs.length ≤ 100000) (ha : acc.length ≤ 1000000) (st : Hp H0 H (own w acc :: L))
    (R : Out → Heap → Prop) (hR : ∀ w' H', Hp H0 H' (own w' (acc ++ xs.map numC) :: L) → R (.brk 4 [ptr p 0, w']) H') : wp (loopM FUEL ref13_Items_l8 [ptr p 0, w, i64 0]) R H := by
  refine wp_loop (Inv := fun k vs H' => ∃ (j : Nat) (w' : V), k = xs.length - j ∧ j ≤ xs.length ∧ vs = [ptr p 0, w', i64 j] ∧ Hp H0 H' (own w' (acc ++ (xs.take j).map numC) :: L)) (n := xs.length) (by unfold FUEL; omega)
    ⟨0, w, by omega, by omega, rfl, by simpa using st⟩ ?_
  rintro k vs H1 ⟨j, w1, hk, hj, rfl, s1⟩
  have g1 := s1.keeps.get gp (by simp)
  have lt := hx.len
  by_cases hlt : j < xs.length
  case neg =>
    have : j = xs.length := by omega
    subst this
    rw [List.take_length] at s1
    (try simp (maxSteps := 1000000) (disch := first | omega | (simp only [Z3]; omega) | (simp; done) | assumption | decide | (refine not_not_intro ?_; assumption)) only [Z1, Z2, splice, ref13_Items_l8, g1, lt])
    exact hR _ _ s1
  have v1 := s1.ro hx
  have a1 := v1.addr1 rfl (k := .i64) (i := j) (by omega) (by omega)
  rw [Int.toNat_natCast] at a1
  have d1 := v1.cell1 rfl hlt 0
  have hst := take_succ_getD hlt 0
  have htl : ((xs.take j).map numC).length ≤ 100000 := by rw [List.length_map, List.length_take]; omega
  rw [cellP_get] at d1
  generalize xs.getD j 0 = t at *
  (try simp (maxSteps := 1000000) (disch := first | omega | (simp only [Z3]; omega) | (simp; done) | assumption | decide | (refine not_not_intro ?_; assumption)) only [Z1, Z2, splice, ref13_Items_l8, ref13_Items_k7, a1, d1, g1, lt])
  refine rnum_ok _ _ fun H2 k2 => ?_
  have s2 := s1.keep0 k2
  (try simp (maxSteps := 1000000) (disch := first | omega | (simp only [Z3]; omega) | (simp; done) | assumption | decide | (refine not_not_intro ?_; assumption)) only [Z1, Z2, splice])
  refine (wp_bslc (by rfl) (cs := encs [numC t]) (by rfl)).mpr ?_
  have s3 := s2.newo (n := 3) (m := 1) [numC t] rfl rfl
  generalize H2.push (some (.cells true (encs [numC t]))) = H3 at *
  (try simp (maxSteps := 1000000) (disch := first | omega | (simp only [Z3]; omega) | (simp; done) | assumption | decide | (refine not_not_intro ?_; assumption)) only [Z1, Z2, splice])
  refine st_appV s3 (i := 1) rfl rfl (s3.own (i := 0) rfl).sl (by rw [List.length_append, List.length_singleton]; omega) (by rw [List.length_append, List.length_singleton]; omega) fun w4 H4 s4 => ?_
  (try simp (maxSteps := 1000000) (disch := first | omega | (simp only [Z3]; omega) | (simp; done) | assumption | decide | (refine not_not_intro ?_; assumption)) only [Z1, Z2, splice, ref13_Items_k6])
  refine ⟨xs.length - (j + 1), by omega, j + 1, w4, rfl, by omega, by push_cast; rfl, ?_⟩
  rw [hst, List.map_append, ← List.append_assoc]
  exact s4.tail
theorem rnloop_ok {H0 H : Heap} {L : List Thing} {r : Nat} {pv lv w n3 : V} {bs : List (BitVec 8)} {i : Ins} (st : Hp H0 H (own w bs :: cel r (Flat.enc i) :: L)) (hb : bs.length ≤ 10000000)
    (R : Out → Heap → Prop) (hR : ∀ w' H', Hp H0 H' (own w' (bs ++ nB i.n 6) :: cel r (Flat.enc i) :: L) → R (.brk 8 [pv, lv, w', n3]) H') : wp (loopM FUEL ref13_Items_l11 [pv, lv, w, n3, ptr r 0, i64 5]) R H := by
  refine wp_loop (Inv := fun k vs H' => ∃ (j : Nat) (w' : V), k = 6 - j ∧ j ≤ 6 ∧ vs = [pv, lv, w', n3, ptr r 0, i64 (5 - (j : Int))] ∧ Hp H0 H' (own w' (bs ++ nB i.n j) :: cel r (Flat.enc i) :: L)) (n := 6) (by unfold FUEL; omega)
    ⟨0, w, by omega, by omega, rfl, by simpa [nB] using st⟩ ?_
  rintro k vs H1 ⟨j, w1, hk, hj, rfl, s1⟩
  by_cases h6 : j = 6
  · subst h6
    have e : decide ((5 : Int) - ((6 : Nat) : Int) ≥ 0) = false := by decide
    (try simp (maxSteps := 1000000) (disch := first | omega | (simp only [Z3]; omega) | (simp; done) | assumption | decide | (refine not_not_intro ?_; assumption)) only [Z1, Z2, splice, ref13_Items_l11, e])
    exact hR _ _ s1
  have hge : (5 : Int) - (j : Int) ≥ 0 := by omega
  have g1 := s1.get (i := 1) rfl
  rw [enc_ins] at g1
  have e8 : (8 * (5 - (j : Int))).toNat = 40 - 8 * j := by omega
  have hsh := w64_shr (BitVec.ofInt 64 i.n) (8 * (5 - (j : Int))) (by omega)
  rw [e8] at hsh
  (try simp (maxSteps := 1000000) (disch := first | omega | (simp only [Z3]; omega) | (simp; done) | assumption | decide | (refine not_not_intro ?_; assumption)) only [Z1, Z2, splice, ref13_Items_l11, decide_eq_true hge, ref13_Items_k10, g1, i64_w64, hsh, w64_u8, sh_b8 i.n j (by omega)])
  refine (wp_bslc (by rfl) (cs := encs [b8 (i.n / 2 ^ (40 - 8 * j))]) (by rfl)).mpr ?_
  have s2 := s1.newo (n := 1) (m := 1) [b8 (i.n / 2 ^ (40 - 8 * j))] rfl rfl
  generalize H1.push (some (.cells true (encs [b8 (i.n / 2 ^ (40 - 8 * j))]))) = H2 at *
  (try simp (maxSteps := 1000000) (disch := first | omega | (simp only [Z3]; omega) | (simp; done) | assumption | decide | (refine not_not_intro ?_; assumption)) only [Z1, Z2, splice])
  have hnl := nB_length i.n j
  refine st_appV s2 (i := 1) rfl rfl (s2.own (i := 0) rfl).sl (by rw [List.length_append, hnl, List.length_singleton]; omega) (by rw [List.length_append, hnl, List.length_singleton]; omega) fun w3 H3 s3 => ?_
  (try simp (maxSteps := 1000000) (disch := first | omega | (simp only [Z3]; omega) | (simp; done) | assumption | decide | (refine not_not_intro ?_; assumption)) only [Z1, Z2, splice, ref13_Items_k9])
  refine ⟨6 - (j + 1), by omega, j + 1, w3, rfl, by omega, by rw [show (5 : Int) - (((j + 1 : Nat)) : Int) = 5 - (j : Int) - 1 by push_cast; omega], ?_⟩
  rw [nB_succ, ← List.append_assoc]
  exact s3.tail
theorem rcloop_ok {H0 H : Heap} {L : List Thing} {p : Nat} {lv w xv : V} {c0 c1 c2 c3 c4 : V} {l : List Ins} (gp : H0.get p = some (.cells true [c0, c1, c2, c3, c4, xv])) (hx : Sl H0 xv l) (hl : l.length ≤ 100000) (hi : ∀ i ∈ l, okIns i) (st : Hp H0 H (own w ([] : List (BitVec 8)) :: L))
    (R : Out → Heap → Prop) (hR : ∀ w' H', Hp H0 H' (own w' (codeB l) :: L) → R (.brk 6 [lv, w']) H') : wp (loopM FUEL ref13_Items_l14 [ptr p 0, lv, w, i64 0]) R H := by
  refine wp_loop (Inv := fun k vs H' => ∃ (j : Nat) (w' : V), k = l.length - j ∧ j ≤ l.length ∧ vs = [ptr p 0, lv, w', i64 j] ∧ Hp H0 H' (own w' (codeB (l.take j)) :: L)) (n := l.length) (by unfold FUEL; omega)
    ⟨0, w, by omega, by omega, rfl, st⟩ ?_
  rintro k vs H1 ⟨j, w1, hk, hj, rfl, s1⟩
  have g1 := s1.keeps.get gp (by simp)
  have lt := hx.len
  by_cases hlt : j < l.length
  case neg =>
    have : j = l.length := by omega
    subst this
    rw [List.take_length] at s1
    (try simp (maxSteps := 1000000) (disch := first | omega | (simp only [Z3]; omega) | (simp; done) | assumption | decide | (refine not_not_intro ?_; assumption)) only [Z1, Z2, splice, ref13_Items_l14, g1, lt])
    exact hR _ _ s1
  have v1 := s1.ro hx
  have a1 := v1.addr' (n := 4) rfl (k := .i64) (i := j) (by omega) (by omega)
  rw [Int.toNat_natCast] at a1
  have d1 := fun Q => v1.ldn' (Q := Q) (n := 4) rfl hlt default
  have hst := codeB_take hlt
  have hbl : (codeB (l.take j)).length ≤ 2000000 := by rw [codeB_length, List.length_take]; omega
  have hok := hi _ (getD_mem' (d := default) hlt)
  generalize l.getD j default = i at *
  have ho := ins_one i
  (try simp (maxSteps := 1000000) (disch := first | omega | (simp only [Z3]; omega) | (simp; done) | assumption | decide | (refine not_not_intro ?_; assumption)) only [Z1, cellP_get, cellG_cells, wp_st1g, stG_c, eq_self, true_and, wp_stng, stnG_ok, ldG_ok, wp_newcg, wp_boxg, Heap.get_push_eq, Heap.get_push_lt, Heap.get_set_eq, Heap.get_set_ne', Heap.next_push', Heap.next_set', Heap.set_push_lt, Heap.set_push_eq, Heap.set_set, fld1_agg, fldn_agg, ext_tuple, outV_nil, outV_two, outV_three, outV_four, chk_ld1g, chkO_int, chkO_bool, chkO_str, chkO_ptr, chkO_slc, chkO_map, List.set_cons_zero, List.set_cons_succ, List.length_cons, List.length_nil, List.drop_succ_cons, List.drop_zero, List.take_succ_cons, List.take_zero, List.nil_append, List.cons_append, splice, isOne_int, isOne_str, isOne_bool, isOne_slice, isOne_pointer, isOne_map, condM_nf, condM_nef, gd_nef, gdf_nef, pick_nef, build_eq, fillA_nil, fillA_one, fillA_agg, Option.map_some, resv_one, resv_two, freeIn_nil, fillA_slc, fillA_int, fillA_str, fillA_bool, fillA_ptr, fillA_map, ref13_Items_l14, ref13_Items_k13, g1, lt, a1, d1, enc_ins])
  (try simp (maxSteps := 1000000) (disch := first | omega | (simp only [Z3]; omega) | (simp; done) | assumption | decide | (refine not_not_intro ?_; assumption)) only [Z1, Z2, splice])
  have s2 := s1.newc (Flat.enc i)
  rw [enc_ins] at s2
  have g2 := s2.get (i := 0) rfl
  generalize H1.push (some (.cells true [i64 i.op, i64 i.a, i64 i.b, i64 i.n])) = H2 at *
  generalize H1.next = r at *
  (try simp (maxSteps := 1000000) (disch := first | omega | (simp only [Z3]; omega) | (simp; done) | assumption | decide | (refine not_not_intro ?_; assumption)) only [Z1, Z2, splice, g2, cvi_b8, q256 hok.2.1, r256 hok.2.1, q256 hok.2.2.1, r256 hok.2.2.1, b8_mod])
  refine (wp_bslc (by rfl) (cs := encs [b8 i.op, b8 (i.a / 256), b8 i.a, b8 (i.b / 256), b8 i.b]) (by rfl)).mpr ?_
  have s3 := s2.newo (n := 1) (m := 5) [b8 i.op, b8 (i.a / 256), b8 i.a, b8 (i.b / 256), b8 i.b] rfl rfl
  generalize H2.push (some (.cells true (encs [b8 i.op, b8 (i.a / 256), b8 i.a, b8 (i.b / 256), b8 i.b]))) = H3 at *
  have h5 : ([b8 i.op, b8 (i.a / 256), b8 i.a, b8 (i.b / 256), b8 i.b] : List (BitVec 8)).length = 5 := rfl
  (try simp (maxSteps := 1000000) (disch := first | omega | (simp only [Z3]; omega) | (simp; done) | assumption | decide | (refine not_not_intro ?_; assumption)) only [Z1, Z2, splice])
  refine st_appV s3 (i := 2) rfl rfl (s3.own (i := 0) rfl).sl (by rw [h5]; omega) (by rw [h5]; omega) fun w4 H4 s4 => ?_
  have s5 := s4.tail.perm (List.Perm.swap _ _ _)
  (try simp (maxSteps := 1000000) (disch := first | omega | (simp only [Z3]; omega) | (simp; done) | assumption | decide | (refine not_not_intro ?_; assumption)) only [Z1, Z2, splice])
  refine rnloop_ok s5 (by rw [List.length_append, h5]; omega) _ fun w6 H6 s6 => ?_
  (try simp (maxSteps := 1000000) (disch := first | omega | (simp only [Z3]; omega) | (simp; done) | assumption | decide | (refine not_not_intro ?_; assumption)) only [Z1, Z2, splice, ref13_Items_k12])
  refine ⟨l.length - (j + 1), by omega, j + 1, w6, rfl, by omega, by push_cast; rfl, ?_⟩
  rw [hst, insB, ← List.append_assoc]
  exact (s6.perm (List.Perm.swap _ _ _)).tail
theorem ritems_ok {H : Heap} {x : Im} (h : ImAt H x) (hck : (checkS x.p).2 = 0) (Q : V → Heap → Prop) (hQ : ∀ w H', Keeps [] H H' → Sl H' w (itemsS x.p) → Q w H') : wp (A_ref13_Items [.agg (Flat.enc x).toArray]) Q H := by
  show wp (F_ref13_Items (.agg (Flat.enc x).toArray)) Q H
  have ho := im_one x
  obtain ⟨r1, r2, r3, r4, r5, _⟩ := sound_raw hck
  have hs5 : x.code.xs.length ≤ 4096 := (check_zero.1 hck).1.2.2.2.2.1
  have r1 : x.types.xs.length = x.first.xs.length := r1
  have r2 : x.types.xs.length ≤ 1024 := r2
  have r3 : x.ins.xs.length ≤ 1024 := r3
  have r4 : x.outs.xs.length ≤ 1024 := r4
  have r5 : ∀ i ∈ x.code.xs, okIns i := r5
  have lt := h.types.len
  have li := h.ins.len
  have lu := h.outs.len
  unfold F_ref13_Items
  rw [wp_bnd, wp_bnd, enc_im]
  refine (wp_boxg ho).mpr ?_
  have k1 : Keeps [] H (H.push (some (.cells true [.string x.name, x.types.v, x.first.v, x.ins.v, x.outs.v, x.code.v]))) := Keeps.push _ _ _
  have g1 : (H.push (some (.cells true [.string x.name, x.types.v, x.first.v, x.ins.v, x.outs.v, x.code.v]))).get H.next = some (.cells true [.string x.name, x.types.v, x.first.v, x.ins.v, x.outs.v, x.code.v]) := Heap.get_push_self _ _
  generalize H.push (some (.cells true [.string x.name, x.types.v, x.first.v, x.ins.v, x.outs.v, x.code.v])) = H1 at *
  generalize hpp : H.next = p at *
  have h1 := h.keep0 k1
  (try simp (maxSteps := 1000000) (disch := first | omega | (simp only [Z3]; omega) | (simp; done) | assumption | decide | (refine not_not_intro ?_; assumption)) only [Z1, Z2, splice, g1, lt])
  refine rnum_ok _ _ fun H2 k2 => ?_
  have g2 := k2.get g1 (by simp)
  (try simp (maxSteps := 1000000) (disch := first | omega | (simp only [Z3]; omega) | (simp; done) | assumption | decide | (refine not_not_intro ?_; assumption)) only [Z1, Z2, splice])
  refine (wp_bslc (by rfl) (cs := encs [(⟨true, 0, x.name⟩ : It), numC x.types.xs.length]) (by rfl)).mpr ?_
  have s3 := ((Hp.start H1).keep0 k2).newo (n := 3) (m := 2) [(⟨true, 0, x.name⟩ : It), numC x.types.xs.length] rfl rfl
  generalize H2.push (some (.cells true (encs [(⟨true, 0, x.name⟩ : It), numC x.types.xs.length]))) = H3 at *
  (try simp (maxSteps := 1000000) (disch := first | omega | (simp only [Z3]; omega) | (simp; done) | assumption | decide | (refine not_not_intro ?_; assumption)) only [Z1, Z2, splice, g2])
  refine rtloop_ok g1 h1.types h1.first r1 (by omega) (by simp) s3 _ fun w4 H4 s4 => ?_
  have g4 := s4.keeps.get g1 (by simp)
  have htl : (tfS (x.types.xs.zip x.first.xs)).length ≤ 2048 := by rw [tfS_length, List.length_zip]; omega
  (try simp (maxSteps := 1000000) (disch := first | omega | (simp only [Z3]; omega) | (simp; done) | assumption | decide | (refine not_not_intro ?_; assumption)) only [Z1, Z2, splice, ref13_Items_k18, g4, li])
  refine rnum_ok _ _ fun H5 k5 => ?_
  have s5 := s4.keep0 k5
  (try simp (maxSteps := 1000000) (disch := first | omega | (simp only [Z3]; omega) | (simp; done) | assumption | decide | (refine not_not_intro ?_; assumption)) only [Z1, Z2, splice])
  refine (wp_bslc (by rfl) (cs := encs [numC x.ins.xs.length]) (by rfl)).mpr ?_
  have s6 := s5.newo (n := 3) (m := 1) [numC x.ins.xs.length] rfl rfl
  generalize H5.push (some (.cells true (encs [numC x.ins.xs.length]))) = H6 at *
  (try simp (maxSteps := 1000000) (disch := first | omega | (simp only [Z3]; omega) | (simp; done) | assumption | decide | (refine not_not_intro ?_; assumption)) only [Z1, Z2, splice])
  refine st_appV s6 (i := 1) rfl rfl (s6.own (i := 0) rfl).sl (by simp only [List.length_append, List.length_cons, List.length_nil]; omega) (by simp only [List.length_append, List.length_cons, List.length_nil]; omega) fun w7 H7 s7 => ?_
  (try simp (maxSteps := 1000000) (disch := first | omega | (simp only [Z3]; omega) | (simp; done) | assumption | decide | (refine not_not_intro ?_; assumption)) only [Z1, Z2, splice])
  refine riloop_ok g1 h1.ins (by omega) (by simp only [List.length_append, List.length_cons, List.length_nil]; omega) s7.tail _ fun w8 H8 s8 => ?_
  have g8 := s8.keeps.get g1 (by simp)
  (try simp (maxSteps := 1000000) (disch := first | omega | (simp only [Z3]; omega) | (simp; done) | assumption | decide | (refine not_not_intro ?_; assumption)) only [Z1, Z2, splice, ref13_Items_k17, g8, lu])
  refine rnum_ok _ _ fun H9 k9 => ?_
  have s9 := s8.keep0 k9
  (try simp (maxSteps := 1000000) (disch := first | omega | (simp only [Z3]; omega) | (simp; done) | assumption | decide | (refine not_not_intro ?_; assumption)) only [Z1, Z2, splice])
  refine (wp_bslc (by rfl) (cs := encs [numC x.outs.xs.length]) (by rfl)).mpr ?_
  have s10 := s9.newo (n := 3) (m := 1) [numC x.outs.xs.length] rfl rfl
  generalize H9.push (some (.cells true (encs [numC x.outs.xs.length]))) = H10 at *
  (try simp (maxSteps := 1000000) (disch := first | omega | (simp only [Z3]; omega) | (simp; done) | assumption | decide | (refine not_not_intro ?_; assumption)) only [Z1, Z2, splice])
  refine st_appV s10 (i := 1) rfl rfl (s10.own (i := 0) rfl).sl (by simp only [List.length_append, List.length_cons, List.length_nil, List.length_map]; omega) (by simp only [List.length_append, List.length_cons, List.length_nil, List.length_map]; omega) fun w11 H11 s11 => ?_
  (try simp (maxSteps := 1000000) (disch := first | omega | (simp only [Z3]; omega) | (simp; done) | assumption | decide | (refine not_not_intro ?_; assumption)) only [Z1, Z2, splice])
  refine roloop_ok g1 h1.outs (by omega) (by simp only [List.length_append, List.length_cons, List.length_nil, List.length_map]; omega) s11.tail _ fun w12 H12 s12 => ?_
  (try simp (maxSteps := 1000000) (disch := first | omega | (simp only [Z3]; omega) | (simp; done) | assumption | decide | (refine not_not_intro ?_; assumption)) only [Z1, Z2, splice, ref13_Items_k16])
  refine rcloop_ok g1 h1.code (by omega) r5 s12.nilo _ fun w13 H13 s13 => ?_
  (try simp (maxSteps := 1000000) (disch := first | omega | (simp only [Z3]; omega) | (simp; done) | assumption | decide | (refine not_not_intro ?_; assumption)) only [Z1, Z2, splice, ref13_Items_k15])
  refine ownF_b2s (s13.own (i := 0) rfl) ?_
  (try simp (maxSteps := 1000000) (disch := first | omega | (simp only [Z3]; omega) | (simp; done) | assumption | decide | (refine not_not_intro ?_; assumption)) only [Z1, Z2, splice])
  refine (wp_bslc (by rfl) (cs := encs [(⟨true, 0, sv (codeB x.code.xs)⟩ : It)]) (by rfl)).mpr ?_
  have s14 := s13.newo (n := 3) (m := 1) [(⟨true, 0, sv (codeB x.code.xs)⟩ : It)] rfl rfl
  generalize H13.push (some (.cells true (encs [(⟨true, 0, sv (codeB x.code.xs)⟩ : It)]))) = H14 at *
  (try simp (maxSteps := 1000000) (disch := first | omega | (simp only [Z3]; omega) | (simp; done) | assumption | decide | (refine not_not_intro ?_; assumption)) only [Z1, Z2, splice])
  refine st_appV s14 (i := 2) rfl rfl (s14.own (i := 0) rfl).sl (by simp only [List.length_append, List.length_cons, List.length_nil, List.length_map]; omega) (by simp only [List.length_append, List.length_cons, List.length_nil, List.length_map]; omega) fun w15 H15 s15 => ?_
  have sl := (s15.own (i := 2) rfl).sl
  have hq := hQ w15 H15 (k1.trans s15.keeps (by simp)) (by
    have e : itemsS x.p = [(⟨true, 0, x.name⟩ : It), numC x.types.xs.length] ++ tfS (x.types.xs.zip x.first.xs) ++ [numC x.ins.xs.length] ++ x.ins.xs.map numC ++ [numC x.outs.xs.length] ++ x.outs.xs.map numC ++ [(⟨true, 0, sv (codeB x.code.xs)⟩ : It)] := by
      unfold itemsS endS
      simp [Im.p]
    rw [e]
    exact sl)
  (try simp (maxSteps := 1000000) (disch := first | omega | (simp only [Z3]; omega) | (simp; done) | assumption | decide | (refine not_not_intro ?_; assumption)) only [Z1, Z2, splice])
  exact hq
theorem rencode_ok {H : Heap} {x : Im} (h : ImAt H x) (hn : x.name.size ≤ 100000000) (hl : x.types.xs.length ≤ 100000000) (hf : x.first.xs.length ≤ 100000000) (hi : x.ins.xs.length ≤ 100000000) (hu : x.outs.xs.length ≤ 100000000) (hc : x.code.xs.length ≤ 100000000)
    (Q : V → Heap → Prop) (hQ : ∀ H', Keeps [] H H' → Q (.tuple #[.string (encodeS x.p).1, i64 (encodeS x.p).2]) H') : wp (A_ref13_Encode [.agg (Flat.enc x).toArray]) Q H := by
  show wp (F_ref13_Encode (.agg (Flat.enc x).toArray)) Q H
  have ho := im_one x
  unfold F_ref13_Encode
  rw [wp_bnd, wp_bnd, enc_im]
  refine (wp_boxg ho).mpr ?_
  have k1 : Keeps [] H (H.push (some (.cells true [.string x.name, x.types.v, x.first.v, x.ins.v, x.outs.v, x.code.v]))) := Keeps.push _ _ _
  have g1 : (H.push (some (.cells true [.string x.name, x.types.v, x.first.v, x.ins.v, x.outs.v, x.code.v]))).get H.next = some (.cells true [.string x.name, x.types.v, x.first.v, x.ins.v, x.outs.v, x.code.v]) := Heap.get_push_self _ _
  generalize H.push (some (.cells true [.string x.name, x.types.v, x.first.v, x.ins.v, x.outs.v, x.code.v])) = H1 at *
  generalize hpp : H.next = p at *
  (try simp (maxSteps := 1000000) (disch := first | omega | (simp only [Z3]; omega) | (simp; done) | assumption | decide | (refine not_not_intro ?_; assumption)) only [Z1, Z2, splice, g1])
  rw [← enc_im]
  refine rcheck_ok (h.keep0 k1) hn hl hf hi hu hc _ fun H2 k2 => ?_
  have k02 := k1.trans k2 (by simp)
  have g2 := k2.get g1 (by simp)
  unfold encodeS at hQ
  rcases check_code x.p with hz | hz
  case inr =>
    rw [if_neg (by rw [hz]; decide)] at hQ
    have hq := hQ H2 k02
    rw [hz]
    (try simp (maxSteps := 1000000) (disch := first | omega | (simp only [Z3]; omega) | (simp; done) | assumption | decide | (refine not_not_intro ?_; assumption)) only [Z1, Z2, splice])
    exact hq
  rw [if_pos hz] at hQ
  rw [hz]
  (try simp (maxSteps := 1000000) (disch := first | omega | (simp only [Z3]; omega) | (simp; done) | assumption | decide | (refine not_not_intro ?_; assumption)) only [Z1, Z2, splice, ref13_Encode_k0, g2])
  rw [← enc_im]
  refine ritems_ok (h.keep0 k02) hz _ fun w H3 k3 sw => ?_
  (try simp (maxSteps := 1000000) (disch := first | omega | (simp only [Z3]; omega) | (simp; done) | assumption | decide | (refine not_not_intro ?_; assumption)) only [Z1, Z2, splice])
  refine renc_ok sw _ fun H4 k4 => ?_
  have hq := hQ H4 ((k02.trans k3 (by simp)).trans k4 (by simp))
  (try simp (maxSteps := 1000000) (disch := first | omega | (simp only [Z3]; omega) | (simp; done) | assumption | decide | (refine not_not_intro ?_; assumption)) only [Z1, Z2, splice])
  exact hq
end Go.AM.Cap
