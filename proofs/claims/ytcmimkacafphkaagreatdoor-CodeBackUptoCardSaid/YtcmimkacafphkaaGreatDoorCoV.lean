import Derived.Test.YtcmimkacafphkaaGreatDoorCoT
import Derived.Test.YtcmimkacafphkaaGreatDoorWiE
import Derived.Test.YtcmimkacafphkaaGreatDoorAmOpenF
set_option linter.all false
/- code: the bytes of instructions -/
set_option maxHeartbeats 8000000
namespace Go.AM.Cap
open Go.AM Go.Proofs

def b8 (n : Int) : BitVec 8 := BitVec.ofInt 8 n
theorem cvi_b8 (n : Int) : cvi .u8 (i64 n) = some (B (b8 n)) := by
  rw [cvi_int, IntKind.wrap_u8]
  show _ = some (Value.int .u8 ((BitVec.ofInt 8 n).toNat : Int))
  rw [BitVec.toNat_ofInt]
  congr 2
  omega
theorem shr_8 (n : Int) : bin .shr (i64 n) (.int .u64 8) = some (i64 (n / 256)) := by
  show some (Value.int .i64 (Int.fdiv n (2 ^ (min (Int.toNat 8) 64)))) = _
  rw [show ((2 : Int) ^ (min (Int.toNat 8) 64)) = 256 from rfl, Int.fdiv_eq_ediv_of_nonneg _ (by omega)]
theorem shr_k (n : Int) (j : Nat) (hj : j ≤ 5) : bin .shr (i64 n) (i64 (40 - 8 * (j : Int))) = some (i64 (n / 2 ^ (40 - 8 * j))) := by
  have e : (40 - 8 * (j : Int)).toNat = 40 - 8 * j := by omega
  have h : bin .shr (i64 n) (i64 (40 - 8 * (j : Int))) = if 40 - 8 * (j : Int) < 0 then none else some (Value.int .i64 (Int.fdiv n (2 ^ (min (40 - 8 * (j : Int)).toNat 64)))) := by
    rcases (show j = 0 ∨ j = 1 ∨ j = 2 ∨ j = 3 ∨ j = 4 ∨ j = 5 by omega) with rfl | rfl | rfl | rfl | rfl | rfl <;> rfl
  rw [h, if_neg (by omega), e, Nat.min_eq_left (by omega), Int.fdiv_eq_ediv_of_nonneg _ (Int.le_of_lt (Int.pow_pos (by omega)))]
def nB (n : Int) (j : Nat) : List (BitVec 8) := (List.range j).map fun i => b8 (n / 2 ^ (40 - 8 * i))
theorem nB_succ (n : Int) (j : Nat) : nB n (j + 1) = nB n j ++ [b8 (n / 2 ^ (40 - 8 * j))] := by
  unfold nB
  rw [List.range_succ, List.map_append]
  rfl
theorem nB_length (n : Int) (j : Nat) : (nB n j).length = j := by simp [nB]
def insB (i : Ins) : List (BitVec 8) := [b8 i.op, b8 (i.a / 256), b8 i.a, b8 (i.b / 256), b8 i.b] ++ nB i.n 6
theorem insB_length (i : Ins) : (insB i).length = 11 := by simp [insB, nB_length]
def codeB (l : List Ins) : List (BitVec 8) := l.flatMap insB
theorem codeB_length (l : List Ins) : (codeB l).length = 11 * l.length := by
  induction l with
  | nil => rfl
  | cons i l ih => simp only [codeB, List.flatMap_cons, List.length_append] at ih ⊢; rw [insB_length, ih]; simp; omega
theorem codeB_take {l : List Ins} {j : Nat} (h : j < l.length) : codeB (l.take (j + 1)) = codeB (l.take j) ++ insB (l.getD j default) := by
  rw [take_succ_getD h default]; simp [codeB]
end Go.AM.Cap

/- code: the loops over instructions -/
set_option maxHeartbeats 8000000
namespace Go.AM.Cap
open Go.AM Go.Proofs

theorem nloop_ok {H0 H : Heap} {L : List Thing} {G C : List V → M V} {r : Nat} {lv w xv n2 n3 : V} {bs : List (BitVec 8)} {i : Ins} (st : Hp H0 H (own w bs :: cel r (Flat.enc i) :: L)) (hb : bs.length ≤ 10000000)
    (R : Out → Heap → Prop) (hR : ∀ w' H', Hp H0 H' (own w' (bs ++ nB i.n 6) :: cel r (Flat.enc i) :: L) → R (.brk 6 [lv, w', xv, n2, n3]) H') : wp (loopM FUEL (code_Encode_l8 G C) [lv, w, ptr r 0, i64 40, xv, n2, n3]) R H := by
  refine wp_loop (Inv := fun k vs H' => ∃ (j : Nat) (w' : V), k = 6 - j ∧ j ≤ 6 ∧ vs = [lv, w', ptr r 0, i64 (40 - 8 * (j : Int)), xv, n2, n3] ∧ Hp H0 H' (own w' (bs ++ nB i.n j) :: cel r (Flat.enc i) :: L)) (n := 6) (by unfold FUEL; omega)
    ⟨0, w, by omega, by omega, rfl, by simpa [nB] using st⟩ ?_
  rintro k vs H1 ⟨j, w1, hk, hj, rfl, s1⟩
  by_cases h6 : j = 6
  · subst h6
    have e : decide ((40 : Int) - 8 * ((6 : Nat) : Int) ≥ 0) = false := by decide
    (try simp (maxSteps := 1000000) (disch := first | omega | (simp only [Z3]; omega) | (simp; done) | assumption | decide | (refine not_not_intro ?_; assumption)) only [Z1, Z2, splice, code_Encode_l8, e])
    exact hR _ _ s1
  have hge : (40 : Int) - 8 * (j : Int) ≥ 0 := by omega
  have g1 := s1.get (i := 1) rfl
  rw [enc_ins] at g1
  (try simp (maxSteps := 1000000) (disch := first | omega | (simp only [Z3]; omega) | (simp; done) | assumption | decide | (refine not_not_intro ?_; assumption)) only [Z1, Z2, splice, code_Encode_l8, decide_eq_true hge, code_Encode_k7, g1, shr_k _ j (by omega), cvi_b8])
  refine (wp_bslc (by rfl) (cs := encs [b8 (i.n / 2 ^ (40 - 8 * j))]) (by rfl)).mpr ?_
  have s2 := s1.newo (n := 1) (m := 1) [b8 (i.n / 2 ^ (40 - 8 * j))] rfl rfl
  generalize H1.push (some (.cells true (encs [b8 (i.n / 2 ^ (40 - 8 * j))]))) = H2 at *
  (try simp (maxSteps := 1000000) (disch := first | omega | (simp only [Z3]; omega) | (simp; done) | assumption | decide | (refine not_not_intro ?_; assumption)) only [Z1, Z2, splice])
  have hnl := nB_length i.n j
  refine st_appV s2 (i := 1) rfl rfl (s2.own (i := 0) rfl).sl (by rw [List.length_append, hnl, List.length_singleton]; omega) (by rw [List.length_append, hnl, List.length_singleton]; omega) fun w3 H3 s3 => ?_
  (try simp (maxSteps := 1000000) (disch := first | omega | (simp only [Z3]; omega) | (simp; done) | assumption | decide | (refine not_not_intro ?_; assumption)) only [Z1, Z2, splice, code_Encode_k6])
  refine ⟨6 - (j + 1), by omega, j + 1, w3, rfl, by omega, by rw [show (40 : Int) - 8 * (((j + 1 : Nat)) : Int) = 40 - 8 * (j : Int) - 8 by push_cast; omega], ?_⟩
  rw [nB_succ, ← List.append_assoc]
  exact s3.tail
theorem cloop_ok {H0 H : Heap} {L : List Thing} {G C : List V → M V} {lv w xv : V} {l : List Ins} (hx : Sl H0 xv l) (hl : l.length ≤ 100000) (st : Hp H0 H (own w ([] : List (BitVec 8)) :: L))
    (R : Out → Heap → Prop) (hR : ∀ w' H', Hp H0 H' (own w' (codeB l) :: L) → R (.brk 4 [lv, w']) H') : wp (loopM FUEL (code_Encode_l11 G C) [lv, w, xv, i64 l.length, i64 0]) R H := by
  refine wp_loop (Inv := fun k vs H' => ∃ (j : Nat) (w' : V), k = l.length - j ∧ j ≤ l.length ∧ vs = [lv, w', xv, i64 l.length, i64 j] ∧ Hp H0 H' (own w' (codeB (l.take j)) :: L)) (n := l.length) (by unfold FUEL; omega)
    ⟨0, w, by omega, by omega, rfl, st⟩ ?_
  rintro k vs H1 ⟨j, w1, hk, hj, rfl, s1⟩
  by_cases hlt : j < l.length
  case neg =>
    have : j = l.length := by omega
    subst this
    rw [List.take_length] at s1
    (try simp (maxSteps := 1000000) (disch := first | omega | (simp only [Z3]; omega) | (simp; done) | assumption | decide | (refine not_not_intro ?_; assumption)) only [Z1, Z2, splice, code_Encode_l11])
    exact hR _ _ s1
  have v1 := s1.ro hx
  have a1 := v1.addr' (n := 4) rfl (k := .i64) (i := j) (by omega) (by omega)
  rw [Int.toNat_natCast] at a1
  have d1 := fun Q => v1.ldn' (Q := Q) (n := 4) rfl hlt default
  have hst := codeB_take hlt
  have hbl : (codeB (l.take j)).length ≤ 2000000 := by rw [codeB_length, List.length_take]; omega
  generalize l.getD j default = i at *
  have ho := ins_one i
  (try simp (maxSteps := 1000000) (disch := first | omega | (simp only [Z3]; omega) | (simp; done) | assumption | decide | (refine not_not_intro ?_; assumption)) only [Z1, cellP_get, cellG_cells, wp_st1g, stG_c, eq_self, true_and, wp_stng, stnG_ok, ldG_ok, wp_newcg, wp_boxg, Heap.get_push_eq, Heap.get_push_lt, Heap.get_set_eq, Heap.get_set_ne', Heap.next_push', Heap.next_set', Heap.set_push_lt, Heap.set_push_eq, Heap.set_set, fld1_agg, fldn_agg, ext_tuple, outV_nil, outV_two, outV_three, outV_four, chk_ld1g, chkO_int, chkO_bool, chkO_str, chkO_ptr, chkO_slc, chkO_map, List.set_cons_zero, List.set_cons_succ, List.length_cons, List.length_nil, List.drop_succ_cons, List.drop_zero, List.take_succ_cons, List.take_zero, List.nil_append, List.cons_append, splice, isOne_int, isOne_str, isOne_bool, isOne_slice, isOne_pointer, isOne_map, condM_nf, condM_nef, gd_nef, gdf_nef, pick_nef, build_eq, fillA_nil, fillA_one, fillA_agg, Option.map_some, resv_one, resv_two, freeIn_nil, fillA_slc, fillA_int, fillA_str, fillA_bool, fillA_ptr, fillA_map, code_Encode_l11, code_Encode_k10, a1, d1, enc_ins])
  (try simp (maxSteps := 1000000) (disch := first | omega | (simp only [Z3]; omega) | (simp; done) | assumption | decide | (refine not_not_intro ?_; assumption)) only [Z1, Z2, splice])
  have s2 := s1.newc (Flat.enc i)
  rw [enc_ins] at s2
  have g2 := s2.get (i := 0) rfl
  generalize H1.push (some (.cells true [i64 i.op, i64 i.a, i64 i.b, i64 i.n])) = H2 at *
  generalize H1.next = r at *
  (try simp (maxSteps := 1000000) (disch := first | omega | (simp only [Z3]; omega) | (simp; done) | assumption | decide | (refine not_not_intro ?_; assumption)) only [Z1, Z2, splice, g2, cvi_b8, shr_8])
  refine (wp_bslc (by rfl) (cs := encs [b8 i.op, b8 (i.a / 256), b8 i.a, b8 (i.b / 256), b8 i.b]) (by rfl)).mpr ?_
  have s3 := s2.newo (n := 1) (m := 5) [b8 i.op, b8 (i.a / 256), b8 i.a, b8 (i.b / 256), b8 i.b] rfl rfl
  generalize H2.push (some (.cells true (encs [b8 i.op, b8 (i.a / 256), b8 i.a, b8 (i.b / 256), b8 i.b]))) = H3 at *
  have h5 : ([b8 i.op, b8 (i.a / 256), b8 i.a, b8 (i.b / 256), b8 i.b] : List (BitVec 8)).length = 5 := rfl
  refine st_appV s3 (i := 2) rfl rfl (s3.own (i := 0) rfl).sl (by rw [h5]; omega) (by rw [h5]; omega) fun w4 H4 s4 => ?_
  have s5 := s4.tail.perm (List.Perm.swap _ _ _)
  refine nloop_ok s5 (by rw [List.length_append, h5]; omega) _ fun w6 H6 s6 => ?_
  (try simp (maxSteps := 1000000) (disch := first | omega | (simp only [Z3]; omega) | (simp; done) | assumption | decide | (refine not_not_intro ?_; assumption)) only [Z1, Z2, splice, code_Encode_k9])
  refine ⟨l.length - (j + 1), by omega, j + 1, w6, rfl, by omega, by push_cast; rfl, ?_⟩
  rw [hst, insB, ← List.append_assoc]
  exact (s6.perm (List.Perm.swap _ _ _)).tail
end Go.AM.Cap
