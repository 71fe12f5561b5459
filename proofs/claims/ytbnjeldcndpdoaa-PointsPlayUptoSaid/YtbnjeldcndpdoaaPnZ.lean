import Derived.Test.YtbnjeldcndpdoaaPnY
import Derived.Test.YtbnjeldcndpdoaaPnL
import Derived.Test.YtbnjeldcndpdoaaPnForL
import Derived.Test.YtbnjeldcndpdoaaAmMap
set_option linter.all false
/- points: PointsPlay on the machine -/
set_option maxHeartbeats 8000000
namespace Go.AM.Cap
open Go.AM Go.Proofs

/-- what marks values that came out: the block is not looked at again -/
def spoilF (args : List V) : M V := fun H => match args with
  | [.slice none 0 0, .int .i64 _] => some (undef, H)
  | [.slice (some ⟨b, 0, some 1⟩) n c, .int .i64 _] => if n = c then (match H.get b with
    | some (.cells true _) => some (undef, H.set b none)
    | _ => none) else none
  | _ => none
theorem spoil_ok {H : Heap} {v : V} {l : List V} (h : Own H v l) (m : Int) (Q : V → Heap → Prop) (hQ : ∀ H', Keeps (_root_.Go.AM.vb v) H H' → Q undef H') : wp (spoilF [v, i64 m]) Q H := by
  rcases h with ⟨rfl, _⟩ | ⟨b, rfl, hg⟩
  · exact ⟨_, _, rfl, hQ _ (Keeps.refl _ _)⟩
  · refine ⟨undef, H.set b none, ?_, hQ _ (keeps_set (Keeps.refl _ _) (.inl (by simp)))⟩
    unfold spoilF
    simp only [if_pos, hg]
theorem chk_slG {α : Type} [Flat α] {H : Heap} {v : V} {xs : List α} (h : Sl H v xs) : chkO (some v) v = true := by
  rcases h with ⟨rfl, _⟩ | ⟨b, o, u, c, rfl, _⟩ <;> simp [chkO, vEq]
section
variable {H : Heap} {GF GS : List V → M V}
/-- the points that went in are written over -/
theorem over_l {lw av gw bv rv : V} {ls : List Pt} (hl : OwnF H lw ls) (hn : ls.length ≤ 2000000) (Q : Out → Heap → Prop) (hQ : ∀ H', Keeps (_root_.Go.AM.vb lw) H H' → Q (.brk 0 [av, gw, bv, rv]) H') :
    wp (loopM FUEL (law19_PointsPlay_l2 GD GF GS) [av, lw, gw, bv, rv, i64 0]) Q H := by
  have hll := hl.len
  rcases hl with ⟨rfl, rfl⟩ | ⟨b, rfl, hg⟩
  · refine wp_loop (Inv := fun k vs H' => k = 0 ∧ vs = [av, .slice none 0 0, gw, bv, rv, i64 0] ∧ H' = H) (n := 0) (by unfold FUEL; omega) ⟨rfl, rfl, rfl⟩ ?_
    rintro k vs H' ⟨rfl, rfl, rfl⟩
    (try simp (maxSteps := 1000000) (disch := first | omega | (simp only [Z3]; omega) | (simp; done) | assumption | decide | (refine not_not_intro ?_; assumption)) only [Z1, Z2, splice, law19_PointsPlay_l2, hll])
    exact hQ _ (Keeps.refl _ _)
  have hel := encs_length ls
  rw [show Flat.size Pt = 2 from rfl] at hel hll ⊢
  refine wp_loop (Inv := fun k vs H' => ∃ (i : Nat) (cs : List V), k = ls.length - i ∧ i ≤ ls.length ∧ vs = [av, slc b 0 2 ls.length ls.length, gw, bv, rv, i64 i] ∧ H'.get b = some (.cells true cs) ∧ cs.length = ls.length * 2 ∧ Keeps [b] H H') (n := ls.length) (by unfold FUEL; omega)
    ⟨0, _, by omega, by omega, rfl, hg, hel, Keeps.refl _ _⟩ ?_
  rintro k vs H' ⟨i, cs, hk, hi, rfl, hg', hcl, kk⟩
  by_cases h : i < ls.length
  case neg =>
    (try simp (maxSteps := 1000000) (disch := first | omega | (simp only [Z3]; omega) | (simp; done) | assumption | decide | (refine not_not_intro ?_; assumption)) only [Z1, Z2, splice, law19_PointsPlay_l2, hll])
    exact hQ _ (by simpa using kk)
  (try simp (maxSteps := 1000000) (disch := first | omega | (simp only [Z3]; omega) | (simp; done) | assumption | decide | (refine not_not_intro ?_; assumption)) only [Z1, Z2, splice, law19_PointsPlay_l2, hll, law19_PointsPlay_k1, iaddrS_slc, Int.toNat_natCast])
  rw [hg', stnG_ok (by rfl) (by rfl) (by omega)]
  (try simp (maxSteps := 1000000) (disch := first | omega | (simp only [Z3]; omega) | (simp; done) | assumption | decide | (refine not_not_intro ?_; assumption)) only [Z1, Z2, splice, law19_PointsPlay_k0])
  exact ⟨ls.length - (i + 1), by omega, i + 1, splice cs (i * 2) [i64 (-9), .bool false], rfl, by omega, rfl, Heap.get_set_self (Heap.get_lt hg'), by rw [splice_length _ _ _ (by simp; omega)]; exact hcl, kk.trans (keeps_set (Keeps.refl _ _) (.inl (by simp))) (fun _ _ h => h)⟩
theorem over_g {gw av bv rv : V} {gs : List Gr} (hl : OwnF H gw gs) (hn : gs.length ≤ 2000000) (Q : Out → Heap → Prop) (hQ : ∀ H', Keeps (_root_.Go.AM.vb gw) H H' → Q (.brk 2 [av, bv, rv]) H') :
    wp (loopM FUEL (law19_PointsPlay_l5 GD GF GS) [av, gw, bv, rv, i64 0]) Q H := by
  have hll := hl.len
  rcases hl with ⟨rfl, rfl⟩ | ⟨b, rfl, hg⟩
  · refine wp_loop (Inv := fun k vs H' => k = 0 ∧ vs = [av, .slice none 0 0, bv, rv, i64 0] ∧ H' = H) (n := 0) (by unfold FUEL; omega) ⟨rfl, rfl, rfl⟩ ?_
    rintro k vs H' ⟨rfl, rfl, rfl⟩
    (try simp (maxSteps := 1000000) (disch := first | omega | (simp only [Z3]; omega) | (simp; done) | assumption | decide | (refine not_not_intro ?_; assumption)) only [Z1, Z2, splice, law19_PointsPlay_l5, hll])
    exact hQ _ (Keeps.refl _ _)
  have hel := encs_length gs
  rw [show Flat.size Gr = 3 from rfl] at hel hll ⊢
  refine wp_loop (Inv := fun k vs H' => ∃ (i : Nat) (cs : List V), k = gs.length - i ∧ i ≤ gs.length ∧ vs = [av, slc b 0 3 gs.length gs.length, bv, rv, i64 i] ∧ H'.get b = some (.cells true cs) ∧ cs.length = gs.length * 3 ∧ Keeps [b] H H') (n := gs.length) (by unfold FUEL; omega)
    ⟨0, _, by omega, by omega, rfl, hg, hel, Keeps.refl _ _⟩ ?_
  rintro k vs H' ⟨i, cs, hk, hi, rfl, hg', hcl, kk⟩
  by_cases h : i < gs.length
  case neg =>
    (try simp (maxSteps := 1000000) (disch := first | omega | (simp only [Z3]; omega) | (simp; done) | assumption | decide | (refine not_not_intro ?_; assumption)) only [Z1, Z2, splice, law19_PointsPlay_l5, hll])
    exact hQ _ (by simpa using kk)
  (try simp (maxSteps := 1000000) (disch := first | omega | (simp only [Z3]; omega) | (simp; done) | assumption | decide | (refine not_not_intro ?_; assumption)) only [Z1, Z2, splice, law19_PointsPlay_l5, hll, law19_PointsPlay_k4, iaddrS_slc, Int.toNat_natCast])
  rw [hg', stnG_ok (by rfl) (by rfl) (by omega)]
  (try simp (maxSteps := 1000000) (disch := first | omega | (simp only [Z3]; omega) | (simp; done) | assumption | decide | (refine not_not_intro ?_; assumption)) only [Z1, Z2, splice, law19_PointsPlay_k3])
  exact ⟨gs.length - (i + 1), by omega, i + 1, splice cs (i * 3) [i64 (-9), i64 0, .bool false], rfl, by omega, rfl, Heap.get_set_self (Heap.get_lt hg'), by rw [splice_length _ _ _ (by simp; omega)]; exact hcl, kk.trans (keeps_set (Keeps.refl _ _) (.inl (by simp))) (fun _ _ h => h)⟩
end
theorem encs_i64 : ∀ l : List Int, encs l = l.map i64
  | [] => rfl
  | n :: l => by rw [encs_cons, encs_i64 l]; rfl
theorem own_sl {H : Heap} {v : V} {l : List Int} (h : Own H v (l.map i64)) : Sl H v l := Own.sl rfl (by rw [encs_i64]; exact h)
theorem sameInts_ok {H : Heap} {v1 v2 : V} {l1 l2 : List Int} (h1 : Sl H v1 l1) (h2 : Sl H v2 l2) (hn : l1.length ≤ 2000000) (Q : V → Heap → Prop) (hQ : Q (.bool (decide (l1 = l2))) H) : wp (A_book_SameInts [v1, v2]) Q H := by
  show wp (F_book_SameInts v1 v2) Q H
  have e1 := h1.len
  have e2 := h2.len
  by_cases c : l1.length = l2.length
  rotate_left
  · have c' : (l1.length : Int) ≠ (l2.length : Int) := by omega
    rw [decide_eq_false (fun q => c (by rw [q]))] at hQ
    (try simp (maxSteps := 1000000) (disch := first | omega | (simp only [Z3]; omega) | (simp; done) | assumption | decide | (refine not_not_intro ?_; assumption)) only [Z1, Z2, splice, F_book_SameInts, e1, e2])
    exact hQ
  have c' : (l1.length : Int) = (l2.length : Int) := by omega
  (try simp (maxSteps := 1000000) (disch := first | omega | (simp only [Z3]; omega) | (simp; done) | assumption | decide | (refine not_not_intro ?_; assumption)) only [Z1, Z2, splice, F_book_SameInts, e1, e2, book_SameInts_k4])
  refine wp_loop (Inv := fun k vs H' => ∃ i : Nat, k = l1.length - i ∧ i ≤ l1.length ∧ vs = [v1, v2, i64 i] ∧ H' = H ∧ l1.take i = l2.take i) (n := l1.length) (by unfold FUEL; omega)
    ⟨0, by omega, by omega, rfl, rfl, by simp⟩ ?_
  rintro k vs H' ⟨i, hk, hi, rfl, he, ht⟩
  rw [he]; clear he H'
  by_cases hlt : i < l1.length
  · have a1 := h1.addr1 rfl (k := .i64) (i := i) (by omega) (by omega)
    have a2 := h2.addr1 rfl (k := .i64) (i := i) (by omega) (by omega)
    have b1 : cellG (H.get (slB v1)) (slO v1 + i) = some (i64 (l1.getD i 0)) := by rw [← cellP_get, h1.cell1 rfl hlt 0]; rfl
    have b2 : cellG (H.get (slB v2)) (slO v2 + i) = some (i64 (l2.getD i 0)) := by rw [← cellP_get, h2.cell1 rfl (by omega) 0]; rfl
    rw [Int.toNat_natCast] at a1 a2
    by_cases d : l1.getD i 0 = l2.getD i 0
    · (try simp (maxSteps := 1000000) (disch := first | omega | (simp only [Z3]; omega) | (simp; done) | assumption | decide | (refine not_not_intro ?_; assumption)) only [Z1, Z2, splice, book_SameInts_l2, e1, book_SameInts_k1, a1, a2, b1, b2, book_SameInts_k0])
      refine ⟨l1.length - (i + 1), by omega, i + 1, rfl, by omega, rfl, ?_⟩
      rw [List.take_succ, List.take_succ, ht, List.getElem?_eq_getElem hlt, List.getElem?_eq_getElem (by omega)]
      rw [List.getD_eq_getElem?_getD, List.getD_eq_getElem?_getD, List.getElem?_eq_getElem hlt, List.getElem?_eq_getElem (by omega)] at d
      simp only [Option.getD_some] at d
      rw [d]
    · (try simp (maxSteps := 1000000) (disch := first | omega | (simp only [Z3]; omega) | (simp; done) | assumption | decide | (refine not_not_intro ?_; assumption)) only [Z1, Z2, splice, book_SameInts_l2, e1, book_SameInts_k1, a1, a2, b1, b2])
      rw [decide_eq_false (fun q => d (by rw [q]))] at hQ
      exact hQ
  · have hie : i = l1.length := by omega
    subst hie
    rw [List.take_length, c, List.take_length] at ht
    rw [decide_eq_true ht] at hQ
    (try simp (maxSteps := 1000000) (disch := first | omega | (simp only [Z3]; omega) | (simp; done) | assumption | decide | (refine not_not_intro ?_; assumption)) only [Z1, Z2, splice, book_SameInts_l2, e1, book_SameInts_k3])
    exact hQ

/-- the calls -/
theorem play_acts {H0 H : Heap} {x : BL} {y : RL} {B : Bk} {R : Rk} {av : V} {acts : List QAct} (ha0 : Acts H0 av acts) (hv : ∀ a ∈ acts, a.vv.xs.length ≤ 2000000) (t : Duo H0 H x B y R) (s : Sim B R) (hss : R.ss = [])
    (Q : Out → Heap → Prop) (hQ : ∀ H', Keeps [] H0 H' → Q (.brk 4 []) H') :
    wp (loopM FUEL (law19_PointsPlay_l10 GD forcedF spoilF) [av, ptr x.p 0, ptr y.p 0, i64 0]) Q H := by
  generalize hyp : y.p = yp
  refine wp_loop (Inv := fun k vs H' => ∃ (i : Nat) (B : Bk) (y : RL) (R : Rk), k = 150 - i ∧ i ≤ 150 ∧ i ≤ acts.length ∧ vs = [av, ptr x.p 0, ptr yp 0, i64 i] ∧ y.p = yp ∧ Duo H0 H' x B y R ∧ Sim B R ∧ R.ss.length ≤ i) (n := 150) (by unfold FUEL; omega)
    ⟨0, B, y, R, by omega, by omega, by omega, rfl, hyp, t, s, by rw [hss]; exact Nat.le_refl _⟩ ?_
  clear t s hss hyp y R B H
  rintro k vs H ⟨i, B, y, R, hk, hi, hi2, rfl, rfl, t, s, hss⟩
  have ha := ha0.keep0 t.k
  have hal := ha.out.len
  by_cases h : i < acts.length
  case neg =>
    (try simp (maxSteps := 1000000) (disch := first | omega | (simp only [Z3]; omega) | (simp; done) | assumption | decide | (refine not_not_intro ?_; assumption)) only [Z1, Z2, splice, law19_PointsPlay_l10, isNil_p, hal])
    exact hQ _ t.k
  by_cases h150 : i < 150
  case neg =>
    (try simp (maxSteps := 1000000) (disch := first | omega | (simp only [Z3]; omega) | (simp; done) | assumption | decide | (refine not_not_intro ?_; assumption)) only [Z1, Z2, splice, law19_PointsPlay_l10, isNil_p, hal])
    exact hQ _ t.k
  obtain ⟨q1, q2⟩ := sl_get ha.out (n := 5) rfl h
  have hin := ha0.at h
  have hvi : (acts.getD i default).vv.xs.length ≤ 2000000 := by
    rw [List.getD_eq_getElem?_getD, List.getElem?_eq_getElem h]; exact hv _ (List.getElem_mem _)
  generalize acts.getD i default = a at *
  have hagg : (Value.agg (Flat.enc a).toArray : V) = a.agg := rfl
  (try simp (maxSteps := 1000000) (disch := first | omega | (simp only [Z3]; omega) | (simp; done) | assumption | decide | (refine not_not_intro ?_; assumption)) only [Z1, cellP_get, cellG_cells, wp_st1g, stG_c, eq_self, true_and, wp_stng, stnG_ok, ldG_ok, wp_newcg, wp_boxg, Heap.get_push_eq, Heap.get_push_lt, Heap.get_set_eq, Heap.get_set_ne', Heap.next_push', Heap.next_set', Heap.set_push_lt, Heap.set_push_eq, Heap.set_set, fld1_agg, fldn_agg, ext_tuple, outV_nil, outV_two, outV_three, outV_four, chk_ld1g, chkO_int, chkO_bool, chkO_str, chkO_ptr, chkO_slc, chkO_map, List.set_cons_zero, List.set_cons_succ, List.length_cons, List.length_nil, List.drop_succ_cons, List.drop_zero, List.take_succ_cons, List.take_zero, List.nil_append, List.cons_append, splice, isOne_int, isOne_str, isOne_bool, isOne_slice, isOne_pointer, isOne_map, condM_nf, condM_nef, gd_nef, gdf_nef, pick_nef, build_eq, fillA_nil, fillA_one, fillA_agg, Option.map_some, resv_one, resv_two, freeIn_nil, fillA_slc, fillA_int, fillA_str, fillA_bool, fillA_ptr, fillA_map, law19_PointsPlay_l10, isNil_p, hal, law19_PointsPlay_k9, q1, q2])
  rw [hagg]
  refine step_ok t s hin hvi (by omega) _ fun H2 B2 y2 R2 t2 s2 hp hs2 hgs => ?_
  (try simp (maxSteps := 1000000) (disch := first | omega | (simp only [Z3]; omega) | (simp; done) | assumption | decide | (refine not_not_intro ?_; assumption)) only [Z1, Z2, splice, law19_PointsPlay_k7])
  refine outputs_ok t2.a _ fun v3 H3 o3 k3 f3 => ?_
  have t3 := t2.keep0 k3
  (try simp (maxSteps := 1000000) (disch := first | omega | (simp only [Z3]; omega) | (simp; done) | assumption | decide | (refine not_not_intro ?_; assumption)) only [Z1, Z2, splice])
  rw [← hp]
  refine outputsR_ok t3.b _ fun v4 H4 o4 k4 f4 => ?_
  have t4 := t3.keep0 k4
  have o3' := o3.keep k4 (by simp)
  have hol : (outS B2).length ≤ 64 := by
    unfold outS
    rw [List.length_map]
    have := ofN_len B2.ls true
    have := t2.a.small
    omega
  (try simp (maxSteps := 1000000) (disch := first | omega | (simp only [Z3]; omega) | (simp; done) | assumption | decide | (refine not_not_intro ?_; assumption)) only [Z1, Z2, splice])
  refine sameNums_ok (own_sl o3') (own_sl o4) (by omega) _ ?_
  rw [decide_eq_true s2.out]
  (try simp (maxSteps := 1000000) (disch := first | omega | (simp only [Z3]; omega) | (simp; done) | assumption | decide | (refine not_not_intro ?_; assumption)) only [Z1, Z2, splice])
  have hfr : ∀ e ∈ B2.fo, 0 ≤ e.1 ∧ e.1 < B2.ls.length := fun e he => by
    have hg := mem_aget t2.a.kf (k := e.1) (v := e.2) he
    rw [s2.fo] at hg
    split at hg
    · rename_i c; exact c.1
    · cases hg
  refine forced_ok t4.a hfr _ fun v5 H5 o5 k5 => ?_
  have t5 := t4.keep0 k5
  (try simp (maxSteps := 1000000) (disch := first | omega | (simp only [Z3]; omega) | (simp; done) | assumption | decide | (refine not_not_intro ?_; assumption)) only [Z1, Z2, splice])
  refine forcedR_ok t5.b _ fun v6 H6 o6 k6 f6 => ?_
  have t6 := t5.keep0 k6
  have o5' := o5.keep k6 (by simp)
  rw [s2.forced t2.a.kf (List.Perm.refl _)] at o5'
  have hfl : (forcedR R2).length ≤ 64 := by
    unfold forcedR
    rw [List.length_map]
    have := List.length_filter_le (fun i => R2.fb.getD i false) (List.range R2.ls.length)
    rw [List.length_range] at this
    have := t2.b.small
    omega
  (try simp (maxSteps := 1000000) (disch := first | omega | (simp only [Z3]; omega) | (simp; done) | assumption | decide | (refine not_not_intro ?_; assumption)) only [Z1, Z2, splice])
  refine sameInts_ok (own_sl o5') (own_sl o6) (by omega) _ ?_
  rw [decide_eq_true (rfl : forcedR R2 = forcedR R2)]
  (try simp (maxSteps := 1000000) (disch := first | omega | (simp only [Z3]; omega) | (simp; done) | assumption | decide | (refine not_not_intro ?_; assumption)) only [Z1, Z2, splice, law19_PointsPlay_k6])
  have o36 := ((o3'.keep k5 (by simp)).keep k6 (by simp))
  refine spoil_ok o36 (-99) _ fun H7 k7 => ?_
  have hx := t2.a.lt
  have hy := t2.b.low
  have n0 := t2.k.next
  have t7 : Duo H0 H7 x B2 y2 R2 := ⟨t6.a.keep k7 (fun b hb hm => by have := f3 b hm; have := hx b hb; omega), t6.b.keep k7 (fun b hb hm => by have := f3 b hm; have := hy b hb; omega), t6.k.trans k7 (fun b hb hm => by have := f3 b hm; omega), t6.lo, t6.lo2, t6.dis⟩
  (try simp (maxSteps := 1000000) (disch := first | omega | (simp only [Z3]; omega) | (simp; done) | assumption | decide | (refine not_not_intro ?_; assumption)) only [Z1, Z2, splice, law19_PointsPlay_k8])
  exact ⟨150 - (i + 1), by omega, i + 1, B2, y2, R2, rfl, by omega, by omega, rfl, rfl, t7, s2, by omega⟩
end Go.AM.Cap
