import Derived.Test.YtbnjeldcndpdoaaPnP
import Derived.Test.YtbnjeldcndpdoaaAmMap
set_option linter.all false
/- points: PointsForce, the law -/
set_option maxHeartbeats 8000000
namespace Go.AM.Cap
open Go.AM Go.Proofs

theorem force_same {H0 H : Heap} {x y : BL} {C D : Bk} {v w : V} {xs : List Int} (t : Two H0 H x D y C) (hv : Own H v (xs.map i64)) (hw : Own H w (xs.map i64)) (hn : xs.length ≤ 1000) {G : List V → M V}
    (Q : Out → Heap → Prop) (hQ : Q (.brk 4 [ptr x.p 0, v, w]) H) :
    wp (loopM FUEL (law19_PointsForce_l12 GD G) [ptr x.p 0, v, w, i64 xs.length, i64 0]) Q H := by
  refine wp_loop (Inv := fun k vs H' => ∃ (i : Nat), k = xs.length - i ∧ i ≤ xs.length ∧ vs = [ptr x.p 0, v, w, i64 xs.length, i64 i] ∧ H' = H) (n := xs.length) (by unfold FUEL; omega)
    ⟨0, by omega, by omega, rfl, rfl⟩ ?_
  rintro k vs H' ⟨i, hk, hi, rfl, he⟩
  rw [he]; clear he H'
  by_cases h : i < xs.length
  case neg =>
    have : i = xs.length := by omega
    subst this
    (try simp (maxSteps := 1000000) (disch := first | omega | (simp only [Z3]; omega) | (simp; done) | assumption | decide | (refine not_not_intro ?_; assumption)) only [Z1, Z2, splice, law19_PointsForce_l12])
    exact hQ
  obtain ⟨b1, e1, c1⟩ := hv.idx (k := .i64) (i := i) (by simpa using h)
  obtain ⟨b2, e2, c2⟩ := hw.idx (k := .i64) (i := i) (by simpa using h)
  rw [List.getElem_map, cellP_get] at c1 c2
  (try simp (maxSteps := 1000000) (disch := first | omega | (simp only [Z3]; omega) | (simp; done) | assumption | decide | (refine not_not_intro ?_; assumption)) only [Z1, Z2, splice, law19_PointsForce_l12, law19_PointsForce_k11, e1, e2, c1, c2, law19_PointsForce_k10])
  exact ⟨xs.length - (i + 1), by omega, i + 1, rfl, by omega, rfl, trivial⟩
theorem PointsForce_ok (H : Heap) {lv gv av : V} {ls : List Pt} {gs : List Gr} {acts : List QAct} (hl : Sl H lv ls) (hg : Sl H gv gs) (ha : Acts H av acts) (n0 : Int) (Q : V → Heap → Prop) (hQ : ∀ H', Q (.bool true) H') : wp (A_law19_PointsForce GD forced0F [.agg #[lv, gv], av, i64 n0]) Q H := by
  show wp (F_law19_PointsForce GD forced0F (.agg [lv, gv].toArray) av (i64 n0)) Q H
  have hl1 := hl.isOne
  have hg1 := hg.isOne
  (try simp (maxSteps := 1000000) (disch := first | omega | (simp only [Z3]; omega) | (simp; done) | assumption | decide | (refine not_not_intro ?_; assumption)) only [Z1, Z2, splice, F_law19_PointsForce, hl1, hg1])
  refine (wp_boxg (by simp [hl1, hg1])).mpr ?_
  have k1 := Keeps.push [] H (some (.cells true [lv, gv]))
  have hb := Heap.get_push_self H (some (.cells true [lv, gv]))
  have hbn : H.next < (H.push (some (.cells true [lv, gv]))).next := by simp
  generalize H.push (some (.cells true [lv, gv])) = H1 at *
  generalize H.next = bx at *
  (try simp (maxSteps := 1000000) (disch := first | omega | (simp only [Z3]; omega) | (simp; done) | assumption | decide | (refine not_not_intro ?_; assumption)) only [Z1, Z2, splice])
  refine works_ok H1 _ fun H2 k2 => ?_
  have hb2 := k2.get hb (by simp)
  have k02 := k1.trans k2 (fun _ _ h => h)
  have hgl := (hg.keep0 k02).len
  have hll := (hl.keep0 k02).len
  by_cases h200 : (gs.length : Int) > 200
  · (try simp (maxSteps := 1000000) (disch := first | omega | (simp only [Z3]; omega) | (simp; done) | assumption | decide | (refine not_not_intro ?_; assumption)) only [Z1, Z2, splice, law19_PointsForce_k20, hb2, hgl, decide_eq_true h200])
    exact hQ _
  by_cases hl0 : (ls.length : Int) = 0
  · (try simp (maxSteps := 1000000) (disch := first | omega | (simp only [Z3]; omega) | (simp; done) | assumption | decide | (refine not_not_intro ?_; assumption)) only [Z1, Z2, splice, law19_PointsForce_k20, hb2, hgl, hll, decide_eq_false h200, decide_eq_true hl0])
    exact hQ _
  (try simp (maxSteps := 1000000) (disch := first | omega | (simp only [Z3]; omega) | (simp; done) | assumption | decide | (refine not_not_intro ?_; assumption)) only [Z1, Z2, splice, law19_PointsForce_k20, hb2, hgl, hll, decide_eq_false h200, decide_eq_false hl0, law19_PointsForce_k19])
  refine points_New_ok (hl.keep0 k02) (hg.keep0 k02) (by omega) _ (fun hbad H3 k3 => ?_) fun hgood x H3 b3 k3 f3 => ?_
  · have hb3 := k3.get hb2 (by simp)
    have k03 := k02.trans k3 (fun _ _ h => h)
    (try simp (maxSteps := 1000000) (disch := first | omega | (simp only [Z3]; omega) | (simp; done) | assumption | decide | (refine not_not_intro ?_; assumption)) only [Z1, Z2, splice, hb3])
    refine points_New_ok (hl.keep0 k03) (hg.keep0 k03) (by omega) _ (fun hbad2 H4 k4 => ?_) fun hgood2 => absurd hgood2 hbad
    have e : notIf false (isNil .p (.pointer none)) = some (.bool true) := rfl
    (try simp (maxSteps := 1000000) (disch := first | omega | (simp only [Z3]; omega) | (simp; done) | assumption | decide | (refine not_not_intro ?_; assumption)) only [Z1, Z2, splice, e])
    exact hQ _
  have hb3 := k3.get hb2 (by simp)
  have k03 := k02.trans k3 (fun _ _ h => h)
  (try simp (maxSteps := 1000000) (disch := first | omega | (simp only [Z3]; omega) | (simp; done) | assumption | decide | (refine not_not_intro ?_; assumption)) only [Z1, Z2, splice, hb3])
  refine points_New_ok (hl.keep0 k03) (hg.keep0 k03) (by omega) _ (fun hbad2 => absurd hgood hbad2) fun _ y H4 b4 k4 f4 => ?_
  have hb4 := k4.get hb3 (by simp)
  have k04 := k03.trans k4 (fun _ _ h => h)
  have n3 := k03.next
  have n2 := k02.next
  have n4 := k4.next
  obtain ⟨hsm, htyp, hrng⟩ := chkB_good hgood
  have hlt4 := Heap.get_lt hb4
  have t4 : Two H2 H4 x (newB ls gs) y (newB ls gs) := ⟨⟨b3.keep0 k4, k3.trans k4 (fun _ _ h => h), fun b hb => by have := f3 b hb; omega⟩, b4, fun b hb => by have := f4 b hb; have := k3.next; omega, fun b hbx hby => by have := b3.lt b hbx; have := f4 b hby; omega⟩
  have hbxx : bx ∉ x.foot := fun hm => by have := f3 bx hm; have := Heap.get_lt hb2; omega
  have hbxy : bx ∉ y.foot := fun hm => by have := f4 bx hm; have := Heap.get_lt hb3; omega
  have hll4 := (hl.keep0 k04).len
  obtain ⟨at_, m, hatl, m1, m2, m3, m4⟩ := u64_at n0 ls.length (by omega) (by omega)
  obtain ⟨v, hv, hve⟩ := and_one n0
  (try simp (maxSteps := 1000000) (disch := first | omega | (simp only [Z3]; omega) | (simp; done) | assumption | decide | (refine not_not_intro ?_; assumption)) only [Z1, Z2, splice, isNil_p, law19_PointsForce_k18, m1, hb4, hll4, m2, m3, m4, hve])
  have hfit : fitsB (newB ls gs).ls (at_ : Int) v := by
    refine ⟨⟨by omega, by show (at_ : Int) < ls.length; omega⟩, ?_⟩
    have hm : ls.getD at_ default ∈ ls := by
      rw [List.getD_eq_getElem?_getD, List.getElem?_eq_getElem hatl]
      exact List.getElem_mem hatl
    have hb := htyp _ hm
    have hpt : ptAt (newB ls gs).ls (at_ : Int) = ls.getD at_ default := by
      show ptAt ls (at_ : Int) = _
      unfold ptAt
      rw [Int.toNat_natCast]
    rw [hpt]
    unfold badT at hb
    unfold fits
    omega
  have hforce : forceS (newB ls gs) at_ v = ((newB ls gs).wf [((at_ : Int), v)], 0) := by
    unfold forceS
    rw [if_neg (fun q => q hfit)]
    rfl
  refine force_ok t4.a.b (at_ : Int) v _ fun H5 b5 k5 => ?_
  rw [hforce] at b5 ⊢
  have t5 : Two H2 H5 x ((newB ls gs).wf [((at_ : Int), v)]) y (newB ls gs) := t4.turnA b5 (k5.mono (fun b hb => by simp at hb; simp [hb]))
  have hb5 := k5.get hb4 (fun hm => hbxx (foot_sub (by simp at hm; simp [hm])))
  (try simp (maxSteps := 1000000) (disch := first | omega | (simp only [Z3]; omega) | (simp; done) | assumption | decide | (refine not_not_intro ?_; assumption)) only [Z1, Z2, splice, law19_PointsForce_k17])
  refine force_acts (pv := ptr bx 0) (ha.keep0 k02) t5 rfl _ fun H6 C hfo hls t6 => ?_
  have hls : C.ls = ls := hls
  have hb6 := t6.a.k.get hb2 (by simp)
  have hll6 := ((hl.keep0 k02).keep0 t6.a.k).len
  (try simp (maxSteps := 1000000) (disch := first | omega | (simp only [Z3]; omega) | (simp; done) | assumption | decide | (refine not_not_intro ?_; assumption)) only [Z1, Z2, splice, law19_PointsForce_k16, hb6, hll6])
  refine force_out (hl.keep0 k02) hsm t6 hfo hls _ fun H7 t7 => ?_
  have hfree : freeS (C.wf [((at_ : Int), v)]) at_ = (C, 0) := by
    unfold freeS
    have e1 : (C.wf [((at_ : Int), v)]).ls = ls := hls
    rw [if_neg (by rw [e1]; omega)]
    have e2 : adel (C.wf [((at_ : Int), v)]).fo (at_ : Int) = [] := by
      rw [wf_fo]; simp [adel]
    rw [e2]
    clear e1 e2 t6 t7 hb6 hll6 hls
    obtain ⟨c1, c2, c3, c4, c5⟩ := C
    have hfo : c4 = [] := hfo
    subst hfo
    rfl
  (try simp (maxSteps := 1000000) (disch := first | omega | (simp only [Z3]; omega) | (simp; done) | assumption | decide | (refine not_not_intro ?_; assumption)) only [Z1, Z2, splice, law19_PointsForce_k15])
  refine free_ok t7.a.b (at_ : Int) _ fun H8 b8 k8 => ?_
  rw [hfree] at b8 ⊢
  have t8 : Two H2 H8 x C y C := t7.turnA b8 (k8.mono (fun b hb => by simp at hb; simp [hb]))
  (try simp (maxSteps := 1000000) (disch := first | omega | (simp only [Z3]; omega) | (simp; done) | assumption | decide | (refine not_not_intro ?_; assumption)) only [Z1, Z2, splice, law19_PointsForce_k14])
  refine outputs_ok t8.a.b _ fun w9 H9 o9 k9 _ => ?_
  have t9 := t8.keep0 k9
  (try simp (maxSteps := 1000000) (disch := first | omega | (simp only [Z3]; omega) | (simp; done) | assumption | decide | (refine not_not_intro ?_; assumption)) only [Z1, Z2, splice])
  refine outputs_ok t9.b _ fun w10 H10 o10 k10 _ => ?_
  have t10 := t9.keep0 k10
  have o9' := o9.keep k10 (by simp)
  have hol : (outS C).length ≤ 64 := by
    unfold outS
    rw [List.length_map]
    have := ofN_len C.ls true
    rw [hls] at this ⊢
    omega
  have e9 := o9'.len
  have e10 := o10.len
  rw [List.length_map] at e9 e10
  (try simp (maxSteps := 1000000) (disch := first | omega | (simp only [Z3]; omega) | (simp; done) | assumption | decide | (refine not_not_intro ?_; assumption)) only [Z1, Z2, splice, e9])
  refine force_same t10 o9' o10 (by omega) _ ?_
  (try simp (maxSteps := 1000000) (disch := first | omega | (simp only [Z3]; omega) | (simp; done) | assumption | decide | (refine not_not_intro ?_; assumption)) only [Z1, Z2, splice, law19_PointsForce_k13, e9, e10])
  refine forced0_ok t10.a.b hfo _ ?_
  (try simp (maxSteps := 1000000) (disch := first | omega | (simp only [Z3]; omega) | (simp; done) | assumption | decide | (refine not_not_intro ?_; assumption)) only [Z1, Z2, splice, show lenSlc (.slice none 0 0) = some (i64 0) from rfl])
  exact hQ _
end Go.AM.Cap
