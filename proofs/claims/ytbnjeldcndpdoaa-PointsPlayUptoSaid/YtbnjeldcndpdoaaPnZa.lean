import Derived.Test.YtbnjeldcndpdoaaPnZ
import Derived.Test.YtbnjeldcndpdoaaAmMap
set_option linter.all false
/- points: PointsPlay, whole -/
set_option maxHeartbeats 8000000
namespace Go.AM.Cap
open Go.AM Go.Proofs

theorem play_nil {H : Heap} {av : V} (Q : Out → Heap → Prop) (hQ : Q (.brk 4 []) H) : wp (loopM FUEL (law19_PointsPlay_l10 GD forcedF spoilF) [av, .pointer none, .pointer none, i64 0]) Q H := by
  refine wp_loop (Inv := fun k vs H' => k = 0 ∧ vs = [av, .pointer none, .pointer none, i64 0] ∧ H' = H) (n := 0) (by unfold FUEL; omega) ⟨rfl, rfl, rfl⟩ ?_
  rintro k vs H' ⟨rfl, rfl, rfl⟩
  have e : notIf true (isNil .p (.pointer none)) = some (.bool false) := rfl
  (try simp (maxSteps := 1000000) (disch := first | omega | (simp only [Z3]; omega) | (simp; done) | assumption | decide | (refine not_not_intro ?_; assumption)) only [Z1, Z2, splice, law19_PointsPlay_l10, e])
  exact hQ
theorem PointsPlay_ok (H : Heap) {lv gv av : V} {ls : List Pt} {gs : List Gr} {acts : List QAct} (hl : Sl H lv ls) (hg : Sl H gv gs) (ha : Acts H av acts) (hv : ∀ a ∈ acts, a.vv.xs.length ≤ 2000000) (hls : ls.length ≤ 2000000) (Q : V → Heap → Prop) (hQ : ∀ H', Q (.bool true) H') : wp (A_law19_PointsPlay GD forcedF spoilF [.agg #[lv, gv], av]) Q H := by
  show wp (F_law19_PointsPlay GD forcedF spoilF (.agg [lv, gv].toArray) av) Q H
  have hl1 := hl.isOne
  have hg1 := hg.isOne
  (try simp (maxSteps := 1000000) (disch := first | omega | (simp only [Z3]; omega) | (simp; done) | assumption | decide | (refine not_not_intro ?_; assumption)) only [Z1, Z2, splice, F_law19_PointsPlay, hl1, hg1])
  refine (wp_boxg (by simp [hl1, hg1])).mpr ?_
  have k1 := Keeps.push [] H (some (.cells true [lv, gv]))
  have hb := Heap.get_push_self H (some (.cells true [lv, gv]))
  generalize H.push (some (.cells true [lv, gv])) = H1 at *
  generalize H.next = bx at *
  have hgl := (hg.keep0 k1).len
  have hlb := Heap.get_lt hb
  by_cases h200 : (gs.length : Int) > 200
  · (try simp (maxSteps := 1000000) (disch := first | omega | (simp only [Z3]; omega) | (simp; done) | assumption | decide | (refine not_not_intro ?_; assumption)) only [Z1, Z2, splice, hb, hgl, decide_eq_true h200])
    refine works_ok H1 _ fun H2 k2 => ?_
    (try simp (maxSteps := 1000000) (disch := first | omega | (simp only [Z3]; omega) | (simp; done) | assumption | decide | (refine not_not_intro ?_; assumption)) only [Z1, Z2, splice])
    exact hQ _
  have kp : Keeps [] H1 ((H1.push none).push none) := resv_keeps 2 H1
  have hnr : ((H1.push none).push none).next = H1.next + 2 := resv_next 2 H1
  have hfr : ∀ b, H1.next ≤ b → ((H1.push none).push none).get b = none := fun b hb => resv_free (n := 2) hb
  have hb0 := kp.get hb (by simp)
  (try simp (maxSteps := 1000000) (disch := first | omega | (simp only [Z3]; omega) | (simp; done) | assumption | decide | (refine not_not_intro ?_; assumption)) only [Z1, Z2, splice, hb, hgl, decide_eq_false h200, law19_PointsPlay_k15, wp_withResv])
  generalize (H1.push none).push none = R0 at *
  try (try simp (maxSteps := 1000000) (disch := first | omega | (simp only [Z3]; omega) | (simp; done) | assumption | decide | (refine not_not_intro ?_; assumption)) only [Z1, Z2, splice, hb0])
  refine wp_flt_bslc (cs := []) (hfr _ (by omega)) (by omega) (by decide) (by rfl) ?_
  have ks0 : Keeps [] H1 (R0.set H1.next (some (.cells true []))) := keeps_set kp (.inr (by omega))
  have hs0 := Heap.get_set_self (H := R0) (b := H1.next) (x := some (.cells true [])) (by omega)
  have hf0 : (R0.set H1.next (some (.cells true []))).get (H1.next + 1) = none := by rw [Heap.get_set_ne _ _ _ (by omega)]; exact hfr _ (by omega)
  have hn0 : (R0.set H1.next (some (.cells true []))).next = H1.next + 2 := by simp [hnr]
  generalize R0.set H1.next (some (.cells true [])) = R1 at *
  have k11 : Keeps [] H R1 := k1.trans ks0 (fun _ _ h => h)
  (try simp (maxSteps := 1000000) (disch := first | omega | (simp only [Z3]; omega) | (simp; done) | assumption | decide | (refine not_not_intro ?_; assumption)) only [Z1, Z2, splice])
  refine ownF_appV (α := Pt) (xs := []) rfl (.inr ⟨H1.next, rfl, hs0⟩) (hl.keep0 k11) (by simp; omega) (by simp; omega) fun lw H2 ol k2 fl => ?_
  rw [List.nil_append] at ol
  have hn2 := k2.next
  have k12 : Keeps [] H1 H2 := ks0.trans k2 (fun b hb hm => by simp at hm; omega)
  have hf2 : H2.get (H1.next + 1) = none := by rw [k2.same _ (by omega) (by simp)]; exact hf0
  have f1 : freeIn R1 [H1.next + 1] = true := freeIn_all fun b hb => by
    simp only [List.mem_cons, List.not_mem_nil, or_false] at hb
    subst hb; exact ⟨hf0, by omega⟩
  have f2 : freeIn H2 [H1.next + 1] = true := freeIn_all fun b hb => by
    simp only [List.mem_cons, List.not_mem_nil, or_false] at hb
    subst hb; exact ⟨hf2, by omega⟩
  have fl2 : ∀ b ∈ _root_.Go.AM.vb lw, b = H1.next ∨ H1.next + 2 ≤ b := fun b hb => by
    have := fl b hb; simp at this; omega
  have hb2 := k12.get hb (by simp)
  (try simp (maxSteps := 1000000) (disch := first | omega | (simp only [Z3]; omega) | (simp; done) | assumption | decide | (refine not_not_intro ?_; assumption)) only [Z1, Z2, splice, f1, f2, Bool.and_true])
  refine wp_flt_bslc (cs := []) hf2 (by omega) (by decide) (by rfl) ?_
  have ks2 : Keeps [] H1 (H2.set (H1.next + 1) (some (.cells true []))) := keeps_set k12 (.inr (by omega))
  have ks2' : Keeps [H1.next + 1] H2 (H2.set (H1.next + 1) (some (.cells true []))) := keeps_set (Keeps.refl _ _) (.inl (by simp))
  have hs2 := Heap.get_set_self (H := H2) (b := H1.next + 1) (x := some (.cells true [])) (by omega)
  have hn2' : (H2.set (H1.next + 1) (some (.cells true []))).next = H2.next := by simp
  have ol2 := ol.keep ks2' (fun b hb hm => by have := fl2 b hb; simp at hm; omega)
  generalize H2.set (H1.next + 1) (some (.cells true [])) = R2 at *
  have k1R : Keeps [] H R2 := k1.trans ks2 (fun _ _ h => h)
  (try simp (maxSteps := 1000000) (disch := first | omega | (simp only [Z3]; omega) | (simp; done) | assumption | decide | (refine not_not_intro ?_; assumption)) only [Z1, Z2, splice])
  refine ownF_appV (α := Gr) (xs := []) rfl (.inr ⟨H1.next + 1, rfl, hs2⟩) (hg.keep0 k1R) (by simp; omega) (by simp; omega) fun gw H3 og k3 fg => ?_
  rw [List.nil_append] at og
  have hn3 := k3.next
  have k13 : Keeps [] H1 H3 := ks2.trans k3 (fun b hb hm => by simp at hm; omega)
  have fg2 : ∀ b ∈ _root_.Go.AM.vb gw, b = H1.next + 1 ∨ R2.next ≤ b := fun b hb => by
    have := fg b hb; simp at this; omega
  have ol3 := ol2.keep k3 (fun b hb hm => by have := fl2 b hb; simp at hm; omega)
  have hb3 := k13.get hb (by simp)
  have k03 : Keeps [] H H3 := k1.trans k13 (fun _ _ h => h)
  have fl3 := ol3.lt
  have fgl : ∀ b ∈ _root_.Go.AM.vb gw, b ∉ _root_.Go.AM.vb lw := fun b hb hm => by
    have := fg2 b hb; have := fl2 b hm; have := ol2.lt b hm; omega
  (try simp (maxSteps := 1000000) (disch := first | omega | (simp only [Z3]; omega) | (simp; done) | assumption | decide | (refine not_not_intro ?_; assumption)) only [Z1, Z2, splice, hb2, chk_slG (hg.keep0 (k1.trans k12 (fun _ _ h => h)))])
  refine points_Check_ok H3 lw gw ls gs ol3.sl og.sl (by omega) _ fun H4 k4 => ?_
  have hb4 := k4.get hb3 (by simp)
  have k04 : Keeps [] H H4 := k03.trans k4 (fun _ _ h => h)
  (try simp (maxSteps := 1000000) (disch := first | omega | (simp only [Z3]; omega) | (simp; done) | assumption | decide | (refine not_not_intro ?_; assumption)) only [Z1, Z2, splice, hb4])
  refine ref19_Check_ok (hl.keep0 k04) (hg.keep0 k04) (by omega) _ fun H5 k5 => ?_
  have k35 : Keeps [] H3 H5 := k4.trans k5 (fun _ _ h => h)
  have k05 : Keeps [] H H5 := k03.trans k35 (fun _ _ h => h)
  have hb5 := k5.get hb4 (by simp)
  (try simp (maxSteps := 1000000) (disch := first | omega | (simp only [Z3]; omega) | (simp; done) | assumption | decide | (refine not_not_intro ?_; assumption)) only [Z1, Z2, splice])
  have h1n := k1.next
  have h3n := k13.next
  refine points_New_ok (ol3.keep0 k35).sl (og.keep0 k35).sl (by omega) _ (fun hbad H6 k6 => ?_) fun hgood x H6 b6 k6 f6 => ?_
  · have hb6 := k6.get hb5 (by simp)
    have k06 : Keeps [] H H6 := k05.trans k6 (fun _ _ h => h)
    have k36 : Keeps [] H3 H6 := k35.trans k6 (fun _ _ h => h)
    (try simp (maxSteps := 1000000) (disch := first | omega | (simp only [Z3]; omega) | (simp; done) | assumption | decide | (refine not_not_intro ?_; assumption)) only [Z1, Z2, splice, hb6])
    refine ref19_New_ok (hl.keep0 k06) (hg.keep0 k06) (by omega) _ (fun hbad2 H7 k7 => ?_) fun hgood2 => absurd hgood2 hbad
    have k37 : Keeps [] H3 H7 := k36.trans k7 (fun _ _ h => h)
    have e1 : notIf false (isNil .p (.pointer none)) = some (.bool true) := rfl
    have e2 : notIf true (eqK .b (.bool true) (.bool true)) = some (.bool false) := rfl
    (try simp (maxSteps := 1000000) (disch := first | omega | (simp only [Z3]; omega) | (simp; done) | assumption | decide | (refine not_not_intro ?_; assumption)) only [Z1, Z2, splice, e1, e2, law19_PointsPlay_k14])
    refine over_l (ol3.keep0 k37) hls _ fun H8 k8 => ?_
    have og8 := (og.keep0 k37).keep k8 (fun b hb hm => fgl b hb hm)
    (try simp (maxSteps := 1000000) (disch := first | omega | (simp only [Z3]; omega) | (simp; done) | assumption | decide | (refine not_not_intro ?_; assumption)) only [Z1, Z2, splice, law19_PointsPlay_k13])
    refine over_g og8 (by omega) _ fun H9 k9 => ?_
    (try simp (maxSteps := 1000000) (disch := first | omega | (simp only [Z3]; omega) | (simp; done) | assumption | decide | (refine not_not_intro ?_; assumption)) only [Z1, Z2, splice, law19_PointsPlay_k12])
    refine play_nil _ ?_
    (try simp (maxSteps := 1000000) (disch := first | omega | (simp only [Z3]; omega) | (simp; done) | assumption | decide | (refine not_not_intro ?_; assumption)) only [Z1, Z2, splice, law19_PointsPlay_k11])
    refine works_ok H9 _ fun H10 k10 => ?_
    (try simp (maxSteps := 1000000) (disch := first | omega | (simp only [Z3]; omega) | (simp; done) | assumption | decide | (refine not_not_intro ?_; assumption)) only [Z1, Z2, splice])
    exact hQ _
  · have hb6 := k6.get hb5 (by simp)
    have k06 : Keeps [] H H6 := k05.trans k6 (fun _ _ h => h)
    have k36 : Keeps [] H3 H6 := k35.trans k6 (fun _ _ h => h)
    (try simp (maxSteps := 1000000) (disch := first | omega | (simp only [Z3]; omega) | (simp; done) | assumption | decide | (refine not_not_intro ?_; assumption)) only [Z1, Z2, splice, hb6])
    refine ref19_New_ok (hl.keep0 k06) (hg.keep0 k06) (by omega) _ (fun hbad2 => absurd hgood hbad2) fun _ y H7 b7 k7 f7 => ?_
    have k37 : Keeps [] H3 H7 := k36.trans k7 (fun _ _ h => h)
    have k17 : Keeps [] H1 H7 := k13.trans k37 (fun _ _ h => h)
    have n35 := k35.next
    have n6 := k6.next
    have e2 : notIf true (eqK .b (.bool false) (.bool false)) = some (.bool false) := rfl
    (try simp (maxSteps := 1000000) (disch := first | omega | (simp only [Z3]; omega) | (simp; done) | assumption | decide | (refine not_not_intro ?_; assumption)) only [Z1, Z2, splice, isNil_p, e2, law19_PointsPlay_k14])
    have lwlo : ∀ b ∈ _root_.Go.AM.vb lw, H1.next ≤ b := fun b hb => by have := fl2 b hb; omega
    have gwlo : ∀ b ∈ _root_.Go.AM.vb gw, H1.next ≤ b := fun b hb => by have := fg2 b hb; omega
    have gwlt := og.lt
    refine over_l (ol3.keep0 k37) hls _ fun H8 k8 => ?_
    have og8 := (og.keep0 k37).keep k8 (fun b hb hm => fgl b hb hm)
    (try simp (maxSteps := 1000000) (disch := first | omega | (simp only [Z3]; omega) | (simp; done) | assumption | decide | (refine not_not_intro ?_; assumption)) only [Z1, Z2, splice, law19_PointsPlay_k13])
    refine over_g og8 (by omega) _ fun H9 k9 => ?_
    (try simp (maxSteps := 1000000) (disch := first | omega | (simp only [Z3]; omega) | (simp; done) | assumption | decide | (refine not_not_intro ?_; assumption)) only [Z1, Z2, splice, law19_PointsPlay_k12])
    have t9 : Duo H1 H9 x (newB ls gs) y (newR ls gs) := ⟨((b6.keep0 k7).keep k8 (fun b hb hm => by have := f6 b hb; have := fl3 b hm; omega)).keep k9 (fun b hb hm => by have := f6 b hb; have := gwlt b hm; omega),
      (b7.keep k8 (fun b hb hm => by have := f7 b hb; have := fl3 b hm; omega)).keep k9 (fun b hb hm => by have := f7 b hb; have := gwlt b hm; omega),
      (k17.trans k8 (fun b hb hm => by have := lwlo b hm; omega)).trans k9 (fun b hb hm => by have := gwlo b hm; omega),
      fun b hb => by have := f6 b hb; omega, fun b hb => by have := f7 b hb; omega, fun b hx hy => by have := b6.lt b hx; have := f7 b hy; omega⟩
    refine play_acts (ha.keep0 k1) hv t9 (sim_new ls gs) rfl _ fun H10 k10 => ?_
    (try simp (maxSteps := 1000000) (disch := first | omega | (simp only [Z3]; omega) | (simp; done) | assumption | decide | (refine not_not_intro ?_; assumption)) only [Z1, Z2, splice, law19_PointsPlay_k11])
    refine works_ok H10 _ fun H11 k11 => ?_
    (try simp (maxSteps := 1000000) (disch := first | omega | (simp only [Z3]; omega) | (simp; done) | assumption | decide | (refine not_not_intro ?_; assumption)) only [Z1, Z2, splice])
    exact hQ _
end Go.AM.Cap
