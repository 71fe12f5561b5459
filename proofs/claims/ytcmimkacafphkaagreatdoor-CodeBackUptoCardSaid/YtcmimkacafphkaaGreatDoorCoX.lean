import Derived.Test.YtcmimkacafphkaaGreatDoorCoV
import Derived.Test.YtcmimkacafphkaaGreatDoorAmOpenF
set_option linter.all false
/- code: the loops over cells and ends -/
set_option maxHeartbeats 8000000
namespace Go.AM.Cap
open Go.AM Go.Proofs

def tfS (l : List (Int × Int)) : List It := l.flatMap fun p => [numC p.1, numC p.2]
theorem tfS_length (l : List (Int × Int)) : (tfS l).length = 2 * l.length := by
  induction l with
  | nil => rfl
  | cons i l ih => simp only [tfS, List.flatMap_cons, List.length_append] at ih ⊢; rw [ih]; simp; omega
theorem tfS_take {l : List (Int × Int)} {j : Nat} (h : j < l.length) : tfS (l.take (j + 1)) = tfS (l.take j) ++ [numC (l.getD j (0, 0)).1, numC (l.getD j (0, 0)).2] := by
  rw [take_succ_getD h (0, 0)]; simp [tfS]
theorem zip_getD {a b : List Int} {j : Nat} (h : j < a.length) (h2 : j < b.length) : (a.zip b).getD j (0, 0) = (a.getD j 0, b.getD j 0) := by
  rw [List.getD_eq_getElem?_getD, List.getD_eq_getElem?_getD, List.getD_eq_getElem?_getD, List.getElem?_eq_getElem (by rw [List.length_zip]; omega), List.getElem?_eq_getElem h, List.getElem?_eq_getElem h2]
  simp
theorem tloop_ok {H0 H : Heap} {L : List Thing} {G C : List V → M V} {p : Nat} {w tv fv : V} {c0 c3 c4 c5 : V} {ts fs : List Int} {acc : List It} (gp : H0.get p = some (.cells true [c0, tv, fv, c3, c4, c5])) (ht : Sl H0 tv ts) (hf : Sl H0 fv fs) (he : ts.length = fs.length) (hl : ts.length ≤ 100000) (ha : acc.length ≤ 1000000) (st : Hp H0 H (own w acc :: L))
    (R : Out → Heap → Prop) (hR : ∀ w' H', Hp H0 H' (own w' (acc ++ tfS (ts.zip fs)) :: L) → R (.brk 0 [ptr p 0, w']) H') : wp (loopM FUEL (code_Encode_l2 G C) [ptr p 0, w, tv, i64 ts.length, i64 0]) R H := by
  have hzl : (ts.zip fs).length = ts.length := by rw [List.length_zip]; omega
  refine wp_loop (Inv := fun k vs H' => ∃ (j : Nat) (w' : V), k = ts.length - j ∧ j ≤ ts.length ∧ vs = [ptr p 0, w', tv, i64 ts.length, i64 j] ∧ Hp H0 H' (own w' (acc ++ tfS ((ts.zip fs).take j)) :: L)) (n := ts.length) (by unfold FUEL; omega)
    ⟨0, w, by omega, by omega, rfl, by simpa [tfS] using st⟩ ?_
  rintro k vs H1 ⟨j, w1, hk, hj, rfl, s1⟩
  by_cases hlt : j < ts.length
  case neg =>
    have : j = ts.length := by omega
    subst this
    rw [← hzl, List.take_length] at s1
    (try simp (maxSteps := 1000000) (disch := first | omega | (simp only [Z3]; omega) | (simp; done) | assumption | decide | (refine not_not_intro ?_; assumption)) only [Z1, Z2, splice, code_Encode_l2])
    exact hR _ _ s1
  have hlt2 : j < fs.length := by omega
  have v1 := s1.ro ht
  have v2 := s1.ro hf
  have a1 := v1.addr1 rfl (k := .i64) (i := j) (by omega) (by omega)
  rw [Int.toNat_natCast] at a1
  have d1 := v1.cell1 rfl hlt 0
  have a2 := v2.addr1 rfl (k := .i64) (i := j) (by omega) (by omega)
  rw [Int.toNat_natCast] at a2
  have d2 := v2.cell1 rfl hlt2 0
  have g1 := s1.keeps.get gp (by simp)
  have hst := tfS_take (l := ts.zip fs) (j := j) (by omega)
  rw [zip_getD hlt hlt2] at hst
  have htl : (tfS ((ts.zip fs).take j)).length ≤ 200000 := by rw [tfS_length, List.length_take]; omega
  generalize ts.getD j 0 = t at *
  generalize fs.getD j 0 = f at *
  (try simp (maxSteps := 1000000) (disch := first | omega | (simp only [Z3]; omega) | (simp; done) | assumption | decide | (refine not_not_intro ?_; assumption)) only [Z1, Z2, splice, code_Encode_l2, code_Encode_k1, a1, d1, a2, d2, g1])
  refine (wp_bslc (by rfl) (cs := encs [t, f]) (by rfl)).mpr ?_
  have s2 := s1.newo (n := 1) (m := 2) [t, f] rfl rfl
  generalize H1.push (some (.cells true (encs [t, f]))) = H2 at *
  (try simp (maxSteps := 1000000) (disch := first | omega | (simp only [Z3]; omega) | (simp; done) | assumption | decide | (refine not_not_intro ?_; assumption)) only [Z1, Z2, splice])
  refine numL_ok s2 (s2.own (i := 0) rfl).sl (by simp) _ fun w3 H3 s3 _ => ?_
  (try simp (maxSteps := 1000000) (disch := first | omega | (simp only [Z3]; omega) | (simp; done) | assumption | decide | (refine not_not_intro ?_; assumption)) only [Z1, Z2, splice])
  refine st_appV s3 (i := 2) rfl rfl (s3.own (i := 0) rfl).sl (by rw [List.length_append]; simp; omega) (by rw [List.length_append]; simp; omega) fun w4 H4 s4 => ?_
  (try simp (maxSteps := 1000000) (disch := first | omega | (simp only [Z3]; omega) | (simp; done) | assumption | decide | (refine not_not_intro ?_; assumption)) only [Z1, Z2, splice, code_Encode_k0])
  refine ⟨ts.length - (j + 1), by omega, j + 1, w4, rfl, by omega, by push_cast; rfl, ?_⟩
  rw [hst, ← List.append_assoc]
  exact s4.tail.tail
def endS (l : List Int) : List It := numC l.length :: l.map numC
def endsS (l : List (In Int)) : List It := l.flatMap fun e => endS e.xs
theorem endsS_take {l : List (In Int)} {j : Nat} (h : j < l.length) : endsS (l.take (j + 1)) = endsS (l.take j) ++ endS (l.getD j default).xs := by
  rw [take_succ_getD h default]; simp [endsS]
theorem eloop_ok {H0 H : Heap} {L : List Thing} {G C : List V → M V} {p : Nat} {w xv : V} {es : List (In Int)} {acc : List It} (hx : ∀ w a H', Hp H0 H' (own (α := It) w a :: L) → Sl H' xv es) (hinn : ∀ e ∈ es, Sl H0 e.v e.xs) (hl : es.length ≤ 100) (hle : ∀ e ∈ es, e.xs.length ≤ 100000) (hal : acc.length + (endsS es).length ≤ 10000000) (st : Hp H0 H (own w acc :: L))
    (R : Out → Heap → Prop) (hR : ∀ w' H', Hp H0 H' (own w' (acc ++ endsS es) :: L) → R (.brk 2 [ptr p 0, w']) H') : wp (loopM FUEL (code_Encode_l5 G C) [ptr p 0, w, xv, i64 es.length, i64 0]) R H := by
  refine wp_loop (Inv := fun k vs H' => ∃ (j : Nat) (w' : V), k = es.length - j ∧ j ≤ es.length ∧ vs = [ptr p 0, w', xv, i64 es.length, i64 j] ∧ Hp H0 H' (own w' (acc ++ endsS (es.take j)) :: L)) (n := es.length) (by unfold FUEL; omega)
    ⟨0, w, by omega, by omega, rfl, by simpa [endsS] using st⟩ ?_
  rintro k vs H1 ⟨j, w1, hk, hj, rfl, s1⟩
  by_cases hlt : j < es.length
  case neg =>
    have : j = es.length := by omega
    subst this
    rw [List.take_length] at s1
    (try simp (maxSteps := 1000000) (disch := first | omega | (simp only [Z3]; omega) | (simp; done) | assumption | decide | (refine not_not_intro ?_; assumption)) only [Z1, Z2, splice, code_Encode_l5])
    exact hR _ _ s1
  have h1 : Sl2 H1 xv es := ⟨hx _ _ _ s1, fun e he => (hinn e he).keep0 s1.keeps⟩
  obtain ⟨a1, c1⟩ := h1.get hlt
  rw [cellP_get] at c1
  have hst := endsS_take hlt
  have hel := hle _ (getD_mem' (d := default) hlt)
  have hv := hinn _ (getD_mem' (d := default) hlt)
  have hpre : (endsS (es.take j)).length ≤ (endsS es).length := by
    have : endsS es = endsS (es.take j) ++ endsS (es.drop j) := by
      unfold endsS; rw [← List.flatMap_append, List.take_append_drop]
    rw [this, List.length_append]; omega
  generalize es.getD j default = e at *
  have lv := hv.len
  (try simp (maxSteps := 1000000) (disch := first | omega | (simp only [Z3]; omega) | (simp; done) | assumption | decide | (refine not_not_intro ?_; assumption)) only [Z1, Z2, splice, code_Encode_l5, code_Encode_k4, a1, c1, lv])
  refine (wp_bslc (by rfl) (cs := encs [(e.xs.length : Int)]) (by rfl)).mpr ?_
  have s2 := s1.newo (n := 1) (m := 1) [(e.xs.length : Int)] rfl rfl
  generalize H1.push (some (.cells true (encs [(e.xs.length : Int)]))) = H2 at *
  (try simp (maxSteps := 1000000) (disch := first | omega | (simp only [Z3]; omega) | (simp; done) | assumption | decide | (refine not_not_intro ?_; assumption)) only [Z1, Z2, splice])
  refine numI_ok s2 (s2.own (i := 0) rfl).sl (by simp) _ fun w3 H3 s3 _ => ?_
  (try simp (maxSteps := 1000000) (disch := first | omega | (simp only [Z3]; omega) | (simp; done) | assumption | decide | (refine not_not_intro ?_; assumption)) only [Z1, Z2, splice])
  refine st_appV s3 (i := 2) rfl rfl (s3.own (i := 0) rfl).sl (by rw [List.length_append]; simp; omega) (by rw [List.length_append]; simp; omega) fun w4 H4 s4 => ?_
  (try simp (maxSteps := 1000000) (disch := first | omega | (simp only [Z3]; omega) | (simp; done) | assumption | decide | (refine not_not_intro ?_; assumption)) only [Z1, Z2, splice])
  refine numI_ok s4 (s4.ro hv) (by omega) _ fun w5 H5 s5 _ => ?_
  (try simp (maxSteps := 1000000) (disch := first | omega | (simp only [Z3]; omega) | (simp; done) | assumption | decide | (refine not_not_intro ?_; assumption)) only [Z1, Z2, splice])
  refine st_appV s5 (i := 3) rfl rfl (s5.own (i := 0) rfl).sl (by simp only [List.length_append, List.length_map, List.length_cons, List.length_nil]; omega) (by simp only [List.length_append, List.length_map, List.length_cons, List.length_nil]; omega) fun w6 H6 s6 => ?_
  (try simp (maxSteps := 1000000) (disch := first | omega | (simp only [Z3]; omega) | (simp; done) | assumption | decide | (refine not_not_intro ?_; assumption)) only [Z1, Z2, splice, code_Encode_k3])
  refine ⟨es.length - (j + 1), by omega, j + 1, w6, rfl, by omega, by push_cast; rfl, ?_⟩
  rw [hst, endS, ← List.append_assoc]
  have := s6.tail.tail.tail
  simpa using this
end Go.AM.Cap
