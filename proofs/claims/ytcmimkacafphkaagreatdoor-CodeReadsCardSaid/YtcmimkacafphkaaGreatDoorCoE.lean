import Derived.Test.YtcmimkacafphkaaGreatDoorCoD
import Derived.Test.YtcmimkacafphkaaGreatDoorCoB
import Derived.Test.YtcmimkacafphkaaGreatDoorAmOpenF
set_option linter.all false
/- code: what asks a list; rules -/
set_option maxHeartbeats 8000000
namespace Go.AM.Cap
open Go.AM Go.Proofs
theorem zbu0 {S : zl} {f : V} {H : Heap} {v : V} {l : List Int} (h : Sl H v l) (hl : l.length ≤ 1000000000) (p : Int → Bool) (hp : ∀ (H2 : Heap) (x : Int) (Q : V → Heap → Prop), Keeps [] H H2 → (∀ H', Keeps [] H2 H' → Q (.bool (p x)) H') → wp (zhz (ovr [] S) f [i64 x]) Q H2)
    (Q : V → Heap → Prop) (hQ : ∀ H', Keeps [] H H' → Q (i64 (idxV (zoi p l))) H') : wp (zc5 S [v, f]) Q H := by
  show wp (ze7 S v f) Q H
  have hlen := h.len
  (try simp (maxSteps := 1000000) (disch := first | omega | (simp only [Z3]; omega) | (simp; done) | assumption | decide | (refine not_not_intro ?_; assumption)) only [Z1, Z2, splice, ze7, hlen])
  refine zb9 (Inv := fun k vs H' => ∃ j : Nat, k = l.length - j ∧ j ≤ l.length ∧ vs = [v, f, i64 l.length, i64 j] ∧ Keeps [] H H' ∧ (∀ i, i < j → p (l.getD i default) = false)) (n := l.length) (by unfold zcb; omega)
    ⟨0, by omega, by omega, rfl, Keeps.refl _ _, by omega⟩ ?_
  rintro k vs H1 ⟨j, hk, hj, rfl, hk1, hn⟩
  by_cases hlt : j < l.length
  case neg =>
    have : j = l.length := by omega
    subst this
    have e : idxV (zoi p l) = -1 := by rw [zboj hn]; rfl
    (try simp (maxSteps := 1000000) (disch := first | omega | (simp only [Z3]; omega) | (simp; done) | assumption | decide | (refine not_not_intro ?_; assumption)) only [Z1, Z2, splice, zgw, zjt])
    rw [e] at hQ
    exact hQ _ hk1
  have a1 := (h.keep0 hk1).addr1 rfl (k := .i64) (i := j) (by omega) (by omega)
  rw [Int.toNat_natCast] at a1
  have d1 := (h.keep0 hk1).cell1 rfl hlt default
  (try simp (maxSteps := 1000000) (disch := first | omega | (simp only [Z3]; omega) | (simp; done) | assumption | decide | (refine not_not_intro ?_; assumption)) only [Z1, Z2, splice, zgw, zjs, a1, d1])
  refine hp H1 _ _ hk1 fun H2 k2 => ?_
  cases hq : p (l.getD j default) with
  | true =>
    have e : idxV (zoi p l) = j := by rw [z25 hlt hq hn]; rfl
    rw [e] at hQ
    (try simp (maxSteps := 1000000) (disch := first | omega | (simp only [Z3]; omega) | (simp; done) | assumption | decide | (refine not_not_intro ?_; assumption)) only [Z1, Z2, splice])
    exact hQ _ (hk1.trans k2 (by simp))
  | false =>
    (try simp (maxSteps := 1000000) (disch := first | omega | (simp only [Z3]; omega) | (simp; done) | assumption | decide | (refine not_not_intro ?_; assumption)) only [Z1, Z2, splice, zjr])
    refine ⟨l.length - (j + 1), by omega, j + 1, rfl, by omega, by push_cast; rfl, hk1.trans k2 (by simp), fun i hi => ?_⟩
    rcases Nat.lt_or_eq_of_le (Nat.lt_succ_iff.1 hi) with q | rfl
    · exact hn i q
    · exact hq
theorem zbu1 {S : zl} {f : V} {H : Heap} {v : V} {l : List Ins} (h : Sl H v l) (hl : l.length ≤ 1000000000) (p : Ins → Bool) (hp : ∀ (H2 : Heap) (x : Ins) (Q : V → Heap → Prop), Keeps [] H H2 → (∀ H', Keeps [] H2 H' → Q (.bool (p x)) H') → wp (zhz (ovr [] S) f [.agg (Flat.enc x).toArray]) Q H2)
    (Q : V → Heap → Prop) (hQ : ∀ H', Keeps [] H H' → Q (i64 (idxV (zoi p l))) H') : wp (zba S [v, f]) Q H := by
  show wp (zcm S v f) Q H
  have hlen := h.len
  (try simp (maxSteps := 1000000) (disch := first | omega | (simp only [Z3]; omega) | (simp; done) | assumption | decide | (refine not_not_intro ?_; assumption)) only [Z1, Z2, splice, zcm, hlen])
  refine zb9 (Inv := fun k vs H' => ∃ j : Nat, k = l.length - j ∧ j ≤ l.length ∧ vs = [v, f, i64 l.length, i64 j] ∧ Keeps [] H H' ∧ (∀ i, i < j → p (l.getD i default) = false)) (n := l.length) (by unfold zcb; omega)
    ⟨0, by omega, by omega, rfl, Keeps.refl _ _, by omega⟩ ?_
  rintro k vs H1 ⟨j, hk, hj, rfl, hk1, hn⟩
  by_cases hlt : j < l.length
  case neg =>
    have : j = l.length := by omega
    subst this
    have e : idxV (zoi p l) = -1 := by rw [zboj hn]; rfl
    (try simp (maxSteps := 1000000) (disch := first | omega | (simp only [Z3]; omega) | (simp; done) | assumption | decide | (refine not_not_intro ?_; assumption)) only [Z1, Z2, splice, zdu, zf3])
    rw [e] at hQ
    exact hQ _ hk1
  have a1 := (h.keep0 hk1).addr' (n := 4) rfl (k := .i64) (i := j) (by omega) (by omega)
  rw [Int.toNat_natCast] at a1
  have d1 := fun Q => (h.keep0 hk1).ldn' (Q := Q) (n := 4) rfl hlt default
  (try simp (maxSteps := 1000000) (disch := first | omega | (simp only [Z3]; omega) | (simp; done) | assumption | decide | (refine not_not_intro ?_; assumption)) only [Z1, zv, z6, zdv, zia, eq_self, true_and, zd7, zdn, ze8, zcc, zd8, Heap.get_push_eq, Heap.get_push_lt, Heap.get_set_eq, Heap.get_set_ne', Heap.next_push', Heap.next_set', Heap.set_push_lt, Heap.set_push_eq, Heap.set_set, zct, zcu, zb0, zcx, zcy, zbg, zb2, zcz, zco, zbz, zcp, zcq, zcr, zcs, List.set_cons_zero, List.set_cons_succ, List.length_cons, List.length_nil, List.drop_succ_cons, List.drop_zero, List.take_succ_cons, List.take_zero, List.nil_append, List.cons_append, splice, zbw, zbx, zbf, zz, zn, zby, zcv, zb1, zfj, zdw, zcw, zc0, zbt, zx, zbu, Option.map_some, zc1, zc2, zbi, zb3, zb4, zb5, zbh, zb6, zb7, zdu, zf2, a1, d1])
  refine hp H1 _ _ hk1 fun H2 k2 => ?_
  cases hq : p (l.getD j default) with
  | true =>
    have e : idxV (zoi p l) = j := by rw [z25 hlt hq hn]; rfl
    rw [e] at hQ
    (try simp (maxSteps := 1000000) (disch := first | omega | (simp only [Z3]; omega) | (simp; done) | assumption | decide | (refine not_not_intro ?_; assumption)) only [Z1, Z2, splice])
    exact hQ _ (hk1.trans k2 (by simp))
  | false =>
    (try simp (maxSteps := 1000000) (disch := first | omega | (simp only [Z3]; omega) | (simp; done) | assumption | decide | (refine not_not_intro ?_; assumption)) only [Z1, Z2, splice, zf1])
    refine ⟨l.length - (j + 1), by omega, j + 1, rfl, by omega, by push_cast; rfl, hk1.trans k2 (by simp), fun i hi => ?_⟩
    rcases Nat.lt_or_eq_of_le (Nat.lt_succ_iff.1 hi) with q | rfl
    · exact hn i q
    · exact hq
theorem zbxk (f : Fd) : ([.string f.name, i64 f.type, .bool f.set] : List V).all Value.isOne = true := rfl
theorem zbsx {H : Heap} {v w : V} {l : List Int} {fs : List Fd} (h : Sl H v l) (hf : Sl H w fs) (hl : l.length ≤ 1000000000) (hl2 : fs.length ≤ 1000000000)
    (Q : V → Heap → Prop) (hQ : ∀ H', Keeps [] H H' → Q (.bool (decide (l = fs.map Fd.type))) H') : wp (zu (ovr [(zdo, zhv)] noC) [v, w, .func (.func zdo) #[] #[]]) Q H := by
  show wp (zt _ v w (.func (.func zdo) #[] #[])) Q H
  have hlen := h.len
  have hlen2 := hf.len
  by_cases hne : l.length = fs.length
  case neg =>
    have : ¬ l = fs.map Fd.type := fun q => hne (by rw [q, List.length_map])
    rw [decide_eq_false this] at hQ
    (try simp (maxSteps := 1000000) (disch := first | omega | (simp only [Z3]; omega) | (simp; done) | assumption | decide | (refine not_not_intro ?_; assumption)) only [Z1, Z2, splice, zt, hlen, hlen2])
    exact hQ _ (Keeps.refl _ _)
  (try simp (maxSteps := 1000000) (disch := first | omega | (simp only [Z3]; omega) | (simp; done) | assumption | decide | (refine not_not_intro ?_; assumption)) only [Z1, Z2, splice, zt, hlen, hlen2, zds])
  refine zb9 (Inv := fun k vs H' => ∃ j : Nat, k = l.length - j ∧ j ≤ l.length ∧ vs = [w, .func (.func zdo) #[] #[], v, i64 l.length, i64 j] ∧ Keeps [] H H' ∧ (∀ i, i < j → l.getD i default = (fs.getD i default).type)) (n := l.length) (by unfold zcb; omega)
    ⟨0, by omega, by omega, rfl, Keeps.refl _ _, by omega⟩ ?_
  rintro k vs H1 ⟨j, hk, hj, rfl, hk1, hn⟩
  by_cases hlt : j < l.length
  case neg =>
    have : j = l.length := by omega
    subst this
    have e : l = fs.map Fd.type := by
      apply List.ext_getElem (by rw [List.length_map]; exact hne)
      intro i h1 h2
      have := hn i h1
      rw [List.getD_eq_getElem?_getD, List.getD_eq_getElem?_getD, List.getElem?_eq_getElem h1, List.getElem?_eq_getElem (by omega)] at this
      simpa using this
    rw [decide_eq_true e] at hQ
    (try simp (maxSteps := 1000000) (disch := first | omega | (simp only [Z3]; omega) | (simp; done) | assumption | decide | (refine not_not_intro ?_; assumption)) only [Z1, Z2, splice, zca, zdr])
    exact hQ _ hk1
  have hlt2 : j < fs.length := by omega
  have a1 := (h.keep0 hk1).addr1 rfl (k := .i64) (i := j) (by omega) (by omega)
  rw [Int.toNat_natCast] at a1
  have d1 := (h.keep0 hk1).cell1 rfl hlt default
  have a2 := (hf.keep0 hk1).addr' (n := 3) rfl (k := .i64) (i := j) (by omega) (by omega)
  rw [Int.toNat_natCast] at a2
  have d2 := fun Q => (hf.keep0 hk1).ldn' (Q := Q) (n := 3) rfl hlt2 default
  have hnj : ∀ q : l.getD j default = (fs.getD j default).type, ∀ i, i < j + 1 → l.getD i default = (fs.getD i default).type := fun q i hi => by
    rcases Nat.lt_or_eq_of_le (Nat.lt_succ_iff.1 hi) with q2 | rfl
    · exact hn i q2
    · exact q
  have hbad : ¬ l.getD j default = (fs.getD j default).type → ¬ l = fs.map Fd.type := fun q e => q (by
    subst e
    rw [List.getD_eq_getElem?_getD, List.getD_eq_getElem?_getD, List.getElem?_map, List.getElem?_eq_getElem hlt2]
    rfl)
  have ho := zbxk (fs.getD j default)
  generalize l.getD j default = x at *
  generalize fs.getD j default = y at *
  (try simp (maxSteps := 1000000) (disch := first | omega | (simp only [Z3]; omega) | (simp; done) | assumption | decide | (refine not_not_intro ?_; assumption)) only [Z1, zv, z6, zdv, zia, eq_self, true_and, zd7, zdn, ze8, zcc, zd8, Heap.get_push_eq, Heap.get_push_lt, Heap.get_set_eq, Heap.get_set_ne', Heap.next_push', Heap.next_set', Heap.set_push_lt, Heap.set_push_eq, Heap.set_set, zct, zcu, zb0, zcx, zcy, zbg, zb2, zcz, zco, zbz, zcp, zcq, zcr, zcs, List.set_cons_zero, List.set_cons_succ, List.length_cons, List.length_nil, List.drop_succ_cons, List.drop_zero, List.take_succ_cons, List.take_zero, List.nil_append, List.cons_append, splice, zbw, zbx, zbf, zz, zn, zby, zcv, zb1, zfj, zdw, zcw, zc0, zbt, zx, zbu, Option.map_some, zc1, zc2, zbi, zb3, zb4, zb5, zbh, zb6, zb7, zca, zdq, a1, d1, a2, d2, zbnj])
  (try simp (maxSteps := 1000000) (disch := first | omega | (simp only [Z3]; omega) | (simp; done) | assumption | decide | (refine not_not_intro ?_; assumption)) only [Z1, Z2, splice])
  show wp (zhv [i64 x, .agg #[.string y.name, i64 y.type, .bool y.set]]) _ _
  show wp (zjh (i64 x) (.agg #[.string y.name, i64 y.type, .bool y.set])) _ _
  by_cases q : x = y.type
  · (try simp (maxSteps := 1000000) (disch := first | omega | (simp only [Z3]; omega) | (simp; done) | assumption | decide | (refine not_not_intro ?_; assumption)) only [Z1, Z2, splice, zjh, decide_eq_true q, zdp])
    refine ⟨l.length - (j + 1), by omega, j + 1, rfl, by omega, by push_cast; rfl, ?_, hnj q⟩
    (repeat (first | exact Keeps.refl _ _ | assumption | apply zq | refine zbm ?_ (by simp; omega)))
  · rw [decide_eq_false (hbad q)] at hQ
    (try simp (maxSteps := 1000000) (disch := first | omega | (simp only [Z3]; omega) | (simp; done) | assumption | decide | (refine not_not_intro ?_; assumption)) only [Z1, Z2, splice, zjh, decide_eq_false q])
    exact hQ _ (by (repeat (first | exact Keeps.refl _ _ | assumption | apply zq | refine zbm ?_ (by simp; omega))))
end Go.AM.Cap
