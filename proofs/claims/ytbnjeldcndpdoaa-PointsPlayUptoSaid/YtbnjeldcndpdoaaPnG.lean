import Derived.Test.YtbnjeldcndpdoaaPnF
import Derived.Test.YtbnjeldcndpdoaaAmEval
import Derived.Test.YtbnjeldcndpdoaaAmMap
set_option linter.all false
/- points: calls, SameNums, the chapter's example -/
set_option maxHeartbeats 8000000
namespace Go.AM.Cap
open Go.AM Go.Proofs

structure QAct where
  kind : Int
  part : Int
  point : Int
  n : Int
  vv : In Int
  deriving Inhabited
def QAct.cells (p : QAct) : List V := [i64 p.kind, i64 p.part, i64 p.point, i64 p.n, p.vv.v]
instance : Flat QAct := ⟨5, QAct.cells, fun _ => rfl, fun a => by simp [QAct.cells, a.vv.one], by decide⟩
theorem enc_qact (p : QAct) : Flat.enc p = [i64 p.kind, i64 p.part, i64 p.point, i64 p.n, p.vv.v] := rfl
abbrev QAct.agg (p : QAct) : V := .agg [i64 p.kind, i64 p.part, i64 p.point, i64 p.n, p.vv.v].toArray
def amg (x n : Int) : Int := (IntKind.i64.wrap (x.tmod n + n)).tmod n
theorem amg_range (x n : Int) (h0 : 0 < n) (h1 : n ≤ 1000000) : 0 ≤ amg x n ∧ amg x n < n := by
  have a1 := Int.tmod_lt_of_pos x h0
  have a2 : -n < x.tmod n := by have := Int.lt_tmod_of_pos x h0; omega
  unfold amg
  rw [i64_in (by omega) (by omega)]
  exact ⟨Int.tmod_nonneg _ (by omega), Int.tmod_lt_of_pos _ h0⟩
theorem law19_among_eq (x n : Int) (hn : n ≠ 0) : A_law19_among [i64 x, i64 n] = ret (i64 (amg x n)) := eq_ret fun H => by
  show wp (F_law19_among (i64 x) (i64 n)) _ H
  have e : ∀ y : Int, bin .rem (i64 y) (i64 n) = some (i64 (y.tmod n)) := fun y => by simp [bin, ibin, hn]
  (try simp (maxSteps := 1000000) (disch := first | omega | (simp only [Z3]; omega) | (simp; done) | assumption | decide | (refine not_not_intro ?_; assumption)) only [Z1, Z2, splice, F_law19_among, e])
  exact ⟨rfl, trivial⟩

theorem sameNums_ok {H : Heap} {v1 v2 : V} {l1 l2 : List Int} (h1 : Sl H v1 l1) (h2 : Sl H v2 l2) (hn : l1.length ≤ 2000000) (Q : V → Heap → Prop) (hQ : Q (.bool (decide (l1 = l2))) H) : wp (A_book_SameNums [v1, v2]) Q H := by
  show wp (F_book_SameNums v1 v2) Q H
  have e1 := h1.len
  have e2 := h2.len
  by_cases c : l1.length = l2.length
  rotate_left
  · have c' : (l1.length : Int) ≠ (l2.length : Int) := by omega
    rw [decide_eq_false (fun q => c (by rw [q]))] at hQ
    (try simp (maxSteps := 1000000) (disch := first | omega | (simp only [Z3]; omega) | (simp; done) | assumption | decide | (refine not_not_intro ?_; assumption)) only [Z1, Z2, splice, F_book_SameNums, e1, e2])
    exact hQ
  have c' : (l1.length : Int) = (l2.length : Int) := by omega
  (try simp (maxSteps := 1000000) (disch := first | omega | (simp only [Z3]; omega) | (simp; done) | assumption | decide | (refine not_not_intro ?_; assumption)) only [Z1, Z2, splice, F_book_SameNums, e1, e2, book_SameNums_k4])
  refine wp_loop (Inv := fun k vs H' => ∃ i : Nat, k = l1.length - i ∧ i ≤ l1.length ∧ vs = [v1, v2, i64 i] ∧ H' = H ∧ l1.take i = l2.take i) (n := l1.length) (by unfold FUEL; omega)
    ⟨0, by omega, by omega, rfl, rfl, by simp⟩ ?_
  rintro k vs H' ⟨i, hk, hi, rfl, he, ht⟩
  rw [he]; clear he H'
  by_cases hlt : i < l1.length
  · have a1 := h1.addr1 rfl (k := .i64) (i := i) (by omega) (by omega)
    have a2 := h2.addr1 rfl (k := .i64) (i := i) (by omega) (by omega)
    have b1 : cellG (H.get (slB v1)) (slO v1 + i) = some (i64 (l1.getD i 0)) := by rw [← cellP_get, h1.cell1 rfl hlt 0]; rfl
    have b2 : cellG (H.get (slB v2)) (slO v2 + i) = some (i64 (l2.getD i 0)) := by rw [← cellP_get, h2.cell1 rfl (by omega) 0]; rfl
    rw [Int.toNat_natCast] at a1 a2
    by_cases d : l1.getD i 0 = l2.getD i 0
    · (try simp (maxSteps := 1000000) (disch := first | omega | (simp only [Z3]; omega) | (simp; done) | assumption | decide | (refine not_not_intro ?_; assumption)) only [Z1, Z2, splice, book_SameNums_l2, e1, book_SameNums_k1, a1, a2, b1, b2, book_SameNums_k0])
      refine ⟨l1.length - (i + 1), by omega, i + 1, rfl, by omega, rfl, ?_⟩
      rw [List.take_succ, List.take_succ, ht, List.getElem?_eq_getElem hlt, List.getElem?_eq_getElem (by omega)]
      rw [List.getD_eq_getElem?_getD, List.getD_eq_getElem?_getD, List.getElem?_eq_getElem hlt, List.getElem?_eq_getElem (by omega)] at d
      simp only [Option.getD_some] at d
      rw [d]
    · (try simp (maxSteps := 1000000) (disch := first | omega | (simp only [Z3]; omega) | (simp; done) | assumption | decide | (refine not_not_intro ?_; assumption)) only [Z1, Z2, splice, book_SameNums_l2, e1, book_SameNums_k1, a1, a2, b1, b2])
      rw [decide_eq_false (fun q => d (by rw [q]))] at hQ
      exact hQ
  · have hie : i = l1.length := by omega
    subst hie
    rw [List.take_length, c, List.take_length] at ht
    rw [decide_eq_true ht] at hQ
    (try simp (maxSteps := 1000000) (disch := first | omega | (simp only [Z3]; omega) | (simp; done) | assumption | decide | (refine not_not_intro ?_; assumption)) only [Z1, Z2, splice, book_SameNums_l2, e1, book_SameNums_k3])
    exact hQ

/-- a call -/
def doS (B : Bk) (a : QAct) : Bk × Int × Int :=
  if amg a.kind 7 = 0 then ((latchS B a.vv.xs).1, 0, (latchS B a.vv.xs).2) else
  if amg a.kind 7 = 1 then (B, readS B a.part a.point) else
  if amg a.kind 7 = 2 then ((writeS B a.part a.point a.n).1, 0, (writeS B a.part a.point a.n).2) else
  if amg a.kind 7 = 3 then ((endS B a.part true).1, 0, (endS B a.part true).2) else
  if amg a.kind 7 = 4 then ((endS B a.part false).1, 0, (endS B a.part false).2) else
  if amg a.kind 7 = 5 then ((forceS B a.point a.n).1, 0, (forceS B a.point a.n).2) else
  ((freeS B a.point).1, 0, (freeS B a.point).2)

end Go.AM.Cap
