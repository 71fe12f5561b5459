import Derived.Test.YtbnjeldcndpdoaaPnF
import Derived.Test.YtbnjeldcndpdoaaAmJoin
import Derived.Test.YtbnjeldcndpdoaaAmMap
set_option linter.all false
/- points: calls, SameNums, the chapter's example -/
set_option maxHeartbeats 8000000
namespace Go.AM.Cap
open Go.AM Go.Proofs

structure QAct where
  kind : Int
  part : Int
  point : Int
  n : Int
  vv : In Int
  deriving Inhabited
def QAct.cells (p : QAct) : List V := [i64 p.kind, i64 p.part, i64 p.point, i64 p.n, p.vv.v]
instance : Flat QAct := ⟨5, QAct.cells, fun _ => rfl, fun a => by simp [QAct.cells, a.vv.one], by decide⟩
theorem enc_qact (p : QAct) : Flat.enc p = [i64 p.kind, i64 p.part, i64 p.point, i64 p.n, p.vv.v] := rfl
abbrev QAct.agg (p : QAct) : V := .agg [i64 p.kind, i64 p.part, i64 p.point, i64 p.n, p.vv.v].toArray
def amg (x n : Int) : Int := (IntKind.i64.wrap (x.tmod n + n)).tmod n
theorem amg_range (x n : Int) (h0 : 0 < n) (h1 : n ≤ 1000000) : 0 ≤ amg x n ∧ amg x n < n := by
  have a1 := Int.tmod_lt_of_pos x h0
  have a2 : -n < x.tmod n := by have := Int.lt_tmod_of_pos x h0; omega
  unfold amg
  rw [i64_in (by omega) (by omega)]
  exact ⟨Int.tmod_nonneg _ (by omega), Int.tmod_lt_of_pos _ h0⟩
theorem law19_among_eq (x n : Int) (hn : n ≠ 0) : A_law19_among [i64 x, i64 n] = ret (i64 (amg x n)) := eq_ret fun H => by
  show wp (F_law19_among (i64 x) (i64 n)) _ H
  have e : ∀ y : Int, bin .rem (i64 y) (i64 n) = some (i64 (y.tmod n)) := fun y => by simp [bin, ibin, hn]
  (try simp (maxSteps := 1000000) (disch := first | omega | (simp only [Z3]; omega) | (simp; done) | assumption | decide | (refine not_not_intro ?_; assumption)) only [Z1, Z2, splice, F_law19_among, e])
  exact ⟨rfl, trivial⟩

theorem sameNums_ok {H : Heap} {v1 v2 : V} {l1 l2 : List Int} (h1 : Sl H v1 l1) (h2 : Sl H v2 l2) (hn : l1.length ≤ 1000000) (Q : V → Heap → Prop) (hQ : Q (.bool (decide (l1 = l2))) H) : wp (A_book_SameNums [v1, v2]) Q H := by
  show wp (F_book_SameNums v1 v2) Q H
  have e1 := h1.len
  have e2 := h2.len
  by_cases c : l1.length = l2.length
  rotate_left
  · have c' : (l1.length : Int) ≠ (l2.length : Int) := by omega
    rw [decide_eq_false (fun q => c (by rw [q]))] at hQ
    (try simp (maxSteps := 1000000) (disch := first | omega | (simp only [Z3]; omega) | (simp; done) | assumption | decide | (refine not_not_intro ?_; assumption)) only [Z1, Z2, splice, F_book_SameNums, e1, e2])
    exact hQ
  have c' : (l1.length : Int) = (l2.length : Int) := by omega
  (try simp (maxSteps := 1000000) (disch := first | omega | (simp only [Z3]; omega) | (simp; done) | assumption | decide | (refine not_not_intro ?_; assumption)) only [Z1, Z2, splice, F_book_SameNums, e1, e2, book_SameNums_k4])
  refine wp_loop (Inv := fun k vs H' => ∃ i : Nat, k = l1.length - i ∧ i ≤ l1.length ∧ vs = [v1, v2, i64 i] ∧ H' = H ∧ l1.take i = l2.take i) (n := l1.length) (by unfold FUEL; omega)
    ⟨0, by omega, by omega, rfl, rfl, by simp⟩ ?_
  rintro k vs H' ⟨i, hk, hi, rfl, he, ht⟩
  rw [he]; clear he H'
  by_cases hlt : i < l1.length
  · have a1 := h1.addr1 rfl (k := .i64) (i := i) (by omega) (by omega)
    have a2 := h2.addr1 rfl (k := .i64) (i := i) (by omega) (by omega)
    have b1 : cellG (H.get (slB v1)) (slO v1 + i) = some (i64 (l1.getD i 0)) := by rw [← cellP_get, h1.cell1 rfl hlt 0]; rfl
    have b2 : cellG (H.get (slB v2)) (slO v2 + i) = some (i64 (l2.getD i 0)) := by rw [← cellP_get, h2.cell1 rfl (by omega) 0]; rfl
    rw [Int.toNat_natCast] at a1 a2
    by_cases d : l1.getD i 0 = l2.getD i 0
    · (try simp (maxSteps := 1000000) (disch := first | omega | (simp only [Z3]; omega) | (simp; done) | assumption | decide | (refine not_not_intro ?_; assumption)) only [Z1, Z2, splice, book_SameNums_l2, e1, book_SameNums_k1, a1, a2, b1, b2, book_SameNums_k0])
      refine ⟨l1.length - (i + 1), by omega, i + 1, rfl, by omega, rfl, ?_⟩
      rw [List.take_succ, List.take_succ, ht, List.getElem?_eq_getElem hlt, List.getElem?_eq_getElem (by omega)]
      rw [List.getD_eq_getElem?_getD, List.getD_eq_getElem?_getD, List.getElem?_eq_getElem hlt, List.getElem?_eq_getElem (by omega)] at d
      simp only [Option.getD_some] at d
      rw [d]
    · (try simp (maxSteps := 1000000) (disch := first | omega | (simp only [Z3]; omega) | (simp; done) | assumption | decide | (refine not_not_intro ?_; assumption)) only [Z1, Z2, splice, book_SameNums_l2, e1, book_SameNums_k1, a1, a2, b1, b2])
      rw [decide_eq_false (fun q => d (by rw [q]))] at hQ
      exact hQ
  · have hie : i = l1.length := by omega
    subst hie
    rw [List.take_length, c, List.take_length] at ht
    rw [decide_eq_true ht] at hQ
    (try simp (maxSteps := 1000000) (disch := first | omega | (simp only [Z3]; omega) | (simp; done) | assumption | decide | (refine not_not_intro ?_; assumption)) only [Z1, Z2, splice, book_SameNums_l2, e1, book_SameNums_k3])
    exact hQ

/-- a call -/
def doS (B : Bk) (a : QAct) : Bk × Int × Int :=
  if amg a.kind 7 = 0 then ((latchS B a.vv.xs).1, 0, (latchS B a.vv.xs).2) else
  if amg a.kind 7 = 1 then (B, readS B a.part a.point) else
  if amg a.kind 7 = 2 then ((writeS B a.part a.point a.n).1, 0, (writeS B a.part a.point a.n).2) else
  if amg a.kind 7 = 3 then ((endS B a.part true).1, 0, (endS B a.part true).2) else
  if amg a.kind 7 = 4 then ((endS B a.part false).1, 0, (endS B a.part false).2) else
  if amg a.kind 7 = 5 then ((forceS B a.point a.n).1, 0, (forceS B a.point a.n).2) else
  ((freeS B a.point).1, 0, (freeS B a.point).2)

theorem do_ok {H : Heap} {x : BL} {B : Bk} (h : BankR H x B) (a : QAct) (ha : Sl H a.vv.v a.vv.xs) (hax : ∀ b ∈ _root_.Go.AM.vb a.vv.v, b ≠ x.va) (Q : V → Heap → Prop) (hQ : ∀ H', BankR H' x (doS B a).1 → Keeps [x.sm, x.fm, x.va] H H' → Q (.tuple #[i64 (doS B a).2.1, i64 (doS B a).2.2]) H') : wp (A_law19_do GD [ptr x.p 0, a.agg]) Q H := by
  show wp (F_law19_do GD (ptr x.p 0) a.agg) Q H
  have k1 := Keeps.push [] H (some (.cells true [i64 a.kind, i64 a.part, i64 a.point, i64 a.n, a.vv.v]))
  have h1 := h.keep0 k1
  have ha1 := ha.keep0 k1
  have hone := a.vv.one
  (try simp (maxSteps := 1000000) (disch := first | omega | (simp only [Z3]; omega) | (simp; done) | assumption | decide | (refine not_not_intro ?_; assumption)) only [Z1, Z2, splice, F_law19_do, hone])
  refine (wp_boxg (by simp [hone])).mpr ?_
  have hg := Heap.get_push_self H (some (.cells true [i64 a.kind, i64 a.part, i64 a.point, i64 a.n, a.vv.v]))
  generalize H.push (some (.cells true [i64 a.kind, i64 a.part, i64 a.point, i64 a.n, a.vv.v])) = H1 at *
  (try simp (maxSteps := 1000000) (disch := first | omega | (simp only [Z3]; omega) | (simp; done) | assumption | decide | (refine not_not_intro ?_; assumption)) only [Z1, Z2, splice, hg, law19_among_eq])
  have hc := amg_range a.kind 7 (by omega) (by omega)
  unfold doS at hQ
  generalize amg a.kind 7 = c at *
  have key : ∀ {S : List Nat} {H2 : Heap}, Keeps S H1 H2 → (∀ b ∈ S, b ∈ [x.sm, x.fm, x.va]) → Keeps [x.sm, x.fm, x.va] H H2 := fun k hs => (k1.mono (by simp)).trans k (fun b _ hb => hs b hb)
  by_cases c0 : c = 0
  · rw [if_pos c0] at hQ
    (try simp (maxSteps := 1000000) (disch := first | omega | (simp only [Z3]; omega) | (simp; done) | assumption | decide | (refine not_not_intro ?_; assumption)) only [Z1, Z2, splice, hg])
    refine latch_ok h1 ha1 hax _ fun H2 b2 k2 => ?_
    (try simp (maxSteps := 1000000) (disch := first | omega | (simp only [Z3]; omega) | (simp; done) | assumption | decide | (refine not_not_intro ?_; assumption)) only [Z1, Z2, splice])
    exact hQ _ b2 (key k2 (by simp))
  rw [if_neg c0] at hQ
  by_cases c1 : c = 1
  · rw [if_pos c1] at hQ
    (try simp (maxSteps := 1000000) (disch := first | omega | (simp only [Z3]; omega) | (simp; done) | assumption | decide | (refine not_not_intro ?_; assumption)) only [Z1, Z2, splice, hg])
    refine read_ok h1 a.part a.point _ ?_
    (try simp (maxSteps := 1000000) (disch := first | omega | (simp only [Z3]; omega) | (simp; done) | assumption | decide | (refine not_not_intro ?_; assumption)) only [Z1, Z2, splice])
    exact hQ _ h1 (k1.mono (by simp))
  rw [if_neg c1] at hQ
  by_cases c2 : c = 2
  · rw [if_pos c2] at hQ
    (try simp (maxSteps := 1000000) (disch := first | omega | (simp only [Z3]; omega) | (simp; done) | assumption | decide | (refine not_not_intro ?_; assumption)) only [Z1, Z2, splice, hg])
    refine write_ok h1 a.part a.point a.n _ fun H2 b2 k2 => ?_
    (try simp (maxSteps := 1000000) (disch := first | omega | (simp only [Z3]; omega) | (simp; done) | assumption | decide | (refine not_not_intro ?_; assumption)) only [Z1, Z2, splice])
    exact hQ _ b2 (key k2 (by simp))
  rw [if_neg c2] at hQ
  by_cases c3 : c = 3
  · rw [if_pos c3] at hQ
    (try simp (maxSteps := 1000000) (disch := first | omega | (simp only [Z3]; omega) | (simp; done) | assumption | decide | (refine not_not_intro ?_; assumption)) only [Z1, Z2, splice, hg])
    refine commit_ok h1 a.part _ fun H2 b2 k2 => ?_
    (try simp (maxSteps := 1000000) (disch := first | omega | (simp only [Z3]; omega) | (simp; done) | assumption | decide | (refine not_not_intro ?_; assumption)) only [Z1, Z2, splice])
    exact hQ _ b2 (key k2 (by simp))
  rw [if_neg c3] at hQ
  by_cases c4 : c = 4
  · rw [if_pos c4] at hQ
    (try simp (maxSteps := 1000000) (disch := first | omega | (simp only [Z3]; omega) | (simp; done) | assumption | decide | (refine not_not_intro ?_; assumption)) only [Z1, Z2, splice, hg])
    refine drop_ok h1 a.part _ fun H2 b2 k2 => ?_
    (try simp (maxSteps := 1000000) (disch := first | omega | (simp only [Z3]; omega) | (simp; done) | assumption | decide | (refine not_not_intro ?_; assumption)) only [Z1, Z2, splice])
    exact hQ _ b2 (key k2 (by simp))
  rw [if_neg c4] at hQ
  by_cases c5 : c = 5
  · rw [if_pos c5] at hQ
    (try simp (maxSteps := 1000000) (disch := first | omega | (simp only [Z3]; omega) | (simp; done) | assumption | decide | (refine not_not_intro ?_; assumption)) only [Z1, Z2, splice, hg])
    refine force_ok h1 a.point a.n _ fun H2 b2 k2 => ?_
    (try simp (maxSteps := 1000000) (disch := first | omega | (simp only [Z3]; omega) | (simp; done) | assumption | decide | (refine not_not_intro ?_; assumption)) only [Z1, Z2, splice])
    exact hQ _ b2 (key k2 (by simp))
  rw [if_neg c5] at hQ
  (try simp (maxSteps := 1000000) (disch := first | omega | (simp only [Z3]; omega) | (simp; done) | assumption | decide | (refine not_not_intro ?_; assumption)) only [Z1, Z2, splice, hg, law19_do_k0])
  refine free_ok h1 a.point _ fun H2 b2 k2 => ?_
  (try simp (maxSteps := 1000000) (disch := first | omega | (simp only [Z3]; omega) | (simp; done) | assumption | decide | (refine not_not_intro ?_; assumption)) only [Z1, Z2, splice])
  exact hQ _ b2 (key k2 (by simp))
end Go.AM.Cap
