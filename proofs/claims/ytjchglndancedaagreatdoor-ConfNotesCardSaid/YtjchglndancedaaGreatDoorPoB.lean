import Derived.Test.YtjchglndancedaaGreatDoorNumA
import Derived.Test.YtjchglndancedaaGreatDoorAmOpenF
set_option linter.all false
/- ports: which ports may be -/
set_option maxHeartbeats 8000000
namespace Go.AM.Cap
open Go.AM Go.Proofs
structure Port where
  kind : Int
  src : Int
  dst : Int
  typ : Int
  cap : Int
  deriving DecidableEq, Inhabited
def Port.cells (p : Port) : List V := [i64 p.kind, i64 p.src, i64 p.dst, i64 p.typ, i64 p.cap]
instance : Flat Port := ⟨5, Port.cells, fun _ => rfl, fun _ => rfl, by decide⟩
theorem z7w (p : Port) : Flat.enc p = [i64 p.kind, i64 p.src, i64 p.dst, i64 p.typ, i64 p.cap] := rfl
abbrev Port.agg (p : Port) : V := .agg [i64 p.kind, i64 p.src, i64 p.dst, i64 p.typ, i64 p.cap].toArray
theorem zbcw (x : Int) : zl1 [i64 x] = ret (.bool (decide (0 ≤ x ∧ x < 8))) := zbpp fun H => by
  show wp (zsp (i64 x)) _ H
  (repeat' (first | (simp (maxSteps := 1000000) (disch := first | omega | (simp only [Z3]; omega) | (simp; done) | assumption | decide | (refine not_not_intro ?_; assumption)) only [Z1, Z2, splice, zsp]) | (refine zsm (fun _ => ?_) (fun _ => ?_)) | (refine zw1 (fun _ => ?_) (fun _ => ?_)) | (refine zuc (fun _ => ?_) (fun _ => ?_)) | (refine zqz (fun _ => ?_) (fun _ => ?_)) | (refine zzr (fun _ => ?_) (fun _ => ?_)) | (refine z6u (fun _ => ?_) (fun _ => ?_)) | (refine z2y (fun _ => ?_) (fun _ => ?_)) | (refine zw2 (fun _ => ?_) (fun _ => ?_))))
  all_goals refine ⟨?_, by trivial⟩
  all_goals ((try simp only [true_and, and_true, false_and, and_false, true_or, or_true, false_or, or_false]); (try ((repeat' split) <;> (first | rfl | omega | (refine congrArg (Value.int _) ?_; omega) | (refine congrArg Value.bool ?_; apply decide_eq_decide.mpr; omega) | (refine congrArg Value.bool ?_; exact (decide_eq_false (by omega)).symm) | (refine congrArg Value.bool ?_; exact (decide_eq_true (by omega)).symm) | (exfalso; omega) | (simp_all; done) | (refine congrArg Value.bool ?_; apply decide_eq_decide.mpr; simp_all; done)))))
def zz8 (p : Port) : Int :=
  if p.kind ≠ 1 ∧ p.kind ≠ 2 then 91 else
  if ¬ (0 ≤ p.src ∧ p.src < 8) ∨ ¬ (0 ≤ p.dst ∧ p.dst < 8) then 1 else
  if p.src = p.dst then 4 else
  if p.typ < 1 ∨ p.typ > 3 then 40 else
  if p.kind = 1 ∧ p.cap ≠ 0 ∨ p.kind = 2 ∧ (p.cap < 1 ∨ p.cap > 16) then 1 else 0
theorem zbcx (H : Heap) (p : Port) (Q : V → Heap → Prop) (hQ : ∀ H', Keeps [] H H' → Q (i64 (zz8 p)) H') : wp (zo6 [p.agg]) Q H := by
  show wp (zsq p.agg) Q H
  (repeat' (first | (simp (maxSteps := 1000000) (disch := first | omega | (simp only [Z3]; omega) | (simp; done) | assumption | decide | (refine not_not_intro ?_; assumption)) only [Z1, Z2, splice, zsq, z1u, z1t, zbcw]) | (refine zsm (fun _ => ?_) (fun _ => ?_)) | (refine zw1 (fun _ => ?_) (fun _ => ?_)) | (refine zuc (fun _ => ?_) (fun _ => ?_)) | (refine zqz (fun _ => ?_) (fun _ => ?_)) | (refine zzr (fun _ => ?_) (fun _ => ?_)) | (refine z6u (fun _ => ?_) (fun _ => ?_)) | (refine z2y (fun _ => ?_) (fun _ => ?_)) | (refine zw2 (fun _ => ?_) (fun _ => ?_))))
  all_goals refine q_of (hQ _ (Keeps.push _ _ _)) ?_
  all_goals ((try simp only [zz8, true_and, and_true, false_and, and_false, true_or, or_true, false_or, or_false]); (try ((repeat' split) <;> (first | rfl | omega | (refine congrArg (Value.int _) ?_; omega) | (refine congrArg Value.bool ?_; apply decide_eq_decide.mpr; omega) | (refine congrArg Value.bool ?_; exact (decide_eq_false (by omega)).symm) | (refine congrArg Value.bool ?_; exact (decide_eq_true (by omega)).symm) | (exfalso; omega) | (simp_all; done) | (refine congrArg Value.bool ?_; apply decide_eq_decide.mpr; simp_all; done)))))
end Go.AM.Cap

/- ports: Check -/
set_option maxHeartbeats 8000000
namespace Go.AM.Cap
open Go.AM Go.Proofs
def chkL : Nat → List Port → Int × Int
  | _, [] => (0, 0)
  | i, p :: ps => if zz8 p ≠ 0 then ((i : Int), zz8 p) else chkL (i + 1) ps
def chkP (ls : List Port) : Int × Int := if ls.length > 16 then (-1, 2) else chkL 0 ls
theorem zbpw {α : Type} (l : List α) (i : Nat) (d : α) (h : i < l.length) : l.drop i = l.getD i d :: l.drop (i + 1) := by
  rw [List.getD_eq_getElem?_getD, List.getElem?_eq_getElem h]; exact List.drop_eq_getElem_cons h
theorem z2g (H : Heap) (lv : V) (ls : List Port) (hl : Sl H lv ls) (Q : V → Heap → Prop) (hQ : ∀ H', Keeps [] H H' → Q (.tuple #[i64 (chkP ls).1, i64 (chkP ls).2]) H') : wp (zkg [lv]) Q H := by
  show wp (zo7 lv) Q H
  by_cases h16 : (ls.length : Int) > 16
  · (try simp (maxSteps := 1000000) (disch := first | omega | (simp only [Z3]; omega) | (simp; done) | assumption | decide | (refine not_not_intro ?_; assumption)) only [Z1, Z2, splice, zo7, hl.len])
    have := hQ H (Keeps.refl _ _)
    rw [chkP, if_pos (by omega)] at this
    exact this
  have hc : chkP ls = chkL 0 ls := by rw [chkP, if_neg (by omega)]
  (try simp (maxSteps := 1000000) (disch := first | omega | (simp only [Z3]; omega) | (simp; done) | assumption | decide | (refine not_not_intro ?_; assumption)) only [Z1, Z2, splice, zo7, hl.len, z1y])
  refine zpi (Inv := fun k vs H' => ∃ i : Nat, k = ls.length - i ∧ i ≤ ls.length ∧ vs = [lv, i64 ls.length, i64 i] ∧ Keeps [] H H' ∧ chkL i (ls.drop i) = chkL 0 ls) (n := ls.length) (by unfold zem; omega)
    ⟨0, by omega, by omega, rfl, Keeps.refl _ _, rfl⟩ ?_
  rintro k vs H' ⟨i, hk, hi, rfl, kk, hi2⟩
  have hl' := hl.keep0 kk
  by_cases h : i < ls.length
  · rw [zbpw ls i default h, chkL] at hi2
    (try simp (maxSteps := 1000000) (disch := first | omega | (simp only [Z3]; omega) | (simp; done) | assumption | decide | (refine not_not_intro ?_; assumption)) only [Z1, Z2, splice, zvy, z1w, hl'.addr' (n := 5) rfl, hl'.ldn' (n := 5) rfl _ default, Int.toNat_natCast, z7w])
    refine zbcx _ (ls.getD i default) _ fun H2 k2 => ?_
    have k02 : Keeps [] H H2 := (kk.trans (Keeps.push _ _ _) (fun _ _ h => h)).trans k2 (fun _ _ h => h)
    by_cases hw : zz8 (ls.getD i default) ≠ 0
    · rw [if_pos hw] at hi2
      (try simp (maxSteps := 1000000) (disch := first | omega | (simp only [Z3]; omega) | (simp; done) | assumption | decide | (refine not_not_intro ?_; assumption)) only [Z1, Z2, splice])
      have := hQ H2 k02
      rw [hc, ← hi2] at this
      exact this
    · rw [if_neg hw] at hi2
      (try simp (maxSteps := 1000000) (disch := first | omega | (simp only [Z3]; omega) | (simp; done) | assumption | decide | (refine not_not_intro ?_; assumption)) only [Z1, Z2, splice, z1v])
      exact ⟨ls.length - (i + 1), by omega, i + 1, rfl, by omega, rfl, k02, hi2⟩
  · have : i = ls.length := by omega
    subst this
    rw [List.drop_length, chkL] at hi2
    (try simp (maxSteps := 1000000) (disch := first | omega | (simp only [Z3]; omega) | (simp; done) | assumption | decide | (refine not_not_intro ?_; assumption)) only [Z1, Z2, splice, zvy, z1x])
    have := hQ H' kk
    rw [hc, ← hi2] at this
    exact this
end Go.AM.Cap
