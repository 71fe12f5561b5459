import Derived.Test.YtbnjeldcndpdoaaPnK
set_option linter.all false
/- points: a point that is forced, the plain law -/
set_option maxHeartbeats 4000000
namespace Go.AM.Cap
open Go.AM Go.Proofs

/-- the same bank, with other forced points -/
def Bk.wf (B : Bk) (f : List (Int × Int)) : Bk := { B with fo := f }
theorem wf_fo {B : Bk} {f : List (Int × Int)} : (B.wf f).fo = f := rfl
theorem latch_wf (B : Bk) (f : List (Int × Int)) (ns : List Int) : latchS (B.wf f) ns = ((latchS B ns).1.wf f, (latchS B ns).2) := by
  have e : latchOK (B.wf f) ns ↔ latchOK B ns := Iff.rfl
  unfold latchS
  by_cases h : (ofN B.ls false).length ≠ ns.length
  · rw [if_pos h, if_pos (show (ofN (B.wf f).ls false).length ≠ ns.length from h)]
  · rw [if_neg h, if_neg (show ¬ (ofN (B.wf f).ls false).length ≠ ns.length from h)]
    by_cases h2 : ¬ latchOK B ns
    · rw [if_pos h2, if_pos (show ¬ latchOK (B.wf f) ns from h2)]
    · rw [if_neg h2, if_neg (show ¬ ¬ latchOK (B.wf f) ns from h2)]
      rfl
theorem grant_wf (B : Bk) (f : List (Int × Int)) (part point : Int) : grantS (B.wf f) part point = grantS B part point := rfl
theorem write_wf (B : Bk) (f : List (Int × Int)) (part point n : Int) : writeS (B.wf f) part point n = ((writeS B part point n).1.wf f, (writeS B part point n).2) := by
  unfold writeS
  rw [grant_wf]
  by_cases h : (grantS B part point).2 ≠ 0
  · rw [if_pos h, if_pos h]
  · rw [if_neg h, if_neg h]
    by_cases h2 : (grantS B part point).1 = false
    · rw [if_pos h2, if_pos h2]
    · rw [if_neg h2, if_neg h2]
      by_cases h3 : ¬ fitsB B.ls point n
      · rw [if_pos h3, if_pos (show ¬ fitsB (B.wf f).ls point n from h3)]
      · rw [if_neg h3, if_neg (show ¬ ¬ fitsB (B.wf f).ls point n from h3)]
        rfl
theorem end_wf (B : Bk) (f : List (Int × Int)) (part : Int) (c : Bool) : endS (B.wf f) part c = ((endS B part c).1.wf f, (endS B part c).2) := by
  unfold endS
  split <;> rfl
/-- a call on a bank with a point that is forced -/
theorem do_wf {B : Bk} {f : List (Int × Int)} {a : QAct} (hk : amg a.kind 7 ≤ 4) (hr := amg_range a.kind 7 (by omega) (by omega)) :
    (doS (B.wf f) a).1 = (doS B a).1.wf f ∧ (doS (B.wf f) a).2.2 = (doS B a).2.2 ∧ (amg a.kind 7 ≠ 1 → (doS (B.wf f) a).2.1 = (doS B a).2.1) ∧ (amg a.kind 7 = 1 → (doS B a).2 = readS B a.part a.point ∧ (doS (B.wf f) a).2 = readS (B.wf f) a.part a.point) := by
  unfold doS
  by_cases c0 : amg a.kind 7 = 0
  · rw [if_pos c0, if_pos c0, latch_wf]
    exact ⟨rfl, rfl, fun _ => rfl, fun q => absurd (c0.symm.trans q) (by decide)⟩
  by_cases c1 : amg a.kind 7 = 1
  · rw [if_neg c0, if_pos c1, if_neg c0, if_pos c1]
    refine ⟨rfl, ?_, fun q => absurd c1 q, fun _ => ⟨rfl, rfl⟩⟩
    unfold readS
    rw [grant_wf]
    split <;> rfl
  by_cases c2 : amg a.kind 7 = 2
  · rw [if_neg c0, if_neg c1, if_pos c2, if_neg c0, if_neg c1, if_pos c2, write_wf]
    exact ⟨rfl, rfl, fun _ => rfl, fun q => absurd q c1⟩
  by_cases c3 : amg a.kind 7 = 3
  · rw [if_neg c0, if_neg c1, if_neg c2, if_pos c3, if_neg c0, if_neg c1, if_neg c2, if_pos c3, end_wf]
    exact ⟨rfl, rfl, fun _ => rfl, fun q => absurd q c1⟩
  · have c4 : amg a.kind 7 = 4 := by omega
    rw [if_neg c0, if_neg c1, if_neg c2, if_neg c3, if_pos c4, if_neg c0, if_neg c1, if_neg c2, if_neg c3, if_pos c4, end_wf]
    exact ⟨rfl, rfl, fun _ => rfl, fun q => absurd q c1⟩
theorem read_wf {B : Bk} (hfo : B.fo = []) {at_ v : Int} {part point : Int} : (readS (B.wf [(at_, v)]) part point).2 = (readS B part point).2 ∧ (point ≠ at_ → (readS (B.wf [(at_, v)]) part point).1 = (readS B part point).1) ∧ (point = at_ → (readS B part point).2 = 0 → (readS (B.wf [(at_, v)]) part point).1 = v) := by
  unfold readS
  rw [grant_wf]
  by_cases h : (grantS B part point).2 ≠ 0
  · rw [if_pos h, if_pos h]
    exact ⟨rfl, fun _ => rfl, fun _ q => absurd q h⟩
  · rw [if_neg h, if_neg h]
    refine ⟨rfl, fun q => ?_, fun q _ => ?_⟩
    · unfold valueS
      rw [hfo, wf_fo]
      simp only [aget]
      rw [if_neg q]
      rfl
    · subst q
      unfold valueS
      rw [wf_fo]
      simp [aget]
theorem value_wf {B : Bk} (hfo : B.fo = []) {at_ v : Int} (point : Int) : valueS (B.wf [(at_, v)]) point = if point = at_ then v else valueS B point := by
  unfold valueS
  rw [hfo, wf_fo]
  by_cases q : point = at_
  · subst q; simp [aget]
  · simp only [aget]
    rw [if_neg q, if_neg q]
    rfl
theorem doS_fo {B : Bk} {a : QAct} (hk : amg a.kind 7 ≤ 4) (hr := amg_range a.kind 7 (by omega) (by omega)) : (doS B a).1.fo = B.fo := by
  have h1 : (latchS B a.vv.xs).1.fo = B.fo := by unfold latchS; split; rfl; split <;> rfl
  have h2 : (writeS B a.part a.point a.n).1.fo = B.fo := by unfold writeS; split; rfl; split; rfl; split <;> rfl
  have h3 : ∀ c, (endS B a.part c).1.fo = B.fo := fun c => by unfold endS; split <;> rfl
  unfold doS
  by_cases c0 : amg a.kind 7 = 0
  · rw [if_pos c0]; exact h1
  by_cases c1 : amg a.kind 7 = 1
  · rw [if_neg c0, if_pos c1]
  by_cases c2 : amg a.kind 7 = 2
  · rw [if_neg c0, if_neg c1, if_pos c2]; exact h2
  by_cases c3 : amg a.kind 7 = 3
  · rw [if_neg c0, if_neg c1, if_neg c2, if_pos c3]; exact h3 _
  · have c4 : amg a.kind 7 = 4 := by omega
    rw [if_neg c0, if_neg c1, if_neg c2, if_neg c3, if_pos c4]; exact h3 _
theorem doS_ls (B : Bk) (a : QAct) : (doS B a).1.ls = B.ls := by
  have h1 : (latchS B a.vv.xs).1.ls = B.ls := by unfold latchS; split; rfl; split <;> rfl
  have h2 : (writeS B a.part a.point a.n).1.ls = B.ls := by unfold writeS; split; rfl; split; rfl; split <;> rfl
  have h3 : ∀ c, (endS B a.part c).1.ls = B.ls := fun c => by unfold endS; split <;> rfl
  have h4 : (forceS B a.point a.n).1.ls = B.ls := by unfold forceS; split <;> rfl
  have h5 : (freeS B a.point).1.ls = B.ls := by unfold freeS; split <;> rfl
  unfold doS
  repeat' (first | (split; assumption) | (split; rfl) | (split; exact h3 _) | assumption)
/-- how many outputs lie ahead of a point -/
def nOut (ls : List Pt) (i : Nat) : Nat := ((List.range i).filter fun j => (ls.getD j default).out == true).length
theorem nOut_succ (ls : List Pt) (i : Nat) : nOut ls (i + 1) = nOut ls i + if (ls.getD i default).out = true then 1 else 0 := by
  unfold nOut
  rw [ofN_snoc]
  rw [List.length_append]
  cases h : (ls.getD i default).out <;> simp
theorem ofN_at {ls : List Pt} {i : Nat} (hi : i < ls.length) (ho : (ls.getD i default).out = true) : nOut ls i < (ofN ls true).length ∧ (ofN ls true).getD (nOut ls i) 0 = i := by
  have e : ofN ls true = ((List.range i).filter fun j => (ls.getD j default).out == true) ++ ((List.range' i (ls.length - i)).filter fun j => (ls.getD j default).out == true) := by
    unfold ofN
    rw [← List.filter_append]
    congr 1
    rw [List.range_eq_range', List.range_eq_range', show ls.length = i + (ls.length - i) by omega, ← List.range'_append_1]
    simp
  obtain ⟨m, hm⟩ : ∃ m, ls.length - i = m + 1 := ⟨ls.length - i - 1, by omega⟩
  rw [hm, List.range'_succ, List.filter_cons_of_pos (by rw [ho]; rfl)] at e
  rw [e]
  refine ⟨by rw [List.length_append]; simp [nOut], ?_⟩
  unfold nOut
  rw [List.getD_eq_getElem?_getD, List.getElem?_append_right (Nat.le_refl _), Nat.sub_self]
  rfl
end Go.AM.Cap
