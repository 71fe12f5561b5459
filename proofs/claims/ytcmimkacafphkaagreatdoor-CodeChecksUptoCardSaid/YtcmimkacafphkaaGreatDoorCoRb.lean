import Derived.Test.YtcmimkacafphkaaGreatDoorCoY
import Derived.Test.YtcmimkacafphkaaGreatDoorAmOpenF
set_option linter.all false
/- code: CodeLong on the machine -/
set_option maxHeartbeats 8000000
namespace Go.AM.Cap
open Go.AM Go.Proofs

end Go.AM.Cap

/- code: the document's Has, Fields, same, block -/
set_option maxHeartbeats 16000000
namespace Go.AM.Cap
open Go.AM Go.Proofs

theorem rhas_eq (op t many : Int) : A_ref04_Has [i64 op, i64 t, i64 many] = ret (.bool (opS op t many)) := eq_ret fun H => by
  show wp (F_ref04_Has (i64 op) (i64 t) (i64 many)) _ H
  by_cases ht : 1 ≤ t ∧ t ≤ 4
  case neg =>
    rw [show opS op t many = false by unfold opS; rw [decide_eq_false ht, Bool.false_and]]
    (try simp (maxSteps := 1000000) (disch := first | omega | (simp only [Z3]; omega) | (simp; done) | assumption | decide | (refine not_not_intro ?_; assumption)) only [Z1, Z2, splice, F_ref04_Has, ref04_Type_eq, decide_eq_false ht, Bool.not_false])
  have e : opS op t many = (if many = 1 then decide ((op = 15 ∧ t ≠ 1) ∨ (op = 16 ∧ t ≠ 4))
    else if op = 1 ∨ op = 2 ∨ op = 11 ∨ op = 12 ∨ op = 13 ∨ op = 14 then decide (t ≠ 1)
    else if op = 3 ∨ op = 4 ∨ op = 5 then decide (t = 2 ∨ t = 3)
    else if op = 6 ∨ op = 7 ∨ op = 8 then decide (t ≠ 4)
    else decide (op = 9 ∨ op = 10)) := by unfold opS; rw [decide_eq_true ht, Bool.true_and]
  rw [e]
  (repeat' (first | (simp (maxSteps := 1000000) (disch := first | omega | (simp only [Z3]; omega) | (simp; done) | assumption | decide | (refine not_not_intro ?_; assumption)) only [Z1, Z2, splice, F_ref04_Has, ref04_Type_eq, decide_eq_true ht, Bool.not_true, ref04_Has_k5, ref04_Has_k4, ref04_Has_k3, ref04_Has_k2, ref04_Has_k1, ref04_Has_k0]) | (refine wp_cond_split (fun _ => ?_) (fun _ => ?_)) | (refine wp_gd_split (fun _ => ?_) (fun _ => ?_)) | (refine wp_gdf_split (fun _ => ?_) (fun _ => ?_)) | (refine wpO_pick_split (fun _ => ?_) (fun _ => ?_)) | (refine wp_cond_bs (fun _ => ?_) (fun _ => ?_)) | (refine wp_gd_bs (fun _ => ?_) (fun _ => ?_)) | (refine wp_gdf_bs (fun _ => ?_) (fun _ => ?_)) | (refine wpO_pick_bs (fun _ => ?_) (fun _ => ?_))))
  all_goals refine ⟨?_, by trivial⟩
  all_goals ((try simp only [true_and, and_true, false_and, and_false, true_or, or_true, false_or, or_false]); (try ((repeat' split) <;> (first | rfl | omega | (refine congrArg (Value.int _) ?_; omega) | (refine congrArg Value.bool ?_; apply decide_eq_decide.mpr; omega) | (refine congrArg Value.bool ?_; exact (decide_eq_false (by omega)).symm) | (refine congrArg Value.bool ?_; exact (decide_eq_true (by omega)).symm) | (exfalso; omega) | (simp_all; done) | (refine congrArg Value.bool ?_; apply decide_eq_decide.mpr; simp_all; done)))))
end Go.AM.Cap

/- code: the document's Fields -/
set_option maxHeartbeats 16000000
namespace Go.AM.Cap
open Go.AM Go.Proofs

theorem rfields_ok {H : Heap} (kind : Int) (Q : V → Heap → Prop) (h0 : ∀ H', Keeps [] H H' → fieldsS kind = none → Q (.tuple #[.slice none 0 0, i64 92]) H')
    (h1 : ∀ H' v fs, Keeps [] H H' → fieldsS kind = some (fs.map Fd.type) → Sl H' v fs → Q (.tuple #[v, i64 0]) H') : wp (A_ref09_Fields [i64 kind]) Q H := by
  show wp (F_ref09_Fields (i64 kind)) Q H
  have k0 := Keeps.refl [] H
  unfold F_ref09_Fields
  by_cases q1 : kind = 1
  · subst q1
    (try simp (maxSteps := 1000000) (disch := first | omega | (simp only [Z3]; omega) | (simp; done) | assumption | decide | (refine not_not_intro ?_; assumption)) only [Z1, Z2, splice, ref09_Fields_k0, ref09_Fields_k1, ref09_Fields_k2])
    refine (wp_bslc (by rfl) (cs := encs ([⟨⟨#[73, 78]⟩, 1, true⟩, ⟨⟨#[80, 84]⟩, 4, true⟩, ⟨⟨#[81]⟩, 1, false⟩, ⟨⟨#[69, 84]⟩, 4, false⟩, ⟨⟨#[83, 84, 65, 82, 84]⟩, 4, false⟩, ⟨⟨#[82, 85, 78]⟩, 1, false⟩] : List Fd)) (by rfl)).mpr ?_
    (try simp (maxSteps := 1000000) (disch := first | omega | (simp only [Z3]; omega) | (simp; done) | assumption | decide | (refine not_not_intro ?_; assumption)) only [Z1, Z2, splice])
    exact h1 _ _ _ (keeps_push k0) rfl (sl_fd (Heap.get_push_self _ _))
  by_cases q2 : kind = 2
  · subst q2
    (try simp (maxSteps := 1000000) (disch := first | omega | (simp only [Z3]; omega) | (simp; done) | assumption | decide | (refine not_not_intro ?_; assumption)) only [Z1, Z2, splice, ref09_Fields_k0, ref09_Fields_k1, ref09_Fields_k2])
    refine (wp_bslc (by rfl) (cs := encs ([⟨⟨#[73, 78]⟩, 1, true⟩, ⟨⟨#[80, 84]⟩, 4, true⟩, ⟨⟨#[81]⟩, 1, false⟩, ⟨⟨#[69, 84]⟩, 4, false⟩, ⟨⟨#[83, 84, 65, 82, 84]⟩, 4, false⟩, ⟨⟨#[82, 85, 78]⟩, 1, false⟩] : List Fd)) (by rfl)).mpr ?_
    (try simp (maxSteps := 1000000) (disch := first | omega | (simp only [Z3]; omega) | (simp; done) | assumption | decide | (refine not_not_intro ?_; assumption)) only [Z1, Z2, splice])
    exact h1 _ _ _ (keeps_push k0) rfl (sl_fd (Heap.get_push_self _ _))
  by_cases q3 : kind = 3
  · subst q3
    (try simp (maxSteps := 1000000) (disch := first | omega | (simp only [Z3]; omega) | (simp; done) | assumption | decide | (refine not_not_intro ?_; assumption)) only [Z1, Z2, splice, ref09_Fields_k0, ref09_Fields_k1, ref09_Fields_k2])
    refine (wp_bslc (by rfl) (cs := encs ([⟨⟨#[73, 78]⟩, 1, true⟩, ⟨⟨#[80, 84]⟩, 4, true⟩, ⟨⟨#[81]⟩, 1, false⟩, ⟨⟨#[69, 84]⟩, 4, false⟩, ⟨⟨#[83, 84, 65, 82, 84]⟩, 4, false⟩, ⟨⟨#[82, 85, 78]⟩, 1, false⟩] : List Fd)) (by rfl)).mpr ?_
    (try simp (maxSteps := 1000000) (disch := first | omega | (simp only [Z3]; omega) | (simp; done) | assumption | decide | (refine not_not_intro ?_; assumption)) only [Z1, Z2, splice])
    exact h1 _ _ _ (keeps_push k0) rfl (sl_fd (Heap.get_push_self _ _))
  by_cases q4 : kind = 4
  · subst q4
    (try simp (maxSteps := 1000000) (disch := first | omega | (simp only [Z3]; omega) | (simp; done) | assumption | decide | (refine not_not_intro ?_; assumption)) only [Z1, Z2, splice, ref09_Fields_k0, ref09_Fields_k1, ref09_Fields_k2])
    refine (wp_bslc (by rfl) (cs := encs ([⟨⟨#[67, 85]⟩, 1, true⟩, ⟨⟨#[82]⟩, 1, true⟩, ⟨⟨#[80, 86]⟩, 2, true⟩, ⟨⟨#[81]⟩, 1, false⟩, ⟨⟨#[67, 86]⟩, 2, false⟩, ⟨⟨#[77]⟩, 1, false⟩] : List Fd)) (by rfl)).mpr ?_
    (try simp (maxSteps := 1000000) (disch := first | omega | (simp only [Z3]; omega) | (simp; done) | assumption | decide | (refine not_not_intro ?_; assumption)) only [Z1, Z2, splice])
    exact h1 _ _ _ (keeps_push k0) rfl (sl_fd (Heap.get_push_self _ _))
  by_cases q5 : kind = 5
  · subst q5
    (try simp (maxSteps := 1000000) (disch := first | omega | (simp only [Z3]; omega) | (simp; done) | assumption | decide | (refine not_not_intro ?_; assumption)) only [Z1, Z2, splice, ref09_Fields_k0, ref09_Fields_k1, ref09_Fields_k2])
    refine (wp_bslc (by rfl) (cs := encs ([⟨⟨#[67, 68]⟩, 1, true⟩, ⟨⟨#[76, 68]⟩, 1, true⟩, ⟨⟨#[80, 86]⟩, 2, true⟩, ⟨⟨#[81]⟩, 1, false⟩, ⟨⟨#[67, 86]⟩, 2, false⟩, ⟨⟨#[77]⟩, 1, false⟩] : List Fd)) (by rfl)).mpr ?_
    (try simp (maxSteps := 1000000) (disch := first | omega | (simp only [Z3]; omega) | (simp; done) | assumption | decide | (refine not_not_intro ?_; assumption)) only [Z1, Z2, splice])
    exact h1 _ _ _ (keeps_push k0) rfl (sl_fd (Heap.get_push_self _ _))
  by_cases q6 : kind = 6
  · subst q6
    (try simp (maxSteps := 1000000) (disch := first | omega | (simp only [Z3]; omega) | (simp; done) | assumption | decide | (refine not_not_intro ?_; assumption)) only [Z1, Z2, splice, ref09_Fields_k0, ref09_Fields_k1, ref09_Fields_k2])
    refine (wp_bslc (by rfl) (cs := encs ([⟨⟨#[67, 76, 75]⟩, 1, true⟩, ⟨⟨#[81]⟩, 1, false⟩, ⟨⟨#[77]⟩, 1, false⟩] : List Fd)) (by rfl)).mpr ?_
    (try simp (maxSteps := 1000000) (disch := first | omega | (simp only [Z3]; omega) | (simp; done) | assumption | decide | (refine not_not_intro ?_; assumption)) only [Z1, Z2, splice])
    exact h1 _ _ _ (keeps_push k0) rfl (sl_fd (Heap.get_push_self _ _))
  by_cases q7 : kind = 7
  · subst q7
    (try simp (maxSteps := 1000000) (disch := first | omega | (simp only [Z3]; omega) | (simp; done) | assumption | decide | (refine not_not_intro ?_; assumption)) only [Z1, Z2, splice, ref09_Fields_k0, ref09_Fields_k1, ref09_Fields_k2])
    refine (wp_bslc (by rfl) (cs := encs ([⟨⟨#[67, 76, 75]⟩, 1, true⟩, ⟨⟨#[81]⟩, 1, false⟩, ⟨⟨#[77]⟩, 1, false⟩] : List Fd)) (by rfl)).mpr ?_
    (try simp (maxSteps := 1000000) (disch := first | omega | (simp only [Z3]; omega) | (simp; done) | assumption | decide | (refine not_not_intro ?_; assumption)) only [Z1, Z2, splice])
    exact h1 _ _ _ (keeps_push k0) rfl (sl_fd (Heap.get_push_self _ _))
  by_cases q8 : kind = 8
  · subst q8
    (try simp (maxSteps := 1000000) (disch := first | omega | (simp only [Z3]; omega) | (simp; done) | assumption | decide | (refine not_not_intro ?_; assumption)) only [Z1, Z2, splice, ref09_Fields_k0, ref09_Fields_k1, ref09_Fields_k2])
    refine (wp_bslc (by rfl) (cs := encs ([⟨⟨#[83, 49]⟩, 1, true⟩, ⟨⟨#[82]⟩, 1, true⟩, ⟨⟨#[81, 49]⟩, 1, false⟩] : List Fd)) (by rfl)).mpr ?_
    (try simp (maxSteps := 1000000) (disch := first | omega | (simp only [Z3]; omega) | (simp; done) | assumption | decide | (refine not_not_intro ?_; assumption)) only [Z1, Z2, splice])
    exact h1 _ _ _ (keeps_push k0) rfl (sl_fd (Heap.get_push_self _ _))
  by_cases q9 : kind = 9
  · subst q9
    (try simp (maxSteps := 1000000) (disch := first | omega | (simp only [Z3]; omega) | (simp; done) | assumption | decide | (refine not_not_intro ?_; assumption)) only [Z1, Z2, splice, ref09_Fields_k0, ref09_Fields_k1, ref09_Fields_k2])
    refine (wp_bslc (by rfl) (cs := encs ([⟨⟨#[83]⟩, 1, true⟩, ⟨⟨#[82, 49]⟩, 1, true⟩, ⟨⟨#[81, 49]⟩, 1, false⟩] : List Fd)) (by rfl)).mpr ?_
    (try simp (maxSteps := 1000000) (disch := first | omega | (simp only [Z3]; omega) | (simp; done) | assumption | decide | (refine not_not_intro ?_; assumption)) only [Z1, Z2, splice])
    exact h1 _ _ _ (keeps_push k0) rfl (sl_fd (Heap.get_push_self _ _))
  by_cases q10 : kind = 10
  · subst q10
    (try simp (maxSteps := 1000000) (disch := first | omega | (simp only [Z3]; omega) | (simp; done) | assumption | decide | (refine not_not_intro ?_; assumption)) only [Z1, Z2, splice, ref09_Fields_k0, ref09_Fields_k1, ref09_Fields_k2])
    refine (wp_bslc (by rfl) (cs := encs ([⟨⟨#[65]⟩, 1, true⟩, ⟨⟨#[66]⟩, 1, true⟩, ⟨⟨#[82]⟩, 1, true⟩, ⟨⟨#[67, 86]⟩, 3, false⟩, ⟨⟨#[69, 82, 82]⟩, 1, false⟩, ⟨⟨#[76, 65, 83, 84]⟩, 2, false⟩] : List Fd)) (by rfl)).mpr ?_
    (try simp (maxSteps := 1000000) (disch := first | omega | (simp only [Z3]; omega) | (simp; done) | assumption | decide | (refine not_not_intro ?_; assumption)) only [Z1, Z2, splice])
    exact h1 _ _ _ (keeps_push k0) rfl (sl_fd (Heap.get_push_self _ _))
  (try simp (maxSteps := 1000000) (disch := first | omega | (simp only [Z3]; omega) | (simp; done) | assumption | decide | (refine not_not_intro ?_; assumption)) only [Z1, Z2, splice, ref09_Fields_k0, ref09_Fields_k1, ref09_Fields_k2])
  exact h0 _ k0 (by unfold fieldsS; rw [if_neg (by omega), if_neg (by omega), if_neg (by omega), if_neg (by omega), if_neg (by omega)])
end Go.AM.Cap
