import Derived.Test.YtbnjeldcndpdoaaFun
import Derived.Test.YtbnjeldcndpdoaaAmMaps
import Derived.Test.YtbnjeldcndpdoaaAmMap
set_option linter.all false
/- num: which values fit -/
namespace Go.AM.Cap
open Go.AM Go.Proofs

theorem i64_and1 (n : Int) : bin .and (i64 n) (i64 1) = some (i64 (n % 2)) := by
  have h1 : (BitVec.ofInt 64 n &&& BitVec.ofInt 64 1).toNat = (n % 2).toNat := by
    rw [show BitVec.ofInt 64 1 = 1#64 from rfl, BitVec.toNat_and, show (1#64).toNat = 2 ^ 1 - 1 from rfl, Nat.and_two_pow_sub_one_eq_mod, BitVec.toNat_ofInt]
    omega
  have e : bin .and (i64 n) (i64 1) = some (.int .i64 (IntKind.i64.wrap ((BitVec.ofInt 64 n &&& BitVec.ofInt 64 1).toNat : Int))) := rfl
  rw [e, h1, i64_in (by omega) (by omega)]
  congr 2
  omega
theorem i16_wrap (n : Int) : IntKind.i16.wrap n = (n + 32768) % 65536 - 32768 := by simp [IntKind.wrap, IntKind.signed, IntKind.bits]; omega
theorem i32_wrap (n : Int) : IntKind.i32.wrap n = (n + 2147483648) % 4294967296 - 2147483648 := by simp [IntKind.wrap, IntKind.signed, IntKind.bits]; omega

def fits (t n : Int) : Prop := (t = 1 ∧ (n = 0 ∨ n = 1)) ∨ (t = 2 ∧ -32768 ≤ n ∧ n ≤ 32767) ∨ ((t = 3 ∨ t = 4) ∧ -2147483648 ≤ n ∧ n ≤ 2147483647)
instance (t n : Int) : Decidable (fits t n) := by unfold fits; exact inferInstance

theorem num_known_eq (t : Int) : A_num_known [i64 t] = ret (.bool (decide (1 ≤ t ∧ t ≤ 4))) := eq_ret fun H => by
  show wp (F_num_known (i64 t)) _ H
  (repeat' (first | (simp (maxSteps := 1000000) (disch := first | omega | (simp only [Z3]; omega) | (simp; done) | assumption | decide | (refine not_not_intro ?_; assumption)) only [Z1, Z2, splice, F_num_known]) | (refine wp_cond_split (fun _ => ?_) (fun _ => ?_)) | (refine wp_gd_split (fun _ => ?_) (fun _ => ?_)) | (refine wp_gdf_split (fun _ => ?_) (fun _ => ?_)) | (refine wpO_pick_split (fun _ => ?_) (fun _ => ?_)) | (refine wp_cond_bs (fun _ => ?_) (fun _ => ?_)) | (refine wp_gd_bs (fun _ => ?_) (fun _ => ?_)) | (refine wp_gdf_bs (fun _ => ?_) (fun _ => ?_)) | (refine wpO_pick_bs (fun _ => ?_) (fun _ => ?_))))
  all_goals refine ⟨?_, by trivial⟩
  all_goals ((try simp only [true_and, and_true, false_and, and_false, true_or, or_true, false_or, or_false]); (try ((repeat' split) <;> (first | rfl | omega | (refine congrArg (Value.int _) ?_; omega) | (refine congrArg Value.bool ?_; apply decide_eq_decide.mpr; omega) | (refine congrArg Value.bool ?_; exact (decide_eq_false (by omega)).symm) | (refine congrArg Value.bool ?_; exact (decide_eq_true (by omega)).symm) | (exfalso; omega) | (simp_all; done) | (refine congrArg Value.bool ?_; apply decide_eq_decide.mpr; simp_all; done)))))
def wrapT (t n : Int) : Int := if t = 1 then n % 2 else if t = 2 then (n + 32768) % 65536 - 32768 else (n + 2147483648) % 4294967296 - 2147483648
theorem num_wrap_eq (t n : Int) : A_num_wrap [i64 t, i64 n] = ret (i64 (wrapT t n)) := eq_ret fun H => by
  show wp (F_num_wrap (i64 t) (i64 n)) _ H
  (repeat' (first | (simp (maxSteps := 1000000) (disch := first | omega | (simp only [Z3]; omega) | (simp; done) | assumption | decide | (refine not_not_intro ?_; assumption)) only [Z1, Z2, splice, F_num_wrap, i64_and1, num_wrap_k0, cvi_int, i16_wrap, i32_wrap]) | (refine wp_cond_split (fun _ => ?_) (fun _ => ?_)) | (refine wp_gd_split (fun _ => ?_) (fun _ => ?_)) | (refine wp_gdf_split (fun _ => ?_) (fun _ => ?_)) | (refine wpO_pick_split (fun _ => ?_) (fun _ => ?_)) | (refine wp_cond_bs (fun _ => ?_) (fun _ => ?_)) | (refine wp_gd_bs (fun _ => ?_) (fun _ => ?_)) | (refine wp_gdf_bs (fun _ => ?_) (fun _ => ?_)) | (refine wpO_pick_bs (fun _ => ?_) (fun _ => ?_))))
  all_goals refine ⟨?_, by trivial⟩
  all_goals ((try simp only [wrapT, true_and, and_true, false_and, and_false, true_or, or_true, false_or, or_false]); (try ((repeat' split) <;> (first | rfl | omega | (refine congrArg (Value.int _) ?_; omega) | (refine congrArg Value.bool ?_; apply decide_eq_decide.mpr; omega) | (refine congrArg Value.bool ?_; exact (decide_eq_false (by omega)).symm) | (refine congrArg Value.bool ?_; exact (decide_eq_true (by omega)).symm) | (exfalso; omega) | (simp_all; done) | (refine congrArg Value.bool ?_; apply decide_eq_decide.mpr; simp_all; done)))))
theorem num_Fits_eq (t n : Int) : A_num_Fits [i64 t, i64 n] = ret (.bool (decide (fits t n))) := eq_ret fun H => by
  show wp (F_num_Fits (i64 t) (i64 n)) _ H
  (repeat' (first | (simp (maxSteps := 1000000) (disch := first | omega | (simp only [Z3]; omega) | (simp; done) | assumption | decide | (refine not_not_intro ?_; assumption)) only [Z1, Z2, splice, F_num_Fits, num_known_eq, num_wrap_eq]) | (refine wp_cond_split (fun _ => ?_) (fun _ => ?_)) | (refine wp_gd_split (fun _ => ?_) (fun _ => ?_)) | (refine wp_gdf_split (fun _ => ?_) (fun _ => ?_)) | (refine wpO_pick_split (fun _ => ?_) (fun _ => ?_)) | (refine wp_cond_bs (fun _ => ?_) (fun _ => ?_)) | (refine wp_gd_bs (fun _ => ?_) (fun _ => ?_)) | (refine wp_gdf_bs (fun _ => ?_) (fun _ => ?_)) | (refine wpO_pick_bs (fun _ => ?_) (fun _ => ?_))))
  all_goals refine ⟨?_, by trivial⟩
  all_goals (simp only [wrapT, fits]; ((try simp only [true_and, and_true, false_and, and_false, true_or, or_true, false_or, or_false]); (try ((repeat' split) <;> (first | rfl | omega | (refine congrArg (Value.int _) ?_; omega) | (refine congrArg Value.bool ?_; apply decide_eq_decide.mpr; omega) | (refine congrArg Value.bool ?_; exact (decide_eq_false (by omega)).symm) | (refine congrArg Value.bool ?_; exact (decide_eq_true (by omega)).symm) | (exfalso; omega) | (simp_all; done) | (refine congrArg Value.bool ?_; apply decide_eq_decide.mpr; simp_all; done))))))
theorem ref04_Type_eq (t : Int) : A_ref04_Type [i64 t] = ret (.bool (decide (1 ≤ t ∧ t ≤ 4))) := eq_ret fun H => by
  show wp (F_ref04_Type (i64 t)) _ H
  (repeat' (first | (simp (maxSteps := 1000000) (disch := first | omega | (simp only [Z3]; omega) | (simp; done) | assumption | decide | (refine not_not_intro ?_; assumption)) only [Z1, Z2, splice, F_ref04_Type]) | (refine wp_cond_split (fun _ => ?_) (fun _ => ?_)) | (refine wp_gd_split (fun _ => ?_) (fun _ => ?_)) | (refine wp_gdf_split (fun _ => ?_) (fun _ => ?_)) | (refine wpO_pick_split (fun _ => ?_) (fun _ => ?_)) | (refine wp_cond_bs (fun _ => ?_) (fun _ => ?_)) | (refine wp_gd_bs (fun _ => ?_) (fun _ => ?_)) | (refine wp_gdf_bs (fun _ => ?_) (fun _ => ?_)) | (refine wpO_pick_bs (fun _ => ?_) (fun _ => ?_))))
  all_goals refine ⟨?_, by trivial⟩
  all_goals ((try simp only [true_and, and_true, false_and, and_false, true_or, or_true, false_or, or_false]); (try ((repeat' split) <;> (first | rfl | omega | (refine congrArg (Value.int _) ?_; omega) | (refine congrArg Value.bool ?_; apply decide_eq_decide.mpr; omega) | (refine congrArg Value.bool ?_; exact (decide_eq_false (by omega)).symm) | (refine congrArg Value.bool ?_; exact (decide_eq_true (by omega)).symm) | (exfalso; omega) | (simp_all; done) | (refine congrArg Value.bool ?_; apply decide_eq_decide.mpr; simp_all; done)))))
theorem ref04_size_eq (t : Int) : A_ref04_size [i64 t] = ret (i64 (if t = 2 then 65536 else 4294967296)) := eq_ret fun H => by
  show wp (F_ref04_size (i64 t)) _ H
  (repeat' (first | (simp (maxSteps := 1000000) (disch := first | omega | (simp only [Z3]; omega) | (simp; done) | assumption | decide | (refine not_not_intro ?_; assumption)) only [Z1, Z2, splice, F_ref04_size, ref04_size_k0]) | (refine wp_cond_split (fun _ => ?_) (fun _ => ?_)) | (refine wp_gd_split (fun _ => ?_) (fun _ => ?_)) | (refine wp_gdf_split (fun _ => ?_) (fun _ => ?_)) | (refine wpO_pick_split (fun _ => ?_) (fun _ => ?_)) | (refine wp_cond_bs (fun _ => ?_) (fun _ => ?_)) | (refine wp_gd_bs (fun _ => ?_) (fun _ => ?_)) | (refine wp_gdf_bs (fun _ => ?_) (fun _ => ?_)) | (refine wpO_pick_bs (fun _ => ?_) (fun _ => ?_))))
  all_goals refine ⟨?_, by trivial⟩
  all_goals ((try simp only [true_and, and_true, false_and, and_false, true_or, or_true, false_or, or_false]); (try ((repeat' split) <;> (first | rfl | omega | (refine congrArg (Value.int _) ?_; omega) | (refine congrArg Value.bool ?_; apply decide_eq_decide.mpr; omega) | (refine congrArg Value.bool ?_; exact (decide_eq_false (by omega)).symm) | (refine congrArg Value.bool ?_; exact (decide_eq_true (by omega)).symm) | (exfalso; omega) | (simp_all; done) | (refine congrArg Value.bool ?_; apply decide_eq_decide.mpr; simp_all; done)))))
theorem neg_int (k : IntKind) (n : Int) : un .neg (.int k n) = some (.int k (k.wrap (0 - n))) := rfl
theorem half1 : Int.tdiv 65536 2 = (32768 : Int) := by decide
theorem half2 : Int.tdiv (0 - 65536) 2 = (-32768 : Int) := by decide
theorem half3 : Int.tdiv 4294967296 2 = (2147483648 : Int) := by decide
theorem half4 : Int.tdiv (0 - 4294967296) 2 = (-2147483648 : Int) := by decide
theorem ref04_Fits_eq (t n : Int) : A_ref04_Fits [i64 t, i64 n] = ret (.bool (decide (fits t n))) := eq_ret fun H => by
  show wp (F_ref04_Fits (i64 t) (i64 n)) _ H
  by_cases h2 : t = 2
  · subst h2
    (repeat' (first | (simp (maxSteps := 1000000) (disch := first | omega | (simp only [Z3]; omega) | (simp; done) | assumption | decide | (refine not_not_intro ?_; assumption)) only [Z1, Z2, splice, F_ref04_Fits, ref04_Fits_k0, ref04_Type_eq, ref04_size_eq, neg_int, int_quo, half1, half2, half3, half4]) | (refine wp_cond_split (fun _ => ?_) (fun _ => ?_)) | (refine wp_gd_split (fun _ => ?_) (fun _ => ?_)) | (refine wp_gdf_split (fun _ => ?_) (fun _ => ?_)) | (refine wpO_pick_split (fun _ => ?_) (fun _ => ?_)) | (refine wp_cond_bs (fun _ => ?_) (fun _ => ?_)) | (refine wp_gd_bs (fun _ => ?_) (fun _ => ?_)) | (refine wp_gdf_bs (fun _ => ?_) (fun _ => ?_)) | (refine wpO_pick_bs (fun _ => ?_) (fun _ => ?_))))
    all_goals refine ⟨?_, by trivial⟩
    all_goals (simp only [fits]; ((try simp only [true_and, and_true, false_and, and_false, true_or, or_true, false_or, or_false]); (try ((repeat' split) <;> (first | rfl | omega | (refine congrArg (Value.int _) ?_; omega) | (refine congrArg Value.bool ?_; apply decide_eq_decide.mpr; omega) | (refine congrArg Value.bool ?_; exact (decide_eq_false (by omega)).symm) | (refine congrArg Value.bool ?_; exact (decide_eq_true (by omega)).symm) | (exfalso; omega) | (simp_all; done) | (refine congrArg Value.bool ?_; apply decide_eq_decide.mpr; simp_all; done))))))
  · (repeat' (first | (simp (maxSteps := 1000000) (disch := first | omega | (simp only [Z3]; omega) | (simp; done) | assumption | decide | (refine not_not_intro ?_; assumption)) only [Z1, Z2, splice, F_ref04_Fits, ref04_Fits_k0, ref04_Type_eq, ref04_size_eq, neg_int, int_quo, half1, half2, half3, half4, if_neg h2]) | (refine wp_cond_split (fun _ => ?_) (fun _ => ?_)) | (refine wp_gd_split (fun _ => ?_) (fun _ => ?_)) | (refine wp_gdf_split (fun _ => ?_) (fun _ => ?_)) | (refine wpO_pick_split (fun _ => ?_) (fun _ => ?_)) | (refine wp_cond_bs (fun _ => ?_) (fun _ => ?_)) | (refine wp_gd_bs (fun _ => ?_) (fun _ => ?_)) | (refine wp_gdf_bs (fun _ => ?_) (fun _ => ?_)) | (refine wpO_pick_bs (fun _ => ?_) (fun _ => ?_))))
    all_goals refine ⟨?_, by trivial⟩
    all_goals (simp only [fits]; ((try simp only [true_and, and_true, false_and, and_false, true_or, or_true, false_or, or_false]); (try ((repeat' split) <;> (first | rfl | omega | (refine congrArg (Value.int _) ?_; omega) | (refine congrArg Value.bool ?_; apply decide_eq_decide.mpr; omega) | (refine congrArg Value.bool ?_; exact (decide_eq_false (by omega)).symm) | (refine congrArg Value.bool ?_; exact (decide_eq_true (by omega)).symm) | (exfalso; omega) | (simp_all; done) | (refine congrArg Value.bool ?_; apply decide_eq_decide.mpr; simp_all; done))))))
end Go.AM.Cap
