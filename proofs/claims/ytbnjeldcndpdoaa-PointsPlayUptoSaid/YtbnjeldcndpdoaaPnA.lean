import Derived.Test.YtbnjeldcndpdoaaNumA
import Derived.Test.YtbnjeldcndpdoaaAmMaps
import Derived.Test.YtbnjeldcndpdoaaAmMap
set_option linter.all false
/- points: the things; Check -/
set_option maxHeartbeats 8000000
namespace Go.AM.Cap
open Go.AM Go.Proofs

structure Pt where
  typ : Int
  out : Bool
  deriving DecidableEq, Inhabited
def Pt.cells (p : Pt) : List V := [i64 p.typ, .bool p.out]
instance : Flat Pt := ⟨2, Pt.cells, fun _ => rfl, fun _ => rfl, by decide⟩
theorem enc_pt (p : Pt) : Flat.enc p = [i64 p.typ, .bool p.out] := rfl
abbrev Pt.agg (p : Pt) : V := .agg [i64 p.typ, .bool p.out].toArray
structure Gr where
  part : Int
  point : Int
  write : Bool
  deriving DecidableEq, Inhabited
def Gr.cells (p : Gr) : List V := [i64 p.part, i64 p.point, .bool p.write]
instance : Flat Gr := ⟨3, Gr.cells, fun _ => rfl, fun _ => rfl, by decide⟩
theorem enc_gr (p : Gr) : Flat.enc p = [i64 p.part, i64 p.point, .bool p.write] := rfl
abbrev Gr.agg (p : Gr) : V := .agg [i64 p.part, i64 p.point, .bool p.write].toArray
instance : KeyE Gr := ⟨.agg [.i, .i, .b], Gr.agg, fun a b => by
  simp only [keyEq, eqAgg, eqKs, eqK, if_true, beq_dec]
  obtain ⟨a1, a2, a3⟩ := a
  obtain ⟨b1, b2, b3⟩ := b
  by_cases h : a1 = b1
  · by_cases h2 : a2 = b2
    · by_cases h3 : a3 = b3
      · subst h; subst h2; subst h3; simp
      · rw [decide_eq_true h, decide_eq_true h2, decide_eq_false (show ¬ Gr.mk a1 a2 a3 = Gr.mk b1 b2 b3 by simp [h3])]
        have : (a3 == b3) = false := by simpa using h3
        rw [this]
    · rw [decide_eq_true h, decide_eq_false h2, decide_eq_false (show ¬ Gr.mk a1 a2 a3 = Gr.mk b1 b2 b3 by simp [h2])]
  · rw [decide_eq_false h, decide_eq_false (show ¬ Gr.mk a1 a2 a3 = Gr.mk b1 b2 b3 by simp [h])], fun _ => rfl, fun _ => rfl⟩

/-! rules for the maps of the points -/
theorem lkGB (rw_ : Bool) (es : List (Gr × Bool)) (a b : Int) (c : Bool) : lookG (some (.map rw_ (es.map encE))) (.agg [.i, .i, .b]) (.bool false) false (.agg [i64 a, i64 b, .bool c].toArray) = some (.bool ((aget es ⟨a, b, c⟩).getD false)) := by
  have := lookG_enc rw_ es (.bool false) rfl ⟨a, b, c⟩
  rw [show KeyE.kk Gr = .agg [.i, .i, .b] from rfl, show (KeyE.enc (⟨a, b, c⟩ : Gr) : V) = .agg [i64 a, i64 b, .bool c].toArray from rfl] at this
  rw [this]
  cases aget es ⟨a, b, c⟩ <;> rfl
theorem lkIB (rw_ : Bool) (es : List (Int × Bool)) (a : Int) : lookG (some (.map rw_ (es.map encE))) (.one .i) (.bool false) false (i64 a) = some (.bool ((aget es a).getD false)) := by
  have := lookG_enc rw_ es (.bool false) rfl a
  rw [show KeyE.kk Int = .one .i from rfl, show (KeyE.enc a : V) = i64 a from rfl] at this
  rw [this]
  cases aget es a <;> rfl
theorem lkPB (rw_ : Bool) (es : List ((Int × Int) × Bool)) (a b : Int) : lookG (some (.map rw_ (es.map encE))) (.agg [.i, .i]) (.bool false) false (.agg [i64 a, i64 b].toArray) = some (.bool ((aget es (a, b)).getD false)) := by
  have := lookG_enc rw_ es (.bool false) rfl (a, b)
  rw [show KeyE.kk (Int × Int) = .agg [.i, .i] from rfl, show (KeyE.enc (a, b) : V) = .agg [i64 a, i64 b].toArray from rfl] at this
  rw [this]
  cases aget es (a, b) <;> rfl
theorem lkPB2 (rw_ : Bool) (es : List ((Int × Int) × Bool)) (a b : Int) : lookG (some (.map rw_ (es.map encE))) (.agg [.i, .i]) (.bool false) true (.agg [i64 a, i64 b].toArray) = some (.tuple #[.bool ((aget es (a, b)).getD false), .bool (aget es (a, b)).isSome]) := by
  have := lookG_enc2 rw_ es (.bool false) rfl (a, b)
  rw [show KeyE.kk (Int × Int) = .agg [.i, .i] from rfl, show (KeyE.enc (a, b) : V) = .agg [i64 a, i64 b].toArray from rfl] at this
  rw [this]
  cases aget es (a, b) <;> rfl
theorem lkII2 (rw_ : Bool) (es : List (Int × Int)) (a : Int) : lookG (some (.map rw_ (es.map encE))) (.one .i) (i64 0) true (i64 a) = some (.tuple #[i64 ((aget es a).getD 0), .bool (aget es a).isSome]) := by
  have := lookG_enc2 rw_ es (i64 0) rfl a
  rw [show KeyE.kk Int = .one .i from rfl, show (KeyE.enc a : V) = i64 a from rfl] at this
  rw [this]
  cases aget es a <;> rfl
theorem stGB (es : List (Gr × Bool)) (a b : Int) (c v : Bool) (K : Option Blk → Prop) : setG (some (.map true (es.map encE))) (.agg [.i, .i, .b]) (.agg [i64 a, i64 b, .bool c].toArray) (.bool v) K ↔ K (some (.map true ((aset es ⟨a, b, c⟩ v).map encE))) := setG_enc es (⟨a, b, c⟩ : Gr) v K
theorem stIB (es : List (Int × Bool)) (a : Int) (v : Bool) (K : Option Blk → Prop) : setG (some (.map true (es.map encE))) (.one .i) (i64 a) (.bool v) K ↔ K (some (.map true ((aset es a v).map encE))) := setG_enc es a v K
theorem stII (es : List (Int × Int)) (a v : Int) (K : Option Blk → Prop) : setG (some (.map true (es.map encE))) (.one .i) (i64 a) (i64 v) K ↔ K (some (.map true ((aset es a v).map encE))) := setG_enc es a v K
theorem stPB (es : List ((Int × Int) × Bool)) (a b : Int) (v : Bool) (K : Option Blk → Prop) : setG (some (.map true (es.map encE))) (.agg [.i, .i]) (.agg [i64 a, i64 b].toArray) (.bool v) K ↔ K (some (.map true ((aset es (a, b) v).map encE))) := setG_enc es (a, b) v K
theorem stPI (es : List ((Int × Int) × Int)) (a b v : Int) (K : Option Blk → Prop) : setG (some (.map true (es.map encE))) (.agg [.i, .i]) (.agg [i64 a, i64 b].toArray) (i64 v) K ↔ K (some (.map true ((aset es (a, b) v).map encE))) := setG_enc es (a, b) v K
theorem dlII (es : List (Int × Int)) (a : Int) (K : Option Blk → Prop) : delG (some (.map true (es.map encE))) (.one .i) (i64 a) K ↔ K (some (.map true ((adel es a).map encE))) := delG_enc es a K

theorem points_there_eq (x : Int) : A_points_there [i64 x] = ret (.bool (decide (0 ≤ x ∧ x < 8))) := eq_ret fun H => by
  show wp (F_points_there (i64 x)) _ H
  (repeat' (first | (simp (maxSteps := 1000000) (disch := first | omega | (simp only [Z3]; omega) | (simp; done) | assumption | decide | (refine not_not_intro ?_; assumption)) only [Z1, Z2, splice, F_points_there]) | (refine wp_cond_split (fun _ => ?_) (fun _ => ?_)) | (refine wp_gd_split (fun _ => ?_) (fun _ => ?_)) | (refine wp_gdf_split (fun _ => ?_) (fun _ => ?_)) | (refine wpO_pick_split (fun _ => ?_) (fun _ => ?_)) | (refine wp_cond_bs (fun _ => ?_) (fun _ => ?_)) | (refine wp_gd_bs (fun _ => ?_) (fun _ => ?_)) | (refine wp_gdf_bs (fun _ => ?_) (fun _ => ?_)) | (refine wpO_pick_bs (fun _ => ?_) (fun _ => ?_))))
  all_goals refine ⟨?_, by trivial⟩
  all_goals ((try simp only [true_and, and_true, false_and, and_false, true_or, or_true, false_or, or_false]); (try ((repeat' split) <;> (first | rfl | omega | (refine congrArg (Value.int _) ?_; omega) | (refine congrArg Value.bool ?_; apply decide_eq_decide.mpr; omega) | (refine congrArg Value.bool ?_; exact (decide_eq_false (by omega)).symm) | (refine congrArg Value.bool ?_; exact (decide_eq_true (by omega)).symm) | (exfalso; omega) | (simp_all; done) | (refine congrArg Value.bool ?_; apply decide_eq_decide.mpr; simp_all; done)))))
/-- a type that is none -/
def badT (p : Pt) : Prop := p.typ < 1 ∨ p.typ > 3
instance (p : Pt) : Decidable (badT p) := by unfold badT; exact inferInstance
theorem points_Check_1_ok (H : Heap) (p : Pt) (Q : V → Heap → Prop) (hQ : ∀ H', Keeps [] H H' → Q (.bool (decide (badT p))) H') : wp (A_points_Check_1 [p.agg]) Q H := by
  show wp (F_points_Check_1 p.agg) Q H
  (repeat' (first | (simp (maxSteps := 1000000) (disch := first | omega | (simp only [Z3]; omega) | (simp; done) | assumption | decide | (refine not_not_intro ?_; assumption)) only [Z1, Z2, splice, F_points_Check_1]) | (refine wp_cond_split (fun _ => ?_) (fun _ => ?_)) | (refine wp_gd_split (fun _ => ?_) (fun _ => ?_)) | (refine wp_gdf_split (fun _ => ?_) (fun _ => ?_)) | (refine wpO_pick_split (fun _ => ?_) (fun _ => ?_)) | (refine wp_cond_bs (fun _ => ?_) (fun _ => ?_)) | (refine wp_gd_bs (fun _ => ?_) (fun _ => ?_)) | (refine wp_gdf_bs (fun _ => ?_) (fun _ => ?_)) | (refine wpO_pick_bs (fun _ => ?_) (fun _ => ?_))))
  all_goals refine q_of (hQ _ (Keeps.push _ _ _)) ?_
  all_goals ((try simp only [badT, true_and, and_true, false_and, and_false, true_or, or_true, false_or, or_false]); (try ((repeat' split) <;> (first | rfl | omega | (refine congrArg (Value.int _) ?_; omega) | (refine congrArg Value.bool ?_; apply decide_eq_decide.mpr; omega) | (refine congrArg Value.bool ?_; exact (decide_eq_false (by omega)).symm) | (refine congrArg Value.bool ?_; exact (decide_eq_true (by omega)).symm) | (exfalso; omega) | (simp_all; done) | (refine congrArg Value.bool ?_; apply decide_eq_decide.mpr; simp_all; done)))))
abbrev SC : Calls' := ovr [(fid_points_Check_1, A_points_Check_1)] noC
theorem contains_ok (H : Heap) (lv : V) (ls : List Pt) (hl : Sl H lv ls) (hn : ls.length ≤ 1000000) (Q : V → Heap → Prop) (hQ : ∀ H', Keeps [] H H' → Q (.bool (decide (∃ p ∈ ls, badT p))) H') :
    wp (A_slices_ContainsFunc_S_api_Point_api_Point SC [lv, .func (.func fid_points_Check_1) #[] #[]]) Q H := by
  show wp (F_slices_ContainsFunc_S_api_Point_api_Point SC lv (.func (.func fid_points_Check_1) #[] #[])) Q H
  simp only [F_slices_ContainsFunc_S_api_Point_api_Point, wp_bnd]
  show wp (F_slices_IndexFunc_S_api_Point_api_Point SC lv (.func (.func fid_points_Check_1) #[] #[])) _ H
  (try simp (maxSteps := 1000000) (disch := first | omega | (simp only [Z3]; omega) | (simp; done) | assumption | decide | (refine not_not_intro ?_; assumption)) only [Z1, Z2, splice, F_slices_IndexFunc_S_api_Point_api_Point, hl.len])
  refine wp_loop (Inv := fun k vs H' => ∃ i : Nat, k = ls.length - i ∧ i ≤ ls.length ∧ vs = [lv, .func (.func fid_points_Check_1) #[] #[], i64 ls.length, i64 i] ∧ Keeps [] H H' ∧ ∀ p ∈ ls.take i, ¬ badT p) (n := ls.length) (by unfold FUEL; omega)
    ⟨0, by omega, by omega, rfl, Keeps.refl _ _, by simp⟩ ?_
  rintro k vs H' ⟨i, hk, hi, rfl, kk, hi2⟩
  have hl' := hl.keep0 kk
  by_cases h : i < ls.length
  · have hcall : ∀ x, callM (ovr [] SC) (.func (.func fid_points_Check_1) #[] #[]) [x] = A_points_Check_1 [x] := fun _ => rfl
    (try simp (maxSteps := 1000000) (disch := first | omega | (simp only [Z3]; omega) | (simp; done) | assumption | decide | (refine not_not_intro ?_; assumption)) only [Z1, Z2, splice, slices_IndexFunc_S_api_Point_api_Point_l2, slices_IndexFunc_S_api_Point_api_Point_k1, hl'.addr' (n := 2) rfl, hl'.ldn' (n := 2) rfl _ default, Int.toNat_natCast, enc_pt, hcall])
    refine points_Check_1_ok _ (ls.getD i default) _ fun H2 k2 => ?_
    have k02 : Keeps [] H H2 := kk.trans k2 (fun _ _ h => h)
    have hmem : ls.getD i default ∈ ls := by rw [List.getD_eq_getElem?_getD, List.getElem?_eq_getElem h]; exact List.getElem_mem _
    by_cases hb : badT (ls.getD i default)
    · (try simp (maxSteps := 1000000) (disch := first | omega | (simp only [Z3]; omega) | (simp; done) | assumption | decide | (refine not_not_intro ?_; assumption)) only [Z1, Z2, splice])
      have : (∃ p ∈ ls, badT p) := ⟨_, hmem, hb⟩
      have q := hQ H2 k02
      rw [decide_eq_true this] at q
      first | exact q | (rw [decide_eq_true (by omega)]; exact q)
    · (try simp (maxSteps := 1000000) (disch := first | omega | (simp only [Z3]; omega) | (simp; done) | assumption | decide | (refine not_not_intro ?_; assumption)) only [Z1, Z2, splice, slices_IndexFunc_S_api_Point_api_Point_k0])
      refine ⟨ls.length - (i + 1), by omega, i + 1, rfl, by omega, rfl, k02, fun p hp => ?_⟩
      rw [List.take_succ] at hp
      rcases List.mem_append.1 hp with q | q
      · exact hi2 p q
      · rw [List.getElem?_eq_getElem h] at q
        simp at q; subst q
        rw [List.getD_eq_getElem?_getD, List.getElem?_eq_getElem h] at hb; exact hb
  · have : i = ls.length := by omega
    subst this
    rw [List.take_length] at hi2
    (try simp (maxSteps := 1000000) (disch := first | omega | (simp only [Z3]; omega) | (simp; done) | assumption | decide | (refine not_not_intro ?_; assumption)) only [Z1, Z2, splice, slices_IndexFunc_S_api_Point_api_Point_l2, slices_IndexFunc_S_api_Point_api_Point_k3])
    have q := hQ H' kk
    rw [decide_eq_false (by rintro ⟨p, hp, hb⟩; exact hi2 p hp hb)] at q
    first | exact q | (rw [decide_eq_false (by omega)]; exact q)
end Go.AM.Cap
