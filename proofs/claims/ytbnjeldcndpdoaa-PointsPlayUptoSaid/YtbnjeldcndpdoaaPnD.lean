import Derived.Test.YtbnjeldcndpdoaaPnC
import Derived.Test.YtbnjeldcndpdoaaAmMap
set_option linter.all false
/- points: of, fits, value, grant, Read, Write, Force, Free -/
set_option maxHeartbeats 8000000
namespace Go.AM.Cap
open Go.AM Go.Proofs

theorem eqKb (a b : Bool) : notIf false (eqK .b (.bool a) (.bool b)) = some (.bool (a == b)) := rfl
/-- the points that are outputs, or inputs -/
def ofN (ls : List Pt) (out : Bool) : List Nat := (List.range ls.length).filter fun i => (ls.getD i default).out == out
def fitsB (ls : List Pt) (point n : Int) : Prop := (0 ≤ point ∧ point < ls.length) ∧ fits (ptAt ls point).typ n
instance (ls : List Pt) (point n : Int) : Decidable (fitsB ls point n) := by unfold fitsB; exact inferInstance
def valueS (B : Bk) (point : Int) : Int := (aget B.fo point).getD (B.vs.getD point.toNat 0)
def grantS (B : Bk) (part point : Int) : Bool × Int :=
  if ¬ (0 ≤ part ∧ part < 8) ∨ point < 0 ∨ point ≥ B.ls.length then (false, 1) else
  match aget B.gr (part, point) with
  | none => (false, 190)
  | some w => (w, 0)
def readS (B : Bk) (part point : Int) : Int × Int := if (grantS B part point).2 ≠ 0 then (0, (grantS B part point).2) else (valueS B point, 0)
def writeS (B : Bk) (part point n : Int) : Bk × Int :=
  if (grantS B part point).2 ≠ 0 then (B, (grantS B part point).2) else
  if (grantS B part point).1 = false then (B, 190) else
  if ¬ fitsB B.ls point n then (B, 1) else ({ B with st := aset B.st (part, point) n }, 0)
def forceS (B : Bk) (point n : Int) : Bk × Int := if ¬ fitsB B.ls point n then (B, 1) else ({ B with fo := aset B.fo point n }, 0)
def freeS (B : Bk) (point : Int) : Bk × Int := if point < 0 ∨ point ≥ B.ls.length then (B, 1) else ({ B with fo := adel B.fo point }, 0)

section
variable {H : Heap} {x : BL} {B : Bk}
theorem BankR.objc (h : BankR H x B) : H.get x.p = some (.cells true [x.lv, .map (some x.gm), slc x.va 0 1 B.ls.length B.ls.length, .map (some x.fm), .map (some x.sm)]) := h.obj
/-- a bank of which one map turns -/
theorem BankR.putS (h : BankR H x B) {H' : Heap} (st : List ((Int × Int) × Int)) (hk : Keeps [x.sm] H H') (hg : H'.get x.sm = some (.map true (st.map encE))) (ks : (st.map (·.1)).Nodup) (rs : ∀ e ∈ st, 0 ≤ e.1.2 ∧ e.1.2 < B.ls.length) : BankR H' x { B with st := st } := by
  have hd := h.dis
  simp only [BL.foot, List.nodup_cons, List.mem_cons, not_or] at hd
  obtain ⟨⟨d1, d2, d3, d4, d5⟩, ⟨d6, d7, d8, d9⟩, ⟨d10, d11, d12⟩, ⟨d13, d14⟩, d15, _⟩ := hd
  exact ⟨hk.get h.obj (by simpa using d4), h.pts.keep hk (fun b hb' => by simp; rintro rfl; exact d15 hb'), hk.get h.gr (by simpa using d8), hk.get h.vs (by simpa using d11), hk.get h.fo (by simpa using d13), hg, h.len, h.small, h.dis, ks, h.kf, rs, h.rg⟩
theorem BankR.putF (h : BankR H x B) {H' : Heap} (fo : List (Int × Int)) (hk : Keeps [x.fm] H H') (hg : H'.get x.fm = some (.map true (fo.map encE))) (kf : (fo.map (·.1)).Nodup) : BankR H' x { B with fo := fo } := by
  have hd := h.dis
  simp only [BL.foot, List.nodup_cons, List.mem_cons, not_or] at hd
  obtain ⟨⟨d1, d2, d3, d4, d5⟩, ⟨d6, d7, d8, d9⟩, ⟨d10, d11, d12⟩, ⟨d13, d14⟩, d15, _⟩ := hd
  exact ⟨hk.get h.obj (by simpa using d3), h.pts.keep hk (fun b hb' => by simp; rintro rfl; exact d14 hb'), hk.get h.gr (by simpa using d7), hk.get h.vs (by simpa using d10), hg, hk.get h.st (by simp; exact fun e => d13 e.symm), h.len, h.small, h.dis, h.ks, kf, h.rs, h.rg⟩
theorem BankR.putV (h : BankR H x B) {H' : Heap} (vs : List Int) (hk : Keeps [x.va] H H') (hg : H'.get x.va = some (.cells true (encs vs))) (hl : vs.length = B.ls.length) : BankR H' x { B with vs := vs } := by
  have hd := h.dis
  simp only [BL.foot, List.nodup_cons, List.mem_cons, not_or] at hd
  obtain ⟨⟨d1, d2, d3, d4, d5⟩, ⟨d6, d7, d8, d9⟩, ⟨d10, d11, d12⟩, ⟨d13, d14⟩, d15, _⟩ := hd
  exact ⟨hk.get h.obj (by simpa using d2), h.pts.keep hk (fun b hb' => by simp; rintro rfl; exact d12 hb'), hk.get h.gr (by simpa using d6), hg, hk.get h.fo (by simp; exact fun e => d10 e.symm), hk.get h.st (by simp; exact fun e => d11 e.symm), hl, h.small, h.dis, h.ks, h.kf, h.rs, h.rg⟩

theorem fits_ok (h : BankR H x B) (point n : Int) (Q : V → Heap → Prop) (hQ : Q (.bool (decide (fitsB B.ls point n))) H) : wp (A_points_Bank_fits [ptr x.p 0, i64 point, i64 n]) Q H := by
  show wp (F_points_Bank_fits (ptr x.p 0) (i64 point) (i64 n)) Q H
  have ho := h.objc
  have hl := h.pts.len
  by_cases h0 : 0 ≤ point
  · by_cases h1 : point < B.ls.length
    · have ha := h.pts.addr' (n := 2) rfl (k := .i64) h0 h1
      have hli : point.toNat < B.ls.length := by omega
      have hcell : cellG (H.get (slB x.lv)) (slO x.lv + point.toNat * 2) = some (i64 (ptAt B.ls point).typ) := by
        have := h.pts.cell' (n := 2) rfl hli (by decide : 0 < 2) default
        rw [Nat.add_zero] at this
        rw [← cellP_get, this]; rfl
      (try simp (maxSteps := 1000000) (disch := first | omega | (simp only [Z3]; omega) | (simp; done) | assumption | decide | (refine not_not_intro ?_; assumption)) only [Z1, Z2, splice, F_points_Bank_fits, ho, hl, ha, hcell, num_Fits_eq])
      have e : decide (fits (ptAt B.ls point).typ n) = decide (fitsB B.ls point n) := decide_eq_decide.mpr ⟨fun q => ⟨⟨h0, h1⟩, q⟩, fun q => q.2⟩
      rw [e]; exact hQ
    · (try simp (maxSteps := 1000000) (disch := first | omega | (simp only [Z3]; omega) | (simp; done) | assumption | decide | (refine not_not_intro ?_; assumption)) only [Z1, Z2, splice, F_points_Bank_fits, ho, hl])
      rw [decide_eq_false (fun q => h1 q.1.2)] at hQ
      exact hQ
  · (try simp (maxSteps := 1000000) (disch := first | omega | (simp only [Z3]; omega) | (simp; done) | assumption | decide | (refine not_not_intro ?_; assumption)) only [Z1, Z2, splice, F_points_Bank_fits, ho, hl])
    rw [decide_eq_false (fun q => h0 q.1.1)] at hQ
    exact hQ

theorem value_ok (h : BankR H x B) (point : Int) (h0 : 0 ≤ point) (h1 : point < B.ls.length) (Q : V → Heap → Prop) (hQ : Q (i64 (valueS B point)) H) : wp (A_points_Bank_value [ptr x.p 0, i64 point]) Q H := by
  show wp (F_points_Bank_value (ptr x.p 0) (i64 point)) Q H
  have ho := h.objc
  have hf := h.fo
  have hv := h.vs
  have hlen := h.len
  cases hg : aget B.fo point with
  | some n =>
    (try simp (maxSteps := 1000000) (disch := first | omega | (simp only [Z3]; omega) | (simp; done) | assumption | decide | (refine not_not_intro ?_; assumption)) only [Z1, Z2, splice, F_points_Bank_value, ho, hf, wp_lookupg, lkII2, hg, Option.isSome, Option.getD])
    rw [valueS, hg] at hQ; exact hQ
  | none =>
    have hcell : cellG (H.get x.va) point.toNat = some (i64 (B.vs.getD point.toNat 0)) := by
      rw [hv]
      show (encs B.vs)[point.toNat]? = _
      have := encs_get B.vs point.toNat 0 0 (by omega) (by decide)
      rw [show Flat.size Int = 1 from rfl, Nat.mul_one, Nat.add_zero] at this
      rw [this]; rfl
    (try simp (maxSteps := 1000000) (disch := first | omega | (simp only [Z3]; omega) | (simp; done) | assumption | decide | (refine not_not_intro ?_; assumption)) only [Z1, Z2, splice, F_points_Bank_value, ho, hf, wp_lookupg, lkII2, hg, Option.isSome, Option.getD, points_Bank_value_k0, iaddrS_slc, Nat.mul_one, hcell])
    rw [valueS, hg] at hQ; exact hQ

theorem grant_ok (h : BankR H x B) (part point : Int) (Q : V → Heap → Prop) (hQ : Q (.tuple #[.bool (grantS B part point).1, i64 (grantS B part point).2]) H) : wp (A_points_Bank_grant [ptr x.p 0, i64 part, i64 point]) Q H := by
  show wp (F_points_Bank_grant (ptr x.p 0) (i64 part) (i64 point)) Q H
  have ho := h.objc
  have hf := h.gr
  have hl := h.pts.len
  by_cases c : ¬ (0 ≤ part ∧ part < 8) ∨ point < 0 ∨ point ≥ B.ls.length
  · rw [grantS, if_pos c] at hQ
    by_cases d1 : 0 ≤ part ∧ part < 8
    · by_cases d2 : point < 0
      · (try simp (maxSteps := 1000000) (disch := first | omega | (simp only [Z3]; omega) | (simp; done) | assumption | decide | (refine not_not_intro ?_; assumption)) only [Z1, Z2, splice, F_points_Bank_grant, ho, hf, wp_lookupg, lkPB2, points_there_eq, decide_eq_true d1, hl])
        exact hQ
      · (try simp (maxSteps := 1000000) (disch := first | omega | (simp only [Z3]; omega) | (simp; done) | assumption | decide | (refine not_not_intro ?_; assumption)) only [Z1, Z2, splice, F_points_Bank_grant, ho, hf, wp_lookupg, lkPB2, points_there_eq, decide_eq_true d1, hl])
        exact hQ
    · (try simp (maxSteps := 1000000) (disch := first | omega | (simp only [Z3]; omega) | (simp; done) | assumption | decide | (refine not_not_intro ?_; assumption)) only [Z1, Z2, splice, F_points_Bank_grant, ho, hf, wp_lookupg, lkPB2, points_there_eq, decide_eq_false d1, hl])
      exact hQ
  · have d1 : 0 ≤ part ∧ part < 8 := by omega
    rw [grantS, if_neg c] at hQ
    cases hg : aget B.gr (part, point) with
    | none =>
      rw [hg] at hQ
      (try simp (maxSteps := 1000000) (disch := first | omega | (simp only [Z3]; omega) | (simp; done) | assumption | decide | (refine not_not_intro ?_; assumption)) only [Z1, Z2, splice, F_points_Bank_grant, ho, hf, wp_lookupg, lkPB2, points_there_eq, decide_eq_true d1, hl, hg, Option.isSome, Option.getD])
      exact hQ
    | some w =>
      rw [hg] at hQ
      (try simp (maxSteps := 1000000) (disch := first | omega | (simp only [Z3]; omega) | (simp; done) | assumption | decide | (refine not_not_intro ?_; assumption)) only [Z1, Z2, splice, F_points_Bank_grant, ho, hf, wp_lookupg, lkPB2, points_there_eq, decide_eq_true d1, hl, hg, Option.isSome, Option.getD, points_Bank_grant_k0])
      exact hQ
theorem grant_range {part point : Int} (h : (grantS B part point).2 = 0) : 0 ≤ point ∧ point < B.ls.length := by
  unfold grantS at h
  split at h
  · cases h
  · omega

theorem read_ok (h : BankR H x B) (part point : Int) (Q : V → Heap → Prop) (hQ : Q (.tuple #[i64 (readS B part point).1, i64 (readS B part point).2]) H) : wp (A_points_Bank_Read [ptr x.p 0, i64 part, i64 point]) Q H := by
  show wp (F_points_Bank_Read (ptr x.p 0) (i64 part) (i64 point)) Q H
  (try simp (maxSteps := 1000000) (disch := first | omega | (simp only [Z3]; omega) | (simp; done) | assumption | decide | (refine not_not_intro ?_; assumption)) only [Z1, Z2, splice, F_points_Bank_Read])
  refine grant_ok h part point _ ?_
  by_cases c : (grantS B part point).2 ≠ 0
  · rw [readS, if_pos c] at hQ
    (try simp (maxSteps := 1000000) (disch := first | omega | (simp only [Z3]; omega) | (simp; done) | assumption | decide | (refine not_not_intro ?_; assumption)) only [Z1, Z2, splice])
    exact hQ
  · rw [readS, if_neg c] at hQ
    have c' : (grantS B part point).2 = 0 := Decidable.not_not.mp c
    have hr := grant_range c'
    (try simp (maxSteps := 1000000) (disch := first | omega | (simp only [Z3]; omega) | (simp; done) | assumption | decide | (refine not_not_intro ?_; assumption)) only [Z1, Z2, splice, points_Bank_Read_k0])
    refine value_ok h point hr.1 hr.2 _ ?_
    (try simp (maxSteps := 1000000) (disch := first | omega | (simp only [Z3]; omega) | (simp; done) | assumption | decide | (refine not_not_intro ?_; assumption)) only [Z1, Z2, splice])
    exact hQ

theorem write_ok (h : BankR H x B) (part point n : Int) (Q : V → Heap → Prop) (hQ : ∀ H', BankR H' x (writeS B part point n).1 → Keeps [x.sm] H H' → Q (i64 (writeS B part point n).2) H') : wp (A_points_Bank_Write [ptr x.p 0, i64 part, i64 point, i64 n]) Q H := by
  show wp (F_points_Bank_Write (ptr x.p 0) (i64 part) (i64 point) (i64 n)) Q H
  (try simp (maxSteps := 1000000) (disch := first | omega | (simp only [Z3]; omega) | (simp; done) | assumption | decide | (refine not_not_intro ?_; assumption)) only [Z1, Z2, splice, F_points_Bank_Write])
  refine grant_ok h part point _ ?_
  by_cases c : (grantS B part point).2 ≠ 0
  · rw [writeS, if_pos c] at hQ
    (try simp (maxSteps := 1000000) (disch := first | omega | (simp only [Z3]; omega) | (simp; done) | assumption | decide | (refine not_not_intro ?_; assumption)) only [Z1, Z2, splice])
    exact hQ _ h (Keeps.refl _ _)
  rw [writeS, if_neg c] at hQ
  have c' : (grantS B part point).2 = 0 := Decidable.not_not.mp c
  have hr := grant_range c'
  cases hw : (grantS B part point).1 with
  | false =>
    rw [hw, if_pos rfl] at hQ
    (try simp (maxSteps := 1000000) (disch := first | omega | (simp only [Z3]; omega) | (simp; done) | assumption | decide | (refine not_not_intro ?_; assumption)) only [Z1, Z2, splice])
    exact hQ _ h (Keeps.refl _ _)
  | true =>
    rw [hw, if_neg (by simp)] at hQ
    (try simp (maxSteps := 1000000) (disch := first | omega | (simp only [Z3]; omega) | (simp; done) | assumption | decide | (refine not_not_intro ?_; assumption)) only [Z1, Z2, splice])
    refine fits_ok h point n _ ?_
    by_cases d : fitsB B.ls point n
    · rw [if_neg (fun q => q d)] at hQ
      have ho := h.objc
      have hs := h.st
      have l2 := Heap.get_lt hs
      have hne : x.sm ≠ x.p := by have := h.dis; simp only [BL.foot, List.nodup_cons, List.mem_cons, not_or] at this; exact fun e => this.1.2.2.2.1 e.symm
      (try simp (maxSteps := 1000000) (disch := first | omega | (simp only [Z3]; omega) | (simp; done) | assumption | decide | (refine not_not_intro ?_; assumption)) only [Z1, Z2, splice, decide_eq_true d, points_Bank_Write_k0, ho, hs, wp_mapSetg, stPI])
      refine hQ _ (h.putS _ (keeps_set (Keeps.refl _ _) (.inl (by simp))) (Heap.get_set_self l2) (aset_keys _ _ h.ks) fun e he => ?_) (keeps_set (Keeps.refl _ _) (.inl (by simp)))
      rcases mem_aset he with rfl | he
      · exact hr
      · exact h.rs e he
    · rw [if_pos d] at hQ
      (try simp (maxSteps := 1000000) (disch := first | omega | (simp only [Z3]; omega) | (simp; done) | assumption | decide | (refine not_not_intro ?_; assumption)) only [Z1, Z2, splice, decide_eq_false d])
      exact hQ _ h (Keeps.refl _ _)

theorem force_ok (h : BankR H x B) (point n : Int) (Q : V → Heap → Prop) (hQ : ∀ H', BankR H' x (forceS B point n).1 → Keeps [x.fm] H H' → Q (i64 (forceS B point n).2) H') : wp (A_points_Bank_Force [ptr x.p 0, i64 point, i64 n]) Q H := by
  show wp (F_points_Bank_Force (ptr x.p 0) (i64 point) (i64 n)) Q H
  (try simp (maxSteps := 1000000) (disch := first | omega | (simp only [Z3]; omega) | (simp; done) | assumption | decide | (refine not_not_intro ?_; assumption)) only [Z1, Z2, splice, F_points_Bank_Force])
  refine fits_ok h point n _ ?_
  by_cases d : fitsB B.ls point n
  · rw [forceS, if_neg (fun q => q d)] at hQ
    have ho := h.objc
    have hs := h.fo
    have l2 := Heap.get_lt hs
    (try simp (maxSteps := 1000000) (disch := first | omega | (simp only [Z3]; omega) | (simp; done) | assumption | decide | (refine not_not_intro ?_; assumption)) only [Z1, Z2, splice, decide_eq_true d, points_Bank_Force_k0, ho, hs, wp_mapSetg, stII])
    exact hQ _ (h.putF _ (keeps_set (Keeps.refl _ _) (.inl (by simp))) (Heap.get_set_self l2) (aset_keys _ _ h.kf)) (keeps_set (Keeps.refl _ _) (.inl (by simp)))
  · rw [forceS, if_pos d] at hQ
    (try simp (maxSteps := 1000000) (disch := first | omega | (simp only [Z3]; omega) | (simp; done) | assumption | decide | (refine not_not_intro ?_; assumption)) only [Z1, Z2, splice, decide_eq_false d])
    exact hQ _ h (Keeps.refl _ _)

theorem free_ok (h : BankR H x B) (point : Int) (Q : V → Heap → Prop) (hQ : ∀ H', BankR H' x (freeS B point).1 → Keeps [x.fm] H H' → Q (i64 (freeS B point).2) H') : wp (A_points_Bank_Free [ptr x.p 0, i64 point]) Q H := by
  show wp (F_points_Bank_Free (ptr x.p 0) (i64 point)) Q H
  have ho := h.objc
  have hs := h.fo
  have hl := h.pts.len
  have l2 := Heap.get_lt hs
  by_cases c : point < 0 ∨ point ≥ B.ls.length
  · rw [freeS, if_pos c] at hQ
    by_cases d : point < 0
    · (try simp (maxSteps := 1000000) (disch := first | omega | (simp only [Z3]; omega) | (simp; done) | assumption | decide | (refine not_not_intro ?_; assumption)) only [Z1, Z2, splice, F_points_Bank_Free, ho, hl])
      exact hQ _ h (Keeps.refl _ _)
    · (try simp (maxSteps := 1000000) (disch := first | omega | (simp only [Z3]; omega) | (simp; done) | assumption | decide | (refine not_not_intro ?_; assumption)) only [Z1, Z2, splice, F_points_Bank_Free, ho, hl])
      exact hQ _ h (Keeps.refl _ _)
  · rw [freeS, if_neg c] at hQ
    (try simp (maxSteps := 1000000) (disch := first | omega | (simp only [Z3]; omega) | (simp; done) | assumption | decide | (refine not_not_intro ?_; assumption)) only [Z1, Z2, splice, F_points_Bank_Free, ho, hl, points_Bank_Free_k0])
    refine wp_mapDelg _ _ _ _ ?_
    rw [hs]
    refine (dlII _ _ _).mpr ?_
    (try simp (maxSteps := 1000000) (disch := first | omega | (simp only [Z3]; omega) | (simp; done) | assumption | decide | (refine not_not_intro ?_; assumption)) only [Z1, Z2, splice])
    exact hQ _ (h.putF _ (keeps_set (Keeps.refl _ _) (.inl (by simp))) (Heap.get_set_self l2) (adel_keys _ h.kf)) (keeps_set (Keeps.refl _ _) (.inl (by simp)))
end
end Go.AM.Cap
