import Derived.Test.YtbnjeldcndpdoaaPnS
import Derived.Test.YtbnjeldcndpdoaaAmMap
set_option linter.all false
/- points: the document's there, may, value, Read, Write, Force, Free -/
set_option maxHeartbeats 8000000
namespace Go.AM.Cap
open Go.AM Go.Proofs

def thereP (ls : List Pt) (part point : Int) : Prop := (0 ≤ part ∧ part < 8) ∧ 0 ≤ point ∧ point < ls.length
instance (ls : List Pt) (part point : Int) : Decidable (thereP ls part point) := by unfold thereP; exact inferInstance
def mayP (gs : List Gr) (part point : Int) (write : Bool) : Prop := ∃ g ∈ gs, g.part = part ∧ g.point = point ∧ (g.write = true ∨ write = false)
instance (gs : List Gr) (part point : Int) (write : Bool) : Decidable (mayP gs part point write) := by unfold mayP; exact inferInstance
def valueR (R : Rk) (point : Int) : Int := if R.fb.getD point.toNat false = true then R.tv.getD point.toNat 0 else R.vs.getD point.toNat 0
def readR (R : Rk) (part point : Int) : Int × Int := if ¬ thereP R.ls part point then (0, 1) else if ¬ mayP R.gs part point false then (0, 190) else (valueR R point, 0)
def writeR (R : Rk) (part point n : Int) : Rk × Int :=
  if ¬ thereP R.ls part point then (R, 1) else if ¬ mayP R.gs part point true then (R, 190) else
  if ¬ fits (ptAt R.ls point).typ n then (R, 1) else ({ R with ss := R.ss ++ [⟨part, point, n⟩] }, 0)
def forceR (R : Rk) (point n : Int) : Rk × Int := if ¬ (thereP R.ls 0 point ∧ fits (ptAt R.ls point).typ n) then (R, 1) else ({ R with fb := R.fb.set point.toNat true, tv := R.tv.set point.toNat n }, 0)
def freeR (R : Rk) (point : Int) : Rk × Int := if ¬ thereP R.ls 0 point then (R, 1) else ({ R with fb := R.fb.set point.toNat false }, 0)
/-- how a bank of the document turns -/
structure Tn (x : RL) (H : Heap) (x' : RL) (H' : Heap) : Prop where
  p : x'.p = x.p
  k : Keeps x.wr H H'
  f : ∀ b ∈ x'.foot, b ∈ x.foot ∨ H.next ≤ b
theorem Tn.refl (x : RL) (H : Heap) : Tn x H x H := ⟨rfl, Keeps.refl _ _, fun _ h => .inl h⟩

section
variable {H : Heap} {x : RL} {R : Rk}
theorem there_ok (h : RbR H x R) (part point : Int) (Q : V → Heap → Prop) (hQ : Q (.bool (decide (thereP R.ls part point))) H) : wp (A_ref19_Bank_there [ptr x.p 0, i64 part, i64 point]) Q H := by
  show wp (F_ref19_Bank_there (ptr x.p 0) (i64 part) (i64 point)) Q H
  have ho := h.obj
  have hl := h.pts.len
  by_cases d1 : part ≥ 0
  rotate_left
  · rw [decide_eq_false (fun q => d1 q.1.1)] at hQ
    (try simp (maxSteps := 1000000) (disch := first | omega | (simp only [Z3]; omega) | (simp; done) | assumption | decide | (refine not_not_intro ?_; assumption)) only [Z1, Z2, splice, F_ref19_Bank_there, decide_eq_false d1])
    exact hQ
  by_cases d2 : part < 8
  rotate_left
  · rw [decide_eq_false (fun q => d2 q.1.2)] at hQ
    (try simp (maxSteps := 1000000) (disch := first | omega | (simp only [Z3]; omega) | (simp; done) | assumption | decide | (refine not_not_intro ?_; assumption)) only [Z1, Z2, splice, F_ref19_Bank_there, decide_eq_true d1, decide_eq_false d2])
    exact hQ
  by_cases d3 : point ≥ 0
  rotate_left
  · rw [decide_eq_false (fun q => d3 q.2.1)] at hQ
    (try simp (maxSteps := 1000000) (disch := first | omega | (simp only [Z3]; omega) | (simp; done) | assumption | decide | (refine not_not_intro ?_; assumption)) only [Z1, Z2, splice, F_ref19_Bank_there, decide_eq_true d1, decide_eq_true d2, decide_eq_false d3])
    exact hQ
  have e : decide (thereP R.ls part point) = decide (point < (R.ls.length : Int)) := decide_eq_decide.2 ⟨fun q => q.2.2, fun q => ⟨⟨d1, d2⟩, d3, q⟩⟩
  rw [e] at hQ
  (try simp (maxSteps := 1000000) (disch := first | omega | (simp only [Z3]; omega) | (simp; done) | assumption | decide | (refine not_not_intro ?_; assumption)) only [Z1, Z2, splice, F_ref19_Bank_there, decide_eq_true d1, decide_eq_true d2, decide_eq_true d3, ho, hl])
  exact hQ
theorem may_ok (h : RbR H x R) (part point : Int) (write : Bool) (Q : V → Heap → Prop) (hQ : Q (.bool (decide (mayP R.gs part point write))) H) : wp (A_ref19_Bank_may [ptr x.p 0, i64 part, i64 point, .bool write]) Q H := by
  show wp (F_ref19_Bank_may (ptr x.p 0) (i64 part) (i64 point) (.bool write)) Q H
  have ho := h.obj
  have hl := h.grs.len
  have hsm := h.gsm
  (try simp (maxSteps := 1000000) (disch := first | omega | (simp only [Z3]; omega) | (simp; done) | assumption | decide | (refine not_not_intro ?_; assumption)) only [Z1, Z2, splice, F_ref19_Bank_may])
  refine wp_loop (Inv := fun k vs H' => ∃ (i : Nat), k = R.gs.length - i ∧ i ≤ R.gs.length ∧ vs = [ptr x.p 0, i64 part, i64 point, .bool write, i64 i] ∧ H' = H ∧ ¬ mayP (R.gs.take i) part point write) (n := R.gs.length) (by unfold FUEL; omega)
    ⟨0, by omega, by omega, rfl, rfl, by simp [mayP]⟩ ?_
  rintro k vs H' ⟨i, hk, hi, rfl, he, hd⟩
  rw [he]; clear he H'
  by_cases hlt : i < R.gs.length
  case neg =>
    have : i = R.gs.length := by omega
    subst this
    rw [List.take_length] at hd
    rw [decide_eq_false hd] at hQ
    (try simp (maxSteps := 1000000) (disch := first | omega | (simp only [Z3]; omega) | (simp; done) | assumption | decide | (refine not_not_intro ?_; assumption)) only [Z1, Z2, splice, ref19_Bank_may_l2, ho, hl, ref19_Bank_may_k3])
    exact hQ
  obtain ⟨q1, q2⟩ := sl_get h.grs (n := 3) rfl hlt
  have c0 := h.grs.cell' (n := 3) rfl (off := 0) hlt (by omega) default
  have c1 := h.grs.cell' (n := 3) rfl (off := 1) hlt (by omega) default
  have c2 := h.grs.cell' (n := 3) rfl (off := 2) hlt (by omega) default
  rw [cellP_get] at c0 c1 c2
  rw [Nat.add_zero] at c0
  have hmem : R.gs.getD i default ∈ R.gs := by
    rw [List.getD_eq_getElem?_getD, List.getElem?_eq_getElem hlt]; exact List.getElem_mem _
  have hst : ∀ g ∈ R.gs.take (i + 1), g ∈ R.gs.take i ∨ g = R.gs.getD i default := fun g hm => by
    rw [List.take_succ] at hm
    rcases List.mem_append.1 hm with q | q
    · exact .inl q
    · rw [List.getElem?_eq_getElem hlt] at q
      rw [List.getD_eq_getElem?_getD, List.getElem?_eq_getElem hlt]
      simp at q; exact .inr q
  generalize R.gs.getD i default = g at *
  have c0' : cellG (H.get (slB x.gv)) (slO x.gv + i * 3) = some (i64 g.part) := c0
  have c1' : cellG (H.get (slB x.gv)) (slO x.gv + i * 3 + 1) = some (i64 g.point) := c1
  have c2' : cellG (H.get (slB x.gv)) (slO x.gv + i * 3 + 2) = some (.bool g.write) := c2
  have next : ¬ (g.part = part ∧ g.point = point ∧ (g.write = true ∨ write = false)) → ¬ mayP (R.gs.take (i + 1)) part point write := fun q ⟨f, hm, hf⟩ => by
    rcases hst f hm with e | e
    · exact hd ⟨f, e, hf⟩
    · subst e; exact q hf
  have yes : (g.part = part ∧ g.point = point ∧ (g.write = true ∨ write = false)) → Q (.bool true) H := fun q => by
    rw [decide_eq_true (show mayP R.gs part point write from ⟨g, hmem, q⟩)] at hQ; exact hQ
  by_cases d1 : g.part = part
  rotate_left
  · have nx := next fun q => d1 q.1
    (try simp (maxSteps := 1000000) (disch := first | omega | (simp only [Z3]; omega) | (simp; done) | assumption | decide | (refine not_not_intro ?_; assumption)) only [Z1, Z2, splice, ref19_Bank_may_l2, ho, hl, ref19_Bank_may_k1, q1, c0', decide_eq_false d1, ref19_Bank_may_k0])
    refine ⟨R.gs.length - (i + 1), by omega, i + 1, rfl, by omega, rfl, ?_⟩
    first | exact nx | exact ⟨trivial, nx⟩ | exact ⟨rfl, nx⟩
  by_cases d2 : g.point = point
  rotate_left
  · have nx := next fun q => d2 q.2.1
    (try simp (maxSteps := 1000000) (disch := first | omega | (simp only [Z3]; omega) | (simp; done) | assumption | decide | (refine not_not_intro ?_; assumption)) only [Z1, Z2, splice, ref19_Bank_may_l2, ho, hl, ref19_Bank_may_k1, q1, c0', c1', decide_eq_true d1, decide_eq_false d2, ref19_Bank_may_k0])
    refine ⟨R.gs.length - (i + 1), by omega, i + 1, rfl, by omega, rfl, ?_⟩
    first | exact nx | exact ⟨trivial, nx⟩ | exact ⟨rfl, nx⟩
  cases gw : g.write with
  | true =>
    rw [gw] at c2'
    (try simp (maxSteps := 1000000) (disch := first | omega | (simp only [Z3]; omega) | (simp; done) | assumption | decide | (refine not_not_intro ?_; assumption)) only [Z1, Z2, splice, ref19_Bank_may_l2, ho, hl, ref19_Bank_may_k1, q1, c0', c1', c2', decide_eq_true d1, decide_eq_true d2])
    exact yes ⟨d1, d2, .inl gw⟩
  | false =>
    rw [gw] at c2'
    cases write with
    | false =>
      (try simp (maxSteps := 1000000) (disch := first | omega | (simp only [Z3]; omega) | (simp; done) | assumption | decide | (refine not_not_intro ?_; assumption)) only [Z1, Z2, splice, ref19_Bank_may_l2, ho, hl, ref19_Bank_may_k1, q1, c0', c1', c2', decide_eq_true d1, decide_eq_true d2])
      exact yes ⟨d1, d2, .inr rfl⟩
    | true =>
      have nx := next fun q => by rcases q.2.2 with q | q; rw [gw] at q; cases q; cases q
      (try simp (maxSteps := 1000000) (disch := first | omega | (simp only [Z3]; omega) | (simp; done) | assumption | decide | (refine not_not_intro ?_; assumption)) only [Z1, Z2, splice, ref19_Bank_may_l2, ho, hl, ref19_Bank_may_k1, q1, c0', c1', c2', decide_eq_true d1, decide_eq_true d2, ref19_Bank_may_k0])
      refine ⟨R.gs.length - (i + 1), by omega, i + 1, rfl, by omega, rfl, ?_⟩
      first | exact nx | exact ⟨trivial, nx⟩ | exact ⟨rfl, nx⟩
theorem cell_int {b i : Nat} {l : List Int} (h : H.get b = some (.cells true (encs l))) (hi : i < l.length) : cellG (H.get b) i = some (i64 (l.getD i 0)) := by
  rw [h]
  show (encs l)[i]? = _
  have := encs_get l i 0 0 hi (by decide)
  rw [show Flat.size Int = 1 from rfl, Nat.mul_one, Nat.add_zero] at this
  rw [this]; rfl
theorem cell_bool {b i : Nat} {l : List Bool} (h : H.get b = some (.cells true (encs l))) (hi : i < l.length) : cellG (H.get b) i = some (.bool (l.getD i false)) := by
  rw [h]
  show (encs l)[i]? = _
  have := encs_get l i 0 false hi (by decide)
  rw [show Flat.size Bool = 1 from rfl, Nat.mul_one, Nat.add_zero] at this
  rw [this]; rfl
theorem valueR_ok (h : RbR H x R) (point : Int) (h0 : 0 ≤ point) (h1 : point < R.ls.length) (Q : V → Heap → Prop) (hQ : Q (i64 (valueR R point)) H) : wp (A_ref19_Bank_value [ptr x.p 0, i64 point]) Q H := by
  show wp (F_ref19_Bank_value (ptr x.p 0) (i64 point)) Q H
  have ho := h.obj
  have lv := h.lv
  have lf := h.lf
  have lt := h.lt
  have cf := cell_bool h.fb (i := point.toNat) (by omega)
  have ct := cell_int h.tv (i := point.toNat) (by omega)
  have cv := cell_int h.vs (i := point.toNat) (by omega)
  unfold valueR at hQ
  cases hb : R.fb.getD point.toNat false with
  | true =>
    rw [hb] at cf
    rw [if_pos hb] at hQ
    (try simp (maxSteps := 1000000) (disch := first | omega | (simp only [Z3]; omega) | (simp; done) | assumption | decide | (refine not_not_intro ?_; assumption)) only [Z1, Z2, splice, F_ref19_Bank_value, ho, iaddrS_slc, Nat.mul_one, cf, ct])
    exact hQ
  | false =>
    rw [hb] at cf
    rw [if_neg (by rw [hb]; decide)] at hQ
    (try simp (maxSteps := 1000000) (disch := first | omega | (simp only [Z3]; omega) | (simp; done) | assumption | decide | (refine not_not_intro ?_; assumption)) only [Z1, Z2, splice, F_ref19_Bank_value, ho, iaddrS_slc, Nat.mul_one, cf, cv, ref19_Bank_value_k0])
    exact hQ
theorem readR_ok (h : RbR H x R) (part point : Int) (Q : V → Heap → Prop) (hQ : Q (.tuple #[i64 (readR R part point).1, i64 (readR R part point).2]) H) : wp (A_ref19_Bank_Read [ptr x.p 0, i64 part, i64 point]) Q H := by
  show wp (F_ref19_Bank_Read (ptr x.p 0) (i64 part) (i64 point)) Q H
  (try simp (maxSteps := 1000000) (disch := first | omega | (simp only [Z3]; omega) | (simp; done) | assumption | decide | (refine not_not_intro ?_; assumption)) only [Z1, Z2, splice, F_ref19_Bank_Read])
  refine there_ok h part point _ ?_
  unfold readR at hQ
  by_cases c : thereP R.ls part point
  rotate_left
  · rw [if_pos c] at hQ
    (try simp (maxSteps := 1000000) (disch := first | omega | (simp only [Z3]; omega) | (simp; done) | assumption | decide | (refine not_not_intro ?_; assumption)) only [Z1, Z2, splice, decide_eq_false c])
    exact hQ
  rw [if_neg (fun q => q c)] at hQ
  (try simp (maxSteps := 1000000) (disch := first | omega | (simp only [Z3]; omega) | (simp; done) | assumption | decide | (refine not_not_intro ?_; assumption)) only [Z1, Z2, splice, decide_eq_true c, ref19_Bank_Read_k1])
  refine may_ok h part point false _ ?_
  by_cases d : mayP R.gs part point false
  rotate_left
  · rw [if_pos d] at hQ
    (try simp (maxSteps := 1000000) (disch := first | omega | (simp only [Z3]; omega) | (simp; done) | assumption | decide | (refine not_not_intro ?_; assumption)) only [Z1, Z2, splice, decide_eq_false d])
    exact hQ
  rw [if_neg (fun q => q d)] at hQ
  (try simp (maxSteps := 1000000) (disch := first | omega | (simp only [Z3]; omega) | (simp; done) | assumption | decide | (refine not_not_intro ?_; assumption)) only [Z1, Z2, splice, decide_eq_true d, ref19_Bank_Read_k0])
  refine valueR_ok h point c.2.1 c.2.2 _ ?_
  (try simp (maxSteps := 1000000) (disch := first | omega | (simp only [Z3]; omega) | (simp; done) | assumption | decide | (refine not_not_intro ?_; assumption)) only [Z1, Z2, splice])
  exact hQ
end
end Go.AM.Cap
