import Derived.Test.YtbnjeldcndpdoaaPnT
import Derived.Test.YtbnjeldcndpdoaaAmMap
set_option linter.all false
/- points: the document's Write, Force, Free -/
set_option maxHeartbeats 8000000
namespace Go.AM.Cap
open Go.AM Go.Proofs

section
variable {H : Heap} {x : RL} {R : Rk}
theorem RbR.ne (h : RbR H x R) : x.p ≠ x.va ∧ x.p ≠ x.fa ∧ x.p ≠ x.ta ∧ x.va ≠ x.fa ∧ x.va ≠ x.ta ∧ x.fa ≠ x.ta := by
  have := h.dis
  simp only [RL.wr, List.nodup_cons, List.mem_cons, List.not_mem_nil, or_false, not_or, not_false_eq_true, List.nodup_nil, and_true] at this
  omega
theorem RbR.putV (h : RbR H x R) {H' : Heap} (vs : List Int) (hk : Keeps [x.va] H H') (hg : H'.get x.va = some (.cells true (encs vs))) (hl : vs.length = R.ls.length) : RbR H' x { R with vs := vs } := by
  obtain ⟨n1, n2, n3, n4, n5, n6⟩ := h.ne
  have ap : ∀ b ∈ vb x.lv ++ (vb x.gv ++ vb x.sv), b ∉ [x.va] := fun b hb hm => h.ap b hb (by simp [RL.wr] at hm ⊢; simp [hm])
  exact ⟨hk.get h.obj (by simpa using n1), h.pts.keep hk (fun b hb => ap b (by simp [hb])), h.grs.keep hk (fun b hb => ap b (by simp [hb])), hg, hk.get h.fb (by simpa using n4.symm), hk.get h.tv (by simpa using n5.symm), h.ss.keep hk (fun b hb => ap b (by simp [hb])), hl, h.lf, h.lt, h.small, h.gsm, h.ssm, h.rs, h.dis, h.ap⟩
theorem RbR.putF (h : RbR H x R) {H' : Heap} (fb : List Bool) (hk : Keeps [x.fa] H H') (hg : H'.get x.fa = some (.cells true (encs fb))) (hl : fb.length = R.ls.length) : RbR H' x { R with fb := fb } := by
  obtain ⟨n1, n2, n3, n4, n5, n6⟩ := h.ne
  have ap : ∀ b ∈ vb x.lv ++ (vb x.gv ++ vb x.sv), b ∉ [x.fa] := fun b hb hm => h.ap b hb (by simp [RL.wr] at hm ⊢; simp [hm])
  exact ⟨hk.get h.obj (by simpa using n2), h.pts.keep hk (fun b hb => ap b (by simp [hb])), h.grs.keep hk (fun b hb => ap b (by simp [hb])), hk.get h.vs (by simpa using n4), hg, hk.get h.tv (by simpa using n6.symm), h.ss.keep hk (fun b hb => ap b (by simp [hb])), h.lv, hl, h.lt, h.small, h.gsm, h.ssm, h.rs, h.dis, h.ap⟩
theorem RbR.putT (h : RbR H x R) {H' : Heap} (tv : List Int) (hk : Keeps [x.ta] H H') (hg : H'.get x.ta = some (.cells true (encs tv))) (hl : tv.length = R.ls.length) : RbR H' x { R with tv := tv } := by
  obtain ⟨n1, n2, n3, n4, n5, n6⟩ := h.ne
  have ap : ∀ b ∈ vb x.lv ++ (vb x.gv ++ vb x.sv), b ∉ [x.ta] := fun b hb hm => h.ap b hb (by simp [RL.wr] at hm ⊢; simp [hm])
  exact ⟨hk.get h.obj (by simpa using n3), h.pts.keep hk (fun b hb => ap b (by simp [hb])), h.grs.keep hk (fun b hb => ap b (by simp [hb])), hk.get h.vs (by simpa using n5), hk.get h.fb (by simpa using n6), hg, h.ss.keep hk (fun b hb => ap b (by simp [hb])), h.lv, h.lf, hl, h.small, h.gsm, h.ssm, h.rs, h.dis, h.ap⟩
/-- what is staged turns -/
theorem RbR.putS (h : RbR H x R) {H' : Heap} {w : V} (ss : List Stg) (hk : Keeps [x.p] H H') (hg : H'.get x.p = some (.cells true [x.lv, x.gv, slc x.va 0 1 R.ls.length R.ls.length, slc x.fa 0 1 R.ls.length R.ls.length, slc x.ta 0 1 R.ls.length R.ls.length, w])) (hw : Sl H' w ss) (hf : ∀ b ∈ vb w, H.next ≤ b) (hm : ss.length ≤ 1000) (hr : ∀ e ∈ ss, 0 ≤ e.point ∧ e.point < R.ls.length) : RbR H' { x with sv := w } { R with ss := ss } := by
  obtain ⟨n1, n2, n3, n4, n5, n6⟩ := h.ne
  have ap : ∀ b ∈ vb x.lv ++ (vb x.gv ++ vb x.sv), b ∉ [x.p] := fun b hb hm => h.ap b hb (by simp [RL.wr] at hm ⊢; simp [hm])
  refine ⟨hg, h.pts.keep hk (fun b hb => ap b (by simp [hb])), h.grs.keep hk (fun b hb => ap b (by simp [hb])), hk.get h.vs (by simpa using n1.symm), hk.get h.fb (by simpa using n2.symm), hk.get h.tv (by simpa using n3.symm), hw, h.lv, h.lf, h.lt, h.small, h.gsm, hm, hr, h.dis, fun b hb hm => ?_⟩
  have hlow := h.low
  simp only [List.mem_append] at hb
  rcases hb with hb | hb | hb
  · exact h.ap b (by simp [hb]) hm
  · exact h.ap b (by simp [hb]) hm
  · have := hf b hb
    have := hlow b (by simp only [RL.wr, List.mem_cons, List.not_mem_nil, or_false] at hm; simp only [RL.foot, List.mem_cons]; rcases hm with q | q | q | q <;> simp [q])
    omega
theorem set_int {l : List Int} {i : Nat} {n : Int} (hi : i < l.length) : (encs l).set i (i64 n) = encs (l.set i n) := by
  have := encs_set l i 0 (i64 n) n 0 hi (by decide) rfl
  rw [show Flat.size Int = 1 from rfl, Nat.mul_one, Nat.add_zero] at this
  exact this
theorem set_bool {l : List Bool} {i : Nat} {n : Bool} (hi : i < l.length) : (encs l).set i (.bool n) = encs (l.set i n) := by
  have := encs_set l i 0 (.bool n) n false hi (by decide) rfl
  rw [show Flat.size Bool = 1 from rfl, Nat.mul_one, Nat.add_zero] at this
  exact this
theorem typ_at (h : RbR H x R) {part point : Int} (c : thereP R.ls part point) : iaddrS 2 x.lv (i64 point) = some (ptr (slB x.lv) (slO x.lv + point.toNat * 2)) ∧ cellG (H.get (slB x.lv)) (slO x.lv + point.toNat * 2) = some (i64 (ptAt R.ls point).typ) := by
  have hli : point.toNat < R.ls.length := by have := c.2; omega
  refine ⟨h.pts.addr' (n := 2) rfl (k := .i64) c.2.1 c.2.2, ?_⟩
  have := h.pts.cell' (n := 2) rfl hli (by decide : 0 < 2) default
  rw [Nat.add_zero] at this
  rw [← cellP_get, this]; rfl

theorem writeR_ok (h : RbR H x R) (hs : R.ss.length < 1000) (part point n : Int) (Q : V → Heap → Prop) (hQ : ∀ x' H', RbR H' x' (writeR R part point n).1 → Tn x H x' H' → Q (i64 (writeR R part point n).2) H') : wp (A_ref19_Bank_Write [ptr x.p 0, i64 part, i64 point, i64 n]) Q H := by
  show wp (F_ref19_Bank_Write (ptr x.p 0) (i64 part) (i64 point) (i64 n)) Q H
  (try simp (maxSteps := 1000000) (disch := first | omega | (simp only [Z3]; omega) | (simp; done) | assumption | decide | (refine not_not_intro ?_; assumption)) only [Z1, Z2, splice, F_ref19_Bank_Write])
  refine there_ok h part point _ ?_
  unfold writeR at hQ
  by_cases c : thereP R.ls part point
  rotate_left
  · rw [if_pos c] at hQ
    (try simp (maxSteps := 1000000) (disch := first | omega | (simp only [Z3]; omega) | (simp; done) | assumption | decide | (refine not_not_intro ?_; assumption)) only [Z1, Z2, splice, decide_eq_false c])
    exact hQ _ _ h (Tn.refl _ _)
  rw [if_neg (fun q => q c)] at hQ
  (try simp (maxSteps := 1000000) (disch := first | omega | (simp only [Z3]; omega) | (simp; done) | assumption | decide | (refine not_not_intro ?_; assumption)) only [Z1, Z2, splice, decide_eq_true c, ref19_Bank_Write_k2])
  refine may_ok h part point true _ ?_
  by_cases d : mayP R.gs part point true
  rotate_left
  · rw [if_pos d] at hQ
    (try simp (maxSteps := 1000000) (disch := first | omega | (simp only [Z3]; omega) | (simp; done) | assumption | decide | (refine not_not_intro ?_; assumption)) only [Z1, Z2, splice, decide_eq_false d])
    exact hQ _ _ h (Tn.refl _ _)
  rw [if_neg (fun q => q d)] at hQ
  have ho := h.obj
  obtain ⟨t1, t2⟩ := typ_at h c
  (try simp (maxSteps := 1000000) (disch := first | omega | (simp only [Z3]; omega) | (simp; done) | assumption | decide | (refine not_not_intro ?_; assumption)) only [Z1, Z2, splice, decide_eq_true d, ref19_Bank_Write_k1, ho, t1, t2, ref04_Fits_eq])
  by_cases e : fits (ptAt R.ls point).typ n
  rotate_left
  · rw [if_pos e] at hQ
    (try simp (maxSteps := 1000000) (disch := first | omega | (simp only [Z3]; omega) | (simp; done) | assumption | decide | (refine not_not_intro ?_; assumption)) only [Z1, Z2, splice, decide_eq_false e])
    exact hQ _ _ h (Tn.refl _ _)
  rw [if_neg (fun q => q e)] at hQ
  (try simp (maxSteps := 1000000) (disch := first | omega | (simp only [Z3]; omega) | (simp; done) | assumption | decide | (refine not_not_intro ?_; assumption)) only [Z1, Z2, splice, decide_eq_true e, ref19_Bank_Write_k0])
  refine (wp_bslc (cs := []) (by decide) (by rfl)).mpr ?_
  have kp := Keeps.push [] H (some (.cells true []))
  have h1 := h.keep0 kp
  have ho1 := h1.obj
  have op : OwnF (H.push (some (.cells true []))) (slc H.next 0 3 0 0) ([] : List Stg) := ownF_push (α := Stg) (xs := []) rfl rfl
  have hn1 : (H.push (some (.cells true []))).next = H.next + 1 := by simp
  generalize H.push (some (.cells true [])) = H1 at *
  (try simp (maxSteps := 1000000) (disch := first | omega | (simp only [Z3]; omega) | (simp; done) | assumption | decide | (refine not_not_intro ?_; assumption)) only [Z1, Z2, splice, ho1])
  refine ownF_appV (α := Stg) rfl op h1.ss (by simp; omega) (by simp; omega) fun w H2 ow k2 fw => ?_
  have k02 : Keeps [] H H2 := kp.trans k2 (fun b hb hm => by simp at hm; omega)
  have h2 := h.keep0 k02
  have fw2 : ∀ b ∈ vb w, H.next ≤ b := fun b hb => by have := fw b hb; simp at this; omega
  rw [List.nil_append] at ow
  (try simp (maxSteps := 1000000) (disch := first | omega | (simp only [Z3]; omega) | (simp; done) | assumption | decide | (refine not_not_intro ?_; assumption)) only [Z1, Z2, splice])
  refine ownF_apps (α := Stg) (ys := [⟨part, point, n⟩]) rfl ow (by decide) (by rfl) (by rfl) (by omega) (by omega) fun u H3 ou k3 fu => ?_
  have k03 : Keeps [] H H3 := k02.trans k3 (fun b hb hm => by have := fw2 b hm; omega)
  have h3 := h.keep0 k03
  have ho3 := h3.obj
  have l3 := Heap.get_lt ho3
  have n2 := k02.next
  have fu2 : ∀ b ∈ vb u, H.next ≤ b := fun b hb => by
    rcases fu b hb with q | q
    · exact fw2 b q
    · omega
  have hlp := h.low x.p (by simp [RL.foot])
  have huo := ou.isOne
  (try simp (maxSteps := 1000000) (disch := first | omega | (simp only [Z3]; omega) | (simp; done) | assumption | decide | (refine not_not_intro ?_; assumption)) only [Z1, Z2, splice, ho3, huo])
  have ks : Keeps [x.p] H3 (H3.set x.p (some (.cells true [x.lv, x.gv, slc x.va 0 1 R.ls.length R.ls.length, slc x.fa 0 1 R.ls.length R.ls.length, slc x.ta 0 1 R.ls.length R.ls.length, u]))) := keeps_set (Keeps.refl _ _) (.inl (by simp))
  have ks' : Keeps [x.p] H (H3.set x.p (some (.cells true [x.lv, x.gv, slc x.va 0 1 R.ls.length R.ls.length, slc x.fa 0 1 R.ls.length R.ls.length, slc x.ta 0 1 R.ls.length R.ls.length, u]))) := (k03.mono (by simp)).trans ks (fun _ _ h => h)
  refine hQ { x with sv := u } _ (h.putS _ ks' (Heap.get_set_self l3) (ou.keep ks (fun b hb hm => by have := fu2 b hb; simp at hm; omega)).sl fu2 (by simp; omega) fun e he => ?_) ⟨rfl, ks'.mono (by simp [RL.wr]), fun b hb => ?_⟩
  · rcases List.mem_append.1 he with q | q
    · exact h.rs e q
    · simp only [List.mem_singleton] at q; subst q; exact c.2
  · simp only [RL.foot, List.mem_cons, List.mem_append] at hb ⊢
    rcases hb with q | q | q | q | q | q | q
    · simp [q]
    · simp [q]
    · simp [q]
    · simp [q]
    · simp [q]
    · simp [q]
    · exact .inr (fu2 b q)
theorem forceR_ok (h : RbR H x R) (point n : Int) (Q : V → Heap → Prop) (hQ : ∀ H', RbR H' x (forceR R point n).1 → Tn x H x H' → Q (i64 (forceR R point n).2) H') : wp (A_ref19_Bank_Force [ptr x.p 0, i64 point, i64 n]) Q H := by
  show wp (F_ref19_Bank_Force (ptr x.p 0) (i64 point) (i64 n)) Q H
  (try simp (maxSteps := 1000000) (disch := first | omega | (simp only [Z3]; omega) | (simp; done) | assumption | decide | (refine not_not_intro ?_; assumption)) only [Z1, Z2, splice, F_ref19_Bank_Force])
  refine there_ok h 0 point _ ?_
  unfold forceR at hQ
  by_cases c : thereP R.ls 0 point
  rotate_left
  · rw [if_pos (fun q => c q.1)] at hQ
    (try simp (maxSteps := 1000000) (disch := first | omega | (simp only [Z3]; omega) | (simp; done) | assumption | decide | (refine not_not_intro ?_; assumption)) only [Z1, Z2, splice, decide_eq_false c])
    exact hQ _ h (Tn.refl _ _)
  have ho := h.obj
  obtain ⟨t1, t2⟩ := typ_at h c
  by_cases e : fits (ptAt R.ls point).typ n
  rotate_left
  · rw [if_pos (fun q => e q.2)] at hQ
    (try simp (maxSteps := 1000000) (disch := first | omega | (simp only [Z3]; omega) | (simp; done) | assumption | decide | (refine not_not_intro ?_; assumption)) only [Z1, Z2, splice, decide_eq_true c, ho, t1, t2, ref04_Fits_eq, decide_eq_false e])
    exact hQ _ h (Tn.refl _ _)
  rw [if_neg (fun q => q ⟨c, e⟩)] at hQ
  have lf := h.lf
  have lt := h.lt
  have c1 := c.2.1
  have c2 := c.2.2
  have hf := h.fb
  have hfl := encs_length R.fb
  rw [show Flat.size Bool = 1 from rfl, Nat.mul_one] at hfl
  (try simp (maxSteps := 1000000) (disch := first | omega | (simp only [Z3]; omega) | (simp; done) | assumption | decide | (refine not_not_intro ?_; assumption)) only [Z1, Z2, splice, decide_eq_true c, ho, t1, t2, ref04_Fits_eq, decide_eq_true e, ref19_Bank_Force_k0, iaddrS_slc, Nat.mul_one, hf])
  rw [set_bool (by omega)]
  have k1 : Keeps [x.fa] H (H.set x.fa (some (.cells true (encs (R.fb.set point.toNat true))))) := keeps_set (Keeps.refl _ _) (.inl (by simp))
  have h1 := h.putF (R.fb.set point.toNat true) k1 (Heap.get_set_self (Heap.get_lt hf)) (by simp; omega)
  generalize H.set x.fa (some (.cells true (encs (R.fb.set point.toNat true)))) = H1 at *
  have ho1 := h1.obj
  have ht := h1.tv
  have htl := encs_length R.tv
  rw [show Flat.size Int = 1 from rfl, Nat.mul_one] at htl
  simp only at ho1 ht
  (try simp (maxSteps := 1000000) (disch := first | omega | (simp only [Z3]; omega) | (simp; done) | assumption | decide | (refine not_not_intro ?_; assumption)) only [Z1, Z2, splice, ho1, iaddrS_slc, Nat.mul_one, ht])
  rw [set_int (by omega)]
  have k2 : Keeps [x.ta] H1 (H1.set x.ta (some (.cells true (encs (R.tv.set point.toNat n))))) := keeps_set (Keeps.refl _ _) (.inl (by simp))
  have h2 := h1.putT (R.tv.set point.toNat n) k2 (Heap.get_set_self (Heap.get_lt ht)) (by simp; omega)
  exact hQ _ h2 ⟨rfl, (k1.mono (by simp [RL.wr])).trans (k2.mono (by simp [RL.wr])) (fun _ _ h => h), fun _ h => .inl h⟩
theorem freeR_ok (h : RbR H x R) (point : Int) (Q : V → Heap → Prop) (hQ : ∀ H', RbR H' x (freeR R point).1 → Tn x H x H' → Q (i64 (freeR R point).2) H') : wp (A_ref19_Bank_Free [ptr x.p 0, i64 point]) Q H := by
  show wp (F_ref19_Bank_Free (ptr x.p 0) (i64 point)) Q H
  (try simp (maxSteps := 1000000) (disch := first | omega | (simp only [Z3]; omega) | (simp; done) | assumption | decide | (refine not_not_intro ?_; assumption)) only [Z1, Z2, splice, F_ref19_Bank_Free])
  refine there_ok h 0 point _ ?_
  unfold freeR at hQ
  by_cases c : thereP R.ls 0 point
  rotate_left
  · rw [if_pos c] at hQ
    (try simp (maxSteps := 1000000) (disch := first | omega | (simp only [Z3]; omega) | (simp; done) | assumption | decide | (refine not_not_intro ?_; assumption)) only [Z1, Z2, splice, decide_eq_false c])
    exact hQ _ h (Tn.refl _ _)
  rw [if_neg (fun q => q c)] at hQ
  have ho := h.obj
  have lf := h.lf
  have c1 := c.2.1
  have c2 := c.2.2
  have hf := h.fb
  have hfl := encs_length R.fb
  rw [show Flat.size Bool = 1 from rfl, Nat.mul_one] at hfl
  (try simp (maxSteps := 1000000) (disch := first | omega | (simp only [Z3]; omega) | (simp; done) | assumption | decide | (refine not_not_intro ?_; assumption)) only [Z1, Z2, splice, decide_eq_true c, ho, ref19_Bank_Free_k0, iaddrS_slc, Nat.mul_one, hf])
  rw [set_bool (by omega)]
  have k1 : Keeps [x.fa] H (H.set x.fa (some (.cells true (encs (R.fb.set point.toNat false))))) := keeps_set (Keeps.refl _ _) (.inl (by simp))
  have h1 := h.putF (R.fb.set point.toNat false) k1 (Heap.get_set_self (Heap.get_lt hf)) (by simp; omega)
  exact hQ _ h1 ⟨rfl, k1.mono (by simp [RL.wr]), fun _ h => .inl h⟩
end
end Go.AM.Cap
