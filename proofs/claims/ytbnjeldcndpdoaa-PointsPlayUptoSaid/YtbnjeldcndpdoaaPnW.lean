import Derived.Test.YtbnjeldcndpdoaaPnV
import Derived.Test.YtbnjeldcndpdoaaAmMap
set_option linter.all false
/- points: the document's Latch; values that are lent -/
set_option maxHeartbeats 8000000
namespace Go.AM.Cap
open Go.AM Go.Proofs

def latchR (R : Rk) (ns : List Int) : Rk × Int :=
  if (ofN R.ls false).length ≠ ns.length then (R, 4) else
  if ¬ (∀ j, j < (ofN R.ls false).length → fitsB R.ls (((ofN R.ls false).getD j 0 : Nat) : Int) (ns.getD j 0)) then (R, 1) else ({ R with vs := setAll R.vs (ofN R.ls false) ns }, 0)

section
variable {H : Heap} {x : RL} {R : Rk}
theorem latchR_ok {nv : V} {ns : List Int} (h : RbR H x R) (hn : Sl H nv ns) (hnx : ∀ b ∈ vb nv, b ≠ x.va) (Q : V → Heap → Prop) (hQ : ∀ H', RbR H' x (latchR R ns).1 → Tn x H x H' → Q (i64 (latchR R ns).2) H') : wp (A_ref19_Bank_Latch [ptr x.p 0, nv]) Q H := by
  show wp (F_ref19_Bank_Latch (ptr x.p 0) nv) Q H
  have hsm := h.small
  (try simp (maxSteps := 1000000) (disch := first | omega | (simp only [Z3]; omega) | (simp; done) | assumption | decide | (refine not_not_intro ?_; assumption)) only [Z1, Z2, splice, F_ref19_Bank_Latch])
  refine wp_loop (Inv := fun k vs H' => ∃ (i : Nat) (v : V), k = R.ls.length - i ∧ i ≤ R.ls.length ∧ vs = [ptr x.p 0, nv, v, i64 i] ∧ Own H' v (((List.range i).filter fun j => (R.ls.getD j default).out == false).map fun i : Nat => i64 i) ∧ Keeps [] H H' ∧ (∀ b ∈ vb v, H.next ≤ b)) (n := R.ls.length) (by unfold FUEL; omega)
    ⟨0, _, by omega, by omega, rfl, Own.nil _, Keeps.refl _ _, by simp⟩ ?_
  rintro k vs H' ⟨i, v, hk, hi, rfl, hw, kk, fw⟩
  have hb := h.keep0 kk
  have ho := hb.obj
  have hl := hb.pts.len
  by_cases hlt : i < R.ls.length
  · have hll : (((List.range i).filter fun j => (R.ls.getD j default).out == false).map fun i : Nat => i64 i).length ≤ 64 := by
      have := List.length_filter_le (fun j => (R.ls.getD j default).out == false) (List.range i)
      rw [List.length_range] at this
      rw [List.length_map]; omega
    obtain ⟨q1, q2⟩ := sl_get hb.pts (n := 2) rfl hlt
    have c1 := hb.pts.cell' (n := 2) rfl (off := 1) hlt (by omega) default
    rw [cellP_get] at c1
    generalize hgg : R.ls.getD i default = g at *
    have c1' : cellG (H'.get (slB x.lv)) (slO x.lv + i * 2 + 1) = some (.bool g.out) := c1
    cases go : g.out with
    | true =>
      rw [go] at c1'
      have e : (List.range (i + 1)).filter (fun j => (R.ls.getD j default).out == false) = ((List.range i).filter fun j => (R.ls.getD j default).out == false) := by
        rw [ofN_snoc, hgg, go, if_neg (by decide), List.append_nil]
      (try simp (maxSteps := 1000000) (disch := first | omega | (simp only [Z3]; omega) | (simp; done) | assumption | decide | (refine not_not_intro ?_; assumption)) only [Z1, Z2, splice, ref19_Bank_Latch_l2, ho, hl, ref19_Bank_Latch_k1, q1, c1', ref19_Bank_Latch_k0])
      exact ⟨R.ls.length - (i + 1), by omega, i + 1, v, rfl, by omega, rfl, by rw [e]; exact hw, kk, fw⟩
    | false =>
      rw [go] at c1'
      have e : (List.range (i + 1)).filter (fun j => (R.ls.getD j default).out == false) = ((List.range i).filter fun j => (R.ls.getD j default).out == false) ++ [i] := by
        rw [ofN_snoc, hgg, go, if_pos (by decide)]
      (try simp (maxSteps := 1000000) (disch := first | omega | (simp only [Z3]; omega) | (simp; done) | assumption | decide | (refine not_not_intro ?_; assumption)) only [Z1, Z2, splice, ref19_Bank_Latch_l2, ho, hl, ref19_Bank_Latch_k1, q1, c1'])
      refine wp_app (new := [i64 (i : Int)]) hw (by rfl) (by rfl) (by omega) (by rfl) (by rfl) (by omega) (by omega) fun c H2 o2 k2 f2 => ?_
      (try simp (maxSteps := 1000000) (disch := first | omega | (simp only [Z3]; omega) | (simp; done) | assumption | decide | (refine not_not_intro ?_; assumption)) only [Z1, Z2, splice, ref19_Bank_Latch_k0])
      refine ⟨R.ls.length - (i + 1), by omega, i + 1, _, rfl, by omega, rfl, ?_, kk.trans k2 (fun b hb hm => by have := fw b hm; omega), fun c hc => by have := kk.next; simp at hc f2; omega⟩
      rw [e, List.map_append]
      exact o2
  have hie : i = R.ls.length := by omega
  subst hie
  clear hlt hi hk
  have hil := hw.len
  have hnl := ofN_len R.ls false
  rw [List.length_map] at hil
  have hlow := h.low
  have hn1 := hn.keep0 kk
  have hnl1 := hn1.len
  have hof : ((List.range R.ls.length).filter fun j => (R.ls.getD j default).out == false) = ofN R.ls false := rfl
  rw [hof] at hw hil
  by_cases c : (ofN R.ls false).length ≠ ns.length
  · rw [latchR, if_pos c] at hQ
    have c' : ((ofN R.ls false).length : Int) ≠ (ns.length : Int) := by omega
    (try simp (maxSteps := 1000000) (disch := first | omega | (simp only [Z3]; omega) | (simp; done) | assumption | decide | (refine not_not_intro ?_; assumption)) only [Z1, Z2, splice, ref19_Bank_Latch_l2, ho, hl, ref19_Bank_Latch_k12, hil, hnl1])
    exact hQ _ hb ⟨rfl, kk.mono (by simp), fun _ h => .inl h⟩
  have c' : (ofN R.ls false).length = ns.length := Decidable.not_not.mp c
  rw [latchR, if_neg c] at hQ
  have hidl : ∀ i ∈ ofN R.ls false, i < R.ls.length := ofN_lt
  generalize hidx : ofN R.ls false = idx at *
  have hQ1 : ¬ (∀ j, j < idx.length → fitsB R.ls ((idx.getD j 0 : Nat) : Int) (ns.getD j 0)) → ∀ H', RbR H' x R → Tn x H x H' → Q (i64 1) H' := fun q => by rw [if_pos q] at hQ; exact hQ
  have hQ2 : (∀ j, j < idx.length → fitsB R.ls ((idx.getD j 0 : Nat) : Int) (ns.getD j 0)) → ∀ H', RbR H' x { R with vs := setAll R.vs idx ns } → Tn x H x H' → Q (i64 0) H' := fun q => by rw [if_neg (fun r => r q)] at hQ; exact hQ
  clear hQ
  have ce : (idx.length : Int) = (ns.length : Int) := by omega
  (try simp (maxSteps := 1000000) (disch := first | omega | (simp only [Z3]; omega) | (simp; done) | assumption | decide | (refine not_not_intro ?_; assumption)) only [Z1, Z2, splice, ref19_Bank_Latch_l2, ho, hl, ref19_Bank_Latch_k12, hil, hnl1, ref19_Bank_Latch_k11])
  have iat : ∀ {H2 : Heap}, Own H2 v (idx.map fun i : Nat => i64 i) → ∀ i, i < idx.length → ∃ b, iaddrS 1 v (i64 i) = some (ptr b i) ∧ cellG (H2.get b) i = some (i64 (idx.getD i 0 : Nat)) := fun ho i hi => by
    obtain ⟨b, q1, q2⟩ := ho.idx (k := .i64) (i := i) (by simpa using hi)
    refine ⟨b, q1, ?_⟩
    rw [← cellP_get, q2, List.getD_eq_getElem?_getD, List.getElem?_eq_getElem hi]; simp
  have nat_ : ∀ {H2 : Heap}, Sl H2 nv ns → ∀ i : Nat, i < ns.length → iaddrS 1 nv (i64 i) = some (ptr (slB nv) (slO nv + i)) ∧ cellG (H2.get (slB nv)) (slO nv + i) = some (i64 (ns.getD i 0)) := fun ho i hi => by
    have q1 := ho.addr1 rfl (k := .i64) (i := i) (by omega) (by omega)
    rw [Int.toNat_natCast] at q1
    refine ⟨q1, ?_⟩
    rw [← cellP_get, ho.cell1 rfl hi 0]; rfl
  refine wp_loop (Inv := fun k vs H2 => ∃ (i : Nat), k = idx.length - i ∧ i ≤ idx.length ∧ vs = [ptr x.p 0, nv, v, i64 i] ∧ H2 = H' ∧ ∀ j, j < i → fitsB R.ls ((idx.getD j 0 : Nat) : Int) (ns.getD j 0)) (n := idx.length) (by unfold FUEL; omega)
    ⟨0, by omega, by omega, rfl, rfl, by omega⟩ ?_
  rintro k vs H2 ⟨i, hk, hi, rfl, he, hf⟩
  rw [he]; clear he H2
  by_cases hlt1 : i < idx.length
  · obtain ⟨b, q1, q2⟩ := iat hw i hlt1
    obtain ⟨q3, q4⟩ := nat_ hn1 i (by omega)
    have hr := hidl (idx.getD i 0) (by rw [List.getD_eq_getElem?_getD, List.getElem?_eq_getElem hlt1]; exact List.getElem_mem _)
    have hth : thereP R.ls 0 ((idx.getD i 0 : Nat) : Int) := ⟨by omega, by omega, by omega⟩
    obtain ⟨t1, t2⟩ := typ_at hb hth
    by_cases d : fits (ptAt R.ls ((idx.getD i 0 : Nat) : Int)).typ (ns.getD i 0)
    · (try simp (maxSteps := 1000000) (disch := first | omega | (simp only [Z3]; omega) | (simp; done) | assumption | decide | (refine not_not_intro ?_; assumption)) only [Z1, Z2, splice, ref19_Bank_Latch_l5, hil, ref19_Bank_Latch_k4, q1, q2, q3, q4, ho, t1, t2, ref04_Fits_eq, decide_eq_true d, ref19_Bank_Latch_k3])
      refine ⟨idx.length - (i + 1), by omega, i + 1, rfl, by omega, rfl, ?_⟩
      have nx : ∀ j, j < i + 1 → fitsB R.ls ((idx.getD j 0 : Nat) : Int) (ns.getD j 0) := fun j hj => by
        by_cases e : j = i
        · subst e; exact ⟨hth.2, d⟩
        · exact hf j (by omega)
      first | exact nx | exact ⟨trivial, nx⟩ | exact ⟨rfl, nx⟩
    · (try simp (maxSteps := 1000000) (disch := first | omega | (simp only [Z3]; omega) | (simp; done) | assumption | decide | (refine not_not_intro ?_; assumption)) only [Z1, Z2, splice, ref19_Bank_Latch_l5, hil, ref19_Bank_Latch_k4, q1, q2, q3, q4, ho, t1, t2, ref04_Fits_eq, decide_eq_false d])
      exact hQ1 (fun q => d (q i hlt1).2) _ hb ⟨rfl, kk.mono (by simp), fun _ h => .inl h⟩
  have hie : i = idx.length := by omega
  subst hie
  (try simp (maxSteps := 1000000) (disch := first | omega | (simp only [Z3]; omega) | (simp; done) | assumption | decide | (refine not_not_intro ?_; assumption)) only [Z1, Z2, splice, ref19_Bank_Latch_l5, hil, ref19_Bank_Latch_k10])
  refine wp_loop (Inv := fun k vs H2 => ∃ (i : Nat) (ws : List Int), k = idx.length - i ∧ i ≤ idx.length ∧ vs = [ptr x.p 0, nv, v, i64 i] ∧ RbR H2 x { R with vs := ws } ∧ Keeps [x.va] H' H2 ∧ setAll ws (idx.drop i) (ns.drop i) = setAll R.vs idx ns) (n := idx.length) (by unfold FUEL; omega)
    ⟨0, R.vs, by omega, by omega, rfl, hb, Keeps.refl _ _, rfl⟩ ?_
  rintro k vs H2 ⟨i, ws, hk, hi, rfl, hB, kk2, hse⟩
  have hva : x.va < H.next := hlow _ (by simp [RL.foot])
  have oi' := hw.keep kk2 (fun b hb => by have := fw b hb; simp; omega)
  have hn' := hn1.keep kk2 (fun b hb => by simpa using hnx b hb)
  by_cases hlt1 : i < idx.length
  · obtain ⟨b, q1, q2⟩ := iat oi' i hlt1
    obtain ⟨q3, q4⟩ := nat_ hn' i (by omega)
    have ho := hB.obj
    have hv := hB.vs
    have hvl := hB.lv
    simp only at ho hv hvl
    have hr := hidl (idx.getD i 0) (by rw [List.getD_eq_getElem?_getD, List.getElem?_eq_getElem hlt1]; exact List.getElem_mem _)
    rw [dropG idx i 0 hlt1, dropG ns i 0 (by omega), setAll] at hse
    generalize idx.getD i 0 = p at *
    generalize ns.getD i 0 = n at *
    have hel := encs_length ws
    rw [show Flat.size Int = 1 from rfl, Nat.mul_one] at hel
    (try simp (maxSteps := 1000000) (disch := first | omega | (simp only [Z3]; omega) | (simp; done) | assumption | decide | (refine not_not_intro ?_; assumption)) only [Z1, Z2, splice, ref19_Bank_Latch_l8, hil, ref19_Bank_Latch_k7, q1, q2, q3, q4, ho, iaddrS_slc, Nat.mul_one, Int.toNat_natCast, hv])
    rw [set_int (by omega)]
    (try simp (maxSteps := 1000000) (disch := first | omega | (simp only [Z3]; omega) | (simp; done) | assumption | decide | (refine not_not_intro ?_; assumption)) only [Z1, Z2, splice, ref19_Bank_Latch_k6])
    have kk3 : Keeps [x.va] H2 (H2.set x.va (some (.cells true (encs (ws.set p n))))) := keeps_set (Keeps.refl _ _) (.inl (by simp))
    refine ⟨idx.length - (i + 1), by omega, i + 1, ws.set p n, rfl, by omega, rfl, ?_, kk2.trans kk3 (fun _ _ h => h), hse⟩
    exact hB.putV _ kk3 (Heap.get_set_self (Heap.get_lt hv)) (by simpa using hvl)
  · have hie : i = idx.length := by omega
    subst hie
    rw [List.drop_length] at hse
    have hse' : ws = setAll R.vs idx ns := by rw [← hse]; simp [setAll]
    (try simp (maxSteps := 1000000) (disch := first | omega | (simp only [Z3]; omega) | (simp; done) | assumption | decide | (refine not_not_intro ?_; assumption)) only [Z1, Z2, splice, ref19_Bank_Latch_l8, hil, ref19_Bank_Latch_k9])
    exact hQ2 hf _ (by rw [hse'] at hB; exact hB) ⟨rfl, (kk.mono (by simp)).trans (kk2.mono (by simp [RL.wr])) (fun _ _ h => h), fun _ h => .inl h⟩
end
theorem subV_to {b k n c : Nat} (h : n ≤ c) : subV 1 (slc b 0 1 k c) none (some (i64 n)) = some (slc b 0 1 n c) := by
  have h1 : bound k c (some (i64 n)) = some n := by
    unfold bound
    simp only
    rw [if_pos ⟨by omega, by omega⟩, Int.toNat_natCast]
  have h2 : bound 0 n none = some 0 := rfl
  unfold subV
  simp only [h1, h2]
  simp [cutAt]
/-- values that are lent: the room behind is marked -/
structure Lent (H : Heap) (v : V) (b : Nat) (ns : List Int) : Prop where
  e : v = slc b 0 1 ns.length (ns.length + 1)
  g : H.get b = some (.cells true (encs (ns ++ [-77])))
theorem Lent.sl {H : Heap} {v : V} {b : Nat} {ns : List Int} (h : Lent H v b ns) : Sl H v ns := by
  obtain ⟨rfl, g⟩ := h
  refine .inr ⟨b, 0, _, _, rfl, by omega, Heap.get_lt g, .inr ⟨_, _, g, ?_, ?_⟩, .inr rfl⟩
  · rw [encs_length, List.length_append, show Flat.size Int = 1 from rfl]; simp
  · rw [List.drop_zero, encs_append, show Flat.size Int = 1 from rfl, Nat.mul_one, List.take_append_of_le_length (by rw [encs_length, show Flat.size Int = 1 from rfl]; omega), List.take_of_length_le (by rw [encs_length, show Flat.size Int = 1 from rfl]; omega)]
theorem Lent.keep {S : List Nat} {H H' : Heap} {v : V} {b : Nat} {ns : List Int} (h : Lent H v b ns) (k : Keeps S H H') (hb : b ∉ S) : Lent H' v b ns := ⟨h.e, k.get h.g hb⟩
theorem lend_ok {H : Heap} {nv : V} {ns : List Int} (hn : Sl H nv ns) (hs : ns.length ≤ 1000000000) (Q : V → Heap → Prop) (hQ : ∀ v b H', Lent H' v b ns → Keeps [] H H' → H.next ≤ b → Q v H') : wp (A_book_LendNums [nv]) Q H := by
  show wp (F_book_LendNums nv) Q H
  have hl := hn.len
  (try simp (maxSteps := 1000000) (disch := first | omega | (simp only [Z3]; omega) | (simp; done) | assumption | decide | (refine not_not_intro ?_; assumption)) only [Z1, Z2, splice, F_book_LendNums])
  refine (wp_bslc (cs := []) (by decide) (by rfl)).mpr ?_
  have kp := Keeps.push [] H (some (.cells true []))
  have op : OwnF (H.push (some (.cells true []))) (slc H.next 0 1 0 0) ([] : List Int) := ownF_push (α := Int) (xs := []) rfl rfl
  have hn1 : (H.push (some (.cells true []))).next = H.next + 1 := by simp
  generalize H.push (some (.cells true [])) = H1 at *
  (try simp (maxSteps := 1000000) (disch := first | omega | (simp only [Z3]; omega) | (simp; done) | assumption | decide | (refine not_not_intro ?_; assumption)) only [Z1, Z2, splice])
  refine ownF_appV (α := Int) rfl op (hn.keep0 kp) (by simp; omega) (by simp; omega) fun w H2 ow k2 fw => ?_
  have k02 : Keeps [] H H2 := kp.trans k2 (fun b hb hm => by simp at hm; omega)
  have fw2 : ∀ b ∈ vb w, H.next ≤ b := fun b hb => by have := fw b hb; simp at this; omega
  rw [List.nil_append] at ow
  (try simp (maxSteps := 1000000) (disch := first | omega | (simp only [Z3]; omega) | (simp; done) | assumption | decide | (refine not_not_intro ?_; assumption)) only [Z1, Z2, splice])
  refine ownF_apps (α := Int) (ys := [-77]) rfl ow (by decide) (by rfl) (by rfl) (by omega) (by omega) fun u H3 ou k3 fu => ?_
  have k03 : Keeps [] H H3 := k02.trans k3 (fun b hb hm => by have := fw2 b hm; omega)
  have n2 := k02.next
  have fu2 : ∀ b ∈ vb u, H.next ≤ b := fun b hb => by
    rcases fu b hb with q | q
    · exact fw2 b q
    · omega
  rcases ou with ⟨rfl, q⟩ | ⟨b, rfl, hb⟩
  · simp at q
  · have es : subV 1 (slc b 0 (Flat.size Int) (ns ++ [-77]).length (ns ++ [-77]).length) none (some (i64 ns.length)) = some (slc b 0 1 ns.length (ns.length + 1)) := by
      have e : (ns ++ [-77]).length = ns.length + 1 := by simp
      rw [e]
      exact subV_to (by omega)
    (try simp (maxSteps := 1000000) (disch := first | omega | (simp only [Z3]; omega) | (simp; done) | assumption | decide | (refine not_not_intro ?_; assumption)) only [Z1, Z2, splice, hl, es])
    exact hQ _ b _ ⟨rfl, hb⟩ k03 (fu2 b (by simp))
theorem kept_ok {H : Heap} {v nv : V} {b : Nat} {ns : List Int} (h : Lent H v b ns) (hn : Sl H nv ns) (hs : ns.length ≤ 2000000) (Q : V → Heap → Prop) (hQ : Q (.bool true) H) : wp (A_book_KeptNums [v, nv]) Q H := by
  show wp (F_book_KeptNums v nv) Q H
  have hl := hn.len
  (try simp (maxSteps := 1000000) (disch := first | omega | (simp only [Z3]; omega) | (simp; done) | assumption | decide | (refine not_not_intro ?_; assumption)) only [Z1, Z2, splice, F_book_KeptNums])
  refine sameNums_ok h.sl hn hs _ ?_
  rw [decide_eq_true rfl]
  obtain ⟨rfl, g⟩ := h
  have es : subV 1 (slc b 0 1 ns.length (ns.length + 1)) none (some (i64 ((ns.length : Int) + 1))) = some (slc b 0 1 (ns.length + 1) (ns.length + 1)) := subV_to (k := ns.length) (n := ns.length + 1) (c := ns.length + 1) (Nat.le_refl _)
  have cg : cellG (H.get b) ns.length = some (i64 (-77)) := by
    have := cell_int g (i := ns.length) (by simp)
    rw [this, List.getD_eq_getElem?_getD, List.getElem?_append_right (Nat.le_refl _), Nat.sub_self]; rfl
  (try simp (maxSteps := 1000000) (disch := first | omega | (simp only [Z3]; omega) | (simp; done) | assumption | decide | (refine not_not_intro ?_; assumption)) only [Z1, Z2, splice, hl, es, iaddrS_slc, Nat.mul_one, Int.toNat_natCast, cg])
  exact hQ
end Go.AM.Cap
