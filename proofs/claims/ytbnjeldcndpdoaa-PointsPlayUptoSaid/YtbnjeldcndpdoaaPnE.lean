import Derived.Test.YtbnjeldcndpdoaaPnD
import Derived.Test.YtbnjeldcndpdoaaAmMap
set_option linter.all false
/- points: of, Latch, Outputs -/
set_option maxHeartbeats 8000000
namespace Go.AM.Cap
open Go.AM Go.Proofs

section
variable {H : Heap} {x : BL} {B : Bk}
theorem ofN_snoc (p : Nat → Bool) (i : Nat) : (List.range (i + 1)).filter p = (List.range i).filter p ++ (if p i = true then [i] else []) := by
  rw [List.range_succ, List.filter_append]
  congr 1
  by_cases h : p i = true
  · rw [if_pos h, List.filter_cons, if_pos h]; rfl
  · rw [if_neg h, List.filter_cons, if_neg h]; rfl
theorem ofN_lt {ls : List Pt} {out : Bool} : ∀ i ∈ ofN ls out, i < ls.length := fun i hi => List.mem_range.1 (List.mem_filter.1 hi).1
theorem ofN_len (ls : List Pt) (out : Bool) : (ofN ls out).length ≤ ls.length := by
  have := List.length_filter_le (fun i => (ls.getD i default).out == out) (List.range ls.length)
  rw [List.length_range] at this; exact this

theorem of_ok (h : BankR H x B) (out : Bool) (Q : V → Heap → Prop) (hQ : ∀ v H', Own H' v ((ofN B.ls out).map fun i : Nat => i64 i) → Keeps [] H H' → (∀ b ∈ vb v, H.next ≤ b) → Q v H') : wp (A_points_Bank_of [ptr x.p 0, .bool out]) Q H := by
  show wp (F_points_Bank_of (ptr x.p 0) (.bool out)) Q H
  have ho := h.objc
  have hl := h.pts.len
  have hsm := h.small
  (try simp (maxSteps := 1000000) (disch := first | omega | (simp only [Z3]; omega) | (simp; done) | assumption | decide | (refine not_not_intro ?_; assumption)) only [Z1, Z2, splice, F_points_Bank_of, ho, hl])
  refine wp_loop (Inv := fun k vs H' => ∃ (i : Nat) (v : V), k = B.ls.length - i ∧ i ≤ B.ls.length ∧ vs = [.bool out, v, x.lv, i64 B.ls.length, i64 i] ∧ Own H' v (((List.range i).filter fun j => (B.ls.getD j default).out == out).map fun i : Nat => i64 i) ∧ Keeps [] H H' ∧ (∀ b ∈ vb v, H.next ≤ b)) (n := B.ls.length) (by unfold FUEL; omega)
    ⟨0, _, by omega, by omega, rfl, Own.nil _, Keeps.refl _ _, by simp⟩ ?_
  rintro k vs H' ⟨i, v, hk, hi, rfl, hw, kk, fw⟩
  have hp := h.pts.keep0 kk
  by_cases hlt : i < B.ls.length
  · generalize hgg : B.ls.getD i default = g
    obtain ⟨t, o⟩ := g
    have hnx : ((H'.push (some (.cells true [i64 t, .bool o]))).next) = H'.next + 1 := by simp
    have hll : (((List.range i).filter fun j => (B.ls.getD j default).out == out).map fun i : Nat => i64 i).length ≤ 64 := by
      have := List.length_filter_le (fun j => (B.ls.getD j default).out == out) (List.range i)
      rw [List.length_range] at this
      rw [List.length_map]; omega
    by_cases c : o = out
    · subst c
      have e : (List.range (i + 1)).filter (fun j => (B.ls.getD j default).out == o) = ((List.range i).filter fun j => (B.ls.getD j default).out == o) ++ [i] := by
        rw [ofN_snoc, hgg, if_pos (by simp)]
      (try simp (maxSteps := 1000000) (disch := first | omega | (simp only [Z3]; omega) | (simp; done) | assumption | decide | (refine not_not_intro ?_; assumption)) only [Z1, Z2, splice, points_Bank_of_l2, points_Bank_of_k1, hp.addr' (n := 2) rfl, hp.ldn' (n := 2) rfl _ default, Int.toNat_natCast, enc_pt, hgg, eqKb, beq_self_eq_true])
      have k1 := Keeps.push [] H' (some (.cells true [i64 t, .bool o]))
      refine wp_app (new := [i64 i]) (hw.keep k1 (by simp)) (by rfl) (by rfl) (by omega) (by rfl) (by rfl) (by omega) (by omega) fun b H2 o2 k2 f2 => ?_
      (try simp (maxSteps := 1000000) (disch := first | omega | (simp only [Z3]; omega) | (simp; done) | assumption | decide | (refine not_not_intro ?_; assumption)) only [Z1, Z2, splice, points_Bank_of_k0])
      have k02 : Keeps [] H H2 := (kk.trans k1 (fun _ _ h => h)).trans k2 (fun b hb hm => by have := fw b hm; omega)
      refine ⟨B.ls.length - (i + 1), by omega, i + 1, _, rfl, by omega, rfl, ?_, k02, fun c hc => by have := kk.next; simp at hc f2; omega⟩
      rw [e, List.map_append]; exact o2
    · have e : (List.range (i + 1)).filter (fun j => (B.ls.getD j default).out == out) = ((List.range i).filter fun j => (B.ls.getD j default).out == out) := by
        rw [ofN_snoc, hgg, if_neg (by simpa using c), List.append_nil]
      have e2 : (o == out) = false := by simpa using c
      (try simp (maxSteps := 1000000) (disch := first | omega | (simp only [Z3]; omega) | (simp; done) | assumption | decide | (refine not_not_intro ?_; assumption)) only [Z1, Z2, splice, points_Bank_of_l2, points_Bank_of_k1, hp.addr' (n := 2) rfl, hp.ldn' (n := 2) rfl _ default, Int.toNat_natCast, enc_pt, hgg, eqKb, e2, points_Bank_of_k0])
      have k1 := Keeps.push [] H' (some (.cells true [i64 t, .bool o]))
      refine ⟨B.ls.length - (i + 1), by omega, i + 1, _, rfl, by omega, rfl, ?_, kk.trans k1 (fun _ _ h => h), fw⟩
      rw [e]; exact hw.keep k1 (by simp)
  · have : i = B.ls.length := by omega
    subst this
    (try simp (maxSteps := 1000000) (disch := first | omega | (simp only [Z3]; omega) | (simp; done) | assumption | decide | (refine not_not_intro ?_; assumption)) only [Z1, Z2, splice, points_Bank_of_l2, points_Bank_of_k3])
    exact hQ _ _ hw kk fw

def outS (B : Bk) : List Int := (ofN B.ls true).map fun i : Nat => valueS B (i : Int)
theorem outputs_ok (h : BankR H x B) (Q : V → Heap → Prop) (hQ : ∀ v H', Own H' v ((outS B).map i64) → Keeps [] H H' → (∀ b ∈ vb v, H.next ≤ b) → Q v H') : wp (A_points_Bank_Outputs [ptr x.p 0]) Q H := by
  show wp (F_points_Bank_Outputs (ptr x.p 0)) Q H
  (try simp (maxSteps := 1000000) (disch := first | omega | (simp only [Z3]; omega) | (simp; done) | assumption | decide | (refine not_not_intro ?_; assumption)) only [Z1, Z2, splice, F_points_Bank_Outputs])
  refine of_ok h true _ fun iv H1 oi k1 fi => ?_
  have hil := oi.len
  have hsm := h.small
  have hnl := ofN_len B.ls true
  rw [List.length_map] at hil
  generalize hidx : ofN B.ls true = idx at *
  have hidl : ∀ i ∈ idx, i < B.ls.length := by rw [← hidx]; exact ofN_lt
  have hout : outS B = idx.map fun i : Nat => valueS B (i : Int) := by rw [outS, hidx]
  (try simp (maxSteps := 1000000) (disch := first | omega | (simp only [Z3]; omega) | (simp; done) | assumption | decide | (refine not_not_intro ?_; assumption)) only [Z1, Z2, splice, hil])
  refine wp_loop (Inv := fun k vs H' => ∃ (i : Nat) (v : V), k = idx.length - i ∧ i ≤ idx.length ∧ vs = [ptr x.p 0, v, iv, i64 idx.length, i64 i] ∧ Own H' v (((idx.take i).map fun i : Nat => valueS B (i : Int)).map i64) ∧ Keeps [] H1 H' ∧ (∀ b ∈ vb v, H1.next ≤ b)) (n := idx.length) (by unfold FUEL; omega)
    ⟨0, _, by omega, by omega, rfl, Own.nil _, Keeps.refl _ _, by simp⟩ ?_
  rintro k vs H' ⟨i, v, hk, hi, rfl, hw, kk, fw⟩
  have k01 := k1.trans kk (fun _ _ h => h)
  have hb := h.keep0 k01
  have oi' := oi.keep kk (by simp)
  by_cases hlt : i < idx.length
  · obtain ⟨b, hb1, hb2⟩ := oi'.idx (k := .i64) (i := i) (by simpa using hlt)
    have hb2' : cellP H' (ptr b i) = some (i64 (idx[i] : Nat)) := by rw [hb2]; simp
    rw [cellP_get] at hb2'
    have hr := hidl idx[i] (List.getElem_mem _)
    (try simp (maxSteps := 1000000) (disch := first | omega | (simp only [Z3]; omega) | (simp; done) | assumption | decide | (refine not_not_intro ?_; assumption)) only [Z1, Z2, splice, points_Bank_Outputs_l2, points_Bank_Outputs_k1, hb1, hb2'])
    refine value_ok hb _ (by omega) (by omega) _ ?_
    (try simp (maxSteps := 1000000) (disch := first | omega | (simp only [Z3]; omega) | (simp; done) | assumption | decide | (refine not_not_intro ?_; assumption)) only [Z1, Z2, splice])
    have hll : (((idx.take i).map fun i : Nat => valueS B (i : Int)).map i64).length ≤ 64 := by simp; omega
    refine wp_app (new := [i64 (valueS B (idx[i] : Nat))]) hw (by rfl) (by rfl) (by omega) (by rfl) (by rfl) (by omega) (by omega) fun c H2 o2 k2 f2 => ?_
    (try simp (maxSteps := 1000000) (disch := first | omega | (simp only [Z3]; omega) | (simp; done) | assumption | decide | (refine not_not_intro ?_; assumption)) only [Z1, Z2, splice, points_Bank_Outputs_k0])
    refine ⟨idx.length - (i + 1), by omega, i + 1, _, rfl, by omega, rfl, ?_, kk.trans k2 (fun b hb hm => by have := fw b hm; omega), fun c hc => by have := kk.next; simp at hc f2; omega⟩
    rw [List.take_succ, List.getElem?_eq_getElem hlt, List.map_append, List.map_append]
    exact o2
  · have : i = idx.length := by omega
    subst this
    rw [List.take_length, ← hout] at hw
    (try simp (maxSteps := 1000000) (disch := first | omega | (simp only [Z3]; omega) | (simp; done) | assumption | decide | (refine not_not_intro ?_; assumption)) only [Z1, Z2, splice, points_Bank_Outputs_l2, points_Bank_Outputs_k3])
    exact hQ _ _ hw k01 fun b hb => by have := fw b hb; have := k1.next; omega

/-- values are laid -/
def setAll : List Int → List Nat → List Int → List Int
  | vs, [], _ => vs
  | vs, _ :: _, [] => vs
  | vs, i :: is, n :: ns => setAll (vs.set i n) is ns
def latchOK (B : Bk) (ns : List Int) : Prop := ∀ j, j < (ofN B.ls false).length → fitsB B.ls (((ofN B.ls false).getD j 0 : Nat) : Int) (ns.getD j 0)
instance (B : Bk) (ns : List Int) : Decidable (latchOK B ns) := by unfold latchOK; exact inferInstance
def latchS (B : Bk) (ns : List Int) : Bk × Int :=
  if (ofN B.ls false).length ≠ ns.length then (B, 4) else if ¬ latchOK B ns then (B, 1) else ({ B with vs := setAll B.vs (ofN B.ls false) ns }, 0)
theorem latch_ok {nv : V} {ns : List Int} (h : BankR H x B) (hn : Sl H nv ns) (hnx : ∀ b ∈ vb nv, b ≠ x.va) (Q : V → Heap → Prop) (hQ : ∀ H', BankR H' x (latchS B ns).1 → Keeps [x.va] H H' → Q (i64 (latchS B ns).2) H') : wp (A_points_Bank_Latch [ptr x.p 0, nv]) Q H := by
  show wp (F_points_Bank_Latch (ptr x.p 0) nv) Q H
  (try simp (maxSteps := 1000000) (disch := first | omega | (simp only [Z3]; omega) | (simp; done) | assumption | decide | (refine not_not_intro ?_; assumption)) only [Z1, Z2, splice, F_points_Bank_Latch])
  refine of_ok h false _ fun iv H1 oi k1 fi => ?_
  have hil := oi.len
  have hsm := h.small
  have hnl := ofN_len B.ls false
  rw [List.length_map] at hil
  have hlt := h.lt
  have hn1 := hn.keep0 k1
  have hb1 := h.keep0 k1
  have hnl1 := hn1.len
  by_cases c : (ofN B.ls false).length ≠ ns.length
  · rw [latchS, if_pos c] at hQ
    have c' : ((ofN B.ls false).length : Int) ≠ (ns.length : Int) := by omega
    (try simp (maxSteps := 1000000) (disch := first | omega | (simp only [Z3]; omega) | (simp; done) | assumption | decide | (refine not_not_intro ?_; assumption)) only [Z1, Z2, splice, hil, hnl1])
    exact hQ _ hb1 (k1.mono (by simp))
  have c' : (ofN B.ls false).length = ns.length := Decidable.not_not.mp c
  rw [latchS, if_neg c] at hQ
  have hQ1 : ¬ (∀ j, j < (ofN B.ls false).length → fitsB B.ls (((ofN B.ls false).getD j 0 : Nat) : Int) (ns.getD j 0)) → ∀ H', BankR H' x B → Keeps [x.va] H H' → Q (i64 1) H' := fun q => by
    have q' : ¬ latchOK B ns := q
    rw [if_pos q'] at hQ; exact hQ
  have hQ2 : (∀ j, j < (ofN B.ls false).length → fitsB B.ls (((ofN B.ls false).getD j 0 : Nat) : Int) (ns.getD j 0)) → ∀ H', BankR H' x { B with vs := setAll B.vs (ofN B.ls false) ns } → Keeps [x.va] H H' → Q (i64 0) H' := fun q => by
    have q' : latchOK B ns := q
    rw [if_neg (fun r => r q')] at hQ; exact hQ
  clear hQ
  have hidl : ∀ i ∈ ofN B.ls false, i < B.ls.length := ofN_lt
  generalize hidx : ofN B.ls false = idx at *
  have ce : (idx.length : Int) = (ns.length : Int) := by omega
  (try simp (maxSteps := 1000000) (disch := first | omega | (simp only [Z3]; omega) | (simp; done) | assumption | decide | (refine not_not_intro ?_; assumption)) only [Z1, Z2, splice, hil, hnl1, points_Bank_Latch_k8])
  have iat : ∀ {H2 : Heap}, Own H2 iv (idx.map fun i : Nat => i64 i) → ∀ i, i < idx.length → ∃ b, iaddrS 1 iv (i64 i) = some (ptr b i) ∧ cellG (H2.get b) i = some (i64 (idx.getD i 0 : Nat)) := fun ho i hi => by
    obtain ⟨b, q1, q2⟩ := ho.idx (k := .i64) (i := i) (by simpa using hi)
    refine ⟨b, q1, ?_⟩
    rw [← cellP_get, q2, List.getD_eq_getElem?_getD, List.getElem?_eq_getElem hi]; simp
  have nat_ : ∀ {H2 : Heap}, Sl H2 nv ns → ∀ i : Nat, i < ns.length → iaddrS 1 nv (i64 i) = some (ptr (slB nv) (slO nv + i)) ∧ cellG (H2.get (slB nv)) (slO nv + i) = some (i64 (ns.getD i 0)) := fun ho i hi => by
    have q1 := ho.addr1 rfl (k := .i64) (i := i) (by omega) (by omega)
    rw [Int.toNat_natCast] at q1
    refine ⟨q1, ?_⟩
    rw [← cellP_get, ho.cell1 rfl hi 0]; rfl
  refine wp_loop (Inv := fun k vs H' => ∃ (i : Nat), k = idx.length - i ∧ i ≤ idx.length ∧ vs = [ptr x.p 0, nv, iv, iv, i64 idx.length, i64 i] ∧ H' = H1 ∧ ∀ j, j < i → fitsB B.ls ((idx.getD j 0 : Nat) : Int) (ns.getD j 0)) (n := idx.length) (by unfold FUEL; omega)
    ⟨0, by omega, by omega, rfl, rfl, by omega⟩ ?_
  rintro k vs H' ⟨i, hk, hi, rfl, he, hf⟩
  rw [he]; clear he H'
  by_cases hlt1 : i < idx.length
  · obtain ⟨b, q1, q2⟩ := iat oi i hlt1
    obtain ⟨q3, q4⟩ := nat_ hn1 i (by omega)
    (try simp (maxSteps := 1000000) (disch := first | omega | (simp only [Z3]; omega) | (simp; done) | assumption | decide | (refine not_not_intro ?_; assumption)) only [Z1, Z2, splice, points_Bank_Latch_l2, points_Bank_Latch_k1, q1, q2, q3, q4])
    refine fits_ok hb1 _ _ _ ?_
    by_cases d : fitsB B.ls ((idx.getD i 0 : Nat) : Int) (ns.getD i 0)
    · (try simp (maxSteps := 1000000) (disch := first | omega | (simp only [Z3]; omega) | (simp; done) | assumption | decide | (refine not_not_intro ?_; assumption)) only [Z1, Z2, splice, decide_eq_true d, points_Bank_Latch_k0])
      refine ⟨idx.length - (i + 1), by omega, i + 1, rfl, by omega, rfl, fun j hj => ?_⟩
      by_cases e : j = i
      · subst e; exact d
      · exact hf j (by omega)
    · (try simp (maxSteps := 1000000) (disch := first | omega | (simp only [Z3]; omega) | (simp; done) | assumption | decide | (refine not_not_intro ?_; assumption)) only [Z1, Z2, splice, decide_eq_false d])
      exact hQ1 (fun q => d (q i hlt1)) _ hb1 (k1.mono (by simp))
  have hie : i = idx.length := by omega
  subst hie
  (try simp (maxSteps := 1000000) (disch := first | omega | (simp only [Z3]; omega) | (simp; done) | assumption | decide | (refine not_not_intro ?_; assumption)) only [Z1, Z2, splice, points_Bank_Latch_l2, points_Bank_Latch_k7, hil])
  refine wp_loop (Inv := fun k vs H' => ∃ (i : Nat) (ws : List Int), k = idx.length - i ∧ i ≤ idx.length ∧ vs = [ptr x.p 0, nv, iv, i64 idx.length, i64 i] ∧ BankR H' x { B with vs := ws } ∧ Keeps [x.va] H1 H' ∧ setAll ws (idx.drop i) (ns.drop i) = setAll B.vs idx ns) (n := idx.length) (by unfold FUEL; omega)
    ⟨0, B.vs, by omega, by omega, rfl, hb1, Keeps.refl _ _, rfl⟩ ?_
  rintro k vs H' ⟨i, ws, hk, hi, rfl, hB, kk, hse⟩
  have hva : x.va < H.next := hlt _ (by simp [BL.foot])
  have oi' := oi.keep kk (fun b hb => by have := fi b hb; simp; omega)
  have hn' := hn1.keep kk (fun b hb => by simpa using hnx b hb)
  by_cases hlt1 : i < idx.length
  · obtain ⟨b, q1, q2⟩ := iat oi' i hlt1
    obtain ⟨q3, q4⟩ := nat_ hn' i (by omega)
    have ho := hB.objc
    have hv := hB.vs
    have hvl := hB.len
    simp only at ho hv hvl
    have hr := hidl (idx.getD i 0) (by rw [List.getD_eq_getElem?_getD, List.getElem?_eq_getElem hlt1]; exact List.getElem_mem _)
    rw [dropG idx i 0 hlt1, dropG ns i 0 (by omega), setAll] at hse
    generalize idx.getD i 0 = p at *
    generalize ns.getD i 0 = n at *
    have hel := encs_length ws
    rw [show Flat.size Int = 1 from rfl, Nat.mul_one] at hel
    (try simp (maxSteps := 1000000) (disch := first | omega | (simp only [Z3]; omega) | (simp; done) | assumption | decide | (refine not_not_intro ?_; assumption)) only [Z1, Z2, splice, points_Bank_Latch_l5, points_Bank_Latch_k4, q1, q2, q3, q4, ho, iaddrS_slc, Nat.mul_one, Int.toNat_natCast, hv])
    have hset : (encs ws).set p (i64 n) = encs (ws.set p n) := by
      have := encs_set ws p 0 (i64 n) n 0 (by omega) (by decide) rfl
      rw [show Flat.size Int = 1 from rfl, Nat.mul_one, Nat.add_zero] at this
      exact this
    rw [hset]
    (try simp (maxSteps := 1000000) (disch := first | omega | (simp only [Z3]; omega) | (simp; done) | assumption | decide | (refine not_not_intro ?_; assumption)) only [Z1, Z2, splice, points_Bank_Latch_k3])
    have kk2 : Keeps [x.va] H' (H'.set x.va (some (.cells true (encs (ws.set p n))))) := keeps_set (Keeps.refl _ _) (.inl (by simp))
    refine ⟨idx.length - (i + 1), by omega, i + 1, ws.set p n, rfl, by omega, rfl, ?_, kk.trans kk2 (fun _ _ h => h), hse⟩
    exact hB.putV _ kk2 (Heap.get_set_self (Heap.get_lt hv)) (by simpa using hvl)
  · have hie : i = idx.length := by omega
    subst hie
    rw [List.drop_length] at hse
    have hse' : ws = setAll B.vs idx ns := by rw [← hse]; simp [setAll]
    (try simp (maxSteps := 1000000) (disch := first | omega | (simp only [Z3]; omega) | (simp; done) | assumption | decide | (refine not_not_intro ?_; assumption)) only [Z1, Z2, splice, points_Bank_Latch_l5, points_Bank_Latch_k6])
    refine hQ2 hf _ (by rw [hse'] at hB; exact hB) ((k1.mono (by simp)).trans kk (fun _ _ h => h))
end
end Go.AM.Cap
