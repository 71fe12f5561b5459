import Derived.Test.YtcmimkacafphkaaGreatDoorCoT
import Derived.Test.YtcmimkacafphkaaGreatDoorAmOpenF
set_option linter.all false
/- wire: Encode -/
set_option maxHeartbeats 16000000
namespace Go.AM.Cap
open Go.AM Go.Proofs

theorem fullI_step (l : List It) (i : Nat) (h : i < l.length) : w2 l.length ++ (l.take (i + 1)).flatMap oneI = (w2 l.length ++ (l.take i).flatMap oneI) ++ oneI (l.getD i default) := by
  rw [List.take_succ, List.getElem?_eq_getElem h, List.flatMap_append, List.getD_eq_getElem?_getD, List.getElem?_eq_getElem h, List.append_assoc]
  simp
theorem any_at {l : List It} {i : Nat} (h : i < l.length) (hm : mayI (l.getD i default) = false) : l.any (fun x => !mayI x) = true := by
  rw [List.any_eq_true]
  refine ⟨l.getD i default, ?_, by rw [hm]; rfl⟩
  rw [List.getD_eq_getElem?_getD, List.getElem?_eq_getElem h]
  exact List.getElem_mem h
theorem any_none {l : List It} (h : ∀ i, i < l.length → mayI (l.getD i default) = true) : l.any (fun x => !mayI x) = false := by
  rw [List.any_eq_false]
  intro x hx
  obtain ⟨i, hi, rfl⟩ := List.getElem_of_mem hx
  have := h i hi
  rw [List.getD_eq_getElem?_getD, List.getElem?_eq_getElem hi] at this
  simpa using this
theorem oneI_len (x : It) (h : mayI x = true) : (oneI x).length ≤ 65538 := by
  unfold oneI
  unfold mayI at h
  split
  · rename_i ht
    rw [if_pos ht] at h
    simp only [decide_eq_true_eq] at h
    simp [w2, bv_length]; omega
  · simp [be8_length]

/-- what the bytes are behind i items: all of them, or too many -/
def Part (l : List It) (i : Nat) (acc : List (BitVec 8)) : Prop := acc <+: w2 l.length ++ (l.take i).flatMap oneI ∧ (acc = w2 l.length ++ (l.take i).flatMap oneI ∨ acc.length > 65536)
theorem Part.grow {l : List It} {i : Nat} {acc : List (BitVec 8)} (h : Part l i acc) (hi : i < l.length) (hs : acc.length ≤ 65536) : Part l (i + 1) (acc ++ oneI (l.getD i default)) := by
  rcases h.2 with rfl | h2
  · unfold Part; rw [fullI_step l i hi]; exact ⟨List.prefix_refl _, .inl rfl⟩
  · omega
theorem Part.stay {l : List It} {i : Nat} {acc : List (BitVec 8)} (h : Part l i acc) (hi : i < l.length) (hs : acc.length > 65536) : Part l (i + 1) acc := by
  unfold Part; rw [fullI_step l i hi]; exact ⟨h.1.trans (List.prefix_append _ _), .inr hs⟩
theorem Part.done {l : List It} {acc : List (BitVec 8)} (h : Part l l.length acc) : (acc.length ≤ 65536 → acc = fullI l) ∧ (acc.length > 65536 → (fullI l).length > 65536) := by
  unfold Part at h
  rw [List.take_length] at h
  refine ⟨fun hs => h.2.resolve_right (by omega), fun hs => ?_⟩
  have := h.1.length_le
  unfold fullI; omega

set_option maxRecDepth 20000 in
theorem enc_ok {H : Heap} {v : V} {l : List It} (h : Sl H v l) (Q : V → Heap → Prop) (hQ : ∀ H', Keeps [] H H' → Q (.tuple #[.string (encI l).1, i64 (encI l).2]) H') : wp (A_wire_Encode [v]) Q H := by
  show wp (F_wire_Encode v) Q H
  have hlen := h.len
  unfold F_wire_Encode
  by_cases h1 : l.length > 1000
  · have e : encI l = (⟨#[]⟩, 2) := by unfold encI; rw [if_pos h1]
    rw [e] at hQ
    (try simp (maxSteps := 1000000) (disch := first | omega | (simp only [Z3]; omega) | (simp; done) | assumption | decide | (refine not_not_intro ?_; assumption)) only [Z1, Z2, splice, hlen])
    exact hQ H (Keeps.refl _ _)
  (try simp (maxSteps := 1000000) (disch := first | omega | (simp only [Z3]; omega) | (simp; done) | assumption | decide | (refine not_not_intro ?_; assumption)) only [Z1, Z2, splice, hlen, wire_Encode_k9, i64_shr8, i64_u8])
  refine (wp_bslc (cs := encs (w2 l.length)) (by rfl) (by rfl)).mpr ?_
  (try simp (maxSteps := 1000000) (disch := first | omega | (simp only [Z3]; omega) | (simp; done) | assumption | decide | (refine not_not_intro ?_; assumption)) only [Z1, Z2, splice, hlen])
  have hres : l.any (fun x => !mayI x) = true → encI l = (⟨#[]⟩, 4) := fun q => by unfold encI; rw [if_neg h1, if_pos q]
  refine wp_loop (Inv := fun k vs H' => ∃ (i : Nat) (w : V) (acc : List (BitVec 8)) (long : Bool), k = l.length - i ∧ i ≤ l.length ∧ vs = [w, .bool long, v, i64 l.length, i64 i] ∧ OwnF H' w acc ∧ Keeps [] H H' ∧ (∀ b ∈ vb w, H.next ≤ b) ∧ Part l i acc ∧ acc.length ≤ 140000 ∧ (long = true → acc.length > 65536) ∧ (∀ j, j < i → mayI (l.getD j default) = true)) (n := l.length) (by unfold FUEL; omega)
    ⟨0, _, w2 l.length, false, by omega, by omega, rfl, ownF_push rfl rfl, Keeps.push _ _ _, by simp, ⟨by simp, .inl (by simp)⟩, by simp [w2], by simp, by omega⟩ ?_
  rintro k vs H1 ⟨i, w, acc, long, hk, hi, rfl, ho, hk1, hv, hp, ha, hlong, hmay⟩
  have hacc := ho.len
  by_cases hlt : i < l.length
  case neg =>
    have : i = l.length := by omega
    subst this
    have hany := any_none hmay
    have hd := hp.done
    (try simp (maxSteps := 1000000) (disch := first | omega | (simp only [Z3]; omega) | (simp; done) | assumption | decide | (refine not_not_intro ?_; assumption)) only [Z1, Z2, splice, wire_Encode_l6])
    cases long with
    | true =>
      have e : encI l = (⟨#[]⟩, 2) := by unfold encI; rw [if_neg h1, if_neg (by simp [hany]), if_pos (hd.2 (hlong rfl))]
      rw [e] at hQ
      (try simp (maxSteps := 1000000) (disch := first | omega | (simp only [Z3]; omega) | (simp; done) | assumption | decide | (refine not_not_intro ?_; assumption)) only [Z1, Z2, splice, wire_Encode_k8])
      exact hQ _ hk1
    | false =>
      by_cases hbig : acc.length > 65536
      · have e : encI l = (⟨#[]⟩, 2) := by unfold encI; rw [if_neg h1, if_neg (by simp [hany]), if_pos (hd.2 hbig)]
        rw [e] at hQ
        (try simp (maxSteps := 1000000) (disch := first | omega | (simp only [Z3]; omega) | (simp; done) | assumption | decide | (refine not_not_intro ?_; assumption)) only [Z1, Z2, splice, wire_Encode_k8, hacc])
        exact hQ _ hk1
      · have e0 := hd.1 (by omega)
        have e : encI l = (sv (fullI l), 0) := by unfold encI; rw [if_neg h1, if_neg (by simp [hany]), if_neg (by rw [← e0]; omega)]
        rw [e] at hQ
        (try simp (maxSteps := 1000000) (disch := first | omega | (simp only [Z3]; omega) | (simp; done) | assumption | decide | (refine not_not_intro ?_; assumption)) only [Z1, Z2, splice, wire_Encode_k8, hacc, wire_Encode_k7])
        refine ownF_b2s ho ?_
        rw [e0]
        (try simp (maxSteps := 1000000) (disch := first | omega | (simp only [Z3]; omega) | (simp; done) | assumption | decide | (refine not_not_intro ?_; assumption)) only [Z1, Z2, splice])
        exact hQ _ hk1
  have hs1 := h.keep0 hk1
  have a1 := hs1.addr' (n := 3) rfl (k := .i64) (i := i) (by omega) (by omega)
  rw [Int.toNat_natCast] at a1
  have d1 := fun Q => hs1.ldn' (Q := Q) (n := 3) rfl hlt default
  generalize hx : l.getD i default = x at d1
  have hk2 : Keeps [] H1 (H1.push (some (.cells true [.bool x.t, i64 x.n, .string x.s]))) := Keeps.push _ _ _
  have g2 : (H1.push (some (.cells true [.bool x.t, i64 x.n, .string x.s]))).get H1.next = some (.cells true [.bool x.t, i64 x.n, .string x.s]) := Heap.get_push_self _ _
  have n2 : (H1.push (some (.cells true [.bool x.t, i64 x.n, .string x.s]))).next = H1.next + 1 := by simp
  (try simp (maxSteps := 1000000) (disch := first | omega | (simp only [Z3]; omega) | (simp; done) | assumption | decide | (refine not_not_intro ?_; assumption)) only [Z1, Z2, splice, wire_Encode_l6, wire_Encode_k5, a1, d1, enc_it])
  have ho2 := ho.keep0 hk2
  generalize H1.push (some (.cells true [.bool x.t, i64 x.n, .string x.s])) = H2 at *
  have hk3 : Keeps [] H H2 := hk1.trans hk2 (by simp)
  have hnot : H1.next ∉ vb w := fun q => by have := ho.lt _ q; omega
  obtain ⟨xt, xn, xs⟩ := x
  have hstay : ∀ (long' : Bool), (long' = true → acc.length > 65536) → acc.length > 65536 → mayI (l.getD i default) = true → ∃ k', k' < k ∧ ∃ (i' : Nat) (w' : V) (acc : List (BitVec 8)) (long : Bool), k' = l.length - i' ∧ i' ≤ l.length ∧ [w, .bool long', v, i64 l.length, i64 ((i : Int) + 1)] = [w', .bool long, v, i64 l.length, i64 i'] ∧ OwnF H2 w' acc ∧ Keeps [] H H2 ∧ (∀ b ∈ vb w', H.next ≤ b) ∧ Part l i' acc ∧ acc.length ≤ 140000 ∧ (long = true → acc.length > 65536) ∧ (∀ j, j < i' → mayI (l.getD j default) = true) := fun long' q1 q2 q3 =>
    ⟨l.length - (i + 1), by omega, i + 1, w, acc, long', rfl, by omega, by push_cast; rfl, ho2, hk3, hv, hp.stay hlt q2, ha, q1, fun j hj => by
      rcases Nat.lt_or_eq_of_le (Nat.lt_succ_iff.1 hj) with q | rfl
      · exact hmay j q
      · exact q3⟩
  have hgrow : ∀ (w' : V) (H' : Heap), OwnF H' w' (acc ++ oneI (l.getD i default)) → Keeps [] H H' → (∀ b ∈ vb w', H.next ≤ b) → acc.length ≤ 65536 → mayI (l.getD i default) = true → ∃ k', k' < k ∧ ∃ (i' : Nat) (w'' : V) (acc : List (BitVec 8)) (long' : Bool), k' = l.length - i' ∧ i' ≤ l.length ∧ [w', .bool long, v, i64 l.length, i64 ((i : Int) + 1)] = [w'', .bool long', v, i64 l.length, i64 i'] ∧ OwnF H' w'' acc ∧ Keeps [] H H' ∧ (∀ b ∈ vb w'', H.next ≤ b) ∧ Part l i' acc ∧ acc.length ≤ 140000 ∧ (long' = true → acc.length > 65536) ∧ (∀ j, j < i' → mayI (l.getD j default) = true) := fun w' H' q1 q2 q3 q4 q5 =>
    ⟨l.length - (i + 1), by omega, i + 1, w', _, long, rfl, by omega, by push_cast; rfl, q1, q2, q3, hp.grow hlt q4, by have := oneI_len _ q5; rw [List.length_append]; omega, fun q => by have := hlong q; omega, fun j hj => by
      rcases Nat.lt_or_eq_of_le (Nat.lt_succ_iff.1 hj) with q | rfl
      · exact hmay j q
      · exact q5⟩
  cases xt with
  | true =>
    by_cases hbad : xn = 0 ∧ xs.size ≤ 65535
    case neg =>
      have hm : mayI (l.getD i default) = false := by rw [hx]; simp only [mayI, if_true, hbad, decide_false]
      rw [hres (any_at hlt hm)] at hQ
      by_cases hn0 : xn = 0
      · have : ¬ xs.size ≤ 65535 := fun q => hbad ⟨hn0, q⟩
        (try simp (maxSteps := 1000000) (disch := first | omega | (simp only [Z3]; omega) | (simp; done) | assumption | decide | (refine not_not_intro ?_; assumption)) only [Z1, Z2, splice, g2, wire_Encode_k3])
        exact hQ _ hk3
      · (try simp (maxSteps := 1000000) (disch := first | omega | (simp only [Z3]; omega) | (simp; done) | assumption | decide | (refine not_not_intro ?_; assumption)) only [Z1, Z2, splice, g2, wire_Encode_k3])
        exact hQ _ hk3
    have hm : mayI (l.getD i default) = true := by rw [hx]; simp only [mayI, if_true, hbad, and_self, decide_true]
    obtain ⟨rfl, hsz⟩ := hbad
    by_cases hbig : acc.length > 65536
    · (try simp (maxSteps := 1000000) (disch := first | omega | (simp only [Z3]; omega) | (simp; done) | assumption | decide | (refine not_not_intro ?_; assumption)) only [Z1, Z2, splice, g2, wire_Encode_k3, hacc, wire_Encode_k4])
      exact hstay true (fun _ => hbig) hbig hm
    (try simp (maxSteps := 1000000) (disch := first | omega | (simp only [Z3]; omega) | (simp; done) | assumption | decide | (refine not_not_intro ?_; assumption)) only [Z1, Z2, splice, g2, wire_Encode_k3, hacc, wire_Encode_k4, i64_shr8, i64_u8])
    refine (wp_bslc (cs := encs (36 :: w2 xs.size)) (by rfl) (by rfl)).mpr ?_
    have k4 : Keeps [] H2 (H2.push (some (.cells true (encs (36 :: w2 xs.size))))) := Keeps.push _ _ _
    have o4 := ownF_push (H := H2) (xs := (36 :: w2 xs.size)) (n := 1) (m := 3) rfl rfl
    have ho4 := ho2.keep0 k4
    have g4 := k4.get g2 (by simp)
    have n4 : (H2.push (some (.cells true (encs (36 :: w2 xs.size))))).next = H2.next + 1 := by simp
    generalize H2.push (some (.cells true (encs (36 :: w2 xs.size)))) = H4 at *
    refine ownF_appV (α := BitVec 8) rfl ho4 o4.sl (by simp [w2]; omega) (by simp [w2]; omega) fun w5 H5 o5 k5 v5 => ?_
    have g5 := k5.get g4 hnot
    refine ownF_appS o5 (by simp [w2]; omega) fun w6 H6 o6 k6 v6 => ?_
    have hnot5 : H1.next ∉ vb w5 := fun q => (v5 _ q).elim hnot (fun q => by omega)
    (try simp (maxSteps := 1000000) (disch := first | omega | (simp only [Z3]; omega) | (simp; done) | assumption | decide | (refine not_not_intro ?_; assumption)) only [Z1, Z2, splice, g4, g5, wire_Encode_k4])
    refine hgrow w6 H6 ?_ ?_ ?_ (by omega) hm
    · rw [hx]
      have : oneI ⟨true, 0, xs⟩ = (36 :: w2 xs.size) ++ bv xs := by simp [oneI]
      rw [this, ← List.append_assoc]; exact o6
    · have := hk3.next
      refine ⟨by have := k4.next; have := k5.next; have := k6.next; omega, fun b hb _ => ?_⟩
      rw [k6.same b (by have := k4.next; have := k5.next; omega) (fun q => (v5 _ q).elim (fun q => by have := hv _ q; omega) (fun q => by omega)), k5.same b (by omega) (fun q => by have := hv _ q; omega), k4.same b (by omega) (by simp), hk3.same b hb (by simp)]
    · intro b hb
      have := hk3.next; have := k4.next; have := k5.next
      rcases v6 b hb with q | q
      · rcases v5 b q with q | q
        · exact hv b q
        · omega
      · omega
  | false =>
    by_cases hbad : xs = ⟨#[]⟩
    case neg =>
      have hm : mayI (l.getD i default) = false := by rw [hx]; simp [mayI, hbad]
      rw [hres (any_at hlt hm)] at hQ
      (try simp (maxSteps := 1000000) (disch := first | omega | (simp only [Z3]; omega) | (simp; done) | assumption | decide | (refine not_not_intro ?_; assumption)) only [Z1, Z2, splice, g2, wire_Encode_k3])
      exact hQ _ hk3
    have hm : mayI (l.getD i default) = true := by rw [hx]; simp [mayI, hbad]
    subst hbad
    by_cases hbig : acc.length > 65536
    · (try simp (maxSteps := 1000000) (disch := first | omega | (simp only [Z3]; omega) | (simp; done) | assumption | decide | (refine not_not_intro ?_; assumption)) only [Z1, Z2, splice, g2, wire_Encode_k3, hacc, wire_Encode_k4])
      exact hstay true (fun _ => hbig) hbig hm
    (try simp (maxSteps := 1000000) (disch := first | omega | (simp only [Z3]; omega) | (simp; done) | assumption | decide | (refine not_not_intro ?_; assumption)) only [Z1, Z2, splice, g2, wire_Encode_k3, hacc, wire_Encode_k4])
    refine ownF_apps (α := BitVec 8) (ys := [35]) rfl ho2 (by rfl) (by rfl) rfl (by simp; omega) (by simp; omega) fun w5 H5 o5 k5 v5 => ?_
    have g5 := k5.get g2 hnot
    have hnot5 : H1.next ∉ vb w5 := fun q => (v5 _ q).elim hnot (fun q => by omega)
    refine (enc_num o5 (by simp; omega) rfl g5 hnot5 _ fun w6 H6 o6 k6 v6 => ?_)
    (try simp (maxSteps := 1000000) (disch := first | omega | (simp only [Z3]; omega) | (simp; done) | assumption | decide | (refine not_not_intro ?_; assumption)) only [Z1, Z2, splice, wire_Encode_k4])
    refine hgrow w6 H6 ?_ ?_ ?_ (by omega) hm
    · rw [hx]
      have : oneI ⟨false, xn, ⟨#[]⟩⟩ = [35] ++ be8 xn := by simp [oneI]
      rw [this, ← List.append_assoc]; exact o6
    · have := hk3.next
      refine ⟨by have := k5.next; have := k6.next; omega, fun b hb _ => ?_⟩
      rw [k6.same b (by have := k5.next; omega) (fun q => (v5 _ q).elim (fun q => by have := hv _ q; omega) (fun q => by omega)), k5.same b (by omega) (fun q => by have := hv _ q; omega), hk3.same b hb (by simp)]
    · intro b hb
      have := hk3.next; have := k5.next
      rcases v6 b hb with q | q
      · rcases v5 b q with q | q
        · exact hv b q
        · omega
      · omega
end Go.AM.Cap
