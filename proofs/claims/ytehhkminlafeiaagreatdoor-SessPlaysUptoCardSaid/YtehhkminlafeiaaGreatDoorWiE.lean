import Derived.Test.YtehhkminlafeiaaGreatDoorWiD
import Derived.Test.YtehhkminlafeiaaGreatDoorAmOpenF
set_option linter.all false
/- wire: Encode -/
set_option maxHeartbeats 16000000
namespace Go.AM.Cap
open Go.AM Go.Proofs
theorem zbj1 (l : List It) (i : Nat) (h : i < l.length) : w2 l.length ++ (l.take (i + 1)).flatMap zpx = (w2 l.length ++ (l.take i).flatMap zpx) ++ zpx (l.getD i default) := by
  rw [List.take_succ, List.getElem?_eq_getElem h, List.flatMap_append, List.getD_eq_getElem?_getD, List.getElem?_eq_getElem h, List.append_assoc]
  simp
theorem zbs9 {l : List It} {i : Nat} (h : i < l.length) (hm : zjr (l.getD i default) = false) : l.any (fun x => !zjr x) = true := by
  rw [List.any_eq_true]
  refine ⟨l.getD i default, ?_, by rw [hm]; rfl⟩
  rw [List.getD_eq_getElem?_getD, List.getElem?_eq_getElem h]
  exact List.getElem_mem h
theorem zbqy {l : List It} (h : ∀ i, i < l.length → zjr (l.getD i default) = true) : l.any (fun x => !zjr x) = false := by
  rw [List.any_eq_false]
  intro x hx
  obtain ⟨i, hi, rfl⟩ := List.getElem_of_mem hx
  have := h i hi
  rw [List.getD_eq_getElem?_getD, List.getElem?_eq_getElem hi] at this
  simpa using this
theorem zbqz (x : It) (h : zjr x = true) : (zpx x).length ≤ 65538 := by
  unfold zpx
  unfold zjr at h
  split
  · rename_i ht
    rw [if_pos ht] at h
    simp only [decide_eq_true_eq] at h
    simp [w2, zb7]; omega
  · simp [zdt]
def z4r (l : List It) (i : Nat) (acc : List (BitVec 8)) : Prop := acc <+: w2 l.length ++ (l.take i).flatMap zpx ∧ (acc = w2 l.length ++ (l.take i).flatMap zpx ∨ acc.length > 65536)
theorem z4r.grow {l : List It} {i : Nat} {acc : List (BitVec 8)} (h : z4r l i acc) (hi : i < l.length) (hs : acc.length ≤ 65536) : z4r l (i + 1) (acc ++ zpx (l.getD i default)) := by
  rcases h.2 with rfl | h2
  · unfold z4r; rw [zbj1 l i hi]; exact ⟨List.prefix_refl _, .inl rfl⟩
  · omega
theorem z4r.stay {l : List It} {i : Nat} {acc : List (BitVec 8)} (h : z4r l i acc) (hi : i < l.length) (hs : acc.length > 65536) : z4r l (i + 1) acc := by
  unfold z4r; rw [zbj1 l i hi]; exact ⟨h.1.trans (List.prefix_append _ _), .inr hs⟩
theorem z4r.done {l : List It} {acc : List (BitVec 8)} (h : z4r l l.length acc) : (acc.length ≤ 65536 → acc = zvl l) ∧ (acc.length > 65536 → (zvl l).length > 65536) := by
  unfold z4r at h
  rw [List.take_length] at h
  refine ⟨fun hs => h.2.resolve_right (by omega), fun hs => ?_⟩
  have := h.1.length_le
  unfold zvl; omega
set_option maxRecDepth 20000 in
theorem zb2v {H : Heap} {v : V} {l : List It} (h : Sl H v l) (Q : V → Heap → Prop) (hQ : ∀ H', Keeps [] H H' → Q (.tuple #[.string (zhu l).1, i64 (zhu l).2]) H') : wp (zqh [v]) Q H := by
  show wp (zu1 v) Q H
  have hlen := h.len
  unfold zu1
  by_cases h1 : l.length > 1000
  · have e : zhu l = (⟨#[]⟩, 2) := by unfold zhu; rw [if_pos h1]
    rw [e] at hQ
    (try simp (maxSteps := 1000000) (disch := first | omega | (simp only [Z3]; omega) | (simp; done) | assumption | decide | (refine not_not_intro ?_; assumption)) only [Z1, Z2, splice, hlen])
    exact hQ H (Keeps.refl _ _)
  (try simp (maxSteps := 1000000) (disch := first | omega | (simp only [Z3]; omega) | (simp; done) | assumption | decide | (refine not_not_intro ?_; assumption)) only [Z1, Z2, splice, hlen, z7y, zbqx, zboh])
  refine (zgv (cs := zba (w2 l.length)) (by rfl) (by rfl)).mpr ?_
  (try simp (maxSteps := 1000000) (disch := first | omega | (simp only [Z3]; omega) | (simp; done) | assumption | decide | (refine not_not_intro ?_; assumption)) only [Z1, Z2, splice, hlen])
  have hres : l.any (fun x => !zjr x) = true → zhu l = (⟨#[]⟩, 4) := fun q => by unfold zhu; rw [if_neg h1, if_pos q]
  refine zbt (Inv := fun k vs H' => ∃ (i : Nat) (w : V) (acc : List (BitVec 8)) (long : Bool), k = l.length - i ∧ i ≤ l.length ∧ vs = [w, .bool long, v, i64 l.length, i64 i] ∧ zcj H' w acc ∧ Keeps [] H H' ∧ (∀ b ∈ vb w, H.next ≤ b) ∧ z4r l i acc ∧ acc.length ≤ 140000 ∧ (long = true → acc.length > 65536) ∧ (∀ j, j < i → zjr (l.getD j default) = true)) (n := l.length) (by unfold zcc; omega)
    ⟨0, _, w2 l.length, false, by omega, by omega, rfl, zd1 rfl rfl, Keeps.push _ _ _, by simp, ⟨by simp, .inl (by simp)⟩, by simp [w2], by simp, by omega⟩ ?_
  rintro k vs H1 ⟨i, w, acc, long, hk, hi, rfl, ho, hk1, hv, hp, ha, hlong, hmay⟩
  have hacc := ho.len
  by_cases hlt : i < l.length
  case neg =>
    have : i = l.length := by omega
    subst this
    have hany := zbqy hmay
    have hd := hp.done
    (try simp (maxSteps := 1000000) (disch := first | omega | (simp only [Z3]; omega) | (simp; done) | assumption | decide | (refine not_not_intro ?_; assumption)) only [Z1, Z2, splice, zy9])
    cases long with
    | true =>
      have e : zhu l = (⟨#[]⟩, 2) := by unfold zhu; rw [if_neg h1, if_neg (by simp [hany]), if_pos (hd.2 (hlong rfl))]
      rw [e] at hQ
      (try simp (maxSteps := 1000000) (disch := first | omega | (simp only [Z3]; omega) | (simp; done) | assumption | decide | (refine not_not_intro ?_; assumption)) only [Z1, Z2, splice, zth])
      exact hQ _ hk1
    | false =>
      by_cases hbig : acc.length > 65536
      · have e : zhu l = (⟨#[]⟩, 2) := by unfold zhu; rw [if_neg h1, if_neg (by simp [hany]), if_pos (hd.2 hbig)]
        rw [e] at hQ
        (try simp (maxSteps := 1000000) (disch := first | omega | (simp only [Z3]; omega) | (simp; done) | assumption | decide | (refine not_not_intro ?_; assumption)) only [Z1, Z2, splice, zth, hacc])
        exact hQ _ hk1
      · have e0 := hd.1 (by omega)
        have e : zhu l = (sv (zvl l), 0) := by unfold zhu; rw [if_neg h1, if_neg (by simp [hany]), if_neg (by rw [← e0]; omega)]
        rw [e] at hQ
        (try simp (maxSteps := 1000000) (disch := first | omega | (simp only [Z3]; omega) | (simp; done) | assumption | decide | (refine not_not_intro ?_; assumption)) only [Z1, Z2, splice, zth, hacc, z7x])
        refine zu6 ho ?_
        rw [e0]
        (try simp (maxSteps := 1000000) (disch := first | omega | (simp only [Z3]; omega) | (simp; done) | assumption | decide | (refine not_not_intro ?_; assumption)) only [Z1, Z2, splice])
        exact hQ _ hk1
  have hs1 := h.keep0 hk1
  have a1 := hs1.addr' (n := 3) rfl (k := .i64) (i := i) (by omega) (by omega)
  rw [Int.toNat_natCast] at a1
  have d1 := fun Q => hs1.ldn' (Q := Q) (n := 3) rfl hlt default
  generalize hx : l.getD i default = x at d1
  have hk2 : Keeps [] H1 (H1.push (some (.cells true [.bool x.t, i64 x.n, .string x.s]))) := Keeps.push _ _ _
  have g2 : (H1.push (some (.cells true [.bool x.t, i64 x.n, .string x.s]))).get H1.next = some (.cells true [.bool x.t, i64 x.n, .string x.s]) := Heap.get_push_self _ _
  have n2 : (H1.push (some (.cells true [.bool x.t, i64 x.n, .string x.s]))).next = H1.next + 1 := by simp
  (try simp (maxSteps := 1000000) (disch := first | omega | (simp only [Z3]; omega) | (simp; done) | assumption | decide | (refine not_not_intro ?_; assumption)) only [Z1, Z2, splice, zy9, z7w, a1, d1, zzs])
  have ho2 := ho.keep0 hk2
  generalize H1.push (some (.cells true [.bool x.t, i64 x.n, .string x.s])) = H2 at *
  have hk3 : Keeps [] H H2 := hk1.trans hk2 (by simp)
  have hnot : H1.next ∉ vb w := fun q => by have := ho.lt _ q; omega
  obtain ⟨xt, xn, xs⟩ := x
  have hstay : ∀ (long' : Bool), (long' = true → acc.length > 65536) → acc.length > 65536 → zjr (l.getD i default) = true → ∃ k', k' < k ∧ ∃ (i' : Nat) (w' : V) (acc : List (BitVec 8)) (long : Bool), k' = l.length - i' ∧ i' ≤ l.length ∧ [w, .bool long', v, i64 l.length, i64 ((i : Int) + 1)] = [w', .bool long, v, i64 l.length, i64 i'] ∧ zcj H2 w' acc ∧ Keeps [] H H2 ∧ (∀ b ∈ vb w', H.next ≤ b) ∧ z4r l i' acc ∧ acc.length ≤ 140000 ∧ (long = true → acc.length > 65536) ∧ (∀ j, j < i' → zjr (l.getD j default) = true) := fun long' q1 q2 q3 =>
    ⟨l.length - (i + 1), by omega, i + 1, w, acc, long', rfl, by omega, by push_cast; rfl, ho2, hk3, hv, hp.stay hlt q2, ha, q1, fun j hj => by
      rcases Nat.lt_or_eq_of_le (Nat.lt_succ_iff.1 hj) with q | rfl
      · exact hmay j q
      · exact q3⟩
  have hgrow : ∀ (w' : V) (H' : Heap), zcj H' w' (acc ++ zpx (l.getD i default)) → Keeps [] H H' → (∀ b ∈ vb w', H.next ≤ b) → acc.length ≤ 65536 → zjr (l.getD i default) = true → ∃ k', k' < k ∧ ∃ (i' : Nat) (w'' : V) (acc : List (BitVec 8)) (long' : Bool), k' = l.length - i' ∧ i' ≤ l.length ∧ [w', .bool long, v, i64 l.length, i64 ((i : Int) + 1)] = [w'', .bool long', v, i64 l.length, i64 i'] ∧ zcj H' w'' acc ∧ Keeps [] H H' ∧ (∀ b ∈ vb w'', H.next ≤ b) ∧ z4r l i' acc ∧ acc.length ≤ 140000 ∧ (long' = true → acc.length > 65536) ∧ (∀ j, j < i' → zjr (l.getD j default) = true) := fun w' H' q1 q2 q3 q4 q5 =>
    ⟨l.length - (i + 1), by omega, i + 1, w', _, long, rfl, by omega, by push_cast; rfl, q1, q2, q3, hp.grow hlt q4, by have := zbqz _ q5; rw [List.length_append]; omega, fun q => by have := hlong q; omega, fun j hj => by
      rcases Nat.lt_or_eq_of_le (Nat.lt_succ_iff.1 hj) with q | rfl
      · exact hmay j q
      · exact q5⟩
  cases xt with
  | true =>
    by_cases hbad : xn = 0 ∧ xs.size ≤ 65535
    case neg =>
      have hm : zjr (l.getD i default) = false := by rw [hx]; simp only [zjr, if_true, hbad, decide_false]
      rw [hres (zbs9 hlt hm)] at hQ
      by_cases hn0 : xn = 0
      · have : ¬ xs.size ≤ 65535 := fun q => hbad ⟨hn0, q⟩
        (try simp (maxSteps := 1000000) (disch := first | omega | (simp only [Z3]; omega) | (simp; done) | assumption | decide | (refine not_not_intro ?_; assumption)) only [Z1, Z2, splice, g2, zhp])
        exact hQ _ hk3
      · (try simp (maxSteps := 1000000) (disch := first | omega | (simp only [Z3]; omega) | (simp; done) | assumption | decide | (refine not_not_intro ?_; assumption)) only [Z1, Z2, splice, g2, zhp])
        exact hQ _ hk3
    have hm : zjr (l.getD i default) = true := by rw [hx]; simp only [zjr, if_true, hbad, and_self, decide_true]
    obtain ⟨rfl, hsz⟩ := hbad
    by_cases hbig : acc.length > 65536
    · (try simp (maxSteps := 1000000) (disch := first | omega | (simp only [Z3]; omega) | (simp; done) | assumption | decide | (refine not_not_intro ?_; assumption)) only [Z1, Z2, splice, g2, zhp, hacc, zjd])
      exact hstay true (fun _ => hbig) hbig hm
    (try simp (maxSteps := 1000000) (disch := first | omega | (simp only [Z3]; omega) | (simp; done) | assumption | decide | (refine not_not_intro ?_; assumption)) only [Z1, Z2, splice, g2, zhp, hacc, zjd, zbqx, zboh])
    refine (zgv (cs := zba (36 :: w2 xs.size)) (by rfl) (by rfl)).mpr ?_
    have k4 : Keeps [] H2 (H2.push (some (.cells true (zba (36 :: w2 xs.size))))) := Keeps.push _ _ _
    have o4 := zd1 (H := H2) (xs := (36 :: w2 xs.size)) (n := 1) (m := 3) rfl rfl
    have ho4 := ho2.keep0 k4
    have g4 := k4.get g2 (by simp)
    have n4 : (H2.push (some (.cells true (zba (36 :: w2 xs.size))))).next = H2.next + 1 := by simp
    generalize H2.push (some (.cells true (zba (36 :: w2 xs.size)))) = H4 at *
    refine zfk (α := BitVec 8) rfl ho4 o4.sl (by simp [w2]; omega) (by simp [w2]; omega) fun w5 H5 o5 k5 v5 => ?_
    have g5 := k5.get g4 hnot
    refine zbl0 o5 (by simp [w2]; omega) fun w6 H6 o6 k6 v6 => ?_
    have hnot5 : H1.next ∉ vb w5 := fun q => (v5 _ q).elim hnot (fun q => by omega)
    (try simp (maxSteps := 1000000) (disch := first | omega | (simp only [Z3]; omega) | (simp; done) | assumption | decide | (refine not_not_intro ?_; assumption)) only [Z1, Z2, splice, g4, g5, zjd])
    refine hgrow w6 H6 ?_ ?_ ?_ (by omega) hm
    · rw [hx]
      have : zpx ⟨true, 0, xs⟩ = (36 :: w2 xs.size) ++ bv xs := by simp [zpx]
      rw [this, ← List.append_assoc]; exact o6
    · have := hk3.next
      refine ⟨by have := k4.next; have := k5.next; have := k6.next; omega, fun b hb _ => ?_⟩
      rw [k6.same b (by have := k4.next; have := k5.next; omega) (fun q => (v5 _ q).elim (fun q => by have := hv _ q; omega) (fun q => by omega)), k5.same b (by omega) (fun q => by have := hv _ q; omega), k4.same b (by omega) (by simp), hk3.same b hb (by simp)]
    · intro b hb
      have := hk3.next; have := k4.next; have := k5.next
      rcases v6 b hb with q | q
      · rcases v5 b q with q | q
        · exact hv b q
        · omega
      · omega
  | false =>
    by_cases hbad : xs = ⟨#[]⟩
    case neg =>
      have hm : zjr (l.getD i default) = false := by rw [hx]; simp [zjr, hbad]
      rw [hres (zbs9 hlt hm)] at hQ
      (try simp (maxSteps := 1000000) (disch := first | omega | (simp only [Z3]; omega) | (simp; done) | assumption | decide | (refine not_not_intro ?_; assumption)) only [Z1, Z2, splice, g2, zhp])
      exact hQ _ hk3
    have hm : zjr (l.getD i default) = true := by rw [hx]; simp [zjr, hbad]
    subst hbad
    by_cases hbig : acc.length > 65536
    · (try simp (maxSteps := 1000000) (disch := first | omega | (simp only [Z3]; omega) | (simp; done) | assumption | decide | (refine not_not_intro ?_; assumption)) only [Z1, Z2, splice, g2, zhp, hacc, zjd])
      exact hstay true (fun _ => hbig) hbig hm
    (try simp (maxSteps := 1000000) (disch := first | omega | (simp only [Z3]; omega) | (simp; done) | assumption | decide | (refine not_not_intro ?_; assumption)) only [Z1, Z2, splice, g2, zhp, hacc, zjd])
    refine zrk (α := BitVec 8) (ys := [35]) rfl ho2 (by rfl) (by rfl) rfl (by simp; omega) (by simp; omega) fun w5 H5 o5 k5 v5 => ?_
    have g5 := k5.get g2 hnot
    have hnot5 : H1.next ∉ vb w5 := fun q => (v5 _ q).elim hnot (fun q => by omega)
    refine (zb01 o5 (by simp; omega) rfl g5 hnot5 _ fun w6 H6 o6 k6 v6 => ?_)
    (try simp (maxSteps := 1000000) (disch := first | omega | (simp only [Z3]; omega) | (simp; done) | assumption | decide | (refine not_not_intro ?_; assumption)) only [Z1, Z2, splice, zjd])
    refine hgrow w6 H6 ?_ ?_ ?_ (by omega) hm
    · rw [hx]
      have : zpx ⟨false, xn, ⟨#[]⟩⟩ = [35] ++ be8 xn := by simp [zpx]
      rw [this, ← List.append_assoc]; exact o6
    · have := hk3.next
      refine ⟨by have := k5.next; have := k6.next; omega, fun b hb _ => ?_⟩
      rw [k6.same b (by have := k5.next; omega) (fun q => (v5 _ q).elim (fun q => by have := hv _ q; omega) (fun q => by omega)), k5.same b (by omega) (fun q => by have := hv _ q; omega), hk3.same b hb (by simp)]
    · intro b hb
      have := hk3.next; have := k5.next
      rcases v6 b hb with q | q
      · rcases v5 b q with q | q
        · exact hv b q
        · omega
      · omega
end Go.AM.Cap
