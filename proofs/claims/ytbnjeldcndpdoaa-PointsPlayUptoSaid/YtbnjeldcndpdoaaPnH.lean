import Derived.Test.YtbnjeldcndpdoaaPnG
import Derived.Test.YtbnjeldcndpdoaaAmMap
set_option linter.all false
/- points: the chapter's example -/
set_option maxHeartbeats 8000000
namespace Go.AM.Cap
open Go.AM Go.Proofs

theorem map_encs : ∀ l : List Int, l.map i64 = encs l
  | [] => rfl
  | x :: l => by rw [List.map_cons, map_encs l]; rfl
theorem sl_of {α : Type} [Flat α] {H : Heap} {b : Nat} {xs : List α} {n : Nat} (hn : n = Flat.size α) (h : H.get b = some (.cells true (encs xs))) : Sl H (slc b 0 n xs.length xs.length) xs :=
  .inr ⟨_, _, _, _, rfl, Nat.le_refl _, Heap.get_lt h, .inr ⟨_, _, h, by rw [encs_length]; omega, by rw [List.drop_zero, List.take_of_length_le (by rw [encs_length]; exact Nat.le_refl _)]⟩, .inr hn⟩
def exLs : List Pt := [⟨2, false⟩, ⟨1, true⟩]
def exGs : List Gr := [⟨0, 0, false⟩, ⟨0, 1, true⟩]
theorem works_ok (H : Heap) (Q : V → Heap → Prop) (hQ : ∀ H', Keeps [] H H' → Q (.bool true) H') : wp (A_law19_works GD []) Q H := by
  show wp (F_law19_works GD) Q H
  (try simp (maxSteps := 1000000) (disch := first | omega | (simp only [Z3]; omega) | (simp; done) | assumption | decide | (refine not_not_intro ?_; assumption)) only [Z1, Z2, splice, F_law19_works])
  refine (wp_bslc (cs := encs exLs) (by decide) (by rfl)).mpr ?_
  have k1 := Keeps.push [] H (some (.cells true (encs exLs)))
  have s1 := sl_of (α := Pt) rfl (Heap.get_push_self H (some (.cells true (encs exLs))))
  generalize H.push (some (.cells true (encs exLs))) = H1 at *
  (try simp (maxSteps := 1000000) (disch := first | omega | (simp only [Z3]; omega) | (simp; done) | assumption | decide | (refine not_not_intro ?_; assumption)) only [Z1, Z2, splice])
  refine (wp_bslc (cs := encs exGs) (by decide) (by rfl)).mpr ?_
  have k2 := Keeps.push [] H1 (some (.cells true (encs exGs)))
  have s2 := sl_of (α := Gr) rfl (Heap.get_push_self H1 (some (.cells true (encs exGs))))
  have s1' := s1.keep0 k2
  generalize H1.push (some (.cells true (encs exGs))) = H2 at *
  have k02 := k1.trans k2 (fun _ _ h => h)
  (try simp (maxSteps := 1000000) (disch := first | omega | (simp only [Z3]; omega) | (simp; done) | assumption | decide | (refine not_not_intro ?_; assumption)) only [Z1, Z2, splice])
  refine points_New_ok s1' s2 (by decide) _ (fun h => absurd (by decide) h) fun _ x H3 b3 k3 f3 => ?_
  have low : ∀ b ∈ x.foot, H.next ≤ b := fun b hb => by have := f3 b hb; have := k02.next; omega
  have m1 : x.sm ∈ x.foot := by simp [BL.foot]
  have m2 : x.fm ∈ x.foot := by simp [BL.foot]
  have m3 : x.va ∈ x.foot := by simp [BL.foot]
  have l1 := low _ m1
  have l2 := low _ m2
  have l3 := low _ m3
  have k03 := k02.trans k3 (fun _ _ h => h)
  generalize hB0 : newB exLs exGs = B0 at *
  (try simp (maxSteps := 1000000) (disch := first | omega | (simp only [Z3]; omega) | (simp; done) | assumption | decide | (refine not_not_intro ?_; assumption)) only [Z1, Z2, splice])
  refine (wp_bslc (cs := encs [(5 : Int)]) (by decide) (by rfl)).mpr ?_
  have k4 := Keeps.push [] H3 (some (.cells true (encs [(5 : Int)])))
  have s4 := sl_of (α := Int) rfl (Heap.get_push_self H3 (some (.cells true (encs [(5 : Int)]))))
  have n3 : x.va < H3.next := b3.lt _ m3
  have b4 := b3.keep0 k4
  have ne4 : ∀ b ∈ _root_.Go.AM.vb (slc H3.next 0 1 [(5 : Int)].length [(5 : Int)].length), b ≠ x.va := fun b hb => by simp at hb; omega
  generalize H3.push (some (.cells true (encs [(5 : Int)]))) = H4 at *
  (try simp (maxSteps := 1000000) (disch := first | omega | (simp only [Z3]; omega) | (simp; done) | assumption | decide | (refine not_not_intro ?_; assumption)) only [Z1, Z2, splice])
  refine latch_ok b4 s4 ne4 _ fun H5 b5 k5 => ?_
  subst hB0
  rw [show (latchS (newB exLs exGs) [5]).2 = 0 by decide]
  have k05 : Keeps [] H H5 := (k03.trans k4 (fun _ _ h => h)).trans k5 (fun b hb hm => by simp at hm; omega)
  (try simp (maxSteps := 1000000) (disch := first | omega | (simp only [Z3]; omega) | (simp; done) | assumption | decide | (refine not_not_intro ?_; assumption)) only [Z1, Z2, splice, law19_works_k1])
  refine read_ok b5 0 0 _ ?_
  rw [show readS (latchS (newB exLs exGs) [5]).1 0 0 = (5, 0) by decide]
  (try simp (maxSteps := 1000000) (disch := first | omega | (simp only [Z3]; omega) | (simp; done) | assumption | decide | (refine not_not_intro ?_; assumption)) only [Z1, Z2, splice])
  refine write_ok b5 0 1 1 _ fun H6 b6 k6 => ?_
  have k06 : Keeps [] H H6 := k05.trans k6 (fun b hb hm => by simp at hm; omega)
  rw [show (writeS (latchS (newB exLs exGs) [5]).1 0 1 1).2 = 0 by decide]
  (try simp (maxSteps := 1000000) (disch := first | omega | (simp only [Z3]; omega) | (simp; done) | assumption | decide | (refine not_not_intro ?_; assumption)) only [Z1, Z2, splice])
  refine outputs_ok b6 _ fun v H7 o7 k7 f7 => ?_
  rw [show outS (writeS (latchS (newB exLs exGs) [5]).1 0 1 1).1 = [0] by decide, map_encs] at o7
  have k07 := k06.trans k7 (fun _ _ h => h)
  (try simp (maxSteps := 1000000) (disch := first | omega | (simp only [Z3]; omega) | (simp; done) | assumption | decide | (refine not_not_intro ?_; assumption)) only [Z1, Z2, splice])
  refine (wp_bslc (cs := encs [(0 : Int)]) (by decide) (by rfl)).mpr ?_
  have k8 := Keeps.push [] H7 (some (.cells true (encs [(0 : Int)])))
  have s8 := sl_of (α := Int) rfl (Heap.get_push_self H7 (some (.cells true (encs [(0 : Int)]))))
  have o8 := (o7.keep k8 (by simp)).sl rfl
  have b8 := b6.keep0 (k7.trans k8 (fun _ _ h => h))
  have k08 := k07.trans k8 (fun _ _ h => h)
  generalize H7.push (some (.cells true (encs [(0 : Int)]))) = H8 at *
  (try simp (maxSteps := 1000000) (disch := first | omega | (simp only [Z3]; omega) | (simp; done) | assumption | decide | (refine not_not_intro ?_; assumption)) only [Z1, Z2, splice])
  refine sameNums_ok o8 s8 (by decide) _ ?_
  (try simp (maxSteps := 1000000) (disch := first | omega | (simp only [Z3]; omega) | (simp; done) | assumption | decide | (refine not_not_intro ?_; assumption)) only [Z1, Z2, splice])
  refine commit_ok b8 0 _ fun H9 b9 k9 => ?_
  have k09 : Keeps [] H H9 := k08.trans k9 (fun b hb hm => by simp at hm; omega)
  rw [show (endS (writeS (latchS (newB exLs exGs) [5]).1 0 1 1).1 0 true).2 = 0 by decide]
  (try simp (maxSteps := 1000000) (disch := first | omega | (simp only [Z3]; omega) | (simp; done) | assumption | decide | (refine not_not_intro ?_; assumption)) only [Z1, Z2, splice, law19_works_k0])
  refine outputs_ok b9 _ fun v H10 o10 k10 f10 => ?_
  rw [show outS (endS (writeS (latchS (newB exLs exGs) [5]).1 0 1 1).1 0 true).1 = [1] by decide, map_encs] at o10
  have k010 := k09.trans k10 (fun _ _ h => h)
  (try simp (maxSteps := 1000000) (disch := first | omega | (simp only [Z3]; omega) | (simp; done) | assumption | decide | (refine not_not_intro ?_; assumption)) only [Z1, Z2, splice])
  refine (wp_bslc (cs := encs [(1 : Int)]) (by decide) (by rfl)).mpr ?_
  have k11 := Keeps.push [] H10 (some (.cells true (encs [(1 : Int)])))
  have s11 := sl_of (α := Int) rfl (Heap.get_push_self H10 (some (.cells true (encs [(1 : Int)]))))
  have o11 := (o10.keep k11 (by simp)).sl rfl
  have b11 := b9.keep0 (k10.trans k11 (fun _ _ h => h))
  have k011 := k010.trans k11 (fun _ _ h => h)
  generalize H10.push (some (.cells true (encs [(1 : Int)]))) = H11 at *
  (try simp (maxSteps := 1000000) (disch := first | omega | (simp only [Z3]; omega) | (simp; done) | assumption | decide | (refine not_not_intro ?_; assumption)) only [Z1, Z2, splice])
  refine sameNums_ok o11 s11 (by decide) _ ?_
  (try simp (maxSteps := 1000000) (disch := first | omega | (simp only [Z3]; omega) | (simp; done) | assumption | decide | (refine not_not_intro ?_; assumption)) only [Z1, Z2, splice])
  refine write_ok b11 1 1 0 _ fun H12 b12 k12 => ?_
  rw [show (writeS (endS (writeS (latchS (newB exLs exGs) [5]).1 0 1 1).1 0 true).1 1 1 0).2 = 190 by decide]
  (try simp (maxSteps := 1000000) (disch := first | omega | (simp only [Z3]; omega) | (simp; done) | assumption | decide | (refine not_not_intro ?_; assumption)) only [Z1, Z2, splice])
  exact hQ _ (k011.trans k12 (fun b hb hm => by simp at hm; omega))
end Go.AM.Cap
