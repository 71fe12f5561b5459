import Derived.Test.YtehhkminlafeiaaGreatDoorShaE
import Derived.Test.YtehhkminlafeiaaGreatDoorAmOwnF
import Derived.Test.YtehhkminlafeiaaGreatDoorAmOpenF
set_option linter.all false
/- sha: Sum, Hex -/
namespace Go.AM.Cap
open Go.AM Go.Proofs

theorem Tab.lt {H : Heap} (h : Tab H) : gid_sha_rounds < H.next := by obtain ⟨_, _, t, _⟩ := h; exact Heap.get_lt t
theorem First.lt {H : Heap} (h : First H) : gid_sha_first < H.next := by obtain ⟨_, _, t, _⟩ := h; exact Heap.get_lt t

/-- the program's digest -/
theorem sha_Sum_ok (H : Heap) (s : ByteArray) (hs : s.size ≤ 1099511627776) (hf : First H) (ht : Tab H) (Q : V → Heap → Prop) (hQ : ∀ H', Keeps [] H H' → Q (.string (sv (sum (bv s)))) H') : wp (A_sha_Sum [.string s]) Q H := by
  show wp (F_sha_Sum (.string s)) Q H
  have htl := ht.lt
  simp only [F_sha_Sum, wp_bnd]
  refine sha_new_ok H hf _ fun p H1 h1 k1 e1 n1 => ?_
  have t1 : Tab H1 := ht.keep k1 (by simp)
  refine sha_write_ok H1 p [] s _ h1 t1 (by omega) (by simpa using hs) _ fun H2 v h2 _ k2 t2 => ?_
  refine sha_sum_ok H2 p _ v h2 t2 (by omega) (by rw [List.nil_append, bv_length]; exact hs) _ fun H3 k3 => ?_
  simp only [wp_ret, finM_ret, outV_one, at_zero]
  exact hQ H3 ((k1.trans k2 (fun x hx hm => by simp at hm; omega)).trans k3 (fun _ _ h => h))
theorem take_snoc {α : Type} (l : List α) (i : Nat) (d : α) (h : i < l.length) : l.take (i + 1) = l.take i ++ [l.getD i d] := by
  rw [List.take_succ, List.getD_eq_getElem?_getD, List.getElem?_eq_getElem h]; rfl

theorem sum_length (l : List (BitVec 8)) : (sum l).length = 32 := rfl

end Go.AM.Cap
