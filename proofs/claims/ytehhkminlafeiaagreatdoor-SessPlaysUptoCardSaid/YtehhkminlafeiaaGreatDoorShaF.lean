import Derived.Test.YtehhkminlafeiaaGreatDoorShaE
import Derived.Test.YtehhkminlafeiaaGreatDoorAmHeap
import Derived.Test.YtehhkminlafeiaaGreatDoorAmOpenF
set_option linter.all false
/- sha: Sum, Hex -/
namespace Go.AM.Cap
open Go.AM Go.Proofs
theorem Tab.lt {H : Heap} (h : Tab H) : gid_sha_rounds < H.next := by obtain ⟨_, _, t, _⟩ := h; exact Heap.get_lt t
theorem zbge.lt {H : Heap} (h : zbge H) : gid_sha_first < H.next := by obtain ⟨_, _, t, _⟩ := h; exact Heap.get_lt t
theorem zbbd (H : Heap) (s : ByteArray) (hs : s.size ≤ 1099511627776) (hf : zbge H) (ht : Tab H) (Q : V → Heap → Prop) (hQ : ∀ H', Keeps [] H H' → Q (.string (sv (sum (bv s)))) H') : wp (zpa [.string s]) Q H := by
  show wp (z8s (.string s)) Q H
  have htl := ht.lt
  simp only [z8s, zk]
  refine zbs7 H hf _ fun p H1 h1 k1 e1 n1 => ?_
  have t1 : Tab H1 := ht.keep k1 (by simp)
  refine zboa H1 p [] s _ h1 t1 (by omega) (by simpa using hs) _ fun H2 v h2 _ k2 t2 => ?_
  refine zbs8 H2 p _ v h2 t2 (by omega) (by rw [List.nil_append, zb7]; exact hs) _ fun H3 k3 => ?_
  simp only [wp_ret, zk2, zk3, zbp]
  exact hQ H3 ((k1.trans k2 (fun x hx hm => by simp at hm; omega)).trans k3 (fun _ _ h => h))
theorem z4p (H : Heap) (s : ByteArray) (hs : s.size ≤ 1099511627776) (Q : V → Heap → Prop) (hQ : ∀ H', Keeps [] H H' → Q (.string (sv (sum (bv s)))) H') : wp (zls [.string s]) Q H := zb0x H s hs Q hQ
theorem zbmc {α : Type} (l : List α) (i : Nat) (d : α) (h : i < l.length) : l.take (i + 1) = l.take i ++ [l.getD i d] := by
  rw [List.take_succ, List.getD_eq_getElem?_getD, List.getElem?_eq_getElem h]; rfl
theorem zbbe (l : List (BitVec 8)) : (sum l).length = 32 := rfl
end Go.AM.Cap
