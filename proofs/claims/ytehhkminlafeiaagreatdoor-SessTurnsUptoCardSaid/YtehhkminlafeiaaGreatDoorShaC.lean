import Derived.Test.YtehhkminlafeiaaGreatDoorShaA
set_option linter.all false
/- sha: ShaB -/
namespace Go.AM.Cap
open Go.AM Go.Proofs
theorem own_bslc {H : Heap} {zero new : List V} {parts : List (Nat × Nat × V)} {m : Nat} {Q : V → Heap → Prop} (hz : zero.all flatV = true) (hf : fillA zero parts = some new) (hl : new.length = m)
    (hQ : ∀ v H', Own H' v new → Keeps [] H H' → (∀ x ∈ vb v, H.next ≤ x) → Q v H') : wp (bslc 1 m zero parts) Q H := by
  refine (wp_bslc hz hf).mpr ?_
  subst hl
  exact hQ _ _ (.inr ⟨_, rfl, Heap.get_push_self _ _⟩) (Keeps.push _ _ _) (by simp)

end Go.AM.Cap

/- sha: ShaC -/
namespace Go.AM.Cap
open Go.AM Go.Proofs

def zeros (n : Nat) : Nat := (119 - n % 64) % 64
def be (w : BitVec 64) (j : Nat) : List (BitVec 8) := (List.range j).map fun t => (w >>> (8 * (7 - t))).setWidth 8
def pad (l : List (BitVec 8)) : List (BitVec 8) := l ++ [128#8] ++ List.replicate (zeros l.length) 0#8 ++ be (BitVec.ofNat 64 l.length * 8#64) 8

theorem be_succ (w : BitVec 64) (j : Nat) : be w (j + 1) = be w j ++ [(w >>> (8 * (7 - j))).setWidth 8] := by simp [be, List.range_succ]

/-- the state behind n blocks -/
def St.run (s : St) (l : List (BitVec 8)) : Nat → St
  | 0 => s
  | n + 1 => (s.run l n).take ((l.drop (64 * n)).take 64)
def St.init : St := ⟨0x6a09e667, 0xbb67ae85, 0x3c6ef372, 0xa54ff53a, 0x510e527f, 0x9b05688c, 0x1f83d9ab, 0x5be0cd19⟩
def wbytes (x : BitVec 32) : List (BitVec 8) := [(x >>> 24).setWidth 8, (x >>> 16).setWidth 8, (x >>> 8).setWidth 8, x.setWidth 8]
def St.bytes (s : St) : List (BitVec 8) := s.l.flatMap wbytes
/-- the digest -/
def sum (l : List (BitVec 8)) : List (BitVec 8) := (St.init.run (pad l) ((pad l).length / 64)).bytes

end Go.AM.Cap
