import Derived.Test.YtbnjeldcndpdoaaPnK
import Derived.Test.YtbnjeldcndpdoaaAmMap
set_option linter.all false
/- points: the law PointsApart, the rest -/
set_option maxHeartbeats 8000000
namespace Go.AM.Cap
open Go.AM Go.Proofs

/-- two banks behind H0 that lie apart -/
structure Two (H0 H : Heap) (x : BL) (B : Bk) (y : BL) (C : Bk) : Prop where
  a : Up H0 H x B
  b : BankR H y C
  low : ∀ b ∈ y.foot, H0.next ≤ b
  dis : ∀ b ∈ x.foot, b ∉ y.foot
theorem foot_sub {x : BL} {b : Nat} (h : b ∈ [x.sm, x.fm, x.va]) : b ∈ x.foot := by
  simp only [List.mem_cons, List.not_mem_nil, or_false] at h
  rcases h with rfl | rfl | rfl <;> simp [BL.foot]
theorem Two.keep0 {H0 H H' : Heap} {x y : BL} {B C : Bk} (t : Two H0 H x B y C) (hk : Keeps [] H H') : Two H0 H' x B y C := ⟨t.a.keep0 hk, t.b.keep0 hk, t.low, t.dis⟩
theorem Two.turnA {H0 H H' : Heap} {x y : BL} {B B' C : Bk} (t : Two H0 H x B y C) (hb : BankR H' x B') (hk : Keeps [x.sm, x.fm, x.va] H H') : Two H0 H' x B' y C :=
  ⟨t.a.turn hb hk (fun _ h => h), t.b.keep hk (fun b hb hm => t.dis b (foot_sub hm) hb), t.low, t.dis⟩
theorem Two.turnB {H0 H H' : Heap} {x y : BL} {B C C' : Bk} (t : Two H0 H x B y C) (hb : BankR H' y C') (hk : Keeps [y.sm, y.fm, y.va] H H') : Two H0 H' x B y C' :=
  ⟨⟨t.a.b.keep hk (fun b hb hm => t.dis b hb (foot_sub hm)), t.a.k.trans hk (fun b hb hm => by have := t.low b (foot_sub hm); omega), t.a.low⟩, hb, t.low, t.dis⟩

end Go.AM.Cap
