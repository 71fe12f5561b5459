import Derived.Test.YtbnjeldcndpdoaaPnH
import Derived.Test.YtbnjeldcndpdoaaAmMap
set_option linter.all false
/- points: the law PointsStage -/
set_option maxHeartbeats 8000000
namespace Go.AM.Cap
open Go.AM Go.Proofs

theorem foldl_false (part : Int) : ∀ (st : List ((Int × Int) × Int)) (vs : List Int), st.foldl (upd1 part false) vs = vs
  | [], vs => rfl
  | e :: st, vs => by rw [List.foldl_cons, show upd1 part false vs e = vs by unfold upd1; rw [if_neg (by simp)], foldl_false part st]
/-- acts that lie low -/
structure Acts (H : Heap) (av : V) (acts : List QAct) : Prop where
  out : Sl H av acts
  inn : ∀ a ∈ acts, Sl H a.vv.v a.vv.xs
theorem Acts.keep0 {H H' : Heap} {av : V} {acts : List QAct} (h : Acts H av acts) (hk : Keeps [] H H') : Acts H' av acts := ⟨h.out.keep0 hk, fun a ha => (h.inn a ha).keep0 hk⟩
theorem Acts.at {H : Heap} {av : V} {acts : List QAct} (h : Acts H av acts) {i : Nat} (hi : i < acts.length) : Sl H (acts.getD i default).vv.v (acts.getD i default).vv.xs := by
  rw [List.getD_eq_getElem?_getD, List.getElem?_eq_getElem hi]
  exact h.inn _ (List.getElem_mem hi)
/-- a bank that lies behind H0 -/
structure Up (H0 H : Heap) (x : BL) (B : Bk) : Prop where
  b : BankR H x B
  k : Keeps [] H0 H
  low : ∀ b ∈ x.foot, H0.next ≤ b
theorem Up.sm {H0 H : Heap} {x : BL} {B : Bk} (u : Up H0 H x B) : H0.next ≤ x.sm ∧ H0.next ≤ x.fm ∧ H0.next ≤ x.va := ⟨u.low _ (by simp [BL.foot]), u.low _ (by simp [BL.foot]), u.low _ (by simp [BL.foot])⟩
theorem Up.keep0 {H0 H H' : Heap} {x : BL} {B : Bk} (u : Up H0 H x B) (hk : Keeps [] H H') : Up H0 H' x B := ⟨u.b.keep0 hk, u.k.trans hk (fun _ _ h => h), u.low⟩
theorem Up.turn {H0 H H' : Heap} {x : BL} {B B' : Bk} {S : List Nat} (u : Up H0 H x B) (hb : BankR H' x B') (hk : Keeps S H H') (hs : ∀ b ∈ S, b ∈ [x.sm, x.fm, x.va]) : Up H0 H' x B' :=
  ⟨hb, u.k.trans hk (fun b hb hm => by have := u.sm; have := hs b hm; simp at this; omega), u.low⟩
theorem Up.act {H0 H : Heap} {x : BL} {B : Bk} (u : Up H0 H x B) {av : V} {acts : List QAct} (ha : Acts H0 av acts) {i : Nat} (hi : i < acts.length) : ∀ b ∈ _root_.Go.AM.vb (acts.getD i default).vv.v, b ≠ x.va := fun b hb e => by
  have := (ha.at hi).lt b hb
  have := u.sm
  omega

theorem isNil_p (b o : Nat) : notIf false (isNil .p (ptr b o)) = some (.bool false) := rfl
end Go.AM.Cap
