/- Slices among the cells of other things. -/
import Derived.Test.YtfcjpopnibhagaaDoorAmSlc
set_option linter.all false
namespace Go.AM

/-- a slice among the cells of another thing -/
structure In (α : Type) where
  v : V
  xs : List α
  one : v.isOne = true
instance {α : Type} : Inhabited (In α) := ⟨⟨.slice none 0 0, [], rfl⟩⟩


instance {α : Type} : Flat (In α) := ⟨1, fun a => [a.v], fun _ => rfl, fun a => by simp [a.one], by decide⟩
theorem enc_in {α : Type} (a : In α) : Flat.enc a = [a.v] := rfl

/-- slices of slices: all may be looked at -/
structure Sl2 {α : Type} [Flat α] (H : Heap) (v : V) (xs : List (In α)) : Prop where
  out : Sl H v xs
  inn : ∀ x ∈ xs, Sl H x.v x.xs
theorem Sl2.keep0 {α : Type} [Flat α] {H H' : Heap} {v : V} {xs : List (In α)} (h : Sl2 H v xs) (hk : Keeps [] H H') : Sl2 H' v xs := ⟨h.out.keep0 hk, fun x hx => (h.inn x hx).keep0 hk⟩
theorem Sl2.at {α : Type} [Flat α] {H : Heap} {v : V} {xs : List (In α)} (h : Sl2 H v xs) {i : Nat} (hi : i < xs.length) : Sl H (xs.getD i default).v (xs.getD i default).xs := by
  rw [List.getD_eq_getElem?_getD, List.getElem?_eq_getElem hi]
  exact h.inn _ (List.getElem_mem hi)
theorem Sl2.get {α : Type} [Flat α] {H : Heap} {v : V} {xs : List (In α)} (h : Sl2 H v xs) {i : Nat} (hi : i < xs.length) : iaddrS 1 v (i64 i) = some (ptr (slB v) (slO v + i)) ∧ cellP H (ptr (slB v) (slO v + i)) = some (xs.getD i default).v := by
  have h1 := h.out.addr1 rfl (k := .i64) (i := i) (by omega) (by omega)
  rw [Int.toNat_natCast] at h1
  exact ⟨h1, by rw [h.out.cell1 rfl hi default]; rfl⟩
end Go.AM
