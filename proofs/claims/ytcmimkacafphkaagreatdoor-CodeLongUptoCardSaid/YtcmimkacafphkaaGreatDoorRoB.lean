import Derived.Test.YtcmimkacafphkaaGreatDoorRoA
import Derived.Test.YtcmimkacafphkaaGreatDoorAmOpenF
set_option linter.all false
/- roles: users; Find, level, wrong, formed, Check -/
set_option maxHeartbeats 8000000
namespace Go.AM.Cap
open Go.AM Go.Proofs

structure Rl where
  part : Int
  level : Int
deriving DecidableEq
instance : Inhabited Rl := ⟨⟨0, 0⟩⟩
instance : Flat Rl := ⟨2, fun r => [i64 r.part, i64 r.level], fun _ => rfl, fun _ => rfl, by decide⟩
structure Us where
  name : ByteArray
  key : ByteArray
  rs : In Rl
instance : Inhabited Us := ⟨⟨⟨#[]⟩, ⟨#[]⟩, default⟩⟩
instance : Flat Us := ⟨3, fun u => [.string u.name, .string u.key, u.rs.v], fun _ => rfl, fun u => by simp [u.rs.one], by decide⟩
/-- users that may be looked at -/
structure Users (H : Heap) (v : V) (l : List Us) : Prop where
  out : Sl H v l
  inn : ∀ u ∈ l, Sl H u.rs.v u.rs.xs ∧ u.rs.xs.length ≤ 1048576
theorem Users.keep0 {H H' : Heap} {v : V} {l : List Us} (h : Users H v l) (hk : Keeps [] H H') : Users H' v l := ⟨h.out.keep0 hk, fun u hu => ⟨(h.inn u hu).1.keep0 hk, (h.inn u hu).2⟩⟩
theorem getD_mem' {α : Type} {l : List α} {i : Nat} {d : α} (h : i < l.length) : l.getD i d ∈ l := by
  rw [List.getD_eq_getElem?_getD, List.getElem?_eq_getElem h]; exact List.getElem_mem h
theorem Users.at {H : Heap} {v : V} {l : List Us} (h : Users H v l) {i : Nat} (hi : i < l.length) : Sl H (l.getD i default).rs.v (l.getD i default).rs.xs ∧ (l.getD i default).rs.xs.length ≤ 1048576 := h.inn _ (getD_mem' hi)

/-! the first that is so -/
def idxP {α : Type} (p : α → Bool) : List α → Option Nat
  | [] => none
  | x :: l => if p x then some 0 else (idxP p l).map (· + 1)
def idxV : Option Nat → Int
  | none => -1
  | some i => i
theorem idxP_some {α : Type} {p : α → Bool} {d : α} : ∀ {l : List α} {i : Nat}, i < l.length → p (l.getD i d) = true → (∀ j, j < i → p (l.getD j d) = false) → idxP p l = some i
  | [], i, h, _, _ => by simp at h
  | x :: l, 0, _, hp, _ => by
    have : p x = true := hp
    simp [idxP, this]
  | x :: l, i + 1, h, hp, hn => by
    have h0 : p x = false := hn 0 (by omega)
    have := idxP_some (p := p) (d := d) (l := l) (i := i) (by simpa using h) (by simpa using hp) (fun j hj => by simpa using hn (j + 1) (by omega))
    simp [idxP, h0, this]
theorem idxP_none {α : Type} {p : α → Bool} : ∀ {l : List α}, idxP p l = none ↔ ∀ x ∈ l, p x = false
  | [] => by simp [idxP]
  | x :: l => by
    unfold idxP
    by_cases h : p x = true
    · rw [if_pos h]; simp [h]
    · rw [if_neg h, Option.map_eq_none_iff, idxP_none]; simp [h]
theorem idxP_spec {α : Type} {p : α → Bool} {d : α} : ∀ {l : List α} {i : Nat}, idxP p l = some i → i < l.length ∧ p (l.getD i d) = true ∧ ∀ j, j < i → p (l.getD j d) = false
  | [], i, h => by cases h
  | x :: l, i, h => by
    unfold idxP at h
    by_cases hp : p x = true
    · rw [if_pos hp] at h
      cases h
      exact ⟨by simp, hp, by omega⟩
    · rw [if_neg hp] at h
      obtain ⟨j, hj, rfl⟩ := Option.map_eq_some_iff.1 h
      obtain ⟨h1, h2, h3⟩ := idxP_spec (d := d) hj
      refine ⟨by simpa using h1, by simpa using h2, fun k hk => ?_⟩
      cases k with
      | zero => simpa using hp
      | succ k => simpa using h3 k (by omega)
theorem none_of {α : Type} {p : α → Bool} {d : α} {l : List α} (h : ∀ j, j < l.length → p (l.getD j d) = false) : idxP p l = none := by
  rw [idxP_none]
  intro x hx
  obtain ⟨j, hj, rfl⟩ := List.getElem_of_mem hx
  have := h j hj
  rwa [List.getD_eq_getElem?_getD, List.getElem?_eq_getElem hj] at this

end Go.AM.Cap
