/- Slices of things that lie flat in cells. -/
import Derived.Test.YtfcjpopnibhagaaDoorAmStr
set_option linter.all false
namespace Go.AM

class Flat (α : Type) where
  size : Nat
  enc : α → List V
  len : ∀ a, (enc a).length = size
  one : ∀ a, (enc a).all Value.isOne = true
  pos : 0 < size


instance : Flat Int := ⟨1, fun n => [i64 n], fun _ => rfl, fun _ => rfl, by decide⟩
instance : Flat ByteArray := ⟨1, fun s => [.string s], fun _ => rfl, fun _ => rfl, by decide⟩
instance : Flat (BitVec 8) := ⟨1, fun b => [B b], fun _ => rfl, fun _ => rfl, by decide⟩
instance : Flat Bool := ⟨1, fun b => [.bool b], fun _ => rfl, fun _ => rfl, by decide⟩

theorem enc_int (n : Int) : Flat.enc n = [i64 n] := rfl
theorem enc_str (s : ByteArray) : Flat.enc s = [.string s] := rfl
theorem enc_byte (b : BitVec 8) : Flat.enc b = [B b] := rfl
theorem enc_bool (b : Bool) : Flat.enc b = [.bool b] := rfl
variable {α : Type} [Flat α]
def encs (xs : List α) : List V := xs.flatMap Flat.enc
theorem encs_nil : encs ([] : List α) = [] := rfl
theorem encs_cons (x : α) (xs : List α) : encs (x :: xs) = Flat.enc x ++ encs xs := rfl
theorem encs_append (xs ys : List α) : encs (xs ++ ys) = encs xs ++ encs ys := by simp [encs]
theorem encs_length (xs : List α) : (encs xs).length = xs.length * Flat.size α := by
  induction xs with
  | nil => simp [encs]
  | cons x xs ih => rw [encs_cons, List.length_append, ih, Flat.len, List.length_cons, Nat.add_mul]; omega
theorem encs_one (xs : List α) : (encs xs).all Value.isOne = true := by
  induction xs with
  | nil => rfl
  | cons x xs ih => rw [encs_cons, List.all_append, ih, Flat.one]; rfl
theorem encs_drop (xs : List α) : ∀ i, (encs xs).drop (i * Flat.size α) = encs (xs.drop i) := by
  induction xs with
  | nil => intro i; simp [encs]
  | cons x xs ih =>
    intro i
    cases i with
    | zero => simp
    | succ i =>
      rw [encs_cons, Nat.add_mul, Nat.one_mul, Nat.add_comm, ← List.drop_drop]
      rw [List.drop_append_of_le_length (by rw [Flat.len]; exact Nat.le_refl _)]
      rw [show (Flat.enc x).drop (Flat.size α) = [] from List.drop_eq_nil_of_le (by rw [Flat.len]; exact Nat.le_refl _)]
      exact ih i
theorem encs_take (xs : List α) : ∀ i, (encs xs).take (i * Flat.size α) = encs (xs.take i) := by
  induction xs with
  | nil => intro i; simp [encs]
  | cons x xs ih =>
    intro i
    cases i with
    | zero => simp [encs]
    | succ i =>
      rw [encs_cons, Nat.add_mul, Nat.one_mul, Nat.add_comm, List.take_add, List.take_append_of_le_length (by rw [Flat.len]; exact Nat.le_refl _)]
      rw [show (Flat.enc x).take (Flat.size α) = Flat.enc x from List.take_of_length_le (by rw [Flat.len]; exact Nat.le_refl _)]
      rw [List.drop_append_of_le_length (by rw [Flat.len]; exact Nat.le_refl _), show (Flat.enc x).drop (Flat.size α) = [] from List.drop_eq_nil_of_le (by rw [Flat.len]; exact Nat.le_refl _)]
      rw [List.nil_append, ih i, List.take_succ_cons, encs_cons]

theorem encs_set (xs : List α) : ∀ (i off : Nat) (v : V) (x' : α) (d : α), i < xs.length → off < Flat.size α → Flat.enc x' = (Flat.enc (xs.getD i d)).set off v → (encs xs).set (i * Flat.size α + off) v = encs (xs.set i x') := by
  induction xs with
  | nil => intro i off v x' d hi; simp at hi
  | cons x xs ih =>
    intro i off v x' d hi ho hx
    cases i with
    | zero =>
      rw [encs_cons, Nat.zero_mul, Nat.zero_add, List.set_append_left _ _ (by rw [Flat.len]; exact ho), List.set_cons_zero, encs_cons, hx]
      rfl
    | succ i =>
      rw [encs_cons, List.set_append_right _ _ (by rw [Flat.len, Nat.add_mul]; omega), Flat.len, List.set_cons_succ, encs_cons]
      congr 1
      have : (i + 1) * Flat.size α + off - Flat.size α = i * Flat.size α + off := by rw [Nat.add_mul]; omega
      rw [this]
      exact ih i off v x' d (by simpa using hi) ho hx
theorem encs_splice (xs : List α) : ∀ (i : Nat) (x' : α), i < xs.length → splice (encs xs) (i * Flat.size α) (Flat.enc x') = encs (xs.set i x') := by
  induction xs with
  | nil => intro i x' hi; simp at hi
  | cons x xs ih =>
    intro i x' hi
    cases i with
    | zero =>
      rw [Nat.zero_mul, splice, List.take_zero, List.nil_append, encs_cons, Nat.zero_add, Flat.len, List.set_cons_zero, encs_cons]
      congr 1
      rw [List.drop_append_of_le_length (by rw [Flat.len]; exact Nat.le_refl _), List.drop_eq_nil_of_le (by rw [Flat.len]; exact Nat.le_refl _)]
      rfl
    | succ i =>
      have h1 := ih i x' (by simpa using hi)
      have e : (i + 1) * Flat.size α = Flat.size α + i * Flat.size α := by rw [Nat.add_mul]; omega
      rw [splice] at h1 ⊢
      rw [encs_cons, e, List.take_append, Flat.len, List.take_of_length_le (by rw [Flat.len]; omega), Nat.add_sub_cancel_left, List.set_cons_succ, encs_cons, ← h1, List.append_assoc, Nat.add_assoc, List.drop_append, List.drop_eq_nil_of_le (by rw [Flat.len]; omega), List.nil_append, Flat.len, Flat.len, Nat.add_sub_cancel_left]
theorem encs_get (xs : List α) (i off : Nat) (d : α) (hi : i < xs.length) (ho : off < Flat.size α) : (encs xs)[i * Flat.size α + off]? = (Flat.enc (xs.getD i d))[off]? := by
  induction xs generalizing i with
  | nil => simp at hi
  | cons x xs ih =>
    cases i with
    | zero =>
      rw [encs_cons, Nat.zero_mul, Nat.zero_add, List.getElem?_append_left (by rw [Flat.len]; exact ho)]
      rfl
    | succ i =>
      rw [encs_cons, List.getElem?_append_right (by rw [Flat.len, Nat.add_mul]; omega), Flat.len]
      have : (i + 1) * Flat.size α + off - Flat.size α = i * Flat.size α + off := by rw [Nat.add_mul]; omega
      rw [this, ih i (by simpa using hi)]
      rfl

/-- where a slice lies -/
def slB : V → Nat | .slice (some a) _ _ => a.block | _ => 0
def slO : V → Nat | .slice (some a) _ _ => a.off | _ => 0

/-- a slice whose elements are xs, in a block that may be looked at -/
def Sl (H : Heap) (v : V) (xs : List α) : Prop := (v = .slice none 0 0 ∧ xs = []) ∨ ∃ b o u c, v = slc b o u xs.length c ∧ xs.length ≤ c ∧ b < H.next ∧ (xs = [] ∨ ∃ rw cs, H.get b = some (.cells rw cs) ∧ o + xs.length * Flat.size α ≤ cs.length ∧ (cs.drop o).take (xs.length * Flat.size α) = encs xs) ∧ (u = 0 ∨ u = Flat.size α)

theorem Sl.nil (H : Heap) : Sl H (.slice none 0 0) ([] : List α) := .inl ⟨rfl, rfl⟩
theorem Sl.keep {S : List Nat} {H H' : Heap} {v : V} {l : List α} (h : Sl H v l) (hk : Keeps S H H') (hn : ∀ b ∈ vb v, b ∉ S) : Sl H' v l := by
  rcases h with h | ⟨b, o, u, c, rfl, hc, hb, hl, hu⟩
  · exact .inl h
  · refine .inr ⟨b, o, u, c, rfl, hc, Nat.lt_of_lt_of_le hb hk.next, ?_, hu⟩
    rcases hl with hl | ⟨rw, cs, h1, h2⟩
    · exact .inl hl
    · exact .inr ⟨rw, cs, hk.get h1 (hn b (by simp)), h2⟩
theorem Sl.keep0 {H H' : Heap} {v : V} {l : List α} (h : Sl H v l) (hk : Keeps [] H H') : Sl H' v l := h.keep hk (by simp)
theorem Sl.len {H : Heap} {v : V} {l : List α} (h : Sl H v l) : lenSlc v = some (i64 l.length) := by
  rcases h with ⟨rfl, rfl⟩ | ⟨b, o, u, c, rfl, _⟩ <;> rfl
theorem Sl.lt {H : Heap} {v : V} {l : List α} (h : Sl H v l) : ∀ b ∈ vb v, b < H.next := by
  rcases h with ⟨rfl, rfl⟩ | ⟨b, o, u, c, rfl, hc, hb, hl⟩
  · simp
  · simpa using hb
theorem Sl.isOne {H : Heap} {v : V} {l : List α} (h : Sl H v l) : v.isOne = true := by
  rcases h with ⟨rfl, rfl⟩ | ⟨b, o, u, c, rfl, _⟩ <;> rfl
theorem Sl.addr {H : Heap} {v : V} {l : List α} (h : Sl H v l) {k : IntKind} {i : Int} (h0 : 0 ≤ i) (hi : i < l.length) : iaddrS (Flat.size α) v (.int k i) = some (ptr (slB v) (slO v + i.toNat * Flat.size α)) := by
  rcases h with ⟨rfl, rfl⟩ | ⟨b, o, u, c, rfl, _⟩
  · simp at hi; omega
  · exact iaddrS_slc h0 hi
theorem enc_at (cs : List V) (xs : List α) (o i : Nat) (hi : i < xs.length) (d : α) (hl : (cs.drop o).take (xs.length * Flat.size α) = encs xs) : (cs.drop (o + i * Flat.size α)).take (Flat.size α) = Flat.enc (xs.getD i d) := by
  have e1 : ((encs xs).drop (i * Flat.size α)).take (Flat.size α) = Flat.enc (xs.getD i d) := by
    rw [encs_drop]
    have : xs.drop i = xs.getD i d :: xs.drop (i + 1) := by
      rw [List.getD_eq_getElem?_getD, List.getElem?_eq_getElem hi]
      exact List.drop_eq_getElem_cons hi
    rw [this, encs_cons, List.take_append_of_le_length (by rw [Flat.len]; exact Nat.le_refl _), List.take_of_length_le (by rw [Flat.len]; exact Nat.le_refl _)]
  rw [← e1, ← hl, List.drop_take, List.take_take, List.drop_drop]
  congr 1
  have : (i + 1) * Flat.size α ≤ xs.length * Flat.size α := Nat.mul_le_mul_right _ hi
  rw [Nat.add_mul] at this
  omega
theorem Sl.ldn {H : Heap} {v : V} {l : List α} (h : Sl H v l) {i : Nat} (hi : i < l.length) (d : α) {Q : V → Heap → Prop} : wp (ldn (Flat.size α) (ptr (slB v) (slO v + i * Flat.size α))) Q H ↔ Q (.agg (Flat.enc (l.getD i d)).toArray) H := by
  rcases h with ⟨rfl, rfl⟩ | ⟨b, o, u, c, rfl, hc, _, hl, _⟩
  · simp at hi
  · rcases hl with rfl | ⟨rw, cs, hb, hl1, hl2⟩
    · simp at hi
    · have h1 : (i + 1) * Flat.size α ≤ l.length * Flat.size α := Nat.mul_le_mul_right _ hi
      rw [Nat.add_mul] at h1
      show wp (Go.AM.ldn _ (ptr b (o + i * Flat.size α))) Q H ↔ _
      rw [wp_ldn hb (by omega), enc_at cs l o i hi d hl2]
theorem Sl.cell {H : Heap} {v : V} {l : List α} (h : Sl H v l) {i off : Nat} (hi : i < l.length) (ho : off < Flat.size α) (d : α) : cellP H (ptr (slB v) (slO v + i * Flat.size α + off)) = (Flat.enc (l.getD i d))[off]? := by
  rcases h with ⟨rfl, rfl⟩ | ⟨b, o, u, c, rfl, hc, _, hl, _⟩
  · simp at hi
  · rcases hl with rfl | ⟨rw, cs, hb, hl1, hl2⟩
    · simp at hi
    · show cellP H (ptr b (o + i * Flat.size α + off)) = _
      rw [cellP_ptr hb, ← enc_at cs l o i hi d hl2, List.getElem?_take, if_pos ho, List.getElem?_drop]
theorem Sl.addr' {H : Heap} {v : V} {l : List α} (h : Sl H v l) {n : Nat} (hs : Flat.size α = n) {k : IntKind} {i : Int} (h0 : 0 ≤ i) (hi : i < l.length) : iaddrS n v (.int k i) = some (ptr (slB v) (slO v + i.toNat * n)) := by subst hs; exact h.addr h0 hi
theorem Sl.ldn' {H : Heap} {v : V} {l : List α} (h : Sl H v l) {n : Nat} (hs : Flat.size α = n) {i : Nat} (hi : i < l.length) (d : α) {Q : V → Heap → Prop} : wp (Go.AM.ldn n (ptr (slB v) (slO v + i * n))) Q H ↔ Q (.agg (Flat.enc (l.getD i d)).toArray) H := by subst hs; exact h.ldn hi d
theorem Sl.cell' {H : Heap} {v : V} {l : List α} (h : Sl H v l) {n : Nat} (hs : Flat.size α = n) {i off : Nat} (hi : i < l.length) (ho : off < n) (d : α) : cellP H (ptr (slB v) (slO v + i * n + off)) = (Flat.enc (l.getD i d))[off]? := by subst hs; exact h.cell hi ho d
theorem Sl.addr1 {H : Heap} {v : V} {l : List α} (h : Sl H v l) (hs : Flat.size α = 1) {k : IntKind} {i : Int} (h0 : 0 ≤ i) (hi : i < l.length) : iaddrS 1 v (.int k i) = some (ptr (slB v) (slO v + i.toNat)) := by
  have := h.addr (k := k) h0 hi
  rw [hs, Nat.mul_one] at this
  exact this
theorem Sl.cell1 {H : Heap} {v : V} {l : List α} (h : Sl H v l) (hs : Flat.size α = 1) {i : Nat} (hi : i < l.length) (d : α) : cellP H (ptr (slB v) (slO v + i)) = (Flat.enc (l.getD i d))[0]? := by
  have := h.cell (off := 0) hi (by omega) d
  rw [hs, Nat.mul_one, Nat.add_zero] at this
  exact this
theorem Own.sl {H : Heap} {v : V} {l : List α} (hs : Flat.size α = 1) (h : Own H v (encs l)) : Sl H v l := by
  rcases h with ⟨rfl, hl⟩ | ⟨b, rfl, hb⟩
  · refine .inl ⟨rfl, ?_⟩
    have := congrArg List.length hl
    rw [encs_length, hs] at this
    exact List.eq_nil_of_length_eq_zero (by simpa using this)
  · have e : (encs l).length = l.length := by rw [encs_length, hs, Nat.mul_one]
    refine .inr ⟨b, 0, 1, l.length, by rw [e], Nat.le_refl _, Heap.get_lt hb, .inr ⟨true, encs l, hb, by rw [encs_length]; omega, ?_⟩, .inr hs.symm⟩
    rw [List.drop_zero, List.take_of_length_le (by rw [encs_length]; exact Nat.le_refl _)]
end Go.AM
