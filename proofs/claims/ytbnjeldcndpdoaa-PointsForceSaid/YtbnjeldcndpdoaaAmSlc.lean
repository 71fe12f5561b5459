import Derived.Test.YtbnjeldcndpdoaaAmWp
set_option linter.all false
/- Slices that one owns: elements of one cell. -/
namespace Go.AM

/-- blocks that were there are as they were, but those of S -/
structure Keeps (S : List Nat) (H H' : Heap) : Prop where
  next : H.next ≤ H'.next
  same : ∀ b, b < H.next → b ∉ S → H'.get b = H.get b

theorem Keeps.refl (S : List Nat) (H : Heap) : Keeps S H H := ⟨Nat.le_refl _, fun _ _ _ => rfl⟩
theorem Keeps.trans {S S' : List Nat} {H H1 H2 : Heap} (h : Keeps S H H1) (h' : Keeps S' H1 H2) (hs : ∀ b, b < H.next → b ∈ S' → b ∈ S) : Keeps S H H2 :=
  ⟨Nat.le_trans h.next h'.next, fun b hb hn => by rw [h'.same b (Nat.lt_of_lt_of_le hb h.next) (fun hi => hn (hs b hb hi)), h.same b hb hn]⟩
theorem Keeps.mono {S S' : List Nat} {H H1 : Heap} (h : Keeps S H H1) (hs : ∀ b, b ∈ S → b ∈ S') : Keeps S' H H1 := ⟨h.next, fun b hb hn => h.same b hb fun hi => hn (hs b hi)⟩
theorem Keeps.get {S : List Nat} {H H' : Heap} (h : Keeps S H H') {b : Nat} {x : Blk} (hb : H.get b = some x) (hn : b ∉ S) : H'.get b = some x := by
  rw [h.same b (Heap.get_lt hb) hn]; exact hb
theorem Keeps.push (S : List Nat) (H : Heap) (x : Option Blk) : Keeps S H (H.push x) := ⟨by simp, fun b hb _ => Heap.get_push_lt hb⟩
theorem Keeps.set {S : List Nat} {H : Heap} {b : Nat} {x : Option Blk} (h : b ∈ S) : Keeps S H (H.set b x) := ⟨by simp, fun c _ hn => Heap.get_set_ne _ _ _ fun e => hn (e ▸ h)⟩

/-- the block of a slice -/
def vb (v : V) : List Nat := match v with | .slice (some ⟨b, _, _⟩) _ _ => [b] | _ => []
@[simp] theorem vb_nil (n c : Nat) : vb (.slice none n c) = [] := rfl
@[simp] theorem vb_slc (b o u n c : Nat) : vb (slc b o u n c) = [b] := rfl

/-- an own slice with the elements l -/
def Own (H : Heap) (v : V) (l : List V) : Prop := (v = .slice none 0 0 ∧ l = []) ∨ ∃ b, v = slc b 0 1 l.length l.length ∧ H.get b = some (.cells true l)

theorem Own.nil (H : Heap) : Own H (.slice none 0 0) [] := .inl ⟨rfl, rfl⟩
theorem Own.keep {S : List Nat} {H H' : Heap} {v : V} {l : List V} (h : Own H v l) (hk : Keeps S H H') (hn : ∀ b ∈ vb v, b ∉ S) : Own H' v l := by
  rcases h with h | ⟨b, rfl, hb⟩
  · exact .inl h
  · exact .inr ⟨b, rfl, hk.get hb (hn b (by simp))⟩
theorem Own.len {H : Heap} {v : V} {l : List V} (h : Own H v l) : lenSlc v = some (i64 l.length) := by
  rcases h with ⟨rfl, rfl⟩ | ⟨b, rfl, hb⟩ <;> rfl
theorem Own.lt {H : Heap} {v : V} {l : List V} (h : Own H v l) : ∀ b ∈ vb v, b < H.next := by
  rcases h with ⟨rfl, rfl⟩ | ⟨b, rfl, hb⟩
  · simp
  · simpa using Heap.get_lt hb
theorem Own.idx {H : Heap} {v : V} {l : List V} (h : Own H v l) {k : IntKind} {i : Nat} (hi : i < l.length) : ∃ b, iaddrS 1 v (.int k i) = some (ptr b i) ∧ cellP H (ptr b i) = some l[i] := by
  rcases h with ⟨rfl, rfl⟩ | ⟨b, rfl, hb⟩
  · simp at hi
  · refine ⟨b, ?_, ?_⟩
    · rw [iaddrS_slc (by omega) (by omega)]; simp
    · rw [cellP_ptr hb]; simp [hi]

theorem wp_appV {v x : V} {l new : List V} {m bytes : Nat} {a : Option Addr} {c : Nat} {H : Heap} {Q : V → Heap → Prop} (hv : Own H v l) (hx : x = .slice a m c) (hc : cellsOfSlice H 1 x = some new) (hm : m ≠ 0) (hl : new.length = m) (hone : new.all Value.isOne = true)
    (hb : (l.length + m) * bytes ≤ 35184372088832) (hb2 : l.length + m ≤ 35184372088832) (hQ : ∀ b H', Own H' (slc b 0 1 (l ++ new).length (l ++ new).length) (l ++ new) → Keeps (vb v) H H' → b = H.next → H'.next = H.next + 1 → Q (slc b 0 1 (l ++ new).length (l ++ new).length) H') : wp (appV 1 bytes v x) Q H := by
  subst hx
  rcases hv with ⟨rfl, rfl⟩ | ⟨b, rfl, hg⟩
  · refine ⟨slc H.next 0 1 m m, H.push (some (.cells true new)), ?_, ?_⟩
    · have e1 : cellsOfSlice H 1 (.slice none 0 0) = some [] := rfl
      have e2 : giveUp H 1 (.slice none 0 0) = some H := rfl
      simp only [List.length_nil, Nat.zero_add] at hb hb2
      simp only [appV, appTo, hm, if_false, hc, e1, e2]
      rw [if_pos ⟨by rw [Nat.zero_add]; exact hb, by omega, hone, by omega⟩]
      simp
    · have := hQ H.next (H.push (some (.cells true new))) (.inr ⟨H.next, by simp, Heap.get_push_self _ _⟩) (Keeps.push _ _ _) rfl (by simp)
      simpa [hl] using this
  · refine ⟨slc H.next 0 1 (l.length + m) (l.length + m), (H.set b none).push (some (.cells true (l ++ new))), ?_, ?_⟩
    · have hcs : cellsOfSlice H 1 (slc b 0 1 l.length l.length) = some l := by
        simp only [cellsOfSlice]
        split
        · rename_i h0; rw [List.eq_nil_of_length_eq_zero h0]
        · simp [cellsAt, hg]
      simp only [appV, appTo, hm, if_false, hc, hcs, giveUp, hg, if_true]
      rw [if_pos ⟨hb, hb2, hone, by omega⟩]
      simp
    · have := hQ H.next ((H.set b none).push (some (.cells true (l ++ new)))) (.inr ⟨H.next, by simp, by have := Heap.get_push_self (H.set b none) (some (.cells true (l ++ new))); simpa using this⟩) ⟨by simp, fun c hc hn => by rw [Heap.get_push_lt (by simpa using hc), Heap.get_set_ne _ _ _ (by simpa using hn)]⟩ rfl (by simp)
      simpa [hl] using this

/-- append(v, x, y, ..) -/
theorem wp_app {v : V} {l new zero : List V} {parts : List (Nat × Nat × V)} {m bytes : Nat} {H : Heap} {Q : V → Heap → Prop} (hv : Own H v l) (hz : zero.all flatV = true) (hf : fillA zero parts = some new) (hm : m ≠ 0) (hl : new.length = m) (hone : new.all Value.isOne = true)
    (hb : (l.length + m) * bytes ≤ 35184372088832) (hb2 : l.length + m ≤ 35184372088832) (hQ : ∀ b H', Own H' (slc b 0 1 (l ++ new).length (l ++ new).length) (l ++ new) → Keeps (vb v) H H' → H.next ≤ b → Q (slc b 0 1 (l ++ new).length (l ++ new).length) H') :
    wp (bslc 1 m zero parts) (fun x H1 => wp (appV 1 bytes v x) Q H1) H := by
  refine (wp_bslc hz hf).mpr ?_
  have hk := Keeps.push [] H (some (.cells true new))
  refine wp_appV (hv.keep hk (by simp)) rfl ?_ hm hl hone hb hb2 fun b H' h1 h2 h3 h4 => hQ b H' h1 ?_ (by simp at h3; omega)
  · have := Heap.get_push_self H (some (.cells true new))
    simp [cellsOfSlice, hm, cellsAt, this, hl]
    rw [← hl, List.take_length]
  · exact ⟨by have := h2.next; simp at this; omega, fun c hc hn => by rw [h2.same c (by simp; omega) hn, Heap.get_push_lt hc]⟩

end Go.AM

/- Rules for walks: conditions that are told at once. -/
namespace Go.AM

section
variable {p : Prop} [Decidable p]
theorem condM_dt {a b : M Out} (h : p) : condM (.bool (decide p)) a b = a := by simp [h]
theorem condM_df {a b : M Out} (h : ¬ p) : condM (.bool (decide p)) a b = b := by simp [h]
theorem gd_dt {m : M V} (h : p) : gd (.bool (decide p)) true m = m := by simp [h]
theorem gd_df {m : M V} (h : ¬ p) : gd (.bool (decide p)) true m = ret skipV := by simp [h]
theorem gdf_dt {m : M V} (h : p) : gd (.bool (decide p)) false m = ret skipV := by simp [h]
theorem gdf_df {m : M V} (h : ¬ p) : gd (.bool (decide p)) false m = m := by simp [h]
theorem pick_dt {x y : V} (h : p) : pickV (.bool (decide p)) x y = some x := by simp [h]
theorem pick_df {x y : V} (h : ¬ p) : pickV (.bool (decide p)) x y = some y := by simp [h]
theorem not_dec : un .not (.bool (decide p)) = some (.bool (decide (¬ p))) := by simp [un]
end
theorem condM_t (a b : M Out) : condM (.bool true) a b = a := rfl
theorem condM_f (a b : M Out) : condM (.bool false) a b = b := rfl
theorem gd_t (m : M V) : gd (.bool true) true m = m := rfl
theorem gd_f (m : M V) : gd (.bool false) true m = ret skipV := rfl
theorem gdf_t (m : M V) : gd (.bool true) false m = ret skipV := rfl
theorem gdf_f (m : M V) : gd (.bool false) false m = m := rfl
theorem pick_t (x y : V) : pickV (.bool true) x y = some x := rfl
theorem pick_f (x y : V) : pickV (.bool false) x y = some y := rfl
theorem not_t : un .not (.bool true) = some (.bool false) := rfl
theorem not_f : un .not (.bool false) = some (.bool true) := rfl
theorem int_eqd (k : IntKind) (x y : Int) : bin .eql (.int k x) (.int k y) = some (.bool (decide (x = y))) := by
  simp [bin, ibin, BEq.beq]
theorem int_ned (k : IntKind) (x y : Int) : bin .neq (.int k x) (.int k y) = some (.bool (decide (x ≠ y))) := by
  simp [bin, ibin, bne, BEq.beq]
theorem str_eqd (x y : ByteArray) : bin .eql (.string x) (.string y) = some (.bool (decide (x = y))) := rfl
theorem str_ned (x y : ByteArray) : bin .neq (.string x) (.string y) = some (.bool (decide (x ≠ y))) := by simp [bin, sbin]
theorem isNil_p (a : Option Addr) (n : Bool) : notIf n (isNil .p (.pointer a)) = some (.bool (if n then !a.isNone else a.isNone)) := rfl
@[simp] theorem isNil_ptr (b o : Nat) : notIf false (isNil .p (ptr b o)) = some (.bool false) := rfl
@[simp] theorem isNil_ptr' (b o : Nat) : notIf true (isNil .p (ptr b o)) = some (.bool true) := rfl
@[simp] theorem isNil_pnil : notIf false (isNil .p (.pointer none)) = some (.bool true) := rfl
@[simp] theorem isNil_pnil' : notIf true (isNil .p (.pointer none)) = some (.bool false) := rfl
end Go.AM

/- Strings and their bytes. -/
namespace Go.AM

/-- a string's bytes -/
def bv (s : ByteArray) : List (BitVec 8) := s.data.toList.map UInt8.toBitVec
theorem bv_length (s : ByteArray) : (bv s).length = s.size := by simp only [bv, List.length_map, Array.length_toList]; rfl
theorem bv_append (s t : ByteArray) : bv (s ++ t) = bv s ++ bv t := by
  have h : (s ++ t).data = s.data ++ t.data := ByteArray.data_append
  simp only [bv, h, Array.toList_append, List.map_append]
theorem size_append (s t : ByteArray) : (s ++ t).size = s.size + t.size := by rw [← bv_length, bv_append, List.length_append, bv_length, bv_length]
theorem int_rem {k : IntKind} {x y : Int} (h : y ≠ 0) : bin .rem (.int k x) (.int k y) = some (.int k (x.tmod y)) := by simp [bin, ibin, h]
theorem int_remn {k : IntKind} {x y : Int} (h0 : 0 ≤ x) (h : 0 < y) : bin .rem (.int k x) (.int k y) = some (.int k (x % y)) := by
  rw [int_rem (by omega), Int.tmod_eq_emod_of_nonneg h0]
theorem cvi_int (k k' : IntKind) (n : Int) : cvi k (.int k' n) = some (.int k (k.wrap n)) := rfl
end Go.AM

/- Slices of things that lie flat in cells. -/
namespace Go.AM

class Flat (α : Type) where
  size : Nat
  enc : α → List V
  len : ∀ a, (enc a).length = size
  one : ∀ a, (enc a).all Value.isOne = true
  pos : 0 < size


instance : Flat Int := ⟨1, fun n => [i64 n], fun _ => rfl, fun _ => rfl, by decide⟩
instance : Flat ByteArray := ⟨1, fun s => [.string s], fun _ => rfl, fun _ => rfl, by decide⟩
instance : Flat (BitVec 8) := ⟨1, fun b => [B b], fun _ => rfl, fun _ => rfl, by decide⟩
instance : Flat Bool := ⟨1, fun b => [.bool b], fun _ => rfl, fun _ => rfl, by decide⟩

theorem enc_int (n : Int) : Flat.enc n = [i64 n] := rfl
theorem enc_str (s : ByteArray) : Flat.enc s = [.string s] := rfl
theorem enc_byte (b : BitVec 8) : Flat.enc b = [B b] := rfl
theorem enc_bool (b : Bool) : Flat.enc b = [.bool b] := rfl
variable {α : Type} [Flat α]
def encs (xs : List α) : List V := xs.flatMap Flat.enc
theorem encs_cons (x : α) (xs : List α) : encs (x :: xs) = Flat.enc x ++ encs xs := rfl
theorem encs_append (xs ys : List α) : encs (xs ++ ys) = encs xs ++ encs ys := by simp [encs]
theorem encs_length (xs : List α) : (encs xs).length = xs.length * Flat.size α := by
  induction xs with
  | nil => simp [encs]
  | cons x xs ih => rw [encs_cons, List.length_append, ih, Flat.len, List.length_cons, Nat.add_mul]; omega
theorem encs_one (xs : List α) : (encs xs).all Value.isOne = true := by
  induction xs with
  | nil => rfl
  | cons x xs ih => rw [encs_cons, List.all_append, ih, Flat.one]; rfl
theorem encs_drop (xs : List α) : ∀ i, (encs xs).drop (i * Flat.size α) = encs (xs.drop i) := by
  induction xs with
  | nil => intro i; simp [encs]
  | cons x xs ih =>
    intro i
    cases i with
    | zero => simp
    | succ i =>
      rw [encs_cons, Nat.add_mul, Nat.one_mul, Nat.add_comm, ← List.drop_drop]
      rw [List.drop_append_of_le_length (by rw [Flat.len]; exact Nat.le_refl _)]
      rw [show (Flat.enc x).drop (Flat.size α) = [] from List.drop_eq_nil_of_le (by rw [Flat.len]; exact Nat.le_refl _)]
      exact ih i
theorem encs_set (xs : List α) : ∀ (i off : Nat) (v : V) (x' : α) (d : α), i < xs.length → off < Flat.size α → Flat.enc x' = (Flat.enc (xs.getD i d)).set off v → (encs xs).set (i * Flat.size α + off) v = encs (xs.set i x') := by
  induction xs with
  | nil => intro i off v x' d hi; simp at hi
  | cons x xs ih =>
    intro i off v x' d hi ho hx
    cases i with
    | zero =>
      rw [encs_cons, Nat.zero_mul, Nat.zero_add, List.set_append_left _ _ (by rw [Flat.len]; exact ho), List.set_cons_zero, encs_cons, hx]
      rfl
    | succ i =>
      rw [encs_cons, List.set_append_right _ _ (by rw [Flat.len, Nat.add_mul]; omega), Flat.len, List.set_cons_succ, encs_cons]
      congr 1
      have : (i + 1) * Flat.size α + off - Flat.size α = i * Flat.size α + off := by rw [Nat.add_mul]; omega
      rw [this]
      exact ih i off v x' d (by simpa using hi) ho hx
theorem encs_get (xs : List α) (i off : Nat) (d : α) (hi : i < xs.length) (ho : off < Flat.size α) : (encs xs)[i * Flat.size α + off]? = (Flat.enc (xs.getD i d))[off]? := by
  induction xs generalizing i with
  | nil => simp at hi
  | cons x xs ih =>
    cases i with
    | zero =>
      rw [encs_cons, Nat.zero_mul, Nat.zero_add, List.getElem?_append_left (by rw [Flat.len]; exact ho)]
      rfl
    | succ i =>
      rw [encs_cons, List.getElem?_append_right (by rw [Flat.len, Nat.add_mul]; omega), Flat.len]
      have : (i + 1) * Flat.size α + off - Flat.size α = i * Flat.size α + off := by rw [Nat.add_mul]; omega
      rw [this, ih i (by simpa using hi)]
      rfl

/-- where a slice lies -/
def slB : V → Nat | .slice (some a) _ _ => a.block | _ => 0
def slO : V → Nat | .slice (some a) _ _ => a.off | _ => 0

/-- a slice whose elements are xs, in a block that may be looked at -/
def Sl (H : Heap) (v : V) (xs : List α) : Prop := (v = .slice none 0 0 ∧ xs = []) ∨ ∃ b o u c, v = slc b o u xs.length c ∧ xs.length ≤ c ∧ b < H.next ∧ (xs = [] ∨ ∃ rw cs, H.get b = some (.cells rw cs) ∧ o + xs.length * Flat.size α ≤ cs.length ∧ (cs.drop o).take (xs.length * Flat.size α) = encs xs) ∧ (u = 0 ∨ u = Flat.size α)

theorem Sl.nil (H : Heap) : Sl H (.slice none 0 0) ([] : List α) := .inl ⟨rfl, rfl⟩
theorem Sl.keep {S : List Nat} {H H' : Heap} {v : V} {l : List α} (h : Sl H v l) (hk : Keeps S H H') (hn : ∀ b ∈ vb v, b ∉ S) : Sl H' v l := by
  rcases h with h | ⟨b, o, u, c, rfl, hc, hb, hl, hu⟩
  · exact .inl h
  · refine .inr ⟨b, o, u, c, rfl, hc, Nat.lt_of_lt_of_le hb hk.next, ?_, hu⟩
    rcases hl with hl | ⟨rw, cs, h1, h2⟩
    · exact .inl hl
    · exact .inr ⟨rw, cs, hk.get h1 (hn b (by simp)), h2⟩
theorem Sl.keep0 {H H' : Heap} {v : V} {l : List α} (h : Sl H v l) (hk : Keeps [] H H') : Sl H' v l := h.keep hk (by simp)
theorem Sl.len {H : Heap} {v : V} {l : List α} (h : Sl H v l) : lenSlc v = some (i64 l.length) := by
  rcases h with ⟨rfl, rfl⟩ | ⟨b, o, u, c, rfl, _⟩ <;> rfl
theorem Sl.lt {H : Heap} {v : V} {l : List α} (h : Sl H v l) : ∀ b ∈ vb v, b < H.next := by
  rcases h with ⟨rfl, rfl⟩ | ⟨b, o, u, c, rfl, hc, hb, hl⟩
  · simp
  · simpa using hb
theorem Sl.isOne {H : Heap} {v : V} {l : List α} (h : Sl H v l) : v.isOne = true := by
  rcases h with ⟨rfl, rfl⟩ | ⟨b, o, u, c, rfl, _⟩ <;> rfl
theorem Sl.addr {H : Heap} {v : V} {l : List α} (h : Sl H v l) {k : IntKind} {i : Int} (h0 : 0 ≤ i) (hi : i < l.length) : iaddrS (Flat.size α) v (.int k i) = some (ptr (slB v) (slO v + i.toNat * Flat.size α)) := by
  rcases h with ⟨rfl, rfl⟩ | ⟨b, o, u, c, rfl, _⟩
  · simp at hi; omega
  · exact iaddrS_slc h0 hi
theorem enc_at (cs : List V) (xs : List α) (o i : Nat) (hi : i < xs.length) (d : α) (hl : (cs.drop o).take (xs.length * Flat.size α) = encs xs) : (cs.drop (o + i * Flat.size α)).take (Flat.size α) = Flat.enc (xs.getD i d) := by
  have e1 : ((encs xs).drop (i * Flat.size α)).take (Flat.size α) = Flat.enc (xs.getD i d) := by
    rw [encs_drop]
    have : xs.drop i = xs.getD i d :: xs.drop (i + 1) := by
      rw [List.getD_eq_getElem?_getD, List.getElem?_eq_getElem hi]
      exact List.drop_eq_getElem_cons hi
    rw [this, encs_cons, List.take_append_of_le_length (by rw [Flat.len]; exact Nat.le_refl _), List.take_of_length_le (by rw [Flat.len]; exact Nat.le_refl _)]
  rw [← e1, ← hl, List.drop_take, List.take_take, List.drop_drop]
  congr 1
  have : (i + 1) * Flat.size α ≤ xs.length * Flat.size α := Nat.mul_le_mul_right _ hi
  rw [Nat.add_mul] at this
  omega
theorem Sl.ldn {H : Heap} {v : V} {l : List α} (h : Sl H v l) {i : Nat} (hi : i < l.length) (d : α) {Q : V → Heap → Prop} : wp (ldn (Flat.size α) (ptr (slB v) (slO v + i * Flat.size α))) Q H ↔ Q (.agg (Flat.enc (l.getD i d)).toArray) H := by
  rcases h with ⟨rfl, rfl⟩ | ⟨b, o, u, c, rfl, hc, _, hl, _⟩
  · simp at hi
  · rcases hl with rfl | ⟨rw, cs, hb, hl1, hl2⟩
    · simp at hi
    · have h1 : (i + 1) * Flat.size α ≤ l.length * Flat.size α := Nat.mul_le_mul_right _ hi
      rw [Nat.add_mul] at h1
      show wp (Go.AM.ldn _ (ptr b (o + i * Flat.size α))) Q H ↔ _
      rw [wp_ldn hb (by omega), enc_at cs l o i hi d hl2]
theorem Sl.cell {H : Heap} {v : V} {l : List α} (h : Sl H v l) {i off : Nat} (hi : i < l.length) (ho : off < Flat.size α) (d : α) : cellP H (ptr (slB v) (slO v + i * Flat.size α + off)) = (Flat.enc (l.getD i d))[off]? := by
  rcases h with ⟨rfl, rfl⟩ | ⟨b, o, u, c, rfl, hc, _, hl, _⟩
  · simp at hi
  · rcases hl with rfl | ⟨rw, cs, hb, hl1, hl2⟩
    · simp at hi
    · show cellP H (ptr b (o + i * Flat.size α + off)) = _
      rw [cellP_ptr hb, ← enc_at cs l o i hi d hl2, List.getElem?_take, if_pos ho, List.getElem?_drop]
theorem Sl.addr' {H : Heap} {v : V} {l : List α} (h : Sl H v l) {n : Nat} (hs : Flat.size α = n) {k : IntKind} {i : Int} (h0 : 0 ≤ i) (hi : i < l.length) : iaddrS n v (.int k i) = some (ptr (slB v) (slO v + i.toNat * n)) := by subst hs; exact h.addr h0 hi
theorem Sl.ldn' {H : Heap} {v : V} {l : List α} (h : Sl H v l) {n : Nat} (hs : Flat.size α = n) {i : Nat} (hi : i < l.length) (d : α) {Q : V → Heap → Prop} : wp (Go.AM.ldn n (ptr (slB v) (slO v + i * n))) Q H ↔ Q (.agg (Flat.enc (l.getD i d)).toArray) H := by subst hs; exact h.ldn hi d
theorem Sl.cell' {H : Heap} {v : V} {l : List α} (h : Sl H v l) {n : Nat} (hs : Flat.size α = n) {i off : Nat} (hi : i < l.length) (ho : off < n) (d : α) : cellP H (ptr (slB v) (slO v + i * n + off)) = (Flat.enc (l.getD i d))[off]? := by subst hs; exact h.cell hi ho d
theorem Sl.addr1 {H : Heap} {v : V} {l : List α} (h : Sl H v l) (hs : Flat.size α = 1) {k : IntKind} {i : Int} (h0 : 0 ≤ i) (hi : i < l.length) : iaddrS 1 v (.int k i) = some (ptr (slB v) (slO v + i.toNat)) := by
  have := h.addr (k := k) h0 hi
  rw [hs, Nat.mul_one] at this
  exact this
theorem Sl.cell1 {H : Heap} {v : V} {l : List α} (h : Sl H v l) (hs : Flat.size α = 1) {i : Nat} (hi : i < l.length) (d : α) : cellP H (ptr (slB v) (slO v + i)) = (Flat.enc (l.getD i d))[0]? := by
  have := h.cell (off := 0) hi (by omega) d
  rw [hs, Nat.mul_one, Nat.add_zero] at this
  exact this
theorem Own.sl {H : Heap} {v : V} {l : List α} (hs : Flat.size α = 1) (h : Own H v (encs l)) : Sl H v l := by
  rcases h with ⟨rfl, hl⟩ | ⟨b, rfl, hb⟩
  · refine .inl ⟨rfl, ?_⟩
    have := congrArg List.length hl
    rw [encs_length, hs] at this
    exact List.eq_nil_of_length_eq_zero (by simpa using this)
  · have e : (encs l).length = l.length := by rw [encs_length, hs, Nat.mul_one]
    refine .inr ⟨b, 0, 1, l.length, by rw [e], Nat.le_refl _, Heap.get_lt hb, .inr ⟨true, encs l, hb, by rw [encs_length]; omega, ?_⟩, .inr hs.symm⟩
    rw [List.drop_zero, List.take_of_length_le (by rw [encs_length]; exact Nat.le_refl _)]
end Go.AM
