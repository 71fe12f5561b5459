/- Slices among the arguments: what they read as, and how they lie on the abstract machine. -/
import Derived.Test.YteekfnhhjmcohaaAmJoin
import Derived.Test.YteekfnhhjmcohaaAmSlc
import Derived.Deep.Slices
set_option linter.all false
namespace Go.AM
open Go.RowKit (Below)
open Go.ChangeShapes Go.WideShapes

variable {H : Type} {enc : TypeId × Value → H} {P : Program} {W : World}

theorem mapM_range {β : Type} {f : Nat → Option β} : ∀ {n : Nat} {l : List β}, (List.range n).mapM f = some l → l.length = n ∧ ∀ i, i < n → f i = l[i]? := by
  intro n l h
  have h1 := Lib.mapM_length h
  rw [List.length_range] at h1
  refine ⟨h1, fun i hi => ?_⟩
  obtain ⟨b, hb, hf⟩ := Lib.mapM_at h i i (by simp [hi])
  rw [hf, hb]

theorem cells_take {b off n : Nat} {cs : List Value} (h : W.cells? 0 ⟨b, off, none⟩ n = some cs) {C : Array Value} {e : TypeId} {f : Nat × Nat} (hC : W.heap[b]? = some (.cells C e f)) : (C.toList.drop off).take n = cs ∧ (0 < n → off + n ≤ C.size) := by
  unfold World.cells? at h
  rw [if_pos (Nat.zero_le _)] at h
  obtain ⟨h1, h2⟩ := mapM_range h
  have key : ∀ i, i < n → C[off + i]? = cs[i]? := fun i hi => by
    rw [← h2 i hi]
    have e : (Addr.add ⟨b, off, none⟩ i) = ⟨b, off + i, none⟩ := by
      unfold Addr.add
      split
      · rename_i h0; subst h0; rfl
      · rfl
    rw [e]
    simp [World.cell?, hC]
  have hlt : ∀ i, i < n → off + i < C.size := fun i hi => by
    have := key i hi
    rw [List.getElem?_eq_getElem (by omega)] at this
    rcases Nat.lt_or_ge (off + i) C.size with q | q
    · exact q
    · rw [Array.getElem?_eq_none q] at this; cases this
  refine ⟨?_, fun hn => by have := hlt (n - 1) (by omega); omega⟩
  apply List.ext_getElem?
  intro i
  rw [List.getElem?_take]
  split
  · rename_i hi
    rw [List.getElem?_drop, ← key i hi]
    simp
  · rename_i hi
    rw [List.getElem?_eq_none (by omega)]

theorem join_cells {α : Type} [Flat α] (C : List V) (off : Nat) (X : Nat → α) : ∀ n, (∀ i, i < n → (C.drop (off + i * Flat.size α)).take (Flat.size α) = Flat.enc (X i)) → (C.drop off).take (n * Flat.size α) = encs ((List.range n).map X)
  | 0, _ => by simp [encs]
  | n + 1, h => by
    rw [Nat.add_mul, Nat.one_mul, List.take_add, join_cells C off X n (fun i hi => h i (by omega)), List.range_succ, List.map_append, encs_append, List.drop_drop, h n (by omega)]
    simp [encs]

/-- a slice of things that lie flat -/
theorem open_flat {α : Type} [Flat α] [Inhabited α] {dat : α → DataW H} {good : α → Prop} (flatAbs : ∀ (N : Nat) (a : α), (Flat.enc a).map (absV N) = Flat.enc a) {t e : TypeId} (ht : P.underlying t = some (.slice e)) (hce : P.cellsOf e = Flat.size α)
    (hop : ∀ n cs x, DataW.trod enc P W 0 (fun _ => true) true n e cs = some x → ∃ a : α, cs = Flat.enc a ∧ x.1 = dat a ∧ good a) {base : Nat} {v : Value} {d : DataW H} {ps : List MemPlace}
    (hval : Value.okWide P W .any base t v) (h : DataW.Trod enc P W 0 (fun _ => true) true t v d ps) :
    ∃ xs : List α, Sl (heap0 W) (absV W.heap.size v) xs ∧ (∀ x ∈ xs, good x) ∧ ((d = .nil ∧ xs = []) ∨ ∃ rest, d = .slice (xs.map dat) rest) := by
  obtain ⟨a, len, cap, rfl⟩ := okWide_slice ht hval
  obtain ⟨fuel, hf⟩ := h
  have hv : (Value.slice a len cap).cells.toList = [Value.slice a len cap] := rfl
  rw [hv] at hf
  rcases Deep.open_slice ht hf with ⟨h1, h2⟩ | ⟨a', len', cap', m, n, D, Pl, h1, hb, hl, hm, hmm, hx, hel⟩
  · cases h1
    cases h2
    exact ⟨[], .inl ⟨rfl, rfl⟩, fun x hx => (List.not_mem_nil hx).elim, .inl ⟨rfl, rfl⟩⟩
  · cases h1
    have hm' : m = cap := by simpa using hmm
    subst hm'
    have hok := hval
    simp only [Value.okWide, ht, Cell.okWide, Cell.ok] at hok
    obtain ⟨_, _, hhas⟩ := hok
    obtain ⟨_, hspot, row, cells, hshape, _⟩ := hhas
    obtain ⟨b, off, spot⟩ := a'
    simp only at hspot
    subst hspot
    obtain ⟨C, eT, f, hC⟩ : ∃ C eT f, W.heap[b]? = some (.cells C eT f) := by
      unfold World.shape? at hshape
      simp only at hshape
      split at hshape
      · rename_i C eT f hC; exact ⟨C, eT, f, hC⟩
      · cases hshape
    have hbN : b < W.heap.size := by
      rcases Nat.lt_or_ge b W.heap.size with q | q
      · exact q
      · rw [Array.getElem?_eq_none q] at hC; cases hC
    have each : ∀ i, ∃ x : α, i < len → (C.toList.drop (off + i * Flat.size α)).take (Flat.size α) = Flat.enc x ∧ D i = dat x ∧ good x ∧ off + i * Flat.size α + Flat.size α ≤ C.size := fun i => by
      by_cases hi : i < len
      · obtain ⟨cs', hc1, hc2⟩ := hel i (by omega)
        obtain ⟨x, hx1, hx2, hx3⟩ := hop _ _ _ hc2
        have ea : (Addr.add ⟨b, off, none⟩ (i * P.cellsOf e)) = ⟨b, off + i * P.cellsOf e, none⟩ := by
          unfold Addr.add
          split
          · rename_i h0; rw [h0]; rfl
          · rfl
        rw [ea, hce] at hc1
        obtain ⟨q1, q2⟩ := cells_take hc1 hC
        exact ⟨x, fun _ => ⟨q1.trans hx1, hx2, hx3, q2 Flat.pos⟩⟩
      · exact ⟨default, fun h => absurd h hi⟩
    have hX := Classical.axiomOfChoice each
    obtain ⟨X, hX⟩ := hX
    have habs : absV W.heap.size (.slice (some ⟨b, off, none⟩) len m) = slc b off 0 len m := by simp only [absV]; rw [if_pos ⟨hbN, hl⟩]
    have hj := join_cells C.toList off X len (fun i hi => (hX i hi).1)
    refine ⟨(List.range len).map X, ?_, fun x hx => ?_, .inr ⟨(List.range (m - len)).map fun j => D (len + j), ?_⟩⟩
    · rw [habs]
      refine .inr ⟨b, off, 0, m, false, C.toList.map (absV W.heap.size), by simp, by simpa using hl, by rw [heap0_get, hC]; rfl, ?_, .inl rfl⟩
      by_cases h0 : len = 0
      · left; simp [h0]
      · right
        have := (hX (len - 1) (by omega)).2.2.2
        have e1 : (len - 1 + 1) * Flat.size α = len * Flat.size α := by rw [show len - 1 + 1 = len by omega]
        rw [Nat.add_mul] at e1
        refine ⟨by simp; omega, ?_⟩
        rw [List.length_map, List.length_range, ← List.map_drop, ← List.map_take, hj]
        have : ∀ l : List α, (encs l).map (absV W.heap.size) = encs l := by
          intro l
          induction l with
          | nil => rfl
          | cons x l ih => rw [encs_cons, List.map_append, ih, flatAbs]
        exact this _
    · obtain ⟨i, hi, rfl⟩ := List.mem_map.1 hx
      exact (hX i (List.mem_range.1 hi)).2.2.1
    · have hd : d = (DataW.slice ((List.range len).map D) ((List.range (m - len)).map fun j => D (len + j))) := congrArg Prod.fst hx
      rw [hd, List.map_map]
      congr 1
      apply List.map_congr_left
      intro i hi
      exact (hX i (List.mem_range.1 hi)).2.1

/-! the kinds of things -/
def datS (s : ByteArray) : DataW H := .lit (.string s.data.toList)
def datI (n : Int) : DataW H := .lit (.int .i64 n)
def goodI (n : Int) : Prop := -9223372036854775808 ≤ n ∧ n ≤ 9223372036854775807
instance : Inhabited ByteArray := ⟨⟨#[]⟩⟩
theorem absS (N : Nat) (a : ByteArray) : (Flat.enc a).map (absV N) = Flat.enc a := rfl
theorem absI (N : Nat) (a : Int) : (Flat.enc a).map (absV N) = Flat.enc a := rfl
theorem op_string {t : TypeId} (ht : P.underlying t = some .string) (n : Nat) (cs : List Value) (x : DataW H × List MemPlace) (h : DataW.trod enc P W 0 (fun _ => true) true n t cs = some x) : ∃ a : ByteArray, cs = Flat.enc a ∧ x.1 = datS a ∧ a.size ≤ maxLen := by
  obtain ⟨s, h1, h2, h3⟩ := DataW.trod_string ht h
  exact ⟨s, h1, by rw [h2]; rfl, h3⟩
theorem op_int {t : TypeId} (ht : P.underlying t = some (.int .i64)) (n : Nat) (cs : List Value) (x : DataW H × List MemPlace) (h : DataW.trod enc P W 0 (fun _ => true) true n t cs = some x) : ∃ a : Int, cs = Flat.enc a ∧ x.1 = datI a ∧ goodI a := by
  obtain ⟨s, h1, h2, h3⟩ := DataW.trod_int ht h
  exact ⟨s, h1, by rw [h2]; rfl, i64_wf h3⟩
end Go.AM
