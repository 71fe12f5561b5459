import Derived.Test.YtbnjeldcndpdoaaAmJoin
import Derived.Deep.Slices
import Derived.Test.YtbnjeldcndpdoaaAmBase
import Derived.Test.YtbnjeldcndpdoaaAmSlc
set_option linter.all false
/- Slices among the arguments: what they read as, and how they lie on the abstract machine. -/
namespace Go.AM
open Go.RowKit (Below)
open Go.ChangeShapes Go.WideShapes

variable {H : Type} {enc : TypeId × Value → H} {P : Program} {W : World}

theorem mapM_range {β : Type} {f : Nat → Option β} : ∀ {n : Nat} {l : List β}, (List.range n).mapM f = some l → l.length = n ∧ ∀ i, i < n → f i = l[i]? := by
  intro n l h
  have h1 := Lib.mapM_length h
  rw [List.length_range] at h1
  refine ⟨h1, fun i hi => ?_⟩
  obtain ⟨b, hb, hf⟩ := Lib.mapM_at h i i (by simp [hi])
  rw [hf, hb]

theorem cells_take {b off n : Nat} {cs : List Value} (h : W.cells? 0 ⟨b, off, none⟩ n = some cs) {C : Array Value} {e : TypeId} {f : Nat × Nat} (hC : W.heap[b]? = some (.cells C e f)) : (C.toList.drop off).take n = cs ∧ (0 < n → off + n ≤ C.size) := by
  unfold World.cells? at h
  rw [if_pos (Nat.zero_le _)] at h
  obtain ⟨h1, h2⟩ := mapM_range h
  have key : ∀ i, i < n → C[off + i]? = cs[i]? := fun i hi => by
    rw [← h2 i hi]
    have e : (Addr.add ⟨b, off, none⟩ i) = ⟨b, off + i, none⟩ := by
      unfold Addr.add
      split
      · rename_i h0; subst h0; rfl
      · rfl
    rw [e]
    simp [World.cell?, hC]
  have hlt : ∀ i, i < n → off + i < C.size := fun i hi => by
    have := key i hi
    rw [List.getElem?_eq_getElem (by omega)] at this
    rcases Nat.lt_or_ge (off + i) C.size with q | q
    · exact q
    · rw [Array.getElem?_eq_none q] at this; cases this
  refine ⟨?_, fun hn => by have := hlt (n - 1) (by omega); omega⟩
  apply List.ext_getElem?
  intro i
  rw [List.getElem?_take]
  split
  · rename_i hi
    rw [List.getElem?_drop, ← key i hi]
    simp
  · rename_i hi
    rw [List.getElem?_eq_none (by omega)]

theorem join_cells {α : Type} [Flat α] (C : List V) (off : Nat) (X : Nat → α) : ∀ n, (∀ i, i < n → (C.drop (off + i * Flat.size α)).take (Flat.size α) = Flat.enc (X i)) → (C.drop off).take (n * Flat.size α) = encs ((List.range n).map X)
  | 0, _ => by simp [encs]
  | n + 1, h => by
    rw [Nat.add_mul, Nat.one_mul, List.take_add, join_cells C off X n (fun i hi => h i (by omega)), List.range_succ, List.map_append, encs_append, List.drop_drop, h n (by omega)]
    simp [encs]

/-- a slice of things that lie flat, whatever the things are -/
theorem open_gen {α : Type} [Flat α] [Inhabited α] {datR : DataW H → α → Prop} {good : α → Prop} {t e : TypeId} (ht : P.underlying t = some (.slice e)) (hce : P.cellsOf e = Flat.size α)
    (hop : 0 < W.heap.size → ∀ n cs x, DataW.trod enc P W 0 (fun _ => true) true n e cs = some x → ∃ a : α, cs.map (absV W.heap.size) = Flat.enc a ∧ datR x.1 a ∧ good a) {v : Value} {d : DataW H} {ps : List MemPlace}
    (hval : ∀ a len cap, v = .slice (some a) len cap → a.spot = none ∧ ∃ C eT f, W.heap[a.block]? = some (.cells C eT f)) (hs : ∃ a len cap, v = .slice a len cap) (h : DataW.Trod enc P W 0 (fun _ => true) true t v d ps) :
    ∃ xs : List α, Sl (heap0 W) (absV W.heap.size v) xs ∧ (∀ x ∈ xs, good x) ∧ ((d = .nil ∧ xs = []) ∨ ∃ D rest, d = .slice ((List.range xs.length).map D) rest ∧ ∀ i x, xs[i]? = some x → datR (D i) x) := by
  obtain ⟨a, len, cap, rfl⟩ := hs
  obtain ⟨fuel, hf⟩ := h
  have hv : (Value.slice a len cap).cells.toList = [Value.slice a len cap] := rfl
  rw [hv] at hf
  rcases Deep.open_slice ht hf with ⟨h1, h2⟩ | ⟨a', len', cap', m, n, D, Pl, h1, hb, hl, hm, hmm, hx, hel⟩
  · cases h1
    cases h2
    exact ⟨[], .inl ⟨rfl, rfl⟩, fun x hx => (List.not_mem_nil hx).elim, .inl ⟨rfl, rfl⟩⟩
  · cases h1
    have hm' : m = cap := by simpa using hmm
    subst hm'
    obtain ⟨hspot, C, eT, f, hC⟩ := hval _ _ _ rfl
    obtain ⟨b, off, spot⟩ := a'
    simp only at hspot
    subst hspot
    simp only at hC
    have hbN : b < W.heap.size := by
      rcases Nat.lt_or_ge b W.heap.size with q | q
      · exact q
      · rw [Array.getElem?_eq_none q] at hC; cases hC
    have each : ∀ i, ∃ x : α, i < len → ((C.toList.map (absV W.heap.size)).drop (off + i * Flat.size α)).take (Flat.size α) = Flat.enc x ∧ datR (D i) x ∧ good x ∧ off + i * Flat.size α + Flat.size α ≤ C.size := fun i => by
      by_cases hi : i < len
      · obtain ⟨cs', hc1, hc2⟩ := hel i (by omega)
        obtain ⟨x, hx1, hx2, hx3⟩ := hop (by omega) _ _ _ hc2
        have ea : (Addr.add ⟨b, off, none⟩ (i * P.cellsOf e)) = ⟨b, off + i * P.cellsOf e, none⟩ := by
          unfold Addr.add
          split
          · rename_i h0; rw [h0]; rfl
          · rfl
        rw [ea, hce] at hc1
        obtain ⟨q1, q2⟩ := cells_take hc1 hC
        exact ⟨x, fun _ => ⟨by rw [← List.map_drop, ← List.map_take, q1, hx1], hx2, hx3, q2 Flat.pos⟩⟩
      · exact ⟨default, fun h => absurd h hi⟩
    have hX := Classical.axiomOfChoice each
    obtain ⟨X, hX⟩ := hX
    have habs : absV W.heap.size (.slice (some ⟨b, off, none⟩) len m) = slc b off 0 len m := by simp only [absV, absV1]; rw [if_pos ⟨trivial, hbN, hl⟩]
    have hj := join_cells (C.toList.map (absV W.heap.size)) off X len (fun i hi => (hX i hi).1)
    refine ⟨(List.range len).map X, ?_, fun x hx => ?_, .inr ⟨D, (List.range (m - len)).map fun j => D (len + j), ?_, fun i x hx => ?_⟩⟩
    · rw [habs]
      refine .inr ⟨b, off, 0, m, by simp, by simpa using hl, by rw [heap0_next]; exact hbN, ?_, .inl rfl⟩
      by_cases h0 : len = 0
      · left; simp [h0]
      · right
        refine ⟨false, C.toList.map (absV W.heap.size), by rw [heap0_get, hC]; rfl, ?_⟩
        have := (hX (len - 1) (by omega)).2.2.2
        have e1 : (len - 1 + 1) * Flat.size α = len * Flat.size α := by rw [show len - 1 + 1 = len by omega]
        rw [Nat.add_mul] at e1
        refine ⟨by simp; omega, ?_⟩
        rw [List.length_map, List.length_range, hj]
    · obtain ⟨i, hi, rfl⟩ := List.mem_map.1 hx
      exact (hX i (List.mem_range.1 hi)).2.2.1
    · have hd : d = (DataW.slice ((List.range len).map D) ((List.range (m - len)).map fun j => D (len + j))) := congrArg Prod.fst hx
      rw [hd]; simp
    · obtain ⟨k, hk, rfl⟩ := List.mem_map.1 (List.mem_of_getElem? hx)
      have hik : i < len := by
        rcases Nat.lt_or_ge i len with q | q
        · exact q
        · rw [List.getElem?_eq_none (by simpa using q)] at hx; cases hx
      rw [List.getElem?_map, List.getElem?_range hik, Option.map_some] at hx
      rw [← Option.some.inj hx]
      exact (hX i hik).2.1

theorem ok_slc {t e : TypeId} (ht : P.underlying t = some (.slice e)) {base : Nat} {v : Value} (hval : Cell.okWide P W .any base t v) :
    (∀ a len cap, v = .slice (some a) len cap → a.spot = none ∧ ∃ C eT f, W.heap[a.block]? = some (.cells C eT f)) ∧ ∃ a len cap, v = .slice a len cap := by
  have shape : ∀ b row cells, W.shape? b = some (row, cells) → ∃ C eT f, W.heap[b]? = some (.cells C eT f) := fun b row cells hshape => by
    unfold World.shape? at hshape
    split at hshape
    · rename_i C eT f hC; exact ⟨C, eT, f, hC⟩
    · cases hshape
  have hv : Value.okWide P W .any base t v := by simpa only [Value.okWide, ht] using hval
  obtain ⟨a, len, cap, rfl⟩ := okWide_slice ht hv
  refine ⟨fun a' len' cap' h => ?_, _, _, _, rfl⟩
  cases h
  simp only [Cell.okWide, ht, Cell.ok] at hval
  obtain ⟨_, _, _, hspot, row, cells, hshape, _⟩ := hval
  exact ⟨hspot, shape _ _ _ hshape⟩

theorem open_in {α : Type} [Flat α] [Inhabited α] {datR : DataW H → α → Prop} {good : α → Prop} {t e : TypeId} (ht : P.underlying t = some (.slice e)) (hce : P.cellsOf e = Flat.size α) (hN : 0 < W.heap.size)
    (hop : ∀ n cs x, DataW.trod enc P W 0 (fun _ => true) true n e cs = some x → ∃ a : α, cs.map (absV W.heap.size) = Flat.enc a ∧ datR x.1 a ∧ good a)
    (n : Nat) (cs : List Value) (x : DataW H × List MemPlace) (h : DataW.trod enc P W 0 (fun _ => true) true n t cs = some x) :
    ∃ a : In α, cs.map (absV W.heap.size) = [a.v] ∧ Sl (heap0 W) a.v a.xs ∧ (∀ x ∈ a.xs, good x) ∧ ((x.1 = .nil ∧ a.xs = []) ∨ ∃ D rest, x.1 = .slice ((List.range a.xs.length).map D) rest ∧ ∀ i y, a.xs[i]? = some y → datR (D i) y) := by
  have hf := h
  rcases Deep.open_slice ht hf with ⟨rfl, rfl⟩ | ⟨a', len, cap, m, n', D, Pl, rfl, hb, hl, hm, hmm, hx, hel⟩
  · exact ⟨⟨.slice none 0 0, [], rfl⟩, rfl, .inl ⟨rfl, rfl⟩, fun x hx => (List.not_mem_nil hx).elim, .inl ⟨rfl, rfl⟩⟩
  · have hm' : m = cap := by simpa using hmm
    by_cases h0 : cap = 0
    · subst h0
      obtain rfl : len = 0 := by omega
      refine ⟨⟨absV W.heap.size (.slice (some a') 0 0), [], ?_⟩, rfl, ?_, fun x hx => (List.not_mem_nil hx).elim, .inr ⟨D, (List.range (m - 0)).map fun j => D (0 + j), by rw [hx]; simp, by simp⟩⟩
      · simp only [absV, absV1]; split
        · rfl
        · rw [if_pos ⟨trivial, trivial, hN⟩]; rfl
      · simp only [absV, absV1]; split
        · rename_i q
          exact .inr ⟨_, _, 0, 0, rfl, Nat.le_refl _, by rw [heap0_next]; exact q.2.1, .inl rfl, .inl rfl⟩
        · rw [if_pos ⟨trivial, trivial, hN⟩]
          exact .inr ⟨0, 0, 0, 0, rfl, Nat.le_refl _, by rw [heap0_next]; exact hN, .inl rfl, .inl rfl⟩
    · have hcell : a'.spot = none ∧ ∃ C eT f, W.heap[a'.block]? = some (.cells C eT f) := by
        obtain ⟨cs', hc1, _⟩ := hel 0 (by omega)
        have h00 : (a'.add (0 * P.cellsOf e)) = a' := by rw [Nat.zero_mul]; rfl
        rw [h00] at hc1
        unfold World.cells? at hc1
        rw [if_pos (Nat.zero_le _)] at hc1
        have hp : 0 < P.cellsOf e := by rw [hce]; exact Flat.pos
        obtain ⟨_, h2⟩ := mapM_range hc1
        have hlen := (mapM_range hc1).1
        have h3 := h2 0 hp
        have h01 : a'.add 0 = a' := rfl
        rw [h01, List.getElem?_eq_getElem (by omega)] at h3
        unfold World.cell? at h3
        split at h3
        · rename_i C eT f hC
          split at h3
          · cases h3
          · rename_i hsp
            exact ⟨by simpa using hsp, C, eT, f, hC⟩
        · cases h3
      obtain ⟨xs, h1, h2, h3⟩ := open_gen (v := .slice (some a') len cap) (datR := datR) (good := good) ht hce (fun _ => hop) (fun a len cap h => by cases h; exact hcell) ⟨_, _, _, rfl⟩ ⟨n, h⟩
      exact ⟨⟨_, xs, h1.isOne⟩, rfl, h1, h2, h3⟩

def datI (n : Int) : DataW H := .lit (.int .i64 n)
def goodI (n : Int) : Prop := -9223372036854775808 ≤ n ∧ n ≤ 9223372036854775807
instance : Inhabited ByteArray := ⟨⟨#[]⟩⟩
theorem op_int {t : TypeId} (ht : P.underlying t = some (.int .i64)) (n : Nat) (cs : List Value) (x : DataW H × List MemPlace) (h : DataW.trod enc P W 0 (fun _ => true) true n t cs = some x) : ∃ a : Int, cs = Flat.enc a ∧ x.1 = datI a ∧ goodI a := by
  obtain ⟨s, h1, h2, h3⟩ := DataW.trod_int ht h
  exact ⟨s, h1, by rw [h2]; rfl, i64_wf h3⟩
end Go.AM

/- Structs of whole numbers among the arguments' elements. -/
namespace Go.AM
open Go.ChangeShapes Go.WideShapes

variable {H : Type} {enc : TypeId × Value → H} {P : Program} {W : World}

end Go.AM

/- Structs whose fields are of one cell each, among the arguments and their elements. -/
namespace Go.AM
open Go.ChangeShapes Go.WideShapes

variable {H : Type} {enc : TypeId × Value → H} {P : Program} {W : World}

/-- t is a struct of fields of the types ts, one cell each: told by evaluation -/
def flatStruct (P : Program) (t : TypeId) (ts : List TypeId) : Bool := match P.underlying t with
  | some (.struct fs) => (fs.size == ts.length) && (P.cellsOf t == ts.length) && (List.range ts.length).all fun i => match fs[i]?, ts[i]? with
    | some f, some u => (f.offset == i) && (P.cellsOf f.type == 1) && (f.type == u)
    | _, _ => false
  | _ => false
theorem flatStruct_spec {t : TypeId} {ts : List TypeId} (h : flatStruct P t ts = true) : ∃ fs : Array Field, P.underlying t = some (.struct fs) ∧ fs.size = ts.length ∧ P.cellsOf t = ts.length ∧ ∀ (i : Nat) (u : TypeId), ts[i]? = some u → ∃ f, fs[i]? = some f ∧ f.offset = i ∧ P.cellsOf f.type = 1 ∧ f.type = u := by
  unfold flatStruct at h
  split at h
  · rename_i fs hfs
    simp only [Bool.and_eq_true, beq_iff_eq, List.all_eq_true, List.mem_range] at h
    obtain ⟨⟨h1, h2⟩, h3⟩ := h
    refine ⟨fs, hfs, h1, h2, fun i u hu => ?_⟩
    have hi : i < ts.length := by
      rcases Nat.lt_or_ge i ts.length with q | q
      · exact q
      · rw [List.getElem?_eq_none q] at hu; cases hu
    have := h3 i hi
    rw [hu] at this
    split at this
    · rename_i f u' hf hu'
      cases hu'
      simp only [Bool.and_eq_true, beq_iff_eq] at this
      exact ⟨f, hf, this.1.1, this.1.2, this.2⟩
    · cases this
  · cases h
theorem flat_read {t : TypeId} {ts : List TypeId} (hk : flatStruct P t ts = true) {n : Nat} {cs : List Value} {x : DataW H × List MemPlace} (h : DataW.trod enc P W 0 (fun _ => true) true n t cs = some x) :
    cs.length = ts.length ∧ ∃ (m : Nat) (ds : List (DataW H × List MemPlace)), ds.length = ts.length ∧ x.1 = .agg (ds.map (·.1)) ∧ ∀ (i : Nat) (u : TypeId), ts[i]? = some u → ∃ c d, cs[i]? = some c ∧ ds[i]? = some d ∧ DataW.trod enc P W 0 (fun _ => true) true m u [c] = some d := by
  obtain ⟨fs, ht, hs, hc, hf⟩ := flatStruct_spec hk
  obtain ⟨xs, m, _, rfl, hl, hlen, hx⟩ := DataW.trod_struct ht h
  refine ⟨by omega, m, xs, by omega, rfl, fun i u hu => ?_⟩
  have hi : i < ts.length := by
    rcases Nat.lt_or_ge i ts.length with q | q
    · exact q
    · rw [List.getElem?_eq_none q] at hu; cases hu
  obtain ⟨f, hfi, q1, q2, q3⟩ := hf i u hu
  have := hx i _ hfi
  rw [q1, q2, q3] at this
  have hcs : i < cs.length := by omega
  have e : (cs.drop i).take 1 = [cs[i]] := by rw [List.drop_eq_getElem_cons hcs, List.take_succ_cons, List.take_zero]
  have hxi : xs[i]? = some xs[i] := List.getElem?_eq_getElem (by omega)
  rw [e, hxi] at this
  exact ⟨cs[i], xs[i], List.getElem?_eq_getElem hcs, hxi, this⟩
/-- a struct among the arguments -/
theorem struct_ok {t : TypeId} {ts : List TypeId} (hk : flatStruct P t ts = true) (hts : P.cellTypes P.depth t = some ts) {base : Nat} {v : Value} (hval : Value.okWide P W .any base t v) :
    ∃ cs : List Value, v = .agg cs.toArray ∧ cs.length = ts.length ∧ ∀ (i : Nat) (u : TypeId) (c : Value), ts[i]? = some u → cs[i]? = some c → Cell.okWide P W .any base u c := by
  obtain ⟨fs, ht, hs, hc, hf⟩ := flatStruct_spec hk
  simp only [Value.okWide, ht] at hval
  obtain ⟨cs, rfl, hsz, ts', hts', hn, hcell⟩ := hval
  rw [hts] at hts'; cases hts'
  refine ⟨cs.toList, by simp, by simp; omega, fun i u c hu hc' => ?_⟩
  have hi : i < ts.length := by
    rcases Nat.lt_or_ge i ts.length with q | q
    · exact q
    · rw [List.getElem?_eq_none q] at hu; cases hu
  obtain ⟨u', h1, h2⟩ := hcell i c (by rw [← hc', Array.getElem?_toList])
  rw [Nat.mod_eq_of_lt hi, hu] at h1
  cases h1; exact h2
end Go.AM

/- Functions that are run by the kernel: at plain arguments, over what the listed variables hold. -/
namespace Go.AM
open Go.RowKit (Below)

variable {P : Program} {N : Nat} {w₀ : World} {ρ : Ren} {H : Heap} {w : World}

theorem rel_below {w' : World} (h : Rel N w₀ ρ H w) (hb : Below w.heap.size w w') : Rel N w₀ ρ H w' := by
  have hold : ∀ k, k < w.heap.size → w'.heap[k]? = w.heap[k]? := hb.block
  have hbig := h.big
  have hsz := hb.size
  refine ⟨h.below.trans ⟨hb.os, hb.tape, hb.output, hb.size, fun k hk => hold k (by omega)⟩, by omega, h.dom, h.base, fun b x hx => ?_, h.inj⟩
  obtain ⟨L, hL, hr⟩ := h.blk b x hx
  exact ⟨L, hL, hr.mono (Ren.le.refl _) (hold _ (h.lt hx hL))⟩
theorem ext_below {w' : World} (hb : Below w.heap.size w w') : Ext ρ H w ρ H w' :=
  ⟨Ren.le.refl _, (Ext.refl ρ H w).same, (Ext.refl ρ H w).next, ⟨hb.size, fun c hc _ => hb.block c hc⟩, (Ext.refl ρ H w).old⟩
end Go.AM
