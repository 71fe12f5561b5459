import Derived.Test.YtbnjeldcndpdoaaAmOps4
set_option linter.all false
/- Operations that make and write memory: words. -/
namespace Go.AM
open Go.RowKit (Below)

variable {P : Program} {N : Nat} {w₀ : World} {ρ : Ren} {H : Heap} {w : World}

/-- how a step leads on: the renaming grows, old numbers stay; what the abstract heap does not have stays as it was; what it has behind is new or was there -/
structure Ext (ρ : Ren) (H : Heap) (w : World) (ρ' : Ren) (H' : Heap) (w' : World) : Prop where
  le : ρ.le ρ'
  same : ∀ b, b < H.next → ρ' b = ρ b
  next : H.next ≤ H'.next
  apart : Apart ρ H w w'
  old : ∀ b x L, H'.get b = some x → ρ' b = some L → w.heap.size ≤ L.blk ∨ ∃ b₀ x₀ L₀, H.get b₀ = some x₀ ∧ ρ b₀ = some L₀ ∧ L₀.blk = L.blk

theorem Ext.refl (ρ : Ren) (H : Heap) (w : World) : Ext ρ H w ρ H w :=
  ⟨.refl _, fun _ _ => rfl, Nat.le_refl _, .refl _ _ _, fun b x L h g => .inr ⟨b, x, L, h, g, rfl⟩⟩

theorem Ext.trans {ρ₁ ρ₂ ρ₃ : Ren} {H₁ H₂ H₃ : Heap} {w₁ w₂ w₃ : World} (h : Ext ρ₁ H₁ w₁ ρ₂ H₂ w₂) (g : Ext ρ₂ H₂ w₂ ρ₃ H₃ w₃) : Ext ρ₁ H₁ w₁ ρ₃ H₃ w₃ := by
  refine ⟨h.le.trans g.le, fun b hb => (g.same b (Nat.lt_of_lt_of_le hb h.next)).trans (h.same b hb), Nat.le_trans h.next g.next, ⟨Nat.le_trans h.apart.1 g.apart.1, fun c hc hn => ?_⟩, fun b x L hb hL => ?_⟩
  · have h1 := h.apart.2 c hc hn
    have h2 : w₃.heap[c]? = w₂.heap[c]? := g.apart.2 c (Nat.lt_of_lt_of_le hc h.apart.1) fun b x L hb hL he => by
      rcases h.old b x L hb hL with q | ⟨b₀, x₀, L₀, q1, q2, q3⟩
      · omega
      · exact hn b₀ x₀ L₀ q1 q2 (q3.trans he)
    exact h2.trans h1
  · rcases g.old b x L hb hL with q | ⟨b₀, x₀, L₀, q1, q2, q3⟩
    · exact .inl (Nat.le_trans h.apart.1 q)
    · rcases h.old b₀ x₀ L₀ q1 q2 with q | ⟨b₁, x₁, L₁, r1, r2, r3⟩
      · exact .inl (by omega)
      · exact .inr ⟨b₁, x₁, L₁, r1, r2, r3.trans q3⟩

/-- a new block -/
theorem alloc_ext (h : Rel N w₀ ρ H w) (x : Blk) (o : Obj) (L : Loc) (hL : L.blk = w.heap.size) (hx : BRel N (ρ.add H.next L) (w.alloc o) L x) :
    Rel N w₀ (ρ.add H.next L) (H.push (some x)) (w.alloc o) ∧ Ext ρ H w (ρ.add H.next L) (H.push (some x)) (w.alloc o) ∧ ρ.add H.next L H.next = some L := by
  have hno : ρ H.next = none := h.dom _ (Nat.le_refl _)
  have hold : ∀ k, k < w.heap.size → (w.alloc o).heap[k]? = w.heap[k]? := fun k hk => by
    show (w.heap.push o)[k]? = _
    rw [Array.getElem?_push, if_neg (by omega)]
  refine ⟨h.alloc x o L hL hx, ⟨Ren.le_add L hno, fun b hb => ?_, ?_, ⟨by simp, fun c hc _ => hold c hc⟩, fun b y K hb hK => ?_⟩, by simp [Ren.add]⟩
  · unfold Ren.add; rw [if_neg (by omega)]
  · rw [Heap.next_push]; omega
  · rw [Heap.get_push] at hb
    unfold Ren.add at hK
    split at hb
    · rename_i e; rw [if_pos e] at hK; cases hK; left; omega
    · rename_i e; rw [if_neg e] at hK; exact .inr ⟨b, y, K, hb, hK, rfl⟩

theorem alloc_cells (h : Rel N w₀ ρ H w) (cs : List V) (C : Array V) (e : TypeId) (f : Nat × Nat) (hf : ∀ i, i < C.size → ¬ (f.1 ≤ i ∧ i < f.2)) (hl : cs.length ≤ C.size) (hc : LRel ρ cs (C.toList.take cs.length)) :
    ∃ ρ', Rel N w₀ ρ' (H.push (some (.cells true cs))) (w.alloc (.cells C e f)) ∧ Ext ρ H w ρ' (H.push (some (.cells true cs))) (w.alloc (.cells C e f)) ∧ ρ' H.next = some ⟨w.heap.size, 0, C.size⟩ := by
  have hno : ρ H.next = none := h.dom _ (Nat.le_refl _)
  refine ⟨_, alloc_ext h (.cells true cs) (.cells C e f) ⟨w.heap.size, 0, C.size⟩ rfl ⟨C, e, f, ?_, rfl, ⟨fun _ => ⟨h.big, hf⟩, fun q => by cases q⟩, by simpa using hl, ?_⟩⟩
  · show (w.heap.push _)[w.heap.size]? = _
    simp
  · simpa using hc.mono (Ren.le_add _ hno)

/-- a block of the call's own turns -/
theorem put_ext (h : Rel N w₀ ρ H w) {b : Nat} {x y : Blk} {L : Loc} (hb : H.get b = some x) (hL : ρ b = some L) (w' : World) (hold : ∀ k, k ≠ L.blk → w'.heap[k]? = w.heap[k]?) (hsz : w'.heap.size = w.heap.size) :
    Ext ρ H w ρ (H.set b (some y)) w' := by
  refine ⟨.refl _, fun _ _ => rfl, by rw [Heap.next_set]; exact Nat.le_refl _, ⟨by omega, fun c hc hn => hold c fun e => hn b x L hb hL e.symm⟩, fun c z K hc hK => ?_⟩
  rw [Heap.get_set H b _ c (Heap.get_lt hb)] at hc
  split at hc
  · rename_i e; subst e; rw [hL] at hK; cases hK; exact .inr ⟨c, x, L, hb, hL, rfl⟩
  · exact .inr ⟨c, z, K, hc, hK, rfl⟩

theorem kill_ext {b : Nat} {x : Blk} (hb : H.get b = some x) : Ext ρ H w ρ (H.set b none) w := by
  refine ⟨.refl _, fun _ _ => rfl, by rw [Heap.next_set]; exact Nat.le_refl _, .refl _ _ _, fun c z K hc hK => ?_⟩
  rw [Heap.get_set H b _ c (Heap.get_lt hb)] at hc
  split at hc
  · cases hc
  · exact .inr ⟨c, z, K, hc, hK, rfl⟩

/-! ### lists -/

theorem get_splice (l m : List V) (o j : Nat) (h : o + m.length ≤ l.length) : (splice l o m)[j]? = if j < o then l[j]? else if j < o + m.length then m[j - o]? else l[j]? := by
  unfold splice
  have h1 : (l.take o).length = o := by simp; omega
  by_cases hj : j < o
  · rw [if_pos hj, List.getElem?_append_left (by omega)]; simp [List.getElem?_take, hj]
  · rw [if_neg hj, List.getElem?_append_right (by omega), h1]
    by_cases hk : j < o + m.length
    · rw [if_pos hk, List.getElem?_append_left (by omega)]
    · rw [if_neg hk, List.getElem?_append_right (by omega), List.getElem?_drop]
      congr 1; omega

theorem splice_drop_take (C vs : List V) (off o n : Nat) (h1 : off + n ≤ C.length) (h2 : o + vs.length ≤ n) : ((splice C (off + o) vs).drop off).take n = splice ((C.drop off).take n) o vs := by
  apply List.ext_getElem?
  intro j
  rw [get_splice _ _ _ _ (by simp; omega), List.getElem?_take, List.getElem?_drop, get_splice _ _ _ _ (by omega)]
  simp only [List.getElem?_take, List.getElem?_drop]
  by_cases hj : j < n
  · rw [if_pos hj]
    by_cases h3 : j < o
    · rw [if_pos (by omega), if_pos h3, if_pos hj]
    · rw [if_neg (by omega), if_neg h3]
      by_cases h4 : j < o + vs.length
      · rw [if_pos (by omega), if_pos h4]; congr 1; omega
      · rw [if_neg (by omega), if_neg h4, if_pos hj]
  · rw [if_neg hj, if_neg (by omega), if_neg (by omega), if_neg hj]

theorem set_eq_splice (l : List V) (o : Nat) (x : V) (h : o < l.length) : l.set o x = splice l o [x] := by
  apply List.ext_getElem?
  intro j
  rw [get_splice _ _ _ _ (by simp; omega), List.getElem?_set]
  by_cases hj : j < o
  · rw [if_neg (by omega), if_pos hj]
  · by_cases h2 : o = j
    · subst h2; simp [h]
    · rw [if_neg h2, if_neg hj, if_neg (by simp; omega)]

/-! ### stores -/

theorem isOne_cell {v : V} (h : v.isOne = true) : v.oneCell' = true := by cases v <;> simp_all [Value.isOne, Value.oneCell']

theorem storeCells_run (b off : Nat) (e : TypeId) (f : Nat × Nat) : ∀ (vs : List V) (i : Nat) (C : Array V) (w : World), w.heap[b]? = some (.cells C e f) → off + i + vs.length ≤ C.size →
    (∀ j, j < C.size → ¬ (f.1 ≤ j ∧ j < f.2)) → vs.all Value.isOne = true →
    ∃ w', (storeCells ⟨b, off, none⟩ vs i).run P w = .ok () w' ∧ w'.heap.size = w.heap.size ∧ w'.os = w.os ∧ w'.tape = w.tape ∧ w'.output = w.output ∧ (∀ k, k ≠ b → w'.heap[k]? = w.heap[k]?) ∧
      ∃ C', w'.heap[b]? = some (.cells C' e f) ∧ C'.toList = splice C.toList (off + i) vs ∧ C'.size = C.size
  | [], i, C, w, hb, _, _, _ => ⟨w, rfl, rfl, rfl, rfl, rfl, fun _ _ => rfl, C, hb, by simp [splice], rfl⟩
  | v :: vs, i, C, w, hb, hl, hf, h1 => by
    simp only [List.all_cons, Bool.and_eq_true] at h1
    simp only [List.length_cons] at hl
    have hlt : off + i < C.size := by omega
    have hc : w.cell? ⟨b, off + i, none⟩ = some C[off + i] := by rw [cell_of hb]; simp [hlt]
    have hz : w.frozen? ⟨b, off + i, none⟩ = false := by
      simp only [World.frozen?, hb]
      have := hf (off + i) hlt
      simp only [Bool.and_eq_false_iff, decide_eq_false_iff_not]
      omega
    have hst : (store ⟨b, off + i, none⟩ v).run P w = .ok () (w.setCell ⟨b, off + i, none⟩ v) := by
      rw [run_store P w _ v _ (isOne_cell h1.1)]
      simp [hc, hz]
    have hb' : (w.setCell ⟨b, off + i, none⟩ v).heap[b]? = some (.cells (C.setIfInBounds (off + i) v) e f) := by
      simp only [World.setCell, Array.getElem?_modify, if_true, hb]
      rfl
    obtain ⟨w', r1, r2, r3, r4, r5, r6, C', r7, r8, r9⟩ := storeCells_run b off e f vs (i + 1) (C.setIfInBounds (off + i) v) _ hb' (by simp; omega) (by simpa using hf) h1.2
    refine ⟨w', ?_, by rw [r2]; simp, r3, r4, r5, fun k hk => (r6 k hk).trans ?_, C', r7, ?_, by simpa using r9⟩
    · simp only [storeCells, Sem.run_bind, add_at, hst, Result.andThen_ok, r1]
    · simp only [World.setCell, Array.getElem?_modify]
      rw [if_neg (by simpa using fun e => hk e.symm)]
    · rw [r8, Array.toList_setIfInBounds]
      have := splice_set C.toList (off + i) v vs (by simpa using hlt)
      unfold splice
      rw [← Nat.add_assoc]
      exact this

/-- cells of a block of the call's own are written -/
theorem store_goes (h : Rel N w₀ ρ H w) {b o : Nat} {cs vs vs' : List V} (hb : H.get b = some (.cells true cs)) {L : Loc} (hL : ρ b = some L) (hle : o + vs.length ≤ cs.length) (hv : LRel ρ vs vs') (h1 : vs'.all Value.isOne = true) :
    ∃ w', (storeCells ⟨L.blk, L.off + o, none⟩ vs').run P w = .ok () w' ∧ Rel N w₀ ρ (H.set b (some (.cells true (splice cs o vs)))) w' ∧ Ext ρ H w ρ (H.set b (some (.cells true (splice cs o vs)))) w' := by
  obtain ⟨C, e, f, c1, c2, c3, c4, c5⟩ := h.cells hb hL
  have hlen := hv.length
  obtain ⟨w', r1, r2, r3, r4, r5, r6, C', r7, r8, r9⟩ := storeCells_run (P := P) L.blk (L.off + o) e f vs' 0 C w c1 (by omega) (c3 rfl).2 h1
  refine ⟨w', r1, h.put hb hL (c3 rfl).1 w' r3 r4 r5 r2 r6 ⟨C', e, f, r7, by omega, ⟨fun _ => ⟨(c3 rfl).1, by rw [r9]; exact (c3 rfl).2⟩, fun q => by cases q⟩, by rw [splice_length _ _ _ hle]; omega, ?_⟩, put_ext h hb hL w' r6 r2⟩
  rw [r8, splice_length _ _ _ hle, Nat.add_zero, splice_drop_take _ _ _ _ _ (by simp; omega) (by omega)]
  exact c5.splice hv o

theorem lrel_isOne : ∀ {l l' : List V}, LRel ρ l l' → l.all Value.isOne = true → l'.all Value.isOne = true
  | _, _, .nil, _ => rfl
  | _, _, .cons h g, ha => by
    simp only [List.all_cons, Bool.and_eq_true] at ha ⊢
    exact ⟨h.isOne ha.1, lrel_isOne g ha.2⟩

theorem st1_sound (h : Rel N w₀ ρ H w) {p p' v v' r : V} {H' : Heap} {t : TypeId} (ht : tk P t = some .one) (hs : st1 p v H = some (r, H')) (hp : VRel ρ p p') (hv : VRel ρ v v') :
    r = undef ∧ ∃ w', (Instr.storeAt t p' v').run P w = .ok () w' ∧ Rel N w₀ ρ H' w' ∧ Ext ρ H w ρ H' w' := by
  unfold st1 at hs
  split at hs
  · rename_i b o
    split at hs
    · rename_i cs hb
      split at hs
      · rename_i hc
        cases hs
        simp only [Bool.and_eq_true, decide_eq_true_eq] at hc
        obtain ⟨L, hL, rfl⟩ := hp.ptr_inv
        have hv1 := hv.isOne hc.1
        obtain ⟨w', g1, g2, g3⟩ := store_goes (P := P) (o := o) h hb hL (vs := [v]) (vs' := [v']) (by simp; omega) (.cons hv .nil) (by simp [hv1])
        rw [← set_eq_splice cs o v hc.2] at g2 g3
        refine ⟨rfl, w', ?_, g2, g3⟩
        simp [Instr.storeAt, Instr.sureAddr, storeVar, (tk_one ht).2 w, cells_one hv1, g1]
      · cases hs
    · cases hs
  · cases hs

theorem stn_sound (h : Rel N w₀ ρ H w) {p p' v v' r : V} {H' : Heap} {t : TypeId} {n : Nat} (ht : tk P t = some (.agg n)) (hs : stn n p v H = some (r, H')) (hp : VRel ρ p p') (hv : VRel ρ v v') :
    r = undef ∧ ∃ w', (Instr.storeAt t p' v').run P w = .ok () w' ∧ Rel N w₀ ρ H' w' ∧ Ext ρ H w ρ H' w' := by
  unfold stn at hs
  split at hs
  · rename_i b o vs
    split at hs
    · rename_i cs hb
      split at hs
      · rename_i hc
        cases hs
        simp only [Bool.and_eq_true, decide_eq_true_eq, beq_iff_eq] at hc
        obtain ⟨⟨hc1, hc2⟩, hc3⟩ := hc
        obtain ⟨L, hL, rfl⟩ := hp.ptr_inv
        obtain ⟨A, rfl, hA⟩ := hv.agg_inv
        obtain ⟨w', g1, g2, g3⟩ := store_goes (P := P) (o := o) h hb hL (vs := vs.toList) (vs' := A.toList) (by omega) hA (lrel_isOne hA hc1)
        have hsz : A.size = n := by have := hA.length; simp at *; omega
        refine ⟨rfl, w', ?_, g2, g3⟩
        simp [Instr.storeAt, Instr.sureAddr, storeVar, (tk_agg ht).2 w, Value.cells, hsz, g1]
      · cases hs
    · cases hs
  · cases hs

end Go.AM
