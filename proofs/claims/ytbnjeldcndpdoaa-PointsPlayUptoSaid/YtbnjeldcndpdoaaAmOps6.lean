import Derived.Test.YtbnjeldcndpdoaaAmOps4
set_option linter.all false
/- Operations that make and write memory: words. -/
namespace Go.AM
open Go.RowKit (Below)

variable {P : Program} {N : Nat} {w₀ : World} {ρ : Ren} {H : Heap} {w : World}

/-- how a step leads on: the renaming grows, old numbers stay; what the abstract heap does not have stays as it was; what it has behind is new or was there -/
structure Ext (ρ : Ren) (H : Heap) (w : World) (ρ' : Ren) (H' : Heap) (w' : World) : Prop where
  le : ρ.le ρ'
  same : ∀ b, b < H.next → ρ' b = ρ b
  next : H.next ≤ H'.next
  apart : Apart ρ H w w'
  old : ∀ b x L, H'.get b = some x → ρ' b = some L → w.heap.size ≤ L.blk ∨ ∃ b₀ x₀ L₀, H.get b₀ = some x₀ ∧ ρ b₀ = some L₀ ∧ L₀.blk = L.blk

theorem Ext.refl (ρ : Ren) (H : Heap) (w : World) : Ext ρ H w ρ H w :=
  ⟨.refl _, fun _ _ => rfl, Nat.le_refl _, .refl _ _ _, fun b x L h g => .inr ⟨b, x, L, h, g, rfl⟩⟩

theorem Ext.trans {ρ₁ ρ₂ ρ₃ : Ren} {H₁ H₂ H₃ : Heap} {w₁ w₂ w₃ : World} (h : Ext ρ₁ H₁ w₁ ρ₂ H₂ w₂) (g : Ext ρ₂ H₂ w₂ ρ₃ H₃ w₃) : Ext ρ₁ H₁ w₁ ρ₃ H₃ w₃ := by
  refine ⟨h.le.trans g.le, fun b hb => (g.same b (Nat.lt_of_lt_of_le hb h.next)).trans (h.same b hb), Nat.le_trans h.next g.next, ⟨Nat.le_trans h.apart.1 g.apart.1, fun c hc hn => ?_⟩, fun b x L hb hL => ?_⟩
  · have h1 := h.apart.2 c hc hn
    have h2 : w₃.heap[c]? = w₂.heap[c]? := g.apart.2 c (Nat.lt_of_lt_of_le hc h.apart.1) fun b x L hb hL he => by
      rcases h.old b x L hb hL with q | ⟨b₀, x₀, L₀, q1, q2, q3⟩
      · omega
      · exact hn b₀ x₀ L₀ q1 q2 (q3.trans he)
    exact h2.trans h1
  · rcases g.old b x L hb hL with q | ⟨b₀, x₀, L₀, q1, q2, q3⟩
    · exact .inl (Nat.le_trans h.apart.1 q)
    · rcases h.old b₀ x₀ L₀ q1 q2 with q | ⟨b₁, x₁, L₁, r1, r2, r3⟩
      · exact .inl (by omega)
      · exact .inr ⟨b₁, x₁, L₁, r1, r2, r3.trans q3⟩

/-- a new block -/
theorem alloc_ext (h : Rel N w₀ ρ H w) (x : Blk) (o : Obj) (L : Loc) (hL : L.blk = w.heap.size) (hx : BRel N (ρ.add H.next L) (w.alloc o) L x) :
    Rel N w₀ (ρ.add H.next L) (H.push (some x)) (w.alloc o) ∧ Ext ρ H w (ρ.add H.next L) (H.push (some x)) (w.alloc o) ∧ ρ.add H.next L H.next = some L := by
  have hno : ρ H.next = none := h.dom _ (Nat.le_refl _)
  have hold : ∀ k, k < w.heap.size → (w.alloc o).heap[k]? = w.heap[k]? := fun k hk => by
    show (w.heap.push o)[k]? = _
    rw [Array.getElem?_push, if_neg (by omega)]
  refine ⟨h.alloc x o L hL hx, ⟨Ren.le_add L hno, fun b hb => ?_, ?_, ⟨by simp, fun c hc _ => hold c hc⟩, fun b y K hb hK => ?_⟩, by simp [Ren.add]⟩
  · unfold Ren.add; rw [if_neg (by omega)]
  · rw [Heap.next_push]; omega
  · rw [Heap.get_push] at hb
    unfold Ren.add at hK
    split at hb
    · rename_i e; rw [if_pos e] at hK; cases hK; left; omega
    · rename_i e; rw [if_neg e] at hK; exact .inr ⟨b, y, K, hb, hK, rfl⟩

theorem alloc_cells (h : Rel N w₀ ρ H w) (cs : List V) (C : Array V) (e : TypeId) (f : Nat × Nat) (hf : ∀ i, i < C.size → ¬ (f.1 ≤ i ∧ i < f.2)) (hl : cs.length ≤ C.size) (hc : LRel ρ cs (C.toList.take cs.length)) :
    ∃ ρ', Rel N w₀ ρ' (H.push (some (.cells true cs))) (w.alloc (.cells C e f)) ∧ Ext ρ H w ρ' (H.push (some (.cells true cs))) (w.alloc (.cells C e f)) ∧ ρ' H.next = some ⟨w.heap.size, 0, C.size⟩ := by
  have hno : ρ H.next = none := h.dom _ (Nat.le_refl _)
  refine ⟨_, alloc_ext h (.cells true cs) (.cells C e f) ⟨w.heap.size, 0, C.size⟩ rfl ⟨C, e, f, ?_, rfl, ⟨fun _ => ⟨h.big, hf⟩, fun q => by cases q⟩, by simpa using hl, ?_⟩⟩
  · show (w.heap.push _)[w.heap.size]? = _
    simp
  · simpa using hc.mono (Ren.le_add _ hno)

/-- a block of the call's own turns -/
theorem put_ext (h : Rel N w₀ ρ H w) {b : Nat} {x y : Blk} {L : Loc} (hb : H.get b = some x) (hL : ρ b = some L) (w' : World) (hold : ∀ k, k ≠ L.blk → w'.heap[k]? = w.heap[k]?) (hsz : w'.heap.size = w.heap.size) :
    Ext ρ H w ρ (H.set b (some y)) w' := by
  refine ⟨.refl _, fun _ _ => rfl, by rw [Heap.next_set]; exact Nat.le_refl _, ⟨by omega, fun c hc hn => hold c fun e => hn b x L hb hL e.symm⟩, fun c z K hc hK => ?_⟩
  rw [Heap.get_set H b _ c (Heap.get_lt hb)] at hc
  split at hc
  · rename_i e; subst e; rw [hL] at hK; cases hK; exact .inr ⟨c, x, L, hb, hL, rfl⟩
  · exact .inr ⟨c, z, K, hc, hK, rfl⟩

theorem kill_ext {b : Nat} {x : Blk} (hb : H.get b = some x) : Ext ρ H w ρ (H.set b none) w := by
  refine ⟨.refl _, fun _ _ => rfl, by rw [Heap.next_set]; exact Nat.le_refl _, .refl _ _ _, fun c z K hc hK => ?_⟩
  rw [Heap.get_set H b _ c (Heap.get_lt hb)] at hc
  split at hc
  · cases hc
  · exact .inr ⟨c, z, K, hc, hK, rfl⟩

/-! ### lists -/

theorem get_splice (l m : List V) (o j : Nat) (h : o + m.length ≤ l.length) : (splice l o m)[j]? = if j < o then l[j]? else if j < o + m.length then m[j - o]? else l[j]? := by
  unfold splice
  have h1 : (l.take o).length = o := by simp; omega
  by_cases hj : j < o
  · rw [if_pos hj, List.getElem?_append_left (by omega)]; simp [List.getElem?_take, hj]
  · rw [if_neg hj, List.getElem?_append_right (by omega), h1]
    by_cases hk : j < o + m.length
    · rw [if_pos hk, List.getElem?_append_left (by omega)]
    · rw [if_neg hk, List.getElem?_append_right (by omega), List.getElem?_drop]
      congr 1; omega

theorem splice_drop_take (C vs : List V) (off o n : Nat) (h1 : off + n ≤ C.length) (h2 : o + vs.length ≤ n) : ((splice C (off + o) vs).drop off).take n = splice ((C.drop off).take n) o vs := by
  apply List.ext_getElem?
  intro j
  rw [get_splice _ _ _ _ (by simp; omega), List.getElem?_take, List.getElem?_drop, get_splice _ _ _ _ (by omega)]
  simp only [List.getElem?_take, List.getElem?_drop]
  by_cases hj : j < n
  · rw [if_pos hj]
    by_cases h3 : j < o
    · rw [if_pos (by omega), if_pos h3, if_pos hj]
    · rw [if_neg (by omega), if_neg h3]
      by_cases h4 : j < o + vs.length
      · rw [if_pos (by omega), if_pos h4]; congr 1; omega
      · rw [if_neg (by omega), if_neg h4, if_pos hj]
  · rw [if_neg hj, if_neg (by omega), if_neg (by omega), if_neg hj]

theorem set_eq_splice (l : List V) (o : Nat) (x : V) (h : o < l.length) : l.set o x = splice l o [x] := by
  apply List.ext_getElem?
  intro j
  rw [get_splice _ _ _ _ (by simp; omega), List.getElem?_set]
  by_cases hj : j < o
  · rw [if_neg (by omega), if_pos hj]
  · by_cases h2 : o = j
    · subst h2; simp [h]
    · rw [if_neg h2, if_neg hj, if_neg (by simp; omega)]

/-! ### stores -/

theorem isOne_cell {v : V} (h : v.isOne = true) : v.oneCell' = true := by cases v <;> simp_all [Value.isOne, Value.oneCell']

theorem storeCells_run (b off : Nat) (e : TypeId) (f : Nat × Nat) : ∀ (vs : List V) (i : Nat) (C : Array V) (w : World), w.heap[b]? = some (.cells C e f) → off + i + vs.length ≤ C.size →
    (∀ j, j < C.size → ¬ (f.1 ≤ j ∧ j < f.2)) → vs.all Value.isOne = true →
    ∃ w', (storeCells ⟨b, off, none⟩ vs i).run P w = .ok () w' ∧ w'.heap.size = w.heap.size ∧ w'.os = w.os ∧ w'.tape = w.tape ∧ w'.output = w.output ∧ (∀ k, k ≠ b → w'.heap[k]? = w.heap[k]?) ∧
      ∃ C', w'.heap[b]? = some (.cells C' e f) ∧ C'.toList = splice C.toList (off + i) vs ∧ C'.size = C.size
  | [], i, C, w, hb, _, _, _ => ⟨w, rfl, rfl, rfl, rfl, rfl, fun _ _ => rfl, C, hb, by simp [splice], rfl⟩
  | v :: vs, i, C, w, hb, hl, hf, h1 => by
    simp only [List.all_cons, Bool.and_eq_true] at h1
    simp only [List.length_cons] at hl
    have hlt : off + i < C.size := by omega
    have hc : w.cell? ⟨b, off + i, none⟩ = some C[off + i] := by rw [cell_of hb]; simp [hlt]
    have hz : w.frozen? ⟨b, off + i, none⟩ = false := by
      simp only [World.frozen?, hb]
      have := hf (off + i) hlt
      simp only [Bool.and_eq_false_iff, decide_eq_false_iff_not]
      omega
    have hst : (store ⟨b, off + i, none⟩ v).run P w = .ok () (w.setCell ⟨b, off + i, none⟩ v) := by
      rw [run_store P w _ v _ (isOne_cell h1.1)]
      simp [hc, hz]
    have hb' : (w.setCell ⟨b, off + i, none⟩ v).heap[b]? = some (.cells (C.setIfInBounds (off + i) v) e f) := by
      simp only [World.setCell, Array.getElem?_modify, if_true, hb]
      rfl
    obtain ⟨w', r1, r2, r3, r4, r5, r6, C', r7, r8, r9⟩ := storeCells_run b off e f vs (i + 1) (C.setIfInBounds (off + i) v) _ hb' (by simp; omega) (by simpa using hf) h1.2
    refine ⟨w', ?_, by rw [r2]; simp, r3, r4, r5, fun k hk => (r6 k hk).trans ?_, C', r7, ?_, by simpa using r9⟩
    · simp only [storeCells, Sem.run_bind, add_at, hst, Result.andThen_ok, r1]
    · simp only [World.setCell, Array.getElem?_modify]
      rw [if_neg (by simpa using fun e => hk e.symm)]
    · rw [r8, Array.toList_setIfInBounds]
      have := splice_set C.toList (off + i) v vs (by simpa using hlt)
      unfold splice
      rw [← Nat.add_assoc]
      exact this

/-- cells of a block of the call's own are written -/
theorem store_goes (h : Rel N w₀ ρ H w) {b o : Nat} {cs vs vs' : List V} (hb : H.get b = some (.cells true cs)) {L : Loc} (hL : ρ b = some L) (hle : o + vs.length ≤ cs.length) (hv : LRel ρ vs vs') (h1 : vs'.all Value.isOne = true) :
    ∃ w', (storeCells ⟨L.blk, L.off + o, none⟩ vs').run P w = .ok () w' ∧ Rel N w₀ ρ (H.set b (some (.cells true (splice cs o vs)))) w' ∧ Ext ρ H w ρ (H.set b (some (.cells true (splice cs o vs)))) w' := by
  obtain ⟨C, e, f, c1, c2, c3, c4, c5⟩ := h.cells hb hL
  have hlen := hv.length
  obtain ⟨w', r1, r2, r3, r4, r5, r6, C', r7, r8, r9⟩ := storeCells_run (P := P) L.blk (L.off + o) e f vs' 0 C w c1 (by omega) (c3 rfl).2 h1
  refine ⟨w', r1, h.put hb hL (c3 rfl).1 w' r3 r4 r5 r2 r6 ⟨C', e, f, r7, by omega, ⟨fun _ => ⟨(c3 rfl).1, by rw [r9]; exact (c3 rfl).2⟩, fun q => by cases q⟩, by rw [splice_length _ _ _ hle]; omega, ?_⟩, put_ext h hb hL w' r6 r2⟩
  rw [r8, splice_length _ _ _ hle, Nat.add_zero, splice_drop_take _ _ _ _ _ (by simp; omega) (by omega)]
  exact c5.splice hv o

theorem lrel_isOne : ∀ {l l' : List V}, LRel ρ l l' → l.all Value.isOne = true → l'.all Value.isOne = true
  | _, _, .nil, _ => rfl
  | _, _, .cons h g, ha => by
    simp only [List.all_cons, Bool.and_eq_true] at ha ⊢
    exact ⟨h.isOne ha.1, lrel_isOne g ha.2⟩

theorem st1_sound (h : Rel N w₀ ρ H w) {p p' v v' r : V} {H' : Heap} {t : TypeId} (ht : tk P t = some .one) (hs : st1 p v H = some (r, H')) (hp : VRel ρ p p') (hv : VRel ρ v v') :
    r = undef ∧ ∃ w', (Instr.storeAt t p' v').run P w = .ok () w' ∧ Rel N w₀ ρ H' w' ∧ Ext ρ H w ρ H' w' := by
  unfold st1 at hs
  split at hs
  · rename_i b o
    split at hs
    · rename_i cs hb
      split at hs
      · rename_i hc
        cases hs
        simp only [Bool.and_eq_true, decide_eq_true_eq] at hc
        obtain ⟨L, hL, rfl⟩ := hp.ptr_inv
        have hv1 := hv.isOne hc.1
        obtain ⟨w', g1, g2, g3⟩ := store_goes (P := P) (o := o) h hb hL (vs := [v]) (vs' := [v']) (by simp; omega) (.cons hv .nil) (by simp [hv1])
        rw [← set_eq_splice cs o v hc.2] at g2 g3
        refine ⟨rfl, w', ?_, g2, g3⟩
        simp [Instr.storeAt, Instr.sureAddr, storeVar, (tk_one ht).2 w, cells_one hv1, g1]
      · cases hs
    · cases hs
  · cases hs

theorem stn_sound (h : Rel N w₀ ρ H w) {p p' v v' r : V} {H' : Heap} {t : TypeId} {n : Nat} (ht : tk P t = some (.agg n)) (hs : stn n p v H = some (r, H')) (hp : VRel ρ p p') (hv : VRel ρ v v') :
    r = undef ∧ ∃ w', (Instr.storeAt t p' v').run P w = .ok () w' ∧ Rel N w₀ ρ H' w' ∧ Ext ρ H w ρ H' w' := by
  unfold stn at hs
  split at hs
  · rename_i b o vs
    split at hs
    · rename_i cs hb
      split at hs
      · rename_i hc
        cases hs
        simp only [Bool.and_eq_true, decide_eq_true_eq, beq_iff_eq] at hc
        obtain ⟨⟨hc1, hc2⟩, hc3⟩ := hc
        obtain ⟨L, hL, rfl⟩ := hp.ptr_inv
        obtain ⟨A, rfl, hA⟩ := hv.agg_inv
        obtain ⟨w', g1, g2, g3⟩ := store_goes (P := P) (o := o) h hb hL (vs := vs.toList) (vs' := A.toList) (by omega) hA (lrel_isOne hA hc1)
        have hsz : A.size = n := by have := hA.length; simp at *; omega
        refine ⟨rfl, w', ?_, g2, g3⟩
        simp [Instr.storeAt, Instr.sureAddr, storeVar, (tk_agg ht).2 w, Value.cells, hsz, g1]
      · cases hs
    · cases hs
  · cases hs

end Go.AM

/- Operations that make and write memory. -/
namespace Go.AM
open Go.RowKit (Below)

variable {P : Program} {N : Nat} {w₀ : World} {ρ : Ren} {H : Heap} {w : World}

/-- what an operation of this kind comes to -/
def Goes (N : Nat) (w₀ : World) (ρ : Ren) (H : Heap) (w : World) (r : V) (H' : Heap) (r' : V) (w' : World) : Prop :=
  ∃ ρ', VRel ρ' r r' ∧ Rel N w₀ ρ' H' w' ∧ Ext ρ H w ρ' H' w'

/-- one new block, and what points at it: wherever the abstract block may lie -/
def MkOK (N : Nat) (ρ : Ren) (w : World) (v : V) (x : Blk) (r' : V) (w' : World) : Prop :=
  ∃ o nd sz, w' = ({ w with drawn := nd } : World).alloc o ∧ (∀ ρ₂ : Ren, ρ.le ρ₂ → BRel N ρ₂ w' ⟨w.heap.size, 0, sz⟩ x) ∧ ∀ (ρ₂ : Ren) id, ρ₂ id = some ⟨w.heap.size, 0, sz⟩ → VRel ρ₂ (reloc id v) r'

theorem mk_cells (hN : N ≤ w.heap.size) (nd : Nat) (cs : List V) (C : Array V) (e : TypeId) (f : Nat × Nat) (hf : ∀ i, i < C.size → ¬ (f.1 ≤ i ∧ i < f.2)) (hl : cs.length ≤ C.size) (hc : LRel ρ cs (C.toList.take cs.length)) (v r' : V)
    (hv : ∀ (ρ₂ : Ren) id, ρ₂ id = some ⟨w.heap.size, 0, C.size⟩ → VRel ρ₂ (reloc id v) r') : MkOK N ρ w v (.cells true cs) r' (({ w with drawn := nd } : World).alloc (.cells C e f)) := by
  refine ⟨_, nd, C.size, rfl, fun ρ₂ hle => ⟨C, e, f, ?_, rfl, ⟨fun _ => ⟨hN, hf⟩, fun q => by cases q⟩, by simpa using hl, by simpa using hc.mono hle⟩, hv⟩
  show (w.heap.push _)[w.heap.size]? = _
  simp

theorem mk_goes (h : Rel N w₀ ρ H w) {v : V} {x : Blk} {r' : V} {w' : World} (hm : MkOK N ρ w v x r' w') : Goes N w₀ ρ H w (reloc H.next v) (H.push (some x)) r' w' := by
  obtain ⟨o, nd, sz, rfl, h1, h2⟩ := hm
  have hno : ρ H.next = none := h.dom _ (Nat.le_refl _)
  obtain ⟨g1, g2, g3⟩ := alloc_ext (h.drew nd) x o ⟨w.heap.size, 0, sz⟩ rfl (h1 _ (Ren.le_add _ hno))
  exact ⟨_, h2 _ _ g3, g1, ⟨g2.le, g2.same, g2.next, ⟨g2.apart.1, g2.apart.2⟩, g2.old⟩⟩

theorem newVar_mk (hN : N ≤ w.heap.size) (t : TypeId) {cs : List V} {v' : V} (hc : LRel ρ cs v'.cells.toList) :
    ∃ r' w', (do pure (Value.pointer (some (← newVar t v'))) : Sem Value).run P w = .ok r' w' ∧ MkOK N ρ w (ptr 0 0) (.cells true cs) r' w' := by
  have hl := hc.length
  refine ⟨.pointer (some ⟨w.heap.size, 0, none⟩), _, ?_, mk_cells hN w.drawn cs v'.cells t (0, 0) (by simp) (by simp at hl; omega) (by rw [List.take_of_length_le (by omega)]; exact hc) (ptr 0 0) _ fun ρ₂ id hid => ?_⟩
  · simp [newVar, newRow]
  · have := VRel.ptr id 0 _ hid; simpa [reloc] using this

theorem newc_form {cs : List V} {r : V} {H' : Heap} (hn : newc cs H = some (r, H')) : newc cs Heap.none0 = some (ptr 0 0, Heap.one (.cells true cs)) ∧ r = ptr H.next 0 ∧ H' = H.push (some (.cells true cs)) := by
  unfold newc at hn ⊢
  split at hn
  · rename_i hf; cases hn; exact ⟨by rw [if_pos hf]; rfl, rfl, rfl⟩
  · cases hn

theorem newc_mk (hN : N ≤ w.heap.size) {t : TypeId} {z v : V} {K : Heap} (hz : zeroV P t = some z) (hn : newc z.cells.toList Heap.none0 = some (v, K)) :
    ∃ x, K = Heap.one x ∧ ∃ r' w', (Instr.alloc t true (.tuple #[])).run P w = .ok r' w' ∧ MkOK N ρ w v x r' w' := by
  unfold newc at hn
  split at hn
  · rename_i hf
    cases hn
    obtain ⟨r', w', g1, g2⟩ := newVar_mk (P := P) (N := N) (ρ := ρ) hN t (flat_cells hf)
    refine ⟨_, rfl, r', w', ?_, g2⟩
    simp only [Instr.alloc, Sem.run_bind, zeroV_run hz w, Result.andThen_ok]
    simpa using g1
  · cases hn

theorem boxv_form {v r : V} {H' : Heap} (hn : boxv v H = some (r, H')) : ∃ x, boxv v Heap.none0 = some (ptr 0 0, Heap.one x) ∧ r = ptr H.next 0 ∧ H' = H.push (some x) := by
  unfold boxv at hn ⊢
  split at hn
  · rename_i hf; cases hn; exact ⟨_, by rw [if_pos hf]; rfl, rfl, rfl⟩
  · cases hn

theorem boxv_mk (hN : N ≤ w.heap.size) {t : TypeId} {v v' r : V} {K : Heap} (hv : VRel ρ v v') (hn : boxv v Heap.none0 = some (r, K)) :
    ∃ x, K = Heap.one x ∧ ∃ r' w', (Instr.box t v').run P w = .ok r' w' ∧ MkOK N ρ w r x r' w' := by
  unfold boxv at hn
  split at hn
  · rename_i hf
    cases hn
    exact ⟨_, rfl, newVar_mk (P := P) hN t (hv.cells hf)⟩
  · cases hn

theorem rep_get {z : List V} (hz : 0 < z.length) : ∀ (n i : Nat), i < n * z.length → (rep n z)[i]? = z[i % z.length]?
  | 0, i, h => by simp at h
  | n + 1, i, h => by
    simp only [rep]
    by_cases hi : i < z.length
    · rw [List.getElem?_append_left hi, Nat.mod_eq_of_lt hi]
    · rw [List.getElem?_append_right (by omega), rep_get hz n (i - z.length) (by rw [Nat.add_mul] at h; omega)]
      congr 1
      rw [← Nat.mod_eq_sub_mod (by omega)]

theorem rep_length (z : List V) : ∀ n, (rep n z).length = n * z.length
  | 0 => by simp [rep]
  | n + 1 => by simp [rep, rep_length z n, Nat.add_mul]; omega

theorem rep_rel {z : List V} (h : LRel ρ z z) : ∀ n, LRel ρ (rep n z) (rep n z)
  | 0 => .nil
  | n + 1 => h.append (rep_rel h n)

/-- n zero elements, as the model lays them -/
theorem zeros_eq (z : Array V) (n : Nat) (hz : 0 < z.size) : ((Array.range (n * z.size)).map fun i => z[i % z.size]!).toList = rep n z.toList := by
  apply List.ext_getElem?
  intro i
  by_cases hi : i < n * z.size
  · have hlt : i % z.size < z.size := Nat.mod_lt _ hz
    rw [rep_get (by simpa using hz) n i (by simpa using hi)]
    simp [hi, hlt, getElem!_pos]
  · rw [List.getElem?_eq_none (by simp; omega), List.getElem?_eq_none (by rw [rep_length]; simp; omega)]

theorem flat_lrel {l : List V} (h : l.all flatV = true) : LRel ρ l l := by
  induction l with
  | nil => exact .nil
  | cons x xs ih => simp only [List.all_cons, Bool.and_eq_true] at h; exact .cons (flatV_rel h.1) (ih h.2)

theorem map_range0 {α : Type} (f : Nat → α) : (Array.range 0).map f = #[] := Array.eq_empty_of_size_eq_zero (by simp)

theorem Ext.drawn {ρ' : Ren} {H' : Heap} {w' : World} {n : Nat} (g : Ext ρ H { w with drawn := n } ρ' H' w') : Ext ρ H w ρ' H' w' := ⟨g.le, g.same, g.next, ⟨g.apart.1, g.apart.2⟩, g.old⟩

theorem i64_wrap {n : Int} (h0 : 0 ≤ n) (h1 : n ≤ 9223372036854775807) : IntKind.i64.wrap n = n := IntWalk.i64_in n ⟨by omega, h1⟩

theorem mkslc_mk (hN : N ≤ w.heap.size) {t e : TypeId} {size bytes : Nat} {z n c n' c' r : V} {K : Heap} (hu : P.underlying t = some (.slice e)) (hs : sizeT P e = some size) (hb : bytesT P e = some bytes) (hz : zeroV P e = some z)
    (hsz : z.cells.size = size) (h0 : 0 < size) (hn : VRel ρ n n') (hc : VRel ρ c c') (hm : mkslc size bytes z.cells.toList n c Heap.none0 = some (r, K)) :
    ∃ x, K = Heap.one x ∧ ∃ r' w', (Instr.makeSlice t n' c').run P w = .ok r' w' ∧ MkOK N ρ w r x r' w' := by
  unfold mkslc at hm
  split at hm
  · rename_i k x k' y
    split at hm
    · rename_i hcond
      obtain ⟨hfl, hx0, hxy, hyb, hyb2⟩ := hcond
      cases hm
      obtain ⟨i, hi, hib⟩ := bytesT_run hb w
      have e1 := hn.int_inv; have e2 := hc.int_inv
      subst e1; subst e2
      have hwx : IntKind.i64.wrap x = x := i64_wrap hx0 (by omega)
      have hwy : IntKind.i64.wrap y = y := i64_wrap (by omega) (by omega)
      have hC : ((Array.range (y.toNat * size)).map fun i => z.cells[i % z.cells.size]!).toList = rep y.toNat z.cells.toList := by rw [← hsz]; exact zeros_eq z.cells y.toNat (by omega)
      have hlen : ((Array.range (y.toNat * size)).map fun i => z.cells[i % z.cells.size]!).size = (rep y.toNat z.cells.toList).length := by rw [← hC]; simp
      refine ⟨_, rfl, .slice (some ⟨w.heap.size, 0, none⟩) x.toNat y.toNat, _, ?_, mk_cells hN w.drawn (rep y.toNat z.cells.toList) ((Array.range (y.toNat * size)).map fun i => z.cells[i % z.cells.size]!) e (0, 0) (by simp) (by omega)
        (by rw [hC, List.take_of_length_le (Nat.le_refl _)]; exact rep_rel (flat_lrel hfl) _) _ _ fun ρ₂ id hid => .slc id 0 size x.toNat y.toNat _ 0 y.toNat _ hid (.inl rfl) (by omega) (Nat.le_refl _) (.inr ?_) (.inl rfl) (.inr (by omega))⟩
      · have hb1 : ¬ (y < 0) := by omega
        have hb2 : ¬ ((bytes : Int) * y > 2 ^ 48) := by have : (2 : Int) ^ 48 = 281474976710656 := rfl; omega
        have hb3 : ¬ (x < 0) := by omega
        have hb4 : ¬ (x > y) := by omega
        simp only [Instr.makeSlice, Sem.run_bind, run_underlying hu, Result.andThen_ok, asInt, asIntOf, Sem.run_pure, hi, hwx, hwy, hib]
        simp only [hb1, hb2, hb3, hb4, decide_false, Bool.or_self, Bool.false_eq_true, or_self, if_false, Sem.run_bind, run_askRoom, Result.andThen_ok, sizeT_run hs w, Bool.or_false]
        by_cases q : y.toNat * size = 0
        · simp only [q, if_true, Sem.run_pure, Result.andThen_ok, Sem.run_bind, newRow, run_newObj, map_range0]
          rfl
        · simp [q, newRow, zeroV_run hz w]
      · show 0 + y.toNat * size ≤ _
        rw [hlen, rep_length]; simp [hsz]
    · cases hm
  · cases hm

theorem bslc_mk (hN : N ≤ w.heap.size) {t e : TypeId} {size len : Nat} {z r : V} {K : Heap} {parts : Array (Nat × Operand)} {ev c : Operand → V} (hr : ∀ z, VRel ρ (ev z) (c z)) (hu : P.underlying t = some (.slice e)) (hs : sizeT P e = some size) (hz : zeroV P e = some z)
    (hlen : len * size ≤ 16777216) (hsz : z.cells.size = size) (h0 : 0 < size) (hm : bslc size len (rep len z.cells.toList) (placesE size ev parts.toList) Heap.none0 = some (r, K)) :
    ∃ x, K = Heap.one x ∧ ∃ r' w', (Instr.buildSlice t len (parts.map fun p => (p.1, c p.2))).run P w = .ok r' w' ∧ MkOK N ρ w r x r' w' := by
  unfold bslc at hm
  split at hm
  · rename_i hfl
    split at hm
    · rename_i cs hcs
      cases hm
      have hC : ((Array.range (len * size)).map fun i => z.cells[i % z.cells.size]!).toList = rep len z.cells.toList := by rw [← hsz]; exact zeros_eq z.cells len (by omega)
      obtain ⟨D, hD, hrel⟩ := fill_sound _ (placesE_rel (size := size) hr parts.toList) _ ((Array.range (len * size)).map fun i => z.cells[i % z.cells.size]!) cs (by rw [hC]; exact flat_lrel hfl) hcs
      have hDl : cs.length = D.size := by have := hrel.length; simpa using this
      have hfa : ∀ {qs : List (Nat × Nat × V)} {l m : List V}, fillA l qs = some m → m.length = l.length := by
        intro qs
        induction qs with
        | nil => intro l m hq; simp only [fillA] at hq; cases hq; rfl
        | cons q qs ih =>
          intro l m hq
          obtain ⟨o, s, v⟩ := q
          simp only [fillA] at hq
          split at hq
          · rename_i hc
            simp only [Bool.and_eq_true, beq_iff_eq, decide_eq_true_eq] at hc
            rw [ih hq, splice_length]
            have := hc.1.2
            simp at *; omega
          · cases hq
      have hcl : cs.length = len * size := by rw [hfa hcs, rep_length]; simp [hsz]
      refine ⟨_, rfl, .slice (some ⟨w.heap.size, 0, none⟩) len len, _, ?_, mk_cells hN w.drawn cs D e (0, 0) (by simp) (by omega) (by rw [List.take_of_length_le (by simp; omega)]; exact hrel) _ _
        fun ρ₂ id hid => .slc id 0 size len len _ 0 len _ hid (.inl rfl) (Nat.le_refl _) (Nat.le_refl _) (.inr ?_) (.inl rfl) (.inr (by have := Nat.le_mul_of_pos_right len h0; omega))⟩
      · have hD' : Instr.fill (fun i => some (i * size, size)) ((Array.range (len * size)).map fun i => z.cells[i % z.cells.size]!) (parts.map fun p => (p.1, c p.2)).toList = some D := by simpa using hD
        simp only [Instr.buildSlice, Sem.run_bind, run_underlying hu, Result.andThen_ok, sizeT_run hs w]
        rw [if_neg (by omega)]
        by_cases q : len * size = 0
        · simp only [q, if_true, Sem.run_pure, Result.andThen_ok]
          rw [q, map_range0] at hD'
          simp only [map_range0, Sem.run_bind, Sem.run_pure, Result.andThen_ok]
          rw [hD']
          simp [newRow]
        · simp only [q, if_false, Sem.run_bind, zeroV_run hz w, Result.andThen_ok, Sem.run_pure]
          rw [hD']
          simp [newRow]
      · show 0 + len * size ≤ D.size
        omega
    · cases hm
  · cases hm

theorem bytesV_length (s : ByteArray) : (bytesV s).length = s.size := by simp [bytesV]
theorem bytesV_rel (s : ByteArray) : LRel ρ (bytesV s) (bytesV s) := by
  unfold bytesV
  induction s.data.toList with
  | nil => exact .nil
  | cons x xs ih => exact .cons (.int _ _) ih

theorem modify_push (a : Array Obj) (x : Obj) (f : Obj → Obj) : (a.push x).modify a.size f = a.push (f x) := by
  apply Array.ext
  · simp
  · intro i h1 h2
    simp only [Array.size_modify, Array.size_push] at h1
    simp only [Array.getElem_modify, Array.getElem_push]
    by_cases hi : i < a.size
    · rw [if_neg (by omega)]; simp [hi]
    · rw [if_pos (by omega)]; simp [hi]

theorem s2b_mk (hN : N ≤ w.heap.size) {e : TypeId} {a a' r : V} {K : Heap} (ha : VRel ρ a a') (hm : s2b a Heap.none0 = some (r, K)) :
    ∃ x, K = Heap.one x ∧ ∃ s r' w', a' = .string s ∧ (Conv.stringToBytes e s).run P w = .ok r' w' ∧ MkOK N ρ w r x r' w' := by
  unfold s2b at hm
  split at hm
  · rename_i s
    split at hm
    rotate_left
    · cases hm
    rename_i hsz
    cases hm
    have hq : ∃ cap n, (choose (.appendCap s.size 0 e)).run P w = .ok cap { w with drawn := n } ∧ s.size ≤ cap ∧ cap ≤ 9223372036854775807 := by
      simp only [run_choose, Question.forced, Bool.false_eq_true, if_false, Question.cut]
      exact ⟨_, _, rfl, Nat.le_add_right _ _, by have := Nat.mod_lt (w.tape w.drawn (.appendCap s.size 0 e)) (show 0 < 2 ^ 63 - s.size by omega); omega⟩
    obtain ⟨cap, nd, hch, hcap, hcmx⟩ := hq
    let C : Array V := s.data.map (fun b => Value.int .u8 b.toNat) ++ Array.replicate (cap - s.size) (.int .u8 0)
    have hCs : C.size = cap := by simp only [C, Array.size_append, Array.size_map, Array.size_replicate]; have : s.data.size = s.size := rfl; omega
    have hCl : C.toList = bytesV s ++ List.replicate (cap - s.size) (.int .u8 0) := by simp [C, bytesV]
    refine ⟨_, rfl, s, .slice (some ⟨w.heap.size, 0, none⟩) s.size cap, _, ha.string_inv, ?_, mk_cells hN nd (bytesV s) C e (cap, cap + 1) (by simp only [hCs]; omega) (by rw [bytesV_length]; omega)
      (by rw [hCl, List.take_append_of_le_length (Nat.le_refl _), List.take_of_length_le (Nat.le_refl _)]; exact bytesV_rel s) _ _
      fun ρ₂ id hid => .slc id 0 1 s.size s.size _ 0 cap _ hid (.inl rfl) (Nat.le_refl _) hcap (.inr (by simp [hCs])) (.inl rfl) (.inr hcmx)⟩
    have hsh : ∀ o, (({ w with drawn := nd } : World).alloc (.cells C e o)).shape? w.heap.size = some (e, cap) := by
      intro o
      show (match (w.heap.push (Obj.cells C e o))[w.heap.size]? with | some (.cells c elem _) => some (elem, c.size) | _ => none) = _
      simp [hCs]
    simp only [Conv.stringToBytes, Sem.run_bind, hch, Result.andThen_ok, newRow, run_newObj, Sem.run_pure, markStringish, run_shape]
    have hsh' := hsh (0, 0)
    have e1 : ({ w with heap := w.heap.push (Obj.cells C e (0, 0)), drawn := nd } : World).shape? w.heap.size = some (e, cap) := hsh'
    have e2 : (({ w with heap := w.heap.push (Obj.cells C e (0, 0)), drawn := nd } : World).freeze ⟨w.heap.size, cap, none⟩ 1) = ({ w with drawn := nd } : World).alloc (.cells C e (cap, cap + 1)) := by
      simp only [World.freeze, World.alloc]
      rw [if_neg (by omega)]
      rw [modify_push]
      simp
    show (Result.andThen (Sem.run P (match ({ w with heap := w.heap.push (Obj.cells C e (0, 0)), drawn := nd } : World).shape? w.heap.size with | some (_, n) => _ | _ => _) _) _) = _
    rw [e1]
    simp only [run_freeze, Result.andThen_ok]
    rw [e2]
  · cases hm

theorem mkslc_form {size bytes : Nat} {z : List V} {n c r : V} {H' : Heap} (hn : mkslc size bytes z n c H = some (r, H')) : ∃ v x, mkslc size bytes z n c Heap.none0 = some (v, Heap.one x) ∧ r = reloc H.next v ∧ H' = H.push (some x) := by
  unfold mkslc at hn ⊢
  split at hn
  · split at hn
    · rename_i hf; cases hn; exact ⟨_, _, by simp only [hf, and_self, if_true]; rfl, rfl, rfl⟩
    · cases hn
  · cases hn
theorem bslc_form {size len : Nat} {z : List V} {parts : List (Nat × Nat × V)} {r : V} {H' : Heap} (hn : bslc size len z parts H = some (r, H')) : ∃ v x, bslc size len z parts Heap.none0 = some (v, Heap.one x) ∧ r = reloc H.next v ∧ H' = H.push (some x) := by
  unfold bslc at hn ⊢
  split at hn
  · rename_i hf
    rw [if_pos hf]
    split at hn
    · rename_i cs hcs; cases hn; refine ⟨slc 0 0 size len len, .cells true cs, ?_, rfl, rfl⟩; first | rfl | (rw [hcs]; rfl)
    · cases hn
  · cases hn
theorem s2b_form {a r : V} {H' : Heap} (hn : s2b a H = some (r, H')) : ∃ v x, s2b a Heap.none0 = some (v, Heap.one x) ∧ r = reloc H.next v ∧ H' = H.push (some x) := by
  unfold s2b at hn ⊢
  split at hn
  · split at hn
    · rename_i hc
      cases hn
      simp only [if_pos hc]
      exact ⟨_, _, rfl, rfl, rfl⟩
    · cases hn
  · cases hn
theorem mkmap_mk (hN : N ≤ w.heap.size) : MkOK N ρ w (.map (some 0)) (.map true []) (.map (some w.heap.size)) (w.alloc (.map #[] 0)) :=
  ⟨_, w.drawn, 0, rfl, fun ρ₂ _ => ⟨rfl, #[], 0, by show (w.heap.push _)[w.heap.size]? = _; simp, fun _ => ⟨hN, born_nil 0⟩, .nil, .nil⟩, fun ρ₂ id hid => .map id _ hid⟩

theorem newc_sound (h : Rel N w₀ ρ H w) {t : TypeId} {z r : V} {H' : Heap} (hz : zeroV P t = some z) (hn : newc z.cells.toList H = some (r, H')) :
    ∃ r' w', (Instr.alloc t true (.tuple #[])).run P w = .ok r' w' ∧ Goes N w₀ ρ H w r H' r' w' := by
  obtain ⟨h1, rfl, rfl⟩ := newc_form hn
  obtain ⟨x, hx, r', w', g1, g2⟩ := newc_mk (P := P) (N := N) (ρ := ρ) h.big hz h1
  cases hx
  exact ⟨r', w', g1, by simpa [reloc] using mk_goes h g2⟩

theorem boxv_sound (h : Rel N w₀ ρ H w) {t : TypeId} {v v' r : V} {H' : Heap} (hv : VRel ρ v v') (hn : boxv v H = some (r, H')) :
    ∃ r' w', (Instr.box t v').run P w = .ok r' w' ∧ Goes N w₀ ρ H w r H' r' w' := by
  obtain ⟨x, h1, rfl, rfl⟩ := boxv_form hn
  obtain ⟨x2, hx, r', w', g1, g2⟩ := boxv_mk (P := P) (t := t) h.big hv h1
  cases hx
  exact ⟨r', w', g1, by simpa [reloc] using mk_goes h g2⟩

theorem mkslc_sound (h : Rel N w₀ ρ H w) {t e : TypeId} {size bytes : Nat} {z n c n' c' r : V} {H' : Heap} (hu : P.underlying t = some (.slice e)) (hs : sizeT P e = some size) (hb : bytesT P e = some bytes) (hz : zeroV P e = some z)
    (hsz : z.cells.size = size) (h0 : 0 < size) (hn : VRel ρ n n') (hc : VRel ρ c c') (hm : mkslc size bytes z.cells.toList n c H = some (r, H')) :
    ∃ r' w', (Instr.makeSlice t n' c').run P w = .ok r' w' ∧ Goes N w₀ ρ H w r H' r' w' := by
  obtain ⟨v, x, h1, rfl, rfl⟩ := mkslc_form hm
  obtain ⟨x2, hx, r', w', g1, g2⟩ := mkslc_mk (P := P) (t := t) h.big hu hs hb hz hsz h0 hn hc h1
  cases hx
  exact ⟨r', w', g1, mk_goes h g2⟩

theorem bslc_sound (h : Rel N w₀ ρ H w) {t e : TypeId} {size len : Nat} {z r : V} {H' : Heap} {parts : Array (Nat × Operand)} {ev c : Operand → V} (hr : ∀ z, VRel ρ (ev z) (c z)) (hu : P.underlying t = some (.slice e)) (hs : sizeT P e = some size) (hz : zeroV P e = some z)
    (hlen : len * size ≤ 16777216) (hsz : z.cells.size = size) (h0 : 0 < size) (hm : bslc size len (rep len z.cells.toList) (placesE size ev parts.toList) H = some (r, H')) :
    ∃ r' w', (Instr.buildSlice t len (parts.map fun p => (p.1, c p.2))).run P w = .ok r' w' ∧ Goes N w₀ ρ H w r H' r' w' := by
  obtain ⟨v, x, h1, rfl, rfl⟩ := bslc_form hm
  obtain ⟨x2, hx, r', w', g1, g2⟩ := bslc_mk (P := P) (t := t) h.big hr hu hs hz hlen hsz h0 h1
  cases hx
  exact ⟨r', w', g1, mk_goes h g2⟩

theorem s2b_sound (h : Rel N w₀ ρ H w) {e : TypeId} {a a' r : V} {H' : Heap} (ha : VRel ρ a a') (hm : s2b a H = some (r, H')) :
    ∃ s r' w', a' = .string s ∧ (Conv.stringToBytes e s).run P w = .ok r' w' ∧ Goes N w₀ ρ H w r H' r' w' := by
  obtain ⟨v, x, h1, rfl, rfl⟩ := s2b_form hm
  obtain ⟨x2, hx, s, r', w', g0, g1, g2⟩ := s2b_mk (P := P) (e := e) h.big ha h1
  cases hx
  exact ⟨s, r', w', g0, g1, mk_goes h g2⟩

end Go.AM
