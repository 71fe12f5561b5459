import Derived.Test.YtbnjeldcndpdoaaAmOps5
set_option linter.all false
/- Operations that make and write memory. -/
namespace Go.AM
open Go.RowKit (Below)

variable {P : Program} {N : Nat} {w₀ : World} {ρ : Ren} {H : Heap} {w : World}

/-- what an operation of this kind comes to -/
def Goes (N : Nat) (w₀ : World) (ρ : Ren) (H : Heap) (w : World) (r : V) (H' : Heap) (r' : V) (w' : World) : Prop :=
  ∃ ρ', VRel ρ' r r' ∧ Rel N w₀ ρ' H' w' ∧ Ext ρ H w ρ' H' w'

/-- one new block, and what points at it: wherever the abstract block may lie -/
def MkOK (N : Nat) (ρ : Ren) (w : World) (v : V) (x : Blk) (r' : V) (w' : World) : Prop :=
  ∃ o nd sz, w' = ({ w with drawn := nd } : World).alloc o ∧ (∀ ρ₂ : Ren, ρ.le ρ₂ → BRel N ρ₂ w' ⟨w.heap.size, 0, sz⟩ x) ∧ ∀ (ρ₂ : Ren) id, ρ₂ id = some ⟨w.heap.size, 0, sz⟩ → VRel ρ₂ (reloc id v) r'

theorem mk_cells (hN : N ≤ w.heap.size) (nd : Nat) (cs : List V) (C : Array V) (e : TypeId) (f : Nat × Nat) (hf : ∀ i, i < C.size → ¬ (f.1 ≤ i ∧ i < f.2)) (hl : cs.length ≤ C.size) (hc : LRel ρ cs (C.toList.take cs.length)) (v r' : V)
    (hv : ∀ (ρ₂ : Ren) id, ρ₂ id = some ⟨w.heap.size, 0, C.size⟩ → VRel ρ₂ (reloc id v) r') : MkOK N ρ w v (.cells true cs) r' (({ w with drawn := nd } : World).alloc (.cells C e f)) := by
  refine ⟨_, nd, C.size, rfl, fun ρ₂ hle => ⟨C, e, f, ?_, rfl, ⟨fun _ => ⟨hN, hf⟩, fun q => by cases q⟩, by simpa using hl, by simpa using hc.mono hle⟩, hv⟩
  show (w.heap.push _)[w.heap.size]? = _
  simp

theorem mk_goes (h : Rel N w₀ ρ H w) {v : V} {x : Blk} {r' : V} {w' : World} (hm : MkOK N ρ w v x r' w') : Goes N w₀ ρ H w (reloc H.next v) (H.push (some x)) r' w' := by
  obtain ⟨o, nd, sz, rfl, h1, h2⟩ := hm
  have hno : ρ H.next = none := h.dom _ (Nat.le_refl _)
  obtain ⟨g1, g2, g3⟩ := alloc_ext (h.drew nd) x o ⟨w.heap.size, 0, sz⟩ rfl (h1 _ (Ren.le_add _ hno))
  exact ⟨_, h2 _ _ g3, g1, ⟨g2.le, g2.same, g2.next, ⟨g2.apart.1, g2.apart.2⟩, g2.old⟩⟩

theorem newVar_mk (hN : N ≤ w.heap.size) (t : TypeId) {cs : List V} {v' : V} (hc : LRel ρ cs v'.cells.toList) :
    ∃ r' w', (do pure (Value.pointer (some (← newVar t v'))) : Sem Value).run P w = .ok r' w' ∧ MkOK N ρ w (ptr 0 0) (.cells true cs) r' w' := by
  have hl := hc.length
  refine ⟨.pointer (some ⟨w.heap.size, 0, none⟩), _, ?_, mk_cells hN w.drawn cs v'.cells t (0, 0) (by simp) (by simp at hl; omega) (by rw [List.take_of_length_le (by omega)]; exact hc) (ptr 0 0) _ fun ρ₂ id hid => ?_⟩
  · simp [newVar, newRow]
  · have := VRel.ptr id 0 _ hid; simpa [reloc] using this

theorem newc_form {cs : List V} {r : V} {H' : Heap} (hn : newc cs H = some (r, H')) : newc cs Heap.none0 = some (ptr 0 0, Heap.one (.cells true cs)) ∧ r = ptr H.next 0 ∧ H' = H.push (some (.cells true cs)) := by
  unfold newc at hn ⊢
  split at hn
  · rename_i hf; cases hn; exact ⟨by rw [if_pos hf]; rfl, rfl, rfl⟩
  · cases hn

theorem newc_mk (hN : N ≤ w.heap.size) {t : TypeId} {z v : V} {K : Heap} (hz : zeroV P t = some z) (hn : newc z.cells.toList Heap.none0 = some (v, K)) :
    ∃ x, K = Heap.one x ∧ ∃ r' w', (Instr.alloc t true (.tuple #[])).run P w = .ok r' w' ∧ MkOK N ρ w v x r' w' := by
  unfold newc at hn
  split at hn
  · rename_i hf
    cases hn
    obtain ⟨r', w', g1, g2⟩ := newVar_mk (P := P) (N := N) (ρ := ρ) hN t (flat_cells hf)
    refine ⟨_, rfl, r', w', ?_, g2⟩
    simp only [Instr.alloc, Sem.run_bind, zeroV_run hz w, Result.andThen_ok]
    simpa using g1
  · cases hn

theorem boxv_form {v r : V} {H' : Heap} (hn : boxv v H = some (r, H')) : ∃ x, boxv v Heap.none0 = some (ptr 0 0, Heap.one x) ∧ r = ptr H.next 0 ∧ H' = H.push (some x) := by
  unfold boxv at hn ⊢
  split at hn
  · rename_i hf; cases hn; exact ⟨_, by rw [if_pos hf]; rfl, rfl, rfl⟩
  · cases hn

theorem boxv_mk (hN : N ≤ w.heap.size) {t : TypeId} {v v' r : V} {K : Heap} (hv : VRel ρ v v') (hn : boxv v Heap.none0 = some (r, K)) :
    ∃ x, K = Heap.one x ∧ ∃ r' w', (Instr.box t v').run P w = .ok r' w' ∧ MkOK N ρ w r x r' w' := by
  unfold boxv at hn
  split at hn
  · rename_i hf
    cases hn
    exact ⟨_, rfl, newVar_mk (P := P) hN t (hv.cells hf)⟩
  · cases hn

theorem rep_get {z : List V} (hz : 0 < z.length) : ∀ (n i : Nat), i < n * z.length → (rep n z)[i]? = z[i % z.length]?
  | 0, i, h => by simp at h
  | n + 1, i, h => by
    simp only [rep]
    by_cases hi : i < z.length
    · rw [List.getElem?_append_left hi, Nat.mod_eq_of_lt hi]
    · rw [List.getElem?_append_right (by omega), rep_get hz n (i - z.length) (by rw [Nat.add_mul] at h; omega)]
      congr 1
      rw [← Nat.mod_eq_sub_mod (by omega)]

theorem rep_length (z : List V) : ∀ n, (rep n z).length = n * z.length
  | 0 => by simp [rep]
  | n + 1 => by simp [rep, rep_length z n, Nat.add_mul]; omega

theorem rep_rel {z : List V} (h : LRel ρ z z) : ∀ n, LRel ρ (rep n z) (rep n z)
  | 0 => .nil
  | n + 1 => h.append (rep_rel h n)

/-- n zero elements, as the model lays them -/
theorem zeros_eq (z : Array V) (n : Nat) (hz : 0 < z.size) : ((Array.range (n * z.size)).map fun i => z[i % z.size]!).toList = rep n z.toList := by
  apply List.ext_getElem?
  intro i
  by_cases hi : i < n * z.size
  · have hlt : i % z.size < z.size := Nat.mod_lt _ hz
    rw [rep_get (by simpa using hz) n i (by simpa using hi)]
    simp [hi, hlt, getElem!_pos]
  · rw [List.getElem?_eq_none (by simp; omega), List.getElem?_eq_none (by rw [rep_length]; simp; omega)]

theorem flat_lrel {l : List V} (h : l.all flatV = true) : LRel ρ l l := by
  induction l with
  | nil => exact .nil
  | cons x xs ih => simp only [List.all_cons, Bool.and_eq_true] at h; exact .cons (flatV_rel h.1) (ih h.2)

theorem map_range0 {α : Type} (f : Nat → α) : (Array.range 0).map f = #[] := Array.eq_empty_of_size_eq_zero (by simp)

theorem Ext.drawn {ρ' : Ren} {H' : Heap} {w' : World} {n : Nat} (g : Ext ρ H { w with drawn := n } ρ' H' w') : Ext ρ H w ρ' H' w' := ⟨g.le, g.same, g.next, ⟨g.apart.1, g.apart.2⟩, g.old⟩

theorem i64_wrap {n : Int} (h0 : 0 ≤ n) (h1 : n ≤ 9223372036854775807) : IntKind.i64.wrap n = n := IntWalk.i64_in n ⟨by omega, h1⟩

theorem mkslc_mk (hN : N ≤ w.heap.size) {t e : TypeId} {size bytes : Nat} {z n c n' c' r : V} {K : Heap} (hu : P.underlying t = some (.slice e)) (hs : sizeT P e = some size) (hb : bytesT P e = some bytes) (hz : zeroV P e = some z)
    (hsz : z.cells.size = size) (h0 : 0 < size) (hn : VRel ρ n n') (hc : VRel ρ c c') (hm : mkslc size bytes z.cells.toList n c Heap.none0 = some (r, K)) :
    ∃ x, K = Heap.one x ∧ ∃ r' w', (Instr.makeSlice t n' c').run P w = .ok r' w' ∧ MkOK N ρ w r x r' w' := by
  unfold mkslc at hm
  split at hm
  · rename_i k x k' y
    split at hm
    · rename_i hcond
      obtain ⟨hfl, hx0, hxy, hyb, hyb2⟩ := hcond
      cases hm
      obtain ⟨i, hi, hib⟩ := bytesT_run hb w
      have e1 := hn.int_inv; have e2 := hc.int_inv
      subst e1; subst e2
      have hwx : IntKind.i64.wrap x = x := i64_wrap hx0 (by omega)
      have hwy : IntKind.i64.wrap y = y := i64_wrap (by omega) (by omega)
      have hC : ((Array.range (y.toNat * size)).map fun i => z.cells[i % z.cells.size]!).toList = rep y.toNat z.cells.toList := by rw [← hsz]; exact zeros_eq z.cells y.toNat (by omega)
      have hlen : ((Array.range (y.toNat * size)).map fun i => z.cells[i % z.cells.size]!).size = (rep y.toNat z.cells.toList).length := by rw [← hC]; simp
      refine ⟨_, rfl, .slice (some ⟨w.heap.size, 0, none⟩) x.toNat y.toNat, _, ?_, mk_cells hN w.drawn (rep y.toNat z.cells.toList) ((Array.range (y.toNat * size)).map fun i => z.cells[i % z.cells.size]!) e (0, 0) (by simp) (by omega)
        (by rw [hC, List.take_of_length_le (Nat.le_refl _)]; exact rep_rel (flat_lrel hfl) _) _ _ fun ρ₂ id hid => .slc id 0 size x.toNat y.toNat _ 0 y.toNat _ hid (.inl rfl) (by omega) (Nat.le_refl _) (.inr ?_) (.inl rfl)⟩
      · have hb1 : ¬ (y < 0) := by omega
        have hb2 : ¬ ((bytes : Int) * y > 2 ^ 48) := by have : (2 : Int) ^ 48 = 281474976710656 := rfl; omega
        have hb3 : ¬ (x < 0) := by omega
        have hb4 : ¬ (x > y) := by omega
        simp only [Instr.makeSlice, Sem.run_bind, run_underlying hu, Result.andThen_ok, asInt, asIntOf, Sem.run_pure, hi, hwx, hwy, hib]
        simp only [hb1, hb2, hb3, hb4, decide_false, Bool.or_self, Bool.false_eq_true, or_self, if_false, Sem.run_bind, run_askRoom, Result.andThen_ok, sizeT_run hs w, Bool.or_false]
        by_cases q : y.toNat * size = 0
        · simp only [q, if_true, Sem.run_pure, Result.andThen_ok, Sem.run_bind, newRow, run_newObj, map_range0]
          rfl
        · simp [q, newRow, zeroV_run hz w]
      · show 0 + y.toNat * size ≤ _
        rw [hlen, rep_length]; simp [hsz]
    · cases hm
  · cases hm

theorem bslc_mk (hN : N ≤ w.heap.size) {t e : TypeId} {size len : Nat} {z r : V} {K : Heap} {parts : Array (Nat × Operand)} {ev c : Operand → V} (hr : ∀ z, VRel ρ (ev z) (c z)) (hu : P.underlying t = some (.slice e)) (hs : sizeT P e = some size) (hz : zeroV P e = some z)
    (hlen : len * size ≤ 16777216) (hsz : z.cells.size = size) (h0 : 0 < size) (hm : bslc size len (rep len z.cells.toList) (placesE size ev parts.toList) Heap.none0 = some (r, K)) :
    ∃ x, K = Heap.one x ∧ ∃ r' w', (Instr.buildSlice t len (parts.map fun p => (p.1, c p.2))).run P w = .ok r' w' ∧ MkOK N ρ w r x r' w' := by
  unfold bslc at hm
  split at hm
  · rename_i hfl
    split at hm
    · rename_i cs hcs
      cases hm
      have hC : ((Array.range (len * size)).map fun i => z.cells[i % z.cells.size]!).toList = rep len z.cells.toList := by rw [← hsz]; exact zeros_eq z.cells len (by omega)
      obtain ⟨D, hD, hrel⟩ := fill_sound _ (placesE_rel (size := size) hr parts.toList) _ ((Array.range (len * size)).map fun i => z.cells[i % z.cells.size]!) cs (by rw [hC]; exact flat_lrel hfl) hcs
      have hDl : cs.length = D.size := by have := hrel.length; simpa using this
      have hfa : ∀ {qs : List (Nat × Nat × V)} {l m : List V}, fillA l qs = some m → m.length = l.length := by
        intro qs
        induction qs with
        | nil => intro l m hq; simp only [fillA] at hq; cases hq; rfl
        | cons q qs ih =>
          intro l m hq
          obtain ⟨o, s, v⟩ := q
          simp only [fillA] at hq
          split at hq
          · rename_i hc
            simp only [Bool.and_eq_true, beq_iff_eq, decide_eq_true_eq] at hc
            rw [ih hq, splice_length]
            have := hc.1.2
            simp at *; omega
          · cases hq
      have hcl : cs.length = len * size := by rw [hfa hcs, rep_length]; simp [hsz]
      refine ⟨_, rfl, .slice (some ⟨w.heap.size, 0, none⟩) len len, _, ?_, mk_cells hN w.drawn cs D e (0, 0) (by simp) (by omega) (by rw [List.take_of_length_le (by simp; omega)]; exact hrel) _ _
        fun ρ₂ id hid => .slc id 0 size len len _ 0 len _ hid (.inl rfl) (Nat.le_refl _) (Nat.le_refl _) (.inr ?_) (.inl rfl)⟩
      · have hD' : Instr.fill (fun i => some (i * size, size)) ((Array.range (len * size)).map fun i => z.cells[i % z.cells.size]!) (parts.map fun p => (p.1, c p.2)).toList = some D := by simpa using hD
        simp only [Instr.buildSlice, Sem.run_bind, run_underlying hu, Result.andThen_ok, sizeT_run hs w]
        rw [if_neg (by omega)]
        by_cases q : len * size = 0
        · simp only [q, if_true, Sem.run_pure, Result.andThen_ok]
          rw [q, map_range0] at hD'
          simp only [map_range0, Sem.run_bind, Sem.run_pure, Result.andThen_ok]
          rw [hD']
          simp [newRow]
        · simp only [q, if_false, Sem.run_bind, zeroV_run hz w, Result.andThen_ok, Sem.run_pure]
          rw [hD']
          simp [newRow]
      · show 0 + len * size ≤ D.size
        omega
    · cases hm
  · cases hm

theorem bytesV_length (s : ByteArray) : (bytesV s).length = s.size := by simp [bytesV]
theorem bytesV_rel (s : ByteArray) : LRel ρ (bytesV s) (bytesV s) := by
  unfold bytesV
  induction s.data.toList with
  | nil => exact .nil
  | cons x xs ih => exact .cons (.int _ _) ih

theorem modify_push (a : Array Obj) (x : Obj) (f : Obj → Obj) : (a.push x).modify a.size f = a.push (f x) := by
  apply Array.ext
  · simp
  · intro i h1 h2
    simp only [Array.size_modify, Array.size_push] at h1
    simp only [Array.getElem_modify, Array.getElem_push]
    by_cases hi : i < a.size
    · rw [if_neg (by omega)]; simp [hi]
    · rw [if_pos (by omega)]; simp [hi]

theorem s2b_mk (hN : N ≤ w.heap.size) {e : TypeId} {a a' r : V} {K : Heap} (ha : VRel ρ a a') (hm : s2b a Heap.none0 = some (r, K)) :
    ∃ x, K = Heap.one x ∧ ∃ s r' w', a' = .string s ∧ (Conv.stringToBytes e s).run P w = .ok r' w' ∧ MkOK N ρ w r x r' w' := by
  unfold s2b at hm
  split at hm
  · rename_i s
    cases hm
    have hq : ∃ cap n, (choose (.appendCap s.size 0 e)).run P w = .ok cap { w with drawn := n } ∧ s.size ≤ cap := by
      simp only [run_choose, Question.forced, Bool.false_eq_true, if_false, Question.cut]
      exact ⟨_, _, rfl, Nat.le_add_right _ _⟩
    obtain ⟨cap, nd, hch, hcap⟩ := hq
    let C : Array V := s.data.map (fun b => Value.int .u8 b.toNat) ++ Array.replicate (cap - s.size) (.int .u8 0)
    have hCs : C.size = cap := by simp only [C, Array.size_append, Array.size_map, Array.size_replicate]; have : s.data.size = s.size := rfl; omega
    have hCl : C.toList = bytesV s ++ List.replicate (cap - s.size) (.int .u8 0) := by simp [C, bytesV]
    refine ⟨_, rfl, s, .slice (some ⟨w.heap.size, 0, none⟩) s.size cap, _, ha.string_inv, ?_, mk_cells hN nd (bytesV s) C e (cap, cap + 1) (by simp only [hCs]; omega) (by rw [bytesV_length]; omega)
      (by rw [hCl, List.take_append_of_le_length (Nat.le_refl _), List.take_of_length_le (Nat.le_refl _)]; exact bytesV_rel s) _ _
      fun ρ₂ id hid => .slc id 0 1 s.size s.size _ 0 cap _ hid (.inl rfl) (Nat.le_refl _) hcap (.inr (by simp [hCs])) (.inl rfl)⟩
    have hsh : ∀ o, (({ w with drawn := nd } : World).alloc (.cells C e o)).shape? w.heap.size = some (e, cap) := by
      intro o
      show (match (w.heap.push (Obj.cells C e o))[w.heap.size]? with | some (.cells c elem _) => some (elem, c.size) | _ => none) = _
      simp [hCs]
    simp only [Conv.stringToBytes, Sem.run_bind, hch, Result.andThen_ok, newRow, run_newObj, Sem.run_pure, markStringish, run_shape]
    have hsh' := hsh (0, 0)
    have e1 : ({ w with heap := w.heap.push (Obj.cells C e (0, 0)), drawn := nd } : World).shape? w.heap.size = some (e, cap) := hsh'
    have e2 : (({ w with heap := w.heap.push (Obj.cells C e (0, 0)), drawn := nd } : World).freeze ⟨w.heap.size, cap, none⟩ 1) = ({ w with drawn := nd } : World).alloc (.cells C e (cap, cap + 1)) := by
      simp only [World.freeze, World.alloc]
      rw [if_neg (by omega)]
      rw [modify_push]
      simp
    show (Result.andThen (Sem.run P (match ({ w with heap := w.heap.push (Obj.cells C e (0, 0)), drawn := nd } : World).shape? w.heap.size with | some (_, n) => _ | _ => _) _) _) = _
    rw [e1]
    simp only [run_freeze, Result.andThen_ok]
    rw [e2]
  · cases hm

theorem mkslc_form {size bytes : Nat} {z : List V} {n c r : V} {H' : Heap} (hn : mkslc size bytes z n c H = some (r, H')) : ∃ v x, mkslc size bytes z n c Heap.none0 = some (v, Heap.one x) ∧ r = reloc H.next v ∧ H' = H.push (some x) := by
  unfold mkslc at hn ⊢
  split at hn
  · split at hn
    · rename_i hf; cases hn; exact ⟨_, _, by simp only [hf, and_self, if_true]; rfl, rfl, rfl⟩
    · cases hn
  · cases hn
theorem bslc_form {size len : Nat} {z : List V} {parts : List (Nat × Nat × V)} {r : V} {H' : Heap} (hn : bslc size len z parts H = some (r, H')) : ∃ v x, bslc size len z parts Heap.none0 = some (v, Heap.one x) ∧ r = reloc H.next v ∧ H' = H.push (some x) := by
  unfold bslc at hn ⊢
  split at hn
  · rename_i hf
    rw [if_pos hf]
    split at hn
    · rename_i cs hcs; cases hn; refine ⟨slc 0 0 size len len, .cells true cs, ?_, rfl, rfl⟩; first | rfl | (rw [hcs]; rfl)
    · cases hn
  · cases hn
theorem s2b_form {a r : V} {H' : Heap} (hn : s2b a H = some (r, H')) : ∃ v x, s2b a Heap.none0 = some (v, Heap.one x) ∧ r = reloc H.next v ∧ H' = H.push (some x) := by
  unfold s2b at hn ⊢
  split at hn
  · cases hn; exact ⟨_, _, rfl, rfl, rfl⟩
  · cases hn
theorem mkmap_mk (hN : N ≤ w.heap.size) : MkOK N ρ w (.map (some 0)) (.map true []) (.map (some w.heap.size)) (w.alloc (.map #[] 0)) :=
  ⟨_, w.drawn, 0, rfl, fun ρ₂ _ => ⟨rfl, #[], 0, by show (w.heap.push _)[w.heap.size]? = _; simp, fun _ => ⟨hN, born_nil 0⟩, .nil, .nil⟩, fun ρ₂ id hid => .map id _ hid⟩

theorem newc_sound (h : Rel N w₀ ρ H w) {t : TypeId} {z r : V} {H' : Heap} (hz : zeroV P t = some z) (hn : newc z.cells.toList H = some (r, H')) :
    ∃ r' w', (Instr.alloc t true (.tuple #[])).run P w = .ok r' w' ∧ Goes N w₀ ρ H w r H' r' w' := by
  obtain ⟨h1, rfl, rfl⟩ := newc_form hn
  obtain ⟨x, hx, r', w', g1, g2⟩ := newc_mk (P := P) (N := N) (ρ := ρ) h.big hz h1
  cases hx
  exact ⟨r', w', g1, by simpa [reloc] using mk_goes h g2⟩

theorem boxv_sound (h : Rel N w₀ ρ H w) {t : TypeId} {v v' r : V} {H' : Heap} (hv : VRel ρ v v') (hn : boxv v H = some (r, H')) :
    ∃ r' w', (Instr.box t v').run P w = .ok r' w' ∧ Goes N w₀ ρ H w r H' r' w' := by
  obtain ⟨x, h1, rfl, rfl⟩ := boxv_form hn
  obtain ⟨x2, hx, r', w', g1, g2⟩ := boxv_mk (P := P) (t := t) h.big hv h1
  cases hx
  exact ⟨r', w', g1, by simpa [reloc] using mk_goes h g2⟩

theorem mkslc_sound (h : Rel N w₀ ρ H w) {t e : TypeId} {size bytes : Nat} {z n c n' c' r : V} {H' : Heap} (hu : P.underlying t = some (.slice e)) (hs : sizeT P e = some size) (hb : bytesT P e = some bytes) (hz : zeroV P e = some z)
    (hsz : z.cells.size = size) (h0 : 0 < size) (hn : VRel ρ n n') (hc : VRel ρ c c') (hm : mkslc size bytes z.cells.toList n c H = some (r, H')) :
    ∃ r' w', (Instr.makeSlice t n' c').run P w = .ok r' w' ∧ Goes N w₀ ρ H w r H' r' w' := by
  obtain ⟨v, x, h1, rfl, rfl⟩ := mkslc_form hm
  obtain ⟨x2, hx, r', w', g1, g2⟩ := mkslc_mk (P := P) (t := t) h.big hu hs hb hz hsz h0 hn hc h1
  cases hx
  exact ⟨r', w', g1, mk_goes h g2⟩

theorem bslc_sound (h : Rel N w₀ ρ H w) {t e : TypeId} {size len : Nat} {z r : V} {H' : Heap} {parts : Array (Nat × Operand)} {ev c : Operand → V} (hr : ∀ z, VRel ρ (ev z) (c z)) (hu : P.underlying t = some (.slice e)) (hs : sizeT P e = some size) (hz : zeroV P e = some z)
    (hlen : len * size ≤ 16777216) (hsz : z.cells.size = size) (h0 : 0 < size) (hm : bslc size len (rep len z.cells.toList) (placesE size ev parts.toList) H = some (r, H')) :
    ∃ r' w', (Instr.buildSlice t len (parts.map fun p => (p.1, c p.2))).run P w = .ok r' w' ∧ Goes N w₀ ρ H w r H' r' w' := by
  obtain ⟨v, x, h1, rfl, rfl⟩ := bslc_form hm
  obtain ⟨x2, hx, r', w', g1, g2⟩ := bslc_mk (P := P) (t := t) h.big hr hu hs hz hlen hsz h0 h1
  cases hx
  exact ⟨r', w', g1, mk_goes h g2⟩

theorem s2b_sound (h : Rel N w₀ ρ H w) {e : TypeId} {a a' r : V} {H' : Heap} (ha : VRel ρ a a') (hm : s2b a H = some (r, H')) :
    ∃ s r' w', a' = .string s ∧ (Conv.stringToBytes e s).run P w = .ok r' w' ∧ Goes N w₀ ρ H w r H' r' w' := by
  obtain ⟨v, x, h1, rfl, rfl⟩ := s2b_form hm
  obtain ⟨x2, hx, s, r', w', g0, g1, g2⟩ := s2b_mk (P := P) (e := e) h.big ha h1
  cases hx
  exact ⟨s, r', w', g0, g1, mk_goes h g2⟩

end Go.AM
