import Derived.Test.YtbnjeldcndpdoaaAmOps1
set_option linter.all false
/- Operations that read and write no memory, together. -/
namespace Go.AM
open Go.RowKit (Below)

variable {P : Program} {ρ : Ren}

theorem splice_set {α : Type} [Inhabited α] (cs : List α) (o : Nat) (x : α) (l : List α) (h : o < cs.length) :
    (cs.set o x).take (o + 1) ++ (l ++ (cs.set o x).drop (o + 1 + l.length)) = cs.take o ++ (x :: l ++ cs.drop (o + (x :: l).length)) := by
  have h1 : (cs.set o x).take (o + 1) = cs.take o ++ [x] := by
    rw [List.take_add_one, List.take_set_of_le (Nat.le_refl _)]
    simp [h]
  have h2 : (cs.set o x).drop (o + 1 + l.length) = cs.drop (o + 1 + l.length) := List.drop_set_of_lt (by omega)
  rw [h1, h2]
  simp [Nat.add_assoc, Nat.add_comm 1]

theorem foldl_splice (off : Nat) : ∀ (l : List V) (k : Nat) (cells : Array V), off + k + l.length ≤ cells.size →
    ((l.zipIdx k).foldl (fun cs (p : V × Nat) => cs.setIfInBounds (off + p.2) p.1) cells).toList = splice cells.toList (off + k) l
  | [], k, cells, h => by simp [splice]
  | x :: l, k, cells, h => by
    have h' : off + k + (l.length + 1) ≤ cells.size := by simpa using h
    simp only [List.zipIdx_cons, List.foldl_cons]
    rw [foldl_splice off l (k + 1) _ (by simp; omega)]
    unfold splice
    have := splice_set cells.toList (off + k) x l (by simp; omega)
    rw [Array.toList_setIfInBounds, ← Nat.add_assoc]
    exact this

theorem foldl_splice' (off : Nat) (v : Array V) (cells : Array V) (h : off + v.size ≤ cells.size) :
    (v.zipIdx.foldl (fun cs (p : V × Nat) => cs.setIfInBounds (off + p.2) p.1) cells).toList = splice cells.toList off v.toList := by
  have := foldl_splice off v.toList 0 cells (by simpa using h)
  rw [← Array.foldl_toList, Array.toList_zipIdx]
  simpa using this

theorem LRel.splice {l l' m m' : List V} (h : LRel ρ l l') (g : LRel ρ m m') (o : Nat) : LRel ρ (splice l o m) (splice l' o m') := by
  unfold AM.splice
  rw [g.length]
  exact (h.take o).append (g.append (h.drop _))

theorem splice_length (l : List V) (o : Nat) (m : List V) (h : o + m.length ≤ l.length) : (splice l o m).length = l.length := by
  unfold splice; simp; omega

/-- the parts of a composite -/
inductive PRel (ρ : Ren) (place : Nat → Option (Nat × Nat)) : List (Nat × V) → List (Nat × Nat × V) → Prop where
  | nil : PRel ρ place [] []
  | cons {i : Nat} {v u : V} {off size : Nat} {ps : List (Nat × V)} {qs : List (Nat × Nat × V)} : place i = some (off, size) → VRel ρ u v → PRel ρ place ps qs →
      PRel ρ place ((i, v) :: ps) ((off, size, u) :: qs)

theorem fill_sound (place : Nat → Option (Nat × Nat)) : ∀ {ps : List (Nat × V)} {qs : List (Nat × Nat × V)}, PRel ρ place ps qs → ∀ (cs : List V) (C : Array V) (r : List V),
    LRel ρ cs C.toList → fillA cs qs = some r → ∃ D, Instr.fill place C ps = some D ∧ LRel ρ r D.toList := by
  intro ps qs hp
  induction hp with
  | nil => intro cs C r hc h; simp only [fillA] at h; cases h; exact ⟨C, rfl, hc⟩
  | @cons i v u off size ps qs hpl hv _ ih =>
    intro cs C r hc h
    simp only [fillA] at h
    split at h
    · rename_i hcond
      simp only [Bool.and_eq_true, beq_iff_eq, decide_eq_true_eq] at hcond
      obtain ⟨⟨h1, h2⟩, h3⟩ := hcond
      have hcells := hv.cells h1
      have hl := hcells.length
      have hC := hc.length
      simp only [Array.length_toList] at hl hC
      simp only [Instr.fill, hpl]
      have hz : (decide (v.cells.size ≠ size) || decide (off + v.cells.size > C.size)) = false := by
        simp only [Bool.or_eq_false_iff, decide_eq_false_iff_not, ne_eq, Decidable.not_not]
        omega
      rw [if_neg (by rw [hz]; simp)]
      refine ih (splice cs off u.cells.toList) _ r ?_ h
      rw [foldl_splice' off v.cells C (by omega)]
      exact hc.splice hcells off
    · cases h

theorem places_run : ∀ (fs : List Field) (pl : List (Nat × Nat)), placesAll P fs = some pl → ∀ (w : World),
    (List.mapM (m := Sem) (fun f : Field => do pure (f.offset, ← sizeOf f.type)) fs).run P w = .ok pl w
  | [], pl, h, w => by simp only [placesAll] at h; cases h; simp
  | f :: fs, pl, h, w => by
    simp only [placesAll] at h
    split at h
    · rename_i n l hn hl
      cases h
      unfold sizeT at hn
      split at hn
      · rename_i i hi
        cases hn
        have ih := places_run fs l hl w
        simp only [List.mapM_cons, Sem.run_bind, sizeOf, typeInfo, run_program, Result.andThen_ok, hi, Sem.run_pure]
        have ih' : (List.mapM (m := Sem) (fun f : Field => do let x ← typeInfo f.type; pure (f.offset, x.size)) fs).run P w = .ok l w := by
          simpa [sizeOf] using ih
        simp only [sizeOf] at ih
        first
          | rw [ih]; simp
          | (simp [typeInfo] at ih ⊢; rw [ih]; simp)
      · cases hn
    · cases h

theorem bound_run {x x' : Option V} {d most n : Nat} (h : bound d most x = some n) (hx : (x = none ∧ x' = none) ∨ ∃ v v', x = some v ∧ x' = some v' ∧ VRel ρ v v') :
    (x' = none ∧ n = d) ∨ ∃ (k : IntKind) (i : Int), x' = some (.int k i) ∧ 0 ≤ i ∧ i ≤ most ∧ n = i.toNat := by
  unfold bound at h
  rcases hx with ⟨rfl, rfl⟩ | ⟨v, v', rfl, rfl, hv⟩
  · cases h; exact .inl ⟨rfl, rfl⟩
  · split at h
    · rename_i q; cases q
    · rename_i q; cases q
      split at h
      · rename_i hi; cases h; exact .inr ⟨_, _, by rw [hv.int_inv], hi.1, hi.2, rfl⟩
      · cases h
    · cases h

theorem sliceBound_ok {k : IntKind} {i : Int} {y : Nat} (code : BoundsCode) (w : World) (h0 : 0 ≤ i) (h1 : i ≤ y) : (Instr.sliceBound (.int k i) y code).run P w = .ok i.toNat w := by
  simp [Instr.sliceBound, asIntOf, h0, h1]

/-- the bounds of a slice expression: the model's room may be more than the abstract machine's -/
theorem bounds_run {isSlice : Bool} {lo hi lo' hi' : Option V} {len cap ccap l h : Nat} (w : World) (hh : bound len cap hi = some h) (hl : bound 0 h lo = some l) (hc : cap ≤ ccap)
    (hlo : (lo = none ∧ lo' = none) ∨ ∃ v v', lo = some v ∧ lo' = some v' ∧ VRel ρ v v') (hhi : (hi = none ∧ hi' = none) ∨ ∃ v v', hi = some v ∧ hi' = some v' ∧ VRel ρ v v') :
    (Instr.sliceBounds isSlice len ccap lo' hi' none).run P w = .ok (l, h, ccap) w := by
  rcases bound_run hh hhi with ⟨rfl, rfl⟩ | ⟨k, i, rfl, a1, a2, rfl⟩ <;> rcases bound_run hl hlo with ⟨rfl, rfl⟩ | ⟨k', j, rfl, b1, b2, rfl⟩
  · simp [Instr.sliceBounds]
  · simp [Instr.sliceBounds, sliceBound_ok _ w b1 b2]
  · simp [Instr.sliceBounds, sliceBound_ok _ w a1 (show i ≤ (ccap : Int) by omega)]
  · simp [Instr.sliceBounds, sliceBound_ok _ w a1 (show i ≤ (ccap : Int) by omega), sliceBound_ok _ w b1 b2]

theorem bound_le {d most n : Nat} {x : Option V} (h : bound d most x = some n) (hd : d ≤ most) : n ≤ most := by
  unfold bound at h
  split at h
  · cases h; exact hd
  · split at h
    · cases h; omega
    · cases h
  · cases h

theorem cutAt_rel {b o u l h m size cm : Nat} {L : Loc} {co : Nat} (hL : ρ b = some L) (ho : co = L.off + o ∨ m = 0) (hu : u = size ∨ u = 0) (hlh : l ≤ h) (hhm : h ≤ m) (hm : m ≤ cm)
    (hs : u = 0 ∨ co + cm * u ≤ L.size) (hmx : u = 0 ∨ cm ≤ 9223372036854775807) :
    VRel ρ (cutAt b o u l h m size) (.slice (if cm = l then some ⟨L.blk, co, none⟩ else (some ⟨L.blk, co, none⟩ : Option Addr).map (·.add (l * size))) (h - l) (cm - l)) := by
  have hadd : (⟨L.blk, co, none⟩ : Addr).add (l * size) = ⟨L.blk, co + l * size, none⟩ := by
    unfold Addr.add; split
    · simp_all
    · rfl
  have hmul : l ≤ cm → l * size + (cm - l) * size = cm * size := fun h => by rw [← Nat.add_mul]; congr 1; omega
  unfold cutAt
  split
  · rename_i e; subst e
    have : h - m = 0 := by omega
    rw [this]
    split
    · rename_i q
      refine .slc b o u 0 (m - m) L co _ _ hL (.inr (by omega)) (by omega) (by omega) ?_ (.inl rfl) (hmx.imp id fun q => by omega)
      rcases hs with hs | hs
      · exact .inl hs
      · right; rw [q]; simp; omega
    · simp only [Option.map_some, hadd]
      refine .slc b o u 0 (m - m) L _ _ _ hL (.inr (by omega)) (by omega) (by omega) ?_ (.inl rfl) (hmx.imp id fun q => by omega)
      rcases hs with hs | hs
      · exact .inl hs
      · rcases hu with hu | hu
        · subst hu; right; have := hmul hm; omega
        · exact .inl hu
  · rename_i e
    have hlt : l < m := by omega
    rw [if_neg (by omega)]
    simp only [Option.map_some, hadd]
    refine .slc b _ u _ (m - l) L _ _ _ hL (.inl (by rcases ho with ho | ho <;> omega)) (by omega) (by omega) ?_ (.inl rfl) (hmx.imp id fun q => by omega)
    rcases hs with hs | hs
    · exact .inl hs
    · rcases hu with hu | hu
      · subst hu; right; have := hmul (by omega); omega
      · exact .inl hu

theorem opt_rel {e c : Operand → V} (hr : ∀ z, VRel ρ (e z) (c z)) (x : Option Operand) :
    (optO e x = none ∧ x.map c = none) ∨ ∃ v v', optO e x = some v ∧ x.map c = some v' ∧ VRel ρ v v' := by
  cases x with
  | none => exact .inl ⟨rfl, rfl⟩
  | some x => exact .inr ⟨_, _, rfl, rfl, hr x⟩

theorem subS_sound {a a' r : V} {lo hi lo' hi' : Option V} {t : TypeId} (ht : P.underlying t = some .string) (ha : VRel ρ a a')
    (hlo : (lo = none ∧ lo' = none) ∨ ∃ v v', lo = some v ∧ lo' = some v' ∧ VRel ρ v v') (hhi : (hi = none ∧ hi' = none) ∨ ∃ v v', hi = some v ∧ hi' = some v' ∧ VRel ρ v v')
    (h : subS a lo hi = some r) (w : World) : (Instr.sliceAt t a' lo' hi' none).run P w = .ok r w ∧ VRel ρ r r := by
  unfold subS at h
  split at h
  · split at h
    · rename_i hh
      split at h
      · rename_i hl
        cases h
        rw [ha.string_inv]
        refine ⟨?_, .string _⟩
        simp [Instr.sliceAt, Instr.slice, run_underlying ht, bounds_run (P := P) (isSlice := false) w hh hl (Nat.le_refl _) hlo hhi]
      · cases h
    · cases h
  · cases h

theorem subV_sound {a a' r : V} {lo hi lo' hi' : Option V} {t el : TypeId} {size : Nat} (ht : P.underlying t = some (.slice el)) (hsz : sizeT P el = some size) (ha : VRel ρ a a')
    (hlo : (lo = none ∧ lo' = none) ∨ ∃ v v', lo = some v ∧ lo' = some v' ∧ VRel ρ v v') (hhi : (hi = none ∧ hi' = none) ∨ ∃ v v', hi = some v ∧ hi' = some v' ∧ VRel ρ v v')
    (h : subV size a lo hi = some r) : ∃ r', VRel ρ r r' ∧ ∀ w, (Instr.sliceAt t a' lo' hi' none).run P w = .ok r' w := by
  have hs : ∀ w, (sizeOf el).run P w = .ok size w := by
    intro w; unfold sizeT at hsz; split at hsz
    · rename_i i hi; cases hsz; simp [sizeOf, typeInfo, hi]
    · cases hsz
  unfold subV at h
  split at h
  · rename_i x len cap
    split at h
    · rename_i hb hh
      split at h
      · rename_i l hl
        split at h
        · cases h
          cases ha
          have hhb : hb ≤ 0 := bound_le hh (Nat.le_refl _)
          have hlb : l ≤ hb := bound_le hl (Nat.zero_le _)
          have e1 : hb - l = 0 := by omega
          have e2 : 0 - l = 0 := by omega
          refine ⟨.slice none 0 0, by rw [e1, e2]; exact .snil, fun w => ?_⟩
          simp [Instr.sliceAt, Instr.slice, run_underlying ht, bounds_run (P := P) (isSlice := true) w hh hl (Nat.le_refl _) hlo hhi, hs, e1]
        · split at h
          · rename_i hu
            cases h
            obtain ⟨L, co, ccap, ca, hL, rfl, ho, hlen, hcap, hs2, hca, hmx⟩ := ha.slc_inv
            have hhb : hb ≤ cap := bound_le hh hlen
            have hlb : l ≤ hb := bound_le hl (Nat.zero_le _)
            rcases hca with rfl | h0
            rotate_left
            · subst h0
              obtain rfl : cap = 0 := by omega
              obtain rfl : hb = 0 := by omega
              obtain rfl : l = 0 := by omega
              refine ⟨.slice (some ca) 0 0, ?_, fun w => ?_⟩
              · unfold cutAt; rw [if_pos rfl]
                exact .slc _ _ _ 0 0 L co 0 ca hL (.inr rfl) (Nat.le_refl _) (Nat.le_refl _) (hs2.imp id fun q => by omega) (.inr rfl) (.inr (by omega))
              · simp [Instr.sliceAt, Instr.slice, run_underlying ht, bounds_run (P := P) (isSlice := true) w hh hl hcap hlo hhi, hs]
            refine ⟨_, cutAt_rel hL ho hu hlb hhb hcap hs2 hmx, fun w => ?_⟩
            simp [Instr.sliceAt, Instr.slice, run_underlying ht, bounds_run (P := P) (isSlice := true) w hh hl hcap hlo hhi, hs]
          · cases h
        · cases h
      · cases h
    · cases h
  · cases h

theorem subA_sound {a a' r : V} {lo hi lo' hi' : Option V} {t el : TypeId} {n size : Nat} (ht : P.underlying t = some (.array n el)) (hsz : sizeT P el = some size) (ha : VRel ρ a a')
    (hlo : (lo = none ∧ lo' = none) ∨ ∃ v v', lo = some v ∧ lo' = some v' ∧ VRel ρ v v') (hhi : (hi = none ∧ hi' = none) ∨ ∃ v v', hi = some v ∧ hi' = some v' ∧ VRel ρ v v')
    (h : subA n size a lo hi = some r) : ∃ r', VRel ρ r r' ∧ ∀ w, (Instr.sliceAt t a' lo' hi' none).run P w = .ok r' w := by
  have hs : ∀ w, (sizeOf el).run P w = .ok size w := by
    intro w; unfold sizeT at hsz; split at hsz
    · rename_i i hi; cases hsz; simp [sizeOf, typeInfo, hi]
    · cases hsz
  unfold subA at h
  split at h
  · split at h
    · rename_i hb hh
      split at h
      · rename_i l hl
        cases h
        obtain ⟨L, hL, rfl⟩ := ha.ptr_inv
        have hhb : hb ≤ n := bound_le hh (Nat.le_refl _)
        have hlb : l ≤ hb := bound_le hl (Nat.zero_le _)
        refine ⟨_, cutAt_rel (size := size) (cm := n) hL (.inl rfl) (.inr rfl) hlb hhb (Nat.le_refl _) (.inl rfl) (.inl rfl), fun w => ?_⟩
        simp [Instr.sliceAt, Instr.sureAddr, run_underlying ht, bounds_run (P := P) (isSlice := false) w hh hl (Nat.le_refl _) hlo hhi, hs]
        split <;> rfl
      · cases h
    · cases h
  · cases h

end Go.AM

/- Operations that read and write no memory: the theorem. -/
namespace Go.AM
open Go.RowKit (Below)

variable {P : Program} {ρ : Ren}

theorem sizeT_run {t : TypeId} {n : Nat} (h : sizeT P t = some n) (w : World) : (sizeOf t).run P w = .ok n w := by
  unfold sizeT at h; split at h
  · rename_i i hi; cases h; simp [sizeOf, typeInfo, hi]
  · cases h
theorem zeroV_run {t : TypeId} {z : V} (h : zeroV P t = some z) (w : World) : (zeroValue t).run P w = .ok z w := by
  unfold zeroV at h; split at h
  · rename_i i hi; simp [zeroValue, typeInfo, hi, h]
  · cases h
theorem bytesT_run {t : TypeId} {n : Nat} (h : bytesT P t = some n) (w : World) : ∃ i, (typeInfo t).run P w = .ok i w ∧ i.bytes = n := by
  unfold bytesT at h; split at h
  · rename_i i hi; cases h; exact ⟨i, by simp [typeInfo, hi], rfl⟩
  · cases h

theorem tk_one {t : TypeId} (h : tk P t = some .one) : (∀ w, (isAgg t).run P w = .ok false w) ∧ ∀ w, (sizeOf t).run P w = .ok 1 w := by
  unfold tk at h
  split at h
  · cases h
  · cases h
  · rename_i d i hn hm hu hi
    split at h
    · rename_i h1
      refine ⟨fun w => ?_, fun w => ?_⟩
      · simp only [isAgg, Sem.run_bind, run_underlying hu, Result.andThen_ok]
        cases d <;> first | rfl | exact absurd rfl (hn _) | exact absurd rfl (hm _ _)
      · simp [sizeOf, typeInfo, hi, h1]
    · cases h
  · cases h
theorem tk_agg {t : TypeId} {n : Nat} (h : tk P t = some (.agg n)) : (∀ w, (isAgg t).run P w = .ok true w) ∧ ∀ w, (sizeOf t).run P w = .ok n w := by
  unfold tk at h
  split at h
  · rename_i fs i hu hi; cases h
    exact ⟨fun w => by simp [isAgg, run_underlying hu], fun w => by simp [sizeOf, typeInfo, hi]⟩
  · rename_i fs i hu hi; cases h
    exact ⟨fun w => by simp [isAgg, run_underlying hu], fun w => by simp [sizeOf, typeInfo, hi]⟩
  · split at h <;> cases h
  · cases h

theorem array_mapM_run {α β : Type} (f : α → Sem β) (a : Array α) (l : List β) (w : World) (h : (a.toList.mapM f).run P w = .ok l w) : (a.mapM f).run P w = .ok l.toArray w := by
  rw [Array.mapM_eq_mapM_toList]
  simp [h]

theorem partsF_rel {pl : List (Nat × Nat)} {e c : Operand → V} (hr : ∀ z, VRel ρ (e z) (c z)) : ∀ (ps : List (Nat × Operand)) (qs : List (Nat × Nat × V)), partsF pl e ps = some qs →
    PRel ρ (pl.toArray[·]?) (ps.map fun p => (p.1, c p.2)) qs
  | [], qs, h => by simp only [partsF] at h; cases h; exact .nil
  | (i, x) :: ps, qs, h => by
    simp only [partsF] at h
    split at h
    · rename_i p l hp hl; cases h
      exact .cons (by simpa using hp) (hr x) (partsF_rel hr ps l hl)
    · cases h

theorem placesE_rel {size : Nat} {e c : Operand → V} (hr : ∀ z, VRel ρ (e z) (c z)) : ∀ (ps : List (Nat × Operand)),
    PRel ρ (fun i => some (i * size, size)) (ps.map fun p => (p.1, c p.2)) (placesE size e ps)
  | [] => .nil
  | (_, x) :: ps => .cons rfl (hr x) (placesE_rel hr ps)

/-- the zero value is the same on both sides: it holds no address -/
theorem flatV_rel {v : V} (h : flatV v = true) : VRel ρ v v := by
  unfold flatV at h; split at h <;> first | constructor | cases h

theorem flat_cells {z : V} (h : z.cells.toList.all flatV = true) : LRel ρ z.cells.toList z.cells.toList := by
  generalize z.cells.toList = l at h
  induction l with
  | nil => exact .nil
  | cons x xs ih => simp only [List.all_cons, Bool.and_eq_true] at h; exact .cons (flatV_rel h.1) (ih h.2)

theorem part_one {t : TypeId} (ht : tk P t = some .one) {cs : Array V} {off : Nat} {v : V} (h : cs[off]? = some v) (w : World) : (part t cs off).run P w = .ok v w := by
  simp [part, (tk_one ht).1 w, h]
theorem part_agg {t : TypeId} {n : Nat} (ht : tk P t = some (.agg n)) {cs : Array V} {off : Nat} (w : World) : (part t cs off).run P w = .ok (.agg (cs.extract off (off + n))) w := by
  simp [part, (tk_agg ht).1 w, (tk_agg ht).2 w]

theorem fld1_sound {off : Nat} {a a' r : V} (h : fld1 off a = some r) (ha : VRel ρ a a') : ∃ A v, a' = .agg A ∧ A[off]? = some v ∧ VRel ρ r v := by
  unfold fld1 at h; split at h
  · obtain ⟨A, rfl, hA⟩ := ha.agg_inv
    obtain ⟨v, h1, h2⟩ := hA.get off r h
    exact ⟨A, v, rfl, by simpa using h1, h2⟩
  · cases h
theorem fldn_sound {off n : Nat} {a a' r : V} (h : fldn off n a = some r) (ha : VRel ρ a a') : ∃ A, a' = .agg A ∧ VRel ρ r (.agg (A.extract off (off + n))) := by
  unfold fldn at h; split at h
  · split at h
    · obtain ⟨A, rfl, hA⟩ := ha.agg_inv
      cases h
      refine ⟨A, rfl, .agg' ?_⟩
      have : (A.extract off (off + n)).toList = (A.toList.drop off).take n := by
        rw [Array.toList_extract]; simp [List.extract]
      rw [this]
      simpa using (hA.drop off).take n
    · cases h
  · cases h

theorem pureB_sound {e c : Operand → V} (hr : ∀ z, VRel ρ (e z) (c z)) (ty : TypeId) {b : Builtin} {args : Array Operand} {ts : Array TypeId} {r : V}
    (h : pureB P e b args.toList ts.toList = some r) : ∃ r', VRel ρ r r' ∧ ∀ w k, (builtin b ts ty k (args.map c)).run P w = .ok (.value r') w := by
  obtain ⟨args⟩ := args
  obtain ⟨ts⟩ := ts
  simp only at h
  unfold pureB at h
  split at h
  · rename_i x t
    have h1 := hr x
    split at h
    · rename_i hu
      split at h
      · rename_i s hx; rw [hx] at h1; cases h
        exact ⟨_, .int _ _, fun w k => by simp [builtin, Builtin.len_, run_underlying hu, h1.string_inv, goInt]⟩
      · cases h
    · rename_i el hu
      split at h
      · rename_i a n cap hx; rw [hx] at h1; cases h
        refine ⟨_, .int _ _, fun w k => ?_⟩
        have : ∃ a' cap', c x = .slice a' n cap' := by
          generalize c x = q at h1
          cases h1 <;> exact ⟨_, _, rfl⟩
        obtain ⟨a', cap', hc⟩ := this
        simp [builtin, Builtin.len_, run_underlying hu, hc, goInt]
      · cases h
    · rename_i n el hu
      cases h
      exact ⟨_, .int _ _, fun w k => by simp [builtin, Builtin.len_, run_underlying hu, goInt]⟩
    · cases h
  · rename_i x t
    have h1 := hr x
    split at h
    · rename_i el hu
      unfold capV at h
      split at h
      · rename_i hx; rw [hx] at h1; cases h
        refine ⟨_, .int _ _, fun w k => ?_⟩
        have hc : c x = .slice none 0 0 := by
          generalize c x = q at h1
          cases h1; rfl
        simp [builtin, Builtin.cap_, run_underlying hu, hc, goInt]
      · cases h
    · cases h
  · rename_i x y
    unfold minV at h
    split at h
    · rename_i k p k' q hx hy
      have h1 := hr x; rw [hx] at h1
      have h2 := hr y; rw [hy] at h2
      cases h
      exact ⟨_, .int _ _, fun w kk => by simp [builtin, Builtin.min_, Builtin.min2, h1.int_inv, h2.int_inv]⟩
    · cases h
  · rename_i x y
    unfold maxV at h
    split at h
    · rename_i k p k' q hx hy
      have h1 := hr x; rw [hx] at h1
      have h2 := hr y; rw [hy] at h2
      cases h
      exact ⟨_, .int _ _, fun w kk => by simp [builtin, Builtin.max_, Builtin.max2, h1.int_inv, h2.int_inv]⟩
    · cases h
  · cases h

set_option maxHeartbeats 1000000 in
theorem pure_sound {e c : Operand → V} (hr : ∀ z, VRel ρ (e z) (c z)) (hcn : ∀ v, c (.const v) = v) (o : Oper) {r : V} (h : pureM P e o.op = some r) :
    ∃ r', VRel ρ r r' ∧ ∀ w, (execOp c o).run P w = .ok (.value r') w := by
  obtain ⟨dst, op, ty, pos, after, guard⟩ := o
  simp only at h
  unfold pureM at h
  split at h
  · cases h; exact ⟨_, hr _, fun w => by simp [execOp]⟩
  · cases h; exact ⟨_, hr _, fun w => by simp [execOp]⟩
  · obtain ⟨t, ht, hv⟩ := pick_sound (hr _) (hr _) (hr _) h
    exact ⟨_, hv, fun w => by simp [execOp, ht, asBool]⟩
  · -- build
    rename_i t parts
    split at h
    · rename_i fs z hu hz
      split at h
      · rename_i pl hpl
        split at h
        · rename_i l hl
          unfold AM.build at h
          split at h
          · rename_i hfa
            split at h
            · rename_i cs hcs
              cases h
              obtain ⟨D, hD, hrel⟩ := fill_sound _ (partsF_rel hr parts.toList l hl) _ z.cells cs (flat_cells hfa) hcs
              refine ⟨.agg D, .agg' (by simpa using hrel), fun w => ?_⟩
              have hm := array_mapM_run (P := P) (fun f : Field => (do pure (f.offset, ← sizeOf f.type) : Sem (Nat × Nat))) fs pl w (places_run fs.toList pl hpl w)
              simp only [execOp, Instr.build, Sem.run_bind, zeroV_run hz w, Result.andThen_ok, run_underlying hu, hm]
              have hD' : Instr.fill (fun x => pl.toArray[x]?) z.cells (parts.map fun p => (p.1, c p.2)).toList = some D := by simpa using hD
              simp only [hD']
              simp
            · cases h
          · cases h
        · cases h
      · cases h
    · rename_i k el z hu hz
      split at h
      · rename_i n hn
        unfold AM.build at h
        split at h
        · rename_i hfa
          split at h
          · rename_i cs hcs
            cases h
            obtain ⟨D, hD, hrel⟩ := fill_sound _ (placesE_rel (size := n) hr parts.toList) _ z.cells cs (flat_cells hfa) hcs
            refine ⟨.agg D, .agg' (by simpa using hrel), fun w => ?_⟩
            simp only [execOp, Instr.build, Sem.run_bind, zeroV_run hz w, Result.andThen_ok, run_underlying hu, sizeT_run hn w]
            have hD' : Instr.fill (fun i => some (i * n, n)) z.cells (parts.map fun p => (p.1, c p.2)).toList = some D := by simpa using hD
            simp only [hD']
            simp
          · cases h
        · cases h
      · cases h
    · cases h
  · -- nilCheck
    rename_i x
    have hx := hr x
    unfold nilck at h
    split at h
    · rename_i a q
      cases h
      rw [q] at hx
      refine ⟨c x, hx, fun w => ?_⟩
      simp only [execOp]
      generalize c x = y at hx
      cases hx; rfl
    · rename_i f a b q
      cases h
      rw [q] at hx
      refine ⟨c x, hx, fun w => ?_⟩
      simp only [execOp]
      generalize c x = y at hx
      cases hx; rfl
    · cases h
  · obtain ⟨h1, h2⟩ := eq_sound (neg := false) hr hcn h default
    exact ⟨r, h2, fun w => by
      have := (eq_sound (neg := false) hr hcn h w).1
      simp only [execOp]
      rw [Sem.run_bind]
      have e1 : (eqOp false) = BinOp.eql := rfl
      rw [e1] at this; rw [this]; rfl⟩
  · obtain ⟨h1, h2⟩ := eq_sound (neg := true) hr hcn h default
    exact ⟨r, h2, fun w => by
      have := (eq_sound (neg := true) hr hcn h w).1
      simp only [execOp]
      rw [Sem.run_bind]
      have e1 : (eqOp true) = BinOp.neq := rfl
      rw [e1] at this; rw [this]; rfl⟩
  · -- other binary operations
    rename_i op t x y yt hn1 hn2
    obtain ⟨e1, e2⟩ := bin_flat h (hr x) (hr y)
    refine ⟨r, bin_res h, fun w => ?_⟩
    have hg : (eqGuard op t x y (e x) (e y)).run P w = .ok () w := by cases op <;> first | rfl | exact absurd rfl hn1 | exact absurd rfl hn2
    simp only [execOp, Sem.run_bind, e1, e2, hg, Result.andThen_ok, bin_sound t h w, Sem.run_pure]
  · rename_i op t x
    refine ⟨r, (un_sound (P := P) h (hr x) (default : World)).2 , fun w => by simp [execOp, (un_sound (P := P) h (hr x) w).1]⟩
  · -- conversions
    rename_i src dst x
    split at h
    · rename_i k1 k2 hs hd
      obtain ⟨j, n, hc, rfl⟩ := cvi_sound h (hr x)
      exact ⟨_, .int _ _, fun w => by simp [execOp, convert, run_underlying hs, run_underlying hd, hc, Conv.intToInt]⟩
    · rename_i hs hd
      split at h
      · rename_i s hq
        cases h
        have := hr x; rw [hq] at this
        exact ⟨_, .string s, fun w => by simp [execOp, convert, run_underlying hs, run_underlying hd, this.string_inv]⟩
      · cases h
    · cases h
  · -- interfaces
    rename_i t x
    split at h
    · cases h
    · rename_i d hni hu
      cases h
      refine ⟨.iface t (c x), .iface t _ _ (hr x), fun w => ?_⟩
      simp only [execOp, Instr.makeInterface, Sem.run_bind, run_underlying hu, Result.andThen_ok]
      cases d <;> first | rfl | exact absurd rfl (hni _)
    · cases h
  · -- functions
    rename_i fn first captured
    cases h
    exact ⟨.func fn (first.map c) (captured.map c), .func _ _ _ _ _ (by simp) (by simp) (fun i h1 h2 => by simpa using hr _) (fun i h1 h2 => by simpa using hr _),
      fun w => by simp [execOp, Instr.makeFunc]⟩
  · -- slices
    rename_i t x lo hi
    split at h
    · rename_i hu
      refine ⟨r, (subS_sound (P := P) hu (hr x) (opt_rel hr lo) (opt_rel hr hi) h default).2, fun w => ?_⟩
      simp [execOp, (subS_sound (P := P) hu (hr x) (opt_rel hr lo) (opt_rel hr hi) h w).1]
    · rename_i el hu
      split at h
      · rename_i n hn
        obtain ⟨r', h1, h2⟩ := subV_sound hu hn (hr x) (opt_rel hr lo) (opt_rel hr hi) h
        exact ⟨r', h1, fun w => by simp [execOp, h2 w]⟩
      · cases h
    · rename_i k el hu
      split at h
      · rename_i n hn
        obtain ⟨r', h1, h2⟩ := subA_sound hu hn (hr x) (opt_rel hr lo) (opt_rel hr hi) h
        exact ⟨r', h1, fun w => by simp [execOp, h2 w]⟩
      · cases h
    · cases h
  · -- a field's address
    rename_i s x f
    split at h
    · rename_i fs hu
      split at h
      · rename_i fd hfd
        split at h
        · rename_i n hn
          unfold faddr at h
          split at h
          · rename_i b o hq
            cases h
            have := hr x; rw [hq] at this
            obtain ⟨L, hL, hc⟩ := this.ptr_inv
            refine ⟨_, .ptr b (o + fd.offset) L hL, fun w => ?_⟩
            simp only [execOp, Instr.fieldAt, Sem.run_bind, run_underlying hu, Result.andThen_ok, hfd, hc, Instr.sureAddr, Sem.run_pure, fieldPlace, sizeT_run hn w]
            simp [Addr.add]
            split <;> simp_all
          · cases h
        · cases h
      · cases h
    · cases h
  · -- a field
    rename_i t x f
    split at h
    · rename_i fs hu
      split at h
      · rename_i fd hfd
        split at h
        · rename_i hk
          obtain ⟨A, v, hA, hv, hrel⟩ := fld1_sound h (hr x)
          exact ⟨v, hrel, fun w => by simp [execOp, Instr.field, run_underlying hu, hfd, hA, asAgg, part_one hk hv w]⟩
        · rename_i n hk
          obtain ⟨A, hA, hrel⟩ := fldn_sound h (hr x)
          exact ⟨_, hrel, fun w => by simp [execOp, Instr.field, run_underlying hu, hfd, hA, asAgg, part_agg hk w]⟩
        · cases h
      · cases h
    · cases h
  · -- an element's address
    rename_i t x i
    split at h
    · rename_i el hu
      split at h
      · rename_i n hn
        unfold iaddrS at h
        split at h
        · rename_i b o u len cap k q hx hi
          split at h
          · rename_i hb
            cases h
            have h1 := hr x; rw [hx] at h1
            have h2 := hr i; rw [hi] at h2
            obtain ⟨L, co, ccap, ca, hL, hc, ho, hlen, hcap, _, hca, _⟩ := h1.slc_inv
            have hco : co = L.off + o := by rcases ho with ho | ho <;> omega
            obtain rfl : ca = ⟨L.blk, co, none⟩ := hca.resolve_right (by omega)
            subst hco
            refine ⟨_, .ptr b (o + q.toNat * n) L hL, fun w => ?_⟩
            simp only [execOp, Instr.indexAt, Sem.run_bind, run_underlying hu, Result.andThen_ok, hc, h2.int_inv, asIntOf, Sem.run_pure, sizeT_run hn w]
            simp only [hb, and_self, if_true, Sem.run_bind, sizeT_run hn w, Result.andThen_ok, Sem.run_pure]
            simp [Addr.add]
            split <;> simp_all [Nat.add_assoc]
          · cases h
        · cases h
      · cases h
    · rename_i k el hu
      split at h
      · rename_i n hn
        unfold iaddrA at h
        split at h
        · rename_i b o kk q hx hi
          split at h
          · rename_i hb
            cases h
            have h1 := hr x; rw [hx] at h1
            have h2 := hr i; rw [hi] at h2
            obtain ⟨L, hL, hc⟩ := h1.ptr_inv
            refine ⟨_, .ptr b (o + q.toNat * n) L hL, fun w => ?_⟩
            simp only [execOp, Instr.indexAt, Sem.run_bind, run_underlying hu, Result.andThen_ok, hc, h2.int_inv, asIntOf, Sem.run_pure, Instr.sureAddr]
            simp only [hb, and_self, if_true, Sem.run_bind, sizeT_run hn w, Result.andThen_ok, Sem.run_pure]
            simp [Addr.add]
            split <;> simp_all [Nat.add_assoc]
          · cases h
        · cases h
      · cases h
    · cases h
  · -- an element
    rename_i t x i
    split at h
    · rename_i hu
      unfold idxS at h
      split at h
      · rename_i s k q hx hi
        split at h
        · rename_i h0
          split at h
          · rename_i b hb
            cases h
            have h1 := hr x; rw [hx] at h1
            have h2 := hr i; rw [hi] at h2
            exact ⟨_, .int _ _, fun w => by simp [execOp, Instr.index, run_underlying hu, h1.string_inv, h2.int_inv, asIntOf, h0, hb]⟩
          · cases h
        · cases h
      · cases h
    · rename_i k el hu
      split at h
      · rename_i hk
        unfold idxA1 at h
        split at h
        · rename_i cs kk q hx hi
          split at h
          · rename_i hb
            have h2 := hr i; rw [hi] at h2
            obtain ⟨A, v, hA, hv, hrel⟩ := fld1_sound (off := q.toNat) (by unfold fld1; rw [hx]; exact h) (hr x)
            refine ⟨v, hrel, fun w => ?_⟩
            simp only [execOp, Instr.index, Sem.run_bind, run_underlying hu, Result.andThen_ok, h2.int_inv, asIntOf, Sem.run_pure, hA]
            simp only [hb, and_self, if_true, Sem.run_bind, (tk_one hk).2 w, Result.andThen_ok, Nat.mul_one, part_one hk hv w, Sem.run_pure]
          · cases h
        · cases h
      · rename_i n hk
        unfold idxAn at h
        split at h
        · rename_i kk q hi
          split at h
          · rename_i hb
            have h2 := hr i; rw [hi] at h2
            obtain ⟨A, hA, hrel⟩ := fldn_sound h (hr x)
            refine ⟨_, hrel, fun w => ?_⟩
            simp only [execOp, Instr.index, Sem.run_bind, run_underlying hu, Result.andThen_ok, h2.int_inv, asIntOf, Sem.run_pure, hA]
            simp only [hb, and_self, if_true, Sem.run_bind, (tk_agg hk).2 w, Result.andThen_ok, part_agg hk w, Sem.run_pure]
          · cases h
        · cases h
      · cases h
    · cases h
  · -- a part of a tuple
    rename_i t i
    unfold ext at h
    split at h
    · rename_i vs hx
      have h1 := hr t; rw [hx] at h1
      have h2 : ∃ x', c t = .tuple x' ∧ LRel ρ vs.toList x'.toList := by
        generalize c t = q at h1
        cases h1 with
        | undef v => simp at h
        | tuple _ x' h2 h3 => exact ⟨_, rfl, arel h2 h3⟩
      obtain ⟨x', hc, hl⟩ := h2
      obtain ⟨v, hv, hrel⟩ := hl.get i r h
      simp only [Array.getElem?_toList] at hv
      exact ⟨v, hrel, fun w => by simp [execOp, Instr.extract, hc, hv]⟩
    · cases h
  · -- builtins
    rename_i cl
    obtain ⟨callee, args, argTypes⟩ := cl
    simp only at h
    split at h
    · rename_i b
      obtain ⟨r', h1, h2⟩ := pureB_sound hr ty h
      refine ⟨r', h1, fun w => ?_⟩
      simp only [execOp, resolve, Sem.run_bind, Sem.run_pure, Result.andThen_ok, invoke]
      exact h2 w _
    · cases h
  · cases h

end Go.AM
