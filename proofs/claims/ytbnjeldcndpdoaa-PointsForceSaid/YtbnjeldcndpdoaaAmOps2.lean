import Derived.Test.YtbnjeldcndpdoaaAmOps1
set_option linter.all false
/- Operations that read and write no memory, together. -/
namespace Go.AM
open Go.RowKit (Below)

variable {P : Program} {ρ : Ren}

theorem splice_set {α : Type} [Inhabited α] (cs : List α) (o : Nat) (x : α) (l : List α) (h : o < cs.length) :
    (cs.set o x).take (o + 1) ++ (l ++ (cs.set o x).drop (o + 1 + l.length)) = cs.take o ++ (x :: l ++ cs.drop (o + (x :: l).length)) := by
  have h1 : (cs.set o x).take (o + 1) = cs.take o ++ [x] := by
    rw [List.take_add_one, List.take_set_of_le (Nat.le_refl _)]
    simp [h]
  have h2 : (cs.set o x).drop (o + 1 + l.length) = cs.drop (o + 1 + l.length) := List.drop_set_of_lt (by omega)
  rw [h1, h2]
  simp [Nat.add_assoc, Nat.add_comm 1]

theorem foldl_splice (off : Nat) : ∀ (l : List V) (k : Nat) (cells : Array V), off + k + l.length ≤ cells.size →
    ((l.zipIdx k).foldl (fun cs (p : V × Nat) => cs.setIfInBounds (off + p.2) p.1) cells).toList = splice cells.toList (off + k) l
  | [], k, cells, h => by simp [splice]
  | x :: l, k, cells, h => by
    have h' : off + k + (l.length + 1) ≤ cells.size := by simpa using h
    simp only [List.zipIdx_cons, List.foldl_cons]
    rw [foldl_splice off l (k + 1) _ (by simp; omega)]
    unfold splice
    have := splice_set cells.toList (off + k) x l (by simp; omega)
    rw [Array.toList_setIfInBounds, ← Nat.add_assoc]
    exact this

theorem foldl_splice' (off : Nat) (v : Array V) (cells : Array V) (h : off + v.size ≤ cells.size) :
    (v.zipIdx.foldl (fun cs (p : V × Nat) => cs.setIfInBounds (off + p.2) p.1) cells).toList = splice cells.toList off v.toList := by
  have := foldl_splice off v.toList 0 cells (by simpa using h)
  rw [← Array.foldl_toList, Array.toList_zipIdx]
  simpa using this

theorem LRel.splice {l l' m m' : List V} (h : LRel ρ l l') (g : LRel ρ m m') (o : Nat) : LRel ρ (splice l o m) (splice l' o m') := by
  unfold AM.splice
  rw [g.length]
  exact (h.take o).append (g.append (h.drop _))

theorem splice_length (l : List V) (o : Nat) (m : List V) (h : o + m.length ≤ l.length) : (splice l o m).length = l.length := by
  unfold splice; simp; omega

/-- the parts of a composite -/
inductive PRel (ρ : Ren) (place : Nat → Option (Nat × Nat)) : List (Nat × V) → List (Nat × Nat × V) → Prop where
  | nil : PRel ρ place [] []
  | cons {i : Nat} {v u : V} {off size : Nat} {ps : List (Nat × V)} {qs : List (Nat × Nat × V)} : place i = some (off, size) → VRel ρ u v → PRel ρ place ps qs →
      PRel ρ place ((i, v) :: ps) ((off, size, u) :: qs)

theorem fill_sound (place : Nat → Option (Nat × Nat)) : ∀ {ps : List (Nat × V)} {qs : List (Nat × Nat × V)}, PRel ρ place ps qs → ∀ (cs : List V) (C : Array V) (r : List V),
    LRel ρ cs C.toList → fillA cs qs = some r → ∃ D, Instr.fill place C ps = some D ∧ LRel ρ r D.toList := by
  intro ps qs hp
  induction hp with
  | nil => intro cs C r hc h; simp only [fillA] at h; cases h; exact ⟨C, rfl, hc⟩
  | @cons i v u off size ps qs hpl hv _ ih =>
    intro cs C r hc h
    simp only [fillA] at h
    split at h
    · rename_i hcond
      simp only [Bool.and_eq_true, beq_iff_eq, decide_eq_true_eq] at hcond
      obtain ⟨⟨h1, h2⟩, h3⟩ := hcond
      have hcells := hv.cells h1
      have hl := hcells.length
      have hC := hc.length
      simp only [Array.length_toList] at hl hC
      simp only [Instr.fill, hpl]
      have hz : (decide (v.cells.size ≠ size) || decide (off + v.cells.size > C.size)) = false := by
        simp only [Bool.or_eq_false_iff, decide_eq_false_iff_not, ne_eq, Decidable.not_not]
        omega
      rw [if_neg (by rw [hz]; simp)]
      refine ih (splice cs off u.cells.toList) _ r ?_ h
      rw [foldl_splice' off v.cells C (by omega)]
      exact hc.splice hcells off
    · cases h

theorem places_run : ∀ (fs : List Field) (pl : List (Nat × Nat)), placesAll P fs = some pl → ∀ (w : World),
    (List.mapM (m := Sem) (fun f : Field => do pure (f.offset, ← sizeOf f.type)) fs).run P w = .ok pl w
  | [], pl, h, w => by simp only [placesAll] at h; cases h; simp
  | f :: fs, pl, h, w => by
    simp only [placesAll] at h
    split at h
    · rename_i n l hn hl
      cases h
      unfold sizeT at hn
      split at hn
      · rename_i i hi
        cases hn
        have ih := places_run fs l hl w
        simp only [List.mapM_cons, Sem.run_bind, sizeOf, typeInfo, run_program, Result.andThen_ok, hi, Sem.run_pure]
        have ih' : (List.mapM (m := Sem) (fun f : Field => do let x ← typeInfo f.type; pure (f.offset, x.size)) fs).run P w = .ok l w := by
          simpa [sizeOf] using ih
        simp only [sizeOf] at ih
        first
          | rw [ih]; simp
          | (simp [typeInfo] at ih ⊢; rw [ih]; simp)
      · cases hn
    · cases h

theorem bound_run {x x' : Option V} {d most n : Nat} (h : bound d most x = some n) (hx : (x = none ∧ x' = none) ∨ ∃ v v', x = some v ∧ x' = some v' ∧ VRel ρ v v') :
    (x' = none ∧ n = d) ∨ ∃ (k : IntKind) (i : Int), x' = some (.int k i) ∧ 0 ≤ i ∧ i ≤ most ∧ n = i.toNat := by
  unfold bound at h
  rcases hx with ⟨rfl, rfl⟩ | ⟨v, v', rfl, rfl, hv⟩
  · cases h; exact .inl ⟨rfl, rfl⟩
  · split at h
    · rename_i q; cases q
    · rename_i q; cases q
      split at h
      · rename_i hi; cases h; exact .inr ⟨_, _, by rw [hv.int_inv], hi.1, hi.2, rfl⟩
      · cases h
    · cases h

theorem sliceBound_ok {k : IntKind} {i : Int} {y : Nat} (code : BoundsCode) (w : World) (h0 : 0 ≤ i) (h1 : i ≤ y) : (Instr.sliceBound (.int k i) y code).run P w = .ok i.toNat w := by
  simp [Instr.sliceBound, asIntOf, h0, h1]

/-- the bounds of a slice expression: the model's room may be more than the abstract machine's -/
theorem bounds_run {isSlice : Bool} {lo hi lo' hi' : Option V} {len cap ccap l h : Nat} (w : World) (hh : bound len cap hi = some h) (hl : bound 0 h lo = some l) (hc : cap ≤ ccap)
    (hlo : (lo = none ∧ lo' = none) ∨ ∃ v v', lo = some v ∧ lo' = some v' ∧ VRel ρ v v') (hhi : (hi = none ∧ hi' = none) ∨ ∃ v v', hi = some v ∧ hi' = some v' ∧ VRel ρ v v') :
    (Instr.sliceBounds isSlice len ccap lo' hi' none).run P w = .ok (l, h, ccap) w := by
  rcases bound_run hh hhi with ⟨rfl, rfl⟩ | ⟨k, i, rfl, a1, a2, rfl⟩ <;> rcases bound_run hl hlo with ⟨rfl, rfl⟩ | ⟨k', j, rfl, b1, b2, rfl⟩
  · simp [Instr.sliceBounds]
  · simp [Instr.sliceBounds, sliceBound_ok _ w b1 b2]
  · simp [Instr.sliceBounds, sliceBound_ok _ w a1 (show i ≤ (ccap : Int) by omega)]
  · simp [Instr.sliceBounds, sliceBound_ok _ w a1 (show i ≤ (ccap : Int) by omega), sliceBound_ok _ w b1 b2]

theorem bound_le {d most n : Nat} {x : Option V} (h : bound d most x = some n) (hd : d ≤ most) : n ≤ most := by
  unfold bound at h
  split at h
  · cases h; exact hd
  · split at h
    · cases h; omega
    · cases h
  · cases h

theorem cutAt_rel {b o u l h m size cm : Nat} {L : Loc} {co : Nat} (hL : ρ b = some L) (ho : co = L.off + o ∨ m = 0) (hu : u = size ∨ u = 0) (hlh : l ≤ h) (hhm : h ≤ m) (hm : m ≤ cm)
    (hs : u = 0 ∨ co + cm * u ≤ L.size) :
    VRel ρ (cutAt b o u l h m size) (.slice (if cm = l then some ⟨L.blk, co, none⟩ else (some ⟨L.blk, co, none⟩ : Option Addr).map (·.add (l * size))) (h - l) (cm - l)) := by
  have hadd : (⟨L.blk, co, none⟩ : Addr).add (l * size) = ⟨L.blk, co + l * size, none⟩ := by
    unfold Addr.add; split
    · simp_all
    · rfl
  have hmul : l ≤ cm → l * size + (cm - l) * size = cm * size := fun h => by rw [← Nat.add_mul]; congr 1; omega
  unfold cutAt
  split
  · rename_i e; subst e
    have : h - m = 0 := by omega
    rw [this]
    split
    · rename_i q
      refine .slc b o u 0 (m - m) L co _ _ hL (.inr (by omega)) (by omega) (by omega) ?_ (.inl rfl)
      rcases hs with hs | hs
      · exact .inl hs
      · right; rw [q]; simp; omega
    · simp only [Option.map_some, hadd]
      refine .slc b o u 0 (m - m) L _ _ _ hL (.inr (by omega)) (by omega) (by omega) ?_ (.inl rfl)
      rcases hs with hs | hs
      · exact .inl hs
      · rcases hu with hu | hu
        · subst hu; right; have := hmul hm; omega
        · exact .inl hu
  · rename_i e
    have hlt : l < m := by omega
    rw [if_neg (by omega)]
    simp only [Option.map_some, hadd]
    refine .slc b _ u _ (m - l) L _ _ _ hL (.inl (by rcases ho with ho | ho <;> omega)) (by omega) (by omega) ?_ (.inl rfl)
    rcases hs with hs | hs
    · exact .inl hs
    · rcases hu with hu | hu
      · subst hu; right; have := hmul (by omega); omega
      · exact .inl hu

theorem opt_rel {e c : Operand → V} (hr : ∀ z, VRel ρ (e z) (c z)) (x : Option Operand) :
    (optO e x = none ∧ x.map c = none) ∨ ∃ v v', optO e x = some v ∧ x.map c = some v' ∧ VRel ρ v v' := by
  cases x with
  | none => exact .inl ⟨rfl, rfl⟩
  | some x => exact .inr ⟨_, _, rfl, rfl, hr x⟩

theorem subS_sound {a a' r : V} {lo hi lo' hi' : Option V} {t : TypeId} (ht : P.underlying t = some .string) (ha : VRel ρ a a')
    (hlo : (lo = none ∧ lo' = none) ∨ ∃ v v', lo = some v ∧ lo' = some v' ∧ VRel ρ v v') (hhi : (hi = none ∧ hi' = none) ∨ ∃ v v', hi = some v ∧ hi' = some v' ∧ VRel ρ v v')
    (h : subS a lo hi = some r) (w : World) : (Instr.sliceAt t a' lo' hi' none).run P w = .ok r w ∧ VRel ρ r r := by
  unfold subS at h
  split at h
  · split at h
    · rename_i hh
      split at h
      · rename_i hl
        cases h
        rw [ha.string_inv]
        refine ⟨?_, .string _⟩
        simp [Instr.sliceAt, Instr.slice, run_underlying ht, bounds_run (P := P) (isSlice := false) w hh hl (Nat.le_refl _) hlo hhi]
      · cases h
    · cases h
  · cases h

theorem subV_sound {a a' r : V} {lo hi lo' hi' : Option V} {t el : TypeId} {size : Nat} (ht : P.underlying t = some (.slice el)) (hsz : sizeT P el = some size) (ha : VRel ρ a a')
    (hlo : (lo = none ∧ lo' = none) ∨ ∃ v v', lo = some v ∧ lo' = some v' ∧ VRel ρ v v') (hhi : (hi = none ∧ hi' = none) ∨ ∃ v v', hi = some v ∧ hi' = some v' ∧ VRel ρ v v')
    (h : subV size a lo hi = some r) : ∃ r', VRel ρ r r' ∧ ∀ w, (Instr.sliceAt t a' lo' hi' none).run P w = .ok r' w := by
  have hs : ∀ w, (sizeOf el).run P w = .ok size w := by
    intro w; unfold sizeT at hsz; split at hsz
    · rename_i i hi; cases hsz; simp [sizeOf, typeInfo, hi]
    · cases hsz
  unfold subV at h
  split at h
  · rename_i x len cap
    split at h
    · rename_i hb hh
      split at h
      · rename_i l hl
        split at h
        · cases h
          cases ha
          have hhb : hb ≤ 0 := bound_le hh (Nat.le_refl _)
          have hlb : l ≤ hb := bound_le hl (Nat.zero_le _)
          have e1 : hb - l = 0 := by omega
          have e2 : 0 - l = 0 := by omega
          refine ⟨.slice none 0 0, by rw [e1, e2]; exact .snil, fun w => ?_⟩
          simp [Instr.sliceAt, Instr.slice, run_underlying ht, bounds_run (P := P) (isSlice := true) w hh hl (Nat.le_refl _) hlo hhi, hs, e1]
        · split at h
          · rename_i hu
            cases h
            obtain ⟨L, co, ccap, ca, hL, rfl, ho, hlen, hcap, hs2, hca⟩ := ha.slc_inv
            have hhb : hb ≤ cap := bound_le hh hlen
            have hlb : l ≤ hb := bound_le hl (Nat.zero_le _)
            rcases hca with rfl | h0
            rotate_left
            · subst h0
              obtain rfl : cap = 0 := by omega
              obtain rfl : hb = 0 := by omega
              obtain rfl : l = 0 := by omega
              refine ⟨.slice (some ca) 0 0, ?_, fun w => ?_⟩
              · unfold cutAt; rw [if_pos rfl]
                exact .slc _ _ _ 0 0 L co 0 ca hL (.inr rfl) (Nat.le_refl _) (Nat.le_refl _) (hs2.imp id fun q => by omega) (.inr rfl)
              · simp [Instr.sliceAt, Instr.slice, run_underlying ht, bounds_run (P := P) (isSlice := true) w hh hl hcap hlo hhi, hs]
            refine ⟨_, cutAt_rel hL ho hu hlb hhb hcap hs2, fun w => ?_⟩
            simp [Instr.sliceAt, Instr.slice, run_underlying ht, bounds_run (P := P) (isSlice := true) w hh hl hcap hlo hhi, hs]
          · cases h
        · cases h
      · cases h
    · cases h
  · cases h

theorem subA_sound {a a' r : V} {lo hi lo' hi' : Option V} {t el : TypeId} {n size : Nat} (ht : P.underlying t = some (.array n el)) (hsz : sizeT P el = some size) (ha : VRel ρ a a')
    (hlo : (lo = none ∧ lo' = none) ∨ ∃ v v', lo = some v ∧ lo' = some v' ∧ VRel ρ v v') (hhi : (hi = none ∧ hi' = none) ∨ ∃ v v', hi = some v ∧ hi' = some v' ∧ VRel ρ v v')
    (h : subA n size a lo hi = some r) : ∃ r', VRel ρ r r' ∧ ∀ w, (Instr.sliceAt t a' lo' hi' none).run P w = .ok r' w := by
  have hs : ∀ w, (sizeOf el).run P w = .ok size w := by
    intro w; unfold sizeT at hsz; split at hsz
    · rename_i i hi; cases hsz; simp [sizeOf, typeInfo, hi]
    · cases hsz
  unfold subA at h
  split at h
  · split at h
    · rename_i hb hh
      split at h
      · rename_i l hl
        cases h
        obtain ⟨L, hL, rfl⟩ := ha.ptr_inv
        have hhb : hb ≤ n := bound_le hh (Nat.le_refl _)
        have hlb : l ≤ hb := bound_le hl (Nat.zero_le _)
        refine ⟨_, cutAt_rel (size := size) (cm := n) hL (.inl rfl) (.inr rfl) hlb hhb (Nat.le_refl _) (.inl rfl), fun w => ?_⟩
        simp [Instr.sliceAt, Instr.sureAddr, run_underlying ht, bounds_run (P := P) (isSlice := false) w hh hl (Nat.le_refl _) hlo hhi, hs]
        split <;> rfl
      · cases h
    · cases h
  · cases h

end Go.AM
