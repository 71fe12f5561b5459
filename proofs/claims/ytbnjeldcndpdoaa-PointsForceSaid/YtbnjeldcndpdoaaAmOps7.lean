import Derived.Test.YtbnjeldcndpdoaaAmOps6
import Derived.Laws.Append
set_option linter.all false
/- append and copy; maps that are written. -/
namespace Go.AM
open Go.RowKit (Below)

variable {P : Program} {N : Nat} {w₀ : World} {ρ : Ren} {H : Heap} {w : World}

/-- a real block of the call's own that no abstract block has any more is taken for a new one -/
theorem reuse (h : Rel N w₀ ρ H w) (y : Blk) (L : Loc) (hN : N ≤ L.blk) (hfree : ∀ b x M, H.get b = some x → ρ b = some M → M.blk ≠ L.blk) (w' : World)
    (hos : w'.os = w.os) (htape : w'.tape = w.tape) (hout : w'.output = w.output) (hsz : w'.heap.size = w.heap.size) (hold : ∀ k, k ≠ L.blk → w'.heap[k]? = w.heap[k]?)
    (hy : BRel N (ρ.add H.next L) w' L y) : Rel N w₀ (ρ.add H.next L) (H.push (some y)) w' := by
  have hno : ρ H.next = none := h.dom _ (Nat.le_refl _)
  have hle := Ren.le_add L hno
  refine ⟨h.below.trans ⟨hos, htape, hout, by omega, fun k hk => hold k (by omega)⟩, by rw [hsz]; exact h.big, fun b hb => ?_, fun b hb => by obtain ⟨s, hs⟩ := h.base b hb; exact ⟨s, hle _ _ hs⟩, fun b x hb => ?_, fun b b' x x' K K' hb hb' hne hK hK' => ?_⟩
  · rw [Heap.next_push] at hb
    unfold Ren.add; rw [if_neg (by omega)]
    exact h.dom b (by omega)
  · rw [Heap.get_push] at hb
    split at hb
    · rename_i e; cases hb; subst e; exact ⟨L, by simp [Ren.add], hy⟩
    · obtain ⟨K, hK, hr⟩ := h.blk b x hb
      exact ⟨K, hle _ _ hK, hr.mono hle (hold _ (hfree b x K hb hK))⟩
  · rw [Heap.get_push] at hb hb'
    unfold Ren.add at hK hK'
    by_cases e : b = H.next
    · have e' : b' ≠ H.next := fun q => hne (e.trans q.symm)
      rw [if_pos e] at hK; rw [if_neg e'] at hb' hK'
      cases hK
      exact fun q => hfree b' x' K' hb' hK' q.symm
    · by_cases e' : b' = H.next
      · rw [if_neg e] at hb hK; rw [if_pos e'] at hK'
        cases hK'
        exact hfree b x K hb hK
      · rw [if_neg e] at hb hK; rw [if_neg e'] at hb' hK'
        exact h.inj b b' x x' K K' hb hb' hne hK hK'

/-- how the model's append answers for what is appended -/
structure Src (P : Program) (w : World) (ρ : Ren) (t u ty e : TypeId) (size bytes m : Nat) (z : V) (new : List V) (x' : V) : Prop where
  ex : ∃ new', LRel ρ new new' ∧
    (∀ (base : Option Addr) (len ccap : Nat) (w' : World), len + m ≤ ccap → (match base with | some a => (storeCells (a.add (len * size)) new').run P w = .ok () w' | none => w' = w) →
      (Builtin.append_ #[t, u] ty #[.slice base len ccap, x']).run P w = .ok (.slice base (len + m) ccap) w') ∧
    (∀ (base : Option Addr) (len ccap : Nat) (old' : List V), (∀ q, (Builtin.firstCells size len (.slice base len ccap)).run P { w with drawn := q } = .ok old'.toArray { w with drawn := q }) → ¬ len + m ≤ ccap → (len + m) * bytes ≤ 140737488355328 → len + m ≤ 35184372088832 →
      ∃ cap q, len + m ≤ cap ∧ (Builtin.append_ #[t, u] ty #[.slice base len ccap, x']).run P w =
        .ok (.slice (some ⟨w.heap.size, 0, none⟩) (len + m) cap) (({ w with drawn := q } : World).alloc (.cells (old'.toArray ++ (new'.toArray ++ Builtin.zeroCells z.cells (cap - (len + m)))) e)))

theorem take_append_splice (C old new : List V) (off : Nat) (hold : (C.drop off).take old.length = old) (h : off + old.length + new.length ≤ C.length) :
    ((splice C (off + old.length) new).drop off).take (old ++ new).length = old ++ new := by
  have h1 := splice_drop_take C new off old.length (old.length + new.length) (by omega) (by omega)
  rw [List.length_append, h1]
  apply List.ext_getElem?
  intro j
  rw [get_splice _ _ _ _ (by simp; omega), List.getElem?_append]
  simp only [List.getElem?_take, List.getElem?_drop]
  by_cases hj : j < old.length
  · rw [if_pos hj, if_pos hj, if_pos (by omega)]
    have := congrArg (·[j]?) hold
    simpa [List.getElem?_take, hj, List.getElem?_drop] using this
  · rw [if_neg hj, if_neg hj]
    by_cases h2 : j < old.length + new.length
    · rw [if_pos h2]
    · rw [if_neg h2, if_neg h2, List.getElem?_eq_none (by omega)]

theorem zeroCells_size (z : Array V) (n : Nat) : (Builtin.zeroCells z n).size = n * z.size := by simp [Builtin.zeroCells]

/-- slices and strings alone are appended -/
def AppT (P : Program) (u : TypeId) : Prop := (∃ q, P.underlying u = some (.slice q)) ∨ P.underlying u = some .string

theorem append_fits {t u ty e : TypeId} {size n len ccap : Nat} {x' : V} {base : Option Addr} {new' : List V} {w' : World} (hu : P.underlying t = some (.slice e)) (hd : AppT P u) (hsz : (sizeOf e).run P w = .ok size w)
    (hlen : (Builtin.lenOf x').run P w = .ok n w) (hfw : (Builtin.firstCells size n x').run P w = .ok new'.toArray w) (hfit : len + n ≤ ccap)
    (hst : match base with | some a => (storeCells (a.add (len * size)) new').run P w = .ok () w' | none => w' = w) :
    (Builtin.append_ #[t, u] ty #[.slice base len ccap, x']).run P w = .ok (.slice base (len + n) ccap) w' := by
  rcases hd with ⟨q, hd⟩ | hd <;> cases base with
  | none => simp only at hst; subst hst; simp [Builtin.append_, run_underlying hu, run_underlying hd, hsz, hlen, hfw, hfit]
  | some a => simp only at hst; simp [Builtin.append_, run_underlying hu, run_underlying hd, hsz, hlen, hfw, hfit, hst]

theorem append_grows {t u ty e : TypeId} {size bytes n len ccap : Nat} {z x' : V} {base : Option Addr} {old' new' : List V} (hu : P.underlying t = some (.slice e)) (hd : AppT P u) (hsz : sizeT P e = some size) (hb : bytesT P e = some bytes) (hz : zeroV P e = some z) (hb0 : 0 < bytes)
    (hlen : (Builtin.lenOf x').run P w = .ok n w) (hfo : ∀ q, (Builtin.firstCells size len (.slice base len ccap)).run P { w with drawn := q } = .ok old'.toArray { w with drawn := q })
    (hfn : ∀ q, (Builtin.firstCells size n x').run P { w with drawn := q } = .ok new'.toArray { w with drawn := q }) (hno : ¬ len + n ≤ ccap) (hbig : (len + n) * bytes ≤ 140737488355328) :
    ∃ cap q, len + n ≤ cap ∧ (Builtin.append_ #[t, u] ty #[.slice base len ccap, x']).run P w =
      .ok (.slice (some ⟨w.heap.size, 0, none⟩) (len + n) cap) (({ w with drawn := q } : World).alloc (.cells (old'.toArray ++ (new'.toArray ++ Builtin.zeroCells z.cells (cap - (len + n)))) e)) := by
  obtain ⟨i, hi, hib⟩ := bytesT_run hb w
  have hi2 : ∀ q, (typeInfo e).run P { w with drawn := q } = .ok i { w with drawn := q } := by
    intro q
    obtain ⟨j, hj, _⟩ := bytesT_run hb ({ w with drawn := q } : World)
    have : i = j := by
      simp only [typeInfo, Sem.run_bind, run_program, Result.andThen_ok] at hi hj
      cases hq : P.info? e with
      | none => simp [hq] at hi
      | some x => simp [hq] at hi hj; rw [← hi, ← hj]
    rw [this]; exact hj
  have hgf : ¬ (Builtin.nextslicecap (len + n) ccap * bytes > 281474976710656) := by have := growslice_fits (bytes := bytes) (show ccap < len + n by omega) hbig; omega
  refine ⟨(Question.appendCap (len + n) ccap e).cut (w.tape w.drawn (.appendCap (len + n) ccap e)), w.drawn + 1, Nat.le_add_right _ _, ?_⟩
  have hbn : ¬ (i.bytes = 0) := by omega
  have hgf' : ¬ (281474976710656 < Builtin.nextslicecap (len + n) ccap * i.bytes) := by rw [hib]; omega
  have k1 : (typeInfo e).run P w.drew = .ok i w.drew := hi2 (w.drawn + 1)
  have k2 : (Builtin.firstCells size len (.slice base len ccap)).run P w.drew = .ok old'.toArray w.drew := hfo (w.drawn + 1)
  have k3 : (Builtin.firstCells size n x').run P w.drew = .ok new'.toArray w.drew := hfn (w.drawn + 1)
  have k4 : (zeroValue e).run P w.drew = .ok z w.drew := zeroV_run hz _
  have k5 : (Question.appendCap (len + n) ccap e).forced = false := rfl
  rcases hd with ⟨qq, hd⟩ | hd <;>
    simp [Builtin.append_, run_underlying hu, run_underlying hd, sizeT_run hsz w, hlen, hno, hi, hbn, hgf', k1, k2, k3, k4, k5, newRow]

theorem src_of {t u ty e : TypeId} {size bytes n : Nat} {z x' : V} {new new' : List V} (hu : P.underlying t = some (.slice e)) (hd : AppT P u) (hsz : sizeT P e = some size) (hb : bytesT P e = some bytes) (hz : zeroV P e = some z) (hb0 : 0 < bytes)
    (hlen : (Builtin.lenOf x').run P w = .ok n w) (hfn : ∀ q, (Builtin.firstCells size n x').run P { w with drawn := q } = .ok new'.toArray { w with drawn := q }) (hr : LRel ρ new new') : Src P w ρ t u ty e size bytes n z new x' :=
  ⟨new', hr, fun base len ccap w' h1 h2 => append_fits hu hd (sizeT_run hsz w) hlen (hfn w.drawn) h1 h2,
    fun base len ccap old' h1 h2 h3 _ => append_grows hu hd hsz hb hz hb0 hlen h1 hfn h2 h3⟩

theorem wrap_i64 {n : Nat} (h : n ≤ 35184372088832) : IntKind.i64.wrap (n : Int) = n := by
  rw [IntKind.wrap_i64]; omega

/-- append(s, make([]T, n)...) -/
theorem src_zero {t u ty e : TypeId} {k k2 : IntKind} {size bytes n : Nat} {z : V} {new' : List V} (hu : P.underlying t = some (.slice e)) (hd : P.underlying u = some (.int k)) (hsz : sizeT P e = some size) (hb : bytesT P e = some bytes) (hz : zeroV P e = some z) (hb0 : 0 < bytes) (h0 : 0 < size)
    (hn : n * bytes ≤ 35184372088832) (hn2 : n ≤ 35184372088832) (hnew : new'.toArray = Builtin.zeroCells z.cells n) {new : List V} (hr : LRel ρ new new') : Src P w ρ t u ty e size bytes n z new (.int k2 n) := by
  obtain ⟨i, hi, hib⟩ := bytesT_run hb w
  have hw := wrap_i64 hn2
  have hl : ¬ ((n : Int) < 0) := by omega
  have hmul : (n : Int) * (i.bytes : Int) = ((n * bytes : Nat) : Int) := by rw [hib]; exact (Int.natCast_mul n bytes).symm
  have hm : ¬ (281474976710656 < (n : Int) * (i.bytes : Int)) := by rw [hmul]; omega
  have hzr : ∀ v : World, (zeroValue e).run P v = .ok z v := fun v => zeroV_run hz v
  have hnil : n * size = 0 → new' = [] ∧ Builtin.zeroCells z.cells n = #[] := fun h1 => by
    have : n = 0 := by rcases Nat.mul_eq_zero.mp h1 with h | h <;> omega
    subst this
    have e1 : Builtin.zeroCells z.cells 0 = #[] := by simp [Builtin.zeroCells]
    refine ⟨?_, e1⟩
    rw [e1] at hnew
    simpa using congrArg Array.toList hnew
  have htl : (Builtin.zeroCells z.cells n).toList = new' := by rw [← hnew]
  refine ⟨new', hr, fun base len ccap w' h1 h2 => ?_, fun base len ccap old' h1 h2 h3 h4 => ?_⟩
  · cases base with
    | none =>
      simp only at h2; rw [h2]
      simp [Builtin.append_, run_underlying hu, run_underlying hd, sizeT_run hsz w, asInt, asIntOf, hw, hl, hi, hm, h1, hzr]
    | some a =>
      simp only at h2
      by_cases hn0 : n * size = 0
      · rw [(hnil hn0).1] at h2
        simp [Builtin.append_, run_underlying hu, run_underlying hd, sizeT_run hsz w, asInt, asIntOf, hw, hl, hi, hm, h1, hn0, h2]
      · simp [Builtin.append_, run_underlying hu, run_underlying hd, sizeT_run hsz w, asInt, asIntOf, hw, hl, hi, hm, h1, hzr, hn0, htl, h2]
  · have hi2 : ∀ q, (typeInfo e).run P { w with drawn := q } = .ok i { w with drawn := q } := by
      intro q
      obtain ⟨j, hj, _⟩ := bytesT_run hb ({ w with drawn := q } : World)
      have : i = j := by
        simp only [typeInfo, Sem.run_bind, run_program, Result.andThen_ok] at hi hj
        cases hq : P.info? e with
        | none => simp [hq] at hi
        | some x => simp [hq] at hi hj; rw [← hi, ← hj]
      rw [this]; exact hj
    have hgf : ¬ (Builtin.nextslicecap (len + n) ccap * bytes > 281474976710656) := by have := growslice_fits (bytes := bytes) (show ccap < len + n by omega) h3; omega
    refine ⟨(Question.appendCap (len + n) ccap e).cut (w.tape w.drawn (.appendCap (len + n) ccap e)), w.drawn + 1, Nat.le_add_right _ _, ?_⟩
    have hgf' : ¬ (281474976710656 < Builtin.nextslicecap (len + n) ccap * i.bytes) := by rw [hib]; omega
    have hbig : ¬ ((9223372036854775807 : Int) < (len : Int) + n) := by omega
    have k1 : (typeInfo e).run P w.drew = .ok i w.drew := hi2 (w.drawn + 1)
    have k2 : (Builtin.firstCells size len (.slice base len ccap)).run P w.drew = .ok old'.toArray w.drew := h1 (w.drawn + 1)
    have k5 : (Question.appendCap (len + n) ccap e).forced = false := rfl
    by_cases hn0 : n * size = 0
    · rw [(hnil hn0).1]
      simp [Builtin.append_, run_underlying hu, run_underlying hd, sizeT_run hsz w, asInt, asIntOf, hw, hl, hi, hm, h2, hgf', hbig, k1, k2, k5, hn0, hzr, newRow, IntKind.max, IntKind.signed, IntKind.bits]
    · simp [Builtin.append_, run_underlying hu, run_underlying hd, sizeT_run hsz w, asInt, asIntOf, hw, hl, hi, hm, h2, hgf', hbig, k1, k2, k5, hn0, hzr, hnew, newRow, IntKind.max, IntKind.signed, IntKind.bits]

set_option maxHeartbeats 1000000 in
theorem appTo_sound (h : Rel N w₀ ρ H w) {t u ty e : TypeId} {size bytes n : Nat} {z s s' x' r : V} {new : List V} {H' : Heap} (hu : P.underlying t = some (.slice e))
    (hsz : sizeT P e = some size) (hb : bytesT P e = some bytes) (hz : zeroV P e = some z) (hzs : z.cells.size = size) (h0 : 0 < size) (hb0 : 0 < bytes) (hs : VRel ρ s s')
    (hsrc : Src P w ρ t u ty e size bytes n z new x') (hnl : new.length = n * size) (hm : appTo size bytes s n (some new) H = some (r, H')) :
    ∃ r' w', (Builtin.append_ #[t, u] ty #[s', x']).run P w = .ok r' w' ∧ Goes N w₀ ρ H w r H' r' w' := by
  obtain ⟨new', hnew, hfits, hgrows⟩ := hsrc.ex
  have hnl' : new'.length = n * size := by rw [← hnew.length, hnl]
  unfold appTo at hm
  split at hm
  · rename_i x len cap
    split at hm
    · -- nothing is appended
      rename_i hn0
      cases hm
      subst hn0
      refine ⟨s', w, ?_, ρ, hs, h, .refl _ _ _⟩
      have hne : new' = [] := List.eq_nil_of_length_eq_zero (by simpa using hnl')
      generalize s' = s2 at hs
      cases hs with
      | snil => exact hfits _ _ _ _ (Nat.le_refl _) rfl
      | slc b o u2 len cap L co ccap ca hL ho hl hc hss hca => exact hfits _ _ _ _ (by omega) (by rw [hne]; rfl)
    · rename_i hn0
      split at hm
      · rename_i new2 old K hnew2 hold hK
        cases hnew2
        split at hm
        · rename_i hcond
          obtain ⟨hc1, hc2, hc3, hc4⟩ := hcond
          cases hm
          have hnew1 := lrel_isOne hnew hc3
          -- what stands ahead, and the block that is given up
          have hmain : ∃ base ccap old', s' = .slice base len ccap ∧ LRel ρ old old' ∧ old'.length = len * size ∧ (∀ n, (Builtin.firstCells size len s').run P { w with drawn := n } = .ok old'.toArray { w with drawn := n }) ∧ Rel N w₀ ρ K w ∧ K.next = H.next ∧ Ext ρ H w ρ K w ∧
              (len + n ≤ ccap → ∃ cb co C el f, base = some ⟨cb, co, none⟩ ∧ w.heap[cb]? = some (.cells C el f) ∧ co + (len + n) * size ≤ C.size ∧ N ≤ cb ∧ (∀ i, i < C.size → ¬ (f.1 ≤ i ∧ i < f.2)) ∧ (C.toList.drop co).take old'.length = old' ∧
                (∀ b x M, K.get b = some x → ρ b = some M → M.blk ≠ cb) ∧ (∃ b x M, H.get b = some x ∧ ρ b = some M ∧ M.blk = cb)) := by
            generalize hs2 : s' = s2 at hs
            cases hs with
            | snil =>
              simp only [cellsOfSlice] at hold; cases hold
              simp only [giveUp] at hK; cases hK
              refine ⟨none, 0, [], rfl, .nil, by simp, fun q => by simp [Builtin.firstCells], h, rfl, .refl _ _ _, fun q => by omega⟩
            | slc b o u2 len cap L co ccap ca hL ho hl hc hss hca =>
              simp only [giveUp] at hK
              split at hK
              · rename_i cs hb2
                split at hK
                · rename_i hu2
                  cases hK
                  subst hu2
                  obtain ⟨C, el, f, c1, c2, c3, c4, c5⟩ := h.cells hb2 hL
                  have hold' : ∃ old', LRel ρ old old' ∧ old'.length = len * u2 ∧ (∀ j v, old'[j]? = some v → w.cell? ⟨L.blk, co + j, none⟩ = some v) ∧ (co + len * u2 ≤ C.size → (C.toList.drop co).take old'.length = old') := by
                    simp only [cellsOfSlice] at hold
                    split at hold
                    · rename_i hl0; cases hold; exact ⟨[], .nil, by simp [hl0], by simp, by simp⟩
                    · rename_i hl0
                      have hco : co = L.off + o := by rcases ho with ho | ho <;> omega
                      subst hco
                      obtain ⟨q1, old', q2, q3⟩ := h.cellsAt hold hL
                      have q4 : old'.length = len * u2 := by rw [← q2.length]; exact q1
                      refine ⟨old', q2, q4, q3, fun hle => ?_⟩
                      apply List.ext_getElem?
                      intro j
                      by_cases hj : j < old'.length
                      · have := q3 j old'[j] (by simp [hj])
                        rw [cell_of c1] at this
                        simp only [List.getElem?_take, hj, if_true, List.getElem?_drop, List.getElem?_eq_getElem hj]
                        simpa using this
                      · simp [List.getElem?_take, hj, List.getElem?_eq_none (Nat.le_of_not_lt hj)]
                  obtain ⟨old', o1, o2, o3, o4⟩ := hold'
                  rcases hca with rfl | hz0
                  rotate_left
                  · obtain rfl : len = 0 := by omega
                    have : old' = [] := List.eq_nil_of_length_eq_zero (by simpa using o2)
                    refine ⟨_, ccap, old', rfl, o1, o2, fun q => ?_, h.kill hb2, Heap.next_set _ _ _, kill_ext hb2, fun hroom => by omega⟩
                    rw [this]; simp [Builtin.firstCells, loadCells, loadCellsFrom]
                  refine ⟨_, ccap, old', rfl, o1, o2, fun q => ?_, h.kill hb2, Heap.next_set _ _ _, kill_ext hb2, fun hroom => ?_⟩
                  · simp only [Builtin.firstCells]
                    have := run_loadCells_at (P := P) (w := { w with drawn := q }) (b := L.blk) (o := co) (l := old') o3
                    rw [o2] at this; exact this
                  · have hsize : co + ccap * u2 ≤ C.size := by
                      rcases hss with q | q
                      · omega
                      · omega
                    have hmul : (len + n) * u2 ≤ ccap * u2 := Nat.mul_le_mul_right _ hroom
                    have hmul2 : len * u2 ≤ (len + n) * u2 := Nat.mul_le_mul_right _ (by omega)
                    refine ⟨L.blk, co, C, el, f, rfl, c1, by omega, (c3 rfl).1, (c3 rfl).2, o4 (by omega), fun b' x' M hb' hM => ?_, b, _, L, hb2, hL, rfl⟩
                    rw [Heap.get_set H b _ _ (Heap.get_lt hb2)] at hb'
                    split at hb'
                    · cases hb'
                    · rename_i hne
                      exact h.inj b' b x' _ M L hb' hb2 hne hM hL
                · cases hK
              · cases hK
          obtain ⟨base, ccap, old', rfl, hro, holdl, hfo, hRK, hKn, hEK, hroom⟩ := hmain
          have hdist : (len + n) * size = len * size + n * size := Nat.add_mul _ _ _
          by_cases hfit : len + n ≤ ccap
          · -- there is room
            obtain ⟨cb, co, C, el, f, rfl, hcb, hcs, hNcb, hfz, hpre, hfree, halive⟩ := hroom hfit
            obtain ⟨w', r1, r2, r3, r4, r5, r6, C', r7, r8, r9⟩ := storeCells_run (P := P) cb (co + len * size) el f new' 0 C w hcb (by omega) hfz hnew1
            have hlay : (C'.toList.drop co).take (old ++ new).length = old' ++ new' := by
              have e1 : (old ++ new).length = (old' ++ new').length := by simp [hro.length, hnew.length]
              rw [e1, r8, Nat.add_zero, ← holdl]
              exact take_append_splice C.toList old' new' co hpre (by simp; omega)
            have hno : ρ K.next = none := hRK.dom _ (Nat.le_refl _)
            have hR := reuse hRK (.cells true (old ++ new)) ⟨cb, co, C.size⟩ hNcb hfree w' r3 r4 r5 r2 r6
              ⟨C', el, f, r7, r9, ⟨fun _ => ⟨hNcb, by rw [r9]; exact hfz⟩, fun q => by cases q⟩, by simp [hro.length, hnew.length]; omega, by
                show LRel _ (old ++ new) ((C'.toList.drop co).take (old ++ new).length)
                rw [hlay]; exact (hro.append hnew).mono (Ren.le_add _ hno)⟩
            refine ⟨.slice (some ⟨cb, co, none⟩) (len + n) ccap, w', ?_, _, .slc K.next 0 size (len + n) (len + n) ⟨cb, co, C.size⟩ co ccap _ (by simp [Ren.add]) (.inl rfl) (Nat.le_refl _) hfit (.inr ?_) (.inl rfl), hR, ?_⟩
            · exact hfits _ _ _ _ hfit (by show (storeCells ((⟨cb, co, none⟩ : Addr).add (len * size)) new').run P w = _; rw [add_at]; exact r1)
            · show co + ccap * size ≤ C.size
              have : ∃ b x M, H.get b = some x ∧ ρ b = some M ∧ M.blk = cb := halive
              generalize hs3 : (Value.slice (some ⟨cb, co, none⟩) len ccap) = s3 at hs
              cases hs with
              | snil => cases hs3
              | slc b o u2 len cap L co2 ccap2 ca2 hL ho hl hc hss hca =>
                cases hs3
                have hca' : (⟨cb, co, none⟩ : Addr) = ⟨L.blk, co2, none⟩ := hca.resolve_right (fun hq => absurd hq (Nat.ne_of_gt (Nat.lt_of_lt_of_le (Nat.pos_of_ne_zero hn0) (Nat.le_trans (Nat.le_add_left _ _) hfit))))
                cases hca'
                simp only [giveUp] at hK
                split at hK
                · rename_i cs hb2
                  split at hK
                  · rename_i hu2; subst hu2
                    obtain ⟨C2, el2, f2, c1, c2, _⟩ := h.cells hb2 hL
                    rw [hcb] at c1; cases c1
                    rcases hss with q | q
                    · omega
                    · omega
                  · cases hK
                · cases hK
            · refine ⟨Ren.le_add _ hno, fun b hb => by unfold Ren.add; rw [if_neg (by omega)], by rw [Heap.next_push]; omega, ⟨by omega, fun c hc hn => r6 c fun ec => ?_⟩, fun b y M hb hM => ?_⟩
              · obtain ⟨b1, x1, M1, q1, q2, q3⟩ := halive
                exact hn b1 x1 M1 q1 q2 (q3.trans ec.symm)
              · rw [Heap.get_push] at hb
                unfold Ren.add at hM
                split at hb
                · rename_i e1; rw [if_pos e1] at hM; cases hM
                  obtain ⟨b1, x1, M1, q1, q2, q3⟩ := halive
                  exact .inr ⟨b1, x1, M1, q1, q2, q3⟩
                · rename_i e1; rw [if_neg e1] at hM
                  exact hEK.old b y M hb hM
          · -- a new array
            have hbig : (len + n) * bytes ≤ 140737488355328 := by omega
            obtain ⟨ncap, q, hcap, hrun⟩ := hgrows _ _ _ _ hfo hfit hbig hc2
            let C : Array V := old'.toArray ++ (new'.toArray ++ Builtin.zeroCells z.cells (ncap - (len + n)))
            have hCl : C.toList = (old' ++ new') ++ (Builtin.zeroCells z.cells (ncap - (len + n))).toList := by simp [C]
            have hCs : C.size = ncap * size := by
              have : ncap * size = (len + n) * size + (ncap - (len + n)) * size := by rw [← Nat.add_mul]; congr 1; omega
              simp only [C, Array.size_append, zeroCells_size, hzs, List.size_toArray, holdl, hnl']
              omega
            have hlen2 : (old ++ new).length = (old' ++ new').length := by simp [hro.length, hnew.length]
            have hle3 : (len + n) * size ≤ ncap * size := Nat.mul_le_mul_right _ hcap
            obtain ⟨ρ', g1, g2, g3⟩ := alloc_cells (hRK.drew q) (old ++ new) C e (0, 0) (by simp) (by rw [hlen2, hCs]; simp; omega)
              (by rw [hlen2, hCl, List.take_append_of_le_length (Nat.le_refl _), List.take_of_length_le (Nat.le_refl _)]; exact hro.append hnew)
            exact ⟨_, _, hrun, ρ', .slc K.next 0 size (len + n) (len + n) _ 0 ncap _ g3 (.inl rfl) (Nat.le_refl _) hcap (.inr (by show 0 + ncap * size ≤ C.size; omega)) (.inl rfl), g1, hEK.trans g2.drawn⟩
        · cases hm
      · cases hm
  · cases hm

end Go.AM
