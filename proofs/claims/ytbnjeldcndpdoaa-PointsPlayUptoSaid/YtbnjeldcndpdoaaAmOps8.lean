import Derived.Test.YtbnjeldcndpdoaaAmOps6
import Derived.Laws.Append
set_option linter.all false
/- append and copy; maps that are written. -/
namespace Go.AM
open Go.RowKit (Below)

variable {P : Program} {N : Nat} {w₀ : World} {ρ : Ren} {H : Heap} {w : World}

/-- a real block of the call's own that no abstract block has any more is taken for a new one -/
theorem reuse (h : Rel N w₀ ρ H w) (y : Blk) (L : Loc) (hN : N ≤ L.blk) (hfree : ∀ b x M, H.get b = some x → ρ b = some M → M.blk ≠ L.blk) (w' : World)
    (hos : w'.os = w.os) (htape : w'.tape = w.tape) (hout : w'.output = w.output) (hsz : w'.heap.size = w.heap.size) (hold : ∀ k, k ≠ L.blk → w'.heap[k]? = w.heap[k]?)
    (hy : BRel N (ρ.add H.next L) w' L y) : Rel N w₀ (ρ.add H.next L) (H.push (some y)) w' := by
  have hno : ρ H.next = none := h.dom _ (Nat.le_refl _)
  have hle := Ren.le_add L hno
  refine ⟨h.below.trans ⟨hos, htape, hout, by omega, fun k hk => hold k (by omega)⟩, by rw [hsz]; exact h.big, fun b hb => ?_, fun b hb => by obtain ⟨s, hs⟩ := h.base b hb; exact ⟨s, hle _ _ hs⟩, fun b x hb => ?_, fun b b' x x' K K' hb hb' hne hK hK' => ?_⟩
  · rw [Heap.next_push] at hb
    unfold Ren.add; rw [if_neg (by omega)]
    exact h.dom b (by omega)
  · rw [Heap.get_push] at hb
    split at hb
    · rename_i e; cases hb; subst e; exact ⟨L, by simp [Ren.add], hy⟩
    · obtain ⟨K, hK, hr⟩ := h.blk b x hb
      exact ⟨K, hle _ _ hK, hr.mono hle (hold _ (hfree b x K hb hK))⟩
  · rw [Heap.get_push] at hb hb'
    unfold Ren.add at hK hK'
    by_cases e : b = H.next
    · have e' : b' ≠ H.next := fun q => hne (e.trans q.symm)
      rw [if_pos e] at hK; rw [if_neg e'] at hb' hK'
      cases hK
      exact fun q => hfree b' x' K' hb' hK' q.symm
    · by_cases e' : b' = H.next
      · rw [if_neg e] at hb hK; rw [if_pos e'] at hK'
        cases hK'
        exact hfree b x K hb hK
      · rw [if_neg e] at hb hK; rw [if_neg e'] at hb' hK'
        exact h.inj b b' x x' K K' hb hb' hne hK hK'

/-- how the model's append answers for what is appended -/
structure Src (P : Program) (w : World) (ρ : Ren) (t u ty e : TypeId) (size bytes m : Nat) (z : V) (new : List V) (x' : V) : Prop where
  ex : ∃ new', LRel ρ new new' ∧
    (∀ (base : Option Addr) (len ccap : Nat) (w' : World), len + m ≤ ccap → (match base with | some a => (storeCells (a.add (len * size)) new').run P w = .ok () w' | none => w' = w) →
      (Builtin.append_ #[t, u] ty #[.slice base len ccap, x']).run P w = .ok (.slice base (len + m) ccap) w') ∧
    (∀ (base : Option Addr) (len ccap : Nat) (old' : List V), (∀ q, (Builtin.firstCells size len (.slice base len ccap)).run P { w with drawn := q } = .ok old'.toArray { w with drawn := q }) → ¬ len + m ≤ ccap → (len + m) * bytes ≤ 140737488355328 → len + m ≤ 35184372088832 →
      ∃ cap q, (len + m ≤ cap ∧ cap ≤ 9223372036854775807) ∧ (Builtin.append_ #[t, u] ty #[.slice base len ccap, x']).run P w =
        .ok (.slice (some ⟨w.heap.size, 0, none⟩) (len + m) cap) (({ w with drawn := q } : World).alloc (.cells (old'.toArray ++ (new'.toArray ++ Builtin.zeroCells z.cells (cap - (len + m)))) e)))

theorem take_append_splice (C old new : List V) (off : Nat) (hold : (C.drop off).take old.length = old) (h : off + old.length + new.length ≤ C.length) :
    ((splice C (off + old.length) new).drop off).take (old ++ new).length = old ++ new := by
  have h1 := splice_drop_take C new off old.length (old.length + new.length) (by omega) (by omega)
  rw [List.length_append, h1]
  apply List.ext_getElem?
  intro j
  rw [get_splice _ _ _ _ (by simp; omega), List.getElem?_append]
  simp only [List.getElem?_take, List.getElem?_drop]
  by_cases hj : j < old.length
  · rw [if_pos hj, if_pos hj, if_pos (by omega)]
    have := congrArg (·[j]?) hold
    simpa [List.getElem?_take, hj, List.getElem?_drop] using this
  · rw [if_neg hj, if_neg hj]
    by_cases h2 : j < old.length + new.length
    · rw [if_pos h2]
    · rw [if_neg h2, if_neg h2, List.getElem?_eq_none (by omega)]

theorem zeroCells_size (z : Array V) (n : Nat) : (Builtin.zeroCells z n).size = n * z.size := by simp [Builtin.zeroCells]

theorem cut_le {n c t : Nat} {e : TypeId} (h : n ≤ 140737488355328) : (Question.appendCap n c e).cut t ≤ 9223372036854775807 := by
  show n + t % (2 ^ 63 - n) ≤ 9223372036854775807
  have := Nat.mod_lt t (show 0 < 2 ^ 63 - n by omega)
  omega
/-- slices and strings alone are appended -/
def AppT (P : Program) (u : TypeId) : Prop := (∃ q, P.underlying u = some (.slice q)) ∨ P.underlying u = some .string

theorem append_fits {t u ty e : TypeId} {size n len ccap : Nat} {x' : V} {base : Option Addr} {new' : List V} {w' : World} (hu : P.underlying t = some (.slice e)) (hd : AppT P u) (hsz : (sizeOf e).run P w = .ok size w)
    (hlen : (Builtin.lenOf x').run P w = .ok n w) (hfw : (Builtin.firstCells size n x').run P w = .ok new'.toArray w) (hfit : len + n ≤ ccap)
    (hst : match base with | some a => (storeCells (a.add (len * size)) new').run P w = .ok () w' | none => w' = w) :
    (Builtin.append_ #[t, u] ty #[.slice base len ccap, x']).run P w = .ok (.slice base (len + n) ccap) w' := by
  rcases hd with ⟨q, hd⟩ | hd <;> cases base with
  | none => simp only at hst; subst hst; simp [Builtin.append_, run_underlying hu, run_underlying hd, hsz, hlen, hfw, hfit]
  | some a => simp only at hst; simp [Builtin.append_, run_underlying hu, run_underlying hd, hsz, hlen, hfw, hfit, hst]

theorem append_grows {t u ty e : TypeId} {size bytes n len ccap : Nat} {z x' : V} {base : Option Addr} {old' new' : List V} (hu : P.underlying t = some (.slice e)) (hd : AppT P u) (hsz : sizeT P e = some size) (hb : bytesT P e = some bytes) (hz : zeroV P e = some z) (hb0 : 0 < bytes)
    (hlen : (Builtin.lenOf x').run P w = .ok n w) (hfo : ∀ q, (Builtin.firstCells size len (.slice base len ccap)).run P { w with drawn := q } = .ok old'.toArray { w with drawn := q })
    (hfn : ∀ q, (Builtin.firstCells size n x').run P { w with drawn := q } = .ok new'.toArray { w with drawn := q }) (hno : ¬ len + n ≤ ccap) (hbig : (len + n) * bytes ≤ 140737488355328) :
    ∃ cap q, (len + n ≤ cap ∧ cap ≤ 9223372036854775807) ∧ (Builtin.append_ #[t, u] ty #[.slice base len ccap, x']).run P w =
      .ok (.slice (some ⟨w.heap.size, 0, none⟩) (len + n) cap) (({ w with drawn := q } : World).alloc (.cells (old'.toArray ++ (new'.toArray ++ Builtin.zeroCells z.cells (cap - (len + n)))) e)) := by
  obtain ⟨i, hi, hib⟩ := bytesT_run hb w
  have hi2 : ∀ q, (typeInfo e).run P { w with drawn := q } = .ok i { w with drawn := q } := by
    intro q
    obtain ⟨j, hj, _⟩ := bytesT_run hb ({ w with drawn := q } : World)
    have : i = j := by
      simp only [typeInfo, Sem.run_bind, run_program, Result.andThen_ok] at hi hj
      cases hq : P.info? e with
      | none => simp [hq] at hi
      | some x => simp [hq] at hi hj; rw [← hi, ← hj]
    rw [this]; exact hj
  have hgf : ¬ (Builtin.nextslicecap (len + n) ccap * bytes > 281474976710656) := by have := growslice_fits (bytes := bytes) (show ccap < len + n by omega) hbig; omega
  refine ⟨(Question.appendCap (len + n) ccap e).cut (w.tape w.drawn (.appendCap (len + n) ccap e)), w.drawn + 1, ⟨Nat.le_add_right _ _, cut_le (by have := Nat.le_mul_of_pos_right (len + n) hb0; omega)⟩, ?_⟩
  have hbn : ¬ (i.bytes = 0) := by omega
  have hgf' : ¬ (281474976710656 < Builtin.nextslicecap (len + n) ccap * i.bytes) := by rw [hib]; omega
  have k1 : (typeInfo e).run P w.drew = .ok i w.drew := hi2 (w.drawn + 1)
  have k2 : (Builtin.firstCells size len (.slice base len ccap)).run P w.drew = .ok old'.toArray w.drew := hfo (w.drawn + 1)
  have k3 : (Builtin.firstCells size n x').run P w.drew = .ok new'.toArray w.drew := hfn (w.drawn + 1)
  have k4 : (zeroValue e).run P w.drew = .ok z w.drew := zeroV_run hz _
  have k5 : (Question.appendCap (len + n) ccap e).forced = false := rfl
  rcases hd with ⟨qq, hd⟩ | hd <;>
    simp [Builtin.append_, run_underlying hu, run_underlying hd, sizeT_run hsz w, hlen, hno, hi, hbn, hgf', k1, k2, k3, k4, k5, newRow]

theorem src_of {t u ty e : TypeId} {size bytes n : Nat} {z x' : V} {new new' : List V} (hu : P.underlying t = some (.slice e)) (hd : AppT P u) (hsz : sizeT P e = some size) (hb : bytesT P e = some bytes) (hz : zeroV P e = some z) (hb0 : 0 < bytes)
    (hlen : (Builtin.lenOf x').run P w = .ok n w) (hfn : ∀ q, (Builtin.firstCells size n x').run P { w with drawn := q } = .ok new'.toArray { w with drawn := q }) (hr : LRel ρ new new') : Src P w ρ t u ty e size bytes n z new x' :=
  ⟨new', hr, fun base len ccap w' h1 h2 => append_fits hu hd (sizeT_run hsz w) hlen (hfn w.drawn) h1 h2,
    fun base len ccap old' h1 h2 h3 _ => append_grows hu hd hsz hb hz hb0 hlen h1 hfn h2 h3⟩

theorem wrap_i64 {n : Nat} (h : n ≤ 35184372088832) : IntKind.i64.wrap (n : Int) = n := by
  rw [IntKind.wrap_i64]; omega

/-- append(s, make([]T, n)...) -/
theorem src_zero {t u ty e : TypeId} {k k2 : IntKind} {size bytes n : Nat} {z : V} {new' : List V} (hu : P.underlying t = some (.slice e)) (hd : P.underlying u = some (.int k)) (hsz : sizeT P e = some size) (hb : bytesT P e = some bytes) (hz : zeroV P e = some z) (hb0 : 0 < bytes) (h0 : 0 < size)
    (hn : n * bytes ≤ 35184372088832) (hn2 : n ≤ 35184372088832) (hnew : new'.toArray = Builtin.zeroCells z.cells n) {new : List V} (hr : LRel ρ new new') : Src P w ρ t u ty e size bytes n z new (.int k2 n) := by
  obtain ⟨i, hi, hib⟩ := bytesT_run hb w
  have hw := wrap_i64 hn2
  have hl : ¬ ((n : Int) < 0) := by omega
  have hmul : (n : Int) * (i.bytes : Int) = ((n * bytes : Nat) : Int) := by rw [hib]; exact (Int.natCast_mul n bytes).symm
  have hm : ¬ (281474976710656 < (n : Int) * (i.bytes : Int)) := by rw [hmul]; omega
  have hzr : ∀ v : World, (zeroValue e).run P v = .ok z v := fun v => zeroV_run hz v
  have hnil : n * size = 0 → new' = [] ∧ Builtin.zeroCells z.cells n = #[] := fun h1 => by
    have : n = 0 := by rcases Nat.mul_eq_zero.mp h1 with h | h <;> omega
    subst this
    have e1 : Builtin.zeroCells z.cells 0 = #[] := by simp [Builtin.zeroCells]
    refine ⟨?_, e1⟩
    rw [e1] at hnew
    simpa using congrArg Array.toList hnew
  have htl : (Builtin.zeroCells z.cells n).toList = new' := by rw [← hnew]
  refine ⟨new', hr, fun base len ccap w' h1 h2 => ?_, fun base len ccap old' h1 h2 h3 h4 => ?_⟩
  · cases base with
    | none =>
      simp only at h2; rw [h2]
      simp [Builtin.append_, run_underlying hu, run_underlying hd, sizeT_run hsz w, asInt, asIntOf, hw, hl, hi, hm, h1, hzr]
    | some a =>
      simp only at h2
      by_cases hn0 : n * size = 0
      · rw [(hnil hn0).1] at h2
        simp [Builtin.append_, run_underlying hu, run_underlying hd, sizeT_run hsz w, asInt, asIntOf, hw, hl, hi, hm, h1, hn0, h2]
      · simp [Builtin.append_, run_underlying hu, run_underlying hd, sizeT_run hsz w, asInt, asIntOf, hw, hl, hi, hm, h1, hzr, hn0, htl, h2]
  · have hi2 : ∀ q, (typeInfo e).run P { w with drawn := q } = .ok i { w with drawn := q } := by
      intro q
      obtain ⟨j, hj, _⟩ := bytesT_run hb ({ w with drawn := q } : World)
      have : i = j := by
        simp only [typeInfo, Sem.run_bind, run_program, Result.andThen_ok] at hi hj
        cases hq : P.info? e with
        | none => simp [hq] at hi
        | some x => simp [hq] at hi hj; rw [← hi, ← hj]
      rw [this]; exact hj
    have hgf : ¬ (Builtin.nextslicecap (len + n) ccap * bytes > 281474976710656) := by have := growslice_fits (bytes := bytes) (show ccap < len + n by omega) h3; omega
    refine ⟨(Question.appendCap (len + n) ccap e).cut (w.tape w.drawn (.appendCap (len + n) ccap e)), w.drawn + 1, ⟨Nat.le_add_right _ _, cut_le (by omega)⟩, ?_⟩
    have hgf' : ¬ (281474976710656 < Builtin.nextslicecap (len + n) ccap * i.bytes) := by rw [hib]; omega
    have hbig : ¬ ((9223372036854775807 : Int) < (len : Int) + n) := by omega
    have k1 : (typeInfo e).run P w.drew = .ok i w.drew := hi2 (w.drawn + 1)
    have k2 : (Builtin.firstCells size len (.slice base len ccap)).run P w.drew = .ok old'.toArray w.drew := h1 (w.drawn + 1)
    have k5 : (Question.appendCap (len + n) ccap e).forced = false := rfl
    by_cases hn0 : n * size = 0
    · rw [(hnil hn0).1]
      simp [Builtin.append_, run_underlying hu, run_underlying hd, sizeT_run hsz w, asInt, asIntOf, hw, hl, hi, hm, h2, hgf', hbig, k1, k2, k5, hn0, hzr, newRow, IntKind.max, IntKind.signed, IntKind.bits]
    · simp [Builtin.append_, run_underlying hu, run_underlying hd, sizeT_run hsz w, asInt, asIntOf, hw, hl, hi, hm, h2, hgf', hbig, k1, k2, k5, hn0, hzr, hnew, newRow, IntKind.max, IntKind.signed, IntKind.bits]

set_option maxHeartbeats 1000000 in
theorem appTo_sound (h : Rel N w₀ ρ H w) {t u ty e : TypeId} {size bytes n : Nat} {z s s' x' r : V} {new : List V} {H' : Heap} (hu : P.underlying t = some (.slice e))
    (hsz : sizeT P e = some size) (hb : bytesT P e = some bytes) (hz : zeroV P e = some z) (hzs : z.cells.size = size) (h0 : 0 < size) (hb0 : 0 < bytes) (hs : VRel ρ s s')
    (hsrc : Src P w ρ t u ty e size bytes n z new x') (hnl : new.length = n * size) (hm : appTo size bytes s n (some new) H = some (r, H')) :
    ∃ r' w', (Builtin.append_ #[t, u] ty #[s', x']).run P w = .ok r' w' ∧ Goes N w₀ ρ H w r H' r' w' := by
  obtain ⟨new', hnew, hfits, hgrows⟩ := hsrc.ex
  have hnl' : new'.length = n * size := by rw [← hnew.length, hnl]
  unfold appTo at hm
  split at hm
  · rename_i x len cap
    split at hm
    · -- nothing is appended
      rename_i hn0
      cases hm
      subst hn0
      refine ⟨s', w, ?_, ρ, hs, h, .refl _ _ _⟩
      have hne : new' = [] := List.eq_nil_of_length_eq_zero (by simpa using hnl')
      generalize s' = s2 at hs
      cases hs with
      | snil => exact hfits _ _ _ _ (Nat.le_refl _) rfl
      | slc b o u2 len cap L co ccap ca hL ho hl hc hss hca hmx => exact hfits _ _ _ _ (by omega) (by rw [hne]; rfl)
    · rename_i hn0
      split at hm
      · rename_i new2 old K hnew2 hold hK
        cases hnew2
        split at hm
        · rename_i hcond
          obtain ⟨hc1, hc2, hc3, hc4⟩ := hcond
          cases hm
          have hnew1 := lrel_isOne hnew hc3
          -- what stands ahead, and the block that is given up
          have hmain : ∃ base ccap old', s' = .slice base len ccap ∧ LRel ρ old old' ∧ old'.length = len * size ∧ (∀ n, (Builtin.firstCells size len s').run P { w with drawn := n } = .ok old'.toArray { w with drawn := n }) ∧ Rel N w₀ ρ K w ∧ K.next = H.next ∧ Ext ρ H w ρ K w ∧
              (len + n ≤ ccap → ∃ cb co C el f, base = some ⟨cb, co, none⟩ ∧ w.heap[cb]? = some (.cells C el f) ∧ co + (len + n) * size ≤ C.size ∧ N ≤ cb ∧ (∀ i, i < C.size → ¬ (f.1 ≤ i ∧ i < f.2)) ∧ (C.toList.drop co).take old'.length = old' ∧
                (∀ b x M, K.get b = some x → ρ b = some M → M.blk ≠ cb) ∧ (∃ b x M, H.get b = some x ∧ ρ b = some M ∧ M.blk = cb)) := by
            generalize hs2 : s' = s2 at hs
            cases hs with
            | snil =>
              simp only [cellsOfSlice] at hold; cases hold
              simp only [giveUp] at hK; cases hK
              refine ⟨none, 0, [], rfl, .nil, by simp, fun q => by simp [Builtin.firstCells], h, rfl, .refl _ _ _, fun q => by omega⟩
            | slc b o u2 len cap L co ccap ca hL ho hl hc hss hca hmx =>
              simp only [giveUp] at hK
              split at hK
              · rename_i cs hb2
                split at hK
                · rename_i hu2
                  cases hK
                  subst hu2
                  obtain ⟨C, el, f, c1, c2, c3, c4, c5⟩ := h.cells hb2 hL
                  have hold' : ∃ old', LRel ρ old old' ∧ old'.length = len * u2 ∧ (∀ j v, old'[j]? = some v → w.cell? ⟨L.blk, co + j, none⟩ = some v) ∧ (co + len * u2 ≤ C.size → (C.toList.drop co).take old'.length = old') := by
                    simp only [cellsOfSlice] at hold
                    split at hold
                    · rename_i hl0; cases hold; exact ⟨[], .nil, by simp [hl0], by simp, by simp⟩
                    · rename_i hl0
                      have hco : co = L.off + o := by rcases ho with ho | ho <;> omega
                      subst hco
                      obtain ⟨q1, old', q2, q3⟩ := h.cellsAt hold hL
                      have q4 : old'.length = len * u2 := by rw [← q2.length]; exact q1
                      refine ⟨old', q2, q4, q3, fun hle => ?_⟩
                      apply List.ext_getElem?
                      intro j
                      by_cases hj : j < old'.length
                      · have := q3 j old'[j] (by simp [hj])
                        rw [cell_of c1] at this
                        simp only [List.getElem?_take, hj, if_true, List.getElem?_drop, List.getElem?_eq_getElem hj]
                        simpa using this
                      · simp [List.getElem?_take, hj, List.getElem?_eq_none (Nat.le_of_not_lt hj)]
                  obtain ⟨old', o1, o2, o3, o4⟩ := hold'
                  rcases hca with rfl | hz0
                  rotate_left
                  · obtain rfl : len = 0 := by omega
                    have : old' = [] := List.eq_nil_of_length_eq_zero (by simpa using o2)
                    refine ⟨_, ccap, old', rfl, o1, o2, fun q => ?_, h.kill hb2, Heap.next_set _ _ _, kill_ext hb2, fun hroom => by omega⟩
                    rw [this]; simp [Builtin.firstCells, loadCells, loadCellsFrom]
                  refine ⟨_, ccap, old', rfl, o1, o2, fun q => ?_, h.kill hb2, Heap.next_set _ _ _, kill_ext hb2, fun hroom => ?_⟩
                  · simp only [Builtin.firstCells]
                    have := run_loadCells_at (P := P) (w := { w with drawn := q }) (b := L.blk) (o := co) (l := old') o3
                    rw [o2] at this; exact this
                  · have hsize : co + ccap * u2 ≤ C.size := by
                      rcases hss with q | q
                      · omega
                      · omega
                    have hmul : (len + n) * u2 ≤ ccap * u2 := Nat.mul_le_mul_right _ hroom
                    have hmul2 : len * u2 ≤ (len + n) * u2 := Nat.mul_le_mul_right _ (by omega)
                    refine ⟨L.blk, co, C, el, f, rfl, c1, by omega, (c3 rfl).1, (c3 rfl).2, o4 (by omega), fun b' x' M hb' hM => ?_, b, _, L, hb2, hL, rfl⟩
                    rw [Heap.get_set H b _ _ (Heap.get_lt hb2)] at hb'
                    split at hb'
                    · cases hb'
                    · rename_i hne
                      exact h.inj b' b x' _ M L hb' hb2 hne hM hL
                · cases hK
              · cases hK
          obtain ⟨base, ccap, old', rfl, hro, holdl, hfo, hRK, hKn, hEK, hroom⟩ := hmain
          have hdist : (len + n) * size = len * size + n * size := Nat.add_mul _ _ _
          by_cases hfit : len + n ≤ ccap
          · -- there is room
            obtain ⟨cb, co, C, el, f, rfl, hcb, hcs, hNcb, hfz, hpre, hfree, halive⟩ := hroom hfit
            obtain ⟨w', r1, r2, r3, r4, r5, r6, C', r7, r8, r9⟩ := storeCells_run (P := P) cb (co + len * size) el f new' 0 C w hcb (by omega) hfz hnew1
            have hlay : (C'.toList.drop co).take (old ++ new).length = old' ++ new' := by
              have e1 : (old ++ new).length = (old' ++ new').length := by simp [hro.length, hnew.length]
              rw [e1, r8, Nat.add_zero, ← holdl]
              exact take_append_splice C.toList old' new' co hpre (by simp; omega)
            have hno : ρ K.next = none := hRK.dom _ (Nat.le_refl _)
            have hR := reuse hRK (.cells true (old ++ new)) ⟨cb, co, C.size⟩ hNcb hfree w' r3 r4 r5 r2 r6
              ⟨C', el, f, r7, r9, ⟨fun _ => ⟨hNcb, by rw [r9]; exact hfz⟩, fun q => by cases q⟩, by simp [hro.length, hnew.length]; omega, by
                show LRel _ (old ++ new) ((C'.toList.drop co).take (old ++ new).length)
                rw [hlay]; exact (hro.append hnew).mono (Ren.le_add _ hno)⟩
            refine ⟨.slice (some ⟨cb, co, none⟩) (len + n) ccap, w', ?_, _, .slc K.next 0 size (len + n) (len + n) ⟨cb, co, C.size⟩ co ccap _ (by simp [Ren.add]) (.inl rfl) (Nat.le_refl _) hfit (.inr ?_) (.inl rfl) ?_, hR, ?_⟩
            · exact hfits _ _ _ _ hfit (by show (storeCells ((⟨cb, co, none⟩ : Addr).add (len * size)) new').run P w = _; rw [add_at]; exact r1)
            · show co + ccap * size ≤ C.size
              have : ∃ b x M, H.get b = some x ∧ ρ b = some M ∧ M.blk = cb := halive
              generalize hs3 : (Value.slice (some ⟨cb, co, none⟩) len ccap) = s3 at hs
              cases hs with
              | snil => cases hs3
              | slc b o u2 len cap L co2 ccap2 ca2 hL ho hl hc hss hca hmx =>
                cases hs3
                have hca' : (⟨cb, co, none⟩ : Addr) = ⟨L.blk, co2, none⟩ := hca.resolve_right (fun hq => absurd hq (Nat.ne_of_gt (Nat.lt_of_lt_of_le (Nat.pos_of_ne_zero hn0) (Nat.le_trans (Nat.le_add_left _ _) hfit))))
                cases hca'
                simp only [giveUp] at hK
                split at hK
                · rename_i cs hb2
                  split at hK
                  · rename_i hu2; subst hu2
                    obtain ⟨C2, el2, f2, c1, c2, _⟩ := h.cells hb2 hL
                    rw [hcb] at c1; cases c1
                    rcases hss with q | q
                    · omega
                    · omega
                  · cases hK
                · cases hK
            · generalize hs3 : (Value.slice (some ⟨cb, co, none⟩) len ccap) = s3 at hs
              cases hs with
              | snil => cases hs3
              | slc b o u2 len cap L co2 ccap2 ca2 hL ho hl hc hss hca hmx =>
                cases hs3
                simp only [giveUp] at hK
                split at hK
                · split at hK
                  · rename_i hu2; subst hu2
                    exact hmx
                  · cases hK
                · cases hK
            · refine ⟨Ren.le_add _ hno, fun b hb => by unfold Ren.add; rw [if_neg (by omega)], by rw [Heap.next_push]; omega, ⟨by omega, fun c hc hn => r6 c fun ec => ?_⟩, fun b y M hb hM => ?_⟩
              · obtain ⟨b1, x1, M1, q1, q2, q3⟩ := halive
                exact hn b1 x1 M1 q1 q2 (q3.trans ec.symm)
              · rw [Heap.get_push] at hb
                unfold Ren.add at hM
                split at hb
                · rename_i e1; rw [if_pos e1] at hM; cases hM
                  obtain ⟨b1, x1, M1, q1, q2, q3⟩ := halive
                  exact .inr ⟨b1, x1, M1, q1, q2, q3⟩
                · rename_i e1; rw [if_neg e1] at hM
                  exact hEK.old b y M hb hM
          · -- a new array
            have hbig : (len + n) * bytes ≤ 140737488355328 := by omega
            obtain ⟨ncap, q, ⟨hcap, hcmx⟩, hrun⟩ := hgrows _ _ _ _ hfo hfit hbig hc2
            let C : Array V := old'.toArray ++ (new'.toArray ++ Builtin.zeroCells z.cells (ncap - (len + n)))
            have hCl : C.toList = (old' ++ new') ++ (Builtin.zeroCells z.cells (ncap - (len + n))).toList := by simp [C]
            have hCs : C.size = ncap * size := by
              have : ncap * size = (len + n) * size + (ncap - (len + n)) * size := by rw [← Nat.add_mul]; congr 1; omega
              simp only [C, Array.size_append, zeroCells_size, hzs, List.size_toArray, holdl, hnl']
              omega
            have hlen2 : (old ++ new).length = (old' ++ new').length := by simp [hro.length, hnew.length]
            have hle3 : (len + n) * size ≤ ncap * size := Nat.mul_le_mul_right _ hcap
            obtain ⟨ρ', g1, g2, g3⟩ := alloc_cells (hRK.drew q) (old ++ new) C e (0, 0) (by simp) (by rw [hlen2, hCs]; simp; omega)
              (by rw [hlen2, hCl, List.take_append_of_le_length (Nat.le_refl _), List.take_of_length_le (Nat.le_refl _)]; exact hro.append hnew)
            exact ⟨_, _, hrun, ρ', .slc K.next 0 size (len + n) (len + n) _ 0 ncap _ g3 (.inl rfl) (Nat.le_refl _) hcap (.inr (by show 0 + ncap * size ≤ C.size; omega)) (.inl rfl) (.inr hcmx), g1, hEK.trans g2.drawn⟩
        · cases hm
      · cases hm
  · cases hm

end Go.AM

/- Operations that make and write memory: the theorem. -/
namespace Go.AM
open Go.RowKit (Below)

variable {P : Program} {N : Nat} {w₀ : World} {ρ : Ren} {H : Heap} {w : World}

/-- the cells of a slice, on the real side -/
theorem cellsOfSlice_run (h : Rel N w₀ ρ H w) {size len : Nat} {x x' : V} {l : List V} (hx : VRel ρ x x') (hl : sliceLen x = len) (hc : cellsOfSlice H size x = some l) :
    l.length = len * size ∧ (Builtin.lenOf x').run P w = .ok len w ∧ ∃ l', LRel ρ l l' ∧ ∀ n, (Builtin.firstCells size len x').run P { w with drawn := n } = .ok l'.toArray { w with drawn := n } := by
  unfold cellsOfSlice at hc
  split at hc
  · cases hc
    obtain ⟨_, _, rfl⟩ := hx.snil_inv
    simp only [sliceLen] at hl; subst hl
    exact ⟨by simp, by simp [Builtin.lenOf], [], .nil, fun n => by simp [Builtin.firstCells]⟩
  · rename_i b o u ln cap
    simp only [sliceLen] at hl; subst hl
    obtain ⟨L, co, ccap, ca, hL, rfl, ho, hln, _, _, hca, _⟩ := hx.slc_inv
    split at hc
    · rename_i h0; cases hc; subst h0
      exact ⟨by simp, by simp [Builtin.lenOf], [], .nil, fun n => by simp [Builtin.firstCells, loadCells, loadCellsFrom]⟩
    · rename_i h0
      have hco : co = L.off + o := by rcases ho with ho | ho <;> omega
      subst hco
      obtain rfl : ca = ⟨L.blk, L.off + o, none⟩ := hca.resolve_right (by omega)
      obtain ⟨h1, l', h2, h3⟩ := h.cellsAt hc hL
      refine ⟨h1, by simp [Builtin.lenOf], l', h2, fun n => ?_⟩
      simp only [Builtin.firstCells]
      have := run_loadCells_at (P := P) (w := { w with drawn := n }) (b := L.blk) (o := L.off + o) (l := l') h3
      rw [← h2.length, h1] at this
      exact this
  · cases hc

theorem appV_sound (h : Rel N w₀ ρ H w) {t u ty e q : TypeId} {size bytes : Nat} {z s s' x x' r : V} {H' : Heap} (hu : P.underlying t = some (.slice e)) (hd : P.underlying u = some (.slice q))
    (hsz : sizeT P e = some size) (hb : bytesT P e = some bytes) (hz : zeroV P e = some z) (hzs : z.cells.size = size) (h0 : 0 < size) (hb0 : 0 < bytes) (hs : VRel ρ s s') (hx : VRel ρ x x')
    (hm : appV size bytes s x H = some (r, H')) : ∃ r' w', (Builtin.append_ #[t, u] ty #[s', x']).run P w = .ok r' w' ∧ Goes N w₀ ρ H w r H' r' w' := by
  unfold appV at hm
  split at hm
  · rename_i a n c
    cases hcs : cellsOfSlice H size (.slice a n c) with
    | some new =>
      rw [hcs] at hm
      obtain ⟨h1, h2, new', h3, h4⟩ := cellsOfSlice_run (P := P) h hx rfl hcs
      exact appTo_sound h hu hsz hb hz hzs h0 hb0 hs (src_of hu (.inl ⟨_, hd⟩) hsz hb hz hb0 h2 h4 h3) h1 hm
    | none =>
      rw [hcs] at hm
      unfold appTo at hm
      split at hm
      · rename_i y len cap
        split at hm
        · rename_i hn; cases hm; subst hn
          refine ⟨s', w, ?_, ρ, hs, h, .refl _ _ _⟩
          -- the source is empty all the same
          generalize hx2 : x' = x2 at hx
          generalize hs2 : s' = s2 at hs
          have hfw : (Builtin.lenOf x2).run P w = .ok 0 w ∧ (Builtin.firstCells size 0 x2).run P w = .ok (#[] : Array V) w := by
            cases hx <;> exact ⟨by simp [Builtin.lenOf], by simp [Builtin.firstCells, loadCells, loadCellsFrom]⟩
          cases hs with
          | snil => exact append_fits (new' := []) hu (.inl ⟨_, hd⟩) (sizeT_run hsz w) hfw.1 hfw.2 (Nat.le_refl _) rfl
          | slc b o u2 len cap L co ccap ca hL ho hl hc hss hca hmx => exact append_fits (new' := []) hu (.inl ⟨_, hd⟩) (sizeT_run hsz w) hfw.1 hfw.2 (by omega) rfl
        · simp at hm
      · cases hm
  · cases hm

theorem take_bytesV (s : ByteArray) (n : Nat) : ((s.extract 0 n).data.map fun b => Value.int .u8 (b.toNat : Int)).toList = (bytesV s).take n := by
  simp [bytesV, ByteArray.data_extract]

theorem appS_sound (h : Rel N w₀ ρ H w) {t u ty e : TypeId} {z s s' x x' r : V} {H' : Heap} (hu : P.underlying t = some (.slice e)) (hd : P.underlying u = some .string)
    (hsz : sizeT P e = some 1) (hb : bytesT P e = some 1) (hz : zeroV P e = some z) (hzs : z.cells.size = 1) (hs : VRel ρ s s') (hx : VRel ρ x x')
    (hm : appS s x H = some (r, H')) : ∃ r' w', (Builtin.append_ #[t, u] ty #[s', x']).run P w = .ok r' w' ∧ Goes N w₀ ρ H w r H' r' w' := by
  unfold appS at hm
  split at hm
  · rename_i str
    rw [hx.string_inv]
    refine appTo_sound h hu hsz hb hz hzs (by omega) (by omega) hs (src_of hu (.inr hd) hsz hb hz (by omega) (by simp [Builtin.lenOf]) (fun n => ?_) (bytesV_rel str)) (by rw [bytesV_length]; omega) hm
    simp only [Builtin.firstCells, Sem.run_pure]
    congr 1
    apply Array.ext'
    rw [take_bytesV, List.take_of_length_le (by rw [bytesV_length]; exact Nat.le_refl _)]
  · cases hm

theorem appZ_sound (h : Rel N w₀ ρ H w) {t u ty e : TypeId} {k : IntKind} {size bytes : Nat} {z s s' x x' r : V} {H' : Heap} (hu : P.underlying t = some (.slice e)) (hd : P.underlying u = some (.int k))
    (hsz : sizeT P e = some size) (hb : bytesT P e = some bytes) (hz : zeroV P e = some z) (hzs : z.cells.size = size) (h0 : 0 < size) (hb0 : 0 < bytes) (hs : VRel ρ s s') (hx : VRel ρ x x')
    (hm : appZ size bytes z.cells.toList s x H = some (r, H')) : ∃ r' w', (Builtin.append_ #[t, u] ty #[s', x']).run P w = .ok r' w' ∧ Goes N w₀ ρ H w r H' r' w' := by
  unfold appZ at hm
  split at hm
  · rename_i k2 n
    split at hm
    · rename_i hc
      obtain ⟨hfl, hn0, hc1, hc2⟩ := hc
      have e1 := hx.int_inv; subst e1
      obtain ⟨m, rfl⟩ : ∃ m : Nat, n = m := ⟨n.toNat, by omega⟩
      simp only [Int.toNat_natCast] at hm hc1 hc2
      have hzc : (Builtin.zeroCells z.cells m).toList = rep m z.cells.toList := zeros_eq z.cells m (by omega)
      exact appTo_sound h hu hsz hb hz hzs h0 hb0 hs (src_zero (new' := rep m z.cells.toList) hu hd hsz hb hz hb0 h0 hc1 hc2 (by rw [← hzc]) (rep_rel (flat_lrel hfl) m)) (by rw [rep_length]; simp [hzs]) hm
    · cases hm
  · cases hm

theorem cpy_sound (h : Rel N w₀ ρ H w) {t u ty e : TypeId} {size : Nat} {d d' x x' r : V} {H' : Heap} (hu : P.underlying t = some (.slice e)) (hsz : sizeT P e = some size) (hd : VRel ρ d d') (hx : VRel ρ x x')
    (hm : cpy size d x H = some (r, H')) : ∃ r' w', (Builtin.copy_ #[t, u] ty #[d', x']).run P w = .ok r' w' ∧ Goes N w₀ ρ H w r H' r' w' := by
  unfold cpy at hm
  split at hm
  · -- nil
      obtain ⟨rfl, rfl, rfl⟩ := hd.snil_inv
      split at hm
      · rename_i a n c
        cases hm
        refine ⟨i64 0, w, ?_, ρ, .int _ _, h, .refl _ _ _⟩
        generalize x' = x2 at hx
        cases hx <;> simp [Builtin.copy_, run_underlying hu, Builtin.lenOf, sizeT_run hsz w, Builtin.firstCells, loadCells, loadCellsFrom, goInt]
      · cases hm
        rw [hx.string_inv]
        exact ⟨i64 0, w, by simp [Builtin.copy_, run_underlying hu, Builtin.lenOf, sizeT_run hsz w, Builtin.firstCells, goInt], ρ, .int _ _, h, .refl _ _ _⟩
      · cases hm
  · rename_i b o u2 dlen dcap
    · split at hm
      · rename_i l hl
        split at hm
        · rename_i cs hb
          split at hm
          · rename_i hcond
            simp only [Bool.and_eq_true, decide_eq_true_eq, beq_iff_eq] at hcond
            obtain ⟨⟨c1, c2⟩, c3⟩ := hcond
            cases hm
            obtain ⟨L, co, ccap, ca, hL, rfl, ho, hlen, hcap, hss, hca, _⟩ := hd.slc_inv
            -- the source
            have hsrc : (Builtin.lenOf x').run P w = .ok (sliceLen x) w ∧ ∃ l', LRel ρ l l' ∧ (Builtin.firstCells size (Nat.min (sliceLen x) dlen) x').run P w = .ok l'.toArray w := by
              unfold cpySrc at hl
              split at hl
              · rename_i str
                cases hl
                rw [hx.string_inv]
                refine ⟨by simp [Builtin.lenOf, sliceLen], (bytesV str).take (Nat.min (sliceLen (.string str)) dlen), (bytesV_rel str).take _, ?_⟩
                simp only [Builtin.firstCells, Sem.run_pure]
                congr 1
                apply Array.ext'
                rw [take_bytesV]
              · cases hl
                obtain ⟨e1, _, rfl⟩ := hx.snil_inv
                exact ⟨by simp [Builtin.lenOf, sliceLen, e1], [], .nil, by simp [Builtin.firstCells]⟩
              · rename_i b' o' u' ln' cap'
                obtain ⟨L', co', ccap', ca', hL', rfl, ho', hln', _, _, hca', _⟩ := hx.slc_inv
                obtain ⟨q1, l', q2, q3⟩ := h.cellsAt hl hL'
                refine ⟨by simp [Builtin.lenOf, sliceLen], l', q2, ?_⟩
                simp only [Builtin.firstCells]
                rcases hca' with rfl | hz'
                rotate_left
                · have hz : ln' = 0 := by omega
                  subst hz
                  have hmin : Nat.min (sliceLen (.slice (some ⟨b', o', some u'⟩) 0 cap')) dlen = 0 := by simp [sliceLen]
                  rw [hmin] at q1 ⊢
                  have : l' = [] := List.eq_nil_of_length_eq_zero (by rw [← q2.length, q1]; simp)
                  rw [this]; simp [loadCells, loadCellsFrom]
                rcases ho' with ho' | ho'
                · subst ho'
                  have := run_loadCells_at (P := P) (b := L'.blk) (o := L'.off + o') (l := l') q3
                  rw [← q2.length, q1] at this; exact this
                · have hz : ln' = 0 := by omega
                  subst hz
                  have hmin : Nat.min (sliceLen (.slice (some ⟨b', o', some u'⟩) 0 cap')) dlen = 0 := by simp [sliceLen]
                  rw [hmin] at q1 ⊢
                  have : l' = [] := List.eq_nil_of_length_eq_zero (by rw [← q2.length, q1]; simp)
                  rw [this]; simp [loadCells, loadCellsFrom]
              · cases hl
            obtain ⟨hlen2, l', hrel, hfc⟩ := hsrc
            have hco : co = L.off + o ∨ l = [] := by
              rcases ho with ho | ho
              · exact .inl ho
              · right; apply List.eq_nil_of_length_eq_zero; rw [c2]; have : dlen = 0 := by omega
                subst this; simp
            obtain ⟨w', g1, g2, g3⟩ := store_goes (P := P) (o := o) h hb hL (vs := l) (vs' := l') (by omega) hrel (lrel_isOne hrel c1)
            have g1' : (storeCells ca l').run P w = .ok () w' := by
              rcases hca with rfl | hz0
              rotate_left
              · have hl0 : l = [] := by
                  apply List.eq_nil_of_length_eq_zero; rw [c2]; have : dlen = 0 := by omega
                  subst this; simp
                subst hl0; cases hrel; exact g1
              rcases hco with hco | hco
              · rw [hco]; exact g1
              · subst hco; cases hrel; exact g1
            refine ⟨i64 (Nat.min (sliceLen x) dlen), w', ?_, ρ, .int _ _, g2, g3⟩
            have hfc' := hfc
            simp only [Builtin.copy_, Sem.run_bind]
            simp [run_underlying hu, hlen2, sizeT_run hsz w, goInt]
            rw [hfc']
            simp [g1']
          · cases hm
        · cases hm
      · cases hm
  · cases hm

theorem mkmap_sound (h : Rel N w₀ ρ H w) {r : V} {H' : Heap} (hm : mkmap H = some (r, H')) : ∃ r' w', (newObj (.map #[] 0)).run P w = .ok w.heap.size w' ∧ r' = .map (some w.heap.size) ∧ Goes N w₀ ρ H w r H' r' w' := by
  unfold mkmap at hm; cases hm
  obtain ⟨g1, g2, g3⟩ := alloc_ext h (.map true []) (.map #[] 0) ⟨w.heap.size, 0, 0⟩ rfl ⟨rfl, #[], 0, by show (w.heap.push _)[w.heap.size]? = _; simp, fun _ => ⟨h.big, born_nil 0⟩, .nil, .nil⟩
  exact ⟨_, _, rfl, rfl, _, .map H.next _ g3, g1, g2⟩

theorem eqKs_same : ∀ {ks : List FK} {xs ys : List V}, eqKs ks xs ys = some true → ∀ n, xs.length = ys.length ∧ (xs.zip ys).all (fun (x, y) => Instr.sameBits n x y) = true
  | [], [], [], _, n => ⟨rfl, rfl⟩
  | k :: ks, x :: xs, y :: ys, h, n => by
    simp only [eqKs] at h
    split at h
    · rename_i hq
      obtain ⟨h1, h2⟩ := eqKs_same h n
      have : Instr.sameBits n x y = true := by
        cases k <;> cases x <;> cases y <;> simp only [eqK] at hq <;> first | (cases hq; done) | skip
        · simpa [Instr.sameBits] using hq
        · split at hq
          · rename_i hk; subst hk; simpa [Instr.sameBits] using hq
          · cases hq
        · simp only [Instr.sameBits, beq_toListBytes, toList_eq_iff]; simpa using hq
      exact ⟨by simp [h1], by simp only [List.zip_cons_cons, List.all_cons, this, Bool.true_and]; exact h2⟩
    · cases h
    · cases h
  | [], [], _ :: _, h, _ => by simp [eqKs] at h
  | [], _ :: _, _, h, _ => by simp [eqKs] at h
  | _ :: _, [], _, h, _ => by simp [eqKs] at h
  | _ :: _, _ :: _, [], h, _ => by simp [eqKs] at h

theorem eqKs_lrel : ∀ {ks : List FK} {xs ys xs' ys' : List V}, eqKs ks xs ys = some true → LRel ρ xs xs' → LRel ρ ys ys' → eqKs ks xs' ys' = some true
  | [], [], [], _, _, h, hx, hy => by cases hx; cases hy; exact h
  | k :: ks, x :: xs, y :: ys, _, _, h, hx, hy => by
    cases hx with
    | cons hx1 hx2 =>
      cases hy with
      | cons hy1 hy2 =>
        simp only [eqKs] at h ⊢
        split at h
        · rename_i hq
          obtain ⟨e1, e2⟩ := eqK_flat hq hx1 hy1
          rw [e1, e2, hq]
          exact eqKs_lrel h hx2 hy2
        · cases h
        · cases h
  | [], [], _ :: _, _, _, h, _, _ => by simp [eqKs] at h
  | [], _ :: _, _, _, _, h, _, _ => by simp [eqKs] at h
  | _ :: _, [], _, _, _, h, _, _ => by simp [eqKs] at h
  | _ :: _, _ :: _, [], _, _, h, _, _ => by simp [eqKs] at h

theorem keyEq_same {kk : KK} {a b a' b' : V} (h : keyEq kk a b = some true) (ha : VRel ρ a a') (hb : VRel ρ b b') (n : Nat) : Instr.sameBits (n + 1) b' a' = true := by
  cases kk with
  | one k =>
    simp only [keyEq] at h
    obtain ⟨rfl, rfl⟩ := eqK_flat h ha hb
    cases k <;> cases a' <;> cases b' <;> simp only [eqK] at h <;> first | (cases h; done) | skip
    · simp at h; simp [Instr.sameBits, h]
    · split at h
      · rename_i hk; subst hk; simp at h; simp [Instr.sameBits, h]
      · cases h
    · simp at h; simp [Instr.sameBits, h, beq_toListBytes]
  | agg ks =>
    simp only [keyEq] at h
    unfold eqAgg at h
    split at h
    · obtain ⟨A, rfl, hA⟩ := ha.agg_inv
      obtain ⟨B, rfl, hB⟩ := hb.agg_inv
      have h' := eqKs_lrel h hA hB
      have hsym : ∀ {ks : List FK} {xs ys : List V}, eqKs ks xs ys = some true → eqKs ks ys xs = some true := by
        intro ks
        induction ks with
        | nil => intro xs ys hq; cases xs <;> cases ys <;> simp_all [eqKs]
        | cons k ks ih =>
          intro xs ys hq
          cases xs <;> cases ys <;> simp only [eqKs] at hq <;> first | (cases hq; done) | skip
          rename_i x xs y ys
          split at hq
          · rename_i hq1
            have : eqK k y x = some true := by
              cases k <;> cases x <;> cases y <;> simp only [eqK] at hq1 <;> first | (cases hq1; done) | skip
              · simp at hq1; simp [eqK, hq1]
              · split at hq1
                · rename_i hk; subst hk; simp at hq1; simp [eqK, hq1]
                · cases hq1
              · simp at hq1; simp [eqK, hq1]
            simp only [eqKs, this]
            exact ih hq
          · cases hq
          · cases hq
      obtain ⟨q1, q2⟩ := eqKs_same (hsym h') n
      simp only [Array.length_toList] at q1
      simp only [Instr.sameBits, q1, beq_self_eq_true, Bool.true_and]
      exact q2
    · cases h

theorem findK_eq (kk : KK) (k : V) : ∀ (es : List (V × V)) (i : Nat), findK kk k es = some (some i) → ∃ e, es[i]? = some e ∧ keyEq kk k e.1 = some true
  | [], i, h => by simp [findK] at h
  | e :: es, i, h => by
    simp only [findK] at h
    split at h
    · rename_i hq; cases h; exact ⟨e, rfl, hq⟩
    · split at h
      · rename_i j hj; cases h; obtain ⟨e', h1, h2⟩ := findK_eq kk k es j hj; exact ⟨e', by simpa using h1, h2⟩
      · cases h
      · cases h
    · cases h

theorem run_setObj_map {r : Nat} {E E2 : Array MapEntry} {c c2 : Nat} (h : w.heap[r]? = some (.map E c)) : (setObj r (.map E2 c2)).run P w = .ok () { w with heap := w.heap.setIfInBounds r (.map E2 c2) } := by
  simp [setObj, Sem.run, h]

theorem setObj_goes (h : Rel N w₀ ρ H w) {b : Nat} {es es' : List (V × V)} (hb : H.get b = some (.map true es)) {L : Loc} (hL : ρ b = some L) {E' : Array MapEntry} {c' : Nat} (h0 : L.off = 0) (hN : N ≤ L.blk) (hB : Born E' c')
    (h1 : LRel ρ (es'.map (·.1)) (E'.toList.map (·.key))) (h2 : LRel ρ (es'.map (·.2)) (E'.toList.map (·.val))) (hlt : L.blk < w.heap.size) :
    Rel N w₀ ρ (H.set b (some (.map true es'))) { w with heap := w.heap.setIfInBounds L.blk (.map E' c') } ∧ Ext ρ H w ρ (H.set b (some (.map true es'))) { w with heap := w.heap.setIfInBounds L.blk (.map E' c') } := by
  have hold : ∀ k, k ≠ L.blk → ({ w with heap := w.heap.setIfInBounds L.blk (.map E' c') } : World).heap[k]? = w.heap[k]? := fun k hk => by
    show (w.heap.setIfInBounds L.blk _)[k]? = _
    exact Array.getElem?_setIfInBounds_ne (fun e => hk e.symm)
  have hnew : ({ w with heap := w.heap.setIfInBounds L.blk (.map E' c') } : World).heap[L.blk]? = some (.map E' c') := by
    show (w.heap.setIfInBounds L.blk _)[L.blk]? = _
    simp [Array.getElem?_setIfInBounds, hlt]
  refine ⟨h.put hb hL hN _ rfl rfl rfl (by simp) hold ⟨h0, E', c', hnew, fun _ => ⟨hN, hB⟩, h1, h2⟩, put_ext h hb hL _ hold (by simp)⟩

theorem modify_map {α β : Type} (g : α → β) (f : α → α) (x : β) (h : ∀ e, g (f e) = x) (l : List α) (i : Nat) : (l.modify i f).map g = (l.map g).set i x := by
  apply List.ext_getElem?
  intro j
  simp only [List.getElem?_map, List.getElem?_modify, List.getElem?_set, List.length_map]
  by_cases hj : i = j
  · subst hj
    by_cases hl : i < l.length
    · simp [hl, h]
    · simp [hl, List.getElem?_eq_none (Nat.le_of_not_lt hl)]
  · simp [hj]

theorem map_set' {α β : Type} (f : α → β) (l : List α) (i : Nat) (x : α) : (l.set i x).map f = (l.map f).set i (f x) := by
  rw [List.map_set]

theorem born_modify {E : Array MapEntry} {c : Nat} (h : Born E c) (i : Nat) (f : MapEntry → MapEntry) (hf : ∀ e, (f e).born = e.born) : Born (E.modify i f) c := by
  have hm : (E.modify i f).toList.map (·.born) = E.toList.map (·.born) := by
    rw [Array.toList_modify]
    apply List.ext_getElem?
    intro j
    simp only [List.getElem?_map, List.getElem?_modify]
    by_cases hj : i = j
    · subst hj; cases E.toList[i]? <;> simp [hf]
    · simp [hj]
  refine ⟨?_, fun e he => ?_⟩
  · have := List.pairwise_map.2 h.1
    rw [← hm] at this
    exact List.pairwise_map.1 this
  · have : e.born ∈ E.toList.map (·.born) := by rw [← hm]; exact List.mem_map_of_mem he
    obtain ⟨e2, h2, h3⟩ := List.mem_map.1 this
    rw [← h3]; exact h.2 e2 h2
theorem born_push {E : Array MapEntry} {c : Nat} (h : Born E c) (e : MapEntry) (he : e.born = c) : Born (E.push e) (c + 1) := by
  refine ⟨?_, fun x hx => ?_⟩
  · rw [Array.toList_push]
    refine List.pairwise_append.2 ⟨h.1, by simp, fun a ha b hb => ?_⟩
    simp only [List.mem_singleton] at hb; subst hb
    rw [he]; exact h.2 a ha
  · rw [Array.toList_push, List.mem_append] at hx
    rcases hx with hx | hx
    · have := h.2 x hx; omega
    · simp only [List.mem_singleton] at hx; subst hx; omega
theorem born_erase {E E' : Array MapEntry} {c i : Nat} (h : Born E c) (he : E'.toList = E.toList.eraseIdx i) : Born E' c := by
  have hs : List.Sublist (E.toList.eraseIdx i) E.toList := List.eraseIdx_sublist _ _
  refine ⟨?_, fun e hm => ?_⟩
  · rw [he]; exact h.1.sublist hs
  · rw [he] at hm; exact h.2 e (hs.subset hm)

theorem mapSet_sound (h : Rel N w₀ ρ H w) {kk : KK} {m k v m' k' v' r : V} {H' : Heap} {t kt et : TypeId} (hu : P.underlying t = some (.map kt et)) (hf : keyT P kt = some kk)
    (hl : mapSet kk m k v H = some (r, H')) (hm : VRel ρ m m') (hk : VRel ρ k k') (hv : VRel ρ v v') :
    r = undef ∧ ∃ w', (Instr.mapUpdate t m' k' v').run P w = .ok () w' ∧ Rel N w₀ ρ H' w' ∧ Ext ρ H w ρ H' w' := by
  unfold mapSet at hl
  split at hl
  · rename_i hcond
    simp only [Bool.and_eq_true] at hcond
    have hck := fun em => checkKey_of hf hk hcond.1.1 em w
    split at hl
    · rename_i b
      split at hl
      · rename_i es hb
        have hm2 : ∃ L, ρ b = some L ∧ m' = .map (some L.blk) := by cases hm; exact ⟨_, by assumption, rfl⟩
        obtain ⟨L, hL, rfl⟩ := hm2
        obtain ⟨E, clk, h1, hN, h0, h2, h3⟩ := h.map hb hL
        have hlt := h.lt hb hL
        split at hl
        · rename_i i hi
          cases hl
          have hfk := findKey_of hf hk es E.toList (some i) h2 hi w
          have hlt2 := findK_lt kk k es i hi
          have hlE : i < E.size := by have := h2.length; simp at this; omega
          obtain ⟨e, he, hq⟩ := findK_eq kk k es i hi
          have hke : VRel ρ e.1 E[i].key := by
            obtain ⟨x', hx', hrel⟩ := h2.get i e.1 (by simp [he])
            have : E[i].key = x' := by simpa [hlE] using hx'
            rw [this]; exact hrel
          have hstay : (Instr.keyThatStays E[i].key k').run P w = .ok k' w := by
            have : Instr.sameBits 10000 E[i].key k' = true := keyEq_same hq hk hke 9999
            simp [Instr.keyThatStays, this]
          have hbind : (some i).bind (fun j => (E.toList[j]?).map fun e => (j, e.val)) = some (i, E[i].val) := by simp [hlE]
          rw [hbind] at hfk
          obtain ⟨g1, g2⟩ := setObj_goes h hb hL (es' := es.set i (k, v)) (E' := E.modify i fun e => { e with key := k', val := v' }) (c' := clk) h0 (hN rfl).1 (born_modify (hN rfl).2 _ _ fun _ => rfl)
            (by rw [map_set', Array.toList_modify, modify_map _ _ k' (fun _ => rfl)]; exact h2.set hk i)
            (by rw [map_set', Array.toList_modify, modify_map _ _ v' (fun _ => rfl)]; exact h3.set hv i) hlt
          refine ⟨rfl, _, ?_, g1, g2⟩
          have hei : E[i]? = some E[i] := by simp [hlE]
          simp [Instr.mapUpdate, run_underlying hu, run_getObj_map h1, hck, hfk, hei, hstay, run_setObj_map h1]
        · rename_i hi
          cases hl
          have hfk := findKey_of hf hk es E.toList none h2 hi w
          obtain ⟨g1, g2⟩ := setObj_goes h hb hL (es' := es ++ [(k, v)]) (E' := E.push { key := k', val := v', born := clk }) (c' := clk + 1) h0 (hN rfl).1 (born_push (hN rfl).2 _ rfl)
            (by simpa using h2.append (.cons hk .nil)) (by simpa using h3.append (.cons hv .nil)) hlt
          refine ⟨rfl, _, ?_, g1, g2⟩
          simp [Instr.mapUpdate, run_underlying hu, run_getObj_map h1, hck, hfk, run_setObj_map h1]
        · cases hl
      · cases hl
    · cases hl
  · cases hl

theorem map_eraseIdx {α β : Type} (f : α → β) : ∀ (l : List α) (i : Nat), (l.eraseIdx i).map f = (l.map f).eraseIdx i
  | [], i => by simp
  | x :: l, 0 => by simp
  | x :: l, i + 1 => by simp [map_eraseIdx f l i]

theorem LRel.eraseIdx {l l' : List V} (h : LRel ρ l l') : ∀ n, LRel ρ (l.eraseIdx n) (l'.eraseIdx n) := by
  induction h with
  | nil => intro n; simp; exact .nil
  | cons h g ih => intro n; cases n with
    | zero => simpa using g
    | succ n => simp; exact .cons h (ih n)

theorem setObj_same (h : Rel N w₀ ρ H w) {b : Nat} {es : List (V × V)} (hb : H.get b = some (.map true es)) {L : Loc} (hL : ρ b = some L) {E : Array MapEntry} {c : Nat} (h1 : w.heap[L.blk]? = some (.map E c)) :
    ({ w with heap := w.heap.setIfInBounds L.blk (.map E c) } : World) = w := by
  have : w.heap.setIfInBounds L.blk (.map E c) = w.heap := by
    apply Array.ext_getElem?
    intro k
    by_cases hk : k = L.blk
    · subst hk; rw [h1]; have := h.lt hb hL; simp [Array.getElem?_setIfInBounds, this]
    · exact Array.getElem?_setIfInBounds_ne (fun e => hk e.symm)
  rw [this]

theorem mapDel_sound (h : Rel N w₀ ρ H w) {kk : KK} {m k m' k' r : V} {H' : Heap} {t u ty kt et : TypeId} (hu : P.underlying t = some (.map kt et)) (hf : keyT P kt = some kk)
    (hl : mapDel kk m k H = some (r, H')) (hm : VRel ρ m m') (hk : VRel ρ k k') :
    r = undef ∧ ∃ w', (Builtin.delete_ #[t, u] ty #[m', k']).run P w = .ok (.tuple #[]) w' ∧ Rel N w₀ ρ H' w' ∧ Ext ρ H w ρ H' w' := by
  unfold mapDel at hl
  split at hl
  · rename_i hcond
    have hck := fun em => checkKey_of hf hk hcond em w
    split at hl
    · cases hl
      have : m' = .map none := by cases hm; rfl
      subst this
      exact ⟨rfl, w, by simp [Builtin.delete_, run_underlying hu, hck], h, .refl _ _ _⟩
    · rename_i b
      split at hl
      · rename_i es hb
        have hm2 : ∃ L, ρ b = some L ∧ m' = .map (some L.blk) := by cases hm; exact ⟨_, by assumption, rfl⟩
        obtain ⟨L, hL, rfl⟩ := hm2
        obtain ⟨E, clk, h1, hN, h0, h2, h3⟩ := h.map hb hL
        have hlt := h.lt hb hL
        split at hl
        · rename_i i hi
          cases hl
          have hfk := findKey_of hf hk es E.toList (some i) h2 hi w
          have hlt2 := findK_lt kk k es i hi
          have hlE : i < E.size := by have := h2.length; simp at this; omega
          have hbind : (some i).bind (fun j => (E.toList[j]?).map fun e => (j, e.val)) = some (i, E[i].val) := by simp [hlE]
          rw [hbind] at hfk
          have hto : (E.eraseIdxIfInBounds i).toList = E.toList.eraseIdx i := by simp [Array.eraseIdxIfInBounds, hlE]
          obtain ⟨g1, g2⟩ := setObj_goes h hb hL (es' := es.eraseIdx i) (E' := E.eraseIdxIfInBounds i) (c' := clk) h0 (hN rfl).1 (born_erase (hN rfl).2 hto)
            (by rw [hto, map_eraseIdx, map_eraseIdx]; exact h2.eraseIdx i) (by rw [hto, map_eraseIdx, map_eraseIdx]; exact h3.eraseIdx i) hlt
          refine ⟨rfl, _, ?_, g1, g2⟩
          simp [Builtin.delete_, run_underlying hu, run_getObj_map h1, hck, hfk, run_setObj_map h1]
        · rename_i hi
          cases hl
          have hfk := findKey_of hf hk es E.toList none h2 hi w
          refine ⟨rfl, w, ?_, h, .refl _ _ _⟩
          simp [Builtin.delete_, run_underlying hu, run_getObj_map h1, hck, hfk, run_setObj_map h1, setObj_same h hb hL h1]
        · cases hl
      · cases hl
    · cases hl
  · cases hl

end Go.AM
