/- Structs of whole numbers among the arguments' elements. -/
import Derived.Test.YtfcjpopnibhagaaDoorAmOpen
set_option linter.all false
namespace Go.AM
open Go.ChangeShapes Go.WideShapes

variable {H : Type} {enc : TypeId × Value → H} {P : Program} {W : World}

/-- t is a struct of k ints, told by evaluation -/
def intsOk (P : Program) (t : TypeId) (k : Nat) : Bool := match P.underlying t with
  | some (.struct fs) => (fs.size == k) && (P.cellsOf t == k) && (List.range k).all fun i => match fs[i]? with
    | some f => (f.offset == i) && (P.cellsOf f.type == 1) && (match P.underlying f.type with | some (.int .i64) => true | _ => false)
    | none => false
  | _ => false
theorem intsOk_spec {t : TypeId} {k : Nat} (h : intsOk P t k = true) : ∃ fs : Array Field, P.underlying t = some (.struct fs) ∧ fs.size = k ∧ P.cellsOf t = k ∧ ∀ (i : Nat) (f : Field), fs[i]? = some f → f.offset = i ∧ P.cellsOf f.type = 1 ∧ P.underlying f.type = some (.int .i64) := by
  unfold intsOk at h
  split at h
  · rename_i fs hfs
    simp only [Bool.and_eq_true, beq_iff_eq, List.all_eq_true, List.mem_range] at h
    obtain ⟨⟨h1, h2⟩, h3⟩ := h
    refine ⟨fs, hfs, h1, h2, fun i f hf => ?_⟩
    have hi : i < k := by
      rcases Nat.lt_or_ge i fs.size with q | q
      · omega
      · rw [Array.getElem?_eq_none q] at hf; cases hf
    have := h3 i hi
    rw [hf] at this
    simp only [Bool.and_eq_true, beq_iff_eq] at this
    obtain ⟨⟨q1, q2⟩, q3⟩ := this
    refine ⟨q1, q2, ?_⟩
    split at q3
    · assumption
    · cases q3
  · cases h
theorem op_ints {t : TypeId} {k : Nat} (hk : intsOk P t k = true) (n : Nat) (cs : List Value) (x : DataW H × List MemPlace) (h : DataW.trod enc P W 0 (fun _ => true) true n t cs = some x) :
    ∃ ns : List Int, ns.length = k ∧ cs = ns.map i64 ∧ x.1 = .agg (ns.map datI) ∧ ∀ n ∈ ns, goodI n := by
  obtain ⟨fs, ht, hs, hc, hf⟩ := intsOk_spec hk
  obtain ⟨xs, m, _, rfl, hl, hlen, hx⟩ := DataW.trod_struct ht h
  have each : ∀ i, i < k → ∃ v : Int, cs[i]? = some (i64 v) ∧ xs[i]? = some (datI v, []) ∧ goodI v := fun i hi => by
    have hfi : fs[i]? = some fs[i] := Array.getElem?_eq_getElem (by omega)
    obtain ⟨q1, q2, q3⟩ := hf i _ hfi
    have := hx i _ hfi
    rw [q1, q2] at this
    have hxi : xs[i]? = some xs[i] := List.getElem?_eq_getElem (by omega)
    rw [hxi] at this
    obtain ⟨v, e1, e2, e3⟩ := DataW.trod_int q3 this
    refine ⟨v, ?_, by rw [hxi, e2]; rfl, i64_wf e3⟩
    have : ((cs.drop i).take 1)[0]? = some (i64 v) := by rw [e1]; rfl
    rwa [List.getElem?_take, if_pos (by omega), List.getElem?_drop, Nat.add_zero] at this
  have hX := Classical.axiomOfChoice (fun i : Fin k => each i.1 i.2)
  obtain ⟨X, hX⟩ := hX
  refine ⟨(List.finRange k).map X, by simp, ?_, ?_, fun n hn => ?_⟩
  · apply List.ext_getElem?
    intro i
    by_cases hi : i < k
    · rw [(hX ⟨i, hi⟩).1]; simp [hi]
    · rw [List.getElem?_eq_none (by omega), List.getElem?_eq_none (by simp; omega)]
  · show DataW.agg (xs.map (·.1)) = _
    congr 1
    apply List.ext_getElem?
    intro i
    by_cases hi : i < k
    · rw [List.getElem?_map, (hX ⟨i, hi⟩).2.1]; simp [hi]
    · rw [List.getElem?_eq_none (by simp; omega), List.getElem?_eq_none (by simp; omega)]
  · obtain ⟨i, _, rfl⟩ := List.mem_map.1 hn
    exact (hX i).2.2
end Go.AM
