/- Structs whose fields are of one cell each, among the arguments and their elements. -/
import Derived.Test.YtfcjpopnibhagaaDoorAmOpenS
set_option linter.all false
namespace Go.AM
open Go.ChangeShapes Go.WideShapes

variable {H : Type} {enc : TypeId × Value → H} {P : Program} {W : World}

/-- t is a struct of fields of the types ts, one cell each: told by evaluation -/
def flatStruct (P : Program) (t : TypeId) (ts : List TypeId) : Bool := match P.underlying t with
  | some (.struct fs) => (fs.size == ts.length) && (P.cellsOf t == ts.length) && (List.range ts.length).all fun i => match fs[i]?, ts[i]? with
    | some f, some u => (f.offset == i) && (P.cellsOf f.type == 1) && (f.type == u)
    | _, _ => false
  | _ => false
theorem flatStruct_spec {t : TypeId} {ts : List TypeId} (h : flatStruct P t ts = true) : ∃ fs : Array Field, P.underlying t = some (.struct fs) ∧ fs.size = ts.length ∧ P.cellsOf t = ts.length ∧ ∀ (i : Nat) (u : TypeId), ts[i]? = some u → ∃ f, fs[i]? = some f ∧ f.offset = i ∧ P.cellsOf f.type = 1 ∧ f.type = u := by
  unfold flatStruct at h
  split at h
  · rename_i fs hfs
    simp only [Bool.and_eq_true, beq_iff_eq, List.all_eq_true, List.mem_range] at h
    obtain ⟨⟨h1, h2⟩, h3⟩ := h
    refine ⟨fs, hfs, h1, h2, fun i u hu => ?_⟩
    have hi : i < ts.length := by
      rcases Nat.lt_or_ge i ts.length with q | q
      · exact q
      · rw [List.getElem?_eq_none q] at hu; cases hu
    have := h3 i hi
    rw [hu] at this
    split at this
    · rename_i f u' hf hu'
      cases hu'
      simp only [Bool.and_eq_true, beq_iff_eq] at this
      exact ⟨f, hf, this.1.1, this.1.2, this.2⟩
    · cases this
  · cases h
theorem flat_read {t : TypeId} {ts : List TypeId} (hk : flatStruct P t ts = true) {n : Nat} {cs : List Value} {x : DataW H × List MemPlace} (h : DataW.trod enc P W 0 (fun _ => true) true n t cs = some x) :
    cs.length = ts.length ∧ ∃ (m : Nat) (ds : List (DataW H × List MemPlace)), ds.length = ts.length ∧ x.1 = .agg (ds.map (·.1)) ∧ ∀ (i : Nat) (u : TypeId), ts[i]? = some u → ∃ c d, cs[i]? = some c ∧ ds[i]? = some d ∧ DataW.trod enc P W 0 (fun _ => true) true m u [c] = some d := by
  obtain ⟨fs, ht, hs, hc, hf⟩ := flatStruct_spec hk
  obtain ⟨xs, m, _, rfl, hl, hlen, hx⟩ := DataW.trod_struct ht h
  refine ⟨by omega, m, xs, by omega, rfl, fun i u hu => ?_⟩
  have hi : i < ts.length := by
    rcases Nat.lt_or_ge i ts.length with q | q
    · exact q
    · rw [List.getElem?_eq_none q] at hu; cases hu
  obtain ⟨f, hfi, q1, q2, q3⟩ := hf i u hu
  have := hx i _ hfi
  rw [q1, q2, q3] at this
  have hcs : i < cs.length := by omega
  have e : (cs.drop i).take 1 = [cs[i]] := by rw [List.drop_eq_getElem_cons hcs, List.take_succ_cons, List.take_zero]
  have hxi : xs[i]? = some xs[i] := List.getElem?_eq_getElem (by omega)
  rw [e, hxi] at this
  exact ⟨cs[i], xs[i], List.getElem?_eq_getElem hcs, hxi, this⟩
/-- a struct among the arguments -/
theorem struct_ok {t : TypeId} {ts : List TypeId} (hk : flatStruct P t ts = true) (hts : P.cellTypes P.depth t = some ts) {base : Nat} {v : Value} (hval : Value.okWide P W .any base t v) :
    ∃ cs : List Value, v = .agg cs.toArray ∧ cs.length = ts.length ∧ ∀ (i : Nat) (u : TypeId) (c : Value), ts[i]? = some u → cs[i]? = some c → Cell.okWide P W .any base u c := by
  obtain ⟨fs, ht, hs, hc, hf⟩ := flatStruct_spec hk
  simp only [Value.okWide, ht] at hval
  obtain ⟨cs, rfl, hsz, ts', hts', hn, hcell⟩ := hval
  rw [hts] at hts'; cases hts'
  refine ⟨cs.toList, by simp, by simp; omega, fun i u c hu hc' => ?_⟩
  have hi : i < ts.length := by
    rcases Nat.lt_or_ge i ts.length with q | q
    · exact q
    · rw [List.getElem?_eq_none q] at hu; cases hu
  obtain ⟨u', h1, h2⟩ := hcell i c (by rw [← hc', Array.getElem?_toList])
  rw [Nat.mod_eq_of_lt hi, hu] at h1
  cases h1; exact h2
end Go.AM
