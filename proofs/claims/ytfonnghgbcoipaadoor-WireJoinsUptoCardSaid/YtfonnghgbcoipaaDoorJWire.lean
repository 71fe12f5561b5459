/- wire: how the arguments of its laws are opened; the listed variable -/
import Derived.Test.YtfonnghgbcoipaaDoorWiN
import Derived.Test.YtfonnghgbcoipaaDoorAmOpenF
import Derived.Test.YtfonnghgbcoipaaDoorRows
import Derived.WalkKit
import Derived.ProofKit
import Derived.Deep.DeepHandedRow
import Derived.LaidHandle
set_option linter.all false
namespace Go.AM.Cap
open Go.AM Go.Proofs Go.Proofs.YtfonnghgbcoipaaDoor Go.ChangeShapes Go.WideShapes

/-! the listed variable -/
theorem et : Tryd.prog.globalNamed "errors.errorType" = some 0 := by kernel_rfl
theorem rt : (Tryd.prog.cutTypes.find? (·.1 == "internal/reflectlite.rtype")).map (·.2) = some 72 := by kernel_rfl
theorem oneRow : ((List.range Tryd.prog.types.size).filter fun t => Tryd.prog.rowNamed t [101, 114, 114, 111, 114]) = [43] := by kernel_rfl
theorem handle {W : World} (h : laidMetH Tryd.prog Rows.wireListsRow.laid W) : W.cell? ⟨0, 0, none⟩ = some (.iface 72 (.agg #[.pointer (some ⟨1, 43, none⟩)])) := by
  have h' : laidMet Tryd.prog [] W ∧ handlesMet Tryd.prog Rows.wireListsRow.laid W := h
  obtain ⟨name, u, ty, e1, e2, e3, e4, e5⟩ := h'.2 _ (List.mem_singleton.2 rfl)
  have en : name = [101, 114, 114, 111, 114] := (Option.some.inj e1).symm
  subst en
  obtain rfl := Option.some.inj (rt.symm.trans e2)
  have hm : ty ∈ (List.range Tryd.prog.types.size).filter fun t => Tryd.prog.rowNamed t [101, 114, 114, 111, 114] := List.mem_filter.2 ⟨List.mem_range.2 e3, e4⟩
  rw [oneRow] at hm
  obtain rfl := List.mem_singleton.1 hm
  have hh : typeHandle Tryd.prog 43 = .pointer (some ⟨1, 43, none⟩) := by kernel_rfl
  rw [hh] at e5
  simpa using World.var?_cell et e5 0
theorem tok {W : World} (h : laidMetH Tryd.prog Rows.wireListsRow.laid W) : Tryd.prog.globals.size ≤ W.heap.size ∧ Tok (heap0 W) := by
  have hc := handle h
  unfold World.cell? at hc
  split at hc
  · rename_i c t f hb
    have hb' : W.heap[0]? = some (.cells c t f) := hb
    have hlt : 0 < W.heap.size := by
      rcases Nat.eq_zero_or_pos W.heap.size with q | q
      · rw [Array.getElem?_eq_none (by omega)] at hb'; cases hb'
      · exact q
    refine ⟨by rw [show Tryd.prog.globals.size = 1 by kernel_rfl]; omega, ?_⟩
    unfold Tok Heap.cell
    rw [heap0_get, hb']
    have h0 : c[0]? = some (.iface 72 (.agg #[.pointer (some ⟨1, 43, none⟩)])) := by simpa using hc
    show (c.toList.map (absV W.heap.size))[0]? = _
    rw [List.getElem?_map, Array.getElem?_toList, h0]
    rfl
  · cases hc
noncomputable def laidWorld (os : Os) : World :=
  let w0 := World.holding Tryd.prog os ⟨#[], #[], []⟩
  { w0 with heap := w0.heap.modify 0 fun
      | .cells _ t frozen => .cells #[.iface 72 (.agg #[.pointer (some ⟨1, 43, none⟩)])] t frozen
      | o => o }

theorem u8_wf {n : Int} (h : (Lit.int .u8 n).wf = true) : ∃ b : BitVec 8, n = (b.toNat : Int) := by
  simp [Lit.wf, IntKind.min, IntKind.max, IntKind.signed, IntKind.bits] at h
  refine ⟨BitVec.ofInt 8 n, ?_⟩
  rw [BitVec.toNat_ofInt]
  omega
section
variable {H : Type} {enc : TypeId × Value → H} {P : Program} {W : World}
def datIt (x : It) : DataW H := .agg [.lit (.bool x.t), .lit (.int .i64 x.n), .lit (.string x.s.data.toList)]
theorem op_it {t tb tn ts : TypeId} (hk : flatStruct P t [tb, tn, ts] = true) (hb : P.underlying tb = some .bool) (hn : P.underlying tn = some (.int .i64)) (hs : P.underlying ts = some .string) (n : Nat) (cs : List Value) (x : DataW H × List MemPlace) (h : DataW.trod enc P W 0 (fun _ => true) true n t cs = some x) :
    ∃ a : It, cs.map (absV W.heap.size) = Flat.enc a ∧ x.1 = datIt a ∧ okI a := by
  obtain ⟨hl, m, ds, hdl, hx, hr⟩ := flat_read hk h
  obtain ⟨c0, d0, e0, f0, r0⟩ := hr 0 tb rfl
  obtain ⟨c1, d1, e1, f1, r1⟩ := hr 1 tn rfl
  obtain ⟨c2, d2, e2, f2, r2⟩ := hr 2 ts rfl
  obtain ⟨a, ha, hda⟩ := DataW.trod_bool hb r0
  obtain ⟨b, hb', hdb, hgb⟩ := DataW.trod_int hn r1
  obtain ⟨c, hc', hdc, _⟩ := DataW.trod_string hs r2
  cases ha; cases hb'; cases hc'
  match cs, ds, hl, hdl with
  | [_, _, _], [_, _, _], _, _ =>
    simp only [List.getElem?_cons_zero, List.getElem?_cons_succ] at e0 e1 e2 f0 f1 f2
    cases e0; cases e1; cases e2; cases f0; cases f1; cases f2
    exact ⟨⟨a, b, c⟩, rfl, by rw [hx, hda, hdb, hdc]; rfl, i64_wf hgb⟩
theorem bulk_pos (d : DataW H) : 1 ≤ Rows.uptoBulk d := by
  cases d with
  | lit l => cases l <;> simp [Rows.uptoBulk]
  | _ => simp [Rows.uptoBulk]
theorem bulk_len : ∀ l : List (DataW H), l.length ≤ Rows.uptoBulkAll l
  | [] => Nat.zero_le _
  | d :: l => by
    have := bulk_pos d
    have := bulk_len l
    simp only [List.length_cons, Rows.uptoBulkAll]; omega
theorem open_its {t te tb tn ts : TypeId} (ht : P.underlying t = some (.slice te)) (hce : P.cellsOf te = 3) (hk : flatStruct P te [tb, tn, ts] = true) (hb : P.underlying tb = some .bool) (hn : P.underlying tn = some (.int .i64)) (hs : P.underlying ts = some .string)
    {base : Nat} {v : Value} {d : DataW H} {ps : List MemPlace} (hval : Value.okWide P W .any base t v) (h : DataW.Trod enc P W 0 (fun _ => true) true t v d ps) : ∃ l : List It, Sl (heap0 W) (absV W.heap.size v) l ∧ (∀ x ∈ l, okI x) ∧ l.length ≤ Rows.uptoBulk d := by
  have hc : Cell.okWide P W .any base t v := by simpa only [Value.okWide, ht] using hval
  obtain ⟨s1, s2⟩ := ok_slc ht hc
  obtain ⟨xs, h1, h2, h3⟩ := open_gen (α := It) (datR := fun _ _ => True) (good := okI) ht hce (fun _ n cs x hx => by
    obtain ⟨a, q1, _, q2⟩ := op_it hk hb hn hs n cs x hx
    exact ⟨a, q1, trivial, q2⟩) s1 s2 h
  refine ⟨xs, h1, h2, ?_⟩
  rcases h3 with ⟨rfl, rfl⟩ | ⟨D, rest, rfl, _⟩
  · exact Nat.zero_le _
  · have := bulk_len ((List.range xs.length).map D)
    rw [List.length_map, List.length_range] at this
    simp only [Rows.uptoBulk]; omega
end
end Go.AM.Cap
