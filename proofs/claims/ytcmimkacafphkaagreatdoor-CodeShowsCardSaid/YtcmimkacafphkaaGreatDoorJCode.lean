import Derived.Test.YtcmimkacafphkaaGreatDoorCoP
import Derived.Test.YtcmimkacafphkaaGreatDoorAmOpenF
import Derived.Test.YtcmimkacafphkaaGreatDoorRows
import Derived.WalkKit
import Derived.ProofKit
import Derived.Deep.DeepHandedRow
import Derived.LaidHandle
import Derived.Lib.LaidTab
import Derived.Shelf.Vars
set_option linter.all false
/- code: how the arguments of its laws are opened; the listed variables -/
namespace Go.AM.Cap
open Go.AM Go.Proofs Go.Proofs.YtcmimkacafphkaaGreatDoor Go.ChangeShapes Go.WideShapes Go.RowKit

def noM (_ : List V) : M V := fail
theorem known_no {P : Program} {f : Nat} (h : plainF P f = true) : Known P f noM := ⟨h, fun N w₀ ρ H w args args' r H' hG hR ha hl => (fail_ne hl).elim⟩
theorem blocks_of {P : Program} {W : World} (h : W.ShapedOpen P) {n : Nat} (hg : P.globals.size = n + 1) (hz : ((((begin P (fun _ _ => 0) default).world.heap[n]?).bind Obj.row?).isSome) = true) : P.globals.size ≤ W.heap.size := by
  obtain ⟨x, hx⟩ := Option.isSome_iff_exists.1 hz
  obtain ⟨cs, hc, _⟩ := h.1 n x.1 x.2 (by omega) hx
  rw [hg]
  by_cases q : n < W.heap.size
  · omega
  · rw [Array.getElem?_eq_none (by omega)] at hc; cases hc

/-! the listed variables -/
theorem maxL {W : World} (h : W.ShapedOpen Tryz.prog) : MaxL (heap0 W) := by
  obtain ⟨m, hm⟩ := cell_of_shapedOpen_int (g := 3) (t := 3) (zero := #[.int .i64 0]) (k := .i64) h (by rw [show Tryz.prog.globals.size = 8 by kernel_rfl]; decide) (by kernel_rfl) rfl (by kernel_rfl) (by kernel_rfl) (by kernel_rfl)
  refine ⟨m, ?_⟩
  unfold World.cell? at hm
  split at hm
  · rename_i c t f hb
    have hb' : W.heap[3]? = some (.cells c t f) := hb
    unfold Heap.cell
    rw [heap0_get, hb']
    have h0 : c[0]? = some (.int .i64 m) := by simpa using hm
    show (c.toList.map (absV W.heap.size))[0]? = _
    rw [List.getElem?_map, Array.getElem?_toList, h0]
    rfl
  · cases hm
theorem pow10 {W : World} (h : laidMetH Tryz.prog Rows.codeShowsRow.laid W) : Pow10 (heap0 W) := by
  have h1 := laidMetH.filter (fun x => x.1 == "internal/strconv.uint64pow10") h
  have t1 : Lib.TabIs Tryz.prog W "internal/strconv.uint64pow10" .u64 [1, 10, 100, 1000, 10000, 100000, 1000000, 10000000, 100000000, 1000000000, 10000000000, 100000000000, 1000000000000, 10000000000000, 100000000000000, 1000000000000000, 10000000000000000, 100000000000000000, 1000000000000000000, 10000000000000000000] :=
    Lib.tabIs_of_head (rest := []) (g := 1) (n := 20) (t := 154) (e := 36) (by kernel_rfl) (by kernel_rfl) (by kernel_rfl) (by kernel_rfl) (by kernel_rfl) (by kernel_rfl) h1
  exact (tab_block t1 (by kernel_rfl)).2
/-- an array of texts that reads as the table -/
theorem cells_of_strs {H : Type} {enc : TypeId × Value → H} {P : Program} {w : World} {base : Nat} {sp : Nat → Bool} {held : Bool} {fuel : Nat} {t e : TypeId} {n : Nat} {cs : List Value} {zs : List (List UInt8)} {p : List MemPlace}
    (ht : P.underlying t = some (.array n e)) (he : P.underlying e = some .string) (hce : P.cellsOf e = 1) (hct : P.cellsOf t = n)
    (h : DataW.trod enc P w base sp held fuel t cs = some (.agg (zs.map fun z => .lit (.string z)), p)) : cs = zs.map fun z => Value.string (bya z) := by
  cases fuel with
  | zero => simp [DataW.trod] at h
  | succ fuel =>
    simp only [DataW.trod, ht, hce, hct, Nat.mul_one] at h
    split at h
    · rename_i hl
      obtain ⟨xs, hm, hx⟩ := Option.map_eq_some_iff.1 h
      have hxs : xs.map (·.1) = zs.map fun z => (DataW.lit (.string z) : DataW H) := by
        have := congrArg Prod.fst hx
        simpa using this
      have hxl : xs.length = n := by simpa using Lib.mapM_length hm
      have hzl : zs.length = n := by
        have := congrArg List.length hxs
        simp at this
        omega
      apply List.ext_getElem?
      intro i
      by_cases hi : i < n
      · obtain ⟨b, hb, hf⟩ := Lib.mapM_at hm i i (by simp [hi])
        obtain ⟨z, hc, rfl, _⟩ := DataW.trod_string he hf
        have h1 : cs[i]? = some (.string z) := by
          have := congrArg (·[0]?) hc
          simpa [List.getElem?_take, List.getElem?_drop] using this
        have h2 : (xs.map (·.1))[i]? = some (DataW.lit (.string z.data.toList) : DataW H) := by simp [hb]
        rw [hxs] at h2
        simp only [List.getElem?_map, Option.map_eq_some_iff, DataW.lit.injEq, Lit.string.injEq] at h2
        obtain ⟨z', hz', rfl⟩ := h2
        rw [h1, List.getElem?_map, hz']
        rfl
      · rw [List.getElem?_eq_none (by omega), List.getElem?_eq_none (by simp; omega)]
    · cases h
theorem opNames {W : World} (h : laidMetH Tryz.prog Rows.codeShowsRow.laid W) : OpNames (heap0 W) := by
  have h1 := laidMetH.filter (fun x => x.1 == "capstan/code.opNames") h
  have h2 : laidMet Tryz.prog [("capstan/code.opNames", .agg (opNamesU.map fun z => .lit (.string z)))] W := h1
  obtain ⟨ps, ⟨g', t', cs, fuel, p, q, hg', ht', hvar, hd, _, _⟩, _⟩ := h2
  obtain rfl := Option.some.inj ((show Tryz.prog.globalNamed "capstan/code.opNames" = some Cap.gid_code_opNames by kernel_rfl).symm.trans hg')
  obtain rfl := Option.some.inj ((show (Tryz.prog.globals[Cap.gid_code_opNames]?).map (·.type) = some 46 by kernel_rfl).symm.trans ht')
  have hcs := cells_of_strs (n := 13) (e := 9) (by kernel_rfl) (by kernel_rfl) (by kernel_rfl) (by kernel_rfl) hd
  unfold World.var? at hvar
  rw [hg'] at hvar
  simp only [Option.bind_eq_bind, Option.bind_some] at hvar
  split at hvar
  · rename_i C e f hC
    cases hvar
    have hC' : W.heap[Cap.gid_code_opNames]? = some (.cells cs e f) := hC
    unfold OpNames
    rw [heap0_get, hC']
    show some (Blk.cells false (cs.toList.map (absV W.heap.size))) = _
    rw [hcs]
    rfl
  · cases hvar
def cellD1 : DataW Unit → List V
  | .lit (.int k n) => [.int k n]
  | .lit (.string l) => [.string ⟨l.toArray⟩]
  | _ => []
def cellD2 : DataW Unit → List V
  | .agg ds => ds.flatMap cellD1
  | d => cellD1 d
def cellD3 : DataW Unit → List V
  | .agg ds => ds.flatMap cellD2
  | d => cellD2 d
def lay (cs : List V) (o : Obj) : Obj := match o with
  | .cells _ t frozen => .cells cs.toArray t frozen
  | o => o
noncomputable def laidWorld (os : Os) : World :=
  { World.holding Tryz.prog os ⟨#[], #[], []⟩ with heap := ((((((World.holding Tryz.prog os ⟨#[], #[], []⟩).heap.modify 4 (lay (cellD3 Rows.laid_math_bits_deBruijn32tab))).modify 5 (lay (cellD3 Rows.laid_math_bits_deBruijn64tab))).modify 1 (lay (cellD3 Rows.laid_internal_strconv_uint64pow10))).modify 6 (lay (cellD3 Rows.laid_unicode_utf8_first))).modify 7 (lay (cellD3 Rows.laid_unicode_utf8_acceptRanges))).modify Cap.gid_code_opNames (lay (cellD3 Rows.laid_capstan_code_opNames)) }

/-! the arguments -/
section
variable {H : Type} {enc : TypeId × Value → H} {P : Program} {W : World}
theorem open_ins {t ti tn : TypeId} (hk : flatStruct P t [ti, ti, ti, tn] = true) (hct : P.cellTypes P.depth t = some [ti, ti, ti, tn]) (hi : P.underlying ti = some (.int .i64)) (hn : P.underlying tn = some (.int .i64))
    {base : Nat} {v : Value} {d : DataW H} {ps : List MemPlace} (hval : Value.okWide P W .any base t v) (h : DataW.Trod enc P W 0 (fun _ => true) true t v d ps) :
    ∃ i : Ins, absV W.heap.size v = .agg (Flat.enc i).toArray ∧ InsOk i := by
  obtain ⟨cs, rfl, hcl, hok⟩ := struct_ok hk hct hval
  obtain ⟨fuel, hf⟩ := h
  have hcells : (Value.agg cs.toArray).cells.toList = cs := by simp [Value.cells]
  rw [hcells] at hf
  obtain ⟨_, m, ds, hdl, hx, hrd⟩ := flat_read hk hf
  obtain ⟨c0, d0, e0, f0, r0⟩ := hrd 0 ti rfl
  obtain ⟨c1, d1, e1, f1, r1⟩ := hrd 1 ti rfl
  obtain ⟨c2, d2, e2, f2, r2⟩ := hrd 2 ti rfl
  obtain ⟨c3, d3, e3, f3, r3⟩ := hrd 3 tn rfl
  obtain ⟨a0, h0, _, _⟩ := DataW.trod_int hi r0
  obtain ⟨a1, h1, _, w1⟩ := DataW.trod_int hi r1
  obtain ⟨a2, h2, _, w2⟩ := DataW.trod_int hi r2
  obtain ⟨a3, h3, _, w3⟩ := DataW.trod_int hn r3
  cases h0; cases h1; cases h2; cases h3
  match cs, ds, hcl, hdl with
  | [_, _, _, _], [y0, y1, y2, y3], _, _ =>
    simp only [List.getElem?_cons_zero, List.getElem?_cons_succ] at e0 e1 e2 e3
    cases e0; cases e1; cases e2; cases e3
    refine ⟨⟨a0, a1, a2, a3⟩, ?_, i64_wf w1, i64_wf w2, i64_wf w3⟩
    simp only [absV, List.map_toArray, List.map_cons, List.map_nil]
    rfl
end
end Go.AM.Cap
