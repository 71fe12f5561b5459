import Derived.Test.YtehhkminlafeiaaGreatDoorSeK
import Derived.Test.YtehhkminlafeiaaGreatDoorAmOpenF
import Derived.Test.YtehhkminlafeiaaGreatDoorRows
import Derived.WalkKit
import Derived.ProofKit
import Derived.Deep.DeepHandedRow
import Derived.LaidHandle
set_option linter.all false
/- sess: how the arguments of its laws are opened; the listed variables -/
namespace Go.AM.Cap
open Go.AM Go.Proofs Go.Proofs.YtehhkminlafeiaaGreatDoor Go.ChangeShapes Go.WideShapes Go.RowKit

def noM (_ : List V) : M V := fail
theorem known_no {P : Program} {f : Nat} (h : plainF P f = true) : Known P f noM := ⟨h, fun N w₀ ρ H w args args' r H' hG hR ha hl => (fail_ne hl).elim⟩
theorem blocks_of {P : Program} {W : World} (h : W.ShapedOpen P) {n : Nat} (hg : P.globals.size = n + 1) (hz : ((((begin P (fun _ _ => 0) default).world.heap[n]?).bind Obj.row?).isSome) = true) : P.globals.size ≤ W.heap.size := by
  obtain ⟨x, hx⟩ := Option.isSome_iff_exists.1 hz
  obtain ⟨cs, hc, _⟩ := h.1 n x.1 x.2 (by omega) hx
  rw [hg]
  by_cases q : n < W.heap.size
  · omega
  · rw [Array.getElem?_eq_none (by omega)] at hc; cases hc

/-! the listed variables -/
theorem tabs {W : World} (h : laidMetH Tryz.prog Rows.sessMakesRow.laid W) : Cap.Base (heap0 W) := by
  have h1 := laidMetH.filter (fun x => x.1 == "capstan/sha.first") h
  have h2 := laidMetH.filter (fun x => x.1 == "capstan/sha.rounds") h
  have t1 : Lib.TabIs Tryz.prog W "capstan/sha.first" .u32 [1779033703, 3144134277, 1013904242, 2773480762, 1359893119, 2600822924, 528734635, 1541459225] :=
    Lib.tabIs_of_head (rest := []) (g := Cap.gid_sha_first) (n := 8) (t := 166) (e := 164) (by kernel_rfl) (by kernel_rfl) (by kernel_rfl) (by kernel_rfl) (by kernel_rfl) (by kernel_rfl) h1
  have t2 : Lib.TabIs Tryz.prog W "capstan/sha.rounds" .u32 (Cap.tab.map fun x => (x.toNat : Int)) :=
    Lib.tabIs_of_head (rest := []) (g := Cap.gid_sha_rounds) (n := 64) (t := 191) (e := 164) (by kernel_rfl) (by kernel_rfl) (by kernel_rfl) (by kernel_rfl) (by kernel_rfl) (by kernel_rfl) h2
  obtain ⟨l1, g1⟩ := tab_block t1 (by kernel_rfl)
  obtain ⟨l2, g2⟩ := tab_block t2 (by kernel_rfl)
  refine ⟨⟨_, _, g1, by decide, rfl⟩, ⟨_, _, g2, fun i hi => ?_⟩⟩
  have hl : Cap.tab.length = 64 := rfl
  simp [List.getElem?_map, List.getElem?_eq_getElem (show i < Cap.tab.length by omega)]
theorem et : Tryz.prog.globalNamed "errors.errorType" = some 1 := by kernel_rfl
theorem rt : (Tryz.prog.cutTypes.find? (·.1 == "internal/reflectlite.rtype")).map (·.2) = some 204 := by kernel_rfl
theorem oneRow : ((List.range Tryz.prog.types.size).filter fun t => Tryz.prog.rowNamed t [101, 114, 114, 111, 114]) = [128] := by kernel_rfl
theorem handle {W : World} (h : laidMetH Tryz.prog Rows.sessMakesRow.laid W) : W.cell? ⟨1, 0, none⟩ = some (.iface 204 (.agg #[.pointer (some ⟨6, 128, none⟩)])) := by
  have h1 := laidMetH.filter (fun x => x.1 == "errors.errorType") h
  have h' : laidMet Tryz.prog [] W ∧ handlesMet Tryz.prog [("errors.errorType", Rows.laid_errors_errorType)] W := h1
  obtain ⟨name, u, ty, e1, e2, e3, e4, e5⟩ := h'.2 _ (List.mem_singleton.2 rfl)
  have en : name = [101, 114, 114, 111, 114] := (Option.some.inj e1).symm
  subst en
  obtain rfl := Option.some.inj (rt.symm.trans e2)
  have hm : ty ∈ (List.range Tryz.prog.types.size).filter fun t => Tryz.prog.rowNamed t [101, 114, 114, 111, 114] := List.mem_filter.2 ⟨List.mem_range.2 e3, e4⟩
  rw [oneRow] at hm
  obtain rfl := List.mem_singleton.1 hm
  have hh : typeHandle Tryz.prog 128 = .pointer (some ⟨6, 128, none⟩) := by kernel_rfl
  rw [hh] at e5
  simpa using World.var?_cell et e5 0
theorem tok {W : World} (h : laidMetH Tryz.prog Rows.sessMakesRow.laid W) : Tok (heap0 W) := by
  have hc := handle h
  unfold World.cell? at hc
  split at hc
  · rename_i c t f hb
    have hb' : W.heap[1]? = some (.cells c t f) := hb
    unfold Tok Heap.cell
    rw [heap0_get, hb']
    have h0 : c[0]? = some (.iface 204 (.agg #[.pointer (some ⟨6, 128, none⟩)])) := by simpa using hc
    show (c.toList.map (absV W.heap.size))[0]? = _
    rw [List.getElem?_map, Array.getElem?_toList, h0]
    rfl
  · cases hc
def cellD1 : DataW Unit → List V
  | .lit (.int k n) => [.int k n]
  | _ => []
def cellD2 : DataW Unit → List V
  | .agg ds => ds.flatMap cellD1
  | d => cellD1 d
def cellD3 : DataW Unit → List V
  | .agg ds => ds.flatMap cellD2
  | d => cellD2 d
def lay (cs : List V) (o : Obj) : Obj := match o with
  | .cells _ t frozen => .cells cs.toArray t frozen
  | o => o
noncomputable def laidWorld (os : Os) : World :=
  { World.holding Tryz.prog os ⟨#[], #[], []⟩ with heap := (((((World.holding Tryz.prog os ⟨#[], #[], []⟩).heap.modify Cap.gid_sha_first (lay (cellD3 Rows.laid_capstan_sha_first))).modify Cap.gid_sha_rounds (lay (cellD3 Rows.laid_capstan_sha_rounds))).modify 3 (lay (cellD3 Rows.laid_unicode_utf8_first))).modify 4 (lay (cellD3 Rows.laid_unicode_utf8_acceptRanges))).modify 1 (lay [.iface 204 (.agg #[.pointer (some ⟨6, 128, none⟩)])]) }

/-! the arguments -/
theorem u8_wf {n : Int} (h : (Lit.int .u8 n).wf = true) : ∃ b : BitVec 8, n = (b.toNat : Int) := by
  simp [Lit.wf, IntKind.min, IntKind.max, IntKind.signed, IntKind.bits] at h
  refine ⟨BitVec.ofInt 8 n, ?_⟩
  rw [BitVec.toNat_ofInt]
  omega
section
variable {H : Type} {enc : TypeId × Value → H} {P : Program} {W : World}
end
end Go.AM.Cap
