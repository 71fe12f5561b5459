import Derived.Test.YtjchglndancedaaGreatDoorCfZ
import Derived.Test.YtjchglndancedaaGreatDoorCfLib
import Derived.Test.YtjchglndancedaaGreatDoorAmOpenN
import Derived.Test.YtjchglndancedaaGreatDoorRows
import Derived.WalkKit
import Derived.ProofKit
import Derived.Deep.DeepWitnessRowRef
import Derived.LaidHandle
import Derived.Lib.LaidTab
import Derived.Shelf.Vars
set_option linter.all false
/- conf: how the arguments of its laws are opened; the listed variables, two errors among them -/
namespace Go.AM.Cap
open Go.AM Go.Proofs Go.Proofs.YtjchglndancedaaGreatDoor Go.ChangeShapes Go.WideShapes Go.RowKit
def noM (_ : List V) : M V := fail
theorem known_no {P : Program} {f : Nat} (h : zs3 P f = true) : zq P f noM := ⟨h, fun N w₀ ρ H w args args' r H' hG hR ha hl => (zv hl).elim⟩
theorem blocks_of {P : Program} {W : World} (h : W.ShapedOpen P) {n : Nat} (hg : P.globals.size = n + 1) (hz : ((((begin P (fun _ _ => 0) default).world.heap[n]?).bind Obj.row?).isSome) = true) : P.globals.size ≤ W.heap.size := by
  obtain ⟨x, hx⟩ := Option.isSome_iff_exists.1 hz
  obtain ⟨cs, hc, _⟩ := h.1 n x.1 x.2 (by omega) hx
  rw [hg]
  by_cases q : n < W.heap.size
  · omega
  · rw [Array.getElem?_eq_none (by omega)] at hc; cases hc
theorem maxL {W : World} (h : W.ShapedOpen Tryz.prog) : ML (zoe W) := by
  obtain ⟨m, hm⟩ := cell_of_shapedOpen_int (g := 2) (t := 3) (zero := #[.int .i64 0]) (k := .i64) h (by rw [show Tryz.prog.globals.size = 10 by kernel_rfl]; decide) (by kernel_rfl) rfl (by kernel_rfl) (by kernel_rfl) (by kernel_rfl)
  refine ⟨m, ?_⟩
  unfold World.cell? at hm
  split at hm
  · rename_i c t f hb
    have hb' : W.heap[2]? = some (.cells c t f) := hb
    unfold Heap.cell
    rw [zwi, hb']
    have h0 : c[0]? = some (.int .i64 m) := by simpa using hm
    show (c.toList.map (zlj W.heap.size))[0]? = _
    rw [List.getElem?_map, Array.getElem?_toList, h0]
    rfl
  · cases hm
def bya (l : List UInt8) : ByteArray := ⟨l.toArray⟩
theorem zbdv {H : Type} {enc : TypeId × Value → H} {P : Program} {w : World} {base : Nat} {sp : Nat → Bool} {held : Bool} {fuel : Nat} {t e : TypeId} {n : Nat} {cs : List Value} {zs : List (List UInt8)} {p : List MemPlace}
    (ht : P.underlying t = some (.array n e)) (he : P.underlying e = some .string) (hce : P.cellsOf e = 1) (hct : P.cellsOf t = n)
    (h : DataW.trod enc P w base sp held fuel t cs = some (.agg (zs.map fun z => .lit (.string z)), p)) : cs = zs.map fun z => Value.string (bya z) := by
  cases fuel with
  | zero => simp [DataW.trod] at h
  | succ fuel =>
    simp only [DataW.trod, ht, hce, hct, Nat.mul_one] at h
    split at h
    · rename_i hl
      obtain ⟨xs, hm, hx⟩ := Option.map_eq_some_iff.1 h
      have hxs : xs.map (·.1) = zs.map fun z => (DataW.lit (.string z) : DataW H) := by
        have := congrArg Prod.fst hx
        simpa using this
      have hxl : xs.length = n := by simpa using Lib.mapM_length hm
      have hzl : zs.length = n := by
        have := congrArg List.length hxs
        simp at this
        omega
      apply List.ext_getElem?
      intro i
      by_cases hi : i < n
      · obtain ⟨b, hb, hf⟩ := Lib.mapM_at hm i i (by simp [hi])
        obtain ⟨z, hc, rfl, _⟩ := DataW.trod_string he hf
        have h1 : cs[i]? = some (.string z) := by
          have := congrArg (·[0]?) hc
          simpa [List.getElem?_take, List.getElem?_drop] using this
        have h2 : (xs.map (·.1))[i]? = some (DataW.lit (.string z.data.toList) : DataW H) := by simp [hb]
        rw [hxs] at h2
        simp only [List.getElem?_map, Option.map_eq_some_iff, DataW.lit.injEq, Lit.string.injEq] at h2
        obtain ⟨z', hz', rfl⟩ := h2
        rw [h1, List.getElem?_map, hz']
        rfl
      · rw [List.getElem?_eq_none (by omega), List.getElem?_eq_none (by simp; omega)]
    · cases h
theorem zbep {W : World} {name : String} {g : Nat} {t e : TypeId} {n : Nat} {zs : List (List UInt8)} (h2 : laidMet Tryz.prog [(name, .agg (zs.map fun z => .lit (.string z)))] W) (hg : Tryz.prog.globalNamed name = some g) (htg : (Tryz.prog.globals[g]?).map (·.type) = some t)
    (ht : Tryz.prog.underlying t = some (.array n e)) (he : Tryz.prog.underlying e = some .string) (hce : Tryz.prog.cellsOf e = 1) (hct : Tryz.prog.cellsOf t = n) : (zoe W).get g = some (.cells false (zs.map fun z => .string (bya z))) := by
  obtain ⟨ps, ⟨g', t', cs, fuel, p, q, hg', ht', hvar, hd, _, _⟩, _⟩ := h2
  obtain rfl := Option.some.inj (hg.symm.trans hg')
  obtain rfl := Option.some.inj (htg.symm.trans ht')
  have hcs := zbdv ht he hce hct hd
  unfold World.var? at hvar
  rw [hg'] at hvar
  simp only [Option.bind_eq_bind, Option.bind_some] at hvar
  split at hvar
  · rename_i C e f hC
    cases hvar
    have hC' : W.heap[g]? = some (.cells cs e f) := hC
    rw [zwi, hC']
    show some (Blk.cells false (cs.toList.map (zlj W.heap.size))) = _
    rw [hcs]
    simp only [List.map_map]
    rfl
  · cases hvar
def zbvs : List (List UInt8) := [[], [98, 111, 111, 108], [105, 110, 116], [100, 105, 110, 116]]
def zbta : List (List UInt8) := [[], [118, 105, 101, 119], [114, 117, 110], [98, 117, 105, 108, 100], [102, 111, 114, 99, 101]]
def zbqy : DataW Unit → List V
  | .lit (.int k n) => [.int k n]
  | .lit (.string l) => [.string ⟨l.toArray⟩]
  | _ => []
def zbqz : DataW Unit → List V
  | .agg ds => ds.flatMap zbqy
  | d => zbqy d
def z4m : DataW Unit → List V
  | .agg ds => ds.flatMap zbqz
  | d => zbqz d
def lay (cs : List V) (o : Obj) : Obj := match o with
  | .cells _ t frozen => .cells cs.toArray t frozen
  | o => o
noncomputable def N0 (os : Os) : Nat := (World.settled Tryz.prog os).heap.size
noncomputable def zbq0 (os : Os) : World := World.holding Tryz.prog os ⟨#[.cells #[.string ⟨#[105, 110, 118, 97, 108, 105, 100, 32, 115, 121, 110, 116, 97, 120]⟩] 332, .cells #[.string ⟨#[118, 97, 108, 117, 101, 32, 111, 117, 116, 32, 111, 102, 32, 114, 97, 110, 103, 101]⟩] 332], #[], []⟩
noncomputable def laidWorld (os : Os) : World :=
  { zbq0 os with heap := (((((((((zbq0 os).heap.modify 8 (lay (z4m Rows.laid_math_bits_deBruijn32tab))).modify 9 (lay (z4m Rows.laid_math_bits_deBruijn64tab))).modify 5 (lay (z4m Rows.laid_internal_strconv_uint64pow10))).modify 3 (lay (z4m Rows.laid_unicode_utf8_first))).modify 4 (lay (z4m Rows.laid_unicode_utf8_acceptRanges))).modify Cap.gid_conf_types (lay (z4m Rows.laid_capstan_conf_types))).modify Cap.gid_conf_levels (lay (z4m Rows.laid_capstan_conf_levels))).modify 6 (lay [.iface 330 (.pointer (some ⟨N0 os, 0, none⟩))])).modify 7 (lay [.iface 330 (.pointer (some ⟨N0 os + 1, 0, none⟩))]) }
section
variable {H : Type} {enc : TypeId × Value → H} {P : Program} {W : World}
theorem zbq1 (d : DataW H) : 1 ≤ Rows.uptoBulk d := by
  cases d with
  | lit l => cases l <;> simp [Rows.uptoBulk]
  | _ => simp [Rows.uptoBulk]
theorem zbix : ∀ l : List (DataW H), l.length ≤ Rows.uptoBulkAll l
  | [] => Nat.zero_le _
  | d :: l => by
    have := zbq1 d
    have := zbix l
    simp only [List.length_cons, Rows.uptoBulkAll]; omega
theorem bulk_mem : ∀ {l : List (DataW H)} {d : DataW H}, d ∈ l → Rows.uptoBulk d ≤ Rows.uptoBulkAll l
  | d :: l, x, h => by
    simp only [Rows.uptoBulkAll]
    rcases List.mem_cons.1 h with rfl | h
    · omega
    · have := bulk_mem h; omega
theorem zbl5 {α : Type} {xs : List α} {d : DataW H} {R : DataW H → α → Prop} (h : (d = .nil ∧ xs = []) ∨ ∃ D rest, d = .slice ((List.range xs.length).map D) rest ∧ ∀ i x, xs[i]? = some x → R (D i) x) : xs.length ≤ Rows.uptoBulk d := by
  rcases h with ⟨rfl, rfl⟩ | ⟨D, rest, rfl, _⟩
  · exact Nat.zero_le _
  · have := zbix ((List.range xs.length).map D)
    rw [List.length_map, List.length_range] at this
    simp only [Rows.uptoBulk]; omega
end
end Go.AM.Cap
