import Derived.Test.YtcmimkacafphkaaGreatDoorCoP
import Derived.Test.YtcmimkacafphkaaGreatDoorAmOpenF
import Derived.Test.YtcmimkacafphkaaGreatDoorRows
import Derived.WalkKit
import Derived.ProofKit
import Derived.Deep.DeepHandedRow
import Derived.LaidHandle
import Derived.Lib.LaidTab
import Derived.Shelf.Vars
set_option linter.all false
/- code: how the arguments of its laws are opened; the listed variables -/
namespace Go.AM.Cap
open Go.AM Go.Proofs Go.Proofs.YtcmimkacafphkaaGreatDoor Go.ChangeShapes Go.WideShapes Go.RowKit

def noM (_ : List V) : M V := fail
theorem known_no {P : Program} {f : Nat} (h : plainF P f = true) : Known P f noM := ⟨h, fun N w₀ ρ H w args args' r H' hG hR ha hl => (fail_ne hl).elim⟩
theorem blocks_of {P : Program} {W : World} (h : W.ShapedOpen P) {n : Nat} (hg : P.globals.size = n + 1) (hz : ((((begin P (fun _ _ => 0) default).world.heap[n]?).bind Obj.row?).isSome) = true) : P.globals.size ≤ W.heap.size := by
  obtain ⟨x, hx⟩ := Option.isSome_iff_exists.1 hz
  obtain ⟨cs, hc, _⟩ := h.1 n x.1 x.2 (by omega) hx
  rw [hg]
  by_cases q : n < W.heap.size
  · omega
  · rw [Array.getElem?_eq_none (by omega)] at hc; cases hc

/-! the listed variables -/
theorem maxL {W : World} (h : W.ShapedOpen Tryz.prog) : MaxL (heap0 W) := by
  obtain ⟨m, hm⟩ := cell_of_shapedOpen_int (g := 3) (t := 3) (zero := #[.int .i64 0]) (k := .i64) h (by rw [show Tryz.prog.globals.size = 8 by kernel_rfl]; decide) (by kernel_rfl) rfl (by kernel_rfl) (by kernel_rfl) (by kernel_rfl)
  refine ⟨m, ?_⟩
  unfold World.cell? at hm
  split at hm
  · rename_i c t f hb
    have hb' : W.heap[3]? = some (.cells c t f) := hb
    unfold Heap.cell
    rw [heap0_get, hb']
    have h0 : c[0]? = some (.int .i64 m) := by simpa using hm
    show (c.toList.map (absV W.heap.size))[0]? = _
    rw [List.getElem?_map, Array.getElem?_toList, h0]
    rfl
  · cases hm
theorem pow10 {W : World} (h : laidMetH Tryz.prog Rows.codeShowsRow.laid W) : Pow10 (heap0 W) := by
  have h1 := laidMetH.filter (fun x => x.1 == "internal/strconv.uint64pow10") h
  have t1 : Lib.TabIs Tryz.prog W "internal/strconv.uint64pow10" .u64 [1, 10, 100, 1000, 10000, 100000, 1000000, 10000000, 100000000, 1000000000, 10000000000, 100000000000, 1000000000000, 10000000000000, 100000000000000, 1000000000000000, 10000000000000000, 100000000000000000, 1000000000000000000, 10000000000000000000] :=
    Lib.tabIs_of_head (rest := []) (g := 1) (n := 20) (t := 154) (e := 36) (by kernel_rfl) (by kernel_rfl) (by kernel_rfl) (by kernel_rfl) (by kernel_rfl) (by kernel_rfl) h1
  exact (tab_block t1 (by kernel_rfl)).2
/-- an array of texts that reads as the table -/
theorem cells_of_strs {H : Type} {enc : TypeId × Value → H} {P : Program} {w : World} {base : Nat} {sp : Nat → Bool} {held : Bool} {fuel : Nat} {t e : TypeId} {n : Nat} {cs : List Value} {zs : List (List UInt8)} {p : List MemPlace}
    (ht : P.underlying t = some (.array n e)) (he : P.underlying e = some .string) (hce : P.cellsOf e = 1) (hct : P.cellsOf t = n)
    (h : DataW.trod enc P w base sp held fuel t cs = some (.agg (zs.map fun z => .lit (.string z)), p)) : cs = zs.map fun z => Value.string (bya z) := by
  cases fuel with
  | zero => simp [DataW.trod] at h
  | succ fuel =>
    simp only [DataW.trod, ht, hce, hct, Nat.mul_one] at h
    split at h
    · rename_i hl
      obtain ⟨xs, hm, hx⟩ := Option.map_eq_some_iff.1 h
      have hxs : xs.map (·.1) = zs.map fun z => (DataW.lit (.string z) : DataW H) := by
        have := congrArg Prod.fst hx
        simpa using this
      have hxl : xs.length = n := by simpa using Lib.mapM_length hm
      have hzl : zs.length = n := by
        have := congrArg List.length hxs
        simp at this
        omega
      apply List.ext_getElem?
      intro i
      by_cases hi : i < n
      · obtain ⟨b, hb, hf⟩ := Lib.mapM_at hm i i (by simp [hi])
        obtain ⟨z, hc, rfl, _⟩ := DataW.trod_string he hf
        have h1 : cs[i]? = some (.string z) := by
          have := congrArg (·[0]?) hc
          simpa [List.getElem?_take, List.getElem?_drop] using this
        have h2 : (xs.map (·.1))[i]? = some (DataW.lit (.string z.data.toList) : DataW H) := by simp [hb]
        rw [hxs] at h2
        simp only [List.getElem?_map, Option.map_eq_some_iff, DataW.lit.injEq, Lit.string.injEq] at h2
        obtain ⟨z', hz', rfl⟩ := h2
        rw [h1, List.getElem?_map, hz']
        rfl
      · rw [List.getElem?_eq_none (by omega), List.getElem?_eq_none (by simp; omega)]
    · cases h
theorem opNames {W : World} (h : laidMetH Tryz.prog Rows.codeShowsRow.laid W) : OpNames (heap0 W) := by
  have h1 := laidMetH.filter (fun x => x.1 == "capstan/code.opNames") h
  have h2 : laidMet Tryz.prog [("capstan/code.opNames", .agg (opNamesU.map fun z => .lit (.string z)))] W := h1
  obtain ⟨ps, ⟨g', t', cs, fuel, p, q, hg', ht', hvar, hd, _, _⟩, _⟩ := h2
  obtain rfl := Option.some.inj ((show Tryz.prog.globalNamed "capstan/code.opNames" = some Cap.gid_code_opNames by kernel_rfl).symm.trans hg')
  obtain rfl := Option.some.inj ((show (Tryz.prog.globals[Cap.gid_code_opNames]?).map (·.type) = some 46 by kernel_rfl).symm.trans ht')
  have hcs := cells_of_strs (n := 13) (e := 9) (by kernel_rfl) (by kernel_rfl) (by kernel_rfl) (by kernel_rfl) hd
  unfold World.var? at hvar
  rw [hg'] at hvar
  simp only [Option.bind_eq_bind, Option.bind_some] at hvar
  split at hvar
  · rename_i C e f hC
    cases hvar
    have hC' : W.heap[Cap.gid_code_opNames]? = some (.cells cs e f) := hC
    unfold OpNames
    rw [heap0_get, hC']
    show some (Blk.cells false (cs.toList.map (absV W.heap.size))) = _
    rw [hcs]
    rfl
  · cases hvar
def cellD1 : DataW Unit → List V
  | .lit (.int k n) => [.int k n]
  | .lit (.string l) => [.string ⟨l.toArray⟩]
  | _ => []
def cellD2 : DataW Unit → List V
  | .agg ds => ds.flatMap cellD1
  | d => cellD1 d
def cellD3 : DataW Unit → List V
  | .agg ds => ds.flatMap cellD2
  | d => cellD2 d
def lay (cs : List V) (o : Obj) : Obj := match o with
  | .cells _ t frozen => .cells cs.toArray t frozen
  | o => o
noncomputable def laidWorld (os : Os) : World :=
  { World.holding Tryz.prog os ⟨#[], #[], []⟩ with heap := ((((((World.holding Tryz.prog os ⟨#[], #[], []⟩).heap.modify 4 (lay (cellD3 Rows.laid_math_bits_deBruijn32tab))).modify 5 (lay (cellD3 Rows.laid_math_bits_deBruijn64tab))).modify 1 (lay (cellD3 Rows.laid_internal_strconv_uint64pow10))).modify 6 (lay (cellD3 Rows.laid_unicode_utf8_first))).modify 7 (lay (cellD3 Rows.laid_unicode_utf8_acceptRanges))).modify Cap.gid_code_opNames (lay (cellD3 Rows.laid_capstan_code_opNames)) }

/-! the arguments -/
section
variable {H : Type} {enc : TypeId × Value → H} {P : Program} {W : World}
theorem bulk_pos (d : DataW H) : 1 ≤ Rows.uptoBulk d := by
  cases d with
  | lit l => cases l <;> simp [Rows.uptoBulk]
  | _ => simp [Rows.uptoBulk]
theorem bulk_len : ∀ l : List (DataW H), l.length ≤ Rows.uptoBulkAll l
  | [] => Nat.zero_le _
  | d :: l => by
    have := bulk_pos d
    have := bulk_len l
    simp only [List.length_cons, Rows.uptoBulkAll]; omega
theorem bulk_mem : ∀ {l : List (DataW H)} {d : DataW H}, d ∈ l → Rows.uptoBulk d ≤ Rows.uptoBulkAll l
  | d :: l, x, h => by
    simp only [Rows.uptoBulkAll]
    rcases List.mem_cons.1 h with rfl | h
    · omega
    · have := bulk_mem h; omega
theorem bulk_sl {α : Type} {xs : List α} {d : DataW H} {R : DataW H → α → Prop} (h : (d = .nil ∧ xs = []) ∨ ∃ D rest, d = .slice ((List.range xs.length).map D) rest ∧ ∀ i x, xs[i]? = some x → R (D i) x) : xs.length ≤ Rows.uptoBulk d := by
  rcases h with ⟨rfl, rfl⟩ | ⟨D, rest, rfl, _⟩
  · exact Nat.zero_le _
  · have := bulk_len ((List.range xs.length).map D)
    rw [List.length_map, List.length_range] at this
    simp only [Rows.uptoBulk]; omega
theorem op_ins {t ti tn : TypeId} (hk : flatStruct P t [ti, ti, ti, tn] = true) (hi : P.underlying ti = some (.int .i64)) (hn : P.underlying tn = some (.int .i64)) (n : Nat) (cs : List Value) (x : DataW H × List MemPlace) (h : DataW.trod enc P W 0 (fun _ => true) true n t cs = some x) :
    ∃ a : Ins, cs.map (absV W.heap.size) = Flat.enc a ∧ InsOk a := by
  obtain ⟨hl, m, ds, hdl, hx, hr⟩ := flat_read hk h
  obtain ⟨c0, d0, e0, f0, r0⟩ := hr 0 ti rfl
  obtain ⟨c1, d1, e1, f1, r1⟩ := hr 1 ti rfl
  obtain ⟨c2, d2, e2, f2, r2⟩ := hr 2 ti rfl
  obtain ⟨c3, d3, e3, f3, r3⟩ := hr 3 tn rfl
  obtain ⟨a0, h0, _, _⟩ := DataW.trod_int hi r0
  obtain ⟨a1, h1, _, w1⟩ := DataW.trod_int hi r1
  obtain ⟨a2, h2, _, w2⟩ := DataW.trod_int hi r2
  obtain ⟨a3, h3, _, w3⟩ := DataW.trod_int hn r3
  cases h0; cases h1; cases h2; cases h3
  match cs, ds, hl, hdl with
  | [_, _, _, _], [_, _, _, _], _, _ =>
    simp only [List.getElem?_cons_zero, List.getElem?_cons_succ] at e0 e1 e2 e3
    cases e0; cases e1; cases e2; cases e3
    exact ⟨⟨a0, a1, a2, a3⟩, rfl, i64_wf w1, i64_wf w2, i64_wf w3⟩
/-- an image, as it is read -/
theorem open_im {t ts tn ti tm tk tl te : TypeId} (hk : flatStruct P t [ts, tn, tm, tn, tn, tl] = true) (hct : P.cellTypes P.depth t = some [ts, tn, tm, tn, tn, tl]) (hs : P.underlying ts = some .string)
    (htn : P.underlying tn = some (.slice ti)) (hcn : P.cellsOf ti = 1) (hi : P.underlying ti = some (.int .i64)) (htm : P.underlying tm = some (.slice tk)) (hcm : P.cellsOf tk = 1) (hik : P.underlying tk = some (.int .i64))
    (htl : P.underlying tl = some (.slice te)) (hce : P.cellsOf te = 4) (hke : flatStruct P te [ti, ti, ti, tk] = true) (hN : 0 < W.heap.size)
    {base : Nat} {v : Value} {d : DataW H} {ps : List MemPlace} (hval : Value.okWide P W .any base t v) (h : DataW.Trod enc P W 0 (fun _ => true) true t v d ps) :
    ∃ x : Im, absV W.heap.size v = .agg (Flat.enc x).toArray ∧ ImAt (heap0 W) x ∧ (x.name.size ≤ Rows.uptoBulk d ∧ x.types.xs.length ≤ Rows.uptoBulk d ∧ x.first.xs.length ≤ Rows.uptoBulk d ∧ x.ins.xs.length ≤ Rows.uptoBulk d ∧ x.outs.xs.length ≤ Rows.uptoBulk d ∧ x.code.xs.length ≤ Rows.uptoBulk d) := by
  obtain ⟨cs, rfl, hcl, hok⟩ := struct_ok hk hct hval
  obtain ⟨fuel, hf⟩ := h
  have hcells : (Value.agg cs.toArray).cells.toList = cs := by simp [Value.cells]
  rw [hcells] at hf
  obtain ⟨_, m, ds, hdl, hx, hrd⟩ := flat_read hk hf
  dsimp only at hx
  obtain ⟨c0, d0, e0, f0, r0⟩ := hrd 0 ts rfl
  obtain ⟨c1, d1, e1, f1, r1⟩ := hrd 1 tn rfl
  obtain ⟨c2, d2, e2, f2, r2⟩ := hrd 2 tm rfl
  obtain ⟨c3, d3, e3, f3, r3⟩ := hrd 3 tn rfl
  obtain ⟨c4, d4, e4, f4, r4⟩ := hrd 4 tn rfl
  obtain ⟨c5, d5, e5, f5, r5⟩ := hrd 5 tl rfl
  obtain ⟨a0, h0, hd0, _⟩ := DataW.trod_string hs r0
  have num : ∀ {te tz : TypeId}, P.underlying tz = some (.slice te) → P.cellsOf te = 1 → P.underlying te = some (.int .i64) → ∀ (c : Value) (d : DataW H × List MemPlace), DataW.trod enc P W 0 (fun _ => true) true m tz [c] = some d →
      ∃ a : In Int, [c].map (absV W.heap.size) = [a.v] ∧ Sl (heap0 W) a.v a.xs ∧ a.xs.length ≤ Rows.uptoBulk d.1 := fun {te tz} h1 h2 h3 c d hr => by
    obtain ⟨a, q1, q2, _, q3⟩ := open_in (α := Int) (datR := fun _ _ => True) (good := fun _ => True) h1 h2 hN (fun n cs x hx => by
      obtain ⟨a, rfl, _, _⟩ := DataW.trod_int h3 hx
      exact ⟨a, rfl, trivial, trivial⟩) _ _ _ hr
    exact ⟨a, q1, q2, bulk_sl (R := fun _ _ => True) q3⟩
  obtain ⟨a1, p1, s1, b1⟩ := num htn hcn hi c1 d1 r1
  obtain ⟨a2, p2, s2, b2⟩ := num htm hcm hik c2 d2 r2
  obtain ⟨a3, p3, s3, b3⟩ := num htn hcn hi c3 d3 r3
  obtain ⟨a4, p4, s4, b4⟩ := num htn hcn hi c4 d4 r4
  obtain ⟨a5, p5, s5, _, q5⟩ := open_in (α := Ins) (datR := fun _ _ => True) (good := fun _ => True) htl hce hN (fun n cs x hx => by
    obtain ⟨a, qa, _⟩ := op_ins hke hi hik n cs x hx
    exact ⟨a, qa, trivial, trivial⟩) _ _ _ r5
  have b5 := bulk_sl (R := fun _ _ => True) q5
  cases h0
  match cs, ds, hcl, hdl with
  | [_, _, _, _, _, _], [y0, y1, y2, y3, y4, y5], _, _ =>
    simp only [List.getElem?_cons_zero, List.getElem?_cons_succ] at e0 e1 e2 e3 e4 e5 f0 f1 f2 f3 f4 f5
    cases e0; cases e1; cases e2; cases e3; cases e4; cases e5; cases f0; cases f1; cases f2; cases f3; cases f4; cases f5
    have hz : a0.size = a0.data.toList.length := rfl
    simp only [List.map_cons, List.map_nil, List.cons.injEq, and_true] at p1 p2 p3 p4 p5
    obtain ⟨_, ⟨sa1, sl1, sc1, rfl⟩⟩ := ok_slc htn (hok 1 tn _ rfl rfl)
    obtain ⟨_, ⟨sa2, sl2, sc2, rfl⟩⟩ := ok_slc htm (hok 2 tm _ rfl rfl)
    obtain ⟨_, ⟨sa3, sl3, sc3, rfl⟩⟩ := ok_slc htn (hok 3 tn _ rfl rfl)
    obtain ⟨_, ⟨sa4, sl4, sc4, rfl⟩⟩ := ok_slc htn (hok 4 tn _ rfl rfl)
    obtain ⟨_, ⟨sa5, sl5, sc5, rfl⟩⟩ := ok_slc htl (hok 5 tl _ rfl rfl)
    have p1' : absV1 W.heap.size (.slice sa1 sl1 sc1) = a1.v := p1
    have p2' : absV1 W.heap.size (.slice sa2 sl2 sc2) = a2.v := p2
    have p3' : absV1 W.heap.size (.slice sa3 sl3 sc3) = a3.v := p3
    have p4' : absV1 W.heap.size (.slice sa4 sl4 sc4) = a4.v := p4
    have p5' : absV1 W.heap.size (.slice sa5 sl5 sc5) = a5.v := p5
    refine ⟨⟨a0, a1, a2, a3, a4, a5⟩, ?_, ⟨s1, s2, s3, s4, s5⟩, ?_⟩
    · simp only [absV, List.map_toArray, List.map_cons, List.map_nil]
      rw [p1', p2', p3', p4', p5']
      rfl
    · rw [hx]
      simp only [List.map_cons, List.map_nil, Rows.uptoBulk, Rows.uptoBulkAll, hd0]
      refine ⟨?_, ?_, ?_, ?_, ?_, ?_⟩
      · show a0.size ≤ _; omega
      · show a1.xs.length ≤ _; omega
      · show a2.xs.length ≤ _; omega
      · show a3.xs.length ≤ _; omega
      · show a4.xs.length ≤ _; omega
      · show a5.xs.length ≤ _; omega
end
end Go.AM.Cap
