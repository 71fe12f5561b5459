import Derived.Test.YtehhkminlafeiaaGreatDoorSeJ
import Derived.Test.YtehhkminlafeiaaGreatDoorAmOpenF
import Derived.Test.YtehhkminlafeiaaGreatDoorRows
import Derived.WalkKit
import Derived.ProofKit
import Derived.Deep.DeepHandedRow
import Derived.LaidHandle
set_option linter.all false
/- sess: the laws SessMakes, SessReplies -/
set_option maxHeartbeats 16000000
namespace Go.AM.Cap
open Go.AM Go.Proofs
theorem zbot {l : List It} {a b : Int} {r : List It} (h : zkb l = some (a, b, r)) : r.length ≤ l.length := by
  obtain ⟨rfl, _⟩ := zban h
  rw [List.length_drop]; omega
def zbfj (x n : Int) : Int := (IntKind.i64.wrap (x.tmod n + n)).tmod n
theorem zbmn (x n : Int) (hn : n ≠ 0) : zio [i64 x, i64 n] = ret (i64 (zbfj x n)) := zbnj fun H => by
  show wp (zuq (i64 x) (i64 n)) _ H
  (try simp (maxSteps := 1000000) (disch := first | omega | (simp only [Z3]; omega) | (simp; done) | assumption | decide | (refine not_not_intro ?_; assumption)) only [Z1, Z2, splice, zuq, zbcb])
  exact ⟨rfl, trivial⟩
theorem zbou (x n : Int) (h0 : 0 < n) (h1 : n ≤ 1000000) : 0 ≤ zbfj x n ∧ zbfj x n < n := by
  have a := Int.lt_tmod_of_pos x h0
  have b := Int.tmod_lt_of_pos x h0
  unfold zbfj
  rw [i64_in (n := x.tmod n + n) (by omega) (by omega)]
  exact ⟨Int.tmod_nonneg _ (by omega), Int.tmod_lt_of_pos _ h0⟩
end Go.AM.Cap

/- sess: how the arguments of its laws are opened; the listed variables -/
namespace Go.AM.Cap
open Go.AM Go.Proofs Go.Proofs.YtehhkminlafeiaaGreatDoor Go.ChangeShapes Go.WideShapes Go.RowKit
def noM (_ : List V) : M V := fail
theorem known_no {P : Program} {f : Nat} (h : zbeq P f = true) : zy P f noM := ⟨h, fun N w₀ ρ H w args args' r H' hG hR ha hl => (zf hl).elim⟩
theorem blocks_of {P : Program} {W : World} (h : W.ShapedOpen P) {n : Nat} (hg : P.globals.size = n + 1) (hz : ((((begin P (fun _ _ => 0) default).world.heap[n]?).bind Obj.row?).isSome) = true) : P.globals.size ≤ W.heap.size := by
  obtain ⟨x, hx⟩ := Option.isSome_iff_exists.1 hz
  obtain ⟨cs, hc, _⟩ := h.1 n x.1 x.2 (by omega) hx
  rw [hg]
  by_cases q : n < W.heap.size
  · omega
  · rw [Array.getElem?_eq_none (by omega)] at hc; cases hc
theorem tabs {W : World} (h : laidMetH Tryz.prog Rows.sessMakesRow.laid W) : Cap.Base (zv7 W) := by
  have h1 := laidMetH.filter (fun x => x.1 == "capstan/sha.first") h
  have h2 := laidMetH.filter (fun x => x.1 == "capstan/sha.rounds") h
  have t1 : Lib.TabIs Tryz.prog W "capstan/sha.first" .u32 [1779033703, 3144134277, 1013904242, 2773480762, 1359893119, 2600822924, 528734635, 1541459225] :=
    Lib.tabIs_of_head (rest := []) (g := Cap.gid_sha_first) (n := 8) (t := 166) (e := 164) (by kernel_rfl) (by kernel_rfl) (by kernel_rfl) (by kernel_rfl) (by kernel_rfl) (by kernel_rfl) h1
  have t2 : Lib.TabIs Tryz.prog W "capstan/sha.rounds" .u32 (Cap.tab.map fun x => (x.toNat : Int)) :=
    Lib.tabIs_of_head (rest := []) (g := Cap.gid_sha_rounds) (n := 64) (t := 191) (e := 164) (by kernel_rfl) (by kernel_rfl) (by kernel_rfl) (by kernel_rfl) (by kernel_rfl) (by kernel_rfl) h2
  obtain ⟨l1, g1⟩ := zbl2 t1 (by kernel_rfl)
  obtain ⟨l2, g2⟩ := zbl2 t2 (by kernel_rfl)
  refine ⟨⟨_, _, g1, by decide, rfl⟩, ⟨_, _, g2, fun i hi => ?_⟩⟩
  have hl : Cap.tab.length = 64 := rfl
  simp [List.getElem?_map, List.getElem?_eq_getElem (show i < Cap.tab.length by omega)]
theorem et : Tryz.prog.globalNamed "errors.errorType" = some 1 := by kernel_rfl
theorem rt : (Tryz.prog.cutTypes.find? (·.1 == "internal/reflectlite.rtype")).map (·.2) = some 204 := by kernel_rfl
theorem zb25 : ((List.range Tryz.prog.types.size).filter fun t => Tryz.prog.rowNamed t [101, 114, 114, 111, 114]) = [128] := by kernel_rfl
theorem zb26 {W : World} (h : laidMetH Tryz.prog Rows.sessMakesRow.laid W) : W.cell? ⟨1, 0, none⟩ = some (.iface 204 (.agg #[.pointer (some ⟨6, 128, none⟩)])) := by
  have h1 := laidMetH.filter (fun x => x.1 == "errors.errorType") h
  have h' : laidMet Tryz.prog [] W ∧ handlesMet Tryz.prog [("errors.errorType", Rows.laid_errors_errorType)] W := h1
  obtain ⟨name, u, ty, e1, e2, e3, e4, e5⟩ := h'.2 _ (List.mem_singleton.2 rfl)
  have en : name = [101, 114, 114, 111, 114] := (Option.some.inj e1).symm
  subst en
  obtain rfl := Option.some.inj (rt.symm.trans e2)
  have hm : ty ∈ (List.range Tryz.prog.types.size).filter fun t => Tryz.prog.rowNamed t [101, 114, 114, 111, 114] := List.mem_filter.2 ⟨List.mem_range.2 e3, e4⟩
  rw [zb25] at hm
  obtain rfl := List.mem_singleton.1 hm
  have hh : typeHandle Tryz.prog 128 = .pointer (some ⟨6, 128, none⟩) := by kernel_rfl
  rw [hh] at e5
  simpa using World.var?_cell et e5 0
theorem tok {W : World} (h : laidMetH Tryz.prog Rows.sessMakesRow.laid W) : Tok (zv7 W) := by
  have hc := zb26 h
  unfold World.cell? at hc
  split at hc
  · rename_i c t f hb
    have hb' : W.heap[1]? = some (.cells c t f) := hb
    unfold Tok Heap.cell
    rw [z8p, hb']
    have h0 : c[0]? = some (.iface 204 (.agg #[.pointer (some ⟨6, 128, none⟩)])) := by simpa using hc
    show (c.toList.map (ztw W.heap.size))[0]? = _
    rw [List.getElem?_map, Array.getElem?_toList, h0]
    rfl
  · cases hc
def zbzx : DataW Unit → List V
  | .lit (.int k n) => [.int k n]
  | _ => []
def zbzy : DataW Unit → List V
  | .agg ds => ds.flatMap zbzx
  | d => zbzx d
def zbov : DataW Unit → List V
  | .agg ds => ds.flatMap zbzy
  | d => zbzy d
def lay (cs : List V) (o : Obj) : Obj := match o with
  | .cells _ t frozen => .cells cs.toArray t frozen
  | o => o
noncomputable def laidWorld (os : Os) : World :=
  { World.holding Tryz.prog os ⟨#[], #[], []⟩ with heap := (((((World.holding Tryz.prog os ⟨#[], #[], []⟩).heap.modify Cap.gid_sha_first (lay (zbov Rows.laid_capstan_sha_first))).modify Cap.gid_sha_rounds (lay (zbov Rows.laid_capstan_sha_rounds))).modify 3 (lay (zbov Rows.laid_unicode_utf8_first))).modify 4 (lay (zbov Rows.laid_unicode_utf8_acceptRanges))).modify 1 (lay [.iface 204 (.agg #[.pointer (some ⟨6, 128, none⟩)])]) }
section
variable {H : Type} {enc : TypeId × Value → H} {P : Program} {W : World}
theorem zbzz (d : DataW H) : 1 ≤ Rows.uptoBulk d := by
  cases d with
  | lit l => cases l <;> simp [Rows.uptoBulk]
  | _ => simp [Rows.uptoBulk]
theorem zbro : ∀ l : List (DataW H), l.length ≤ Rows.uptoBulkAll l
  | [] => Nat.zero_le _
  | d :: l => by
    have := zbzz d
    have := zbro l
    simp only [List.length_cons, Rows.uptoBulkAll]; omega
theorem bulk_mem : ∀ {l : List (DataW H)} {d : DataW H}, d ∈ l → Rows.uptoBulk d ≤ Rows.uptoBulkAll l
  | d :: l, x, h => by
    simp only [Rows.uptoBulkAll]
    rcases List.mem_cons.1 h with rfl | h
    · omega
    · have := bulk_mem h; omega
theorem zbow {α : Type} {xs : List α} {d : DataW H} {R : DataW H → α → Prop} (h : (d = .nil ∧ xs = []) ∨ ∃ D rest, d = .slice ((List.range xs.length).map D) rest ∧ ∀ i x, xs[i]? = some x → R (D i) x) : xs.length ≤ Rows.uptoBulk d := by
  rcases h with ⟨rfl, rfl⟩ | ⟨D, rest, rfl, _⟩
  · exact Nat.zero_le _
  · have := zbro ((List.range xs.length).map D)
    rw [List.length_map, List.length_range] at this
    simp only [Rows.uptoBulk]; omega
def zb34 (x : It) : DataW H := .agg [.lit (.bool x.t), .lit (.int .i64 x.n), .lit (.string x.s.data.toList)]
theorem zb35 {t tb tn ts : TypeId} (hk : zfu P t [tb, tn, ts] = true) (hb : P.underlying tb = some .bool) (hn : P.underlying tn = some (.int .i64)) (hs : P.underlying ts = some .string) (n : Nat) (cs : List Value) (x : DataW H × List MemPlace) (h : DataW.trod enc P W 0 (fun _ => true) true n t cs = some x) :
    ∃ a : It, cs.map (ztw W.heap.size) = Flat.enc a ∧ x.1 = zb34 a ∧ okI a := by
  obtain ⟨hl, m, ds, hdl, hx, hr⟩ := z2i hk h
  obtain ⟨c0, d0, e0, f0, r0⟩ := hr 0 tb rfl
  obtain ⟨c1, d1, e1, f1, r1⟩ := hr 1 tn rfl
  obtain ⟨c2, d2, e2, f2, r2⟩ := hr 2 ts rfl
  obtain ⟨a, ha, hda⟩ := DataW.trod_bool hb r0
  obtain ⟨b, hb', hdb, hgb⟩ := DataW.trod_int hn r1
  obtain ⟨c, hc', hdc, _⟩ := DataW.trod_string hs r2
  cases ha; cases hb'; cases hc'
  match cs, ds, hl, hdl with
  | [_, _, _], [_, _, _], _, _ =>
    simp only [List.getElem?_cons_zero, List.getElem?_cons_succ] at e0 e1 e2 f0 f1 f2
    cases e0; cases e1; cases e2; cases f0; cases f1; cases f2
    exact ⟨⟨a, b, c⟩, rfl, by rw [hx, hda, hdb, hdc]; rfl, zb2q hgb⟩
end
end Go.AM.Cap
