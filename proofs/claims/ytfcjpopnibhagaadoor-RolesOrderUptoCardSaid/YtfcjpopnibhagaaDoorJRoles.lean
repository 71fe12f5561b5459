/- roles: how the arguments of its laws are opened; the listed variables -/
import Derived.Test.YtfcjpopnibhagaaDoorRoG
import Derived.Test.YtfcjpopnibhagaaDoorAmOpenF
import Derived.Test.YtfcjpopnibhagaaDoorAmJoin
import Derived.Test.YtfcjpopnibhagaaDoorRows
import Derived.WalkKit
import Derived.ProofKit
import Derived.Deep.DeepHandedRow
set_option linter.all false
namespace Go.AM.Cap
open Go.AM Go.Proofs Go.Proofs.YtfcjpopnibhagaaDoor Go.ChangeShapes Go.WideShapes Go.RowKit

def noM (_ : List V) : M V := fail
theorem known_no {P : Program} {f : Nat} (h : plainF P f = true) : Known P f noM := ⟨h, fun N w₀ ρ H w args args' r H' hG hR ha hl => (fail_ne hl).elim⟩
theorem blocks_of {P : Program} {W : World} (h : W.ShapedOpen P) {n : Nat} (hg : P.globals.size = n + 1) (hz : ((((begin P (fun _ _ => 0) default).world.heap[n]?).bind Obj.row?).isSome) = true) : P.globals.size ≤ W.heap.size := by
  obtain ⟨x, hx⟩ := Option.isSome_iff_exists.1 hz
  obtain ⟨cs, hc, _⟩ := h.1 n x.1 x.2 (by omega) hx
  rw [hg]
  by_cases q : n < W.heap.size
  · omega
  · rw [Array.getElem?_eq_none (by omega)] at hc; cases hc
theorem need {W : World} (h : laidMetH Tryd.prog Rows.rolesNestRow.laid W) : Cap.Need (heap0 W) := by
  have h1 := laidMetH.filter (fun x => x.1 == "capstan/roles.needs") h
  have t1 : Lib.TabIs Tryd.prog W "capstan/roles.needs" .i64 needT :=
    Lib.tabIs_of_head (rest := []) (g := Cap.gid_roles_needs) (n := 9) (t := 45) (e := 3) (by kernel_rfl) (by kernel_rfl) (by kernel_rfl) (by kernel_rfl) (by kernel_rfl) (by kernel_rfl) h1
  obtain ⟨l1, g1⟩ := tab_block t1 (by kernel_rfl)
  exact ⟨_, g1⟩

def cellD1 : DataW Unit → List V
  | .lit (.int k n) => [.int k n]
  | _ => []
def cellD2 : DataW Unit → List V
  | .agg ds => ds.flatMap cellD1
  | d => cellD1 d
def cellD3 : DataW Unit → List V
  | .agg ds => ds.flatMap cellD2
  | d => cellD2 d
def lay (cs : List V) (o : Obj) : Obj := match o with
  | .cells _ t frozen => .cells cs.toArray t frozen
  | o => o
noncomputable def laidWorld (os : Os) : World :=
  { World.holding Tryd.prog os ⟨#[], #[], []⟩ with heap := (((World.holding Tryd.prog os ⟨#[], #[], []⟩).heap.modify Cap.gid_roles_needs (lay (cellD3 Rows.laid_capstan_roles_needs))).modify Cap.gid_unicode_utf8_first (lay (cellD3 Rows.laid_unicode_utf8_first))).modify Cap.gid_unicode_utf8_acceptRanges (lay (cellD3 Rows.laid_unicode_utf8_acceptRanges)) }

section
variable {H : Type} {enc : TypeId × Value → H} {P : Program} {W : World}
theorem bulk_pos (d : DataW H) : 1 ≤ Rows.uptoBulk d := by
  cases d with
  | lit l => cases l <;> simp [Rows.uptoBulk]
  | _ => simp [Rows.uptoBulk]
theorem bulk_len : ∀ l : List (DataW H), l.length ≤ Rows.uptoBulkAll l
  | [] => Nat.zero_le _
  | d :: l => by
    have := bulk_pos d
    have := bulk_len l
    simp only [List.length_cons, Rows.uptoBulkAll]; omega
theorem bulk_mem : ∀ {l : List (DataW H)} {d : DataW H}, d ∈ l → Rows.uptoBulk d ≤ Rows.uptoBulkAll l
  | d :: l, x, h => by
    simp only [Rows.uptoBulkAll]
    rcases List.mem_cons.1 h with rfl | h
    · omega
    · have := bulk_mem h; omega
/-- a user, as it is read -/
def datUs (d : DataW H) (u : Us) : Prop := u.rs.xs.length ≤ Rows.uptoBulk d
def goodUs (W : World) (u : Us) : Prop := Sl (heap0 W) u.rs.v u.rs.xs
theorem op_rl {t ti : TypeId} (hk : flatStruct P t [ti, ti] = true) (hi : P.underlying ti = some (.int .i64)) (n : Nat) (cs : List Value) (x : DataW H × List MemPlace) (h : DataW.trod enc P W 0 (fun _ => true) true n t cs = some x) :
    ∃ a : Rl, cs.map (absV W.heap.size) = Flat.enc a := by
  obtain ⟨hl, m, ds, hdl, hx, hr⟩ := flat_read hk h
  obtain ⟨c0, d0, e0, f0, r0⟩ := hr 0 ti rfl
  obtain ⟨c1, d1, e1, f1, r1⟩ := hr 1 ti rfl
  obtain ⟨a, ha, _, _⟩ := DataW.trod_int hi r0
  obtain ⟨b, hb', _, _⟩ := DataW.trod_int hi r1
  cases ha; cases hb'
  match cs, ds, hl, hdl with
  | [_, _], [_, _], _, _ =>
    simp only [List.getElem?_cons_zero, List.getElem?_cons_succ] at e0 e1
    cases e0; cases e1
    exact ⟨⟨a, b⟩, rfl⟩
theorem op_us {t ts tr te ti : TypeId} (hk : flatStruct P t [ts, ts, tr] = true) (hs : P.underlying ts = some .string) (hr' : P.underlying tr = some (.slice te)) (hce : P.cellsOf te = 2) (hke : flatStruct P te [ti, ti] = true) (hi : P.underlying ti = some (.int .i64)) (hN : 0 < W.heap.size)
    (n : Nat) (cs : List Value) (x : DataW H × List MemPlace) (h : DataW.trod enc P W 0 (fun _ => true) true n t cs = some x) :
    ∃ a : Us, cs.map (absV W.heap.size) = Flat.enc a ∧ datUs x.1 a ∧ goodUs W a := by
  obtain ⟨hl, m, ds, hdl, hx, hr⟩ := flat_read hk h
  obtain ⟨c0, d0, e0, f0, r0⟩ := hr 0 ts rfl
  obtain ⟨c1, d1, e1, f1, r1⟩ := hr 1 ts rfl
  obtain ⟨c2, d2, e2, f2, r2⟩ := hr 2 tr rfl
  obtain ⟨a, ha, hda, _⟩ := DataW.trod_string hs r0
  obtain ⟨b, hb', hdb, _⟩ := DataW.trod_string hs r1
  obtain ⟨c, q1, q2, _, q3⟩ := open_in (α := Rl) (datR := fun _ _ => True) (good := fun _ => True) hr' hce hN (fun n cs x hx => by
    obtain ⟨a, qa⟩ := op_rl hke hi n cs x hx
    exact ⟨a, qa, trivial, trivial⟩) _ _ _ r2
  cases ha; cases hb'
  match cs, ds, hl, hdl with
  | [_, _, _], [y0, y1, y2], _, _ =>
    simp only [List.getElem?_cons_zero, List.getElem?_cons_succ] at e0 e1 e2 f0 f1 f2
    cases e0; cases e1; cases e2; cases f0; cases f1; cases f2
    refine ⟨⟨a, b, c⟩, ?_, ?_, q2⟩
    · simp only [List.map_cons, List.map_nil, List.cons.injEq, and_true] at q1
      rw [enc_us]
      simp only [List.map_cons, List.map_nil, q1]
      rfl
    · show c.xs.length ≤ _
      rw [hx]
      have h2 : c.xs.length ≤ Rows.uptoBulk d2.1 := by
        rcases q3 with ⟨_, q⟩ | ⟨D, rest, q, _⟩
        · rw [q]; exact Nat.zero_le _
        · have := bulk_len ((List.range c.xs.length).map D)
          rw [List.length_map, List.length_range] at this
          rw [q]
          simp only [Rows.uptoBulk]; omega
      simp only [List.map_cons, List.map_nil, Rows.uptoBulk, Rows.uptoBulkAll]
      omega
theorem open_users {t tu ts tr te ti : TypeId} (ht : P.underlying t = some (.slice tu)) (hcu : P.cellsOf tu = 3) (hk : flatStruct P tu [ts, ts, tr] = true) (hs : P.underlying ts = some .string) (hr : P.underlying tr = some (.slice te)) (hce : P.cellsOf te = 2) (hke : flatStruct P te [ti, ti] = true) (hi : P.underlying ti = some (.int .i64))
    {base : Nat} {v : Value} {d : DataW H} {ps : List MemPlace} (hval : Value.okWide P W .any base t v) (hb : Rows.uptoBulk d ≤ 1048576) (h : DataW.Trod enc P W 0 (fun _ => true) true t v d ps) : ∃ l : List Us, Users (heap0 W) (absV W.heap.size v) l := by
  have hc : Cell.okWide P W .any base t v := by simpa only [Value.okWide, ht] using hval
  obtain ⟨s1, s2⟩ := ok_slc ht hc
  obtain ⟨xs, h1, h2, h3⟩ := open_gen (α := Us) (datR := datUs) (good := goodUs W) ht hcu (fun hN n cs x hx => op_us hk hs hr hce hke hi hN n cs x hx) s1 s2 h
  refine ⟨xs, h1, fun u hu => ⟨h2 u hu, ?_⟩⟩
  rcases h3 with ⟨_, rfl⟩ | ⟨D, rest, rfl, hd⟩
  · cases hu
  · obtain ⟨i, hi, rfl⟩ := List.getElem_of_mem hu
    have q := hd i xs[i] (List.getElem?_eq_getElem hi)
    have hm : D i ∈ (List.range xs.length).map D := List.mem_map.2 ⟨i, List.mem_range.2 hi, rfl⟩
    have := bulk_mem hm
    simp only [Rows.uptoBulk] at hb
    unfold datUs at q
    omega
theorem open_ask {t ts ti : TypeId} (hk : flatStruct P t [ts, ti, ti, ti] = true) (hct : P.cellTypes P.depth t = some [ts, ti, ti, ti]) (hs : P.underlying ts = some .string) (hi : P.underlying ti = some (.int .i64)) {base : Nat} {v : Value} {d : DataW H} {ps : List MemPlace} (hval : Value.okWide P W .any base t v) (h : DataW.Trod enc P W 0 (fun _ => true) true t v d ps) :
    ∃ a : Ak, absV W.heap.size v = .agg (Flat.enc a).toArray := by
  obtain ⟨cs, rfl, hcl, hok⟩ := struct_ok hk hct hval
  obtain ⟨fuel, hf⟩ := h
  have hcells : (Value.agg cs.toArray).cells.toList = cs := by simp [Value.cells]
  rw [hcells] at hf
  obtain ⟨_, m, ds, hdl, hx, hrd⟩ := flat_read hk hf
  obtain ⟨c0, d0, e0, f0, r0⟩ := hrd 0 ts rfl
  obtain ⟨c1, d1, e1, f1, r1⟩ := hrd 1 ti rfl
  obtain ⟨c2, d2, e2, f2, r2⟩ := hrd 2 ti rfl
  obtain ⟨c3, d3, e3, f3, r3⟩ := hrd 3 ti rfl
  obtain ⟨a0, h0, _, _⟩ := DataW.trod_string hs r0
  obtain ⟨a1, h1, _, _⟩ := DataW.trod_int hi r1
  obtain ⟨a2, h2, _, _⟩ := DataW.trod_int hi r2
  obtain ⟨a3, h3, _, _⟩ := DataW.trod_int hi r3
  cases h0; cases h1; cases h2; cases h3
  match cs, hcl with
  | [_, _, _, _], _ =>
    simp only [List.getElem?_cons_zero, List.getElem?_cons_succ] at e0 e1 e2 e3
    cases e0; cases e1; cases e2; cases e3
    refine ⟨⟨a0, a1, a2, a3⟩, ?_⟩
    simp [absV, absV1, enc_ak]
end
end Go.AM.Cap
