import Derived.Test.YtehhkminlafeiaaGreatDoorJSess
import Derived.Test.YtehhkminlafeiaaGreatDoorSeU
set_option linter.all false
/- sess: how a plan and acts are opened -/
namespace Go.AM.Cap
open Go.AM Go.Proofs Go.Proofs.YtehhkminlafeiaaGreatDoor Go.ChangeShapes Go.WideShapes Go.RowKit
section
variable {H : Type} {enc : TypeId × Value → H} {P : Program} {W : World}
theorem zbuz {α : Type} {xs : List α} {d : DataW H} {R : DataW H → α → Prop} (h : (d = .nil ∧ xs = []) ∨ ∃ D rest, d = .slice ((List.range xs.length).map D) rest ∧ ∀ i x, xs[i]? = some x → R (D i) x) : ∀ x ∈ xs, ∃ e, R e x ∧ Rows.uptoBulk e ≤ Rows.uptoBulk d := by
  intro x hx
  rcases h with ⟨rfl, rfl⟩ | ⟨D, rest, rfl, hd⟩
  · cases hx
  · obtain ⟨i, hi, rfl⟩ := List.getElem_of_mem hx
    have q := hd i xs[i] (List.getElem?_eq_getElem hi)
    have hm : D i ∈ (List.range xs.length).map D := List.mem_map.2 ⟨i, List.mem_range.2 hi, rfl⟩
    have := bulk_mem hm
    exact ⟨D i, q, by simp only [Rows.uptoBulk]; omega⟩
def zbu0 (d : DataW H) (u : Us) : Prop := u.rs.xs.length ≤ Rows.uptoBulk d ∧ u.name.size ≤ Rows.uptoBulk d
def zb0h (W : World) (u : Us) : Prop := Sl (zv7 W) u.rs.v u.rs.xs
theorem zb29 {t ti : TypeId} (hk : zfu P t [ti, ti] = true) (hi : P.underlying ti = some (.int .i64)) (n : Nat) (cs : List Value) (x : DataW H × List MemPlace) (h : DataW.trod enc P W 0 (fun _ => true) true n t cs = some x) :
    ∃ a : Rl, cs.map (ztw W.heap.size) = Flat.enc a := by
  obtain ⟨hl, m, ds, hdl, hx, hr⟩ := z2i hk h
  obtain ⟨c0, d0, e0, f0, r0⟩ := hr 0 ti rfl
  obtain ⟨c1, d1, e1, f1, r1⟩ := hr 1 ti rfl
  obtain ⟨a, ha, _, _⟩ := DataW.trod_int hi r0
  obtain ⟨b, hb', _, _⟩ := DataW.trod_int hi r1
  cases ha; cases hb'
  match cs, ds, hl, hdl with
  | [_, _], [_, _], _, _ =>
    simp only [List.getElem?_cons_zero, List.getElem?_cons_succ] at e0 e1
    cases e0; cases e1
    exact ⟨⟨a, b⟩, rfl⟩
theorem zb3a {t ts tr te ti : TypeId} (hk : zfu P t [ts, ts, tr] = true) (hs : P.underlying ts = some .string) (hr' : P.underlying tr = some (.slice te)) (hce : P.cellsOf te = 2) (hke : zfu P te [ti, ti] = true) (hi : P.underlying ti = some (.int .i64)) (hN : 0 < W.heap.size)
    (n : Nat) (cs : List Value) (x : DataW H × List MemPlace) (h : DataW.trod enc P W 0 (fun _ => true) true n t cs = some x) :
    ∃ a : Us, cs.map (ztw W.heap.size) = Flat.enc a ∧ zbu0 x.1 a ∧ zb0h W a := by
  obtain ⟨hl, m, ds, hdl, hx, hr⟩ := z2i hk h
  obtain ⟨c0, d0, e0, f0, r0⟩ := hr 0 ts rfl
  obtain ⟨c1, d1, e1, f1, r1⟩ := hr 1 ts rfl
  obtain ⟨c2, d2, e2, f2, r2⟩ := hr 2 tr rfl
  obtain ⟨a, ha, hda, _⟩ := DataW.trod_string hs r0
  obtain ⟨b, hb', hdb, _⟩ := DataW.trod_string hs r1
  obtain ⟨c, q1, q2, _, q3⟩ := zbnk (α := Rl) (datR := fun _ _ => True) (good := fun _ => True) hr' hce hN (fun n cs x hx => by
    obtain ⟨a, qa⟩ := zb29 hke hi n cs x hx
    exact ⟨a, qa, trivial, trivial⟩) _ _ _ r2
  cases ha; cases hb'
  match cs, ds, hl, hdl with
  | [_, _, _], [y0, y1, y2], _, _ =>
    simp only [List.getElem?_cons_zero, List.getElem?_cons_succ] at e0 e1 e2 f0 f1 f2
    cases e0; cases e1; cases e2; cases f0; cases f1; cases f2
    have b2 := zbow (R := fun _ _ => True) q3
    have hz : a.size = a.data.toList.length := rfl
    refine ⟨⟨a, b, c⟩, ?_, ⟨?_, ?_⟩, q2⟩
    · simp only [List.map_cons, List.map_nil, List.cons.injEq, and_true] at q1
      rw [zzt]
      simp only [List.map_cons, List.map_nil, q1]
      rfl
    · show c.xs.length ≤ _
      rw [hx]
      simp only [List.map_cons, List.map_nil, Rows.uptoBulk, Rows.uptoBulkAll]
      omega
    · show a.size ≤ _
      rw [hx]
      simp only [List.map_cons, List.map_nil, Rows.uptoBulk, Rows.uptoBulkAll, hda]
      omega
theorem open_plan {t tu tz ts tr te ti : TypeId} (hk : zfu P t [tz, ti, ti] = true) (hct : P.cellTypes P.depth t = some [tz, ti, ti]) (htz : P.underlying tz = some (.slice tu)) (hcu : P.cellsOf tu = 3) (hku : zfu P tu [ts, ts, tr] = true) (hs : P.underlying ts = some .string) (hr' : P.underlying tr = some (.slice te)) (hce : P.cellsOf te = 2) (hke : zfu P te [ti, ti] = true) (hi : P.underlying ti = some (.int .i64)) (hN : 0 < W.heap.size)
    {base : Nat} {v : Value} {d : DataW H} {ps : List MemPlace} (hval : Value.okWide P W .any base t v) (hb : Rows.uptoBulk d ≤ 1048576) (h : DataW.Trod enc P W 0 (fun _ => true) true t v d ps) :
    ∃ p : Pl, ztw W.heap.size v = .agg (Flat.enc p).toArray ∧ Users (zv7 W) p.us.v p.us.xs ∧ p.us.xs.length ≤ 1048576 ∧ ∀ u ∈ p.us.xs, u.name.size ≤ 1048576 := by
  obtain ⟨cs, rfl, hcl, hok⟩ := zbvr hk hct hval
  obtain ⟨fuel, hf⟩ := h
  have hcells : (Value.agg cs.toArray).cells.toList = cs := by simp [Value.cells]
  rw [hcells] at hf
  obtain ⟨_, m, ds, hdl, hx, hrd⟩ := z2i hk hf
  dsimp only at hx
  obtain ⟨c0, d0, e0, f0, r0⟩ := hrd 0 tz rfl
  obtain ⟨c1, d1, e1, f1, r1⟩ := hrd 1 ti rfl
  obtain ⟨c2, d2, e2, f2, r2⟩ := hrd 2 ti rfl
  obtain ⟨a1, h1, _, _⟩ := DataW.trod_int hi r1
  obtain ⟨a2, h2, _, _⟩ := DataW.trod_int hi r2
  obtain ⟨a0, q1, q2, qg, q3⟩ := zbnk (α := Us) (datR := zbu0) (good := zb0h W) htz hcu hN (fun n cs x hx => zb3a hku hs hr' hce hke hi hN n cs x hx) _ _ _ r0
  cases h1; cases h2
  match cs, ds, hcl, hdl with
  | [_, _, _], [y0, y1, y2], _, _ =>
    simp only [List.getElem?_cons_zero, List.getElem?_cons_succ] at e0 e1 e2 f0 f1 f2
    cases e0; cases e1; cases e2; cases f0; cases f1; cases f2
    have b0 := zbow (R := zbu0) q3
    have bm := zbuz (R := zbu0) q3
    have hbd : Rows.uptoBulk d0.1 ≤ 1048576 := by
      rw [hx] at hb
      simp only [List.map_cons, List.map_nil, Rows.uptoBulk, Rows.uptoBulkAll] at hb
      omega
    refine ⟨⟨a0, a1, a2⟩, ?_, ⟨q2, fun u hu => ⟨qg u hu, ?_⟩⟩, ?_, fun u hu => ?_⟩
    · simp only [List.map_cons, List.map_nil, List.cons.injEq, and_true] at q1
      obtain ⟨_, ⟨sa, sl, sc, rfl⟩⟩ := zbyi htz (hok 0 tz _ rfl rfl)
      have q1' : zbcd W.heap.size (.slice sa sl sc) = a0.v := q1
      simp only [ztw, List.map_toArray, List.map_cons, List.map_nil]
      rw [q1']
      rfl
    · obtain ⟨e, ⟨z1, z2⟩, z3⟩ := bm u hu
      omega
    · show a0.xs.length ≤ _
      omega
    · obtain ⟨e, ⟨z1, z2⟩, z3⟩ := bm u hu
      omega
def zb0i (d : DataW H) (a : Ac) : Prop := a.says.xs.length ≤ Rows.uptoBulk d ∧ a.text.size ≤ Rows.uptoBulk d
def zb0j (W : World) (a : Ac) : Prop := Sl (zv7 W) a.says.v a.says.xs
theorem zb36 {t ts ti tl te tb tn : TypeId} (hk : zfu P t [ti, ti, ti, ts, ts, tb, tl] = true) (hs : P.underlying ts = some .string) (hi : P.underlying ti = some (.int .i64)) (hb : P.underlying tb = some .bool) (htl : P.underlying tl = some (.slice te)) (hce : P.cellsOf te = 3) (hke : zfu P te [tb, tn, ts] = true) (hn : P.underlying tn = some (.int .i64)) (hN : 0 < W.heap.size)
    (n : Nat) (cs : List Value) (x : DataW H × List MemPlace) (h : DataW.trod enc P W 0 (fun _ => true) true n t cs = some x) :
    ∃ a : Ac, cs.map (ztw W.heap.size) = Flat.enc a ∧ zb0i x.1 a ∧ zb0j W a := by
  obtain ⟨hl, m, ds, hdl, hx, hr⟩ := z2i hk h
  obtain ⟨c0, d0, e0, f0, r0⟩ := hr 0 ti rfl
  obtain ⟨c1, d1, e1, f1, r1⟩ := hr 1 ti rfl
  obtain ⟨c2, d2, e2, f2, r2⟩ := hr 2 ti rfl
  obtain ⟨c3, d3, e3, f3, r3⟩ := hr 3 ts rfl
  obtain ⟨c4, d4, e4, f4, r4⟩ := hr 4 ts rfl
  obtain ⟨c5, d5, e5, f5, r5⟩ := hr 5 tb rfl
  obtain ⟨c6, d6, e6, f6, r6⟩ := hr 6 tl rfl
  obtain ⟨a0, h0, _, _⟩ := DataW.trod_int hi r0
  obtain ⟨a1, h1, _, _⟩ := DataW.trod_int hi r1
  obtain ⟨a2, h2, _, _⟩ := DataW.trod_int hi r2
  obtain ⟨a3, h3, _, _⟩ := DataW.trod_string hs r3
  obtain ⟨a4, h4, hd4, _⟩ := DataW.trod_string hs r4
  obtain ⟨a5, h5, _⟩ := DataW.trod_bool hb r5
  obtain ⟨c, q1, q2, _, q3⟩ := zbnk (α := It) (datR := fun _ _ => True) (good := fun _ => True) htl hce hN (fun n cs x hx => by
    obtain ⟨a, qa, _, _⟩ := zb35 hke hb hn hs n cs x hx
    exact ⟨a, qa, trivial, trivial⟩) _ _ _ r6
  cases h0; cases h1; cases h2; cases h3; cases h4; cases h5
  match cs, ds, hl, hdl with
  | [_, _, _, _, _, _, _], [y0, y1, y2, y3, y4, y5, y6], _, _ =>
    simp only [List.getElem?_cons_zero, List.getElem?_cons_succ] at e0 e1 e2 e3 e4 e5 e6 f0 f1 f2 f3 f4 f5 f6
    cases e0; cases e1; cases e2; cases e3; cases e4; cases e5; cases e6; cases f0; cases f1; cases f2; cases f3; cases f4; cases f5; cases f6
    have b2 := zbow (R := fun _ _ => True) q3
    have hz : a4.size = a4.data.toList.length := rfl
    refine ⟨⟨a0, a1, a2, a3, a4, a5, c⟩, ?_, ⟨?_, ?_⟩, q2⟩
    · simp only [List.map_cons, List.map_nil, List.cons.injEq, and_true] at q1
      rw [zbtn]
      simp only [List.map_cons, List.map_nil, q1]
      rfl
    · show c.xs.length ≤ _
      rw [hx]
      simp only [List.map_cons, List.map_nil, Rows.uptoBulk, Rows.uptoBulkAll]
      omega
    · show a4.size ≤ _
      rw [hx]
      simp only [List.map_cons, List.map_nil, Rows.uptoBulk, Rows.uptoBulkAll, hd4]
      omega
theorem open_acts {t ta ts ti tl te tb tn : TypeId} (ht : P.underlying t = some (.slice ta)) (hca : P.cellsOf ta = 7) (hk : zfu P ta [ti, ti, ti, ts, ts, tb, tl] = true) (hs : P.underlying ts = some .string) (hi : P.underlying ti = some (.int .i64)) (hb : P.underlying tb = some .bool) (htl : P.underlying tl = some (.slice te)) (hce : P.cellsOf te = 3) (hke : zfu P te [tb, tn, ts] = true) (hn : P.underlying tn = some (.int .i64))
    {base : Nat} {v : Value} {d : DataW H} {ps : List MemPlace} (hval : Value.okWide P W .any base t v) (hbd : Rows.uptoBulk d ≤ 1048576) (h : DataW.Trod enc P W 0 (fun _ => true) true t v d ps) : ∃ l : List Ac, Acts (zv7 W) (ztw W.heap.size v) l := by
  have hc : Cell.okWide P W .any base t v := by simpa only [Value.okWide, ht] using hval
  obtain ⟨s1, s2⟩ := zbyi ht hc
  obtain ⟨xs, h1, h2, h3⟩ := zbp7 (α := Ac) (datR := zb0i) (good := zb0j W) ht hca (fun hN n cs x hx => zb36 hk hs hi hb htl hce hke hn hN n cs x hx) s1 s2 h
  have bm := zbuz (R := zb0i) h3
  refine ⟨xs, h1, fun a ha => ?_⟩
  obtain ⟨e, ⟨z1, z2⟩, z3⟩ := bm a ha
  exact ⟨h2 a ha, by omega, by omega⟩
end
end Go.AM.Cap
