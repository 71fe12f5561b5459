import Derived.Test.YtjchglndancedaaGreatDoorCfN
import Derived.Test.YtjchglndancedaaGreatDoorAmOpenF
set_option linter.all false
/- conf: lines of numbers (printed by gencf.py) -/
set_option maxHeartbeats 8000000
namespace Go.AM.Cap
open Go.AM Go.Proofs
variable {H0 H : Heap} {R : Nat} {v : RV} {st : RSt} {L : List Thing}
theorem zbqs {G : List V → M V} {wv : V} {ws : List ByteArray} (h : ReadAt H0 H R v st (view wv ws :: L)) (hs : Sm st 1000000) (hw : 1 ≤ ws.length) (hb : ws.length ≤ 1000000) (hwz : ∀ w ∈ ws, w.size ≤ 1000000) : znq H0 H R (view wv ws :: L) (z0c st ws) (ze2 G zej [ptr R 0, wv]) := by
  intro Q hok hbad
  show wp (zko G zej (ptr R 0) wv) Q H
  have hsl := h.words
  obtain ⟨u, hu, hus, _⟩ := z73 (α := ByteArray) (n := 1) rfl hsl (k := 1) hw
  have hu' : zjw 1 wv (some (Value.int .i64 1)) none = some u := hu
  (try simp (maxSteps := 1000000) (disch := first | omega | (simp only [Z3]; omega) | (simp; done) | assumption | decide | (refine not_not_intro ?_; assumption)) only [Z1, zl, zf, zbx, zb8, eq_self, true_and, zby, zbt, zdz, zb0, zbi, zbc, Heap.get_push_eq, Heap.get_push_lt, Heap.get_set_eq, Heap.get_set_ne', Heap.next_push', Heap.next_set', Heap.set_push_lt, Heap.set_push_eq, Heap.set_set, zbj, zbk, zp, zbn, zbo, zi, zw, zbp, zbd, zu, zbe, zbf, zbg, zbh, List.set_cons_zero, List.set_cons_succ, List.length_cons, List.length_nil, List.drop_succ_cons, List.drop_zero, List.take_succ_cons, List.take_zero, List.nil_append, List.cons_append, splice, zq, zr, zh, ze, zd, zt, zbl, zv, zb2, zbu, zbm, zbs, zg, zm, Option.map_some, zbq, zbr, zk, zba, z7, zz, zj, zx, zy, zko, hu'])
  refine zwo hus (by rw [List.length_drop]; omega) (fun w hw => hwz w (List.mem_of_mem_drop hw)) 2 _ (fun l hl w H1 k1 o1 f1 => ?_) fun hn w H1 k1 => ?_
  case refine_2 =>
    have e : z0c st ws = none := by rw [z0c, hn]
    have r1 := h.keep0 k1
    (try simp (maxSteps := 1000000) (disch := first | omega | (simp only [Z3]; omega) | (simp; done) | assumption | decide | (refine not_not_intro ?_; assumption)) only [Z1, Z2, splice, znd])
    exact hbad e _ r1.rest
  have hlen := zzb hl
  have r1 := h.keep0 k1
  have e : z0c st ws = some (addG st ⟨l.getD 0 0, l.getD 1 0, decide (wAt ws 0 = zwk)⟩) := by rw [z0c, hl]
  have g := r1.get
  have hone := r1.hp.own (i := 2) rfl
  obtain ⟨x0, y0⟩ := vd0 o1.sl (by omega)
  obtain ⟨x1, y1⟩ := vd o1.sl (i := 1) (n := 1) (by omega) rfl
  obtain ⟨a0, b0⟩ := wd0 r1.words (by omega)
  unfold RV.cells at g
  (try simp (maxSteps := 1000000) (disch := first | omega | (simp only [Z3]; omega) | (simp; done) | assumption | decide | (refine not_not_intro ?_; assumption)) only [Z1, zl, zf, zbx, zb8, eq_self, true_and, zby, zbt, zdz, zb0, zbi, zbc, Heap.get_push_eq, Heap.get_push_lt, Heap.get_set_eq, Heap.get_set_ne', Heap.next_push', Heap.next_set', Heap.set_push_lt, Heap.set_push_eq, Heap.set_set, zbj, zbk, zp, zbn, zbo, zi, zw, zbp, zbd, zu, zbe, zbf, zbg, zbh, List.set_cons_zero, List.set_cons_succ, List.length_cons, List.length_nil, List.drop_succ_cons, List.drop_zero, List.take_succ_cons, List.take_zero, List.nil_append, List.cons_append, splice, zq, zr, zh, ze, zd, zt, zbl, zv, zb2, zbu, zbm, zbs, zg, zm, Option.map_some, zbq, zbr, zk, zba, z7, zz, zj, zx, zy, g, x0, y0, x1, y1, a0, b0])
  have hf : zdm (rep 1 [Value.int .i64 0, Value.int .i64 0, Value.bool false]) [(0, 3, .agg #[i64 (l.getD 0 0), i64 (l.getD 1 0), .bool (decide (wAt ws 0 = zwk))])] = some (zdv ([⟨l.getD 0 0, l.getD 1 0, decide (wAt ws 0 = zwk)⟩] : List Gr)) := by
    show zdm _ [(0, 3, .agg ([i64 (l.getD 0 0), i64 (l.getD 1 0), .bool (decide (wAt ws 0 = zwk))] : List V).toArray)] = _
    rw [zbb (n := 3) rfl rfl (by decide), zg]
    rfl
  refine zr0 (α := Gr) (n := 3) (ys := [⟨l.getD 0 0, l.getD 1 0, decide (wAt ws 0 = zwk)⟩]) r1.hp (i := 2) rfl rfl (by decide) hf rfl (by have := hs.grs; omega) (by decide) fun w2 H2 H3 k2 s2 => ?_
  have g1 := k2.get r1.get (by simp)
  have ck : zlk (zlb (H2.get R) 1) v.gv = true := by rw [g1]; exact zr1 hone.sl
  have g2 := s2.get (i := 0) rfl
  unfold RV.cells at g2
  have n2 := Heap.get_lt g2
  have ow := (s2.own (i := 2) rfl).isOne
  (try simp (maxSteps := 1000000) (disch := first | omega | (simp only [Z3]; omega) | (simp; done) | assumption | decide | (refine not_not_intro ?_; assumption)) only [Z1, Z2, splice, g2])
  simp only [ow, true_and]
  have s3 := s2.set (i := 0) rfl ({ v with gv := w2 }.cells (addG st ⟨l.getD 0 0, l.getD 1 0, decide (wAt ws 0 = zwk)⟩))
  unfold RV.cells at s3
  have r3 : ReadAt H0 _ R { v with gv := w2 } (addG st ⟨l.getD 0 0, l.getD 1 0, decide (wAt ws 0 = zwk)⟩) (view wv ws :: L) := ⟨s3, r1.uns, r1.us⟩
  (try simp (maxSteps := 1000000) (disch := first | omega | (simp only [Z3]; omega) | (simp; done) | assumption | decide | (refine not_not_intro ?_; assumption)) only [Z1, Z2, splice, ck, znd])
  exact hok _ e _ _ r3
theorem zbn8 {G : List V → M V} {wv : V} {ws : List ByteArray} (h : ReadAt H0 H R v st (view wv ws :: L)) (hs : Sm st 1000000) (hw : 1 ≤ ws.length) (hb : ws.length ≤ 1000000) (hwz : ∀ w ∈ ws, w.size ≤ 1000000) : znq H0 H R (view wv ws :: L) (zwm st ws) (zei G zej [ptr R 0, wv]) := by
  intro Q hok hbad
  show wp (zj6 G zej (ptr R 0) wv) Q H
  have hsl := h.words
  obtain ⟨u, hu, hus, _⟩ := z73 (α := ByteArray) (n := 1) rfl hsl (k := 1) hw
  have hu' : zjw 1 wv (some (Value.int .i64 1)) none = some u := hu
  (try simp (maxSteps := 1000000) (disch := first | omega | (simp only [Z3]; omega) | (simp; done) | assumption | decide | (refine not_not_intro ?_; assumption)) only [Z1, zl, zf, zbx, zb8, eq_self, true_and, zby, zbt, zdz, zb0, zbi, zbc, Heap.get_push_eq, Heap.get_push_lt, Heap.get_set_eq, Heap.get_set_ne', Heap.next_push', Heap.next_set', Heap.set_push_lt, Heap.set_push_eq, Heap.set_set, zbj, zbk, zp, zbn, zbo, zi, zw, zbp, zbd, zu, zbe, zbf, zbg, zbh, List.set_cons_zero, List.set_cons_succ, List.length_cons, List.length_nil, List.drop_succ_cons, List.drop_zero, List.take_succ_cons, List.take_zero, List.nil_append, List.cons_append, splice, zq, zr, zh, ze, zd, zt, zbl, zv, zb2, zbu, zbm, zbs, zg, zm, Option.map_some, zbq, zbr, zk, zba, z7, zz, zj, zx, zy, zj6, hu'])
  refine zwo hus (by rw [List.length_drop]; omega) (fun w hw => hwz w (List.mem_of_mem_drop hw)) 3 _ (fun l hl w H1 k1 o1 f1 => ?_) fun hn w H1 k1 => ?_
  case refine_2 =>
    have e : zwm st ws = none := by rw [zwm, hn]
    have r1 := h.keep0 k1
    (try simp (maxSteps := 1000000) (disch := first | omega | (simp only [Z3]; omega) | (simp; done) | assumption | decide | (refine not_not_intro ?_; assumption)) only [Z1, Z2, splice, zl6])
    exact hbad e _ r1.rest
  have hlen := zzb hl
  have r1 := h.keep0 k1
  have e : zwm st ws = some (addW st ⟨l.getD 0 0, l.getD 1 0, l.getD 2 0⟩) := by rw [zwm, hl]
  have g := r1.get
  have hone := r1.hp.own (i := 4) rfl
  obtain ⟨x0, y0⟩ := vd0 o1.sl (by omega)
  obtain ⟨x1, y1⟩ := vd o1.sl (i := 1) (n := 1) (by omega) rfl
  obtain ⟨x2, y2⟩ := vd o1.sl (i := 2) (n := 2) (by omega) rfl
  unfold RV.cells at g
  (try simp (maxSteps := 1000000) (disch := first | omega | (simp only [Z3]; omega) | (simp; done) | assumption | decide | (refine not_not_intro ?_; assumption)) only [Z1, zl, zf, zbx, zb8, eq_self, true_and, zby, zbt, zdz, zb0, zbi, zbc, Heap.get_push_eq, Heap.get_push_lt, Heap.get_set_eq, Heap.get_set_ne', Heap.next_push', Heap.next_set', Heap.set_push_lt, Heap.set_push_eq, Heap.set_set, zbj, zbk, zp, zbn, zbo, zi, zw, zbp, zbd, zu, zbe, zbf, zbg, zbh, List.set_cons_zero, List.set_cons_succ, List.length_cons, List.length_nil, List.drop_succ_cons, List.drop_zero, List.take_succ_cons, List.take_zero, List.nil_append, List.cons_append, splice, zq, zr, zh, ze, zd, zt, zbl, zv, zb2, zbu, zbm, zbs, zg, zm, Option.map_some, zbq, zbr, zk, zba, z7, zz, zj, zx, zy, g, x0, y0, x1, y1, x2, y2])
  have hf : zdm (rep 1 [Value.int .i64 0, Value.int .i64 0, Value.int .i64 0]) [(0, 3, .agg #[i64 (l.getD 0 0), i64 (l.getD 1 0), i64 (l.getD 2 0)])] = some (zdv ([⟨l.getD 0 0, l.getD 1 0, l.getD 2 0⟩] : List Win)) := by
    show zdm _ [(0, 3, .agg ([i64 (l.getD 0 0), i64 (l.getD 1 0), i64 (l.getD 2 0)] : List V).toArray)] = _
    rw [zbb (n := 3) rfl rfl (by decide), zg]
    rfl
  refine zr0 (α := Win) (n := 3) (ys := [⟨l.getD 0 0, l.getD 1 0, l.getD 2 0⟩]) r1.hp (i := 4) rfl rfl (by decide) hf rfl (by have := hs.wins; omega) (by decide) fun w2 H2 H3 k2 s2 => ?_
  have g1 := k2.get r1.get (by simp)
  have ck : zlk (zlb (H2.get R) 4) v.wv = true := by rw [g1]; exact zr1 hone.sl
  have g2 := s2.get (i := 0) rfl
  unfold RV.cells at g2
  have n2 := Heap.get_lt g2
  have ow := (s2.own (i := 4) rfl).isOne
  (try simp (maxSteps := 1000000) (disch := first | omega | (simp only [Z3]; omega) | (simp; done) | assumption | decide | (refine not_not_intro ?_; assumption)) only [Z1, Z2, splice, g2])
  simp only [ow, true_and]
  have s3 := s2.set (i := 0) rfl ({ v with wv := w2 }.cells (addW st ⟨l.getD 0 0, l.getD 1 0, l.getD 2 0⟩))
  unfold RV.cells at s3
  have r3 : ReadAt H0 _ R { v with wv := w2 } (addW st ⟨l.getD 0 0, l.getD 1 0, l.getD 2 0⟩) (view wv ws :: L) := ⟨s3, r1.uns, r1.us⟩
  (try simp (maxSteps := 1000000) (disch := first | omega | (simp only [Z3]; omega) | (simp; done) | assumption | decide | (refine not_not_intro ?_; assumption)) only [Z1, Z2, splice, ck, zl6])
  exact hok _ e _ _ r3
theorem zbrw {G : List V → M V} {wv : V} {ws : List ByteArray} (h : ReadAt H0 H R v st (view wv ws :: L)) (hs : Sm st 1000000) (hw : 1 ≤ ws.length) (hb : ws.length ≤ 1000000) (hwz : ∀ w ∈ ws, w.size ≤ 1000000) : znq H0 H R (view wv ws :: L) (z5x st ws) (zdt G zej [ptr R 0, wv]) := by
  intro Q hok hbad
  show wp (zig G zej (ptr R 0) wv) Q H
  have hsl := h.words
  obtain ⟨u, hu, hus, _⟩ := z73 (α := ByteArray) (n := 1) rfl hsl (k := 1) hw
  have hu' : zjw 1 wv (some (Value.int .i64 1)) none = some u := hu
  (try simp (maxSteps := 1000000) (disch := first | omega | (simp only [Z3]; omega) | (simp; done) | assumption | decide | (refine not_not_intro ?_; assumption)) only [Z1, zl, zf, zbx, zb8, eq_self, true_and, zby, zbt, zdz, zb0, zbi, zbc, Heap.get_push_eq, Heap.get_push_lt, Heap.get_set_eq, Heap.get_set_ne', Heap.next_push', Heap.next_set', Heap.set_push_lt, Heap.set_push_eq, Heap.set_set, zbj, zbk, zp, zbn, zbo, zi, zw, zbp, zbd, zu, zbe, zbf, zbg, zbh, List.set_cons_zero, List.set_cons_succ, List.length_cons, List.length_nil, List.drop_succ_cons, List.drop_zero, List.take_succ_cons, List.take_zero, List.nil_append, List.cons_append, splice, zq, zr, zh, ze, zd, zt, zbl, zv, zb2, zbu, zbm, zbs, zg, zm, Option.map_some, zbq, zbr, zk, zba, z7, zz, zj, zx, zy, zig, hu'])
  refine zwo hus (by rw [List.length_drop]; omega) (fun w hw => hwz w (List.mem_of_mem_drop hw)) 2 _ (fun l hl w H1 k1 o1 f1 => ?_) fun hn w H1 k1 => ?_
  case refine_2 =>
    have e : z5x st ws = none := by rw [z5x, hn]
    have r1 := h.keep0 k1
    (try simp (maxSteps := 1000000) (disch := first | omega | (simp only [Z3]; omega) | (simp; done) | assumption | decide | (refine not_not_intro ?_; assumption)) only [Z1, Z2, splice, zkf])
    exact hbad e _ r1.rest
  have hlen := zzb hl
  have r1 := h.keep0 k1
  have e : z5x st ws = some (addW st ⟨-1, l.getD 0 0, l.getD 1 0⟩) := by rw [z5x, hl]
  have g := r1.get
  have hone := r1.hp.own (i := 4) rfl
  obtain ⟨x0, y0⟩ := vd0 o1.sl (by omega)
  obtain ⟨x1, y1⟩ := vd o1.sl (i := 1) (n := 1) (by omega) rfl
  unfold RV.cells at g
  (try simp (maxSteps := 1000000) (disch := first | omega | (simp only [Z3]; omega) | (simp; done) | assumption | decide | (refine not_not_intro ?_; assumption)) only [Z1, zl, zf, zbx, zb8, eq_self, true_and, zby, zbt, zdz, zb0, zbi, zbc, Heap.get_push_eq, Heap.get_push_lt, Heap.get_set_eq, Heap.get_set_ne', Heap.next_push', Heap.next_set', Heap.set_push_lt, Heap.set_push_eq, Heap.set_set, zbj, zbk, zp, zbn, zbo, zi, zw, zbp, zbd, zu, zbe, zbf, zbg, zbh, List.set_cons_zero, List.set_cons_succ, List.length_cons, List.length_nil, List.drop_succ_cons, List.drop_zero, List.take_succ_cons, List.take_zero, List.nil_append, List.cons_append, splice, zq, zr, zh, ze, zd, zt, zbl, zv, zb2, zbu, zbm, zbs, zg, zm, Option.map_some, zbq, zbr, zk, zba, z7, zz, zj, zx, zy, g, x0, y0, x1, y1])
  have hf : zdm (rep 1 [Value.int .i64 0, Value.int .i64 0, Value.int .i64 0]) [(0, 3, .agg #[i64 (-1), i64 (l.getD 0 0), i64 (l.getD 1 0)])] = some (zdv ([⟨-1, l.getD 0 0, l.getD 1 0⟩] : List Win)) := by
    show zdm _ [(0, 3, .agg ([i64 (-1), i64 (l.getD 0 0), i64 (l.getD 1 0)] : List V).toArray)] = _
    rw [zbb (n := 3) rfl rfl (by decide), zg]
    rfl
  refine zr0 (α := Win) (n := 3) (ys := [⟨-1, l.getD 0 0, l.getD 1 0⟩]) r1.hp (i := 4) rfl rfl (by decide) hf rfl (by have := hs.wins; omega) (by decide) fun w2 H2 H3 k2 s2 => ?_
  have g1 := k2.get r1.get (by simp)
  have ck : zlk (zlb (H2.get R) 4) v.wv = true := by rw [g1]; exact zr1 hone.sl
  have g2 := s2.get (i := 0) rfl
  unfold RV.cells at g2
  have n2 := Heap.get_lt g2
  have ow := (s2.own (i := 4) rfl).isOne
  (try simp (maxSteps := 1000000) (disch := first | omega | (simp only [Z3]; omega) | (simp; done) | assumption | decide | (refine not_not_intro ?_; assumption)) only [Z1, Z2, splice, g2])
  simp only [ow, true_and]
  have s3 := s2.set (i := 0) rfl ({ v with wv := w2 }.cells (addW st ⟨-1, l.getD 0 0, l.getD 1 0⟩))
  unfold RV.cells at s3
  have r3 : ReadAt H0 _ R { v with wv := w2 } (addW st ⟨-1, l.getD 0 0, l.getD 1 0⟩) (view wv ws :: L) := ⟨s3, r1.uns, r1.us⟩
  (try simp (maxSteps := 1000000) (disch := first | omega | (simp only [Z3]; omega) | (simp; done) | assumption | decide | (refine not_not_intro ?_; assumption)) only [Z1, Z2, splice, ck, zkf])
  exact hok _ e _ _ r3
end Go.AM.Cap
