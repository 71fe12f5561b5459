import Derived.Test.YtjchglndancedaaGreatDoorCfG
import Derived.Test.YtjchglndancedaaGreatDoorAmOpenF
set_option linter.all false
/- conf: part.New, exec.New -/
set_option maxHeartbeats 8000000
namespace Go.AM.Cap
open Go.AM Go.Proofs
theorem zbt1 {S : zbz} {f : V} {H : Heap} {v : V} {l : List Int} (h : Sl H v l) (hl : l.length ≤ 1000000000) (hp : ∀ (H2 : Heap) (x : Int) (Q : V → Heap → Prop), x ∈ l → Keeps [] H H2 → (∀ H', Keeps [] H2 H' → Q (.bool false) H') → wp (zod (ovr [] S) f [i64 x]) Q H2)
    (Q : V → Heap → Prop) (hQ : ∀ H', Keeps [] H H' → Q (.bool false) H') : wp (zea S [v, f]) Q H := by
  show wp (zfc S v f) Q H
  unfold zfc
  rw [zcc, zcc]
  show wp (zf8 S v f) _ H
  have hlen := h.len
  (try simp (maxSteps := 1000000) (disch := first | omega | (simp only [Z3]; omega) | (simp; done) | assumption | decide | (refine not_not_intro ?_; assumption)) only [Z1, Z2, splice, zf8, hlen])
  refine ze6 l.length (by omega) (fun j vs H' => vs = [v, f, i64 l.length, i64 j] ∧ Keeps [] H H') ⟨rfl, Keeps.refl _ _⟩ ?_
  rintro j vs H1 hj ⟨rfl, hk1⟩
  by_cases hlt : j < l.length
  case neg =>
    have e : decide ((-1 : Int) ≥ 0) = false := by decide
    (try simp (maxSteps := 1000000) (disch := first | omega | (simp only [Z3]; omega) | (simp; done) | assumption | decide | (refine not_not_intro ?_; assumption)) only [Z1, Z2, splice, zh6, zlh, e])
    exact hQ _ hk1
  have a1 := (h.keep0 hk1).addr1 rfl (k := .i64) (i := j) (by omega) (by omega)
  rw [Int.toNat_natCast] at a1
  have c1 := (h.keep0 hk1).cell1 rfl hlt 0
  rw [zl] at c1
  have e1 : (Flat.enc (l.getD j 0))[0]? = some (i64 (l.getD j 0)) := rfl
  rw [e1] at c1
  have hm : l.getD j 0 ∈ l := zgs hlt
  (try simp (maxSteps := 1000000) (disch := first | omega | (simp only [Z3]; omega) | (simp; done) | assumption | decide | (refine not_not_intro ?_; assumption)) only [Z1, Z2, splice, zh6, zlg, a1, c1])
  refine hp H1 _ _ hm hk1 fun H2 k2 => ?_
  (try simp (maxSteps := 1000000) (disch := first | omega | (simp only [Z3]; omega) | (simp; done) | assumption | decide | (refine not_not_intro ?_; assumption)) only [Z1, Z2, splice, zlf])
  exact ⟨hlt, rfl, hk1.trans k2 (by simp)⟩
theorem zbi6 {H : Heap} {v w : V} {xs ys : List Int} (hv : Sl H v xs) (hw : Sl H w ys) (h1 : xs.length ≤ 32) (h2 : ys.length ≤ 32) (g1 : ∀ t ∈ xs, 1 ≤ t ∧ t ≤ 3) (g2 : ∀ t ∈ ys, 1 ≤ t ∧ t ≤ 3) (Q : V → Heap → Prop)
    (hQ : ∀ p H', Keeps [] H H' → Q (.tuple #[ptr p 0, i64 0]) H') : wp (zv8 [v, w]) Q H := by
  show wp (zz5 v w) Q H
  have l1 := hv.len
  have l2 := hw.len
  have ov := hv.isOne
  have ow := hw.isOne
  (try simp (maxSteps := 1000000) (disch := first | omega | (simp only [Z3]; omega) | (simp; done) | assumption | decide | (refine not_not_intro ?_; assumption)) only [Z1, zl, zf, zbx, zb8, eq_self, true_and, zby, zbt, zdz, zb0, zbi, zbc, Heap.get_push_eq, Heap.get_push_lt, Heap.get_set_eq, Heap.get_set_ne', Heap.next_push', Heap.next_set', Heap.set_push_lt, Heap.set_push_eq, Heap.set_set, zbj, zbk, zp, zbn, zbo, zi, zw, zbp, zbd, zu, zbe, zbf, zbg, zbh, List.set_cons_zero, List.set_cons_succ, List.length_cons, List.length_nil, List.drop_succ_cons, List.drop_zero, List.take_succ_cons, List.take_zero, List.nil_append, List.cons_append, splice, zq, zr, zh, ze, zd, zt, zbl, zv, zb2, zbu, zbm, zbs, zg, zm, zbb, Option.map_some, zbq, zbr, zk, z7, zz, zj, zx, zy, zz5, l1, l2, z97])
  have hcs : zdm (rep 2 [Value.slice none 0 0]) [(0, 1, v), (1, 1, w)] = some [v, w] := by
    show zdm [Value.slice none 0 0, Value.slice none 0 0] _ = _
    rw [zm ov (by decide), zm ow (by simp), zg]
    rfl
  refine (zub (by decide) hcs).mpr ?_
  have k1 : Keeps [] H (H.push (some (.cells true [v, w]))) := Keeps.push _ _ _
  have hg : (H.push (some (.cells true [v, w]))).get H.next = some (.cells true [v, w]) := Heap.get_push_self _ _
  generalize H.push (some (.cells true [v, w])) = H1 at *
  have hs2 : Sl2 H1 (slc H.next 0 1 2 2) ([⟨v, xs, ov⟩, ⟨w, ys, ow⟩] : List (In Int)) := by
    refine ⟨.inr ⟨H.next, 0, 1, 2, rfl, Nat.le_refl _, Heap.get_lt hg, .inr ⟨true, _, hg, Nat.le_refl _, rfl⟩, .inr rfl⟩, fun x hx => ?_⟩
    simp only [List.mem_cons, List.not_mem_nil, or_false] at hx
    rcases hx with rfl | rfl
    · exact hv.keep0 k1
    · exact hw.keep0 k1
  (try simp (maxSteps := 1000000) (disch := first | omega | (simp only [Z3]; omega) | (simp; done) | assumption | decide | (refine not_not_intro ?_; assumption)) only [Z1, Z2, splice, ccI])
  refine zbqa (α := Int) rfl rfl rfl hs2 (by simp) (by simp [zp6]; omega) (by omega) _ fun c H2 o2 k2 f2 => ?_
  have k02 := k1.trans k2 (fun _ _ h => h)
  have hcat : z2i ([⟨v, xs, ov⟩, ⟨w, ys, ow⟩] : List (In Int)) = xs ++ ys := by simp [z2i]
  rw [hcat] at o2
  (try simp (maxSteps := 1000000) (disch := first | omega | (simp only [Z3]; omega) | (simp; done) | assumption | decide | (refine not_not_intro ?_; assumption)) only [Z1, Z2, splice])
  refine zbt1 o2.sl (by rw [List.length_append]; omega) (fun H3 x R hx k3 hR => ?_) _ fun H3 k3 => ?_
  · have hr : 1 ≤ x ∧ x ≤ 3 := by
      rcases List.mem_append.1 hx with hx | hx
      · exact g1 x hx
      · exact g2 x hx
    show wp (zrq [i64 x]) R H3
    show wp (zup (i64 x)) R H3
    (try simp (maxSteps := 1000000) (disch := first | omega | (simp only [Z3]; omega) | (simp; done) | assumption | decide | (refine not_not_intro ?_; assumption)) only [Z1, Z2, splice, zup])
    have e : decide (x > 3) = false := decide_eq_false (by omega)
    simpa [e] using hR H3 (Keeps.refl _ _)
  have k03 := k02.trans k3 (fun _ _ h => h)
  (try simp (maxSteps := 1000000) (disch := first | omega | (simp only [Z3]; omega) | (simp; done) | assumption | decide | (refine not_not_intro ?_; assumption)) only [Z1, Z2, splice, z96])
  refine zsg (α := Int) (n := 1) rfl rfl rfl (hv.keep0 k03) (by omega) (by omega) _ fun a H4 o4 k4 f4 => ?_
  have k04 := k03.trans k4 (fun _ _ h => h)
  (try simp (maxSteps := 1000000) (disch := first | omega | (simp only [Z3]; omega) | (simp; done) | assumption | decide | (refine not_not_intro ?_; assumption)) only [Z1, Z2, splice])
  refine zsg (α := Int) (n := 1) rfl rfl rfl (hw.keep0 k04) (by omega) (by omega) _ fun b H5 o5 k5 f5 => ?_
  have k05 := k04.trans k5 (fun _ _ h => h)
  have oa := o4.isOne
  have ob := o5.isOne
  (try simp (maxSteps := 1000000) (disch := first | omega | (simp only [Z3]; omega) | (simp; done) | assumption | decide | (refine not_not_intro ?_; assumption)) only [Z1, zl, zf, zbx, zb8, eq_self, true_and, zby, zbt, zdz, zb0, zbi, zbc, Heap.get_push_eq, Heap.get_push_lt, Heap.get_set_eq, Heap.get_set_ne', Heap.next_push', Heap.next_set', Heap.set_push_lt, Heap.set_push_eq, Heap.set_set, zbj, zbk, zp, zbn, zbo, zi, zw, zbp, zbd, zu, zbe, zbf, zbg, zbh, List.set_cons_zero, List.set_cons_succ, List.length_cons, List.length_nil, List.drop_succ_cons, List.drop_zero, List.take_succ_cons, List.take_zero, List.nil_append, List.cons_append, splice, zq, zr, zh, ze, zd, zt, zbl, zv, zb2, zbu, zbm, zbs, zg, zm, zbb, Option.map_some, zbq, zbr, zk, z7, zz, zj, zx, zy])
  refine (zbc (by simp [oa, ob])).mpr ?_
  exact hQ _ _ (zdw k05)
theorem zbaj {s : Sy} {unit : Int} {out : Bool} : ∀ {l seen : List Bd}, zuv s unit out seen l = true → ∀ b ∈ l, z4s s unit b out = true
  | [], _, _, b, hb => by cases hb
  | x :: l, seen, h, b, hb => by
    rw [zuv] at h
    by_cases hc : z4s s unit x out = false ∨ x ∈ seen
    · rw [if_pos hc] at h; cases h
    · rw [if_neg hc] at h
      rcases List.mem_cons.1 hb with rfl | hb
      · cases hm : z4s s unit b out with
        | true => rfl
        | false => exact absurd (.inl hm) hc
      · exact zbaj h b hb
theorem zbc7 {s : Sy} {unit : Int} {out : Bool} {l : List Bd} (h : zrx s unit l out = true) : l.length ≤ 32 ∧ ∀ b ∈ l, z4s s unit b out = true := by
  unfold zrx at h
  by_cases hc : l.length > 32
  · rw [if_pos hc] at h; cases h
  · rw [if_neg hc] at h
    exact ⟨by omega, zbaj h⟩
theorem zbi7 {s : Sy} {unit : Int} {out : Bool} {b : Bd} (hg : ∀ g ∈ s.grs, 0 ≤ g.point ∧ g.point < s.pts.length) (h : z4s s unit b out = true) : inB s b := by
  unfold z4s at h
  by_cases h1 : b.kind = 1
  · rw [if_pos h1, zbp7, List.any_eq_true] at h
    obtain ⟨g, hm, hg2⟩ := h
    unfold mayG at hg2
    simp only [Bool.and_eq_true, decide_eq_true_eq] at hg2
    have := hg g hm
    exact .inl ⟨h1, by omega, by omega⟩
  · rw [if_neg h1] at h
    by_cases h2 : b.kind = 2
    · rw [if_pos h2, zbi3] at h
      by_cases h3 : b.n < 0 ∨ b.n ≥ s.prs.length
      · rw [if_pos h3] at h; cases h
      · exact .inr ⟨h2, by omega, by omega⟩
    · rw [if_neg h2] at h; cases h
theorem z70 {s : Sy} {l : List PUn} : ∀ {k : Nat}, zpf s l k = false → ∀ i, l.length - k ≤ i → i < l.length → k ≤ l.length → zrx s i (l.getD i default).ins false = true ∧ zrx s i (l.getD i default).outs true = true
  | 0, _, i, h1, h2, _ => by omega
  | k + 1, h, i, h1, h2, h3 => by
    rw [zpf] at h
    simp only [Bool.or_eq_false_iff, Bool.not_eq_eq_eq_not, Bool.not_false] at h
    by_cases he : i = l.length - (k + 1)
    · subst he; exact ⟨h.1, h.2.1⟩
    · exact z70 h.2.2 i (by omega) h2 (by omega)
structure SyOk (s : Sy) : Prop where
  chkB : (chkB s.pts s.grs).2 = 0
  chkP : (chkP s.prs).2 = 0
  plan : z4r s.frame s.wins s.uns.length = 0
  millis : 1 ≤ s.millis ∧ s.millis ≤ 10000
  units : ∀ i, i < s.uns.length → zrx s i (s.uns.getD i default).ins false = true ∧ zrx s i (s.uns.getD i default).outs true = true
theorem zbqb {s : Sy} (h : exE s = 0) : SyOk s := by
  unfold exE at h
  by_cases e1 : (Cap.chkB s.pts s.grs).2 = 0
  case neg => rw [if_pos e1] at h; exact absurd h e1
  rw [if_neg (by simp [e1])] at h
  by_cases e2 : (Cap.chkP s.prs).2 = 0
  case neg => rw [if_pos e2] at h; exact absurd h e2
  rw [if_neg (by simp [e2])] at h
  by_cases e3 : z4r s.frame s.wins s.uns.length = 0
  case neg => rw [if_pos e3] at h; exact absurd h e3
  rw [if_neg (by simp [e3])] at h
  by_cases e4 : s.millis < 1 ∨ s.millis > 10000 ∨ (s.grs.any fun g => decide (g.part ≥ s.uns.length)) = true ∨ (s.prs.any fun p => decide (p.src ≥ s.uns.length ∨ p.dst ≥ s.uns.length)) = true
  · rw [if_pos e4] at h; cases h
  rw [if_neg e4] at h
  by_cases e5 : zpf s s.uns s.uns.length = true
  · rw [if_pos e5] at h; cases h
  exact ⟨e1, e2, e3, by omega, fun i hi => z70 (by simpa using e5) i (by omega) hi (by omega)⟩
theorem SyOk.grs {s : Sy} (h : SyOk s) : ∀ g ∈ s.grs, 0 ≤ g.point ∧ g.point < s.pts.length := fun g hg => ((z9f h.chkB).2.2 g hg).2
theorem zbqc {s : Sy} (h : SyOk s) {b : Bd} (hb : inB s b) : 1 ≤ z7z s b ∧ z7z s b ≤ 3 := by
  unfold z7z
  rcases hb with ⟨h1, h2, h3⟩ | ⟨h1, h2, h3⟩
  · rw [if_pos h1]
    have := (z9f h.chkB).2.1 _ (zgs (d := default) (show b.n.toNat < s.pts.length by omega))
    unfold z9c at this
    omega
  · rw [if_neg (by omega), if_pos h1]
    have := (zbe8 h.chkP).2 _ (zgs (d := default) (show b.n.toNat < s.prs.length by omega))
    generalize s.prs.getD b.n.toNat default = p at *
    unfold zz8 at this
    by_cases c1 : p.kind ≠ 1 ∧ p.kind ≠ 2
    · rw [if_pos c1] at this; omega
    rw [if_neg c1] at this
    by_cases c2 : ¬ (0 ≤ p.src ∧ p.src < 8) ∨ ¬ (0 ≤ p.dst ∧ p.dst < 8)
    · rw [if_pos c2] at this; omega
    rw [if_neg c2] at this
    by_cases c3 : p.src = p.dst
    · rw [if_pos c3] at this; omega
    rw [if_neg c3] at this
    by_cases c4 : p.typ < 1 ∨ p.typ > 3
    · rw [if_pos c4] at this; omega
    omega
end Go.AM.Cap
