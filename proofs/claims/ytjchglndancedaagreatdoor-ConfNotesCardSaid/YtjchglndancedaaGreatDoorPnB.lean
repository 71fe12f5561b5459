import Derived.Test.YtjchglndancedaaGreatDoorPnA
import Derived.Test.YtjchglndancedaaGreatDoorAmOpenF
set_option linter.all false
/- points: Check -/
set_option maxHeartbeats 8000000
namespace Go.AM.Cap
open Go.AM Go.Proofs
theorem zbcu {α : Type} (l : List α) (i : Nat) (d : α) (h : i < l.length) : l.drop i = l.getD i d :: l.drop (i + 1) := by
  rw [List.getD_eq_getElem?_getD, List.getElem?_eq_getElem h]; exact List.drop_eq_getElem_cons h
def hasG (es : List (Gr × Bool)) (g : Gr) : Bool := (zoy es g).getD false
def hasI (es : List (Int × Bool)) (g : Int) : Bool := (zoy es g).getD false
abbrev ptAt (ls : List Pt) (i : Int) : Pt := ls.getD i.toNat default
def chkG (ls : List Pt) : Nat → List (Gr × Bool) → List (Int × Bool) → List Gr → Int × Int
  | _, _, _, [] => (0, 0)
  | i, sn, wr, g :: gs =>
    if ¬ (0 ≤ g.part ∧ g.part < 8) ∨ g.point < 0 ∨ g.point ≥ ls.length then ((i : Int), 1) else
    if g.write = true ∧ ¬ (ptAt ls g.point).out = true then ((i : Int), 91) else
    if hasG sn g = true ∨ (g.write = true ∧ hasI wr g.point = true) then ((i : Int), 190) else
    chkG ls (i + 1) (zll sn g true) (zll wr g.point (hasI wr g.point || g.write)) gs
instance (ls : List Pt) : Decidable (∃ p ∈ ls, z9c p) := inferInstance
def chkB (ls : List Pt) (gs : List Gr) : Int × Int :=
  if ls.length > 64 then (-1, 2) else if ∃ p ∈ ls, z9c p then (-1, 40) else chkG ls 0 [] [] gs
theorem _root_.Go.AM.Sl.blt {α : Type} [Flat α] {H : Heap} {v : V} {l : List α} (h : Sl H v l) (hn : 0 < l.length) : slB v < H.next := by
  rcases h with ⟨rfl, rfl⟩ | ⟨b, o, u, c, rfl, hc, hb, _⟩
  · simp at hn
  · exact hb
theorem z0u (H : Heap) (lv gv : V) (ls : List Pt) (gs : List Gr) (hl : Sl H lv ls) (hg : Sl H gv gs) (hn : gs.length ≤ 1000000) (Q : V → Heap → Prop) (hQ : ∀ H', Keeps [] H H' → Q (.tuple #[i64 (chkB ls gs).1, i64 (chkB ls gs).2]) H') : wp (zjd [lv, gv]) Q H := by
  show wp (znf lv gv) Q H
  by_cases h64 : (ls.length : Int) > 64
  · (try simp (maxSteps := 1000000) (disch := first | omega | (simp only [Z3]; omega) | (simp; done) | assumption | decide | (refine not_not_intro ?_; assumption)) only [Z1, Z2, splice, znf, hl.len])
    have := hQ H (Keeps.refl _ _)
    rw [chkB, if_pos (by omega)] at this
    exact this
  (try simp (maxSteps := 1000000) (disch := first | omega | (simp only [Z3]; omega) | (simp; done) | assumption | decide | (refine not_not_intro ?_; assumption)) only [Z1, Z2, splice, znf, hl.len])
  refine zbi0 H lv ls hl (by omega) _ fun H1 k1 => ?_
  by_cases hb : ∃ p ∈ ls, z9c p
  · rw [decide_eq_true hb]
    (try simp (maxSteps := 1000000) (disch := first | omega | (simp only [Z3]; omega) | (simp; done) | assumption | decide | (refine not_not_intro ?_; assumption)) only [Z1, Z2, splice])
    have := hQ H1 k1
    rw [chkB, if_neg (by omega), if_pos hb] at this
    exact this
  rw [decide_eq_false hb]
  have hc : chkB ls gs = chkG ls 0 [] [] gs := by rw [chkB, if_neg (by omega), if_neg hb]
  rw [hc] at hQ
  have hg1 := hg.keep0 k1
  (try simp (maxSteps := 1000000) (disch := first | omega | (simp only [Z3]; omega) | (simp; done) | assumption | decide | (refine not_not_intro ?_; assumption)) only [Z1, Z2, splice, z0s, zbif, hg1.len, hg.len])
  generalize hm1 : H1.next = m1
  have hE : H1.next ≤ m1 := by omega
  refine zpi (Inv := fun k vs H' => ∃ (i : Nat) (sn : List (Gr × Bool)) (wr : List (Int × Bool)), k = gs.length - i ∧ i ≤ gs.length ∧ vs = [lv, .map (some m1), .map (some (m1 + 1)), gv, i64 gs.length, i64 i] ∧ Keeps [] H1 H' ∧ H'.get m1 = some (.map true (sn.map zmj)) ∧ H'.get (m1 + 1) = some (.map true (wr.map zmj)) ∧ chkG ls i sn wr (gs.drop i) = chkG ls 0 [] [] gs) (n := gs.length) (by unfold zem; omega)
    ⟨0, [], [], by omega, by omega, ?_, zdw (Keeps.push _ _ _), ?_, ?_, rfl⟩ ?_
  · subst hm1; rfl
  · subst hm1
    rw [Heap.get_push_lt (by simp)]; exact Heap.get_push_self _ _
  · subst hm1
    exact Heap.get_push_eq (by simp)
  rintro k vs H' ⟨i, sn, wr, hk, hi, rfl, kk, hsn, hwr, hi2⟩
  have hl' := hl.keep0 (k1.trans kk (fun _ _ h => h))
  have hg' := hg1.keep0 kk
  have hlt1 := Heap.get_lt hsn
  have hlt2 := Heap.get_lt hwr
  by_cases h : i < gs.length
  · rw [zbcu gs i default h, chkG] at hi2
    generalize hgg : gs.getD i default = g at hi2
    obtain ⟨pa, po, w⟩ := g
    simp only at hi2
    (try simp (maxSteps := 1000000) (disch := first | omega | (simp only [Z3]; omega) | (simp; done) | assumption | decide | (refine not_not_intro ?_; assumption)) only [Z1, Z2, splice, ztj, z0q, hg'.addr' (n := 3) rfl, hg'.ldn' (n := 3) rfl _ default, Int.toNat_natCast, zyf, hgg, zbat, hl'.len])
    have kpush : Keeps [] H1 (H'.push (some (.cells true [i64 pa, i64 po, .bool w]))) := zdw kk
    have hfin := k1.trans kpush (fun _ _ h => h)
    by_cases c1 : ¬ (0 ≤ pa ∧ pa < 8) ∨ po < 0 ∨ po ≥ ls.length
    · rw [if_pos c1] at hi2
      have q := hQ _ hfin
      rw [← hi2] at q
      by_cases d1 : 0 ≤ pa ∧ pa < 8
      · by_cases d2 : po < 0
        · (try simp (maxSteps := 1000000) (disch := first | omega | (simp only [Z3]; omega) | (simp; done) | assumption | decide | (refine not_not_intro ?_; assumption)) only [Z1, Z2, splice, decide_eq_true d1])
          exact q
        · (try simp (maxSteps := 1000000) (disch := first | omega | (simp only [Z3]; omega) | (simp; done) | assumption | decide | (refine not_not_intro ?_; assumption)) only [Z1, Z2, splice, decide_eq_true d1, hl'.len])
          exact q
      · (try simp (maxSteps := 1000000) (disch := first | omega | (simp only [Z3]; omega) | (simp; done) | assumption | decide | (refine not_not_intro ?_; assumption)) only [Z1, Z2, splice, decide_eq_false d1])
        exact q
    rw [if_neg c1] at hi2
    have c1' : (0 ≤ pa ∧ pa < 8) ∧ 0 ≤ po ∧ po < ls.length := by omega
    obtain ⟨d1, d2, d3⟩ := c1'
    have hli : po.toNat < ls.length := by omega
    have hsb : slB lv < H'.next := hl'.blt (by omega)
    have hcell : zlb (H'.get (slB lv)) (slO lv + po.toNat * 2 + 1) = some (.bool (ptAt ls po).out) := by
      rw [← zl, hl'.cell' (n := 2) rfl hli (by decide : 1 < 2) default]; rfl
    have ha2 := hl'.addr' (n := 2) rfl (k := .i64) d2 d3
    by_cases c2 : w = true ∧ ¬ (ptAt ls po).out = true
    · rw [if_pos c2] at hi2
      have q := hQ _ hfin
      rw [← hi2] at q
      obtain ⟨rfl, e2⟩ := c2
      have e2 : (ptAt ls po).out = false := by simpa using e2
      (try simp (maxSteps := 1000000) (disch := first | omega | (simp only [Z3]; omega) | (simp; done) | assumption | decide | (refine not_not_intro ?_; assumption)) only [Z1, Z2, splice, decide_eq_true d1, hl'.len, ha2, hcell, e2])
      exact q
    rw [if_neg c2] at hi2
    have hlt1' : m1 < H'.next + 1 := by omega
    by_cases c3 : hasG sn ⟨pa, po, w⟩ = true ∨ (w = true ∧ hasI wr po = true)
    · rw [if_pos c3] at hi2
      have q := hQ _ hfin
      rw [← hi2] at q
      cases e3 : hasG sn ⟨pa, po, w⟩ with
      | true =>
        have e3' : (zoy sn ⟨pa, po, w⟩).getD false = true := e3
        cases w with
        | false =>
          (try simp (maxSteps := 1000000) (disch := first | omega | (simp only [Z3]; omega) | (simp; done) | assumption | decide | (refine not_not_intro ?_; assumption)) only [Z1, Z2, splice, decide_eq_true d1, hl'.len, zi7, lkGB, hsn, e3'])
          exact q
        | true =>
          have e2 : (ptAt ls po).out = true := by simpa using c2
          (try simp (maxSteps := 1000000) (disch := first | omega | (simp only [Z3]; omega) | (simp; done) | assumption | decide | (refine not_not_intro ?_; assumption)) only [Z1, Z2, splice, decide_eq_true d1, hl'.len, ha2, hcell, e2, zi7, lkGB, hsn, e3'])
          exact q
      | false =>
        have e3' : (zoy sn ⟨pa, po, w⟩).getD false = false := e3
        have hw : w = true ∧ hasI wr po = true := by rcases c3 with c3 | c3; rw [e3] at c3; cases c3; exact c3
        obtain ⟨rfl, e4⟩ := hw
        have e4' : (zoy wr po).getD false = true := e4
        have e2 : (ptAt ls po).out = true := by simpa using c2
        (try simp (maxSteps := 1000000) (disch := first | omega | (simp only [Z3]; omega) | (simp; done) | assumption | decide | (refine not_not_intro ?_; assumption)) only [Z1, Z2, splice, decide_eq_true d1, hl'.len, ha2, hcell, e2, zi7, lkGB, lkIB, hsn, hwr, e3', e4'])
        exact q
    rw [if_neg c3] at hi2
    have e3 : (zoy sn ⟨pa, po, w⟩).getD false = false := by cases hq : (zoy sn ⟨pa, po, w⟩).getD false; rfl; exact absurd (.inl hq) c3
    have fin : wp (zlq [lv, .map (some m1), .map (some (m1 + 1)), ptr H'.next 0, gv, i64 gs.length, i64 i]) (fun o H2 => ∃ vs, o = .nxt vs ∧ vs = [lv, .map (some m1), .map (some (m1 + 1)), gv, i64 gs.length, i64 i] ∧ Keeps [] H1 H2 ∧ H2.get m1 = some (.map true ((zll sn ⟨pa, po, w⟩ true).map zmj)) ∧ H2.get (m1 + 1) = some (.map true ((zll wr po (hasI wr po || w)).map zmj))) (H'.push (some (.cells true [i64 pa, i64 po, .bool w]))) := by
      have hasg : ∀ v, zll wr po (hasI wr po || w) = v → zll wr po ((zoy wr po).getD false || w) = v := fun v h => h
      cases e4 : hasI wr po with
      | true =>
        have e4' : (zoy wr po).getD false = true := e4
        (try simp (maxSteps := 1000000) (disch := first | omega | (simp only [Z3]; omega) | (simp; done) | assumption | decide | (refine not_not_intro ?_; assumption)) only [Z1, Z2, splice, zlq, zve, stGB, stIB, zi7, lkIB, hsn, hwr, e4'])
        exact ⟨_, rfl, rfl, zdw (zd7 (zd7 kk (.inr hE)) (.inr (by omega))), rfl⟩
      | false =>
        have e4' : (zoy wr po).getD false = false := e4
        (try simp (maxSteps := 1000000) (disch := first | omega | (simp only [Z3]; omega) | (simp; done) | assumption | decide | (refine not_not_intro ?_; assumption)) only [Z1, Z2, splice, zlq, zve, stGB, stIB, zi7, lkIB, hsn, hwr, e4'])
        exact ⟨_, rfl, rfl, zdw (zd7 (zd7 kk (.inr hE)) (.inr (by omega))), rfl⟩
    have done : ∀ R : Out → Heap → Prop, (∀ vs' H6, (∃ k', k' < k ∧ ∃ (i : Nat) (sn : List (Gr × Bool)) (wr : List (Int × Bool)), k' = gs.length - i ∧ i ≤ gs.length ∧ vs' = [lv, .map (some m1), .map (some (m1 + 1)), gv, i64 gs.length, i64 i] ∧ Keeps [] H1 H6 ∧ H6.get m1 = some (.map true (sn.map zmj)) ∧ H6.get (m1 + 1) = some (.map true (wr.map zmj)) ∧ chkG ls i sn wr (gs.drop i) = chkG ls 0 [] [] gs) → R (.nxt vs') H6) →
        wp (zlq [lv, .map (some m1), .map (some (m1 + 1)), ptr H'.next 0, gv, i64 gs.length, i64 i]) (fun b H5 => wp (nx (zb9 2 b) zti) R H5) (H'.push (some (.cells true [i64 pa, i64 po, .bool w]))) := by
      intro R hR
      refine z6r fin fun o H2 ho => ?_
      obtain ⟨vs, rfl, rfl, q1, q2, q3⟩ := ho
      (try simp (maxSteps := 1000000) (disch := first | omega | (simp only [Z3]; omega) | (simp; done) | assumption | decide | (refine not_not_intro ?_; assumption)) only [Z1, Z2, splice, zti])
      exact hR _ _ ⟨gs.length - (i + 1), by omega, i + 1, _, _, rfl, by omega, rfl, q1, q2, q3, hi2⟩
    cases w with
    | false =>
      (try simp (maxSteps := 1000000) (disch := first | omega | (simp only [Z3]; omega) | (simp; done) | assumption | decide | (refine not_not_intro ?_; assumption)) only [Z1, Z2, splice, decide_eq_true d1, hl'.len, zi7, lkGB, hsn, e3])
      exact done _ (fun _ _ h => h)
    | true =>
      have e2 : (ptAt ls po).out = true := by simpa using c2
      have e4 : (zoy wr po).getD false = false := by cases hq : (zoy wr po).getD false; rfl; exact absurd (.inr ⟨rfl, hq⟩) c3
      (try simp (maxSteps := 1000000) (disch := first | omega | (simp only [Z3]; omega) | (simp; done) | assumption | decide | (refine not_not_intro ?_; assumption)) only [Z1, Z2, splice, decide_eq_true d1, hl'.len, ha2, hcell, e2, zi7, lkGB, lkIB, hsn, hwr, e3, e4])
      exact done _ (fun _ _ h => h)
  · have : i = gs.length := by omega
    subst this
    rw [List.drop_length, chkG] at hi2
    (try simp (maxSteps := 1000000) (disch := first | omega | (simp only [Z3]; omega) | (simp; done) | assumption | decide | (refine not_not_intro ?_; assumption)) only [Z1, Z2, splice, ztj, z0r])
    have q := hQ H' (k1.trans kk (fun _ _ h => h))
    rw [← hi2] at q
    exact q
end Go.AM.Cap
