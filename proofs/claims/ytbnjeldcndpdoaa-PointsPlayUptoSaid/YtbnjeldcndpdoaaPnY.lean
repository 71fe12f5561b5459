import Derived.Test.YtbnjeldcndpdoaaPnX
import Derived.Test.YtbnjeldcndpdoaaAmMap
set_option linter.all false
/- points: a call of both banks -/
set_option maxHeartbeats 8000000
namespace Go.AM.Cap
open Go.AM Go.Proofs

/-- both banks, behind H0 -/
structure Duo (H0 H : Heap) (x : BL) (B : Bk) (y : RL) (R : Rk) : Prop where
  a : BankR H x B
  b : RbR H y R
  k : Keeps [] H0 H
  lo : ∀ b ∈ x.foot, H0.next ≤ b
  lo2 : ∀ b ∈ y.foot, H0.next ≤ b
  dis : ∀ b ∈ x.foot, b ∉ y.foot
theorem wr_foot {y : RL} {b : Nat} (h : b ∈ y.wr) : b ∈ y.foot := by
  simp only [RL.wr, List.mem_cons, List.not_mem_nil, or_false] at h
  simp only [RL.foot, List.mem_cons]
  rcases h with q | q | q | q <;> simp [q]
theorem bank_sub {x : BL} {b : Nat} (h : b ∈ [x.sm, x.fm, x.va]) : b ∈ x.foot := by
  simp only [List.mem_cons, List.not_mem_nil, or_false] at h
  rcases h with rfl | rfl | rfl <;> simp [BL.foot]
section
variable {H0 H H' : Heap} {x : BL} {B B' : Bk} {y y' : RL} {R R' : Rk}
theorem Duo.keep0 (t : Duo H0 H x B y R) (hk : Keeps [] H H') : Duo H0 H' x B y R := ⟨t.a.keep0 hk, t.b.keep0 hk, t.k.trans hk (fun _ _ h => h), t.lo, t.lo2, t.dis⟩
theorem Duo.turnA (t : Duo H0 H x B y R) (hb : BankR H' x B') (hk : Keeps [x.sm, x.fm, x.va] H H') : Duo H0 H' x B' y R :=
  ⟨hb, t.b.keep hk (fun b hb hm => t.dis b (bank_sub hm) hb), t.k.trans hk (fun b hb hm => by have := t.lo b (bank_sub hm); omega), t.lo, t.lo2, t.dis⟩
theorem Duo.turnB (t : Duo H0 H x B y R) (hb : RbR H' y' R') (n : Tn y H y' H') : Duo H0 H' x B y' R' :=
  ⟨t.a.keep n.k (fun b hb hm => t.dis b hb (wr_foot hm)), hb, t.k.trans n.k (fun b hb hm => by have := t.lo2 b (wr_foot hm); omega), t.lo, fun b hb => by
    rcases n.f b hb with q | q
    · exact t.lo2 b q
    · have := t.k.next; omega, fun b hx hy => by
    rcases n.f b hy with q | q
    · exact t.dis b hx q
    · have := t.a.lt b hx; omega⟩
end
theorem chk_sl {H : Heap} {v : V} {xs : List Int} (h : Sl H v xs) : chkO (some v) v = true := by
  rcases h with ⟨rfl, _⟩ | ⟨b, o, u, c, rfl, _⟩ <;> simp [chkO, vEq]
theorem step_ok {H0 H : Heap} {x : BL} {B : Bk} {y : RL} {R : Rk} (t : Duo H0 H x B y R) (s : Sim B R) {a : QAct} (ha : Sl H0 a.vv.v a.vv.xs) (hns : a.vv.xs.length ≤ 2000000) (hss : R.ss.length < 1000) (Q : V → Heap → Prop)
    (hQ : ∀ H' B' y' R', Duo H0 H' x B' y' R' → Sim B' R' → y'.p = y.p → R'.ss.length ≤ R.ss.length + 1 → R'.gs = R.gs → Q (.bool true) H') : wp (A_law19_step GD [ptr x.p 0, ptr y.p 0, a.agg]) Q H := by
  show wp (F_law19_step GD (ptr x.p 0) (ptr y.p 0) a.agg) Q H
  have hone := a.vv.one
  (try simp (maxSteps := 1000000) (disch := first | omega | (simp only [Z3]; omega) | (simp; done) | assumption | decide | (refine not_not_intro ?_; assumption)) only [Z1, Z2, splice, F_law19_step, hone])
  refine (wp_boxg (by simp [hone])).mpr ?_
  have k1 := Keeps.push [] H (some (.cells true [i64 a.kind, i64 a.part, i64 a.point, i64 a.n, a.vv.v]))
  have hg := Heap.get_push_self H (some (.cells true [i64 a.kind, i64 a.part, i64 a.point, i64 a.n, a.vv.v]))
  have t1 := t.keep0 k1
  have hbx : ∀ b ∈ x.foot, b ≠ H.next := fun b hb => by have := t.a.lt b hb; omega
  have hby : ∀ b ∈ y.foot, b ≠ H.next := fun b hb => by have := t.b.low b hb; omega
  generalize H.push (some (.cells true [i64 a.kind, i64 a.part, i64 a.point, i64 a.n, a.vv.v])) = H1 at *
  generalize H.next = bx at *
  have hkA : ∀ {H2 H3 : Heap}, H2.get bx = some (.cells true [i64 a.kind, i64 a.part, i64 a.point, i64 a.n, a.vv.v]) → Keeps [x.sm, x.fm, x.va] H2 H3 → H3.get bx = some (.cells true [i64 a.kind, i64 a.part, i64 a.point, i64 a.n, a.vv.v]) := fun h k => k.get h (fun hm => hbx bx (bank_sub hm) rfl)
  (try simp (maxSteps := 1000000) (disch := first | omega | (simp only [Z3]; omega) | (simp; done) | assumption | decide | (refine not_not_intro ?_; assumption)) only [Z1, Z2, splice, hg, law19_among_eq])
  have hc := amg_range a.kind 7 (by omega) (by omega)
  have hr : ∀ e ∈ R.ss, 0 ≤ e.point := fun e he => (t.b.rs e he).1
  have hst : ∀ e ∈ B.st, 0 ≤ e.1.2 := fun e he => (t.a.rs e he).1
  generalize amg a.kind 7 = c at *
  by_cases c0 : c = 0
  · (try simp (maxSteps := 1000000) (disch := first | omega | (simp only [Z3]; omega) | (simp; done) | assumption | decide | (refine not_not_intro ?_; assumption)) only [Z1, Z2, splice, decide_eq_true c0, hg])
    refine lend_ok (ha.keep0 t1.k) (by omega) _ fun v b H2 le k2 hb => ?_
    have t2 := t1.keep0 k2
    have hg2 := k2.get hg (by simp)
    have hbl := t1.a.lt
    (try simp (maxSteps := 1000000) (disch := first | omega | (simp only [Z3]; omega) | (simp; done) | assumption | decide | (refine not_not_intro ?_; assumption)) only [Z1, Z2, splice, hg2])
    refine latch_ok t2.a le.sl (fun c hc e => by obtain ⟨rfl, _⟩ := le; simp at hc; subst hc; have := hbl x.va (by simp [BL.foot]); omega) _ fun H3 b3 k3 => ?_
    have k3' : Keeps [x.sm, x.fm, x.va] H2 H3 := k3.mono (by simp)
    have t3 := t2.turnA b3 k3'
    have hg3 := hkA hg2 k3'
    have le3 := le.keep k3' (fun hm => by have := hbl b (bank_sub hm); omega)
    (try simp (maxSteps := 1000000) (disch := first | omega | (simp only [Z3]; omega) | (simp; done) | assumption | decide | (refine not_not_intro ?_; assumption)) only [Z1, Z2, splice, hg3])
    have ha3 := ha.keep0 t3.k
    refine latchR_ok t3.b ha3 (fun c hc e => by have := ha.lt c hc; have := t3.lo2 y.va (by simp [RL.foot]); omega) _ fun H4 b4 n4 => ?_
    have t4 := t3.turnB b4 n4
    have hg4 : H4.get bx = some (.cells true [i64 a.kind, i64 a.part, i64 a.point, i64 a.n, a.vv.v]) := n4.k.get hg3 (fun hm => hby bx (wr_foot hm) rfl)
    have le4 := le3.keep n4.k (fun hm => by have := t1.b.low b (wr_foot hm); omega)
    obtain ⟨e1, s1⟩ := s.latch a.vv.xs
    rw [e1]
    (try simp (maxSteps := 1000000) (disch := first | omega | (simp only [Z3]; omega) | (simp; done) | assumption | decide | (refine not_not_intro ?_; assumption)) only [Z1, Z2, splice, hg4])
    refine kept_ok le4 (ha.keep0 t4.k) hns _ ?_
    (try simp (maxSteps := 1000000) (disch := first | omega | (simp only [Z3]; omega) | (simp; done) | assumption | decide | (refine not_not_intro ?_; assumption)) only [Z1, Z2, splice, hg3, chk_sl ha3])
    exact hQ _ _ _ _ t4 s1 rfl (by unfold latchR; split; exact Nat.le_succ _; split <;> exact Nat.le_succ _) (by unfold latchR; split; rfl; split <;> rfl)
  by_cases c1 : c = 1
  · (try simp (maxSteps := 1000000) (disch := first | omega | (simp only [Z3]; omega) | (simp; done) | assumption | decide | (refine not_not_intro ?_; assumption)) only [Z1, Z2, splice, decide_eq_false c0, decide_eq_true c1, hg])
    refine read_ok t1.a a.part a.point _ ?_
    (try simp (maxSteps := 1000000) (disch := first | omega | (simp only [Z3]; omega) | (simp; done) | assumption | decide | (refine not_not_intro ?_; assumption)) only [Z1, Z2, splice, hg])
    refine readR_ok t1.b a.part a.point _ ?_
    rw [s.read]
    (try simp (maxSteps := 1000000) (disch := first | omega | (simp only [Z3]; omega) | (simp; done) | assumption | decide | (refine not_not_intro ?_; assumption)) only [Z1, Z2, splice])
    exact hQ _ _ _ _ t1 s rfl (by omega) rfl
  by_cases c2 : c = 2
  · (try simp (maxSteps := 1000000) (disch := first | omega | (simp only [Z3]; omega) | (simp; done) | assumption | decide | (refine not_not_intro ?_; assumption)) only [Z1, Z2, splice, decide_eq_false c0, decide_eq_false c1, decide_eq_true c2, hg])
    refine write_ok t1.a a.part a.point a.n _ fun H2 b2 k2 => ?_
    have k2' : Keeps [x.sm, x.fm, x.va] H1 H2 := k2.mono (by simp)
    have t2 := t1.turnA b2 k2'
    have hg2 := hkA hg k2'
    (try simp (maxSteps := 1000000) (disch := first | omega | (simp only [Z3]; omega) | (simp; done) | assumption | decide | (refine not_not_intro ?_; assumption)) only [Z1, Z2, splice])
    refine writeR_ok t2.b hss a.part a.point a.n _ fun y' H3 b3 n3 => ?_
    have t3 := t2.turnB b3 n3
    obtain ⟨e1, s1⟩ := s.write a.part a.point a.n
    rw [e1]
    (try simp (maxSteps := 1000000) (disch := first | omega | (simp only [Z3]; omega) | (simp; done) | assumption | decide | (refine not_not_intro ?_; assumption)) only [Z1, Z2, splice, hg2])
    exact hQ _ _ _ _ t3 s1 n3.p (by unfold writeR; split; exact Nat.le_succ _; split; exact Nat.le_succ _; split; exact Nat.le_succ _; simp) (by unfold writeR; split; rfl; split; rfl; split <;> rfl)
  have hend : ∀ cm, (endR R a.part cm).1.ss.length ≤ R.ss.length + 1 := fun cm => by
    unfold endR
    split
    · exact Nat.le_succ _
    · have := List.length_filter_le (fun e : Stg => decide (e.part ≠ a.part)) R.ss
      show (R.ss.filter fun e => decide (e.part ≠ a.part)).length ≤ _
      omega
  have hend2 : ∀ cm, (endR R a.part cm).1.gs = R.gs := fun cm => by unfold endR; split <;> rfl
  by_cases c3 : c = 3
  · (try simp (maxSteps := 1000000) (disch := first | omega | (simp only [Z3]; omega) | (simp; done) | assumption | decide | (refine not_not_intro ?_; assumption)) only [Z1, Z2, splice, decide_eq_false c0, decide_eq_false c1, decide_eq_false c2, decide_eq_true c3, hg])
    refine commit_ok t1.a a.part _ fun H2 b2 k2 => ?_
    have k2' : Keeps [x.sm, x.fm, x.va] H1 H2 := k2.mono (by simp)
    have t2 := t1.turnA b2 k2'
    have hg2 := hkA hg k2'
    (try simp (maxSteps := 1000000) (disch := first | omega | (simp only [Z3]; omega) | (simp; done) | assumption | decide | (refine not_not_intro ?_; assumption)) only [Z1, Z2, splice])
    refine commitR_ok t2.b a.part _ fun y' H3 b3 n3 => ?_
    have t3 := t2.turnB b3 n3
    obtain ⟨e1, s1⟩ := s.end a.part true hst t.a.ks hr
    rw [e1]
    (try simp (maxSteps := 1000000) (disch := first | omega | (simp only [Z3]; omega) | (simp; done) | assumption | decide | (refine not_not_intro ?_; assumption)) only [Z1, Z2, splice, hg2])
    exact hQ _ _ _ _ t3 s1 n3.p (hend _) (hend2 _)
  by_cases c4 : c = 4
  · (try simp (maxSteps := 1000000) (disch := first | omega | (simp only [Z3]; omega) | (simp; done) | assumption | decide | (refine not_not_intro ?_; assumption)) only [Z1, Z2, splice, decide_eq_false c0, decide_eq_false c1, decide_eq_false c2, decide_eq_false c3, decide_eq_true c4, hg])
    refine drop_ok t1.a a.part _ fun H2 b2 k2 => ?_
    have k2' : Keeps [x.sm, x.fm, x.va] H1 H2 := k2.mono (by simp)
    have t2 := t1.turnA b2 k2'
    have hg2 := hkA hg k2'
    (try simp (maxSteps := 1000000) (disch := first | omega | (simp only [Z3]; omega) | (simp; done) | assumption | decide | (refine not_not_intro ?_; assumption)) only [Z1, Z2, splice])
    refine dropR_ok t2.b a.part _ fun y' H3 b3 n3 => ?_
    have t3 := t2.turnB b3 n3
    obtain ⟨e1, s1⟩ := s.end a.part false hst t.a.ks hr
    rw [e1]
    (try simp (maxSteps := 1000000) (disch := first | omega | (simp only [Z3]; omega) | (simp; done) | assumption | decide | (refine not_not_intro ?_; assumption)) only [Z1, Z2, splice, hg2])
    exact hQ _ _ _ _ t3 s1 n3.p (hend _) (hend2 _)
  by_cases c5 : c = 5
  · (try simp (maxSteps := 1000000) (disch := first | omega | (simp only [Z3]; omega) | (simp; done) | assumption | decide | (refine not_not_intro ?_; assumption)) only [Z1, Z2, splice, decide_eq_false c0, decide_eq_false c1, decide_eq_false c2, decide_eq_false c3, decide_eq_false c4, decide_eq_true c5, hg])
    refine force_ok t1.a a.point a.n _ fun H2 b2 k2 => ?_
    have k2' : Keeps [x.sm, x.fm, x.va] H1 H2 := k2.mono (by simp)
    have t2 := t1.turnA b2 k2'
    have hg2 := hkA hg k2'
    (try simp (maxSteps := 1000000) (disch := first | omega | (simp only [Z3]; omega) | (simp; done) | assumption | decide | (refine not_not_intro ?_; assumption)) only [Z1, Z2, splice])
    refine forceR_ok t2.b a.point a.n _ fun H3 b3 n3 => ?_
    have t3 := t2.turnB b3 n3
    obtain ⟨e1, s1⟩ := s.force a.point a.n t.b.lf t.b.lt
    rw [e1]
    (try simp (maxSteps := 1000000) (disch := first | omega | (simp only [Z3]; omega) | (simp; done) | assumption | decide | (refine not_not_intro ?_; assumption)) only [Z1, Z2, splice, hg2])
    exact hQ _ _ _ _ t3 s1 rfl (by unfold forceR; split <;> exact Nat.le_succ _) (by unfold forceR; split <;> rfl)
  (try simp (maxSteps := 1000000) (disch := first | omega | (simp only [Z3]; omega) | (simp; done) | assumption | decide | (refine not_not_intro ?_; assumption)) only [Z1, Z2, splice, decide_eq_false c0, decide_eq_false c1, decide_eq_false c2, decide_eq_false c3, decide_eq_false c4, decide_eq_false c5, law19_step_k0, hg])
  refine free_ok t1.a a.point _ fun H2 b2 k2 => ?_
  have k2' : Keeps [x.sm, x.fm, x.va] H1 H2 := k2.mono (by simp)
  have t2 := t1.turnA b2 k2'
  have hg2 := hkA hg k2'
  (try simp (maxSteps := 1000000) (disch := first | omega | (simp only [Z3]; omega) | (simp; done) | assumption | decide | (refine not_not_intro ?_; assumption)) only [Z1, Z2, splice])
  refine freeR_ok t2.b a.point _ fun H3 b3 n3 => ?_
  have t3 := t2.turnB b3 n3
  obtain ⟨e1, s1⟩ := s.free a.point t.b.lf t.a.kf
  rw [e1]
  (try simp (maxSteps := 1000000) (disch := first | omega | (simp only [Z3]; omega) | (simp; done) | assumption | decide | (refine not_not_intro ?_; assumption)) only [Z1, Z2, splice, hg2])
  exact hQ _ _ _ _ t3 s1 rfl (by unfold freeR; split <;> exact Nat.le_succ _) (by unfold freeR; split <;> rfl)
end Go.AM.Cap
