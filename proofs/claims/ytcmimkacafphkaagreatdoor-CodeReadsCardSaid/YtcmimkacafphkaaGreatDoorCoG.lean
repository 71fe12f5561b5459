import Derived.Test.YtcmimkacafphkaaGreatDoorCoF
import Derived.Test.YtcmimkacafphkaaGreatDoorAmOpenF
set_option linter.all false
/- code: may; which instruction may not be -/
set_option maxHeartbeats 16000000
namespace Go.AM.Cap
open Go.AM Go.Proofs
theorem zbu3 {H : Heap} {x : Im} (h : ImAt H x) (hl : x.types.xs.length ≤ 1000000000) (hc : x.code.xs.length ≤ 1000000000) (i : Ins) (r : Rule) (hr : r ∈ zh6) (Q : V → Heap → Prop) (hQ : ∀ H' b, Keeps [] H H' → (b = true ↔ zfz x.types.xs x.code.xs.length r.f i) → Q (.bool b) H') : wp (zhz zbu2 (.func (.func r.f) #[] #[]) [.agg (Flat.enc x).toArray, .agg (Flat.enc i).toArray]) Q H := by
  simp only [zh6, List.mem_cons, List.not_mem_nil, or_false] at hr
  rcases hr with rfl | rfl | rfl | rfl | rfl | rfl | rfl | rfl | rfl | rfl | rfl | rfl
  · exact ask4 h hl hc i Q hQ
  · exact ask1 h hl hc i Q hQ
  · exact ask1 h hl hc i Q hQ
  · exact ask2 h hl hc i Q hQ
  · exact ask2 h hl hc i Q hQ
  · exact ask5 h hl hc i Q hQ
  · exact ask6 h hl hc i Q hQ
  · exact ask7 h hl hc i Q hQ
  · exact ask3 h hl hc i Q hQ
  · exact ask3 h hl hc i Q hQ
  · exact ask8 h hl hc i Q hQ
  · exact ask9 h hl hc i Q hQ
def zx3 (types : List Int) (len : Nat) (i : Ins) : Prop := ∃ k : Nat, k < 12 ∧ i.op = (k : Int) + 1 ∧ ((zh6.getD k default).a = true ∨ i.a = 0) ∧ ((zh6.getD k default).b = true ∨ i.b = 0) ∧ ((zh6.getD k default).n = true ∨ i.n = 0) ∧ zfz types len (zh6.getD k default).f i
open Classical in
noncomputable def zt3 (types : List Int) (len : Nat) (i : Ins) : Bool := decide (zx3 types len i)
theorem zny {types : List Int} {len : Nat} {i : Ins} : zt3 types len i = true ↔ zx3 types len i := by unfold zt3; simp
theorem zbsz {H : Heap} (Q : V → Heap → Prop) (hQ : ∀ H' v, Keeps [] H H' → Sl H' v zh6 → Q v H') : wp (zm1 []) Q H := by
  show wp ztw Q H
  unfold ztw
  (try simp (maxSteps := 1000000) (disch := first | omega | (simp only [Z3]; omega) | (simp; done) | assumption | decide | (refine not_not_intro ?_; assumption)) only [Z1, Z2, splice])
  refine (zbb (by rfl) (cs := zr zh6) (by rfl)).mpr ?_
  refine hQ _ _ (by (repeat (first | exact Keeps.refl _ _ | assumption | apply zq | refine zbm ?_ (by simp; omega)))) (.inr ⟨_, 0, 4, 12, rfl, Nat.le_refl _, Heap.get_lt (Heap.get_push_self _ _), .inr ⟨true, _, Heap.get_push_self _ _, by decide, rfl⟩, .inr rfl⟩)
theorem zbs0 {H : Heap} {x : Im} {lv : V} (h : ImAt H x) (hv : Sl H lv zh6) (hl : x.types.xs.length ≤ 1000000000) (hc : x.code.xs.length ≤ 1000000000) (i : Ins) (Q : V → Heap → Prop) (hQ : ∀ H', Keeps [] H H' → Q (.bool (zt3 x.types.xs x.code.xs.length i)) H') : wp (zuz [.agg (Flat.enc x).toArray, .agg (Flat.enc i).toArray, lv]) Q H := by
  show wp (zy4 (.agg (Flat.enc x).toArray) (.agg (Flat.enc i).toArray) lv) Q H
  have ho := zhd x
  have ho2 := zk4 i
  have hlen : zo lv = some (i64 12) := hv.len
  have no : ∀ H', Keeps [] H H' → ¬ zx3 x.types.xs x.code.xs.length i → Q (.bool false) H' := fun H' hk hm => by
    have := hQ H' hk
    rwa [show zt3 x.types.xs x.code.xs.length i = false from by rw [← Bool.not_eq_true, zny]; exact hm] at this
  have yes : ∀ H', Keeps [] H H' → zx3 x.types.xs x.code.xs.length i → Q (.bool true) H' := fun H' hk hm => by
    have := hQ H' hk
    rwa [zny.2 hm] at this
  unfold zy4
  (try simp (maxSteps := 1000000) (disch := first | omega | (simp only [Z3]; omega) | (simp; done) | assumption | decide | (refine not_not_intro ?_; assumption)) only [Z1, zv, z6, zdv, zia, eq_self, true_and, zd7, zdn, zf7, ze8, zcc, Heap.get_push_eq, Heap.get_push_lt, Heap.get_set_eq, Heap.get_set_ne', Heap.next_push', Heap.next_set', Heap.set_push_lt, Heap.set_push_eq, Heap.set_set, zct, zcu, zb0, zcx, zcy, zbg, zb2, zcz, zco, zbz, zcp, zcq, zcr, zcs, List.set_cons_zero, List.set_cons_succ, List.length_cons, List.length_nil, List.drop_succ_cons, List.drop_zero, List.take_succ_cons, List.take_zero, List.nil_append, List.cons_append, splice, zbw, zbx, zbf, zz, zn, zby, zcv, zb1, zfj, zdw, zcw, zc0, zbt, zx, zbu, Option.map_some, zc1, zc2, zbi, zb3, zb4, zb5, zbh, zb6, zb7])
  (try simp (maxSteps := 1000000) (disch := first | omega | (simp only [Z3]; omega) | (simp; done) | assumption | decide | (refine not_not_intro ?_; assumption)) only [Z1, Z2, splice, zbc, zcf])
  rw [← zbc, ← zcf]
  refine zjm fun H2 k2 g2 hlt => ?_
  obtain ⟨g2a, g2b⟩ := g2 _ (Keeps.refl _ _)
  rw [zbc] at g2a
  rw [zcf] at g2b
  by_cases b1 : i.op < 1
  · (try simp (maxSteps := 1000000) (disch := first | omega | (simp only [Z3]; omega) | (simp; done) | assumption | decide | (refine not_not_intro ?_; assumption)) only [Z1, Z2, splice, g2b, decide_eq_true b1])
    exact no _ k2 (by rintro ⟨k, _, e, _⟩; omega)
  by_cases b2 : i.op > 12
  · (try simp (maxSteps := 1000000) (disch := first | omega | (simp only [Z3]; omega) | (simp; done) | assumption | decide | (refine not_not_intro ?_; assumption)) only [Z1, Z2, splice, g2b, decide_eq_false b1, decide_eq_true b2, hlen])
    exact no _ k2 (by rintro ⟨k, _, e, _⟩; omega)
  obtain ⟨k, hk⟩ : ∃ k : Nat, i.op = (k : Int) + 1 := ⟨(i.op - 1).toNat, by omega⟩
  have hk12 : k < zh6.length := by show k < 12; omega
  have hsub : i.op - 1 = (k : Int) := by omega
  have v2 := hv.keep0 k2
  have a1 := v2.addr' (n := 4) rfl (k := .i64) (i := (k : Int)) (by omega) (by omega)
  rw [Int.toNat_natCast] at a1
  have r1 := fun Q => v2.ldn' (Q := Q) (n := 4) rfl hk12 default
  have hone := zbsy (zh6.getD k default)
  have hmem : zh6.getD k default ∈ zh6 := zij hk12
  have hM : zx3 x.types.xs x.code.xs.length i ↔ ((zh6.getD k default).a = true ∨ i.a = 0) ∧ ((zh6.getD k default).b = true ∨ i.b = 0) ∧ ((zh6.getD k default).n = true ∨ i.n = 0) ∧ zfz x.types.xs x.code.xs.length (zh6.getD k default).f i := by
    refine ⟨?_, fun q => ⟨k, by omega, hk, q⟩⟩
    rintro ⟨k', _, e, q⟩
    have : k' = k := by omega
    subst this
    exact q
  generalize zh6.getD k default = r at *
  have st1 := zq (x := some (.cells true (Flat.enc r))) k2
  have g3 : (H2.push (some (.cells true [.bool r.a, .bool r.b, .bool r.n, .func (.func r.f) #[] #[]]))).get H2.next = some (.cells true [.bool r.a, .bool r.b, .bool r.n, .func (.func r.f) #[] #[]]) := Heap.get_push_self _ _
  have g3' := g2 (H2.push (some (.cells true [.bool r.a, .bool r.b, .bool r.n, .func (.func r.f) #[] #[]]))) (zq (Keeps.refl _ _))
  obtain ⟨g3a, g3b⟩ := g3'
  rw [zbc] at g3a
  rw [zcf] at g3b
  (try simp (maxSteps := 1000000) (disch := first | omega | (simp only [Z3]; omega) | (simp; done) | assumption | decide | (refine not_not_intro ?_; assumption)) only [Z1, zv, z6, zdv, zia, eq_self, true_and, zd7, zdn, ze8, zcc, zd8, Heap.get_push_eq, Heap.get_push_lt, Heap.get_set_eq, Heap.get_set_ne', Heap.next_push', Heap.next_set', Heap.set_push_lt, Heap.set_push_eq, Heap.set_set, zct, zcu, zb0, zcx, zcy, zbg, zb2, zcz, zco, zbz, zcp, zcq, zcr, zcs, List.set_cons_zero, List.set_cons_succ, List.length_cons, List.length_nil, List.drop_succ_cons, List.drop_zero, List.take_succ_cons, List.take_zero, List.nil_append, List.cons_append, splice, zbw, zbx, zbf, zz, zn, zby, zcv, zb1, zfj, zdw, zcw, zc0, zbt, zx, zbu, Option.map_some, zc1, zc2, zbi, zb3, zb4, zb5, zbh, zb6, zb7, g2b, decide_eq_false b1, decide_eq_false b2, hlen, zbaf, hsub, a1, r1, zblg])
  (try simp (maxSteps := 1000000) (disch := first | omega | (simp only [Z3]; omega) | (simp; done) | assumption | decide | (refine not_not_intro ?_; assumption)) only [Z1, Z2, splice])
  rw [zblg] at st1
  generalize H2.push (some (.cells true [.bool r.a, .bool r.b, .bool r.n, .func (.func r.f) #[] #[]])) = H3 at *
  have h3 := h.keep0 st1
  have fin : ∀ H4 b, Keeps [] H3 H4 → (b = true ↔ zfz x.types.xs x.code.xs.length r.f i) → (r.a = true ∨ i.a = 0) → (r.b = true ∨ i.b = 0) → (r.n = true ∨ i.n = 0) → Q (.bool b) H4 := fun H4 b k4 hb p1 p2 p3 => by
    cases b with
    | true => exact yes _ (st1.trans k4 (by simp)) (hM.2 ⟨p1, p2, p3, hb.1 rfl⟩)
    | false => exact no _ (st1.trans k4 (by simp)) (fun q => by have := hb.2 (hM.1 q).2.2.2; cases this)
  obtain ⟨ra, rb, rn, rf⟩ := r
  simp only at g3 hM fin
  have pk : ∀ (p : Prop) [Decidable p], p → decide p = true := fun p _ q => decide_eq_true q
  by_cases pa : ra = true ∨ i.a = 0
  case neg =>
    have h1 : ra = false := by cases ra <;> simp_all
    have h2 : ¬ i.a = 0 := fun q => pa (.inr q)
    subst h1
    (try simp (maxSteps := 1000000) (disch := first | omega | (simp only [Z3]; omega) | (simp; done) | assumption | decide | (refine not_not_intro ?_; assumption)) only [Z1, Z2, splice, g3, g3a, g3b, decide_eq_false h2])
    exact no _ st1 (fun q => pa (hM.1 q).1)
  by_cases pb : rb = true ∨ i.b = 0
  case neg =>
    have h1 : rb = false := by cases rb <;> simp_all
    have h2 : ¬ i.b = 0 := fun q => pb (.inr q)
    subst h1
    rcases pa with rfl | pa
    · (try simp (maxSteps := 1000000) (disch := first | omega | (simp only [Z3]; omega) | (simp; done) | assumption | decide | (refine not_not_intro ?_; assumption)) only [Z1, Z2, splice, g3, g3a, g3b, decide_eq_false h2])
      exact no _ st1 (fun q => pb (hM.1 q).2.1)
    · cases ra
      all_goals
        (try simp (maxSteps := 1000000) (disch := first | omega | (simp only [Z3]; omega) | (simp; done) | assumption | decide | (refine not_not_intro ?_; assumption)) only [Z1, Z2, splice, g3, g3a, g3b, decide_eq_false h2, decide_eq_true pa])
        exact no _ st1 (fun q => pb (hM.1 q).2.1)
  by_cases pn : rn = true ∨ i.n = 0
  case neg =>
    have h1 : rn = false := by cases rn <;> simp_all
    have h2 : ¬ i.n = 0 := fun q => pn (.inr q)
    subst h1
    cases ra <;> cases rb
    all_goals
      have aa : false = true → decide (i.a = 0) = true := Bool.noConfusion
      have bb : false = true → decide (i.b = 0) = true := Bool.noConfusion
      (try have aa := decide_eq_true (show i.a = 0 by simpa using pa))
      (try have bb := decide_eq_true (show i.b = 0 by simpa using pb))
      (try simp (maxSteps := 1000000) (disch := first | omega | (simp only [Z3]; omega) | (simp; done) | assumption | decide | (refine not_not_intro ?_; assumption)) only [Z1, Z2, splice, g3, g3a, g3b, decide_eq_false h2, aa, bb])
      exact no _ st1 (fun q => pn (hM.1 q).2.2.1)
  cases ra <;> cases rb <;> cases rn
  all_goals
    have aa : false = true → decide (i.a = 0) = true := Bool.noConfusion
    have bb : false = true → decide (i.b = 0) = true := Bool.noConfusion
    have nn : false = true → decide (i.n = 0) = true := Bool.noConfusion
    (try have aa := decide_eq_true (show i.a = 0 by simpa using pa))
    (try have bb := decide_eq_true (show i.b = 0 by simpa using pb))
    (try have nn := decide_eq_true (show i.n = 0 by simpa using pn))
    (try simp (maxSteps := 1000000) (disch := first | omega | (simp only [Z3]; omega) | (simp; done) | assumption | decide | (refine not_not_intro ?_; assumption)) only [Z1, Z2, splice, g3, g3a, g3b, aa, bb, nn])
    refine zbu3 h3 hl hc i _ hmem _ fun H4 b k4 hb => ?_
    (try simp (maxSteps := 1000000) (disch := first | omega | (simp only [Z3]; omega) | (simp; done) | assumption | decide | (refine not_not_intro ?_; assumption)) only [Z1, Z2, splice])
    exact fin _ _ k4 hb pa pb pn
end Go.AM.Cap
