import Derived.Test.YtcmimkacafphkaaGreatDoorWiH
import Derived.Test.YtcmimkacafphkaaGreatDoorAmOpenF
set_option linter.all false
/- code: the document's Has, Fields, same, block -/
set_option maxHeartbeats 16000000
namespace Go.AM.Cap
open Go.AM Go.Proofs
theorem zbou (op t many : Int) : zoy [i64 op, i64 t, i64 many] = ret (.bool (opS op t many)) := zwc fun H => by
  show wp (zr8 (i64 op) (i64 t) (i64 many)) _ H
  by_cases ht : 1 ≤ t ∧ t ≤ 4
  case neg =>
    rw [show opS op t many = false by unfold opS; rw [decide_eq_false ht, Bool.false_and]]
    (try simp (maxSteps := 1000000) (disch := first | omega | (simp only [Z3]; omega) | (simp; done) | assumption | decide | (refine not_not_intro ?_; assumption)) only [Z1, Z2, splice, zr8, zi1, decide_eq_false ht, Bool.not_false])
  have e : opS op t many = (if many = 1 then decide ((op = 15 ∧ t ≠ 1) ∨ (op = 16 ∧ t ≠ 4))
    else if op = 1 ∨ op = 2 ∨ op = 11 ∨ op = 12 ∨ op = 13 ∨ op = 14 then decide (t ≠ 1)
    else if op = 3 ∨ op = 4 ∨ op = 5 then decide (t = 2 ∨ t = 3)
    else if op = 6 ∨ op = 7 ∨ op = 8 then decide (t ≠ 4)
    else decide (op = 9 ∨ op = 10)) := by unfold opS; rw [decide_eq_true ht, Bool.true_and]
  rw [e]
  (repeat' (first | (simp (maxSteps := 1000000) (disch := first | omega | (simp only [Z3]; omega) | (simp; done) | assumption | decide | (refine not_not_intro ?_; assumption)) only [Z1, Z2, splice, zr8, zi1, decide_eq_true ht, Bool.not_true, z7r, z7q, z7p, z7o, z7n, z7m]) | (refine zfl (fun _ => ?_) (fun _ => ?_)) | (refine zhj (fun _ => ?_) (fun _ => ?_)) | (refine zgk (fun _ => ?_) (fun _ => ?_)) | (refine zex (fun _ => ?_) (fun _ => ?_)) | (refine ziu (fun _ => ?_) (fun _ => ?_)) | (refine znh (fun _ => ?_) (fun _ => ?_)) | (refine zkd (fun _ => ?_) (fun _ => ?_)) | (refine zhk (fun _ => ?_) (fun _ => ?_))))
  all_goals refine ⟨?_, by trivial⟩
  all_goals ((try simp only [true_and, and_true, false_and, and_false, true_or, or_true, false_or, or_false]); (try ((repeat' split) <;> (first | rfl | omega | (refine congrArg (Value.int _) ?_; omega) | (refine congrArg Value.bool ?_; apply decide_eq_decide.mpr; omega) | (refine congrArg Value.bool ?_; exact (decide_eq_false (by omega)).symm) | (refine congrArg Value.bool ?_; exact (decide_eq_true (by omega)).symm) | (exfalso; omega) | (simp_all; done) | (refine congrArg Value.bool ?_; apply decide_eq_decide.mpr; simp_all; done)))))
end Go.AM.Cap

/- code: the document's Fields -/
set_option maxHeartbeats 16000000
namespace Go.AM.Cap
open Go.AM Go.Proofs
theorem zbns {H : Heap} (kind : Int) (Q : V → Heap → Prop) (h0 : ∀ H', Keeps [] H H' → zj5 kind = none → Q (.tuple #[.slice none 0 0, i64 92]) H')
    (h1 : ∀ H' v fs, Keeps [] H H' → zj5 kind = some (fs.map Fd.type) → Sl H' v fs → Q (.tuple #[v, i64 0]) H') : wp (zl8 [i64 kind]) Q H := by
  show wp (zqg (i64 kind)) Q H
  have k0 := Keeps.refl [] H
  unfold zqg
  by_cases q1 : kind = 1
  · subst q1
    (try simp (maxSteps := 1000000) (disch := first | omega | (simp only [Z3]; omega) | (simp; done) | assumption | decide | (refine not_not_intro ?_; assumption)) only [Z1, Z2, splice, zdb, zdc, zdd])
    refine (zbb (by rfl) (cs := zr ([⟨⟨#[73, 78]⟩, 1, true⟩, ⟨⟨#[80, 84]⟩, 4, true⟩, ⟨⟨#[81]⟩, 1, false⟩, ⟨⟨#[69, 84]⟩, 4, false⟩, ⟨⟨#[83, 84, 65, 82, 84]⟩, 4, false⟩, ⟨⟨#[82, 85, 78]⟩, 1, false⟩] : List Fd)) (by rfl)).mpr ?_
    (try simp (maxSteps := 1000000) (disch := first | omega | (simp only [Z3]; omega) | (simp; done) | assumption | decide | (refine not_not_intro ?_; assumption)) only [Z1, Z2, splice])
    exact h1 _ _ _ (zq k0) rfl (zo1 (Heap.get_push_self _ _))
  by_cases q2 : kind = 2
  · subst q2
    (try simp (maxSteps := 1000000) (disch := first | omega | (simp only [Z3]; omega) | (simp; done) | assumption | decide | (refine not_not_intro ?_; assumption)) only [Z1, Z2, splice, zdb, zdc, zdd])
    refine (zbb (by rfl) (cs := zr ([⟨⟨#[73, 78]⟩, 1, true⟩, ⟨⟨#[80, 84]⟩, 4, true⟩, ⟨⟨#[81]⟩, 1, false⟩, ⟨⟨#[69, 84]⟩, 4, false⟩, ⟨⟨#[83, 84, 65, 82, 84]⟩, 4, false⟩, ⟨⟨#[82, 85, 78]⟩, 1, false⟩] : List Fd)) (by rfl)).mpr ?_
    (try simp (maxSteps := 1000000) (disch := first | omega | (simp only [Z3]; omega) | (simp; done) | assumption | decide | (refine not_not_intro ?_; assumption)) only [Z1, Z2, splice])
    exact h1 _ _ _ (zq k0) rfl (zo1 (Heap.get_push_self _ _))
  by_cases q3 : kind = 3
  · subst q3
    (try simp (maxSteps := 1000000) (disch := first | omega | (simp only [Z3]; omega) | (simp; done) | assumption | decide | (refine not_not_intro ?_; assumption)) only [Z1, Z2, splice, zdb, zdc, zdd])
    refine (zbb (by rfl) (cs := zr ([⟨⟨#[73, 78]⟩, 1, true⟩, ⟨⟨#[80, 84]⟩, 4, true⟩, ⟨⟨#[81]⟩, 1, false⟩, ⟨⟨#[69, 84]⟩, 4, false⟩, ⟨⟨#[83, 84, 65, 82, 84]⟩, 4, false⟩, ⟨⟨#[82, 85, 78]⟩, 1, false⟩] : List Fd)) (by rfl)).mpr ?_
    (try simp (maxSteps := 1000000) (disch := first | omega | (simp only [Z3]; omega) | (simp; done) | assumption | decide | (refine not_not_intro ?_; assumption)) only [Z1, Z2, splice])
    exact h1 _ _ _ (zq k0) rfl (zo1 (Heap.get_push_self _ _))
  by_cases q4 : kind = 4
  · subst q4
    (try simp (maxSteps := 1000000) (disch := first | omega | (simp only [Z3]; omega) | (simp; done) | assumption | decide | (refine not_not_intro ?_; assumption)) only [Z1, Z2, splice, zdb, zdc, zdd])
    refine (zbb (by rfl) (cs := zr ([⟨⟨#[67, 85]⟩, 1, true⟩, ⟨⟨#[82]⟩, 1, true⟩, ⟨⟨#[80, 86]⟩, 2, true⟩, ⟨⟨#[81]⟩, 1, false⟩, ⟨⟨#[67, 86]⟩, 2, false⟩, ⟨⟨#[77]⟩, 1, false⟩] : List Fd)) (by rfl)).mpr ?_
    (try simp (maxSteps := 1000000) (disch := first | omega | (simp only [Z3]; omega) | (simp; done) | assumption | decide | (refine not_not_intro ?_; assumption)) only [Z1, Z2, splice])
    exact h1 _ _ _ (zq k0) rfl (zo1 (Heap.get_push_self _ _))
  by_cases q5 : kind = 5
  · subst q5
    (try simp (maxSteps := 1000000) (disch := first | omega | (simp only [Z3]; omega) | (simp; done) | assumption | decide | (refine not_not_intro ?_; assumption)) only [Z1, Z2, splice, zdb, zdc, zdd])
    refine (zbb (by rfl) (cs := zr ([⟨⟨#[67, 68]⟩, 1, true⟩, ⟨⟨#[76, 68]⟩, 1, true⟩, ⟨⟨#[80, 86]⟩, 2, true⟩, ⟨⟨#[81]⟩, 1, false⟩, ⟨⟨#[67, 86]⟩, 2, false⟩, ⟨⟨#[77]⟩, 1, false⟩] : List Fd)) (by rfl)).mpr ?_
    (try simp (maxSteps := 1000000) (disch := first | omega | (simp only [Z3]; omega) | (simp; done) | assumption | decide | (refine not_not_intro ?_; assumption)) only [Z1, Z2, splice])
    exact h1 _ _ _ (zq k0) rfl (zo1 (Heap.get_push_self _ _))
  by_cases q6 : kind = 6
  · subst q6
    (try simp (maxSteps := 1000000) (disch := first | omega | (simp only [Z3]; omega) | (simp; done) | assumption | decide | (refine not_not_intro ?_; assumption)) only [Z1, Z2, splice, zdb, zdc, zdd])
    refine (zbb (by rfl) (cs := zr ([⟨⟨#[67, 76, 75]⟩, 1, true⟩, ⟨⟨#[81]⟩, 1, false⟩, ⟨⟨#[77]⟩, 1, false⟩] : List Fd)) (by rfl)).mpr ?_
    (try simp (maxSteps := 1000000) (disch := first | omega | (simp only [Z3]; omega) | (simp; done) | assumption | decide | (refine not_not_intro ?_; assumption)) only [Z1, Z2, splice])
    exact h1 _ _ _ (zq k0) rfl (zo1 (Heap.get_push_self _ _))
  by_cases q7 : kind = 7
  · subst q7
    (try simp (maxSteps := 1000000) (disch := first | omega | (simp only [Z3]; omega) | (simp; done) | assumption | decide | (refine not_not_intro ?_; assumption)) only [Z1, Z2, splice, zdb, zdc, zdd])
    refine (zbb (by rfl) (cs := zr ([⟨⟨#[67, 76, 75]⟩, 1, true⟩, ⟨⟨#[81]⟩, 1, false⟩, ⟨⟨#[77]⟩, 1, false⟩] : List Fd)) (by rfl)).mpr ?_
    (try simp (maxSteps := 1000000) (disch := first | omega | (simp only [Z3]; omega) | (simp; done) | assumption | decide | (refine not_not_intro ?_; assumption)) only [Z1, Z2, splice])
    exact h1 _ _ _ (zq k0) rfl (zo1 (Heap.get_push_self _ _))
  by_cases q8 : kind = 8
  · subst q8
    (try simp (maxSteps := 1000000) (disch := first | omega | (simp only [Z3]; omega) | (simp; done) | assumption | decide | (refine not_not_intro ?_; assumption)) only [Z1, Z2, splice, zdb, zdc, zdd])
    refine (zbb (by rfl) (cs := zr ([⟨⟨#[83, 49]⟩, 1, true⟩, ⟨⟨#[82]⟩, 1, true⟩, ⟨⟨#[81, 49]⟩, 1, false⟩] : List Fd)) (by rfl)).mpr ?_
    (try simp (maxSteps := 1000000) (disch := first | omega | (simp only [Z3]; omega) | (simp; done) | assumption | decide | (refine not_not_intro ?_; assumption)) only [Z1, Z2, splice])
    exact h1 _ _ _ (zq k0) rfl (zo1 (Heap.get_push_self _ _))
  by_cases q9 : kind = 9
  · subst q9
    (try simp (maxSteps := 1000000) (disch := first | omega | (simp only [Z3]; omega) | (simp; done) | assumption | decide | (refine not_not_intro ?_; assumption)) only [Z1, Z2, splice, zdb, zdc, zdd])
    refine (zbb (by rfl) (cs := zr ([⟨⟨#[83]⟩, 1, true⟩, ⟨⟨#[82, 49]⟩, 1, true⟩, ⟨⟨#[81, 49]⟩, 1, false⟩] : List Fd)) (by rfl)).mpr ?_
    (try simp (maxSteps := 1000000) (disch := first | omega | (simp only [Z3]; omega) | (simp; done) | assumption | decide | (refine not_not_intro ?_; assumption)) only [Z1, Z2, splice])
    exact h1 _ _ _ (zq k0) rfl (zo1 (Heap.get_push_self _ _))
  by_cases q10 : kind = 10
  · subst q10
    (try simp (maxSteps := 1000000) (disch := first | omega | (simp only [Z3]; omega) | (simp; done) | assumption | decide | (refine not_not_intro ?_; assumption)) only [Z1, Z2, splice, zdb, zdc, zdd])
    refine (zbb (by rfl) (cs := zr ([⟨⟨#[65]⟩, 1, true⟩, ⟨⟨#[66]⟩, 1, true⟩, ⟨⟨#[82]⟩, 1, true⟩, ⟨⟨#[67, 86]⟩, 3, false⟩, ⟨⟨#[69, 82, 82]⟩, 1, false⟩, ⟨⟨#[76, 65, 83, 84]⟩, 2, false⟩] : List Fd)) (by rfl)).mpr ?_
    (try simp (maxSteps := 1000000) (disch := first | omega | (simp only [Z3]; omega) | (simp; done) | assumption | decide | (refine not_not_intro ?_; assumption)) only [Z1, Z2, splice])
    exact h1 _ _ _ (zq k0) rfl (zo1 (Heap.get_push_self _ _))
  (try simp (maxSteps := 1000000) (disch := first | omega | (simp only [Z3]; omega) | (simp; done) | assumption | decide | (refine not_not_intro ?_; assumption)) only [Z1, Z2, splice, zdb, zdc, zdd])
  exact h0 _ k0 (by unfold zj5; rw [if_neg (by omega), if_neg (by omega), if_neg (by omega), if_neg (by omega), if_neg (by omega)])
end Go.AM.Cap

/- code: the document's same -/
set_option maxHeartbeats 8000000
namespace Go.AM.Cap
open Go.AM Go.Proofs
def z2s (types : List Int) (a m : Int) : Prop := ∃ l, zh5 types a m = some l ∧ ∀ t ∈ l, t = l.getD 0 0
theorem zbt1 {types : List Int} {a m : Nat} (ha : a < types.length) (hm : a + m ≤ types.length) (h1 : 1 ≤ m) : z2s types a m ↔ ∀ i, a ≤ i → i < a + m → types.getD i 0 = types.getD a 0 := by
  have e : zh5 types a m = some ((types.drop a).take m) := by
    unfold zh5; rw [if_neg (by omega)]; rfl
  have g : ∀ j, j < m → ((types.drop a).take m).getD j 0 = types.getD (a + j) 0 := fun j hj => by
    rw [List.getD_eq_getElem?_getD, List.getD_eq_getElem?_getD, List.getElem?_take_of_lt hj, List.getElem?_drop]
  have hl : ((types.drop a).take m).length = m := by rw [List.length_take, List.length_drop]; omega
  unfold z2s
  rw [e]
  constructor
  · rintro ⟨l, hl2, h⟩ i h2 h3
    cases hl2
    have := h _ (zij (d := 0) (show i - a < _ by rw [hl]; omega))
    rw [g _ (by omega), g 0 (by omega)] at this
    rwa [show a + (i - a) = i by omega, Nat.add_zero] at this
  · intro h
    refine ⟨_, rfl, fun t ht => ?_⟩
    obtain ⟨j, hj, rfl⟩ := List.getElem_of_mem ht
    rw [hl] at hj
    have e1 : ((types.drop a).take m)[j] = ((types.drop a).take m).getD j 0 := by
      rw [List.getD_eq_getElem?_getD, List.getElem?_eq_getElem]; rfl
    rw [e1, g j hj, g 0 (by omega), Nat.add_zero]
    exact h _ (by omega) (by omega)
theorem z73 {H : Heap} {x : Im} (h : ImAt H x) (hl : x.types.xs.length ≤ 100000000) (a m : Int) (h1 : 1 ≤ m) (hm : m ≤ 100) (Q : V → Heap → Prop) (hQ : ∀ H' b, Keeps [] H H' → (b = true ↔ z2s x.types.xs a m) → Q (.bool b) H') : wp (zm3 [.agg (Flat.enc x).toArray, i64 a, i64 m]) Q H := by
  show wp (zt2 (.agg (Flat.enc x).toArray) (i64 a) (i64 m)) Q H
  have hne : ∀ {p : Prop}, ¬ p → ((false = true) ↔ p) := fun q => ⟨Bool.noConfusion, fun e => (q e).elim⟩
  have hye : ∀ {p : Prop}, p → ((true = true) ↔ p) := fun q => ⟨fun _ => q, fun _ => rfl⟩
  have ho := zhd x
  have hlen := h.types.len
  unfold zt2
  rw [zc4, zc4, zbc]
  refine (zd8 ho).mpr ?_
  have k1 : Keeps [] H (H.push (some (.cells true [.string x.name, x.types.v, x.first.v, x.ins.v, x.outs.v, x.code.v]))) := Keeps.push _ _ _
  have g1 : (H.push (some (.cells true [.string x.name, x.types.v, x.first.v, x.ins.v, x.outs.v, x.code.v]))).get H.next = some (.cells true [.string x.name, x.types.v, x.first.v, x.ins.v, x.outs.v, x.code.v]) := Heap.get_push_self _ _
  generalize H.push (some (.cells true [.string x.name, x.types.v, x.first.v, x.ins.v, x.outs.v, x.code.v])) = H1 at *
  generalize hpp : H.next = p at *
  have out : (a < 0 ∨ a ≥ x.types.xs.length ∨ m > x.types.xs.length - a) → ¬ z2s x.types.xs a m := fun q => by
    rintro ⟨l, e, _⟩; unfold zh5 at e; rw [if_pos q] at e; cases e
  by_cases q1 : a < 0
  · (try simp (maxSteps := 1000000) (disch := first | omega | (simp only [Z3]; omega) | (simp; done) | assumption | decide | (refine not_not_intro ?_; assumption)) only [Z1, Z2, splice, decide_eq_true q1])
    exact hQ _ _ k1 (hne (out (.inl q1)))
  by_cases q2 : a ≥ x.types.xs.length
  · (try simp (maxSteps := 1000000) (disch := first | omega | (simp only [Z3]; omega) | (simp; done) | assumption | decide | (refine not_not_intro ?_; assumption)) only [Z1, Z2, splice, decide_eq_false q1, decide_eq_true q2, g1, hlen])
    exact hQ _ _ k1 (hne (out (.inr (.inl q2))))
  by_cases q3 : m > x.types.xs.length - a
  · (try simp (maxSteps := 1000000) (disch := first | omega | (simp only [Z3]; omega) | (simp; done) | assumption | decide | (refine not_not_intro ?_; assumption)) only [Z1, Z2, splice, decide_eq_false q1, decide_eq_false q2, decide_eq_true q3, g1, hlen])
    exact hQ _ _ k1 (hne (out (.inr (.inr q3))))
  obtain ⟨an, rfl⟩ : ∃ n : Nat, a = n := ⟨a.toNat, by omega⟩
  obtain ⟨mn, rfl⟩ : ∃ n : Nat, m = n := ⟨m.toNat, by omega⟩
  have hiff := zbt1 (types := x.types.xs) (a := an) (m := mn) (by omega) (by omega) (by omega)
  have v1 := h.types.keep0 k1
  (try simp (maxSteps := 1000000) (disch := first | omega | (simp only [Z3]; omega) | (simp; done) | assumption | decide | (refine not_not_intro ?_; assumption)) only [Z1, Z2, splice, decide_eq_false q1, decide_eq_false q2, decide_eq_false q3, g1, hlen, z4t])
  refine zb9 (Inv := fun k vs H' => ∃ j : Nat, k = mn - j ∧ j ≤ mn ∧ vs = [i64 an, i64 mn, ptr p 0, i64 ((an + j : Nat) : Int)] ∧ H1 = H' ∧ (∀ i, an ≤ i → i < an + j → x.types.xs.getD i 0 = x.types.xs.getD an 0)) (n := mn) (by unfold zcb; omega)
    ⟨0, by omega, by omega, rfl, rfl, by omega⟩ ?_
  rintro k vs H' ⟨j, hk, hj, rfl, rfl, hall⟩
  by_cases hlt : j < mn
  case neg =>
    have : j = mn := by omega
    subst this
    have e : decide (((an + j : Nat) : Int) < (an : Int) + (j : Int)) = false := decide_eq_false (by omega)
    (try simp (maxSteps := 1000000) (disch := first | omega | (simp only [Z3]; omega) | (simp; done) | assumption | decide | (refine not_not_intro ?_; assumption)) only [Z1, Z2, splice, zrx, e, z4s])
    exact hQ _ _ k1 (hye (hiff.2 hall))
  have e : decide (((an + j : Nat) : Int) < (an : Int) + (mn : Int)) = true := decide_eq_true (by omega)
  have a1 := v1.addr1 rfl (k := .i64) (i := ((an + j : Nat) : Int)) (by omega) (by omega)
  rw [Int.toNat_natCast] at a1
  have d1 := v1.cell1 rfl (i := an + j) (by omega) 0
  have a2 := v1.addr1 rfl (k := .i64) (i := (an : Int)) (by omega) (by omega)
  rw [Int.toNat_natCast] at a2
  have d2 := v1.cell1 rfl (i := an) (by omega) 0
  by_cases hq : x.types.xs.getD (an + j) 0 = x.types.xs.getD an 0
  · have hall' : ∀ i, an ≤ i → i < an + (j + 1) → x.types.xs.getD i 0 = x.types.xs.getD an 0 := fun i h2 h3 => by
      rcases Nat.lt_or_ge i (an + j) with z | z
      · exact hall i h2 z
      · have : i = an + j := by omega
        rw [this]; exact hq
    (try simp (maxSteps := 1000000) (disch := first | omega | (simp only [Z3]; omega) | (simp; done) | assumption | decide | (refine not_not_intro ?_; assumption)) only [Z1, Z2, splice, zrx, e, zwx, g1, a1, d1, a2, d2, decide_eq_true hq, z4r])
    exact ⟨mn - (j + 1), by omega, j + 1, rfl, by omega, by push_cast; rfl, hall'⟩
  · (try simp (maxSteps := 1000000) (disch := first | omega | (simp only [Z3]; omega) | (simp; done) | assumption | decide | (refine not_not_intro ?_; assumption)) only [Z1, Z2, splice, zrx, e, zwx, g1, a1, d1, a2, d2, decide_eq_false hq])
    exact hQ _ _ k1 (hne (fun z => hq (hiff.1 z _ (by omega) (by omega))))
end Go.AM.Cap
