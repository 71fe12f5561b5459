import Derived.Test.YtcmimkacafphkaaGreatDoorCoRg
import Derived.Test.YtcmimkacafphkaaGreatDoorAmOpenF
import Derived.Test.YtcmimkacafphkaaGreatDoorCoPb
import Derived.Test.YtcmimkacafphkaaGreatDoorCoY
import Derived.Test.YtcmimkacafphkaaGreatDoorWiH
set_option linter.all false
/- code: the document's ends, Check -/
set_option maxHeartbeats 16000000
namespace Go.AM.Cap
open Go.AM Go.Proofs
def zbwj (p : PIm) : Prop := (p.ins ++ p.outs).length ≤ p.types.length ∧ (∀ c ∈ p.ins ++ p.outs, 0 ≤ c ∧ c < p.types.length) ∧ (p.ins ++ p.outs).Nodup
theorem zbgy {l : List Int} : l.Nodup ↔ ∀ i k, i < l.length → k < i → l.getD k 0 ≠ l.getD i 0 := by
  unfold List.Nodup
  rw [List.pairwise_iff_getElem]
  constructor
  · intro h i k hi hk
    have := h k i (by omega) hi hk
    rw [List.getD_eq_getElem?_getD, List.getD_eq_getElem?_getD, List.getElem?_eq_getElem (by omega), List.getElem?_eq_getElem hi]
    exact this
  · intro h i j hi hj hij
    have := h j i hj hij
    rw [List.getD_eq_getElem?_getD, List.getD_eq_getElem?_getD, List.getElem?_eq_getElem hi, List.getElem?_eq_getElem hj] at this
    exact this
theorem zbnu {l : List Int} {p : Int → Prop} : (∀ c ∈ l, p c) ↔ ∀ i, i < l.length → p (l.getD i 0) := by
  constructor
  · exact fun h i hi => h _ (zij hi)
  · intro h c hc
    obtain ⟨i, hi, rfl⟩ := List.getElem_of_mem hc
    have := h i hi
    rw [List.getD_eq_getElem?_getD, List.getElem?_eq_getElem hi] at this
    exact this
theorem zbqx {H : Heap} {x : Im} (h : ImAt H x) (hl : x.types.xs.length ≤ 100000000) (hi : x.ins.xs.length ≤ 100000000) (hu : x.outs.xs.length ≤ 100000000) (Q : V → Heap → Prop) (hQ : ∀ H' b, Keeps [] H H' → (b = true ↔ zbwj x.p) → Q (.bool b) H') : wp (znu [.agg (Flat.enc x).toArray]) Q H := by
  show wp (zrw (.agg (Flat.enc x).toArray)) Q H
  have hne : ∀ {p : Prop}, ¬ p → ((false = true) ↔ p) := fun q => ⟨Bool.noConfusion, fun e => (q e).elim⟩
  have hye : ∀ {p : Prop}, p → ((true = true) ↔ p) := fun q => ⟨fun _ => q, fun _ => rfl⟩
  have ho := zhd x
  have hlen := h.types.len
  unfold zrw
  rw [zc4, zc4, zbc]
  refine (zd8 ho).mpr ?_
  have k1 : Keeps [] H (H.push (some (.cells true [.string x.name, x.types.v, x.first.v, x.ins.v, x.outs.v, x.code.v]))) := Keeps.push _ _ _
  have g1 : (H.push (some (.cells true [.string x.name, x.types.v, x.first.v, x.ins.v, x.outs.v, x.code.v]))).get H.next = some (.cells true [.string x.name, x.types.v, x.first.v, x.ins.v, x.outs.v, x.code.v]) := Heap.get_push_self _ _
  generalize H.push (some (.cells true [.string x.name, x.types.v, x.first.v, x.ins.v, x.outs.v, x.code.v])) = H1 at *
  generalize hpp : H.next = p at *
  have h1 := h.keep0 k1
  have c3 := zv4 h1.ins
  have c4 := zv4 h1.outs
  (try simp (maxSteps := 1000000) (disch := first | omega | (simp only [Z3]; omega) | (simp; done) | assumption | decide | (refine not_not_intro ?_; assumption)) only [Z1, Z2, splice, g1])
  refine (zbb (by rfl) (cs := zr ([] : List Int)) (by rfl)).mpr ?_
  have st2 := (Hp.start H1).newo (n := 1) (m := 0) ([] : List Int) rfl rfl
  generalize H1.push (some (.cells true (zr ([] : List Int)))) = H2 at *
  have g2 := st2.keeps.get g1 (by simp)
  (try simp (maxSteps := 1000000) (disch := first | omega | (simp only [Z3]; omega) | (simp; done) | assumption | decide | (refine not_not_intro ?_; assumption)) only [Z1, Z2, splice])
  refine zg0 st2 (i := 0) rfl rfl (st2.ro h1.ins) (by simp; omega) (by simp; omega) fun w3 H3 st3 => ?_
  have g3 := st3.keeps.get g1 (by simp)
  (try simp (maxSteps := 1000000) (disch := first | omega | (simp only [Z3]; omega) | (simp; done) | assumption | decide | (refine not_not_intro ?_; assumption)) only [Z1, Z2, splice])
  refine zg0 st3 (i := 0) rfl rfl (st3.ro h1.outs) (by simp; omega) (by simp; omega) fun w4 H4 st4 => ?_
  have g4 := st4.keeps.get g1 (by simp)
  have sv := (st4.own (i := 0) rfl).sl
  have le := sv.len
  have eE : x.p.ins ++ x.p.outs = x.ins.xs ++ x.outs.xs := rfl
  have eT : x.p.types = x.types.xs := rfl
  have k4 := k1.trans st4.keeps (by simp)
  have hel : (x.ins.xs ++ x.outs.xs).length ≤ 200000000 := by rw [List.length_append]; omega
  rw [List.nil_append] at le sv
  unfold zbwj at hQ
  rw [eE, eT] at hQ
  generalize x.ins.xs ++ x.outs.xs = ends at *
  by_cases c5 : (ends.length : Int) > x.types.xs.length
  · (try simp (maxSteps := 1000000) (disch := first | omega | (simp only [Z3]; omega) | (simp; done) | assumption | decide | (refine not_not_intro ?_; assumption)) only [Z1, Z2, splice, g2, g3, g4, c3, c4, le, hlen, decide_eq_true c5])
    exact hQ _ _ k4 (hne (fun q => by have := q.1; omega))
  (try simp (maxSteps := 1000000) (disch := first | omega | (simp only [Z3]; omega) | (simp; done) | assumption | decide | (refine not_not_intro ?_; assumption)) only [Z1, Z2, splice, g2, g3, g4, c3, c4, le, hlen, decide_eq_false c5, z19])
  refine zb9 (Inv := fun k vs H' => ∃ j : Nat, k = ends.length - j ∧ j ≤ ends.length ∧ vs = [ptr p 0, w4, i64 j] ∧ H4 = H' ∧ (∀ i, i < j → 0 ≤ ends.getD i 0 ∧ ends.getD i 0 < x.types.xs.length) ∧ (∀ i q, i < j → q < i → ends.getD q 0 ≠ ends.getD i 0)) (n := ends.length) (by unfold zcb; omega)
    ⟨0, by omega, by omega, rfl, rfl, by omega, by omega⟩ ?_
  rintro k vs H' ⟨j, hk, hj, rfl, rfl, hin, hnd⟩
  by_cases hlt : j < ends.length
  case neg =>
    have : j = ends.length := by omega
    subst this
    (try simp (maxSteps := 1000000) (disch := first | omega | (simp only [Z3]; omega) | (simp; done) | assumption | decide | (refine not_not_intro ?_; assumption)) only [Z1, Z2, splice, zl7, le, z18])
    exact hQ _ _ k4 (hye ⟨by omega, zbnu.2 hin, zbgy.2 hnd⟩)
  have a1 := sv.addr1 rfl (k := .i64) (i := (j : Int)) (by omega) (by omega)
  rw [Int.toNat_natCast] at a1
  have d1 := sv.cell1 rfl hlt 0
  by_cases q1 : ends.getD j 0 < 0
  · (try simp (maxSteps := 1000000) (disch := first | omega | (simp only [Z3]; omega) | (simp; done) | assumption | decide | (refine not_not_intro ?_; assumption)) only [Z1, Z2, splice, zl7, le, zqe, a1, d1, decide_eq_true q1])
    exact hQ _ _ k4 (hne (fun q => by have := zbnu.1 q.2.1 j hlt; omega))
  by_cases q2 : ends.getD j 0 ≥ x.types.xs.length
  · (try simp (maxSteps := 1000000) (disch := first | omega | (simp only [Z3]; omega) | (simp; done) | assumption | decide | (refine not_not_intro ?_; assumption)) only [Z1, Z2, splice, zl7, le, zqe, a1, d1, decide_eq_false q1, g4, hlen, decide_eq_true q2])
    exact hQ _ _ k4 (hne (fun q => by have := zbnu.1 q.2.1 j hlt; omega))
  have hin' : ∀ i, i < j + 1 → 0 ≤ ends.getD i 0 ∧ ends.getD i 0 < x.types.xs.length := fun i h3 => by
    rcases Nat.lt_or_eq_of_le (Nat.lt_succ_iff.1 h3) with z | rfl
    · exact hin i z
    · omega
  (try simp (maxSteps := 1000000) (disch := first | omega | (simp only [Z3]; omega) | (simp; done) | assumption | decide | (refine not_not_intro ?_; assumption)) only [Z1, Z2, splice, zl7, le, zqe, a1, d1, decide_eq_false q1, g4, hlen, decide_eq_false q2, z16])
  refine zb9 (Inv := fun k vs H' => ∃ m : Nat, k = j - m ∧ m ≤ j ∧ vs = [ptr p 0, w4, i64 j, i64 m] ∧ H4 = H' ∧ (∀ q, q < m → ends.getD q 0 ≠ ends.getD j 0)) (n := j) (by unfold zcb; omega)
    ⟨0, by omega, by omega, rfl, rfl, by omega⟩ ?_
  rintro k' vs H' ⟨m, hk', hm, rfl, rfl, hq⟩
  by_cases hlm : m < j
  case neg =>
    have : m = j := by omega
    subst this
    have hnd' : ∀ i q, i < m + 1 → q < i → ends.getD q 0 ≠ ends.getD i 0 := fun i q h3 h4 => by
      rcases Nat.lt_or_eq_of_le (Nat.lt_succ_iff.1 h3) with z | rfl
      · exact hnd i q z h4
      · exact hq q h4
    (try simp (maxSteps := 1000000) (disch := first | omega | (simp only [Z3]; omega) | (simp; done) | assumption | decide | (refine not_not_intro ?_; assumption)) only [Z1, Z2, splice, zqd, z17])
    exact ⟨ends.length - (m + 1), by omega, m + 1, rfl, by omega, by push_cast; rfl, hin', hnd'⟩
  have a2 := sv.addr1 rfl (k := .i64) (i := (m : Int)) (by omega) (by omega)
  rw [Int.toNat_natCast] at a2
  have d2 := sv.cell1 rfl (i := m) (by omega) 0
  rw [zv] at d1 d2
  by_cases he : ends.getD m 0 = ends.getD j 0
  · (try simp (maxSteps := 1000000) (disch := first | omega | (simp only [Z3]; omega) | (simp; done) | assumption | decide | (refine not_not_intro ?_; assumption)) only [Z1, Z2, splice, zqd, zu6, a1, d1, a2, d2, decide_eq_true he])
    exact hQ _ _ k4 (hne (fun q => zbgy.1 q.2.2 j m hlt hlm he))
  · have hq' : ∀ q, q < m + 1 → ends.getD q 0 ≠ ends.getD j 0 := fun q h3 => by
      rcases Nat.lt_or_eq_of_le (Nat.lt_succ_iff.1 h3) with z | rfl
      · exact hq q z
      · exact he
    (try simp (maxSteps := 1000000) (disch := first | omega | (simp only [Z3]; omega) | (simp; done) | assumption | decide | (refine not_not_intro ?_; assumption)) only [Z1, Z2, splice, zqd, zu6, a1, d1, a2, d2, decide_eq_false he, z15])
    exact ⟨j - (m + 1), by omega, m + 1, rfl, by omega, by push_cast; rfl, hq'⟩
theorem zbqy {H : Heap} {x : Im} (h : ImAt H x) (hn : x.name.size ≤ 100000000) (hl : x.types.xs.length ≤ 100000000) (hf : x.first.xs.length ≤ 100000000) (hi : x.ins.xs.length ≤ 100000000) (hu : x.outs.xs.length ≤ 100000000) (hc : x.code.xs.length ≤ 100000000)
    (Q : V → Heap → Prop) (hQ : ∀ H', Keeps [] H H' → Q (.tuple #[i64 (zfa x.p).1, i64 (zfa x.p).2]) H') : wp (znw [.agg (Flat.enc x).toArray]) Q H := by
  show wp (zrz (.agg (Flat.enc x).toArray)) Q H
  have ho := zhd x
  have lt := h.types.len
  have lf := h.first.len
  have lc := h.code.len
  unfold zrz
  rw [zc4, zc4, zbc]
  refine (zd8 ho).mpr ?_
  have k1 : Keeps [] H (H.push (some (.cells true [.string x.name, x.types.v, x.first.v, x.ins.v, x.outs.v, x.code.v]))) := Keeps.push _ _ _
  have g1 : (H.push (some (.cells true [.string x.name, x.types.v, x.first.v, x.ins.v, x.outs.v, x.code.v]))).get H.next = some (.cells true [.string x.name, x.types.v, x.first.v, x.ins.v, x.outs.v, x.code.v]) := Heap.get_push_self _ _
  generalize H.push (some (.cells true [.string x.name, x.types.v, x.first.v, x.ins.v, x.outs.v, x.code.v])) = H1 at *
  generalize hpp : H.next = p at *
  have hbad : ∀ H', Keeps [] H H' → ¬ zwz x.p → Q (.tuple #[i64 (-1), i64 130]) H' := fun H' k q => by
    have := hQ H' k
    rw [show zfa x.p = (-1, 130) by unfold zfa; rw [if_neg q]] at this
    exact this
  have eT : x.p.types = x.types.xs := rfl
  have eF : x.p.first = x.first.xs := rfl
  have eC : x.p.code = x.code.xs := rfl
  (try simp (maxSteps := 1000000) (disch := first | omega | (simp only [Z3]; omega) | (simp; done) | assumption | decide | (refine not_not_intro ?_; assumption)) only [Z1, Z2, splice, g1])
  refine zbua _ (by omega) _ fun H2 k2 => ?_
  have k02 := k1.trans k2 (by simp)
  have g2 := k2.get g1 (by simp)
  cases hnm : zv2 x.name with
  | false =>
    (try simp (maxSteps := 1000000) (disch := first | omega | (simp only [Z3]; omega) | (simp; done) | assumption | decide | (refine not_not_intro ?_; assumption)) only [Z1, Z2, splice])
    exact hbad _ k02 (fun q => by have := q.1; rw [show x.p.name = x.name from rfl, hnm] at this; cases this)
  | true =>
  by_cases c1 : (x.types.xs.length : Int) = x.first.xs.length
  case neg =>
    (try simp (maxSteps := 1000000) (disch := first | omega | (simp only [Z3]; omega) | (simp; done) | assumption | decide | (refine not_not_intro ?_; assumption)) only [Z1, Z2, splice, g2, lt, lf, decide_eq_false c1])
    exact hbad _ k02 (fun q => c1 (by have := q.2.1; rw [eT, eF] at this; omega))
  by_cases c2 : (x.types.xs.length : Int) > 1024
  · (try simp (maxSteps := 1000000) (disch := first | omega | (simp only [Z3]; omega) | (simp; done) | assumption | decide | (refine not_not_intro ?_; assumption)) only [Z1, Z2, splice, g2, lt, lf, decide_eq_true c1, decide_eq_true c2])
    exact hbad _ k02 (fun q => by have := q.2.2.1; rw [eT] at this; omega)
  by_cases c3 : (x.code.xs.length : Int) < 1
  · (try simp (maxSteps := 1000000) (disch := first | omega | (simp only [Z3]; omega) | (simp; done) | assumption | decide | (refine not_not_intro ?_; assumption)) only [Z1, Z2, splice, g2, lt, lf, lc, decide_eq_true c1, decide_eq_false c2, decide_eq_true c3])
    exact hbad _ k02 (fun q => by have := q.2.2.2.1; rw [eC] at this; omega)
  by_cases c4 : (x.code.xs.length : Int) > 4096
  · (try simp (maxSteps := 1000000) (disch := first | omega | (simp only [Z3]; omega) | (simp; done) | assumption | decide | (refine not_not_intro ?_; assumption)) only [Z1, Z2, splice, g2, lt, lf, lc, decide_eq_true c1, decide_eq_false c2, decide_eq_false c3, decide_eq_true c4])
    exact hbad _ k02 (fun q => by have := q.2.2.2.2.1; rw [eC] at this; omega)
  (try simp (maxSteps := 1000000) (disch := first | omega | (simp only [Z3]; omega) | (simp; done) | assumption | decide | (refine not_not_intro ?_; assumption)) only [Z1, Z2, splice, g2, lt, lf, lc, decide_eq_true c1, decide_eq_false c2, decide_eq_false c3, decide_eq_false c4])
  rw [← zbc]
  refine zbqx (h.keep0 k02) hl hi hu _ fun H3 b k3 hb => ?_
  have k03 := k02.trans k3 (by simp)
  have g3 := k3.get g2 (by simp)
  cases b with
  | false =>
    (try simp (maxSteps := 1000000) (disch := first | omega | (simp only [Z3]; omega) | (simp; done) | assumption | decide | (refine not_not_intro ?_; assumption)) only [Z1, Z2, splice])
    exact hbad _ k03 (fun q => by have := hb.2 ⟨q.2.2.2.2.2.1, q.2.2.2.2.2.2.2.1, q.2.2.2.2.2.2.2.2⟩; cases this)
  | true =>
  have hE := hb.1 rfl
  have ltyp := h.types.keep0 k03
  have lfst := h.first.keep0 k03
  have lcod := h.code.keep0 k03
  (try simp (maxSteps := 1000000) (disch := first | omega | (simp only [Z3]; omega) | (simp; done) | assumption | decide | (refine not_not_intro ?_; assumption)) only [Z1, Z2, splice, z2j])
  refine zb9 (Inv := fun k vs H' => ∃ j : Nat, k = x.types.xs.length - j ∧ j ≤ x.types.xs.length ∧ vs = [ptr p 0, i64 j] ∧ H3 = H' ∧ (∀ i, i < j → fits (x.types.xs.getD i 0) (x.first.xs.getD i 0))) (n := x.types.xs.length) (by unfold zcb; omega)
    ⟨0, by omega, by omega, rfl, rfl, by omega⟩ ?_
  rintro k vs H' ⟨j, hk, hj, rfl, rfl, hall⟩
  by_cases hlt : j < x.types.xs.length
  case pos =>
    have a1 := ltyp.addr1 rfl (k := .i64) (i := j) (by omega) (by omega)
    rw [Int.toNat_natCast] at a1
    have d1 := ltyp.cell1 rfl hlt 0
    have a2 := lfst.addr1 rfl (k := .i64) (i := j) (by omega) (by omega)
    rw [Int.toNat_natCast] at a2
    have d2 := lfst.cell1 rfl (i := j) (by omega) 0
    by_cases hfj : fits (x.types.xs.getD j 0) (x.first.xs.getD j 0)
    · have hall' : ∀ i, i < j + 1 → fits (x.types.xs.getD i 0) (x.first.xs.getD i 0) := fun i hi => by
        rcases Nat.lt_or_eq_of_le (Nat.lt_succ_iff.1 hi) with q2 | rfl
        · exact hall i q2
        · exact hfj
      (try simp (maxSteps := 1000000) (disch := first | omega | (simp only [Z3]; omega) | (simp; done) | assumption | decide | (refine not_not_intro ?_; assumption)) only [Z1, Z2, splice, zqi, g3, lt, zu8, a1, d1, a2, d2, zwy, decide_eq_true hfj, z2e])
      exact ⟨x.types.xs.length - (j + 1), by omega, j + 1, rfl, by omega, by push_cast; rfl, hall'⟩
    · (try simp (maxSteps := 1000000) (disch := first | omega | (simp only [Z3]; omega) | (simp; done) | assumption | decide | (refine not_not_intro ?_; assumption)) only [Z1, Z2, splice, zqi, g3, lt, zu8, a1, d1, a2, d2, zwy, decide_eq_false hfj])
      exact hbad _ k03 (fun q => hfj (q.2.2.2.2.2.2.1 j hlt))
  have : j = x.types.xs.length := by omega
  subst this
  have hS : zwz x.p := ⟨hnm, by rw [eT, eF]; omega, by rw [eT]; omega, by rw [eC]; omega, by rw [eC]; omega, hE.1, hall, hE.2.1, hE.2.2⟩
  have hck : zfa x.p = match zoi (fun i => !zt3 x.types.xs x.code.xs.length i) x.code.xs with | some j => ((j : Int), 130) | none => (0, 0) := by
    unfold zfa; rw [if_pos hS]; rfl
  rw [hck] at hQ
  (try simp (maxSteps := 1000000) (disch := first | omega | (simp only [Z3]; omega) | (simp; done) | assumption | decide | (refine not_not_intro ?_; assumption)) only [Z1, Z2, splice, zqi, g3, lt, z2i])
  refine zb9 (Inv := fun k vs H' => ∃ j : Nat, k = x.code.xs.length - j ∧ j ≤ x.code.xs.length ∧ vs = [ptr p 0, i64 j] ∧ Keeps [] H3 H' ∧ (∀ i, i < j → zx3 x.types.xs x.code.xs.length (x.code.xs.getD i default))) (n := x.code.xs.length) (by unfold zcb; omega)
    ⟨0, by omega, by omega, rfl, Keeps.refl _ _, by omega⟩ ?_
  rintro k vs H5 ⟨j, hk, hj, rfl, k35, hall2⟩
  have k05 := k03.trans k35 (by simp)
  have g5 := k35.get g3 (by simp)
  by_cases hlt : j < x.code.xs.length
  case neg =>
    have : j = x.code.xs.length := by omega
    subst this
    have hnone : zoi (fun i => !zt3 x.types.xs x.code.xs.length i) x.code.xs = none := by
      rw [zt6]
      intro i hm
      obtain ⟨q, hq, rfl⟩ := List.getElem_of_mem hm
      have := hall2 q hq
      rw [List.getD_eq_getElem?_getD, List.getElem?_eq_getElem hq] at this
      have := zny.2 this
      simp only [Option.getD_some] at this
      rw [this]; rfl
    have hq := hQ H5 k05
    rw [hnone] at hq
    (try simp (maxSteps := 1000000) (disch := first | omega | (simp only [Z3]; omega) | (simp; done) | assumption | decide | (refine not_not_intro ?_; assumption)) only [Z1, Z2, splice, zu9, g5, lc, z2h])
    exact hq
  have lc5 := lcod.keep0 k35
  have a1 := lc5.addr' (n := 4) rfl (k := .i64) (i := (j : Int)) (by omega) (by omega)
  rw [Int.toNat_natCast] at a1
  have d1 := fun (Q : V → Heap → Prop) => lc5.ldn' (n := 4) rfl hlt default (Q := Q)
  (try simp (maxSteps := 1000000) (disch := first | omega | (simp only [Z3]; omega) | (simp; done) | assumption | decide | (refine not_not_intro ?_; assumption)) only [Z1, Z2, splice, zu9, g5, lc, z2g, a1, d1])
  rw [← zbc]
  refine zbvt (h.keep0 k05) hl hc _ _ fun H6 b k6 hb => ?_
  have k06 := k05.trans k6 (by simp)
  cases b with
  | true =>
    have hall3 : ∀ i, i < j + 1 → zx3 x.types.xs x.code.xs.length (x.code.xs.getD i default) := fun i hi => by
      rcases Nat.lt_or_eq_of_le (Nat.lt_succ_iff.1 hi) with q2 | rfl
      · exact hall2 i q2
      · exact hb.1 rfl
    (try simp (maxSteps := 1000000) (disch := first | omega | (simp only [Z3]; omega) | (simp; done) | assumption | decide | (refine not_not_intro ?_; assumption)) only [Z1, Z2, splice, z2f])
    exact ⟨x.code.xs.length - (j + 1), by omega, j + 1, rfl, by omega, by push_cast; rfl, k35.trans k6 (by simp), hall3⟩
  | false =>
    have hno : ¬ zx3 x.types.xs x.code.xs.length (x.code.xs.getD j default) := fun q => by have := hb.2 q; cases this
    have hsome : zoi (fun i => !zt3 x.types.xs x.code.xs.length i) x.code.xs = some j := by
      refine z25 (d := default) hlt ?_ fun q hq => ?_
      · have : zt3 x.types.xs x.code.xs.length (x.code.xs.getD j default) = false := by
          rw [← Bool.not_eq_true, zny]; exact hno
        rw [this]; rfl
      · rw [zny.2 (hall2 q hq)]; rfl
    have hq := hQ H6 k06
    rw [hsome] at hq
    (try simp (maxSteps := 1000000) (disch := first | omega | (simp only [Z3]; omega) | (simp; done) | assumption | decide | (refine not_not_intro ?_; assumption)) only [Z1, Z2, splice])
    exact hq
end Go.AM.Cap

/- code: the document's Items, Encode -/
set_option maxHeartbeats 16000000
namespace Go.AM.Cap
open Go.AM Go.Proofs
end Go.AM.Cap
