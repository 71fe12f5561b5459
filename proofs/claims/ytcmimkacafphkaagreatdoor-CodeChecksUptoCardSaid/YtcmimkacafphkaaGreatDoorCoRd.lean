import Derived.Test.YtcmimkacafphkaaGreatDoorCoRc
import Derived.Test.YtcmimkacafphkaaGreatDoorAmOpenF
set_option linter.all false
/- code: the document's block -/
set_option maxHeartbeats 8000000
namespace Go.AM.Cap
open Go.AM Go.Proofs

/-- are a block's cells there? -/
def BlockP (types : List Int) (kind a : Int) : Prop := ∃ l, fieldsS kind = some l ∧ cellsS types a l.length = some l
theorem block_iff {types : List Int} {kind : Int} {fs : List Fd} {a : Nat} (hk : fieldsS kind = some (fs.map Fd.type)) (ha : a < types.length) (hm : a + fs.length ≤ types.length) : BlockP types kind a ↔ ∀ i, i < fs.length → types.getD (a + i) 0 = (fs.getD i default).type := by
  have e : cellsS types a ((fs.map Fd.type).length : Int) = some ((types.drop a).take fs.length) := by
    unfold cellsS; rw [List.length_map, if_neg (by omega)]; rfl
  have hl : ((types.drop a).take fs.length).length = fs.length := by rw [List.length_take, List.length_drop]; omega
  have g : ∀ j, j < fs.length → ((types.drop a).take fs.length).getD j 0 = types.getD (a + j) 0 := fun j hj => by
    rw [List.getD_eq_getElem?_getD, List.getD_eq_getElem?_getD, List.getElem?_take_of_lt hj, List.getElem?_drop]
  have g2 : ∀ j, j < fs.length → (fs.map Fd.type).getD j 0 = (fs.getD j default).type := fun j hj => by
    rw [List.getD_eq_getElem?_getD, List.getD_eq_getElem?_getD, List.getElem?_map, List.getElem?_eq_getElem hj]; rfl
  unfold BlockP
  rw [hk]
  constructor
  · rintro ⟨l, hl2, h⟩ i hi
    cases hl2
    rw [e] at h
    have h2 := Option.some.inj h
    rw [← g i hi, h2, g2 i hi]
  · intro h
    refine ⟨_, rfl, ?_⟩
    rw [e]
    congr 1
    apply List.ext_getElem (by rw [hl, List.length_map])
    intro j hj hj2
    rw [hl] at hj
    have h1 := g j hj
    have h2 := g2 j hj
    rw [h j hj, ← h2] at h1
    rw [List.getD_eq_getElem?_getD, List.getD_eq_getElem?_getD, List.getElem?_eq_getElem, List.getElem?_eq_getElem hj2] at h1
    exact h1
theorem rblock_ok {H : Heap} {x : Im} (h : ImAt H x) (hl : x.types.xs.length ≤ 100000000) (kind a : Int) (Q : V → Heap → Prop) (hQ : ∀ H' b, Keeps [] H H' → (b = true ↔ BlockP x.types.xs kind a) → Q (.bool b) H') : wp (A_ref13_block [.agg (Flat.enc x).toArray, i64 kind, i64 a]) Q H := by
  show wp (F_ref13_block (.agg (Flat.enc x).toArray) (i64 kind) (i64 a)) Q H
  have hne : ∀ {p : Prop}, ¬ p → ((false = true) ↔ p) := fun q => ⟨Bool.noConfusion, fun e => (q e).elim⟩
  have hye : ∀ {p : Prop}, p → ((true = true) ↔ p) := fun q => ⟨fun _ => q, fun _ => rfl⟩
  have ho := im_one x
  have hlen := h.types.len
  unfold F_ref13_block
  rw [wp_bnd, wp_bnd, enc_im]
  refine (wp_boxg ho).mpr ?_
  have k1 : Keeps [] H (H.push (some (.cells true [.string x.name, x.types.v, x.first.v, x.ins.v, x.outs.v, x.code.v]))) := Keeps.push _ _ _
  have g1 : (H.push (some (.cells true [.string x.name, x.types.v, x.first.v, x.ins.v, x.outs.v, x.code.v]))).get H.next = some (.cells true [.string x.name, x.types.v, x.first.v, x.ins.v, x.outs.v, x.code.v]) := Heap.get_push_self _ _
  generalize H.push (some (.cells true [.string x.name, x.types.v, x.first.v, x.ins.v, x.outs.v, x.code.v])) = H1 at *
  generalize hpp : H.next = p at *
  (try simp (maxSteps := 1000000) (disch := first | omega | (simp only [Z3]; omega) | (simp; done) | assumption | decide | (refine not_not_intro ?_; assumption)) only [Z1, Z2, splice])
  refine rfields_ok _ _ (fun H2 k2 hn => ?_) (fun H2 v fs k2 hs hv => ?_)
  · (try simp (maxSteps := 1000000) (disch := first | omega | (simp only [Z3]; omega) | (simp; done) | assumption | decide | (refine not_not_intro ?_; assumption)) only [Z1, Z2, splice])
    exact hQ _ _ (k1.trans k2 (by simp)) (hne (by rintro ⟨l, e, _⟩; rw [hn] at e; cases e))
  have k02 := k1.trans k2 (by simp)
  have g2 := k2.get g1 (by simp)
  have hfl : fs.length ≤ 6 := by
    have := fields_len hs
    rwa [List.length_map] at this
  have hvl := hv.len
  have out : (a < 0 ∨ a ≥ x.types.xs.length ∨ (fs.length : Int) > x.types.xs.length - a) → ¬ BlockP x.types.xs kind a := fun q => by
    rintro ⟨l, e, e2⟩
    rw [hs] at e
    cases e
    unfold cellsS at e2
    rw [List.length_map, if_pos q] at e2; cases e2
  by_cases q1 : a < 0
  · (try simp (maxSteps := 1000000) (disch := first | omega | (simp only [Z3]; omega) | (simp; done) | assumption | decide | (refine not_not_intro ?_; assumption)) only [Z1, Z2, splice, decide_eq_true q1])
    exact hQ _ _ k02 (hne (out (.inl q1)))
  by_cases q2 : a ≥ x.types.xs.length
  · (try simp (maxSteps := 1000000) (disch := first | omega | (simp only [Z3]; omega) | (simp; done) | assumption | decide | (refine not_not_intro ?_; assumption)) only [Z1, Z2, splice, decide_eq_false q1, decide_eq_true q2, g2, hlen])
    exact hQ _ _ k02 (hne (out (.inr (.inl q2))))
  by_cases q3 : (fs.length : Int) > x.types.xs.length - a
  · (try simp (maxSteps := 1000000) (disch := first | omega | (simp only [Z3]; omega) | (simp; done) | assumption | decide | (refine not_not_intro ?_; assumption)) only [Z1, Z2, splice, decide_eq_false q1, decide_eq_false q2, decide_eq_true q3, g2, hlen, hvl])
    exact hQ _ _ k02 (hne (out (.inr (.inr q3))))
  obtain ⟨an, rfl⟩ : ∃ n : Nat, a = n := ⟨a.toNat, by omega⟩
  have hiff := block_iff (types := x.types.xs) (a := an) hs (by omega) (by omega)
  have v2 := h.types.keep0 k02
  (try simp (maxSteps := 1000000) (disch := first | omega | (simp only [Z3]; omega) | (simp; done) | assumption | decide | (refine not_not_intro ?_; assumption)) only [Z1, Z2, splice, decide_eq_false q1, decide_eq_false q2, decide_eq_false q3, g2, hlen, hvl, ref13_block_k4])
  refine wp_loop (Inv := fun k vs H' => ∃ j : Nat, k = fs.length - j ∧ j ≤ fs.length ∧ vs = [i64 an, ptr p 0, v, i64 j] ∧ H2 = H' ∧ (∀ i, i < j → x.types.xs.getD (an + i) 0 = (fs.getD i default).type)) (n := fs.length) (by unfold FUEL; omega)
    ⟨0, by omega, by omega, rfl, rfl, by omega⟩ ?_
  rintro k vs H' ⟨j, hk, hj, rfl, rfl, hall⟩
  by_cases hlt : j < fs.length
  case neg =>
    have : j = fs.length := by omega
    subst this
    (try simp (maxSteps := 1000000) (disch := first | omega | (simp only [Z3]; omega) | (simp; done) | assumption | decide | (refine not_not_intro ?_; assumption)) only [Z1, Z2, splice, ref13_block_l2, hvl, ref13_block_k3])
    exact hQ _ _ k02 (hye (hiff.2 hall))
  have a1 := v2.addr1 rfl (k := .i64) (i := (an : Int) + (j : Int)) (by omega) (by omega)
  rw [show ((an : Int) + (j : Int)).toNat = an + j by omega] at a1
  have d1 := v2.cell1 rfl (i := an + j) (by omega) 0
  have a2 := hv.addr' (n := 3) rfl (k := .i64) (i := (j : Int)) (by omega) (by omega)
  rw [Int.toNat_natCast] at a2
  have d2 := hv.cell' (n := 3) rfl (off := 1) hlt (by omega) default
  rw [cellP_get] at d2
  by_cases hq : x.types.xs.getD (an + j) 0 = (fs.getD j default).type
  · have hall' : ∀ i, i < j + 1 → x.types.xs.getD (an + i) 0 = (fs.getD i default).type := fun i h3 => by
      rcases Nat.lt_or_eq_of_le (Nat.lt_succ_iff.1 h3) with z | rfl
      · exact hall i z
      · exact hq
    (try simp (maxSteps := 1000000) (disch := first | omega | (simp only [Z3]; omega) | (simp; done) | assumption | decide | (refine not_not_intro ?_; assumption)) only [Z1, Z2, splice, ref13_block_l2, hvl, ref13_block_k1, g2, a1, d1, a2, d2, enc_fd, decide_eq_true hq, ref13_block_k0])
    exact ⟨fs.length - (j + 1), by omega, j + 1, rfl, by omega, by push_cast; rfl, hall'⟩
  · (try simp (maxSteps := 1000000) (disch := first | omega | (simp only [Z3]; omega) | (simp; done) | assumption | decide | (refine not_not_intro ?_; assumption)) only [Z1, Z2, splice, ref13_block_l2, hvl, ref13_block_k1, g2, a1, d1, a2, d2, enc_fd, decide_eq_false hq])
    exact hQ _ _ k02 (hne (fun z => hq (hiff.1 z _ hlt)))
end Go.AM.Cap
