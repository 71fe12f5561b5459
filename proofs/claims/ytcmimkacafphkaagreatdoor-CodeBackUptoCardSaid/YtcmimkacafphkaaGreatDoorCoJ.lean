import Derived.Test.YtcmimkacafphkaaGreatDoorCoI
import Derived.Test.YtcmimkacafphkaaGreatDoorAmOpenF
set_option linter.all false
/- code: what is sound; Check -/
set_option maxHeartbeats 16000000
namespace Go.AM.Cap
open Go.AM Go.Proofs

theorem lkIBc (rw_ : Bool) (es : List (Int × Bool)) (a : Int) : lookG (some (.map rw_ (es.map encE))) (.one .i) (.bool false) false (i64 a) = some (.bool ((aget es a).getD false)) := by
  have := lookG_enc rw_ es (.bool false) rfl a
  rw [show KeyE.kk Int = .one .i from rfl, show (KeyE.enc a : V) = i64 a from rfl] at this
  rw [this]
  cases aget es a <;> rfl
theorem stIBc (es : List (Int × Bool)) (a : Int) (v : Bool) (K : Option Blk → Prop) : setG (some (.map true (es.map encE))) (.one .i) (i64 a) (.bool v) K ↔ K (some (.map true ((aset es a v).map encE))) := setG_enc es a v K
/-- may an image be, but for its instructions? -/
def SoundP (p : PIm) : Prop :=
  nameB p.name = true ∧ p.types.length = p.first.length ∧ p.types.length ≤ 1024 ∧ 1 ≤ p.code.length ∧ p.code.length ≤ 4096 ∧ (p.ins ++ p.outs).length ≤ p.types.length
  ∧ (∀ j, j < p.types.length → fits (p.types.getD j 0) (p.first.getD j 0)) ∧ (∀ c ∈ p.ins ++ p.outs, 0 ≤ c ∧ c < p.types.length) ∧ (p.ins ++ p.outs).Nodup
theorem take_succ_getD {α : Type} {l : List α} {j : Nat} (h : j < l.length) (d : α) : l.take (j + 1) = l.take j ++ [l.getD j d] := by
  rw [List.take_succ, List.getD_eq_getElem?_getD, List.getElem?_eq_getElem h]
  rfl
theorem sound_ok {H : Heap} {G : List V → M V} (hm : MaxL H) {x : Im} (h : ImAt H x) (hl : x.types.xs.length ≤ 100000000) (hf : x.first.xs.length ≤ 100000000) (hi : x.ins.xs.length ≤ 100000000) (hu : x.outs.xs.length ≤ 100000000) (hc : x.code.xs.length ≤ 100000000)
    (Q : V → Heap → Prop) (hQ : ∀ H' b, Keeps [] H H' → (b = true ↔ SoundP x.p) → Q (.bool b) H') : wp (A_code_sound G containsF [.agg (Flat.enc x).toArray]) Q H := by
  show wp (F_code_sound G containsF (.agg (Flat.enc x).toArray)) Q H
  have hne : ∀ {p : Prop}, ¬ p → ((false = true) ↔ p) := fun q => ⟨Bool.noConfusion, fun e => (q e).elim⟩
  have hye : ∀ {p : Prop}, p → ((true = true) ↔ p) := fun q => ⟨fun _ => q, fun _ => rfl⟩
  have ho := im_one x
  unfold F_code_sound
  rw [wp_bnd, wp_bnd, enc_im]
  refine (wp_boxg ho).mpr ?_
  have k1 : Keeps [] H (H.push (some (.cells true [.string x.name, x.types.v, x.first.v, x.ins.v, x.outs.v, x.code.v]))) := Keeps.push _ _ _
  have g1 : (H.push (some (.cells true [.string x.name, x.types.v, x.first.v, x.ins.v, x.outs.v, x.code.v]))).get H.next = some (.cells true [.string x.name, x.types.v, x.first.v, x.ins.v, x.outs.v, x.code.v]) := Heap.get_push_self _ _
  generalize H.push (some (.cells true [.string x.name, x.types.v, x.first.v, x.ins.v, x.outs.v, x.code.v])) = H1 at *
  generalize hp : H.next = p at *
  (try simp (maxSteps := 1000000) (disch := first | omega | (simp only [Z3]; omega) | (simp; done) | assumption | decide | (refine not_not_intro ?_; assumption)) only [Z1, Z2, splice, g1])
  have hfa : fillA (rep 2 [(.slice none 0 0 : V)]) [(0, 1, x.ins.v), (1, 1, x.outs.v)] = some (encs [x.ins, x.outs]) := by
    rw [fillA_one x.ins.one (by simp [rep]), fillA_one x.outs.one (by simp [rep])]
    rfl
  refine (wp_bslc (by rfl) (cs := encs [x.ins, x.outs]) hfa).mpr ?_
  have k2 : Keeps [] H1 (H1.push (some (.cells true (encs [x.ins, x.outs])))) := Keeps.push _ _ _
  have s2 : Sl2 (H1.push (some (.cells true (encs [x.ins, x.outs])))) (slc H1.next 0 1 2 2) [x.ins, x.outs] := ⟨.inr ⟨_, 0, 1, 2, rfl, Nat.le_refl _, Heap.get_lt (Heap.get_push_self _ _),   .inr ⟨true, _, Heap.get_push_self _ _, by show 0 + 2 * 1 ≤ 2; omega, rfl⟩, .inr rfl⟩, fun y hy => by
    simp only [List.mem_cons, List.not_mem_nil, or_false] at hy
    rcases hy with rfl | rfl
    · exact h.ins.keep0 (k1.trans k2 (by simp))
    · exact h.outs.keep0 (k1.trans k2 (by simp))⟩
  generalize H1.push (some (.cells true (encs [x.ins, x.outs]))) = H2 at *
  have hcat : catN [x.ins, x.outs] = x.ins.xs ++ x.outs.xs := by simp [catN]
  refine concatI_ok s2 (by simp) (by rw [hcat]; simp; omega) _ fun ev H3 k3 sv3 => ?_
  rw [hcat] at sv3
  have k03 : Keeps [] H H3 := (k1.trans k2 (by simp)).trans k3 (by simp)
  have g3 := (k2.trans k3 (by simp)).get g1 (by simp)
  (try simp (maxSteps := 1000000) (disch := first | omega | (simp only [Z3]; omega) | (simp; done) | assumption | decide | (refine not_not_intro ?_; assumption)) only [Z1, Z2, splice, g3])
  refine name_ok (hm.keep k03) x.name _ fun H4 k4 => ?_
  have k04 := k03.trans k4 (by simp)
  have g4 := k4.get g3 (by simp)
  have sv4 := sv3.keep0 k4
  have lt := h.types.len
  have lf := h.first.len
  have lc := h.code.len
  have le := sv3.len
  have hlen : (x.ins.xs ++ x.outs.xs).length = x.ins.xs.length + x.outs.xs.length := List.length_append
  cases hn : nameB x.name with
  | false =>
    (try simp (maxSteps := 1000000) (disch := first | omega | (simp only [Z3]; omega) | (simp; done) | assumption | decide | (refine not_not_intro ?_; assumption)) only [Z1, Z2, splice])
    exact hQ _ _ k04 (hne (fun q => by have := q.1; rw [show x.p.name = x.name from rfl, hn] at this; cases this))
  | true =>
  by_cases c1 : (x.types.xs.length : Int) = x.first.xs.length
  case neg =>
    (try simp (maxSteps := 1000000) (disch := first | omega | (simp only [Z3]; omega) | (simp; done) | assumption | decide | (refine not_not_intro ?_; assumption)) only [Z1, Z2, splice, g4, lt, lf, decide_eq_false c1])
    exact hQ _ _ k04 (hne (fun q => c1 (by have := q.2.1; show (x.p.types.length : Int) = x.p.first.length; omega)))
  by_cases c2 : (x.types.xs.length : Int) > 1024
  · (try simp (maxSteps := 1000000) (disch := first | omega | (simp only [Z3]; omega) | (simp; done) | assumption | decide | (refine not_not_intro ?_; assumption)) only [Z1, Z2, splice, g4, lt, lf, decide_eq_true c1, decide_eq_true c2])
    exact hQ _ _ k04 (hne (fun q => by have := q.2.2.1; have e : x.p.types = x.types.xs := rfl; rw [e] at this; omega))
  by_cases c3 : (x.code.xs.length : Int) < 1
  · (try simp (maxSteps := 1000000) (disch := first | omega | (simp only [Z3]; omega) | (simp; done) | assumption | decide | (refine not_not_intro ?_; assumption)) only [Z1, Z2, splice, g4, lt, lf, lc, decide_eq_true c1, decide_eq_false c2, decide_eq_true c3])
    exact hQ _ _ k04 (hne (fun q => by have := q.2.2.2.1; have e : x.p.code = x.code.xs := rfl; rw [e] at this; omega))
  by_cases c4 : (x.code.xs.length : Int) > 4096
  · (try simp (maxSteps := 1000000) (disch := first | omega | (simp only [Z3]; omega) | (simp; done) | assumption | decide | (refine not_not_intro ?_; assumption)) only [Z1, Z2, splice, g4, lt, lf, lc, decide_eq_true c1, decide_eq_false c2, decide_eq_false c3, decide_eq_true c4])
    exact hQ _ _ k04 (hne (fun q => by have := q.2.2.2.2.1; have e : x.p.code = x.code.xs := rfl; rw [e] at this; omega))
  by_cases c5 : ((x.ins.xs ++ x.outs.xs).length : Int) > x.types.xs.length
  · (try simp (maxSteps := 1000000) (disch := first | omega | (simp only [Z3]; omega) | (simp; done) | assumption | decide | (refine not_not_intro ?_; assumption)) only [Z1, Z2, splice, g4, lt, lf, lc, le, decide_eq_true c1, decide_eq_false c2, decide_eq_false c3, decide_eq_false c4, decide_eq_true c5])
    exact hQ _ _ k04 (hne (fun q => by have := q.2.2.2.2.2.1; have e : x.p.ins ++ x.p.outs = x.ins.xs ++ x.outs.xs := rfl; have e2 : x.p.types = x.types.xs := rfl; rw [e, e2] at this; omega))
  (try simp (maxSteps := 1000000) (disch := first | omega | (simp only [Z3]; omega) | (simp; done) | assumption | decide | (refine not_not_intro ?_; assumption)) only [Z1, Z2, splice, g4, lt, lf, lc, le, decide_eq_true c1, decide_eq_false c2, decide_eq_false c3, decide_eq_false c4, decide_eq_false c5, code_sound_k9])
  have ltyp := h.types.keep0 k04
  have lfst := h.first.keep0 k04
  generalize hend : x.ins.xs ++ x.outs.xs = ends at *
  have eT : x.p.types = x.types.xs := rfl
  have eF : x.p.first = x.first.xs := rfl
  have eE : x.p.ins ++ x.p.outs = ends := hend
  have eC : x.p.code = x.code.xs := rfl
  refine wp_loop (Inv := fun k vs H' => ∃ j : Nat, k = x.types.xs.length - j ∧ j ≤ x.types.xs.length ∧ vs = [ptr p 0, ev, x.types.v, i64 x.types.xs.length, i64 j] ∧ H4 = H' ∧ (∀ i, i < j → fits (x.types.xs.getD i 0) (x.first.xs.getD i 0))) (n := x.types.xs.length) (by unfold FUEL; omega)
    ⟨0, by omega, by omega, rfl, rfl, by omega⟩ ?_
  rintro k vs H' ⟨j, hk, hj, rfl, rfl, hall⟩
  by_cases hlt : j < x.types.xs.length
  case pos =>
    have hlt2 : j < x.first.xs.length := by omega
    have a1 := ltyp.addr1 rfl (k := .i64) (i := j) (by omega) (by omega)
    rw [Int.toNat_natCast] at a1
    have d1 := ltyp.cell1 rfl hlt 0
    have a2 := lfst.addr1 rfl (k := .i64) (i := j) (by omega) (by omega)
    rw [Int.toNat_natCast] at a2
    have d2 := lfst.cell1 rfl hlt2 0
    have hnj : ∀ q : fits (x.types.xs.getD j 0) (x.first.xs.getD j 0), ∀ i, i < j + 1 → fits (x.types.xs.getD i 0) (x.first.xs.getD i 0) := fun q i hi => by
      rcases Nat.lt_or_eq_of_le (Nat.lt_succ_iff.1 hi) with q2 | rfl
      · exact hall i q2
      · exact q
    have hno : ¬ fits (x.types.xs.getD j 0) (x.first.xs.getD j 0) → ¬ SoundP x.p := fun q r => q (r.2.2.2.2.2.2.1 j hlt)
    generalize x.types.xs.getD j 0 = tj at *
    generalize x.first.xs.getD j 0 = fj at *
    by_cases hfj : fits tj fj
    · (try simp (maxSteps := 1000000) (disch := first | omega | (simp only [Z3]; omega) | (simp; done) | assumption | decide | (refine not_not_intro ?_; assumption)) only [Z1, Z2, splice, code_sound_l2, code_sound_k1, a1, d1, g4, a2, d2, num_Fits_eq, decide_eq_true hfj, code_sound_k0])
      exact ⟨x.types.xs.length - (j + 1), by omega, j + 1, rfl, by omega, by push_cast; rfl, hnj hfj⟩
    · (try simp (maxSteps := 1000000) (disch := first | omega | (simp only [Z3]; omega) | (simp; done) | assumption | decide | (refine not_not_intro ?_; assumption)) only [Z1, Z2, splice, code_sound_l2, code_sound_k1, a1, d1, g4, a2, d2, num_Fits_eq, decide_eq_false hfj])
      exact hQ _ _ k04 (hne (hno hfj))
  have : j = x.types.xs.length := by omega
  subst this
  (try simp (maxSteps := 1000000) (disch := first | omega | (simp only [Z3]; omega) | (simp; done) | assumption | decide | (refine not_not_intro ?_; assumption)) only [Z1, Z2, splice, code_sound_l2, code_sound_k8, wp_mkmap, le])
  have k5 : Keeps [] H4 (H4.push (some (.map true []))) := Keeps.push _ _ _
  have g5 : (H4.push (some (.map true []))).get H4.next = some (.map true []) := Heap.get_push_self _ _
  have hmlt : p < H4.next := Heap.get_lt g4
  generalize H4.push (some (.map true [])) = H5 at *
  generalize hmm : H4.next = m at *
  refine wp_loop (Inv := fun k vs H' => ∃ (j : Nat) (es : List (Int × Bool)), k = ends.length - j ∧ j ≤ ends.length ∧ vs = [ptr p 0, .map (some m), ev, i64 ends.length, i64 j] ∧ Keeps [] H4 H' ∧ H'.get m = some (.map true (es.map encE)) ∧ (∀ c, (aget es c).getD false = decide (c ∈ ends.take j)) ∧ (∀ c ∈ ends.take j, 0 ≤ c ∧ c < x.types.xs.length) ∧ (ends.take j).Nodup) (n := ends.length) (by unfold FUEL; omega)
    ⟨0, [], by omega, by omega, rfl, k5, g5, by simp [aget], by simp, by simp⟩ ?_
  rintro k vs H6 ⟨j, es, hk2, hj2, rfl, kk, hg6, hes, hin, hnd⟩
  have k06 := k04.trans kk (by simp)
  by_cases hlt : j < ends.length
  case neg =>
    have : j = ends.length := by omega
    subst this
    rw [List.take_length] at hin hnd
    (try simp (maxSteps := 1000000) (disch := first | omega | (simp only [Z3]; omega) | (simp; done) | assumption | decide | (refine not_not_intro ?_; assumption)) only [Z1, Z2, splice, code_sound_l6, code_sound_k7])
    refine hQ _ _ k06 (hye ⟨hn, by rw [eT, eF]; omega, by rw [eT]; omega, by rw [eC]; omega, by rw [eC]; omega, by rw [eE, eT]; omega, by rw [eT, eF]; exact hall, by rw [eE, eT]; exact hin, by rw [eE]; exact hnd⟩)
  have sv6 := (sv4.keep0 kk)
  have a1 := sv6.addr1 rfl (k := .i64) (i := j) (by omega) (by omega)
  rw [Int.toNat_natCast] at a1
  have d1 := sv6.cell1 rfl hlt 0
  have g6 := kk.get g4 (by simp)
  have hst := take_succ_getD hlt 0
  have hmem : ends.getD j 0 ∈ ends := getD_mem' hlt
  have hcj := hes (ends.getD j 0)
  have hdup : ends.getD j 0 ∈ ends.take j → ¬ ends.Nodup := fun q r => by
    have := r.sublist (List.take_sublist (j + 1) ends)
    rw [hst, nodup_snoc] at this
    exact this.2 q
  generalize ends.getD j 0 = c at *
  by_cases b1 : c < 0
  · (try simp (maxSteps := 1000000) (disch := first | omega | (simp only [Z3]; omega) | (simp; done) | assumption | decide | (refine not_not_intro ?_; assumption)) only [Z1, Z2, splice, code_sound_l6, code_sound_k5, a1, d1, g6, decide_eq_true b1])
    exact hQ _ _ k06 (hne (fun q => by have := q.2.2.2.2.2.2.2.1 c (by rw [eE]; exact hmem); omega))
  by_cases b2 : c ≥ x.types.xs.length
  · (try simp (maxSteps := 1000000) (disch := first | omega | (simp only [Z3]; omega) | (simp; done) | assumption | decide | (refine not_not_intro ?_; assumption)) only [Z1, Z2, splice, code_sound_l6, code_sound_k5, a1, d1, g6, lt, decide_eq_false b1, decide_eq_true b2])
    exact hQ _ _ k06 (hne (fun q => by have := q.2.2.2.2.2.2.2.1 c (by rw [eE]; exact hmem); rw [eT] at this; omega))
  by_cases b3 : c ∈ ends.take j
  · rw [decide_eq_true b3] at hcj
    (try simp (maxSteps := 1000000) (disch := first | omega | (simp only [Z3]; omega) | (simp; done) | assumption | decide | (refine not_not_intro ?_; assumption)) only [Z1, Z2, splice, code_sound_l6, code_sound_k5, a1, d1, g6, lt, decide_eq_false b1, decide_eq_false b2, wp_lookupg, lkIBc, hg6, hcj])
    exact hQ _ _ k06 (hne (fun q => hdup b3 (by have := q.2.2.2.2.2.2.2.2; rwa [eE] at this)))
  rw [decide_eq_false b3] at hcj
  (try simp (maxSteps := 1000000) (disch := first | omega | (simp only [Z3]; omega) | (simp; done) | assumption | decide | (refine not_not_intro ?_; assumption)) only [Z1, Z2, splice, code_sound_l6, code_sound_k5, a1, d1, g6, lt, decide_eq_false b1, decide_eq_false b2, wp_lookupg, lkIBc, hg6, hcj, code_sound_k3, wp_mapSetg, stIBc, code_sound_k4])
  refine ⟨ends.length - (j + 1), by omega, j + 1, aset es c true, rfl, by omega, by push_cast; rfl, keeps_set kk (.inr (by omega)), Heap.get_set_eq (Heap.get_lt hg6), fun d => ?_, fun d hd => ?_, ?_⟩
  · rw [aget_aset, hst]
    by_cases hdc : d = c
    · subst hdc; simp
    · rw [if_neg hdc, hes]; simp [hdc]
  · rw [hst, List.mem_append] at hd
    rcases hd with hd | hd
    · exact hin d hd
    · simp only [List.mem_singleton] at hd; subst hd; omega
  · rw [hst, nodup_snoc]; exact ⟨hnd, b3⟩
end Go.AM.Cap
