import Derived.Test.YtjchglndancedaaGreatDoorCfS
import Derived.Test.YtjchglndancedaaGreatDoorAmOpenF
set_option linter.all false
/- conf: a line, lines -/
set_option maxHeartbeats 16000000
namespace Go.AM.Cap
open Go.AM Go.Proofs
variable {H0 H : Heap} {R : Nat} {v : RV} {st : RSt} {L : List Thing}
theorem zbff {c : BitVec 8} {s w : ByteArray} (h : w ∈ zdx c s) : w.size ≤ s.size := by
  obtain ⟨l, hl, rfl⟩ := List.mem_map.1 h
  rw [zbay, ← zet s]
  exact z0b c _ l hl
theorem z50 (c : BitVec 8) (s : ByteArray) : (zdx c s).length ≤ s.size + 1 := by
  rw [zdx, List.length_map, ← zet s]
  exact zyg c _
theorem zbdd (c : BitVec 8) (s : ByteArray) : 1 ≤ (zdx c s).length := by
  have := zbe9 c s
  cases h : zdx c s with
  | nil => exact absurd h this
  | cons a l => simp
theorem z9l : v.things R st L = v.things R st [] ++ L := by
  simp only [RV.things, List.append_nil, List.cons_append, List.append_assoc]
theorem Hp.look {α : Type} [Flat α] {w : V} {xs : List α} (h : Hp H0 H (own w xs :: L)) : Hp H0 H (view w xs :: L) :=
  ⟨h.keeps, fun t ht => by
    rcases List.mem_cons.1 ht with rfl | ht
    · exact h.new (own w xs) (by simp)
    · exact h.new t (by simp [ht]), fun t ht => by
    rcases List.mem_cons.1 ht with rfl | ht
    · exact (h.own (i := 0) rfl).sl
    · exact h.all t (by simp [ht]), by
    have := List.pairwise_cons.1 h.apart
    exact List.pairwise_cons.2 ⟨this.1, this.2⟩⟩
theorem ReadAt.view_in {w : V} {ws : List ByteArray} {H' : Heap} (h : ReadAt H0 H R v st L) (s : Hp H0 H' (own w ws :: v.things R st L)) : ReadAt H0 H' R v st (view w ws :: L) := by
  refine ⟨?_, h.uns, h.us⟩
  have s1 := Hp.look s
  rw [z9l] at s1 ⊢
  exact s1.perm List.perm_middle.symm
theorem zbr4 {G : List V → M V} {M : Nat} (hT : Tabs H0) (h : ReadAt H0 H R v st (z5z M :: L)) (hs : Sm st 1000000) (s : ByteArray) (hz : s.size ≤ 100000) (Q : V → Heap → Prop)
    (hok : ∀ st', zrz st s = .ok st' → ∀ v' H', ReadAt H0 H' R v' st' (z5z M :: L) → Q (i64 0) H') (hbad : ∀ e, zrz st s = .error e → e ≠ 0 → ∀ H', Hp H0 H' (z5z M :: L) → Q (i64 e) H') : wp (zhj zow G zej zwn [ptr R 0, .string s, .map (some M)]) Q H := by
  show wp (zhi zow G zej zwn (ptr R 0) (.string s) (.map (some M))) Q H
  by_cases c1 : s.size = 0
  · have e : zrz st s = .ok st := by rw [zrz, if_pos (.inl c1)]
    have e1 : decide (s = (⟨#[]⟩ : ByteArray)) = true := decide_eq_true (zbak c1)
    (try simp (maxSteps := 1000000) (disch := first | omega | (simp only [Z3]; omega) | (simp; done) | assumption | decide | (refine not_not_intro ?_; assumption)) only [Z1, Z2, splice, zhi, e1])
    exact hok _ e _ _ h
  have e1 : decide (s = (⟨#[]⟩ : ByteArray)) = false := decide_eq_false fun h => c1 (by rw [h]; rfl)
  have ix := zw0 (s := s) (k := .i64) (i := 0) (by omega) (by omega)
  have hhd : (bv s).getD (0 : Int).toNat 0 = (bv s).headD 0 := by cases bv s <;> rfl
  rw [hhd] at ix
  have e35 : (Value.int .u8 35 : V) = B 35#8 := rfl
  by_cases c2 : (bv s).headD 0 = 35#8
  · have e : zrz st s = .ok st := by rw [zrz, if_pos (.inr c2)]
    have e2 : decide ((((bv s).headD 0).toNat : Int) = ((35#8).toNat : Int)) = true := decide_eq_true (by rw [c2])
    (try simp (maxSteps := 1000000) (disch := first | omega | (simp only [Z3]; omega) | (simp; done) | assumption | decide | (refine not_not_intro ?_; assumption)) only [Z1, Z2, splice, zhi, e1, ix, e35, e2])
    exact hok _ e _ _ h
  have e2 : decide ((((bv s).headD 0).toNat : Int) = ((35#8).toNat : Int)) = false := decide_eq_false fun q => c2 (BitVec.eq_of_toNat_eq (by omega))
  have hline : zrz st s = match kwOf (wAt (zdx 32 s) 0) with
    | none => .error 3
    | some k => if hasW (zdx 32 s) zhl = true then .error 3 else match z72 st (zdx 32 s) k with
      | none => .error 3
      | some st' => if hasW st.once (wAt (zdx 32 s) 0) = true then .error 6 else .ok st' := by
    rw [zrz, if_neg (by rintro (q | q); exact c1 q; exact c2 q)]
    rfl
  have hwz : ∀ w ∈ zdx 32 s, w.size ≤ 1000000 := fun w hw => by have := zbff hw; omega
  have hwl := z50 32 s
  have hwp := zbdd 32 s
  generalize hws : zdx 32 s = ws at *
  (try simp (maxSteps := 1000000) (disch := first | omega | (simp only [Z3]; omega) | (simp; done) | assumption | decide | (refine not_not_intro ?_; assumption)) only [Z1, Z2, splice, zhi, e1, ix, e35, e2, ztz])
  refine zbjb (hT.ml.keep0 h.hp.keeps) h.hp s ⟨#[32]⟩ 32 (by decide) (by omega) _ fun w H1 k1 s1 => ?_
  rw [hws] at s1
  have r1 := h.view_in s1
  obtain ⟨a0, b0⟩ := wd0 r1.words (by omega)
  have gM : H1.get M = some (.map true (tabF.map zmj)) := r1.rest.all (z5z M) (by simp)
  have etab := lkSF true tabF (wAt ws 0)
  rw [zbr2] at etab
  cases hk : kwOf (wAt ws 0) with
  | none =>
    rw [hk] at hline etab
    have et : zw3 (some (.map true (tabF.map zmj))) (.one .s) .nilFunc false (.string (wAt ws 0)) = some .nilFunc := etab
    have en : zey false (zgb .f (.nilFunc : V)) = some (.bool true) := rfl
    (try simp (maxSteps := 1000000) (disch := first | omega | (simp only [Z3]; omega) | (simp; done) | assumption | decide | (refine not_not_intro ?_; assumption)) only [Z1, Z2, splice, a0, b0, zi7, gM, et, en])
    exact hbad 3 hline (by decide) _ r1.rest.tail
  | some k =>
    rw [hk] at hline etab
    have et : zw3 (some (.map true (tabF.map zmj))) (.one .s) .nilFunc false (.string (wAt ws 0)) = some (zpg k).val := etab
    have en : zey false (zgb .f (zpg k).val) = some (.bool false) := by cases k <;> rfl
    (try simp (maxSteps := 1000000) (disch := first | omega | (simp only [Z3]; omega) | (simp; done) | assumption | decide | (refine not_not_intro ?_; assumption)) only [Z1, Z2, splice, a0, b0, zi7, gM, et, en])
    refine z74 r1.words (by omega) _ _ ?_
    cases hn : hasW ws zhl with
    | true =>
      simp only [hn, if_true] at hline
      have hn' : hasW ws (⟨#[]⟩ : ByteArray) = true := hn
      (try simp (maxSteps := 1000000) (disch := first | omega | (simp only [Z3]; omega) | (simp; done) | assumption | decide | (refine not_not_intro ?_; assumption)) only [Z1, Z2, splice, hn'])
      exact hbad 3 hline (by decide) _ r1.rest.tail
    | false =>
      simp only [hn] at hline
      have g := r1.get
      have hone := r1.hp.own (i := 7) rfl
      unfold RV.cells at g
      have hn' : hasW ws (⟨#[]⟩ : ByteArray) = false := hn
      (try simp (maxSteps := 1000000) (disch := first | omega | (simp only [Z3]; omega) | (simp; done) | assumption | decide | (refine not_not_intro ?_; assumption)) only [Z1, Z2, splice, hn', zty, g, a0, b0])
      refine z74 hone.sl (by have := hs.once; omega) (wAt ws 0) _ ?_
      (try simp (maxSteps := 1000000) (disch := first | omega | (simp only [Z3]; omega) | (simp; done) | assumption | decide | (refine not_not_intro ?_; assumption)) only [Z1, Z2, splice, zbob])
      refine zbr3 hT r1 hs (by omega) (by omega) hwz k hk _ (fun st' hst v' H2 r2 => ?_) fun hst H2 s2 => ?_
      · rw [hst] at hline
        cases ho : hasW st.once (wAt ws 0) with
        | true =>
          simp only [ho, if_true] at hline
          (try simp (maxSteps := 1000000) (disch := first | omega | (simp only [Z3]; omega) | (simp; done) | assumption | decide | (refine not_not_intro ?_; assumption)) only [Z1, Z2, splice])
          exact hbad 6 hline (by decide) _ r2.rest.tail
        | false =>
          simp only [ho] at hline
          (try simp (maxSteps := 1000000) (disch := first | omega | (simp only [Z3]; omega) | (simp; done) | assumption | decide | (refine not_not_intro ?_; assumption)) only [Z1, Z2, splice, ztx])
          refine hok st' hline v' _ ⟨?_, r2.uns, r2.us⟩
          have := r2.hp
          rw [z9l] at this ⊢
          exact (this.perm List.perm_middle).tail
      · rw [hst] at hline
        (try simp (maxSteps := 1000000) (disch := first | omega | (simp only [Z3]; omega) | (simp; done) | assumption | decide | (refine not_not_intro ?_; assumption)) only [Z1, Z2, splice])
        exact hbad 3 hline (by decide) _ s2.tail
end Go.AM.Cap
