import Derived.Test.YtbnjeldcndpdoaaPnI
set_option linter.all false
/- points: apart, the plain law -/
set_option maxHeartbeats 4000000
namespace Go.AM.Cap
open Go.AM Go.Proofs

/-- what a commit leaves -/
theorem foldl_get {part : Int} (p : Nat) : ∀ {st : List ((Int × Int) × Int)} {vs : List Int}, (st.map (·.1)).Nodup → (∀ e ∈ st, 0 ≤ e.1.2) → p < vs.length →
    (st.foldl (upd1 part true) vs).getD p 0 = (aget st (part, (p : Int))).getD (vs.getD p 0)
  | [], vs, _, _, _ => rfl
  | ((a, b), n) :: st, vs, hn, hr, hp => by
    rw [List.map_cons, List.nodup_cons] at hn
    have hb := hr ((a, b), n) (by simp)
    simp only at hb
    rw [List.foldl_cons, foldl_get p hn.2 (fun e he => hr e (by simp [he])) (by rw [upd1_len]; exact hp)]
    simp only [aget]
    by_cases h : (part, (p : Int)) = (a, b)
    · cases h
      have hnone : aget st (part, (p : Int)) = none := aget_none fun e he q => hn.1 (by rw [← q]; exact List.mem_map.2 ⟨e, he, rfl⟩)
      rw [hnone, if_pos rfl]
      show (upd1 part true vs ((part, (p : Int)), n)).getD p 0 = n
      unfold upd1
      rw [if_pos ⟨rfl, rfl⟩]
      show (vs.set (p : Int).toNat n).getD p 0 = n
      rw [Int.toNat_natCast, List.getD_eq_getElem?_getD, List.getElem?_set_self hp]; rfl
    · rw [if_neg h]
      congr 1
      unfold upd1
      split
      · rename_i c
        simp only at c
        have : b.toNat ≠ p := fun q => h (by rw [c.1]; congr 1; omega)
        simp only
        rw [List.getD_eq_getElem?_getD, List.getElem?_set_ne this, ← List.getD_eq_getElem?_getD]
      · rfl

/-- two banks that are the same to one who looks -/
structure Like (who : Int) (seen : Int → Prop) (B C : Bk) : Prop where
  ls : C.ls = B.ls
  gr : C.gr = B.gr
  fo : C.fo = B.fo
  lenB : B.vs.length = B.ls.length
  lenC : C.vs.length = B.ls.length
  st : ∀ k : Int × Int, k.1 = who ∨ seen k.1 → aget C.st k = aget B.st k
  vs : ∀ p : Nat, (aget B.gr (who, (p : Int))).isSome = true → C.vs.getD p 0 = B.vs.getD p 0
  own : ∀ e ∈ B.st, aget B.gr e.1 = some true
  nodB : (B.st.map (·.1)).Nodup
  nodC : (C.st.map (·.1)).Nodup
  rb : ∀ e ∈ B.st, 0 ≤ e.1.2 ∧ e.1.2 < B.ls.length
  rc : ∀ e ∈ C.st, 0 ≤ e.1.2 ∧ e.1.2 < B.ls.length
  rg : ∀ e ∈ B.gr, 0 ≤ e.1.2 ∧ e.1.2 < B.ls.length

section
variable {who : Int} {seen : Int → Prop} {B C : Bk}
theorem gr_range (h : ∀ e ∈ B.gr, 0 ≤ e.1.2 ∧ e.1.2 < B.ls.length) {q p : Int} {w : Bool} (hg : aget B.gr (q, p) = some w) : 0 ≤ p ∧ p < B.ls.length := h _ (aget_mem hg)
/-- a call that is left out -/
theorem Like.skip (h : Like who seen B C) {a : QAct} (hk : 1 ≤ amg a.kind 7 ∧ amg a.kind 7 ≤ 4) (hw : a.part ≠ who) (hs : ¬ seen a.part)
    (hseen : ∀ (p : Nat), (aget B.gr (who, (p : Int))).isSome = true → aget B.gr (a.part, (p : Int)) ≠ some true) : Like who seen (doS B a).1 C := by
  have hne : ∀ k : Int × Int, (k.1 = who ∨ seen k.1) → k.1 ≠ a.part := fun k hk e => by
    rcases hk with q | q
    · exact hw (e.symm.trans q)
    · exact hs (e ▸ q)
  have filt : Like who seen { B with st := B.st.filter fun e => !decide (e.1.1 = a.part) } C := by
    refine ⟨h.ls, h.gr, h.fo, h.lenB, h.lenC, fun k hk => ?_, h.vs, fun e he => h.own e (List.mem_filter.1 he).1, h.nodB.sublist (List.filter_sublist.map _), h.nodC, fun e he => h.rb e (List.mem_filter.1 he).1, h.rc, h.rg⟩
    have := aget_filter (fun k : Int × Int => !decide (k.1 = a.part)) k B.st
    simp only at this ⊢
    rw [this, if_pos (by simp [hne k hk]), h.st k hk]
  unfold doS
  rw [if_neg (by omega)]
  by_cases c1 : amg a.kind 7 = 1
  · rw [if_pos c1]; exact h
  rw [if_neg c1]
  by_cases c2 : amg a.kind 7 = 2
  · rw [if_pos c2]
    unfold writeS
    split
    · exact h
    · rename_i g1
      split
      · exact h
      · rename_i g2
        split
        · exact h
        · have g1' : (grantS B a.part a.point).2 = 0 := Decidable.not_not.mp g1
          have hr := grant_range g1'
          have hown : aget B.gr (a.part, a.point) = some true := by
            unfold grantS at g1' g2
            split at g1'
            · cases g1'
            · rename_i hc
              rw [if_neg hc] at g2
              cases hq : aget B.gr (a.part, a.point) with
              | none => rw [hq] at g1'; cases g1'
              | some w => rw [hq] at g2; simp at g2; rw [g2]
          refine ⟨h.ls, h.gr, h.fo, h.lenB, h.lenC, fun k hk => ?_, h.vs, fun e he => ?_, aset_keys _ _ h.nodB, h.nodC, fun e he => ?_, h.rc, h.rg⟩
          · rw [h.st k hk]
            show _ = aget (aset B.st (a.part, a.point) a.n) k
            rw [aget_aset, if_neg (fun e => hne k hk (by rw [e]))]
          · rcases mem_aset he with rfl | he
            · exact hown
            · exact h.own e he
          · rcases mem_aset he with rfl | he
            · exact hr
            · exact h.rb e he
  rw [if_neg c2]
  by_cases c3 : amg a.kind 7 = 3
  · rw [if_pos c3]
    unfold endS
    split
    · exact h
    · have e : Like who seen { B with vs := B.st.foldl (upd1 a.part true) B.vs, st := B.st.filter fun e => !decide (e.1.1 = a.part) } C := by
        refine ⟨h.ls, h.gr, h.fo, by rw [foldl_upd_len]; exact h.lenB, h.lenC, filt.st, fun p hp => ?_, filt.own, filt.nodB, h.nodC, filt.rb, h.rc, h.rg⟩
        simp only at hp ⊢
        obtain ⟨w, hgw⟩ := Option.isSome_iff_exists.1 hp
        have hpr := gr_range h.rg hgw
        rw [foldl_get p h.nodB (fun e he => (h.rb e he).1) (by rw [h.lenB]; omega), h.vs p hp]
        cases hq : aget B.st (a.part, (p : Int)) with
        | none => rfl
        | some n => exact absurd (h.own _ (aget_mem hq)) (hseen p hp)
      exact e
  rw [if_neg c3, if_pos (by omega)]
  unfold endS
  split
  · exact h
  · rw [foldl_false]; exact filt

end
end Go.AM.Cap
