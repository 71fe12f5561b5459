import Derived.Test.YtbnjeldcndpdoaaPnI
set_option linter.all false
/- points: apart, the plain law -/
set_option maxHeartbeats 4000000
namespace Go.AM.Cap
open Go.AM Go.Proofs

/-! what the grants say -/
theorem grOf_some {k : Int × Int} {w : Bool} : ∀ {gs : List Gr} {es : List ((Int × Int) × Bool)}, aget (grOf es gs) k = some w → ((∃ g ∈ gs, (g.part, g.point) = k) ∨ (aget es k).isSome = true) ∧ (w = true → (∃ g ∈ gs, (g.part, g.point) = k ∧ g.write = true) ∨ aget es k = some true)
  | [], es, h => by
    rw [grOf] at h
    exact ⟨.inr (by rw [h]; rfl), fun hw => .inr (by rw [h, hw])⟩
  | g :: gs, es, h => by
    rw [grOf] at h
    obtain ⟨h1, h2⟩ := grOf_some h
    refine ⟨?_, fun hw => ?_⟩
    · rcases h1 with ⟨x, hx, he⟩ | h1
      · exact .inl ⟨x, by simp [hx], he⟩
      · rw [aget_aset] at h1
        split at h1
        · rename_i e; exact .inl ⟨g, by simp, e.symm⟩
        · exact .inr h1
    · rcases h2 hw with ⟨x, hx, he⟩ | h2
      · exact .inl ⟨x, by simp [hx], he⟩
      · rw [aget_aset] at h2
        split at h2
        · rename_i e
          simp only [Option.some.injEq, Bool.or_eq_true] at h2
          rcases h2 with h2 | h2
          · right
            rw [e]
            cases hq : aget es (g.part, g.point) with
            | none => rw [hq] at h2; cases h2
            | some b => rw [hq] at h2; simp at h2; rw [h2]
          · exact .inl ⟨g, by simp, e.symm, h2⟩
        · exact .inr h2

/-- what a commit leaves -/
theorem foldl_get {part : Int} (p : Nat) : ∀ {st : List ((Int × Int) × Int)} {vs : List Int}, (st.map (·.1)).Nodup → (∀ e ∈ st, 0 ≤ e.1.2) → p < vs.length →
    (st.foldl (upd1 part true) vs).getD p 0 = (aget st (part, (p : Int))).getD (vs.getD p 0)
  | [], vs, _, _, _ => rfl
  | ((a, b), n) :: st, vs, hn, hr, hp => by
    rw [List.map_cons, List.nodup_cons] at hn
    have hb := hr ((a, b), n) (by simp)
    simp only at hb
    rw [List.foldl_cons, foldl_get p hn.2 (fun e he => hr e (by simp [he])) (by rw [upd1_len]; exact hp)]
    simp only [aget]
    by_cases h : (part, (p : Int)) = (a, b)
    · cases h
      have hnone : aget st (part, (p : Int)) = none := aget_none fun e he q => hn.1 (by rw [← q]; exact List.mem_map.2 ⟨e, he, rfl⟩)
      rw [hnone, if_pos rfl]
      show (upd1 part true vs ((part, (p : Int)), n)).getD p 0 = n
      unfold upd1
      rw [if_pos ⟨rfl, rfl⟩]
      show (vs.set (p : Int).toNat n).getD p 0 = n
      rw [Int.toNat_natCast, List.getD_eq_getElem?_getD, List.getElem?_set_self hp]; rfl
    · rw [if_neg h]
      congr 1
      unfold upd1
      split
      · rename_i c
        simp only at c
        have : b.toNat ≠ p := fun q => h (by rw [c.1]; congr 1; omega)
        simp only
        rw [List.getD_eq_getElem?_getD, List.getElem?_set_ne this, ← List.getD_eq_getElem?_getD]
      · rfl

/-- two banks that are the same to one who looks -/
structure Like (who : Int) (seen : Int → Prop) (B C : Bk) : Prop where
  ls : C.ls = B.ls
  gr : C.gr = B.gr
  fo : C.fo = B.fo
  lenB : B.vs.length = B.ls.length
  lenC : C.vs.length = B.ls.length
  st : ∀ k : Int × Int, k.1 = who ∨ seen k.1 → aget C.st k = aget B.st k
  vs : ∀ p : Nat, (aget B.gr (who, (p : Int))).isSome = true → C.vs.getD p 0 = B.vs.getD p 0
  own : ∀ e ∈ B.st, aget B.gr e.1 = some true
  nodB : (B.st.map (·.1)).Nodup
  nodC : (C.st.map (·.1)).Nodup
  rb : ∀ e ∈ B.st, 0 ≤ e.1.2 ∧ e.1.2 < B.ls.length
  rc : ∀ e ∈ C.st, 0 ≤ e.1.2 ∧ e.1.2 < B.ls.length
  rg : ∀ e ∈ B.gr, 0 ≤ e.1.2 ∧ e.1.2 < B.ls.length

section
variable {who : Int} {seen : Int → Prop} {B C : Bk}
theorem gr_range (h : ∀ e ∈ B.gr, 0 ≤ e.1.2 ∧ e.1.2 < B.ls.length) {q p : Int} {w : Bool} (hg : aget B.gr (q, p) = some w) : 0 ≤ p ∧ p < B.ls.length := h _ (aget_mem hg)
/-- a call that is left out -/
theorem Like.skip (h : Like who seen B C) {a : QAct} (hk : 1 ≤ amg a.kind 7 ∧ amg a.kind 7 ≤ 4) (hw : a.part ≠ who) (hs : ¬ seen a.part)
    (hseen : ∀ (p : Nat), (aget B.gr (who, (p : Int))).isSome = true → aget B.gr (a.part, (p : Int)) ≠ some true) : Like who seen (doS B a).1 C := by
  have hne : ∀ k : Int × Int, (k.1 = who ∨ seen k.1) → k.1 ≠ a.part := fun k hk e => by
    rcases hk with q | q
    · exact hw (e.symm.trans q)
    · exact hs (e ▸ q)
  have filt : Like who seen { B with st := B.st.filter fun e => !decide (e.1.1 = a.part) } C := by
    refine ⟨h.ls, h.gr, h.fo, h.lenB, h.lenC, fun k hk => ?_, h.vs, fun e he => h.own e (List.mem_filter.1 he).1, h.nodB.sublist (List.filter_sublist.map _), h.nodC, fun e he => h.rb e (List.mem_filter.1 he).1, h.rc, h.rg⟩
    have := aget_filter (fun k : Int × Int => !decide (k.1 = a.part)) k B.st
    simp only at this ⊢
    rw [this, if_pos (by simp [hne k hk]), h.st k hk]
  unfold doS
  rw [if_neg (by omega)]
  by_cases c1 : amg a.kind 7 = 1
  · rw [if_pos c1]; exact h
  rw [if_neg c1]
  by_cases c2 : amg a.kind 7 = 2
  · rw [if_pos c2]
    unfold writeS
    split
    · exact h
    · rename_i g1
      split
      · exact h
      · rename_i g2
        split
        · exact h
        · have g1' : (grantS B a.part a.point).2 = 0 := Decidable.not_not.mp g1
          have hr := grant_range g1'
          have hown : aget B.gr (a.part, a.point) = some true := by
            unfold grantS at g1' g2
            split at g1'
            · cases g1'
            · rename_i hc
              rw [if_neg hc] at g2
              cases hq : aget B.gr (a.part, a.point) with
              | none => rw [hq] at g1'; cases g1'
              | some w => rw [hq] at g2; simp at g2; rw [g2]
          refine ⟨h.ls, h.gr, h.fo, h.lenB, h.lenC, fun k hk => ?_, h.vs, fun e he => ?_, aset_keys _ _ h.nodB, h.nodC, fun e he => ?_, h.rc, h.rg⟩
          · rw [h.st k hk]
            show _ = aget (aset B.st (a.part, a.point) a.n) k
            rw [aget_aset, if_neg (fun e => hne k hk (by rw [e]))]
          · rcases mem_aset he with rfl | he
            · exact hown
            · exact h.own e he
          · rcases mem_aset he with rfl | he
            · exact hr
            · exact h.rb e he
  rw [if_neg c2]
  by_cases c3 : amg a.kind 7 = 3
  · rw [if_pos c3]
    unfold endS
    split
    · exact h
    · have e : Like who seen { B with vs := B.st.foldl (upd1 a.part true) B.vs, st := B.st.filter fun e => !decide (e.1.1 = a.part) } C := by
        refine ⟨h.ls, h.gr, h.fo, by rw [foldl_upd_len]; exact h.lenB, h.lenC, filt.st, fun p hp => ?_, filt.own, filt.nodB, h.nodC, filt.rb, h.rc, h.rg⟩
        simp only at hp ⊢
        obtain ⟨w, hgw⟩ := Option.isSome_iff_exists.1 hp
        have hpr := gr_range h.rg hgw
        rw [foldl_get p h.nodB (fun e he => (h.rb e he).1) (by rw [h.lenB]; omega), h.vs p hp]
        cases hq : aget B.st (a.part, (p : Int)) with
        | none => rfl
        | some n => exact absurd (h.own _ (aget_mem hq)) (hseen p hp)
      exact e
  rw [if_neg c3, if_pos (by omega)]
  unfold endS
  split
  · exact h
  · rw [foldl_false]; exact filt

theorem grantS_like (h : Like who seen B C) (part point : Int) : grantS C part point = grantS B part point := by unfold grantS; rw [h.ls, h.gr]
theorem fitsB_like (h : Like who seen B C) (point n : Int) : fitsB C.ls point n ↔ fitsB B.ls point n := by rw [h.ls]
theorem setAll_like (p : Nat) : ∀ (is : List Nat) (ns vs ws : List Int), vs.length = ws.length → ws.getD p 0 = vs.getD p 0 → (setAll ws is ns).getD p 0 = (setAll vs is ns).getD p 0
  | [], _, vs, ws, _, h => by simpa [setAll] using h
  | _ :: _, [], vs, ws, _, h => by simpa [setAll] using h
  | i :: is, n :: ns, vs, ws, hl, h => by
    rw [setAll, setAll]
    refine setAll_like p is ns _ _ (by simp [hl]) ?_
    by_cases e : i = p
    · subst e
      by_cases hi : i < vs.length
      · rw [List.getD_eq_getElem?_getD, List.getD_eq_getElem?_getD, List.getElem?_set_self (by omega), List.getElem?_set_self hi]
      · rw [List.getD_eq_getElem?_getD, List.getD_eq_getElem?_getD, List.getElem?_eq_none (by simp; omega), List.getElem?_eq_none (by simp; omega)]
    · rw [List.getD_eq_getElem?_getD, List.getD_eq_getElem?_getD, List.getElem?_set_ne e, List.getElem?_set_ne e, ← List.getD_eq_getElem?_getD, ← List.getD_eq_getElem?_getD, h]

/-- a call of both -/
theorem Like.both (h : Like who seen B C) {a : QAct} (hk : (1 ≤ amg a.kind 7 ∧ amg a.kind 7 ≤ 4) → 0 ≤ a.part ∧ a.part < 8 → a.part = who ∨ seen a.part) : Like who seen (doS B a).1 (doS C a).1 ∧ (a.part = who → (doS C a).2 = (doS B a).2) := by
  obtain ⟨cl, cg, cv, cf, cs⟩ := C
  have e1 := h.ls
  have e2 := h.gr
  have e3 := h.fo
  simp only at e1 e2 e3
  subst e1; subst e2; subst e3
  unfold doS
  by_cases c0 : amg a.kind 7 = 0
  · rw [if_pos c0, if_pos c0]
    unfold latchS
    simp only
    by_cases hlen : (ofN B.ls false).length ≠ a.vv.xs.length
    · rw [if_pos hlen, if_pos hlen]; exact ⟨h, fun _ => rfl⟩
    rw [if_neg hlen, if_neg hlen]
    by_cases hq : latchOK B a.vv.xs
    · have hq' : latchOK ⟨B.ls, B.gr, cv, B.fo, cs⟩ a.vv.xs := hq
      rw [if_neg (fun r => r hq), if_neg (fun r => r hq')]
      refine ⟨⟨rfl, rfl, rfl, by rw [setAll_len]; exact h.lenB, by rw [setAll_len]; exact h.lenC, h.st, fun p hp => ?_, h.own, h.nodB, h.nodC, h.rb, h.rc, h.rg⟩, fun _ => rfl⟩
      exact setAll_like p _ _ _ _ (by have := h.lenB; have := h.lenC; simp only at this; omega) (h.vs p hp)
    · have hq' : ¬ latchOK ⟨B.ls, B.gr, cv, B.fo, cs⟩ a.vv.xs := hq
      rw [if_pos hq, if_pos hq']
      exact ⟨h, fun _ => rfl⟩
  rw [if_neg c0, if_neg c0]
  by_cases c1 : amg a.kind 7 = 1
  · rw [if_pos c1, if_pos c1]
    refine ⟨h, fun e => ?_⟩
    show readS ⟨B.ls, B.gr, cv, B.fo, cs⟩ a.part a.point = readS B a.part a.point
    unfold readS
    rw [grantS_like h]
    split
    · rfl
    · rename_i g1
      have g1' : (grantS B a.part a.point).2 = 0 := Decidable.not_not.mp g1
      have hr := grant_range g1'
      have hsome : (aget B.gr (who, a.point)).isSome = true := by
        unfold grantS at g1'
        split at g1'
        · cases g1'
        · rw [e] at g1'
          cases hq : aget B.gr (who, a.point) with
          | none => rw [hq] at g1'; cases g1'
          | some w => rfl
      obtain ⟨p, hp⟩ : ∃ p : Nat, a.point = p := ⟨a.point.toNat, by omega⟩
      unfold valueS
      rw [hp, Int.toNat_natCast]; have := h.vs p (by rw [← hp]; exact hsome); simp only at this; rw [this]
  rw [if_neg c1, if_neg c1]
  by_cases c2 : amg a.kind 7 = 2
  · rw [if_pos c2, if_pos c2]
    unfold writeS
    rw [grantS_like h]
    split
    · exact ⟨h, fun _ => rfl⟩
    · rename_i g1
      split
      · exact ⟨h, fun _ => rfl⟩
      · rename_i g2
        split
        · exact ⟨h, fun _ => rfl⟩
        · have g1' : (grantS B a.part a.point).2 = 0 := Decidable.not_not.mp g1
          have hr := grant_range g1'
          have hown : aget B.gr (a.part, a.point) = some true := by
            unfold grantS at g1' g2
            split at g1'
            · cases g1'
            · rename_i hc
              rw [if_neg hc] at g2
              cases hq : aget B.gr (a.part, a.point) with
              | none => rw [hq] at g1'; cases g1'
              | some w => rw [hq] at g2; simp at g2; rw [g2]
          refine ⟨⟨h.ls, h.gr, h.fo, h.lenB, h.lenC, fun k hk => ?_, h.vs, fun e he => ?_, aset_keys _ _ h.nodB, aset_keys _ _ h.nodC, fun e he => ?_, fun e he => ?_, h.rg⟩, fun _ => rfl⟩
          · show aget (aset cs (a.part, a.point) a.n) k = aget (aset B.st (a.part, a.point) a.n) k
            rw [aget_aset, aget_aset, h.st k hk]
          · rcases mem_aset he with rfl | he
            · exact hown
            · exact h.own e he
          · rcases mem_aset he with rfl | he
            · exact hr
            · exact h.rb e he
          · rcases mem_aset he with rfl | he
            · exact hr
            · exact h.rc e he
  rw [if_neg c2, if_neg c2]
  have filt : Like who seen { B with st := B.st.filter fun e => !decide (e.1.1 = a.part) } ⟨B.ls, B.gr, cv, B.fo, cs.filter fun e => !decide (e.1.1 = a.part)⟩ := by
    refine ⟨h.ls, h.gr, h.fo, h.lenB, h.lenC, fun k hk => ?_, h.vs, fun e he => h.own e (List.mem_filter.1 he).1, h.nodB.sublist (List.filter_sublist.map _), h.nodC.sublist (List.filter_sublist.map _), fun e he => h.rb e (List.mem_filter.1 he).1, fun e he => h.rc e (List.mem_filter.1 he).1, h.rg⟩
    have e1 := aget_filter (fun k : Int × Int => !decide (k.1 = a.part)) k B.st
    have e2 := aget_filter (fun k : Int × Int => !decide (k.1 = a.part)) k cs
    simp only at e1 e2 ⊢
    rw [e1, e2, h.st k hk]
  by_cases c3 : amg a.kind 7 = 3
  · rw [if_pos c3, if_pos c3]
    unfold endS
    split
    · exact ⟨h, fun _ => rfl⟩
    · rename_i hc
      have hc' : 0 ≤ a.part ∧ a.part < 8 := Decidable.not_not.mp hc
      have hws := hk (by omega) hc'
      refine ⟨⟨h.ls, h.gr, h.fo, by rw [foldl_upd_len]; exact h.lenB, by rw [foldl_upd_len]; exact h.lenC, filt.st, fun p hp => ?_, filt.own, filt.nodB, filt.nodC, filt.rb, filt.rc, h.rg⟩, fun _ => rfl⟩
      simp only at hp ⊢
      obtain ⟨w, hgw⟩ := Option.isSome_iff_exists.1 hp
      have hpr := gr_range h.rg hgw
      rw [foldl_get p h.nodB (fun e he => (h.rb e he).1) (by rw [h.lenB]; omega), foldl_get p h.nodC (fun e he => (h.rc e he).1) (by rw [h.lenC]; omega), h.vs p hp, h.st (a.part, (p : Int)) hws]
  rw [if_neg c3, if_neg c3]
  by_cases c4 : amg a.kind 7 = 4
  · rw [if_pos c4, if_pos c4]
    unfold endS
    split
    · exact ⟨h, fun _ => rfl⟩
    · rw [foldl_false, foldl_false]; exact ⟨filt, fun _ => rfl⟩
  rw [if_neg c4, if_neg c4]
  by_cases c5 : amg a.kind 7 = 5
  · rw [if_pos c5, if_pos c5]
    unfold forceS
    split
    · exact ⟨h, fun _ => rfl⟩
    · exact ⟨⟨h.ls, h.gr, rfl, h.lenB, h.lenC, h.st, h.vs, h.own, h.nodB, h.nodC, h.rb, h.rc, h.rg⟩, fun _ => rfl⟩
  · rw [if_neg c5, if_neg c5]
    unfold freeS
    split
    · exact ⟨h, fun _ => rfl⟩
    · exact ⟨⟨h.ls, h.gr, rfl, h.lenB, h.lenC, h.st, h.vs, h.own, h.nodB, h.nodC, h.rb, h.rc, h.rg⟩, fun _ => rfl⟩
end
end Go.AM.Cap

/- points: the law PointsApart -/
set_option maxHeartbeats 8000000
namespace Go.AM.Cap
open Go.AM Go.Proofs

theorem sl_get {α : Type} [Flat α] [Inhabited α] {H : Heap} {v : V} {l : List α} (h : Sl H v l) {n : Nat} (hs : Flat.size α = n) {i : Nat} (hi : i < l.length) : iaddrS n v (i64 i) = some (ptr (slB v) (slO v + i * n)) ∧ (∀ {Q : V → Heap → Prop}, wp (ldn n (ptr (slB v) (slO v + i * n))) Q H ↔ Q (.agg (Flat.enc (l.getD i default)).toArray) H) := by
  have q := h.addr' hs (k := .i64) (i := i) (by omega) (by omega)
  rw [Int.toNat_natCast] at q
  exact ⟨q, fun {Q} => h.ldn' hs hi default⟩
/-- the others are marked: inner loop -/
theorem mark_in {H : Heap} {sb gb : Nat} {gv : V} {gs : List Gr} {sn : List Bool} {a0 a2 a3 a4 a7 a8 a9 : V} {who : Int} {g : Gr} (hg : Sl H gv gs) (hr : ∀ h ∈ gs, 0 ≤ h.part ∧ h.part < 8) (hn : gs.length ≤ 1000) (hs : H.get sb = some (.cells true (encs sn))) (hsl : sn.length = 8) (hgb : H.get gb = some (.cells true [i64 g.part, i64 g.point, .bool g.write])) (hne : gb ≠ sb) (hgs : ∀ b ∈ vb gv, b ≠ sb) (Q : Out → Heap → Prop)
    (hQ : ∀ H' sn', H'.get sb = some (.cells true (encs sn')) → sn'.length = 8 → Keeps [sb] H H' → (∀ q : Nat, sn.getD q false = true → sn'.getD q false = true) → (∀ h ∈ gs, g.part = who → h.point = g.point → h.write = true → sn'.getD h.part.toNat false = true) → Q (.brk 2 [a0, i64 who, a2, a3, a4, slc sb 0 1 8 8, a7, a8, a9]) H') :
    wp (loopM FUEL (law19_PointsApart_l2 GD) [a0, i64 who, a2, a3, a4, slc sb 0 1 8 8, ptr gb 0, a7, a8, a9, gv, i64 gs.length, i64 0]) Q H := by
  refine wp_loop (Inv := fun k vs H' => ∃ (i : Nat) (sn' : List Bool), k = gs.length - i ∧ i ≤ gs.length ∧ vs = [a0, i64 who, a2, a3, a4, slc sb 0 1 8 8, ptr gb 0, a7, a8, a9, gv, i64 gs.length, i64 i] ∧ H'.get sb = some (.cells true (encs sn')) ∧ sn'.length = 8 ∧ Keeps [sb] H H' ∧ (∀ q : Nat, sn.getD q false = true → sn'.getD q false = true) ∧ (∀ h ∈ gs.take i, g.part = who → h.point = g.point → h.write = true → sn'.getD h.part.toNat false = true)) (n := gs.length) (by unfold FUEL; omega)
    ⟨0, sn, by omega, by omega, rfl, hs, hsl, Keeps.refl _ _, fun _ h => h, by simp⟩ ?_
  rintro k vs H' ⟨i, sn', hk, hi, rfl, hs', hsl', kk, hmono, hmark⟩
  have hg' := hg.keep kk (fun b hb => by simpa using hgs b hb)
  have hgb' := kk.get hgb (by simpa using hne)
  by_cases hlt : i < gs.length
  · have hmem : gs.getD i default ∈ gs := by rw [List.getD_eq_getElem?_getD, List.getElem?_eq_getElem hlt]; exact List.getElem_mem _
    have hri := hr _ hmem
    have htk : gs.take (i + 1) = gs.take i ++ [gs.getD i default] := by rw [List.take_succ, List.getD_eq_getElem?_getD, List.getElem?_eq_getElem hlt]; rfl
    obtain ⟨q1, q2⟩ := sl_get hg' (n := 3) rfl hlt
    generalize hgg : gs.getD i default = h at *
    obtain ⟨pa, po, w⟩ := h
    simp only at hri
    have l1 := Heap.get_lt hs'
    have l2 := Heap.get_lt hgb'
    have go : ∀ sn2 : List Bool, sn2.length = 8 → (∀ q : Nat, sn'.getD q false = true → sn2.getD q false = true) → (g.part = who → po = g.point → w = true → sn2.getD pa.toNat false = true) → ∀ {H2 : Heap}, H2.get sb = some (.cells true (encs sn2)) → Keeps [sb] H' H2 → ∀ R : Out → Heap → Prop, (∀ vs' H6, (∃ k', k' < k ∧ ∃ (i : Nat) (sn' : List Bool), k' = gs.length - i ∧ i ≤ gs.length ∧ vs' = [a0, i64 who, a2, a3, a4, slc sb 0 1 8 8, ptr gb 0, a7, a8, a9, gv, i64 gs.length, i64 i] ∧ H6.get sb = some (.cells true (encs sn')) ∧ sn'.length = 8 ∧ Keeps [sb] H H6 ∧ (∀ q : Nat, sn.getD q false = true → sn'.getD q false = true) ∧ (∀ h ∈ gs.take i, g.part = who → h.point = g.point → h.write = true → sn'.getD h.part.toNat false = true)) → R (.nxt vs') H6) →
        wp (law19_PointsApart_k0 GD [a0, i64 who, a2, a3, a4, slc sb 0 1 8 8, ptr gb 0, a7, a8, a9, gv, i64 gs.length, i64 i]) R H2 := by
      intro sn2 h1 h2 h3 H2 h4 h5 R hR
      (try simp (maxSteps := 1000000) (disch := first | omega | (simp only [Heap.next_push', Heap.next_set']; omega) | (simp; done) | assumption | decide | (refine not_not_intro ?_; assumption)) only [at_zero, at_succ, wp_bnd, wp_lift, wpO_some, wp_ret, nx_nxt, nx_brk, nx_ret, unblk_nxt, unblk_ret, unblk_brk, finM_nxt, finM_ret, outV_one, condM_t, condM_f, condM_dt, condM_df, gd_t, gd_f, gdf_t, gdf_f, gd_skip, gd_dt, gd_df, gdf_dt, gdf_df, pick_t, pick_f, pick_dt, pick_df, not_t, not_f, not_dec, isNil_ptr, isNil_ptr', isNil_pnil, isNil_pnil', nilck_ptr, faddr_ptr, Nat.zero_add, Nat.add_zero, wp_ld1, lenStr_str, lenSlc_slice, strV_str, i64_add, i64_sub, i64_mul, i64_in, int_eqd, int_ned, int_lss, int_leq, int_gtr, int_geq, str_eqd, str_ned, if_true, wp_bndH, wp_withH, wp_need, enc_int, enc_str, enc_byte, enc_bool, List.getElem?_cons_zero, List.getElem?_cons_succ, cellP_get, cellG_cells, wp_st1g, stG_c, eq_self, true_and, wp_stng, stnG_ok, wp_ldng, ldG_ok, wp_newcg, wp_boxg, Heap.get_push_eq, Heap.get_push_lt, Heap.get_set_eq, Heap.get_set_ne', Heap.next_push', Heap.next_set', Heap.set_push_lt, Heap.set_push_eq, Heap.set_set, fld1_agg, fldn_agg, ext_tuple, outV_nil, outV_two, outV_three, outV_four, chk_ld1g, chkO_int, chkO_bool, chkO_str, chkO_ptr, chkO_slc, chkO_map, List.set_cons_zero, List.set_cons_succ, List.length_cons, List.length_nil, List.drop_succ_cons, List.drop_zero, List.take_succ_cons, List.take_zero, List.nil_append, List.cons_append, splice, isOne_int, isOne_str, isOne_bool, isOne_slice, isOne_pointer, isOne_map, condM_nf, condM_nef, gd_nef, gdf_nef, pick_nef, build_eq, fillA_nil, fillA_one, fillA_agg, Option.map_some, resv_one, resv_two, freeIn_nil, fillA_slc, fillA_int, fillA_str, fillA_bool, fillA_ptr, fillA_map, law19_PointsApart_k0])
      refine hR _ _ ⟨gs.length - (i + 1), by omega, i + 1, sn2, rfl, by omega, rfl, h4, h1, kk.trans h5 (fun _ _ h => h), fun q hq => h2 q (hmono q hq), fun x hx => ?_⟩
      rw [htk] at hx
      rcases List.mem_append.1 hx with hx | hx
      · exact fun c1 c2 c3 => h2 _ (hmark x hx c1 c2 c3)
      · simp only [List.mem_singleton] at hx; subst hx
        exact h3
    by_cases c1 : g.part = who
    · by_cases c2 : po = g.point
      · cases w with
        | true =>
          have hset : (encs sn').set pa.toNat (.bool true) = encs (sn'.set pa.toNat true) := by
            have := encs_set sn' pa.toNat 0 (.bool true) true false (by omega) (by decide) rfl
            rw [show Flat.size Bool = 1 from rfl, Nat.mul_one, Nat.add_zero] at this
            exact this
          have hel := encs_length sn'
          rw [show Flat.size Bool = 1 from rfl, Nat.mul_one] at hel
          (try simp (maxSteps := 1000000) (disch := first | omega | (simp only [Heap.next_push', Heap.next_set']; omega) | (simp; done) | assumption | decide | (refine not_not_intro ?_; assumption)) only [at_zero, at_succ, wp_bnd, wp_lift, wpO_some, wp_ret, nx_nxt, nx_brk, nx_ret, unblk_nxt, unblk_ret, unblk_brk, finM_nxt, finM_ret, outV_one, condM_t, condM_f, condM_dt, condM_df, gd_t, gd_f, gdf_t, gdf_f, gd_skip, gd_dt, gd_df, gdf_dt, gdf_df, pick_t, pick_f, pick_dt, pick_df, not_t, not_f, not_dec, isNil_ptr, isNil_ptr', isNil_pnil, isNil_pnil', nilck_ptr, faddr_ptr, Nat.zero_add, Nat.add_zero, wp_ld1, lenStr_str, lenSlc_slice, strV_str, i64_add, i64_sub, i64_mul, i64_in, int_eqd, int_ned, int_lss, int_leq, int_gtr, int_geq, str_eqd, str_ned, if_true, wp_bndH, wp_withH, wp_need, enc_int, enc_str, enc_byte, enc_bool, List.getElem?_cons_zero, List.getElem?_cons_succ, cellP_get, cellG_cells, wp_st1g, stG_c, eq_self, true_and, wp_stng, stnG_ok, wp_ldng, ldG_ok, wp_newcg, wp_boxg, Heap.get_push_eq, Heap.get_push_lt, Heap.get_set_eq, Heap.get_set_ne', Heap.next_push', Heap.next_set', Heap.set_push_lt, Heap.set_push_eq, Heap.set_set, fld1_agg, fldn_agg, ext_tuple, outV_nil, outV_two, outV_three, outV_four, chk_ld1g, chkO_int, chkO_bool, chkO_str, chkO_ptr, chkO_slc, chkO_map, List.set_cons_zero, List.set_cons_succ, List.length_cons, List.length_nil, List.drop_succ_cons, List.drop_zero, List.take_succ_cons, List.take_zero, List.nil_append, List.cons_append, splice, isOne_int, isOne_str, isOne_bool, isOne_slice, isOne_pointer, isOne_map, condM_nf, condM_nef, gd_nef, gdf_nef, pick_nef, build_eq, fillA_nil, fillA_one, fillA_agg, Option.map_some, resv_one, resv_two, freeIn_nil, fillA_slc, fillA_int, fillA_str, fillA_bool, fillA_ptr, fillA_map, law19_PointsApart_l2, law19_PointsApart_k1, q1, q2, enc_gr, hgg, hgb', iaddrS_slc, Nat.mul_one, hs', hset])
          refine go (sn'.set pa.toNat true) (by simpa using hsl') (fun q hq => ?_) (fun _ _ _ => ?_) ?_ ?_ _ (fun _ _ h => h)
          · by_cases e : pa.toNat = q
            · subst e; rw [List.getD_eq_getElem?_getD, List.getElem?_set_self (by omega)]; rfl
            · rw [List.getD_eq_getElem?_getD, List.getElem?_set_ne e, ← List.getD_eq_getElem?_getD]; exact hq
          · rw [List.getD_eq_getElem?_getD, List.getElem?_set_self (by omega)]; rfl
          · first | exact Heap.get_set_self l1 | (rw [Heap.get_push_lt (by simp; omega)]; exact Heap.get_set_self l1)
          · first | exact keeps_set (Keeps.refl _ _) (.inl (by simp)) | exact keeps_push (keeps_set (Keeps.refl _ _) (.inl (by simp)))
        | false =>
          (try simp (maxSteps := 1000000) (disch := first | omega | (simp only [Heap.next_push', Heap.next_set']; omega) | (simp; done) | assumption | decide | (refine not_not_intro ?_; assumption)) only [at_zero, at_succ, wp_bnd, wp_lift, wpO_some, wp_ret, nx_nxt, nx_brk, nx_ret, unblk_nxt, unblk_ret, unblk_brk, finM_nxt, finM_ret, outV_one, condM_t, condM_f, condM_dt, condM_df, gd_t, gd_f, gdf_t, gdf_f, gd_skip, gd_dt, gd_df, gdf_dt, gdf_df, pick_t, pick_f, pick_dt, pick_df, not_t, not_f, not_dec, isNil_ptr, isNil_ptr', isNil_pnil, isNil_pnil', nilck_ptr, faddr_ptr, Nat.zero_add, Nat.add_zero, wp_ld1, lenStr_str, lenSlc_slice, strV_str, i64_add, i64_sub, i64_mul, i64_in, int_eqd, int_ned, int_lss, int_leq, int_gtr, int_geq, str_eqd, str_ned, if_true, wp_bndH, wp_withH, wp_need, enc_int, enc_str, enc_byte, enc_bool, List.getElem?_cons_zero, List.getElem?_cons_succ, cellP_get, cellG_cells, wp_st1g, stG_c, eq_self, true_and, wp_stng, stnG_ok, wp_ldng, ldG_ok, wp_newcg, wp_boxg, Heap.get_push_eq, Heap.get_push_lt, Heap.get_set_eq, Heap.get_set_ne', Heap.next_push', Heap.next_set', Heap.set_push_lt, Heap.set_push_eq, Heap.set_set, fld1_agg, fldn_agg, ext_tuple, outV_nil, outV_two, outV_three, outV_four, chk_ld1g, chkO_int, chkO_bool, chkO_str, chkO_ptr, chkO_slc, chkO_map, List.set_cons_zero, List.set_cons_succ, List.length_cons, List.length_nil, List.drop_succ_cons, List.drop_zero, List.take_succ_cons, List.take_zero, List.nil_append, List.cons_append, splice, isOne_int, isOne_str, isOne_bool, isOne_slice, isOne_pointer, isOne_map, condM_nf, condM_nef, gd_nef, gdf_nef, pick_nef, build_eq, fillA_nil, fillA_one, fillA_agg, Option.map_some, resv_one, resv_two, freeIn_nil, fillA_slc, fillA_int, fillA_str, fillA_bool, fillA_ptr, fillA_map, law19_PointsApart_l2, law19_PointsApart_k1, q1, q2, enc_gr, hgg, hgb'])
          exact go sn' hsl' (fun _ h => h) (fun _ _ h => by cases h) (by rw [Heap.get_push_lt l1]; exact hs') (keeps_push (Keeps.refl _ _)) _ (fun _ _ h => h)
      · (try simp (maxSteps := 1000000) (disch := first | omega | (simp only [Heap.next_push', Heap.next_set']; omega) | (simp; done) | assumption | decide | (refine not_not_intro ?_; assumption)) only [at_zero, at_succ, wp_bnd, wp_lift, wpO_some, wp_ret, nx_nxt, nx_brk, nx_ret, unblk_nxt, unblk_ret, unblk_brk, finM_nxt, finM_ret, outV_one, condM_t, condM_f, condM_dt, condM_df, gd_t, gd_f, gdf_t, gdf_f, gd_skip, gd_dt, gd_df, gdf_dt, gdf_df, pick_t, pick_f, pick_dt, pick_df, not_t, not_f, not_dec, isNil_ptr, isNil_ptr', isNil_pnil, isNil_pnil', nilck_ptr, faddr_ptr, Nat.zero_add, Nat.add_zero, wp_ld1, lenStr_str, lenSlc_slice, strV_str, i64_add, i64_sub, i64_mul, i64_in, int_eqd, int_ned, int_lss, int_leq, int_gtr, int_geq, str_eqd, str_ned, if_true, wp_bndH, wp_withH, wp_need, enc_int, enc_str, enc_byte, enc_bool, List.getElem?_cons_zero, List.getElem?_cons_succ, cellP_get, cellG_cells, wp_st1g, stG_c, eq_self, true_and, wp_stng, stnG_ok, wp_ldng, ldG_ok, wp_newcg, wp_boxg, Heap.get_push_eq, Heap.get_push_lt, Heap.get_set_eq, Heap.get_set_ne', Heap.next_push', Heap.next_set', Heap.set_push_lt, Heap.set_push_eq, Heap.set_set, fld1_agg, fldn_agg, ext_tuple, outV_nil, outV_two, outV_three, outV_four, chk_ld1g, chkO_int, chkO_bool, chkO_str, chkO_ptr, chkO_slc, chkO_map, List.set_cons_zero, List.set_cons_succ, List.length_cons, List.length_nil, List.drop_succ_cons, List.drop_zero, List.take_succ_cons, List.take_zero, List.nil_append, List.cons_append, splice, isOne_int, isOne_str, isOne_bool, isOne_slice, isOne_pointer, isOne_map, condM_nf, condM_nef, gd_nef, gdf_nef, pick_nef, build_eq, fillA_nil, fillA_one, fillA_agg, Option.map_some, resv_one, resv_two, freeIn_nil, fillA_slc, fillA_int, fillA_str, fillA_bool, fillA_ptr, fillA_map, law19_PointsApart_l2, law19_PointsApart_k1, q1, q2, enc_gr, hgg, hgb'])
        exact go sn' hsl' (fun _ h => h) (fun _ h _ => absurd h c2) (by rw [Heap.get_push_lt l1]; exact hs') (keeps_push (Keeps.refl _ _)) _ (fun _ _ h => h)
    · (try simp (maxSteps := 1000000) (disch := first | omega | (simp only [Heap.next_push', Heap.next_set']; omega) | (simp; done) | assumption | decide | (refine not_not_intro ?_; assumption)) only [at_zero, at_succ, wp_bnd, wp_lift, wpO_some, wp_ret, nx_nxt, nx_brk, nx_ret, unblk_nxt, unblk_ret, unblk_brk, finM_nxt, finM_ret, outV_one, condM_t, condM_f, condM_dt, condM_df, gd_t, gd_f, gdf_t, gdf_f, gd_skip, gd_dt, gd_df, gdf_dt, gdf_df, pick_t, pick_f, pick_dt, pick_df, not_t, not_f, not_dec, isNil_ptr, isNil_ptr', isNil_pnil, isNil_pnil', nilck_ptr, faddr_ptr, Nat.zero_add, Nat.add_zero, wp_ld1, lenStr_str, lenSlc_slice, strV_str, i64_add, i64_sub, i64_mul, i64_in, int_eqd, int_ned, int_lss, int_leq, int_gtr, int_geq, str_eqd, str_ned, if_true, wp_bndH, wp_withH, wp_need, enc_int, enc_str, enc_byte, enc_bool, List.getElem?_cons_zero, List.getElem?_cons_succ, cellP_get, cellG_cells, wp_st1g, stG_c, eq_self, true_and, wp_stng, stnG_ok, wp_ldng, ldG_ok, wp_newcg, wp_boxg, Heap.get_push_eq, Heap.get_push_lt, Heap.get_set_eq, Heap.get_set_ne', Heap.next_push', Heap.next_set', Heap.set_push_lt, Heap.set_push_eq, Heap.set_set, fld1_agg, fldn_agg, ext_tuple, outV_nil, outV_two, outV_three, outV_four, chk_ld1g, chkO_int, chkO_bool, chkO_str, chkO_ptr, chkO_slc, chkO_map, List.set_cons_zero, List.set_cons_succ, List.length_cons, List.length_nil, List.drop_succ_cons, List.drop_zero, List.take_succ_cons, List.take_zero, List.nil_append, List.cons_append, splice, isOne_int, isOne_str, isOne_bool, isOne_slice, isOne_pointer, isOne_map, condM_nf, condM_nef, gd_nef, gdf_nef, pick_nef, build_eq, fillA_nil, fillA_one, fillA_agg, Option.map_some, resv_one, resv_two, freeIn_nil, fillA_slc, fillA_int, fillA_str, fillA_bool, fillA_ptr, fillA_map, law19_PointsApart_l2, law19_PointsApart_k1, q1, q2, enc_gr, hgg, hgb'])
      exact go sn' hsl' (fun _ h => h) (fun h => absurd h c1) (by rw [Heap.get_push_lt l1]; exact hs') (keeps_push (Keeps.refl _ _)) _ (fun _ _ h => h)
  · have hie : i = gs.length := by omega
    subst hie
    rw [List.take_length] at hmark
    (try simp (maxSteps := 1000000) (disch := first | omega | (simp only [Heap.next_push', Heap.next_set']; omega) | (simp; done) | assumption | decide | (refine not_not_intro ?_; assumption)) only [at_zero, at_succ, wp_bnd, wp_lift, wpO_some, wp_ret, nx_nxt, nx_brk, nx_ret, unblk_nxt, unblk_ret, unblk_brk, finM_nxt, finM_ret, outV_one, condM_t, condM_f, condM_dt, condM_df, gd_t, gd_f, gdf_t, gdf_f, gd_skip, gd_dt, gd_df, gdf_dt, gdf_df, pick_t, pick_f, pick_dt, pick_df, not_t, not_f, not_dec, isNil_ptr, isNil_ptr', isNil_pnil, isNil_pnil', nilck_ptr, faddr_ptr, Nat.zero_add, Nat.add_zero, wp_ld1, lenStr_str, lenSlc_slice, strV_str, i64_add, i64_sub, i64_mul, i64_in, int_eqd, int_ned, int_lss, int_leq, int_gtr, int_geq, str_eqd, str_ned, if_true, wp_bndH, wp_withH, wp_need, enc_int, enc_str, enc_byte, enc_bool, List.getElem?_cons_zero, List.getElem?_cons_succ, cellP_get, cellG_cells, wp_st1g, stG_c, eq_self, true_and, wp_stng, stnG_ok, wp_ldng, ldG_ok, wp_newcg, wp_boxg, Heap.get_push_eq, Heap.get_push_lt, Heap.get_set_eq, Heap.get_set_ne', Heap.next_push', Heap.next_set', Heap.set_push_lt, Heap.set_push_eq, Heap.set_set, fld1_agg, fldn_agg, ext_tuple, outV_nil, outV_two, outV_three, outV_four, chk_ld1g, chkO_int, chkO_bool, chkO_str, chkO_ptr, chkO_slc, chkO_map, List.set_cons_zero, List.set_cons_succ, List.length_cons, List.length_nil, List.drop_succ_cons, List.drop_zero, List.take_succ_cons, List.take_zero, List.nil_append, List.cons_append, splice, isOne_int, isOne_str, isOne_bool, isOne_slice, isOne_pointer, isOne_map, condM_nf, condM_nef, gd_nef, gdf_nef, pick_nef, build_eq, fillA_nil, fillA_one, fillA_agg, Option.map_some, resv_one, resv_two, freeIn_nil, fillA_slc, fillA_int, fillA_str, fillA_bool, fillA_ptr, fillA_map, law19_PointsApart_l2])
    exact hQ _ sn' hs' hsl' kk hmono hmark
end Go.AM.Cap
