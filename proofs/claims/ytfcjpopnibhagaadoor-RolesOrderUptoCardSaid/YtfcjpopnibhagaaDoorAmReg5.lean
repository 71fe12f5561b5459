/- Regions whose order is drawn: whatever order is drawn, what the run in one order says holds. -/
import Derived.Test.YtfcjpopnibhagaaDoorAmReg4
set_option linter.all false
namespace Go.AM
open Go.RowKit (Below)

variable {P : Program} {N : Nat} {w₀ : World} {ρ : Ren} {H : Heap} {w : World} {σ : Calls'} {n : Nat} {ops : Array Oper} {fl : List Nat} {base : Nat}

theorem idxOf_inj : ∀ (l : List Nat) {a b j : Nat}, idxOf l a = some j → idxOf l b = some j → a = b
  | [], a, b, j, h, _ => by simp [idxOf] at h
  | x :: xs, a, b, j, h, g => by
    simp only [idxOf] at h g
    cases ha : Nat.beq x a with
    | true =>
      cases hb : Nat.beq x b with
      | true => rw [← Nat.eq_of_beq_eq_true ha, ← Nat.eq_of_beq_eq_true hb]
      | false =>
        rw [ha] at h; rw [hb] at g
        simp only [cond_true, cond_false] at h g
        cases h
        split at g <;> cases g
    | false =>
      rw [ha] at h
      simp only [cond_false] at h
      split at h
      · rename_i j' hj'; cases h
        cases hb : Nat.beq x b with
        | true => rw [hb] at g; simp at g
        | false =>
          rw [hb] at g
          simp only [cond_false] at g
          split at g
          · rename_i j2 hj2; cases g; exact idxOf_inj xs hj' hj2
          · cases g
      · cases h

theorem kept_mem {i j : Nat} (hj : idxOf fl i = some j) : ∀ (l : List Nat), i ∈ l → base + j ∈ kept fl base l
  | [], h => by simp at h
  | x :: xs, h => by
    simp only [kept]
    rcases List.mem_cons.1 h with rfl | h
    · rw [hj]; simp
    · have := kept_mem hj xs h
      split <;> simp [this]

theorem freeIn_spec {H : Heap} {b : Nat} : ∀ (l : List Nat), freeIn H l = true → b ∈ l → H.get b = none ∧ b < H.next
  | [], _, h => by simp at h
  | x :: xs, hf, h => by
    simp only [freeIn, Bool.and_eq_true] at hf
    rcases List.mem_cons.1 h with rfl | h
    · have := hf.1
      split at this
      · rename_i hn; exact ⟨hn, Nat.blt_eq.mp this⟩
      · cases this
    · exact freeIn_spec xs hf.2 h

theorem kd_float {P : Program} {i : Nat} {o : Oper} {j : Nat} (h : kindD P fl i o = .float j) : idxOf fl i = some j := by
  unfold kindD at h; split at h
  · cases h; assumption
  · split at h <;> cases h
theorem kd_cls {P : Program} {i : Nat} {o : Oper} (h : kindD P fl i o = .quiet) : cls P o.op = .mv ∨ cls P o.op = .pure := by
  unfold kindD at h; split at h
  · cases h
  · split at h <;> first | (left; assumption) | (right; assumption) | cases h
theorem kd_read {P : Program} {i : Nat} {o : Oper} (h : kindD P fl i o = .read) : cls P o.op = .read := by
  unfold kindD at h; split at h
  · cases h
  · split at h <;> first | assumption | cases h

/-- the heap at a step: its version, and the floats since -/
theorem heap_seg {perm : List Nat} {e ef : Env} {Hs Hf : Heap} {tr : List Tr} (h : Run P σ n ops fl base perm e Hs tr ef Hf) : ∀ (V0 : Heap) (D0 : List Tr), Hs = setFl (fun _ => true) base D0 V0 →
    (∀ X s Y, tr = X ++ s :: Y → s.H = setFl (fun _ => true) base (if cnt X = 0 then D0 ++ X else after (cnt X) X) (verAt (cnt X) V0 tr)) ∧
    Hf = setFl (fun _ => true) base (if cnt tr = 0 then D0 ++ tr else after (cnt tr) tr) (verAt (cnt tr) V0 tr) := by
  induction h with
  | nil => intro V0 D0 hH; exact ⟨fun X s Y he => by cases X <;> simp at he, by simpa [cnt, verAt] using hH⟩
  | @cons i rest e H o v H' tr ef Hf h1 h2 h3 h4 ih =>
    intro V0 D0 hH
    -- a step that is not of the chain
    have plain : (kindD P fl i o).isChain = false → H' = setFl (fun _ => true) base (D0 ++ [⟨i, o, kindD P fl i o, e, H, v, H'⟩]) V0 →
        (∀ X s Y, (⟨i, o, kindD P fl i o, e, H, v, H'⟩ : Tr) :: tr = X ++ s :: Y → s.H = setFl (fun _ => true) base (if cnt X = 0 then D0 ++ X else after (cnt X) X) (verAt (cnt X) V0 (⟨i, o, kindD P fl i o, e, H, v, H'⟩ :: tr))) ∧
        Hf = setFl (fun _ => true) base (if cnt ((⟨i, o, kindD P fl i o, e, H, v, H'⟩ : Tr) :: tr) = 0 then D0 ++ (⟨i, o, kindD P fl i o, e, H, v, H'⟩ :: tr) else after (cnt ((⟨i, o, kindD P fl i o, e, H, v, H'⟩ : Tr) :: tr)) (⟨i, o, kindD P fl i o, e, H, v, H'⟩ :: tr)) (verAt (cnt ((⟨i, o, kindD P fl i o, e, H, v, H'⟩ : Tr) :: tr)) V0 (⟨i, o, kindD P fl i o, e, H, v, H'⟩ :: tr)) := by
      intro hc hH'
      obtain ⟨g1, g2⟩ := ih V0 (D0 ++ [⟨i, o, kindD P fl i o, e, H, v, H'⟩]) hH'
      have hver : ∀ k, verAt k V0 ((⟨i, o, kindD P fl i o, e, H, v, H'⟩ : Tr) :: tr) = verAt k V0 tr := by
        intro k; cases k with
        | zero => simp [verAt]
        | succ k => simp [verAt, hc]
      have haft : ∀ k X, k ≠ 0 → after k ((⟨i, o, kindD P fl i o, e, H, v, H'⟩ : Tr) :: X) = after k X := by
        intro k X hk; cases k with
        | zero => exact absurd rfl hk
        | succ k => simp [after, hc]
      have hcnt : ∀ X, cnt ((⟨i, o, kindD P fl i o, e, H, v, H'⟩ : Tr) :: X) = cnt X := by intro X; simp [cnt, hc]
      refine ⟨fun X s Y he => ?_, ?_⟩
      · cases X with
        | nil =>
          simp only [List.nil_append, List.cons.injEq] at he
          obtain ⟨rfl, rfl⟩ := he
          simpa [cnt, verAt] using hH
        | cons x X =>
          simp only [List.cons_append, List.cons.injEq] at he
          obtain ⟨rfl, rfl⟩ := he
          rw [g1 X s Y rfl, hcnt, hver]
          by_cases hz : cnt X = 0
          · rw [if_pos hz, if_pos hz]; simp
          · rw [if_neg hz, if_neg hz, haft _ _ hz]
      · rw [g2, hcnt, hver]
        by_cases hz : cnt tr = 0
        · rw [if_pos hz, if_pos hz]; simp
        · rw [if_neg hz, if_neg hz, haft _ _ hz]
    have setLast : ∀ s : Tr, setFl (fun _ => true) base (D0 ++ [s]) V0 = (match s.kd with | .float j => H.set (base + j) (s.H'.get (base + j)) | _ => H) := by
      intro s
      rw [setFl_append, ← hH]
      unfold setFl
      cases s.kd <;> rfl
    cases hk : kindD P fl i o with
    | quiet =>
      rw [hk] at h2 plain
      obtain ⟨rfl, _⟩ := quiet_any (kd_cls hk) h2
      exact plain rfl (by rw [setLast])
    | read =>
      rw [hk] at h2 plain
      have := read_any (kd_read hk) h2; subst this
      exact plain rfl (by rw [setLast])
    | float j =>
      rw [hk] at h2 plain
      obtain ⟨_, _, x, v0, _, _, q1, q2, rfl⟩ := h2
      refine plain rfl ?_
      rw [setLast]
      simp only [Heap.get_set _ _ _ _ q2, if_true]
    | chain =>
      obtain ⟨g1, g2⟩ := ih H' [] rfl
      refine ⟨fun X s Y he => ?_, ?_⟩
      · cases X with
        | nil =>
          simp only [List.nil_append, List.cons.injEq] at he
          obtain ⟨rfl, rfl⟩ := he
          simpa [cnt, verAt] using hH
        | cons x X =>
          simp only [List.cons_append, List.cons.injEq] at he
          obtain ⟨rfl, rfl⟩ := he
          rw [g1 X s Y rfl]
          simp only [cnt, KD.isChain, if_true, List.nil_append]
          have e1 : ¬ (1 + cnt X = 0) := by omega
          rw [if_neg e1, show 1 + cnt X = cnt X + 1 by omega]
          simp only [verAt, after, KD.isChain, if_true]
          by_cases hz : cnt X = 0
          · rw [if_pos hz, hz]; simp [after]
          · rw [if_neg hz]
      · rw [g2]
        simp only [cnt, KD.isChain, if_true, List.nil_append]
        have e1 : ¬ (1 + cnt tr = 0) := by omega
        rw [if_neg e1, show 1 + cnt tr = cnt tr + 1 by omega]
        simp only [verAt, after, KD.isChain, if_true]
        by_cases hz : cnt tr = 0
        · rw [if_pos hz, hz]; simp [after]
        · rw [if_neg hz]

/-- a float's number is free in each version ahead of it -/
theorem ver_free' {perm : List Nat} {e ef : Env} {Hs Hf : Heap} {tr : List Tr} (h : Run P σ n ops fl base perm e Hs tr ef Hf) : ∀ (V : Heap) (X : List Tr) (s : Tr) (Y : List Tr) (j k : Nat), tr = X ++ s :: Y → s.kd = .float j → k + 1 ≤ cnt X →
    (verAt (k + 1) V tr).get (base + j) = none ∧ base + j < (verAt (k + 1) V tr).next := by
  induction h with
  | nil => intro V X s Y j k he; cases X <;> simp at he
  | @cons i rest e H o v H' tr ef Hf h1 h2 h3 h4 ih =>
    intro V X s Y j k he hs hk
    cases X with
    | nil => simp [cnt] at hk
    | cons x X =>
      simp only [List.cons_append, List.cons.injEq] at he
      obtain ⟨rfl, rfl⟩ := he
      simp only [cnt] at hk
      cases hc : (kindD P fl i o).isChain with
      | true =>
        simp only [hc, if_true] at hk
        simp only [verAt, hc, if_true]
        cases k with
        | zero =>
          simp only [verAt]
          have hkd : kindD P fl i o = .chain := by cases hq : kindD P fl i o <;> rw [hq] at hc <;> first | rfl | cases hc
          rw [hkd] at h3
          simp only [chainEnd, Bool.and_eq_true] at h3
          have hmem : s.i ∈ rest := by rw [← h4.map_i]; simp
          have hidx : idxOf fl s.i = some j := by
            obtain ⟨_, _, _, q, _⟩ := h4.split rfl
            rw [hs] at q; exact kd_float q.symm
          exact freeIn_spec _ h3.2 (kept_mem hidx rest hmem)
        | succ k => exact ih H' X s Y j k rfl hs (by omega)
      | false =>
        simp only [hc, Bool.false_eq_true, if_false, Nat.zero_add] at hk
        simp only [verAt, hc, Bool.false_eq_true, if_false]
        exact ih V X s Y j k rfl hs hk

theorem ver_free {perm : List Nat} {e ef : Env} {Hs Hf : Heap} {tr : List Tr} (h : Run P σ n ops fl base perm e Hs tr ef Hf) (hf : freeIn Hs (kept fl base perm) = true) {X : List Tr} {s : Tr} {Y : List Tr} {j k : Nat} (he : tr = X ++ s :: Y) (hs : s.kd = .float j) (hk : k ≤ cnt X) :
    (verAt k Hs tr).get (base + j) = none ∧ base + j < (verAt k Hs tr).next := by
  cases k with
  | zero =>
    simp only [verAt]
    have hmem : s.i ∈ perm := by rw [← h.map_i, he]; simp
    obtain ⟨_, _, _, q, _⟩ := h.split he
    rw [hs] at q
    exact freeIn_spec _ hf (kept_mem (kd_float q.symm) perm hmem)
  | succ k => exact ver_free' h Hs X s Y j k he hs hk

/-- the k-th of the chain -/
theorem chain_at : ∀ (X : List Tr) (k : Nat), k < cnt X → ∃ X1 p X2, X = X1 ++ p :: X2 ∧ p.kd.isChain = true ∧ cnt X1 = k
  | [], k, h => by simp [cnt] at h
  | x :: X, k, h => by
    simp only [cnt] at h
    cases hc : x.kd.isChain with
    | true =>
      cases k with
      | zero => exact ⟨[], x, X, rfl, hc, rfl⟩
      | succ k =>
        simp only [hc, if_true] at h
        obtain ⟨X1, p, X2, h1, h2, h3⟩ := chain_at X k (by omega)
        exact ⟨x :: X1, p, X2, by simp [h1], h2, by simp [cnt, hc, h3]; omega⟩
    | false =>
      simp only [hc, Bool.false_eq_true, if_false, Nat.zero_add] at h
      obtain ⟨X1, p, X2, h1, h2, h3⟩ := chain_at X k h
      exact ⟨x :: X1, p, X2, by simp [h1], h2, by simp [cnt, hc, h3]⟩

theorem chainIs_get : ∀ (tr : List Tr) (j c : Nat), (chainIs tr)[j]? = some c → ∃ X s Y, tr = X ++ s :: Y ∧ s.kd.isChain = true ∧ cnt X = j ∧ s.i = c
  | [], j, c, h => by simp [chainIs] at h
  | x :: tr, j, c, h => by
    simp only [chainIs] at h
    cases hc : x.kd.isChain with
    | true =>
      rw [hc] at h
      simp only [cond_true] at h
      cases j with
      | zero => simp at h; exact ⟨[], x, tr, rfl, hc, rfl, h⟩
      | succ j =>
        obtain ⟨X, s, Y, h1, h2, h3, h4⟩ := chainIs_get tr j c (by simpa using h)
        exact ⟨x :: X, s, Y, by simp [h1], h2, by simp [cnt, hc, h3]; omega, h4⟩
    | false =>
      rw [hc] at h
      obtain ⟨X, s, Y, h1, h2, h3, h4⟩ := chainIs_get tr j c h
      exact ⟨x :: X, s, Y, by simp [h1], h2, by simp [cnt, hc, h3], h4⟩

theorem after_le : ∀ (X : List Tr) (k : Nat) (Z : List Tr), k ≤ cnt X → after k (X ++ Z) = after k X ++ Z
  | X, 0, Z, _ => by simp [after]
  | [], k + 1, Z, h => by simp [cnt] at h
  | x :: X, k + 1, Z, h => by
    simp only [cnt] at h
    cases hc : x.kd.isChain with
    | true => simp only [hc, if_true] at h; simp only [List.cons_append, after, hc, if_true]; exact after_le X k Z (by omega)
    | false => simp only [hc, Bool.false_eq_true, if_false, Nat.zero_add] at h; simp only [List.cons_append, after, hc, Bool.false_eq_true, if_false]; exact after_le X (k + 1) Z h

theorem after_suffix : ∀ (k : Nat) (tr : List Tr), k ≤ cnt tr → ∃ X, tr = X ++ after k tr ∧ k ≤ cnt X
  | 0, tr, _ => ⟨[], by simp [after], by simp⟩
  | k + 1, [], h => by simp [cnt] at h
  | k + 1, x :: tr, h => by
    simp only [cnt] at h
    cases hc : x.kd.isChain with
    | true =>
      simp only [hc, if_true] at h
      obtain ⟨X, h1, h2⟩ := after_suffix k tr (by omega)
      refine ⟨x :: X, ?_, by simp [cnt, hc]; omega⟩
      simp only [after, hc, if_true, List.cons_append]; rw [← h1]
    | false =>
      simp only [hc, Bool.false_eq_true, if_false, Nat.zero_add] at h
      obtain ⟨X, h1, h2⟩ := after_suffix (k + 1) tr h
      refine ⟨x :: X, ?_, by simp [cnt, hc]; omega⟩
      simp only [after, hc, Bool.false_eq_true, if_false, List.cons_append]; rw [← h1]

end Go.AM
