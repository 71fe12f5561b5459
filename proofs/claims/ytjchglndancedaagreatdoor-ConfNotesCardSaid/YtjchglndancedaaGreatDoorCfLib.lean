import Derived.Test.YtjchglndancedaaGreatDoorShelfAm
import Derived.Test.YtjchglndancedaaGreatDoorCfL
import Derived.Lib.SplitLaws
import Derived.Lib.AtoiErrMem
set_option linter.all false
/- conf: strings.Split, strconv.Atoi, strings.IndexByte, by the contracts off the kit's shelf -/
set_option maxHeartbeats 4000000
namespace Go.AM.Cap
open Go.AM Go.Proofs Go.RowKit
section
variable {N : Nat} {w₀ w w' : World} {ρ : Ren} {H : Heap}
theorem zbfi (h : Rel N w₀ ρ H w) (hb : Below w.heap.size w w') : Rel N w₀ ρ H w' := by
  have hold : ∀ k, k < w.heap.size → w'.heap[k]? = w.heap[k]? := hb.block
  have hbig := h.big
  have hsz := hb.size
  refine ⟨h.below.trans ⟨hb.os, hb.tape, hb.output, hb.size, fun k hk => hold k (by omega)⟩, by omega, h.dom, h.base, fun b x hx => ?_, h.inj⟩
  obtain ⟨L, hL, hr⟩ := h.blk b x hx
  exact ⟨L, hL, hr.mono (Ren.le.refl _) (hold _ (h.lt hx hL))⟩
theorem zbfj (hb : Below w.heap.size w w') : Ext ρ H w ρ H w' :=
  ⟨Ren.le.refl _, (Ext.refl ρ H w).same, (Ext.refl ρ H w).next, ⟨hb.size, fun c hc _ => hb.block c hc⟩, (Ext.refl ρ H w).old⟩
theorem zbdh : ∀ l : List ByteArray, LRel ρ (l.map Value.string) (l.map Value.string)
  | [] => .nil
  | n :: l => .cons (.string n) (zbdh l)
theorem zboe (h : Rel N w₀ ρ H w) (hb : Below w.heap.size w w') {g : Nat} {e : TypeId} {l : List ByteArray} (hg : w.heap.size ≤ g) (hc : w'.heap[g]? = some (.cells (l.map Value.string).toArray e (0, 0))) :
    Rel N w₀ (ρ.add H.next ⟨g, 0, l.length⟩) (H.push (some (.cells true (l.map Value.string)))) w' ∧ Ext ρ H w (ρ.add H.next ⟨g, 0, l.length⟩) (H.push (some (.cells true (l.map Value.string)))) w' := by
  have h' := zbfi h hb
  have hno : ρ H.next = none := h.dom _ (Nat.le_refl _)
  have hle := Ren.le_add ⟨g, 0, l.length⟩ hno
  have hold2 : ∀ b x, (H.push (some (.cells true (l.map Value.string)))).get b = some x → (b = H.next ∧ x = .cells true (l.map Value.string)) ∨ (H.get b = some x ∧ b ≠ H.next) := fun b x hx => by
    rw [Heap.get_push] at hx
    split at hx
    · rename_i e; cases hx; exact .inl ⟨e, rfl⟩
    · exact .inr ⟨hx, by assumption⟩
  have hself : (ρ.add H.next ⟨g, 0, l.length⟩) H.next = some ⟨g, 0, l.length⟩ := by unfold Ren.add; rw [if_pos rfl]
  have hbig := h.big
  refine ⟨⟨h'.below, h'.big, fun b hb => ?_, fun b hb => by obtain ⟨s, hs⟩ := h.base b hb; exact ⟨s, hle _ _ hs⟩, fun b x hx => ?_, fun b b' x x' L L' hx hx' hne hL hL' => ?_⟩, ?_⟩
  · rw [Heap.next_push] at hb
    unfold Ren.add; rw [if_neg (by omega)]; exact h.dom b (by omega)
  · rcases hold2 b x hx with ⟨rfl, rfl⟩ | ⟨h1, h2⟩
    · refine ⟨_, hself, (l.map Value.string).toArray, e, (0, 0), hc, by simp, ⟨fun _ => ⟨by show N ≤ g; omega, fun i _ => by show ¬ (0 ≤ i ∧ i < 0); omega⟩, fun q => by cases q⟩, by simp, ?_⟩
      simp only [List.drop_zero]
      rw [List.take_of_length_le (Nat.le_refl _)]
      exact zbdh l
    · obtain ⟨L, hL, hr⟩ := h'.blk b x h1
      exact ⟨L, hle _ _ hL, hr.mono hle rfl⟩
  · have key : ∀ {b x L}, H.get b = some x → b ≠ H.next → (ρ.add H.next ⟨g, 0, l.length⟩) b = some L → ρ b = some L ∧ L.blk < w.heap.size := fun {b x L} hx hn hL => by
      unfold Ren.add at hL
      rw [if_neg hn] at hL
      exact ⟨hL, h.lt hx hL⟩
    rcases hold2 b x hx with ⟨rfl, rfl⟩ | ⟨h1, h2⟩
    · rw [hself] at hL; cases hL
      rcases hold2 b' x' hx' with ⟨rfl, rfl⟩ | ⟨h1', h2'⟩
      · exact absurd rfl hne
      · have := (key h1' h2' hL').2
        show g ≠ L'.blk
        omega
    · obtain ⟨hL1, hL2⟩ := key h1 h2 hL
      rcases hold2 b' x' hx' with ⟨rfl, rfl⟩ | ⟨h1', h2'⟩
      · rw [hself] at hL'; cases hL'
        show L.blk ≠ g
        omega
      · exact h.inj b b' x x' L L' h1 h1' hne hL1 (key h1' h2' hL').1
  · have hx := zbfj (ρ := ρ) (H := H) hb
    refine ⟨hle, fun b hb => by unfold Ren.add; rw [if_neg (by omega)], by rw [Heap.next_push]; omega, ⟨hb.size, fun c hc _ => hb.block c hc⟩, fun b x L hb' hL => ?_⟩
    rcases hold2 b x hb' with ⟨rfl, rfl⟩ | ⟨h1, h2⟩
    · rw [hself] at hL; cases hL
      exact .inl hg
    · unfold Ren.add at hL
      rw [if_neg h2] at hL
      exact .inr ⟨b, x, L, h1, hL, rfl⟩
theorem zbq1 {P : Program} (hG : P.globals.size ≤ N) (h : Rel N w₀ ρ H w) {g o : Nat} (hg : g < P.globals.size) {k : IntKind} {m : Int} (hc : H.cell g o = some (.int k m)) : w.cell? ⟨g, o, none⟩ = some (.int k m) := by
  obtain ⟨s0, h0⟩ := h.base g (by omega)
  obtain ⟨v', h1, h2⟩ := h.cell hc h0
  simp only [Nat.zero_add] at h1
  rw [h1]
  cases h2
  rfl
end
theorem zbdi {α β : Type} [DecidableEq α] [DecidableEq β] (f : α → β) (hf : ∀ a b, f a = f b → a = b) (c : α) : ∀ l : List α, zga (f c) (l.map f) = (zga c l).map (List.map f)
  | [] => rfl
  | b :: l => by
    rw [List.map_cons, zga, zga, zbdi f hf c l]
    by_cases h : b = c
    · subst h; rw [if_pos rfl, if_pos rfl]; rfl
    · rw [if_neg h, if_neg (fun e => h (hf _ _ e))]
      cases hs : zga c l with
      | nil => exact absurd hs (z9h c l)
      | cons a t => rfl
theorem z0g (c : UInt8) : ∀ (l : List UInt8) (k : Nat), Lib.count l [c] ≤ k → Lib.splitK [c] 0 k l = zga c l
  | [], 0, _ => rfl
  | [], k + 1, _ => rfl
  | b :: l, k, hk => by
    by_cases h : b = c
    · subst h
      rw [Lib.count_cons_eq] at hk
      obtain ⟨j, rfl⟩ : ∃ j, k = j + 1 := ⟨k - 1, by omega⟩
      have hix : Lib.index (b :: l) [b] = 0 := by rw [Lib.index]; simp [List.isPrefixOf]
      rw [Lib.splitK, if_neg (by rw [hix]; decide), hix, zga, if_pos rfl, ← z0g b l j (by omega)]
      rfl
    · rw [Lib.count_cons_ne b c l h] at hk
      have hp : ([c] : List UInt8).isPrefixOf (b :: l) = false := by simp [List.isPrefixOf, Ne.symm h]
      have hix : Lib.index (b :: l) [c] = if Lib.index l [c] == -1 then -1 else Lib.index l [c] + 1 := by rw [Lib.index, hp]; simp
      by_cases hm : Lib.index l [c] = -1
      · have hm2 : Lib.index (b :: l) [c] = -1 := by rw [hix, if_pos (beq_iff_eq.2 hm)]
        have e1 : Lib.splitK [c] 0 k (b :: l) = [b :: l] := by
          cases k with
          | zero => rfl
          | succ k => rw [Lib.splitK, if_pos (beq_iff_eq.2 hm2)]
        have e2 : Lib.splitK [c] 0 k l = [l] := by
          cases k with
          | zero => rfl
          | succ k => rw [Lib.splitK, if_pos (beq_iff_eq.2 hm)]
        have e3 := z0g c l k hk
        rw [e2] at e3
        rw [e1, zga, if_neg h, ← e3]
        rfl
      · have hge := Lib.index_ge l [c]
        obtain ⟨j, hj⟩ : ∃ j : Nat, Lib.index l [c] = j := ⟨(Lib.index l [c]).toNat, by omega⟩
        have hix' : Lib.index (b :: l) [c] = ((j + 1 : Nat) : Int) := by rw [hix, if_neg (fun e => hm (beq_iff_eq.1 e)), hj]; omega
        have hc1 := Lib.count_hit (s := l) (sub := [c]) (by simp) hj
        obtain ⟨q, rfl⟩ : ∃ q, k = q + 1 := ⟨k - 1, by omega⟩
        have e3 := z0g c l (q + 1) hk
        rw [Lib.splitK, if_neg (fun e => hm (beq_iff_eq.1 e)), hj] at e3
        rw [Lib.splitK, if_neg (fun e => by have := beq_iff_eq.1 e; omega), hix', zga, if_neg h, ← e3]
        simp
theorem zbvb (b : UInt8) : UInt8.ofBitVec b.toBitVec = b := rfl
theorem zbmu (a b : UInt8) (h : a.toBitVec = b.toBitVec) : a = b := UInt8.toBitVec_inj.1 h
theorem zbq2 {s t : ByteArray} (h : s.data.toList = t.data.toList) : s = t := by
  cases s; cases t; simp at h; rw [h]
theorem z8c : ∀ {a b : List ByteArray}, a.map (·.data.toList) = b.map (·.data.toList) → a = b
  | [], [], _ => rfl
  | [], _ :: _, h => by simp at h
  | _ :: _, [], h => by simp at h
  | x :: a, y :: b, h => by
    simp only [List.map_cons, List.cons.injEq] at h
    rw [zbq2 h.1, z8c h.2]
theorem zbmv (l : List (BitVec 8)) : (sv l).data.toList = l.map UInt8.ofBitVec := by simp [sv]
theorem zbap (s t : ByteArray) (c : BitVec 8) (ht : bv t = [c]) : Lib.splitB t 0 (Lib.countB s t) s = zdx c s := by
  apply z8c
  have et : t.data.toList = [UInt8.ofBitVec c] := by
    have : t = sv [c] := by rw [← ht, zbe0]
    rw [this, zbmv]; rfl
  rw [Lib.splitB_data, et]
  have ec : Lib.countB s t = Lib.count s.data.toList [UInt8.ofBitVec c] := by show Lib.count _ _ = _; rw [et]
  rw [ec, z0g _ _ _ (Nat.le_refl _)]
  unfold zdx bv
  have := zbdi UInt8.toBitVec zbmu (UInt8.ofBitVec c) s.data.toList
  rw [show (UInt8.ofBitVec c).toBitVec = c from rfl] at this
  rw [this, List.map_map, List.map_map]
  have hid : ∀ l : List UInt8, (sv (l.map UInt8.toBitVec)).data.toList = l := fun l => by
    rw [zbmv, List.map_map]
    exact (List.map_congr_left (fun x _ => zbvb x)).trans (List.map_id l)
  exact ((List.map_congr_left (fun l _ => hid l)).trans (List.map_id _)).symm
theorem zbq3 {b : UInt8} (h : z0v b.toBitVec = true) : 48 ≤ b.toNat ∧ b.toNat ≤ 57 := by
  unfold z0v at h
  exact of_decide_eq_true h
theorem zbof (n : Nat) (b : BitVec 8) (l : List (BitVec 8)) : z71 n (b :: l) = z71 (n * 10 + (b.toNat - 48)) l := by
  conv => lhs; unfold z71
theorem zbq4 {b : UInt8} (l : List UInt8) (n : Nat) (h : z0v b.toBitVec = true) : Lib.decFrom n (b :: l) = Lib.decFrom (n * 10 + (b.toBitVec.toNat - 48)) l := by
  have h2 : Lib.digitVal b = some (b.toNat - 48) := if_pos (zbq3 h)
  rw [Lib.decFrom, h2, UInt8.toNat_toBitVec]
theorem zbsh (l : List UInt8) : ∀ n : Nat, (l.map UInt8.toBitVec).all z0v = true → Lib.decFrom n l = some (z71 n (l.map UInt8.toBitVec)) := by
  induction l with
  | nil => intro n _; rfl
  | cons b l ih =>
    intro n h
    rw [List.map_cons, List.all_cons, Bool.and_eq_true] at h
    rw [zbq4 l n h.1, ih _ h.2, List.map_cons, zbof]
theorem zbq5 (s : ByteArray) (h0 : s.size ≠ 0) (h : (bv s).all z0v = true) : Lib.atoi s.data.toList = some ((z71 0 (bv s) : Nat) : Int) := by
  unfold bv at h ⊢
  have hl : s.data.toList ≠ [] := fun e => h0 (by have := congrArg List.length e; simpa using this)
  generalize s.data.toList = l at h hl
  match l, h, hl with
  | b :: l, h, _ =>
    have h' := h
    simp only [List.map_cons, List.all_cons, Bool.and_eq_true] at h'
    have h1 := zbq3 h'.1
    have n1 : ¬ (b == 45) = true := fun e => by have := beq_iff_eq.1 e; subst this; exact absurd h1.1 (by decide)
    have n2 : ¬ (b == 43) = true := fun e => by have := beq_iff_eq.1 e; subst this; exact absurd h1.1 (by decide)
    rw [Lib.atoi, if_neg n1, if_neg n2, Lib.decNat, if_neg (by simp), zbsh _ _ h]
    rfl
theorem zbdj (c : UInt8) : ∀ l : List UInt8, Lib.indexByte l c = idxB c.toBitVec (l.map UInt8.toBitVec)
  | [] => rfl
  | b :: l => by
    rw [List.map_cons, Lib.indexByte, idxB, zbdj c l]
    by_cases h : b = c
    · subst h; rw [if_pos (by simp), if_pos rfl]
    · rw [if_neg (by simpa using h), if_neg (fun e => h (zbmu _ _ e))]
      by_cases h2 : idxB c.toBitVec (l.map UInt8.toBitVec) = -1
      · rw [if_pos (beq_iff_eq.2 h2), if_pos h2]
      · rw [if_neg (fun e => h2 (beq_iff_eq.1 e)), if_neg h2]
theorem known_split : zb3 Tryz.prog zdk zow := by
  refine ⟨by kernel_rfl, ?_⟩
  intro N w₀ ρ H w args args' r H' hG hR ha hl
  have hgs : Tryz.prog.globals.size = 10 := by kernel_rfl
  unfold zow at hl
  split at hl
  · rename_i s t
    split at hl
    · rename_i m c hm ht
      by_cases hs : s.size < 4294967281
      · rw [if_pos hs] at hl
        cases hl
        cases ha with
        | cons h1 h2 => cases h2 with
          | cons h2 h3 =>
            cases h3; cases h1; cases h2
            have ht1 : t.size = 1 := by rw [← zet, ht]; rfl
            refine (Tryz.strings_Split s t m w hs (zbq1 hG hR (by omega) hm) (by omega)).mono fun e w' ⟨he, hw⟩ => ?_
            have hlen : Lib.countB s t + 1 = (zdx c s).length := by
              rw [← zbap s t c ht, Lib.splitB_all t (by omega) 0 _ s rfl]
            rw [zbap s t c ht] at hw
            rw [hlen] at he
            have hb : Below w.heap.size w w' := by rw [hw]; exact (Below.refl _ _).alloc (Nat.le_refl _) _
            have hcell : w'.heap[w.heap.size]? = some (.cells ((zdx c s).map Value.string).toArray 9 (0, 0)) := by
              rw [hw]; show (w.heap.push _)[w.heap.size]? = _; rw [Array.getElem?_push_size]
            obtain ⟨r1, r2⟩ := zboe hR hb (Nat.le_refl _) hcell
            have ee : zdv (zdx c s) = (zdx c s).map Value.string := by
              unfold zdv
              induction zdx c s with
              | nil => rfl
              | cons x l ih => rw [List.flatMap_cons, ih]; rfl
            rw [ee]
            refine ⟨_, he, _, ?_, r1, r2⟩
            have hself : (ρ.add H.next ⟨w.heap.size, 0, (zdx c s).length⟩) H.next = some ⟨w.heap.size, 0, (zdx c s).length⟩ := by unfold Ren.add; rw [if_pos rfl]
            exact .slc _ 0 1 _ _ _ 0 _ _ hself (.inl rfl) (Nat.le_refl _) (Nat.le_refl _) (.inr (by simp)) (.inl rfl) (.inr (by have := zyg c (bv s); have := zet s; unfold zdx; rw [List.length_map]; omega))
      · rw [if_neg hs] at hl; cases hl
    · cases hl
  · cases hl
theorem known_atoi : zb3 Tryz.prog zcj zej := by
  refine ⟨by kernel_rfl, ?_⟩
  intro N w₀ ρ H w args args' r H' hG hR ha hl
  unfold zej at hl
  split at hl
  · rename_i s
    by_cases hc : s.size ≤ 18 ∧ s.size ≠ 0 ∧ (bv s).all z0v = true
    · rw [if_pos hc] at hl
      cases hl
      cases ha with
      | cons h1 h2 =>
        cases h2; cases h1
        refine (Tryz.strconv_Atoi s _ hc.1 (zbq5 s hc.2.1 hc.2.2) w).mono fun e w' ⟨he, t, hw⟩ => ?_
        have hb : Below w.heap.size w w' := by rw [hw]; exact Lib.bytesWorld_below _ _ _
        refine ⟨_, he, ρ, ?_, zbfi hR hb, zbfj hb⟩
        exact VRel.tuple' (.cons (.int _ _) (.cons .nilIface .nil))
    · rw [if_neg hc] at hl; cases hl
  · cases hl
theorem known_ixb : zb3 Tryz.prog zcu zwn := by
  refine ⟨by kernel_rfl, ?_⟩
  intro N w₀ ρ H w args args' r H' hG hR ha hl
  unfold zwn at hl
  split at hl
  · rename_i s n
    by_cases hc : s.size ≤ 1000000000
    · rw [if_pos hc] at hl
      cases hl
      cases ha with
      | cons h1 h2 => cases h2 with
        | cons h2 h3 =>
          cases h3; cases h1; cases h2
          refine (Tryz.strings_IndexByte s n w).mono fun e w' ⟨he, hw⟩ => ?_
          subst hw
          rw [zbdj] at he
          exact ⟨_, he, ρ, .int _ _, hR, .refl _ _ _⟩
    · rw [if_neg hc] at hl; cases hl
  · cases hl
end Go.AM.Cap
