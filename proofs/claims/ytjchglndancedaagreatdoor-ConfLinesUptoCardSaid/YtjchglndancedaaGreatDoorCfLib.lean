import Derived.Test.YtjchglndancedaaGreatDoorShelfAm
import Derived.Test.YtjchglndancedaaGreatDoorCfL
import Derived.Lib.SplitLaws
import Derived.Lib.AtoiErrMem
set_option linter.all false
/- conf: strings.Split, strconv.Atoi, strings.IndexByte, by the contracts off the kit's shelf -/
set_option maxHeartbeats 4000000
namespace Go.AM.Cap
open Go.AM Go.Proofs Go.RowKit
section
variable {N : Nat} {w₀ w w' : World} {ρ : Ren} {H : Heap}
theorem z77 (h : Rel N w₀ ρ H w) (hb : Below w.heap.size w w') : Rel N w₀ ρ H w' := by
  have hold : ∀ k, k < w.heap.size → w'.heap[k]? = w.heap[k]? := hb.block
  have hbig := h.big
  have hsz := hb.size
  refine ⟨h.below.trans ⟨hb.os, hb.tape, hb.output, hb.size, fun k hk => hold k (by omega)⟩, by omega, h.dom, h.base, fun b x hx => ?_, h.inj⟩
  obtain ⟨L, hL, hr⟩ := h.blk b x hx
  exact ⟨L, hL, hr.mono (Ren.le.refl _) (hold _ (h.lt hx hL))⟩
theorem z78 (hb : Below w.heap.size w w') : Ext ρ H w ρ H w' :=
  ⟨Ren.le.refl _, (Ext.refl ρ H w).same, (Ext.refl ρ H w).next, ⟨hb.size, fun c hc _ => hb.block c hc⟩, (Ext.refl ρ H w).old⟩
theorem zbci : ∀ l : List ByteArray, LRel ρ (l.map Value.string) (l.map Value.string)
  | [] => .nil
  | n :: l => .cons (.string n) (zbci l)
theorem zbn5 (h : Rel N w₀ ρ H w) (hb : Below w.heap.size w w') {g : Nat} {e : TypeId} {l : List ByteArray} (hg : w.heap.size ≤ g) (hc : w'.heap[g]? = some (.cells (l.map Value.string).toArray e (0, 0))) :
    Rel N w₀ (ρ.add H.next ⟨g, 0, l.length⟩) (H.push (some (.cells true (l.map Value.string)))) w' ∧ Ext ρ H w (ρ.add H.next ⟨g, 0, l.length⟩) (H.push (some (.cells true (l.map Value.string)))) w' := by
  have h' := z77 h hb
  have hno : ρ H.next = none := h.dom _ (Nat.le_refl _)
  have hle := Ren.le_add ⟨g, 0, l.length⟩ hno
  have hold2 : ∀ b x, (H.push (some (.cells true (l.map Value.string)))).get b = some x → (b = H.next ∧ x = .cells true (l.map Value.string)) ∨ (H.get b = some x ∧ b ≠ H.next) := fun b x hx => by
    rw [Heap.get_push] at hx
    split at hx
    · rename_i e; cases hx; exact .inl ⟨e, rfl⟩
    · exact .inr ⟨hx, by assumption⟩
  have hself : (ρ.add H.next ⟨g, 0, l.length⟩) H.next = some ⟨g, 0, l.length⟩ := by unfold Ren.add; rw [if_pos rfl]
  have hbig := h.big
  refine ⟨⟨h'.below, h'.big, fun b hb => ?_, fun b hb => by obtain ⟨s, hs⟩ := h.base b hb; exact ⟨s, hle _ _ hs⟩, fun b x hx => ?_, fun b b' x x' L L' hx hx' hne hL hL' => ?_⟩, ?_⟩
  · rw [Heap.next_push] at hb
    unfold Ren.add; rw [if_neg (by omega)]; exact h.dom b (by omega)
  · rcases hold2 b x hx with ⟨rfl, rfl⟩ | ⟨h1, h2⟩
    · refine ⟨_, hself, (l.map Value.string).toArray, e, (0, 0), hc, by simp, ⟨fun _ => ⟨by show N ≤ g; omega, fun i _ => by show ¬ (0 ≤ i ∧ i < 0); omega⟩, fun q => by cases q⟩, by simp, ?_⟩
      simp only [List.drop_zero]
      rw [List.take_of_length_le (Nat.le_refl _)]
      exact zbci l
    · obtain ⟨L, hL, hr⟩ := h'.blk b x h1
      exact ⟨L, hle _ _ hL, hr.mono hle rfl⟩
  · have key : ∀ {b x L}, H.get b = some x → b ≠ H.next → (ρ.add H.next ⟨g, 0, l.length⟩) b = some L → ρ b = some L ∧ L.blk < w.heap.size := fun {b x L} hx hn hL => by
      unfold Ren.add at hL
      rw [if_neg hn] at hL
      exact ⟨hL, h.lt hx hL⟩
    rcases hold2 b x hx with ⟨rfl, rfl⟩ | ⟨h1, h2⟩
    · rw [hself] at hL; cases hL
      rcases hold2 b' x' hx' with ⟨rfl, rfl⟩ | ⟨h1', h2'⟩
      · exact absurd rfl hne
      · have := (key h1' h2' hL').2
        show g ≠ L'.blk
        omega
    · obtain ⟨hL1, hL2⟩ := key h1 h2 hL
      rcases hold2 b' x' hx' with ⟨rfl, rfl⟩ | ⟨h1', h2'⟩
      · rw [hself] at hL'; cases hL'
        show L.blk ≠ g
        omega
      · exact h.inj b b' x x' L L' h1 h1' hne hL1 (key h1' h2' hL').1
  · have hx := z78 (ρ := ρ) (H := H) hb
    refine ⟨hle, fun b hb => by unfold Ren.add; rw [if_neg (by omega)], by rw [Heap.next_push]; omega, ⟨hb.size, fun c hc _ => hb.block c hc⟩, fun b x L hb' hL => ?_⟩
    rcases hold2 b x hb' with ⟨rfl, rfl⟩ | ⟨h1, h2⟩
    · rw [hself] at hL; cases hL
      exact .inl hg
    · unfold Ren.add at hL
      rw [if_neg h2] at hL
      exact .inr ⟨b, x, L, h1, hL, rfl⟩
theorem zbqt {P : Program} (hG : P.globals.size ≤ N) (h : Rel N w₀ ρ H w) {g o : Nat} (hg : g < P.globals.size) {k : IntKind} {m : Int} (hc : H.cell g o = some (.int k m)) : w.cell? ⟨g, o, none⟩ = some (.int k m) := by
  obtain ⟨s0, h0⟩ := h.base g (by omega)
  obtain ⟨v', h1, h2⟩ := h.cell hc h0
  simp only [Nat.zero_add] at h1
  rw [h1]
  cases h2
  rfl
end
theorem zbcj {α β : Type} [DecidableEq α] [DecidableEq β] (f : α → β) (hf : ∀ a b, f a = f b → a = b) (c : α) : ∀ l : List α, zf5 (f c) (l.map f) = (zf5 c l).map (List.map f)
  | [] => rfl
  | b :: l => by
    rw [List.map_cons, zf5, zf5, zbcj f hf c l]
    by_cases h : b = c
    · subst h; rw [if_pos rfl, if_pos rfl]; rfl
    · rw [if_neg h, if_neg (fun e => h (hf _ _ e))]
      cases hs : zf5 c l with
      | nil => exact absurd hs (z72 c l)
      | cons a t => rfl
theorem zyd (c : UInt8) : ∀ (l : List UInt8) (k : Nat), Lib.count l [c] ≤ k → Lib.splitK [c] 0 k l = zf5 c l
  | [], 0, _ => rfl
  | [], k + 1, _ => rfl
  | b :: l, k, hk => by
    by_cases h : b = c
    · subst h
      rw [Lib.count_cons_eq] at hk
      obtain ⟨j, rfl⟩ : ∃ j, k = j + 1 := ⟨k - 1, by omega⟩
      have hix : Lib.index (b :: l) [b] = 0 := by rw [Lib.index]; simp [List.isPrefixOf]
      rw [Lib.splitK, if_neg (by rw [hix]; decide), hix, zf5, if_pos rfl, ← zyd b l j (by omega)]
      rfl
    · rw [Lib.count_cons_ne b c l h] at hk
      have hp : ([c] : List UInt8).isPrefixOf (b :: l) = false := by simp [List.isPrefixOf, Ne.symm h]
      have hix : Lib.index (b :: l) [c] = if Lib.index l [c] == -1 then -1 else Lib.index l [c] + 1 := by rw [Lib.index, hp]; simp
      by_cases hm : Lib.index l [c] = -1
      · have hm2 : Lib.index (b :: l) [c] = -1 := by rw [hix, if_pos (beq_iff_eq.2 hm)]
        have e1 : Lib.splitK [c] 0 k (b :: l) = [b :: l] := by
          cases k with
          | zero => rfl
          | succ k => rw [Lib.splitK, if_pos (beq_iff_eq.2 hm2)]
        have e2 : Lib.splitK [c] 0 k l = [l] := by
          cases k with
          | zero => rfl
          | succ k => rw [Lib.splitK, if_pos (beq_iff_eq.2 hm)]
        have e3 := zyd c l k hk
        rw [e2] at e3
        rw [e1, zf5, if_neg h, ← e3]
        rfl
      · have hge := Lib.index_ge l [c]
        obtain ⟨j, hj⟩ : ∃ j : Nat, Lib.index l [c] = j := ⟨(Lib.index l [c]).toNat, by omega⟩
        have hix' : Lib.index (b :: l) [c] = ((j + 1 : Nat) : Int) := by rw [hix, if_neg (fun e => hm (beq_iff_eq.1 e)), hj]; omega
        have hc1 := Lib.count_hit (s := l) (sub := [c]) (by simp) hj
        obtain ⟨q, rfl⟩ : ∃ q, k = q + 1 := ⟨k - 1, by omega⟩
        have e3 := zyd c l (q + 1) hk
        rw [Lib.splitK, if_neg (fun e => hm (beq_iff_eq.1 e)), hj] at e3
        rw [Lib.splitK, if_neg (fun e => by have := beq_iff_eq.1 e; omega), hix', zf5, if_neg h, ← e3]
        simp
theorem zbxd (b : UInt8) : UInt8.ofBitVec b.toBitVec = b := rfl
theorem zbl3 (a b : UInt8) (h : a.toBitVec = b.toBitVec) : a = b := UInt8.toBitVec_inj.1 h
theorem zbqu {s t : ByteArray} (h : s.data.toList = t.data.toList) : s = t := by
  cases s; cases t; simp at h; rw [h]
theorem z6s : ∀ {a b : List ByteArray}, a.map (·.data.toList) = b.map (·.data.toList) → a = b
  | [], [], _ => rfl
  | [], _ :: _, h => by simp at h
  | _ :: _, [], h => by simp at h
  | x :: a, y :: b, h => by
    simp only [List.map_cons, List.cons.injEq] at h
    rw [zbqu h.1, z6s h.2]
theorem zbl4 (l : List (BitVec 8)) : (sv l).data.toList = l.map UInt8.ofBitVec := by simp [sv]
theorem z88 (s t : ByteArray) (c : BitVec 8) (ht : bv t = [c]) : Lib.splitB t 0 (Lib.countB s t) s = zcp c s := by
  apply z6s
  have et : t.data.toList = [UInt8.ofBitVec c] := by
    have : t = sv [c] := by rw [← ht, zbhn]
    rw [this, zbl4]; rfl
  rw [Lib.splitB_data, et]
  have ec : Lib.countB s t = Lib.count s.data.toList [UInt8.ofBitVec c] := by show Lib.count _ _ = _; rw [et]
  rw [ec, zyd _ _ _ (Nat.le_refl _)]
  unfold zcp bv
  have := zbcj UInt8.toBitVec zbl3 (UInt8.ofBitVec c) s.data.toList
  rw [show (UInt8.ofBitVec c).toBitVec = c from rfl] at this
  rw [this, List.map_map, List.map_map]
  have hid : ∀ l : List UInt8, (sv (l.map UInt8.toBitVec)).data.toList = l := fun l => by
    rw [zbl4, List.map_map]
    exact (List.map_congr_left (fun x _ => zbxd x)).trans (List.map_id l)
  exact ((List.map_congr_left (fun l _ => hid l)).trans (List.map_id _)).symm
theorem zbqv {b : UInt8} (h : zy6 b.toBitVec = true) : 48 ≤ b.toNat ∧ b.toNat ≤ 57 := by
  unfold zy6 at h
  exact of_decide_eq_true h
theorem zbn6 (n : Nat) (b : BitVec 8) (l : List (BitVec 8)) : z6k n (b :: l) = z6k (n * 10 + (b.toNat - 48)) l := by
  conv => lhs; unfold z6k
theorem zbqw {b : UInt8} (l : List UInt8) (n : Nat) (h : zy6 b.toBitVec = true) : Lib.decFrom n (b :: l) = Lib.decFrom (n * 10 + (b.toBitVec.toNat - 48)) l := by
  have h2 : Lib.digitVal b = some (b.toNat - 48) := if_pos (zbqv h)
  rw [Lib.decFrom, h2, UInt8.toNat_toBitVec]
theorem zbs9 (l : List UInt8) : ∀ n : Nat, (l.map UInt8.toBitVec).all zy6 = true → Lib.decFrom n l = some (z6k n (l.map UInt8.toBitVec)) := by
  induction l with
  | nil => intro n _; rfl
  | cons b l ih =>
    intro n h
    rw [List.map_cons, List.all_cons, Bool.and_eq_true] at h
    rw [zbqw l n h.1, ih _ h.2, List.map_cons, zbn6]
theorem zbqx (s : ByteArray) (h0 : s.size ≠ 0) (h : (bv s).all zy6 = true) : Lib.atoi s.data.toList = some ((z6k 0 (bv s) : Nat) : Int) := by
  unfold bv at h ⊢
  have hl : s.data.toList ≠ [] := fun e => h0 (by have := congrArg List.length e; simpa using this)
  generalize s.data.toList = l at h hl
  match l, h, hl with
  | b :: l, h, _ =>
    have h' := h
    simp only [List.map_cons, List.all_cons, Bool.and_eq_true] at h'
    have h1 := zbqv h'.1
    have n1 : ¬ (b == 45) = true := fun e => by have := beq_iff_eq.1 e; subst this; exact absurd h1.1 (by decide)
    have n2 : ¬ (b == 43) = true := fun e => by have := beq_iff_eq.1 e; subst this; exact absurd h1.1 (by decide)
    rw [Lib.atoi, if_neg n1, if_neg n2, Lib.decNat, if_neg (by simp), zbs9 _ _ h]
    rfl
theorem zbck (c : UInt8) : ∀ l : List UInt8, Lib.indexByte l c = idxB c.toBitVec (l.map UInt8.toBitVec)
  | [] => rfl
  | b :: l => by
    rw [List.map_cons, Lib.indexByte, idxB, zbck c l]
    by_cases h : b = c
    · subst h; rw [if_pos (by simp), if_pos rfl]
    · rw [if_neg (by simpa using h), if_neg (fun e => h (zbl3 _ _ e))]
      by_cases h2 : idxB c.toBitVec (l.map UInt8.toBitVec) = -1
      · rw [if_pos (beq_iff_eq.2 h2), if_pos h2]
      · rw [if_neg (fun e => h2 (beq_iff_eq.1 e)), if_neg h2]
theorem known_split : zq Tryz.prog zch znp := by
  refine ⟨by kernel_rfl, ?_⟩
  intro N w₀ ρ H w args args' r H' hG hR ha hl
  have hgs : Tryz.prog.globals.size = 10 := by kernel_rfl
  unfold znp at hl
  split at hl
  · rename_i s t
    split at hl
    · rename_i m c hm ht
      by_cases hs : s.size < 4294967281
      · rw [if_pos hs] at hl
        cases hl
        cases ha with
        | cons h1 h2 => cases h2 with
          | cons h2 h3 =>
            cases h3; cases h1; cases h2
            have ht1 : t.size = 1 := by rw [← zc1, ht]; rfl
            refine (Tryz.strings_Split s t m w hs (zbqt hG hR (by omega) hm) (by omega)).mono fun e w' ⟨he, hw⟩ => ?_
            have hlen : Lib.countB s t + 1 = (zcp c s).length := by
              rw [← z88 s t c ht, Lib.splitB_all t (by omega) 0 _ s rfl]
            rw [z88 s t c ht] at hw
            rw [hlen] at he
            have hb : Below w.heap.size w w' := by rw [hw]; exact (Below.refl _ _).alloc (Nat.le_refl _) _
            have hcell : w'.heap[w.heap.size]? = some (.cells ((zcp c s).map Value.string).toArray 9 (0, 0)) := by
              rw [hw]; show (w.heap.push _)[w.heap.size]? = _; rw [Array.getElem?_push_size]
            obtain ⟨r1, r2⟩ := zbn5 hR hb (Nat.le_refl _) hcell
            have ee : zbo (zcp c s) = (zcp c s).map Value.string := by
              unfold zbo
              induction zcp c s with
              | nil => rfl
              | cons x l ih => rw [List.flatMap_cons, ih]; rfl
            rw [ee]
            refine ⟨_, he, _, ?_, r1, r2⟩
            have hself : (ρ.add H.next ⟨w.heap.size, 0, (zcp c s).length⟩) H.next = some ⟨w.heap.size, 0, (zcp c s).length⟩ := by unfold Ren.add; rw [if_pos rfl]
            exact .slc _ 0 1 _ _ _ 0 _ _ hself (.inl rfl) (Nat.le_refl _) (Nat.le_refl _) (.inr (by simp)) (.inl rfl) (.inr (by have := zv5 c (bv s); have := zc1 s; unfold zcp; rw [List.length_map]; omega))
      · rw [if_neg hs] at hl; cases hl
    · cases hl
  · cases hl
theorem known_atoi : zq Tryz.prog zbf zcq := by
  refine ⟨by kernel_rfl, ?_⟩
  intro N w₀ ρ H w args args' r H' hG hR ha hl
  unfold zcq at hl
  split at hl
  · rename_i s
    by_cases hc : s.size ≤ 18 ∧ s.size ≠ 0 ∧ (bv s).all zy6 = true
    · rw [if_pos hc] at hl
      cases hl
      cases ha with
      | cons h1 h2 =>
        cases h2; cases h1
        refine (Tryz.strconv_Atoi s _ hc.1 (zbqx s hc.2.1 hc.2.2) w).mono fun e w' ⟨he, t, hw⟩ => ?_
        have hb : Below w.heap.size w w' := by rw [hw]; exact Lib.bytesWorld_below _ _ _
        refine ⟨_, he, ρ, ?_, z77 hR hb, z78 hb⟩
        exact VRel.tuple' (.cons (.int _ _) (.cons .nilIface .nil))
    · rw [if_neg hc] at hl; cases hl
  · cases hl
theorem known_ixb : zq Tryz.prog zbp zum := by
  refine ⟨by kernel_rfl, ?_⟩
  intro N w₀ ρ H w args args' r H' hG hR ha hl
  unfold zum at hl
  split at hl
  · rename_i s n
    by_cases hc : s.size ≤ 1000000000
    · rw [if_pos hc] at hl
      cases hl
      cases ha with
      | cons h1 h2 => cases h2 with
        | cons h2 h3 =>
          cases h3; cases h1; cases h2
          refine (Tryz.strings_IndexByte s n w).mono fun e w' ⟨he, hw⟩ => ?_
          subst hw
          rw [zbck] at he
          exact ⟨_, he, ρ, .int _ _, hR, .refl _ _ _⟩
    · rw [if_neg hc] at hl; cases hl
  · cases hl
end Go.AM.Cap
