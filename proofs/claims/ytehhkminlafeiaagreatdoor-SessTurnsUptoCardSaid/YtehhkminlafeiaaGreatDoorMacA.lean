import Derived.Test.YtehhkminlafeiaaGreatDoorShaF
import Derived.Test.YtehhkminlafeiaaGreatDoorAmOwnF
import Derived.Test.YtehhkminlafeiaaGreatDoorAmOpenF
set_option linter.all false
/- mac: tags -/
namespace Go.AM.Cap
open Go.AM Go.Proofs

/-- the tables of sha -/
def Base (H : Heap) : Prop := First H ∧ Tab H
theorem Base.keep {H H' : Heap} (h : Base H) (hk : Keeps [] H H') : Base H' := ⟨h.1.keep hk (by simp), h.2.keep hk (by simp)⟩

def fitted (k : List (BitVec 8)) : List (BitVec 8) := if k.length > 64 then sum k else k
def kb (k : List (BitVec 8)) : List (BitVec 8) := fitted k ++ List.replicate (64 - (fitted k).length) 0#8
def xr (k : List (BitVec 8)) (y : BitVec 8) : List (BitVec 8) := k.map (· ^^^ y)
def tag (k m : List (BitVec 8)) : List (BitVec 8) := sum (xr (kb k) 92#8 ++ sum (xr (kb k) 54#8 ++ m))
theorem fitted_le (k : List (BitVec 8)) : (fitted k).length ≤ 64 := by
  unfold fitted
  split
  · rw [sum_length]; omega
  · omega
theorem kb_length (k : List (BitVec 8)) : (kb k).length = 64 := by
  have := fitted_le k
  simp [kb]; omega
theorem xr_length (k : List (BitVec 8)) (y : BitVec 8) : (xr k y).length = k.length := by simp [xr]
theorem tag_length (k m : List (BitVec 8)) : (tag k m).length = 32 := rfl

def part (k : List (BitVec 8)) (y : BitVec 8) (i : Nat) : List (BitVec 8) := xr (k.take i) y ++ k.drop i
theorem part_length (k : List (BitVec 8)) (y : BitVec 8) (i : Nat) : (part k y i).length = k.length := by simp [part, xr]; omega
theorem part_get (k : List (BitVec 8)) (y : BitVec 8) (i : Nat) (h : i < k.length) : ((part k y i).map B)[i]? = some (B (k.getD i 0)) := by
  simp only [List.getElem?_map, part]
  rw [List.getElem?_append_right (by rw [xr_length, List.length_take]; omega)]
  rw [xr_length, List.length_take, show i - min i k.length = 0 by omega, List.getElem?_drop, Nat.add_zero]
  simp [h]
theorem part_set (k : List (BitVec 8)) (y : BitVec 8) (i : Nat) (h : i < k.length) : ((part k y i).map B).set i (B (k.getD i 0 ^^^ y)) = (part k y (i + 1)).map B := by
  rw [← List.map_set]
  congr 1
  have hl : (xr (k.take i) y).length = i := by rw [xr_length, List.length_take]; omega
  unfold part
  rw [List.set_append_right _ _ (by omega), hl, Nat.sub_self, take_snoc _ _ 0 h]
  have hd : k.drop i = k.getD i 0 :: k.drop (i + 1) := by
    rw [List.getD_eq_getElem?_getD, List.getElem?_eq_getElem h]; exact List.drop_eq_getElem_cons h
  rw [hd]
  simp [xr]

theorem subA_all {n b : Nat} (h : 0 < n) : subA n 1 (ptr b 0) none none = some (slc b 0 0 n n) := by
  have e1 : bound n n none = some n := rfl
  have e2 : bound 0 n none = some 0 := rfl
  simp only [subA, e1, e2, cutAt]
  rw [if_neg (by omega)]
  rfl
theorem wp_b2s_cells {b o u len cap : Nat} {rw : Bool} {cs : List V} {l : List (BitVec 8)} {H : Heap} {Q : V → Heap → Prop} (h : H.get b = some (.cells rw cs)) (ho : o + len ≤ cs.length) (hl : (cs.drop o).take len = l.map B) (hQ : Q (.string (sv l)) H) : wp (b2s (slc b o u len cap)) Q H := by
  refine ⟨_, _, ?_, hQ⟩
  simp only [b2s, cellsAt, h]
  rw [if_pos ho, hl]
  simp only [bytesOf_B]
  rfl
theorem wp_cpyS {b len cap : Nat} {u : Nat} {cs : List V} {s : ByteArray} {H : Heap} {Q : V → Heap → Prop} (h : H.get b = some (.cells true cs)) (ho : s.size ≤ cs.length) (hs : s.size ≤ len) (hQ : Q (i64 s.size) (H.set b (some (.cells true ((bv s).map B ++ cs.drop s.size))))) : wp (cpy 1 (slc b 0 u len cap) (.string s)) Q H := by
  have hm : Nat.min s.size len = s.size := Nat.min_eq_left hs
  have hl : ((bv s).map B).length = s.size := by rw [List.length_map, bv_length]
  have hc : cpySrc H 1 s.size (.string s) = some ((bv s).map B) := by
    simp only [cpySrc, bytesV_bv]
    rw [List.take_of_length_le (by rw [hl]; exact Nat.le_refl _)]
  refine ⟨_, _, ?_, hQ⟩
  simp only [cpy, sliceLen, hm, hc, h, Nat.mul_one, Nat.zero_add]
  have hall : ((bv s).map B).all Value.isOne = true := by simp
  rw [if_pos (by simp [hall, hl, ho])]
  congr 4
  simp [splice, hl]

theorem mac_with_ok (H : Heap) (k : List (BitVec 8)) (y : BitVec 8) (b : Nat) (rw : Bool) (hk : k.length = 64) (hb : H.get b = some (.cells rw (k.map B))) (Q : V → Heap → Prop) (hQ : ∀ H', Keeps [] H H' → Q (.string (sv (xr k y))) H') : wp (A_mac_Tag_1 [B y, ptr b 0]) Q H := by
  have hlt := Heap.get_lt hb
  show wp (F_mac_Tag_1 (B y) (ptr b 0)) Q H
  simp only [F_mac_Tag_1, wp_bnd]
  refine (wp_ldn (n := 64) hb (by simp; omega)).mpr ?_
  rw [List.drop_zero, List.take_of_length_le (by simp; omega)]
  refine (wp_newc (by decide)).mpr ?_
  refine (wp_stn (cs := List.replicate 64 (Value.int .u8 0)) (Heap.get_push_self _ _) (by simp) (by simp [hk]) (by simp)).mpr ?_
  have hsp : splice (List.replicate 64 (Value.int .u8 0)) 0 (k.map B) = (part k y 0).map B := by
    simp [splice, part, xr, hk]
  rw [hsp, Heap.set_push_eq rfl]
  (try simp (maxSteps := 1000000) (disch := first | omega | (simp only [Z3]; omega) | (simp; done) | assumption | decide | (refine not_not_intro ?_; assumption)) only [Z1])
  refine wp_loop (Inv := fun m vs H' => ∃ i : Nat, m = 64 - i ∧ i ≤ 64 ∧ vs = [B y, ptr H.next 0, i64 i] ∧ H' = H.push (some (.cells true ((part k y i).map B)))) (n := 64) (by decide)
    ⟨0, by omega, by omega, rfl, rfl⟩ ?_
  rintro m vs H' ⟨i, hm, hi, rfl, rfl⟩
  have hg := Heap.get_push_self H (some (.cells true ((part k y i).map B)))
  by_cases h : i < 64
  · (try simp (maxSteps := 1000000) (disch := first | omega | (simp only [Z3]; omega) | (simp; done) | assumption | decide | (refine not_not_intro ?_; assumption)) only [Z1, mac_Tag_1_l2, mac_Tag_1_k1, iaddrA_ptr, cellP_ptr hg, part_get, Nat.mul_one, Int.toNat_natCast, u8_xor])
    refine (wp_st1 hg (by rfl) (by simp [part_length]; omega)).mpr ?_
    (try simp (maxSteps := 1000000) (disch := first | omega | (simp only [Z3]; omega) | (simp; done) | assumption | decide | (refine not_not_intro ?_; assumption)) only [Z1, mac_Tag_1_k0])
    refine ⟨64 - (i + 1), by omega, i + 1, by omega, by omega, rfl, ?_⟩
    rw [part_set _ _ _ (by omega), Heap.set_push_eq rfl]
  · have : i = 64 := by omega
    subst this
    (try simp (maxSteps := 1000000) (disch := first | omega | (simp only [Z3]; omega) | (simp; done) | assumption | decide | (refine not_not_intro ?_; assumption)) only [Z1, mac_Tag_1_l2, mac_Tag_1_k3, subA_all])
    refine wp_b2s_cells (l := xr k y) hg (by simp [part_length]; omega) ?_ ?_
    · have e : part k y 64 = xr k y := by rw [part, List.take_of_length_le (by omega), List.drop_eq_nil_of_le (by omega), List.append_nil]
      rw [List.drop_zero, List.take_of_length_le (by simp [part_length]; omega), e]
    · (try simp (maxSteps := 1000000) (disch := first | omega | (simp only [Z3]; omega) | (simp; done) | assumption | decide | (refine not_not_intro ?_; assumption)) only [Z1])
      exact hQ _ (Keeps.push _ _ _)

theorem mac_Tag_ok (H : Heap) (k m : ByteArray) (hks : k.size ≤ 1099511627776) (hms : m.size ≤ 1073741824) (hb : Base H) (Q : V → Heap → Prop) (hQ : ∀ H', Keeps [] H H' → Q (.string (sv (tag (bv k) (bv m)))) H') : wp (A_mac_Tag [.string k, .string m]) Q H := by
  show wp (F_mac_Tag (.string k) (.string m)) Q H
  have rest : ∀ (k' : ByteArray) (H1 : Heap), bv k' = fitted (bv k) → Keeps [] H H1 → wp (mac_Tag_k0 [.string k', .string m]) (fun b H' => wp (finM b fun vs => ret (outV [at_ vs 0])) Q H') H1 := by
    intro k' H1 hk' k1
    have hsz : k'.size ≤ 64 := by rw [← bv_length, hk']; exact fitted_le _
    simp only [mac_Tag_k0, wp_bnd]
    refine (wp_newc (by decide)).mpr ?_
    (try simp (maxSteps := 1000000) (disch := first | omega | (simp only [Z3]; omega) | (simp; done) | assumption | decide | (refine not_not_intro ?_; assumption)) only [Z1, subA_all])
    refine wp_cpyS (Heap.get_push_self _ _) (by simp; omega) hsz ?_
    rw [Heap.set_push_eq rfl]
    have hc : (bv k').map B ++ (List.replicate 64 (Value.int .u8 0)).drop k'.size = (kb (bv k)).map B := by
      simp only [kb, ← hk', List.map_append, List.drop_replicate, List.map_replicate, bv_length]; rfl
    rw [hc]
    generalize hH2 : H1.push (some (.cells true ((kb (bv k)).map B))) = H2
    have hg : H2.get H1.next = some (.cells true ((kb (bv k)).map B)) := by rw [← hH2]; exact Heap.get_push_self _ _
    have k2 : Keeps [] H H2 := by rw [← hH2]; exact k1.trans (Keeps.push _ _ _) (fun _ _ h => h)
    (try simp (maxSteps := 1000000) (disch := first | omega | (simp only [Z3]; omega) | (simp; done) | assumption | decide | (refine not_not_intro ?_; assumption)) only [Z1, callM_ovr, List.nil_append, List.cons_append, Array.toList])
    refine mac_with_ok H2 (kb (bv k)) 92#8 H1.next true (kb_length _) hg _ fun H3 k3 => ?_
    (try simp (maxSteps := 1000000) (disch := first | omega | (simp only [Z3]; omega) | (simp; done) | assumption | decide | (refine not_not_intro ?_; assumption)) only [Z1, callM_ovr, List.nil_append, List.cons_append, Array.toList])
    refine mac_with_ok H3 (kb (bv k)) 54#8 H1.next true (kb_length _) (k3.get hg (by simp)) _ fun H4 k4 => ?_
    have k24 := (k2.trans k3 (fun _ _ h => h)).trans k4 (fun _ _ h => h)
    have l1 : (sv (xr (kb (bv k)) 54#8)).size = 64 := by rw [sv_size, xr_length, kb_length]
    have l2 : (sv (xr (kb (bv k)) 92#8)).size = 64 := by rw [sv_size, xr_length, kb_length]
    (try simp (maxSteps := 1000000) (disch := first | omega | (simp only [Z3]; omega) | (simp; done) | assumption | decide | (refine not_not_intro ?_; assumption)) only [Z1, str_add (show (sv (xr (kb (bv k)) 54#8)).size + m.size ≤ 4611686018427387904 by omega)])
    refine sha_Sum_ok H4 _ (by rw [size_append]; omega) (hb.keep k24).1 (hb.keep k24).2 _ fun H5 k5 => ?_
    rw [bv_append, bv_sv]
    have l3 : ∀ l, (sv (sum l)).size = 32 := fun l => by rw [sv_size, sum_length]
    have k25 := k24.trans k5 (fun _ _ h => h)
    (try simp (maxSteps := 1000000) (disch := first | omega | (simp only [Z3]; omega) | (simp; done) | assumption | decide | (refine not_not_intro ?_; assumption)) only [Z1, str_add (show (sv (xr (kb (bv k)) 92#8)).size + (sv (sum (xr (kb (bv k)) 54#8 ++ bv m))).size ≤ 4611686018427387904 by rw [l3]; omega)])
    refine sha_Sum_ok H5 _ (by rw [size_append, l3]; omega) (hb.keep k25).1 (hb.keep k25).2 _ fun H6 k6 => ?_
    rw [bv_append, bv_sv, bv_sv]
    (try simp (maxSteps := 1000000) (disch := first | omega | (simp only [Z3]; omega) | (simp; done) | assumption | decide | (refine not_not_intro ?_; assumption)) only [Z1])
    exact hQ _ (k25.trans k6 (fun _ _ h => h))
  by_cases h : (k.size : Int) > 64
  · (try simp (maxSteps := 1000000) (disch := first | omega | (simp only [Z3]; omega) | (simp; done) | assumption | decide | (refine not_not_intro ?_; assumption)) only [Z1, F_mac_Tag])
    refine sha_Sum_ok H _ hks hb.1 hb.2 _ fun H1 k1 => ?_
    (try simp (maxSteps := 1000000) (disch := first | omega | (simp only [Z3]; omega) | (simp; done) | assumption | decide | (refine not_not_intro ?_; assumption)) only [Z1])
    exact rest _ H1 (by rw [bv_sv, fitted, if_pos (by rw [bv_length]; omega)]) k1
  · (try simp (maxSteps := 1000000) (disch := first | omega | (simp only [Z3]; omega) | (simp; done) | assumption | decide | (refine not_not_intro ?_; assumption)) only [Z1, F_mac_Tag])
    exact rest k H (by rw [fitted, if_neg (by rw [bv_length]; omega)]) (Keeps.refl _ _)

/-! whether bytes are the same -/
def unlike (a b : List (BitVec 8)) : Nat → BitVec 8
  | 0 => 0#8
  | i + 1 => unlike a b i ||| (a.getD i 0 ^^^ b.getD i 0)
theorem unlike_zero (a b : List (BitVec 8)) : ∀ i, unlike a b i = 0#8 ↔ ∀ j, j < i → a.getD j 0 = b.getD j 0
  | 0 => by simp [unlike]
  | i + 1 => by
    have h1 : ∀ x y : BitVec 8, x ||| y = 0#8 ↔ x = 0#8 ∧ y = 0#8 := by
      intro x y
      constructor
      · intro h
        constructor
        · apply BitVec.eq_of_getLsbD_eq
          intro j hj
          have := congrArg (fun z => z.getLsbD j) h
          simp at this ⊢
          exact this.1
        · apply BitVec.eq_of_getLsbD_eq
          intro j hj
          have := congrArg (fun z => z.getLsbD j) h
          simp at this ⊢
          exact this.2
      · rintro ⟨rfl, rfl⟩; rfl
    rw [unlike, h1, unlike_zero a b i, BitVec.xor_eq_zero_iff]
    constructor
    · rintro ⟨h2, h3⟩ j hj
      rcases Nat.lt_or_ge j i with q | q
      · exact h2 j q
      · rw [show j = i by omega]; exact h3
    · intro h2
      exact ⟨fun j hj => h2 j (by omega), h2 i (by omega)⟩
theorem ext_getD {a b : List (BitVec 8)} (hl : a.length = b.length) (h : ∀ j, j < a.length → a.getD j 0 = b.getD j 0) : a = b := by
  apply List.ext_getElem hl
  intro i h1 h2
  have := h i h1
  rw [List.getD_eq_getElem?_getD, List.getD_eq_getElem?_getD, List.getElem?_eq_getElem h1, List.getElem?_eq_getElem h2] at this
  exact this

theorem mac_Equal_eq (a b : ByteArray) (ha : a.size ≤ 1099511627776) : A_mac_Equal [.string a, .string b] = ret (.bool (decide (a = b))) := eq_ret fun H => by
  show wp (F_mac_Equal (.string a) (.string b)) _ H
  have hla := bv_length a
  have hlb := bv_length b
  by_cases hs : (a.size : Int) = b.size
  · (try simp (maxSteps := 1000000) (disch := first | omega | (simp only [Z3]; omega) | (simp; done) | assumption | decide | (refine not_not_intro ?_; assumption)) only [Z1, F_mac_Equal, mac_Equal_k4])
    refine wp_loop (Inv := fun m vs H' => ∃ i : Nat, m = a.size - i ∧ i ≤ a.size ∧ vs = [.string a, .string b, B (unlike (bv a) (bv b) i), i64 a.size, i64 i] ∧ H' = H) (n := a.size) (by unfold FUEL; omega)
      ⟨0, by omega, by omega, rfl, rfl⟩ ?_
    rintro m vs H' ⟨i, hm, hi, rfl, rfl⟩
    by_cases h : i < a.size
    · (try simp (maxSteps := 1000000) (disch := first | omega | (simp only [Z3]; omega) | (simp; done) | assumption | decide | (refine not_not_intro ?_; assumption)) only [Z1, mac_Equal_l2, mac_Equal_k1, idxS_bv, Int.toNat_natCast, u8_xor, u8_or, mac_Equal_k0])
      exact ⟨a.size - (i + 1), by omega, i + 1, rfl, by omega, rfl, by trivial⟩
    · have : i = a.size := by omega
      subst this
      (try simp (maxSteps := 1000000) (disch := first | omega | (simp only [Z3]; omega) | (simp; done) | assumption | decide | (refine not_not_intro ?_; assumption)) only [Z1, mac_Equal_l2, mac_Equal_k3])
      refine ⟨congrArg Value.bool (decide_eq_decide.mpr ?_), by trivial⟩
      have hz := unlike_zero (bv a) (bv b) a.size
      constructor
      · intro h0
        have h0' : unlike (bv a) (bv b) a.size = 0#8 := BitVec.eq_of_toNat_eq (by simpa using h0)
        exact bv_inj (ext_getD (by omega) (by rw [hla]; exact hz.mp h0'))
      · intro hab
        have := hz.mpr (fun j _ => by rw [hab])
        rw [this]; rfl
  · (try simp (maxSteps := 1000000) (disch := first | omega | (simp only [Z3]; omega) | (simp; done) | assumption | decide | (refine not_not_intro ?_; assumption)) only [Z1, F_mac_Equal])
    refine ⟨congrArg Value.bool (decide_eq_false ?_).symm, by trivial⟩
    intro h; exact hs (by rw [h])
end Go.AM.Cap
