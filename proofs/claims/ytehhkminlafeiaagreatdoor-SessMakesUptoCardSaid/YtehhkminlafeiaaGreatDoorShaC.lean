import Derived.Test.YtehhkminlafeiaaGreatDoorShaB
set_option linter.all false
/- sha: ShaC -/
namespace Go.AM.Cap
open Go.AM Go.Proofs

def zeros (n : Nat) : Nat := (119 - n % 64) % 64
def be (w : BitVec 64) (j : Nat) : List (BitVec 8) := (List.range j).map fun t => (w >>> (8 * (7 - t))).setWidth 8
def pad (l : List (BitVec 8)) : List (BitVec 8) := l ++ [128#8] ++ List.replicate (zeros l.length) 0#8 ++ be (BitVec.ofNat 64 l.length * 8#64) 8

theorem be_succ (w : BitVec 64) (j : Nat) : be w (j + 1) = be w j ++ [(w >>> (8 * (7 - j))).setWidth 8] := by simp [be, List.range_succ]

theorem f34_pad (H : Heap) (s : ByteArray) (hs : s.size ≤ 1099511627776) (Q : V → Heap → Prop) (hQ : ∀ v H', Own H' v ((pad (bv s)).map B) → Keeps [] H H' → (∀ x ∈ vb v, H.next ≤ x) → Q v H') :
    wp (F_ref01_padded (.string s)) Q H := by
  have hl := bv_length s
  simp only [F_ref01_padded, wp_bnd]
  refine own_s2b fun v H1 o1 k1 f1 => ?_
  refine wp_app (new := [B 128#8]) o1 (by rfl) (by rfl) (by omega) (by rfl) (by rfl) (by simp; omega) (by simp; omega) fun c H2 o2 k2 f2 => ?_
  refine wp_loop (Inv := fun k vs H' => ∃ z w, k = zeros s.size - z ∧ z ≤ zeros s.size ∧ vs = [.string s, w] ∧ Own H' w ((bv s ++ [128#8] ++ List.replicate z 0#8).map B) ∧ Keeps [] H H' ∧ ∀ x ∈ vb w, H.next ≤ x) (n := zeros s.size) (by unfold zeros FUEL; omega)
    ⟨0, _, by omega, by omega, rfl, by simpa using o2, k1.trans k2 (fun b hb hm => by have := f1 b hm; omega), fun x hx => by simp at hx; have := k1.next; omega⟩ ?_
  rintro k vs H' ⟨z, w, hk, hz, rfl, ho, hke, hf⟩
  have hlen : ((bv s ++ [128#8] ++ List.replicate z 0#8).map B).length = s.size + 1 + z := by simp [hl]; omega
  have hmod : (((s.size + 1 + z : Nat) : Int)).tmod 64 = (((s.size + 1 + z) % 64 : Nat) : Int) := by
    rw [Int.tmod_eq_emod_of_nonneg (by omega)]; rfl
  by_cases h : z < zeros s.size
  · have hd : ((((s.size + 1 + z) % 64 : Nat) : Int) != 56) = true := by
      simp; unfold zeros at *; omega
    simp (disch := decide) only [ref01_padded_l1, at_zero, at_succ, wp_bnd, wp_lift, ho.len, hlen, wpO_some, int_rem, hmod, int_neq, hd, condM_true, wp_ret, nx_nxt, ref01_padded_k0]
    refine wp_app (new := [B 0#8]) ho (by rfl) (by rfl) (by omega) (by rfl) (by rfl) (by rw [hlen]; unfold zeros at *; omega) (by rw [hlen]; unfold zeros at *; omega) fun c H3 o3 k3 f3 => ?_
    simp only [wp_ret, unblk_nxt]
    refine ⟨zeros s.size - (z + 1), by omega, z + 1, _, rfl, by omega, rfl, ?_, hke.trans k3 (fun b hb hm => by have := hf b hm; omega), fun x hx => by simp at hx; have := hke.next; omega⟩
    have : (bv s ++ [128#8] ++ List.replicate (z + 1) 0#8).map B = (bv s ++ [128#8] ++ List.replicate z 0#8).map B ++ [B 0#8] := by simp [List.replicate_succ']
    rw [this]; exact o3
  · have hzz : z = zeros s.size := by omega
    subst hzz
    have hd : ((((s.size + 1 + zeros s.size) % 64 : Nat) : Int) != 56) = false := by
      simp; unfold zeros at *; omega
    simp (disch := decide) only [ref01_padded_l1, at_zero, at_succ, wp_bnd, wp_lift, ho.len, hlen, wpO_some, int_rem, hmod, int_neq, hd, condM_false, wp_ret, nx_brk, unblk_brk, if_true, nx_nxt, ref01_padded_k6, lenStr_str, i64_u64]
    rw [show Value.int .u64 8 = W 8#64 from rfl, u64_mul, wpO_some]
    generalize hbits : BitVec.ofNat 64 s.size * 8#64 = bits
    refine wp_loop (Inv := fun k vs H2 => ∃ j w2, k = 8 - j ∧ j ≤ 8 ∧ vs = [w2, W bits, i64 (7 - j)] ∧ Own H2 w2 ((bv s ++ [128#8] ++ List.replicate (zeros s.size) 0#8 ++ be bits j).map B) ∧ Keeps [] H H2 ∧ ∀ x ∈ vb w2, H.next ≤ x) (n := 8) (by decide)
      ⟨0, _, by omega, by omega, rfl, by simpa [be] using ho, hke, hf⟩ ?_
    rintro k2 vs H2 ⟨j, w2, hk2, hj, rfl, ho2, hke2, hf2⟩
    by_cases h8 : j < 8
    · have hd2 : decide ((7 : Int) - j ≥ 0) = true := by simp; omega
      have e8 : (8 * ((7 : Int) - j)).toNat = 8 * (7 - j) := by omega
      have hlen2 : ((bv s ++ [128#8] ++ List.replicate (zeros s.size) 0#8 ++ be bits j).map B).length = s.size + 1 + zeros s.size + j := by simp [hl, be]; omega
      have hzs : zeros s.size < 64 := by unfold zeros; omega
      simp (disch := first | omega | simp) only [ref01_padded_l4, ref01_padded_k3, at_zero, at_succ, wp_bnd, wp_lift, int_geq, wpO_some, hd2, condM_true, wp_ret, nx_nxt, i64_mul, i64_in, u64_shr, e8, u64_u8]
      refine wp_app (new := [B ((bits >>> (8 * (7 - j))).setWidth 8)]) ho2 (by rfl) (by rfl) (by omega) (by rfl) (by rfl) (by rw [hlen2]; omega) (by rw [hlen2]; omega) fun c H3 o3 k3 f3 => ?_
      simp (disch := first | omega | simp) only [ref01_padded_k2, wp_ret, unblk_nxt, nx_nxt, at_zero, at_succ, wp_bnd, wp_lift, i64_sub, i64_in, wpO_some]
      refine ⟨8 - (j + 1), by omega, j + 1, _, rfl, by omega, by rw [show (7 : Int) - j - 1 = 7 - ((j + 1 : Nat) : Int) by omega], ?_, hke2.trans k3 (fun b hb hm => by have := hf2 b hm; omega), fun x hx => by simp at hx; have := hke2.next; omega⟩
      have : (bv s ++ [128#8] ++ List.replicate (zeros s.size) 0#8 ++ be bits (j + 1)).map B = (bv s ++ [128#8] ++ List.replicate (zeros s.size) 0#8 ++ be bits j).map B ++ [B ((bits >>> (8 * (7 - j))).setWidth 8)] := by simp [be_succ]
      rw [this]; exact o3
    · have hd2 : decide ((7 : Int) - j ≥ 0) = false := by simp; omega
      have : j = 8 := by omega
      subst this
      simp only [ref01_padded_l4, at_zero, at_succ, wp_bnd, wp_lift, int_geq, wpO_some, hd2, condM_false, wp_ret, nx_brk, unblk_brk, if_true, nx_nxt, ref01_padded_k5, finM_ret, outV_one]
      refine hQ _ _ ?_ hke2 hf2
      unfold pad
      rw [hl, hbits]; exact ho2

/-- the state behind n blocks -/
def St.run (s : St) (l : List (BitVec 8)) : Nat → St
  | 0 => s
  | n + 1 => (s.run l n).take ((l.drop (64 * n)).take 64)
def St.init : St := ⟨0x6a09e667, 0xbb67ae85, 0x3c6ef372, 0xa54ff53a, 0x510e527f, 0x9b05688c, 0x1f83d9ab, 0x5be0cd19⟩
def wbytes (x : BitVec 32) : List (BitVec 8) := [(x >>> 24).setWidth 8, (x >>> 16).setWidth 8, (x >>> 8).setWidth 8, x.setWidth 8]
def St.bytes (s : St) : List (BitVec 8) := s.l.flatMap wbytes
/-- the digest -/
def sum (l : List (BitVec 8)) : List (BitVec 8) := (St.init.run (pad l) ((pad l).length / 64)).bytes

theorem pad_length (l : List (BitVec 8)) : (pad l).length = l.length + 9 + zeros l.length := by simp [pad, be]; omega
theorem pad_mod (l : List (BitVec 8)) : (pad l).length % 64 = 0 := by rw [pad_length]; unfold zeros; omega

theorem subV_slc {b n c lo hi : Nat} {k1 k2 : IntKind} (h1 : lo ≤ hi) (h2 : hi ≤ c) (h3 : lo < c) : subV 1 (slc b 0 1 n c) (some (.int k1 lo)) (some (.int k2 hi)) = some (slc b lo 1 (hi - lo) (c - lo)) := by
  have e1 : bound n c (some (.int k2 hi)) = some hi := by simp [bound, h2]
  have e2 : bound 0 hi (some (.int k1 lo)) = some lo := by simp [bound, h1]
  simp only [subV, e1, e2]
  simp [cutAt, show c ≠ lo by omega]


theorem getB (l : List (BitVec 8)) (n i : Nat) (hi : i < 64) (h : 64 * n + 64 ≤ l.length) : (l.map B)[64 * n + i]? = some (B (((l.drop (64 * n)).take 64).getD i 0)) := by
  simp [List.getElem?_take, hi, List.getElem?_drop, show 64 * n + i < l.length by omega]

theorem f14_blocks (H : Heap) (st all : V) (l : List (BitVec 8)) (s : St) (hl : l.length % 64 = 0) (hl2 : l.length ≤ 2199023255552) (hs : Own H st s.cells) (ha : Own H all (l.map B)) (Q : Out → Heap → Prop)
    (hQ : ∀ v H', Own H' v (s.run l (l.length / 64)).cells → Keeps [] H H' → Q (.brk 0 [v]) H') : wp (loopM FUEL ref01_Sum_l2 [st, all, i64 0]) Q H := by
  refine wp_loop (Inv := fun k vs H' => ∃ n v, k = l.length / 64 - n ∧ n ≤ l.length / 64 ∧ vs = [v, all, i64 (64 * n : Nat)] ∧ Own H' v (s.run l n).cells ∧ Keeps [] H H') (n := l.length / 64) (by unfold FUEL; omega)
    ⟨0, st, by omega, by omega, rfl, hs, Keeps.refl _ _⟩ ?_
  rintro k vs H' ⟨n, v, hk, hn, rfl, ho, hke⟩
  have ha2 : Own H' all (l.map B) := ha.keep hke (by simp)
  have hlen : (l.map B).length = l.length := by simp
  by_cases h : n < l.length / 64
  · have hd : decide (((64 * n : Nat) : Int) < (l.length : Int)) = true := by simp; omega
    rcases ha2 with ⟨_, h2⟩ | ⟨b, rfl, hb⟩
    · rw [h2] at hlen; simp only [List.length_nil] at hlen; omega
    · simp (disch := first | omega | simp) only [ref01_Sum_l2, ref01_Sum_k1, at_zero, at_succ, wp_bnd, wp_lift, lenSlc_slice, hlen, int_lss, wpO_some, hd, condM_true, wp_ret, nx_nxt, i64_add, i64_in]
      rw [show ((64 * n : Nat) : Int) + 64 = ((64 * n + 64 : Nat) : Int) by omega, subV_slc (by omega) (by omega) (by omega), wpO_some]
      show wp (F_ref01_take  v (slc b (64 * n) 1 _ _)) _ H'
      rw [show 64 * n + 64 - 64 * n = 64 by omega]
      refine f35_take H' v b (64 * n) 1 _ ((l.drop (64 * n)).take 64) (s.run l n) (l.map B) true (fun i hi => getB l n i hi (by omega)) hb ho _ fun v2 H2 o2 k2 f2 => ?_
      simp (disch := first | omega | simp) only [unblk_nxt, ref01_Sum_k0, at_zero, at_succ, wp_bnd, wp_lift, wpO_some, wp_ret, nx_nxt, i64_add, i64_in]
      exact ⟨l.length / 64 - (n + 1), by omega, n + 1, v2, rfl, by omega, by simp; omega, o2, hke.trans k2 (by simp)⟩
  · have hd : decide (((64 * n : Nat) : Int) < (l.length : Int)) = false := by simp; omega
    have : n = l.length / 64 := by omega
    subst this
    simp only [ref01_Sum_l2, at_zero, at_succ, wp_bnd, wp_lift, ha2.len, hlen, int_lss, wpO_some, hd, condM_false, wp_ret, nx_brk]
    exact hQ v H' ho hke

theorem f14_out (H : Heap) (st : V) (s : St) (hs : Own H st s.cells) (Q : Out → Heap → Prop)
    (hQ : ∀ v H', Own H' v (s.bytes.map B) → Keeps [] H H' → Q (.brk 2 [v]) H') : wp (loopM FUEL ref01_Sum_l5 [st, .slice none 0 0, i64 0]) Q H := by
  have hcell : ∀ i (h : i < 8), s.cells[i]? = some (U (s.l.getD i 0)) := by
    intro i h
    have h8 : i = 0 ∨ i = 1 ∨ i = 2 ∨ i = 3 ∨ i = 4 ∨ i = 5 ∨ i = 6 ∨ i = 7 := by omega
    rcases h8 with h | h | h | h | h | h | h | h <;> subst h <;> rfl
  refine wp_loop (Inv := fun k vs H' => ∃ i v, k = 8 - i ∧ i ≤ 8 ∧ vs = [st, v, i64 i] ∧ Own H' v (((s.l.take i).flatMap wbytes).map B) ∧ Keeps [] H H' ∧ ∀ x ∈ vb v, H.next ≤ x) (n := 8) (by decide)
    ⟨0, _, by omega, by omega, rfl, Own.nil _, Keeps.refl _ _, by simp⟩ ?_
  rintro k vs H' ⟨i, v, hk, hi, rfl, ho, hke, hf⟩
  by_cases h : i < 8
  · have hd : decide ((i : Int) < 8) = true := by simp; omega
    obtain ⟨p, a1, g1⟩ := own_cell (hs.keep hke (by simp)) (k := .i64) (i := i) (hcell i h)
    have hlen4 : (((s.l.take i).flatMap wbytes).map B).length = 4 * i := by
      have h8 : i = 0 ∨ i = 1 ∨ i = 2 ∨ i = 3 ∨ i = 4 ∨ i = 5 ∨ i = 6 ∨ i = 7 := by omega
      rcases h8 with h | h | h | h | h | h | h | h <;> subst h <;> rfl
    simp (disch := first | omega | simp) only [ref01_Sum_l5, ref01_Sum_k4, at_zero, at_succ, wp_bnd, wp_lift, int_lss, wpO_some, hd, condM_true, wp_ret, nx_nxt, a1, g1, wp_ld1, u32_shr, u32_u8, Int.reduceToNat]
    refine wp_app (new := (wbytes (s.l.getD i 0)).map B) ho (by rfl) (by rfl) (by omega) (by rfl) (by rfl) ?_ ?_ fun c H3 o3 k3 f3 => ?_
    · rw [hlen4]; omega
    · rw [hlen4]; omega
    simp (disch := first | omega | simp) only [ref01_Sum_k3, wp_ret, unblk_nxt, nx_nxt, at_zero, at_succ, wp_bnd, wp_lift, i64_add, i64_in, wpO_some]
    refine ⟨8 - (i + 1), by omega, i + 1, _, rfl, by omega, rfl, ?_, hke.trans k3 (fun b hb hm => by have := hf b hm; omega), fun x hx => by rw [vb_slc, List.mem_singleton] at hx; have := hke.next; omega⟩
    have : ((s.l.take (i + 1)).flatMap wbytes).map B = ((s.l.take i).flatMap wbytes).map B ++ (wbytes (s.l.getD i 0)).map B := by
      rw [List.take_succ, List.flatMap_append, List.map_append]
      simp [show i < s.l.length from h]
    rw [this]; exact o3
  · have hd : decide ((i : Int) < 8) = false := by simp; omega
    have : i = 8 := by omega
    subst this
    simp only [ref01_Sum_l5, at_zero, at_succ, wp_bnd, wp_lift, int_lss, wpO_some, hd, condM_false, wp_ret, nx_brk]
    exact hQ v H' ho hke

theorem f14_sum (H : Heap) (s : ByteArray) (hs : s.size ≤ 1099511627776) (Q : V → Heap → Prop) (hQ : ∀ H', Keeps [] H H' → Q (.string (sv (sum (bv s)))) H') : wp (F_ref01_Sum (.string s)) Q H := by
  have hp := pad_length (bv s)
  have hz : zeros (bv s).length < 64 := by unfold zeros; omega
  have hl := bv_length s
  simp only [F_ref01_Sum, wp_bnd]
  refine own_bslc (new := St.init.cells) (by decide) (by kernel_rfl) (by kernel_rfl) fun st H1 o1 k1 f1 => ?_
  show wp (F_ref01_padded (.string s)) _ H1
  refine f34_pad H1 s hs _ fun all H2 o2 k2 f2 => ?_
  refine f14_blocks H2 st all (pad (bv s)) St.init (pad_mod _) (by omega) (o1.keep k2 (by simp)) o2 _ fun v H3 o3 k3 => ?_
  simp only [wp_ret, unblk_brk, if_true, nx_nxt, ref01_Sum_k7, at_zero, wp_bnd]
  refine f14_out H3 v _ o3 _ fun w H4 o4 k4 => ?_
  simp only [wp_ret, unblk_brk, if_true, nx_nxt, ref01_Sum_k6, at_zero, wp_bnd]
  refine wp_b2s o4 (bytesOf_B _) ?_
  simp only [wp_ret, finM_ret, outV_one, at_zero]
  exact hQ H4 (((k1.trans k2 (by simp)).trans k3 (by simp)).trans k4 (by simp))
end Go.AM.Cap
