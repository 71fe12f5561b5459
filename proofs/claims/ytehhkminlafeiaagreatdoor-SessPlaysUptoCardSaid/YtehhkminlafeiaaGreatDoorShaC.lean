import Derived.Test.YtehhkminlafeiaaGreatDoorShaB
set_option linter.all false
/- sha: ShaC -/
namespace Go.AM.Cap
open Go.AM Go.Proofs
def zg0 (n : Nat) : Nat := (119 - n % 64) % 64
def be (w : BitVec 64) (j : Nat) : List (BitVec 8) := (List.range j).map fun t => (w >>> (8 * (7 - t))).setWidth 8
def pad (l : List (BitVec 8)) : List (BitVec 8) := l ++ [128#8] ++ List.replicate (zg0 l.length) 0#8 ++ be (BitVec.ofNat 64 l.length * 8#64) 8
theorem zbuf (w : BitVec 64) (j : Nat) : be w (j + 1) = be w j ++ [(w >>> (8 * (7 - j))).setWidth 8] := by simp [be, List.range_succ]
theorem zb0u (H : Heap) (s : ByteArray) (hs : s.size ≤ 1099511627776) (Q : V → Heap → Prop) (hQ : ∀ v H', Own H' v ((pad (bv s)).map B) → Keeps [] H H' → (∀ x ∈ vb v, H.next ≤ x) → Q v H') :
    wp (zoe (.string s)) Q H := by
  have hl := zb7 s
  simp only [zoe, zk]
  refine zbub fun v H1 o1 k1 f1 => ?_
  refine z1f (new := [B 128#8]) o1 (by rfl) (by rfl) (by omega) (by rfl) (by rfl) (by simp; omega) (by simp; omega) fun c H2 o2 k2 f2 => ?_
  refine zbt (Inv := fun k vs H' => ∃ z w, k = zg0 s.size - z ∧ z ≤ zg0 s.size ∧ vs = [.string s, w] ∧ Own H' w ((bv s ++ [128#8] ++ List.replicate z 0#8).map B) ∧ Keeps [] H H' ∧ ∀ x ∈ vb w, H.next ≤ x) (n := zg0 s.size) (by unfold zg0 zcc; omega)
    ⟨0, _, by omega, by omega, rfl, by simpa using o2, k1.trans k2 (fun b hb hm => by have := f1 b hm; omega), fun x hx => by simp at hx; have := k1.next; omega⟩ ?_
  rintro k vs H' ⟨z, w, hk, hz, rfl, ho, hke, hf⟩
  have hlen : ((bv s ++ [128#8] ++ List.replicate z 0#8).map B).length = s.size + 1 + z := by simp [hl]; omega
  have hmod : (((s.size + 1 + z : Nat) : Int)).tmod 64 = (((s.size + 1 + z) % 64 : Nat) : Int) := by
    rw [Int.tmod_eq_emod_of_nonneg (by omega)]; rfl
  by_cases h : z < zg0 s.size
  · have hd : ((((s.size + 1 + z) % 64 : Nat) : Int) != 56) = true := by
      simp; unfold zg0 at *; omega
    simp (disch := decide) only [zvx, zbp, zcg, zk, zbs, ho.len, hlen, zz, zbcb, hmod, zbt9, hd, zft, wp_ret, zdi, z40]
    refine z1f (new := [B 0#8]) ho (by rfl) (by rfl) (by omega) (by rfl) (by rfl) (by rw [hlen]; unfold zg0 at *; omega) (by rw [hlen]; unfold zg0 at *; omega) fun c H3 o3 k3 f3 => ?_
    simp only [wp_ret, zew]
    refine ⟨zg0 s.size - (z + 1), by omega, z + 1, _, rfl, by omega, rfl, ?_, hke.trans k3 (fun b hb hm => by have := hf b hm; omega), fun x hx => by simp at hx; have := hke.next; omega⟩
    have : (bv s ++ [128#8] ++ List.replicate (z + 1) 0#8).map B = (bv s ++ [128#8] ++ List.replicate z 0#8).map B ++ [B 0#8] := by simp [List.replicate_succ']
    rw [this]; exact o3
  · have hzz : z = zg0 s.size := by omega
    subst hzz
    have hd : ((((s.size + 1 + zg0 s.size) % 64 : Nat) : Int) != 56) = false := by
      simp; unfold zg0 at *; omega
    simp (disch := decide) only [zvx, zbp, zcg, zk, zbs, ho.len, hlen, zz, zbcb, hmod, zbt9, hd, zeg, wp_ret, zm2, zfh, if_true, zdi, z44, zxy, zbt8]
    rw [show Value.int .u64 8 = W 8#64 from rfl, zbt7, zz]
    generalize hbits : BitVec.ofNat 64 s.size * 8#64 = bits
    refine zbt (Inv := fun k vs H2 => ∃ j w2, k = 8 - j ∧ j ≤ 8 ∧ vs = [w2, W bits, i64 (7 - j)] ∧ Own H2 w2 ((bv s ++ [128#8] ++ List.replicate (zg0 s.size) 0#8 ++ be bits j).map B) ∧ Keeps [] H H2 ∧ ∀ x ∈ vb w2, H.next ≤ x) (n := 8) (by decide)
      ⟨0, _, by omega, by omega, rfl, by simpa [be] using ho, hke, hf⟩ ?_
    rintro k2 vs H2 ⟨j, w2, hk2, hj, rfl, ho2, hke2, hf2⟩
    by_cases h8 : j < 8
    · have hd2 : decide ((7 : Int) - j ≥ 0) = true := by simp; omega
      have e8 : (8 * ((7 : Int) - j)).toNat = 8 * (7 - j) := by omega
      have hlen2 : ((bv s ++ [128#8] ++ List.replicate (zg0 s.size) 0#8 ++ be bits j).map B).length = s.size + 1 + zg0 s.size + j := by simp [hl, be]; omega
      have hzs : zg0 s.size < 64 := by unfold zg0; omega
      simp (disch := first | omega | simp) only [zvy, z42, zbp, zcg, zk, zbs, zwn, zz, hd2, zft, wp_ret, zdi, z32, i64_in, zbt6, e8, zbxy]
      refine z1f (new := [B ((bits >>> (8 * (7 - j))).setWidth 8)]) ho2 (by rfl) (by rfl) (by omega) (by rfl) (by rfl) (by rw [hlen2]; omega) (by rw [hlen2]; omega) fun c H3 o3 k3 f3 => ?_
      simp (disch := first | omega | simp) only [z41, wp_ret, zew, zdi, zbp, zcg, zk, zbs, zwm, i64_in, zz]
      refine ⟨8 - (j + 1), by omega, j + 1, _, rfl, by omega, by rw [show (7 : Int) - j - 1 = 7 - ((j + 1 : Nat) : Int) by omega], ?_, hke2.trans k3 (fun b hb hm => by have := hf2 b hm; omega), fun x hx => by simp at hx; have := hke2.next; omega⟩
      have : (bv s ++ [128#8] ++ List.replicate (zg0 s.size) 0#8 ++ be bits (j + 1)).map B = (bv s ++ [128#8] ++ List.replicate (zg0 s.size) 0#8 ++ be bits j).map B ++ [B ((bits >>> (8 * (7 - j))).setWidth 8)] := by simp [zbuf]
      rw [this]; exact o3
    · have hd2 : decide ((7 : Int) - j ≥ 0) = false := by simp; omega
      have : j = 8 := by omega
      subst this
      simp only [zvy, zbp, zcg, zk, zbs, zwn, zz, hd2, zeg, wp_ret, zm2, zfh, if_true, zdi, z43, zk2, zk3]
      refine hQ _ _ ?_ hke2 hf2
      unfold pad
      rw [hl, hbits]; exact ho2
def St.run (s : St) (l : List (BitVec 8)) : Nat → St
  | 0 => s
  | n + 1 => (s.run l n).take ((l.drop (64 * n)).take 64)
def St.init : St := ⟨0x6a09e667, 0xbb67ae85, 0x3c6ef372, 0xa54ff53a, 0x510e527f, 0x9b05688c, 0x1f83d9ab, 0x5be0cd19⟩
def zuf (x : BitVec 32) : List (BitVec 8) := [(x >>> 24).setWidth 8, (x >>> 16).setWidth 8, (x >>> 8).setWidth 8, x.setWidth 8]
def St.bytes (s : St) : List (BitVec 8) := s.l.flatMap zuf
def sum (l : List (BitVec 8)) : List (BitVec 8) := (St.init.run (pad l) ((pad l).length / 64)).bytes
theorem zbju (l : List (BitVec 8)) : (pad l).length = l.length + 9 + zg0 l.length := by simp [pad, be]; omega
theorem zb0v (l : List (BitVec 8)) : (pad l).length % 64 = 0 := by rw [zbju]; unfold zg0; omega
theorem zbyl {b n c lo hi : Nat} {k1 k2 : IntKind} (h1 : lo ≤ hi) (h2 : hi ≤ c) (h3 : lo < c) : zh7 1 (slc b 0 1 n c) (some (.int k1 lo)) (some (.int k2 hi)) = some (slc b lo 1 (hi - lo) (c - lo)) := by
  have e1 : zd5 n c (some (.int k2 hi)) = some hi := by simp [zd5, h2]
  have e2 : zd5 0 hi (some (.int k1 lo)) = some lo := by simp [zd5, h1]
  simp only [zh7, e1, e2]
  simp [zp1, show c ≠ lo by omega]
theorem getB (l : List (BitVec 8)) (n i : Nat) (hi : i < 64) (h : 64 * n + 64 ≤ l.length) : (l.map B)[64 * n + i]? = some (B (((l.drop (64 * n)).take 64).getD i 0)) := by
  simp [List.getElem?_take, hi, List.getElem?_drop, show 64 * n + i < l.length by omega]
theorem zbs5 (H : Heap) (st all : V) (l : List (BitVec 8)) (s : St) (hl : l.length % 64 = 0) (hl2 : l.length ≤ 2199023255552) (hs : Own H st s.cells) (ha : Own H all (l.map B)) (Q : Out → Heap → Prop)
    (hQ : ∀ v H', Own H' v (s.run l (l.length / 64)).cells → Keeps [] H H' → Q (.brk 0 [v]) H') : wp (zce zcc zw5 [st, all, i64 0]) Q H := by
  refine zbt (Inv := fun k vs H' => ∃ n v, k = l.length / 64 - n ∧ n ≤ l.length / 64 ∧ vs = [v, all, i64 (64 * n : Nat)] ∧ Own H' v (s.run l n).cells ∧ Keeps [] H H') (n := l.length / 64) (by unfold zcc; omega)
    ⟨0, st, by omega, by omega, rfl, hs, Keeps.refl _ _⟩ ?_
  rintro k vs H' ⟨n, v, hk, hn, rfl, ho, hke⟩
  have ha2 : Own H' all (l.map B) := ha.keep hke (by simp)
  have hlen : (l.map B).length = l.length := by simp
  by_cases h : n < l.length / 64
  · have hd : decide (((64 * n : Nat) : Int) < (l.length : Int)) = true := by simp; omega
    rcases ha2 with ⟨_, h2⟩ | ⟨b, rfl, hb⟩
    · rw [h2] at hlen; simp only [List.length_nil] at hlen; omega
    · simp (disch := first | omega | simp) only [zw5, zbcu, zbp, zcg, zk, zbs, zwo, hlen, zge, zz, hd, zft, wp_ret, zdi, zks, i64_in]
      rw [show ((64 * n : Nat) : Int) + 64 = ((64 * n + 64 : Nat) : Int) by omega, zbyl (by omega) (by omega) (by omega), zz]
      show wp (zsv  v (slc b (64 * n) 1 _ _)) _ H'
      rw [show 64 * n + 64 - 64 * n = 64 by omega]
      refine zbyk H' v b (64 * n) 1 _ ((l.drop (64 * n)).take 64) (s.run l n) (l.map B) true (fun i hi => getB l n i hi (by omega)) hb ho _ fun v2 H2 o2 k2 f2 => ?_
      simp (disch := first | omega | simp) only [zew, zbct, zbp, zcg, zk, zbs, zz, wp_ret, zdi, zks, i64_in]
      exact ⟨l.length / 64 - (n + 1), by omega, n + 1, v2, rfl, by omega, by simp; omega, o2, hke.trans k2 (by simp)⟩
  · have hd : decide (((64 * n : Nat) : Int) < (l.length : Int)) = false := by simp; omega
    have : n = l.length / 64 := by omega
    subst this
    simp only [zw5, zbp, zcg, zk, zbs, ha2.len, hlen, zge, zz, hd, zeg, wp_ret, zm2]
    exact hQ v H' ho hke
theorem zb0w (H : Heap) (st : V) (s : St) (hs : Own H st s.cells) (Q : Out → Heap → Prop)
    (hQ : ∀ v H', Own H' v (s.bytes.map B) → Keeps [] H H' → Q (.brk 2 [v]) H') : wp (zce zcc zw6 [st, .slice none 0 0, i64 0]) Q H := by
  have hcell : ∀ i (h : i < 8), s.cells[i]? = some (U (s.l.getD i 0)) := by
    intro i h
    have h8 : i = 0 ∨ i = 1 ∨ i = 2 ∨ i = 3 ∨ i = 4 ∨ i = 5 ∨ i = 6 ∨ i = 7 := by omega
    rcases h8 with h | h | h | h | h | h | h | h <;> subst h <;> rfl
  refine zbt (Inv := fun k vs H' => ∃ i v, k = 8 - i ∧ i ≤ 8 ∧ vs = [st, v, i64 i] ∧ Own H' v (((s.l.take i).flatMap zuf).map B) ∧ Keeps [] H H' ∧ ∀ x ∈ vb v, H.next ≤ x) (n := 8) (by decide)
    ⟨0, _, by omega, by omega, rfl, Own.nil _, Keeps.refl _ _, by simp⟩ ?_
  rintro k vs H' ⟨i, v, hk, hi, rfl, ho, hke, hf⟩
  by_cases h : i < 8
  · have hd : decide ((i : Int) < 8) = true := by simp; omega
    obtain ⟨p, a1, g1⟩ := zqj (hs.keep hke (by simp)) (k := .i64) (i := i) (hcell i h)
    have hlen4 : (((s.l.take i).flatMap zuf).map B).length = 4 * i := by
      have h8 : i = 0 ∨ i = 1 ∨ i = 2 ∨ i = 3 ∨ i = 4 ∨ i = 5 ∨ i = 6 ∨ i = 7 := by omega
      rcases h8 with h | h | h | h | h | h | h | h <;> subst h <;> rfl
    simp (disch := first | omega | simp) only [zw6, zbcw, zbp, zcg, zk, zbs, zge, zz, hd, zft, wp_ret, zdi, a1, g1, zii, zbg6, zbxv, Int.reduceToNat]
    refine z1f (new := (zuf (s.l.getD i 0)).map B) ho (by rfl) (by rfl) (by omega) (by rfl) (by rfl) ?_ ?_ fun c H3 o3 k3 f3 => ?_
    · rw [hlen4]; omega
    · rw [hlen4]; omega
    simp (disch := first | omega | simp) only [zbcv, wp_ret, zew, zdi, zbp, zcg, zk, zbs, zks, i64_in, zz]
    refine ⟨8 - (i + 1), by omega, i + 1, _, rfl, by omega, rfl, ?_, hke.trans k3 (fun b hb hm => by have := hf b hm; omega), fun x hx => by rw [zbxz, List.mem_singleton] at hx; have := hke.next; omega⟩
    have : ((s.l.take (i + 1)).flatMap zuf).map B = ((s.l.take i).flatMap zuf).map B ++ (zuf (s.l.getD i 0)).map B := by
      rw [List.take_succ, List.flatMap_append, List.map_append]
      simp [show i < s.l.length from h]
    rw [this]; exact o3
  · have hd : decide ((i : Int) < 8) = false := by simp; omega
    have : i = 8 := by omega
    subst this
    simp only [zw6, zbp, zcg, zk, zbs, zge, zz, hd, zeg, wp_ret, zm2]
    exact hQ v H' ho hke
theorem zb0x (H : Heap) (s : ByteArray) (hs : s.size ≤ 1099511627776) (Q : V → Heap → Prop) (hQ : ∀ H', Keeps [] H H' → Q (.string (sv (sum (bv s)))) H') : wp (z0e (.string s)) Q H := by
  have hp := zbju (bv s)
  have hz : zg0 (bv s).length < 64 := by unfold zg0; omega
  have hl := zb7 s
  simp only [z0e, zk]
  refine zbd4 (new := St.init.cells) (by decide) (by kernel_rfl) (by kernel_rfl) fun st H1 o1 k1 f1 => ?_
  show wp (zoe (.string s)) _ H1
  refine zb0u H1 s hs _ fun all H2 o2 k2 f2 => ?_
  refine zbs5 H2 st all (pad (bv s)) St.init (zb0v _) (by omega) (o1.keep k2 (by simp)) o2 _ fun v H3 o3 k3 => ?_
  simp only [wp_ret, zfh, if_true, zdi, zbcy, zbp, zk]
  refine zb0w H3 v _ o3 _ fun w H4 o4 k4 => ?_
  simp only [wp_ret, zfh, if_true, zdi, zbcx, zbp, zk]
  refine zbsl o4 (z2g _) ?_
  simp only [wp_ret, zk2, zk3, zbp]
  exact hQ H4 (((k1.trans k2 (by simp)).trans k3 (by simp)).trans k4 (by simp))
end Go.AM.Cap
