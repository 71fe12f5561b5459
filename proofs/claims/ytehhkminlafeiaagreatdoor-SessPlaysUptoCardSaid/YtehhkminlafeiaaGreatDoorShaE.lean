import Derived.Test.YtehhkminlafeiaaGreatDoorShaD
set_option linter.all false
/- sha: ShaE -/
namespace Go.AM.Cap
open Go.AM Go.Proofs
theorem zbuj {vs : List V} {H : Heap} {Q : V → Heap → Prop} (h : vs.all Value.isOne = true) : wp (zlw (.agg vs.toArray)) Q H ↔ Q (ptr H.next 0) (H.push (some (.cells true vs))) := by
  have hc : (Value.agg vs.toArray).cells.toList = vs := by simp [Value.cells]
  constructor
  · rintro ⟨a, H', h1, h2⟩
    unfold zlw at h1
    rw [hc, if_pos h] at h1
    cases h1; exact h2
  · intro hq; exact ⟨_, _, by unfold zlw; rw [hc, if_pos h], hq⟩
def zbge (H : Heap) : Prop := ∃ rw cs, H.get gid_sha_first = some (.cells rw cs) ∧ 8 ≤ cs.length ∧ cs.take 8 = St.init.cells
theorem zbge.keep {S : List Nat} {H H' : Heap} (h : zbge H) (hk : Keeps S H H') (hn : gid_sha_first ∉ S) : zbge H' := by
  obtain ⟨rw, ks, h1, h2⟩ := h; exact ⟨rw, ks, hk.get h1 hn, h2⟩
theorem zbs7 (H : Heap) (hf : zbge H) (Q : V → Heap → Prop) (hQ : ∀ p H', zto H' p [] (.slice none 0 0) → Keeps [] H H' → p = H.next → H'.next = H.next + 1 → Q (ptr p 0) H') : wp z8q Q H := by
  obtain ⟨rw, cs, h1, h2, h3⟩ := hf
  simp only [z8q, zk]
  refine (zbay (n := 8) h1 (by omega)).mpr ?_
  rw [List.drop_zero, h3]
  have hb : build [Value.int .u32 0, Value.int .u32 0, Value.int .u32 0, Value.int .u32 0, Value.int .u32 0, Value.int .u32 0, Value.int .u32 0, Value.int .u32 0, Value.slice none 0 0, Value.int .i64 0] [(0, 8, .agg St.init.cells.toArray)] = some (.agg ((mid []).cells ++ [Value.slice none 0 0, i64 (0 : Nat)]).toArray) := rfl
  simp only [hb, zbs, zz, zk]
  refine (zbuj (by rfl)).mpr ?_
  simp only [wp_ret, zk2, zk3, zbp]
  have g := Heap.get_push_self H (some (.cells true ((mid []).cells ++ [Value.slice none 0 0, i64 (0 : Nat)])))
  exact hQ _ _ ⟨g, .inl ⟨rfl, rfl⟩, by simp, by simp⟩ (Keeps.push _ _ _) rfl (by simp)
theorem zbuk {b o n : Nat} {rw : Bool} {cs : List V} {H : Heap} (h : H.get b = some (.cells rw cs)) (ho : o + n ≤ cs.length) (v : V) : chk (ldn n (ptr b o)) H v = vEq (.agg ((cs.drop o).take n).toArray) v := by
  simp [chk, ldn, cellsAt, h, ho]
theorem zbmb (s : St) : vEq (.agg s.cells.toArray) (.agg s.cells.toArray) = true := by
  simp [vEq, vEq.vEqs, vEq.vEq1, St.cells]
theorem zbqr (H : Heap) (p : Nat) (l : List (BitVec 8)) (v : V) (hh : zto H p l v) (hl : l.length ≤ 1099511627776) (h2 : gid_sha_rounds < H.next) (Q : V → Heap → Prop)
    (hQ : ∀ q w H', zto H' q l w → (∀ x ∈ vb w, H.next ≤ x) → Keeps [] H H' → H.next ≤ q → q + 1 = H'.next → Q (ptr q 0) H') : wp (zmp (ptr p 0)) Q H := by
  obtain ⟨hh, hr, hpv, h1v⟩ := hh
  have hlt := hh.lt
  have hvlt := hr.lt
  have htl := z08 l
  have gg : H.get p = some (.cells true ((mid l).cells ++ [v, i64 l.length])) := hh
  simp only [zmp, zk, zxw, zbs, zgl, zhw, zz, Nat.zero_add]
  refine (zbay (n := 8) gg (by show 0 + 8 ≤ 10; omega)).mpr ?_
  have hv8 : (((mid l).cells ++ [v, i64 l.length]).drop 0).take 8 = (mid l).cells := rfl
  rw [hv8]
  simp only [zii, hh.c8, hh.c9, zz, zz6]
  refine (zgv (by decide) (by rfl)).mpr ?_
  generalize hH1 : H.push (some (.cells true (rep 0 [Value.int .u8 0]))) = H1
  have n1 : H1.next = H.next + 1 := by rw [← hH1]; simp
  have k1 : Keeps [] H H1 := by rw [← hH1]; exact Keeps.push _ _ _
  have g1 : H1.get H.next = some (.cells true []) := by rw [← hH1]; exact Heap.get_push_self _ _
  have key : ∀ (w : V) (H2 : Heap), zug H2 w ((tail l).map B) → Keeps [H.next] H1 H2 → (∀ b ∈ vb w, H.next ≤ b) → wp (zb (za (build [Value.int .u32 0, Value.int .u32 0, Value.int .u32 0, Value.int .u32 0, Value.int .u32 0, Value.int .u32 0, Value.int .u32 0, Value.int .u32 0, Value.slice none 0 0, Value.int .i64 0] [(0, 8, .agg (mid l).cells.toArray), (8, 1, w), (9, 1, i64 l.length)])) fun x17 =>
    zfq (zlw x17) fun ha_3 x18 h3 =>
    zdc (chk (ldn 8 (ptr p 0)) H1 (.agg (mid l).cells.toArray)) <|
    zdc (chk (ldn 8 (ptr p 0)) H2 (.agg (mid l).cells.toArray)) <|
    zdc (chk (z7 (ptr p 8)) H1 v) <|
    zdc (chk (z7 (ptr p 9)) H1 (i64 l.length)) <|
    zdc (chk (z7 (ptr p 9)) H2 (i64 l.length)) <|
    ret (.ret [x18])) (fun o H' => wp (zcf o fun vs => ret (zca [zc vs 0])) Q H') H2 := by
    intro w H2 rw2 k2 f2
    have kk : Keeps [] H H2 := k1.trans k2 (fun b hb hm => by simp at hm; omega)
    have hp1 : zhr H1 p (mid l) v l.length := k1.get hh (by simp)
    have hp2 : zhr H2 p (mid l) v l.length := kk.get hh (by simp)
    have hb : build [Value.int .u32 0, Value.int .u32 0, Value.int .u32 0, Value.int .u32 0, Value.int .u32 0, Value.int .u32 0, Value.int .u32 0, Value.int .u32 0, Value.slice none 0 0, Value.int .i64 0] [(0, 8, .agg (mid l).cells.toArray), (8, 1, w), (9, 1, i64 l.length)] = some (.agg ((mid l).cells ++ [w, i64 l.length]).toArray) := by
      rcases rw2 with ⟨rfl, _⟩ | ⟨b, o, c, cs, rfl, _⟩ <;> rfl
    have hone : ((mid l).cells ++ [w, i64 l.length]).all Value.isOne = true := by
      rw [List.all_append, show (mid l).cells.all Value.isOne = true from rfl]; simp [rw2.isOne]
    simp only [hb, zbs, zz, zk, zz6]
    refine (zbuj hone).mpr ?_
    have c1 : chk (ldn 8 (ptr p 0)) H1 (.agg (mid l).cells.toArray) = true := by rw [zbuk hp1 (by show 0 + 8 ≤ 10; omega)]; exact zbmb _
    have c2 : chk (ldn 8 (ptr p 0)) H2 (.agg (mid l).cells.toArray) = true := by rw [zbuk hp2 (by show 0 + 8 ≤ 10; omega)]; exact zbmb _
    have c3 : chk (z7 (ptr p 8)) H1 v = true := by
      rw [z33, hp1.c8]
      rcases hr with ⟨rfl, _⟩ | ⟨b, o, c, cs, rfl, _⟩ <;> simp
    have c4 : chk (z7 (ptr p 9)) H1 (i64 l.length) = true := by rw [z33, hp1.c9]; simp
    have c5 : chk (z7 (ptr p 9)) H2 (i64 l.length) = true := by rw [z33, hp2.c9]; simp
    simp only [c1, c2, c3, c4, c5, z30, wp_ret, zk2, zk3, zbp]
    have kp : Keeps [] H2 (H2.push (some (.cells true ((mid l).cells ++ [w, i64 l.length])))) := Keeps.push _ _ _
    have hn2 := kk.next
    refine hQ H2.next w _ ⟨Heap.get_push_self _ _, rw2.keep kp (by simp), fun hm => by have := rw2.lt _ hm; omega, fun hm => by have := f2 _ hm; omega⟩ f2 (kk.trans kp (by simp)) (by omega) (by simp)
  have o1 : Own H1 (slc H.next 0 1 0 0) [] := .inr ⟨H.next, rfl, g1⟩
  have hr1 : zug H1 v ((tail l).map B) := hr.keep k1 (by simp)
  have hcs := hr1.cells
  have hform : ∃ a c, v = .slice a ((tail l).map B).length c := by
    rcases hr with ⟨rfl, e⟩ | ⟨b, o, c, cs, rfl, _⟩
    · exact ⟨none, 0, by rw [e]; rfl⟩
    · exact ⟨_, _, rfl⟩
  obtain ⟨a, c, hform⟩ := hform
  by_cases h0 : (tail l).length = 0
  · have hz : ((tail l).map B).length = 0 := by simpa using h0
    refine ⟨slc H.next 0 1 0 0, H1, ?_, ?_⟩
    · rw [hform, hz]; simp [ze6, zr4]
    · exact key _ H1 (by rw [List.eq_nil_of_length_eq_zero h0]; exact Own.rest o1) (Keeps.refl _ _) (by simp)
  · have hz : ((tail l).map B).length ≠ 0 := by simpa using h0
    refine zbua o1 hform hcs hz rfl (by simp) (by simp; omega) (by simp; omega) fun b H2 q1 q2 q3 _ => ?_
    exact key _ H2 (by have := Own.rest q1; simpa using this) q2 (by simp; omega)
theorem zbob (H : Heap) (f w0 : V) (l0 : List (BitVec 8)) (bits : BitVec 64) (hl : l0.length ≤ 2199023255552) (h0 : Own H w0 (l0.map B)) (H0 : Heap) (hk0 : Keeps [] H0 H) (hf00 : ∀ x ∈ vb w0, H0.next ≤ x) (Q : Out → Heap → Prop)
    (hQ : ∀ v H', Own H' v ((l0 ++ be bits 8).map B) → Keeps [] H0 H' → (∀ x ∈ vb v, H0.next ≤ x) → Q (.brk 0 [f, v]) H') : wp (zce zcc zqs [f, W bits, w0, i64 7]) Q H := by
  refine zbt (Inv := fun k vs H2 => ∃ j w2, k = 8 - j ∧ j ≤ 8 ∧ vs = [f, W bits, w2, i64 (7 - j)] ∧ Own H2 w2 ((l0 ++ be bits j).map B) ∧ Keeps [] H0 H2 ∧ ∀ x ∈ vb w2, H0.next ≤ x) (n := 8) (by decide)
    ⟨0, _, by omega, by omega, rfl, by simpa [be] using h0, hk0, hf00⟩ ?_
  rintro k2 vs H2 ⟨j, w2, hk2, hj, rfl, ho2, hke2, hf2⟩
  by_cases h8 : j < 8
  · have hd2 : decide ((7 : Int) - j ≥ 0) = true := by simp; omega
    have e8 : (8 * ((7 : Int) - j)).toNat = 8 * (7 - j) := by omega
    have hlen2 : ((l0 ++ be bits j).map B).length = l0.length + j := by simp [be]
    simp (disch := first | omega | simp) only [zqs, z5g, zbp, zcg, zk, zbs, zwn, zz, hd2, zft, wp_ret, zdi, z32, i64_in, zbt6, e8, zbxy]
    refine z1f (new := [B ((bits >>> (8 * (7 - j))).setWidth 8)]) ho2 (by rfl) (by rfl) (by omega) (by rfl) (by rfl) (by rw [hlen2]; omega) (by rw [hlen2]; omega) fun c H3 o3 k3 f3 => ?_
    simp (disch := first | omega | simp) only [z5f, wp_ret, zew, zdi, zbp, zcg, zk, zbs, zwm, i64_in, zz]
    refine ⟨8 - (j + 1), by omega, j + 1, _, rfl, by omega, by rw [show (7 : Int) - j - 1 = 7 - ((j + 1 : Nat) : Int) by omega], ?_, hke2.trans k3 (fun b hb hm => by have := hf2 b hm; omega), fun x hx => by simp at hx; have := hke2.next; omega⟩
    have : (l0 ++ be bits (j + 1)).map B = (l0 ++ be bits j).map B ++ [B ((bits >>> (8 * (7 - j))).setWidth 8)] := by simp [zbuf]
    rw [this]; exact o3
  · have hd2 : decide ((7 : Int) - j ≥ 0) = false := by simp; omega
    have : j = 8 := by omega
    subst this
    simp only [zqs, zbp, zcg, zk, zbs, zwn, zz, hd2, zeg, wp_ret, zm2]
    exact hQ _ _ ho2 hke2 hf2
theorem zbjx (H : Heap) (p : Nat) (s : St) (v : V) (long : Nat) (l : List (BitVec 8)) (hh : zhr H p s v long) (hr : zug H v (l.map B)) (hpv : p ∉ vb v) (ht : Tab H) (hp1 : p ≠ gid_sha_rounds) (hl : l.length ≤ 2199023255552) (hl0 : l.length % 64 = 0) (Q : Out → Heap → Prop)
    (hQ : ∀ v' H', zhr H' p (s.run l (l.length / 64)) v' long → Keeps [p] H H' → Q (.brk 2 [ptr p 0]) H') :
    wp (zce zcc zqt [ptr p 0]) Q H := by
  refine zbt (Inv := fun k vs H' => ∃ n v', k = l.length / 64 - n ∧ n ≤ l.length / 64 ∧ vs = [ptr p 0] ∧ zhr H' p (s.run l n) v' long ∧ zug H' v' ((l.drop (64 * n)).map B) ∧ Keeps [p] H H' ∧ vb v' = vb v) (n := l.length / 64) (by unfold zcc; omega)
    ⟨0, v, by omega, by omega, rfl, hh, by simpa using hr, Keeps.refl _ _, rfl⟩ ?_
  rintro k vs H' ⟨n, v', hk, hn, rfl, hh', hr', hke, hvb⟩
  have hlen : ((l.drop (64 * n)).map B).length = l.length - 64 * n := by simp
  by_cases h : n < l.length / 64
  · have hd : decide (((l.length - 64 * n : Nat) : Int) > 0) = true := by simp; omega
    obtain ⟨b, o, c, cs, q1, q2, q3, q4, w, q5, q6, q7⟩ := zbma hr' (by simp; omega)
    have hbp : b ≠ p := fun e => hpv (by rw [← hvb, q1, e]; simp)
    obtain ⟨rw1, ks, t1, t2⟩ := ht.keep hke (by simpa using fun e => hp1 e.symm)
    simp (disch := first | omega | simp) only [zqt, z5i, zbp, zcg, zk, zbs, zgl, zhw, Nat.zero_add, zz, zii, hh'.c8, hr'.len, hlen, z8m, hd, zft, wp_ret, zdi, q3, Nat.add_zero]
    show wp (ziv (ptr p 0) (slc b o 1 64 c)) _ H'
    refine zbb8 (zbqp H' p b o 1 c (l.drop (64 * n)) (s.run l n) [v', i64 long] ks cs rw1 true t2 t1 q2 q4 hh' (Heap.get_lt t1) (Heap.get_lt q2) hh'.lt) ?_
    rintro r H2 ⟨k2, g2⟩
    have c8 : zhl H2 (ptr p 8) = some v' := zhr.c8 (s := (s.run l n).take (l.drop (64 * n))) (long := long) g2
    have hst : (s.run l n).take (l.drop (64 * n)) = s.run l (n + 1) := by
      rw [St.run]
      refine zbuh _ _ _ fun i hi => ?_
      simp [hi]
    simp (disch := first | omega | simp) only [zew, zdi, z5h, zbp, zk, zbs, zgl, zhw, Nat.zero_add, zii, c8, zz, q5]
    have ho : w.isOne = true := (q7 H' rfl).isOne
    refine (zxx g2 ho (by simp [St.cells])).mpr ?_
    have hset : (((s.run l n).take (l.drop (64 * n))).cells ++ [v', i64 long]).set 8 w = (s.run l (n + 1)).cells ++ [w, i64 long] := by rw [hst]; rfl
    simp only [wp_ret, hset]
    have kk : Keeps [p] H' (H2.set p (some (.cells true ((s.run l (n + 1)).cells ++ [w, i64 long])))) := k2.trans (Keeps.set (by simp)) (fun _ _ h => h)
    refine ⟨l.length / 64 - (n + 1), by omega, n + 1, w, rfl, by omega, by trivial, Heap.get_set_self (Heap.get_lt g2), ?_, hke.trans kk (fun _ _ h => h), by rw [q6, ← q1, hvb]⟩
    have := q7 _ (kk.same b (Heap.get_lt q2) (by simpa using hbp))
    rw [List.drop_drop, show 64 * n + 64 = 64 * (n + 1) by omega] at this
    exact this
  · have hd : decide (((l.length - 64 * n : Nat) : Int) > 0) = false := by simp; omega
    have : n = l.length / 64 := by omega
    subst this
    simp (disch := first | omega | simp) only [zqt, zbp, zcg, zk, zbs, zgl, zhw, Nat.zero_add, zz, zii, hh'.c8, hr'.len, hlen, z8m, hd, zeg, wp_ret, zm2]
    exact hQ v' H' hh' hke
theorem zbqs (H : Heap) (s : St) (Q : Out → Heap → Prop)
    (hQ : ∀ v H', Own H' v (s.bytes.map B) → Keeps [] H H' → Q (.brk 4 [v]) H') : wp (zce zcc zqu [.slice none 0 0, .agg s.cells.toArray, i64 0]) Q H := by
  have hcell : ∀ (i : Nat) (h : i < 8), zbtp 8 (.agg s.cells.toArray) (i64 i) = some (U (s.l.getD i 0)) := by
    intro i h
    have h8 : i = 0 ∨ i = 1 ∨ i = 2 ∨ i = 3 ∨ i = 4 ∨ i = 5 ∨ i = 6 ∨ i = 7 := by omega
    rcases h8 with h | h | h | h | h | h | h | h <;> subst h <;> rfl
  refine zbt (Inv := fun k vs H' => ∃ i v, k = 8 - i ∧ i ≤ 8 ∧ vs = [v, .agg s.cells.toArray, i64 i] ∧ Own H' v (((s.l.take i).flatMap zuf).map B) ∧ Keeps [] H H' ∧ ∀ x ∈ vb v, H.next ≤ x) (n := 8) (by decide)
    ⟨0, _, by omega, by omega, rfl, Own.nil _, Keeps.refl _ _, by simp⟩ ?_
  rintro k vs H' ⟨i, v, hk, hi, rfl, ho, hke, hf⟩
  by_cases h : i < 8
  · have hd : decide ((i : Int) < 8) = true := by simp; omega
    have hlen4 : (((s.l.take i).flatMap zuf).map B).length = 4 * i := by
      have h8 : i = 0 ∨ i = 1 ∨ i = 2 ∨ i = 3 ∨ i = 4 ∨ i = 5 ∨ i = 6 ∨ i = 7 := by omega
      rcases h8 with h | h | h | h | h | h | h | h <;> subst h <;> rfl
    simp (disch := first | omega | simp) only [zqu, z5k, zbp, zcg, zk, zbs, zge, zz, hd, zft, wp_ret, zdi, hcell i h, zbg6, zbxv, Int.reduceToNat]
    refine z1f (new := (zuf (s.l.getD i 0)).map B) ho (by rfl) (by rfl) (by omega) (by rfl) (by rfl) ?_ ?_ fun c H3 o3 k3 f3 => ?_
    · rw [hlen4]; omega
    · rw [hlen4]; omega
    simp (disch := first | omega | simp) only [z5j, wp_ret, zew, zdi, zbp, zcg, zk, zbs, zks, i64_in, zz]
    refine ⟨8 - (i + 1), by omega, i + 1, _, rfl, by omega, rfl, ?_, hke.trans k3 (fun b hb hm => by have := hf b hm; omega), fun x hx => by rw [zbxz, List.mem_singleton] at hx; have := hke.next; omega⟩
    have : ((s.l.take (i + 1)).flatMap zuf).map B = ((s.l.take i).flatMap zuf).map B ++ (zuf (s.l.getD i 0)).map B := by
      rw [List.take_succ, List.flatMap_append, List.map_append]
      simp [show i < s.l.length from h]
    rw [this]; exact o3
  · have hd : decide ((i : Int) < 8) = false := by simp; omega
    have : i = 8 := by omega
    subst this
    simp only [zqu, zbp, zcg, zk, zbs, zge, zz, hd, zeg, wp_ret, zm2]
    exact hQ v H' ho hke
theorem zbym {v : V} {l : List V} {n : Nat} {H : Heap} {Q : V → Heap → Prop} (hv : Own H v l) (hb : l.length + n ≤ 1099511627776)
    (hQ : ∀ w H', Own H' w (l ++ List.replicate n (Value.int .u8 0)) → Keeps (vb v) H H' → (∀ x ∈ vb w, H.next ≤ x ∨ x ∈ vb v) → Q w H') : wp (appZ 1 1 [Value.int .u8 0] v (i64 n)) Q H := by
  have hrep : ∀ n, rep n [Value.int .u8 0] = List.replicate n (Value.int .u8 0) := by
    intro n
    induction n with
    | zero => rfl
    | succ n ih => simp only [rep, ih]; rfl
  have hc : ([Value.int .u8 0].all zno = true ∧ 0 ≤ (n : Int) ∧ (n : Int).toNat * 1 ≤ 35184372088832 ∧ (n : Int).toNat ≤ 35184372088832) := ⟨rfl, by omega, by simp; omega, by simp; omega⟩
  have e : appZ 1 1 [Value.int .u8 0] v (i64 n) = zr4 1 1 v n (some (List.replicate n (Value.int .u8 0))) := by
    funext K
    simp only [appZ]
    rw [if_pos hc]
    simp [hrep]
  rw [e]
  by_cases h0 : n = 0
  · subst h0
    refine ⟨v, H, ?_, hQ v H (by simpa using hv) (Keeps.refl _ _) (fun x hx => .inr hx)⟩
    rcases hv with ⟨rfl, _⟩ | ⟨b, rfl, _⟩ <;> rfl
  · have := zbjv (new := List.replicate n (Value.int .u8 0)) (bytes := 1) (Q := Q) (Own.rest hv) (by simp [h0]) (by simp) (by simp; omega) (by simp; omega) (fun b H' h1 h2 h3 => hQ _ H' h1 h2 (fun x hx => by simp at hx; exact .inl (by omega)))
    simpa using this
theorem zbv0 {v x : V} {l new : List V} {bytes : Nat} {H : Heap} {Q : V → Heap → Prop} (hv : zug H v l) (hx : Own H x new) (hne : new ≠ []) (hone : new.all Value.isOne = true)
    (hb : (l.length + new.length) * bytes ≤ 35184372088832) (hb2 : l.length + new.length ≤ 35184372088832) (hQ : ∀ b H', Own H' (slc b 0 1 (l ++ new).length (l ++ new).length) (l ++ new) → Keeps (vb v) H H' → b = H.next → Q (slc b 0 1 (l ++ new).length (l ++ new).length) H') :
    wp (ze6 1 bytes v x) Q H := by
  have hc := (Own.rest hx).cells
  rcases hx with ⟨_, h0⟩ | ⟨b, rfl, hg⟩
  · exact absurd h0 hne
  · have := zbjv hv hne hone hb hb2 hQ
    obtain ⟨a, H', h1, h2⟩ := this
    exact ⟨a, H', by simp only [ze6]; rw [hc]; exact h1, h2⟩
theorem zbs8 (H : Heap) (p : Nat) (l : List (BitVec 8)) (v : V) (hh : zto H p l v) (ht : Tab H) (hp1 : p ≠ gid_sha_rounds) (hl : l.length ≤ 1099511627776) (Q : V → Heap → Prop) (hQ : ∀ H', Keeps [] H H' → Q (.string (sv (sum l))) H') : wp (zol [ptr p 0]) Q H := by
  show wp (zs7 (ptr p 0)) Q H
  have hnext : gid_sha_rounds < H.next := by obtain ⟨_, _, t, _⟩ := ht; exact Heap.get_lt t
  simp only [zs7, zk]
  show wp (zmp (ptr p 0)) _ H
  have hh0 := hh
  obtain ⟨gp0, _, _, _⟩ := hh0
  refine zbqr H p l v hh hl hnext _ fun q vq H1 hq hfresh k1 hq1 hq2 => ?_
  obtain ⟨gq, rq, hqv, h1q⟩ := hq
  have gp : zhr H1 p (mid l) v l.length := k1.get gp0 (by simp)
  have hm : ((l.length : Nat) : Int).tmod 64 = ((l.length % 64 : Nat) : Int) := by rw [Int.tmod_eq_emod_of_nonneg (by omega)]; rfl
  have hs : (119 : Int) - ((l.length % 64 : Nat) : Int) = ((119 - l.length % 64 : Nat) : Int) := by omega
  have hm2 : (((119 - l.length % 64 : Nat) : Int)).tmod 64 = ((zg0 l.length : Nat) : Int) := by rw [Int.tmod_eq_emod_of_nonneg (by omega)]; unfold zg0; rfl
  have hz : zg0 l.length < 64 := by unfold zg0; omega
  simp (disch := first | omega | decide | simp) only [zbs, zgl, zhw, Nat.zero_add, zz, zii, gp.c9, zbt8, show Value.int .u64 8 = W 8#64 from rfl, zbt7]
  generalize hbits : BitVec.ofNat 64 l.length * 8#64 = bits
  refine zbd4 (new := [B 128#8]) (by decide) (by rfl) (by rfl) fun w0 H2 o2 k2 f2 => ?_
  have gp2 : zhr H2 p (mid l) v l.length := k2.get gp (by simp)
  simp (disch := first | omega | decide | simp) only [zk, zbs, zgl, zhw, Nat.zero_add, zz, zii, gp2.c9, zbcb, hm, zwm, hs, i64_in, hm2]
  refine zbym o2 (by simp; omega) fun w3 H3 o3 k3 f3 => ?_
  have k13 : Keeps [] H1 H3 := k2.trans k3 (fun b hb hm => by have := f2 b hm; omega)
  have hq3 : H1.next ≤ H3.next := k13.next
  have f13 : ∀ x ∈ vb w3, H1.next ≤ x := fun x hx => by rcases f3 x hx with h | h; have := k2.next; omega; exact f2 x h
  have hb3 : [B 128#8] ++ List.replicate (zg0 l.length) (Value.int .u8 0) = ([128#8] ++ List.replicate (zg0 l.length) 0#8).map B := by simp
  rw [hb3] at o3
  refine zbob H3 (ptr q 0) w3 _ bits (by simp; omega) o3 H1 k13 f13 _ fun w4 H4 o4 k4 f4 => ?_
  have gq4 : zhr H4 q (mid l) vq l.length := k4.get gq (by simp)
  have rq4 : zug H4 vq ((tail l).map B) := rq.keep k4 (by simp)
  simp (disch := first | omega | decide | simp) only [wp_ret, zfh, if_true, zdi, z2w, zbp, zcg, zk, zbs, zgl, zhw, Nat.zero_add, zz, zii, gq4.c8]
  have hqlt := rq.lt
  have hne : ([128#8] ++ List.replicate (zg0 l.length) 0#8 ++ be bits 8).map B ≠ [] := by simp
  have hlen : (([128#8] ++ List.replicate (zg0 l.length) 0#8 ++ be bits 8).map B).length = 9 + zg0 l.length := by simp [be]; omega
  have htl := z08 l
  refine zbv0 rq4 o4 hne (by simp) (by rw [hlen]; simp; omega) (by rw [hlen]; simp; omega) fun b H5 o5 k5 e5 => ?_
  have gq5 : zhr H5 q (mid l) vq l.length := k5.get gq4 hqv
  rw [← List.map_append] at o5 ⊢
  generalize hall : tail l ++ ([128#8] ++ List.replicate (zg0 l.length) 0#8 ++ be bits 8) = all at o5 ⊢
  have hal : all.length = l.length % 64 + 9 + zg0 l.length := by rw [← hall]; simp [htl, be]; omega
  refine (zxx gq5 (by rfl) (by show 8 < 10; omega)).mpr ?_
  have hset2 : ((mid l).cells ++ [vq, i64 l.length]).set 8 (slc b 0 1 (all.map B).length (all.map B).length) = (mid l).cells ++ [slc b 0 1 (all.map B).length (all.map B).length, i64 l.length] := rfl
  rw [hset2]
  generalize hH6 : H5.set q (some (.cells true ((mid l).cells ++ [slc b 0 1 (all.map B).length (all.map B).length, i64 l.length]))) = H6
  have gq6 : zhr H6 q (mid l) (slc b 0 1 (all.map B).length (all.map B).length) l.length := by rw [← hH6]; exact Heap.get_set_self gq5.lt
  have k6 : Keeps [q] H5 H6 := by rw [← hH6]; exact Keeps.set (by simp)
  have hn4 := k4.next
  have hn5 := k5.next
  have hqn := gq.lt
  have hbq : b ≠ q := by omega
  have k46 : Keeps (q :: vb vq) H4 H6 := (Keeps.mono (S' := q :: vb vq) k5 (fun x hx => by simp [hx])).trans (Keeps.mono (S' := q :: vb vq) k6 (by simp)) (fun _ _ h => h)
  have ht1 : Tab H1 := ht.keep k1 (by simp)
  have hn1 := k1.next
  have ht6 : Tab H6 := (ht1.keep k4 (by simp)).keep k46 (by simp only [List.mem_cons, not_or]; exact ⟨by omega, h1q⟩)
  have o6 : Own H6 (slc b 0 1 (all.map B).length (all.map B).length) (all.map B) := o5.keep k6 (by simpa using hbq)
  have hz0 : zg0 l.length = (119 - l.length % 64) % 64 := rfl
  refine zbjx H6 q (mid l) _ l.length all gq6 (Own.rest o6) (by simpa using fun e => hbq e.symm) ht6 (by omega) (by omega) (by omega) _ fun v7 H7 g7 k7 => ?_
  simp (disch := first | omega | decide | simp) only [wp_ret, zfh, if_true, zdi, z2v, zbp, zcg, zk, zbs, zgl, zhw, Nat.zero_add, zz]
  refine (zbay (n := 8) g7 (by show 0 + 8 ≤ 10; omega)).mpr ?_
  generalize hfin : (mid l).run all (all.length / 64) = fin at g7 ⊢
  have hd8 : ((fin.cells ++ [v7, i64 l.length]).drop 0).take 8 = fin.cells := rfl
  rw [hd8]
  refine zbqs H7 fin _ fun v8 H8 o8 k8 => ?_
  simp (disch := first | omega | decide | simp) only [wp_ret, zfh, if_true, zdi, z5l, zbp, zcg, zk]
  refine zbsl o8 (z2g _) ?_
  simp only [wp_ret, zk2, zk3, zbp]
  have hres : (⟨(fin.bytes.map UInt8.ofBitVec).toArray⟩ : ByteArray) = sv (sum l) := by
    have hm := (zbjw l ([128#8] ++ List.replicate (zg0 l.length) 0#8 ++ be bits 8)).1
    rw [hall, hfin] at hm
    rw [← hm, sv, sum, mid, ← hbits]
    simp only [pad, List.append_assoc]
  rw [hres]
  have kq : ∀ x, x < H.next → x ≠ q := fun x hx => by omega
  have kv : ∀ x ∈ vb vq, x < H1.next := hqlt
  refine hQ H8 ⟨by have := k46.next; have := k7.next; have := k8.next; omega, fun x hx _ => ?_⟩
  have hx1 : x < H1.next := by omega
  rw [k8.same x (by have := k46.next; have := k7.next; omega) (by simp), k7.same x (by have := k46.next; omega) (by simp; omega), k46.same x (by omega) ?_, k4.same x hx1 (by simp), k1.same x hx (by simp)]
  simp only [List.mem_cons, not_or]
  exact ⟨by omega, fun hm => by have := hfresh x hm; omega⟩
end Go.AM.Cap
