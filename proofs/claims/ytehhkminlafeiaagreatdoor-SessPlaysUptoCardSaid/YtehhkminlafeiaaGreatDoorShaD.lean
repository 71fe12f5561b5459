import Derived.Test.YtehhkminlafeiaaGreatDoorShaC
set_option linter.all false
/- sha: ShaD -/
namespace Go.AM.Cap
open Go.AM Go.Proofs
def zug (H : Heap) (v : V) (l : List V) : Prop := (v = .slice none 0 0 ∧ l = []) ∨ ∃ b o c cs, v = slc b o 1 l.length c ∧ l.length ≤ c ∧ H.get b = some (.cells true cs) ∧ (l = [] ∨ (o + l.length ≤ cs.length ∧ (cs.drop o).take l.length = l))
theorem zug.keep {S : List Nat} {H H' : Heap} {v : V} {l : List V} (h : zug H v l) (hk : Keeps S H H') (hn : ∀ b ∈ vb v, b ∉ S) : zug H' v l := by
  rcases h with h | ⟨b, o, c, cs, rfl, hc, hb, hl⟩
  · exact .inl h
  · exact .inr ⟨b, o, c, cs, rfl, hc, hk.get hb (hn b (by simp)), hl⟩
theorem zug.len {H : Heap} {v : V} {l : List V} (h : zug H v l) : zb9 v = some (i64 l.length) := by
  rcases h with ⟨rfl, rfl⟩ | ⟨b, o, c, cs, rfl, hc, hb, hl⟩ <;> rfl
theorem zug.lt {H : Heap} {v : V} {l : List V} (h : zug H v l) : ∀ b ∈ vb v, b < H.next := by
  rcases h with ⟨rfl, rfl⟩ | ⟨b, o, c, cs, rfl, hc, hb, hl⟩
  · simp
  · simpa using Heap.get_lt hb
theorem Own.rest {H : Heap} {v : V} {l : List V} (h : Own H v l) : zug H v l := by
  rcases h with h | ⟨b, rfl, hb⟩
  · exact .inl h
  · exact .inr ⟨b, 0, l.length, l, rfl, Nat.le_refl _, hb, .inr ⟨by omega, by simp⟩⟩
theorem zug.cells {H : Heap} {v : V} {l : List V} (h : zug H v l) : zcw H 1 v = some l := by
  rcases h with ⟨rfl, rfl⟩ | ⟨b, o, c, cs, rfl, hc, hb, hl⟩
  · rfl
  · simp only [zcw]
    by_cases h0 : l.length = 0
    · rw [if_pos h0, List.eq_nil_of_length_eq_zero h0]
    · rw [if_neg h0]
      rcases hl with rfl | ⟨h1, h2⟩
      · simp at h0
      · simp [cellsAt, hb, h1, h2]
theorem zbjv {v : V} {l new : List V} {bytes : Nat} {H : Heap} {Q : V → Heap → Prop} (hv : zug H v l) (hne : new ≠ []) (hone : new.all Value.isOne = true)
    (hb : (l.length + new.length) * bytes ≤ 35184372088832) (hb2 : l.length + new.length ≤ 35184372088832) (hQ : ∀ b H', Own H' (slc b 0 1 (l ++ new).length (l ++ new).length) (l ++ new) → Keeps (vb v) H H' → b = H.next → Q (slc b 0 1 (l ++ new).length (l ++ new).length) H') :
    wp (zr4 1 bytes v new.length (some new)) Q H := by
  have hn0 : new.length ≠ 0 := fun h => hne (List.eq_nil_of_length_eq_zero h)
  have hcs := hv.cells
  rcases hv with ⟨rfl, rfl⟩ | ⟨b, o, c, cs, rfl, hc, hg, hl⟩
  · refine ⟨slc H.next 0 1 new.length new.length, H.push (some (.cells true new)), ?_, ?_⟩
    · have e2 : zxk H 1 (.slice none 0 0) = some H := rfl
      simp only [List.length_nil, Nat.zero_add] at hb hb2
      simp only [zr4, hn0, if_false, hcs, e2]
      rw [if_pos ⟨by rw [Nat.zero_add]; exact hb, by omega, hone, by omega⟩]
      simp
    · have := hQ H.next (H.push (some (.cells true new))) (.inr ⟨H.next, by simp, Heap.get_push_self _ _⟩) (Keeps.push _ _ _) rfl
      simpa using this
  · refine ⟨slc H.next 0 1 (l.length + new.length) (l.length + new.length), (H.set b none).push (some (.cells true (l ++ new))), ?_, ?_⟩
    · simp only [zr4, hn0, if_false, hcs, zxk, hg, if_true]
      rw [if_pos ⟨hb, hb2, hone, by omega⟩]
      simp
    · have := hQ H.next ((H.set b none).push (some (.cells true (l ++ new)))) (.inr ⟨H.next, by simp, by have := Heap.get_push_self (H.set b none) (some (.cells true (l ++ new))); simpa using this⟩) ⟨by simp, fun c hc hn => by rw [Heap.get_push_lt (by simpa using hc), Heap.get_set_ne _ _ _ (by simpa using hn)]⟩ rfl
      simpa using this
def Tab (H : Heap) : Prop := ∃ rw ks, H.get gid_sha_rounds = some (.cells rw ks) ∧ ∀ i, i < 64 → ks[i]? = some (U (tab.getD i 0))
theorem Tab.keep {S : List Nat} {H H' : Heap} (h : Tab H) (hk : Keeps S H H') (hn : gid_sha_rounds ∉ S) : Tab H' := by
  obtain ⟨rw, ks, h1, h2⟩ := h; exact ⟨rw, ks, hk.get h1 hn, h2⟩
def zhr (H : Heap) (p : Nat) (s : St) (v : V) (long : Nat) : Prop := H.get p = some (.cells true (s.cells ++ [v, i64 long]))
theorem zhr.c8 {H : Heap} {p : Nat} {s : St} {v : V} {long : Nat} (h : zhr H p s v long) : zhl H (ptr p 8) = some v := by rw [zea h]; rfl
theorem zhr.c9 {H : Heap} {p : Nat} {s : St} {v : V} {long : Nat} (h : zhr H p s v long) : zhl H (ptr p 9) = some (i64 long) := by rw [zea h]; rfl
theorem zhr.len (s : St) (v w : V) : (s.cells ++ [v, w]).length = 10 := rfl
theorem zhr.lt {H : Heap} {p : Nat} {s : St} {v : V} {long : Nat} (h : zhr H p s v long) : p < H.next := Heap.get_lt h
theorem zug.isOne {H : Heap} {v : V} {l : List V} (h : zug H v l) : v.isOne = true := by
  rcases h with ⟨rfl, rfl⟩ | ⟨b, o, c, cs, rfl, hc, hb, hl⟩ <;> rfl
theorem zbma {H : Heap} {v : V} {l : List (BitVec 8)} (h : zug H v (l.map B)) (hl : 64 ≤ l.length) : ∃ b o c cs, vb v = [b] ∧ H.get b = some (.cells true cs) ∧ zh7 1 v none (some (.int .i64 64)) = some (slc b o 1 64 c) ∧ (∀ i, i < 64 → cs[o + i]? = some (B (l.getD i 0))) ∧
    ∃ w, zh7 1 v (some (.int .i64 64)) none = some w ∧ vb w = [b] ∧ ∀ H2, H2.get b = H.get b → zug H2 w ((l.drop 64).map B) := by
  rcases h with ⟨_, h2⟩ | ⟨b, o, c, cs, rfl, hc, hb, hcs⟩
  · have := congrArg List.length h2; simp only [List.length_map, List.length_nil] at this; omega
  · simp only [List.length_map] at hc hcs
    have hne : l.map B ≠ [] := fun h => by have := congrArg List.length h; simp only [List.length_map, List.length_nil] at this; omega
    obtain ⟨h1, h2⟩ := hcs.resolve_left hne
    have hget : ∀ i, i < l.length → cs[o + i]? = some (B (l.getD i 0)) := by
      intro i hi
      have : ((cs.drop o).take l.length)[i]? = (l.map B)[i]? := by rw [h2]
      simp only [List.getElem?_take, hi, if_true, List.getElem?_drop] at this
      rw [this]; simp [hi]
    refine ⟨b, o, c, cs, rfl, hb, ?_, fun i hi => hget i (by omega), ?_⟩
    · have e1 : zd5 l.length c (some (.int .i64 64)) = some 64 := by simp [zd5]; omega
      have e2 : zd5 0 64 none = some 0 := rfl
      simp only [List.length_map, zh7, e1, e2]
      simp [zp1, show c ≠ 0 by omega]
    · have e1 : zd5 0 l.length (some (.int .i64 64)) = some 64 := by simp [zd5]; omega
      refine ⟨zp1 b o 1 64 l.length c 1, ?_, ?_, fun H2 hH2 => ?_⟩
      · have e2 : zd5 l.length c none = some l.length := rfl
        simp only [List.length_map, zh7, e1, e2]
        simp
      · unfold zp1; split <;> rfl
      · unfold zp1
        split
        · refine .inr ⟨b, o, c - 64, cs, by simp, by simp; omega, by rw [hH2]; exact hb, .inl ?_⟩
          rw [List.drop_eq_nil_of_le (by omega)]; rfl
        · refine .inr ⟨b, o + 64 * 1, c - 64, cs, by simp, by simp; omega, by rw [hH2]; exact hb, .inr ⟨by simp; omega, ?_⟩⟩
          rw [List.map_drop, ← h2, List.length_drop, List.drop_take]
          simp [h2]
theorem zbuh (s : St) (a b : List (BitVec 8)) (h : ∀ i, i < 64 → a.getD i 0 = b.getD i 0) : s.take a = s.take b := by
  have hw : ∀ t, t ≤ 64 → words a t = words b t := by
    intro t
    induction t with
    | zero => intro _; rfl
    | succ t ih =>
      intro ht
      simp only [words, ih (by omega)]
      split
      · simp only [zbl8, h (4 * t) (by omega), h (4 * t + 1) (by omega), h (4 * t + 2) (by omega), h (4 * t + 3) (by omega)]
      · rfl
  simp only [St.take, hw 64 (by omega)]
theorem zbs6 (H : Heap) (p : Nat) (s : St) (v : V) (long : Nat) (l : List (BitVec 8)) (hh : zhr H p s v long) (hr : zug H v (l.map B)) (hpv : p ∉ vb v) (ht : Tab H) (hp1 : p ≠ gid_sha_rounds) (hl : l.length ≤ 2199023255552) (Q : Out → Heap → Prop)
    (hQ : ∀ v' H', zhr H' p (s.run l (l.length / 64)) v' long → zug H' v' ((l.drop (64 * (l.length / 64))).map B) → Keeps [p] H H' → vb v' = vb v → Q (.brk 0 []) H') :
    wp (zce zcc zj6 [ptr p 0]) Q H := by
  refine zbt (Inv := fun k vs H' => ∃ n v', k = l.length / 64 - n ∧ n ≤ l.length / 64 ∧ vs = [ptr p 0] ∧ zhr H' p (s.run l n) v' long ∧ zug H' v' ((l.drop (64 * n)).map B) ∧ Keeps [p] H H' ∧ vb v' = vb v) (n := l.length / 64) (by unfold zcc; omega)
    ⟨0, v, by omega, by omega, rfl, hh, by simpa using hr, Keeps.refl _ _, rfl⟩ ?_
  rintro k vs H' ⟨n, v', hk, hn, rfl, hh', hr', hke, hvb⟩
  have hlen : ((l.drop (64 * n)).map B).length = l.length - 64 * n := by simp
  by_cases h : n < l.length / 64
  · have hd : decide (((l.length - 64 * n : Nat) : Int) ≥ 64) = true := by simp; omega
    obtain ⟨b, o, c, cs, q1, q2, q3, q4, w, q5, q6, q7⟩ := zbma hr' (by simp; omega)
    have hbp : b ≠ p := fun e => hpv (by rw [← hvb, q1, e]; simp)
    obtain ⟨rw1, ks, t1, t2⟩ := ht.keep hke (by simpa using fun e => hp1 e.symm)
    simp (disch := first | omega | simp) only [zj6, z0j, zbp, zcg, zk, zbs, zgl, zhw, Nat.zero_add, zz, zii, hh'.c8, hr'.len, hlen, zwn, hd, zft, wp_ret, zdi, q3, Nat.add_zero]
    show wp (ziv (ptr p 0) (slc b o 1 64 c)) _ H'
    refine zbb8 (zbqp H' p b o 1 c (l.drop (64 * n)) (s.run l n) [v', i64 long] ks cs rw1 true t2 t1 q2 q4 hh' (Heap.get_lt t1) (Heap.get_lt q2) hh'.lt) ?_
    rintro r H2 ⟨k2, g2⟩
    have c8 : zhl H2 (ptr p 8) = some v' := zhr.c8 (s := (s.run l n).take (l.drop (64 * n))) (long := long) g2
    have hst : (s.run l n).take (l.drop (64 * n)) = s.run l (n + 1) := by
      rw [St.run]
      refine zbuh _ _ _ fun i hi => ?_
      simp [List.getElem?_take, hi]
    simp (disch := first | omega | simp) only [c8, zz, q5]
    have ho : w.isOne = true := (q7 H' rfl).isOne
    refine (zxx g2 ho (by simp [St.cells])).mpr ?_
    have hset : (((s.run l n).take (l.drop (64 * n))).cells ++ [v', i64 long]).set 8 w = (s.run l (n + 1)).cells ++ [w, i64 long] := by rw [hst]; rfl
    simp only [zew, hset]
    have kk : Keeps [p] H' (H2.set p (some (.cells true ((s.run l (n + 1)).cells ++ [w, i64 long])))) := k2.trans (Keeps.set (by simp)) (fun _ _ h => h)
    refine ⟨l.length / 64 - (n + 1), by omega, n + 1, w, rfl, by omega, by trivial, Heap.get_set_self (Heap.get_lt g2), ?_, hke.trans kk (fun _ _ h => h), by rw [q6, ← q1, hvb]⟩
    have := q7 _ (kk.same b (Heap.get_lt q2) (by simpa using hbp))
    rw [List.drop_drop, show 64 * n + 64 = 64 * (n + 1) by omega] at this
    exact this
  · have hd : decide (((l.length - 64 * n : Nat) : Int) ≥ 64) = false := by simp; omega
    have : n = l.length / 64 := by omega
    subst this
    simp (disch := first | omega | simp) only [zj6, zbp, zcg, zk, zbs, zgl, zhw, Nat.zero_add, zz, zii, hh'.c8, hr'.len, hlen, zwn, hd, zeg, wp_ret, zm2]
    exact hQ v' H' hh' hr' hke hvb
theorem zbui (s : St) (l : List (BitVec 8)) (a : Nat) : ∀ b, s.run l (a + b) = (s.run l a).run (l.drop (64 * a)) b
  | 0 => rfl
  | b + 1 => by
    rw [← Nat.add_assoc, St.run, zbui s l a b, St.run, List.drop_drop, ← Nat.mul_add]
theorem zbqq (s : St) (l m : List (BitVec 8)) : ∀ a, 64 * a ≤ l.length → s.run (l ++ m) a = s.run l a
  | 0, _ => rfl
  | a + 1, h => by
    rw [St.run, St.run, zbqq s l m a (by omega), List.drop_append_of_le_length (by omega), List.take_append_of_le_length (by simp; omega)]
def tail (l : List (BitVec 8)) : List (BitVec 8) := l.drop (64 * (l.length / 64))
def mid (l : List (BitVec 8)) : St := St.init.run l (l.length / 64)
theorem z08 (l : List (BitVec 8)) : (tail l).length = l.length % 64 := by simp [tail]; omega
theorem zbjw (l m : List (BitVec 8)) : mid (l ++ m) = (mid l).run (tail l ++ m) ((tail l ++ m).length / 64) ∧ tail (l ++ m) = (tail l ++ m).drop (64 * ((tail l ++ m).length / 64)) := by
  have h1 : (tail l ++ m).length = l.length % 64 + m.length := by rw [List.length_append, z08]
  have h2 : (l ++ m).length / 64 = l.length / 64 + (tail l ++ m).length / 64 := by rw [h1, List.length_append]; omega
  have h3 : (l ++ m).drop (64 * (l.length / 64)) = tail l ++ m := by rw [List.drop_append_of_le_length (by omega)]; rfl
  constructor
  · rw [mid, h2, zbui, zbqq _ _ _ _ (by omega), h3]; rfl
  · rw [tail, h2, Nat.mul_add, ← List.drop_drop, h3]
def zto (H : Heap) (p : Nat) (l : List (BitVec 8)) (v : V) : Prop := zhr H p (mid l) v l.length ∧ zug H v ((tail l).map B) ∧ p ∉ vb v ∧ gid_sha_rounds ∉ vb v
theorem zto.keep {S : List Nat} {H H' : Heap} {p : Nat} {l : List (BitVec 8)} {v : V} (h : zto H p l v) (hk : Keeps S H H') (hs : ∀ b ∈ p :: vb v, b ∉ S) : zto H' p l v := by
  obtain ⟨h1, h2, h3, h4⟩ := h
  exact ⟨hk.get h1 (hs p (by simp)), h2.keep hk (fun b hb => hs b (by simp [hb])), h3, h4⟩
theorem zto.lt {H : Heap} {p : Nat} {l : List (BitVec 8)} {v : V} (h : zto H p l v) : ∀ b ∈ p :: vb v, b < H.next := by
  obtain ⟨h1, h2, _, _⟩ := h
  intro b hb
  rcases List.mem_cons.1 hb with rfl | hb
  · exact h1.lt
  · exact h2.lt b hb
theorem zb0y (s x : ByteArray) (v : V) : appS v (.string x) = zr4 1 1 v (zi1 x).length (some (zi1 x)) := by
  have : (zi1 x).length = x.size := by rw [zow]; simp [zb7]
  rw [this]; rfl
theorem zboa (H : Heap) (p : Nat) (l : List (BitVec 8)) (x : ByteArray) (v : V) (hh : zto H p l v) (ht : Tab H) (hp1 : p ≠ gid_sha_rounds) (hl : l.length + x.size ≤ 1099511627776) (Q : V → Heap → Prop)
    (hQ : ∀ H' v', zto H' p (l ++ bv x) v' → (∀ b ∈ vb v', b ∈ vb v ∨ H.next ≤ b) → Keeps (p :: vb v) H H' → Tab H' → Q (i64 0) H') : wp (zk9 [ptr p 0, .string x]) Q H := by
  obtain ⟨hh, hr, hpv, h1v⟩ := hh
  have hlt := hh.lt
  have hxl := zb7 x
  have htl := z08 l
  show wp (zo9 (ptr p 0) (.string x)) Q H
  have hd : decide ((x.size : Int) > 1099511627776 - (l.length : Int)) = false := by simp; omega
  simp (disch := first | omega | simp) only [zo9, zk, zbs, zxy, zz, zgl, zhw, Nat.zero_add, zii, hh.c9, zwm, i64_in, z8m, hd, zeg, wp_ret, zdi, z0k, zbp, zcg, zks]
  refine (zxx hh (by rfl) (by show 9 < 10; omega)).mpr ?_
  have hset : ((mid l).cells ++ [v, i64 l.length]).set 9 (i64 ((l.length : Int) + (x.size : Int))) = (mid l).cells ++ [v, i64 (l.length + x.size : Nat)] := rfl
  rw [hset]
  generalize hH1 : H.set p (some (.cells true ((mid l).cells ++ [v, i64 (l.length + x.size : Nat)]))) = H1
  have hh1 : zhr H1 p (mid l) v (l.length + x.size) := by rw [← hH1]; exact Heap.get_set_self hlt
  have k1 : Keeps [p] H H1 := by rw [← hH1]; exact Keeps.set (by simp)
  have hr1 : zug H1 v ((tail l).map B) := hr.keep k1 (fun b hb hm => hpv (by simp at hm; exact hm ▸ hb))
  simp only [hh1.c8, zz, zii]
  have key : ∀ (v2 : V) (H2 : Heap), zug H2 v2 ((tail l ++ bv x).map B) → zhr H2 p (mid l) v (l.length + x.size) → Keeps (vb v) H1 H2 → p ∉ vb v2 → gid_sha_rounds ∉ vb v2 → (∀ b ∈ vb v2, b ∈ vb v ∨ H.next ≤ b) → wp (st1 (ptr p 8) v2) (fun _ H' => wp (zce zcc zj6 [ptr p 0]) (fun b H' => wp (nx (zw 0 b) zs6) (fun b H' => wp (zcf b fun vs => ret (zca [zc vs 0])) Q H') H') H') H2 := by
    intro v2 H2 r2 g2 k2 hp2 h12 hfr
    refine (zxx g2 r2.isOne (by show 8 < 10; omega)).mpr ?_
    have hset2 : ((mid l).cells ++ [v, i64 (l.length + x.size : Nat)]).set 8 v2 = (mid l).cells ++ [v2, i64 (l.length + x.size : Nat)] := rfl
    rw [hset2]
    generalize hH3 : H2.set p (some (.cells true ((mid l).cells ++ [v2, i64 (l.length + x.size : Nat)]))) = H3
    have hp3 : p < H2.next := g2.lt
    have hh3 : zhr H3 p (mid l) v2 (l.length + x.size) := by rw [← hH3]; exact Heap.get_set_self hp3
    have k3 : Keeps [p] H2 H3 := by rw [← hH3]; exact Keeps.set (by simp)
    have kall : Keeps (p :: vb v) H H3 := ((Keeps.mono (S' := p :: vb v) k1 (by simp)).trans ((Keeps.mono (S' := p :: vb v) k2 (fun b hb => by simp [hb])).trans (Keeps.mono (S' := p :: vb v) k3 (by simp)) (fun _ _ h => h)) (fun _ _ h => h))
    have ht3 : Tab H3 := ht.keep kall (by simp [h1v]; exact fun e => hp1 e.symm)
    refine zbs6 H3 p (mid l) v2 (l.length + x.size) (tail l ++ bv x) hh3 (r2.keep k3 (fun b hb hm => hp2 (by simp at hm; exact hm ▸ hb))) hp2 ht3 hp1 (by rw [List.length_append]; omega) _ fun v4 H4 q1 q2 q3 q4 => ?_
    simp only [wp_ret, zfh, if_true, zdi, zs6, zk2, zk3, zbp]
    obtain ⟨m1, m2⟩ := zbjw l (bv x)
    refine hQ H4 v4 ⟨?_, ?_, by rw [q4]; exact hp2, by rw [q4]; exact h12⟩ (by rw [q4]; exact hfr) (kall.trans q3 (fun b _ hm => by simp at hm; simp [hm])) (ht3.keep q3 (by simpa using fun e => hp1 e.symm))
    · rw [m1, show (l ++ bv x).length = l.length + x.size by rw [List.length_append, hxl]]; exact q1
    · rw [m2]; exact q2
  rw [zb0y x x]
  by_cases hx : x.size = 0
  · have hb0 : zi1 x = [] := by rw [zow]; exact List.eq_nil_of_length_eq_zero (by simp [hxl, hx])
    have hbv : bv x = [] := List.eq_nil_of_length_eq_zero (by rw [hxl, hx])
    refine ⟨v, H1, ?_, ?_⟩
    · rw [hb0]
      rcases hr1 with ⟨rfl, _⟩ | ⟨b, o, c, cs, rfl, _⟩ <;> rfl
    · exact key v H1 (by rw [hbv, List.append_nil]; exact hr1) hh1 (Keeps.refl _ _) hpv h1v (fun b hb => .inl hb)
  · have hne : zi1 x ≠ [] := fun h => hx (by have := congrArg List.length h; rw [zow] at this; simpa [hxl] using this)
    have hlb : (zi1 x).length = x.size := by rw [zow]; simp [hxl]
    refine zbjv hr1 hne (by rw [zow]; simp) (by rw [hlb]; simp; omega) (by rw [hlb]; simp; omega) fun b H2 o2 k2 e2 => ?_
    have hnx := k1.next
    refine key _ H2 ?_ (k2.get hh1 hpv) k2 (by simp; omega) (by obtain ⟨_, _, t1, _⟩ := ht; have := Heap.get_lt t1; simp; omega) (by simp; omega)
    have := Own.rest o2
    rw [zow, ← List.map_append] at this ⊢
    exact this
end Go.AM.Cap
