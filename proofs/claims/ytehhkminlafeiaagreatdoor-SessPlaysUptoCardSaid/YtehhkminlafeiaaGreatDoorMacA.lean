import Derived.Test.YtehhkminlafeiaaGreatDoorShaF
import Derived.Test.YtehhkminlafeiaaGreatDoorAmOpenF
set_option linter.all false
/- mac: tags -/
namespace Go.AM.Cap
open Go.AM Go.Proofs
def Base (H : Heap) : Prop := zbge H ∧ Tab H
theorem Base.keep {H H' : Heap} (h : Base H) (hk : Keeps [] H H') : Base H' := ⟨h.1.keep hk (by simp), h.2.keep hk (by simp)⟩
def z17 (k : List (BitVec 8)) : List (BitVec 8) := if k.length > 64 then sum k else k
def kb (k : List (BitVec 8)) : List (BitVec 8) := z17 k ++ List.replicate (64 - (z17 k).length) 0#8
def xr (k : List (BitVec 8)) (y : BitVec 8) : List (BitVec 8) := k.map (· ^^^ y)
def tag (k m : List (BitVec 8)) : List (BitVec 8) := sum (xr (kb k) 92#8 ++ sum (xr (kb k) 54#8 ++ m))
theorem zbe9 (k : List (BitVec 8)) : (z17 k).length ≤ 64 := by
  unfold z17
  split
  · rw [zbbe]; omega
  · omega
theorem zrx (k : List (BitVec 8)) : (kb k).length = 64 := by
  have := zbe9 k
  simp [kb]; omega
theorem zry (k : List (BitVec 8)) (y : BitVec 8) : (xr k y).length = k.length := by simp [xr]
theorem zoq (k m : List (BitVec 8)) : (tag k m).length = 32 := rfl
def part (k : List (BitVec 8)) (y : BitVec 8) (i : Nat) : List (BitVec 8) := xr (k.take i) y ++ k.drop i
theorem z77 (k : List (BitVec 8)) (y : BitVec 8) (i : Nat) : (part k y i).length = k.length := by simp [part, xr]; omega
theorem zbyn (k : List (BitVec 8)) (y : BitVec 8) (i : Nat) (h : i < k.length) : ((part k y i).map B)[i]? = some (B (k.getD i 0)) := by
  simp only [List.getElem?_map, part]
  rw [List.getElem?_append_right (by rw [zry, List.length_take]; omega)]
  rw [zry, List.length_take, show i - min i k.length = 0 by omega, List.getElem?_drop, Nat.add_zero]
  simp [h]
theorem zbyo (k : List (BitVec 8)) (y : BitVec 8) (i : Nat) (h : i < k.length) : ((part k y i).map B).set i (B (k.getD i 0 ^^^ y)) = (part k y (i + 1)).map B := by
  rw [← List.map_set]
  congr 1
  have hl : (xr (k.take i) y).length = i := by rw [zry, List.length_take]; omega
  unfold part
  rw [List.set_append_right _ _ (by omega), hl, Nat.sub_self, zbmc _ _ 0 h]
  have hd : k.drop i = k.getD i 0 :: k.drop (i + 1) := by
    rw [List.getD_eq_getElem?_getD, List.getElem?_eq_getElem h]; exact List.drop_eq_getElem_cons h
  rw [hd]
  simp [xr]
theorem zbqt {n b : Nat} (h : 0 < n) : subA n 1 (ptr b 0) none none = some (slc b 0 0 n n) := by
  have e1 : zd5 n n none = some n := rfl
  have e2 : zd5 0 n none = some 0 := rfl
  simp only [subA, e1, e2, zp1]
  rw [if_neg (by omega)]
  rfl
theorem zboc {b o u len cap : Nat} {rw : Bool} {cs : List V} {l : List (BitVec 8)} {H : Heap} {Q : V → Heap → Prop} (h : H.get b = some (.cells rw cs)) (ho : o + len ≤ cs.length) (hl : (cs.drop o).take len = l.map B) (hQ : Q (.string (sv l)) H) : wp (b2s (slc b o u len cap)) Q H := by
  refine ⟨_, _, ?_, hQ⟩
  simp only [b2s, cellsAt, h]
  rw [if_pos ho, hl]
  simp only [z2g]
  rfl
theorem zb0z {b len cap : Nat} {u : Nat} {cs : List V} {s : ByteArray} {H : Heap} {Q : V → Heap → Prop} (h : H.get b = some (.cells true cs)) (ho : s.size ≤ cs.length) (hs : s.size ≤ len) (hQ : Q (i64 s.size) (H.set b (some (.cells true ((bv s).map B ++ cs.drop s.size))))) : wp (cpy 1 (slc b 0 u len cap) (.string s)) Q H := by
  have hm : Nat.min s.size len = s.size := Nat.min_eq_left hs
  have hl : ((bv s).map B).length = s.size := by rw [List.length_map, zb7]
  have hc : zbmq H 1 s.size (.string s) = some ((bv s).map B) := by
    simp only [zbmq, zow]
    rw [List.take_of_length_le (by rw [hl]; exact Nat.le_refl _)]
  refine ⟨_, _, ?_, hQ⟩
  simp only [cpy, zgd, hm, hc, h, Nat.mul_one, Nat.zero_add]
  have hall : ((bv s).map B).all Value.isOne = true := by simp
  rw [if_pos (by simp [hall, hl, ho])]
  congr 4
  simp [splice, hl]
theorem zbgf (H : Heap) (k : List (BitVec 8)) (y : BitVec 8) (b : Nat) (rw : Bool) (hk : k.length = 64) (hb : H.get b = some (.cells rw (k.map B))) (Q : V → Heap → Prop) (hQ : ∀ H', Keeps [] H H' → Q (.string (sv (xr k y))) H') : wp (zrv [B y, ptr b 0]) Q H := by
  have hlt := Heap.get_lt hb
  show wp (z0l (B y) (ptr b 0)) Q H
  simp only [z0l, zk]
  refine (zbay (n := 64) hb (by simp; omega)).mpr ?_
  rw [List.drop_zero, List.take_of_length_le (by simp; omega)]
  refine (z8n (by decide)).mpr ?_
  refine (zbm7 (cs := List.replicate 64 (Value.int .u8 0)) (Heap.get_push_self _ _) (by simp) (by simp [hk]) (by simp)).mpr ?_
  have hsp : splice (List.replicate 64 (Value.int .u8 0)) 0 (k.map B) = (part k y 0).map B := by
    simp [splice, part, xr, hk]
  rw [hsp, Heap.set_push_eq rfl]
  (try simp (maxSteps := 1000000) (disch := first | omega | (simp only [Z3]; omega) | (simp; done) | assumption | decide | (refine not_not_intro ?_; assumption)) only [Z1])
  refine zbt (Inv := fun m vs H' => ∃ i : Nat, m = 64 - i ∧ i ≤ 64 ∧ vs = [B y, ptr H.next 0, i64 i] ∧ H' = H.push (some (.cells true ((part k y i).map B)))) (n := 64) (by decide)
    ⟨0, by omega, by omega, rfl, rfl⟩ ?_
  rintro m vs H' ⟨i, hm, hi, rfl, rfl⟩
  have hg := Heap.get_push_self H (some (.cells true ((part k y i).map B)))
  by_cases h : i < 64
  · (try simp (maxSteps := 1000000) (disch := first | omega | (simp only [Z3]; omega) | (simp; done) | assumption | decide | (refine not_not_intro ?_; assumption)) only [Z1, z4i, zbdb, zq1, zea hg, zbyn, Nat.mul_one, Int.toNat_natCast, zbsq])
    refine (zxx hg (by rfl) (by simp [z77]; omega)).mpr ?_
    (try simp (maxSteps := 1000000) (disch := first | omega | (simp only [Z3]; omega) | (simp; done) | assumption | decide | (refine not_not_intro ?_; assumption)) only [Z1, zbda])
    refine ⟨64 - (i + 1), by omega, i + 1, by omega, by omega, rfl, ?_⟩
    rw [zbyo _ _ _ (by omega), Heap.set_push_eq rfl]
  · have : i = 64 := by omega
    subst this
    (try simp (maxSteps := 1000000) (disch := first | omega | (simp only [Z3]; omega) | (simp; done) | assumption | decide | (refine not_not_intro ?_; assumption)) only [Z1, z4i, zbdc, zbqt])
    refine zboc (l := xr k y) hg (by simp [z77]; omega) ?_ ?_
    · have e : part k y 64 = xr k y := by rw [part, List.take_of_length_le (by omega), List.drop_eq_nil_of_le (by omega), List.append_nil]
      rw [List.drop_zero, List.take_of_length_le (by simp [z77]; omega), e]
    · (try simp (maxSteps := 1000000) (disch := first | omega | (simp only [Z3]; omega) | (simp; done) | assumption | decide | (refine not_not_intro ?_; assumption)) only [Z1])
      exact hQ _ (Keeps.push _ _ _)
theorem z4q (H : Heap) (k m : ByteArray) (hks : k.size ≤ 1099511627776) (hms : m.size ≤ 1073741824) (hb : Base H) (Q : V → Heap → Prop) (hQ : ∀ H', Keeps [] H H' → Q (.string (sv (tag (bv k) (bv m)))) H') : wp (zla [.string k, .string m]) Q H := by
  show wp (z2x (.string k) (.string m)) Q H
  have rest : ∀ (k' : ByteArray) (H1 : Heap), bv k' = z17 (bv k) → Keeps [] H H1 → wp (zba4 [.string k', .string m]) (fun b H' => wp (zcf b fun vs => ret (zca [zc vs 0])) Q H') H1 := by
    intro k' H1 hk' k1
    have hsz : k'.size ≤ 64 := by rw [← zb7, hk']; exact zbe9 _
    simp only [zba4, zk]
    refine (z8n (by decide)).mpr ?_
    (try simp (maxSteps := 1000000) (disch := first | omega | (simp only [Z3]; omega) | (simp; done) | assumption | decide | (refine not_not_intro ?_; assumption)) only [Z1, zbqt])
    refine zb0z (Heap.get_push_self _ _) (by simp; omega) hsz ?_
    rw [Heap.set_push_eq rfl]
    have hc : (bv k').map B ++ (List.replicate 64 (Value.int .u8 0)).drop k'.size = (kb (bv k)).map B := by
      simp only [kb, ← hk', List.map_append, List.drop_replicate, List.map_replicate, zb7]; rfl
    rw [hc]
    generalize hH2 : H1.push (some (.cells true ((kb (bv k)).map B))) = H2
    have hg : H2.get H1.next = some (.cells true ((kb (bv k)).map B)) := by rw [← hH2]; exact Heap.get_push_self _ _
    have k2 : Keeps [] H H2 := by rw [← hH2]; exact k1.trans (Keeps.push _ _ _) (fun _ _ h => h)
    (try simp (maxSteps := 1000000) (disch := first | omega | (simp only [Z3]; omega) | (simp; done) | assumption | decide | (refine not_not_intro ?_; assumption)) only [Z1, zblx, List.nil_append, List.cons_append, Array.toList])
    refine zbgf H2 (kb (bv k)) 92#8 H1.next true (zrx _) hg _ fun H3 k3 => ?_
    (try simp (maxSteps := 1000000) (disch := first | omega | (simp only [Z3]; omega) | (simp; done) | assumption | decide | (refine not_not_intro ?_; assumption)) only [Z1, zblx, List.nil_append, List.cons_append, Array.toList])
    refine zbgf H3 (kb (bv k)) 54#8 H1.next true (zrx _) (k3.get hg (by simp)) _ fun H4 k4 => ?_
    have k24 := (k2.trans k3 (fun _ _ h => h)).trans k4 (fun _ _ h => h)
    have l1 : (sv (xr (kb (bv k)) 54#8)).size = 64 := by rw [zgw, zry, zrx]
    have l2 : (sv (xr (kb (bv k)) 92#8)).size = 64 := by rw [zgw, zry, zrx]
    (try simp (maxSteps := 1000000) (disch := first | omega | (simp only [Z3]; omega) | (simp; done) | assumption | decide | (refine not_not_intro ?_; assumption)) only [Z1, zm3 (show (sv (xr (kb (bv k)) 54#8)).size + m.size ≤ 4611686018427387904 by omega)])
    refine zbbd H4 _ (by rw [size_append]; omega) (hb.keep k24).1 (hb.keep k24).2 _ fun H5 k5 => ?_
    rw [zox, zlq]
    have l3 : ∀ l, (sv (sum l)).size = 32 := fun l => by rw [zgw, zbbe]
    have k25 := k24.trans k5 (fun _ _ h => h)
    (try simp (maxSteps := 1000000) (disch := first | omega | (simp only [Z3]; omega) | (simp; done) | assumption | decide | (refine not_not_intro ?_; assumption)) only [Z1, zm3 (show (sv (xr (kb (bv k)) 92#8)).size + (sv (sum (xr (kb (bv k)) 54#8 ++ bv m))).size ≤ 4611686018427387904 by rw [l3]; omega)])
    refine zbbd H5 _ (by rw [size_append, l3]; omega) (hb.keep k25).1 (hb.keep k25).2 _ fun H6 k6 => ?_
    rw [zox, zlq, zlq]
    (try simp (maxSteps := 1000000) (disch := first | omega | (simp only [Z3]; omega) | (simp; done) | assumption | decide | (refine not_not_intro ?_; assumption)) only [Z1])
    exact hQ _ (k25.trans k6 (fun _ _ h => h))
  by_cases h : (k.size : Int) > 64
  · (try simp (maxSteps := 1000000) (disch := first | omega | (simp only [Z3]; omega) | (simp; done) | assumption | decide | (refine not_not_intro ?_; assumption)) only [Z1, z2x])
    refine zbbd H _ hks hb.1 hb.2 _ fun H1 k1 => ?_
    (try simp (maxSteps := 1000000) (disch := first | omega | (simp only [Z3]; omega) | (simp; done) | assumption | decide | (refine not_not_intro ?_; assumption)) only [Z1])
    exact rest _ H1 (by rw [zlq, z17, if_pos (by rw [zb7]; omega)]) k1
  · (try simp (maxSteps := 1000000) (disch := first | omega | (simp only [Z3]; omega) | (simp; done) | assumption | decide | (refine not_not_intro ?_; assumption)) only [Z1, z2x])
    exact rest k H (by rw [z17, if_neg (by rw [zb7]; omega)]) (Keeps.refl _ _)
theorem zbg0 (H : Heap) (k : ByteArray) (hks : k.size ≤ 1099511627776) (Q : V → Heap → Prop) (hQ : ∀ v H', Own H' v ((kb (bv k)).map B) → Keeps [] H H' → (∀ x ∈ vb v, H.next ≤ x) → Q v H') : wp (zoh [.string k]) Q H := by
  show wp (zog (.string k)) Q H
  have rest : ∀ (k' : ByteArray) (H1 : Heap), bv k' = z17 (bv k) → Keeps [] H H1 → wp (zv0 [.string k']) (fun b H' => wp (zcf b fun vs => ret (zca [zc vs 0])) Q H') H1 := by
    intro k' H1 hk' k1
    have hsz : k'.size ≤ 64 := by rw [← zb7, hk']; exact zbe9 _
    have hbl := zb7 k'
    (try simp (maxSteps := 1000000) (disch := first | omega | (simp only [Z3]; omega) | (simp; done) | assumption | decide | (refine not_not_intro ?_; assumption)) only [Z1, zv0])
    refine zbub fun v H2 o2 k2 f2 => ?_
    (try simp (maxSteps := 1000000) (disch := first | omega | (simp only [Z3]; omega) | (simp; done) | assumption | decide | (refine not_not_intro ?_; assumption)) only [Z1])
    refine zbt (Inv := fun m vs H' => ∃ (i : Nat) (w : V), m = 64 - k'.size - i ∧ i ≤ 64 - k'.size ∧ vs = [w] ∧ Own H' w ((bv k' ++ List.replicate i 0#8).map B) ∧ Keeps [] H H' ∧ (∀ x ∈ vb w, H.next ≤ x)) (n := 64 - k'.size) (by unfold zcc; omega)
      ⟨0, v, by omega, by omega, rfl, by simpa using o2, k1.trans k2 (fun _ _ h => h), fun x hx => by have := f2 x hx; have := k1.next; omega⟩ ?_
    rintro m vs H' ⟨i, w, hm, hi, rfl, ho, kk, fr⟩
    have hlen : ((bv k' ++ List.replicate i 0#8).map B).length = k'.size + i := by simp [hbl]
    by_cases h : k'.size + i < 64
    · (try simp (maxSteps := 1000000) (disch := first | omega | (simp only [Z3]; omega) | (simp; done) | assumption | decide | (refine not_not_intro ?_; assumption)) only [Z1, zvz, ho.len, hlen, z45])
      refine z1f (new := [B 0#8]) ho (by rfl) (by rfl) (by omega) (by rfl) (by rfl) (by rw [hlen]; simp; omega) (by rw [hlen]; simp; omega) fun c H3 o3 k3 f3 => ?_
      (try simp (maxSteps := 1000000) (disch := first | omega | (simp only [Z3]; omega) | (simp; done) | assumption | decide | (refine not_not_intro ?_; assumption)) only [Z1])
      refine ⟨64 - k'.size - (i + 1), by omega, i + 1, _, rfl, by omega, rfl, ?_, kk.trans k3 (fun x hx hm => by have := fr x hm; omega), fun x hx => by simp at hx; have := kk.next; omega⟩
      have e : (bv k' ++ List.replicate (i + 1) 0#8).map B = (bv k' ++ List.replicate i 0#8).map B ++ [B 0#8] := by simp [List.replicate_succ']
      rw [e]
      exact o3
    · have : i = 64 - k'.size := by omega
      subst this
      (try simp (maxSteps := 1000000) (disch := first | omega | (simp only [Z3]; omega) | (simp; done) | assumption | decide | (refine not_not_intro ?_; assumption)) only [Z1, zvz, ho.len, hlen, z46])
      refine hQ _ _ ?_ kk fr
      rw [kb, ← hk', hbl]
      exact ho
  by_cases h : (k.size : Int) > 64
  · (try simp (maxSteps := 1000000) (disch := first | omega | (simp only [Z3]; omega) | (simp; done) | assumption | decide | (refine not_not_intro ?_; assumption)) only [Z1, zog])
    refine z4p H _ hks _ fun H1 k1 => ?_
    (try simp (maxSteps := 1000000) (disch := first | omega | (simp only [Z3]; omega) | (simp; done) | assumption | decide | (refine not_not_intro ?_; assumption)) only [Z1])
    exact rest _ H1 (by rw [zlq, z17, if_pos (by rw [zb7]; omega)]) k1
  · (try simp (maxSteps := 1000000) (disch := first | omega | (simp only [Z3]; omega) | (simp; done) | assumption | decide | (refine not_not_intro ?_; assumption)) only [Z1, zog])
    exact rest k H (by rw [z17, if_neg (by rw [zb7]; omega)]) (Keeps.refl _ _)
theorem zbal (H : Heap) (kv : V) (k : List (BitVec 8)) (y : BitVec 8) (hk : k.length = 64) (ho : Own H kv (k.map B)) (Q : V → Heap → Prop) (hQ : ∀ H', Keeps [] H H' → Q (.string (sv (xr k y))) H') : wp (zo8 [kv, B y]) Q H := by
  show wp (zw7 kv (B y)) Q H
  have holt := ho.lt
  (try simp (maxSteps := 1000000) (disch := first | omega | (simp only [Z3]; omega) | (simp; done) | assumption | decide | (refine not_not_intro ?_; assumption)) only [Z1, zw7])
  refine zbt (Inv := fun m vs H' => ∃ (i : Nat) (w : V), m = 64 - i ∧ i ≤ 64 ∧ vs = [kv, B y, w, i64 i] ∧ Own H' w ((xr (k.take i) y).map B) ∧ Keeps [] H H' ∧ (∀ x ∈ vb w, H.next ≤ x)) (n := 64) (by decide)
    ⟨0, _, by omega, by omega, rfl, Own.nil _, Keeps.refl _ _, by simp⟩ ?_
  rintro m vs H' ⟨i, w, hm, hi, rfl, how, kk, fr⟩
  have ho' := ho.keep kk (by simp)
  have hkl : (k.map B).length = 64 := by simp [hk]
  have hlen : ((xr (k.take i) y).map B).length = i := by rw [List.length_map, zry, List.length_take]; omega
  by_cases h : i < 64
  · obtain ⟨c, q1, q2⟩ := zqj ho' (k := .i64) (i := i) (x := B (k.getD i 0)) (by simp [hk, h])
    (try simp (maxSteps := 1000000) (disch := first | omega | (simp only [Z3]; omega) | (simp; done) | assumption | decide | (refine not_not_intro ?_; assumption)) only [Z1, z1y, ho'.len, hkl, z9p, q1, q2, zbsq])
    refine z1f (new := [B (k.getD i 0 ^^^ y)]) how (by rfl) (by rfl) (by omega) (by rfl) (by rfl) (by rw [hlen]; simp; omega) (by rw [hlen]; simp; omega) fun c H3 o3 k3 f3 => ?_
    (try simp (maxSteps := 1000000) (disch := first | omega | (simp only [Z3]; omega) | (simp; done) | assumption | decide | (refine not_not_intro ?_; assumption)) only [Z1, z9o])
    refine ⟨64 - (i + 1), by omega, i + 1, _, rfl, by omega, rfl, ?_, kk.trans k3 (fun x hx hm => by have := fr x hm; omega), fun x hx => by simp at hx; have := kk.next; omega⟩
    have e : (xr (k.take (i + 1)) y).map B = (xr (k.take i) y).map B ++ [B (k.getD i 0 ^^^ y)] := by rw [zbmc _ _ 0 (by omega)]; simp [xr]
    rw [e]
    exact o3
  · have : i = 64 := by omega
    subst this
    (try simp (maxSteps := 1000000) (disch := first | omega | (simp only [Z3]; omega) | (simp; done) | assumption | decide | (refine not_not_intro ?_; assumption)) only [Z1, z1y, ho'.len, hkl, z9q])
    refine zbuc how ?_
    rw [List.take_of_length_le (by omega)]
    (try simp (maxSteps := 1000000) (disch := first | omega | (simp only [Z3]; omega) | (simp; done) | assumption | decide | (refine not_not_intro ?_; assumption)) only [Z1])
    exact hQ _ kk
theorem zxg (H : Heap) (k m : ByteArray) (hks : k.size ≤ 1099511627776) (hms : m.size ≤ 1073741824) (Q : V → Heap → Prop) (hQ : ∀ H', Keeps [] H H' → Q (.string (sv (tag (bv k) (bv m)))) H') : wp (ziq [.string k, .string m]) Q H := by
  show wp (z0f (.string k) (.string m)) Q H
  simp only [z0f, zk]
  refine zbg0 H k hks _ fun v H1 o1 k1 f1 => ?_
  refine zbal H1 v _ 92#8 (zrx _) o1 _ fun H2 k2 => ?_
  refine zbal H2 v _ 54#8 (zrx _) (o1.keep k2 (by simp)) _ fun H3 k3 => ?_
  have l1 : (sv (xr (kb (bv k)) 54#8)).size = 64 := by rw [zgw, zry, zrx]
  have l2 : (sv (xr (kb (bv k)) 92#8)).size = 64 := by rw [zgw, zry, zrx]
  have l3 : ∀ l, (sv (sum l)).size = 32 := fun l => by rw [zgw, zbbe]
  (try simp (maxSteps := 1000000) (disch := first | omega | (simp only [Z3]; omega) | (simp; done) | assumption | decide | (refine not_not_intro ?_; assumption)) only [Z1, zm3 (show (sv (xr (kb (bv k)) 54#8)).size + m.size ≤ 4611686018427387904 by omega)])
  refine z4p H3 _ (by rw [size_append]; omega) _ fun H5 k5 => ?_
  rw [zox, zlq]
  (try simp (maxSteps := 1000000) (disch := first | omega | (simp only [Z3]; omega) | (simp; done) | assumption | decide | (refine not_not_intro ?_; assumption)) only [Z1, zm3 (show (sv (xr (kb (bv k)) 92#8)).size + (sv (sum (xr (kb (bv k)) 54#8 ++ bv m))).size ≤ 4611686018427387904 by rw [l3]; omega)])
  refine z4p H5 _ (by rw [size_append, l3]; omega) _ fun H6 k6 => ?_
  rw [zox, zlq, zlq]
  (try simp (maxSteps := 1000000) (disch := first | omega | (simp only [Z3]; omega) | (simp; done) | assumption | decide | (refine not_not_intro ?_; assumption)) only [Z1])
  exact hQ _ ((((k1.trans k2 (fun _ _ h => h)).trans k3 (fun _ _ h => h)).trans k5 (fun _ _ h => h)).trans k6 (fun _ _ h => h))
def zbfa (a b : List (BitVec 8)) : Nat → BitVec 8
  | 0 => 0#8
  | i + 1 => zbfa a b i ||| (a.getD i 0 ^^^ b.getD i 0)
theorem zbgg (a b : List (BitVec 8)) : ∀ i, zbfa a b i = 0#8 ↔ ∀ j, j < i → a.getD j 0 = b.getD j 0
  | 0 => by simp [zbfa]
  | i + 1 => by
    have h1 : ∀ x y : BitVec 8, x ||| y = 0#8 ↔ x = 0#8 ∧ y = 0#8 := by
      intro x y
      constructor
      · intro h
        constructor
        · apply BitVec.eq_of_getLsbD_eq
          intro j hj
          have := congrArg (fun z => z.getLsbD j) h
          simp at this ⊢
          exact this.1
        · apply BitVec.eq_of_getLsbD_eq
          intro j hj
          have := congrArg (fun z => z.getLsbD j) h
          simp at this ⊢
          exact this.2
      · rintro ⟨rfl, rfl⟩; rfl
    rw [zbfa, h1, zbgg a b i, BitVec.xor_eq_zero_iff]
    constructor
    · rintro ⟨h2, h3⟩ j hj
      rcases Nat.lt_or_ge j i with q | q
      · exact h2 j q
      · rw [show j = i by omega]; exact h3
    · intro h2
      exact ⟨fun j hj => h2 j (by omega), h2 i (by omega)⟩
theorem zbyp {a b : List (BitVec 8)} (hl : a.length = b.length) (h : ∀ j, j < a.length → a.getD j 0 = b.getD j 0) : a = b := by
  apply List.ext_getElem hl
  intro i h1 h2
  have := h i h1
  rw [List.getD_eq_getElem?_getD, List.getD_eq_getElem?_getD, List.getElem?_eq_getElem h1, List.getElem?_eq_getElem h2] at this
  exact this
theorem zbd5 (a b : ByteArray) (ha : a.size ≤ 1099511627776) : zom [.string a, .string b] = ret (.bool (decide (a = b))) := zbnj fun H => by
  show wp (zvc (.string a) (.string b)) _ H
  have hla := zb7 a
  have hlb := zb7 b
  by_cases hs : (a.size : Int) = b.size
  · (try simp (maxSteps := 1000000) (disch := first | omega | (simp only [Z3]; omega) | (simp; done) | assumption | decide | (refine not_not_intro ?_; assumption)) only [Z1, zvc, zbdj])
    refine zbt (Inv := fun m vs H' => ∃ i : Nat, m = a.size - i ∧ i ≤ a.size ∧ vs = [.string a, .string b, B (zbfa (bv a) (bv b) i), i64 a.size, i64 i] ∧ H' = H) (n := a.size) (by unfold zcc; omega)
      ⟨0, by omega, by omega, rfl, rfl⟩ ?_
    rintro m vs H' ⟨i, hm, hi, rfl, rfl⟩
    by_cases h : i < a.size
    · (try simp (maxSteps := 1000000) (disch := first | omega | (simp only [Z3]; omega) | (simp; done) | assumption | decide | (refine not_not_intro ?_; assumption)) only [Z1, z4k, zbdh, zoy, Int.toNat_natCast, zbsq, zb3y, zbdg])
      exact ⟨a.size - (i + 1), by omega, i + 1, rfl, by omega, rfl, by trivial⟩
    · have : i = a.size := by omega
      subst this
      (try simp (maxSteps := 1000000) (disch := first | omega | (simp only [Z3]; omega) | (simp; done) | assumption | decide | (refine not_not_intro ?_; assumption)) only [Z1, z4k, zbdi])
      refine ⟨congrArg Value.bool (decide_eq_decide.mpr ?_), by trivial⟩
      have hz := zbgg (bv a) (bv b) a.size
      constructor
      · intro h0
        have h0' : zbfa (bv a) (bv b) a.size = 0#8 := BitVec.eq_of_toNat_eq (by simpa using h0)
        exact z1g (zbyp (by omega) (by rw [hla]; exact hz.mp h0'))
      · intro hab
        have := hz.mpr (fun j _ => by rw [hab])
        rw [this]; rfl
  · (try simp (maxSteps := 1000000) (disch := first | omega | (simp only [Z3]; omega) | (simp; done) | assumption | decide | (refine not_not_intro ?_; assumption)) only [Z1, zvc])
    refine ⟨congrArg Value.bool (decide_eq_false ?_).symm, by trivial⟩
    intro h; exact hs (by rw [h])
end Go.AM.Cap
