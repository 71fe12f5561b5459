import Derived.Test.YtjchglndancedaaGreatDoorFun2
import Derived.Test.YtjchglndancedaaGreatDoorAmIn
set_option linter.all false
/- roles: strings.Trim at a set of ASCII letters -/
set_option maxHeartbeats 8000000
namespace Go.AM.Cap
open Go.AM Go.Proofs
theorem zbkm {cs vs : List V} (h : vs.length = cs.length) : splice cs 0 vs = vs := by
  unfold splice
  rw [List.take_zero, List.nil_append, List.drop_of_length_le (by omega), List.append_nil]
theorem zfb {H : Heap} {b n : Nat} {cs vs : List V} {Q : V → Heap → Prop} (hg : H.get b = some (.cells true cs)) (h1 : cs.length = n) (h2 : vs.length = n) (h3 : vs.all Value.isOne = true) : wp (stn n (ptr b 0) (.agg vs.toArray)) Q H ↔ Q undef (H.set b (some (.cells true vs))) := by
  rw [zp, hg, z9o h3 h2 (by omega), zbkm (by omega)]
theorem zbd {H : Heap} {b n : Nat} {rw_ : Bool} {cs : List V} {Q : V → Heap → Prop} (hg : H.get b = some (.cells rw_ cs)) (h1 : cs.length = n) : wp (ldn n (ptr b 0)) Q H ↔ Q (.agg cs.toArray) H := by
  rw [zca, hg, zxh (by omega), List.drop_zero, List.take_of_length_le (by omega)]
def inS (cs : List (BitVec 8)) (b : BitVec 8) : Bool := cs.any fun c => c.toNat == b.toNat
def zre (cs : List (BitVec 8)) : List V := (List.range 256).map fun j => .bool (cs.any fun c => c.toNat == j)
theorem zlb (cs : List (BitVec 8)) : (zre cs).length = 256 := by simp [zre]
theorem zbpx : zre [] = List.replicate 256 (Value.bool false) := by kernel_rfl
theorem zbh9 (cs : List (BitVec 8)) : (zre cs).all Value.isOne = true := by
  rw [List.all_eq_true]
  intro v hv
  simp only [zre, List.mem_map] at hv
  obtain ⟨j, _, rfl⟩ := hv
  rfl
theorem zbia (cs : List (BitVec 8)) (b : BitVec 8) : (zre cs)[b.toNat]? = some (.bool (inS cs b)) := by
  have := b.isLt
  simp only [zre, List.getElem?_map, List.getElem?_range this, Option.map_some, inS]
theorem zbnn (cs : List (BitVec 8)) (b : BitVec 8) : (zre cs).set b.toNat (.bool true) = zre (cs ++ [b]) := by
  apply List.ext_getElem?
  intro j
  rw [List.getElem?_set, zlb]
  by_cases hj : b.toNat = j
  · subst hj
    rw [if_pos rfl, if_pos b.isLt, zbia]
    simp [inS]
  · rw [if_neg hj]
    simp only [zre, List.getElem?_map]
    by_cases h : j < 256
    · rw [List.getElem?_range h]
      simp [hj]
    · rw [List.getElem?_eq_none (by simpa using h)]
      rfl
theorem zbvi {H : Heap} (s : ByteArray) (ha : ∀ b ∈ bv s, b.toNat < 128) (hs : s.size ≤ 1000000) (Q : V → Heap → Prop) (hQ : ∀ H', Keeps [] H H' → Q (.tuple #[.agg (zre (bv s)).toArray, .bool true]) H') : wp (zgh [.string s]) Q H := by
  show wp (zi1 (.string s)) Q H
  have hb := zc1 s
  unfold zi1
  rw [z8, z8]
  refine (zbaw (by kernel_rfl)).mpr ?_
  rw [← zbpx]
  have k1 : Keeps [] H (H.push (some (.cells true (zre [])))) := Keeps.push _ _ _
  have g1 : (H.push (some (.cells true (zre [])))).get H.next = some (.cells true (zre [])) := Heap.get_push_self _ _
  have n1 : (H.push (some (.cells true (zre [])))).next = H.next + 1 := by simp
  generalize H.push (some (.cells true (zre []))) = H1 at *
  (try simp (maxSteps := 1000000) (disch := first | omega | (simp only [Z3]; omega) | (simp; done) | assumption | decide | (apply not_not_intro; assumption)) only [ZB])
  refine zli (Inv := fun k vs H' => ∃ i : Nat, k = s.size - i ∧ i ≤ s.size ∧ vs = [.string s, ptr H.next 0, i64 i] ∧ Keeps [] H H' ∧ H.next < H'.next ∧ H'.get H.next = some (.cells true (zre ((bv s).take i)))) (n := s.size) (by unfold zb8; omega)
    ⟨0, by omega, by omega, rfl, k1, by omega, g1⟩ ?_
  rintro k vs H2 ⟨i, hk, hi, rfl, hk2, hn2, hg2⟩
  by_cases hlt : i < s.size
  case neg =>
    have : i = s.size := by omega
    subst this
    rw [← hb, List.take_length] at hg2
    have g3 := Heap.get_set_eq (x := some (.cells true (zre (bv s)))) hn2
    (try simp (maxSteps := 1000000) (disch := first | omega | (simp only [Z3]; omega) | (simp; done) | assumption | decide | (apply not_not_intro; assumption)) only [ZA, zo, zm, zl, zj, zi, zg, zf, zie, zny, zbd hg2 (zlb _), zfb hg2 (zlb _) (zlb _) (zbh9 _), zbd g3 (zlb _)])
    exact hQ _ (zc3 hk2 (.inr (Nat.le_refl _)))
  have ix := zqg (s := s) (k := .i64) (i := i) (by omega) (by omega)
  rw [Int.toNat_natCast] at ix
  have hlt' : i < (bv s).length := by omega
  have hmem : (bv s).getD i 0 ∈ bv s := by
    rw [List.getD_eq_getElem?_getD, List.getElem?_eq_getElem hlt']; exact List.getElem_mem hlt'
  have hsm := ha _ hmem
  have hst : (bv s).take (i + 1) = (bv s).take i ++ [(bv s).getD i 0] := by
    rw [List.take_succ, List.getElem?_eq_getElem hlt', List.getD_eq_getElem?_getD, List.getElem?_eq_getElem hlt']; rfl
  generalize (bv s).getD i 0 = c at *
  have hia : zma 256 1 (ptr H.next 0) (B c) = some (ptr H.next c.toNat) := by
    rw [zbao (by omega) (by omega)]; simp
  have hlc : c.toNat < (zre ((bv s).take i)).length := by rw [zlb]; omega
  (try simp (maxSteps := 1000000) (disch := first | omega | (simp only [Z3]; omega) | (simp; done) | assumption | decide | (apply not_not_intro; assumption)) only [ZB, zie, znx, ix, znv, hia, hg2, znw])
  refine ⟨s.size - (i + 1), by omega, i + 1, rfl, by omega, by push_cast; rfl, zc3 hk2 (.inr (Nat.le_refl _)), by omega, ?_⟩
  rw [hst, ← zbnn]
def zpg (cs l : List (BitVec 8)) : List (BitVec 8) := (l.reverse.dropWhile (inS cs)).reverse
def zq5 (cs l : List (BitVec 8)) : List (BitVec 8) := l.dropWhile (inS cs)
theorem zbpy {H : Heap} {b : Nat} {cs : List (BitVec 8)} (hg : H.get b = some (.cells true (zre cs))) (c : BitVec 8) (Q : V → Heap → Prop) (hQ : Q (.bool (inS cs c)) H) : wp (zcb [ptr b 0, B c]) Q H := by
  show wp (zgi (ptr b 0) (B c)) Q H
  have hlt := c.isLt
  have hia : zma 256 1 (ptr b 0) (B c) = some (ptr b c.toNat) := by
    rw [zbao (by omega) (by omega)]; simp
  have hget := zbia cs c
  (try simp (maxSteps := 1000000) (disch := first | omega | (simp only [Z3]; omega) | (simp; done) | assumption | decide | (apply not_not_intro; assumption)) only [ZB, zgi, hia, hg, hget])
  exact hQ
theorem zbf1 (cs l : List (BitVec 8)) (c : BitVec 8) : zpg cs (l ++ [c]) = if inS cs c then zpg cs l else l ++ [c] := by
  unfold zpg
  rw [List.reverse_append]
  show (List.dropWhile (inS cs) (c :: l.reverse)).reverse = _
  rw [List.dropWhile_cons]
  split
  · rfl
  · simp
theorem zbpz {H : Heap} {b : Nat} {cs : List (BitVec 8)} (hg : H.get b = some (.cells true (zre cs))) (s : ByteArray) (hs : s.size ≤ 100000000) (Q : V → Heap → Prop) (hQ : Q (.string (sv (zpg cs (bv s)))) H) : wp (zfl [.string s, ptr b 0]) Q H := by
  show wp (zhv (.string s) (ptr b 0)) Q H
  (try simp (maxSteps := 1000000) (disch := first | omega | (simp only [Z3]; omega) | (simp; done) | assumption | decide | (apply not_not_intro; assumption)) only [ZB, zhv])
  refine zli (Inv := fun k vs H' => ∃ l : List (BitVec 8), k = l.length ∧ l.length ≤ s.size ∧ vs = [.string (sv l), ptr b 0] ∧ H' = H ∧ zpg cs l = zpg cs (bv s)) (n := s.size) (by unfold zb8; omega)
    ⟨bv s, (zc1 s).symm, by rw [zc1]; omega, by rw [zbhn], rfl, rfl⟩ ?_
  rintro k vs H' ⟨l, hk, hl, rfl, he, hd⟩
  rw [he]; clear he H'
  have hsz := z5g l
  rcases List.eq_nil_or_concat l with rfl | ⟨m, c, rfl⟩
  · have hz : ¬ (((sv ([] : List (BitVec 8))).size : Int) > 0) := by rw [hsz]; simp
    (try simp (maxSteps := 1000000) (disch := first | omega | (simp only [Z3]; omega) | (simp; done) | assumption | decide | (apply not_not_intro; assumption)) only [ZB, zhl, zhm])
    rw [← hd] at hQ
    exact hQ
  · rw [List.concat_eq_append] at *
    have hln : (m ++ [c]).length = m.length + 1 := by simp
    have ix := zqg (s := sv (m ++ [c])) (k := .i64) (i := (m.length : Int)) (by omega) (by omega)
    rw [Int.toNat_natCast, zym, show (m ++ [c]).getD m.length 0 = c from by simp] at ix
    have hsub := zbse (s := sv (m ++ [c])) (k' := .i64) (b := (m.length : Int)) (by omega) (by omega)
    have hv : (sv (m ++ [c])).extract 0 (m.length : Int).toNat = sv m := by
      apply zbfa
      rw [zbau, zym, zym]; simp
    rw [hv] at hsub
    rw [zbf1] at hd
    have e1 : (((m ++ [c]).length : Nat) : Int) - 1 = m.length := by omega
    (try simp (maxSteps := 1000000) (disch := first | omega | (simp only [Z3]; omega) | (simp; done) | assumption | decide | (apply not_not_intro; assumption)) only [ZB, zhl, zl4, hsz, e1, ix])
    refine zbpy hg c _ ?_
    cases hin : inS cs c with
    | true =>
      rw [hin, if_pos rfl] at hd
      (try simp (maxSteps := 1000000) (disch := first | omega | (simp only [Z3]; omega) | (simp; done) | assumption | decide | (apply not_not_intro; assumption)) only [ZB, zl3, hsz, e1, hsub])
      exact ⟨m.length, by omega, m, rfl, by omega, rfl, hd⟩
    | false =>
      rw [hin, if_neg (by simp)] at hd
      have h01 : ((0 : Nat) = 1) = False := by simp
      (try simp (maxSteps := 1000000) (disch := first | omega | (simp only [Z3]; omega) | (simp; done) | assumption | decide | (apply not_not_intro; assumption)) only [ZB, h01, if_false, zhm])
      rw [← hd] at hQ
      exact hQ
theorem zbp0 {H : Heap} {b : Nat} {cs : List (BitVec 8)} (hg : H.get b = some (.cells true (zre cs))) (s : ByteArray) (hs : s.size ≤ 100000000) (Q : V → Heap → Prop) (hQ : Q (.string (sv (zq5 cs (bv s)))) H) : wp (zfy [.string s, ptr b 0]) Q H := by
  show wp (zif (.string s) (ptr b 0)) Q H
  (try simp (maxSteps := 1000000) (disch := first | omega | (simp only [Z3]; omega) | (simp; done) | assumption | decide | (apply not_not_intro; assumption)) only [ZB, zif])
  refine zli (Inv := fun k vs H' => ∃ l : List (BitVec 8), k = l.length ∧ l.length ≤ s.size ∧ vs = [.string (sv l), ptr b 0] ∧ H' = H ∧ zq5 cs l = zq5 cs (bv s)) (n := s.size) (by unfold zb8; omega)
    ⟨bv s, (zc1 s).symm, by rw [zc1]; omega, by rw [zbhn], rfl, rfl⟩ ?_
  rintro k vs H' ⟨l, hk, hl, rfl, he, hd⟩
  rw [he]; clear he H'
  have hsz := z5g l
  match l, hk, hl, hd, hsz with
  | [], hk, hl, hd, hsz =>
    have hz : ¬ (((sv ([] : List (BitVec 8))).size : Int) > 0) := by rw [hsz]; simp
    (try simp (maxSteps := 1000000) (disch := first | omega | (simp only [Z3]; omega) | (simp; done) | assumption | decide | (apply not_not_intro; assumption)) only [ZB, zhw, zhx])
    rw [← hd] at hQ
    exact hQ
  | c :: m, hk, hl, hd, hsz =>
    rw [List.length_cons] at hsz hk hl
    have ix := zqg (s := sv (c :: m)) (k := .i64) (i := 0) (by omega) (by omega)
    rw [zym, show (c :: m).getD (0 : Int).toNat 0 = c from rfl] at ix
    have hsub := zbsd (s := sv (c :: m)) (k := .i64) (a := 1) (by omega) (by omega)
    have hv : (sv (c :: m)).extract (1 : Int).toNat (sv (c :: m)).size = sv m := by
      apply zbfa
      rw [zbau, zym, zym, hsz]; simp
    rw [hv] at hsub
    have hdl : zq5 cs (c :: m) = if inS cs c then zq5 cs m else c :: m := by
      unfold zq5; rw [List.dropWhile_cons]
    rw [hdl] at hd
    (try simp (maxSteps := 1000000) (disch := first | omega | (simp only [Z3]; omega) | (simp; done) | assumption | decide | (apply not_not_intro; assumption)) only [ZB, zhw, zmt, hsz, ix])
    refine zbpy hg c _ ?_
    cases hin : inS cs c with
    | true =>
      rw [hin, if_pos rfl] at hd
      (try simp (maxSteps := 1000000) (disch := first | omega | (simp only [Z3]; omega) | (simp; done) | assumption | decide | (apply not_not_intro; assumption)) only [ZB, zms, hsub])
      exact ⟨m.length, by omega, m, rfl, by omega, rfl, hd⟩
    | false =>
      rw [hin, if_neg (by simp)] at hd
      have h01 : ((0 : Nat) = 1) = False := by simp
      (try simp (maxSteps := 1000000) (disch := first | omega | (simp only [Z3]; omega) | (simp; done) | assumption | decide | (apply not_not_intro; assumption)) only [ZB, h01, if_false, zhx])
      rw [← hd] at hQ
      exact hQ
theorem zbno (cs l : List (BitVec 8)) : (zpg cs l).length ≤ l.length := by
  unfold zpg
  rw [List.length_reverse]
  have := (List.dropWhile_sublist (inS cs) (l := l.reverse)).length_le
  rwa [List.length_reverse] at this
theorem zbf2 {H : Heap} {G : List V → M V} (s cs : ByteArray) (hs : s.size ≤ 100000000) (ha : ∀ b ∈ bv cs, b.toNat < 128) (hc : 2 ≤ cs.size) (hc2 : cs.size ≤ 1000000) (Q : V → Heap → Prop) (hQ : ∀ H', Keeps [] H H' → Q (.string (sv (zq5 (bv cs) (zpg (bv cs) (bv s))))) H') : wp (zft G [.string s, .string cs]) Q H := by
  show wp (zoj G (.string s) (.string cs)) Q H
  have hne : ¬ cs = ⟨#[]⟩ := fun q => by rw [q] at hc; revert hc; decide
  have hn1 : ¬ ((cs.size : Int) = 1) := by omega
  by_cases h0 : s = ⟨#[]⟩
  · subst h0
    (try simp (maxSteps := 1000000) (disch := first | omega | (simp only [Z3]; omega) | (simp; done) | assumption | decide | (apply not_not_intro; assumption)) only [ZB, zoj])
    exact hQ H (Keeps.refl _ _)
  (try simp (maxSteps := 1000000) (disch := first | omega | (simp only [Z3]; omega) | (simp; done) | assumption | decide | (apply not_not_intro; assumption)) only [Z1, zc2, zzr, zo, zbpo, eq_self, true_and, zp, z9o, zca, zxh, zc5, Heap.get_push_eq, Heap.get_push_lt, Heap.get_set_eq, Heap.get_set_ne', Heap.next_push', Heap.next_set', Heap.set_push_lt, Heap.set_push_eq, Heap.set_set, zbax, zbay, zwg, zba1, zba2, z3n, z7i, zba3, zbap, z7e, zbaq, zbar, zbas, zbat, List.set_cons_zero, List.set_cons_succ, List.length_cons, List.length_nil, List.drop_succ_cons, List.drop_zero, List.take_succ_cons, List.take_zero, List.nil_append, List.cons_append, splice, z7b, z7c, z3m, zzq, zu9, z7d, zbaz, z7h, zbj6, zbfb, zba0, zm, zcg, zf, zl, Option.map_some, zzs, zba5, z3p, zj, zi, zg, z3o, z7j, z7k, zoj, zyx, zyw])
  refine zbvi cs ha hc2 _ fun H1 k1 => ?_
  (try simp (maxSteps := 1000000) (disch := first | omega | (simp only [Z3]; omega) | (simp; done) | assumption | decide | (apply not_not_intro; assumption)) only [Z1, zc2, zzr, zo, zbpo, eq_self, true_and, zp, z9o, zca, zxh, zc5, Heap.get_push_eq, Heap.get_push_lt, Heap.get_set_eq, Heap.get_set_ne', Heap.next_push', Heap.next_set', Heap.set_push_lt, Heap.set_push_eq, Heap.set_set, zbax, zbay, zwg, zba1, zba2, z3n, z7i, zba3, zbap, z7e, zbaq, zbar, zbas, zbat, List.set_cons_zero, List.set_cons_succ, List.length_cons, List.length_nil, List.drop_succ_cons, List.drop_zero, List.take_succ_cons, List.take_zero, List.nil_append, List.cons_append, splice, z7b, z7c, z3m, zzq, zu9, z7d, zbaz, z7h, zbj6, zbfb, zba0, zm, zcg, zf, zl, Option.map_some, zzs, zba5, z3p, zj, zi, zg, z3o, z7j, z7k])
  refine (zbaw (by kernel_rfl)).mpr ?_
  have k2 : Keeps [] H1 (H1.push (some (.cells true (List.replicate 256 (Value.bool false))))) := Keeps.push _ _ _
  have g2 : (H1.push (some (.cells true (List.replicate 256 (Value.bool false))))).get H1.next = some (.cells true (List.replicate 256 (Value.bool false))) := Heap.get_push_self _ _
  have n2 : (H1.push (some (.cells true (List.replicate 256 (Value.bool false))))).next = H1.next + 1 := Heap.next_push' ..
  generalize H1.push (some (.cells true (List.replicate 256 (Value.bool false)))) = H2 at *
  (try simp (maxSteps := 1000000) (disch := first | omega | (simp only [Z3]; omega) | (simp; done) | assumption | decide | (apply not_not_intro; assumption)) only [ZA, zca, zo, zm, zl, zj, zi, zg, zf, zfb g2 (List.length_replicate) (zlb _) (zbh9 _)])
  have g3 := Heap.get_set_eq (x := some (.cells true (zre (bv cs)))) (show H1.next < H2.next by omega)
  have k3 : Keeps [] H1 (H2.set H1.next (some (.cells true (zre (bv cs))))) := zc3 k2 (.inr (Nat.le_refl _))
  generalize H2.set H1.next (some (.cells true (zre (bv cs)))) = H3 at *
  refine zbpz g3 s hs _ ?_
  (try simp (maxSteps := 1000000) (disch := first | omega | (simp only [Z3]; omega) | (simp; done) | assumption | decide | (apply not_not_intro; assumption)) only [ZB])
  refine zbp0 g3 _ (by rw [z5g]; have := zbno (bv cs) (bv s); rw [zc1] at this; omega) _ ?_
  (try simp (maxSteps := 1000000) (disch := first | omega | (simp only [Z3]; omega) | (simp; done) | assumption | decide | (apply not_not_intro; assumption)) only [ZB])
  rw [zym]
  exact hQ _ (k1.trans k3 (by simp))
theorem z71 {α : Type} (p : α → Bool) : ∀ l : List α, l.dropWhile p = [] ↔ ∀ b ∈ l, p b = true
  | [] => by simp
  | a :: l => by
    rw [List.dropWhile_cons]
    by_cases h : p a = true
    · rw [if_pos h, z71 p l]; simp [h]
    · rw [if_neg h]; simp [h]
theorem zbb1 (cs l : List (BitVec 8)) : zq5 cs (zpg cs l) = [] ↔ ∀ b ∈ l, inS cs b = true := by
  unfold zq5 zpg
  rw [z71]
  constructor
  · intro h
    by_cases hn : l.reverse.dropWhile (inS cs) = []
    · rw [z71] at hn
      intro b hb
      exact hn b (by simpa using hb)
    · have h1 := List.head_dropWhile_not (inS cs) (l := l.reverse) hn
      have h2 := h ((l.reverse.dropWhile (inS cs)).head hn) (by simp)
      rw [h1] at h2
      exact absurd h2 (by simp)
  · intro h b hb
    rw [List.mem_reverse] at hb
    have := (List.dropWhile_sublist (inS cs) (l := l.reverse)).subset hb
    exact h b (by simpa using this)
end Go.AM.Cap
