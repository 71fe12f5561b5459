import Derived.Test.YtehhkminlafeiaaGreatDoorFun2
import Derived.Test.YtehhkminlafeiaaGreatDoorAmOpenF
set_option linter.all false
/- roles: strings.Trim at a set of ASCII letters -/
set_option maxHeartbeats 8000000
namespace Go.AM.Cap
open Go.AM Go.Proofs
theorem zbtf {cs vs : List V} (h : vs.length = cs.length) : splice cs 0 vs = vs := by
  unfold splice
  rw [List.take_zero, List.nil_append, List.drop_of_length_le (by omega), List.append_nil]
theorem zbj5 {H : Heap} {b n : Nat} {cs vs : List V} {Q : V → Heap → Prop} (hg : H.get b = some (.cells true cs)) (h1 : cs.length = n) (h2 : vs.length = n) (h3 : vs.all Value.isOne = true) : wp (stn n (ptr b 0) (.agg vs.toArray)) Q H ↔ Q undef (H.set b (some (.cells true vs))) := by
  rw [zcu, hg, zck h3 h2 (by omega), zbtf (by omega)]
theorem zgi {H : Heap} {b n : Nat} {rw_ : Bool} {cs : List V} {Q : V → Heap → Prop} (hg : H.get b = some (.cells rw_ cs)) (h1 : cs.length = n) : wp (ldn n (ptr b 0)) Q H ↔ Q (.agg cs.toArray) H := by
  rw [zf0, hg, zc6 (by omega), List.drop_zero, List.take_of_length_le (by omega)]
def inS (cs : List (BitVec 8)) (b : BitVec 8) : Bool := cs.any fun c => c.toNat == b.toNat
def zv5 (cs : List (BitVec 8)) : List V := (List.range 256).map fun j => .bool (cs.any fun c => c.toNat == j)
theorem zor (cs : List (BitVec 8)) : (zv5 cs).length = 256 := by simp [zv5]
theorem zby5 : zv5 [] = List.replicate 256 (Value.bool false) := by kernel_rfl
theorem zbq5 (cs : List (BitVec 8)) : (zv5 cs).all Value.isOne = true := by
  rw [List.all_eq_true]
  intro v hv
  simp only [zv5, List.mem_map] at hv
  obtain ⟨j, _, rfl⟩ := hv
  rfl
theorem zbq6 (cs : List (BitVec 8)) (b : BitVec 8) : (zv5 cs)[b.toNat]? = some (.bool (inS cs b)) := by
  have := b.isLt
  simp only [zv5, List.getElem?_map, List.getElem?_range this, Option.map_some, inS]
theorem zbv7 (cs : List (BitVec 8)) (b : BitVec 8) : (zv5 cs).set b.toNat (.bool true) = zv5 (cs ++ [b]) := by
  apply List.ext_getElem?
  intro j
  rw [List.getElem?_set, zor]
  by_cases hj : b.toNat = j
  · subst hj
    rw [if_pos rfl, if_pos b.isLt, zbq6]
    simp [inS]
  · rw [if_neg hj]
    simp only [zv5, List.getElem?_map]
    by_cases h : j < 256
    · rw [List.getElem?_range h]
      simp [hj]
    · rw [List.getElem?_eq_none (by simpa using h)]
      rfl
theorem zb2z {H : Heap} (s : ByteArray) (ha : ∀ b ∈ bv s, b.toNat < 128) (hs : s.size ≤ 1000000) (Q : V → Heap → Prop) (hQ : ∀ H', Keeps [] H H' → Q (.tuple #[.agg (zv5 (bv s)).toArray, .bool true]) H') : wp (ze9 [.string s]) Q H := by
  show wp (zik (.string s)) Q H
  have hb := zb7 s
  unfold zik
  rw [zk, zk]
  refine (zby (by kernel_rfl)).mpr ?_
  rw [← zby5]
  have k1 : Keeps [] H (H.push (some (.cells true (zv5 [])))) := Keeps.push _ _ _
  have g1 : (H.push (some (.cells true (zv5 [])))).get H.next = some (.cells true (zv5 [])) := Heap.get_push_self _ _
  have n1 : (H.push (some (.cells true (zv5 [])))).next = H.next + 1 := by simp
  generalize H.push (some (.cells true (zv5 []))) = H1 at *
  (try simp (maxSteps := 1000000) (disch := first | omega | (simp only [Z3]; omega) | (simp; done) | assumption | decide | (refine not_not_intro ?_; assumption)) only [Z1, Z2, splice])
  refine zbt (Inv := fun k vs H' => ∃ i : Nat, k = s.size - i ∧ i ≤ s.size ∧ vs = [.string s, ptr H.next 0, i64 i] ∧ Keeps [] H H' ∧ H.next < H'.next ∧ H'.get H.next = some (.cells true (zv5 ((bv s).take i)))) (n := s.size) (by unfold zcc; omega)
    ⟨0, by omega, by omega, rfl, k1, by omega, g1⟩ ?_
  rintro k vs H2 ⟨i, hk, hi, rfl, hk2, hn2, hg2⟩
  by_cases hlt : i < s.size
  case neg =>
    have : i = s.size := by omega
    subst this
    rw [← hb, List.take_length] at hg2
    have g3 := Heap.get_set_eq (x := some (.cells true (zv5 (bv s)))) hn2
    (try simp (maxSteps := 1000000) (disch := first | omega | (simp only [Z3]; omega) | (simp; done) | assumption | decide | (refine not_not_intro ?_; assumption)) only [Z1, zl, zr, zcr, zeh, eq_self, true_and, zck, zc6, zby, zbu, Heap.get_push_eq, Heap.get_push_lt, Heap.get_set_eq, Heap.get_set_ne', Heap.next_push', Heap.next_set', Heap.set_push_lt, Heap.set_push_eq, Heap.set_set, zbz, zb0, zbf, zb3, zb4, z4, zbh, zb5, zbq, zbe, zbv, zbw, zbo, zbx, List.set_cons_zero, List.set_cons_succ, List.length_cons, List.length_nil, List.drop_succ_cons, List.drop_zero, List.take_succ_cons, List.take_zero, List.nil_append, List.cons_append, splice, zbb, zbc, z0, zq, zm, zbd, zb1, zbg, zc8, zcm, zb2, zb8, zx, zo, z9, Option.map_some, zb6, zbn, z6, zbi, zbj, zbk, z5, zbl, zbm, zk5, zrr, zgi hg2 (zor _), zbj5 hg2 (zor _) (zor _) (zbq5 _), zgi g3 (zor _)])
    exact hQ _ (zfj hk2 (.inr (Nat.le_refl _)))
  have ix := zoy (s := s) (k := .i64) (i := i) (by omega) (by omega)
  rw [Int.toNat_natCast] at ix
  have hlt' : i < (bv s).length := by omega
  have hmem : (bv s).getD i 0 ∈ bv s := by
    rw [List.getD_eq_getElem?_getD, List.getElem?_eq_getElem hlt']; exact List.getElem_mem hlt'
  have hsm := ha _ hmem
  have hst : (bv s).take (i + 1) = (bv s).take i ++ [(bv s).getD i 0] := by
    rw [List.take_succ, List.getElem?_eq_getElem hlt', List.getD_eq_getElem?_getD, List.getElem?_eq_getElem hlt']; rfl
  generalize (bv s).getD i 0 = c at *
  have hia : zei 256 1 (ptr H.next 0) (B c) = some (ptr H.next c.toNat) := by
    rw [zq1 (by omega) (by omega)]; simp
  have hlc : c.toNat < (zv5 ((bv s).take i)).length := by rw [zor]; omega
  (try simp (maxSteps := 1000000) (disch := first | omega | (simp only [Z3]; omega) | (simp; done) | assumption | decide | (refine not_not_intro ?_; assumption)) only [Z1, Z2, splice, zk5, zrq, ix, zro, hia, hg2, zrp])
  refine ⟨s.size - (i + 1), by omega, i + 1, rfl, by omega, by push_cast; rfl, zfj hk2 (.inr (Nat.le_refl _)), by omega, ?_⟩
  rw [hst, ← zbv7]
def z3j (cs l : List (BitVec 8)) : List (BitVec 8) := (l.reverse.dropWhile (inS cs)).reverse
def z8a (cs l : List (BitVec 8)) : List (BitVec 8) := l.dropWhile (inS cs)
theorem zby6 {H : Heap} {b : Nat} {cs : List (BitVec 8)} (hg : H.get b = some (.cells true (zv5 cs))) (c : BitVec 8) (Q : V → Heap → Prop) (hQ : Q (.bool (inS cs c)) H) : wp (zdd [ptr b 0, B c]) Q H := by
  show wp (zf2 (ptr b 0) (B c)) Q H
  have hlt := c.isLt
  have hia : zei 256 1 (ptr b 0) (B c) = some (ptr b c.toNat) := by
    rw [zq1 (by omega) (by omega)]; simp
  have hget := zbq6 cs c
  (try simp (maxSteps := 1000000) (disch := first | omega | (simp only [Z3]; omega) | (simp; done) | assumption | decide | (refine not_not_intro ?_; assumption)) only [Z1, Z2, splice, zf2, hia, hg, hget])
  exact hQ
theorem zbom (cs l : List (BitVec 8)) (c : BitVec 8) : z3j cs (l ++ [c]) = if inS cs c then z3j cs l else l ++ [c] := by
  unfold z3j
  rw [List.reverse_append]
  show (List.dropWhile (inS cs) (c :: l.reverse)).reverse = _
  rw [List.dropWhile_cons]
  split
  · rfl
  · simp
theorem zby7 {H : Heap} {b : Nat} {cs : List (BitVec 8)} (hg : H.get b = some (.cells true (zv5 cs))) (s : ByteArray) (hs : s.size ≤ 100000000) (Q : V → Heap → Prop) (hQ : Q (.string (sv (z3j cs (bv s)))) H) : wp (zec [.string s, ptr b 0]) Q H := by
  show wp (zhg (.string s) (ptr b 0)) Q H
  (try simp (maxSteps := 1000000) (disch := first | omega | (simp only [Z3]; omega) | (simp; done) | assumption | decide | (refine not_not_intro ?_; assumption)) only [Z1, Z2, splice, zhg])
  refine zbt (Inv := fun k vs H' => ∃ l : List (BitVec 8), k = l.length ∧ l.length ≤ s.size ∧ vs = [.string (sv l), ptr b 0] ∧ H' = H ∧ z3j cs l = z3j cs (bv s)) (n := s.size) (by unfold zcc; omega)
    ⟨bv s, (zb7 s).symm, by rw [zb7]; omega, by rw [zbpy], rfl, rfl⟩ ?_
  rintro k vs H' ⟨l, hk, hl, rfl, he, hd⟩
  rw [he]; clear he H'
  have hsz := zgw l
  rcases List.eq_nil_or_concat l with rfl | ⟨m, c, rfl⟩
  · have hz : ¬ (((sv ([] : List (BitVec 8))).size : Int) > 0) := by rw [hsz]; simp
    (try simp (maxSteps := 1000000) (disch := first | omega | (simp only [Z3]; omega) | (simp; done) | assumption | decide | (refine not_not_intro ?_; assumption)) only [Z1, Z2, splice, zjo, zjp])
    rw [← hd] at hQ
    exact hQ
  · rw [List.concat_eq_append] at *
    have hln : (m ++ [c]).length = m.length + 1 := by simp
    have ix := zoy (s := sv (m ++ [c])) (k := .i64) (i := (m.length : Int)) (by omega) (by omega)
    rw [Int.toNat_natCast, zlq, show (m ++ [c]).getD m.length 0 = c from by simp] at ix
    have hsub := zbca (s := sv (m ++ [c])) (k' := .i64) (b := (m.length : Int)) (by omega) (by omega)
    have hv : (sv (m ++ [c])).extract 0 (m.length : Int).toNat = sv m := by
      apply z1g
      rw [zi4, zlq, zlq]; simp
    rw [hv] at hsub
    rw [zbom] at hd
    have e1 : (((m ++ [c]).length : Nat) : Int) - 1 = m.length := by omega
    (try simp (maxSteps := 1000000) (disch := first | omega | (simp only [Z3]; omega) | (simp; done) | assumption | decide | (refine not_not_intro ?_; assumption)) only [Z1, Z2, splice, zjo, zpl, hsz, e1, ix])
    refine zby6 hg c _ ?_
    cases hin : inS cs c with
    | true =>
      rw [hin, if_pos rfl] at hd
      (try simp (maxSteps := 1000000) (disch := first | omega | (simp only [Z3]; omega) | (simp; done) | assumption | decide | (refine not_not_intro ?_; assumption)) only [Z1, Z2, splice, zpk, hsz, e1, hsub])
      exact ⟨m.length, by omega, m, rfl, by omega, rfl, hd⟩
    | false =>
      rw [hin, if_neg (by simp)] at hd
      have h01 : ((0 : Nat) = 1) = False := by simp
      (try simp (maxSteps := 1000000) (disch := first | omega | (simp only [Z3]; omega) | (simp; done) | assumption | decide | (refine not_not_intro ?_; assumption)) only [Z1, Z2, splice, h01, if_false, zjp])
      rw [← hd] at hQ
      exact hQ
theorem zby8 {H : Heap} {b : Nat} {cs : List (BitVec 8)} (hg : H.get b = some (.cells true (zv5 cs))) (s : ByteArray) (hs : s.size ≤ 100000000) (Q : V → Heap → Prop) (hQ : Q (.string (sv (z8a cs (bv s)))) H) : wp (zex [.string s, ptr b 0]) Q H := by
  show wp (zhy (.string s) (ptr b 0)) Q H
  (try simp (maxSteps := 1000000) (disch := first | omega | (simp only [Z3]; omega) | (simp; done) | assumption | decide | (refine not_not_intro ?_; assumption)) only [Z1, Z2, splice, zhy])
  refine zbt (Inv := fun k vs H' => ∃ l : List (BitVec 8), k = l.length ∧ l.length ≤ s.size ∧ vs = [.string (sv l), ptr b 0] ∧ H' = H ∧ z8a cs l = z8a cs (bv s)) (n := s.size) (by unfold zcc; omega)
    ⟨bv s, (zb7 s).symm, by rw [zb7]; omega, by rw [zbpy], rfl, rfl⟩ ?_
  rintro k vs H' ⟨l, hk, hl, rfl, he, hd⟩
  rw [he]; clear he H'
  have hsz := zgw l
  match l, hk, hl, hd, hsz with
  | [], hk, hl, hd, hsz =>
    have hz : ¬ (((sv ([] : List (BitVec 8))).size : Int) > 0) := by rw [hsz]; simp
    (try simp (maxSteps := 1000000) (disch := first | omega | (simp only [Z3]; omega) | (simp; done) | assumption | decide | (refine not_not_intro ?_; assumption)) only [Z1, Z2, splice, zke, zkf])
    rw [← hd] at hQ
    exact hQ
  | c :: m, hk, hl, hd, hsz =>
    rw [List.length_cons] at hsz hk hl
    have ix := zoy (s := sv (c :: m)) (k := .i64) (i := 0) (by omega) (by omega)
    rw [zlq, show (c :: m).getD (0 : Int).toNat 0 = c from rfl] at ix
    have hsub := zbg7 (s := sv (c :: m)) (k := .i64) (a := 1) (by omega) (by omega)
    have hv : (sv (c :: m)).extract (1 : Int).toNat (sv (c :: m)).size = sv m := by
      apply z1g
      rw [zi4, zlq, zlq, hsz]; simp
    rw [hv] at hsub
    have hdl : z8a cs (c :: m) = if inS cs c then z8a cs m else c :: m := by
      unfold z8a; rw [List.dropWhile_cons]
    rw [hdl] at hd
    (try simp (maxSteps := 1000000) (disch := first | omega | (simp only [Z3]; omega) | (simp; done) | assumption | decide | (refine not_not_intro ?_; assumption)) only [Z1, Z2, splice, zke, zp6, hsz, ix])
    refine zby6 hg c _ ?_
    cases hin : inS cs c with
    | true =>
      rw [hin, if_pos rfl] at hd
      (try simp (maxSteps := 1000000) (disch := first | omega | (simp only [Z3]; omega) | (simp; done) | assumption | decide | (refine not_not_intro ?_; assumption)) only [Z1, Z2, splice, zp5, hsub])
      exact ⟨m.length, by omega, m, rfl, by omega, rfl, hd⟩
    | false =>
      rw [hin, if_neg (by simp)] at hd
      have h01 : ((0 : Nat) = 1) = False := by simp
      (try simp (maxSteps := 1000000) (disch := first | omega | (simp only [Z3]; omega) | (simp; done) | assumption | decide | (refine not_not_intro ?_; assumption)) only [Z1, Z2, splice, h01, if_false, zkf])
      rw [← hd] at hQ
      exact hQ
theorem zbv8 (cs l : List (BitVec 8)) : (z3j cs l).length ≤ l.length := by
  unfold z3j
  rw [List.length_reverse]
  have := (List.dropWhile_sublist (inS cs) (l := l.reverse)).length_le
  rwa [List.length_reverse] at this
theorem zb1f {H : Heap} {G : List V → M V} (s cs : ByteArray) (hs : s.size ≤ 100000000) (ha : ∀ b ∈ bv cs, b.toNat < 128) (hc : 2 ≤ cs.size) (hc2 : cs.size ≤ 1000000) (Q : V → Heap → Prop) (hQ : ∀ H', Keeps [] H H' → Q (.string (sv (z8a (bv cs) (z3j (bv cs) (bv s))))) H') : wp (zk6 G [.string s, .string cs]) Q H := by
  show wp (zoa G (.string s) (.string cs)) Q H
  have hne : ¬ cs = ⟨#[]⟩ := fun q => by rw [q] at hc; revert hc; decide
  have hn1 : ¬ ((cs.size : Int) = 1) := by omega
  by_cases h0 : s = ⟨#[]⟩
  · subst h0
    (try simp (maxSteps := 1000000) (disch := first | omega | (simp only [Z3]; omega) | (simp; done) | assumption | decide | (refine not_not_intro ?_; assumption)) only [Z1, Z2, splice, zoa])
    exact hQ H (Keeps.refl _ _)
  (try simp (maxSteps := 1000000) (disch := first | omega | (simp only [Z3]; omega) | (simp; done) | assumption | decide | (refine not_not_intro ?_; assumption)) only [Z1, zl, zr, zcr, zeh, eq_self, true_and, zcu, zck, zf0, zc6, zbu, Heap.get_push_eq, Heap.get_push_lt, Heap.get_set_eq, Heap.get_set_ne', Heap.next_push', Heap.next_set', Heap.set_push_lt, Heap.set_push_eq, Heap.set_set, zbz, zb0, zbf, zb3, zb4, z4, zbh, zb5, zbq, zbe, zbv, zbw, zbo, zbx, List.set_cons_zero, List.set_cons_succ, List.length_cons, List.length_nil, List.drop_succ_cons, List.drop_zero, List.take_succ_cons, List.take_zero, List.nil_append, List.cons_append, splice, zbb, zbc, z0, zq, zm, zbd, zb1, zbg, zc8, zcm, zb2, zb8, zx, zo, z9, Option.map_some, zb6, zbn, z6, zbi, zbj, zbk, z5, zbl, zbm, zoa, z4z, z4y])
  refine zb2z cs ha hc2 _ fun H1 k1 => ?_
  (try simp (maxSteps := 1000000) (disch := first | omega | (simp only [Z3]; omega) | (simp; done) | assumption | decide | (refine not_not_intro ?_; assumption)) only [Z1, zl, zr, zcr, zeh, eq_self, true_and, zcu, zck, zf0, zc6, zbu, Heap.get_push_eq, Heap.get_push_lt, Heap.get_set_eq, Heap.get_set_ne', Heap.next_push', Heap.next_set', Heap.set_push_lt, Heap.set_push_eq, Heap.set_set, zbz, zb0, zbf, zb3, zb4, z4, zbh, zb5, zbq, zbe, zbv, zbw, zbo, zbx, List.set_cons_zero, List.set_cons_succ, List.length_cons, List.length_nil, List.drop_succ_cons, List.drop_zero, List.take_succ_cons, List.take_zero, List.nil_append, List.cons_append, splice, zbb, zbc, z0, zq, zm, zbd, zb1, zbg, zc8, zcm, zb2, zb8, zx, zo, z9, Option.map_some, zb6, zbn, z6, zbi, zbj, zbk, z5, zbl, zbm])
  refine (zby (by kernel_rfl)).mpr ?_
  have k2 : Keeps [] H1 (H1.push (some (.cells true (List.replicate 256 (Value.bool false))))) := Keeps.push _ _ _
  have g2 : (H1.push (some (.cells true (List.replicate 256 (Value.bool false))))).get H1.next = some (.cells true (List.replicate 256 (Value.bool false))) := Heap.get_push_self _ _
  have n2 : (H1.push (some (.cells true (List.replicate 256 (Value.bool false))))).next = H1.next + 1 := Heap.next_push' ..
  generalize H1.push (some (.cells true (List.replicate 256 (Value.bool false)))) = H2 at *
  (try simp (maxSteps := 1000000) (disch := first | omega | (simp only [Z3]; omega) | (simp; done) | assumption | decide | (refine not_not_intro ?_; assumption)) only [Z1, zl, zr, zcr, zeh, eq_self, true_and, zck, zf0, zc6, zby, zbu, Heap.get_push_eq, Heap.get_push_lt, Heap.get_set_eq, Heap.get_set_ne', Heap.next_push', Heap.next_set', Heap.set_push_lt, Heap.set_push_eq, Heap.set_set, zbz, zb0, zbf, zb3, zb4, z4, zbh, zb5, zbq, zbe, zbv, zbw, zbo, zbx, List.set_cons_zero, List.set_cons_succ, List.length_cons, List.length_nil, List.drop_succ_cons, List.drop_zero, List.take_succ_cons, List.take_zero, List.nil_append, List.cons_append, splice, zbb, zbc, z0, zq, zm, zbd, zb1, zbg, zc8, zcm, zb2, zb8, zx, zo, z9, Option.map_some, zb6, zbn, z6, zbi, zbj, zbk, z5, zbl, zbm, zbj5 g2 (List.length_replicate) (zor _) (zbq5 _)])
  have g3 := Heap.get_set_eq (x := some (.cells true (zv5 (bv cs)))) (show H1.next < H2.next by omega)
  have k3 : Keeps [] H1 (H2.set H1.next (some (.cells true (zv5 (bv cs))))) := zfj k2 (.inr (Nat.le_refl _))
  generalize H2.set H1.next (some (.cells true (zv5 (bv cs)))) = H3 at *
  refine zby7 g3 s hs _ ?_
  (try simp (maxSteps := 1000000) (disch := first | omega | (simp only [Z3]; omega) | (simp; done) | assumption | decide | (refine not_not_intro ?_; assumption)) only [Z1, Z2, splice])
  refine zby8 g3 _ (by rw [zgw]; have := zbv8 (bv cs) (bv s); rw [zb7] at this; omega) _ ?_
  (try simp (maxSteps := 1000000) (disch := first | omega | (simp only [Z3]; omega) | (simp; done) | assumption | decide | (refine not_not_intro ?_; assumption)) only [Z1, Z2, splice])
  rw [zlq]
  exact hQ _ (k1.trans k3 (by simp))
theorem zbfc {α : Type} (p : α → Bool) : ∀ l : List α, l.dropWhile p = [] ↔ ∀ b ∈ l, p b = true
  | [] => by simp
  | a :: l => by
    rw [List.dropWhile_cons]
    by_cases h : p a = true
    · rw [if_pos h, zbfc p l]; simp [h]
    · rw [if_neg h]; simp [h]
theorem zby9 (cs l : List (BitVec 8)) : z8a cs (z3j cs l) = [] ↔ ∀ b ∈ l, inS cs b = true := by
  unfold z8a z3j
  rw [zbfc]
  constructor
  · intro h
    by_cases hn : l.reverse.dropWhile (inS cs) = []
    · rw [zbfc] at hn
      intro b hb
      exact hn b (by simpa using hb)
    · have h1 := List.head_dropWhile_not (inS cs) (l := l.reverse) hn
      have h2 := h ((l.reverse.dropWhile (inS cs)).head hn) (by simp)
      rw [h1] at h2
      exact absurd h2 (by simp)
  · intro h b hb
    rw [List.mem_reverse] at hb
    have := (List.dropWhile_sublist (inS cs) (l := l.reverse)).subset hb
    exact h b (by simpa using this)
end Go.AM.Cap
