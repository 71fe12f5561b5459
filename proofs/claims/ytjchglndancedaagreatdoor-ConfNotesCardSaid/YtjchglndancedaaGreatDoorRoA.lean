import Derived.Test.YtjchglndancedaaGreatDoorFun2
import Derived.Test.YtjchglndancedaaGreatDoorAmOpenF
set_option linter.all false
/- roles: strings.Trim at a set of ASCII letters -/
set_option maxHeartbeats 8000000
namespace Go.AM.Cap
open Go.AM Go.Proofs
theorem zbkx {cs vs : List V} (h : vs.length = cs.length) : splice cs 0 vs = vs := by
  unfold splice
  rw [List.take_zero, List.nil_append, List.drop_of_length_le (by omega), List.append_nil]
theorem zfm {H : Heap} {b n : Nat} {cs vs : List V} {Q : V → Heap → Prop} (hg : H.get b = some (.cells true cs)) (h1 : cs.length = n) (h2 : vs.length = n) (h3 : vs.all Value.isOne = true) : wp (stn n (ptr b 0) (.agg vs.toArray)) Q H ↔ Q undef (H.set b (some (.cells true vs))) := by
  rw [zby, hg, zbt h3 h2 (by omega), zbkx (by omega)]
theorem zcg {H : Heap} {b n : Nat} {rw_ : Bool} {cs : List V} {Q : V → Heap → Prop} (hg : H.get b = some (.cells rw_ cs)) (h1 : cs.length = n) : wp (ldn n (ptr b 0)) Q H ↔ Q (.agg cs.toArray) H := by
  rw [zdz, hg, zb0 (by omega), List.drop_zero, List.take_of_length_le (by omega)]
def inS (cs : List (BitVec 8)) (b : BitVec 8) : Bool := cs.any fun c => c.toNat == b.toNat
def ztm (cs : List (BitVec 8)) : List V := (List.range 256).map fun j => .bool (cs.any fun c => c.toNat == j)
theorem zno (cs : List (BitVec 8)) : (ztm cs).length = 256 := by simp [ztm]
theorem zbpx : ztm [] = List.replicate 256 (Value.bool false) := by kernel_rfl
theorem zbi1 (cs : List (BitVec 8)) : (ztm cs).all Value.isOne = true := by
  rw [List.all_eq_true]
  intro v hv
  simp only [ztm, List.mem_map] at hv
  obtain ⟨j, _, rfl⟩ := hv
  rfl
theorem zbi2 (cs : List (BitVec 8)) (b : BitVec 8) : (ztm cs)[b.toNat]? = some (.bool (inS cs b)) := by
  have := b.isLt
  simp only [ztm, List.getElem?_map, List.getElem?_range this, Option.map_some, inS]
theorem zbns (cs : List (BitVec 8)) (b : BitVec 8) : (ztm cs).set b.toNat (.bool true) = ztm (cs ++ [b]) := by
  apply List.ext_getElem?
  intro j
  rw [List.getElem?_set, zno]
  by_cases hj : b.toNat = j
  · subst hj
    rw [if_pos rfl, if_pos b.isLt, zbi2]
    simp [inS]
  · rw [if_neg hj]
    simp only [ztm, List.getElem?_map]
    by_cases h : j < 256
    · rw [List.getElem?_range h]
      simp [hj]
    · rw [List.getElem?_eq_none (by simpa using h)]
      rfl
theorem zbtw {H : Heap} (s : ByteArray) (ha : ∀ b ∈ bv s, b.toNat < 128) (hs : s.size ≤ 1000000) (Q : V → Heap → Prop) (hQ : ∀ H', Keeps [] H H' → Q (.tuple #[.agg (ztm (bv s)).toArray, .bool true]) H') : wp (zfq [.string s]) Q H := by
  show wp (ziy (.string s)) Q H
  have hb := zet s
  unfold ziy
  rw [zcc, zcc]
  refine (zbi (by kernel_rfl)).mpr ?_
  rw [← zbpx]
  have k1 : Keeps [] H (H.push (some (.cells true (ztm [])))) := Keeps.push _ _ _
  have g1 : (H.push (some (.cells true (ztm [])))).get H.next = some (.cells true (ztm [])) := Heap.get_push_self _ _
  have n1 : (H.push (some (.cells true (ztm [])))).next = H.next + 1 := by simp
  generalize H.push (some (.cells true (ztm []))) = H1 at *
  (try simp (maxSteps := 1000000) (disch := first | omega | (simp only [Z3]; omega) | (simp; done) | assumption | decide | (refine not_not_intro ?_; assumption)) only [Z1, Z2, splice])
  refine zpi (Inv := fun k vs H' => ∃ i : Nat, k = s.size - i ∧ i ≤ s.size ∧ vs = [.string s, ptr H.next 0, i64 i] ∧ Keeps [] H H' ∧ H.next < H'.next ∧ H'.get H.next = some (.cells true (ztm ((bv s).take i)))) (n := s.size) (by unfold zem; omega)
    ⟨0, by omega, by omega, rfl, k1, by omega, g1⟩ ?_
  rintro k vs H2 ⟨i, hk, hi, rfl, hk2, hn2, hg2⟩
  by_cases hlt : i < s.size
  case neg =>
    have : i = s.size := by omega
    subst this
    rw [← hb, List.take_length] at hg2
    have g3 := Heap.get_set_eq (x := some (.cells true (ztm (bv s)))) hn2
    (try simp (maxSteps := 1000000) (disch := first | omega | (simp only [Z3]; omega) | (simp; done) | assumption | decide | (refine not_not_intro ?_; assumption)) only [Z1, zl, zf, zbx, zb8, eq_self, true_and, zbt, zb0, zbi, zbc, Heap.get_push_eq, Heap.get_push_lt, Heap.get_set_eq, Heap.get_set_ne', Heap.next_push', Heap.next_set', Heap.set_push_lt, Heap.set_push_eq, Heap.set_set, zbj, zbk, zp, zbn, zbo, zi, zw, zbp, zbd, zu, zbe, zbf, zbg, zbh, List.set_cons_zero, List.set_cons_succ, List.length_cons, List.length_nil, List.drop_succ_cons, List.drop_zero, List.take_succ_cons, List.take_zero, List.nil_append, List.cons_append, splice, zq, zr, zh, ze, zd, zt, zbl, zv, zb2, zbu, zbm, zbs, zg, zm, zbb, Option.map_some, zbq, zbr, zk, zba, z7, zz, zj, zx, zy, zk0, zqe, zcg hg2 (zno _), zfm hg2 (zno _) (zno _) (zbi1 _), zcg g3 (zno _)])
    exact hQ _ (zd7 hk2 (.inr (Nat.le_refl _)))
  have ix := zw0 (s := s) (k := .i64) (i := i) (by omega) (by omega)
  rw [Int.toNat_natCast] at ix
  have hlt' : i < (bv s).length := by omega
  have hmem : (bv s).getD i 0 ∈ bv s := by
    rw [List.getD_eq_getElem?_getD, List.getElem?_eq_getElem hlt']; exact List.getElem_mem hlt'
  have hsm := ha _ hmem
  have hst : (bv s).take (i + 1) = (bv s).take i ++ [(bv s).getD i 0] := by
    rw [List.take_succ, List.getElem?_eq_getElem hlt', List.getD_eq_getElem?_getD, List.getElem?_eq_getElem hlt']; rfl
  generalize (bv s).getD i 0 = c at *
  have hia : zxj 256 1 (ptr H.next 0) (B c) = some (ptr H.next c.toNat) := by
    rw [zbbu (by omega) (by omega)]; simp
  have hlc : c.toNat < (ztm ((bv s).take i)).length := by rw [zno]; omega
  (try simp (maxSteps := 1000000) (disch := first | omega | (simp only [Z3]; omega) | (simp; done) | assumption | decide | (refine not_not_intro ?_; assumption)) only [Z1, Z2, splice, zk0, zqd, ix, zqb, hia, hg2, zqc])
  refine ⟨s.size - (i + 1), by omega, i + 1, rfl, by omega, by push_cast; rfl, zd7 hk2 (.inr (Nat.le_refl _)), by omega, ?_⟩
  rw [hst, ← zbns]
def zrv (cs l : List (BitVec 8)) : List (BitVec 8) := (l.reverse.dropWhile (inS cs)).reverse
def zte (cs l : List (BitVec 8)) : List (BitVec 8) := l.dropWhile (inS cs)
theorem zbpy {H : Heap} {b : Nat} {cs : List (BitVec 8)} (hg : H.get b = some (.cells true (ztm cs))) (c : BitVec 8) (Q : V → Heap → Prop) (hQ : Q (.bool (inS cs c)) H) : wp (zdi [ptr b 0, B c]) Q H := by
  show wp (zgg (ptr b 0) (B c)) Q H
  have hlt := c.isLt
  have hia : zxj 256 1 (ptr b 0) (B c) = some (ptr b c.toNat) := by
    rw [zbbu (by omega) (by omega)]; simp
  have hget := zbi2 cs c
  (try simp (maxSteps := 1000000) (disch := first | omega | (simp only [Z3]; omega) | (simp; done) | assumption | decide | (refine not_not_intro ?_; assumption)) only [Z1, Z2, splice, zgg, hia, hg, hget])
  exact hQ
theorem zbgo (cs l : List (BitVec 8)) (c : BitVec 8) : zrv cs (l ++ [c]) = if inS cs c then zrv cs l else l ++ [c] := by
  unfold zrv
  rw [List.reverse_append]
  show (List.dropWhile (inS cs) (c :: l.reverse)).reverse = _
  rw [List.dropWhile_cons]
  split
  · rfl
  · simp
theorem zbpz {H : Heap} {b : Nat} {cs : List (BitVec 8)} (hg : H.get b = some (.cells true (ztm cs))) (s : ByteArray) (hs : s.size ≤ 100000000) (Q : V → Heap → Prop) (hQ : Q (.string (sv (zrv cs (bv s)))) H) : wp (zex [.string s, ptr b 0]) Q H := by
  show wp (zhu (.string s) (ptr b 0)) Q H
  (try simp (maxSteps := 1000000) (disch := first | omega | (simp only [Z3]; omega) | (simp; done) | assumption | decide | (refine not_not_intro ?_; assumption)) only [Z1, Z2, splice, zhu])
  refine zpi (Inv := fun k vs H' => ∃ l : List (BitVec 8), k = l.length ∧ l.length ≤ s.size ∧ vs = [.string (sv l), ptr b 0] ∧ H' = H ∧ zrv cs l = zrv cs (bv s)) (n := s.size) (by unfold zem; omega)
    ⟨bv s, (zet s).symm, by rw [zet]; omega, by rw [zbe0], rfl, rfl⟩ ?_
  rintro k vs H' ⟨l, hk, hl, rfl, he, hd⟩
  rw [he]; clear he H'
  have hsz := zbay l
  rcases List.eq_nil_or_concat l with rfl | ⟨m, c, rfl⟩
  · have hz : ¬ (((sv ([] : List (BitVec 8))).size : Int) > 0) := by rw [hsz]; simp
    (try simp (maxSteps := 1000000) (disch := first | omega | (simp only [Z3]; omega) | (simp; done) | assumption | decide | (refine not_not_intro ?_; assumption)) only [Z1, Z2, splice, zjz, zj0])
    rw [← hd] at hQ
    exact hQ
  · rw [List.concat_eq_append] at *
    have hln : (m ++ [c]).length = m.length + 1 := by simp
    have ix := zw0 (s := sv (m ++ [c])) (k := .i64) (i := (m.length : Int)) (by omega) (by omega)
    rw [Int.toNat_natCast, z1d, show (m ++ [c]).getD m.length 0 = c from by simp] at ix
    have hsub := zbrk (s := sv (m ++ [c])) (k' := .i64) (b := (m.length : Int)) (by omega) (by omega)
    have hv : (sv (m ++ [c])).extract 0 (m.length : Int).toNat = sv m := by
      apply zbby
      rw [zbbz, z1d, z1d]; simp
    rw [hv] at hsub
    rw [zbgo] at hd
    have e1 : (((m ++ [c]).length : Nat) : Int) - 1 = m.length := by omega
    (try simp (maxSteps := 1000000) (disch := first | omega | (simp only [Z3]; omega) | (simp; done) | assumption | decide | (refine not_not_intro ?_; assumption)) only [Z1, Z2, splice, zjz, zof, hsz, e1, ix])
    refine zbpy hg c _ ?_
    cases hin : inS cs c with
    | true =>
      rw [hin, if_pos rfl] at hd
      (try simp (maxSteps := 1000000) (disch := first | omega | (simp only [Z3]; omega) | (simp; done) | assumption | decide | (refine not_not_intro ?_; assumption)) only [Z1, Z2, splice, zoe, hsz, e1, hsub])
      exact ⟨m.length, by omega, m, rfl, by omega, rfl, hd⟩
    | false =>
      rw [hin, if_neg (by simp)] at hd
      have h01 : ((0 : Nat) = 1) = False := by simp
      (try simp (maxSteps := 1000000) (disch := first | omega | (simp only [Z3]; omega) | (simp; done) | assumption | decide | (refine not_not_intro ?_; assumption)) only [Z1, Z2, splice, h01, if_false, zj0])
      rw [← hd] at hQ
      exact hQ
theorem zbp0 {H : Heap} {b : Nat} {cs : List (BitVec 8)} (hg : H.get b = some (.cells true (ztm cs))) (s : ByteArray) (hs : s.size ≤ 100000000) (Q : V → Heap → Prop) (hQ : Q (.string (sv (zte cs (bv s)))) H) : wp (zfa [.string s, ptr b 0]) Q H := by
  show wp (zia (.string s) (ptr b 0)) Q H
  (try simp (maxSteps := 1000000) (disch := first | omega | (simp only [Z3]; omega) | (simp; done) | assumption | decide | (refine not_not_intro ?_; assumption)) only [Z1, Z2, splice, zia])
  refine zpi (Inv := fun k vs H' => ∃ l : List (BitVec 8), k = l.length ∧ l.length ≤ s.size ∧ vs = [.string (sv l), ptr b 0] ∧ H' = H ∧ zte cs l = zte cs (bv s)) (n := s.size) (by unfold zem; omega)
    ⟨bv s, (zet s).symm, by rw [zet]; omega, by rw [zbe0], rfl, rfl⟩ ?_
  rintro k vs H' ⟨l, hk, hl, rfl, he, hd⟩
  rw [he]; clear he H'
  have hsz := zbay l
  match l, hk, hl, hd, hsz with
  | [], hk, hl, hd, hsz =>
    have hz : ¬ (((sv ([] : List (BitVec 8))).size : Int) > 0) := by rw [hsz]; simp
    (try simp (maxSteps := 1000000) (disch := first | omega | (simp only [Z3]; omega) | (simp; done) | assumption | decide | (refine not_not_intro ?_; assumption)) only [Z1, Z2, splice, zkd, zke])
    rw [← hd] at hQ
    exact hQ
  | c :: m, hk, hl, hd, hsz =>
    rw [List.length_cons] at hsz hk hl
    have ix := zw0 (s := sv (c :: m)) (k := .i64) (i := 0) (by omega) (by omega)
    rw [z1d, show (c :: m).getD (0 : Int).toNat 0 = c from rfl] at ix
    have hsub := zbrj (s := sv (c :: m)) (k := .i64) (a := 1) (by omega) (by omega)
    have hv : (sv (c :: m)).extract (1 : Int).toNat (sv (c :: m)).size = sv m := by
      apply zbby
      rw [zbbz, z1d, z1d, hsz]; simp
    rw [hv] at hsub
    have hdl : zte cs (c :: m) = if inS cs c then zte cs m else c :: m := by
      unfold zte; rw [List.dropWhile_cons]
    rw [hdl] at hd
    (try simp (maxSteps := 1000000) (disch := first | omega | (simp only [Z3]; omega) | (simp; done) | assumption | decide | (refine not_not_intro ?_; assumption)) only [Z1, Z2, splice, zkd, zo3, hsz, ix])
    refine zbpy hg c _ ?_
    cases hin : inS cs c with
    | true =>
      rw [hin, if_pos rfl] at hd
      (try simp (maxSteps := 1000000) (disch := first | omega | (simp only [Z3]; omega) | (simp; done) | assumption | decide | (refine not_not_intro ?_; assumption)) only [Z1, Z2, splice, zo2, hsub])
      exact ⟨m.length, by omega, m, rfl, by omega, rfl, hd⟩
    | false =>
      rw [hin, if_neg (by simp)] at hd
      have h01 : ((0 : Nat) = 1) = False := by simp
      (try simp (maxSteps := 1000000) (disch := first | omega | (simp only [Z3]; omega) | (simp; done) | assumption | decide | (refine not_not_intro ?_; assumption)) only [Z1, Z2, splice, h01, if_false, zke])
      rw [← hd] at hQ
      exact hQ
theorem zbnt (cs l : List (BitVec 8)) : (zrv cs l).length ≤ l.length := by
  unfold zrv
  rw [List.length_reverse]
  have := (List.dropWhile_sublist (inS cs) (l := l.reverse)).length_le
  rwa [List.length_reverse] at this
theorem zbgp {H : Heap} {G : List V → M V} (s cs : ByteArray) (hs : s.size ≤ 100000000) (ha : ∀ b ∈ bv cs, b.toNat < 128) (hc : 2 ≤ cs.size) (hc2 : cs.size ≤ 1000000) (Q : V → Heap → Prop) (hQ : ∀ H', Keeps [] H H' → Q (.string (sv (zte (bv cs) (zrv (bv cs) (bv s))))) H') : wp (zen G [.string s, .string cs]) Q H := by
  show wp (znb G (.string s) (.string cs)) Q H
  have hne : ¬ cs = ⟨#[]⟩ := fun q => by rw [q] at hc; revert hc; decide
  have hn1 : ¬ ((cs.size : Int) = 1) := by omega
  by_cases h0 : s = ⟨#[]⟩
  · subst h0
    (try simp (maxSteps := 1000000) (disch := first | omega | (simp only [Z3]; omega) | (simp; done) | assumption | decide | (refine not_not_intro ?_; assumption)) only [Z1, Z2, splice, znb])
    exact hQ H (Keeps.refl _ _)
  (try simp (maxSteps := 1000000) (disch := first | omega | (simp only [Z3]; omega) | (simp; done) | assumption | decide | (refine not_not_intro ?_; assumption)) only [Z1, zl, zf, zbx, zb8, eq_self, true_and, zby, zbt, zdz, zb0, zbc, Heap.get_push_eq, Heap.get_push_lt, Heap.get_set_eq, Heap.get_set_ne', Heap.next_push', Heap.next_set', Heap.set_push_lt, Heap.set_push_eq, Heap.set_set, zbj, zbk, zp, zbn, zbo, zi, zw, zbp, zbd, zu, zbe, zbf, zbg, zbh, List.set_cons_zero, List.set_cons_succ, List.length_cons, List.length_nil, List.drop_succ_cons, List.drop_zero, List.take_succ_cons, List.take_zero, List.nil_append, List.cons_append, splice, zq, zr, zh, ze, zd, zt, zbl, zv, zb2, zbu, zbm, zbs, zg, zm, zbb, Option.map_some, zbq, zbr, zk, zba, z7, zz, zj, zx, zy, znb, z0m, z0l])
  refine zbtw cs ha hc2 _ fun H1 k1 => ?_
  (try simp (maxSteps := 1000000) (disch := first | omega | (simp only [Z3]; omega) | (simp; done) | assumption | decide | (refine not_not_intro ?_; assumption)) only [Z1, zl, zf, zbx, zb8, eq_self, true_and, zby, zbt, zdz, zb0, zbc, Heap.get_push_eq, Heap.get_push_lt, Heap.get_set_eq, Heap.get_set_ne', Heap.next_push', Heap.next_set', Heap.set_push_lt, Heap.set_push_eq, Heap.set_set, zbj, zbk, zp, zbn, zbo, zi, zw, zbp, zbd, zu, zbe, zbf, zbg, zbh, List.set_cons_zero, List.set_cons_succ, List.length_cons, List.length_nil, List.drop_succ_cons, List.drop_zero, List.take_succ_cons, List.take_zero, List.nil_append, List.cons_append, splice, zq, zr, zh, ze, zd, zt, zbl, zv, zb2, zbu, zbm, zbs, zg, zm, zbb, Option.map_some, zbq, zbr, zk, zba, z7, zz, zj, zx, zy])
  refine (zbi (by kernel_rfl)).mpr ?_
  have k2 : Keeps [] H1 (H1.push (some (.cells true (List.replicate 256 (Value.bool false))))) := Keeps.push _ _ _
  have g2 : (H1.push (some (.cells true (List.replicate 256 (Value.bool false))))).get H1.next = some (.cells true (List.replicate 256 (Value.bool false))) := Heap.get_push_self _ _
  have n2 : (H1.push (some (.cells true (List.replicate 256 (Value.bool false))))).next = H1.next + 1 := Heap.next_push' ..
  generalize H1.push (some (.cells true (List.replicate 256 (Value.bool false)))) = H2 at *
  (try simp (maxSteps := 1000000) (disch := first | omega | (simp only [Z3]; omega) | (simp; done) | assumption | decide | (refine not_not_intro ?_; assumption)) only [Z1, zl, zf, zbx, zb8, eq_self, true_and, zbt, zdz, zb0, zbi, zbc, Heap.get_push_eq, Heap.get_push_lt, Heap.get_set_eq, Heap.get_set_ne', Heap.next_push', Heap.next_set', Heap.set_push_lt, Heap.set_push_eq, Heap.set_set, zbj, zbk, zp, zbn, zbo, zi, zw, zbp, zbd, zu, zbe, zbf, zbg, zbh, List.set_cons_zero, List.set_cons_succ, List.length_cons, List.length_nil, List.drop_succ_cons, List.drop_zero, List.take_succ_cons, List.take_zero, List.nil_append, List.cons_append, splice, zq, zr, zh, ze, zd, zt, zbl, zv, zb2, zbu, zbm, zbs, zg, zm, zbb, Option.map_some, zbq, zbr, zk, zba, z7, zz, zj, zx, zy, zfm g2 (List.length_replicate) (zno _) (zbi1 _)])
  have g3 := Heap.get_set_eq (x := some (.cells true (ztm (bv cs)))) (show H1.next < H2.next by omega)
  have k3 : Keeps [] H1 (H2.set H1.next (some (.cells true (ztm (bv cs))))) := zd7 k2 (.inr (Nat.le_refl _))
  generalize H2.set H1.next (some (.cells true (ztm (bv cs)))) = H3 at *
  refine zbpz g3 s hs _ ?_
  (try simp (maxSteps := 1000000) (disch := first | omega | (simp only [Z3]; omega) | (simp; done) | assumption | decide | (refine not_not_intro ?_; assumption)) only [Z1, Z2, splice])
  refine zbp0 g3 _ (by rw [zbay]; have := zbnt (bv cs) (bv s); rw [zet] at this; omega) _ ?_
  (try simp (maxSteps := 1000000) (disch := first | omega | (simp only [Z3]; omega) | (simp; done) | assumption | decide | (refine not_not_intro ?_; assumption)) only [Z1, Z2, splice])
  rw [z1d]
  exact hQ _ (k1.trans k3 (by simp))
theorem z9d {α : Type} (p : α → Bool) : ∀ l : List α, l.dropWhile p = [] ↔ ∀ b ∈ l, p b = true
  | [] => by simp
  | a :: l => by
    rw [List.dropWhile_cons]
    by_cases h : p a = true
    · rw [if_pos h, z9d p l]; simp [h]
    · rw [if_neg h]; simp [h]
theorem zbcy (cs l : List (BitVec 8)) : zte cs (zrv cs l) = [] ↔ ∀ b ∈ l, inS cs b = true := by
  unfold zte zrv
  rw [z9d]
  constructor
  · intro h
    by_cases hn : l.reverse.dropWhile (inS cs) = []
    · rw [z9d] at hn
      intro b hb
      exact hn b (by simpa using hb)
    · have h1 := List.head_dropWhile_not (inS cs) (l := l.reverse) hn
      have h2 := h ((l.reverse.dropWhile (inS cs)).head hn) (by simp)
      rw [h1] at h2
      exact absurd h2 (by simp)
  · intro h b hb
    rw [List.mem_reverse] at hb
    have := (List.dropWhile_sublist (inS cs) (l := l.reverse)).subset hb
    exact h b (by simpa using this)
end Go.AM.Cap
