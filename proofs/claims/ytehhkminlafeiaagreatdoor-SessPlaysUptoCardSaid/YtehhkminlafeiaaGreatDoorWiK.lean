import Derived.Test.YtehhkminlafeiaaGreatDoorWiJ
import Derived.Test.YtehhkminlafeiaaGreatDoorAmOpenF
set_option linter.all false
/- wire: the lists' book; works -/
set_option maxHeartbeats 16000000
namespace Go.AM.Cap
open Go.AM Go.Proofs
theorem zb14 (x y : It) : z82 [.b, .i, .s] (.agg (Flat.enc x).toArray) (.agg (Flat.enc y).toArray) = some (decide (x = y)) := by
  obtain ⟨t, n, s⟩ := x
  obtain ⟨t', n', s'⟩ := y
  show ztv [.b, .i, .s] [.bool t, i64 n, .string s] [.bool t', i64 n', .string s'] = _
  simp only [ztv, eqK, if_true]
  by_cases h1 : t = t'
  · subst h1
    by_cases h2 : n = n'
    · subst h2
      by_cases h3 : s = s'
      · subst h3; simp
      · simp [h3]
    · have e : (n == n') = false := by simpa using h2
      simp [e, h2]
  · have e : (t == t') = false := by simpa using h1
    simp [e, h1]
theorem zbok (a b c d : Int) : z82 [.i, .i] (.agg (#[i64 a, i64 b] : Array V)) (.agg (#[i64 c, i64 d] : Array V)) = some (decide (a = c ∧ b = d)) := by
  show ztv [.i, .i] [i64 a, i64 b] [i64 c, i64 d] = _
  simp only [ztv, eqK, if_true]
  by_cases h1 : a = c
  · subst h1
    by_cases h2 : b = d
    · subst h2; simp
    · have e : (b == d) = false := by simpa using h2
      simp [e, h2]
  · have e : (a == c) = false := by simpa using h1
    simp [e, h1]
theorem z8v (b : Bool) : zia true (some b) = some (.bool (!b)) := rfl
theorem zbum {H : Heap} {v w : V} {xs ys : List It} (hv : Sl H v xs) (hw : Sl H w ys) (hb : xs.length ≤ 1000000000) (Q : V → Heap → Prop) (hQ : Q (.bool (decide (xs = ys))) H) : wp (zfy [v, w]) Q H := by
  show wp (zlm v w) Q H
  have hl := hv.len
  have hl' := hw.len
  by_cases h0 : xs.length = ys.length
  case neg =>
    have : ¬ xs = ys := fun q => h0 (by rw [q])
    rw [decide_eq_false this] at hQ
    (try simp (maxSteps := 1000000) (disch := first | omega | (simp only [Z3]; omega) | (simp; done) | assumption | decide | (refine not_not_intro ?_; assumption)) only [Z1, Z2, splice, zlm, hl, hl'])
    exact hQ
  have hi0 : ((xs.length : Nat) : Int) = (ys.length : Int) := by omega
  (try simp (maxSteps := 1000000) (disch := first | omega | (simp only [Z3]; omega) | (simp; done) | assumption | decide | (refine not_not_intro ?_; assumption)) only [Z1, Z2, splice, zlm, hl, hl', z03])
  refine zbt (Inv := fun k vs H' => ∃ (j : Nat), k = xs.length - j ∧ j ≤ xs.length ∧ vs = [v, w, i64 j] ∧ H' = H ∧ (∀ i, i < j → xs.getD i default = ys.getD i default)) (n := xs.length) (by unfold zcc; omega)
    ⟨0, by omega, by omega, rfl, rfl, by omega⟩ ?_
  rintro k vs H' ⟨j, hk, hj, rfl, he, hsame⟩
  rw [he]; clear he H'
  by_cases hlt : j < xs.length
  case neg =>
    have : xs = ys := by
      apply List.ext_getElem h0
      intro i h1 h2
      have := hsame i (by omega)
      rwa [List.getD_eq_getElem?_getD, List.getElem?_eq_getElem h1, List.getD_eq_getElem?_getD, List.getElem?_eq_getElem h2] at this
    rw [decide_eq_true this] at hQ
    (try simp (maxSteps := 1000000) (disch := first | omega | (simp only [Z3]; omega) | (simp; done) | assumption | decide | (refine not_not_intro ?_; assumption)) only [Z1, Z2, splice, znj, hl, z02])
    exact hQ
  have a1 := hv.addr' (n := 3) rfl (k := .i64) (i := j) (by omega) (by omega)
  rw [Int.toNat_natCast] at a1
  have d1 := fun Q => hv.ldn' (Q := Q) (n := 3) rfl hlt default
  have a2 := hw.addr' (n := 3) rfl (k := .i64) (i := j) (by omega) (by omega)
  rw [Int.toNat_natCast] at a2
  have d2 := fun Q => hw.ldn' (Q := Q) (n := 3) rfl (show j < ys.length by omega) default
  by_cases he : xs.getD j default = ys.getD j default
  · (try simp (maxSteps := 1000000) (disch := first | omega | (simp only [Z3]; omega) | (simp; done) | assumption | decide | (refine not_not_intro ?_; assumption)) only [Z1, zl, zr, zcr, zeh, eq_self, true_and, zcu, zck, zc6, zby, zbu, Heap.get_push_eq, Heap.get_push_lt, Heap.get_set_eq, Heap.get_set_ne', Heap.next_push', Heap.next_set', Heap.set_push_lt, Heap.set_push_eq, Heap.set_set, zbz, zb0, zbf, zb3, zb4, z4, zbh, zb5, zbq, zbe, zbv, zbw, zbo, zbx, List.set_cons_zero, List.set_cons_succ, List.length_cons, List.length_nil, List.drop_succ_cons, List.drop_zero, List.take_succ_cons, List.take_zero, List.nil_append, List.cons_append, splice, zbb, zbc, z0, zq, zm, zbd, zb1, zbg, zc8, zcm, zb2, zb8, zx, zo, z9, Option.map_some, zb6, zbn, z6, zbi, zbj, zbk, z5, zbl, zbm, znj, hl, ztf, a1, a2, d1, d2, zb14, z8v, he, decide_true, Bool.not_true, z01])
    refine ⟨xs.length - (j + 1), by omega, j + 1, rfl, by omega, by push_cast; rfl, fun i hi => ?_⟩
    rcases Nat.lt_or_eq_of_le (Nat.lt_succ_iff.1 hi) with q | rfl
    · exact hsame i q
    · exact he
  · have : ¬ xs = ys := fun q => he (by rw [q])
    rw [decide_eq_false this] at hQ
    (try simp (maxSteps := 1000000) (disch := first | omega | (simp only [Z3]; omega) | (simp; done) | assumption | decide | (refine not_not_intro ?_; assumption)) only [Z1, zl, zr, zcr, zeh, eq_self, true_and, zcu, zck, zc6, zby, zbu, Heap.get_push_eq, Heap.get_push_lt, Heap.get_set_eq, Heap.get_set_ne', Heap.next_push', Heap.next_set', Heap.set_push_lt, Heap.set_push_eq, Heap.set_set, zbz, zb0, zbf, zb3, zb4, z4, zbh, zb5, zbq, zbe, zbv, zbw, zbo, zbx, List.set_cons_zero, List.set_cons_succ, List.length_cons, List.length_nil, List.drop_succ_cons, List.drop_zero, List.take_succ_cons, List.take_zero, List.nil_append, List.cons_append, splice, zbb, zbc, z0, zq, zm, zbd, zb1, zbg, zc8, zcm, zb2, zb8, zx, zo, z9, Option.map_some, zb6, zbn, z6, zbi, zbj, zbk, z5, zbl, zbm, znj, hl, ztf, a1, a2, d1, d2, zb14, z8v, decide_eq_false he, Bool.not_false])
    exact hQ
def z3i : It := ⟨false, -77, ⟨#[]⟩⟩
theorem zbtd {b s n c h : Nat} {k : IntKind} (hs : s ≠ 0) (hc : h ≤ c) (h0 : 0 < c) : zh7 s (slc b 0 s n c) none (some (.int k (h : Int))) = some (slc b 0 s h c) := by
  have e1 : zd5 n c (some (.int k (h : Int))) = some h := by simp [zd5, hc]
  simp only [zh7, e1]
  simp [zd5, zp1, show c ≠ 0 by omega]
theorem zb07 {H : Heap} {v : V} {l : List It} (h : Sl H v l) (hl : l.length ≤ 1048576) (Q : V → Heap → Prop) (hQ : ∀ b H', Keeps [] H H' → H.next ≤ b → H'.get b = some (.cells true (zba (l ++ [z3i]))) → Q (slc b 0 3 l.length (l.length + 1)) H') : wp (ziy [v]) Q H := by
  show wp (zpc v) Q H
  have hlen := h.len
  unfold zpc
  rw [zk, zk]
  refine (zgv (cs := zba ([] : List It)) (by rfl) (by rfl)).mpr ?_
  have k1 : Keeps [] H (H.push (some (.cells true (zba ([] : List It))))) := Keeps.push _ _ _
  have o1 := zd1 (H := H) (xs := ([] : List It)) (n := 3) (m := 0) rfl rfl
  have n1 : (H.push (some (.cells true (zba ([] : List It))))).next = H.next + 1 := by simp
  generalize H.push (some (.cells true (zba ([] : List It)))) = H1 at *
  rw [zk]
  refine zfk (α := It) rfl o1 (h.keep0 k1) (by simp; omega) (by simp; omega) fun w2 H2 o2 k2 v2 => ?_
  rw [List.nil_append] at o2
  have k02 : Keeps [] H H2 := k1.trans k2 fun b hb hm => by
    simp at hm; omega
  have hb2 : ∀ c ∈ vb w2, H.next ≤ c := fun c hc => by
    rcases v2 c hc with q | q
    · simp at q; omega
    · omega
  have hbld : build [Value.bool false, Value.int .i64 0, (Value.string ⟨#[]⟩ : V)] [(1, 1, (Value.int .i64 (-77)))] = some (.agg (Flat.enc z3i).toArray) := by rfl
  (try simp (maxSteps := 1000000) (disch := first | omega | (simp only [Z3]; omega) | (simp; done) | assumption | decide | (refine not_not_intro ?_; assumption)) only [Z1, Z2, splice, hbld])
  refine zbtc o2 (by omega) z3i _ fun w3 H3 o3 k3 v3 => ?_
  rcases o3 with ⟨_, q⟩ | ⟨b3, rfl, g3⟩
  · simp at q
  have hsub := zbtd (b := b3) (s := 3) (n := (l ++ [z3i]).length) (c := (l ++ [z3i]).length) (h := l.length) (k := .i64) (by omega) (by simp) (by simp)
  have h3 : Flat.size It = 3 := rfl
  rw [h3]
  (try simp (maxSteps := 1000000) (disch := first | omega | (simp only [Z3]; omega) | (simp; done) | assumption | decide | (refine not_not_intro ?_; assumption)) only [Z1, Z2, splice, hlen, hsub])
  rw [show (l ++ [z3i]).length = l.length + 1 from by simp]
  refine hQ b3 H3 (k02.trans k3 fun b hb hm => by have := hb2 b hm; omega) ?_ g3
  rcases v3 b3 (by simp) with q | q
  · exact hb2 _ q
  · have := k02.next; omega
theorem zb08 {H : Heap} {b : Nat} {v : V} {l : List It} (hg : H.get b = some (.cells true (zba (l ++ [z3i])))) (h : Sl H v l) (hl : l.length ≤ 1048576) (Q : V → Heap → Prop) (hQ : Q (.bool true) H) : wp (ziz [slc b 0 3 l.length (l.length + 1), v]) Q H := by
  show wp (zpd (slc b 0 3 l.length (l.length + 1)) v) Q H
  have hlen := h.len
  have hel : (zba (l ++ [z3i])).length = (l.length + 1) * 3 := by rw [zd0]; simp; rfl
  have hs : Sl H (slc b 0 3 l.length (l.length + 1)) l := by
    refine .inr ⟨b, 0, 3, l.length + 1, rfl, by omega, Heap.get_lt hg, .inr ⟨true, _, hg, ?_, ?_⟩, .inr rfl⟩
    · rw [hel]; show 0 + l.length * 3 ≤ _; omega
    · rw [List.drop_zero, zz7, List.take_append_of_le_length (by rw [zd0]; exact Nat.le_refl _), List.take_of_length_le (by rw [zd0]; exact Nat.le_refl _)]
  have hsub := zbtd (b := b) (s := 3) (n := l.length) (c := l.length + 1) (h := l.length + 1) (k := .i64) (by omega) (by omega) (by omega)
  have hcell : (zba (l ++ [z3i]))[l.length * 3 + 1]? = some (i64 (-77)) := by
    have := zbyb (l ++ [z3i]) l.length 1 default (by simp) (by decide)
    rw [show Flat.size It = 3 from rfl] at this
    rw [this, List.getD_eq_getElem?_getD, List.getElem?_append_right (Nat.le_refl _)]
    simp [z3i, zzs]
  unfold zpd
  rw [zk, zk]
  refine zbum hs h (by omega) _ ?_
  rw [decide_eq_true (rfl : l = l)]
  rw [show ((l.length + 1 : Nat) : Int) = (l.length : Int) + 1 from rfl] at hsub
  have hia : zv 3 (slc b 0 3 (l.length + 1) (l.length + 1)) (i64 (l.length : Int)) = some (ptr b (0 + l.length * 3)) := by
    rw [zq0 (by omega) (by omega), Int.toNat_natCast]
  (try simp (maxSteps := 1000000) (disch := first | omega | (simp only [Z3]; omega) | (simp; done) | assumption | decide | (refine not_not_intro ?_; assumption)) only [Z1, Z2, splice, hlen, hsub, hia, hg, hcell])
  exact hQ
end Go.AM.Cap
