import Derived.Test.YtjchglndancedaaGreatDoorCfY
import Derived.Test.YtjchglndancedaaGreatDoorAmOpenF
set_option linter.all false
/- conf: ConfNotes, the walk -/
set_option maxHeartbeats 16000000
namespace Go.AM.Cap
open Go.AM Go.Proofs
variable {H0 H : Heap}
theorem zbsf (l : List ByteArray) (j : Nat) (h : j < l.length) : l.drop j = wAt l j :: l.drop (j + 1) := by
  rw [List.drop_eq_getElem_cons h, wAt, List.getD_eq_getElem?_getD, List.getElem?_eq_getElem h]; rfl
theorem zbjp : ∀ {l : List ByteArray} {st st' : RSt} {i n : Nat}, Sm st n → zhr st i l = .ok st' → Sm st' (n + l.length)
  | [], st, st', i, n, h, hr => by cases hr; exact h
  | s :: l, st, st', i, n, h, hr => by
    rw [zhr] at hr
    cases hl : zrz st s with
    | error e => rw [hl] at hr; cases hr
    | ok st2 =>
      rw [hl] at hr
      have := zbjp (zbjj h hl) hr
      rw [List.length_cons, show n + (l.length + 1) = n + 1 + l.length by omega]
      exact this
theorem zbha {t : ByteArray} : (∀ u ∈ (zhm t).1.sy.uns, u.ins.length ≤ 1000000000 ∧ u.outs.length ≤ 1000000000) ∧ (zhm t).1.us.length ≤ 1000000000 ∧ 0 ≤ (zhm t).2.1 ∧ (zhm t).2.1 ≤ 100000 := by
  have h0 : (∀ u ∈ se0.sy.uns, u.ins.length ≤ 1000000000 ∧ u.outs.length ≤ 1000000000) ∧ se0.us.length ≤ 1000000000 := ⟨fun u hu => absurd hu (List.not_mem_nil (a := u)), by decide⟩
  have hwl := z50 10 t
  have hd : (zdx 10 t).dropLast.length ≤ (zdx 10 t).length := by rw [List.length_dropLast]; omega
  by_cases c1 : t.size > 65536
  · rw [zhm, if_pos c1]; exact ⟨h0.1, h0.2, by decide, by decide⟩
  rw [zhm, if_neg c1]
  simp only
  cases hr : zhr zsh 0 (zdx 10 t).dropLast with
  | error ne =>
    obtain ⟨n, e⟩ := ne
    have := zxi hr
    refine ⟨h0.1, h0.2, ?_, ?_⟩ <;> simp only <;> omega
  | ok st =>
    simp only
    by_cases c2 : (zdx 10 t).getLastD zhl ≠ zhl
    · rw [if_pos c2]; refine ⟨h0.1, h0.2, ?_, ?_⟩ <;> simp only <;> omega
    rw [if_neg c2]
    by_cases c3 : z9g st.sy st.us st.idle ≠ 0
    · rw [if_pos c3]; refine ⟨h0.1, h0.2, ?_, ?_⟩ <;> simp only <;> omega
    rw [if_neg c3]
    have hs := zbjp sm0 hr
    refine ⟨fun u hu => ?_, ?_, ?_, ?_⟩
    · have := hs.inn u hu; omega
    · have := hs.us
      show st.us.length ≤ _
      omega
    · simp only; omega
    · simp only; omega
theorem zux.nine {cs : List V} {s : Se3} (h : zux H cs s) : cs.length = 9 ∧ cs.all Value.isOne = true := by
  obtain ⟨x, v, ul, rfl, sx, ux, eu⟩ := h
  exact ⟨rfl, by rw [List.all_append, sx.one]; simp [ux.out.isOne]⟩
theorem zbt8 (a : Int) (n : Nat) (hn : 0 < n) (hn2 : n ≤ 100000000) : ∃ (k : Nat) (m : Int), k < n ∧ cvi .u64 (i64 a) = some (.int .u64 m) ∧ cvi .u64 (i64 n) = some (.int .u64 n) ∧ bin .rem (.int .u64 m) (.int .u64 n) = some (.int .u64 k) ∧ cvi .i64 (.int .u64 (k : Int)) = some (i64 k) := by
  have hu : IntKind.u64.wrap (n : Int) = n := by
    simp [IntKind.wrap, IntKind.signed, IntKind.bits]; omega
  have h0 : 0 ≤ IntKind.u64.wrap a := by simp [IntKind.wrap, IntKind.signed, IntKind.bits]; omega
  have hm0 : 0 ≤ IntKind.u64.wrap a % (n : Int) := Int.emod_nonneg _ (by omega)
  have hm1 : IntKind.u64.wrap a % (n : Int) < n := Int.emod_lt_of_pos _ (by omega)
  have ek : (((IntKind.u64.wrap a % (n : Int)).toNat : Nat) : Int) = IntKind.u64.wrap a % (n : Int) := Int.toNat_of_nonneg hm0
  refine ⟨(IntKind.u64.wrap a % (n : Int)).toNat, IntKind.u64.wrap a, by omega, rfl, by rw [zbl9, hu], by rw [ek]; exact zbpm h0 (by omega), by rw [ek, zbl9, i64_in (by omega) (by omega)]⟩
theorem zbsg {G : List V → M V} {a0 a1 a2 a3 a4 a6 a7 a8 : V} (s : ByteArray) (hs : s.size ≤ 200) (Q : Out → Heap → Prop) (hyes : noNl s → Q (.brk 2 [a0, a1, a2, a3, a4, .string s, a6, a7, a8]) H) (hno : Q (.ret [.bool true]) H) :
    wp (zc7 zem (zjm zow G zej zwn) [a0, a1, a2, a3, a4, .string s, a6, a7, a8, i64 s.size, i64 0]) Q H := by
  refine ze6 s.size (by omega) (fun j vs H' => vs = [a0, a1, a2, a3, a4, .string s, a6, a7, a8, i64 s.size, i64 j] ∧ H' = H ∧ ∀ i, i < j → (bv s).getD i 0 ≠ 10#8) ⟨rfl, rfl, by omega⟩ ?_
  rintro j vs H1 hj ⟨rfl, rfl, hno'⟩
  by_cases hlt : j < s.size
  case neg =>
    have : j = s.size := by omega
    subst this
    (try simp (maxSteps := 1000000) (disch := first | omega | (simp only [Z3]; omega) | (simp; done) | assumption | decide | (refine not_not_intro ?_; assumption)) only [Z1, Z2, splice, zjm])
    refine hyes fun b hb => ?_
    obtain ⟨i, hi, he⟩ := List.mem_iff_getElem.1 hb
    rw [zet] at hi
    have := hno' i hi
    rw [List.getD_eq_getElem?_getD, List.getElem?_eq_getElem (by rw [zet]; exact hi)] at this
    rw [← he]; exact this
  have ix := zw0 (s := s) (k := .i64) (i := j) (by omega) (by omega)
  rw [Int.toNat_natCast] at ix
  have e10 : (Value.int .u8 10 : V) = B 10#8 := rfl
  by_cases c : (bv s).getD j 0 = 10#8
  · have e2 : decide ((((bv s).getD j 0).toNat : Int) = ((10#8).toNat : Int)) = true := decide_eq_true (by rw [c])
    (try simp (maxSteps := 1000000) (disch := first | omega | (simp only [Z3]; omega) | (simp; done) | assumption | decide | (refine not_not_intro ?_; assumption)) only [Z1, Z2, splice, zjm, zp1, ix, e10, e2])
    exact hno
  have e2 : decide ((((bv s).getD j 0).toNat : Int) = ((10#8).toNat : Int)) = false := decide_eq_false fun q => c (BitVec.eq_of_toNat_eq (by omega))
  (try simp (maxSteps := 1000000) (disch := first | omega | (simp only [Z3]; omega) | (simp; done) | assumption | decide | (refine not_not_intro ?_; assumption)) only [Z1, Z2, splice, zjm, zp1, zwi, ix, e10, e2])
  refine ⟨hlt, rfl, fun i hi => ?_⟩
  by_cases hij : i < j
  · exact hno' i hij
  · have : i = j := by omega
    subst this; exact c
theorem notes_ok {G : List V → M V} {lv : V} {ls : List ByteArray} (hT : Tabs H) (hl : Sl H lv ls) (zc : Int) (Q : V → Heap → Prop) (hQ : ∀ H', Q (.bool true) H') : wp (zru zow G zej zwn [lv, i64 zc]) Q H := by
  show wp (zmh zow G zej zwn lv (i64 zc)) Q H
  unfold zmh
  simp only [zcc]
  refine zbq0 hT _ fun H1 k1 => ?_
  have hl1 := hl.keep0 k1
  have hT1 := hT.keep0 k1
  have hlen := hl1.len
  by_cases c1 : ls.length > 100
  · have e1 : decide ((ls.length : Int) > 100) = true := decide_eq_true (by omega)
    (try simp (maxSteps := 1000000) (disch := first | omega | (simp only [Z3]; omega) | (simp; done) | assumption | decide | (refine not_not_intro ?_; assumption)) only [Z1, Z2, splice, zou, hlen, e1])
    exact hQ _
  have e1 : decide ((ls.length : Int) > 100) = false := decide_eq_false (by omega)
  obtain ⟨put, m, hput, u1, u2, u3, u4⟩ := zbt8 zc (ls.length + 1) (by omega) (by omega)
  have ea : bin .add (i64 (ls.length : Int)) (i64 1) = some (i64 ((ls.length + 1 : Nat) : Int)) := by
    show some (Value.int .i64 (IntKind.wrap .i64 ((ls.length : Int) + 1))) = _
    rw [i64_in (by omega) (by omega)]; rfl
  have u2' : cvi .u64 (i64 ((ls.length : Int) + 1)) = some (.int .u64 (((ls.length + 1 : Nat) : Int))) := u2
  have u3' : bin .rem (.int .u64 m) (.int .u64 ((ls.length : Int) + 1)) = some (.int .u64 (put : Int)) := u3
  (try simp (maxSteps := 1000000) (disch := first | omega | (simp only [Z3]; omega) | (simp; done) | assumption | decide | (refine not_not_intro ?_; assumption)) only [Z1, Z2, splice, zou, zt8, hlen, e1, u1, u2', u3, u3', u4])
  refine ze6 ls.length (by omega) (fun j vs H' => ∃ t mo : ByteArray, vs = [lv, .string t, .string mo, i64 put, lv, i64 ls.length, i64 j] ∧ H' = H1 ∧ zxh t (ls.drop j) = zxh zhl ls ∧ z0w put j mo (ls.drop j) = z0w put 0 zhl ls ∧ t.size ≤ 300 * j ∧ mo.size ≤ 300 * j ∧ ∀ i, i < j → (wAt ls i).size ≤ 200 ∧ noNl (wAt ls i)) ⟨zhl, zhl, rfl, rfl, rfl, rfl, by decide, by decide, by omega⟩ ?_
  rintro j vs H2 hj ⟨t, mo, rfl, rfl, ht, hmo, st, sm, hall⟩
  by_cases hlt : j < ls.length
  case neg =>
    have : j = ls.length := by omega
    subst this
    rw [List.drop_length] at ht hmo
    simp only [zxh, z0w] at ht hmo
    have law := zbod (ls := ls) (put := put) (by omega) (fun l hm => by
      obtain ⟨i, hi, he⟩ := List.mem_iff_getElem.1 hm
      have := hall i hi
      rw [wAt, List.getD_eq_getElem?_getD, List.getElem?_eq_getElem hi] at this
      rw [← he]; exact this) (by omega)
    rw [← ht, ← hmo] at law
    clear ht hmo hall
    (try simp (maxSteps := 1000000) (disch := first | omega | (simp only [Z3]; omega) | (simp; done) | assumption | decide | (refine not_not_intro ?_; assumption)) only [Z1, Z2, splice, zlo])
    unfold zt7
    simp only [zcc, zbf2, zbf3]
    refine z79 hT1 t _ fun cs H3 h3 k3 => ?_
    have p1 := zbha (t := t)
    generalize zhm t = P1 at *
    obtain ⟨h9, o9⟩ := h3.nine
    have g3 : (H3.push (some (.cells true z9))).get H3.next = some (.cells true z9) := Heap.get_push_self _ _
    have w3 := fun Q => zfm (n := 9) (Q := Q) g3 rfl h9 o9
    have e3 : ∀ Q, wp (newc [Value.slice none 0 0, Value.slice none 0 0, Value.slice none 0 0, Value.int .i64 0, Value.slice none 0 0, Value.slice none 0 0, Value.int .i64 0, Value.slice none 0 0, Value.int .i64 0]) Q H3 ↔ Q (ptr H3.next 0) (H3.push (some (.cells true z9))) := fun Q => zzq (by decide)
    simp only [zcc, zzp, zp, List.getElem?_cons_zero, List.getElem?_cons_succ, zvd, e3, w3]
    have k4 : Keeps [] H3 ((H3.push (some (.cells true z9))).set H3.next (some (.cells true cs))) := zd7 (Keeps.push _ _ _) (.inr (Nat.le_refl _))
    have g4 : ((H3.push (some (.cells true z9))).set H3.next (some (.cells true cs))).get H3.next = some (.cells true cs) := Heap.get_set_self (by simp)
    generalize H3.next = p at *
    generalize (H3.push (some (.cells true z9))).set p (some (.cells true cs)) = H4 at *
    have k14 := k3.trans k4 (fun _ _ h => h)
    have h4 := h3.keep0 k4
    refine z79 (hT1.keep0 k14) mo _ fun ds H5 h5 k5 => ?_
    have g5 := k5.get g4 (by simp)
    have h45 := h4.keep0 k5
    obtain ⟨law1, law2, law3⟩ := law
    generalize zhm mo = P2 at *
    obtain ⟨h9', o9'⟩ := h5.nine
    have g6 : (H5.push (some (.cells true z9))).get H5.next = some (.cells true z9) := Heap.get_push_self _ _
    have w6 := fun Q => zfm (n := 9) (Q := Q) g6 rfl h9' o9'
    have e6 : ∀ Q, wp (newc [Value.slice none 0 0, Value.slice none 0 0, Value.slice none 0 0, Value.int .i64 0, Value.slice none 0 0, Value.slice none 0 0, Value.int .i64 0, Value.slice none 0 0, Value.int .i64 0]) Q H5 ↔ Q (ptr H5.next 0) (H5.push (some (.cells true z9))) := fun Q => zzq (by decide)
    simp only [zcc, zzp, zp, List.getElem?_cons_zero, List.getElem?_cons_succ, zvd, e6, w6]
    have k6 : Keeps [] H5 ((H5.push (some (.cells true z9))).set H5.next (some (.cells true ds))) := zd7 (Keeps.push _ _ _) (.inr (Nat.le_refl _))
    have g7 : ((H5.push (some (.cells true z9))).set H5.next (some (.cells true ds))).get H5.next = some (.cells true ds) := Heap.get_set_self (by simp)
    generalize H5.next = q at *
    generalize (H5.push (some (.cells true z9))).set q (some (.cells true ds)) = H6 at *
    have g8 := k6.get g5 (by simp)
    have h46 := h45.keep0 k6
    have h56 := h5.keep0 k6
    rw [law1] at h56
    have d1 := fun Q => zcg (n := 9) (Q := Q) g8 h9
    have d2 := fun Q => zcg (n := 9) (Q := Q) g7 h9'
    have fin := zbsd h46 h56 p1.1 p1.2.1
    rw [law2, law3]
    have t2 : decide (P1.2.2 = P1.2.2) = true := decide_eq_true rfl
    by_cases c2 : P1.2.1 > (put : Int)
    · have c2' : decide (P1.2.1 > (put : Int)) = true := decide_eq_true c2
      by_cases c3 : (put : Int) < ls.length
      · have c3' : decide ((put : Int) < (ls.length : Int)) = true := decide_eq_true c3
        have t1 : decide (P1.2.1 + 2 = P1.2.1 + 2) = true := decide_eq_true rfl
        rw [if_pos ⟨c2, by omega⟩]
        (try simp (maxSteps := 1000000) (disch := first | omega | (simp only [Z3]; omega) | (simp; done) | assumption | decide | (refine not_not_intro ?_; assumption)) only [Z1, zl, zf, zbx, zb8, eq_self, true_and, zby, zbt, zb0, zbi, zbc, Heap.get_push_eq, Heap.get_push_lt, Heap.get_set_eq, Heap.get_set_ne', Heap.next_push', Heap.next_set', Heap.set_push_lt, Heap.set_push_eq, Heap.set_set, zbj, zbk, zp, zbn, zbo, zi, zw, zbp, zbd, zu, zbe, zbf, zbg, zbh, List.set_cons_zero, List.set_cons_succ, List.length_cons, List.length_nil, List.drop_succ_cons, List.drop_zero, List.take_succ_cons, List.take_zero, List.nil_append, List.cons_append, splice, zq, zr, zh, ze, zd, zt, zbl, zv, zb2, zbu, zbm, zbs, zg, zm, zbb, Option.map_some, zbq, zbr, zk, zba, z7, zz, zj, zx, zy, hlen, c2', c3', t1, t2, zlp, d1, d2])
        exact fin _ fun H7 k7 => by
          (try simp (maxSteps := 1000000) (disch := first | omega | (simp only [Z3]; omega) | (simp; done) | assumption | decide | (refine not_not_intro ?_; assumption)) only [Z1, Z2, splice])
          exact hQ _
      · have c3' : decide ((put : Int) < (ls.length : Int)) = false := decide_eq_false c3
        have t1 : decide (P1.2.1 = P1.2.1) = true := decide_eq_true rfl
        rw [if_neg (fun q => c3 (by omega))]
        (try simp (maxSteps := 1000000) (disch := first | omega | (simp only [Z3]; omega) | (simp; done) | assumption | decide | (refine not_not_intro ?_; assumption)) only [Z1, zl, zf, zbx, zb8, eq_self, true_and, zby, zbt, zb0, zbi, zbc, Heap.get_push_eq, Heap.get_push_lt, Heap.get_set_eq, Heap.get_set_ne', Heap.next_push', Heap.next_set', Heap.set_push_lt, Heap.set_push_eq, Heap.set_set, zbj, zbk, zp, zbn, zbo, zi, zw, zbp, zbd, zu, zbe, zbf, zbg, zbh, List.set_cons_zero, List.set_cons_succ, List.length_cons, List.length_nil, List.drop_succ_cons, List.drop_zero, List.take_succ_cons, List.take_zero, List.nil_append, List.cons_append, splice, zq, zr, zh, ze, zd, zt, zbl, zv, zb2, zbu, zbm, zbs, zg, zm, zbb, Option.map_some, zbq, zbr, zk, zba, z7, zz, zj, zx, zy, hlen, c2', c3', t1, t2, zlp, d1, d2])
        exact fin _ fun H7 k7 => by
          (try simp (maxSteps := 1000000) (disch := first | omega | (simp only [Z3]; omega) | (simp; done) | assumption | decide | (refine not_not_intro ?_; assumption)) only [Z1, Z2, splice])
          exact hQ _
    · have c2' : decide (P1.2.1 > (put : Int)) = false := decide_eq_false c2
      have t1 : decide (P1.2.1 = P1.2.1) = true := decide_eq_true rfl
      rw [if_neg (fun q => c2 q.1)]
      (try simp (maxSteps := 1000000) (disch := first | omega | (simp only [Z3]; omega) | (simp; done) | assumption | decide | (refine not_not_intro ?_; assumption)) only [Z1, zl, zf, zbx, zb8, eq_self, true_and, zby, zbt, zb0, zbi, zbc, Heap.get_push_eq, Heap.get_push_lt, Heap.get_set_eq, Heap.get_set_ne', Heap.next_push', Heap.next_set', Heap.set_push_lt, Heap.set_push_eq, Heap.set_set, zbj, zbk, zp, zbn, zbo, zi, zw, zbp, zbd, zu, zbe, zbf, zbg, zbh, List.set_cons_zero, List.set_cons_succ, List.length_cons, List.length_nil, List.drop_succ_cons, List.drop_zero, List.take_succ_cons, List.take_zero, List.nil_append, List.cons_append, splice, zq, zr, zh, ze, zd, zt, zbl, zv, zb2, zbu, zbm, zbs, zg, zm, zbb, Option.map_some, zbq, zbr, zk, zba, z7, zz, zj, zx, zy, c2', t1, t2, zlp, d1, d2])
      exact fin _ fun H7 k7 => by
        (try simp (maxSteps := 1000000) (disch := first | omega | (simp only [Z3]; omega) | (simp; done) | assumption | decide | (refine not_not_intro ?_; assumption)) only [Z1, Z2, splice])
        exact hQ _
  have hw := z0e hl1 hlt
  rw [zbsf ls j hlt] at ht hmo
  simp only [zxh, z0w] at ht hmo
  generalize hl' : wAt ls j = l at *
  obtain ⟨a1, b1⟩ := hw
  by_cases c2 : l.size > 200
  · have e2 : decide ((l.size : Int) > 200) = true := decide_eq_true (by omega)
    (try simp (maxSteps := 1000000) (disch := first | omega | (simp only [Z3]; omega) | (simp; done) | assumption | decide | (refine not_not_intro ?_; assumption)) only [Z1, Z2, splice, zlo, zp5, a1, b1, e2])
    exact hQ _
  have e2 : decide ((l.size : Int) > 200) = false := decide_eq_false (by omega)
  (try simp (maxSteps := 1000000) (disch := first | omega | (simp only [Z3]; omega) | (simp; done) | assumption | decide | (refine not_not_intro ?_; assumption)) only [Z1, Z2, splice, zlo, zp5, zwj, a1, b1, e2])
  refine zbsg l (by omega) _ (fun hno => ?_) ?_
  case refine_2 =>
    (try simp (maxSteps := 1000000) (disch := first | omega | (simp only [Z3]; omega) | (simp; done) | assumption | decide | (refine not_not_intro ?_; assumption)) only [Z1, Z2, splice])
    exact hQ _
  have z1 : (l ++ (⟨#[10]⟩ : ByteArray)).size = l.size + 1 := by rw [ByteArray.size_append]; rfl
  have a2 := z6s (x := l) (y := ⟨#[10]⟩) (by rw [← ByteArray.size_append, z1]; omega)
  have a3 := z6s (x := t) (y := l ++ (⟨#[10]⟩ : ByteArray)) (by rw [z1]; omega)
  have z3 : (t ++ (l ++ (⟨#[10]⟩ : ByteArray))).size = t.size + (l.size + 1) := by rw [ByteArray.size_append, z1]
  have hall' : ∀ i, i < j + 1 → (wAt ls i).size ≤ 200 ∧ noNl (wAt ls i) := fun i hi => by
    by_cases hij : i < j
    · exact hall i hij
    · have : i = j := by omega
      subst this
      rw [hl']; exact ⟨by omega, hno⟩
  by_cases c3 : j = put
  · have e3 : decide ((j : Int) = (put : Int)) = true := decide_eq_true (by omega)
    rw [if_pos c3] at hmo
    have a4 := z6s (x := mo) (y := z8b) (by have : z8b.size = 24 := rfl; omega)
    have z4 : (mo ++ z8b).size = mo.size + 24 := by rw [ByteArray.size_append]; rfl
    have a5 := z6s (x := mo ++ z8b) (y := l ++ (⟨#[10]⟩ : ByteArray)) (by rw [z1, z4]; omega)
    have z5 : ((mo ++ z8b) ++ (l ++ (⟨#[10]⟩ : ByteArray))).size = mo.size + 24 + (l.size + 1) := by rw [ByteArray.size_append, z1, z4]
    unfold z8b at a4 a5
    (try simp (maxSteps := 1000000) (disch := first | omega | (simp only [Z3]; omega) | (simp; done) | assumption | decide | (refine not_not_intro ?_; assumption)) only [Z1, Z2, splice, zp3, zp2, zp4, e3, a2, a3, a4, a5])
    exact ⟨hlt, _, _, rfl, ht, hmo, by rw [z3]; omega, by rw [show (⟨#[10, 35, 32, 97, 32, 110, 111, 116, 101, 32, 32, 111, 102, 32, 97, 110, 121, 32, 119, 111, 114, 100, 115, 10]⟩ : ByteArray) = z8b from rfl, z5]; omega, hall'⟩
  · have e3 : decide ((j : Int) = (put : Int)) = false := decide_eq_false (by omega)
    rw [if_neg c3] at hmo
    have a5 := z6s (x := mo) (y := l ++ (⟨#[10]⟩ : ByteArray)) (by rw [z1]; omega)
    have z5 : (mo ++ (l ++ (⟨#[10]⟩ : ByteArray))).size = mo.size + (l.size + 1) := by rw [ByteArray.size_append, z1]
    (try simp (maxSteps := 1000000) (disch := first | omega | (simp only [Z3]; omega) | (simp; done) | assumption | decide | (refine not_not_intro ?_; assumption)) only [Z1, Z2, splice, zp3, zp2, zp4, e3, a2, a3, a5])
    exact ⟨hlt, _, _, rfl, ht, hmo, by rw [z3]; omega, by rw [z5]; omega, hall'⟩
end Go.AM.Cap
