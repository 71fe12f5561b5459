import Derived.Test.YtcmimkacafphkaaGreatDoorCoT
import Derived.Test.YtcmimkacafphkaaGreatDoorWiE
import Derived.Test.YtcmimkacafphkaaGreatDoorAmOpenF
set_option linter.all false
/- code: the bytes of instructions -/
set_option maxHeartbeats 8000000
namespace Go.AM.Cap
open Go.AM Go.Proofs
def b8 (n : Int) : BitVec 8 := BitVec.ofInt 8 n
theorem zbtk (n : Int) : cvi .u8 (i64 n) = some (B (b8 n)) := by
  rw [zyk, IntKind.wrap_u8]
  show _ = some (Value.int .u8 ((BitVec.ofInt 8 n).toNat : Int))
  rw [BitVec.toNat_ofInt]
  congr 2
  omega
theorem zbyw (n : Int) : zj .shr (i64 n) (.int .u64 8) = some (i64 (n / 256)) := by
  show some (Value.int .i64 (Int.fdiv n (2 ^ (min (Int.toNat 8) 64)))) = _
  rw [show ((2 : Int) ^ (min (Int.toNat 8) 64)) = 256 from rfl, Int.fdiv_eq_ediv_of_nonneg _ (by omega)]
theorem zbyx (n : Int) (j : Nat) (hj : j ≤ 5) : zj .shr (i64 n) (i64 (40 - 8 * (j : Int))) = some (i64 (n / 2 ^ (40 - 8 * j))) := by
  have e : (40 - 8 * (j : Int)).toNat = 40 - 8 * j := by omega
  have h : zj .shr (i64 n) (i64 (40 - 8 * (j : Int))) = if 40 - 8 * (j : Int) < 0 then none else some (Value.int .i64 (Int.fdiv n (2 ^ (min (40 - 8 * (j : Int)).toNat 64)))) := by
    rcases (show j = 0 ∨ j = 1 ∨ j = 2 ∨ j = 3 ∨ j = 4 ∨ j = 5 by omega) with rfl | rfl | rfl | rfl | rfl | rfl <;> rfl
  rw [h, if_neg (by omega), e, Nat.min_eq_left (by omega), Int.fdiv_eq_ediv_of_nonneg _ (Int.le_of_lt (Int.pow_pos (by omega)))]
def nB (n : Int) (j : Nat) : List (BitVec 8) := (List.range j).map fun i => b8 (n / 2 ^ (40 - 8 * i))
theorem zbvg (n : Int) (j : Nat) : nB n (j + 1) = nB n j ++ [b8 (n / 2 ^ (40 - 8 * j))] := by
  unfold nB
  rw [List.range_succ, List.map_append]
  rfl
theorem zbgt (n : Int) (j : Nat) : (nB n j).length = j := by simp [nB]
def insB (i : Ins) : List (BitVec 8) := [b8 i.op, b8 (i.a / 256), b8 i.a, b8 (i.b / 256), b8 i.b] ++ nB i.n 6
theorem zban (i : Ins) : (insB i).length = 11 := by simp [insB, zbgt]
def zju (l : List Ins) : List (BitVec 8) := l.flatMap insB
theorem zy8 (l : List Ins) : (zju l).length = 11 * l.length := by
  induction l with
  | nil => rfl
  | cons i l ih => simp only [zju, List.flatMap_cons, List.length_append] at ih ⊢; rw [zban, ih]; simp; omega
theorem zbno {l : List Ins} {j : Nat} (h : j < l.length) : zju (l.take (j + 1)) = zju (l.take j) ++ insB (l.getD j default) := by
  rw [zjn h default]; simp [zju]
end Go.AM.Cap

/- code: the loops over instructions -/
set_option maxHeartbeats 8000000
namespace Go.AM.Cap
open Go.AM Go.Proofs
theorem zbtl {H0 H : Heap} {L : List Thing} {G C : List V → M V} {r : Nat} {lv w xv n2 n3 : V} {bs : List (BitVec 8)} {i : Ins} (st : Hp H0 H (own w bs :: cel r (Flat.enc i) :: L)) (hb : bs.length ≤ 10000000)
    (R : Out → Heap → Prop) (hR : ∀ w' H', Hp H0 H' (own w' (bs ++ nB i.n 6) :: cel r (Flat.enc i) :: L) → R (.brk 6 [lv, w', xv, n2, n3]) H') : wp (zcg zcb (zp5 G C) [lv, w, ptr r 0, i64 40, xv, n2, n3]) R H := by
  refine zb9 (Inv := fun k vs H' => ∃ (j : Nat) (w' : V), k = 6 - j ∧ j ≤ 6 ∧ vs = [lv, w', ptr r 0, i64 (40 - 8 * (j : Int)), xv, n2, n3] ∧ Hp H0 H' (own w' (bs ++ nB i.n j) :: cel r (Flat.enc i) :: L)) (n := 6) (by unfold zcb; omega)
    ⟨0, w, by omega, by omega, rfl, by simpa [nB] using st⟩ ?_
  rintro k vs H1 ⟨j, w1, hk, hj, rfl, s1⟩
  by_cases h6 : j = 6
  · subst h6
    have e : decide ((40 : Int) - 8 * ((6 : Nat) : Int) ≥ 0) = false := by decide
    (try simp (maxSteps := 1000000) (disch := first | omega | (simp only [Z3]; omega) | (simp; done) | assumption | decide | (refine not_not_intro ?_; assumption)) only [Z1, Z2, splice, zp5, e])
    exact hR _ _ s1
  have hge : (40 : Int) - 8 * (j : Int) ≥ 0 := by omega
  have g1 := s1.get (i := 1) rfl
  rw [zcf] at g1
  (try simp (maxSteps := 1000000) (disch := first | omega | (simp only [Z3]; omega) | (simp; done) | assumption | decide | (refine not_not_intro ?_; assumption)) only [Z1, Z2, splice, zp5, decide_eq_true hge, z1r, g1, zbyx _ j (by omega), zbtk])
  refine (zbb (by rfl) (cs := zr [b8 (i.n / 2 ^ (40 - 8 * j))]) (by rfl)).mpr ?_
  have s2 := s1.newo (n := 1) (m := 1) [b8 (i.n / 2 ^ (40 - 8 * j))] rfl rfl
  generalize H1.push (some (.cells true (zr [b8 (i.n / 2 ^ (40 - 8 * j))]))) = H2 at *
  (try simp (maxSteps := 1000000) (disch := first | omega | (simp only [Z3]; omega) | (simp; done) | assumption | decide | (refine not_not_intro ?_; assumption)) only [Z1, Z2, splice])
  have hnl := zbgt i.n j
  refine zg0 s2 (i := 1) rfl rfl (s2.own (i := 0) rfl).sl (by rw [List.length_append, hnl, List.length_singleton]; omega) (by rw [List.length_append, hnl, List.length_singleton]; omega) fun w3 H3 s3 => ?_
  (try simp (maxSteps := 1000000) (disch := first | omega | (simp only [Z3]; omega) | (simp; done) | assumption | decide | (refine not_not_intro ?_; assumption)) only [Z1, Z2, splice, z1q])
  refine ⟨6 - (j + 1), by omega, j + 1, w3, rfl, by omega, by rw [show (40 : Int) - 8 * (((j + 1 : Nat)) : Int) = 40 - 8 * (j : Int) - 8 by push_cast; omega], ?_⟩
  rw [zbvg, ← List.append_assoc]
  exact s3.tail
theorem zbtm {H0 H : Heap} {L : List Thing} {G C : List V → M V} {lv w xv : V} {l : List Ins} (hx : Sl H0 xv l) (hl : l.length ≤ 100000) (st : Hp H0 H (own w ([] : List (BitVec 8)) :: L))
    (R : Out → Heap → Prop) (hR : ∀ w' H', Hp H0 H' (own w' (zju l) :: L) → R (.brk 4 [lv, w']) H') : wp (zcg zcb (zn8 G C) [lv, w, xv, i64 l.length, i64 0]) R H := by
  refine zb9 (Inv := fun k vs H' => ∃ (j : Nat) (w' : V), k = l.length - j ∧ j ≤ l.length ∧ vs = [lv, w', xv, i64 l.length, i64 j] ∧ Hp H0 H' (own w' (zju (l.take j)) :: L)) (n := l.length) (by unfold zcb; omega)
    ⟨0, w, by omega, by omega, rfl, st⟩ ?_
  rintro k vs H1 ⟨j, w1, hk, hj, rfl, s1⟩
  by_cases hlt : j < l.length
  case neg =>
    have : j = l.length := by omega
    subst this
    rw [List.take_length] at s1
    (try simp (maxSteps := 1000000) (disch := first | omega | (simp only [Z3]; omega) | (simp; done) | assumption | decide | (refine not_not_intro ?_; assumption)) only [Z1, Z2, splice, zn8])
    exact hR _ _ s1
  have v1 := s1.ro hx
  have a1 := v1.addr' (n := 4) rfl (k := .i64) (i := j) (by omega) (by omega)
  rw [Int.toNat_natCast] at a1
  have d1 := fun Q => v1.ldn' (Q := Q) (n := 4) rfl hlt default
  have hst := zbno hlt
  have hbl : (zju (l.take j)).length ≤ 2000000 := by rw [zy8, List.length_take]; omega
  generalize l.getD j default = i at *
  have ho := zk4 i
  (try simp (maxSteps := 1000000) (disch := first | omega | (simp only [Z3]; omega) | (simp; done) | assumption | decide | (refine not_not_intro ?_; assumption)) only [Z1, zv, z6, zdv, zia, eq_self, true_and, zd7, zdn, ze8, zcc, zd8, Heap.get_push_eq, Heap.get_push_lt, Heap.get_set_eq, Heap.get_set_ne', Heap.next_push', Heap.next_set', Heap.set_push_lt, Heap.set_push_eq, Heap.set_set, zct, zcu, zb0, zcx, zcy, zbg, zb2, zcz, zco, zbz, zcp, zcq, zcr, zcs, List.set_cons_zero, List.set_cons_succ, List.length_cons, List.length_nil, List.drop_succ_cons, List.drop_zero, List.take_succ_cons, List.take_zero, List.nil_append, List.cons_append, splice, zbw, zbx, zbf, zz, zn, zby, zcv, zb1, zfj, zdw, zcw, zc0, zbt, zx, zbu, Option.map_some, zc1, zc2, zbi, zb3, zb4, zb5, zbh, zb6, zb7, zn8, zzm, a1, d1, zcf])
  (try simp (maxSteps := 1000000) (disch := first | omega | (simp only [Z3]; omega) | (simp; done) | assumption | decide | (refine not_not_intro ?_; assumption)) only [Z1, Z2, splice])
  have s2 := s1.newc (Flat.enc i)
  rw [zcf] at s2
  have g2 := s2.get (i := 0) rfl
  generalize H1.push (some (.cells true [i64 i.op, i64 i.a, i64 i.b, i64 i.n])) = H2 at *
  generalize H1.next = r at *
  (try simp (maxSteps := 1000000) (disch := first | omega | (simp only [Z3]; omega) | (simp; done) | assumption | decide | (refine not_not_intro ?_; assumption)) only [Z1, Z2, splice, g2, zbtk, zbyw])
  refine (zbb (by rfl) (cs := zr [b8 i.op, b8 (i.a / 256), b8 i.a, b8 (i.b / 256), b8 i.b]) (by rfl)).mpr ?_
  have s3 := s2.newo (n := 1) (m := 5) [b8 i.op, b8 (i.a / 256), b8 i.a, b8 (i.b / 256), b8 i.b] rfl rfl
  generalize H2.push (some (.cells true (zr [b8 i.op, b8 (i.a / 256), b8 i.a, b8 (i.b / 256), b8 i.b]))) = H3 at *
  have h5 : ([b8 i.op, b8 (i.a / 256), b8 i.a, b8 (i.b / 256), b8 i.b] : List (BitVec 8)).length = 5 := rfl
  refine zg0 s3 (i := 2) rfl rfl (s3.own (i := 0) rfl).sl (by rw [h5]; omega) (by rw [h5]; omega) fun w4 H4 s4 => ?_
  have s5 := s4.tail.perm (List.Perm.swap _ _ _)
  refine zbtl s5 (by rw [List.length_append, h5]; omega) _ fun w6 H6 s6 => ?_
  (try simp (maxSteps := 1000000) (disch := first | omega | (simp only [Z3]; omega) | (simp; done) | assumption | decide | (refine not_not_intro ?_; assumption)) only [Z1, Z2, splice, z1s])
  refine ⟨l.length - (j + 1), by omega, j + 1, w6, rfl, by omega, by push_cast; rfl, ?_⟩
  rw [hst, insB, ← List.append_assoc]
  exact (s6.perm (List.Perm.swap _ _ _)).tail
end Go.AM.Cap

/- code: the loops over cells and ends -/
set_option maxHeartbeats 8000000
namespace Go.AM.Cap
open Go.AM Go.Proofs
def tfS (l : List (Int × Int)) : List It := l.flatMap fun p => [zjo p.1, zjo p.2]
theorem zbeb (l : List (Int × Int)) : (tfS l).length = 2 * l.length := by
  induction l with
  | nil => rfl
  | cons i l ih => simp only [tfS, List.flatMap_cons, List.length_append] at ih ⊢; rw [ih]; simp; omega
theorem zbtn {l : List (Int × Int)} {j : Nat} (h : j < l.length) : tfS (l.take (j + 1)) = tfS (l.take j) ++ [zjo (l.getD j (0, 0)).1, zjo (l.getD j (0, 0)).2] := by
  rw [zjn h (0, 0)]; simp [tfS]
theorem zbto {a b : List Int} {j : Nat} (h : j < a.length) (h2 : j < b.length) : (a.zip b).getD j (0, 0) = (a.getD j 0, b.getD j 0) := by
  rw [List.getD_eq_getElem?_getD, List.getD_eq_getElem?_getD, List.getD_eq_getElem?_getD, List.getElem?_eq_getElem (by rw [List.length_zip]; omega), List.getElem?_eq_getElem h, List.getElem?_eq_getElem h2]
  simp
theorem zbtp {H0 H : Heap} {L : List Thing} {G C : List V → M V} {p : Nat} {w tv fv : V} {c0 c3 c4 c5 : V} {ts fs : List Int} {acc : List It} (gp : H0.get p = some (.cells true [c0, tv, fv, c3, c4, c5])) (ht : Sl H0 tv ts) (hf : Sl H0 fv fs) (he : ts.length = fs.length) (hl : ts.length ≤ 100000) (ha : acc.length ≤ 1000000) (st : Hp H0 H (own w acc :: L))
    (R : Out → Heap → Prop) (hR : ∀ w' H', Hp H0 H' (own w' (acc ++ tfS (ts.zip fs)) :: L) → R (.brk 0 [ptr p 0, w']) H') : wp (zcg zcb (zp3 G C) [ptr p 0, w, tv, i64 ts.length, i64 0]) R H := by
  have hzl : (ts.zip fs).length = ts.length := by rw [List.length_zip]; omega
  refine zb9 (Inv := fun k vs H' => ∃ (j : Nat) (w' : V), k = ts.length - j ∧ j ≤ ts.length ∧ vs = [ptr p 0, w', tv, i64 ts.length, i64 j] ∧ Hp H0 H' (own w' (acc ++ tfS ((ts.zip fs).take j)) :: L)) (n := ts.length) (by unfold zcb; omega)
    ⟨0, w, by omega, by omega, rfl, by simpa [tfS] using st⟩ ?_
  rintro k vs H1 ⟨j, w1, hk, hj, rfl, s1⟩
  by_cases hlt : j < ts.length
  case neg =>
    have : j = ts.length := by omega
    subst this
    rw [← hzl, List.take_length] at s1
    (try simp (maxSteps := 1000000) (disch := first | omega | (simp only [Z3]; omega) | (simp; done) | assumption | decide | (refine not_not_intro ?_; assumption)) only [Z1, Z2, splice, zp3])
    exact hR _ _ s1
  have hlt2 : j < fs.length := by omega
  have v1 := s1.ro ht
  have v2 := s1.ro hf
  have a1 := v1.addr1 rfl (k := .i64) (i := j) (by omega) (by omega)
  rw [Int.toNat_natCast] at a1
  have d1 := v1.cell1 rfl hlt 0
  have a2 := v2.addr1 rfl (k := .i64) (i := j) (by omega) (by omega)
  rw [Int.toNat_natCast] at a2
  have d2 := v2.cell1 rfl hlt2 0
  have g1 := s1.keeps.get gp (by simp)
  have hst := zbtn (l := ts.zip fs) (j := j) (by omega)
  rw [zbto hlt hlt2] at hst
  have htl : (tfS ((ts.zip fs).take j)).length ≤ 200000 := by rw [zbeb, List.length_take]; omega
  generalize ts.getD j 0 = t at *
  generalize fs.getD j 0 = f at *
  (try simp (maxSteps := 1000000) (disch := first | omega | (simp only [Z3]; omega) | (simp; done) | assumption | decide | (refine not_not_intro ?_; assumption)) only [Z1, Z2, splice, zp3, z1n, a1, d1, a2, d2, g1])
  refine (zbb (by rfl) (cs := zr [t, f]) (by rfl)).mpr ?_
  have s2 := s1.newo (n := 1) (m := 2) [t, f] rfl rfl
  generalize H1.push (some (.cells true (zr [t, f]))) = H2 at *
  (try simp (maxSteps := 1000000) (disch := first | omega | (simp only [Z3]; omega) | (simp; done) | assumption | decide | (refine not_not_intro ?_; assumption)) only [Z1, Z2, splice])
  refine zbvf s2 (s2.own (i := 0) rfl).sl (by simp) _ fun w3 H3 s3 _ => ?_
  (try simp (maxSteps := 1000000) (disch := first | omega | (simp only [Z3]; omega) | (simp; done) | assumption | decide | (refine not_not_intro ?_; assumption)) only [Z1, Z2, splice])
  refine zg0 s3 (i := 2) rfl rfl (s3.own (i := 0) rfl).sl (by rw [List.length_append]; simp; omega) (by rw [List.length_append]; simp; omega) fun w4 H4 s4 => ?_
  (try simp (maxSteps := 1000000) (disch := first | omega | (simp only [Z3]; omega) | (simp; done) | assumption | decide | (refine not_not_intro ?_; assumption)) only [Z1, Z2, splice, z1m])
  refine ⟨ts.length - (j + 1), by omega, j + 1, w4, rfl, by omega, by push_cast; rfl, ?_⟩
  rw [hst, ← List.append_assoc]
  exact s4.tail.tail
def z2q (l : List Int) : List It := zjo l.length :: l.map zjo
def zs7 (l : List (In Int)) : List It := l.flatMap fun e => z2q e.xs
theorem zbnp {l : List (In Int)} {j : Nat} (h : j < l.length) : zs7 (l.take (j + 1)) = zs7 (l.take j) ++ z2q (l.getD j default).xs := by
  rw [zjn h default]; simp [zs7]
theorem zbtq {H0 H : Heap} {L : List Thing} {G C : List V → M V} {p : Nat} {w xv : V} {es : List (In Int)} {acc : List It} (hx : ∀ w a H', Hp H0 H' (own (α := It) w a :: L) → Sl H' xv es) (hinn : ∀ e ∈ es, Sl H0 e.v e.xs) (hl : es.length ≤ 100) (hle : ∀ e ∈ es, e.xs.length ≤ 100000) (hal : acc.length + (zs7 es).length ≤ 10000000) (st : Hp H0 H (own w acc :: L))
    (R : Out → Heap → Prop) (hR : ∀ w' H', Hp H0 H' (own w' (acc ++ zs7 es) :: L) → R (.brk 2 [ptr p 0, w']) H') : wp (zcg zcb (zp4 G C) [ptr p 0, w, xv, i64 es.length, i64 0]) R H := by
  refine zb9 (Inv := fun k vs H' => ∃ (j : Nat) (w' : V), k = es.length - j ∧ j ≤ es.length ∧ vs = [ptr p 0, w', xv, i64 es.length, i64 j] ∧ Hp H0 H' (own w' (acc ++ zs7 (es.take j)) :: L)) (n := es.length) (by unfold zcb; omega)
    ⟨0, w, by omega, by omega, rfl, by simpa [zs7] using st⟩ ?_
  rintro k vs H1 ⟨j, w1, hk, hj, rfl, s1⟩
  by_cases hlt : j < es.length
  case neg =>
    have : j = es.length := by omega
    subst this
    rw [List.take_length] at s1
    (try simp (maxSteps := 1000000) (disch := first | omega | (simp only [Z3]; omega) | (simp; done) | assumption | decide | (refine not_not_intro ?_; assumption)) only [Z1, Z2, splice, zp4])
    exact hR _ _ s1
  have h1 : Sl2 H1 xv es := ⟨hx _ _ _ s1, fun e he => (hinn e he).keep0 s1.keeps⟩
  obtain ⟨a1, c1⟩ := h1.get hlt
  rw [zv] at c1
  have hst := zbnp hlt
  have hel := hle _ (zij (d := default) hlt)
  have hv := hinn _ (zij (d := default) hlt)
  have hpre : (zs7 (es.take j)).length ≤ (zs7 es).length := by
    have : zs7 es = zs7 (es.take j) ++ zs7 (es.drop j) := by
      unfold zs7; rw [← List.flatMap_append, List.take_append_drop]
    rw [this, List.length_append]; omega
  generalize es.getD j default = e at *
  have lv := hv.len
  (try simp (maxSteps := 1000000) (disch := first | omega | (simp only [Z3]; omega) | (simp; done) | assumption | decide | (refine not_not_intro ?_; assumption)) only [Z1, Z2, splice, zp4, z1p, a1, c1, lv])
  refine (zbb (by rfl) (cs := zr [(e.xs.length : Int)]) (by rfl)).mpr ?_
  have s2 := s1.newo (n := 1) (m := 1) [(e.xs.length : Int)] rfl rfl
  generalize H1.push (some (.cells true (zr [(e.xs.length : Int)]))) = H2 at *
  (try simp (maxSteps := 1000000) (disch := first | omega | (simp only [Z3]; omega) | (simp; done) | assumption | decide | (refine not_not_intro ?_; assumption)) only [Z1, Z2, splice])
  refine zbje s2 (s2.own (i := 0) rfl).sl (by simp) _ fun w3 H3 s3 _ => ?_
  (try simp (maxSteps := 1000000) (disch := first | omega | (simp only [Z3]; omega) | (simp; done) | assumption | decide | (refine not_not_intro ?_; assumption)) only [Z1, Z2, splice])
  refine zg0 s3 (i := 2) rfl rfl (s3.own (i := 0) rfl).sl (by rw [List.length_append]; simp; omega) (by rw [List.length_append]; simp; omega) fun w4 H4 s4 => ?_
  (try simp (maxSteps := 1000000) (disch := first | omega | (simp only [Z3]; omega) | (simp; done) | assumption | decide | (refine not_not_intro ?_; assumption)) only [Z1, Z2, splice])
  refine zbje s4 (s4.ro hv) (by omega) _ fun w5 H5 s5 _ => ?_
  (try simp (maxSteps := 1000000) (disch := first | omega | (simp only [Z3]; omega) | (simp; done) | assumption | decide | (refine not_not_intro ?_; assumption)) only [Z1, Z2, splice])
  refine zg0 s5 (i := 3) rfl rfl (s5.own (i := 0) rfl).sl (by simp only [List.length_append, List.length_map, List.length_cons, List.length_nil]; omega) (by simp only [List.length_append, List.length_map, List.length_cons, List.length_nil]; omega) fun w6 H6 s6 => ?_
  (try simp (maxSteps := 1000000) (disch := first | omega | (simp only [Z3]; omega) | (simp; done) | assumption | decide | (refine not_not_intro ?_; assumption)) only [Z1, Z2, splice, z1o])
  refine ⟨es.length - (j + 1), by omega, j + 1, w6, rfl, by omega, by push_cast; rfl, ?_⟩
  rw [hst, z2q, ← List.append_assoc]
  have := s6.tail.tail.tail
  simpa using this
end Go.AM.Cap
