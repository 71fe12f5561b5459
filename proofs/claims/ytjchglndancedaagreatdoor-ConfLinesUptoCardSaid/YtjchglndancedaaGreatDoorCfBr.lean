import Derived.Test.YtjchglndancedaaGreatDoorCfBq
import Derived.Test.YtjchglndancedaaGreatDoorAmIn
set_option linter.all false
/- conf: the loops over units; a system's lines -/
set_option maxHeartbeats 8000000
namespace Go.AM.Cap
open Go.AM Go.Proofs
variable {H0 H : Heap} {L : List Thing}
theorem zub {k : ByteArray} (hk : k.size ≤ 10000) {x : Bd} (h : zej x.n) : (zlf k x).length ≤ 60000 := zdo hk (fun d hd => by
  simp only [List.mem_cons, List.not_mem_nil, or_false] at hd
  rcases hd with rfl | rfl
  · by_cases c : x.kind = 1
    · rw [if_pos c]; exact ⟨by decide, by decide⟩
    · rw [if_neg c]; exact ⟨by decide, by decide⟩
  · exact h) (by simp)
theorem zbv0 {b : Nat} {bf : Option Nat} {l : List UInt8} {v a1 a2 a3 a4 : V} {ub : List Bd} (hP : zl7 H0) (hv : Sl H0 v ub) (hb : ∀ x ∈ ub, zej x.n) (hn : ub.length ≤ 32) (hl : l.length ≤ 3000000000) (h : Hp H0 H (wrt b bf l :: L)) (Q : Out → Heap → Prop)
    (hQ : ∀ bf' H', Hp H0 H' (wrt b bf' (l ++ ub.flatMap (zlf z03)) :: L) → Q (.brk 10 [ptr b 0, a1, a2, a3, a4]) H') :
    wp (zbj zb8 (zgm zjj zf6 zjk) [ptr b 0, a1, a2, a3, a4, v, i64 ub.length, i64 0]) Q H := by
  refine zck ub.length (by omega) (fun j vs H' => ∃ bf', vs = [ptr b 0, a1, a2, a3, a4, v, i64 ub.length, i64 j] ∧ Hp H0 H' (wrt b bf' (l ++ (ub.take j).flatMap (zlf z03)) :: L)) ⟨bf, rfl, by simpa using h⟩ ?_
  rintro j vs H1 hj ⟨bf1, rfl, s1⟩
  by_cases hlt : j < ub.length
  case neg =>
    have : j = ub.length := by omega
    subst this
    rw [List.take_length] at s1
    (try simp (maxSteps := 1000000) (disch := first | omega | (simp only [Z3]; omega) | (simp; done) | assumption | decide | (apply not_not_intro; assumption)) only [ZB, zgm])
    exact hQ bf1 H1 s1
  have hp := s1.ro hv
  have b1 := hp.addr' (n := 2) rfl (k := .i64) (i := j) (by omega) (by omega)
  rw [Int.toNat_natCast] at b1
  have d1 := fun Q => hp.ldn' (Q := Q) (n := 2) rfl hlt default
  have hg1 := hb _ (zby (d := default) hlt)
  have hacc : ((ub.take j).flatMap (zlf z03)).length ≤ 60000 * (ub.take j).length := zdf fun p hp => zub (by decide) (hb p (List.mem_of_mem_take hp))
  have htl : (ub.take j).length = j := by rw [List.length_take]; omega
  rw [htl] at hacc
  rw [zhb (d := default) hlt]
  simp only [List.flatMap_append, List.flatMap_cons, List.flatMap_nil, List.append_nil]
  generalize ub.getD j default = g at *
  obtain ⟨ki, n⟩ := g
  simp only at hg1
  (try simp (maxSteps := 1000000) (disch := first | omega | (simp only [Z3]; omega) | (simp; done) | assumption | decide | (apply not_not_intro; assumption)) only [ZA, zp, zo, zm, zl, zj, zi, zg, zf, zgm, zo5, b1, d1, z00])
  have s2 : Hp H0 (H1.push (some (.cells true [i64 ki, i64 n]))) (wrt b bf1 (l ++ (ub.take j).flatMap (zlf z03)) :: cel H1.next [i64 ki, i64 n] :: L) := zso (s1.newc _)
  generalize hH2 : H1.push (some (.cells true [i64 ki, i64 n])) = H2 at *
  generalize H1.next = X at *
  have gX := s2.get (i := 1) rfl
  have hw : (Wd.s (if decide (ki = 1) = true then zjz else zpy)).Ok := by cases decide (ki = 1) <;> exact ⟨by decide, by decide⟩
  (try simp (maxSteps := 1000000) (disch := first | omega | (simp only [Z3]; omega) | (simp; done) | assumption | decide | (apply not_not_intro; assumption)) only [ZB, gX, z1w])
  refine (zfk (cs := zbo [Wd.s (if decide (ki = 1) = true then zjz else zpy), Wd.n n]) (by decide) (by rfl)).mpr ?_
  (try simp (maxSteps := 1000000) (disch := first | omega | (simp only [Z3]; omega) | (simp; done) | assumption | decide | (apply not_not_intro; assumption)) only [ZB])
  refine zly [.s (if decide (ki = 1) = true then zjz else zpy), .n n] hP s2 (by decide) (fun d hd => by
    simp only [List.mem_cons, List.not_mem_nil, or_false] at hd
    rcases hd with rfl | rfl
    · exact hw
    · exact hg1) (by simp) rfl (by simp only [List.length_append]; omega) _ fun bf' H' s3 => ?_
  (try simp (maxSteps := 1000000) (disch := first | omega | (simp only [Z3]; omega) | (simp; done) | assumption | decide | (apply not_not_intro; assumption)) only [ZB, gX, zo4])
  exact ⟨hlt, bf', rfl, by
    have s4 := zrh s3
    rw [List.append_assoc] at s4
    simp only [decide_eq_true_eq] at s4
    exact s4⟩
theorem zbtn {b : Nat} {bf : Option Nat} {l : List UInt8} {v a2 a3 a4 : V} {ub : List Bd} (hP : zl7 H0) (hv : Sl H0 v ub) (hb : ∀ x ∈ ub, zej x.n) (hn : ub.length ≤ 32) (hl : l.length ≤ 3000000000) (h : Hp H0 H (wrt b bf l :: L)) (Q : Out → Heap → Prop)
    (hQ : ∀ bf' H', Hp H0 H' (wrt b bf' (l ++ ub.flatMap (zlf kPut)) :: L) → Q (.brk 12 [ptr b 0, a2, a3, a4]) H') :
    wp (zbj zb8 (zgn zjj zf6 zjk) [ptr b 0, a2, a3, a4, v, i64 ub.length, i64 0]) Q H := by
  refine zck ub.length (by omega) (fun j vs H' => ∃ bf', vs = [ptr b 0, a2, a3, a4, v, i64 ub.length, i64 j] ∧ Hp H0 H' (wrt b bf' (l ++ (ub.take j).flatMap (zlf kPut)) :: L)) ⟨bf, rfl, by simpa using h⟩ ?_
  rintro j vs H1 hj ⟨bf1, rfl, s1⟩
  by_cases hlt : j < ub.length
  case neg =>
    have : j = ub.length := by omega
    subst this
    rw [List.take_length] at s1
    (try simp (maxSteps := 1000000) (disch := first | omega | (simp only [Z3]; omega) | (simp; done) | assumption | decide | (apply not_not_intro; assumption)) only [ZB, zgn])
    exact hQ bf1 H1 s1
  have hp := s1.ro hv
  have b1 := hp.addr' (n := 2) rfl (k := .i64) (i := j) (by omega) (by omega)
  rw [Int.toNat_natCast] at b1
  have d1 := fun Q => hp.ldn' (Q := Q) (n := 2) rfl hlt default
  have hg1 := hb _ (zby (d := default) hlt)
  have hacc : ((ub.take j).flatMap (zlf kPut)).length ≤ 60000 * (ub.take j).length := zdf fun p hp => zub (by decide) (hb p (List.mem_of_mem_take hp))
  have htl : (ub.take j).length = j := by rw [List.length_take]; omega
  rw [htl] at hacc
  rw [zhb (d := default) hlt]
  simp only [List.flatMap_append, List.flatMap_cons, List.flatMap_nil, List.append_nil]
  generalize ub.getD j default = g at *
  obtain ⟨ki, n⟩ := g
  simp only at hg1
  (try simp (maxSteps := 1000000) (disch := first | omega | (simp only [Z3]; omega) | (simp; done) | assumption | decide | (apply not_not_intro; assumption)) only [ZA, zp, zo, zm, zl, zj, zi, zg, zf, zgn, zo7, b1, d1, z00])
  have s2 : Hp H0 (H1.push (some (.cells true [i64 ki, i64 n]))) (wrt b bf1 (l ++ (ub.take j).flatMap (zlf kPut)) :: cel H1.next [i64 ki, i64 n] :: L) := zso (s1.newc _)
  generalize hH2 : H1.push (some (.cells true [i64 ki, i64 n])) = H2 at *
  generalize H1.next = X at *
  have gX := s2.get (i := 1) rfl
  have hw : (Wd.s (if decide (ki = 1) = true then zjz else zpy)).Ok := by cases decide (ki = 1) <;> exact ⟨by decide, by decide⟩
  (try simp (maxSteps := 1000000) (disch := first | omega | (simp only [Z3]; omega) | (simp; done) | assumption | decide | (apply not_not_intro; assumption)) only [ZB, gX, z1w])
  refine (zfk (cs := zbo [Wd.s (if decide (ki = 1) = true then zjz else zpy), Wd.n n]) (by decide) (by rfl)).mpr ?_
  (try simp (maxSteps := 1000000) (disch := first | omega | (simp only [Z3]; omega) | (simp; done) | assumption | decide | (apply not_not_intro; assumption)) only [ZB])
  refine zly [.s (if decide (ki = 1) = true then zjz else zpy), .n n] hP s2 (by decide) (fun d hd => by
    simp only [List.mem_cons, List.not_mem_nil, or_false] at hd
    rcases hd with rfl | rfl
    · exact hw
    · exact hg1) (by simp) rfl (by simp only [List.length_append]; omega) _ fun bf' H' s3 => ?_
  (try simp (maxSteps := 1000000) (disch := first | omega | (simp only [Z3]; omega) | (simp; done) | assumption | decide | (apply not_not_intro; assumption)) only [ZB, gX, zo6])
  exact ⟨hlt, bf', rfl, by
    have s4 := zrh s3
    rw [List.append_assoc] at s4
    simp only [decide_eq_true_eq] at s4
    exact s4⟩
theorem z89 {u : PUn} (h1 : u.ins.length ≤ 32) (h2 : u.outs.length ≤ 32) (g1 : ∀ x ∈ u.ins, zej x.n) (g2 : ∀ x ∈ u.outs, zej x.n) : (zpk u).length ≤ 4000000 := by
  have q1 : (u.ins.flatMap (zlf z03)).length ≤ 60000 * u.ins.length := zdf fun x hx => zub (by decide) (g1 x hx)
  have q2 : (u.outs.flatMap (zlf kPut)).length ≤ 60000 * u.outs.length := zdf fun x hx => zub (by decide) (g2 x hx)
  have q3 : (zer zbca []).length ≤ 60000 := zdo (by decide) (by simp) (by simp)
  simp only [zpk, List.length_append]
  omega
def UnOk (u : PUn) : Prop := u.ins.length ≤ 32 ∧ u.outs.length ≤ 32 ∧ (∀ x ∈ u.ins, zej x.n) ∧ ∀ x ∈ u.outs, zej x.n
theorem zbv2 {b P : Nat} {bf : Option Nat} {l : List UInt8} {x : SyV} {s : Sy} (hP : zl7 H0) (hs : SysAt H0 x s) (hu : ∀ u ∈ s.uns, UnOk u) (hn : s.uns.length ≤ 100) (hl : l.length ≤ 1000000000) (h : Hp H0 H (wrt b bf l :: cel P (x.cs s) :: L)) (Q : Out → Heap → Prop)
    (hQ : ∀ bf' H', Hp H0 H' (wrt b bf' (l ++ s.uns.flatMap zpk) :: cel P (x.cs s) :: L) → Q (.brk 8 []) H') :
    wp (zbj zb8 (zgo zjj zf6 zjk) [ptr b 0, x.uv, i64 s.uns.length, i64 0]) Q H := by
  obtain ⟨ul, hU, hul⟩ := hs.uns
  have hlen : s.uns.length = ul.length := by rw [← hul, List.length_map]
  have htk : ∀ j, s.uns.take j = (ul.take j).map Un.p := fun j => by rw [← hul, List.map_take]
  refine zck s.uns.length (by omega) (fun j vs H' => ∃ bf', vs = [ptr b 0, x.uv, i64 s.uns.length, i64 j] ∧ Hp H0 H' (wrt b bf' (l ++ (s.uns.take j).flatMap zpk) :: cel P (x.cs s) :: L)) ⟨bf, rfl, by simpa using h⟩ ?_
  rintro j vs H1 hj ⟨bf1, rfl, s1⟩
  by_cases hlt : j < s.uns.length
  case neg =>
    have : j = s.uns.length := by omega
    subst this
    rw [List.take_length] at s1
    (try simp (maxSteps := 1000000) (disch := first | omega | (simp only [Z3]; omega) | (simp; done) | assumption | decide | (apply not_not_intro; assumption)) only [ZB, zgo])
    exact hQ bf1 H1 s1
  have hu1 := hU.keep0 s1.keeps
  have a1 := hu1.out.addr' (n := 2) rfl (k := .i64) (i := j) (by omega) (by omega)
  rw [Int.toNat_natCast] at a1
  have d1 := fun Q => hu1.out.ldn' (Q := Q) (n := 2) rfl (i := j) (by omega) default
  have hat := hU.at (i := j) (by omega)
  have hok := hu _ (zby (d := default) hlt)
  have hpj : s.uns.getD j default = (ul.getD j default).p := by
    rw [← hul, List.getD_eq_getElem?_getD, List.getElem?_map, List.getD_eq_getElem?_getD, List.getElem?_eq_getElem (by omega)]; rfl
  have hacc : ((s.uns.take j).flatMap zpk).length ≤ 4000000 * (s.uns.take j).length := zdf fun p hp => by
    obtain ⟨r1, r2, r3, r4⟩ := hu p (List.mem_of_mem_take hp)
    exact z89 r1 r2 r3 r4
  have htl : (s.uns.take j).length = j := by rw [List.length_take]; omega
  rw [htl] at hacc
  rw [zhb (d := default) hlt]
  simp only [List.flatMap_append, List.flatMap_cons, List.flatMap_nil, List.append_nil]
  rw [hpj] at hok ⊢
  generalize ul.getD j default = u at *
  obtain ⟨r1, r2, r3, r4⟩ := hok
  have hone : ([u.ins.v, u.outs.v] : List V).all Value.isOne = true := by simp [u.ins.one, u.outs.one]
  (try simp (maxSteps := 1000000) (disch := first | omega | (simp only [Z3]; omega) | (simp; done) | assumption | decide | (apply not_not_intro; assumption)) only [ZA, zp, zo, zm, zl, zj, zi, zg, zf, zgo, zpa, a1, d1, zbb3])
  have s2 : Hp H0 (H1.push (some (.cells true [u.ins.v, u.outs.v]))) (wrt b bf1 (l ++ (s.uns.take j).flatMap zpk) :: cel H1.next [u.ins.v, u.outs.v] :: cel P (x.cs s) :: L) := zso (s1.newc _)
  generalize hH2 : H1.push (some (.cells true [u.ins.v, u.outs.v])) = H2 at *
  generalize H1.next = X at *
  refine zbq5 hP s2 (by decide) (by simp only [List.length_append]; omega) _ fun bf2 H3 s3 => ?_
  have g3 := s3.get (i := 1) rfl
  have l1 := hat.1.len
  have l2 := hat.2.len
  have hu0 : (zer zbca []).length ≤ 60000 := zdo (by decide) (by simp) (by simp)
  (try simp (maxSteps := 1000000) (disch := first | omega | (simp only [Z3]; omega) | (simp; done) | assumption | decide | (apply not_not_intro; assumption)) only [ZB, g3, l1])
  refine zbv0 hP hat.1 r3 r1 (by simp only [List.length_append]; have : (zer ⟨#[117, 110, 105, 116]⟩ []).length ≤ 60000 := hu0; omega) s3 _ fun bf4 H4 s4 => ?_
  have g4 := s4.get (i := 1) rfl
  have q1 : (u.ins.xs.flatMap (zlf z03)).length ≤ 60000 * u.ins.xs.length := zdf fun x hx => zub (by decide) (r3 x hx)
  have r1' : u.ins.xs.length ≤ 32 := r1
  (try simp (maxSteps := 1000000) (disch := first | omega | (simp only [Z3]; omega) | (simp; done) | assumption | decide | (apply not_not_intro; assumption)) only [ZB, zo8, g4, l2])
  refine zbtn hP hat.2 r4 r2 (by simp only [List.length_append]; have : (zer ⟨#[117, 110, 105, 116]⟩ []).length ≤ 60000 := hu0; omega) s4 _ fun bf5 H5 s5 => ?_
  (try simp (maxSteps := 1000000) (disch := first | omega | (simp only [Z3]; omega) | (simp; done) | assumption | decide | (apply not_not_intro; assumption)) only [ZB, zo9])
  exact ⟨hlt, bf5, rfl, by
    have s6 := zrh s5
    simp only [List.append_assoc] at s6
    simp only [zpk, List.append_assoc]
    exact s6⟩
end Go.AM.Cap
