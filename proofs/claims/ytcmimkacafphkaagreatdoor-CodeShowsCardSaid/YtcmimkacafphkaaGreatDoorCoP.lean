import Derived.Test.YtcmimkacafphkaaGreatDoorCoO
import Derived.Test.YtcmimkacafphkaaGreatDoorAmMap
set_option linter.all false
/- code: CodeShows on the machine -/
set_option maxHeartbeats 8000000
namespace Go.AM.Cap
open Go.AM Go.Proofs

theorem chk_ins {H : Heap} {p : Nat} {i : Ins} (h : H.get p = some (.cells true (Flat.enc i))) : chk (ldn 4 (ptr p 0)) H (.agg (Flat.enc i).toArray) = true := by
  unfold chk
  have e : ldn 4 (ptr p 0) H = some (.agg (Flat.enc i).toArray, H) := by
    simp only [ldn, cellsAt, h]
    rfl
  rw [e]
  simp [vEq, vEq.vEqs, vEq.vEq1, enc_ins]
theorem shows_ok {H : Heap} {G : List V → M V} (hm : MaxL H) (hp : Pow10 H) (ho : OpNames H) (i : Ins) (hi : InsOk i) : wp (A_law13_CodeShows itoaF formatF joinF G containsF [.agg (Flat.enc i).toArray]) (fun r _ => r = .bool true) H := by
  show wp (F_law13_CodeShows itoaF formatF joinF G containsF (.agg (Flat.enc i).toArray)) _ H
  have h1 := ins_one i
  unfold F_law13_CodeShows
  rw [wp_bnd, wp_bnd, enc_ins]
  refine (wp_boxg h1).mpr ?_
  have k1 : Keeps [] H (H.push (some (.cells true [i64 i.op, i64 i.a, i64 i.b, i64 i.n]))) := Keeps.push _ _ _
  have g1 : (H.push (some (.cells true [i64 i.op, i64 i.a, i64 i.b, i64 i.n]))).get H.next = some (.cells true [i64 i.op, i64 i.a, i64 i.b, i64 i.n]) := Heap.get_push_self _ _
  generalize H.push (some (.cells true [i64 i.op, i64 i.a, i64 i.b, i64 i.n])) = H1 at *
  (try simp (maxSteps := 1000000) (disch := first | omega | (simp only [Z3]; omega) | (simp; done) | assumption | decide | (refine not_not_intro ?_; assumption)) only [Z1, Z2, splice, g1])
  rw [← enc_ins]
  refine show_ok (k1.get hp (by simp)) (k1.get ho (by simp)) i hi _ fun H2 k2 => ?_
  have g2 := k2.get g1 (by simp)
  (try simp (maxSteps := 1000000) (disch := first | omega | (simp only [Z3]; omega) | (simp; done) | assumption | decide | (refine not_not_intro ?_; assumption)) only [Z1, Z2, splice, g2])
  refine rshow_ok i hi _ fun H3 k3 => ?_
  have k03 := (k1.trans k2 (by simp)).trans k3 (by simp)
  have g3 := k3.get g2 (by simp)
  (try simp (maxSteps := 1000000) (disch := first | omega | (simp only [Z3]; omega) | (simp; done) | assumption | decide | (refine not_not_intro ?_; assumption)) only [Z1, Z2, splice])
  refine works_ok (hm.keep k03) (k03.get hp (by simp)) (k03.get ho (by simp)) _ fun H4 k4 => ?_
  have hc := chk_ins (i := i) g2
  rw [hc]
  (try simp (maxSteps := 1000000) (disch := first | omega | (simp only [Z3]; omega) | (simp; done) | assumption | decide | (refine not_not_intro ?_; assumption)) only [Z1, Z2, splice])
end Go.AM.Cap
