import Derived.Test.YtcmimkacafphkaaGreatDoorCoM
import Derived.Test.YtcmimkacafphkaaGreatDoorAmMap
set_option linter.all false
/- code: the document's Show -/
set_option maxHeartbeats 8000000
namespace Go.AM.Cap
open Go.AM Go.Proofs

theorem rshow_ok {H : Heap} (i : Ins) (hi : InsOk i) (Q : V → Heap → Prop) (hQ : ∀ H', Keeps [] H H' → Q (.string (bya (showS i))) H') : wp (A_ref13_Show [.agg (Flat.enc i).toArray]) Q H := by
  show wp (F_ref13_Show (.agg (Flat.enc i).toArray)) Q H
  have h1 := ins_one i
  unfold F_ref13_Show
  rw [wp_bnd, wp_bnd, enc_ins]
  refine (wp_boxg h1).mpr ?_
  have k1 : Keeps [] H (H.push (some (.cells true [i64 i.op, i64 i.a, i64 i.b, i64 i.n]))) := Keeps.push _ _ _
  have g1 : (H.push (some (.cells true [i64 i.op, i64 i.a, i64 i.b, i64 i.n]))).get H.next = some (.cells true [i64 i.op, i64 i.a, i64 i.b, i64 i.n]) := Heap.get_push_self _ _
  generalize H.push (some (.cells true [i64 i.op, i64 i.a, i64 i.b, i64 i.n])) = H1 at *
  generalize hpp : H.next = p at *
  rw [wp_bnd]
  refine (wp_bslc (by rfl) (cs := opNamesU.map fun l => (.string (bya l) : V)) (by rfl)).mpr ?_
  have k2 := Keeps.push [] H1 (some (.cells true (opNamesU.map fun l => (.string (bya l) : V))))
  have g2 : (H1.push (some (.cells true (opNamesU.map fun l => (.string (bya l) : V))))).get H1.next = some (.cells true (opNamesU.map fun l => (.string (bya l) : V))) := Heap.get_push_self _ _
  have g2a := k2.get g1 (by simp)
  generalize H1.push (some (.cells true (opNamesU.map fun l => (.string (bya l) : V)))) = H2 at *
  generalize hqq : H1.next = q at *
  have k02 := k1.trans k2 (by simp)
  have hc0 : (opNamesU.map fun l => (.string (bya l) : V))[0]? = some (.string (bya [63])) := rfl
  have i0 : iaddrS 1 (slc q 0 1 13 13) (Value.int .i64 0) = some (ptr q 0) := rfl
  have fin : ∀ (l : List UInt8), l = opN i.op → wp (ref13_Show_k0 [ptr p 0, .string (bya l)]) (fun o H' => wp (finM o fun vs => ret (at_ vs 0)) Q H') H2 := by
    rintro l rfl
    have len := opN_len i.op
    have l1 := Lib.itoa_length_le i.a hi.1.1 hi.1.2
    have l2 := Lib.itoa_length_le i.b hi.2.1.1 hi.2.1.2
    have l3 := Lib.itoa_length_le i.n hi.2.2.1 hi.2.2.2
    have sp : (⟨#[32]⟩ : ByteArray) = bya [32] := rfl
    have add : ∀ a b : List UInt8, a.length + b.length ≤ 1000000 → bin .add (.string (bya a)) (.string (bya b)) = some (.string (bya (a ++ b))) := fun a b h => by
      rw [str_add (by rw [bya_size, bya_size]; omega), bya_app]
    unfold showS at hQ
    rw [ref13_Show_k0, sp]
    have e1 := add (opN i.op) [32] (by simp; omega)
    (try simp (maxSteps := 1000000) (disch := first | omega | (simp only [Z3]; omega) | (simp; done) | assumption | decide | (refine not_not_intro ?_; assumption)) only [Z1, Z2, splice, g2a, e1])
    refine signed_ok _ hi.1.1 hi.1.2 _ fun H3 k3 => ?_
    have g3 := k3.get g2a (by simp)
    have e2 := add (opN i.op ++ [32]) (Lib.itoa i.a) (by simp; omega)
    have e3 := add (opN i.op ++ [32] ++ Lib.itoa i.a) [32] (by simp; omega)
    (try simp (maxSteps := 1000000) (disch := first | omega | (simp only [Z3]; omega) | (simp; done) | assumption | decide | (refine not_not_intro ?_; assumption)) only [Z1, Z2, splice, g3, e2, e3])
    refine signed_ok _ hi.2.1.1 hi.2.1.2 _ fun H4 k4 => ?_
    have g4 := k4.get g3 (by simp)
    have e4 := add (opN i.op ++ [32] ++ Lib.itoa i.a ++ [32]) (Lib.itoa i.b) (by simp; omega)
    have e5 := add (opN i.op ++ [32] ++ Lib.itoa i.a ++ [32] ++ Lib.itoa i.b) [32] (by simp; omega)
    (try simp (maxSteps := 1000000) (disch := first | omega | (simp only [Z3]; omega) | (simp; done) | assumption | decide | (refine not_not_intro ?_; assumption)) only [Z1, Z2, splice, g4, e4, e5])
    refine signed_ok _ hi.2.2.1 hi.2.2.2 _ fun H5 k5 => ?_
    have e6 := add (opN i.op ++ [32] ++ Lib.itoa i.a ++ [32] ++ Lib.itoa i.b ++ [32]) (Lib.itoa i.n) (by simp; omega)
    (try simp (maxSteps := 1000000) (disch := first | omega | (simp only [Z3]; omega) | (simp; done) | assumption | decide | (refine not_not_intro ?_; assumption)) only [Z1, Z2, splice, e6, g3, g4])
    have := hQ H5 (((k02.trans k3 (by simp)).trans k4 (by simp)).trans k5 (by simp))
    simpa using this
  by_cases b1 : i.op ≥ 1
  · by_cases b2 : i.op ≤ 12
    · have ia : iaddrS 1 (slc q 0 1 13 13) (i64 i.op) = some (ptr q i.op.toNat) := by
        rw [iaddrS_slc (by omega) (by omega)]; simp
      have hc : (opNamesU.map fun l => (.string (bya l) : V))[i.op.toNat]? = some (.string (bya (opN i.op))) := by
        rw [List.getElem?_map]
        have : opNamesU[i.op.toNat]? = some (opN i.op) := by
          unfold opN
          rw [if_pos (by omega), List.getD_eq_getElem?_getD, List.getElem?_eq_getElem (show i.op.toNat < opNamesU.length by show i.op.toNat < 13; omega)]
          rfl
        rw [this]; rfl
      (try simp (maxSteps := 1000000) (disch := first | omega | (simp only [Z3]; omega) | (simp; done) | assumption | decide | (refine not_not_intro ?_; assumption)) only [Z1, Z2, splice, i0, g2, g2a, decide_eq_true b1, decide_eq_true b2, ia])
      rw [hc0, wpO_some, hc, wpO_some]
      exact fin _ rfl
    · (try simp (maxSteps := 1000000) (disch := first | omega | (simp only [Z3]; omega) | (simp; done) | assumption | decide | (refine not_not_intro ?_; assumption)) only [Z1, Z2, splice, i0, g2, g2a, decide_eq_true b1, decide_eq_false b2])
      rw [hc0, wpO_some]
      exact fin _ (by unfold opN; rw [if_neg (by omega)])
  · (try simp (maxSteps := 1000000) (disch := first | omega | (simp only [Z3]; omega) | (simp; done) | assumption | decide | (refine not_not_intro ?_; assumption)) only [Z1, Z2, splice, i0, g2, g2a, decide_eq_false b1])
    rw [hc0, wpO_some]
    exact fin _ (by unfold opN; rw [if_neg (by omega)])
end Go.AM.Cap
