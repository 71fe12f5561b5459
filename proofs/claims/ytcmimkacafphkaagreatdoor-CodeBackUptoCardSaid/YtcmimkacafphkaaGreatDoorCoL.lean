import Derived.Test.YtcmimkacafphkaaGreatDoorCoJ
import Derived.Test.YtcmimkacafphkaaGreatDoorAmOpenF
import Derived.Lib.ItoaLen
set_option linter.all false
/- code: Check -/
set_option maxHeartbeats 8000000
namespace Go.AM.Cap
open Go.AM Go.Proofs

open Classical in
/-- which instruction may not be -/
noncomputable def checkS (p : PIm) : Int × Int :=
  if SoundP p then (match idxP (fun i => !mayB p.types p.code.length i) p.code with | some j => ((j : Int), 130) | none => (0, 0)) else (-1, 130)
theorem imCheck_ok {H : Heap} {G : List V → M V} (hm : MaxL H) {x : Im} (h : ImAt H x) (hl : x.types.xs.length ≤ 100000000) (hf : x.first.xs.length ≤ 100000000) (hi : x.ins.xs.length ≤ 100000000) (hu : x.outs.xs.length ≤ 100000000) (hc : x.code.xs.length ≤ 100000000)
    (Q : V → Heap → Prop) (hQ : ∀ H', Keeps [] H H' → Q (.tuple #[i64 (checkS x.p).1, i64 (checkS x.p).2]) H') : wp (A_code_Check G containsF [.agg (Flat.enc x).toArray]) Q H := by
  show wp (F_code_Check G containsF (.agg (Flat.enc x).toArray)) Q H
  have ho := im_one x
  unfold F_code_Check
  rw [wp_bnd, wp_bnd, enc_im]
  refine (wp_boxg ho).mpr ?_
  have k1 : Keeps [] H (H.push (some (.cells true [.string x.name, x.types.v, x.first.v, x.ins.v, x.outs.v, x.code.v]))) := Keeps.push _ _ _
  have g1 : (H.push (some (.cells true [.string x.name, x.types.v, x.first.v, x.ins.v, x.outs.v, x.code.v]))).get H.next = some (.cells true [.string x.name, x.types.v, x.first.v, x.ins.v, x.outs.v, x.code.v]) := Heap.get_push_self _ _
  generalize H.push (some (.cells true [.string x.name, x.types.v, x.first.v, x.ins.v, x.outs.v, x.code.v])) = H1 at *
  generalize hp : H.next = p at *
  (try simp (maxSteps := 1000000) (disch := first | omega | (simp only [Z3]; omega) | (simp; done) | assumption | decide | (refine not_not_intro ?_; assumption)) only [Z1, Z2, splice, g1])
  rw [← enc_im]
  refine sound_ok (hm.keep k1) (h.keep0 k1) hl hf hi hu hc _ fun H2 b k2 hb => ?_
  have k02 := k1.trans k2 (by simp)
  have g2 := k2.get g1 (by simp)
  cases b with
  | false =>
    have hs : ¬ SoundP x.p := fun q => by have := hb.2 q; cases this
    have hq := hQ H2 k02
    unfold checkS at hq
    rw [if_neg hs] at hq
    (try simp (maxSteps := 1000000) (disch := first | omega | (simp only [Z3]; omega) | (simp; done) | assumption | decide | (refine not_not_intro ?_; assumption)) only [Z1, Z2, splice])
    exact hq
  | true =>
    have hs : SoundP x.p := hb.1 rfl
    (try simp (maxSteps := 1000000) (disch := first | omega | (simp only [Z3]; omega) | (simp; done) | assumption | decide | (refine not_not_intro ?_; assumption)) only [Z1, Z2, splice, code_Check_k1])
    refine rules_ok _ fun H3 rv k3 sv3 => ?_
    have k03 := k02.trans k3 (by simp)
    have g3 := k3.get g2 (by simp)
    have hone := sv3.isOne
    (try simp (maxSteps := 1000000) (disch := first | omega | (simp only [Z3]; omega) | (simp; done) | assumption | decide | (refine not_not_intro ?_; assumption)) only [Z1, Z2, splice, hone])
    have k4 : Keeps [] H3 (H3.push (some (.cells true [rv]))) := Keeps.push _ _ _
    have g4 : (H3.push (some (.cells true [rv]))).get H3.next = some (.cells true [rv]) := Heap.get_push_self _ _
    have g4a := k4.get g3 (by simp)
    generalize H3.push (some (.cells true [rv])) = H4 at *
    generalize hr : H3.next = r at *
    have k04 := k03.trans k4 (by simp)
    have sv4 := sv3.keep0 k4
    have c4 := h.code.keep0 k04
    (try simp (maxSteps := 1000000) (disch := first | omega | (simp only [Z3]; omega) | (simp; done) | assumption | decide | (refine not_not_intro ?_; assumption)) only [Z1, Z2, splice, g4a])
    refine idxN_ok c4 (by omega) (fun i => !mayB x.types.xs x.code.xs.length i) (fun H5 i Q' k5 hq => ?_) _ fun H5 k5 => ?_
    · show wp (F_code_Check_1 (.agg (Flat.enc i).toArray) (ptr p 0) (ptr r 0)) Q' H5
      have ho2 := ins_one i
      have k6 : Keeps [] H5 (H5.push (some (.cells true [i64 i.op, i64 i.a, i64 i.b, i64 i.n]))) := Keeps.push _ _ _
      have g6 : (H5.push (some (.cells true [i64 i.op, i64 i.a, i64 i.b, i64 i.n]))).get H5.next = some (.cells true [i64 i.op, i64 i.a, i64 i.b, i64 i.n]) := Heap.get_push_self _ _
      have k46 := k5.trans k6 (by simp)
      have g6a := k46.get g4a (by simp)
      have g6r := k46.get g4 (by simp)
      unfold F_code_Check_1
      rw [wp_bnd, wp_bnd, enc_ins]
      refine (wp_boxg ho2).mpr ?_
      generalize H5.push (some (.cells true [i64 i.op, i64 i.a, i64 i.b, i64 i.n])) = H6 at *
      (try simp (maxSteps := 1000000) (disch := first | omega | (simp only [Z3]; omega) | (simp; done) | assumption | decide | (refine not_not_intro ?_; assumption)) only [Z1, Z2, splice, g6, g6a, g6r])
      rw [← enc_im, ← enc_ins]
      refine imMay_ok (h.keep0 (k04.trans k46 (by simp))) (sv4.keep0 k46) (by omega) (by omega) i _ fun H7 k7 => ?_
      have hq7 := hq H7 (k6.trans k7 (by simp))
      cases hb : mayB x.types.xs x.code.xs.length i
      all_goals
        rw [hb] at hq7
        (try simp (maxSteps := 1000000) (disch := first | omega | (simp only [Z3]; omega) | (simp; done) | assumption | decide | (refine not_not_intro ?_; assumption)) only [Z1, Z2, splice])
        exact hq7
    · have hq := hQ H5 (k04.trans k5 (by simp))
      unfold checkS at hq
      rw [if_pos hs] at hq
      have e : idxP (fun i => !mayB x.p.types x.p.code.length i) x.p.code = idxP (fun i => !mayB x.types.xs x.code.xs.length i) x.code.xs := rfl
      rw [e] at hq
      cases hix : idxP (fun i => !mayB x.types.xs x.code.xs.length i) x.code.xs with
      | none =>
        rw [hix] at hq
        (try simp (maxSteps := 1000000) (disch := first | omega | (simp only [Z3]; omega) | (simp; done) | assumption | decide | (refine not_not_intro ?_; assumption)) only [Z1, Z2, splice, idxV, code_Check_k0])
        exact hq
      | some j =>
        rw [hix] at hq
        (try simp (maxSteps := 1000000) (disch := first | omega | (simp only [Z3]; omega) | (simp; done) | assumption | decide | (refine not_not_intro ?_; assumption)) only [Z1, Z2, splice, idxV])
        exact hq
end Go.AM.Cap

/- code: Show, its own and the document's -/
set_option maxHeartbeats 8000000
namespace Go.AM.Cap
open Go.AM Go.Proofs

/-! ### digits -/
theorem dec_small {u : Nat} (h : u < 10) : Lib.decDigits u = [UInt8.ofNat (48 + u)] := by rw [Lib.decDigits, dif_pos h]
def bya (l : List UInt8) : ByteArray := ⟨l.toArray⟩
theorem bya_size (l : List UInt8) : (bya l).size = l.length := by simp [bya, ByteArray.size]
end Go.AM.Cap
