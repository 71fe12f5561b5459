import Derived.Test.YtcmimkacafphkaaGreatDoorCoJ
import Derived.Test.YtcmimkacafphkaaGreatDoorAmOpenF
import Derived.Lib.ItoaLen
set_option linter.all false
/- code: Check -/
set_option maxHeartbeats 8000000
namespace Go.AM.Cap
open Go.AM Go.Proofs
open Classical in
noncomputable def zfa (p : PIm) : Int × Int :=
  if zwz p then (match zoi (fun i => !zt3 p.types p.code.length i) p.code with | some j => ((j : Int), 130) | none => (0, 0)) else (-1, 130)
theorem z5t {H : Heap} {G : List V → M V} (hm : z9i H) {x : Im} (h : ImAt H x) (hl : x.types.xs.length ≤ 100000000) (hf : x.first.xs.length ≤ 100000000) (hi : x.ins.xs.length ≤ 100000000) (hu : x.outs.xs.length ≤ 100000000) (hc : x.code.xs.length ≤ 100000000)
    (Q : V → Heap → Prop) (hQ : ∀ H', Keeps [] H H' → Q (.tuple #[i64 (zfa x.p).1, i64 (zfa x.p).2]) H') : wp (zfx G zd5 [.agg (Flat.enc x).toArray]) Q H := by
  show wp (ztx G zd5 (.agg (Flat.enc x).toArray)) Q H
  have ho := zhd x
  unfold ztx
  rw [zc4, zc4, zbc]
  refine (zd8 ho).mpr ?_
  have k1 : Keeps [] H (H.push (some (.cells true [.string x.name, x.types.v, x.first.v, x.ins.v, x.outs.v, x.code.v]))) := Keeps.push _ _ _
  have g1 : (H.push (some (.cells true [.string x.name, x.types.v, x.first.v, x.ins.v, x.outs.v, x.code.v]))).get H.next = some (.cells true [.string x.name, x.types.v, x.first.v, x.ins.v, x.outs.v, x.code.v]) := Heap.get_push_self _ _
  generalize H.push (some (.cells true [.string x.name, x.types.v, x.first.v, x.ins.v, x.outs.v, x.code.v])) = H1 at *
  generalize hp : H.next = p at *
  (try simp (maxSteps := 1000000) (disch := first | omega | (simp only [Z3]; omega) | (simp; done) | assumption | decide | (refine not_not_intro ?_; assumption)) only [Z1, Z2, splice, g1])
  rw [← zbc]
  refine zbs5 (hm.keep k1) (h.keep0 k1) hl hf hi hu hc _ fun H2 b k2 hb => ?_
  have k02 := k1.trans k2 (by simp)
  have g2 := k2.get g1 (by simp)
  cases b with
  | false =>
    have hs : ¬ zwz x.p := fun q => by have := hb.2 q; cases this
    have hq := hQ H2 k02
    unfold zfa at hq
    rw [if_neg hs] at hq
    (try simp (maxSteps := 1000000) (disch := first | omega | (simp only [Z3]; omega) | (simp; done) | assumption | decide | (refine not_not_intro ?_; assumption)) only [Z1, Z2, splice])
    exact hq
  | true =>
    have hs : zwz x.p := hb.1 rfl
    (try simp (maxSteps := 1000000) (disch := first | omega | (simp only [Z3]; omega) | (simp; done) | assumption | decide | (refine not_not_intro ?_; assumption)) only [Z1, Z2, splice, z4c])
    refine zbsz _ fun H3 rv k3 sv3 => ?_
    have k03 := k02.trans k3 (by simp)
    have g3 := k3.get g2 (by simp)
    have hone := sv3.isOne
    (try simp (maxSteps := 1000000) (disch := first | omega | (simp only [Z3]; omega) | (simp; done) | assumption | decide | (refine not_not_intro ?_; assumption)) only [Z1, Z2, splice, hone])
    have k4 : Keeps [] H3 (H3.push (some (.cells true [rv]))) := Keeps.push _ _ _
    have g4 : (H3.push (some (.cells true [rv]))).get H3.next = some (.cells true [rv]) := Heap.get_push_self _ _
    have g4a := k4.get g3 (by simp)
    generalize H3.push (some (.cells true [rv])) = H4 at *
    generalize hr : H3.next = r at *
    have k04 := k03.trans k4 (by simp)
    have sv4 := sv3.keep0 k4
    have c4 := h.code.keep0 k04
    (try simp (maxSteps := 1000000) (disch := first | omega | (simp only [Z3]; omega) | (simp; done) | assumption | decide | (refine not_not_intro ?_; assumption)) only [Z1, Z2, splice, g4a])
    refine zbu1 c4 (by omega) (fun i => !zt3 x.types.xs x.code.xs.length i) (fun H5 i Q' k5 hq => ?_) _ fun H5 k5 => ?_
    · show wp (zp0 (.agg (Flat.enc i).toArray) (ptr p 0) (ptr r 0)) Q' H5
      have ho2 := zk4 i
      have k6 : Keeps [] H5 (H5.push (some (.cells true [i64 i.op, i64 i.a, i64 i.b, i64 i.n]))) := Keeps.push _ _ _
      have g6 : (H5.push (some (.cells true [i64 i.op, i64 i.a, i64 i.b, i64 i.n]))).get H5.next = some (.cells true [i64 i.op, i64 i.a, i64 i.b, i64 i.n]) := Heap.get_push_self _ _
      have k46 := k5.trans k6 (by simp)
      have g6a := k46.get g4a (by simp)
      have g6r := k46.get g4 (by simp)
      unfold zp0
      rw [zc4, zc4, zcf]
      refine (zd8 ho2).mpr ?_
      generalize H5.push (some (.cells true [i64 i.op, i64 i.a, i64 i.b, i64 i.n])) = H6 at *
      (try simp (maxSteps := 1000000) (disch := first | omega | (simp only [Z3]; omega) | (simp; done) | assumption | decide | (refine not_not_intro ?_; assumption)) only [Z1, Z2, splice, g6, g6a, g6r])
      rw [← zbc, ← zcf]
      refine zbs0 (h.keep0 (k04.trans k46 (by simp))) (sv4.keep0 k46) (by omega) (by omega) i _ fun H7 k7 => ?_
      have hq7 := hq H7 (k6.trans k7 (by simp))
      cases hb : zt3 x.types.xs x.code.xs.length i
      all_goals
        rw [hb] at hq7
        (try simp (maxSteps := 1000000) (disch := first | omega | (simp only [Z3]; omega) | (simp; done) | assumption | decide | (refine not_not_intro ?_; assumption)) only [Z1, Z2, splice])
        exact hq7
    · have hq := hQ H5 (k04.trans k5 (by simp))
      unfold zfa at hq
      rw [if_pos hs] at hq
      have e : zoi (fun i => !zt3 x.p.types x.p.code.length i) x.p.code = zoi (fun i => !zt3 x.types.xs x.code.xs.length i) x.code.xs := rfl
      rw [e] at hq
      cases hix : zoi (fun i => !zt3 x.types.xs x.code.xs.length i) x.code.xs with
      | none =>
        rw [hix] at hq
        (try simp (maxSteps := 1000000) (disch := first | omega | (simp only [Z3]; omega) | (simp; done) | assumption | decide | (refine not_not_intro ?_; assumption)) only [Z1, Z2, splice, idxV, z4b])
        exact hq
      | some j =>
        rw [hix] at hq
        (try simp (maxSteps := 1000000) (disch := first | omega | (simp only [Z3]; omega) | (simp; done) | assumption | decide | (refine not_not_intro ?_; assumption)) only [Z1, Z2, splice, idxV])
        exact hq
end Go.AM.Cap

/- code: Show, its own and the document's -/
set_option maxHeartbeats 8000000
namespace Go.AM.Cap
open Go.AM Go.Proofs
theorem z9j {u : Nat} (h : u < 10) : Lib.decDigits u = [UInt8.ofNat (48 + u)] := by rw [Lib.decDigits, dif_pos h]
def bya (l : List UInt8) : ByteArray := ⟨l.toArray⟩
theorem zbs6 (l : List UInt8) : (bya l).size = l.length := by simp [bya, ByteArray.size]
end Go.AM.Cap

/- code: Show -/
set_option maxHeartbeats 8000000
namespace Go.AM.Cap
open Go.AM Go.Proofs
def zvb : List (List UInt8) := [[63], [80, 85, 83, 72], [76, 79, 65, 68], [83, 84, 79, 82, 69], [76, 79, 65, 68, 88], [83, 84, 79, 82, 69, 88], [84, 87, 79], [79, 78, 69], [84, 79], [74, 85, 77, 80], [70, 65, 76, 83, 69], [67, 65, 76, 76], [69, 78, 68]]
def opN (op : Int) : List UInt8 := if 1 ≤ op ∧ op ≤ 12 then zvb.getD op.toNat [] else [63]
def zy7 (H : Heap) : Prop := H.get gid_code_opNames = some (.cells false (zvb.map fun l => .string (bya l)))
def zbom (i : Ins) : List UInt8 := opN i.op ++ 32 :: (Lib.itoa i.a ++ 32 :: (Lib.itoa i.b ++ 32 :: Lib.itoa i.n))
theorem zbu7 (op : Int) : (opN op).length ≤ 6 := by
  unfold opN
  split
  · rename_i h
    have : op = 1 ∨ op = 2 ∨ op = 3 ∨ op = 4 ∨ op = 5 ∨ op = 6 ∨ op = 7 ∨ op = 8 ∨ op = 9 ∨ op = 10 ∨ op = 11 ∨ op = 12 := by omega
    rcases this with rfl | rfl | rfl | rfl | rfl | rfl | rfl | rfl | rfl | rfl | rfl | rfl <;> decide
  · decide
def zbyv (i : Ins) : Prop := (-9223372036854775808 ≤ i.a ∧ i.a ≤ 9223372036854775807) ∧ (-9223372036854775808 ≤ i.b ∧ i.b ≤ 9223372036854775807) ∧ (-9223372036854775808 ≤ i.n ∧ i.n ≤ 9223372036854775807)
theorem zbon {H : Heap} (hp : z40 H) (n : Int) (h : -9223372036854775808 ≤ n ∧ n ≤ 9223372036854775807) (Q : V → Heap → Prop) (hQ : Q (.string (bya (Lib.itoa n))) H) : wp (z2n [i64 n]) Q H := by
  refine ⟨_, H, ?_, hQ⟩
  unfold z2n
  simp only
  rw [if_pos ⟨h.1, h.2, hp⟩]
  rfl
theorem zbqi {H : Heap} (hp : z40 H) (n : Int) (h : -9223372036854775808 ≤ n ∧ n ≤ 9223372036854775807) (Q : V → Heap → Prop) (hQ : Q (.string (bya (Lib.itoa n))) H) : wp (zqm [i64 n, .int .i64 10]) Q H := by
  refine ⟨_, H, ?_, hQ⟩
  unfold zqm
  simp only
  rw [if_pos ⟨h.1, h.2, hp⟩]
  rfl
theorem zbwe (a b c d : List UInt8) : zbam [bya a, bya b, bya c, bya d] ⟨#[32]⟩ = bya (a ++ 32 :: (b ++ 32 :: (c ++ 32 :: d))) := by
  unfold zbam bya
  simp [Lib.join, List.intercalate]
theorem zbu8 {H : Heap} {blk : Nat} (a b c d : List UInt8) (h : H.get blk = some (.cells true [.string (bya a), .string (bya b), .string (bya c), .string (bya d)])) (hs : a.length + b.length + c.length + d.length ≤ 1000000) (Q : V → Heap → Prop) (hQ : Q (.string (bya (a ++ 32 :: (b ++ 32 :: (c ++ 32 :: d))))) H) : wp (z41 [slc blk 0 1 4 4, .string ⟨#[32]⟩]) Q H := by
  refine ⟨_, H, ?_, hQ⟩
  have h1 : cellsAt H blk 0 4 = some [.string (bya a), .string (bya b), .string (bya c), .string (bya d)] := by
    unfold cellsAt
    rw [h]
    rfl
  have h2 : z5s [.string (bya a), .string (bya b), .string (bya c), .string (bya d)] = some [bya a, bya b, bya c, bya d] := rfl
  show (match cellsAt H blk 0 4 with
    | some l => match z5s l with
      | some xs => if 4 ≤ 1000 ∧ 4 ≤ 4 ∧ 0 < 4 ∧ (zbam xs ⟨#[32]⟩).size ≤ 1073741824 then some (Value.string (zbam xs ⟨#[32]⟩), H) else none
      | none => none
    | none => none) = _
  rw [h1]
  simp only [h2]
  rw [if_pos ⟨by omega, by omega, by omega, by rw [zbwe, zbs6]; simp; omega⟩, zbwe]
theorem zbu9 {H : Heap} (hp : z40 H) (ho : zy7 H) (i : Ins) (hi : zbyv i) (Q : V → Heap → Prop) (hQ : ∀ H', Keeps [] H H' → Q (.string (bya (zbom i))) H') : wp (zoz z2n zqm z41 [.agg (Flat.enc i).toArray]) Q H := by
  show wp (zv0 z2n zqm z41 (.agg (Flat.enc i).toArray)) Q H
  have h1 := zk4 i
  unfold zv0
  rw [zc4, zc4, zcf]
  refine (zd8 h1).mpr ?_
  have k1 : Keeps [] H (H.push (some (.cells true [i64 i.op, i64 i.a, i64 i.b, i64 i.n]))) := Keeps.push _ _ _
  have g1 : (H.push (some (.cells true [i64 i.op, i64 i.a, i64 i.b, i64 i.n]))).get H.next = some (.cells true [i64 i.op, i64 i.a, i64 i.b, i64 i.n]) := Heap.get_push_self _ _
  have ho1 : zy7 (H.push (some (.cells true [i64 i.op, i64 i.a, i64 i.b, i64 i.n]))) := k1.get ho (by simp)
  have hp1 : z40 (H.push (some (.cells true [i64 i.op, i64 i.a, i64 i.b, i64 i.n]))) := k1.get hp (by simp)
  generalize H.push (some (.cells true [i64 i.op, i64 i.a, i64 i.b, i64 i.n])) = H1 at *
  generalize hpp : H.next = p at *
  unfold zy7 at ho1
  have hc0 : (zvb.map fun l => (.string (bya l) : V))[0]? = some (.string (bya [63])) := rfl
  have i0 : zo5 13 1 (ptr gid_code_opNames 0) (Value.int .i64 0) = some (ptr gid_code_opNames 0) := rfl
  have fin : ∀ (l : List UInt8), l = opN i.op → wp (zy6 z2n zqm z41 [ptr p 0, .string (bya l)]) (fun o H' => wp (zbn o fun vs => ret (zc vs 0)) Q H') H1 := by
    rintro l rfl
    have len := zbu7 i.op
    have l1 := Lib.itoa_length_le i.a hi.1.1 hi.1.2
    have l2 := Lib.itoa_length_le i.b hi.2.1.1 hi.2.1.2
    have l3 := Lib.itoa_length_le i.n hi.2.2.1 hi.2.2.2
    unfold zbom at hQ
    (try simp (maxSteps := 1000000) (disch := first | omega | (simp only [Z3]; omega) | (simp; done) | assumption | decide | (refine not_not_intro ?_; assumption)) only [Z1, Z2, splice, zy6, g1])
    refine zbon hp1 _ hi.1 _ ?_
    (try simp (maxSteps := 1000000) (disch := first | omega | (simp only [Z3]; omega) | (simp; done) | assumption | decide | (refine not_not_intro ?_; assumption)) only [Z1, Z2, splice, g1])
    refine zbon hp1 _ hi.2.1 _ ?_
    (try simp (maxSteps := 1000000) (disch := first | omega | (simp only [Z3]; omega) | (simp; done) | assumption | decide | (refine not_not_intro ?_; assumption)) only [Z1, Z2, splice, g1])
    refine zbqi hp1 _ hi.2.2 _ ?_
    (try simp (maxSteps := 1000000) (disch := first | omega | (simp only [Z3]; omega) | (simp; done) | assumption | decide | (refine not_not_intro ?_; assumption)) only [Z1, Z2, splice, g1])
    refine (zbb (by rfl) (cs := [.string (bya (opN i.op)), .string (bya (Lib.itoa i.a)), .string (bya (Lib.itoa i.b)), .string (bya (Lib.itoa i.n))]) (by rfl)).mpr ?_
    have k2 := Keeps.push [] H1 (some (.cells true [.string (bya (opN i.op)), .string (bya (Lib.itoa i.a)), .string (bya (Lib.itoa i.b)), .string (bya (Lib.itoa i.n))]))
    (try simp (maxSteps := 1000000) (disch := first | omega | (simp only [Z3]; omega) | (simp; done) | assumption | decide | (refine not_not_intro ?_; assumption)) only [Z1, Z2, splice])
    refine zbu8 _ _ _ _ (Heap.get_push_self _ _) (by omega) _ ?_
    (try simp (maxSteps := 1000000) (disch := first | omega | (simp only [Z3]; omega) | (simp; done) | assumption | decide | (refine not_not_intro ?_; assumption)) only [Z1, Z2, splice, g1])
    exact hQ _ (k1.trans k2 (by simp))
  by_cases b1 : i.op > 0
  · by_cases b2 : i.op < 13
    · have ia : zo5 13 1 (ptr gid_code_opNames 0) (i64 i.op) = some (ptr gid_code_opNames i.op.toNat) := by
        rw [z5f (by omega) (by omega)]; simp
      have hc : (zvb.map fun l => (.string (bya l) : V))[i.op.toNat]? = some (.string (bya (opN i.op))) := by
        rw [List.getElem?_map]
        have : zvb[i.op.toNat]? = some (opN i.op) := by
          unfold opN
          rw [if_pos (by omega), List.getD_eq_getElem?_getD, List.getElem?_eq_getElem (show i.op.toNat < zvb.length by show i.op.toNat < 13; omega)]
          rfl
        rw [this]; rfl
      (try simp (maxSteps := 1000000) (disch := first | omega | (simp only [Z3]; omega) | (simp; done) | assumption | decide | (refine not_not_intro ?_; assumption)) only [Z1, Z2, splice, i0, ho1, g1, decide_eq_true b1, decide_eq_true b2, ia])
      rw [hc0, zuh, hc, zuh]
      exact fin _ rfl
    · (try simp (maxSteps := 1000000) (disch := first | omega | (simp only [Z3]; omega) | (simp; done) | assumption | decide | (refine not_not_intro ?_; assumption)) only [Z1, Z2, splice, i0, ho1, g1, decide_eq_true b1, decide_eq_false b2])
      rw [hc0, zuh]
      exact fin _ (by unfold opN; rw [if_neg (by omega)])
  · (try simp (maxSteps := 1000000) (disch := first | omega | (simp only [Z3]; omega) | (simp; done) | assumption | decide | (refine not_not_intro ?_; assumption)) only [Z1, Z2, splice, i0, ho1, g1, decide_eq_false b1])
    rw [hc0, zuh]
    exact fin _ (by unfold opN; rw [if_neg (by omega)])
end Go.AM.Cap

/- code: the document's Show -/
set_option maxHeartbeats 8000000
namespace Go.AM.Cap
open Go.AM Go.Proofs
end Go.AM.Cap
