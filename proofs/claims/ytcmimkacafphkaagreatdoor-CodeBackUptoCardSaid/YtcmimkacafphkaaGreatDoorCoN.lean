import Derived.Test.YtcmimkacafphkaaGreatDoorCoL
import Derived.Test.YtcmimkacafphkaaGreatDoorAmOpenF
set_option linter.all false
/- code: Show -/
set_option maxHeartbeats 8000000
namespace Go.AM.Cap
open Go.AM Go.Proofs

def opNamesU : List (List UInt8) := [[63], [80, 85, 83, 72], [76, 79, 65, 68], [83, 84, 79, 82, 69], [76, 79, 65, 68, 88], [83, 84, 79, 82, 69, 88], [84, 87, 79], [79, 78, 69], [84, 79], [74, 85, 77, 80], [70, 65, 76, 83, 69], [67, 65, 76, 76], [69, 78, 68]]
def opN (op : Int) : List UInt8 := if 1 ≤ op ∧ op ≤ 12 then opNamesU.getD op.toNat [] else [63]
def OpNames (H : Heap) : Prop := H.get gid_code_opNames = some (.cells false (opNamesU.map fun l => .string (bya l)))
def showS (i : Ins) : List UInt8 := opN i.op ++ 32 :: (Lib.itoa i.a ++ 32 :: (Lib.itoa i.b ++ 32 :: Lib.itoa i.n))
theorem opN_len (op : Int) : (opN op).length ≤ 6 := by
  unfold opN
  split
  · rename_i h
    have : op = 1 ∨ op = 2 ∨ op = 3 ∨ op = 4 ∨ op = 5 ∨ op = 6 ∨ op = 7 ∨ op = 8 ∨ op = 9 ∨ op = 10 ∨ op = 11 ∨ op = 12 := by omega
    rcases this with rfl | rfl | rfl | rfl | rfl | rfl | rfl | rfl | rfl | rfl | rfl | rfl <;> decide
  · decide
/-- what is handed over is of 64 bits -/
def InsOk (i : Ins) : Prop := (-9223372036854775808 ≤ i.a ∧ i.a ≤ 9223372036854775807) ∧ (-9223372036854775808 ≤ i.b ∧ i.b ≤ 9223372036854775807) ∧ (-9223372036854775808 ≤ i.n ∧ i.n ≤ 9223372036854775807)
theorem itoa_ok {H : Heap} (hp : Pow10 H) (n : Int) (h : -9223372036854775808 ≤ n ∧ n ≤ 9223372036854775807) (Q : V → Heap → Prop) (hQ : Q (.string (bya (Lib.itoa n))) H) : wp (itoaF [i64 n]) Q H := by
  refine ⟨_, H, ?_, hQ⟩
  unfold itoaF
  simp only
  rw [if_pos ⟨h.1, h.2, hp⟩]
  rfl
theorem format_ok {H : Heap} (hp : Pow10 H) (n : Int) (h : -9223372036854775808 ≤ n ∧ n ≤ 9223372036854775807) (Q : V → Heap → Prop) (hQ : Q (.string (bya (Lib.itoa n))) H) : wp (formatF [i64 n, .int .i64 10]) Q H := by
  refine ⟨_, H, ?_, hQ⟩
  unfold formatF
  simp only
  rw [if_pos ⟨h.1, h.2, hp⟩]
  rfl
theorem join4 (a b c d : List UInt8) : joinS [bya a, bya b, bya c, bya d] ⟨#[32]⟩ = bya (a ++ 32 :: (b ++ 32 :: (c ++ 32 :: d))) := by
  unfold joinS bya
  simp [Lib.join, List.intercalate]
theorem join_ok {H : Heap} {blk : Nat} (a b c d : List UInt8) (h : H.get blk = some (.cells true [.string (bya a), .string (bya b), .string (bya c), .string (bya d)])) (hs : a.length + b.length + c.length + d.length ≤ 1000000) (Q : V → Heap → Prop) (hQ : Q (.string (bya (a ++ 32 :: (b ++ 32 :: (c ++ 32 :: d))))) H) : wp (joinF [slc blk 0 1 4 4, .string ⟨#[32]⟩]) Q H := by
  refine ⟨_, H, ?_, hQ⟩
  have h1 : cellsAt H blk 0 4 = some [.string (bya a), .string (bya b), .string (bya c), .string (bya d)] := by
    unfold cellsAt
    rw [h]
    rfl
  have h2 : strsOf [.string (bya a), .string (bya b), .string (bya c), .string (bya d)] = some [bya a, bya b, bya c, bya d] := rfl
  show (match cellsAt H blk 0 4 with
    | some l => match strsOf l with
      | some xs => if 4 ≤ 1000 ∧ 4 ≤ 4 ∧ 0 < 4 ∧ (joinS xs ⟨#[32]⟩).size ≤ 1073741824 then some (Value.string (joinS xs ⟨#[32]⟩), H) else none
      | none => none
    | none => none) = _
  rw [h1]
  simp only [h2]
  rw [if_pos ⟨by omega, by omega, by omega, by rw [join4, bya_size]; simp; omega⟩, join4]
theorem show_ok {H : Heap} (hp : Pow10 H) (ho : OpNames H) (i : Ins) (hi : InsOk i) (Q : V → Heap → Prop) (hQ : ∀ H', Keeps [] H H' → Q (.string (bya (showS i))) H') : wp (A_code_Show itoaF formatF joinF [.agg (Flat.enc i).toArray]) Q H := by
  show wp (F_code_Show itoaF formatF joinF (.agg (Flat.enc i).toArray)) Q H
  have h1 := ins_one i
  unfold F_code_Show
  rw [wp_bnd, wp_bnd, enc_ins]
  refine (wp_boxg h1).mpr ?_
  have k1 : Keeps [] H (H.push (some (.cells true [i64 i.op, i64 i.a, i64 i.b, i64 i.n]))) := Keeps.push _ _ _
  have g1 : (H.push (some (.cells true [i64 i.op, i64 i.a, i64 i.b, i64 i.n]))).get H.next = some (.cells true [i64 i.op, i64 i.a, i64 i.b, i64 i.n]) := Heap.get_push_self _ _
  have ho1 : OpNames (H.push (some (.cells true [i64 i.op, i64 i.a, i64 i.b, i64 i.n]))) := k1.get ho (by simp)
  have hp1 : Pow10 (H.push (some (.cells true [i64 i.op, i64 i.a, i64 i.b, i64 i.n]))) := k1.get hp (by simp)
  generalize H.push (some (.cells true [i64 i.op, i64 i.a, i64 i.b, i64 i.n])) = H1 at *
  generalize hpp : H.next = p at *
  unfold OpNames at ho1
  have hc0 : (opNamesU.map fun l => (.string (bya l) : V))[0]? = some (.string (bya [63])) := rfl
  have i0 : iaddrA 13 1 (ptr gid_code_opNames 0) (Value.int .i64 0) = some (ptr gid_code_opNames 0) := rfl
  have fin : ∀ (l : List UInt8), l = opN i.op → wp (code_Show_k0 itoaF formatF joinF [ptr p 0, .string (bya l)]) (fun o H' => wp (finM o fun vs => ret (at_ vs 0)) Q H') H1 := by
    rintro l rfl
    have len := opN_len i.op
    have l1 := Lib.itoa_length_le i.a hi.1.1 hi.1.2
    have l2 := Lib.itoa_length_le i.b hi.2.1.1 hi.2.1.2
    have l3 := Lib.itoa_length_le i.n hi.2.2.1 hi.2.2.2
    unfold showS at hQ
    (try simp (maxSteps := 1000000) (disch := first | omega | (simp only [Z3]; omega) | (simp; done) | assumption | decide | (refine not_not_intro ?_; assumption)) only [Z1, Z2, splice, code_Show_k0, g1])
    refine itoa_ok hp1 _ hi.1 _ ?_
    (try simp (maxSteps := 1000000) (disch := first | omega | (simp only [Z3]; omega) | (simp; done) | assumption | decide | (refine not_not_intro ?_; assumption)) only [Z1, Z2, splice, g1])
    refine itoa_ok hp1 _ hi.2.1 _ ?_
    (try simp (maxSteps := 1000000) (disch := first | omega | (simp only [Z3]; omega) | (simp; done) | assumption | decide | (refine not_not_intro ?_; assumption)) only [Z1, Z2, splice, g1])
    refine format_ok hp1 _ hi.2.2 _ ?_
    (try simp (maxSteps := 1000000) (disch := first | omega | (simp only [Z3]; omega) | (simp; done) | assumption | decide | (refine not_not_intro ?_; assumption)) only [Z1, Z2, splice, g1])
    refine (wp_bslc (by rfl) (cs := [.string (bya (opN i.op)), .string (bya (Lib.itoa i.a)), .string (bya (Lib.itoa i.b)), .string (bya (Lib.itoa i.n))]) (by rfl)).mpr ?_
    have k2 := Keeps.push [] H1 (some (.cells true [.string (bya (opN i.op)), .string (bya (Lib.itoa i.a)), .string (bya (Lib.itoa i.b)), .string (bya (Lib.itoa i.n))]))
    (try simp (maxSteps := 1000000) (disch := first | omega | (simp only [Z3]; omega) | (simp; done) | assumption | decide | (refine not_not_intro ?_; assumption)) only [Z1, Z2, splice])
    refine join_ok _ _ _ _ (Heap.get_push_self _ _) (by omega) _ ?_
    (try simp (maxSteps := 1000000) (disch := first | omega | (simp only [Z3]; omega) | (simp; done) | assumption | decide | (refine not_not_intro ?_; assumption)) only [Z1, Z2, splice, g1])
    exact hQ _ (k1.trans k2 (by simp))
  by_cases b1 : i.op > 0
  · by_cases b2 : i.op < 13
    · have ia : iaddrA 13 1 (ptr gid_code_opNames 0) (i64 i.op) = some (ptr gid_code_opNames i.op.toNat) := by
        rw [iaddrA_ptr (by omega) (by omega)]; simp
      have hc : (opNamesU.map fun l => (.string (bya l) : V))[i.op.toNat]? = some (.string (bya (opN i.op))) := by
        rw [List.getElem?_map]
        have : opNamesU[i.op.toNat]? = some (opN i.op) := by
          unfold opN
          rw [if_pos (by omega), List.getD_eq_getElem?_getD, List.getElem?_eq_getElem (show i.op.toNat < opNamesU.length by show i.op.toNat < 13; omega)]
          rfl
        rw [this]; rfl
      (try simp (maxSteps := 1000000) (disch := first | omega | (simp only [Z3]; omega) | (simp; done) | assumption | decide | (refine not_not_intro ?_; assumption)) only [Z1, Z2, splice, i0, ho1, g1, decide_eq_true b1, decide_eq_true b2, ia])
      rw [hc0, wpO_some, hc, wpO_some]
      exact fin _ rfl
    · (try simp (maxSteps := 1000000) (disch := first | omega | (simp only [Z3]; omega) | (simp; done) | assumption | decide | (refine not_not_intro ?_; assumption)) only [Z1, Z2, splice, i0, ho1, g1, decide_eq_true b1, decide_eq_false b2])
      rw [hc0, wpO_some]
      exact fin _ (by unfold opN; rw [if_neg (by omega)])
  · (try simp (maxSteps := 1000000) (disch := first | omega | (simp only [Z3]; omega) | (simp; done) | assumption | decide | (refine not_not_intro ?_; assumption)) only [Z1, Z2, splice, i0, ho1, g1, decide_eq_false b1])
    rw [hc0, wpO_some]
    exact fin _ (by unfold opN; rw [if_neg (by omega)])
end Go.AM.Cap

/- code: the document's Show -/
set_option maxHeartbeats 8000000
namespace Go.AM.Cap
open Go.AM Go.Proofs

end Go.AM.Cap
