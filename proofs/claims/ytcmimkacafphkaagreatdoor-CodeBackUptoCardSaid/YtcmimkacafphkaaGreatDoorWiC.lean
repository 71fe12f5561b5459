import Derived.Test.YtcmimkacafphkaaGreatDoorWiB
import Derived.Test.YtcmimkacafphkaaGreatDoorAmOwnF
import Derived.Test.YtcmimkacafphkaaGreatDoorAmOpenF
set_option linter.all false
/- wire: numbers, unsigned, bad, fault -/
set_option maxHeartbeats 8000000
namespace Go.AM.Cap
open Go.AM Go.Proofs

theorem w64_shl' (x : BitVec 64) (k : IntKind) (n : Nat) : bin .shl (W x) (.int k n) = some (W (x <<< n)) := by
  have h := shl_key x.toNat n 64
  have h0 : ¬ ((n : Int) < 0) := by omega
  simp only [bin, ishift, IntKind.bits, h0, if_false, wrapW, Int.toNat_natCast, h]
  show some (Value.int .u64 _) = some (Value.int .u64 ((x <<< n).toNat : Int))
  rw [BitVec.toNat_shiftLeft]
theorem w64_shl8 (x : BitVec 64) : bin .shl (W x) (.int .u64 8) = some (W (x <<< 8)) := w64_shl' x .u64 8
theorem w64_or (x y : BitVec 64) : bin .or (W x) (W y) = some (W (x ||| y)) := by
  simp [bin, ibin, ibits, wrapW, ofInt_nat, IntKind.bits]; rfl
theorem b_w64 (x : BitVec 8) : cvi .u64 (B x) = some (W (x.setWidth 64)) := by
  simp [cvi, wrapW, ofInt_nat]
theorem nat_toInt (n : Nat) (h : n < 18446744073709551616) : IntKind.i64.wrap (n : Int) = if 2 * n < 18446744073709551616 then (n : Int) else (n : Int) - 18446744073709551616 := by
  rw [IntKind.wrap_i64]
  split <;> omega
theorem w64_i64 (x : BitVec 64) : cvi .i64 (W x) = some (i64 x.toInt) := by
  have h : IntKind.i64.wrap ((x.toNat : Nat) : Int) = x.toInt := by
    rw [nat_toInt _ x.isLt]
    rfl
  show some (Value.int .i64 (IntKind.i64.wrap ((x.toNat : Nat) : Int))) = _
  rw [h]
theorem i64_w64 (n : Int) : cvi .u64 (i64 n) = some (W (BitVec.ofInt 64 n)) := by
  simp only [cvi, wrapW]
/-- bytes as a number, the highest first -/
def val8 (l : List (BitVec 8)) : BitVec 64 := l.foldl (fun n b => n <<< 8 ||| b.setWidth 64) 0

theorem unsigned_eq (s : ByteArray) (hs : s.size ≤ 1000000) : A_wire_unsigned [.string s] = ret (W (val8 (bv s))) := eq_ret fun H => by
  show wp (F_wire_unsigned (.string s)) _ H
  (try simp (maxSteps := 1000000) (disch := first | omega | (simp only [Z3]; omega) | (simp; done) | assumption | decide | (refine not_not_intro ?_; assumption)) only [Z1, Z2, splice, F_wire_unsigned])
  refine wp_loop (Inv := fun k vs H' => ∃ i : Nat, k = s.size - i ∧ i ≤ s.size ∧ vs = [.string s, W (val8 ((bv s).take i)), i64 s.size, i64 i] ∧ H' = H) (n := s.size) (by unfold FUEL; omega)
    ⟨0, by omega, by omega, rfl, rfl⟩ ?_
  rintro k vs H' ⟨i, hk, hi, rfl, he⟩
  rw [he]; clear he H'
  have hb := bv_length s
  by_cases hlt : i < s.size
  · have ix := idxS_bv (s := s) (k := .i64) (i := i) (by omega) (by omega)
    rw [Int.toNat_natCast] at ix
    (try simp (maxSteps := 1000000) (disch := first | omega | (simp only [Z3]; omega) | (simp; done) | assumption | decide | (refine not_not_intro ?_; assumption)) only [Z1, Z2, splice, wire_unsigned_l2, wire_unsigned_k1, w64_shl8, ix, b_w64, w64_or, wire_unsigned_k0])
    refine ⟨s.size - (i + 1), by omega, i + 1, rfl, by omega, ?_⟩
    have e : val8 ((bv s).take (i + 1)) = val8 ((bv s).take i) <<< 8 ||| ((bv s).getD i 0).setWidth 64 := by
      unfold val8
      rw [List.take_succ, List.getElem?_eq_getElem (by omega), List.getD_eq_getElem?_getD, List.getElem?_eq_getElem (by omega), List.foldl_append]
      rfl
    rw [e]
    exact ⟨by push_cast; rfl, trivial⟩
  · have : i = s.size := by omega
    subst this
    rw [← hb, List.take_length]
    (try simp (maxSteps := 1000000) (disch := first | omega | (simp only [Z3]; omega) | (simp; done) | assumption | decide | (refine not_not_intro ?_; assumption)) only [Z1, Z2, splice, wire_unsigned_l2, wire_unsigned_k3])

/-- an error: none, or a place and a code -/
def errV : Option (Int × Int) → V
  | none => .nilIface
  | some (a, c) => .iface 147 (.agg [i64 a, i64 c].toArray)
theorem bad_eq (a c : Int) : A_wire_bad [i64 a, i64 c] = ret (errV (some (a, c))) := eq_ret fun H => by
  show wp (F_wire_bad (i64 a) (i64 c)) _ H
  (try simp (maxSteps := 1000000) (disch := first | omega | (simp only [Z3]; omega) | (simp; done) | assumption | decide | (refine not_not_intro ?_; assumption)) only [Z1, Z2, splice, F_wire_bad])
  exact ⟨rfl, trivial⟩
/-- the variable errors.errorType as it must be -/
def Tok (H : Heap) : Prop := H.cell 2 0 = some (.chan (some TOK))
theorem Tok.keep {S : List Nat} {H H' : Heap} (h : Tok H) (hk : Keeps S H H') (hs : 2 ∉ S) : Tok H' := by
  unfold Tok Heap.cell at *
  have : H.get 2 ≠ none := fun e => by rw [e] at h; cases h
  have hlt : 2 < H.next := by
    cases hg : H.get 2 with
    | none => exact absurd hg this
    | some x => exact Heap.get_lt hg
  rw [hk.same 2 hlt hs]; exact h
theorem Tok.keep0 {H H' : Heap} (h : Tok H) (hk : Keeps [] H H') : Tok H' := h.keep hk (by simp)
theorem Tok.lt {H : Heap} (h : Tok H) : 2 < H.next := by
  unfold Tok Heap.cell at h
  cases hg : H.get 2 with
  | none => rw [hg] at h; cases h
  | some x => exact Heap.get_lt hg
def faultOf : Option (Int × Int) → Int × Int
  | none => (0, 0)
  | some x => x
theorem fault_ok {H : Heap} (hT : Tok H) (e : Option (Int × Int)) (Q : V → Heap → Prop) (hQ : ∀ H', Keeps [] H H' → Q (.agg [i64 (faultOf e).1, i64 (faultOf e).2].toArray) H') : wp (A_wire_fault asF [errV e]) Q H := by
  show wp (F_wire_fault asF (errV e)) Q H
  (try simp (maxSteps := 1000000) (disch := first | omega | (simp only [Z3]; omega) | (simp; done) | assumption | decide | (refine not_not_intro ?_; assumption)) only [Z1, Z2, splice, F_wire_fault])
  have k1 : Keeps [] H ((H.push (some (.cells true [i64 0, i64 0]))).push (some (.cells true [i64 0, i64 0]))) := keeps_push (Keeps.push _ _ _)
  have g1 : ((H.push (some (.cells true [i64 0, i64 0]))).push (some (.cells true [i64 0, i64 0]))).get H.next = some (.cells true [i64 0, i64 0]) := by
    rw [Heap.get_push_lt (by simp)]; exact Heap.get_push_self _ _
  have g2 : ((H.push (some (.cells true [i64 0, i64 0]))).push (some (.cells true [i64 0, i64 0]))).get (H.next + 1) = some (.cells true [i64 0, i64 0]) := Heap.get_push_eq (by simp)
  have hT1 := hT.keep0 k1
  have n1 : ((H.push (some (.cells true [i64 0, i64 0]))).push (some (.cells true [i64 0, i64 0]))).next = H.next + 2 := by simp
  generalize ((H.push (some (.cells true [i64 0, i64 0]))).push (some (.cells true [i64 0, i64 0]))) = H1 at *
  cases e with
  | none =>
    refine ⟨.bool false, H1, rfl, ?_⟩
    (try simp (maxSteps := 1000000) (disch := first | omega | (simp only [Z3]; omega) | (simp; done) | assumption | decide | (refine not_not_intro ?_; assumption)) only [Z1, Z2, splice, wire_fault_k0, g1])
    exact hQ _ (keeps_set k1 (.inr (Nat.le_refl _)))
  | some x =>
    obtain ⟨a, c⟩ := x
    have hcall : asF [errV (some (a, c)), .iface tid_p_wire_broken (ptr (H.next + 1) 0)] H1 = some (.bool true, H1.set (H.next + 1) (some (.cells true [i64 a, i64 c]))) := by
      have hcond : (147 = 147 ∧ tid_p_wire_broken = 149 ∧ H1.cell 2 0 = some (.chan (some TOK)) ∧ ∃ a' b' : Int, ([i64 a, i64 c].toArray : Array V) = #[i64 a', i64 b']) := ⟨rfl, rfl, hT1, a, c, rfl⟩
      show asF [.iface 147 (.agg [i64 a, i64 c].toArray), .iface tid_p_wire_broken (ptr (H.next + 1) 0)] H1 = _
      unfold asF
      dsimp only
      rw [if_pos hcond]
      have hs : stn 2 (ptr (H.next + 1) 0) (.agg [i64 a, i64 c].toArray) H1 = some (undef, H1.set (H.next + 1) (some (.cells true [i64 a, i64 c]))) := by
        simp only [stn, g2]
        rw [if_pos (by rfl)]
        rfl
      simp only [bnd, hs]; rfl
    refine ⟨_, _, hcall, ?_⟩
    have g1' : (H1.set (H.next + 1) (some (.cells true [i64 a, i64 c]))).get H.next = some (.cells true [i64 0, i64 0]) := by rw [Heap.get_set_ne _ _ _ (by omega)]; exact g1
    have g2' : (H1.set (H.next + 1) (some (.cells true [i64 a, i64 c]))).get (H.next + 1) = some (.cells true [i64 a, i64 c]) := Heap.get_set_self (by omega)
    have n2 : (H1.set (H.next + 1) (some (.cells true [i64 a, i64 c]))).next = H.next + 2 := by simp; exact n1
    have k2 : Keeps [] H (H1.set (H.next + 1) (some (.cells true [i64 a, i64 c]))) := keeps_set k1 (.inr (by omega))
    generalize H1.set (H.next + 1) (some (.cells true [i64 a, i64 c])) = H2 at *
    (try simp (maxSteps := 1000000) (disch := first | omega | (simp only [Z3]; omega) | (simp; done) | assumption | decide | (refine not_not_intro ?_; assumption)) only [Z1, Z2, splice, g1', g2'])
    exact hQ _ (keeps_set k2 (.inr (Nat.le_refl _)))
end Go.AM.Cap
