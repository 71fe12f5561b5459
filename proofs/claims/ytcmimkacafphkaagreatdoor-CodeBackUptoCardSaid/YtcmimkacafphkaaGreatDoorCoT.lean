import Derived.Test.YtcmimkacafphkaaGreatDoorWiC
import Derived.Test.YtcmimkacafphkaaGreatDoorAmOwnF
import Derived.Test.YtcmimkacafphkaaGreatDoorAmOpenF
import Derived.Test.YtcmimkacafphkaaGreatDoorWiAs
set_option linter.all false
/- wire: items, lists, their bytes; Encode -/
set_option maxHeartbeats 8000000
namespace Go.AM.Cap
open Go.AM Go.Proofs

/-- an item -/
structure It where
  t : Bool
  n : Int
  s : ByteArray
deriving DecidableEq
instance : Inhabited It := ⟨⟨false, 0, ⟨#[]⟩⟩⟩
instance : Flat It := ⟨3, fun x => [.bool x.t, i64 x.n, .string x.s], fun _ => rfl, fun _ => rfl, by decide⟩
theorem enc_it (x : It) : Flat.enc x = [.bool x.t, i64 x.n, .string x.s] := rfl
def mayI (x : It) : Bool := if x.t then decide (x.n = 0 ∧ x.s.size ≤ 65535) else decide (x.s = ⟨#[]⟩)
def be8 (n : Int) : List (BitVec 8) := (List.range 8).map fun j => ((BitVec.ofInt 64 n) >>> (56 - 8 * j)).setWidth 8
def w2 (n : Nat) : List (BitVec 8) := [BitVec.ofNat 8 (n / 256), BitVec.ofNat 8 n]
def oneI (x : It) : List (BitVec 8) := if x.t then 36 :: (w2 x.s.size ++ bv x.s) else 35 :: be8 x.n
def fullI (l : List It) : List (BitVec 8) := w2 l.length ++ l.flatMap oneI
def encI (l : List It) : ByteArray × Int :=
  if l.length > 1000 then (⟨#[]⟩, 2) else if l.any (fun x => !mayI x) then (⟨#[]⟩, 4) else if (fullI l).length > 65536 then (⟨#[]⟩, 2) else (sv (fullI l), 0)

theorem be8_length (n : Int) : (be8 n).length = 8 := by simp [be8]
theorem be8_at (n : Int) (j : Nat) (h : j < 8) : (be8 n).take (j + 1) = (be8 n).take j ++ [((BitVec.ofInt 64 n) >>> (56 - 8 * j)).setWidth 8] := by
  rw [List.take_succ, List.getElem?_eq_getElem (by rw [be8_length]; exact h)]
  simp [be8]
theorem i64_shr8 (n : Nat) : bin .shr (i64 n) (.int .u64 8) = some (i64 ((n / 256 : Nat) : Int)) := by
  show some (Value.int .i64 (Int.fdiv (n : Int) (2 ^ (min (Int.toNat 8) 64)))) = _
  rw [show ((2 : Int) ^ (min (Int.toNat 8) 64)) = 256 from rfl, Int.fdiv_eq_ediv_of_nonneg _ (by omega)]
  rfl
theorem i64_u8 (n : Nat) : cvi .u8 (i64 n) = some (B (BitVec.ofNat 8 n)) := by
  simp only [cvi, IntKind.wrap_u8]
  show some (Value.int .u8 _) = some (Value.int .u8 ((BitVec.ofNat 8 n).toNat : Int))
  rw [BitVec.toNat_ofNat]
  rfl
theorem w64_shr (x : BitVec 64) (n : Int) (h : 0 ≤ n) : bin .shr (W x) (i64 n) = some (W (x >>> n.toNat)) := by
  have h' := shr_key x.toNat n.toNat 64 x.isLt
  have h0 : ¬ (n < 0) := by omega
  simp only [bin, ishift, IntKind.bits, h0, if_false, h']
  rfl
theorem w64_u8 (x : BitVec 64) : cvi .u8 (W x) = some (B (x.setWidth 8)) := by
  simp only [cvi, IntKind.wrap_u8]
  show some (Value.int .u8 _) = some (Value.int .u8 ((x.setWidth 8).toNat : Int))
  rw [BitVec.toNat_setWidth]
  rfl
theorem B36 : Value.int .u8 36 = B 36 := rfl
theorem B35 : Value.int .u8 35 = B 35 := rfl

/-- the eight rounds of a number -/
theorem enc_num {H : Heap} {w x7 : V} {a b c d : V} {acc : List (BitVec 8)} {n : Int} (hw : OwnF H w acc) (hb : acc.length ≤ 200000) {xb : Nat} (hx : x7 = ptr xb 0) {t : Bool} {s : ByteArray} (hg : H.get xb = some (.cells true [.bool t, i64 n, .string s])) (hnot : xb ∉ vb w) (Q : Out → Heap → Prop)
    (hQ : ∀ w' H', OwnF H' w' (acc ++ be8 n) → Keeps (vb w) H H' → (∀ b ∈ vb w', b ∈ vb w ∨ H.next ≤ b) → Q (.brk 3 [w', a, b, c, d]) H') :
    wp (loopM FUEL wire_Encode_l2 [w, a, x7, i64 56, b, c, d]) Q H := by
  subst hx
  refine wp_loop (Inv := fun k vs H' => ∃ (j : Nat) (w' : V), k = 8 - j ∧ j ≤ 8 ∧ vs = [w', a, ptr xb 0, i64 (56 - 8 * (j : Int)), b, c, d] ∧ OwnF H' w' (acc ++ (be8 n).take j) ∧ Keeps (vb w) H H' ∧ (∀ b ∈ vb w', b ∈ vb w ∨ H.next ≤ b)) (n := 8) (by unfold FUEL; omega)
    ⟨0, w, by omega, by omega, by simp, by simpa using hw, Keeps.refl _ _, fun b hb => .inl hb⟩ ?_
  rintro k vs H1 ⟨j, w', hk, hj, rfl, ho, hk1, hv⟩
  by_cases hlt : j < 8
  case neg =>
    have : j = 8 := by omega
    subst this
    (try simp (maxSteps := 1000000) (disch := first | omega | (simp only [Z3]; omega) | (simp; done) | assumption | decide | (refine not_not_intro ?_; assumption)) only [Z1, Z2, splice, wire_Encode_l2])
    rw [List.take_of_length_le (by rw [be8_length]; omega)] at ho
    exact hQ _ _ ho hk1 hv
  have g1 : H1.get xb = some (.cells true [.bool t, i64 n, .string s]) := hk1.get hg hnot
  (try simp (maxSteps := 1000000) (disch := first | omega | (simp only [Z3]; omega) | (simp; done) | assumption | decide | (refine not_not_intro ?_; assumption)) only [Z1, Z2, splice, wire_Encode_l2, wire_Encode_k1, g1, i64_w64, w64_shr, w64_u8])
  refine ownF_apps (α := BitVec 8) (ys := [((BitVec.ofInt 64 n) >>> (56 - 8 * j)).setWidth 8]) rfl ho (by rfl) (by rw [show (56 - 8 * (j : Int)).toNat = 56 - 8 * j from by omega]; rfl) rfl ?_ ?_ fun w2 H2 o2 k2 v2 => ?_
  · simp [be8_length]; omega
  · simp [be8_length]; omega
  (try simp (maxSteps := 1000000) (disch := first | omega | (simp only [Z3]; omega) | (simp; done) | assumption | decide | (refine not_not_intro ?_; assumption)) only [Z1, Z2, splice, wire_Encode_k0])
  refine ⟨8 - (j + 1), by omega, j + 1, w2, rfl, by omega, ?_, ?_, ?_, ?_⟩
  · simp; omega
  · rw [be8_at n j hlt, ← List.append_assoc]; exact o2
  · exact hk1.trans k2 fun b hb hm => (hv b hm).resolve_right (by omega)
  · intro b hb
    rcases v2 b hb with q | q
    · exact hv b q
    · exact .inr (Nat.le_trans hk1.next q)
end Go.AM.Cap

/- code: numbers as items -/
set_option maxHeartbeats 8000000
namespace Go.AM.Cap
open Go.AM Go.Proofs

def numC (n : Int) : It := ⟨false, n, ⟨#[]⟩⟩
theorem numI_ok {H0 H : Heap} {L : List Thing} (st : Hp H0 H L) {v : V} {xs : List Int} (hx : Sl H v xs) (hl : xs.length ≤ 10000000) (Q : V → Heap → Prop) (hQ : ∀ w H', Hp H0 H' (own w (xs.map numC) :: L) → Keeps [] H H' → Q w H') : wp (A_code_numbers_int [v]) Q H := by
  show wp (F_code_numbers_int v) Q H
  have hlen := hx.len
  (try simp (maxSteps := 1000000) (disch := first | omega | (simp only [Z3]; omega) | (simp; done) | assumption | decide | (refine not_not_intro ?_; assumption)) only [Z1, Z2, splice, F_code_numbers_int, hlen])
  refine wp_loop (Inv := fun k vs H' => ∃ (j : Nat) (w : V), k = xs.length - j ∧ j ≤ xs.length ∧ vs = [w, v, i64 xs.length, i64 j] ∧ Hp H0 H' (own w ((xs.take j).map numC) :: L) ∧ Keeps [] H H' ∧ (∀ b ∈ vb w, H.next ≤ b)) (n := xs.length) (by unfold FUEL; omega)
    ⟨0, _, by omega, by omega, rfl, st.nilo, Keeps.refl _ _, by simp⟩ ?_
  rintro k vs H1 ⟨j, w, hk, hj, rfl, s1, k1, v1⟩
  by_cases hlt : j < xs.length
  case neg =>
    have : j = xs.length := by omega
    subst this
    rw [List.take_length] at s1
    (try simp (maxSteps := 1000000) (disch := first | omega | (simp only [Z3]; omega) | (simp; done) | assumption | decide | (refine not_not_intro ?_; assumption)) only [Z1, Z2, splice, code_numbers_int_l2, code_numbers_int_k3])
    exact hQ _ _ s1 k1
  have a1 := (hx.keep0 k1).addr1 rfl (k := .i64) (i := j) (by omega) (by omega)
  rw [Int.toNat_natCast] at a1
  have d1 := (hx.keep0 k1).cell1 rfl hlt 0
  have hst := take_succ_getD hlt 0
  generalize xs.getD j 0 = c at *
  (try simp (maxSteps := 1000000) (disch := first | omega | (simp only [Z3]; omega) | (simp; done) | assumption | decide | (refine not_not_intro ?_; assumption)) only [Z1, Z2, splice, code_numbers_int_l2, code_numbers_int_k1, a1, d1])
  refine (wp_bslc (by rfl) (cs := encs [numC c]) (by rfl)).mpr ?_
  have s2 := s1.newo (n := 3) (m := 1) [numC c] rfl rfl
  have k2 := Keeps.push [] H1 (some (.cells true (encs [numC c])))
  generalize H1.push (some (.cells true (encs [numC c]))) = H2 at *
  (try simp (maxSteps := 1000000) (disch := first | omega | (simp only [Z3]; omega) | (simp; done) | assumption | decide | (refine not_not_intro ?_; assumption)) only [Z1, Z2, splice])
  have hv2 := (s2.own (i := 1) rfl).lt
  refine ownF_appV rfl (s2.own (i := 1) rfl) (s2.own (i := 0) rfl).sl (by simp; omega) (by simp; omega) fun w3 H3 o3 k3 v3 => ?_
  have s3 := s2.step (i := 1) rfl (t' := own w3 ((xs.take j).map numC ++ [numC c])) k3 o3 v3
  (try simp (maxSteps := 1000000) (disch := first | omega | (simp only [Z3]; omega) | (simp; done) | assumption | decide | (refine not_not_intro ?_; assumption)) only [Z1, Z2, splice, code_numbers_int_k0])
  refine ⟨xs.length - (j + 1), by omega, j + 1, w3, rfl, by omega, by push_cast; rfl, ?_, (k1.trans k2 (by simp)).trans k3 fun b hb hm => by have := v1 b hm; omega, fun b hb => ?_⟩
  · rw [hst, List.map_append]
    exact s3.tail
  · rcases v3 b hb with q | q
    · exact v1 b q
    · have := (k1.trans k2 (by simp)).next; omega
theorem numL_ok {H0 H : Heap} {L : List Thing} (st : Hp H0 H L) {v : V} {xs : List Int} (hx : Sl H v xs) (hl : xs.length ≤ 10000000) (Q : V → Heap → Prop) (hQ : ∀ w H', Hp H0 H' (own w (xs.map numC) :: L) → Keeps [] H H' → Q w H') : wp (A_code_numbers_int64 [v]) Q H := by
  show wp (F_code_numbers_int64 v) Q H
  have hlen := hx.len
  (try simp (maxSteps := 1000000) (disch := first | omega | (simp only [Z3]; omega) | (simp; done) | assumption | decide | (refine not_not_intro ?_; assumption)) only [Z1, Z2, splice, F_code_numbers_int64, hlen])
  refine wp_loop (Inv := fun k vs H' => ∃ (j : Nat) (w : V), k = xs.length - j ∧ j ≤ xs.length ∧ vs = [w, v, i64 xs.length, i64 j] ∧ Hp H0 H' (own w ((xs.take j).map numC) :: L) ∧ Keeps [] H H' ∧ (∀ b ∈ vb w, H.next ≤ b)) (n := xs.length) (by unfold FUEL; omega)
    ⟨0, _, by omega, by omega, rfl, st.nilo, Keeps.refl _ _, by simp⟩ ?_
  rintro k vs H1 ⟨j, w, hk, hj, rfl, s1, k1, v1⟩
  by_cases hlt : j < xs.length
  case neg =>
    have : j = xs.length := by omega
    subst this
    rw [List.take_length] at s1
    (try simp (maxSteps := 1000000) (disch := first | omega | (simp only [Z3]; omega) | (simp; done) | assumption | decide | (refine not_not_intro ?_; assumption)) only [Z1, Z2, splice, code_numbers_int64_l2, code_numbers_int64_k3])
    exact hQ _ _ s1 k1
  have a1 := (hx.keep0 k1).addr1 rfl (k := .i64) (i := j) (by omega) (by omega)
  rw [Int.toNat_natCast] at a1
  have d1 := (hx.keep0 k1).cell1 rfl hlt 0
  have hst := take_succ_getD hlt 0
  generalize xs.getD j 0 = c at *
  (try simp (maxSteps := 1000000) (disch := first | omega | (simp only [Z3]; omega) | (simp; done) | assumption | decide | (refine not_not_intro ?_; assumption)) only [Z1, Z2, splice, code_numbers_int64_l2, code_numbers_int64_k1, a1, d1])
  refine (wp_bslc (by rfl) (cs := encs [numC c]) (by rfl)).mpr ?_
  have s2 := s1.newo (n := 3) (m := 1) [numC c] rfl rfl
  have k2 := Keeps.push [] H1 (some (.cells true (encs [numC c])))
  generalize H1.push (some (.cells true (encs [numC c]))) = H2 at *
  (try simp (maxSteps := 1000000) (disch := first | omega | (simp only [Z3]; omega) | (simp; done) | assumption | decide | (refine not_not_intro ?_; assumption)) only [Z1, Z2, splice])
  have hv2 := (s2.own (i := 1) rfl).lt
  refine ownF_appV rfl (s2.own (i := 1) rfl) (s2.own (i := 0) rfl).sl (by simp; omega) (by simp; omega) fun w3 H3 o3 k3 v3 => ?_
  have s3 := s2.step (i := 1) rfl (t' := own w3 ((xs.take j).map numC ++ [numC c])) k3 o3 v3
  (try simp (maxSteps := 1000000) (disch := first | omega | (simp only [Z3]; omega) | (simp; done) | assumption | decide | (refine not_not_intro ?_; assumption)) only [Z1, Z2, splice, code_numbers_int64_k0])
  refine ⟨xs.length - (j + 1), by omega, j + 1, w3, rfl, by omega, by push_cast; rfl, ?_, (k1.trans k2 (by simp)).trans k3 fun b hb hm => by have := v1 b hm; omega, fun b hb => ?_⟩
  · rw [hst, List.map_append]
    exact s3.tail
  · rcases v3 b hb with q | q
    · exact v1 b q
    · have := (k1.trans k2 (by simp)).next; omega
end Go.AM.Cap
