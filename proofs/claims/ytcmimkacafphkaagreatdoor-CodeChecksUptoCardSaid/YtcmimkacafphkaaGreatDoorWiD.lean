import Derived.Test.YtcmimkacafphkaaGreatDoorCoQ
import Derived.Test.YtcmimkacafphkaaGreatDoorAmOpenF
import Derived.Test.YtcmimkacafphkaaGreatDoorProg
import Derived.WalkKit
import Derived.LaidEql
import Derived.Stop.Asserts
import Derived.RowKitTokens
import Derived.Test.YtcmimkacafphkaaGreatDoorFun2
import Derived.Test.YtcmimkacafphkaaGreatDoorAmOwnF
set_option linter.all false
/- code: what is put behind; CodeOwn on the machine -/
set_option maxHeartbeats 16000000
namespace Go.AM.Cap
open Go.AM Go.Proofs

theorem check_zero {p : PIm} : (checkS p).2 = 0 ↔ SoundP p ∧ ∀ i ∈ p.code, mayB p.types p.code.length i = true := by
  unfold checkS
  by_cases hs : SoundP p
  · rw [if_pos hs]
    cases hi : idxP (fun i => !mayB p.types p.code.length i) p.code with
    | none =>
      rw [idxP_none] at hi
      simp only [true_iff]
      exact ⟨hs, fun i hm => by have := hi i hm; simpa using this⟩
    | some j =>
      obtain ⟨h1, h2, _⟩ := idxP_spec (d := default) hi
      refine ⟨fun q => absurd q (by show ¬ ((130 : Int) = 0); decide), fun q => ?_⟩
      have := q.2 _ (getD_mem' (d := default) h1)
      rw [this] at h2
      cases h2
  · rw [if_neg hs]
    exact ⟨fun q => absurd q (by show ¬ ((130 : Int) = 0); decide), fun q => absurd q.1 hs⟩
theorem check_code (p : PIm) : (checkS p).2 = 0 ∨ (checkS p).2 = 130 := by
  unfold checkS
  split
  · split
    · exact .inr rfl
    · exact .inl rfl
  · exact .inr rfl
end Go.AM.Cap

/- code: CodeOwn on the machine -/
set_option maxHeartbeats 16000000
namespace Go.AM.Cap
open Go.AM Go.Proofs

end Go.AM.Cap

/- wire: errors.As at a target of type *broken: what it does. -/
set_option maxHeartbeats 8000000
namespace Go.Proofs.YtcmimkacafphkaaGreatDoor.AsWalk
open Go.RowKit Go.Extern.Stop Go.Stop Go.Extern Go.Proofs

end Go.Proofs.YtcmimkacafphkaaGreatDoor.AsWalk

/- wire: errors.As on the abstract machine; fault -/
set_option maxHeartbeats 8000000
namespace Go.AM.Cap
open Go.AM Go.Proofs Go.Proofs.YtcmimkacafphkaaGreatDoor

/-- the cell of errors.errorType -/
def TOK : Nat := 189 * 1099511627776 + 8 * 1048576 + 92
end Go.AM.Cap

/- wire: numbers, unsigned, bad, fault -/
set_option maxHeartbeats 8000000
namespace Go.AM.Cap
open Go.AM Go.Proofs

theorem i64_w64 (n : Int) : cvi .u64 (i64 n) = some (W (BitVec.ofInt 64 n)) := by
  simp only [cvi, wrapW]
/-- the variable errors.errorType as it must be -/
def Tok (H : Heap) : Prop := H.cell 2 0 = some (.chan (some TOK))
theorem Tok.keep {S : List Nat} {H H' : Heap} (h : Tok H) (hk : Keeps S H H') (hs : 2 ∉ S) : Tok H' := by
  unfold Tok Heap.cell at *
  have : H.get 2 ≠ none := fun e => by rw [e] at h; cases h
  have hlt : 2 < H.next := by
    cases hg : H.get 2 with
    | none => exact absurd hg this
    | some x => exact Heap.get_lt hg
  rw [hk.same 2 hlt hs]; exact h
theorem Tok.keep0 {H H' : Heap} (h : Tok H) (hk : Keeps [] H H') : Tok H' := h.keep hk (by simp)
theorem Tok.lt {H : Heap} (h : Tok H) : 2 < H.next := by
  unfold Tok Heap.cell at h
  cases hg : H.get 2 with
  | none => rw [hg] at h; cases h
  | some x => exact Heap.get_lt hg
end Go.AM.Cap

/- wire: items, lists, their bytes; Encode -/
set_option maxHeartbeats 8000000
namespace Go.AM.Cap
open Go.AM Go.Proofs

/-- an item -/
structure It where
  t : Bool
  n : Int
  s : ByteArray
deriving DecidableEq
instance : Inhabited It := ⟨⟨false, 0, ⟨#[]⟩⟩⟩
instance : Flat It := ⟨3, fun x => [.bool x.t, i64 x.n, .string x.s], fun _ => rfl, fun _ => rfl, by decide⟩
theorem enc_it (x : It) : Flat.enc x = [.bool x.t, i64 x.n, .string x.s] := rfl
def mayI (x : It) : Bool := if x.t then decide (x.n = 0 ∧ x.s.size ≤ 65535) else decide (x.s = ⟨#[]⟩)
def be8 (n : Int) : List (BitVec 8) := (List.range 8).map fun j => ((BitVec.ofInt 64 n) >>> (56 - 8 * j)).setWidth 8
def w2 (n : Nat) : List (BitVec 8) := [BitVec.ofNat 8 (n / 256), BitVec.ofNat 8 n]
def oneI (x : It) : List (BitVec 8) := if x.t then 36 :: (w2 x.s.size ++ bv x.s) else 35 :: be8 x.n
def fullI (l : List It) : List (BitVec 8) := w2 l.length ++ l.flatMap oneI
def encI (l : List It) : ByteArray × Int :=
  if l.length > 1000 then (⟨#[]⟩, 2) else if l.any (fun x => !mayI x) then (⟨#[]⟩, 4) else if (fullI l).length > 65536 then (⟨#[]⟩, 2) else (sv (fullI l), 0)

theorem be8_length (n : Int) : (be8 n).length = 8 := by simp [be8]
theorem be8_at (n : Int) (j : Nat) (h : j < 8) : (be8 n).take (j + 1) = (be8 n).take j ++ [((BitVec.ofInt 64 n) >>> (56 - 8 * j)).setWidth 8] := by
  rw [List.take_succ, List.getElem?_eq_getElem (by rw [be8_length]; exact h)]
  simp [be8]
theorem i64_shr8 (n : Nat) : bin .shr (i64 n) (.int .u64 8) = some (i64 ((n / 256 : Nat) : Int)) := by
  show some (Value.int .i64 (Int.fdiv (n : Int) (2 ^ (min (Int.toNat 8) 64)))) = _
  rw [show ((2 : Int) ^ (min (Int.toNat 8) 64)) = 256 from rfl, Int.fdiv_eq_ediv_of_nonneg _ (by omega)]
  rfl
theorem i64_u8 (n : Nat) : cvi .u8 (i64 n) = some (B (BitVec.ofNat 8 n)) := by
  simp only [cvi, IntKind.wrap_u8]
  show some (Value.int .u8 _) = some (Value.int .u8 ((BitVec.ofNat 8 n).toNat : Int))
  rw [BitVec.toNat_ofNat]
  rfl
theorem w64_shr (x : BitVec 64) (n : Int) (h : 0 ≤ n) : bin .shr (W x) (i64 n) = some (W (x >>> n.toNat)) := by
  have h' := shr_key x.toNat n.toNat 64 x.isLt
  have h0 : ¬ (n < 0) := by omega
  simp only [bin, ishift, IntKind.bits, h0, if_false, h']
  rfl
theorem w64_u8 (x : BitVec 64) : cvi .u8 (W x) = some (B (x.setWidth 8)) := by
  simp only [cvi, IntKind.wrap_u8]
  show some (Value.int .u8 _) = some (Value.int .u8 ((x.setWidth 8).toNat : Int))
  rw [BitVec.toNat_setWidth]
  rfl
/-- the eight rounds of a number -/
theorem enc_num {H : Heap} {w x7 : V} {a b c d : V} {acc : List (BitVec 8)} {n : Int} (hw : OwnF H w acc) (hb : acc.length ≤ 200000) {xb : Nat} (hx : x7 = ptr xb 0) {t : Bool} {s : ByteArray} (hg : H.get xb = some (.cells true [.bool t, i64 n, .string s])) (hnot : xb ∉ vb w) (Q : Out → Heap → Prop)
    (hQ : ∀ w' H', OwnF H' w' (acc ++ be8 n) → Keeps (vb w) H H' → (∀ b ∈ vb w', b ∈ vb w ∨ H.next ≤ b) → Q (.brk 3 [w', a, b, c, d]) H') :
    wp (loopM FUEL wire_Encode_l2 [w, a, x7, i64 56, b, c, d]) Q H := by
  subst hx
  refine wp_loop (Inv := fun k vs H' => ∃ (j : Nat) (w' : V), k = 8 - j ∧ j ≤ 8 ∧ vs = [w', a, ptr xb 0, i64 (56 - 8 * (j : Int)), b, c, d] ∧ OwnF H' w' (acc ++ (be8 n).take j) ∧ Keeps (vb w) H H' ∧ (∀ b ∈ vb w', b ∈ vb w ∨ H.next ≤ b)) (n := 8) (by unfold FUEL; omega)
    ⟨0, w, by omega, by omega, by simp, by simpa using hw, Keeps.refl _ _, fun b hb => .inl hb⟩ ?_
  rintro k vs H1 ⟨j, w', hk, hj, rfl, ho, hk1, hv⟩
  by_cases hlt : j < 8
  case neg =>
    have : j = 8 := by omega
    subst this
    (try simp (maxSteps := 1000000) (disch := first | omega | (simp only [Z3]; omega) | (simp; done) | assumption | decide | (refine not_not_intro ?_; assumption)) only [Z1, Z2, splice, wire_Encode_l2])
    rw [List.take_of_length_le (by rw [be8_length]; omega)] at ho
    exact hQ _ _ ho hk1 hv
  have g1 : H1.get xb = some (.cells true [.bool t, i64 n, .string s]) := hk1.get hg hnot
  (try simp (maxSteps := 1000000) (disch := first | omega | (simp only [Z3]; omega) | (simp; done) | assumption | decide | (refine not_not_intro ?_; assumption)) only [Z1, Z2, splice, wire_Encode_l2, wire_Encode_k1, g1, i64_w64, w64_shr, w64_u8])
  refine ownF_apps (α := BitVec 8) (ys := [((BitVec.ofInt 64 n) >>> (56 - 8 * j)).setWidth 8]) rfl ho (by rfl) (by rw [show (56 - 8 * (j : Int)).toNat = 56 - 8 * j from by omega]; rfl) rfl ?_ ?_ fun w2 H2 o2 k2 v2 => ?_
  · simp [be8_length]; omega
  · simp [be8_length]; omega
  (try simp (maxSteps := 1000000) (disch := first | omega | (simp only [Z3]; omega) | (simp; done) | assumption | decide | (refine not_not_intro ?_; assumption)) only [Z1, Z2, splice, wire_Encode_k0])
  refine ⟨8 - (j + 1), by omega, j + 1, w2, rfl, by omega, ?_, ?_, ?_, ?_⟩
  · simp; omega
  · rw [be8_at n j hlt, ← List.append_assoc]; exact o2
  · exact hk1.trans k2 fun b hb hm => (hv b hm).resolve_right (by omega)
  · intro b hb
    rcases v2 b hb with q | q
    · exact hv b q
    · exact .inr (Nat.le_trans hk1.next q)
end Go.AM.Cap
