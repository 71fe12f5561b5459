/- Strings and their bytes. -/
import Derived.Test.YtfcjpopnibhagaaDoorAmStd
set_option linter.all false
namespace Go.AM

/-- a string's bytes -/
def bv (s : ByteArray) : List (BitVec 8) := s.data.toList.map UInt8.toBitVec
/-- bytes as a string -/
def sv (l : List (BitVec 8)) : ByteArray := ⟨(l.map UInt8.ofBitVec).toArray⟩
theorem bytesV_bv (s : ByteArray) : bytesV s = (bv s).map B := by
  simp only [bytesV, bv, List.map_map]; rfl
theorem bv_length (s : ByteArray) : (bv s).length = s.size := by simp only [bv, List.length_map, Array.length_toList]; rfl
theorem bv_sv (l : List (BitVec 8)) : bv (sv l) = l := by
  simp only [bv, sv, List.map_map]
  conv => rhs; rw [← List.map_id l]
  apply List.map_congr_left
  intro x _; rfl
theorem sv_bv (s : ByteArray) : sv (bv s) = s := by
  cases s with | mk d =>
  simp only [bv, sv, List.map_map]
  congr 1
  apply Array.toList_inj.mp
  simp only [List.toList_toArray]
  conv => rhs; rw [← List.map_id d.toList]
  apply List.map_congr_left
  intro x _; rfl
theorem bv_inj {s t : ByteArray} (h : bv s = bv t) : s = t := by rw [← sv_bv s, h, sv_bv]
theorem sv_inj {l m : List (BitVec 8)} (h : sv l = sv m) : l = m := by rw [← bv_sv l, h, bv_sv]
theorem sv_size (l : List (BitVec 8)) : (sv l).size = l.length := by rw [← bv_length, bv_sv]
theorem bv_append (s t : ByteArray) : bv (s ++ t) = bv s ++ bv t := by
  have h : (s ++ t).data = s.data ++ t.data := ByteArray.data_append
  simp only [bv, h, Array.toList_append, List.map_append]
theorem bv_extract (s : ByteArray) (a b : Nat) : bv (s.extract a b) = ((bv s).drop a).take (b - a) := by
  have h : (s.extract a b).data = s.data.extract a b := ByteArray.data_extract
  simp only [bv, h, Array.toList_extract, List.extract, List.map_take, List.map_drop]
theorem bv_empty : bv ⟨#[]⟩ = [] := rfl
theorem bv_nil {s : ByteArray} : bv s = [] ↔ s = ⟨#[]⟩ := ⟨fun h => bv_inj (h.trans bv_empty.symm), fun h => by rw [h]; rfl⟩
theorem size_append (s t : ByteArray) : (s ++ t).size = s.size + t.size := by rw [← bv_length, bv_append, List.length_append, bv_length, bv_length]
theorem size_extract (s : ByteArray) {a b : Nat} (h : b ≤ s.size) : (s.extract a b).size = b - a := by
  rw [← bv_length, bv_extract, List.length_take, List.length_drop, bv_length]; omega

theorem bytesOf_B : ∀ l : List (BitVec 8), bytesOf? (l.map B) = some (l.map UInt8.ofBitVec)
  | [] => rfl
  | x :: l => by
    simp only [List.map_cons, bytesOf?, bytesOf_B l, byteOf?]
    congr 2
    apply UInt8.toBitVec_inj.mp
    apply BitVec.eq_of_toNat_eq
    show (UInt8.ofNat (x.toNat : Int).toNat).toBitVec.toNat = x.toNat
    have := x.isLt
    simp

theorem own_s2b {H : Heap} {s : ByteArray} {Q : V → Heap → Prop} (hQ : ∀ v H', Own H' v ((bv s).map B) → Keeps [] H H' → (∀ x ∈ vb v, H.next ≤ x) → Q v H') : wp (s2b (.string s)) Q H := by
  refine wp_s2b.mpr ?_
  refine hQ _ _ (.inr ⟨H.next, by simp [bv_length], by rw [Heap.get_push_self, bytesV_bv]⟩) (Keeps.push _ _ _) (by simp)
theorem own_b2s {v : V} {l : List (BitVec 8)} {H : Heap} {Q : V → Heap → Prop} (hv : Own H v (l.map B)) (hQ : Q (.string (sv l)) H) : wp (b2s v) Q H := wp_b2s hv (bytesOf_B l) hQ

theorem idxS_bv {s : ByteArray} {k : IntKind} {i : Int} (h0 : 0 ≤ i) (h : i < s.size) : idxS (.string s) (.int k i) = some (B ((bv s).getD i.toNat 0)) := by
  have hi : i.toNat < s.size := by omega
  have hb : i.toNat < (bv s).length := by rw [bv_length]; exact hi
  have e : s[i.toNat]? = some s[i.toNat] := getElem?_pos s i.toNat hi
  have e2 : (bv s).getD i.toNat 0 = s[i.toNat].toBitVec := by
    rw [List.getD_eq_getElem?_getD, List.getElem?_eq_getElem hb]
    simp only [bv, List.getElem_map, Option.getD_some]
    rfl
  simp only [idxS, h0, if_true, e, e2]
  rfl

theorem subS_both {s : ByteArray} {k k' : IntKind} {a b : Int} (h1 : 0 ≤ a) (h2 : a ≤ b) (h3 : b ≤ s.size) : subS (.string s) (some (.int k a)) (some (.int k' b)) = some (.string (s.extract a.toNat b.toNat)) := by
  have e1 : bound s.size s.size (some (.int k' b)) = some b.toNat := by simp [bound]; omega
  have e2 : bound 0 b.toNat (some (.int k a)) = some a.toNat := by simp [bound]; omega
  simp [subS, e1, e2]
theorem subS_lo {s : ByteArray} {k : IntKind} {a : Int} (h1 : 0 ≤ a) (h3 : a ≤ s.size) : subS (.string s) (some (.int k a)) none = some (.string (s.extract a.toNat s.size)) := by
  have e2 : bound 0 s.size (some (.int k a)) = some a.toNat := by simp [bound]; omega
  simp [subS, e2]
  simp [bound]
  simp [bound] at e2
  simp [e2]
theorem subS_hi {s : ByteArray} {k' : IntKind} {b : Int} (h2 : 0 ≤ b) (h3 : b ≤ s.size) : subS (.string s) none (some (.int k' b)) = some (.string (s.extract 0 b.toNat)) := by
  have e1 : bound s.size s.size (some (.int k' b)) = some b.toNat := by simp [bound]; omega
  have e2 : bound 0 b.toNat none = some 0 := rfl
  simp only [subS, e1, e2]

/-! whole numbers of other kinds -/
theorem u8_in {n : Int} (h0 : 0 ≤ n) (h1 : n ≤ 255) : IntKind.u8.wrap n = n := by rw [IntKind.wrap_u8]; omega
theorem u64_in {n : Int} (h0 : 0 ≤ n) (h1 : n ≤ 18446744073709551615) : IntKind.u64.wrap n = n := by rw [IntKind.wrap_u64]; omega
theorem u32_in {n : Int} (h0 : 0 ≤ n) (h1 : n ≤ 4294967295) : IntKind.u32.wrap n = n := by rw [IntKind.wrap_u32]; omega
theorem i32_in {n : Int} (h0 : -2147483648 ≤ n) (h1 : n ≤ 2147483647) : IntKind.i32.wrap n = n := IntWalk.i32_in n ⟨h0, h1⟩
theorem int_rem {k : IntKind} {x y : Int} (h : y ≠ 0) : bin .rem (.int k x) (.int k y) = some (.int k (x.tmod y)) := by simp [bin, ibin, h]
theorem int_quo {k : IntKind} {x y : Int} (h : y ≠ 0) : bin .quo (.int k x) (.int k y) = some (.int k (k.wrap (x.tdiv y))) := by simp [bin, ibin, h]
theorem int_remn {k : IntKind} {x y : Int} (h0 : 0 ≤ x) (h : 0 < y) : bin .rem (.int k x) (.int k y) = some (.int k (x % y)) := by
  rw [int_rem (by omega), Int.tmod_eq_emod_of_nonneg h0]
theorem int_quon {k : IntKind} {x y : Int} (h0 : 0 ≤ x) (h : 0 < y) : bin .quo (.int k x) (.int k y) = some (.int k (k.wrap (x / y))) := by
  rw [int_quo (by omega), Int.tdiv_eq_ediv_of_nonneg h0]
theorem cvi_int (k k' : IntKind) (n : Int) : cvi k (.int k' n) = some (.int k (k.wrap n)) := rfl
theorem b_lt (x : BitVec 8) : x.toNat < 256 := x.isLt
theorem u8_xor (x y : BitVec 8) : bin .xor (B x) (B y) = some (B (x ^^^ y)) := by
  simp [bin, ibin, ibits, wrapB, ofInt_nat, IntKind.bits]; rfl
theorem u8_or (x y : BitVec 8) : bin .or (B x) (B y) = some (B (x ||| y)) := by
  simp [bin, ibin, ibits, wrapB, ofInt_nat, IntKind.bits]; rfl
theorem u8_and (x y : BitVec 8) : bin .and (B x) (B y) = some (B (x &&& y)) := by
  simp [bin, ibin, ibits, wrapB, ofInt_nat, IntKind.bits]; rfl
theorem u8_shr {x : BitVec 8} {k : IntKind} {n : Int} (h : 0 ≤ n) : bin .shr (B x) (.int k n) = some (B (x >>> n.toNat)) := by
  have h' := shr_key x.toNat n.toNat 8 x.isLt
  have h0 : ¬ (n < 0) := by omega
  simp only [bin, ishift, IntKind.bits, h0, if_false, h']
  rfl
theorem B_lit (n : Nat) (h : n < 256) : Value.int .u8 (n : Int) = B (BitVec.ofNat 8 n) := by
  show Value.int .u8 _ = Value.int .u8 _
  congr 1
  simp [BitVec.toNat_ofNat]; omega

/-- bytes in hexadecimal digits -/
def hexd (n : Nat) : BitVec 8 := if n < 10 then BitVec.ofNat 8 (48 + n) else BitVec.ofNat 8 (87 + n)
def hexl (l : List (BitVec 8)) : List (BitVec 8) := l.flatMap fun b => [hexd (b.toNat / 16), hexd (b.toNat % 16)]
theorem hexl_length (l : List (BitVec 8)) : (hexl l).length = 2 * l.length := by
  induction l with
  | nil => rfl
  | cons b l ih => simp only [hexl, List.flatMap_cons, List.length_append, List.length_cons, List.length_nil] at ih ⊢; omega
theorem idx_digits {k : IntKind} {n : Nat} (h : n < 16) : idxS (.string ⟨#[48, 49, 50, 51, 52, 53, 54, 55, 56, 57, 97, 98, 99, 100, 101, 102]⟩) (.int k (n : Int)) = some (B (hexd n)) := by
  have : n = 0 ∨ n = 1 ∨ n = 2 ∨ n = 3 ∨ n = 4 ∨ n = 5 ∨ n = 6 ∨ n = 7 ∨ n = 8 ∨ n = 9 ∨ n = 10 ∨ n = 11 ∨ n = 12 ∨ n = 13 ∨ n = 14 ∨ n = 15 := by omega
  rcases this with h | h | h | h | h | h | h | h | h | h | h | h | h | h | h | h <;> subst h <;> rfl
end Go.AM
