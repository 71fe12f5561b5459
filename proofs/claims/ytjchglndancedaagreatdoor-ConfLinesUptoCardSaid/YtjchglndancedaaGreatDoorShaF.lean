import Derived.Test.YtjchglndancedaaGreatDoorFun2
import Derived.Test.YtjchglndancedaaGreatDoorAmIn
set_option linter.all false
/- sha: ShaA -/
namespace Go.AM.Cap
open Go.AM Go.Proofs
def rotr (x : BitVec 32) (n : Nat) : BitVec 32 := x >>> n ||| x <<< (32 - n)
def zbxe (b : List (BitVec 8)) (t : Nat) : BitVec 32 :=
  (b.getD (4 * t) 0).setWidth 32 <<< 24 ||| (b.getD (4 * t + 1) 0).setWidth 32 <<< 16 ||| (b.getD (4 * t + 2) 0).setWidth 32 <<< 8 ||| (b.getD (4 * t + 3) 0).setWidth 32
def zbxf (w : List (BitVec 32)) (t : Nat) : BitVec 32 :=
  let x := w.getD (t - 15) 0
  let y := w.getD (t - 2) 0
  w.getD (t - 16) 0 + (rotr x 7 ^^^ rotr x 18 ^^^ x >>> 3) + w.getD (t - 7) 0 + (rotr y 17 ^^^ rotr y 19 ^^^ y >>> 10)
def words (b : List (BitVec 8)) : Nat → List (BitVec 32)
  | 0 => []
  | t + 1 => words b t ++ [if t < 16 then zbxe b t else zbxf (words b t) t]
def tab : List (BitVec 32) := [0x428a2f98, 0x71374491, 0xb5c0fbcf, 0xe9b5dba5, 0x3956c25b, 0x59f111f1, 0x923f82a4, 0xab1c5ed5,
  0xd807aa98, 0x12835b01, 0x243185be, 0x550c7dc3, 0x72be5d74, 0x80deb1fe, 0x9bdc06a7, 0xc19bf174,
  0xe49b69c1, 0xefbe4786, 0x0fc19dc6, 0x240ca1cc, 0x2de92c6f, 0x4a7484aa, 0x5cb0a9dc, 0x76f988da,
  0x983e5152, 0xa831c66d, 0xb00327c8, 0xbf597fc7, 0xc6e00bf3, 0xd5a79147, 0x06ca6351, 0x14292967,
  0x27b70a85, 0x2e1b2138, 0x4d2c6dfc, 0x53380d13, 0x650a7354, 0x766a0abb, 0x81c2c92e, 0x92722c85,
  0xa2bfe8a1, 0xa81a664b, 0xc24b8b70, 0xc76c51a3, 0xd192e819, 0xd6990624, 0xf40e3585, 0x106aa070,
  0x19a4c116, 0x1e376c08, 0x2748774c, 0x34b0bcb5, 0x391c0cb3, 0x4ed8aa4a, 0x5b9cca4f, 0x682e6ff3,
  0x748f82ee, 0x78a5636f, 0x84c87814, 0x8cc70208, 0x90befffa, 0xa4506ceb, 0xbef9a3f7, 0xc67178f2]
structure St where
  (a b c d e f g h : BitVec 32)
def St.l (s : St) : List (BitVec 32) := [s.a, s.b, s.c, s.d, s.e, s.f, s.g, s.h]
def St.t1 (s : St) (k w : BitVec 32) : BitVec 32 := s.h + (rotr s.e 6 ^^^ rotr s.e 11 ^^^ rotr s.e 25) + (s.e &&& s.f ^^^ ~~~s.e &&& s.g) + k + w
def St.t2 (s : St) : BitVec 32 := (rotr s.a 2 ^^^ rotr s.a 13 ^^^ rotr s.a 22) + (s.a &&& s.b ^^^ s.a &&& s.c ^^^ s.b &&& s.c)
def St.round (s : St) (k w : BitVec 32) : St := ⟨s.t1 k w + s.t2, s.a, s.b, s.c, s.d + s.t1 k w, s.e, s.f, s.g⟩
def St.rounds (w : List (BitVec 32)) (s : St) : Nat → St
  | 0 => s
  | t + 1 => (s.rounds w t).round (tab.getD t 0) (w.getD t 0)
def St.add (s v : St) : St := ⟨s.a + v.a, s.b + v.b, s.c + v.c, s.d + v.d, s.e + v.e, s.f + v.f, s.g + v.g, s.h + v.h⟩
def St.take (s : St) (b : List (BitVec 8)) : St := s.add (s.rounds (words b 64) 64)
def St.cells (s : St) : List V := [U s.a, U s.b, U s.c, U s.d, U s.e, U s.f, U s.g, U s.h]
def St.part (s v : St) (t : Nat) : List V := (s.add v).cells.take t ++ s.cells.drop t
end Go.AM.Cap

/- sha: ShaB -/
namespace Go.AM.Cap
open Go.AM Go.Proofs
end Go.AM.Cap

/- sha: ShaC -/
namespace Go.AM.Cap
open Go.AM Go.Proofs
def zbxg (n : Nat) : Nat := (119 - n % 64) % 64
def be (w : BitVec 64) (j : Nat) : List (BitVec 8) := (List.range j).map fun t => (w >>> (8 * (7 - t))).setWidth 8
def pad (l : List (BitVec 8)) : List (BitVec 8) := l ++ [128#8] ++ List.replicate (zbxg l.length) 0#8 ++ be (BitVec.ofNat 64 l.length * 8#64) 8
def St.run (s : St) (l : List (BitVec 8)) : Nat → St
  | 0 => s
  | n + 1 => (s.run l n).take ((l.drop (64 * n)).take 64)
def St.init : St := ⟨0x6a09e667, 0xbb67ae85, 0x3c6ef372, 0xa54ff53a, 0x510e527f, 0x9b05688c, 0x1f83d9ab, 0x5be0cd19⟩
def zbv3 (x : BitVec 32) : List (BitVec 8) := [(x >>> 24).setWidth 8, (x >>> 16).setWidth 8, (x >>> 8).setWidth 8, x.setWidth 8]
def St.bytes (s : St) : List (BitVec 8) := s.l.flatMap zbv3
def sum (l : List (BitVec 8)) : List (BitVec 8) := (St.init.run (pad l) ((pad l).length / 64)).bytes
end Go.AM.Cap

/- sha: ShaD -/
namespace Go.AM.Cap
open Go.AM Go.Proofs
def z9i (H : Heap) (v : V) (l : List V) : Prop := (v = .slice none 0 0 ∧ l = []) ∨ ∃ b o c cs, v = slc b o 1 l.length c ∧ l.length ≤ c ∧ H.get b = some (.cells true cs) ∧ (l = [] ∨ (o + l.length ≤ cs.length ∧ (cs.drop o).take l.length = l))
theorem z9i.keep {S : List Nat} {H H' : Heap} {v : V} {l : List V} (h : z9i H v l) (hk : Keeps S H H') (hn : ∀ b ∈ vb v, b ∉ S) : z9i H' v l := by
  rcases h with h | ⟨b, o, c, cs, rfl, hc, hb, hl⟩
  · exact .inl h
  · exact .inr ⟨b, o, c, cs, rfl, hc, hk.get hb (hn b (by simp)), hl⟩
theorem z9i.len {H : Heap} {v : V} {l : List V} (h : z9i H v l) : zx v = some (i64 l.length) := by
  rcases h with ⟨rfl, rfl⟩ | ⟨b, o, c, cs, rfl, hc, hb, hl⟩ <;> rfl
theorem z9i.lt {H : Heap} {v : V} {l : List V} (h : z9i H v l) : ∀ b ∈ vb v, b < H.next := by
  rcases h with ⟨rfl, rfl⟩ | ⟨b, o, c, cs, rfl, hc, hb, hl⟩
  · simp
  · simpa using Heap.get_lt hb
theorem Own.rest {H : Heap} {v : V} {l : List V} (h : Own H v l) : z9i H v l := by
  rcases h with h | ⟨b, rfl, hb⟩
  · exact .inl h
  · exact .inr ⟨b, 0, l.length, l, rfl, Nat.le_refl _, hb, .inr ⟨by omega, by simp⟩⟩
theorem z9i.cells {H : Heap} {v : V} {l : List V} (h : z9i H v l) : zba H 1 v = some l := by
  rcases h with ⟨rfl, rfl⟩ | ⟨b, o, c, cs, rfl, hc, hb, hl⟩
  · rfl
  · simp only [zba]
    by_cases h0 : l.length = 0
    · rw [if_pos h0, List.eq_nil_of_length_eq_zero h0]
    · rw [if_neg h0]
      rcases hl with rfl | ⟨h1, h2⟩
      · simp at h0
      · simp [cellsAt, hb, h1, h2]
def zbcm (H : Heap) (p : Nat) (s : St) (v : V) (long : Nat) : Prop := H.get p = some (.cells true (s.cells ++ [v, i64 long]))
theorem zbcm.c8 {H : Heap} {p : Nat} {s : St} {v : V} {long : Nat} (h : zbcm H p s v long) : zps H (ptr p 8) = some v := by rw [z1m h]; rfl
theorem zbcm.len (s : St) (v w : V) : (s.cells ++ [v, w]).length = 10 := rfl
theorem zbcm.lt {H : Heap} {p : Nat} {s : St} {v : V} {long : Nat} (h : zbcm H p s v long) : p < H.next := Heap.get_lt h
theorem z9i.isOne {H : Heap} {v : V} {l : List V} (h : z9i H v l) : v.isOne = true := by
  rcases h with ⟨rfl, rfl⟩ | ⟨b, o, c, cs, rfl, hc, hb, hl⟩ <;> rfl
def tail (l : List (BitVec 8)) : List (BitVec 8) := l.drop (64 * (l.length / 64))
end Go.AM.Cap

/- sha: ShaE -/
namespace Go.AM.Cap
open Go.AM Go.Proofs
end Go.AM.Cap

/- sha: Sum, Hex -/
namespace Go.AM.Cap
open Go.AM Go.Proofs
theorem zbxh (x : BitVec 8) : x &&& 15#8 = BitVec.ofNat 8 (x.toNat % 16) := by revert x; decide
theorem shr4 (x : BitVec 8) : x >>> 4 = BitVec.ofNat 8 (x.toNat / 16) := by revert x; decide
theorem zbq6 (x : BitVec 8) : zw .and (B x) (.int .u8 15) = some (.int .u8 ((x.toNat % 16 : Nat) : Int)) := by
  have h := b_lt x
  rw [show Value.int .u8 15 = B 15#8 from rfl, zbvd, zbxh, ← zbt8 _ (by omega)]
theorem zbto (x : BitVec 8) (k : IntKind) : zw .shr (B x) (.int k 4) = some (.int .u8 ((x.toNat / 16 : Nat) : Int)) := by
  have h := b_lt x
  rw [zbve (by omega), show (4 : Int).toNat = 4 from rfl, shr4, ← zbt8 _ (by omega)]
theorem zbn8 (l : List (BitVec 8)) (b : BitVec 8) : hexl (l ++ [b]) = hexl l ++ [hexd (b.toNat / 16), hexd (b.toNat % 16)] := by simp [hexl]
theorem zbn9 {α : Type} (l : List α) (i : Nat) (d : α) (h : i < l.length) : l.take (i + 1) = l.take i ++ [l.getD i d] := by
  rw [List.take_succ, List.getD_eq_getElem?_getD, List.getElem?_eq_getElem h]; rfl
theorem zbk3 (H : Heap) (s : ByteArray) (hs : s.size ≤ 1099511627776) (Q : V → Heap → Prop) (hQ : ∀ H', Keeps [] H H' → Q (.string (sv (hexl (bv s)))) H') : wp (z1q [.string s]) Q H := by
  have hbl := zc1 s
  show wp (z70 (.string s)) Q H
  (try simp (maxSteps := 1000000) (disch := first | omega | (simp only [Z3]; omega) | (simp; done) | assumption | decide | (apply not_not_intro; assumption)) only [Z1, z70])
  refine zli (Inv := fun k vs H' => ∃ (i : Nat) (v : V), k = s.size - i ∧ i ≤ s.size ∧ vs = [.string s, v, i64 s.size, i64 i] ∧ Own H' v ((hexl ((bv s).take i)).map B) ∧ Keeps [] H H' ∧ ∀ x ∈ vb v, H.next ≤ x) (n := s.size) (by unfold zb8; omega)
    ⟨0, _, by omega, by omega, rfl, Own.nil _, Keeps.refl _ _, by simp⟩ ?_
  rintro k vs H' ⟨i, v, hk, hi, rfl, ho, hke, hf⟩
  have hlen : ((hexl ((bv s).take i)).map B).length = 2 * i := by rw [List.length_map, z8i, List.length_take]; omega
  by_cases h : i < s.size
  · have hb := b_lt ((bv s).getD i 0)
    (try simp (maxSteps := 1000000) (disch := first | omega | (simp only [Z3]; omega) | (simp; done) | assumption | decide | (apply not_not_intro; assumption)) only [Z1, z4h, zbbu, zqg, Int.toNat_natCast, zbq6, zbto, zbj5])
    refine zbu5 (new := [B (hexd (((bv s).getD i 0).toNat / 16)), B (hexd (((bv s).getD i 0).toNat % 16))]) ho (by rfl) (by rfl) (by omega) (by rfl) (by rfl) (by rw [hlen]; simp; omega) (by rw [hlen]; simp; omega) fun c H3 o3 k3 f3 => ?_
    (try simp (maxSteps := 1000000) (disch := first | omega | (simp only [Z3]; omega) | (simp; done) | assumption | decide | (apply not_not_intro; assumption)) only [Z1, zbbt])
    refine ⟨s.size - (i + 1), by omega, i + 1, _, rfl, by omega, rfl, ?_, hke.trans k3 (fun b hb hm => by have := hf b hm; omega), fun x hx => by simp at hx; have := hke.next; omega⟩
    rw [zbn9 _ _ 0 (by omega), zbn8, List.map_append]
    exact o3
  · have : i = s.size := by omega
    subst this
    (try simp (maxSteps := 1000000) (disch := first | omega | (simp only [Z3]; omega) | (simp; done) | assumption | decide | (apply not_not_intro; assumption)) only [Z1, z4h, zbbv])
    refine zblk ho ?_
    rw [List.take_of_length_le (by omega)]
    (try simp (maxSteps := 1000000) (disch := first | omega | (simp only [Z3]; omega) | (simp; done) | assumption | decide | (apply not_not_intro; assumption)) only [Z1])
    exact hQ _ hke
end Go.AM.Cap
