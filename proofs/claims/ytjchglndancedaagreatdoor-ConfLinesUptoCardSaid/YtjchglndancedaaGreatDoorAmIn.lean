import Derived.Test.YtjchglndancedaaGreatDoorAmWp
set_option linter.all false
/- Slices that one owns: elements of one cell. -/
namespace Go.AM
structure Keeps (S : List Nat) (H H' : Heap) : Prop where
  next : H.next ≤ H'.next
  same : ∀ b, b < H.next → b ∉ S → H'.get b = H.get b
theorem Keeps.refl (S : List Nat) (H : Heap) : Keeps S H H := ⟨Nat.le_refl _, fun _ _ _ => rfl⟩
theorem Keeps.trans {S S' : List Nat} {H H1 H2 : Heap} (h : Keeps S H H1) (h' : Keeps S' H1 H2) (hs : ∀ b, b < H.next → b ∈ S' → b ∈ S) : Keeps S H H2 :=
  ⟨Nat.le_trans h.next h'.next, fun b hb hn => by rw [h'.same b (Nat.lt_of_lt_of_le hb h.next) (fun hi => hn (hs b hb hi)), h.same b hb hn]⟩
theorem Keeps.mono {S S' : List Nat} {H H1 : Heap} (h : Keeps S H H1) (hs : ∀ b, b ∈ S → b ∈ S') : Keeps S' H H1 := ⟨h.next, fun b hb hn => h.same b hb fun hi => hn (hs b hi)⟩
theorem Keeps.get {S : List Nat} {H H' : Heap} (h : Keeps S H H') {b : Nat} {x : Blk} (hb : H.get b = some x) (hn : b ∉ S) : H'.get b = some x := by
  rw [h.same b (Heap.get_lt hb) hn]; exact hb
theorem Keeps.push (S : List Nat) (H : Heap) (x : Option Blk) : Keeps S H (H.push x) := ⟨by simp, fun b hb _ => Heap.get_push_lt hb⟩
theorem Keeps.set {S : List Nat} {H : Heap} {b : Nat} {x : Option Blk} (h : b ∈ S) : Keeps S H (H.set b x) := ⟨by simp, fun c _ hn => Heap.get_set_ne _ _ _ fun e => hn (e ▸ h)⟩
def vb (v : V) : List Nat := match v with | .slice (some ⟨b, _, _⟩) _ _ => [b] | _ => []
@[simp] theorem zbya (n c : Nat) : vb (.slice none n c) = [] := rfl
@[simp] theorem zbyb (b o u n c : Nat) : vb (slc b o u n c) = [b] := rfl
def Own (H : Heap) (v : V) (l : List V) : Prop := (v = .slice none 0 0 ∧ l = []) ∨ ∃ b, v = slc b 0 1 l.length l.length ∧ H.get b = some (.cells true l)
theorem Own.nil (H : Heap) : Own H (.slice none 0 0) [] := .inl ⟨rfl, rfl⟩
theorem Own.keep {S : List Nat} {H H' : Heap} {v : V} {l : List V} (h : Own H v l) (hk : Keeps S H H') (hn : ∀ b ∈ vb v, b ∉ S) : Own H' v l := by
  rcases h with h | ⟨b, rfl, hb⟩
  · exact .inl h
  · exact .inr ⟨b, rfl, hk.get hb (hn b (by simp))⟩
theorem Own.len {H : Heap} {v : V} {l : List V} (h : Own H v l) : zx v = some (i64 l.length) := by
  rcases h with ⟨rfl, rfl⟩ | ⟨b, rfl, hb⟩ <;> rfl
theorem Own.lt {H : Heap} {v : V} {l : List V} (h : Own H v l) : ∀ b ∈ vb v, b < H.next := by
  rcases h with ⟨rfl, rfl⟩ | ⟨b, rfl, hb⟩
  · simp
  · simpa using Heap.get_lt hb
theorem Own.idx {H : Heap} {v : V} {l : List V} (h : Own H v l) {k : IntKind} {i : Nat} (hi : i < l.length) : ∃ b, zy 1 v (.int k i) = some (ptr b i) ∧ zps H (ptr b i) = some l[i] := by
  rcases h with ⟨rfl, rfl⟩ | ⟨b, rfl, hb⟩
  · simp at hi
  · refine ⟨b, ?_, ?_⟩
    · rw [z3l (by omega) (by omega)]; simp
    · rw [z1m hb]; simp [hi]
theorem zbr3 {v x : V} {l new : List V} {m bytes : Nat} {a : Option Addr} {c : Nat} {H : Heap} {Q : V → Heap → Prop} (hv : Own H v l) (hx : x = .slice a m c) (hc : zba H 1 x = some new) (hm : m ≠ 0) (hl : new.length = m) (hone : new.all Value.isOne = true)
    (hb : (l.length + m) * bytes ≤ 35184372088832) (hb2 : l.length + m ≤ 35184372088832) (hQ : ∀ b H', Own H' (slc b 0 1 (l ++ new).length (l ++ new).length) (l ++ new) → Keeps (vb v) H H' → b = H.next → H'.next = H.next + 1 → Q (slc b 0 1 (l ++ new).length (l ++ new).length) H') : wp (zgf 1 bytes v x) Q H := by
  subst hx
  rcases hv with ⟨rfl, rfl⟩ | ⟨b, rfl, hg⟩
  · refine ⟨slc H.next 0 1 m m, H.push (some (.cells true new)), ?_, ?_⟩
    · have e1 : zba H 1 (.slice none 0 0) = some [] := rfl
      have e2 : zq6 H 1 (.slice none 0 0) = some H := rfl
      simp only [List.length_nil, Nat.zero_add] at hb hb2
      simp only [zgf, zun, hm, if_false, hc, e1, e2]
      rw [if_pos ⟨by rw [Nat.zero_add]; exact hb, by omega, hone, by omega⟩]
      simp
    · have := hQ H.next (H.push (some (.cells true new))) (.inr ⟨H.next, by simp, Heap.get_push_self _ _⟩) (Keeps.push _ _ _) rfl (by simp)
      simpa [hl] using this
  · refine ⟨slc H.next 0 1 (l.length + m) (l.length + m), (H.set b none).push (some (.cells true (l ++ new))), ?_, ?_⟩
    · have hcs : zba H 1 (slc b 0 1 l.length l.length) = some l := by
        simp only [zba]
        split
        · rename_i h0; rw [List.eq_nil_of_length_eq_zero h0]
        · simp [cellsAt, hg]
      simp only [zgf, zun, hm, if_false, hc, hcs, zq6, hg, if_true]
      rw [if_pos ⟨hb, hb2, hone, by omega⟩]
      simp
    · have := hQ H.next ((H.set b none).push (some (.cells true (l ++ new)))) (.inr ⟨H.next, by simp, by have := Heap.get_push_self (H.set b none) (some (.cells true (l ++ new))); simpa using this⟩) ⟨by simp, fun c hc hn => by rw [Heap.get_push_lt (by simpa using hc), Heap.get_set_ne _ _ _ (by simpa using hn)]⟩ rfl (by simp)
      simpa [hl] using this
theorem zbu5 {v : V} {l new zero : List V} {parts : List (Nat × Nat × V)} {m bytes : Nat} {H : Heap} {Q : V → Heap → Prop} (hv : Own H v l) (hz : zero.all zf8 = true) (hf : zbs zero parts = some new) (hm : m ≠ 0) (hl : new.length = m) (hone : new.all Value.isOne = true)
    (hb : (l.length + m) * bytes ≤ 35184372088832) (hb2 : l.length + m ≤ 35184372088832) (hQ : ∀ b H', Own H' (slc b 0 1 (l ++ new).length (l ++ new).length) (l ++ new) → Keeps (vb v) H H' → H.next ≤ b → Q (slc b 0 1 (l ++ new).length (l ++ new).length) H') :
    wp (zdv 1 m zero parts) (fun x H1 => wp (zgf 1 bytes v x) Q H1) H := by
  refine (zfk hz hf).mpr ?_
  have hk := Keeps.push [] H (some (.cells true new))
  refine zbr3 (hv.keep hk (by simp)) rfl ?_ hm hl hone hb hb2 fun b H' h1 h2 h3 h4 => hQ b H' h1 ?_ (by simp at h3; omega)
  · have := Heap.get_push_self H (some (.cells true new))
    simp [zba, hm, cellsAt, this, hl]
    rw [← hl, List.take_length]
  · exact ⟨by have := h2.next; simp at this; omega, fun c hc hn => by rw [h2.same c (by simp; omega) hn, Heap.get_push_lt hc]⟩
theorem zbu6 {v : V} {l : List V} {bs : List UInt8} {H : Heap} {Q : V → Heap → Prop} (hv : Own H v l) (hl : zn7 l = some bs) (hQ : Q (.string ⟨bs.toArray⟩) H) : wp (b2s v) Q H := by
  rcases hv with ⟨rfl, rfl⟩ | ⟨b, rfl, hg⟩
  · simp [zn7] at hl; subst hl
    exact ⟨_, _, rfl, hQ⟩
  · refine ⟨_, _, ?_, hQ⟩
    simp [b2s, cellsAt, hg, hl]
end Go.AM

/- Rules for walks: conditions that are told at once. -/
namespace Go.AM
section
variable {p : Prop} [Decidable p]
theorem zbph {a b : M Out} (h : p) : zn (.bool (decide p)) a b = a := by simp [h]
theorem zbpi {a b : M Out} (h : ¬ p) : zn (.bool (decide p)) a b = b := by simp [h]
theorem zbwy {m : M V} (h : p) : gd (.bool (decide p)) true m = m := by simp [h]
theorem zbwz {m : M V} (h : ¬ p) : gd (.bool (decide p)) true m = ret zn8 := by simp [h]
theorem zbu7 {m : M V} (h : p) : gd (.bool (decide p)) false m = ret zn8 := by simp [h]
theorem zbu8 {m : M V} (h : ¬ p) : gd (.bool (decide p)) false m = m := by simp [h]
theorem zbr4 {x y : V} (h : p) : zbe (.bool (decide p)) x y = some x := by simp [h]
theorem zbr5 {x y : V} (h : ¬ p) : zbe (.bool (decide p)) x y = some y := by simp [h]
theorem zbr6 : un .not (.bool (decide p)) = some (.bool (decide (¬ p))) := by simp [un]
end
theorem zbr7 (a b : M Out) : zn (.bool true) a b = a := rfl
theorem zbr8 (a b : M Out) : zn (.bool false) a b = b := rfl
theorem gd_t (m : M V) : gd (.bool true) true m = m := rfl
theorem gd_f (m : M V) : gd (.bool false) true m = ret zn8 := rfl
theorem zbw0 (m : M V) : gd (.bool true) false m = ret zn8 := rfl
theorem zbw1 (m : M V) : gd (.bool false) false m = m := rfl
theorem zbu9 (x y : V) : zbe (.bool true) x y = some x := rfl
theorem zbva (x y : V) : zbe (.bool false) x y = some y := rfl
theorem zbw2 : un .not (.bool true) = some (.bool false) := rfl
theorem zbw3 : un .not (.bool false) = some (.bool true) := rfl
theorem zbr9 (k : IntKind) (x y : Int) : zw .eql (.int k x) (.int k y) = some (.bool (decide (x = y))) := by
  simp [zw, zza, BEq.beq]
theorem zbsa (k : IntKind) (x y : Int) : zw .neq (.int k x) (.int k y) = some (.bool (decide (x ≠ y))) := by
  simp [zw, zza, bne, BEq.beq]
theorem zbsb (x y : ByteArray) : zw .eql (.string x) (.string y) = some (.bool (decide (x = y))) := rfl
theorem zbsc (x y : ByteArray) : zw .neq (.string x) (.string y) = some (.bool (decide (x ≠ y))) := by simp [zw, sbin]
@[simp] theorem zbna (b o : Nat) : zgp false (zd2 .p (ptr b o)) = some (.bool false) := rfl
@[simp] theorem zbj3 (b o : Nat) : zgp true (zd2 .p (ptr b o)) = some (.bool true) := rfl
@[simp] theorem zbj4 : zgp false (zd2 .p (.pointer none)) = some (.bool true) := rfl
@[simp] theorem zbhm : zgp true (zd2 .p (.pointer none)) = some (.bool false) := rfl
end Go.AM

/- Strings and their bytes. -/
namespace Go.AM
def bv (s : ByteArray) : List (BitVec 8) := s.data.toList.map UInt8.toBitVec
def sv (l : List (BitVec 8)) : ByteArray := ⟨(l.map UInt8.ofBitVec).toArray⟩
theorem zc1 (s : ByteArray) : (bv s).length = s.size := by simp only [bv, List.length_map, Array.length_toList]; rfl
theorem zym (l : List (BitVec 8)) : bv (sv l) = l := by
  simp only [bv, sv, List.map_map]
  conv => rhs; rw [← List.map_id l]
  apply List.map_congr_left
  intro x _; rfl
theorem zbhn (s : ByteArray) : sv (bv s) = s := by
  cases s with | mk d =>
  simp only [bv, sv, List.map_map]
  congr 1
  apply Array.toList_inj.mp
  simp only [List.toList_toArray]
  conv => rhs; rw [← List.map_id d.toList]
  apply List.map_congr_left
  intro x _; rfl
theorem zbfa {s t : ByteArray} (h : bv s = bv t) : s = t := by rw [← zbhn s, h, zbhn]
theorem zbvb {l m : List (BitVec 8)} (h : sv l = sv m) : l = m := by rw [← zym l, h, zym]
theorem z5g (l : List (BitVec 8)) : (sv l).size = l.length := by rw [← zc1, zym]
theorem zbnb (s t : ByteArray) : bv (s ++ t) = bv s ++ bv t := by
  have h : (s ++ t).data = s.data ++ t.data := ByteArray.data_append
  simp only [bv, h, Array.toList_append, List.map_append]
theorem zbau (s : ByteArray) (a b : Nat) : bv (s.extract a b) = ((bv s).drop a).take (b - a) := by
  have h : (s.extract a b).data = s.data.extract a b := ByteArray.data_extract
  simp only [bv, h, Array.toList_extract, List.extract, List.map_take, List.map_drop]
theorem zbpj : bv ⟨#[]⟩ = [] := rfl
theorem zbvc {s : ByteArray} : bv s = [] ↔ s = ⟨#[]⟩ := ⟨fun h => zbfa (h.trans zbpj.symm), fun h => by rw [h]; rfl⟩
theorem size_append (s t : ByteArray) : (s ++ t).size = s.size + t.size := by rw [← zc1, zbnb, List.length_append, zc1, zc1]
theorem zbee : ∀ l : List (BitVec 8), zn7 (l.map B) = some (l.map UInt8.ofBitVec)
  | [] => rfl
  | x :: l => by
    simp only [List.map_cons, zn7, zbee l, z9j]
    congr 2
    apply UInt8.toBitVec_inj.mp
    apply BitVec.eq_of_toNat_eq
    show (UInt8.ofNat (x.toNat : Int).toNat).toBitVec.toNat = x.toNat
    have := x.isLt
    simp
theorem zblk {v : V} {l : List (BitVec 8)} {H : Heap} {Q : V → Heap → Prop} (hv : Own H v (l.map B)) (hQ : Q (.string (sv l)) H) : wp (b2s v) Q H := zbu6 hv (zbee l) hQ
theorem zqg {s : ByteArray} {k : IntKind} {i : Int} (h0 : 0 ≤ i) (h : i < s.size) : zl9 (.string s) (.int k i) = some (B ((bv s).getD i.toNat 0)) := by
  have hi : i.toNat < s.size := by omega
  have hb : i.toNat < (bv s).length := by rw [zc1]; exact hi
  have e : s[i.toNat]? = some s[i.toNat] := getElem?_pos s i.toNat hi
  have e2 : (bv s).getD i.toNat 0 = s[i.toNat].toBitVec := by
    rw [List.getD_eq_getElem?_getD, List.getElem?_eq_getElem hb]
    simp only [bv, List.getElem_map, Option.getD_some]
    rfl
  simp only [zl9, h0, if_true, e, e2]
  rfl
theorem zbsd {s : ByteArray} {k : IntKind} {a : Int} (h1 : 0 ≤ a) (h3 : a ≤ s.size) : z4r (.string s) (some (.int k a)) none = some (.string (s.extract a.toNat s.size)) := by
  have e2 : zdq 0 s.size (some (.int k a)) = some a.toNat := by simp [zdq]; omega
  simp [z4r, e2]
  simp [zdq]
  simp [zdq] at e2
  simp [e2]
theorem zbse {s : ByteArray} {k' : IntKind} {b : Int} (h2 : 0 ≤ b) (h3 : b ≤ s.size) : z4r (.string s) none (some (.int k' b)) = some (.string (s.extract 0 b.toNat)) := by
  have e1 : zdq s.size s.size (some (.int k' b)) = some b.toNat := by simp [zdq]; omega
  have e2 : zdq 0 b.toNat none = some 0 := rfl
  simp only [z4r, e1, e2]
theorem b_lt (x : BitVec 8) : x.toNat < 256 := x.isLt
theorem zbvd (x y : BitVec 8) : zw .and (B x) (B y) = some (B (x &&& y)) := by
  simp [zw, zza, z4q, zbpd, zhp, IntKind.bits]; rfl
theorem zbve {x : BitVec 8} {k : IntKind} {n : Int} (h : 0 ≤ n) : zw .shr (B x) (.int k n) = some (B (x >>> n.toNat)) := by
  have h' := zbru x.toNat n.toNat 8 x.isLt
  have h0 : ¬ (n < 0) := by omega
  simp only [zw, z27, IntKind.bits, h0, if_false, h']
  rfl
theorem zbt8 (n : Nat) (h : n < 256) : Value.int .u8 (n : Int) = B (BitVec.ofNat 8 n) := by
  show Value.int .u8 _ = Value.int .u8 _
  congr 1
  simp [BitVec.toNat_ofNat]; omega
def hexd (n : Nat) : BitVec 8 := if n < 10 then BitVec.ofNat 8 (48 + n) else BitVec.ofNat 8 (87 + n)
def hexl (l : List (BitVec 8)) : List (BitVec 8) := l.flatMap fun b => [hexd (b.toNat / 16), hexd (b.toNat % 16)]
theorem z8i (l : List (BitVec 8)) : (hexl l).length = 2 * l.length := by
  induction l with
  | nil => rfl
  | cons b l ih => simp only [hexl, List.flatMap_cons, List.length_append, List.length_cons, List.length_nil] at ih ⊢; omega
theorem zbj5 {k : IntKind} {n : Nat} (h : n < 16) : zl9 (.string ⟨#[48, 49, 50, 51, 52, 53, 54, 55, 56, 57, 97, 98, 99, 100, 101, 102]⟩) (.int k (n : Int)) = some (B (hexd n)) := by
  have : n = 0 ∨ n = 1 ∨ n = 2 ∨ n = 3 ∨ n = 4 ∨ n = 5 ∨ n = 6 ∨ n = 7 ∨ n = 8 ∨ n = 9 ∨ n = 10 ∨ n = 11 ∨ n = 12 ∨ n = 13 ∨ n = 14 ∨ n = 15 := by omega
  rcases this with h | h | h | h | h | h | h | h | h | h | h | h | h | h | h | h <;> subst h <;> rfl
end Go.AM

/- Slices of things that lie flat in cells. -/
namespace Go.AM
class Flat (α : Type) where
  size : Nat
  enc : α → List V
  len : ∀ a, (enc a).length = size
  one : ∀ a, (enc a).all Value.isOne = true
  pos : 0 < size
instance : Flat Int := ⟨1, fun n => [i64 n], fun _ => rfl, fun _ => rfl, by decide⟩
instance : Flat ByteArray := ⟨1, fun s => [.string s], fun _ => rfl, fun _ => rfl, by decide⟩
instance : Flat (BitVec 8) := ⟨1, fun b => [B b], fun _ => rfl, fun _ => rfl, by decide⟩
instance : Flat Bool := ⟨1, fun b => [.bool b], fun _ => rfl, fun _ => rfl, by decide⟩
theorem zbsg (n : Int) : Flat.enc n = [i64 n] := rfl
theorem zbsh (s : ByteArray) : Flat.enc s = [.string s] := rfl
theorem zbpk (b : BitVec 8) : Flat.enc b = [B b] := rfl
theorem zbpl (b : Bool) : Flat.enc b = [.bool b] := rfl
variable {α : Type} [Flat α]
def zbo (xs : List α) : List V := xs.flatMap Flat.enc
theorem zgu (x : α) (xs : List α) : zbo (x :: xs) = Flat.enc x ++ zbo xs := rfl
theorem z8j (xs ys : List α) : zbo (xs ++ ys) = zbo xs ++ zbo ys := by simp [zbo]
theorem zcu (xs : List α) : (zbo xs).length = xs.length * Flat.size α := by
  induction xs with
  | nil => simp [zbo]
  | cons x xs ih => rw [zgu, List.length_append, ih, Flat.len, List.length_cons, Nat.add_mul]; omega
theorem zbav (xs : List α) : (zbo xs).all Value.isOne = true := by
  induction xs with
  | nil => rfl
  | cons x xs ih => rw [zgu, List.all_append, ih, Flat.one]; rfl
theorem z7f (xs : List α) : ∀ i, (zbo xs).drop (i * Flat.size α) = zbo (xs.drop i) := by
  induction xs with
  | nil => intro i; simp [zbo]
  | cons x xs ih =>
    intro i
    cases i with
    | zero => simp
    | succ i =>
      rw [zgu, Nat.add_mul, Nat.one_mul, Nat.add_comm, ← List.drop_drop]
      rw [List.drop_append_of_le_length (by rw [Flat.len]; exact Nat.le_refl _)]
      rw [show (Flat.enc x).drop (Flat.size α) = [] from List.drop_eq_nil_of_le (by rw [Flat.len]; exact Nat.le_refl _)]
      exact ih i
theorem z7g (xs : List α) : ∀ i, (zbo xs).take (i * Flat.size α) = zbo (xs.take i) := by
  induction xs with
  | nil => intro i; simp [zbo]
  | cons x xs ih =>
    intro i
    cases i with
    | zero => simp [zbo]
    | succ i =>
      rw [zgu, Nat.add_mul, Nat.one_mul, Nat.add_comm, List.take_add, List.take_append_of_le_length (by rw [Flat.len]; exact Nat.le_refl _)]
      rw [show (Flat.enc x).take (Flat.size α) = Flat.enc x from List.take_of_length_le (by rw [Flat.len]; exact Nat.le_refl _)]
      rw [List.drop_append_of_le_length (by rw [Flat.len]; exact Nat.le_refl _), show (Flat.enc x).drop (Flat.size α) = [] from List.drop_eq_nil_of_le (by rw [Flat.len]; exact Nat.le_refl _)]
      rw [List.nil_append, ih i, List.take_succ_cons, zgu]
theorem zbpm (xs : List α) : ∀ (i off : Nat) (v : V) (x' : α) (d : α), i < xs.length → off < Flat.size α → Flat.enc x' = (Flat.enc (xs.getD i d)).set off v → (zbo xs).set (i * Flat.size α + off) v = zbo (xs.set i x') := by
  induction xs with
  | nil => intro i off v x' d hi; simp at hi
  | cons x xs ih =>
    intro i off v x' d hi ho hx
    cases i with
    | zero =>
      rw [zgu, Nat.zero_mul, Nat.zero_add, List.set_append_left _ _ (by rw [Flat.len]; exact ho), List.set_cons_zero, zgu, hx]
      rfl
    | succ i =>
      rw [zgu, List.set_append_right _ _ (by rw [Flat.len, Nat.add_mul]; omega), Flat.len, List.set_cons_succ, zgu]
      congr 1
      have : (i + 1) * Flat.size α + off - Flat.size α = i * Flat.size α + off := by rw [Nat.add_mul]; omega
      rw [this]
      exact ih i off v x' d (by simpa using hi) ho hx
def slB : V → Nat | .slice (some a) _ _ => a.block | _ => 0
def slO : V → Nat | .slice (some a) _ _ => a.off | _ => 0
def Sl (H : Heap) (v : V) (xs : List α) : Prop := (v = .slice none 0 0 ∧ xs = []) ∨ ∃ b o u c, v = slc b o u xs.length c ∧ xs.length ≤ c ∧ b < H.next ∧ (xs = [] ∨ ∃ rw cs, H.get b = some (.cells rw cs) ∧ o + xs.length * Flat.size α ≤ cs.length ∧ (cs.drop o).take (xs.length * Flat.size α) = zbo xs) ∧ (u = 0 ∨ u = Flat.size α)
theorem Sl.nil (H : Heap) : Sl H (.slice none 0 0) ([] : List α) := .inl ⟨rfl, rfl⟩
theorem Sl.keep {S : List Nat} {H H' : Heap} {v : V} {l : List α} (h : Sl H v l) (hk : Keeps S H H') (hn : ∀ b ∈ vb v, b ∉ S) : Sl H' v l := by
  rcases h with h | ⟨b, o, u, c, rfl, hc, hb, hl, hu⟩
  · exact .inl h
  · refine .inr ⟨b, o, u, c, rfl, hc, Nat.lt_of_lt_of_le hb hk.next, ?_, hu⟩
    rcases hl with hl | ⟨rw, cs, h1, h2⟩
    · exact .inl hl
    · exact .inr ⟨rw, cs, hk.get h1 (hn b (by simp)), h2⟩
theorem Sl.keep0 {H H' : Heap} {v : V} {l : List α} (h : Sl H v l) (hk : Keeps [] H H') : Sl H' v l := h.keep hk (by simp)
theorem Sl.len {H : Heap} {v : V} {l : List α} (h : Sl H v l) : zx v = some (i64 l.length) := by
  rcases h with ⟨rfl, rfl⟩ | ⟨b, o, u, c, rfl, _⟩ <;> rfl
theorem Sl.lt {H : Heap} {v : V} {l : List α} (h : Sl H v l) : ∀ b ∈ vb v, b < H.next := by
  rcases h with ⟨rfl, rfl⟩ | ⟨b, o, u, c, rfl, hc, hb, hl⟩
  · simp
  · simpa using hb
theorem Sl.isOne {H : Heap} {v : V} {l : List α} (h : Sl H v l) : v.isOne = true := by
  rcases h with ⟨rfl, rfl⟩ | ⟨b, o, u, c, rfl, _⟩ <;> rfl
theorem Sl.addr {H : Heap} {v : V} {l : List α} (h : Sl H v l) {k : IntKind} {i : Int} (h0 : 0 ≤ i) (hi : i < l.length) : zy (Flat.size α) v (.int k i) = some (ptr (slB v) (slO v + i.toNat * Flat.size α)) := by
  rcases h with ⟨rfl, rfl⟩ | ⟨b, o, u, c, rfl, _⟩
  · simp at hi; omega
  · exact z3l h0 hi
theorem zbpn (cs : List V) (xs : List α) (o i : Nat) (hi : i < xs.length) (d : α) (hl : (cs.drop o).take (xs.length * Flat.size α) = zbo xs) : (cs.drop (o + i * Flat.size α)).take (Flat.size α) = Flat.enc (xs.getD i d) := by
  have e1 : ((zbo xs).drop (i * Flat.size α)).take (Flat.size α) = Flat.enc (xs.getD i d) := by
    rw [z7f]
    have : xs.drop i = xs.getD i d :: xs.drop (i + 1) := by
      rw [List.getD_eq_getElem?_getD, List.getElem?_eq_getElem hi]
      exact List.drop_eq_getElem_cons hi
    rw [this, zgu, List.take_append_of_le_length (by rw [Flat.len]; exact Nat.le_refl _), List.take_of_length_le (by rw [Flat.len]; exact Nat.le_refl _)]
  rw [← e1, ← hl, List.drop_take, List.take_take, List.drop_drop]
  congr 1
  have : (i + 1) * Flat.size α ≤ xs.length * Flat.size α := Nat.mul_le_mul_right _ hi
  rw [Nat.add_mul] at this
  omega
theorem Sl.ldn {H : Heap} {v : V} {l : List α} (h : Sl H v l) {i : Nat} (hi : i < l.length) (d : α) {Q : V → Heap → Prop} : wp (ldn (Flat.size α) (ptr (slB v) (slO v + i * Flat.size α))) Q H ↔ Q (.agg (Flat.enc (l.getD i d)).toArray) H := by
  rcases h with ⟨rfl, rfl⟩ | ⟨b, o, u, c, rfl, hc, _, hl, _⟩
  · simp at hi
  · rcases hl with rfl | ⟨rw, cs, hb, hl1, hl2⟩
    · simp at hi
    · have h1 : (i + 1) * Flat.size α ≤ l.length * Flat.size α := Nat.mul_le_mul_right _ hi
      rw [Nat.add_mul] at h1
      show wp (Go.AM.ldn _ (ptr b (o + i * Flat.size α))) Q H ↔ _
      rw [zbpf hb (by omega), zbpn cs l o i hi d hl2]
theorem Sl.cell {H : Heap} {v : V} {l : List α} (h : Sl H v l) {i off : Nat} (hi : i < l.length) (ho : off < Flat.size α) (d : α) : zps H (ptr (slB v) (slO v + i * Flat.size α + off)) = (Flat.enc (l.getD i d))[off]? := by
  rcases h with ⟨rfl, rfl⟩ | ⟨b, o, u, c, rfl, hc, _, hl, _⟩
  · simp at hi
  · rcases hl with rfl | ⟨rw, cs, hb, hl1, hl2⟩
    · simp at hi
    · show zps H (ptr b (o + i * Flat.size α + off)) = _
      rw [z1m hb, ← zbpn cs l o i hi d hl2, List.getElem?_take, if_pos ho, List.getElem?_drop]
theorem Sl.addr' {H : Heap} {v : V} {l : List α} (h : Sl H v l) {n : Nat} (hs : Flat.size α = n) {k : IntKind} {i : Int} (h0 : 0 ≤ i) (hi : i < l.length) : zy n v (.int k i) = some (ptr (slB v) (slO v + i.toNat * n)) := by subst hs; exact h.addr h0 hi
theorem Sl.ldn' {H : Heap} {v : V} {l : List α} (h : Sl H v l) {n : Nat} (hs : Flat.size α = n) {i : Nat} (hi : i < l.length) (d : α) {Q : V → Heap → Prop} : wp (Go.AM.ldn n (ptr (slB v) (slO v + i * n))) Q H ↔ Q (.agg (Flat.enc (l.getD i d)).toArray) H := by subst hs; exact h.ldn hi d
theorem Sl.cell' {H : Heap} {v : V} {l : List α} (h : Sl H v l) {n : Nat} (hs : Flat.size α = n) {i off : Nat} (hi : i < l.length) (ho : off < n) (d : α) : zps H (ptr (slB v) (slO v + i * n + off)) = (Flat.enc (l.getD i d))[off]? := by subst hs; exact h.cell hi ho d
theorem Sl.addr1 {H : Heap} {v : V} {l : List α} (h : Sl H v l) (hs : Flat.size α = 1) {k : IntKind} {i : Int} (h0 : 0 ≤ i) (hi : i < l.length) : zy 1 v (.int k i) = some (ptr (slB v) (slO v + i.toNat)) := by
  have := h.addr (k := k) h0 hi
  rw [hs, Nat.mul_one] at this
  exact this
theorem Sl.cell1 {H : Heap} {v : V} {l : List α} (h : Sl H v l) (hs : Flat.size α = 1) {i : Nat} (hi : i < l.length) (d : α) : zps H (ptr (slB v) (slO v + i)) = (Flat.enc (l.getD i d))[0]? := by
  have := h.cell (off := 0) hi (by omega) d
  rw [hs, Nat.mul_one, Nat.add_zero] at this
  exact this
theorem Own.sl {H : Heap} {v : V} {l : List α} (hs : Flat.size α = 1) (h : Own H v (zbo l)) : Sl H v l := by
  rcases h with ⟨rfl, hl⟩ | ⟨b, rfl, hb⟩
  · refine .inl ⟨rfl, ?_⟩
    have := congrArg List.length hl
    rw [zcu, hs] at this
    exact List.eq_nil_of_length_eq_zero (by simpa using this)
  · have e : (zbo l).length = l.length := by rw [zcu, hs, Nat.mul_one]
    refine .inr ⟨b, 0, 1, l.length, by rw [e], Nat.le_refl _, Heap.get_lt hb, .inr ⟨true, zbo l, hb, by rw [zcu]; omega, ?_⟩, .inr hs.symm⟩
    rw [List.drop_zero, List.take_of_length_le (by rw [zcu]; exact Nat.le_refl _)]
end Go.AM

/- Heaps that are written out: what a block holds is told by rules. -/
namespace Go.AM
namespace Heap
theorem get_push_eq {H : Heap} {x : Option Blk} {b : Nat} (h : b = H.next) : (H.push x).get b = x := by subst h; exact get_push_self H x
theorem get_set_eq {H : Heap} {b : Nat} {x : Option Blk} (h : b < H.next) : (H.set b x).get b = x := get_set_self h
theorem get_set_ne' {H : Heap} {b c : Nat} {x : Option Blk} (h : c ≠ b) : (H.set b x).get c = H.get c := get_set_ne _ _ _ h
theorem set_push_lt {H : Heap} {x y : Option Blk} {b : Nat} (h : b < H.next) : (H.push x).set b y = (H.set b y).push x := by
  refine Heap.same rfl fun c _ => ?_
  rw [zwf, Heap.get_push, Heap.get_push, zwf]
  have e1 : (H.push x).next = H.next + 1 := rfl
  have e2 : (H.set b y).next = H.next := rfl
  rw [e1, e2]
  by_cases q : c = b
  · subst q; rw [if_pos ⟨rfl, by omega⟩, if_neg (by omega), if_pos ⟨rfl, h⟩]
  · rw [if_neg (fun z => q z.1)]
    by_cases q2 : c = H.next
    · rw [if_pos q2, if_pos q2]
    · rw [if_neg q2, if_neg q2, if_neg (fun z => q z.1)]
theorem set_push_eq {H : Heap} {x y : Option Blk} {b : Nat} (h : b = H.next) : (H.push x).set b y = H.push y := by
  subst h
  refine Heap.same rfl fun c _ => ?_
  rw [zwf, Heap.get_push, Heap.get_push]
  have e1 : (H.push x).next = H.next + 1 := rfl
  rw [e1]
  by_cases q : c = H.next
  · rw [if_pos ⟨q, by omega⟩, if_pos q]
  · rw [if_neg (fun z => q z.1), if_neg q, if_neg q]
end Heap
def zis : Option Blk → Nat → Option V
  | some (.cells _ cs), o => cs[o]?
  | _, _ => none
theorem zc2 (H : Heap) (b o : Nat) : zps H (ptr b o) = zis (H.get b) o := by
  simp only [zps, Heap.cell]
  split <;> simp_all [zis]
theorem zzr (rw : Bool) (cs : List V) (o : Nat) : zis (some (.cells rw cs)) o = cs[o]? := rfl
def stG (x : Option Blk) (o : Nat) (v : V) (k : Option Blk → Prop) : Prop := match x with
  | some (.cells true cs) => v.isOne = true ∧ o < cs.length ∧ k (some (.cells true (cs.set o v)))
  | _ => False
theorem zo (H : Heap) (b o : Nat) (v : V) {Q : V → Heap → Prop} : wp (st1 (ptr b o) v) Q H ↔ stG (H.get b) o v fun y => Q undef (H.set b y) := by
  unfold stG
  constructor
  · rintro ⟨a, H', h1, h2⟩
    simp only [st1] at h1
    split at h1
    · rename_i cs hg
      rw [hg]
      split at h1
      · rename_i hc
        cases h1
        simp only [Bool.and_eq_true, decide_eq_true_eq] at hc
        exact ⟨hc.1, hc.2, h2⟩
      · cases h1
    · cases h1
  · intro h
    split at h
    · rename_i cs hg
      exact (zbpe hg h.1 h.2.1).mpr h.2.2
    · exact h.elim
@[congr] theorem zbwh {x x' : Option Blk} {o : Nat} {v : V} {k : Option Blk → Prop} (h : x = x') : stG x o v k = stG x' o v k := by rw [h]
theorem zbpo {cs : List V} {o : Nat} {v : V} {k : Option Blk → Prop} (ho : o < cs.length) : stG (some (.cells true cs)) o v k ↔ (v.isOne = true ∧ k (some (.cells true (cs.set o v)))) := by simp [stG, ho]
def stnG (x : Option Blk) (n o : Nat) (v : V) (k : Option Blk → Prop) : Prop := match x, v with
  | some (.cells true cs), .agg vs => vs.toList.all Value.isOne = true ∧ vs.toList.length = n ∧ o + n ≤ cs.length ∧ k (some (.cells true (splice cs o vs.toList)))
  | _, _ => False
theorem zp (H : Heap) (b o n : Nat) (v : V) {Q : V → Heap → Prop} : wp (stn n (ptr b o) v) Q H ↔ stnG (H.get b) n o v fun y => Q undef (H.set b y) := by
  unfold stnG
  constructor
  · rintro ⟨a, H', h1, h2⟩
    simp only [stn] at h1
    split at h1
    · rename_i b' o' vs hp
      cases hp
      split at h1
      · rename_i cs hg
        rw [hg]
        split at h1
        · rename_i hc
          cases h1
          simp only [Bool.and_eq_true, decide_eq_true_eq, beq_iff_eq] at hc
          exact ⟨hc.1.1, hc.1.2, hc.2, h2⟩
        · cases h1
      · cases h1
    · cases h1
  · intro h
    split at h
    · rename_i cs vs hg
      refine ⟨undef, _, ?_, h.2.2.2⟩
      simp only [stn, hg]
      rw [if_pos (by simp [h.1, h.2.1, h.2.2.1])]
    · exact h.elim
@[congr] theorem zbvf {x x' : Option Blk} {n o : Nat} {v : V} {k : Option Blk → Prop} (h : x = x') : stnG x n o v k = stnG x' n o v k := by rw [h]
theorem z9o {cs vs : List V} {n o : Nat} {k : Option Blk → Prop} (hv : vs.all Value.isOne = true) (hn : vs.length = n) (ho : o + n ≤ cs.length) : stnG (some (.cells true cs)) n o (.agg vs.toArray) k ↔ k (some (.cells true (splice cs o vs))) := by simp [stnG, hv, hn, ho]
def ldG (x : Option Blk) (n o : Nat) (k : V → Prop) : Prop := match x with
  | some (.cells _ cs) => o + n ≤ cs.length ∧ k (.agg ((cs.drop o).take n).toArray)
  | _ => False
theorem zca (H : Heap) (b o n : Nat) {Q : V → Heap → Prop} : wp (ldn n (ptr b o)) Q H ↔ ldG (H.get b) n o fun y => Q y H := by
  unfold ldG
  constructor
  · rintro ⟨a, H', h1, h2⟩
    simp only [ldn, cellsAt] at h1
    split at h1
    · rename_i l hl
      cases h1
      split at hl
      · rename_i rw cs hg
        rw [hg]
        split at hl
        · rename_i hc; cases hl; exact ⟨hc, h2⟩
        · cases hl
      · cases hl
    · cases h1
  · intro h
    split at h
    · rename_i rw cs hg
      exact (zbpf hg h.1).mpr h.2
    · exact h.elim
@[congr] theorem zbwj {x x' : Option Blk} {n o : Nat} {k : V → Prop} (h : x = x') : ldG x n o k = ldG x' n o k := by rw [h]
theorem zxh {rw : Bool} {cs : List V} {n o : Nat} {k : V → Prop} (ho : o + n ≤ cs.length) : ldG (some (.cells rw cs)) n o k ↔ k (.agg ((cs.drop o).take n).toArray) := by simp [ldG, ho]
theorem zbaw {cs : List V} {H : Heap} {Q : V → Heap → Prop} (h : cs.all zf8 = true) : wp (newc cs) Q H ↔ Q (ptr H.next 0) (H.push (some (.cells true cs))) := z5f h
theorem zc5 {vs : List V} {H : Heap} {Q : V → Heap → Prop} (h : vs.all Value.isOne = true) : wp (zfj (.agg vs.toArray)) Q H ↔ Q (ptr H.next 0) (H.push (some (.cells true vs))) := by
  have hc : (Value.agg vs.toArray).cells.toList = vs := by simp [Value.cells]
  constructor
  · rintro ⟨a, H', h1, h2⟩
    unfold zfj at h1
    rw [hc, if_pos h] at h1
    cases h1; exact h2
  · intro hq; exact ⟨_, _, by unfold zfj; rw [hc, if_pos h], hq⟩
theorem z9p {v : V} {H : Heap} {Q : V → Heap → Prop} (h : v.isOne = true) : wp (zfj v) Q H ↔ Q (ptr H.next 0) (H.push (some (.cells true [v]))) := by
  have hc : v.cells.toList = [v] := by rw [z1d h]
  constructor
  · rintro ⟨a, H', h1, h2⟩
    unfold zfj at h1
    rw [hc] at h1
    rw [if_pos (by simp [h])] at h1
    cases h1; exact h2
  · intro hq; exact ⟨_, _, by unfold zfj; rw [hc, if_pos (by simp [h])], hq⟩
theorem zbax (off : Nat) (vs : List V) : fld1 off (.agg vs.toArray) = vs[off]? := by simp [fld1]
theorem zbay {off n : Nat} {vs : List V} (h : off + n ≤ vs.length) : fldn off n (.agg vs.toArray) = some (.agg ((vs.drop off).take n).toArray) := by simp [fldn, h]
theorem zwg (i : Nat) (vs : List V) : ext i (.tuple vs.toArray) = vs[i]? := by simp [ext]
section
variable {α : Type} [DecidableEq α] {x y : α} {p : Prop} [Decidable p]
theorem zbaz {a b : M Out} (h : p) : zn (.bool (decide (¬ p))) a b = b := by simp [h]
theorem z7h {a b : M Out} (h : x = y) : zn (.bool (decide (x ≠ y))) a b = b := by simp [h]
theorem zbj6 {m : M V} (h : x = y) : gd (.bool (decide (x ≠ y))) true m = ret zn8 := by simp [h]
theorem zbfb {m : M V} (h : x = y) : gd (.bool (decide (x ≠ y))) false m = m := by simp [h]
theorem zba0 {a b : V} (h : x = y) : zbe (.bool (decide (x ≠ y))) a b = some b := by simp [h]
end
section
variable {p : Prop} [Decidable p] {Q : Out → Heap → Prop} {QV : V → Heap → Prop} {QQ : V → Prop} {H : Heap}
end
section
variable {c : Bool} {Q : Out → Heap → Prop} {QV : V → Heap → Prop} {QQ : V → Prop} {H : Heap}
end
section
variable {p : Prop} [Decidable p] {Q : Out → Heap → Prop} {QV : V → Heap → Prop} {QQ : V → Prop} {H : Heap}
theorem zqh {a b : M Out} (h1 : p → wp a Q H) (h2 : ¬ p → wp b Q H) : wp (zn (.bool (decide p)) a b) Q H := by by_cases h : p <;> simp_all
theorem zuv {m : M V} (h1 : p → wp m QV H) (h2 : ¬ p → QV zn8 H) : wp (gd (.bool (decide p)) true m) QV H := by by_cases h : p <;> simp_all
theorem zr1 {m : M V} (h1 : p → QV zn8 H) (h2 : ¬ p → wp m QV H) : wp (gd (.bool (decide p)) false m) QV H := by by_cases h : p <;> simp_all
theorem zod {x y : V} (h1 : p → QQ x) (h2 : ¬ p → QQ y) : wpO (zbe (.bool (decide p)) x y) QQ := by by_cases h : p <;> simp_all
end
section
variable {c : Bool} {Q : Out → Heap → Prop} {QV : V → Heap → Prop} {QQ : V → Prop} {H : Heap}
theorem zxi {a b : M Out} (h1 : c = true → wp a Q H) (h2 : c = false → wp b Q H) : wp (zn (.bool c) a b) Q H := by cases c <;> simp_all
theorem z5h {m : M V} (h1 : c = true → wp m QV H) (h2 : c = false → QV zn8 H) : wp (gd (.bool c) true m) QV H := by cases c <;> simp_all
theorem z1n {m : M V} (h1 : c = true → QV zn8 H) (h2 : c = false → wp m QV H) : wp (gd (.bool c) false m) QV H := by cases c <;> simp_all
theorem zuw {x y : V} (h1 : c = true → QQ x) (h2 : c = false → QQ y) : wpO (zbe (.bool c) x y) QQ := by cases c <;> simp_all
end
theorem zbpp {α : Type} {m : M α} {v : α} (h : ∀ H, wp m (fun r H' => r = v ∧ H' = H) H) : m = ret v := by
  funext H
  obtain ⟨a, H', h1, rfl, rfl⟩ := h H
  exact h1
theorem q_of {Q : V → Heap → Prop} {v v' : V} {H : Heap} (h : Q v H) (e : v = v') : Q v' H := e ▸ h
theorem zba1 : zbi [] = .tuple #[] := rfl
theorem zba2 (a b : V) : zbi [a, b] = .tuple #[a, b] := rfl
theorem z3n (a b c : V) : zbi [a, b, c] = .tuple #[a, b, c] := rfl
theorem z7i (a b c d : V) : zbi [a, b, c, d] = .tuple #[a, b, c, d] := rfl
theorem zba3 (b o : Nat) (H : Heap) (v : V) : chk (ld1 (ptr b o)) H v = zjp (zis (H.get b) o) v := by rw [zbr2, zc2]
theorem zbu {S : List Nat} {H0 H : Heap} {x : Option Blk} (h : Keeps S H0 H) : Keeps S H0 (H.push x) :=
  ⟨by have := h.next; simp; omega, fun b hb hn => by rw [Heap.get_push_lt (by have := h.next; omega), h.same b hb hn]⟩
theorem zc3 {S : List Nat} {H0 H : Heap} {b : Nat} {x : Option Blk} (h : Keeps S H0 H) (hb : b ∈ S ∨ H0.next ≤ b) : Keeps S H0 (H.set b x) :=
  ⟨by have := h.next; simp; omega, fun c hc hn => by
    have : c ≠ b := fun e => by subst e; rcases hb with hb | hb; exact hn hb; omega
    rw [Heap.get_set_ne _ _ _ this, h.same c hc hn]⟩
end Go.AM

/- Slices of one-cell elements, somewhere in a block that one owns. -/
namespace Go.AM
def Seg (H : Heap) (v : V) (l : List V) : Prop := (v = .slice none 0 0 ∧ l = []) ∨ ∃ b o c cs, v = slc b o 1 l.length c ∧ l.length ≤ c ∧ H.get b = some (.cells true cs) ∧ (l = [] ∨ (o + l.length ≤ cs.length ∧ (cs.drop o).take l.length = l))
theorem Seg.nil (H : Heap) : Seg H (.slice none 0 0) [] := .inl ⟨rfl, rfl⟩
theorem Seg.keep {S : List Nat} {H H' : Heap} {v : V} {l : List V} (h : Seg H v l) (hk : Keeps S H H') (hn : ∀ b ∈ vb v, b ∉ S) : Seg H' v l := by
  rcases h with h | ⟨b, o, c, cs, rfl, hc, hb, hl⟩
  · exact .inl h
  · exact .inr ⟨b, o, c, cs, rfl, hc, hk.get hb (hn b (by simp)), hl⟩
theorem Seg.same {H H' : Heap} {v : V} {l : List V} (h : Seg H v l) (hs : ∀ b ∈ vb v, H'.get b = H.get b) : Seg H' v l := by
  rcases h with h | ⟨b, o, c, cs, rfl, hc, hb, hl⟩
  · exact .inl h
  · exact .inr ⟨b, o, c, cs, rfl, hc, by rw [hs b (by simp)]; exact hb, hl⟩
theorem Seg.len {H : Heap} {v : V} {l : List V} (h : Seg H v l) : zx v = some (i64 l.length) := by
  rcases h with ⟨rfl, rfl⟩ | ⟨b, o, c, cs, rfl, hc, hb, hl⟩ <;> rfl
theorem Seg.lt {H : Heap} {v : V} {l : List V} (h : Seg H v l) : ∀ b ∈ vb v, b < H.next := by
  rcases h with ⟨rfl, rfl⟩ | ⟨b, o, c, cs, rfl, hc, hb, hl⟩
  · simp
  · simpa using Heap.get_lt hb
theorem Seg.isOne {H : Heap} {v : V} {l : List V} (h : Seg H v l) : v.isOne = true := by
  rcases h with ⟨rfl, rfl⟩ | ⟨b, o, c, cs, rfl, _⟩ <;> rfl
theorem Seg.cells {H : Heap} {v : V} {l : List V} (h : Seg H v l) : zba H 1 v = some l := by
  rcases h with ⟨rfl, rfl⟩ | ⟨b, o, c, cs, rfl, hc, hb, hl⟩
  · rfl
  · simp only [zba]
    by_cases h0 : l.length = 0
    · rw [if_pos h0, List.eq_nil_of_length_eq_zero h0]
    · rw [if_neg h0]
      rcases hl with rfl | ⟨h1, h2⟩
      · simp at h0
      · simp [cellsAt, hb, h1, h2]
theorem Seg.addr {H : Heap} {v : V} {l : List V} (h : Seg H v l) {k : IntKind} {i : Int} (h0 : 0 ≤ i) (hi : i < l.length) : zy 1 v (.int k i) = some (ptr (slB v) (slO v + i.toNat)) := by
  rcases h with ⟨rfl, rfl⟩ | ⟨b, o, c, cs, rfl, _⟩
  · simp at hi; omega
  · have := z3l (b := b) (o := o) (u := 1) (cap := c) (size := 1) (k := k) h0 hi
    rw [Nat.mul_one] at this; exact this
theorem Seg.cell {H : Heap} {v : V} {l : List V} (h : Seg H v l) {i : Nat} (hi : i < l.length) : zps H (ptr (slB v) (slO v + i)) = l[i]? := by
  rcases h with ⟨rfl, rfl⟩ | ⟨b, o, c, cs, rfl, hc, hb, hl⟩
  · simp at hi
  · rcases hl with rfl | ⟨h1, h2⟩
    · simp at hi
    · show zps H (ptr b (o + i)) = _
      rw [z1m hb]
      have : ((cs.drop o).take l.length)[i]? = l[i]? := by rw [h2]
      rw [List.getElem?_take, if_pos hi, List.getElem?_drop] at this
      exact this
theorem Seg.sub {H : Heap} {v : V} {l : List V} (h : Seg H v l) {lo hi : Option V} {a b : Nat} (hlo : zdq 0 b lo = some a) (hhi : ∀ c, l.length ≤ c → zdq l.length c hi = some b) (h1 : a ≤ b) (h2 : b ≤ l.length) : ∃ w, zhk 1 v lo hi = some w ∧ Seg H w ((l.drop a).take (b - a)) ∧ (∀ x ∈ vb w, x ∈ vb v) ∧ w.isOne = true := by
  have hlen : ((l.drop a).take (b - a)).length = b - a := by simp; omega
  rcases h with ⟨rfl, rfl⟩ | ⟨blk, o, c, cs, rfl, hc, hb, hl⟩
  · simp only [List.length_nil] at h2 hhi
    have hb0 : b = 0 := by omega
    subst hb0
    have ha0 : a = 0 := by omega
    subst ha0
    exact ⟨.slice none 0 0, by simp [zhk, hhi 0 (Nat.le_refl _), hlo], .inl ⟨rfl, by simp⟩, fun x hx => hx, rfl⟩
  · refine ⟨zqs blk o 1 a b c 1, ?_, ?_, ?_, ?_⟩
    · simp only [zhk, hhi c hc, hlo]
      simp
    · unfold zqs
      split
      · rename_i hca
        have : b = a := by omega
        subst this
        refine .inr ⟨blk, o, c - b, cs, by simp, by simp, hb, .inl (by simp)⟩
      · refine .inr ⟨blk, o + a * 1, c - a, cs, by rw [hlen], by rw [hlen]; omega, hb, ?_⟩
        rcases hl with rfl | ⟨q1, q2⟩
        · left; simp
        · right
          rw [hlen]
          refine ⟨by omega, ?_⟩
          conv => rhs; rw [← q2]
          rw [List.drop_take, List.take_take, List.drop_drop, Nat.mul_one]
          congr 1
          omega
    · unfold zqs; split <;> simp
    · unfold zqs; split <;> rfl
theorem zm {zero : List V} {parts : List (Nat × Nat × V)} (h : zero.all zf8 = true) : build zero parts = (zbs zero parts).map fun cs => .agg cs.toArray := by
  simp only [build, h, if_true]
  cases zbs zero parts <;> rfl
theorem zcg (cs : List V) : zbs cs [] = some cs := rfl
theorem zf {cs : List V} {off : Nat} {v : V} {rest : List (Nat × Nat × V)} (hv : v.isOne = true) (h : off < cs.length) : zbs cs ((off, 1, v) :: rest) = zbs (cs.set off v) rest := by
  have hc : v.cells.toList = [v] := by rw [z1d hv]
  have hs : v.cells.size = 1 := by rw [z1d hv]; rfl
  simp only [zbs, hc, hs]
  rw [if_pos (by simp [hv]; omega)]
  congr 1
  simp only [splice, List.length_singleton]
  rw [List.set_eq_take_append_cons_drop, if_pos h]
  rfl
theorem zj {cs : List V} {off : Nat} {a : Option Addr} {n c : Nat} {rest : List (Nat × Nat × V)} (h : off < cs.length) : zbs cs ((off, 1, .slice a n c) :: rest) = zbs (cs.set off (.slice a n c)) rest := zf rfl h
theorem zi {cs : List V} {off : Nat} {k : IntKind} {n : Int} {rest : List (Nat × Nat × V)} (h : off < cs.length) : zbs cs ((off, 1, .int k n) :: rest) = zbs (cs.set off (.int k n)) rest := zf rfl h
theorem zg {cs : List V} {off : Nat} {s : ByteArray} {rest : List (Nat × Nat × V)} (h : off < cs.length) : zbs cs ((off, 1, .string s) :: rest) = zbs (cs.set off (.string s)) rest := zf rfl h
theorem z3o {cs : List V} {off : Nat} {b : Bool} {rest : List (Nat × Nat × V)} (h : off < cs.length) : zbs cs ((off, 1, .bool b) :: rest) = zbs (cs.set off (.bool b)) rest := zf rfl h
theorem z7j {cs : List V} {off : Nat} {a : Option Addr} {rest : List (Nat × Nat × V)} (h : off < cs.length) : zbs cs ((off, 1, .pointer a) :: rest) = zbs (cs.set off (.pointer a)) rest := zf rfl h
theorem z7k {cs : List V} {off : Nat} {a : Option Nat} {rest : List (Nat × Nat × V)} (h : off < cs.length) : zbs cs ((off, 1, .map a) :: rest) = zbs (cs.set off (.map a)) rest := zf rfl h
theorem zl {cs vs : List V} {off n : Nat} {rest : List (Nat × Nat × V)} (hv : vs.all Value.isOne = true) (hn : vs.length = n) (h : off + n ≤ cs.length) : zbs cs ((off, n, .agg vs.toArray) :: rest) = zbs (splice cs off vs) rest := by
  have hc : (Value.agg vs.toArray).cells.toList = vs := by simp [Value.cells]
  have hs : (Value.agg vs.toArray).cells.size = n := by simp [Value.cells, hn]
  simp only [zbs, hc, hs]
  rw [if_pos (by simp [hv]; omega)]
theorem zzs (H : Heap) : zuc H 1 = H.push none := rfl
theorem zba5 (H : Heap) : zuc H 2 = (H.push none).push none := rfl
theorem z3p (H : Heap) : zgg H [] = true := rfl
theorem zqv {H : Heap} {b : Nat} {bs : List Nat} (h : H.get b = none) (hl : b < H.next) : zgg H (b :: bs) = zgg H bs := by
  have : Nat.blt b H.next = true := by simpa [Nat.blt_eq] using hl
  simp [zgg, h, this]
theorem z8k {id size len : Nat} {zero cs : List V} {parts : List (Nat × Nat × V)} {H : Heap} {Q : V → Heap → Prop} (h : H.get id = none) (hl : id < H.next) (hz : zero.all zf8 = true) (hf : zbs zero parts = some cs) (hQ : Q (slc id 0 size len len) (H.set id (some (.cells true cs)))) : wp (flt id (zdv size len zero parts)) Q H := by
  have e : zdv size len zero parts Heap.none0 = some (slc 0 0 size len len, Heap.one (.cells true cs)) := by
    simp only [zdv, hz, if_true, hf]; rfl
  have : Nat.blt id H.next = true := by simpa [Nat.blt_eq] using hl
  exact ⟨_, _, by simp only [flt, e, Heap.one?_one, h, this, cond_true, zrk], hQ⟩
theorem z5i {id size bytes n c : Nat} {zero : List V} {k k' : IntKind} {H : Heap} {Q : V → Heap → Prop} (h : H.get id = none) (hl : id < H.next) (hz : zero.all zf8 = true) (h1 : n ≤ c) (h2 : c ≤ 140737488355328) (h3 : bytes * c ≤ 140737488355328) (hQ : Q (slc id 0 size n c) (H.set id (some (.cells true (rep c zero))))) : wp (flt id (zyk size bytes zero (.int k n) (.int k' c))) Q H := by
  have e : zyk size bytes zero (.int k n) (.int k' c) Heap.none0 = some (slc 0 0 size n c, Heap.one (.cells true (rep c zero))) := by
    simp only [zyk]
    rw [if_pos ⟨hz, by omega, by omega, by omega, by rw [← Int.natCast_mul]; omega⟩, Int.toNat_natCast, Int.toNat_natCast]
    rfl
  have : Nat.blt id H.next = true := by simpa [Nat.blt_eq] using hl
  exact ⟨_, _, by simp only [flt, e, Heap.one?_one, h, this, cond_true, zrk], hQ⟩
theorem zbhp {α : Type} [Flat α] (x : α) (zero : List V) (hz : zero = Flat.enc x) : ∀ n, rep n zero = zbo (List.replicate n x)
  | 0 => rfl
  | n + 1 => by rw [rep, zbhp x zero hz n, List.replicate_succ, zgu, hz]
end Go.AM

/- Maps that are held: their z1c as lists of keys and values. -/
namespace Go.AM
class KeyE (κ : Type) [DecidableEq κ] where
  kk : KK
  enc : κ → V
  eq : ∀ a b, zst kk (enc a) (enc b) = some (decide (a = b))
  fits : ∀ a, zm3 kk (enc a) = true
  solid : ∀ a, (enc a).isSolid = true
class ValE (ω : Type) where
  enc : ω → V
  solid : ∀ a, (enc a).isSolid = true
theorem z9q (a b : Int) : (a == b) = decide (a = b) := by by_cases h : a = b <;> simp [h]
instance : KeyE Int := ⟨.one .i, i64, fun a b => by simp only [zst, eqK, if_true, z9q], fun _ => rfl, fun _ => rfl⟩
instance : ValE Int := ⟨i64, fun _ => rfl⟩
instance : ValE Bool := ⟨.bool, fun _ => rfl⟩
theorem ki (n : Int) : KeyE.enc n = i64 n := rfl
abbrev pr (a b : Int) : V := .agg [i64 a, i64 b].toArray
instance : KeyE (Int × Int) := ⟨.agg [.i, .i], fun a => pr a.1 a.2, fun a b => by
  simp only [zst, zyi, zqr, eqK, if_true, z9q]
  by_cases h : a.1 = b.1
  · by_cases h2 : a.2 = b.2
    · rw [decide_eq_true h, decide_eq_true h2, decide_eq_true (show a = b from Prod.ext h h2)]
    · rw [decide_eq_true h, decide_eq_false h2, decide_eq_false (show ¬ a = b from fun e => h2 (by rw [e]))]
  · rw [decide_eq_false h, decide_eq_false (show ¬ a = b from fun e => h (by rw [e]))], fun _ => rfl, fun _ => rfl⟩
theorem kp (a : Int × Int) : KeyE.enc a = pr a.1 a.2 := rfl
section
variable {κ ω : Type} [DecidableEq κ] [KeyE κ] [ValE ω]
def zj6 (e : κ × ω) : V × V := (KeyE.enc e.1, ValE.enc e.2)
def z7l (k : κ) : List (κ × ω) → Option Nat
  | [] => none
  | e :: es => if k = e.1 then some 0 else (z7l k es).map (· + 1)
def zmp (es : List (κ × ω)) (k : κ) : Option ω := match es with
  | [] => none
  | e :: es => if k = e.1 then some e.2 else zmp es k
def ziz (es : List (κ × ω)) (k : κ) (v : ω) : List (κ × ω) := match es with
  | [] => [(k, v)]
  | e :: es => if k = e.1 then (k, v) :: es else e :: ziz es k v
def adel (es : List (κ × ω)) (k : κ) : List (κ × ω) := match es with
  | [] => []
  | e :: es => if k = e.1 then es else e :: adel es k
theorem z7m (k : κ) : ∀ es : List (κ × ω), ziq (KeyE.kk κ) (KeyE.enc k) (es.map zj6) = some (z7l k es)
  | [] => rfl
  | e :: es => by
    have ih := z7m k es
    simp only [List.map_cons, ziq, z7l]
    rw [show zst (KeyE.kk κ) (KeyE.enc k) (zj6 e).1 = some (decide (k = e.1)) from KeyE.eq k e.1]
    by_cases h : k = e.1
    · simp [h]
    · rw [decide_eq_false h, if_neg h, ih]
      cases z7l k es <;> rfl
theorem z7n {k : κ} : ∀ {es : List (κ × ω)}, z7l k es = none → zmp es k = none ∧ (∀ v, ziz es k v = es ++ [(k, v)]) ∧ adel es k = es
  | [], _ => ⟨rfl, fun _ => rfl, rfl⟩
  | e :: es, h => by
    simp only [z7l] at h
    split at h
    · cases h
    · rename_i hk
      have h' : z7l k es = none := by cases hq : z7l k es <;> simp_all
      obtain ⟨a, b, c⟩ := z7n h'
      simp [zmp, ziz, adel, hk, a, b, c]
theorem z7o {k : κ} : ∀ {es : List (κ × ω)} {i : Nat}, z7l k es = some i → i < es.length ∧ (∃ v, es[i]? = some (k, v) ∧ zmp es k = some v) ∧ (∀ v, ziz es k v = es.set i (k, v)) ∧ adel es k = es.eraseIdx i
  | e :: es, i, h => by
    simp only [z7l] at h
    split at h
    · rename_i hk
      cases h; subst hk
      exact ⟨by simp, ⟨e.2, by simp, by simp [zmp]⟩, fun v => by simp [ziz], by simp [adel]⟩
    · rename_i hk
      cases hq : z7l k es with
      | none => rw [hq] at h; cases h
      | some j =>
        rw [hq] at h; cases h
        obtain ⟨a, ⟨v, b1, b2⟩, c, d⟩ := z7o hq
        exact ⟨by simpa using a, ⟨v, by simpa using b1, by simp [zmp, hk, b2]⟩, fun v => by simp [ziz, hk, c], by simp [adel, hk, d]⟩
theorem zbhq {k : κ} {v : ω} {x : κ × ω} : ∀ {l : List (κ × ω)}, x ∈ ziz l k v → x = (k, v) ∨ x ∈ l
  | [], h => by simp [ziz] at h; exact .inl h
  | y :: l, h => by
    simp only [ziz] at h
    split at h
    · rcases List.mem_cons.1 h with q | q
      · exact .inl q
      · right; simp [q]
    · rcases List.mem_cons.1 h with q | q
      · right; simp [q]
      · rcases zbhq q with r | r
        · exact .inl r
        · right; simp [r]
def MapR (H : Heap) (m : Nat) (es : List (κ × ω)) : Prop := H.get m = some (.map true (es.map zj6))
def zux (x : Option Blk) (kk : KK) (zero : V) (ok : Bool) (k : V) : Option V := match x with
  | some (.map _ es) => if (zm3 kk k && zf8 zero) = true then (match ziq kk k es with
    | some (some i) => match es[i]? with | some e => some (if ok then .tuple #[e.2, .bool true] else e.2) | none => none
    | some none => some (if ok then .tuple #[zero, .bool false] else zero)
    | none => none) else none
  | _ => none
@[congr] theorem zbt9 {x x' : Option Blk} {kk : KK} {zero : V} {ok : Bool} {k : V} (h : x = x') : zux x kk zero ok k = zux x' kk zero ok k := by rw [h]
theorem zg0 (H : Heap) (m : Nat) (kk : KK) (zero : V) (ok : Bool) (k : V) {Q : V → Heap → Prop} : wp (lookup kk zero ok (.map (some m)) k) Q H ↔ wpO (zux (H.get m) kk zero ok k) fun v => Q v H := by
  have e : lookup kk zero ok (.map (some m)) k H = (zux (H.get m) kk zero ok k).map fun v => (v, H) := by
    simp only [lookup, zux, z1c]
    generalize H.get m = x
    by_cases hc : (zm3 kk k && zf8 zero) = true
    · rw [if_pos hc]
      cases x with
      | none => rfl
      | some x =>
        cases x with
        | map rw es =>
          simp only
          rw [if_pos hc]
          cases ziq kk k es with
          | none => rfl
          | some o => cases o with
            | none => rfl
            | some i => simp only; cases es[i]? <;> rfl
        | cells rw cs => rfl
        | siter s p => rfl
        | bld t u b n => rfl
        | buf t cs => rfl
    · rw [if_neg hc]
      cases x with
      | none => rfl
      | some x =>
        cases x with
        | map rw es => simp only; rw [if_neg hc]; rfl
        | cells rw cs => rfl
        | siter s p => rfl
        | bld t u b n => rfl
        | buf t cs => rfl
  unfold wp wpO
  rw [e]
  cases zux (H.get m) kk zero ok k with
  | none => simp
  | some v =>
    constructor
    · rintro ⟨a, H', h1, h2⟩; cases h1; exact ⟨_, rfl, h2⟩
    · rintro ⟨a, h1, h2⟩; cases h1; exact ⟨_, _, rfl, h2⟩
theorem z1o (rw_ : Bool) (es : List (κ × ω)) (zero : V) (hz : zf8 zero = true) (k : κ) : zux (some (.map rw_ (es.map zj6))) (KeyE.kk κ) zero false (KeyE.enc k) = some ((zmp es k).elim zero ValE.enc) := by
  have hc : (zm3 (KeyE.kk κ) (KeyE.enc k) && zf8 zero) = true := by rw [KeyE.fits, hz]; rfl
  simp only [zux, hc, if_true, z7m]
  cases ha : z7l k es with
  | none => simp [(z7n ha).1]
  | some i =>
    obtain ⟨h1, ⟨v, h2, h3⟩, _⟩ := z7o ha
    simp [h2, h3, zj6]
def setG (x : Option Blk) (kk : KK) (k v : V) (K : Option Blk → Prop) : Prop := match x with
  | some (.map true es) => (zm3 kk k && k.isSolid && v.isSolid) = true ∧ match ziq kk k es with
    | some (some i) => K (some (.map true (es.set i (k, v))))
    | some none => K (some (.map true (es ++ [(k, v)])))
    | none => False
  | _ => False
@[congr] theorem zbvg {x x' : Option Blk} {kk : KK} {k v : V} {K : Option Blk → Prop} (h : x = x') : setG x kk k v K = setG x' kk k v K := by rw [h]
theorem zs4 (H : Heap) (m : Nat) (kk : KK) (k v : V) {Q : V → Heap → Prop} : wp (zf2 kk (.map (some m)) k v) Q H ↔ setG (H.get m) kk k v fun y => Q undef (H.set m y) := by
  unfold wp setG zf2
  cases hc : (zm3 kk k && k.isSolid && v.isSolid) with
  | false => simp; split <;> simp_all
  | true =>
    simp only [if_true]
    cases hg : H.get m with
    | none => simp
    | some x =>
      cases x with
      | map rw es =>
        cases rw with
        | false => simp
        | true =>
          simp only [true_and]
          cases ziq kk k es with
          | none => simp
          | some o => cases o with
            | none =>
              constructor
              · rintro ⟨a, H', h1, h2⟩; cases h1; exact h2
              · intro h; exact ⟨_, _, rfl, h⟩
            | some i =>
              constructor
              · rintro ⟨a, H', h1, h2⟩; cases h1; exact h2
              · intro h; exact ⟨_, _, rfl, h⟩
      | cells rw cs => simp
      | siter s p => simp
      | bld t u b n => simp
      | buf t cs => simp
theorem z5j (es : List (κ × ω)) (k : κ) (v : ω) (K : Option Blk → Prop) : setG (some (.map true (es.map zj6))) (KeyE.kk κ) (KeyE.enc k) (ValE.enc v) K ↔ K (some (.map true ((ziz es k v).map zj6))) := by
  have hc : (zm3 (KeyE.kk κ) (KeyE.enc k) && (KeyE.enc k : V).isSolid && (ValE.enc v : V).isSolid) = true := by rw [KeyE.fits, KeyE.solid, ValE.solid]; rfl
  simp only [setG, hc, true_and, z7m]
  cases ha : z7l k es with
  | none => rw [(z7n ha).2.1 v]; simp [zj6]
  | some i => rw [(z7o ha).2.2.1 v]; simp [List.map_set, zj6]
theorem MapR.keep {S : List Nat} {H H' : Heap} {m : Nat} {es : List (κ × ω)} (h : MapR H m es) (hk : Keeps S H H') (hm : m ∉ S) : MapR H' m es := hk.get h hm
theorem MapR.lt {H : Heap} {m : Nat} {es : List (κ × ω)} (h : MapR H m es) : m < H.next := Heap.get_lt h
end
end Go.AM

/- Slices that are copied; makes that float. -/
namespace Go.AM
theorem zbne {α : Type} [Flat α] {H : Heap} {b n bytes : Nat} {xv : V} {xs : List α} {Q : V → Heap → Prop} (hs : Flat.size α = n) (hb : H.get b = some (.cells true [])) (hx : Sl H xv xs) (hn : xs.length * n ≤ 1000000) (hl : xs.length ≤ 1000000) (hby : bytes ≤ 1000) (hQ : ∀ w H', (w = slc b 0 n 0 0 ∧ xs = [] ∧ H' = H ∨ w = slc H.next 0 n xs.length xs.length ∧ H'.get H.next = some (.cells true (zbo xs)) ∧ Keeps [b] H H' ∧ xs ≠ [] ∧ H'.next = H.next + 1) → Q w H') : wp (zgf n bytes (slc b 0 n 0 0) xv) Q H := by
  subst hs
  by_cases h0 : xs = []
  · subst h0
    refine ⟨slc b 0 (Flat.size α) 0 0, H, ?_, hQ _ _ (.inl ⟨rfl, rfl, rfl⟩)⟩
    rcases hx with ⟨rfl, _⟩ | ⟨bb, o, u, c, rfl, _⟩ <;> rfl
  · have hne : xs.length ≠ 0 := fun h => h0 (List.eq_nil_of_length_eq_zero h)
    have hc : zba H (Flat.size α) xv = some (zbo xs) := by
      rcases hx with ⟨rfl, e⟩ | ⟨bb, o, u, c, rfl, hc, _, hl2, _⟩
      · exact absurd e h0
      · rcases hl2 with e | ⟨rw, cs, hg, q1, q2⟩
        · exact absurd e h0
        · simp only [zba, hne, if_false, cellsAt, hg]
          rw [if_pos q1, q2]
    have hf : ∃ a c, xv = .slice a xs.length c := by
      rcases hx with ⟨rfl, e⟩ | ⟨bb, o, u, c, rfl, _⟩
      · exact absurd e h0
      · exact ⟨_, _, rfl⟩
    obtain ⟨a, c, rfl⟩ := hf
    have hlt := Heap.get_lt hb
    have hone := zbav xs
    have hel := zcu xs
    have hcs0 : zba H (Flat.size α) (slc b 0 (Flat.size α) 0 0) = some [] := rfl
    have hm : xs.length * bytes ≤ 1000000 * 1000 := Nat.mul_le_mul hl hby
    refine ⟨slc H.next 0 (Flat.size α) xs.length xs.length, (H.set b none).push (some (.cells true (zbo xs))), ?_, hQ _ _ (.inr ⟨rfl, ?_, ?_, h0, by simp⟩)⟩
    · simp only [zgf, hc, zun, hne, if_false, hcs0, zq6, hb, if_true]
      rw [if_pos ⟨by rw [Nat.zero_add]; omega, by omega, hone, hel⟩]
      simp
    · have := Heap.get_push_self (H.set b none) (some (.cells true (zbo xs)))
      simpa using this
    · exact ⟨by simp, fun c hc hn => by rw [Heap.get_push_lt (by simpa using hc), Heap.get_set_ne _ _ _ (by simpa using hn)]⟩
theorem zxj {id : Nat} {H : Heap} {Q : V → Heap → Prop} (h : H.get id = none) (hl : id < H.next) (hQ : Q (.map (some id)) (H.set id (some (.map true [])))) : wp (flt id zsu) Q H := by
  have e : zsu Heap.none0 = some (.map (some 0), Heap.one (.map true [])) := rfl
  have : Nat.blt id H.next = true := by simpa [Nat.blt_eq] using hl
  exact ⟨_, _, by simp only [flt, e, Heap.one?_one, h, this, cond_true, zrk], hQ⟩
theorem zbj7 (n : Nat) (H : Heap) : Keeps [] H (zuc H n) := ⟨by rw [(zsq n H).2]; omega, fun b _ _ => (zsq n H).1 b⟩
theorem zbnf {n : Nat} {H : Heap} {b : Nat} (h : H.next ≤ b) : (zuc H n).get b = none := by
  rw [(zsq n H).1]
  cases hg : H.get b with
  | none => rfl
  | some x => have := Heap.get_lt hg; omega
theorem zbng (n : Nat) (H : Heap) : (zuc H n).next = H.next + n := (zsq n H).2
theorem z3q {H : Heap} : ∀ {l : List Nat}, (∀ b ∈ l, H.get b = none ∧ b < H.next) → zgg H l = true
  | [], _ => rfl
  | b :: l, h => by
    rw [zqv (h b (by simp)).1 (h b (by simp)).2]
    exact z3q fun c hc => h c (by simp [hc])
end Go.AM

/- Own slices of flat things. -/
namespace Go.AM
section
variable {α : Type} [Flat α]
def zib (H : Heap) (v : V) (xs : List α) : Prop := (v = .slice none 0 0 ∧ xs = []) ∨ ∃ b, v = slc b 0 (Flat.size α) xs.length xs.length ∧ H.get b = some (.cells true (zbo xs))
theorem zib.nil (H : Heap) : zib H (.slice none 0 0) ([] : List α) := .inl ⟨rfl, rfl⟩
theorem zib.keep {S : List Nat} {H H' : Heap} {v : V} {l : List α} (h : zib H v l) (hk : Keeps S H H') (hn : ∀ b ∈ vb v, b ∉ S) : zib H' v l := by
  rcases h with h | ⟨b, rfl, hb⟩
  · exact .inl h
  · exact .inr ⟨b, rfl, hk.get hb (hn b (by simp))⟩
theorem zib.keep0 {H H' : Heap} {v : V} {l : List α} (h : zib H v l) (hk : Keeps [] H H') : zib H' v l := h.keep hk (by simp)
theorem zib.len {H : Heap} {v : V} {l : List α} (h : zib H v l) : zx v = some (i64 l.length) := by
  rcases h with ⟨rfl, rfl⟩ | ⟨b, rfl, _⟩ <;> rfl
theorem zib.lt {H : Heap} {v : V} {l : List α} (h : zib H v l) : ∀ b ∈ vb v, b < H.next := by
  rcases h with ⟨rfl, rfl⟩ | ⟨b, rfl, hb⟩
  · simp
  · simpa using Heap.get_lt hb
theorem zib.isOne {H : Heap} {v : V} {l : List α} (h : zib H v l) : v.isOne = true := by
  rcases h with ⟨rfl, rfl⟩ | ⟨b, rfl, _⟩ <;> rfl
theorem zib.sl {H : Heap} {v : V} {l : List α} (h : zib H v l) : Sl H v l := by
  rcases h with ⟨rfl, rfl⟩ | ⟨b, rfl, hb⟩
  · exact Sl.nil H
  · refine .inr ⟨b, 0, Flat.size α, l.length, rfl, Nat.le_refl _, Heap.get_lt hb, .inr ⟨true, zbo l, hb, by rw [zcu]; omega, ?_⟩, .inr rfl⟩
    rw [List.drop_zero, List.take_of_length_le (by rw [zcu]; exact Nat.le_refl _)]
theorem zwh {H : Heap} {xs : List α} {n m : Nat} (hs : Flat.size α = n) (hm : xs.length = m) : zib (H.push (some (.cells true (zbo xs)))) (slc H.next 0 n m m) xs := by
  subst hs hm; exact .inr ⟨_, rfl, Heap.get_push_self _ _⟩
theorem zba6 {v : V} {xs ys : List α} {n m bytes : Nat} {new : Option (List V)} {H : Heap} {Q : V → Heap → Prop} (hs : Flat.size α = n) (hv : zib H v xs) (hm : ys.length = m) (hnew : ys ≠ [] → new = some (zbo ys)) (hb : (xs.length + m) * bytes ≤ 35184372088832) (hb2 : xs.length + m ≤ 35184372088832)
    (hQ : ∀ w H', zib H' w (xs ++ ys) → Keeps (vb v) H H' → (∀ b ∈ vb w, b ∈ vb v ∨ H.next ≤ b) → Q w H') : wp (zun n bytes v m new) Q H := by
  subst hs hm
  by_cases h0 : ys = []
  · subst h0
    have hf : ∃ x len cap, v = .slice x len cap := by
      rcases hv with ⟨rfl, _⟩ | ⟨b, rfl, _⟩
      · exact ⟨_, _, _, rfl⟩
      · exact ⟨_, _, _, rfl⟩
    obtain ⟨x, len, cap, rfl⟩ := hf
    exact ⟨_, H, rfl, hQ _ _ (by rw [List.append_nil]; exact hv) (Keeps.refl _ _) (fun b hb => .inl hb)⟩
  have hne : ys.length ≠ 0 := fun h => h0 (List.eq_nil_of_length_eq_zero h)
  rw [hnew h0]
  have hone := zbav ys
  have hel := zcu ys
  rcases hv with ⟨rfl, rfl⟩ | ⟨b, rfl, hg⟩
  · have e1 : zba H (Flat.size α) (.slice none 0 0) = some [] := rfl
    have e2 : zq6 H (Flat.size α) (.slice none 0 0) = some H := rfl
    refine ⟨slc H.next 0 (Flat.size α) ys.length ys.length, H.push (some (.cells true (zbo ys))), ?_, hQ _ _ ?_ (Keeps.push _ _ _) (fun b hb => .inr (by simp at hb; omega))⟩
    · simp only [List.length_nil, Nat.zero_add] at hb hb2
      simp only [zun, hne, if_false, e1, e2]
      rw [if_pos ⟨by rw [Nat.zero_add]; exact hb, by omega, hone, hel⟩]
      simp
    · exact zwh rfl (by simp)
  · have hcs : zba H (Flat.size α) (slc b 0 (Flat.size α) xs.length xs.length) = some (zbo xs) := by
      simp only [zba]
      split
      · rename_i h1; rw [List.eq_nil_of_length_eq_zero h1]; rfl
      · have e : (zbo xs).length = xs.length * Flat.size α := zcu xs
        simp only [cellsAt, hg, Nat.zero_add, List.drop_zero]
        rw [if_pos (by omega), List.take_of_length_le (by omega)]
    refine ⟨slc H.next 0 (Flat.size α) (xs.length + ys.length) (xs.length + ys.length), (H.set b none).push (some (.cells true (zbo xs ++ zbo ys))), ?_, hQ _ _ ?_ ?_ (fun c hc => .inr (by simp at hc; omega))⟩
    · simp only [zun, hne, if_false, hcs, zq6, hg, if_true]
      rw [if_pos ⟨hb, hb2, hone, hel⟩]
      simp
    · rw [← z8j]
      have := zwh (H := H.set b none) (xs := xs ++ ys) (n := Flat.size α) (m := xs.length + ys.length) rfl (by simp)
      simpa using this
    · exact ⟨by simp, fun c hc hn => by rw [Heap.get_push_lt (by simpa using hc), Heap.get_set_ne _ _ _ (by simpa using hn)]⟩
theorem zbpr {H : Heap} {v : V} {xs : List α} {n : Nat} (hs : Flat.size α = n) (h : Sl H v xs) (hne : xs ≠ []) : ∃ a c, v = .slice a xs.length c ∧ zba H n v = some (zbo xs) := by
  subst hs
  rcases h with ⟨rfl, e⟩ | ⟨bb, o, u, c, rfl, hc, _, hl2, _⟩
  · exact absurd e hne
  · rcases hl2 with e | ⟨rw, cs, hg, q1, q2⟩
    · exact absurd e hne
    · refine ⟨_, _, rfl, ?_⟩
      have hn : xs.length ≠ 0 := fun h => hne (List.eq_nil_of_length_eq_zero h)
      simp only [zba, hn, if_false, cellsAt, hg]
      rw [if_pos q1, q2]
theorem z1p {v x : V} {xs ys : List α} {n bytes : Nat} {H : Heap} {Q : V → Heap → Prop} (hs : Flat.size α = n) (hv : zib H v xs) (hx : Sl H x ys) (hb : (xs.length + ys.length) * bytes ≤ 35184372088832) (hb2 : xs.length + ys.length ≤ 35184372088832)
    (hQ : ∀ w H', zib H' w (xs ++ ys) → Keeps (vb v) H H' → (∀ b ∈ vb w, b ∈ vb v ∨ H.next ≤ b) → Q w H') : wp (zgf n bytes v x) Q H := by
  by_cases h0 : ys = []
  · subst h0
    have hf : ∃ a c, x = .slice a 0 c := by
      rcases hx with ⟨rfl, _⟩ | ⟨bb, o, u, c, rfl, _⟩
      · exact ⟨_, _, rfl⟩
      · exact ⟨_, _, rfl⟩
    obtain ⟨a, c, rfl⟩ := hf
    exact zba6 (ys := ([] : List α)) hs hv rfl (fun h => absurd rfl h) hb hb2 hQ
  · obtain ⟨a, c, rfl, hc⟩ := zbpr hs hx h0
    exact zba6 hs hv rfl (fun _ => hc) hb hb2 hQ
theorem zbef {v : V} {xs ys : List α} {n m bytes : Nat} {zero : List V} {parts : List (Nat × Nat × V)} {H : Heap} {Q : V → Heap → Prop} (hs : Flat.size α = n) (hv : zib H v xs) (hz : zero.all zf8 = true) (hf : zbs zero parts = some (zbo ys)) (hm : ys.length = m) (hb : (xs.length + m) * bytes ≤ 35184372088832) (hb2 : xs.length + m ≤ 35184372088832)
    (hQ : ∀ w H', zib H' w (xs ++ ys) → Keeps (vb v) H H' → (∀ b ∈ vb w, b ∈ vb v ∨ H.next ≤ b) → Q w H') : wp (zdv n m zero parts) (fun x H1 => wp (zgf n bytes v x) Q H1) H := by
  subst hm
  refine (zfk hz hf).mpr ?_
  have hk := Keeps.push [] H (some (.cells true (zbo ys)))
  refine z1p hs (hv.keep0 hk) (zwh hs rfl).sl hb hb2 fun w H' h1 h2 h3 => hQ w H' h1 ?_ fun b hb => (h3 b hb).imp id fun q => by simp at q; omega
  exact ⟨by have := h2.next; simp at this; omega, fun c hc hn => by rw [h2.same c (by simp; omega) hn, Heap.get_push_lt hc]⟩
end
theorem zbj8 (l : List (BitVec 8)) : zbo l = l.map B := by
  induction l with
  | nil => rfl
  | cons x l ih => rw [zgu, ih]; rfl
theorem zbps {v : V} {l : List (BitVec 8)} {H : Heap} {Q : V → Heap → Prop} (hv : zib H v l) (hQ : Q (.string (sv l)) H) : wp (b2s v) Q H := by
  refine zblk (l := l) ?_ hQ
  rw [← zbj8]
  rcases hv with ⟨rfl, rfl⟩ | ⟨b, rfl, hg⟩
  · exact .inl ⟨rfl, rfl⟩
  · refine .inr ⟨b, ?_, hg⟩
    have e : (zbo l).length = l.length := by rw [zcu]; exact Nat.mul_one _
    rw [e]; rfl
end Go.AM

/- The rules that a walk always has, as lemmas. -/
namespace Go.AM
theorem zbnh (cs : List V) (o : Nat) (l : List V) : splice cs o l = cs.take o ++ (l ++ cs.drop (o + l.length)) := rfl
def Z1 := And.intro (And.intro (And.intro (And.intro (And.intro (And.intro @zbrs @zbrt) (And.intro @z8 @z9m)) (And.intro (And.intro @z5e @wp_ret) (And.intro @zbuz @zbu0))) (And.intro (And.intro (And.intro @zbu1 @zbm5) (And.intro @zbm6 @zbm7)) (And.intro (And.intro @zbpa @zbpb) (And.intro @zbpc (And.intro @zbr7 @zbr8))))) (And.intro (And.intro (And.intro (And.intro @zbph @zbpi) (And.intro @gd_t @gd_f)) (And.intro (And.intro @zbw0 @zbw1) (And.intro @zbrr @zbwy))) (And.intro (And.intro (And.intro @zbwz @zbu7) (And.intro @zbu8 @zbu9)) (And.intro (And.intro @zbva @zbr4) (And.intro @zbr5 (And.intro @zbw2 @zbw3)))))) (And.intro (And.intro (And.intro (And.intro (And.intro @zbr6 @zbna) (And.intro @zbj3 @zbj4)) (And.intro (And.intro @zbhm @zbm9) (And.intro @zbm8 @Nat.zero_add))) (And.intro (And.intro (And.intro @Nat.add_zero @zbu2) (And.intro @zbj2 @zbe9)) (And.intro (And.intro @zbpg @zbrv) (And.intro @zbrw (And.intro @zbrx @i64_in))))) (And.intro (And.intro (And.intro (And.intro @zbr9 @zbsa) (And.intro @zbry @zbrz)) (And.intro (And.intro @zbr0 @zbr1) (And.intro @zbsb (And.intro @zbsc @if_true.{1})))) (And.intro (And.intro (And.intro @zbrq @zbo9) (And.intro @zbrp @zbsg)) (And.intro (And.intro @zbsh @zbpk) (And.intro @zbpl (And.intro @List.getElem?_cons_zero.{0} @List.getElem?_cons_succ.{0}))))))
def ZA := And.intro (And.intro (And.intro (And.intro (And.intro @Z1 (And.intro @zc2 @zzr)) (And.intro (And.intro @zbpo @eq_self.{1}) (And.intro @true_and @z9o))) (And.intro (And.intro (And.intro @zxh @zbaw) (And.intro @zc5 @Heap.get_push_eq)) (And.intro (And.intro @Heap.get_push_lt @Heap.get_set_eq) (And.intro @Heap.get_set_ne' @Heap.next_push')))) (And.intro (And.intro (And.intro (And.intro @Heap.next_set' @Heap.set_push_lt) (And.intro @Heap.set_push_eq @Heap.set_set)) (And.intro (And.intro @zbax @zbay) (And.intro @zwg @zba1))) (And.intro (And.intro (And.intro @zba2 @z3n) (And.intro @z7i @zba3)) (And.intro (And.intro @zbap @z7e) (And.intro @zbaq @zbar))))) (And.intro (And.intro (And.intro (And.intro (And.intro @zbas @zbat) (And.intro @List.set_cons_zero.{0} @List.set_cons_succ.{0})) (And.intro (And.intro @List.length_cons.{0} @List.length_nil.{0}) (And.intro @List.drop_succ_cons.{0} @List.drop_zero.{0}))) (And.intro (And.intro (And.intro @List.take_succ_cons.{0} @List.take_zero.{0}) (And.intro @List.nil_append.{0} @List.cons_append.{0})) (And.intro (And.intro @zbnh @z7b) (And.intro @z7c @z3m)))) (And.intro (And.intro (And.intro (And.intro @zzq @zu9) (And.intro @z7d @zbaz)) (And.intro (And.intro @z7h @zbj6) (And.intro @zbfb @zba0))) (And.intro (And.intro (And.intro @zcg @Option.map_some.{0,0}) (And.intro @zzs @zba5)) (And.intro (And.intro @z3p @z3o) (And.intro @z7j @z7k)))))
def ZB := And.intro (And.intro (And.intro @ZA @zca) (And.intro @zp (And.intro @zo @zm))) (And.intro (And.intro @zl @zj) (And.intro @zi (And.intro @zg @zf)))
theorem Z3 : type_of% (And.intro @Heap.next_push' @Heap.next_set') := And.intro @Heap.next_push' @Heap.next_set'
end Go.AM

/- Slices among the cells of other things. -/
namespace Go.AM
structure In (α : Type) where
  v : V
  xs : List α
  one : v.isOne = true
instance {α : Type} : Inhabited (In α) := ⟨⟨.slice none 0 0, [], rfl⟩⟩
instance {α : Type} : Flat (In α) := ⟨1, fun a => [a.v], fun _ => rfl, fun a => by simp [a.one], by decide⟩
structure Sl2 {α : Type} [Flat α] (H : Heap) (v : V) (xs : List (In α)) : Prop where
  out : Sl H v xs
  inn : ∀ x ∈ xs, Sl H x.v x.xs
theorem Sl2.keep0 {α : Type} [Flat α] {H H' : Heap} {v : V} {xs : List (In α)} (h : Sl2 H v xs) (hk : Keeps [] H H') : Sl2 H' v xs := ⟨h.out.keep0 hk, fun x hx => (h.inn x hx).keep0 hk⟩
theorem Sl2.at {α : Type} [Flat α] {H : Heap} {v : V} {xs : List (In α)} (h : Sl2 H v xs) {i : Nat} (hi : i < xs.length) : Sl H (xs.getD i default).v (xs.getD i default).xs := by
  rw [List.getD_eq_getElem?_getD, List.getElem?_eq_getElem hi]
  exact h.inn _ (List.getElem_mem hi)
theorem Sl2.get {α : Type} [Flat α] {H : Heap} {v : V} {xs : List (In α)} (h : Sl2 H v xs) {i : Nat} (hi : i < xs.length) : zy 1 v (i64 i) = some (ptr (slB v) (slO v + i)) ∧ zps H (ptr (slB v) (slO v + i)) = some (xs.getD i default).v := by
  have h1 := h.out.addr1 rfl (k := .i64) (i := i) (by omega) (by omega)
  rw [Int.toNat_natCast] at h1
  exact ⟨h1, by rw [h.out.cell1 rfl hi default]; rfl⟩
end Go.AM
