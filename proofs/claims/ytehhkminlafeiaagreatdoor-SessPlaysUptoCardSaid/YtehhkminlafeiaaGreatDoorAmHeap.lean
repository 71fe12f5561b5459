import Derived.Test.YtehhkminlafeiaaGreatDoorAmWp
set_option linter.all false
/- Slices that one owns: elements of one cell. -/
namespace Go.AM
structure Keeps (S : List Nat) (H H' : Heap) : Prop where
  next : H.next ≤ H'.next
  same : ∀ b, b < H.next → b ∉ S → H'.get b = H.get b
theorem Keeps.refl (S : List Nat) (H : Heap) : Keeps S H H := ⟨Nat.le_refl _, fun _ _ _ => rfl⟩
theorem Keeps.trans {S S' : List Nat} {H H1 H2 : Heap} (h : Keeps S H H1) (h' : Keeps S' H1 H2) (hs : ∀ b, b < H.next → b ∈ S' → b ∈ S) : Keeps S H H2 :=
  ⟨Nat.le_trans h.next h'.next, fun b hb hn => by rw [h'.same b (Nat.lt_of_lt_of_le hb h.next) (fun hi => hn (hs b hb hi)), h.same b hb hn]⟩
theorem Keeps.mono {S S' : List Nat} {H H1 : Heap} (h : Keeps S H H1) (hs : ∀ b, b ∈ S → b ∈ S') : Keeps S' H H1 := ⟨h.next, fun b hb hn => h.same b hb fun hi => hn (hs b hi)⟩
theorem Keeps.get {S : List Nat} {H H' : Heap} (h : Keeps S H H') {b : Nat} {x : Blk} (hb : H.get b = some x) (hn : b ∉ S) : H'.get b = some x := by
  rw [h.same b (Heap.get_lt hb) hn]; exact hb
theorem Keeps.push (S : List Nat) (H : Heap) (x : Option Blk) : Keeps S H (H.push x) := ⟨by simp, fun b hb _ => Heap.get_push_lt hb⟩
theorem Keeps.set {S : List Nat} {H : Heap} {b : Nat} {x : Option Blk} (h : b ∈ S) : Keeps S H (H.set b x) := ⟨by simp, fun c _ hn => Heap.get_set_ne _ _ _ fun e => hn (e ▸ h)⟩
def vb (v : V) : List Nat := match v with | .slice (some ⟨b, _, _⟩) _ _ => [b] | _ => []
@[simp] theorem zb4i (n c : Nat) : vb (.slice none n c) = [] := rfl
@[simp] theorem zbxz (b o u n c : Nat) : vb (slc b o u n c) = [b] := rfl
def Own (H : Heap) (v : V) (l : List V) : Prop := (v = .slice none 0 0 ∧ l = []) ∨ ∃ b, v = slc b 0 1 l.length l.length ∧ H.get b = some (.cells true l)
theorem Own.nil (H : Heap) : Own H (.slice none 0 0) [] := .inl ⟨rfl, rfl⟩
theorem Own.keep {S : List Nat} {H H' : Heap} {v : V} {l : List V} (h : Own H v l) (hk : Keeps S H H') (hn : ∀ b ∈ vb v, b ∉ S) : Own H' v l := by
  rcases h with h | ⟨b, rfl, hb⟩
  · exact .inl h
  · exact .inr ⟨b, rfl, hk.get hb (hn b (by simp))⟩
theorem Own.len {H : Heap} {v : V} {l : List V} (h : Own H v l) : zb9 v = some (i64 l.length) := by
  rcases h with ⟨rfl, rfl⟩ | ⟨b, rfl, hb⟩ <;> rfl
theorem Own.lt {H : Heap} {v : V} {l : List V} (h : Own H v l) : ∀ b ∈ vb v, b < H.next := by
  rcases h with ⟨rfl, rfl⟩ | ⟨b, rfl, hb⟩
  · simp
  · simpa using Heap.get_lt hb
theorem Own.idx {H : Heap} {v : V} {l : List V} (h : Own H v l) {k : IntKind} {i : Nat} (hi : i < l.length) : ∃ b, zv 1 v (.int k i) = some (ptr b i) ∧ zhl H (ptr b i) = some l[i] := by
  rcases h with ⟨rfl, rfl⟩ | ⟨b, rfl, hb⟩
  · simp at hi
  · refine ⟨b, ?_, ?_⟩
    · rw [zq0 (by omega) (by omega)]; simp
    · rw [zea hb]; simp [hi]
theorem zbua {v x : V} {l new : List V} {m bytes : Nat} {a : Option Addr} {c : Nat} {H : Heap} {Q : V → Heap → Prop} (hv : Own H v l) (hx : x = .slice a m c) (hc : zcw H 1 x = some new) (hm : m ≠ 0) (hl : new.length = m) (hone : new.all Value.isOne = true)
    (hb : (l.length + m) * bytes ≤ 35184372088832) (hb2 : l.length + m ≤ 35184372088832) (hQ : ∀ b H', Own H' (slc b 0 1 (l ++ new).length (l ++ new).length) (l ++ new) → Keeps (vb v) H H' → b = H.next → H'.next = H.next + 1 → Q (slc b 0 1 (l ++ new).length (l ++ new).length) H') : wp (ze6 1 bytes v x) Q H := by
  subst hx
  rcases hv with ⟨rfl, rfl⟩ | ⟨b, rfl, hg⟩
  · refine ⟨slc H.next 0 1 m m, H.push (some (.cells true new)), ?_, ?_⟩
    · have e1 : zcw H 1 (.slice none 0 0) = some [] := rfl
      have e2 : zxk H 1 (.slice none 0 0) = some H := rfl
      simp only [List.length_nil, Nat.zero_add] at hb hb2
      simp only [ze6, zr4, hm, if_false, hc, e1, e2]
      rw [if_pos ⟨by rw [Nat.zero_add]; exact hb, by omega, hone, by omega⟩]
      simp
    · have := hQ H.next (H.push (some (.cells true new))) (.inr ⟨H.next, by simp, Heap.get_push_self _ _⟩) (Keeps.push _ _ _) rfl (by simp)
      simpa [hl] using this
  · refine ⟨slc H.next 0 1 (l.length + m) (l.length + m), (H.set b none).push (some (.cells true (l ++ new))), ?_, ?_⟩
    · have hcs : zcw H 1 (slc b 0 1 l.length l.length) = some l := by
        simp only [zcw]
        split
        · rename_i h0; rw [List.eq_nil_of_length_eq_zero h0]
        · simp [cellsAt, hg]
      simp only [ze6, zr4, hm, if_false, hc, hcs, zxk, hg, if_true]
      rw [if_pos ⟨hb, hb2, hone, by omega⟩]
      simp
    · have := hQ H.next ((H.set b none).push (some (.cells true (l ++ new)))) (.inr ⟨H.next, by simp, by have := Heap.get_push_self (H.set b none) (some (.cells true (l ++ new))); simpa using this⟩) ⟨by simp, fun c hc hn => by rw [Heap.get_push_lt (by simpa using hc), Heap.get_set_ne _ _ _ (by simpa using hn)]⟩ rfl (by simp)
      simpa [hl] using this
theorem z1f {v : V} {l new zero : List V} {parts : List (Nat × Nat × V)} {m bytes : Nat} {H : Heap} {Q : V → Heap → Prop} (hv : Own H v l) (hz : zero.all zno = true) (hf : zef zero parts = some new) (hm : m ≠ 0) (hl : new.length = m) (hone : new.all Value.isOne = true)
    (hb : (l.length + m) * bytes ≤ 35184372088832) (hb2 : l.length + m ≤ 35184372088832) (hQ : ∀ b H', Own H' (slc b 0 1 (l ++ new).length (l ++ new).length) (l ++ new) → Keeps (vb v) H H' → H.next ≤ b → Q (slc b 0 1 (l ++ new).length (l ++ new).length) H') :
    wp (zd7 1 m zero parts) (fun x H1 => wp (ze6 1 bytes v x) Q H1) H := by
  refine (zgv hz hf).mpr ?_
  have hk := Keeps.push [] H (some (.cells true new))
  refine zbua (hv.keep hk (by simp)) rfl ?_ hm hl hone hb hb2 fun b H' h1 h2 h3 h4 => hQ b H' h1 ?_ (by simp at h3; omega)
  · have := Heap.get_push_self H (some (.cells true new))
    simp [zcw, hm, cellsAt, this, hl]
    rw [← hl, List.take_length]
  · exact ⟨by have := h2.next; simp at this; omega, fun c hc hn => by rw [h2.same c (by simp; omega) hn, Heap.get_push_lt hc]⟩
theorem zbsl {v : V} {l : List V} {bs : List UInt8} {H : Heap} {Q : V → Heap → Prop} (hv : Own H v l) (hl : zr3 l = some bs) (hQ : Q (.string ⟨bs.toArray⟩) H) : wp (b2s v) Q H := by
  rcases hv with ⟨rfl, rfl⟩ | ⟨b, rfl, hg⟩
  · simp [zr3] at hl; subst hl
    exact ⟨_, _, rfl, hQ⟩
  · refine ⟨_, _, ?_, hQ⟩
    simp [b2s, cellsAt, hg, hl]
end Go.AM

/- Rules for walks: conditions that are told at once. -/
namespace Go.AM
section
variable {p : Prop} [Decidable p]
theorem zbil {a b : M Out} (h : p) : zi (.bool (decide p)) a b = a := by simp [h]
theorem zbim {a b : M Out} (h : ¬ p) : zi (.bool (decide p)) a b = b := by simp [h]
theorem zbx0 {m : M V} (h : p) : gd (.bool (decide p)) true m = m := by simp [h]
theorem zbx1 {m : M V} (h : ¬ p) : gd (.bool (decide p)) true m = ret zxo := by simp [h]
theorem zbsm {m : M V} (h : p) : gd (.bool (decide p)) false m = ret zxo := by simp [h]
theorem zbsn {m : M V} (h : ¬ p) : gd (.bool (decide p)) false m = m := by simp [h]
theorem zbm8 {x y : V} (h : p) : zcq (.bool (decide p)) x y = some x := by simp [h]
theorem zbm9 {x y : V} (h : ¬ p) : zcq (.bool (decide p)) x y = some y := by simp [h]
theorem zbna : un .not (.bool (decide p)) = some (.bool (decide (¬ p))) := by simp [un]
end
theorem zbnb (a b : M Out) : zi (.bool true) a b = a := rfl
theorem zbnc (a b : M Out) : zi (.bool false) a b = b := rfl
theorem gd_t (m : M V) : gd (.bool true) true m = m := rfl
theorem gd_f (m : M V) : gd (.bool false) true m = ret zxo := rfl
theorem zbx2 (m : M V) : gd (.bool true) false m = ret zxo := rfl
theorem zbx3 (m : M V) : gd (.bool false) false m = m := rfl
theorem zbso (x y : V) : zcq (.bool true) x y = some x := rfl
theorem zbsp (x y : V) : zcq (.bool false) x y = some y := rfl
theorem zbx4 : un .not (.bool true) = some (.bool false) := rfl
theorem zbx5 : un .not (.bool false) = some (.bool true) := rfl
theorem zbnd (k : IntKind) (x y : Int) : zj .eql (.int k x) (.int k y) = some (.bool (decide (x = y))) := by
  simp [zj, zzy, BEq.beq]
theorem zbne (k : IntKind) (x y : Int) : zj .neq (.int k x) (.int k y) = some (.bool (decide (x ≠ y))) := by
  simp [zj, zzy, bne, BEq.beq]
theorem zbnf (x y : ByteArray) : zj .eql (.string x) (.string y) = some (.bool (decide (x = y))) := rfl
theorem zbng (x y : ByteArray) : zj .neq (.string x) (.string y) = some (.bool (decide (x ≠ y))) := by simp [zj, sbin]
@[simp] theorem zbex (b o : Nat) : zia false (isNil .p (ptr b o)) = some (.bool false) := rfl
@[simp] theorem zbaz (b o : Nat) : zia true (isNil .p (ptr b o)) = some (.bool true) := rfl
@[simp] theorem zba0 : zia false (isNil .p (.pointer none)) = some (.bool true) := rfl
@[simp] theorem z6m : zia true (isNil .p (.pointer none)) = some (.bool false) := rfl
end Go.AM

/- Strings and their bytes. -/
namespace Go.AM
def bv (s : ByteArray) : List (BitVec 8) := s.data.toList.map UInt8.toBitVec
def sv (l : List (BitVec 8)) : ByteArray := ⟨(l.map UInt8.ofBitVec).toArray⟩
theorem zow (s : ByteArray) : zi1 s = (bv s).map B := by
  simp only [zi1, bv, List.map_map]; rfl
theorem zb7 (s : ByteArray) : (bv s).length = s.size := by simp only [bv, List.length_map, Array.length_toList]; rfl
theorem zlq (l : List (BitVec 8)) : bv (sv l) = l := by
  simp only [bv, sv, List.map_map]
  conv => rhs; rw [← List.map_id l]
  apply List.map_congr_left
  intro x _; rfl
theorem zbpy (s : ByteArray) : sv (bv s) = s := by
  cases s with | mk d =>
  simp only [bv, sv, List.map_map]
  congr 1
  apply Array.toList_inj.mp
  simp only [List.toList_toArray]
  conv => rhs; rw [← List.map_id d.toList]
  apply List.map_congr_left
  intro x _; rfl
theorem z1g {s t : ByteArray} (h : bv s = bv t) : s = t := by rw [← zbpy s, h, zbpy]
theorem zgw (l : List (BitVec 8)) : (sv l).size = l.length := by rw [← zb7, zlq]
theorem zox (s t : ByteArray) : bv (s ++ t) = bv s ++ bv t := by
  have h : (s ++ t).data = s.data ++ t.data := ByteArray.data_append
  simp only [bv, h, Array.toList_append, List.map_append]
theorem zi4 (s : ByteArray) (a b : Nat) : bv (s.extract a b) = ((bv s).drop a).take (b - a) := by
  have h : (s.extract a b).data = s.data.extract a b := ByteArray.data_extract
  simp only [bv, h, Array.toList_extract, List.extract, List.map_take, List.map_drop]
theorem zbx6 : bv ⟨#[]⟩ = [] := rfl
theorem zbx7 {s : ByteArray} : bv s = [] ↔ s = ⟨#[]⟩ := ⟨fun h => z1g (h.trans zbx6.symm), fun h => by rw [h]; rfl⟩
theorem size_append (s t : ByteArray) : (s ++ t).size = s.size + t.size := by rw [← zb7, zox, List.length_append, zb7, zb7]
theorem zr9 (s : ByteArray) {a b : Nat} (h : b ≤ s.size) : (s.extract a b).size = b - a := by
  rw [← zb7, zi4, List.length_take, List.length_drop, zb7]; omega
theorem z2g : ∀ l : List (BitVec 8), zr3 (l.map B) = some (l.map UInt8.ofBitVec)
  | [] => rfl
  | x :: l => by
    simp only [List.map_cons, zr3, z2g l, zbg2]
    congr 2
    apply UInt8.toBitVec_inj.mp
    apply BitVec.eq_of_toNat_eq
    show (UInt8.ofNat (x.toNat : Int).toNat).toBitVec.toNat = x.toNat
    have := x.isLt
    simp
theorem zbub {H : Heap} {s : ByteArray} {Q : V → Heap → Prop} (hQ : ∀ v H', Own H' v ((bv s).map B) → Keeps [] H H' → (∀ x ∈ vb v, H.next ≤ x) → Q v H') : wp (s2b (.string s)) Q H := by
  refine zb2j.mpr ?_
  refine hQ _ _ (.inr ⟨H.next, by simp [zb7], by rw [Heap.get_push_self, zow]⟩) (Keeps.push _ _ _) (by simp)
theorem zbuc {v : V} {l : List (BitVec 8)} {H : Heap} {Q : V → Heap → Prop} (hv : Own H v (l.map B)) (hQ : Q (.string (sv l)) H) : wp (b2s v) Q H := zbsl hv (z2g l) hQ
theorem zoy {s : ByteArray} {k : IntKind} {i : Int} (h0 : 0 ≤ i) (h : i < s.size) : zk1 (.string s) (.int k i) = some (B ((bv s).getD i.toNat 0)) := by
  have hi : i.toNat < s.size := by omega
  have hb : i.toNat < (bv s).length := by rw [zb7]; exact hi
  have e : s[i.toNat]? = some s[i.toNat] := getElem?_pos s i.toNat hi
  have e2 : (bv s).getD i.toNat 0 = s[i.toNat].toBitVec := by
    rw [List.getD_eq_getElem?_getD, List.getElem?_eq_getElem hb]
    simp only [bv, List.getElem_map, Option.getD_some]
    rfl
  simp only [zk1, h0, if_true, e, e2]
  rfl
theorem z8o {s : ByteArray} {k k' : IntKind} {a b : Int} (h1 : 0 ≤ a) (h2 : a ≤ b) (h3 : b ≤ s.size) : zp0 (.string s) (some (.int k a)) (some (.int k' b)) = some (.string (s.extract a.toNat b.toNat)) := by
  have e1 : zd5 s.size s.size (some (.int k' b)) = some b.toNat := by simp [zd5]; omega
  have e2 : zd5 0 b.toNat (some (.int k a)) = some a.toNat := by simp [zd5]; omega
  simp [zp0, e1, e2]
theorem zbg7 {s : ByteArray} {k : IntKind} {a : Int} (h1 : 0 ≤ a) (h3 : a ≤ s.size) : zp0 (.string s) (some (.int k a)) none = some (.string (s.extract a.toNat s.size)) := by
  have e2 : zd5 0 s.size (some (.int k a)) = some a.toNat := by simp [zd5]; omega
  simp [zp0, e2]
  simp [zd5]
  simp [zd5] at e2
  simp [e2]
theorem zbca {s : ByteArray} {k' : IntKind} {b : Int} (h2 : 0 ≤ b) (h3 : b ≤ s.size) : zp0 (.string s) none (some (.int k' b)) = some (.string (s.extract 0 b.toNat)) := by
  have e1 : zd5 s.size s.size (some (.int k' b)) = some b.toNat := by simp [zd5]; omega
  have e2 : zd5 0 b.toNat none = some 0 := rfl
  simp only [zp0, e1, e2]
theorem zb2o {n : Int} (h0 : 0 ≤ n) (h1 : n ≤ 18446744073709551615) : IntKind.u64.wrap n = n := by rw [IntKind.wrap_u64]; omega
theorem zbcb {k : IntKind} {x y : Int} (h : y ≠ 0) : zj .rem (.int k x) (.int k y) = some (.int k (x.tmod y)) := by simp [zj, zzy, h]
theorem zb0q {k : IntKind} {x y : Int} (h : y ≠ 0) : zj .quo (.int k x) (.int k y) = some (.int k (k.wrap (x.tdiv y))) := by simp [zj, zzy, h]
theorem zbx8 {k : IntKind} {x y : Int} (h0 : 0 ≤ x) (h : 0 < y) : zj .rem (.int k x) (.int k y) = some (.int k (x % y)) := by
  rw [zbcb (by omega), Int.tmod_eq_emod_of_nonneg h0]
theorem zbx9 {k : IntKind} {x y : Int} (h0 : 0 ≤ x) (h : 0 < y) : zj .quo (.int k x) (.int k y) = some (.int k (k.wrap (x / y))) := by
  rw [zb0q (by omega), Int.tdiv_eq_ediv_of_nonneg h0]
theorem zbg8 (k k' : IntKind) (n : Int) : cvi k (.int k' n) = some (.int k (k.wrap n)) := rfl
theorem zbsq (x y : BitVec 8) : zj .xor (B x) (B y) = some (B (x ^^^ y)) := by
  simp [zj, zzy, z55, zbt1, zfw, IntKind.bits]; rfl
theorem zb3y (x y : BitVec 8) : zj .or (B x) (B y) = some (B (x ||| y)) := by
  simp [zj, zzy, z55, zbt1, zfw, IntKind.bits]; rfl
end Go.AM

/- Slices of things that lie flat in cells. -/
namespace Go.AM
class Flat (α : Type) where
  size : Nat
  enc : α → List V
  len : ∀ a, (enc a).length = size
  one : ∀ a, (enc a).all Value.isOne = true
  pos : 0 < size
instance : Flat Int := ⟨1, fun n => [i64 n], fun _ => rfl, fun _ => rfl, by decide⟩
instance : Flat ByteArray := ⟨1, fun s => [.string s], fun _ => rfl, fun _ => rfl, by decide⟩
instance : Flat (BitVec 8) := ⟨1, fun b => [B b], fun _ => rfl, fun _ => rfl, by decide⟩
instance : Flat Bool := ⟨1, fun b => [.bool b], fun _ => rfl, fun _ => rfl, by decide⟩
theorem zbnh (n : Int) : Flat.enc n = [i64 n] := rfl
theorem zbni (s : ByteArray) : Flat.enc s = [.string s] := rfl
theorem zbin (b : BitVec 8) : Flat.enc b = [B b] := rfl
theorem zbio (b : Bool) : Flat.enc b = [.bool b] := rfl
variable {α : Type} [Flat α]
def zba (xs : List α) : List V := xs.flatMap Flat.enc
theorem zfi (x : α) (xs : List α) : zba (x :: xs) = Flat.enc x ++ zba xs := rfl
theorem zz7 (xs ys : List α) : zba (xs ++ ys) = zba xs ++ zba ys := by simp [zba]
theorem zd0 (xs : List α) : (zba xs).length = xs.length * Flat.size α := by
  induction xs with
  | nil => simp [zba]
  | cons x xs ih => rw [zfi, List.length_append, ih, Flat.len, List.length_cons, Nat.add_mul]; omega
theorem zbpz (xs : List α) : (zba xs).all Value.isOne = true := by
  induction xs with
  | nil => rfl
  | cons x xs ih => rw [zfi, List.all_append, ih, Flat.one]; rfl
theorem zbly (xs : List α) : ∀ i, (zba xs).drop (i * Flat.size α) = zba (xs.drop i) := by
  induction xs with
  | nil => intro i; simp [zba]
  | cons x xs ih =>
    intro i
    cases i with
    | zero => simp
    | succ i =>
      rw [zfi, Nat.add_mul, Nat.one_mul, Nat.add_comm, ← List.drop_drop]
      rw [List.drop_append_of_le_length (by rw [Flat.len]; exact Nat.le_refl _)]
      rw [show (Flat.enc x).drop (Flat.size α) = [] from List.drop_eq_nil_of_le (by rw [Flat.len]; exact Nat.le_refl _)]
      exact ih i
theorem zblz (xs : List α) : ∀ i, (zba xs).take (i * Flat.size α) = zba (xs.take i) := by
  induction xs with
  | nil => intro i; simp [zba]
  | cons x xs ih =>
    intro i
    cases i with
    | zero => simp [zba]
    | succ i =>
      rw [zfi, Nat.add_mul, Nat.one_mul, Nat.add_comm, List.take_add, List.take_append_of_le_length (by rw [Flat.len]; exact Nat.le_refl _)]
      rw [show (Flat.enc x).take (Flat.size α) = Flat.enc x from List.take_of_length_le (by rw [Flat.len]; exact Nat.le_refl _)]
      rw [List.drop_append_of_le_length (by rw [Flat.len]; exact Nat.le_refl _), show (Flat.enc x).drop (Flat.size α) = [] from List.drop_eq_nil_of_le (by rw [Flat.len]; exact Nat.le_refl _)]
      rw [List.nil_append, ih i, List.take_succ_cons, zfi]
theorem zbya (xs : List α) : ∀ (i off : Nat) (v : V) (x' : α) (d : α), i < xs.length → off < Flat.size α → Flat.enc x' = (Flat.enc (xs.getD i d)).set off v → (zba xs).set (i * Flat.size α + off) v = zba (xs.set i x') := by
  induction xs with
  | nil => intro i off v x' d hi; simp at hi
  | cons x xs ih =>
    intro i off v x' d hi ho hx
    cases i with
    | zero =>
      rw [zfi, Nat.zero_mul, Nat.zero_add, List.set_append_left _ _ (by rw [Flat.len]; exact ho), List.set_cons_zero, zfi, hx]
      rfl
    | succ i =>
      rw [zfi, List.set_append_right _ _ (by rw [Flat.len, Nat.add_mul]; omega), Flat.len, List.set_cons_succ, zfi]
      congr 1
      have : (i + 1) * Flat.size α + off - Flat.size α = i * Flat.size α + off := by rw [Nat.add_mul]; omega
      rw [this]
      exact ih i off v x' d (by simpa using hi) ho hx
theorem zbp0 (xs : List α) : ∀ (i : Nat) (x' : α), i < xs.length → splice (zba xs) (i * Flat.size α) (Flat.enc x') = zba (xs.set i x') := by
  induction xs with
  | nil => intro i x' hi; simp at hi
  | cons x xs ih =>
    intro i x' hi
    cases i with
    | zero =>
      rw [Nat.zero_mul, splice, List.take_zero, List.nil_append, zfi, Nat.zero_add, Flat.len, List.set_cons_zero, zfi]
      congr 1
      rw [List.drop_append_of_le_length (by rw [Flat.len]; exact Nat.le_refl _), List.drop_eq_nil_of_le (by rw [Flat.len]; exact Nat.le_refl _)]
      rfl
    | succ i =>
      have h1 := ih i x' (by simpa using hi)
      have e : (i + 1) * Flat.size α = Flat.size α + i * Flat.size α := by rw [Nat.add_mul]; omega
      rw [splice] at h1 ⊢
      rw [zfi, e, List.take_append, Flat.len, List.take_of_length_le (by rw [Flat.len]; omega), Nat.add_sub_cancel_left, List.set_cons_succ, zfi, ← h1, List.append_assoc, Nat.add_assoc, List.drop_append, List.drop_eq_nil_of_le (by rw [Flat.len]; omega), List.nil_append, Flat.len, Flat.len, Nat.add_sub_cancel_left]
theorem zbyb (xs : List α) (i off : Nat) (d : α) (hi : i < xs.length) (ho : off < Flat.size α) : (zba xs)[i * Flat.size α + off]? = (Flat.enc (xs.getD i d))[off]? := by
  induction xs generalizing i with
  | nil => simp at hi
  | cons x xs ih =>
    cases i with
    | zero =>
      rw [zfi, Nat.zero_mul, Nat.zero_add, List.getElem?_append_left (by rw [Flat.len]; exact ho)]
      rfl
    | succ i =>
      rw [zfi, List.getElem?_append_right (by rw [Flat.len, Nat.add_mul]; omega), Flat.len]
      have : (i + 1) * Flat.size α + off - Flat.size α = i * Flat.size α + off := by rw [Nat.add_mul]; omega
      rw [this, ih i (by simpa using hi)]
      rfl
def slB : V → Nat | .slice (some a) _ _ => a.block | _ => 0
def slO : V → Nat | .slice (some a) _ _ => a.off | _ => 0
def Sl (H : Heap) (v : V) (xs : List α) : Prop := (v = .slice none 0 0 ∧ xs = []) ∨ ∃ b o u c, v = slc b o u xs.length c ∧ xs.length ≤ c ∧ b < H.next ∧ (xs = [] ∨ ∃ rw cs, H.get b = some (.cells rw cs) ∧ o + xs.length * Flat.size α ≤ cs.length ∧ (cs.drop o).take (xs.length * Flat.size α) = zba xs) ∧ (u = 0 ∨ u = Flat.size α)
theorem Sl.nil (H : Heap) : Sl H (.slice none 0 0) ([] : List α) := .inl ⟨rfl, rfl⟩
theorem Sl.keep {S : List Nat} {H H' : Heap} {v : V} {l : List α} (h : Sl H v l) (hk : Keeps S H H') (hn : ∀ b ∈ vb v, b ∉ S) : Sl H' v l := by
  rcases h with h | ⟨b, o, u, c, rfl, hc, hb, hl, hu⟩
  · exact .inl h
  · refine .inr ⟨b, o, u, c, rfl, hc, Nat.lt_of_lt_of_le hb hk.next, ?_, hu⟩
    rcases hl with hl | ⟨rw, cs, h1, h2⟩
    · exact .inl hl
    · exact .inr ⟨rw, cs, hk.get h1 (hn b (by simp)), h2⟩
theorem Sl.keep0 {H H' : Heap} {v : V} {l : List α} (h : Sl H v l) (hk : Keeps [] H H') : Sl H' v l := h.keep hk (by simp)
theorem Sl.len {H : Heap} {v : V} {l : List α} (h : Sl H v l) : zb9 v = some (i64 l.length) := by
  rcases h with ⟨rfl, rfl⟩ | ⟨b, o, u, c, rfl, _⟩ <;> rfl
theorem Sl.lt {H : Heap} {v : V} {l : List α} (h : Sl H v l) : ∀ b ∈ vb v, b < H.next := by
  rcases h with ⟨rfl, rfl⟩ | ⟨b, o, u, c, rfl, hc, hb, hl⟩
  · simp
  · simpa using hb
theorem Sl.isOne {H : Heap} {v : V} {l : List α} (h : Sl H v l) : v.isOne = true := by
  rcases h with ⟨rfl, rfl⟩ | ⟨b, o, u, c, rfl, _⟩ <;> rfl
theorem Sl.addr {H : Heap} {v : V} {l : List α} (h : Sl H v l) {k : IntKind} {i : Int} (h0 : 0 ≤ i) (hi : i < l.length) : zv (Flat.size α) v (.int k i) = some (ptr (slB v) (slO v + i.toNat * Flat.size α)) := by
  rcases h with ⟨rfl, rfl⟩ | ⟨b, o, u, c, rfl, _⟩
  · simp at hi; omega
  · exact zq0 h0 hi
theorem zbyc (cs : List V) (xs : List α) (o i : Nat) (hi : i < xs.length) (d : α) (hl : (cs.drop o).take (xs.length * Flat.size α) = zba xs) : (cs.drop (o + i * Flat.size α)).take (Flat.size α) = Flat.enc (xs.getD i d) := by
  have e1 : ((zba xs).drop (i * Flat.size α)).take (Flat.size α) = Flat.enc (xs.getD i d) := by
    rw [zbly]
    have : xs.drop i = xs.getD i d :: xs.drop (i + 1) := by
      rw [List.getD_eq_getElem?_getD, List.getElem?_eq_getElem hi]
      exact List.drop_eq_getElem_cons hi
    rw [this, zfi, List.take_append_of_le_length (by rw [Flat.len]; exact Nat.le_refl _), List.take_of_length_le (by rw [Flat.len]; exact Nat.le_refl _)]
  rw [← e1, ← hl, List.drop_take, List.take_take, List.drop_drop]
  congr 1
  have : (i + 1) * Flat.size α ≤ xs.length * Flat.size α := Nat.mul_le_mul_right _ hi
  rw [Nat.add_mul] at this
  omega
theorem Sl.ldn {H : Heap} {v : V} {l : List α} (h : Sl H v l) {i : Nat} (hi : i < l.length) (d : α) {Q : V → Heap → Prop} : wp (ldn (Flat.size α) (ptr (slB v) (slO v + i * Flat.size α))) Q H ↔ Q (.agg (Flat.enc (l.getD i d)).toArray) H := by
  rcases h with ⟨rfl, rfl⟩ | ⟨b, o, u, c, rfl, hc, _, hl, _⟩
  · simp at hi
  · rcases hl with rfl | ⟨rw, cs, hb, hl1, hl2⟩
    · simp at hi
    · have h1 : (i + 1) * Flat.size α ≤ l.length * Flat.size α := Nat.mul_le_mul_right _ hi
      rw [Nat.add_mul] at h1
      show wp (Go.AM.ldn _ (ptr b (o + i * Flat.size α))) Q H ↔ _
      rw [zbay hb (by omega), zbyc cs l o i hi d hl2]
theorem Sl.cell {H : Heap} {v : V} {l : List α} (h : Sl H v l) {i off : Nat} (hi : i < l.length) (ho : off < Flat.size α) (d : α) : zhl H (ptr (slB v) (slO v + i * Flat.size α + off)) = (Flat.enc (l.getD i d))[off]? := by
  rcases h with ⟨rfl, rfl⟩ | ⟨b, o, u, c, rfl, hc, _, hl, _⟩
  · simp at hi
  · rcases hl with rfl | ⟨rw, cs, hb, hl1, hl2⟩
    · simp at hi
    · show zhl H (ptr b (o + i * Flat.size α + off)) = _
      rw [zea hb, ← zbyc cs l o i hi d hl2, List.getElem?_take, if_pos ho, List.getElem?_drop]
theorem Sl.addr' {H : Heap} {v : V} {l : List α} (h : Sl H v l) {n : Nat} (hs : Flat.size α = n) {k : IntKind} {i : Int} (h0 : 0 ≤ i) (hi : i < l.length) : zv n v (.int k i) = some (ptr (slB v) (slO v + i.toNat * n)) := by subst hs; exact h.addr h0 hi
theorem Sl.ldn' {H : Heap} {v : V} {l : List α} (h : Sl H v l) {n : Nat} (hs : Flat.size α = n) {i : Nat} (hi : i < l.length) (d : α) {Q : V → Heap → Prop} : wp (Go.AM.ldn n (ptr (slB v) (slO v + i * n))) Q H ↔ Q (.agg (Flat.enc (l.getD i d)).toArray) H := by subst hs; exact h.ldn hi d
theorem Sl.cell' {H : Heap} {v : V} {l : List α} (h : Sl H v l) {n : Nat} (hs : Flat.size α = n) {i off : Nat} (hi : i < l.length) (ho : off < n) (d : α) : zhl H (ptr (slB v) (slO v + i * n + off)) = (Flat.enc (l.getD i d))[off]? := by subst hs; exact h.cell hi ho d
theorem Sl.addr1 {H : Heap} {v : V} {l : List α} (h : Sl H v l) (hs : Flat.size α = 1) {k : IntKind} {i : Int} (h0 : 0 ≤ i) (hi : i < l.length) : zv 1 v (.int k i) = some (ptr (slB v) (slO v + i.toNat)) := by
  have := h.addr (k := k) h0 hi
  rw [hs, Nat.mul_one] at this
  exact this
theorem Sl.cell1 {H : Heap} {v : V} {l : List α} (h : Sl H v l) (hs : Flat.size α = 1) {i : Nat} (hi : i < l.length) (d : α) : zhl H (ptr (slB v) (slO v + i)) = (Flat.enc (l.getD i d))[0]? := by
  have := h.cell (off := 0) hi (by omega) d
  rw [hs, Nat.mul_one, Nat.add_zero] at this
  exact this
theorem Own.sl {H : Heap} {v : V} {l : List α} (hs : Flat.size α = 1) (h : Own H v (zba l)) : Sl H v l := by
  rcases h with ⟨rfl, hl⟩ | ⟨b, rfl, hb⟩
  · refine .inl ⟨rfl, ?_⟩
    have := congrArg List.length hl
    rw [zd0, hs] at this
    exact List.eq_nil_of_length_eq_zero (by simpa using this)
  · have e : (zba l).length = l.length := by rw [zd0, hs, Nat.mul_one]
    refine .inr ⟨b, 0, 1, l.length, by rw [e], Nat.le_refl _, Heap.get_lt hb, .inr ⟨true, zba l, hb, by rw [zd0]; omega, ?_⟩, .inr hs.symm⟩
    rw [List.drop_zero, List.take_of_length_le (by rw [zd0]; exact Nat.le_refl _)]
end Go.AM

/- Heaps that are written out: what a block holds is told by rules. -/
namespace Go.AM
namespace Heap
theorem get_push_eq {H : Heap} {x : Option Blk} {b : Nat} (h : b = H.next) : (H.push x).get b = x := by subst h; exact get_push_self H x
theorem get_set_eq {H : Heap} {b : Nat} {x : Option Blk} (h : b < H.next) : (H.set b x).get b = x := get_set_self h
theorem get_set_ne' {H : Heap} {b c : Nat} {x : Option Blk} (h : c ≠ b) : (H.set b x).get c = H.get c := get_set_ne _ _ _ h
theorem set_push_lt {H : Heap} {x y : Option Blk} {b : Nat} (h : b < H.next) : (H.push x).set b y = (H.set b y).push x := by
  simp only [Heap.set, Heap.push, Heap.next] at h ⊢
  rw [List.set_append_left _ _ h]
theorem set_push_eq {H : Heap} {x y : Option Blk} {b : Nat} (h : b = H.next) : (H.push x).set b y = H.push y := by
  subst h
  simp only [Heap.set, Heap.push, Heap.next]
  rw [List.set_append_right _ _ (Nat.le_refl _)]
  simp
end Heap
def zlr : Option Blk → Nat → Option V
  | some (.cells _ cs), o => cs[o]?
  | _, _ => none
theorem zl (H : Heap) (b o : Nat) : zhl H (ptr b o) = zlr (H.get b) o := by
  simp only [zhl, Heap.cell]
  split <;> simp_all [zlr]
theorem zr (rw : Bool) (cs : List V) (o : Nat) : zlr (some (.cells rw cs)) o = cs[o]? := rfl
def stG (x : Option Blk) (o : Nat) (v : V) (k : Option Blk → Prop) : Prop := match x with
  | some (.cells true cs) => v.isOne = true ∧ o < cs.length ∧ k (some (.cells true (cs.set o v)))
  | _ => False
theorem zcr (H : Heap) (b o : Nat) (v : V) {Q : V → Heap → Prop} : wp (st1 (ptr b o) v) Q H ↔ stG (H.get b) o v fun y => Q undef (H.set b y) := by
  unfold stG
  constructor
  · rintro ⟨a, H', h1, h2⟩
    simp only [st1] at h1
    split at h1
    · rename_i cs hg
      rw [hg]
      split at h1
      · rename_i hc
        cases h1
        simp only [Bool.and_eq_true, decide_eq_true_eq] at hc
        exact ⟨hc.1, hc.2, h2⟩
      · cases h1
    · cases h1
  · intro h
    split at h
    · rename_i cs hg
      exact (zxx hg h.1 h.2.1).mpr h.2.2
    · exact h.elim
@[congr] theorem zb3g {x x' : Option Blk} {o : Nat} {v : V} {k : Option Blk → Prop} (h : x = x') : stG x o v k = stG x' o v k := by rw [h]
theorem zeh {cs : List V} {o : Nat} {v : V} {k : Option Blk → Prop} (ho : o < cs.length) : stG (some (.cells true cs)) o v k ↔ (v.isOne = true ∧ k (some (.cells true (cs.set o v)))) := by simp [stG, ho]
def stnG (x : Option Blk) (n o : Nat) (v : V) (k : Option Blk → Prop) : Prop := match x, v with
  | some (.cells true cs), .agg vs => vs.toList.all Value.isOne = true ∧ vs.toList.length = n ∧ o + n ≤ cs.length ∧ k (some (.cells true (splice cs o vs.toList)))
  | _, _ => False
theorem zcu (H : Heap) (b o n : Nat) (v : V) {Q : V → Heap → Prop} : wp (stn n (ptr b o) v) Q H ↔ stnG (H.get b) n o v fun y => Q undef (H.set b y) := by
  unfold stnG
  constructor
  · rintro ⟨a, H', h1, h2⟩
    simp only [stn] at h1
    split at h1
    · rename_i b' o' vs hp
      cases hp
      split at h1
      · rename_i cs hg
        rw [hg]
        split at h1
        · rename_i hc
          cases h1
          simp only [Bool.and_eq_true, decide_eq_true_eq, beq_iff_eq] at hc
          exact ⟨hc.1.1, hc.1.2, hc.2, h2⟩
        · cases h1
      · cases h1
    · cases h1
  · intro h
    split at h
    · rename_i cs vs hg
      refine ⟨undef, _, ?_, h.2.2.2⟩
      simp only [stn, hg]
      rw [if_pos (by simp [h.1, h.2.1, h.2.2.1])]
    · exact h.elim
@[congr] theorem zb2p {x x' : Option Blk} {n o : Nat} {v : V} {k : Option Blk → Prop} (h : x = x') : stnG x n o v k = stnG x' n o v k := by rw [h]
theorem zck {cs vs : List V} {n o : Nat} {k : Option Blk → Prop} (hv : vs.all Value.isOne = true) (hn : vs.length = n) (ho : o + n ≤ cs.length) : stnG (some (.cells true cs)) n o (.agg vs.toArray) k ↔ k (some (.cells true (splice cs o vs))) := by simp [stnG, hv, hn, ho]
def ldG (x : Option Blk) (n o : Nat) (k : V → Prop) : Prop := match x with
  | some (.cells _ cs) => o + n ≤ cs.length ∧ k (.agg ((cs.drop o).take n).toArray)
  | _ => False
theorem zf0 (H : Heap) (b o n : Nat) {Q : V → Heap → Prop} : wp (ldn n (ptr b o)) Q H ↔ ldG (H.get b) n o fun y => Q y H := by
  unfold ldG
  constructor
  · rintro ⟨a, H', h1, h2⟩
    simp only [ldn, cellsAt] at h1
    split at h1
    · rename_i l hl
      cases h1
      split at hl
      · rename_i rw cs hg
        rw [hg]
        split at hl
        · rename_i hc; cases hl; exact ⟨hc, h2⟩
        · cases hl
      · cases hl
    · cases h1
  · intro h
    split at h
    · rename_i rw cs hg
      exact (zbay hg h.1).mpr h.2
    · exact h.elim
@[congr] theorem zb3i {x x' : Option Blk} {n o : Nat} {k : V → Prop} (h : x = x') : ldG x n o k = ldG x' n o k := by rw [h]
theorem zc6 {rw : Bool} {cs : List V} {n o : Nat} {k : V → Prop} (ho : o + n ≤ cs.length) : ldG (some (.cells rw cs)) n o k ↔ k (.agg ((cs.drop o).take n).toArray) := by simp [ldG, ho]
theorem zby {cs : List V} {H : Heap} {Q : V → Heap → Prop} (h : cs.all zno = true) : wp (newc cs) Q H ↔ Q (ptr H.next 0) (H.push (some (.cells true cs))) := z8n h
theorem zbu {vs : List V} {H : Heap} {Q : V → Heap → Prop} (h : vs.all Value.isOne = true) : wp (zlw (.agg vs.toArray)) Q H ↔ Q (ptr H.next 0) (H.push (some (.cells true vs))) := by
  have hc : (Value.agg vs.toArray).cells.toList = vs := by simp [Value.cells]
  constructor
  · rintro ⟨a, H', h1, h2⟩
    unfold zlw at h1
    rw [hc, if_pos h] at h1
    cases h1; exact h2
  · intro hq; exact ⟨_, _, by unfold zlw; rw [hc, if_pos h], hq⟩
theorem zbg9 {v : V} {H : Heap} {Q : V → Heap → Prop} (h : v.isOne = true) : wp (zlw v) Q H ↔ Q (ptr H.next 0) (H.push (some (.cells true [v]))) := by
  have hc : v.cells.toList = [v] := by rw [z8f h]
  constructor
  · rintro ⟨a, H', h1, h2⟩
    unfold zlw at h1
    rw [hc] at h1
    rw [if_pos (by simp [h])] at h1
    cases h1; exact h2
  · intro hq; exact ⟨_, _, by unfold zlw; rw [hc, if_pos (by simp [h])], hq⟩
theorem zbz (off : Nat) (vs : List V) : fld1 off (.agg vs.toArray) = vs[off]? := by simp [fld1]
theorem zb0 {off n : Nat} {vs : List V} (h : off + n ≤ vs.length) : fldn off n (.agg vs.toArray) = some (.agg ((vs.drop off).take n).toArray) := by simp [fldn, h]
theorem zbf (i : Nat) (vs : List V) : ext i (.tuple vs.toArray) = vs[i]? := by simp [ext]
section
variable {α : Type} [DecidableEq α] {x y : α} {p : Prop} [Decidable p]
theorem zb1 {a b : M Out} (h : p) : zi (.bool (decide (¬ p))) a b = b := by simp [h]
theorem zbg {a b : M Out} (h : x = y) : zi (.bool (decide (x ≠ y))) a b = b := by simp [h]
theorem zc8 {m : M V} (h : x = y) : gd (.bool (decide (x ≠ y))) true m = ret zxo := by simp [h]
theorem zcm {m : M V} (h : x = y) : gd (.bool (decide (x ≠ y))) false m = m := by simp [h]
theorem zb2 {a b : V} (h : x = y) : zcq (.bool (decide (x ≠ y))) a b = some b := by simp [h]
end
section
variable {p : Prop} [Decidable p] {Q : Out → Heap → Prop} {QV : V → Heap → Prop} {QQ : V → Prop} {H : Heap}
end
section
variable {c : Bool} {Q : Out → Heap → Prop} {QV : V → Heap → Prop} {QQ : V → Prop} {H : Heap}
end
section
variable {p : Prop} [Decidable p] {Q : Out → Heap → Prop} {QV : V → Heap → Prop} {QQ : V → Prop} {H : Heap}
end
section
variable {c : Bool} {Q : Out → Heap → Prop} {QV : V → Heap → Prop} {QQ : V → Prop} {H : Heap}
end
theorem zbnj {α : Type} {m : M α} {v : α} (h : ∀ H, wp m (fun r H' => r = v ∧ H' = H) H) : m = ret v := by
  funext H
  obtain ⟨a, H', h1, rfl, rfl⟩ := h H
  exact h1
theorem zb3 : zca [] = .tuple #[] := rfl
theorem zb4 (a b : V) : zca [a, b] = .tuple #[a, b] := rfl
theorem z4 (a b c : V) : zca [a, b, c] = .tuple #[a, b, c] := rfl
theorem zbh (a b c d : V) : zca [a, b, c, d] = .tuple #[a, b, c, d] := rfl
theorem zb5 (b o : Nat) (H : Heap) (v : V) : chk (z7 (ptr b o)) H v = zwp (zlr (H.get b) o) v := by rw [z33, zl]
theorem zh8 {S : List Nat} {H0 H : Heap} {x : Option Blk} (h : Keeps S H0 H) : Keeps S H0 (H.push x) :=
  ⟨by have := h.next; simp; omega, fun b hb hn => by rw [Heap.get_push_lt (by have := h.next; omega), h.same b hb hn]⟩
theorem zfj {S : List Nat} {H0 H : Heap} {b : Nat} {x : Option Blk} (h : Keeps S H0 H) (hb : b ∈ S ∨ H0.next ≤ b) : Keeps S H0 (H.set b x) :=
  ⟨by have := h.next; simp; omega, fun c hc hn => by
    have : c ≠ b := fun e => by subst e; rcases hb with hb | hb; exact hn hb; omega
    rw [Heap.get_set_ne _ _ _ this, h.same c hc hn]⟩
end Go.AM
