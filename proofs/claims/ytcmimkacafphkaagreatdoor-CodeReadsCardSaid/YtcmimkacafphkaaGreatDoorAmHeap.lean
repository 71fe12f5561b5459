import Derived.Test.YtcmimkacafphkaaGreatDoorAmBase
import Derived.IntWalk
set_option linter.all false
/- How runs on the abstract machine are told. -/
namespace Go.AM
def wp {α : Type} (m : M α) (Q : α → Heap → Prop) (H : Heap) : Prop := ∃ a H', m H = some (a, H') ∧ Q a H'
variable {α β : Type} {Q : α → Heap → Prop} {H : Heap}
theorem zbuo {m : M α} {Q' : α → Heap → Prop} (h : wp m Q H) (hq : ∀ a H', Q a H' → Q' a H') : wp m Q' H := by
  obtain ⟨a, H', h1, h2⟩ := h; exact ⟨a, H', h1, hq a H' h2⟩
@[simp] theorem wp_ret (a : α) : wp (ret a) Q H ↔ Q a H := ⟨fun ⟨_, _, h1, h2⟩ => by cases h1; exact h2, fun h => ⟨a, H, rfl, h⟩⟩
@[simp] theorem zc4 {m : M β} {k : β → M α} : wp (zb m k) Q H ↔ wp m (fun b H' => wp (k b) Q H') H := by
  constructor
  · rintro ⟨a, H', h1, h2⟩
    obtain ⟨b, H1, h3, h4⟩ := bnd_inv' h1
    exact ⟨b, H1, h3, a, H', h4, h2⟩
  · rintro ⟨b, H1, h3, a, H', h4, h2⟩
    exact ⟨a, H', by simp [zb, h3, h4], h2⟩
where
  bnd_inv' {m : M β} {k : β → M α} {r : α} {H' : Heap} (h : zb m k H = some (r, H')) : ∃ b H1, m H = some (b, H1) ∧ k b H1 = some (r, H') := by
    unfold zb at h
    split at h
    · rename_i b H1 hm; exact ⟨b, H1, hm, h⟩
    · cases h
def wpO (o : Option α) (Q : α → Prop) : Prop := ∃ a, o = some a ∧ Q a
@[simp] theorem zuh (a : α) (Q : α → Prop) : wpO (some a) Q ↔ Q a := by simp [wpO]
@[simp] theorem zbyb (Q : α → Prop) : wpO none Q ↔ False := by simp [wpO]
@[congr] theorem zbxx {o o' : Option α} {Q : α → Prop} (h : o = o') : wpO o Q = wpO o' Q := by rw [h]
@[congr] theorem zbyc {m m' : M α} {Q : α → Heap → Prop} {H : Heap} (h : m = m') : wp m Q H = wp m' Q H := by rw [h]
@[congr] theorem zbxy {m m' : M β} {k : β → M α} (h : m = m') : zb m k = zb m' k := by rw [h]
@[congr] theorem zbww {R : Type} {m m' : M V} {k : Heap → V → Heap → M R} (h : m = m') : zhr m k = zhr m' k := by rw [h]
@[congr] theorem zbwx {b b' : Bool} {m : M α} (h : b = b') : zmd b m = zmd b' m := by rw [h]
@[congr] theorem zbv5 {c c' : V} {m1 m2 : M Out} (h : c = c') : zi c m1 m2 = zi c' m1 m2 := by rw [h]
@[congr] theorem zbyd {g g' : V} {b : Bool} {m : M V} (h : g = g') : gd g b m = gd g' b m := by rw [h]
@[congr] theorem zbye {o o' : Out} {k : List V → M Out} (h : o = o') : nx o k = nx o' k := by rw [h]
@[congr] theorem zbwy {o o' : Out} {k : List V → M V} (h : o = o') : zbn o k = zbn o' k := by rw [h]
@[congr] theorem zbv6 {n : Nat} {body : List V → M Out} {vs vs' : List V} (h : vs = vs') : zcg n body vs = zcg n body vs' := by rw [h]
@[simp] theorem zbhe (o : Option α) : wp (za o) Q H ↔ wpO o fun a => Q a H := by
  unfold wpO
  cases o with
  | none => simp [wp, za]
  | some a => exact ⟨fun ⟨_, _, h1, h2⟩ => by cases h1; exact ⟨_, rfl, h2⟩, fun ⟨_, h1, h2⟩ => by cases h1; exact ⟨_, _, rfl, h2⟩⟩
@[simp] theorem zby2 : wp (fail : M α) Q H ↔ False := by simp [wp, fail]
@[simp] theorem zbhf (m : M α) : wp (zmd true m) Q H ↔ wp m Q H := by simp [wp, zmd]
@[simp] theorem zbwz (m1 m2 : M Out) : zi (.bool true) m1 m2 = m1 := rfl
@[simp] theorem zbv7 (m1 m2 : M Out) : zi (.bool false) m1 m2 = m2 := rfl
@[simp] theorem zbhg {R : Type} {m : M V} {k : Heap → V → Heap → M R} {Q : R → Heap → Prop} : wp (zhr m k) Q H ↔ wp m (fun v H' => wp (k H v H') Q H') H := by
  constructor
  · rintro ⟨a, H', h1, h2⟩
    unfold zhr at h1
    split at h1
    · rename_i b H1 hm; exact ⟨b, H1, hm, a, H', h1, h2⟩
    · cases h1
  · rintro ⟨b, H1, h3, a, H', h4, h2⟩
    exact ⟨a, H', by simp [zhr, h3, h4], h2⟩
@[simp] theorem zbb7 {R : Type} {k : Heap → M R} {Q : R → Heap → Prop} : wp (zvo k) Q H ↔ wp (k H) Q H := by simp [zvo, wp]
@[simp] theorem zbkj {R : Type} {n : Nat} {k : Nat → Heap → M R} {Q : R → Heap → Prop} : wp (zbb6 n k) Q H ↔ wp (k H.next (zve H n)) Q (zve H n) := by simp [zbb6, wp]
@[simp] theorem zby3 (b : Bool) (m : M V) : gd (.bool b) true m = if b then m else ret zo8 := by cases b <;> simp [gd]
@[simp] theorem zbyf (b : Bool) (m : M V) : gd (.bool b) false m = if b then ret zo8 else m := by cases b <;> simp [gd]
@[simp] theorem zbhh (b : Bool) (m : M V) : gd zo8 b m = ret zo8 := rfl
@[simp] theorem zbmu (vs : List V) (k : List V → M Out) : nx (.nxt vs) k = k vs := rfl
@[simp] theorem zbmv (i : Nat) (vs : List V) (k : List V → M Out) : nx (.brk i vs) k = ret (.brk i vs) := rfl
@[simp] theorem zbmw (vs : List V) (k : List V → M Out) : nx (.ret vs) k = ret (.ret vs) := rfl
@[simp] theorem z8s (i : Nat) (vs : List V) : zp i (.nxt vs) = .nxt vs := rfl
@[simp] theorem z8t (i : Nat) (vs : List V) : zp i (.ret vs) = .ret vs := rfl
@[simp] theorem z8u (i j : Nat) (vs : List V) : zp i (.brk j vs) = if j = i then .nxt vs else .brk j vs := by
  simp only [zp]
  by_cases h : j = i
  · subst h; simp
  · rw [zbga h]; simp [h]
@[simp] theorem zbb8 (vs : List V) (k : List V → M V) : zbn (.nxt vs) k = k vs := rfl
@[simp] theorem zbb9 (vs : List V) (k : List V → M V) : zbn (.ret vs) k = k vs := rfl
@[simp] theorem zbhi (v : V) (vs : List V) : zc (v :: vs) 0 = v := rfl
@[simp] theorem zbhj (v : V) (vs : List V) (i : Nat) : zc (v :: vs) (i + 1) = zc vs i := by simp [zc]
@[simp] theorem zbca (v : V) : zbe [v] = v := rfl
theorem zb9 {body : List V → M Out} {vs : List V} {Q : Out → Heap → Prop} (Inv : Nat → List V → Heap → Prop) {n : Nat} (hn : n < zcb) (h0 : Inv n vs H)
    (hstep : ∀ k vs H, Inv k vs H → wp (body vs) (fun o H' => match o with | .nxt vs' => ∃ k', k' < k ∧ Inv k' vs' H' | o => Q o H') H) : wp (zcg zcb body vs) Q H := by
  have key : ∀ m k vs H, k < m → Inv k vs H → wp (zcg m body vs) Q H := by
    intro m
    induction m with
    | zero => intro k vs H h; omega
    | succ m ih =>
      intro k vs H hk hi
      simp only [zcg, zc4]
      refine zbuo (hstep k vs H hi) fun o H' ho => ?_
      cases o with
      | nxt vs' => obtain ⟨k', h1, h2⟩ := ho; exact ih k' vs' H' (by omega) h2
      | brk i vs' => simpa using ho
      | ret vs' => simpa using ho
  exact key zcb n vs H hn h0
abbrev W (x : BitVec 64) : V := .int .u64 x.toNat
abbrev B (x : BitVec 8) : V := .int .u8 x.toNat
abbrev str (s : ByteArray) : V := .string s
theorem zbcb (n : Int) : IntKind.u64.wrap n = ((BitVec.ofInt 64 n).toNat : Int) := by rw [IntKind.wrap_u64]; simp [BitVec.toNat_ofInt]; omega
theorem zbyg (n : Int) : IntKind.u8.wrap n = ((BitVec.ofInt 8 n).toNat : Int) := by rw [IntKind.wrap_u8]; simp [BitVec.toNat_ofInt]; omega
theorem zqy (n : Nat) (m : Nat) : BitVec.ofInt n (m : Int) = BitVec.ofNat n m := BitVec.ofInt_natCast n m
theorem zbup (a n m : Nat) (h : a < 2 ^ m) : (a : Int).fdiv (2 ^ (min n m)) = ((a >>> n : Nat) : Int) := by
  rw [Int.fdiv_eq_ediv_of_nonneg _ (Int.le_of_lt (Int.pow_pos (by omega))), Nat.shiftRight_eq_div_pow]
  by_cases hn : n ≤ m
  · rw [Nat.min_eq_left hn]; norm_cast
  · rw [Nat.min_eq_right (by omega)]
    have h1 : a < 2 ^ n := Nat.lt_trans h (Nat.pow_lt_pow_right (by omega) (by omega))
    rw [Nat.div_eq_of_lt h1]
    have : ((a : Int) / 2 ^ m) = ((a / 2 ^ m : Nat) : Int) := by norm_cast
    rw [this, Nat.div_eq_of_lt h]
theorem zbuq (a n m : Nat) : (BitVec.ofInt m ((a : Int) * 2 ^ (min n m))).toNat = (a <<< n) % 2 ^ m := by
  have h1 : ((a : Int) * 2 ^ (min n m)) = ((a * 2 ^ (min n m) : Nat) : Int) := by push_cast; rfl
  rw [h1, zqy, BitVec.toNat_ofNat, Nat.shiftLeft_eq]
  by_cases hn : n ≤ m
  · rw [Nat.min_eq_left hn]
  · rw [Nat.min_eq_right (by omega)]
    obtain ⟨d, rfl⟩ : ∃ d, n = m + d := ⟨n - m, by omega⟩
    rw [Nat.pow_add, show a * (2 ^ m * 2 ^ d) = a * 2 ^ d * 2 ^ m by rw [Nat.mul_comm (2 ^ m), Nat.mul_assoc], Nat.mul_mod_left, Nat.mul_mod_left]
@[simp] theorem zby4 (x y : BitVec 64) : zj .mul (W x) (W y) = some (W (x * y)) := by
  simp [zj, z3c, zbcb, ← Int.natCast_mul, zqy]
@[simp] theorem zbzf (x : BitVec 64) : cvi .u8 (W x) = some (B (x.setWidth 8)) := by
  simp [cvi, zbyg, zqy]
@[simp] theorem zby5 (x : Nat) : cvi .u64 (i64 x) = some (W (BitVec.ofNat 64 x)) := by
  simp [cvi, zbcb, zqy]
@[simp] theorem zbzg (x : BitVec 8) : cvi .i64 (B x) = some (i64 x.toNat) := by
  have := x.isLt
  simp only [cvi]; rw [IntWalk.i64_in _ ⟨by omega, by omega⟩]
theorem i64_in {n : Int} (h0 : -9223372036854775808 ≤ n) (h1 : n ≤ 9223372036854775807) : IntKind.i64.wrap n = n := IntWalk.i64_in n ⟨h0, h1⟩
@[simp] theorem zbhk (x y : Int) : zj .add (i64 x) (i64 y) = some (i64 (IntKind.i64.wrap (x + y))) := rfl
@[simp] theorem zbhl (x y : Int) : zj .sub (i64 x) (i64 y) = some (i64 (IntKind.i64.wrap (x - y))) := rfl
@[simp] theorem zbhm (x y : Int) : zj .mul (i64 x) (i64 y) = some (i64 (IntKind.i64.wrap (x * y))) := rfl
@[simp] theorem zby6 (k : IntKind) (x y : Int) : zj .eql (.int k x) (.int k y) = some (.bool (x == y)) := by simp [zj, z3c]
@[simp] theorem zby7 (k : IntKind) (x y : Int) : zj .neq (.int k x) (.int k y) = some (.bool (x != y)) := by simp [zj, z3c]
@[simp] theorem zbhn (k : IntKind) (x y : Int) : zj .lss (.int k x) (.int k y) = some (.bool (decide (x < y))) := by simp [zj, z3c]
@[simp] theorem zbho (k : IntKind) (x y : Int) : zj .leq (.int k x) (.int k y) = some (.bool (decide (x ≤ y))) := by simp [zj, z3c]
@[simp] theorem zbhp (k : IntKind) (x y : Int) : zj .gtr (.int k x) (.int k y) = some (.bool (decide (x > y))) := by simp [zj, z3c]
@[simp] theorem zbhq (k : IntKind) (x y : Int) : zj .geq (.int k x) (.int k y) = some (.bool (decide (x ≥ y))) := by simp [zj, z3c]
@[simp] theorem zby8 (x y : ByteArray) : zj .eql (.string x) (.string y) = some (.bool (decide (x = y))) := rfl
@[simp] theorem zby9 (x y : ByteArray) : zj .neq (.string x) (.string y) = some (.bool (!decide (x = y))) := rfl
theorem zboc {x y : ByteArray} (h : x.size + y.size ≤ 4611686018427387904) : zj .add (.string x) (.string y) = some (.string (x ++ y)) := by simp [zj, sbin, h]
@[simp] theorem zbxz (b : Bool) (x y : V) : zm (.bool b) x y = some (if b then x else y) := by cases b <;> rfl
@[simp] theorem zbyh (b : Bool) : un .not (.bool b) = some (.bool (!b)) := rfl
namespace Heap
@[simp] theorem get_push_self (H : Heap) (x : Option Blk) : (H.push x).get H.next = x := by
  rw [Heap.get_push]; simp
theorem get_push_lt {H : Heap} {x : Option Blk} {b : Nat} (h : b < H.next) : (H.push x).get b = H.get b := by
  rw [Heap.get_push, if_neg (by omega)]
@[simp] theorem next_push' (H : Heap) (x : Option Blk) : (H.push x).next = H.next + 1 := Heap.next_push H x
@[simp] theorem next_set' (H : Heap) (b : Nat) (x : Option Blk) : (H.set b x).next = H.next := Heap.next_set H b x
theorem get_set_self {H : Heap} {b : Nat} {x : Option Blk} (h : b < H.next) : (H.set b x).get b = x := by
  rw [Heap.get_set H b x _ h]; simp
@[simp] theorem set_set (H : Heap) (b : Nat) (x y : Option Blk) : (H.set b x).set b y = H.set b y := by
  simp [Heap.set, List.set_set]
end Heap
def zst (H : Heap) (p : V) : Option V := match p with | .pointer (some ⟨b, o, none⟩) => H.cell b o | _ => none
@[simp] theorem zbmx (p : V) {Q : V → Heap → Prop} : wp (z8 p) Q H ↔ wpO (zst H p) fun v => Q v H := by
  unfold wp wpO z8 zst
  constructor
  · rintro ⟨a, H', h1, h2⟩
    split at h1
    · split at h1
      · rename_i v hc; cases h1; exact ⟨_, hc, h2⟩
      · cases h1
    · cases h1
  · rintro ⟨a, h1, h2⟩
    split at h1
    · exact ⟨a, H, by simp [h1], h2⟩
    · cases h1
theorem zbgf {b o : Nat} {rw : Bool} {cs : List V} (h : H.get b = some (.cells rw cs)) : zst H (ptr b o) = cs[o]? := by simp [zst, Heap.cell, h]
theorem zbcc {b o u len cap size : Nat} {k : IntKind} {i : Int} (h0 : 0 ≤ i) (h1 : i < len) : zbo size (slc b o u len cap) (.int k i) = some (ptr b (o + i.toNat * size)) := by simp [zbo, h0, h1]
theorem z5f {b o n size : Nat} {k : IntKind} {i : Int} (h0 : 0 ≤ i) (h1 : i < n) : zo5 n size (ptr b o) (.int k i) = some (ptr b (o + i.toNat * size)) := by simp [zo5, h0, h1]
@[simp] theorem z8v (b o off : Nat) : zg off (ptr b o) = some (ptr b (o + off)) := rfl
@[simp] theorem z8w (b o : Nat) : zeb (ptr b o) = some (ptr b o) := rfl
@[simp] theorem zbw (k : IntKind) (n : Int) : (Value.int k n).isOne = true := rfl
@[simp] theorem zbx (s : ByteArray) : (Value.string s).isOne = true := rfl
@[simp] theorem zbf (b : Bool) : (Value.bool b).isOne = true := rfl
@[simp] theorem zz (a : Option Addr) (n c : Nat) : (Value.slice a n c).isOne = true := rfl
@[simp] theorem zn (a : Option Addr) : (Value.pointer a).isOne = true := rfl
@[simp] theorem zby (a : Option Nat) : (Value.map a).isOne = true := rfl
theorem zbw0 {b o : Nat} {cs : List V} {v : V} (h : H.get b = some (.cells true cs)) (hv : v.isOne = true) (ho : o < cs.length) {Q : V → Heap → Prop} :
    wp (st1 (ptr b o) v) Q H ↔ Q undef (H.set b (some (.cells true (cs.set o v)))) := by
  constructor
  · rintro ⟨a, H', h1, h2⟩
    simp [st1, h, hv, ho] at h1
    obtain ⟨rfl, rfl⟩ := h1; exact h2
  · intro hq; exact ⟨_, _, by simp [st1, h, hv, ho], hq⟩
theorem zbr4 {b o n : Nat} {rw : Bool} {cs : List V} (h : H.get b = some (.cells rw cs)) (ho : o + n ≤ cs.length) {Q : V → Heap → Prop} :
    wp (ldn n (ptr b o)) Q H ↔ Q (.agg ((cs.drop o).take n).toArray) H := by
  constructor
  · rintro ⟨a, H', h1, h2⟩
    simp [ldn, cellsAt, h, ho] at h1
    obtain ⟨rfl, rfl⟩ := h1; exact h2
  · intro hq; exact ⟨_, _, by simp [ldn, cellsAt, h, ho], hq⟩
theorem zbod {cs : List V} (h : cs.all zm7 = true) {Q : V → Heap → Prop} : wp (newc cs) Q H ↔ Q (ptr H.next 0) (H.push (some (.cells true cs))) := by
  constructor
  · rintro ⟨a, H', h1, h2⟩
    simp only [newc, h, if_true] at h1
    cases h1; exact h2
  · intro hq; exact ⟨_, _, by simp only [newc, h, if_true], hq⟩
@[simp] theorem zbzh {s : ByteArray} {Q : V → Heap → Prop} : wp (s2b (.string s)) Q H ↔ Q (slc H.next 0 1 s.size s.size) (H.push (some (.cells true (zk6 s)))) :=
  ⟨fun ⟨_, _, h1, h2⟩ => by cases h1; exact h2, fun h => ⟨_, _, rfl, h⟩⟩
@[simp] theorem zbr5 {Q : V → Heap → Prop} : wp z9t Q H ↔ Q (.map (some H.next)) (H.push (some (.map true []))) :=
  ⟨fun ⟨_, _, h1, h2⟩ => by cases h1; exact h2, fun h => ⟨_, _, rfl, h⟩⟩
@[simp] theorem zyi (a : Option Addr) (n c : Nat) : zo (.slice a n c) = some (i64 n) := rfl
@[simp] theorem z5g (s : ByteArray) : zde (.string s) = some (i64 s.size) := rfl
@[simp] theorem zbcd (s : ByteArray) : strV (.string s) = some (.string s) := rfl
theorem zbb {size len : Nat} {zero cs : List V} {parts : List (Nat × Nat × V)} (h : zero.all zm7 = true) (hc : zgt zero parts = some cs) {Q : V → Heap → Prop} :
    wp (zfb size len zero parts) Q H ↔ Q (slc H.next 0 size len len) (H.push (some (.cells true cs))) := by
  constructor
  · rintro ⟨a, H', h1, h2⟩
    simp only [zfb, h, if_true, hc] at h1
    cases h1; exact h2
  · intro hq; exact ⟨_, _, by simp only [zfb, h, if_true, hc], hq⟩
def zyj (o : Option V) (v : V) : Bool := match o with | some v' => vEq v' v | none => false
@[congr] theorem zbw1 {o o' : Option V} {v : V} (h : o = o') : zyj o v = zyj o' v := by rw [h]
theorem zbw2 (p : V) (H : Heap) : z8 p H = match zst H p with | some v => some (v, H) | none => none := by
  cases p <;> try rfl
  rename_i a
  cases a with
  | none => rfl
  | some a => obtain ⟨b, o, s⟩ := a; cases s <;> rfl
theorem zbur (p : V) (H : Heap) (v : V) : chk (z8 p) H v = zyj (zst H p) v := by
  unfold chk zyj
  rw [zbw2]
  cases zst H p <;> rfl
@[simp] theorem zco (k : IntKind) (n : Int) : zyj (some (.int k n)) (.int k n) = true := by simp [zyj, vEq]
@[simp] theorem zbz (b : Bool) : zyj (some (.bool b)) (.bool b) = true := by simp [zyj, vEq]
@[simp] theorem zcp (s : ByteArray) : zyj (some (.string s)) (.string s) = true := by simp [zyj, vEq]
@[simp] theorem zcq (a : Option Addr) : zyj (some (.pointer a)) (.pointer a) = true := by simp [zyj, vEq]
@[simp] theorem zcr (a : Option Addr) (n c : Nat) : zyj (some (.slice a n c)) (.slice a n c) = true := by simp [zyj, vEq]
@[simp] theorem zcs (a : Option Nat) : zyj (some (.map a)) (.map a) = true := by simp [zyj, vEq]
@[simp] theorem zbza (v : V) (H : Heap) : chk (ret v) H v = vEq v v := rfl
end Go.AM

/- Slices that one owns: elements of one cell. -/
namespace Go.AM
structure Keeps (S : List Nat) (H H' : Heap) : Prop where
  next : H.next ≤ H'.next
  same : ∀ b, b < H.next → b ∉ S → H'.get b = H.get b
theorem Keeps.refl (S : List Nat) (H : Heap) : Keeps S H H := ⟨Nat.le_refl _, fun _ _ _ => rfl⟩
theorem Keeps.trans {S S' : List Nat} {H H1 H2 : Heap} (h : Keeps S H H1) (h' : Keeps S' H1 H2) (hs : ∀ b, b < H.next → b ∈ S' → b ∈ S) : Keeps S H H2 :=
  ⟨Nat.le_trans h.next h'.next, fun b hb hn => by rw [h'.same b (Nat.lt_of_lt_of_le hb h.next) (fun hi => hn (hs b hb hi)), h.same b hb hn]⟩
theorem Keeps.mono {S S' : List Nat} {H H1 : Heap} (h : Keeps S H H1) (hs : ∀ b, b ∈ S → b ∈ S') : Keeps S' H H1 := ⟨h.next, fun b hb hn => h.same b hb fun hi => hn (hs b hi)⟩
theorem Keeps.get {S : List Nat} {H H' : Heap} (h : Keeps S H H') {b : Nat} {x : Blk} (hb : H.get b = some x) (hn : b ∉ S) : H'.get b = some x := by
  rw [h.same b (Heap.get_lt hb) hn]; exact hb
theorem Keeps.push (S : List Nat) (H : Heap) (x : Option Blk) : Keeps S H (H.push x) := ⟨by simp, fun b hb _ => Heap.get_push_lt hb⟩
theorem Keeps.set {S : List Nat} {H : Heap} {b : Nat} {x : Option Blk} (h : b ∈ S) : Keeps S H (H.set b x) := ⟨by simp, fun c _ hn => Heap.get_set_ne _ _ _ fun e => hn (e ▸ h)⟩
def vb (v : V) : List Nat := match v with | .slice (some ⟨b, _, _⟩) _ _ => [b] | _ => []
@[simp] theorem zbzi (n c : Nat) : vb (.slice none n c) = [] := rfl
@[simp] theorem zbzj (b o u n c : Nat) : vb (slc b o u n c) = [b] := rfl
def Own (H : Heap) (v : V) (l : List V) : Prop := (v = .slice none 0 0 ∧ l = []) ∨ ∃ b, v = slc b 0 1 l.length l.length ∧ H.get b = some (.cells true l)
theorem Own.nil (H : Heap) : Own H (.slice none 0 0) [] := .inl ⟨rfl, rfl⟩
theorem Own.keep {S : List Nat} {H H' : Heap} {v : V} {l : List V} (h : Own H v l) (hk : Keeps S H H') (hn : ∀ b ∈ vb v, b ∉ S) : Own H' v l := by
  rcases h with h | ⟨b, rfl, hb⟩
  · exact .inl h
  · exact .inr ⟨b, rfl, hk.get hb (hn b (by simp))⟩
theorem Own.len {H : Heap} {v : V} {l : List V} (h : Own H v l) : zo v = some (i64 l.length) := by
  rcases h with ⟨rfl, rfl⟩ | ⟨b, rfl, hb⟩ <;> rfl
theorem Own.lt {H : Heap} {v : V} {l : List V} (h : Own H v l) : ∀ b ∈ vb v, b < H.next := by
  rcases h with ⟨rfl, rfl⟩ | ⟨b, rfl, hb⟩
  · simp
  · simpa using Heap.get_lt hb
theorem zbw3 {v : V} {l : List V} {bs : List UInt8} {H : Heap} {Q : V → Heap → Prop} (hv : Own H v l) (hl : zo7 l = some bs) (hQ : Q (.string ⟨bs.toArray⟩) H) : wp (b2s v) Q H := by
  rcases hv with ⟨rfl, rfl⟩ | ⟨b, rfl, hg⟩
  · simp [zo7] at hl; subst hl
    exact ⟨_, _, rfl, hQ⟩
  · refine ⟨_, _, ?_, hQ⟩
    simp [b2s, cellsAt, hg, hl]
end Go.AM

/- Rules for walks: conditions that are told at once. -/
namespace Go.AM
section
variable {p : Prop} [Decidable p]
theorem zbce {a b : M Out} (h : p) : zi (.bool (decide p)) a b = a := by simp [h]
theorem zbcf {a b : M Out} (h : ¬ p) : zi (.bool (decide p)) a b = b := by simp [h]
theorem zbr6 {m : M V} (h : p) : gd (.bool (decide p)) true m = m := by simp [h]
theorem zbr7 {m : M V} (h : ¬ p) : gd (.bool (decide p)) true m = ret zo8 := by simp [h]
theorem zbmy {m : M V} (h : p) : gd (.bool (decide p)) false m = ret zo8 := by simp [h]
theorem zbmz {m : M V} (h : ¬ p) : gd (.bool (decide p)) false m = m := by simp [h]
theorem zbhr {x y : V} (h : p) : zm (.bool (decide p)) x y = some x := by simp [h]
theorem zbhs {x y : V} (h : ¬ p) : zm (.bool (decide p)) x y = some y := by simp [h]
theorem zbht : un .not (.bool (decide p)) = some (.bool (decide (¬ p))) := by simp [un]
end
theorem zbhu (a b : M Out) : zi (.bool true) a b = a := rfl
theorem zbhv (a b : M Out) : zi (.bool false) a b = b := rfl
theorem gd_t (m : M V) : gd (.bool true) true m = m := rfl
theorem gd_f (m : M V) : gd (.bool false) true m = ret zo8 := rfl
theorem zbr8 (m : M V) : gd (.bool true) false m = ret zo8 := rfl
theorem zbr9 (m : M V) : gd (.bool false) false m = m := rfl
theorem zbm0 (x y : V) : zm (.bool true) x y = some x := rfl
theorem zbm1 (x y : V) : zm (.bool false) x y = some y := rfl
theorem zbsa : un .not (.bool true) = some (.bool false) := rfl
theorem zbsb : un .not (.bool false) = some (.bool true) := rfl
theorem zbhw (k : IntKind) (x y : Int) : zj .eql (.int k x) (.int k y) = some (.bool (decide (x = y))) := by
  simp [zj, z3c, BEq.beq]
theorem zbhx (k : IntKind) (x y : Int) : zj .neq (.int k x) (.int k y) = some (.bool (decide (x ≠ y))) := by
  simp [zj, z3c, bne, BEq.beq]
theorem zbhy (x y : ByteArray) : zj .eql (.string x) (.string y) = some (.bool (decide (x = y))) := rfl
theorem zbhz (x y : ByteArray) : zj .neq (.string x) (.string y) = some (.bool (decide (x ≠ y))) := by simp [zj, sbin]
@[simp] theorem z8x (b o : Nat) : zhx false (isNil .p (ptr b o)) = some (.bool false) := rfl
@[simp] theorem z5h (b o : Nat) : zhx true (isNil .p (ptr b o)) = some (.bool true) := rfl
@[simp] theorem z5i : zhx false (isNil .p (.pointer none)) = some (.bool true) := rfl
@[simp] theorem z0o : zhx true (isNil .p (.pointer none)) = some (.bool false) := rfl
end Go.AM

/- Strings and their bytes. -/
namespace Go.AM
def bv (s : ByteArray) : List (BitVec 8) := s.data.toList.map UInt8.toBitVec
def sv (l : List (BitVec 8)) : ByteArray := ⟨(l.map UInt8.ofBitVec).toArray⟩
theorem zbpt (s : ByteArray) : zk6 s = (bv s).map B := by
  simp only [zk6, bv, List.map_map]; rfl
theorem zbl (s : ByteArray) : (bv s).length = s.size := by simp only [bv, List.length_map, Array.length_toList]; rfl
theorem zvp (l : List (BitVec 8)) : bv (sv l) = l := by
  simp only [bv, sv, List.map_map]
  conv => rhs; rw [← List.map_id l]
  apply List.map_congr_left
  intro x _; rfl
theorem z92 (s : ByteArray) : sv (bv s) = s := by
  cases s with | mk d =>
  simp only [bv, sv, List.map_map]
  congr 1
  apply Array.toList_inj.mp
  simp only [List.toList_toArray]
  conv => rhs; rw [← List.map_id d.toList]
  apply List.map_congr_left
  intro x _; rfl
theorem zbcg {s t : ByteArray} (h : bv s = bv t) : s = t := by rw [← z92 s, h, z92]
theorem z22 (l : List (BitVec 8)) : (sv l).size = l.length := by rw [← zbl, zvp]
theorem zbpu (s t : ByteArray) : bv (s ++ t) = bv s ++ bv t := by
  have h : (s ++ t).data = s.data ++ t.data := ByteArray.data_append
  simp only [bv, h, Array.toList_append, List.map_append]
theorem zgf (s : ByteArray) (a b : Nat) : bv (s.extract a b) = ((bv s).drop a).take (b - a) := by
  have h : (s.extract a b).data = s.data.extract a b := ByteArray.data_extract
  simp only [bv, h, Array.toList_extract, List.extract, List.map_take, List.map_drop]
theorem zbsc : bv ⟨#[]⟩ = [] := rfl
theorem zbh0 {s : ByteArray} : bv s = [] ↔ s = ⟨#[]⟩ := ⟨fun h => zbcg (h.trans zbsc.symm), fun h => by rw [h]; rfl⟩
theorem size_append (s t : ByteArray) : (s ++ t).size = s.size + t.size := by rw [← zbl, zbpu, List.length_append, zbl, zbl]
theorem zhf (s : ByteArray) {a b : Nat} (h : b ≤ s.size) : (s.extract a b).size = b - a := by
  rw [← zbl, zgf, List.length_take, List.length_drop, zbl]; omega
theorem zbgg : ∀ l : List (BitVec 8), zo7 (l.map B) = some (l.map UInt8.ofBitVec)
  | [] => rfl
  | x :: l => by
    simp only [List.map_cons, zo7, zbgg l, zba6]
    congr 2
    apply UInt8.toBitVec_inj.mp
    apply BitVec.eq_of_toNat_eq
    show (UInt8.ofNat (x.toNat : Int).toNat).toBitVec.toNat = x.toNat
    have := x.isLt
    simp
theorem zbus {v : V} {l : List (BitVec 8)} {H : Heap} {Q : V → Heap → Prop} (hv : Own H v (l.map B)) (hQ : Q (.string (sv l)) H) : wp (b2s v) Q H := zbw3 hv (zbgg l) hQ
theorem zgj {s : ByteArray} {k : IntKind} {i : Int} (h0 : 0 ≤ i) (h : i < s.size) : zh9 (.string s) (.int k i) = some (B ((bv s).getD i.toNat 0)) := by
  have hi : i.toNat < s.size := by omega
  have hb : i.toNat < (bv s).length := by rw [zbl]; exact hi
  have e : s[i.toNat]? = some s[i.toNat] := getElem?_pos s i.toNat hi
  have e2 : (bv s).getD i.toNat 0 = s[i.toNat].toBitVec := by
    rw [List.getD_eq_getElem?_getD, List.getElem?_eq_getElem hb]
    simp only [bv, List.getElem_map, Option.getD_some]
    rfl
  simp only [zh9, h0, if_true, e, e2]
  rfl
theorem zoj {s : ByteArray} {k k' : IntKind} {a b : Int} (h1 : 0 ≤ a) (h2 : a ≤ b) (h3 : b ≤ s.size) : zo6 (.string s) (some (.int k a)) (some (.int k' b)) = some (.string (s.extract a.toNat b.toNat)) := by
  have e1 : zgu s.size s.size (some (.int k' b)) = some b.toNat := by simp [zgu]; omega
  have e2 : zgu 0 b.toNat (some (.int k a)) = some a.toNat := by simp [zgu]; omega
  simp [zo6, e1, e2]
theorem zbh1 {s : ByteArray} {k : IntKind} {a : Int} (h1 : 0 ≤ a) (h3 : a ≤ s.size) : zo6 (.string s) (some (.int k a)) none = some (.string (s.extract a.toNat s.size)) := by
  have e2 : zgu 0 s.size (some (.int k a)) = some a.toNat := by simp [zgu]; omega
  simp [zo6, e2]
  simp [zgu]
  simp [zgu] at e2
  simp [e2]
theorem zbh2 {s : ByteArray} {k' : IntKind} {b : Int} (h2 : 0 ≤ b) (h3 : b ≤ s.size) : zo6 (.string s) none (some (.int k' b)) = some (.string (s.extract 0 b.toNat)) := by
  have e1 : zgu s.size s.size (some (.int k' b)) = some b.toNat := by simp [zgu]; omega
  have e2 : zgu 0 b.toNat none = some 0 := rfl
  simp only [zo6, e1, e2]
theorem zbw6 {n : Int} (h0 : 0 ≤ n) (h1 : n ≤ 18446744073709551615) : IntKind.u64.wrap n = n := by rw [IntKind.wrap_u64]; omega
theorem zbut {k : IntKind} {x y : Int} (h : y ≠ 0) : zj .rem (.int k x) (.int k y) = some (.int k (x.tmod y)) := by simp [zj, z3c, h]
theorem zbof {k : IntKind} {x y : Int} (h : y ≠ 0) : zj .quo (.int k x) (.int k y) = some (.int k (k.wrap (x.tdiv y))) := by simp [zj, z3c, h]
theorem zbsd {k : IntKind} {x y : Int} (h0 : 0 ≤ x) (h : 0 < y) : zj .rem (.int k x) (.int k y) = some (.int k (x % y)) := by
  rw [zbut (by omega), Int.tmod_eq_emod_of_nonneg h0]
theorem zyk (k k' : IntKind) (n : Int) : cvi k (.int k' n) = some (.int k (k.wrap n)) := rfl
end Go.AM

/- Slices of things that lie flat in cells. -/
namespace Go.AM
class Flat (α : Type) where
  size : Nat
  enc : α → List V
  len : ∀ a, (enc a).length = size
  one : ∀ a, (enc a).all Value.isOne = true
  pos : 0 < size
instance : Flat Int := ⟨1, fun n => [i64 n], fun _ => rfl, fun _ => rfl, by decide⟩
instance : Flat ByteArray := ⟨1, fun s => [.string s], fun _ => rfl, fun _ => rfl, by decide⟩
instance : Flat (BitVec 8) := ⟨1, fun b => [B b], fun _ => rfl, fun _ => rfl, by decide⟩
instance : Flat Bool := ⟨1, fun b => [.bool b], fun _ => rfl, fun _ => rfl, by decide⟩
theorem zbh3 (n : Int) : Flat.enc n = [i64 n] := rfl
theorem zbh4 (s : ByteArray) : Flat.enc s = [.string s] := rfl
theorem zbch (b : BitVec 8) : Flat.enc b = [B b] := rfl
theorem zbci (b : Bool) : Flat.enc b = [.bool b] := rfl
variable {α : Type} [Flat α]
def zr (xs : List α) : List V := xs.flatMap Flat.enc
theorem zok (x : α) (xs : List α) : zr (x :: xs) = Flat.enc x ++ zr xs := rfl
theorem zbkk (xs ys : List α) : zr (xs ++ ys) = zr xs ++ zr ys := by simp [zr]
theorem zes (xs : List α) : (zr xs).length = xs.length * Flat.size α := by
  induction xs with
  | nil => simp [zr]
  | cons x xs ih => rw [zok, List.length_append, ih, Flat.len, List.length_cons, Nat.add_mul]; omega
theorem zbkl (xs : List α) : (zr xs).all Value.isOne = true := by
  induction xs with
  | nil => rfl
  | cons x xs ih => rw [zok, List.all_append, ih, Flat.one]; rfl
theorem z8y (xs : List α) : ∀ i, (zr xs).drop (i * Flat.size α) = zr (xs.drop i) := by
  induction xs with
  | nil => intro i; simp [zr]
  | cons x xs ih =>
    intro i
    cases i with
    | zero => simp
    | succ i =>
      rw [zok, Nat.add_mul, Nat.one_mul, Nat.add_comm, ← List.drop_drop]
      rw [List.drop_append_of_le_length (by rw [Flat.len]; exact Nat.le_refl _)]
      rw [show (Flat.enc x).drop (Flat.size α) = [] from List.drop_eq_nil_of_le (by rw [Flat.len]; exact Nat.le_refl _)]
      exact ih i
theorem zbpv (xs : List α) : ∀ i, (zr xs).take (i * Flat.size α) = zr (xs.take i) := by
  induction xs with
  | nil => intro i; simp [zr]
  | cons x xs ih =>
    intro i
    cases i with
    | zero => simp [zr]
    | succ i =>
      rw [zok, Nat.add_mul, Nat.one_mul, Nat.add_comm, List.take_add, List.take_append_of_le_length (by rw [Flat.len]; exact Nat.le_refl _)]
      rw [show (Flat.enc x).take (Flat.size α) = Flat.enc x from List.take_of_length_le (by rw [Flat.len]; exact Nat.le_refl _)]
      rw [List.drop_append_of_le_length (by rw [Flat.len]; exact Nat.le_refl _), show (Flat.enc x).drop (Flat.size α) = [] from List.drop_eq_nil_of_le (by rw [Flat.len]; exact Nat.le_refl _)]
      rw [List.nil_append, ih i, List.take_succ_cons, zok]
def slB : V → Nat | .slice (some a) _ _ => a.block | _ => 0
def slO : V → Nat | .slice (some a) _ _ => a.off | _ => 0
def Sl (H : Heap) (v : V) (xs : List α) : Prop := (v = .slice none 0 0 ∧ xs = []) ∨ ∃ b o u c, v = slc b o u xs.length c ∧ xs.length ≤ c ∧ b < H.next ∧ (xs = [] ∨ ∃ rw cs, H.get b = some (.cells rw cs) ∧ o + xs.length * Flat.size α ≤ cs.length ∧ (cs.drop o).take (xs.length * Flat.size α) = zr xs) ∧ (u = 0 ∨ u = Flat.size α)
theorem Sl.nil (H : Heap) : Sl H (.slice none 0 0) ([] : List α) := .inl ⟨rfl, rfl⟩
theorem Sl.keep {S : List Nat} {H H' : Heap} {v : V} {l : List α} (h : Sl H v l) (hk : Keeps S H H') (hn : ∀ b ∈ vb v, b ∉ S) : Sl H' v l := by
  rcases h with h | ⟨b, o, u, c, rfl, hc, hb, hl, hu⟩
  · exact .inl h
  · refine .inr ⟨b, o, u, c, rfl, hc, Nat.lt_of_lt_of_le hb hk.next, ?_, hu⟩
    rcases hl with hl | ⟨rw, cs, h1, h2⟩
    · exact .inl hl
    · exact .inr ⟨rw, cs, hk.get h1 (hn b (by simp)), h2⟩
theorem Sl.keep0 {H H' : Heap} {v : V} {l : List α} (h : Sl H v l) (hk : Keeps [] H H') : Sl H' v l := h.keep hk (by simp)
theorem Sl.len {H : Heap} {v : V} {l : List α} (h : Sl H v l) : zo v = some (i64 l.length) := by
  rcases h with ⟨rfl, rfl⟩ | ⟨b, o, u, c, rfl, _⟩ <;> rfl
theorem Sl.lt {H : Heap} {v : V} {l : List α} (h : Sl H v l) : ∀ b ∈ vb v, b < H.next := by
  rcases h with ⟨rfl, rfl⟩ | ⟨b, o, u, c, rfl, hc, hb, hl⟩
  · simp
  · simpa using hb
theorem Sl.isOne {H : Heap} {v : V} {l : List α} (h : Sl H v l) : v.isOne = true := by
  rcases h with ⟨rfl, rfl⟩ | ⟨b, o, u, c, rfl, _⟩ <;> rfl
theorem Sl.addr {H : Heap} {v : V} {l : List α} (h : Sl H v l) {k : IntKind} {i : Int} (h0 : 0 ≤ i) (hi : i < l.length) : zbo (Flat.size α) v (.int k i) = some (ptr (slB v) (slO v + i.toNat * Flat.size α)) := by
  rcases h with ⟨rfl, rfl⟩ | ⟨b, o, u, c, rfl, _⟩
  · simp at hi; omega
  · exact zbcc h0 hi
theorem zbse (cs : List V) (xs : List α) (o i : Nat) (hi : i < xs.length) (d : α) (hl : (cs.drop o).take (xs.length * Flat.size α) = zr xs) : (cs.drop (o + i * Flat.size α)).take (Flat.size α) = Flat.enc (xs.getD i d) := by
  have e1 : ((zr xs).drop (i * Flat.size α)).take (Flat.size α) = Flat.enc (xs.getD i d) := by
    rw [z8y]
    have : xs.drop i = xs.getD i d :: xs.drop (i + 1) := by
      rw [List.getD_eq_getElem?_getD, List.getElem?_eq_getElem hi]
      exact List.drop_eq_getElem_cons hi
    rw [this, zok, List.take_append_of_le_length (by rw [Flat.len]; exact Nat.le_refl _), List.take_of_length_le (by rw [Flat.len]; exact Nat.le_refl _)]
  rw [← e1, ← hl, List.drop_take, List.take_take, List.drop_drop]
  congr 1
  have : (i + 1) * Flat.size α ≤ xs.length * Flat.size α := Nat.mul_le_mul_right _ hi
  rw [Nat.add_mul] at this
  omega
theorem Sl.ldn {H : Heap} {v : V} {l : List α} (h : Sl H v l) {i : Nat} (hi : i < l.length) (d : α) {Q : V → Heap → Prop} : wp (ldn (Flat.size α) (ptr (slB v) (slO v + i * Flat.size α))) Q H ↔ Q (.agg (Flat.enc (l.getD i d)).toArray) H := by
  rcases h with ⟨rfl, rfl⟩ | ⟨b, o, u, c, rfl, hc, _, hl, _⟩
  · simp at hi
  · rcases hl with rfl | ⟨rw, cs, hb, hl1, hl2⟩
    · simp at hi
    · have h1 : (i + 1) * Flat.size α ≤ l.length * Flat.size α := Nat.mul_le_mul_right _ hi
      rw [Nat.add_mul] at h1
      show wp (Go.AM.ldn _ (ptr b (o + i * Flat.size α))) Q H ↔ _
      rw [zbr4 hb (by omega), zbse cs l o i hi d hl2]
theorem Sl.cell {H : Heap} {v : V} {l : List α} (h : Sl H v l) {i off : Nat} (hi : i < l.length) (ho : off < Flat.size α) (d : α) : zst H (ptr (slB v) (slO v + i * Flat.size α + off)) = (Flat.enc (l.getD i d))[off]? := by
  rcases h with ⟨rfl, rfl⟩ | ⟨b, o, u, c, rfl, hc, _, hl, _⟩
  · simp at hi
  · rcases hl with rfl | ⟨rw, cs, hb, hl1, hl2⟩
    · simp at hi
    · show zst H (ptr b (o + i * Flat.size α + off)) = _
      rw [zbgf hb, ← zbse cs l o i hi d hl2, List.getElem?_take, if_pos ho, List.getElem?_drop]
theorem Sl.addr' {H : Heap} {v : V} {l : List α} (h : Sl H v l) {n : Nat} (hs : Flat.size α = n) {k : IntKind} {i : Int} (h0 : 0 ≤ i) (hi : i < l.length) : zbo n v (.int k i) = some (ptr (slB v) (slO v + i.toNat * n)) := by subst hs; exact h.addr h0 hi
theorem Sl.ldn' {H : Heap} {v : V} {l : List α} (h : Sl H v l) {n : Nat} (hs : Flat.size α = n) {i : Nat} (hi : i < l.length) (d : α) {Q : V → Heap → Prop} : wp (Go.AM.ldn n (ptr (slB v) (slO v + i * n))) Q H ↔ Q (.agg (Flat.enc (l.getD i d)).toArray) H := by subst hs; exact h.ldn hi d
theorem Sl.cell' {H : Heap} {v : V} {l : List α} (h : Sl H v l) {n : Nat} (hs : Flat.size α = n) {i off : Nat} (hi : i < l.length) (ho : off < n) (d : α) : zst H (ptr (slB v) (slO v + i * n + off)) = (Flat.enc (l.getD i d))[off]? := by subst hs; exact h.cell hi ho d
theorem Sl.addr1 {H : Heap} {v : V} {l : List α} (h : Sl H v l) (hs : Flat.size α = 1) {k : IntKind} {i : Int} (h0 : 0 ≤ i) (hi : i < l.length) : zbo 1 v (.int k i) = some (ptr (slB v) (slO v + i.toNat)) := by
  have := h.addr (k := k) h0 hi
  rw [hs, Nat.mul_one] at this
  exact this
theorem Sl.cell1 {H : Heap} {v : V} {l : List α} (h : Sl H v l) (hs : Flat.size α = 1) {i : Nat} (hi : i < l.length) (d : α) : zst H (ptr (slB v) (slO v + i)) = (Flat.enc (l.getD i d))[0]? := by
  have := h.cell (off := 0) hi (by omega) d
  rw [hs, Nat.mul_one, Nat.add_zero] at this
  exact this
theorem Own.sl {H : Heap} {v : V} {l : List α} (hs : Flat.size α = 1) (h : Own H v (zr l)) : Sl H v l := by
  rcases h with ⟨rfl, hl⟩ | ⟨b, rfl, hb⟩
  · refine .inl ⟨rfl, ?_⟩
    have := congrArg List.length hl
    rw [zes, hs] at this
    exact List.eq_nil_of_length_eq_zero (by simpa using this)
  · have e : (zr l).length = l.length := by rw [zes, hs, Nat.mul_one]
    refine .inr ⟨b, 0, 1, l.length, by rw [e], Nat.le_refl _, Heap.get_lt hb, .inr ⟨true, zr l, hb, by rw [zes]; omega, ?_⟩, .inr hs.symm⟩
    rw [List.drop_zero, List.take_of_length_le (by rw [zes]; exact Nat.le_refl _)]
end Go.AM

/- Heaps that are written out: what a block holds is told by rules. -/
namespace Go.AM
namespace Heap
theorem get_push_eq {H : Heap} {x : Option Blk} {b : Nat} (h : b = H.next) : (H.push x).get b = x := by subst h; exact get_push_self H x
theorem get_set_eq {H : Heap} {b : Nat} {x : Option Blk} (h : b < H.next) : (H.set b x).get b = x := get_set_self h
theorem get_set_ne' {H : Heap} {b c : Nat} {x : Option Blk} (h : c ≠ b) : (H.set b x).get c = H.get c := get_set_ne _ _ _ h
theorem set_push_lt {H : Heap} {x y : Option Blk} {b : Nat} (h : b < H.next) : (H.push x).set b y = (H.set b y).push x := by
  simp only [Heap.set, Heap.push, Heap.next] at h ⊢
  rw [List.set_append_left _ _ h]
theorem set_push_eq {H : Heap} {x y : Option Blk} {b : Nat} (h : b = H.next) : (H.push x).set b y = H.push y := by
  subst h
  simp only [Heap.set, Heap.push, Heap.next]
  rw [List.set_append_right _ _ (Nat.le_refl _)]
  simp
end Heap
def zbcj : Option Blk → Nat → Option V
  | some (.cells _ cs), o => cs[o]?
  | _, _ => none
theorem zv (H : Heap) (b o : Nat) : zst H (ptr b o) = zbcj (H.get b) o := by
  simp only [zst, Heap.cell]
  split <;> simp_all [zbcj]
theorem z6 (rw : Bool) (cs : List V) (o : Nat) : zbcj (some (.cells rw cs)) o = cs[o]? := rfl
def stG (x : Option Blk) (o : Nat) (v : V) (k : Option Blk → Prop) : Prop := match x with
  | some (.cells true cs) => v.isOne = true ∧ o < cs.length ∧ k (some (.cells true (cs.set o v)))
  | _ => False
theorem zdv (H : Heap) (b o : Nat) (v : V) {Q : V → Heap → Prop} : wp (st1 (ptr b o) v) Q H ↔ stG (H.get b) o v fun y => Q undef (H.set b y) := by
  unfold stG
  constructor
  · rintro ⟨a, H', h1, h2⟩
    simp only [st1] at h1
    split at h1
    · rename_i cs hg
      rw [hg]
      split at h1
      · rename_i hc
        cases h1
        simp only [Bool.and_eq_true, decide_eq_true_eq] at hc
        exact ⟨hc.1, hc.2, h2⟩
      · cases h1
    · cases h1
  · intro h
    split at h
    · rename_i cs hg
      exact (zbw0 hg h.1 h.2.1).mpr h.2.2
    · exact h.elim
@[congr] theorem zbx1 {x x' : Option Blk} {o : Nat} {v : V} {k : Option Blk → Prop} (h : x = x') : stG x o v k = stG x' o v k := by rw [h]
theorem zia {cs : List V} {o : Nat} {v : V} {k : Option Blk → Prop} (ho : o < cs.length) : stG (some (.cells true cs)) o v k ↔ (v.isOne = true ∧ k (some (.cells true (cs.set o v)))) := by simp [stG, ho]
def stnG (x : Option Blk) (n o : Nat) (v : V) (k : Option Blk → Prop) : Prop := match x, v with
  | some (.cells true cs), .agg vs => vs.toList.all Value.isOne = true ∧ vs.toList.length = n ∧ o + n ≤ cs.length ∧ k (some (.cells true (splice cs o vs.toList)))
  | _, _ => False
theorem zd7 (H : Heap) (b o n : Nat) (v : V) {Q : V → Heap → Prop} : wp (stn n (ptr b o) v) Q H ↔ stnG (H.get b) n o v fun y => Q undef (H.set b y) := by
  unfold stnG
  constructor
  · rintro ⟨a, H', h1, h2⟩
    simp only [stn] at h1
    split at h1
    · rename_i b' o' vs hp
      cases hp
      split at h1
      · rename_i cs hg
        rw [hg]
        split at h1
        · rename_i hc
          cases h1
          simp only [Bool.and_eq_true, decide_eq_true_eq, beq_iff_eq] at hc
          exact ⟨hc.1.1, hc.1.2, hc.2, h2⟩
        · cases h1
      · cases h1
    · cases h1
  · intro h
    split at h
    · rename_i cs vs hg
      refine ⟨undef, _, ?_, h.2.2.2⟩
      simp only [stn, hg]
      rw [if_pos (by simp [h.1, h.2.1, h.2.2.1])]
    · exact h.elim
@[congr] theorem zbw7 {x x' : Option Blk} {n o : Nat} {v : V} {k : Option Blk → Prop} (h : x = x') : stnG x n o v k = stnG x' n o v k := by rw [h]
theorem zdn {cs vs : List V} {n o : Nat} {k : Option Blk → Prop} (hv : vs.all Value.isOne = true) (hn : vs.length = n) (ho : o + n ≤ cs.length) : stnG (some (.cells true cs)) n o (.agg vs.toArray) k ↔ k (some (.cells true (splice cs o vs))) := by simp [stnG, hv, hn, ho]
def ldG (x : Option Blk) (n o : Nat) (k : V → Prop) : Prop := match x with
  | some (.cells _ cs) => o + n ≤ cs.length ∧ k (.agg ((cs.drop o).take n).toArray)
  | _ => False
theorem zf7 (H : Heap) (b o n : Nat) {Q : V → Heap → Prop} : wp (ldn n (ptr b o)) Q H ↔ ldG (H.get b) n o fun y => Q y H := by
  unfold ldG
  constructor
  · rintro ⟨a, H', h1, h2⟩
    simp only [ldn, cellsAt] at h1
    split at h1
    · rename_i l hl
      cases h1
      split at hl
      · rename_i rw cs hg
        rw [hg]
        split at hl
        · rename_i hc; cases hl; exact ⟨hc, h2⟩
        · cases hl
      · cases hl
    · cases h1
  · intro h
    split at h
    · rename_i rw cs hg
      exact (zbr4 hg h.1).mpr h.2
    · exact h.elim
@[congr] theorem zbx3 {x x' : Option Blk} {n o : Nat} {k : V → Prop} (h : x = x') : ldG x n o k = ldG x' n o k := by rw [h]
theorem ze8 {rw : Bool} {cs : List V} {n o : Nat} {k : V → Prop} (ho : o + n ≤ cs.length) : ldG (some (.cells rw cs)) n o k ↔ k (.agg ((cs.drop o).take n).toArray) := by simp [ldG, ho]
theorem zcc {cs : List V} {H : Heap} {Q : V → Heap → Prop} (h : cs.all zm7 = true) : wp (newc cs) Q H ↔ Q (ptr H.next 0) (H.push (some (.cells true cs))) := zbod h
theorem zd8 {vs : List V} {H : Heap} {Q : V → Heap → Prop} (h : vs.all Value.isOne = true) : wp (zhp (.agg vs.toArray)) Q H ↔ Q (ptr H.next 0) (H.push (some (.cells true vs))) := by
  have hc : (Value.agg vs.toArray).cells.toList = vs := by simp [Value.cells]
  constructor
  · rintro ⟨a, H', h1, h2⟩
    unfold zhp at h1
    rw [hc, if_pos h] at h1
    cases h1; exact h2
  · intro hq; exact ⟨_, _, by unfold zhp; rw [hc, if_pos h], hq⟩
theorem zct (off : Nat) (vs : List V) : fld1 off (.agg vs.toArray) = vs[off]? := by simp [fld1]
theorem zcu {off n : Nat} {vs : List V} (h : off + n ≤ vs.length) : fldn off n (.agg vs.toArray) = some (.agg ((vs.drop off).take n).toArray) := by simp [fldn, h]
theorem zb0 (i : Nat) (vs : List V) : ext i (.tuple vs.toArray) = vs[i]? := by simp [ext]
section
variable {α : Type} [DecidableEq α] {x y : α} {p : Prop} [Decidable p]
theorem zcv {a b : M Out} (h : p) : zi (.bool (decide (¬ p))) a b = b := by simp [h]
theorem zb1 {a b : M Out} (h : x = y) : zi (.bool (decide (x ≠ y))) a b = b := by simp [h]
theorem zfj {m : M V} (h : x = y) : gd (.bool (decide (x ≠ y))) true m = ret zo8 := by simp [h]
theorem zdw {m : M V} (h : x = y) : gd (.bool (decide (x ≠ y))) false m = m := by simp [h]
theorem zcw {a b : V} (h : x = y) : zm (.bool (decide (x ≠ y))) a b = some b := by simp [h]
end
section
variable {p : Prop} [Decidable p] {Q : Out → Heap → Prop} {QV : V → Heap → Prop} {QQ : V → Prop} {H : Heap}
end
section
variable {c : Bool} {Q : Out → Heap → Prop} {QV : V → Heap → Prop} {QQ : V → Prop} {H : Heap}
end
section
variable {p : Prop} [Decidable p] {Q : Out → Heap → Prop} {QV : V → Heap → Prop} {QQ : V → Prop} {H : Heap}
theorem zfl {a b : M Out} (h1 : p → wp a Q H) (h2 : ¬ p → wp b Q H) : wp (zi (.bool (decide p)) a b) Q H := by by_cases h : p <;> simp_all
theorem zhj {m : M V} (h1 : p → wp m QV H) (h2 : ¬ p → QV zo8 H) : wp (gd (.bool (decide p)) true m) QV H := by by_cases h : p <;> simp_all
theorem zgk {m : M V} (h1 : p → QV zo8 H) (h2 : ¬ p → wp m QV H) : wp (gd (.bool (decide p)) false m) QV H := by by_cases h : p <;> simp_all
theorem zex {x y : V} (h1 : p → QQ x) (h2 : ¬ p → QQ y) : wpO (zm (.bool (decide p)) x y) QQ := by by_cases h : p <;> simp_all
end
section
variable {c : Bool} {Q : Out → Heap → Prop} {QV : V → Heap → Prop} {QQ : V → Prop} {H : Heap}
theorem ziu {a b : M Out} (h1 : c = true → wp a Q H) (h2 : c = false → wp b Q H) : wp (zi (.bool c) a b) Q H := by cases c <;> simp_all
theorem znh {m : M V} (h1 : c = true → wp m QV H) (h2 : c = false → QV zo8 H) : wp (gd (.bool c) true m) QV H := by cases c <;> simp_all
theorem zkd {m : M V} (h1 : c = true → QV zo8 H) (h2 : c = false → wp m QV H) : wp (gd (.bool c) false m) QV H := by cases c <;> simp_all
theorem zhk {x y : V} (h1 : c = true → QQ x) (h2 : c = false → QQ y) : wpO (zm (.bool c) x y) QQ := by cases c <;> simp_all
end
theorem zwc {α : Type} {m : M α} {v : α} (h : ∀ H, wp m (fun r H' => r = v ∧ H' = H) H) : m = ret v := by
  funext H
  obtain ⟨a, H', h1, rfl, rfl⟩ := h H
  exact h1
theorem zcx : zbe [] = .tuple #[] := rfl
theorem zcy (a b : V) : zbe [a, b] = .tuple #[a, b] := rfl
theorem zbg (a b c : V) : zbe [a, b, c] = .tuple #[a, b, c] := rfl
theorem zb2 (a b c d : V) : zbe [a, b, c, d] = .tuple #[a, b, c, d] := rfl
theorem zcz (b o : Nat) (H : Heap) (v : V) : chk (z8 (ptr b o)) H v = zyj (zbcj (H.get b) o) v := by rw [zbur, zv]
theorem zq {S : List Nat} {H0 H : Heap} {x : Option Blk} (h : Keeps S H0 H) : Keeps S H0 (H.push x) :=
  ⟨by have := h.next; simp; omega, fun b hb hn => by rw [Heap.get_push_lt (by have := h.next; omega), h.same b hb hn]⟩
theorem zbm {S : List Nat} {H0 H : Heap} {b : Nat} {x : Option Blk} (h : Keeps S H0 H) (hb : b ∈ S ∨ H0.next ≤ b) : Keeps S H0 (H.set b x) :=
  ⟨by have := h.next; simp; omega, fun c hc hn => by
    have : c ≠ b := fun e => by subst e; rcases hb with hb | hb; exact hn hb; omega
    rw [Heap.get_set_ne _ _ _ this, h.same c hc hn]⟩
end Go.AM
