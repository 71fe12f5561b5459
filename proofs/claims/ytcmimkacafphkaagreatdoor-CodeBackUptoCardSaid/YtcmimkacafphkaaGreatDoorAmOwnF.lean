import Derived.Test.YtcmimkacafphkaaGreatDoorAmBase
import Derived.IntWalk
set_option linter.all false
/- How runs on the abstract machine are told. -/
namespace Go.AM

/-- it comes to an end, and so -/
def wp {α : Type} (m : M α) (Q : α → Heap → Prop) (H : Heap) : Prop := ∃ a H', m H = some (a, H') ∧ Q a H'

variable {α β : Type} {Q : α → Heap → Prop} {H : Heap}

theorem wp_mono {m : M α} {Q' : α → Heap → Prop} (h : wp m Q H) (hq : ∀ a H', Q a H' → Q' a H') : wp m Q' H := by
  obtain ⟨a, H', h1, h2⟩ := h; exact ⟨a, H', h1, hq a H' h2⟩
@[simp] theorem wp_ret (a : α) : wp (ret a) Q H ↔ Q a H := ⟨fun ⟨_, _, h1, h2⟩ => by cases h1; exact h2, fun h => ⟨a, H, rfl, h⟩⟩
@[simp] theorem wp_bnd {m : M β} {k : β → M α} : wp (bnd m k) Q H ↔ wp m (fun b H' => wp (k b) Q H') H := by
  constructor
  · rintro ⟨a, H', h1, h2⟩
    obtain ⟨b, H1, h3, h4⟩ := bnd_inv' h1
    exact ⟨b, H1, h3, a, H', h4, h2⟩
  · rintro ⟨b, H1, h3, a, H', h4, h2⟩
    exact ⟨a, H', by simp [bnd, h3, h4], h2⟩
where
  bnd_inv' {m : M β} {k : β → M α} {r : α} {H' : Heap} (h : bnd m k H = some (r, H')) : ∃ b H1, m H = some (b, H1) ∧ k b H1 = some (r, H') := by
    unfold bnd at h
    split at h
    · rename_i b H1 hm; exact ⟨b, H1, hm, h⟩
    · cases h
/-- a partial answer that is there, and so -/
def wpO (o : Option α) (Q : α → Prop) : Prop := ∃ a, o = some a ∧ Q a
@[simp] theorem wpO_some (a : α) (Q : α → Prop) : wpO (some a) Q ↔ Q a := by simp [wpO]
@[simp] theorem wpO_none (Q : α → Prop) : wpO none Q ↔ False := by simp [wpO]
@[congr] theorem wpO_congr {o o' : Option α} {Q : α → Prop} (h : o = o') : wpO o Q = wpO o' Q := by rw [h]
@[congr] theorem wp_congr {m m' : M α} {Q : α → Heap → Prop} {H : Heap} (h : m = m') : wp m Q H = wp m' Q H := by rw [h]
@[congr] theorem bnd_congr {m m' : M β} {k : β → M α} (h : m = m') : bnd m k = bnd m' k := by rw [h]
@[congr] theorem bndH_congr {R : Type} {m m' : M V} {k : Heap → V → Heap → M R} (h : m = m') : bndH m k = bndH m' k := by rw [h]
@[congr] theorem need_congr {b b' : Bool} {m : M α} (h : b = b') : need b m = need b' m := by rw [h]
@[congr] theorem condM_congr {c c' : V} {m1 m2 : M Out} (h : c = c') : condM c m1 m2 = condM c' m1 m2 := by rw [h]
@[congr] theorem gd_congr {g g' : V} {b : Bool} {m : M V} (h : g = g') : gd g b m = gd g' b m := by rw [h]
@[congr] theorem nx_congr {o o' : Out} {k : List V → M Out} (h : o = o') : nx o k = nx o' k := by rw [h]
@[congr] theorem finM_congr {o o' : Out} {k : List V → M V} (h : o = o') : finM o k = finM o' k := by rw [h]
@[congr] theorem loopM_congr {n : Nat} {body : List V → M Out} {vs vs' : List V} (h : vs = vs') : loopM n body vs = loopM n body vs' := by rw [h]
@[simp] theorem wp_lift (o : Option α) : wp (lift o) Q H ↔ wpO o fun a => Q a H := by
  unfold wpO
  cases o with
  | none => simp [wp, lift]
  | some a => exact ⟨fun ⟨_, _, h1, h2⟩ => by cases h1; exact ⟨_, rfl, h2⟩, fun ⟨_, h1, h2⟩ => by cases h1; exact ⟨_, _, rfl, h2⟩⟩
@[simp] theorem wp_fail : wp (fail : M α) Q H ↔ False := by simp [wp, fail]
@[simp] theorem wp_need (m : M α) : wp (need true m) Q H ↔ wp m Q H := by simp [wp, need]
@[simp] theorem condM_true (m1 m2 : M Out) : condM (.bool true) m1 m2 = m1 := rfl
@[simp] theorem condM_false (m1 m2 : M Out) : condM (.bool false) m1 m2 = m2 := rfl
@[simp] theorem wp_bndH {R : Type} {m : M V} {k : Heap → V → Heap → M R} {Q : R → Heap → Prop} : wp (bndH m k) Q H ↔ wp m (fun v H' => wp (k H v H') Q H') H := by
  constructor
  · rintro ⟨a, H', h1, h2⟩
    unfold bndH at h1
    split at h1
    · rename_i b H1 hm; exact ⟨b, H1, hm, a, H', h1, h2⟩
    · cases h1
  · rintro ⟨b, H1, h3, a, H', h4, h2⟩
    exact ⟨a, H', by simp [bndH, h3, h4], h2⟩
@[simp] theorem wp_withH {R : Type} {k : Heap → M R} {Q : R → Heap → Prop} : wp (withH k) Q H ↔ wp (k H) Q H := by simp [withH, wp]
@[simp] theorem wp_withResv {R : Type} {n : Nat} {k : Nat → Heap → M R} {Q : R → Heap → Prop} : wp (withResv n k) Q H ↔ wp (k H.next (resv H n)) Q (resv H n) := by simp [withResv, wp]

@[simp] theorem gd_true (b : Bool) (m : M V) : gd (.bool b) true m = if b then m else ret skipV := by cases b <;> simp [gd]
@[simp] theorem gd_false (b : Bool) (m : M V) : gd (.bool b) false m = if b then ret skipV else m := by cases b <;> simp [gd]
@[simp] theorem gd_skip (b : Bool) (m : M V) : gd skipV b m = ret skipV := rfl
@[simp] theorem nx_nxt (vs : List V) (k : List V → M Out) : nx (.nxt vs) k = k vs := rfl
@[simp] theorem nx_brk (i : Nat) (vs : List V) (k : List V → M Out) : nx (.brk i vs) k = ret (.brk i vs) := rfl
@[simp] theorem nx_ret (vs : List V) (k : List V → M Out) : nx (.ret vs) k = ret (.ret vs) := rfl
@[simp] theorem unblk_nxt (i : Nat) (vs : List V) : unblk i (.nxt vs) = .nxt vs := rfl
@[simp] theorem unblk_ret (i : Nat) (vs : List V) : unblk i (.ret vs) = .ret vs := rfl
@[simp] theorem unblk_brk (i j : Nat) (vs : List V) : unblk i (.brk j vs) = if j = i then .nxt vs else .brk j vs := by
  simp only [unblk]
  by_cases h : j = i
  · subst h; simp
  · rw [beq_f h]; simp [h]
@[simp] theorem finM_nxt (vs : List V) (k : List V → M V) : finM (.nxt vs) k = k vs := rfl
@[simp] theorem finM_ret (vs : List V) (k : List V → M V) : finM (.ret vs) k = k vs := rfl
@[simp] theorem at_zero (v : V) (vs : List V) : at_ (v :: vs) 0 = v := rfl
@[simp] theorem at_succ (v : V) (vs : List V) (i : Nat) : at_ (v :: vs) (i + 1) = at_ vs i := by simp [at_]
@[simp] theorem outV_one (v : V) : outV [v] = v := rfl

/-- a loop: a measure goes down -/
theorem wp_loop {body : List V → M Out} {vs : List V} {Q : Out → Heap → Prop} (Inv : Nat → List V → Heap → Prop) {n : Nat} (hn : n < FUEL) (h0 : Inv n vs H)
    (hstep : ∀ k vs H, Inv k vs H → wp (body vs) (fun o H' => match o with | .nxt vs' => ∃ k', k' < k ∧ Inv k' vs' H' | o => Q o H') H) : wp (loopM FUEL body vs) Q H := by
  have key : ∀ m k vs H, k < m → Inv k vs H → wp (loopM m body vs) Q H := by
    intro m
    induction m with
    | zero => intro k vs H h; omega
    | succ m ih =>
      intro k vs H hk hi
      simp only [loopM, wp_bnd]
      refine wp_mono (hstep k vs H hi) fun o H' ho => ?_
      cases o with
      | nxt vs' => obtain ⟨k', h1, h2⟩ := ho; exact ih k' vs' H' (by omega) h2
      | brk i vs' => simpa using ho
      | ret vs' => simpa using ho
  exact key FUEL n vs H hn h0

abbrev W (x : BitVec 64) : V := .int .u64 x.toNat
abbrev B (x : BitVec 8) : V := .int .u8 x.toNat
abbrev str (s : ByteArray) : V := .string s

theorem wrapW (n : Int) : IntKind.u64.wrap n = ((BitVec.ofInt 64 n).toNat : Int) := by rw [IntKind.wrap_u64]; simp [BitVec.toNat_ofInt]; omega
theorem wrapB (n : Int) : IntKind.u8.wrap n = ((BitVec.ofInt 8 n).toNat : Int) := by rw [IntKind.wrap_u8]; simp [BitVec.toNat_ofInt]; omega


theorem ofInt_nat (n : Nat) (m : Nat) : BitVec.ofInt n (m : Int) = BitVec.ofNat n m := BitVec.ofInt_natCast n m

theorem shr_key (a n m : Nat) (h : a < 2 ^ m) : (a : Int).fdiv (2 ^ (min n m)) = ((a >>> n : Nat) : Int) := by
  rw [Int.fdiv_eq_ediv_of_nonneg _ (Int.le_of_lt (Int.pow_pos (by omega))), Nat.shiftRight_eq_div_pow]
  by_cases hn : n ≤ m
  · rw [Nat.min_eq_left hn]; norm_cast
  · rw [Nat.min_eq_right (by omega)]
    have h1 : a < 2 ^ n := Nat.lt_trans h (Nat.pow_lt_pow_right (by omega) (by omega))
    rw [Nat.div_eq_of_lt h1]
    have : ((a : Int) / 2 ^ m) = ((a / 2 ^ m : Nat) : Int) := by norm_cast
    rw [this, Nat.div_eq_of_lt h]
theorem shl_key (a n m : Nat) : (BitVec.ofInt m ((a : Int) * 2 ^ (min n m))).toNat = (a <<< n) % 2 ^ m := by
  have h1 : ((a : Int) * 2 ^ (min n m)) = ((a * 2 ^ (min n m) : Nat) : Int) := by push_cast; rfl
  rw [h1, ofInt_nat, BitVec.toNat_ofNat, Nat.shiftLeft_eq]
  by_cases hn : n ≤ m
  · rw [Nat.min_eq_left hn]
  · rw [Nat.min_eq_right (by omega)]
    obtain ⟨d, rfl⟩ : ∃ d, n = m + d := ⟨n - m, by omega⟩
    rw [Nat.pow_add, show a * (2 ^ m * 2 ^ d) = a * 2 ^ d * 2 ^ m by rw [Nat.mul_comm (2 ^ m), Nat.mul_assoc], Nat.mul_mod_left, Nat.mul_mod_left]

@[simp] theorem u64_mul (x y : BitVec 64) : bin .mul (W x) (W y) = some (W (x * y)) := by
  simp [bin, ibin, wrapW, ← Int.natCast_mul, ofInt_nat]
@[simp] theorem u64_u8 (x : BitVec 64) : cvi .u8 (W x) = some (B (x.setWidth 8)) := by
  simp [cvi, wrapB, ofInt_nat]
@[simp] theorem i64_u64 (x : Nat) : cvi .u64 (i64 x) = some (W (BitVec.ofNat 64 x)) := by
  simp [cvi, wrapW, ofInt_nat]
/-! bytes -/
@[simp] theorem u8_i64 (x : BitVec 8) : cvi .i64 (B x) = some (i64 x.toNat) := by
  have := x.isLt
  simp only [cvi]; rw [IntWalk.i64_in _ ⟨by omega, by omega⟩]
/-! whole numbers -/
theorem i64_in {n : Int} (h0 : -9223372036854775808 ≤ n) (h1 : n ≤ 9223372036854775807) : IntKind.i64.wrap n = n := IntWalk.i64_in n ⟨h0, h1⟩
@[simp] theorem i64_add (x y : Int) : bin .add (i64 x) (i64 y) = some (i64 (IntKind.i64.wrap (x + y))) := rfl
@[simp] theorem i64_sub (x y : Int) : bin .sub (i64 x) (i64 y) = some (i64 (IntKind.i64.wrap (x - y))) := rfl
@[simp] theorem i64_mul (x y : Int) : bin .mul (i64 x) (i64 y) = some (i64 (IntKind.i64.wrap (x * y))) := rfl
@[simp] theorem int_eql (k : IntKind) (x y : Int) : bin .eql (.int k x) (.int k y) = some (.bool (x == y)) := by simp [bin, ibin]
@[simp] theorem int_neq (k : IntKind) (x y : Int) : bin .neq (.int k x) (.int k y) = some (.bool (x != y)) := by simp [bin, ibin]
@[simp] theorem int_lss (k : IntKind) (x y : Int) : bin .lss (.int k x) (.int k y) = some (.bool (decide (x < y))) := by simp [bin, ibin]
@[simp] theorem int_leq (k : IntKind) (x y : Int) : bin .leq (.int k x) (.int k y) = some (.bool (decide (x ≤ y))) := by simp [bin, ibin]
@[simp] theorem int_gtr (k : IntKind) (x y : Int) : bin .gtr (.int k x) (.int k y) = some (.bool (decide (x > y))) := by simp [bin, ibin]
@[simp] theorem int_geq (k : IntKind) (x y : Int) : bin .geq (.int k x) (.int k y) = some (.bool (decide (x ≥ y))) := by simp [bin, ibin]
@[simp] theorem str_eql (x y : ByteArray) : bin .eql (.string x) (.string y) = some (.bool (decide (x = y))) := rfl
@[simp] theorem str_neq (x y : ByteArray) : bin .neq (.string x) (.string y) = some (.bool (!decide (x = y))) := rfl
theorem str_add {x y : ByteArray} (h : x.size + y.size ≤ 4611686018427387904) : bin .add (.string x) (.string y) = some (.string (x ++ y)) := by simp [bin, sbin, h]
@[simp] theorem pick_bool (b : Bool) (x y : V) : pickV (.bool b) x y = some (if b then x else y) := by cases b <;> rfl
@[simp] theorem not_bool (b : Bool) : un .not (.bool b) = some (.bool (!b)) := rfl

/-! ### memory -/
namespace Heap
@[simp] theorem get_push_self (H : Heap) (x : Option Blk) : (H.push x).get H.next = x := by
  rw [Heap.get_push]; simp
theorem get_push_lt {H : Heap} {x : Option Blk} {b : Nat} (h : b < H.next) : (H.push x).get b = H.get b := by
  rw [Heap.get_push, if_neg (by omega)]
@[simp] theorem next_push' (H : Heap) (x : Option Blk) : (H.push x).next = H.next + 1 := Heap.next_push H x
@[simp] theorem next_set' (H : Heap) (b : Nat) (x : Option Blk) : (H.set b x).next = H.next := Heap.next_set H b x
theorem get_set_self {H : Heap} {b : Nat} {x : Option Blk} (h : b < H.next) : (H.set b x).get b = x := by
  rw [Heap.get_set H b x _ h]; simp
@[simp] theorem set_set (H : Heap) (b : Nat) (x y : Option Blk) : (H.set b x).set b y = H.set b y := by
  simp [Heap.set, List.set_set]
end Heap

def cellP (H : Heap) (p : V) : Option V := match p with | .pointer (some ⟨b, o, none⟩) => H.cell b o | _ => none
@[simp] theorem wp_ld1 (p : V) {Q : V → Heap → Prop} : wp (ld1 p) Q H ↔ wpO (cellP H p) fun v => Q v H := by
  unfold wp wpO ld1 cellP
  constructor
  · rintro ⟨a, H', h1, h2⟩
    split at h1
    · split at h1
      · rename_i v hc; cases h1; exact ⟨_, hc, h2⟩
      · cases h1
    · cases h1
  · rintro ⟨a, h1, h2⟩
    split at h1
    · exact ⟨a, H, by simp [h1], h2⟩
    · cases h1
theorem cellP_ptr {b o : Nat} {rw : Bool} {cs : List V} (h : H.get b = some (.cells rw cs)) : cellP H (ptr b o) = cs[o]? := by simp [cellP, Heap.cell, h]
theorem iaddrS_slc {b o u len cap size : Nat} {k : IntKind} {i : Int} (h0 : 0 ≤ i) (h1 : i < len) : iaddrS size (slc b o u len cap) (.int k i) = some (ptr b (o + i.toNat * size)) := by simp [iaddrS, h0, h1]
theorem iaddrA_ptr {b o n size : Nat} {k : IntKind} {i : Int} (h0 : 0 ≤ i) (h1 : i < n) : iaddrA n size (ptr b o) (.int k i) = some (ptr b (o + i.toNat * size)) := by simp [iaddrA, h0, h1]
@[simp] theorem faddr_ptr (b o off : Nat) : faddr off (ptr b o) = some (ptr b (o + off)) := rfl
@[simp] theorem nilck_ptr (b o : Nat) : nilck (ptr b o) = some (ptr b o) := rfl

@[simp] theorem isOne_int (k : IntKind) (n : Int) : (Value.int k n).isOne = true := rfl
@[simp] theorem isOne_str (s : ByteArray) : (Value.string s).isOne = true := rfl
@[simp] theorem isOne_bool (b : Bool) : (Value.bool b).isOne = true := rfl
@[simp] theorem isOne_slice (a : Option Addr) (n c : Nat) : (Value.slice a n c).isOne = true := rfl
@[simp] theorem isOne_pointer (a : Option Addr) : (Value.pointer a).isOne = true := rfl
@[simp] theorem isOne_map (a : Option Nat) : (Value.map a).isOne = true := rfl
theorem wp_st1 {b o : Nat} {cs : List V} {v : V} (h : H.get b = some (.cells true cs)) (hv : v.isOne = true) (ho : o < cs.length) {Q : V → Heap → Prop} :
    wp (st1 (ptr b o) v) Q H ↔ Q undef (H.set b (some (.cells true (cs.set o v)))) := by
  constructor
  · rintro ⟨a, H', h1, h2⟩
    simp [st1, h, hv, ho] at h1
    obtain ⟨rfl, rfl⟩ := h1; exact h2
  · intro hq; exact ⟨_, _, by simp [st1, h, hv, ho], hq⟩
theorem wp_ldn {b o n : Nat} {rw : Bool} {cs : List V} (h : H.get b = some (.cells rw cs)) (ho : o + n ≤ cs.length) {Q : V → Heap → Prop} :
    wp (ldn n (ptr b o)) Q H ↔ Q (.agg ((cs.drop o).take n).toArray) H := by
  constructor
  · rintro ⟨a, H', h1, h2⟩
    simp [ldn, cellsAt, h, ho] at h1
    obtain ⟨rfl, rfl⟩ := h1; exact h2
  · intro hq; exact ⟨_, _, by simp [ldn, cellsAt, h, ho], hq⟩
theorem wp_newc {cs : List V} (h : cs.all flatV = true) {Q : V → Heap → Prop} : wp (newc cs) Q H ↔ Q (ptr H.next 0) (H.push (some (.cells true cs))) := by
  constructor
  · rintro ⟨a, H', h1, h2⟩
    simp only [newc, h, if_true] at h1
    cases h1; exact h2
  · intro hq; exact ⟨_, _, by simp only [newc, h, if_true], hq⟩
@[simp] theorem wp_s2b {s : ByteArray} {Q : V → Heap → Prop} : wp (s2b (.string s)) Q H ↔ Q (slc H.next 0 1 s.size s.size) (H.push (some (.cells true (bytesV s)))) :=
  ⟨fun ⟨_, _, h1, h2⟩ => by cases h1; exact h2, fun h => ⟨_, _, rfl, h⟩⟩
@[simp] theorem wp_mkmap {Q : V → Heap → Prop} : wp mkmap Q H ↔ Q (.map (some H.next)) (H.push (some (.map true []))) :=
  ⟨fun ⟨_, _, h1, h2⟩ => by cases h1; exact h2, fun h => ⟨_, _, rfl, h⟩⟩
@[simp] theorem lenSlc_slice (a : Option Addr) (n c : Nat) : lenSlc (.slice a n c) = some (i64 n) := rfl
@[simp] theorem lenStr_str (s : ByteArray) : lenStr (.string s) = some (i64 s.size) := rfl
@[simp] theorem strV_str (s : ByteArray) : strV (.string s) = some (.string s) := rfl

/-- m items of a list of values: []T{x, y} -/
theorem wp_bslc {size len : Nat} {zero cs : List V} {parts : List (Nat × Nat × V)} (h : zero.all flatV = true) (hc : fillA zero parts = some cs) {Q : V → Heap → Prop} :
    wp (bslc size len zero parts) Q H ↔ Q (slc H.next 0 size len len) (H.push (some (.cells true cs))) := by
  constructor
  · rintro ⟨a, H', h1, h2⟩
    simp only [bslc, h, if_true, hc] at h1
    cases h1; exact h2
  · intro hq; exact ⟨_, _, by simp only [bslc, h, if_true, hc], hq⟩

/-! readings that are checked again -/
def chkO (o : Option V) (v : V) : Bool := match o with | some v' => vEq v' v | none => false
@[congr] theorem chkO_congr {o o' : Option V} {v : V} (h : o = o') : chkO o v = chkO o' v := by rw [h]
theorem ld1_eq (p : V) (H : Heap) : ld1 p H = match cellP H p with | some v => some (v, H) | none => none := by
  cases p <;> try rfl
  rename_i a
  cases a with
  | none => rfl
  | some a => obtain ⟨b, o, s⟩ := a; cases s <;> rfl
theorem chk_ld1 (p : V) (H : Heap) (v : V) : chk (ld1 p) H v = chkO (cellP H p) v := by
  unfold chk chkO
  rw [ld1_eq]
  cases cellP H p <;> rfl
@[simp] theorem chkO_int (k : IntKind) (n : Int) : chkO (some (.int k n)) (.int k n) = true := by simp [chkO, vEq]
@[simp] theorem chkO_bool (b : Bool) : chkO (some (.bool b)) (.bool b) = true := by simp [chkO, vEq]
@[simp] theorem chkO_str (s : ByteArray) : chkO (some (.string s)) (.string s) = true := by simp [chkO, vEq]
@[simp] theorem chkO_ptr (a : Option Addr) : chkO (some (.pointer a)) (.pointer a) = true := by simp [chkO, vEq]
@[simp] theorem chkO_slc (a : Option Addr) (n c : Nat) : chkO (some (.slice a n c)) (.slice a n c) = true := by simp [chkO, vEq]
@[simp] theorem chkO_map (a : Option Nat) : chkO (some (.map a)) (.map a) = true := by simp [chkO, vEq]
@[simp] theorem chk_ret (v : V) (H : Heap) : chk (ret v) H v = vEq v v := rfl

end Go.AM

/- Slices that one owns: elements of one cell. -/
namespace Go.AM

/-- blocks that were there are as they were, but those of S -/
structure Keeps (S : List Nat) (H H' : Heap) : Prop where
  next : H.next ≤ H'.next
  same : ∀ b, b < H.next → b ∉ S → H'.get b = H.get b

theorem Keeps.refl (S : List Nat) (H : Heap) : Keeps S H H := ⟨Nat.le_refl _, fun _ _ _ => rfl⟩
theorem Keeps.trans {S S' : List Nat} {H H1 H2 : Heap} (h : Keeps S H H1) (h' : Keeps S' H1 H2) (hs : ∀ b, b < H.next → b ∈ S' → b ∈ S) : Keeps S H H2 :=
  ⟨Nat.le_trans h.next h'.next, fun b hb hn => by rw [h'.same b (Nat.lt_of_lt_of_le hb h.next) (fun hi => hn (hs b hb hi)), h.same b hb hn]⟩
theorem Keeps.mono {S S' : List Nat} {H H1 : Heap} (h : Keeps S H H1) (hs : ∀ b, b ∈ S → b ∈ S') : Keeps S' H H1 := ⟨h.next, fun b hb hn => h.same b hb fun hi => hn (hs b hi)⟩
theorem Keeps.get {S : List Nat} {H H' : Heap} (h : Keeps S H H') {b : Nat} {x : Blk} (hb : H.get b = some x) (hn : b ∉ S) : H'.get b = some x := by
  rw [h.same b (Heap.get_lt hb) hn]; exact hb
theorem Keeps.push (S : List Nat) (H : Heap) (x : Option Blk) : Keeps S H (H.push x) := ⟨by simp, fun b hb _ => Heap.get_push_lt hb⟩
theorem Keeps.set {S : List Nat} {H : Heap} {b : Nat} {x : Option Blk} (h : b ∈ S) : Keeps S H (H.set b x) := ⟨by simp, fun c _ hn => Heap.get_set_ne _ _ _ fun e => hn (e ▸ h)⟩

/-- the block of a slice -/
def vb (v : V) : List Nat := match v with | .slice (some ⟨b, _, _⟩) _ _ => [b] | _ => []
@[simp] theorem vb_nil (n c : Nat) : vb (.slice none n c) = [] := rfl
@[simp] theorem vb_slc (b o u n c : Nat) : vb (slc b o u n c) = [b] := rfl

/-- an own slice with the elements l -/
def Own (H : Heap) (v : V) (l : List V) : Prop := (v = .slice none 0 0 ∧ l = []) ∨ ∃ b, v = slc b 0 1 l.length l.length ∧ H.get b = some (.cells true l)

theorem Own.nil (H : Heap) : Own H (.slice none 0 0) [] := .inl ⟨rfl, rfl⟩
theorem Own.keep {S : List Nat} {H H' : Heap} {v : V} {l : List V} (h : Own H v l) (hk : Keeps S H H') (hn : ∀ b ∈ vb v, b ∉ S) : Own H' v l := by
  rcases h with h | ⟨b, rfl, hb⟩
  · exact .inl h
  · exact .inr ⟨b, rfl, hk.get hb (hn b (by simp))⟩
theorem Own.len {H : Heap} {v : V} {l : List V} (h : Own H v l) : lenSlc v = some (i64 l.length) := by
  rcases h with ⟨rfl, rfl⟩ | ⟨b, rfl, hb⟩ <;> rfl
theorem Own.lt {H : Heap} {v : V} {l : List V} (h : Own H v l) : ∀ b ∈ vb v, b < H.next := by
  rcases h with ⟨rfl, rfl⟩ | ⟨b, rfl, hb⟩
  · simp
  · simpa using Heap.get_lt hb
/-- string(v) -/
theorem wp_b2s {v : V} {l : List V} {bs : List UInt8} {H : Heap} {Q : V → Heap → Prop} (hv : Own H v l) (hl : bytesOf? l = some bs) (hQ : Q (.string ⟨bs.toArray⟩) H) : wp (b2s v) Q H := by
  rcases hv with ⟨rfl, rfl⟩ | ⟨b, rfl, hg⟩
  · simp [bytesOf?] at hl; subst hl
    exact ⟨_, _, rfl, hQ⟩
  · refine ⟨_, _, ?_, hQ⟩
    simp [b2s, cellsAt, hg, hl]

end Go.AM

/- Rules for walks: conditions that are told at once. -/
namespace Go.AM

section
variable {p : Prop} [Decidable p]
theorem condM_dt {a b : M Out} (h : p) : condM (.bool (decide p)) a b = a := by simp [h]
theorem condM_df {a b : M Out} (h : ¬ p) : condM (.bool (decide p)) a b = b := by simp [h]
theorem gd_dt {m : M V} (h : p) : gd (.bool (decide p)) true m = m := by simp [h]
theorem gd_df {m : M V} (h : ¬ p) : gd (.bool (decide p)) true m = ret skipV := by simp [h]
theorem gdf_dt {m : M V} (h : p) : gd (.bool (decide p)) false m = ret skipV := by simp [h]
theorem gdf_df {m : M V} (h : ¬ p) : gd (.bool (decide p)) false m = m := by simp [h]
theorem pick_dt {x y : V} (h : p) : pickV (.bool (decide p)) x y = some x := by simp [h]
theorem pick_df {x y : V} (h : ¬ p) : pickV (.bool (decide p)) x y = some y := by simp [h]
theorem not_dec : un .not (.bool (decide p)) = some (.bool (decide (¬ p))) := by simp [un]
end
theorem condM_t (a b : M Out) : condM (.bool true) a b = a := rfl
theorem condM_f (a b : M Out) : condM (.bool false) a b = b := rfl
theorem gd_t (m : M V) : gd (.bool true) true m = m := rfl
theorem gd_f (m : M V) : gd (.bool false) true m = ret skipV := rfl
theorem gdf_t (m : M V) : gd (.bool true) false m = ret skipV := rfl
theorem gdf_f (m : M V) : gd (.bool false) false m = m := rfl
theorem pick_t (x y : V) : pickV (.bool true) x y = some x := rfl
theorem pick_f (x y : V) : pickV (.bool false) x y = some y := rfl
theorem not_t : un .not (.bool true) = some (.bool false) := rfl
theorem not_f : un .not (.bool false) = some (.bool true) := rfl
theorem int_eqd (k : IntKind) (x y : Int) : bin .eql (.int k x) (.int k y) = some (.bool (decide (x = y))) := by
  simp [bin, ibin, BEq.beq]
theorem int_ned (k : IntKind) (x y : Int) : bin .neq (.int k x) (.int k y) = some (.bool (decide (x ≠ y))) := by
  simp [bin, ibin, bne, BEq.beq]
theorem str_eqd (x y : ByteArray) : bin .eql (.string x) (.string y) = some (.bool (decide (x = y))) := rfl
theorem str_ned (x y : ByteArray) : bin .neq (.string x) (.string y) = some (.bool (decide (x ≠ y))) := by simp [bin, sbin]
@[simp] theorem isNil_ptr (b o : Nat) : notIf false (isNil .p (ptr b o)) = some (.bool false) := rfl
@[simp] theorem isNil_ptr' (b o : Nat) : notIf true (isNil .p (ptr b o)) = some (.bool true) := rfl
@[simp] theorem isNil_pnil : notIf false (isNil .p (.pointer none)) = some (.bool true) := rfl
@[simp] theorem isNil_pnil' : notIf true (isNil .p (.pointer none)) = some (.bool false) := rfl
end Go.AM

/- Strings and their bytes. -/
namespace Go.AM

/-- a string's bytes -/
def bv (s : ByteArray) : List (BitVec 8) := s.data.toList.map UInt8.toBitVec
/-- bytes as a string -/
def sv (l : List (BitVec 8)) : ByteArray := ⟨(l.map UInt8.ofBitVec).toArray⟩
theorem bytesV_bv (s : ByteArray) : bytesV s = (bv s).map B := by
  simp only [bytesV, bv, List.map_map]; rfl
theorem bv_length (s : ByteArray) : (bv s).length = s.size := by simp only [bv, List.length_map, Array.length_toList]; rfl
theorem bv_sv (l : List (BitVec 8)) : bv (sv l) = l := by
  simp only [bv, sv, List.map_map]
  conv => rhs; rw [← List.map_id l]
  apply List.map_congr_left
  intro x _; rfl
theorem sv_bv (s : ByteArray) : sv (bv s) = s := by
  cases s with | mk d =>
  simp only [bv, sv, List.map_map]
  congr 1
  apply Array.toList_inj.mp
  simp only [List.toList_toArray]
  conv => rhs; rw [← List.map_id d.toList]
  apply List.map_congr_left
  intro x _; rfl
theorem bv_inj {s t : ByteArray} (h : bv s = bv t) : s = t := by rw [← sv_bv s, h, sv_bv]
theorem sv_size (l : List (BitVec 8)) : (sv l).size = l.length := by rw [← bv_length, bv_sv]
theorem bv_append (s t : ByteArray) : bv (s ++ t) = bv s ++ bv t := by
  have h : (s ++ t).data = s.data ++ t.data := ByteArray.data_append
  simp only [bv, h, Array.toList_append, List.map_append]
theorem bv_extract (s : ByteArray) (a b : Nat) : bv (s.extract a b) = ((bv s).drop a).take (b - a) := by
  have h : (s.extract a b).data = s.data.extract a b := ByteArray.data_extract
  simp only [bv, h, Array.toList_extract, List.extract, List.map_take, List.map_drop]
theorem bv_empty : bv ⟨#[]⟩ = [] := rfl
theorem bv_nil {s : ByteArray} : bv s = [] ↔ s = ⟨#[]⟩ := ⟨fun h => bv_inj (h.trans bv_empty.symm), fun h => by rw [h]; rfl⟩
theorem size_append (s t : ByteArray) : (s ++ t).size = s.size + t.size := by rw [← bv_length, bv_append, List.length_append, bv_length, bv_length]
theorem size_extract (s : ByteArray) {a b : Nat} (h : b ≤ s.size) : (s.extract a b).size = b - a := by
  rw [← bv_length, bv_extract, List.length_take, List.length_drop, bv_length]; omega

theorem bytesOf_B : ∀ l : List (BitVec 8), bytesOf? (l.map B) = some (l.map UInt8.ofBitVec)
  | [] => rfl
  | x :: l => by
    simp only [List.map_cons, bytesOf?, bytesOf_B l, byteOf?]
    congr 2
    apply UInt8.toBitVec_inj.mp
    apply BitVec.eq_of_toNat_eq
    show (UInt8.ofNat (x.toNat : Int).toNat).toBitVec.toNat = x.toNat
    have := x.isLt
    simp

theorem own_b2s {v : V} {l : List (BitVec 8)} {H : Heap} {Q : V → Heap → Prop} (hv : Own H v (l.map B)) (hQ : Q (.string (sv l)) H) : wp (b2s v) Q H := wp_b2s hv (bytesOf_B l) hQ

theorem idxS_bv {s : ByteArray} {k : IntKind} {i : Int} (h0 : 0 ≤ i) (h : i < s.size) : idxS (.string s) (.int k i) = some (B ((bv s).getD i.toNat 0)) := by
  have hi : i.toNat < s.size := by omega
  have hb : i.toNat < (bv s).length := by rw [bv_length]; exact hi
  have e : s[i.toNat]? = some s[i.toNat] := getElem?_pos s i.toNat hi
  have e2 : (bv s).getD i.toNat 0 = s[i.toNat].toBitVec := by
    rw [List.getD_eq_getElem?_getD, List.getElem?_eq_getElem hb]
    simp only [bv, List.getElem_map, Option.getD_some]
    rfl
  simp only [idxS, h0, if_true, e, e2]
  rfl

theorem subS_both {s : ByteArray} {k k' : IntKind} {a b : Int} (h1 : 0 ≤ a) (h2 : a ≤ b) (h3 : b ≤ s.size) : subS (.string s) (some (.int k a)) (some (.int k' b)) = some (.string (s.extract a.toNat b.toNat)) := by
  have e1 : bound s.size s.size (some (.int k' b)) = some b.toNat := by simp [bound]; omega
  have e2 : bound 0 b.toNat (some (.int k a)) = some a.toNat := by simp [bound]; omega
  simp [subS, e1, e2]
theorem subS_lo {s : ByteArray} {k : IntKind} {a : Int} (h1 : 0 ≤ a) (h3 : a ≤ s.size) : subS (.string s) (some (.int k a)) none = some (.string (s.extract a.toNat s.size)) := by
  have e2 : bound 0 s.size (some (.int k a)) = some a.toNat := by simp [bound]; omega
  simp [subS, e2]
  simp [bound]
  simp [bound] at e2
  simp [e2]
theorem subS_hi {s : ByteArray} {k' : IntKind} {b : Int} (h2 : 0 ≤ b) (h3 : b ≤ s.size) : subS (.string s) none (some (.int k' b)) = some (.string (s.extract 0 b.toNat)) := by
  have e1 : bound s.size s.size (some (.int k' b)) = some b.toNat := by simp [bound]; omega
  have e2 : bound 0 b.toNat none = some 0 := rfl
  simp only [subS, e1, e2]

theorem u64_in {n : Int} (h0 : 0 ≤ n) (h1 : n ≤ 18446744073709551615) : IntKind.u64.wrap n = n := by rw [IntKind.wrap_u64]; omega
theorem cvi_int (k k' : IntKind) (n : Int) : cvi k (.int k' n) = some (.int k (k.wrap n)) := rfl
end Go.AM

/- Slices of things that lie flat in cells. -/
namespace Go.AM

class Flat (α : Type) where
  size : Nat
  enc : α → List V
  len : ∀ a, (enc a).length = size
  one : ∀ a, (enc a).all Value.isOne = true
  pos : 0 < size


instance : Flat Int := ⟨1, fun n => [i64 n], fun _ => rfl, fun _ => rfl, by decide⟩
instance : Flat ByteArray := ⟨1, fun s => [.string s], fun _ => rfl, fun _ => rfl, by decide⟩
instance : Flat (BitVec 8) := ⟨1, fun b => [B b], fun _ => rfl, fun _ => rfl, by decide⟩
instance : Flat Bool := ⟨1, fun b => [.bool b], fun _ => rfl, fun _ => rfl, by decide⟩

theorem enc_int (n : Int) : Flat.enc n = [i64 n] := rfl
theorem enc_str (s : ByteArray) : Flat.enc s = [.string s] := rfl
theorem enc_byte (b : BitVec 8) : Flat.enc b = [B b] := rfl
theorem enc_bool (b : Bool) : Flat.enc b = [.bool b] := rfl
variable {α : Type} [Flat α]
def encs (xs : List α) : List V := xs.flatMap Flat.enc
theorem encs_cons (x : α) (xs : List α) : encs (x :: xs) = Flat.enc x ++ encs xs := rfl
theorem encs_append (xs ys : List α) : encs (xs ++ ys) = encs xs ++ encs ys := by simp [encs]
theorem encs_length (xs : List α) : (encs xs).length = xs.length * Flat.size α := by
  induction xs with
  | nil => simp [encs]
  | cons x xs ih => rw [encs_cons, List.length_append, ih, Flat.len, List.length_cons, Nat.add_mul]; omega
theorem encs_one (xs : List α) : (encs xs).all Value.isOne = true := by
  induction xs with
  | nil => rfl
  | cons x xs ih => rw [encs_cons, List.all_append, ih, Flat.one]; rfl
theorem encs_drop (xs : List α) : ∀ i, (encs xs).drop (i * Flat.size α) = encs (xs.drop i) := by
  induction xs with
  | nil => intro i; simp [encs]
  | cons x xs ih =>
    intro i
    cases i with
    | zero => simp
    | succ i =>
      rw [encs_cons, Nat.add_mul, Nat.one_mul, Nat.add_comm, ← List.drop_drop]
      rw [List.drop_append_of_le_length (by rw [Flat.len]; exact Nat.le_refl _)]
      rw [show (Flat.enc x).drop (Flat.size α) = [] from List.drop_eq_nil_of_le (by rw [Flat.len]; exact Nat.le_refl _)]
      exact ih i
theorem encs_take (xs : List α) : ∀ i, (encs xs).take (i * Flat.size α) = encs (xs.take i) := by
  induction xs with
  | nil => intro i; simp [encs]
  | cons x xs ih =>
    intro i
    cases i with
    | zero => simp [encs]
    | succ i =>
      rw [encs_cons, Nat.add_mul, Nat.one_mul, Nat.add_comm, List.take_add, List.take_append_of_le_length (by rw [Flat.len]; exact Nat.le_refl _)]
      rw [show (Flat.enc x).take (Flat.size α) = Flat.enc x from List.take_of_length_le (by rw [Flat.len]; exact Nat.le_refl _)]
      rw [List.drop_append_of_le_length (by rw [Flat.len]; exact Nat.le_refl _), show (Flat.enc x).drop (Flat.size α) = [] from List.drop_eq_nil_of_le (by rw [Flat.len]; exact Nat.le_refl _)]
      rw [List.nil_append, ih i, List.take_succ_cons, encs_cons]

/-- where a slice lies -/
def slB : V → Nat | .slice (some a) _ _ => a.block | _ => 0
def slO : V → Nat | .slice (some a) _ _ => a.off | _ => 0

/-- a slice whose elements are xs, in a block that may be looked at -/
def Sl (H : Heap) (v : V) (xs : List α) : Prop := (v = .slice none 0 0 ∧ xs = []) ∨ ∃ b o u c, v = slc b o u xs.length c ∧ xs.length ≤ c ∧ b < H.next ∧ (xs = [] ∨ ∃ rw cs, H.get b = some (.cells rw cs) ∧ o + xs.length * Flat.size α ≤ cs.length ∧ (cs.drop o).take (xs.length * Flat.size α) = encs xs) ∧ (u = 0 ∨ u = Flat.size α)

theorem Sl.nil (H : Heap) : Sl H (.slice none 0 0) ([] : List α) := .inl ⟨rfl, rfl⟩
theorem Sl.keep {S : List Nat} {H H' : Heap} {v : V} {l : List α} (h : Sl H v l) (hk : Keeps S H H') (hn : ∀ b ∈ vb v, b ∉ S) : Sl H' v l := by
  rcases h with h | ⟨b, o, u, c, rfl, hc, hb, hl, hu⟩
  · exact .inl h
  · refine .inr ⟨b, o, u, c, rfl, hc, Nat.lt_of_lt_of_le hb hk.next, ?_, hu⟩
    rcases hl with hl | ⟨rw, cs, h1, h2⟩
    · exact .inl hl
    · exact .inr ⟨rw, cs, hk.get h1 (hn b (by simp)), h2⟩
theorem Sl.keep0 {H H' : Heap} {v : V} {l : List α} (h : Sl H v l) (hk : Keeps [] H H') : Sl H' v l := h.keep hk (by simp)
theorem Sl.len {H : Heap} {v : V} {l : List α} (h : Sl H v l) : lenSlc v = some (i64 l.length) := by
  rcases h with ⟨rfl, rfl⟩ | ⟨b, o, u, c, rfl, _⟩ <;> rfl
theorem Sl.lt {H : Heap} {v : V} {l : List α} (h : Sl H v l) : ∀ b ∈ vb v, b < H.next := by
  rcases h with ⟨rfl, rfl⟩ | ⟨b, o, u, c, rfl, hc, hb, hl⟩
  · simp
  · simpa using hb
theorem Sl.isOne {H : Heap} {v : V} {l : List α} (h : Sl H v l) : v.isOne = true := by
  rcases h with ⟨rfl, rfl⟩ | ⟨b, o, u, c, rfl, _⟩ <;> rfl
theorem Sl.addr {H : Heap} {v : V} {l : List α} (h : Sl H v l) {k : IntKind} {i : Int} (h0 : 0 ≤ i) (hi : i < l.length) : iaddrS (Flat.size α) v (.int k i) = some (ptr (slB v) (slO v + i.toNat * Flat.size α)) := by
  rcases h with ⟨rfl, rfl⟩ | ⟨b, o, u, c, rfl, _⟩
  · simp at hi; omega
  · exact iaddrS_slc h0 hi
theorem enc_at (cs : List V) (xs : List α) (o i : Nat) (hi : i < xs.length) (d : α) (hl : (cs.drop o).take (xs.length * Flat.size α) = encs xs) : (cs.drop (o + i * Flat.size α)).take (Flat.size α) = Flat.enc (xs.getD i d) := by
  have e1 : ((encs xs).drop (i * Flat.size α)).take (Flat.size α) = Flat.enc (xs.getD i d) := by
    rw [encs_drop]
    have : xs.drop i = xs.getD i d :: xs.drop (i + 1) := by
      rw [List.getD_eq_getElem?_getD, List.getElem?_eq_getElem hi]
      exact List.drop_eq_getElem_cons hi
    rw [this, encs_cons, List.take_append_of_le_length (by rw [Flat.len]; exact Nat.le_refl _), List.take_of_length_le (by rw [Flat.len]; exact Nat.le_refl _)]
  rw [← e1, ← hl, List.drop_take, List.take_take, List.drop_drop]
  congr 1
  have : (i + 1) * Flat.size α ≤ xs.length * Flat.size α := Nat.mul_le_mul_right _ hi
  rw [Nat.add_mul] at this
  omega
theorem Sl.ldn {H : Heap} {v : V} {l : List α} (h : Sl H v l) {i : Nat} (hi : i < l.length) (d : α) {Q : V → Heap → Prop} : wp (ldn (Flat.size α) (ptr (slB v) (slO v + i * Flat.size α))) Q H ↔ Q (.agg (Flat.enc (l.getD i d)).toArray) H := by
  rcases h with ⟨rfl, rfl⟩ | ⟨b, o, u, c, rfl, hc, _, hl, _⟩
  · simp at hi
  · rcases hl with rfl | ⟨rw, cs, hb, hl1, hl2⟩
    · simp at hi
    · have h1 : (i + 1) * Flat.size α ≤ l.length * Flat.size α := Nat.mul_le_mul_right _ hi
      rw [Nat.add_mul] at h1
      show wp (Go.AM.ldn _ (ptr b (o + i * Flat.size α))) Q H ↔ _
      rw [wp_ldn hb (by omega), enc_at cs l o i hi d hl2]
theorem Sl.cell {H : Heap} {v : V} {l : List α} (h : Sl H v l) {i off : Nat} (hi : i < l.length) (ho : off < Flat.size α) (d : α) : cellP H (ptr (slB v) (slO v + i * Flat.size α + off)) = (Flat.enc (l.getD i d))[off]? := by
  rcases h with ⟨rfl, rfl⟩ | ⟨b, o, u, c, rfl, hc, _, hl, _⟩
  · simp at hi
  · rcases hl with rfl | ⟨rw, cs, hb, hl1, hl2⟩
    · simp at hi
    · show cellP H (ptr b (o + i * Flat.size α + off)) = _
      rw [cellP_ptr hb, ← enc_at cs l o i hi d hl2, List.getElem?_take, if_pos ho, List.getElem?_drop]
theorem Sl.addr' {H : Heap} {v : V} {l : List α} (h : Sl H v l) {n : Nat} (hs : Flat.size α = n) {k : IntKind} {i : Int} (h0 : 0 ≤ i) (hi : i < l.length) : iaddrS n v (.int k i) = some (ptr (slB v) (slO v + i.toNat * n)) := by subst hs; exact h.addr h0 hi
theorem Sl.ldn' {H : Heap} {v : V} {l : List α} (h : Sl H v l) {n : Nat} (hs : Flat.size α = n) {i : Nat} (hi : i < l.length) (d : α) {Q : V → Heap → Prop} : wp (Go.AM.ldn n (ptr (slB v) (slO v + i * n))) Q H ↔ Q (.agg (Flat.enc (l.getD i d)).toArray) H := by subst hs; exact h.ldn hi d
theorem Sl.cell' {H : Heap} {v : V} {l : List α} (h : Sl H v l) {n : Nat} (hs : Flat.size α = n) {i off : Nat} (hi : i < l.length) (ho : off < n) (d : α) : cellP H (ptr (slB v) (slO v + i * n + off)) = (Flat.enc (l.getD i d))[off]? := by subst hs; exact h.cell hi ho d
theorem Sl.addr1 {H : Heap} {v : V} {l : List α} (h : Sl H v l) (hs : Flat.size α = 1) {k : IntKind} {i : Int} (h0 : 0 ≤ i) (hi : i < l.length) : iaddrS 1 v (.int k i) = some (ptr (slB v) (slO v + i.toNat)) := by
  have := h.addr (k := k) h0 hi
  rw [hs, Nat.mul_one] at this
  exact this
theorem Sl.cell1 {H : Heap} {v : V} {l : List α} (h : Sl H v l) (hs : Flat.size α = 1) {i : Nat} (hi : i < l.length) (d : α) : cellP H (ptr (slB v) (slO v + i)) = (Flat.enc (l.getD i d))[0]? := by
  have := h.cell (off := 0) hi (by omega) d
  rw [hs, Nat.mul_one, Nat.add_zero] at this
  exact this
theorem Own.sl {H : Heap} {v : V} {l : List α} (hs : Flat.size α = 1) (h : Own H v (encs l)) : Sl H v l := by
  rcases h with ⟨rfl, hl⟩ | ⟨b, rfl, hb⟩
  · refine .inl ⟨rfl, ?_⟩
    have := congrArg List.length hl
    rw [encs_length, hs] at this
    exact List.eq_nil_of_length_eq_zero (by simpa using this)
  · have e : (encs l).length = l.length := by rw [encs_length, hs, Nat.mul_one]
    refine .inr ⟨b, 0, 1, l.length, by rw [e], Nat.le_refl _, Heap.get_lt hb, .inr ⟨true, encs l, hb, by rw [encs_length]; omega, ?_⟩, .inr hs.symm⟩
    rw [List.drop_zero, List.take_of_length_le (by rw [encs_length]; exact Nat.le_refl _)]
end Go.AM

/- Heaps that are written out: what a block holds is told by rules. -/
namespace Go.AM

namespace Heap
theorem get_push_eq {H : Heap} {x : Option Blk} {b : Nat} (h : b = H.next) : (H.push x).get b = x := by subst h; exact get_push_self H x
theorem get_set_eq {H : Heap} {b : Nat} {x : Option Blk} (h : b < H.next) : (H.set b x).get b = x := get_set_self h
theorem get_set_ne' {H : Heap} {b c : Nat} {x : Option Blk} (h : c ≠ b) : (H.set b x).get c = H.get c := get_set_ne _ _ _ h
theorem set_push_lt {H : Heap} {x y : Option Blk} {b : Nat} (h : b < H.next) : (H.push x).set b y = (H.set b y).push x := by
  simp only [Heap.set, Heap.push, Heap.next] at h ⊢
  rw [List.set_append_left _ _ h]
theorem set_push_eq {H : Heap} {x y : Option Blk} {b : Nat} (h : b = H.next) : (H.push x).set b y = H.push y := by
  subst h
  simp only [Heap.set, Heap.push, Heap.next]
  rw [List.set_append_right _ _ (Nat.le_refl _)]
  simp
end Heap

/-- a block, looked at -/
def cellG : Option Blk → Nat → Option V
  | some (.cells _ cs), o => cs[o]?
  | _, _ => none
theorem cellP_get (H : Heap) (b o : Nat) : cellP H (ptr b o) = cellG (H.get b) o := by
  simp only [cellP, Heap.cell]
  split <;> simp_all [cellG]
theorem cellG_cells (rw : Bool) (cs : List V) (o : Nat) : cellG (some (.cells rw cs)) o = cs[o]? := rfl
def stG (x : Option Blk) (o : Nat) (v : V) (k : Option Blk → Prop) : Prop := match x with
  | some (.cells true cs) => v.isOne = true ∧ o < cs.length ∧ k (some (.cells true (cs.set o v)))
  | _ => False
theorem wp_st1g (H : Heap) (b o : Nat) (v : V) {Q : V → Heap → Prop} : wp (st1 (ptr b o) v) Q H ↔ stG (H.get b) o v fun y => Q undef (H.set b y) := by
  unfold stG
  constructor
  · rintro ⟨a, H', h1, h2⟩
    simp only [st1] at h1
    split at h1
    · rename_i cs hg
      rw [hg]
      split at h1
      · rename_i hc
        cases h1
        simp only [Bool.and_eq_true, decide_eq_true_eq] at hc
        exact ⟨hc.1, hc.2, h2⟩
      · cases h1
    · cases h1
  · intro h
    split at h
    · rename_i cs hg
      exact (wp_st1 hg h.1 h.2.1).mpr h.2.2
    · exact h.elim
@[congr] theorem stG_congr {x x' : Option Blk} {o : Nat} {v : V} {k : Option Blk → Prop} (h : x = x') : stG x o v k = stG x' o v k := by rw [h]
theorem stG_c {cs : List V} {o : Nat} {v : V} {k : Option Blk → Prop} (ho : o < cs.length) : stG (some (.cells true cs)) o v k ↔ (v.isOne = true ∧ k (some (.cells true (cs.set o v)))) := by simp [stG, ho]
/-- a value of m cells is laid -/
def stnG (x : Option Blk) (n o : Nat) (v : V) (k : Option Blk → Prop) : Prop := match x, v with
  | some (.cells true cs), .agg vs => vs.toList.all Value.isOne = true ∧ vs.toList.length = n ∧ o + n ≤ cs.length ∧ k (some (.cells true (splice cs o vs.toList)))
  | _, _ => False
theorem wp_stng (H : Heap) (b o n : Nat) (v : V) {Q : V → Heap → Prop} : wp (stn n (ptr b o) v) Q H ↔ stnG (H.get b) n o v fun y => Q undef (H.set b y) := by
  unfold stnG
  constructor
  · rintro ⟨a, H', h1, h2⟩
    simp only [stn] at h1
    split at h1
    · rename_i b' o' vs hp
      cases hp
      split at h1
      · rename_i cs hg
        rw [hg]
        split at h1
        · rename_i hc
          cases h1
          simp only [Bool.and_eq_true, decide_eq_true_eq, beq_iff_eq] at hc
          exact ⟨hc.1.1, hc.1.2, hc.2, h2⟩
        · cases h1
      · cases h1
    · cases h1
  · intro h
    split at h
    · rename_i cs vs hg
      refine ⟨undef, _, ?_, h.2.2.2⟩
      simp only [stn, hg]
      rw [if_pos (by simp [h.1, h.2.1, h.2.2.1])]
    · exact h.elim
@[congr] theorem stnG_congr {x x' : Option Blk} {n o : Nat} {v : V} {k : Option Blk → Prop} (h : x = x') : stnG x n o v k = stnG x' n o v k := by rw [h]
theorem stnG_ok {cs vs : List V} {n o : Nat} {k : Option Blk → Prop} (hv : vs.all Value.isOne = true) (hn : vs.length = n) (ho : o + n ≤ cs.length) : stnG (some (.cells true cs)) n o (.agg vs.toArray) k ↔ k (some (.cells true (splice cs o vs))) := by simp [stnG, hv, hn, ho]
def ldG (x : Option Blk) (n o : Nat) (k : V → Prop) : Prop := match x with
  | some (.cells _ cs) => o + n ≤ cs.length ∧ k (.agg ((cs.drop o).take n).toArray)
  | _ => False
theorem wp_ldng (H : Heap) (b o n : Nat) {Q : V → Heap → Prop} : wp (ldn n (ptr b o)) Q H ↔ ldG (H.get b) n o fun y => Q y H := by
  unfold ldG
  constructor
  · rintro ⟨a, H', h1, h2⟩
    simp only [ldn, cellsAt] at h1
    split at h1
    · rename_i l hl
      cases h1
      split at hl
      · rename_i rw cs hg
        rw [hg]
        split at hl
        · rename_i hc; cases hl; exact ⟨hc, h2⟩
        · cases hl
      · cases hl
    · cases h1
  · intro h
    split at h
    · rename_i rw cs hg
      exact (wp_ldn hg h.1).mpr h.2
    · exact h.elim
@[congr] theorem ldG_congr {x x' : Option Blk} {n o : Nat} {k : V → Prop} (h : x = x') : ldG x n o k = ldG x' n o k := by rw [h]
theorem ldG_ok {rw : Bool} {cs : List V} {n o : Nat} {k : V → Prop} (ho : o + n ≤ cs.length) : ldG (some (.cells rw cs)) n o k ↔ k (.agg ((cs.drop o).take n).toArray) := by simp [ldG, ho]
theorem wp_newcg {cs : List V} {H : Heap} {Q : V → Heap → Prop} (h : cs.all flatV = true) : wp (newc cs) Q H ↔ Q (ptr H.next 0) (H.push (some (.cells true cs))) := wp_newc h
theorem wp_boxg {vs : List V} {H : Heap} {Q : V → Heap → Prop} (h : vs.all Value.isOne = true) : wp (boxv (.agg vs.toArray)) Q H ↔ Q (ptr H.next 0) (H.push (some (.cells true vs))) := by
  have hc : (Value.agg vs.toArray).cells.toList = vs := by simp [Value.cells]
  constructor
  · rintro ⟨a, H', h1, h2⟩
    unfold boxv at h1
    rw [hc, if_pos h] at h1
    cases h1; exact h2
  · intro hq; exact ⟨_, _, by unfold boxv; rw [hc, if_pos h], hq⟩
theorem fld1_agg (off : Nat) (vs : List V) : fld1 off (.agg vs.toArray) = vs[off]? := by simp [fld1]
theorem fldn_agg {off n : Nat} {vs : List V} (h : off + n ≤ vs.length) : fldn off n (.agg vs.toArray) = some (.agg ((vs.drop off).take n).toArray) := by simp [fldn, h]
theorem ext_tuple (i : Nat) (vs : List V) : ext i (.tuple vs.toArray) = vs[i]? := by simp [ext]

section
variable {α : Type} [DecidableEq α] {x y : α} {p : Prop} [Decidable p]
theorem condM_nf {a b : M Out} (h : p) : condM (.bool (decide (¬ p))) a b = b := by simp [h]
theorem condM_nef {a b : M Out} (h : x = y) : condM (.bool (decide (x ≠ y))) a b = b := by simp [h]
theorem gd_nef {m : M V} (h : x = y) : gd (.bool (decide (x ≠ y))) true m = ret skipV := by simp [h]
theorem gdf_nef {m : M V} (h : x = y) : gd (.bool (decide (x ≠ y))) false m = m := by simp [h]
theorem pick_nef {a b : V} (h : x = y) : pickV (.bool (decide (x ≠ y))) a b = some b := by simp [h]
end

/-! conditions that are not told: two ways -/
section
variable {p : Prop} [Decidable p] {Q : Out → Heap → Prop} {QV : V → Heap → Prop} {QQ : V → Prop} {H : Heap}
end
section
variable {c : Bool} {Q : Out → Heap → Prop} {QV : V → Heap → Prop} {QQ : V → Prop} {H : Heap}
end
section
variable {p : Prop} [Decidable p] {Q : Out → Heap → Prop} {QV : V → Heap → Prop} {QQ : V → Prop} {H : Heap}
theorem wp_cond_split {a b : M Out} (h1 : p → wp a Q H) (h2 : ¬ p → wp b Q H) : wp (condM (.bool (decide p)) a b) Q H := by by_cases h : p <;> simp_all
theorem wp_gd_split {m : M V} (h1 : p → wp m QV H) (h2 : ¬ p → QV skipV H) : wp (gd (.bool (decide p)) true m) QV H := by by_cases h : p <;> simp_all
theorem wp_gdf_split {m : M V} (h1 : p → QV skipV H) (h2 : ¬ p → wp m QV H) : wp (gd (.bool (decide p)) false m) QV H := by by_cases h : p <;> simp_all
theorem wpO_pick_split {x y : V} (h1 : p → QQ x) (h2 : ¬ p → QQ y) : wpO (pickV (.bool (decide p)) x y) QQ := by by_cases h : p <;> simp_all
end
section
variable {c : Bool} {Q : Out → Heap → Prop} {QV : V → Heap → Prop} {QQ : V → Prop} {H : Heap}
theorem wp_cond_bs {a b : M Out} (h1 : c = true → wp a Q H) (h2 : c = false → wp b Q H) : wp (condM (.bool c) a b) Q H := by cases c <;> simp_all
theorem wp_gd_bs {m : M V} (h1 : c = true → wp m QV H) (h2 : c = false → QV skipV H) : wp (gd (.bool c) true m) QV H := by cases c <;> simp_all
theorem wp_gdf_bs {m : M V} (h1 : c = true → QV skipV H) (h2 : c = false → wp m QV H) : wp (gd (.bool c) false m) QV H := by cases c <;> simp_all
theorem wpO_pick_bs {x y : V} (h1 : c = true → QQ x) (h2 : c = false → QQ y) : wpO (pickV (.bool c) x y) QQ := by cases c <;> simp_all
end
/-- a run without memory -/
theorem eq_ret {α : Type} {m : M α} {v : α} (h : ∀ H, wp m (fun r H' => r = v ∧ H' = H) H) : m = ret v := by
  funext H
  obtain ⟨a, H', h1, rfl, rfl⟩ := h H
  exact h1
theorem outV_nil : outV [] = .tuple #[] := rfl
theorem outV_two (a b : V) : outV [a, b] = .tuple #[a, b] := rfl
theorem outV_three (a b c : V) : outV [a, b, c] = .tuple #[a, b, c] := rfl
theorem outV_four (a b c d : V) : outV [a, b, c, d] = .tuple #[a, b, c, d] := rfl
theorem chk_ld1g (b o : Nat) (H : Heap) (v : V) : chk (ld1 (ptr b o)) H v = chkO (cellG (H.get b) o) v := by rw [chk_ld1, cellP_get]

/-! what is kept -/
theorem keeps_push {S : List Nat} {H0 H : Heap} {x : Option Blk} (h : Keeps S H0 H) : Keeps S H0 (H.push x) :=
  ⟨by have := h.next; simp; omega, fun b hb hn => by rw [Heap.get_push_lt (by have := h.next; omega), h.same b hb hn]⟩
theorem keeps_set {S : List Nat} {H0 H : Heap} {b : Nat} {x : Option Blk} (h : Keeps S H0 H) (hb : b ∈ S ∨ H0.next ≤ b) : Keeps S H0 (H.set b x) :=
  ⟨by have := h.next; simp; omega, fun c hc hn => by
    have : c ≠ b := fun e => by subst e; rcases hb with hb | hb; exact hn hb; omega
    rw [Heap.get_set_ne _ _ _ this, h.same c hc hn]⟩
end Go.AM

/- Maps that are held: their entries as lists of keys and values. -/
namespace Go.AM

class KeyE (κ : Type) [DecidableEq κ] where
  kk : KK
  enc : κ → V
  eq : ∀ a b, keyEq kk (enc a) (enc b) = some (decide (a = b))
  fits : ∀ a, keyFits kk (enc a) = true
  solid : ∀ a, (enc a).isSolid = true
class ValE (ω : Type) where
  enc : ω → V
  solid : ∀ a, (enc a).isSolid = true
theorem beq_dec (a b : Int) : (a == b) = decide (a = b) := by by_cases h : a = b <;> simp [h]
instance : KeyE Int := ⟨.one .i, i64, fun a b => by simp only [keyEq, eqK, if_true, beq_dec], fun _ => rfl, fun _ => rfl⟩
instance : ValE Int := ⟨i64, fun _ => rfl⟩
instance : ValE Bool := ⟨.bool, fun _ => rfl⟩
/-- two numbers -/
abbrev pr (a b : Int) : V := .agg [i64 a, i64 b].toArray
instance : KeyE (Int × Int) := ⟨.agg [.i, .i], fun a => pr a.1 a.2, fun a b => by
  simp only [keyEq, eqAgg, eqKs, eqK, if_true, beq_dec]
  by_cases h : a.1 = b.1
  · by_cases h2 : a.2 = b.2
    · rw [decide_eq_true h, decide_eq_true h2, decide_eq_true (show a = b from Prod.ext h h2)]
    · rw [decide_eq_true h, decide_eq_false h2, decide_eq_false (show ¬ a = b from fun e => h2 (by rw [e]))]
  · rw [decide_eq_false h, decide_eq_false (show ¬ a = b from fun e => h (by rw [e]))], fun _ => rfl, fun _ => rfl⟩
section
variable {κ ω : Type} [DecidableEq κ] [KeyE κ] [ValE ω]
def encE (e : κ × ω) : V × V := (KeyE.enc e.1, ValE.enc e.2)
def aidx (k : κ) : List (κ × ω) → Option Nat
  | [] => none
  | e :: es => if k = e.1 then some 0 else (aidx k es).map (· + 1)
def aget (es : List (κ × ω)) (k : κ) : Option ω := match es with
  | [] => none
  | e :: es => if k = e.1 then some e.2 else aget es k
def aset (es : List (κ × ω)) (k : κ) (v : ω) : List (κ × ω) := match es with
  | [] => [(k, v)]
  | e :: es => if k = e.1 then (k, v) :: es else e :: aset es k v
def adel (es : List (κ × ω)) (k : κ) : List (κ × ω) := match es with
  | [] => []
  | e :: es => if k = e.1 then es else e :: adel es k

theorem findK_enc (k : κ) : ∀ es : List (κ × ω), findK (KeyE.kk κ) (KeyE.enc k) (es.map encE) = some (aidx k es)
  | [] => rfl
  | e :: es => by
    have ih := findK_enc k es
    simp only [List.map_cons, findK, aidx]
    rw [show keyEq (KeyE.kk κ) (KeyE.enc k) (encE e).1 = some (decide (k = e.1)) from KeyE.eq k e.1]
    by_cases h : k = e.1
    · simp [h]
    · rw [decide_eq_false h, if_neg h, ih]
      cases aidx k es <;> rfl
theorem aidx_none {k : κ} : ∀ {es : List (κ × ω)}, aidx k es = none → aget es k = none ∧ (∀ v, aset es k v = es ++ [(k, v)]) ∧ adel es k = es
  | [], _ => ⟨rfl, fun _ => rfl, rfl⟩
  | e :: es, h => by
    simp only [aidx] at h
    split at h
    · cases h
    · rename_i hk
      have h' : aidx k es = none := by cases hq : aidx k es <;> simp_all
      obtain ⟨a, b, c⟩ := aidx_none h'
      simp [aget, aset, adel, hk, a, b, c]
theorem aidx_some {k : κ} : ∀ {es : List (κ × ω)} {i : Nat}, aidx k es = some i → i < es.length ∧ (∃ v, es[i]? = some (k, v) ∧ aget es k = some v) ∧ (∀ v, aset es k v = es.set i (k, v)) ∧ adel es k = es.eraseIdx i
  | e :: es, i, h => by
    simp only [aidx] at h
    split at h
    · rename_i hk
      cases h; subst hk
      exact ⟨by simp, ⟨e.2, by simp, by simp [aget]⟩, fun v => by simp [aset], by simp [adel]⟩
    · rename_i hk
      cases hq : aidx k es with
      | none => rw [hq] at h; cases h
      | some j =>
        rw [hq] at h; cases h
        obtain ⟨a, ⟨v, b1, b2⟩, c, d⟩ := aidx_some hq
        exact ⟨by simpa using a, ⟨v, by simpa using b1, by simp [aget, hk, b2]⟩, fun v => by simp [aset, hk, c], by simp [adel, hk, d]⟩
theorem aget_aset (k k' : κ) (v : ω) : ∀ es : List (κ × ω), aget (aset es k v) k' = if k' = k then some v else aget es k'
  | [] => by simp [aset, aget]
  | e :: es => by
    simp only [aset]
    split
    · rename_i h; subst h
      simp only [aget]
      split <;> rfl
    · rename_i h
      simp only [aget, aget_aset k k' v es]
      by_cases h2 : k' = e.1
      · subst h2; rw [if_pos rfl, if_pos rfl, if_neg (fun q => h q.symm)]
      · rw [if_neg h2, if_neg h2]
/-- a map that one owns -/
def MapR (H : Heap) (m : Nat) (es : List (κ × ω)) : Prop := H.get m = some (.map true (es.map encE))
/-- what is found in a block -/
def lookG (x : Option Blk) (kk : KK) (zero : V) (ok : Bool) (k : V) : Option V := match x with
  | some (.map _ es) => if (keyFits kk k && flatV zero) = true then (match findK kk k es with
    | some (some i) => match es[i]? with | some e => some (if ok then .tuple #[e.2, .bool true] else e.2) | none => none
    | some none => some (if ok then .tuple #[zero, .bool false] else zero)
    | none => none) else none
  | _ => none
@[congr] theorem lookG_congr {x x' : Option Blk} {kk : KK} {zero : V} {ok : Bool} {k : V} (h : x = x') : lookG x kk zero ok k = lookG x' kk zero ok k := by rw [h]
theorem wp_lookupg (H : Heap) (m : Nat) (kk : KK) (zero : V) (ok : Bool) (k : V) {Q : V → Heap → Prop} : wp (lookup kk zero ok (.map (some m)) k) Q H ↔ wpO (lookG (H.get m) kk zero ok k) fun v => Q v H := by
  have e : lookup kk zero ok (.map (some m)) k H = (lookG (H.get m) kk zero ok k).map fun v => (v, H) := by
    simp only [lookup, lookG, entries]
    generalize H.get m = x
    by_cases hc : (keyFits kk k && flatV zero) = true
    · rw [if_pos hc]
      cases x with
      | none => rfl
      | some x =>
        cases x with
        | map rw es =>
          simp only
          rw [if_pos hc]
          cases findK kk k es with
          | none => rfl
          | some o => cases o with
            | none => rfl
            | some i => simp only; cases es[i]? <;> rfl
        | cells rw cs => rfl
        | siter s p => rfl
    · rw [if_neg hc]
      cases x with
      | none => rfl
      | some x =>
        cases x with
        | map rw es => simp only; rw [if_neg hc]; rfl
        | cells rw cs => rfl
        | siter s p => rfl
  unfold wp wpO
  rw [e]
  cases lookG (H.get m) kk zero ok k with
  | none => simp
  | some v =>
    constructor
    · rintro ⟨a, H', h1, h2⟩; cases h1; exact ⟨_, rfl, h2⟩
    · rintro ⟨a, h1, h2⟩; cases h1; exact ⟨_, _, rfl, h2⟩
theorem lookG_enc (rw_ : Bool) (es : List (κ × ω)) (zero : V) (hz : flatV zero = true) (k : κ) : lookG (some (.map rw_ (es.map encE))) (KeyE.kk κ) zero false (KeyE.enc k) = some ((aget es k).elim zero ValE.enc) := by
  have hc : (keyFits (KeyE.kk κ) (KeyE.enc k) && flatV zero) = true := by rw [KeyE.fits, hz]; rfl
  simp only [lookG, hc, if_true, findK_enc]
  cases ha : aidx k es with
  | none => simp [(aidx_none ha).1]
  | some i =>
    obtain ⟨h1, ⟨v, h2, h3⟩, _⟩ := aidx_some ha
    simp [h2, h3, encE]
/-- what is laid into a block -/
def setG (x : Option Blk) (kk : KK) (k v : V) (K : Option Blk → Prop) : Prop := match x with
  | some (.map true es) => (keyFits kk k && k.isSolid && v.isSolid) = true ∧ match findK kk k es with
    | some (some i) => K (some (.map true (es.set i (k, v))))
    | some none => K (some (.map true (es ++ [(k, v)])))
    | none => False
  | _ => False
@[congr] theorem setG_congr {x x' : Option Blk} {kk : KK} {k v : V} {K : Option Blk → Prop} (h : x = x') : setG x kk k v K = setG x' kk k v K := by rw [h]
theorem wp_mapSetg (H : Heap) (m : Nat) (kk : KK) (k v : V) {Q : V → Heap → Prop} : wp (mapSet kk (.map (some m)) k v) Q H ↔ setG (H.get m) kk k v fun y => Q undef (H.set m y) := by
  unfold wp setG mapSet
  cases hc : (keyFits kk k && k.isSolid && v.isSolid) with
  | false => simp; split <;> simp_all
  | true =>
    simp only [if_true]
    cases hg : H.get m with
    | none => simp
    | some x =>
      cases x with
      | map rw es =>
        cases rw with
        | false => simp
        | true =>
          simp only [true_and]
          cases findK kk k es with
          | none => simp
          | some o => cases o with
            | none => constructor
                      · rintro ⟨a, H', h1, h2⟩; cases h1; exact h2
                      · intro h; exact ⟨_, _, rfl, h⟩
            | some i => constructor
                        · rintro ⟨a, H', h1, h2⟩; cases h1; exact h2
                        · intro h; exact ⟨_, _, rfl, h⟩
      | cells rw cs => simp
      | siter s p => simp
theorem setG_enc (es : List (κ × ω)) (k : κ) (v : ω) (K : Option Blk → Prop) : setG (some (.map true (es.map encE))) (KeyE.kk κ) (KeyE.enc k) (ValE.enc v) K ↔ K (some (.map true ((aset es k v).map encE))) := by
  have hc : (keyFits (KeyE.kk κ) (KeyE.enc k) && (KeyE.enc k : V).isSolid && (ValE.enc v : V).isSolid) = true := by rw [KeyE.fits, KeyE.solid, ValE.solid]; rfl
  simp only [setG, hc, true_and, findK_enc]
  cases ha : aidx k es with
  | none => rw [(aidx_none ha).2.1 v]; simp [encE]
  | some i => rw [(aidx_some ha).2.2.1 v]; simp [List.map_set, encE]
theorem MapR.keep {S : List Nat} {H H' : Heap} {m : Nat} {es : List (κ × ω)} (h : MapR H m es) (hk : Keeps S H H') (hm : m ∉ S) : MapR H' m es := hk.get h hm
theorem MapR.lt {H : Heap} {m : Nat} {es : List (κ × ω)} (h : MapR H m es) : m < H.next := Heap.get_lt h
end
end Go.AM

/- Slices of one-cell elements, somewhere in a block that one owns. -/
namespace Go.AM

def Seg (H : Heap) (v : V) (l : List V) : Prop := (v = .slice none 0 0 ∧ l = []) ∨ ∃ b o c cs, v = slc b o 1 l.length c ∧ l.length ≤ c ∧ H.get b = some (.cells true cs) ∧ (l = [] ∨ (o + l.length ≤ cs.length ∧ (cs.drop o).take l.length = l))

theorem Seg.nil (H : Heap) : Seg H (.slice none 0 0) [] := .inl ⟨rfl, rfl⟩
theorem Seg.keep {S : List Nat} {H H' : Heap} {v : V} {l : List V} (h : Seg H v l) (hk : Keeps S H H') (hn : ∀ b ∈ vb v, b ∉ S) : Seg H' v l := by
  rcases h with h | ⟨b, o, c, cs, rfl, hc, hb, hl⟩
  · exact .inl h
  · exact .inr ⟨b, o, c, cs, rfl, hc, hk.get hb (hn b (by simp)), hl⟩
theorem Seg.same {H H' : Heap} {v : V} {l : List V} (h : Seg H v l) (hs : ∀ b ∈ vb v, H'.get b = H.get b) : Seg H' v l := by
  rcases h with h | ⟨b, o, c, cs, rfl, hc, hb, hl⟩
  · exact .inl h
  · exact .inr ⟨b, o, c, cs, rfl, hc, by rw [hs b (by simp)]; exact hb, hl⟩
theorem Seg.len {H : Heap} {v : V} {l : List V} (h : Seg H v l) : lenSlc v = some (i64 l.length) := by
  rcases h with ⟨rfl, rfl⟩ | ⟨b, o, c, cs, rfl, hc, hb, hl⟩ <;> rfl
theorem Seg.lt {H : Heap} {v : V} {l : List V} (h : Seg H v l) : ∀ b ∈ vb v, b < H.next := by
  rcases h with ⟨rfl, rfl⟩ | ⟨b, o, c, cs, rfl, hc, hb, hl⟩
  · simp
  · simpa using Heap.get_lt hb
theorem Seg.isOne {H : Heap} {v : V} {l : List V} (h : Seg H v l) : v.isOne = true := by
  rcases h with ⟨rfl, rfl⟩ | ⟨b, o, c, cs, rfl, _⟩ <;> rfl
theorem Seg.cells {H : Heap} {v : V} {l : List V} (h : Seg H v l) : cellsOfSlice H 1 v = some l := by
  rcases h with ⟨rfl, rfl⟩ | ⟨b, o, c, cs, rfl, hc, hb, hl⟩
  · rfl
  · simp only [cellsOfSlice]
    by_cases h0 : l.length = 0
    · rw [if_pos h0, List.eq_nil_of_length_eq_zero h0]
    · rw [if_neg h0]
      rcases hl with rfl | ⟨h1, h2⟩
      · simp at h0
      · simp [cellsAt, hb, h1, h2]
theorem Seg.addr {H : Heap} {v : V} {l : List V} (h : Seg H v l) {k : IntKind} {i : Int} (h0 : 0 ≤ i) (hi : i < l.length) : iaddrS 1 v (.int k i) = some (ptr (slB v) (slO v + i.toNat)) := by
  rcases h with ⟨rfl, rfl⟩ | ⟨b, o, c, cs, rfl, _⟩
  · simp at hi; omega
  · have := iaddrS_slc (b := b) (o := o) (u := 1) (cap := c) (size := 1) (k := k) h0 hi
    rw [Nat.mul_one] at this; exact this
theorem Seg.cell {H : Heap} {v : V} {l : List V} (h : Seg H v l) {i : Nat} (hi : i < l.length) : cellP H (ptr (slB v) (slO v + i)) = l[i]? := by
  rcases h with ⟨rfl, rfl⟩ | ⟨b, o, c, cs, rfl, hc, hb, hl⟩
  · simp at hi
  · rcases hl with rfl | ⟨h1, h2⟩
    · simp at hi
    · show cellP H (ptr b (o + i)) = _
      rw [cellP_ptr hb]
      have : ((cs.drop o).take l.length)[i]? = l[i]? := by rw [h2]
      rw [List.getElem?_take, if_pos hi, List.getElem?_drop] at this
      exact this

/-- v[lo:hi] -/
theorem Seg.sub {H : Heap} {v : V} {l : List V} (h : Seg H v l) {lo hi : Option V} {a b : Nat} (hlo : bound 0 b lo = some a) (hhi : ∀ c, l.length ≤ c → bound l.length c hi = some b) (h1 : a ≤ b) (h2 : b ≤ l.length) : ∃ w, subV 1 v lo hi = some w ∧ Seg H w ((l.drop a).take (b - a)) ∧ (∀ x ∈ vb w, x ∈ vb v) ∧ w.isOne = true := by
  have hlen : ((l.drop a).take (b - a)).length = b - a := by simp; omega
  rcases h with ⟨rfl, rfl⟩ | ⟨blk, o, c, cs, rfl, hc, hb, hl⟩
  · simp only [List.length_nil] at h2 hhi
    have hb0 : b = 0 := by omega
    subst hb0
    have ha0 : a = 0 := by omega
    subst ha0
    exact ⟨.slice none 0 0, by simp [subV, hhi 0 (Nat.le_refl _), hlo], .inl ⟨rfl, by simp⟩, fun x hx => hx, rfl⟩
  · refine ⟨cutAt blk o 1 a b c 1, ?_, ?_, ?_, ?_⟩
    · simp only [subV, hhi c hc, hlo]
      simp
    · unfold cutAt
      split
      · rename_i hca
        have : b = a := by omega
        subst this
        refine .inr ⟨blk, o, c - b, cs, by simp, by simp, hb, .inl (by simp)⟩
      · refine .inr ⟨blk, o + a * 1, c - a, cs, by rw [hlen], by rw [hlen]; omega, hb, ?_⟩
        rcases hl with rfl | ⟨q1, q2⟩
        · left; simp
        · right
          rw [hlen]
          refine ⟨by omega, ?_⟩
          conv => rhs; rw [← q2]
          rw [List.drop_take, List.take_take, List.drop_drop, Nat.mul_one]
          congr 1
          omega
    · unfold cutAt; split <;> simp
    · unfold cutAt; split <;> rfl

/-! structs that are built -/
theorem build_eq {zero : List V} {parts : List (Nat × Nat × V)} (h : zero.all flatV = true) : build zero parts = (fillA zero parts).map fun cs => .agg cs.toArray := by
  simp only [build, h, if_true]
  cases fillA zero parts <;> rfl
theorem fillA_nil (cs : List V) : fillA cs [] = some cs := rfl
theorem fillA_one {cs : List V} {off : Nat} {v : V} {rest : List (Nat × Nat × V)} (hv : v.isOne = true) (h : off < cs.length) : fillA cs ((off, 1, v) :: rest) = fillA (cs.set off v) rest := by
  have hc : v.cells.toList = [v] := by rw [cells_one hv]
  have hs : v.cells.size = 1 := by rw [cells_one hv]; rfl
  simp only [fillA, hc, hs]
  rw [if_pos (by simp [hv]; omega)]
  congr 1
  simp only [splice, List.length_singleton]
  rw [List.set_eq_take_append_cons_drop, if_pos h]
  rfl
theorem fillA_slc {cs : List V} {off : Nat} {a : Option Addr} {n c : Nat} {rest : List (Nat × Nat × V)} (h : off < cs.length) : fillA cs ((off, 1, .slice a n c) :: rest) = fillA (cs.set off (.slice a n c)) rest := fillA_one rfl h
theorem fillA_int {cs : List V} {off : Nat} {k : IntKind} {n : Int} {rest : List (Nat × Nat × V)} (h : off < cs.length) : fillA cs ((off, 1, .int k n) :: rest) = fillA (cs.set off (.int k n)) rest := fillA_one rfl h
theorem fillA_str {cs : List V} {off : Nat} {s : ByteArray} {rest : List (Nat × Nat × V)} (h : off < cs.length) : fillA cs ((off, 1, .string s) :: rest) = fillA (cs.set off (.string s)) rest := fillA_one rfl h
theorem fillA_bool {cs : List V} {off : Nat} {b : Bool} {rest : List (Nat × Nat × V)} (h : off < cs.length) : fillA cs ((off, 1, .bool b) :: rest) = fillA (cs.set off (.bool b)) rest := fillA_one rfl h
theorem fillA_ptr {cs : List V} {off : Nat} {a : Option Addr} {rest : List (Nat × Nat × V)} (h : off < cs.length) : fillA cs ((off, 1, .pointer a) :: rest) = fillA (cs.set off (.pointer a)) rest := fillA_one rfl h
theorem fillA_map {cs : List V} {off : Nat} {a : Option Nat} {rest : List (Nat × Nat × V)} (h : off < cs.length) : fillA cs ((off, 1, .map a) :: rest) = fillA (cs.set off (.map a)) rest := fillA_one rfl h
theorem fillA_agg {cs vs : List V} {off n : Nat} {rest : List (Nat × Nat × V)} (hv : vs.all Value.isOne = true) (hn : vs.length = n) (h : off + n ≤ cs.length) : fillA cs ((off, n, .agg vs.toArray) :: rest) = fillA (splice cs off vs) rest := by
  have hc : (Value.agg vs.toArray).cells.toList = vs := by simp [Value.cells]
  have hs : (Value.agg vs.toArray).cells.size = n := by simp [Value.cells, hn]
  simp only [fillA, hc, hs]
  rw [if_pos (by simp [hv]; omega)]

/-! blocks that are kept free for floating makes -/
theorem resv_one (H : Heap) : resv H 1 = H.push none := rfl
theorem resv_two (H : Heap) : resv H 2 = (H.push none).push none := rfl
theorem freeIn_nil (H : Heap) : freeIn H [] = true := rfl
theorem freeIn_cons {H : Heap} {b : Nat} {bs : List Nat} (h : H.get b = none) (hl : b < H.next) : freeIn H (b :: bs) = freeIn H bs := by
  have : Nat.blt b H.next = true := by simpa [Nat.blt_eq] using hl
  simp [freeIn, h, this]
theorem wp_flt_bslc {id size len : Nat} {zero cs : List V} {parts : List (Nat × Nat × V)} {H : Heap} {Q : V → Heap → Prop} (h : H.get id = none) (hl : id < H.next) (hz : zero.all flatV = true) (hf : fillA zero parts = some cs) (hQ : Q (slc id 0 size len len) (H.set id (some (.cells true cs)))) : wp (flt id (bslc size len zero parts)) Q H := by
  have e : bslc size len zero parts ⟨[]⟩ = some (slc 0 0 size len len, ⟨[some (.cells true cs)]⟩) := by
    simp only [bslc, hz, if_true, hf]; rfl
  have : Nat.blt id H.next = true := by simpa [Nat.blt_eq] using hl
  exact ⟨_, _, by simp only [flt, e, h, this, cond_true, reloc], hQ⟩
theorem rep_encs {α : Type} [Flat α] (x : α) (zero : List V) (hz : zero = Flat.enc x) : ∀ n, rep n zero = encs (List.replicate n x)
  | 0 => rfl
  | n + 1 => by rw [rep, rep_encs x zero hz n, List.replicate_succ, encs_cons, hz]
end Go.AM

/- Slices that are copied; makes that float. -/
namespace Go.AM

theorem resv_keeps (n : Nat) (H : Heap) : Keeps [] H (resv H n) := ⟨by rw [(resv_spec n H).2]; omega, fun b _ _ => (resv_spec n H).1 b⟩
theorem resv_free {n : Nat} {H : Heap} {b : Nat} (h : H.next ≤ b) : (resv H n).get b = none := by
  rw [(resv_spec n H).1]
  cases hg : H.get b with
  | none => rfl
  | some x => have := Heap.get_lt hg; omega
theorem resv_next (n : Nat) (H : Heap) : (resv H n).next = H.next + n := (resv_spec n H).2
end Go.AM

/- Own slices of flat things. -/
namespace Go.AM
section
variable {α : Type} [Flat α]
/-- a slice of one's own whose elements are xs, at its block's start, with no room -/
def OwnF (H : Heap) (v : V) (xs : List α) : Prop := (v = .slice none 0 0 ∧ xs = []) ∨ ∃ b, v = slc b 0 (Flat.size α) xs.length xs.length ∧ H.get b = some (.cells true (encs xs))
theorem OwnF.nil (H : Heap) : OwnF H (.slice none 0 0) ([] : List α) := .inl ⟨rfl, rfl⟩
theorem OwnF.keep {S : List Nat} {H H' : Heap} {v : V} {l : List α} (h : OwnF H v l) (hk : Keeps S H H') (hn : ∀ b ∈ vb v, b ∉ S) : OwnF H' v l := by
  rcases h with h | ⟨b, rfl, hb⟩
  · exact .inl h
  · exact .inr ⟨b, rfl, hk.get hb (hn b (by simp))⟩
theorem OwnF.keep0 {H H' : Heap} {v : V} {l : List α} (h : OwnF H v l) (hk : Keeps [] H H') : OwnF H' v l := h.keep hk (by simp)
theorem OwnF.len {H : Heap} {v : V} {l : List α} (h : OwnF H v l) : lenSlc v = some (i64 l.length) := by
  rcases h with ⟨rfl, rfl⟩ | ⟨b, rfl, _⟩ <;> rfl
theorem OwnF.lt {H : Heap} {v : V} {l : List α} (h : OwnF H v l) : ∀ b ∈ vb v, b < H.next := by
  rcases h with ⟨rfl, rfl⟩ | ⟨b, rfl, hb⟩
  · simp
  · simpa using Heap.get_lt hb
theorem OwnF.isOne {H : Heap} {v : V} {l : List α} (h : OwnF H v l) : v.isOne = true := by
  rcases h with ⟨rfl, rfl⟩ | ⟨b, rfl, _⟩ <;> rfl
theorem OwnF.sl {H : Heap} {v : V} {l : List α} (h : OwnF H v l) : Sl H v l := by
  rcases h with ⟨rfl, rfl⟩ | ⟨b, rfl, hb⟩
  · exact Sl.nil H
  · refine .inr ⟨b, 0, Flat.size α, l.length, rfl, Nat.le_refl _, Heap.get_lt hb, .inr ⟨true, encs l, hb, by rw [encs_length]; omega, ?_⟩, .inr rfl⟩
    rw [List.drop_zero, List.take_of_length_le (by rw [encs_length]; exact Nat.le_refl _)]
theorem ownF_push {H : Heap} {xs : List α} {n m : Nat} (hs : Flat.size α = n) (hm : xs.length = m) : OwnF (H.push (some (.cells true (encs xs)))) (slc H.next 0 n m m) xs := by
  subst hs hm; exact .inr ⟨_, rfl, Heap.get_push_self _ _⟩

theorem ownF_appTo {v : V} {xs ys : List α} {n m bytes : Nat} {new : Option (List V)} {H : Heap} {Q : V → Heap → Prop} (hs : Flat.size α = n) (hv : OwnF H v xs) (hm : ys.length = m) (hnew : ys ≠ [] → new = some (encs ys)) (hb : (xs.length + m) * bytes ≤ 35184372088832) (hb2 : xs.length + m ≤ 35184372088832)
    (hQ : ∀ w H', OwnF H' w (xs ++ ys) → Keeps (vb v) H H' → (∀ b ∈ vb w, b ∈ vb v ∨ H.next ≤ b) → Q w H') : wp (appTo n bytes v m new) Q H := by
  subst hs hm
  by_cases h0 : ys = []
  · subst h0
    have hf : ∃ x len cap, v = .slice x len cap := by
      rcases hv with ⟨rfl, _⟩ | ⟨b, rfl, _⟩
      · exact ⟨_, _, _, rfl⟩
      · exact ⟨_, _, _, rfl⟩
    obtain ⟨x, len, cap, rfl⟩ := hf
    exact ⟨_, H, rfl, hQ _ _ (by rw [List.append_nil]; exact hv) (Keeps.refl _ _) (fun b hb => .inl hb)⟩
  have hne : ys.length ≠ 0 := fun h => h0 (List.eq_nil_of_length_eq_zero h)
  rw [hnew h0]
  have hone := encs_one ys
  have hel := encs_length ys
  rcases hv with ⟨rfl, rfl⟩ | ⟨b, rfl, hg⟩
  · have e1 : cellsOfSlice H (Flat.size α) (.slice none 0 0) = some [] := rfl
    have e2 : giveUp H (Flat.size α) (.slice none 0 0) = some H := rfl
    refine ⟨slc H.next 0 (Flat.size α) ys.length ys.length, H.push (some (.cells true (encs ys))), ?_, hQ _ _ ?_ (Keeps.push _ _ _) (fun b hb => .inr (by simp at hb; omega))⟩
    · simp only [List.length_nil, Nat.zero_add] at hb hb2
      simp only [appTo, hne, if_false, e1, e2]
      rw [if_pos ⟨by rw [Nat.zero_add]; exact hb, by omega, hone, hel⟩]
      simp
    · exact ownF_push rfl (by simp)
  · have hcs : cellsOfSlice H (Flat.size α) (slc b 0 (Flat.size α) xs.length xs.length) = some (encs xs) := by
      simp only [cellsOfSlice]
      split
      · rename_i h1; rw [List.eq_nil_of_length_eq_zero h1]; rfl
      · have e : (encs xs).length = xs.length * Flat.size α := encs_length xs
        simp only [cellsAt, hg, Nat.zero_add, List.drop_zero]
        rw [if_pos (by omega), List.take_of_length_le (by omega)]
    refine ⟨slc H.next 0 (Flat.size α) (xs.length + ys.length) (xs.length + ys.length), (H.set b none).push (some (.cells true (encs xs ++ encs ys))), ?_, hQ _ _ ?_ ?_ (fun c hc => .inr (by simp at hc; omega))⟩
    · simp only [appTo, hne, if_false, hcs, giveUp, hg, if_true]
      rw [if_pos ⟨hb, hb2, hone, hel⟩]
      simp
    · rw [← encs_append]
      have := ownF_push (H := H.set b none) (xs := xs ++ ys) (n := Flat.size α) (m := xs.length + ys.length) rfl (by simp)
      simpa using this
    · exact ⟨by simp, fun c hc hn => by rw [Heap.get_push_lt (by simpa using hc), Heap.get_set_ne _ _ _ (by simpa using hn)]⟩
theorem sl_cells {H : Heap} {v : V} {xs : List α} {n : Nat} (hs : Flat.size α = n) (h : Sl H v xs) (hne : xs ≠ []) : ∃ a c, v = .slice a xs.length c ∧ cellsOfSlice H n v = some (encs xs) := by
  subst hs
  rcases h with ⟨rfl, e⟩ | ⟨bb, o, u, c, rfl, hc, _, hl2, _⟩
  · exact absurd e hne
  · rcases hl2 with e | ⟨rw, cs, hg, q1, q2⟩
    · exact absurd e hne
    · refine ⟨_, _, rfl, ?_⟩
      have hn : xs.length ≠ 0 := fun h => hne (List.eq_nil_of_length_eq_zero h)
      simp only [cellsOfSlice, hn, if_false, cellsAt, hg]
      rw [if_pos q1, q2]
theorem ownF_appV {v x : V} {xs ys : List α} {n bytes : Nat} {H : Heap} {Q : V → Heap → Prop} (hs : Flat.size α = n) (hv : OwnF H v xs) (hx : Sl H x ys) (hb : (xs.length + ys.length) * bytes ≤ 35184372088832) (hb2 : xs.length + ys.length ≤ 35184372088832)
    (hQ : ∀ w H', OwnF H' w (xs ++ ys) → Keeps (vb v) H H' → (∀ b ∈ vb w, b ∈ vb v ∨ H.next ≤ b) → Q w H') : wp (appV n bytes v x) Q H := by
  by_cases h0 : ys = []
  · subst h0
    have hf : ∃ a c, x = .slice a 0 c := by
      rcases hx with ⟨rfl, _⟩ | ⟨bb, o, u, c, rfl, _⟩
      · exact ⟨_, _, rfl⟩
      · exact ⟨_, _, rfl⟩
    obtain ⟨a, c, rfl⟩ := hf
    exact ownF_appTo (ys := ([] : List α)) hs hv rfl (fun h => absurd rfl h) hb hb2 hQ
  · obtain ⟨a, c, rfl, hc⟩ := sl_cells hs hx h0
    exact ownF_appTo hs hv rfl (fun _ => hc) hb hb2 hQ
/-- append(v, x, y, ..) -/
theorem ownF_apps {v : V} {xs ys : List α} {n m bytes : Nat} {zero : List V} {parts : List (Nat × Nat × V)} {H : Heap} {Q : V → Heap → Prop} (hs : Flat.size α = n) (hv : OwnF H v xs) (hz : zero.all flatV = true) (hf : fillA zero parts = some (encs ys)) (hm : ys.length = m) (hb : (xs.length + m) * bytes ≤ 35184372088832) (hb2 : xs.length + m ≤ 35184372088832)
    (hQ : ∀ w H', OwnF H' w (xs ++ ys) → Keeps (vb v) H H' → (∀ b ∈ vb w, b ∈ vb v ∨ H.next ≤ b) → Q w H') : wp (bslc n m zero parts) (fun x H1 => wp (appV n bytes v x) Q H1) H := by
  subst hm
  refine (wp_bslc hz hf).mpr ?_
  have hk := Keeps.push [] H (some (.cells true (encs ys)))
  refine ownF_appV hs (hv.keep0 hk) (ownF_push hs rfl).sl hb hb2 fun w H' h1 h2 h3 => hQ w H' h1 ?_ fun b hb => (h3 b hb).imp id fun q => by simp at q; omega
  exact ⟨by have := h2.next; simp at this; omega, fun c hc hn => by rw [h2.same c (by simp; omega) hn, Heap.get_push_lt hc]⟩
end

theorem encs_bytes (l : List (BitVec 8)) : encs l = l.map B := by
  induction l with
  | nil => rfl
  | cons x l ih => rw [encs_cons, ih]; rfl
theorem ownF_appS {v : V} {xs : List (BitVec 8)} {s : ByteArray} {H : Heap} {Q : V → Heap → Prop} (hv : OwnF H v xs) (hb : xs.length + s.size ≤ 35184372088832)
    (hQ : ∀ w H', OwnF H' w (xs ++ bv s) → Keeps (vb v) H H' → (∀ b ∈ vb w, b ∈ vb v ∨ H.next ≤ b) → Q w H') : wp (appS v (.string s)) Q H := by
  refine ownF_appTo (ys := bv s) (n := 1) rfl hv (bv_length s) (fun _ => ?_) (by omega) hb hQ
  rw [bytesV_bv, encs_bytes]
theorem ownF_b2s {v : V} {l : List (BitVec 8)} {H : Heap} {Q : V → Heap → Prop} (hv : OwnF H v l) (hQ : Q (.string (sv l)) H) : wp (b2s v) Q H := by
  refine own_b2s (l := l) ?_ hQ
  rw [← encs_bytes]
  rcases hv with ⟨rfl, rfl⟩ | ⟨b, rfl, hg⟩
  · exact .inl ⟨rfl, rfl⟩
  · refine .inr ⟨b, ?_, hg⟩
    have e : (encs l).length = l.length := by rw [encs_length]; exact Nat.mul_one _
    rw [e]; rfl
end Go.AM
