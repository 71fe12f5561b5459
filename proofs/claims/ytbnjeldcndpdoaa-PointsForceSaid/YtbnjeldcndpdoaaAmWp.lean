import Derived.Test.YtbnjeldcndpdoaaAmBase
import Derived.IntWalk
set_option linter.all false
/- How runs on the abstract machine are told. -/
namespace Go.AM

/-- it comes to an end, and so -/
def wp {α : Type} (m : M α) (Q : α → Heap → Prop) (H : Heap) : Prop := ∃ a H', m H = some (a, H') ∧ Q a H'

variable {α β : Type} {Q : α → Heap → Prop} {H : Heap}

theorem wp_mono {m : M α} {Q' : α → Heap → Prop} (h : wp m Q H) (hq : ∀ a H', Q a H' → Q' a H') : wp m Q' H := by
  obtain ⟨a, H', h1, h2⟩ := h; exact ⟨a, H', h1, hq a H' h2⟩
@[simp] theorem wp_ret (a : α) : wp (ret a) Q H ↔ Q a H := ⟨fun ⟨_, _, h1, h2⟩ => by cases h1; exact h2, fun h => ⟨a, H, rfl, h⟩⟩
@[simp] theorem wp_bnd {m : M β} {k : β → M α} : wp (bnd m k) Q H ↔ wp m (fun b H' => wp (k b) Q H') H := by
  constructor
  · rintro ⟨a, H', h1, h2⟩
    obtain ⟨b, H1, h3, h4⟩ := bnd_inv' h1
    exact ⟨b, H1, h3, a, H', h4, h2⟩
  · rintro ⟨b, H1, h3, a, H', h4, h2⟩
    exact ⟨a, H', by simp [bnd, h3, h4], h2⟩
where
  bnd_inv' {m : M β} {k : β → M α} {r : α} {H' : Heap} (h : bnd m k H = some (r, H')) : ∃ b H1, m H = some (b, H1) ∧ k b H1 = some (r, H') := by
    unfold bnd at h
    split at h
    · rename_i b H1 hm; exact ⟨b, H1, hm, h⟩
    · cases h
/-- a partial answer that is there, and so -/
def wpO (o : Option α) (Q : α → Prop) : Prop := ∃ a, o = some a ∧ Q a
@[simp] theorem wpO_some (a : α) (Q : α → Prop) : wpO (some a) Q ↔ Q a := by simp [wpO]
@[simp] theorem wpO_none (Q : α → Prop) : wpO none Q ↔ False := by simp [wpO]
@[congr] theorem wpO_congr {o o' : Option α} {Q : α → Prop} (h : o = o') : wpO o Q = wpO o' Q := by rw [h]
@[congr] theorem wp_congr {m m' : M α} {Q : α → Heap → Prop} {H : Heap} (h : m = m') : wp m Q H = wp m' Q H := by rw [h]
@[congr] theorem bnd_congr {m m' : M β} {k : β → M α} (h : m = m') : bnd m k = bnd m' k := by rw [h]
@[congr] theorem bndH_congr {R : Type} {m m' : M V} {k : Heap → V → Heap → M R} (h : m = m') : bndH m k = bndH m' k := by rw [h]
@[congr] theorem need_congr {b b' : Bool} {m : M α} (h : b = b') : need b m = need b' m := by rw [h]
@[congr] theorem condM_congr {c c' : V} {m1 m2 : M Out} (h : c = c') : condM c m1 m2 = condM c' m1 m2 := by rw [h]
@[congr] theorem gd_congr {g g' : V} {b : Bool} {m : M V} (h : g = g') : gd g b m = gd g' b m := by rw [h]
@[congr] theorem nx_congr {o o' : Out} {k : List V → M Out} (h : o = o') : nx o k = nx o' k := by rw [h]
@[congr] theorem finM_congr {o o' : Out} {k : List V → M V} (h : o = o') : finM o k = finM o' k := by rw [h]
@[congr] theorem loopM_congr {n : Nat} {body : List V → M Out} {vs vs' : List V} (h : vs = vs') : loopM n body vs = loopM n body vs' := by rw [h]
@[simp] theorem wp_lift (o : Option α) : wp (lift o) Q H ↔ wpO o fun a => Q a H := by
  unfold wpO
  cases o with
  | none => simp [wp, lift]
  | some a => exact ⟨fun ⟨_, _, h1, h2⟩ => by cases h1; exact ⟨_, rfl, h2⟩, fun ⟨_, h1, h2⟩ => by cases h1; exact ⟨_, _, rfl, h2⟩⟩
@[simp] theorem wp_fail : wp (fail : M α) Q H ↔ False := by simp [wp, fail]
@[simp] theorem wp_need (m : M α) : wp (need true m) Q H ↔ wp m Q H := by simp [wp, need]
@[simp] theorem condM_true (m1 m2 : M Out) : condM (.bool true) m1 m2 = m1 := rfl
@[simp] theorem condM_false (m1 m2 : M Out) : condM (.bool false) m1 m2 = m2 := rfl
@[simp] theorem wp_bndH {R : Type} {m : M V} {k : Heap → V → Heap → M R} {Q : R → Heap → Prop} : wp (bndH m k) Q H ↔ wp m (fun v H' => wp (k H v H') Q H') H := by
  constructor
  · rintro ⟨a, H', h1, h2⟩
    unfold bndH at h1
    split at h1
    · rename_i b H1 hm; exact ⟨b, H1, hm, a, H', h1, h2⟩
    · cases h1
  · rintro ⟨b, H1, h3, a, H', h4, h2⟩
    exact ⟨a, H', by simp [bndH, h3, h4], h2⟩
@[simp] theorem wp_withH {R : Type} {k : Heap → M R} {Q : R → Heap → Prop} : wp (withH k) Q H ↔ wp (k H) Q H := by simp [withH, wp]
@[simp] theorem wp_withResv {R : Type} {n : Nat} {k : Nat → Heap → M R} {Q : R → Heap → Prop} : wp (withResv n k) Q H ↔ wp (k H.next (resv H n)) Q (resv H n) := by simp [withResv, wp]

@[simp] theorem gd_true (b : Bool) (m : M V) : gd (.bool b) true m = if b then m else ret skipV := by cases b <;> simp [gd]
@[simp] theorem gd_false (b : Bool) (m : M V) : gd (.bool b) false m = if b then ret skipV else m := by cases b <;> simp [gd]
@[simp] theorem gd_skip (b : Bool) (m : M V) : gd skipV b m = ret skipV := rfl
@[simp] theorem nx_nxt (vs : List V) (k : List V → M Out) : nx (.nxt vs) k = k vs := rfl
@[simp] theorem nx_brk (i : Nat) (vs : List V) (k : List V → M Out) : nx (.brk i vs) k = ret (.brk i vs) := rfl
@[simp] theorem nx_ret (vs : List V) (k : List V → M Out) : nx (.ret vs) k = ret (.ret vs) := rfl
@[simp] theorem unblk_nxt (i : Nat) (vs : List V) : unblk i (.nxt vs) = .nxt vs := rfl
@[simp] theorem unblk_ret (i : Nat) (vs : List V) : unblk i (.ret vs) = .ret vs := rfl
@[simp] theorem unblk_brk (i j : Nat) (vs : List V) : unblk i (.brk j vs) = if j = i then .nxt vs else .brk j vs := by
  simp only [unblk]
  by_cases h : j = i
  · subst h; simp
  · rw [beq_f h]; simp [h]
@[simp] theorem finM_nxt (vs : List V) (k : List V → M V) : finM (.nxt vs) k = k vs := rfl
@[simp] theorem finM_ret (vs : List V) (k : List V → M V) : finM (.ret vs) k = k vs := rfl
@[simp] theorem at_zero (v : V) (vs : List V) : at_ (v :: vs) 0 = v := rfl
@[simp] theorem at_succ (v : V) (vs : List V) (i : Nat) : at_ (v :: vs) (i + 1) = at_ vs i := by simp [at_]
@[simp] theorem outV_one (v : V) : outV [v] = v := rfl

/-- a loop: a measure goes down -/
theorem wp_loop {body : List V → M Out} {vs : List V} {Q : Out → Heap → Prop} (Inv : Nat → List V → Heap → Prop) {n : Nat} (hn : n < FUEL) (h0 : Inv n vs H)
    (hstep : ∀ k vs H, Inv k vs H → wp (body vs) (fun o H' => match o with | .nxt vs' => ∃ k', k' < k ∧ Inv k' vs' H' | o => Q o H') H) : wp (loopM FUEL body vs) Q H := by
  have key : ∀ m k vs H, k < m → Inv k vs H → wp (loopM m body vs) Q H := by
    intro m
    induction m with
    | zero => intro k vs H h; omega
    | succ m ih =>
      intro k vs H hk hi
      simp only [loopM, wp_bnd]
      refine wp_mono (hstep k vs H hi) fun o H' ho => ?_
      cases o with
      | nxt vs' => obtain ⟨k', h1, h2⟩ := ho; exact ih k' vs' H' (by omega) h2
      | brk i vs' => simpa using ho
      | ret vs' => simpa using ho
  exact key FUEL n vs H hn h0

abbrev W (x : BitVec 64) : V := .int .u64 x.toNat
abbrev B (x : BitVec 8) : V := .int .u8 x.toNat
abbrev str (s : ByteArray) : V := .string s

theorem wrapW (n : Int) : IntKind.u64.wrap n = ((BitVec.ofInt 64 n).toNat : Int) := by rw [IntKind.wrap_u64]; simp [BitVec.toNat_ofInt]; omega
theorem wrapB (n : Int) : IntKind.u8.wrap n = ((BitVec.ofInt 8 n).toNat : Int) := by rw [IntKind.wrap_u8]; simp [BitVec.toNat_ofInt]; omega


theorem ofInt_nat (n : Nat) (m : Nat) : BitVec.ofInt n (m : Int) = BitVec.ofNat n m := BitVec.ofInt_natCast n m

@[simp] theorem u64_mul (x y : BitVec 64) : bin .mul (W x) (W y) = some (W (x * y)) := by
  simp [bin, ibin, wrapW, ← Int.natCast_mul, ofInt_nat]
@[simp] theorem u64_u8 (x : BitVec 64) : cvi .u8 (W x) = some (B (x.setWidth 8)) := by
  simp [cvi, wrapB, ofInt_nat]
@[simp] theorem i64_u64 (x : Nat) : cvi .u64 (i64 x) = some (W (BitVec.ofNat 64 x)) := by
  simp [cvi, wrapW, ofInt_nat]
/-! bytes -/
@[simp] theorem u8_i64 (x : BitVec 8) : cvi .i64 (B x) = some (i64 x.toNat) := by
  have := x.isLt
  simp only [cvi]; rw [IntWalk.i64_in _ ⟨by omega, by omega⟩]
/-! whole numbers -/
theorem i64_in {n : Int} (h0 : -9223372036854775808 ≤ n) (h1 : n ≤ 9223372036854775807) : IntKind.i64.wrap n = n := IntWalk.i64_in n ⟨h0, h1⟩
@[simp] theorem i64_add (x y : Int) : bin .add (i64 x) (i64 y) = some (i64 (IntKind.i64.wrap (x + y))) := rfl
@[simp] theorem i64_sub (x y : Int) : bin .sub (i64 x) (i64 y) = some (i64 (IntKind.i64.wrap (x - y))) := rfl
@[simp] theorem i64_mul (x y : Int) : bin .mul (i64 x) (i64 y) = some (i64 (IntKind.i64.wrap (x * y))) := rfl
@[simp] theorem int_eql (k : IntKind) (x y : Int) : bin .eql (.int k x) (.int k y) = some (.bool (x == y)) := by simp [bin, ibin]
@[simp] theorem int_neq (k : IntKind) (x y : Int) : bin .neq (.int k x) (.int k y) = some (.bool (x != y)) := by simp [bin, ibin]
@[simp] theorem int_lss (k : IntKind) (x y : Int) : bin .lss (.int k x) (.int k y) = some (.bool (decide (x < y))) := by simp [bin, ibin]
@[simp] theorem int_leq (k : IntKind) (x y : Int) : bin .leq (.int k x) (.int k y) = some (.bool (decide (x ≤ y))) := by simp [bin, ibin]
@[simp] theorem int_gtr (k : IntKind) (x y : Int) : bin .gtr (.int k x) (.int k y) = some (.bool (decide (x > y))) := by simp [bin, ibin]
@[simp] theorem int_geq (k : IntKind) (x y : Int) : bin .geq (.int k x) (.int k y) = some (.bool (decide (x ≥ y))) := by simp [bin, ibin]
@[simp] theorem str_eql (x y : ByteArray) : bin .eql (.string x) (.string y) = some (.bool (decide (x = y))) := rfl
@[simp] theorem str_neq (x y : ByteArray) : bin .neq (.string x) (.string y) = some (.bool (!decide (x = y))) := rfl
@[simp] theorem pick_bool (b : Bool) (x y : V) : pickV (.bool b) x y = some (if b then x else y) := by cases b <;> rfl
@[simp] theorem not_bool (b : Bool) : un .not (.bool b) = some (.bool (!b)) := rfl

/-! ### memory -/
namespace Heap
@[simp] theorem get_push_self (H : Heap) (x : Option Blk) : (H.push x).get H.next = x := by
  rw [Heap.get_push]; simp
theorem get_push_lt {H : Heap} {x : Option Blk} {b : Nat} (h : b < H.next) : (H.push x).get b = H.get b := by
  rw [Heap.get_push, if_neg (by omega)]
@[simp] theorem next_push' (H : Heap) (x : Option Blk) : (H.push x).next = H.next + 1 := Heap.next_push H x
@[simp] theorem next_set' (H : Heap) (b : Nat) (x : Option Blk) : (H.set b x).next = H.next := Heap.next_set H b x
theorem get_set_self {H : Heap} {b : Nat} {x : Option Blk} (h : b < H.next) : (H.set b x).get b = x := by
  rw [Heap.get_set H b x _ h]; simp
theorem get_set' (H : Heap) (b : Nat) (x : Option Blk) (c : Nat) : (H.set b x).get c = if c = b ∧ b < H.next then x else H.get c := BT.get_set b x c H.ok
@[simp] theorem set_set (H : Heap) (b : Nat) (x y : Option Blk) : (H.set b x).set b y = H.set b y := by
  refine Heap.same rfl fun c _ => ?_
  rw [get_set', get_set', get_set', show (H.set b x).next = H.next from rfl]
  by_cases h : c = b ∧ b < H.next
  · rw [if_pos h, if_pos h]
  · rw [if_neg h, if_neg h, if_neg h]
theorem set_same {H : Heap} {b : Nat} {x : Blk} (h : H.get b = some x) : H.set b (some x) = H := by
  refine Heap.same rfl fun c _ => ?_
  rw [get_set']
  split
  · rename_i q; rw [q.1, h]
  · rfl
end Heap

def cellP (H : Heap) (p : V) : Option V := match p with | .pointer (some ⟨b, o, none⟩) => H.cell b o | _ => none
@[simp] theorem wp_ld1 (p : V) {Q : V → Heap → Prop} : wp (ld1 p) Q H ↔ wpO (cellP H p) fun v => Q v H := by
  unfold wp wpO ld1 cellP
  constructor
  · rintro ⟨a, H', h1, h2⟩
    split at h1
    · split at h1
      · rename_i v hc; cases h1; exact ⟨_, hc, h2⟩
      · cases h1
    · cases h1
  · rintro ⟨a, h1, h2⟩
    split at h1
    · exact ⟨a, H, by simp [h1], h2⟩
    · cases h1
theorem cellP_ptr {b o : Nat} {rw : Bool} {cs : List V} (h : H.get b = some (.cells rw cs)) : cellP H (ptr b o) = cs[o]? := by simp [cellP, Heap.cell, h]
theorem iaddrS_slc {b o u len cap size : Nat} {k : IntKind} {i : Int} (h0 : 0 ≤ i) (h1 : i < len) : iaddrS size (slc b o u len cap) (.int k i) = some (ptr b (o + i.toNat * size)) := by simp [iaddrS, h0, h1]
@[simp] theorem faddr_ptr (b o off : Nat) : faddr off (ptr b o) = some (ptr b (o + off)) := rfl
@[simp] theorem nilck_ptr (b o : Nat) : nilck (ptr b o) = some (ptr b o) := rfl

@[simp] theorem isOne_int (k : IntKind) (n : Int) : (Value.int k n).isOne = true := rfl
@[simp] theorem isOne_str (s : ByteArray) : (Value.string s).isOne = true := rfl
@[simp] theorem isOne_bool (b : Bool) : (Value.bool b).isOne = true := rfl
@[simp] theorem isOne_slice (a : Option Addr) (n c : Nat) : (Value.slice a n c).isOne = true := rfl
@[simp] theorem isOne_pointer (a : Option Addr) : (Value.pointer a).isOne = true := rfl
@[simp] theorem isOne_map (a : Option Nat) : (Value.map a).isOne = true := rfl
theorem wp_st1 {b o : Nat} {cs : List V} {v : V} (h : H.get b = some (.cells true cs)) (hv : v.isOne = true) (ho : o < cs.length) {Q : V → Heap → Prop} :
    wp (st1 (ptr b o) v) Q H ↔ Q undef (H.set b (some (.cells true (cs.set o v)))) := by
  constructor
  · rintro ⟨a, H', h1, h2⟩
    simp [st1, h, hv, ho] at h1
    obtain ⟨rfl, rfl⟩ := h1; exact h2
  · intro hq; exact ⟨_, _, by simp [st1, h, hv, ho], hq⟩
theorem wp_ldn {b o n : Nat} {rw : Bool} {cs : List V} (h : H.get b = some (.cells rw cs)) (ho : o + n ≤ cs.length) {Q : V → Heap → Prop} :
    wp (ldn n (ptr b o)) Q H ↔ Q (.agg ((cs.drop o).take n).toArray) H := by
  constructor
  · rintro ⟨a, H', h1, h2⟩
    simp [ldn, cellsAt, h, ho] at h1
    obtain ⟨rfl, rfl⟩ := h1; exact h2
  · intro hq; exact ⟨_, _, by simp [ldn, cellsAt, h, ho], hq⟩
theorem wp_newc {cs : List V} (h : cs.all flatV = true) {Q : V → Heap → Prop} : wp (newc cs) Q H ↔ Q (ptr H.next 0) (H.push (some (.cells true cs))) := by
  constructor
  · rintro ⟨a, H', h1, h2⟩
    simp only [newc, h, if_true] at h1
    cases h1; exact h2
  · intro hq; exact ⟨_, _, by simp only [newc, h, if_true], hq⟩
@[simp] theorem wp_s2b {s : ByteArray} {Q : V → Heap → Prop} : wp (s2b (.string s)) Q H ↔ Q (slc H.next 0 1 s.size s.size) (H.push (some (.cells true (bytesV s)))) :=
  ⟨fun ⟨_, _, h1, h2⟩ => by cases h1; exact h2, fun h => ⟨_, _, rfl, h⟩⟩
@[simp] theorem wp_mkmap {Q : V → Heap → Prop} : wp mkmap Q H ↔ Q (.map (some H.next)) (H.push (some (.map true []))) :=
  ⟨fun ⟨_, _, h1, h2⟩ => by cases h1; exact h2, fun h => ⟨_, _, rfl, h⟩⟩
@[simp] theorem lenSlc_slice (a : Option Addr) (n c : Nat) : lenSlc (.slice a n c) = some (i64 n) := rfl
@[simp] theorem lenStr_str (s : ByteArray) : lenStr (.string s) = some (i64 s.size) := rfl
@[simp] theorem strV_str (s : ByteArray) : strV (.string s) = some (.string s) := rfl

/-- m items of a list of values: []T{x, y} -/
theorem wp_bslc {size len : Nat} {zero cs : List V} {parts : List (Nat × Nat × V)} (h : zero.all flatV = true) (hc : fillA zero parts = some cs) {Q : V → Heap → Prop} :
    wp (bslc size len zero parts) Q H ↔ Q (slc H.next 0 size len len) (H.push (some (.cells true cs))) := by
  constructor
  · rintro ⟨a, H', h1, h2⟩
    simp only [bslc, h, if_true, hc] at h1
    cases h1; exact h2
  · intro hq; exact ⟨_, _, by simp only [bslc, h, if_true, hc], hq⟩

/-! readings that are checked again -/
def chkO (o : Option V) (v : V) : Bool := match o with | some v' => vEq v' v | none => false
@[congr] theorem chkO_congr {o o' : Option V} {v : V} (h : o = o') : chkO o v = chkO o' v := by rw [h]
theorem ld1_eq (p : V) (H : Heap) : ld1 p H = match cellP H p with | some v => some (v, H) | none => none := by
  cases p <;> try rfl
  rename_i a
  cases a with
  | none => rfl
  | some a => obtain ⟨b, o, s⟩ := a; cases s <;> rfl
theorem chk_ld1 (p : V) (H : Heap) (v : V) : chk (ld1 p) H v = chkO (cellP H p) v := by
  unfold chk chkO
  rw [ld1_eq]
  cases cellP H p <;> rfl
@[simp] theorem chkO_int (k : IntKind) (n : Int) : chkO (some (.int k n)) (.int k n) = true := by simp [chkO, vEq]
@[simp] theorem chkO_bool (b : Bool) : chkO (some (.bool b)) (.bool b) = true := by simp [chkO, vEq]
@[simp] theorem chkO_str (s : ByteArray) : chkO (some (.string s)) (.string s) = true := by simp [chkO, vEq]
@[simp] theorem chkO_ptr (a : Option Addr) : chkO (some (.pointer a)) (.pointer a) = true := by simp [chkO, vEq]
@[simp] theorem chkO_slc (a : Option Addr) (n c : Nat) : chkO (some (.slice a n c)) (.slice a n c) = true := by simp [chkO, vEq]
@[simp] theorem chkO_map (a : Option Nat) : chkO (some (.map a)) (.map a) = true := by simp [chkO, vEq]
@[simp] theorem chk_ret (v : V) (H : Heap) : chk (ret v) H v = vEq v v := rfl

end Go.AM
