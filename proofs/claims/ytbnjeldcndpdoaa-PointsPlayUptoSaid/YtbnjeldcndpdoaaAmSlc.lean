import Derived.Test.YtbnjeldcndpdoaaAmBase
import Derived.IntWalk
set_option linter.all false
/- How runs on the abstract machine are told. -/
namespace Go.AM

/-- it comes to an end, and so -/
def wp {α : Type} (m : M α) (Q : α → Heap → Prop) (H : Heap) : Prop := ∃ a H', m H = some (a, H') ∧ Q a H'

variable {α β : Type} {Q : α → Heap → Prop} {H : Heap}

theorem wp_mono {m : M α} {Q' : α → Heap → Prop} (h : wp m Q H) (hq : ∀ a H', Q a H' → Q' a H') : wp m Q' H := by
  obtain ⟨a, H', h1, h2⟩ := h; exact ⟨a, H', h1, hq a H' h2⟩
@[simp] theorem wp_ret (a : α) : wp (ret a) Q H ↔ Q a H := ⟨fun ⟨_, _, h1, h2⟩ => by cases h1; exact h2, fun h => ⟨a, H, rfl, h⟩⟩
@[simp] theorem wp_bnd {m : M β} {k : β → M α} : wp (bnd m k) Q H ↔ wp m (fun b H' => wp (k b) Q H') H := by
  constructor
  · rintro ⟨a, H', h1, h2⟩
    obtain ⟨b, H1, h3, h4⟩ := bnd_inv' h1
    exact ⟨b, H1, h3, a, H', h4, h2⟩
  · rintro ⟨b, H1, h3, a, H', h4, h2⟩
    exact ⟨a, H', by simp [bnd, h3, h4], h2⟩
where
  bnd_inv' {m : M β} {k : β → M α} {r : α} {H' : Heap} (h : bnd m k H = some (r, H')) : ∃ b H1, m H = some (b, H1) ∧ k b H1 = some (r, H') := by
    unfold bnd at h
    split at h
    · rename_i b H1 hm; exact ⟨b, H1, hm, h⟩
    · cases h
/-- a partial answer that is there, and so -/
def wpO (o : Option α) (Q : α → Prop) : Prop := ∃ a, o = some a ∧ Q a
@[simp] theorem wpO_some (a : α) (Q : α → Prop) : wpO (some a) Q ↔ Q a := by simp [wpO]
@[simp] theorem wpO_none (Q : α → Prop) : wpO none Q ↔ False := by simp [wpO]
@[congr] theorem wpO_congr {o o' : Option α} {Q : α → Prop} (h : o = o') : wpO o Q = wpO o' Q := by rw [h]
@[congr] theorem wp_congr {m m' : M α} {Q : α → Heap → Prop} {H : Heap} (h : m = m') : wp m Q H = wp m' Q H := by rw [h]
@[congr] theorem bnd_congr {m m' : M β} {k : β → M α} (h : m = m') : bnd m k = bnd m' k := by rw [h]
@[congr] theorem bndH_congr {R : Type} {m m' : M V} {k : Heap → V → Heap → M R} (h : m = m') : bndH m k = bndH m' k := by rw [h]
@[congr] theorem need_congr {b b' : Bool} {m : M α} (h : b = b') : need b m = need b' m := by rw [h]
@[congr] theorem condM_congr {c c' : V} {m1 m2 : M Out} (h : c = c') : condM c m1 m2 = condM c' m1 m2 := by rw [h]
@[congr] theorem gd_congr {g g' : V} {b : Bool} {m : M V} (h : g = g') : gd g b m = gd g' b m := by rw [h]
@[congr] theorem nx_congr {o o' : Out} {k : List V → M Out} (h : o = o') : nx o k = nx o' k := by rw [h]
@[congr] theorem finM_congr {o o' : Out} {k : List V → M V} (h : o = o') : finM o k = finM o' k := by rw [h]
@[congr] theorem loopM_congr {n : Nat} {body : List V → M Out} {vs vs' : List V} (h : vs = vs') : loopM n body vs = loopM n body vs' := by rw [h]
@[simp] theorem wp_lift (o : Option α) : wp (lift o) Q H ↔ wpO o fun a => Q a H := by
  unfold wpO
  cases o with
  | none => simp [wp, lift]
  | some a => exact ⟨fun ⟨_, _, h1, h2⟩ => by cases h1; exact ⟨_, rfl, h2⟩, fun ⟨_, h1, h2⟩ => by cases h1; exact ⟨_, _, rfl, h2⟩⟩
@[simp] theorem wp_fail : wp (fail : M α) Q H ↔ False := by simp [wp, fail]
@[simp] theorem wp_need (m : M α) : wp (need true m) Q H ↔ wp m Q H := by simp [wp, need]
@[simp] theorem condM_true (m1 m2 : M Out) : condM (.bool true) m1 m2 = m1 := rfl
@[simp] theorem condM_false (m1 m2 : M Out) : condM (.bool false) m1 m2 = m2 := rfl
@[simp] theorem wp_bndH {R : Type} {m : M V} {k : Heap → V → Heap → M R} {Q : R → Heap → Prop} : wp (bndH m k) Q H ↔ wp m (fun v H' => wp (k H v H') Q H') H := by
  constructor
  · rintro ⟨a, H', h1, h2⟩
    unfold bndH at h1
    split at h1
    · rename_i b H1 hm; exact ⟨b, H1, hm, a, H', h1, h2⟩
    · cases h1
  · rintro ⟨b, H1, h3, a, H', h4, h2⟩
    exact ⟨a, H', by simp [bndH, h3, h4], h2⟩
@[simp] theorem wp_withH {R : Type} {k : Heap → M R} {Q : R → Heap → Prop} : wp (withH k) Q H ↔ wp (k H) Q H := by simp [withH, wp]
@[simp] theorem wp_withResv {R : Type} {n : Nat} {k : Nat → Heap → M R} {Q : R → Heap → Prop} : wp (withResv n k) Q H ↔ wp (k H.next (resv H n)) Q (resv H n) := by simp [withResv, wp]

@[simp] theorem gd_true (b : Bool) (m : M V) : gd (.bool b) true m = if b then m else ret skipV := by cases b <;> simp [gd]
@[simp] theorem gd_false (b : Bool) (m : M V) : gd (.bool b) false m = if b then ret skipV else m := by cases b <;> simp [gd]
@[simp] theorem gd_skip (b : Bool) (m : M V) : gd skipV b m = ret skipV := rfl
@[simp] theorem nx_nxt (vs : List V) (k : List V → M Out) : nx (.nxt vs) k = k vs := rfl
@[simp] theorem nx_brk (i : Nat) (vs : List V) (k : List V → M Out) : nx (.brk i vs) k = ret (.brk i vs) := rfl
@[simp] theorem nx_ret (vs : List V) (k : List V → M Out) : nx (.ret vs) k = ret (.ret vs) := rfl
@[simp] theorem unblk_nxt (i : Nat) (vs : List V) : unblk i (.nxt vs) = .nxt vs := rfl
@[simp] theorem unblk_ret (i : Nat) (vs : List V) : unblk i (.ret vs) = .ret vs := rfl
@[simp] theorem unblk_brk (i j : Nat) (vs : List V) : unblk i (.brk j vs) = if j = i then .nxt vs else .brk j vs := by
  simp only [unblk]
  by_cases h : j = i
  · subst h; simp
  · rw [beq_f h]; simp [h]
@[simp] theorem finM_nxt (vs : List V) (k : List V → M V) : finM (.nxt vs) k = k vs := rfl
@[simp] theorem finM_ret (vs : List V) (k : List V → M V) : finM (.ret vs) k = k vs := rfl
@[simp] theorem at_zero (v : V) (vs : List V) : at_ (v :: vs) 0 = v := rfl
@[simp] theorem at_succ (v : V) (vs : List V) (i : Nat) : at_ (v :: vs) (i + 1) = at_ vs i := by simp [at_]
@[simp] theorem outV_one (v : V) : outV [v] = v := rfl

/-- a loop: a measure goes down -/
theorem wp_loop {body : List V → M Out} {vs : List V} {Q : Out → Heap → Prop} (Inv : Nat → List V → Heap → Prop) {n : Nat} (hn : n < FUEL) (h0 : Inv n vs H)
    (hstep : ∀ k vs H, Inv k vs H → wp (body vs) (fun o H' => match o with | .nxt vs' => ∃ k', k' < k ∧ Inv k' vs' H' | o => Q o H') H) : wp (loopM FUEL body vs) Q H := by
  have key : ∀ m k vs H, k < m → Inv k vs H → wp (loopM m body vs) Q H := by
    intro m
    induction m with
    | zero => intro k vs H h; omega
    | succ m ih =>
      intro k vs H hk hi
      simp only [loopM, wp_bnd]
      refine wp_mono (hstep k vs H hi) fun o H' ho => ?_
      cases o with
      | nxt vs' => obtain ⟨k', h1, h2⟩ := ho; exact ih k' vs' H' (by omega) h2
      | brk i vs' => simpa using ho
      | ret vs' => simpa using ho
  exact key FUEL n vs H hn h0

abbrev W (x : BitVec 64) : V := .int .u64 x.toNat
abbrev B (x : BitVec 8) : V := .int .u8 x.toNat
abbrev str (s : ByteArray) : V := .string s

theorem wrapW (n : Int) : IntKind.u64.wrap n = ((BitVec.ofInt 64 n).toNat : Int) := by rw [IntKind.wrap_u64]; simp [BitVec.toNat_ofInt]; omega
theorem wrapB (n : Int) : IntKind.u8.wrap n = ((BitVec.ofInt 8 n).toNat : Int) := by rw [IntKind.wrap_u8]; simp [BitVec.toNat_ofInt]; omega


theorem ofInt_nat (n : Nat) (m : Nat) : BitVec.ofInt n (m : Int) = BitVec.ofNat n m := BitVec.ofInt_natCast n m

@[simp] theorem u64_mul (x y : BitVec 64) : bin .mul (W x) (W y) = some (W (x * y)) := by
  simp [bin, ibin, wrapW, ← Int.natCast_mul, ofInt_nat]
@[simp] theorem u64_u8 (x : BitVec 64) : cvi .u8 (W x) = some (B (x.setWidth 8)) := by
  simp [cvi, wrapB, ofInt_nat]
@[simp] theorem i64_u64 (x : Nat) : cvi .u64 (i64 x) = some (W (BitVec.ofNat 64 x)) := by
  simp [cvi, wrapW, ofInt_nat]
/-! bytes -/
@[simp] theorem u8_i64 (x : BitVec 8) : cvi .i64 (B x) = some (i64 x.toNat) := by
  have := x.isLt
  simp only [cvi]; rw [IntWalk.i64_in _ ⟨by omega, by omega⟩]
/-! whole numbers -/
theorem i64_in {n : Int} (h0 : -9223372036854775808 ≤ n) (h1 : n ≤ 9223372036854775807) : IntKind.i64.wrap n = n := IntWalk.i64_in n ⟨h0, h1⟩
@[simp] theorem i64_add (x y : Int) : bin .add (i64 x) (i64 y) = some (i64 (IntKind.i64.wrap (x + y))) := rfl
@[simp] theorem i64_sub (x y : Int) : bin .sub (i64 x) (i64 y) = some (i64 (IntKind.i64.wrap (x - y))) := rfl
@[simp] theorem i64_mul (x y : Int) : bin .mul (i64 x) (i64 y) = some (i64 (IntKind.i64.wrap (x * y))) := rfl
@[simp] theorem int_eql (k : IntKind) (x y : Int) : bin .eql (.int k x) (.int k y) = some (.bool (x == y)) := by simp [bin, ibin]
@[simp] theorem int_neq (k : IntKind) (x y : Int) : bin .neq (.int k x) (.int k y) = some (.bool (x != y)) := by simp [bin, ibin]
@[simp] theorem int_lss (k : IntKind) (x y : Int) : bin .lss (.int k x) (.int k y) = some (.bool (decide (x < y))) := by simp [bin, ibin]
@[simp] theorem int_leq (k : IntKind) (x y : Int) : bin .leq (.int k x) (.int k y) = some (.bool (decide (x ≤ y))) := by simp [bin, ibin]
@[simp] theorem int_gtr (k : IntKind) (x y : Int) : bin .gtr (.int k x) (.int k y) = some (.bool (decide (x > y))) := by simp [bin, ibin]
@[simp] theorem int_geq (k : IntKind) (x y : Int) : bin .geq (.int k x) (.int k y) = some (.bool (decide (x ≥ y))) := by simp [bin, ibin]
@[simp] theorem str_eql (x y : ByteArray) : bin .eql (.string x) (.string y) = some (.bool (decide (x = y))) := rfl
@[simp] theorem str_neq (x y : ByteArray) : bin .neq (.string x) (.string y) = some (.bool (!decide (x = y))) := rfl
@[simp] theorem pick_bool (b : Bool) (x y : V) : pickV (.bool b) x y = some (if b then x else y) := by cases b <;> rfl
@[simp] theorem not_bool (b : Bool) : un .not (.bool b) = some (.bool (!b)) := rfl

/-! ### memory -/
namespace Heap
@[simp] theorem get_push_self (H : Heap) (x : Option Blk) : (H.push x).get H.next = x := by
  rw [Heap.get_push]; simp
theorem get_push_lt {H : Heap} {x : Option Blk} {b : Nat} (h : b < H.next) : (H.push x).get b = H.get b := by
  rw [Heap.get_push, if_neg (by omega)]
@[simp] theorem next_push' (H : Heap) (x : Option Blk) : (H.push x).next = H.next + 1 := Heap.next_push H x
@[simp] theorem next_set' (H : Heap) (b : Nat) (x : Option Blk) : (H.set b x).next = H.next := Heap.next_set H b x
theorem get_set_self {H : Heap} {b : Nat} {x : Option Blk} (h : b < H.next) : (H.set b x).get b = x := by
  rw [Heap.get_set H b x _ h]; simp
theorem get_set' (H : Heap) (b : Nat) (x : Option Blk) (c : Nat) : (H.set b x).get c = if c = b ∧ b < H.next then x else H.get c := BT.get_set b x c H.ok
@[simp] theorem set_set (H : Heap) (b : Nat) (x y : Option Blk) : (H.set b x).set b y = H.set b y := by
  refine Heap.same rfl fun c _ => ?_
  rw [get_set', get_set', get_set', show (H.set b x).next = H.next from rfl]
  by_cases h : c = b ∧ b < H.next
  · rw [if_pos h, if_pos h]
  · rw [if_neg h, if_neg h, if_neg h]
theorem set_same {H : Heap} {b : Nat} {x : Blk} (h : H.get b = some x) : H.set b (some x) = H := by
  refine Heap.same rfl fun c _ => ?_
  rw [get_set']
  split
  · rename_i q; rw [q.1, h]
  · rfl
end Heap

def cellP (H : Heap) (p : V) : Option V := match p with | .pointer (some ⟨b, o, none⟩) => H.cell b o | _ => none
@[simp] theorem wp_ld1 (p : V) {Q : V → Heap → Prop} : wp (ld1 p) Q H ↔ wpO (cellP H p) fun v => Q v H := by
  unfold wp wpO ld1 cellP
  constructor
  · rintro ⟨a, H', h1, h2⟩
    split at h1
    · split at h1
      · rename_i v hc; cases h1; exact ⟨_, hc, h2⟩
      · cases h1
    · cases h1
  · rintro ⟨a, h1, h2⟩
    split at h1
    · exact ⟨a, H, by simp [h1], h2⟩
    · cases h1
theorem cellP_ptr {b o : Nat} {rw : Bool} {cs : List V} (h : H.get b = some (.cells rw cs)) : cellP H (ptr b o) = cs[o]? := by simp [cellP, Heap.cell, h]
theorem iaddrS_slc {b o u len cap size : Nat} {k : IntKind} {i : Int} (h0 : 0 ≤ i) (h1 : i < len) : iaddrS size (slc b o u len cap) (.int k i) = some (ptr b (o + i.toNat * size)) := by simp [iaddrS, h0, h1]
@[simp] theorem faddr_ptr (b o off : Nat) : faddr off (ptr b o) = some (ptr b (o + off)) := rfl
@[simp] theorem nilck_ptr (b o : Nat) : nilck (ptr b o) = some (ptr b o) := rfl

@[simp] theorem isOne_int (k : IntKind) (n : Int) : (Value.int k n).isOne = true := rfl
@[simp] theorem isOne_str (s : ByteArray) : (Value.string s).isOne = true := rfl
@[simp] theorem isOne_bool (b : Bool) : (Value.bool b).isOne = true := rfl
@[simp] theorem isOne_slice (a : Option Addr) (n c : Nat) : (Value.slice a n c).isOne = true := rfl
@[simp] theorem isOne_pointer (a : Option Addr) : (Value.pointer a).isOne = true := rfl
@[simp] theorem isOne_map (a : Option Nat) : (Value.map a).isOne = true := rfl
theorem wp_st1 {b o : Nat} {cs : List V} {v : V} (h : H.get b = some (.cells true cs)) (hv : v.isOne = true) (ho : o < cs.length) {Q : V → Heap → Prop} :
    wp (st1 (ptr b o) v) Q H ↔ Q undef (H.set b (some (.cells true (cs.set o v)))) := by
  constructor
  · rintro ⟨a, H', h1, h2⟩
    simp [st1, h, hv, ho] at h1
    obtain ⟨rfl, rfl⟩ := h1; exact h2
  · intro hq; exact ⟨_, _, by simp [st1, h, hv, ho], hq⟩
theorem wp_ldn {b o n : Nat} {rw : Bool} {cs : List V} (h : H.get b = some (.cells rw cs)) (ho : o + n ≤ cs.length) {Q : V → Heap → Prop} :
    wp (ldn n (ptr b o)) Q H ↔ Q (.agg ((cs.drop o).take n).toArray) H := by
  constructor
  · rintro ⟨a, H', h1, h2⟩
    simp [ldn, cellsAt, h, ho] at h1
    obtain ⟨rfl, rfl⟩ := h1; exact h2
  · intro hq; exact ⟨_, _, by simp [ldn, cellsAt, h, ho], hq⟩
theorem wp_newc {cs : List V} (h : cs.all flatV = true) {Q : V → Heap → Prop} : wp (newc cs) Q H ↔ Q (ptr H.next 0) (H.push (some (.cells true cs))) := by
  constructor
  · rintro ⟨a, H', h1, h2⟩
    simp only [newc, h, if_true] at h1
    cases h1; exact h2
  · intro hq; exact ⟨_, _, by simp only [newc, h, if_true], hq⟩
@[simp] theorem wp_mkmap {Q : V → Heap → Prop} : wp mkmap Q H ↔ Q (.map (some H.next)) (H.push (some (.map true []))) :=
  ⟨fun ⟨_, _, h1, h2⟩ => by cases h1; exact h2, fun h => ⟨_, _, rfl, h⟩⟩
@[simp] theorem lenSlc_slice (a : Option Addr) (n c : Nat) : lenSlc (.slice a n c) = some (i64 n) := rfl
@[simp] theorem lenStr_str (s : ByteArray) : lenStr (.string s) = some (i64 s.size) := rfl
@[simp] theorem strV_str (s : ByteArray) : strV (.string s) = some (.string s) := rfl

/-- m items of a list of values: []T{x, y} -/
theorem wp_bslc {size len : Nat} {zero cs : List V} {parts : List (Nat × Nat × V)} (h : zero.all flatV = true) (hc : fillA zero parts = some cs) {Q : V → Heap → Prop} :
    wp (bslc size len zero parts) Q H ↔ Q (slc H.next 0 size len len) (H.push (some (.cells true cs))) := by
  constructor
  · rintro ⟨a, H', h1, h2⟩
    simp only [bslc, h, if_true, hc] at h1
    cases h1; exact h2
  · intro hq; exact ⟨_, _, by simp only [bslc, h, if_true, hc], hq⟩

/-! readings that are checked again -/
def chkO (o : Option V) (v : V) : Bool := match o with | some v' => vEq v' v | none => false
@[congr] theorem chkO_congr {o o' : Option V} {v : V} (h : o = o') : chkO o v = chkO o' v := by rw [h]
theorem ld1_eq (p : V) (H : Heap) : ld1 p H = match cellP H p with | some v => some (v, H) | none => none := by
  cases p <;> try rfl
  rename_i a
  cases a with
  | none => rfl
  | some a => obtain ⟨b, o, s⟩ := a; cases s <;> rfl
theorem chk_ld1 (p : V) (H : Heap) (v : V) : chk (ld1 p) H v = chkO (cellP H p) v := by
  unfold chk chkO
  rw [ld1_eq]
  cases cellP H p <;> rfl
@[simp] theorem chkO_int (k : IntKind) (n : Int) : chkO (some (.int k n)) (.int k n) = true := by simp [chkO, vEq]
@[simp] theorem chkO_bool (b : Bool) : chkO (some (.bool b)) (.bool b) = true := by simp [chkO, vEq]
@[simp] theorem chkO_str (s : ByteArray) : chkO (some (.string s)) (.string s) = true := by simp [chkO, vEq]
@[simp] theorem chkO_ptr (a : Option Addr) : chkO (some (.pointer a)) (.pointer a) = true := by simp [chkO, vEq]
@[simp] theorem chkO_slc (a : Option Addr) (n c : Nat) : chkO (some (.slice a n c)) (.slice a n c) = true := by simp [chkO, vEq]
@[simp] theorem chkO_map (a : Option Nat) : chkO (some (.map a)) (.map a) = true := by simp [chkO, vEq]
@[simp] theorem chk_ret (v : V) (H : Heap) : chk (ret v) H v = vEq v v := rfl

end Go.AM

/- Slices that one owns: elements of one cell. -/
namespace Go.AM

/-- blocks that were there are as they were, but those of S -/
structure Keeps (S : List Nat) (H H' : Heap) : Prop where
  next : H.next ≤ H'.next
  same : ∀ b, b < H.next → b ∉ S → H'.get b = H.get b

theorem Keeps.refl (S : List Nat) (H : Heap) : Keeps S H H := ⟨Nat.le_refl _, fun _ _ _ => rfl⟩
theorem Keeps.trans {S S' : List Nat} {H H1 H2 : Heap} (h : Keeps S H H1) (h' : Keeps S' H1 H2) (hs : ∀ b, b < H.next → b ∈ S' → b ∈ S) : Keeps S H H2 :=
  ⟨Nat.le_trans h.next h'.next, fun b hb hn => by rw [h'.same b (Nat.lt_of_lt_of_le hb h.next) (fun hi => hn (hs b hb hi)), h.same b hb hn]⟩
theorem Keeps.mono {S S' : List Nat} {H H1 : Heap} (h : Keeps S H H1) (hs : ∀ b, b ∈ S → b ∈ S') : Keeps S' H H1 := ⟨h.next, fun b hb hn => h.same b hb fun hi => hn (hs b hi)⟩
theorem Keeps.get {S : List Nat} {H H' : Heap} (h : Keeps S H H') {b : Nat} {x : Blk} (hb : H.get b = some x) (hn : b ∉ S) : H'.get b = some x := by
  rw [h.same b (Heap.get_lt hb) hn]; exact hb
theorem Keeps.push (S : List Nat) (H : Heap) (x : Option Blk) : Keeps S H (H.push x) := ⟨by simp, fun b hb _ => Heap.get_push_lt hb⟩
theorem Keeps.set {S : List Nat} {H : Heap} {b : Nat} {x : Option Blk} (h : b ∈ S) : Keeps S H (H.set b x) := ⟨by simp, fun c _ hn => Heap.get_set_ne _ _ _ fun e => hn (e ▸ h)⟩

/-- the block of a slice -/
def vb (v : V) : List Nat := match v with | .slice (some ⟨b, _, _⟩) _ _ => [b] | _ => []
@[simp] theorem vb_nil (n c : Nat) : vb (.slice none n c) = [] := rfl
@[simp] theorem vb_slc (b o u n c : Nat) : vb (slc b o u n c) = [b] := rfl

/-- an own slice with the elements l -/
def Own (H : Heap) (v : V) (l : List V) : Prop := (v = .slice none 0 0 ∧ l = []) ∨ ∃ b, v = slc b 0 1 l.length l.length ∧ H.get b = some (.cells true l)

theorem Own.nil (H : Heap) : Own H (.slice none 0 0) [] := .inl ⟨rfl, rfl⟩
theorem Own.keep {S : List Nat} {H H' : Heap} {v : V} {l : List V} (h : Own H v l) (hk : Keeps S H H') (hn : ∀ b ∈ vb v, b ∉ S) : Own H' v l := by
  rcases h with h | ⟨b, rfl, hb⟩
  · exact .inl h
  · exact .inr ⟨b, rfl, hk.get hb (hn b (by simp))⟩
theorem Own.len {H : Heap} {v : V} {l : List V} (h : Own H v l) : lenSlc v = some (i64 l.length) := by
  rcases h with ⟨rfl, rfl⟩ | ⟨b, rfl, hb⟩ <;> rfl
theorem Own.lt {H : Heap} {v : V} {l : List V} (h : Own H v l) : ∀ b ∈ vb v, b < H.next := by
  rcases h with ⟨rfl, rfl⟩ | ⟨b, rfl, hb⟩
  · simp
  · simpa using Heap.get_lt hb
theorem Own.idx {H : Heap} {v : V} {l : List V} (h : Own H v l) {k : IntKind} {i : Nat} (hi : i < l.length) : ∃ b, iaddrS 1 v (.int k i) = some (ptr b i) ∧ cellP H (ptr b i) = some l[i] := by
  rcases h with ⟨rfl, rfl⟩ | ⟨b, rfl, hb⟩
  · simp at hi
  · refine ⟨b, ?_, ?_⟩
    · rw [iaddrS_slc (by omega) (by omega)]; simp
    · rw [cellP_ptr hb]; simp [hi]

theorem wp_appV {v x : V} {l new : List V} {m bytes : Nat} {a : Option Addr} {c : Nat} {H : Heap} {Q : V → Heap → Prop} (hv : Own H v l) (hx : x = .slice a m c) (hc : cellsOfSlice H 1 x = some new) (hm : m ≠ 0) (hl : new.length = m) (hone : new.all Value.isOne = true)
    (hb : (l.length + m) * bytes ≤ 35184372088832) (hb2 : l.length + m ≤ 35184372088832) (hQ : ∀ b H', Own H' (slc b 0 1 (l ++ new).length (l ++ new).length) (l ++ new) → Keeps (vb v) H H' → b = H.next → H'.next = H.next + 1 → Q (slc b 0 1 (l ++ new).length (l ++ new).length) H') : wp (appV 1 bytes v x) Q H := by
  subst hx
  rcases hv with ⟨rfl, rfl⟩ | ⟨b, rfl, hg⟩
  · refine ⟨slc H.next 0 1 m m, H.push (some (.cells true new)), ?_, ?_⟩
    · have e1 : cellsOfSlice H 1 (.slice none 0 0) = some [] := rfl
      have e2 : giveUp H 1 (.slice none 0 0) = some H := rfl
      simp only [List.length_nil, Nat.zero_add] at hb hb2
      simp only [appV, appTo, hm, if_false, hc, e1, e2]
      rw [if_pos ⟨by rw [Nat.zero_add]; exact hb, by omega, hone, by omega⟩]
      simp
    · have := hQ H.next (H.push (some (.cells true new))) (.inr ⟨H.next, by simp, Heap.get_push_self _ _⟩) (Keeps.push _ _ _) rfl (by simp)
      simpa [hl] using this
  · refine ⟨slc H.next 0 1 (l.length + m) (l.length + m), (H.set b none).push (some (.cells true (l ++ new))), ?_, ?_⟩
    · have hcs : cellsOfSlice H 1 (slc b 0 1 l.length l.length) = some l := by
        simp only [cellsOfSlice]
        split
        · rename_i h0; rw [List.eq_nil_of_length_eq_zero h0]
        · simp [cellsAt, hg]
      simp only [appV, appTo, hm, if_false, hc, hcs, giveUp, hg, if_true]
      rw [if_pos ⟨hb, hb2, hone, by omega⟩]
      simp
    · have := hQ H.next ((H.set b none).push (some (.cells true (l ++ new)))) (.inr ⟨H.next, by simp, by have := Heap.get_push_self (H.set b none) (some (.cells true (l ++ new))); simpa using this⟩) ⟨by simp, fun c hc hn => by rw [Heap.get_push_lt (by simpa using hc), Heap.get_set_ne _ _ _ (by simpa using hn)]⟩ rfl (by simp)
      simpa [hl] using this

/-- append(v, x, y, ..) -/
theorem wp_app {v : V} {l new zero : List V} {parts : List (Nat × Nat × V)} {m bytes : Nat} {H : Heap} {Q : V → Heap → Prop} (hv : Own H v l) (hz : zero.all flatV = true) (hf : fillA zero parts = some new) (hm : m ≠ 0) (hl : new.length = m) (hone : new.all Value.isOne = true)
    (hb : (l.length + m) * bytes ≤ 35184372088832) (hb2 : l.length + m ≤ 35184372088832) (hQ : ∀ b H', Own H' (slc b 0 1 (l ++ new).length (l ++ new).length) (l ++ new) → Keeps (vb v) H H' → H.next ≤ b → Q (slc b 0 1 (l ++ new).length (l ++ new).length) H') :
    wp (bslc 1 m zero parts) (fun x H1 => wp (appV 1 bytes v x) Q H1) H := by
  refine (wp_bslc hz hf).mpr ?_
  have hk := Keeps.push [] H (some (.cells true new))
  refine wp_appV (hv.keep hk (by simp)) rfl ?_ hm hl hone hb hb2 fun b H' h1 h2 h3 h4 => hQ b H' h1 ?_ (by simp at h3; omega)
  · have := Heap.get_push_self H (some (.cells true new))
    simp [cellsOfSlice, hm, cellsAt, this, hl]
    rw [← hl, List.take_length]
  · exact ⟨by have := h2.next; simp at this; omega, fun c hc hn => by rw [h2.same c (by simp; omega) hn, Heap.get_push_lt hc]⟩

end Go.AM

/- Rules for walks: conditions that are told at once. -/
namespace Go.AM

section
variable {p : Prop} [Decidable p]
theorem condM_dt {a b : M Out} (h : p) : condM (.bool (decide p)) a b = a := by simp [h]
theorem condM_df {a b : M Out} (h : ¬ p) : condM (.bool (decide p)) a b = b := by simp [h]
theorem gd_dt {m : M V} (h : p) : gd (.bool (decide p)) true m = m := by simp [h]
theorem gd_df {m : M V} (h : ¬ p) : gd (.bool (decide p)) true m = ret skipV := by simp [h]
theorem gdf_dt {m : M V} (h : p) : gd (.bool (decide p)) false m = ret skipV := by simp [h]
theorem gdf_df {m : M V} (h : ¬ p) : gd (.bool (decide p)) false m = m := by simp [h]
theorem pick_dt {x y : V} (h : p) : pickV (.bool (decide p)) x y = some x := by simp [h]
theorem pick_df {x y : V} (h : ¬ p) : pickV (.bool (decide p)) x y = some y := by simp [h]
theorem not_dec : un .not (.bool (decide p)) = some (.bool (decide (¬ p))) := by simp [un]
end
theorem condM_t (a b : M Out) : condM (.bool true) a b = a := rfl
theorem condM_f (a b : M Out) : condM (.bool false) a b = b := rfl
theorem gd_t (m : M V) : gd (.bool true) true m = m := rfl
theorem gd_f (m : M V) : gd (.bool false) true m = ret skipV := rfl
theorem gdf_t (m : M V) : gd (.bool true) false m = ret skipV := rfl
theorem gdf_f (m : M V) : gd (.bool false) false m = m := rfl
theorem pick_t (x y : V) : pickV (.bool true) x y = some x := rfl
theorem pick_f (x y : V) : pickV (.bool false) x y = some y := rfl
theorem not_t : un .not (.bool true) = some (.bool false) := rfl
theorem not_f : un .not (.bool false) = some (.bool true) := rfl
theorem int_eqd (k : IntKind) (x y : Int) : bin .eql (.int k x) (.int k y) = some (.bool (decide (x = y))) := by
  simp [bin, ibin, BEq.beq]
theorem int_ned (k : IntKind) (x y : Int) : bin .neq (.int k x) (.int k y) = some (.bool (decide (x ≠ y))) := by
  simp [bin, ibin, bne, BEq.beq]
theorem str_eqd (x y : ByteArray) : bin .eql (.string x) (.string y) = some (.bool (decide (x = y))) := rfl
theorem str_ned (x y : ByteArray) : bin .neq (.string x) (.string y) = some (.bool (decide (x ≠ y))) := by simp [bin, sbin]
theorem isNil_p (a : Option Addr) (n : Bool) : notIf n (isNil .p (.pointer a)) = some (.bool (if n then !a.isNone else a.isNone)) := rfl
@[simp] theorem isNil_ptr (b o : Nat) : notIf false (isNil .p (ptr b o)) = some (.bool false) := rfl
@[simp] theorem isNil_ptr' (b o : Nat) : notIf true (isNil .p (ptr b o)) = some (.bool true) := rfl
@[simp] theorem isNil_pnil : notIf false (isNil .p (.pointer none)) = some (.bool true) := rfl
@[simp] theorem isNil_pnil' : notIf true (isNil .p (.pointer none)) = some (.bool false) := rfl
end Go.AM

/- Strings and their bytes. -/
namespace Go.AM

/-- a string's bytes -/
def bv (s : ByteArray) : List (BitVec 8) := s.data.toList.map UInt8.toBitVec
/-- bytes as a string -/
def sv (l : List (BitVec 8)) : ByteArray := ⟨(l.map UInt8.ofBitVec).toArray⟩
theorem bv_length (s : ByteArray) : (bv s).length = s.size := by simp only [bv, List.length_map, Array.length_toList]; rfl
theorem bv_append (s t : ByteArray) : bv (s ++ t) = bv s ++ bv t := by
  have h : (s ++ t).data = s.data ++ t.data := ByteArray.data_append
  simp only [bv, h, Array.toList_append, List.map_append]
theorem size_append (s t : ByteArray) : (s ++ t).size = s.size + t.size := by rw [← bv_length, bv_append, List.length_append, bv_length, bv_length]
theorem int_quo {k : IntKind} {x y : Int} (h : y ≠ 0) : bin .quo (.int k x) (.int k y) = some (.int k (k.wrap (x.tdiv y))) := by simp [bin, ibin, h]
theorem cvi_int (k k' : IntKind) (n : Int) : cvi k (.int k' n) = some (.int k (k.wrap n)) := rfl
end Go.AM

/- Slices of things that lie flat in cells. -/
namespace Go.AM

class Flat (α : Type) where
  size : Nat
  enc : α → List V
  len : ∀ a, (enc a).length = size
  one : ∀ a, (enc a).all Value.isOne = true
  pos : 0 < size


instance : Flat Int := ⟨1, fun n => [i64 n], fun _ => rfl, fun _ => rfl, by decide⟩
instance : Flat ByteArray := ⟨1, fun s => [.string s], fun _ => rfl, fun _ => rfl, by decide⟩
instance : Flat (BitVec 8) := ⟨1, fun b => [B b], fun _ => rfl, fun _ => rfl, by decide⟩
instance : Flat Bool := ⟨1, fun b => [.bool b], fun _ => rfl, fun _ => rfl, by decide⟩

theorem enc_int (n : Int) : Flat.enc n = [i64 n] := rfl
theorem enc_str (s : ByteArray) : Flat.enc s = [.string s] := rfl
theorem enc_byte (b : BitVec 8) : Flat.enc b = [B b] := rfl
theorem enc_bool (b : Bool) : Flat.enc b = [.bool b] := rfl
variable {α : Type} [Flat α]
def encs (xs : List α) : List V := xs.flatMap Flat.enc
theorem encs_cons (x : α) (xs : List α) : encs (x :: xs) = Flat.enc x ++ encs xs := rfl
theorem encs_append (xs ys : List α) : encs (xs ++ ys) = encs xs ++ encs ys := by simp [encs]
theorem encs_length (xs : List α) : (encs xs).length = xs.length * Flat.size α := by
  induction xs with
  | nil => simp [encs]
  | cons x xs ih => rw [encs_cons, List.length_append, ih, Flat.len, List.length_cons, Nat.add_mul]; omega
theorem encs_one (xs : List α) : (encs xs).all Value.isOne = true := by
  induction xs with
  | nil => rfl
  | cons x xs ih => rw [encs_cons, List.all_append, ih, Flat.one]; rfl
theorem encs_drop (xs : List α) : ∀ i, (encs xs).drop (i * Flat.size α) = encs (xs.drop i) := by
  induction xs with
  | nil => intro i; simp [encs]
  | cons x xs ih =>
    intro i
    cases i with
    | zero => simp
    | succ i =>
      rw [encs_cons, Nat.add_mul, Nat.one_mul, Nat.add_comm, ← List.drop_drop]
      rw [List.drop_append_of_le_length (by rw [Flat.len]; exact Nat.le_refl _)]
      rw [show (Flat.enc x).drop (Flat.size α) = [] from List.drop_eq_nil_of_le (by rw [Flat.len]; exact Nat.le_refl _)]
      exact ih i
theorem encs_set (xs : List α) : ∀ (i off : Nat) (v : V) (x' : α) (d : α), i < xs.length → off < Flat.size α → Flat.enc x' = (Flat.enc (xs.getD i d)).set off v → (encs xs).set (i * Flat.size α + off) v = encs (xs.set i x') := by
  induction xs with
  | nil => intro i off v x' d hi; simp at hi
  | cons x xs ih =>
    intro i off v x' d hi ho hx
    cases i with
    | zero =>
      rw [encs_cons, Nat.zero_mul, Nat.zero_add, List.set_append_left _ _ (by rw [Flat.len]; exact ho), List.set_cons_zero, encs_cons, hx]
      rfl
    | succ i =>
      rw [encs_cons, List.set_append_right _ _ (by rw [Flat.len, Nat.add_mul]; omega), Flat.len, List.set_cons_succ, encs_cons]
      congr 1
      have : (i + 1) * Flat.size α + off - Flat.size α = i * Flat.size α + off := by rw [Nat.add_mul]; omega
      rw [this]
      exact ih i off v x' d (by simpa using hi) ho hx
theorem encs_get (xs : List α) (i off : Nat) (d : α) (hi : i < xs.length) (ho : off < Flat.size α) : (encs xs)[i * Flat.size α + off]? = (Flat.enc (xs.getD i d))[off]? := by
  induction xs generalizing i with
  | nil => simp at hi
  | cons x xs ih =>
    cases i with
    | zero =>
      rw [encs_cons, Nat.zero_mul, Nat.zero_add, List.getElem?_append_left (by rw [Flat.len]; exact ho)]
      rfl
    | succ i =>
      rw [encs_cons, List.getElem?_append_right (by rw [Flat.len, Nat.add_mul]; omega), Flat.len]
      have : (i + 1) * Flat.size α + off - Flat.size α = i * Flat.size α + off := by rw [Nat.add_mul]; omega
      rw [this, ih i (by simpa using hi)]
      rfl

/-- where a slice lies -/
def slB : V → Nat | .slice (some a) _ _ => a.block | _ => 0
def slO : V → Nat | .slice (some a) _ _ => a.off | _ => 0

/-- a slice whose elements are xs, in a block that may be looked at -/
def Sl (H : Heap) (v : V) (xs : List α) : Prop := (v = .slice none 0 0 ∧ xs = []) ∨ ∃ b o u c, v = slc b o u xs.length c ∧ xs.length ≤ c ∧ b < H.next ∧ (xs = [] ∨ ∃ rw cs, H.get b = some (.cells rw cs) ∧ o + xs.length * Flat.size α ≤ cs.length ∧ (cs.drop o).take (xs.length * Flat.size α) = encs xs) ∧ (u = 0 ∨ u = Flat.size α)

theorem Sl.nil (H : Heap) : Sl H (.slice none 0 0) ([] : List α) := .inl ⟨rfl, rfl⟩
theorem Sl.keep {S : List Nat} {H H' : Heap} {v : V} {l : List α} (h : Sl H v l) (hk : Keeps S H H') (hn : ∀ b ∈ vb v, b ∉ S) : Sl H' v l := by
  rcases h with h | ⟨b, o, u, c, rfl, hc, hb, hl, hu⟩
  · exact .inl h
  · refine .inr ⟨b, o, u, c, rfl, hc, Nat.lt_of_lt_of_le hb hk.next, ?_, hu⟩
    rcases hl with hl | ⟨rw, cs, h1, h2⟩
    · exact .inl hl
    · exact .inr ⟨rw, cs, hk.get h1 (hn b (by simp)), h2⟩
theorem Sl.keep0 {H H' : Heap} {v : V} {l : List α} (h : Sl H v l) (hk : Keeps [] H H') : Sl H' v l := h.keep hk (by simp)
theorem Sl.len {H : Heap} {v : V} {l : List α} (h : Sl H v l) : lenSlc v = some (i64 l.length) := by
  rcases h with ⟨rfl, rfl⟩ | ⟨b, o, u, c, rfl, _⟩ <;> rfl
theorem Sl.lt {H : Heap} {v : V} {l : List α} (h : Sl H v l) : ∀ b ∈ vb v, b < H.next := by
  rcases h with ⟨rfl, rfl⟩ | ⟨b, o, u, c, rfl, hc, hb, hl⟩
  · simp
  · simpa using hb
theorem Sl.isOne {H : Heap} {v : V} {l : List α} (h : Sl H v l) : v.isOne = true := by
  rcases h with ⟨rfl, rfl⟩ | ⟨b, o, u, c, rfl, _⟩ <;> rfl
theorem Sl.addr {H : Heap} {v : V} {l : List α} (h : Sl H v l) {k : IntKind} {i : Int} (h0 : 0 ≤ i) (hi : i < l.length) : iaddrS (Flat.size α) v (.int k i) = some (ptr (slB v) (slO v + i.toNat * Flat.size α)) := by
  rcases h with ⟨rfl, rfl⟩ | ⟨b, o, u, c, rfl, _⟩
  · simp at hi; omega
  · exact iaddrS_slc h0 hi
theorem enc_at (cs : List V) (xs : List α) (o i : Nat) (hi : i < xs.length) (d : α) (hl : (cs.drop o).take (xs.length * Flat.size α) = encs xs) : (cs.drop (o + i * Flat.size α)).take (Flat.size α) = Flat.enc (xs.getD i d) := by
  have e1 : ((encs xs).drop (i * Flat.size α)).take (Flat.size α) = Flat.enc (xs.getD i d) := by
    rw [encs_drop]
    have : xs.drop i = xs.getD i d :: xs.drop (i + 1) := by
      rw [List.getD_eq_getElem?_getD, List.getElem?_eq_getElem hi]
      exact List.drop_eq_getElem_cons hi
    rw [this, encs_cons, List.take_append_of_le_length (by rw [Flat.len]; exact Nat.le_refl _), List.take_of_length_le (by rw [Flat.len]; exact Nat.le_refl _)]
  rw [← e1, ← hl, List.drop_take, List.take_take, List.drop_drop]
  congr 1
  have : (i + 1) * Flat.size α ≤ xs.length * Flat.size α := Nat.mul_le_mul_right _ hi
  rw [Nat.add_mul] at this
  omega
theorem Sl.ldn {H : Heap} {v : V} {l : List α} (h : Sl H v l) {i : Nat} (hi : i < l.length) (d : α) {Q : V → Heap → Prop} : wp (ldn (Flat.size α) (ptr (slB v) (slO v + i * Flat.size α))) Q H ↔ Q (.agg (Flat.enc (l.getD i d)).toArray) H := by
  rcases h with ⟨rfl, rfl⟩ | ⟨b, o, u, c, rfl, hc, _, hl, _⟩
  · simp at hi
  · rcases hl with rfl | ⟨rw, cs, hb, hl1, hl2⟩
    · simp at hi
    · have h1 : (i + 1) * Flat.size α ≤ l.length * Flat.size α := Nat.mul_le_mul_right _ hi
      rw [Nat.add_mul] at h1
      show wp (Go.AM.ldn _ (ptr b (o + i * Flat.size α))) Q H ↔ _
      rw [wp_ldn hb (by omega), enc_at cs l o i hi d hl2]
theorem Sl.cell {H : Heap} {v : V} {l : List α} (h : Sl H v l) {i off : Nat} (hi : i < l.length) (ho : off < Flat.size α) (d : α) : cellP H (ptr (slB v) (slO v + i * Flat.size α + off)) = (Flat.enc (l.getD i d))[off]? := by
  rcases h with ⟨rfl, rfl⟩ | ⟨b, o, u, c, rfl, hc, _, hl, _⟩
  · simp at hi
  · rcases hl with rfl | ⟨rw, cs, hb, hl1, hl2⟩
    · simp at hi
    · show cellP H (ptr b (o + i * Flat.size α + off)) = _
      rw [cellP_ptr hb, ← enc_at cs l o i hi d hl2, List.getElem?_take, if_pos ho, List.getElem?_drop]
theorem Sl.addr' {H : Heap} {v : V} {l : List α} (h : Sl H v l) {n : Nat} (hs : Flat.size α = n) {k : IntKind} {i : Int} (h0 : 0 ≤ i) (hi : i < l.length) : iaddrS n v (.int k i) = some (ptr (slB v) (slO v + i.toNat * n)) := by subst hs; exact h.addr h0 hi
theorem Sl.ldn' {H : Heap} {v : V} {l : List α} (h : Sl H v l) {n : Nat} (hs : Flat.size α = n) {i : Nat} (hi : i < l.length) (d : α) {Q : V → Heap → Prop} : wp (Go.AM.ldn n (ptr (slB v) (slO v + i * n))) Q H ↔ Q (.agg (Flat.enc (l.getD i d)).toArray) H := by subst hs; exact h.ldn hi d
theorem Sl.cell' {H : Heap} {v : V} {l : List α} (h : Sl H v l) {n : Nat} (hs : Flat.size α = n) {i off : Nat} (hi : i < l.length) (ho : off < n) (d : α) : cellP H (ptr (slB v) (slO v + i * n + off)) = (Flat.enc (l.getD i d))[off]? := by subst hs; exact h.cell hi ho d
theorem Sl.addr1 {H : Heap} {v : V} {l : List α} (h : Sl H v l) (hs : Flat.size α = 1) {k : IntKind} {i : Int} (h0 : 0 ≤ i) (hi : i < l.length) : iaddrS 1 v (.int k i) = some (ptr (slB v) (slO v + i.toNat)) := by
  have := h.addr (k := k) h0 hi
  rw [hs, Nat.mul_one] at this
  exact this
theorem Sl.cell1 {H : Heap} {v : V} {l : List α} (h : Sl H v l) (hs : Flat.size α = 1) {i : Nat} (hi : i < l.length) (d : α) : cellP H (ptr (slB v) (slO v + i)) = (Flat.enc (l.getD i d))[0]? := by
  have := h.cell (off := 0) hi (by omega) d
  rw [hs, Nat.mul_one, Nat.add_zero] at this
  exact this
theorem Own.sl {H : Heap} {v : V} {l : List α} (hs : Flat.size α = 1) (h : Own H v (encs l)) : Sl H v l := by
  rcases h with ⟨rfl, hl⟩ | ⟨b, rfl, hb⟩
  · refine .inl ⟨rfl, ?_⟩
    have := congrArg List.length hl
    rw [encs_length, hs] at this
    exact List.eq_nil_of_length_eq_zero (by simpa using this)
  · have e : (encs l).length = l.length := by rw [encs_length, hs, Nat.mul_one]
    refine .inr ⟨b, 0, 1, l.length, by rw [e], Nat.le_refl _, Heap.get_lt hb, .inr ⟨true, encs l, hb, by rw [encs_length]; omega, ?_⟩, .inr hs.symm⟩
    rw [List.drop_zero, List.take_of_length_le (by rw [encs_length]; exact Nat.le_refl _)]
end Go.AM
