import Derived.Test.YtjchglndancedaaGreatDoorAmBase
import Derived.IntWalk
set_option linter.all false
/- How runs on the abstract machine are told. -/
namespace Go.AM
def wp {α : Type} (m : M α) (Q : α → Heap → Prop) (H : Heap) : Prop := ∃ a H', m H = some (a, H') ∧ Q a H'
variable {α β : Type} {Q : α → Heap → Prop} {H : Heap}
theorem z6r {m : M α} {Q' : α → Heap → Prop} (h : wp m Q H) (hq : ∀ a H', Q a H' → Q' a H') : wp m Q' H := by
  obtain ⟨a, H', h1, h2⟩ := h; exact ⟨a, H', h1, hq a H' h2⟩
@[simp] theorem wp_ret (a : α) : wp (ret a) Q H ↔ Q a H := ⟨fun ⟨_, _, h1, h2⟩ => by cases h1; exact h2, fun h => ⟨a, H, rfl, h⟩⟩
@[simp] theorem zcc {m : M β} {k : β → M α} : wp (zb m k) Q H ↔ wp m (fun b H' => wp (k b) Q H') H := by
  constructor
  · rintro ⟨a, H', h1, h2⟩
    obtain ⟨b, H1, h3, h4⟩ := bnd_inv' h1
    exact ⟨b, H1, h3, a, H', h4, h2⟩
  · rintro ⟨b, H1, h3, a, H', h4, h2⟩
    exact ⟨a, H', by simp [zb, h3, h4], h2⟩
where
  bnd_inv' {m : M β} {k : β → M α} {r : α} {H' : Heap} (h : zb m k H = some (r, H')) : ∃ b H1, m H = some (b, H1) ∧ k b H1 = some (r, H') := by
    unfold zb at h
    split at h
    · rename_i b H1 hm; exact ⟨b, H1, hm, h⟩
    · cases h
def wpO (o : Option α) (Q : α → Prop) : Prop := ∃ a, o = some a ∧ Q a
@[simp] theorem zvd (a : α) (Q : α → Prop) : wpO (some a) Q ↔ Q a := by simp [wpO]
@[simp] theorem zbup (Q : α → Prop) : wpO none Q ↔ False := by simp [wpO]
@[congr] theorem zbub {o o' : Option α} {Q : α → Prop} (h : o = o') : wpO o Q = wpO o' Q := by rw [h]
@[congr] theorem zbuq {m m' : M α} {Q : α → Heap → Prop} {H : Heap} (h : m = m') : wp m Q H = wp m' Q H := by rw [h]
@[congr] theorem zbuc {m m' : M β} {k : β → M α} (h : m = m') : zb m k = zb m' k := by rw [h]
@[congr] theorem zbti {R : Type} {m m' : M V} {k : Heap → V → Heap → M R} (h : m = m') : zgn m k = zgn m' k := by rw [h]
@[congr] theorem zbtj {b b' : Bool} {m : M α} (h : b = b') : zqr b m = zqr b' m := by rw [h]
@[congr] theorem zbss {c c' : V} {m1 m2 : M Out} (h : c = c') : zbv c m1 m2 = zbv c' m1 m2 := by rw [h]
@[congr] theorem zbur {g g' : V} {b : Bool} {m : M V} (h : g = g') : gd g b m = gd g' b m := by rw [h]
@[congr] theorem zbus {o o' : Out} {k : List V → M Out} (h : o = o') : nx o k = nx o' k := by rw [h]
@[congr] theorem zbtk {o o' : Out} {k : List V → M V} (h : o = o') : zcp o k = zcp o' k := by rw [h]
@[congr] theorem zbst {n : Nat} {body : List V → M Out} {vs vs' : List V} (h : vs = vs') : zc7 n body vs = zc7 n body vs' := by rw [h]
@[simp] theorem zzp (o : Option α) : wp (za o) Q H ↔ wpO o fun a => Q a H := by
  unfold wpO
  cases o with
  | none => simp [wp, za]
  | some a => exact ⟨fun ⟨_, _, h1, h2⟩ => by cases h1; exact ⟨_, rfl, h2⟩, fun ⟨_, h1, h2⟩ => by cases h1; exact ⟨_, _, rfl, h2⟩⟩
@[simp] theorem zbvd : wp (fail : M α) Q H ↔ False := by simp [wp, fail]
@[simp] theorem zblq (m : M α) : wp (zqr true m) Q H ↔ wp m Q H := by simp [wp, zqr]
@[simp] theorem zbtl (m1 m2 : M Out) : zbv (.bool true) m1 m2 = m1 := rfl
@[simp] theorem zbsu (m1 m2 : M Out) : zbv (.bool false) m1 m2 = m2 := rfl
@[simp] theorem zblr {R : Type} {m : M V} {k : Heap → V → Heap → M R} {Q : R → Heap → Prop} : wp (zgn m k) Q H ↔ wp m (fun v H' => wp (k H v H') Q H') H := by
  constructor
  · rintro ⟨a, H', h1, h2⟩
    unfold zgn at h1
    split at h1
    · rename_i b H1 hm; exact ⟨b, H1, hm, a, H', h1, h2⟩
    · cases h1
  · rintro ⟨b, H1, h3, a, H', h4, h2⟩
    exact ⟨a, H', by simp [zgn, h3, h4], h2⟩
@[simp] theorem zbib {R : Type} {k : Heap → M R} {Q : R → Heap → Prop} : wp (zr6 k) Q H ↔ wp (k H) Q H := by simp [zr6, wp]
@[simp] theorem z1c {R : Type} {n : Nat} {k : Nat → Heap → M R} {Q : R → Heap → Prop} : wp (z1b n k) Q H ↔ wp (k H.next (zt9 H n)) Q (zt9 H n) := by simp [z1b, wp]
@[simp] theorem zbve (b : Bool) (m : M V) : gd (.bool b) true m = if b then m else ret zqu := by cases b <;> simp [gd]
@[simp] theorem zbut (b : Bool) (m : M V) : gd (.bool b) false m = if b then ret zqu else m := by cases b <;> simp [gd]
@[simp] theorem zbls (b : Bool) (m : M V) : gd zqu b m = ret zqu := rfl
@[simp] theorem zbpb (vs : List V) (k : List V → M Out) : nx (.nxt vs) k = k vs := rfl
@[simp] theorem zbpc (i : Nat) (vs : List V) (k : List V → M Out) : nx (.brk i vs) k = ret (.brk i vs) := rfl
@[simp] theorem zbpd (vs : List V) (k : List V → M Out) : nx (.ret vs) k = ret (.ret vs) := rfl
@[simp] theorem zbeu (i : Nat) (vs : List V) : zb9 i (.nxt vs) = .nxt vs := rfl
@[simp] theorem zbev (i : Nat) (vs : List V) : zb9 i (.ret vs) = .ret vs := rfl
@[simp] theorem zbew (i j : Nat) (vs : List V) : zb9 i (.brk j vs) = if j = i then .nxt vs else .brk j vs := by
  simp only [zb9]
  by_cases h : j = i
  · subst h; simp
  · rw [zbep h]; simp [h]
@[simp] theorem zbic (vs : List V) (k : List V → M V) : zcp (.nxt vs) k = k vs := rfl
@[simp] theorem zbid (vs : List V) (k : List V → M V) : zcp (.ret vs) k = k vs := rfl
@[simp] theorem zbf2 (v : V) (vs : List V) : zc (v :: vs) 0 = v := rfl
@[simp] theorem zbf3 (v : V) (vs : List V) (i : Nat) : zc (v :: vs) (i + 1) = zc vs i := by simp [zc]
@[simp] theorem zbie (v : V) : zcm [v] = v := rfl
theorem zpi {body : List V → M Out} {vs : List V} {Q : Out → Heap → Prop} (Inv : Nat → List V → Heap → Prop) {n : Nat} (hn : n < zem) (h0 : Inv n vs H)
    (hstep : ∀ k vs H, Inv k vs H → wp (body vs) (fun o H' => match o with | .nxt vs' => ∃ k', k' < k ∧ Inv k' vs' H' | o => Q o H') H) : wp (zc7 zem body vs) Q H := by
  have key : ∀ m k vs H, k < m → Inv k vs H → wp (zc7 m body vs) Q H := by
    intro m
    induction m with
    | zero => intro k vs H h; omega
    | succ m ih =>
      intro k vs H hk hi
      simp only [zc7, zcc]
      refine z6r (hstep k vs H hi) fun o H' ho => ?_
      cases o with
      | nxt vs' => obtain ⟨k', h1, h2⟩ := ho; exact ih k' vs' H' (by omega) h2
      | brk i vs' => simpa using ho
      | ret vs' => simpa using ho
  exact key zem n vs H hn h0
abbrev W (x : BitVec 64) : V := .int .u64 x.toNat
abbrev B (x : BitVec 8) : V := .int .u8 x.toNat
abbrev str (s : ByteArray) : V := .string s
theorem zbsv (n : Int) : IntKind.u64.wrap n = ((BitVec.ofInt 64 n).toNat : Int) := by rw [IntKind.wrap_u64]; simp [BitVec.toNat_ofInt]; omega
theorem zbuu (n : Int) : IntKind.u8.wrap n = ((BitVec.ofInt 8 n).toNat : Int) := by rw [IntKind.wrap_u8]; simp [BitVec.toNat_ofInt]; omega
theorem z8v (n : Nat) (m : Nat) : BitVec.ofInt n (m : Int) = BitVec.ofNat n m := BitVec.ofInt_natCast n m
@[simp] theorem zbvf (x y : BitVec 64) : bin .mul (W x) (W y) = some (W (x * y)) := by
  simp [bin, z8e, zbsv, ← Int.natCast_mul, z8v]
@[simp] theorem zbvr (x : BitVec 64) : cvi .u8 (W x) = some (B (x.setWidth 8)) := by
  simp [cvi, zbuu, z8v]
@[simp] theorem zbvg (x : Nat) : cvi .u64 (i64 x) = some (W (BitVec.ofNat 64 x)) := by
  simp [cvi, zbsv, z8v]
@[simp] theorem zbvs (x : BitVec 8) : cvi .i64 (B x) = some (i64 x.toNat) := by
  have := x.isLt
  simp only [cvi]; rw [IntWalk.i64_in _ ⟨by omega, by omega⟩]
theorem i64_in {n : Int} (h0 : -9223372036854775808 ≤ n) (h1 : n ≤ 9223372036854775807) : IntKind.i64.wrap n = n := IntWalk.i64_in n ⟨h0, h1⟩
@[simp] theorem zblt (x y : Int) : bin .add (i64 x) (i64 y) = some (i64 (IntKind.i64.wrap (x + y))) := rfl
@[simp] theorem zblu (x y : Int) : bin .sub (i64 x) (i64 y) = some (i64 (IntKind.i64.wrap (x - y))) := rfl
@[simp] theorem zblv (x y : Int) : bin .mul (i64 x) (i64 y) = some (i64 (IntKind.i64.wrap (x * y))) := rfl
@[simp] theorem zbvh (k : IntKind) (x y : Int) : bin .eql (.int k x) (.int k y) = some (.bool (x == y)) := by simp [bin, z8e]
@[simp] theorem zbvi (k : IntKind) (x y : Int) : bin .neq (.int k x) (.int k y) = some (.bool (x != y)) := by simp [bin, z8e]
@[simp] theorem zblw (k : IntKind) (x y : Int) : bin .lss (.int k x) (.int k y) = some (.bool (decide (x < y))) := by simp [bin, z8e]
@[simp] theorem zblx (k : IntKind) (x y : Int) : bin .leq (.int k x) (.int k y) = some (.bool (decide (x ≤ y))) := by simp [bin, z8e]
@[simp] theorem zbly (k : IntKind) (x y : Int) : bin .gtr (.int k x) (.int k y) = some (.bool (decide (x > y))) := by simp [bin, z8e]
@[simp] theorem zblz (k : IntKind) (x y : Int) : bin .geq (.int k x) (.int k y) = some (.bool (decide (x ≥ y))) := by simp [bin, z8e]
@[simp] theorem zbvj (x y : ByteArray) : bin .eql (.string x) (.string y) = some (.bool (decide (x = y))) := rfl
@[simp] theorem zbvk (x y : ByteArray) : bin .neq (.string x) (.string y) = some (.bool (!decide (x = y))) := rfl
theorem z6s {x y : ByteArray} (h : x.size + y.size ≤ 4611686018427387904) : bin .add (.string x) (.string y) = some (.string (x ++ y)) := by simp [bin, sbin, h]
@[simp] theorem zbud (b : Bool) (x y : V) : zcd (.bool b) x y = some (if b then x else y) := by cases b <;> rfl
@[simp] theorem zbuv (b : Bool) : un .not (.bool b) = some (.bool (!b)) := rfl
namespace Heap
@[simp] theorem get_push_self (H : Heap) (x : Option Blk) : (H.push x).get H.next = x := by
  rw [Heap.get_push]; simp
theorem get_push_lt {H : Heap} {x : Option Blk} {b : Nat} (h : b < H.next) : (H.push x).get b = H.get b := by
  rw [Heap.get_push, if_neg (by omega)]
@[simp] theorem next_push' (H : Heap) (x : Option Blk) : (H.push x).next = H.next + 1 := Heap.next_push H x
@[simp] theorem next_set' (H : Heap) (b : Nat) (x : Option Blk) : (H.set b x).next = H.next := Heap.next_set H b x
theorem get_set_self {H : Heap} {b : Nat} {x : Option Blk} (h : b < H.next) : (H.set b x).get b = x := by
  rw [Heap.get_set H b x _ h]; simp
theorem zyq (H : Heap) (b : Nat) (x : Option Blk) (c : Nat) : (H.set b x).get c = if c = b ∧ b < H.next then x else H.get c := BT.get_set b x c H.ok
@[simp] theorem set_set (H : Heap) (b : Nat) (x y : Option Blk) : (H.set b x).set b y = H.set b y := by
  refine Heap.same rfl fun c _ => ?_
  rw [zyq, zyq, zyq, show (H.set b x).next = H.next from rfl]
  by_cases h : c = b ∧ b < H.next
  · rw [if_pos h, if_pos h]
  · rw [if_neg h, if_neg h, if_neg h]
end Heap
def zsx (H : Heap) (p : V) : Option V := match p with | .pointer (some ⟨b, o, none⟩) => H.cell b o | _ => none
@[simp] theorem zbpe (p : V) {Q : V → Heap → Prop} : wp (ld1 p) Q H ↔ wpO (zsx H p) fun v => Q v H := by
  unfold wp wpO ld1 zsx
  constructor
  · rintro ⟨a, H', h1, h2⟩
    split at h1
    · split at h1
      · rename_i v hc; cases h1; exact ⟨_, hc, h2⟩
      · cases h1
    · cases h1
  · rintro ⟨a, h1, h2⟩
    split at h1
    · exact ⟨a, H, by simp [h1], h2⟩
    · cases h1
theorem z8w {b o : Nat} {rw : Bool} {cs : List V} (h : H.get b = some (.cells rw cs)) : zsx H (ptr b o) = cs[o]? := by simp [zsx, Heap.cell, h]
theorem z45 {b o u len cap size : Nat} {k : IntKind} {i : Int} (h0 : 0 ≤ i) (h1 : i < len) : zb5 size (slc b o u len cap) (.int k i) = some (ptr b (o + i.toNat * size)) := by simp [zb5, h0, h1]
theorem zbbu {b o n size : Nat} {k : IntKind} {i : Int} (h0 : 0 ≤ i) (h1 : i < n) : zxj n size (ptr b o) (.int k i) = some (ptr b (o + i.toNat * size)) := by simp [zxj, h0, h1]
@[simp] theorem zbex (b o off : Nat) : z6 off (ptr b o) = some (ptr b (o + off)) := rfl
@[simp] theorem zbey (b o : Nat) : zez (ptr b o) = some (ptr b o) := rfl
@[simp] theorem zq (k : IntKind) (n : Int) : (Value.int k n).isOne = true := rfl
@[simp] theorem zr (s : ByteArray) : (Value.string s).isOne = true := rfl
@[simp] theorem zh (b : Bool) : (Value.bool b).isOne = true := rfl
@[simp] theorem ze (a : Option Addr) (n c : Nat) : (Value.slice a n c).isOne = true := rfl
@[simp] theorem zd (a : Option Addr) : (Value.pointer a).isOne = true := rfl
@[simp] theorem zt (a : Option Nat) : (Value.map a).isOne = true := rfl
theorem zbpf {b o : Nat} {cs : List V} {v : V} (h : H.get b = some (.cells true cs)) (hv : v.isOne = true) (ho : o < cs.length) {Q : V → Heap → Prop} :
    wp (st1 (ptr b o) v) Q H ↔ Q undef (H.set b (some (.cells true (cs.set o v)))) := by
  constructor
  · rintro ⟨a, H', h1, h2⟩
    simp [st1, h, hv, ho] at h1
    obtain ⟨rfl, rfl⟩ := h1; exact h2
  · intro hq; exact ⟨_, _, by simp [st1, h, hv, ho], hq⟩
theorem zbpg {b o n : Nat} {rw : Bool} {cs : List V} (h : H.get b = some (.cells rw cs)) (ho : o + n ≤ cs.length) {Q : V → Heap → Prop} :
    wp (ldn n (ptr b o)) Q H ↔ Q (.agg ((cs.drop o).take n).toArray) H := by
  constructor
  · rintro ⟨a, H', h1, h2⟩
    simp [ldn, cellsAt, h, ho] at h1
    obtain ⟨rfl, rfl⟩ := h1; exact h2
  · intro hq; exact ⟨_, _, by simp [ldn, cellsAt, h, ho], hq⟩
theorem zzq {cs : List V} (h : cs.all ziq = true) {Q : V → Heap → Prop} : wp (newc cs) Q H ↔ Q (ptr H.next 0) (H.push (some (.cells true cs))) := by
  constructor
  · rintro ⟨a, H', h1, h2⟩
    simp only [newc, h, if_true] at h1
    cases h1; exact h2
  · intro hq; exact ⟨_, _, by simp only [newc, h, if_true], hq⟩
@[simp] theorem zbif {Q : V → Heap → Prop} : wp zu4 Q H ↔ Q (.map (some H.next)) (H.push (some (.map true []))) :=
  ⟨fun ⟨_, _, h1, h2⟩ => by cases h1; exact h2, fun h => ⟨_, _, rfl, h⟩⟩
@[simp] theorem z6t (a : Option Addr) (n c : Nat) : zb4 (.slice a n c) = some (i64 n) := rfl
@[simp] theorem zbbv (s : ByteArray) : zhc (.string s) = some (i64 s.size) := rfl
@[simp] theorem zbig (s : ByteArray) : strV (.string s) = some (.string s) := rfl
theorem zub {size len : Nat} {zero cs : List V} {parts : List (Nat × Nat × V)} (h : zero.all ziq = true) (hc : zdm zero parts = some cs) {Q : V → Heap → Prop} :
    wp (zjx size len zero parts) Q H ↔ Q (slc H.next 0 size len len) (H.push (some (.cells true cs))) := by
  constructor
  · rintro ⟨a, H', h1, h2⟩
    simp only [zjx, h, if_true, hc] at h1
    cases h1; exact h2
  · intro hq; exact ⟨_, _, by simp only [zjx, h, if_true, hc], hq⟩
def zlk (o : Option V) (v : V) : Bool := match o with | some v' => vEq v' v | none => false
@[congr] theorem zbtm {o o' : Option V} {v : V} (h : o = o') : zlk o v = zlk o' v := by rw [h]
theorem zbtn (p : V) (H : Heap) : ld1 p H = match zsx H p with | some v => some (v, H) | none => none := by
  cases p <;> try rfl
  rename_i a
  cases a with
  | none => rfl
  | some a => obtain ⟨b, o, s⟩ := a; cases s <;> rfl
theorem zbrh (p : V) (H : Heap) (v : V) : chk (ld1 p) H v = zlk (zsx H p) v := by
  unfold chk zlk
  rw [zbtn]
  cases zsx H p <;> rfl
@[simp] theorem zbd (k : IntKind) (n : Int) : zlk (some (.int k n)) (.int k n) = true := by simp [zlk, vEq]
@[simp] theorem zu (b : Bool) : zlk (some (.bool b)) (.bool b) = true := by simp [zlk, vEq]
@[simp] theorem zbe (s : ByteArray) : zlk (some (.string s)) (.string s) = true := by simp [zlk, vEq]
@[simp] theorem zbf (a : Option Addr) : zlk (some (.pointer a)) (.pointer a) = true := by simp [zlk, vEq]
@[simp] theorem zbg (a : Option Addr) (n c : Nat) : zlk (some (.slice a n c)) (.slice a n c) = true := by simp [zlk, vEq]
@[simp] theorem zbh (a : Option Nat) : zlk (some (.map a)) (.map a) = true := by simp [zlk, vEq]
@[simp] theorem zbvl (v : V) (H : Heap) : chk (ret v) H v = vEq v v := rfl
end Go.AM

/- Slices that one owns: elements of one cell. -/
namespace Go.AM
structure Keeps (S : List Nat) (H H' : Heap) : Prop where
  next : H.next ≤ H'.next
  same : ∀ b, b < H.next → b ∉ S → H'.get b = H.get b
theorem Keeps.refl (S : List Nat) (H : Heap) : Keeps S H H := ⟨Nat.le_refl _, fun _ _ _ => rfl⟩
theorem Keeps.trans {S S' : List Nat} {H H1 H2 : Heap} (h : Keeps S H H1) (h' : Keeps S' H1 H2) (hs : ∀ b, b < H.next → b ∈ S' → b ∈ S) : Keeps S H H2 :=
  ⟨Nat.le_trans h.next h'.next, fun b hb hn => by rw [h'.same b (Nat.lt_of_lt_of_le hb h.next) (fun hi => hn (hs b hb hi)), h.same b hb hn]⟩
theorem Keeps.mono {S S' : List Nat} {H H1 : Heap} (h : Keeps S H H1) (hs : ∀ b, b ∈ S → b ∈ S') : Keeps S' H H1 := ⟨h.next, fun b hb hn => h.same b hb fun hi => hn (hs b hi)⟩
theorem Keeps.get {S : List Nat} {H H' : Heap} (h : Keeps S H H') {b : Nat} {x : Blk} (hb : H.get b = some x) (hn : b ∉ S) : H'.get b = some x := by
  rw [h.same b (Heap.get_lt hb) hn]; exact hb
theorem Keeps.push (S : List Nat) (H : Heap) (x : Option Blk) : Keeps S H (H.push x) := ⟨by simp, fun b hb _ => Heap.get_push_lt hb⟩
theorem Keeps.set {S : List Nat} {H : Heap} {b : Nat} {x : Option Blk} (h : b ∈ S) : Keeps S H (H.set b x) := ⟨by simp, fun c _ hn => Heap.get_set_ne _ _ _ fun e => hn (e ▸ h)⟩
def vb (v : V) : List Nat := match v with | .slice (some ⟨b, _, _⟩) _ _ => [b] | _ => []
@[simp] theorem zbvt (n c : Nat) : vb (.slice none n c) = [] := rfl
@[simp] theorem zbvu (b o u n c : Nat) : vb (slc b o u n c) = [b] := rfl
def Own (H : Heap) (v : V) (l : List V) : Prop := (v = .slice none 0 0 ∧ l = []) ∨ ∃ b, v = slc b 0 1 l.length l.length ∧ H.get b = some (.cells true l)
theorem Own.nil (H : Heap) : Own H (.slice none 0 0) [] := .inl ⟨rfl, rfl⟩
theorem Own.keep {S : List Nat} {H H' : Heap} {v : V} {l : List V} (h : Own H v l) (hk : Keeps S H H') (hn : ∀ b ∈ vb v, b ∉ S) : Own H' v l := by
  rcases h with h | ⟨b, rfl, hb⟩
  · exact .inl h
  · exact .inr ⟨b, rfl, hk.get hb (hn b (by simp))⟩
theorem Own.len {H : Heap} {v : V} {l : List V} (h : Own H v l) : zb4 v = some (i64 l.length) := by
  rcases h with ⟨rfl, rfl⟩ | ⟨b, rfl, hb⟩ <;> rfl
theorem Own.lt {H : Heap} {v : V} {l : List V} (h : Own H v l) : ∀ b ∈ vb v, b < H.next := by
  rcases h with ⟨rfl, rfl⟩ | ⟨b, rfl, hb⟩
  · simp
  · simpa using Heap.get_lt hb
theorem Own.idx {H : Heap} {v : V} {l : List V} (h : Own H v l) {k : IntKind} {i : Nat} (hi : i < l.length) : ∃ b, zb5 1 v (.int k i) = some (ptr b i) ∧ zsx H (ptr b i) = some l[i] := by
  rcases h with ⟨rfl, rfl⟩ | ⟨b, rfl, hb⟩
  · simp at hi
  · refine ⟨b, ?_, ?_⟩
    · rw [z45 (by omega) (by omega)]; simp
    · rw [z8w hb]; simp [hi]
theorem zbto {v : V} {l : List V} {bs : List UInt8} {H : Heap} {Q : V → Heap → Prop} (hv : Own H v l) (hl : zqt l = some bs) (hQ : Q (.string ⟨bs.toArray⟩) H) : wp (b2s v) Q H := by
  rcases hv with ⟨rfl, rfl⟩ | ⟨b, rfl, hg⟩
  · simp [zqt] at hl; subst hl
    exact ⟨_, _, rfl, hQ⟩
  · refine ⟨_, _, ?_, hQ⟩
    simp [b2s, cellsAt, hg, hl]
end Go.AM

/- Rules for walks: conditions that are told at once. -/
namespace Go.AM
section
variable {p : Prop} [Decidable p]
theorem zbih {a b : M Out} (h : p) : zbv (.bool (decide p)) a b = a := by simp [h]
theorem zbii {a b : M Out} (h : ¬ p) : zbv (.bool (decide p)) a b = b := by simp [h]
theorem zbsw {m : M V} (h : p) : gd (.bool (decide p)) true m = m := by simp [h]
theorem zbsx {m : M V} (h : ¬ p) : gd (.bool (decide p)) true m = ret zqu := by simp [h]
theorem zbph {m : M V} (h : p) : gd (.bool (decide p)) false m = ret zqu := by simp [h]
theorem zbpi {m : M V} (h : ¬ p) : gd (.bool (decide p)) false m = m := by simp [h]
theorem zbl0 {x y : V} (h : p) : zcd (.bool (decide p)) x y = some x := by simp [h]
theorem zbl1 {x y : V} (h : ¬ p) : zcd (.bool (decide p)) x y = some y := by simp [h]
theorem zbl2 : un .not (.bool (decide p)) = some (.bool (decide (¬ p))) := by simp [un]
end
theorem zbl3 (a b : M Out) : zbv (.bool true) a b = a := rfl
theorem zbl4 (a b : M Out) : zbv (.bool false) a b = b := rfl
theorem gd_t (m : M V) : gd (.bool true) true m = m := rfl
theorem gd_f (m : M V) : gd (.bool false) true m = ret zqu := rfl
theorem zbsy (m : M V) : gd (.bool true) false m = ret zqu := rfl
theorem zbsz (m : M V) : gd (.bool false) false m = m := rfl
theorem zbpj (x y : V) : zcd (.bool true) x y = some x := rfl
theorem zbpk (x y : V) : zcd (.bool false) x y = some y := rfl
theorem zbs0 : un .not (.bool true) = some (.bool false) := rfl
theorem zbs1 : un .not (.bool false) = some (.bool true) := rfl
theorem zbl5 (k : IntKind) (x y : Int) : bin .eql (.int k x) (.int k y) = some (.bool (decide (x = y))) := by
  simp [bin, z8e, BEq.beq]
theorem zbl6 (k : IntKind) (x y : Int) : bin .neq (.int k x) (.int k y) = some (.bool (decide (x ≠ y))) := by
  simp [bin, z8e, bne, BEq.beq]
theorem zbl7 (x y : ByteArray) : bin .eql (.string x) (.string y) = some (.bool (decide (x = y))) := rfl
theorem zbl8 (x y : ByteArray) : bin .neq (.string x) (.string y) = some (.bool (decide (x ≠ y))) := by simp [bin, sbin]
@[simp] theorem zbez (b o : Nat) : zey false (zgb .p (ptr b o)) = some (.bool false) := rfl
@[simp] theorem zbbw (b o : Nat) : zey true (zgb .p (ptr b o)) = some (.bool true) := rfl
@[simp] theorem zbbx : zey false (zgb .p (.pointer none)) = some (.bool true) := rfl
@[simp] theorem z9v : zey true (zgb .p (.pointer none)) = some (.bool false) := rfl
end Go.AM

/- Strings and their bytes. -/
namespace Go.AM
def bv (s : ByteArray) : List (BitVec 8) := s.data.toList.map UInt8.toBitVec
def sv (l : List (BitVec 8)) : ByteArray := ⟨(l.map UInt8.ofBitVec).toArray⟩
theorem zet (s : ByteArray) : (bv s).length = s.size := by simp only [bv, List.length_map, Array.length_toList]; rfl
theorem z1d (l : List (BitVec 8)) : bv (sv l) = l := by
  simp only [bv, sv, List.map_map]
  conv => rhs; rw [← List.map_id l]
  apply List.map_congr_left
  intro x _; rfl
theorem zbe0 (s : ByteArray) : sv (bv s) = s := by
  cases s with | mk d =>
  simp only [bv, sv, List.map_map]
  congr 1
  apply Array.toList_inj.mp
  simp only [List.toList_toArray]
  conv => rhs; rw [← List.map_id d.toList]
  apply List.map_congr_left
  intro x _; rfl
theorem zbby {s t : ByteArray} (h : bv s = bv t) : s = t := by rw [← zbe0 s, h, zbe0]
theorem zbtp {l m : List (BitVec 8)} (h : sv l = sv m) : l = m := by rw [← z1d l, h, z1d]
theorem zbay (l : List (BitVec 8)) : (sv l).size = l.length := by rw [← zet, z1d]
theorem zlz (s t : ByteArray) : bv (s ++ t) = bv s ++ bv t := by
  have h : (s ++ t).data = s.data ++ t.data := ByteArray.data_append
  simp only [bv, h, Array.toList_append, List.map_append]
theorem zbbz (s : ByteArray) (a b : Nat) : bv (s.extract a b) = ((bv s).drop a).take (b - a) := by
  have h : (s.extract a b).data = s.data.extract a b := ByteArray.data_extract
  simp only [bv, h, Array.toList_extract, List.extract, List.map_take, List.map_drop]
theorem zbpl : bv ⟨#[]⟩ = [] := rfl
theorem zbtq {s : ByteArray} : bv s = [] ↔ s = ⟨#[]⟩ := ⟨fun h => zbby (h.trans zbpl.symm), fun h => by rw [h]; rfl⟩
theorem size_append (s t : ByteArray) : (s ++ t).size = s.size + t.size := by rw [← zet, zlz, List.length_append, zet, zet]
theorem zbe1 : ∀ l : List (BitVec 8), zqt (l.map B) = some (l.map UInt8.ofBitVec)
  | [] => rfl
  | x :: l => by
    simp only [List.map_cons, zqt, zbe1 l, zbav]
    congr 2
    apply UInt8.toBitVec_inj.mp
    apply BitVec.eq_of_toNat_eq
    show (UInt8.ofNat (x.toNat : Int).toNat).toBitVec.toNat = x.toNat
    have := x.isLt
    simp
theorem zbri {v : V} {l : List (BitVec 8)} {H : Heap} {Q : V → Heap → Prop} (hv : Own H v (l.map B)) (hQ : Q (.string (sv l)) H) : wp (b2s v) Q H := zbto hv (zbe1 l) hQ
theorem zw0 {s : ByteArray} {k : IntKind} {i : Int} (h0 : 0 ≤ i) (h : i < s.size) : zr7 (.string s) (.int k i) = some (B ((bv s).getD i.toNat 0)) := by
  have hi : i.toNat < s.size := by omega
  have hb : i.toNat < (bv s).length := by rw [zet]; exact hi
  have e : s[i.toNat]? = some s[i.toNat] := getElem?_pos s i.toNat hi
  have e2 : (bv s).getD i.toNat 0 = s[i.toNat].toBitVec := by
    rw [List.getD_eq_getElem?_getD, List.getElem?_eq_getElem hb]
    simp only [bv, List.getElem_map, Option.getD_some]
    rfl
  simp only [zr7, h0, if_true, e, e2]
  rfl
theorem zbrj {s : ByteArray} {k : IntKind} {a : Int} (h1 : 0 ≤ a) (h3 : a ≤ s.size) : z54 (.string s) (some (.int k a)) none = some (.string (s.extract a.toNat s.size)) := by
  have e2 : zfz 0 s.size (some (.int k a)) = some a.toNat := by simp [zfz]; omega
  simp [z54, e2]
  simp [zfz]
  simp [zfz] at e2
  simp [e2]
theorem zbrk {s : ByteArray} {k' : IntKind} {b : Int} (h2 : 0 ≤ b) (h3 : b ≤ s.size) : z54 (.string s) none (some (.int k' b)) = some (.string (s.extract 0 b.toNat)) := by
  have e1 : zfz s.size s.size (some (.int k' b)) = some b.toNat := by simp [zfz]; omega
  have e2 : zfz 0 b.toNat none = some 0 := rfl
  simp only [z54, e1, e2]
theorem zbrl {k : IntKind} {x y : Int} (h : y ≠ 0) : bin .rem (.int k x) (.int k y) = some (.int k (x.tmod y)) := by simp [bin, z8e, h]
theorem zbpm {k : IntKind} {x y : Int} (h0 : 0 ≤ x) (h : 0 < y) : bin .rem (.int k x) (.int k y) = some (.int k (x % y)) := by
  rw [zbrl (by omega), Int.tmod_eq_emod_of_nonneg h0]
theorem zbl9 (k k' : IntKind) (n : Int) : cvi k (.int k' n) = some (.int k (k.wrap n)) := rfl
end Go.AM

/- Slices of things that lie flat in cells. -/
namespace Go.AM
class Flat (α : Type) where
  size : Nat
  enc : α → List V
  len : ∀ a, (enc a).length = size
  one : ∀ a, (enc a).all Value.isOne = true
  pos : 0 < size
instance : Flat Int := ⟨1, fun n => [i64 n], fun _ => rfl, fun _ => rfl, by decide⟩
instance : Flat ByteArray := ⟨1, fun s => [.string s], fun _ => rfl, fun _ => rfl, by decide⟩
instance : Flat (BitVec 8) := ⟨1, fun b => [B b], fun _ => rfl, fun _ => rfl, by decide⟩
instance : Flat Bool := ⟨1, fun b => [.bool b], fun _ => rfl, fun _ => rfl, by decide⟩
theorem zbma (n : Int) : Flat.enc n = [i64 n] := rfl
theorem zbmb (s : ByteArray) : Flat.enc s = [.string s] := rfl
theorem zbij (b : BitVec 8) : Flat.enc b = [B b] := rfl
theorem zbik (b : Bool) : Flat.enc b = [.bool b] := rfl
variable {α : Type} [Flat α]
def zdv (xs : List α) : List V := xs.flatMap Flat.enc
theorem zi2 (x : α) (xs : List α) : zdv (x :: xs) = Flat.enc x ++ zdv xs := rfl
theorem z9w (xs ys : List α) : zdv (xs ++ ys) = zdv xs ++ zdv ys := by simp [zdv]
theorem ze0 (xs : List α) : (zdv xs).length = xs.length * Flat.size α := by
  induction xs with
  | nil => simp [zdv]
  | cons x xs ih => rw [zi2, List.length_append, ih, Flat.len, List.length_cons, Nat.add_mul]; omega
theorem zbb0 (xs : List α) : (zdv xs).all Value.isOne = true := by
  induction xs with
  | nil => rfl
  | cons x xs ih => rw [zi2, List.all_append, ih, Flat.one]; rfl
theorem z8x (xs : List α) : ∀ i, (zdv xs).drop (i * Flat.size α) = zdv (xs.drop i) := by
  induction xs with
  | nil => intro i; simp [zdv]
  | cons x xs ih =>
    intro i
    cases i with
    | zero => simp
    | succ i =>
      rw [zi2, Nat.add_mul, Nat.one_mul, Nat.add_comm, ← List.drop_drop]
      rw [List.drop_append_of_le_length (by rw [Flat.len]; exact Nat.le_refl _)]
      rw [show (Flat.enc x).drop (Flat.size α) = [] from List.drop_eq_nil_of_le (by rw [Flat.len]; exact Nat.le_refl _)]
      exact ih i
theorem z8y (xs : List α) : ∀ i, (zdv xs).take (i * Flat.size α) = zdv (xs.take i) := by
  induction xs with
  | nil => intro i; simp [zdv]
  | cons x xs ih =>
    intro i
    cases i with
    | zero => simp [zdv]
    | succ i =>
      rw [zi2, Nat.add_mul, Nat.one_mul, Nat.add_comm, List.take_add, List.take_append_of_le_length (by rw [Flat.len]; exact Nat.le_refl _)]
      rw [show (Flat.enc x).take (Flat.size α) = Flat.enc x from List.take_of_length_le (by rw [Flat.len]; exact Nat.le_refl _)]
      rw [List.drop_append_of_le_length (by rw [Flat.len]; exact Nat.le_refl _), show (Flat.enc x).drop (Flat.size α) = [] from List.drop_eq_nil_of_le (by rw [Flat.len]; exact Nat.le_refl _)]
      rw [List.nil_append, ih i, List.take_succ_cons, zi2]
theorem zbpn (xs : List α) : ∀ (i off : Nat) (v : V) (x' : α) (d : α), i < xs.length → off < Flat.size α → Flat.enc x' = (Flat.enc (xs.getD i d)).set off v → (zdv xs).set (i * Flat.size α + off) v = zdv (xs.set i x') := by
  induction xs with
  | nil => intro i off v x' d hi; simp at hi
  | cons x xs ih =>
    intro i off v x' d hi ho hx
    cases i with
    | zero =>
      rw [zi2, Nat.zero_mul, Nat.zero_add, List.set_append_left _ _ (by rw [Flat.len]; exact ho), List.set_cons_zero, zi2, hx]
      rfl
    | succ i =>
      rw [zi2, List.set_append_right _ _ (by rw [Flat.len, Nat.add_mul]; omega), Flat.len, List.set_cons_succ, zi2]
      congr 1
      have : (i + 1) * Flat.size α + off - Flat.size α = i * Flat.size α + off := by rw [Nat.add_mul]; omega
      rw [this]
      exact ih i off v x' d (by simpa using hi) ho hx
def slB : V → Nat | .slice (some a) _ _ => a.block | _ => 0
def slO : V → Nat | .slice (some a) _ _ => a.off | _ => 0
def Sl (H : Heap) (v : V) (xs : List α) : Prop := (v = .slice none 0 0 ∧ xs = []) ∨ ∃ b o u c, v = slc b o u xs.length c ∧ xs.length ≤ c ∧ b < H.next ∧ (xs = [] ∨ ∃ rw cs, H.get b = some (.cells rw cs) ∧ o + xs.length * Flat.size α ≤ cs.length ∧ (cs.drop o).take (xs.length * Flat.size α) = zdv xs) ∧ (u = 0 ∨ u = Flat.size α)
theorem Sl.nil (H : Heap) : Sl H (.slice none 0 0) ([] : List α) := .inl ⟨rfl, rfl⟩
theorem Sl.keep {S : List Nat} {H H' : Heap} {v : V} {l : List α} (h : Sl H v l) (hk : Keeps S H H') (hn : ∀ b ∈ vb v, b ∉ S) : Sl H' v l := by
  rcases h with h | ⟨b, o, u, c, rfl, hc, hb, hl, hu⟩
  · exact .inl h
  · refine .inr ⟨b, o, u, c, rfl, hc, Nat.lt_of_lt_of_le hb hk.next, ?_, hu⟩
    rcases hl with hl | ⟨rw, cs, h1, h2⟩
    · exact .inl hl
    · exact .inr ⟨rw, cs, hk.get h1 (hn b (by simp)), h2⟩
theorem Sl.keep0 {H H' : Heap} {v : V} {l : List α} (h : Sl H v l) (hk : Keeps [] H H') : Sl H' v l := h.keep hk (by simp)
theorem Sl.len {H : Heap} {v : V} {l : List α} (h : Sl H v l) : zb4 v = some (i64 l.length) := by
  rcases h with ⟨rfl, rfl⟩ | ⟨b, o, u, c, rfl, _⟩ <;> rfl
theorem Sl.lt {H : Heap} {v : V} {l : List α} (h : Sl H v l) : ∀ b ∈ vb v, b < H.next := by
  rcases h with ⟨rfl, rfl⟩ | ⟨b, o, u, c, rfl, hc, hb, hl⟩
  · simp
  · simpa using hb
theorem Sl.isOne {H : Heap} {v : V} {l : List α} (h : Sl H v l) : v.isOne = true := by
  rcases h with ⟨rfl, rfl⟩ | ⟨b, o, u, c, rfl, _⟩ <;> rfl
theorem Sl.addr {H : Heap} {v : V} {l : List α} (h : Sl H v l) {k : IntKind} {i : Int} (h0 : 0 ≤ i) (hi : i < l.length) : zb5 (Flat.size α) v (.int k i) = some (ptr (slB v) (slO v + i.toNat * Flat.size α)) := by
  rcases h with ⟨rfl, rfl⟩ | ⟨b, o, u, c, rfl, _⟩
  · simp at hi; omega
  · exact z45 h0 hi
theorem zbpo (cs : List V) (xs : List α) (o i : Nat) (hi : i < xs.length) (d : α) (hl : (cs.drop o).take (xs.length * Flat.size α) = zdv xs) : (cs.drop (o + i * Flat.size α)).take (Flat.size α) = Flat.enc (xs.getD i d) := by
  have e1 : ((zdv xs).drop (i * Flat.size α)).take (Flat.size α) = Flat.enc (xs.getD i d) := by
    rw [z8x]
    have : xs.drop i = xs.getD i d :: xs.drop (i + 1) := by
      rw [List.getD_eq_getElem?_getD, List.getElem?_eq_getElem hi]
      exact List.drop_eq_getElem_cons hi
    rw [this, zi2, List.take_append_of_le_length (by rw [Flat.len]; exact Nat.le_refl _), List.take_of_length_le (by rw [Flat.len]; exact Nat.le_refl _)]
  rw [← e1, ← hl, List.drop_take, List.take_take, List.drop_drop]
  congr 1
  have : (i + 1) * Flat.size α ≤ xs.length * Flat.size α := Nat.mul_le_mul_right _ hi
  rw [Nat.add_mul] at this
  omega
theorem Sl.ldn {H : Heap} {v : V} {l : List α} (h : Sl H v l) {i : Nat} (hi : i < l.length) (d : α) {Q : V → Heap → Prop} : wp (ldn (Flat.size α) (ptr (slB v) (slO v + i * Flat.size α))) Q H ↔ Q (.agg (Flat.enc (l.getD i d)).toArray) H := by
  rcases h with ⟨rfl, rfl⟩ | ⟨b, o, u, c, rfl, hc, _, hl, _⟩
  · simp at hi
  · rcases hl with rfl | ⟨rw, cs, hb, hl1, hl2⟩
    · simp at hi
    · have h1 : (i + 1) * Flat.size α ≤ l.length * Flat.size α := Nat.mul_le_mul_right _ hi
      rw [Nat.add_mul] at h1
      show wp (Go.AM.ldn _ (ptr b (o + i * Flat.size α))) Q H ↔ _
      rw [zbpg hb (by omega), zbpo cs l o i hi d hl2]
theorem Sl.cell {H : Heap} {v : V} {l : List α} (h : Sl H v l) {i off : Nat} (hi : i < l.length) (ho : off < Flat.size α) (d : α) : zsx H (ptr (slB v) (slO v + i * Flat.size α + off)) = (Flat.enc (l.getD i d))[off]? := by
  rcases h with ⟨rfl, rfl⟩ | ⟨b, o, u, c, rfl, hc, _, hl, _⟩
  · simp at hi
  · rcases hl with rfl | ⟨rw, cs, hb, hl1, hl2⟩
    · simp at hi
    · show zsx H (ptr b (o + i * Flat.size α + off)) = _
      rw [z8w hb, ← zbpo cs l o i hi d hl2, List.getElem?_take, if_pos ho, List.getElem?_drop]
theorem Sl.addr' {H : Heap} {v : V} {l : List α} (h : Sl H v l) {n : Nat} (hs : Flat.size α = n) {k : IntKind} {i : Int} (h0 : 0 ≤ i) (hi : i < l.length) : zb5 n v (.int k i) = some (ptr (slB v) (slO v + i.toNat * n)) := by subst hs; exact h.addr h0 hi
theorem Sl.ldn' {H : Heap} {v : V} {l : List α} (h : Sl H v l) {n : Nat} (hs : Flat.size α = n) {i : Nat} (hi : i < l.length) (d : α) {Q : V → Heap → Prop} : wp (Go.AM.ldn n (ptr (slB v) (slO v + i * n))) Q H ↔ Q (.agg (Flat.enc (l.getD i d)).toArray) H := by subst hs; exact h.ldn hi d
theorem Sl.cell' {H : Heap} {v : V} {l : List α} (h : Sl H v l) {n : Nat} (hs : Flat.size α = n) {i off : Nat} (hi : i < l.length) (ho : off < n) (d : α) : zsx H (ptr (slB v) (slO v + i * n + off)) = (Flat.enc (l.getD i d))[off]? := by subst hs; exact h.cell hi ho d
theorem Sl.addr1 {H : Heap} {v : V} {l : List α} (h : Sl H v l) (hs : Flat.size α = 1) {k : IntKind} {i : Int} (h0 : 0 ≤ i) (hi : i < l.length) : zb5 1 v (.int k i) = some (ptr (slB v) (slO v + i.toNat)) := by
  have := h.addr (k := k) h0 hi
  rw [hs, Nat.mul_one] at this
  exact this
theorem Sl.cell1 {H : Heap} {v : V} {l : List α} (h : Sl H v l) (hs : Flat.size α = 1) {i : Nat} (hi : i < l.length) (d : α) : zsx H (ptr (slB v) (slO v + i)) = (Flat.enc (l.getD i d))[0]? := by
  have := h.cell (off := 0) hi (by omega) d
  rw [hs, Nat.mul_one, Nat.add_zero] at this
  exact this
theorem Own.sl {H : Heap} {v : V} {l : List α} (hs : Flat.size α = 1) (h : Own H v (zdv l)) : Sl H v l := by
  rcases h with ⟨rfl, hl⟩ | ⟨b, rfl, hb⟩
  · refine .inl ⟨rfl, ?_⟩
    have := congrArg List.length hl
    rw [ze0, hs] at this
    exact List.eq_nil_of_length_eq_zero (by simpa using this)
  · have e : (zdv l).length = l.length := by rw [ze0, hs, Nat.mul_one]
    refine .inr ⟨b, 0, 1, l.length, by rw [e], Nat.le_refl _, Heap.get_lt hb, .inr ⟨true, zdv l, hb, by rw [ze0]; omega, ?_⟩, .inr hs.symm⟩
    rw [List.drop_zero, List.take_of_length_le (by rw [ze0]; exact Nat.le_refl _)]
end Go.AM

/- Heaps that are written out: what a block holds is told by rules. -/
namespace Go.AM
namespace Heap
theorem get_push_eq {H : Heap} {x : Option Blk} {b : Nat} (h : b = H.next) : (H.push x).get b = x := by subst h; exact get_push_self H x
theorem get_set_eq {H : Heap} {b : Nat} {x : Option Blk} (h : b < H.next) : (H.set b x).get b = x := get_set_self h
theorem get_set_ne' {H : Heap} {b c : Nat} {x : Option Blk} (h : c ≠ b) : (H.set b x).get c = H.get c := get_set_ne _ _ _ h
theorem set_push_lt {H : Heap} {x y : Option Blk} {b : Nat} (h : b < H.next) : (H.push x).set b y = (H.set b y).push x := by
  refine Heap.same rfl fun c _ => ?_
  rw [zyq, Heap.get_push, Heap.get_push, zyq]
  have e1 : (H.push x).next = H.next + 1 := rfl
  have e2 : (H.set b y).next = H.next := rfl
  rw [e1, e2]
  by_cases q : c = b
  · subst q; rw [if_pos ⟨rfl, by omega⟩, if_neg (by omega), if_pos ⟨rfl, h⟩]
  · rw [if_neg (fun z => q z.1)]
    by_cases q2 : c = H.next
    · rw [if_pos q2, if_pos q2]
    · rw [if_neg q2, if_neg q2, if_neg (fun z => q z.1)]
theorem set_push_eq {H : Heap} {x y : Option Blk} {b : Nat} (h : b = H.next) : (H.push x).set b y = H.push y := by
  subst h
  refine Heap.same rfl fun c _ => ?_
  rw [zyq, Heap.get_push, Heap.get_push]
  have e1 : (H.push x).next = H.next + 1 := rfl
  rw [e1]
  by_cases q : c = H.next
  · rw [if_pos ⟨q, by omega⟩, if_pos q]
  · rw [if_neg (fun z => q z.1), if_neg q, if_neg q]
end Heap
def zlb : Option Blk → Nat → Option V
  | some (.cells _ cs), o => cs[o]?
  | _, _ => none
theorem zl (H : Heap) (b o : Nat) : zsx H (ptr b o) = zlb (H.get b) o := by
  simp only [zsx, Heap.cell]
  split <;> simp_all [zlb]
theorem zf (rw : Bool) (cs : List V) (o : Nat) : zlb (some (.cells rw cs)) o = cs[o]? := rfl
def stG (x : Option Blk) (o : Nat) (v : V) (k : Option Blk → Prop) : Prop := match x with
  | some (.cells true cs) => v.isOne = true ∧ o < cs.length ∧ k (some (.cells true (cs.set o v)))
  | _ => False
theorem zbx (H : Heap) (b o : Nat) (v : V) {Q : V → Heap → Prop} : wp (st1 (ptr b o) v) Q H ↔ stG (H.get b) o v fun y => Q undef (H.set b y) := by
  unfold stG
  constructor
  · rintro ⟨a, H', h1, h2⟩
    simp only [st1] at h1
    split at h1
    · rename_i cs hg
      rw [hg]
      split at h1
      · rename_i hc
        cases h1
        simp only [Bool.and_eq_true, decide_eq_true_eq] at hc
        exact ⟨hc.1, hc.2, h2⟩
      · cases h1
    · cases h1
  · intro h
    split at h
    · rename_i cs hg
      exact (zbpf hg h.1 h.2.1).mpr h.2.2
    · exact h.elim
@[congr] theorem zbuf {x x' : Option Blk} {o : Nat} {v : V} {k : Option Blk → Prop} (h : x = x') : stG x o v k = stG x' o v k := by rw [h]
theorem zb8 {cs : List V} {o : Nat} {v : V} {k : Option Blk → Prop} (ho : o < cs.length) : stG (some (.cells true cs)) o v k ↔ (v.isOne = true ∧ k (some (.cells true (cs.set o v)))) := by simp [stG, ho]
def stnG (x : Option Blk) (n o : Nat) (v : V) (k : Option Blk → Prop) : Prop := match x, v with
  | some (.cells true cs), .agg vs => vs.toList.all Value.isOne = true ∧ vs.toList.length = n ∧ o + n ≤ cs.length ∧ k (some (.cells true (splice cs o vs.toList)))
  | _, _ => False
theorem zby (H : Heap) (b o n : Nat) (v : V) {Q : V → Heap → Prop} : wp (stn n (ptr b o) v) Q H ↔ stnG (H.get b) n o v fun y => Q undef (H.set b y) := by
  unfold stnG
  constructor
  · rintro ⟨a, H', h1, h2⟩
    simp only [stn] at h1
    split at h1
    · rename_i b' o' vs hp
      cases hp
      split at h1
      · rename_i cs hg
        rw [hg]
        split at h1
        · rename_i hc
          cases h1
          simp only [Bool.and_eq_true, decide_eq_true_eq, beq_iff_eq] at hc
          exact ⟨hc.1.1, hc.1.2, hc.2, h2⟩
        · cases h1
      · cases h1
    · cases h1
  · intro h
    split at h
    · rename_i cs vs hg
      refine ⟨undef, _, ?_, h.2.2.2⟩
      simp only [stn, hg]
      rw [if_pos (by simp [h.1, h.2.1, h.2.2.1])]
    · exact h.elim
@[congr] theorem zbtr {x x' : Option Blk} {n o : Nat} {v : V} {k : Option Blk → Prop} (h : x = x') : stnG x n o v k = stnG x' n o v k := by rw [h]
theorem zbt {cs vs : List V} {n o : Nat} {k : Option Blk → Prop} (hv : vs.all Value.isOne = true) (hn : vs.length = n) (ho : o + n ≤ cs.length) : stnG (some (.cells true cs)) n o (.agg vs.toArray) k ↔ k (some (.cells true (splice cs o vs))) := by simp [stnG, hv, hn, ho]
def ldG (x : Option Blk) (n o : Nat) (k : V → Prop) : Prop := match x with
  | some (.cells _ cs) => o + n ≤ cs.length ∧ k (.agg ((cs.drop o).take n).toArray)
  | _ => False
theorem zdz (H : Heap) (b o n : Nat) {Q : V → Heap → Prop} : wp (ldn n (ptr b o)) Q H ↔ ldG (H.get b) n o fun y => Q y H := by
  unfold ldG
  constructor
  · rintro ⟨a, H', h1, h2⟩
    simp only [ldn, cellsAt] at h1
    split at h1
    · rename_i l hl
      cases h1
      split at hl
      · rename_i rw cs hg
        rw [hg]
        split at hl
        · rename_i hc; cases hl; exact ⟨hc, h2⟩
        · cases hl
      · cases hl
    · cases h1
  · intro h
    split at h
    · rename_i rw cs hg
      exact (zbpg hg h.1).mpr h.2
    · exact h.elim
@[congr] theorem zbuh {x x' : Option Blk} {n o : Nat} {k : V → Prop} (h : x = x') : ldG x n o k = ldG x' n o k := by rw [h]
theorem zb0 {rw : Bool} {cs : List V} {n o : Nat} {k : V → Prop} (ho : o + n ≤ cs.length) : ldG (some (.cells rw cs)) n o k ↔ k (.agg ((cs.drop o).take n).toArray) := by simp [ldG, ho]
theorem zbi {cs : List V} {H : Heap} {Q : V → Heap → Prop} (h : cs.all ziq = true) : wp (newc cs) Q H ↔ Q (ptr H.next 0) (H.push (some (.cells true cs))) := zzq h
theorem zbc {vs : List V} {H : Heap} {Q : V → Heap → Prop} (h : vs.all Value.isOne = true) : wp (zha (.agg vs.toArray)) Q H ↔ Q (ptr H.next 0) (H.push (some (.cells true vs))) := by
  have hc : (Value.agg vs.toArray).cells.toList = vs := by simp [Value.cells]
  constructor
  · rintro ⟨a, H', h1, h2⟩
    unfold zha at h1
    rw [hc, if_pos h] at h1
    cases h1; exact h2
  · intro hq; exact ⟨_, _, by unfold zha; rw [hc, if_pos h], hq⟩
theorem zbaz {v : V} {H : Heap} {Q : V → Heap → Prop} (h : v.isOne = true) : wp (zha v) Q H ↔ Q (ptr H.next 0) (H.push (some (.cells true [v]))) := by
  have hc : v.cells.toList = [v] := by rw [z2q h]
  constructor
  · rintro ⟨a, H', h1, h2⟩
    unfold zha at h1
    rw [hc] at h1
    rw [if_pos (by simp [h])] at h1
    cases h1; exact h2
  · intro hq; exact ⟨_, _, by unfold zha; rw [hc, if_pos (by simp [h])], hq⟩
theorem zbj (off : Nat) (vs : List V) : fld1 off (.agg vs.toArray) = vs[off]? := by simp [fld1]
theorem zbk {off n : Nat} {vs : List V} (h : off + n ≤ vs.length) : fldn off n (.agg vs.toArray) = some (.agg ((vs.drop off).take n).toArray) := by simp [fldn, h]
theorem zp (i : Nat) (vs : List V) : ext i (.tuple vs.toArray) = vs[i]? := by simp [ext]
section
variable {α : Type} [DecidableEq α] {x y : α} {p : Prop} [Decidable p]
theorem zbl {a b : M Out} (h : p) : zbv (.bool (decide (¬ p))) a b = b := by simp [h]
theorem zv {a b : M Out} (h : x = y) : zbv (.bool (decide (x ≠ y))) a b = b := by simp [h]
theorem zb2 {m : M V} (h : x = y) : gd (.bool (decide (x ≠ y))) true m = ret zqu := by simp [h]
theorem zbu {m : M V} (h : x = y) : gd (.bool (decide (x ≠ y))) false m = m := by simp [h]
theorem zbm {a b : V} (h : x = y) : zcd (.bool (decide (x ≠ y))) a b = some b := by simp [h]
end
section
variable {p : Prop} [Decidable p] {Q : Out → Heap → Prop} {QV : V → Heap → Prop} {QQ : V → Prop} {H : Heap}
end
section
variable {c : Bool} {Q : Out → Heap → Prop} {QV : V → Heap → Prop} {QQ : V → Prop} {H : Heap}
end
section
variable {p : Prop} [Decidable p] {Q : Out → Heap → Prop} {QV : V → Heap → Prop} {QQ : V → Prop} {H : Heap}
theorem zsm {a b : M Out} (h1 : p → wp a Q H) (h2 : ¬ p → wp b Q H) : wp (zbv (.bool (decide p)) a b) Q H := by by_cases h : p <;> simp_all
theorem zw1 {m : M V} (h1 : p → wp m QV H) (h2 : ¬ p → QV zqu H) : wp (gd (.bool (decide p)) true m) QV H := by by_cases h : p <;> simp_all
theorem zuc {m : M V} (h1 : p → QV zqu H) (h2 : ¬ p → wp m QV H) : wp (gd (.bool (decide p)) false m) QV H := by by_cases h : p <;> simp_all
theorem zqz {x y : V} (h1 : p → QQ x) (h2 : ¬ p → QQ y) : wpO (zcd (.bool (decide p)) x y) QQ := by by_cases h : p <;> simp_all
end
section
variable {c : Bool} {Q : Out → Heap → Prop} {QV : V → Heap → Prop} {QQ : V → Prop} {H : Heap}
theorem zzr {a b : M Out} (h1 : c = true → wp a Q H) (h2 : c = false → wp b Q H) : wp (zbv (.bool c) a b) Q H := by cases c <;> simp_all
theorem z6u {m : M V} (h1 : c = true → wp m QV H) (h2 : c = false → QV zqu H) : wp (gd (.bool c) true m) QV H := by cases c <;> simp_all
theorem z2y {m : M V} (h1 : c = true → QV zqu H) (h2 : c = false → wp m QV H) : wp (gd (.bool c) false m) QV H := by cases c <;> simp_all
theorem zw2 {x y : V} (h1 : c = true → QQ x) (h2 : c = false → QQ y) : wpO (zcd (.bool c) x y) QQ := by cases c <;> simp_all
end
theorem zbpp {α : Type} {m : M α} {v : α} (h : ∀ H, wp m (fun r H' => r = v ∧ H' = H) H) : m = ret v := by
  funext H
  obtain ⟨a, H', h1, rfl, rfl⟩ := h H
  exact h1
theorem q_of {Q : V → Heap → Prop} {v v' : V} {H : Heap} (h : Q v H) (e : v = v') : Q v' H := e ▸ h
theorem zbn : zcm [] = .tuple #[] := rfl
theorem zbo (a b : V) : zcm [a, b] = .tuple #[a, b] := rfl
theorem zi (a b c : V) : zcm [a, b, c] = .tuple #[a, b, c] := rfl
theorem zw (a b c d : V) : zcm [a, b, c, d] = .tuple #[a, b, c, d] := rfl
theorem zbp (b o : Nat) (H : Heap) (v : V) : chk (ld1 (ptr b o)) H v = zlk (zlb (H.get b) o) v := by rw [zbrh, zl]
theorem zdw {S : List Nat} {H0 H : Heap} {x : Option Blk} (h : Keeps S H0 H) : Keeps S H0 (H.push x) :=
  ⟨by have := h.next; simp; omega, fun b hb hn => by rw [Heap.get_push_lt (by have := h.next; omega), h.same b hb hn]⟩
theorem zd7 {S : List Nat} {H0 H : Heap} {b : Nat} {x : Option Blk} (h : Keeps S H0 H) (hb : b ∈ S ∨ H0.next ≤ b) : Keeps S H0 (H.set b x) :=
  ⟨by have := h.next; simp; omega, fun c hc hn => by
    have : c ≠ b := fun e => by subst e; rcases hb with hb | hb; exact hn hb; omega
    rw [Heap.get_set_ne _ _ _ this, h.same c hc hn]⟩
end Go.AM

/- Slices of one-cell elements, somewhere in a block that one owns. -/
namespace Go.AM
def Seg (H : Heap) (v : V) (l : List V) : Prop := (v = .slice none 0 0 ∧ l = []) ∨ ∃ b o c cs, v = slc b o 1 l.length c ∧ l.length ≤ c ∧ H.get b = some (.cells true cs) ∧ (l = [] ∨ (o + l.length ≤ cs.length ∧ (cs.drop o).take l.length = l))
theorem Seg.nil (H : Heap) : Seg H (.slice none 0 0) [] := .inl ⟨rfl, rfl⟩
theorem Seg.keep {S : List Nat} {H H' : Heap} {v : V} {l : List V} (h : Seg H v l) (hk : Keeps S H H') (hn : ∀ b ∈ vb v, b ∉ S) : Seg H' v l := by
  rcases h with h | ⟨b, o, c, cs, rfl, hc, hb, hl⟩
  · exact .inl h
  · exact .inr ⟨b, o, c, cs, rfl, hc, hk.get hb (hn b (by simp)), hl⟩
theorem Seg.same {H H' : Heap} {v : V} {l : List V} (h : Seg H v l) (hs : ∀ b ∈ vb v, H'.get b = H.get b) : Seg H' v l := by
  rcases h with h | ⟨b, o, c, cs, rfl, hc, hb, hl⟩
  · exact .inl h
  · exact .inr ⟨b, o, c, cs, rfl, hc, by rw [hs b (by simp)]; exact hb, hl⟩
theorem Seg.len {H : Heap} {v : V} {l : List V} (h : Seg H v l) : zb4 v = some (i64 l.length) := by
  rcases h with ⟨rfl, rfl⟩ | ⟨b, o, c, cs, rfl, hc, hb, hl⟩ <;> rfl
theorem Seg.lt {H : Heap} {v : V} {l : List V} (h : Seg H v l) : ∀ b ∈ vb v, b < H.next := by
  rcases h with ⟨rfl, rfl⟩ | ⟨b, o, c, cs, rfl, hc, hb, hl⟩
  · simp
  · simpa using Heap.get_lt hb
theorem Seg.isOne {H : Heap} {v : V} {l : List V} (h : Seg H v l) : v.isOne = true := by
  rcases h with ⟨rfl, rfl⟩ | ⟨b, o, c, cs, rfl, _⟩ <;> rfl
theorem Seg.cells {H : Heap} {v : V} {l : List V} (h : Seg H v l) : zc0 H 1 v = some l := by
  rcases h with ⟨rfl, rfl⟩ | ⟨b, o, c, cs, rfl, hc, hb, hl⟩
  · rfl
  · simp only [zc0]
    by_cases h0 : l.length = 0
    · rw [if_pos h0, List.eq_nil_of_length_eq_zero h0]
    · rw [if_neg h0]
      rcases hl with rfl | ⟨h1, h2⟩
      · simp at h0
      · simp [cellsAt, hb, h1, h2]
theorem Seg.addr {H : Heap} {v : V} {l : List V} (h : Seg H v l) {k : IntKind} {i : Int} (h0 : 0 ≤ i) (hi : i < l.length) : zb5 1 v (.int k i) = some (ptr (slB v) (slO v + i.toNat)) := by
  rcases h with ⟨rfl, rfl⟩ | ⟨b, o, c, cs, rfl, _⟩
  · simp at hi; omega
  · have := z45 (b := b) (o := o) (u := 1) (cap := c) (size := 1) (k := k) h0 hi
    rw [Nat.mul_one] at this; exact this
theorem Seg.cell {H : Heap} {v : V} {l : List V} (h : Seg H v l) {i : Nat} (hi : i < l.length) : zsx H (ptr (slB v) (slO v + i)) = l[i]? := by
  rcases h with ⟨rfl, rfl⟩ | ⟨b, o, c, cs, rfl, hc, hb, hl⟩
  · simp at hi
  · rcases hl with rfl | ⟨h1, h2⟩
    · simp at hi
    · show zsx H (ptr b (o + i)) = _
      rw [z8w hb]
      have : ((cs.drop o).take l.length)[i]? = l[i]? := by rw [h2]
      rw [List.getElem?_take, if_pos hi, List.getElem?_drop] at this
      exact this
theorem Seg.sub {H : Heap} {v : V} {l : List V} (h : Seg H v l) {lo hi : Option V} {a b : Nat} (hlo : zfz 0 b lo = some a) (hhi : ∀ c, l.length ≤ c → zfz l.length c hi = some b) (h1 : a ≤ b) (h2 : b ≤ l.length) : ∃ w, zjw 1 v lo hi = some w ∧ Seg H w ((l.drop a).take (b - a)) ∧ (∀ x ∈ vb w, x ∈ vb v) ∧ w.isOne = true := by
  have hlen : ((l.drop a).take (b - a)).length = b - a := by simp; omega
  rcases h with ⟨rfl, rfl⟩ | ⟨blk, o, c, cs, rfl, hc, hb, hl⟩
  · simp only [List.length_nil] at h2 hhi
    have hb0 : b = 0 := by omega
    subst hb0
    have ha0 : a = 0 := by omega
    subst ha0
    exact ⟨.slice none 0 0, by simp [zjw, hhi 0 (Nat.le_refl _), hlo], .inl ⟨rfl, by simp⟩, fun x hx => hx, rfl⟩
  · refine ⟨zsv blk o 1 a b c 1, ?_, ?_, ?_, ?_⟩
    · simp only [zjw, hhi c hc, hlo]
      simp
    · unfold zsv
      split
      · rename_i hca
        have : b = a := by omega
        subst this
        refine .inr ⟨blk, o, c - b, cs, by simp, by simp, hb, .inl (by simp)⟩
      · refine .inr ⟨blk, o + a * 1, c - a, cs, by rw [hlen], by rw [hlen]; omega, hb, ?_⟩
        rcases hl with rfl | ⟨q1, q2⟩
        · left; simp
        · right
          rw [hlen]
          refine ⟨by omega, ?_⟩
          conv => rhs; rw [← q2]
          rw [List.drop_take, List.take_take, List.drop_drop, Nat.mul_one]
          congr 1
          omega
    · unfold zsv; split <;> simp
    · unfold zsv; split <;> rfl
theorem zbs {zero : List V} {parts : List (Nat × Nat × V)} (h : zero.all ziq = true) : build zero parts = (zdm zero parts).map fun cs => .agg cs.toArray := by
  simp only [build, h, if_true]
  cases zdm zero parts <;> rfl
theorem zg (cs : List V) : zdm cs [] = some cs := rfl
theorem zm {cs : List V} {off : Nat} {v : V} {rest : List (Nat × Nat × V)} (hv : v.isOne = true) (h : off < cs.length) : zdm cs ((off, 1, v) :: rest) = zdm (cs.set off v) rest := by
  have hc : v.cells.toList = [v] := by rw [z2q hv]
  have hs : v.cells.size = 1 := by rw [z2q hv]; rfl
  simp only [zdm, hc, hs]
  rw [if_pos (by simp [hv]; omega)]
  congr 1
  simp only [splice, List.length_singleton]
  rw [List.set_eq_take_append_cons_drop, if_pos h]
  rfl
theorem zba {cs : List V} {off : Nat} {a : Option Addr} {n c : Nat} {rest : List (Nat × Nat × V)} (h : off < cs.length) : zdm cs ((off, 1, .slice a n c) :: rest) = zdm (cs.set off (.slice a n c)) rest := zm rfl h
theorem z7 {cs : List V} {off : Nat} {k : IntKind} {n : Int} {rest : List (Nat × Nat × V)} (h : off < cs.length) : zdm cs ((off, 1, .int k n) :: rest) = zdm (cs.set off (.int k n)) rest := zm rfl h
theorem zz {cs : List V} {off : Nat} {s : ByteArray} {rest : List (Nat × Nat × V)} (h : off < cs.length) : zdm cs ((off, 1, .string s) :: rest) = zdm (cs.set off (.string s)) rest := zm rfl h
theorem zj {cs : List V} {off : Nat} {b : Bool} {rest : List (Nat × Nat × V)} (h : off < cs.length) : zdm cs ((off, 1, .bool b) :: rest) = zdm (cs.set off (.bool b)) rest := zm rfl h
theorem zx {cs : List V} {off : Nat} {a : Option Addr} {rest : List (Nat × Nat × V)} (h : off < cs.length) : zdm cs ((off, 1, .pointer a) :: rest) = zdm (cs.set off (.pointer a)) rest := zm rfl h
theorem zy {cs : List V} {off : Nat} {a : Option Nat} {rest : List (Nat × Nat × V)} (h : off < cs.length) : zdm cs ((off, 1, .map a) :: rest) = zdm (cs.set off (.map a)) rest := zm rfl h
theorem zbb {cs vs : List V} {off n : Nat} {rest : List (Nat × Nat × V)} (hv : vs.all Value.isOne = true) (hn : vs.length = n) (h : off + n ≤ cs.length) : zdm cs ((off, n, .agg vs.toArray) :: rest) = zdm (splice cs off vs) rest := by
  have hc : (Value.agg vs.toArray).cells.toList = vs := by simp [Value.cells]
  have hs : (Value.agg vs.toArray).cells.size = n := by simp [Value.cells, hn]
  simp only [zdm, hc, hs]
  rw [if_pos (by simp [hv]; omega)]
theorem zbq (H : Heap) : zt9 H 1 = H.push none := rfl
theorem zbr (H : Heap) : zt9 H 2 = (H.push none).push none := rfl
theorem zk (H : Heap) : zku H [] = true := rfl
theorem z1e {H : Heap} {b : Nat} {bs : List Nat} (h : H.get b = none) (hl : b < H.next) : zku H (b :: bs) = zku H bs := by
  have : Nat.blt b H.next = true := by simpa [Nat.blt_eq] using hl
  simp [zku, h, this]
theorem z6v {id size bytes n c : Nat} {zero : List V} {k k' : IntKind} {H : Heap} {Q : V → Heap → Prop} (h : H.get id = none) (hl : id < H.next) (hz : zero.all ziq = true) (h1 : n ≤ c) (h2 : c ≤ 140737488355328) (h3 : bytes * c ≤ 140737488355328) (hQ : Q (slc id 0 size n c) (H.set id (some (.cells true (rep c zero))))) : wp (flt id (z0i size bytes zero (.int k n) (.int k' c))) Q H := by
  have e : z0i size bytes zero (.int k n) (.int k' c) Heap.none0 = some (slc 0 0 size n c, Heap.one (.cells true (rep c zero))) := by
    simp only [z0i]
    rw [if_pos ⟨hz, by omega, by omega, by omega, by rw [← Int.natCast_mul]; omega⟩, Int.toNat_natCast, Int.toNat_natCast]
    rfl
  have : Nat.blt id H.next = true := by simpa [Nat.blt_eq] using hl
  exact ⟨_, _, by simp only [flt, e, Heap.one?_one, h, this, cond_true, zwu], hQ⟩
theorem zbil {α : Type} [Flat α] (x : α) (zero : List V) (hz : zero = Flat.enc x) : ∀ n, rep n zero = zdv (List.replicate n x)
  | 0 => rfl
  | n + 1 => by rw [rep, zbil x zero hz n, List.replicate_succ, zi2, hz]
end Go.AM

/- Maps that are held: their z2p as lists of keys and values. -/
namespace Go.AM
class KeyE (κ : Type) [DecidableEq κ] where
  kk : KK
  enc : κ → V
  eq : ∀ a b, zu3 kk (enc a) (enc b) = some (decide (a = b))
  fits : ∀ a, zph kk (enc a) = true
  solid : ∀ a, (enc a).isSolid = true
class ValE (ω : Type) where
  enc : ω → V
  solid : ∀ a, (enc a).isSolid = true
theorem zba0 (a b : Int) : (a == b) = decide (a = b) := by by_cases h : a = b <;> simp [h]
instance : KeyE Int := ⟨.one .i, i64, fun a b => by simp only [zu3, eqK, if_true, zba0], fun _ => rfl, fun _ => rfl⟩
instance : ValE Int := ⟨i64, fun _ => rfl⟩
instance : ValE Bool := ⟨.bool, fun _ => rfl⟩
abbrev pr (a b : Int) : V := .agg [i64 a, i64 b].toArray
instance : KeyE (Int × Int) := ⟨.agg [.i, .i], fun a => pr a.1 a.2, fun a b => by
  simp only [zu3, zjp, zox, eqK, if_true, zba0]
  by_cases h : a.1 = b.1
  · by_cases h2 : a.2 = b.2
    · rw [decide_eq_true h, decide_eq_true h2, decide_eq_true (show a = b from Prod.ext h h2)]
    · rw [decide_eq_true h, decide_eq_false h2, decide_eq_false (show ¬ a = b from fun e => h2 (by rw [e]))]
  · rw [decide_eq_false h, decide_eq_false (show ¬ a = b from fun e => h (by rw [e]))], fun _ => rfl, fun _ => rfl⟩
theorem kp (a : Int × Int) : KeyE.enc a = pr a.1 a.2 := rfl
section
variable {κ ω : Type} [DecidableEq κ] [KeyE κ] [ValE ω]
def zmj (e : κ × ω) : V × V := (KeyE.enc e.1, ValE.enc e.2)
def z8z (k : κ) : List (κ × ω) → Option Nat
  | [] => none
  | e :: es => if k = e.1 then some 0 else (z8z k es).map (· + 1)
def zoy (es : List (κ × ω)) (k : κ) : Option ω := match es with
  | [] => none
  | e :: es => if k = e.1 then some e.2 else zoy es k
def zll (es : List (κ × ω)) (k : κ) (v : ω) : List (κ × ω) := match es with
  | [] => [(k, v)]
  | e :: es => if k = e.1 then (k, v) :: es else e :: zll es k v
def adel (es : List (κ × ω)) (k : κ) : List (κ × ω) := match es with
  | [] => []
  | e :: es => if k = e.1 then es else e :: adel es k
theorem z80 (k : κ) : ∀ es : List (κ × ω), zk9 (KeyE.kk κ) (KeyE.enc k) (es.map zmj) = some (z8z k es)
  | [] => rfl
  | e :: es => by
    have ih := z80 k es
    simp only [List.map_cons, zk9, z8z]
    rw [show zu3 (KeyE.kk κ) (KeyE.enc k) (zmj e).1 = some (decide (k = e.1)) from KeyE.eq k e.1]
    by_cases h : k = e.1
    · simp [h]
    · rw [decide_eq_false h, if_neg h, ih]
      cases z8z k es <;> rfl
theorem z81 {k : κ} : ∀ {es : List (κ × ω)}, z8z k es = none → zoy es k = none ∧ (∀ v, zll es k v = es ++ [(k, v)]) ∧ adel es k = es
  | [], _ => ⟨rfl, fun _ => rfl, rfl⟩
  | e :: es, h => by
    simp only [z8z] at h
    split at h
    · cases h
    · rename_i hk
      have h' : z8z k es = none := by cases hq : z8z k es <;> simp_all
      obtain ⟨a, b, c⟩ := z81 h'
      simp [zoy, zll, adel, hk, a, b, c]
theorem z82 {k : κ} : ∀ {es : List (κ × ω)} {i : Nat}, z8z k es = some i → i < es.length ∧ (∃ v, es[i]? = some (k, v) ∧ zoy es k = some v) ∧ (∀ v, zll es k v = es.set i (k, v)) ∧ adel es k = es.eraseIdx i
  | e :: es, i, h => by
    simp only [z8z] at h
    split at h
    · rename_i hk
      cases h; subst hk
      exact ⟨by simp, ⟨e.2, by simp, by simp [zoy]⟩, fun v => by simp [zll], by simp [adel]⟩
    · rename_i hk
      cases hq : z8z k es with
      | none => rw [hq] at h; cases h
      | some j =>
        rw [hq] at h; cases h
        obtain ⟨a, ⟨v, b1, b2⟩, c, d⟩ := z82 hq
        exact ⟨by simpa using a, ⟨v, by simpa using b1, by simp [zoy, hk, b2]⟩, fun v => by simp [zll, hk, c], by simp [adel, hk, d]⟩
theorem zbim {k : κ} {v : ω} {x : κ × ω} : ∀ {l : List (κ × ω)}, x ∈ zll l k v → x = (k, v) ∨ x ∈ l
  | [], h => by simp [zll] at h; exact .inl h
  | y :: l, h => by
    simp only [zll] at h
    split at h
    · rcases List.mem_cons.1 h with q | q
      · exact .inl q
      · right; simp [q]
    · rcases List.mem_cons.1 h with q | q
      · right; simp [q]
      · rcases zbim q with r | r
        · exact .inl r
        · right; simp [r]
def MapR (H : Heap) (m : Nat) (es : List (κ × ω)) : Prop := H.get m = some (.map true (es.map zmj))
def zw3 (x : Option Blk) (kk : KK) (zero : V) (ok : Bool) (k : V) : Option V := match x with
  | some (.map _ es) => if (zph kk k && ziq zero) = true then (match zk9 kk k es with
    | some (some i) => match es[i]? with | some e => some (if ok then .tuple #[e.2, .bool true] else e.2) | none => none
    | some none => some (if ok then .tuple #[zero, .bool false] else zero)
    | none => none) else none
  | _ => none
@[congr] theorem zbs2 {x x' : Option Blk} {kk : KK} {zero : V} {ok : Bool} {k : V} (h : x = x') : zw3 x kk zero ok k = zw3 x' kk zero ok k := by rw [h]
theorem zi7 (H : Heap) (m : Nat) (kk : KK) (zero : V) (ok : Bool) (k : V) {Q : V → Heap → Prop} : wp (lookup kk zero ok (.map (some m)) k) Q H ↔ wpO (zw3 (H.get m) kk zero ok k) fun v => Q v H := by
  have e : lookup kk zero ok (.map (some m)) k H = (zw3 (H.get m) kk zero ok k).map fun v => (v, H) := by
    simp only [lookup, zw3, z2p]
    generalize H.get m = x
    by_cases hc : (zph kk k && ziq zero) = true
    · rw [if_pos hc]
      cases x with
      | none => rfl
      | some x =>
        cases x with
        | map rw es =>
          simp only
          rw [if_pos hc]
          cases zk9 kk k es with
          | none => rfl
          | some o => cases o with
            | none => rfl
            | some i => simp only; cases es[i]? <;> rfl
        | cells rw cs => rfl
        | siter s p => rfl
    · rw [if_neg hc]
      cases x with
      | none => rfl
      | some x =>
        cases x with
        | map rw es => simp only; rw [if_neg hc]; rfl
        | cells rw cs => rfl
        | siter s p => rfl
  unfold wp wpO
  rw [e]
  cases zw3 (H.get m) kk zero ok k with
  | none => simp
  | some v =>
    constructor
    · rintro ⟨a, H', h1, h2⟩; cases h1; exact ⟨_, rfl, h2⟩
    · rintro ⟨a, h1, h2⟩; cases h1; exact ⟨_, _, rfl, h2⟩
theorem z2z (rw_ : Bool) (es : List (κ × ω)) (zero : V) (hz : ziq zero = true) (k : κ) : zw3 (some (.map rw_ (es.map zmj))) (KeyE.kk κ) zero false (KeyE.enc k) = some ((zoy es k).elim zero ValE.enc) := by
  have hc : (zph (KeyE.kk κ) (KeyE.enc k) && ziq zero) = true := by rw [KeyE.fits, hz]; rfl
  simp only [zw3, hc, if_true, z80]
  cases ha : z8z k es with
  | none => simp [(z81 ha).1]
  | some i =>
    obtain ⟨h1, ⟨v, h2, h3⟩, _⟩ := z82 ha
    simp [h2, h3, zmj]
def setG (x : Option Blk) (kk : KK) (k v : V) (K : Option Blk → Prop) : Prop := match x with
  | some (.map true es) => (zph kk k && k.isSolid && v.isSolid) = true ∧ match zk9 kk k es with
    | some (some i) => K (some (.map true (es.set i (k, v))))
    | some none => K (some (.map true (es ++ [(k, v)])))
    | none => False
  | _ => False
@[congr] theorem zbts {x x' : Option Blk} {kk : KK} {k v : V} {K : Option Blk → Prop} (h : x = x') : setG x kk k v K = setG x' kk k v K := by rw [h]
theorem zve (H : Heap) (m : Nat) (kk : KK) (k v : V) {Q : V → Heap → Prop} : wp (zin kk (.map (some m)) k v) Q H ↔ setG (H.get m) kk k v fun y => Q undef (H.set m y) := by
  unfold wp setG zin
  cases hc : (zph kk k && k.isSolid && v.isSolid) with
  | false => simp; split <;> simp_all
  | true =>
    simp only [if_true]
    cases hg : H.get m with
    | none => simp
    | some x =>
      cases x with
      | map rw es =>
        cases rw with
        | false => simp
        | true =>
          simp only [true_and]
          cases zk9 kk k es with
          | none => simp
          | some o => cases o with
            | none => constructor
                      · rintro ⟨a, H', h1, h2⟩; cases h1; exact h2
                      · intro h; exact ⟨_, _, rfl, h⟩
            | some i => constructor
                        · rintro ⟨a, H', h1, h2⟩; cases h1; exact h2
                        · intro h; exact ⟨_, _, rfl, h⟩
      | cells rw cs => simp
      | siter s p => simp
theorem z6w (es : List (κ × ω)) (k : κ) (v : ω) (K : Option Blk → Prop) : setG (some (.map true (es.map zmj))) (KeyE.kk κ) (KeyE.enc k) (ValE.enc v) K ↔ K (some (.map true ((zll es k v).map zmj))) := by
  have hc : (zph (KeyE.kk κ) (KeyE.enc k) && (KeyE.enc k : V).isSolid && (ValE.enc v : V).isSolid) = true := by rw [KeyE.fits, KeyE.solid, ValE.solid]; rfl
  simp only [setG, hc, true_and, z80]
  cases ha : z8z k es with
  | none => rw [(z81 ha).2.1 v]; simp [zmj]
  | some i => rw [(z82 ha).2.2.1 v]; simp [List.map_set, zmj]
theorem MapR.keep {S : List Nat} {H H' : Heap} {m : Nat} {es : List (κ × ω)} (h : MapR H m es) (hk : Keeps S H H') (hm : m ∉ S) : MapR H' m es := hk.get h hm
theorem MapR.lt {H : Heap} {m : Nat} {es : List (κ × ω)} (h : MapR H m es) : m < H.next := Heap.get_lt h
end
end Go.AM
