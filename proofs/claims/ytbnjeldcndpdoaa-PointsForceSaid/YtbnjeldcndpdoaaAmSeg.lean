import Derived.Test.YtbnjeldcndpdoaaAmSlc
set_option linter.all false
/- Heaps that are written out: what a block holds is told by rules. -/
namespace Go.AM

namespace Heap
theorem get_push_eq {H : Heap} {x : Option Blk} {b : Nat} (h : b = H.next) : (H.push x).get b = x := by subst h; exact get_push_self H x
theorem get_set_eq {H : Heap} {b : Nat} {x : Option Blk} (h : b < H.next) : (H.set b x).get b = x := get_set_self h
theorem get_set_ne' {H : Heap} {b c : Nat} {x : Option Blk} (h : c ≠ b) : (H.set b x).get c = H.get c := get_set_ne _ _ _ h
theorem set_push_lt {H : Heap} {x y : Option Blk} {b : Nat} (h : b < H.next) : (H.push x).set b y = (H.set b y).push x := by
  refine Heap.same rfl fun c _ => ?_
  rw [get_set', Heap.get_push, Heap.get_push, get_set']
  have e1 : (H.push x).next = H.next + 1 := rfl
  have e2 : (H.set b y).next = H.next := rfl
  rw [e1, e2]
  by_cases q : c = b
  · subst q; rw [if_pos ⟨rfl, by omega⟩, if_neg (by omega), if_pos ⟨rfl, h⟩]
  · rw [if_neg (fun z => q z.1)]
    by_cases q2 : c = H.next
    · rw [if_pos q2, if_pos q2]
    · rw [if_neg q2, if_neg q2, if_neg (fun z => q z.1)]
theorem set_push_eq {H : Heap} {x y : Option Blk} {b : Nat} (h : b = H.next) : (H.push x).set b y = H.push y := by
  subst h
  refine Heap.same rfl fun c _ => ?_
  rw [get_set', Heap.get_push, Heap.get_push]
  have e1 : (H.push x).next = H.next + 1 := rfl
  rw [e1]
  by_cases q : c = H.next
  · rw [if_pos ⟨q, by omega⟩, if_pos q]
  · rw [if_neg (fun z => q z.1), if_neg q, if_neg q]
end Heap

/-- a block, looked at -/
def cellG : Option Blk → Nat → Option V
  | some (.cells _ cs), o => cs[o]?
  | _, _ => none
theorem cellP_get (H : Heap) (b o : Nat) : cellP H (ptr b o) = cellG (H.get b) o := by
  simp only [cellP, Heap.cell]
  split <;> simp_all [cellG]
theorem cellG_cells (rw : Bool) (cs : List V) (o : Nat) : cellG (some (.cells rw cs)) o = cs[o]? := rfl
def stG (x : Option Blk) (o : Nat) (v : V) (k : Option Blk → Prop) : Prop := match x with
  | some (.cells true cs) => v.isOne = true ∧ o < cs.length ∧ k (some (.cells true (cs.set o v)))
  | _ => False
theorem wp_st1g (H : Heap) (b o : Nat) (v : V) {Q : V → Heap → Prop} : wp (st1 (ptr b o) v) Q H ↔ stG (H.get b) o v fun y => Q undef (H.set b y) := by
  unfold stG
  constructor
  · rintro ⟨a, H', h1, h2⟩
    simp only [st1] at h1
    split at h1
    · rename_i cs hg
      rw [hg]
      split at h1
      · rename_i hc
        cases h1
        simp only [Bool.and_eq_true, decide_eq_true_eq] at hc
        exact ⟨hc.1, hc.2, h2⟩
      · cases h1
    · cases h1
  · intro h
    split at h
    · rename_i cs hg
      exact (wp_st1 hg h.1 h.2.1).mpr h.2.2
    · exact h.elim
@[congr] theorem stG_congr {x x' : Option Blk} {o : Nat} {v : V} {k : Option Blk → Prop} (h : x = x') : stG x o v k = stG x' o v k := by rw [h]
theorem stG_c {cs : List V} {o : Nat} {v : V} {k : Option Blk → Prop} (ho : o < cs.length) : stG (some (.cells true cs)) o v k ↔ (v.isOne = true ∧ k (some (.cells true (cs.set o v)))) := by simp [stG, ho]
/-- a value of m cells is laid -/
def stnG (x : Option Blk) (n o : Nat) (v : V) (k : Option Blk → Prop) : Prop := match x, v with
  | some (.cells true cs), .agg vs => vs.toList.all Value.isOne = true ∧ vs.toList.length = n ∧ o + n ≤ cs.length ∧ k (some (.cells true (splice cs o vs.toList)))
  | _, _ => False
theorem wp_stng (H : Heap) (b o n : Nat) (v : V) {Q : V → Heap → Prop} : wp (stn n (ptr b o) v) Q H ↔ stnG (H.get b) n o v fun y => Q undef (H.set b y) := by
  unfold stnG
  constructor
  · rintro ⟨a, H', h1, h2⟩
    simp only [stn] at h1
    split at h1
    · rename_i b' o' vs hp
      cases hp
      split at h1
      · rename_i cs hg
        rw [hg]
        split at h1
        · rename_i hc
          cases h1
          simp only [Bool.and_eq_true, decide_eq_true_eq, beq_iff_eq] at hc
          exact ⟨hc.1.1, hc.1.2, hc.2, h2⟩
        · cases h1
      · cases h1
    · cases h1
  · intro h
    split at h
    · rename_i cs vs hg
      refine ⟨undef, _, ?_, h.2.2.2⟩
      simp only [stn, hg]
      rw [if_pos (by simp [h.1, h.2.1, h.2.2.1])]
    · exact h.elim
@[congr] theorem stnG_congr {x x' : Option Blk} {n o : Nat} {v : V} {k : Option Blk → Prop} (h : x = x') : stnG x n o v k = stnG x' n o v k := by rw [h]
theorem stnG_ok {cs vs : List V} {n o : Nat} {k : Option Blk → Prop} (hv : vs.all Value.isOne = true) (hn : vs.length = n) (ho : o + n ≤ cs.length) : stnG (some (.cells true cs)) n o (.agg vs.toArray) k ↔ k (some (.cells true (splice cs o vs))) := by simp [stnG, hv, hn, ho]
def ldG (x : Option Blk) (n o : Nat) (k : V → Prop) : Prop := match x with
  | some (.cells _ cs) => o + n ≤ cs.length ∧ k (.agg ((cs.drop o).take n).toArray)
  | _ => False
theorem wp_ldng (H : Heap) (b o n : Nat) {Q : V → Heap → Prop} : wp (ldn n (ptr b o)) Q H ↔ ldG (H.get b) n o fun y => Q y H := by
  unfold ldG
  constructor
  · rintro ⟨a, H', h1, h2⟩
    simp only [ldn, cellsAt] at h1
    split at h1
    · rename_i l hl
      cases h1
      split at hl
      · rename_i rw cs hg
        rw [hg]
        split at hl
        · rename_i hc; cases hl; exact ⟨hc, h2⟩
        · cases hl
      · cases hl
    · cases h1
  · intro h
    split at h
    · rename_i rw cs hg
      exact (wp_ldn hg h.1).mpr h.2
    · exact h.elim
@[congr] theorem ldG_congr {x x' : Option Blk} {n o : Nat} {k : V → Prop} (h : x = x') : ldG x n o k = ldG x' n o k := by rw [h]
theorem ldG_ok {rw : Bool} {cs : List V} {n o : Nat} {k : V → Prop} (ho : o + n ≤ cs.length) : ldG (some (.cells rw cs)) n o k ↔ k (.agg ((cs.drop o).take n).toArray) := by simp [ldG, ho]
theorem wp_newcg {cs : List V} {H : Heap} {Q : V → Heap → Prop} (h : cs.all flatV = true) : wp (newc cs) Q H ↔ Q (ptr H.next 0) (H.push (some (.cells true cs))) := wp_newc h
theorem wp_boxg {vs : List V} {H : Heap} {Q : V → Heap → Prop} (h : vs.all Value.isOne = true) : wp (boxv (.agg vs.toArray)) Q H ↔ Q (ptr H.next 0) (H.push (some (.cells true vs))) := by
  have hc : (Value.agg vs.toArray).cells.toList = vs := by simp [Value.cells]
  constructor
  · rintro ⟨a, H', h1, h2⟩
    unfold boxv at h1
    rw [hc, if_pos h] at h1
    cases h1; exact h2
  · intro hq; exact ⟨_, _, by unfold boxv; rw [hc, if_pos h], hq⟩
theorem wp_box1 {v : V} {H : Heap} {Q : V → Heap → Prop} (h : v.isOne = true) : wp (boxv v) Q H ↔ Q (ptr H.next 0) (H.push (some (.cells true [v]))) := by
  have hc : v.cells.toList = [v] := by rw [cells_one h]
  constructor
  · rintro ⟨a, H', h1, h2⟩
    unfold boxv at h1
    rw [hc] at h1
    rw [if_pos (by simp [h])] at h1
    cases h1; exact h2
  · intro hq; exact ⟨_, _, by unfold boxv; rw [hc, if_pos (by simp [h])], hq⟩
theorem fld1_agg (off : Nat) (vs : List V) : fld1 off (.agg vs.toArray) = vs[off]? := by simp [fld1]
theorem fldn_agg {off n : Nat} {vs : List V} (h : off + n ≤ vs.length) : fldn off n (.agg vs.toArray) = some (.agg ((vs.drop off).take n).toArray) := by simp [fldn, h]
theorem ext_tuple (i : Nat) (vs : List V) : ext i (.tuple vs.toArray) = vs[i]? := by simp [ext]

section
variable {α : Type} [DecidableEq α] {x y : α} {p : Prop} [Decidable p]
theorem condM_nf {a b : M Out} (h : p) : condM (.bool (decide (¬ p))) a b = b := by simp [h]
theorem condM_nef {a b : M Out} (h : x = y) : condM (.bool (decide (x ≠ y))) a b = b := by simp [h]
theorem gd_nef {m : M V} (h : x = y) : gd (.bool (decide (x ≠ y))) true m = ret skipV := by simp [h]
theorem gdf_nef {m : M V} (h : x = y) : gd (.bool (decide (x ≠ y))) false m = m := by simp [h]
theorem pick_nef {a b : V} (h : x = y) : pickV (.bool (decide (x ≠ y))) a b = some b := by simp [h]
end

/-! conditions that are not told: two ways -/
section
variable {p : Prop} [Decidable p] {Q : Out → Heap → Prop} {QV : V → Heap → Prop} {QQ : V → Prop} {H : Heap}
end
section
variable {c : Bool} {Q : Out → Heap → Prop} {QV : V → Heap → Prop} {QQ : V → Prop} {H : Heap}
end
section
variable {p : Prop} [Decidable p] {Q : Out → Heap → Prop} {QV : V → Heap → Prop} {QQ : V → Prop} {H : Heap}
theorem wp_cond_split {a b : M Out} (h1 : p → wp a Q H) (h2 : ¬ p → wp b Q H) : wp (condM (.bool (decide p)) a b) Q H := by by_cases h : p <;> simp_all
theorem wp_gd_split {m : M V} (h1 : p → wp m QV H) (h2 : ¬ p → QV skipV H) : wp (gd (.bool (decide p)) true m) QV H := by by_cases h : p <;> simp_all
theorem wp_gdf_split {m : M V} (h1 : p → QV skipV H) (h2 : ¬ p → wp m QV H) : wp (gd (.bool (decide p)) false m) QV H := by by_cases h : p <;> simp_all
theorem wpO_pick_split {x y : V} (h1 : p → QQ x) (h2 : ¬ p → QQ y) : wpO (pickV (.bool (decide p)) x y) QQ := by by_cases h : p <;> simp_all
end
section
variable {c : Bool} {Q : Out → Heap → Prop} {QV : V → Heap → Prop} {QQ : V → Prop} {H : Heap}
theorem wp_cond_bs {a b : M Out} (h1 : c = true → wp a Q H) (h2 : c = false → wp b Q H) : wp (condM (.bool c) a b) Q H := by cases c <;> simp_all
theorem wp_gd_bs {m : M V} (h1 : c = true → wp m QV H) (h2 : c = false → QV skipV H) : wp (gd (.bool c) true m) QV H := by cases c <;> simp_all
theorem wp_gdf_bs {m : M V} (h1 : c = true → QV skipV H) (h2 : c = false → wp m QV H) : wp (gd (.bool c) false m) QV H := by cases c <;> simp_all
theorem wpO_pick_bs {x y : V} (h1 : c = true → QQ x) (h2 : c = false → QQ y) : wpO (pickV (.bool c) x y) QQ := by cases c <;> simp_all
end
/-- a run without memory -/
theorem eq_ret {α : Type} {m : M α} {v : α} (h : ∀ H, wp m (fun r H' => r = v ∧ H' = H) H) : m = ret v := by
  funext H
  obtain ⟨a, H', h1, rfl, rfl⟩ := h H
  exact h1
theorem q_of {Q : V → Heap → Prop} {v v' : V} {H : Heap} (h : Q v H) (e : v = v') : Q v' H := e ▸ h
theorem outV_nil : outV [] = .tuple #[] := rfl
theorem outV_two (a b : V) : outV [a, b] = .tuple #[a, b] := rfl
theorem outV_three (a b c : V) : outV [a, b, c] = .tuple #[a, b, c] := rfl
theorem outV_four (a b c d : V) : outV [a, b, c, d] = .tuple #[a, b, c, d] := rfl
theorem chk_ld1g (b o : Nat) (H : Heap) (v : V) : chk (ld1 (ptr b o)) H v = chkO (cellG (H.get b) o) v := by rw [chk_ld1, cellP_get]

/-! what is kept -/
theorem keeps_push {S : List Nat} {H0 H : Heap} {x : Option Blk} (h : Keeps S H0 H) : Keeps S H0 (H.push x) :=
  ⟨by have := h.next; simp; omega, fun b hb hn => by rw [Heap.get_push_lt (by have := h.next; omega), h.same b hb hn]⟩
theorem keeps_set {S : List Nat} {H0 H : Heap} {b : Nat} {x : Option Blk} (h : Keeps S H0 H) (hb : b ∈ S ∨ H0.next ≤ b) : Keeps S H0 (H.set b x) :=
  ⟨by have := h.next; simp; omega, fun c hc hn => by
    have : c ≠ b := fun e => by subst e; rcases hb with hb | hb; exact hn hb; omega
    rw [Heap.get_set_ne _ _ _ this, h.same c hc hn]⟩
end Go.AM

/- Slices of one-cell elements, somewhere in a block that one owns. -/
namespace Go.AM

def Seg (H : Heap) (v : V) (l : List V) : Prop := (v = .slice none 0 0 ∧ l = []) ∨ ∃ b o c cs, v = slc b o 1 l.length c ∧ l.length ≤ c ∧ H.get b = some (.cells true cs) ∧ (l = [] ∨ (o + l.length ≤ cs.length ∧ (cs.drop o).take l.length = l))

theorem Seg.nil (H : Heap) : Seg H (.slice none 0 0) [] := .inl ⟨rfl, rfl⟩
theorem Seg.keep {S : List Nat} {H H' : Heap} {v : V} {l : List V} (h : Seg H v l) (hk : Keeps S H H') (hn : ∀ b ∈ vb v, b ∉ S) : Seg H' v l := by
  rcases h with h | ⟨b, o, c, cs, rfl, hc, hb, hl⟩
  · exact .inl h
  · exact .inr ⟨b, o, c, cs, rfl, hc, hk.get hb (hn b (by simp)), hl⟩
theorem Seg.same {H H' : Heap} {v : V} {l : List V} (h : Seg H v l) (hs : ∀ b ∈ vb v, H'.get b = H.get b) : Seg H' v l := by
  rcases h with h | ⟨b, o, c, cs, rfl, hc, hb, hl⟩
  · exact .inl h
  · exact .inr ⟨b, o, c, cs, rfl, hc, by rw [hs b (by simp)]; exact hb, hl⟩
theorem Seg.len {H : Heap} {v : V} {l : List V} (h : Seg H v l) : lenSlc v = some (i64 l.length) := by
  rcases h with ⟨rfl, rfl⟩ | ⟨b, o, c, cs, rfl, hc, hb, hl⟩ <;> rfl
theorem Seg.lt {H : Heap} {v : V} {l : List V} (h : Seg H v l) : ∀ b ∈ vb v, b < H.next := by
  rcases h with ⟨rfl, rfl⟩ | ⟨b, o, c, cs, rfl, hc, hb, hl⟩
  · simp
  · simpa using Heap.get_lt hb
theorem Seg.isOne {H : Heap} {v : V} {l : List V} (h : Seg H v l) : v.isOne = true := by
  rcases h with ⟨rfl, rfl⟩ | ⟨b, o, c, cs, rfl, _⟩ <;> rfl
theorem Seg.cells {H : Heap} {v : V} {l : List V} (h : Seg H v l) : cellsOfSlice H 1 v = some l := by
  rcases h with ⟨rfl, rfl⟩ | ⟨b, o, c, cs, rfl, hc, hb, hl⟩
  · rfl
  · simp only [cellsOfSlice]
    by_cases h0 : l.length = 0
    · rw [if_pos h0, List.eq_nil_of_length_eq_zero h0]
    · rw [if_neg h0]
      rcases hl with rfl | ⟨h1, h2⟩
      · simp at h0
      · simp [cellsAt, hb, h1, h2]
theorem Seg.addr {H : Heap} {v : V} {l : List V} (h : Seg H v l) {k : IntKind} {i : Int} (h0 : 0 ≤ i) (hi : i < l.length) : iaddrS 1 v (.int k i) = some (ptr (slB v) (slO v + i.toNat)) := by
  rcases h with ⟨rfl, rfl⟩ | ⟨b, o, c, cs, rfl, _⟩
  · simp at hi; omega
  · have := iaddrS_slc (b := b) (o := o) (u := 1) (cap := c) (size := 1) (k := k) h0 hi
    rw [Nat.mul_one] at this; exact this
theorem Seg.cell {H : Heap} {v : V} {l : List V} (h : Seg H v l) {i : Nat} (hi : i < l.length) : cellP H (ptr (slB v) (slO v + i)) = l[i]? := by
  rcases h with ⟨rfl, rfl⟩ | ⟨b, o, c, cs, rfl, hc, hb, hl⟩
  · simp at hi
  · rcases hl with rfl | ⟨h1, h2⟩
    · simp at hi
    · show cellP H (ptr b (o + i)) = _
      rw [cellP_ptr hb]
      have : ((cs.drop o).take l.length)[i]? = l[i]? := by rw [h2]
      rw [List.getElem?_take, if_pos hi, List.getElem?_drop] at this
      exact this

/-- v[lo:hi] -/
theorem Seg.sub {H : Heap} {v : V} {l : List V} (h : Seg H v l) {lo hi : Option V} {a b : Nat} (hlo : bound 0 b lo = some a) (hhi : ∀ c, l.length ≤ c → bound l.length c hi = some b) (h1 : a ≤ b) (h2 : b ≤ l.length) : ∃ w, subV 1 v lo hi = some w ∧ Seg H w ((l.drop a).take (b - a)) ∧ (∀ x ∈ vb w, x ∈ vb v) ∧ w.isOne = true := by
  have hlen : ((l.drop a).take (b - a)).length = b - a := by simp; omega
  rcases h with ⟨rfl, rfl⟩ | ⟨blk, o, c, cs, rfl, hc, hb, hl⟩
  · simp only [List.length_nil] at h2 hhi
    have hb0 : b = 0 := by omega
    subst hb0
    have ha0 : a = 0 := by omega
    subst ha0
    exact ⟨.slice none 0 0, by simp [subV, hhi 0 (Nat.le_refl _), hlo], .inl ⟨rfl, by simp⟩, fun x hx => hx, rfl⟩
  · refine ⟨cutAt blk o 1 a b c 1, ?_, ?_, ?_, ?_⟩
    · simp only [subV, hhi c hc, hlo]
      simp
    · unfold cutAt
      split
      · rename_i hca
        have : b = a := by omega
        subst this
        refine .inr ⟨blk, o, c - b, cs, by simp, by simp, hb, .inl (by simp)⟩
      · refine .inr ⟨blk, o + a * 1, c - a, cs, by rw [hlen], by rw [hlen]; omega, hb, ?_⟩
        rcases hl with rfl | ⟨q1, q2⟩
        · left; simp
        · right
          rw [hlen]
          refine ⟨by omega, ?_⟩
          conv => rhs; rw [← q2]
          rw [List.drop_take, List.take_take, List.drop_drop, Nat.mul_one]
          congr 1
          omega
    · unfold cutAt; split <;> simp
    · unfold cutAt; split <;> rfl

/-! structs that are built -/
theorem build_eq {zero : List V} {parts : List (Nat × Nat × V)} (h : zero.all flatV = true) : build zero parts = (fillA zero parts).map fun cs => .agg cs.toArray := by
  simp only [build, h, if_true]
  cases fillA zero parts <;> rfl
theorem fillA_nil (cs : List V) : fillA cs [] = some cs := rfl
theorem fillA_one {cs : List V} {off : Nat} {v : V} {rest : List (Nat × Nat × V)} (hv : v.isOne = true) (h : off < cs.length) : fillA cs ((off, 1, v) :: rest) = fillA (cs.set off v) rest := by
  have hc : v.cells.toList = [v] := by rw [cells_one hv]
  have hs : v.cells.size = 1 := by rw [cells_one hv]; rfl
  simp only [fillA, hc, hs]
  rw [if_pos (by simp [hv]; omega)]
  congr 1
  simp only [splice, List.length_singleton]
  rw [List.set_eq_take_append_cons_drop, if_pos h]
  rfl
theorem fillA_slc {cs : List V} {off : Nat} {a : Option Addr} {n c : Nat} {rest : List (Nat × Nat × V)} (h : off < cs.length) : fillA cs ((off, 1, .slice a n c) :: rest) = fillA (cs.set off (.slice a n c)) rest := fillA_one rfl h
theorem fillA_int {cs : List V} {off : Nat} {k : IntKind} {n : Int} {rest : List (Nat × Nat × V)} (h : off < cs.length) : fillA cs ((off, 1, .int k n) :: rest) = fillA (cs.set off (.int k n)) rest := fillA_one rfl h
theorem fillA_str {cs : List V} {off : Nat} {s : ByteArray} {rest : List (Nat × Nat × V)} (h : off < cs.length) : fillA cs ((off, 1, .string s) :: rest) = fillA (cs.set off (.string s)) rest := fillA_one rfl h
theorem fillA_bool {cs : List V} {off : Nat} {b : Bool} {rest : List (Nat × Nat × V)} (h : off < cs.length) : fillA cs ((off, 1, .bool b) :: rest) = fillA (cs.set off (.bool b)) rest := fillA_one rfl h
theorem fillA_ptr {cs : List V} {off : Nat} {a : Option Addr} {rest : List (Nat × Nat × V)} (h : off < cs.length) : fillA cs ((off, 1, .pointer a) :: rest) = fillA (cs.set off (.pointer a)) rest := fillA_one rfl h
theorem fillA_map {cs : List V} {off : Nat} {a : Option Nat} {rest : List (Nat × Nat × V)} (h : off < cs.length) : fillA cs ((off, 1, .map a) :: rest) = fillA (cs.set off (.map a)) rest := fillA_one rfl h
theorem fillA_agg {cs vs : List V} {off n : Nat} {rest : List (Nat × Nat × V)} (hv : vs.all Value.isOne = true) (hn : vs.length = n) (h : off + n ≤ cs.length) : fillA cs ((off, n, .agg vs.toArray) :: rest) = fillA (splice cs off vs) rest := by
  have hc : (Value.agg vs.toArray).cells.toList = vs := by simp [Value.cells]
  have hs : (Value.agg vs.toArray).cells.size = n := by simp [Value.cells, hn]
  simp only [fillA, hc, hs]
  rw [if_pos (by simp [hv]; omega)]

/-! blocks that are kept free for floating makes -/
theorem resv_one (H : Heap) : resv H 1 = H.push none := rfl
theorem resv_two (H : Heap) : resv H 2 = (H.push none).push none := rfl
theorem freeIn_nil (H : Heap) : freeIn H [] = true := rfl
theorem freeIn_cons {H : Heap} {b : Nat} {bs : List Nat} (h : H.get b = none) (hl : b < H.next) : freeIn H (b :: bs) = freeIn H bs := by
  have : Nat.blt b H.next = true := by simpa [Nat.blt_eq] using hl
  simp [freeIn, h, this]
theorem wp_flt_mkslc {id size bytes n c : Nat} {zero : List V} {k k' : IntKind} {H : Heap} {Q : V → Heap → Prop} (h : H.get id = none) (hl : id < H.next) (hz : zero.all flatV = true) (h1 : n ≤ c) (h2 : c ≤ 140737488355328) (h3 : bytes * c ≤ 140737488355328) (hQ : Q (slc id 0 size n c) (H.set id (some (.cells true (rep c zero))))) : wp (flt id (mkslc size bytes zero (.int k n) (.int k' c))) Q H := by
  have e : mkslc size bytes zero (.int k n) (.int k' c) Heap.none0 = some (slc 0 0 size n c, Heap.one (.cells true (rep c zero))) := by
    simp only [mkslc]
    rw [if_pos ⟨hz, by omega, by omega, by omega, by rw [← Int.natCast_mul]; omega⟩, Int.toNat_natCast, Int.toNat_natCast]
    rfl
  have : Nat.blt id H.next = true := by simpa [Nat.blt_eq] using hl
  exact ⟨_, _, by simp only [flt, e, Heap.one?_one, h, this, cond_true, reloc], hQ⟩
theorem rep_encs {α : Type} [Flat α] (x : α) (zero : List V) (hz : zero = Flat.enc x) : ∀ n, rep n zero = encs (List.replicate n x)
  | 0 => rfl
  | n + 1 => by rw [rep, rep_encs x zero hz n, List.replicate_succ, encs_cons, hz]
end Go.AM
