import Derived.Test.YtbnjeldcndpdoaaAmSlc
set_option linter.all false
/- Heaps that are written out: what a block holds is told by rules. -/
namespace Go.AM

namespace Heap
theorem get_push_eq {H : Heap} {x : Option Blk} {b : Nat} (h : b = H.next) : (H.push x).get b = x := by subst h; exact get_push_self H x
theorem get_set_eq {H : Heap} {b : Nat} {x : Option Blk} (h : b < H.next) : (H.set b x).get b = x := get_set_self h
theorem get_set_ne' {H : Heap} {b c : Nat} {x : Option Blk} (h : c ≠ b) : (H.set b x).get c = H.get c := get_set_ne _ _ _ h
theorem set_push_lt {H : Heap} {x y : Option Blk} {b : Nat} (h : b < H.next) : (H.push x).set b y = (H.set b y).push x := by
  refine Heap.same rfl fun c _ => ?_
  rw [get_set', Heap.get_push, Heap.get_push, get_set']
  have e1 : (H.push x).next = H.next + 1 := rfl
  have e2 : (H.set b y).next = H.next := rfl
  rw [e1, e2]
  by_cases q : c = b
  · subst q; rw [if_pos ⟨rfl, by omega⟩, if_neg (by omega), if_pos ⟨rfl, h⟩]
  · rw [if_neg (fun z => q z.1)]
    by_cases q2 : c = H.next
    · rw [if_pos q2, if_pos q2]
    · rw [if_neg q2, if_neg q2, if_neg (fun z => q z.1)]
theorem set_push_eq {H : Heap} {x y : Option Blk} {b : Nat} (h : b = H.next) : (H.push x).set b y = H.push y := by
  subst h
  refine Heap.same rfl fun c _ => ?_
  rw [get_set', Heap.get_push, Heap.get_push]
  have e1 : (H.push x).next = H.next + 1 := rfl
  rw [e1]
  by_cases q : c = H.next
  · rw [if_pos ⟨q, by omega⟩, if_pos q]
  · rw [if_neg (fun z => q z.1), if_neg q, if_neg q]
end Heap

/-- a block, looked at -/
def cellG : Option Blk → Nat → Option V
  | some (.cells _ cs), o => cs[o]?
  | _, _ => none
theorem cellP_get (H : Heap) (b o : Nat) : cellP H (ptr b o) = cellG (H.get b) o := by
  simp only [cellP, Heap.cell]
  split <;> simp_all [cellG]
theorem cellG_cells (rw : Bool) (cs : List V) (o : Nat) : cellG (some (.cells rw cs)) o = cs[o]? := rfl
def stG (x : Option Blk) (o : Nat) (v : V) (k : Option Blk → Prop) : Prop := match x with
  | some (.cells true cs) => v.isOne = true ∧ o < cs.length ∧ k (some (.cells true (cs.set o v)))
  | _ => False
theorem wp_st1g (H : Heap) (b o : Nat) (v : V) {Q : V → Heap → Prop} : wp (st1 (ptr b o) v) Q H ↔ stG (H.get b) o v fun y => Q undef (H.set b y) := by
  unfold stG
  constructor
  · rintro ⟨a, H', h1, h2⟩
    simp only [st1] at h1
    split at h1
    · rename_i cs hg
      rw [hg]
      split at h1
      · rename_i hc
        cases h1
        simp only [Bool.and_eq_true, decide_eq_true_eq] at hc
        exact ⟨hc.1, hc.2, h2⟩
      · cases h1
    · cases h1
  · intro h
    split at h
    · rename_i cs hg
      exact (wp_st1 hg h.1 h.2.1).mpr h.2.2
    · exact h.elim
@[congr] theorem stG_congr {x x' : Option Blk} {o : Nat} {v : V} {k : Option Blk → Prop} (h : x = x') : stG x o v k = stG x' o v k := by rw [h]
theorem stG_c {cs : List V} {o : Nat} {v : V} {k : Option Blk → Prop} (ho : o < cs.length) : stG (some (.cells true cs)) o v k ↔ (v.isOne = true ∧ k (some (.cells true (cs.set o v)))) := by simp [stG, ho]
/-- a value of m cells is laid -/
def stnG (x : Option Blk) (n o : Nat) (v : V) (k : Option Blk → Prop) : Prop := match x, v with
  | some (.cells true cs), .agg vs => vs.toList.all Value.isOne = true ∧ vs.toList.length = n ∧ o + n ≤ cs.length ∧ k (some (.cells true (splice cs o vs.toList)))
  | _, _ => False
theorem wp_stng (H : Heap) (b o n : Nat) (v : V) {Q : V → Heap → Prop} : wp (stn n (ptr b o) v) Q H ↔ stnG (H.get b) n o v fun y => Q undef (H.set b y) := by
  unfold stnG
  constructor
  · rintro ⟨a, H', h1, h2⟩
    simp only [stn] at h1
    split at h1
    · rename_i b' o' vs hp
      cases hp
      split at h1
      · rename_i cs hg
        rw [hg]
        split at h1
        · rename_i hc
          cases h1
          simp only [Bool.and_eq_true, decide_eq_true_eq, beq_iff_eq] at hc
          exact ⟨hc.1.1, hc.1.2, hc.2, h2⟩
        · cases h1
      · cases h1
    · cases h1
  · intro h
    split at h
    · rename_i cs vs hg
      refine ⟨undef, _, ?_, h.2.2.2⟩
      simp only [stn, hg]
      rw [if_pos (by simp [h.1, h.2.1, h.2.2.1])]
    · exact h.elim
@[congr] theorem stnG_congr {x x' : Option Blk} {n o : Nat} {v : V} {k : Option Blk → Prop} (h : x = x') : stnG x n o v k = stnG x' n o v k := by rw [h]
theorem stnG_ok {cs vs : List V} {n o : Nat} {k : Option Blk → Prop} (hv : vs.all Value.isOne = true) (hn : vs.length = n) (ho : o + n ≤ cs.length) : stnG (some (.cells true cs)) n o (.agg vs.toArray) k ↔ k (some (.cells true (splice cs o vs))) := by simp [stnG, hv, hn, ho]
def ldG (x : Option Blk) (n o : Nat) (k : V → Prop) : Prop := match x with
  | some (.cells _ cs) => o + n ≤ cs.length ∧ k (.agg ((cs.drop o).take n).toArray)
  | _ => False
theorem wp_ldng (H : Heap) (b o n : Nat) {Q : V → Heap → Prop} : wp (ldn n (ptr b o)) Q H ↔ ldG (H.get b) n o fun y => Q y H := by
  unfold ldG
  constructor
  · rintro ⟨a, H', h1, h2⟩
    simp only [ldn, cellsAt] at h1
    split at h1
    · rename_i l hl
      cases h1
      split at hl
      · rename_i rw cs hg
        rw [hg]
        split at hl
        · rename_i hc; cases hl; exact ⟨hc, h2⟩
        · cases hl
      · cases hl
    · cases h1
  · intro h
    split at h
    · rename_i rw cs hg
      exact (wp_ldn hg h.1).mpr h.2
    · exact h.elim
@[congr] theorem ldG_congr {x x' : Option Blk} {n o : Nat} {k : V → Prop} (h : x = x') : ldG x n o k = ldG x' n o k := by rw [h]
theorem ldG_ok {rw : Bool} {cs : List V} {n o : Nat} {k : V → Prop} (ho : o + n ≤ cs.length) : ldG (some (.cells rw cs)) n o k ↔ k (.agg ((cs.drop o).take n).toArray) := by simp [ldG, ho]
theorem wp_newcg {cs : List V} {H : Heap} {Q : V → Heap → Prop} (h : cs.all flatV = true) : wp (newc cs) Q H ↔ Q (ptr H.next 0) (H.push (some (.cells true cs))) := wp_newc h
theorem wp_boxg {vs : List V} {H : Heap} {Q : V → Heap → Prop} (h : vs.all Value.isOne = true) : wp (boxv (.agg vs.toArray)) Q H ↔ Q (ptr H.next 0) (H.push (some (.cells true vs))) := by
  have hc : (Value.agg vs.toArray).cells.toList = vs := by simp [Value.cells]
  constructor
  · rintro ⟨a, H', h1, h2⟩
    unfold boxv at h1
    rw [hc, if_pos h] at h1
    cases h1; exact h2
  · intro hq; exact ⟨_, _, by unfold boxv; rw [hc, if_pos h], hq⟩
theorem wp_box1 {v : V} {H : Heap} {Q : V → Heap → Prop} (h : v.isOne = true) : wp (boxv v) Q H ↔ Q (ptr H.next 0) (H.push (some (.cells true [v]))) := by
  have hc : v.cells.toList = [v] := by rw [cells_one h]
  constructor
  · rintro ⟨a, H', h1, h2⟩
    unfold boxv at h1
    rw [hc] at h1
    rw [if_pos (by simp [h])] at h1
    cases h1; exact h2
  · intro hq; exact ⟨_, _, by unfold boxv; rw [hc, if_pos (by simp [h])], hq⟩
theorem fld1_agg (off : Nat) (vs : List V) : fld1 off (.agg vs.toArray) = vs[off]? := by simp [fld1]
theorem fldn_agg {off n : Nat} {vs : List V} (h : off + n ≤ vs.length) : fldn off n (.agg vs.toArray) = some (.agg ((vs.drop off).take n).toArray) := by simp [fldn, h]
theorem ext_tuple (i : Nat) (vs : List V) : ext i (.tuple vs.toArray) = vs[i]? := by simp [ext]

section
variable {α : Type} [DecidableEq α] {x y : α} {p : Prop} [Decidable p]
theorem condM_nf {a b : M Out} (h : p) : condM (.bool (decide (¬ p))) a b = b := by simp [h]
theorem condM_nef {a b : M Out} (h : x = y) : condM (.bool (decide (x ≠ y))) a b = b := by simp [h]
theorem gd_nef {m : M V} (h : x = y) : gd (.bool (decide (x ≠ y))) true m = ret skipV := by simp [h]
theorem gdf_nef {m : M V} (h : x = y) : gd (.bool (decide (x ≠ y))) false m = m := by simp [h]
theorem pick_nef {a b : V} (h : x = y) : pickV (.bool (decide (x ≠ y))) a b = some b := by simp [h]
end

/-! conditions that are not told: two ways -/
section
variable {p : Prop} [Decidable p] {Q : Out → Heap → Prop} {QV : V → Heap → Prop} {QQ : V → Prop} {H : Heap}
end
section
variable {c : Bool} {Q : Out → Heap → Prop} {QV : V → Heap → Prop} {QQ : V → Prop} {H : Heap}
end
section
variable {p : Prop} [Decidable p] {Q : Out → Heap → Prop} {QV : V → Heap → Prop} {QQ : V → Prop} {H : Heap}
theorem wp_cond_split {a b : M Out} (h1 : p → wp a Q H) (h2 : ¬ p → wp b Q H) : wp (condM (.bool (decide p)) a b) Q H := by by_cases h : p <;> simp_all
theorem wp_gd_split {m : M V} (h1 : p → wp m QV H) (h2 : ¬ p → QV skipV H) : wp (gd (.bool (decide p)) true m) QV H := by by_cases h : p <;> simp_all
theorem wp_gdf_split {m : M V} (h1 : p → QV skipV H) (h2 : ¬ p → wp m QV H) : wp (gd (.bool (decide p)) false m) QV H := by by_cases h : p <;> simp_all
theorem wpO_pick_split {x y : V} (h1 : p → QQ x) (h2 : ¬ p → QQ y) : wpO (pickV (.bool (decide p)) x y) QQ := by by_cases h : p <;> simp_all
end
section
variable {c : Bool} {Q : Out → Heap → Prop} {QV : V → Heap → Prop} {QQ : V → Prop} {H : Heap}
theorem wp_cond_bs {a b : M Out} (h1 : c = true → wp a Q H) (h2 : c = false → wp b Q H) : wp (condM (.bool c) a b) Q H := by cases c <;> simp_all
theorem wp_gd_bs {m : M V} (h1 : c = true → wp m QV H) (h2 : c = false → QV skipV H) : wp (gd (.bool c) true m) QV H := by cases c <;> simp_all
theorem wp_gdf_bs {m : M V} (h1 : c = true → QV skipV H) (h2 : c = false → wp m QV H) : wp (gd (.bool c) false m) QV H := by cases c <;> simp_all
theorem wpO_pick_bs {x y : V} (h1 : c = true → QQ x) (h2 : c = false → QQ y) : wpO (pickV (.bool c) x y) QQ := by cases c <;> simp_all
end
/-- a run without memory -/
theorem eq_ret {α : Type} {m : M α} {v : α} (h : ∀ H, wp m (fun r H' => r = v ∧ H' = H) H) : m = ret v := by
  funext H
  obtain ⟨a, H', h1, rfl, rfl⟩ := h H
  exact h1
theorem q_of {Q : V → Heap → Prop} {v v' : V} {H : Heap} (h : Q v H) (e : v = v') : Q v' H := e ▸ h
theorem outV_nil : outV [] = .tuple #[] := rfl
theorem outV_two (a b : V) : outV [a, b] = .tuple #[a, b] := rfl
theorem outV_three (a b c : V) : outV [a, b, c] = .tuple #[a, b, c] := rfl
theorem outV_four (a b c d : V) : outV [a, b, c, d] = .tuple #[a, b, c, d] := rfl
theorem chk_ld1g (b o : Nat) (H : Heap) (v : V) : chk (ld1 (ptr b o)) H v = chkO (cellG (H.get b) o) v := by rw [chk_ld1, cellP_get]

/-! what is kept -/
theorem keeps_push {S : List Nat} {H0 H : Heap} {x : Option Blk} (h : Keeps S H0 H) : Keeps S H0 (H.push x) :=
  ⟨by have := h.next; simp; omega, fun b hb hn => by rw [Heap.get_push_lt (by have := h.next; omega), h.same b hb hn]⟩
theorem keeps_set {S : List Nat} {H0 H : Heap} {b : Nat} {x : Option Blk} (h : Keeps S H0 H) (hb : b ∈ S ∨ H0.next ≤ b) : Keeps S H0 (H.set b x) :=
  ⟨by have := h.next; simp; omega, fun c hc hn => by
    have : c ≠ b := fun e => by subst e; rcases hb with hb | hb; exact hn hb; omega
    rw [Heap.get_set_ne _ _ _ this, h.same c hc hn]⟩
end Go.AM

/- Slices of one-cell elements, somewhere in a block that one owns. -/
namespace Go.AM

def Seg (H : Heap) (v : V) (l : List V) : Prop := (v = .slice none 0 0 ∧ l = []) ∨ ∃ b o c cs, v = slc b o 1 l.length c ∧ l.length ≤ c ∧ H.get b = some (.cells true cs) ∧ (l = [] ∨ (o + l.length ≤ cs.length ∧ (cs.drop o).take l.length = l))

theorem Seg.nil (H : Heap) : Seg H (.slice none 0 0) [] := .inl ⟨rfl, rfl⟩
theorem Seg.keep {S : List Nat} {H H' : Heap} {v : V} {l : List V} (h : Seg H v l) (hk : Keeps S H H') (hn : ∀ b ∈ vb v, b ∉ S) : Seg H' v l := by
  rcases h with h | ⟨b, o, c, cs, rfl, hc, hb, hl⟩
  · exact .inl h
  · exact .inr ⟨b, o, c, cs, rfl, hc, hk.get hb (hn b (by simp)), hl⟩
theorem Seg.same {H H' : Heap} {v : V} {l : List V} (h : Seg H v l) (hs : ∀ b ∈ vb v, H'.get b = H.get b) : Seg H' v l := by
  rcases h with h | ⟨b, o, c, cs, rfl, hc, hb, hl⟩
  · exact .inl h
  · exact .inr ⟨b, o, c, cs, rfl, hc, by rw [hs b (by simp)]; exact hb, hl⟩
theorem Seg.len {H : Heap} {v : V} {l : List V} (h : Seg H v l) : lenSlc v = some (i64 l.length) := by
  rcases h with ⟨rfl, rfl⟩ | ⟨b, o, c, cs, rfl, hc, hb, hl⟩ <;> rfl
theorem Seg.lt {H : Heap} {v : V} {l : List V} (h : Seg H v l) : ∀ b ∈ vb v, b < H.next := by
  rcases h with ⟨rfl, rfl⟩ | ⟨b, o, c, cs, rfl, hc, hb, hl⟩
  · simp
  · simpa using Heap.get_lt hb
theorem Seg.isOne {H : Heap} {v : V} {l : List V} (h : Seg H v l) : v.isOne = true := by
  rcases h with ⟨rfl, rfl⟩ | ⟨b, o, c, cs, rfl, _⟩ <;> rfl
theorem Seg.cells {H : Heap} {v : V} {l : List V} (h : Seg H v l) : cellsOfSlice H 1 v = some l := by
  rcases h with ⟨rfl, rfl⟩ | ⟨b, o, c, cs, rfl, hc, hb, hl⟩
  · rfl
  · simp only [cellsOfSlice]
    by_cases h0 : l.length = 0
    · rw [if_pos h0, List.eq_nil_of_length_eq_zero h0]
    · rw [if_neg h0]
      rcases hl with rfl | ⟨h1, h2⟩
      · simp at h0
      · simp [cellsAt, hb, h1, h2]
theorem Seg.addr {H : Heap} {v : V} {l : List V} (h : Seg H v l) {k : IntKind} {i : Int} (h0 : 0 ≤ i) (hi : i < l.length) : iaddrS 1 v (.int k i) = some (ptr (slB v) (slO v + i.toNat)) := by
  rcases h with ⟨rfl, rfl⟩ | ⟨b, o, c, cs, rfl, _⟩
  · simp at hi; omega
  · have := iaddrS_slc (b := b) (o := o) (u := 1) (cap := c) (size := 1) (k := k) h0 hi
    rw [Nat.mul_one] at this; exact this
theorem Seg.cell {H : Heap} {v : V} {l : List V} (h : Seg H v l) {i : Nat} (hi : i < l.length) : cellP H (ptr (slB v) (slO v + i)) = l[i]? := by
  rcases h with ⟨rfl, rfl⟩ | ⟨b, o, c, cs, rfl, hc, hb, hl⟩
  · simp at hi
  · rcases hl with rfl | ⟨h1, h2⟩
    · simp at hi
    · show cellP H (ptr b (o + i)) = _
      rw [cellP_ptr hb]
      have : ((cs.drop o).take l.length)[i]? = l[i]? := by rw [h2]
      rw [List.getElem?_take, if_pos hi, List.getElem?_drop] at this
      exact this

/-- v[lo:hi] -/
theorem Seg.sub {H : Heap} {v : V} {l : List V} (h : Seg H v l) {lo hi : Option V} {a b : Nat} (hlo : bound 0 b lo = some a) (hhi : ∀ c, l.length ≤ c → bound l.length c hi = some b) (h1 : a ≤ b) (h2 : b ≤ l.length) : ∃ w, subV 1 v lo hi = some w ∧ Seg H w ((l.drop a).take (b - a)) ∧ (∀ x ∈ vb w, x ∈ vb v) ∧ w.isOne = true := by
  have hlen : ((l.drop a).take (b - a)).length = b - a := by simp; omega
  rcases h with ⟨rfl, rfl⟩ | ⟨blk, o, c, cs, rfl, hc, hb, hl⟩
  · simp only [List.length_nil] at h2 hhi
    have hb0 : b = 0 := by omega
    subst hb0
    have ha0 : a = 0 := by omega
    subst ha0
    exact ⟨.slice none 0 0, by simp [subV, hhi 0 (Nat.le_refl _), hlo], .inl ⟨rfl, by simp⟩, fun x hx => hx, rfl⟩
  · refine ⟨cutAt blk o 1 a b c 1, ?_, ?_, ?_, ?_⟩
    · simp only [subV, hhi c hc, hlo]
      simp
    · unfold cutAt
      split
      · rename_i hca
        have : b = a := by omega
        subst this
        refine .inr ⟨blk, o, c - b, cs, by simp, by simp, hb, .inl (by simp)⟩
      · refine .inr ⟨blk, o + a * 1, c - a, cs, by rw [hlen], by rw [hlen]; omega, hb, ?_⟩
        rcases hl with rfl | ⟨q1, q2⟩
        · left; simp
        · right
          rw [hlen]
          refine ⟨by omega, ?_⟩
          conv => rhs; rw [← q2]
          rw [List.drop_take, List.take_take, List.drop_drop, Nat.mul_one]
          congr 1
          omega
    · unfold cutAt; split <;> simp
    · unfold cutAt; split <;> rfl

/-! structs that are built -/
theorem build_eq {zero : List V} {parts : List (Nat × Nat × V)} (h : zero.all flatV = true) : build zero parts = (fillA zero parts).map fun cs => .agg cs.toArray := by
  simp only [build, h, if_true]
  cases fillA zero parts <;> rfl
theorem fillA_nil (cs : List V) : fillA cs [] = some cs := rfl
theorem fillA_one {cs : List V} {off : Nat} {v : V} {rest : List (Nat × Nat × V)} (hv : v.isOne = true) (h : off < cs.length) : fillA cs ((off, 1, v) :: rest) = fillA (cs.set off v) rest := by
  have hc : v.cells.toList = [v] := by rw [cells_one hv]
  have hs : v.cells.size = 1 := by rw [cells_one hv]; rfl
  simp only [fillA, hc, hs]
  rw [if_pos (by simp [hv]; omega)]
  congr 1
  simp only [splice, List.length_singleton]
  rw [List.set_eq_take_append_cons_drop, if_pos h]
  rfl
theorem fillA_slc {cs : List V} {off : Nat} {a : Option Addr} {n c : Nat} {rest : List (Nat × Nat × V)} (h : off < cs.length) : fillA cs ((off, 1, .slice a n c) :: rest) = fillA (cs.set off (.slice a n c)) rest := fillA_one rfl h
theorem fillA_int {cs : List V} {off : Nat} {k : IntKind} {n : Int} {rest : List (Nat × Nat × V)} (h : off < cs.length) : fillA cs ((off, 1, .int k n) :: rest) = fillA (cs.set off (.int k n)) rest := fillA_one rfl h
theorem fillA_str {cs : List V} {off : Nat} {s : ByteArray} {rest : List (Nat × Nat × V)} (h : off < cs.length) : fillA cs ((off, 1, .string s) :: rest) = fillA (cs.set off (.string s)) rest := fillA_one rfl h
theorem fillA_bool {cs : List V} {off : Nat} {b : Bool} {rest : List (Nat × Nat × V)} (h : off < cs.length) : fillA cs ((off, 1, .bool b) :: rest) = fillA (cs.set off (.bool b)) rest := fillA_one rfl h
theorem fillA_ptr {cs : List V} {off : Nat} {a : Option Addr} {rest : List (Nat × Nat × V)} (h : off < cs.length) : fillA cs ((off, 1, .pointer a) :: rest) = fillA (cs.set off (.pointer a)) rest := fillA_one rfl h
theorem fillA_map {cs : List V} {off : Nat} {a : Option Nat} {rest : List (Nat × Nat × V)} (h : off < cs.length) : fillA cs ((off, 1, .map a) :: rest) = fillA (cs.set off (.map a)) rest := fillA_one rfl h
theorem fillA_agg {cs vs : List V} {off n : Nat} {rest : List (Nat × Nat × V)} (hv : vs.all Value.isOne = true) (hn : vs.length = n) (h : off + n ≤ cs.length) : fillA cs ((off, n, .agg vs.toArray) :: rest) = fillA (splice cs off vs) rest := by
  have hc : (Value.agg vs.toArray).cells.toList = vs := by simp [Value.cells]
  have hs : (Value.agg vs.toArray).cells.size = n := by simp [Value.cells, hn]
  simp only [fillA, hc, hs]
  rw [if_pos (by simp [hv]; omega)]

/-! blocks that are kept free for floating makes -/
theorem resv_one (H : Heap) : resv H 1 = H.push none := rfl
theorem resv_two (H : Heap) : resv H 2 = (H.push none).push none := rfl
theorem freeIn_nil (H : Heap) : freeIn H [] = true := rfl
theorem freeIn_cons {H : Heap} {b : Nat} {bs : List Nat} (h : H.get b = none) (hl : b < H.next) : freeIn H (b :: bs) = freeIn H bs := by
  have : Nat.blt b H.next = true := by simpa [Nat.blt_eq] using hl
  simp [freeIn, h, this]
theorem wp_flt_bslc {id size len : Nat} {zero cs : List V} {parts : List (Nat × Nat × V)} {H : Heap} {Q : V → Heap → Prop} (h : H.get id = none) (hl : id < H.next) (hz : zero.all flatV = true) (hf : fillA zero parts = some cs) (hQ : Q (slc id 0 size len len) (H.set id (some (.cells true cs)))) : wp (flt id (bslc size len zero parts)) Q H := by
  have e : bslc size len zero parts Heap.none0 = some (slc 0 0 size len len, Heap.one (.cells true cs)) := by
    simp only [bslc, hz, if_true, hf]; rfl
  have : Nat.blt id H.next = true := by simpa [Nat.blt_eq] using hl
  exact ⟨_, _, by simp only [flt, e, Heap.one?_one, h, this, cond_true, reloc], hQ⟩
theorem wp_flt_mkslc {id size bytes n c : Nat} {zero : List V} {k k' : IntKind} {H : Heap} {Q : V → Heap → Prop} (h : H.get id = none) (hl : id < H.next) (hz : zero.all flatV = true) (h1 : n ≤ c) (h2 : c ≤ 140737488355328) (h3 : bytes * c ≤ 140737488355328) (hQ : Q (slc id 0 size n c) (H.set id (some (.cells true (rep c zero))))) : wp (flt id (mkslc size bytes zero (.int k n) (.int k' c))) Q H := by
  have e : mkslc size bytes zero (.int k n) (.int k' c) Heap.none0 = some (slc 0 0 size n c, Heap.one (.cells true (rep c zero))) := by
    simp only [mkslc]
    rw [if_pos ⟨hz, by omega, by omega, by omega, by rw [← Int.natCast_mul]; omega⟩, Int.toNat_natCast, Int.toNat_natCast]
    rfl
  have : Nat.blt id H.next = true := by simpa [Nat.blt_eq] using hl
  exact ⟨_, _, by simp only [flt, e, Heap.one?_one, h, this, cond_true, reloc], hQ⟩
theorem rep_encs {α : Type} [Flat α] (x : α) (zero : List V) (hz : zero = Flat.enc x) : ∀ n, rep n zero = encs (List.replicate n x)
  | 0 => rfl
  | n + 1 => by rw [rep, rep_encs x zero hz n, List.replicate_succ, encs_cons, hz]
end Go.AM

/- Maps that are held: their entries as lists of keys and values. -/
namespace Go.AM

class KeyE (κ : Type) [DecidableEq κ] where
  kk : KK
  enc : κ → V
  eq : ∀ a b, keyEq kk (enc a) (enc b) = some (decide (a = b))
  fits : ∀ a, keyFits kk (enc a) = true
  solid : ∀ a, (enc a).isSolid = true
class ValE (ω : Type) where
  enc : ω → V
  solid : ∀ a, (enc a).isSolid = true
theorem beq_dec (a b : Int) : (a == b) = decide (a = b) := by by_cases h : a = b <;> simp [h]
instance : KeyE Int := ⟨.one .i, i64, fun a b => by simp only [keyEq, eqK, if_true, beq_dec], fun _ => rfl, fun _ => rfl⟩
instance : ValE Int := ⟨i64, fun _ => rfl⟩
instance : ValE Bool := ⟨.bool, fun _ => rfl⟩
/-- two numbers -/
abbrev pr (a b : Int) : V := .agg [i64 a, i64 b].toArray
instance : KeyE (Int × Int) := ⟨.agg [.i, .i], fun a => pr a.1 a.2, fun a b => by
  simp only [keyEq, eqAgg, eqKs, eqK, if_true, beq_dec]
  by_cases h : a.1 = b.1
  · by_cases h2 : a.2 = b.2
    · rw [decide_eq_true h, decide_eq_true h2, decide_eq_true (show a = b from Prod.ext h h2)]
    · rw [decide_eq_true h, decide_eq_false h2, decide_eq_false (show ¬ a = b from fun e => h2 (by rw [e]))]
  · rw [decide_eq_false h, decide_eq_false (show ¬ a = b from fun e => h (by rw [e]))], fun _ => rfl, fun _ => rfl⟩
theorem kp (a : Int × Int) : KeyE.enc a = pr a.1 a.2 := rfl
section
variable {κ ω : Type} [DecidableEq κ] [KeyE κ] [ValE ω]
def encE (e : κ × ω) : V × V := (KeyE.enc e.1, ValE.enc e.2)
def aidx (k : κ) : List (κ × ω) → Option Nat
  | [] => none
  | e :: es => if k = e.1 then some 0 else (aidx k es).map (· + 1)
def aget (es : List (κ × ω)) (k : κ) : Option ω := match es with
  | [] => none
  | e :: es => if k = e.1 then some e.2 else aget es k
def aset (es : List (κ × ω)) (k : κ) (v : ω) : List (κ × ω) := match es with
  | [] => [(k, v)]
  | e :: es => if k = e.1 then (k, v) :: es else e :: aset es k v
def adel (es : List (κ × ω)) (k : κ) : List (κ × ω) := match es with
  | [] => []
  | e :: es => if k = e.1 then es else e :: adel es k

theorem findK_enc (k : κ) : ∀ es : List (κ × ω), findK (KeyE.kk κ) (KeyE.enc k) (es.map encE) = some (aidx k es)
  | [] => rfl
  | e :: es => by
    have ih := findK_enc k es
    simp only [List.map_cons, findK, aidx]
    rw [show keyEq (KeyE.kk κ) (KeyE.enc k) (encE e).1 = some (decide (k = e.1)) from KeyE.eq k e.1]
    by_cases h : k = e.1
    · simp [h]
    · rw [decide_eq_false h, if_neg h, ih]
      cases aidx k es <;> rfl
theorem aidx_none {k : κ} : ∀ {es : List (κ × ω)}, aidx k es = none → aget es k = none ∧ (∀ v, aset es k v = es ++ [(k, v)]) ∧ adel es k = es
  | [], _ => ⟨rfl, fun _ => rfl, rfl⟩
  | e :: es, h => by
    simp only [aidx] at h
    split at h
    · cases h
    · rename_i hk
      have h' : aidx k es = none := by cases hq : aidx k es <;> simp_all
      obtain ⟨a, b, c⟩ := aidx_none h'
      simp [aget, aset, adel, hk, a, b, c]
theorem aidx_some {k : κ} : ∀ {es : List (κ × ω)} {i : Nat}, aidx k es = some i → i < es.length ∧ (∃ v, es[i]? = some (k, v) ∧ aget es k = some v) ∧ (∀ v, aset es k v = es.set i (k, v)) ∧ adel es k = es.eraseIdx i
  | e :: es, i, h => by
    simp only [aidx] at h
    split at h
    · rename_i hk
      cases h; subst hk
      exact ⟨by simp, ⟨e.2, by simp, by simp [aget]⟩, fun v => by simp [aset], by simp [adel]⟩
    · rename_i hk
      cases hq : aidx k es with
      | none => rw [hq] at h; cases h
      | some j =>
        rw [hq] at h; cases h
        obtain ⟨a, ⟨v, b1, b2⟩, c, d⟩ := aidx_some hq
        exact ⟨by simpa using a, ⟨v, by simpa using b1, by simp [aget, hk, b2]⟩, fun v => by simp [aset, hk, c], by simp [adel, hk, d]⟩
theorem aget_aset (k k' : κ) (v : ω) : ∀ es : List (κ × ω), aget (aset es k v) k' = if k' = k then some v else aget es k'
  | [] => by simp [aset, aget]
  | e :: es => by
    simp only [aset]
    split
    · rename_i h; subst h
      simp only [aget]
      split <;> rfl
    · rename_i h
      simp only [aget, aget_aset k k' v es]
      by_cases h2 : k' = e.1
      · subst h2; rw [if_pos rfl, if_pos rfl, if_neg (fun q => h q.symm)]
      · rw [if_neg h2, if_neg h2]
theorem aget_none {k : κ} : ∀ {es : List (κ × ω)}, (∀ e ∈ es, e.1 ≠ k) → aget es k = none
  | [], _ => rfl
  | e :: es, h => by
    simp only [aget]
    rw [if_neg (fun q => h e (by simp) q.symm)]
    exact aget_none fun e he => h e (by simp [he])
theorem aget_mem {k : κ} {v : ω} : ∀ {es : List (κ × ω)}, aget es k = some v → (k, v) ∈ es
  | e :: es, h => by
    simp only [aget] at h
    split at h
    · rename_i q; cases h; subst q; simp
    · exact List.mem_cons_of_mem _ (aget_mem h)
theorem mem_aget {k : κ} {v : ω} : ∀ {es : List (κ × ω)}, (es.map (·.1)).Nodup → (k, v) ∈ es → aget es k = some v
  | e :: es, hn, h => by
    simp only [aget]
    rw [List.map_cons, List.nodup_cons] at hn
    rcases List.mem_cons.1 h with q | q
    · subst q; simp
    · rw [if_neg (fun e' => hn.1 (by rw [← e']; exact List.mem_map.2 ⟨_, q, rfl⟩))]
      exact mem_aget hn.2 q
theorem aset_keys (k : κ) (v : ω) : ∀ {es : List (κ × ω)}, (es.map (·.1)).Nodup → ((aset es k v).map (·.1)).Nodup
  | [], _ => by simp [aset]
  | e :: es, h => by
    rw [List.map_cons, List.nodup_cons] at h
    simp only [aset]
    split
    · rename_i q; subst q; rw [List.map_cons, List.nodup_cons]; exact h
    · rename_i q
      rw [List.map_cons, List.nodup_cons]
      refine ⟨fun hm => ?_, aset_keys k v h.2⟩
      obtain ⟨x, hx, hxe⟩ := List.mem_map.1 hm
      have key : ∀ (l : List (κ × ω)), x ∈ aset l k v → x.1 = k ∨ x ∈ l := by
        intro l
        induction l with
        | nil => intro h; simp [aset] at h; left; rw [h]
        | cons y l ih =>
          intro h
          simp only [aset] at h
          split at h
          · rcases List.mem_cons.1 h with q | q
            · left; rw [q]
            · right; simp [q]
          · rcases List.mem_cons.1 h with q | q
            · right; simp [q]
            · rcases ih q with r | r
              · exact .inl r
              · right; simp [r]
      rcases key es hx with r | r
      · exact q (r.symm.trans hxe)
      · exact h.1 (by rw [← hxe]; exact List.mem_map.2 ⟨x, r, rfl⟩)
theorem mem_aset {k : κ} {v : ω} {x : κ × ω} : ∀ {l : List (κ × ω)}, x ∈ aset l k v → x = (k, v) ∨ x ∈ l
  | [], h => by simp [aset] at h; exact .inl h
  | y :: l, h => by
    simp only [aset] at h
    split at h
    · rcases List.mem_cons.1 h with q | q
      · exact .inl q
      · right; simp [q]
    · rcases List.mem_cons.1 h with q | q
      · right; simp [q]
      · rcases mem_aset q with r | r
        · exact .inl r
        · right; simp [r]
theorem adel_sub (k : κ) : ∀ es : List (κ × ω), List.Sublist (adel es k) es
  | [] => List.Sublist.refl _
  | e :: es => by
    simp only [adel]
    split
    · exact List.sublist_cons_self _ _
    · exact (adel_sub k es).cons_cons _
theorem adel_keys (k : κ) {es : List (κ × ω)} (h : (es.map (·.1)).Nodup) : ((adel es k).map (·.1)).Nodup := h.sublist ((adel_sub k es).map _)
theorem aget_adel (k k' : κ) : ∀ {es : List (κ × ω)}, (es.map (·.1)).Nodup → aget (adel es k) k' = if k' = k then none else aget es k'
  | [], _ => by simp [adel, aget]
  | e :: es, h => by
    rw [List.map_cons, List.nodup_cons] at h
    simp only [adel]
    split
    · rename_i q; subst q
      by_cases h2 : k' = e.1
      · subst h2
        rw [if_pos rfl]
        exact aget_none fun x hx q => h.1 (by rw [← q]; exact List.mem_map.2 ⟨x, hx, rfl⟩)
      · rw [if_neg h2]; simp only [aget]; rw [if_neg h2]
    · rename_i q
      simp only [aget, aget_adel k k' h.2]
      by_cases h2 : k' = e.1
      · subst h2; rw [if_pos rfl, if_neg (fun r => q r.symm), if_pos rfl]
      · rw [if_neg h2, if_neg h2]
theorem aget_filter (p : κ → Bool) (k : κ) : ∀ es : List (κ × ω), aget (es.filter fun e => p e.1) k = if p k then aget es k else none
  | [] => by simp [aget]
  | e :: es => by
    have ih := aget_filter p k es
    rw [List.filter_cons]
    by_cases h : k = e.1
    · subst h
      by_cases hp : p e.1 = true
      · simp [aget, hp]
      · rw [if_neg hp, ih]; simp [hp]
    · split
      · simp only [aget]; rw [if_neg h, ih]; simp [h]
      · rw [ih]; simp only [aget]; rw [if_neg h]

/-- a map that one owns -/
def MapR (H : Heap) (m : Nat) (es : List (κ × ω)) : Prop := H.get m = some (.map true (es.map encE))
theorem map_eraseIdx' {α β : Type} (f : α → β) : ∀ (l : List α) (i : Nat), (l.eraseIdx i).map f = (l.map f).eraseIdx i
  | [], i => by simp
  | x :: l, 0 => by simp
  | x :: l, i + 1 => by simp [map_eraseIdx' f l i]
/-- what is found in a block -/
def lookG (x : Option Blk) (kk : KK) (zero : V) (ok : Bool) (k : V) : Option V := match x with
  | some (.map _ es) => if (keyFits kk k && flatV zero) = true then (match findK kk k es with
    | some (some i) => match es[i]? with | some e => some (if ok then .tuple #[e.2, .bool true] else e.2) | none => none
    | some none => some (if ok then .tuple #[zero, .bool false] else zero)
    | none => none) else none
  | _ => none
@[congr] theorem lookG_congr {x x' : Option Blk} {kk : KK} {zero : V} {ok : Bool} {k : V} (h : x = x') : lookG x kk zero ok k = lookG x' kk zero ok k := by rw [h]
theorem wp_lookupg (H : Heap) (m : Nat) (kk : KK) (zero : V) (ok : Bool) (k : V) {Q : V → Heap → Prop} : wp (lookup kk zero ok (.map (some m)) k) Q H ↔ wpO (lookG (H.get m) kk zero ok k) fun v => Q v H := by
  have e : lookup kk zero ok (.map (some m)) k H = (lookG (H.get m) kk zero ok k).map fun v => (v, H) := by
    simp only [lookup, lookG, entries]
    generalize H.get m = x
    by_cases hc : (keyFits kk k && flatV zero) = true
    · rw [if_pos hc]
      cases x with
      | none => rfl
      | some x =>
        cases x with
        | map rw es =>
          simp only
          rw [if_pos hc]
          cases findK kk k es with
          | none => rfl
          | some o => cases o with
            | none => rfl
            | some i => simp only; cases es[i]? <;> rfl
        | cells rw cs => rfl
        | siter s p => rfl
    · rw [if_neg hc]
      cases x with
      | none => rfl
      | some x =>
        cases x with
        | map rw es => simp only; rw [if_neg hc]; rfl
        | cells rw cs => rfl
        | siter s p => rfl
  unfold wp wpO
  rw [e]
  cases lookG (H.get m) kk zero ok k with
  | none => simp
  | some v =>
    constructor
    · rintro ⟨a, H', h1, h2⟩; cases h1; exact ⟨_, rfl, h2⟩
    · rintro ⟨a, h1, h2⟩; cases h1; exact ⟨_, _, rfl, h2⟩
theorem lookG_enc (rw_ : Bool) (es : List (κ × ω)) (zero : V) (hz : flatV zero = true) (k : κ) : lookG (some (.map rw_ (es.map encE))) (KeyE.kk κ) zero false (KeyE.enc k) = some ((aget es k).elim zero ValE.enc) := by
  have hc : (keyFits (KeyE.kk κ) (KeyE.enc k) && flatV zero) = true := by rw [KeyE.fits, hz]; rfl
  simp only [lookG, hc, if_true, findK_enc]
  cases ha : aidx k es with
  | none => simp [(aidx_none ha).1]
  | some i =>
    obtain ⟨h1, ⟨v, h2, h3⟩, _⟩ := aidx_some ha
    simp [h2, h3, encE]
theorem lookG_enc2 (rw_ : Bool) (es : List (κ × ω)) (zero : V) (hz : flatV zero = true) (k : κ) : lookG (some (.map rw_ (es.map encE))) (KeyE.kk κ) zero true (KeyE.enc k) = some (.tuple #[(aget es k).elim zero ValE.enc, .bool (aget es k).isSome]) := by
  have hc : (keyFits (KeyE.kk κ) (KeyE.enc k) && flatV zero) = true := by rw [KeyE.fits, hz]; rfl
  simp only [lookG, hc, if_true, findK_enc]
  cases ha : aidx k es with
  | none => simp [(aidx_none ha).1]
  | some i =>
    obtain ⟨h1, ⟨v, h2, h3⟩, _⟩ := aidx_some ha
    simp [h2, h3, encE]
/-- what is laid into a block -/
def setG (x : Option Blk) (kk : KK) (k v : V) (K : Option Blk → Prop) : Prop := match x with
  | some (.map true es) => (keyFits kk k && k.isSolid && v.isSolid) = true ∧ match findK kk k es with
    | some (some i) => K (some (.map true (es.set i (k, v))))
    | some none => K (some (.map true (es ++ [(k, v)])))
    | none => False
  | _ => False
@[congr] theorem setG_congr {x x' : Option Blk} {kk : KK} {k v : V} {K : Option Blk → Prop} (h : x = x') : setG x kk k v K = setG x' kk k v K := by rw [h]
theorem wp_mapSetg (H : Heap) (m : Nat) (kk : KK) (k v : V) {Q : V → Heap → Prop} : wp (mapSet kk (.map (some m)) k v) Q H ↔ setG (H.get m) kk k v fun y => Q undef (H.set m y) := by
  unfold wp setG mapSet
  cases hc : (keyFits kk k && k.isSolid && v.isSolid) with
  | false => simp; split <;> simp_all
  | true =>
    simp only [if_true]
    cases hg : H.get m with
    | none => simp
    | some x =>
      cases x with
      | map rw es =>
        cases rw with
        | false => simp
        | true =>
          simp only [true_and]
          cases findK kk k es with
          | none => simp
          | some o => cases o with
            | none => constructor
                      · rintro ⟨a, H', h1, h2⟩; cases h1; exact h2
                      · intro h; exact ⟨_, _, rfl, h⟩
            | some i => constructor
                        · rintro ⟨a, H', h1, h2⟩; cases h1; exact h2
                        · intro h; exact ⟨_, _, rfl, h⟩
      | cells rw cs => simp
      | siter s p => simp
theorem setG_enc (es : List (κ × ω)) (k : κ) (v : ω) (K : Option Blk → Prop) : setG (some (.map true (es.map encE))) (KeyE.kk κ) (KeyE.enc k) (ValE.enc v) K ↔ K (some (.map true ((aset es k v).map encE))) := by
  have hc : (keyFits (KeyE.kk κ) (KeyE.enc k) && (KeyE.enc k : V).isSolid && (ValE.enc v : V).isSolid) = true := by rw [KeyE.fits, KeyE.solid, ValE.solid]; rfl
  simp only [setG, hc, true_and, findK_enc]
  cases ha : aidx k es with
  | none => rw [(aidx_none ha).2.1 v]; simp [encE]
  | some i => rw [(aidx_some ha).2.2.1 v]; simp [List.map_set, encE]
/-- what is struck out of a block -/
def delG (x : Option Blk) (kk : KK) (k : V) (K : Option Blk → Prop) : Prop := match x with
  | some (.map true es) => keyFits kk k = true ∧ match findK kk k es with
    | some (some i) => K (some (.map true (es.eraseIdx i)))
    | some none => K (some (.map true es))
    | none => False
  | _ => False
@[congr] theorem delG_congr {x x' : Option Blk} {kk : KK} {k : V} {K : Option Blk → Prop} (h : x = x') : delG x kk k K = delG x' kk k K := by rw [h]
theorem wp_mapDelg (H : Heap) (m : Nat) (kk : KK) (k : V) {Q : V → Heap → Prop} (h : delG (H.get m) kk k fun y => Q undef (H.set m y)) : wp (mapDel kk (.map (some m)) k) Q H := by
  unfold delG at h
  split at h
  · rename_i es hg
    obtain ⟨hf, h⟩ := h
    split at h
    · rename_i i hi
      exact ⟨undef, _, by simp only [mapDel, hf, if_true, hg, hi], h⟩
    · rename_i hi
      exact ⟨undef, H, by simp only [mapDel, hf, if_true, hg, hi], by rw [Heap.set_same hg] at h; exact h⟩
    · exact h.elim
  · exact h.elim
theorem delG_enc (es : List (κ × ω)) (k : κ) (K : Option Blk → Prop) : delG (some (.map true (es.map encE))) (KeyE.kk κ) (KeyE.enc k) K ↔ K (some (.map true ((adel es k).map encE))) := by
  simp only [delG, KeyE.fits, true_and, findK_enc]
  cases ha : aidx k es with
  | none => rw [(aidx_none ha).2.2]
  | some i => rw [(aidx_some ha).2.2.2, map_eraseIdx']
theorem MapR.keep {S : List Nat} {H H' : Heap} {m : Nat} {es : List (κ × ω)} (h : MapR H m es) (hk : Keeps S H H') (hm : m ∉ S) : MapR H' m es := hk.get h hm
theorem MapR.lt {H : Heap} {m : Nat} {es : List (κ × ω)} (h : MapR H m es) : m < H.next := Heap.get_lt h
end
end Go.AM
