/- Heaps that are written out: what a block holds is told by rules. -/
import Derived.Test.YtfcjpopnibhagaaDoorAmSlc
set_option linter.all false
namespace Go.AM

namespace Heap
theorem get_push_eq {H : Heap} {x : Option Blk} {b : Nat} (h : b = H.next) : (H.push x).get b = x := by subst h; exact get_push_self H x
theorem get_set_eq {H : Heap} {b : Nat} {x : Option Blk} (h : b < H.next) : (H.set b x).get b = x := get_set_self h
theorem get_set_ne' {H : Heap} {b c : Nat} {x : Option Blk} (h : c ≠ b) : (H.set b x).get c = H.get c := get_set_ne _ _ _ h
theorem set_push_lt {H : Heap} {x y : Option Blk} {b : Nat} (h : b < H.next) : (H.push x).set b y = (H.set b y).push x := by
  simp only [Heap.set, Heap.push, Heap.next] at h ⊢
  rw [List.set_append_left _ _ h]
theorem set_push_eq {H : Heap} {x y : Option Blk} {b : Nat} (h : b = H.next) : (H.push x).set b y = H.push y := by
  subst h
  simp only [Heap.set, Heap.push, Heap.next]
  rw [List.set_append_right _ _ (Nat.le_refl _)]
  simp
theorem set_set_same (H : Heap) (b : Nat) (x y : Option Blk) : (H.set b x).set b y = H.set b y := set_set H b x y
end Heap

/-- a block, looked at -/
def cellG : Option Blk → Nat → Option V
  | some (.cells _ cs), o => cs[o]?
  | _, _ => none
theorem cellP_get (H : Heap) (b o : Nat) : cellP H (ptr b o) = cellG (H.get b) o := by
  simp only [cellP, Heap.cell]
  split <;> simp_all [cellG]
theorem cellG_cells (rw : Bool) (cs : List V) (o : Nat) : cellG (some (.cells rw cs)) o = cs[o]? := rfl
def stG (x : Option Blk) (o : Nat) (v : V) (k : Option Blk → Prop) : Prop := match x with
  | some (.cells true cs) => v.isOne = true ∧ o < cs.length ∧ k (some (.cells true (cs.set o v)))
  | _ => False
theorem wp_st1g (H : Heap) (b o : Nat) (v : V) {Q : V → Heap → Prop} : wp (st1 (ptr b o) v) Q H ↔ stG (H.get b) o v fun y => Q undef (H.set b y) := by
  unfold stG
  constructor
  · rintro ⟨a, H', h1, h2⟩
    simp only [st1] at h1
    split at h1
    · rename_i cs hg
      rw [hg]
      split at h1
      · rename_i hc
        cases h1
        simp only [Bool.and_eq_true, decide_eq_true_eq] at hc
        exact ⟨hc.1, hc.2, h2⟩
      · cases h1
    · cases h1
  · intro h
    split at h
    · rename_i cs hg
      exact (wp_st1 hg h.1 h.2.1).mpr h.2.2
    · exact h.elim
theorem stG_cells (cs : List V) (o : Nat) (v : V) (k : Option Blk → Prop) : stG (some (.cells true cs)) o v k ↔ (v.isOne = true ∧ o < cs.length ∧ k (some (.cells true (cs.set o v)))) := Iff.rfl
@[congr] theorem stG_congr {x x' : Option Blk} {o : Nat} {v : V} {k : Option Blk → Prop} (h : x = x') : stG x o v k = stG x' o v k := by rw [h]
theorem stG_ok {cs : List V} {o : Nat} {v : V} {k : Option Blk → Prop} (hv : v.isOne = true) (ho : o < cs.length) : stG (some (.cells true cs)) o v k ↔ k (some (.cells true (cs.set o v))) := by simp [stG, hv, ho]
theorem stG_c {cs : List V} {o : Nat} {v : V} {k : Option Blk → Prop} (ho : o < cs.length) : stG (some (.cells true cs)) o v k ↔ (v.isOne = true ∧ k (some (.cells true (cs.set o v)))) := by simp [stG, ho]
/-- a value of m cells is laid -/
def stnG (x : Option Blk) (n o : Nat) (v : V) (k : Option Blk → Prop) : Prop := match x, v with
  | some (.cells true cs), .agg vs => vs.toList.all Value.isOne = true ∧ vs.toList.length = n ∧ o + n ≤ cs.length ∧ k (some (.cells true (splice cs o vs.toList)))
  | _, _ => False
theorem wp_stng (H : Heap) (b o n : Nat) (v : V) {Q : V → Heap → Prop} : wp (stn n (ptr b o) v) Q H ↔ stnG (H.get b) n o v fun y => Q undef (H.set b y) := by
  unfold stnG
  constructor
  · rintro ⟨a, H', h1, h2⟩
    simp only [stn] at h1
    split at h1
    · rename_i b' o' vs hp
      cases hp
      split at h1
      · rename_i cs hg
        rw [hg]
        split at h1
        · rename_i hc
          cases h1
          simp only [Bool.and_eq_true, decide_eq_true_eq, beq_iff_eq] at hc
          exact ⟨hc.1.1, hc.1.2, hc.2, h2⟩
        · cases h1
      · cases h1
    · cases h1
  · intro h
    split at h
    · rename_i cs vs hg
      refine ⟨undef, _, ?_, h.2.2.2⟩
      simp only [stn, hg]
      rw [if_pos (by simp [h.1, h.2.1, h.2.2.1])]
    · exact h.elim
@[congr] theorem stnG_congr {x x' : Option Blk} {n o : Nat} {v : V} {k : Option Blk → Prop} (h : x = x') : stnG x n o v k = stnG x' n o v k := by rw [h]
theorem stnG_ok {cs vs : List V} {n o : Nat} {k : Option Blk → Prop} (hv : vs.all Value.isOne = true) (hn : vs.length = n) (ho : o + n ≤ cs.length) : stnG (some (.cells true cs)) n o (.agg vs.toArray) k ↔ k (some (.cells true (splice cs o vs))) := by simp [stnG, hv, hn, ho]
def ldG (x : Option Blk) (n o : Nat) (k : V → Prop) : Prop := match x with
  | some (.cells _ cs) => o + n ≤ cs.length ∧ k (.agg ((cs.drop o).take n).toArray)
  | _ => False
theorem wp_ldng (H : Heap) (b o n : Nat) {Q : V → Heap → Prop} : wp (ldn n (ptr b o)) Q H ↔ ldG (H.get b) n o fun y => Q y H := by
  unfold ldG
  constructor
  · rintro ⟨a, H', h1, h2⟩
    simp only [ldn, cellsAt] at h1
    split at h1
    · rename_i l hl
      cases h1
      split at hl
      · rename_i rw cs hg
        rw [hg]
        split at hl
        · rename_i hc; cases hl; exact ⟨hc, h2⟩
        · cases hl
      · cases hl
    · cases h1
  · intro h
    split at h
    · rename_i rw cs hg
      exact (wp_ldn hg h.1).mpr h.2
    · exact h.elim
@[congr] theorem ldG_congr {x x' : Option Blk} {n o : Nat} {k : V → Prop} (h : x = x') : ldG x n o k = ldG x' n o k := by rw [h]
theorem ldG_ok {rw : Bool} {cs : List V} {n o : Nat} {k : V → Prop} (ho : o + n ≤ cs.length) : ldG (some (.cells rw cs)) n o k ↔ k (.agg ((cs.drop o).take n).toArray) := by simp [ldG, ho]
theorem wp_newcg {cs : List V} {H : Heap} {Q : V → Heap → Prop} (h : cs.all flatV = true) : wp (newc cs) Q H ↔ Q (ptr H.next 0) (H.push (some (.cells true cs))) := wp_newc h
theorem wp_boxg {vs : List V} {H : Heap} {Q : V → Heap → Prop} (h : vs.all Value.isOne = true) : wp (boxv (.agg vs.toArray)) Q H ↔ Q (ptr H.next 0) (H.push (some (.cells true vs))) := by
  have hc : (Value.agg vs.toArray).cells.toList = vs := by simp [Value.cells]
  constructor
  · rintro ⟨a, H', h1, h2⟩
    unfold boxv at h1
    rw [hc, if_pos h] at h1
    cases h1; exact h2
  · intro hq; exact ⟨_, _, by unfold boxv; rw [hc, if_pos h], hq⟩
theorem wp_box1 {v : V} {H : Heap} {Q : V → Heap → Prop} (h : v.isOne = true) : wp (boxv v) Q H ↔ Q (ptr H.next 0) (H.push (some (.cells true [v]))) := by
  have hc : v.cells.toList = [v] := by rw [cells_one h]
  constructor
  · rintro ⟨a, H', h1, h2⟩
    unfold boxv at h1
    rw [hc] at h1
    rw [if_pos (by simp [h])] at h1
    cases h1; exact h2
  · intro hq; exact ⟨_, _, by unfold boxv; rw [hc, if_pos (by simp [h])], hq⟩
theorem fld1_agg (off : Nat) (vs : List V) : fld1 off (.agg vs.toArray) = vs[off]? := by simp [fld1]
theorem fldn_agg {off n : Nat} {vs : List V} (h : off + n ≤ vs.length) : fldn off n (.agg vs.toArray) = some (.agg ((vs.drop off).take n).toArray) := by simp [fldn, h]
theorem ext_tuple (i : Nat) (vs : List V) : ext i (.tuple vs.toArray) = vs[i]? := by simp [ext]

theorem wp_mkslc {size bytes n c : Nat} {zero : List V} {k k' : IntKind} {H : Heap} {Q : V → Heap → Prop} (hz : zero.all flatV = true) (h1 : n ≤ c) (h2 : c ≤ 140737488355328) (h3 : bytes * c ≤ 140737488355328) (hQ : Q (slc H.next 0 size n c) (H.push (some (.cells true (rep c zero))))) : wp (mkslc size bytes zero (.int k n) (.int k' c)) Q H := by
  refine ⟨_, _, ?_, hQ⟩
  simp only [mkslc]
  rw [if_pos ⟨hz, by omega, by omega, by omega, by rw [← Int.natCast_mul]; omega⟩, Int.toNat_natCast, Int.toNat_natCast]

section
variable {α : Type} [DecidableEq α] {x y : α} {p : Prop} [Decidable p]
theorem condM_nf {a b : M Out} (h : p) : condM (.bool (decide (¬ p))) a b = b := by simp [h]
theorem condM_nef {a b : M Out} (h : x = y) : condM (.bool (decide (x ≠ y))) a b = b := by simp [h]
theorem gd_nef {m : M V} (h : x = y) : gd (.bool (decide (x ≠ y))) true m = ret skipV := by simp [h]
theorem gdf_nef {m : M V} (h : x = y) : gd (.bool (decide (x ≠ y))) false m = m := by simp [h]
theorem pick_nef {a b : V} (h : x = y) : pickV (.bool (decide (x ≠ y))) a b = some b := by simp [h]
end

/-! conditions that are not told: two ways -/
section
variable {p : Prop} [Decidable p] {Q : Out → Heap → Prop} {QV : V → Heap → Prop} {QQ : V → Prop} {H : Heap}
theorem wp_cond_ite {a b : M Out} : wp (condM (.bool (decide p)) a b) Q H ↔ if p then wp a Q H else wp b Q H := by by_cases h : p <;> simp [h]
theorem wp_gd_ite {m : M V} : wp (gd (.bool (decide p)) true m) QV H ↔ if p then wp m QV H else QV skipV H := by by_cases h : p <;> simp [h]
theorem wp_gdf_ite {m : M V} : wp (gd (.bool (decide p)) false m) QV H ↔ if p then QV skipV H else wp m QV H := by by_cases h : p <;> simp [h]
theorem wpO_pick_ite {x y : V} : wpO (pickV (.bool (decide p)) x y) QQ ↔ if p then QQ x else QQ y := by by_cases h : p <;> simp [h]
end
section
variable {c : Bool} {Q : Out → Heap → Prop} {QV : V → Heap → Prop} {QQ : V → Prop} {H : Heap}
theorem wp_cond_b {a b : M Out} : wp (condM (.bool c) a b) Q H ↔ if c = true then wp a Q H else wp b Q H := by cases c <;> simp
theorem wp_gd_b {m : M V} : wp (gd (.bool c) true m) QV H ↔ if c = true then wp m QV H else QV skipV H := by cases c <;> simp
theorem wp_gdf_b {m : M V} : wp (gd (.bool c) false m) QV H ↔ if c = true then QV skipV H else wp m QV H := by cases c <;> simp
theorem wpO_pick_b {x y : V} : wpO (pickV (.bool c) x y) QQ ↔ if c = true then QQ x else QQ y := by cases c <;> simp
end
section
variable {p : Prop} [Decidable p] {Q : Out → Heap → Prop} {QV : V → Heap → Prop} {QQ : V → Prop} {H : Heap}
theorem wp_cond_split {a b : M Out} (h1 : p → wp a Q H) (h2 : ¬ p → wp b Q H) : wp (condM (.bool (decide p)) a b) Q H := by by_cases h : p <;> simp_all
theorem wp_gd_split {m : M V} (h1 : p → wp m QV H) (h2 : ¬ p → QV skipV H) : wp (gd (.bool (decide p)) true m) QV H := by by_cases h : p <;> simp_all
theorem wp_gdf_split {m : M V} (h1 : p → QV skipV H) (h2 : ¬ p → wp m QV H) : wp (gd (.bool (decide p)) false m) QV H := by by_cases h : p <;> simp_all
theorem wpO_pick_split {x y : V} (h1 : p → QQ x) (h2 : ¬ p → QQ y) : wpO (pickV (.bool (decide p)) x y) QQ := by by_cases h : p <;> simp_all
end
section
variable {c : Bool} {Q : Out → Heap → Prop} {QV : V → Heap → Prop} {QQ : V → Prop} {H : Heap}
theorem wp_cond_bs {a b : M Out} (h1 : c = true → wp a Q H) (h2 : c = false → wp b Q H) : wp (condM (.bool c) a b) Q H := by cases c <;> simp_all
theorem wp_gd_bs {m : M V} (h1 : c = true → wp m QV H) (h2 : c = false → QV skipV H) : wp (gd (.bool c) true m) QV H := by cases c <;> simp_all
theorem wp_gdf_bs {m : M V} (h1 : c = true → QV skipV H) (h2 : c = false → wp m QV H) : wp (gd (.bool c) false m) QV H := by cases c <;> simp_all
theorem wpO_pick_bs {x y : V} (h1 : c = true → QQ x) (h2 : c = false → QQ y) : wpO (pickV (.bool c) x y) QQ := by cases c <;> simp_all
end
/-- a run without memory -/
theorem eq_ret {α : Type} {m : M α} {v : α} (h : ∀ H, wp m (fun r H' => r = v ∧ H' = H) H) : m = ret v := by
  funext H
  obtain ⟨a, H', h1, rfl, rfl⟩ := h H
  exact h1
theorem q_of {Q : V → Heap → Prop} {v v' : V} {H : Heap} (h : Q v H) (e : v = v') : Q v' H := e ▸ h
theorem ext_agg' (i : Nat) (vs : List V) : ext i (.tuple vs.toArray) = vs[i]? := by simp [ext]
theorem outV_nil : outV [] = .tuple #[] := rfl
theorem outV_two (a b : V) : outV [a, b] = .tuple #[a, b] := rfl
theorem outV_three (a b c : V) : outV [a, b, c] = .tuple #[a, b, c] := rfl
theorem outV_four (a b c d : V) : outV [a, b, c, d] = .tuple #[a, b, c, d] := rfl
theorem chk_ld1g (b o : Nat) (H : Heap) (v : V) : chk (ld1 (ptr b o)) H v = chkO (cellG (H.get b) o) v := by rw [chk_ld1, cellP_get]

/-! what is kept -/
theorem keeps_push {S : List Nat} {H0 H : Heap} {x : Option Blk} (h : Keeps S H0 H) : Keeps S H0 (H.push x) :=
  ⟨by have := h.next; simp; omega, fun b hb hn => by rw [Heap.get_push_lt (by have := h.next; omega), h.same b hb hn]⟩
theorem keeps_set {S : List Nat} {H0 H : Heap} {b : Nat} {x : Option Blk} (h : Keeps S H0 H) (hb : b ∈ S ∨ H0.next ≤ b) : Keeps S H0 (H.set b x) :=
  ⟨by have := h.next; simp; omega, fun c hc hn => by
    have : c ≠ b := fun e => by subst e; rcases hb with hb | hb; exact hn hb; omega
    rw [Heap.get_set_ne _ _ _ this, h.same c hc hn]⟩
end Go.AM
