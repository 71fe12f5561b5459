import Derived.Test.YtjchglndancedaaGreatDoorAmMaps
import Derived.WideKeyArgs
import Derived.ChangeSame
import Derived.OpenShut
import Derived.LaidSub
import Derived.ChangeMaps5
import Derived.Lib.LaidTab
import Derived.Deep.Slices
set_option linter.all false
/- Slices that are copied; makes that float. -/
namespace Go.AM
theorem zbno {α : Type} [Flat α] {H : Heap} {b n bytes : Nat} {xv : V} {xs : List α} {Q : V → Heap → Prop} (hs : Flat.size α = n) (hb : H.get b = some (.cells true [])) (hx : Sl H xv xs) (hn : xs.length * n ≤ 1000000) (hl : xs.length ≤ 1000000) (hby : bytes ≤ 1000) (hQ : ∀ w H', (w = slc b 0 n 0 0 ∧ xs = [] ∧ H' = H ∨ w = slc H.next 0 n xs.length xs.length ∧ H'.get H.next = some (.cells true (zdv xs)) ∧ Keeps [b] H H' ∧ xs ≠ [] ∧ H'.next = H.next + 1) → Q w H') : wp (zj3 n bytes (slc b 0 n 0 0) xv) Q H := by
  subst hs
  by_cases h0 : xs = []
  · subst h0
    refine ⟨slc b 0 (Flat.size α) 0 0, H, ?_, hQ _ _ (.inl ⟨rfl, rfl, rfl⟩)⟩
    rcases hx with ⟨rfl, _⟩ | ⟨bb, o, u, c, rfl, _⟩ <;> rfl
  · have hne : xs.length ≠ 0 := fun h => h0 (List.eq_nil_of_length_eq_zero h)
    have hc : zc0 H (Flat.size α) xv = some (zdv xs) := by
      rcases hx with ⟨rfl, e⟩ | ⟨bb, o, u, c, rfl, hc, _, hl2, _⟩
      · exact absurd e h0
      · rcases hl2 with e | ⟨rw, cs, hg, q1, q2⟩
        · exact absurd e h0
        · simp only [zc0, hne, if_false, cellsAt, hg]
          rw [if_pos q1, q2]
    have hf : ∃ a c, xv = .slice a xs.length c := by
      rcases hx with ⟨rfl, e⟩ | ⟨bb, o, u, c, rfl, _⟩
      · exact absurd e h0
      · exact ⟨_, _, rfl⟩
    obtain ⟨a, c, rfl⟩ := hf
    have hlt := Heap.get_lt hb
    have hone := zbb0 xs
    have hel := ze0 xs
    have hcs0 : zc0 H (Flat.size α) (slc b 0 (Flat.size α) 0 0) = some [] := rfl
    have hm : xs.length * bytes ≤ 1000000 * 1000 := Nat.mul_le_mul hl hby
    refine ⟨slc H.next 0 (Flat.size α) xs.length xs.length, (H.set b none).push (some (.cells true (zdv xs))), ?_, hQ _ _ (.inr ⟨rfl, ?_, ?_, h0, by simp⟩)⟩
    · simp only [zj3, hc, z0j, hne, if_false, hcs0, zxk, hb, if_true]
      rw [if_pos ⟨by rw [Nat.zero_add]; omega, by omega, hone, hel⟩]
      simp
    · have := Heap.get_push_self (H.set b none) (some (.cells true (zdv xs)))
      simpa using this
    · exact ⟨by simp, fun c hc hn => by rw [Heap.get_push_lt (by simpa using hc), Heap.get_set_ne _ _ _ (by simpa using hn)]⟩
theorem zzs {id : Nat} {H : Heap} {Q : V → Heap → Prop} (h : H.get id = none) (hl : id < H.next) (hQ : Q (.map (some id)) (H.set id (some (.map true [])))) : wp (flt id zu4) Q H := by
  have e : zu4 Heap.none0 = some (.map (some 0), Heap.one (.map true [])) := rfl
  have : Nat.blt id H.next = true := by simpa [Nat.blt_eq] using hl
  exact ⟨_, _, by simp only [flt, e, Heap.one?_one, h, this, cond_true, zwu], hQ⟩
theorem zbb2 (n : Nat) (H : Heap) : Keeps [] H (zt9 H n) := ⟨by rw [(zuz n H).2]; omega, fun b _ _ => (zuz n H).1 b⟩
theorem zbe2 {n : Nat} {H : Heap} {b : Nat} (h : H.next ≤ b) : (zt9 H n).get b = none := by
  rw [(zuz n H).1]
  cases hg : H.get b with
  | none => rfl
  | some x => have := Heap.get_lt hg; omega
theorem zbe3 (n : Nat) (H : Heap) : (zt9 H n).next = H.next + n := (zuz n H).2
theorem z47 {H : Heap} : ∀ {l : List Nat}, (∀ b ∈ l, H.get b = none ∧ b < H.next) → zku H l = true
  | [], _ => rfl
  | b :: l, h => by
    rw [z1e (h b (by simp)).1 (h b (by simp)).2]
    exact z47 fun c hc => h c (by simp [hc])
end Go.AM

/- Own slices of flat things. -/
namespace Go.AM
section
variable {α : Type} [Flat α]
def zkx (H : Heap) (v : V) (xs : List α) : Prop := (v = .slice none 0 0 ∧ xs = []) ∨ ∃ b, v = slc b 0 (Flat.size α) xs.length xs.length ∧ H.get b = some (.cells true (zdv xs))
theorem zkx.nil (H : Heap) : zkx H (.slice none 0 0) ([] : List α) := .inl ⟨rfl, rfl⟩
theorem zkx.keep {S : List Nat} {H H' : Heap} {v : V} {l : List α} (h : zkx H v l) (hk : Keeps S H H') (hn : ∀ b ∈ vb v, b ∉ S) : zkx H' v l := by
  rcases h with h | ⟨b, rfl, hb⟩
  · exact .inl h
  · exact .inr ⟨b, rfl, hk.get hb (hn b (by simp))⟩
theorem zkx.keep0 {H H' : Heap} {v : V} {l : List α} (h : zkx H v l) (hk : Keeps [] H H') : zkx H' v l := h.keep hk (by simp)
theorem zkx.len {H : Heap} {v : V} {l : List α} (h : zkx H v l) : zb4 v = some (i64 l.length) := by
  rcases h with ⟨rfl, rfl⟩ | ⟨b, rfl, _⟩ <;> rfl
theorem zkx.lt {H : Heap} {v : V} {l : List α} (h : zkx H v l) : ∀ b ∈ vb v, b < H.next := by
  rcases h with ⟨rfl, rfl⟩ | ⟨b, rfl, hb⟩
  · simp
  · simpa using Heap.get_lt hb
theorem zkx.isOne {H : Heap} {v : V} {l : List α} (h : zkx H v l) : v.isOne = true := by
  rcases h with ⟨rfl, rfl⟩ | ⟨b, rfl, _⟩ <;> rfl
theorem zkx.sl {H : Heap} {v : V} {l : List α} (h : zkx H v l) : Sl H v l := by
  rcases h with ⟨rfl, rfl⟩ | ⟨b, rfl, hb⟩
  · exact Sl.nil H
  · refine .inr ⟨b, 0, Flat.size α, l.length, rfl, Nat.le_refl _, Heap.get_lt hb, .inr ⟨true, zdv l, hb, by rw [ze0]; omega, ?_⟩, .inr rfl⟩
    rw [List.drop_zero, List.take_of_length_le (by rw [ze0]; exact Nat.le_refl _)]
theorem zyr {H : Heap} {xs : List α} {n m : Nat} (hs : Flat.size α = n) (hm : xs.length = m) : zkx (H.push (some (.cells true (zdv xs)))) (slc H.next 0 n m m) xs := by
  subst hs hm; exact .inr ⟨_, rfl, Heap.get_push_self _ _⟩
theorem zbb3 {v : V} {xs ys : List α} {n m bytes : Nat} {new : Option (List V)} {H : Heap} {Q : V → Heap → Prop} (hs : Flat.size α = n) (hv : zkx H v xs) (hm : ys.length = m) (hnew : ys ≠ [] → new = some (zdv ys)) (hb : (xs.length + m) * bytes ≤ 35184372088832) (hb2 : xs.length + m ≤ 35184372088832)
    (hQ : ∀ w H', zkx H' w (xs ++ ys) → Keeps (vb v) H H' → (∀ b ∈ vb w, b ∈ vb v ∨ H.next ≤ b) → Q w H') : wp (z0j n bytes v m new) Q H := by
  subst hs hm
  by_cases h0 : ys = []
  · subst h0
    have hf : ∃ x len cap, v = .slice x len cap := by
      rcases hv with ⟨rfl, _⟩ | ⟨b, rfl, _⟩
      · exact ⟨_, _, _, rfl⟩
      · exact ⟨_, _, _, rfl⟩
    obtain ⟨x, len, cap, rfl⟩ := hf
    exact ⟨_, H, rfl, hQ _ _ (by rw [List.append_nil]; exact hv) (Keeps.refl _ _) (fun b hb => .inl hb)⟩
  have hne : ys.length ≠ 0 := fun h => h0 (List.eq_nil_of_length_eq_zero h)
  rw [hnew h0]
  have hone := zbb0 ys
  have hel := ze0 ys
  rcases hv with ⟨rfl, rfl⟩ | ⟨b, rfl, hg⟩
  · have e1 : zc0 H (Flat.size α) (.slice none 0 0) = some [] := rfl
    have e2 : zxk H (Flat.size α) (.slice none 0 0) = some H := rfl
    refine ⟨slc H.next 0 (Flat.size α) ys.length ys.length, H.push (some (.cells true (zdv ys))), ?_, hQ _ _ ?_ (Keeps.push _ _ _) (fun b hb => .inr (by simp at hb; omega))⟩
    · simp only [List.length_nil, Nat.zero_add] at hb hb2
      simp only [z0j, hne, if_false, e1, e2]
      rw [if_pos ⟨by rw [Nat.zero_add]; exact hb, by omega, hone, hel⟩]
      simp
    · exact zyr rfl (by simp)
  · have hcs : zc0 H (Flat.size α) (slc b 0 (Flat.size α) xs.length xs.length) = some (zdv xs) := by
      simp only [zc0]
      split
      · rename_i h1; rw [List.eq_nil_of_length_eq_zero h1]; rfl
      · have e : (zdv xs).length = xs.length * Flat.size α := ze0 xs
        simp only [cellsAt, hg, Nat.zero_add, List.drop_zero]
        rw [if_pos (by omega), List.take_of_length_le (by omega)]
    refine ⟨slc H.next 0 (Flat.size α) (xs.length + ys.length) (xs.length + ys.length), (H.set b none).push (some (.cells true (zdv xs ++ zdv ys))), ?_, hQ _ _ ?_ ?_ (fun c hc => .inr (by simp at hc; omega))⟩
    · simp only [z0j, hne, if_false, hcs, zxk, hg, if_true]
      rw [if_pos ⟨hb, hb2, hone, hel⟩]
      simp
    · rw [← z9w]
      have := zyr (H := H.set b none) (xs := xs ++ ys) (n := Flat.size α) (m := xs.length + ys.length) rfl (by simp)
      simpa using this
    · exact ⟨by simp, fun c hc hn => by rw [Heap.get_push_lt (by simpa using hc), Heap.get_set_ne _ _ _ (by simpa using hn)]⟩
theorem zbpr {H : Heap} {v : V} {xs : List α} {n : Nat} (hs : Flat.size α = n) (h : Sl H v xs) (hne : xs ≠ []) : ∃ a c, v = .slice a xs.length c ∧ zc0 H n v = some (zdv xs) := by
  subst hs
  rcases h with ⟨rfl, e⟩ | ⟨bb, o, u, c, rfl, hc, _, hl2, _⟩
  · exact absurd e hne
  · rcases hl2 with e | ⟨rw, cs, hg, q1, q2⟩
    · exact absurd e hne
    · refine ⟨_, _, rfl, ?_⟩
      have hn : xs.length ≠ 0 := fun h => hne (List.eq_nil_of_length_eq_zero h)
      simp only [zc0, hn, if_false, cellsAt, hg]
      rw [if_pos q1, q2]
theorem z22 {v x : V} {xs ys : List α} {n bytes : Nat} {H : Heap} {Q : V → Heap → Prop} (hs : Flat.size α = n) (hv : zkx H v xs) (hx : Sl H x ys) (hb : (xs.length + ys.length) * bytes ≤ 35184372088832) (hb2 : xs.length + ys.length ≤ 35184372088832)
    (hQ : ∀ w H', zkx H' w (xs ++ ys) → Keeps (vb v) H H' → (∀ b ∈ vb w, b ∈ vb v ∨ H.next ≤ b) → Q w H') : wp (zj3 n bytes v x) Q H := by
  by_cases h0 : ys = []
  · subst h0
    have hf : ∃ a c, x = .slice a 0 c := by
      rcases hx with ⟨rfl, _⟩ | ⟨bb, o, u, c, rfl, _⟩
      · exact ⟨_, _, rfl⟩
      · exact ⟨_, _, rfl⟩
    obtain ⟨a, c, rfl⟩ := hf
    exact zbb3 (ys := ([] : List α)) hs hv rfl (fun h => absurd rfl h) hb hb2 hQ
  · obtain ⟨a, c, rfl, hc⟩ := zbpr hs hx h0
    exact zbb3 hs hv rfl (fun _ => hc) hb hb2 hQ
theorem zbe4 {v : V} {xs ys : List α} {n m bytes : Nat} {zero : List V} {parts : List (Nat × Nat × V)} {H : Heap} {Q : V → Heap → Prop} (hs : Flat.size α = n) (hv : zkx H v xs) (hz : zero.all ziq = true) (hf : zdm zero parts = some (zdv ys)) (hm : ys.length = m) (hb : (xs.length + m) * bytes ≤ 35184372088832) (hb2 : xs.length + m ≤ 35184372088832)
    (hQ : ∀ w H', zkx H' w (xs ++ ys) → Keeps (vb v) H H' → (∀ b ∈ vb w, b ∈ vb v ∨ H.next ≤ b) → Q w H') : wp (zjx n m zero parts) (fun x H1 => wp (zj3 n bytes v x) Q H1) H := by
  subst hm
  refine (zub hz hf).mpr ?_
  have hk := Keeps.push [] H (some (.cells true (zdv ys)))
  refine z22 hs (hv.keep0 hk) (zyr hs rfl).sl hb hb2 fun w H' h1 h2 h3 => hQ w H' h1 ?_ fun b hb => (h3 b hb).imp id fun q => by simp at q; omega
  exact ⟨by have := h2.next; simp at this; omega, fun c hc hn => by rw [h2.same c (by simp; omega) hn, Heap.get_push_lt hc]⟩
end
theorem zbkk (l : List (BitVec 8)) : zdv l = l.map B := by
  induction l with
  | nil => rfl
  | cons x l ih => rw [zi2, ih]; rfl
theorem zbps {v : V} {l : List (BitVec 8)} {H : Heap} {Q : V → Heap → Prop} (hv : zkx H v l) (hQ : Q (.string (sv l)) H) : wp (b2s v) Q H := by
  refine zbri (l := l) ?_ hQ
  rw [← zbkk]
  rcases hv with ⟨rfl, rfl⟩ | ⟨b, rfl, hg⟩
  · exact .inl ⟨rfl, rfl⟩
  · refine .inr ⟨b, ?_, hg⟩
    have e : (zdv l).length = l.length := by rw [ze0]; exact Nat.mul_one _
    rw [e]; rfl
end Go.AM

/- The rules that a walk always has, as two lemmas. -/
namespace Go.AM
theorem Z1 : type_of% (And.intro (And.intro (And.intro (And.intro (And.intro (And.intro @zbf2 @zbf3) (And.intro @zcc @zzp)) (And.intro (And.intro @zvd @wp_ret) (And.intro @zbpb @zbpc))) (And.intro (And.intro (And.intro @zbpd @zbeu) (And.intro @zbev @zbew)) (And.intro (And.intro @zbic @zbid) (And.intro @zbie (And.intro @zbl3 @zbl4))))) (And.intro (And.intro (And.intro (And.intro @zbih @zbii) (And.intro @gd_t @gd_f)) (And.intro (And.intro @zbsy @zbsz) (And.intro @zbls @zbsw))) (And.intro (And.intro (And.intro @zbsx @zbph) (And.intro @zbpi @zbpj)) (And.intro (And.intro @zbpk @zbl0) (And.intro @zbl1 (And.intro @zbs0 @zbs1)))))) (And.intro (And.intro (And.intro (And.intro (And.intro @zbl2 @zbez) (And.intro @zbbw @zbbx)) (And.intro (And.intro @z9v @zbey) (And.intro @zbex @Nat.zero_add))) (And.intro (And.intro (And.intro @Nat.add_zero @zbpe) (And.intro @zbbv @z6t)) (And.intro (And.intro @zbig @zblt) (And.intro @zblu (And.intro @zblv @i64_in))))) (And.intro (And.intro (And.intro (And.intro @zbl5 @zbl6) (And.intro @zblw @zblx)) (And.intro (And.intro @zbly @zblz) (And.intro @zbl7 (And.intro @zbl8 @if_true.{1})))) (And.intro (And.intro (And.intro @zblr @zbib) (And.intro @zblq @zbma)) (And.intro (And.intro @zbmb @zbij) (And.intro @zbik (And.intro @List.getElem?_cons_zero.{0} @List.getElem?_cons_succ.{0}))))))) := (And.intro (And.intro (And.intro (And.intro (And.intro (And.intro @zbf2 @zbf3) (And.intro @zcc @zzp)) (And.intro (And.intro @zvd @wp_ret) (And.intro @zbpb @zbpc))) (And.intro (And.intro (And.intro @zbpd @zbeu) (And.intro @zbev @zbew)) (And.intro (And.intro @zbic @zbid) (And.intro @zbie (And.intro @zbl3 @zbl4))))) (And.intro (And.intro (And.intro (And.intro @zbih @zbii) (And.intro @gd_t @gd_f)) (And.intro (And.intro @zbsy @zbsz) (And.intro @zbls @zbsw))) (And.intro (And.intro (And.intro @zbsx @zbph) (And.intro @zbpi @zbpj)) (And.intro (And.intro @zbpk @zbl0) (And.intro @zbl1 (And.intro @zbs0 @zbs1)))))) (And.intro (And.intro (And.intro (And.intro (And.intro @zbl2 @zbez) (And.intro @zbbw @zbbx)) (And.intro (And.intro @z9v @zbey) (And.intro @zbex @Nat.zero_add))) (And.intro (And.intro (And.intro @Nat.add_zero @zbpe) (And.intro @zbbv @z6t)) (And.intro (And.intro @zbig @zblt) (And.intro @zblu (And.intro @zblv @i64_in))))) (And.intro (And.intro (And.intro (And.intro @zbl5 @zbl6) (And.intro @zblw @zblx)) (And.intro (And.intro @zbly @zblz) (And.intro @zbl7 (And.intro @zbl8 @if_true.{1})))) (And.intro (And.intro (And.intro @zblr @zbib) (And.intro @zblq @zbma)) (And.intro (And.intro @zbmb @zbij) (And.intro @zbik (And.intro @List.getElem?_cons_zero.{0} @List.getElem?_cons_succ.{0})))))))
theorem Z2 : type_of% (And.intro (And.intro (And.intro (And.intro (And.intro (And.intro @zl @zf) (And.intro @zbx @zb8)) (And.intro (And.intro @eq_self.{1} @true_and) (And.intro @zby @zbt))) (And.intro (And.intro (And.intro @zdz @zb0) (And.intro @zbi @zbc)) (And.intro (And.intro @Heap.get_push_eq @Heap.get_push_lt) (And.intro @Heap.get_set_eq (And.intro @Heap.get_set_ne' @Heap.next_push'))))) (And.intro (And.intro (And.intro (And.intro @Heap.next_set' @Heap.set_push_lt) (And.intro @Heap.set_push_eq @Heap.set_set)) (And.intro (And.intro @zbj @zbk) (And.intro @zp (And.intro @zbn @zbo)))) (And.intro (And.intro (And.intro @zi @zw) (And.intro @zbp @zbd)) (And.intro (And.intro @zu @zbe) (And.intro @zbf (And.intro @zbg @zbh)))))) (And.intro (And.intro (And.intro (And.intro (And.intro @List.set_cons_zero.{0} @List.set_cons_succ.{0}) (And.intro @List.length_cons.{0} @List.length_nil.{0})) (And.intro (And.intro @List.drop_succ_cons.{0} @List.drop_zero.{0}) (And.intro @List.take_succ_cons.{0} @List.take_zero.{0}))) (And.intro (And.intro (And.intro @List.nil_append.{0} @List.cons_append.{0}) (And.intro @zq @zr)) (And.intro (And.intro @zh @ze) (And.intro @zd (And.intro @zt @zbl))))) (And.intro (And.intro (And.intro (And.intro @zv @zb2) (And.intro @zbu @zbm)) (And.intro (And.intro @zbs @zg) (And.intro @zm (And.intro @zbb @Option.map_some.{0,0})))) (And.intro (And.intro (And.intro @zbq @zbr) (And.intro @zk @zba)) (And.intro (And.intro @z7 @zz) (And.intro @zj (And.intro @zx @zy))))))) := (And.intro (And.intro (And.intro (And.intro (And.intro (And.intro @zl @zf) (And.intro @zbx @zb8)) (And.intro (And.intro @eq_self.{1} @true_and) (And.intro @zby @zbt))) (And.intro (And.intro (And.intro @zdz @zb0) (And.intro @zbi @zbc)) (And.intro (And.intro @Heap.get_push_eq @Heap.get_push_lt) (And.intro @Heap.get_set_eq (And.intro @Heap.get_set_ne' @Heap.next_push'))))) (And.intro (And.intro (And.intro (And.intro @Heap.next_set' @Heap.set_push_lt) (And.intro @Heap.set_push_eq @Heap.set_set)) (And.intro (And.intro @zbj @zbk) (And.intro @zp (And.intro @zbn @zbo)))) (And.intro (And.intro (And.intro @zi @zw) (And.intro @zbp @zbd)) (And.intro (And.intro @zu @zbe) (And.intro @zbf (And.intro @zbg @zbh)))))) (And.intro (And.intro (And.intro (And.intro (And.intro @List.set_cons_zero.{0} @List.set_cons_succ.{0}) (And.intro @List.length_cons.{0} @List.length_nil.{0})) (And.intro (And.intro @List.drop_succ_cons.{0} @List.drop_zero.{0}) (And.intro @List.take_succ_cons.{0} @List.take_zero.{0}))) (And.intro (And.intro (And.intro @List.nil_append.{0} @List.cons_append.{0}) (And.intro @zq @zr)) (And.intro (And.intro @zh @ze) (And.intro @zd (And.intro @zt @zbl))))) (And.intro (And.intro (And.intro (And.intro @zv @zb2) (And.intro @zbu @zbm)) (And.intro (And.intro @zbs @zg) (And.intro @zm (And.intro @zbb @Option.map_some.{0,0})))) (And.intro (And.intro (And.intro @zbq @zbr) (And.intro @zk @zba)) (And.intro (And.intro @z7 @zz) (And.intro @zj (And.intro @zx @zy)))))))
theorem Z3 : type_of% (And.intro @Heap.next_push' @Heap.next_set') := And.intro @Heap.next_push' @Heap.next_set'
end Go.AM

/- Slices among the cells of other things. -/
namespace Go.AM
structure In (α : Type) where
  v : V
  xs : List α
  one : v.isOne = true
instance {α : Type} : Inhabited (In α) := ⟨⟨.slice none 0 0, [], rfl⟩⟩
instance {α : Type} : Flat (In α) := ⟨1, fun a => [a.v], fun _ => rfl, fun a => by simp [a.one], by decide⟩
structure Sl2 {α : Type} [Flat α] (H : Heap) (v : V) (xs : List (In α)) : Prop where
  out : Sl H v xs
  inn : ∀ x ∈ xs, Sl H x.v x.xs
theorem Sl2.keep0 {α : Type} [Flat α] {H H' : Heap} {v : V} {xs : List (In α)} (h : Sl2 H v xs) (hk : Keeps [] H H') : Sl2 H' v xs := ⟨h.out.keep0 hk, fun x hx => (h.inn x hx).keep0 hk⟩
theorem Sl2.at {α : Type} [Flat α] {H : Heap} {v : V} {xs : List (In α)} (h : Sl2 H v xs) {i : Nat} (hi : i < xs.length) : Sl H (xs.getD i default).v (xs.getD i default).xs := by
  rw [List.getD_eq_getElem?_getD, List.getElem?_eq_getElem hi]
  exact h.inn _ (List.getElem_mem hi)
theorem Sl2.get {α : Type} [Flat α] {H : Heap} {v : V} {xs : List (In α)} (h : Sl2 H v xs) {i : Nat} (hi : i < xs.length) : zb5 1 v (i64 i) = some (ptr (slB v) (slO v + i)) ∧ zsx H (ptr (slB v) (slO v + i)) = some (xs.getD i default).v := by
  have h1 := h.out.addr1 rfl (k := .i64) (i := i) (by omega) (by omega)
  rw [Int.toNat_natCast] at h1
  exact ⟨h1, by rw [h.out.cell1 rfl hi default]; rfl⟩
end Go.AM

/- Things on the heap that lie apart from each other. -/
namespace Go.AM
structure Thing where
  fp : List Nat
  P : Heap → Prop
  loc : ∀ {H H' : Heap}, H.next ≤ H'.next → (∀ b ∈ fp, H'.get b = H.get b) → P H → P H'
  lt : ∀ {H : Heap}, P H → ∀ b ∈ fp, b < H.next
def cel (d : Nat) (cs : List V) : Thing := ⟨[d], fun H => H.get d = some (.cells true cs), fun _ h p => by rw [h d (by simp)]; exact p, fun p b hb => by simp at hb; subst hb; exact Heap.get_lt p⟩
def own {α : Type} [Flat α] (v : V) (xs : List α) : Thing :=
  ⟨vb v, fun H => zkx H v xs, fun _ h p => by
    rcases p with p | ⟨b, rfl, hb⟩
    · exact .inl p
    · exact .inr ⟨b, rfl, by rw [h b (by simp)]; exact hb⟩, fun p => p.lt⟩
def view {α : Type} [Flat α] (v : V) (xs : List α) : Thing :=
  ⟨vb v, fun H => Sl H v xs, fun hn h p => by
    rcases p with p | ⟨b, o, u, c, rfl, hc, hb, hl, hu⟩
    · exact .inl p
    · refine .inr ⟨b, o, u, c, rfl, hc, by omega, ?_, hu⟩
      rw [h b (by simp)]; exact hl, fun p b hb => by
    rcases p with ⟨rfl, rfl⟩ | ⟨b', o, u, c, rfl, hc, hb', hl, hu⟩
    · simp at hb
    · simp at hb; omega⟩
structure Hp (H0 H : Heap) (L : List Thing) : Prop where
  keeps : Keeps [] H0 H
  new : ∀ t ∈ L, ∀ b ∈ t.fp, H0.next ≤ b
  all : ∀ t ∈ L, t.P H
  apart : L.Pairwise fun t u => ∀ b ∈ t.fp, b ∉ u.fp
theorem Hp.start (H : Heap) : Hp H H [] := ⟨Keeps.refl _ _, by simp, by simp, List.Pairwise.nil⟩
variable {H0 H H' : Heap} {L : List Thing} {t t' : Thing}
theorem Hp.keep (h : Hp H0 H L) {S : List Nat} (hk : Keeps S H H') (hs : ∀ b ∈ S, H0.next ≤ b ∧ ∀ t ∈ L, b ∉ t.fp) : Hp H0 H' L :=
  ⟨h.keeps.trans hk (fun b hb hm => by have := (hs b hm).1; omega), h.new, fun t ht => t.loc hk.next (fun b hb => hk.same b (t.lt (h.all t ht) b hb) fun q => (hs b q).2 t ht hb) (h.all t ht), h.apart⟩
theorem Hp.keep0 (h : Hp H0 H L) (hk : Keeps [] H H') : Hp H0 H' L := h.keep hk (by simp)
theorem Hp.push (h : Hp H0 H L) (x : Option Blk) : Hp H0 (H.push x) L := h.keep0 (Keeps.push _ _ _)
theorem Hp.head (h : Hp H0 H (t :: L)) : t.P H := h.all t (by simp)
theorem Hp.tail (h : Hp H0 H (t :: L)) : Hp H0 H L := ⟨h.keeps, fun u hu => h.new u (by simp [hu]), fun u hu => h.all u (by simp [hu]), (List.pairwise_cons.1 h.apart).2⟩
theorem Hp.drop (h : Hp H0 H L) (n : Nat) : Hp H0 H (L.drop n) := ⟨h.keeps, fun u hu => h.new u (List.mem_of_mem_drop hu), fun u hu => h.all u (List.mem_of_mem_drop hu), h.apart.sublist (List.drop_sublist n L)⟩
theorem Hp.sub {L' : List Thing} (h : Hp H0 H L) (hs : L'.Sublist L) : Hp H0 H L' := ⟨h.keeps, fun u hu => h.new u (hs.subset hu), fun u hu => h.all u (hs.subset hu), h.apart.sublist hs⟩
theorem Hp.perm {L' : List Thing} (h : Hp H0 H L) (hp : L.Perm L') : Hp H0 H L' :=
  ⟨h.keeps, fun u hu => h.new u (hp.mem_iff.2 hu), fun u hu => h.all u (hp.mem_iff.2 hu), (hp.pairwise_iff (R := fun t u : Thing => ∀ b ∈ t.fp, b ∉ u.fp) (fun h b hb hb' => h b hb' hb)).1 h.apart⟩
theorem Hp.at (h : Hp H0 H L) {i : Nat} (hi : L[i]? = some t) : t.P H := h.all t (List.mem_of_getElem? hi)
theorem Hp.newAt (h : Hp H0 H L) {i : Nat} (hi : L[i]? = some t) : ∀ b ∈ t.fp, H0.next ≤ b := h.new t (List.mem_of_getElem? hi)
theorem Hp.ltAt (h : Hp H0 H L) {i : Nat} (hi : L[i]? = some t) : ∀ b ∈ t.fp, b < H.next := t.lt (h.at hi)
theorem zbb4 {α : Type} : ∀ {L : List α} {i : Nat} {t : α}, L[i]? = some t → L.Perm (t :: L.eraseIdx i)
  | [], i, t, h => by simp at h
  | x :: l, 0, t, h => by simp at h; subst h; exact List.Perm.refl _
  | x :: l, i + 1, t, h => by
    have := zbb4 (L := l) (i := i) (t := t) (by simpa using h)
    exact (List.Perm.cons x this).trans (List.Perm.swap _ _ _)
theorem zbin {α : Type} : ∀ {L : List α} {i : Nat} {t u : α}, L[i]? = some t → (u :: L.eraseIdx i).Perm (L.set i u)
  | [], i, t, u, h => by simp at h
  | x :: l, 0, t, u, h => by simp
  | x :: l, i + 1, t, u, h => by
    have := zbin (L := l) (i := i) (t := t) (u := u) (by simpa using h)
    exact (List.Perm.swap _ _ _).trans (List.Perm.cons x this)
theorem Hp.front (h : Hp H0 H L) {i : Nat} (hi : L[i]? = some t) : Hp H0 H (t :: L.eraseIdx i) := h.perm (zbb4 hi)
theorem Hp.add (h : Hp H0 H L) (hk : Keeps [] H H') (ht : t.P H') (hn : ∀ b ∈ t.fp, H.next ≤ b) : Hp H0 H' (t :: L) := by
  have h1 := h.keep0 hk
  refine ⟨h1.keeps, fun u hu => ?_, fun u hu => ?_, List.pairwise_cons.2 ⟨fun u hu b hb hb' => ?_, h1.apart⟩⟩
  · rcases List.mem_cons.1 hu with rfl | hu
    · exact fun b hb => Nat.le_trans h.keeps.next (hn b hb)
    · exact h.new u hu
  · rcases List.mem_cons.1 hu with rfl | hu
    · exact ht
    · exact h1.all u hu
  · have := hn b hb
    have := u.lt (h.all u hu) b hb'
    omega
theorem Hp.newc (h : Hp H0 H L) (cs : List V) : Hp H0 (H.push (some (.cells true cs))) (cel H.next cs :: L) :=
  h.add (Keeps.push _ _ _) (Heap.get_push_self _ _) (by
    intro b hb
    have : b = H.next := by simpa [cel] using hb
    omega)
theorem Hp.newo {α : Type} [Flat α] (h : Hp H0 H L) {n m : Nat} (xs : List α) (hs : Flat.size α = n) (hm : xs.length = m) : Hp H0 (H.push (some (.cells true (zdv xs)))) (own (slc H.next 0 n m m) xs :: L) :=
  h.add (Keeps.push _ _ _) (zyr hs hm) (by
    intro b hb
    have : b = H.next := by simpa [own] using hb
    omega)
theorem Hp.nilo {α : Type} [Flat α] (h : Hp H0 H L) : Hp H0 H (own (.slice none 0 0) ([] : List α) :: L) :=
  h.add (Keeps.refl _ _) (zkx.nil H) (by simp [own])
theorem Hp.step1 (h : Hp H0 H (t :: L)) (hk : Keeps t.fp H H') (ht : t'.P H') (hn : ∀ b ∈ t'.fp, b ∈ t.fp ∨ H.next ≤ b) : Hp H0 H' (t' :: L) := by
  have hp := (List.pairwise_cons.1 h.apart).1
  have h1 : Hp H0 H' L := h.tail.keep hk fun b hb => ⟨h.new t (by simp) b hb, fun u hu => hp u hu b hb⟩
  refine ⟨h1.keeps, fun u hu => ?_, fun u hu => ?_, List.pairwise_cons.2 ⟨fun u hu b hb hb' => ?_, h1.apart⟩⟩
  · rcases List.mem_cons.1 hu with rfl | hu
    · intro b hb
      rcases hn b hb with q | q
      · exact h.new t (by simp) b q
      · exact Nat.le_trans h.keeps.next q
    · exact h1.new u hu
  · rcases List.mem_cons.1 hu with rfl | hu
    · exact ht
    · exact h1.all u hu
  · rcases hn b hb with q | q
    · exact hp u hu b q hb'
    · have := u.lt (h.all u (by simp [hu])) b hb'; omega
theorem Hp.step (h : Hp H0 H L) {i : Nat} (hi : L[i]? = some t) (hk : Keeps t.fp H H') (ht : t'.P H') (hn : ∀ b ∈ t'.fp, b ∈ t.fp ∨ H.next ≤ b) : Hp H0 H' (L.set i t') :=
  ((h.front hi).step1 hk ht hn).perm (zbin hi)
theorem Hp.get {d i : Nat} {cs : List V} (h : Hp H0 H L) (hi : L[i]? = some (cel d cs)) : H.get d = some (.cells true cs) := h.at hi
theorem Hp.set {d i : Nat} {cs : List V} (h : Hp H0 H L) (hi : L[i]? = some (cel d cs)) (cs' : List V) : Hp H0 (H.set d (some (.cells true cs'))) (L.set i (cel d cs')) :=
  h.step hi (Keeps.set (by simp [cel])) (Heap.get_set_eq (Heap.get_lt (h.get hi))) (fun b hb => .inl hb)
theorem Hp.own {α : Type} [Flat α] {i : Nat} {v : V} {xs : List α} (h : Hp H0 H L) (hi : L[i]? = some (own v xs)) : zkx H v xs := h.at hi
theorem Hp.view {α : Type} [Flat α] {i : Nat} {v : V} {xs : List α} (h : Hp H0 H L) (hi : L[i]? = some (view v xs)) : Sl H v xs := h.at hi
theorem Hp.ro {α : Type} [Flat α] {v : V} {xs : List α} (h : Hp H0 H L) (hs : Sl H0 v xs) : Sl H v xs := hs.keep0 h.keeps
theorem Hp.join {B : List Thing} (h : Hp H0 H L) (h2 : Hp H H' B) : Hp H0 H' (B ++ L) := by
  have := (h.keep0 h2.keeps)
  refine ⟨this.keeps, fun u hu => ?_, fun u hu => ?_, List.pairwise_append.2 ⟨h2.apart, h.apart, fun t ht u hu b hb hb' => ?_⟩⟩
  · rcases List.mem_append.1 hu with hu | hu
    · exact fun b hb => Nat.le_trans h.keeps.next (h2.new u hu b hb)
    · exact h.new u hu
  · rcases List.mem_append.1 hu with hu | hu
    · exact h2.all u hu
    · exact this.all u hu
  · have := h2.new t ht b hb
    have := u.lt (h.all u hu) b hb'
    omega
theorem zbf4 {α : Type} [Flat α] {v x : V} {xs ys : List α} {n bytes i : Nat} {Q : V → Heap → Prop} (h : Hp H0 H L) (hi : L[i]? = some (Go.AM.own v xs)) (hs : Flat.size α = n) (hx : Sl H x ys) (hb : (xs.length + ys.length) * bytes ≤ 35184372088832) (hb2 : xs.length + ys.length ≤ 35184372088832)
    (hQ : ∀ w H', Hp H0 H' (L.set i (Go.AM.own w (xs ++ ys))) → Q w H') : wp (zj3 n bytes v x) Q H :=
  z22 hs (h.own hi) hx hb hb2 fun w H' o k vv => hQ w H' (h.step hi k o vv)
theorem zzt {α : Type} [Flat α] {v : V} {xs ys : List α} {n m bytes i : Nat} {zero : List V} {parts : List (Nat × Nat × V)} {Q : V → Heap → Prop} (h : Hp H0 H L) (hi : L[i]? = some (Go.AM.own v xs)) (hs : Flat.size α = n) (hz : zero.all ziq = true) (hf : zdm zero parts = some (zdv ys)) (hm : ys.length = m) (hb : (xs.length + m) * bytes ≤ 35184372088832) (hb2 : xs.length + m ≤ 35184372088832)
    (hQ : ∀ w H', Hp H0 H' (L.set i (Go.AM.own w (xs ++ ys))) → Q w H') : wp (zjx n m zero parts) (fun x H1 => wp (zj3 n bytes v x) Q H1) H :=
  zbe4 hs (h.own hi) hz hf hm hb hb2 fun w H' o k vv => hQ w H' (h.step hi k o vv)
theorem zkx.at {α : Type} [Flat α] {H : Heap} {v : V} {xs : List α} (h : zkx H v xs) (hne : xs ≠ []) : slO v = 0 ∧ H.get (slB v) = some (.cells true (zdv xs)) ∧ v = slc (slB v) 0 (Flat.size α) xs.length xs.length := by
  rcases h with ⟨_, q⟩ | ⟨b, rfl, hb⟩
  · exact absurd q hne
  · exact ⟨rfl, hb, rfl⟩
theorem zkx.to {α : Type} [Flat α] {H H' : Heap} {v : V} {xs ys : List α} (h : zkx H v xs) (hne : xs ≠ []) (hl : ys.length = xs.length) (hg : H'.get (slB v) = some (.cells true (zdv ys))) : zkx H' v ys := by
  rcases h with ⟨_, q⟩ | ⟨b, rfl, hb⟩
  · exact absurd q hne
  · exact .inr ⟨b, by rw [hl], hg⟩
theorem zbkl {α : Type} [Flat α] {v u : V} {xs : List α} {x' d : α} {idx i off n : Nat} {Q : V → Heap → Prop} (h : Hp H0 H L) (hidx : L[idx]? = some (Go.AM.own v xs)) (hs : Flat.size α = n) (hi : i < xs.length) (ho : off < n) (hu : u.isOne = true) (hx : Flat.enc x' = (Flat.enc (xs.getD i d)).set off u)
    (hQ : ∀ H', Hp H0 H' (L.set idx (Go.AM.own v (xs.set i x'))) → Q undef H') : wp (st1 (ptr (slB v) (slO v + i * n + off)) u) Q H := by
  subst hs
  have o := h.own hidx
  have hne : xs ≠ [] := by intro q; rw [q] at hi; simp at hi
  obtain ⟨e0, hg, ev⟩ := o.at hne
  have hlen := ze0 xs
  have hin : i * Flat.size α + off < (zdv xs).length := by
    rw [hlen]
    calc i * Flat.size α + off < i * Flat.size α + Flat.size α := by omega
      _ = (i + 1) * Flat.size α := by rw [Nat.add_mul]; omega
      _ ≤ xs.length * Flat.size α := Nat.mul_le_mul_right _ (by omega)
  rw [e0, Nat.zero_add]
  refine (zbpf hg hu hin).mpr ?_
  rw [zbpn xs i off u x' d hi ho hx]
  refine hQ _ (h.step hidx (Keeps.set (by show slB v ∈ vb v; rw [ev]; simp [slB])) (o.to hne (by simp) (Heap.get_set_eq (Heap.get_lt hg))) fun b hb => .inl hb)
end Go.AM

/- From runs on the abstract machine to calls in the model: what was there before stays as it was. -/
namespace Go.AM
open Go.RowKit (Below)
open Go.ChangeShapes
def zbpt (t : Nat) (x : V) : V := match x with
  | .agg cs => match cs.toList with
    | [.pointer (some ⟨g, o, none⟩)] => if g < 1048576 ∧ o < 1048576 then .chan (some (t * 1099511627776 + g * 1048576 + o)) else undef
    | _ => undef
  | _ => undef
theorem zbnp (ρ : Ren) (t : Nat) (x : V) : VRel ρ (zbpt t x) (.iface t x) := by
  unfold zbpt
  split
  · rename_i cs
    split
    · rename_i g o hcs
      split
      · rename_i h
        have e : tokV (t * 1099511627776 + g * 1048576 + o) = .iface t (.agg cs) := by
          unfold tokV
          have e1 : (t * 1099511627776 + g * 1048576 + o) / 1099511627776 = t := by omega
          have e2 : (t * 1099511627776 + g * 1048576 + o) / 1048576 % 1048576 = g := by omega
          have e3 : (t * 1099511627776 + g * 1048576 + o) % 1048576 = o := by omega
          rw [e1, e2, e3]
          congr 2
          apply Array.ext'
          rw [hcs]
        rw [← e]; exact .tok _
      · exact .undef _
    · exact .undef _
  · exact .undef _
def zbio (N : Nat) (v : V) : V := match v with
  | .bool b => .bool b
  | .int k n => .int k n
  | .string s => .string s
  | .pointer none => .pointer none
  | .pointer (some ⟨b, o, none⟩) => if b < N then .pointer (some ⟨b, o, none⟩) else undef
  | .slice none 0 0 => .slice none 0 0
  | .slice (some a) len cap => if a.spot = none ∧ a.block < N ∧ len ≤ cap then slc a.block a.off 0 len cap else if len = 0 ∧ cap = 0 ∧ 0 < N then slc 0 0 0 0 0 else undef
  | .map none => .map none
  | .map (some b) => if b < N then .map (some b) else undef
  | .nilFunc => .nilFunc
  | .nilIface => .nilIface
  | .iface t x => zbpt t x
  | _ => undef
def z1f (N : Nat) (v : V) : V := match v with
  | .agg cs => .agg (cs.map (zbio N))
  | v => zbio N v
def absB (N : Nat) : Option Obj → Option Blk
  | some (.cells C _ _) => some (.cells false (C.toList.map (z1f N)))
  | some (.map E _) => some (.map false (E.toList.map fun e => (z1f N e.key, z1f N e.val)))
  | _ => none
def z1g (w : World) : Heap := Heap.mk0 w.heap.size fun b => absB w.heap.size w.heap[b]?
def zbip : Option Obj → Nat
  | some (.cells C _ _) => C.size
  | _ => 0
def ren0 (w : World) : Ren := fun b => if b < w.heap.size then some ⟨b, 0, zbip w.heap[b]?⟩ else none
theorem z48 (w : World) : (z1g w).next = w.heap.size := Heap.mk0_next _ _
theorem z23 (w : World) (b : Nat) : (z1g w).get b = absB w.heap.size w.heap[b]? := by
  unfold z1g
  rw [Heap.mk0_get]
  by_cases h : b < w.heap.size
  · rw [if_pos h]
  · rw [if_neg h, Array.getElem?_eq_none (by omega)]
    rfl
theorem zbe5 (w : World) (v : V) : VRel (ren0 w) (zbio w.heap.size v) v := by
  have hr : ∀ b, b < w.heap.size → ren0 w b = some ⟨b, 0, zbip w.heap[b]?⟩ := fun b h => by simp only [ren0, h, if_true]
  unfold zbio
  split
  · exact .bool _
  · exact .int _ _
  · exact .string _
  · exact .pnil
  · split
    · rename_i b o h
      have := VRel.ptr (ρ := ren0 w) b o _ (hr b h)
      simpa using this
    · exact .undef _
  · exact .snil
  · split
    · rename_i a len cap h
      obtain ⟨b, o, sp⟩ := a
      obtain ⟨rfl, h1, h2⟩ := h
      exact .slc b o 0 len cap _ o cap _ (hr b h1) (.inl (by simp)) h2 (Nat.le_refl _) (.inl rfl) (.inl (by simp)) (.inl rfl)
    · split
      · rename_i a len cap _ h
        obtain ⟨rfl, rfl, h0⟩ := h
        exact .slc 0 0 0 0 0 _ 0 0 a (hr 0 h0) (.inr rfl) (Nat.le_refl _) (Nat.le_refl _) (.inl rfl) (.inr rfl) (.inl rfl)
      · exact .undef _
  · exact .mnil
  · split
    · rename_i b h
      exact .map b _ (hr b h)
    · exact .undef _
  · exact .nilFunc
  · exact .nilIface
  · exact zbnp _ _ _
  · exact .undef _
theorem z6x (w : World) (v : V) : VRel (ren0 w) (z1f w.heap.size v) v := by
  unfold z1f
  split
  · exact .agg _ _ (by simp) fun i h h' => by simpa using zbe5 w _
  · exact zbe5 w _
theorem z1h {ρ : Ren} {f : V → V} (h : ∀ v, VRel ρ (f v) v) : ∀ l : List V, LRel ρ (l.map f) l
  | [] => .nil
  | v :: l => .cons (h v) (z1h h l)
theorem rel0 (w : World) : Rel w.heap.size w (ren0 w) (z1g w) w := by
  refine ⟨Below.refl _ _, Nat.le_refl _, fun b hb => ?_, fun b hb => ⟨zbip w.heap[b]?, by simp only [ren0, hb, if_true]⟩, fun b x hx => ?_, fun b b' x x' L L' hx hx' hne hL hL' => ?_⟩
  · rw [z48] at hb
    simp only [ren0]; rw [if_neg (by omega)]
  · have hlt := Heap.get_lt hx
    rw [z48] at hlt
    rw [z23] at hx
    refine ⟨⟨b, 0, zbip w.heap[b]?⟩, by simp only [ren0, hlt, if_true], ?_⟩
    unfold absB at hx
    split at hx
    · rename_i C e f hC
      cases hx
      refine ⟨C, e, f, hC, by simp [hC, zbip], ⟨fun h => absurd h (by decide), fun _ => by simp⟩, by simp, ?_⟩
      simp only [List.drop_zero, List.length_map]
      rw [List.take_of_length_le (by simp)]
      exact z1h (z6x w) _
    · rename_i E clk hE
      cases hx
      refine ⟨rfl, E, clk, hE, fun h => absurd h (by decide), ?_, ?_⟩
      · have := z1h (z6x w) (E.toList.map (·.key))
        simpa [List.map_map, Function.comp_def] using this
      · have := z1h (z6x w) (E.toList.map (·.val))
        simpa [List.map_map, Function.comp_def] using this
    · cases hx
  · simp only [ren0] at hL hL'
    split at hL
    · split at hL'
      · cases hL; cases hL'; exact hne
      · cases hL'
    · cases hL
theorem calls_of_wp' {P : Program} {f : FuncId} {F : List V → M V} (hk : zb3 P f F) {W : World} (hG : P.globals.size ≤ W.heap.size) {args : Array V} {b : Bool}
    (h : wp (F (args.toList.map (z1f W.heap.size))) (fun r _ => r = .bool b) (z1g W)) : Calls P f args W fun e W' => e = .returned (.bool b) ∧ Below W.heap.size W W' := by
  obtain ⟨r, H', h1, rfl⟩ := h
  have := hk.2 W.heap.size W (ren0 W) (z1g W) W (args.toList.map (z1f W.heap.size)) args.toList (.bool b) H' hG (rel0 W) (z1h (z6x W) _) h1
  have e : args.toList.toArray = args := by simp
  rw [e] at this
  refine this.mono fun e W' ⟨r', he, ρ', hv, hr, _⟩ => ?_
  subst he
  cases hv
  exact ⟨rfl, hr.below⟩
theorem zbiq {H : Type} {enc : TypeId × Value → H} {P : Program} (hl : laidOutB P = true) {W W' : World} (hb : Below W.heap.size W W') {sp : Nat → Bool} : ∀ {ts : List TypeId} {vs : List Value} {ds : List (DataW H)} {ps : List MemPlace},
    (∀ t ∈ ts, P.readableRec t = true ∧ t < P.types.size) → DataW.TrodAll enc P W 0 (fun _ => true) true ts vs ds ps → (∀ p ∈ ps, p.block < W.heap.size) → (∀ p ∈ ps, sp p.block = true) → DataW.TrodAll enc P W' 0 sp true ts vs ds ps
  | [], vs, ds, ps, _, h, _, _ => by
    obtain ⟨rfl, rfl, rfl⟩ := trodAll_nil h
    exact trodAll_mk0
  | t :: ts, vs, ds, ps, ht, h, hlt, hsp => by
    obtain ⟨v0, vs0, d0, ds0, p0, q0, rfl, rfl, rfl, h0, r0⟩ := trodAll_cons h
    have h1 := ht t (by simp)
    refine trodAll_cons_mk (WideElems.Trod_stays hl h1.1 h1.2 h0 (fun p hp => hb.same (hlt p (by simp [hp]))) fun p hp => hsp p (by simp [hp])) ?_
    exact zbiq hl hb (fun t h => ht t (by simp [h])) r0 (fun p hp => hlt p (by simp [hp])) (fun p hp => hsp p (by simp [hp]))
theorem post_of_below {H : Type} {enc : TypeId × Value → H} {P : Program} {f : Func} {s : ChangeSpec} {apart fresh handsOn again : Bool} {W W' : World} {args : Array Value} {v : Value} {ds : List (DataW H)} {gs : List (DataW H)} {before : List MemPlace} (hl : laidOutB P = true)
    (hts : ∀ t ∈ f.params.toList, P.readableRec t = true ∧ t < P.types.size) (hvars : s.vars = [])
    (hW : DataW.Whole enc P f.params.toList s.vars apart W args.toList ds gs before) (hb : Below W.heap.size W W')
    (hres : ∀ (b : Nat) (sp : Nat → Bool) (hd : Bool), DataW.TrodAll enc P W' b sp hd f.resultTypes.toList (v.resultList f.resultTypes.size) (s.fn H (ds ++ gs)).results [])
    (hargs : (s.fn H (ds ++ gs)).args = ds) (hv2 : (s.fn H (ds ++ gs)).vars = [])
    (hok : ∀ (j : Nat) (t : TypeId) (r : Value), f.resultTypes[j]? = some t → (v.resultList f.resultTypes.size)[j]? = some r → Value.okWide P W' .any 0 t r) :
    s.post enc P f apart fresh handsOn again W args v W' := by
  have hlt : ∀ p ∈ before, p.block < W.heap.size := fun p hp => hW.lt p hp
  have hold : ∀ p ∈ before, (fun b => decide (b < W.heap.size)) p.block = true := fun p hp => by simpa using hlt p hp
  have hW' := hW
  obtain ⟨pa, pv, hA, hV, hps, hz, hn⟩ := hW'
  rw [hvars] at hV
  obtain ⟨hgs, hpv⟩ := trodVars_none hV
  subst hpv
  have hpa : before = pa := by rw [hps, List.append_nil]
  have hargs' : ∀ sp : Nat → Bool, (∀ p ∈ before, sp p.block = true) → DataW.TrodAll enc P W' 0 sp true f.params.toList args.toList (s.fn H (ds ++ gs)).args pa := fun sp hsp => by
    rw [hargs]
    exact zbiq hl hb hts hA (fun p hp => hlt p (by rw [hpa]; exact hp)) (fun p hp => hsp p (by rw [hpa]; exact hp))
  have hvars' : ∀ sp : Nat → Bool, DataW.TrodVars enc P W' sp s.vars (s.fn H (ds ++ gs)).vars [] := fun sp => by
    rw [hvars, hv2]; rfl
  refine ⟨ds, gs, before, [], pa, [], hW, hres _ _ _, hargs' _ hold, hvars' _, World.keptBut_mono (fun p hp => ⟨hp, ?_⟩) (hb.frame (· ∈ before)), fun _ => ?_⟩
  · rw [hps, List.mem_append] at hp
    exact Or.inr hp
  · refine ⟨hok, _, _, ([] ++ pa) ++ [], ⟨[] ++ pa, [], trodAll_append (hargs' _ (fun _ _ => rfl)) (hres _ _ _), hvars' _, rfl, ?_, ?_⟩, ?_⟩
    · intro b off hp
      have hm : MemPlace.cell b off ∈ before := by rw [hps]; simpa using hp
      rw [hb.frozen (p := ⟨b, off, none⟩) (hlt _ hm)]
      exact hz b off hm
    · intro ha
      have := hn ha
      rw [hps] at this
      simpa using this
    · intro p hp _
      rw [hps]
      simpa using hp
theorem i64_wf {n : Int} (h : (Lit.int .i64 n).wf = true) : -9223372036854775808 ≤ n ∧ n ≤ 9223372036854775807 := by
  simp [Lit.wf, IntKind.min, IntKind.max, IntKind.signed, IntKind.bits] at h
  omega
end Go.AM

/- Slices among the arguments: what they read as, and how they lie on the abstract machine. -/
namespace Go.AM
open Go.RowKit (Below)
open Go.ChangeShapes Go.WideShapes
variable {H : Type} {enc : TypeId × Value → H} {P : Program} {W : World}
theorem zbkm {β : Type} {f : Nat → Option β} : ∀ {n : Nat} {l : List β}, (List.range n).mapM f = some l → l.length = n ∧ ∀ i, i < n → f i = l[i]? := by
  intro n l h
  have h1 := Lib.mapM_length h
  rw [List.length_range] at h1
  refine ⟨h1, fun i hi => ?_⟩
  obtain ⟨b, hb, hf⟩ := Lib.mapM_at h i i (by simp [hi])
  rw [hf, hb]
theorem zbkn {b off n : Nat} {cs : List Value} (h : W.cells? 0 ⟨b, off, none⟩ n = some cs) {C : Array Value} {e : TypeId} {f : Nat × Nat} (hC : W.heap[b]? = some (.cells C e f)) : (C.toList.drop off).take n = cs ∧ (0 < n → off + n ≤ C.size) := by
  unfold World.cells? at h
  rw [if_pos (Nat.zero_le _)] at h
  obtain ⟨h1, h2⟩ := zbkm h
  have key : ∀ i, i < n → C[off + i]? = cs[i]? := fun i hi => by
    rw [← h2 i hi]
    have e : (Addr.add ⟨b, off, none⟩ i) = ⟨b, off + i, none⟩ := by
      unfold Addr.add
      split
      · rename_i h0; subst h0; rfl
      · rfl
    rw [e]
    simp [World.cell?, hC]
  have hlt : ∀ i, i < n → off + i < C.size := fun i hi => by
    have := key i hi
    rw [List.getElem?_eq_getElem (by omega)] at this
    rcases Nat.lt_or_ge (off + i) C.size with q | q
    · exact q
    · rw [Array.getElem?_eq_none q] at this; cases this
  refine ⟨?_, fun hn => by have := hlt (n - 1) (by omega); omega⟩
  apply List.ext_getElem?
  intro i
  rw [List.getElem?_take]
  split
  · rename_i hi
    rw [List.getElem?_drop, ← key i hi]
    simp
  · rename_i hi
    rw [List.getElem?_eq_none (by omega)]
theorem zbb6 {α : Type} [Flat α] (C : List V) (off : Nat) (X : Nat → α) : ∀ n, (∀ i, i < n → (C.drop (off + i * Flat.size α)).take (Flat.size α) = Flat.enc (X i)) → (C.drop off).take (n * Flat.size α) = zdv ((List.range n).map X)
  | 0, _ => by simp [zdv]
  | n + 1, h => by
    rw [Nat.add_mul, Nat.one_mul, List.take_add, zbb6 C off X n (fun i hi => h i (by omega)), List.range_succ, List.map_append, z9w, List.drop_drop, h n (by omega)]
    simp [zdv]
theorem zbpu {α : Type} [Flat α] [Inhabited α] {datR : DataW H → α → Prop} {good : α → Prop} {t e : TypeId} (ht : P.underlying t = some (.slice e)) (hce : P.cellsOf e = Flat.size α)
    (hop : 0 < W.heap.size → ∀ n cs x, DataW.trod enc P W 0 (fun _ => true) true n e cs = some x → ∃ a : α, cs.map (z1f W.heap.size) = Flat.enc a ∧ datR x.1 a ∧ good a) {v : Value} {d : DataW H} {ps : List MemPlace}
    (hval : ∀ a len cap, v = .slice (some a) len cap → a.spot = none ∧ ∃ C eT f, W.heap[a.block]? = some (.cells C eT f)) (hs : ∃ a len cap, v = .slice a len cap) (h : DataW.Trod enc P W 0 (fun _ => true) true t v d ps) :
    ∃ xs : List α, Sl (z1g W) (z1f W.heap.size v) xs ∧ (∀ x ∈ xs, good x) ∧ ((d = .nil ∧ xs = []) ∨ ∃ D rest, d = .slice ((List.range xs.length).map D) rest ∧ ∀ i x, xs[i]? = some x → datR (D i) x) := by
  obtain ⟨a, len, cap, rfl⟩ := hs
  obtain ⟨fuel, hf⟩ := h
  have hv : (Value.slice a len cap).cells.toList = [Value.slice a len cap] := rfl
  rw [hv] at hf
  rcases Deep.open_slice ht hf with ⟨h1, h2⟩ | ⟨a', len', cap', m, n, D, Pl, h1, hb, hl, hm, hmm, hx, hel⟩
  · cases h1
    cases h2
    exact ⟨[], .inl ⟨rfl, rfl⟩, fun x hx => (List.not_mem_nil hx).elim, .inl ⟨rfl, rfl⟩⟩
  · cases h1
    have hm' : m = cap := by simpa using hmm
    subst hm'
    obtain ⟨hspot, C, eT, f, hC⟩ := hval _ _ _ rfl
    obtain ⟨b, off, spot⟩ := a'
    simp only at hspot
    subst hspot
    simp only at hC
    have hbN : b < W.heap.size := by
      rcases Nat.lt_or_ge b W.heap.size with q | q
      · exact q
      · rw [Array.getElem?_eq_none q] at hC; cases hC
    have each : ∀ i, ∃ x : α, i < len → ((C.toList.map (z1f W.heap.size)).drop (off + i * Flat.size α)).take (Flat.size α) = Flat.enc x ∧ datR (D i) x ∧ good x ∧ off + i * Flat.size α + Flat.size α ≤ C.size := fun i => by
      by_cases hi : i < len
      · obtain ⟨cs', hc1, hc2⟩ := hel i (by omega)
        obtain ⟨x, hx1, hx2, hx3⟩ := hop (by omega) _ _ _ hc2
        have ea : (Addr.add ⟨b, off, none⟩ (i * P.cellsOf e)) = ⟨b, off + i * P.cellsOf e, none⟩ := by
          unfold Addr.add
          split
          · rename_i h0; rw [h0]; rfl
          · rfl
        rw [ea, hce] at hc1
        obtain ⟨q1, q2⟩ := zbkn hc1 hC
        exact ⟨x, fun _ => ⟨by rw [← List.map_drop, ← List.map_take, q1, hx1], hx2, hx3, q2 Flat.pos⟩⟩
      · exact ⟨default, fun h => absurd h hi⟩
    have hX := Classical.axiomOfChoice each
    obtain ⟨X, hX⟩ := hX
    have habs : z1f W.heap.size (.slice (some ⟨b, off, none⟩) len m) = slc b off 0 len m := by simp only [z1f, zbio]; rw [if_pos ⟨trivial, hbN, hl⟩]
    have hj := zbb6 (C.toList.map (z1f W.heap.size)) off X len (fun i hi => (hX i hi).1)
    refine ⟨(List.range len).map X, ?_, fun x hx => ?_, .inr ⟨D, (List.range (m - len)).map fun j => D (len + j), ?_, fun i x hx => ?_⟩⟩
    · rw [habs]
      refine .inr ⟨b, off, 0, m, by simp, by simpa using hl, by rw [z48]; exact hbN, ?_, .inl rfl⟩
      by_cases h0 : len = 0
      · left; simp [h0]
      · right
        refine ⟨false, C.toList.map (z1f W.heap.size), by rw [z23, hC]; rfl, ?_⟩
        have := (hX (len - 1) (by omega)).2.2.2
        have e1 : (len - 1 + 1) * Flat.size α = len * Flat.size α := by rw [show len - 1 + 1 = len by omega]
        rw [Nat.add_mul] at e1
        refine ⟨by simp; omega, ?_⟩
        rw [List.length_map, List.length_range, hj]
    · obtain ⟨i, hi, rfl⟩ := List.mem_map.1 hx
      exact (hX i (List.mem_range.1 hi)).2.2.1
    · have hd : d = (DataW.slice ((List.range len).map D) ((List.range (m - len)).map fun j => D (len + j))) := congrArg Prod.fst hx
      rw [hd]; simp
    · obtain ⟨k, hk, rfl⟩ := List.mem_map.1 (List.mem_of_getElem? hx)
      have hik : i < len := by
        rcases Nat.lt_or_ge i len with q | q
        · exact q
        · rw [List.getElem?_eq_none (by simpa using q)] at hx; cases hx
      rw [List.getElem?_map, List.getElem?_range hik, Option.map_some] at hx
      rw [← Option.some.inj hx]
      exact (hX i hik).2.1
theorem zbtu {t e : TypeId} (ht : P.underlying t = some (.slice e)) {base : Nat} {v : Value} (hval : Cell.okWide P W .any base t v) :
    (∀ a len cap, v = .slice (some a) len cap → a.spot = none ∧ ∃ C eT f, W.heap[a.block]? = some (.cells C eT f)) ∧ ∃ a len cap, v = .slice a len cap := by
  have shape : ∀ b row cells, W.shape? b = some (row, cells) → ∃ C eT f, W.heap[b]? = some (.cells C eT f) := fun b row cells hshape => by
    unfold World.shape? at hshape
    split at hshape
    · rename_i C eT f hC; exact ⟨C, eT, f, hC⟩
    · cases hshape
  have hv : Value.okWide P W .any base t v := by simpa only [Value.okWide, ht] using hval
  obtain ⟨a, len, cap, rfl⟩ := okWide_slice ht hv
  refine ⟨fun a' len' cap' h => ?_, _, _, _, rfl⟩
  cases h
  simp only [Cell.okWide, ht, Cell.ok] at hval
  obtain ⟨_, _, _, hspot, row, cells, hshape, _⟩ := hval
  exact ⟨hspot, shape _ _ _ hshape⟩
instance : Inhabited ByteArray := ⟨⟨#[]⟩⟩
end Go.AM

/- Structs of whole numbers among the arguments' elements. -/
namespace Go.AM
open Go.ChangeShapes Go.WideShapes
variable {H : Type} {enc : TypeId × Value → H} {P : Program} {W : World}
end Go.AM

/- Structs whose fields are of one cell each, among the arguments and their elements. -/
namespace Go.AM
open Go.ChangeShapes Go.WideShapes
variable {H : Type} {enc : TypeId × Value → H} {P : Program} {W : World}
end Go.AM
