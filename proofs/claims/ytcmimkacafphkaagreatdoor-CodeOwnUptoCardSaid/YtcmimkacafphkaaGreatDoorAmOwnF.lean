import Derived.Test.YtcmimkacafphkaaGreatDoorAmMaps
import Derived.Test.YtcmimkacafphkaaGreatDoorAmSlc
set_option linter.all false
/- Slices of one-cell elements, somewhere in a block that one owns. -/
namespace Go.AM

def Seg (H : Heap) (v : V) (l : List V) : Prop := (v = .slice none 0 0 ∧ l = []) ∨ ∃ b o c cs, v = slc b o 1 l.length c ∧ l.length ≤ c ∧ H.get b = some (.cells true cs) ∧ (l = [] ∨ (o + l.length ≤ cs.length ∧ (cs.drop o).take l.length = l))

theorem Seg.nil (H : Heap) : Seg H (.slice none 0 0) [] := .inl ⟨rfl, rfl⟩
theorem Seg.keep {S : List Nat} {H H' : Heap} {v : V} {l : List V} (h : Seg H v l) (hk : Keeps S H H') (hn : ∀ b ∈ vb v, b ∉ S) : Seg H' v l := by
  rcases h with h | ⟨b, o, c, cs, rfl, hc, hb, hl⟩
  · exact .inl h
  · exact .inr ⟨b, o, c, cs, rfl, hc, hk.get hb (hn b (by simp)), hl⟩
theorem Seg.same {H H' : Heap} {v : V} {l : List V} (h : Seg H v l) (hs : ∀ b ∈ vb v, H'.get b = H.get b) : Seg H' v l := by
  rcases h with h | ⟨b, o, c, cs, rfl, hc, hb, hl⟩
  · exact .inl h
  · exact .inr ⟨b, o, c, cs, rfl, hc, by rw [hs b (by simp)]; exact hb, hl⟩
theorem Seg.len {H : Heap} {v : V} {l : List V} (h : Seg H v l) : lenSlc v = some (i64 l.length) := by
  rcases h with ⟨rfl, rfl⟩ | ⟨b, o, c, cs, rfl, hc, hb, hl⟩ <;> rfl
theorem Seg.lt {H : Heap} {v : V} {l : List V} (h : Seg H v l) : ∀ b ∈ vb v, b < H.next := by
  rcases h with ⟨rfl, rfl⟩ | ⟨b, o, c, cs, rfl, hc, hb, hl⟩
  · simp
  · simpa using Heap.get_lt hb
theorem Seg.isOne {H : Heap} {v : V} {l : List V} (h : Seg H v l) : v.isOne = true := by
  rcases h with ⟨rfl, rfl⟩ | ⟨b, o, c, cs, rfl, _⟩ <;> rfl
theorem Seg.cells {H : Heap} {v : V} {l : List V} (h : Seg H v l) : cellsOfSlice H 1 v = some l := by
  rcases h with ⟨rfl, rfl⟩ | ⟨b, o, c, cs, rfl, hc, hb, hl⟩
  · rfl
  · simp only [cellsOfSlice]
    by_cases h0 : l.length = 0
    · rw [if_pos h0, List.eq_nil_of_length_eq_zero h0]
    · rw [if_neg h0]
      rcases hl with rfl | ⟨h1, h2⟩
      · simp at h0
      · simp [cellsAt, hb, h1, h2]
theorem Seg.addr {H : Heap} {v : V} {l : List V} (h : Seg H v l) {k : IntKind} {i : Int} (h0 : 0 ≤ i) (hi : i < l.length) : iaddrS 1 v (.int k i) = some (ptr (slB v) (slO v + i.toNat)) := by
  rcases h with ⟨rfl, rfl⟩ | ⟨b, o, c, cs, rfl, _⟩
  · simp at hi; omega
  · have := iaddrS_slc (b := b) (o := o) (u := 1) (cap := c) (size := 1) (k := k) h0 hi
    rw [Nat.mul_one] at this; exact this
theorem Seg.cell {H : Heap} {v : V} {l : List V} (h : Seg H v l) {i : Nat} (hi : i < l.length) : cellP H (ptr (slB v) (slO v + i)) = l[i]? := by
  rcases h with ⟨rfl, rfl⟩ | ⟨b, o, c, cs, rfl, hc, hb, hl⟩
  · simp at hi
  · rcases hl with rfl | ⟨h1, h2⟩
    · simp at hi
    · show cellP H (ptr b (o + i)) = _
      rw [cellP_ptr hb]
      have : ((cs.drop o).take l.length)[i]? = l[i]? := by rw [h2]
      rw [List.getElem?_take, if_pos hi, List.getElem?_drop] at this
      exact this

/-- v[lo:hi] -/
theorem Seg.sub {H : Heap} {v : V} {l : List V} (h : Seg H v l) {lo hi : Option V} {a b : Nat} (hlo : bound 0 b lo = some a) (hhi : ∀ c, l.length ≤ c → bound l.length c hi = some b) (h1 : a ≤ b) (h2 : b ≤ l.length) : ∃ w, subV 1 v lo hi = some w ∧ Seg H w ((l.drop a).take (b - a)) ∧ (∀ x ∈ vb w, x ∈ vb v) ∧ w.isOne = true := by
  have hlen : ((l.drop a).take (b - a)).length = b - a := by simp; omega
  rcases h with ⟨rfl, rfl⟩ | ⟨blk, o, c, cs, rfl, hc, hb, hl⟩
  · simp only [List.length_nil] at h2 hhi
    have hb0 : b = 0 := by omega
    subst hb0
    have ha0 : a = 0 := by omega
    subst ha0
    exact ⟨.slice none 0 0, by simp [subV, hhi 0 (Nat.le_refl _), hlo], .inl ⟨rfl, by simp⟩, fun x hx => hx, rfl⟩
  · refine ⟨cutAt blk o 1 a b c 1, ?_, ?_, ?_, ?_⟩
    · simp only [subV, hhi c hc, hlo]
      simp
    · unfold cutAt
      split
      · rename_i hca
        have : b = a := by omega
        subst this
        refine .inr ⟨blk, o, c - b, cs, by simp, by simp, hb, .inl (by simp)⟩
      · refine .inr ⟨blk, o + a * 1, c - a, cs, by rw [hlen], by rw [hlen]; omega, hb, ?_⟩
        rcases hl with rfl | ⟨q1, q2⟩
        · left; simp
        · right
          rw [hlen]
          refine ⟨by omega, ?_⟩
          conv => rhs; rw [← q2]
          rw [List.drop_take, List.take_take, List.drop_drop, Nat.mul_one]
          congr 1
          omega
    · unfold cutAt; split <;> simp
    · unfold cutAt; split <;> rfl

/-! structs that are built -/
theorem build_eq {zero : List V} {parts : List (Nat × Nat × V)} (h : zero.all flatV = true) : build zero parts = (fillA zero parts).map fun cs => .agg cs.toArray := by
  simp only [build, h, if_true]
  cases fillA zero parts <;> rfl
theorem fillA_nil (cs : List V) : fillA cs [] = some cs := rfl
theorem fillA_one {cs : List V} {off : Nat} {v : V} {rest : List (Nat × Nat × V)} (hv : v.isOne = true) (h : off < cs.length) : fillA cs ((off, 1, v) :: rest) = fillA (cs.set off v) rest := by
  have hc : v.cells.toList = [v] := by rw [cells_one hv]
  have hs : v.cells.size = 1 := by rw [cells_one hv]; rfl
  simp only [fillA, hc, hs]
  rw [if_pos (by simp [hv]; omega)]
  congr 1
  simp only [splice, List.length_singleton]
  rw [List.set_eq_take_append_cons_drop, if_pos h]
  rfl
theorem fillA_slc {cs : List V} {off : Nat} {a : Option Addr} {n c : Nat} {rest : List (Nat × Nat × V)} (h : off < cs.length) : fillA cs ((off, 1, .slice a n c) :: rest) = fillA (cs.set off (.slice a n c)) rest := fillA_one rfl h
theorem fillA_int {cs : List V} {off : Nat} {k : IntKind} {n : Int} {rest : List (Nat × Nat × V)} (h : off < cs.length) : fillA cs ((off, 1, .int k n) :: rest) = fillA (cs.set off (.int k n)) rest := fillA_one rfl h
theorem fillA_str {cs : List V} {off : Nat} {s : ByteArray} {rest : List (Nat × Nat × V)} (h : off < cs.length) : fillA cs ((off, 1, .string s) :: rest) = fillA (cs.set off (.string s)) rest := fillA_one rfl h
theorem fillA_bool {cs : List V} {off : Nat} {b : Bool} {rest : List (Nat × Nat × V)} (h : off < cs.length) : fillA cs ((off, 1, .bool b) :: rest) = fillA (cs.set off (.bool b)) rest := fillA_one rfl h
theorem fillA_ptr {cs : List V} {off : Nat} {a : Option Addr} {rest : List (Nat × Nat × V)} (h : off < cs.length) : fillA cs ((off, 1, .pointer a) :: rest) = fillA (cs.set off (.pointer a)) rest := fillA_one rfl h
theorem fillA_map {cs : List V} {off : Nat} {a : Option Nat} {rest : List (Nat × Nat × V)} (h : off < cs.length) : fillA cs ((off, 1, .map a) :: rest) = fillA (cs.set off (.map a)) rest := fillA_one rfl h
theorem fillA_agg {cs vs : List V} {off n : Nat} {rest : List (Nat × Nat × V)} (hv : vs.all Value.isOne = true) (hn : vs.length = n) (h : off + n ≤ cs.length) : fillA cs ((off, n, .agg vs.toArray) :: rest) = fillA (splice cs off vs) rest := by
  have hc : (Value.agg vs.toArray).cells.toList = vs := by simp [Value.cells]
  have hs : (Value.agg vs.toArray).cells.size = n := by simp [Value.cells, hn]
  simp only [fillA, hc, hs]
  rw [if_pos (by simp [hv]; omega)]

/-! blocks that are kept free for floating makes -/
theorem resv_one (H : Heap) : resv H 1 = H.push none := rfl
theorem resv_two (H : Heap) : resv H 2 = (H.push none).push none := rfl
theorem freeIn_nil (H : Heap) : freeIn H [] = true := rfl
theorem freeIn_cons {H : Heap} {b : Nat} {bs : List Nat} (h : H.get b = none) (hl : b < H.next) : freeIn H (b :: bs) = freeIn H bs := by
  have : Nat.blt b H.next = true := by simpa [Nat.blt_eq] using hl
  simp [freeIn, h, this]
theorem wp_flt_bslc {id size len : Nat} {zero cs : List V} {parts : List (Nat × Nat × V)} {H : Heap} {Q : V → Heap → Prop} (h : H.get id = none) (hl : id < H.next) (hz : zero.all flatV = true) (hf : fillA zero parts = some cs) (hQ : Q (slc id 0 size len len) (H.set id (some (.cells true cs)))) : wp (flt id (bslc size len zero parts)) Q H := by
  have e : bslc size len zero parts ⟨[]⟩ = some (slc 0 0 size len len, ⟨[some (.cells true cs)]⟩) := by
    simp only [bslc, hz, if_true, hf]; rfl
  have : Nat.blt id H.next = true := by simpa [Nat.blt_eq] using hl
  exact ⟨_, _, by simp only [flt, e, h, this, cond_true, reloc], hQ⟩
theorem rep_encs {α : Type} [Flat α] (x : α) (zero : List V) (hz : zero = Flat.enc x) : ∀ n, rep n zero = encs (List.replicate n x)
  | 0 => rfl
  | n + 1 => by rw [rep, rep_encs x zero hz n, List.replicate_succ, encs_cons, hz]
end Go.AM

/- Slices that are copied; makes that float. -/
namespace Go.AM

theorem resv_keeps (n : Nat) (H : Heap) : Keeps [] H (resv H n) := ⟨by rw [(resv_spec n H).2]; omega, fun b _ _ => (resv_spec n H).1 b⟩
theorem resv_free {n : Nat} {H : Heap} {b : Nat} (h : H.next ≤ b) : (resv H n).get b = none := by
  rw [(resv_spec n H).1]
  cases hg : H.get b with
  | none => rfl
  | some x => have := Heap.get_lt hg; omega
theorem resv_next (n : Nat) (H : Heap) : (resv H n).next = H.next + n := (resv_spec n H).2
theorem freeIn_all {H : Heap} : ∀ {l : List Nat}, (∀ b ∈ l, H.get b = none ∧ b < H.next) → freeIn H l = true
  | [], _ => rfl
  | b :: l, h => by
    rw [freeIn_cons (h b (by simp)).1 (h b (by simp)).2]
    exact freeIn_all fun c hc => h c (by simp [hc])
end Go.AM

/- Own slices of flat things. -/
namespace Go.AM
section
variable {α : Type} [Flat α]
/-- a slice of one's own whose elements are xs, at its block's start, with no room -/
def OwnF (H : Heap) (v : V) (xs : List α) : Prop := (v = .slice none 0 0 ∧ xs = []) ∨ ∃ b, v = slc b 0 (Flat.size α) xs.length xs.length ∧ H.get b = some (.cells true (encs xs))
theorem OwnF.nil (H : Heap) : OwnF H (.slice none 0 0) ([] : List α) := .inl ⟨rfl, rfl⟩
theorem OwnF.keep {S : List Nat} {H H' : Heap} {v : V} {l : List α} (h : OwnF H v l) (hk : Keeps S H H') (hn : ∀ b ∈ vb v, b ∉ S) : OwnF H' v l := by
  rcases h with h | ⟨b, rfl, hb⟩
  · exact .inl h
  · exact .inr ⟨b, rfl, hk.get hb (hn b (by simp))⟩
theorem OwnF.keep0 {H H' : Heap} {v : V} {l : List α} (h : OwnF H v l) (hk : Keeps [] H H') : OwnF H' v l := h.keep hk (by simp)
theorem OwnF.len {H : Heap} {v : V} {l : List α} (h : OwnF H v l) : lenSlc v = some (i64 l.length) := by
  rcases h with ⟨rfl, rfl⟩ | ⟨b, rfl, _⟩ <;> rfl
theorem OwnF.lt {H : Heap} {v : V} {l : List α} (h : OwnF H v l) : ∀ b ∈ vb v, b < H.next := by
  rcases h with ⟨rfl, rfl⟩ | ⟨b, rfl, hb⟩
  · simp
  · simpa using Heap.get_lt hb
theorem OwnF.isOne {H : Heap} {v : V} {l : List α} (h : OwnF H v l) : v.isOne = true := by
  rcases h with ⟨rfl, rfl⟩ | ⟨b, rfl, _⟩ <;> rfl
theorem OwnF.sl {H : Heap} {v : V} {l : List α} (h : OwnF H v l) : Sl H v l := by
  rcases h with ⟨rfl, rfl⟩ | ⟨b, rfl, hb⟩
  · exact Sl.nil H
  · refine .inr ⟨b, 0, Flat.size α, l.length, rfl, Nat.le_refl _, Heap.get_lt hb, .inr ⟨true, encs l, hb, by rw [encs_length]; omega, ?_⟩, .inr rfl⟩
    rw [List.drop_zero, List.take_of_length_le (by rw [encs_length]; exact Nat.le_refl _)]
theorem ownF_push {H : Heap} {xs : List α} {n m : Nat} (hs : Flat.size α = n) (hm : xs.length = m) : OwnF (H.push (some (.cells true (encs xs)))) (slc H.next 0 n m m) xs := by
  subst hs hm; exact .inr ⟨_, rfl, Heap.get_push_self _ _⟩

theorem ownF_appTo {v : V} {xs ys : List α} {n m bytes : Nat} {new : Option (List V)} {H : Heap} {Q : V → Heap → Prop} (hs : Flat.size α = n) (hv : OwnF H v xs) (hm : ys.length = m) (hnew : ys ≠ [] → new = some (encs ys)) (hb : (xs.length + m) * bytes ≤ 35184372088832) (hb2 : xs.length + m ≤ 35184372088832)
    (hQ : ∀ w H', OwnF H' w (xs ++ ys) → Keeps (vb v) H H' → (∀ b ∈ vb w, b ∈ vb v ∨ H.next ≤ b) → Q w H') : wp (appTo n bytes v m new) Q H := by
  subst hs hm
  by_cases h0 : ys = []
  · subst h0
    have hf : ∃ x len cap, v = .slice x len cap := by
      rcases hv with ⟨rfl, _⟩ | ⟨b, rfl, _⟩
      · exact ⟨_, _, _, rfl⟩
      · exact ⟨_, _, _, rfl⟩
    obtain ⟨x, len, cap, rfl⟩ := hf
    exact ⟨_, H, rfl, hQ _ _ (by rw [List.append_nil]; exact hv) (Keeps.refl _ _) (fun b hb => .inl hb)⟩
  have hne : ys.length ≠ 0 := fun h => h0 (List.eq_nil_of_length_eq_zero h)
  rw [hnew h0]
  have hone := encs_one ys
  have hel := encs_length ys
  rcases hv with ⟨rfl, rfl⟩ | ⟨b, rfl, hg⟩
  · have e1 : cellsOfSlice H (Flat.size α) (.slice none 0 0) = some [] := rfl
    have e2 : giveUp H (Flat.size α) (.slice none 0 0) = some H := rfl
    refine ⟨slc H.next 0 (Flat.size α) ys.length ys.length, H.push (some (.cells true (encs ys))), ?_, hQ _ _ ?_ (Keeps.push _ _ _) (fun b hb => .inr (by simp at hb; omega))⟩
    · simp only [List.length_nil, Nat.zero_add] at hb hb2
      simp only [appTo, hne, if_false, e1, e2]
      rw [if_pos ⟨by rw [Nat.zero_add]; exact hb, by omega, hone, hel⟩]
      simp
    · exact ownF_push rfl (by simp)
  · have hcs : cellsOfSlice H (Flat.size α) (slc b 0 (Flat.size α) xs.length xs.length) = some (encs xs) := by
      simp only [cellsOfSlice]
      split
      · rename_i h1; rw [List.eq_nil_of_length_eq_zero h1]; rfl
      · have e : (encs xs).length = xs.length * Flat.size α := encs_length xs
        simp only [cellsAt, hg, Nat.zero_add, List.drop_zero]
        rw [if_pos (by omega), List.take_of_length_le (by omega)]
    refine ⟨slc H.next 0 (Flat.size α) (xs.length + ys.length) (xs.length + ys.length), (H.set b none).push (some (.cells true (encs xs ++ encs ys))), ?_, hQ _ _ ?_ ?_ (fun c hc => .inr (by simp at hc; omega))⟩
    · simp only [appTo, hne, if_false, hcs, giveUp, hg, if_true]
      rw [if_pos ⟨hb, hb2, hone, hel⟩]
      simp
    · rw [← encs_append]
      have := ownF_push (H := H.set b none) (xs := xs ++ ys) (n := Flat.size α) (m := xs.length + ys.length) rfl (by simp)
      simpa using this
    · exact ⟨by simp, fun c hc hn => by rw [Heap.get_push_lt (by simpa using hc), Heap.get_set_ne _ _ _ (by simpa using hn)]⟩
theorem sl_cells {H : Heap} {v : V} {xs : List α} {n : Nat} (hs : Flat.size α = n) (h : Sl H v xs) (hne : xs ≠ []) : ∃ a c, v = .slice a xs.length c ∧ cellsOfSlice H n v = some (encs xs) := by
  subst hs
  rcases h with ⟨rfl, e⟩ | ⟨bb, o, u, c, rfl, hc, _, hl2, _⟩
  · exact absurd e hne
  · rcases hl2 with e | ⟨rw, cs, hg, q1, q2⟩
    · exact absurd e hne
    · refine ⟨_, _, rfl, ?_⟩
      have hn : xs.length ≠ 0 := fun h => hne (List.eq_nil_of_length_eq_zero h)
      simp only [cellsOfSlice, hn, if_false, cellsAt, hg]
      rw [if_pos q1, q2]
theorem ownF_appV {v x : V} {xs ys : List α} {n bytes : Nat} {H : Heap} {Q : V → Heap → Prop} (hs : Flat.size α = n) (hv : OwnF H v xs) (hx : Sl H x ys) (hb : (xs.length + ys.length) * bytes ≤ 35184372088832) (hb2 : xs.length + ys.length ≤ 35184372088832)
    (hQ : ∀ w H', OwnF H' w (xs ++ ys) → Keeps (vb v) H H' → (∀ b ∈ vb w, b ∈ vb v ∨ H.next ≤ b) → Q w H') : wp (appV n bytes v x) Q H := by
  by_cases h0 : ys = []
  · subst h0
    have hf : ∃ a c, x = .slice a 0 c := by
      rcases hx with ⟨rfl, _⟩ | ⟨bb, o, u, c, rfl, _⟩
      · exact ⟨_, _, rfl⟩
      · exact ⟨_, _, rfl⟩
    obtain ⟨a, c, rfl⟩ := hf
    exact ownF_appTo (ys := ([] : List α)) hs hv rfl (fun h => absurd rfl h) hb hb2 hQ
  · obtain ⟨a, c, rfl, hc⟩ := sl_cells hs hx h0
    exact ownF_appTo hs hv rfl (fun _ => hc) hb hb2 hQ
end

end Go.AM
