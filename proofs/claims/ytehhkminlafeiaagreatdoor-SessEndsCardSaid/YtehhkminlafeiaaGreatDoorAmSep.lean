import Derived.Test.YtehhkminlafeiaaGreatDoorAmHeap
import Derived.Test.YtehhkminlafeiaaGreatDoorAmBase
import Derived.Maps.RangeRun
set_option linter.all false
/- Maps that are held: their entries as lists of keys and values. -/
namespace Go.AM

class KeyE (κ : Type) [DecidableEq κ] where
  kk : KK
  enc : κ → V
  eq : ∀ a b, keyEq kk (enc a) (enc b) = some (decide (a = b))
  fits : ∀ a, keyFits kk (enc a) = true
  solid : ∀ a, (enc a).isSolid = true
class ValE (ω : Type) where
  enc : ω → V
  solid : ∀ a, (enc a).isSolid = true
theorem beq_dec (a b : Int) : (a == b) = decide (a = b) := by by_cases h : a = b <;> simp [h]
instance : KeyE Int := ⟨.one .i, i64, fun a b => by simp only [keyEq, eqK, if_true, beq_dec], fun _ => rfl, fun _ => rfl⟩
instance : ValE Int := ⟨i64, fun _ => rfl⟩
instance : ValE Bool := ⟨.bool, fun _ => rfl⟩
/-- two numbers -/
abbrev pr (a b : Int) : V := .agg [i64 a, i64 b].toArray
instance : KeyE (Int × Int) := ⟨.agg [.i, .i], fun a => pr a.1 a.2, fun a b => by
  simp only [keyEq, eqAgg, eqKs, eqK, if_true, beq_dec]
  by_cases h : a.1 = b.1
  · by_cases h2 : a.2 = b.2
    · rw [decide_eq_true h, decide_eq_true h2, decide_eq_true (show a = b from Prod.ext h h2)]
    · rw [decide_eq_true h, decide_eq_false h2, decide_eq_false (show ¬ a = b from fun e => h2 (by rw [e]))]
  · rw [decide_eq_false h, decide_eq_false (show ¬ a = b from fun e => h (by rw [e]))], fun _ => rfl, fun _ => rfl⟩
theorem kp (a : Int × Int) : KeyE.enc a = pr a.1 a.2 := rfl
section
variable {κ ω : Type} [DecidableEq κ] [KeyE κ] [ValE ω]
def encE (e : κ × ω) : V × V := (KeyE.enc e.1, ValE.enc e.2)
/-- a map that one owns -/
def MapR (H : Heap) (m : Nat) (es : List (κ × ω)) : Prop := H.get m = some (.map true (es.map encE))
theorem MapR.keep {S : List Nat} {H H' : Heap} {m : Nat} {es : List (κ × ω)} (h : MapR H m es) (hk : Keeps S H H') (hm : m ∉ S) : MapR H' m es := hk.get h hm
theorem MapR.lt {H : Heap} {m : Nat} {es : List (κ × ω)} (h : MapR H m es) : m < H.next := Heap.get_lt h
end
end Go.AM

/- Slices of one-cell elements, somewhere in a block that one owns. -/
namespace Go.AM

def Seg (H : Heap) (v : V) (l : List V) : Prop := (v = .slice none 0 0 ∧ l = []) ∨ ∃ b o c cs, v = slc b o 1 l.length c ∧ l.length ≤ c ∧ H.get b = some (.cells true cs) ∧ (l = [] ∨ (o + l.length ≤ cs.length ∧ (cs.drop o).take l.length = l))

theorem Seg.nil (H : Heap) : Seg H (.slice none 0 0) [] := .inl ⟨rfl, rfl⟩
theorem Seg.keep {S : List Nat} {H H' : Heap} {v : V} {l : List V} (h : Seg H v l) (hk : Keeps S H H') (hn : ∀ b ∈ vb v, b ∉ S) : Seg H' v l := by
  rcases h with h | ⟨b, o, c, cs, rfl, hc, hb, hl⟩
  · exact .inl h
  · exact .inr ⟨b, o, c, cs, rfl, hc, hk.get hb (hn b (by simp)), hl⟩
theorem Seg.same {H H' : Heap} {v : V} {l : List V} (h : Seg H v l) (hs : ∀ b ∈ vb v, H'.get b = H.get b) : Seg H' v l := by
  rcases h with h | ⟨b, o, c, cs, rfl, hc, hb, hl⟩
  · exact .inl h
  · exact .inr ⟨b, o, c, cs, rfl, hc, by rw [hs b (by simp)]; exact hb, hl⟩
theorem Seg.len {H : Heap} {v : V} {l : List V} (h : Seg H v l) : lenSlc v = some (i64 l.length) := by
  rcases h with ⟨rfl, rfl⟩ | ⟨b, o, c, cs, rfl, hc, hb, hl⟩ <;> rfl
theorem Seg.lt {H : Heap} {v : V} {l : List V} (h : Seg H v l) : ∀ b ∈ vb v, b < H.next := by
  rcases h with ⟨rfl, rfl⟩ | ⟨b, o, c, cs, rfl, hc, hb, hl⟩
  · simp
  · simpa using Heap.get_lt hb
theorem Seg.isOne {H : Heap} {v : V} {l : List V} (h : Seg H v l) : v.isOne = true := by
  rcases h with ⟨rfl, rfl⟩ | ⟨b, o, c, cs, rfl, _⟩ <;> rfl
theorem Seg.cells {H : Heap} {v : V} {l : List V} (h : Seg H v l) : cellsOfSlice H 1 v = some l := by
  rcases h with ⟨rfl, rfl⟩ | ⟨b, o, c, cs, rfl, hc, hb, hl⟩
  · rfl
  · simp only [cellsOfSlice]
    by_cases h0 : l.length = 0
    · rw [if_pos h0, List.eq_nil_of_length_eq_zero h0]
    · rw [if_neg h0]
      rcases hl with rfl | ⟨h1, h2⟩
      · simp at h0
      · simp [cellsAt, hb, h1, h2]
theorem Seg.addr {H : Heap} {v : V} {l : List V} (h : Seg H v l) {k : IntKind} {i : Int} (h0 : 0 ≤ i) (hi : i < l.length) : iaddrS 1 v (.int k i) = some (ptr (slB v) (slO v + i.toNat)) := by
  rcases h with ⟨rfl, rfl⟩ | ⟨b, o, c, cs, rfl, _⟩
  · simp at hi; omega
  · have := iaddrS_slc (b := b) (o := o) (u := 1) (cap := c) (size := 1) (k := k) h0 hi
    rw [Nat.mul_one] at this; exact this
theorem Seg.cell {H : Heap} {v : V} {l : List V} (h : Seg H v l) {i : Nat} (hi : i < l.length) : cellP H (ptr (slB v) (slO v + i)) = l[i]? := by
  rcases h with ⟨rfl, rfl⟩ | ⟨b, o, c, cs, rfl, hc, hb, hl⟩
  · simp at hi
  · rcases hl with rfl | ⟨h1, h2⟩
    · simp at hi
    · show cellP H (ptr b (o + i)) = _
      rw [cellP_ptr hb]
      have : ((cs.drop o).take l.length)[i]? = l[i]? := by rw [h2]
      rw [List.getElem?_take, if_pos hi, List.getElem?_drop] at this
      exact this

/-- v[lo:hi] -/
theorem Seg.sub {H : Heap} {v : V} {l : List V} (h : Seg H v l) {lo hi : Option V} {a b : Nat} (hlo : bound 0 b lo = some a) (hhi : ∀ c, l.length ≤ c → bound l.length c hi = some b) (h1 : a ≤ b) (h2 : b ≤ l.length) : ∃ w, subV 1 v lo hi = some w ∧ Seg H w ((l.drop a).take (b - a)) ∧ (∀ x ∈ vb w, x ∈ vb v) ∧ w.isOne = true := by
  have hlen : ((l.drop a).take (b - a)).length = b - a := by simp; omega
  rcases h with ⟨rfl, rfl⟩ | ⟨blk, o, c, cs, rfl, hc, hb, hl⟩
  · simp only [List.length_nil] at h2 hhi
    have hb0 : b = 0 := by omega
    subst hb0
    have ha0 : a = 0 := by omega
    subst ha0
    exact ⟨.slice none 0 0, by simp [subV, hhi 0 (Nat.le_refl _), hlo], .inl ⟨rfl, by simp⟩, fun x hx => hx, rfl⟩
  · refine ⟨cutAt blk o 1 a b c 1, ?_, ?_, ?_, ?_⟩
    · simp only [subV, hhi c hc, hlo]
      simp
    · unfold cutAt
      split
      · rename_i hca
        have : b = a := by omega
        subst this
        refine .inr ⟨blk, o, c - b, cs, by simp, by simp, hb, .inl (by simp)⟩
      · refine .inr ⟨blk, o + a * 1, c - a, cs, by rw [hlen], by rw [hlen]; omega, hb, ?_⟩
        rcases hl with rfl | ⟨q1, q2⟩
        · left; simp
        · right
          rw [hlen]
          refine ⟨by omega, ?_⟩
          conv => rhs; rw [← q2]
          rw [List.drop_take, List.take_take, List.drop_drop, Nat.mul_one]
          congr 1
          omega
    · unfold cutAt; split <;> simp
    · unfold cutAt; split <;> rfl

/-! structs that are built -/
theorem build_eq {zero : List V} {parts : List (Nat × Nat × V)} (h : zero.all flatV = true) : build zero parts = (fillA zero parts).map fun cs => .agg cs.toArray := by
  simp only [build, h, if_true]
  cases fillA zero parts <;> rfl
theorem fillA_nil (cs : List V) : fillA cs [] = some cs := rfl
theorem fillA_one {cs : List V} {off : Nat} {v : V} {rest : List (Nat × Nat × V)} (hv : v.isOne = true) (h : off < cs.length) : fillA cs ((off, 1, v) :: rest) = fillA (cs.set off v) rest := by
  have hc : v.cells.toList = [v] := by rw [cells_one hv]
  have hs : v.cells.size = 1 := by rw [cells_one hv]; rfl
  simp only [fillA, hc, hs]
  rw [if_pos (by simp [hv]; omega)]
  congr 1
  simp only [splice, List.length_singleton]
  rw [List.set_eq_take_append_cons_drop, if_pos h]
  rfl
theorem fillA_slc {cs : List V} {off : Nat} {a : Option Addr} {n c : Nat} {rest : List (Nat × Nat × V)} (h : off < cs.length) : fillA cs ((off, 1, .slice a n c) :: rest) = fillA (cs.set off (.slice a n c)) rest := fillA_one rfl h
theorem fillA_int {cs : List V} {off : Nat} {k : IntKind} {n : Int} {rest : List (Nat × Nat × V)} (h : off < cs.length) : fillA cs ((off, 1, .int k n) :: rest) = fillA (cs.set off (.int k n)) rest := fillA_one rfl h
theorem fillA_str {cs : List V} {off : Nat} {s : ByteArray} {rest : List (Nat × Nat × V)} (h : off < cs.length) : fillA cs ((off, 1, .string s) :: rest) = fillA (cs.set off (.string s)) rest := fillA_one rfl h
theorem fillA_bool {cs : List V} {off : Nat} {b : Bool} {rest : List (Nat × Nat × V)} (h : off < cs.length) : fillA cs ((off, 1, .bool b) :: rest) = fillA (cs.set off (.bool b)) rest := fillA_one rfl h
theorem fillA_ptr {cs : List V} {off : Nat} {a : Option Addr} {rest : List (Nat × Nat × V)} (h : off < cs.length) : fillA cs ((off, 1, .pointer a) :: rest) = fillA (cs.set off (.pointer a)) rest := fillA_one rfl h
theorem fillA_map {cs : List V} {off : Nat} {a : Option Nat} {rest : List (Nat × Nat × V)} (h : off < cs.length) : fillA cs ((off, 1, .map a) :: rest) = fillA (cs.set off (.map a)) rest := fillA_one rfl h
theorem fillA_agg {cs vs : List V} {off n : Nat} {rest : List (Nat × Nat × V)} (hv : vs.all Value.isOne = true) (hn : vs.length = n) (h : off + n ≤ cs.length) : fillA cs ((off, n, .agg vs.toArray) :: rest) = fillA (splice cs off vs) rest := by
  have hc : (Value.agg vs.toArray).cells.toList = vs := by simp [Value.cells]
  have hs : (Value.agg vs.toArray).cells.size = n := by simp [Value.cells, hn]
  simp only [fillA, hc, hs]
  rw [if_pos (by simp [hv]; omega)]

/-! blocks that are kept free for floating makes -/
theorem resv_one (H : Heap) : resv H 1 = H.push none := rfl
theorem resv_two (H : Heap) : resv H 2 = (H.push none).push none := rfl
theorem freeIn_nil (H : Heap) : freeIn H [] = true := rfl
theorem freeIn_cons {H : Heap} {b : Nat} {bs : List Nat} (h : H.get b = none) (hl : b < H.next) : freeIn H (b :: bs) = freeIn H bs := by
  have : Nat.blt b H.next = true := by simpa [Nat.blt_eq] using hl
  simp [freeIn, h, this]
theorem wp_flt_bslc {id size len : Nat} {zero cs : List V} {parts : List (Nat × Nat × V)} {H : Heap} {Q : V → Heap → Prop} (h : H.get id = none) (hl : id < H.next) (hz : zero.all flatV = true) (hf : fillA zero parts = some cs) (hQ : Q (slc id 0 size len len) (H.set id (some (.cells true cs)))) : wp (flt id (bslc size len zero parts)) Q H := by
  have e : bslc size len zero parts ⟨[]⟩ = some (slc 0 0 size len len, ⟨[some (.cells true cs)]⟩) := by
    simp only [bslc, hz, if_true, hf]; rfl
  have : Nat.blt id H.next = true := by simpa [Nat.blt_eq] using hl
  exact ⟨_, _, by simp only [flt, e, h, this, cond_true, reloc], hQ⟩
theorem rep_encs {α : Type} [Flat α] (x : α) (zero : List V) (hz : zero = Flat.enc x) : ∀ n, rep n zero = encs (List.replicate n x)
  | 0 => rfl
  | n + 1 => by rw [rep, rep_encs x zero hz n, List.replicate_succ, encs_cons, hz]
end Go.AM

/- Slices that are copied; makes that float. -/
namespace Go.AM

end Go.AM

/- Own slices of flat things. -/
namespace Go.AM
section
variable {α : Type} [Flat α]
/-- a slice of one's own whose elements are xs, at its block's start, with no room -/
def OwnF (H : Heap) (v : V) (xs : List α) : Prop := (v = .slice none 0 0 ∧ xs = []) ∨ ∃ b, v = slc b 0 (Flat.size α) xs.length xs.length ∧ H.get b = some (.cells true (encs xs))
theorem OwnF.nil (H : Heap) : OwnF H (.slice none 0 0) ([] : List α) := .inl ⟨rfl, rfl⟩
theorem OwnF.keep {S : List Nat} {H H' : Heap} {v : V} {l : List α} (h : OwnF H v l) (hk : Keeps S H H') (hn : ∀ b ∈ vb v, b ∉ S) : OwnF H' v l := by
  rcases h with h | ⟨b, rfl, hb⟩
  · exact .inl h
  · exact .inr ⟨b, rfl, hk.get hb (hn b (by simp))⟩
theorem OwnF.keep0 {H H' : Heap} {v : V} {l : List α} (h : OwnF H v l) (hk : Keeps [] H H') : OwnF H' v l := h.keep hk (by simp)
theorem OwnF.len {H : Heap} {v : V} {l : List α} (h : OwnF H v l) : lenSlc v = some (i64 l.length) := by
  rcases h with ⟨rfl, rfl⟩ | ⟨b, rfl, _⟩ <;> rfl
theorem OwnF.lt {H : Heap} {v : V} {l : List α} (h : OwnF H v l) : ∀ b ∈ vb v, b < H.next := by
  rcases h with ⟨rfl, rfl⟩ | ⟨b, rfl, hb⟩
  · simp
  · simpa using Heap.get_lt hb
theorem OwnF.isOne {H : Heap} {v : V} {l : List α} (h : OwnF H v l) : v.isOne = true := by
  rcases h with ⟨rfl, rfl⟩ | ⟨b, rfl, _⟩ <;> rfl
theorem OwnF.sl {H : Heap} {v : V} {l : List α} (h : OwnF H v l) : Sl H v l := by
  rcases h with ⟨rfl, rfl⟩ | ⟨b, rfl, hb⟩
  · exact Sl.nil H
  · refine .inr ⟨b, 0, Flat.size α, l.length, rfl, Nat.le_refl _, Heap.get_lt hb, .inr ⟨true, encs l, hb, by rw [encs_length]; omega, ?_⟩, .inr rfl⟩
    rw [List.drop_zero, List.take_of_length_le (by rw [encs_length]; exact Nat.le_refl _)]
theorem ownF_push {H : Heap} {xs : List α} {n m : Nat} (hs : Flat.size α = n) (hm : xs.length = m) : OwnF (H.push (some (.cells true (encs xs)))) (slc H.next 0 n m m) xs := by
  subst hs hm; exact .inr ⟨_, rfl, Heap.get_push_self _ _⟩

theorem ownF_appTo {v : V} {xs ys : List α} {n m bytes : Nat} {new : Option (List V)} {H : Heap} {Q : V → Heap → Prop} (hs : Flat.size α = n) (hv : OwnF H v xs) (hm : ys.length = m) (hnew : ys ≠ [] → new = some (encs ys)) (hb : (xs.length + m) * bytes ≤ 35184372088832) (hb2 : xs.length + m ≤ 35184372088832)
    (hQ : ∀ w H', OwnF H' w (xs ++ ys) → Keeps (vb v) H H' → (∀ b ∈ vb w, b ∈ vb v ∨ H.next ≤ b) → Q w H') : wp (appTo n bytes v m new) Q H := by
  subst hs hm
  by_cases h0 : ys = []
  · subst h0
    have hf : ∃ x len cap, v = .slice x len cap := by
      rcases hv with ⟨rfl, _⟩ | ⟨b, rfl, _⟩
      · exact ⟨_, _, _, rfl⟩
      · exact ⟨_, _, _, rfl⟩
    obtain ⟨x, len, cap, rfl⟩ := hf
    exact ⟨_, H, rfl, hQ _ _ (by rw [List.append_nil]; exact hv) (Keeps.refl _ _) (fun b hb => .inl hb)⟩
  have hne : ys.length ≠ 0 := fun h => h0 (List.eq_nil_of_length_eq_zero h)
  rw [hnew h0]
  have hone := encs_one ys
  have hel := encs_length ys
  rcases hv with ⟨rfl, rfl⟩ | ⟨b, rfl, hg⟩
  · have e1 : cellsOfSlice H (Flat.size α) (.slice none 0 0) = some [] := rfl
    have e2 : giveUp H (Flat.size α) (.slice none 0 0) = some H := rfl
    refine ⟨slc H.next 0 (Flat.size α) ys.length ys.length, H.push (some (.cells true (encs ys))), ?_, hQ _ _ ?_ (Keeps.push _ _ _) (fun b hb => .inr (by simp at hb; omega))⟩
    · simp only [List.length_nil, Nat.zero_add] at hb hb2
      simp only [appTo, hne, if_false, e1, e2]
      rw [if_pos ⟨by rw [Nat.zero_add]; exact hb, by omega, hone, hel⟩]
      simp
    · exact ownF_push rfl (by simp)
  · have hcs : cellsOfSlice H (Flat.size α) (slc b 0 (Flat.size α) xs.length xs.length) = some (encs xs) := by
      simp only [cellsOfSlice]
      split
      · rename_i h1; rw [List.eq_nil_of_length_eq_zero h1]; rfl
      · have e : (encs xs).length = xs.length * Flat.size α := encs_length xs
        simp only [cellsAt, hg, Nat.zero_add, List.drop_zero]
        rw [if_pos (by omega), List.take_of_length_le (by omega)]
    refine ⟨slc H.next 0 (Flat.size α) (xs.length + ys.length) (xs.length + ys.length), (H.set b none).push (some (.cells true (encs xs ++ encs ys))), ?_, hQ _ _ ?_ ?_ (fun c hc => .inr (by simp at hc; omega))⟩
    · simp only [appTo, hne, if_false, hcs, giveUp, hg, if_true]
      rw [if_pos ⟨hb, hb2, hone, hel⟩]
      simp
    · rw [← encs_append]
      have := ownF_push (H := H.set b none) (xs := xs ++ ys) (n := Flat.size α) (m := xs.length + ys.length) rfl (by simp)
      simpa using this
    · exact ⟨by simp, fun c hc hn => by rw [Heap.get_push_lt (by simpa using hc), Heap.get_set_ne _ _ _ (by simpa using hn)]⟩
theorem sl_cells {H : Heap} {v : V} {xs : List α} {n : Nat} (hs : Flat.size α = n) (h : Sl H v xs) (hne : xs ≠ []) : ∃ a c, v = .slice a xs.length c ∧ cellsOfSlice H n v = some (encs xs) := by
  subst hs
  rcases h with ⟨rfl, e⟩ | ⟨bb, o, u, c, rfl, hc, _, hl2, _⟩
  · exact absurd e hne
  · rcases hl2 with e | ⟨rw, cs, hg, q1, q2⟩
    · exact absurd e hne
    · refine ⟨_, _, rfl, ?_⟩
      have hn : xs.length ≠ 0 := fun h => hne (List.eq_nil_of_length_eq_zero h)
      simp only [cellsOfSlice, hn, if_false, cellsAt, hg]
      rw [if_pos q1, q2]
theorem ownF_appV {v x : V} {xs ys : List α} {n bytes : Nat} {H : Heap} {Q : V → Heap → Prop} (hs : Flat.size α = n) (hv : OwnF H v xs) (hx : Sl H x ys) (hb : (xs.length + ys.length) * bytes ≤ 35184372088832) (hb2 : xs.length + ys.length ≤ 35184372088832)
    (hQ : ∀ w H', OwnF H' w (xs ++ ys) → Keeps (vb v) H H' → (∀ b ∈ vb w, b ∈ vb v ∨ H.next ≤ b) → Q w H') : wp (appV n bytes v x) Q H := by
  by_cases h0 : ys = []
  · subst h0
    have hf : ∃ a c, x = .slice a 0 c := by
      rcases hx with ⟨rfl, _⟩ | ⟨bb, o, u, c, rfl, _⟩
      · exact ⟨_, _, rfl⟩
      · exact ⟨_, _, rfl⟩
    obtain ⟨a, c, rfl⟩ := hf
    exact ownF_appTo (ys := ([] : List α)) hs hv rfl (fun h => absurd rfl h) hb hb2 hQ
  · obtain ⟨a, c, rfl, hc⟩ := sl_cells hs hx h0
    exact ownF_appTo hs hv rfl (fun _ => hc) hb hb2 hQ
/-- append(v, x, y, ..) -/
theorem ownF_apps {v : V} {xs ys : List α} {n m bytes : Nat} {zero : List V} {parts : List (Nat × Nat × V)} {H : Heap} {Q : V → Heap → Prop} (hs : Flat.size α = n) (hv : OwnF H v xs) (hz : zero.all flatV = true) (hf : fillA zero parts = some (encs ys)) (hm : ys.length = m) (hb : (xs.length + m) * bytes ≤ 35184372088832) (hb2 : xs.length + m ≤ 35184372088832)
    (hQ : ∀ w H', OwnF H' w (xs ++ ys) → Keeps (vb v) H H' → (∀ b ∈ vb w, b ∈ vb v ∨ H.next ≤ b) → Q w H') : wp (bslc n m zero parts) (fun x H1 => wp (appV n bytes v x) Q H1) H := by
  subst hm
  refine (wp_bslc hz hf).mpr ?_
  have hk := Keeps.push [] H (some (.cells true (encs ys)))
  refine ownF_appV hs (hv.keep0 hk) (ownF_push hs rfl).sl hb hb2 fun w H' h1 h2 h3 => hQ w H' h1 ?_ fun b hb => (h3 b hb).imp id fun q => by simp at q; omega
  exact ⟨by have := h2.next; simp at this; omega, fun c hc hn => by rw [h2.same c (by simp; omega) hn, Heap.get_push_lt hc]⟩
end

theorem encs_bytes (l : List (BitVec 8)) : encs l = l.map B := by
  induction l with
  | nil => rfl
  | cons x l ih => rw [encs_cons, ih]; rfl
theorem ownF_appS {v : V} {xs : List (BitVec 8)} {s : ByteArray} {H : Heap} {Q : V → Heap → Prop} (hv : OwnF H v xs) (hb : xs.length + s.size ≤ 35184372088832)
    (hQ : ∀ w H', OwnF H' w (xs ++ bv s) → Keeps (vb v) H H' → (∀ b ∈ vb w, b ∈ vb v ∨ H.next ≤ b) → Q w H') : wp (appS v (.string s)) Q H := by
  refine ownF_appTo (ys := bv s) (n := 1) rfl hv (bv_length s) (fun _ => ?_) (by omega) hb hQ
  rw [bytesV_bv, encs_bytes]
theorem ownF_b2s {v : V} {l : List (BitVec 8)} {H : Heap} {Q : V → Heap → Prop} (hv : OwnF H v l) (hQ : Q (.string (sv l)) H) : wp (b2s v) Q H := by
  refine own_b2s (l := l) ?_ hQ
  rw [← encs_bytes]
  rcases hv with ⟨rfl, rfl⟩ | ⟨b, rfl, hg⟩
  · exact .inl ⟨rfl, rfl⟩
  · refine .inr ⟨b, ?_, hg⟩
    have e : (encs l).length = l.length := by rw [encs_length]; exact Nat.mul_one _
    rw [e]; rfl
end Go.AM

/- The rules that a walk always has, as two lemmas. -/
namespace Go.AM
theorem Z1 : type_of% (And.intro (And.intro (And.intro (And.intro (And.intro (And.intro @at_zero @at_succ) (And.intro @wp_bnd @wp_lift)) (And.intro (And.intro @wpO_some @wp_ret) (And.intro @nx_nxt @nx_brk))) (And.intro (And.intro (And.intro @nx_ret @unblk_nxt) (And.intro @unblk_ret @unblk_brk)) (And.intro (And.intro @finM_nxt @finM_ret) (And.intro @outV_one (And.intro @condM_t @condM_f))))) (And.intro (And.intro (And.intro (And.intro @condM_dt @condM_df) (And.intro @gd_t @gd_f)) (And.intro (And.intro @gdf_t @gdf_f) (And.intro @gd_skip @gd_dt))) (And.intro (And.intro (And.intro @gd_df @gdf_dt) (And.intro @gdf_df @pick_t)) (And.intro (And.intro @pick_f @pick_dt) (And.intro @pick_df (And.intro @not_t @not_f)))))) (And.intro (And.intro (And.intro (And.intro (And.intro @not_dec @isNil_ptr) (And.intro @isNil_ptr' @isNil_pnil)) (And.intro (And.intro @isNil_pnil' @nilck_ptr) (And.intro @faddr_ptr @Nat.zero_add))) (And.intro (And.intro (And.intro @Nat.add_zero @wp_ld1) (And.intro @lenStr_str @lenSlc_slice)) (And.intro (And.intro @strV_str @i64_add) (And.intro @i64_sub (And.intro @i64_mul @i64_in))))) (And.intro (And.intro (And.intro (And.intro @int_eqd @int_ned) (And.intro @int_lss @int_leq)) (And.intro (And.intro @int_gtr @int_geq) (And.intro @str_eqd (And.intro @str_ned @if_true.{1})))) (And.intro (And.intro (And.intro @wp_bndH @wp_withH) (And.intro @wp_need @enc_int)) (And.intro (And.intro @enc_str @enc_byte) (And.intro @enc_bool (And.intro @List.getElem?_cons_zero.{0} @List.getElem?_cons_succ.{0}))))))) := (And.intro (And.intro (And.intro (And.intro (And.intro (And.intro @at_zero @at_succ) (And.intro @wp_bnd @wp_lift)) (And.intro (And.intro @wpO_some @wp_ret) (And.intro @nx_nxt @nx_brk))) (And.intro (And.intro (And.intro @nx_ret @unblk_nxt) (And.intro @unblk_ret @unblk_brk)) (And.intro (And.intro @finM_nxt @finM_ret) (And.intro @outV_one (And.intro @condM_t @condM_f))))) (And.intro (And.intro (And.intro (And.intro @condM_dt @condM_df) (And.intro @gd_t @gd_f)) (And.intro (And.intro @gdf_t @gdf_f) (And.intro @gd_skip @gd_dt))) (And.intro (And.intro (And.intro @gd_df @gdf_dt) (And.intro @gdf_df @pick_t)) (And.intro (And.intro @pick_f @pick_dt) (And.intro @pick_df (And.intro @not_t @not_f)))))) (And.intro (And.intro (And.intro (And.intro (And.intro @not_dec @isNil_ptr) (And.intro @isNil_ptr' @isNil_pnil)) (And.intro (And.intro @isNil_pnil' @nilck_ptr) (And.intro @faddr_ptr @Nat.zero_add))) (And.intro (And.intro (And.intro @Nat.add_zero @wp_ld1) (And.intro @lenStr_str @lenSlc_slice)) (And.intro (And.intro @strV_str @i64_add) (And.intro @i64_sub (And.intro @i64_mul @i64_in))))) (And.intro (And.intro (And.intro (And.intro @int_eqd @int_ned) (And.intro @int_lss @int_leq)) (And.intro (And.intro @int_gtr @int_geq) (And.intro @str_eqd (And.intro @str_ned @if_true.{1})))) (And.intro (And.intro (And.intro @wp_bndH @wp_withH) (And.intro @wp_need @enc_int)) (And.intro (And.intro @enc_str @enc_byte) (And.intro @enc_bool (And.intro @List.getElem?_cons_zero.{0} @List.getElem?_cons_succ.{0})))))))
theorem Z2 : type_of% (And.intro (And.intro (And.intro (And.intro (And.intro (And.intro @cellP_get @cellG_cells) (And.intro @wp_st1g @stG_c)) (And.intro (And.intro @eq_self.{1} @true_and) (And.intro @wp_stng @stnG_ok))) (And.intro (And.intro (And.intro @wp_ldng @ldG_ok) (And.intro @wp_newcg @wp_boxg)) (And.intro (And.intro @Heap.get_push_eq @Heap.get_push_lt) (And.intro @Heap.get_set_eq (And.intro @Heap.get_set_ne' @Heap.next_push'))))) (And.intro (And.intro (And.intro (And.intro @Heap.next_set' @Heap.set_push_lt) (And.intro @Heap.set_push_eq @Heap.set_set)) (And.intro (And.intro @fld1_agg @fldn_agg) (And.intro @ext_tuple (And.intro @outV_nil @outV_two)))) (And.intro (And.intro (And.intro @outV_three @outV_four) (And.intro @chk_ld1g @chkO_int)) (And.intro (And.intro @chkO_bool @chkO_str) (And.intro @chkO_ptr (And.intro @chkO_slc @chkO_map)))))) (And.intro (And.intro (And.intro (And.intro (And.intro @List.set_cons_zero.{0} @List.set_cons_succ.{0}) (And.intro @List.length_cons.{0} @List.length_nil.{0})) (And.intro (And.intro @List.drop_succ_cons.{0} @List.drop_zero.{0}) (And.intro @List.take_succ_cons.{0} @List.take_zero.{0}))) (And.intro (And.intro (And.intro @List.nil_append.{0} @List.cons_append.{0}) (And.intro @isOne_int @isOne_str)) (And.intro (And.intro @isOne_bool @isOne_slice) (And.intro @isOne_pointer (And.intro @isOne_map @condM_nf))))) (And.intro (And.intro (And.intro (And.intro @condM_nef @gd_nef) (And.intro @gdf_nef @pick_nef)) (And.intro (And.intro @build_eq @fillA_nil) (And.intro @fillA_one (And.intro @fillA_agg @Option.map_some.{0,0})))) (And.intro (And.intro (And.intro @resv_one @resv_two) (And.intro @freeIn_nil @fillA_slc)) (And.intro (And.intro @fillA_int @fillA_str) (And.intro @fillA_bool (And.intro @fillA_ptr @fillA_map))))))) := (And.intro (And.intro (And.intro (And.intro (And.intro (And.intro @cellP_get @cellG_cells) (And.intro @wp_st1g @stG_c)) (And.intro (And.intro @eq_self.{1} @true_and) (And.intro @wp_stng @stnG_ok))) (And.intro (And.intro (And.intro @wp_ldng @ldG_ok) (And.intro @wp_newcg @wp_boxg)) (And.intro (And.intro @Heap.get_push_eq @Heap.get_push_lt) (And.intro @Heap.get_set_eq (And.intro @Heap.get_set_ne' @Heap.next_push'))))) (And.intro (And.intro (And.intro (And.intro @Heap.next_set' @Heap.set_push_lt) (And.intro @Heap.set_push_eq @Heap.set_set)) (And.intro (And.intro @fld1_agg @fldn_agg) (And.intro @ext_tuple (And.intro @outV_nil @outV_two)))) (And.intro (And.intro (And.intro @outV_three @outV_four) (And.intro @chk_ld1g @chkO_int)) (And.intro (And.intro @chkO_bool @chkO_str) (And.intro @chkO_ptr (And.intro @chkO_slc @chkO_map)))))) (And.intro (And.intro (And.intro (And.intro (And.intro @List.set_cons_zero.{0} @List.set_cons_succ.{0}) (And.intro @List.length_cons.{0} @List.length_nil.{0})) (And.intro (And.intro @List.drop_succ_cons.{0} @List.drop_zero.{0}) (And.intro @List.take_succ_cons.{0} @List.take_zero.{0}))) (And.intro (And.intro (And.intro @List.nil_append.{0} @List.cons_append.{0}) (And.intro @isOne_int @isOne_str)) (And.intro (And.intro @isOne_bool @isOne_slice) (And.intro @isOne_pointer (And.intro @isOne_map @condM_nf))))) (And.intro (And.intro (And.intro (And.intro @condM_nef @gd_nef) (And.intro @gdf_nef @pick_nef)) (And.intro (And.intro @build_eq @fillA_nil) (And.intro @fillA_one (And.intro @fillA_agg @Option.map_some.{0,0})))) (And.intro (And.intro (And.intro @resv_one @resv_two) (And.intro @freeIn_nil @fillA_slc)) (And.intro (And.intro @fillA_int @fillA_str) (And.intro @fillA_bool (And.intro @fillA_ptr @fillA_map)))))))
end Go.AM

/- Maps that are walked in an order that nobody knows: what is needed of heaps, worlds and lists. -/
namespace Go.AM
open Go.RowKit (Below)
open Go.ChangeMaps (setBlock)

variable {P : Program} {N : Nat} {w₀ : World} {ρ : Ren} {H : Heap} {w : World} {σ : Calls'} {n : Nat}

/-! ### heaps of which what is new is forgotten -/
def Heap.cut (n : Nat) (H : Heap) : Heap := ⟨(List.range H.next).map fun b => if b < n then H.get b else none⟩
theorem Heap.cut_next (n : Nat) (H : Heap) : (H.cut n).next = H.next := by simp [Heap.cut, Heap.next]
theorem Heap.cut_get (n : Nat) (H : Heap) (b : Nat) : (H.cut n).get b = if b < n then H.get b else none := by
  have key : ∀ x : Option Blk, (match (some x : Option (Option Blk)) with | some (some x) => some x | _ => none) = x := fun x => by cases x <;> rfl
  by_cases h : b < H.next
  · have e : (H.cut n).blk[b]? = some (if b < n then H.get b else none) := by simp [Heap.cut, h]
    show (match (H.cut n).blk[b]? with | some (some x) => some x | _ => none) = _
    rw [e]
    exact key _
  · have e : (H.cut n).blk[b]? = none := List.getElem?_eq_none (by simp [Heap.cut]; omega)
    have e2 : H.get b = none := by
      show (match H.blk[b]? with | some (some x) => some x | _ => none) = none
      rw [List.getElem?_eq_none (by simpa [Heap.next] using h)]
    show (match (H.cut n).blk[b]? with | some (some x) => some x | _ => none) = _
    rw [e, e2]; simp
theorem Heap.cut_some {n : Nat} {H : Heap} {b : Nat} {x : Blk} (h : (H.cut n).get b = some x) : H.get b = some x ∧ b < n := by
  rw [Heap.cut_get] at h
  split at h
  · exact ⟨h, by assumption⟩
  · cases h
theorem Rel.cut (h : Rel N w₀ ρ H w) (n : Nat) : Rel N w₀ ρ (H.cut n) w :=
  ⟨h.below, h.big, fun b hb => h.dom b (by rwa [Heap.cut_next] at hb), h.base, fun b x hx => h.blk b x (Heap.cut_some hx).1, fun b b' x x' L L' hx hx' => h.inj b b' x x' L L' (Heap.cut_some hx).1 (Heap.cut_some hx').1⟩
theorem Ext.cut {ρ' : Ren} {H' : Heap} {w' : World} (h : Ext ρ H w ρ' H' w') (n : Nat) : Ext ρ H w ρ' (H'.cut n) w' :=
  ⟨h.le, h.same, by rw [Heap.cut_next]; exact h.next, h.apart, fun b x L hb => h.old b x L (Heap.cut_some hb).1⟩

/-! ### worlds that turn where no abstract block lies -/
theorem Rel.other (h : Rel N w₀ ρ H w) {c : Nat} (hc : N ≤ c) (hfree : ∀ b x M, H.get b = some x → ρ b = some M → M.blk ≠ c) (w' : World) (hos : w'.os = w.os) (htape : w'.tape = w.tape) (hout : w'.output = w.output)
    (hsz : w'.heap.size = w.heap.size) (hold : ∀ k, k ≠ c → w'.heap[k]? = w.heap[k]?) : Rel N w₀ ρ H w' :=
  ⟨h.below.trans ⟨hos, htape, hout, by omega, fun k hk => hold k (by omega)⟩, by rw [hsz]; exact h.big, h.dom, h.base, fun b x hx => by
    obtain ⟨L, hL, hr⟩ := h.blk b x hx
    exact ⟨L, hL, hr.mono (Ren.le.refl _) (hold _ (hfree b x L hx hL))⟩, h.inj⟩
theorem setBlock_ne {b k : Nat} {o : Obj} (hk : k ≠ b) : (setBlock w b o).heap[k]? = w.heap[k]? := by
  show (w.heap.setIfInBounds b o)[k]? = _
  exact Array.getElem?_setIfInBounds_ne (fun e => hk e.symm)
theorem setBlock_size {b : Nat} {o : Obj} : (setBlock w b o).heap.size = w.heap.size := by simp [setBlock]
theorem Rel.setBlock (h : Rel N w₀ ρ H w) {c : Nat} (hc : N ≤ c) (hfree : ∀ b x M, H.get b = some x → ρ b = some M → M.blk ≠ c) (o : Obj) : Rel N w₀ ρ H (setBlock w c o) :=
  h.other hc hfree _ rfl rfl rfl setBlock_size fun _ hk => setBlock_ne hk
theorem Ext.drew {ρ' : Ren} {H' : Heap} {w' : World} (h : Ext ρ H w ρ' H' w') (k : Nat) : Ext ρ H w ρ' H' { w' with drawn := k } := ⟨h.le, h.same, h.next, h.apart, h.old⟩
end Go.AM

/- Slices among the cells of other things. -/
namespace Go.AM

/-- a slice among the cells of another thing -/
structure In (α : Type) where
  v : V
  xs : List α
  one : v.isOne = true
instance {α : Type} : Inhabited (In α) := ⟨⟨.slice none 0 0, [], rfl⟩⟩


instance {α : Type} : Flat (In α) := ⟨1, fun a => [a.v], fun _ => rfl, fun a => by simp [a.one], by decide⟩
/-- slices of slices: all may be looked at -/
structure Sl2 {α : Type} [Flat α] (H : Heap) (v : V) (xs : List (In α)) : Prop where
  out : Sl H v xs
  inn : ∀ x ∈ xs, Sl H x.v x.xs
theorem Sl2.keep0 {α : Type} [Flat α] {H H' : Heap} {v : V} {xs : List (In α)} (h : Sl2 H v xs) (hk : Keeps [] H H') : Sl2 H' v xs := ⟨h.out.keep0 hk, fun x hx => (h.inn x hx).keep0 hk⟩
theorem Sl2.at {α : Type} [Flat α] {H : Heap} {v : V} {xs : List (In α)} (h : Sl2 H v xs) {i : Nat} (hi : i < xs.length) : Sl H (xs.getD i default).v (xs.getD i default).xs := by
  rw [List.getD_eq_getElem?_getD, List.getElem?_eq_getElem hi]
  exact h.inn _ (List.getElem_mem hi)
theorem Sl2.get {α : Type} [Flat α] {H : Heap} {v : V} {xs : List (In α)} (h : Sl2 H v xs) {i : Nat} (hi : i < xs.length) : iaddrS 1 v (i64 i) = some (ptr (slB v) (slO v + i)) ∧ cellP H (ptr (slB v) (slO v + i)) = some (xs.getD i default).v := by
  have h1 := h.out.addr1 rfl (k := .i64) (i := i) (by omega) (by omega)
  rw [Int.toNat_natCast] at h1
  exact ⟨h1, by rw [h.out.cell1 rfl hi default]; rfl⟩
end Go.AM

/- Things on the heap that lie apart from each other. -/
namespace Go.AM

/-- a thing: its blocks, and what is said of them -/
structure Thing where
  fp : List Nat
  P : Heap → Prop
  loc : ∀ {H H' : Heap}, H.next ≤ H'.next → (∀ b ∈ fp, H'.get b = H.get b) → P H → P H'
  lt : ∀ {H : Heap}, P H → ∀ b ∈ fp, b < H.next

/-- a block of cells -/
def cel (d : Nat) (cs : List V) : Thing := ⟨[d], fun H => H.get d = some (.cells true cs), fun _ h p => by rw [h d (by simp)]; exact p, fun p b hb => by simp at hb; subst hb; exact Heap.get_lt p⟩
/-- an own slice -/
def own {α : Type} [Flat α] (v : V) (xs : List α) : Thing :=
  ⟨vb v, fun H => OwnF H v xs, fun _ h p => by
    rcases p with p | ⟨b, rfl, hb⟩
    · exact .inl p
    · exact .inr ⟨b, rfl, by rw [h b (by simp)]; exact hb⟩, fun p => p.lt⟩
/-- a slice that may be looked at -/
def view {α : Type} [Flat α] (v : V) (xs : List α) : Thing :=
  ⟨vb v, fun H => Sl H v xs, fun hn h p => by
    rcases p with p | ⟨b, o, u, c, rfl, hc, hb, hl, hu⟩
    · exact .inl p
    · refine .inr ⟨b, o, u, c, rfl, hc, by omega, ?_, hu⟩
      rw [h b (by simp)]; exact hl, fun p b hb => by
    rcases p with ⟨rfl, rfl⟩ | ⟨b', o, u, c, rfl, hc, hb', hl, hu⟩
    · simp at hb
    · simp at hb; omega⟩

/-- things that lie apart, all newer than H0; what was in H0 is as it was -/
structure Hp (H0 H : Heap) (L : List Thing) : Prop where
  keeps : Keeps [] H0 H
  new : ∀ t ∈ L, ∀ b ∈ t.fp, H0.next ≤ b
  all : ∀ t ∈ L, t.P H
  apart : L.Pairwise fun t u => ∀ b ∈ t.fp, b ∉ u.fp

theorem Hp.start (H : Heap) : Hp H H [] := ⟨Keeps.refl _ _, by simp, by simp, List.Pairwise.nil⟩
variable {H0 H H' : Heap} {L : List Thing} {t t' : Thing}
theorem Hp.keep (h : Hp H0 H L) {S : List Nat} (hk : Keeps S H H') (hs : ∀ b ∈ S, H0.next ≤ b ∧ ∀ t ∈ L, b ∉ t.fp) : Hp H0 H' L :=
  ⟨h.keeps.trans hk (fun b hb hm => by have := (hs b hm).1; omega), h.new, fun t ht => t.loc hk.next (fun b hb => hk.same b (t.lt (h.all t ht) b hb) fun q => (hs b q).2 t ht hb) (h.all t ht), h.apart⟩
theorem Hp.keep0 (h : Hp H0 H L) (hk : Keeps [] H H') : Hp H0 H' L := h.keep hk (by simp)
theorem Hp.push (h : Hp H0 H L) (x : Option Blk) : Hp H0 (H.push x) L := h.keep0 (Keeps.push _ _ _)
theorem Hp.head (h : Hp H0 H (t :: L)) : t.P H := h.all t (by simp)
theorem Hp.tail (h : Hp H0 H (t :: L)) : Hp H0 H L := ⟨h.keeps, fun u hu => h.new u (by simp [hu]), fun u hu => h.all u (by simp [hu]), (List.pairwise_cons.1 h.apart).2⟩
theorem Hp.drop (h : Hp H0 H L) (n : Nat) : Hp H0 H (L.drop n) := ⟨h.keeps, fun u hu => h.new u (List.mem_of_mem_drop hu), fun u hu => h.all u (List.mem_of_mem_drop hu), h.apart.sublist (List.drop_sublist n L)⟩
theorem Hp.sub {L' : List Thing} (h : Hp H0 H L) (hs : L'.Sublist L) : Hp H0 H L' := ⟨h.keeps, fun u hu => h.new u (hs.subset hu), fun u hu => h.all u (hs.subset hu), h.apart.sublist hs⟩
theorem Hp.perm {L' : List Thing} (h : Hp H0 H L) (hp : L.Perm L') : Hp H0 H L' :=
  ⟨h.keeps, fun u hu => h.new u (hp.mem_iff.2 hu), fun u hu => h.all u (hp.mem_iff.2 hu), (hp.pairwise_iff (R := fun t u : Thing => ∀ b ∈ t.fp, b ∉ u.fp) (fun h b hb hb' => h b hb' hb)).1 h.apart⟩
theorem Hp.at (h : Hp H0 H L) {i : Nat} (hi : L[i]? = some t) : t.P H := h.all t (List.mem_of_getElem? hi)
theorem Hp.ltAt (h : Hp H0 H L) {i : Nat} (hi : L[i]? = some t) : ∀ b ∈ t.fp, b < H.next := t.lt (h.at hi)
theorem perm_front {α : Type} : ∀ {L : List α} {i : Nat} {t : α}, L[i]? = some t → L.Perm (t :: L.eraseIdx i)
  | [], i, t, h => by simp at h
  | x :: l, 0, t, h => by simp at h; subst h; exact List.Perm.refl _
  | x :: l, i + 1, t, h => by
    have := perm_front (L := l) (i := i) (t := t) (by simpa using h)
    exact (List.Perm.cons x this).trans (List.Perm.swap _ _ _)
theorem perm_set {α : Type} : ∀ {L : List α} {i : Nat} {t u : α}, L[i]? = some t → (u :: L.eraseIdx i).Perm (L.set i u)
  | [], i, t, u, h => by simp at h
  | x :: l, 0, t, u, h => by simp
  | x :: l, i + 1, t, u, h => by
    have := perm_set (L := l) (i := i) (t := t) (u := u) (by simpa using h)
    exact (List.Perm.swap _ _ _).trans (List.Perm.cons x this)
theorem Hp.front (h : Hp H0 H L) {i : Nat} (hi : L[i]? = some t) : Hp H0 H (t :: L.eraseIdx i) := h.perm (perm_front hi)
theorem Hp.apart2 (h : Hp H0 H L) {i j : Nat} {u : Thing} (hi : L[i]? = some t) (hj : L[j]? = some u) (hne : i ≠ j) : ∀ b ∈ t.fp, b ∉ u.fp := by
  have hr := List.pairwise_iff_getElem.1 h.apart
  obtain ⟨a1, a2⟩ := List.getElem?_eq_some_iff.1 hi
  obtain ⟨b1, b2⟩ := List.getElem?_eq_some_iff.1 hj
  rcases Nat.lt_or_gt_of_ne hne with q | q
  · have := hr i j a1 b1 q; rw [a2, b2] at this; exact this
  · have := hr j i b1 a1 q; rw [a2, b2] at this; exact fun b hb hb' => this b hb' hb
/-- a new thing -/
theorem Hp.add (h : Hp H0 H L) (hk : Keeps [] H H') (ht : t.P H') (hn : ∀ b ∈ t.fp, H.next ≤ b) : Hp H0 H' (t :: L) := by
  have h1 := h.keep0 hk
  refine ⟨h1.keeps, fun u hu => ?_, fun u hu => ?_, List.pairwise_cons.2 ⟨fun u hu b hb hb' => ?_, h1.apart⟩⟩
  · rcases List.mem_cons.1 hu with rfl | hu
    · exact fun b hb => Nat.le_trans h.keeps.next (hn b hb)
    · exact h.new u hu
  · rcases List.mem_cons.1 hu with rfl | hu
    · exact ht
    · exact h1.all u hu
  · have := hn b hb
    have := u.lt (h.all u hu) b hb'
    omega
theorem Hp.newc (h : Hp H0 H L) (cs : List V) : Hp H0 (H.push (some (.cells true cs))) (cel H.next cs :: L) :=
  h.add (Keeps.push _ _ _) (Heap.get_push_self _ _) (by intro b hb; have : b = H.next := by simpa [cel] using hb
                                                        omega)
theorem Hp.nilo {α : Type} [Flat α] (h : Hp H0 H L) : Hp H0 H (own (.slice none 0 0) ([] : List α) :: L) :=
  h.add (Keeps.refl _ _) (OwnF.nil H) (by simp [own])
/-- a thing becomes another one -/
theorem Hp.step1 (h : Hp H0 H (t :: L)) (hk : Keeps t.fp H H') (ht : t'.P H') (hn : ∀ b ∈ t'.fp, b ∈ t.fp ∨ H.next ≤ b) : Hp H0 H' (t' :: L) := by
  have hp := (List.pairwise_cons.1 h.apart).1
  have h1 : Hp H0 H' L := h.tail.keep hk fun b hb => ⟨h.new t (by simp) b hb, fun u hu => hp u hu b hb⟩
  refine ⟨h1.keeps, fun u hu => ?_, fun u hu => ?_, List.pairwise_cons.2 ⟨fun u hu b hb hb' => ?_, h1.apart⟩⟩
  · rcases List.mem_cons.1 hu with rfl | hu
    · intro b hb
      rcases hn b hb with q | q
      · exact h.new t (by simp) b q
      · exact Nat.le_trans h.keeps.next q
    · exact h1.new u hu
  · rcases List.mem_cons.1 hu with rfl | hu
    · exact ht
    · exact h1.all u hu
  · rcases hn b hb with q | q
    · exact hp u hu b q hb'
    · have := u.lt (h.all u (by simp [hu])) b hb'; omega
theorem Hp.step (h : Hp H0 H L) {i : Nat} (hi : L[i]? = some t) (hk : Keeps t.fp H H') (ht : t'.P H') (hn : ∀ b ∈ t'.fp, b ∈ t.fp ∨ H.next ≤ b) : Hp H0 H' (L.set i t') :=
  ((h.front hi).step1 hk ht hn).perm (perm_set hi)
/-- several things become others -/
theorem Hp.steps {A A' : List Thing} (h : Hp H0 H (A ++ L)) {F : List Nat} (hk : Keeps F H H') (hF : ∀ b ∈ F, H.next ≤ b ∨ ∃ t ∈ A, b ∈ t.fp) (ha : ∀ t ∈ A', t.P H') (hp : A'.Pairwise fun t u => ∀ b ∈ t.fp, b ∉ u.fp)
    (hn : ∀ t ∈ A', ∀ b ∈ t.fp, H.next ≤ b ∨ ∃ u ∈ A, b ∈ u.fp) : Hp H0 H' (A' ++ L) := by
  obtain ⟨p1, p2, p3⟩ := List.pairwise_append.1 h.apart
  have hL : Hp H0 H L := h.sub (List.sublist_append_right _ _)
  have hA0 : ∀ t ∈ A, ∀ b ∈ t.fp, H0.next ≤ b := fun t ht => h.new t (by simp [ht])
  have h1 : Hp H0 H' L := hL.keep hk fun b hb => by
    rcases hF b hb with q | ⟨t, ht, hb'⟩
    · exact ⟨Nat.le_trans h.keeps.next q, fun u hu hb' => by have := u.lt (hL.all u hu) b hb'; omega⟩
    · exact ⟨hA0 t ht b hb', fun u hu => p3 t ht u hu b hb'⟩
  refine ⟨h1.keeps, fun u hu => ?_, fun u hu => ?_, List.pairwise_append.2 ⟨hp, h1.apart, fun t ht u hu b hb hb' => ?_⟩⟩
  · rcases List.mem_append.1 hu with hu | hu
    · intro b hb
      rcases hn u hu b hb with q | ⟨t, ht, q⟩
      · exact Nat.le_trans h.keeps.next q
      · exact hA0 t ht b q
    · exact h1.new u hu
  · rcases List.mem_append.1 hu with hu | hu
    · exact ha u hu
    · exact h1.all u hu
  · rcases hn t ht b hb with q | ⟨v, hv, q⟩
    · have := u.lt (hL.all u hu) b hb'; omega
    · exact p3 v hv u hu b q hb'
theorem Hp.get {d i : Nat} {cs : List V} (h : Hp H0 H L) (hi : L[i]? = some (cel d cs)) : H.get d = some (.cells true cs) := h.at hi
theorem Hp.set {d i : Nat} {cs : List V} (h : Hp H0 H L) (hi : L[i]? = some (cel d cs)) (cs' : List V) : Hp H0 (H.set d (some (.cells true cs'))) (L.set i (cel d cs')) :=
  h.step hi (Keeps.set (by simp [cel])) (Heap.get_set_eq (Heap.get_lt (h.get hi))) (fun b hb => .inl hb)
theorem Hp.own {α : Type} [Flat α] {i : Nat} {v : V} {xs : List α} (h : Hp H0 H L) (hi : L[i]? = some (own v xs)) : OwnF H v xs := h.at hi
theorem Hp.view {α : Type} [Flat α] {i : Nat} {v : V} {xs : List α} (h : Hp H0 H L) (hi : L[i]? = some (view v xs)) : Sl H v xs := h.at hi
theorem Hp.rotN (A B C : List Thing) (h : Hp H0 H (A ++ (B ++ (C ++ L)))) : Hp H0 H (A ++ (C ++ (B ++ L))) :=
  h.perm (List.Perm.append_left A (by rw [← List.append_assoc, ← List.append_assoc]; exact List.Perm.append_right L List.perm_append_comm))
/-- a block and two slices become others -/
theorem Hp.steps3 {t1 t2 t3 u1 u2 u3 : Thing} (h : Hp H0 H (t1 :: t2 :: t3 :: L)) {F : List Nat} (hk : Keeps F H H') (hF : ∀ b ∈ F, b ∈ t1.fp ∨ b ∈ t2.fp ∨ b ∈ t3.fp ∨ H.next ≤ b) (p1 : u1.P H') (p2 : u2.P H') (p3 : u3.P H') (n1 : u1.fp = t1.fp)
    (n2 : ∀ b ∈ u2.fp, b ∈ t2.fp ∨ H.next ≤ b) (n3 : ∀ b ∈ u3.fp, b ∈ t3.fp ∨ H.next ≤ b) (hd : ∀ b ∈ u2.fp, b ∉ u3.fp) : Hp H0 H' (u1 :: u2 :: u3 :: L) := by
  have a12 := h.apart2 (i := 0) (j := 1) rfl rfl (by omega)
  have a13 := h.apart2 (i := 0) (j := 2) rfl rfl (by omega)
  have l1 := h.ltAt (i := 0) rfl
  refine Hp.steps (A := [t1, t2, t3]) (A' := [u1, u2, u3]) h hk ?_ ?_ ?_ ?_
  · intro b hb
    rcases hF b hb with q | q | q | q
    · exact .inr ⟨t1, by simp, q⟩
    · exact .inr ⟨t2, by simp, q⟩
    · exact .inr ⟨t3, by simp, q⟩
    · exact .inl q
  · intro t ht
    simp only [List.mem_cons, List.not_mem_nil, or_false] at ht
    rcases ht with rfl | rfl | rfl <;> assumption
  · refine List.pairwise_cons.2 ⟨fun u hu b hb hb' => ?_, List.pairwise_cons.2 ⟨fun u hu => ?_, List.pairwise_singleton _ _⟩⟩
    · rw [n1] at hb
      have := l1 b hb
      simp only [List.mem_cons, List.not_mem_nil, or_false] at hu
      rcases hu with rfl | rfl
      · rcases n2 b hb' with q | q
        · exact a12 b hb q
        · omega
      · rcases n3 b hb' with q | q
        · exact a13 b hb q
        · omega
    · simp only [List.mem_cons, List.not_mem_nil, or_false] at hu
      subst hu; exact hd
  · intro t ht b hb
    simp only [List.mem_cons, List.not_mem_nil, or_false] at ht
    rcases ht with rfl | rfl | rfl
    · rw [n1] at hb; exact .inr ⟨t1, by simp, hb⟩
    · exact (n2 b hb).elim (fun q => .inr ⟨t2, by simp, q⟩) .inl
    · exact (n3 b hb).elim (fun q => .inr ⟨t3, by simp, q⟩) .inl
/-! ### a field of an own element -/
theorem OwnF.at {α : Type} [Flat α] {H : Heap} {v : V} {xs : List α} (h : OwnF H v xs) (hne : xs ≠ []) : slO v = 0 ∧ H.get (slB v) = some (.cells true (encs xs)) ∧ v = slc (slB v) 0 (Flat.size α) xs.length xs.length := by
  rcases h with ⟨_, q⟩ | ⟨b, rfl, hb⟩
  · exact absurd q hne
  · exact ⟨rfl, hb, rfl⟩
theorem OwnF.to {α : Type} [Flat α] {H H' : Heap} {v : V} {xs ys : List α} (h : OwnF H v xs) (hne : xs ≠ []) (hl : ys.length = xs.length) (hg : H'.get (slB v) = some (.cells true (encs ys))) : OwnF H' v ys := by
  rcases h with ⟨_, q⟩ | ⟨b, rfl, hb⟩
  · exact absurd q hne
  · exact .inr ⟨b, by rw [hl], hg⟩
theorem st_fld {α : Type} [Flat α] {v u : V} {xs : List α} {x' d : α} {idx i off n : Nat} {Q : V → Heap → Prop} (h : Hp H0 H L) (hidx : L[idx]? = some (Go.AM.own v xs)) (hs : Flat.size α = n) (hi : i < xs.length) (ho : off < n) (hu : u.isOne = true) (hx : Flat.enc x' = (Flat.enc (xs.getD i d)).set off u)
    (hQ : ∀ H', Hp H0 H' (L.set idx (Go.AM.own v (xs.set i x'))) → Q undef H') : wp (st1 (ptr (slB v) (slO v + i * n + off)) u) Q H := by
  subst hs
  have o := h.own hidx
  have hne : xs ≠ [] := by intro q; rw [q] at hi; simp at hi
  obtain ⟨e0, hg, ev⟩ := o.at hne
  have hlen := encs_length xs
  have hin : i * Flat.size α + off < (encs xs).length := by
    rw [hlen]
    calc i * Flat.size α + off < i * Flat.size α + Flat.size α := by omega
      _ = (i + 1) * Flat.size α := by rw [Nat.add_mul]; omega
      _ ≤ xs.length * Flat.size α := Nat.mul_le_mul_right _ (by omega)
  rw [e0, Nat.zero_add]
  refine (wp_st1 hg hu hin).mpr ?_
  rw [encs_set xs i off u x' d hi ho hx]
  refine hQ _ (h.step hidx (Keeps.set (by show slB v ∈ vb v; rw [ev]; simp [slB])) (o.to hne (by simp) (Heap.get_set_eq (Heap.get_lt hg))) fun b hb => .inl hb)
end Go.AM
