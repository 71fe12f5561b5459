/- Slices of one-cell elements, somewhere in a block that one owns. -/
import Derived.Test.YtfcjpopnibhagaaDoorAmHeap
set_option linter.all false
namespace Go.AM

def Seg (H : Heap) (v : V) (l : List V) : Prop := (v = .slice none 0 0 ∧ l = []) ∨ ∃ b o c cs, v = slc b o 1 l.length c ∧ l.length ≤ c ∧ H.get b = some (.cells true cs) ∧ (l = [] ∨ (o + l.length ≤ cs.length ∧ (cs.drop o).take l.length = l))

theorem Seg.nil (H : Heap) : Seg H (.slice none 0 0) [] := .inl ⟨rfl, rfl⟩
theorem Seg.keep {S : List Nat} {H H' : Heap} {v : V} {l : List V} (h : Seg H v l) (hk : Keeps S H H') (hn : ∀ b ∈ vb v, b ∉ S) : Seg H' v l := by
  rcases h with h | ⟨b, o, c, cs, rfl, hc, hb, hl⟩
  · exact .inl h
  · exact .inr ⟨b, o, c, cs, rfl, hc, hk.get hb (hn b (by simp)), hl⟩
theorem Seg.same {H H' : Heap} {v : V} {l : List V} (h : Seg H v l) (hs : ∀ b ∈ vb v, H'.get b = H.get b) : Seg H' v l := by
  rcases h with h | ⟨b, o, c, cs, rfl, hc, hb, hl⟩
  · exact .inl h
  · exact .inr ⟨b, o, c, cs, rfl, hc, by rw [hs b (by simp)]; exact hb, hl⟩
theorem Seg.len {H : Heap} {v : V} {l : List V} (h : Seg H v l) : lenSlc v = some (i64 l.length) := by
  rcases h with ⟨rfl, rfl⟩ | ⟨b, o, c, cs, rfl, hc, hb, hl⟩ <;> rfl
theorem Seg.lt {H : Heap} {v : V} {l : List V} (h : Seg H v l) : ∀ b ∈ vb v, b < H.next := by
  rcases h with ⟨rfl, rfl⟩ | ⟨b, o, c, cs, rfl, hc, hb, hl⟩
  · simp
  · simpa using Heap.get_lt hb
theorem Seg.isOne {H : Heap} {v : V} {l : List V} (h : Seg H v l) : v.isOne = true := by
  rcases h with ⟨rfl, rfl⟩ | ⟨b, o, c, cs, rfl, _⟩ <;> rfl
theorem Seg.form {H : Heap} {v : V} {l : List V} (h : Seg H v l) : ∃ a c, v = .slice a l.length c := by
  rcases h with ⟨rfl, rfl⟩ | ⟨b, o, c, cs, rfl, _⟩
  · exact ⟨_, _, rfl⟩
  · exact ⟨_, _, rfl⟩
theorem Own.seg {H : Heap} {v : V} {l : List V} (h : Own H v l) : Seg H v l := by
  rcases h with h | ⟨b, rfl, hb⟩
  · exact .inl h
  · exact .inr ⟨b, 0, l.length, l, rfl, Nat.le_refl _, hb, .inr ⟨by omega, by simp⟩⟩
theorem Seg.cells {H : Heap} {v : V} {l : List V} (h : Seg H v l) : cellsOfSlice H 1 v = some l := by
  rcases h with ⟨rfl, rfl⟩ | ⟨b, o, c, cs, rfl, hc, hb, hl⟩
  · rfl
  · simp only [cellsOfSlice]
    by_cases h0 : l.length = 0
    · rw [if_pos h0, List.eq_nil_of_length_eq_zero h0]
    · rw [if_neg h0]
      rcases hl with rfl | ⟨h1, h2⟩
      · simp at h0
      · simp [cellsAt, hb, h1, h2]
theorem Seg.addr {H : Heap} {v : V} {l : List V} (h : Seg H v l) {k : IntKind} {i : Int} (h0 : 0 ≤ i) (hi : i < l.length) : iaddrS 1 v (.int k i) = some (ptr (slB v) (slO v + i.toNat)) := by
  rcases h with ⟨rfl, rfl⟩ | ⟨b, o, c, cs, rfl, _⟩
  · simp at hi; omega
  · have := iaddrS_slc (b := b) (o := o) (u := 1) (cap := c) (size := 1) (k := k) h0 hi
    rw [Nat.mul_one] at this; exact this
theorem Seg.cell {H : Heap} {v : V} {l : List V} (h : Seg H v l) {i : Nat} (hi : i < l.length) : cellP H (ptr (slB v) (slO v + i)) = l[i]? := by
  rcases h with ⟨rfl, rfl⟩ | ⟨b, o, c, cs, rfl, hc, hb, hl⟩
  · simp at hi
  · rcases hl with rfl | ⟨h1, h2⟩
    · simp at hi
    · show cellP H (ptr b (o + i)) = _
      rw [cellP_ptr hb]
      have : ((cs.drop o).take l.length)[i]? = l[i]? := by rw [h2]
      rw [List.getElem?_take, if_pos hi, List.getElem?_drop] at this
      exact this

/-- append to a slice of that kind -/
theorem seg_app {v : V} {l new : List V} {bytes : Nat} {H : Heap} {Q : V → Heap → Prop} (hv : Seg H v l) (hne : new ≠ []) (hone : new.all Value.isOne = true)
    (hb : (l.length + new.length) * bytes ≤ 35184372088832) (hb2 : l.length + new.length ≤ 35184372088832) (hQ : ∀ b H', Own H' (slc b 0 1 (l ++ new).length (l ++ new).length) (l ++ new) → Keeps (vb v) H H' → b = H.next → Q (slc b 0 1 (l ++ new).length (l ++ new).length) H') :
    wp (appTo 1 bytes v new.length (some new)) Q H := by
  have hn0 : new.length ≠ 0 := fun h => hne (List.eq_nil_of_length_eq_zero h)
  have hcs := hv.cells
  rcases hv with ⟨rfl, rfl⟩ | ⟨b, o, c, cs, rfl, hc, hg, hl⟩
  · refine ⟨slc H.next 0 1 new.length new.length, H.push (some (.cells true new)), ?_, ?_⟩
    · have e2 : giveUp H 1 (.slice none 0 0) = some H := rfl
      simp only [List.length_nil, Nat.zero_add] at hb hb2
      simp only [appTo, hn0, if_false, hcs, e2]
      rw [if_pos ⟨by rw [Nat.zero_add]; exact hb, by omega, hone, by omega⟩]
      simp
    · have := hQ H.next (H.push (some (.cells true new))) (.inr ⟨H.next, by simp, Heap.get_push_self _ _⟩) (Keeps.push _ _ _) rfl
      simpa using this
  · refine ⟨slc H.next 0 1 (l.length + new.length) (l.length + new.length), (H.set b none).push (some (.cells true (l ++ new))), ?_, ?_⟩
    · simp only [appTo, hn0, if_false, hcs, giveUp, hg, if_true]
      rw [if_pos ⟨hb, hb2, hone, by omega⟩]
      simp
    · have := hQ H.next ((H.set b none).push (some (.cells true (l ++ new)))) (.inr ⟨H.next, by simp, by have := Heap.get_push_self (H.set b none) (some (.cells true (l ++ new))); simpa using this⟩) ⟨by simp, fun c hc hn => by rw [Heap.get_push_lt (by simpa using hc), Heap.get_set_ne _ _ _ (by simpa using hn)]⟩ rfl
      simpa using this
/-- append(v, x...): what comes out is an own slice, or (nothing was appended) v itself -/
theorem seg_appV {v x : V} {l new : List V} {bytes : Nat} {H : Heap} {Q : V → Heap → Prop} (hv : Seg H v l) (hx : ∃ a c, x = .slice a new.length c) (hc : cellsOfSlice H 1 x = some new) (hone : new.all Value.isOne = true)
    (hb : (l.length + new.length) * bytes ≤ 35184372088832) (hb2 : l.length + new.length ≤ 35184372088832) (hQ : ∀ w H', Seg H' w (l ++ new) → Keeps (vb v) H H' → (∀ b ∈ vb w, b = H.next ∨ b ∈ vb v) → (new ≠ [] → vb w = [H.next]) → Q w H') : wp (appV 1 bytes v x) Q H := by
  obtain ⟨a, c, rfl⟩ := hx
  by_cases h0 : new = []
  · subst h0
    refine ⟨v, H, ?_, hQ v H (by simpa using hv) (Keeps.refl _ _) (fun b hb => .inr hb) (fun h => absurd rfl h)⟩
    obtain ⟨a', c', rfl⟩ := hv.form
    rfl
  · obtain ⟨r, H', h1, h2⟩ := seg_app hv h0 hone hb hb2 (Q := Q) (fun b H' h1 h2 h3 => hQ _ H' h1.seg h2 (by simp [h3]) (fun _ => by simp [h3]))
    exact ⟨r, H', by simp only [appV]; rw [hc]; exact h1, h2⟩
/-- append(v, x, ..) -/
theorem seg_apps {v : V} {l new zero : List V} {parts : List (Nat × Nat × V)} {m bytes : Nat} {H : Heap} {Q : V → Heap → Prop} (hv : Seg H v l) (hz : zero.all flatV = true) (hf : fillA zero parts = some new) (hm : m ≠ 0) (hl : new.length = m) (hone : new.all Value.isOne = true)
    (hb : (l.length + m) * bytes ≤ 35184372088832) (hb2 : l.length + m ≤ 35184372088832) (hQ : ∀ b H', Own H' (slc b 0 1 (l ++ new).length (l ++ new).length) (l ++ new) → Keeps (vb v) H H' → H.next ≤ b → Q (slc b 0 1 (l ++ new).length (l ++ new).length) H') :
    wp (bslc 1 m zero parts) (fun x H1 => wp (appV 1 bytes v x) Q H1) H := by
  refine (wp_bslc hz hf).mpr ?_
  have hk := Keeps.push [] H (some (.cells true new))
  have hg := Heap.get_push_self H (some (.cells true new))
  have hne : new ≠ [] := fun h => hm (by rw [← hl, h]; rfl)
  have hcs : cellsOfSlice (H.push (some (.cells true new))) 1 (slc H.next 0 1 m m) = some new := by
    simp only [cellsOfSlice, hm, if_false, cellsAt, hg]
    rw [if_pos (by omega)]
    simp [← hl]
  obtain ⟨r, H', h1, h2⟩ := seg_app (bytes := bytes) (hv.keep hk (by simp)) hne hone (by rw [hl]; exact hb) (by omega) (Q := Q) (fun b H' h1 h2 h3 => hQ b H' h1 ⟨by have := h2.next; simp at this; omega, fun c hc hn => by rw [h2.same c (by simp; omega) hn, Heap.get_push_lt hc]⟩ (by simp at h3; omega))
  rw [hl] at h1
  exact ⟨r, H', by simp only [appV]; rw [hcs]; exact h1, h2⟩

/-- v[lo:hi] -/
theorem Seg.sub {H : Heap} {v : V} {l : List V} (h : Seg H v l) {lo hi : Option V} {a b : Nat} (hlo : bound 0 b lo = some a) (hhi : ∀ c, l.length ≤ c → bound l.length c hi = some b) (h1 : a ≤ b) (h2 : b ≤ l.length) : ∃ w, subV 1 v lo hi = some w ∧ Seg H w ((l.drop a).take (b - a)) ∧ (∀ x ∈ vb w, x ∈ vb v) ∧ w.isOne = true := by
  have hlen : ((l.drop a).take (b - a)).length = b - a := by simp; omega
  rcases h with ⟨rfl, rfl⟩ | ⟨blk, o, c, cs, rfl, hc, hb, hl⟩
  · simp only [List.length_nil] at h2 hhi
    have hb0 : b = 0 := by omega
    subst hb0
    have ha0 : a = 0 := by omega
    subst ha0
    exact ⟨.slice none 0 0, by simp [subV, hhi 0 (Nat.le_refl _), hlo], .inl ⟨rfl, by simp⟩, fun x hx => hx, rfl⟩
  · refine ⟨cutAt blk o 1 a b c 1, ?_, ?_, ?_, ?_⟩
    · simp only [subV, hhi c hc, hlo]
      simp
    · unfold cutAt
      split
      · rename_i hca
        have : b = a := by omega
        subst this
        refine .inr ⟨blk, o, c - b, cs, by simp, by simp, hb, .inl (by simp)⟩
      · refine .inr ⟨blk, o + a * 1, c - a, cs, by rw [hlen], by rw [hlen]; omega, hb, ?_⟩
        rcases hl with rfl | ⟨q1, q2⟩
        · left; simp
        · right
          rw [hlen]
          refine ⟨by omega, ?_⟩
          conv => rhs; rw [← q2]
          rw [List.drop_take, List.take_take, List.drop_drop, Nat.mul_one]
          congr 1
          omega
    · unfold cutAt; split <;> simp
    · unfold cutAt; split <;> rfl

/-! structs that are built -/
theorem build_eq {zero : List V} {parts : List (Nat × Nat × V)} (h : zero.all flatV = true) : build zero parts = (fillA zero parts).map fun cs => .agg cs.toArray := by
  simp only [build, h, if_true]
  cases fillA zero parts <;> rfl
theorem fillA_nil (cs : List V) : fillA cs [] = some cs := rfl
theorem fillA_one {cs : List V} {off : Nat} {v : V} {rest : List (Nat × Nat × V)} (hv : v.isOne = true) (h : off < cs.length) : fillA cs ((off, 1, v) :: rest) = fillA (cs.set off v) rest := by
  have hc : v.cells.toList = [v] := by rw [cells_one hv]
  have hs : v.cells.size = 1 := by rw [cells_one hv]; rfl
  simp only [fillA, hc, hs]
  rw [if_pos (by simp [hv]; omega)]
  congr 1
  simp only [splice, List.length_singleton]
  rw [List.set_eq_take_append_cons_drop, if_pos h]
  rfl
theorem fillA_slc {cs : List V} {off : Nat} {a : Option Addr} {n c : Nat} {rest : List (Nat × Nat × V)} (h : off < cs.length) : fillA cs ((off, 1, .slice a n c) :: rest) = fillA (cs.set off (.slice a n c)) rest := fillA_one rfl h
theorem fillA_int {cs : List V} {off : Nat} {k : IntKind} {n : Int} {rest : List (Nat × Nat × V)} (h : off < cs.length) : fillA cs ((off, 1, .int k n) :: rest) = fillA (cs.set off (.int k n)) rest := fillA_one rfl h
theorem fillA_str {cs : List V} {off : Nat} {s : ByteArray} {rest : List (Nat × Nat × V)} (h : off < cs.length) : fillA cs ((off, 1, .string s) :: rest) = fillA (cs.set off (.string s)) rest := fillA_one rfl h
theorem fillA_bool {cs : List V} {off : Nat} {b : Bool} {rest : List (Nat × Nat × V)} (h : off < cs.length) : fillA cs ((off, 1, .bool b) :: rest) = fillA (cs.set off (.bool b)) rest := fillA_one rfl h
theorem fillA_ptr {cs : List V} {off : Nat} {a : Option Addr} {rest : List (Nat × Nat × V)} (h : off < cs.length) : fillA cs ((off, 1, .pointer a) :: rest) = fillA (cs.set off (.pointer a)) rest := fillA_one rfl h
theorem fillA_map {cs : List V} {off : Nat} {a : Option Nat} {rest : List (Nat × Nat × V)} (h : off < cs.length) : fillA cs ((off, 1, .map a) :: rest) = fillA (cs.set off (.map a)) rest := fillA_one rfl h
theorem fillA_agg {cs vs : List V} {off n : Nat} {rest : List (Nat × Nat × V)} (hv : vs.all Value.isOne = true) (hn : vs.length = n) (h : off + n ≤ cs.length) : fillA cs ((off, n, .agg vs.toArray) :: rest) = fillA (splice cs off vs) rest := by
  have hc : (Value.agg vs.toArray).cells.toList = vs := by simp [Value.cells]
  have hs : (Value.agg vs.toArray).cells.size = n := by simp [Value.cells, hn]
  simp only [fillA, hc, hs]
  rw [if_pos (by simp [hv]; omega)]

/-! blocks that are kept free for floating makes -/
theorem resv_one (H : Heap) : resv H 1 = H.push none := rfl
theorem resv_two (H : Heap) : resv H 2 = (H.push none).push none := rfl
theorem freeIn_nil (H : Heap) : freeIn H [] = true := rfl
theorem freeIn_cons {H : Heap} {b : Nat} {bs : List Nat} (h : H.get b = none) (hl : b < H.next) : freeIn H (b :: bs) = freeIn H bs := by
  have : Nat.blt b H.next = true := by simpa [Nat.blt_eq] using hl
  simp [freeIn, h, this]
theorem wp_flt_bslc {id size len : Nat} {zero cs : List V} {parts : List (Nat × Nat × V)} {H : Heap} {Q : V → Heap → Prop} (h : H.get id = none) (hl : id < H.next) (hz : zero.all flatV = true) (hf : fillA zero parts = some cs) (hQ : Q (slc id 0 size len len) (H.set id (some (.cells true cs)))) : wp (flt id (bslc size len zero parts)) Q H := by
  have e : bslc size len zero parts ⟨[]⟩ = some (slc 0 0 size len len, ⟨[some (.cells true cs)]⟩) := by
    simp only [bslc, hz, if_true, hf]; rfl
  have : Nat.blt id H.next = true := by simpa [Nat.blt_eq] using hl
  exact ⟨_, _, by simp only [flt, e, h, this, cond_true, reloc], hQ⟩
theorem wp_flt_mkslc {id size bytes n c : Nat} {zero : List V} {k k' : IntKind} {H : Heap} {Q : V → Heap → Prop} (h : H.get id = none) (hl : id < H.next) (hz : zero.all flatV = true) (h1 : n ≤ c) (h2 : c ≤ 140737488355328) (h3 : bytes * c ≤ 140737488355328) (hQ : Q (slc id 0 size n c) (H.set id (some (.cells true (rep c zero))))) : wp (flt id (mkslc size bytes zero (.int k n) (.int k' c))) Q H := by
  have e : mkslc size bytes zero (.int k n) (.int k' c) ⟨[]⟩ = some (slc 0 0 size n c, ⟨[some (.cells true (rep c zero))]⟩) := by
    simp only [mkslc]
    rw [if_pos ⟨hz, by omega, by omega, by omega, by rw [← Int.natCast_mul]; omega⟩, Int.toNat_natCast, Int.toNat_natCast]
    rfl
  have : Nat.blt id H.next = true := by simpa [Nat.blt_eq] using hl
  exact ⟨_, _, by simp only [flt, e, h, this, cond_true, reloc], hQ⟩
theorem rep_encs {α : Type} [Flat α] (x : α) (zero : List V) (hz : zero = Flat.enc x) : ∀ n, rep n zero = encs (List.replicate n x)
  | 0 => rfl
  | n + 1 => by rw [rep, rep_encs x zero hz n, List.replicate_succ, encs_cons, hz]
end Go.AM
