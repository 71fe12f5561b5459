import Derived.Test.YtehhkminlafeiaaGreatDoorAmHeap
import Derived.Test.YtehhkminlafeiaaGreatDoorAmWp
import Derived.Maps.RangeRun
import Derived.WideKeyArgs
import Derived.ChangeSame
import Derived.OpenShut
import Derived.LaidSub
import Derived.ChangeMaps5
import Derived.Lib.LaidTab
import Derived.Deep.Slices
set_option linter.all false
/- Maps that are held: their zbbl as lists of keys and values. -/
namespace Go.AM
class KeyE (κ : Type) [DecidableEq κ] where
  kk : KK
  enc : κ → V
  eq : ∀ a b, z4u kk (enc a) (enc b) = some (decide (a = b))
  fits : ∀ a, z8e kk (enc a) = true
  solid : ∀ a, (enc a).isSolid = true
class ValE (ω : Type) where
  enc : ω → V
  solid : ∀ a, (enc a).isSolid = true
theorem zbud (a b : Int) : (a == b) = decide (a = b) := by by_cases h : a = b <;> simp [h]
instance : KeyE Int := ⟨.one .i, i64, fun a b => by simp only [z4u, eqK, if_true, zbud], fun _ => rfl, fun _ => rfl⟩
instance : ValE Int := ⟨i64, fun _ => rfl⟩
instance : ValE Bool := ⟨.bool, fun _ => rfl⟩
abbrev pr (a b : Int) : V := .agg [i64 a, i64 b].toArray
instance : KeyE (Int × Int) := ⟨.agg [.i, .i], fun a => pr a.1 a.2, fun a b => by
  simp only [z4u, z82, ztv, eqK, if_true, zbud]
  by_cases h : a.1 = b.1
  · by_cases h2 : a.2 = b.2
    · rw [decide_eq_true h, decide_eq_true h2, decide_eq_true (show a = b from Prod.ext h h2)]
    · rw [decide_eq_true h, decide_eq_false h2, decide_eq_false (show ¬ a = b from fun e => h2 (by rw [e]))]
  · rw [decide_eq_false h, decide_eq_false (show ¬ a = b from fun e => h (by rw [e]))], fun _ => rfl, fun _ => rfl⟩
theorem kp (a : Int × Int) : KeyE.enc a = pr a.1 a.2 := rfl
section
variable {κ ω : Type} [DecidableEq κ] [KeyE κ] [ValE ω]
def encE (e : κ × ω) : V × V := (KeyE.enc e.1, ValE.enc e.2)
def MapR (H : Heap) (m : Nat) (es : List (κ × ω)) : Prop := H.get m = some (.map true (es.map encE))
theorem MapR.keep {S : List Nat} {H H' : Heap} {m : Nat} {es : List (κ × ω)} (h : MapR H m es) (hk : Keeps S H H') (hm : m ∉ S) : MapR H' m es := hk.get h hm
theorem MapR.lt {H : Heap} {m : Nat} {es : List (κ × ω)} (h : MapR H m es) : m < H.next := Heap.get_lt h
end
end Go.AM

/- Slices of one-cell elements, somewhere in a block that one owns. -/
namespace Go.AM
def Seg (H : Heap) (v : V) (l : List V) : Prop := (v = .slice none 0 0 ∧ l = []) ∨ ∃ b o c cs, v = slc b o 1 l.length c ∧ l.length ≤ c ∧ H.get b = some (.cells true cs) ∧ (l = [] ∨ (o + l.length ≤ cs.length ∧ (cs.drop o).take l.length = l))
theorem Seg.nil (H : Heap) : Seg H (.slice none 0 0) [] := .inl ⟨rfl, rfl⟩
theorem Seg.keep {S : List Nat} {H H' : Heap} {v : V} {l : List V} (h : Seg H v l) (hk : Keeps S H H') (hn : ∀ b ∈ vb v, b ∉ S) : Seg H' v l := by
  rcases h with h | ⟨b, o, c, cs, rfl, hc, hb, hl⟩
  · exact .inl h
  · exact .inr ⟨b, o, c, cs, rfl, hc, hk.get hb (hn b (by simp)), hl⟩
theorem Seg.same {H H' : Heap} {v : V} {l : List V} (h : Seg H v l) (hs : ∀ b ∈ vb v, H'.get b = H.get b) : Seg H' v l := by
  rcases h with h | ⟨b, o, c, cs, rfl, hc, hb, hl⟩
  · exact .inl h
  · exact .inr ⟨b, o, c, cs, rfl, hc, by rw [hs b (by simp)]; exact hb, hl⟩
theorem Seg.len {H : Heap} {v : V} {l : List V} (h : Seg H v l) : zb9 v = some (i64 l.length) := by
  rcases h with ⟨rfl, rfl⟩ | ⟨b, o, c, cs, rfl, hc, hb, hl⟩ <;> rfl
theorem Seg.lt {H : Heap} {v : V} {l : List V} (h : Seg H v l) : ∀ b ∈ vb v, b < H.next := by
  rcases h with ⟨rfl, rfl⟩ | ⟨b, o, c, cs, rfl, hc, hb, hl⟩
  · simp
  · simpa using Heap.get_lt hb
theorem Seg.isOne {H : Heap} {v : V} {l : List V} (h : Seg H v l) : v.isOne = true := by
  rcases h with ⟨rfl, rfl⟩ | ⟨b, o, c, cs, rfl, _⟩ <;> rfl
theorem Seg.cells {H : Heap} {v : V} {l : List V} (h : Seg H v l) : zcw H 1 v = some l := by
  rcases h with ⟨rfl, rfl⟩ | ⟨b, o, c, cs, rfl, hc, hb, hl⟩
  · rfl
  · simp only [zcw]
    by_cases h0 : l.length = 0
    · rw [if_pos h0, List.eq_nil_of_length_eq_zero h0]
    · rw [if_neg h0]
      rcases hl with rfl | ⟨h1, h2⟩
      · simp at h0
      · simp [cellsAt, hb, h1, h2]
theorem Seg.addr {H : Heap} {v : V} {l : List V} (h : Seg H v l) {k : IntKind} {i : Int} (h0 : 0 ≤ i) (hi : i < l.length) : zv 1 v (.int k i) = some (ptr (slB v) (slO v + i.toNat)) := by
  rcases h with ⟨rfl, rfl⟩ | ⟨b, o, c, cs, rfl, _⟩
  · simp at hi; omega
  · have := zq0 (b := b) (o := o) (u := 1) (cap := c) (size := 1) (k := k) h0 hi
    rw [Nat.mul_one] at this; exact this
theorem Seg.cell {H : Heap} {v : V} {l : List V} (h : Seg H v l) {i : Nat} (hi : i < l.length) : zhl H (ptr (slB v) (slO v + i)) = l[i]? := by
  rcases h with ⟨rfl, rfl⟩ | ⟨b, o, c, cs, rfl, hc, hb, hl⟩
  · simp at hi
  · rcases hl with rfl | ⟨h1, h2⟩
    · simp at hi
    · show zhl H (ptr b (o + i)) = _
      rw [zea hb]
      have : ((cs.drop o).take l.length)[i]? = l[i]? := by rw [h2]
      rw [List.getElem?_take, if_pos hi, List.getElem?_drop] at this
      exact this
theorem Seg.sub {H : Heap} {v : V} {l : List V} (h : Seg H v l) {lo hi : Option V} {a b : Nat} (hlo : zd5 0 b lo = some a) (hhi : ∀ c, l.length ≤ c → zd5 l.length c hi = some b) (h1 : a ≤ b) (h2 : b ≤ l.length) : ∃ w, zh7 1 v lo hi = some w ∧ Seg H w ((l.drop a).take (b - a)) ∧ (∀ x ∈ vb w, x ∈ vb v) ∧ w.isOne = true := by
  have hlen : ((l.drop a).take (b - a)).length = b - a := by simp; omega
  rcases h with ⟨rfl, rfl⟩ | ⟨blk, o, c, cs, rfl, hc, hb, hl⟩
  · simp only [List.length_nil] at h2 hhi
    have hb0 : b = 0 := by omega
    subst hb0
    have ha0 : a = 0 := by omega
    subst ha0
    exact ⟨.slice none 0 0, by simp [zh7, hhi 0 (Nat.le_refl _), hlo], .inl ⟨rfl, by simp⟩, fun x hx => hx, rfl⟩
  · refine ⟨zp1 blk o 1 a b c 1, ?_, ?_, ?_, ?_⟩
    · simp only [zh7, hhi c hc, hlo]
      simp
    · unfold zp1
      split
      · rename_i hca
        have : b = a := by omega
        subst this
        refine .inr ⟨blk, o, c - b, cs, by simp, by simp, hb, .inl (by simp)⟩
      · refine .inr ⟨blk, o + a * 1, c - a, cs, by rw [hlen], by rw [hlen]; omega, hb, ?_⟩
        rcases hl with rfl | ⟨q1, q2⟩
        · left; simp
        · right
          rw [hlen]
          refine ⟨by omega, ?_⟩
          conv => rhs; rw [← q2]
          rw [List.drop_take, List.take_take, List.drop_drop, Nat.mul_one]
          congr 1
          omega
    · unfold zp1; split <;> simp
    · unfold zp1; split <;> rfl
theorem zb8 {zero : List V} {parts : List (Nat × Nat × V)} (h : zero.all zno = true) : build zero parts = (zef zero parts).map fun cs => .agg cs.toArray := by
  simp only [build, h, if_true]
  cases zef zero parts <;> rfl
theorem zx (cs : List V) : zef cs [] = some cs := rfl
theorem zo {cs : List V} {off : Nat} {v : V} {rest : List (Nat × Nat × V)} (hv : v.isOne = true) (h : off < cs.length) : zef cs ((off, 1, v) :: rest) = zef (cs.set off v) rest := by
  have hc : v.cells.toList = [v] := by rw [z8f hv]
  have hs : v.cells.size = 1 := by rw [z8f hv]; rfl
  simp only [zef, hc, hs]
  rw [if_pos (by simp [hv]; omega)]
  congr 1
  simp only [splice, List.length_singleton]
  rw [List.set_eq_take_append_cons_drop, if_pos h]
  rfl
theorem zbi {cs : List V} {off : Nat} {a : Option Addr} {n c : Nat} {rest : List (Nat × Nat × V)} (h : off < cs.length) : zef cs ((off, 1, .slice a n c) :: rest) = zef (cs.set off (.slice a n c)) rest := zo rfl h
theorem zbj {cs : List V} {off : Nat} {k : IntKind} {n : Int} {rest : List (Nat × Nat × V)} (h : off < cs.length) : zef cs ((off, 1, .int k n) :: rest) = zef (cs.set off (.int k n)) rest := zo rfl h
theorem zbk {cs : List V} {off : Nat} {s : ByteArray} {rest : List (Nat × Nat × V)} (h : off < cs.length) : zef cs ((off, 1, .string s) :: rest) = zef (cs.set off (.string s)) rest := zo rfl h
theorem z5 {cs : List V} {off : Nat} {b : Bool} {rest : List (Nat × Nat × V)} (h : off < cs.length) : zef cs ((off, 1, .bool b) :: rest) = zef (cs.set off (.bool b)) rest := zo rfl h
theorem zbl {cs : List V} {off : Nat} {a : Option Addr} {rest : List (Nat × Nat × V)} (h : off < cs.length) : zef cs ((off, 1, .pointer a) :: rest) = zef (cs.set off (.pointer a)) rest := zo rfl h
theorem zbm {cs : List V} {off : Nat} {a : Option Nat} {rest : List (Nat × Nat × V)} (h : off < cs.length) : zef cs ((off, 1, .map a) :: rest) = zef (cs.set off (.map a)) rest := zo rfl h
theorem z9 {cs vs : List V} {off n : Nat} {rest : List (Nat × Nat × V)} (hv : vs.all Value.isOne = true) (hn : vs.length = n) (h : off + n ≤ cs.length) : zef cs ((off, n, .agg vs.toArray) :: rest) = zef (splice cs off vs) rest := by
  have hc : (Value.agg vs.toArray).cells.toList = vs := by simp [Value.cells]
  have hs : (Value.agg vs.toArray).cells.size = n := by simp [Value.cells, hn]
  simp only [zef, hc, hs]
  rw [if_pos (by simp [hv]; omega)]
theorem zb6 (H : Heap) : z57 H 1 = H.push none := rfl
theorem zbn (H : Heap) : z57 H 2 = (H.push none).push none := rfl
theorem z6 (H : Heap) : zej H [] = true := rfl
theorem zgp {H : Heap} {b : Nat} {bs : List Nat} (h : H.get b = none) (hl : b < H.next) : zej H (b :: bs) = zej H bs := by
  have : Nat.blt b H.next = true := by simpa [Nat.blt_eq] using hl
  simp [zej, h, this]
theorem zgq {id size len : Nat} {zero cs : List V} {parts : List (Nat × Nat × V)} {H : Heap} {Q : V → Heap → Prop} (h : H.get id = none) (hl : id < H.next) (hz : zero.all zno = true) (hf : zef zero parts = some cs) (hQ : Q (slc id 0 size len len) (H.set id (some (.cells true cs)))) : wp (flt id (zd7 size len zero parts)) Q H := by
  have e : zd7 size len zero parts ⟨[]⟩ = some (slc 0 0 size len len, ⟨[some (.cells true cs)]⟩) := by
    simp only [zd7, hz, if_true, hf]; rfl
  have : Nat.blt id H.next = true := by simpa [Nat.blt_eq] using hl
  exact ⟨_, _, by simp only [flt, e, h, this, cond_true, z4w], hQ⟩
theorem zbp1 {α : Type} [Flat α] (x : α) (zero : List V) (hz : zero = Flat.enc x) : ∀ n, rep n zero = zba (List.replicate n x)
  | 0 => rfl
  | n + 1 => by rw [rep, zbp1 x zero hz n, List.replicate_succ, zfi, hz]
end Go.AM

/- Slices that are copied; makes that float. -/
namespace Go.AM
end Go.AM

/- Own slices of flat things. -/
namespace Go.AM
section
variable {α : Type} [Flat α]
def zcj (H : Heap) (v : V) (xs : List α) : Prop := (v = .slice none 0 0 ∧ xs = []) ∨ ∃ b, v = slc b 0 (Flat.size α) xs.length xs.length ∧ H.get b = some (.cells true (zba xs))
theorem zcj.nil (H : Heap) : zcj H (.slice none 0 0) ([] : List α) := .inl ⟨rfl, rfl⟩
theorem zcj.keep {S : List Nat} {H H' : Heap} {v : V} {l : List α} (h : zcj H v l) (hk : Keeps S H H') (hn : ∀ b ∈ vb v, b ∉ S) : zcj H' v l := by
  rcases h with h | ⟨b, rfl, hb⟩
  · exact .inl h
  · exact .inr ⟨b, rfl, hk.get hb (hn b (by simp))⟩
theorem zcj.keep0 {H H' : Heap} {v : V} {l : List α} (h : zcj H v l) (hk : Keeps [] H H') : zcj H' v l := h.keep hk (by simp)
theorem zcj.len {H : Heap} {v : V} {l : List α} (h : zcj H v l) : zb9 v = some (i64 l.length) := by
  rcases h with ⟨rfl, rfl⟩ | ⟨b, rfl, _⟩ <;> rfl
theorem zcj.lt {H : Heap} {v : V} {l : List α} (h : zcj H v l) : ∀ b ∈ vb v, b < H.next := by
  rcases h with ⟨rfl, rfl⟩ | ⟨b, rfl, hb⟩
  · simp
  · simpa using Heap.get_lt hb
theorem zcj.isOne {H : Heap} {v : V} {l : List α} (h : zcj H v l) : v.isOne = true := by
  rcases h with ⟨rfl, rfl⟩ | ⟨b, rfl, _⟩ <;> rfl
theorem zcj.sl {H : Heap} {v : V} {l : List α} (h : zcj H v l) : Sl H v l := by
  rcases h with ⟨rfl, rfl⟩ | ⟨b, rfl, hb⟩
  · exact Sl.nil H
  · refine .inr ⟨b, 0, Flat.size α, l.length, rfl, Nat.le_refl _, Heap.get_lt hb, .inr ⟨true, zba l, hb, by rw [zd0]; omega, ?_⟩, .inr rfl⟩
    rw [List.drop_zero, List.take_of_length_le (by rw [zd0]; exact Nat.le_refl _)]
theorem zd1 {H : Heap} {xs : List α} {n m : Nat} (hs : Flat.size α = n) (hm : xs.length = m) : zcj (H.push (some (.cells true (zba xs)))) (slc H.next 0 n m m) xs := by
  subst hs hm; exact .inr ⟨_, rfl, Heap.get_push_self _ _⟩
theorem z34 {v : V} {xs ys : List α} {n m bytes : Nat} {new : Option (List V)} {H : Heap} {Q : V → Heap → Prop} (hs : Flat.size α = n) (hv : zcj H v xs) (hm : ys.length = m) (hnew : ys ≠ [] → new = some (zba ys)) (hb : (xs.length + m) * bytes ≤ 35184372088832) (hb2 : xs.length + m ≤ 35184372088832)
    (hQ : ∀ w H', zcj H' w (xs ++ ys) → Keeps (vb v) H H' → (∀ b ∈ vb w, b ∈ vb v ∨ H.next ≤ b) → Q w H') : wp (zr4 n bytes v m new) Q H := by
  subst hs hm
  by_cases h0 : ys = []
  · subst h0
    have hf : ∃ x len cap, v = .slice x len cap := by
      rcases hv with ⟨rfl, _⟩ | ⟨b, rfl, _⟩
      · exact ⟨_, _, _, rfl⟩
      · exact ⟨_, _, _, rfl⟩
    obtain ⟨x, len, cap, rfl⟩ := hf
    exact ⟨_, H, rfl, hQ _ _ (by rw [List.append_nil]; exact hv) (Keeps.refl _ _) (fun b hb => .inl hb)⟩
  have hne : ys.length ≠ 0 := fun h => h0 (List.eq_nil_of_length_eq_zero h)
  rw [hnew h0]
  have hone := zbpz ys
  have hel := zd0 ys
  rcases hv with ⟨rfl, rfl⟩ | ⟨b, rfl, hg⟩
  · have e1 : zcw H (Flat.size α) (.slice none 0 0) = some [] := rfl
    have e2 : zxk H (Flat.size α) (.slice none 0 0) = some H := rfl
    refine ⟨slc H.next 0 (Flat.size α) ys.length ys.length, H.push (some (.cells true (zba ys))), ?_, hQ _ _ ?_ (Keeps.push _ _ _) (fun b hb => .inr (by simp at hb; omega))⟩
    · simp only [List.length_nil, Nat.zero_add] at hb hb2
      simp only [zr4, hne, if_false, e1, e2]
      rw [if_pos ⟨by rw [Nat.zero_add]; exact hb, by omega, hone, hel⟩]
      simp
    · exact zd1 rfl (by simp)
  · have hcs : zcw H (Flat.size α) (slc b 0 (Flat.size α) xs.length xs.length) = some (zba xs) := by
      simp only [zcw]
      split
      · rename_i h1; rw [List.eq_nil_of_length_eq_zero h1]; rfl
      · have e : (zba xs).length = xs.length * Flat.size α := zd0 xs
        simp only [cellsAt, hg, Nat.zero_add, List.drop_zero]
        rw [if_pos (by omega), List.take_of_length_le (by omega)]
    refine ⟨slc H.next 0 (Flat.size α) (xs.length + ys.length) (xs.length + ys.length), (H.set b none).push (some (.cells true (zba xs ++ zba ys))), ?_, hQ _ _ ?_ ?_ (fun c hc => .inr (by simp at hc; omega))⟩
    · simp only [zr4, hne, if_false, hcs, zxk, hg, if_true]
      rw [if_pos ⟨hb, hb2, hone, hel⟩]
      simp
    · rw [← zz7]
      have := zd1 (H := H.set b none) (xs := xs ++ ys) (n := Flat.size α) (m := xs.length + ys.length) rfl (by simp)
      simpa using this
    · exact ⟨by simp, fun c hc hn => by rw [Heap.get_push_lt (by simpa using hc), Heap.get_set_ne _ _ _ (by simpa using hn)]⟩
theorem zbp2 {H : Heap} {v : V} {xs : List α} {n : Nat} (hs : Flat.size α = n) (h : Sl H v xs) (hne : xs ≠ []) : ∃ a c, v = .slice a xs.length c ∧ zcw H n v = some (zba xs) := by
  subst hs
  rcases h with ⟨rfl, e⟩ | ⟨bb, o, u, c, rfl, hc, _, hl2, _⟩
  · exact absurd e hne
  · rcases hl2 with e | ⟨rw, cs, hg, q1, q2⟩
    · exact absurd e hne
    · refine ⟨_, _, rfl, ?_⟩
      have hn : xs.length ≠ 0 := fun h => hne (List.eq_nil_of_length_eq_zero h)
      simp only [zcw, hn, if_false, cellsAt, hg]
      rw [if_pos q1, q2]
theorem zfk {v x : V} {xs ys : List α} {n bytes : Nat} {H : Heap} {Q : V → Heap → Prop} (hs : Flat.size α = n) (hv : zcj H v xs) (hx : Sl H x ys) (hb : (xs.length + ys.length) * bytes ≤ 35184372088832) (hb2 : xs.length + ys.length ≤ 35184372088832)
    (hQ : ∀ w H', zcj H' w (xs ++ ys) → Keeps (vb v) H H' → (∀ b ∈ vb w, b ∈ vb v ∨ H.next ≤ b) → Q w H') : wp (ze6 n bytes v x) Q H := by
  by_cases h0 : ys = []
  · subst h0
    have hf : ∃ a c, x = .slice a 0 c := by
      rcases hx with ⟨rfl, _⟩ | ⟨bb, o, u, c, rfl, _⟩
      · exact ⟨_, _, rfl⟩
      · exact ⟨_, _, rfl⟩
    obtain ⟨a, c, rfl⟩ := hf
    exact z34 (ys := ([] : List α)) hs hv rfl (fun h => absurd rfl h) hb hb2 hQ
  · obtain ⟨a, c, rfl, hc⟩ := zbp2 hs hx h0
    exact z34 hs hv rfl (fun _ => hc) hb hb2 hQ
theorem zrk {v : V} {xs ys : List α} {n m bytes : Nat} {zero : List V} {parts : List (Nat × Nat × V)} {H : Heap} {Q : V → Heap → Prop} (hs : Flat.size α = n) (hv : zcj H v xs) (hz : zero.all zno = true) (hf : zef zero parts = some (zba ys)) (hm : ys.length = m) (hb : (xs.length + m) * bytes ≤ 35184372088832) (hb2 : xs.length + m ≤ 35184372088832)
    (hQ : ∀ w H', zcj H' w (xs ++ ys) → Keeps (vb v) H H' → (∀ b ∈ vb w, b ∈ vb v ∨ H.next ≤ b) → Q w H') : wp (zd7 n m zero parts) (fun x H1 => wp (ze6 n bytes v x) Q H1) H := by
  subst hm
  refine (zgv hz hf).mpr ?_
  have hk := Keeps.push [] H (some (.cells true (zba ys)))
  refine zfk hs (hv.keep0 hk) (zd1 hs rfl).sl hb hb2 fun w H' h1 h2 h3 => hQ w H' h1 ?_ fun b hb => (h3 b hb).imp id fun q => by simp at q; omega
  exact ⟨by have := h2.next; simp at this; omega, fun c hc hn => by rw [h2.same c (by simp; omega) hn, Heap.get_push_lt hc]⟩
end
theorem zbiq (l : List (BitVec 8)) : zba l = l.map B := by
  induction l with
  | nil => rfl
  | cons x l ih => rw [zfi, ih]; rfl
theorem zbl0 {v : V} {xs : List (BitVec 8)} {s : ByteArray} {H : Heap} {Q : V → Heap → Prop} (hv : zcj H v xs) (hb : xs.length + s.size ≤ 35184372088832)
    (hQ : ∀ w H', zcj H' w (xs ++ bv s) → Keeps (vb v) H H' → (∀ b ∈ vb w, b ∈ vb v ∨ H.next ≤ b) → Q w H') : wp (appS v (.string s)) Q H := by
  refine z34 (ys := bv s) (n := 1) rfl hv (zb7 s) (fun _ => ?_) (by omega) hb hQ
  rw [zow, zbiq]
theorem zu6 {v : V} {l : List (BitVec 8)} {H : Heap} {Q : V → Heap → Prop} (hv : zcj H v l) (hQ : Q (.string (sv l)) H) : wp (b2s v) Q H := by
  refine zbuc (l := l) ?_ hQ
  rw [← zbiq]
  rcases hv with ⟨rfl, rfl⟩ | ⟨b, rfl, hg⟩
  · exact .inl ⟨rfl, rfl⟩
  · refine .inr ⟨b, ?_, hg⟩
    have e : (zba l).length = l.length := by rw [zd0]; exact Nat.mul_one _
    rw [e]; rfl
end Go.AM

/- The rules that a walk always has, as two lemmas. -/
namespace Go.AM
theorem Z1 : type_of% (And.intro (And.intro (And.intro (And.intro (And.intro (And.intro @zbp @zcg) (And.intro @zk @zbs)) (And.intro (And.intro @zz @wp_ret) (And.intro @zdi @zm2))) (And.intro (And.intro (And.intro @zbsk @zew) (And.intro @zbew @zfh)) (And.intro (And.intro @zbb9 @zk2) (And.intro @zk3 (And.intro @zbnb @zbnc))))) (And.intro (And.intro (And.intro (And.intro @zbil @zbim) (And.intro @gd_t @gd_f)) (And.intro (And.intro @zbx2 @zbx3) (And.intro @zbm4 @zbx0))) (And.intro (And.intro (And.intro @zbx1 @zbsm) (And.intro @zbsn @zbso)) (And.intro (And.intro @zbsp @zbm8) (And.intro @zbm9 (And.intro @zbx4 @zbx5)))))) (And.intro (And.intro (And.intro (And.intro (And.intro @zbna @zbex) (And.intro @zbaz @zba0)) (And.intro (And.intro @z6m @zgl) (And.intro @zhw @Nat.zero_add))) (And.intro (And.intro (And.intro @Nat.add_zero @zii) (And.intro @zxy @zwo)) (And.intro (And.intro @zbik @zks) (And.intro @zwm (And.intro @z32 @i64_in))))) (And.intro (And.intro (And.intro (And.intro @zbnd @zbne) (And.intro @zge @zbm6)) (And.intro (And.intro @z8m @zwn) (And.intro @zbnf (And.intro @zbng @if_true.{1})))) (And.intro (And.intro (And.intro @zz6 @zxw) (And.intro @z30 @zbnh)) (And.intro (And.intro @zbni @zbin) (And.intro @zbio (And.intro @List.getElem?_cons_zero.{0} @List.getElem?_cons_succ.{0}))))))) := (And.intro (And.intro (And.intro (And.intro (And.intro (And.intro @zbp @zcg) (And.intro @zk @zbs)) (And.intro (And.intro @zz @wp_ret) (And.intro @zdi @zm2))) (And.intro (And.intro (And.intro @zbsk @zew) (And.intro @zbew @zfh)) (And.intro (And.intro @zbb9 @zk2) (And.intro @zk3 (And.intro @zbnb @zbnc))))) (And.intro (And.intro (And.intro (And.intro @zbil @zbim) (And.intro @gd_t @gd_f)) (And.intro (And.intro @zbx2 @zbx3) (And.intro @zbm4 @zbx0))) (And.intro (And.intro (And.intro @zbx1 @zbsm) (And.intro @zbsn @zbso)) (And.intro (And.intro @zbsp @zbm8) (And.intro @zbm9 (And.intro @zbx4 @zbx5)))))) (And.intro (And.intro (And.intro (And.intro (And.intro @zbna @zbex) (And.intro @zbaz @zba0)) (And.intro (And.intro @z6m @zgl) (And.intro @zhw @Nat.zero_add))) (And.intro (And.intro (And.intro @Nat.add_zero @zii) (And.intro @zxy @zwo)) (And.intro (And.intro @zbik @zks) (And.intro @zwm (And.intro @z32 @i64_in))))) (And.intro (And.intro (And.intro (And.intro @zbnd @zbne) (And.intro @zge @zbm6)) (And.intro (And.intro @z8m @zwn) (And.intro @zbnf (And.intro @zbng @if_true.{1})))) (And.intro (And.intro (And.intro @zz6 @zxw) (And.intro @z30 @zbnh)) (And.intro (And.intro @zbni @zbin) (And.intro @zbio (And.intro @List.getElem?_cons_zero.{0} @List.getElem?_cons_succ.{0})))))))
theorem Z2 : type_of% (And.intro (And.intro (And.intro (And.intro (And.intro (And.intro @zl @zr) (And.intro @zcr @zeh)) (And.intro (And.intro @eq_self.{1} @true_and) (And.intro @zcu @zck))) (And.intro (And.intro (And.intro @zf0 @zc6) (And.intro @zby @zbu)) (And.intro (And.intro @Heap.get_push_eq @Heap.get_push_lt) (And.intro @Heap.get_set_eq (And.intro @Heap.get_set_ne' @Heap.next_push'))))) (And.intro (And.intro (And.intro (And.intro @Heap.next_set' @Heap.set_push_lt) (And.intro @Heap.set_push_eq @Heap.set_set)) (And.intro (And.intro @zbz @zb0) (And.intro @zbf (And.intro @zb3 @zb4)))) (And.intro (And.intro (And.intro @z4 @zbh) (And.intro @zb5 @zbq)) (And.intro (And.intro @zbe @zbv) (And.intro @zbw (And.intro @zbo @zbx)))))) (And.intro (And.intro (And.intro (And.intro (And.intro @List.set_cons_zero.{0} @List.set_cons_succ.{0}) (And.intro @List.length_cons.{0} @List.length_nil.{0})) (And.intro (And.intro @List.drop_succ_cons.{0} @List.drop_zero.{0}) (And.intro @List.take_succ_cons.{0} @List.take_zero.{0}))) (And.intro (And.intro (And.intro @List.nil_append.{0} @List.cons_append.{0}) (And.intro @zbb @zbc)) (And.intro (And.intro @z0 @zq) (And.intro @zm (And.intro @zbd @zb1))))) (And.intro (And.intro (And.intro (And.intro @zbg @zc8) (And.intro @zcm @zb2)) (And.intro (And.intro @zb8 @zx) (And.intro @zo (And.intro @z9 @Option.map_some.{0,0})))) (And.intro (And.intro (And.intro @zb6 @zbn) (And.intro @z6 @zbi)) (And.intro (And.intro @zbj @zbk) (And.intro @z5 (And.intro @zbl @zbm))))))) := (And.intro (And.intro (And.intro (And.intro (And.intro (And.intro @zl @zr) (And.intro @zcr @zeh)) (And.intro (And.intro @eq_self.{1} @true_and) (And.intro @zcu @zck))) (And.intro (And.intro (And.intro @zf0 @zc6) (And.intro @zby @zbu)) (And.intro (And.intro @Heap.get_push_eq @Heap.get_push_lt) (And.intro @Heap.get_set_eq (And.intro @Heap.get_set_ne' @Heap.next_push'))))) (And.intro (And.intro (And.intro (And.intro @Heap.next_set' @Heap.set_push_lt) (And.intro @Heap.set_push_eq @Heap.set_set)) (And.intro (And.intro @zbz @zb0) (And.intro @zbf (And.intro @zb3 @zb4)))) (And.intro (And.intro (And.intro @z4 @zbh) (And.intro @zb5 @zbq)) (And.intro (And.intro @zbe @zbv) (And.intro @zbw (And.intro @zbo @zbx)))))) (And.intro (And.intro (And.intro (And.intro (And.intro @List.set_cons_zero.{0} @List.set_cons_succ.{0}) (And.intro @List.length_cons.{0} @List.length_nil.{0})) (And.intro (And.intro @List.drop_succ_cons.{0} @List.drop_zero.{0}) (And.intro @List.take_succ_cons.{0} @List.take_zero.{0}))) (And.intro (And.intro (And.intro @List.nil_append.{0} @List.cons_append.{0}) (And.intro @zbb @zbc)) (And.intro (And.intro @z0 @zq) (And.intro @zm (And.intro @zbd @zb1))))) (And.intro (And.intro (And.intro (And.intro @zbg @zc8) (And.intro @zcm @zb2)) (And.intro (And.intro @zb8 @zx) (And.intro @zo (And.intro @z9 @Option.map_some.{0,0})))) (And.intro (And.intro (And.intro @zb6 @zbn) (And.intro @z6 @zbi)) (And.intro (And.intro @zbj @zbk) (And.intro @z5 (And.intro @zbl @zbm)))))))
theorem Z3 : type_of% (And.intro @Heap.next_push' @Heap.next_set') := And.intro @Heap.next_push' @Heap.next_set'
end Go.AM

/- Maps that are walked in an order that nobody knows: what is needed of heaps, worlds and lists. -/
namespace Go.AM
open Go.RowKit (Below)
open Go.ChangeMaps (setBlock)
variable {P : Program} {N : Nat} {w₀ : World} {ρ : Ren} {H : Heap} {w : World} {σ : zp} {n : Nat}
def Heap.cut (n : Nat) (H : Heap) : Heap := ⟨(List.range H.next).map fun b => if b < n then H.get b else none⟩
theorem Heap.cut_next (n : Nat) (H : Heap) : (H.cut n).next = H.next := by simp [Heap.cut, Heap.next]
theorem Heap.cut_get (n : Nat) (H : Heap) (b : Nat) : (H.cut n).get b = if b < n then H.get b else none := by
  have key : ∀ x : Option Blk, (match (some x : Option (Option Blk)) with | some (some x) => some x | _ => none) = x := fun x => by cases x <;> rfl
  by_cases h : b < H.next
  · have e : (H.cut n).blk[b]? = some (if b < n then H.get b else none) := by simp [Heap.cut, h]
    show (match (H.cut n).blk[b]? with | some (some x) => some x | _ => none) = _
    rw [e]
    exact key _
  · have e : (H.cut n).blk[b]? = none := List.getElem?_eq_none (by simp [Heap.cut]; omega)
    have e2 : H.get b = none := by
      show (match H.blk[b]? with | some (some x) => some x | _ => none) = none
      rw [List.getElem?_eq_none (by simpa [Heap.next] using h)]
    show (match (H.cut n).blk[b]? with | some (some x) => some x | _ => none) = _
    rw [e, e2]; simp
theorem Heap.cut_some {n : Nat} {H : Heap} {b : Nat} {x : Blk} (h : (H.cut n).get b = some x) : H.get b = some x ∧ b < n := by
  rw [Heap.cut_get] at h
  split at h
  · exact ⟨h, by assumption⟩
  · cases h
theorem Rel.cut (h : Rel N w₀ ρ H w) (n : Nat) : Rel N w₀ ρ (H.cut n) w :=
  ⟨h.below, h.big, fun b hb => h.dom b (by rwa [Heap.cut_next] at hb), h.base, fun b x hx => h.blk b x (Heap.cut_some hx).1, fun b b' x x' L L' hx hx' => h.inj b b' x x' L L' (Heap.cut_some hx).1 (Heap.cut_some hx').1⟩
theorem Ext.cut {ρ' : Ren} {H' : Heap} {w' : World} (h : Ext ρ H w ρ' H' w') (n : Nat) : Ext ρ H w ρ' (H'.cut n) w' :=
  ⟨h.le, h.same, by rw [Heap.cut_next]; exact h.next, h.apart, fun b x L hb => h.old b x L (Heap.cut_some hb).1⟩
theorem Rel.other (h : Rel N w₀ ρ H w) {c : Nat} (hc : N ≤ c) (hfree : ∀ b x M, H.get b = some x → ρ b = some M → M.blk ≠ c) (w' : World) (hos : w'.os = w.os) (htape : w'.tape = w.tape) (hout : w'.output = w.output)
    (hsz : w'.heap.size = w.heap.size) (hold : ∀ k, k ≠ c → w'.heap[k]? = w.heap[k]?) : Rel N w₀ ρ H w' :=
  ⟨h.below.trans ⟨hos, htape, hout, by omega, fun k hk => hold k (by omega)⟩, by rw [hsz]; exact h.big, h.dom, h.base, fun b x hx => by
    obtain ⟨L, hL, hr⟩ := h.blk b x hx
    exact ⟨L, hL, hr.mono (Ren.le.refl _) (hold _ (hfree b x L hx hL))⟩, h.inj⟩
theorem zbp3 {b k : Nat} {o : Obj} (hk : k ≠ b) : (setBlock w b o).heap[k]? = w.heap[k]? := by
  show (w.heap.setIfInBounds b o)[k]? = _
  exact Array.getElem?_setIfInBounds_ne (fun e => hk e.symm)
theorem zbko {b : Nat} {o : Obj} : (setBlock w b o).heap.size = w.heap.size := by simp [setBlock]
theorem Rel.setBlock (h : Rel N w₀ ρ H w) {c : Nat} (hc : N ≤ c) (hfree : ∀ b x M, H.get b = some x → ρ b = some M → M.blk ≠ c) (o : Obj) : Rel N w₀ ρ H (setBlock w c o) :=
  h.other hc hfree _ rfl rfl rfl zbko fun _ hk => zbp3 hk
theorem Ext.drew {ρ' : Ren} {H' : Heap} {w' : World} (h : Ext ρ H w ρ' H' w') (k : Nat) : Ext ρ H w ρ' H' { w' with drawn := k } := ⟨h.le, h.same, h.next, h.apart, h.old⟩
end Go.AM

/- Slices among the cells of other things. -/
namespace Go.AM
structure In (α : Type) where
  v : V
  xs : List α
  one : v.isOne = true
instance {α : Type} : Inhabited (In α) := ⟨⟨.slice none 0 0, [], rfl⟩⟩
instance {α : Type} : Flat (In α) := ⟨1, fun a => [a.v], fun _ => rfl, fun a => by simp [a.one], by decide⟩
structure Sl2 {α : Type} [Flat α] (H : Heap) (v : V) (xs : List (In α)) : Prop where
  out : Sl H v xs
  inn : ∀ x ∈ xs, Sl H x.v x.xs
theorem Sl2.keep0 {α : Type} [Flat α] {H H' : Heap} {v : V} {xs : List (In α)} (h : Sl2 H v xs) (hk : Keeps [] H H') : Sl2 H' v xs := ⟨h.out.keep0 hk, fun x hx => (h.inn x hx).keep0 hk⟩
theorem Sl2.at {α : Type} [Flat α] {H : Heap} {v : V} {xs : List (In α)} (h : Sl2 H v xs) {i : Nat} (hi : i < xs.length) : Sl H (xs.getD i default).v (xs.getD i default).xs := by
  rw [List.getD_eq_getElem?_getD, List.getElem?_eq_getElem hi]
  exact h.inn _ (List.getElem_mem hi)
theorem Sl2.get {α : Type} [Flat α] {H : Heap} {v : V} {xs : List (In α)} (h : Sl2 H v xs) {i : Nat} (hi : i < xs.length) : zv 1 v (i64 i) = some (ptr (slB v) (slO v + i)) ∧ zhl H (ptr (slB v) (slO v + i)) = some (xs.getD i default).v := by
  have h1 := h.out.addr1 rfl (k := .i64) (i := i) (by omega) (by omega)
  rw [Int.toNat_natCast] at h1
  exact ⟨h1, by rw [h.out.cell1 rfl hi default]; rfl⟩
end Go.AM

/- Things on the heap that lie apart from each other. -/
namespace Go.AM
structure Thing where
  fp : List Nat
  P : Heap → Prop
  loc : ∀ {H H' : Heap}, H.next ≤ H'.next → (∀ b ∈ fp, H'.get b = H.get b) → P H → P H'
  lt : ∀ {H : Heap}, P H → ∀ b ∈ fp, b < H.next
def cel (d : Nat) (cs : List V) : Thing := ⟨[d], fun H => H.get d = some (.cells true cs), fun _ h p => by rw [h d (by simp)]; exact p, fun p b hb => by simp at hb; subst hb; exact Heap.get_lt p⟩
def own {α : Type} [Flat α] (v : V) (xs : List α) : Thing :=
  ⟨vb v, fun H => zcj H v xs, fun _ h p => by
    rcases p with p | ⟨b, rfl, hb⟩
    · exact .inl p
    · exact .inr ⟨b, rfl, by rw [h b (by simp)]; exact hb⟩, fun p => p.lt⟩
def view {α : Type} [Flat α] (v : V) (xs : List α) : Thing :=
  ⟨vb v, fun H => Sl H v xs, fun hn h p => by
    rcases p with p | ⟨b, o, u, c, rfl, hc, hb, hl, hu⟩
    · exact .inl p
    · refine .inr ⟨b, o, u, c, rfl, hc, by omega, ?_, hu⟩
      rw [h b (by simp)]; exact hl, fun p b hb => by
    rcases p with ⟨rfl, rfl⟩ | ⟨b', o, u, c, rfl, hc, hb', hl, hu⟩
    · simp at hb
    · simp at hb; omega⟩
structure Hp (H0 H : Heap) (L : List Thing) : Prop where
  keeps : Keeps [] H0 H
  new : ∀ t ∈ L, ∀ b ∈ t.fp, H0.next ≤ b
  all : ∀ t ∈ L, t.P H
  apart : L.Pairwise fun t u => ∀ b ∈ t.fp, b ∉ u.fp
theorem Hp.start (H : Heap) : Hp H H [] := ⟨Keeps.refl _ _, by simp, by simp, List.Pairwise.nil⟩
variable {H0 H H' : Heap} {L : List Thing} {t t' : Thing}
theorem Hp.keep (h : Hp H0 H L) {S : List Nat} (hk : Keeps S H H') (hs : ∀ b ∈ S, H0.next ≤ b ∧ ∀ t ∈ L, b ∉ t.fp) : Hp H0 H' L :=
  ⟨h.keeps.trans hk (fun b hb hm => by have := (hs b hm).1; omega), h.new, fun t ht => t.loc hk.next (fun b hb => hk.same b (t.lt (h.all t ht) b hb) fun q => (hs b q).2 t ht hb) (h.all t ht), h.apart⟩
theorem Hp.keep0 (h : Hp H0 H L) (hk : Keeps [] H H') : Hp H0 H' L := h.keep hk (by simp)
theorem Hp.push (h : Hp H0 H L) (x : Option Blk) : Hp H0 (H.push x) L := h.keep0 (Keeps.push _ _ _)
theorem Hp.head (h : Hp H0 H (t :: L)) : t.P H := h.all t (by simp)
theorem Hp.tail (h : Hp H0 H (t :: L)) : Hp H0 H L := ⟨h.keeps, fun u hu => h.new u (by simp [hu]), fun u hu => h.all u (by simp [hu]), (List.pairwise_cons.1 h.apart).2⟩
theorem Hp.drop (h : Hp H0 H L) (n : Nat) : Hp H0 H (L.drop n) := ⟨h.keeps, fun u hu => h.new u (List.mem_of_mem_drop hu), fun u hu => h.all u (List.mem_of_mem_drop hu), h.apart.sublist (List.drop_sublist n L)⟩
theorem Hp.sub {L' : List Thing} (h : Hp H0 H L) (hs : L'.Sublist L) : Hp H0 H L' := ⟨h.keeps, fun u hu => h.new u (hs.subset hu), fun u hu => h.all u (hs.subset hu), h.apart.sublist hs⟩
theorem Hp.perm {L' : List Thing} (h : Hp H0 H L) (hp : L.Perm L') : Hp H0 H L' :=
  ⟨h.keeps, fun u hu => h.new u (hp.mem_iff.2 hu), fun u hu => h.all u (hp.mem_iff.2 hu), (hp.pairwise_iff (R := fun t u : Thing => ∀ b ∈ t.fp, b ∉ u.fp) (fun h b hb hb' => h b hb' hb)).1 h.apart⟩
theorem Hp.at (h : Hp H0 H L) {i : Nat} (hi : L[i]? = some t) : t.P H := h.all t (List.mem_of_getElem? hi)
theorem Hp.newAt (h : Hp H0 H L) {i : Nat} (hi : L[i]? = some t) : ∀ b ∈ t.fp, H0.next ≤ b := h.new t (List.mem_of_getElem? hi)
theorem Hp.ltAt (h : Hp H0 H L) {i : Nat} (hi : L[i]? = some t) : ∀ b ∈ t.fp, b < H.next := t.lt (h.at hi)
theorem zbir {α : Type} : ∀ {L : List α} {i : Nat} {t : α}, L[i]? = some t → L.Perm (t :: L.eraseIdx i)
  | [], i, t, h => by simp at h
  | x :: l, 0, t, h => by simp at h; subst h; exact List.Perm.refl _
  | x :: l, i + 1, t, h => by
    have := zbir (L := l) (i := i) (t := t) (by simpa using h)
    exact (List.Perm.cons x this).trans (List.Perm.swap _ _ _)
theorem zbp4 {α : Type} : ∀ {L : List α} {i : Nat} {t u : α}, L[i]? = some t → (u :: L.eraseIdx i).Perm (L.set i u)
  | [], i, t, u, h => by simp at h
  | x :: l, 0, t, u, h => by simp
  | x :: l, i + 1, t, u, h => by
    have := zbp4 (L := l) (i := i) (t := t) (u := u) (by simpa using h)
    exact (List.Perm.swap _ _ _).trans (List.Perm.cons x this)
theorem Hp.front (h : Hp H0 H L) {i : Nat} (hi : L[i]? = some t) : Hp H0 H (t :: L.eraseIdx i) := h.perm (zbir hi)
theorem Hp.apart2 (h : Hp H0 H L) {i j : Nat} {u : Thing} (hi : L[i]? = some t) (hj : L[j]? = some u) (hne : i ≠ j) : ∀ b ∈ t.fp, b ∉ u.fp := by
  have hr := List.pairwise_iff_getElem.1 h.apart
  obtain ⟨a1, a2⟩ := List.getElem?_eq_some_iff.1 hi
  obtain ⟨b1, b2⟩ := List.getElem?_eq_some_iff.1 hj
  rcases Nat.lt_or_gt_of_ne hne with q | q
  · have := hr i j a1 b1 q; rw [a2, b2] at this; exact this
  · have := hr j i b1 a1 q; rw [a2, b2] at this; exact fun b hb hb' => this b hb' hb
theorem Hp.add (h : Hp H0 H L) (hk : Keeps [] H H') (ht : t.P H') (hn : ∀ b ∈ t.fp, H.next ≤ b) : Hp H0 H' (t :: L) := by
  have h1 := h.keep0 hk
  refine ⟨h1.keeps, fun u hu => ?_, fun u hu => ?_, List.pairwise_cons.2 ⟨fun u hu b hb hb' => ?_, h1.apart⟩⟩
  · rcases List.mem_cons.1 hu with rfl | hu
    · exact fun b hb => Nat.le_trans h.keeps.next (hn b hb)
    · exact h.new u hu
  · rcases List.mem_cons.1 hu with rfl | hu
    · exact ht
    · exact h1.all u hu
  · have := hn b hb
    have := u.lt (h.all u hu) b hb'
    omega
theorem Hp.newc (h : Hp H0 H L) (cs : List V) : Hp H0 (H.push (some (.cells true cs))) (cel H.next cs :: L) :=
  h.add (Keeps.push _ _ _) (Heap.get_push_self _ _) (by
    intro b hb
    have : b = H.next := by simpa [cel] using hb
    omega)
theorem Hp.newo {α : Type} [Flat α] (h : Hp H0 H L) {n m : Nat} (xs : List α) (hs : Flat.size α = n) (hm : xs.length = m) : Hp H0 (H.push (some (.cells true (zba xs)))) (own (slc H.next 0 n m m) xs :: L) :=
  h.add (Keeps.push _ _ _) (zd1 hs hm) (by
    intro b hb
    have : b = H.next := by simpa [own] using hb
    omega)
theorem Hp.nilo {α : Type} [Flat α] (h : Hp H0 H L) : Hp H0 H (own (.slice none 0 0) ([] : List α) :: L) :=
  h.add (Keeps.refl _ _) (zcj.nil H) (by simp [own])
theorem Hp.step1 (h : Hp H0 H (t :: L)) (hk : Keeps t.fp H H') (ht : t'.P H') (hn : ∀ b ∈ t'.fp, b ∈ t.fp ∨ H.next ≤ b) : Hp H0 H' (t' :: L) := by
  have hp := (List.pairwise_cons.1 h.apart).1
  have h1 : Hp H0 H' L := h.tail.keep hk fun b hb => ⟨h.new t (by simp) b hb, fun u hu => hp u hu b hb⟩
  refine ⟨h1.keeps, fun u hu => ?_, fun u hu => ?_, List.pairwise_cons.2 ⟨fun u hu b hb hb' => ?_, h1.apart⟩⟩
  · rcases List.mem_cons.1 hu with rfl | hu
    · intro b hb
      rcases hn b hb with q | q
      · exact h.new t (by simp) b q
      · exact Nat.le_trans h.keeps.next q
    · exact h1.new u hu
  · rcases List.mem_cons.1 hu with rfl | hu
    · exact ht
    · exact h1.all u hu
  · rcases hn b hb with q | q
    · exact hp u hu b q hb'
    · have := u.lt (h.all u (by simp [hu])) b hb'; omega
theorem Hp.step (h : Hp H0 H L) {i : Nat} (hi : L[i]? = some t) (hk : Keeps t.fp H H') (ht : t'.P H') (hn : ∀ b ∈ t'.fp, b ∈ t.fp ∨ H.next ≤ b) : Hp H0 H' (L.set i t') :=
  ((h.front hi).step1 hk ht hn).perm (zbp4 hi)
theorem Hp.steps {A A' : List Thing} (h : Hp H0 H (A ++ L)) {F : List Nat} (hk : Keeps F H H') (hF : ∀ b ∈ F, H.next ≤ b ∨ ∃ t ∈ A, b ∈ t.fp) (ha : ∀ t ∈ A', t.P H') (hp : A'.Pairwise fun t u => ∀ b ∈ t.fp, b ∉ u.fp)
    (hn : ∀ t ∈ A', ∀ b ∈ t.fp, H.next ≤ b ∨ ∃ u ∈ A, b ∈ u.fp) : Hp H0 H' (A' ++ L) := by
  obtain ⟨p1, p2, p3⟩ := List.pairwise_append.1 h.apart
  have hL : Hp H0 H L := h.sub (List.sublist_append_right _ _)
  have hA0 : ∀ t ∈ A, ∀ b ∈ t.fp, H0.next ≤ b := fun t ht => h.new t (by simp [ht])
  have h1 : Hp H0 H' L := hL.keep hk fun b hb => by
    rcases hF b hb with q | ⟨t, ht, hb'⟩
    · exact ⟨Nat.le_trans h.keeps.next q, fun u hu hb' => by have := u.lt (hL.all u hu) b hb'; omega⟩
    · exact ⟨hA0 t ht b hb', fun u hu => p3 t ht u hu b hb'⟩
  refine ⟨h1.keeps, fun u hu => ?_, fun u hu => ?_, List.pairwise_append.2 ⟨hp, h1.apart, fun t ht u hu b hb hb' => ?_⟩⟩
  · rcases List.mem_append.1 hu with hu | hu
    · intro b hb
      rcases hn u hu b hb with q | ⟨t, ht, q⟩
      · exact Nat.le_trans h.keeps.next q
      · exact hA0 t ht b q
    · exact h1.new u hu
  · rcases List.mem_append.1 hu with hu | hu
    · exact ha u hu
    · exact h1.all u hu
  · rcases hn t ht b hb with q | ⟨v, hv, q⟩
    · have := u.lt (hL.all u hu) b hb'; omega
    · exact p3 v hv u hu b q hb'
theorem Hp.get {d i : Nat} {cs : List V} (h : Hp H0 H L) (hi : L[i]? = some (cel d cs)) : H.get d = some (.cells true cs) := h.at hi
theorem Hp.set {d i : Nat} {cs : List V} (h : Hp H0 H L) (hi : L[i]? = some (cel d cs)) (cs' : List V) : Hp H0 (H.set d (some (.cells true cs'))) (L.set i (cel d cs')) :=
  h.step hi (Keeps.set (by simp [cel])) (Heap.get_set_eq (Heap.get_lt (h.get hi))) (fun b hb => .inl hb)
theorem Hp.own {α : Type} [Flat α] {i : Nat} {v : V} {xs : List α} (h : Hp H0 H L) (hi : L[i]? = some (own v xs)) : zcj H v xs := h.at hi
theorem Hp.view {α : Type} [Flat α] {i : Nat} {v : V} {xs : List α} (h : Hp H0 H L) (hi : L[i]? = some (view v xs)) : Sl H v xs := h.at hi
theorem Hp.rotN (A B C : List Thing) (h : Hp H0 H (A ++ (B ++ (C ++ L)))) : Hp H0 H (A ++ (C ++ (B ++ L))) :=
  h.perm (List.Perm.append_left A (by rw [← List.append_assoc, ← List.append_assoc]; exact List.Perm.append_right L List.perm_append_comm))
theorem Hp.steps3 {t1 t2 t3 u1 u2 u3 : Thing} (h : Hp H0 H (t1 :: t2 :: t3 :: L)) {F : List Nat} (hk : Keeps F H H') (hF : ∀ b ∈ F, b ∈ t1.fp ∨ b ∈ t2.fp ∨ b ∈ t3.fp ∨ H.next ≤ b) (p1 : u1.P H') (p2 : u2.P H') (p3 : u3.P H') (n1 : u1.fp = t1.fp)
    (n2 : ∀ b ∈ u2.fp, b ∈ t2.fp ∨ H.next ≤ b) (n3 : ∀ b ∈ u3.fp, b ∈ t3.fp ∨ H.next ≤ b) (hd : ∀ b ∈ u2.fp, b ∉ u3.fp) : Hp H0 H' (u1 :: u2 :: u3 :: L) := by
  have a12 := h.apart2 (i := 0) (j := 1) rfl rfl (by omega)
  have a13 := h.apart2 (i := 0) (j := 2) rfl rfl (by omega)
  have l1 := h.ltAt (i := 0) rfl
  refine Hp.steps (A := [t1, t2, t3]) (A' := [u1, u2, u3]) h hk ?_ ?_ ?_ ?_
  · intro b hb
    rcases hF b hb with q | q | q | q
    · exact .inr ⟨t1, by simp, q⟩
    · exact .inr ⟨t2, by simp, q⟩
    · exact .inr ⟨t3, by simp, q⟩
    · exact .inl q
  · intro t ht
    simp only [List.mem_cons, List.not_mem_nil, or_false] at ht
    rcases ht with rfl | rfl | rfl <;> assumption
  · refine List.pairwise_cons.2 ⟨fun u hu b hb hb' => ?_, List.pairwise_cons.2 ⟨fun u hu => ?_, List.pairwise_singleton _ _⟩⟩
    · rw [n1] at hb
      have := l1 b hb
      simp only [List.mem_cons, List.not_mem_nil, or_false] at hu
      rcases hu with rfl | rfl
      · rcases n2 b hb' with q | q
        · exact a12 b hb q
        · omega
      · rcases n3 b hb' with q | q
        · exact a13 b hb q
        · omega
    · simp only [List.mem_cons, List.not_mem_nil, or_false] at hu
      subst hu; exact hd
  · intro t ht b hb
    simp only [List.mem_cons, List.not_mem_nil, or_false] at ht
    rcases ht with rfl | rfl | rfl
    · rw [n1] at hb; exact .inr ⟨t1, by simp, hb⟩
    · exact (n2 b hb).elim (fun q => .inr ⟨t2, by simp, q⟩) .inl
    · exact (n3 b hb).elim (fun q => .inr ⟨t3, by simp, q⟩) .inl
theorem zbcc {α : Type} [Flat α] {v x : V} {xs ys : List α} {n bytes i : Nat} {Q : V → Heap → Prop} (h : Hp H0 H L) (hi : L[i]? = some (Go.AM.own v xs)) (hs : Flat.size α = n) (hx : Sl H x ys) (hb : (xs.length + ys.length) * bytes ≤ 35184372088832) (hb2 : xs.length + ys.length ≤ 35184372088832)
    (hQ : ∀ w H', Hp H0 H' (L.set i (Go.AM.own w (xs ++ ys))) → Q w H') : wp (ze6 n bytes v x) Q H :=
  zfk hs (h.own hi) hx hb hb2 fun w H' o k vv => hQ w H' (h.step hi k o vv)
theorem zbha {α : Type} [Flat α] {v : V} {xs ys : List α} {n m bytes i : Nat} {zero : List V} {parts : List (Nat × Nat × V)} {Q : V → Heap → Prop} (h : Hp H0 H L) (hi : L[i]? = some (Go.AM.own v xs)) (hs : Flat.size α = n) (hz : zero.all zno = true) (hf : zef zero parts = some (zba ys)) (hm : ys.length = m) (hb : (xs.length + m) * bytes ≤ 35184372088832) (hb2 : xs.length + m ≤ 35184372088832)
    (hQ : ∀ w H', Hp H0 H' (L.set i (Go.AM.own w (xs ++ ys))) → Q w H') : wp (zd7 n m zero parts) (fun x H1 => wp (ze6 n bytes v x) Q H1) H :=
  zrk hs (h.own hi) hz hf hm hb hb2 fun w H' o k vv => hQ w H' (h.step hi k o vv)
theorem zcj.at {α : Type} [Flat α] {H : Heap} {v : V} {xs : List α} (h : zcj H v xs) (hne : xs ≠ []) : slO v = 0 ∧ H.get (slB v) = some (.cells true (zba xs)) ∧ v = slc (slB v) 0 (Flat.size α) xs.length xs.length := by
  rcases h with ⟨_, q⟩ | ⟨b, rfl, hb⟩
  · exact absurd q hne
  · exact ⟨rfl, hb, rfl⟩
theorem zcj.to {α : Type} [Flat α] {H H' : Heap} {v : V} {xs ys : List α} (h : zcj H v xs) (hne : xs ≠ []) (hl : ys.length = xs.length) (hg : H'.get (slB v) = some (.cells true (zba ys))) : zcj H' v ys := by
  rcases h with ⟨_, q⟩ | ⟨b, rfl, hb⟩
  · exact absurd q hne
  · exact .inr ⟨b, by rw [hl], hg⟩
theorem zbye {α : Type} [Flat α] {v u : V} {xs : List α} {x' d : α} {idx i off n : Nat} {Q : V → Heap → Prop} (h : Hp H0 H L) (hidx : L[idx]? = some (Go.AM.own v xs)) (hs : Flat.size α = n) (hi : i < xs.length) (ho : off < n) (hu : u.isOne = true) (hx : Flat.enc x' = (Flat.enc (xs.getD i d)).set off u)
    (hQ : ∀ H', Hp H0 H' (L.set idx (Go.AM.own v (xs.set i x'))) → Q undef H') : wp (st1 (ptr (slB v) (slO v + i * n + off)) u) Q H := by
  subst hs
  have o := h.own hidx
  have hne : xs ≠ [] := by intro q; rw [q] at hi; simp at hi
  obtain ⟨e0, hg, ev⟩ := o.at hne
  have hlen := zd0 xs
  have hin : i * Flat.size α + off < (zba xs).length := by
    rw [hlen]
    calc i * Flat.size α + off < i * Flat.size α + Flat.size α := by omega
      _ = (i + 1) * Flat.size α := by rw [Nat.add_mul]; omega
      _ ≤ xs.length * Flat.size α := Nat.mul_le_mul_right _ (by omega)
  rw [e0, Nat.zero_add]
  refine (zxx hg hu hin).mpr ?_
  rw [zbya xs i off u x' d hi ho hx]
  refine hQ _ (h.step hidx (Keeps.set (by show slB v ∈ vb v; rw [ev]; simp [slB])) (o.to hne (by simp) (Heap.get_set_eq (Heap.get_lt hg))) fun b hb => .inl hb)
theorem zbyf {α : Type} [Flat α] {v : V} {xs : List α} {x' : α} {idx i n : Nat} {Q : V → Heap → Prop} (h : Hp H0 H L) (hidx : L[idx]? = some (Go.AM.own v xs)) (hs : Flat.size α = n) (hi : i < xs.length)
    (hQ : ∀ H', Hp H0 H' (L.set idx (Go.AM.own v (xs.set i x'))) → Q undef H') : wp (stn n (ptr (slB v) (slO v + i * n)) (.agg (Flat.enc x').toArray)) Q H := by
  subst hs
  have o := h.own hidx
  have hne : xs ≠ [] := by intro q; rw [q] at hi; simp at hi
  obtain ⟨e0, hg, ev⟩ := o.at hne
  have hlen := zd0 xs
  have hin : i * Flat.size α + Flat.size α ≤ (zba xs).length := by
    rw [hlen]
    calc i * Flat.size α + Flat.size α = (i + 1) * Flat.size α := by rw [Nat.add_mul]; omega
      _ ≤ xs.length * Flat.size α := Nat.mul_le_mul_right _ (by omega)
  rw [e0, Nat.zero_add]
  refine (zbm7 hg (Flat.one x') (Flat.len x') hin).mpr ?_
  rw [zbp0 xs i x' hi]
  refine hQ _ (h.step hidx (Keeps.set (by show slB v ∈ vb v; rw [ev]; simp [slB])) (o.to hne (by simp) (Heap.get_set_eq (Heap.get_lt hg))) fun b hb => .inl hb)
end Go.AM

/- From runs on the abstract machine to calls in the model: what was there before stays as it was. -/
namespace Go.AM
open Go.RowKit (Below)
open Go.ChangeShapes
def zbyg (t : Nat) (x : V) : V := match x with
  | .agg cs => match cs.toList with
    | [.pointer (some ⟨g, o, none⟩)] => if g < 1048576 ∧ o < 1048576 then .chan (some (t * 1099511627776 + g * 1048576 + o)) else undef
    | _ => undef
  | _ => undef
theorem zbvq (ρ : Ren) (t : Nat) (x : V) : VRel ρ (zbyg t x) (.iface t x) := by
  unfold zbyg
  split
  · rename_i cs
    split
    · rename_i g o hcs
      split
      · rename_i h
        have e : tokV (t * 1099511627776 + g * 1048576 + o) = .iface t (.agg cs) := by
          unfold tokV
          have e1 : (t * 1099511627776 + g * 1048576 + o) / 1099511627776 = t := by omega
          have e2 : (t * 1099511627776 + g * 1048576 + o) / 1048576 % 1048576 = g := by omega
          have e3 : (t * 1099511627776 + g * 1048576 + o) % 1048576 = o := by omega
          rw [e1, e2, e3]
          congr 2
          apply Array.ext'
          rw [hcs]
        rw [← e]; exact .tok _
      · exact .undef _
    · exact .undef _
  · exact .undef _
def zbcd (N : Nat) (v : V) : V := match v with
  | .bool b => .bool b
  | .int k n => .int k n
  | .string s => .string s
  | .pointer none => .pointer none
  | .pointer (some ⟨b, o, none⟩) => if b < N then .pointer (some ⟨b, o, none⟩) else undef
  | .slice none 0 0 => .slice none 0 0
  | .slice (some a) len cap => if a.spot = none ∧ a.block < N ∧ len ≤ cap then slc a.block a.off 0 len cap else if len = 0 ∧ cap = 0 ∧ 0 < N then slc 0 0 0 0 0 else undef
  | .map none => .map none
  | .map (some b) => if b < N then .map (some b) else undef
  | .nilFunc => .nilFunc
  | .nilIface => .nilIface
  | .iface t x => zbyg t x
  | _ => undef
def ztw (N : Nat) (v : V) : V := match v with
  | .agg cs => .agg (cs.map (zbcd N))
  | v => zbcd N v
def absB (N : Nat) : Option Obj → Option Blk
  | some (.cells C _ _) => some (.cells false (C.toList.map (ztw N)))
  | some (.map E _) => some (.map false (E.toList.map fun e => (ztw N e.key, ztw N e.val)))
  | _ => none
def zv7 (w : World) : Heap := ⟨(List.range w.heap.size).map fun b => absB w.heap.size w.heap[b]?⟩
def zbp5 : Option Obj → Nat
  | some (.cells C _ _) => C.size
  | _ => 0
def ren0 (w : World) : Ren := fun b => if b < w.heap.size then some ⟨b, 0, zbp5 w.heap[b]?⟩ else none
theorem zx0 (w : World) : (zv7 w).next = w.heap.size := by simp [zv7, Heap.next]
theorem z8p (w : World) (b : Nat) : (zv7 w).get b = absB w.heap.size w.heap[b]? := by
  simp only [zv7, Heap.get]
  by_cases h : b < w.heap.size
  · simp only [List.getElem?_map, List.getElem?_range h, Option.map_some]
    cases absB w.heap.size w.heap[b]? <;> rfl
  · rw [List.getElem?_eq_none (by simpa using h)]
    rw [Array.getElem?_eq_none (by omega)]
    rfl
theorem zbl1 (w : World) (v : V) : VRel (ren0 w) (zbcd w.heap.size v) v := by
  have hr : ∀ b, b < w.heap.size → ren0 w b = some ⟨b, 0, zbp5 w.heap[b]?⟩ := fun b h => by simp only [ren0, h, if_true]
  unfold zbcd
  split
  · exact .bool _
  · exact .int _ _
  · exact .string _
  · exact .pnil
  · split
    · rename_i b o h
      have := VRel.ptr (ρ := ren0 w) b o _ (hr b h)
      simpa using this
    · exact .undef _
  · exact .snil
  · split
    · rename_i a len cap h
      obtain ⟨b, o, sp⟩ := a
      obtain ⟨rfl, h1, h2⟩ := h
      exact .slc b o 0 len cap _ o cap _ (hr b h1) (.inl (by simp)) h2 (Nat.le_refl _) (.inl rfl) (.inl (by simp))
    · split
      · rename_i a len cap _ h
        obtain ⟨rfl, rfl, h0⟩ := h
        exact .slc 0 0 0 0 0 _ 0 0 a (hr 0 h0) (.inr rfl) (Nat.le_refl _) (Nat.le_refl _) (.inl rfl) (.inr rfl)
      · exact .undef _
  · exact .mnil
  · split
    · rename_i b h
      exact .map b _ (hr b h)
    · exact .undef _
  · exact .nilFunc
  · exact .nilIface
  · exact zbvq _ _ _
  · exact .undef _
theorem zbce (w : World) (v : V) : VRel (ren0 w) (ztw w.heap.size v) v := by
  unfold ztw
  split
  · exact .agg _ _ (by simp) fun i h h' => by simpa using zbl1 w _
  · exact zbl1 w _
theorem z6n {ρ : Ren} {f : V → V} (h : ∀ v, VRel ρ (f v) v) : ∀ l : List V, LRel ρ (l.map f) l
  | [] => .nil
  | v :: l => .cons (h v) (z6n h l)
theorem rel0 (w : World) : Rel w.heap.size w (ren0 w) (zv7 w) w := by
  refine ⟨Below.refl _ _, Nat.le_refl _, fun b hb => ?_, fun b hb => ⟨zbp5 w.heap[b]?, by simp only [ren0, hb, if_true]⟩, fun b x hx => ?_, fun b b' x x' L L' hx hx' hne hL hL' => ?_⟩
  · rw [zx0] at hb
    simp only [ren0]; rw [if_neg (by omega)]
  · have hlt := Heap.get_lt hx
    rw [zx0] at hlt
    rw [z8p] at hx
    refine ⟨⟨b, 0, zbp5 w.heap[b]?⟩, by simp only [ren0, hlt, if_true], ?_⟩
    unfold absB at hx
    split at hx
    · rename_i C e f hC
      cases hx
      refine ⟨C, e, f, hC, by simp [hC, zbp5], ⟨fun h => absurd h (by decide), fun _ => by simp⟩, by simp, ?_⟩
      simp only [List.drop_zero, List.length_map]
      rw [List.take_of_length_le (by simp)]
      exact z6n (zbce w) _
    · rename_i E clk hE
      cases hx
      refine ⟨rfl, E, clk, hE, fun h => absurd h (by decide), ?_, ?_⟩
      · have := z6n (zbce w) (E.toList.map (·.key))
        simpa [List.map_map, Function.comp_def] using this
      · have := z6n (zbce w) (E.toList.map (·.val))
        simpa [List.map_map, Function.comp_def] using this
    · cases hx
  · simp only [ren0] at hL hL'
    split at hL
    · split at hL'
      · cases hL; cases hL'; exact hne
      · cases hL'
    · cases hL
theorem calls_of_wp' {P : Program} {f : FuncId} {F : List V → M V} (hk : zy P f F) {W : World} (hG : P.globals.size ≤ W.heap.size) {args : Array V} {b : Bool}
    (h : wp (F (args.toList.map (ztw W.heap.size))) (fun r _ => r = .bool b) (zv7 W)) : Calls P f args W fun e W' => e = .returned (.bool b) ∧ Below W.heap.size W W' := by
  obtain ⟨r, H', h1, rfl⟩ := h
  have := hk.2 W.heap.size W (ren0 W) (zv7 W) W (args.toList.map (ztw W.heap.size)) args.toList (.bool b) H' hG (rel0 W) (z6n (zbce W) _) h1
  have e : args.toList.toArray = args := by simp
  rw [e] at this
  refine this.mono fun e W' ⟨r', he, ρ', hv, hr, _⟩ => ?_
  subst he
  cases hv
  exact ⟨rfl, hr.below⟩
theorem zbp6 {H : Type} {enc : TypeId × Value → H} {P : Program} (hl : laidOutB P = true) {W W' : World} (hb : Below W.heap.size W W') {sp : Nat → Bool} : ∀ {ts : List TypeId} {vs : List Value} {ds : List (DataW H)} {ps : List MemPlace},
    (∀ t ∈ ts, P.readableRec t = true ∧ t < P.types.size) → DataW.TrodAll enc P W 0 (fun _ => true) true ts vs ds ps → (∀ p ∈ ps, p.block < W.heap.size) → (∀ p ∈ ps, sp p.block = true) → DataW.TrodAll enc P W' 0 sp true ts vs ds ps
  | [], vs, ds, ps, _, h, _, _ => by
    obtain ⟨rfl, rfl, rfl⟩ := trodAll_nil h
    exact trodAll_mk0
  | t :: ts, vs, ds, ps, ht, h, hlt, hsp => by
    obtain ⟨v0, vs0, d0, ds0, p0, q0, rfl, rfl, rfl, h0, r0⟩ := trodAll_cons h
    have h1 := ht t (by simp)
    refine trodAll_cons_mk (WideElems.Trod_stays hl h1.1 h1.2 h0 (fun p hp => hb.same (hlt p (by simp [hp]))) fun p hp => hsp p (by simp [hp])) ?_
    exact zbp6 hl hb (fun t h => ht t (by simp [h])) r0 (fun p hp => hlt p (by simp [hp])) (fun p hp => hsp p (by simp [hp]))
theorem post_of_below {H : Type} {enc : TypeId × Value → H} {P : Program} {f : Func} {s : ChangeSpec} {apart fresh handsOn again : Bool} {W W' : World} {args : Array Value} {v : Value} {ds : List (DataW H)} {gs : List (DataW H)} {before : List MemPlace} (hl : laidOutB P = true)
    (hts : ∀ t ∈ f.params.toList, P.readableRec t = true ∧ t < P.types.size) (hvars : s.vars = [])
    (hW : DataW.Whole enc P f.params.toList s.vars apart W args.toList ds gs before) (hb : Below W.heap.size W W')
    (hres : ∀ (b : Nat) (sp : Nat → Bool) (hd : Bool), DataW.TrodAll enc P W' b sp hd f.resultTypes.toList (v.resultList f.resultTypes.size) (s.fn H (ds ++ gs)).results [])
    (hargs : (s.fn H (ds ++ gs)).args = ds) (hv2 : (s.fn H (ds ++ gs)).vars = [])
    (hok : ∀ (j : Nat) (t : TypeId) (r : Value), f.resultTypes[j]? = some t → (v.resultList f.resultTypes.size)[j]? = some r → Value.okWide P W' .any 0 t r) :
    s.post enc P f apart fresh handsOn again W args v W' := by
  have hlt : ∀ p ∈ before, p.block < W.heap.size := fun p hp => hW.lt p hp
  have hold : ∀ p ∈ before, (fun b => decide (b < W.heap.size)) p.block = true := fun p hp => by simpa using hlt p hp
  have hW' := hW
  obtain ⟨pa, pv, hA, hV, hps, hz, hn⟩ := hW'
  rw [hvars] at hV
  obtain ⟨hgs, hpv⟩ := trodVars_none hV
  subst hpv
  have hpa : before = pa := by rw [hps, List.append_nil]
  have hargs' : ∀ sp : Nat → Bool, (∀ p ∈ before, sp p.block = true) → DataW.TrodAll enc P W' 0 sp true f.params.toList args.toList (s.fn H (ds ++ gs)).args pa := fun sp hsp => by
    rw [hargs]
    exact zbp6 hl hb hts hA (fun p hp => hlt p (by rw [hpa]; exact hp)) (fun p hp => hsp p (by rw [hpa]; exact hp))
  have hvars' : ∀ sp : Nat → Bool, DataW.TrodVars enc P W' sp s.vars (s.fn H (ds ++ gs)).vars [] := fun sp => by
    rw [hvars, hv2]; rfl
  refine ⟨ds, gs, before, [], pa, [], hW, hres _ _ _, hargs' _ hold, hvars' _, World.keptBut_mono (fun p hp => ⟨hp, ?_⟩) (hb.frame (· ∈ before)), fun _ => ?_⟩
  · rw [hps, List.mem_append] at hp
    exact Or.inr hp
  · refine ⟨hok, _, _, ([] ++ pa) ++ [], ⟨[] ++ pa, [], trodAll_append (hargs' _ (fun _ _ => rfl)) (hres _ _ _), hvars' _, rfl, ?_, ?_⟩, ?_⟩
    · intro b off hp
      have hm : MemPlace.cell b off ∈ before := by rw [hps]; simpa using hp
      rw [hb.frozen (p := ⟨b, off, none⟩) (hlt _ hm)]
      exact hz b off hm
    · intro ha
      have := hn ha
      rw [hps] at this
      simpa using this
    · intro p hp _
      rw [hps]
      simpa using hp
theorem zbl2 {P : Program} {W : World} {name : String} {k : IntKind} {zs : List Int} {g : Nat} (h : Lib.TabIs P W name k zs) (hg : P.globalNamed name = some g) : g < W.heap.size ∧ (zv7 W).get g = some (.cells false (zs.map fun z => Value.int k z)) := by
  unfold Lib.TabIs World.var? at h
  rw [hg] at h
  simp only [Option.bind_eq_bind, Option.bind_some] at h
  split at h
  · rename_i C e f hC
    cases h
    have hlt : g < W.heap.size := by
      rcases Nat.lt_or_ge g W.heap.size with q | q
      · exact q
      · rw [Array.getElem?_eq_none q] at hC; cases hC
    refine ⟨hlt, ?_⟩
    rw [z8p, hC]
    simp [absB, ztw, zbcd, Function.comp_def]
  · cases h
theorem zb2q {n : Int} (h : (Lit.int .i64 n).wf = true) : -9223372036854775808 ≤ n ∧ n ≤ 9223372036854775807 := by
  simp [Lit.wf, IntKind.min, IntKind.max, IntKind.signed, IntKind.bits] at h
  omega
end Go.AM

/- Slices among the arguments: what they read as, and how they lie on the abstract machine. -/
namespace Go.AM
open Go.RowKit (Below)
open Go.ChangeShapes Go.WideShapes
variable {H : Type} {enc : TypeId × Value → H} {P : Program} {W : World}
theorem zba1 {β : Type} {f : Nat → Option β} : ∀ {n : Nat} {l : List β}, (List.range n).mapM f = some l → l.length = n ∧ ∀ i, i < n → f i = l[i]? := by
  intro n l h
  have h1 := Lib.mapM_length h
  rw [List.length_range] at h1
  refine ⟨h1, fun i hi => ?_⟩
  obtain ⟨b, hb, hf⟩ := Lib.mapM_at h i i (by simp [hi])
  rw [hf, hb]
theorem zbsr {b off n : Nat} {cs : List Value} (h : W.cells? 0 ⟨b, off, none⟩ n = some cs) {C : Array Value} {e : TypeId} {f : Nat × Nat} (hC : W.heap[b]? = some (.cells C e f)) : (C.toList.drop off).take n = cs ∧ (0 < n → off + n ≤ C.size) := by
  unfold World.cells? at h
  rw [if_pos (Nat.zero_le _)] at h
  obtain ⟨h1, h2⟩ := zba1 h
  have key : ∀ i, i < n → C[off + i]? = cs[i]? := fun i hi => by
    rw [← h2 i hi]
    have e : (Addr.add ⟨b, off, none⟩ i) = ⟨b, off + i, none⟩ := by
      unfold Addr.add
      split
      · rename_i h0; subst h0; rfl
      · rfl
    rw [e]
    simp [World.cell?, hC]
  have hlt : ∀ i, i < n → off + i < C.size := fun i hi => by
    have := key i hi
    rw [List.getElem?_eq_getElem (by omega)] at this
    rcases Nat.lt_or_ge (off + i) C.size with q | q
    · exact q
    · rw [Array.getElem?_eq_none q] at this; cases this
  refine ⟨?_, fun hn => by have := hlt (n - 1) (by omega); omega⟩
  apply List.ext_getElem?
  intro i
  rw [List.getElem?_take]
  split
  · rename_i hi
    rw [List.getElem?_drop, ← key i hi]
    simp
  · rename_i hi
    rw [List.getElem?_eq_none (by omega)]
theorem zbit {α : Type} [Flat α] (C : List V) (off : Nat) (X : Nat → α) : ∀ n, (∀ i, i < n → (C.drop (off + i * Flat.size α)).take (Flat.size α) = Flat.enc (X i)) → (C.drop off).take (n * Flat.size α) = zba ((List.range n).map X)
  | 0, _ => by simp [zba]
  | n + 1, h => by
    rw [Nat.add_mul, Nat.one_mul, List.take_add, zbit C off X n (fun i hi => h i (by omega)), List.range_succ, List.map_append, zz7, List.drop_drop, h n (by omega)]
    simp [zba]
theorem zbp7 {α : Type} [Flat α] [Inhabited α] {datR : DataW H → α → Prop} {good : α → Prop} {t e : TypeId} (ht : P.underlying t = some (.slice e)) (hce : P.cellsOf e = Flat.size α)
    (hop : 0 < W.heap.size → ∀ n cs x, DataW.trod enc P W 0 (fun _ => true) true n e cs = some x → ∃ a : α, cs.map (ztw W.heap.size) = Flat.enc a ∧ datR x.1 a ∧ good a) {v : Value} {d : DataW H} {ps : List MemPlace}
    (hval : ∀ a len cap, v = .slice (some a) len cap → a.spot = none ∧ ∃ C eT f, W.heap[a.block]? = some (.cells C eT f)) (hs : ∃ a len cap, v = .slice a len cap) (h : DataW.Trod enc P W 0 (fun _ => true) true t v d ps) :
    ∃ xs : List α, Sl (zv7 W) (ztw W.heap.size v) xs ∧ (∀ x ∈ xs, good x) ∧ ((d = .nil ∧ xs = []) ∨ ∃ D rest, d = .slice ((List.range xs.length).map D) rest ∧ ∀ i x, xs[i]? = some x → datR (D i) x) := by
  obtain ⟨a, len, cap, rfl⟩ := hs
  obtain ⟨fuel, hf⟩ := h
  have hv : (Value.slice a len cap).cells.toList = [Value.slice a len cap] := rfl
  rw [hv] at hf
  rcases Deep.open_slice ht hf with ⟨h1, h2⟩ | ⟨a', len', cap', m, n, D, Pl, h1, hb, hl, hm, hmm, hx, hel⟩
  · cases h1
    cases h2
    exact ⟨[], .inl ⟨rfl, rfl⟩, fun x hx => (List.not_mem_nil hx).elim, .inl ⟨rfl, rfl⟩⟩
  · cases h1
    have hm' : m = cap := by simpa using hmm
    subst hm'
    obtain ⟨hspot, C, eT, f, hC⟩ := hval _ _ _ rfl
    obtain ⟨b, off, spot⟩ := a'
    simp only at hspot
    subst hspot
    simp only at hC
    have hbN : b < W.heap.size := by
      rcases Nat.lt_or_ge b W.heap.size with q | q
      · exact q
      · rw [Array.getElem?_eq_none q] at hC; cases hC
    have each : ∀ i, ∃ x : α, i < len → ((C.toList.map (ztw W.heap.size)).drop (off + i * Flat.size α)).take (Flat.size α) = Flat.enc x ∧ datR (D i) x ∧ good x ∧ off + i * Flat.size α + Flat.size α ≤ C.size := fun i => by
      by_cases hi : i < len
      · obtain ⟨cs', hc1, hc2⟩ := hel i (by omega)
        obtain ⟨x, hx1, hx2, hx3⟩ := hop (by omega) _ _ _ hc2
        have ea : (Addr.add ⟨b, off, none⟩ (i * P.cellsOf e)) = ⟨b, off + i * P.cellsOf e, none⟩ := by
          unfold Addr.add
          split
          · rename_i h0; rw [h0]; rfl
          · rfl
        rw [ea, hce] at hc1
        obtain ⟨q1, q2⟩ := zbsr hc1 hC
        exact ⟨x, fun _ => ⟨by rw [← List.map_drop, ← List.map_take, q1, hx1], hx2, hx3, q2 Flat.pos⟩⟩
      · exact ⟨default, fun h => absurd h hi⟩
    have hX := Classical.axiomOfChoice each
    obtain ⟨X, hX⟩ := hX
    have habs : ztw W.heap.size (.slice (some ⟨b, off, none⟩) len m) = slc b off 0 len m := by simp only [ztw, zbcd]; rw [if_pos ⟨trivial, hbN, hl⟩]
    have hj := zbit (C.toList.map (ztw W.heap.size)) off X len (fun i hi => (hX i hi).1)
    refine ⟨(List.range len).map X, ?_, fun x hx => ?_, .inr ⟨D, (List.range (m - len)).map fun j => D (len + j), ?_, fun i x hx => ?_⟩⟩
    · rw [habs]
      refine .inr ⟨b, off, 0, m, by simp, by simpa using hl, by rw [zx0]; exact hbN, ?_, .inl rfl⟩
      by_cases h0 : len = 0
      · left; simp [h0]
      · right
        refine ⟨false, C.toList.map (ztw W.heap.size), by rw [z8p, hC]; rfl, ?_⟩
        have := (hX (len - 1) (by omega)).2.2.2
        have e1 : (len - 1 + 1) * Flat.size α = len * Flat.size α := by rw [show len - 1 + 1 = len by omega]
        rw [Nat.add_mul] at e1
        refine ⟨by simp; omega, ?_⟩
        rw [List.length_map, List.length_range, hj]
    · obtain ⟨i, hi, rfl⟩ := List.mem_map.1 hx
      exact (hX i (List.mem_range.1 hi)).2.2.1
    · have hd : d = (DataW.slice ((List.range len).map D) ((List.range (m - len)).map fun j => D (len + j))) := congrArg Prod.fst hx
      rw [hd]; simp
    · obtain ⟨k, hk, rfl⟩ := List.mem_map.1 (List.mem_of_getElem? hx)
      have hik : i < len := by
        rcases Nat.lt_or_ge i len with q | q
        · exact q
        · rw [List.getElem?_eq_none (by simpa using q)] at hx; cases hx
      rw [List.getElem?_map, List.getElem?_range hik, Option.map_some] at hx
      rw [← Option.some.inj hx]
      exact (hX i hik).2.1
theorem zbyi {t e : TypeId} (ht : P.underlying t = some (.slice e)) {base : Nat} {v : Value} (hval : Cell.okWide P W .any base t v) :
    (∀ a len cap, v = .slice (some a) len cap → a.spot = none ∧ ∃ C eT f, W.heap[a.block]? = some (.cells C eT f)) ∧ ∃ a len cap, v = .slice a len cap := by
  have shape : ∀ b row cells, W.shape? b = some (row, cells) → ∃ C eT f, W.heap[b]? = some (.cells C eT f) := fun b row cells hshape => by
    unfold World.shape? at hshape
    split at hshape
    · rename_i C eT f hC; exact ⟨C, eT, f, hC⟩
    · cases hshape
  have hv : Value.okWide P W .any base t v := by simpa only [Value.okWide, ht] using hval
  obtain ⟨a, len, cap, rfl⟩ := okWide_slice ht hv
  refine ⟨fun a' len' cap' h => ?_, _, _, _, rfl⟩
  cases h
  simp only [Cell.okWide, ht, Cell.ok] at hval
  obtain ⟨_, _, _, hspot, row, cells, hshape, _⟩ := hval
  exact ⟨hspot, shape _ _ _ hshape⟩
theorem zbnk {α : Type} [Flat α] [Inhabited α] {datR : DataW H → α → Prop} {good : α → Prop} {t e : TypeId} (ht : P.underlying t = some (.slice e)) (hce : P.cellsOf e = Flat.size α) (hN : 0 < W.heap.size)
    (hop : ∀ n cs x, DataW.trod enc P W 0 (fun _ => true) true n e cs = some x → ∃ a : α, cs.map (ztw W.heap.size) = Flat.enc a ∧ datR x.1 a ∧ good a)
    (n : Nat) (cs : List Value) (x : DataW H × List MemPlace) (h : DataW.trod enc P W 0 (fun _ => true) true n t cs = some x) :
    ∃ a : In α, cs.map (ztw W.heap.size) = [a.v] ∧ Sl (zv7 W) a.v a.xs ∧ (∀ x ∈ a.xs, good x) ∧ ((x.1 = .nil ∧ a.xs = []) ∨ ∃ D rest, x.1 = .slice ((List.range a.xs.length).map D) rest ∧ ∀ i y, a.xs[i]? = some y → datR (D i) y) := by
  have hf := h
  rcases Deep.open_slice ht hf with ⟨rfl, rfl⟩ | ⟨a', len, cap, m, n', D, Pl, rfl, hb, hl, hm, hmm, hx, hel⟩
  · exact ⟨⟨.slice none 0 0, [], rfl⟩, rfl, .inl ⟨rfl, rfl⟩, fun x hx => (List.not_mem_nil hx).elim, .inl ⟨rfl, rfl⟩⟩
  · have hm' : m = cap := by simpa using hmm
    by_cases h0 : cap = 0
    · subst h0
      obtain rfl : len = 0 := by omega
      refine ⟨⟨ztw W.heap.size (.slice (some a') 0 0), [], ?_⟩, rfl, ?_, fun x hx => (List.not_mem_nil hx).elim, .inr ⟨D, (List.range (m - 0)).map fun j => D (0 + j), by rw [hx]; simp, by simp⟩⟩
      · simp only [ztw, zbcd]; split
        · rfl
        · rw [if_pos ⟨trivial, trivial, hN⟩]; rfl
      · simp only [ztw, zbcd]; split
        · rename_i q
          exact .inr ⟨_, _, 0, 0, rfl, Nat.le_refl _, by rw [zx0]; exact q.2.1, .inl rfl, .inl rfl⟩
        · rw [if_pos ⟨trivial, trivial, hN⟩]
          exact .inr ⟨0, 0, 0, 0, rfl, Nat.le_refl _, by rw [zx0]; exact hN, .inl rfl, .inl rfl⟩
    · have hcell : a'.spot = none ∧ ∃ C eT f, W.heap[a'.block]? = some (.cells C eT f) := by
        obtain ⟨cs', hc1, _⟩ := hel 0 (by omega)
        have h00 : (a'.add (0 * P.cellsOf e)) = a' := by rw [Nat.zero_mul]; rfl
        rw [h00] at hc1
        unfold World.cells? at hc1
        rw [if_pos (Nat.zero_le _)] at hc1
        have hp : 0 < P.cellsOf e := by rw [hce]; exact Flat.pos
        obtain ⟨_, h2⟩ := zba1 hc1
        have hlen := (zba1 hc1).1
        have h3 := h2 0 hp
        have h01 : a'.add 0 = a' := rfl
        rw [h01, List.getElem?_eq_getElem (by omega)] at h3
        unfold World.cell? at h3
        split at h3
        · rename_i C eT f hC
          split at h3
          · cases h3
          · rename_i hsp
            exact ⟨by simpa using hsp, C, eT, f, hC⟩
        · cases h3
      obtain ⟨xs, h1, h2, h3⟩ := zbp7 (v := .slice (some a') len cap) (datR := datR) (good := good) ht hce (fun _ => hop) (fun a len cap h => by cases h; exact hcell) ⟨_, _, _, rfl⟩ ⟨n, h⟩
      exact ⟨⟨_, xs, h1.isOne⟩, rfl, h1, h2, h3⟩
instance : Inhabited ByteArray := ⟨⟨#[]⟩⟩
end Go.AM

/- Structs of whole numbers among the arguments' elements. -/
namespace Go.AM
open Go.ChangeShapes Go.WideShapes
variable {H : Type} {enc : TypeId × Value → H} {P : Program} {W : World}
end Go.AM

/- Structs whose fields are of one cell each, among the arguments and their elements. -/
namespace Go.AM
open Go.ChangeShapes Go.WideShapes
variable {H : Type} {enc : TypeId × Value → H} {P : Program} {W : World}
def zfu (P : Program) (t : TypeId) (ts : List TypeId) : Bool := match P.underlying t with
  | some (.struct fs) => (fs.size == ts.length) && (P.cellsOf t == ts.length) && (List.range ts.length).all fun i => match fs[i]?, ts[i]? with
    | some f, some u => (f.offset == i) && (P.cellsOf f.type == 1) && (f.type == u)
    | _, _ => false
  | _ => false
theorem z4x {t : TypeId} {ts : List TypeId} (h : zfu P t ts = true) : ∃ fs : Array Field, P.underlying t = some (.struct fs) ∧ fs.size = ts.length ∧ P.cellsOf t = ts.length ∧ ∀ (i : Nat) (u : TypeId), ts[i]? = some u → ∃ f, fs[i]? = some f ∧ f.offset = i ∧ P.cellsOf f.type = 1 ∧ f.type = u := by
  unfold zfu at h
  split at h
  · rename_i fs hfs
    simp only [Bool.and_eq_true, beq_iff_eq, List.all_eq_true, List.mem_range] at h
    obtain ⟨⟨h1, h2⟩, h3⟩ := h
    refine ⟨fs, hfs, h1, h2, fun i u hu => ?_⟩
    have hi : i < ts.length := by
      rcases Nat.lt_or_ge i ts.length with q | q
      · exact q
      · rw [List.getElem?_eq_none q] at hu; cases hu
    have := h3 i hi
    rw [hu] at this
    split at this
    · rename_i f u' hf hu'
      cases hu'
      simp only [Bool.and_eq_true, beq_iff_eq] at this
      exact ⟨f, hf, this.1.1, this.1.2, this.2⟩
    · cases this
  · cases h
theorem z2i {t : TypeId} {ts : List TypeId} (hk : zfu P t ts = true) {n : Nat} {cs : List Value} {x : DataW H × List MemPlace} (h : DataW.trod enc P W 0 (fun _ => true) true n t cs = some x) :
    cs.length = ts.length ∧ ∃ (m : Nat) (ds : List (DataW H × List MemPlace)), ds.length = ts.length ∧ x.1 = .agg (ds.map (·.1)) ∧ ∀ (i : Nat) (u : TypeId), ts[i]? = some u → ∃ c d, cs[i]? = some c ∧ ds[i]? = some d ∧ DataW.trod enc P W 0 (fun _ => true) true m u [c] = some d := by
  obtain ⟨fs, ht, hs, hc, hf⟩ := z4x hk
  obtain ⟨xs, m, _, rfl, hl, hlen, hx⟩ := DataW.trod_struct ht h
  refine ⟨by omega, m, xs, by omega, rfl, fun i u hu => ?_⟩
  have hi : i < ts.length := by
    rcases Nat.lt_or_ge i ts.length with q | q
    · exact q
    · rw [List.getElem?_eq_none q] at hu; cases hu
  obtain ⟨f, hfi, q1, q2, q3⟩ := hf i u hu
  have := hx i _ hfi
  rw [q1, q2, q3] at this
  have hcs : i < cs.length := by omega
  have e : (cs.drop i).take 1 = [cs[i]] := by rw [List.drop_eq_getElem_cons hcs, List.take_succ_cons, List.take_zero]
  have hxi : xs[i]? = some xs[i] := List.getElem?_eq_getElem (by omega)
  rw [e, hxi] at this
  exact ⟨cs[i], xs[i], List.getElem?_eq_getElem hcs, hxi, this⟩
theorem zbvr {t : TypeId} {ts : List TypeId} (hk : zfu P t ts = true) (hts : P.cellTypes P.depth t = some ts) {base : Nat} {v : Value} (hval : Value.okWide P W .any base t v) :
    ∃ cs : List Value, v = .agg cs.toArray ∧ cs.length = ts.length ∧ ∀ (i : Nat) (u : TypeId) (c : Value), ts[i]? = some u → cs[i]? = some c → Cell.okWide P W .any base u c := by
  obtain ⟨fs, ht, hs, hc, hf⟩ := z4x hk
  simp only [Value.okWide, ht] at hval
  obtain ⟨cs, rfl, hsz, ts', hts', hn, hcell⟩ := hval
  rw [hts] at hts'; cases hts'
  refine ⟨cs.toList, by simp, by simp; omega, fun i u c hu hc' => ?_⟩
  have hi : i < ts.length := by
    rcases Nat.lt_or_ge i ts.length with q | q
    · exact q
    · rw [List.getElem?_eq_none q] at hu; cases hu
  obtain ⟨u', h1, h2⟩ := hcell i c (by rw [← hc', Array.getElem?_toList])
  rw [Nat.mod_eq_of_lt hi, hu] at h1
  cases h1; exact h2
end Go.AM
