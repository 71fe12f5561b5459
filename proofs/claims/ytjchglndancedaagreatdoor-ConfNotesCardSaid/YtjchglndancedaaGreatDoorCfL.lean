import Derived.Test.YtjchglndancedaaGreatDoorCfK
import Derived.Test.YtjchglndancedaaGreatDoorAmOpenF
set_option linter.all false
/- conf: words as numbers, kinds, levels -/
set_option maxHeartbeats 8000000
namespace Go.AM.Cap
open Go.AM Go.Proofs
def zow (args : List V) : M V := fun H => match args with
  | [.string s, .string t] => match H.cell 2 0, bv t with
    | some (.int .i64 _), [c] => if s.size < 4294967281 then some (slc H.next 0 1 (zdx c s).length (zdx c s).length, H.push (some (.cells true (zdv (zdx c s))))) else none
    | _, _ => none
  | _ => none
def zej (args : List V) : M V := fun H => match args with
  | [.string s] => if s.size ≤ 18 ∧ s.size ≠ 0 ∧ (bv s).all z0v = true then some (.tuple #[i64 (z71 0 (bv s)), .nilIface], H) else none
  | _ => none
def idxB (c : BitVec 8) : List (BitVec 8) → Int
  | [] => -1
  | b :: l => if b = c then 0 else if idxB c l = -1 then -1 else idxB c l + 1
def zwn (args : List V) : M V := fun H => match args with
  | [.string s, .int .u8 n] => if s.size ≤ 1000000000 then some (i64 (idxB (BitVec.ofNat 8 n.toNat) (bv s)), H) else none
  | _ => none
def ML (H : Heap) : Prop := ∃ m, H.cell 2 0 = some (.int .i64 m)
theorem ML.keep0 {H H' : Heap} (h : ML H) (hk : Keeps [] H H') : ML H' := by
  obtain ⟨m, h⟩ := h
  refine ⟨m, ?_⟩
  unfold Heap.cell at h ⊢
  cases hg : H.get 2 with
  | none => rw [hg] at h; cases h
  | some x => rw [hk.get hg (by simp)]; rw [hg] at h; exact h
theorem zbjb {H0 H : Heap} {L : List Thing} (hm : ML H) (h : Hp H0 H L) (s t : ByteArray) (c : BitVec 8) (ht : bv t = [c]) (hs : s.size ≤ 1000000) (Q : V → Heap → Prop)
    (hQ : ∀ w H', Keeps [] H H' → Hp H0 H' (own w (zdx c s) :: L) → Q w H') : wp (zow [.string s, .string t]) Q H := by
  obtain ⟨m, hm⟩ := hm
  refine ⟨_, _, ?_, hQ _ _ (Keeps.push _ _ _) (h.newo (α := ByteArray) (n := 1) (zdx c s) rfl rfl)⟩
  simp only [zow, hm, ht]
  rw [if_pos (by omega)]
theorem zbmk {H : Heap} (s : ByteArray) (h1 : s.size ≤ 18) (h2 : s.size ≠ 0) (h3 : (bv s).all z0v = true) (Q : V → Heap → Prop) (hQ : Q (.tuple #[i64 (z71 0 (bv s)), .nilIface]) H) : wp (zej [.string s]) Q H := by
  refine ⟨_, _, ?_, hQ⟩
  simp only [zej]
  rw [if_pos ⟨h1, h2, h3⟩]
theorem zbql {H : Heap} (s : ByteArray) (c : BitVec 8) (hs : s.size ≤ 1000000000) (Q : V → Heap → Prop) (hQ : Q (i64 (idxB c (bv s))) H) : wp (zwn [.string s, B c]) Q H := by
  refine ⟨_, _, ?_, hQ⟩
  simp only [zwn]
  rw [if_pos hs]
  have : BitVec.ofNat 8 (c.toNat : Int).toNat = c := by simp
  rw [this]
theorem z73 {α : Type} [Flat α] {n : Nat} (hs : Flat.size α = n) {H : Heap} {v : V} {l : List α} (h : Sl H v l) {k : Nat} (hk : k ≤ l.length) : ∃ w, zjw n v (some (i64 (k : Int))) none = some w ∧ Sl H w (l.drop k) ∧ ∀ b ∈ vb w, b ∈ vb v := by
  subst hs
  rcases h with ⟨rfl, rfl⟩ | ⟨b, o, u, c, rfl, hc, hb, hl2, hu2⟩
  · have hk0 : k = 0 := by simpa using hk
    subst hk0
    exact ⟨.slice none 0 0, rfl, Sl.nil H, by simp⟩
  · have e1 : zfz l.length c none = some l.length := rfl
    have hb0 : zfz 0 l.length (some (i64 (k : Int))) = some k := by simp [zfz]; omega
    have hu3 : u = Flat.size α ∨ u = 0 := hu2.symm
    have hdl : (l.drop k).length = l.length - k := by rw [List.length_drop]
    by_cases hck : c = k
    · have hw : zjw (Flat.size α) (slc b o u l.length c) (some (i64 (k : Int))) none = some (slc b o u (l.length - k) (c - k)) := by
        simp only [zjw, e1, hb0]
        rw [if_pos hu3]
        simp [zsv, hck]
      have hnil : l.drop k = [] := List.drop_of_length_le (by omega)
      refine ⟨_, hw, .inr ⟨b, o, u, c - k, by rw [hdl], by omega, hb, .inl hnil, hu2⟩, by simp⟩
    · have hw : zjw (Flat.size α) (slc b o u l.length c) (some (i64 (k : Int))) none = some (slc b (o + k * Flat.size α) u (l.length - k) (c - k)) := by
        simp only [zjw, e1, hb0]
        rw [if_pos hu3]
        simp [zsv, hck]
      refine ⟨_, hw, .inr ⟨b, o + k * Flat.size α, u, c - k, by rw [hdl], by omega, hb, ?_, hu2⟩, by simp⟩
      rcases hl2 with rfl | ⟨rw_, cs, hg, q1, q2⟩
      · left; simp
      · refine .inr ⟨rw_, cs, hg, ?_, ?_⟩
        · rw [hdl]
          have : (l.length - k) * Flat.size α + k * Flat.size α = l.length * Flat.size α := by rw [← Nat.add_mul]; congr 1; omega
          omega
        · rw [hdl]
          have e2 : l.length * Flat.size α - k * Flat.size α = (l.length - k) * Flat.size α := by rw [Nat.sub_mul]
          have : (cs.drop (o + k * Flat.size α)).take ((l.length - k) * Flat.size α) = ((cs.drop o).take (l.length * Flat.size α)).drop (k * Flat.size α) := by
            rw [List.drop_take, List.drop_drop, e2]
          rw [this, q2, z8x]
theorem z0e {H : Heap} {v : V} {l : List ByteArray} (h : Sl H v l) {i : Nat} (hi : i < l.length) : zb5 1 v (i64 (i : Int)) = some (ptr (slB v) (slO v + i)) ∧ zlb (H.get (slB v)) (slO v + i) = some (.string (wAt l i)) := by
  have a1 := h.addr1 rfl (k := .i64) (i := i) (by omega) (by omega)
  rw [Int.toNat_natCast] at a1
  have c1 := h.cell1 rfl hi zhl
  rw [zl] at c1
  exact ⟨a1, c1⟩
theorem wd {H : Heap} {v : V} {l : List ByteArray} (h : Sl H v l) {i : Nat} {n : Int} (hi : i < l.length) (hn : n = (i : Int)) : zb5 1 v (.int .i64 n) = some (ptr (slB v) (slO v + i)) ∧ zlb (H.get (slB v)) (slO v + i) = some (.string (wAt l i)) := by
  subst hn; exact z0e h hi
theorem wd0 {H : Heap} {v : V} {l : List ByteArray} (h : Sl H v l) (hi : 0 < l.length) : zb5 1 v (.int .i64 0) = some (ptr (slB v) (slO v)) ∧ zlb (H.get (slB v)) (slO v) = some (.string (wAt l 0)) := z0e h hi
theorem z26 {H : Heap} {v : V} {l : List ByteArray} (h : Sl H v l) (hl : l.length ≤ 1000000000) (s : ByteArray) (Q : V → Heap → Prop) (hQ : Q (i64 (zly (zi5 (fun x => decide (s = x)) l))) H) : wp (zb7 [v, .string s]) Q H := by
  show wp (zfr v (.string s)) Q H
  have hlen := h.len
  (try simp (maxSteps := 1000000) (disch := first | omega | (simp only [Z3]; omega) | (simp; done) | assumption | decide | (refine not_not_intro ?_; assumption)) only [Z1, Z2, splice, zfr, hlen])
  refine ze6 l.length (by omega) (fun j vs H' => vs = [v, .string s, i64 l.length, i64 j] ∧ H' = H ∧ (∀ i, i < j → decide (s = l.getD i zhl) = false)) ⟨rfl, rfl, by omega⟩ ?_
  rintro j vs H2 hj ⟨rfl, rfl, hn⟩
  by_cases hlt : j < l.length
  case neg =>
    have : j = l.length := by omega
    subst this
    have e : zly (zi5 (fun x => decide (s = x)) l) = -1 := by rw [z7x (d := zhl) hn]; rfl
    rw [e] at hQ
    (try simp (maxSteps := 1000000) (disch := first | omega | (simp only [Z3]; omega) | (simp; done) | assumption | decide | (refine not_not_intro ?_; assumption)) only [Z1, Z2, splice, zfb, zkj])
    exact hQ
  obtain ⟨a1, c1⟩ := z0e h hlt
  by_cases hq : s = wAt l j
  · have e : zly (zi5 (fun x => decide (s = x)) l) = j := by rw [zu1 (d := zhl) hlt (decide_eq_true hq) hn]; rfl
    rw [e] at hQ
    have e2 : decide (s = wAt l j) = true := decide_eq_true hq
    (try simp (maxSteps := 1000000) (disch := first | omega | (simp only [Z3]; omega) | (simp; done) | assumption | decide | (refine not_not_intro ?_; assumption)) only [Z1, Z2, splice, zfb, zg2, a1, c1, e2])
    exact hQ
  · have e2 : decide (s = wAt l j) = false := decide_eq_false hq
    (try simp (maxSteps := 1000000) (disch := first | omega | (simp only [Z3]; omega) | (simp; done) | assumption | decide | (refine not_not_intro ?_; assumption)) only [Z1, Z2, splice, zfb, zg2, a1, c1, e2, zki])
    refine ⟨hlt, rfl, fun i hi => ?_⟩
    rcases Nat.lt_or_eq_of_le (Nat.lt_succ_iff.1 hi) with q | rfl
    · exact hn i q
    · exact e2
theorem z74 {H : Heap} {v : V} {l : List ByteArray} (h : Sl H v l) (hl : l.length ≤ 1000000000) (s : ByteArray) (Q : V → Heap → Prop) (hQ : Q (.bool (hasW l s)) H) : wp (zcb [v, .string s]) Q H := by
  show wp (zer v (.string s)) Q H
  unfold zer
  rw [zcc, zcc]
  refine z26 h hl s _ ?_
  unfold hasW at hQ
  rw [zbmd] at hQ
  cases hf : zi5 (fun x => decide (s = x)) l with
  | none =>
    rw [hf] at hQ
    have e : decide (((-1 : Int)) ≥ 0) = false := by decide
    (try simp (maxSteps := 1000000) (disch := first | omega | (simp only [Z3]; omega) | (simp; done) | assumption | decide | (refine not_not_intro ?_; assumption)) only [Z1, Z2, splice, zly, e])
    exact hQ
  | some i =>
    rw [hf] at hQ
    have e : decide ((i : Int) ≥ 0) = true := by simp
    (try simp (maxSteps := 1000000) (disch := first | omega | (simp only [Z3]; omega) | (simp; done) | assumption | decide | (refine not_not_intro ?_; assumption)) only [Z1, Z2, splice, zly, e])
    exact hQ
theorem zbml : ∀ b : BitVec 8, inS (bv zyh) b = z0v b := by decide +kernel
theorem zbn5 : ∀ b ∈ bv zyh, b.toNat < 128 := by decide +kernel
theorem zbda (l : List (BitVec 8)) : sv l = zhl ↔ l = [] := ⟨fun h => zbtp (h.trans (show zhl = sv [] from rfl)), fun h => by rw [h]; rfl⟩
theorem zbjc (w : ByteArray) : (sv (zte (bv zyh) (zrv (bv zyh) (bv w))) = zhl) ↔ (bv w).all z0v = true := by
  rw [zbda, zbcy, List.all_eq_true]
  constructor
  · intro h b hb; rw [← zbml]; exact h b hb
  · intro h b hb; rw [zbml]; exact h b hb
theorem zbak {s : ByteArray} (h : s.size = 0) : s = zhl := by
  have := zet s
  rw [h] at this
  exact zbby (by rw [List.eq_nil_of_length_eq_zero this]; rfl)
theorem z9k {H : Heap} {G : List V → M V} (w : ByteArray) (hw : w.size ≤ 1000000) (Q : V → Heap → Prop) (hQ : ∀ H', Keeps [] H H' → Q (.tuple #[i64 (zyi w).1, .bool (zyi w).2]) H') : wp (zfn G zej [.string w]) Q H := by
  show wp (zl0 G zej (.string w)) Q H
  unfold zyi at hQ
  by_cases c1 : w.size = 0
  · have q := hQ H (Keeps.refl _ _)
    rw [if_pos (.inl c1)] at q
    have e : decide (w = (⟨#[]⟩ : ByteArray)) = true := decide_eq_true (zbak c1)
    (try simp (maxSteps := 1000000) (disch := first | omega | (simp only [Z3]; omega) | (simp; done) | assumption | decide | (refine not_not_intro ?_; assumption)) only [Z1, Z2, splice, zl0, e])
    exact q
  have e1 : decide (w = (⟨#[]⟩ : ByteArray)) = false := decide_eq_false fun h => c1 (by rw [h]; rfl)
  by_cases c2 : w.size > 10
  · have q := hQ H (Keeps.refl _ _)
    rw [if_pos (.inr (.inl c2))] at q
    have e : decide ((w.size : Int) > 10) = true := decide_eq_true (by omega)
    (try simp (maxSteps := 1000000) (disch := first | omega | (simp only [Z3]; omega) | (simp; done) | assumption | decide | (refine not_not_intro ?_; assumption)) only [Z1, Z2, splice, zl0, e1, e])
    exact q
  have e2 : decide ((w.size : Int) > 10) = false := decide_eq_false (by omega)
  (try simp (maxSteps := 1000000) (disch := first | omega | (simp only [Z3]; omega) | (simp; done) | assumption | decide | (refine not_not_intro ?_; assumption)) only [Z1, Z2, splice, zl0, e1, e2])
  refine zbgp w zyh (by omega) zbn5 (by decide) (by decide) _ fun H1 k1 => ?_
  have q := hQ H1 k1
  cases c3 : (bv w).all z0v with
  | false =>
    rw [if_pos (.inr (.inr (.inl c3)))] at q
    have e : decide (sv (zte (bv zyh) (zrv (bv zyh) (bv w))) ≠ (⟨#[]⟩ : ByteArray)) = true := decide_eq_true fun h => by
      have := (zbjc w).1 h
      rw [c3] at this; cases this
    (try simp (maxSteps := 1000000) (disch := first | omega | (simp only [Z3]; omega) | (simp; done) | assumption | decide | (refine not_not_intro ?_; assumption)) only [Z1, Z2, splice, e])
    exact q
  | true =>
    have e3 : decide (sv (zte (bv zyh) (zrv (bv zyh) (bv w))) ≠ (⟨#[]⟩ : ByteArray)) = false := decide_eq_false fun h => h ((zbjc w).2 c3)
    have ix := zw0 (s := w) (k := .i64) (i := 0) (by omega) (by omega)
    have hhd : (bv w).getD (0 : Int).toNat 0 = (bv w).headD 0 := by cases bv w <;> rfl
    rw [hhd] at ix
    have e48 : (Value.int .u8 48 : V) = B 48#8 := rfl
    have eqB : ∀ a b : BitVec 8, bin .eql (B a) (B b) = some (.bool (decide (a = b))) := fun a b => by
      have : (((a.toNat : Int) == (b.toNat : Int))) = decide (a = b) := by
        by_cases h : a = b
        · subst h; simp
        · rw [decide_eq_false h]
          have : ¬ a.toNat = b.toNat := fun q => h (BitVec.eq_of_toNat_eq q)
          simp; omega
      show some (Value.bool ((a.toNat : Int) == (b.toNat : Int))) = _
      rw [this]
    by_cases c4 : w.size > 1 ∧ (bv w).headD 0 = 48#8
    · rw [if_pos (.inr (.inr (.inr c4)))] at q
      have e4 : decide ((w.size : Int) > 1) = true := decide_eq_true (by omega)
      have e5 : decide ((bv w).headD 0 = 48#8) = true := decide_eq_true c4.2
      (try simp (maxSteps := 1000000) (disch := first | omega | (simp only [Z3]; omega) | (simp; done) | assumption | decide | (refine not_not_intro ?_; assumption)) only [Z1, Z2, splice, e3, e4, ix, e48, eqB, e5])
      exact q
    · rw [if_neg (by rintro (r | r | r | r); exact c1 r; exact c2 r; rw [c3] at r; cases r; exact c4 r)] at q
      have enil : zey false (zgb .i .nilIface) = some (.bool true) := rfl
      by_cases c5 : w.size > 1
      · have e4 : decide ((w.size : Int) > 1) = true := decide_eq_true (by omega)
        have e5 : decide ((bv w).headD 0 = 48#8) = false := decide_eq_false fun h => c4 ⟨c5, h⟩
        (try simp (maxSteps := 1000000) (disch := first | omega | (simp only [Z3]; omega) | (simp; done) | assumption | decide | (refine not_not_intro ?_; assumption)) only [Z1, Z2, splice, e3, e4, ix, e48, eqB, e5, zvr])
        refine zbmk w (by omega) c1 c3 _ ?_
        have e6 : decide ((z71 0 (bv w) : Int) ≤ 1000000000) = decide (z71 0 (bv w) ≤ 1000000000) := decide_eq_decide.2 (by omega)
        (try simp (maxSteps := 1000000) (disch := first | omega | (simp only [Z3]; omega) | (simp; done) | assumption | decide | (refine not_not_intro ?_; assumption)) only [Z1, Z2, splice, enil, e6])
        exact q
      · have e4 : decide ((w.size : Int) > 1) = false := decide_eq_false (by omega)
        (try simp (maxSteps := 1000000) (disch := first | omega | (simp only [Z3]; omega) | (simp; done) | assumption | decide | (refine not_not_intro ?_; assumption)) only [Z1, Z2, splice, e3, e4, zvr])
        refine zbmk w (by omega) c1 c3 _ ?_
        have e6 : decide ((z71 0 (bv w) : Int) ≤ 1000000000) = decide (z71 0 (bv w) ≤ 1000000000) := decide_eq_decide.2 (by omega)
        (try simp (maxSteps := 1000000) (disch := first | omega | (simp only [Z3]; omega) | (simp; done) | assumption | decide | (refine not_not_intro ?_; assumption)) only [Z1, Z2, splice, enil, e6])
        exact q
end Go.AM.Cap
