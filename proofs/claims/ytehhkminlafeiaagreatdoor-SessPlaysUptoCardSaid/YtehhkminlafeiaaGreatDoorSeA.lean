import Derived.Test.YtehhkminlafeiaaGreatDoorWiAs
import Derived.Test.YtehhkminlafeiaaGreatDoorWiK
import Derived.Test.YtehhkminlafeiaaGreatDoorWiM
import Derived.Test.YtehhkminlafeiaaGreatDoorRoC
import Derived.Test.YtehhkminlafeiaaGreatDoorAmOpenF
set_option linter.all false
/- sess: eight, Prove, Concat, Message, numbers, Read -/
set_option maxHeartbeats 16000000
namespace Go.AM.Cap
open Go.AM Go.Proofs
theorem zbzc {H : Heap} (n : Int) (Q : V → Heap → Prop) (hQ : ∀ H', Keeps [] H H' → Q (.string (sv (be8 n))) H') : wp (zs1 [i64 n]) Q H := by
  show wp (zxa (i64 n)) Q H
  (try simp (maxSteps := 1000000) (disch := first | omega | (simp only [Z3]; omega) | (simp; done) | assumption | decide | (refine not_not_intro ?_; assumption)) only [Z1, Z2, splice, zxa])
  refine zbt (Inv := fun k vs H' => ∃ (j : Nat) (w' : V), k = 8 - j ∧ j ≤ 8 ∧ vs = [i64 n, w', i64 (56 - 8 * (j : Int))] ∧ zcj H' w' ((be8 n).take j) ∧ Keeps [] H H' ∧ (∀ b ∈ vb w', H.next ≤ b)) (n := 8) (by unfold zcc; omega)
    ⟨0, _, by omega, by omega, rfl, zcj.nil _, Keeps.refl _ _, by simp⟩ ?_
  rintro k vs H1 ⟨j, w', hk, hj, rfl, ho, hk1, hv⟩
  by_cases hlt : j < 8
  case neg =>
    have : j = 8 := by omega
    subst this
    (try simp (maxSteps := 1000000) (disch := first | omega | (simp only [Z3]; omega) | (simp; done) | assumption | decide | (refine not_not_intro ?_; assumption)) only [Z1, Z2, splice, z12, z94])
    rw [List.take_of_length_le (by rw [zdt]; omega)] at ho
    refine zu6 ho ?_
    (try simp (maxSteps := 1000000) (disch := first | omega | (simp only [Z3]; omega) | (simp; done) | assumption | decide | (refine not_not_intro ?_; assumption)) only [Z1, Z2, splice])
    exact hQ _ hk1
  (try simp (maxSteps := 1000000) (disch := first | omega | (simp only [Z3]; omega) | (simp; done) | assumption | decide | (refine not_not_intro ?_; assumption)) only [Z1, Z2, splice, z12, z93, zbhc, zbhd, zboi])
  refine zrk (α := BitVec 8) (ys := [((BitVec.ofInt 64 n) >>> (56 - 8 * j)).setWidth 8]) rfl ho (by rfl) (by rw [show (56 - 8 * (j : Int)).toNat = 56 - 8 * j from by omega]; rfl) rfl ?_ ?_ fun w2 H2 o2 k2 v2 => ?_
  · simp [zdt]; omega
  · simp [zdt]; omega
  (try simp (maxSteps := 1000000) (disch := first | omega | (simp only [Z3]; omega) | (simp; done) | assumption | decide | (refine not_not_intro ?_; assumption)) only [Z1, Z2, splice, z92])
  refine ⟨8 - (j + 1), by omega, j + 1, w2, rfl, by omega, ?_, ?_, ?_, ?_⟩
  · simp; omega
  · rw [zbj0 n j hlt]; exact o2
  · exact hk1.trans k2 fun b hb hm => by have := hv b hm; omega
  · intro b hb
    rcases v2 b hb with q | q
    · exact hv b q
    · exact Nat.le_trans hk1.next q
theorem zbmf {H : Heap} (n : Int) (Q : V → Heap → Prop) (hQ : ∀ H', Keeps [] H H' → Q (.string (sv (be8 n))) H') : wp (zmz [i64 n]) Q H := by
  show wp (zus (i64 n)) Q H
  (try simp (maxSteps := 1000000) (disch := first | omega | (simp only [Z3]; omega) | (simp; done) | assumption | decide | (refine not_not_intro ?_; assumption)) only [Z1, Z2, splice, zus])
  refine zbt (Inv := fun k vs H' => ∃ (j : Nat) (w' : V), k = 8 - j ∧ j ≤ 8 ∧ vs = [i64 n, w', i64 (7 - (j : Int))] ∧ zcj H' w' ((be8 n).take j) ∧ Keeps [] H H' ∧ (∀ b ∈ vb w', H.next ≤ b)) (n := 8) (by unfold zcc; omega)
    ⟨0, _, by omega, by omega, rfl, zcj.nil _, Keeps.refl _ _, by simp⟩ ?_
  rintro k vs H1 ⟨j, w', hk, hj, rfl, ho, hk1, hv⟩
  by_cases hlt : j < 8
  case neg =>
    have : j = 8 := by omega
    subst this
    (try simp (maxSteps := 1000000) (disch := first | omega | (simp only [Z3]; omega) | (simp; done) | assumption | decide | (refine not_not_intro ?_; assumption)) only [Z1, Z2, splice, zyo, z7e])
    rw [List.take_of_length_le (by rw [zdt]; omega)] at ho
    refine zu6 ho ?_
    (try simp (maxSteps := 1000000) (disch := first | omega | (simp only [Z3]; omega) | (simp; done) | assumption | decide | (refine not_not_intro ?_; assumption)) only [Z1, Z2, splice])
    exact hQ _ hk1
  (try simp (maxSteps := 1000000) (disch := first | omega | (simp only [Z3]; omega) | (simp; done) | assumption | decide | (refine not_not_intro ?_; assumption)) only [Z1, Z2, splice, zyo, z7d, zbhc, zbhd, zboi])
  refine zrk (α := BitVec 8) (ys := [((BitVec.ofInt 64 n) >>> (56 - 8 * j)).setWidth 8]) rfl ho (by rfl) (by rw [show (8 * (7 - (j : Int))).toNat = 56 - 8 * j from by omega]; rfl) rfl ?_ ?_ fun w2 H2 o2 k2 v2 => ?_
  · simp [zdt]; omega
  · simp [zdt]; omega
  (try simp (maxSteps := 1000000) (disch := first | omega | (simp only [Z3]; omega) | (simp; done) | assumption | decide | (refine not_not_intro ?_; assumption)) only [Z1, Z2, splice, z7c])
  refine ⟨8 - (j + 1), by omega, j + 1, w2, rfl, by omega, ?_, ?_, ?_, ?_⟩
  · simp; omega
  · rw [zbj0 n j hlt]; exact o2
  · exact hk1.trans k2 fun b hb hm => by have := hv b hm; omega
  · intro b hb
    rcases v2 b hb with q | q
    · exact hv b q
    · exact Nat.le_trans hk1.next q
def z4s : ByteArray := ⟨#[108, 111, 103, 105, 110]⟩
def ztr : ByteArray := ⟨#[115, 101, 115, 115, 105, 111, 110]⟩
def zos (k nonce : ByteArray) (c : Int) : ByteArray × ByteArray :=
  (sv (tag (bv k) (bv (z4s ++ (nonce ++ sv (be8 c))))), sv (tag (bv k) (bv (ztr ++ (nonce ++ sv (be8 c))))))
theorem zbzd (a b c : ByteArray) : (a ++ b) ++ c = a ++ (b ++ c) := by
  apply z1g
  simp [zox]
theorem zbq8 (n : Int) : (sv (be8 n)).size = 8 := by rw [zgw, zdt]
theorem zzw : z4s.size = 5 := rfl
theorem zts : ztr.size = 7 := rfl
theorem zbq9 {H : Heap} (hb : Base H) (k nonce : ByteArray) (c : Int) (hk : k.size ≤ 1048576) (hn : nonce.size ≤ 1048576) (Q : V → Heap → Prop) (hQ : ∀ H', Keeps [] H H' → Q (.tuple #[.string (zos k nonce c).1, .string (zos k nonce c).2]) H') : wp (zj7 [.string k, .string nonce, i64 c]) Q H := by
  show wp (zxb (.string k) (.string nonce) (i64 c)) Q H
  have z8 := zbq8 c
  unfold zxb
  rw [zk, zk]
  refine zbzc c _ fun H1 k1 => ?_
  have e1 := zm3 (x := nonce) (y := sv (be8 c)) (by omega)
  have s1 : (nonce ++ sv (be8 c)).size = nonce.size + 8 := by rw [size_append, z8]
  have e2 := zm3 (x := z4s) (y := nonce ++ sv (be8 c)) (by rw [zzw]; omega)
  have e3 := zm3 (x := ztr) (y := nonce ++ sv (be8 c)) (by rw [zts]; omega)
  have s2 : (z4s ++ (nonce ++ sv (be8 c))).size ≤ 1073741824 := by rw [size_append, s1, zzw]; omega
  have s3 : (ztr ++ (nonce ++ sv (be8 c))).size ≤ 1073741824 := by rw [size_append, s1, zts]; omega
  have l1 : (⟨#[108, 111, 103, 105, 110]⟩ : ByteArray) = z4s := rfl
  have l2 : (⟨#[115, 101, 115, 115, 105, 111, 110]⟩ : ByteArray) = ztr := rfl
  rw [l1, l2]
  (try simp (maxSteps := 1000000) (disch := first | omega | (simp only [Z3]; omega) | (simp; done) | assumption | decide | (refine not_not_intro ?_; assumption)) only [Z1, Z2, splice, e1, e2, e3])
  refine z4q H1 k _ (by omega) s2 (hb.keep k1) _ fun H2 k2 => ?_
  (try simp (maxSteps := 1000000) (disch := first | omega | (simp only [Z3]; omega) | (simp; done) | assumption | decide | (refine not_not_intro ?_; assumption)) only [Z1, Z2, splice, e3])
  refine zbqu H2 k _ (by omega) s3 ((hb.keep k1).keep k2) _ fun H3 k3 => ?_
  (try simp (maxSteps := 1000000) (disch := first | omega | (simp only [Z3]; omega) | (simp; done) | assumption | decide | (refine not_not_intro ?_; assumption)) only [Z1, Z2, splice])
  exact hQ _ ((k1.trans k2 (by simp)).trans k3 (by simp))
theorem zbmg {H : Heap} (k nonce : ByteArray) (c : Int) (hk : k.size ≤ 1048576) (hn : nonce.size ≤ 1048576) (Q : V → Heap → Prop) (hQ : ∀ H', Keeps [] H H' → Q (.tuple #[.string (zos k nonce c).1, .string (zos k nonce c).2]) H') : wp (zkk [.string k, .string nonce, i64 c]) Q H := by
  show wp (zuu (.string k) (.string nonce) (i64 c)) Q H
  have z8 := zbq8 c
  have l1 : (⟨#[108, 111, 103, 105, 110]⟩ : ByteArray) = z4s := rfl
  have l2 : (⟨#[115, 101, 115, 115, 105, 111, 110]⟩ : ByteArray) = ztr := rfl
  have e1 := zm3 (x := z4s) (y := nonce) (by rw [zzw]; omega)
  have e2 := zm3 (x := ztr) (y := nonce) (by rw [zts]; omega)
  have e3 := zm3 (x := z4s ++ nonce) (y := sv (be8 c)) (by rw [size_append, zzw]; omega)
  have e4 := zm3 (x := ztr ++ nonce) (y := sv (be8 c)) (by rw [size_append, zts]; omega)
  rw [zbzd] at e3 e4
  have s2 : (z4s ++ (nonce ++ sv (be8 c))).size ≤ 1073741824 := by rw [size_append, size_append, zzw]; omega
  have s3 : (ztr ++ (nonce ++ sv (be8 c))).size ≤ 1073741824 := by rw [size_append, size_append, zts]; omega
  unfold zuu
  rw [l1, l2]
  (try simp (maxSteps := 1000000) (disch := first | omega | (simp only [Z3]; omega) | (simp; done) | assumption | decide | (refine not_not_intro ?_; assumption)) only [Z1, Z2, splice, e1])
  refine zbmf c _ fun H1 k1 => ?_
  (try simp (maxSteps := 1000000) (disch := first | omega | (simp only [Z3]; omega) | (simp; done) | assumption | decide | (refine not_not_intro ?_; assumption)) only [Z1, Z2, splice, e3])
  refine zxg H1 k _ (by omega) s2 _ fun H2 k2 => ?_
  (try simp (maxSteps := 1000000) (disch := first | omega | (simp only [Z3]; omega) | (simp; done) | assumption | decide | (refine not_not_intro ?_; assumption)) only [Z1, Z2, splice, e2])
  refine zbmf c _ fun H3 k3 => ?_
  (try simp (maxSteps := 1000000) (disch := first | omega | (simp only [Z3]; omega) | (simp; done) | assumption | decide | (refine not_not_intro ?_; assumption)) only [Z1, Z2, splice, e4])
  refine zxg H3 k _ (by omega) s3 _ fun H4 k4 => ?_
  (try simp (maxSteps := 1000000) (disch := first | omega | (simp only [Z3]; omega) | (simp; done) | assumption | decide | (refine not_not_intro ?_; assumption)) only [Z1, Z2, splice])
  exact hQ _ (((k1.trans k2 (by simp)).trans k3 (by simp)).trans k4 (by simp))
theorem zbwa {α : Type} [Flat α] {b n c bytes : Nat} {x : V} {cs : List V} {ys : List α} {H : Heap} {Q : V → Heap → Prop} (hs : Flat.size α = n) (hg : H.get b = some (.cells true cs)) (hx : Sl H x ys) (hne : ys ≠ []) (hb : ys.length * bytes ≤ 35184372088832) (hb2 : ys.length ≤ 35184372088832)
    (hQ : ∀ H', zcj H' (slc H.next 0 n ys.length ys.length) ys → Keeps [b] H H' → H'.next = H.next + 1 → Q (slc H.next 0 n ys.length ys.length) H') : wp (ze6 n bytes (slc b 0 n 0 c) x) Q H := by
  subst hs
  obtain ⟨a, c', rfl, hc⟩ := zbp2 rfl hx hne
  have h0 : ys.length ≠ 0 := fun h => hne (List.eq_nil_of_length_eq_zero h)
  have hone := zbpz ys
  have hel := zd0 ys
  have hcs0 : zcw H (Flat.size α) (slc b 0 (Flat.size α) 0 c) = some [] := rfl
  refine ⟨slc H.next 0 (Flat.size α) ys.length ys.length, (H.set b none).push (some (.cells true (zba ys))), ?_, hQ _ ?_ ?_ (by simp)⟩
  · simp only [ze6, hc, zr4, h0, if_false, hcs0, zxk, hg, if_true]
    rw [if_pos ⟨by rw [Nat.zero_add]; exact hb, by omega, hone, hel⟩]
    simp
  · have := zd1 (H := H.set b none) (xs := ys) (n := Flat.size α) (m := ys.length) rfl rfl
    simpa using this
  · exact ⟨by simp, fun d hd hn => by rw [Heap.get_push_lt (by simpa using hd), Heap.get_set_ne _ _ _ (by simpa using hn)]⟩
def Soon (H : Heap) (w : V) (xs : List It) : Prop := (xs = [] ∧ ∃ b c cs, w = slc b 0 3 0 c ∧ H.get b = some (.cells true cs)) ∨ zcj H w xs
theorem Soon.lt {H : Heap} {w : V} {xs : List It} (h : Soon H w xs) : ∀ b ∈ vb w, b < H.next := by
  rcases h with ⟨_, b, c, cs, rfl, hg⟩ | h
  · simpa using Heap.get_lt hg
  · exact h.lt
theorem Soon.keep0 {H H' : Heap} {w : V} {xs : List It} (h : Soon H w xs) (hk : Keeps [] H H') : Soon H' w xs := by
  rcases h with ⟨e, b, c, cs, rfl, hg⟩ | h
  · exact .inl ⟨e, b, c, cs, rfl, hk.get hg (by simp)⟩
  · exact .inr (h.keep0 hk)
theorem Soon.app {H : Heap} {w x : V} {xs ys : List It} {Q : V → Heap → Prop} (h : Soon H w xs) (hx : Sl H x ys) (hb : xs.length + ys.length ≤ 1000000000) (hQ : ∀ w' H', Soon H' w' (xs ++ ys) → Keeps (vb w) H H' → (∀ b ∈ vb w', b ∈ vb w ∨ H.next ≤ b) → Q w' H') : wp (ze6 3 32 w x) Q H := by
  by_cases hne : ys = []
  · subst hne
    have hf : ∃ a c, x = .slice a 0 c := by
      rcases hx with ⟨rfl, _⟩ | ⟨bb, o, u, c, rfl, _⟩
      · exact ⟨_, _, rfl⟩
      · exact ⟨_, _, rfl⟩
    obtain ⟨a, c, rfl⟩ := hf
    have hw : ∃ p n c', w = .slice p n c' := by
      rcases h with ⟨_, b, c, cs, rfl, _⟩ | h
      · exact ⟨_, _, _, rfl⟩
      · rcases h with ⟨rfl, _⟩ | ⟨b, rfl, _⟩
        · exact ⟨_, _, _, rfl⟩
        · exact ⟨_, _, _, rfl⟩
    obtain ⟨p, n, c', rfl⟩ := hw
    refine ⟨.slice p n c', H, ?_, hQ _ H (by rw [List.append_nil]; exact h) (Keeps.refl _ _) (fun b hb => .inl hb)⟩
    rfl
  · rcases h with ⟨rfl, b, c, cs, rfl, hg⟩ | h
    · refine zbwa (α := It) rfl hg hx hne (by simp at hb; omega) (by simp at hb; omega) fun H' o k n => hQ _ H' (.inr (by rw [List.nil_append]; exact o)) (by simpa using k) fun d hd => .inr (by simp at hd; omega)
    · exact zfk (α := It) rfl h hx (by omega) (by omega) fun w' H' o k v => hQ w' H' (.inr o) k v
theorem Soon.own {H : Heap} {w : V} {xs : List It} (h : Soon H w xs) (hne : xs ≠ []) : zcj H w xs := h.resolve_left fun q => hne q.1
theorem zb1h {H : Heap} (n : Nat) (hn : 0 < n) (hn2 : n ≤ 1000000000) (Q : V → Heap → Prop) (hQ : ∀ w H', Keeps [] H H' → Soon H' w [] → (∀ b ∈ vb w, H.next ≤ b) → Q w H') : wp (zdn [.slice none 0 0, i64 n]) Q H := by
  show wp (zd8 (.slice none 0 0) (i64 n)) Q H
  have hc0 : capV (.slice none 0 0) = some (i64 0) := rfl
  have hs0 : zh7 3 (.slice none 0 0) none (some (i64 0)) = some (.slice none 0 0) := by rfl
  have hl0 : zb9 (.slice none 0 0) = some (i64 0) := rfl
  have hpos : ((n : Nat) : Int) > 0 := by omega
  (try simp (maxSteps := 1000000) (disch := first | omega | (simp only [Z3]; omega) | (simp; done) | assumption | decide | (refine not_not_intro ?_; assumption)) only [Z1, Z2, splice, zd8, zjc, hc0, hl0, Int.sub_self, Int.sub_zero, hs0])
  have hrep : rep n [Value.bool false, Value.int .i64 0, (Value.string ⟨#[]⟩ : V)] = zba (List.replicate n (default : It)) := zbp1 (default : It) _ rfl n
  have e : appZ 3 32 [Value.bool false, Value.int .i64 0, Value.string ⟨#[]⟩] (.slice none 0 0) (i64 n) = zr4 3 32 (.slice none 0 0) n (some (zba (List.replicate n (default : It)))) := by
    funext K
    simp only [appZ]
    rw [if_pos ⟨rfl, by omega, by simp; omega, by simp; omega⟩]
    simp only [Int.toNat_natCast, hrep]
  rw [e]
  refine z34 (α := It) (xs := []) (ys := List.replicate n (default : It)) rfl (zcj.nil _) (by simp) (fun _ => rfl) (by simp; omega) (by simp; omega) fun w H1 o k v => ?_
  rw [List.nil_append] at o
  rcases o with ⟨_, q⟩ | ⟨b, rfl, g⟩
  · exfalso
    have := congrArg List.length q
    simp at this; omega
  · have hl : (List.replicate n (default : It)).length = n := by simp
    rw [hl] at v ⊢
    have hsub := zbtd (b := b) (s := 3) (n := n) (c := n) (h := 0) (k := .i64) (by omega) (by omega) hn
    have h3 : Flat.size It = 3 := rfl
    rw [h3] at v ⊢
    have hsub' : zh7 3 (slc b 0 3 n n) none (some (i64 0)) = some (slc b 0 3 0 n) := hsub
    (try simp (maxSteps := 1000000) (disch := first | omega | (simp only [Z3]; omega) | (simp; done) | assumption | decide | (refine not_not_intro ?_; assumption)) only [Z1, Z2, splice, hsub', zjb])
    refine hQ _ H1 (by simpa using k) (.inl ⟨rfl, b, n, _, rfl, g⟩) fun c hc => ?_
    have hcb : c = b := by simpa using hc
    subst hcb
    rcases v c (by simp) with q | q
    · simp at q
    · exact q
def z53 (ps : List (In It)) : List It := ps.flatMap (·.xs)
theorem zbmh {ps : List (In It)} {j : Nat} (h : j < ps.length) : z53 (ps.take (j + 1)) = z53 (ps.take j) ++ (ps.getD j default).xs := by
  unfold z53
  rw [List.take_succ, List.getElem?_eq_getElem h, List.flatMap_append, List.getD_eq_getElem?_getD, List.getElem?_eq_getElem h]
  simp
theorem zbuq (ps : List (In It)) (j : Nat) : (z53 (ps.take j)).length ≤ (z53 ps).length := by
  have : z53 ps = z53 (ps.take j) ++ z53 (ps.drop j) := by
    unfold z53; rw [← List.flatMap_append, List.take_append_drop]
  rw [this, List.length_append]; omega
theorem zbwb {H : Heap} {x : V} {ps : List (In It)} (h : Sl2 H x ps) (hps : ps.length ≤ 1000) (hpos : 0 < (z53 ps).length) (hb : (z53 ps).length ≤ 1000000000) (Q : V → Heap → Prop) (hQ : ∀ w H', Keeps [] H H' → zcj H' w (z53 ps) → (∀ b ∈ vb w, H.next ≤ b) → Q w H') : wp (zdh [x]) Q H := by
  show wp (zdy x) Q H
  have hlen := h.out.len
  (try simp (maxSteps := 1000000) (disch := first | omega | (simp only [Z3]; omega) | (simp; done) | assumption | decide | (refine not_not_intro ?_; assumption)) only [Z1, Z2, splice, zdy, hlen])
  refine zbt (Inv := fun k vs H' => ∃ j : Nat, k = ps.length - j ∧ j ≤ ps.length ∧ vs = [x, i64 (z53 (ps.take j)).length, x, i64 ps.length, i64 j] ∧ H' = H) (n := ps.length) (by unfold zcc; omega)
    ⟨0, by omega, by omega, by simp [z53], rfl⟩ ?_
  rintro k vs H' ⟨j, hk, hj, rfl, he⟩
  rw [he]; clear he H'
  by_cases hlt : j < ps.length
  case pos =>
    obtain ⟨a1, c1⟩ := h.get hlt
    rw [zl] at c1
    have hl1 := (h.at hlt).len
    have hst := zbmh hlt
    have hle := zbuq ps (j + 1)
    rw [hst, List.length_append] at hle
    have hn0 : ¬ (((z53 (ps.take j)).length : Int) + ((ps.getD j default).xs.length : Int) < 0) := by omega
    (try simp (maxSteps := 1000000) (disch := first | omega | (simp only [Z3]; omega) | (simp; done) | assumption | decide | (refine not_not_intro ?_; assumption)) only [Z1, Z2, splice, zfd, zid, a1, c1, hl1, zic])
    refine ⟨ps.length - (j + 1), by omega, j + 1, rfl, by omega, ?_⟩
    rw [hst, List.length_append]
    first | exact ⟨by push_cast; rfl, trivial⟩ | (push_cast; rfl)
  have : j = ps.length := by omega
  subst this
  rw [List.take_length]
  (try simp (maxSteps := 1000000) (disch := first | omega | (simp only [Z3]; omega) | (simp; done) | assumption | decide | (refine not_not_intro ?_; assumption)) only [Z1, Z2, splice, zfd, zih])
  refine zb1h _ hpos hb _ fun w0 H1 k1 s1 v1 => ?_
  (try simp (maxSteps := 1000000) (disch := first | omega | (simp only [Z3]; omega) | (simp; done) | assumption | decide | (refine not_not_intro ?_; assumption)) only [Z1, Z2, splice, hlen])
  refine zbt (Inv := fun k vs H' => ∃ (j : Nat) (w : V), k = ps.length - j ∧ j ≤ ps.length ∧ vs = [w, x, i64 ps.length, i64 j] ∧ Soon H' w (z53 (ps.take j)) ∧ Keeps [] H H' ∧ (∀ b ∈ vb w, H.next ≤ b)) (n := ps.length) (by unfold zcc; omega)
    ⟨0, w0, by omega, by omega, rfl, s1, k1, v1⟩ ?_
  rintro k vs H2 ⟨j, w, hk, hj, rfl, s2, k2, v2⟩
  by_cases hlt : j < ps.length
  case neg =>
    have : j = ps.length := by omega
    subst this
    rw [List.take_length] at s2
    (try simp (maxSteps := 1000000) (disch := first | omega | (simp only [Z3]; omega) | (simp; done) | assumption | decide | (refine not_not_intro ?_; assumption)) only [Z1, Z2, splice, zfe, zig])
    exact hQ _ _ k2 (s2.own (fun q => by rw [q] at hpos; simp at hpos)) v2
  have h2 := h.keep0 k2
  obtain ⟨a1, c1⟩ := h2.get hlt
  rw [zl] at c1
  have hst := zbmh hlt
  have hle := zbuq ps (j + 1)
  rw [hst, List.length_append] at hle
  (try simp (maxSteps := 1000000) (disch := first | omega | (simp only [Z3]; omega) | (simp; done) | assumption | decide | (refine not_not_intro ?_; assumption)) only [Z1, Z2, splice, zfe, zif, a1, c1])
  refine s2.app (h2.at hlt) (by omega) fun w3 H3 s3 k3 v3 => ?_
  (try simp (maxSteps := 1000000) (disch := first | omega | (simp only [Z3]; omega) | (simp; done) | assumption | decide | (refine not_not_intro ?_; assumption)) only [Z1, Z2, splice, zie])
  refine ⟨ps.length - (j + 1), by omega, j + 1, w3, rfl, by omega, by push_cast; rfl, by rw [hst]; exact s3, k2.trans k3 fun b hb hm => by have := v2 b hm; omega, fun b hb => ?_⟩
  rcases v3 b hb with q | q
  · exact v2 b q
  · exact Nat.le_trans k2.next q
def zdw (n : Int) : It := ⟨false, n, ⟨#[]⟩⟩
def z09 (k : ByteArray) (l : List It) : ByteArray × Int := if (zhu l).2 = 0 then (zbam k (zhu l).1, 0) else (⟨#[]⟩, (zhu l).2)
theorem zbfe (l : List It) : (zhu l).1.size ≤ 65536 := by
  by_cases h : (zhu l).2 = 0
  · obtain ⟨_, _, h3, h4⟩ := zbun h
    rw [h4, zgw]; exact h3
  · rw [zby3 h]; decide
theorem zbra (a b : Int) : zef (rep 2 [Value.bool false, Value.int .i64 0, (Value.string ⟨#[]⟩ : V)]) [(0, 3, .agg (Flat.enc (zdw a)).toArray), (3, 3, .agg (Flat.enc (zdw b)).toArray)] = some (zba [zdw a, zdw b]) := by rfl
theorem z8w (a : Int) : build [Value.bool false, Value.int .i64 0, (Value.string ⟨#[]⟩ : V)] [(1, 1, i64 a)] = some (.agg (Flat.enc (zdw a)).toArray) := by rfl
theorem zbmi {H : Heap} (hb : Base H) (k : ByteArray) (hk : k.size ≤ 1048576) {av sv' : V} {al says : List It} (ha : Sl H av al) (hs : Sl H sv' says) (hal : al.length ≤ 10) (hsl : says.length ≤ 1048576) (a b : Int) (Q : V → Heap → Prop)
    (hQ : ∀ H', Keeps [] H H' → Q (.tuple #[.string (z09 k (al ++ (zdw a :: zdw b :: says))).1, i64 (z09 k (al ++ (zdw a :: zdw b :: says))).2]) H') : wp (zkl [.string k, av, i64 a, i64 b, sv']) Q H := by
  show wp (zu2 (.string k) av (i64 a) (i64 b) sv') Q H
  unfold zu2
  rw [zk, zk, zbs, z8w, zz, zk, zbs, z8w, zz, zk]
  refine (zgv (cs := zba [zdw a, zdw b]) (by rfl) (zbra a b)).mpr ?_
  have k1 : Keeps [] H (H.push (some (.cells true (zba [zdw a, zdw b])))) := Keeps.push _ _ _
  have o1 := zd1 (H := H) (xs := [zdw a, zdw b]) (n := 3) (m := 2) rfl rfl
  generalize H.push (some (.cells true (zba [zdw a, zdw b]))) = H1 at *
  rw [zk]
  have hav := ha.isOne
  have hsv := hs.isOne
  generalize hps : ([⟨av, al, hav⟩, ⟨slc H.next 0 3 2 2, [zdw a, zdw b], rfl⟩, ⟨sv', says, hsv⟩] : List (In It)) = ps
  have hfill : zef (rep 3 [(Value.slice none 0 0 : V)]) [(0, 1, av), (1, 1, slc H.next 0 3 2 2), (2, 1, sv')] = some (zba ps) := by
    subst hps
    rw [zo hav (by decide), zo rfl (by rw [List.length_set]; decide), zo hsv (by rw [List.length_set, List.length_set]; decide), zx]
    rfl
  refine (zgv (cs := zba ps) (by rfl) hfill).mpr ?_
  have k2 : Keeps [] H1 (H1.push (some (.cells true (zba ps)))) := Keeps.push _ _ _
  have o2 := zd1 (H := H1) (xs := ps) (n := 1) (m := 3) rfl (by subst hps; rfl)
  generalize H1.push (some (.cells true (zba ps))) = H2 at *
  have hcat : z53 ps = al ++ (zdw a :: zdw b :: says) := by subst hps; simp [z53]
  have hsl2 : Sl2 H2 (slc H1.next 0 1 3 3) ps := ⟨o2.sl, fun y hy => by
    subst hps
    simp at hy
    rcases hy with rfl | rfl | rfl
    · exact (ha.keep0 k1).keep0 k2
    · exact (o1.keep0 k2).sl
    · exact (hs.keep0 k1).keep0 k2⟩
  rw [zk]
  refine zbwb hsl2 (by subst hps; simp) (by rw [hcat]; simp; omega) (by rw [hcat]; simp; omega) _ fun w H3 k3 o3 _ => ?_
  rw [hcat] at o3
  have k03 : Keeps [] H H3 := (k1.trans k2 (by simp)).trans k3 (by simp)
  (try simp (maxSteps := 1000000) (disch := first | omega | (simp only [Z3]; omega) | (simp; done) | assumption | decide | (refine not_not_intro ?_; assumption)) only [Z1, Z2, splice])
  refine zb2v o3.sl _ fun H4 k4 => ?_
  have k04 : Keeps [] H H4 := k03.trans k4 (by simp)
  have hsz := zbfe (al ++ (zdw a :: zdw b :: says))
  unfold z09 at hQ
  by_cases he : (zhu (al ++ (zdw a :: zdw b :: says))).2 = 0
  · rw [if_pos he] at hQ
    rw [he]
    (try simp (maxSteps := 1000000) (disch := first | omega | (simp only [Z3]; omega) | (simp; done) | assumption | decide | (refine not_not_intro ?_; assumption)) only [Z1, Z2, splice, z7z])
    refine zbqw H4 k _ (by omega) (by omega) (hb.keep k04) _ fun H5 k5 => ?_
    (try simp (maxSteps := 1000000) (disch := first | omega | (simp only [Z3]; omega) | (simp; done) | assumption | decide | (refine not_not_intro ?_; assumption)) only [Z1, Z2, splice])
    exact hQ _ (k04.trans k5 (by simp))
  · rw [if_neg he] at hQ
    (try simp (maxSteps := 1000000) (disch := first | omega | (simp only [Z3]; omega) | (simp; done) | assumption | decide | (refine not_not_intro ?_; assumption)) only [Z1, Z2, splice])
    exact hQ _ k04
def zg2 (k : ByteArray) (id number : Int) (says : List It) : ByteArray × Int := z09 k (zdw id :: zdw number :: says)
theorem zbtg {H : Heap} (hb : Base H) (k : ByteArray) (hk : k.size ≤ 1048576) {sv' : V} {says : List It} (hs : Sl H sv' says) (hsl : says.length ≤ 1048576) (a b : Int) (Q : V → Heap → Prop)
    (hQ : ∀ H', Keeps [] H H' → Q (.tuple #[.string (zg2 k a b says).1, i64 (zg2 k a b says).2]) H') : wp (zln [.string k, i64 a, i64 b, sv']) Q H := by
  show wp (ztm (.string k) (i64 a) (i64 b) sv') Q H
  unfold ztm
  rw [zk, zk]
  refine zbmi hb k hk (Sl.nil H) hs (by simp) hsl a b _ fun H1 k1 => ?_
  (try simp (maxSteps := 1000000) (disch := first | omega | (simp only [Z3]; omega) | (simp; done) | assumption | decide | (refine not_not_intro ?_; assumption)) only [Z1, Z2, splice, List.nil_append])
  exact hQ _ k1
end Go.AM.Cap
