import Derived.Test.YtehhkminlafeiaaGreatDoorSeC
import Derived.Test.YtehhkminlafeiaaGreatDoorAmOpenF
set_option linter.all false
/- sess: shelves (written by gense.py: the same text for challenges and for sessions) -/
set_option maxHeartbeats 16000000
namespace Go.AM.Cap
open Go.AM Go.Proofs
structure Ch where
  user : Us
  nonce : ByteArray
  frame : Int
instance : Inhabited Ch := ⟨⟨default, ⟨#[]⟩, 0⟩⟩
instance : Flat Ch := ⟨5, fun c => [.string c.user.name, .string c.user.key, c.user.rs.v, .string c.nonce, i64 c.frame], fun _ => rfl, fun c => by simp [c.user.rs.one], by decide⟩
theorem zbff (c : Ch) : Flat.enc c = [.string c.user.name, .string c.user.key, c.user.rs.v, .string c.nonce, i64 c.frame] := rfl
theorem zbbg (c : Ch) : ([.string c.user.name, .string c.user.key, c.user.rs.v, .string c.nonce, i64 c.frame] : List V).all Value.isOne = true := by simp [c.user.rs.one]
structure Se where
  user : Us
  key : ByteArray
  next : Int
  frame : Int
instance : Inhabited Se := ⟨⟨default, ⟨#[]⟩, 0, 0⟩⟩
instance : Flat Se := ⟨6, fun c => [.string c.user.name, .string c.user.key, c.user.rs.v, .string c.key, i64 c.next, i64 c.frame], fun _ => rfl, fun c => by simp [c.user.rs.one], by decide⟩
theorem zbj9 (c : Se) : Flat.enc c = [.string c.user.name, .string c.user.key, c.user.rs.v, .string c.key, i64 c.next, i64 c.frame] := rfl
theorem zbfg (c : Se) : ([.string c.user.name, .string c.user.key, c.user.rs.v, .string c.key, i64 c.next, i64 c.frame] : List V).all Value.isOne = true := by simp [c.user.rs.one]
theorem zcj.sub {α : Type} [Flat α] {H H' : Heap} {v : V} {l : List α} (h : zcj H v l) (hs : ∀ b ∈ vb v, H'.get b = H.get b) : zcj H' v l := by
  rcases h with h | ⟨b, rfl, hb⟩
  · exact .inl h
  · exact .inr ⟨b, rfl, by rw [hs b (by simp)]; exact hb⟩
theorem z3k : ∀ l : List V, (∀ v ∈ l, vEq.vEq1 v v = true) → vEq.vEqs l l = true
  | [], _ => rfl
  | v :: l, h => by
    have h1 := h v (by simp)
    have h2 := z3k l (fun w hw => h w (by simp [hw]))
    simp [vEq.vEqs, h1, h2]
theorem zbhf {α : Type} [Flat α] {H : Heap} {v : V} {l : List α} (h : zcj H v l) : zwp (some v) v = true := by
  rcases h with ⟨rfl, _⟩ | ⟨b, rfl, _⟩
  · rfl
  · exact zbo _ _ _
theorem zbur (x : Ch) (hv : vEq.vEq1 x.user.rs.v x.user.rs.v = true) : ∀ v ∈ ([.string x.user.name, .string x.user.key, x.user.rs.v, .string x.nonce, i64 x.frame] : List V), vEq.vEq1 v v = true := by
  intro v h
  simp only [List.mem_cons, List.not_mem_nil, or_false] at h
  rcases h with rfl | rfl | rfl | rfl | rfl <;> first | exact hv | simp [vEq.vEq1]
theorem zb1i (x : Ch) : zef (rep 1 [Value.string ⟨#[]⟩, Value.string ⟨#[]⟩, Value.slice none 0 0, Value.string ⟨#[]⟩, Value.int .i64 0]) [(0, 5, .agg (Flat.enc x).toArray)] = some (zba [x]) := by
  rw [z9 (n := 5) (vs := Flat.enc x) (zbbg x) rfl (by decide), zx]
  rfl
theorem zbre (x : Ch) : zef (rep 1 [Value.string ⟨#[]⟩, Value.string ⟨#[]⟩, Value.slice none 0 0, Value.string ⟨#[]⟩, Value.int .i64 0]) [(0, 5, .agg (([.string x.user.name, .string x.user.key, x.user.rs.v, .string x.nonce, i64 x.frame] : List V)).toArray)] = some (zba [x]) := zb1i x
set_option maxRecDepth 20000 in
theorem zb20 {H : Heap} {d : Nat} {c0 c1 c2 c6 c7 c8 : V} {iv lv : V} {last : Int} {ids : List Int} {xs : List Ch} (hd : H.get d = some (.cells true [c0, c1, c2, i64 last, iv, lv, c6, c7, c8])) (hi : zcj H iv ids) (hl : zcj H lv xs) (h1 : d ∉ vb iv) (h2 : d ∉ vb lv) (h3 : ∀ b ∈ vb iv, b ∉ vb lv)
    (hlast : 0 ≤ last ∧ last ≤ 1000000) (hxl : xs.length < 8) (hil : ids.length ≤ 100) (x : Ch) (hv : vEq.vEq1 x.user.rs.v x.user.rs.v = true) (Q : V → Heap → Prop)
    (hQ : ∀ w3 w5 H', H'.get d = some (.cells true [c0, c1, c2, i64 (last + 1), w3, w5, c6, c7, c8]) → zcj H' w3 (ids ++ [last + 1]) → zcj H' w5 (xs ++ [x]) → Keeps (d :: (vb iv ++ vb lv)) H H' → (∀ b ∈ vb w3, b ∈ vb iv ∨ H.next ≤ b) → (∀ b ∈ vb w5, b ∈ vb lv ∨ H.next ≤ b) → (∀ b ∈ vb w3, b ∉ vb w5) → Q (.tuple #[i64 (last + 1), .bool true]) H') :
    wp (zcv [ptr d 3, .agg (Flat.enc x).toArray]) Q H := by
  show wp (zda (ptr d 3) (.agg (Flat.enc x).toArray)) Q H
  have ho := zbbg x
  have hdlt := Heap.get_lt hd
  have hilt := hi.lt
  have hllt := hl.lt
  have hlen := hl.len
  have hx8 : ¬ ((xs.length : Int) = 8) := by omega
  unfold zda
  rw [zk, zk, zbff]
  refine (zbu ho).mpr ?_
  have k1 : Keeps [] H (H.push (some (.cells true [.string x.user.name, .string x.user.key, x.user.rs.v, .string x.nonce, i64 x.frame]))) := Keeps.push _ _ _
  have g1 : (H.push (some (.cells true [.string x.user.name, .string x.user.key, x.user.rs.v, .string x.nonce, i64 x.frame]))).get H.next = some (.cells true [.string x.user.name, .string x.user.key, x.user.rs.v, .string x.nonce, i64 x.frame]) := Heap.get_push_self _ _
  have n1 : (H.push (some (.cells true [.string x.user.name, .string x.user.key, x.user.rs.v, .string x.nonce, i64 x.frame]))).next = H.next + 1 := by simp
  generalize H.push (some (.cells true [.string x.user.name, .string x.user.key, x.user.rs.v, .string x.nonce, i64 x.frame])) = H1 at *
  have d1 := k1.get hd (by simp)
  have i1 := hi.keep0 k1
  have l1 := hl.keep0 k1
  (try simp (maxSteps := 1000000) (disch := first | omega | (simp only [Z3]; omega) | (simp; done) | assumption | decide | (refine not_not_intro ?_; assumption)) only [Z1, Z2, splice, d1, hlen, zjz])
  have d2 : (H1.set d (some (.cells true [c0, c1, c2, i64 (last + 1), iv, lv, c6, c7, c8]))).get d = some (.cells true [c0, c1, c2, i64 (last + 1), iv, lv, c6, c7, c8]) := Heap.get_set_eq (by omega)
  have k2 : Keeps [d] H1 (H1.set d (some (.cells true [c0, c1, c2, i64 (last + 1), iv, lv, c6, c7, c8]))) := Keeps.set (by simp)
  have n2 : (H1.set d (some (.cells true [c0, c1, c2, i64 (last + 1), iv, lv, c6, c7, c8]))).next = H1.next := by simp
  have g2 := k2.get g1 (by simp; omega)
  have i2 := i1.keep k2 (fun b hb q => by simp at q; exact h1 (q ▸ hb))
  have l2 := l1.keep k2 (fun b hb q => by simp at q; exact h2 (q ▸ hb))
  generalize H1.set d (some (.cells true [c0, c1, c2, i64 (last + 1), iv, lv, c6, c7, c8])) = H2 at *
  refine zrj.mpr ?_
  rw [zbn]
  have k3 : Keeps [] H2 ((H2.push none).push none) := zh8 (Keeps.push _ _ _)
  have n3 : ((H2.push none).push none).next = H2.next + 2 := by simp
  have f30 : ((H2.push none).push none).get H2.next = none := by rw [Heap.get_push_lt (by simp)]; exact Heap.get_push_self _ _
  have f31 : ((H2.push none).push none).get (H2.next + 1) = none := Heap.get_push_eq (by simp)
  generalize (H2.push none).push none = H3 at *
  have d3 := k3.get d2 (by simp)
  have g3 := k3.get g2 (by simp)
  have hl6 : ([.string x.user.name, .string x.user.key, x.user.rs.v, .string x.nonce, i64 x.frame] : List V).length = 5 := rfl
  have r3 := fun Q => zgi (Q := Q) g3 hl6
  (try simp (maxSteps := 1000000) (disch := first | omega | (simp only [Z3]; omega) | (simp; done) | assumption | decide | (refine not_not_intro ?_; assumption)) only [Z1, zl, zr, zcr, zeh, eq_self, true_and, zcu, zck, zc6, zby, zbu, Heap.get_push_eq, Heap.get_push_lt, Heap.get_set_eq, Heap.get_set_ne', Heap.next_push', Heap.next_set', Heap.set_push_lt, Heap.set_push_eq, Heap.set_set, zbz, zb0, zbf, zb3, zb4, z4, zbh, zb5, zbq, zbe, zbv, zbw, zbo, zbx, List.set_cons_zero, List.set_cons_succ, List.length_cons, List.length_nil, List.drop_succ_cons, List.drop_zero, List.take_succ_cons, List.take_zero, List.nil_append, List.cons_append, splice, zbb, zbc, z0, zq, zm, zbd, zb1, zbg, zc8, zcm, zb2, zb8, zx, zo, z9, Option.map_some, zb6, zbn, z6, zbi, zbj, zbk, z5, zbl, zbm, d3, r3])
  refine zgq (cs := zba [last + 1]) f30 (by omega) (by rfl) (by rfl) ?_
  have k4 : Keeps [H2.next] H3 (H3.set H2.next (some (.cells true (zba [last + 1])))) := Keeps.set (by simp)
  have n4 : (H3.set H2.next (some (.cells true (zba [last + 1])))).next = H3.next := by simp
  have o4 : zcj (H3.set H2.next (some (.cells true (zba [last + 1])))) (slc H2.next 0 1 1 1) [last + 1] := .inr ⟨H2.next, rfl, Heap.get_set_eq (by omega)⟩
  generalize H3.set H2.next (some (.cells true (zba [last + 1]))) = H4 at *
  have k34 : Keeps [] H2 H4 := k3.trans k4 (fun b hb q => by simp at q; omega)
  have i4 := i2.keep0 k34
  have l4 := l2.keep0 k34
  have d4 := k34.get d2 (by simp)
  have g4 := k34.get g2 (by simp)
  have f41 : H4.get (H2.next + 1) = none := by rw [k4.same _ (by omega) (by simp)]; exact f31
  (try simp (maxSteps := 1000000) (disch := first | omega | (simp only [Z3]; omega) | (simp; done) | assumption | decide | (refine not_not_intro ?_; assumption)) only [Z1, Z2, splice])
  refine zfk (α := Int) rfl i4 o4.sl (by simp; omega) (by simp; omega) fun w3 H5 i5 k5 v5 => ?_
  have n5 := k5.next
  have d5 := k5.get d4 h1
  have g5 := k5.get g4 (fun q => by have := hilt _ q; omega)
  have l5 := l4.keep k5 (fun b hb q => h3 b q hb)
  have f51 : H5.get (H2.next + 1) = none := by rw [k5.same _ (by omega) (fun q => by have := hilt _ q; omega)]; exact f41
  have fr4 : zej H4 [H2.next + 1] = true := by rw [zgp f41 (by omega)]; rfl
  have fr5 : zej H5 [H2.next + 1] = true := by rw [zgp f51 (by omega)]; rfl
  have w3lt := i5.lt
  (try simp (maxSteps := 1000000) (disch := first | omega | (simp only [Z3]; omega) | (simp; done) | assumption | decide | (refine not_not_intro ?_; assumption)) only [Z1, Z2, splice, fr4, fr5, Bool.and_self])
  refine zgq (cs := zba [x]) f51 (by omega) (by rfl) (zbre x) ?_
  have k6 : Keeps [H2.next + 1] H5 (H5.set (H2.next + 1) (some (.cells true (zba [x])))) := Keeps.set (by simp)
  have n6 : (H5.set (H2.next + 1) (some (.cells true (zba [x])))).next = H5.next := by simp
  have o6 : zcj (H5.set (H2.next + 1) (some (.cells true (zba [x])))) (slc (H2.next + 1) 0 5 1 1) [x] := .inr ⟨H2.next + 1, rfl, Heap.get_set_eq (by omega)⟩
  generalize H5.set (H2.next + 1) (some (.cells true (zba [x]))) = H6 at *
  have v5' : ∀ b ∈ vb w3, b ∈ vb iv ∨ H4.next ≤ b := v5
  have i6 := i5.keep k6 (fun b hb q => by
    simp at q
    rcases v5' b hb with z | z
    · have := hilt b z; omega
    · omega)
  have l6 := l5.keep k6 (fun b hb q => by simp at q; have := hllt b hb; omega)
  have d6 := k6.get d5 (by simp; omega)
  have g6 := k6.get g5 (by simp; omega)
  (try simp (maxSteps := 1000000) (disch := first | omega | (simp only [Z3]; omega) | (simp; done) | assumption | decide | (refine not_not_intro ?_; assumption)) only [Z1, Z2, splice])
  refine zfk (α := Ch) rfl l6 o6.sl (by simp; omega) (by simp; omega) fun w5 H7 l7 k7 v7 => ?_
  have n7 := k7.next
  have d7 := k7.get d6 h2
  have i7 := i6.keep k7 (fun b hb q => by
    rcases v5' b hb with z | z
    · exact h3 b z q
    · have := hllt b q; omega)
  have hw3 := i7.isOne
  have hw5 := l7.isOne
  have hd7lt : d < H7.next := by omega
  have dn3 : d ∉ vb w3 := fun q => (v5' d q).elim h1 (fun z => by omega)
  have dn5 : d ∉ vb w5 := fun q => (v7 d q).elim h2 (fun z => by omega)
  have ck1 : chk (ldn 5 (ptr H.next 0)) H5 (.agg ([.string x.user.name, .string x.user.key, x.user.rs.v, .string x.nonce, i64 x.frame] : List V).toArray) = true := by
    obtain ⟨r, K, hK1, hK2⟩ := (zgi (Q := fun r K => r = .agg ([.string x.user.name, .string x.user.key, x.user.rs.v, .string x.nonce, i64 x.frame] : List V).toArray ∧ K = H5) g5 hl6).mpr ⟨rfl, rfl⟩
    unfold chk
    rw [hK1]
    show vEq r _ = true
    rw [hK2.1]
    exact z3k _ (zbur x hv)
  have hchk2 : zwp (some lv) lv = true := zbhf hl
  (try simp (maxSteps := 1000000) (disch := first | omega | (simp only [Z3]; omega) | (simp; done) | assumption | decide | (refine not_not_intro ?_; assumption)) only [Z1, Z2, splice, d7, d5, ck1, hchk2])
  have dset : (H7.set d (some (.cells true [c0, c1, c2, i64 (last + 1), w3, w5, c6, c7, c8]))).get d = some (.cells true [c0, c1, c2, i64 (last + 1), w3, w5, c6, c7, c8]) := Heap.get_set_eq (by omega)
  have k8 : Keeps [d] H7 (H7.set d (some (.cells true [c0, c1, c2, i64 (last + 1), w3, w5, c6, c7, c8]))) := Keeps.set (by simp)
  refine ⟨hw3, hw5, ?_⟩
  refine hQ w3 w5 _ dset (i7.keep k8 (fun b hb q => by simp at q; exact dn3 (q ▸ hb))) (l7.keep k8 (fun b hb q => by simp at q; exact dn5 (q ▸ hb))) ?_ ?_ ?_ ?_
  · refine ⟨by simp; omega, fun b hb hn => ?_⟩
    simp at hn
    rw [Heap.get_set_ne' hn.1, k7.same b (by omega) hn.2.2, k6.same b (by omega) (by simp; omega), k5.same b (by omega) hn.2.1, k34.same b (by omega) (by simp), k2.same b (by omega) (by simp; exact hn.1), k1.same b hb (by simp)]
  · exact fun b hb => (v5' b hb).imp id (fun z => by omega)
  · exact fun b hb => (v7 b hb).imp id (fun z => by omega)
  · intro b hb hb'
    have b3 := w3lt b hb
    rcases v7 b hb' with z | z
    · rcases v5' b hb with y | y
      · exact h3 b y z
      · have := hllt b z; omega
    · omega
theorem zb21 {H : Heap} {d : Nat} {c0 c1 c2 c6 c7 c8 : V} {iv lv : V} {last : Int} {ids : List Int} {xs : List Ch} (hd : H.get d = some (.cells true [c0, c1, c2, i64 last, iv, lv, c6, c7, c8])) (hi : zcj H iv ids) (hl : zcj H lv xs) (heq : ids.length = xs.length) (hil : ids.length ≤ 100) (id : Int) (Q : V → Heap → Prop)
    (hQ : Q (match zgj (fun y => decide (id = y)) ids with | none => .pointer none | some i => ptr (slB lv) (slO lv + i * 5)) H) : wp (zdb [ptr d 3, i64 id]) Q H := by
  show wp (zez (ptr d 3) (i64 id)) Q H
  (try simp (maxSteps := 1000000) (disch := first | omega | (simp only [Z3]; omega) | (simp; done) | assumption | decide | (refine not_not_intro ?_; assumption)) only [Z1, Z2, splice, zez, hd, Nat.reduceAdd])
  refine zbj6 hi.sl (by omega) id _ ?_
  cases hf : zgj (fun y => decide (id = y)) ids with
  | none =>
    rw [hf] at hQ
    (try simp (maxSteps := 1000000) (disch := first | omega | (simp only [Z3]; omega) | (simp; done) | assumption | decide | (refine not_not_intro ?_; assumption)) only [Z1, Z2, splice, zzu])
    exact hQ
  | some i =>
    rw [hf] at hQ
    obtain ⟨hi', _, _⟩ := zey (d := 0) hf
    have a1 := hl.sl.addr' (n := 5) rfl (k := .i64) (i := (i : Int)) (by omega) (by omega)
    rw [Int.toNat_natCast] at a1
    have hn : ¬ ((i : Int) < 0) := by omega
    (try simp (maxSteps := 1000000) (disch := first | omega | (simp only [Z3]; omega) | (simp; done) | assumption | decide | (refine not_not_intro ?_; assumption)) only [Z1, Z2, splice, zzu, zj1, hd, Nat.reduceAdd, a1])
    exact hQ
def zpi (p : Int → Ch → Bool) (ids : List Int) (xs : List Ch) : List (Int × Ch) := (ids.zip xs).filter fun e => p e.1 e.2
set_option maxRecDepth 20000 in
theorem zbka {S : zp} {f : V} {H : Heap} {d : Nat} {c0 c1 c2 c6 c7 c8 : V} {iv lv : V} {last : Int} {ids : List Int} {xs : List Ch} (hd : H.get d = some (.cells true [c0, c1, c2, i64 last, iv, lv, c6, c7, c8])) (hi : zcj H iv ids) (hl : zcj H lv xs) (heq : ids.length = xs.length) (hxl : xs.length ≤ 8) (hvs : ∀ x ∈ xs, vEq.vEq1 x.user.rs.v x.user.rs.v = true)
    (p : Int → Ch → Bool) (hp : ∀ (H2 : Heap) (i : Int) (x : Ch) (Q : V → Heap → Prop), Keeps [] H H2 → (∀ H', Keeps [] H2 H' → Q (.bool (p i x)) H') → wp (zxn (ovr [] S) f [i64 i, .agg (Flat.enc x).toArray]) Q H2) (Q : V → Heap → Prop)
    (hQ : ∀ w3 w5 H', H'.get d = some (.cells true [c0, c1, c2, i64 last, w3, w5, c6, c7, c8]) → zcj H' w3 ((zpi p ids xs).map (·.1)) → zcj H' w5 ((zpi p ids xs).map (·.2)) → Keeps [d] H H' → (∀ b ∈ vb w3, H.next ≤ b) → (∀ b ∈ vb w5, H.next ≤ b) → (∀ b ∈ vb w3, b ∉ vb w5) → Q (.tuple #[]) H') :
    wp (zci S [ptr d 3, f]) Q H := by
  show wp (zeo S (ptr d 3) f) Q H
  have hlen := hl.len
  have hdlt := Heap.get_lt hd
  (try simp (maxSteps := 1000000) (disch := first | omega | (simp only [Z3]; omega) | (simp; done) | assumption | decide | (refine not_not_intro ?_; assumption)) only [Z1, Z2, splice, zeo, hd, Nat.reduceAdd, hlen])
  refine zbt (Inv := fun k vs H' => ∃ (j : Nat) (w3 w5 : V), k = xs.length - j ∧ j ≤ xs.length ∧ vs = [ptr d 3, f, w3, w5, lv, i64 xs.length, i64 j] ∧ zcj H' w3 ((zpi p (ids.take j) (xs.take j)).map (·.1)) ∧ zcj H' w5 ((zpi p (ids.take j) (xs.take j)).map (·.2)) ∧ Keeps [] H H' ∧ (∀ b ∈ vb w3, H.next ≤ b) ∧ (∀ b ∈ vb w5, H.next ≤ b) ∧ (∀ b ∈ vb w3, b ∉ vb w5)) (n := xs.length) (by unfold zcc; omega)
    ⟨0, _, _, by omega, by omega, rfl, zcj.nil _, zcj.nil _, Keeps.refl _ _, by simp, by simp, by simp⟩ ?_
  rintro k vs H1 ⟨j, w3, w5, hk, hj, rfl, o3, o5, k1, v3, v5, hdis⟩
  have d1 := k1.get hd (by simp)
  by_cases hlt : j < xs.length
  case neg =>
    have : j = xs.length := by omega
    subst this
    have et : ids.take xs.length = ids := by rw [← heq, List.take_length]
    rw [et, List.take_length] at o3 o5
    have hw3 := o3.isOne
    have hw5 := o5.isOne
    have hd1lt : d < H1.next := by have := k1.next; omega
    (try simp (maxSteps := 1000000) (disch := first | omega | (simp only [Z3]; omega) | (simp; done) | assumption | decide | (refine not_not_intro ?_; assumption)) only [Z1, Z2, splice, zf9, zjm, d1, Nat.reduceAdd])
    have dset : (H1.set d (some (.cells true [c0, c1, c2, i64 last, w3, w5, c6, c7, c8]))).get d = some (.cells true [c0, c1, c2, i64 last, w3, w5, c6, c7, c8]) := Heap.get_set_eq hd1lt
    have k8 : Keeps [d] H1 (H1.set d (some (.cells true [c0, c1, c2, i64 last, w3, w5, c6, c7, c8]))) := Keeps.set (by simp)
    refine ⟨hw3, hw5, ?_⟩
    exact hQ w3 w5 _ dset (o3.keep k8 (fun b hb q => by simp at q; have := v3 b hb; omega)) (o5.keep k8 (fun b hb q => by simp at q; have := v5 b hb; omega)) (zfj (k1.mono (by simp)) (.inl (by simp))) v3 v5 hdis
  have l1 := hl.keep0 k1
  have i1 := hi.keep0 k1
  have a1 := l1.sl.addr' (n := 5) rfl (k := .i64) (i := (j : Int)) (by omega) (by omega)
  rw [Int.toNat_natCast] at a1
  have r1 := fun Q => l1.sl.ldn' (Q := Q) (n := 5) rfl hlt default
  have hji : j < ids.length := by omega
  have b1 := i1.sl.addr1 rfl (k := .i64) (i := (j : Int)) (by omega) (by omega)
  rw [Int.toNat_natCast] at b1
  have c1 : ∀ {K : Heap}, zcj K iv ids → zlr (K.get (slB iv)) (slO iv + j) = some (i64 (ids.getD j 0)) := fun {K} hK => by
    have := hK.sl.cell1 rfl hji 0
    rw [zl] at this
    exact this
  have c1' := c1 i1
  have hvx := hvs _ (zdx (d := default) hlt)
  have hst : zpi p (ids.take (j + 1)) (xs.take (j + 1)) = zpi p (ids.take j) (xs.take j) ++ (if p (ids.getD j 0) (xs.getD j default) then [(ids.getD j 0, xs.getD j default)] else []) := by
    unfold zpi
    rw [List.take_succ, List.take_succ, List.getElem?_eq_getElem hji, List.getElem?_eq_getElem hlt, List.zip_append (by simp [heq]), List.filter_append, List.getD_eq_getElem?_getD, List.getD_eq_getElem?_getD, List.getElem?_eq_getElem hji, List.getElem?_eq_getElem hlt]
    congr 1
    by_cases hq : p ids[j] xs[j] = true <;> simp [hq]
  have hkl : (zpi p (ids.take j) (xs.take j)).length ≤ 8 := by
    unfold zpi
    have := List.length_filter_le (fun e : Int × Ch => p e.1 e.2) ((ids.take j).zip (xs.take j))
    rw [List.length_zip, List.length_take, List.length_take] at this; omega
  generalize ids.getD j 0 = id at *
  generalize xs.getD j default = x at *
  have ho := zbbg x
  have k2 : Keeps [] H1 (H1.push (some (.cells true [.string x.user.name, .string x.user.key, x.user.rs.v, .string x.nonce, i64 x.frame]))) := Keeps.push _ _ _
  have g2 : (H1.push (some (.cells true [.string x.user.name, .string x.user.key, x.user.rs.v, .string x.nonce, i64 x.frame]))).get H1.next = some (.cells true [.string x.user.name, .string x.user.key, x.user.rs.v, .string x.nonce, i64 x.frame]) := Heap.get_push_self _ _
  have n2 : (H1.push (some (.cells true [.string x.user.name, .string x.user.key, x.user.rs.v, .string x.nonce, i64 x.frame]))).next = H1.next + 1 := by simp
  have d2 := k2.get d1 (by simp)
  have c2 := c1 (i1.keep0 k2)
  have hn1 := k1.next
  have hl6 : ([.string x.user.name, .string x.user.key, x.user.rs.v, .string x.nonce, i64 x.frame] : List V).length = 5 := rfl
  have hdne : d ≠ H1.next := by omega
  have r2 := fun Q => zgi (Q := Q) g2 hl6
  (try simp (maxSteps := 1000000) (disch := first | omega | (simp only [Z3]; omega) | (simp; done) | assumption | decide | (refine not_not_intro ?_; assumption)) only [Z1, zl, zr, zcr, zeh, eq_self, true_and, zcu, zck, zc6, zby, zbu, Heap.get_push_eq, Heap.get_push_lt, Heap.get_set_eq, Heap.get_set_ne', Heap.next_push', Heap.next_set', Heap.set_push_lt, Heap.set_push_eq, Heap.set_set, zbz, zb0, zbf, zb3, zb4, z4, zbh, zb5, zbq, zbe, zbv, zbw, zbo, zbx, List.set_cons_zero, List.set_cons_succ, List.length_cons, List.length_nil, List.drop_succ_cons, List.drop_zero, List.take_succ_cons, List.take_zero, List.nil_append, List.cons_append, splice, zbb, zbc, z0, zq, zm, zbd, zb1, zbg, zc8, zcm, zb2, zb8, zx, zo, z9, Option.map_some, zb6, zbn, z6, zbi, zbj, zbk, z5, zbl, zbm, zf9, zjl, a1, r1, zbff, d1, d2, Nat.reduceAdd, b1, c1', c2, r2])
  generalize H1.push (some (.cells true [.string x.user.name, .string x.user.key, x.user.rs.v, .string x.nonce, i64 x.frame])) = H2 at *
  have k02 : Keeps [] H H2 := k1.trans k2 (by simp)
  refine hp H2 id x _ k02 fun H3 k3 => ?_
  have k03 : Keeps [] H H3 := k02.trans k3 (by simp)
  have d3 := k3.get d2 (by simp)
  have g3 := k3.get g2 (by simp)
  have c3 := c1 ((i1.keep0 k2).keep0 k3)
  have o33 := (o3.keep0 k2).keep0 k3
  have o53 := (o5.keep0 k2).keep0 k3
  have n3 := k3.next
  cases hpx : p id x with
  | false =>
    rw [hpx, if_neg (by simp), List.append_nil] at hst
    (try simp (maxSteps := 1000000) (disch := first | omega | (simp only [Z3]; omega) | (simp; done) | assumption | decide | (refine not_not_intro ?_; assumption)) only [Z1, Z2, splice, zf8])
    exact ⟨xs.length - (j + 1), by omega, j + 1, w3, w5, rfl, by omega, by push_cast; rfl, by rw [hst]; exact o33, by rw [hst]; exact o53, k03, v3, v5, hdis⟩
  | true =>
    rw [hpx, if_pos rfl] at hst
    (try simp (maxSteps := 1000000) (disch := first | omega | (simp only [Z3]; omega) | (simp; done) | assumption | decide | (refine not_not_intro ?_; assumption)) only [Z1, Z2, splice])
    refine zrj.mpr ?_
    rw [zbn]
    have k4 : Keeps [] H3 ((H3.push none).push none) := zh8 (Keeps.push _ _ _)
    have n4 : ((H3.push none).push none).next = H3.next + 2 := by simp
    have f40 : ((H3.push none).push none).get H3.next = none := by rw [Heap.get_push_lt (by simp)]; exact Heap.get_push_self _ _
    have f41 : ((H3.push none).push none).get (H3.next + 1) = none := Heap.get_push_eq (by simp)
    generalize (H3.push none).push none = H4 at *
    have d4 := k4.get d3 (by simp)
    have g4 := k4.get g3 (by simp)
    have c4 := c1 (((i1.keep0 k2).keep0 k3).keep0 k4)
    have r4 := fun Q => zgi (Q := Q) g4 hl6
    have o34 := o33.keep0 k4
    have o54 := o53.keep0 k4
    have w3lt := o33.lt
    have w5lt := o53.lt
    (try simp (maxSteps := 1000000) (disch := first | omega | (simp only [Z3]; omega) | (simp; done) | assumption | decide | (refine not_not_intro ?_; assumption)) only [Z1, zl, zr, zcr, zeh, eq_self, true_and, zcu, zck, zc6, zby, zbu, Heap.get_push_eq, Heap.get_push_lt, Heap.get_set_eq, Heap.get_set_ne', Heap.next_push', Heap.next_set', Heap.set_push_lt, Heap.set_push_eq, Heap.set_set, zbz, zb0, zbf, zb3, zb4, z4, zbh, zb5, zbq, zbe, zbv, zbw, zbo, zbx, List.set_cons_zero, List.set_cons_succ, List.length_cons, List.length_nil, List.drop_succ_cons, List.drop_zero, List.take_succ_cons, List.take_zero, List.nil_append, List.cons_append, splice, zbb, zbc, z0, zq, zm, zbd, zb1, zbg, zc8, zcm, zb2, zb8, zx, zo, z9, Option.map_some, zb6, zbn, z6, zbi, zbj, zbk, z5, zbl, zbm, d4, Nat.reduceAdd, b1, c4, r4])
    refine zgq (cs := zba [id]) f40 (by omega) (by rfl) (by rfl) ?_
    have k5 : Keeps [H3.next] H4 (H4.set H3.next (some (.cells true (zba [id])))) := Keeps.set (by simp)
    have n5 : (H4.set H3.next (some (.cells true (zba [id])))).next = H4.next := by simp
    have q5 : zcj (H4.set H3.next (some (.cells true (zba [id])))) (slc H3.next 0 1 1 1) [id] := .inr ⟨H3.next, rfl, Heap.get_set_eq (by omega)⟩
    generalize H4.set H3.next (some (.cells true (zba [id]))) = H5 at *
    have f51 : H5.get (H3.next + 1) = none := by rw [k5.same _ (by omega) (by simp)]; exact f41
    have g5 := k5.get g4 (by simp; omega)
    have o35 := o34.keep k5 (fun b hb q => by simp at q; have := w3lt b hb; omega)
    have o55 := o54.keep k5 (fun b hb q => by simp at q; have := w5lt b hb; omega)
    (try simp (maxSteps := 1000000) (disch := first | omega | (simp only [Z3]; omega) | (simp; done) | assumption | decide | (refine not_not_intro ?_; assumption)) only [Z1, Z2, splice])
    refine zfk (α := Int) rfl o35 q5.sl (by simp; omega) (by simp; omega) fun u3 H6 p3 k6 y3 => ?_
    have n6 := k6.next
    have f61 : H6.get (H3.next + 1) = none := by rw [k6.same _ (by omega) (fun q => by have := w3lt _ q; omega)]; exact f51
    have g6 := k6.get g5 (fun q => by have := o3.lt _ q; omega)
    have o56 := o55.keep k6 (fun b hb q => hdis b q hb)
    have fr5 : zej H5 [H3.next + 1] = true := by rw [zgp f51 (by omega)]; rfl
    have fr6 : zej H6 [H3.next + 1] = true := by rw [zgp f61 (by omega)]; rfl
    have u3lt := p3.lt
    (try simp (maxSteps := 1000000) (disch := first | omega | (simp only [Z3]; omega) | (simp; done) | assumption | decide | (refine not_not_intro ?_; assumption)) only [Z1, Z2, splice, fr5, fr6, Bool.and_self])
    refine zgq (cs := zba [x]) f61 (by omega) (by rfl) (zbre x) ?_
    have k7 : Keeps [H3.next + 1] H6 (H6.set (H3.next + 1) (some (.cells true (zba [x])))) := Keeps.set (by simp)
    have n7 : (H6.set (H3.next + 1) (some (.cells true (zba [x])))).next = H6.next := by simp
    have q7 : zcj (H6.set (H3.next + 1) (some (.cells true (zba [x])))) (slc (H3.next + 1) 0 5 1 1) [x] := .inr ⟨H3.next + 1, rfl, Heap.get_set_eq (by omega)⟩
    generalize H6.set (H3.next + 1) (some (.cells true (zba [x]))) = H7 at *
    have p37 := p3.keep k7 (fun b hb q => by
      simp at q
      rcases y3 b hb with z | z
      · have := w3lt b z; omega
      · omega)
    have o57 := o56.keep k7 (fun b hb q => by simp at q; have := w5lt b hb; omega)
    (try simp (maxSteps := 1000000) (disch := first | omega | (simp only [Z3]; omega) | (simp; done) | assumption | decide | (refine not_not_intro ?_; assumption)) only [Z1, Z2, splice])
    refine zfk (α := Ch) rfl o57 q7.sl (by simp; omega) (by simp; omega) fun u5 H8 p5 k8 y5 => ?_
    have p38 := p37.keep k8 (fun b hb q => by
      rcases y3 b hb with z | z
      · exact hdis b z q
      · have := w5lt b q; omega)
    have ck1 : chk (ldn 5 (ptr H1.next 0)) H6 (.agg ([.string x.user.name, .string x.user.key, x.user.rs.v, .string x.nonce, i64 x.frame] : List V).toArray) = true := by
      obtain ⟨r, K, hK1, hK2⟩ := (zgi (Q := fun r K => r = .agg ([.string x.user.name, .string x.user.key, x.user.rs.v, .string x.nonce, i64 x.frame] : List V).toArray ∧ K = H6) g6 hl6).mpr ⟨rfl, rfl⟩
      unfold chk
      rw [hK1]
      show vEq r _ = true
      rw [hK2.1]
      exact z3k _ (zbur x hvx)
    (try simp (maxSteps := 1000000) (disch := first | omega | (simp only [Z3]; omega) | (simp; done) | assumption | decide | (refine not_not_intro ?_; assumption)) only [Z1, Z2, splice, ck1, zf8])
    have n8 := k8.next
    refine ⟨xs.length - (j + 1), by omega, j + 1, u3, u5, rfl, by omega, by push_cast; rfl, by rw [hst, List.map_append]; exact p38, by rw [hst, List.map_append]; exact p5, ?_, ?_, ?_, ?_⟩
    · refine ⟨by omega, fun b hb _ => ?_⟩
      rw [k8.same b (by omega) (fun q => by have := v5 b q; omega), k7.same b (by omega) (by simp; omega), k6.same b (by omega) (fun q => by have := v3 b q; omega), k5.same b (by omega) (by simp; omega), k4.same b (by omega) (by simp), k03.same b hb (by simp)]
    · intro b hb
      rcases y3 b hb with z | z
      · exact v3 b z
      · omega
    · intro b hb
      rcases y5 b hb with z | z
      · exact v5 b z
      · omega
    · intro b hb hb'
      have := u3lt b hb
      rcases y5 b hb' with z | z
      · rcases y3 b hb with y | y
        · exact hdis b y z
        · have := w5lt b z; omega
      · omega
theorem zb1j {H : Heap} {d : Nat} {c0 c1 c2 c6 c7 c8 : V} {iv lv : V} {last : Int} {ids : List Int} {xs : List Ch} (hd : H.get d = some (.cells true [c0, c1, c2, i64 last, iv, lv, c6, c7, c8])) (hi : zcj H iv ids) (hl : zcj H lv xs) (heq : ids.length = xs.length) (hxl : xs.length ≤ 8) (hvs : ∀ x ∈ xs, vEq.vEq1 x.user.rs.v x.user.rs.v = true) (id : Int) (Q : V → Heap → Prop)
    (hQ : ∀ w3 w5 H', H'.get d = some (.cells true [c0, c1, c2, i64 last, w3, w5, c6, c7, c8]) → zcj H' w3 ((zpi (fun y _ => decide (y ≠ id)) ids xs).map (·.1)) → zcj H' w5 ((zpi (fun y _ => decide (y ≠ id)) ids xs).map (·.2)) → Keeps [d] H H' → (∀ b ∈ vb w3, H.next ≤ b) → (∀ b ∈ vb w5, H.next ≤ b) → (∀ b ∈ vb w3, b ∉ vb w5) → Q (.tuple #[]) H') :
    wp (zc5 [ptr d 3, i64 id]) Q H := by
  show wp (zep (ptr d 3) (i64 id)) Q H
  have k1 : Keeps [] H (H.push (some (.cells true [i64 id]))) := Keeps.push _ _ _
  have g1 : (H.push (some (.cells true [i64 id]))).get H.next = some (.cells true [i64 id]) := Heap.get_push_self _ _
  have n1 : (H.push (some (.cells true [i64 id]))).next = H.next + 1 := by simp
  unfold zep
  rw [zk, zk]
  refine (zbg9 (by rfl)).mpr ?_
  generalize H.push (some (.cells true [i64 id])) = H1 at *
  (try simp (maxSteps := 1000000) (disch := first | omega | (simp only [Z3]; omega) | (simp; done) | assumption | decide | (refine not_not_intro ?_; assumption)) only [Z1, Z2, splice])
  refine zbka (S := ovr [(zcd, zdl)] noC) (f := .func (.func zcd) #[] #[ptr H.next 0]) (k1.get hd (by simp)) (hi.keep0 k1) (hl.keep0 k1) heq hxl hvs (fun y _ => decide (y ≠ id)) (fun H2 i x Q' k2 hq => ?_) _ fun w3 w5 H2 d2 o3 o5 k2 v3 v5 hdis => ?_
  · show wp (zd3 (i64 i) (.agg (Flat.enc x).toArray) (ptr H.next 0)) Q' H2
    have g2 := k2.get g1 (by simp)
    have hlt := Heap.get_lt g2
    have ho := zbbg x
    (try simp (maxSteps := 1000000) (disch := first | omega | (simp only [Z3]; omega) | (simp; done) | assumption | decide | (refine not_not_intro ?_; assumption)) only [Z1, Z2, splice, zd3, zbff, g2])
    exact hq _ (Keeps.push _ _ _)
  · (try simp (maxSteps := 1000000) (disch := first | omega | (simp only [Z3]; omega) | (simp; done) | assumption | decide | (refine not_not_intro ?_; assumption)) only [Z1, Z2, splice])
    exact hQ w3 w5 H2 d2 o3 o5 ⟨by have := k1.next; have := k2.next; omega, fun b hb hn => by rw [k2.same b (by omega) hn, k1.same b hb (by simp)]⟩ (fun b hb => by have := v3 b hb; omega) (fun b hb => by have := v5 b hb; omega) hdis
theorem zbus (x : Se) (hv : vEq.vEq1 x.user.rs.v x.user.rs.v = true) : ∀ v ∈ ([.string x.user.name, .string x.user.key, x.user.rs.v, .string x.key, i64 x.next, i64 x.frame] : List V), vEq.vEq1 v v = true := by
  intro v h
  simp only [List.mem_cons, List.not_mem_nil, or_false] at h
  rcases h with rfl | rfl | rfl | rfl | rfl | rfl <;> first | exact hv | simp [vEq.vEq1]
theorem zb1k (x : Se) : zef (rep 1 [Value.string ⟨#[]⟩, Value.string ⟨#[]⟩, Value.slice none 0 0, Value.string ⟨#[]⟩, Value.int .i64 0, Value.int .i64 0]) [(0, 6, .agg (Flat.enc x).toArray)] = some (zba [x]) := by
  rw [z9 (n := 6) (vs := Flat.enc x) (zbfg x) rfl (by decide), zx]
  rfl
theorem zbrf (x : Se) : zef (rep 1 [Value.string ⟨#[]⟩, Value.string ⟨#[]⟩, Value.slice none 0 0, Value.string ⟨#[]⟩, Value.int .i64 0, Value.int .i64 0]) [(0, 6, .agg (([.string x.user.name, .string x.user.key, x.user.rs.v, .string x.key, i64 x.next, i64 x.frame] : List V)).toArray)] = some (zba [x]) := zb1k x
set_option maxRecDepth 20000 in
theorem zb22 {H : Heap} {d : Nat} {c0 c1 c2 c3 c4 c5 : V} {iv lv : V} {last : Int} {ids : List Int} {xs : List Se} (hd : H.get d = some (.cells true [c0, c1, c2, c3, c4, c5, i64 last, iv, lv])) (hi : zcj H iv ids) (hl : zcj H lv xs) (h1 : d ∉ vb iv) (h2 : d ∉ vb lv) (h3 : ∀ b ∈ vb iv, b ∉ vb lv)
    (hlast : 0 ≤ last ∧ last ≤ 1000000) (hxl : xs.length < 8) (hil : ids.length ≤ 100) (x : Se) (hv : vEq.vEq1 x.user.rs.v x.user.rs.v = true) (Q : V → Heap → Prop)
    (hQ : ∀ w3 w5 H', H'.get d = some (.cells true [c0, c1, c2, c3, c4, c5, i64 (last + 1), w3, w5]) → zcj H' w3 (ids ++ [last + 1]) → zcj H' w5 (xs ++ [x]) → Keeps (d :: (vb iv ++ vb lv)) H H' → (∀ b ∈ vb w3, b ∈ vb iv ∨ H.next ≤ b) → (∀ b ∈ vb w5, b ∈ vb lv ∨ H.next ≤ b) → (∀ b ∈ vb w3, b ∉ vb w5) → Q (.tuple #[i64 (last + 1), .bool true]) H') :
    wp (zc2 [ptr d 6, .agg (Flat.enc x).toArray]) Q H := by
  show wp (zdm (ptr d 6) (.agg (Flat.enc x).toArray)) Q H
  have ho := zbfg x
  have hdlt := Heap.get_lt hd
  have hilt := hi.lt
  have hllt := hl.lt
  have hlen := hl.len
  have hx8 : ¬ ((xs.length : Int) = 8) := by omega
  unfold zdm
  rw [zk, zk, zbj9]
  refine (zbu ho).mpr ?_
  have k1 : Keeps [] H (H.push (some (.cells true [.string x.user.name, .string x.user.key, x.user.rs.v, .string x.key, i64 x.next, i64 x.frame]))) := Keeps.push _ _ _
  have g1 : (H.push (some (.cells true [.string x.user.name, .string x.user.key, x.user.rs.v, .string x.key, i64 x.next, i64 x.frame]))).get H.next = some (.cells true [.string x.user.name, .string x.user.key, x.user.rs.v, .string x.key, i64 x.next, i64 x.frame]) := Heap.get_push_self _ _
  have n1 : (H.push (some (.cells true [.string x.user.name, .string x.user.key, x.user.rs.v, .string x.key, i64 x.next, i64 x.frame]))).next = H.next + 1 := by simp
  generalize H.push (some (.cells true [.string x.user.name, .string x.user.key, x.user.rs.v, .string x.key, i64 x.next, i64 x.frame])) = H1 at *
  have d1 := k1.get hd (by simp)
  have i1 := hi.keep0 k1
  have l1 := hl.keep0 k1
  (try simp (maxSteps := 1000000) (disch := first | omega | (simp only [Z3]; omega) | (simp; done) | assumption | decide | (refine not_not_intro ?_; assumption)) only [Z1, Z2, splice, d1, hlen, zlb])
  have d2 : (H1.set d (some (.cells true [c0, c1, c2, c3, c4, c5, i64 (last + 1), iv, lv]))).get d = some (.cells true [c0, c1, c2, c3, c4, c5, i64 (last + 1), iv, lv]) := Heap.get_set_eq (by omega)
  have k2 : Keeps [d] H1 (H1.set d (some (.cells true [c0, c1, c2, c3, c4, c5, i64 (last + 1), iv, lv]))) := Keeps.set (by simp)
  have n2 : (H1.set d (some (.cells true [c0, c1, c2, c3, c4, c5, i64 (last + 1), iv, lv]))).next = H1.next := by simp
  have g2 := k2.get g1 (by simp; omega)
  have i2 := i1.keep k2 (fun b hb q => by simp at q; exact h1 (q ▸ hb))
  have l2 := l1.keep k2 (fun b hb q => by simp at q; exact h2 (q ▸ hb))
  generalize H1.set d (some (.cells true [c0, c1, c2, c3, c4, c5, i64 (last + 1), iv, lv])) = H2 at *
  refine zrj.mpr ?_
  rw [zbn]
  have k3 : Keeps [] H2 ((H2.push none).push none) := zh8 (Keeps.push _ _ _)
  have n3 : ((H2.push none).push none).next = H2.next + 2 := by simp
  have f30 : ((H2.push none).push none).get H2.next = none := by rw [Heap.get_push_lt (by simp)]; exact Heap.get_push_self _ _
  have f31 : ((H2.push none).push none).get (H2.next + 1) = none := Heap.get_push_eq (by simp)
  generalize (H2.push none).push none = H3 at *
  have d3 := k3.get d2 (by simp)
  have g3 := k3.get g2 (by simp)
  have hl6 : ([.string x.user.name, .string x.user.key, x.user.rs.v, .string x.key, i64 x.next, i64 x.frame] : List V).length = 6 := rfl
  have r3 := fun Q => zgi (Q := Q) g3 hl6
  (try simp (maxSteps := 1000000) (disch := first | omega | (simp only [Z3]; omega) | (simp; done) | assumption | decide | (refine not_not_intro ?_; assumption)) only [Z1, zl, zr, zcr, zeh, eq_self, true_and, zcu, zck, zc6, zby, zbu, Heap.get_push_eq, Heap.get_push_lt, Heap.get_set_eq, Heap.get_set_ne', Heap.next_push', Heap.next_set', Heap.set_push_lt, Heap.set_push_eq, Heap.set_set, zbz, zb0, zbf, zb3, zb4, z4, zbh, zb5, zbq, zbe, zbv, zbw, zbo, zbx, List.set_cons_zero, List.set_cons_succ, List.length_cons, List.length_nil, List.drop_succ_cons, List.drop_zero, List.take_succ_cons, List.take_zero, List.nil_append, List.cons_append, splice, zbb, zbc, z0, zq, zm, zbd, zb1, zbg, zc8, zcm, zb2, zb8, zx, zo, z9, Option.map_some, zb6, zbn, z6, zbi, zbj, zbk, z5, zbl, zbm, d3, r3])
  refine zgq (cs := zba [last + 1]) f30 (by omega) (by rfl) (by rfl) ?_
  have k4 : Keeps [H2.next] H3 (H3.set H2.next (some (.cells true (zba [last + 1])))) := Keeps.set (by simp)
  have n4 : (H3.set H2.next (some (.cells true (zba [last + 1])))).next = H3.next := by simp
  have o4 : zcj (H3.set H2.next (some (.cells true (zba [last + 1])))) (slc H2.next 0 1 1 1) [last + 1] := .inr ⟨H2.next, rfl, Heap.get_set_eq (by omega)⟩
  generalize H3.set H2.next (some (.cells true (zba [last + 1]))) = H4 at *
  have k34 : Keeps [] H2 H4 := k3.trans k4 (fun b hb q => by simp at q; omega)
  have i4 := i2.keep0 k34
  have l4 := l2.keep0 k34
  have d4 := k34.get d2 (by simp)
  have g4 := k34.get g2 (by simp)
  have f41 : H4.get (H2.next + 1) = none := by rw [k4.same _ (by omega) (by simp)]; exact f31
  (try simp (maxSteps := 1000000) (disch := first | omega | (simp only [Z3]; omega) | (simp; done) | assumption | decide | (refine not_not_intro ?_; assumption)) only [Z1, Z2, splice])
  refine zfk (α := Int) rfl i4 o4.sl (by simp; omega) (by simp; omega) fun w3 H5 i5 k5 v5 => ?_
  have n5 := k5.next
  have d5 := k5.get d4 h1
  have g5 := k5.get g4 (fun q => by have := hilt _ q; omega)
  have l5 := l4.keep k5 (fun b hb q => h3 b q hb)
  have f51 : H5.get (H2.next + 1) = none := by rw [k5.same _ (by omega) (fun q => by have := hilt _ q; omega)]; exact f41
  have fr4 : zej H4 [H2.next + 1] = true := by rw [zgp f41 (by omega)]; rfl
  have fr5 : zej H5 [H2.next + 1] = true := by rw [zgp f51 (by omega)]; rfl
  have w3lt := i5.lt
  (try simp (maxSteps := 1000000) (disch := first | omega | (simp only [Z3]; omega) | (simp; done) | assumption | decide | (refine not_not_intro ?_; assumption)) only [Z1, Z2, splice, fr4, fr5, Bool.and_self])
  refine zgq (cs := zba [x]) f51 (by omega) (by rfl) (zbrf x) ?_
  have k6 : Keeps [H2.next + 1] H5 (H5.set (H2.next + 1) (some (.cells true (zba [x])))) := Keeps.set (by simp)
  have n6 : (H5.set (H2.next + 1) (some (.cells true (zba [x])))).next = H5.next := by simp
  have o6 : zcj (H5.set (H2.next + 1) (some (.cells true (zba [x])))) (slc (H2.next + 1) 0 6 1 1) [x] := .inr ⟨H2.next + 1, rfl, Heap.get_set_eq (by omega)⟩
  generalize H5.set (H2.next + 1) (some (.cells true (zba [x]))) = H6 at *
  have v5' : ∀ b ∈ vb w3, b ∈ vb iv ∨ H4.next ≤ b := v5
  have i6 := i5.keep k6 (fun b hb q => by
    simp at q
    rcases v5' b hb with z | z
    · have := hilt b z; omega
    · omega)
  have l6 := l5.keep k6 (fun b hb q => by simp at q; have := hllt b hb; omega)
  have d6 := k6.get d5 (by simp; omega)
  have g6 := k6.get g5 (by simp; omega)
  (try simp (maxSteps := 1000000) (disch := first | omega | (simp only [Z3]; omega) | (simp; done) | assumption | decide | (refine not_not_intro ?_; assumption)) only [Z1, Z2, splice])
  refine zfk (α := Se) rfl l6 o6.sl (by simp; omega) (by simp; omega) fun w5 H7 l7 k7 v7 => ?_
  have n7 := k7.next
  have d7 := k7.get d6 h2
  have i7 := i6.keep k7 (fun b hb q => by
    rcases v5' b hb with z | z
    · exact h3 b z q
    · have := hllt b q; omega)
  have hw3 := i7.isOne
  have hw5 := l7.isOne
  have hd7lt : d < H7.next := by omega
  have dn3 : d ∉ vb w3 := fun q => (v5' d q).elim h1 (fun z => by omega)
  have dn5 : d ∉ vb w5 := fun q => (v7 d q).elim h2 (fun z => by omega)
  have ck1 : chk (ldn 6 (ptr H.next 0)) H5 (.agg ([.string x.user.name, .string x.user.key, x.user.rs.v, .string x.key, i64 x.next, i64 x.frame] : List V).toArray) = true := by
    obtain ⟨r, K, hK1, hK2⟩ := (zgi (Q := fun r K => r = .agg ([.string x.user.name, .string x.user.key, x.user.rs.v, .string x.key, i64 x.next, i64 x.frame] : List V).toArray ∧ K = H5) g5 hl6).mpr ⟨rfl, rfl⟩
    unfold chk
    rw [hK1]
    show vEq r _ = true
    rw [hK2.1]
    exact z3k _ (zbus x hv)
  have hchk2 : zwp (some lv) lv = true := zbhf hl
  (try simp (maxSteps := 1000000) (disch := first | omega | (simp only [Z3]; omega) | (simp; done) | assumption | decide | (refine not_not_intro ?_; assumption)) only [Z1, Z2, splice, d7, d5, ck1, hchk2])
  have dset : (H7.set d (some (.cells true [c0, c1, c2, c3, c4, c5, i64 (last + 1), w3, w5]))).get d = some (.cells true [c0, c1, c2, c3, c4, c5, i64 (last + 1), w3, w5]) := Heap.get_set_eq (by omega)
  have k8 : Keeps [d] H7 (H7.set d (some (.cells true [c0, c1, c2, c3, c4, c5, i64 (last + 1), w3, w5]))) := Keeps.set (by simp)
  refine ⟨hw3, hw5, ?_⟩
  refine hQ w3 w5 _ dset (i7.keep k8 (fun b hb q => by simp at q; exact dn3 (q ▸ hb))) (l7.keep k8 (fun b hb q => by simp at q; exact dn5 (q ▸ hb))) ?_ ?_ ?_ ?_
  · refine ⟨by simp; omega, fun b hb hn => ?_⟩
    simp at hn
    rw [Heap.get_set_ne' hn.1, k7.same b (by omega) hn.2.2, k6.same b (by omega) (by simp; omega), k5.same b (by omega) hn.2.1, k34.same b (by omega) (by simp), k2.same b (by omega) (by simp; exact hn.1), k1.same b hb (by simp)]
  · exact fun b hb => (v5' b hb).imp id (fun z => by omega)
  · exact fun b hb => (v7 b hb).imp id (fun z => by omega)
  · intro b hb hb'
    have b3 := w3lt b hb
    rcases v7 b hb' with z | z
    · rcases v5' b hb with y | y
      · exact h3 b y z
      · have := hllt b z; omega
    · omega
theorem zb23 {H : Heap} {d : Nat} {c0 c1 c2 c3 c4 c5 : V} {iv lv : V} {last : Int} {ids : List Int} {xs : List Se} (hd : H.get d = some (.cells true [c0, c1, c2, c3, c4, c5, i64 last, iv, lv])) (hi : zcj H iv ids) (hl : zcj H lv xs) (heq : ids.length = xs.length) (hil : ids.length ≤ 100) (id : Int) (Q : V → Heap → Prop)
    (hQ : Q (match zgj (fun y => decide (id = y)) ids with | none => .pointer none | some i => ptr (slB lv) (slO lv + i * 6)) H) : wp (zbr [ptr d 6, i64 id]) Q H := by
  show wp (zfg (ptr d 6) (i64 id)) Q H
  (try simp (maxSteps := 1000000) (disch := first | omega | (simp only [Z3]; omega) | (simp; done) | assumption | decide | (refine not_not_intro ?_; assumption)) only [Z1, Z2, splice, zfg, hd, Nat.reduceAdd])
  refine zbj6 hi.sl (by omega) id _ ?_
  cases hf : zgj (fun y => decide (id = y)) ids with
  | none =>
    rw [hf] at hQ
    (try simp (maxSteps := 1000000) (disch := first | omega | (simp only [Z3]; omega) | (simp; done) | assumption | decide | (refine not_not_intro ?_; assumption)) only [Z1, Z2, splice, zzu])
    exact hQ
  | some i =>
    rw [hf] at hQ
    obtain ⟨hi', _, _⟩ := zey (d := 0) hf
    have a1 := hl.sl.addr' (n := 6) rfl (k := .i64) (i := (i : Int)) (by omega) (by omega)
    rw [Int.toNat_natCast] at a1
    have hn : ¬ ((i : Int) < 0) := by omega
    (try simp (maxSteps := 1000000) (disch := first | omega | (simp only [Z3]; omega) | (simp; done) | assumption | decide | (refine not_not_intro ?_; assumption)) only [Z1, Z2, splice, zzu, zle, hd, Nat.reduceAdd, a1])
    exact hQ
def zpj (p : Int → Se → Bool) (ids : List Int) (xs : List Se) : List (Int × Se) := (ids.zip xs).filter fun e => p e.1 e.2
set_option maxRecDepth 20000 in
theorem zbkb {S : zp} {f : V} {H : Heap} {d : Nat} {c0 c1 c2 c3 c4 c5 : V} {iv lv : V} {last : Int} {ids : List Int} {xs : List Se} (hd : H.get d = some (.cells true [c0, c1, c2, c3, c4, c5, i64 last, iv, lv])) (hi : zcj H iv ids) (hl : zcj H lv xs) (heq : ids.length = xs.length) (hxl : xs.length ≤ 8) (hvs : ∀ x ∈ xs, vEq.vEq1 x.user.rs.v x.user.rs.v = true)
    (p : Int → Se → Bool) (hp : ∀ (H2 : Heap) (i : Int) (x : Se) (Q : V → Heap → Prop), Keeps [] H H2 → (∀ H', Keeps [] H2 H' → Q (.bool (p i x)) H') → wp (zxn (ovr [] S) f [i64 i, .agg (Flat.enc x).toArray]) Q H2) (Q : V → Heap → Prop)
    (hQ : ∀ w3 w5 H', H'.get d = some (.cells true [c0, c1, c2, c3, c4, c5, i64 last, w3, w5]) → zcj H' w3 ((zpj p ids xs).map (·.1)) → zcj H' w5 ((zpj p ids xs).map (·.2)) → Keeps [d] H H' → (∀ b ∈ vb w3, H.next ≤ b) → (∀ b ∈ vb w5, H.next ≤ b) → (∀ b ∈ vb w3, b ∉ vb w5) → Q (.tuple #[]) H') :
    wp (zcn S [ptr d 6, f]) Q H := by
  show wp (zfa S (ptr d 6) f) Q H
  have hlen := hl.len
  have hdlt := Heap.get_lt hd
  (try simp (maxSteps := 1000000) (disch := first | omega | (simp only [Z3]; omega) | (simp; done) | assumption | decide | (refine not_not_intro ?_; assumption)) only [Z1, Z2, splice, zfa, hd, Nat.reduceAdd, hlen])
  refine zbt (Inv := fun k vs H' => ∃ (j : Nat) (w3 w5 : V), k = xs.length - j ∧ j ≤ xs.length ∧ vs = [ptr d 6, f, w3, w5, lv, i64 xs.length, i64 j] ∧ zcj H' w3 ((zpj p (ids.take j) (xs.take j)).map (·.1)) ∧ zcj H' w5 ((zpj p (ids.take j) (xs.take j)).map (·.2)) ∧ Keeps [] H H' ∧ (∀ b ∈ vb w3, H.next ≤ b) ∧ (∀ b ∈ vb w5, H.next ≤ b) ∧ (∀ b ∈ vb w3, b ∉ vb w5)) (n := xs.length) (by unfold zcc; omega)
    ⟨0, _, _, by omega, by omega, rfl, zcj.nil _, zcj.nil _, Keeps.refl _ _, by simp, by simp, by simp⟩ ?_
  rintro k vs H1 ⟨j, w3, w5, hk, hj, rfl, o3, o5, k1, v3, v5, hdis⟩
  have d1 := k1.get hd (by simp)
  by_cases hlt : j < xs.length
  case neg =>
    have : j = xs.length := by omega
    subst this
    have et : ids.take xs.length = ids := by rw [← heq, List.take_length]
    rw [et, List.take_length] at o3 o5
    have hw3 := o3.isOne
    have hw5 := o5.isOne
    have hd1lt : d < H1.next := by have := k1.next; omega
    (try simp (maxSteps := 1000000) (disch := first | omega | (simp only [Z3]; omega) | (simp; done) | assumption | decide | (refine not_not_intro ?_; assumption)) only [Z1, Z2, splice, zgu, zkq, d1, Nat.reduceAdd])
    have dset : (H1.set d (some (.cells true [c0, c1, c2, c3, c4, c5, i64 last, w3, w5]))).get d = some (.cells true [c0, c1, c2, c3, c4, c5, i64 last, w3, w5]) := Heap.get_set_eq hd1lt
    have k8 : Keeps [d] H1 (H1.set d (some (.cells true [c0, c1, c2, c3, c4, c5, i64 last, w3, w5]))) := Keeps.set (by simp)
    refine ⟨hw3, hw5, ?_⟩
    exact hQ w3 w5 _ dset (o3.keep k8 (fun b hb q => by simp at q; have := v3 b hb; omega)) (o5.keep k8 (fun b hb q => by simp at q; have := v5 b hb; omega)) (zfj (k1.mono (by simp)) (.inl (by simp))) v3 v5 hdis
  have l1 := hl.keep0 k1
  have i1 := hi.keep0 k1
  have a1 := l1.sl.addr' (n := 6) rfl (k := .i64) (i := (j : Int)) (by omega) (by omega)
  rw [Int.toNat_natCast] at a1
  have r1 := fun Q => l1.sl.ldn' (Q := Q) (n := 6) rfl hlt default
  have hji : j < ids.length := by omega
  have b1 := i1.sl.addr1 rfl (k := .i64) (i := (j : Int)) (by omega) (by omega)
  rw [Int.toNat_natCast] at b1
  have c1 : ∀ {K : Heap}, zcj K iv ids → zlr (K.get (slB iv)) (slO iv + j) = some (i64 (ids.getD j 0)) := fun {K} hK => by
    have := hK.sl.cell1 rfl hji 0
    rw [zl] at this
    exact this
  have c1' := c1 i1
  have hvx := hvs _ (zdx (d := default) hlt)
  have hst : zpj p (ids.take (j + 1)) (xs.take (j + 1)) = zpj p (ids.take j) (xs.take j) ++ (if p (ids.getD j 0) (xs.getD j default) then [(ids.getD j 0, xs.getD j default)] else []) := by
    unfold zpj
    rw [List.take_succ, List.take_succ, List.getElem?_eq_getElem hji, List.getElem?_eq_getElem hlt, List.zip_append (by simp [heq]), List.filter_append, List.getD_eq_getElem?_getD, List.getD_eq_getElem?_getD, List.getElem?_eq_getElem hji, List.getElem?_eq_getElem hlt]
    congr 1
    by_cases hq : p ids[j] xs[j] = true <;> simp [hq]
  have hkl : (zpj p (ids.take j) (xs.take j)).length ≤ 8 := by
    unfold zpj
    have := List.length_filter_le (fun e : Int × Se => p e.1 e.2) ((ids.take j).zip (xs.take j))
    rw [List.length_zip, List.length_take, List.length_take] at this; omega
  generalize ids.getD j 0 = id at *
  generalize xs.getD j default = x at *
  have ho := zbfg x
  have k2 : Keeps [] H1 (H1.push (some (.cells true [.string x.user.name, .string x.user.key, x.user.rs.v, .string x.key, i64 x.next, i64 x.frame]))) := Keeps.push _ _ _
  have g2 : (H1.push (some (.cells true [.string x.user.name, .string x.user.key, x.user.rs.v, .string x.key, i64 x.next, i64 x.frame]))).get H1.next = some (.cells true [.string x.user.name, .string x.user.key, x.user.rs.v, .string x.key, i64 x.next, i64 x.frame]) := Heap.get_push_self _ _
  have n2 : (H1.push (some (.cells true [.string x.user.name, .string x.user.key, x.user.rs.v, .string x.key, i64 x.next, i64 x.frame]))).next = H1.next + 1 := by simp
  have d2 := k2.get d1 (by simp)
  have c2 := c1 (i1.keep0 k2)
  have hn1 := k1.next
  have hl6 : ([.string x.user.name, .string x.user.key, x.user.rs.v, .string x.key, i64 x.next, i64 x.frame] : List V).length = 6 := rfl
  have hdne : d ≠ H1.next := by omega
  have r2 := fun Q => zgi (Q := Q) g2 hl6
  (try simp (maxSteps := 1000000) (disch := first | omega | (simp only [Z3]; omega) | (simp; done) | assumption | decide | (refine not_not_intro ?_; assumption)) only [Z1, zl, zr, zcr, zeh, eq_self, true_and, zcu, zck, zc6, zby, zbu, Heap.get_push_eq, Heap.get_push_lt, Heap.get_set_eq, Heap.get_set_ne', Heap.next_push', Heap.next_set', Heap.set_push_lt, Heap.set_push_eq, Heap.set_set, zbz, zb0, zbf, zb3, zb4, z4, zbh, zb5, zbq, zbe, zbv, zbw, zbo, zbx, List.set_cons_zero, List.set_cons_succ, List.length_cons, List.length_nil, List.drop_succ_cons, List.drop_zero, List.take_succ_cons, List.take_zero, List.nil_append, List.cons_append, splice, zbb, zbc, z0, zq, zm, zbd, zb1, zbg, zc8, zcm, zb2, zb8, zx, zo, z9, Option.map_some, zb6, zbn, z6, zbi, zbj, zbk, z5, zbl, zbm, zgu, zkp, a1, r1, zbj9, d1, d2, Nat.reduceAdd, b1, c1', c2, r2])
  generalize H1.push (some (.cells true [.string x.user.name, .string x.user.key, x.user.rs.v, .string x.key, i64 x.next, i64 x.frame])) = H2 at *
  have k02 : Keeps [] H H2 := k1.trans k2 (by simp)
  refine hp H2 id x _ k02 fun H3 k3 => ?_
  have k03 : Keeps [] H H3 := k02.trans k3 (by simp)
  have d3 := k3.get d2 (by simp)
  have g3 := k3.get g2 (by simp)
  have c3 := c1 ((i1.keep0 k2).keep0 k3)
  have o33 := (o3.keep0 k2).keep0 k3
  have o53 := (o5.keep0 k2).keep0 k3
  have n3 := k3.next
  cases hpx : p id x with
  | false =>
    rw [hpx, if_neg (by simp), List.append_nil] at hst
    (try simp (maxSteps := 1000000) (disch := first | omega | (simp only [Z3]; omega) | (simp; done) | assumption | decide | (refine not_not_intro ?_; assumption)) only [Z1, Z2, splice, zgt])
    exact ⟨xs.length - (j + 1), by omega, j + 1, w3, w5, rfl, by omega, by push_cast; rfl, by rw [hst]; exact o33, by rw [hst]; exact o53, k03, v3, v5, hdis⟩
  | true =>
    rw [hpx, if_pos rfl] at hst
    (try simp (maxSteps := 1000000) (disch := first | omega | (simp only [Z3]; omega) | (simp; done) | assumption | decide | (refine not_not_intro ?_; assumption)) only [Z1, Z2, splice])
    refine zrj.mpr ?_
    rw [zbn]
    have k4 : Keeps [] H3 ((H3.push none).push none) := zh8 (Keeps.push _ _ _)
    have n4 : ((H3.push none).push none).next = H3.next + 2 := by simp
    have f40 : ((H3.push none).push none).get H3.next = none := by rw [Heap.get_push_lt (by simp)]; exact Heap.get_push_self _ _
    have f41 : ((H3.push none).push none).get (H3.next + 1) = none := Heap.get_push_eq (by simp)
    generalize (H3.push none).push none = H4 at *
    have d4 := k4.get d3 (by simp)
    have g4 := k4.get g3 (by simp)
    have c4 := c1 (((i1.keep0 k2).keep0 k3).keep0 k4)
    have r4 := fun Q => zgi (Q := Q) g4 hl6
    have o34 := o33.keep0 k4
    have o54 := o53.keep0 k4
    have w3lt := o33.lt
    have w5lt := o53.lt
    (try simp (maxSteps := 1000000) (disch := first | omega | (simp only [Z3]; omega) | (simp; done) | assumption | decide | (refine not_not_intro ?_; assumption)) only [Z1, zl, zr, zcr, zeh, eq_self, true_and, zcu, zck, zc6, zby, zbu, Heap.get_push_eq, Heap.get_push_lt, Heap.get_set_eq, Heap.get_set_ne', Heap.next_push', Heap.next_set', Heap.set_push_lt, Heap.set_push_eq, Heap.set_set, zbz, zb0, zbf, zb3, zb4, z4, zbh, zb5, zbq, zbe, zbv, zbw, zbo, zbx, List.set_cons_zero, List.set_cons_succ, List.length_cons, List.length_nil, List.drop_succ_cons, List.drop_zero, List.take_succ_cons, List.take_zero, List.nil_append, List.cons_append, splice, zbb, zbc, z0, zq, zm, zbd, zb1, zbg, zc8, zcm, zb2, zb8, zx, zo, z9, Option.map_some, zb6, zbn, z6, zbi, zbj, zbk, z5, zbl, zbm, d4, Nat.reduceAdd, b1, c4, r4])
    refine zgq (cs := zba [id]) f40 (by omega) (by rfl) (by rfl) ?_
    have k5 : Keeps [H3.next] H4 (H4.set H3.next (some (.cells true (zba [id])))) := Keeps.set (by simp)
    have n5 : (H4.set H3.next (some (.cells true (zba [id])))).next = H4.next := by simp
    have q5 : zcj (H4.set H3.next (some (.cells true (zba [id])))) (slc H3.next 0 1 1 1) [id] := .inr ⟨H3.next, rfl, Heap.get_set_eq (by omega)⟩
    generalize H4.set H3.next (some (.cells true (zba [id]))) = H5 at *
    have f51 : H5.get (H3.next + 1) = none := by rw [k5.same _ (by omega) (by simp)]; exact f41
    have g5 := k5.get g4 (by simp; omega)
    have o35 := o34.keep k5 (fun b hb q => by simp at q; have := w3lt b hb; omega)
    have o55 := o54.keep k5 (fun b hb q => by simp at q; have := w5lt b hb; omega)
    (try simp (maxSteps := 1000000) (disch := first | omega | (simp only [Z3]; omega) | (simp; done) | assumption | decide | (refine not_not_intro ?_; assumption)) only [Z1, Z2, splice])
    refine zfk (α := Int) rfl o35 q5.sl (by simp; omega) (by simp; omega) fun u3 H6 p3 k6 y3 => ?_
    have n6 := k6.next
    have f61 : H6.get (H3.next + 1) = none := by rw [k6.same _ (by omega) (fun q => by have := w3lt _ q; omega)]; exact f51
    have g6 := k6.get g5 (fun q => by have := o3.lt _ q; omega)
    have o56 := o55.keep k6 (fun b hb q => hdis b q hb)
    have fr5 : zej H5 [H3.next + 1] = true := by rw [zgp f51 (by omega)]; rfl
    have fr6 : zej H6 [H3.next + 1] = true := by rw [zgp f61 (by omega)]; rfl
    have u3lt := p3.lt
    (try simp (maxSteps := 1000000) (disch := first | omega | (simp only [Z3]; omega) | (simp; done) | assumption | decide | (refine not_not_intro ?_; assumption)) only [Z1, Z2, splice, fr5, fr6, Bool.and_self])
    refine zgq (cs := zba [x]) f61 (by omega) (by rfl) (zbrf x) ?_
    have k7 : Keeps [H3.next + 1] H6 (H6.set (H3.next + 1) (some (.cells true (zba [x])))) := Keeps.set (by simp)
    have n7 : (H6.set (H3.next + 1) (some (.cells true (zba [x])))).next = H6.next := by simp
    have q7 : zcj (H6.set (H3.next + 1) (some (.cells true (zba [x])))) (slc (H3.next + 1) 0 6 1 1) [x] := .inr ⟨H3.next + 1, rfl, Heap.get_set_eq (by omega)⟩
    generalize H6.set (H3.next + 1) (some (.cells true (zba [x]))) = H7 at *
    have p37 := p3.keep k7 (fun b hb q => by
      simp at q
      rcases y3 b hb with z | z
      · have := w3lt b z; omega
      · omega)
    have o57 := o56.keep k7 (fun b hb q => by simp at q; have := w5lt b hb; omega)
    (try simp (maxSteps := 1000000) (disch := first | omega | (simp only [Z3]; omega) | (simp; done) | assumption | decide | (refine not_not_intro ?_; assumption)) only [Z1, Z2, splice])
    refine zfk (α := Se) rfl o57 q7.sl (by simp; omega) (by simp; omega) fun u5 H8 p5 k8 y5 => ?_
    have p38 := p37.keep k8 (fun b hb q => by
      rcases y3 b hb with z | z
      · exact hdis b z q
      · have := w5lt b q; omega)
    have ck1 : chk (ldn 6 (ptr H1.next 0)) H6 (.agg ([.string x.user.name, .string x.user.key, x.user.rs.v, .string x.key, i64 x.next, i64 x.frame] : List V).toArray) = true := by
      obtain ⟨r, K, hK1, hK2⟩ := (zgi (Q := fun r K => r = .agg ([.string x.user.name, .string x.user.key, x.user.rs.v, .string x.key, i64 x.next, i64 x.frame] : List V).toArray ∧ K = H6) g6 hl6).mpr ⟨rfl, rfl⟩
      unfold chk
      rw [hK1]
      show vEq r _ = true
      rw [hK2.1]
      exact z3k _ (zbus x hvx)
    (try simp (maxSteps := 1000000) (disch := first | omega | (simp only [Z3]; omega) | (simp; done) | assumption | decide | (refine not_not_intro ?_; assumption)) only [Z1, Z2, splice, ck1, zgt])
    have n8 := k8.next
    refine ⟨xs.length - (j + 1), by omega, j + 1, u3, u5, rfl, by omega, by push_cast; rfl, by rw [hst, List.map_append]; exact p38, by rw [hst, List.map_append]; exact p5, ?_, ?_, ?_, ?_⟩
    · refine ⟨by omega, fun b hb _ => ?_⟩
      rw [k8.same b (by omega) (fun q => by have := v5 b q; omega), k7.same b (by omega) (by simp; omega), k6.same b (by omega) (fun q => by have := v3 b q; omega), k5.same b (by omega) (by simp; omega), k4.same b (by omega) (by simp), k03.same b hb (by simp)]
    · intro b hb
      rcases y3 b hb with z | z
      · exact v3 b z
      · omega
    · intro b hb
      rcases y5 b hb with z | z
      · exact v5 b z
      · omega
    · intro b hb hb'
      have := u3lt b hb
      rcases y5 b hb' with z | z
      · rcases y3 b hb with y | y
        · exact hdis b y z
        · have := w5lt b z; omega
      · omega
theorem zb1l {H : Heap} {d : Nat} {c0 c1 c2 c3 c4 c5 : V} {iv lv : V} {last : Int} {ids : List Int} {xs : List Se} (hd : H.get d = some (.cells true [c0, c1, c2, c3, c4, c5, i64 last, iv, lv])) (hi : zcj H iv ids) (hl : zcj H lv xs) (heq : ids.length = xs.length) (hxl : xs.length ≤ 8) (hvs : ∀ x ∈ xs, vEq.vEq1 x.user.rs.v x.user.rs.v = true) (id : Int) (Q : V → Heap → Prop)
    (hQ : ∀ w3 w5 H', H'.get d = some (.cells true [c0, c1, c2, c3, c4, c5, i64 last, w3, w5]) → zcj H' w3 ((zpj (fun y _ => decide (y ≠ id)) ids xs).map (·.1)) → zcj H' w5 ((zpj (fun y _ => decide (y ≠ id)) ids xs).map (·.2)) → Keeps [d] H H' → (∀ b ∈ vb w3, H.next ≤ b) → (∀ b ∈ vb w5, H.next ≤ b) → (∀ b ∈ vb w3, b ∉ vb w5) → Q (.tuple #[]) H') :
    wp (zcb [ptr d 6, i64 id]) Q H := by
  show wp (zfb (ptr d 6) (i64 id)) Q H
  have k1 : Keeps [] H (H.push (some (.cells true [i64 id]))) := Keeps.push _ _ _
  have g1 : (H.push (some (.cells true [i64 id]))).get H.next = some (.cells true [i64 id]) := Heap.get_push_self _ _
  have n1 : (H.push (some (.cells true [i64 id]))).next = H.next + 1 := by simp
  unfold zfb
  rw [zk, zk]
  refine (zbg9 (by rfl)).mpr ?_
  generalize H.push (some (.cells true [i64 id])) = H1 at *
  (try simp (maxSteps := 1000000) (disch := first | omega | (simp only [Z3]; omega) | (simp; done) | assumption | decide | (refine not_not_intro ?_; assumption)) only [Z1, Z2, splice])
  refine zbkb (S := ovr [(zcl, zds)] noC) (f := .func (.func zcl) #[] #[ptr H.next 0]) (k1.get hd (by simp)) (hi.keep0 k1) (hl.keep0 k1) heq hxl hvs (fun y _ => decide (y ≠ id)) (fun H2 i x Q' k2 hq => ?_) _ fun w3 w5 H2 d2 o3 o5 k2 v3 v5 hdis => ?_
  · show wp (zer (i64 i) (.agg (Flat.enc x).toArray) (ptr H.next 0)) Q' H2
    have g2 := k2.get g1 (by simp)
    have hlt := Heap.get_lt g2
    have ho := zbfg x
    (try simp (maxSteps := 1000000) (disch := first | omega | (simp only [Z3]; omega) | (simp; done) | assumption | decide | (refine not_not_intro ?_; assumption)) only [Z1, Z2, splice, zer, zbj9, g2])
    exact hq _ (Keeps.push _ _ _)
  · (try simp (maxSteps := 1000000) (disch := first | omega | (simp only [Z3]; omega) | (simp; done) | assumption | decide | (refine not_not_intro ?_; assumption)) only [Z1, Z2, splice])
    exact hQ w3 w5 H2 d2 o3 o5 ⟨by have := k1.next; have := k2.next; omega, fun b hb hn => by rw [k2.same b (by omega) hn, k1.same b hb (by simp)]⟩ (fun b hb => by have := v3 b hb; omega) (fun b hb => by have := v5 b hb; omega) hdis
end Go.AM.Cap
