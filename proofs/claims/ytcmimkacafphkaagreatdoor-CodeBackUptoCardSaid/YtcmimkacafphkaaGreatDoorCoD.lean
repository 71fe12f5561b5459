import Derived.Test.YtcmimkacafphkaaGreatDoorCoC
import Derived.Test.YtcmimkacafphkaaGreatDoorAmOpenF
set_option linter.all false
/- code: cells; fields; what asks a list -/
set_option maxHeartbeats 8000000
namespace Go.AM.Cap
open Go.AM Go.Proofs

/-! ### a part of a slice -/
theorem sub_cut {α : Type} [Flat α] {n : Nat} (hs : Flat.size α = n) {H : Heap} {v : V} {l : List α} (h : Sl H v l) {a k : Nat} (ha : a < l.length) (hk : a + k ≤ l.length) : ∃ w, subV n v (some (i64 (a : Int))) (some (i64 ((a : Int) + k))) = some w ∧ Sl H w ((l.drop a).take k) ∧ isNil .s w = some false := by
  subst hs
  rcases h with ⟨rfl, rfl⟩ | ⟨b, o, u, c, rfl, hc, hb, hl2, hu2⟩
  · simp at ha
  · have e1 : bound l.length c (some (i64 ((a : Int) + k))) = some (a + k) := by simp [bound]; omega
    have hb0 : bound 0 (a + k) (some (i64 (a : Int))) = some a := by simp [bound]; omega
    have hu3 : u = Flat.size α ∨ u = 0 := hu2.symm
    have hca : ¬ c = a := by omega
    have hw : subV (Flat.size α) (slc b o u l.length c) (some (i64 (a : Int))) (some (i64 ((a : Int) + k))) = some (slc b (o + a * Flat.size α) u k (c - a)) := by
      simp only [subV, e1, hb0]
      rw [if_pos hu3]
      simp [cutAt, hca]
    have hdl : ((l.drop a).take k).length = k := by rw [List.length_take, List.length_drop]; omega
    refine ⟨_, hw, .inr ⟨b, o + a * Flat.size α, u, c - a, by rw [hdl], by omega, hb, ?_, hu2⟩, rfl⟩
    rcases hl2 with rfl | ⟨rw_, cs, hg, q1, q2⟩
    · simp at ha
    · have e0 : a * Flat.size α + k * Flat.size α ≤ l.length * Flat.size α := by rw [← Nat.add_mul]; exact Nat.mul_le_mul_right _ hk
      refine .inr ⟨rw_, cs, hg, ?_, ?_⟩
      · rw [hdl]; omega
      · rw [hdl]
        have e2 : (cs.drop (o + a * Flat.size α)).take (k * Flat.size α) = (((cs.drop o).take (l.length * Flat.size α)).drop (a * Flat.size α)).take (k * Flat.size α) := by
          rw [List.drop_take, List.take_take, List.drop_drop, Nat.min_eq_left (by omega)]
        rw [e2, q2, encs_drop, encs_take]

theorem cells_ok {H : Heap} {x : Im} (h : ImAt H x) (hl : x.types.xs.length ≤ 1000000000) (a m : Int) (hm : 0 ≤ m) (hm2 : m ≤ 1000000000) (Q : V → Heap → Prop)
    (h0 : ∀ H', Keeps [] H H' → cellsS x.types.xs a m = none → Q (.slice none 0 0) H')
    (h1 : ∀ H' v l, Keeps [] H H' → cellsS x.types.xs a m = some l → Sl H' v l → isNil .s v = some false → Q v H') : wp (A_code_cells [.agg (Flat.enc x).toArray, i64 a, i64 m]) Q H := by
  show wp (F_code_cells (.agg (Flat.enc x).toArray) (i64 a) (i64 m)) Q H
  have ho := im_one x
  have hlen := h.types.len
  have k1 : Keeps [] H (H.push (some (.cells true [.string x.name, x.types.v, x.first.v, x.ins.v, x.outs.v, x.code.v]))) := keeps_push (Keeps.refl _ _)
  have g1 : (H.push (some (.cells true [.string x.name, x.types.v, x.first.v, x.ins.v, x.outs.v, x.code.v]))).get H.next = some (.cells true [.string x.name, x.types.v, x.first.v, x.ins.v, x.outs.v, x.code.v]) := Heap.get_push_self _ _
  unfold F_code_cells
  (try simp (maxSteps := 1000000) (disch := first | omega | (simp only [Z3]; omega) | (simp; done) | assumption | decide | (refine not_not_intro ?_; assumption)) only [Z1, Z2, splice, enc_im])
  generalize H.push (some (.cells true [.string x.name, x.types.v, x.first.v, x.ins.v, x.outs.v, x.code.v])) = H1 at *
  by_cases q1 : a < 0
  · (try simp (maxSteps := 1000000) (disch := first | omega | (simp only [Z3]; omega) | (simp; done) | assumption | decide | (refine not_not_intro ?_; assumption)) only [Z1, Z2, splice, decide_eq_true q1])
    exact h0 _ k1 (by unfold cellsS; rw [if_pos (.inl q1)])
  by_cases q2 : a ≥ x.types.xs.length
  · (try simp (maxSteps := 1000000) (disch := first | omega | (simp only [Z3]; omega) | (simp; done) | assumption | decide | (refine not_not_intro ?_; assumption)) only [Z1, Z2, splice, decide_eq_false q1, decide_eq_true q2, g1, hlen])
    exact h0 _ k1 (by unfold cellsS; rw [if_pos (.inr (.inl q2))])
  by_cases q3 : m > x.types.xs.length - a
  · (try simp (maxSteps := 1000000) (disch := first | omega | (simp only [Z3]; omega) | (simp; done) | assumption | decide | (refine not_not_intro ?_; assumption)) only [Z1, Z2, splice, decide_eq_false q1, decide_eq_false q2, decide_eq_true q3, g1, hlen])
    exact h0 _ k1 (by unfold cellsS; rw [if_pos (.inr (.inr q3))])
  obtain ⟨an, rfl⟩ : ∃ n : Nat, a = n := ⟨a.toNat, by omega⟩
  obtain ⟨mn, rfl⟩ : ∃ n : Nat, m = n := ⟨m.toNat, by omega⟩
  obtain ⟨w, hw, hsl, hnil⟩ := sub_cut (n := 1) rfl (h.types.keep0 k1) (a := an) (k := mn) (by omega) (by omega)
  (try simp (maxSteps := 1000000) (disch := first | omega | (simp only [Z3]; omega) | (simp; done) | assumption | decide | (refine not_not_intro ?_; assumption)) only [Z1, Z2, splice, decide_eq_false q1, decide_eq_false q2, decide_eq_false q3, g1, hlen, code_cells_k0, hw])
  exact h1 _ w _ k1 (by unfold cellsS; rw [if_neg (by omega)]; rfl) hsl hnil

/-! ### fields -/
structure Fd where
  name : ByteArray
  type : Int
  set : Bool
deriving DecidableEq
instance : Inhabited Fd := ⟨⟨⟨#[]⟩, 0, false⟩⟩
instance : Flat Fd := ⟨3, fun f => [.string f.name, i64 f.type, .bool f.set], fun _ => rfl, fun _ => rfl, by decide⟩
theorem enc_fd (f : Fd) : Flat.enc f = [.string f.name, i64 f.type, .bool f.set] := rfl
theorem sl_fd {H : Heap} {b : Nat} {fs : List Fd} (h : H.get b = some (.cells true (encs fs))) : Sl H (slc b 0 3 fs.length fs.length) fs :=
  .inr ⟨b, 0, 3, fs.length, rfl, Nat.le_refl _, Heap.get_lt h, .inr ⟨true, _, h, by rw [encs_length]; exact Nat.le_of_eq (Nat.zero_add _), by rw [List.drop_zero, ← encs_length fs, List.take_length]⟩, .inr rfl⟩
theorem in_ok {H0 H : Heap} (k0 : Keeps [] H0 H) (s : ByteArray) (t : Int) (Q : V → Heap → Prop) (hQ : ∀ H', Keeps [] H0 H' → Q (.agg #[.string s, i64 t, .bool true]) H') : wp (A_typed_in [.string s, i64 t]) Q H := by
  show wp (F_typed_in (.string s) (i64 t)) Q H
  unfold F_typed_in
  (try simp (maxSteps := 1000000) (disch := first | omega | (simp only [Z3]; omega) | (simp; done) | assumption | decide | (refine not_not_intro ?_; assumption)) only [Z1, Z2, splice])
  exact hQ _ (by (repeat (first | exact Keeps.refl _ _ | assumption | apply keeps_push | refine keeps_set ?_ (by simp; omega))))
theorem out_ok {H0 H : Heap} (k0 : Keeps [] H0 H) (s : ByteArray) (t : Int) (Q : V → Heap → Prop) (hQ : ∀ H', Keeps [] H0 H' → Q (.agg #[.string s, i64 t, .bool false]) H') : wp (A_typed_out [.string s, i64 t]) Q H := by
  show wp (F_typed_out (.string s) (i64 t)) Q H
  unfold F_typed_out
  (try simp (maxSteps := 1000000) (disch := first | omega | (simp only [Z3]; omega) | (simp; done) | assumption | decide | (refine not_not_intro ?_; assumption)) only [Z1, Z2, splice])
  exact hQ _ (by (repeat (first | exact Keeps.refl _ _ | assumption | apply keeps_push | refine keeps_set ?_ (by simp; omega))))
/-- a block's fields -/
theorem fields_ok {H : Heap} (kind : Int) (Q : V → Heap → Prop) (h0 : ∀ H', Keeps [] H H' → fieldsS kind = none → Q (.tuple #[.slice none 0 0, i64 92]) H')
    (h1 : ∀ H' v fs, Keeps [] H H' → fieldsS kind = some (fs.map Fd.type) → Sl H' v fs → Q (.tuple #[v, i64 0]) H') : wp (A_typed_Fields [i64 kind]) Q H := by
  show wp (F_typed_Fields (i64 kind)) Q H
  have k0 := Keeps.refl [] H
  unfold F_typed_Fields
  by_cases q1 : kind = 1
  · subst q1
    (try simp (maxSteps := 1000000) (disch := first | omega | (simp only [Z3]; omega) | (simp; done) | assumption | decide | (refine not_not_intro ?_; assumption)) only [Z1, Z2, splice, typed_Fields_k0, typed_Fields_k1])
    refine in_ok (by assumption) _ _ _ fun K0 kk0 => ?_
    (try simp (maxSteps := 1000000) (disch := first | omega | (simp only [Z3]; omega) | (simp; done) | assumption | decide | (refine not_not_intro ?_; assumption)) only [Z1, Z2, splice])
    refine in_ok (by assumption) _ _ _ fun K1 kk1 => ?_
    (try simp (maxSteps := 1000000) (disch := first | omega | (simp only [Z3]; omega) | (simp; done) | assumption | decide | (refine not_not_intro ?_; assumption)) only [Z1, Z2, splice])
    refine out_ok (by assumption) _ _ _ fun K2 kk2 => ?_
    (try simp (maxSteps := 1000000) (disch := first | omega | (simp only [Z3]; omega) | (simp; done) | assumption | decide | (refine not_not_intro ?_; assumption)) only [Z1, Z2, splice])
    refine out_ok (by assumption) _ _ _ fun K3 kk3 => ?_
    (try simp (maxSteps := 1000000) (disch := first | omega | (simp only [Z3]; omega) | (simp; done) | assumption | decide | (refine not_not_intro ?_; assumption)) only [Z1, Z2, splice])
    refine out_ok (by assumption) _ _ _ fun K4 kk4 => ?_
    (try simp (maxSteps := 1000000) (disch := first | omega | (simp only [Z3]; omega) | (simp; done) | assumption | decide | (refine not_not_intro ?_; assumption)) only [Z1, Z2, splice])
    refine out_ok (by assumption) _ _ _ fun K5 kk5 => ?_
    (try simp (maxSteps := 1000000) (disch := first | omega | (simp only [Z3]; omega) | (simp; done) | assumption | decide | (refine not_not_intro ?_; assumption)) only [Z1, Z2, splice])
    refine (wp_bslc (by rfl) (cs := encs ([⟨⟨#[73, 78]⟩, 1, true⟩, ⟨⟨#[80, 84]⟩, 4, true⟩, ⟨⟨#[81]⟩, 1, false⟩, ⟨⟨#[69, 84]⟩, 4, false⟩, ⟨⟨#[83, 84, 65, 82, 84]⟩, 4, false⟩, ⟨⟨#[82, 85, 78]⟩, 1, false⟩] : List Fd)) (by rfl)).mpr ?_
    exact h1 _ _ _ (keeps_push kk5) rfl (sl_fd (Heap.get_push_self _ _))
  by_cases q2 : kind = 2
  · subst q2
    (try simp (maxSteps := 1000000) (disch := first | omega | (simp only [Z3]; omega) | (simp; done) | assumption | decide | (refine not_not_intro ?_; assumption)) only [Z1, Z2, splice, typed_Fields_k0, typed_Fields_k1])
    refine in_ok (by assumption) _ _ _ fun K0 kk0 => ?_
    (try simp (maxSteps := 1000000) (disch := first | omega | (simp only [Z3]; omega) | (simp; done) | assumption | decide | (refine not_not_intro ?_; assumption)) only [Z1, Z2, splice])
    refine in_ok (by assumption) _ _ _ fun K1 kk1 => ?_
    (try simp (maxSteps := 1000000) (disch := first | omega | (simp only [Z3]; omega) | (simp; done) | assumption | decide | (refine not_not_intro ?_; assumption)) only [Z1, Z2, splice])
    refine out_ok (by assumption) _ _ _ fun K2 kk2 => ?_
    (try simp (maxSteps := 1000000) (disch := first | omega | (simp only [Z3]; omega) | (simp; done) | assumption | decide | (refine not_not_intro ?_; assumption)) only [Z1, Z2, splice])
    refine out_ok (by assumption) _ _ _ fun K3 kk3 => ?_
    (try simp (maxSteps := 1000000) (disch := first | omega | (simp only [Z3]; omega) | (simp; done) | assumption | decide | (refine not_not_intro ?_; assumption)) only [Z1, Z2, splice])
    refine out_ok (by assumption) _ _ _ fun K4 kk4 => ?_
    (try simp (maxSteps := 1000000) (disch := first | omega | (simp only [Z3]; omega) | (simp; done) | assumption | decide | (refine not_not_intro ?_; assumption)) only [Z1, Z2, splice])
    refine out_ok (by assumption) _ _ _ fun K5 kk5 => ?_
    (try simp (maxSteps := 1000000) (disch := first | omega | (simp only [Z3]; omega) | (simp; done) | assumption | decide | (refine not_not_intro ?_; assumption)) only [Z1, Z2, splice])
    refine (wp_bslc (by rfl) (cs := encs ([⟨⟨#[73, 78]⟩, 1, true⟩, ⟨⟨#[80, 84]⟩, 4, true⟩, ⟨⟨#[81]⟩, 1, false⟩, ⟨⟨#[69, 84]⟩, 4, false⟩, ⟨⟨#[83, 84, 65, 82, 84]⟩, 4, false⟩, ⟨⟨#[82, 85, 78]⟩, 1, false⟩] : List Fd)) (by rfl)).mpr ?_
    exact h1 _ _ _ (keeps_push kk5) rfl (sl_fd (Heap.get_push_self _ _))
  by_cases q3 : kind = 3
  · subst q3
    (try simp (maxSteps := 1000000) (disch := first | omega | (simp only [Z3]; omega) | (simp; done) | assumption | decide | (refine not_not_intro ?_; assumption)) only [Z1, Z2, splice, typed_Fields_k0, typed_Fields_k1])
    refine in_ok (by assumption) _ _ _ fun K0 kk0 => ?_
    (try simp (maxSteps := 1000000) (disch := first | omega | (simp only [Z3]; omega) | (simp; done) | assumption | decide | (refine not_not_intro ?_; assumption)) only [Z1, Z2, splice])
    refine in_ok (by assumption) _ _ _ fun K1 kk1 => ?_
    (try simp (maxSteps := 1000000) (disch := first | omega | (simp only [Z3]; omega) | (simp; done) | assumption | decide | (refine not_not_intro ?_; assumption)) only [Z1, Z2, splice])
    refine out_ok (by assumption) _ _ _ fun K2 kk2 => ?_
    (try simp (maxSteps := 1000000) (disch := first | omega | (simp only [Z3]; omega) | (simp; done) | assumption | decide | (refine not_not_intro ?_; assumption)) only [Z1, Z2, splice])
    refine out_ok (by assumption) _ _ _ fun K3 kk3 => ?_
    (try simp (maxSteps := 1000000) (disch := first | omega | (simp only [Z3]; omega) | (simp; done) | assumption | decide | (refine not_not_intro ?_; assumption)) only [Z1, Z2, splice])
    refine out_ok (by assumption) _ _ _ fun K4 kk4 => ?_
    (try simp (maxSteps := 1000000) (disch := first | omega | (simp only [Z3]; omega) | (simp; done) | assumption | decide | (refine not_not_intro ?_; assumption)) only [Z1, Z2, splice])
    refine out_ok (by assumption) _ _ _ fun K5 kk5 => ?_
    (try simp (maxSteps := 1000000) (disch := first | omega | (simp only [Z3]; omega) | (simp; done) | assumption | decide | (refine not_not_intro ?_; assumption)) only [Z1, Z2, splice])
    refine (wp_bslc (by rfl) (cs := encs ([⟨⟨#[73, 78]⟩, 1, true⟩, ⟨⟨#[80, 84]⟩, 4, true⟩, ⟨⟨#[81]⟩, 1, false⟩, ⟨⟨#[69, 84]⟩, 4, false⟩, ⟨⟨#[83, 84, 65, 82, 84]⟩, 4, false⟩, ⟨⟨#[82, 85, 78]⟩, 1, false⟩] : List Fd)) (by rfl)).mpr ?_
    exact h1 _ _ _ (keeps_push kk5) rfl (sl_fd (Heap.get_push_self _ _))
  by_cases q4 : kind = 4
  · subst q4
    (try simp (maxSteps := 1000000) (disch := first | omega | (simp only [Z3]; omega) | (simp; done) | assumption | decide | (refine not_not_intro ?_; assumption)) only [Z1, Z2, splice, typed_Fields_k0, typed_Fields_k1])
    refine in_ok (by assumption) _ _ _ fun K0 kk0 => ?_
    (try simp (maxSteps := 1000000) (disch := first | omega | (simp only [Z3]; omega) | (simp; done) | assumption | decide | (refine not_not_intro ?_; assumption)) only [Z1, Z2, splice])
    refine in_ok (by assumption) _ _ _ fun K1 kk1 => ?_
    (try simp (maxSteps := 1000000) (disch := first | omega | (simp only [Z3]; omega) | (simp; done) | assumption | decide | (refine not_not_intro ?_; assumption)) only [Z1, Z2, splice])
    refine in_ok (by assumption) _ _ _ fun K2 kk2 => ?_
    (try simp (maxSteps := 1000000) (disch := first | omega | (simp only [Z3]; omega) | (simp; done) | assumption | decide | (refine not_not_intro ?_; assumption)) only [Z1, Z2, splice])
    refine out_ok (by assumption) _ _ _ fun K3 kk3 => ?_
    (try simp (maxSteps := 1000000) (disch := first | omega | (simp only [Z3]; omega) | (simp; done) | assumption | decide | (refine not_not_intro ?_; assumption)) only [Z1, Z2, splice])
    refine out_ok (by assumption) _ _ _ fun K4 kk4 => ?_
    (try simp (maxSteps := 1000000) (disch := first | omega | (simp only [Z3]; omega) | (simp; done) | assumption | decide | (refine not_not_intro ?_; assumption)) only [Z1, Z2, splice])
    refine out_ok (by assumption) _ _ _ fun K5 kk5 => ?_
    (try simp (maxSteps := 1000000) (disch := first | omega | (simp only [Z3]; omega) | (simp; done) | assumption | decide | (refine not_not_intro ?_; assumption)) only [Z1, Z2, splice])
    refine (wp_bslc (by rfl) (cs := encs ([⟨⟨#[67, 85]⟩, 1, true⟩, ⟨⟨#[82]⟩, 1, true⟩, ⟨⟨#[80, 86]⟩, 2, true⟩, ⟨⟨#[81]⟩, 1, false⟩, ⟨⟨#[67, 86]⟩, 2, false⟩, ⟨⟨#[77]⟩, 1, false⟩] : List Fd)) (by rfl)).mpr ?_
    exact h1 _ _ _ (keeps_push kk5) rfl (sl_fd (Heap.get_push_self _ _))
  by_cases q5 : kind = 5
  · subst q5
    (try simp (maxSteps := 1000000) (disch := first | omega | (simp only [Z3]; omega) | (simp; done) | assumption | decide | (refine not_not_intro ?_; assumption)) only [Z1, Z2, splice, typed_Fields_k0, typed_Fields_k1])
    refine in_ok (by assumption) _ _ _ fun K0 kk0 => ?_
    (try simp (maxSteps := 1000000) (disch := first | omega | (simp only [Z3]; omega) | (simp; done) | assumption | decide | (refine not_not_intro ?_; assumption)) only [Z1, Z2, splice])
    refine in_ok (by assumption) _ _ _ fun K1 kk1 => ?_
    (try simp (maxSteps := 1000000) (disch := first | omega | (simp only [Z3]; omega) | (simp; done) | assumption | decide | (refine not_not_intro ?_; assumption)) only [Z1, Z2, splice])
    refine in_ok (by assumption) _ _ _ fun K2 kk2 => ?_
    (try simp (maxSteps := 1000000) (disch := first | omega | (simp only [Z3]; omega) | (simp; done) | assumption | decide | (refine not_not_intro ?_; assumption)) only [Z1, Z2, splice])
    refine out_ok (by assumption) _ _ _ fun K3 kk3 => ?_
    (try simp (maxSteps := 1000000) (disch := first | omega | (simp only [Z3]; omega) | (simp; done) | assumption | decide | (refine not_not_intro ?_; assumption)) only [Z1, Z2, splice])
    refine out_ok (by assumption) _ _ _ fun K4 kk4 => ?_
    (try simp (maxSteps := 1000000) (disch := first | omega | (simp only [Z3]; omega) | (simp; done) | assumption | decide | (refine not_not_intro ?_; assumption)) only [Z1, Z2, splice])
    refine out_ok (by assumption) _ _ _ fun K5 kk5 => ?_
    (try simp (maxSteps := 1000000) (disch := first | omega | (simp only [Z3]; omega) | (simp; done) | assumption | decide | (refine not_not_intro ?_; assumption)) only [Z1, Z2, splice])
    refine (wp_bslc (by rfl) (cs := encs ([⟨⟨#[67, 68]⟩, 1, true⟩, ⟨⟨#[76, 68]⟩, 1, true⟩, ⟨⟨#[80, 86]⟩, 2, true⟩, ⟨⟨#[81]⟩, 1, false⟩, ⟨⟨#[67, 86]⟩, 2, false⟩, ⟨⟨#[77]⟩, 1, false⟩] : List Fd)) (by rfl)).mpr ?_
    exact h1 _ _ _ (keeps_push kk5) rfl (sl_fd (Heap.get_push_self _ _))
  by_cases q6 : kind = 6
  · subst q6
    (try simp (maxSteps := 1000000) (disch := first | omega | (simp only [Z3]; omega) | (simp; done) | assumption | decide | (refine not_not_intro ?_; assumption)) only [Z1, Z2, splice, typed_Fields_k0, typed_Fields_k1])
    refine in_ok (by assumption) _ _ _ fun K0 kk0 => ?_
    (try simp (maxSteps := 1000000) (disch := first | omega | (simp only [Z3]; omega) | (simp; done) | assumption | decide | (refine not_not_intro ?_; assumption)) only [Z1, Z2, splice])
    refine out_ok (by assumption) _ _ _ fun K1 kk1 => ?_
    (try simp (maxSteps := 1000000) (disch := first | omega | (simp only [Z3]; omega) | (simp; done) | assumption | decide | (refine not_not_intro ?_; assumption)) only [Z1, Z2, splice])
    refine out_ok (by assumption) _ _ _ fun K2 kk2 => ?_
    (try simp (maxSteps := 1000000) (disch := first | omega | (simp only [Z3]; omega) | (simp; done) | assumption | decide | (refine not_not_intro ?_; assumption)) only [Z1, Z2, splice])
    refine (wp_bslc (by rfl) (cs := encs ([⟨⟨#[67, 76, 75]⟩, 1, true⟩, ⟨⟨#[81]⟩, 1, false⟩, ⟨⟨#[77]⟩, 1, false⟩] : List Fd)) (by rfl)).mpr ?_
    exact h1 _ _ _ (keeps_push kk2) rfl (sl_fd (Heap.get_push_self _ _))
  by_cases q7 : kind = 7
  · subst q7
    (try simp (maxSteps := 1000000) (disch := first | omega | (simp only [Z3]; omega) | (simp; done) | assumption | decide | (refine not_not_intro ?_; assumption)) only [Z1, Z2, splice, typed_Fields_k0, typed_Fields_k1])
    refine in_ok (by assumption) _ _ _ fun K0 kk0 => ?_
    (try simp (maxSteps := 1000000) (disch := first | omega | (simp only [Z3]; omega) | (simp; done) | assumption | decide | (refine not_not_intro ?_; assumption)) only [Z1, Z2, splice])
    refine out_ok (by assumption) _ _ _ fun K1 kk1 => ?_
    (try simp (maxSteps := 1000000) (disch := first | omega | (simp only [Z3]; omega) | (simp; done) | assumption | decide | (refine not_not_intro ?_; assumption)) only [Z1, Z2, splice])
    refine out_ok (by assumption) _ _ _ fun K2 kk2 => ?_
    (try simp (maxSteps := 1000000) (disch := first | omega | (simp only [Z3]; omega) | (simp; done) | assumption | decide | (refine not_not_intro ?_; assumption)) only [Z1, Z2, splice])
    refine (wp_bslc (by rfl) (cs := encs ([⟨⟨#[67, 76, 75]⟩, 1, true⟩, ⟨⟨#[81]⟩, 1, false⟩, ⟨⟨#[77]⟩, 1, false⟩] : List Fd)) (by rfl)).mpr ?_
    exact h1 _ _ _ (keeps_push kk2) rfl (sl_fd (Heap.get_push_self _ _))
  by_cases q8 : kind = 8
  · subst q8
    (try simp (maxSteps := 1000000) (disch := first | omega | (simp only [Z3]; omega) | (simp; done) | assumption | decide | (refine not_not_intro ?_; assumption)) only [Z1, Z2, splice, typed_Fields_k0, typed_Fields_k1])
    refine in_ok (by assumption) _ _ _ fun K0 kk0 => ?_
    (try simp (maxSteps := 1000000) (disch := first | omega | (simp only [Z3]; omega) | (simp; done) | assumption | decide | (refine not_not_intro ?_; assumption)) only [Z1, Z2, splice])
    refine in_ok (by assumption) _ _ _ fun K1 kk1 => ?_
    (try simp (maxSteps := 1000000) (disch := first | omega | (simp only [Z3]; omega) | (simp; done) | assumption | decide | (refine not_not_intro ?_; assumption)) only [Z1, Z2, splice])
    refine out_ok (by assumption) _ _ _ fun K2 kk2 => ?_
    (try simp (maxSteps := 1000000) (disch := first | omega | (simp only [Z3]; omega) | (simp; done) | assumption | decide | (refine not_not_intro ?_; assumption)) only [Z1, Z2, splice])
    refine (wp_bslc (by rfl) (cs := encs ([⟨⟨#[83, 49]⟩, 1, true⟩, ⟨⟨#[82]⟩, 1, true⟩, ⟨⟨#[81, 49]⟩, 1, false⟩] : List Fd)) (by rfl)).mpr ?_
    exact h1 _ _ _ (keeps_push kk2) rfl (sl_fd (Heap.get_push_self _ _))
  by_cases q9 : kind = 9
  · subst q9
    (try simp (maxSteps := 1000000) (disch := first | omega | (simp only [Z3]; omega) | (simp; done) | assumption | decide | (refine not_not_intro ?_; assumption)) only [Z1, Z2, splice, typed_Fields_k0, typed_Fields_k1])
    refine in_ok (by assumption) _ _ _ fun K0 kk0 => ?_
    (try simp (maxSteps := 1000000) (disch := first | omega | (simp only [Z3]; omega) | (simp; done) | assumption | decide | (refine not_not_intro ?_; assumption)) only [Z1, Z2, splice])
    refine in_ok (by assumption) _ _ _ fun K1 kk1 => ?_
    (try simp (maxSteps := 1000000) (disch := first | omega | (simp only [Z3]; omega) | (simp; done) | assumption | decide | (refine not_not_intro ?_; assumption)) only [Z1, Z2, splice])
    refine out_ok (by assumption) _ _ _ fun K2 kk2 => ?_
    (try simp (maxSteps := 1000000) (disch := first | omega | (simp only [Z3]; omega) | (simp; done) | assumption | decide | (refine not_not_intro ?_; assumption)) only [Z1, Z2, splice])
    refine (wp_bslc (by rfl) (cs := encs ([⟨⟨#[83]⟩, 1, true⟩, ⟨⟨#[82, 49]⟩, 1, true⟩, ⟨⟨#[81, 49]⟩, 1, false⟩] : List Fd)) (by rfl)).mpr ?_
    exact h1 _ _ _ (keeps_push kk2) rfl (sl_fd (Heap.get_push_self _ _))
  by_cases q10 : kind = 10
  · subst q10
    (try simp (maxSteps := 1000000) (disch := first | omega | (simp only [Z3]; omega) | (simp; done) | assumption | decide | (refine not_not_intro ?_; assumption)) only [Z1, Z2, splice, typed_Fields_k0, typed_Fields_k1])
    refine in_ok (by assumption) _ _ _ fun K0 kk0 => ?_
    (try simp (maxSteps := 1000000) (disch := first | omega | (simp only [Z3]; omega) | (simp; done) | assumption | decide | (refine not_not_intro ?_; assumption)) only [Z1, Z2, splice])
    refine in_ok (by assumption) _ _ _ fun K1 kk1 => ?_
    (try simp (maxSteps := 1000000) (disch := first | omega | (simp only [Z3]; omega) | (simp; done) | assumption | decide | (refine not_not_intro ?_; assumption)) only [Z1, Z2, splice])
    refine in_ok (by assumption) _ _ _ fun K2 kk2 => ?_
    (try simp (maxSteps := 1000000) (disch := first | omega | (simp only [Z3]; omega) | (simp; done) | assumption | decide | (refine not_not_intro ?_; assumption)) only [Z1, Z2, splice])
    refine out_ok (by assumption) _ _ _ fun K3 kk3 => ?_
    (try simp (maxSteps := 1000000) (disch := first | omega | (simp only [Z3]; omega) | (simp; done) | assumption | decide | (refine not_not_intro ?_; assumption)) only [Z1, Z2, splice])
    refine out_ok (by assumption) _ _ _ fun K4 kk4 => ?_
    (try simp (maxSteps := 1000000) (disch := first | omega | (simp only [Z3]; omega) | (simp; done) | assumption | decide | (refine not_not_intro ?_; assumption)) only [Z1, Z2, splice])
    refine out_ok (by assumption) _ _ _ fun K5 kk5 => ?_
    (try simp (maxSteps := 1000000) (disch := first | omega | (simp only [Z3]; omega) | (simp; done) | assumption | decide | (refine not_not_intro ?_; assumption)) only [Z1, Z2, splice])
    refine (wp_bslc (by rfl) (cs := encs ([⟨⟨#[65]⟩, 1, true⟩, ⟨⟨#[66]⟩, 1, true⟩, ⟨⟨#[82]⟩, 1, true⟩, ⟨⟨#[67, 86]⟩, 3, false⟩, ⟨⟨#[69, 82, 82]⟩, 1, false⟩, ⟨⟨#[76, 65, 83, 84]⟩, 2, false⟩] : List Fd)) (by rfl)).mpr ?_
    exact h1 _ _ _ (keeps_push kk5) rfl (sl_fd (Heap.get_push_self _ _))
  (try simp (maxSteps := 1000000) (disch := first | omega | (simp only [Z3]; omega) | (simp; done) | assumption | decide | (refine not_not_intro ?_; assumption)) only [Z1, Z2, splice, typed_Fields_k0, typed_Fields_k1, typed_Fields_k2])
  exact h0 _ k0 (by unfold fieldsS; rw [if_neg (by omega), if_neg (by omega), if_neg (by omega), if_neg (by omega), if_neg (by omega)])
end Go.AM.Cap
