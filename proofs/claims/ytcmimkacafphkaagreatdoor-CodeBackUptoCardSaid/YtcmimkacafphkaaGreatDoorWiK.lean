import Derived.Test.YtcmimkacafphkaaGreatDoorWiH
import Derived.Test.YtcmimkacafphkaaGreatDoorAmOpenF
set_option linter.all false
/- wire: Decode -/
set_option maxHeartbeats 16000000
namespace Go.AM.Cap
open Go.AM Go.Proofs

def ditems : Nat → List (BitVec 8) → Nat → (List It × Nat) ⊕ (Int × Int)
  | 0, _, a => .inl ([], a)
  | k + 1, r, a => match ditem r with
    | .inr e => .inr ((a : Int), e)
    | .inl (x, n) => match ditems k (r.drop n) (a + n) with
      | .inl (xs, e) => .inl (x :: xs, e)
      | .inr e => .inr e
theorem ditems_succ (k : Nat) (r : List (BitVec 8)) (a : Nat) : ditems (k + 1) r a = match ditem r with
    | .inr e => .inr ((a : Int), e)
    | .inl (x, n) => match ditems k (r.drop n) (a + n) with
      | .inl (xs, e) => .inl (x :: xs, e)
      | .inr e => .inr e := rfl
def decI (b : List (BitVec 8)) : List It × Option (Int × Int) :=
  if b.length > 65536 then ([], some (0, 2)) else if b.length < 2 then ([], some (0, 30)) else if (val8 (b.take 2)).toNat > 1000 then ([], some (0, 2))
  else match ditems (val8 (b.take 2)).toNat (b.drop 2) 2 with
    | .inr e => ([], some e)
    | .inl (xs, a) => if a < b.length then ([], some ((a : Int), 31)) else (xs, none)
def preI (xs : List It) : (List It × Nat) ⊕ (Int × Int) → (List It × Nat) ⊕ (Int × Int)
  | .inl (ys, a) => .inl (xs ++ ys, a)
  | .inr e => .inr e

theorem ditem_len {r : List (BitVec 8)} {x : It} {n : Nat} (h : ditem r = .inl (x, n)) : 0 < n ∧ n ≤ r.length := by
  cases r with
  | nil => cases h
  | cons c r =>
    unfold ditem at h
    dsimp only at h
    split at h
    · split at h
      · cases h
      · cases h; simp; omega
    · split at h
      · split at h
        · cases h
        · split at h
          · cases h
          · cases h; simp; omega
      · cases h
theorem u64_incr {j : Nat} (h : j ≤ 1000000) : bin .add (.int .u64 (j : Int)) (.int .u64 1) = some (.int .u64 ((j + 1 : Nat) : Int)) := by
  show some (Value.int .u64 (IntKind.u64.wrap ((j : Int) + 1))) = _
  rw [u64_in (by omega) (by omega)]
  rfl
theorem err_nil : notIf true (isNil .i (.nilIface : V)) = some (.bool false) := rfl
theorem err_some (a c : Int) : notIf true (isNil .i (errV (some (a, c)))) = some (.bool true) := rfl
theorem rep_it : rep 1 [Value.bool false, Value.int .i64 0, (Value.string ⟨#[]⟩ : V)] = [Value.bool false, Value.int .i64 0, .string ⟨#[]⟩] := rfl
/-- append(v, x), x an item -/
theorem app_it {H : Heap} {w : V} {xs : List It} (h : OwnF H w xs) (hl : xs.length ≤ 1000000000) (x : It) (Q : V → Heap → Prop) (hQ : ∀ w' H', OwnF H' w' (xs ++ [x]) → Keeps (vb w) H H' → (∀ b ∈ vb w', b ∈ vb w ∨ H.next ≤ b) → Q w' H') :
    wp (bslc 3 1 (rep 1 [Value.bool false, Value.int .i64 0, Value.string ⟨#[]⟩]) [(0, 3, .agg (Flat.enc x).toArray)]) (fun x H1 => wp (appV 3 32 w x) Q H1) H := by
  refine ownF_apps (ys := [x]) rfl h (by rfl) ?_ rfl (by omega) (by omega) hQ
  rw [fillA_agg (by rfl) (by rfl) (by rw [rep_it]; decide)]
  rw [rep_it, fillA_nil]
  rfl

set_option maxRecDepth 20000 in
theorem list_ok {H : Heap} (b : ByteArray) (Q : V → Heap → Prop) (hQ : ∀ w H', Keeps [] H H' → OwnF H' w (decI (bv b)).1 → (∀ x ∈ vb w, H.next ≤ x) → Q (.tuple #[w, errV (decI (bv b)).2]) H') : wp (A_wire_list [.string b]) Q H := by
  show wp (F_wire_list (.string b)) Q H
  have hlen : (bv b).length = b.size := bv_length b
  have herr : ∀ (e : Int × Int), decI (bv b) = ([], some e) → ∀ H', Keeps [] H H' → Q (.tuple #[.slice none 0 0, errV (some e)]) H' := fun e he H' hk => by
    have := hQ (.slice none 0 0) H' hk
    rw [he] at this
    exact this (OwnF.nil _) (by simp)
  by_cases h1 : b.size > 65536
  · have hd : decI (bv b) = ([], some (0, 2)) := by unfold decI; rw [if_pos (by omega)]
    (try simp (maxSteps := 1000000) (disch := first | omega | (simp only [Z3]; omega) | (simp; done) | assumption | decide | (refine not_not_intro ?_; assumption)) only [Z1, Z2, splice, F_wire_list, bad_eq])
    exact herr _ hd _ (Keeps.refl _ _)
  by_cases h2 : b.size < 2
  · have hd : decI (bv b) = ([], some (0, 30)) := by unfold decI; rw [if_neg (by omega), if_pos (by omega)]
    (try simp (maxSteps := 1000000) (disch := first | omega | (simp only [Z3]; omega) | (simp; done) | assumption | decide | (refine not_not_intro ?_; assumption)) only [Z1, Z2, splice, F_wire_list, bad_eq])
    exact herr _ hd _ (Keeps.refl _ _)
  have hs2 := subS_hi (s := b) (k' := .i64) (b := 2) (by omega) (by omega)
  have hv : bv (b.extract 0 2) = (bv b).take 2 := by rw [bv_extract]; rfl
  have hu := unsigned_eq (b.extract 0 2) (by rw [size_extract _ (by omega)]; omega)
  rw [hv] at hu
  have hle := val8_two_le (r := bv b) (by omega)
  have huw : W (val8 ((bv b).take 2)) = .int .u64 (((val8 ((bv b).take 2)).toNat : Nat) : Int) := rfl
  rw [huw] at hu
  have hdec : decI (bv b) = if (val8 ((bv b).take 2)).toNat > 1000 then ([], some (0, 2))
    else match ditems (val8 ((bv b).take 2)).toNat ((bv b).drop 2) 2 with
    | .inr e => ([], some e)
    | .inl (xs, a) => if a < (bv b).length then ([], some ((a : Int), 31)) else (xs, none) := by
      conv => lhs; unfold decI
      rw [if_neg (by omega), if_neg (by omega)]
  generalize (val8 ((bv b).take 2)).toNat = many at *
  clear huw
  by_cases h3 : many > 1000
  · have hd : decI (bv b) = ([], some (0, 2)) := by rw [hdec, if_pos h3]
    (try simp (maxSteps := 1000000) (disch := first | omega | (simp only [Z3]; omega) | (simp; done) | assumption | decide | (refine not_not_intro ?_; assumption)) only [Z1, Z2, splice, F_wire_list, hs2, Int.reduceToNat, hu, bad_eq])
    exact herr _ hd _ (Keeps.refl _ _)
  rw [if_neg h3] at hdec
  (try simp (maxSteps := 1000000) (disch := first | omega | (simp only [Z3]; omega) | (simp; done) | assumption | decide | (refine not_not_intro ?_; assumption)) only [Z1, Z2, splice, F_wire_list, hs2, Int.reduceToNat, hu, wire_list_k6])
  refine wp_loop (Inv := fun k vs H' => ∃ (j : Nat) (xs : List It) (a : Nat) (w : V), k = many - j ∧ j ≤ many ∧ vs = [.string b, w, i64 a, .int .u64 many, .int .u64 j] ∧ OwnF H' w xs ∧ Keeps [] H H' ∧ (∀ x ∈ vb w, H.next ≤ x) ∧ a ≤ b.size ∧ xs.length = j ∧ ditems many ((bv b).drop 2) 2 = preI xs (ditems (many - j) ((bv b).drop a) a)) (n := many) (by unfold FUEL; omega)
    ⟨0, [], 2, .slice none 0 0, by omega, by omega, rfl, OwnF.nil _, Keeps.refl _ _, by simp, by omega, rfl, by
      rw [Nat.sub_zero]
      cases ditems many ((bv b).drop 2) 2 with
      | inl p => rfl
      | inr e => rfl⟩ ?_
  rintro k vs H1 ⟨j, xs, a, w, hk, hj, rfl, ho, hk1, hfr, ha, hxl, hdi⟩
  by_cases hlt : j < many
  case neg =>
    have : j = many := by omega
    subst this
    rw [Nat.sub_self] at hdi
    have hdi' : ditems j ((bv b).drop 2) 2 = .inl (xs, a) := by rw [hdi]; simp [preI, ditems]
    rw [hdi'] at hdec
    dsimp only at hdec
    by_cases hm : a < b.size
    · rw [if_pos (by omega)] at hdec
      (try simp (maxSteps := 1000000) (disch := first | omega | (simp only [Z3]; omega) | (simp; done) | assumption | decide | (refine not_not_intro ?_; assumption)) only [Z1, Z2, splice, wire_list_l3, wire_list_k5, bad_eq])
      exact herr _ hdec _ hk1
    · rw [if_neg (by omega)] at hdec
      rw [hdec] at hQ
      (try simp (maxSteps := 1000000) (disch := first | omega | (simp only [Z3]; omega) | (simp; done) | assumption | decide | (refine not_not_intro ?_; assumption)) only [Z1, Z2, splice, wire_list_l3, wire_list_k5, wire_list_k4])
      exact hQ w H1 hk1 ho hfr
  obtain ⟨m, hm⟩ : ∃ m, many - j = m + 1 := ⟨many - j - 1, by omega⟩
  rw [hm, ditems_succ] at hdi
  (try simp (maxSteps := 1000000) (disch := first | omega | (simp only [Z3]; omega) | (simp; done) | assumption | decide | (refine not_not_intro ?_; assumption)) only [Z1, Z2, splice, wire_list_l3, wire_list_k2])
  refine item_ok b a ha (by omega) _ fun H2 k2 => ?_
  have k02 : Keeps [] H H2 := hk1.trans k2 (by simp)
  cases hd : ditem ((bv b).drop a) with
  | inr e =>
    rw [hd] at hdi
    dsimp only [preI] at hdi
    rw [hdi] at hdec
    (try simp (maxSteps := 1000000) (disch := first | omega | (simp only [Z3]; omega) | (simp; done) | assumption | decide | (refine not_not_intro ?_; assumption)) only [Z1, Z2, splice, itemV, err_some])
    refine herr _ hdec _ ?_
    (repeat (first | exact Keeps.refl _ _ | assumption | apply keeps_push | refine keeps_set ?_ (by simp; omega)))
  | inl p =>
    obtain ⟨x, n⟩ := p
    rw [hd] at hdi
    dsimp only at hdi
    have hln := ditem_len hd
    rw [List.length_drop, hlen] at hln
    have k3 : Keeps [] H2 (H2.push (some (.cells true [.bool x.t, i64 x.n, .string x.s]))) := Keeps.push _ _ _
    have g3 : (H2.push (some (.cells true [.bool x.t, i64 x.n, .string x.s]))).get H2.next = some (.cells true [.bool x.t, i64 x.n, .string x.s]) := Heap.get_push_self _ _
    (try simp (maxSteps := 1000000) (disch := first | omega | (simp only [Z3]; omega) | (simp; done) | assumption | decide | (refine not_not_intro ?_; assumption)) only [Z1, cellP_get, cellG_cells, wp_st1g, stG_c, eq_self, true_and, wp_stng, stnG_ok, wp_ldng, ldG_ok, wp_newcg, wp_boxg, Heap.get_set_eq, Heap.get_set_ne', Heap.next_push', Heap.next_set', Heap.set_push_lt, Heap.set_push_eq, Heap.set_set, fld1_agg, fldn_agg, ext_tuple, outV_nil, outV_two, outV_three, outV_four, chk_ld1g, chkO_int, chkO_bool, chkO_str, chkO_ptr, chkO_slc, chkO_map, List.set_cons_zero, List.set_cons_succ, List.length_cons, List.length_nil, List.drop_succ_cons, List.drop_zero, List.take_succ_cons, List.take_zero, List.nil_append, List.cons_append, splice, isOne_int, isOne_str, isOne_bool, isOne_slice, isOne_pointer, isOne_map, condM_nf, condM_nef, gd_nef, gdf_nef, pick_nef, build_eq, fillA_nil, fillA_one, fillA_agg, Option.map_some, resv_one, resv_two, freeIn_nil, fillA_slc, fillA_int, fillA_str, fillA_bool, fillA_ptr, fillA_map, itemV, err_nil, enc_it, g3, wire_list_k0])
    generalize H2.push (some (.cells true [.bool x.t, i64 x.n, .string x.s])) = H3 at *
    refine app_it ((ho.keep0 k2).keep0 k3) (by omega) x _ fun w' H4 o4 k4 v4 => ?_
    (try simp (maxSteps := 1000000) (disch := first | omega | (simp only [Z3]; omega) | (simp; done) | assumption | decide | (refine not_not_intro ?_; assumption)) only [Z1, Z2, splice, wire_list_k1, u64_incr])
    refine ⟨many - (j + 1), by omega, j + 1, _, a + n, w', rfl, by omega, rfl, o4, ?_, ?_, by omega, by simp [hxl], ?_⟩
    · exact (k02.trans k3 (by simp)).trans k4 fun c hc hm => by have := hfr c hm; omega
    · intro c hc
      rcases v4 c hc with q | q
      · exact hfr c q
      · have := k02.next; have := k3.next; omega
    · rw [hdi, List.drop_drop, show many - (j + 1) = m from by omega]
      cases ditems m ((bv b).drop (a + n)) (a + n) with
      | inl p => simp [preI]
      | inr e => rfl

theorem dec_ok {H : Heap} (hT : Tok H) (b : ByteArray) (Q : V → Heap → Prop) (hQ : ∀ w H', Keeps [] H H' → OwnF H' w (decI (bv b)).1 → (∀ x ∈ vb w, H.next ≤ x) → Q (.tuple #[w, .agg #[i64 (faultOf (decI (bv b)).2).1, i64 (faultOf (decI (bv b)).2).2]]) H') : wp (A_wire_Decode asF [.string b]) Q H := by
  show wp (F_wire_Decode asF (.string b)) Q H
  have k1 : Keeps [] H (H.push (some (.cells true [i64 0, i64 0]))) := Keeps.push _ _ _
  have g1 : (H.push (some (.cells true [i64 0, i64 0]))).get H.next = some (.cells true [i64 0, i64 0]) := Heap.get_push_self _ _
  have n1 : (H.push (some (.cells true [i64 0, i64 0]))).next = H.next + 1 := by simp
  (try simp (maxSteps := 1000000) (disch := first | omega | (simp only [Z3]; omega) | (simp; done) | assumption | decide | (refine not_not_intro ?_; assumption)) only [Z1, cellP_get, cellG_cells, wp_st1g, stG_c, eq_self, true_and, wp_stng, stnG_ok, wp_ldng, ldG_ok, wp_newcg, wp_boxg, Heap.get_set_eq, Heap.get_set_ne', Heap.next_push', Heap.next_set', Heap.set_push_lt, Heap.set_push_eq, Heap.set_set, fld1_agg, fldn_agg, ext_tuple, outV_nil, outV_two, outV_three, outV_four, chk_ld1g, chkO_int, chkO_bool, chkO_str, chkO_ptr, chkO_slc, chkO_map, List.set_cons_zero, List.set_cons_succ, List.length_cons, List.length_nil, List.drop_succ_cons, List.drop_zero, List.take_succ_cons, List.take_zero, List.nil_append, List.cons_append, splice, isOne_int, isOne_str, isOne_bool, isOne_slice, isOne_pointer, isOne_map, condM_nf, condM_nef, gd_nef, gdf_nef, pick_nef, build_eq, fillA_nil, fillA_one, fillA_agg, Option.map_some, resv_one, resv_two, freeIn_nil, fillA_slc, fillA_int, fillA_str, fillA_bool, fillA_ptr, fillA_map, F_wire_Decode])
  generalize H.push (some (.cells true [i64 0, i64 0])) = H1 at *
  refine list_ok b _ fun w H2 k2 o2 f2 => ?_
  (try simp (maxSteps := 1000000) (disch := first | omega | (simp only [Z3]; omega) | (simp; done) | assumption | decide | (refine not_not_intro ?_; assumption)) only [Z1, Z2, splice])
  refine fault_ok ((hT.keep0 k1).keep0 k2) _ _ fun H3 k3 => ?_
  have g3 := k3.get (k2.get g1 (by simp)) (by simp)
  have hw : H.next ∉ vb w := fun q => by have := f2 _ q; omega
  have hn3 : H.next < H3.next := by have := k2.next; have := k3.next; omega
  (try simp (maxSteps := 1000000) (disch := first | omega | (simp only [Z3]; omega) | (simp; done) | assumption | decide | (refine not_not_intro ?_; assumption)) only [Z1, Z2, splice, g3])
  refine hQ w _ (keeps_set ((k1.trans k2 (by simp)).trans k3 (by simp)) (.inr (Nat.le_refl _))) ?_ fun x hx => by have := f2 x hx; omega
  exact (o2.keep0 k3).keep (Keeps.set (S := [H.next]) (by simp)) (fun c hc => by intro q; simp at q; subst q; exact hw hc)
end Go.AM.Cap

/- wire: the reference's Decode; the lists' book -/
set_option maxHeartbeats 16000000
namespace Go.AM.Cap
open Go.AM Go.Proofs

end Go.AM.Cap

/- wire: the lists' book; works -/
set_option maxHeartbeats 16000000
namespace Go.AM.Cap
open Go.AM Go.Proofs

theorem eq_two (a b c d : Int) : eqAgg [.i, .i] (.agg (#[i64 a, i64 b] : Array V)) (.agg (#[i64 c, i64 d] : Array V)) = some (decide (a = c ∧ b = d)) := by
  show eqKs [.i, .i] [i64 a, i64 b] [i64 c, i64 d] = _
  simp only [eqKs, eqK, if_true]
  by_cases h1 : a = c
  · subst h1
    by_cases h2 : b = d
    · subst h2; simp
    · have e : (b == d) = false := by simpa using h2
      simp [e, h2]
  · have e : (a == c) = false := by simpa using h1
    simp [e, h1]
theorem notIf_t (b : Bool) : notIf true (some b) = some (.bool (!b)) := rfl
end Go.AM.Cap
