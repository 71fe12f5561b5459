import Derived.Test.YtcmimkacafphkaaGreatDoorCoRi
import Derived.Test.YtcmimkacafphkaaGreatDoorAmOpenF
set_option linter.all false
/- code: reading items on the machine -/
set_option maxHeartbeats 16000000
namespace Go.AM.Cap
open Go.AM Go.Proofs

theorem sub_from {α : Type} [Flat α] {n : Nat} (hs : Flat.size α = n) {H : Heap} {v : V} {l : List α} (h : Sl H v l) {k : Nat} (hk : k ≤ l.length) : ∃ w, subV n v (some (i64 (k : Int))) none = some w ∧ Sl H w (l.drop k) ∧ ∀ b ∈ vb w, b ∈ vb v := by
  subst hs
  rcases h with ⟨rfl, rfl⟩ | ⟨b, o, u, c, rfl, hc, hb, hl2, hu2⟩
  · have hk0 : k = 0 := by simpa using hk
    subst hk0
    exact ⟨.slice none 0 0, rfl, Sl.nil H, by simp⟩
  · have e1 : bound l.length c none = some l.length := rfl
    have hb0 : bound 0 l.length (some (i64 (k : Int))) = some k := by simp [bound]; omega
    have hu3 : u = Flat.size α ∨ u = 0 := hu2.symm
    have hdl : (l.drop k).length = l.length - k := by rw [List.length_drop]
    by_cases hck : c = k
    · have hw : subV (Flat.size α) (slc b o u l.length c) (some (i64 (k : Int))) none = some (slc b o u (l.length - k) (c - k)) := by
        simp only [subV, e1, hb0]
        rw [if_pos hu3]
        simp [cutAt, hck]
      have hnil : l.drop k = [] := List.drop_of_length_le (by omega)
      refine ⟨_, hw, .inr ⟨b, o, u, c - k, by rw [hdl], by omega, hb, .inl hnil, hu2⟩, by simp⟩
    · have hw : subV (Flat.size α) (slc b o u l.length c) (some (i64 (k : Int))) none = some (slc b (o + k * Flat.size α) u (l.length - k) (c - k)) := by
        simp only [subV, e1, hb0]
        rw [if_pos hu3]
        simp [cutAt, hck]
      refine ⟨_, hw, .inr ⟨b, o + k * Flat.size α, u, c - k, by rw [hdl], by omega, hb, ?_, hu2⟩, by simp⟩
      rcases hl2 with rfl | ⟨rw_, cs, hg, q1, q2⟩
      · left; simp
      · refine .inr ⟨rw_, cs, hg, ?_, ?_⟩
        · rw [hdl]
          have : (l.length - k) * Flat.size α + k * Flat.size α = l.length * Flat.size α := by rw [← Nat.add_mul]; congr 1; omega
          omega
        · rw [hdl]
          have e2 : l.length * Flat.size α - k * Flat.size α = (l.length - k) * Flat.size α := by rw [Nat.sub_mul]
          have : (cs.drop (o + k * Flat.size α)).take ((l.length - k) * Flat.size α) = ((cs.drop o).take (l.length * Flat.size α)).drop (k * Flat.size α) := by
            rw [List.drop_take, List.drop_drop, e2]
          rw [this, q2, encs_drop]

/-! numbers that stand ahead -/
def zI : It := ⟨false, 0, ⟨#[]⟩⟩
/-- what the reader takes -/
def tk (t : Bool) : Option (List It) → It × Option (List It)
  | some (x :: l) => if x.t = t then (x, some l) else (zI, none)
  | _ => (zI, none)
def tkN (σ : Option (List It)) : Int × Option (List It) := ((tk false σ).1.n, (tk false σ).2)
def manyS (σ : Option (List It)) : Int × Option (List It) := if (tkN σ).1 < 0 ∨ (tkN σ).1 > 1024 then (0, none) else tkN σ
def numsS : Nat → Option (List It) → List Int × Option (List It)
  | 0, σ => ([], σ)
  | k + 1, σ => ((tkN σ).1 :: (numsS k (tkN σ).2).1, (numsS k (tkN σ).2).2)
def listS (σ : Option (List It)) : List Int × Option (List It) := numsS (manyS σ).1.toNat (manyS σ).2
def pairsS : Nat → Option (List It) → List (Int × Int) × Option (List It)
  | 0, σ => ([], σ)
  | k + 1, σ => (((tkN σ).1, (tkN (tkN σ).2).1) :: (pairsS k (tkN (tkN σ).2).2).1, (pairsS k (tkN (tkN σ).2).2).2)
theorem numsS_length : ∀ (k : Nat) (σ : Option (List It)), (numsS k σ).1.length = k
  | 0, _ => rfl
  | k + 1, σ => by simp [numsS, numsS_length k]
theorem pairsS_length : ∀ (k : Nat) (σ : Option (List It)), (pairsS k σ).1.length = k
  | 0, _ => rfl
  | k + 1, σ => by simp [pairsS, pairsS_length k]
theorem manyS_le (σ : Option (List It)) : 0 ≤ (manyS σ).1 ∧ (manyS σ).1 ≤ 1024 := by
  unfold manyS
  split
  · exact ⟨by omega, by omega⟩
  · omega
theorem eqb_neg (a b : Bool) : notIf true (eqK .b (.bool a) (.bool b)) = some (.bool (!(a == b))) := rfl
theorem take_ok {H0 H : Heap} {L : List Thing} {p : Nat} {lv : V} {σ : Option (List It)} (hl : Sl H0 lv (σ.getD [])) (st : Hp H0 H (cel p [lv, .bool σ.isNone] :: L)) (t : Bool)
    (Q : V → Heap → Prop) (hQ : ∀ lv' H', Sl H0 lv' ((tk t σ).2.getD []) → Hp H0 H' (cel p [lv', .bool (tk t σ).2.isNone] :: L) → Q (.agg (Flat.enc (tk t σ).1).toArray) H') : wp (A_code_reader_take [ptr p 0, .bool t]) Q H := by
  show wp (F_code_reader_take (ptr p 0) (.bool t)) Q H
  unfold F_code_reader_take
  have hl1 := st.ro hl
  have hlen := hl1.len
  have hone := hl.isOne
  rw [wp_bnd, wp_bnd]
  refine (wp_newcg (by rfl)).mpr ?_
  have s1 := st.newc [Value.bool false, Value.int .i64 0, Value.string ⟨#[]⟩]
  generalize H.push (some (.cells true [Value.bool false, Value.int .i64 0, Value.string ⟨#[]⟩])) = H1 at *
  generalize H.next = r at *
  have gp := s1.get (i := 1) rfl
  have gr := s1.get (i := 0) rfl
  have hp := Heap.get_lt gp
  have hr := Heap.get_lt gr
  have hl2 := s1.ro hl
  have hne : p ≠ r := fun e => by
    have := s1.apart2 (i := 0) (j := 1) rfl rfl (by omega) r (by simp [cel])
    exact this (by simp [cel, e])
  have bad : ∀ (hz : tk t σ = (zI, none)), Q (.agg (Flat.enc zI).toArray) ((H1.set p (some (.cells true [.slice none 0 0, .bool true]))).set r (some (.cells true [Value.bool false, Value.int .i64 0, Value.string ⟨#[]⟩]))) := fun hz => by
    have := hQ (.slice none 0 0) ((H1.set p (some (.cells true [.slice none 0 0, .bool true]))).set r (some (.cells true [Value.bool false, Value.int .i64 0, Value.string ⟨#[]⟩]))) (by rw [hz]; exact Sl.nil _) (by
      rw [hz]
      exact ((s1.set (i := 1) rfl [.slice none 0 0, .bool true]).set (i := 0) rfl [Value.bool false, Value.int .i64 0, Value.string ⟨#[]⟩]).tail)
    rw [hz] at this
    exact this
  match σ with
  | none =>
    have hlen0 : lenSlc lv = some (i64 0) := hlen
    (try simp (maxSteps := 1000000) (disch := first | omega | (simp only [Z3]; omega) | (simp; done) | assumption | decide | (refine not_not_intro ?_; assumption)) only [Z1, Z2, splice, gp, gr, hlen0])
    exact bad rfl
  | some [] =>
    have hlen0 : lenSlc lv = some (i64 0) := hlen
    (try simp (maxSteps := 1000000) (disch := first | omega | (simp only [Z3]; omega) | (simp; done) | assumption | decide | (refine not_not_intro ?_; assumption)) only [Z1, Z2, splice, gp, gr, hlen0])
    exact bad rfl
  | some (x :: l) =>
    have hlx : Sl H1 lv (x :: l) := hl2
    have hlen0 : lenSlc lv = some (i64 ((l.length + 1 : Nat) : Int)) := hlen
    have a1 := hlx.addr' (n := 3) rfl (k := .i64) (i := 0) (by omega) (by simp)
    rw [show (0 : Int).toNat = 0 from rfl] at a1
    have c1 := hlx.cell' (n := 3) rfl (i := 0) (off := 0) (by simp) (by omega) default
    rw [cellP_get] at c1
    simp only [Nat.add_zero] at c1
    have c1' : (Flat.enc ((x :: l).getD 0 default))[0]? = some (.bool x.t) := rfl
    rw [c1'] at c1
    by_cases ht : x.t = t
    case neg =>
      have hb : (x.t == t) = false := by simpa using ht
      (try simp (maxSteps := 1000000) (disch := first | omega | (simp only [Z3]; omega) | (simp; done) | assumption | decide | (refine not_not_intro ?_; assumption)) only [Z1, Z2, splice, gp, gr, hlen0, a1, c1, eqb_neg, hb, Bool.not_false])
      refine bad ?_
      simp [tk, ht]
    have hb : (x.t == t) = true := by simpa using ht
    obtain ⟨w, e1, sw, _⟩ := sub_from (n := 3) rfl (H := H0) (v := lv) (l := x :: l) hl (k := 1) (by simp)
    have e1' : subV 3 lv (some (i64 1)) none = some w := e1
    have d1 := fun Q => hlx.ldn' (Q := Q) (n := 3) rfl (i := 0) (by simp) default
    (try simp (maxSteps := 1000000) (disch := first | omega | (simp only [Z3]; omega) | (simp; done) | assumption | decide | (refine not_not_intro ?_; assumption)) only [Z1, cellP_get, cellG_cells, wp_st1g, stG_c, eq_self, true_and, wp_stng, stnG_ok, ldG_ok, wp_newcg, wp_boxg, Heap.get_push_eq, Heap.get_push_lt, Heap.get_set_eq, Heap.get_set_ne', Heap.next_push', Heap.next_set', Heap.set_push_lt, Heap.set_push_eq, Heap.set_set, fld1_agg, fldn_agg, ext_tuple, outV_nil, outV_two, outV_three, outV_four, chk_ld1g, chkO_int, chkO_bool, chkO_str, chkO_ptr, chkO_slc, chkO_map, List.set_cons_zero, List.set_cons_succ, List.length_cons, List.length_nil, List.drop_succ_cons, List.drop_zero, List.take_succ_cons, List.take_zero, List.nil_append, List.cons_append, splice, isOne_int, isOne_str, isOne_bool, isOne_slice, isOne_pointer, isOne_map, condM_nf, condM_nef, gd_nef, gdf_nef, pick_nef, build_eq, fillA_nil, fillA_one, fillA_agg, Option.map_some, resv_one, resv_two, freeIn_nil, fillA_slc, fillA_int, fillA_str, fillA_bool, fillA_ptr, fillA_map, gp, gr, hlen0, a1, c1, eqb_neg, hb, Bool.not_true, code_reader_take_k0, d1])
    have s2 := s1.newc (Flat.enc x)
    rw [show (x :: l).getD 0 default = x from rfl, enc_it]
    (try simp (maxSteps := 1000000) (disch := first | omega | (simp only [Z3]; omega) | (simp; done) | assumption | decide | (refine not_not_intro ?_; assumption)) only [Z1, Z2, splice, gp, gr, e1'])
    refine ⟨sw.isOne, ?_⟩
    have e2 : tk t (some (x :: l)) = (x, some l) := by simp [tk, ht]
    have := hQ w (((H1.set p (some (.cells true [w, .bool false]))).set r (some (.cells true [Value.bool x.t, i64 x.n, Value.string x.s]))).push (some (.cells true [Value.bool x.t, i64 x.n, Value.string x.s]))) (by rw [e2]; exact sw) (by
      rw [e2]
      exact ((s1.set (i := 1) rfl [w, .bool false]).set (i := 0) rfl [Value.bool x.t, i64 x.n, Value.string x.s]).tail.push _)
    rw [e2] at this
    exact this
theorem many_ok {H0 H : Heap} {L : List Thing} {p : Nat} {lv : V} {σ : Option (List It)} (hl : Sl H0 lv (σ.getD [])) (st : Hp H0 H (cel p [lv, .bool σ.isNone] :: L))
    (Q : V → Heap → Prop) (hQ : ∀ lv' H', Sl H0 lv' ((manyS σ).2.getD []) → Hp H0 H' (cel p [lv', .bool (manyS σ).2.isNone] :: L) → Q (i64 (manyS σ).1) H') : wp (A_code_reader_many [ptr p 0]) Q H := by
  show wp (F_code_reader_many (ptr p 0)) Q H
  unfold F_code_reader_many
  (try simp (maxSteps := 1000000) (disch := first | omega | (simp only [Z3]; omega) | (simp; done) | assumption | decide | (refine not_not_intro ?_; assumption)) only [Z1, Z2, splice])
  refine take_ok hl st false _ fun lv' H1 hl1 s1 => ?_
  have e2 : (tk false σ).2 = (tkN σ).2 := rfl
  have e1 : (tk false σ).1.n = (tkN σ).1 := rfl
  rw [e2] at hl1 s1
  have gp := s1.get (i := 0) rfl
  have hp := Heap.get_lt gp
  have hone := hl1.isOne
  rw [enc_it, e1]
  have hbad : (tkN σ).1 < 0 ∨ (tkN σ).1 > 1024 → Q (i64 0) (H1.set p (some (.cells true [.slice none 0 0, .bool true]))) := fun q => by
    have e : manyS σ = (0, none) := by unfold manyS; rw [if_pos q]
    have := hQ (.slice none 0 0) (H1.set p (some (.cells true [.slice none 0 0, .bool true]))) (by rw [e]; exact Sl.nil _) (by rw [e]; exact s1.set (i := 0) rfl _)
    rw [e] at this
    exact this
  have hgood : ¬ ((tkN σ).1 < 0 ∨ (tkN σ).1 > 1024) → Q (i64 (tkN σ).1) H1 := fun q => by
    have e : manyS σ = tkN σ := by unfold manyS; rw [if_neg q]
    have := hQ lv' H1 (by rw [e]; exact hl1) (by rw [e]; exact s1)
    rw [e] at this
    exact this
  generalize (tkN σ).1 = n at *
  by_cases q1 : n < 0
  · (try simp (maxSteps := 1000000) (disch := first | omega | (simp only [Z3]; omega) | (simp; done) | assumption | decide | (refine not_not_intro ?_; assumption)) only [Z1, Z2, splice, decide_eq_true q1, gp])
    exact hbad (.inl q1)
  by_cases q2 : n > 1024
  · (try simp (maxSteps := 1000000) (disch := first | omega | (simp only [Z3]; omega) | (simp; done) | assumption | decide | (refine not_not_intro ?_; assumption)) only [Z1, Z2, splice, decide_eq_false q1, decide_eq_true q2, gp])
    exact hbad (.inr q2)
  (try simp (maxSteps := 1000000) (disch := first | omega | (simp only [Z3]; omega) | (simp; done) | assumption | decide | (refine not_not_intro ?_; assumption)) only [Z1, Z2, splice, decide_eq_false q1, decide_eq_false q2, code_reader_many_k0])
  exact hgood (by omega)
theorem rdList_ok {H0 H : Heap} {L : List Thing} {p : Nat} {lv : V} {σ : Option (List It)} (hl : Sl H0 lv (σ.getD [])) (st : Hp H0 H (cel p [lv, .bool σ.isNone] :: L))
    (Q : V → Heap → Prop) (hQ : ∀ w lv' H', Sl H0 lv' ((listS σ).2.getD []) → Hp H0 H' (own w (listS σ).1 :: cel p [lv', .bool (listS σ).2.isNone] :: L) → Q w H') : wp (A_code_reader_list [ptr p 0]) Q H := by
  show wp (F_code_reader_list (ptr p 0)) Q H
  unfold F_code_reader_list
  (try simp (maxSteps := 1000000) (disch := first | omega | (simp only [Z3]; omega) | (simp; done) | assumption | decide | (refine not_not_intro ?_; assumption)) only [Z1, Z2, splice])
  refine many_ok hl st _ fun lv1 H1 hl1 s1 => ?_
  have hle := manyS_le σ
  obtain ⟨n, hn⟩ : ∃ n : Nat, (manyS σ).1 = n := ⟨(manyS σ).1.toNat, by omega⟩
  unfold listS at hQ
  rw [hn, Int.toNat_natCast] at hQ
  rw [hn] at hle ⊢
  generalize (manyS σ).2 = σ1 at *
  (try simp (maxSteps := 1000000) (disch := first | omega | (simp only [Z3]; omega) | (simp; done) | assumption | decide | (refine not_not_intro ?_; assumption)) only [Z1, Z2, splice])
  refine wp_loop (Inv := fun k vs H' => ∃ (j : Nat) (w lv' : V) (acc : List Int) (σ' : Option (List It)), k = n - j ∧ j ≤ n ∧ vs = [ptr p 0, w, i64 n, i64 j] ∧ Sl H0 lv' (σ'.getD []) ∧ Hp H0 H' (own w acc :: cel p [lv', .bool σ'.isNone] :: L) ∧ acc.length = j ∧ acc ++ (numsS (n - j) σ').1 = (numsS n σ1).1 ∧ (numsS (n - j) σ').2 = (numsS n σ1).2) (n := n) (by unfold FUEL; omega)
    ⟨0, .slice none 0 0, lv1, [], σ1, by omega, by omega, rfl, hl1, s1.nilo, rfl, by simp, by simp⟩ ?_
  rintro k vs H2 ⟨j, w, lv2, acc, σ2, hk, hj, rfl, hl2, s2, ha, h1, h2⟩
  by_cases hlt : j < n
  case neg =>
    have : n - j = 0 := by omega
    rw [this] at h1 h2
    simp only [numsS, List.append_nil] at h1 h2
    (try simp (maxSteps := 1000000) (disch := first | omega | (simp only [Z3]; omega) | (simp; done) | assumption | decide | (refine not_not_intro ?_; assumption)) only [Z1, Z2, splice, code_reader_list_l2, code_reader_list_k3])
    exact hQ w lv2 H2 (by rw [← h2]; exact hl2) (by rw [← h1, ← h2]; exact s2)
  obtain ⟨m, hm⟩ : ∃ m, n - j = m + 1 := ⟨n - j - 1, by omega⟩
  rw [hm] at h1 h2
  simp only [numsS] at h1 h2
  (try simp (maxSteps := 1000000) (disch := first | omega | (simp only [Z3]; omega) | (simp; done) | assumption | decide | (refine not_not_intro ?_; assumption)) only [Z1, Z2, splice, code_reader_list_l2, code_reader_list_k1])
  refine take_ok hl2 (s2.perm (List.Perm.swap _ _ _)) false _ fun lv3 H3 hl3 s3 => ?_
  have e2 : (tk false σ2).2 = (tkN σ2).2 := rfl
  have e1 : (tk false σ2).1.n = (tkN σ2).1 := rfl
  rw [e2] at hl3 s3
  rw [enc_it, e1]
  generalize (tkN σ2).1 = x at *
  generalize (tkN σ2).2 = σ3 at *
  (try simp (maxSteps := 1000000) (disch := first | omega | (simp only [Z3]; omega) | (simp; done) | assumption | decide | (refine not_not_intro ?_; assumption)) only [Z1, Z2, splice])
  refine (wp_bslc (by rfl) (cs := encs [x]) (by rfl)).mpr ?_
  have s4 := s3.newo (n := 1) (m := 1) [x] rfl rfl
  generalize H3.push (some (.cells true (encs [x]))) = H4 at *
  (try simp (maxSteps := 1000000) (disch := first | omega | (simp only [Z3]; omega) | (simp; done) | assumption | decide | (refine not_not_intro ?_; assumption)) only [Z1, Z2, splice])
  refine st_appV s4 (i := 2) rfl rfl (s4.own (i := 0) rfl).sl (by simp; omega) (by simp; omega) fun w5 H5 s5 => ?_
  (try simp (maxSteps := 1000000) (disch := first | omega | (simp only [Z3]; omega) | (simp; done) | assumption | decide | (refine not_not_intro ?_; assumption)) only [Z1, Z2, splice, code_reader_list_k0])
  refine ⟨n - (j + 1), by omega, j + 1, w5, lv3, acc ++ [x], σ3, rfl, by omega, by push_cast; rfl, hl3, s5.tail.perm (List.Perm.swap _ _ _), by simp [ha], ?_, ?_⟩
  · rw [show n - (j + 1) = m by omega, ← h1, List.append_assoc]; rfl
  · rw [show n - (j + 1) = m by omega]; exact h2

/-! ### numbers of bytes -/
theorem nv_app (l : List (BitVec 8)) (b : BitVec 8) : nv (l ++ [b]) = nv l * 256 + b.toNat := by simp [nv]
theorem nv_lt' : ∀ (l : List (BitVec 8)) (n k : Nat), n < 256 ^ k → l.foldl (fun n b => n * 256 + b.toNat) n < 256 ^ (k + l.length)
  | [], n, k, h => h
  | b :: l, n, k, h => by
    have hb := b.isLt
    have := nv_lt' l (n * 256 + b.toNat) (k + 1) (by rw [Nat.pow_succ]; omega)
    rw [List.foldl_cons, List.length_cons, show k + (l.length + 1) = k + 1 + l.length by omega]
    exact this
theorem nv_lt (l : List (BitVec 8)) : nv l < 256 ^ l.length := by
  have := nv_lt' l 0 0 (by decide)
  rwa [Nat.zero_add] at this
theorem or_256 (m c : Nat) (hm : m < 1125899906842624) (hc : c < 256) : bin .or (i64 ((m : Int) * 256)) (i64 (c : Int)) = some (i64 ((m : Int) * 256 + c)) := by
  show some (Value.int .i64 (IntKind.i64.wrap (((BitVec.ofInt 64 ((m : Int) * 256)) ||| (BitVec.ofInt 64 (c : Int))).toNat : Int))) = _
  have e1 : (BitVec.ofInt 64 ((m : Int) * 256)).toNat = 2 ^ 8 * m := by rw [BitVec.toNat_ofInt]; omega
  have e2 : (BitVec.ofInt 64 (c : Int)).toNat = c := by rw [BitVec.toNat_ofInt]; omega
  rw [BitVec.toNat_or, e1, e2, ← Nat.two_pow_add_eq_or_of_lt (show c < 2 ^ 8 from hc), i64_in (by omega) (by omega)]
  congr 2
  omega
theorem shl_8 (n : Int) (h0 : 0 ≤ n) (h : n < 1125899906842624) : bin .shl (i64 n) (.int .u64 8) = some (i64 (n * 256)) := by
  show some (Value.int .i64 (IntKind.i64.wrap (n * 2 ^ (min (Int.toNat 8) 64)))) = _
  rw [show ((2 : Int) ^ (min (Int.toNat 8) 64)) = 256 from rfl, i64_in (by omega) (by omega)]
theorem byte_i64 (b : BitVec 8) : cvi .i64 (B b) = some (i64 (b.toNat : Int)) := by
  have := b.isLt
  rw [cvi_int, i64_in (by omega) (by omega)]
theorem uns_eq (s : ByteArray) (hs : s.size ≤ 6) : A_code_unsigned [.string s] = ret (i64 (nv (bv s))) := eq_ret fun H => by
  show wp (F_code_unsigned (.string s)) _ H
  (try simp (maxSteps := 1000000) (disch := first | omega | (simp only [Z3]; omega) | (simp; done) | assumption | decide | (refine not_not_intro ?_; assumption)) only [Z1, Z2, splice, F_code_unsigned])
  refine wp_loop (Inv := fun k vs H' => ∃ i : Nat, k = s.size - i ∧ i ≤ s.size ∧ vs = [.string s, i64 (nv ((bv s).take i)), i64 s.size, i64 i] ∧ H' = H) (n := s.size) (by unfold FUEL; omega)
    ⟨0, by omega, by omega, rfl, rfl⟩ ?_
  rintro k vs H' ⟨i, hk, hi, rfl, he⟩
  rw [he]; clear he H'
  have hb := bv_length s
  by_cases hlt : i < s.size
  · have ix := idxS_bv (s := s) (k := .i64) (i := i) (by omega) (by omega)
    rw [Int.toNat_natCast] at ix
    have hlt2 := nv_lt ((bv s).take i)
    have hpw : 256 ^ ((bv s).take i).length ≤ 256 ^ 5 := Nat.pow_le_pow_right (by omega) (by rw [List.length_take]; omega)
    have hsm : nv ((bv s).take i) < 1099511627776 := Nat.lt_of_lt_of_le hlt2 hpw
    have e : nv ((bv s).take (i + 1)) = nv ((bv s).take i) * 256 + ((bv s).getD i 0).toNat := by
      rw [List.take_succ, List.getElem?_eq_getElem (by omega), List.getD_eq_getElem?_getD, List.getElem?_eq_getElem (by omega)]
      exact nv_app _ _
    have hc := ((bv s).getD i 0).isLt
    (try simp (maxSteps := 1000000) (disch := first | omega | (simp only [Z3]; omega) | (simp; done) | assumption | decide | (refine not_not_intro ?_; assumption)) only [Z1, Z2, splice, code_unsigned_l2, code_unsigned_k1, shl_8 _ (Int.natCast_nonneg _) (show ((nv ((bv s).take i) : Nat) : Int) < 1125899906842624 by omega), ix, byte_i64, or_256 _ _ (show nv ((bv s).take i) < 1125899906842624 by omega) hc, code_unsigned_k0])
    have e' : ((nv ((bv s).take (i + 1)) : Nat) : Int) = (nv ((bv s).take i) : Int) * 256 + (((bv s).getD i 0).toNat : Int) := by rw [e]; omega
    refine ⟨s.size - (i + 1), by omega, i + 1, rfl, by omega, ?_⟩
    rw [e']
    exact ⟨rfl, trivial⟩
  · have : i = s.size := by omega
    subst this
    rw [← hb, List.take_length]
    (try simp (maxSteps := 1000000) (disch := first | omega | (simp only [Z3]; omega) | (simp; done) | assumption | decide | (refine not_not_intro ?_; assumption)) only [Z1, Z2, splice, code_unsigned_l2, code_unsigned_k3])
theorem sx_48 (n : Nat) (h : n < 281474976710656) : ∃ y, bin .shl (i64 (n : Int)) (.int .u64 16) = some (i64 y) ∧ bin .shr (i64 y) (.int .u64 16) = some (i64 (if n < 140737488355328 then (n : Int) else (n : Int) - 281474976710656)) := by
  refine ⟨_, rfl, ?_⟩
  show some (Value.int .i64 (Int.fdiv (IntKind.i64.wrap ((n : Int) * 2 ^ (min (Int.toNat 16) 64))) (2 ^ (min (Int.toNat 16) 64)))) = _
  rw [show ((2 : Int) ^ (min (Int.toNat 16) 64)) = 65536 from rfl, Int.fdiv_eq_ediv_of_nonneg _ (by omega)]
  have e := nat_toInt (n * 65536) (by omega)
  rw [show ((n * 65536 : Nat) : Int) = (n : Int) * 65536 by omega] at e
  rw [e]
  congr 2
  split <;> split <;> omega
end Go.AM.Cap
