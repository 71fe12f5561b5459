import Derived.Test.YtehhkminlafeiaaGreatDoorRoD
import Derived.Test.YtehhkminlafeiaaGreatDoorRoE
import Derived.Test.YtehhkminlafeiaaGreatDoorAmOpenF
set_option linter.all false
/- sess: a new desk; the laws' desk with one session; the chapter's example -/
set_option maxHeartbeats 16000000
namespace Go.AM.Cap
open Go.AM Go.Proofs

theorem vEq_sl {α : Type} [Flat α] {H : Heap} {v : V} {l : List α} (h : Sl H v l) : vEq.vEq1 v v = true := by
  rcases h with ⟨rfl, _⟩ | ⟨b, o, u, c, rfl, _⟩ <;> simp [vEq.vEq1]

/-! ### New -/
def newD (us : List Us) (parts idle : Int) : Int := if (chkUs us parts).2 ≠ 0 then (chkUs us parts).2 else if idle < 1 ∨ idle > 100000 then 1 else 0
def freshD (us : List Us) (idle : Int) : Dk := ⟨us, idle, 0, 0, [], 0, []⟩
theorem fresh_ok {us : List Us} {idle : Int} (h1 : us.length ≤ 8) (h2 : ∀ u ∈ us, u.key.size ≤ 64 ∧ vEq.vEq1 u.rs.v u.rs.v = true) (h3 : 1 ≤ idle ∧ idle ≤ 100000) : (freshD us idle).Ok 0 :=
  ⟨h1, h2, h3, ⟨Int.le_refl _, Int.le_refl _⟩, ⟨Int.le_refl _, Int.le_refl _⟩, ⟨Int.le_refl _, Int.le_refl _⟩, Nat.zero_le _, Nat.zero_le _, fun _ hc => absurd hc List.not_mem_nil, fun _ hc => absurd hc List.not_mem_nil⟩
theorem new_ok {H0 H : Heap} {L : List Thing} {G : List V → M V} {v : V} {l : List Us} (st : Hp H0 H L) (hv : Users H v l) (parts idle : Int) (Q : V → Heap → Prop)
    (h0 : ∀ H', Hp H0 H' L → newD l parts idle ≠ 0 → Q (.tuple #[.pointer none, i64 (newD l parts idle)]) H')
    (h1 : ∀ d H', DeskAt H0 H' d (freshD l idle) L → newD l parts idle = 0 → (freshD l idle).Ok 0 → OkUs l parts → Q (.tuple #[ptr d 0, i64 0]) H') : wp (A_sess_New G [v, i64 parts, i64 idle]) Q H := by
  show wp (F_sess_New G v (i64 parts) (i64 idle)) Q H
  unfold F_sess_New
  rw [wp_bnd, wp_bnd, wp_bnd]
  refine check_ok hv parts _ fun H1 k1 => ?_
  have st1 := st.keep0 k1
  by_cases he : (chkUs l parts).2 = 0
  case neg =>
    have e : newD l parts idle = (chkUs l parts).2 := by unfold newD; rw [if_pos he]
    rw [e] at h0
    (try simp (maxSteps := 1000000) (disch := first | omega | (simp only [Z3]; omega) | (simp; done) | assumption | decide | (refine not_not_intro ?_; assumption)) only [Z1, Z2, splice])
    exact h0 _ st1 he
  have hok := chkUs_ok he
  have hl8 := hok.len
  have e : newD l parts idle = if idle < 1 ∨ idle > 100000 then 1 else 0 := by unfold newD; rw [if_neg (by simp [he])]
  rw [e] at h0 h1
  rw [he]
  by_cases b1 : idle < 1
  · rw [if_pos (.inl b1)] at h0
    (try simp (maxSteps := 1000000) (disch := first | omega | (simp only [Z3]; omega) | (simp; done) | assumption | decide | (refine not_not_intro ?_; assumption)) only [Z1, Z2, splice, sess_New_k1])
    exact h0 _ st1 (by decide)
  by_cases b2 : idle > 100000
  · rw [if_pos (.inr b2)] at h0
    (try simp (maxSteps := 1000000) (disch := first | omega | (simp only [Z3]; omega) | (simp; done) | assumption | decide | (refine not_not_intro ?_; assumption)) only [Z1, Z2, splice, sess_New_k1])
    exact h0 _ st1 (by decide)
  rw [if_neg (by omega)] at h1
  (try simp (maxSteps := 1000000) (disch := first | omega | (simp only [Z3]; omega) | (simp; done) | assumption | decide | (refine not_not_intro ?_; assumption)) only [Z1, Z2, splice, sess_New_k1, sess_New_k0])
  refine cloneU_ok (hv.out.keep0 k1) (by omega) _ fun uv H2 o2 k2 v2 => ?_
  have hu := o2.isOne
  have o2' : (own uv l).P H2 := o2
  have st2 := st1.add k2 o2' v2
  (try simp (maxSteps := 1000000) (disch := first | omega | (simp only [Z3]; omega) | (simp; done) | assumption | decide | (refine not_not_intro ?_; assumption)) only [Z1, cellP_get, cellG_cells, wp_st1g, stG_c, eq_self, true_and, wp_stng, stnG_ok, wp_ldng, ldG_ok, wp_newcg, wp_boxg, Heap.get_push_eq, Heap.get_push_lt, Heap.get_set_eq, Heap.get_set_ne', Heap.next_push', Heap.next_set', Heap.set_push_lt, Heap.set_push_eq, Heap.set_set, fld1_agg, fldn_agg, ext_tuple, outV_nil, outV_two, outV_three, outV_four, chk_ld1g, chkO_int, chkO_bool, chkO_str, chkO_ptr, chkO_slc, chkO_map, List.set_cons_zero, List.set_cons_succ, List.length_cons, List.length_nil, List.drop_succ_cons, List.drop_zero, List.take_succ_cons, List.take_zero, List.nil_append, List.cons_append, splice, isOne_int, isOne_str, isOne_bool, isOne_slice, isOne_pointer, isOne_map, condM_nf, condM_nef, gd_nef, gdf_nef, pick_nef, fillA_nil, fillA_one, fillA_agg, Option.map_some, resv_one, resv_two, freeIn_nil, fillA_slc, fillA_int, fillA_str, fillA_bool, fillA_ptr, fillA_map, desk_build uv hu idle])
  have hone : ([uv, i64 idle, i64 0, i64 0, .slice none 0 0, .slice none 0 0, i64 0, .slice none 0 0, .slice none 0 0] : List V).all Value.isOne = true := by simp [hu]
  have s1 := st2.nilo (α := Se)
  have s2 := s1.nilo (α := Int)
  have s3 := s2.nilo (α := Ch)
  have s4 := s3.nilo (α := Int)
  have s5 := s4.newc [uv, i64 idle, i64 0, i64 0, .slice none 0 0, .slice none 0 0, i64 0, .slice none 0 0, .slice none 0 0]
  first | (refine (wp_boxg hone).mpr ?_) | skip
  (try simp (maxSteps := 1000000) (disch := first | omega | (simp only [Z3]; omega) | (simp; done) | assumption | decide | (refine not_not_intro ?_; assumption)) only [Z1, Z2, splice])
  refine h1 H2.next _ ⟨uv, .slice none 0 0, .slice none 0 0, .slice none 0 0, .slice none 0 0, ?_⟩ rfl (fresh_ok hl8 (fun u hu => ?_) (by omega)) hok
  · exact Hp.rotN [_] [_, _, _, _] [_] s5
  · have q := (hok.each u hu).1
    unfold formedS at q
    rw [Bool.and_eq_true, decide_eq_true_eq] at q
    exact ⟨q.2.2, vEq_sl (hv.inn u hu).1⟩

/-! ### the laws' desk -/
def keyK : ByteArray := (proveS key16' nonceS 1).2
def annSe : Se := ⟨annU, keyK, 1, 0⟩
def oneD (idle : Int) : Dk := ⟨[annU, bobU], idle, 0, 1, [], 1, [(1, annSe)]⟩
def oneC (idle : Int) : Dk := ⟨[annU, bobU], idle, 0, 1, [(1, ⟨annU, nonceS, 0⟩)], 0, []⟩
theorem hello_one (idle : Int) : helloD (freshD [annU, bobU] idle) annS' nonceS = ((1, 0), oneC idle) := by
  unfold helloD
  rw [show (freshD [annU, bobU] idle).us = [annU, bobU] from rfl, find_ann]
  dsimp only
  rw [if_neg (by decide), if_neg (by simp [freshD])]
  rfl
theorem login_one (idle : Int) : loginD (oneC idle) 1 (proveS key16' nonceS 1).1 = ((1, 0), oneD idle) := by
  unfold loginD
  rw [show idxP (fun e : Int × Ch => decide (1 = e.1)) (oneC idle).cl = some 0 from rfl]
  dsimp only
  rw [show ((oneC idle).cl.getD 0 default).2 = ⟨annU, nonceS, 0⟩ from rfl, if_neg (by simp [annU]), if_neg (by simp [oneC])]
  rfl
theorem ann_build : build [Value.string ⟨#[]⟩, Value.string ⟨#[]⟩, (Value.slice none 0 0 : V)] [(0, 1, (Value.string annS')), (1, 1, (Value.string key16'))] = some (.agg (Flat.enc annU).toArray) := by rfl
theorem bob_build : build [Value.string ⟨#[]⟩, Value.string ⟨#[]⟩, (Value.slice none 0 0 : V)] [(0, 1, (Value.string bobS')), (1, 1, (Value.string key32'))] = some (.agg (Flat.enc bobU).toArray) := by rfl
theorem two_users : fillA (rep 2 [Value.string ⟨#[]⟩, Value.string ⟨#[]⟩, (Value.slice none 0 0 : V)]) [(0, 3, .agg (Flat.enc annU).toArray), (3, 3, .agg (Flat.enc bobU).toArray)] = some (encs [annU, bobU]) := by rfl
theorem desk_ok {H0 H : Heap} {L : List Thing} {G : List V → M V} (st : Hp H0 H L) (hb : Base H0) (idle : Int) (hi : 1 ≤ idle ∧ idle ≤ 100000) (Q : V → Heap → Prop)
    (hQ : ∀ d H', DeskAt H0 H' d (oneD idle) L → (oneD idle).Ok 2 → Q (.tuple #[ptr d 0, .string keyK, .bool true]) H') : wp (A_law25_desk G [i64 idle]) Q H := by
  show wp (F_law25_desk G (i64 idle)) Q H
  have l1 : (⟨#[97, 110, 110]⟩ : ByteArray) = annS' := rfl
  have l2 : (⟨#[48, 49, 50, 51, 52, 53, 54, 55, 56, 57, 97, 98, 99, 100, 101, 102]⟩ : ByteArray) = key16' := rfl
  have l3 : (⟨#[98, 111, 98]⟩ : ByteArray) = bobS' := rfl
  have l4 : (⟨#[48, 49, 50, 51, 52, 53, 54, 55, 56, 57, 97, 98, 99, 100, 101, 102, 48, 49, 50, 51, 52, 53, 54, 55, 56, 57, 97, 98, 99, 100, 101, 102]⟩ : ByteArray) = key32' := rfl
  have l5 : (⟨#[115, 105, 120, 116, 101, 101, 110, 32, 98, 121, 116, 101, 115, 32, 33, 33]⟩ : ByteArray) = nonceS := rfl
  unfold F_law25_desk
  rw [l1, l2, l3, l4, wp_bnd, wp_bnd, wp_lift, ann_build, wpO_some, wp_bnd, wp_lift, bob_build, wpO_some, wp_bnd]
  refine (wp_bslc (cs := encs [annU, bobU]) (by rfl) two_users).mpr ?_
  have st1 := st.push (some (.cells true (encs [annU, bobU])))
  have o1 := ownF_push (H := H) (xs := [annU, bobU]) (n := 3) (m := 2) rfl rfl
  generalize H.push (some (.cells true (encs [annU, bobU]))) = H1 at *
  have hus : Users H1 (slc H.next 0 3 2 2) [annU, bobU] := ⟨o1.sl, fun u hu => by
    simp at hu
    rcases hu with rfl | rfl
    · exact ⟨Sl.nil _, by decide⟩
    · exact ⟨Sl.nil _, by decide⟩⟩
  have hnew : newD [annU, bobU] 1 idle = 0 := by
    unfold newD
    rw [users_ok, if_neg (by decide), if_neg (by omega)]
  rw [wp_bnd]
  refine new_ok st1 hus 1 idle _ (fun H2 _ q => absurd hnew q) (fun d H2 h2 _ ok2 _ => ?_)
  (try simp (maxSteps := 1000000) (disch := first | omega | (simp only [Z3]; omega) | (simp; done) | assumption | decide | (refine not_not_intro ?_; assumption)) only [Z1, Z2, splice, law25_desk_k0])
  rw [l5]
  refine hello_ok h2 ok2 (by omega) annS' nonceS _ fun H3 h3 => ?_
  have ok3 := helloD_ok ok2 annS' nonceS
  rw [hello_one] at h3 ok3 ⊢
  (try simp (maxSteps := 1000000) (disch := first | omega | (simp only [Z3]; omega) | (simp; done) | assumption | decide | (refine not_not_intro ?_; assumption)) only [Z1, Z2, splice])
  refine prove_ok (hb.keep h3.keeps) key16' nonceS 1 (by decide) (by decide) _ fun H4 k4 => ?_
  have h4 := h3.keep0 k4
  (try simp (maxSteps := 1000000) (disch := first | omega | (simp only [Z3]; omega) | (simp; done) | assumption | decide | (refine not_not_intro ?_; assumption)) only [Z1, Z2, splice])
  refine login_ok hb h4 ok3 (by omega) 1 _ _ fun H5 h5 => ?_
  have ok5 := loginD_ok ok3 1 (proveS key16' nonceS 1).1
  rw [login_one] at h5 ok5 ⊢
  (try simp (maxSteps := 1000000) (disch := first | omega | (simp only [Z3]; omega) | (simp; done) | assumption | decide | (refine not_not_intro ?_; assumption)) only [Z1, Z2, splice])
  exact hQ d H5 h5 ok5

/-! ### messages, there and back -/
theorem message_form {k : ByteArray} {id n : Int} {says : List It} (h : (messageS k id n says).2 = 0) : (encI (numI id :: numI n :: says)).2 = 0 ∧ (messageS k id n says).1 = sealS k (encI (numI id :: numI n :: says)).1 := by
  unfold messageS packS at h ⊢
  by_cases he : (encI (numI id :: numI n :: says)).2 = 0
  · rw [if_pos he]; exact ⟨he, rfl⟩
  · rw [if_neg he] at h; exact absurd h he
theorem badN_num {n : Int} (h : 1 ≤ n ∧ n ≤ 1073741824) : badN (numI n) = false := by
  simp only [badN, numI, Bool.false_or]
  exact decide_eq_false (by omega)
theorem numbersS_num {id n : Int} (hid : 1 ≤ id ∧ id ≤ 1073741824) (hn : 1 ≤ n ∧ n ≤ 1073741824) (says : List It) : numbersS (numI id :: numI n :: says) = some (id, n, says) := by
  rw [numbersS_two, badN_num hid, badN_num hn]; rfl
theorem says_message {k : ByteArray} {id n : Int} {says : List It} (h : (messageS k id n says).2 = 0) (hid : 1 ≤ id ∧ id ≤ 1073741824) (hn : 1 ≤ n ∧ n ≤ 1073741824) (hs : ∀ x ∈ says, okI x) : saysOf (messageS k id n says).1 = some (id, n, says) := by
  obtain ⟨he, hm⟩ := message_form h
  rw [hm]
  unfold saysOf
  have hd := dec_enc he (fun x hx => by
    rcases List.mem_cons.1 hx with rfl | hx
    · exact ⟨by show -9223372036854775808 ≤ id; omega, by show id ≤ 9223372036854775807; omega⟩
    · rcases List.mem_cons.1 hx with rfl | hx
      · exact ⟨by show -9223372036854775808 ≤ n; omega, by show n ≤ 9223372036854775807; omega⟩
      · exact hs x hx)
  rw [if_neg (by rw [seal_size]; omega), body_seal, hd, if_pos rfl]
  exact numbersS_num hid hn says
theorem open_message {k k' : ByteArray} {id n : Int} {says : List It} (h : (messageS k id n says).2 = 0) : openS k' (messageS k id n says).1 = if sv (tag (bv k') (bv (encI (numI id :: numI n :: says)).1)) = sv (tag (bv k) (bv (encI (numI id :: numI n :: says)).1)) then ((encI (numI id :: numI n :: says)).1, 0) else (⟨#[]⟩, 20) := by
  obtain ⟨he, hm⟩ := message_form h
  rw [hm]
  unfold openS
  rw [body_seal, foot_seal, seal_size]
  by_cases q : sv (tag (bv k') (bv (encI (numI id :: numI n :: says)).1)) = sv (tag (bv k) (bv (encI (numI id :: numI n :: says)).1))
  · rw [if_pos ⟨by omega, q⟩, if_pos q]
  · rw [if_neg (fun z => q z.2), if_neg q]
theorem message_size {k : ByteArray} {id n : Int} {says : List It} : (messageS k id n says).1.size ≤ 65568 := by
  have hz := encI_size (numI id :: numI n :: says)
  unfold messageS packS
  split
  · show (sealS k _).size ≤ _
    rw [seal_size]; omega
  · show (⟨#[]⟩ : ByteArray).size ≤ 65568
    decide
/-- what a desk's session with one key and a next number does with a message of it -/
theorem opens_message {D : Dk} {k : ByteArray} {id n : Int} {says : List It} (h : (messageS k id n says).2 = 0) (hid : 1 ≤ id ∧ id ≤ 1073741824) (hn : 1 ≤ n ∧ n ≤ 1073741824) (hs : ∀ x ∈ says, okI x) {i : Nat} (hi : idxP (fun e : Int × Se => decide (id = e.1)) D.sl = some i) (hk : (D.sl.getD i default).2.key = k) :
    openD D (messageS k id n says).1 = if n = (D.sl.getD i default).2.next then ((id, (D.sl.getD i default).2.user.name, says, 0), usedS D i id (D.sl.getD i default).2) else ((0, ⟨#[]⟩, [], 250), D) := by
  have ho := open_message (k' := k) h
  rw [if_pos rfl] at ho
  unfold openD
  rw [says_message h hid hn hs]
  dsimp only
  rw [hi]
  dsimp only
  rw [hk, ho, if_neg (by simp)]
  by_cases q : n = (D.sl.getD i default).2.next
  · rw [if_neg (by simp [q]), if_pos q]
  · rw [if_pos q, if_neg q]
/-! ### the chapter's example -/
def seven : List It := [numI 7]
theorem seven_ok : (encI (numI 1 :: numI 1 :: seven)).2 = 0 := by kernel_rfl
theorem packS_two {k : ByteArray} {l : List It} : (packS k l).2 = (encI l).2 := by
  unfold packS
  split
  · rename_i h; exact h.symm
  · rfl
theorem sworks_ok {H0 H : Heap} {L : List Thing} {G : List V → M V} (st : Hp H0 H L) (hb : Base H0) (hT : Tok H0) (Q : V → Heap → Prop) (hQ : ∀ H', Hp H0 H' L → Q (.bool true) H') : wp (A_law25_works G asF []) Q H := by
  show wp (F_law25_works G asF) Q H
  unfold F_law25_works
  rw [wp_bnd, wp_bnd]
  refine desk_ok st hb 5 (by decide) _ fun d H1 h1 ok1 => ?_
  have ok1' := ok1
  obtain ⟨uv, icv, cv, isv, sv', st1⟩ := h1
  have s7 : fillA (rep 1 [Value.bool false, Value.int .i64 0, (Value.string ⟨#[]⟩ : V)]) [(0, 3, .agg #[.bool false, .int .i64 7, .string ⟨#[]⟩])] = some (encs seven) := by rfl
  (try simp (maxSteps := 1000000) (disch := first | omega | (simp only [Z3]; omega) | (simp; done) | assumption | decide | (refine not_not_intro ?_; assumption)) only [Z1, Z2, splice, law25_works_k0])
  refine (wp_bslc (cs := encs seven) (by rfl) s7).mpr ?_
  have st2 := st1.push (some (.cells true (encs seven)))
  have o2 := ownF_push (H := H1) (xs := seven) (n := 3) (m := 1) rfl rfl
  generalize H1.push (some (.cells true (encs seven))) = H2 at *
  (try simp (maxSteps := 1000000) (disch := first | omega | (simp only [Z3]; omega) | (simp; done) | assumption | decide | (refine not_not_intro ?_; assumption)) only [Z1, Z2, splice])
  have hk32 : keyK.size = 32 := prove_size _ _ _
  refine message_ok (hb.keep st2.keeps) keyK (by omega) o2.sl (by decide) 1 1 _ fun H3 k3 => ?_
  have hms : (messageS keyK 1 1 seven).2 = 0 := by unfold messageS; rw [packS_two]; exact seven_ok
  have h3 : DeskAt H0 H3 d (oneD 5) L := ⟨_, _, _, _, _, st2.keep0 k3⟩
  have hop := opens_message (D := oneD 5) (i := 0) hms (by decide) (by decide) (fun x hx => by
    simp only [seven, List.mem_singleton] at hx; subst hx; exact ⟨by decide, by decide⟩) rfl rfl
  have hop2 := opens_message (D := usedS (oneD 5) 0 1 annSe) (i := 0) hms (by decide) (by decide) (fun x hx => by
    simp only [seven, List.mem_singleton] at hx; subst hx; exact ⟨by decide, by decide⟩) rfl rfl
  have hsz := message_size (k := keyK) (id := 1) (n := 1) (says := seven)
  generalize hmm : messageS keyK 1 1 seven = m at *
  rw [if_pos (show (1 : Int) = ((oneD 5).sl.getD 0 default).2.next from rfl)] at hop
  rw [if_neg (show ¬ (1 : Int) = ((usedS (oneD 5) 0 1 annSe).sl.getD 0 default).2.next by decide)] at hop2
  rw [hms]
  (try simp (maxSteps := 1000000) (disch := first | omega | (simp only [Z3]; omega) | (simp; done) | assumption | decide | (refine not_not_intro ?_; assumption)) only [Z1, Z2, splice])
  refine open_ok hb hT h3 ok1 (by omega) m.1 (by omega) _ fun w H4 h4 => ?_
  have ok4 := openD_ok ok1 m.1
  rw [hop] at h4 ok4 ⊢
  (try simp (maxSteps := 1000000) (disch := first | omega | (simp only [Z3]; omega) | (simp; done) | assumption | decide | (refine not_not_intro ?_; assumption)) only [Z1, Z2, splice])
  refine open_ok hb hT h4 ok4 (by omega) m.1 (by omega) _ fun w2 H5 h5 => ?_
  rw [show ((oneD 5).sl.getD 0 default).2 = annSe from rfl] at h5 ⊢
  rw [hop2] at h5 ⊢
  obtain ⟨_, _, _, _, _, st5⟩ := h5
  have hs := st5.view (i := 7) rfl
  have hs' : Sl H5 w seven := hs
  have hlen := hs'.len
  have a0 := hs'.addr' (n := 3) rfl (k := .i64) (i := 0) (by omega) (by decide)
  have c0 := hs'.cell' (n := 3) rfl (i := 0) (off := 1) (by decide) (by omega) default
  rw [show (0 : Int).toNat = 0 from rfl] at a0
  rw [cellP_get, show (Flat.enc (seven.getD 0 default))[1]? = some (i64 7) from rfl] at c0
  have hlen' : lenSlc w = some (i64 1) := hlen
  have l1 : (⟨#[97, 110, 110]⟩ : ByteArray) = annS' := rfl
  have e9 : annSe.user.name = annS' := rfl
  have eq1 : (IntKind.i64) = .i64 := rfl
  dsimp only
  (try simp (maxSteps := 1000000) (disch := first | omega | (simp only [Z3]; omega) | (simp; done) | assumption | decide | (refine not_not_intro ?_; assumption)) only [Z1, Z2, splice, e9, l1, hlen', a0, c0])
  exact hQ H5 (st5.drop 8)
end Go.AM.Cap
