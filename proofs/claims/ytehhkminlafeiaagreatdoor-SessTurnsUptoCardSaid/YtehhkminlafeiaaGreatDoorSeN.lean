import Derived.Test.YtehhkminlafeiaaGreatDoorSeM
import Derived.Test.YtehhkminlafeiaaGreatDoorAmOpenF
set_option linter.all false
/- sess: the law SessTurns -/
set_option maxHeartbeats 16000000
namespace Go.AM.Cap
open Go.AM Go.Proofs

theorem openD_bad {D : Dk} {m k : ByteArray} (hk : ∀ s ∈ D.sl, s.2.key = k) (h : (openS k m).2 ≠ 0) : (openD D m).2 = D ∧ (openD D m).1.2.2.2 ≠ 0 := by
  unfold openD
  cases saysOf m with
  | none => exact ⟨rfl, by dsimp only; decide⟩
  | some p =>
    obtain ⟨id, number, rest⟩ := p
    dsimp only
    cases hf : idxP (fun e : Int × Se => decide (id = e.1)) D.sl with
    | none => exact ⟨rfl, by dsimp only; decide⟩
    | some i =>
      dsimp only
      obtain ⟨hi, _, _⟩ := idxP_spec (d := default) hf
      rw [hk _ (getD_mem' hi), if_pos h]
      exact ⟨rfl, h⟩
theorem openS_ne {k m : ByteArray} (h : 32 ≤ m.size → sv (tag (bv k) (bv (body m))) ≠ foot m) : (openS k m).2 ≠ 0 := by
  unfold openS
  rw [if_neg (fun q => h q.1 q.2)]
  simp
def n42 : List It := [numI 42]
theorem t42_ok (k : ByteArray) : (messageS k 1 1 n42).2 = 0 := by
  unfold messageS
  rw [packS_two]
  kernel_rfl
theorem t42_flat : fillA (rep 1 [Value.bool false, Value.int .i64 0, (Value.string ⟨#[]⟩ : V)]) [(0, 3, .agg #[.bool false, .int .i64 42, .string ⟨#[]⟩])] = some (encs n42) := by rfl
theorem t42_size (k : ByteArray) : (messageS k 1 1 n42).1.size = 61 := by
  have h := (message_form (t42_ok k)).2
  rw [h, seal_size]
  have : (encI (numI 1 :: numI 1 :: n42)).1.size = 29 := by kernel_rfl
  omega
theorem okI42 : ∀ x ∈ n42, okI x := fun x hx => by
  simp only [n42, List.mem_singleton] at hx; subst hx; exact ⟨by decide, by decide⟩

theorem SessTurns_end {H0 H : Heap} (hb : Base H0) (hT : Tok H0) {G : List V → M V} {d : Nat} {m : ByteArray} (h : DeskAt H0 H d (livD 1000 0 1 0) []) (hm : m = (messageS keyK 1 1 n42).1) (other : ByteArray) (ho : other.size ≤ 1048576) (Q : V → Heap → Prop) (hQ : ∀ H', Keeps [] H0 H' → Q (.bool true) H') :
    wp (law25_SessTurns_k2 G asF [.string other, ptr d 0, .string m]) (fun b H' => wp (finM b fun vs => ret (outV [at_ vs 0])) Q H') H := by
  have ok := livD_ok (idle := 1000) (F := 0) (n := 1) (f := 0) (by decide) (by decide) (by decide) (by decide)
  (try simp (maxSteps := 1000000) (disch := first | omega | (simp only [Z3]; omega) | (simp; done) | assumption | decide | (refine not_not_intro ?_; assumption)) only [Z1, Z2, splice, law25_SessTurns_k2])
  refine (wp_bslc (cs := encs n42) (by rfl) t42_flat).mpr ?_
  have h1 := h.keep0 (Keeps.push [] H (some (.cells true (encs n42))))
  have o1 := ownF_push (H := H) (xs := n42) (n := 3) (m := 1) rfl rfl
  generalize H.push (some (.cells true (encs n42))) = H1 at *
  (try simp (maxSteps := 1000000) (disch := first | omega | (simp only [Z3]; omega) | (simp; done) | assumption | decide | (refine not_not_intro ?_; assumption)) only [Z1, Z2, splice])
  refine message_ok (hb.keep h1.keeps) other ho o1.sl (by decide) 1 1 _ fun H2 k2 => ?_
  have h2 := h1.keep0 k2
  have hme := t42_ok other
  have hmk := t42_ok keyK
  have hsz := t42_size other
  have hsm := t42_size keyK
  rw [← hm] at hsm
  rw [hme]
  (try simp (maxSteps := 1000000) (disch := first | omega | (simp only [Z3]; omega) | (simp; done) | assumption | decide | (refine not_not_intro ?_; assumption)) only [Z1, Z2, splice, law25_SessTurns_k1])
  have fin : ∀ H3, DeskAt H0 H3 d (livD 1000 0 1 0) [] → wp (law25_SessTurns_k0 G asF [ptr d 0, .string m]) (fun b H' => wp (finM b fun vs => ret (outV [at_ vs 0])) Q H') H3 := by
    intro H3 h3
    have hop := open_liv (idle := 1000) (F := 0) (n := 1) (f := 0) hmk (by decide) okI42 (by decide)
    rw [if_pos rfl, ← hm] at hop
    have l1 : (⟨#[97, 110, 110]⟩ : ByteArray) = annS' := rfl
    (try simp (maxSteps := 1000000) (disch := first | omega | (simp only [Z3]; omega) | (simp; done) | assumption | decide | (refine not_not_intro ?_; assumption)) only [Z1, Z2, splice, law25_SessTurns_k0])
    refine open_ok hb hT h3 ok (by omega) m (by omega) _ fun w H4 h4 => ?_
    rw [hop] at h4 ⊢
    dsimp only at h4 ⊢
    (try simp (maxSteps := 1000000) (disch := first | omega | (simp only [Z3]; omega) | (simp; done) | assumption | decide | (refine not_not_intro ?_; assumption)) only [Z1, Z2, splice, l1])
    exact hQ _ h4.keeps
  by_cases hx : (messageS other 1 1 n42).1 = m
  · (try simp (maxSteps := 1000000) (disch := first | omega | (simp only [Z3]; omega) | (simp; done) | assumption | decide | (refine not_not_intro ?_; assumption)) only [Z1, Z2, splice])
    exact fin _ h2
  have hop : openD (livD 1000 0 1 0) (messageS other 1 1 n42).1 = ((0, ⟨#[]⟩, [], 20), livD 1000 0 1 0) := by
    have hos := open_message (k := other) (k' := keyK) hme
    have hne : ¬ sv (tag (bv keyK) (bv (encI (numI 1 :: numI 1 :: n42)).1)) = sv (tag (bv other) (bv (encI (numI 1 :: numI 1 :: n42)).1)) := fun q => hx (by
      rw [hm, (message_form hme).2, (message_form hmk).2]
      unfold sealS
      rw [q])
    rw [if_neg hne] at hos
    unfold openD
    rw [says_message hme (by decide) (by decide) okI42]
    dsimp only
    rw [show idxP (fun e : Int × Se => decide (1 = e.1)) (livD 1000 0 1 0).sl = some 0 from rfl]
    dsimp only
    rw [show ((livD 1000 0 1 0).sl.getD 0 default).2.key = keyK from rfl, hos, if_pos (by decide)]
  (try simp (maxSteps := 1000000) (disch := first | omega | (simp only [Z3]; omega) | (simp; done) | assumption | decide | (refine not_not_intro ?_; assumption)) only [Z1, Z2, splice])
  refine open_ok hb hT h2 ok (by omega) _ (by omega) _ fun w H3 h3 => ?_
  rw [hop] at h3 ⊢
  dsimp only at h3 ⊢
  (try simp (maxSteps := 1000000) (disch := first | omega | (simp only [Z3]; omega) | (simp; done) | assumption | decide | (refine not_not_intro ?_; assumption)) only [Z1, Z2, splice])
  exact fin _ h3.less
theorem livkey : ∀ s ∈ (livD 1000 0 1 0).sl, s.2.key = keyK := fun s hs => by
  simp only [livD, List.mem_singleton] at hs; subst hs; rfl
theorem SessTurns_cut {H0 H : Heap} (hb : Base H0) (hT : Tok H0) {G : List V → M V} {d : Nat} {m : ByteArray} (h : DeskAt H0 H d (livD 1000 0 1 0) []) (hm : m = (messageS keyK 1 1 n42).1) (other : ByteArray) (ho : other.size ≤ 1048576) {i : Nat} (hi : i < m.size) (Q : V → Heap → Prop) (hQ : ∀ H', Keeps [] H0 H' → Q (.bool true) H') :
    wp (law25_SessTurns_k3 G asF [.string other, ptr d 0, .string keyK, .string m, i64 i]) (fun b H' => wp (finM b fun vs => ret (outV [at_ vs 0])) Q H') H := by
  have ok := livD_ok (idle := 1000) (F := 0) (n := 1) (f := 0) (by decide) (by decide) (by decide) (by decide)
  have hsm := t42_size keyK
  have hk32 : keyK.size = 32 := prove_size _ _ _
  rw [← hm] at hsm
  have e1 : subS (.string m) none (some (i64 (i : Int))) = some (.string (m.extract 0 i)) := by
    rw [subS_hi (by omega) (by omega), Int.toNat_natCast]
  have hcs : (m.extract 0 i).size = i := by rw [size_extract _ (by omega)]; omega
  generalize hc : m.extract 0 i = c at *
  have fin : ∀ H3, DeskAt H0 H3 d (livD 1000 0 1 0) [] → wp (law25_SessTurns_k2 G asF [.string other, ptr d 0, .string m]) (fun b H' => wp (finM b fun vs => ret (outV [at_ vs 0])) Q H') H3 := fun H3 h3 => SessTurns_end hb hT h3 hm other ho Q hQ
  have opens : ∀ H3, DeskAt H0 H3 d (livD 1000 0 1 0) [] → (openS keyK c).2 ≠ 0 → ∀ (R : V → Heap → Prop), (∀ w H4 e a n, e ≠ 0 → DeskAt H0 H4 d (livD 1000 0 1 0) [] → R (.tuple #[i64 a, .string n, w, i64 e]) H4) → wp (A_sess_Desk_Open asF [ptr d 0, .string c]) R H3 := fun H3 h3 hne R hR => by
    obtain ⟨q1, q2⟩ := openD_bad (D := livD 1000 0 1 0) livkey hne
    refine open_ok hb hT h3 ok (by omega) c (by omega) _ fun w H4 h4 => ?_
    rw [q1] at h4
    exact hR w H4 _ _ _ q2 h4.less
  by_cases h32 : i < 32
  · have hcs' : ((c.size : Int) < 32) := by omega
    have hne : (openS keyK c).2 ≠ 0 := openS_ne (fun q => by omega)
    (try simp (maxSteps := 1000000) (disch := first | omega | (simp only [Z3]; omega) | (simp; done) | assumption | decide | (refine not_not_intro ?_; assumption)) only [Z1, Z2, splice, law25_SessTurns_k3, e1])
    refine opens _ h hne _ fun w H4 e a n he h4 => ?_
    (try simp (maxSteps := 1000000) (disch := first | omega | (simp only [Z3]; omega) | (simp; done) | assumption | decide | (refine not_not_intro ?_; assumption)) only [Z1, Z2, splice])
    exact fin _ h4
  · have hcs' : ¬ ((c.size : Int) < 32) := by omega
    have e2 := body_sub (s := c) (by omega) (by omega)
    have e3 : subS (.string c) (some (i64 ((c.size : Int) - 32))) none = some (.string (foot c)) := by
      rw [subS_lo (by omega) (by omega)]
      unfold foot
      rw [show ((c.size : Int) - 32).toNat = c.size - 32 from by omega]
    have hbs : (body c).size ≤ 1048576 := by rw [body_size (by omega)]; omega
    (try simp (maxSteps := 1000000) (disch := first | omega | (simp only [Z3]; omega) | (simp; done) | assumption | decide | (refine not_not_intro ?_; assumption)) only [Z1, Z2, splice, law25_SessTurns_k3, e1, e2, e3])
    refine mac_Tag_ok H keyK (body c) (by omega) (by omega) (hb.keep h.keeps) _ fun H1 k1 => ?_
    have h1 := h.keep0 k1
    by_cases htg : sv (tag (bv keyK) (bv (body c))) = foot c
    · (try simp (maxSteps := 1000000) (disch := first | omega | (simp only [Z3]; omega) | (simp; done) | assumption | decide | (refine not_not_intro ?_; assumption)) only [Z1, Z2, splice])
      exact fin _ h1
    · have hne : (openS keyK c).2 ≠ 0 := openS_ne (fun _ => htg)
      (try simp (maxSteps := 1000000) (disch := first | omega | (simp only [Z3]; omega) | (simp; done) | assumption | decide | (refine not_not_intro ?_; assumption)) only [Z1, Z2, splice])
      refine opens _ h1 hne _ fun w H4 e a n he h4 => ?_
      (try simp (maxSteps := 1000000) (disch := first | omega | (simp only [Z3]; omega) | (simp; done) | assumption | decide | (refine not_not_intro ?_; assumption)) only [Z1, Z2, splice])
      exact fin _ h4

theorem body_sv (t : List (BitVec 8)) : body (sv t) = sv (t.take (t.length - 32)) := by
  apply bv_inj
  unfold body
  rw [bv_extract, sv_size, bv_sv, bv_sv]
  simp
theorem foot_sv (t : List (BitVec 8)) : foot (sv t) = sv (t.drop (t.length - 32)) := by
  apply bv_inj
  unfold foot
  rw [bv_extract, sv_size, bv_sv, bv_sv]
  rw [List.take_of_length_le (by rw [List.length_drop]; omega)]
theorem SessTurns_ok {H : Heap} {G : List V → M V} (hb : Base H) (hT : Tok H) (at' : Int) (by' : BitVec 8) (other : ByteArray) (ho : other.size ≤ 1048576) (Q : V → Heap → Prop) (hQ : ∀ H', Keeps [] H H' → Q (.bool true) H') :
    wp (A_law25_SessTurns G asF [i64 at', B by', .string other]) Q H := by
  show wp (F_law25_SessTurns G asF (i64 at') (B by') (.string other)) Q H
  have hk32 : keyK.size = 32 := prove_size _ _ _
  have ok := livD_ok (idle := 1000) (F := 0) (n := 1) (f := 0) (by decide) (by decide) (by decide) (by decide)
  unfold F_law25_SessTurns
  rw [wp_bnd, wp_bnd]
  refine desk_ok (Hp.start H) hb 1000 (by decide) _ fun d H1 hd1 ok1 => ?_
  obtain ⟨uv, icv, cv, isv, sv', st1⟩ := hd1
  (try simp (maxSteps := 1000000) (disch := first | omega | (simp only [Z3]; omega) | (simp; done) | assumption | decide | (refine not_not_intro ?_; assumption)) only [Z1, Z2, splice])
  refine sworks_ok st1 hb hT _ fun H2 st2 => ?_
  have h2 : DeskAt H H2 d (livD 1000 0 1 0) [] := ⟨_, _, _, _, _, st2⟩
  (try simp (maxSteps := 1000000) (disch := first | omega | (simp only [Z3]; omega) | (simp; done) | assumption | decide | (refine not_not_intro ?_; assumption)) only [Z1, Z2, splice, law25_SessTurns_k6])
  refine (wp_bslc (cs := encs n42) (by rfl) t42_flat).mpr ?_
  have h3 := h2.keep0 (Keeps.push [] H2 (some (.cells true (encs n42))))
  have o3 := ownF_push (H := H2) (xs := n42) (n := 3) (m := 1) rfl rfl
  generalize H2.push (some (.cells true (encs n42))) = H3 at *
  (try simp (maxSteps := 1000000) (disch := first | omega | (simp only [Z3]; omega) | (simp; done) | assumption | decide | (refine not_not_intro ?_; assumption)) only [Z1, Z2, splice])
  refine message_ok (hb.keep h3.keeps) keyK (by omega) o3.sl (by decide) 1 1 _ fun H4 k4 => ?_
  have h4 := h3.keep0 k4
  have hme := t42_ok keyK
  have hsz := t42_size keyK
  rw [hme]
  obtain ⟨m, hm⟩ : ∃ m, m = (messageS keyK 1 1 n42).1 := ⟨_, rfl⟩
  rw [← hm] at hsz ⊢
  have hsz' : ¬ ((m.size : Int) < 33) := by omega
  (try simp (maxSteps := 1000000) (disch := first | omega | (simp only [Z3]; omega) | (simp; done) | assumption | decide | (refine not_not_intro ?_; assumption)) only [Z1, Z2, splice, law25_SessTurns_k5])
  refine wp_s2b.mpr ?_
  have hma := samong_eq at' m.size (by omega)
  obtain ⟨r1, r2⟩ := amongJ_range at' m.size (by omega) (by omega)
  obtain ⟨i, hi⟩ : ∃ i : Nat, amongJ at' m.size = i := ⟨(amongJ at' m.size).toNat, by omega⟩
  rw [hi] at hma r1 r2
  have him : i < m.size := by omega
  have hbl := bv_length m
  have hg : (H4.push (some (.cells true (bytesV m)))).get H4.next = some (.cells true ((bv m).map B)) := by rw [Heap.get_push_self, bytesV_bv]
  have hcell : ((bv m).map B)[i]? = some (B ((bv m).getD i 0)) := by simp [hbl, him]
  have step : ∀ y : BitVec 8, wp (law25_SessTurns_k4 G asF [B y, .string other, ptr d 0, .string keyK, .string m, slc H4.next 0 1 m.size m.size, i64 (i : Int)]) (fun b H' => wp (finM b fun vs => ret (outV [at_ vs 0])) Q H') (H4.push (some (.cells true (bytesV m)))) := by
    intro y
    have ha : iaddrS 1 (slc H4.next 0 1 m.size m.size) (i64 (i : Int)) = some (ptr H4.next i) := by
      rw [iaddrS_slc (by omega) (by omega)]; simp
    have hc1 : cellG ((H4.push (some (.cells true (bytesV m)))).get H4.next) i = some (B ((bv m).getD i 0)) := by rw [hg]; exact hcell
    (try simp (maxSteps := 1000000) (disch := first | omega | (simp only [Z3]; omega) | (simp; done) | assumption | decide | (refine not_not_intro ?_; assumption)) only [Z1, cellP_get, cellG_cells, stG_c, eq_self, true_and, wp_stng, stnG_ok, wp_ldng, ldG_ok, wp_newcg, wp_boxg, Heap.get_set_eq, Heap.get_set_ne', Heap.next_push', Heap.next_set', Heap.set_push_lt, Heap.set_push_eq, Heap.set_set, fld1_agg, fldn_agg, ext_tuple, outV_nil, outV_two, outV_three, outV_four, chk_ld1g, chkO_int, chkO_bool, chkO_str, chkO_ptr, chkO_slc, chkO_map, List.set_cons_zero, List.set_cons_succ, List.length_cons, List.length_nil, List.drop_succ_cons, List.drop_zero, List.take_succ_cons, List.take_zero, List.nil_append, List.cons_append, splice, isOne_int, isOne_str, isOne_bool, isOne_slice, isOne_pointer, isOne_map, condM_nf, condM_nef, gd_nef, gdf_nef, pick_nef, build_eq, fillA_nil, fillA_one, fillA_agg, Option.map_some, resv_one, resv_two, freeIn_nil, fillA_slc, fillA_int, fillA_str, fillA_bool, fillA_ptr, fillA_map, law25_SessTurns_k4, ha, hc1, u8_xor])
    refine (wp_st1 hg (by rfl) (by simp [hbl, him])).mpr ?_
    rw [Heap.set_push_eq rfl]
    generalize ht : (bv m).set i ((bv m).getD i 0 ^^^ y) = t
    have htl : t.length = m.size := by rw [← ht, List.length_set, hbl]
    have hset : ((bv m).map B).set i (B ((bv m).getD i 0 ^^^ y)) = t.map B := by rw [← List.map_set, ht]
    rw [hset]
    have h5 := h4.keep0 (Keeps.push [] H4 (some (.cells true (t.map B))))
    have hg5 : (H4.push (some (.cells true (t.map B)))).get H4.next = some (.cells true (t.map B)) := Heap.get_push_self _ _
    generalize H4.push (some (.cells true (t.map B))) = H5 at *
    have v1 : subV 1 (slc H4.next 0 1 m.size m.size) none (some (i64 ((m.size : Int) - 32))) = some (slc H4.next 0 1 29 61) := by
      rw [hsz]; rfl
    have v2 : subV 1 (slc H4.next 0 1 m.size m.size) (some (i64 ((m.size : Int) - 32))) none = some (slc H4.next 29 1 32 32) := by
      rw [hsz]; rfl
    have b1 : ∀ {K : Heap} {R : V → Heap → Prop}, K.get H4.next = some (.cells true (t.map B)) → R (.string (body (sv t))) K → wp (b2s (slc H4.next 0 1 29 61)) R K := fun hk hr => by
      refine wp_b2s_cells (l := t.take 29) hk (by simp [htl, hsz]) (by rw [List.drop_zero, List.map_take]) ?_
      rw [body_sv, htl, hsz] at hr
      exact hr
    have b2 : ∀ {K : Heap} {R : V → Heap → Prop}, K.get H4.next = some (.cells true (t.map B)) → R (.string (foot (sv t))) K → wp (b2s (slc H4.next 29 1 32 32)) R K := fun hk hr => by
      refine wp_b2s_cells (l := t.drop 29) hk (by simp [htl, hsz]) (by rw [List.map_drop, List.take_of_length_le (by simp [htl, hsz])]) ?_
      rw [foot_sv, htl, hsz] at hr
      exact hr
    have b3 : ∀ {K : Heap} {R : V → Heap → Prop}, K.get H4.next = some (.cells true (t.map B)) → R (.string (sv t)) K → wp (b2s (slc H4.next 0 1 m.size m.size)) R K := fun hk hr => by
      exact wp_b2s_cells (l := t) hk (by simp [htl]) (by rw [List.drop_zero, List.take_of_length_le (by simp [htl])]) hr
    have hsz5 : (sv t).size = 61 := by rw [sv_size, htl, hsz]
    (try simp (maxSteps := 1000000) (disch := first | omega | (simp only [Z3]; omega) | (simp; done) | assumption | decide | (refine not_not_intro ?_; assumption)) only [Z1, Z2, splice, v1, v2])
    refine b1 hg5 ?_
    (try simp (maxSteps := 1000000) (disch := first | omega | (simp only [Z3]; omega) | (simp; done) | assumption | decide | (refine not_not_intro ?_; assumption)) only [Z1, Z2, splice])
    refine b2 hg5 ?_
    (try simp (maxSteps := 1000000) (disch := first | omega | (simp only [Z3]; omega) | (simp; done) | assumption | decide | (refine not_not_intro ?_; assumption)) only [Z1, Z2, splice])
    refine mac_Tag_ok H5 keyK (body (sv t)) (by omega) (by rw [body_size (by omega)]; omega) (hb.keep h5.keeps) _ fun H6 k6 => ?_
    have h6 := h5.keep0 k6
    have hg6 := k6.get hg5 (by simp)
    have ck : chk (b2s (slc H4.next 29 1 32 32)) H6 (.string (foot (sv t))) = true := by
      obtain ⟨r, K, q1, q2⟩ := b2 (R := fun r K => r = .string (foot (sv t)) ∧ K = H6) hg6 ⟨rfl, rfl⟩
      unfold chk
      rw [q1]
      show vEq r _ = true
      rw [q2.1]
      simp [vEq]
    have fin : ∀ K, DeskAt H K d (livD 1000 0 1 0) [] → wp (law25_SessTurns_k3 G asF [.string other, ptr d 0, .string keyK, .string m, i64 (i : Int)]) (fun b H' => wp (finM b fun vs => ret (outV [at_ vs 0])) Q H') K := fun K hK => SessTurns_cut hb hT hK hm other ho him Q hQ
    by_cases htg : sv (tag (bv keyK) (bv (body (sv t)))) = foot (sv t)
    · (try simp (maxSteps := 1000000) (disch := first | omega | (simp only [Z3]; omega) | (simp; done) | assumption | decide | (refine not_not_intro ?_; assumption)) only [Z1, Z2, splice, ck])
      exact fin _ h6
    · have hne : (openS keyK (sv t)).2 ≠ 0 := openS_ne (fun _ => htg)
      obtain ⟨q1, q2⟩ := openD_bad (D := livD 1000 0 1 0) livkey hne
      (try simp (maxSteps := 1000000) (disch := first | omega | (simp only [Z3]; omega) | (simp; done) | assumption | decide | (refine not_not_intro ?_; assumption)) only [Z1, Z2, splice, ck])
      refine b3 hg6 ?_
      (try simp (maxSteps := 1000000) (disch := first | omega | (simp only [Z3]; omega) | (simp; done) | assumption | decide | (refine not_not_intro ?_; assumption)) only [Z1, Z2, splice])
      refine open_ok hb hT h6 ok (by omega) (sv t) (by omega) _ fun w H7 h7 => ?_
      rw [q1] at h7
      (try simp (maxSteps := 1000000) (disch := first | omega | (simp only [Z3]; omega) | (simp; done) | assumption | decide | (refine not_not_intro ?_; assumption)) only [Z1, Z2, splice])
      exact fin _ h7.less
  by_cases hy : by' = 0#8
  · subst hy
    have e8 : (B 0#8 : V) = .int .u8 0 := rfl
    have s1 := step 1#8
    have e81 : (B 1#8 : V) = .int .u8 1 := rfl
    rw [e81] at s1
    (try simp (maxSteps := 1000000) (disch := first | omega | (simp only [Z3]; omega) | (simp; done) | assumption | decide | (refine not_not_intro ?_; assumption)) only [Z1, Z2, splice, hma, e8])
    exact s1
  · have hyn : ¬ ((by'.toNat : Int) = 0) := fun q => hy (BitVec.eq_of_toNat_eq (by simpa using q))
    (try simp (maxSteps := 1000000) (disch := first | omega | (simp only [Z3]; omega) | (simp; done) | assumption | decide | (refine not_not_intro ?_; assumption)) only [Z1, Z2, splice, hma])
    exact step by'
end Go.AM.Cap
