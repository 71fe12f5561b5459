import Derived.Test.YtbnjeldcndpdoaaPnE
import Derived.Test.YtbnjeldcndpdoaaAmEval
import Derived.Test.YtbnjeldcndpdoaaProg
import Derived.Test.YtbnjeldcndpdoaaAmMap
set_option linter.all false
/- points: Commit, Drop -/
set_option maxHeartbeats 8000000
namespace Go.AM.Cap
open Go.AM Go.Proofs

abbrev SE : Calls' := ovr [(fid_points_Bank_end_1, A_points_Bank_end_1)] noC
/-- maps.DeleteFunc -/
noncomputable def GD : List V → M V := delF Try.prog SE 67 71 2 93 4 (.agg [.i, .i])
theorem known_GD : Known Try.prog fid_maps_DeleteFunc_map_points_pair_int64_points_pair_int64 GD :=
  ⟨by kernel_rfl, del_sound (fn := Try.f50) (simAll_ovr K_points_Bank_end_1 simAll_nil0) Try.func50 (by kernel_rfl) (by kernel_rfl) (by kernel_rfl) (et := 2) (by kernel_rfl) (by kernel_rfl)⟩
/-- what a function says of an entry, and does -/
theorem end_1_ok {K : Heap} {pb cb bb va : Nat} {x : BL} {n : Nat} {part : Int} {commit : Bool} {vs : List Int} (h1 : K.get pb = some (.cells true [i64 part])) (h2 : K.get cb = some (.cells true [.bool commit])) (h3 : K.get bb = some (.cells true [ptr x.p 0]))
    (h4 : K.get x.p = some (.cells true (x.cells n))) (h5 : K.get x.va = some (.cells true (encs vs))) (hvs : vs.length = n) {a b v : Int} (hb : 0 ≤ b ∧ b < n) (hne : pb ≠ x.va) :
    wp (A_points_Bank_end_1 [pr a b, i64 v, ptr pb 0, ptr cb 0, ptr bb 0]) (fun r K2 => r = .bool (decide (a = part)) ∧ K2 = (if a = part ∧ commit = true then K.set x.va (some (.cells true (encs (vs.set b.toNat v)))) else K).push (some (.cells true [i64 a, i64 b]))) K := by
  show wp (F_points_Bank_end_1 (pr a b) (i64 v) (ptr pb 0) (ptr cb 0) (ptr bb 0)) _ K
  simp only [BL.cells] at h4
  have l1 := Heap.get_lt h1
  have l2 := Heap.get_lt h2
  have l3 := Heap.get_lt h3
  have l4 := Heap.get_lt h4
  have l5 := Heap.get_lt h5
  have hel := encs_length vs
  rw [show Flat.size Int = 1 from rfl, Nat.mul_one] at hel
  have hset : (encs vs).set b.toNat (i64 v) = encs (vs.set b.toNat v) := by
    have := encs_set vs b.toNat 0 (i64 v) v 0 (by omega) (by decide) rfl
    rw [show Flat.size Int = 1 from rfl, Nat.mul_one, Nat.add_zero] at this
    exact this
  by_cases c : a = part
  · subst c
    cases commit with
    | true =>
      (try simp (maxSteps := 1000000) (disch := first | omega | (simp only [Z3]; omega) | (simp; done) | assumption | decide | (refine not_not_intro ?_; assumption)) only [Z1, Z2, splice, F_points_Bank_end_1, h1, h2, h3, h4, h5, iaddrS_slc, Nat.mul_one, points_Bank_end_1_k0, Heap.get_set_ne' hne])
      rw [hset]
    | false =>
      (try simp (maxSteps := 1000000) (disch := first | omega | (simp only [Z3]; omega) | (simp; done) | assumption | decide | (refine not_not_intro ?_; assumption)) only [Z1, Z2, splice, F_points_Bank_end_1, h1, h2, h3, h4, h5, points_Bank_end_1_k0])
      rw [if_neg (by simp)]
  · (try simp (maxSteps := 1000000) (disch := first | omega | (simp only [Z3]; omega) | (simp; done) | assumption | decide | (refine not_not_intro ?_; assumption)) only [Z1, Z2, splice, F_points_Bank_end_1, h1, h2, h3, h4, h5, points_Bank_end_1_k0])
    rw [if_neg (fun q => c q.1)]

def upd1 (part : Int) (commit : Bool) (vs : List Int) (e : (Int × Int) × Int) : List Int := if e.1.1 = part ∧ commit = true then vs.set e.1.2.toNat e.2 else vs
theorem upd1_len (part : Int) (commit : Bool) (vs : List Int) (e : (Int × Int) × Int) : (upd1 part commit vs e).length = vs.length := by unfold upd1; split <;> simp
abbrev endF (pb cb bb : Nat) : V := .func (.func fid_points_Bank_end_1) #[] #[ptr pb 0, ptr cb 0, ptr bb 0]
def delE (st : List ((Int × Int) × Int)) (part : Int) (i : Nat) : Bool := decide ((st.getD i default).1.1 = part)
noncomputable abbrev runsE (sm : Nat) (f it : V) (st : List ((Int × Int) × Int)) (del : Nat → Bool) (n0 : Nat) (l : List Nat) : M Unit :=
  delRuns Try.prog SE 67 71 2 93 4 (.map (some sm)) f it (st.map encE) del n0 l
/-- where a commit runs -/
structure EndR (K0 : Heap) (n0 : Nat) (x : BL) (n : Nat) (pb cb bb : Nat) (part : Int) (commit : Bool) : Prop where
  next : K0.next = n0
  h1 : K0.get pb = some (.cells true [i64 part])
  h2 : K0.get cb = some (.cells true [.bool commit])
  h3 : K0.get bb = some (.cells true [ptr x.p 0])
  h4 : K0.get x.p = some (.cells true (x.cells n))
  lv : x.va < n0
  n1 : pb ≠ x.va
  n2 : cb ≠ x.va
  n3 : bb ≠ x.va
  n4 : x.p ≠ x.va

theorem runs_ok {K0 : Heap} {n0 : Nat} {x : BL} {n pb cb bb : Nat} {part : Int} {commit : Bool} (R : EndR K0 n0 x n pb cb bb part commit) {it : V} {st : List ((Int × Int) × Int)} (hst : ∀ e ∈ st, 0 ≤ e.1.2 ∧ e.1.2 < n) :
    ∀ (l : List Nat) (vs : List Int) (m : Nat), vs.length = n → (∀ i ∈ l, i < st.length) →
      runsE x.sm (endF pb cb bb) it st (delE st part) n0 l ((K0.set x.va (some (.cells true (encs vs)))).room m) = some ((), (K0.set x.va (some (.cells true (encs (l.foldl (fun vs i => upd1 part commit vs (st.getD i default)) vs))))).room (m + 2 * l.length))
  | [], vs, m, _, _ => rfl
  | i :: l, vs, m, hvs, hl => by
    have hi := hl i (by simp)
    obtain ⟨⟨⟨a, b⟩, v⟩, he⟩ : ∃ e, st.getD i default = e := ⟨_, rfl⟩
    have hmem : ((a, b), v) ∈ st := by rw [← he, List.getD_eq_getElem?_getD, List.getElem?_eq_getElem hi]; exact List.getElem_mem _
    have hb := hst _ hmem
    simp only at hb
    have hes : (st.map encE).getD i default = (pr a b, i64 v) := by
      rw [List.getD_eq_getElem?_getD, List.getElem?_map, List.getElem?_eq_getElem hi]
      rw [List.getD_eq_getElem?_getD, List.getElem?_eq_getElem hi] at he
      simp only [Option.getD_some] at he
      simp only [Option.map_some, Option.getD_some, he]; rfl
    generalize hK : (K0.set x.va (some (.cells true (encs vs)))).room m = K
    have hKn : K.next = n0 + m := by rw [← hK, Heap.room_next, Heap.next_set', R.next]
    have hKg : ∀ c, K.get c = if c = x.va then some (.cells true (encs vs)) else K0.get c := fun c => by
      rw [← hK, Heap.room_get, Heap.get_set K0 x.va _ c (by rw [R.next]; exact R.lv)]
    have hlt : ∀ c y, K0.get c = some y → c < K.next := fun c y h => by have := Heap.get_lt h; rw [R.next] at this; omega
    let K1 := K.push (some (.cells true [i64 a, i64 b]))
    have g : ∀ c y, K0.get c = some y → c ≠ x.va → K1.get c = some y := fun c y h hc => by
      show (K.push _).get c = _
      rw [Heap.get_push_lt (hlt c y h), hKg, if_neg hc]; exact h
    have gv : K1.get x.va = some (.cells true (encs vs)) := by
      show (K.push _).get x.va = _
      rw [Heap.get_push_lt (by rw [hKn]; have := R.lv; omega), hKg, if_pos rfl]
    obtain ⟨r, K2, hrun, rfl, hK2⟩ := end_1_ok (va := 0) (g _ _ R.h1 R.n1) (g _ _ R.h2 R.n2) (g _ _ R.h3 R.n3) (g _ _ R.h4 R.n4) gv hvs (v := v) hb R.n1
    have hK1n : K1.next = K.next + 1 := by show (K.push _).next = _; simp
    have hvn : x.va < K.next := by rw [hKn]; have := R.lv; omega
    have hkey : K2.get K.next = some (.cells true [i64 a, i64 b]) := by
      rw [hK2]
      have : K1.get K.next = some (.cells true [i64 a, i64 b]) := Heap.get_push_self _ _
      split
      · rw [Heap.get_push_lt (by simp; omega), Heap.get_set_ne _ _ _ (by omega)]; exact this
      · rw [Heap.get_push_lt (by omega)]; exact this
    have hstep := delStep_agg (P := Try.prog) (σ := SE) (mt := 67) (kt := 71) (vt := 2) (ct := 93) (bt := 4) (m := .map (some x.sm)) (f := endF pb cb bb) (it := it) (z := .agg #[i64 0, i64 0]) (nk := 2) (by kernel_rfl) (by kernel_rfl) (by rfl) (by rfl) (ks := [i64 a, i64 b]) rfl (by rfl) (v := i64 v) (K := K) (K2 := K2) (c := decide (a = part)) hrun (fun _ => ⟨_, hkey⟩)
    have hdel : delE st part i = decide (a = part) := by unfold delE; rw [he]
    have hcut : K2.cut n0 = (K0.set x.va (some (.cells true (encs (upd1 part commit vs ((a, b), v)))))).room (m + 2) := by
      have hn2 : K2.next = n0 + (m + 2) := by
        rw [hK2]
        split <;> simp <;> omega
      refine Heap.ext' (by rw [Heap.cut_next, Heap.room_next, Heap.next_set', R.next, hn2]) fun c hc => ?_
      rw [Heap.cut_get, Heap.room_get, Heap.get_set K0 x.va _ c (by rw [R.next]; exact R.lv)]
      have hK1c : c < K.next → K1.get c = if c = x.va then some (.cells true (encs vs)) else K0.get c := fun h => by
        show (K.push _).get c = _
        rw [Heap.get_push_lt h, hKg]
      by_cases h0 : c < n0
      · rw [if_pos h0, hK2]
        have hcK : c < K.next := by omega
        unfold upd1
        by_cases hp : a = part ∧ commit = true
        · rw [if_pos hp, if_pos hp, Heap.get_push_lt (by simp; omega), Heap.get_set K1 x.va _ c (by omega), hK1c hcK]
          split <;> rfl
        · rw [if_neg hp, if_neg hp, Heap.get_push_lt (by omega), hK1c hcK]
      · rw [if_neg h0]
        have : c ≠ x.va := by have := R.lv; omega
        rw [if_neg this, Heap.get_next K0 (by rw [R.next]; omega)]
    have ih := runs_ok R (it := it) hst l (upd1 part commit vs ((a, b), v)) (m + 2) (by rw [upd1_len]; exact hvs) (fun j hj => hl j (by simp [hj]))
    show delRuns _ _ _ _ _ _ _ _ _ _ _ _ _ (i :: l) K = _
    rw [delRuns, hes]
    dsimp only
    rw [hstep]
    dsimp only
    rw [if_pos ⟨hdel.symm, fun h => by rw [if_pos h]⟩, hcut]
    rw [List.foldl_cons, he, List.length_cons]
    have e : m + 2 * (l.length + 1) = m + 2 + 2 * l.length := by omega
    rw [e]
    exact ih

def endS (B : Bk) (part : Int) (commit : Bool) : Bk × Int :=
  if ¬ (0 ≤ part ∧ part < 8) then (B, 1) else ({ B with vs := B.st.foldl (upd1 part commit) B.vs, st := B.st.filter fun e => !decide (e.1.1 = part) }, 0)

theorem foldl_upd_len (part : Int) (commit : Bool) : ∀ (st : List ((Int × Int) × Int)) (vs : List Int), (st.foldl (upd1 part commit) vs).length = vs.length
  | [], vs => rfl
  | e :: st, vs => by rw [List.foldl_cons, foldl_upd_len part commit st, upd1_len]

theorem upd1_comm {part : Int} {commit : Bool} {e e' : (Int × Int) × Int} (h : e.1 = e'.1 → e = e') (h1 : 0 ≤ e.1.2) (h2 : 0 ≤ e'.1.2) (vs : List Int) : upd1 part commit (upd1 part commit vs e) e' = upd1 part commit (upd1 part commit vs e') e := by
  by_cases hk : e.1 = e'.1
  · rw [h hk]
  unfold upd1
  by_cases c1 : e.1.1 = part ∧ commit = true
  · by_cases c2 : e'.1.1 = part ∧ commit = true
    · rw [if_pos c1, if_pos c2, if_pos c2, if_pos c1]
      refine List.set_comm _ _ fun q => hk (Prod.ext (c1.1.trans c2.1.symm) (by omega))
    · rw [if_pos c1, if_neg c2, if_neg c2, if_pos c1]
  · by_cases c2 : e'.1.1 = part ∧ commit = true
    · simp only [if_neg c1, if_pos c2]
    · simp only [if_neg c1, if_neg c2]

theorem end_ok {H : Heap} {x : BL} {B : Bk} (h : BankR H x B) (part : Int) (commit : Bool) (Q : V → Heap → Prop) (hQ : ∀ H', BankR H' x (endS B part commit).1 → Keeps [x.sm, x.va] H H' → Q (i64 (endS B part commit).2) H') : wp (A_points_Bank_end GD [ptr x.p 0, i64 part, .bool commit]) Q H := by
  show wp (F_points_Bank_end GD (ptr x.p 0) (i64 part) (.bool commit)) Q H
  have l0 := h.lt
  have hb : ∀ b ∈ x.foot, b < H.next := l0
  (try simp (maxSteps := 1000000) (disch := first | omega | (simp only [Z3]; omega) | (simp; done) | assumption | decide | (refine not_not_intro ?_; assumption)) only [Z1, Z2, splice, F_points_Bank_end])
  refine (wp_box1 (by rfl)).mpr ?_
  refine (wp_box1 (by rfl)).mpr ?_
  refine (wp_box1 (by rfl)).mpr ?_
  generalize hH3 : ((H.push (some (.cells true [ptr x.p 0]))).push (some (.cells true [i64 part]))).push (some (.cells true [.bool commit])) = H3
  have k3 : Keeps [] H H3 := by rw [← hH3]; exact keeps_push (keeps_push (Keeps.push _ _ _))
  have n3 : H3.next = H.next + 3 := by rw [← hH3]; simp
  have g1 : H3.get H.next = some (.cells true [ptr x.p 0]) := by rw [← hH3, Heap.get_push_lt (by simp; omega), Heap.get_push_lt (by simp)]; exact Heap.get_push_self _ _
  have g2 : H3.get (H.next + 1) = some (.cells true [i64 part]) := by rw [← hH3, Heap.get_push_lt (by simp)]; exact Heap.get_push_eq (by simp)
  have g3 : H3.get (H.next + 2) = some (.cells true [.bool commit]) := by rw [← hH3]; exact Heap.get_push_eq (by simp)
  have hB := h.keep0 k3
  have ho := hB.objc
  (try simp (maxSteps := 1000000) (disch := first | omega | (simp only [Z3]; omega) | (simp; done) | assumption | decide | (refine not_not_intro ?_; assumption)) only [Z1, Z2, splice, g1, g2, g3, points_there_eq])
  by_cases c : 0 ≤ part ∧ part < 8
  rotate_left
  · (try simp (maxSteps := 1000000) (disch := first | omega | (simp only [Z3]; omega) | (simp; done) | assumption | decide | (refine not_not_intro ?_; assumption)) only [Z1, Z2, splice, decide_eq_false c])
    rw [endS, if_pos c] at hQ
    exact hQ _ hB (k3.mono (by simp))
  rw [endS, if_neg (fun q => q c)] at hQ
  (try simp (maxSteps := 1000000) (disch := first | omega | (simp only [Z3]; omega) | (simp; done) | assumption | decide | (refine not_not_intro ?_; assumption)) only [Z1, Z2, splice, decide_eq_true c, points_Bank_end_k0, g1, ho])
  have hst := hB.st
  have hd := h.dis
  simp only [BL.foot, List.nodup_cons, List.mem_cons, not_or] at hd
  obtain ⟨⟨d1, d2, d3, d4, d5⟩, ⟨d6, d7, d8, d9⟩, ⟨d10, d11, d12⟩, ⟨d13, d14⟩, d15, _⟩ := hd
  have lp : x.p < H.next := hb _ (by simp [BL.foot])
  have lva : x.va < H.next := hb _ (by simp [BL.foot])
  have lsm : x.sm < H.next := hb _ (by simp [BL.foot])
  -- the map is put away
  generalize hK0 : (H3.set x.sm none).push none = K0
  have kn : K0.next = H3.next + 1 := by rw [← hK0]; simp
  have kg : ∀ b, b < H3.next → b ≠ x.sm → K0.get b = H3.get b := fun b hb hne => by rw [← hK0, Heap.get_push_lt (by simpa using hb), Heap.get_set_ne _ _ _ hne]
  have R : EndR K0 (H3.next + 1) x B.ls.length (H.next + 1) (H.next + 2) H.next part commit :=
    ⟨kn, by rw [kg _ (by omega) (by omega)]; exact g2, by rw [kg _ (by omega) (by omega)]; exact g3, by rw [kg _ (by omega) (by omega)]; exact g1, by rw [kg _ (by omega) d4]; exact hB.obj, by omega, by omega, by omega, by omega, d2⟩
  have hva0 : K0.get x.va = some (.cells true (encs B.vs)) := by rw [kg _ (by omega) d11]; exact hB.vs
  have hstart : (K0.set x.va (some (.cells true (encs B.vs)))).room 0 = K0 := by rw [Heap.room_zero, Heap.set_same hva0]
  have hrs := h.rs
  have hks := h.ks
  have hall : ∀ l : List Nat, l.Perm (List.range B.st.length) → runsE x.sm (endF (H.next + 1) (H.next + 2) H.next) (ptr H3.next 0) B.st (delE B.st part) (H3.next + 1) l K0 = some ((), (K0.set x.va (some (.cells true (encs (B.st.foldl (upd1 part commit) B.vs))))).room (2 * B.st.length)) := fun l hl => by
    have := runs_ok R (it := ptr H3.next 0) hrs l B.vs 0 h.len (fun i hi => List.mem_range.1 (hl.mem_iff.1 hi))
    rw [hstart] at this
    rw [this, Nat.zero_add, hl.length_eq, List.length_range]
    have e : l.foldl (fun vs i => upd1 part commit vs (B.st.getD i default)) B.vs = B.st.foldl (upd1 part commit) B.vs := by
      rw [← foldl_range B.st default (upd1 part commit)]
      refine perm_foldl hl (fun i hi j hj z => upd1_comm (fun q => ?_) ?_ ?_ z) _
      · have hi' := List.mem_range.1 (hl.mem_iff.1 hi)
        have hj' := List.mem_range.1 (hl.mem_iff.1 hj)
        have : i = j := by
          rw [List.getD_eq_getElem?_getD, List.getD_eq_getElem?_getD, List.getElem?_eq_getElem hi', List.getElem?_eq_getElem hj'] at q
          simp only [Option.getD_some] at q
          rcases Nat.lt_trichotomy i j with r | r | r
          · have := List.pairwise_iff_getElem.1 hks i j (by simpa using hi') (by simpa using hj') r
            simp at this; exact absurd q this
          · exact r
          · have := List.pairwise_iff_getElem.1 hks j i (by simpa using hj') (by simpa using hi') r
            simp at this; exact absurd q.symm this
        rw [this]
      · have hi' := List.mem_range.1 (hl.mem_iff.1 hi)
        rw [List.getD_eq_getElem?_getD, List.getElem?_eq_getElem hi']
        exact (hrs _ (List.getElem_mem hi')).1
      · have hj' := List.mem_range.1 (hl.mem_iff.1 hj)
        rw [List.getD_eq_getElem?_getD, List.getElem?_eq_getElem hj']
        exact (hrs _ (List.getElem_mem hj')).1
    rw [e]
  have hok : DelOK Try.prog SE 67 71 2 93 4 (.agg [.i, .i]) x.sm (endF (H.next + 1) (H.next + 2) H.next) (B.st.map encE) H3 ((K0.set x.va (some (.cells true (encs (B.st.foldl (upd1 part commit) B.vs))))).room (2 * B.st.length)) (delE B.st part) := by
    refine ⟨keysApart_enc hks, fun e he => ?_, fun l hl => ?_⟩
    · obtain ⟨e', _, rfl⟩ := List.mem_map.1 he; rfl
    · rw [List.length_map] at hl
      rw [hK0]; exact hall l hl
  refine delF_ok hst hok fun K' del' hok' => ?_
  have hu := delRuns_unique (List.range (B.st.map encE).length) _ _ _ (hok'.all _ (List.Perm.refl _)) (hok.all _ (List.Perm.refl _))
  obtain ⟨rfl, hdel⟩ := hu
  have hkeep : keepE (B.st.map encE) del' = (B.st.filter fun e => !decide (e.1.1 = part)).map encE := by
    have e1 : keepE (B.st.map encE) del' = ((List.range B.st.length).filter fun i => !delE B.st part i).map fun i => (B.st.map encE).getD i default := by
      unfold keepE
      rw [List.length_map]
      congr 1
      refine List.filter_congr fun i hi => ?_
      rw [hdel i (by rw [List.length_map]; exact hi)]
    rw [e1, ← filter_range B.st default fun e => !decide (e.1.1 = part), List.map_map]
    refine List.map_congr_left fun i hi => ?_
    have hi' := List.mem_range.1 (List.mem_filter.1 hi).1
    show (B.st.map encE).getD i default = encE (B.st.getD i default)
    rw [List.getD_eq_getElem?_getD, List.getD_eq_getElem?_getD, List.getElem?_map, List.getElem?_eq_getElem hi']; rfl
  rw [hkeep]
  (try simp (maxSteps := 1000000) (disch := first | omega | (simp only [Z3]; omega) | (simp; done) | assumption | decide | (refine not_not_intro ?_; assumption)) only [Z1, Z2, splice])
  generalize hKf : (K0.set x.va (some (.cells true (encs (B.st.foldl (upd1 part commit) B.vs))))).room (2 * B.st.length) = Kf
  have hfn : Kf.next = H3.next + 1 + 2 * B.st.length := by rw [← hKf, Heap.room_next, Heap.next_set', kn]
  have hfg : ∀ b, Kf.get b = if b = x.va then some (.cells true (encs (B.st.foldl (upd1 part commit) B.vs))) else K0.get b := fun b => by
    rw [← hKf, Heap.room_get, Heap.get_set K0 x.va _ b (by rw [kn]; omega)]
  have kf : Keeps [x.sm, x.va] H3 (Kf.set x.sm (some (.map true ((B.st.filter fun e => !decide (e.1.1 = part)).map encE)))) := by
    refine ⟨by rw [Heap.next_set', hfn]; omega, fun b hb hn => ?_⟩
    simp only [List.mem_cons, List.not_mem_nil, or_false, not_or] at hn
    rw [Heap.get_set_ne _ _ _ hn.1, hfg, if_neg hn.2, kg b hb hn.1]
  have gs : (Kf.set x.sm (some (.map true ((B.st.filter fun e => !decide (e.1.1 = part)).map encE)))).get x.sm = some (.map true ((B.st.filter fun e => !decide (e.1.1 = part)).map encE)) := Heap.get_set_self (by rw [hfn]; omega)
  have gva : (Kf.set x.sm (some (.map true ((B.st.filter fun e => !decide (e.1.1 = part)).map encE)))).get x.va = some (.cells true (encs (B.st.foldl (upd1 part commit) B.vs))) := by
    rw [Heap.get_set_ne _ _ _ d11, hfg, if_pos rfl]
  refine hQ _ ⟨kf.get hB.obj (by simp; exact ⟨d4, d2⟩), hB.pts.keep kf (fun b hb' => by simp only [List.mem_cons, List.not_mem_nil, or_false, not_or]; exact ⟨fun e => d15 (e ▸ hb'), fun e => d12 (e ▸ hb')⟩), kf.get hB.gr (by simp; exact ⟨d8, d6⟩), gva, kf.get hB.fo (by simp; exact ⟨d13, fun e => d10 e.symm⟩), gs, by rw [foldl_upd_len]; exact hB.len, hB.small, h.dis, hks.sublist (List.filter_sublist.map _), hB.kf, fun e he => hrs e (List.mem_filter.1 he).1, hB.rg⟩ ((k3.mono (by simp)).trans kf (fun _ _ h => h))

theorem commit_ok {H : Heap} {x : BL} {B : Bk} (h : BankR H x B) (part : Int) (Q : V → Heap → Prop) (hQ : ∀ H', BankR H' x (endS B part true).1 → Keeps [x.sm, x.va] H H' → Q (i64 (endS B part true).2) H') : wp (A_points_Bank_Commit GD [ptr x.p 0, i64 part]) Q H := by
  show wp (F_points_Bank_Commit GD (ptr x.p 0) (i64 part)) Q H
  (try simp (maxSteps := 1000000) (disch := first | omega | (simp only [Z3]; omega) | (simp; done) | assumption | decide | (refine not_not_intro ?_; assumption)) only [Z1, Z2, splice, F_points_Bank_Commit])
  refine end_ok h part true _ fun H' q1 q2 => ?_
  (try simp (maxSteps := 1000000) (disch := first | omega | (simp only [Z3]; omega) | (simp; done) | assumption | decide | (refine not_not_intro ?_; assumption)) only [Z1, Z2, splice])
  exact hQ H' q1 q2
theorem drop_ok {H : Heap} {x : BL} {B : Bk} (h : BankR H x B) (part : Int) (Q : V → Heap → Prop) (hQ : ∀ H', BankR H' x (endS B part false).1 → Keeps [x.sm, x.va] H H' → Q (i64 (endS B part false).2) H') : wp (A_points_Bank_Drop GD [ptr x.p 0, i64 part]) Q H := by
  show wp (F_points_Bank_Drop GD (ptr x.p 0) (i64 part)) Q H
  (try simp (maxSteps := 1000000) (disch := first | omega | (simp only [Z3]; omega) | (simp; done) | assumption | decide | (refine not_not_intro ?_; assumption)) only [Z1, Z2, splice, F_points_Bank_Drop])
  refine end_ok h part false _ fun H' q1 q2 => ?_
  (try simp (maxSteps := 1000000) (disch := first | omega | (simp only [Z3]; omega) | (simp; done) | assumption | decide | (refine not_not_intro ?_; assumption)) only [Z1, Z2, splice])
  exact hQ H' q1 q2
end Go.AM.Cap
