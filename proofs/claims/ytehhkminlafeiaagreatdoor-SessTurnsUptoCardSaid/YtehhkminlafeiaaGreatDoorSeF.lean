import Derived.Test.YtehhkminlafeiaaGreatDoorSeE
import Derived.Test.YtehhkminlafeiaaGreatDoorAmOpenF
set_option linter.all false
/- sess: shelves, on things that lie apart (written by gense2.py) -/
set_option maxHeartbeats 16000000
namespace Go.AM.Cap
open Go.AM Go.Proofs

theorem unzip_zip {α β : Type} : ∀ l : List (α × β), (l.map (·.1)).zip (l.map (·.2)) = l
  | [] => rfl
  | (a, b) :: l => by simp [unzip_zip l]
theorem idxP_map {α β : Type} (f : α → β) (p : β → Bool) : ∀ l : List α, idxP p (l.map f) = idxP (fun x => p (f x)) l
  | [] => rfl
  | x :: l => by simp [idxP, idxP_map f p l]

/-! ### challenges -/
theorem stput_ch {H0 H : Heap} {L : List Thing} {d : Nat} {c0 c1 c2 c6 c7 c8 : V} {iv lv : V} {last : Int} {xs : List (Int × Ch)} (st : Hp H0 H (cel d [c0, c1, c2, i64 last, iv, lv, c6, c7, c8] :: own iv (xs.map (·.1)) :: own lv (xs.map (·.2)) :: L)) (hlast : 0 ≤ last ∧ last ≤ 1000000) (hxl : xs.length < 8) (x : Ch) (hv : vEq.vEq1 x.user.rs.v x.user.rs.v = true) (Q : V → Heap → Prop)
    (hQ : ∀ w3 w5 H', Hp H0 H' (cel d [c0, c1, c2, i64 (last + 1), w3, w5, c6, c7, c8] :: own w3 ((xs ++ [(last + 1, x)]).map (·.1)) :: own w5 ((xs ++ [(last + 1, x)]).map (·.2)) :: L) → Q (.tuple #[i64 (last + 1), .bool true]) H') :
    wp (A_sess_shelf_sess_challenge_put [ptr d 3, .agg (Flat.enc x).toArray]) Q H := by
  have h1 := st.apart2 (i := 0) (j := 1) rfl rfl (by omega) d (by simp [cel])
  have h2 := st.apart2 (i := 0) (j := 2) rfl rfl (by omega) d (by simp [cel])
  have h3 := st.apart2 (i := 1) (j := 2) rfl rfl (by omega)
  refine put_ch (st.get (i := 0) rfl) (st.own (i := 1) rfl) (st.own (i := 2) rfl) h1 h2 h3 hlast (by simpa using hxl) (by simp; omega) x hv Q fun w3 w5 H' g o3 o5 k n3 n5 dis => ?_
  refine hQ w3 w5 H' (st.steps3 k ?_ g ?_ ?_ rfl n3 n5 dis)
  · intro b hb
    simp only [List.mem_cons, List.mem_append] at hb
    rcases hb with rfl | hb | hb
    · exact .inl (by simp [cel])
    · exact .inr (.inl hb)
    · exact .inr (.inr (.inl hb))
  · rw [List.map_append]; exact o3
  · rw [List.map_append]; exact o5
theorem stfull_ch {H0 H : Heap} {L : List Thing} {d : Nat} {c0 c1 c2 c6 c7 c8 : V} {iv lv : V} {last : Int} {xs : List (Int × Ch)} (st : Hp H0 H (cel d [c0, c1, c2, i64 last, iv, lv, c6, c7, c8] :: own iv (xs.map (·.1)) :: own lv (xs.map (·.2)) :: L)) (hxl : xs.length = 8) (x : Ch) (Q : V → Heap → Prop)
    (hQ : ∀ H', Hp H0 H' (cel d [c0, c1, c2, i64 last, iv, lv, c6, c7, c8] :: own iv (xs.map (·.1)) :: own lv (xs.map (·.2)) :: L) → Q (.tuple #[i64 0, .bool false]) H') :
    wp (A_sess_shelf_sess_challenge_put [ptr d 3, .agg (Flat.enc x).toArray]) Q H := by
  show wp (F_sess_shelf_sess_challenge_put (ptr d 3) (.agg (Flat.enc x).toArray)) Q H
  have ho := ch_one x
  unfold F_sess_shelf_sess_challenge_put
  rw [wp_bnd, wp_bnd, enc_ch]
  refine (wp_boxg ho).mpr ?_
  have st1 := st.push (some (.cells true [.string x.user.name, .string x.user.key, x.user.rs.v, .string x.nonce, i64 x.frame]))
  generalize H.push (some (.cells true [.string x.user.name, .string x.user.key, x.user.rs.v, .string x.nonce, i64 x.frame])) = H1 at *
  have d1 := st1.get (i := 0) rfl
  have hlen := (st1.own (i := 2) rfl).len
  rw [List.length_map, hxl] at hlen
  (try simp (maxSteps := 1000000) (disch := first | omega | (simp only [Z3]; omega) | (simp; done) | assumption | decide | (refine not_not_intro ?_; assumption)) only [Z1, Z2, splice, d1, hlen])
  exact hQ _ st1
theorem stdrop_ch {H0 H : Heap} {L : List Thing} {d : Nat} {c0 c1 c2 c6 c7 c8 : V} {iv lv : V} {last : Int} {xs : List (Int × Ch)} (st : Hp H0 H (cel d [c0, c1, c2, i64 last, iv, lv, c6, c7, c8] :: own iv (xs.map (·.1)) :: own lv (xs.map (·.2)) :: L)) (hxl : xs.length ≤ 8) (hvs : ∀ x ∈ xs, vEq.vEq1 x.2.user.rs.v x.2.user.rs.v = true) (id : Int) (Q : V → Heap → Prop)
    (hQ : ∀ w3 w5 H', Hp H0 H' (cel d [c0, c1, c2, i64 last, w3, w5, c6, c7, c8] :: own w3 ((xs.filter fun e => decide (e.1 ≠ id)).map (·.1)) :: own w5 ((xs.filter fun e => decide (e.1 ≠ id)).map (·.2)) :: L) → Q (.tuple #[]) H') :
    wp (A_sess_shelf_sess_challenge_drop [ptr d 3, i64 id]) Q H := by
  refine drop_ch (st.get (i := 0) rfl) (st.own (i := 1) rfl) (st.own (i := 2) rfl) (by simp) (by simpa using hxl) (fun x hx => ?_) id Q fun w3 w5 H' g o3 o5 k n3 n5 dis => ?_
  · obtain ⟨e, he, rfl⟩ := List.mem_map.1 hx
    exact hvs e he
  · unfold keep_ch at o3 o5
    rw [unzip_zip] at o3 o5
    refine hQ w3 w5 H' (st.steps3 k ?_ g o3 o5 rfl (fun b hb => .inr (n3 b hb)) (fun b hb => .inr (n5 b hb)) dis)
    intro b hb
    simp only [List.mem_singleton] at hb
    subst hb
    exact .inl (by simp [cel])
theorem stget_ch {H0 H : Heap} {L : List Thing} {d : Nat} {c0 c1 c2 c6 c7 c8 : V} {iv lv : V} {last : Int} {xs : List (Int × Ch)} (st : Hp H0 H (cel d [c0, c1, c2, i64 last, iv, lv, c6, c7, c8] :: own iv (xs.map (·.1)) :: own lv (xs.map (·.2)) :: L)) (hxl : xs.length ≤ 8) (id : Int) (Q : V → Heap → Prop)
    (h0 : idxP (fun e : Int × Ch => decide (id = e.1)) xs = none → Q (.pointer none) H) (h1 : ∀ i, idxP (fun e : Int × Ch => decide (id = e.1)) xs = some i → Q (ptr (slB lv) (slO lv + i * 5)) H) :
    wp (A_sess_shelf_sess_challenge_get [ptr d 3, i64 id]) Q H := by
  refine get_ch (st.get (i := 0) rfl) (st.own (i := 1) rfl) (st.own (i := 2) rfl) (by simp) (by simp; omega) id Q ?_
  rw [idxP_map]
  cases hi : idxP (fun e : Int × Ch => decide (id = e.1)) xs with
  | none => exact h0 hi
  | some i => exact h1 i hi

/-! ### sessions -/
theorem stput_se {H0 H : Heap} {L : List Thing} {d : Nat} {c0 c1 c2 c3 c4 c5 : V} {iv lv : V} {last : Int} {xs : List (Int × Se)} (st : Hp H0 H (cel d [c0, c1, c2, c3, c4, c5, i64 last, iv, lv] :: own iv (xs.map (·.1)) :: own lv (xs.map (·.2)) :: L)) (hlast : 0 ≤ last ∧ last ≤ 1000000) (hxl : xs.length < 8) (x : Se) (hv : vEq.vEq1 x.user.rs.v x.user.rs.v = true) (Q : V → Heap → Prop)
    (hQ : ∀ w3 w5 H', Hp H0 H' (cel d [c0, c1, c2, c3, c4, c5, i64 (last + 1), w3, w5] :: own w3 ((xs ++ [(last + 1, x)]).map (·.1)) :: own w5 ((xs ++ [(last + 1, x)]).map (·.2)) :: L) → Q (.tuple #[i64 (last + 1), .bool true]) H') :
    wp (A_sess_shelf_sess_session_put [ptr d 6, .agg (Flat.enc x).toArray]) Q H := by
  have h1 := st.apart2 (i := 0) (j := 1) rfl rfl (by omega) d (by simp [cel])
  have h2 := st.apart2 (i := 0) (j := 2) rfl rfl (by omega) d (by simp [cel])
  have h3 := st.apart2 (i := 1) (j := 2) rfl rfl (by omega)
  refine put_se (st.get (i := 0) rfl) (st.own (i := 1) rfl) (st.own (i := 2) rfl) h1 h2 h3 hlast (by simpa using hxl) (by simp; omega) x hv Q fun w3 w5 H' g o3 o5 k n3 n5 dis => ?_
  refine hQ w3 w5 H' (st.steps3 k ?_ g ?_ ?_ rfl n3 n5 dis)
  · intro b hb
    simp only [List.mem_cons, List.mem_append] at hb
    rcases hb with rfl | hb | hb
    · exact .inl (by simp [cel])
    · exact .inr (.inl hb)
    · exact .inr (.inr (.inl hb))
  · rw [List.map_append]; exact o3
  · rw [List.map_append]; exact o5
theorem stfull_se {H0 H : Heap} {L : List Thing} {d : Nat} {c0 c1 c2 c3 c4 c5 : V} {iv lv : V} {last : Int} {xs : List (Int × Se)} (st : Hp H0 H (cel d [c0, c1, c2, c3, c4, c5, i64 last, iv, lv] :: own iv (xs.map (·.1)) :: own lv (xs.map (·.2)) :: L)) (hxl : xs.length = 8) (x : Se) (Q : V → Heap → Prop)
    (hQ : ∀ H', Hp H0 H' (cel d [c0, c1, c2, c3, c4, c5, i64 last, iv, lv] :: own iv (xs.map (·.1)) :: own lv (xs.map (·.2)) :: L) → Q (.tuple #[i64 0, .bool false]) H') :
    wp (A_sess_shelf_sess_session_put [ptr d 6, .agg (Flat.enc x).toArray]) Q H := by
  show wp (F_sess_shelf_sess_session_put (ptr d 6) (.agg (Flat.enc x).toArray)) Q H
  have ho := se_one x
  unfold F_sess_shelf_sess_session_put
  rw [wp_bnd, wp_bnd, enc_se]
  refine (wp_boxg ho).mpr ?_
  have st1 := st.push (some (.cells true [.string x.user.name, .string x.user.key, x.user.rs.v, .string x.key, i64 x.next, i64 x.frame]))
  generalize H.push (some (.cells true [.string x.user.name, .string x.user.key, x.user.rs.v, .string x.key, i64 x.next, i64 x.frame])) = H1 at *
  have d1 := st1.get (i := 0) rfl
  have hlen := (st1.own (i := 2) rfl).len
  rw [List.length_map, hxl] at hlen
  (try simp (maxSteps := 1000000) (disch := first | omega | (simp only [Z3]; omega) | (simp; done) | assumption | decide | (refine not_not_intro ?_; assumption)) only [Z1, Z2, splice, d1, hlen])
  exact hQ _ st1
theorem stdrop_se {H0 H : Heap} {L : List Thing} {d : Nat} {c0 c1 c2 c3 c4 c5 : V} {iv lv : V} {last : Int} {xs : List (Int × Se)} (st : Hp H0 H (cel d [c0, c1, c2, c3, c4, c5, i64 last, iv, lv] :: own iv (xs.map (·.1)) :: own lv (xs.map (·.2)) :: L)) (hxl : xs.length ≤ 8) (hvs : ∀ x ∈ xs, vEq.vEq1 x.2.user.rs.v x.2.user.rs.v = true) (id : Int) (Q : V → Heap → Prop)
    (hQ : ∀ w3 w5 H', Hp H0 H' (cel d [c0, c1, c2, c3, c4, c5, i64 last, w3, w5] :: own w3 ((xs.filter fun e => decide (e.1 ≠ id)).map (·.1)) :: own w5 ((xs.filter fun e => decide (e.1 ≠ id)).map (·.2)) :: L) → Q (.tuple #[]) H') :
    wp (A_sess_shelf_sess_session_drop [ptr d 6, i64 id]) Q H := by
  refine drop_se (st.get (i := 0) rfl) (st.own (i := 1) rfl) (st.own (i := 2) rfl) (by simp) (by simpa using hxl) (fun x hx => ?_) id Q fun w3 w5 H' g o3 o5 k n3 n5 dis => ?_
  · obtain ⟨e, he, rfl⟩ := List.mem_map.1 hx
    exact hvs e he
  · unfold keep_se at o3 o5
    rw [unzip_zip] at o3 o5
    refine hQ w3 w5 H' (st.steps3 k ?_ g o3 o5 rfl (fun b hb => .inr (n3 b hb)) (fun b hb => .inr (n5 b hb)) dis)
    intro b hb
    simp only [List.mem_singleton] at hb
    subst hb
    exact .inl (by simp [cel])
theorem stget_se {H0 H : Heap} {L : List Thing} {d : Nat} {c0 c1 c2 c3 c4 c5 : V} {iv lv : V} {last : Int} {xs : List (Int × Se)} (st : Hp H0 H (cel d [c0, c1, c2, c3, c4, c5, i64 last, iv, lv] :: own iv (xs.map (·.1)) :: own lv (xs.map (·.2)) :: L)) (hxl : xs.length ≤ 8) (id : Int) (Q : V → Heap → Prop)
    (h0 : idxP (fun e : Int × Se => decide (id = e.1)) xs = none → Q (.pointer none) H) (h1 : ∀ i, idxP (fun e : Int × Se => decide (id = e.1)) xs = some i → Q (ptr (slB lv) (slO lv + i * 6)) H) :
    wp (A_sess_shelf_sess_session_get [ptr d 6, i64 id]) Q H := by
  refine get_se (st.get (i := 0) rfl) (st.own (i := 1) rfl) (st.own (i := 2) rfl) (by simp) (by simp; omega) id Q ?_
  rw [idxP_map]
  cases hi : idxP (fun e : Int × Se => decide (id = e.1)) xs with
  | none => exact h0 hi
  | some i => exact h1 i hi
end Go.AM.Cap
