import Derived.Test.YtehhkminlafeiaaGreatDoorSeH
import Derived.Test.YtehhkminlafeiaaGreatDoorAmSep
set_option linter.all false
/- sess: a desk's calls: Logout, Tick, Sessions, Reply -/
set_option maxHeartbeats 16000000
namespace Go.AM.Cap
open Go.AM Go.Proofs

/-! ### Logout -/
def logoutD (D : Dk) (id : Int) : Int × Dk := match idxP (fun e : Int × Se => decide (id = e.1)) D.sl with
  | none => (251, D)
  | some _ => (0, dropS D id)
theorem logout_ok {H0 H : Heap} {d : Nat} {D : Dk} {L : List Thing} {n : Int} (h : DeskAt H0 H d D L) (ok : D.Ok n) (id : Int) (Q : V → Heap → Prop)
    (hQ : ∀ H', DeskAt H0 H' d (logoutD D id).2 L → Q (i64 (logoutD D id).1) H') : wp (A_sess_Desk_Logout [ptr d 0, i64 id]) Q H := by
  show wp (F_sess_Desk_Logout (ptr d 0) (i64 id)) Q H
  obtain ⟨uv, icv, cv, isv, sv', st⟩ := h
  have hsl := ok.sl
  unfold logoutD at hQ
  (try simp (maxSteps := 1000000) (disch := first | omega | (simp only [Heap.next_push', Heap.next_set']; omega) | (simp; done) | assumption | decide | (refine not_not_intro ?_; assumption)) only [Z1, Z2, splice, F_sess_Desk_Logout])
  refine stget_se (desk_s st) hsl id _ (fun hi => ?_) (fun i hi => ?_)
  · rw [hi] at hQ
    (try simp (maxSteps := 1000000) (disch := first | omega | (simp only [Heap.next_push', Heap.next_set']; omega) | (simp; done) | assumption | decide | (refine not_not_intro ?_; assumption)) only [Z1, Z2, splice])
    exact hQ _ ⟨_, _, _, _, _, st⟩
  · rw [hi] at hQ
    (try simp (maxSteps := 1000000) (disch := first | omega | (simp only [Heap.next_push', Heap.next_set']; omega) | (simp; done) | assumption | decide | (refine not_not_intro ?_; assumption)) only [Z1, Z2, splice, sess_Desk_Logout_k0])
    refine stdrop_se (desk_s st) hsl (fun e he => (ok.uk _ (ok.sk e he).1).2) id _ fun w3 w5 H2 st2 => ?_
    (try simp (maxSteps := 1000000) (disch := first | omega | (simp only [Heap.next_push', Heap.next_set']; omega) | (simp; done) | assumption | decide | (refine not_not_intro ?_; assumption)) only [Z1, Z2, splice])
    exact hQ _ ⟨_, _, _, _, _, desk_s' st2⟩

/-! ### Tick -/
def tickD (D : Dk) : Dk := { D with frame := D.frame + 1, cl := D.cl.filter fun e => decide (D.frame + 1 - e.2.frame < 10), sl := D.sl.filter fun e => decide (D.frame + 1 - e.2.frame < D.idle) }
theorem tick_ok {H0 H : Heap} {d : Nat} {D : Dk} {L : List Thing} {n : Int} (h : DeskAt H0 H d D L) (ok : D.Ok n) (hn : n ≤ 1000000) (Q : V → Heap → Prop)
    (hQ : ∀ H', DeskAt H0 H' d (tickD D) L → Q (.tuple #[]) H') : wp (A_sess_Desk_Tick [ptr d 0]) Q H := by
  show wp (F_sess_Desk_Tick (ptr d 0)) Q H
  obtain ⟨uv, icv, cv, isv, sv', st⟩ := h
  have hfr := ok.frame
  have hid := ok.idle
  have stx := st.newc [ptr d 0]
  have g := stx.get (i := 1) rfl
  have gx := stx.get (i := 0) rfl
  unfold F_sess_Desk_Tick
  rw [wp_bnd, wp_bnd]
  refine (wp_box1 (by rfl)).mpr ?_
  have hbx : H.next < (H.push (some (.cells true [ptr d 0]))).next := by simp
  generalize hx : H.next = x at *
  generalize H.push (some (.cells true [ptr d 0])) = H1 at *
  have hdx : x ≠ d := fun q => stx.apart2 (i := 0) (j := 1) rfl rfl (by omega) x (by simp [cel]) (by simp [cel, q])
  (try simp (maxSteps := 1000000) (disch := first | omega | (simp only [Heap.next_push', Heap.next_set']; omega) | (simp; done) | assumption | decide | (refine not_not_intro ?_; assumption)) only [Z1, Z2, splice, g, gx])
  have stf := stx.set (i := 1) rfl [uv, i64 D.idle, i64 (D.frame + 1), i64 D.lc, icv, cv, i64 D.ls, isv, sv']
  generalize H1.set d (some (.cells true [uv, i64 D.idle, i64 (D.frame + 1), i64 D.lc, icv, cv, i64 D.ls, isv, sv'])) = H2 at *
  have stf' : Hp H0 H2 (cel x [ptr d 0] :: cel d [uv, i64 D.idle, i64 (D.frame + 1), i64 D.lc, icv, cv, i64 D.ls, isv, sv'] :: own uv D.us :: own icv (D.cl.map (·.1)) :: own cv (D.cl.map (·.2)) :: own isv (D.sl.map (·.1)) :: own sv' (D.sl.map (·.2)) :: L) := stf
  have st2 := desk_c (Hp.rotN [] [_] [_, _, _, _, _, _] stf')
  have gx2 := st2.get (i := 6) rfl
  have gd2 := st2.get (i := 0) rfl
  (try simp (maxSteps := 1000000) (disch := first | omega | (simp only [Heap.next_push', Heap.next_set']; omega) | (simp; done) | assumption | decide | (refine not_not_intro ?_; assumption)) only [Z1, Z2, splice, gx2])
  refine stkeep_ch (S := ovr [(fid_sess_Desk_Tick_1, A_sess_Desk_Tick_1), (fid_sess_Desk_Tick_2, A_sess_Desk_Tick_2)] noC) (f := .func (.func fid_sess_Desk_Tick_1) #[] #[ptr x 0]) st2 ok.cl (fun e he => (ok.uk _ (ok.ck e he).1).2) (fun _ c => decide (IntKind.i64.wrap (D.frame + 1 - c.frame) < 10)) (fun H3 i c Q' k3 hq => ?_) _ fun w3 w5 H3 st3 => ?_
  · show wp (F_sess_Desk_Tick_1 (i64 i) (.agg (Flat.enc c).toArray) (ptr x 0)) Q' H3
    have ho := ch_one c
    have gx3 := k3.get gx2 (by simp)
    have gd3 := k3.get gd2 (by simp)
    have l1 := Heap.get_lt gx3
    have l2 := Heap.get_lt gd3
    (try simp (maxSteps := 1000000) (disch := first | omega | (simp only [Heap.next_push', Heap.next_set']; omega) | (simp; done) | assumption | decide | (refine not_not_intro ?_; assumption)) only [Z1, Z2, splice, F_sess_Desk_Tick_1, enc_ch, gx3, gd3])
    exact hq _ (Keeps.push _ _ _)
  have gx3 := st3.get (i := 6) rfl
  have gd3 := st3.get (i := 0) rfl
  have st3' := desk_s (desk_c' st3)
  (try simp (maxSteps := 1000000) (disch := first | omega | (simp only [Heap.next_push', Heap.next_set']; omega) | (simp; done) | assumption | decide | (refine not_not_intro ?_; assumption)) only [Z1, Z2, splice, gx3])
  refine stkeep_se (S := ovr [(fid_sess_Desk_Tick_1, A_sess_Desk_Tick_1), (fid_sess_Desk_Tick_2, A_sess_Desk_Tick_2)] noC) (f := .func (.func fid_sess_Desk_Tick_2) #[] #[ptr x 0]) st3' ok.sl (fun e he => (ok.uk _ (ok.sk e he).1).2) (fun _ c => decide (IntKind.i64.wrap (D.frame + 1 - c.frame) < D.idle)) (fun H4 i c Q' k4 hq => ?_) _ fun w7 w9 H4 st4 => ?_
  · show wp (F_sess_Desk_Tick_2 (i64 i) (.agg (Flat.enc c).toArray) (ptr x 0)) Q' H4
    have ho := se_one c
    have gx4 := k4.get gx3 (by simp)
    have gd4 := k4.get gd3 (by simp)
    have l1 := Heap.get_lt gx4
    have l2 := Heap.get_lt gd4
    (try simp (maxSteps := 1000000) (disch := first | omega | (simp only [Heap.next_push', Heap.next_set']; omega) | (simp; done) | assumption | decide | (refine not_not_intro ?_; assumption)) only [Z1, Z2, splice, F_sess_Desk_Tick_2, enc_se, gx4, gd4])
    exact hq _ (Keeps.push _ _ _)
  (try simp (maxSteps := 1000000) (disch := first | omega | (simp only [Heap.next_push', Heap.next_set']; omega) | (simp; done) | assumption | decide | (refine not_not_intro ?_; assumption)) only [Z1, Z2, splice])
  refine hQ _ ⟨uv, w3, w5, w7, w9, ?_⟩
  have f1 : (D.cl.filter fun e => decide (IntKind.i64.wrap (D.frame + 1 - e.2.frame) < 10)) = (tickD D).cl := List.filter_congr fun e he => by
    have := ok.ck e he
    rw [i64_in (by omega) (by omega)]
  have f2 : (D.sl.filter fun e => decide (IntKind.i64.wrap (D.frame + 1 - e.2.frame) < D.idle)) = (tickD D).sl := List.filter_congr fun e he => by
    have := ok.sk e he
    rw [i64_in (by omega) (by omega)]
  rw [← f1, ← f2]
  exact desk_x (desk_s' st4)

/-! ### Sessions -/
theorem cloneI_ok {H : Heap} {v : V} {l : List Int} (h : Sl H v l) (hl : l.length ≤ 1000) (Q : V → Heap → Prop) (hQ : ∀ w H', OwnF H' w l → Keeps [] H H' → (∀ b ∈ vb w, H.next ≤ b) → Q w H') : wp (A_slices_Clone_S_int_int [v]) Q H := by
  show wp (F_slices_Clone_S_int_int v) Q H
  by_cases hn : v = .slice none 0 0
  · subst hn
    have hl0 : l = [] := by
      rcases h with ⟨_, rfl⟩ | ⟨b, o, u, c, e, _⟩
      · rfl
      · cases e
    subst hl0
    have e : notIf false (isNil .s (Value.slice none 0 0 : V)) = some (.bool true) := rfl
    (try simp (maxSteps := 1000000) (disch := first | omega | (simp only [Heap.next_push', Heap.next_set']; omega) | (simp; done) | assumption | decide | (refine not_not_intro ?_; assumption)) only [Z1, Z2, splice, F_slices_Clone_S_int_int, e])
    exact hQ _ H (OwnF.nil _) (Keeps.refl _ _) (by simp)
  · have e : notIf false (isNil .s v) = some (.bool false) := by
      rcases h with ⟨rfl, _⟩ | ⟨b, o, u, c, rfl, _⟩
      · exact absurd rfl hn
      · rfl
    (try simp (maxSteps := 1000000) (disch := first | omega | (simp only [Heap.next_push', Heap.next_set']; omega) | (simp; done) | assumption | decide | (refine not_not_intro ?_; assumption)) only [Z1, Z2, splice, F_slices_Clone_S_int_int, e, slices_Clone_S_int_int_k0])
    refine (wp_bslc (cs := encs ([] : List Int)) (by rfl) (by rfl)).mpr ?_
    have k1 : Keeps [] H (H.push (some (.cells true (encs ([] : List Int))))) := Keeps.push _ _ _
    have o1 := ownF_push (H := H) (xs := ([] : List Int)) (n := 1) (m := 0) rfl rfl
    have n1 : (H.push (some (.cells true (encs ([] : List Int))))).next = H.next + 1 := by simp
    generalize H.push (some (.cells true (encs ([] : List Int)))) = H1 at *
    (try simp (maxSteps := 1000000) (disch := first | omega | (simp only [Heap.next_push', Heap.next_set']; omega) | (simp; done) | assumption | decide | (refine not_not_intro ?_; assumption)) only [Z1, Z2, splice])
    refine ownF_appV (α := Int) rfl o1 (h.keep0 k1) (by simp; omega) (by simp; omega) fun w H2 o2 k2 v2 => ?_
    rw [List.nil_append] at o2
    (try simp (maxSteps := 1000000) (disch := first | omega | (simp only [Heap.next_push', Heap.next_set']; omega) | (simp; done) | assumption | decide | (refine not_not_intro ?_; assumption)) only [Z1, Z2, splice])
    refine hQ w H2 o2 (k1.trans k2 fun b hb hm => by simp at hm; omega) fun b hb => ?_
    rcases v2 b hb with q | q
    · simp at q; omega
    · omega
theorem sessions_ok {H0 H : Heap} {d : Nat} {D : Dk} {L : List Thing} {n : Int} (h : DeskAt H0 H d D L) (ok : D.Ok n) (Q : V → Heap → Prop)
    (hQ : ∀ w H', DeskAt H0 H' d D (own w (D.sl.map (·.1)) :: L) → Q w H') : wp (A_sess_Desk_Sessions [ptr d 0]) Q H := by
  show wp (F_sess_Desk_Sessions (ptr d 0)) Q H
  obtain ⟨uv, icv, cv, isv, sv', st⟩ := h
  have hsl := ok.sl
  have g := st.get (i := 0) rfl
  (try simp (maxSteps := 1000000) (disch := first | omega | (simp only [Heap.next_push', Heap.next_set']; omega) | (simp; done) | assumption | decide | (refine not_not_intro ?_; assumption)) only [Z1, Z2, splice, F_sess_Desk_Sessions, g])
  refine cloneI_ok (st.own (i := 4) rfl).sl (by simp; omega) _ fun w H1 o1 k1 v1 => ?_
  have o1' : (own w (D.sl.map (·.1))).P H1 := o1
  have st1 := st.add k1 o1' v1
  (try simp (maxSteps := 1000000) (disch := first | omega | (simp only [Heap.next_push', Heap.next_set']; omega) | (simp; done) | assumption | decide | (refine not_not_intro ?_; assumption)) only [Z1, Z2, splice])
  exact hQ w H1 ⟨_, _, _, _, _, Hp.rotN [] [_] [_, _, _, _, _, _] st1⟩

end Go.AM.Cap
