import Derived.Test.YtehhkminlafeiaaGreatDoorSeP
import Derived.Test.YtehhkminlafeiaaGreatDoorAmOpenF
set_option linter.all false
/- sess: the reference's desk: find, over, Logout, Tick, Sessions, Reply -/
set_option maxHeartbeats 16000000
namespace Go.AM.Cap
open Go.AM Go.Proofs
theorem zbgl {α : Type} {p : α → Bool} {d : α} {l : List α} (h : ∀ j, j < l.length → p (l.getD j d) = false) : zgj p l = none := by
  rw [zrz]
  intro x hx
  obtain ⟨i, hi, rfl⟩ := List.getElem_of_mem hx
  have := h i hi
  rw [List.getD_eq_getElem?_getD, List.getElem?_eq_getElem hi] at this
  exact this
theorem zbfk {H0 H : Heap} {r : Nat} {D : Dk} {uv : V} {L : List Thing} {n : Int} (h : ze0 H0 H r D uv L) (ok : D.Ok n) (id : Int) (Q : V → Heap → Prop)
    (hQ : Q (i64 (zzu (zgj (fun e : Int × Se => decide (id = e.1)) D.sl))) H) : wp (zes [ptr r 0, i64 id]) Q H := by
  show wp (znh (ptr r 0) (i64 id)) Q H
  obtain ⟨cv, sv', st⟩ := h
  have g := st.get (i := 0) rfl
  have o := (st.own (i := 2) rfl)
  have hlen := o.len
  have hsl := ok.sl
  rw [List.length_map] at hlen
  rw [← zbz4 D.us] at hQ
  (try simp (maxSteps := 1000000) (disch := first | omega | (simp only [Z3]; omega) | (simp; done) | assumption | decide | (refine not_not_intro ?_; assumption)) only [Z1, Z2, splice, znh])
  refine zbt (Inv := fun k vs H' => ∃ j : Nat, k = D.sl.length - j ∧ j ≤ D.sl.length ∧ vs = [ptr r 0, i64 id, i64 j] ∧ H' = H ∧ ∀ m, m < j → decide (((D.sl.map (zd6 D.us)).getD m default).id = id) = false) (n := D.sl.length) (by unfold zcc; omega)
    ⟨0, by omega, by omega, rfl, rfl, by omega⟩ ?_
  rintro k vs H1 ⟨j, hk, hj, rfl, he, hm⟩
  rw [he]; clear he H1
  by_cases hlt : j < D.sl.length
  case neg =>
    have : j = D.sl.length := by omega
    subst this
    rw [zbgl (d := default) (by simpa using hm)] at hQ
    (try simp (maxSteps := 1000000) (disch := first | omega | (simp only [Z3]; omega) | (simp; done) | assumption | decide | (refine not_not_intro ?_; assumption)) only [Z1, Z2, splice, zmb, g, hlen, zy3])
    exact hQ
  have hlm : j < (D.sl.map (zd6 D.us)).length := by simpa using hlt
  have a1 := o.sl.addr' (n := 5) rfl (k := .i64) (i := (j : Int)) (by omega) (by omega)
  have c1 := o.sl.cell' (n := 5) rfl (i := j) (off := 0) hlm (by omega) default
  rw [Int.toNat_natCast] at a1
  rw [zl, Nat.add_zero] at c1
  have c1' : zlr (H.get (slB sv')) (slO sv' + j * 5) = some (i64 ((D.sl.map (zd6 D.us)).getD j default).id) := c1
  by_cases hx : ((D.sl.map (zd6 D.us)).getD j default).id = id
  · rw [zxi (d := default) hlm (decide_eq_true hx) hm] at hQ
    (try simp (maxSteps := 1000000) (disch := first | omega | (simp only [Z3]; omega) | (simp; done) | assumption | decide | (refine not_not_intro ?_; assumption)) only [Z1, Z2, splice, zmb, g, hlen, zq8, a1, c1', hx])
    exact hQ
  · (try simp (maxSteps := 1000000) (disch := first | omega | (simp only [Z3]; omega) | (simp; done) | assumption | decide | (refine not_not_intro ?_; assumption)) only [Z1, Z2, splice, zmb, g, hlen, zq8, a1, c1', hx, zy2])
    refine ⟨D.sl.length - (j + 1), by omega, j + 1, rfl, by omega, by push_cast; rfl, fun m hm' => ?_⟩
    rcases Nat.lt_or_eq_of_le (Nat.lt_succ_iff.1 hm') with z | rfl
    · exact hm m z
    · exact decide_eq_false hx
theorem z8d {α : Type} {l : List α} {i : Nat} : l.take i ++ l.drop (i + 1) = l.eraseIdx i := (List.eraseIdx_eq_take_drop_succ ..).symm
set_option maxRecDepth 20000 in
theorem zbuw {H0 H : Heap} {r : Nat} {D : Dk} {uv : V} {L : List Thing} (h : ze0 H0 H r D uv L) (hsl : D.sl.length ≤ 8) {i : Nat} (hi : i < D.sl.length) (Q : V → Heap → Prop)
    (hQ : ∀ H', ze0 H0 H' r { D with sl := D.sl.eraseIdx i } uv L → Q (.tuple #[]) H') : wp (zgh [ptr r 0, i64 i]) Q H := by
  show wp (zni (ptr r 0) (i64 i)) Q H
  obtain ⟨cv, sv', st⟩ := h
  have g := st.get (i := 0) rfl
  have o := (st.own (i := 2) rfl)
  have hlm : (D.sl.map (zd6 D.us)).length = D.sl.length := List.length_map _
  obtain ⟨w1, hw1, hs1, hv1⟩ := zbj8 (n := 5) rfl o.sl (k := i) (by omega)
  obtain ⟨w2, hw2, hs2, hv2⟩ := zbd8 (n := 5) rfl o.sl (k := i + 1) (by omega)
  have hw2' : zh7 5 sv' (some (i64 ((i : Int) + 1))) none = some w2 := by rw [← hw2]; rfl
  (try simp (maxSteps := 1000000) (disch := first | omega | (simp only [Z3]; omega) | (simp; done) | assumption | decide | (refine not_not_intro ?_; assumption)) only [Z1, Z2, splice, zni, g, hw1, hw2'])
  refine (zgv (cs := zba ([] : List Rse)) (by rfl) (by rfl)).mpr ?_
  have k1 : Keeps [] H (H.push (some (.cells true (zba ([] : List Rse))))) := Keeps.push _ _ _
  have o1 := zd1 (H := H) (xs := ([] : List Rse)) (n := 5) (m := 0) rfl rfl
  have n1 : (H.push (some (.cells true (zba ([] : List Rse))))).next = H.next + 1 := by simp
  generalize H.push (some (.cells true (zba ([] : List Rse)))) = H1 at *
  have g1 := k1.get g (by simp)
  (try simp (maxSteps := 1000000) (disch := first | omega | (simp only [Z3]; omega) | (simp; done) | assumption | decide | (refine not_not_intro ?_; assumption)) only [Z1, Z2, splice, g1])
  refine zbhg (ys := ([] : List Rse)) st k1 (Nat.le_refl _) o1 rfl (hs1.keep0 k1) (by simp; omega) (by simp; omega) fun w H2 st2 o2 k2 same2 nx2 v2 => ?_
  have g2 := k2.get g (by simp)
  (try simp (maxSteps := 1000000) (disch := first | omega | (simp only [Z3]; omega) | (simp; done) | assumption | decide | (refine not_not_intro ?_; assumption)) only [Z1, Z2, splice, g2])
  refine zbcc (i := 0) st2 rfl rfl (hs2.keep0 k2) (by simp; omega) (by simp; omega) fun w3 H3 st3 => ?_
  have st3' : Hp H0 H3 (own w3 (([] ++ (D.sl.map (zd6 D.us)).take i) ++ (D.sl.map (zd6 D.us)).drop (i + 1)) :: cel r [uv, i64 D.idle, i64 D.frame, cv, sv', i64 D.lc, i64 D.ls] :: own cv (D.cl.map (zgb D.us)) :: own sv' (D.sl.map (zd6 D.us)) :: L) := st3
  have g3 := st3'.get (i := 1) rfl
  have l3 := Heap.get_lt g3
  have ow := (st3'.own (i := 0) rfl).isOne
  have cks : zwp (some sv') sv' = true := zbhf o
  (try simp (maxSteps := 1000000) (disch := first | omega | (simp only [Z3]; omega) | (simp; done) | assumption | decide | (refine not_not_intro ?_; assumption)) only [Z1, Z2, splice, g3, g1, g2, ow, cks])
  have st4 := st3'.set (i := 1) rfl [uv, i64 D.idle, i64 D.frame, cv, w3, i64 D.lc, i64 D.ls]
  refine hQ _ ⟨cv, w3, ?_⟩
  have e1 : (D.sl.eraseIdx i).map (zd6 D.us) = ([] ++ (D.sl.map (zd6 D.us)).take i) ++ (D.sl.map (zd6 D.us)).drop (i + 1) := by
    rw [List.nil_append, ← z8d, List.map_append, List.map_take, List.map_drop]
  dsimp only
  rw [e1]
  exact zboz st4
theorem zbtm {H0 H : Heap} {r : Nat} {D : Dk} {uv : V} {L : List Thing} {n : Int} (h : ze0 H0 H r D uv L) (ok : D.Ok n) (un : D.Un) (id : Int) (Q : V → Heap → Prop)
    (hQ : ∀ H', ze0 H0 H' r (zqy D id).2 uv L → Q (i64 (zqy D id).1) H') : wp (zgo [ptr r 0, i64 id]) Q H := by
  show wp (zkz (ptr r 0) (i64 id)) Q H
  unfold zkz
  rw [zk, zk]
  refine zbfk h ok id _ ?_
  unfold zqy at hQ
  cases hi : zgj (fun e : Int × Se => decide (id = e.1)) D.sl with
  | none =>
    rw [hi] at hQ
    (try simp (maxSteps := 1000000) (disch := first | omega | (simp only [Z3]; omega) | (simp; done) | assumption | decide | (refine not_not_intro ?_; assumption)) only [Z1, Z2, splice, zzu])
    exact hQ _ h
  | some i =>
    rw [hi] at hQ
    obtain ⟨hil, _, _⟩ := zey (d := default) hi
    have hn : ¬ ((i : Int) < 0) := by omega
    (try simp (maxSteps := 1000000) (disch := first | omega | (simp only [Z3]; omega) | (simp; done) | assumption | decide | (refine not_not_intro ?_; assumption)) only [Z1, Z2, splice, zzu, zvi])
    refine zbuw h ok.sl hil _ fun H1 h1 => ?_
    (try simp (maxSteps := 1000000) (disch := first | omega | (simp only [Z3]; omega) | (simp; done) | assumption | decide | (refine not_not_intro ?_; assumption)) only [Z1, Z2, splice])
    refine hQ _ ?_
    unfold zbke
    rw [zxh un.s hi]
    exact h1
theorem zbgm {α : Type} {p : α → Bool} {l : List α} {j : Nat} {d : α} (h : j < l.length) : (l.take (j + 1)).filter p = (l.take j).filter p ++ (if p (l.getD j d) then [l.getD j d] else []) := by
  rw [List.take_succ, List.getElem?_eq_getElem h, List.filter_append, List.getD_eq_getElem?_getD, List.getElem?_eq_getElem h]
  congr 1
  by_cases hq : p l[j] = true <;> simp [hq]
theorem zbgn {α β : Type} {f : α → β} {p : β → Bool} {l : List α} : (l.map f).filter p = (l.filter fun x => p (f x)).map f := by rw [List.filter_map]; rfl
set_option maxRecDepth 20000 in
theorem zbz8 {H0 H : Heap} {r : Nat} {D : Dk} {uv : V} {L : List Thing} {n : Int} (h : ze0 H0 H r D uv L) (ok : D.Ok n) (hn : n ≤ 1000000) (Q : V → Heap → Prop)
    (hQ : ∀ H', ze0 H0 H' r (zwk D) uv L → Q (.tuple #[]) H') : wp (zh6 [ptr r 0]) Q H := by
  show wp (znl (ptr r 0)) Q H
  obtain ⟨cv, sv', st⟩ := h
  have hfr := ok.frame
  have hid := ok.idle
  have hcl := ok.cl
  have hsl := ok.sl
  have g := st.get (i := 0) rfl
  (try simp (maxSteps := 1000000) (disch := first | omega | (simp only [Z3]; omega) | (simp; done) | assumption | decide | (refine not_not_intro ?_; assumption)) only [Z1, Z2, splice, znl, g])
  have st1 := st.set (i := 0) rfl [uv, i64 D.idle, i64 (D.frame + 1), cv, sv', i64 D.lc, i64 D.ls]
  have st1' : Hp H0 (H.set r (some (.cells true [uv, i64 D.idle, i64 (D.frame + 1), cv, sv', i64 D.lc, i64 D.ls]))) (cel r [uv, i64 D.idle, i64 (D.frame + 1), cv, sv', i64 D.lc, i64 D.ls] :: own cv (D.cl.map (zgb D.us)) :: own sv' (D.sl.map (zd6 D.us)) :: L) := st1
  clear st1
  generalize H.set r (some (.cells true [uv, i64 D.idle, i64 (D.frame + 1), cv, sv', i64 D.lc, i64 D.ls])) = H1 at *
  refine zbt (Inv := fun k vs H' => ∃ (j : Nat) (w : V), k = D.cl.length - j ∧ j ≤ D.cl.length ∧ vs = [ptr r 0, w, i64 j] ∧ Hp H0 H' (own w (((D.cl.map (zgb D.us)).take j).filter fun c => decide (D.frame + 1 - c.frame < 10)) :: cel r [uv, i64 D.idle, i64 (D.frame + 1), cv, sv', i64 D.lc, i64 D.ls] :: own cv (D.cl.map (zgb D.us)) :: own sv' (D.sl.map (zd6 D.us)) :: L)) (n := D.cl.length) (by unfold zcc; omega)
    ⟨0, _, by omega, by omega, rfl, st1'.nilo⟩ ?_
  rintro k vs H2 ⟨j, w, hk, hj, rfl, st2⟩
  have g2 := st2.get (i := 1) rfl
  have o2 := st2.own (i := 2) rfl
  have hlen := o2.len
  rw [List.length_map] at hlen
  by_cases hlt : j < D.cl.length
  case pos =>
    have hlm : j < (D.cl.map (zgb D.us)).length := by simpa using hlt
    have a1 := o2.sl.addr' (n := 4) rfl (k := .i64) (i := (j : Int)) (by omega) (by omega)
    have c1 := o2.sl.cell' (n := 4) rfl (i := j) (off := 2) hlm (by omega) default
    have r1 := fun Q => o2.sl.ldn' (Q := Q) (n := 4) rfl hlm default
    rw [Int.toNat_natCast] at a1
    rw [zl] at c1
    have hft := zbgm (p := fun c : Rch => decide (D.frame + 1 - c.frame < 10)) (d := default) hlm
    have hfl : (((D.cl.map (zgb D.us)).take j).filter fun c => decide (D.frame + 1 - c.frame < 10)).length ≤ 8 := by
      have := List.length_filter_le (fun c : Rch => decide (D.frame + 1 - c.frame < 10)) ((D.cl.map (zgb D.us)).take j)
      rw [List.length_take] at this; omega
    have hfrx : 0 ≤ ((D.cl.map (zgb D.us)).getD j default).frame ∧ ((D.cl.map (zgb D.us)).getD j default).frame ≤ D.frame := by
      rw [zkc (d' := default) hlt]
      have := ok.ck _ (zdx (d := default) hlt)
      exact ⟨this.2.2.2.2.1, this.2.2.2.2.2⟩
    generalize (D.cl.map (zgb D.us)).getD j default = x at *
    have c1' : zlr (H2.get (slB cv)) (slO cv + j * 4 + 2) = some (i64 x.frame) := c1
    by_cases hx : D.frame + 1 - x.frame < 10
    · rw [if_pos (decide_eq_true hx)] at hft
      (try simp (maxSteps := 1000000) (disch := first | omega | (simp only [Z3]; omega) | (simp; done) | assumption | decide | (refine not_not_intro ?_; assumption)) only [Z1, zl, zr, zcr, zeh, eq_self, true_and, zcu, zck, zc6, zby, zbu, Heap.get_push_eq, Heap.get_push_lt, Heap.get_set_eq, Heap.get_set_ne', Heap.next_push', Heap.next_set', Heap.set_push_lt, Heap.set_push_eq, Heap.set_set, zbz, zb0, zbf, zb3, zb4, z4, zbh, zb5, zbq, zbe, zbv, zbw, zbo, zbx, List.set_cons_zero, List.set_cons_succ, List.length_cons, List.length_nil, List.drop_succ_cons, List.drop_zero, List.take_succ_cons, List.take_zero, List.nil_append, List.cons_append, splice, zbb, zbc, z0, zq, zm, zbd, zb1, zbg, zc8, zcm, zb2, zb8, zx, zo, z9, Option.map_some, zb6, zbn, z6, zbi, zbj, zbk, z5, zbl, zbm, zmg, g2, hlen, zrb, a1, c1', r1, zbut])
      refine zbha (i := 0) (ys := [x]) st2 rfl rfl (by rfl) (zbz6 x) rfl (by omega) (by omega) fun w2 H3 st3 => ?_
      (try simp (maxSteps := 1000000) (disch := first | omega | (simp only [Z3]; omega) | (simp; done) | assumption | decide | (refine not_not_intro ?_; assumption)) only [Z1, Z2, splice, zra])
      exact ⟨D.cl.length - (j + 1), by omega, j + 1, w2, rfl, by omega, by push_cast; rfl, by rw [hft]; exact st3⟩
    · rw [if_neg (by simp [hx]), List.append_nil] at hft
      (try simp (maxSteps := 1000000) (disch := first | omega | (simp only [Z3]; omega) | (simp; done) | assumption | decide | (refine not_not_intro ?_; assumption)) only [Z1, Z2, splice, zmg, g2, hlen, zrb, a1, c1', zra])
      exact ⟨D.cl.length - (j + 1), by omega, j + 1, w, rfl, by omega, by push_cast; rfl, by rw [hft]; exact st2⟩
  have hjl : j = D.cl.length := by omega
  subst hjl
  have ow := (st2.own (i := 0) rfl).isOne
  have l2 := Heap.get_lt g2
  (try simp (maxSteps := 1000000) (disch := first | omega | (simp only [Z3]; omega) | (simp; done) | assumption | decide | (refine not_not_intro ?_; assumption)) only [Z1, Z2, splice, zmg, g2, hlen, zzl, ow])
  have st3 := st2.set (i := 1) rfl [uv, i64 D.idle, i64 (D.frame + 1), w, sv', i64 D.lc, i64 D.ls]
  have e1 : ((D.cl.map (zgb D.us)).take D.cl.length).filter (fun c => decide (D.frame + 1 - c.frame < 10)) = (zwk D).cl.map (zgb D.us) := by
    rw [List.take_of_length_le (by simp), zbgn]
    rfl
  rw [e1] at st3
  have st3' := zboy st3
  generalize H2.set r (some (.cells true [uv, i64 D.idle, i64 (D.frame + 1), w, sv', i64 D.lc, i64 D.ls])) = H3 at *
  clear st3
  refine zbt (Inv := fun k vs H' => ∃ (j : Nat) (y : V), k = D.sl.length - j ∧ j ≤ D.sl.length ∧ vs = [ptr r 0, y, i64 j] ∧ Hp H0 H' (own y (((D.sl.map (zd6 D.us)).take j).filter fun c => decide (D.frame + 1 - c.frame < D.idle)) :: cel r [uv, i64 D.idle, i64 (D.frame + 1), w, sv', i64 D.lc, i64 D.ls] :: own w ((zwk D).cl.map (zgb D.us)) :: own sv' (D.sl.map (zd6 D.us)) :: L)) (n := D.sl.length) (by unfold zcc; omega)
    ⟨0, _, by omega, by omega, rfl, st3'.nilo⟩ ?_
  rintro k vs H4 ⟨j, y, hk, hj, rfl, st4⟩
  have g4 := st4.get (i := 1) rfl
  have o4 := st4.own (i := 3) rfl
  have hlen4 := o4.len
  rw [List.length_map] at hlen4
  by_cases hlt : j < D.sl.length
  case pos =>
    have hlm : j < (D.sl.map (zd6 D.us)).length := by simpa using hlt
    have a1 := o4.sl.addr' (n := 5) rfl (k := .i64) (i := (j : Int)) (by omega) (by omega)
    have c1 := o4.sl.cell' (n := 5) rfl (i := j) (off := 3) hlm (by omega) default
    have r1 := fun Q => o4.sl.ldn' (Q := Q) (n := 5) rfl hlm default
    rw [Int.toNat_natCast] at a1
    rw [zl] at c1
    have hft := zbgm (p := fun c : Rse => decide (D.frame + 1 - c.frame < D.idle)) (d := default) hlm
    have hfl : (((D.sl.map (zd6 D.us)).take j).filter fun c => decide (D.frame + 1 - c.frame < D.idle)).length ≤ 8 := by
      have := List.length_filter_le (fun c : Rse => decide (D.frame + 1 - c.frame < D.idle)) ((D.sl.map (zd6 D.us)).take j)
      rw [List.length_take] at this; omega
    have hfrx : 0 ≤ ((D.sl.map (zd6 D.us)).getD j default).frame ∧ ((D.sl.map (zd6 D.us)).getD j default).frame ≤ D.frame := by
      rw [zkc (d' := default) hlt]
      have := ok.sk _ (zdx (d := default) hlt)
      exact ⟨this.2.2.2.2.2.2.1, this.2.2.2.2.2.2.2⟩
    generalize (D.sl.map (zd6 D.us)).getD j default = x at *
    have c1' : zlr (H4.get (slB sv')) (slO sv' + j * 5 + 3) = some (i64 x.frame) := c1
    by_cases hx : D.frame + 1 - x.frame < D.idle
    · rw [if_pos (decide_eq_true hx)] at hft
      (try simp (maxSteps := 1000000) (disch := first | omega | (simp only [Z3]; omega) | (simp; done) | assumption | decide | (refine not_not_intro ?_; assumption)) only [Z1, zl, zr, zcr, zeh, eq_self, true_and, zcu, zck, zc6, zby, zbu, Heap.get_push_eq, Heap.get_push_lt, Heap.get_set_eq, Heap.get_set_ne', Heap.next_push', Heap.next_set', Heap.set_push_lt, Heap.set_push_eq, Heap.set_set, zbz, zb0, zbf, zb3, zb4, z4, zbh, zb5, zbq, zbe, zbv, zbw, zbo, zbx, List.set_cons_zero, List.set_cons_succ, List.length_cons, List.length_nil, List.drop_succ_cons, List.drop_zero, List.take_succ_cons, List.take_zero, List.nil_append, List.cons_append, splice, zbb, zbc, z0, zq, zm, zbd, zb1, zbg, zc8, zcm, zb2, zb8, zx, zo, z9, Option.map_some, zb6, zbn, z6, zbi, zbj, zbk, z5, zbl, zbm, zmh, g4, hlen4, zrd, a1, c1', r1, zbuu])
      refine zbha (i := 0) (ys := [x]) st4 rfl rfl (by rfl) (zbz7 x) rfl (by omega) (by omega) fun w2 H5 st5 => ?_
      (try simp (maxSteps := 1000000) (disch := first | omega | (simp only [Z3]; omega) | (simp; done) | assumption | decide | (refine not_not_intro ?_; assumption)) only [Z1, Z2, splice, zrc])
      exact ⟨D.sl.length - (j + 1), by omega, j + 1, w2, rfl, by omega, by push_cast; rfl, by rw [hft]; exact st5⟩
    · rw [if_neg (by simp [hx]), List.append_nil] at hft
      (try simp (maxSteps := 1000000) (disch := first | omega | (simp only [Z3]; omega) | (simp; done) | assumption | decide | (refine not_not_intro ?_; assumption)) only [Z1, Z2, splice, zmh, g4, hlen4, zrd, a1, c1', zrc])
      exact ⟨D.sl.length - (j + 1), by omega, j + 1, y, rfl, by omega, by push_cast; rfl, by rw [hft]; exact st4⟩
  have hjl : j = D.sl.length := by omega
  subst hjl
  have ow4 := (st4.own (i := 0) rfl).isOne
  have l4 := Heap.get_lt g4
  (try simp (maxSteps := 1000000) (disch := first | omega | (simp only [Z3]; omega) | (simp; done) | assumption | decide | (refine not_not_intro ?_; assumption)) only [Z1, Z2, splice, zmh, g4, hlen4, zzk, ow4])
  have st5 := st4.set (i := 1) rfl [uv, i64 D.idle, i64 (D.frame + 1), w, y, i64 D.lc, i64 D.ls]
  have e2 : ((D.sl.map (zd6 D.us)).take D.sl.length).filter (fun c => decide (D.frame + 1 - c.frame < D.idle)) = (zwk D).sl.map (zd6 D.us) := by
    rw [List.take_of_length_le (by simp), zbgn]
    rfl
  rw [e2] at st5
  exact hQ _ ⟨_, _, zboz st5⟩
theorem zbo0 {H0 H : Heap} {r : Nat} {D : Dk} {uv : V} {L : List Thing} {n : Int} (h : ze0 H0 H r D uv L) (ok : D.Ok n) (Q : V → Heap → Prop)
    (hQ : ∀ w H', zcj H' w (D.sl.map (·.1)) → Keeps [] H H' → Q w H') : wp (zfl [ptr r 0]) Q H := by
  show wp (zjg (ptr r 0)) Q H
  obtain ⟨cv, sv', st⟩ := h
  have hsl := ok.sl
  have g0 := st.get (i := 0) rfl
  have o0 := st.own (i := 2) rfl
  (try simp (maxSteps := 1000000) (disch := first | omega | (simp only [Z3]; omega) | (simp; done) | assumption | decide | (refine not_not_intro ?_; assumption)) only [Z1, Z2, splice, zjg])
  refine zbt (Inv := fun k vs H' => ∃ (j : Nat) (w : V), k = D.sl.length - j ∧ j ≤ D.sl.length ∧ vs = [ptr r 0, w, i64 j] ∧ Hp H H' [own w ((D.sl.take j).map (·.1))]) (n := D.sl.length) (by unfold zcc; omega)
    ⟨0, _, by omega, by omega, rfl, (Hp.start H).nilo⟩ ?_
  rintro k vs H2 ⟨j, w, hk, hj, rfl, st2⟩
  have g2 := st2.keeps.get g0 (by simp)
  have o2 := o0.keep0 st2.keeps
  have hlen := o2.len
  rw [List.length_map] at hlen
  by_cases hlt : j < D.sl.length
  case pos =>
    have hlm : j < (D.sl.map (zd6 D.us)).length := by simpa using hlt
    have a1 := o2.sl.addr' (n := 5) rfl (k := .i64) (i := (j : Int)) (by omega) (by omega)
    have c1 := o2.sl.cell' (n := 5) rfl (i := j) (off := 0) hlm (by omega) default
    rw [Int.toNat_natCast] at a1
    rw [zl, Nat.add_zero, zkc (d' := default) hlt] at c1
    have c1' : zlr (H2.get (slB sv')) (slO sv' + j * 5) = some (i64 (D.sl.getD j default).1) := c1
    have htk : (D.sl.take (j + 1)).map (·.1) = (D.sl.take j).map (·.1) ++ [(D.sl.getD j default).1] := by
      rw [List.take_succ, List.getElem?_eq_getElem hlt, List.map_append, List.getD_eq_getElem?_getD, List.getElem?_eq_getElem hlt]; rfl
    have hfl : ((D.sl.take j).map (·.1)).length ≤ 8 := by rw [List.length_map, List.length_take]; omega
    generalize (D.sl.getD j default).1 = x at *
    (try simp (maxSteps := 1000000) (disch := first | omega | (simp only [Z3]; omega) | (simp; done) | assumption | decide | (refine not_not_intro ?_; assumption)) only [Z1, Z2, splice, zmi, g2, hlen, ztk, a1, c1'])
    refine zbha (i := 0) (ys := [x]) st2 rfl rfl (by rfl) (by rfl) rfl (by omega) (by omega) fun w2 H3 st3 => ?_
    (try simp (maxSteps := 1000000) (disch := first | omega | (simp only [Z3]; omega) | (simp; done) | assumption | decide | (refine not_not_intro ?_; assumption)) only [Z1, Z2, splice, ztj])
    exact ⟨D.sl.length - (j + 1), by omega, j + 1, w2, rfl, by omega, by push_cast; rfl, by rw [htk]; exact st3⟩
  have hjl : j = D.sl.length := by omega
  subst hjl
  (try simp (maxSteps := 1000000) (disch := first | omega | (simp only [Z3]; omega) | (simp; done) | assumption | decide | (refine not_not_intro ?_; assumption)) only [Z1, Z2, splice, zmi, g2, hlen, ztl])
  have o := st2.own (i := 0) rfl
  rw [List.take_length] at o
  exact hQ _ _ o st2.keeps
end Go.AM.Cap
