import Derived.Test.YtehhkminlafeiaaGreatDoorSeG
import Derived.Test.YtehhkminlafeiaaGreatDoorAmOpenF
set_option linter.all false
/- sess: a desk's calls: Open, Reply, Logout, Tick, Sessions -/
set_option maxHeartbeats 16000000
namespace Go.AM.Cap
open Go.AM Go.Proofs
def zlo (m : ByteArray) : Option (Int × Int × List It) := if m.size < 32 then none else if (zee (bv (body m))).2 = none then zkb (zee (bv (body m))).1 else none
def z50 (D : Dk) (i : Nat) (id : Int) (s : Se) : Dk :=
  let D1 : Dk := { D with sl := D.sl.set i (id, { s with next := s.next + 1, frame := D.frame }) }
  if s.next + 1 > 1073741824 then zbke D1 id else D1
def zgk (D : Dk) (m : ByteArray) : (Int × ByteArray × List It × Int) × Dk :=
  match zlo m with
  | none => ((0, ⟨#[]⟩, [], 3), D)
  | some (id, number, rest) =>
    match zgj (fun e : Int × Se => decide (id = e.1)) D.sl with
    | none => ((0, ⟨#[]⟩, [], 251), D)
    | some i =>
      let s := (D.sl.getD i default).2
      if (zzr s.key m).2 ≠ 0 then ((0, ⟨#[]⟩, [], (zzr s.key m).2), D)
      else if number ≠ s.next then ((0, ⟨#[]⟩, [], 250), D)
      else ((id, s.user.name, rest, 0), z50 D i id s)
theorem zbzp {D : Dk} {n : Int} (h : D.Ok n) {i : Nat} (hi : i < D.sl.length) {id : Int} (hid : (D.sl.getD i default).1 = id) : (z50 D i id (D.sl.getD i default).2).Ok n := by
  have hmem := zdx (d := default) hi
  obtain ⟨q1, q2, q3, q4, q5, q6, q7, q8⟩ := h.sk _ hmem
  have hfr := h.frame
  generalize (D.sl.getD i default) = e at *
  obtain ⟨id', s⟩ := e
  dsimp only at hid q1 q2 q3 q4 q5 q6 q7 q8 ⊢
  subst hid
  unfold z50
  dsimp only
  by_cases hn : s.next + 1 > 1073741824
  · rw [if_pos hn]
    refine ⟨h.us, h.uk, h.idle, h.frame, h.lc, h.ls, h.cl, ?_, h.ck, fun x hx => ?_⟩
    · refine Nat.le_trans (List.length_filter_le _ _) ?_
      simpa using h.sl
    · obtain ⟨hx1, hx2⟩ := List.mem_filter.1 hx
      rcases List.mem_or_eq_of_mem_set hx1 with hx1 | rfl
      · exact h.sk x hx1
      · simp at hx2
  · rw [if_neg hn]
    refine ⟨h.us, h.uk, h.idle, h.frame, h.lc, h.ls, h.cl, by simpa using h.sl, h.ck, fun x hx => ?_⟩
    rcases List.mem_or_eq_of_mem_set hx with hx1 | rfl
    · exact h.sk x hx1
    · exact ⟨q1, q2, q3, q4, by dsimp only; omega, by dsimp only; omega, hfr.1, Int.le_refl _⟩
theorem zbri {D : Dk} {n : Int} (h : D.Ok n) (m : ByteArray) : (zgk D m).2.Ok (n + 1) := by
  unfold zgk
  cases zlo m with
  | none => exact h.mono (by omega)
  | some p =>
    obtain ⟨id, number, rest⟩ := p
    dsimp only
    cases hf : zgj (fun e : Int × Se => decide (id = e.1)) D.sl with
    | none => exact h.mono (by omega)
    | some i =>
      dsimp only
      obtain ⟨hi, hp, _⟩ := zey (d := default) hf
      have hid := (of_decide_eq_true hp).symm
      split
      · exact h.mono (by omega)
      · split
        · exact h.mono (by omega)
        · exact (zbzp h hi hid).mono (by omega)
theorem zbfh {α : Type} {l : List α} {i : Nat} {x d : α} (hi : i < l.length) (h : l.getD i d = x) : l.set i x = l := by
  subst h; rw [List.getD_eq_getElem?_getD, List.getElem?_eq_getElem hi]; simp
theorem zkc {α β : Type} {f : α → β} {l : List α} {i : Nat} {d : β} {d' : α} (hi : i < l.length) : (l.map f).getD i d = f (l.getD i d') := by
  rw [List.getD_eq_getElem?_getD, List.getD_eq_getElem?_getD, List.getElem?_map, List.getElem?_eq_getElem hi]
  rfl
theorem zbrj {s : ByteArray} (h : 32 ≤ s.size) (h2 : s.size ≤ 1048576) : zp0 (.string s) none (some (i64 ((s.size : Int) - 32))) = some (.string (body s)) := by
  rw [zbca (by omega) (by omega)]
  unfold body
  rw [show ((s.size : Int) - 32).toNat = s.size - 32 from by omega]
set_option maxRecDepth 20000 in
theorem zboo {H0 H : Heap} {d : Nat} {D : Dk} {L : List Thing} {n : Int} (hb : Base H0) (hT : Tok H0) (h : zim H0 H d D L) (ok : D.Ok n) (hn : n ≤ 1000000) (m : ByteArray) (hm : m.size ≤ 1048576) (Q : V → Heap → Prop)
    (hQ : ∀ w H', zim H0 H' d (zgk D m).2 (view w (zgk D m).1.2.2.1 :: L) → Q (.tuple #[i64 (zgk D m).1.1, .string (zgk D m).1.2.1, w, i64 (zgk D m).1.2.2.2]) H') : wp (zed asF [ptr d 0, .string m]) Q H := by
  show wp (zlk asF (ptr d 0) (.string m)) Q H
  obtain ⟨uv, icv, cv, isv, sv', st⟩ := h
  have hbad : ∀ H' e, Keeps [] H H' → zgk D m = ((0, ⟨#[]⟩, [], e), D) → Q (.tuple #[i64 0, .string ⟨#[]⟩, .slice none 0 0, i64 e]) H' := fun H' e hk q => by
    rw [q] at hQ
    have st1 := (st.keep0 hk).add (Keeps.refl _ _) (t := view (.slice none 0 0) ([] : List It)) (Sl.nil _) (by simp [view])
    exact hQ _ H' ⟨_, _, _, _, _, Hp.rotN [] [_] [_, _, _, _, _, _] st1⟩
  by_cases hsz : m.size < 32
  · have hsz' : ((m.size : Int) < 32) := by omega
    (try simp (maxSteps := 1000000) (disch := first | omega | (simp only [Z3]; omega) | (simp; done) | assumption | decide | (refine not_not_intro ?_; assumption)) only [Z1, Z2, splice, zlk])
    exact hbad _ _ (Keeps.refl _ _) (by unfold zgk zlo; rw [if_pos hsz])
  have hsz' : ¬ ((m.size : Int) < 32) := by omega
  have hsub := zbrj (s := m) (by omega) hm
  (try simp (maxSteps := 1000000) (disch := first | omega | (simp only [Z3]; omega) | (simp; done) | assumption | decide | (refine not_not_intro ?_; assumption)) only [Z1, Z2, splice, zlk, z0v, hsub])
  refine zb2y (hT.keep0 st.keeps) _ _ fun w H2 k2 o2 f2 => ?_
  have hsays : zlo m = if (zee (bv (body m))).2 = none then zkb (zee (bv (body m))).1 else none := by unfold zlo; rw [if_neg hsz]
  generalize bv (body m) = bs at *
  have k3 : Keeps [] H2 (H2.push (some (.cells true [i64 (zdz (zee bs).2).1, i64 (zdz (zee bs).2).2]))) := Keeps.push _ _ _
  have g3 : (H2.push (some (.cells true [i64 (zdz (zee bs).2).1, i64 (zdz (zee bs).2).2]))).get H2.next = some (.cells true [i64 (zdz (zee bs).2).1, i64 (zdz (zee bs).2).2]) := Heap.get_push_self _ _
  have k03 := k2.trans k3 (by simp)
  have o3 := o2.keep0 k3
  (try simp (maxSteps := 1000000) (disch := first | omega | (simp only [Z3]; omega) | (simp; done) | assumption | decide | (refine not_not_intro ?_; assumption)) only [Z1, zl, zr, zcr, zeh, eq_self, true_and, zcu, zck, zf0, zc6, zby, zbu, Heap.get_set_eq, Heap.get_set_ne', Heap.next_push', Heap.next_set', Heap.set_push_lt, Heap.set_push_eq, Heap.set_set, zbz, zb0, zbf, zb3, zb4, z4, zbh, zb5, zbq, zbe, zbv, zbw, zbo, zbx, List.set_cons_zero, List.set_cons_succ, List.length_cons, List.length_nil, List.drop_succ_cons, List.drop_zero, List.take_succ_cons, List.take_zero, List.nil_append, List.cons_append, splice, zbb, zbc, z0, zq, zm, zbd, zb1, zbg, zc8, zcm, zb2, zb8, zx, zo, z9, Option.map_some, zb6, zbn, z6, zbi, zbj, zbk, z5, zbl, zbm])
  generalize H2.push (some (.cells true [i64 (zdz (zee bs).2).1, i64 (zdz (zee bs).2).2])) = H3 at *
  have hz : ((zdz (zee bs).2).1 = 0 ∧ (zdz (zee bs).2).2 = 0) ↔ (zee bs).2 = none := by
    rw [← zbze]
    exact ⟨fun q => Prod.ext q.1 q.2, fun q => by rw [q]; exact ⟨rfl, rfl⟩⟩
  generalize zdz (zee bs).2 = f at *
  obtain ⟨f1, f2'⟩ := f
  dsimp only at hz g3
  refine zbth o3.sl _ (fun H4 k4 hnn => ?_) (fun y H4 a b r k4 hnn hs4 hv4 => ?_)
  · have g4 := k4.get g3 (by simp)
    have hno : zlo m = none := by
      rw [hsays]
      split
      · exact hnn
      · rfl
    have hq := hbad H4 3 (k03.trans k4 (by simp)) (by unfold zgk; rw [hno])
    by_cases hf : f1 = 0 ∧ f2' = 0
    · (try simp (maxSteps := 1000000) (disch := first | omega | (simp only [Z3]; omega) | (simp; done) | assumption | decide | (refine not_not_intro ?_; assumption)) only [Z1, Z2, splice, g4, zbok, z8v, decide_eq_true hf, Bool.not_true])
      exact hq
    · (try simp (maxSteps := 1000000) (disch := first | omega | (simp only [Z3]; omega) | (simp; done) | assumption | decide | (refine not_not_intro ?_; assumption)) only [Z1, Z2, splice, g4, zbok, z8v, decide_eq_false hf, Bool.not_false])
      exact hq
  have g4 := k4.get g3 (by simp)
  by_cases hf : f1 = 0 ∧ f2' = 0
  case neg =>
    have hno : zlo m = none := by rw [hsays, if_neg (fun q => hf (hz.2 q))]
    have hq := hbad H4 3 (k03.trans k4 (by simp)) (by unfold zgk; rw [hno])
    (try simp (maxSteps := 1000000) (disch := first | omega | (simp only [Z3]; omega) | (simp; done) | assumption | decide | (refine not_not_intro ?_; assumption)) only [Z1, Z2, splice, g4, zbok, z8v, decide_eq_false hf, Bool.not_false])
    exact hq
  have hyes : zlo m = some (a, b, r) := by rw [hsays, if_pos (hz.1 hf), hnn]
  have hvw : ∀ x ∈ vb y, H.next ≤ x := fun x hx => f2 x (hv4 x hx)
  have hs4' : (view y r).P H4 := hs4
  have st4 : Hp H0 H4 (view y r :: _) := st.add (k03.trans k4 (by simp)) hs4' hvw
  have st5 := Hp.rotN [] [_] [_, _, _, _, _, _] st4
  have k04 := k03.trans k4 (by simp)
  (try simp (maxSteps := 1000000) (disch := first | omega | (simp only [Z3]; omega) | (simp; done) | assumption | decide | (refine not_not_intro ?_; assumption)) only [Z1, Z2, splice, g4, zbok, z8v, decide_eq_true hf, Bool.not_true, z0u])
  have hsl := ok.sl
  refine zbkc (z8c st5) hsl a _ (fun hi => ?_) (fun i hi => ?_)
  · have hq := hbad H4 251 k04 (by unfold zgk; rw [hyes]; dsimp only; rw [hi])
    (try simp (maxSteps := 1000000) (disch := first | omega | (simp only [Z3]; omega) | (simp; done) | assumption | decide | (refine not_not_intro ?_; assumption)) only [Z1, Z2, splice])
    exact hq
  obtain ⟨hil, hp, _⟩ := zey (d := default) hi
  have hida := (of_decide_eq_true hp).symm
  have hmem := zdx (d := default) hil
  obtain ⟨q1, q2, q3, q4, q5, q6, q7, q8⟩ := ok.sk _ hmem
  have e2 : (D.sl.map (·.2)).getD i default = (D.sl.getD i default).2 := by
    rw [List.getD_eq_getElem?_getD, List.getD_eq_getElem?_getD, List.getElem?_map, List.getElem?_eq_getElem hil]
    rfl
  have hlm : i < (D.sl.map (·.2)).length := by simpa using hil
  generalize hs : (D.sl.getD i default).2 = s at *
  have fld : ∀ {K : Heap} {M : List Thing} {off : Nat}, Hp H0 K M → M[5]? = some (own sv' (D.sl.map (·.2))) → off < 6 → zlr (K.get (slB sv')) (slO sv' + i * 6 + off) = (Flat.enc s)[off]? := fun hst hM ho => by
    have := (hst.own hM).sl.cell' (n := 6) rfl hlm ho default
    rw [zl, e2] at this
    exact this
  have c3 := fld (off := 3) st5 rfl (by omega)
  rw [show (Flat.enc s)[3]? = some (.string s.key) from rfl] at c3
  (try simp (maxSteps := 1000000) (disch := first | omega | (simp only [Z3]; omega) | (simp; done) | assumption | decide | (refine not_not_intro ?_; assumption)) only [Z1, Z2, splice, z0t, c3])
  refine zbqv H4 s.key m (by omega) (by omega) (hb.keep st5.keeps) _ fun H5 k5 => ?_
  have st6 := st5.keep0 k5
  by_cases ho : (zzr s.key m).2 = 0
  case neg =>
    have hq := hbad H5 (zzr s.key m).2 (k04.trans k5 (by simp)) (by unfold zgk; rw [hyes]; dsimp only; rw [hi]; dsimp only; rw [hs, if_pos ho])
    (try simp (maxSteps := 1000000) (disch := first | omega | (simp only [Z3]; omega) | (simp; done) | assumption | decide | (refine not_not_intro ?_; assumption)) only [Z1, Z2, splice])
    exact hq
  have c4 := fld (off := 4) st6 rfl (by omega)
  rw [show (Flat.enc s)[4]? = some (i64 s.next) from rfl] at c4
  have c0 := fld (off := 0) st6 rfl (by omega)
  rw [ho]
  (try simp (maxSteps := 1000000) (disch := first | omega | (simp only [Z3]; omega) | (simp; done) | assumption | decide | (refine not_not_intro ?_; assumption)) only [Z1, Z2, splice, z0s, c4])
  by_cases hnx : b = s.next
  case neg =>
    have hq := hbad H5 250 (k04.trans k5 (by simp)) (by unfold zgk; rw [hyes]; dsimp only; rw [hi]; dsimp only; rw [hs, if_neg (by simp [ho]), if_pos hnx])
    (try simp (maxSteps := 1000000) (disch := first | omega | (simp only [Z3]; omega) | (simp; done) | assumption | decide | (refine not_not_intro ?_; assumption)) only [Z1, Z2, splice])
    exact hq
  have hspec : zgk D m = ((a, s.user.name, r, 0), z50 D i a s) := by unfold zgk; rw [hyes]; dsimp only; rw [hi]; dsimp only; rw [hs, if_neg (by simp [ho]), if_neg (by simp [hnx])]
  rw [hspec] at hQ
  (try simp (maxSteps := 1000000) (disch := first | omega | (simp only [Z3]; omega) | (simp; done) | assumption | decide | (refine not_not_intro ?_; assumption)) only [Z1, zl, zr, zeh, eq_self, true_and, zcu, zck, zf0, zc6, zby, zbu, Heap.get_push_eq, Heap.get_push_lt, Heap.get_set_eq, Heap.get_set_ne', Heap.next_push', Heap.next_set', Heap.set_push_lt, Heap.set_push_eq, Heap.set_set, zbz, zb0, zbf, zb3, zb4, z4, zbh, zb5, zbq, zbe, zbv, zbw, zbo, zbx, List.set_cons_zero, List.set_cons_succ, List.length_cons, List.length_nil, List.drop_succ_cons, List.drop_zero, List.take_succ_cons, List.take_zero, List.nil_append, List.cons_append, splice, zbb, zbc, z0, zq, zm, zbd, zb1, zbg, zc8, zcm, zb2, zb8, zx, zo, z9, Option.map_some, zb6, zbn, z6, zbi, zbj, zbk, z5, zbl, zbm, z0r, c4])
  refine zbye (idx := 5) (off := 4) (n := 6) (x' := ({ s with next := s.next + 1 } : Se)) (d := default) st6 rfl rfl hlm (by omega) rfl (by rw [e2]; rfl) fun H6 st7 => ?_
  have g7 := st7.get (i := 0) rfl
  (try simp (maxSteps := 1000000) (disch := first | omega | (simp only [Z3]; omega) | (simp; done) | assumption | decide | (refine not_not_intro ?_; assumption)) only [Z1, zl, zr, zeh, eq_self, true_and, zcu, zck, zf0, zc6, zby, zbu, Heap.get_push_eq, Heap.get_push_lt, Heap.get_set_eq, Heap.get_set_ne', Heap.next_push', Heap.next_set', Heap.set_push_lt, Heap.set_push_eq, Heap.set_set, zbz, zb0, zbf, zb3, zb4, z4, zbh, zb5, zbq, zbe, zbv, zbw, zbo, zbx, List.set_cons_zero, List.set_cons_succ, List.length_cons, List.length_nil, List.drop_succ_cons, List.drop_zero, List.take_succ_cons, List.take_zero, List.nil_append, List.cons_append, splice, zbb, zbc, z0, zq, zm, zbd, zb1, zbg, zc8, zcm, zb2, zb8, zx, zo, z9, Option.map_some, zb6, zbn, z6, zbi, zbj, zbk, z5, zbl, zbm, g7])
  have e7 : ((D.sl.map (·.2)).set i { s with next := s.next + 1 }).getD i default = { s with next := s.next + 1 } := by
    rw [List.getD_eq_getElem?_getD, List.getElem?_set_self hlm]; rfl
  refine zbye (idx := 5) (off := 5) (n := 6) (x' := ({ s with next := s.next + 1, frame := D.frame } : Se)) (d := default) st7 rfl rfl (by simpa using hlm) (by omega) rfl (by rw [e7]; rfl) fun H7 st8 => ?_
  generalize hs2 : ({ s with next := s.next + 1, frame := D.frame } : Se) = s2 at *
  have m1 : (D.sl.set i (a, s2)).map (·.1) = D.sl.map (·.1) := by
    rw [List.map_set]
    exact zbfh (d := 0) (by simpa using hil) (by rw [zkc (d' := default) hil]; exact hida)
  have m2 : (D.sl.set i (a, s2)).map (·.2) = ((D.sl.map (·.2)).set i { s with next := s.next + 1 }).set i s2 := by rw [List.map_set, List.set_set]
  have st9 : Hp H0 H7 (cel d [uv, i64 D.idle, i64 D.frame, i64 D.lc, icv, cv, i64 D.ls, isv, sv'] :: own uv D.us :: own icv (D.cl.map (·.1)) :: own cv (D.cl.map (·.2)) :: own isv ((D.sl.set i (a, s2)).map (·.1)) :: own sv' ((D.sl.set i (a, s2)).map (·.2)) :: view y r :: L) := by
    rw [m1, m2]; exact st8
  have fld2 : ∀ {off : Nat}, off < 6 → zlr (H7.get (slB sv')) (slO sv' + i * 6 + off) = (Flat.enc s2)[off]? := fun ho => by
    have := (st9.own (i := 5) rfl).sl.cell' (n := 6) rfl (i := i) (by simpa using hil) ho default
    rw [zl, zkc (d' := default) (by simpa using hil), List.getD_eq_getElem?_getD, List.getElem?_set_self hil] at this
    exact this
  have n0 := fld2 (off := 0) (by omega)
  have n4 := fld2 (off := 4) (by omega)
  rw [show (Flat.enc s2)[0]? = some (.string s.user.name) from by rw [← hs2]; rfl, Nat.add_zero] at n0
  rw [show (Flat.enc s2)[4]? = some (i64 (s.next + 1)) from by rw [← hs2]; rfl] at n4
  have husd : z50 D i a s = if s.next + 1 > 1073741824 then zbke { D with sl := D.sl.set i (a, s2) } a else { D with sl := D.sl.set i (a, s2) } := by rw [← hs2]; rfl
  by_cases hbig : s.next + 1 > 1073741824
  · rw [if_pos hbig] at husd
    (try simp (maxSteps := 1000000) (disch := first | omega | (simp only [Z3]; omega) | (simp; done) | assumption | decide | (refine not_not_intro ?_; assumption)) only [Z1, Z2, splice, n0, n4])
    refine zbmj (z8c st9) (by simpa using hsl) (fun e he => ?_) a _ fun w3 w5 H8 st10 => ?_
    · rcases List.mem_or_eq_of_mem_set he with he | rfl
      · exact (ok.uk _ (ok.sk e he).1).2
      · rw [← hs2]; exact (ok.uk _ q1).2
    (try simp (maxSteps := 1000000) (disch := first | omega | (simp only [Z3]; omega) | (simp; done) | assumption | decide | (refine not_not_intro ?_; assumption)) only [Z1, Z2, splice, zta])
    refine hQ y H8 ?_
    rw [husd]
    exact ⟨_, _, _, _, _, zbea st10⟩
  · rw [if_neg hbig] at husd
    (try simp (maxSteps := 1000000) (disch := first | omega | (simp only [Z3]; omega) | (simp; done) | assumption | decide | (refine not_not_intro ?_; assumption)) only [Z1, Z2, splice, n0, n4, zta])
    refine hQ y H7 ?_
    rw [husd]
    exact ⟨_, _, _, _, _, st9⟩
end Go.AM.Cap
