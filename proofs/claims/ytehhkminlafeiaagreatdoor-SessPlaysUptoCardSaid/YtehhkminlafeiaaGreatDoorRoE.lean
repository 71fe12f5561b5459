import Derived.Test.YtehhkminlafeiaaGreatDoorSeH
import Derived.Test.YtehhkminlafeiaaGreatDoorAmOpenF
import Derived.Test.YtehhkminlafeiaaGreatDoorRoC
import Derived.KernelRfl
set_option linter.all false
/- sess: a desk's calls: Logout, Tick, Sessions, Reply -/
set_option maxHeartbeats 16000000
namespace Go.AM.Cap
open Go.AM Go.Proofs
def zqy (D : Dk) (id : Int) : Int × Dk := match zgj (fun e : Int × Se => decide (id = e.1)) D.sl with
  | none => (251, D)
  | some _ => (0, zbke D id)
theorem zbtk {D : Dk} {n : Int} (h : D.Ok n) (id : Int) : (zqy D id).2.Ok n := by
  unfold zqy
  split
  · exact h
  · exact zbzo h id
theorem zbwi {H0 H : Heap} {d : Nat} {D : Dk} {L : List Thing} {n : Int} (h : zim H0 H d D L) (ok : D.Ok n) (id : Int) (Q : V → Heap → Prop)
    (hQ : ∀ H', zim H0 H' d (zqy D id).2 L → Q (i64 (zqy D id).1) H') : wp (zg8 [ptr d 0, i64 id]) Q H := by
  show wp (zmd (ptr d 0) (i64 id)) Q H
  obtain ⟨uv, icv, cv, isv, sv', st⟩ := h
  have hsl := ok.sl
  unfold zqy at hQ
  (try simp (maxSteps := 1000000) (disch := first | omega | (simp only [Z3]; omega) | (simp; done) | assumption | decide | (refine not_not_intro ?_; assumption)) only [Z1, Z2, splice, zmd])
  refine zbkc (z8c st) hsl id _ (fun hi => ?_) (fun i hi => ?_)
  · rw [hi] at hQ
    (try simp (maxSteps := 1000000) (disch := first | omega | (simp only [Z3]; omega) | (simp; done) | assumption | decide | (refine not_not_intro ?_; assumption)) only [Z1, Z2, splice])
    exact hQ _ ⟨_, _, _, _, _, st⟩
  · rw [hi] at hQ
    (try simp (maxSteps := 1000000) (disch := first | omega | (simp only [Z3]; omega) | (simp; done) | assumption | decide | (refine not_not_intro ?_; assumption)) only [Z1, Z2, splice, zwg])
    refine zbmj (z8c st) hsl (fun e he => (ok.uk _ (ok.sk e he).1).2) id _ fun w3 w5 H2 st2 => ?_
    (try simp (maxSteps := 1000000) (disch := first | omega | (simp only [Z3]; omega) | (simp; done) | assumption | decide | (refine not_not_intro ?_; assumption)) only [Z1, Z2, splice])
    exact hQ _ ⟨_, _, _, _, _, zbea st2⟩
def zwk (D : Dk) : Dk := { D with frame := D.frame + 1, cl := D.cl.filter fun e => decide (D.frame + 1 - e.2.frame < 10), sl := D.sl.filter fun e => decide (D.frame + 1 - e.2.frame < D.idle) }
theorem zbzq {D : Dk} {n : Int} (h : D.Ok n) : (zwk D).Ok (n + 1) := by
  have hfr := h.frame
  have hlc := h.lc
  have hls := h.ls
  refine ⟨h.us, h.uk, h.idle, ⟨by dsimp only [zwk]; omega, by dsimp only [zwk]; omega⟩, ⟨hlc.1, by dsimp only [zwk]; omega⟩, ⟨hls.1, by dsimp only [zwk]; omega⟩, Nat.le_trans (List.length_filter_le _ _) h.cl, Nat.le_trans (List.length_filter_le _ _) h.sl, fun c hc => ?_, fun c hc => ?_⟩
  · obtain ⟨q1, q2, q3, q4, q5, q6⟩ := h.ck c ((List.mem_filter.1 hc).1)
    exact ⟨q1, q2, q3, q4, q5, by dsimp only [zwk]; omega⟩
  · obtain ⟨q1, q2, q3, q4, q5, q6, q7, q8⟩ := h.sk c ((List.mem_filter.1 hc).1)
    exact ⟨q1, q2, q3, q4, q5, q6, q7, by dsimp only [zwk]; omega⟩
theorem zb1m {H0 H : Heap} {d : Nat} {D : Dk} {L : List Thing} {n : Int} (h : zim H0 H d D L) (ok : D.Ok n) (hn : n ≤ 1000000) (Q : V → Heap → Prop)
    (hQ : ∀ H', zim H0 H' d (zwk D) L → Q (.tuple #[]) H') : wp (zi0 [ptr d 0]) Q H := by
  show wp (zpe (ptr d 0)) Q H
  obtain ⟨uv, icv, cv, isv, sv', st⟩ := h
  have hfr := ok.frame
  have hid := ok.idle
  have stx := st.newc [ptr d 0]
  have g := stx.get (i := 1) rfl
  have gx := stx.get (i := 0) rfl
  unfold zpe
  rw [zk, zk]
  refine (zbg9 (by rfl)).mpr ?_
  have hbx : H.next < (H.push (some (.cells true [ptr d 0]))).next := by simp
  generalize hx : H.next = x at *
  generalize H.push (some (.cells true [ptr d 0])) = H1 at *
  have hdx : x ≠ d := fun q => stx.apart2 (i := 0) (j := 1) rfl rfl (by omega) x (by simp [cel]) (by simp [cel, q])
  (try simp (maxSteps := 1000000) (disch := first | omega | (simp only [Z3]; omega) | (simp; done) | assumption | decide | (refine not_not_intro ?_; assumption)) only [Z1, Z2, splice, g, gx])
  have stf := stx.set (i := 1) rfl [uv, i64 D.idle, i64 (D.frame + 1), i64 D.lc, icv, cv, i64 D.ls, isv, sv']
  generalize H1.set d (some (.cells true [uv, i64 D.idle, i64 (D.frame + 1), i64 D.lc, icv, cv, i64 D.ls, isv, sv'])) = H2 at *
  have stf' : Hp H0 H2 (cel x [ptr d 0] :: cel d [uv, i64 D.idle, i64 (D.frame + 1), i64 D.lc, icv, cv, i64 D.ls, isv, sv'] :: own uv D.us :: own icv (D.cl.map (·.1)) :: own cv (D.cl.map (·.2)) :: own isv (D.sl.map (·.1)) :: own sv' (D.sl.map (·.2)) :: L) := stf
  have st2 := zbkd (Hp.rotN [] [_] [_, _, _, _, _, _] stf')
  have gx2 := st2.get (i := 6) rfl
  have gd2 := st2.get (i := 0) rfl
  (try simp (maxSteps := 1000000) (disch := first | omega | (simp only [Z3]; omega) | (simp; done) | assumption | decide | (refine not_not_intro ?_; assumption)) only [Z1, Z2, splice, gx2])
  refine zbwe (S := ovr [(zde, ze3), (zdf, ze4)] noC) (f := .func (.func zde) #[] #[ptr x 0]) st2 ok.cl (fun e he => (ok.uk _ (ok.ck e he).1).2) (fun _ c => decide (IntKind.i64.wrap (D.frame + 1 - c.frame) < 10)) (fun H3 i c Q' k3 hq => ?_) _ fun w3 w5 H3 st3 => ?_
  · show wp (zme (i64 i) (.agg (Flat.enc c).toArray) (ptr x 0)) Q' H3
    have ho := zbbg c
    have gx3 := k3.get gx2 (by simp)
    have gd3 := k3.get gd2 (by simp)
    have l1 := Heap.get_lt gx3
    have l2 := Heap.get_lt gd3
    (try simp (maxSteps := 1000000) (disch := first | omega | (simp only [Z3]; omega) | (simp; done) | assumption | decide | (refine not_not_intro ?_; assumption)) only [Z1, Z2, splice, zme, zbff, gx3, gd3])
    exact hq _ (Keeps.push _ _ _)
  have gx3 := st3.get (i := 6) rfl
  have gd3 := st3.get (i := 0) rfl
  have st3' := z8c (z8x st3)
  (try simp (maxSteps := 1000000) (disch := first | omega | (simp only [Z3]; omega) | (simp; done) | assumption | decide | (refine not_not_intro ?_; assumption)) only [Z1, Z2, splice, gx3])
  refine zbwh (S := ovr [(zde, ze3), (zdf, ze4)] noC) (f := .func (.func zdf) #[] #[ptr x 0]) st3' ok.sl (fun e he => (ok.uk _ (ok.sk e he).1).2) (fun _ c => decide (IntKind.i64.wrap (D.frame + 1 - c.frame) < D.idle)) (fun H4 i c Q' k4 hq => ?_) _ fun w7 w9 H4 st4 => ?_
  · show wp (zmf (i64 i) (.agg (Flat.enc c).toArray) (ptr x 0)) Q' H4
    have ho := zbfg c
    have gx4 := k4.get gx3 (by simp)
    have gd4 := k4.get gd3 (by simp)
    have l1 := Heap.get_lt gx4
    have l2 := Heap.get_lt gd4
    (try simp (maxSteps := 1000000) (disch := first | omega | (simp only [Z3]; omega) | (simp; done) | assumption | decide | (refine not_not_intro ?_; assumption)) only [Z1, Z2, splice, zmf, zbj9, gx4, gd4])
    exact hq _ (Keeps.push _ _ _)
  (try simp (maxSteps := 1000000) (disch := first | omega | (simp only [Z3]; omega) | (simp; done) | assumption | decide | (refine not_not_intro ?_; assumption)) only [Z1, Z2, splice])
  refine hQ _ ⟨uv, w3, w5, w7, w9, ?_⟩
  have f1 : (D.cl.filter fun e => decide (IntKind.i64.wrap (D.frame + 1 - e.2.frame) < 10)) = (zwk D).cl := List.filter_congr fun e he => by
    have := ok.ck e he
    rw [i64_in (by omega) (by omega)]
  have f2 : (D.sl.filter fun e => decide (IntKind.i64.wrap (D.frame + 1 - e.2.frame) < D.idle)) = (zwk D).sl := List.filter_congr fun e he => by
    have := ok.sk e he
    rw [i64_in (by omega) (by omega)]
  rw [← f1, ← f2]
  exact zbon (zbea st4)
theorem zbwj {H : Heap} {v : V} {l : List Int} (h : Sl H v l) (hl : l.length ≤ 1000) (Q : V → Heap → Prop) (hQ : ∀ w H', zcj H' w l → Keeps [] H H' → (∀ b ∈ vb w, H.next ≤ b) → Q w H') : wp (zfp [v]) Q H := by
  show wp (zfo v) Q H
  by_cases hn : v = .slice none 0 0
  · subst hn
    have hl0 : l = [] := by
      rcases h with ⟨_, rfl⟩ | ⟨b, o, u, c, e, _⟩
      · rfl
      · cases e
    subst hl0
    have e : zia false (isNil .s (Value.slice none 0 0 : V)) = some (.bool true) := rfl
    (try simp (maxSteps := 1000000) (disch := first | omega | (simp only [Z3]; omega) | (simp; done) | assumption | decide | (refine not_not_intro ?_; assumption)) only [Z1, Z2, splice, zfo, e])
    exact hQ _ H (zcj.nil _) (Keeps.refl _ _) (by simp)
  · have e : zia false (isNil .s v) = some (.bool false) := by
      rcases h with ⟨rfl, _⟩ | ⟨b, o, u, c, rfl, _⟩
      · exact absurd rfl hn
      · rfl
    (try simp (maxSteps := 1000000) (disch := first | omega | (simp only [Z3]; omega) | (simp; done) | assumption | decide | (refine not_not_intro ?_; assumption)) only [Z1, Z2, splice, zfo, e, zpq])
    refine (zgv (cs := zba ([] : List Int)) (by rfl) (by rfl)).mpr ?_
    have k1 : Keeps [] H (H.push (some (.cells true (zba ([] : List Int))))) := Keeps.push _ _ _
    have o1 := zd1 (H := H) (xs := ([] : List Int)) (n := 1) (m := 0) rfl rfl
    have n1 : (H.push (some (.cells true (zba ([] : List Int))))).next = H.next + 1 := by simp
    generalize H.push (some (.cells true (zba ([] : List Int)))) = H1 at *
    (try simp (maxSteps := 1000000) (disch := first | omega | (simp only [Z3]; omega) | (simp; done) | assumption | decide | (refine not_not_intro ?_; assumption)) only [Z1, Z2, splice])
    refine zfk (α := Int) rfl o1 (h.keep0 k1) (by simp; omega) (by simp; omega) fun w H2 o2 k2 v2 => ?_
    rw [List.nil_append] at o2
    (try simp (maxSteps := 1000000) (disch := first | omega | (simp only [Z3]; omega) | (simp; done) | assumption | decide | (refine not_not_intro ?_; assumption)) only [Z1, Z2, splice])
    refine hQ w H2 o2 (k1.trans k2 fun b hb hm => by simp at hm; omega) fun b hb => ?_
    rcases v2 b hb with q | q
    · simp at q; omega
    · omega
theorem zbrk {H0 H : Heap} {d : Nat} {D : Dk} {L : List Thing} {n : Int} (h : zim H0 H d D L) (ok : D.Ok n) (Q : V → Heap → Prop)
    (hQ : ∀ w H', zim H0 H' d D (own w (D.sl.map (·.1)) :: L) → Q w H') : wp (zfz [ptr d 0]) Q H := by
  show wp (zka (ptr d 0)) Q H
  obtain ⟨uv, icv, cv, isv, sv', st⟩ := h
  have hsl := ok.sl
  have g := st.get (i := 0) rfl
  (try simp (maxSteps := 1000000) (disch := first | omega | (simp only [Z3]; omega) | (simp; done) | assumption | decide | (refine not_not_intro ?_; assumption)) only [Z1, Z2, splice, zka, g])
  refine zbwj (st.own (i := 4) rfl).sl (by simp; omega) _ fun w H1 o1 k1 v1 => ?_
  have o1' : (own w (D.sl.map (·.1))).P H1 := o1
  have st1 := st.add k1 o1' v1
  (try simp (maxSteps := 1000000) (disch := first | omega | (simp only [Z3]; omega) | (simp; done) | assumption | decide | (refine not_not_intro ?_; assumption)) only [Z1, Z2, splice])
  exact hQ w H1 ⟨_, _, _, _, _, Hp.rotN [] [_] [_, _, _, _, _, _] st1⟩
def zbfi (D : Dk) (id number : Int) (says : List It) : ByteArray × Int := match zgj (fun e : Int × Se => decide (id = e.1)) D.sl with
  | none => (⟨#[]⟩, 251)
  | some i => if number < 1 ∨ number > 1073741824 then (⟨#[]⟩, 1) else z09 (D.sl.getD i default).2.key (ztu :: zdw id :: zdw number :: says)
theorem zbeb : zef (rep 1 [Value.bool false, Value.int .i64 0, (Value.string ⟨#[]⟩ : V)]) [(0, 3, .agg (Flat.enc ztu).toArray)] = some (zba [ztu]) := by rfl
theorem zbzr {H0 H : Heap} {d : Nat} {D : Dk} {L : List Thing} {n : Int} (hb : Base H0) (h : zim H0 H d D L) (ok : D.Ok n) {v : V} {says : List It} (hs : Sl H v says) (hsl : says.length ≤ 1048576) (id number : Int) (Q : V → Heap → Prop)
    (hQ : ∀ H', Keeps [] H H' → Q (.tuple #[.string (zbfi D id number says).1, i64 (zbfi D id number says).2]) H') : wp (zh5 [ptr d 0, i64 id, i64 number, v]) Q H := by
  show wp (znk (ptr d 0) (i64 id) (i64 number) v) Q H
  obtain ⟨uv, icv, cv, isv, sv', st⟩ := h
  have hsl8 := ok.sl
  unfold zbfi at hQ
  (try simp (maxSteps := 1000000) (disch := first | omega | (simp only [Z3]; omega) | (simp; done) | assumption | decide | (refine not_not_intro ?_; assumption)) only [Z1, Z2, splice, znk])
  refine zbkc (z8c st) hsl8 id _ (fun hi => ?_) (fun i hi => ?_)
  · rw [hi] at hQ
    (try simp (maxSteps := 1000000) (disch := first | omega | (simp only [Z3]; omega) | (simp; done) | assumption | decide | (refine not_not_intro ?_; assumption)) only [Z1, Z2, splice])
    exact hQ _ (Keeps.refl _ _)
  rw [hi] at hQ
  dsimp only at hQ
  by_cases h1 : number < 1
  · rw [if_pos (by omega)] at hQ
    (try simp (maxSteps := 1000000) (disch := first | omega | (simp only [Z3]; omega) | (simp; done) | assumption | decide | (refine not_not_intro ?_; assumption)) only [Z1, Z2, splice])
    exact hQ _ (Keeps.refl _ _)
  by_cases h2 : number > 1073741824
  · rw [if_pos (by omega)] at hQ
    (try simp (maxSteps := 1000000) (disch := first | omega | (simp only [Z3]; omega) | (simp; done) | assumption | decide | (refine not_not_intro ?_; assumption)) only [Z1, Z2, splice])
    exact hQ _ (Keeps.refl _ _)
  rw [if_neg (by omega)] at hQ
  obtain ⟨hil, hp, _⟩ := zey (d := default) hi
  have hmem := zdx (d := default) hil
  obtain ⟨q1, q2, q3, q4, q5, q6, q7, q8⟩ := ok.sk _ hmem
  have e2 : (D.sl.map (·.2)).getD i default = (D.sl.getD i default).2 := by
    rw [List.getD_eq_getElem?_getD, List.getD_eq_getElem?_getD, List.getElem?_map, List.getElem?_eq_getElem hil]
    rfl
  have c3 := (st.own (i := 5) rfl).sl.cell' (n := 6) rfl (i := i) (off := 3) (by simpa using hil) (by omega) default
  rw [zl, e2] at c3
  generalize (D.sl.getD i default).2 = s at *
  rw [show (Flat.enc s)[3]? = some (.string s.key) from rfl] at c3
  (try simp (maxSteps := 1000000) (disch := first | omega | (simp only [Z3]; omega) | (simp; done) | assumption | decide | (refine not_not_intro ?_; assumption)) only [Z1, zl, zr, zcr, zeh, eq_self, true_and, zcu, zck, zf0, zc6, zby, zbu, Heap.get_push_eq, Heap.get_push_lt, Heap.get_set_eq, Heap.get_set_ne', Heap.next_push', Heap.next_set', Heap.set_push_lt, Heap.set_push_eq, Heap.set_set, zbz, zb0, zbf, zb3, zb4, z4, zbh, zb5, zbq, zbe, zbv, zbw, zbo, zbx, List.set_cons_zero, List.set_cons_succ, List.length_cons, List.length_nil, List.drop_succ_cons, List.drop_zero, List.take_succ_cons, List.take_zero, List.nil_append, List.cons_append, splice, zbb, zbc, z0, zq, zm, zbd, zb1, zbg, zc8, zcm, zb2, zx, zo, z9, Option.map_some, zb6, zbn, z6, zbi, zbj, zbk, z5, zbl, zbm, zzb, c3, zbgj])
  refine (zgv (cs := zba [ztu]) (by rfl) zbeb).mpr ?_
  have k1 : Keeps [] H (H.push (some (.cells true (zba [ztu])))) := Keeps.push _ _ _
  have o1 := zd1 (H := H) (xs := [ztu]) (n := 3) (m := 1) rfl rfl
  generalize H.push (some (.cells true (zba [ztu]))) = H1 at *
  (try simp (maxSteps := 1000000) (disch := first | omega | (simp only [Z3]; omega) | (simp; done) | assumption | decide | (refine not_not_intro ?_; assumption)) only [Z1, Z2, splice])
  refine zbmi ((hb.keep st.keeps).keep k1) s.key (by omega) o1.sl (hs.keep0 k1) (by simp) hsl id number _ fun H2 k2 => ?_
  (try simp (maxSteps := 1000000) (disch := first | omega | (simp only [Z3]; omega) | (simp; done) | assumption | decide | (refine not_not_intro ?_; assumption)) only [Z1, Z2, splice])
  exact hQ _ (k1.trans k2 (by simp))
end Go.AM.Cap

/- roles: Needs, asked, May, Aims, works -/
set_option maxHeartbeats 8000000
namespace Go.AM.Cap
open Go.AM Go.Proofs
theorem zbrl {H : Heap} {v w : V} {xs ys : List Int} (hv : Sl H v xs) (hw : Sl H w ys) (hb : xs.length ≤ 1000000000) (Q : V → Heap → Prop) (hQ : Q (.bool (decide (xs = ys))) H) : wp (zjs [v, w]) Q H := by
  show wp (zms v w) Q H
  have hl := hv.len
  have hl' := hw.len
  by_cases h0 : xs.length = ys.length
  case neg =>
    have : ¬ xs = ys := fun q => h0 (by rw [q])
    rw [decide_eq_false this] at hQ
    (try simp (maxSteps := 1000000) (disch := first | omega | (simp only [Z3]; omega) | (simp; done) | assumption | decide | (refine not_not_intro ?_; assumption)) only [Z1, Z2, splice, zms, hl, hl'])
    exact hQ
  have hi0 : ((xs.length : Nat) : Int) = (ys.length : Int) := by omega
  (try simp (maxSteps := 1000000) (disch := first | omega | (simp only [Z3]; omega) | (simp; done) | assumption | decide | (refine not_not_intro ?_; assumption)) only [Z1, Z2, splice, zms, hl, hl', z3f])
  refine zbt (Inv := fun k vs H' => ∃ (j : Nat), k = xs.length - j ∧ j ≤ xs.length ∧ vs = [v, w, i64 j] ∧ H' = H ∧ (∀ i, i < j → xs.getD i 0 = ys.getD i 0)) (n := xs.length) (by unfold zcc; omega)
    ⟨0, by omega, by omega, rfl, rfl, by omega⟩ ?_
  rintro k vs H' ⟨j, hk, hj, rfl, he, hsame⟩
  rw [he]; clear he H'
  by_cases hlt : j < xs.length
  case neg =>
    have : xs = ys := by
      apply List.ext_getElem h0
      intro i h1 h2
      have := hsame i (by omega)
      rwa [List.getD_eq_getElem?_getD, List.getElem?_eq_getElem h1, List.getD_eq_getElem?_getD, List.getElem?_eq_getElem h2] at this
    rw [decide_eq_true this] at hQ
    (try simp (maxSteps := 1000000) (disch := first | omega | (simp only [Z3]; omega) | (simp; done) | assumption | decide | (refine not_not_intro ?_; assumption)) only [Z1, Z2, splice, zpg, hl, z3e])
    exact hQ
  have a1 := hv.addr1 rfl (k := .i64) (i := j) (by omega) (by omega)
  rw [Int.toNat_natCast] at a1
  have c1 := hv.cell1 rfl hlt 0
  rw [zl] at c1
  have e1 : (Flat.enc (xs.getD j 0))[0]? = some (i64 (xs.getD j 0)) := rfl
  rw [e1] at c1
  have a2 := hw.addr1 rfl (k := .i64) (i := j) (by omega) (by omega)
  rw [Int.toNat_natCast] at a2
  have c2 := hw.cell1 rfl (show j < ys.length by omega) 0
  rw [zl] at c2
  have e2 : (Flat.enc (ys.getD j 0))[0]? = some (i64 (ys.getD j 0)) := rfl
  rw [e2] at c2
  by_cases he : xs.getD j 0 = ys.getD j 0
  · generalize hx : xs.getD j 0 = x at *
    generalize hy : ys.getD j 0 = y at *
    (try simp (maxSteps := 1000000) (disch := first | omega | (simp only [Z3]; omega) | (simp; done) | assumption | decide | (refine not_not_intro ?_; assumption)) only [Z1, Z2, splice, zpg, hl, zue, a1, a2, c1, c2, z3d])
    refine ⟨xs.length - (j + 1), by omega, j + 1, rfl, by omega, by push_cast; rfl, fun i hi => ?_⟩
    rcases Nat.lt_or_eq_of_le (Nat.lt_succ_iff.1 hi) with q | rfl
    · exact hsame i q
    · rw [hx, hy]; exact he
  · have : ¬ xs = ys := fun q => he (by rw [q])
    rw [decide_eq_false this] at hQ
    generalize xs.getD j 0 = x at *
    generalize ys.getD j 0 = y at *
    (try simp (maxSteps := 1000000) (disch := first | omega | (simp only [Z3]; omega) | (simp; done) | assumption | decide | (refine not_not_intro ?_; assumption)) only [Z1, Z2, splice, zpg, hl, zue, a1, a2, c1, c2])
    exact hQ
end Go.AM.Cap

/- roles: the plain law; works -/
set_option maxHeartbeats 8000000
namespace Go.AM.Cap
open Go.AM Go.Proofs
structure OkUs (l : List Us) (parts : Int) : Prop where
  range : 1 ≤ parts ∧ parts ≤ 8
  len : l.length ≤ 8
  each : ∀ u ∈ l, zf4 u = true ∧ ztp u.rs.xs parts = 0
  names : l.Pairwise fun u w => u.name ≠ w.name
theorem zzx {l : List Us} {n : ByteArray} : zg1 l n = none ↔ ∀ u ∈ l, u.name ≠ n := by
  unfold zg1
  rw [zrz]
  simp
theorem zbkg {parts : Int} : ∀ {r ah : List Us}, (zf5 parts ah r).2 = 0 → (∀ u ∈ r, zf4 u = true ∧ ztp u.rs.xs parts = 0) ∧ (r.Pairwise fun u w => u.name ≠ w.name) ∧ ∀ u ∈ ah, ∀ w ∈ r, u.name ≠ w.name
  | [], _, _ => ⟨fun u hu => by simp at hu, .nil, fun u _ w hw => by simp at hw⟩
  | u :: r, ah, h => by
    unfold zf5 at h
    split at h
    · rename_i h1
      split at h
      · cases h
      · rename_i h2
        split at h
        · rename_i h3
          obtain ⟨g1, g2, g3⟩ := zbkg h
          have h2' : zg1 ah u.name = none := by
            cases hq : zg1 ah u.name with
            | none => rfl
            | some i => rw [hq] at h2; exact absurd rfl h2
          rw [zzx] at h2'
          refine ⟨fun w hw => ?_, ?_, fun x hx w hw => ?_⟩
          · rcases List.mem_cons.1 hw with rfl | hw
            · exact ⟨h1, h3⟩
            · exact g1 w hw
          · exact List.pairwise_cons.2 ⟨fun w hw => g3 u (by simp) w hw, g2⟩
          · rcases List.mem_cons.1 hw with rfl | hw
            · exact h2' x hx
            · exact g3 x (by simp [hx]) w hw
        · rename_i h3; exact absurd h h3
    · cases h
theorem zbzs {l : List Us} {parts : Int} (h : (zmt l parts).2 = 0) : OkUs l parts := by
  unfold zmt at h
  split at h
  · cases h
  · rename_i h1
    split at h
    · cases h
    · rename_i h2
      obtain ⟨g1, g2, _⟩ := zbkg h
      exact ⟨by omega, by omega, g1, g2⟩
end Go.AM.Cap
