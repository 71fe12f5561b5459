import Derived.Test.YtehhkminlafeiaaGreatDoorSeT
import Derived.Test.YtehhkminlafeiaaGreatDoorAmOpenF
set_option linter.all false
/- sess: the law SessPlays -/
set_option maxHeartbeats 16000000
namespace Go.AM.Cap
open Go.AM Go.Proofs
structure Pl where
  us : In Us
  parts : Int
  idle : Int
instance : Inhabited Pl := ⟨⟨default, 0, 0⟩⟩
instance : Flat Pl := ⟨3, fun p => [p.us.v, i64 p.parts, i64 p.idle], fun _ => rfl, fun p => by simp [p.us.one], by decide⟩
theorem zb27 (p : Pl) : Flat.enc p = [p.us.v, i64 p.parts, i64 p.idle] := rfl
theorem zb28 (p : Pl) : ([p.us.v, i64 p.parts, i64 p.idle] : List V).all Value.isOne = true := by simp [p.us.one]
def fldU (u : Us) : ByteArray × ByteArray × List Rl := (u.name, u.key, u.rs.xs)
theorem zbgo {parts : Int} : ∀ {r r' ah ah' : List Us}, r.map fldU = r'.map fldU → ah.map fldU = ah'.map fldU → zf5 parts ah r = zf5 parts ah' r'
  | [], [], _, _, _, _ => rfl
  | [], _ :: _, _, _, h, _ => by cases h
  | _ :: _, [], _, _, h, _ => by cases h
  | u :: r, u' :: r', ah, ah', h, ha => by
    rw [List.map_cons, List.map_cons, List.cons.injEq] at h
    obtain ⟨h1, h2⟩ := h
    have hl : ah.length = ah'.length := by have := congrArg List.length ha; simpa using this
    have e1 : u.name = u'.name := congrArg Prod.fst h1
    have e2 : u.key = u'.key := congrArg (fun p => p.2.1) h1
    have e3 : u.rs.xs = u'.rs.xs := congrArg (fun p => p.2.2) h1
    have ef : zf4 u = zf4 u' := by unfold zf4; rw [e1, e2]
    have es : zg1 ah u.name = zg1 ah' u'.name := by
      have e : ∀ l : List Us, zg1 l u.name = zgj (fun p : ByteArray × ByteArray × List Rl => decide (p.1 = u.name)) (l.map fldU) := fun l => (zvo fldU (fun p : ByteArray × ByteArray × List Rl => decide (p.1 = u.name)) l).symm
      rw [← e1, e, e, ha]
    have ih := zbgo (parts := parts) (r := r) (r' := r') (ah := ah ++ [u]) (ah' := ah' ++ [u']) h2 (by rw [List.map_append, List.map_append, ha]; show _ ++ [fldU u] = _ ++ [fldU u']; rw [h1])
    unfold zf5
    rw [ef, es, e3, ih, hl]
theorem zbwy {l l' : List Us} (h : l.map fldU = l'.map fldU) (parts : Int) : zmt l parts = zmt l' parts := by
  have hl : l.length = l'.length := by have := congrArg List.length h; simpa using this
  unfold zmt
  rw [hl, zbgo h rfl]
theorem zb0g {l l' : List Us} (h : l.map fldU = l'.map fldU) : Like l l' := by
  have := congrArg (List.map fun p : ByteArray × ByteArray × List Rl => (p.1, p.2.1)) h
  rw [List.map_map, List.map_map] at this
  exact this
theorem zbwz (n k : ByteArray) (y : V) (hy : y.isOne = true) : build [Value.string ⟨#[]⟩, Value.string ⟨#[]⟩, (Value.slice none 0 0 : V)] [(0, 1, .string n), (1, 1, .string k), (2, 1, y)] = some (.agg #[.string n, .string k, y]) := by
  rw [zb8 (by rfl), zo rfl (by decide), zo rfl (by rw [List.length_set]; decide), zo hy (by rw [List.length_set, List.length_set]; decide), zx]
  rfl
set_option maxRecDepth 20000 in
theorem zbw0 {H0 H : Heap} {G : List V → M V} {p : Pl} {pp : Nat} {v1 : V} (hus : Users H0 p.us.v p.us.xs) (hul : p.us.xs.length ≤ 1048576) {j : Nat} (hj : j < p.us.xs.length) {w : V} {own' : List Us} {R : List Thing} (st : Hp H0 H (own w own' :: cel pp [p.us.v, i64 p.parts, i64 p.idle] :: R)) (hl : own'.length = j) (Q : Out → Heap → Prop)
    (hQ : ∀ w2 y H', y.isOne = true → (∀ h : y.isOne = true, Hp H0 H' (own w2 (own' ++ [⟨(p.us.xs.getD j default).name, (p.us.xs.getD j default).key, ⟨y, (p.us.xs.getD j default).rs.xs, h⟩⟩]) :: cel pp [p.us.v, i64 p.parts, i64 p.idle] :: own y (p.us.xs.getD j default).rs.xs :: R)) → Q (.nxt [v1, ptr pp 0, w2, i64 ((j : Int) + 1)]) H') : wp (zre G asF [v1, ptr pp 0, w, i64 (j : Int)]) Q H := by
  have g := st.get (i := 1) rfl
  have o := hus.out.keep0 st.keeps
  have a1 := o.addr' (n := 3) rfl (k := .i64) (i := (j : Int)) (by omega) (by omega)
  rw [Int.toNat_natCast] at a1
  have cells : ∀ {K : Heap} {M : List Thing}, Hp H0 K M → zlr (K.get (slB p.us.v)) (slO p.us.v + j * 3) = some (.string (p.us.xs.getD j default).name) ∧ zlr (K.get (slB p.us.v)) (slO p.us.v + j * 3 + 1) = some (.string (p.us.xs.getD j default).key) ∧ zlr (K.get (slB p.us.v)) (slO p.us.v + j * 3 + 2) = some (p.us.xs.getD j default).rs.v := fun hK => by
    have oK := hus.out.keep0 hK.keeps
    have c0 := oK.cell' (n := 3) rfl (i := j) (off := 0) hj (by omega) default
    have c1 := oK.cell' (n := 3) rfl (i := j) (off := 1) hj (by omega) default
    have c2 := oK.cell' (n := 3) rfl (i := j) (off := 2) hj (by omega) default
    rw [zl] at c0 c1 c2
    exact ⟨c0, c1, c2⟩
  obtain ⟨c0, c1, c2⟩ := cells st
  obtain ⟨hr, hrl⟩ := hus.at hj
  have hrs := hr.keep0 st.keeps
  have hchk : zwp (some (p.us.xs.getD j default).rs.v) (p.us.xs.getD j default).rs.v = true := by
    rcases hr with ⟨e, _⟩ | ⟨b, o', u', c', e, _⟩
    · rw [e]; exact zbo _ _ _
    · rw [e]; exact zbo _ _ _
  have hchk2 : zwp (some p.us.v) p.us.v = true := by
    rcases hus.out with ⟨e, _⟩ | ⟨b, o', u', c', e, _⟩
    · rw [e]; exact zbo _ _ _
    · rw [e]; exact zbo _ _ _
  generalize p.us.xs.getD j default = u at *
  (try simp (maxSteps := 1000000) (disch := first | omega | (simp only [Z3]; omega) | (simp; done) | assumption | decide | (refine not_not_intro ?_; assumption)) only [Z1, Z2, splice, zre, g, a1, c0, c1, c2])
  refine (zgv (cs := zba ([] : List Rl)) (by rfl) (by rfl)).mpr ?_
  have st1 := st.newo (n := 2) (m := 0) ([] : List Rl) rfl rfl
  have hrs1 := hrs.keep0 (Keeps.push [] H (some (.cells true (zba ([] : List Rl)))))
  generalize H.push (some (.cells true (zba ([] : List Rl)))) = H1 at *
  have g1 := st1.get (i := 2) rfl
  obtain ⟨d0, d1, d2⟩ := cells st1
  (try simp (maxSteps := 1000000) (disch := first | omega | (simp only [Z3]; omega) | (simp; done) | assumption | decide | (refine not_not_intro ?_; assumption)) only [Z1, Z2, splice])
  refine zbcc (i := 0) st1 rfl rfl hrs1 (by simp; omega) (by simp; omega) fun y H2 st2 => ?_
  have st2' : Hp H0 H2 (own y ([] ++ u.rs.xs) :: own w own' :: cel pp [p.us.v, i64 p.parts, i64 p.idle] :: R) := st2
  rw [List.nil_append] at st2'
  have g2 := st2'.get (i := 2) rfl
  obtain ⟨e0, e1, e2⟩ := cells st2'
  have hy := (st2'.own (i := 0) rfl).isOne
  have hb := zbwz u.name u.key y hy
  (try simp (maxSteps := 1000000) (disch := first | omega | (simp only [Z3]; omega) | (simp; done) | assumption | decide | (refine not_not_intro ?_; assumption)) only [Z1, zl, zr, zcr, zeh, eq_self, true_and, zcu, zck, zf0, zc6, zby, zbu, Heap.get_push_eq, Heap.get_push_lt, Heap.get_set_eq, Heap.get_set_ne', Heap.next_push', Heap.next_set', Heap.set_push_lt, Heap.set_push_eq, Heap.set_set, zbz, zb0, zbf, zb3, zb4, z4, zbh, zb5, zbq, zbe, zbv, zbw, zbo, zbx, List.set_cons_zero, List.set_cons_succ, List.length_cons, List.length_nil, List.drop_succ_cons, List.drop_zero, List.take_succ_cons, List.take_zero, List.nil_append, List.cons_append, splice, zbb, zbc, z0, zq, zm, zbd, zb1, zbg, zc8, zcm, zb2, zx, zo, z9, Option.map_some, zb6, zbn, z6, zbi, zbj, zbk, z5, zbl, zbm, hb])
  have hf : zef (rep 1 [Value.string ⟨#[]⟩, Value.string ⟨#[]⟩, (Value.slice none 0 0 : V)]) [(0, 3, .agg #[.string u.name, .string u.key, y])] = some (zba [(⟨u.name, u.key, ⟨y, u.rs.xs, hy⟩⟩ : Us)]) := by
    rw [show (Value.agg #[.string u.name, .string u.key, y] : V) = .agg (Flat.enc (⟨u.name, u.key, ⟨y, u.rs.xs, hy⟩⟩ : Us)).toArray from rfl, z9 (n := 3) (vs := Flat.enc (⟨u.name, u.key, ⟨y, u.rs.xs, hy⟩⟩ : Us)) (z8b _) rfl (by decide), zx]
    rfl
  refine zbha (i := 1) (ys := [(⟨u.name, u.key, ⟨y, u.rs.xs, hy⟩⟩ : Us)]) st2' rfl rfl (by rfl) hf rfl (by omega) (by omega) fun w2 H3 st3 => ?_
  (try simp (maxSteps := 1000000) (disch := first | omega | (simp only [Z3]; omega) | (simp; done) | assumption | decide | (refine not_not_intro ?_; assumption)) only [Z1, Z2, splice, g1, g2, d0, d1, d2, e0, e1, e2, hchk, hchk2, zzm])
  refine hQ w2 y H3 hy fun h => ?_
  exact Hp.rotN [] [_] [_, _] st3
def zbto : Us := ⟨⟨#[115, 112, 111, 105, 108, 116]⟩, ⟨#[]⟩, default⟩
theorem zbrr {H0 H : Heap} {G : List V → M V} {L : List Thing} {i : Nat} {w v1 d e r f : V} {l : List Us} (st : Hp H0 H L) (hi : L[i]? = some (own w l)) (hl : l.length ≤ 1048576) (Q : Out → Heap → Prop)
    (hQ : ∀ (l' : List Us) H', Hp H0 H' (L.set i (own w l')) → Q (.brk 2 [v1, d, e, r, f]) H') : wp (zce zcc (zmj G asF) [v1, w, d, e, r, f, i64 0]) Q H := by
  have hb : build [Value.string ⟨#[]⟩, Value.string ⟨#[]⟩, (Value.slice none 0 0 : V)] [(0, 1, (Value.string ⟨#[115, 112, 111, 105, 108, 116]⟩))] = some (.agg (Flat.enc zbto).toArray) := by rfl
  refine zbt (Inv := fun k vs H' => ∃ (j : Nat) (l' : List Us), k = l.length - j ∧ j ≤ l.length ∧ l'.length = l.length ∧ vs = [v1, w, d, e, r, f, i64 j] ∧ Hp H0 H' (L.set i (own w l'))) (n := l.length) (by unfold zcc; omega)
    ⟨0, l, by omega, by omega, rfl, rfl, by
      have : L.set i (own w l) = L := by
        obtain ⟨h1, h2⟩ := List.getElem?_eq_some_iff.1 hi
        rw [← h2]; simp
      rw [this]; exact st⟩ ?_
  rintro k vs H1 ⟨j, l', hk, hj, hll, rfl, st1⟩
  obtain ⟨hiL, _⟩ := List.getElem?_eq_some_iff.1 hi
  have hi1 : (L.set i (own w l'))[i]? = some (own w l') := List.getElem?_set_self hiL
  have o := st1.own hi1
  have hlen := o.len
  by_cases hlt : j < l.length
  case neg =>
    (try simp (maxSteps := 1000000) (disch := first | omega | (simp only [Z3]; omega) | (simp; done) | assumption | decide | (refine not_not_intro ?_; assumption)) only [Z1, Z2, splice, zmj, hlen])
    exact hQ _ _ st1
  have a1 := o.sl.addr' (n := 3) rfl (k := .i64) (i := (j : Int)) (by omega) (by omega)
  rw [Int.toNat_natCast] at a1
  (try simp (maxSteps := 1000000) (disch := first | omega | (simp only [Z3]; omega) | (simp; done) | assumption | decide | (refine not_not_intro ?_; assumption)) only [Z1, zl, zr, zcr, zeh, eq_self, true_and, zck, zf0, zc6, zby, zbu, Heap.get_push_eq, Heap.get_push_lt, Heap.get_set_eq, Heap.get_set_ne', Heap.next_push', Heap.next_set', Heap.set_push_lt, Heap.set_push_eq, Heap.set_set, zbz, zb0, zbf, zb3, zb4, z4, zbh, zb5, zbq, zbe, zbv, zbw, zbo, zbx, List.set_cons_zero, List.set_cons_succ, List.length_cons, List.length_nil, List.drop_succ_cons, List.drop_zero, List.take_succ_cons, List.take_zero, List.nil_append, List.cons_append, splice, zbb, zbc, z0, zq, zm, zbd, zb1, zbg, zc8, zcm, zb2, zx, zo, z9, Option.map_some, zb6, zbn, z6, zbi, zbj, zbk, z5, zbl, zbm, zmj, hlen, zzo, hb, a1])
  refine zbyf (x' := zbto) (idx := i) (n := 3) st1 hi1 rfl (by omega) fun H2 st2 => ?_
  rw [List.set_set] at st2
  (try simp (maxSteps := 1000000) (disch := first | omega | (simp only [Z3]; omega) | (simp; done) | assumption | decide | (refine not_not_intro ?_; assumption)) only [Z1, Z2, splice, zzn])
  exact ⟨l.length - (j + 1), by omega, j + 1, l'.set j zbto, rfl, by omega, by rw [List.length_set]; exact hll, by push_cast; rfl, st2⟩
structure Acts (H : Heap) (v : V) (l : List Ac) : Prop where
  out : Sl H v l
  inn : ∀ a ∈ l, Sl H a.says.v a.says.xs ∧ a.says.xs.length ≤ 1048576 ∧ a.text.size ≤ 1048576
set_option maxRecDepth 20000 in
theorem zb1t {H0 H : Heap} {G : List V → M V} {d r : Nat} {us ul : List Us} {idle : Int} {uv v1 : V} {acts : List Ac} (hb : Base H0) (hT : Tok H0) (h : zkr H0 H d r (zrg us idle) (zrg us idle) uv []) (hul : Sl H0 uv ul) (hlk : Like ul us) (ok : (zrg us idle).Ok 0) (un : (zrg us idle).Un) (ha : Acts H0 v1 acts) (Q : V → Heap → Prop) (hQ : ∀ H', Keeps [] H0 H' → Q (.bool true) H') :
    wp (zk0 G asF [v1, ptr d 0, ptr r 0]) (fun b H' => wp (zcf b fun vs => ret (zca [zc vs 0])) Q H') H := by
  have hl1 := ha.out.len
  (try simp (maxSteps := 1000000) (disch := first | omega | (simp only [Z3]; omega) | (simp; done) | assumption | decide | (refine not_not_intro ?_; assumption)) only [Z1, Z2, splice, zk0])
  refine zbt (Inv := fun k vs H' => ∃ (j : Nat) (D : Dk), k = 80 - j ∧ j ≤ 80 ∧ j ≤ acts.length ∧ vs = [v1, ptr d 0, ptr r 0, i64 j] ∧ zkr H0 H' d r D D uv [] ∧ D.Ok j ∧ D.Un ∧ D.us = us) (n := 80) (by unfold zcc; omega)
    ⟨0, zrg us idle, by omega, by omega, by omega, rfl, h, ok, un, rfl⟩ ?_
  rintro k vs H1 ⟨j, D, hk, hj, hjl, rfl, h1, ok1, un1, hus⟩
  have fin : ∀ K, Keeps [] H0 K → wp (zmk G asF []) (fun b H' => wp (zcf b fun vs => ret (zca [zc vs 0])) Q H') K := fun K hK => by
    (try simp (maxSteps := 1000000) (disch := first | omega | (simp only [Z3]; omega) | (simp; done) | assumption | decide | (refine not_not_intro ?_; assumption)) only [Z1, Z2, splice, zmk])
    refine zbmm (Hp.start K) (hb.keep hK) (hT.keep0 hK) _ fun H2 st2 => ?_
    (try simp (maxSteps := 1000000) (disch := first | omega | (simp only [Z3]; omega) | (simp; done) | assumption | decide | (refine not_not_intro ?_; assumption)) only [Z1, Z2, splice])
    exact hQ _ (hK.trans st2.keeps (by simp))
  have f1 := fin H1 h1.keeps
  by_cases hlt : j < acts.length
  case neg =>
    (try simp (maxSteps := 1000000) (disch := first | omega | (simp only [Z3]; omega) | (simp; done) | assumption | decide | (refine not_not_intro ?_; assumption)) only [Z1, Z2, splice, zje, hl1])
    exact f1
  by_cases hlt2 : j < 80
  case neg =>
    (try simp (maxSteps := 1000000) (disch := first | omega | (simp only [Z3]; omega) | (simp; done) | assumption | decide | (refine not_not_intro ?_; assumption)) only [Z1, Z2, splice, zje, hl1])
    exact f1
  have o := ha.out.keep0 h1.keeps
  have a1 := o.addr' (n := 7) rfl (k := .i64) (i := (j : Int)) (by omega) (by omega)
  rw [Int.toNat_natCast] at a1
  have r1 := fun Q => o.ldn' (Q := Q) (n := 7) rfl hlt default
  obtain ⟨q1, q2, q3⟩ := ha.inn _ (zdx (d := default) hlt)
  generalize acts.getD j default = a at *
  (try simp (maxSteps := 1000000) (disch := first | omega | (simp only [Z3]; omega) | (simp; done) | assumption | decide | (refine not_not_intro ?_; assumption)) only [Z1, zl, zr, zcr, zeh, eq_self, true_and, zcu, zck, zc6, zby, zbu, Heap.get_push_eq, Heap.get_push_lt, Heap.get_set_eq, Heap.get_set_ne', Heap.next_push', Heap.next_set', Heap.set_push_lt, Heap.set_push_eq, Heap.set_set, zbz, zb0, zbf, zb3, zb4, z4, zbh, zb5, zbq, zbe, zbv, zbw, zbo, zbx, List.set_cons_zero, List.set_cons_succ, List.length_cons, List.length_nil, List.drop_succ_cons, List.drop_zero, List.take_succ_cons, List.take_zero, List.nil_append, List.cons_append, splice, zbb, zbc, z0, zq, zm, zbd, zb1, zbg, zc8, zcm, zb2, zb8, zx, zo, z9, Option.map_some, zb6, zbn, z6, zbi, zbj, zbk, z5, zbl, zbm, zje, hl1, zzq, a1, r1])
  refine zb1s hb hT h1 hul (zb1r hlk hus) ok1 un1 (by omega) a q3 q1 q2 _ fun D2 H2 h2 ok2 un2 hus2 => ?_
  obtain ⟨c2, s2, hd2⟩ := h2.desk
  (try simp (maxSteps := 1000000) (disch := first | omega | (simp only [Z3]; omega) | (simp; done) | assumption | decide | (refine not_not_intro ?_; assumption)) only [Z1, Z2, splice])
  refine zbrk hd2 ok2 _ fun w H3 hd3 => ?_
  have h3 := zbrq hd3
  obtain ⟨u, icv, cv, isv, sv', hr3⟩ := h3.rdesk
  (try simp (maxSteps := 1000000) (disch := first | omega | (simp only [Z3]; omega) | (simp; done) | assumption | decide | (refine not_not_intro ?_; assumption)) only [Z1, Z2, splice])
  refine zbo0 hr3 ok2 _ fun w2 H4 o4 k4 => ?_
  have h4 := h3.keep0 k4
  have o3 : zcj H4 w (D2.sl.map (·.1)) := h4.thing
  have hsl2 := ok2.sl
  (try simp (maxSteps := 1000000) (disch := first | omega | (simp only [Z3]; omega) | (simp; done) | assumption | decide | (refine not_not_intro ?_; assumption)) only [Z1, Z2, splice])
  refine zbrl o3.sl o4.sl (by rw [List.length_map]; omega) _ ?_
  rw [decide_eq_true rfl]
  (try simp (maxSteps := 1000000) (disch := first | omega | (simp only [Z3]; omega) | (simp; done) | assumption | decide | (refine not_not_intro ?_; assumption)) only [Z1, Z2, splice, zzp])
  exact ⟨80 - (j + 1), by omega, j + 1, D2, rfl, by omega, by omega, by push_cast; rfl, h4.less (N := [_]), by push_cast; exact ok2, un2, by rw [hus2, hus]⟩
set_option maxRecDepth 20000 in
theorem SessPlays_ok {H : Heap} {G : List V → M V} (hb : Base H) (hT : Tok H) (p : Pl) (hus : Users H p.us.v p.us.xs) (hul : p.us.xs.length ≤ 1048576) (hnm : ∀ u ∈ p.us.xs, u.name.size ≤ 1048576) {v1 : V} {acts : List Ac} (ha : Acts H v1 acts) (Q : V → Heap → Prop) (hQ : ∀ H', Keeps [] H H' → Q (.bool true) H') :
    wp (ztn G asF [.agg (Flat.enc p).toArray, v1]) Q H := by
  show wp (znm G asF (.agg (Flat.enc p).toArray) v1) Q H
  have ho := zb28 p
  have hlu := hus.out.len
  have st0 := (Hp.start H).newc [p.us.v, i64 p.parts, i64 p.idle]
  unfold znm
  rw [zk, zk, zb27]
  refine (zbu ho).mpr ?_
  generalize H.next = pp at *
  generalize H.push (some (.cells true [p.us.v, i64 p.parts, i64 p.idle])) = H1 at *
  (try simp (maxSteps := 1000000) (disch := first | omega | (simp only [Z3]; omega) | (simp; done) | assumption | decide | (refine not_not_intro ?_; assumption)) only [Z1, Z2, splice])
  refine zbt (Inv := fun k vs H' => ∃ (j : Nat) (w : V) (own' : List Us) (R : List Thing), k = p.us.xs.length - j ∧ j ≤ p.us.xs.length ∧ own'.length = j ∧ vs = [v1, ptr pp 0, w, i64 j] ∧ Hp H H' (own w own' :: cel pp [p.us.v, i64 p.parts, i64 p.idle] :: R) ∧ (∀ u ∈ own', own u.rs.v u.rs.xs ∈ R ∧ u.rs.xs.length ≤ 1048576) ∧ own'.map fldU = (p.us.xs.take j).map fldU) (n := p.us.xs.length) (by unfold zcc; omega)
    ⟨0, _, [], [], by omega, by omega, rfl, rfl, st0.nilo, by simp, by simp⟩ ?_
  rintro k vs H2 ⟨j, w, own', R, hk, hj, hl, rfl, st2, hR, hf⟩
  have g2 := st2.get (i := 1) rfl
  by_cases hlt : j < p.us.xs.length
  case pos =>
    have hrl := (hus.at hlt).2
    (try simp (maxSteps := 1000000) (disch := first | omega | (simp only [Z3]; omega) | (simp; done) | assumption | decide | (refine not_not_intro ?_; assumption)) only [Z1, Z2, splice, zrf, g2, hlu])
    refine zbw0 hus hul hlt st2 hl _ fun w2 y H3 hy st3 => ?_
    have htk : (p.us.xs.take (j + 1)) = p.us.xs.take j ++ [p.us.xs.getD j default] := by
      rw [List.take_succ, List.getD_eq_getElem?_getD, List.getElem?_eq_getElem hlt]; rfl
    refine ⟨p.us.xs.length - (j + 1), by omega, j + 1, w2, _, _, rfl, by omega, by rw [List.length_append, hl]; rfl, by push_cast; rfl, st3 hy, fun u hu => ?_, ?_⟩
    · rcases List.mem_append.1 hu with hu | hu
      · exact ⟨List.mem_cons_of_mem _ (hR u hu).1, (hR u hu).2⟩
      · simp only [List.mem_singleton] at hu
        subst hu
        exact ⟨List.mem_cons_self, hrl⟩
    · rw [htk, List.map_append, List.map_append, hf]
      rfl
  have hjl : j = p.us.xs.length := by omega
  rw [hjl, List.take_length] at hf
  have hlk := (zb0g hf)
  have huo : Users H2 w own' := ⟨(st2.own (i := 0) rfl).sl, fun u hu => by
    have h1 := st2.all _ (List.mem_cons_of_mem _ (List.mem_cons_of_mem _ (hR u hu).1))
    have h2 : zcj H2 u.rs.v u.rs.xs := h1
    exact ⟨h2.sl, (hR u hu).2⟩⟩
  have hnew : z4t p.us.xs p.parts p.idle = z4t own' p.parts p.idle := by unfold z4t; rw [zbwy hf]
  have st3 : Hp H H2 (own w own' :: cel pp [p.us.v, i64 p.parts, i64 p.idle] :: []) := st2.sub (((List.nil_sublist R).cons_cons _).cons_cons _)
  (try simp (maxSteps := 1000000) (disch := first | omega | (simp only [Z3]; omega) | (simp; done) | assumption | decide | (refine not_not_intro ?_; assumption)) only [Z1, Z2, splice, zrf, g2, hlu, zwj])
  refine zbzu st3 huo p.parts p.idle _ (fun H3 st4 hne => ?_) (fun d H3 h4 he ok4 okus => ?_)
  · have g4 := st4.get (i := 1) rfl
    (try simp (maxSteps := 1000000) (disch := first | omega | (simp only [Z3]; omega) | (simp; done) | assumption | decide | (refine not_not_intro ?_; assumption)) only [Z1, Z2, splice, g4])
    refine zbuv (us := own') st4 (hus.keep0 st4.keeps) hnm p.parts p.idle _ (fun H5 st5 hne2 => ?_) (fun r H5 h5 he2 => absurd (hnew ▸ he2) hne)
    have g5 := st5.get (i := 1) rfl
    rw [hnew]
    (try simp (maxSteps := 1000000) (disch := first | omega | (simp only [Z3]; omega) | (simp; done) | assumption | decide | (refine not_not_intro ?_; assumption)) only [Z1, Z2, splice])
    refine zbrr (i := 0) st5 rfl (by omega) _ fun l' H6 st6 => ?_
    (try simp (maxSteps := 1000000) (disch := first | omega | (simp only [Z3]; omega) | (simp; done) | assumption | decide | (refine not_not_intro ?_; assumption)) only [Z1, Z2, splice, zpw])
    have ek : ∀ a b : Bool, zia true (eqK .b (.bool a) (.bool b)) = some (.bool (!(a == b))) := fun _ _ => rfl
    (try simp (maxSteps := 1000000) (disch := first | omega | (simp only [Z3]; omega) | (simp; done) | assumption | decide | (refine not_not_intro ?_; assumption)) only [Z1, Z2, splice, ek, beq_self_eq_true, Bool.not_true, zk0])
    have hl1 := ha.out.len
    refine zbt (Inv := fun k vs H' => k = 0 ∧ vs = [v1, .pointer none, .pointer none, i64 0] ∧ H' = H6) (n := 0) (by unfold zcc; omega) ⟨rfl, rfl, rfl⟩ ?_
    rintro k vs H7 ⟨_, rfl, e7⟩
    rw [e7]; clear e7 H7
    (try simp (maxSteps := 1000000) (disch := first | omega | (simp only [Z3]; omega) | (simp; done) | assumption | decide | (refine not_not_intro ?_; assumption)) only [Z1, Z2, splice, zje, zmk])
    refine zbmm (Hp.start H6) (hb.keep st6.keeps) (hT.keep0 st6.keeps) _ fun H7 st7 => ?_
    (try simp (maxSteps := 1000000) (disch := first | omega | (simp only [Z3]; omega) | (simp; done) | assumption | decide | (refine not_not_intro ?_; assumption)) only [Z1, Z2, splice])
    exact hQ _ (st6.keeps.trans st7.keeps (by simp))
  · obtain ⟨uv, icv, cv, isv, sv', st4⟩ := h4
    have g4 := st4.get (i := 7) rfl
    (try simp (maxSteps := 1000000) (disch := first | omega | (simp only [Z3]; omega) | (simp; done) | assumption | decide | (refine not_not_intro ?_; assumption)) only [Z1, Z2, splice, g4])
    refine zbuv (us := own') st4 (hus.keep0 st4.keeps) hnm p.parts p.idle _ (fun H5 st5 hne2 => absurd (hnew.trans he) hne2) (fun r H5 h5 he2 => ?_)
    obtain ⟨c2, s2, st5⟩ := h5
    (try simp (maxSteps := 1000000) (disch := first | omega | (simp only [Z3]; omega) | (simp; done) | assumption | decide | (refine not_not_intro ?_; assumption)) only [Z1, Z2, splice])
    refine zbrr (i := 9) st5 rfl (by omega) _ fun l' H6 st6 => ?_
    (try simp (maxSteps := 1000000) (disch := first | omega | (simp only [Z3]; omega) | (simp; done) | assumption | decide | (refine not_not_intro ?_; assumption)) only [Z1, Z2, splice, zpw])
    have ek : ∀ a b : Bool, zia true (eqK .b (.bool a) (.bool b)) = some (.bool (!(a == b))) := fun _ _ => rfl
    (try simp (maxSteps := 1000000) (disch := first | omega | (simp only [Z3]; omega) | (simp; done) | assumption | decide | (refine not_not_intro ?_; assumption)) only [Z1, Z2, splice, ek, beq_self_eq_true, Bool.not_true])
    have hA : zkr H H6 d r (zrg own' p.idle) (zrg own' p.idle) p.us.v [own w l', cel pp [p.us.v, i64 p.parts, i64 p.idle]] :=
      ⟨uv, icv, cv, isv, sv', c2, s2, Hp.rotN [] [_, _, _] [_, _, _, _, _, _] st6⟩
    exact zb1t hb hT (hA.less (N := [_, _]) (M := [])) hus.out (Eq.symm hlk) ok4 (zb0d okus) ha Q hQ
end Go.AM.Cap
