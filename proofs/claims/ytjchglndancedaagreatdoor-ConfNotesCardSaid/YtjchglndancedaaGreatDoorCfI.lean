import Derived.Test.YtjchglndancedaaGreatDoorCfH
import Derived.Test.YtjchglndancedaaGreatDoorAmOpenF
set_option linter.all false
/- conf: exec.New -/
set_option maxHeartbeats 8000000
namespace Go.AM.Cap
open Go.AM Go.Proofs
structure Ut where
  p : Nat
  ins : In Ed
  outs : In Ed
instance : Inhabited Ut := ⟨⟨0, default, default⟩⟩
instance : Flat Ut := ⟨3, fun u => [ptr u.p 0, u.ins.v, u.outs.v], fun _ => rfl, fun u => by simp [u.ins.one, u.outs.one], by decide⟩
theorem zbi8 {H : Heap} {x : SyV} {s : Sy} (h : SysAt H x s) (Q : V → Heap → Prop)
    (hbad : exE s ≠ 0 → ∀ H', Keeps [] H H' → Q (.tuple #[.pointer none, i64 (exE s)]) H') (hQ : exE s = 0 → ∀ p H', Keeps [] H H' → Q (.tuple #[ptr p 0, i64 0]) H') : wp (zse [.agg (x.cs s).toArray]) Q H := by
  show wp (zz6 (.agg (x.cs s).toArray)) Q H
  have ho := h.one
  have hsm := h.small
  obtain ⟨ul, hu, hul⟩ := h.uns
  have hn : s.uns.length = ul.length := by rw [← hul, List.length_map]
  have hlen := hu.out.len
  have h7 : (x.cs s).length = 7 := rfl
  have st : Hp H (H.push (some (.cells true (x.cs s)))) [cel H.next (x.cs s)] := (Hp.start H).newc _
  unfold zz6
  rw [zcc, zcc]
  refine (zbc ho).mpr ?_
  generalize H.push (some (.cells true (x.cs s))) = H1 at *
  have c0 : (x.cs s)[0]? = some x.pv := rfl
  have c1 : (x.cs s)[1]? = some x.gv := rfl
  have c2 : (x.cs s)[2]? = some x.qv := rfl
  have c4 : (x.cs s)[4]? = some x.wv := rfl
  have c5 : (x.cs s)[5]? = some x.uv := rfl
  have c6 : (x.cs s)[6]? = some (i64 s.millis) := rfl
  have d1 := fun Q => zcg (n := 7) (Q := Q) (st.get (i := 0) rfl) h7
  (try simp (maxSteps := 1000000) (disch := first | omega | (simp only [Z3]; omega) | (simp; done) | assumption | decide | (refine not_not_intro ?_; assumption)) only [Z1, zl, zf, zbx, zb8, eq_self, true_and, zby, zbt, zb0, zbi, zbc, Heap.get_push_eq, Heap.get_push_lt, Heap.get_set_eq, Heap.get_set_ne', Heap.next_push', Heap.next_set', Heap.set_push_lt, Heap.set_push_eq, Heap.set_set, zbj, zbk, zp, zbn, zbo, zi, zw, zbp, zbd, zu, zbe, zbf, zbg, zbh, List.set_cons_zero, List.set_cons_succ, List.length_cons, List.length_nil, List.drop_succ_cons, List.drop_zero, List.take_succ_cons, List.take_zero, List.nil_append, List.cons_append, splice, zq, zr, zh, ze, zd, zt, zbl, zv, zb2, zbu, zbm, zbs, zg, zm, zbb, Option.map_some, zbq, zbr, zk, zba, z7, zz, zj, zx, zy, d1])
  refine zbd6 (h.keep0 st.keeps) _ fun H2 k2 => ?_
  have s2 := st.keep0 k2
  by_cases he : exE s = 0
  case neg =>
    have q := hbad he _ s2.keeps
    (try simp (maxSteps := 1000000) (disch := first | omega | (simp only [Z3]; omega) | (simp; done) | assumption | decide | (refine not_not_intro ?_; assumption)) only [Z1, Z2, splice])
    exact q
  have hok := zbqb he
  rw [he]
  have g2 := s2.get (i := 0) rfl
  (try simp (maxSteps := 1000000) (disch := first | omega | (simp only [Z3]; omega) | (simp; done) | assumption | decide | (refine not_not_intro ?_; assumption)) only [Z1, Z2, splice, zbac, g2, c4, c6])
  refine zsg (α := Win) (n := 3) rfl rfl rfl (s2.ro h.wins) (by omega) (by omega) _ fun wv H3 o3 k3 f3 => ?_
  have s3 := s2.keep0 k3
  have ow := o3.isOne
  have g3 := s3.get (i := 0) rfl
  have ck : zlk (zlb (H3.get H.next) 6) (i64 s.millis) = true := by rw [g3]; show zlk ((x.cs s)[6]?) _ = true; rw [c6]; simp [zlk, vEq]
  (try simp (maxSteps := 1000000) (disch := first | omega | (simp only [Z3]; omega) | (simp; done) | assumption | decide | (refine not_not_intro ?_; assumption)) only [Z1, zl, zf, zbx, zb8, eq_self, true_and, zby, zbt, zdz, zb0, zbi, zbc, Heap.get_push_eq, Heap.get_push_lt, Heap.get_set_eq, Heap.get_set_ne', Heap.next_push', Heap.next_set', Heap.set_push_lt, Heap.set_push_eq, Heap.set_set, zbj, zbk, zp, zbn, zbo, zi, zw, zbp, zbd, zu, zbe, zbf, zbg, zbh, List.set_cons_zero, List.set_cons_succ, List.length_cons, List.length_nil, List.drop_succ_cons, List.drop_zero, List.take_succ_cons, List.take_zero, List.nil_append, List.cons_append, splice, zq, zr, zh, ze, zd, zt, zbl, zv, zb2, zbu, zbm, zbs, zg, zm, zbb, Option.map_some, zbq, zbr, zk, z7, zz, zj, zx, zy])
  refine (zbc (by simp [ow])).mpr ?_
  have s4 : Hp H (H3.push (some (.cells true [.pointer none, .pointer none, .slice none 0 0, wv, i64 s.millis, i64 0]))) [cel H3.next [.pointer none, .pointer none, .slice none 0 0, wv, i64 s.millis, i64 0], cel H.next (x.cs s)] := s3.newc _
  generalize hH4 : H3.push (some (.cells true [.pointer none, .pointer none, .slice none 0 0, wv, i64 s.millis, i64 0])) = H4 at *
  have hH4' : H3.push (some (.cells true [.pointer none, .pointer none, .slice none 0 0, wv, i64 s.millis, Value.int .i64 0])) = H4 := hH4
  have g4 := s4.get (i := 1) rfl
  generalize H3.next = X at *
  (try simp (maxSteps := 1000000) (disch := first | omega | (simp only [Z3]; omega) | (simp; done) | assumption | decide | (refine not_not_intro ?_; assumption)) only [Z1, Z2, splice, ck, hH4', g4, c0, c1])
  refine zbd7 (s4.ro h.pts) (s4.ro h.grs) (by omega) _ (fun hb => absurd hok.chkB hb) fun _ bl H5 _ k5 _ => ?_
  have s5 := s4.keep0 k5
  have g5 := s5.get (i := 0) rfl
  have n5 := s5.ltAt (i := 0) rfl X (by simp [cel])
  have g5' := s5.get (i := 1) rfl
  (try simp (maxSteps := 1000000) (disch := first | omega | (simp only [Z3]; omega) | (simp; done) | assumption | decide | (refine not_not_intro ?_; assumption)) only [Z1, Z2, splice, g5])
  have s6 := s5.set (i := 0) rfl [ptr bl.p 0, .pointer none, .slice none 0 0, wv, i64 s.millis, i64 0]
  simp only [List.set_cons_zero] at s6
  generalize H5.set X (some (.cells true [ptr bl.p 0, .pointer none, .slice none 0 0, wv, i64 s.millis, i64 0])) = H6 at *
  have g6 := s6.get (i := 1) rfl
  (try simp (maxSteps := 1000000) (disch := first | omega | (simp only [Z3]; omega) | (simp; done) | assumption | decide | (refine not_not_intro ?_; assumption)) only [Z1, Z2, splice, g6, c2])
  refine zbgx (s6.ro h.prs) hok.chkP _ fun bp H7 k7 => ?_
  have s7 := s6.keep0 k7
  have g7 := s7.get (i := 0) rfl
  have n7 := s7.ltAt (i := 0) rfl X (by simp [cel])
  (try simp (maxSteps := 1000000) (disch := first | omega | (simp only [Z3]; omega) | (simp; done) | assumption | decide | (refine not_not_intro ?_; assumption)) only [Z1, Z2, splice, g7])
  have s8 := s7.set (i := 0) rfl [ptr bl.p 0, ptr bp 0, .slice none 0 0, wv, i64 s.millis, i64 0]
  simp only [List.set_cons_zero] at s8
  generalize H7.set X (some (.cells true [ptr bl.p 0, ptr bp 0, .slice none 0 0, wv, i64 s.millis, i64 0])) = H8 at *
  have g8 := s8.get (i := 1) rfl
  (try simp (maxSteps := 1000000) (disch := first | omega | (simp only [Z3]; omega) | (simp; done) | assumption | decide | (refine not_not_intro ?_; assumption)) only [Z1, Z2, splice, g8, c5, hlen])
  refine ze6 ul.length (by omega) (fun j vs H' => ∃ (uv : V) (us : List Ut), vs = [ptr H.next 0, ptr X 0, x.uv, i64 ul.length, i64 j] ∧ us.length = j ∧ Hp H H' [own uv us, cel X [ptr bl.p 0, ptr bp 0, uv, wv, i64 s.millis, i64 0], cel H.next (x.cs s)]) ⟨.slice none 0 0, [], rfl, rfl, s8.nilo⟩ ?_
  rintro j vs H9 hj ⟨uv, us, rfl, hus, s9⟩
  by_cases hlt : j < ul.length
  case neg =>
    (try simp (maxSteps := 1000000) (disch := first | omega | (simp only [Z3]; omega) | (simp; done) | assumption | decide | (refine not_not_intro ?_; assumption)) only [Z1, Z2, splice, z14, zbab])
    exact hQ he _ _ s9.keeps
  have hu9 := hu.keep0 s9.keeps
  have hat := hu9.at hlt
  have hpj : s.uns.getD j default = (ul.getD j default).p := by
    rw [← hul, List.getD_eq_getElem?_getD, List.getElem?_map, List.getD_eq_getElem?_getD, List.getElem?_eq_getElem hlt]; rfl
  have hbinds := hok.units j (by omega)
  rw [hpj] at hbinds
  have a1 := hu9.out.addr' (n := 2) rfl (k := .i64) (i := j) (by omega) (by omega)
  rw [Int.toNat_natCast] at a1
  have e1 := fun Q => hu9.out.ldn' (Q := Q) (n := 2) rfl hlt default
  generalize ul.getD j default = u at *
  simp only [Un.p] at hbinds
  obtain ⟨b1, b2⟩ := hbinds
  obtain ⟨l1, m1⟩ := zbc7 b1
  obtain ⟨l2, m2⟩ := zbc7 b2
  have i1 : ∀ b ∈ u.ins.xs, inB s b := fun b hb => zbi7 hok.grs (m1 b hb)
  have i2 : ∀ b ∈ u.outs.xs, inB s b := fun b hb => zbi7 hok.grs (m2 b hb)
  have hone : ([u.ins.v, u.outs.v] : List V).all Value.isOne = true := by simp [u.ins.one, u.outs.one]
  (try simp (maxSteps := 1000000) (disch := first | omega | (simp only [Z3]; omega) | (simp; done) | assumption | decide | (refine not_not_intro ?_; assumption)) only [Z1, zl, zf, zbx, zb8, eq_self, true_and, zby, zbt, zb0, zbi, zbc, Heap.get_push_eq, Heap.get_push_lt, Heap.get_set_eq, Heap.get_set_ne', Heap.next_push', Heap.next_set', Heap.set_push_lt, Heap.set_push_eq, Heap.set_set, zbj, zbk, zp, zbn, zbo, zi, zw, zbp, zbd, zu, zbe, zbf, zbg, zbh, List.set_cons_zero, List.set_cons_succ, List.length_cons, List.length_nil, List.drop_succ_cons, List.drop_zero, List.take_succ_cons, List.take_zero, List.nil_append, List.cons_append, splice, zq, zr, zh, ze, zd, zt, zbl, zv, zb2, zbu, zbm, zbs, zg, zm, zbb, Option.map_some, zbq, zbr, zk, zba, z7, zz, zj, zx, zy, z14, zbaa, a1, e1, zbp5])
  have sA : Hp H (H9.push (some (.cells true [u.ins.v, u.outs.v]))) [cel H9.next [u.ins.v, u.outs.v], own uv us, cel X [ptr bl.p 0, ptr bp 0, uv, wv, i64 s.millis, i64 0], cel H.next (x.cs s)] := s9.newc _
  have kA : Keeps [] H9 (H9.push (some (.cells true [u.ins.v, u.outs.v]))) := Keeps.push _ _ _
  generalize H9.push (some (.cells true [u.ins.v, u.outs.v])) = HA at *
  have gA := sA.get (i := 0) rfl
  have dA := fun Q => zcg (n := 7) (Q := Q) (sA.get (i := 3) rfl) h7
  (try simp (maxSteps := 1000000) (disch := first | omega | (simp only [Z3]; omega) | (simp; done) | assumption | decide | (refine not_not_intro ?_; assumption)) only [Z1, zl, zf, zbx, zb8, eq_self, true_and, zby, zbt, zb0, zbi, zbc, Heap.get_push_eq, Heap.get_push_lt, Heap.get_set_eq, Heap.get_set_ne', Heap.next_push', Heap.next_set', Heap.set_push_lt, Heap.set_push_eq, Heap.set_set, zbj, zbk, zp, zbn, zbo, zi, zw, zbp, zbd, zu, zbe, zbf, zbg, zbh, List.set_cons_zero, List.set_cons_succ, List.length_cons, List.length_nil, List.drop_succ_cons, List.drop_zero, List.take_succ_cons, List.take_zero, List.nil_append, List.cons_append, splice, zq, zr, zh, ze, zd, zt, zbl, zv, zb2, zbu, zbm, zbs, zg, zm, zbb, Option.map_some, zbq, zbr, zk, zba, z7, zz, zj, zx, zy, gA, dA])
  refine zbmh (h.keep0 sA.keeps) (hat.1.keep0 kA) l1 i1 _ fun v1 w1 HB tB => ?_
  have sB := sA.join tB
  simp only [List.cons_append, List.nil_append] at sB
  have kB := tB.keeps
  have gB := sB.get (i := 2) rfl
  have dB := fun Q => zcg (n := 7) (Q := Q) (sB.get (i := 5) rfl) h7
  (try simp (maxSteps := 1000000) (disch := first | omega | (simp only [Z3]; omega) | (simp; done) | assumption | decide | (refine not_not_intro ?_; assumption)) only [Z1, zl, zf, zbx, zb8, eq_self, true_and, zby, zbt, zb0, zbi, zbc, Heap.get_push_eq, Heap.get_push_lt, Heap.get_set_eq, Heap.get_set_ne', Heap.next_push', Heap.next_set', Heap.set_push_lt, Heap.set_push_eq, Heap.set_set, zbj, zbk, zp, zbn, zbo, zi, zw, zbp, zbd, zu, zbe, zbf, zbg, zbh, List.set_cons_zero, List.set_cons_succ, List.length_cons, List.length_nil, List.drop_succ_cons, List.drop_zero, List.take_succ_cons, List.take_zero, List.nil_append, List.cons_append, splice, zq, zr, zh, ze, zd, zt, zbl, zv, zb2, zbu, zbm, zbs, zg, zm, zbb, Option.map_some, zbq, zbr, zk, zba, z7, zz, zj, zx, zy, gB, dB])
  refine zbmh (h.keep0 sB.keeps) ((hat.2.keep0 kA).keep0 kB) l2 i2 _ fun v2 w2 HC tC => ?_
  have sC := sB.join tC
  simp only [List.cons_append, List.nil_append] at sC
  have hv1 := (sC.own (i := 2) rfl)
  have hv2 := (sC.own (i := 0) rfl)
  have hw1 := (sC.own (i := 3) rfl)
  have hw2 := (sC.own (i := 1) rfl)
  (try simp (maxSteps := 1000000) (disch := first | omega | (simp only [Z3]; omega) | (simp; done) | assumption | decide | (refine not_not_intro ?_; assumption)) only [Z1, zl, zf, zbx, zb8, eq_self, true_and, zby, zbt, zb0, zbi, zbc, Heap.get_push_eq, Heap.get_push_lt, Heap.get_set_eq, Heap.get_set_ne', Heap.next_push', Heap.next_set', Heap.set_push_lt, Heap.set_push_eq, Heap.set_set, zbj, zbk, zp, zbn, zbo, zi, zw, zbp, zbd, zu, zbe, zbf, zbg, zbh, List.set_cons_zero, List.set_cons_succ, List.length_cons, List.length_nil, List.drop_succ_cons, List.drop_zero, List.take_succ_cons, List.take_zero, List.nil_append, List.cons_append, splice, zq, zr, zh, ze, zd, zt, zbl, zv, zb2, zbu, zbm, zbs, zg, zm, zbb, Option.map_some, zbq, zbr, zk, zba, z7, zz, zj, zx, zy])
  refine zbi6 hw1.sl hw2.sl (by simpa using l1) (by simpa using l2) (fun t ht => ?_) (fun t ht => ?_) _ fun pp HD kD => ?_
  · obtain ⟨b, hb, rfl⟩ := List.mem_map.1 ht; exact zbqc hok (i1 b hb)
  · obtain ⟨b, hb, rfl⟩ := List.mem_map.1 ht; exact zbqc hok (i2 b hb)
  have sD := sC.keep0 kD
  have gD := sD.get (i := 6) rfl
  have ov1 := hv1.isOne
  have ov2 := hv2.isOne
  (try simp (maxSteps := 1000000) (disch := first | omega | (simp only [Z3]; omega) | (simp; done) | assumption | decide | (refine not_not_intro ?_; assumption)) only [Z1, zl, zf, zbx, zb8, eq_self, true_and, zby, zbt, zdz, zb0, zbi, zbc, Heap.get_push_eq, Heap.get_push_lt, Heap.get_set_eq, Heap.get_set_ne', Heap.next_push', Heap.next_set', Heap.set_push_lt, Heap.set_push_eq, Heap.set_set, zbj, zbk, zp, zbn, zbo, zi, zw, zbp, zbd, zu, zbe, zbf, zbg, zbh, List.set_cons_zero, List.set_cons_succ, List.length_cons, List.length_nil, List.drop_succ_cons, List.drop_zero, List.take_succ_cons, List.take_zero, List.nil_append, List.cons_append, splice, zq, zr, zh, ze, zd, zt, zbl, zv, zb2, zbu, zbm, zbs, zg, zm, Option.map_some, zbq, zbr, zk, z7, zz, zj, zx, zy, z98, gD])
  have hf : zdm (rep 1 [Value.pointer none, Value.slice none 0 0, Value.slice none 0 0]) [(0, 3, .agg #[ptr pp 0, v1, v2])] = some (zdv ([⟨pp, ⟨v1, [], ov1⟩, ⟨v2, [], ov2⟩⟩] : List Ut)) := by
    show zdm _ [(0, 3, .agg ([ptr pp 0, v1, v2] : List V).toArray)] = _
    rw [zbb (n := 3) (by simp [ov1, ov2]) rfl (by decide), zg]
    rfl
  refine zzt (α := Ut) (n := 3) (ys := [⟨pp, ⟨v1, [], ov1⟩, ⟨v2, [], ov2⟩⟩]) sD (i := 5) rfl rfl (by decide) hf rfl (by rw [hus]; omega) (by rw [hus]; omega) fun uw HE sE => ?_
  simp only [List.set_cons_succ, List.set_cons_zero] at sE
  have gE := sE.get (i := 6) rfl
  have nE := sE.ltAt (i := 6) rfl X (by simp [cel])
  have ou := (sE.own (i := 5) rfl).isOne
  (try simp (maxSteps := 1000000) (disch := first | omega | (simp only [Z3]; omega) | (simp; done) | assumption | decide | (refine not_not_intro ?_; assumption)) only [Z1, Z2, splice, gE])
  have sF := sE.set (i := 6) rfl [ptr bl.p 0, ptr bp 0, uw, wv, i64 s.millis, i64 0]
  simp only [List.set_cons_succ, List.set_cons_zero] at sF
  simp only [ou, true_and]
  generalize HE.set X (some (.cells true [ptr bl.p 0, ptr bp 0, uw, wv, i64 s.millis, i64 0])) = HF at *
  (try simp (maxSteps := 1000000) (disch := first | omega | (simp only [Z3]; omega) | (simp; done) | assumption | decide | (refine not_not_intro ?_; assumption)) only [Z1, Z2, splice, z99])
  have sG := sF.drop 5
  exact ⟨hlt, uw, _, rfl, by rw [List.length_append, hus]; rfl, sG⟩
end Go.AM.Cap
