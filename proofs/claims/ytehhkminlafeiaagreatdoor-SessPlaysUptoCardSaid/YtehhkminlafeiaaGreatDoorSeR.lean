import Derived.Test.YtehhkminlafeiaaGreatDoorSeQ
import Derived.Test.YtehhkminlafeiaaGreatDoorAmOpenF
set_option linter.all false
/- sess: the reference's desk: Login, Open, Reply -/
set_option maxHeartbeats 16000000
namespace Go.AM.Cap
open Go.AM Go.Proofs
theorem zbhh {H0 H : Heap} {L : List Thing} {a b c x : Thing} (h : Hp H0 H (a :: b :: c :: x :: L)) : Hp H0 H (a :: b :: c :: L) := h.sub (((List.sublist_cons_self x L).cons_cons c).cons_cons b |>.cons_cons a)
theorem zbz9 {H0 H : Heap} {L : List Thing} {a b c x : Thing} (h : Hp H0 H (x :: a :: b :: c :: L)) : Hp H0 H (a :: b :: c :: L) := h.tail
set_option maxRecDepth 20000 in
theorem zbwt {H0 H : Heap} {r : Nat} {D : Dk} {uv : V} {ul : List Us} {L : List Thing} {n : Int} (h : ze0 H0 H r D uv L) (hul : Sl H0 uv ul) (hlk : Like ul D.us) (ok : D.Ok n) (un : D.Un) (hn : n ≤ 1000000) (id : Int) (proof : ByteArray) (Q : V → Heap → Prop)
    (hQ : ∀ H', ze0 H0 H' r (zpz D id proof).2 uv L → Q (.tuple #[i64 (zpz D id proof).1.1, i64 (zpz D id proof).1.2]) H') : wp (zg6 [ptr r 0, i64 id, .string proof]) Q H := by
  show wp (zma (ptr r 0) (i64 id) (.string proof)) Q H
  obtain ⟨cv, sv', st0⟩ := h
  have hcl := ok.cl
  have hsl := ok.sl
  have hls := ok.ls
  unfold zpz at hQ
  (try simp (maxSteps := 1000000) (disch := first | omega | (simp only [Z3]; omega) | (simp; done) | assumption | decide | (refine not_not_intro ?_; assumption)) only [Z1, Z2, splice, zma])
  refine zbt (Inv := fun k vs H' => ∃ j : Nat, k = D.cl.length - j ∧ j ≤ D.cl.length ∧ vs = [ptr r 0, i64 id, .string proof, i64 j] ∧ Hp H0 H' (cel r [uv, i64 D.idle, i64 D.frame, cv, sv', i64 D.lc, i64 D.ls] :: own cv (D.cl.map (zgb D.us)) :: own sv' (D.sl.map (zd6 D.us)) :: L) ∧ ∀ m, m < j → decide (id = (D.cl.getD m default).1) = false) (n := D.cl.length) (by unfold zcc; omega)
    ⟨0, by omega, by omega, rfl, st0, by omega⟩ ?_
  rintro k vs H1 ⟨j, hk, hj, rfl, st, hm⟩
  have g := st.get (i := 0) rfl
  have o := st.own (i := 1) rfl
  have hlen := o.len
  rw [List.length_map] at hlen
  by_cases hlt : j < D.cl.length
  case neg =>
    have : j = D.cl.length := by omega
    subst this
    rw [zbgl (p := fun e : Int × Ch => decide (id = e.1)) (d := default) hm] at hQ
    (try simp (maxSteps := 1000000) (disch := first | omega | (simp only [Z3]; omega) | (simp; done) | assumption | decide | (refine not_not_intro ?_; assumption)) only [Z1, Z2, splice, zpv, g, hlen, zwe])
    exact hQ _ ⟨_, _, st⟩
  have hlm : j < (D.cl.map (zgb D.us)).length := by simpa using hlt
  have a1 := o.sl.addr' (n := 4) rfl (k := .i64) (i := (j : Int)) (by omega) (by omega)
  rw [Int.toNat_natCast] at a1
  have r1 := fun Q => o.sl.ldn' (Q := Q) (n := 4) rfl hlm default
  have hmem := zdx (d := default) hlt
  have hck := ok.ck _ hmem
  rw [zkc (d' := default) hlt] at r1
  have hdef := fun (hx : id = (D.cl.getD j default).1) => zxi (p := fun e : Int × Ch => decide (id = e.1)) (d := default) hlt (decide_eq_true hx) hm
  have hnext := fun (hx : ¬ id = (D.cl.getD j default).1) (m : Nat) (hm' : m < j + 1) => (show decide (id = (D.cl.getD m default).1) = false from by
    rcases Nat.lt_or_eq_of_le (Nat.lt_succ_iff.1 hm') with z | rfl
    · exact hm m z
    · exact decide_eq_false hx)
  generalize hcj : D.cl.getD j default = e at *
  obtain ⟨eid, c⟩ := e
  dsimp only at hck hdef hnext
  have er : zgb D.us (eid, c) = ⟨eid, zhv D.us c.user, c.frame, c.nonce⟩ := rfl
  rw [er, zbut] at r1
  dsimp only at r1
  (try simp (maxSteps := 1000000) (disch := first | omega | (simp only [Z3]; omega) | (simp; done) | assumption | decide | (refine not_not_intro ?_; assumption)) only [Z1, zl, zr, zcr, zeh, eq_self, true_and, zcu, zck, zc6, zby, zbu, Heap.get_push_eq, Heap.get_push_lt, Heap.get_set_eq, Heap.get_set_ne', Heap.next_push', Heap.next_set', Heap.set_push_lt, Heap.set_push_eq, Heap.set_set, zbz, zb0, zbf, zb3, zb4, z4, zbh, zb5, zbq, zbe, zbv, zbw, zbo, zbx, List.set_cons_zero, List.set_cons_succ, List.length_cons, List.length_nil, List.drop_succ_cons, List.drop_zero, List.take_succ_cons, List.take_zero, List.nil_append, List.cons_append, splice, zbb, zbc, z0, zq, zm, zbd, zb1, zbg, zc8, zcm, zb2, zb8, zx, zo, z9, Option.map_some, zb6, zbn, z6, zbi, zbj, zbk, z5, zbl, zbm, zpv, g, hlen, zwd, a1, r1])
  have stx := st.newc [i64 eid, i64 (zhv D.us c.user), i64 c.frame, .string c.nonce]
  have nx1 : (H1.push (some (.cells true [i64 eid, i64 (zhv D.us c.user), i64 c.frame, .string c.nonce]))).next = H1.next + 1 := by simp
  generalize hxx : H1.next = x at *
  have hst1 : Keeps [] H1 (H1.push (some (.cells true [i64 eid, i64 (zhv D.us c.user), i64 c.frame, .string c.nonce]))) := Keeps.push _ _ _
  generalize H1.push (some (.cells true [i64 eid, i64 (zhv D.us c.user), i64 c.frame, .string c.nonce])) = H2 at *
  by_cases hx : id = eid
  case neg =>
    have hx' : ¬ eid = id := fun q => hx q.symm
    (try simp (maxSteps := 1000000) (disch := first | omega | (simp only [Z3]; omega) | (simp; done) | assumption | decide | (refine not_not_intro ?_; assumption)) only [Z1, Z2, splice, zwc])
    exact ⟨D.cl.length - (j + 1), by omega, j + 1, rfl, by omega, by push_cast; rfl, zbz9 stx, hnext hx⟩
  subst hx
  rw [hdef rfl] at hQ
  dsimp only at hQ
  rw [hcj] at hQ
  dsimp only at hQ
  obtain ⟨q1, q2, q3, q4, q5, q6⟩ := hck
  have hil := hdef rfl
  have hpu := un.users _ q1
  have st2 : Hp H0 H2 (cel r [uv, i64 D.idle, i64 D.frame, cv, sv', i64 D.lc, i64 D.ls] :: own cv (D.cl.map (zgb D.us)) :: own sv' (D.sl.map (zd6 D.us)) :: cel x [i64 id, i64 (zhv D.us c.user), i64 c.frame, .string c.nonce] :: L) := Hp.rotN [] [_] [_, _, _] stx
  have g2 := st2.get (i := 0) rfl
  have o2 := st2.own (i := 1) rfl
  have hlmm : (D.cl.map (zgb D.us)).length = D.cl.length := List.length_map _
  obtain ⟨w1, hw1, hs1, hv1⟩ := zbj8 (n := 4) rfl o2.sl (k := j) (by omega)
  obtain ⟨w2, hw2, hs2, hv2⟩ := zbd8 (n := 4) rfl o2.sl (k := j + 1) (by omega)
  have hw2' : zh7 4 cv (some (i64 ((j : Int) + 1))) none = some w2 := by rw [← hw2]; rfl
  (try simp (maxSteps := 1000000) (disch := first | omega | (simp only [Z3]; omega) | (simp; done) | assumption | decide | (refine not_not_intro ?_; assumption)) only [Z1, Z2, splice, zwb, g2, hw1, hw2'])
  refine (zgv (cs := zba ([] : List Rch)) (by rfl) (by rfl)).mpr ?_
  have k3 : Keeps [] H2 (H2.push (some (.cells true (zba ([] : List Rch))))) := Keeps.push _ _ _
  have o3 := zd1 (H := H2) (xs := ([] : List Rch)) (n := 4) (m := 0) rfl rfl
  generalize H2.push (some (.cells true (zba ([] : List Rch)))) = H3 at *
  have g3 := k3.get g2 (by simp)
  (try simp (maxSteps := 1000000) (disch := first | omega | (simp only [Z3]; omega) | (simp; done) | assumption | decide | (refine not_not_intro ?_; assumption)) only [Z1, Z2, splice, g3])
  refine zbhg (ys := ([] : List Rch)) st2 k3 (Nat.le_refl _) o3 rfl (hs1.keep0 k3) (by simp; omega) (by simp; omega) fun w H4 st4 o4 k4 same4 nx4 v4 => ?_
  have g4 := k4.get g2 (by simp)
  (try simp (maxSteps := 1000000) (disch := first | omega | (simp only [Z3]; omega) | (simp; done) | assumption | decide | (refine not_not_intro ?_; assumption)) only [Z1, Z2, splice, g4])
  refine zbcc (i := 0) st4 rfl rfl (hs2.keep0 k4) (by simp; omega) (by simp; omega) fun w3 H5 st5 => ?_
  have st5' : Hp H0 H5 (own w3 (([] ++ (D.cl.map (zgb D.us)).take j) ++ (D.cl.map (zgb D.us)).drop (j + 1)) :: cel r [uv, i64 D.idle, i64 D.frame, cv, sv', i64 D.lc, i64 D.ls] :: own cv (D.cl.map (zgb D.us)) :: own sv' (D.sl.map (zd6 D.us)) :: cel x [i64 id, i64 (zhv D.us c.user), i64 c.frame, .string c.nonce] :: L) := st5
  have g5 := st5'.get (i := 1) rfl
  have l5 := Heap.get_lt g5
  have ow := (st5'.own (i := 0) rfl).isOne
  have cks : zwp (some cv) cv = true := zbhf o2
  (try simp (maxSteps := 1000000) (disch := first | omega | (simp only [Z3]; omega) | (simp; done) | assumption | decide | (refine not_not_intro ?_; assumption)) only [Z1, Z2, splice, g5, g3, g4, ow, cks])
  have st6 := st5'.set (i := 1) rfl [uv, i64 D.idle, i64 D.frame, w3, sv', i64 D.lc, i64 D.ls]
  have e1 : (z5z D id).cl.map (zgb D.us) = ([] ++ (D.cl.map (zgb D.us)).take j) ++ (D.cl.map (zgb D.us)).drop (j + 1) := by
    unfold z5z
    dsimp only
    rw [zxh un.c hil, List.nil_append, ← z8d, List.map_append, List.map_take, List.map_drop]
  rw [← e1] at st6
  have st7 := zboy st6
  generalize H5.set r (some (.cells true [uv, i64 D.idle, i64 D.frame, w3, sv', i64 D.lc, i64 D.ls])) = H6 at *
  clear st6
  have g7 := st7.get (i := 0) rfl
  have gx7 := st7.get (i := 3) rfl
  have hus := hul.keep0 st7.keeps
  have hll := hlk.len
  have hpl : zhv D.us c.user < D.us.length := by
    obtain ⟨i0, hi0, e0⟩ := List.getElem_of_mem q1
    unfold zhv
    cases hfq : zg1 D.us c.user.name with
    | none => have := zzx.1 hfq _ q1; exact absurd rfl this
    | some p => exact (zey (d := default) hfq).1
  have au := hus.addr' (n := 3) rfl (k := .i64) (i := ((zhv D.us c.user : Nat) : Int)) (by omega) (by omega)
  have cu := hus.cell' (n := 3) rfl (i := zhv D.us c.user) (off := 1) (by omega) (by omega) default
  rw [Int.toNat_natCast] at au
  have hkey : (ul.getD (zhv D.us c.user) default).key = c.user.key := by rw [(hlk.at _).2, hpu]
  rw [zl, show (Flat.enc (ul.getD (zhv D.us c.user) default))[1]? = some (.string (ul.getD (zhv D.us c.user) default).key) from rfl, hkey] at cu
  (try simp (maxSteps := 1000000) (disch := first | omega | (simp only [Z3]; omega) | (simp; done) | assumption | decide | (refine not_not_intro ?_; assumption)) only [Z1, Z2, splice, g7, gx7, au, cu])
  have hks := (ok.uk _ q1).1
  refine zbmg c.user.key c.nonce id (by omega) (by omega) _ fun H7 k7 => ?_
  have st8 := st7.keep0 k7
  have g8 := st8.get (i := 0) rfl
  have gx8 := st8.get (i := 3) rfl
  generalize zos c.user.key c.nonce id = pr at *
  obtain ⟨right, key⟩ := pr
  dsimp only at hQ ⊢
  by_cases hp : right = proof
  case neg =>
    rw [if_pos hp] at hQ
    have hp' : ¬ proof = right := fun q => hp q.symm
    (try simp (maxSteps := 1000000) (disch := first | omega | (simp only [Z3]; omega) | (simp; done) | assumption | decide | (refine not_not_intro ?_; assumption)) only [Z1, Z2, splice])
    exact hQ _ ⟨_, _, zbhh st8⟩
  rw [if_neg (by simp [hp])] at hQ
  have hp' : proof = right := hp.symm
  have hlen8 := (st8.own (i := 2) rfl).len
  rw [List.length_map] at hlen8
  by_cases h8 : D.sl.length = 8
  · rw [if_pos h8] at hQ
    (try simp (maxSteps := 1000000) (disch := first | omega | (simp only [Z3]; omega) | (simp; done) | assumption | decide | (refine not_not_intro ?_; assumption)) only [Z1, Z2, splice, zpu, g8, hlen8])
    exact hQ _ ⟨_, _, zbhh st8⟩
  rw [if_neg h8] at hQ
  (try simp (maxSteps := 1000000) (disch := first | omega | (simp only [Z3]; omega) | (simp; done) | assumption | decide | (refine not_not_intro ?_; assumption)) only [Z1, Z2, splice, zpu, g8, hlen8, zwa])
  have st1 := st8.set (i := 0) rfl [uv, i64 D.idle, i64 D.frame, w3, sv', i64 D.lc, i64 (D.ls + 1)]
  have st1' : Hp H0 (H7.set r (some (.cells true [uv, i64 D.idle, i64 D.frame, w3, sv', i64 D.lc, i64 (D.ls + 1)]))) (cel r [uv, i64 D.idle, i64 D.frame, w3, sv', i64 D.lc, i64 (D.ls + 1)] :: own w3 ((z5z D id).cl.map (zgb D.us)) :: own sv' (D.sl.map (zd6 D.us)) :: cel x [i64 id, i64 (zhv D.us c.user), i64 c.frame, .string c.nonce] :: L) := st1
  clear st1
  generalize H7.set r (some (.cells true [uv, i64 D.idle, i64 D.frame, w3, sv', i64 D.lc, i64 (D.ls + 1)])) = HA at *
  refine zrj.mpr ?_
  rw [zbn]
  obtain ⟨kb, f20, f21, n2⟩ := zbz5 HA
  generalize (HA.push none).push none = HB at *
  have stb := st1'.keep0 kb
  have gb := stb.get (i := 0) rfl
  have gxb := stb.get (i := 3) rfl
  (try simp (maxSteps := 1000000) (disch := first | omega | (simp only [Z3]; omega) | (simp; done) | assumption | decide | (refine not_not_intro ?_; assumption)) only [Z1, Z2, splice, gb, gxb])
  refine zgq (cs := zba ([] : List Rse)) f20 (by omega) (by rfl) (by rfl) ?_
  have kc : Keeps [HA.next] HB (HB.set HA.next (some (.cells true (zba ([] : List Rse))))) := Keeps.set (by simp)
  have oc : zcj (HB.set HA.next (some (.cells true (zba ([] : List Rse))))) (slc HA.next 0 5 0 0) ([] : List Rse) := .inr ⟨HA.next, rfl, Heap.get_set_eq (by omega)⟩
  have nc : (HB.set HA.next (some (.cells true (zba ([] : List Rse))))).next = HB.next := by simp
  generalize HB.set HA.next (some (.cells true (zba ([] : List Rse)))) = HC at *
  have kkc : Keeps [] HA HC := kb.trans kc (fun b hb hm => by simp at hm; omega)
  have f31 : HC.get (HA.next + 1) = none := by rw [kc.same _ (by omega) (by simp)]; exact f21
  (try simp (maxSteps := 1000000) (disch := first | omega | (simp only [Z3]; omega) | (simp; done) | assumption | decide | (refine not_not_intro ?_; assumption)) only [Z1, Z2, splice])
  refine zbhg (ys := ([] : List Rse)) st1' kkc (Nat.le_refl _) oc rfl ((st1'.keep0 kkc).own (i := 2) rfl).sl (by simp; omega) (by simp; omega) fun y HD std od kd samed nxd vd => ?_
  have f41 : HD.get (HA.next + 1) = none := by rw [samed _ (by omega) (by omega)]; exact f31
  have fr3 : zej HC [HA.next + 1] = true := by rw [zgp f31 (by omega)]; rfl
  have fr4 : zej HD [HA.next + 1] = true := by rw [zgp f41 (by omega)]; rfl
  have gd := std.get (i := 1) rfl
  have gxd := std.get (i := 4) rfl
  (try simp (maxSteps := 1000000) (disch := first | omega | (simp only [Z3]; omega) | (simp; done) | assumption | decide | (refine not_not_intro ?_; assumption)) only [Z1, Z2, splice, fr3, fr4, Bool.and_self])
  obtain ⟨nw, hnw⟩ : ∃ nw : Rse, nw = ⟨D.ls + 1, zhv D.us c.user, 1, D.frame, key⟩ := ⟨_, rfl⟩
  have hfill : zef (rep 1 [Value.int .i64 0, Value.int .i64 0, Value.int .i64 0, Value.int .i64 0, (Value.string ⟨#[]⟩ : V)]) [(0, 5, .agg #[i64 (D.ls + 1), i64 (zhv D.us c.user), .int .i64 1, i64 D.frame, .string key])] = some (zba [nw]) := by rw [hnw]; rfl
  refine zgq (cs := zba [nw]) f41 (by omega) (by rfl) hfill ?_
  have ke : Keeps [HA.next + 1] HD (HD.set (HA.next + 1) (some (.cells true (zba [nw])))) := Keeps.set (by simp)
  have oe : zcj (HD.set (HA.next + 1) (some (.cells true (zba [nw])))) (slc (HA.next + 1) 0 5 1 1) [nw] := .inr ⟨_, rfl, Heap.get_set_eq (by omega)⟩
  generalize HD.set (HA.next + 1) (some (.cells true (zba [nw]))) = HE at *
  have hn0 := st1'.keeps.next
  have ste := std.keep ke (fun b hb => by
    simp at hb
    subst hb
    refine ⟨by omega, fun t ht => ?_⟩
    rcases List.mem_cons.1 ht with rfl | ht
    · intro q
      rcases vd _ q with z | z
      · omega
      · omega
    · intro q
      have := t.lt (st1'.all t ht) _ q
      omega)
  (try simp (maxSteps := 1000000) (disch := first | omega | (simp only [Z3]; omega) | (simp; done) | assumption | decide | (refine not_not_intro ?_; assumption)) only [Z1, Z2, splice])
  refine zbcc (i := 0) ste rfl rfl oe.sl (by simp; omega) (by simp; omega) fun z HF stf => ?_
  have stf' : Hp H0 HF (own z (([] ++ D.sl.map (zd6 D.us)) ++ [nw]) :: cel r [uv, i64 D.idle, i64 D.frame, w3, sv', i64 D.lc, i64 (D.ls + 1)] :: own w3 ((z5z D id).cl.map (zgb D.us)) :: own sv' (D.sl.map (zd6 D.us)) :: cel x [i64 id, i64 (zhv D.us c.user), i64 c.frame, .string c.nonce] :: L) := stf
  have gf := stf'.get (i := 1) rfl
  have lf := Heap.get_lt gf
  have owf := (stf'.own (i := 0) rfl).isOne
  (try simp (maxSteps := 1000000) (disch := first | omega | (simp only [Z3]; omega) | (simp; done) | assumption | decide | (refine not_not_intro ?_; assumption)) only [Z1, Z2, splice, gf, gd, gxd, owf])
  have stg := stf'.set (i := 1) rfl [uv, i64 D.idle, i64 D.frame, w3, z, i64 D.lc, i64 (D.ls + 1)]
  refine hQ _ ⟨w3, z, ?_⟩
  have e2 : (D.sl ++ [(D.ls + 1, (⟨c.user, key, 1, D.frame⟩ : Se))]).map (zd6 (z5z D id).us) = ([] ++ D.sl.map (zd6 D.us)) ++ [nw] := by
    rw [List.map_append, List.nil_append, hnw]
    rfl
  dsimp only
  rw [e2]
  exact zbhh (zboz stg)
theorem zbux (b : List (BitVec 8)) : (zee b).1.length ≤ 1000 := by
  cases hd : (zee b).2 with
  | none => exact (zb1e hd).2
  | some e => rw [(zbq4 hd).1]; simp
set_option maxRecDepth 20000 in
theorem zb0a {H0 H : Heap} {r : Nat} {D : Dk} {uv : V} {ul : List Us} {L : List Thing} {n : Int} (h : ze0 H0 H r D uv L) (hul : Sl H0 uv ul) (hlk : Like ul D.us) (ok : D.Ok n) (un : D.Un) (hn : n ≤ 1000000) (m : ByteArray) (hm : m.size ≤ 1048576) (Q : V → Heap → Prop)
    (hQ : ∀ w H', ze0 H0 H' r (zgk D m).2 uv (view w (zgk D m).1.2.2.1 :: L) → Q (.tuple #[i64 (zgk D m).1.1, .string (zgk D m).1.2.1, w, i64 (zgk D m).1.2.2.2]) H') : wp (zh4 [ptr r 0, .string m]) Q H := by
  show wp (zj9 (ptr r 0) (.string m)) Q H
  have h' := h
  obtain ⟨cv, sv', st⟩ := h
  have hbad : ∀ H' e M, Hp H0 H' (cel r [uv, i64 D.idle, i64 D.frame, cv, sv', i64 D.lc, i64 D.ls] :: own cv (D.cl.map (zgb D.us)) :: own sv' (D.sl.map (zd6 D.us)) :: (M ++ L)) → zgk D m = ((0, ⟨#[]⟩, [], e), D) → Q (.tuple #[i64 0, .string ⟨#[]⟩, .slice none 0 0, i64 e]) H' := fun H' e M hk q => by
    rw [q] at hQ
    have hk2 : Hp H0 H' (cel r [uv, i64 D.idle, i64 D.frame, cv, sv', i64 D.lc, i64 D.ls] :: own cv (D.cl.map (zgb D.us)) :: own sv' (D.sl.map (zd6 D.us)) :: L) := hk.sub ((((List.sublist_append_right M L).cons_cons _).cons_cons _).cons_cons _)
    have st1 := hk2.add (Keeps.refl _ _) (t := view (.slice none 0 0) ([] : List It)) (Sl.nil _) (by simp [view])
    exact hQ _ H' ⟨_, _, Hp.rotN [] [_] [_, _, _] st1⟩
  by_cases hsz : m.size < 32
  · have hsz' : ((m.size : Int) - 32 < 0) := by omega
    (try simp (maxSteps := 1000000) (disch := first | omega | (simp only [Z3]; omega) | (simp; done) | assumption | decide | (refine not_not_intro ?_; assumption)) only [Z1, Z2, splice, zj9])
    exact hbad _ _ [] st (by unfold zgk zlo; rw [if_pos hsz])
  have hsz' : ¬ ((m.size : Int) - 32 < 0) := by omega
  have hsub := zbrj (s := m) (by omega) hm
  (try simp (maxSteps := 1000000) (disch := first | omega | (simp only [Z3]; omega) | (simp; done) | assumption | decide | (refine not_not_intro ?_; assumption)) only [Z1, Z2, splice, zj9, zy8, hsub])
  refine zb06 _ _ fun w H2 k2 o2 f2 hcode => ?_
  have hsays : zlo m = if (zee (bv (body m))).2 = none then zkb (zee (bv (body m))).1 else none := by unfold zlo; rw [if_neg hsz]
  have hdl := zbux (bv (body m))
  generalize bv (body m) = bs at *
  have k3 : Keeps [] H2 (H2.push (some (.cells true [i64 (zdz (zee bs).2).1, i64 (zdz (zee bs).2).2]))) := Keeps.push _ _ _
  have g3 : (H2.push (some (.cells true [i64 (zdz (zee bs).2).1, i64 (zdz (zee bs).2).2]))).get H2.next = some (.cells true [i64 (zdz (zee bs).2).1, i64 (zdz (zee bs).2).2]) := Heap.get_push_self _ _
  have k03 := k2.trans k3 (by simp)
  have o3 := o2.keep0 k3
  (try simp (maxSteps := 1000000) (disch := first | omega | (simp only [Z3]; omega) | (simp; done) | assumption | decide | (refine not_not_intro ?_; assumption)) only [Z1, zl, zr, zcr, zeh, eq_self, true_and, zcu, zck, zf0, zc6, zby, zbu, Heap.get_set_eq, Heap.get_set_ne', Heap.next_push', Heap.next_set', Heap.set_push_lt, Heap.set_push_eq, Heap.set_set, zbz, zb0, zbf, zb3, zb4, z4, zbh, zb5, zbq, zbe, zbv, zbw, zbo, zbx, List.set_cons_zero, List.set_cons_succ, List.length_cons, List.length_nil, List.drop_succ_cons, List.drop_zero, List.take_succ_cons, List.take_zero, List.nil_append, List.cons_append, splice, zbb, zbc, z0, zq, zm, zbd, zb1, zbg, zc8, zcm, zb2, zb8, zx, zo, z9, Option.map_some, zb6, zbn, z6, zbi, zbj, zbk, z5, zbl, zbm])
  generalize H2.push (some (.cells true [i64 (zdz (zee bs).2).1, i64 (zdz (zee bs).2).2])) = H3 at *
  have hcode2 : (zdz (zee bs).2).2 = 0 ↔ (zee bs).2 = none := by
    cases hd : (zee bs).2 with
    | none => simp [zdz]
    | some c => have := hcode c hd; simp [zdz, this]
  generalize zdz (zee bs).2 = f at *
  have st3 := st.keep0 k03
  refine zbrd (at' := 0) o3.sl (by omega) (by omega) _ (fun hnn => ?_) (fun a b rest hnn => ?_)
  · rw [List.drop_zero] at hnn
    have hno : zlo m = none := by
      rw [hsays]; split
      · exact hnn
      · rfl
    have hq := hbad H3 3 [] st3 (by unfold zgk; rw [hno])
    by_cases hf : f.2 = 0
    · (try simp (maxSteps := 1000000) (disch := first | omega | (simp only [Z3]; omega) | (simp; done) | assumption | decide | (refine not_not_intro ?_; assumption)) only [Z1, Z2, splice, g3])
      exact hq
    · (try simp (maxSteps := 1000000) (disch := first | omega | (simp only [Z3]; omega) | (simp; done) | assumption | decide | (refine not_not_intro ?_; assumption)) only [Z1, Z2, splice, g3])
      exact hq
  rw [List.drop_zero] at hnn
  by_cases hf : f.2 = 0
  case neg =>
    have hno : zlo m = none := by rw [hsays, if_neg (fun q => hf (hcode2.2 q))]
    have hq := hbad H3 3 [] st3 (by unfold zgk; rw [hno])
    (try simp (maxSteps := 1000000) (disch := first | omega | (simp only [Z3]; omega) | (simp; done) | assumption | decide | (refine not_not_intro ?_; assumption)) only [Z1, Z2, splice, g3])
    exact hq
  have hyes : zlo m = some (a, b, rest) := by rw [hsays, if_pos (hcode2.1 hf), hnn]
  obtain ⟨hrest, hr2⟩ := zban hnn
  have o3' : (own w (zee bs).1).P H3 := o3
  have st4a := st.add k03 o3' f2
  have st4 := Hp.rotN [] [_] [_, _, _] st4a
  have h4 : ze0 H0 H3 r D uv (own w (zee bs).1 :: L) := ⟨_, _, st4⟩
  (try simp (maxSteps := 1000000) (disch := first | omega | (simp only [Z3]; omega) | (simp; done) | assumption | decide | (refine not_not_intro ?_; assumption)) only [Z1, Z2, splice, g3, zy7])
  refine zbfk h4 ok a _ ?_
  cases hi : zgj (fun e : Int × Se => decide (a = e.1)) D.sl with
  | none =>
    have hq := hbad H3 251 [_] st4 (by unfold zgk; rw [hyes]; dsimp only; rw [hi])
    (try simp (maxSteps := 1000000) (disch := first | omega | (simp only [Z3]; omega) | (simp; done) | assumption | decide | (refine not_not_intro ?_; assumption)) only [Z1, Z2, splice, zzu])
    exact hq
  | some i =>
    obtain ⟨hil, hp, _⟩ := zey (d := default) hi
    have hida := (of_decide_eq_true hp).symm
    have hmem := zdx (d := default) hil
    obtain ⟨q1, q2, q3, q4, q5, q6, q7, q8⟩ := ok.sk _ hmem
    have hn' : ¬ ((i : Int) < 0) := by omega
    have g4 := st4.get (i := 0) rfl
    have os4 := st4.own (i := 2) rfl
    have hlm : i < (D.sl.map (zd6 D.us)).length := by simpa using hil
    have a1 := os4.sl.addr' (n := 5) rfl (k := .i64) (i := (i : Int)) (by omega) (by omega)
    rw [Int.toNat_natCast] at a1
    have r1 := fun Q => os4.sl.ldn' (Q := Q) (n := 5) rfl hlm default
    rw [zkc (d' := default) hil] at r1
    have husd0 : zgk D m = if (zzr (D.sl.getD i default).2.key m).2 ≠ 0 then ((0, ⟨#[]⟩, [], (zzr (D.sl.getD i default).2.key m).2), D) else if b ≠ (D.sl.getD i default).2.next then ((0, ⟨#[]⟩, [], 250), D) else ((a, (D.sl.getD i default).2.user.name, rest, 0), z50 D i a (D.sl.getD i default).2) := by
      unfold zgk; rw [hyes]; dsimp only; rw [hi]
    generalize hsd : D.sl.getD i default = e at *
    obtain ⟨eid, s⟩ := e
    dsimp only at hida q1 q2 q3 q4 q5 q6 q7 q8 husd0
    subst hida
    have er : zd6 D.us (eid, s) = ⟨eid, zhv D.us s.user, s.next, s.frame, s.key⟩ := rfl
    rw [er, zbuu] at r1
    dsimp only at r1
    (try simp (maxSteps := 1000000) (disch := first | omega | (simp only [Z3]; omega) | (simp; done) | assumption | decide | (refine not_not_intro ?_; assumption)) only [Z1, zl, zr, zcr, zeh, eq_self, true_and, zcu, zck, zc6, zby, zbu, Heap.get_push_eq, Heap.get_push_lt, Heap.get_set_eq, Heap.get_set_ne', Heap.next_push', Heap.next_set', Heap.set_push_lt, Heap.set_push_eq, Heap.set_set, zbz, zb0, zbf, zb3, zb4, z4, zbh, zb5, zbq, zbe, zbv, zbw, zbo, zbx, List.set_cons_zero, List.set_cons_succ, List.length_cons, List.length_nil, List.drop_succ_cons, List.drop_zero, List.take_succ_cons, List.take_zero, List.nil_append, List.cons_append, splice, zbb, zbc, z0, zq, zm, zbd, zb1, zbg, zc8, zcm, zb2, zb8, zx, zo, z9, Option.map_some, zb6, zbn, z6, zbi, zbj, zbk, z5, zbl, zbm, zzu, zy6, g4, a1, r1])
    have stx := st4.newc [i64 eid, i64 (zhv D.us s.user), i64 s.next, i64 s.frame, .string s.key]
    generalize hxx : H3.next = x at *
    generalize H3.push (some (.cells true [i64 eid, i64 (zhv D.us s.user), i64 s.next, i64 s.frame, .string s.key])) = H5 at *
    have st5 : Hp H0 H5 (cel r [uv, i64 D.idle, i64 D.frame, cv, sv', i64 D.lc, i64 D.ls] :: own cv (D.cl.map (zgb D.us)) :: own sv' (D.sl.map (zd6 D.us)) :: cel x [i64 eid, i64 (zhv D.us s.user), i64 s.next, i64 s.frame, .string s.key] :: own w (zee bs).1 :: L) := Hp.rotN [] [_] [_, _, _] stx
    have g5 := st5.get (i := 0) rfl
    have gx5 := st5.get (i := 3) rfl
    have hfoot : zp0 (.string m) (some (i64 ((m.size : Int) - 32))) none = some (.string (foot m)) := by
      rw [zbg7 (by omega) (by omega)]
      unfold foot
      rw [show ((m.size : Int) - 32).toNat = m.size - 32 from by omega]
    have hbs : (body m).size ≤ 1048576 := by rw [zbmd (by omega)]; omega
    (try simp (maxSteps := 1000000) (disch := first | omega | (simp only [Z3]; omega) | (simp; done) | assumption | decide | (refine not_not_intro ?_; assumption)) only [Z1, Z2, splice, gx5, hsub, hfoot])
    refine zxg H5 s.key (body m) (by omega) (by omega) _ fun H6 k6 => ?_
    have st6 := st5.keep0 k6
    have g6 := st6.get (i := 0) rfl
    have gx6 := st6.get (i := 3) rfl
    have hos : (zzr s.key m).2 = if sv (tag (bv s.key) (bv (body m))) = foot m then 0 else 20 := by
      unfold zzr
      by_cases q : sv (tag (bv s.key) (bv (body m))) = foot m
      · rw [if_pos ⟨by omega, q⟩, if_pos q]
      · rw [if_neg (fun z => q z.2), if_neg q]
    by_cases htg : sv (tag (bv s.key) (bv (body m))) = foot m
    case neg =>
      rw [if_neg htg] at hos
      rw [hos, if_pos (by decide)] at husd0
      have hq := hbad H6 20 [_, _] st6 husd0
      (try simp (maxSteps := 1000000) (disch := first | omega | (simp only [Z3]; omega) | (simp; done) | assumption | decide | (refine not_not_intro ?_; assumption)) only [Z1, Z2, splice])
      exact hq
    rw [if_pos htg] at hos
    rw [hos, if_neg (by decide)] at husd0
    (try simp (maxSteps := 1000000) (disch := first | omega | (simp only [Z3]; omega) | (simp; done) | assumption | decide | (refine not_not_intro ?_; assumption)) only [Z1, Z2, splice, zy5, gx6])
    by_cases hnx : b = s.next
    case neg =>
      rw [if_pos hnx] at husd0
      have hq := hbad H6 250 [_, _] st6 husd0
      (try simp (maxSteps := 1000000) (disch := first | omega | (simp only [Z3]; omega) | (simp; done) | assumption | decide | (refine not_not_intro ?_; assumption)) only [Z1, Z2, splice])
      exact hq
    rw [if_neg (by simp [hnx])] at husd0
    rw [husd0] at hQ
    (try simp (maxSteps := 1000000) (disch := first | omega | (simp only [Z3]; omega) | (simp; done) | assumption | decide | (refine not_not_intro ?_; assumption)) only [Z1, Z2, splice, zy4, gx6])
    have hrx : r ≠ x := fun q => st6.apart2 (i := 0) (j := 3) rfl rfl (by omega) r (by simp [cel]) (by simp [cel, q])
    have hlx := Heap.get_lt gx6
    (try simp (maxSteps := 1000000) (disch := first | omega | (simp only [Z3]; omega) | (simp; done) | assumption | decide | (refine not_not_intro ?_; assumption)) only [Z1, zl, zr, zcr, zeh, eq_self, true_and, zck, zf0, zc6, zby, zbu, Heap.get_push_eq, Heap.get_push_lt, Heap.get_set_eq, Heap.get_set_ne', Heap.next_push', Heap.next_set', Heap.set_push_lt, Heap.set_push_eq, Heap.set_set, zbz, zb0, zbf, zb3, zb4, z4, zbh, zb5, zbq, zbe, zbv, zbw, zbo, zbx, List.set_cons_zero, List.set_cons_succ, List.length_cons, List.length_nil, List.drop_succ_cons, List.drop_zero, List.take_succ_cons, List.take_zero, List.nil_append, List.cons_append, splice, zbb, zbc, z0, zq, zm, zbd, zb1, zbg, zc8, zcm, zb2, zb8, zx, zo, z9, Option.map_some, zb6, zbn, z6, zbi, zbj, zbk, z5, zbl, zbm, g6, a1])
    have st7 := st6.set (i := 3) rfl [i64 eid, i64 (zhv D.us s.user), i64 (s.next + 1), i64 D.frame, .string s.key]
    have st7' : Hp H0 (H6.set x (some (.cells true [i64 eid, i64 (zhv D.us s.user), i64 (s.next + 1), i64 D.frame, .string s.key]))) (cel r [uv, i64 D.idle, i64 D.frame, cv, sv', i64 D.lc, i64 D.ls] :: own cv (D.cl.map (zgb D.us)) :: own sv' (D.sl.map (zd6 D.us)) :: cel x [i64 eid, i64 (zhv D.us s.user), i64 (s.next + 1), i64 D.frame, .string s.key] :: own w (zee bs).1 :: L) := st7
    clear st7
    generalize H6.set x (some (.cells true [i64 eid, i64 (zhv D.us s.user), i64 (s.next + 1), i64 D.frame, .string s.key])) = H7 at *
    obtain ⟨s2, hs2⟩ : ∃ s2 : Se, s2 = { s with next := s.next + 1, frame := D.frame } := ⟨_, rfl⟩
    have es2 : Flat.enc (zd6 D.us (eid, s2)) = [i64 eid, i64 (zhv D.us s.user), i64 (s.next + 1), i64 D.frame, .string s.key] := by rw [hs2]; rfl
    rw [show (Value.agg #[i64 eid, i64 (zhv D.us s.user), i64 (s.next + 1), i64 D.frame, .string s.key] : V) = .agg (Flat.enc (zd6 D.us (eid, s2))).toArray from by rw [es2]]
    refine zbyf (x' := zd6 D.us (eid, s2)) (idx := 2) (n := 5) st7' rfl rfl hlm fun H8 st8 => ?_
    have em : (D.sl.map (zd6 D.us)).set i (zd6 D.us (eid, s2)) = (D.sl.set i (eid, s2)).map (zd6 D.us) := by rw [List.map_set]
    have st8' : Hp H0 H8 (cel r [uv, i64 D.idle, i64 D.frame, cv, sv', i64 D.lc, i64 D.ls] :: own cv (D.cl.map (zgb D.us)) :: own sv' ((D.sl.set i (eid, s2)).map (zd6 D.us)) :: cel x [i64 eid, i64 (zhv D.us s.user), i64 (s.next + 1), i64 D.frame, .string s.key] :: own w (zee bs).1 :: L) := by rw [← em]; exact st8
    clear st8
    have gx8 := st8'.get (i := 3) rfl
    have hus1 : z50 D i eid s = if s.next + 1 > 1073741824 then zbke { D with sl := D.sl.set i (eid, s2) } eid else { D with sl := D.sl.set i (eid, s2) } := by rw [hs2]; rfl
    have hll := hlk.len
    have hpu := un.users _ q1
    have hpl : zhv D.us s.user < D.us.length := by
      unfold zhv
      cases hfq : zg1 D.us s.user.name with
      | none => have := zzx.1 hfq _ q1; exact absurd rfl this
      | some p => exact (zey (d := default) hfq).1
    have husl := ok.us
    have fin : ∀ (D2 : Dk) H9, D2.us = D.us → ze0 H0 H9 r D2 uv (cel x [i64 eid, i64 (zhv D.us s.user), i64 (s.next + 1), i64 D.frame, .string s.key] :: own w (zee bs).1 :: L) → (∀ w' H', ze0 H0 H' r D2 uv (view w' rest :: L) → Q (.tuple #[i64 eid, .string s.user.name, w', i64 0]) H') → wp (zq9 [ptr r 0, w, i64 eid, ptr x 0]) (fun b H' => wp (zcf b fun vs => ret (zca [zc vs 0, zc vs 1, zc vs 2, zc vs 3])) Q H') H9 := by
      intro D2 H9 hD2 h9 hQ2
      obtain ⟨cv2, sv2, st9⟩ := h9
      have g9 := st9.get (i := 0) rfl
      have gx9 := st9.get (i := 3) rfl
      have ow9 := st9.own (i := 4) rfl
      obtain ⟨w3, hw3, hs3, hv3⟩ := zbd8 (n := 3) rfl ow9.sl (k := 2) hr2
      have hw3' : zh7 3 w (some (.int .i64 2)) none = some w3 := hw3
      have hus9 := hul.keep0 st9.keeps
      have au := hus9.addr' (n := 3) rfl (k := .i64) (i := ((zhv D.us s.user : Nat) : Int)) (by omega) (by omega)
      have cu := hus9.cell' (n := 3) rfl (i := zhv D.us s.user) (off := 0) (by omega) (by omega) default
      rw [Int.toNat_natCast] at au
      have hnm : (ul.getD (zhv D.us s.user) default).name = s.user.name := by rw [(hlk.at _).1, hpu]
      rw [zl, Nat.add_zero, show (Flat.enc (ul.getD (zhv D.us s.user) default))[0]? = some (.string (ul.getD (zhv D.us s.user) default).name) from rfl, hnm] at cu
      (try simp (maxSteps := 1000000) (disch := first | omega | (simp only [Z3]; omega) | (simp; done) | assumption | decide | (refine not_not_intro ?_; assumption)) only [Z1, Z2, splice, zq9, g9, gx9, hw3', au, cu])
      rw [← hrest] at hs3
      have hn3 := st9.newAt (i := 4) rfl
      have st10 := st9.step (t' := view w3 rest) (i := 4) rfl (Keeps.refl _ _) hs3 (fun b hb => .inl (hv3 b hb))
      exact hQ2 w3 H9 ⟨_, _, zbhh st10⟩
    by_cases hbig : s.next + 1 > 1073741824
    · rw [if_pos hbig] at hus1
      (try simp (maxSteps := 1000000) (disch := first | omega | (simp only [Z3]; omega) | (simp; done) | assumption | decide | (refine not_not_intro ?_; assumption)) only [Z1, Z2, splice, gx8])
      refine zbuw (D := { D with sl := D.sl.set i (eid, s2) }) ⟨_, _, st8'⟩ (by simpa using ok.sl) (by simpa using hil) _ fun H9 h9 => ?_
      (try simp (maxSteps := 1000000) (disch := first | omega | (simp only [Z3]; omega) | (simp; done) | assumption | decide | (refine not_not_intro ?_; assumption)) only [Z1, Z2, splice])
      refine fin { D with sl := (D.sl.set i (eid, s2)).eraseIdx i } H9 rfl h9 fun w' H' hd => ?_
      refine hQ w' H' ?_
      dsimp only
      rw [hus1]
      have hmap : (D.sl.set i (eid, s2)).map (·.1) = D.sl.map (·.1) := by
        rw [List.map_set]
        exact zbfh (d := 0) (by simpa using hil) (by rw [zkc (d' := default) hil, hsd])
      have hidx : zgj (fun e : Int × Se => decide (eid = e.1)) (D.sl.set i (eid, s2)) = some i := by
        have e1 := zvo (fun e : Int × Se => e.1) (fun y : Int => decide (eid = y)) (D.sl.set i (eid, s2))
        have e2 := zvo (fun e : Int × Se => e.1) (fun y : Int => decide (eid = y)) D.sl
        rw [← e1, hmap, e2]; exact hi
      unfold zbke
      dsimp only
      rw [zxh (by rw [hmap]; exact un.s) hidx]
      exact hd
    · rw [if_neg hbig] at hus1
      (try simp (maxSteps := 1000000) (disch := first | omega | (simp only [Z3]; omega) | (simp; done) | assumption | decide | (refine not_not_intro ?_; assumption)) only [Z1, Z2, splice, gx8])
      refine fin { D with sl := D.sl.set i (eid, s2) } H8 rfl ⟨_, _, st8'⟩ fun w' H' hd => ?_
      refine hQ w' H' ?_
      dsimp only
      rw [hus1]
      exact hd
theorem zbwu {H : Heap} (k : ByteArray) (hk : k.size ≤ 1048576) {v : V} {says : List It} (hs : Sl H v says) (hsl : says.length ≤ 1048576) (id number : Int) (Q : V → Heap → Prop)
    (hQ : ∀ H', Keeps [] H H' → Q (.tuple #[.string (z09 k (ztu :: zdw id :: zdw number :: says)).1, i64 (z09 k (ztu :: zdw id :: zdw number :: says)).2]) H') : wp (zop [.string k, i64 id, i64 number, v]) Q H := by
  show wp (zti (.string k) (i64 id) (i64 number) v) Q H
  (try simp (maxSteps := 1000000) (disch := first | omega | (simp only [Z3]; omega) | (simp; done) | assumption | decide | (refine not_not_intro ?_; assumption)) only [Z1, zl, zr, zcr, zeh, eq_self, true_and, zcu, zck, zf0, zc6, zby, zbu, Heap.get_push_eq, Heap.get_push_lt, Heap.get_set_eq, Heap.get_set_ne', Heap.next_push', Heap.next_set', Heap.set_push_lt, Heap.set_push_eq, Heap.set_set, zbz, zb0, zbf, zb3, zb4, z4, zbh, zb5, zbq, zbe, zbv, zbw, zbo, zbx, List.set_cons_zero, List.set_cons_succ, List.length_cons, List.length_nil, List.drop_succ_cons, List.drop_zero, List.take_succ_cons, List.take_zero, List.nil_append, List.cons_append, splice, zbb, zbc, z0, zq, zm, zbd, zb1, zbg, zc8, zcm, zb2, zx, zo, z9, Option.map_some, zb6, zbn, z6, zbi, zbj, zbk, z5, zbl, zbm, zti, zbgj])
  refine (zgv (cs := zba [ztu]) (by rfl) zbeb).mpr ?_
  have k1 : Keeps [] H (H.push (some (.cells true (zba [ztu])))) := Keeps.push _ _ _
  have o1 := zd1 (H := H) (xs := [ztu]) (n := 3) (m := 1) rfl rfl
  have hlt := hs.lt
  generalize H.push (some (.cells true (zba [ztu]))) = H1 at *
  (try simp (maxSteps := 1000000) (disch := first | omega | (simp only [Z3]; omega) | (simp; done) | assumption | decide | (refine not_not_intro ?_; assumption)) only [Z1, Z2, splice])
  refine zbrb k hk o1 (hs.keep0 k1) (fun b hb q => by simp at q; have := hlt b hb; omega) (by simp) hsl id number _ fun H2 k2 => ?_
  (try simp (maxSteps := 1000000) (disch := first | omega | (simp only [Z3]; omega) | (simp; done) | assumption | decide | (refine not_not_intro ?_; assumption)) only [Z1, Z2, splice])
  exact hQ _ (k1.trans k2 (fun b hb q => by simp at q; omega))
theorem zbwv {H0 H : Heap} {r : Nat} {D : Dk} {uv : V} {L : List Thing} {n : Int} (h : ze0 H0 H r D uv L) (ok : D.Ok n) {v : V} {says : List It} (hs : Sl H v says) (hsl : says.length ≤ 1048576) (id number : Int) (Q : V → Heap → Prop)
    (hQ : ∀ H', Keeps [] H H' → Q (.tuple #[.string (zbfi D id number says).1, i64 (zbfi D id number says).2]) H') : wp (zg7 [ptr r 0, i64 id, i64 number, v]) Q H := by
  show wp (zmc (ptr r 0) (i64 id) (i64 number) v) Q H
  have h' := h
  obtain ⟨cv, sv', st⟩ := h
  unfold zmc
  rw [zk, zk]
  refine zbfk h' ok id _ ?_
  unfold zbfi at hQ
  cases hi : zgj (fun e : Int × Se => decide (id = e.1)) D.sl with
  | none =>
    rw [hi] at hQ
    (try simp (maxSteps := 1000000) (disch := first | omega | (simp only [Z3]; omega) | (simp; done) | assumption | decide | (refine not_not_intro ?_; assumption)) only [Z1, Z2, splice, zzu])
    exact hQ _ (Keeps.refl _ _)
  | some i =>
    rw [hi] at hQ
    dsimp only at hQ
    obtain ⟨hil, _, _⟩ := zey (d := default) hi
    have hn' : ¬ ((i : Int) < 0) := by omega
    by_cases h1 : number < 1
    · rw [if_pos (by omega)] at hQ
      (try simp (maxSteps := 1000000) (disch := first | omega | (simp only [Z3]; omega) | (simp; done) | assumption | decide | (refine not_not_intro ?_; assumption)) only [Z1, Z2, splice, zzu, zky])
      exact hQ _ (Keeps.refl _ _)
    by_cases h2 : number > 1073741824
    · rw [if_pos (by omega)] at hQ
      (try simp (maxSteps := 1000000) (disch := first | omega | (simp only [Z3]; omega) | (simp; done) | assumption | decide | (refine not_not_intro ?_; assumption)) only [Z1, Z2, splice, zzu, zky])
      exact hQ _ (Keeps.refl _ _)
    rw [if_neg (by omega)] at hQ
    have hmem := zdx (d := default) hil
    obtain ⟨q1, q2, q3, q4, q5, q6⟩ := ok.sk _ hmem
    have g := st.get (i := 0) rfl
    have o := st.own (i := 2) rfl
    have hlm : i < (D.sl.map (zd6 D.us)).length := by simpa using hil
    have a1 := o.sl.addr' (n := 5) rfl (k := .i64) (i := (i : Int)) (by omega) (by omega)
    have c1 := o.sl.cell' (n := 5) rfl (i := i) (off := 4) hlm (by omega) default
    rw [Int.toNat_natCast] at a1
    rw [zl, zkc (d' := default) hil] at c1
    have c1' : zlr (H.get (slB sv')) (slO sv' + i * 5 + 4) = some (.string (D.sl.getD i default).2.key) := c1
    (try simp (maxSteps := 1000000) (disch := first | omega | (simp only [Z3]; omega) | (simp; done) | assumption | decide | (refine not_not_intro ?_; assumption)) only [Z1, Z2, splice, zzu, zky, zwf, g, a1, c1'])
    refine zbwu _ (by omega) hs hsl id number _ fun H1 k1 => ?_
    (try simp (maxSteps := 1000000) (disch := first | omega | (simp only [Z3]; omega) | (simp; done) | assumption | decide | (refine not_not_intro ?_; assumption)) only [Z1, Z2, splice])
    exact hQ _ k1
end Go.AM.Cap
