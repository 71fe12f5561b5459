import Derived.Test.YtehhkminlafeiaaGreatDoorSeF
import Derived.Test.YtehhkminlafeiaaGreatDoorAmOpenF
set_option linter.all false
/- sess: a desk's calls: Hello, Login -/
set_option maxHeartbeats 16000000
namespace Go.AM.Cap
open Go.AM Go.Proofs
structure Dk where
  us : List Us
  idle : Int
  frame : Int
  lc : Int
  cl : List (Int × Ch)
  ls : Int
  sl : List (Int × Se)
def Dk.cells (D : Dk) (uv icv cv isv sv' : V) : List V := [uv, i64 D.idle, i64 D.frame, i64 D.lc, icv, cv, i64 D.ls, isv, sv']
def zim (H0 H : Heap) (d : Nat) (D : Dk) (L : List Thing) : Prop :=
  ∃ uv icv cv isv sv' : V, Hp H0 H (cel d [uv, i64 D.idle, i64 D.frame, i64 D.lc, icv, cv, i64 D.ls, isv, sv'] :: own uv D.us :: own icv (D.cl.map (·.1)) :: own cv (D.cl.map (·.2)) :: own isv (D.sl.map (·.1)) :: own sv' (D.sl.map (·.2)) :: L)
theorem zbkd {H0 H : Heap} {L : List Thing} {c u i v j w : Thing} : Hp H0 H (c :: u :: i :: v :: j :: w :: L) → Hp H0 H (c :: i :: v :: u :: j :: w :: L) := fun h => Hp.rotN [c] [u] [i, v] h
theorem z8x {H0 H : Heap} {L : List Thing} {c u i v j w : Thing} : Hp H0 H (c :: i :: v :: u :: j :: w :: L) → Hp H0 H (c :: u :: i :: v :: j :: w :: L) := fun h => Hp.rotN [c] [i, v] [u] h
theorem z8c {H0 H : Heap} {L : List Thing} {c u i v j w : Thing} : Hp H0 H (c :: u :: i :: v :: j :: w :: L) → Hp H0 H (c :: j :: w :: u :: i :: v :: L) := fun h => Hp.rotN [c] [u, i, v] [j, w] h
theorem zbea {H0 H : Heap} {L : List Thing} {c u i v j w : Thing} : Hp H0 H (c :: j :: w :: u :: i :: v :: L) → Hp H0 H (c :: u :: i :: v :: j :: w :: L) := fun h => Hp.rotN [c] [j, w] [u, i, v] h
theorem zbon {H0 H : Heap} {L : List Thing} {a b c e f g x : Thing} (h : Hp H0 H (a :: b :: c :: e :: f :: g :: x :: L)) : Hp H0 H (a :: b :: c :: e :: f :: g :: L) := h.sub ((((((List.sublist_cons_self x L).cons_cons g).cons_cons f).cons_cons e).cons_cons c).cons_cons b |>.cons_cons a)
theorem zim.keep0 {H0 H H' : Heap} {d : Nat} {D : Dk} {L : List Thing} (h : zim H0 H d D L) (hk : Keeps [] H H') : zim H0 H' d D L := by
  obtain ⟨uv, icv, cv, isv, sv', st⟩ := h
  exact ⟨uv, icv, cv, isv, sv', st.keep0 hk⟩
theorem zim.keeps {H0 H : Heap} {d : Nat} {D : Dk} {L : List Thing} (h : zim H0 H d D L) : Keeps [] H0 H := by
  obtain ⟨uv, icv, cv, isv, sv', st⟩ := h
  exact st.keeps
structure Dk.Ok (D : Dk) (n : Int) : Prop where
  us : D.us.length ≤ 8
  uk : ∀ u ∈ D.us, u.key.size ≤ 64 ∧ vEq.vEq1 u.rs.v u.rs.v = true
  idle : 1 ≤ D.idle ∧ D.idle ≤ 100000
  frame : 0 ≤ D.frame ∧ D.frame ≤ n
  lc : 0 ≤ D.lc ∧ D.lc ≤ n
  ls : 0 ≤ D.ls ∧ D.ls ≤ n
  cl : D.cl.length ≤ 8
  sl : D.sl.length ≤ 8
  ck : ∀ c ∈ D.cl, c.2.user ∈ D.us ∧ c.2.nonce.size = 16 ∧ 1 ≤ c.1 ∧ c.1 ≤ D.lc ∧ 0 ≤ c.2.frame ∧ c.2.frame ≤ D.frame
  sk : ∀ s ∈ D.sl, s.2.user ∈ D.us ∧ s.2.key.size = 32 ∧ 1 ≤ s.1 ∧ s.1 ≤ D.ls ∧ 1 ≤ s.2.next ∧ s.2.next ≤ 1073741824 ∧ 0 ≤ s.2.frame ∧ s.2.frame ≤ D.frame
theorem Dk.Ok.mono {D : Dk} {n m : Int} (h : D.Ok n) (hm : n ≤ m) : D.Ok m := ⟨h.us, h.uk, h.idle, ⟨h.frame.1, by have := h.frame.2; omega⟩, ⟨h.lc.1, by have := h.lc.2; omega⟩, ⟨h.ls.1, by have := h.ls.2; omega⟩, h.cl, h.sl, h.ck, h.sk⟩
def zpy (D : Dk) (name nonce : ByteArray) : (Int × Int) × Dk :=
  match zg1 D.us name with
  | none => ((0, 90), D)
  | some i =>
    if nonce.size ≠ 16 then ((0, 4), D)
    else if D.cl.length = 8 then ((0, 2), D)
    else ((D.lc + 1, 0), { D with lc := D.lc + 1, cl := D.cl ++ [(D.lc + 1, ⟨D.us.getD i default, nonce, D.frame⟩)] })
theorem zbmk {D : Dk} {n : Int} (h : D.Ok n) (name nonce : ByteArray) : (zpy D name nonce).2.Ok (n + 1) := by
  unfold zpy
  cases hf : zg1 D.us name with
  | none => exact h.mono (by omega)
  | some i =>
    dsimp only
    by_cases h1 : nonce.size = 16
    · rw [if_neg (by simp [h1])]
      by_cases h2 : D.cl.length = 8
      · rw [if_pos h2]; exact h.mono (by omega)
      · rw [if_neg h2]
        obtain ⟨hi, _, _⟩ := zey (d := default) hf
        have hcl := h.cl
        have hlc := h.lc
        have hfr := h.frame
        have hls := h.ls
        refine ⟨h.us, h.uk, h.idle, ⟨hfr.1, by dsimp only; omega⟩, ⟨by dsimp only; omega, by dsimp only; omega⟩, ⟨hls.1, by dsimp only; omega⟩, by simp; omega, h.sl, fun c hc => ?_, h.sk⟩
        rcases List.mem_append.1 hc with hc | hc
        · obtain ⟨q1, q2, q3, q4, q5, q6⟩ := h.ck c hc
          exact ⟨q1, q2, q3, by dsimp only; omega, q5, q6⟩
        · rw [List.mem_singleton] at hc
          subst hc
          exact ⟨zdx hi, h1, by dsimp only; omega, by dsimp only; omega, hfr.1, by dsimp only; omega⟩
    · rw [if_pos h1]; exact h.mono (by omega)
theorem zbrg {H0 H : Heap} {d : Nat} {D : Dk} {L : List Thing} {n : Int} (h : zim H0 H d D L) (ok : D.Ok n) (hn : n ≤ 1000000) (name nonce : ByteArray) (Q : V → Heap → Prop)
    (hQ : ∀ H', zim H0 H' d (zpy D name nonce).2 L → Q (.tuple #[i64 (zpy D name nonce).1.1, i64 (zpy D name nonce).1.2]) H') : wp (zen [ptr d 0, .string name, .string nonce]) Q H := by
  show wp (znb (ptr d 0) (.string name) (.string nonce)) Q H
  obtain ⟨uv, icv, cv, isv, sv', st⟩ := h
  have g := st.get (i := 0) rfl
  have hus := ok.us
  (try simp (maxSteps := 1000000) (disch := first | omega | (simp only [Z3]; omega) | (simp; done) | assumption | decide | (refine not_not_intro ?_; assumption)) only [Z1, Z2, splice, znb, g])
  refine zbup (st.own (i := 1) rfl).sl (by omega) name _ fun H1 k1 => ?_
  have st1 := st.keep0 k1
  have g1 := st1.get (i := 0) rfl
  unfold zpy at hQ
  cases hf : zg1 D.us name with
  | none =>
    rw [hf] at hQ
    (try simp (maxSteps := 1000000) (disch := first | omega | (simp only [Z3]; omega) | (simp; done) | assumption | decide | (refine not_not_intro ?_; assumption)) only [Z1, Z2, splice])
    exact hQ _ ⟨_, _, _, _, _, st1⟩
  | some i =>
    rw [hf] at hQ
    dsimp only at hQ ⊢
    obtain ⟨hi, _, _⟩ := zey (d := default) hf
    by_cases hz : nonce.size = 16
    case neg =>
      rw [if_pos hz] at hQ
      have hz' : ¬ ((nonce.size : Int) = 16) := by omega
      (try simp (maxSteps := 1000000) (disch := first | omega | (simp only [Z3]; omega) | (simp; done) | assumption | decide | (refine not_not_intro ?_; assumption)) only [Z1, Z2, splice])
      exact hQ _ ⟨_, _, _, _, _, st1⟩
    rw [if_neg (by simp [hz])] at hQ
    have hz' : ((nonce.size : Int) = 16) := by omega
    have o1 := st1.own (i := 1) rfl
    have a1 := o1.sl.addr' (n := 3) rfl (k := .i64) (i := (i : Int)) (by omega) (by omega)
    rw [Int.toNat_natCast] at a1
    have r1 := fun Q => o1.sl.ldn' (Q := Q) (n := 3) rfl hi default
    have hb := zbzi (D.us.getD i default) nonce D.frame
    (try simp (maxSteps := 1000000) (disch := first | omega | (simp only [Z3]; omega) | (simp; done) | assumption | decide | (refine not_not_intro ?_; assumption)) only [Z1, zl, zr, zcr, zeh, eq_self, true_and, zcu, zck, zc6, zby, zbu, Heap.get_push_eq, Heap.get_push_lt, Heap.get_set_eq, Heap.get_set_ne', Heap.next_push', Heap.next_set', Heap.set_push_lt, Heap.set_push_eq, Heap.set_set, zbz, zb0, zbf, zb3, zb4, z4, zbh, zb5, zbq, zbe, zbv, zbw, zbo, zbx, List.set_cons_zero, List.set_cons_succ, List.length_cons, List.length_nil, List.drop_succ_cons, List.drop_zero, List.take_succ_cons, List.take_zero, List.nil_append, List.cons_append, splice, zbb, zbc, z0, zq, zm, zbd, zb1, zbg, zc8, zcm, zb2, zx, zo, z9, Option.map_some, zb6, zbn, z6, zbi, zbj, zbk, z5, zbl, zbm, zyl, g1, a1, r1, hb])
    have hmem := zdx (d := default) hi
    have hck := (ok.uk _ hmem).2
    have hlc := ok.lc
    by_cases h8 : D.cl.length = 8
    · rw [if_pos h8] at hQ
      refine zbwd (zbkd st1) h8 _ _ fun H2 st2 => ?_
      (try simp (maxSteps := 1000000) (disch := first | omega | (simp only [Z3]; omega) | (simp; done) | assumption | decide | (refine not_not_intro ?_; assumption)) only [Z1, Z2, splice])
      exact hQ _ ⟨_, _, _, _, _, z8x st2⟩
    · rw [if_neg h8] at hQ
      have hcl := ok.cl
      refine zbzk (zbkd st1) (by omega) (by omega) ⟨D.us.getD i default, nonce, D.frame⟩ hck _ fun w3 w5 H2 st2 => ?_
      (try simp (maxSteps := 1000000) (disch := first | omega | (simp only [Z3]; omega) | (simp; done) | assumption | decide | (refine not_not_intro ?_; assumption)) only [Z1, Z2, splice, zyk])
      exact hQ _ ⟨_, _, _, _, _, z8x st2⟩
def z5z (D : Dk) (id : Int) : Dk := { D with cl := D.cl.filter fun e => decide (e.1 ≠ id) }
def zbke (D : Dk) (id : Int) : Dk := { D with sl := D.sl.filter fun e => decide (e.1 ≠ id) }
def zpz (D : Dk) (id : Int) (proof : ByteArray) : (Int × Int) × Dk :=
  match zgj (fun e : Int × Ch => decide (id = e.1)) D.cl with
  | none => ((0, 5), D)
  | some i =>
    let c := (D.cl.getD i default).2
    if (zos c.user.key c.nonce id).1 ≠ proof then ((0, 20), z5z D id)
    else if D.sl.length = 8 then ((0, 2), z5z D id)
    else ((D.ls + 1, 0), { z5z D id with ls := D.ls + 1, sl := D.sl ++ [(D.ls + 1, ⟨c.user, (zos c.user.key c.nonce id).2, 1, D.frame⟩)] })
theorem zbzn {D : Dk} {n : Int} (h : D.Ok n) (id : Int) : (z5z D id).Ok n :=
  ⟨h.us, h.uk, h.idle, h.frame, h.lc, h.ls, Nat.le_trans (List.length_filter_le _ _) h.cl, h.sl, fun c hc => h.ck c ((List.mem_filter.1 hc).1), h.sk⟩
theorem zbzo {D : Dk} {n : Int} (h : D.Ok n) (id : Int) : (zbke D id).Ok n :=
  ⟨h.us, h.uk, h.idle, h.frame, h.lc, h.ls, h.cl, Nat.le_trans (List.length_filter_le _ _) h.sl, h.ck, fun c hc => h.sk c ((List.mem_filter.1 hc).1)⟩
theorem zbkf (k m : ByteArray) (c : Int) : (zos k m c).2.size = 32 := by
  unfold zos; rw [zgw, zoq]
theorem zbml {D : Dk} {n : Int} (h : D.Ok n) (id : Int) (proof : ByteArray) : (zpz D id proof).2.Ok (n + 1) := by
  unfold zpz
  cases hf : zgj (fun e : Int × Ch => decide (id = e.1)) D.cl with
  | none => exact h.mono (by omega)
  | some i =>
    dsimp only
    have hd := zbzn h id
    split
    · exact hd.mono (by omega)
    · split
      · exact hd.mono (by omega)
      · obtain ⟨hi, _, _⟩ := zey (d := default) hf
        have hsl := h.sl
        have hls := h.ls
        have hfr := h.frame
        have hlc := h.lc
        have hmem := zdx (d := default) hi
        refine ⟨h.us, h.uk, h.idle, ⟨hfr.1, by dsimp only [z5z]; omega⟩, ⟨hlc.1, by dsimp only [z5z]; omega⟩, ⟨by dsimp only; omega, by dsimp only; omega⟩, hd.cl, by simp; omega, hd.ck, fun s hs => ?_⟩
        rcases List.mem_append.1 hs with hs | hs
        · obtain ⟨q1, q2, q3, q4, q5, q6, q7, q8⟩ := h.sk s hs
          exact ⟨q1, q2, q3, by dsimp only; omega, q5, q6, q7, q8⟩
        · rw [List.mem_singleton] at hs
          subst hs
          exact ⟨(h.ck _ hmem).1, zbkf _ _ _, by dsimp only; omega, by dsimp only; omega, by dsimp only; omega, by dsimp only; omega, hfr.1, by dsimp only [z5z]; omega⟩
theorem zbrh {H0 H : Heap} {d : Nat} {D : Dk} {L : List Thing} {n : Int} (hb : Base H0) (h : zim H0 H d D L) (ok : D.Ok n) (hn : n ≤ 1000000) (id : Int) (proof : ByteArray) (Q : V → Heap → Prop)
    (hQ : ∀ H', zim H0 H' d (zpz D id proof).2 L → Q (.tuple #[i64 (zpz D id proof).1.1, i64 (zpz D id proof).1.2]) H') : wp (zeq [ptr d 0, i64 id, .string proof]) Q H := by
  show wp (zng (ptr d 0) (i64 id) (.string proof)) Q H
  obtain ⟨uv, icv, cv, isv, sv', st⟩ := h
  have hcl := ok.cl
  (try simp (maxSteps := 1000000) (disch := first | omega | (simp only [Z3]; omega) | (simp; done) | assumption | decide | (refine not_not_intro ?_; assumption)) only [Z1, Z2, splice, zng])
  unfold zpz at hQ
  refine zbzl (zbkd st) hcl id _ (fun hi => ?_) (fun i hi => ?_)
  · rw [hi] at hQ
    (try simp (maxSteps := 1000000) (disch := first | omega | (simp only [Z3]; omega) | (simp; done) | assumption | decide | (refine not_not_intro ?_; assumption)) only [Z1, Z2, splice])
    exact hQ _ ⟨_, _, _, _, _, st⟩
  rw [hi] at hQ
  dsimp only at hQ
  obtain ⟨hil, _, _⟩ := zey (d := default) hi
  have hmem := zdx (d := default) hil
  obtain ⟨q1, q2, q3, q4, q5, q6⟩ := ok.ck _ hmem
  have o3 := st.own (i := 3) rfl
  have r1 := fun Q => o3.sl.ldn' (Q := Q) (n := 5) rfl (i := i) (by simpa using hil) default
  have e1 : (D.cl.map (·.2)).getD i default = (D.cl.getD i default).2 := by
    rw [List.getD_eq_getElem?_getD, List.getD_eq_getElem?_getD, List.getElem?_map, List.getElem?_eq_getElem hil]
    rfl
  rw [e1] at r1
  generalize (D.cl.getD i default).2 = c at *
  have ho := zbbg c
  (try simp (maxSteps := 1000000) (disch := first | omega | (simp only [Z3]; omega) | (simp; done) | assumption | decide | (refine not_not_intro ?_; assumption)) only [Z1, zl, zr, zcr, zeh, eq_self, true_and, zcu, zck, zc6, zby, zbu, Heap.get_push_eq, Heap.get_push_lt, Heap.get_set_eq, Heap.get_set_ne', Heap.next_push', Heap.next_set', Heap.set_push_lt, Heap.set_push_eq, Heap.set_set, zbz, zb0, zbf, zb3, zb4, z4, zbh, zb5, zbq, zbe, zbv, zbw, zbo, zbx, List.set_cons_zero, List.set_cons_succ, List.length_cons, List.length_nil, List.drop_succ_cons, List.drop_zero, List.take_succ_cons, List.take_zero, List.nil_append, List.cons_append, splice, zbb, zbc, z0, zq, zm, zbd, zb1, zbg, zc8, zcm, zb2, zb8, zx, zo, z9, Option.map_some, zb6, zbn, z6, zbi, zbj, zbk, z5, zbl, zbm, zyy, r1, zbff])
  have stx := st.newc [.string c.user.name, .string c.user.key, c.user.rs.v, .string c.nonce, i64 c.frame]
  generalize hx : H.next = x at *
  generalize H.push (some (.cells true [.string c.user.name, .string c.user.key, c.user.rs.v, .string c.nonce, i64 c.frame])) = H1 at *
  have st1 := zbkd (Hp.rotN [] [_] [_, _, _, _, _, _] stx)
  refine zbwf st1 hcl (fun e he => (ok.uk _ (ok.ck e he).1).2) id _ fun w3 w5 H2 st2 => ?_
  have g2 := st2.get (i := 6) rfl
  have hks := (ok.uk _ q1).1
  (try simp (maxSteps := 1000000) (disch := first | omega | (simp only [Z3]; omega) | (simp; done) | assumption | decide | (refine not_not_intro ?_; assumption)) only [Z1, Z2, splice, g2])
  refine zbq9 (hb.keep st2.keeps) c.user.key c.nonce id (by omega) (by omega) _ fun H3 k3 => ?_
  have st3 := st2.keep0 k3
  have g3 := st3.get (i := 6) rfl
  have g30 := st3.get (i := 0) rfl
  have hr32 : (zos c.user.key c.nonce id).1.size = 32 := by unfold zos; rw [zgw, zoq]
  generalize zos c.user.key c.nonce id = pr at *
  obtain ⟨right, key⟩ := pr
  dsimp only at hr32 hQ ⊢
  have heq := zbd5 right proof (by omega)
  by_cases hp : right = proof
  case neg =>
    rw [if_pos hp] at hQ
    (try simp (maxSteps := 1000000) (disch := first | omega | (simp only [Z3]; omega) | (simp; done) | assumption | decide | (refine not_not_intro ?_; assumption)) only [Z1, Z2, splice, heq])
    exact hQ _ ⟨_, _, _, _, _, zbon (z8x st3)⟩
  rw [if_neg (by simp [hp])] at hQ
  have hbs : build [Value.string ⟨#[]⟩, Value.string ⟨#[]⟩, Value.slice none 0 0, Value.string ⟨#[]⟩, Value.int .i64 0, (Value.int .i64 0 : V)] [(0, 3, .agg #[.string c.user.name, .string c.user.key, c.user.rs.v]), (3, 1, .string key), (4, 1, i64 1), (5, 1, i64 D.frame)] = some (.agg (Flat.enc (⟨c.user, key, 1, D.frame⟩ : Se)).toArray) := zbzj c.user key D.frame
  (try simp (maxSteps := 1000000) (disch := first | omega | (simp only [Z3]; omega) | (simp; done) | assumption | decide | (refine not_not_intro ?_; assumption)) only [Z1, zl, zr, zcr, zeh, eq_self, true_and, zcu, zck, zf0, zc6, zby, zbu, Heap.get_push_eq, Heap.get_push_lt, Heap.get_set_eq, Heap.get_set_ne', Heap.next_push', Heap.next_set', Heap.set_push_lt, Heap.set_push_eq, Heap.set_set, zbz, zb0, zbf, zb3, zb4, z4, zbh, zb5, zbq, zbe, zbv, zbw, zbo, zbx, List.set_cons_zero, List.set_cons_succ, List.length_cons, List.length_nil, List.drop_succ_cons, List.drop_zero, List.take_succ_cons, List.take_zero, List.nil_append, List.cons_append, splice, zbb, zbc, z0, zq, zm, zbd, zb1, zbg, zc8, zcm, zb2, zx, zo, z9, Option.map_some, zb6, zbn, z6, zbi, zbj, zbk, z5, zbl, zbm, heq, zyx, g3, g30, hbs])
  have hls := ok.ls
  have hsl := ok.sl
  by_cases h8 : D.sl.length = 8
  · rw [if_pos h8] at hQ
    refine zbwg (z8c (z8x st3)) h8 _ _ fun H4 st4 => ?_
    (try simp (maxSteps := 1000000) (disch := first | omega | (simp only [Z3]; omega) | (simp; done) | assumption | decide | (refine not_not_intro ?_; assumption)) only [Z1, Z2, splice])
    exact hQ _ ⟨_, _, _, _, _, zbon (zbea st4)⟩
  · rw [if_neg h8] at hQ
    refine zbzm (z8c (z8x st3)) (by omega) (by omega) ⟨c.user, key, 1, D.frame⟩ (ok.uk _ q1).2 _ fun w7 w9 H4 st4 => ?_
    (try simp (maxSteps := 1000000) (disch := first | omega | (simp only [Z3]; omega) | (simp; done) | assumption | decide | (refine not_not_intro ?_; assumption)) only [Z1, Z2, splice, zyw])
    exact hQ _ ⟨_, _, _, _, _, zbon (zbea st4)⟩
end Go.AM.Cap
