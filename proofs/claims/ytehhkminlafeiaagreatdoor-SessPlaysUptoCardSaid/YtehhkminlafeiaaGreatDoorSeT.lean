import Derived.Test.YtehhkminlafeiaaGreatDoorSeS
import Derived.Test.YtehhkminlafeiaaGreatDoorAmOpenF
set_option linter.all false
/- sess: a step of both desks -/
set_option maxHeartbeats 16000000
namespace Go.AM.Cap
open Go.AM Go.Proofs
def dT (d : Nat) (D : Dk) (u icv cv isv sv' : V) : List Thing := [cel d [u, i64 D.idle, i64 D.frame, i64 D.lc, icv, cv, i64 D.ls, isv, sv'], own u D.us, own icv (D.cl.map (·.1)), own cv (D.cl.map (·.2)), own isv (D.sl.map (·.1)), own sv' (D.sl.map (·.2))]
def rT (r : Nat) (D : Dk) (uv c2 s2 : V) : List Thing := [cel r [uv, i64 D.idle, i64 D.frame, c2, s2, i64 D.lc, i64 D.ls], own c2 (D.cl.map (zgb D.us)), own s2 (D.sl.map (zd6 D.us))]
def zkr (H0 H : Heap) (d r : Nat) (D' D : Dk) (uv : V) (M : List Thing) : Prop :=
  ∃ u icv cv isv sv' c2 s2 : V, Hp H0 H (dT d D' u icv cv isv sv' ++ (rT r D uv c2 s2 ++ M))
theorem zkr.keep0 {H0 H H' : Heap} {d r : Nat} {D' D : Dk} {uv : V} {M : List Thing} (h : zkr H0 H d r D' D uv M) (hk : Keeps [] H H') : zkr H0 H' d r D' D uv M := by
  obtain ⟨u, icv, cv, isv, sv', c2, s2, st⟩ := h
  exact ⟨u, icv, cv, isv, sv', c2, s2, st.keep0 hk⟩
theorem zkr.keeps {H0 H : Heap} {d r : Nat} {D' D : Dk} {uv : V} {M : List Thing} (h : zkr H0 H d r D' D uv M) : Keeps [] H0 H := by
  obtain ⟨u, icv, cv, isv, sv', c2, s2, st⟩ := h
  exact st.keeps
theorem zkr.less {H0 H : Heap} {d r : Nat} {D' D : Dk} {uv : V} {M N : List Thing} (h : zkr H0 H d r D' D uv (N ++ M)) : zkr H0 H d r D' D uv M := by
  obtain ⟨u, icv, cv, isv, sv', c2, s2, st⟩ := h
  exact ⟨u, icv, cv, isv, sv', c2, s2, st.sub (List.Sublist.append (List.Sublist.refl _) (List.Sublist.append (List.Sublist.refl _) (List.sublist_append_right N M)))⟩
theorem zkr.thing {H0 H : Heap} {d r : Nat} {D' D : Dk} {uv : V} {M : List Thing} {t : Thing} (h : zkr H0 H d r D' D uv (t :: M)) : t.P H := by
  obtain ⟨u, icv, cv, isv, sv', c2, s2, st⟩ := h
  exact st.all t (by simp)
theorem zkr.add {H0 H H' : Heap} {d r : Nat} {D' D : Dk} {uv : V} {M : List Thing} {t : Thing} (h : zkr H0 H d r D' D uv M) (hk : Keeps [] H H') (ht : t.P H') (hn : ∀ b ∈ t.fp, H.next ≤ b) : zkr H0 H' d r D' D uv (t :: M) := by
  obtain ⟨u, icv, cv, isv, sv', c2, s2, st⟩ := h
  refine ⟨u, icv, cv, isv, sv', c2, s2, ?_⟩
  have st1 := st.add hk ht hn
  exact st1.perm (by
    rw [← List.append_assoc, ← List.append_assoc]
    exact List.perm_middle.symm)
theorem zkr.desk {H0 H : Heap} {d r : Nat} {D' D : Dk} {uv : V} {M : List Thing} (h : zkr H0 H d r D' D uv M) : ∃ c2 s2 : V, zim H0 H d D' (rT r D uv c2 s2 ++ M) := by
  obtain ⟨u, icv, cv, isv, sv', c2, s2, st⟩ := h
  exact ⟨c2, s2, u, icv, cv, isv, sv', st⟩
theorem zbhi {H0 H : Heap} {d r : Nat} {D' D : Dk} {uv c2 s2 : V} {M : List Thing} (h : zim H0 H d D' (rT r D uv c2 s2 ++ M)) : zkr H0 H d r D' D uv M := by
  obtain ⟨u, icv, cv, isv, sv', st⟩ := h
  exact ⟨u, icv, cv, isv, sv', c2, s2, st⟩
theorem zkr.rdesk {H0 H : Heap} {d r : Nat} {D' D : Dk} {uv : V} {M : List Thing} (h : zkr H0 H d r D' D uv M) : ∃ u icv cv isv sv' : V, ze0 H0 H r D uv (dT d D' u icv cv isv sv' ++ M) := by
  obtain ⟨u, icv, cv, isv, sv', c2, s2, st⟩ := h
  exact ⟨u, icv, cv, isv, sv', c2, s2, Hp.rotN [] (dT d D' u icv cv isv sv') (rT r D uv c2 s2) st⟩
theorem zbhj {H0 H : Heap} {d r : Nat} {D' D : Dk} {uv u icv cv isv sv' : V} {M : List Thing} (h : ze0 H0 H r D uv (dT d D' u icv cv isv sv' ++ M)) : zkr H0 H d r D' D uv M := by
  obtain ⟨c2, s2, st⟩ := h
  exact ⟨u, icv, cv, isv, sv', c2, s2, Hp.rotN [] (rT r D uv c2 s2) (dT d D' u icv cv isv sv') st⟩
theorem zbrq {H0 H : Heap} {d r : Nat} {D' D : Dk} {uv c2 s2 : V} {M : List Thing} {t : Thing} (h : zim H0 H d D' (t :: (rT r D uv c2 s2 ++ M))) : zkr H0 H d r D' D uv (t :: M) := by
  obtain ⟨u, icv, cv, isv, sv', st⟩ := h
  exact ⟨u, icv, cv, isv, sv', c2, s2, Hp.rotN [_, _, _, _, _, _] [t] (rT r D uv c2 s2) st⟩
theorem zb0f {H0 H : Heap} {d r : Nat} {D' D : Dk} {uv u icv cv isv sv' : V} {M : List Thing} {t : Thing} (h : ze0 H0 H r D uv (t :: (dT d D' u icv cv isv sv' ++ M))) : zkr H0 H d r D' D uv (t :: M) := by
  obtain ⟨c2, s2, st⟩ := h
  have st1 := Hp.rotN [_, _, _] [t] (dT d D' u icv cv isv sv') st
  exact ⟨u, icv, cv, isv, sv', c2, s2, Hp.rotN [] (rT r D uv c2 s2) (dT d D' u icv cv isv sv') (L := t :: M) st1⟩
theorem zb1r {ul a b : List Us} (h : Like ul a) (e : b = a) : Like ul b := e ▸ h
theorem zbwx (D : Dk) (m : ByteArray) : (zgk D m).1.2.2.1.length ≤ 1000 := by
  unfold zgk
  cases hs : zlo m with
  | none => simp
  | some p =>
    obtain ⟨id, number, rest⟩ := p
    have hr : rest.length ≤ 1000 := by
      unfold zlo at hs
      split at hs
      · cases hs
      · split at hs
        · have h1 := zbot hs
          have h2 := zbux (bv (body m))
          omega
        · cases hs
    dsimp only
    cases zgj (fun e : Int × Se => decide (id = e.1)) D.sl with
    | none => simp
    | some i =>
      dsimp only
      split
      · simp
      · split
        · simp
        · exact hr
set_option maxRecDepth 20000 in
theorem zb1s {H0 H : Heap} {d r : Nat} {D : Dk} {uv : V} {ul : List Us} {n : Int} (hb : Base H0) (hT : Tok H0) (h : zkr H0 H d r D D uv []) (hul : Sl H0 uv ul) (hlk : Like ul D.us) (ok : D.Ok n) (un : D.Un) (hn : n ≤ 1000) (a : Ac) (ht : a.text.size ≤ 1048576) (hs : Sl H0 a.says.v a.says.xs) (hsl : a.says.xs.length ≤ 1048576) (Q : V → Heap → Prop)
    (hQ : ∀ D' H', zkr H0 H' d r D' D' uv [] → D'.Ok (n + 1) → D'.Un → D'.us = D.us → Q (.bool true) H') : wp (zpf asF [ptr d 0, ptr r 0, .agg (Flat.enc a).toArray]) Q H := by
  show wp (zxe asF (ptr d 0) (ptr r 0) (.agg (Flat.enc a).toArray)) Q H
  have ho := zb0e a
  have hm := zbmn a.kind 6 (by decide)
  obtain ⟨r1, r2⟩ := zbou a.kind 6 (by decide) (by decide)
  generalize zbfj a.kind 6 = k at *
  obtain ⟨us1, us2, us3, us4, us5⟩ := zb1q D
  unfold zxe
  rw [zk, zk, zbtn]
  refine (zbu ho).mpr ?_
  have hA : zkr H0 (H.push (some (.cells true [i64 a.kind, i64 a.n, i64 a.id, .string a.name, .string a.text, .bool a.own, a.says.v]))) d r D D uv [cel H.next [i64 a.kind, i64 a.n, i64 a.id, .string a.name, .string a.text, .bool a.own, a.says.v]] :=
    h.add (Keeps.push _ _ _) (Heap.get_push_self _ _) (by
    intro b hb
    have : b = H.next := by simpa [cel] using hb
    omega)
  generalize H.next = x at *
  generalize H.push (some (.cells true [i64 a.kind, i64 a.n, i64 a.id, .string a.name, .string a.text, .bool a.own, a.says.v])) = H1 at *
  have gx : H1.get x = some (.cells true [i64 a.kind, i64 a.n, i64 a.id, .string a.name, .string a.text, .bool a.own, a.says.v]) := hA.thing
  have done : ∀ D' H' M, zkr H0 H' d r D' D' uv (M ++ []) → D'.Ok (n + 1) → D'.Un → D'.us = D.us → Q (.bool true) H' := fun D' H' M h1 h2 h3 h4 => hQ D' H' h1.less h2 h3 h4
  by_cases h0 : k = 0
  · obtain ⟨c2, s2, hd⟩ := hA.desk
    (try simp (maxSteps := 1000000) (disch := first | omega | (simp only [Z3]; omega) | (simp; done) | assumption | decide | (refine not_not_intro ?_; assumption)) only [Z1, Z2, splice, gx, hm])
    refine zbrg hd ok (by omega) a.name a.text _ fun H2 hd2 => ?_
    have hA2 := zbhi hd2
    have gx2 := hA2.thing
    have gx2' : H2.get x = some (.cells true [i64 a.kind, i64 a.n, i64 a.id, .string a.name, .string a.text, .bool a.own, a.says.v]) := gx2
    obtain ⟨u, icv, cv, isv, sv', hr⟩ := hA2.rdesk
    (try simp (maxSteps := 1000000) (disch := first | omega | (simp only [Z3]; omega) | (simp; done) | assumption | decide | (refine not_not_intro ?_; assumption)) only [Z1, Z2, splice, gx2'])
    refine zbws hr hul hlk ok (by omega) a.name a.text _ fun H3 hr3 => ?_
    have hA3 := zbhj hr3
    (try simp (maxSteps := 1000000) (disch := first | omega | (simp only [Z3]; omega) | (simp; done) | assumption | decide | (refine not_not_intro ?_; assumption)) only [Z1, Z2, splice])
    exact done _ _ [_] hA3 (zbmk ok a.name a.text) (zb0b ok un a.name a.text) (us1 _ _)
  by_cases h1 : k = 1
  · obtain ⟨u, icv, cv, isv, sv', hr⟩ := hA.rdesk
    (try simp (maxSteps := 1000000) (disch := first | omega | (simp only [Z3]; omega) | (simp; done) | assumption | decide | (refine not_not_intro ?_; assumption)) only [Z1, Z2, splice, gx, hm])
    refine zbuy hr hul hlk ok un a ht (hs.keep0 hA.keeps) hsl _ fun t H2 hts k2 => ?_
    have hA2 := hA.keep0 k2
    have gx2' : H2.get x = some (.cells true [i64 a.kind, i64 a.n, i64 a.id, .string a.name, .string a.text, .bool a.own, a.says.v]) := hA2.thing
    obtain ⟨c2, s2, hd⟩ := hA2.desk
    (try simp (maxSteps := 1000000) (disch := first | omega | (simp only [Z3]; omega) | (simp; done) | assumption | decide | (refine not_not_intro ?_; assumption)) only [Z1, Z2, splice, gx2'])
    refine zbrh hb hd ok (by omega) a.id t _ fun H3 hd3 => ?_
    have hA3 := zbhi hd3
    have gx3' : H3.get x = some (.cells true [i64 a.kind, i64 a.n, i64 a.id, .string a.name, .string a.text, .bool a.own, a.says.v]) := hA3.thing
    obtain ⟨u, icv, cv, isv, sv', hr3⟩ := hA3.rdesk
    (try simp (maxSteps := 1000000) (disch := first | omega | (simp only [Z3]; omega) | (simp; done) | assumption | decide | (refine not_not_intro ?_; assumption)) only [Z1, Z2, splice, gx3'])
    refine zbwt hr3 hul hlk ok un (by omega) a.id t _ fun H4 hr4 => ?_
    have hA4 := zbhj hr4
    (try simp (maxSteps := 1000000) (disch := first | omega | (simp only [Z3]; omega) | (simp; done) | assumption | decide | (refine not_not_intro ?_; assumption)) only [Z1, Z2, splice])
    exact done _ _ [_] hA4 (zbml ok a.id t) (zb0c ok un a.id t) (us2 _ _)
  by_cases h2 : k = 2
  · obtain ⟨u, icv, cv, isv, sv', hr⟩ := hA.rdesk
    (try simp (maxSteps := 1000000) (disch := first | omega | (simp only [Z3]; omega) | (simp; done) | assumption | decide | (refine not_not_intro ?_; assumption)) only [Z1, Z2, splice, gx, hm])
    refine zbuy hr hul hlk ok un a ht (hs.keep0 hA.keeps) hsl _ fun t H2 hts k2 => ?_
    have hA2 := hA.keep0 k2
    obtain ⟨c2, s2, hd⟩ := hA2.desk
    (try simp (maxSteps := 1000000) (disch := first | omega | (simp only [Z3]; omega) | (simp; done) | assumption | decide | (refine not_not_intro ?_; assumption)) only [Z1, Z2, splice])
    refine zboo hb hT hd ok (by omega) t hts _ fun w H3 hd3 => ?_
    have hA3 := zbrq hd3
    obtain ⟨u, icv, cv, isv, sv', hr3⟩ := hA3.rdesk
    (try simp (maxSteps := 1000000) (disch := first | omega | (simp only [Z3]; omega) | (simp; done) | assumption | decide | (refine not_not_intro ?_; assumption)) only [Z1, Z2, splice])
    refine zb0a hr3 hul hlk ok un (by omega) t hts _ fun w2 H4 hr4 => ?_
    have hA4 := zb0f hr4
    have s2' : Sl H4 w2 (zgk D t).1.2.2.1 := hA4.thing
    have hA5 := hA4.less (N := [_])
    have s1' : Sl H4 w (zgk D t).1.2.2.1 := hA5.thing
    have hlen : (zgk D t).1.2.2.1.length ≤ 1000000000 := by have := zbwx D t; omega
    (try simp (maxSteps := 1000000) (disch := first | omega | (simp only [Z3]; omega) | (simp; done) | assumption | decide | (refine not_not_intro ?_; assumption)) only [Z1, Z2, splice])
    refine zbum s1' s2' hlen _ ?_
    rw [decide_eq_true rfl]
    (try simp (maxSteps := 1000000) (disch := first | omega | (simp only [Z3]; omega) | (simp; done) | assumption | decide | (refine not_not_intro ?_; assumption)) only [Z1, Z2, splice])
    exact done _ _ [_, _, _] hA4 (zbri ok t) (zb1o un t) (us3 _)
  by_cases h3 : k = 3
  · (try simp (maxSteps := 1000000) (disch := first | omega | (simp only [Z3]; omega) | (simp; done) | assumption | decide | (refine not_not_intro ?_; assumption)) only [Z1, Z2, splice, gx, hm])
    refine zb07 (hs.keep0 hA.keeps) hsl _ fun b H2 k2 hb2 g2 => ?_
    have hA2 := hA.add k2 (t := cel b (zba (a.says.xs ++ [z3i]))) g2 (by
    intro y hy
    have : y = b := by simpa [cel] using hy
    omega)
    have gx2' : H2.get x = some (.cells true [i64 a.kind, i64 a.n, i64 a.id, .string a.name, .string a.text, .bool a.own, a.says.v]) := k2.get gx (by simp)
    obtain ⟨c2, s2, hd⟩ := hA2.desk
    have hsv : Sl H2 (slc b 0 3 a.says.xs.length (a.says.xs.length + 1)) a.says.xs := by
      refine .inr ⟨b, 0, 3, _, rfl, by omega, Heap.get_lt g2, .inr ⟨true, _, g2, ?_, ?_⟩, .inr rfl⟩
      · rw [zd0, List.length_append]
        show 0 + a.says.xs.length * 3 ≤ (a.says.xs.length + 1) * 3
        omega
      · rw [List.drop_zero, zz7]
        exact List.take_left' (by rw [zd0])
    (try simp (maxSteps := 1000000) (disch := first | omega | (simp only [Z3]; omega) | (simp; done) | assumption | decide | (refine not_not_intro ?_; assumption)) only [Z1, Z2, splice, gx2'])
    refine zbzr hb hd ok hsv hsl a.id a.n _ fun H3 k3 => ?_
    have hA3 := hA2.keep0 k3
    have gx3' := k3.get gx2' (by simp)
    obtain ⟨u, icv, cv, isv, sv', hr3⟩ := hA3.rdesk
    (try simp (maxSteps := 1000000) (disch := first | omega | (simp only [Z3]; omega) | (simp; done) | assumption | decide | (refine not_not_intro ?_; assumption)) only [Z1, Z2, splice, gx3'])
    refine zbwv hr3 ok (hs.keep0 hA3.keeps) hsl a.id a.n _ fun H4 k4 => ?_
    have hA4 := hA3.keep0 k4
    have gx4' := k4.get gx3' (by simp)
    have g4 : H4.get b = some (.cells true (zba (a.says.xs ++ [z3i]))) := hA4.thing
    (try simp (maxSteps := 1000000) (disch := first | omega | (simp only [Z3]; omega) | (simp; done) | assumption | decide | (refine not_not_intro ?_; assumption)) only [Z1, Z2, splice, gx4'])
    refine zb08 g4 (hs.keep0 hA4.keeps) hsl _ ?_
    (try simp (maxSteps := 1000000) (disch := first | omega | (simp only [Z3]; omega) | (simp; done) | assumption | decide | (refine not_not_intro ?_; assumption)) only [Z1, Z2, splice])
    exact done _ _ [_, _] hA4 (ok.mono (by omega)) un rfl
  by_cases h4 : k = 4
  · obtain ⟨c2, s2, hd⟩ := hA.desk
    (try simp (maxSteps := 1000000) (disch := first | omega | (simp only [Z3]; omega) | (simp; done) | assumption | decide | (refine not_not_intro ?_; assumption)) only [Z1, Z2, splice, gx, hm])
    refine zbwi hd ok a.id _ fun H2 hd2 => ?_
    have hA2 := zbhi hd2
    have gx2' : H2.get x = some (.cells true [i64 a.kind, i64 a.n, i64 a.id, .string a.name, .string a.text, .bool a.own, a.says.v]) := hA2.thing
    obtain ⟨u, icv, cv, isv, sv', hr⟩ := hA2.rdesk
    (try simp (maxSteps := 1000000) (disch := first | omega | (simp only [Z3]; omega) | (simp; done) | assumption | decide | (refine not_not_intro ?_; assumption)) only [Z1, Z2, splice, gx2'])
    refine zbtm hr ok un a.id _ fun H3 hr3 => ?_
    have hA3 := zbhj hr3
    (try simp (maxSteps := 1000000) (disch := first | omega | (simp only [Z3]; omega) | (simp; done) | assumption | decide | (refine not_not_intro ?_; assumption)) only [Z1, Z2, splice, gx2'])
    exact done _ _ [_] hA3 ((zbtk ok a.id).mono (by omega)) (zbww un a.id) (us4 _)
  · obtain ⟨c2, s2, hd⟩ := hA.desk
    (try simp (maxSteps := 1000000) (disch := first | omega | (simp only [Z3]; omega) | (simp; done) | assumption | decide | (refine not_not_intro ?_; assumption)) only [Z1, Z2, splice, gx, hm, zbah])
    refine zb1m hd ok (by omega) _ fun H2 hd2 => ?_
    have hA2 := zbhi hd2
    obtain ⟨u, icv, cv, isv, sv', hr⟩ := hA2.rdesk
    (try simp (maxSteps := 1000000) (disch := first | omega | (simp only [Z3]; omega) | (simp; done) | assumption | decide | (refine not_not_intro ?_; assumption)) only [Z1, Z2, splice])
    refine zbz8 hr ok (by omega) _ fun H3 hr3 => ?_
    have hA3 := zbhj hr3
    (try simp (maxSteps := 1000000) (disch := first | omega | (simp only [Z3]; omega) | (simp; done) | assumption | decide | (refine not_not_intro ?_; assumption)) only [Z1, Z2, splice])
    exact done _ _ [_] hA3 (zbzq ok) (zb1p un) us5
end Go.AM.Cap
