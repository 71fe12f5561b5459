import Derived.Test.YtehhkminlafeiaaGreatDoorSeR
import Derived.Test.YtehhkminlafeiaaGreatDoorJSess
import Derived.Test.YtehhkminlafeiaaGreatDoorAmOpenF
set_option linter.all false
/- sess: a step of both desks -/
set_option maxHeartbeats 16000000
namespace Go.AM.Cap
open Go.AM Go.Proofs
theorem zml {α : Type} {l : List (Int × α)} {p : Int × α → Bool} (h : (l.map (·.1)).Nodup) : ((l.filter p).map (·.1)).Nodup := h.sublist (List.Sublist.map _ List.filter_sublist)
theorem zbmp {α : Type} {l : List (Int × α)} {m : Int} {x : α} (h : (l.map (·.1)).Nodup) (hm : ∀ e ∈ l, e.1 < m) : ((l ++ [(m, x)]).map (·.1)).Nodup := by
  rw [List.map_append, List.nodup_append]
  refine ⟨h, by simp, fun a ha b hb => ?_⟩
  obtain ⟨e, he, rfl⟩ := List.mem_map.1 ha
  simp only [List.map_cons, List.map_nil, List.mem_singleton] at hb
  subst hb
  have := hm e he
  omega
theorem zb0b {D : Dk} {n : Int} (ok : D.Ok n) (un : D.Un) (name nonce : ByteArray) : (zpy D name nonce).2.Un := by
  unfold zpy
  cases zg1 D.us name with
  | none => exact un
  | some i =>
    dsimp only
    split
    · exact un
    · split
      · exact un
      · exact ⟨zbmp un.c fun e he => by have := ok.ck e he; omega, un.s, un.users⟩
theorem zb0c {D : Dk} {n : Int} (ok : D.Ok n) (un : D.Un) (id : Int) (proof : ByteArray) : (zpz D id proof).2.Un := by
  unfold zpz
  cases zgj (fun e : Int × Ch => decide (id = e.1)) D.cl with
  | none => exact un
  | some i =>
    dsimp only
    split
    · exact ⟨zml un.c, un.s, un.users⟩
    · split
      · exact ⟨zml un.c, un.s, un.users⟩
      · exact ⟨zml un.c, zbmp un.s fun e he => by have := ok.sk e he; omega, un.users⟩
theorem zb1o {D : Dk} (un : D.Un) (m : ByteArray) : (zgk D m).2.Un := by
  unfold zgk
  cases zlo m with
  | none => exact un
  | some p =>
    obtain ⟨id, number, rest⟩ := p
    dsimp only
    cases hf : zgj (fun e : Int × Se => decide (id = e.1)) D.sl with
    | none => exact un
    | some i =>
      obtain ⟨hi, hp, _⟩ := zey (d := default) hf
      have hid := (of_decide_eq_true hp).symm
      dsimp only
      split
      · exact un
      · split
        · exact un
        · have hm : ∀ s : Se, ((D.sl.set i (id, s)).map (·.1)).Nodup := fun s => by
            rw [List.map_set, zbfh (d := 0) (by simpa using hi) (by rw [zkc (d' := default) hi]; exact hid)]
            exact un.s
          unfold z50
          dsimp only
          split
          · exact ⟨un.c, zml (hm _), un.users⟩
          · exact ⟨un.c, hm _, un.users⟩
theorem zbww {D : Dk} (un : D.Un) (id : Int) : (zqy D id).2.Un := by
  unfold zqy
  split
  · exact un
  · exact ⟨un.c, zml un.s, un.users⟩
theorem zb1p {D : Dk} (un : D.Un) : (zwk D).Un := ⟨zml un.c, zml un.s, un.users⟩
theorem zb0d {us : List Us} {parts idle : Int} (h : OkUs us parts) : (zrg us idle).Un := by
  refine ⟨List.nodup_nil, List.nodup_nil, fun u hu0 => ?_⟩
  have hu : u ∈ us := hu0
  show us.getD (zhv us u) default = u
  obtain ⟨i, hi, rfl⟩ := List.getElem_of_mem hu
  unfold zhv
  cases hf : zg1 us us[i].name with
  | none => exact absurd rfl (zzx.1 hf _ (List.getElem_mem hi))
  | some p =>
    obtain ⟨hp, hn, _⟩ := zey (d := default) hf
    have hnn := of_decide_eq_true hn
    show us.getD p default = us[i]
    rw [List.getD_eq_getElem?_getD, List.getElem?_eq_getElem hp] at hnn ⊢
    have hnn' : us[p].name = us[i].name := hnn
    show us[p] = us[i]
    have hpw := List.pairwise_iff_getElem.1 h.names
    rcases Nat.lt_trichotomy p i with q | q | q
    · exact absurd hnn' (hpw p i hp hi q)
    · subst q; rfl
    · exact absurd hnn'.symm (hpw i p hi hp q)
theorem zb1q (D : Dk) : (∀ a b, (zpy D a b).2.us = D.us) ∧ (∀ a b, (zpz D a b).2.us = D.us) ∧ (∀ m, (zgk D m).2.us = D.us) ∧ (∀ a, (zqy D a).2.us = D.us) ∧ (zwk D).us = D.us := by
  refine ⟨fun a b => ?_, fun a b => ?_, fun m => ?_, fun a => ?_, rfl⟩
  · unfold zpy
    cases zg1 D.us a with
    | none => rfl
    | some i => dsimp only; split <;> (try split) <;> rfl
  · unfold zpz
    cases zgj (fun e : Int × Ch => decide (a = e.1)) D.cl with
    | none => rfl
    | some i => dsimp only; split <;> (try split) <;> rfl
  · unfold zgk
    cases zlo m with
    | none => rfl
    | some p =>
      obtain ⟨id, number, rest⟩ := p
      dsimp only
      cases zgj (fun e : Int × Se => decide (id = e.1)) D.sl with
      | none => rfl
      | some i =>
        dsimp only
        split
        · rfl
        · split
          · rfl
          · unfold z50; dsimp only; split <;> rfl
  · unfold zqy
    split <;> rfl
structure Ac where
  kind : Int
  n : Int
  id : Int
  name : ByteArray
  text : ByteArray
  own : Bool
  says : In It
instance : Inhabited Ac := ⟨⟨0, 0, 0, ⟨#[]⟩, ⟨#[]⟩, false, default⟩⟩
instance : Flat Ac := ⟨7, fun a => [i64 a.kind, i64 a.n, i64 a.id, .string a.name, .string a.text, .bool a.own, a.says.v], fun _ => rfl, fun a => by simp [a.says.one], by decide⟩
theorem zbtn (a : Ac) : Flat.enc a = [i64 a.kind, i64 a.n, i64 a.id, .string a.name, .string a.text, .bool a.own, a.says.v] := rfl
theorem zb0e (a : Ac) : ([i64 a.kind, i64 a.n, i64 a.id, .string a.name, .string a.text, .bool a.own, a.says.v] : List V).all Value.isOne = true := by simp [a.says.one]
set_option maxRecDepth 20000 in
theorem zbuy {H0 H : Heap} {r : Nat} {D : Dk} {uv : V} {ul : List Us} {L : List Thing} {n : Int} (h : ze0 H0 H r D uv L) (hul : Sl H0 uv ul) (hlk : Like ul D.us) (ok : D.Ok n) (un : D.Un) (a : Ac) (ht : a.text.size ≤ 1048576) (hs : Sl H a.says.v a.says.xs) (hsl : a.says.xs.length ≤ 1048576) (Q : V → Heap → Prop)
    (hQ : ∀ t H', t.size ≤ 1048576 → Keeps [] H H' → Q (.string t) H') : wp (zl8 [ptr r 0, .agg (Flat.enc a).toArray]) Q H := by
  show wp (zw9 (ptr r 0) (.agg (Flat.enc a).toArray)) Q H
  obtain ⟨cv, sv', st⟩ := h
  have ho := zb0e a
  have hm := zbmn a.kind 6 (by decide)
  have k1 : Keeps [] H (H.push (some (.cells true [i64 a.kind, i64 a.n, i64 a.id, .string a.name, .string a.text, .bool a.own, a.says.v]))) := Keeps.push _ _ _
  have gx1 : (H.push (some (.cells true [i64 a.kind, i64 a.n, i64 a.id, .string a.name, .string a.text, .bool a.own, a.says.v]))).get H.next = some (.cells true [i64 a.kind, i64 a.n, i64 a.id, .string a.name, .string a.text, .bool a.own, a.says.v]) := Heap.get_push_self _ _
  unfold zw9
  rw [zk, zk, zbtn]
  refine (zbu ho).mpr ?_
  have st1 := st.keep0 k1
  have hs1 := hs.keep0 k1
  generalize H.push (some (.cells true [i64 a.kind, i64 a.n, i64 a.id, .string a.name, .string a.text, .bool a.own, a.says.v])) = H1 at *
  have g1 := st1.get (i := 0) rfl
  have oc := st1.own (i := 1) rfl
  have os := st1.own (i := 2) rfl
  have hlc := oc.len
  have hls := os.len
  rw [List.length_map] at hlc hls
  have hcl := ok.cl
  have hsl8 := ok.sl
  have hll := hlk.len
  have husl := ok.us
  cases hown : a.own with
  | false =>
    rw [hown] at gx1
    (try simp (maxSteps := 1000000) (disch := first | omega | (simp only [Z3]; omega) | (simp; done) | assumption | decide | (refine not_not_intro ?_; assumption)) only [Z1, Z2, splice, gx1])
    exact hQ _ _ ht k1
  | true =>
    rw [hown] at gx1
    have second : ∀ H2, Keeps [] H1 H2 → wp (z11 [ptr r 0, ptr H.next 0]) (fun b H' => wp (zcf b fun vs => ret (zca [zc vs 0])) Q H') H2 := by
      intro H2 k2
      have g2 := k2.get g1 (by simp)
      have gx2 := k2.get gx1 (by simp)
      have os2 := os.keep0 k2
      have k02 := k1.trans k2 (by simp)
      (try simp (maxSteps := 1000000) (disch := first | omega | (simp only [Z3]; omega) | (simp; done) | assumption | decide | (refine not_not_intro ?_; assumption)) only [Z1, Z2, splice, z11])
      refine zbt (Inv := fun k vs H' => ∃ j : Nat, k = D.sl.length - j ∧ j ≤ D.sl.length ∧ vs = [ptr r 0, ptr H.next 0, i64 j] ∧ H' = H2) (n := D.sl.length) (by unfold zcc; omega)
        ⟨0, by omega, by omega, rfl, rfl⟩ ?_
      rintro k vs H3 ⟨j, hk, hj, rfl, he⟩
      rw [he]; clear he H3
      by_cases hlt : j < D.sl.length
      case neg =>
        (try simp (maxSteps := 1000000) (disch := first | omega | (simp only [Z3]; omega) | (simp; done) | assumption | decide | (refine not_not_intro ?_; assumption)) only [Z1, Z2, splice, zux, g2, hls, z90, gx2])
        exact hQ _ _ ht k02
      have hlm : j < (D.sl.map (zd6 D.us)).length := by simpa using hlt
      have a1 := os2.sl.addr' (n := 5) rfl (k := .i64) (i := (j : Int)) (by omega) (by omega)
      have c0 := os2.sl.cell' (n := 5) rfl (i := j) (off := 0) hlm (by omega) default
      have c2 := os2.sl.cell' (n := 5) rfl (i := j) (off := 2) hlm (by omega) default
      have c4 := os2.sl.cell' (n := 5) rfl (i := j) (off := 4) hlm (by omega) default
      rw [Int.toNat_natCast] at a1
      rw [zl, zkc (d' := default) hlt] at c0 c2 c4
      have hck := ok.sk _ (zdx (d := default) hlt)
      generalize D.sl.getD j default = e at *
      have c0' : zlr (H2.get (slB sv')) (slO sv' + j * 5) = some (i64 e.1) := c0
      have c2' : zlr (H2.get (slB sv')) (slO sv' + j * 5 + 2) = some (i64 e.2.next) := c2
      have c4' : zlr (H2.get (slB sv')) (slO sv' + j * 5 + 4) = some (.string e.2.key) := c4
      by_cases hx : e.1 = a.id
      · (try simp (maxSteps := 1000000) (disch := first | omega | (simp only [Z3]; omega) | (simp; done) | assumption | decide | (refine not_not_intro ?_; assumption)) only [Z1, Z2, splice, zux, g2, hls, z10, a1, gx2, c0', c2', c4', hx])
        refine zbrc e.2.key (by omega) (hs1.keep0 k2) hsl a.id _ _ fun H4 k4 => ?_
        (try simp (maxSteps := 1000000) (disch := first | omega | (simp only [Z3]; omega) | (simp; done) | assumption | decide | (refine not_not_intro ?_; assumption)) only [Z1, Z2, splice])
        refine hQ _ _ ?_ (k02.trans k4 (by simp))
        have := zbed (k := e.2.key) (id := a.id) (n := IntKind.i64.wrap (e.2.next + a.n)) (says := a.says.xs)
        omega
      · (try simp (maxSteps := 1000000) (disch := first | omega | (simp only [Z3]; omega) | (simp; done) | assumption | decide | (refine not_not_intro ?_; assumption)) only [Z1, Z2, splice, zux, g2, hls, z10, a1, gx2, c0', hx, z9z])
        exact ⟨D.sl.length - (j + 1), by omega, j + 1, rfl, by omega, by push_cast; rfl, trivial⟩
    (try simp (maxSteps := 1000000) (disch := first | omega | (simp only [Z3]; omega) | (simp; done) | assumption | decide | (refine not_not_intro ?_; assumption)) only [Z1, Z2, splice, gx1, z91, hm])
    by_cases h1 : zbfj a.kind 6 = 1
    case neg =>
      (try simp (maxSteps := 1000000) (disch := first | omega | (simp only [Z3]; omega) | (simp; done) | assumption | decide | (refine not_not_intro ?_; assumption)) only [Z1, Z2, splice])
      exact second _ (Keeps.refl _ _)
    (try simp (maxSteps := 1000000) (disch := first | omega | (simp only [Z3]; omega) | (simp; done) | assumption | decide | (refine not_not_intro ?_; assumption)) only [Z1, Z2, splice])
    refine zbt (Inv := fun k vs H' => ∃ j : Nat, k = D.cl.length - j ∧ j ≤ D.cl.length ∧ vs = [ptr r 0, ptr H.next 0, i64 j] ∧ H' = H1) (n := D.cl.length) (by unfold zcc; omega)
      ⟨0, by omega, by omega, rfl, rfl⟩ ?_
    rintro k vs H3 ⟨j, hk, hj, rfl, he⟩
    rw [he]; clear he H3
    by_cases hlt : j < D.cl.length
    case neg =>
      (try simp (maxSteps := 1000000) (disch := first | omega | (simp only [Z3]; omega) | (simp; done) | assumption | decide | (refine not_not_intro ?_; assumption)) only [Z1, Z2, splice, zuw, g1, hlc, z9y, gx1])
      exact hQ _ _ ht k1
    have hlm : j < (D.cl.map (zgb D.us)).length := by simpa using hlt
    have a1 := oc.sl.addr' (n := 4) rfl (k := .i64) (i := (j : Int)) (by omega) (by omega)
    have c0 := oc.sl.cell' (n := 4) rfl (i := j) (off := 0) hlm (by omega) default
    have c1 := oc.sl.cell' (n := 4) rfl (i := j) (off := 1) hlm (by omega) default
    have c3 := oc.sl.cell' (n := 4) rfl (i := j) (off := 3) hlm (by omega) default
    rw [Int.toNat_natCast] at a1
    rw [zl, zkc (d' := default) hlt] at c0 c1 c3
    have hck := ok.ck _ (zdx (d := default) hlt)
    generalize D.cl.getD j default = e at *
    have c0' : zlr (H1.get (slB cv)) (slO cv + j * 4) = some (i64 e.1) := c0
    have c1' : zlr (H1.get (slB cv)) (slO cv + j * 4 + 1) = some (i64 (zhv D.us e.2.user)) := c1
    have c3' : zlr (H1.get (slB cv)) (slO cv + j * 4 + 3) = some (.string e.2.nonce) := c3
    by_cases hx : e.1 = a.id
    case neg =>
      (try simp (maxSteps := 1000000) (disch := first | omega | (simp only [Z3]; omega) | (simp; done) | assumption | decide | (refine not_not_intro ?_; assumption)) only [Z1, Z2, splice, zuw, g1, hlc, z1z, a1, gx1, c0', hx, z9x])
      exact ⟨D.cl.length - (j + 1), by omega, j + 1, rfl, by omega, by push_cast; rfl, trivial⟩
    have hus := hul.keep0 st1.keeps
    have hpl : zhv D.us e.2.user < D.us.length := by
      unfold zhv
      cases hfq : zg1 D.us e.2.user.name with
      | none => have := zzx.1 hfq _ hck.1; exact absurd rfl this
      | some p => exact (zey (d := default) hfq).1
    have au := hus.addr' (n := 3) rfl (k := .i64) (i := ((zhv D.us e.2.user : Nat) : Int)) (by omega) (by omega)
    have cu := hus.cell' (n := 3) rfl (i := zhv D.us e.2.user) (off := 1) (by omega) (by omega) default
    rw [Int.toNat_natCast] at au
    have hkey : (ul.getD (zhv D.us e.2.user) default).key = e.2.user.key := by rw [(hlk.at _).2, un.users _ hck.1]
    rw [zl, show (Flat.enc (ul.getD (zhv D.us e.2.user) default))[1]? = some (.string (ul.getD (zhv D.us e.2.user) default).key) from rfl, hkey] at cu
    have hks := (ok.uk _ hck.1).1
    (try simp (maxSteps := 1000000) (disch := first | omega | (simp only [Z3]; omega) | (simp; done) | assumption | decide | (refine not_not_intro ?_; assumption)) only [Z1, Z2, splice, zuw, g1, hlc, z1z, a1, gx1, c0', c1', c3', hx, au, cu])
    refine zbmg e.2.user.key e.2.nonce a.id (by omega) (by omega) _ fun H4 k4 => ?_
    (try simp (maxSteps := 1000000) (disch := first | omega | (simp only [Z3]; omega) | (simp; done) | assumption | decide | (refine not_not_intro ?_; assumption)) only [Z1, Z2, splice])
    refine hQ _ _ ?_ (k1.trans k4 (by simp))
    have : (zos e.2.user.key e.2.nonce a.id).1.size = 32 := by unfold zos; rw [zgw, zoq]
    omega
end Go.AM.Cap
