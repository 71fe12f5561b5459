import Derived.Test.YtjchglndancedaaGreatDoorCfM
import Derived.Test.YtjchglndancedaaGreatDoorAmOpenF
set_option linter.all false
/- conf: the reader; lines of one thing -/
set_option maxHeartbeats 8000000
namespace Go.AM.Cap
open Go.AM Go.Proofs
theorem zr0 {α : Type} [Flat α] {H0 H : Heap} {L : List Thing} {v : V} {xs ys : List α} {n m bytes i : Nat} {zero : List V} {parts : List (Nat × Nat × V)} {Q : V → Heap → Heap → Prop} (h : Hp H0 H L) (hi : L[i]? = some (Go.AM.own v xs)) (hs : Flat.size α = n) (hz : zero.all ziq = true) (hf : zdm zero parts = some (zdv ys)) (hm : ys.length = m) (hb : xs.length + m ≤ 10000000) (hby : bytes ≤ 1000)
    (hQ : ∀ w H1 H', Keeps [] H H1 → Hp H0 H' (L.set i (Go.AM.own w (xs ++ ys))) → Q w H1 H') : wp (zjx n m zero parts) (fun x H1 => wp (zj3 n bytes v x) (fun w H' => Q w H1 H') H1) H := by
  refine (zub hz hf).mpr ?_
  have k1 : Keeps [] H (H.push (some (.cells true (zdv ys)))) := Keeps.push _ _ _
  have s1 := h.newo (n := n) (m := m) ys hs hm
  generalize H.push (some (.cells true (zdv ys))) = H1 at *
  have hmul : (xs.length + ys.length) * bytes ≤ 10000000 * 1000 := Nat.mul_le_mul (by omega) hby
  refine zbf4 s1 (i := i + 1) (by rw [List.getElem?_cons_succ]; exact hi) hs (s1.own (i := 0) rfl).sl (by omega) (by omega) fun w H' s2 => ?_
  rw [List.set_cons_succ] at s2
  exact hQ w H1 H' k1 s2.tail
theorem zr1 {α : Type} [Flat α] {H : Heap} {v : V} {l : List α} (h : Sl H v l) : zlk (some v) v = true := by
  rcases h with ⟨rfl, _⟩ | ⟨b, o, u, c, rfl, _⟩ <;> simp [zlk, vEq]
structure RV where
  pv : V
  gv : V
  qv : V
  wv : V
  uv : V
  sv : V
  ov : V
  uns : List Un
  uz : List Us
def RV.cells (v : RV) (st : RSt) : List V := [v.pv, v.gv, v.qv, i64 st.sy.frame, v.wv, v.uv, i64 st.sy.millis, v.sv, i64 st.idle, v.ov]
def unT (l : List Un) : List Thing := l.flatMap fun u => [own u.ins.v u.ins.xs, own u.outs.v u.outs.xs]
def usT (l : List Us) : List Thing := l.map fun u => own u.rs.v u.rs.xs
def RV.things (R : Nat) (v : RV) (st : RSt) (L : List Thing) : List Thing :=
  cel R (v.cells st) :: own v.pv st.sy.pts :: own v.gv st.sy.grs :: own v.qv st.sy.prs :: own v.wv st.sy.wins :: own v.uv v.uns :: own v.sv v.uz :: own v.ov st.once :: (unT v.uns ++ (usT v.uz ++ L))
structure ReadAt (H0 H : Heap) (R : Nat) (v : RV) (st : RSt) (L : List Thing) : Prop where
  hp : Hp H0 H (v.things R st L)
  uns : v.uns.map Un.p = st.sy.uns
  us : v.uz.map Us.p = st.us
structure Sm (st : RSt) (k : Nat) : Prop where
  pts : st.sy.pts.length ≤ k
  grs : st.sy.grs.length ≤ k
  prs : st.sy.prs.length ≤ k
  wins : st.sy.wins.length ≤ k
  uns : st.sy.uns.length ≤ k
  us : st.us.length ≤ k
  once : st.once.length ≤ k
  inn : ∀ u ∈ st.sy.uns, u.ins.length ≤ k ∧ u.outs.length ≤ k
  rol : ∀ u ∈ st.us, u.rs.length ≤ k
variable {H0 H : Heap} {R : Nat} {v : RV} {st : RSt} {L : List Thing}
theorem ReadAt.keep0 {H' : Heap} (h : ReadAt H0 H R v st L) (hk : Keeps [] H H') : ReadAt H0 H' R v st L := ⟨h.hp.keep0 hk, h.uns, h.us⟩
theorem ReadAt.get (h : ReadAt H0 H R v st L) : H.get R = some (.cells true (v.cells st)) := h.hp.get (i := 0) rfl
theorem ReadAt.lt (h : ReadAt H0 H R v st L) : R < H.next := Heap.get_lt h.get
theorem ReadAt.rest (h : ReadAt H0 H R v st L) : Hp H0 H L := by
  refine h.hp.sub ?_
  unfold RV.things
  refine List.Sublist.trans ?_ (List.sublist_cons_self _ _)
  refine List.Sublist.trans ?_ (List.sublist_cons_self _ _)
  refine List.Sublist.trans ?_ (List.sublist_cons_self _ _)
  refine List.Sublist.trans ?_ (List.sublist_cons_self _ _)
  refine List.Sublist.trans ?_ (List.sublist_cons_self _ _)
  refine List.Sublist.trans ?_ (List.sublist_cons_self _ _)
  refine List.Sublist.trans ?_ (List.sublist_cons_self _ _)
  refine List.Sublist.trans ?_ (List.sublist_cons_self _ _)
  exact (List.sublist_append_right _ _).trans (List.sublist_append_right _ _)
theorem ReadAt.words {wv : V} {ws : List ByteArray} (h : ReadAt H0 H R v st (view wv ws :: L)) : Sl H wv ws := h.rest.view (i := 0) rfl
def znq (H0 H : Heap) (R : Nat) (L : List Thing) (r : Option RSt) (m : M V) : Prop :=
  ∀ Q : V → Heap → Prop, (∀ st', r = some st' → ∀ v' H', ReadAt H0 H' R v' st' L → Q (.bool true) H') → (r = none → ∀ H', Hp H0 H' L → Q (.bool false) H') → wp m Q H
theorem zbqr {wv : V} {ws : List ByteArray} (hT : Tabs H0) (h : ReadAt H0 H R v st (view wv ws :: L)) (hs : Sm st 1000000) (hw : 1 ≤ ws.length) : znq H0 H R (view wv ws :: L) (zuw st ws) (ze1 [ptr R 0, wv]) := by
  intro Q hok hbad
  show wp (zis (ptr R 0) wv) Q H
  have hsl := h.words
  have hlen := hsl.len
  by_cases c1 : ws.length = 2
  case neg =>
    have e : zuw st ws = none := by rw [zuw, if_neg (fun q => c1 q.1)]
    have e1 : decide ((ws.length : Int) ≠ 2) = true := decide_eq_true (by omega)
    (try simp (maxSteps := 1000000) (disch := first | omega | (simp only [Z3]; omega) | (simp; done) | assumption | decide | (refine not_not_intro ?_; assumption)) only [Z1, Z2, splice, zis, hlen, e1])
    exact hbad e _ h.rest
  have e1 : decide ((ws.length : Int) ≠ 2) = false := decide_eq_false (by omega)
  obtain ⟨a1, b1⟩ := wd hsl (i := 1) (n := 1) (by omega) rfl
  obtain ⟨a0, b0⟩ := wd0 hsl (by omega)
  (try simp (maxSteps := 1000000) (disch := first | omega | (simp only [Z3]; omega) | (simp; done) | assumption | decide | (refine not_not_intro ?_; assumption)) only [Z1, Z2, splice, zis, hlen, e1, zs0, a1, b1])
  refine zbmm (hT.keep0 h.hp.keeps) (wAt ws 1) _ ?_
  have g := h.get
  have hone := (h.hp.own (i := 1) rfl)
  unfold RV.cells at g
  (try simp (maxSteps := 1000000) (disch := first | omega | (simp only [Z3]; omega) | (simp; done) | assumption | decide | (refine not_not_intro ?_; assumption)) only [Z1, zl, zf, zbx, zb8, eq_self, true_and, zby, zbt, zdz, zb0, zbi, zbc, Heap.get_push_eq, Heap.get_push_lt, Heap.get_set_eq, Heap.get_set_ne', Heap.next_push', Heap.next_set', Heap.set_push_lt, Heap.set_push_eq, Heap.set_set, zbj, zbk, zp, zbn, zbo, zi, zw, zbp, zbd, zu, zbe, zbf, zbg, zbh, List.set_cons_zero, List.set_cons_succ, List.length_cons, List.length_nil, List.drop_succ_cons, List.drop_zero, List.take_succ_cons, List.take_zero, List.nil_append, List.cons_append, splice, zq, zr, zh, ze, zd, zt, zbl, zv, zb2, zbu, zbm, zbs, zg, zm, Option.map_some, zbq, zbr, zk, zba, z7, zz, zj, zx, zy, g, a0, b0])
  have hf : zdm (rep 1 [Value.int .i64 0, Value.bool false]) [(0, 2, .agg #[i64 (zim (wAt ws 1)), .bool (decide (wAt ws 0 = (⟨#[111, 117, 116]⟩ : ByteArray)))])] = some (zdv ([⟨zim (wAt ws 1), decide (wAt ws 0 = kOut)⟩] : List Pt)) := by
    show zdm _ [(0, 2, .agg ([i64 (zim (wAt ws 1)), .bool (decide (wAt ws 0 = kOut))] : List V).toArray)] = _
    rw [zbb (n := 2) rfl rfl (by decide), zg]
    rfl
  refine zr0 (α := Pt) (n := 2) (ys := [⟨zim (wAt ws 1), decide (wAt ws 0 = kOut)⟩]) h.hp (i := 1) rfl rfl (by decide) hf rfl (by have := hs.pts; omega) (by decide) fun w H1 H2 k1 s2 => ?_
  have g1 := k1.get h.get (by simp)
  have ck : zlk (zlb (H1.get R) 0) v.pv = true := by rw [g1]; exact zr1 hone.sl
  have g2 := s2.get (i := 0) rfl
  unfold RV.cells at g2
  have n2 := Heap.get_lt g2
  have ow := (s2.own (i := 1) rfl).isOne
  (try simp (maxSteps := 1000000) (disch := first | omega | (simp only [Z3]; omega) | (simp; done) | assumption | decide | (refine not_not_intro ?_; assumption)) only [Z1, Z2, splice, g2])
  simp only [ow, true_and]
  have s3 := s2.set (i := 0) rfl ({ v with pv := w }.cells (addP st ⟨zim (wAt ws 1), decide (wAt ws 0 = kOut)⟩))
  unfold RV.cells at s3
  by_cases c2 : zim (wAt ws 1) = 0
  · have e : zuw st ws = none := by rw [zuw, if_neg (fun q => q.2 c2)]
    have ed : decide (zim (wAt ws 1) ≠ 0) = false := decide_eq_false (fun q => q c2)
    rw [ed]
    have r3 : ReadAt H0 _ R { v with pv := w } (addP st ⟨zim (wAt ws 1), decide (wAt ws 0 = kOut)⟩) (view wv ws :: L) := ⟨s3, h.uns, h.us⟩
    (try simp (maxSteps := 1000000) (disch := first | omega | (simp only [Z3]; omega) | (simp; done) | assumption | decide | (refine not_not_intro ?_; assumption)) only [Z1, Z2, splice, ck])
    exact hbad e _ r3.rest
  · have e : zuw st ws = some (addP st ⟨zim (wAt ws 1), decide (wAt ws 0 = kOut)⟩) := by rw [zuw, if_pos ⟨c1, c2⟩]
    have ed : decide (zim (wAt ws 1) ≠ 0) = true := decide_eq_true c2
    rw [ed]
    have r3 : ReadAt H0 _ R { v with pv := w } (addP st ⟨zim (wAt ws 1), decide (wAt ws 0 = kOut)⟩) (view wv ws :: L) := ⟨s3, h.uns, h.us⟩
    (try simp (maxSteps := 1000000) (disch := first | omega | (simp only [Z3]; omega) | (simp; done) | assumption | decide | (refine not_not_intro ?_; assumption)) only [Z1, Z2, splice, ck])
    exact hok _ e _ _ r3
theorem vd {l : List Int} {v : V} (h : Sl H v l) {i : Nat} {n : Int} (hi : i < l.length) (hn : n = (i : Int)) : zb5 1 v (.int .i64 n) = some (ptr (slB v) (slO v + i)) ∧ zlb (H.get (slB v)) (slO v + i) = some (i64 (l.getD i 0)) := by
  subst hn
  have a1 := h.addr1 rfl (k := .i64) (i := i) (by omega) (by omega)
  rw [Int.toNat_natCast] at a1
  have c1 := h.cell1 rfl hi 0
  rw [zl] at c1
  exact ⟨a1, c1⟩
theorem vd0 {l : List Int} {v : V} (h : Sl H v l) (hi : 0 < l.length) : zb5 1 v (.int .i64 0) = some (ptr (slB v) (slO v)) ∧ zlb (H.get (slB v)) (slO v) = some (i64 (l.getD 0 0)) := vd h hi rfl
theorem zzb {ws : List ByteArray} {n : Nat} {l : List Int} (h : znp ws n = some l) : l.length = n := by
  unfold znp at h
  by_cases c : ws.all (fun w => (zyi w).2) = true ∧ ws.length = n
  · rw [if_pos c] at h; cases h; rw [List.length_map]; exact c.2
  · rw [if_neg c] at h; cases h
end Go.AM.Cap
