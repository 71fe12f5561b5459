import Derived.Test.YtjchglndancedaaGreatDoorPnB
import Derived.Test.YtjchglndancedaaGreatDoorPoB
import Derived.Test.YtjchglndancedaaGreatDoorRoC
import Derived.Test.YtjchglndancedaaGreatDoorAmOpenF
set_option linter.all false
/- conf: systems, setups; the plan's Check; loops that count up; copies -/
set_option maxHeartbeats 8000000
namespace Go.AM.Cap
open Go.AM Go.Proofs
theorem ze6 {body : List V → M Out} {vs : List V} {Q : Out → Heap → Prop} {H : Heap} (n : Nat) (hn : n ≤ 1000000000000) (Inv : Nat → List V → Heap → Prop) (h0 : Inv 0 vs H)
    (hstep : ∀ j vs H, j ≤ n → Inv j vs H → wp (body vs) (fun o H' => match o with | .nxt vs' => j < n ∧ Inv (j + 1) vs' H' | o => Q o H') H) : wp (zc7 zem body vs) Q H := by
  refine zpi (Inv := fun k vs H => ∃ j, k = n - j ∧ j ≤ n ∧ Inv j vs H) (n := n) (by unfold zem; omega) ⟨0, by omega, by omega, h0⟩ ?_
  rintro k vs H ⟨j, hk, hj, hi⟩
  refine z6r (hstep j vs H hj hi) fun o H' ho => ?_
  cases o with
  | nxt vs' => obtain ⟨h1, h2⟩ := ho; exact ⟨n - (j + 1), by omega, j + 1, rfl, by omega, h2⟩
  | brk i vs' => exact ho
  | ret vs' => exact ho
theorem zsg {α : Type} [Flat α] {H : Heap} {v : V} {l : List α} {n bytes : Nat} {zero : List V} (hs : Flat.size α = n) (hz : zdm (rep 0 zero) [] = some (zdv ([] : List α))) (hz2 : (rep 0 zero).all ziq = true) (h : Sl H v l) (hl : l.length ≤ 100000000) (hb : bytes ≤ 1000) (Q : V → Heap → Prop) (hQ : ∀ w H', zkx H' w l → Keeps [] H H' → (∀ b ∈ vb w, H.next ≤ b) → Q w H') :
    wp (zb (zb (zb (za (zey false (zgb .s v))) fun x4 => zbv x4 (ret (.ret [(Value.slice none 0 0)])) (ret (.nxt [v]))) fun o => nx o fun vs => zb (zjx n 0 (rep 0 zero) []) fun x5 => zb (zj3 n bytes x5 (zc vs 0)) fun x7 => ret (.ret [x7])) fun o => zcp o fun vs => ret (zcm [(zc vs 0)])) Q H := by
  by_cases hn : v = .slice none 0 0
  · subst hn
    have hl0 : l = [] := by
      rcases h with ⟨_, rfl⟩ | ⟨b, o, u, c, e, _⟩
      · rfl
      · cases e
    subst hl0
    have e : zey false (zgb .s (Value.slice none 0 0 : V)) = some (.bool true) := rfl
    (try simp (maxSteps := 1000000) (disch := first | omega | (simp only [Z3]; omega) | (simp; done) | assumption | decide | (refine not_not_intro ?_; assumption)) only [Z1, Z2, splice, e])
    exact hQ _ H (zkx.nil _) (Keeps.refl _ _) (by simp)
  · have e : zey false (zgb .s v) = some (.bool false) := by
      rcases h with ⟨rfl, _⟩ | ⟨b, o, u, c, rfl, _⟩
      · exact absurd rfl hn
      · rfl
    (try simp (maxSteps := 1000000) (disch := first | omega | (simp only [Z3]; omega) | (simp; done) | assumption | decide | (refine not_not_intro ?_; assumption)) only [Z1, Z2, splice, e])
    refine (zub hz2 hz).mpr ?_
    have k1 : Keeps [] H (H.push (some (.cells true (zdv ([] : List α))))) := Keeps.push _ _ _
    have o1 := zyr (H := H) (xs := ([] : List α)) (n := n) (m := 0) hs rfl
    have n1 : (H.push (some (.cells true (zdv ([] : List α))))).next = H.next + 1 := by simp
    generalize H.push (some (.cells true (zdv ([] : List α)))) = H1 at *
    (try simp (maxSteps := 1000000) (disch := first | omega | (simp only [Z3]; omega) | (simp; done) | assumption | decide | (refine not_not_intro ?_; assumption)) only [Z1, Z2, splice])
    have hmul : l.length * bytes ≤ 100000000 * 1000 := Nat.mul_le_mul hl hb
    refine z22 (α := α) hs o1 (h.keep0 k1) (by simp; omega) (by simp; omega) fun w H2 o2 k2 v2 => ?_
    rw [List.nil_append] at o2
    (try simp (maxSteps := 1000000) (disch := first | omega | (simp only [Z3]; omega) | (simp; done) | assumption | decide | (refine not_not_intro ?_; assumption)) only [Z1, Z2, splice])
    refine hQ w H2 o2 (k1.trans k2 fun b hb hm => by simp at hm; omega) fun b hb => ?_
    rcases v2 b hb with q | q
    · simp at q; omega
    · omega
structure Win where
  part : Int
  start : Int
  len : Int
  deriving DecidableEq, Inhabited
instance : Flat Win := ⟨3, fun p => [i64 p.part, i64 p.start, i64 p.len], fun _ => rfl, fun _ => rfl, by decide⟩
theorem zrw (p : Win) : Flat.enc p = [i64 p.part, i64 p.start, i64 p.len] := rfl
structure Bd where
  kind : Int
  n : Int
  deriving DecidableEq, Inhabited
instance : Flat Bd := ⟨2, fun p => [i64 p.kind, i64 p.n], fun _ => rfl, fun _ => rfl, by decide⟩
theorem z5w (p : Bd) : Flat.enc p = [i64 p.kind, i64 p.n] := rfl
structure Un where
  ins : In Bd
  outs : In Bd
instance : Inhabited Un := ⟨⟨default, default⟩⟩
instance : Flat Un := ⟨2, fun u => [u.ins.v, u.outs.v], fun _ => rfl, fun u => by simp [u.ins.one, u.outs.one], by decide⟩
theorem zbp5 (u : Un) : Flat.enc u = [u.ins.v, u.outs.v] := rfl
structure PUn where
  ins : List Bd
  outs : List Bd
  deriving DecidableEq, Inhabited
def Un.p (u : Un) : PUn := ⟨u.ins.xs, u.outs.xs⟩
structure PUs where
  name : ByteArray
  key : ByteArray
  rs : List Rl
  deriving DecidableEq
instance : Inhabited PUs := ⟨⟨⟨#[]⟩, ⟨#[]⟩, []⟩⟩
def Us.p (u : Us) : PUs := ⟨u.name, u.key, u.rs.xs⟩
structure Sy where
  pts : List Pt
  grs : List Gr
  prs : List Port
  frame : Int
  wins : List Win
  uns : List PUn
  millis : Int
  deriving DecidableEq, Inhabited
structure Units (H : Heap) (v : V) (l : List Un) : Prop where
  out : Sl H v l
  inn : ∀ u ∈ l, Sl H u.ins.v u.ins.xs ∧ Sl H u.outs.v u.outs.xs
theorem Units.keep0 {H H' : Heap} {v : V} {l : List Un} (h : Units H v l) (hk : Keeps [] H H') : Units H' v l := ⟨h.out.keep0 hk, fun u hu => ⟨(h.inn u hu).1.keep0 hk, (h.inn u hu).2.keep0 hk⟩⟩
theorem Units.at {H : Heap} {v : V} {l : List Un} (h : Units H v l) {i : Nat} (hi : i < l.length) : Sl H (l.getD i default).ins.v (l.getD i default).ins.xs ∧ Sl H (l.getD i default).outs.v (l.getD i default).outs.xs := h.inn _ (zgs hi)
structure SyV where
  pv : V
  gv : V
  qv : V
  wv : V
  uv : V
def SyV.cs (x : SyV) (s : Sy) : List V := [x.pv, x.gv, x.qv, i64 s.frame, x.wv, x.uv, i64 s.millis]
structure SysAt (H : Heap) (x : SyV) (s : Sy) : Prop where
  pts : Sl H x.pv s.pts
  grs : Sl H x.gv s.grs
  prs : Sl H x.qv s.prs
  wins : Sl H x.wv s.wins
  uns : ∃ l : List Un, Units H x.uv l ∧ l.map Un.p = s.uns
  small : s.pts.length ≤ 1000000 ∧ s.grs.length ≤ 1000000 ∧ s.prs.length ≤ 1000000 ∧ s.wins.length ≤ 1000000 ∧ s.uns.length ≤ 1000000
theorem SysAt.keep0 {H H' : Heap} {x : SyV} {s : Sy} (h : SysAt H x s) (hk : Keeps [] H H') : SysAt H' x s := ⟨h.pts.keep0 hk, h.grs.keep0 hk, h.prs.keep0 hk, h.wins.keep0 hk, by obtain ⟨l, h1, h2⟩ := h.uns; exact ⟨l, h1.keep0 hk, h2⟩, h.small⟩
theorem SysAt.one {H : Heap} {x : SyV} {s : Sy} (h : SysAt H x s) : (x.cs s).all Value.isOne = true := by
  obtain ⟨l, h1, _⟩ := h.uns
  simp [SyV.cs, h.pts.isOne, h.grs.isOne, h.prs.isOne, h.wins.isOne, h1.out.isOne]
def zxg (ws : List Win) (p : Int) : Nat := ws.countP fun w => decide (w.part = p)
def z9e (frame n e : Int) (w : Win) : Prop := w.part < -1 ∨ w.part ≥ n ∨ w.len < 1 ∨ w.start < e ∨ w.start > frame ∨ w.len > frame - w.start
instance (frame n e : Int) (w : Win) : Decidable (z9e frame n e w) := by unfold z9e; exact inferInstance
def zz9 (frame n : Int) : Int → List Win → Bool
  | _, [] => false
  | e, w :: ws => if z9e frame n e w then true else zz9 frame n (w.start + w.len) ws
def z4r (frame : Int) (ws : List Win) (n : Int) : Int :=
  if n < 1 ∨ n > 8 then 1 else
  if frame < 1 ∨ frame > 65536 ∨ ws.length < 1 ∨ ws.length > 32 then 210 else
  if zz9 frame n 0 ws = true then 210 else
  if zxg ws (-1) > 1 then 210 else
  if ∃ p ∈ List.range n.toNat, zxg ws (p : Int) = 0 then 210 else 0
theorem zbmc {H : Heap} {wv : V} {ws : List Win} (frame : Int) (h : Sl H wv ws) (hl : ws.length ≤ 1000000) (p : Int) (Q : V → Heap → Prop) (hQ : ∀ H', Keeps [] H H' → Q (i64 (zxg ws p)) H') : wp (zqj [.agg [i64 frame, wv].toArray, i64 p]) Q H := by
  show wp (zw7 (.agg [i64 frame, wv].toArray) (i64 p)) Q H
  have ho : ([i64 frame, wv] : List V).all Value.isOne = true := by simp [h.isOne]
  (try simp (maxSteps := 1000000) (disch := first | omega | (simp only [Z3]; omega) | (simp; done) | assumption | decide | (refine not_not_intro ?_; assumption)) only [Z1, Z2, splice, zw7, h.len])
  have k1 : Keeps [] H (H.push (some (.cells true [i64 frame, wv]))) := Keeps.push _ _ _
  generalize H.push (some (.cells true [i64 frame, wv])) = H1 at *
  have hH1 := h.keep0 k1
  have htake : zxg (ws.take 0) p = 0 := rfl
  refine ze6 ws.length (by omega) (fun j vs H' => vs = [i64 p, i64 (zxg (ws.take j) p), wv, i64 ws.length, i64 j] ∧ Keeps [] H H') ⟨rfl, k1⟩ ?_
  rintro j vs H2 hj ⟨rfl, k2⟩
  by_cases hlt : j < ws.length
  case neg =>
    have : j = ws.length := by omega
    subst this
    (try simp (maxSteps := 1000000) (disch := first | omega | (simp only [Z3]; omega) | (simp; done) | assumption | decide | (refine not_not_intro ?_; assumption)) only [Z1, Z2, splice, zul, z62])
    rw [List.take_length]
    exact hQ _ k2
  have h2 := h.keep0 k2
  have a1 := h2.addr' (n := 3) rfl (k := .i64) (i := j) (by omega) (by omega)
  rw [Int.toNat_natCast] at a1
  have d1 := fun Q => h2.ldn' (Q := Q) (n := 3) rfl hlt default
  have hts : ws.take (j + 1) = ws.take j ++ [ws.getD j default] := by
    rw [List.getD_eq_getElem?_getD, List.getElem?_eq_getElem hlt]; exact List.take_succ_eq_append_getElem hlt
  have hcnt : (zxg (ws.take j) p : Int) ≤ 1000000 := by
    have : zxg (ws.take j) p ≤ (ws.take j).length := List.countP_le_length
    rw [List.length_take] at this
    omega
  rw [hts]
  simp only [zxg, List.countP_append] at hcnt ⊢
  generalize ws.getD j default = x at *
  by_cases hx : x.part = p
  · (try simp (maxSteps := 1000000) (disch := first | omega | (simp only [Z3]; omega) | (simp; done) | assumption | decide | (refine not_not_intro ?_; assumption)) only [Z1, zl, zf, zbx, zb8, eq_self, true_and, zby, zbt, zb0, zbi, zbc, Heap.get_push_eq, Heap.get_push_lt, Heap.get_set_eq, Heap.get_set_ne', Heap.next_push', Heap.next_set', Heap.set_push_lt, Heap.set_push_eq, Heap.set_set, zbj, zbk, zp, zbn, zbo, zi, zw, zbp, zbd, zu, zbe, zbf, zbg, zbh, List.set_cons_zero, List.set_cons_succ, List.length_cons, List.length_nil, List.drop_succ_cons, List.drop_zero, List.take_succ_cons, List.take_zero, List.nil_append, List.cons_append, splice, zq, zr, zh, ze, zd, zt, zbl, zv, zb2, zbu, zbm, zbs, zg, zm, zbb, Option.map_some, zbq, zbr, zk, zba, z7, zz, zj, zx, zy, zul, zz3, zz2, a1, d1, zrw, hx])
    simp [hx, hlt]
    exact zdw k2
  · (try simp (maxSteps := 1000000) (disch := first | omega | (simp only [Z3]; omega) | (simp; done) | assumption | decide | (refine not_not_intro ?_; assumption)) only [Z1, zl, zf, zbx, zb8, eq_self, true_and, zby, zbt, zb0, zbi, zbc, Heap.get_push_eq, Heap.get_push_lt, Heap.get_set_eq, Heap.get_set_ne', Heap.next_push', Heap.next_set', Heap.set_push_lt, Heap.set_push_eq, Heap.set_set, zbj, zbk, zp, zbn, zbo, zi, zw, zbp, zbd, zu, zbe, zbf, zbg, zbh, List.set_cons_zero, List.set_cons_succ, List.length_cons, List.length_nil, List.drop_succ_cons, List.drop_zero, List.take_succ_cons, List.take_zero, List.nil_append, List.cons_append, splice, zq, zr, zh, ze, zd, zt, zbl, zv, zb2, zbu, zbm, zbs, zg, zm, zbb, Option.map_some, zbq, zbr, zk, zba, z7, zz, zj, zx, zy, zul, zz3, zz2, a1, d1, zrw])
    simp [hx, hlt]
    exact zdw k2
end Go.AM.Cap
