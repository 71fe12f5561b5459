import Derived.Test.YtcmimkacafphkaaGreatDoorRoA
import Derived.Test.YtcmimkacafphkaaGreatDoorAmOpenF
import Derived.Test.YtcmimkacafphkaaGreatDoorNumA
import Derived.Test.YtcmimkacafphkaaGreatDoorFun2
set_option linter.all false
/- roles: users; Find, level, wrong, formed, Check -/
set_option maxHeartbeats 8000000
namespace Go.AM.Cap
open Go.AM Go.Proofs
structure Rl where
  part : Int
  level : Int
deriving DecidableEq
instance : Inhabited Rl := ⟨⟨0, 0⟩⟩
instance : Flat Rl := ⟨2, fun r => [i64 r.part, i64 r.level], fun _ => rfl, fun _ => rfl, by decide⟩
structure Us where
  name : ByteArray
  key : ByteArray
  rs : In Rl
instance : Inhabited Us := ⟨⟨⟨#[]⟩, ⟨#[]⟩, default⟩⟩
instance : Flat Us := ⟨3, fun u => [.string u.name, .string u.key, u.rs.v], fun _ => rfl, fun u => by simp [u.rs.one], by decide⟩
structure Users (H : Heap) (v : V) (l : List Us) : Prop where
  out : Sl H v l
  inn : ∀ u ∈ l, Sl H u.rs.v u.rs.xs ∧ u.rs.xs.length ≤ 1048576
theorem Users.keep0 {H H' : Heap} {v : V} {l : List Us} (h : Users H v l) (hk : Keeps [] H H') : Users H' v l := ⟨h.out.keep0 hk, fun u hu => ⟨(h.inn u hu).1.keep0 hk, (h.inn u hu).2⟩⟩
theorem zij {α : Type} {l : List α} {i : Nat} {d : α} (h : i < l.length) : l.getD i d ∈ l := by
  rw [List.getD_eq_getElem?_getD, List.getElem?_eq_getElem h]; exact List.getElem_mem h
theorem Users.at {H : Heap} {v : V} {l : List Us} (h : Users H v l) {i : Nat} (hi : i < l.length) : Sl H (l.getD i default).rs.v (l.getD i default).rs.xs ∧ (l.getD i default).rs.xs.length ≤ 1048576 := h.inn _ (zij hi)
def zoi {α : Type} (p : α → Bool) : List α → Option Nat
  | [] => none
  | x :: l => if p x then some 0 else (zoi p l).map (· + 1)
def idxV : Option Nat → Int
  | none => -1
  | some i => i
theorem z25 {α : Type} {p : α → Bool} {d : α} : ∀ {l : List α} {i : Nat}, i < l.length → p (l.getD i d) = true → (∀ j, j < i → p (l.getD j d) = false) → zoi p l = some i
  | [], i, h, _, _ => by simp at h
  | x :: l, 0, _, hp, _ => by
    have : p x = true := hp
    simp [zoi, this]
  | x :: l, i + 1, h, hp, hn => by
    have h0 : p x = false := hn 0 (by omega)
    have := z25 (p := p) (d := d) (l := l) (i := i) (by simpa using h) (by simpa using hp) (fun j hj => by simpa using hn (j + 1) (by omega))
    simp [zoi, h0, this]
theorem zt6 {α : Type} {p : α → Bool} : ∀ {l : List α}, zoi p l = none ↔ ∀ x ∈ l, p x = false
  | [] => by simp [zoi]
  | x :: l => by
    unfold zoi
    by_cases h : p x = true
    · rw [if_pos h]; simp [h]
    · rw [if_neg h, Option.map_eq_none_iff, zt6]; simp [h]
theorem z9g {α : Type} {p : α → Bool} {d : α} : ∀ {l : List α} {i : Nat}, zoi p l = some i → i < l.length ∧ p (l.getD i d) = true ∧ ∀ j, j < i → p (l.getD j d) = false
  | [], i, h => by cases h
  | x :: l, i, h => by
    unfold zoi at h
    by_cases hp : p x = true
    · rw [if_pos hp] at h
      cases h
      exact ⟨by simp, hp, by omega⟩
    · rw [if_neg hp] at h
      obtain ⟨j, hj, rfl⟩ := Option.map_eq_some_iff.1 h
      obtain ⟨h1, h2, h3⟩ := z9g (d := d) hj
      refine ⟨by simpa using h1, by simpa using h2, fun k hk => ?_⟩
      cases k with
      | zero => simpa using hp
      | succ k => simpa using h3 k (by omega)
theorem zboj {α : Type} {p : α → Bool} {d : α} {l : List α} (h : ∀ j, j < l.length → p (l.getD j d) = false) : zoi p l = none := by
  rw [zt6]
  intro x hx
  obtain ⟨j, hj, rfl⟩ := List.getElem_of_mem hx
  have := h j hj
  rwa [List.getD_eq_getElem?_getD, List.getElem?_eq_getElem hj] at this
end Go.AM.Cap

/- roles: Check -/
set_option maxHeartbeats 8000000
namespace Go.AM.Cap
open Go.AM Go.Proofs
theorem zbd4 {l : List Int} {a : Int} : (l ++ [a]).Nodup ↔ l.Nodup ∧ a ∉ l := by
  rw [List.nodup_append]
  constructor
  · rintro ⟨h1, _, h3⟩
    exact ⟨h1, fun q => h3 a q a (by simp) rfl⟩
  · rintro ⟨h1, h2⟩
    exact ⟨h1, by simp, fun x hx y hy e => by simp at hy; subst hy; subst e; exact h2 hx⟩
end Go.AM.Cap

/- code: images as plain data; which may be -/
set_option maxHeartbeats 4000000
namespace Go.AM.Cap
open Go.AM Go.Proofs
structure Ins where
  op : Int
  a : Int
  b : Int
  n : Int
deriving DecidableEq
instance : Inhabited Ins := ⟨⟨0, 0, 0, 0⟩⟩
instance : Flat Ins := ⟨4, fun i => [i64 i.op, i64 i.a, i64 i.b, i64 i.n], fun _ => rfl, fun _ => rfl, by decide⟩
theorem zcf (i : Ins) : Flat.enc i = [i64 i.op, i64 i.a, i64 i.b, i64 i.n] := rfl
structure Im where
  name : ByteArray
  types : In Int
  first : In Int
  ins : In Int
  outs : In Int
  code : In Ins
instance : Inhabited Im := ⟨⟨⟨#[]⟩, default, default, default, default, default⟩⟩
instance : Flat Im := ⟨6, fun x => [.string x.name, x.types.v, x.first.v, x.ins.v, x.outs.v, x.code.v], fun _ => rfl, fun x => by simp [x.types.one, x.first.one, x.ins.one, x.outs.one, x.code.one], by decide⟩
theorem zbc (x : Im) : Flat.enc x = [.string x.name, x.types.v, x.first.v, x.ins.v, x.outs.v, x.code.v] := rfl
theorem zhd (x : Im) : ([.string x.name, x.types.v, x.first.v, x.ins.v, x.outs.v, x.code.v] : List V).all Value.isOne = true := by simp [x.types.one, x.first.one, x.ins.one, x.outs.one, x.code.one]
structure ImAt (H : Heap) (x : Im) : Prop where
  types : Sl H x.types.v x.types.xs
  first : Sl H x.first.v x.first.xs
  ins : Sl H x.ins.v x.ins.xs
  outs : Sl H x.outs.v x.outs.xs
  code : Sl H x.code.v x.code.xs
theorem ImAt.keep0 {H H' : Heap} {x : Im} (h : ImAt H x) (hk : Keeps [] H H') : ImAt H' x := ⟨h.types.keep0 hk, h.first.keep0 hk, h.ins.keep0 hk, h.outs.keep0 hk, h.code.keep0 hk⟩
structure PIm where
  name : ByteArray
  types : List Int
  first : List Int
  ins : List Int
  outs : List Int
  code : List Ins
deriving DecidableEq
def Im.p (x : Im) : PIm := ⟨x.name, x.types.xs, x.first.xs, x.ins.xs, x.outs.xs, x.code.xs⟩
def zh5 (types : List Int) (a many : Int) : Option (List Int) := if a < 0 ∨ a ≥ types.length ∨ many > types.length - a then none else some ((types.drop a.toNat).take many.toNat)
def opS (op t many : Int) : Bool :=
  decide (1 ≤ t ∧ t ≤ 4) && (if many = 1 then decide ((op = 15 ∧ t ≠ 1) ∨ (op = 16 ∧ t ≠ 4))
    else if op = 1 ∨ op = 2 ∨ op = 11 ∨ op = 12 ∨ op = 13 ∨ op = 14 then decide (t ≠ 1)
    else if op = 3 ∨ op = 4 ∨ op = 5 then decide (t = 2 ∨ t = 3)
    else if op = 6 ∨ op = 7 ∨ op = 8 then decide (t ≠ 4)
    else decide (op = 9 ∨ op = 10))
def zj5 (kind : Int) : Option (List Int) :=
  if kind = 1 ∨ kind = 2 ∨ kind = 3 then some [1, 4, 1, 4, 4, 1]
  else if kind = 4 ∨ kind = 5 then some [1, 1, 2, 1, 2, 1]
  else if kind = 6 ∨ kind = 7 then some [1, 1, 1]
  else if kind = 8 ∨ kind = 9 then some [1, 1, 1]
  else if kind = 10 then some [1, 1, 1, 3, 1, 2]
  else none
end Go.AM.Cap

/- code: operations: which may be (written by genco.py) -/
set_option maxHeartbeats 16000000
namespace Go.AM.Cap
open Go.AM Go.Proofs
structure Opn where
  of : Int
  one : Bool
  f : Nat
  truth : Bool
instance : Inhabited Opn := ⟨⟨0, false, 0, false⟩⟩
instance : Flat Opn := ⟨4, fun x => [i64 x.of, .bool x.one, .func (.func x.f) #[] #[], .bool x.truth], fun _ => rfl, fun _ => rfl, by decide⟩
theorem zba9 (x : Opn) : Flat.enc x = [i64 x.of, .bool x.one, .func (.func x.f) #[] #[], .bool x.truth] := rfl
theorem zbjb (x : Opn) : ([i64 x.of, .bool x.one, .func (.func x.f) #[] #[], .bool x.truth] : List V).all Value.isOne = true := rfl
def zz7 : List Opn := [⟨28, false, zfn, false⟩, ⟨28, false, zfo, false⟩, ⟨12, false, zfp, false⟩, ⟨12, false, zfq, false⟩, ⟨12, false, zfr, false⟩, ⟨14, false, zfs, false⟩, ⟨14, false, zft, false⟩, ⟨14, false, zfu, false⟩, ⟨30, false, zfv, true⟩, ⟨30, false, zez, true⟩, ⟨28, false, ze0, true⟩, ⟨28, false, ze1, true⟩, ⟨28, false, ze2, true⟩, ⟨28, false, ze3, true⟩, ⟨28, true, ze4, false⟩, ⟨14, true, ze5, false⟩]
def zsb : zl := ovr [(zfn, zms), (zfo, zmt), (zfp, zmu), (zfq, zmv), (zfr, zmw), (zfs, zmx), (zft, zmy), (zfu, zmz), (zfv, zm0), (zez, zkg), (ze0, zkh), (ze1, zki), (ze2, zkj), (ze3, zkk), (ze4, zkl), (ze5, zkm), (zmj, zl2), (zi7, ziq), (zgl, zep), (zin, zg8)] noC
theorem zbyi {H : Heap} (Q : V → Heap → Prop) (hQ : ∀ n, Q (i64 n) H) : wp (zhz zsb (.func (.func zfn) #[] #[]) [i64 1, i64 1]) Q H := by
  show wp (ztn (i64 1) (i64 1)) Q H
  (try simp (maxSteps := 1000000) (disch := first | omega | (simp only [Z3]; omega) | (simp; done) | assumption | decide | (refine not_not_intro ?_; assumption)) only [Z1, Z2, splice, ztn, zgd, zbk, zd6, zdk])
  first | exact hQ _ | exact ⟨_, rfl, hQ _⟩
theorem zbyj {H : Heap} (Q : V → Heap → Prop) (hQ : ∀ n, Q (i64 n) H) : wp (zhz zsb (.func (.func zfo) #[] #[]) [i64 1, i64 1]) Q H := by
  show wp (zto (i64 1) (i64 1)) Q H
  (try simp (maxSteps := 1000000) (disch := first | omega | (simp only [Z3]; omega) | (simp; done) | assumption | decide | (refine not_not_intro ?_; assumption)) only [Z1, Z2, splice, zto, zgd, zbk, zd6, zdk])
  first | exact hQ _ | exact ⟨_, rfl, hQ _⟩
theorem zbyk {H : Heap} (Q : V → Heap → Prop) (hQ : ∀ n, Q (i64 n) H) : wp (zhz zsb (.func (.func zfp) #[] #[]) [i64 1, i64 1]) Q H := by
  show wp (ztp (i64 1) (i64 1)) Q H
  (try simp (maxSteps := 1000000) (disch := first | omega | (simp only [Z3]; omega) | (simp; done) | assumption | decide | (refine not_not_intro ?_; assumption)) only [Z1, Z2, splice, ztp, zgd, zbk, zd6, zdk])
  first | exact hQ _ | exact ⟨_, rfl, hQ _⟩
theorem zbyl {H : Heap} (Q : V → Heap → Prop) (hQ : ∀ n, Q (i64 n) H) : wp (zhz zsb (.func (.func zfq) #[] #[]) [i64 1, i64 1]) Q H := by
  show wp (ztq (i64 1) (i64 1)) Q H
  (try simp (maxSteps := 1000000) (disch := first | omega | (simp only [Z3]; omega) | (simp; done) | assumption | decide | (refine not_not_intro ?_; assumption)) only [Z1, Z2, splice, ztq, zgd, zbk, zd6, zdk])
  first | exact hQ _ | exact ⟨_, rfl, hQ _⟩
theorem zbym {H : Heap} (Q : V → Heap → Prop) (hQ : ∀ n, Q (i64 n) H) : wp (zhz zsb (.func (.func zfr) #[] #[]) [i64 1, i64 1]) Q H := by
  show wp (ztr (i64 1) (i64 1)) Q H
  (try simp (maxSteps := 1000000) (disch := first | omega | (simp only [Z3]; omega) | (simp; done) | assumption | decide | (refine not_not_intro ?_; assumption)) only [Z1, Z2, splice, ztr, zgd, zbk, zd6, zdk])
  first | exact hQ _ | exact ⟨_, rfl, hQ _⟩
theorem zbyn {H : Heap} (Q : V → Heap → Prop) (hQ : ∀ n, Q (i64 n) H) : wp (zhz zsb (.func (.func zfs) #[] #[]) [i64 1, i64 1]) Q H := by
  show wp (zts (i64 1) (i64 1)) Q H
  (try simp (maxSteps := 1000000) (disch := first | omega | (simp only [Z3]; omega) | (simp; done) | assumption | decide | (refine not_not_intro ?_; assumption)) only [Z1, Z2, splice, zts, zgd, zbk, zd6, zdk])
  first | exact hQ _ | exact ⟨_, rfl, hQ _⟩
theorem zbyo {H : Heap} (Q : V → Heap → Prop) (hQ : ∀ n, Q (i64 n) H) : wp (zhz zsb (.func (.func zft) #[] #[]) [i64 1, i64 1]) Q H := by
  show wp (ztt (i64 1) (i64 1)) Q H
  (try simp (maxSteps := 1000000) (disch := first | omega | (simp only [Z3]; omega) | (simp; done) | assumption | decide | (refine not_not_intro ?_; assumption)) only [Z1, Z2, splice, ztt, zgd, zbk, zd6, zdk])
  first | exact hQ _ | exact ⟨_, rfl, hQ _⟩
theorem zbyp {H : Heap} (Q : V → Heap → Prop) (hQ : ∀ n, Q (i64 n) H) : wp (zhz zsb (.func (.func zfu) #[] #[]) [i64 1, i64 1]) Q H := by
  show wp (ztu (i64 1) (i64 1)) Q H
  (try simp (maxSteps := 1000000) (disch := first | omega | (simp only [Z3]; omega) | (simp; done) | assumption | decide | (refine not_not_intro ?_; assumption)) only [Z1, Z2, splice, ztu, zgd, zbk, zd6, zdk])
  first | exact hQ _ | exact ⟨_, rfl, hQ _⟩
theorem zbyq {H : Heap} (Q : V → Heap → Prop) (hQ : ∀ n, Q (i64 n) H) : wp (zhz zsb (.func (.func zfv) #[] #[]) [i64 1, i64 1]) Q H := by
  show wp (ztv (i64 1) (i64 1)) Q H
  (try simp (maxSteps := 1000000) (disch := first | omega | (simp only [Z3]; omega) | (simp; done) | assumption | decide | (refine not_not_intro ?_; assumption)) only [Z1, Z2, splice, ztv, zgd, zbk, zd6, zdk])
  first | exact hQ _ | exact ⟨_, rfl, hQ _⟩
theorem zbxa {H : Heap} (Q : V → Heap → Prop) (hQ : ∀ n, Q (i64 n) H) : wp (zhz zsb (.func (.func zez) #[] #[]) [i64 1, i64 1]) Q H := by
  show wp (zri (i64 1) (i64 1)) Q H
  (try simp (maxSteps := 1000000) (disch := first | omega | (simp only [Z3]; omega) | (simp; done) | assumption | decide | (refine not_not_intro ?_; assumption)) only [Z1, Z2, splice, zri, zgd, zbk, zd6, zdk])
  first | exact hQ _ | exact ⟨_, rfl, hQ _⟩
theorem zbxb {H : Heap} (Q : V → Heap → Prop) (hQ : ∀ n, Q (i64 n) H) : wp (zhz zsb (.func (.func ze0) #[] #[]) [i64 1, i64 1]) Q H := by
  show wp (zrj (i64 1) (i64 1)) Q H
  (try simp (maxSteps := 1000000) (disch := first | omega | (simp only [Z3]; omega) | (simp; done) | assumption | decide | (refine not_not_intro ?_; assumption)) only [Z1, Z2, splice, zrj, zgd, zbk, zd6, zdk])
  first | exact hQ _ | exact ⟨_, rfl, hQ _⟩
theorem zbxc {H : Heap} (Q : V → Heap → Prop) (hQ : ∀ n, Q (i64 n) H) : wp (zhz zsb (.func (.func ze1) #[] #[]) [i64 1, i64 1]) Q H := by
  show wp (zrk (i64 1) (i64 1)) Q H
  (try simp (maxSteps := 1000000) (disch := first | omega | (simp only [Z3]; omega) | (simp; done) | assumption | decide | (refine not_not_intro ?_; assumption)) only [Z1, Z2, splice, zrk, zgd, zbk, zd6, zdk])
  first | exact hQ _ | exact ⟨_, rfl, hQ _⟩
theorem zbxd {H : Heap} (Q : V → Heap → Prop) (hQ : ∀ n, Q (i64 n) H) : wp (zhz zsb (.func (.func ze2) #[] #[]) [i64 1, i64 1]) Q H := by
  show wp (zrl (i64 1) (i64 1)) Q H
  (try simp (maxSteps := 1000000) (disch := first | omega | (simp only [Z3]; omega) | (simp; done) | assumption | decide | (refine not_not_intro ?_; assumption)) only [Z1, Z2, splice, zrl, zgd, zbk, zd6, zdk])
  first | exact hQ _ | exact ⟨_, rfl, hQ _⟩
theorem zbxe {H : Heap} (Q : V → Heap → Prop) (hQ : ∀ n, Q (i64 n) H) : wp (zhz zsb (.func (.func ze3) #[] #[]) [i64 1, i64 1]) Q H := by
  show wp (zrm (i64 1) (i64 1)) Q H
  (try simp (maxSteps := 1000000) (disch := first | omega | (simp only [Z3]; omega) | (simp; done) | assumption | decide | (refine not_not_intro ?_; assumption)) only [Z1, Z2, splice, zrm, zgd, zbk, zd6, zdk])
  first | exact hQ _ | exact ⟨_, rfl, hQ _⟩
theorem zbxf {H : Heap} (Q : V → Heap → Prop) (hQ : ∀ n, Q (i64 n) H) : wp (zhz zsb (.func (.func ze4) #[] #[]) [i64 1, i64 1]) Q H := by
  show wp (zrn (i64 1) (i64 1)) Q H
  (try simp (maxSteps := 1000000) (disch := first | omega | (simp only [Z3]; omega) | (simp; done) | assumption | decide | (refine not_not_intro ?_; assumption)) only [Z1, Z2, splice, zrn, zgd, zbk, zd6, zdk])
  first | exact hQ _ | exact ⟨_, rfl, hQ _⟩
theorem zbxg {H : Heap} (Q : V → Heap → Prop) (hQ : ∀ n, Q (i64 n) H) : wp (zhz zsb (.func (.func ze5) #[] #[]) [i64 1, i64 1]) Q H := by
  show wp (zro (i64 1) (i64 1)) Q H
  (try simp (maxSteps := 1000000) (disch := first | omega | (simp only [Z3]; omega) | (simp; done) | assumption | decide | (refine not_not_intro ?_; assumption)) only [Z1, Z2, splice, zro, zgd, zbk, zd6, zdk])
  first | exact hQ _ | exact ⟨_, rfl, hQ _⟩
theorem z26 {H : Heap} (x : Opn) (hx : x ∈ zz7) (Q : V → Heap → Prop) (hQ : ∀ n, Q (i64 n) H) : wp (zhz zsb (.func (.func x.f) #[] #[]) [i64 1, i64 1]) Q H := by
  simp only [zz7, List.mem_cons, List.not_mem_nil, or_false] at hx
  rcases hx with rfl | rfl | rfl | rfl | rfl | rfl | rfl | rfl | rfl | rfl | rfl | rfl | rfl | rfl | rfl | rfl
  · exact zbyi Q hQ
  · exact zbyj Q hQ
  · exact zbyk Q hQ
  · exact zbyl Q hQ
  · exact zbym Q hQ
  · exact zbyn Q hQ
  · exact zbyo Q hQ
  · exact zbyp Q hQ
  · exact zbyq Q hQ
  · exact zbxa Q hQ
  · exact zbxb Q hQ
  · exact zbxc Q hQ
  · exact zbxd Q hQ
  · exact zbxe Q hQ
  · exact zbxf Q hQ
  · exact zbxg Q hQ
end Go.AM.Cap
