import Derived.Test.YtcmimkacafphkaaGreatDoorFun2
import Derived.Test.YtcmimkacafphkaaGreatDoorAmOwnF
import Derived.Test.YtcmimkacafphkaaGreatDoorAmOpenF
import Derived.Test.YtcmimkacafphkaaGreatDoorRoA
set_option linter.all false
/- num: which values fit -/
namespace Go.AM.Cap
open Go.AM Go.Proofs

theorem i64_and1 (n : Int) : bin .and (i64 n) (i64 1) = some (i64 (n % 2)) := by
  have h1 : (BitVec.ofInt 64 n &&& BitVec.ofInt 64 1).toNat = (n % 2).toNat := by
    rw [show BitVec.ofInt 64 1 = 1#64 from rfl, BitVec.toNat_and, show (1#64).toNat = 2 ^ 1 - 1 from rfl, Nat.and_two_pow_sub_one_eq_mod, BitVec.toNat_ofInt]
    omega
  have e : bin .and (i64 n) (i64 1) = some (.int .i64 (IntKind.i64.wrap ((BitVec.ofInt 64 n &&& BitVec.ofInt 64 1).toNat : Int))) := rfl
  rw [e, h1, i64_in (by omega) (by omega)]
  congr 2
  omega
theorem i16_wrap (n : Int) : IntKind.i16.wrap n = (n + 32768) % 65536 - 32768 := by simp [IntKind.wrap, IntKind.signed, IntKind.bits]; omega
theorem i32_wrap (n : Int) : IntKind.i32.wrap n = (n + 2147483648) % 4294967296 - 2147483648 := by simp [IntKind.wrap, IntKind.signed, IntKind.bits]; omega

def fits (t n : Int) : Prop := (t = 1 ∧ (n = 0 ∨ n = 1)) ∨ (t = 2 ∧ -32768 ≤ n ∧ n ≤ 32767) ∨ ((t = 3 ∨ t = 4) ∧ -2147483648 ≤ n ∧ n ≤ 2147483647)
instance (t n : Int) : Decidable (fits t n) := by unfold fits; exact inferInstance

theorem num_known_eq (t : Int) : A_num_known [i64 t] = ret (.bool (decide (1 ≤ t ∧ t ≤ 4))) := eq_ret fun H => by
  show wp (F_num_known (i64 t)) _ H
  (repeat' (first | (simp (maxSteps := 1000000) (disch := first | omega | (simp only [Z3]; omega) | (simp; done) | assumption | decide | (refine not_not_intro ?_; assumption)) only [Z1, Z2, splice, F_num_known]) | (refine wp_cond_split (fun _ => ?_) (fun _ => ?_)) | (refine wp_gd_split (fun _ => ?_) (fun _ => ?_)) | (refine wp_gdf_split (fun _ => ?_) (fun _ => ?_)) | (refine wpO_pick_split (fun _ => ?_) (fun _ => ?_)) | (refine wp_cond_bs (fun _ => ?_) (fun _ => ?_)) | (refine wp_gd_bs (fun _ => ?_) (fun _ => ?_)) | (refine wp_gdf_bs (fun _ => ?_) (fun _ => ?_)) | (refine wpO_pick_bs (fun _ => ?_) (fun _ => ?_))))
  all_goals refine ⟨?_, by trivial⟩
  all_goals ((try simp only [true_and, and_true, false_and, and_false, true_or, or_true, false_or, or_false]); (try ((repeat' split) <;> (first | rfl | omega | (refine congrArg (Value.int _) ?_; omega) | (refine congrArg Value.bool ?_; apply decide_eq_decide.mpr; omega) | (refine congrArg Value.bool ?_; exact (decide_eq_false (by omega)).symm) | (refine congrArg Value.bool ?_; exact (decide_eq_true (by omega)).symm) | (exfalso; omega) | (simp_all; done) | (refine congrArg Value.bool ?_; apply decide_eq_decide.mpr; simp_all; done)))))
def wrapT (t n : Int) : Int := if t = 1 then n % 2 else if t = 2 then (n + 32768) % 65536 - 32768 else (n + 2147483648) % 4294967296 - 2147483648
theorem num_wrap_eq (t n : Int) : A_num_wrap [i64 t, i64 n] = ret (i64 (wrapT t n)) := eq_ret fun H => by
  show wp (F_num_wrap (i64 t) (i64 n)) _ H
  (repeat' (first | (simp (maxSteps := 1000000) (disch := first | omega | (simp only [Z3]; omega) | (simp; done) | assumption | decide | (refine not_not_intro ?_; assumption)) only [Z1, Z2, splice, F_num_wrap, i64_and1, num_wrap_k0, cvi_int, i16_wrap, i32_wrap]) | (refine wp_cond_split (fun _ => ?_) (fun _ => ?_)) | (refine wp_gd_split (fun _ => ?_) (fun _ => ?_)) | (refine wp_gdf_split (fun _ => ?_) (fun _ => ?_)) | (refine wpO_pick_split (fun _ => ?_) (fun _ => ?_)) | (refine wp_cond_bs (fun _ => ?_) (fun _ => ?_)) | (refine wp_gd_bs (fun _ => ?_) (fun _ => ?_)) | (refine wp_gdf_bs (fun _ => ?_) (fun _ => ?_)) | (refine wpO_pick_bs (fun _ => ?_) (fun _ => ?_))))
  all_goals refine ⟨?_, by trivial⟩
  all_goals ((try simp only [wrapT, true_and, and_true, false_and, and_false, true_or, or_true, false_or, or_false]); (try ((repeat' split) <;> (first | rfl | omega | (refine congrArg (Value.int _) ?_; omega) | (refine congrArg Value.bool ?_; apply decide_eq_decide.mpr; omega) | (refine congrArg Value.bool ?_; exact (decide_eq_false (by omega)).symm) | (refine congrArg Value.bool ?_; exact (decide_eq_true (by omega)).symm) | (exfalso; omega) | (simp_all; done) | (refine congrArg Value.bool ?_; apply decide_eq_decide.mpr; simp_all; done)))))
theorem num_Fits_eq (t n : Int) : A_num_Fits [i64 t, i64 n] = ret (.bool (decide (fits t n))) := eq_ret fun H => by
  show wp (F_num_Fits (i64 t) (i64 n)) _ H
  (repeat' (first | (simp (maxSteps := 1000000) (disch := first | omega | (simp only [Z3]; omega) | (simp; done) | assumption | decide | (refine not_not_intro ?_; assumption)) only [Z1, Z2, splice, F_num_Fits, num_known_eq, num_wrap_eq]) | (refine wp_cond_split (fun _ => ?_) (fun _ => ?_)) | (refine wp_gd_split (fun _ => ?_) (fun _ => ?_)) | (refine wp_gdf_split (fun _ => ?_) (fun _ => ?_)) | (refine wpO_pick_split (fun _ => ?_) (fun _ => ?_)) | (refine wp_cond_bs (fun _ => ?_) (fun _ => ?_)) | (refine wp_gd_bs (fun _ => ?_) (fun _ => ?_)) | (refine wp_gdf_bs (fun _ => ?_) (fun _ => ?_)) | (refine wpO_pick_bs (fun _ => ?_) (fun _ => ?_))))
  all_goals refine ⟨?_, by trivial⟩
  all_goals (simp only [wrapT, fits]; ((try simp only [true_and, and_true, false_and, and_false, true_or, or_true, false_or, or_false]); (try ((repeat' split) <;> (first | rfl | omega | (refine congrArg (Value.int _) ?_; omega) | (refine congrArg Value.bool ?_; apply decide_eq_decide.mpr; omega) | (refine congrArg Value.bool ?_; exact (decide_eq_false (by omega)).symm) | (refine congrArg Value.bool ?_; exact (decide_eq_true (by omega)).symm) | (exfalso; omega) | (simp_all; done) | (refine congrArg Value.bool ?_; apply decide_eq_decide.mpr; simp_all; done))))))
end Go.AM.Cap

/- roles: users; Find, level, wrong, formed, Check -/
set_option maxHeartbeats 8000000
namespace Go.AM.Cap
open Go.AM Go.Proofs

structure Rl where
  part : Int
  level : Int
deriving DecidableEq
instance : Inhabited Rl := ⟨⟨0, 0⟩⟩
instance : Flat Rl := ⟨2, fun r => [i64 r.part, i64 r.level], fun _ => rfl, fun _ => rfl, by decide⟩
structure Us where
  name : ByteArray
  key : ByteArray
  rs : In Rl
instance : Inhabited Us := ⟨⟨⟨#[]⟩, ⟨#[]⟩, default⟩⟩
instance : Flat Us := ⟨3, fun u => [.string u.name, .string u.key, u.rs.v], fun _ => rfl, fun u => by simp [u.rs.one], by decide⟩
/-- users that may be looked at -/
structure Users (H : Heap) (v : V) (l : List Us) : Prop where
  out : Sl H v l
  inn : ∀ u ∈ l, Sl H u.rs.v u.rs.xs ∧ u.rs.xs.length ≤ 1048576
theorem Users.keep0 {H H' : Heap} {v : V} {l : List Us} (h : Users H v l) (hk : Keeps [] H H') : Users H' v l := ⟨h.out.keep0 hk, fun u hu => ⟨(h.inn u hu).1.keep0 hk, (h.inn u hu).2⟩⟩
theorem getD_mem' {α : Type} {l : List α} {i : Nat} {d : α} (h : i < l.length) : l.getD i d ∈ l := by
  rw [List.getD_eq_getElem?_getD, List.getElem?_eq_getElem h]; exact List.getElem_mem h
theorem Users.at {H : Heap} {v : V} {l : List Us} (h : Users H v l) {i : Nat} (hi : i < l.length) : Sl H (l.getD i default).rs.v (l.getD i default).rs.xs ∧ (l.getD i default).rs.xs.length ≤ 1048576 := h.inn _ (getD_mem' hi)

/-! the first that is so -/
def idxP {α : Type} (p : α → Bool) : List α → Option Nat
  | [] => none
  | x :: l => if p x then some 0 else (idxP p l).map (· + 1)
def idxV : Option Nat → Int
  | none => -1
  | some i => i
theorem idxP_some {α : Type} {p : α → Bool} {d : α} : ∀ {l : List α} {i : Nat}, i < l.length → p (l.getD i d) = true → (∀ j, j < i → p (l.getD j d) = false) → idxP p l = some i
  | [], i, h, _, _ => by simp at h
  | x :: l, 0, _, hp, _ => by
    have : p x = true := hp
    simp [idxP, this]
  | x :: l, i + 1, h, hp, hn => by
    have h0 : p x = false := hn 0 (by omega)
    have := idxP_some (p := p) (d := d) (l := l) (i := i) (by simpa using h) (by simpa using hp) (fun j hj => by simpa using hn (j + 1) (by omega))
    simp [idxP, h0, this]
theorem idxP_none {α : Type} {p : α → Bool} : ∀ {l : List α}, idxP p l = none ↔ ∀ x ∈ l, p x = false
  | [] => by simp [idxP]
  | x :: l => by
    unfold idxP
    by_cases h : p x = true
    · rw [if_pos h]; simp [h]
    · rw [if_neg h, Option.map_eq_none_iff, idxP_none]; simp [h]
theorem idxP_spec {α : Type} {p : α → Bool} {d : α} : ∀ {l : List α} {i : Nat}, idxP p l = some i → i < l.length ∧ p (l.getD i d) = true ∧ ∀ j, j < i → p (l.getD j d) = false
  | [], i, h => by cases h
  | x :: l, i, h => by
    unfold idxP at h
    by_cases hp : p x = true
    · rw [if_pos hp] at h
      cases h
      exact ⟨by simp, hp, by omega⟩
    · rw [if_neg hp] at h
      obtain ⟨j, hj, rfl⟩ := Option.map_eq_some_iff.1 h
      obtain ⟨h1, h2, h3⟩ := idxP_spec (d := d) hj
      refine ⟨by simpa using h1, by simpa using h2, fun k hk => ?_⟩
      cases k with
      | zero => simpa using hp
      | succ k => simpa using h3 k (by omega)
theorem none_of {α : Type} {p : α → Bool} {d : α} {l : List α} (h : ∀ j, j < l.length → p (l.getD j d) = false) : idxP p l = none := by
  rw [idxP_none]
  intro x hx
  obtain ⟨j, hj, rfl⟩ := List.getElem_of_mem hx
  have := h j hj
  rwa [List.getD_eq_getElem?_getD, List.getElem?_eq_getElem hj] at this

end Go.AM.Cap

/- roles: Check -/
set_option maxHeartbeats 8000000
namespace Go.AM.Cap
open Go.AM Go.Proofs

theorem nodup_snoc {l : List Int} {a : Int} : (l ++ [a]).Nodup ↔ l.Nodup ∧ a ∉ l := by
  rw [List.nodup_append]
  constructor
  · rintro ⟨h1, _, h3⟩
    exact ⟨h1, fun q => h3 a q a (by simp) rfl⟩
  · rintro ⟨h1, h2⟩
    exact ⟨h1, by simp, fun x hx y hy e => by simp at hy; subst hy; subst e; exact h2 hx⟩

end Go.AM.Cap

/- code: images as plain data; which may be -/
set_option maxHeartbeats 4000000
namespace Go.AM.Cap
open Go.AM Go.Proofs

structure Ins where
  op : Int
  a : Int
  b : Int
  n : Int
deriving DecidableEq
instance : Inhabited Ins := ⟨⟨0, 0, 0, 0⟩⟩
instance : Flat Ins := ⟨4, fun i => [i64 i.op, i64 i.a, i64 i.b, i64 i.n], fun _ => rfl, fun _ => rfl, by decide⟩
theorem enc_ins (i : Ins) : Flat.enc i = [i64 i.op, i64 i.a, i64 i.b, i64 i.n] := rfl
/-- an image, as it is handed over -/
structure Im where
  name : ByteArray
  types : In Int
  first : In Int
  ins : In Int
  outs : In Int
  code : In Ins
instance : Inhabited Im := ⟨⟨⟨#[]⟩, default, default, default, default, default⟩⟩
instance : Flat Im := ⟨6, fun x => [.string x.name, x.types.v, x.first.v, x.ins.v, x.outs.v, x.code.v], fun _ => rfl, fun x => by simp [x.types.one, x.first.one, x.ins.one, x.outs.one, x.code.one], by decide⟩
theorem enc_im (x : Im) : Flat.enc x = [.string x.name, x.types.v, x.first.v, x.ins.v, x.outs.v, x.code.v] := rfl
theorem im_one (x : Im) : ([.string x.name, x.types.v, x.first.v, x.ins.v, x.outs.v, x.code.v] : List V).all Value.isOne = true := by simp [x.types.one, x.first.one, x.ins.one, x.outs.one, x.code.one]
/-- an image whose parts may be looked at -/
structure ImAt (H : Heap) (x : Im) : Prop where
  types : Sl H x.types.v x.types.xs
  first : Sl H x.first.v x.first.xs
  ins : Sl H x.ins.v x.ins.xs
  outs : Sl H x.outs.v x.outs.xs
  code : Sl H x.code.v x.code.xs
theorem ImAt.keep0 {H H' : Heap} {x : Im} (h : ImAt H x) (hk : Keeps [] H H') : ImAt H' x := ⟨h.types.keep0 hk, h.first.keep0 hk, h.ins.keep0 hk, h.outs.keep0 hk, h.code.keep0 hk⟩
/-- as plain data -/
structure PIm where
  name : ByteArray
  types : List Int
  first : List Int
  ins : List Int
  outs : List Int
  code : List Ins
deriving DecidableEq
def Im.p (x : Im) : PIm := ⟨x.name, x.types.xs, x.first.xs, x.ins.xs, x.outs.xs, x.code.xs⟩

/-! ### instructions -/
/-- so many cells from one on -/
def cellsS (types : List Int) (a many : Int) : Option (List Int) := if a < 0 ∨ a ≥ types.length ∨ many > types.length - a then none else some ((types.drop a.toNat).take many.toNat)
/-- is there such an operation of the type, of so many values? -/
def opS (op t many : Int) : Bool :=
  decide (1 ≤ t ∧ t ≤ 4) && (if many = 1 then decide ((op = 15 ∧ t ≠ 1) ∨ (op = 16 ∧ t ≠ 4))
    else if op = 1 ∨ op = 2 ∨ op = 11 ∨ op = 12 ∨ op = 13 ∨ op = 14 then decide (t ≠ 1)
    else if op = 3 ∨ op = 4 ∨ op = 5 then decide (t = 2 ∨ t = 3)
    else if op = 6 ∨ op = 7 ∨ op = 8 then decide (t ≠ 4)
    else decide (op = 9 ∨ op = 10))
/-- the types of a block's fields -/
def fieldsS (kind : Int) : Option (List Int) :=
  if kind = 1 ∨ kind = 2 ∨ kind = 3 then some [1, 4, 1, 4, 4, 1]
  else if kind = 4 ∨ kind = 5 then some [1, 1, 2, 1, 2, 1]
  else if kind = 6 ∨ kind = 7 then some [1, 1, 1]
  else if kind = 8 ∨ kind = 9 then some [1, 1, 1]
  else if kind = 10 then some [1, 1, 1, 3, 1, 2]
  else none
end Go.AM.Cap
