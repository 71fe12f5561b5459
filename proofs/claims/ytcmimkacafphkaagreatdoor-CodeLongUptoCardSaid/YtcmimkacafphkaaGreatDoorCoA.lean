import Derived.Test.YtcmimkacafphkaaGreatDoorNumA
import Derived.Test.YtcmimkacafphkaaGreatDoorRoC
import Derived.Test.YtcmimkacafphkaaGreatDoorAmOpenF
set_option linter.all false
/- code: images as plain data; which may be -/
set_option maxHeartbeats 4000000
namespace Go.AM.Cap
open Go.AM Go.Proofs

structure Ins where
  op : Int
  a : Int
  b : Int
  n : Int
deriving DecidableEq
instance : Inhabited Ins := ⟨⟨0, 0, 0, 0⟩⟩
instance : Flat Ins := ⟨4, fun i => [i64 i.op, i64 i.a, i64 i.b, i64 i.n], fun _ => rfl, fun _ => rfl, by decide⟩
theorem enc_ins (i : Ins) : Flat.enc i = [i64 i.op, i64 i.a, i64 i.b, i64 i.n] := rfl
/-- an image, as it is handed over -/
structure Im where
  name : ByteArray
  types : In Int
  first : In Int
  ins : In Int
  outs : In Int
  code : In Ins
instance : Inhabited Im := ⟨⟨⟨#[]⟩, default, default, default, default, default⟩⟩
instance : Flat Im := ⟨6, fun x => [.string x.name, x.types.v, x.first.v, x.ins.v, x.outs.v, x.code.v], fun _ => rfl, fun x => by simp [x.types.one, x.first.one, x.ins.one, x.outs.one, x.code.one], by decide⟩
theorem enc_im (x : Im) : Flat.enc x = [.string x.name, x.types.v, x.first.v, x.ins.v, x.outs.v, x.code.v] := rfl
theorem im_one (x : Im) : ([.string x.name, x.types.v, x.first.v, x.ins.v, x.outs.v, x.code.v] : List V).all Value.isOne = true := by simp [x.types.one, x.first.one, x.ins.one, x.outs.one, x.code.one]
/-- an image whose parts may be looked at -/
structure ImAt (H : Heap) (x : Im) : Prop where
  types : Sl H x.types.v x.types.xs
  first : Sl H x.first.v x.first.xs
  ins : Sl H x.ins.v x.ins.xs
  outs : Sl H x.outs.v x.outs.xs
  code : Sl H x.code.v x.code.xs
theorem ImAt.keep0 {H H' : Heap} {x : Im} (h : ImAt H x) (hk : Keeps [] H H') : ImAt H' x := ⟨h.types.keep0 hk, h.first.keep0 hk, h.ins.keep0 hk, h.outs.keep0 hk, h.code.keep0 hk⟩
/-- as plain data -/
structure PIm where
  name : ByteArray
  types : List Int
  first : List Int
  ins : List Int
  outs : List Int
  code : List Ins
deriving DecidableEq
def Im.p (x : Im) : PIm := ⟨x.name, x.types.xs, x.first.xs, x.ins.xs, x.outs.xs, x.code.xs⟩

/-! ### instructions -/
/-- so many cells from one on -/
def cellsS (types : List Int) (a many : Int) : Option (List Int) := if a < 0 ∨ a ≥ types.length ∨ many > types.length - a then none else some ((types.drop a.toNat).take many.toNat)
/-- is there such an operation of the type, of so many values? -/
def opS (op t many : Int) : Bool :=
  decide (1 ≤ t ∧ t ≤ 4) && (if many = 1 then decide ((op = 15 ∧ t ≠ 1) ∨ (op = 16 ∧ t ≠ 4))
    else if op = 1 ∨ op = 2 ∨ op = 11 ∨ op = 12 ∨ op = 13 ∨ op = 14 then decide (t ≠ 1)
    else if op = 3 ∨ op = 4 ∨ op = 5 then decide (t = 2 ∨ t = 3)
    else if op = 6 ∨ op = 7 ∨ op = 8 then decide (t ≠ 4)
    else decide (op = 9 ∨ op = 10))
/-- the types of a block's fields -/
def fieldsS (kind : Int) : Option (List Int) :=
  if kind = 1 ∨ kind = 2 ∨ kind = 3 then some [1, 4, 1, 4, 4, 1]
  else if kind = 4 ∨ kind = 5 then some [1, 1, 2, 1, 2, 1]
  else if kind = 6 ∨ kind = 7 then some [1, 1, 1]
  else if kind = 8 ∨ kind = 9 then some [1, 1, 1]
  else if kind = 10 then some [1, 1, 1, 3, 1, 2]
  else none
end Go.AM.Cap
