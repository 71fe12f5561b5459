import Derived.Test.YtcmimkacafphkaaGreatDoorWiH
import Derived.Test.YtcmimkacafphkaaGreatDoorWiM
set_option linter.all false
/- code: an image's items and bytes, there and back (plain) -/
set_option maxHeartbeats 8000000
namespace Go.AM.Cap
open Go.AM Go.Proofs
def zq8 (ok : Int → Bool) : List It → Option (Int × List It)
  | x :: l => if x.t = false ∧ ok x.n = true then some (x.n, l) else none
  | [] => none
def zqn : List It → Option (ByteArray × List It)
  | x :: l => if x.t = true then some (x.s, l) else none
  | [] => none
def zs8 (ok : Int → Bool) : Nat → List It → Option (List Int × List It)
  | 0, l => some ([], l)
  | k + 1, l => (zq8 ok l).bind fun p => (zs8 ok k p.2).map fun q => (p.1 :: q.1, q.2)
def znz (n : Int) : Bool := decide (0 ≤ n ∧ n ≤ 1024)
def zvc (_ : Int) : Bool := true
def zii (ok : Int → Bool) : Nat → List It → Option (List (Int × Int) × List It)
  | 0, l => some ([], l)
  | k + 1, l => (zq8 ok l).bind fun p => (zq8 zvc p.2).bind fun p2 => (zii ok k p2.2).map fun q => ((p.1, p2.1) :: q.1, q.2)
def zqo (ok : Int → Bool) (l : List It) : Option (List Int × List It) := (zq8 znz l).bind fun p => zs8 ok p.1.toNat p.2
structure Raw where
  name : ByteArray
  tf : List (Int × Int)
  ins : List Int
  outs : List Int
  code : ByteArray
  rest : List It
def z7z (ok ok2 : Int → Bool) (l : List It) : Option Raw :=
  (zqn l).bind fun a => (zq8 znz a.2).bind fun b => (zii ok b.1.toNat b.2).bind fun c => (zqo ok2 c.2).bind fun d => (zqo ok2 d.2).bind fun e => (zqn e.2).map fun f => ⟨a.1, c.1, d.1, e.1, f.1, f.2⟩
def rawI (r : Raw) : List It := ⟨true, 0, r.name⟩ :: zjo r.tf.length :: (tfS r.tf ++ (z2q r.ins ++ (z2q r.outs ++ ⟨true, 0, r.code⟩ :: r.rest)))
theorem zx5 {ok : Int → Bool} {l r : List It} {n : Int} (hm : ∀ x ∈ l, zhe x = true) (h : zq8 ok l = some (n, r)) : l = zjo n :: r ∧ ok n = true := by
  cases l with
  | nil => cases h
  | cons x l =>
    simp only [zq8] at h
    split at h
    · rename_i hx
      cases h
      refine ⟨?_, hx.2⟩
      have := hm x (by simp)
      unfold zhe at this
      rw [hx.1] at this
      simp only [Bool.false_eq_true, if_false, decide_eq_true_eq] at this
      obtain ⟨t, n, s⟩ := x
      simp only at hx this
      rw [hx.1, this]; rfl
    · cases h
theorem z71 {ok : Int → Bool} {n : Int} {r : List It} (h : ok n = true) : zq8 ok (zjo n :: r) = some (n, r) := by simp [zq8, zjo, h]
theorem zbee {l r : List It} {s : ByteArray} (hm : ∀ x ∈ l, zhe x = true) (h : zqn l = some (s, r)) : l = ⟨true, 0, s⟩ :: r := by
  cases l with
  | nil => cases h
  | cons x l =>
    simp only [zqn] at h
    split at h
    · rename_i hx
      cases h
      have := hm x (by simp)
      unfold zhe at this
      rw [hx] at this
      simp only [if_true, decide_eq_true_eq] at this
      obtain ⟨t, n, s⟩ := x
      simp only at hx this
      rw [hx, this.1]
    · cases h
theorem zblq {s : ByteArray} {r : List It} : zqn (⟨true, 0, s⟩ :: r) = some (s, r) := by simp [zqn]
theorem zbef {ok : Int → Bool} : ∀ {k : Nat} {l r : List It} {xs : List Int}, (∀ x ∈ l, zhe x = true) → zs8 ok k l = some (xs, r) → l = xs.map zjo ++ r ∧ xs.length = k ∧ ∀ x ∈ xs, ok x = true
  | 0, l, r, xs, _, h => by simp only [zs8] at h; cases h; simp
  | k + 1, l, r, xs, hm, h => by
    simp only [zs8] at h
    obtain ⟨⟨n, l1⟩, h1, h2⟩ := Option.bind_eq_some_iff.1 h
    obtain ⟨⟨ys, r'⟩, h3, h4⟩ := Option.map_eq_some_iff.1 h2
    cases h4
    obtain ⟨e, ho⟩ := zx5 hm h1
    obtain ⟨e2, e3, e4⟩ := zbef (fun x hx => hm x (by rw [e]; simp [hx])) h3
    simp only at e2
    refine ⟨by rw [e, e2]; rfl, by simp [e3], fun x hx => ?_⟩
    rcases List.mem_cons.1 hx with rfl | hx
    · exact ho
    · exact e4 x hx
theorem zblr {ok : Int → Bool} {r : List It} : ∀ {xs : List Int}, (∀ x ∈ xs, ok x = true) → zs8 ok xs.length (xs.map zjo ++ r) = some (xs, r)
  | [], _ => rfl
  | x :: xs, h => by
    simp only [List.map_cons, List.cons_append, List.length_cons, zs8]
    rw [z71 (h x (by simp))]
    simp only [Option.bind_some]
    rw [zblr (fun y hy => h y (by simp [hy]))]
    rfl
theorem zbaq {ok : Int → Bool} : ∀ {k : Nat} {l r : List It} {xs : List (Int × Int)}, (∀ x ∈ l, zhe x = true) → zii ok k l = some (xs, r) → l = tfS xs ++ r ∧ xs.length = k
  | 0, l, r, xs, _, h => by simp only [zii] at h; cases h; simp [tfS]
  | k + 1, l, r, xs, hm, h => by
    simp only [zii] at h
    obtain ⟨⟨n, l1⟩, h1, h2⟩ := Option.bind_eq_some_iff.1 h
    obtain ⟨⟨m, l2⟩, h1', h2⟩ := Option.bind_eq_some_iff.1 h2
    obtain ⟨⟨ys, r'⟩, h3, h4⟩ := Option.map_eq_some_iff.1 h2
    cases h4
    obtain ⟨e, _⟩ := zx5 hm h1
    obtain ⟨e', _⟩ := zx5 (fun x hx => hm x (by rw [e]; simp [hx])) h1'
    simp only at e'
    obtain ⟨e2, e3⟩ := zbaq (fun x hx => hm x (by rw [e, e']; simp [hx])) h3
    refine ⟨?_, by simp [e3]⟩
    simp only at e2
    rw [e, e', e2]
    simp [tfS]
theorem zbgv {ok : Int → Bool} {r : List It} : ∀ {xs : List (Int × Int)}, (∀ x ∈ xs, ok x.1 = true) → zii ok xs.length (tfS xs ++ r) = some (xs, r)
  | [], _ => rfl
  | x :: xs, h => by
    have e : tfS (x :: xs) ++ r = zjo x.1 :: zjo x.2 :: (tfS xs ++ r) := by simp [tfS]
    rw [e]
    simp only [List.length_cons, zii]
    rw [z71 (h x (by simp))]
    simp only [Option.bind_some]
    rw [z71 (by rfl)]
    simp only [Option.bind_some]
    rw [zbgv (fun y hy => h y (by simp [hy]))]
    rfl
theorem zq9 {n : Int} : znz n = true ↔ 0 ≤ n ∧ n ≤ 1024 := by simp [znz]
theorem zbeg {ok : Int → Bool} {l r : List It} {xs : List Int} (hm : ∀ x ∈ l, zhe x = true) (h : zqo ok l = some (xs, r)) : l = z2q xs ++ r ∧ xs.length ≤ 1024 := by
  unfold zqo at h
  obtain ⟨⟨n, l1⟩, h1, h2⟩ := Option.bind_eq_some_iff.1 h
  obtain ⟨e, ho⟩ := zx5 hm h1
  obtain ⟨e2, e3, _⟩ := zbef (fun x hx => hm x (by rw [e]; simp at hx; simp [hx])) h2
  have ho := zq9.1 ho
  simp only at e2 e3
  refine ⟨?_, by omega⟩
  rw [e, e2]
  unfold z2q
  rw [show (xs.length : Int) = n by omega]
  rfl
theorem zbls {ok : Int → Bool} {r : List It} {xs : List Int} (hl : xs.length ≤ 1024) (h : ∀ x ∈ xs, ok x = true) : zqo ok (z2q xs ++ r) = some (xs, r) := by
  unfold zqo z2q
  rw [List.cons_append, z71 (zq9.2 (by omega))]
  simp only [Option.bind_some, Int.toNat_natCast]
  exact zblr h
theorem zbgw {ok ok2 : Int → Bool} {l : List It} {w : Raw} (hm : ∀ x ∈ l, zhe x = true) (h : z7z ok ok2 l = some w) : l = rawI w ∧ w.tf.length ≤ 1024 ∧ w.ins.length ≤ 1024 ∧ w.outs.length ≤ 1024 := by
  unfold z7z at h
  obtain ⟨⟨nm, l1⟩, h1, h⟩ := Option.bind_eq_some_iff.1 h
  obtain ⟨⟨n, l2⟩, h2, h⟩ := Option.bind_eq_some_iff.1 h
  obtain ⟨⟨tf, l3⟩, h3, h⟩ := Option.bind_eq_some_iff.1 h
  obtain ⟨⟨is, l4⟩, h4, h⟩ := Option.bind_eq_some_iff.1 h
  obtain ⟨⟨os, l5⟩, h5, h⟩ := Option.bind_eq_some_iff.1 h
  obtain ⟨⟨s, l6⟩, h6, h⟩ := Option.map_eq_some_iff.1 h
  simp only at h2 h3 h4 h5 h6 h
  have e1 := zbee hm h1
  have m1 : ∀ x ∈ l1, zhe x = true := fun x hx => hm x (by rw [e1]; simp [hx])
  obtain ⟨e2, o2⟩ := zx5 m1 h2
  have m2 : ∀ x ∈ l2, zhe x = true := fun x hx => m1 x (by rw [e2]; simp [hx])
  obtain ⟨e3, o3⟩ := zbaq m2 h3
  have m3 : ∀ x ∈ l3, zhe x = true := fun x hx => m2 x (by rw [e3]; simp [hx])
  obtain ⟨e4, o4⟩ := zbeg m3 h4
  have m4 : ∀ x ∈ l4, zhe x = true := fun x hx => m3 x (by rw [e4]; simp [hx])
  obtain ⟨e5, o5⟩ := zbeg m4 h5
  have m5 : ∀ x ∈ l5, zhe x = true := fun x hx => m4 x (by rw [e5]; simp [hx])
  have e6 := zbee m5 h6
  have o2 := zq9.1 o2
  subst h
  refine ⟨?_, by show tf.length ≤ 1024; omega, o4, o5⟩
  rw [e1, e2, e3, e4, e5, e6]
  unfold rawI
  rw [show ((tf.length : Nat) : Int) = n by omega]
theorem zbvq {ok ok2 : Int → Bool} {w : Raw} (h1 : w.tf.length ≤ 1024) (h2 : w.ins.length ≤ 1024) (h3 : w.outs.length ≤ 1024) (h4 : ∀ x ∈ w.tf, ok x.1 = true) (h5 : ∀ x ∈ w.ins, ok2 x = true) (h6 : ∀ x ∈ w.outs, ok2 x = true) : z7z ok ok2 (rawI w) = some w := by
  unfold z7z rawI
  rw [zblq]
  simp only [Option.bind_some]
  rw [z71 (zq9.2 (by omega))]
  simp only [Option.bind_some, Int.toNat_natCast]
  rw [zbgv h4]
  simp only [Option.bind_some]
  rw [zbls h2 h5]
  simp only [Option.bind_some]
  rw [zbls h3 h6]
  simp only [Option.bind_some]
  rw [zblq]
  rfl
def val6 (l : List (BitVec 8)) : Int := if nv l < 140737488355328 then (nv l : Int) else (nv l : Int) - 281474976710656
def zse (l : List (BitVec 8)) : Ins := ⟨((l.getD 0 0).toNat : Int), (nv ((l.drop 1).take 2) : Int), (nv ((l.drop 3).take 2) : Int), val6 ((l.drop 5).take 6)⟩
def zho : Nat → List (BitVec 8) → List Ins
  | 0, _ => []
  | k + 1, l => zse l :: zho k (l.drop 11)
theorem zqp : ∀ (k : Nat) (l : List (BitVec 8)), (zho k l).length = k
  | 0, _ => rfl
  | k + 1, l => by simp [zho, zqp k]
def zblt (i : Ins) : Prop := (0 ≤ i.op ∧ i.op < 256) ∧ (0 ≤ i.a ∧ i.a < 65536) ∧ (0 ≤ i.b ∧ i.b < 65536) ∧ -140737488355328 ≤ i.n ∧ i.n < 140737488355328
theorem zkc (n : Int) : ((b8 n).toNat : Int) = n % 256 := by
  unfold b8
  rw [BitVec.toNat_ofInt]
  omega
theorem zbgx (i : Ins) : insB i = [b8 i.op, b8 (i.a / 256), b8 i.a, b8 (i.b / 256), b8 i.b, b8 (i.n / 1099511627776), b8 (i.n / 4294967296), b8 (i.n / 16777216), b8 (i.n / 65536), b8 (i.n / 256), b8 (i.n / 1)] := rfl
theorem zbqr {i : Ins} (h : zblt i) (r : List (BitVec 8)) : zse (insB i ++ r) = i := by
  obtain ⟨h1, h2, h3, h4, h5⟩ := h
  rw [zbgx]
  obtain ⟨op, a, b, n⟩ := i
  simp only at h1 h2 h3 h4 h5
  have q1 := zkc op
  have q2 := zkc (a / 256)
  have q3 := zkc a
  have q4 := zkc (b / 256)
  have q5 := zkc b
  have q6 := zkc (n / 1099511627776)
  have q7 := zkc (n / 4294967296)
  have q8 := zkc (n / 16777216)
  have q9 := zkc (n / 65536)
  have q10 := zkc (n / 256)
  have q11 := zkc (n / 1)
  simp only [zse, val6, nv, List.cons_append, List.getD_cons_zero, List.drop_succ_cons, List.drop_zero, List.take_succ_cons, List.take_zero, List.foldl_cons, List.foldl_nil, Nat.zero_mul, Nat.zero_add]
  congr 1
  · omega
  · omega
  · omega
  · generalize (b8 (n / 1099511627776)).toNat = x1 at *
    generalize (b8 (n / 4294967296)).toNat = x2 at *
    generalize (b8 (n / 16777216)).toNat = x3 at *
    generalize (b8 (n / 65536)).toNat = x4 at *
    generalize (b8 (n / 256)).toNat = x5 at *
    generalize (b8 (n / 1)).toNat = x6 at *
    split <;> omega
theorem zbar : ∀ {l : List Ins} (r : List (BitVec 8)), (∀ i ∈ l, zblt i) → zho l.length (zju l ++ r) = l
  | [], _, _ => rfl
  | i :: l, r, h => by
    have e : zju (i :: l) ++ r = insB i ++ (zju l ++ r) := by simp [zju]
    simp only [List.length_cons, zho]
    rw [e, zbqr (h i (by simp))]
    have e2 : (insB i ++ (zju l ++ r)).drop 11 = zju l ++ r := by
      rw [← zban i, List.drop_left]
    rw [e2, zbar r (fun j hj => h j (by simp [hj]))]
theorem zvd {x : BitVec 8} {n : Int} (h : (x.toNat : Int) = n % 256) : b8 n = x := by
  apply BitVec.eq_of_toNat_eq
  have := zkc n
  omega
theorem zbqs {l : List (BitVec 8)} (h : 11 ≤ l.length) : insB (zse l) = l.take 11 := by
  match l, h with
  | a0 :: a1 :: a2 :: a3 :: a4 :: a5 :: a6 :: a7 :: a8 :: a9 :: a10 :: r, _ =>
    have l0 := a0.isLt
    have l1 := a1.isLt
    have l2 := a2.isLt
    have l3 := a3.isLt
    have l4 := a4.isLt
    have l5 := a5.isLt
    have l6 := a6.isLt
    have l7 := a7.isLt
    have l8 := a8.isLt
    have l9 := a9.isLt
    have l10 := a10.isLt
    rw [zbgx]
    simp only [zse, val6, nv, List.getD_cons_zero, List.drop_succ_cons, List.drop_zero, List.take_succ_cons, List.take_zero, List.foldl_cons, List.foldl_nil, Nat.zero_mul, Nat.zero_add]
    rw [zvd (x := a0) (by omega), zvd (x := a1) (by omega), zvd (x := a2) (by omega), zvd (x := a3) (by omega), zvd (x := a4) (by omega), zvd (x := a5) (by split <;> omega), zvd (x := a6) (by split <;> omega), zvd (x := a7) (by split <;> omega), zvd (x := a8) (by split <;> omega), zvd (x := a9) (by split <;> omega), zvd (x := a10) (by split <;> omega)]
theorem zbas : ∀ (k : Nat) {l : List (BitVec 8)}, l.length = 11 * k → zju (zho k l) = l
  | 0, l, h => by
    have : l = [] := List.eq_nil_of_length_eq_zero (by omega)
    subst this; rfl
  | k + 1, l, h => by
    have e : zju (zho (k + 1) l) = insB (zse l) ++ zju (zho k (l.drop 11)) := by simp [zju, zho]
    rw [e, zbqs (by omega), zbas k (by rw [List.length_drop]; omega), List.take_append_drop]
end Go.AM.Cap
