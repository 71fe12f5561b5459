import Derived.Test.YtjchglndancedaaGreatDoorCfJ
set_option linter.all false
/- conf: what a text is as a setup, in plain Lean -/
set_option maxHeartbeats 8000000
namespace Go.AM.Cap
open Go.AM Go.Proofs
def zf5 {α : Type} [DecidableEq α] (c : α) : List α → List (List α)
  | [] => [[]]
  | b :: l => if b = c then [] :: zf5 c l else ((b :: (zf5 c l).headD []) :: (zf5 c l).tail)
theorem z72 {α : Type} [DecidableEq α] (c : α) : ∀ l : List α, zf5 c l ≠ []
  | [] => by simp [zf5]
  | b :: l => by
    unfold zf5
    by_cases h : b = c <;> simp [h]
theorem zv5 {α : Type} [DecidableEq α] (c : α) : ∀ l : List α, (zf5 c l).length ≤ l.length + 1
  | [] => by simp [zf5]
  | b :: l => by
    have := zv5 c l
    unfold zf5
    by_cases h : b = c
    · rw [if_pos h]; simp; omega
    · rw [if_neg h, List.length_cons, List.length_tail, List.length_cons]; omega
theorem zx7 {α : Type} [DecidableEq α] (c : α) : ∀ l : List α, ∀ w ∈ zf5 c l, w.length ≤ l.length
  | [], w, h => by simp [zf5] at h; subst h; simp
  | b :: l, w, h => by
    unfold zf5 at h
    by_cases hb : b = c
    · rw [if_pos hb] at h
      rcases List.mem_cons.1 h with rfl | h
      · simp
      · have := zx7 c l w h; simp; omega
    · rw [if_neg hb] at h
      rcases List.mem_cons.1 h with rfl | h
      · have hm : (zf5 c l).headD [] ∈ zf5 c l := by
          cases e : zf5 c l with
          | nil => exact absurd e (z72 c l)
          | cons a b => simp
        have := zx7 c l _ hm
        simp only [List.length_cons]; omega
      · have := zx7 c l w (List.mem_of_mem_tail h); simp; omega
def zcp (c : BitVec 8) (s : ByteArray) : List ByteArray := (zf5 c (bv s)).map sv
theorem zbek (c : BitVec 8) (s : ByteArray) : zcp c s ≠ [] := by simp [zcp, z72]
def zh8 : ByteArray := ⟨#[109, 105, 108, 108, 105, 115]⟩
def zlc : ByteArray := ⟨#[102, 114, 97, 109, 101]⟩
def zrz : ByteArray := ⟨#[105, 100, 108, 101]⟩
def kIn : ByteArray := ⟨#[105, 110]⟩
def z9g : ByteArray := ⟨#[111, 117, 116]⟩
def zblr : ByteArray := ⟨#[114, 101, 97, 100]⟩
def zrg : ByteArray := ⟨#[119, 114, 105, 116, 101]⟩
def z9r : ByteArray := ⟨#[115, 97, 109, 112, 108, 101]⟩
def zx8 : ByteArray := ⟨#[113, 117, 101, 117, 101]⟩
def z9s : ByteArray := ⟨#[119, 105, 110, 100, 111, 119]⟩
def zbls : ByteArray := ⟨#[101, 110, 103, 105, 110, 101, 101, 114, 115]⟩
def zbca : ByteArray := ⟨#[117, 110, 105, 116]⟩
def z03 : ByteArray := ⟨#[103, 101, 116]⟩
def kPut : ByteArray := ⟨#[112, 117, 116]⟩
def zbcb : ByteArray := ⟨#[117, 115, 101, 114]⟩
def zblt : ByteArray := ⟨#[114, 111, 108, 101]⟩
def z83 : ByteArray := ⟨#[98, 111, 111, 108]⟩
def kInt : ByteArray := ⟨#[105, 110, 116]⟩
def z84 : ByteArray := ⟨#[100, 105, 110, 116]⟩
def z86 : ByteArray := ⟨#[118, 105, 101, 119]⟩
def kRun : ByteArray := ⟨#[114, 117, 110]⟩
def z04 : ByteArray := ⟨#[98, 117, 105, 108, 100]⟩
def z05 : ByteArray := ⟨#[102, 111, 114, 99, 101]⟩
def zjz : ByteArray := ⟨#[112, 111, 105, 110, 116]⟩
def zpy : ByteArray := ⟨#[112, 111, 114, 116]⟩
def zji : ByteArray := ⟨#[]⟩
def zv6 : ByteArray := ⟨#[48, 49, 50, 51, 52, 53, 54, 55, 56, 57]⟩
def zw2 : ByteArray := ⟨#[48, 49, 50, 51, 52, 53, 54, 55, 56, 57, 97, 98, 99, 100, 101, 102]⟩
def zy6 (b : BitVec 8) : Bool := decide (48 ≤ b.toNat ∧ b.toNat ≤ 57)
def z6k (n : Nat) : List (BitVec 8) → Nat
  | [] => n
  | b :: l => z6k (n * 10 + (b.toNat - 48)) l
def zv7 (w : ByteArray) : Int × Bool :=
  if w.size = 0 ∨ w.size > 10 ∨ (bv w).all zy6 = false ∨ (w.size > 1 ∧ (bv w).headD 0 = 48#8) then (0, false) else (z6k 0 (bv w), decide (z6k 0 (bv w) ≤ 1000000000))
def zld (ws : List ByteArray) (many : Nat) : Option (List Int) := if ws.all (fun w => (zv7 w).2) = true ∧ ws.length = many then some (ws.map fun w => (zv7 w).1) else none
def zf1 (w : ByteArray) : Int := if w = z83 then 1 else if w = kInt then 2 else if w = z84 then 3 else 0
def zha (w : ByteArray) : Int := if w = z86 then 1 else if w = kRun then 2 else if w = z04 then 3 else if w = z05 then 4 else 0
def hexD (b : BitVec 8) : Option Nat := if 48 ≤ b.toNat ∧ b.toNat ≤ 57 then some (b.toNat - 48) else if 97 ≤ b.toNat ∧ b.toNat ≤ 102 then some (b.toNat - 87) else none
def zmm : List (BitVec 8) → Option (List (BitVec 8))
  | [] => some []
  | [_] => none
  | a :: b :: l => match hexD a, hexD b, zmm l with
    | some x, some y, some r => some (BitVec.ofNat 8 (x * 16 + y) :: r)
    | _, _, _ => none
def z9h (l : List ByteArray) (w : ByteArray) : Bool := l.any fun x => decide (w = x)
structure RSt where
  sy : Sy
  us : List PUs
  idle : Int
  once : List ByteArray
  deriving DecidableEq, Inhabited
def zy9 : RSt := ⟨⟨[], [], [], 0, [], [], 0⟩, [], 0, []⟩
abbrev wAt (ws : List ByteArray) (i : Nat) : ByteArray := ws.getD i zji
def zm6 (st : RSt) (k : ByteArray) (n : Int) : RSt :=
  let st' := { st with once := st.once ++ [k] }
  if k = zh8 then { st' with sy := { st.sy with millis := n } } else if k = zlc then { st' with sy := { st.sy with frame := n } } else { st' with idle := n }
def addP (st : RSt) (p : Pt) : RSt := { st with sy := { st.sy with pts := st.sy.pts ++ [p] } }
def addG (st : RSt) (g : Gr) : RSt := { st with sy := { st.sy with grs := st.sy.grs ++ [g] } }
def addQ (st : RSt) (q : Port) : RSt := { st with sy := { st.sy with prs := st.sy.prs ++ [q] } }
def addW (st : RSt) (w : Win) : RSt := { st with sy := { st.sy with wins := st.sy.wins ++ [w] } }
def addU (st : RSt) : RSt := { st with sy := { st.sy with uns := st.sy.uns ++ [⟨[], []⟩] } }
def zblu (us : List PUn) : PUn := us.getD (us.length - 1) default
def addB (st : RSt) (get : Bool) (b : Bd) : RSt :=
  let u := zblu st.sy.uns
  let u' : PUn := if get then ⟨u.ins ++ [b], u.outs⟩ else ⟨u.ins, u.outs ++ [b]⟩
  { st with sy := { st.sy with uns := st.sy.uns.set (st.sy.uns.length - 1) u' } }
def addS (st : RSt) (u : PUs) : RSt := { st with us := st.us ++ [u] }
def addR (st : RSt) (r : Rl) : RSt :=
  let u := st.us.getD (st.us.length - 1) default
  { st with us := st.us.set (st.us.length - 1) ⟨u.name, u.key, u.rs ++ [r]⟩ }
def zsm (st : RSt) (ws : List ByteArray) : Option RSt := if ws.length = 2 ∧ zf1 (wAt ws 1) ≠ 0 then some (addP st ⟨zf1 (wAt ws 1), decide (wAt ws 0 = z9g)⟩) else none
def zx9 (st : RSt) (ws : List ByteArray) : Option RSt := match zld (ws.drop 1) 2 with
  | some l => some (addG st ⟨l.getD 0 0, l.getD 1 0, decide (wAt ws 0 = zrg)⟩)
  | none => none
def z06 (st : RSt) (ws : List ByteArray) : Option RSt :=
  let q := decide (wAt ws 0 = zx8)
  if ws.length = (if q then 5 else 4) ∧ zf1 (wAt ws 3) ≠ 0 then match zld ((ws.drop 1).take 2 ++ ws.drop 4) (if q then 3 else 2) with
    | some l => some (addQ st ⟨if q then 2 else 1, l.getD 0 0, l.getD 1 0, zf1 (wAt ws 3), if q then l.getD 2 0 else 0⟩)
    | none => none
  else none
def zt7 (st : RSt) (ws : List ByteArray) : Option RSt := match zld (ws.drop 1) 3 with
  | some l => some (addW st ⟨l.getD 0 0, l.getD 1 0, l.getD 2 0⟩)
  | none => none
def z4j (st : RSt) (ws : List ByteArray) : Option RSt := match zld (ws.drop 1) 2 with
  | some l => some (addW st ⟨-1, l.getD 0 0, l.getD 1 0⟩)
  | none => none
def z4k (st : RSt) (ws : List ByteArray) : Option RSt := if ws.length = 1 then some (addU st) else none
def zeq (w : ByteArray) : Int := if w = zjz then 1 else if w = zpy then 2 else 0
def zqc (st : RSt) (ws : List ByteArray) : Option RSt :=
  if ws.length = 3 ∧ st.sy.uns ≠ [] ∧ zeq (wAt ws 1) ≠ 0 ∧ (zv7 (wAt ws 2)).2 = true then some (addB st (decide (wAt ws 0 = z03)) ⟨zeq (wAt ws 1), (zv7 (wAt ws 2)).1⟩) else none
def zya (st : RSt) (ws : List ByteArray) : Option RSt := if ws.length = 3 then match zmm (bv (wAt ws 2)) with
    | some k => some (addS st ⟨wAt ws 1, sv k, []⟩)
    | none => none
  else none
def zqd (st : RSt) (ws : List ByteArray) : Option RSt :=
  if ws.length = 3 ∧ st.us ≠ [] ∧ zha (wAt ws 2) ≠ 0 ∧ (zv7 (wAt ws 1)).2 = true then some (addR st ⟨(zv7 (wAt ws 1)).1, zha (wAt ws 2)⟩) else none
inductive Kw where
  | single | point | grant | port | window | engs | unit | bind | user | role
  deriving DecidableEq
def kwOf (w : ByteArray) : Option Kw :=
  if w = zh8 then some .single else if w = zlc then some .single else if w = zrz then some .single else
  if w = kIn then some .point else if w = z9g then some .point else if w = zblr then some .grant else if w = zrg then some .grant else
  if w = z9r then some .port else if w = zx8 then some .port else if w = z9s then some .window else if w = zbls then some .engs else
  if w = zbca then some .unit else if w = z03 then some .bind else if w = kPut then some .bind else if w = zbcb then some .user else if w = zblt then some .role else none
def z6l (st : RSt) (ws : List ByteArray) : Kw → Option RSt
  | .single => (zld (ws.drop 1) 1).map fun l => zm6 st (wAt ws 0) (l.getD 0 0)
  | .point => zsm st ws
  | .grant => zx9 st ws
  | .port => z06 st ws
  | .window => zt7 st ws
  | .engs => z4j st ws
  | .unit => z4k st ws
  | .bind => zqc st ws
  | .user => zya st ws
  | .role => zqd st ws
def z07 (st : RSt) (s : ByteArray) : Except Int RSt :=
  if s.size = 0 ∨ (bv s).headD 0 = 35#8 then .ok st else
  let ws := zcp 32 s
  match kwOf (wAt ws 0) with
  | none => .error 3
  | some k => if z9h ws zji = true then .error 3 else match z6l st ws k with
    | none => .error 3
    | some st' => if z9h st.once (wAt ws 0) = true then .error 6 else .ok st'
def z6m (st : RSt) : Nat → List ByteArray → Except (Nat × Int) RSt
  | _, [] => .ok st
  | i, s :: l => match z07 st s with
    | .error e => .error (i + 1, e)
    | .ok st' => z6m st' (i + 1) l
structure Se3 where
  sy : Sy
  us : List PUs
  idle : Int
  deriving DecidableEq, Inhabited
def se0 : Se3 := ⟨⟨[], [], [], 0, [], [], 0⟩, [], 0⟩
def zyb (t : ByteArray) : Se3 × Int × Int :=
  if t.size > 65536 then (se0, 0, 2) else
  let l := zcp 10 t
  match z6m zy9 0 l.dropLast with
  | .error (n, e) => (se0, n, e)
  | .ok st => if l.getLastD zji ≠ zji then (se0, l.length, 3) else
    if zv4 st.sy st.us st.idle ≠ 0 then (se0, 0, zv4 st.sy st.us st.idle) else (⟨st.sy, st.us, st.idle⟩, 0, 0)
end Go.AM.Cap
