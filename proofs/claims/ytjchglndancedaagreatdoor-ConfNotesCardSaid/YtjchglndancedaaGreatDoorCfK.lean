import Derived.Test.YtjchglndancedaaGreatDoorCfJ
set_option linter.all false
/- conf: what a text is as a setup, in plain Lean -/
set_option maxHeartbeats 8000000
namespace Go.AM.Cap
open Go.AM Go.Proofs
def zga {α : Type} [DecidableEq α] (c : α) : List α → List (List α)
  | [] => [[]]
  | b :: l => if b = c then [] :: zga c l else ((b :: (zga c l).headD []) :: (zga c l).tail)
theorem z9h {α : Type} [DecidableEq α] (c : α) : ∀ l : List α, zga c l ≠ []
  | [] => by simp [zga]
  | b :: l => by
    unfold zga
    by_cases h : b = c <;> simp [h]
theorem zyg {α : Type} [DecidableEq α] (c : α) : ∀ l : List α, (zga c l).length ≤ l.length + 1
  | [] => by simp [zga]
  | b :: l => by
    have := zyg c l
    unfold zga
    by_cases h : b = c
    · rw [if_pos h]; simp; omega
    · rw [if_neg h, List.length_cons, List.length_tail, List.length_cons]; omega
theorem z0b {α : Type} [DecidableEq α] (c : α) : ∀ l : List α, ∀ w ∈ zga c l, w.length ≤ l.length
  | [], w, h => by simp [zga] at h; subst h; simp
  | b :: l, w, h => by
    unfold zga at h
    by_cases hb : b = c
    · rw [if_pos hb] at h
      rcases List.mem_cons.1 h with rfl | h
      · simp
      · have := z0b c l w h; simp; omega
    · rw [if_neg hb] at h
      rcases List.mem_cons.1 h with rfl | h
      · have hm : (zga c l).headD [] ∈ zga c l := by
          cases e : zga c l with
          | nil => exact absurd e (z9h c l)
          | cons a b => simp
        have := z0b c l _ hm
        simp only [List.length_cons]; omega
      · have := z0b c l w (List.mem_of_mem_tail h); simp; omega
def zdx (c : BitVec 8) (s : ByteArray) : List ByteArray := (zga c (bv s)).map sv
theorem zbe9 (c : BitVec 8) (s : ByteArray) : zdx c s ≠ [] := by simp [zdx, z9h]
def zoc : ByteArray := ⟨#[109, 105, 108, 108, 105, 115]⟩
def zry : ByteArray := ⟨#[102, 114, 97, 109, 101]⟩
def zy9 : ByteArray := ⟨#[105, 100, 108, 101]⟩
def kIn : ByteArray := ⟨#[105, 110]⟩
def kOut : ByteArray := ⟨#[111, 117, 116]⟩
def zbqf : ByteArray := ⟨#[114, 101, 97, 100]⟩
def zwk : ByteArray := ⟨#[119, 114, 105, 116, 101]⟩
def zbgy : ByteArray := ⟨#[115, 97, 109, 112, 108, 101]⟩
def z2j : ByteArray := ⟨#[113, 117, 101, 117, 101]⟩
def zbgz : ByteArray := ⟨#[119, 105, 110, 100, 111, 119]⟩
def zbqg : ByteArray := ⟨#[101, 110, 103, 105, 110, 101, 101, 114, 115]⟩
def zbqh : ByteArray := ⟨#[117, 110, 105, 116]⟩
def kGet : ByteArray := ⟨#[103, 101, 116]⟩
def kPut : ByteArray := ⟨#[112, 117, 116]⟩
def zbqi : ByteArray := ⟨#[117, 115, 101, 114]⟩
def zbqj : ByteArray := ⟨#[114, 111, 108, 101]⟩
def zbfa : ByteArray := ⟨#[98, 111, 111, 108]⟩
def kInt : ByteArray := ⟨#[105, 110, 116]⟩
def zbfb : ByteArray := ⟨#[100, 105, 110, 116]⟩
def zbfc : ByteArray := ⟨#[118, 105, 101, 119]⟩
def kRun : ByteArray := ⟨#[114, 117, 110]⟩
def z9i : ByteArray := ⟨#[98, 117, 105, 108, 100]⟩
def z9j : ByteArray := ⟨#[102, 111, 114, 99, 101]⟩
def zwl : ByteArray := ⟨#[112, 111, 105, 110, 116]⟩
def z2k : ByteArray := ⟨#[112, 111, 114, 116]⟩
def zhl : ByteArray := ⟨#[]⟩
def zyh : ByteArray := ⟨#[48, 49, 50, 51, 52, 53, 54, 55, 56, 57]⟩
def zza : ByteArray := ⟨#[48, 49, 50, 51, 52, 53, 54, 55, 56, 57, 97, 98, 99, 100, 101, 102]⟩
def z0v (b : BitVec 8) : Bool := decide (48 ≤ b.toNat ∧ b.toNat ≤ 57)
def z71 (n : Nat) : List (BitVec 8) → Nat
  | [] => n
  | b :: l => z71 (n * 10 + (b.toNat - 48)) l
def zyi (w : ByteArray) : Int × Bool :=
  if w.size = 0 ∨ w.size > 10 ∨ (bv w).all z0v = false ∨ (w.size > 1 ∧ (bv w).headD 0 = 48#8) then (0, false) else (z71 0 (bv w), decide (z71 0 (bv w) ≤ 1000000000))
def znp (ws : List ByteArray) (many : Nat) : Option (List Int) := if ws.all (fun w => (zyi w).2) = true ∧ ws.length = many then some (ws.map fun w => (zyi w).1) else none
def zim (w : ByteArray) : Int := if w = zbfa then 1 else if w = kInt then 2 else if w = zbfb then 3 else 0
def zjn (w : ByteArray) : Int := if w = zbfc then 1 else if w = kRun then 2 else if w = z9i then 3 else if w = z9j then 4 else 0
def hexD (b : BitVec 8) : Option Nat := if 48 ≤ b.toNat ∧ b.toNat ≤ 57 then some (b.toNat - 48) else if 97 ≤ b.toNat ∧ b.toNat ≤ 102 then some (b.toNat - 87) else none
def zov : List (BitVec 8) → Option (List (BitVec 8))
  | [] => some []
  | [_] => none
  | a :: b :: l => match hexD a, hexD b, zov l with
    | some x, some y, some r => some (BitVec.ofNat 8 (x * 16 + y) :: r)
    | _, _, _ => none
def hasW (l : List ByteArray) (w : ByteArray) : Bool := l.any fun x => decide (w = x)
structure RSt where
  sy : Sy
  us : List PUs
  idle : Int
  once : List ByteArray
  deriving DecidableEq, Inhabited
def zsh : RSt := ⟨⟨[], [], [], 0, [], [], 0⟩, [], 0, []⟩
abbrev wAt (ws : List ByteArray) (i : Nat) : ByteArray := ws.getD i zhl
def zpp (st : RSt) (k : ByteArray) (n : Int) : RSt :=
  let st' := { st with once := st.once ++ [k] }
  if k = zoc then { st' with sy := { st.sy with millis := n } } else if k = zry then { st' with sy := { st.sy with frame := n } } else { st' with idle := n }
def addP (st : RSt) (p : Pt) : RSt := { st with sy := { st.sy with pts := st.sy.pts ++ [p] } }
def addG (st : RSt) (g : Gr) : RSt := { st with sy := { st.sy with grs := st.sy.grs ++ [g] } }
def addQ (st : RSt) (q : Port) : RSt := { st with sy := { st.sy with prs := st.sy.prs ++ [q] } }
def addW (st : RSt) (w : Win) : RSt := { st with sy := { st.sy with wins := st.sy.wins ++ [w] } }
def addU (st : RSt) : RSt := { st with sy := { st.sy with uns := st.sy.uns ++ [⟨[], []⟩] } }
def zbmj (us : List PUn) : PUn := us.getD (us.length - 1) default
def addB (st : RSt) (get : Bool) (b : Bd) : RSt :=
  let u := zbmj st.sy.uns
  let u' : PUn := if get then ⟨u.ins ++ [b], u.outs⟩ else ⟨u.ins, u.outs ++ [b]⟩
  { st with sy := { st.sy with uns := st.sy.uns.set (st.sy.uns.length - 1) u' } }
def addS (st : RSt) (u : PUs) : RSt := { st with us := st.us ++ [u] }
def addR (st : RSt) (r : Rl) : RSt :=
  let u := st.us.getD (st.us.length - 1) default
  { st with us := st.us.set (st.us.length - 1) ⟨u.name, u.key, u.rs ++ [r]⟩ }
def zuw (st : RSt) (ws : List ByteArray) : Option RSt := if ws.length = 2 ∧ zim (wAt ws 1) ≠ 0 then some (addP st ⟨zim (wAt ws 1), decide (wAt ws 0 = kOut)⟩) else none
def z0c (st : RSt) (ws : List ByteArray) : Option RSt := match znp (ws.drop 1) 2 with
  | some l => some (addG st ⟨l.getD 0 0, l.getD 1 0, decide (wAt ws 0 = zwk)⟩)
  | none => none
def z2l (st : RSt) (ws : List ByteArray) : Option RSt :=
  let q := decide (wAt ws 0 = z2j)
  if ws.length = (if q then 5 else 4) ∧ zim (wAt ws 3) ≠ 0 then match znp ((ws.drop 1).take 2 ++ ws.drop 4) (if q then 3 else 2) with
    | some l => some (addQ st ⟨if q then 2 else 1, l.getD 0 0, l.getD 1 0, zim (wAt ws 3), if q then l.getD 2 0 else 0⟩)
    | none => none
  else none
def zwm (st : RSt) (ws : List ByteArray) : Option RSt := match znp (ws.drop 1) 3 with
  | some l => some (addW st ⟨l.getD 0 0, l.getD 1 0, l.getD 2 0⟩)
  | none => none
def z5x (st : RSt) (ws : List ByteArray) : Option RSt := match znp (ws.drop 1) 2 with
  | some l => some (addW st ⟨-1, l.getD 0 0, l.getD 1 0⟩)
  | none => none
def z5y (st : RSt) (ws : List ByteArray) : Option RSt := if ws.length = 1 then some (addU st) else none
def zgz (w : ByteArray) : Int := if w = zwl then 1 else if w = z2k then 2 else 0
def zsi (st : RSt) (ws : List ByteArray) : Option RSt :=
  if ws.length = 3 ∧ st.sy.uns ≠ [] ∧ zgz (wAt ws 1) ≠ 0 ∧ (zyi (wAt ws 2)).2 = true then some (addB st (decide (wAt ws 0 = kGet)) ⟨zgz (wAt ws 1), (zyi (wAt ws 2)).1⟩) else none
def z0d (st : RSt) (ws : List ByteArray) : Option RSt := if ws.length = 3 then match zov (bv (wAt ws 2)) with
    | some k => some (addS st ⟨wAt ws 1, sv k, []⟩)
    | none => none
  else none
def zsj (st : RSt) (ws : List ByteArray) : Option RSt :=
  if ws.length = 3 ∧ st.us ≠ [] ∧ zjn (wAt ws 2) ≠ 0 ∧ (zyi (wAt ws 1)).2 = true then some (addR st ⟨(zyi (wAt ws 1)).1, zjn (wAt ws 2)⟩) else none
inductive Kw where
  | single | point | grant | port | window | engs | unit | bind | user | role
  deriving DecidableEq
def kwOf (w : ByteArray) : Option Kw :=
  if w = zoc then some .single else if w = zry then some .single else if w = zy9 then some .single else
  if w = kIn then some .point else if w = kOut then some .point else if w = zbqf then some .grant else if w = zwk then some .grant else
  if w = zbgy then some .port else if w = z2j then some .port else if w = zbgz then some .window else if w = zbqg then some .engs else
  if w = zbqh then some .unit else if w = kGet then some .bind else if w = kPut then some .bind else if w = zbqi then some .user else if w = zbqj then some .role else none
def z72 (st : RSt) (ws : List ByteArray) : Kw → Option RSt
  | .single => (znp (ws.drop 1) 1).map fun l => zpp st (wAt ws 0) (l.getD 0 0)
  | .point => zuw st ws
  | .grant => z0c st ws
  | .port => z2l st ws
  | .window => zwm st ws
  | .engs => z5x st ws
  | .unit => z5y st ws
  | .bind => zsi st ws
  | .user => z0d st ws
  | .role => zsj st ws
def zrz (st : RSt) (s : ByteArray) : Except Int RSt :=
  if s.size = 0 ∨ (bv s).headD 0 = 35#8 then .ok st else
  let ws := zdx 32 s
  match kwOf (wAt ws 0) with
  | none => .error 3
  | some k => if hasW ws zhl = true then .error 3 else match z72 st ws k with
    | none => .error 3
    | some st' => if hasW st.once (wAt ws 0) = true then .error 6 else .ok st'
def zhr (st : RSt) : Nat → List ByteArray → Except (Nat × Int) RSt
  | _, [] => .ok st
  | i, s :: l => match zrz st s with
    | .error e => .error (i + 1, e)
    | .ok st' => zhr st' (i + 1) l
structure Se3 where
  sy : Sy
  us : List PUs
  idle : Int
  deriving DecidableEq, Inhabited
def se0 : Se3 := ⟨⟨[], [], [], 0, [], [], 0⟩, [], 0⟩
def zhm (t : ByteArray) : Se3 × Int × Int :=
  if t.size > 65536 then (se0, 0, 2) else
  let l := zdx 10 t
  match zhr zsh 0 l.dropLast with
  | .error (n, e) => (se0, n, e)
  | .ok st => if l.getLastD zhl ≠ zhl then (se0, l.length, 3) else
    if z9g st.sy st.us st.idle ≠ 0 then (se0, 0, z9g st.sy st.us st.idle) else (⟨st.sy, st.us, st.idle⟩, 0, 0)
end Go.AM.Cap
