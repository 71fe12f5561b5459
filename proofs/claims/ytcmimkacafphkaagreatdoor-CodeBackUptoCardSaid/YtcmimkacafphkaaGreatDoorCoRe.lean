import Derived.Test.YtcmimkacafphkaaGreatDoorWiH
import Derived.Test.YtcmimkacafphkaaGreatDoorWiM
import Derived.Test.YtcmimkacafphkaaGreatDoorAmOpenF
set_option linter.all false
/- code: an image's items and bytes, there and back (plain) -/
set_option maxHeartbeats 8000000
namespace Go.AM.Cap
open Go.AM Go.Proofs

/-! ### reading items -/
def pNum (ok : Int → Bool) : List It → Option (Int × List It)
  | x :: l => if x.t = false ∧ ok x.n = true then some (x.n, l) else none
  | [] => none
def pText : List It → Option (ByteArray × List It)
  | x :: l => if x.t = true then some (x.s, l) else none
  | [] => none
def pNums (ok : Int → Bool) : Nat → List It → Option (List Int × List It)
  | 0, l => some ([], l)
  | k + 1, l => (pNum ok l).bind fun p => (pNums ok k p.2).map fun q => (p.1 :: q.1, q.2)
def okLen (n : Int) : Bool := decide (0 ≤ n ∧ n ≤ 1024)
def okAll (_ : Int) : Bool := true
def pPairs (ok : Int → Bool) : Nat → List It → Option (List (Int × Int) × List It)
  | 0, l => some ([], l)
  | k + 1, l => (pNum ok l).bind fun p => (pNum okAll p.2).bind fun p2 => (pPairs ok k p2.2).map fun q => ((p.1, p2.1) :: q.1, q.2)
def pList (ok : Int → Bool) (l : List It) : Option (List Int × List It) := (pNum okLen l).bind fun p => pNums ok p.1.toNat p.2
structure Raw where
  name : ByteArray
  tf : List (Int × Int)
  ins : List Int
  outs : List Int
  code : ByteArray
  rest : List It
def pRaw (ok ok2 : Int → Bool) (l : List It) : Option Raw :=
  (pText l).bind fun a => (pNum okLen a.2).bind fun b => (pPairs ok b.1.toNat b.2).bind fun c => (pList ok2 c.2).bind fun d => (pList ok2 d.2).bind fun e => (pText e.2).map fun f => ⟨a.1, c.1, d.1, e.1, f.1, f.2⟩
def rawI (r : Raw) : List It := ⟨true, 0, r.name⟩ :: numC r.tf.length :: (tfS r.tf ++ (endS r.ins ++ (endS r.outs ++ ⟨true, 0, r.code⟩ :: r.rest)))

theorem pNum_of {ok : Int → Bool} {n : Int} {r : List It} (h : ok n = true) : pNum ok (numC n :: r) = some (n, r) := by simp [pNum, numC, h]
theorem pText_of {s : ByteArray} {r : List It} : pText (⟨true, 0, s⟩ :: r) = some (s, r) := by simp [pText]
theorem pNums_of {ok : Int → Bool} {r : List It} : ∀ {xs : List Int}, (∀ x ∈ xs, ok x = true) → pNums ok xs.length (xs.map numC ++ r) = some (xs, r)
  | [], _ => rfl
  | x :: xs, h => by
    simp only [List.map_cons, List.cons_append, List.length_cons, pNums]
    rw [pNum_of (h x (by simp))]
    simp only [Option.bind_some]
    rw [pNums_of (fun y hy => h y (by simp [hy]))]
    rfl
theorem pPairs_of {ok : Int → Bool} {r : List It} : ∀ {xs : List (Int × Int)}, (∀ x ∈ xs, ok x.1 = true) → pPairs ok xs.length (tfS xs ++ r) = some (xs, r)
  | [], _ => rfl
  | x :: xs, h => by
    have e : tfS (x :: xs) ++ r = numC x.1 :: numC x.2 :: (tfS xs ++ r) := by simp [tfS]
    rw [e]
    simp only [List.length_cons, pPairs]
    rw [pNum_of (h x (by simp))]
    simp only [Option.bind_some]
    rw [pNum_of (by rfl)]
    simp only [Option.bind_some]
    rw [pPairs_of (fun y hy => h y (by simp [hy]))]
    rfl
theorem okLen_iff {n : Int} : okLen n = true ↔ 0 ≤ n ∧ n ≤ 1024 := by simp [okLen]
theorem pList_of {ok : Int → Bool} {r : List It} {xs : List Int} (hl : xs.length ≤ 1024) (h : ∀ x ∈ xs, ok x = true) : pList ok (endS xs ++ r) = some (xs, r) := by
  unfold pList endS
  rw [List.cons_append, pNum_of (okLen_iff.2 (by omega))]
  simp only [Option.bind_some, Int.toNat_natCast]
  exact pNums_of h
theorem pRaw_of {ok ok2 : Int → Bool} {w : Raw} (h1 : w.tf.length ≤ 1024) (h2 : w.ins.length ≤ 1024) (h3 : w.outs.length ≤ 1024) (h4 : ∀ x ∈ w.tf, ok x.1 = true) (h5 : ∀ x ∈ w.ins, ok2 x = true) (h6 : ∀ x ∈ w.outs, ok2 x = true) : pRaw ok ok2 (rawI w) = some w := by
  unfold pRaw rawI
  rw [pText_of]
  simp only [Option.bind_some]
  rw [pNum_of (okLen_iff.2 (by omega))]
  simp only [Option.bind_some, Int.toNat_natCast]
  rw [pPairs_of h4]
  simp only [Option.bind_some]
  rw [pList_of h2 h5]
  simp only [Option.bind_some]
  rw [pList_of h3 h6]
  simp only [Option.bind_some]
  rw [pText_of]
  rfl

/-! ### instructions' bytes -/
/-- the value of six bytes -/
def val6 (l : List (BitVec 8)) : Int := if nv l < 140737488355328 then (nv l : Int) else (nv l : Int) - 281474976710656
def insD (l : List (BitVec 8)) : Ins := ⟨((l.getD 0 0).toNat : Int), (nv ((l.drop 1).take 2) : Int), (nv ((l.drop 3).take 2) : Int), val6 ((l.drop 5).take 6)⟩
def codeD : Nat → List (BitVec 8) → List Ins
  | 0, _ => []
  | k + 1, l => insD l :: codeD k (l.drop 11)
theorem codeD_length : ∀ (k : Nat) (l : List (BitVec 8)), (codeD k l).length = k
  | 0, _ => rfl
  | k + 1, l => by simp [codeD, codeD_length k]
/-- an instruction whose parts fit their bytes -/
def okIns (i : Ins) : Prop := (0 ≤ i.op ∧ i.op < 256) ∧ (0 ≤ i.a ∧ i.a < 65536) ∧ (0 ≤ i.b ∧ i.b < 65536) ∧ -140737488355328 ≤ i.n ∧ i.n < 140737488355328
theorem b8_toNat (n : Int) : ((b8 n).toNat : Int) = n % 256 := by
  unfold b8
  rw [BitVec.toNat_ofInt]
  omega
theorem insB_cons (i : Ins) : insB i = [b8 i.op, b8 (i.a / 256), b8 i.a, b8 (i.b / 256), b8 i.b, b8 (i.n / 1099511627776), b8 (i.n / 4294967296), b8 (i.n / 16777216), b8 (i.n / 65536), b8 (i.n / 256), b8 (i.n / 1)] := rfl
theorem insD_insB {i : Ins} (h : okIns i) (r : List (BitVec 8)) : insD (insB i ++ r) = i := by
  obtain ⟨h1, h2, h3, h4, h5⟩ := h
  rw [insB_cons]
  obtain ⟨op, a, b, n⟩ := i
  simp only at h1 h2 h3 h4 h5
  have q1 := b8_toNat op
  have q2 := b8_toNat (a / 256)
  have q3 := b8_toNat a
  have q4 := b8_toNat (b / 256)
  have q5 := b8_toNat b
  have q6 := b8_toNat (n / 1099511627776)
  have q7 := b8_toNat (n / 4294967296)
  have q8 := b8_toNat (n / 16777216)
  have q9 := b8_toNat (n / 65536)
  have q10 := b8_toNat (n / 256)
  have q11 := b8_toNat (n / 1)
  simp only [insD, val6, nv, List.cons_append, List.getD_cons_zero, List.drop_succ_cons, List.drop_zero, List.take_succ_cons, List.take_zero, List.foldl_cons, List.foldl_nil, Nat.zero_mul, Nat.zero_add]
  congr 1
  · omega
  · omega
  · omega
  · generalize (b8 (n / 1099511627776)).toNat = x1 at *
    generalize (b8 (n / 4294967296)).toNat = x2 at *
    generalize (b8 (n / 16777216)).toNat = x3 at *
    generalize (b8 (n / 65536)).toNat = x4 at *
    generalize (b8 (n / 256)).toNat = x5 at *
    generalize (b8 (n / 1)).toNat = x6 at *
    split <;> omega
theorem codeD_codeB : ∀ {l : List Ins} (r : List (BitVec 8)), (∀ i ∈ l, okIns i) → codeD l.length (codeB l ++ r) = l
  | [], _, _ => rfl
  | i :: l, r, h => by
    have e : codeB (i :: l) ++ r = insB i ++ (codeB l ++ r) := by simp [codeB]
    simp only [List.length_cons, codeD]
    rw [e, insD_insB (h i (by simp))]
    have e2 : (insB i ++ (codeB l ++ r)).drop 11 = codeB l ++ r := by
      rw [← insB_length i, List.drop_left]
    rw [e2, codeD_codeB r (fun j hj => h j (by simp [hj]))]
end Go.AM.Cap

/- code: the document's Has, Fields, same, block -/
set_option maxHeartbeats 16000000
namespace Go.AM.Cap
open Go.AM Go.Proofs

end Go.AM.Cap

/- code: the document's Fields -/
set_option maxHeartbeats 16000000
namespace Go.AM.Cap
open Go.AM Go.Proofs

end Go.AM.Cap

/- code: the document's same -/
set_option maxHeartbeats 8000000
namespace Go.AM.Cap
open Go.AM Go.Proofs

/-- so many cells, all of one type -/
def SameP (types : List Int) (a m : Int) : Prop := ∃ l, cellsS types a m = some l ∧ ∀ t ∈ l, t = l.getD 0 0
end Go.AM.Cap

/- code: the document's block -/
set_option maxHeartbeats 8000000
namespace Go.AM.Cap
open Go.AM Go.Proofs

/-- are a block's cells there? -/
def BlockP (types : List Int) (kind a : Int) : Prop := ∃ l, fieldsS kind = some l ∧ cellsS types a l.length = some l
end Go.AM.Cap

/- code: the document's May -/
set_option maxHeartbeats 16000000
namespace Go.AM.Cap
open Go.AM Go.Proofs

theorem may_at {types : List Int} {n : Nat} {i : Ins} {k : Nat} (hk : k < 12) (h : i.op = (k : Int) + 1) : MayP types n i ↔ ((rulesT.getD k default).a = true ∨ i.a = 0) ∧ ((rulesT.getD k default).b = true ∨ i.b = 0) ∧ ((rulesT.getD k default).n = true ∨ i.n = 0) ∧ AskP types n (rulesT.getD k default).f i := by
  refine ⟨?_, fun q => ⟨k, hk, h, q⟩⟩
  rintro ⟨k', _, e, q⟩
  have : k' = k := by omega
  subst this
  exact q
theorem same_one {types : List Int} {a : Int} : SameP types a 1 ↔ ∃ l, cellsS types a 1 = some l := by
  constructor
  · rintro ⟨l, e, _⟩; exact ⟨l, e⟩
  · rintro ⟨l, e⟩
    refine ⟨l, e, fun t ht => ?_⟩
    have hl := (cells_len e (by omega)).1
    have : l.length = 1 := by omega
    match l, this with
    | [y], _ => simpa using ht
theorem may_1 {types : List Int} {n : Nat} {i : Ins} (h : i.op = 1) : MayP types n i ↔ i.b = 0 ∧ fits i.a i.n := by
  rw [may_at (k := 0) (by omega) h]
  show (true = true ∨ i.a = 0) ∧ (false = true ∨ i.b = 0) ∧ (true = true ∨ i.n = 0) ∧ AskP types n fid_code_rules_4 i ↔ _
  unfold AskP
  rw [if_neg (by decide), if_neg (by decide), if_neg (by decide), if_pos rfl]
  simp
theorem may_23 {types : List Int} {n : Nat} {i : Ins} (h : i.op = 2 ∨ i.op = 3) : MayP types n i ↔ i.b = 0 ∧ i.n = 0 ∧ SameP types i.a 1 := by
  rw [same_one]
  have key : ((true = true ∨ i.a = 0) ∧ (false = true ∨ i.b = 0) ∧ (false = true ∨ i.n = 0) ∧ AskP types n fid_code_rules_1 i) ↔ (i.b = 0 ∧ i.n = 0 ∧ ∃ l, cellsS types i.a 1 = some l) := by
    unfold AskP
    rw [if_pos rfl]
    simp
  rcases h with h | h
  · rw [may_at (k := 1) (by omega) h]; exact key
  · rw [may_at (k := 2) (by omega) h]; exact key
theorem may_45 {types : List Int} {n : Nat} {i : Ins} (h : i.op = 4 ∨ i.op = 5) : MayP types n i ↔ i.n = 0 ∧ 1 ≤ i.b ∧ i.b ≤ 32 ∧ SameP types i.a i.b := by
  have key : ((true = true ∨ i.a = 0) ∧ (true = true ∨ i.b = 0) ∧ (false = true ∨ i.n = 0) ∧ AskP types n fid_code_rules_2 i) ↔ (i.n = 0 ∧ 1 ≤ i.b ∧ i.b ≤ 32 ∧ SameP types i.a i.b) := by
    unfold AskP SameP
    rw [if_neg (by decide), if_pos rfl]
    simp
  rcases h with h | h
  · rw [may_at (k := 3) (by omega) h]; exact key
  · rw [may_at (k := 4) (by omega) h]; exact key
theorem may_6 {types : List Int} {n : Nat} {i : Ins} (h : i.op = 6) : MayP types n i ↔ i.n = 0 ∧ opS i.a i.b 2 = true := by
  rw [may_at (k := 5) (by omega) h]
  show (true = true ∨ i.a = 0) ∧ (true = true ∨ i.b = 0) ∧ (false = true ∨ i.n = 0) ∧ AskP types n fid_code_rules_5 i ↔ _
  unfold AskP
  rw [if_neg (by decide), if_neg (by decide), if_neg (by decide), if_neg (by decide), if_pos rfl]
  simp
theorem may_7 {types : List Int} {n : Nat} {i : Ins} (h : i.op = 7) : MayP types n i ↔ i.n = 0 ∧ opS i.a i.b 1 = true := by
  rw [may_at (k := 6) (by omega) h]
  show (true = true ∨ i.a = 0) ∧ (true = true ∨ i.b = 0) ∧ (false = true ∨ i.n = 0) ∧ AskP types n fid_code_rules_6 i ↔ _
  unfold AskP
  rw [if_neg (by decide), if_neg (by decide), if_neg (by decide), if_neg (by decide), if_neg (by decide), if_pos rfl]
  simp
theorem may_8 {types : List Int} {n : Nat} {i : Ins} (h : i.op = 8) : MayP types n i ↔ i.n = 0 ∧ (1 ≤ i.a ∧ i.a ≤ 4) ∧ (1 ≤ i.b ∧ i.b ≤ 4) ∧ (i.a = 1 ↔ i.b = 1) := by
  rw [may_at (k := 7) (by omega) h]
  show (true = true ∨ i.a = 0) ∧ (true = true ∨ i.b = 0) ∧ (false = true ∨ i.n = 0) ∧ AskP types n fid_code_rules_7 i ↔ _
  unfold AskP
  rw [if_neg (by decide), if_neg (by decide), if_neg (by decide), if_neg (by decide), if_neg (by decide), if_neg (by decide), if_pos rfl]
  simp
theorem may_9 {types : List Int} {n : Nat} {i : Ins} (h : i.op = 9 ∨ i.op = 10) : MayP types n i ↔ i.b = 0 ∧ i.n = 0 ∧ 0 ≤ i.a ∧ i.a < n := by
  have key : ((true = true ∨ i.a = 0) ∧ (false = true ∨ i.b = 0) ∧ (false = true ∨ i.n = 0) ∧ AskP types n fid_code_rules_3 i) ↔ (i.b = 0 ∧ i.n = 0 ∧ 0 ≤ i.a ∧ i.a < n) := by
    unfold AskP
    rw [if_neg (by decide), if_neg (by decide), if_pos rfl]
    simp
  rcases h with h | h
  · rw [may_at (k := 8) (by omega) h]; exact key
  · rw [may_at (k := 9) (by omega) h]; exact key
theorem may_11 {types : List Int} {n : Nat} {i : Ins} (h : i.op = 11) : MayP types n i ↔ i.n = 0 ∧ BlockP types i.a i.b := by
  rw [may_at (k := 10) (by omega) h]
  show (true = true ∨ i.a = 0) ∧ (true = true ∨ i.b = 0) ∧ (false = true ∨ i.n = 0) ∧ AskP types n fid_code_rules_8 i ↔ _
  unfold AskP BlockP
  rw [if_neg (by decide), if_neg (by decide), if_neg (by decide), if_neg (by decide), if_neg (by decide), if_neg (by decide), if_neg (by decide), if_pos rfl]
  simp
theorem may_12 {types : List Int} {n : Nat} {i : Ins} (h : i.op = 12) : MayP types n i ↔ i.n = 0 ∧ i.a = 0 ∧ i.b = 0 := by
  rw [may_at (k := 11) (by omega) h]
  show (false = true ∨ i.a = 0) ∧ (false = true ∨ i.b = 0) ∧ (false = true ∨ i.n = 0) ∧ AskP types n fid_code_rules_9 i ↔ _
  unfold AskP
  rw [if_neg (by decide), if_neg (by decide), if_neg (by decide), if_neg (by decide), if_neg (by decide), if_neg (by decide), if_neg (by decide), if_neg (by decide)]
  simp
  exact ⟨fun q => ⟨q.2.2, q.1, q.2.1⟩, fun q => ⟨q.2.1, q.2.2, q.1⟩⟩
end Go.AM.Cap
