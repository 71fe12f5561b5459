import Derived.Test.YtcmimkacafphkaaGreatDoorCoRd
set_option linter.all false
/- code: the document's May -/
set_option maxHeartbeats 16000000
namespace Go.AM.Cap
open Go.AM Go.Proofs

theorem may_at {types : List Int} {n : Nat} {i : Ins} {k : Nat} (hk : k < 12) (h : i.op = (k : Int) + 1) : MayP types n i ↔ ((rulesT.getD k default).a = true ∨ i.a = 0) ∧ ((rulesT.getD k default).b = true ∨ i.b = 0) ∧ ((rulesT.getD k default).n = true ∨ i.n = 0) ∧ AskP types n (rulesT.getD k default).f i := by
  refine ⟨?_, fun q => ⟨k, hk, h, q⟩⟩
  rintro ⟨k', _, e, q⟩
  have : k' = k := by omega
  subst this
  exact q
theorem same_one {types : List Int} {a : Int} : SameP types a 1 ↔ ∃ l, cellsS types a 1 = some l := by
  constructor
  · rintro ⟨l, e, _⟩; exact ⟨l, e⟩
  · rintro ⟨l, e⟩
    refine ⟨l, e, fun t ht => ?_⟩
    have hl := (cells_len e (by omega)).1
    have : l.length = 1 := by omega
    match l, this with
    | [y], _ => simpa using ht
theorem may_1 {types : List Int} {n : Nat} {i : Ins} (h : i.op = 1) : MayP types n i ↔ i.b = 0 ∧ fits i.a i.n := by
  rw [may_at (k := 0) (by omega) h]
  show (true = true ∨ i.a = 0) ∧ (false = true ∨ i.b = 0) ∧ (true = true ∨ i.n = 0) ∧ AskP types n fid_code_rules_4 i ↔ _
  unfold AskP
  rw [if_neg (by decide), if_neg (by decide), if_neg (by decide), if_pos rfl]
  simp
theorem may_23 {types : List Int} {n : Nat} {i : Ins} (h : i.op = 2 ∨ i.op = 3) : MayP types n i ↔ i.b = 0 ∧ i.n = 0 ∧ SameP types i.a 1 := by
  rw [same_one]
  have key : ((true = true ∨ i.a = 0) ∧ (false = true ∨ i.b = 0) ∧ (false = true ∨ i.n = 0) ∧ AskP types n fid_code_rules_1 i) ↔ (i.b = 0 ∧ i.n = 0 ∧ ∃ l, cellsS types i.a 1 = some l) := by
    unfold AskP
    rw [if_pos rfl]
    simp
  rcases h with h | h
  · rw [may_at (k := 1) (by omega) h]; exact key
  · rw [may_at (k := 2) (by omega) h]; exact key
theorem may_45 {types : List Int} {n : Nat} {i : Ins} (h : i.op = 4 ∨ i.op = 5) : MayP types n i ↔ i.n = 0 ∧ 1 ≤ i.b ∧ i.b ≤ 32 ∧ SameP types i.a i.b := by
  have key : ((true = true ∨ i.a = 0) ∧ (true = true ∨ i.b = 0) ∧ (false = true ∨ i.n = 0) ∧ AskP types n fid_code_rules_2 i) ↔ (i.n = 0 ∧ 1 ≤ i.b ∧ i.b ≤ 32 ∧ SameP types i.a i.b) := by
    unfold AskP SameP
    rw [if_neg (by decide), if_pos rfl]
    simp
  rcases h with h | h
  · rw [may_at (k := 3) (by omega) h]; exact key
  · rw [may_at (k := 4) (by omega) h]; exact key
theorem may_6 {types : List Int} {n : Nat} {i : Ins} (h : i.op = 6) : MayP types n i ↔ i.n = 0 ∧ opS i.a i.b 2 = true := by
  rw [may_at (k := 5) (by omega) h]
  show (true = true ∨ i.a = 0) ∧ (true = true ∨ i.b = 0) ∧ (false = true ∨ i.n = 0) ∧ AskP types n fid_code_rules_5 i ↔ _
  unfold AskP
  rw [if_neg (by decide), if_neg (by decide), if_neg (by decide), if_neg (by decide), if_pos rfl]
  simp
theorem may_7 {types : List Int} {n : Nat} {i : Ins} (h : i.op = 7) : MayP types n i ↔ i.n = 0 ∧ opS i.a i.b 1 = true := by
  rw [may_at (k := 6) (by omega) h]
  show (true = true ∨ i.a = 0) ∧ (true = true ∨ i.b = 0) ∧ (false = true ∨ i.n = 0) ∧ AskP types n fid_code_rules_6 i ↔ _
  unfold AskP
  rw [if_neg (by decide), if_neg (by decide), if_neg (by decide), if_neg (by decide), if_neg (by decide), if_pos rfl]
  simp
theorem may_8 {types : List Int} {n : Nat} {i : Ins} (h : i.op = 8) : MayP types n i ↔ i.n = 0 ∧ (1 ≤ i.a ∧ i.a ≤ 4) ∧ (1 ≤ i.b ∧ i.b ≤ 4) ∧ (i.a = 1 ↔ i.b = 1) := by
  rw [may_at (k := 7) (by omega) h]
  show (true = true ∨ i.a = 0) ∧ (true = true ∨ i.b = 0) ∧ (false = true ∨ i.n = 0) ∧ AskP types n fid_code_rules_7 i ↔ _
  unfold AskP
  rw [if_neg (by decide), if_neg (by decide), if_neg (by decide), if_neg (by decide), if_neg (by decide), if_neg (by decide), if_pos rfl]
  simp
theorem may_9 {types : List Int} {n : Nat} {i : Ins} (h : i.op = 9 ∨ i.op = 10) : MayP types n i ↔ i.b = 0 ∧ i.n = 0 ∧ 0 ≤ i.a ∧ i.a < n := by
  have key : ((true = true ∨ i.a = 0) ∧ (false = true ∨ i.b = 0) ∧ (false = true ∨ i.n = 0) ∧ AskP types n fid_code_rules_3 i) ↔ (i.b = 0 ∧ i.n = 0 ∧ 0 ≤ i.a ∧ i.a < n) := by
    unfold AskP
    rw [if_neg (by decide), if_neg (by decide), if_pos rfl]
    simp
  rcases h with h | h
  · rw [may_at (k := 8) (by omega) h]; exact key
  · rw [may_at (k := 9) (by omega) h]; exact key
theorem may_11 {types : List Int} {n : Nat} {i : Ins} (h : i.op = 11) : MayP types n i ↔ i.n = 0 ∧ BlockP types i.a i.b := by
  rw [may_at (k := 10) (by omega) h]
  show (true = true ∨ i.a = 0) ∧ (true = true ∨ i.b = 0) ∧ (false = true ∨ i.n = 0) ∧ AskP types n fid_code_rules_8 i ↔ _
  unfold AskP BlockP
  rw [if_neg (by decide), if_neg (by decide), if_neg (by decide), if_neg (by decide), if_neg (by decide), if_neg (by decide), if_neg (by decide), if_pos rfl]
  simp
theorem may_12 {types : List Int} {n : Nat} {i : Ins} (h : i.op = 12) : MayP types n i ↔ i.n = 0 ∧ i.a = 0 ∧ i.b = 0 := by
  rw [may_at (k := 11) (by omega) h]
  show (false = true ∨ i.a = 0) ∧ (false = true ∨ i.b = 0) ∧ (false = true ∨ i.n = 0) ∧ AskP types n fid_code_rules_9 i ↔ _
  unfold AskP
  rw [if_neg (by decide), if_neg (by decide), if_neg (by decide), if_neg (by decide), if_neg (by decide), if_neg (by decide), if_neg (by decide), if_neg (by decide)]
  simp
  exact ⟨fun q => ⟨q.2.2, q.1, q.2.1⟩, fun q => ⟨q.2.1, q.2.2, q.1⟩⟩
end Go.AM.Cap
