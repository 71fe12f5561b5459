import Derived.Test.YtcmimkacafphkaaGreatDoorAmHeap
import Derived.Test.YtcmimkacafphkaaGreatDoorAmBase
import Derived.Maps.RangeRun
import Derived.WideKeyArgs
import Derived.ChangeSame
import Derived.OpenShut
import Derived.LaidSub
import Derived.ChangeMaps5
import Derived.Lib.LaidTab
import Derived.Deep.Slices
set_option linter.all false
/- Maps that are held: their z2u as lists of keys and values. -/
namespace Go.AM
class KeyE (κ : Type) [DecidableEq κ] where
  kk : KK
  enc : κ → V
  eq : ∀ a b, zw2 kk (enc a) (enc b) = some (decide (a = b))
  fits : ∀ a, zn0 kk (enc a) = true
  solid : ∀ a, (enc a).isSolid = true
class ValE (ω : Type) where
  enc : ω → V
  solid : ∀ a, (enc a).isSolid = true
theorem zbog (a b : Int) : (a == b) = decide (a = b) := by by_cases h : a = b <;> simp [h]
instance : KeyE Int := ⟨.one .i, i64, fun a b => by simp only [zw2, eqK, if_true, zbog], fun _ => rfl, fun _ => rfl⟩
instance : ValE Int := ⟨i64, fun _ => rfl⟩
instance : ValE Bool := ⟨.bool, fun _ => rfl⟩
abbrev pr (a b : Int) : V := .agg [i64 a, i64 b].toArray
instance : KeyE (Int × Int) := ⟨.agg [.i, .i], fun a => pr a.1 a.2, fun a b => by
  simp only [zw2, z3k, zqq, eqK, if_true, zbog]
  by_cases h : a.1 = b.1
  · by_cases h2 : a.2 = b.2
    · rw [decide_eq_true h, decide_eq_true h2, decide_eq_true (show a = b from Prod.ext h h2)]
    · rw [decide_eq_true h, decide_eq_false h2, decide_eq_false (show ¬ a = b from fun e => h2 (by rw [e]))]
  · rw [decide_eq_false h, decide_eq_false (show ¬ a = b from fun e => h (by rw [e]))], fun _ => rfl, fun _ => rfl⟩
section
variable {κ ω : Type} [DecidableEq κ] [KeyE κ] [ValE ω]
def z8z (e : κ × ω) : V × V := (KeyE.enc e.1, ValE.enc e.2)
def z80 (k : κ) : List (κ × ω) → Option Nat
  | [] => none
  | e :: es => if k = e.1 then some 0 else (z80 k es).map (· + 1)
def z3e (es : List (κ × ω)) (k : κ) : Option ω := match es with
  | [] => none
  | e :: es => if k = e.1 then some e.2 else z3e es k
def aset (es : List (κ × ω)) (k : κ) (v : ω) : List (κ × ω) := match es with
  | [] => [(k, v)]
  | e :: es => if k = e.1 then (k, v) :: es else e :: aset es k v
def adel (es : List (κ × ω)) (k : κ) : List (κ × ω) := match es with
  | [] => []
  | e :: es => if k = e.1 then es else e :: adel es k
theorem z81 (k : κ) : ∀ es : List (κ × ω), zjp (KeyE.kk κ) (KeyE.enc k) (es.map z8z) = some (z80 k es)
  | [] => rfl
  | e :: es => by
    have ih := z81 k es
    simp only [List.map_cons, zjp, z80]
    rw [show zw2 (KeyE.kk κ) (KeyE.enc k) (z8z e).1 = some (decide (k = e.1)) from KeyE.eq k e.1]
    by_cases h : k = e.1
    · simp [h]
    · rw [decide_eq_false h, if_neg h, ih]
      cases z80 k es <;> rfl
theorem z82 {k : κ} : ∀ {es : List (κ × ω)}, z80 k es = none → z3e es k = none ∧ (∀ v, aset es k v = es ++ [(k, v)]) ∧ adel es k = es
  | [], _ => ⟨rfl, fun _ => rfl, rfl⟩
  | e :: es, h => by
    simp only [z80] at h
    split at h
    · cases h
    · rename_i hk
      have h' : z80 k es = none := by cases hq : z80 k es <;> simp_all
      obtain ⟨a, b, c⟩ := z82 h'
      simp [z3e, aset, adel, hk, a, b, c]
theorem z83 {k : κ} : ∀ {es : List (κ × ω)} {i : Nat}, z80 k es = some i → i < es.length ∧ (∃ v, es[i]? = some (k, v) ∧ z3e es k = some v) ∧ (∀ v, aset es k v = es.set i (k, v)) ∧ adel es k = es.eraseIdx i
  | e :: es, i, h => by
    simp only [z80] at h
    split at h
    · rename_i hk
      cases h; subst hk
      exact ⟨by simp, ⟨e.2, by simp, by simp [z3e]⟩, fun v => by simp [aset], by simp [adel]⟩
    · rename_i hk
      cases hq : z80 k es with
      | none => rw [hq] at h; cases h
      | some j =>
        rw [hq] at h; cases h
        obtain ⟨a, ⟨v, b1, b2⟩, c, d⟩ := z83 hq
        exact ⟨by simpa using a, ⟨v, by simpa using b1, by simp [z3e, hk, b2]⟩, fun v => by simp [aset, hk, c], by simp [adel, hk, d]⟩
theorem zbgh (k k' : κ) (v : ω) : ∀ es : List (κ × ω), z3e (aset es k v) k' = if k' = k then some v else z3e es k'
  | [] => by simp [aset, z3e]
  | e :: es => by
    simp only [aset]
    split
    · rename_i h; subst h
      simp only [z3e]
      split <;> rfl
    · rename_i h
      simp only [z3e, zbgh k k' v es]
      by_cases h2 : k' = e.1
      · subst h2; rw [if_pos rfl, if_pos rfl, if_neg (fun q => h q.symm)]
      · rw [if_neg h2, if_neg h2]
def MapR (H : Heap) (m : Nat) (es : List (κ × ω)) : Prop := H.get m = some (.map true (es.map z8z))
def z6n (x : Option Blk) (kk : KK) (zero : V) (ok : Bool) (k : V) : Option V := match x with
  | some (.map _ es) => if (zn0 kk k && zm7 zero) = true then (match zjp kk k es with
    | some (some i) => match es[i]? with | some e => some (if ok then .tuple #[e.2, .bool true] else e.2) | none => none
    | some none => some (if ok then .tuple #[zero, .bool false] else zero)
    | none => none) else none
  | _ => none
@[congr] theorem zbv8 {x x' : Option Blk} {kk : KK} {zero : V} {ok : Bool} {k : V} (h : x = x') : z6n x kk zero ok k = z6n x' kk zero ok k := by rw [h]
theorem zbck (H : Heap) (m : Nat) (kk : KK) (zero : V) (ok : Bool) (k : V) {Q : V → Heap → Prop} : wp (lookup kk zero ok (.map (some m)) k) Q H ↔ wpO (z6n (H.get m) kk zero ok k) fun v => Q v H := by
  have e : lookup kk zero ok (.map (some m)) k H = (z6n (H.get m) kk zero ok k).map fun v => (v, H) := by
    simp only [lookup, z6n, z2u]
    generalize H.get m = x
    by_cases hc : (zn0 kk k && zm7 zero) = true
    · rw [if_pos hc]
      cases x with
      | none => rfl
      | some x =>
        cases x with
        | map rw es =>
          simp only
          rw [if_pos hc]
          cases zjp kk k es with
          | none => rfl
          | some o => cases o with
            | none => rfl
            | some i => simp only; cases es[i]? <;> rfl
        | cells rw cs => rfl
        | siter s p => rfl
    · rw [if_neg hc]
      cases x with
      | none => rfl
      | some x =>
        cases x with
        | map rw es => simp only; rw [if_neg hc]; rfl
        | cells rw cs => rfl
        | siter s p => rfl
  unfold wp wpO
  rw [e]
  cases z6n (H.get m) kk zero ok k with
  | none => simp
  | some v =>
    constructor
    · rintro ⟨a, H', h1, h2⟩; cases h1; exact ⟨_, rfl, h2⟩
    · rintro ⟨a, h1, h2⟩; cases h1; exact ⟨_, _, rfl, h2⟩
theorem zbpy (rw_ : Bool) (es : List (κ × ω)) (zero : V) (hz : zm7 zero = true) (k : κ) : z6n (some (.map rw_ (es.map z8z))) (KeyE.kk κ) zero false (KeyE.enc k) = some ((z3e es k).elim zero ValE.enc) := by
  have hc : (zn0 (KeyE.kk κ) (KeyE.enc k) && zm7 zero) = true := by rw [KeyE.fits, hz]; rfl
  simp only [z6n, hc, if_true, z81]
  cases ha : z80 k es with
  | none => simp [(z82 ha).1]
  | some i =>
    obtain ⟨h1, ⟨v, h2, h3⟩, _⟩ := z83 ha
    simp [h2, h3, z8z]
def setG (x : Option Blk) (kk : KK) (k v : V) (K : Option Blk → Prop) : Prop := match x with
  | some (.map true es) => (zn0 kk k && k.isSolid && v.isSolid) = true ∧ match zjp kk k es with
    | some (some i) => K (some (.map true (es.set i (k, v))))
    | some none => K (some (.map true (es ++ [(k, v)])))
    | none => False
  | _ => False
@[congr] theorem zbw8 {x x' : Option Blk} {kk : KK} {k v : V} {K : Option Blk → Prop} (h : x = x') : setG x kk k v K = setG x' kk k v K := by rw [h]
theorem zbm3 (H : Heap) (m : Nat) (kk : KK) (k v : V) {Q : V → Heap → Prop} : wp (z44 kk (.map (some m)) k v) Q H ↔ setG (H.get m) kk k v fun y => Q undef (H.set m y) := by
  unfold wp setG z44
  cases hc : (zn0 kk k && k.isSolid && v.isSolid) with
  | false => simp; split <;> simp_all
  | true =>
    simp only [if_true]
    cases hg : H.get m with
    | none => simp
    | some x =>
      cases x with
      | map rw es =>
        cases rw with
        | false => simp
        | true =>
          simp only [true_and]
          cases zjp kk k es with
          | none => simp
          | some o => cases o with
            | none => constructor
                      · rintro ⟨a, H', h1, h2⟩; cases h1; exact h2
                      · intro h; exact ⟨_, _, rfl, h⟩
            | some i => constructor
                        · rintro ⟨a, H', h1, h2⟩; cases h1; exact h2
                        · intro h; exact ⟨_, _, rfl, h⟩
      | cells rw cs => simp
      | siter s p => simp
theorem zbsg (es : List (κ × ω)) (k : κ) (v : ω) (K : Option Blk → Prop) : setG (some (.map true (es.map z8z))) (KeyE.kk κ) (KeyE.enc k) (ValE.enc v) K ↔ K (some (.map true ((aset es k v).map z8z))) := by
  have hc : (zn0 (KeyE.kk κ) (KeyE.enc k) && (KeyE.enc k : V).isSolid && (ValE.enc v : V).isSolid) = true := by rw [KeyE.fits, KeyE.solid, ValE.solid]; rfl
  simp only [setG, hc, true_and, z81]
  cases ha : z80 k es with
  | none => rw [(z82 ha).2.1 v]; simp [z8z]
  | some i => rw [(z83 ha).2.2.1 v]; simp [List.map_set, z8z]
theorem MapR.keep {S : List Nat} {H H' : Heap} {m : Nat} {es : List (κ × ω)} (h : MapR H m es) (hk : Keeps S H H') (hm : m ∉ S) : MapR H' m es := hk.get h hm
theorem MapR.lt {H : Heap} {m : Nat} {es : List (κ × ω)} (h : MapR H m es) : m < H.next := Heap.get_lt h
end
end Go.AM

/- Slices of one-cell elements, somewhere in a block that one owns. -/
namespace Go.AM
def Seg (H : Heap) (v : V) (l : List V) : Prop := (v = .slice none 0 0 ∧ l = []) ∨ ∃ b o c cs, v = slc b o 1 l.length c ∧ l.length ≤ c ∧ H.get b = some (.cells true cs) ∧ (l = [] ∨ (o + l.length ≤ cs.length ∧ (cs.drop o).take l.length = l))
theorem Seg.nil (H : Heap) : Seg H (.slice none 0 0) [] := .inl ⟨rfl, rfl⟩
theorem Seg.keep {S : List Nat} {H H' : Heap} {v : V} {l : List V} (h : Seg H v l) (hk : Keeps S H H') (hn : ∀ b ∈ vb v, b ∉ S) : Seg H' v l := by
  rcases h with h | ⟨b, o, c, cs, rfl, hc, hb, hl⟩
  · exact .inl h
  · exact .inr ⟨b, o, c, cs, rfl, hc, hk.get hb (hn b (by simp)), hl⟩
theorem Seg.same {H H' : Heap} {v : V} {l : List V} (h : Seg H v l) (hs : ∀ b ∈ vb v, H'.get b = H.get b) : Seg H' v l := by
  rcases h with h | ⟨b, o, c, cs, rfl, hc, hb, hl⟩
  · exact .inl h
  · exact .inr ⟨b, o, c, cs, rfl, hc, by rw [hs b (by simp)]; exact hb, hl⟩
theorem Seg.len {H : Heap} {v : V} {l : List V} (h : Seg H v l) : zo v = some (i64 l.length) := by
  rcases h with ⟨rfl, rfl⟩ | ⟨b, o, c, cs, rfl, hc, hb, hl⟩ <;> rfl
theorem Seg.lt {H : Heap} {v : V} {l : List V} (h : Seg H v l) : ∀ b ∈ vb v, b < H.next := by
  rcases h with ⟨rfl, rfl⟩ | ⟨b, o, c, cs, rfl, hc, hb, hl⟩
  · simp
  · simpa using Heap.get_lt hb
theorem Seg.isOne {H : Heap} {v : V} {l : List V} (h : Seg H v l) : v.isOne = true := by
  rcases h with ⟨rfl, rfl⟩ | ⟨b, o, c, cs, rfl, _⟩ <;> rfl
theorem Seg.cells {H : Heap} {v : V} {l : List V} (h : Seg H v l) : zdm H 1 v = some l := by
  rcases h with ⟨rfl, rfl⟩ | ⟨b, o, c, cs, rfl, hc, hb, hl⟩
  · rfl
  · simp only [zdm]
    by_cases h0 : l.length = 0
    · rw [if_pos h0, List.eq_nil_of_length_eq_zero h0]
    · rw [if_neg h0]
      rcases hl with rfl | ⟨h1, h2⟩
      · simp at h0
      · simp [cellsAt, hb, h1, h2]
theorem Seg.addr {H : Heap} {v : V} {l : List V} (h : Seg H v l) {k : IntKind} {i : Int} (h0 : 0 ≤ i) (hi : i < l.length) : zbo 1 v (.int k i) = some (ptr (slB v) (slO v + i.toNat)) := by
  rcases h with ⟨rfl, rfl⟩ | ⟨b, o, c, cs, rfl, _⟩
  · simp at hi; omega
  · have := zbcc (b := b) (o := o) (u := 1) (cap := c) (size := 1) (k := k) h0 hi
    rw [Nat.mul_one] at this; exact this
theorem Seg.cell {H : Heap} {v : V} {l : List V} (h : Seg H v l) {i : Nat} (hi : i < l.length) : zst H (ptr (slB v) (slO v + i)) = l[i]? := by
  rcases h with ⟨rfl, rfl⟩ | ⟨b, o, c, cs, rfl, hc, hb, hl⟩
  · simp at hi
  · rcases hl with rfl | ⟨h1, h2⟩
    · simp at hi
    · show zst H (ptr b (o + i)) = _
      rw [zbgf hb]
      have : ((cs.drop o).take l.length)[i]? = l[i]? := by rw [h2]
      rw [List.getElem?_take, if_pos hi, List.getElem?_drop] at this
      exact this
theorem Seg.sub {H : Heap} {v : V} {l : List V} (h : Seg H v l) {lo hi : Option V} {a b : Nat} (hlo : zgu 0 b lo = some a) (hhi : ∀ c, l.length ≤ c → zgu l.length c hi = some b) (h1 : a ≤ b) (h2 : b ≤ l.length) : ∃ w, zt8 1 v lo hi = some w ∧ Seg H w ((l.drop a).take (b - a)) ∧ (∀ x ∈ vb w, x ∈ vb v) ∧ w.isOne = true := by
  have hlen : ((l.drop a).take (b - a)).length = b - a := by simp; omega
  rcases h with ⟨rfl, rfl⟩ | ⟨blk, o, c, cs, rfl, hc, hb, hl⟩
  · simp only [List.length_nil] at h2 hhi
    have hb0 : b = 0 := by omega
    subst hb0
    have ha0 : a = 0 := by omega
    subst ha0
    exact ⟨.slice none 0 0, by simp [zt8, hhi 0 (Nat.le_refl _), hlo], .inl ⟨rfl, by simp⟩, fun x hx => hx, rfl⟩
  · refine ⟨zw1 blk o 1 a b c 1, ?_, ?_, ?_, ?_⟩
    · simp only [zt8, hhi c hc, hlo]
      simp
    · unfold zw1
      split
      · rename_i hca
        have : b = a := by omega
        subst this
        refine .inr ⟨blk, o, c - b, cs, by simp, by simp, hb, .inl (by simp)⟩
      · refine .inr ⟨blk, o + a * 1, c - a, cs, by rw [hlen], by rw [hlen]; omega, hb, ?_⟩
        rcases hl with rfl | ⟨q1, q2⟩
        · left; simp
        · right
          rw [hlen]
          refine ⟨by omega, ?_⟩
          conv => rhs; rw [← q2]
          rw [List.drop_take, List.take_take, List.drop_drop, Nat.mul_one]
          congr 1
          omega
    · unfold zw1; split <;> simp
    · unfold zw1; split <;> rfl
theorem zc0 {zero : List V} {parts : List (Nat × Nat × V)} (h : zero.all zm7 = true) : build zero parts = (zgt zero parts).map fun cs => .agg cs.toArray := by
  simp only [build, h, if_true]
  cases zgt zero parts <;> rfl
theorem zbt (cs : List V) : zgt cs [] = some cs := rfl
theorem zx {cs : List V} {off : Nat} {v : V} {rest : List (Nat × Nat × V)} (hv : v.isOne = true) (h : off < cs.length) : zgt cs ((off, 1, v) :: rest) = zgt (cs.set off v) rest := by
  have hc : v.cells.toList = [v] := by rw [z8c hv]
  have hs : v.cells.size = 1 := by rw [z8c hv]; rfl
  simp only [zgt, hc, hs]
  rw [if_pos (by simp [hv]; omega)]
  congr 1
  simp only [splice, List.length_singleton]
  rw [List.set_eq_take_append_cons_drop, if_pos h]
  rfl
theorem zb3 {cs : List V} {off : Nat} {a : Option Addr} {n c : Nat} {rest : List (Nat × Nat × V)} (h : off < cs.length) : zgt cs ((off, 1, .slice a n c) :: rest) = zgt (cs.set off (.slice a n c)) rest := zx rfl h
theorem zb4 {cs : List V} {off : Nat} {k : IntKind} {n : Int} {rest : List (Nat × Nat × V)} (h : off < cs.length) : zgt cs ((off, 1, .int k n) :: rest) = zgt (cs.set off (.int k n)) rest := zx rfl h
theorem zb5 {cs : List V} {off : Nat} {s : ByteArray} {rest : List (Nat × Nat × V)} (h : off < cs.length) : zgt cs ((off, 1, .string s) :: rest) = zgt (cs.set off (.string s)) rest := zx rfl h
theorem zbh {cs : List V} {off : Nat} {b : Bool} {rest : List (Nat × Nat × V)} (h : off < cs.length) : zgt cs ((off, 1, .bool b) :: rest) = zgt (cs.set off (.bool b)) rest := zx rfl h
theorem zb6 {cs : List V} {off : Nat} {a : Option Addr} {rest : List (Nat × Nat × V)} (h : off < cs.length) : zgt cs ((off, 1, .pointer a) :: rest) = zgt (cs.set off (.pointer a)) rest := zx rfl h
theorem zb7 {cs : List V} {off : Nat} {a : Option Nat} {rest : List (Nat × Nat × V)} (h : off < cs.length) : zgt cs ((off, 1, .map a) :: rest) = zgt (cs.set off (.map a)) rest := zx rfl h
theorem zbu {cs vs : List V} {off n : Nat} {rest : List (Nat × Nat × V)} (hv : vs.all Value.isOne = true) (hn : vs.length = n) (h : off + n ≤ cs.length) : zgt cs ((off, n, .agg vs.toArray) :: rest) = zgt (splice cs off vs) rest := by
  have hc : (Value.agg vs.toArray).cells.toList = vs := by simp [Value.cells]
  have hs : (Value.agg vs.toArray).cells.size = n := by simp [Value.cells, hn]
  simp only [zgt, hc, hs]
  rw [if_pos (by simp [hv]; omega)]
theorem zc1 (H : Heap) : zve H 1 = H.push none := rfl
theorem zc2 (H : Heap) : zve H 2 = (H.push none).push none := rfl
theorem zbi (H : Heap) : zk8 H [] = true := rfl
theorem z93 {H : Heap} {b : Nat} {bs : List Nat} (h : H.get b = none) (hl : b < H.next) : zk8 H (b :: bs) = zk8 H bs := by
  have : Nat.blt b H.next = true := by simpa [Nat.blt_eq] using hl
  simp [zk8, h, this]
theorem z94 {id size len : Nat} {zero cs : List V} {parts : List (Nat × Nat × V)} {H : Heap} {Q : V → Heap → Prop} (h : H.get id = none) (hl : id < H.next) (hz : zero.all zm7 = true) (hf : zgt zero parts = some cs) (hQ : Q (slc id 0 size len len) (H.set id (some (.cells true cs)))) : wp (flt id (zfb size len zero parts)) Q H := by
  have e : zfb size len zero parts ⟨[]⟩ = some (slc 0 0 size len len, ⟨[some (.cells true cs)]⟩) := by
    simp only [zfb, hz, if_true, hf]; rfl
  have : Nat.blt id H.next = true := by simpa [Nat.blt_eq] using hl
  exact ⟨_, _, by simp only [flt, e, h, this, cond_true, zzd], hQ⟩
theorem zbkn {α : Type} [Flat α] (x : α) (zero : List V) (hz : zero = Flat.enc x) : ∀ n, rep n zero = zr (List.replicate n x)
  | 0 => rfl
  | n + 1 => by rw [rep, zbkn x zero hz n, List.replicate_succ, zok, hz]
end Go.AM

/- Slices that are copied; makes that float. -/
namespace Go.AM
theorem zbm4 (n : Nat) (H : Heap) : Keeps [] H (zve H n) := ⟨by rw [(zt4 n H).2]; omega, fun b _ _ => (zt4 n H).1 b⟩
theorem zbpz {n : Nat} {H : Heap} {b : Nat} (h : H.next ≤ b) : (zve H n).get b = none := by
  rw [(zt4 n H).1]
  cases hg : H.get b with
  | none => rfl
  | some x => have := Heap.get_lt hg; omega
theorem zbp0 (n : Nat) (H : Heap) : (zve H n).next = H.next + n := (zt4 n H).2
end Go.AM

/- Own slices of flat things. -/
namespace Go.AM
section
variable {α : Type} [Flat α]
def zf5 (H : Heap) (v : V) (xs : List α) : Prop := (v = .slice none 0 0 ∧ xs = []) ∨ ∃ b, v = slc b 0 (Flat.size α) xs.length xs.length ∧ H.get b = some (.cells true (zr xs))
theorem zf5.nil (H : Heap) : zf5 H (.slice none 0 0) ([] : List α) := .inl ⟨rfl, rfl⟩
theorem zf5.keep {S : List Nat} {H H' : Heap} {v : V} {l : List α} (h : zf5 H v l) (hk : Keeps S H H') (hn : ∀ b ∈ vb v, b ∉ S) : zf5 H' v l := by
  rcases h with h | ⟨b, rfl, hb⟩
  · exact .inl h
  · exact .inr ⟨b, rfl, hk.get hb (hn b (by simp))⟩
theorem zf5.keep0 {H H' : Heap} {v : V} {l : List α} (h : zf5 H v l) (hk : Keeps [] H H') : zf5 H' v l := h.keep hk (by simp)
theorem zf5.len {H : Heap} {v : V} {l : List α} (h : zf5 H v l) : zo v = some (i64 l.length) := by
  rcases h with ⟨rfl, rfl⟩ | ⟨b, rfl, _⟩ <;> rfl
theorem zf5.lt {H : Heap} {v : V} {l : List α} (h : zf5 H v l) : ∀ b ∈ vb v, b < H.next := by
  rcases h with ⟨rfl, rfl⟩ | ⟨b, rfl, hb⟩
  · simp
  · simpa using Heap.get_lt hb
theorem zf5.isOne {H : Heap} {v : V} {l : List α} (h : zf5 H v l) : v.isOne = true := by
  rcases h with ⟨rfl, rfl⟩ | ⟨b, rfl, _⟩ <;> rfl
theorem zf5.sl {H : Heap} {v : V} {l : List α} (h : zf5 H v l) : Sl H v l := by
  rcases h with ⟨rfl, rfl⟩ | ⟨b, rfl, hb⟩
  · exact Sl.nil H
  · refine .inr ⟨b, 0, Flat.size α, l.length, rfl, Nat.le_refl _, Heap.get_lt hb, .inr ⟨true, zr l, hb, by rw [zes]; omega, ?_⟩, .inr rfl⟩
    rw [List.drop_zero, List.take_of_length_le (by rw [zes]; exact Nat.le_refl _)]
theorem zol {H : Heap} {xs : List α} {n m : Nat} (hs : Flat.size α = n) (hm : xs.length = m) : zf5 (H.push (some (.cells true (zr xs)))) (slc H.next 0 n m m) xs := by
  subst hs hm; exact .inr ⟨_, rfl, Heap.get_push_self _ _⟩
theorem zyl {v : V} {xs ys : List α} {n m bytes : Nat} {new : Option (List V)} {H : Heap} {Q : V → Heap → Prop} (hs : Flat.size α = n) (hv : zf5 H v xs) (hm : ys.length = m) (hnew : ys ≠ [] → new = some (zr ys)) (hb : (xs.length + m) * bytes ≤ 35184372088832) (hb2 : xs.length + m ≤ 35184372088832)
    (hQ : ∀ w H', zf5 H' w (xs ++ ys) → Keeps (vb v) H H' → (∀ b ∈ vb w, b ∈ vb v ∨ H.next ≤ b) → Q w H') : wp (zz9 n bytes v m new) Q H := by
  subst hs hm
  by_cases h0 : ys = []
  · subst h0
    have hf : ∃ x len cap, v = .slice x len cap := by
      rcases hv with ⟨rfl, _⟩ | ⟨b, rfl, _⟩
      · exact ⟨_, _, _, rfl⟩
      · exact ⟨_, _, _, rfl⟩
    obtain ⟨x, len, cap, rfl⟩ := hf
    exact ⟨_, H, rfl, hQ _ _ (by rw [List.append_nil]; exact hv) (Keeps.refl _ _) (fun b hb => .inl hb)⟩
  have hne : ys.length ≠ 0 := fun h => h0 (List.eq_nil_of_length_eq_zero h)
  rw [hnew h0]
  have hone := zbkl ys
  have hel := zes ys
  rcases hv with ⟨rfl, rfl⟩ | ⟨b, rfl, hg⟩
  · have e1 : zdm H (Flat.size α) (.slice none 0 0) = some [] := rfl
    have e2 : z43 H (Flat.size α) (.slice none 0 0) = some H := rfl
    refine ⟨slc H.next 0 (Flat.size α) ys.length ys.length, H.push (some (.cells true (zr ys))), ?_, hQ _ _ ?_ (Keeps.push _ _ _) (fun b hb => .inr (by simp at hb; omega))⟩
    · simp only [List.length_nil, Nat.zero_add] at hb hb2
      simp only [zz9, hne, if_false, e1, e2]
      rw [if_pos ⟨by rw [Nat.zero_add]; exact hb, by omega, hone, hel⟩]
      simp
    · exact zol rfl (by simp)
  · have hcs : zdm H (Flat.size α) (slc b 0 (Flat.size α) xs.length xs.length) = some (zr xs) := by
      simp only [zdm]
      split
      · rename_i h1; rw [List.eq_nil_of_length_eq_zero h1]; rfl
      · have e : (zr xs).length = xs.length * Flat.size α := zes xs
        simp only [cellsAt, hg, Nat.zero_add, List.drop_zero]
        rw [if_pos (by omega), List.take_of_length_le (by omega)]
    refine ⟨slc H.next 0 (Flat.size α) (xs.length + ys.length) (xs.length + ys.length), (H.set b none).push (some (.cells true (zr xs ++ zr ys))), ?_, hQ _ _ ?_ ?_ (fun c hc => .inr (by simp at hc; omega))⟩
    · simp only [zz9, hne, if_false, hcs, z43, hg, if_true]
      rw [if_pos ⟨hb, hb2, hone, hel⟩]
      simp
    · rw [← zbkk]
      have := zol (H := H.set b none) (xs := xs ++ ys) (n := Flat.size α) (m := xs.length + ys.length) rfl (by simp)
      simpa using this
    · exact ⟨by simp, fun c hc hn => by rw [Heap.get_push_lt (by simpa using hc), Heap.get_set_ne _ _ _ (by simpa using hn)]⟩
theorem zbko {H : Heap} {v : V} {xs : List α} {n : Nat} (hs : Flat.size α = n) (h : Sl H v xs) (hne : xs ≠ []) : ∃ a c, v = .slice a xs.length c ∧ zdm H n v = some (zr xs) := by
  subst hs
  rcases h with ⟨rfl, e⟩ | ⟨bb, o, u, c, rfl, hc, _, hl2, _⟩
  · exact absurd e hne
  · rcases hl2 with e | ⟨rw, cs, hg, q1, q2⟩
    · exact absurd e hne
    · refine ⟨_, _, rfl, ?_⟩
      have hn : xs.length ≠ 0 := fun h => hne (List.eq_nil_of_length_eq_zero h)
      simp only [zdm, hn, if_false, cellsAt, hg]
      rw [if_pos q1, q2]
theorem zt5 {v x : V} {xs ys : List α} {n bytes : Nat} {H : Heap} {Q : V → Heap → Prop} (hs : Flat.size α = n) (hv : zf5 H v xs) (hx : Sl H x ys) (hb : (xs.length + ys.length) * bytes ≤ 35184372088832) (hb2 : xs.length + ys.length ≤ 35184372088832)
    (hQ : ∀ w H', zf5 H' w (xs ++ ys) → Keeps (vb v) H H' → (∀ b ∈ vb w, b ∈ vb v ∨ H.next ≤ b) → Q w H') : wp (zk7 n bytes v x) Q H := by
  by_cases h0 : ys = []
  · subst h0
    have hf : ∃ a c, x = .slice a 0 c := by
      rcases hx with ⟨rfl, _⟩ | ⟨bb, o, u, c, rfl, _⟩
      · exact ⟨_, _, rfl⟩
      · exact ⟨_, _, rfl⟩
    obtain ⟨a, c, rfl⟩ := hf
    exact zyl (ys := ([] : List α)) hs hv rfl (fun h => absurd rfl h) hb hb2 hQ
  · obtain ⟨a, c, rfl, hc⟩ := zbko hs hx h0
    exact zyl hs hv rfl (fun _ => hc) hb hb2 hQ
theorem z84 {v : V} {xs ys : List α} {n m bytes : Nat} {zero : List V} {parts : List (Nat × Nat × V)} {H : Heap} {Q : V → Heap → Prop} (hs : Flat.size α = n) (hv : zf5 H v xs) (hz : zero.all zm7 = true) (hf : zgt zero parts = some (zr ys)) (hm : ys.length = m) (hb : (xs.length + m) * bytes ≤ 35184372088832) (hb2 : xs.length + m ≤ 35184372088832)
    (hQ : ∀ w H', zf5 H' w (xs ++ ys) → Keeps (vb v) H H' → (∀ b ∈ vb w, b ∈ vb v ∨ H.next ≤ b) → Q w H') : wp (zfb n m zero parts) (fun x H1 => wp (zk7 n bytes v x) Q H1) H := by
  subst hm
  refine (zbb hz hf).mpr ?_
  have hk := Keeps.push [] H (some (.cells true (zr ys)))
  refine zt5 hs (hv.keep0 hk) (zol hs rfl).sl hb hb2 fun w H' h1 h2 h3 => hQ w H' h1 ?_ fun b hb => (h3 b hb).imp id fun q => by simp at q; omega
  exact ⟨by have := h2.next; simp at this; omega, fun c hc hn => by rw [h2.same c (by simp; omega) hn, Heap.get_push_lt hc]⟩
end
theorem zbcm (l : List (BitVec 8)) : zr l = l.map B := by
  induction l with
  | nil => rfl
  | cons x l ih => rw [zok, ih]; rfl
theorem zbp1 {v : V} {xs : List (BitVec 8)} {s : ByteArray} {H : Heap} {Q : V → Heap → Prop} (hv : zf5 H v xs) (hb : xs.length + s.size ≤ 35184372088832)
    (hQ : ∀ w H', zf5 H' w (xs ++ bv s) → Keeps (vb v) H H' → (∀ b ∈ vb w, b ∈ vb v ∨ H.next ≤ b) → Q w H') : wp (appS v (.string s)) Q H := by
  refine zyl (ys := bv s) (n := 1) rfl hv (zbl s) (fun _ => ?_) (by omega) hb hQ
  rw [zbpt, zbcm]
theorem zbkp {v : V} {l : List (BitVec 8)} {H : Heap} {Q : V → Heap → Prop} (hv : zf5 H v l) (hQ : Q (.string (sv l)) H) : wp (b2s v) Q H := by
  refine zbus (l := l) ?_ hQ
  rw [← zbcm]
  rcases hv with ⟨rfl, rfl⟩ | ⟨b, rfl, hg⟩
  · exact .inl ⟨rfl, rfl⟩
  · refine .inr ⟨b, ?_, hg⟩
    have e : (zr l).length = l.length := by rw [zes]; exact Nat.mul_one _
    rw [e]; rfl
end Go.AM

/- Slices among the cells of other things. -/
namespace Go.AM
structure In (α : Type) where
  v : V
  xs : List α
  one : v.isOne = true
instance {α : Type} : Inhabited (In α) := ⟨⟨.slice none 0 0, [], rfl⟩⟩
instance {α : Type} : Flat (In α) := ⟨1, fun a => [a.v], fun _ => rfl, fun a => by simp [a.one], by decide⟩
structure Sl2 {α : Type} [Flat α] (H : Heap) (v : V) (xs : List (In α)) : Prop where
  out : Sl H v xs
  inn : ∀ x ∈ xs, Sl H x.v x.xs
theorem Sl2.keep0 {α : Type} [Flat α] {H H' : Heap} {v : V} {xs : List (In α)} (h : Sl2 H v xs) (hk : Keeps [] H H') : Sl2 H' v xs := ⟨h.out.keep0 hk, fun x hx => (h.inn x hx).keep0 hk⟩
theorem Sl2.at {α : Type} [Flat α] {H : Heap} {v : V} {xs : List (In α)} (h : Sl2 H v xs) {i : Nat} (hi : i < xs.length) : Sl H (xs.getD i default).v (xs.getD i default).xs := by
  rw [List.getD_eq_getElem?_getD, List.getElem?_eq_getElem hi]
  exact h.inn _ (List.getElem_mem hi)
theorem Sl2.get {α : Type} [Flat α] {H : Heap} {v : V} {xs : List (In α)} (h : Sl2 H v xs) {i : Nat} (hi : i < xs.length) : zbo 1 v (i64 i) = some (ptr (slB v) (slO v + i)) ∧ zst H (ptr (slB v) (slO v + i)) = some (xs.getD i default).v := by
  have h1 := h.out.addr1 rfl (k := .i64) (i := i) (by omega) (by omega)
  rw [Int.toNat_natCast] at h1
  exact ⟨h1, by rw [h.out.cell1 rfl hi default]; rfl⟩
end Go.AM

/- The rules that a walk always has, as two lemmas. -/
namespace Go.AM
theorem Z1 : type_of% (And.intro (And.intro (And.intro (And.intro (And.intro (And.intro @zbhi @zbhj) (And.intro @zc4 @zbhe)) (And.intro (And.intro @zuh @wp_ret) (And.intro @zbmu @zbmv))) (And.intro (And.intro (And.intro @zbmw @z8s) (And.intro @z8t @z8u)) (And.intro (And.intro @zbb8 @zbb9) (And.intro @zbca (And.intro @zbhu @zbhv))))) (And.intro (And.intro (And.intro (And.intro @zbce @zbcf) (And.intro @gd_t @gd_f)) (And.intro (And.intro @zbr8 @zbr9) (And.intro @zbhh @zbr6))) (And.intro (And.intro (And.intro @zbr7 @zbmy) (And.intro @zbmz @zbm0)) (And.intro (And.intro @zbm1 @zbhr) (And.intro @zbhs (And.intro @zbsa @zbsb)))))) (And.intro (And.intro (And.intro (And.intro (And.intro @zbht @z8x) (And.intro @z5h @z5i)) (And.intro (And.intro @z0o @z8w) (And.intro @z8v @Nat.zero_add))) (And.intro (And.intro (And.intro @Nat.add_zero @zbmx) (And.intro @z5g @zyi)) (And.intro (And.intro @zbcd @zbhk) (And.intro @zbhl (And.intro @zbhm @i64_in))))) (And.intro (And.intro (And.intro (And.intro @zbhw @zbhx) (And.intro @zbhn @zbho)) (And.intro (And.intro @zbhp @zbhq) (And.intro @zbhy (And.intro @zbhz @if_true.{1})))) (And.intro (And.intro (And.intro @zbhg @zbb7) (And.intro @zbhf @zbh3)) (And.intro (And.intro @zbh4 @zbch) (And.intro @zbci (And.intro @List.getElem?_cons_zero.{0} @List.getElem?_cons_succ.{0}))))))) := (And.intro (And.intro (And.intro (And.intro (And.intro (And.intro @zbhi @zbhj) (And.intro @zc4 @zbhe)) (And.intro (And.intro @zuh @wp_ret) (And.intro @zbmu @zbmv))) (And.intro (And.intro (And.intro @zbmw @z8s) (And.intro @z8t @z8u)) (And.intro (And.intro @zbb8 @zbb9) (And.intro @zbca (And.intro @zbhu @zbhv))))) (And.intro (And.intro (And.intro (And.intro @zbce @zbcf) (And.intro @gd_t @gd_f)) (And.intro (And.intro @zbr8 @zbr9) (And.intro @zbhh @zbr6))) (And.intro (And.intro (And.intro @zbr7 @zbmy) (And.intro @zbmz @zbm0)) (And.intro (And.intro @zbm1 @zbhr) (And.intro @zbhs (And.intro @zbsa @zbsb)))))) (And.intro (And.intro (And.intro (And.intro (And.intro @zbht @z8x) (And.intro @z5h @z5i)) (And.intro (And.intro @z0o @z8w) (And.intro @z8v @Nat.zero_add))) (And.intro (And.intro (And.intro @Nat.add_zero @zbmx) (And.intro @z5g @zyi)) (And.intro (And.intro @zbcd @zbhk) (And.intro @zbhl (And.intro @zbhm @i64_in))))) (And.intro (And.intro (And.intro (And.intro @zbhw @zbhx) (And.intro @zbhn @zbho)) (And.intro (And.intro @zbhp @zbhq) (And.intro @zbhy (And.intro @zbhz @if_true.{1})))) (And.intro (And.intro (And.intro @zbhg @zbb7) (And.intro @zbhf @zbh3)) (And.intro (And.intro @zbh4 @zbch) (And.intro @zbci (And.intro @List.getElem?_cons_zero.{0} @List.getElem?_cons_succ.{0})))))))
theorem Z2 : type_of% (And.intro (And.intro (And.intro (And.intro (And.intro (And.intro @zv @z6) (And.intro @zdv @zia)) (And.intro (And.intro @eq_self.{1} @true_and) (And.intro @zd7 @zdn))) (And.intro (And.intro (And.intro @zf7 @ze8) (And.intro @zcc @zd8)) (And.intro (And.intro @Heap.get_push_eq @Heap.get_push_lt) (And.intro @Heap.get_set_eq (And.intro @Heap.get_set_ne' @Heap.next_push'))))) (And.intro (And.intro (And.intro (And.intro @Heap.next_set' @Heap.set_push_lt) (And.intro @Heap.set_push_eq @Heap.set_set)) (And.intro (And.intro @zct @zcu) (And.intro @zb0 (And.intro @zcx @zcy)))) (And.intro (And.intro (And.intro @zbg @zb2) (And.intro @zcz @zco)) (And.intro (And.intro @zbz @zcp) (And.intro @zcq (And.intro @zcr @zcs)))))) (And.intro (And.intro (And.intro (And.intro (And.intro @List.set_cons_zero.{0} @List.set_cons_succ.{0}) (And.intro @List.length_cons.{0} @List.length_nil.{0})) (And.intro (And.intro @List.drop_succ_cons.{0} @List.drop_zero.{0}) (And.intro @List.take_succ_cons.{0} @List.take_zero.{0}))) (And.intro (And.intro (And.intro @List.nil_append.{0} @List.cons_append.{0}) (And.intro @zbw @zbx)) (And.intro (And.intro @zbf @zz) (And.intro @zn (And.intro @zby @zcv))))) (And.intro (And.intro (And.intro (And.intro @zb1 @zfj) (And.intro @zdw @zcw)) (And.intro (And.intro @zc0 @zbt) (And.intro @zx (And.intro @zbu @Option.map_some.{0,0})))) (And.intro (And.intro (And.intro @zc1 @zc2) (And.intro @zbi @zb3)) (And.intro (And.intro @zb4 @zb5) (And.intro @zbh (And.intro @zb6 @zb7))))))) := (And.intro (And.intro (And.intro (And.intro (And.intro (And.intro @zv @z6) (And.intro @zdv @zia)) (And.intro (And.intro @eq_self.{1} @true_and) (And.intro @zd7 @zdn))) (And.intro (And.intro (And.intro @zf7 @ze8) (And.intro @zcc @zd8)) (And.intro (And.intro @Heap.get_push_eq @Heap.get_push_lt) (And.intro @Heap.get_set_eq (And.intro @Heap.get_set_ne' @Heap.next_push'))))) (And.intro (And.intro (And.intro (And.intro @Heap.next_set' @Heap.set_push_lt) (And.intro @Heap.set_push_eq @Heap.set_set)) (And.intro (And.intro @zct @zcu) (And.intro @zb0 (And.intro @zcx @zcy)))) (And.intro (And.intro (And.intro @zbg @zb2) (And.intro @zcz @zco)) (And.intro (And.intro @zbz @zcp) (And.intro @zcq (And.intro @zcr @zcs)))))) (And.intro (And.intro (And.intro (And.intro (And.intro @List.set_cons_zero.{0} @List.set_cons_succ.{0}) (And.intro @List.length_cons.{0} @List.length_nil.{0})) (And.intro (And.intro @List.drop_succ_cons.{0} @List.drop_zero.{0}) (And.intro @List.take_succ_cons.{0} @List.take_zero.{0}))) (And.intro (And.intro (And.intro @List.nil_append.{0} @List.cons_append.{0}) (And.intro @zbw @zbx)) (And.intro (And.intro @zbf @zz) (And.intro @zn (And.intro @zby @zcv))))) (And.intro (And.intro (And.intro (And.intro @zb1 @zfj) (And.intro @zdw @zcw)) (And.intro (And.intro @zc0 @zbt) (And.intro @zx (And.intro @zbu @Option.map_some.{0,0})))) (And.intro (And.intro (And.intro @zc1 @zc2) (And.intro @zbi @zb3)) (And.intro (And.intro @zb4 @zb5) (And.intro @zbh (And.intro @zb6 @zb7)))))))
theorem Z3 : type_of% (And.intro @Heap.next_push' @Heap.next_set') := And.intro @Heap.next_push' @Heap.next_set'
end Go.AM

/- Things on the heap that lie apart from each other. -/
namespace Go.AM
structure Thing where
  fp : List Nat
  P : Heap → Prop
  loc : ∀ {H H' : Heap}, H.next ≤ H'.next → (∀ b ∈ fp, H'.get b = H.get b) → P H → P H'
  lt : ∀ {H : Heap}, P H → ∀ b ∈ fp, b < H.next
def cel (d : Nat) (cs : List V) : Thing := ⟨[d], fun H => H.get d = some (.cells true cs), fun _ h p => by rw [h d (by simp)]; exact p, fun p b hb => by simp at hb; subst hb; exact Heap.get_lt p⟩
def own {α : Type} [Flat α] (v : V) (xs : List α) : Thing :=
  ⟨vb v, fun H => zf5 H v xs, fun _ h p => by
    rcases p with p | ⟨b, rfl, hb⟩
    · exact .inl p
    · exact .inr ⟨b, rfl, by rw [h b (by simp)]; exact hb⟩, fun p => p.lt⟩
structure Hp (H0 H : Heap) (L : List Thing) : Prop where
  keeps : Keeps [] H0 H
  new : ∀ t ∈ L, ∀ b ∈ t.fp, H0.next ≤ b
  all : ∀ t ∈ L, t.P H
  apart : L.Pairwise fun t u => ∀ b ∈ t.fp, b ∉ u.fp
theorem Hp.start (H : Heap) : Hp H H [] := ⟨Keeps.refl _ _, by simp, by simp, List.Pairwise.nil⟩
variable {H0 H H' : Heap} {L : List Thing} {t t' : Thing}
theorem Hp.keep (h : Hp H0 H L) {S : List Nat} (hk : Keeps S H H') (hs : ∀ b ∈ S, H0.next ≤ b ∧ ∀ t ∈ L, b ∉ t.fp) : Hp H0 H' L :=
  ⟨h.keeps.trans hk (fun b hb hm => by have := (hs b hm).1; omega), h.new, fun t ht => t.loc hk.next (fun b hb => hk.same b (t.lt (h.all t ht) b hb) fun q => (hs b q).2 t ht hb) (h.all t ht), h.apart⟩
theorem Hp.keep0 (h : Hp H0 H L) (hk : Keeps [] H H') : Hp H0 H' L := h.keep hk (by simp)
theorem Hp.push (h : Hp H0 H L) (x : Option Blk) : Hp H0 (H.push x) L := h.keep0 (Keeps.push _ _ _)
theorem Hp.head (h : Hp H0 H (t :: L)) : t.P H := h.all t (by simp)
theorem Hp.tail (h : Hp H0 H (t :: L)) : Hp H0 H L := ⟨h.keeps, fun u hu => h.new u (by simp [hu]), fun u hu => h.all u (by simp [hu]), (List.pairwise_cons.1 h.apart).2⟩
theorem Hp.drop (h : Hp H0 H L) (n : Nat) : Hp H0 H (L.drop n) := ⟨h.keeps, fun u hu => h.new u (List.mem_of_mem_drop hu), fun u hu => h.all u (List.mem_of_mem_drop hu), h.apart.sublist (List.drop_sublist n L)⟩
theorem Hp.sub {L' : List Thing} (h : Hp H0 H L) (hs : L'.Sublist L) : Hp H0 H L' := ⟨h.keeps, fun u hu => h.new u (hs.subset hu), fun u hu => h.all u (hs.subset hu), h.apart.sublist hs⟩
theorem Hp.perm {L' : List Thing} (h : Hp H0 H L) (hp : L.Perm L') : Hp H0 H L' :=
  ⟨h.keeps, fun u hu => h.new u (hp.mem_iff.2 hu), fun u hu => h.all u (hp.mem_iff.2 hu), (hp.pairwise_iff (R := fun t u : Thing => ∀ b ∈ t.fp, b ∉ u.fp) (fun h b hb hb' => h b hb' hb)).1 h.apart⟩
theorem Hp.at (h : Hp H0 H L) {i : Nat} (hi : L[i]? = some t) : t.P H := h.all t (List.mem_of_getElem? hi)
theorem Hp.newAt (h : Hp H0 H L) {i : Nat} (hi : L[i]? = some t) : ∀ b ∈ t.fp, H0.next ≤ b := h.new t (List.mem_of_getElem? hi)
theorem zbcn {α : Type} : ∀ {L : List α} {i : Nat} {t : α}, L[i]? = some t → L.Perm (t :: L.eraseIdx i)
  | [], i, t, h => by simp at h
  | x :: l, 0, t, h => by simp at h; subst h; exact List.Perm.refl _
  | x :: l, i + 1, t, h => by
    have := zbcn (L := l) (i := i) (t := t) (by simpa using h)
    exact (List.Perm.cons x this).trans (List.Perm.swap _ _ _)
theorem zbkq {α : Type} : ∀ {L : List α} {i : Nat} {t u : α}, L[i]? = some t → (u :: L.eraseIdx i).Perm (L.set i u)
  | [], i, t, u, h => by simp at h
  | x :: l, 0, t, u, h => by simp
  | x :: l, i + 1, t, u, h => by
    have := zbkq (L := l) (i := i) (t := t) (u := u) (by simpa using h)
    exact (List.Perm.swap _ _ _).trans (List.Perm.cons x this)
theorem Hp.front (h : Hp H0 H L) {i : Nat} (hi : L[i]? = some t) : Hp H0 H (t :: L.eraseIdx i) := h.perm (zbcn hi)
theorem Hp.apart2 (h : Hp H0 H L) {i j : Nat} {u : Thing} (hi : L[i]? = some t) (hj : L[j]? = some u) (hne : i ≠ j) : ∀ b ∈ t.fp, b ∉ u.fp := by
  have hr := List.pairwise_iff_getElem.1 h.apart
  obtain ⟨a1, a2⟩ := List.getElem?_eq_some_iff.1 hi
  obtain ⟨b1, b2⟩ := List.getElem?_eq_some_iff.1 hj
  rcases Nat.lt_or_gt_of_ne hne with q | q
  · have := hr i j a1 b1 q; rw [a2, b2] at this; exact this
  · have := hr j i b1 a1 q; rw [a2, b2] at this; exact fun b hb hb' => this b hb' hb
theorem Hp.add (h : Hp H0 H L) (hk : Keeps [] H H') (ht : t.P H') (hn : ∀ b ∈ t.fp, H.next ≤ b) : Hp H0 H' (t :: L) := by
  have h1 := h.keep0 hk
  refine ⟨h1.keeps, fun u hu => ?_, fun u hu => ?_, List.pairwise_cons.2 ⟨fun u hu b hb hb' => ?_, h1.apart⟩⟩
  · rcases List.mem_cons.1 hu with rfl | hu
    · exact fun b hb => Nat.le_trans h.keeps.next (hn b hb)
    · exact h.new u hu
  · rcases List.mem_cons.1 hu with rfl | hu
    · exact ht
    · exact h1.all u hu
  · have := hn b hb
    have := u.lt (h.all u hu) b hb'
    omega
theorem Hp.newc (h : Hp H0 H L) (cs : List V) : Hp H0 (H.push (some (.cells true cs))) (cel H.next cs :: L) :=
  h.add (Keeps.push _ _ _) (Heap.get_push_self _ _) (by
    intro b hb
    have : b = H.next := by simpa [cel] using hb
    omega)
theorem Hp.newo {α : Type} [Flat α] (h : Hp H0 H L) {n m : Nat} (xs : List α) (hs : Flat.size α = n) (hm : xs.length = m) : Hp H0 (H.push (some (.cells true (zr xs)))) (own (slc H.next 0 n m m) xs :: L) :=
  h.add (Keeps.push _ _ _) (zol hs hm) (by
    intro b hb
    have : b = H.next := by simpa [own] using hb
    omega)
theorem Hp.nilo {α : Type} [Flat α] (h : Hp H0 H L) : Hp H0 H (own (.slice none 0 0) ([] : List α) :: L) :=
  h.add (Keeps.refl _ _) (zf5.nil H) (by simp [own])
theorem Hp.step1 (h : Hp H0 H (t :: L)) (hk : Keeps t.fp H H') (ht : t'.P H') (hn : ∀ b ∈ t'.fp, b ∈ t.fp ∨ H.next ≤ b) : Hp H0 H' (t' :: L) := by
  have hp := (List.pairwise_cons.1 h.apart).1
  have h1 : Hp H0 H' L := h.tail.keep hk fun b hb => ⟨h.new t (by simp) b hb, fun u hu => hp u hu b hb⟩
  refine ⟨h1.keeps, fun u hu => ?_, fun u hu => ?_, List.pairwise_cons.2 ⟨fun u hu b hb hb' => ?_, h1.apart⟩⟩
  · rcases List.mem_cons.1 hu with rfl | hu
    · intro b hb
      rcases hn b hb with q | q
      · exact h.new t (by simp) b q
      · exact Nat.le_trans h.keeps.next q
    · exact h1.new u hu
  · rcases List.mem_cons.1 hu with rfl | hu
    · exact ht
    · exact h1.all u hu
  · rcases hn b hb with q | q
    · exact hp u hu b q hb'
    · have := u.lt (h.all u (by simp [hu])) b hb'; omega
theorem Hp.step (h : Hp H0 H L) {i : Nat} (hi : L[i]? = some t) (hk : Keeps t.fp H H') (ht : t'.P H') (hn : ∀ b ∈ t'.fp, b ∈ t.fp ∨ H.next ≤ b) : Hp H0 H' (L.set i t') :=
  ((h.front hi).step1 hk ht hn).perm (zbkq hi)
theorem Hp.get {d i : Nat} {cs : List V} (h : Hp H0 H L) (hi : L[i]? = some (cel d cs)) : H.get d = some (.cells true cs) := h.at hi
theorem Hp.set {d i : Nat} {cs : List V} (h : Hp H0 H L) (hi : L[i]? = some (cel d cs)) (cs' : List V) : Hp H0 (H.set d (some (.cells true cs'))) (L.set i (cel d cs')) :=
  h.step hi (Keeps.set (by simp [cel])) (Heap.get_set_eq (Heap.get_lt (h.get hi))) (fun b hb => .inl hb)
theorem Hp.own {α : Type} [Flat α] {i : Nat} {v : V} {xs : List α} (h : Hp H0 H L) (hi : L[i]? = some (own v xs)) : zf5 H v xs := h.at hi
theorem Hp.ro {α : Type} [Flat α] {v : V} {xs : List α} (h : Hp H0 H L) (hs : Sl H0 v xs) : Sl H v xs := hs.keep0 h.keeps
theorem Hp.rotN (A B C : List Thing) (h : Hp H0 H (A ++ (B ++ (C ++ L)))) : Hp H0 H (A ++ (C ++ (B ++ L))) :=
  h.perm (List.Perm.append_left A (by rw [← List.append_assoc, ← List.append_assoc]; exact List.Perm.append_right L List.perm_append_comm))
theorem Hp.join {B : List Thing} (h : Hp H0 H L) (h2 : Hp H H' B) : Hp H0 H' (B ++ L) := by
  have := (h.keep0 h2.keeps)
  refine ⟨this.keeps, fun u hu => ?_, fun u hu => ?_, List.pairwise_append.2 ⟨h2.apart, h.apart, fun t ht u hu b hb hb' => ?_⟩⟩
  · rcases List.mem_append.1 hu with hu | hu
    · exact fun b hb => Nat.le_trans h.keeps.next (h2.new u hu b hb)
    · exact h.new u hu
  · rcases List.mem_append.1 hu with hu | hu
    · exact h2.all u hu
    · exact this.all u hu
  · have := h2.new t ht b hb
    have := u.lt (h.all u hu) b hb'
    omega
theorem zg0 {α : Type} [Flat α] {v x : V} {xs ys : List α} {n bytes i : Nat} {Q : V → Heap → Prop} (h : Hp H0 H L) (hi : L[i]? = some (Go.AM.own v xs)) (hs : Flat.size α = n) (hx : Sl H x ys) (hb : (xs.length + ys.length) * bytes ≤ 35184372088832) (hb2 : xs.length + ys.length ≤ 35184372088832)
    (hQ : ∀ w H', Hp H0 H' (L.set i (Go.AM.own w (xs ++ ys))) → Q w H') : wp (zk7 n bytes v x) Q H :=
  zt5 hs (h.own hi) hx hb hb2 fun w H' o k vv => hQ w H' (h.step hi k o vv)
theorem zf5.at {α : Type} [Flat α] {H : Heap} {v : V} {xs : List α} (h : zf5 H v xs) (hne : xs ≠ []) : slO v = 0 ∧ H.get (slB v) = some (.cells true (zr xs)) ∧ v = slc (slB v) 0 (Flat.size α) xs.length xs.length := by
  rcases h with ⟨_, q⟩ | ⟨b, rfl, hb⟩
  · exact absurd q hne
  · exact ⟨rfl, hb, rfl⟩
theorem zf5.to {α : Type} [Flat α] {H H' : Heap} {v : V} {xs ys : List α} (h : zf5 H v xs) (hne : xs ≠ []) (hl : ys.length = xs.length) (hg : H'.get (slB v) = some (.cells true (zr ys))) : zf5 H' v ys := by
  rcases h with ⟨_, q⟩ | ⟨b, rfl, hb⟩
  · exact absurd q hne
  · exact .inr ⟨b, by rw [hl], hg⟩
end Go.AM

/- Maps that are walked in an order that nobody knows: what is needed of heaps, worlds and lists. -/
namespace Go.AM
open Go.RowKit (Below)
open Go.ChangeMaps (setBlock)
variable {P : Program} {N : Nat} {w₀ : World} {ρ : Ren} {H : Heap} {w : World} {σ : zl} {n : Nat}
def Heap.cut (n : Nat) (H : Heap) : Heap := ⟨(List.range H.next).map fun b => if b < n then H.get b else none⟩
theorem Heap.cut_next (n : Nat) (H : Heap) : (H.cut n).next = H.next := by simp [Heap.cut, Heap.next]
theorem Heap.cut_get (n : Nat) (H : Heap) (b : Nat) : (H.cut n).get b = if b < n then H.get b else none := by
  have key : ∀ x : Option Blk, (match (some x : Option (Option Blk)) with | some (some x) => some x | _ => none) = x := fun x => by cases x <;> rfl
  by_cases h : b < H.next
  · have e : (H.cut n).blk[b]? = some (if b < n then H.get b else none) := by simp [Heap.cut, h]
    show (match (H.cut n).blk[b]? with | some (some x) => some x | _ => none) = _
    rw [e]
    exact key _
  · have e : (H.cut n).blk[b]? = none := List.getElem?_eq_none (by simp [Heap.cut]; omega)
    have e2 : H.get b = none := by
      show (match H.blk[b]? with | some (some x) => some x | _ => none) = none
      rw [List.getElem?_eq_none (by simpa [Heap.next] using h)]
    show (match (H.cut n).blk[b]? with | some (some x) => some x | _ => none) = _
    rw [e, e2]; simp
theorem Heap.cut_some {n : Nat} {H : Heap} {b : Nat} {x : Blk} (h : (H.cut n).get b = some x) : H.get b = some x ∧ b < n := by
  rw [Heap.cut_get] at h
  split at h
  · exact ⟨h, by assumption⟩
  · cases h
theorem Rel.cut (h : Rel N w₀ ρ H w) (n : Nat) : Rel N w₀ ρ (H.cut n) w :=
  ⟨h.below, h.big, fun b hb => h.dom b (by rwa [Heap.cut_next] at hb), h.base, fun b x hx => h.blk b x (Heap.cut_some hx).1, fun b b' x x' L L' hx hx' => h.inj b b' x x' L L' (Heap.cut_some hx).1 (Heap.cut_some hx').1⟩
theorem Ext.cut {ρ' : Ren} {H' : Heap} {w' : World} (h : Ext ρ H w ρ' H' w') (n : Nat) : Ext ρ H w ρ' (H'.cut n) w' :=
  ⟨h.le, h.same, by rw [Heap.cut_next]; exact h.next, h.apart, fun b x L hb => h.old b x L (Heap.cut_some hb).1⟩
theorem Rel.other (h : Rel N w₀ ρ H w) {c : Nat} (hc : N ≤ c) (hfree : ∀ b x M, H.get b = some x → ρ b = some M → M.blk ≠ c) (w' : World) (hos : w'.os = w.os) (htape : w'.tape = w.tape) (hout : w'.output = w.output)
    (hsz : w'.heap.size = w.heap.size) (hold : ∀ k, k ≠ c → w'.heap[k]? = w.heap[k]?) : Rel N w₀ ρ H w' :=
  ⟨h.below.trans ⟨hos, htape, hout, by omega, fun k hk => hold k (by omega)⟩, by rw [hsz]; exact h.big, h.dom, h.base, fun b x hx => by
    obtain ⟨L, hL, hr⟩ := h.blk b x hx
    exact ⟨L, hL, hr.mono (Ren.le.refl _) (hold _ (hfree b x L hx hL))⟩, h.inj⟩
theorem zbkr {b k : Nat} {o : Obj} (hk : k ≠ b) : (setBlock w b o).heap[k]? = w.heap[k]? := by
  show (w.heap.setIfInBounds b o)[k]? = _
  exact Array.getElem?_setIfInBounds_ne (fun e => hk e.symm)
theorem zbeu {b : Nat} {o : Obj} : (setBlock w b o).heap.size = w.heap.size := by simp [setBlock]
theorem Rel.setBlock (h : Rel N w₀ ρ H w) {c : Nat} (hc : N ≤ c) (hfree : ∀ b x M, H.get b = some x → ρ b = some M → M.blk ≠ c) (o : Obj) : Rel N w₀ ρ H (setBlock w c o) :=
  h.other hc hfree _ rfl rfl rfl zbeu fun _ hk => zbkr hk
theorem Ext.drew {ρ' : Ren} {H' : Heap} {w' : World} (h : Ext ρ H w ρ' H' w') (k : Nat) : Ext ρ H w ρ' H' { w' with drawn := k } := ⟨h.le, h.same, h.next, h.apart, h.old⟩
end Go.AM

/- From runs on the abstract machine to calls in the model: what was there before stays as it was. -/
namespace Go.AM
open Go.RowKit (Below)
open Go.ChangeShapes
def zbsh (t : Nat) (x : V) : V := match x with
  | .agg cs => match cs.toList with
    | [.pointer (some ⟨g, o, none⟩)] => if g < 1048576 ∧ o < 1048576 then .chan (some (t * 1099511627776 + g * 1048576 + o)) else undef
    | _ => undef
  | _ => undef
theorem zbp2 (ρ : Ren) (t : Nat) (x : V) : VRel ρ (zbsh t x) (.iface t x) := by
  unfold zbsh
  split
  · rename_i cs
    split
    · rename_i g o hcs
      split
      · rename_i h
        have e : tokV (t * 1099511627776 + g * 1048576 + o) = .iface t (.agg cs) := by
          unfold tokV
          have e1 : (t * 1099511627776 + g * 1048576 + o) / 1099511627776 = t := by omega
          have e2 : (t * 1099511627776 + g * 1048576 + o) / 1048576 % 1048576 = g := by omega
          have e3 : (t * 1099511627776 + g * 1048576 + o) % 1048576 = o := by omega
          rw [e1, e2, e3]
          congr 2
          apply Array.ext'
          rw [hcs]
        rw [← e]; exact .tok _
      · exact .undef _
    · exact .undef _
  · exact .undef _
def zbks (N : Nat) (v : V) : V := match v with
  | .bool b => .bool b
  | .int k n => .int k n
  | .string s => .string s
  | .pointer none => .pointer none
  | .pointer (some ⟨b, o, none⟩) => if b < N then .pointer (some ⟨b, o, none⟩) else undef
  | .slice none 0 0 => .slice none 0 0
  | .slice (some a) len cap => if a.spot = none ∧ a.block < N ∧ len ≤ cap then slc a.block a.off 0 len cap else if len = 0 ∧ cap = 0 ∧ 0 < N then slc 0 0 0 0 0 else undef
  | .map none => .map none
  | .map (some b) => if b < N then .map (some b) else undef
  | .nilFunc => .nilFunc
  | .nilIface => .nilIface
  | .iface t x => zbsh t x
  | _ => undef
def absV (N : Nat) (v : V) : V := match v with
  | .agg cs => .agg (cs.map (zbks N))
  | v => zbks N v
def absB (N : Nat) : Option Obj → Option Blk
  | some (.cells C _ _) => some (.cells false (C.toList.map (absV N)))
  | some (.map E _) => some (.map false (E.toList.map fun e => (absV N e.key, absV N e.val)))
  | _ => none
def zze (w : World) : Heap := ⟨(List.range w.heap.size).map fun b => absB w.heap.size w.heap[b]?⟩
def zbkt : Option Obj → Nat
  | some (.cells C _ _) => C.size
  | _ => 0
def ren0 (w : World) : Ren := fun b => if b < w.heap.size then some ⟨b, 0, zbkt w.heap[b]?⟩ else none
theorem zbcq (w : World) : (zze w).next = w.heap.size := by simp [zze, Heap.next]
theorem zw8 (w : World) (b : Nat) : (zze w).get b = absB w.heap.size w.heap[b]? := by
  simp only [zze, Heap.get]
  by_cases h : b < w.heap.size
  · simp only [List.getElem?_map, List.getElem?_range h, Option.map_some]
    cases absB w.heap.size w.heap[b]? <;> rfl
  · rw [List.getElem?_eq_none (by simpa using h)]
    rw [Array.getElem?_eq_none (by omega)]
    rfl
theorem zbgi (w : World) (v : V) : VRel (ren0 w) (zbks w.heap.size v) v := by
  have hr : ∀ b, b < w.heap.size → ren0 w b = some ⟨b, 0, zbkt w.heap[b]?⟩ := fun b h => by simp only [ren0, h, if_true]
  unfold zbks
  split
  · exact .bool _
  · exact .int _ _
  · exact .string _
  · exact .pnil
  · split
    · rename_i b o h
      have := VRel.ptr (ρ := ren0 w) b o _ (hr b h)
      simpa using this
    · exact .undef _
  · exact .snil
  · split
    · rename_i a len cap h
      obtain ⟨b, o, sp⟩ := a
      obtain ⟨rfl, h1, h2⟩ := h
      exact .slc b o 0 len cap _ o cap _ (hr b h1) (.inl (by simp)) h2 (Nat.le_refl _) (.inl rfl) (.inl (by simp))
    · split
      · rename_i a len cap _ h
        obtain ⟨rfl, rfl, h0⟩ := h
        exact .slc 0 0 0 0 0 _ 0 0 a (hr 0 h0) (.inr rfl) (Nat.le_refl _) (Nat.le_refl _) (.inl rfl) (.inr rfl)
      · exact .undef _
  · exact .mnil
  · split
    · rename_i b h
      exact .map b _ (hr b h)
    · exact .undef _
  · exact .nilFunc
  · exact .nilIface
  · exact zbp2 _ _ _
  · exact .undef _
theorem z6o (w : World) (v : V) : VRel (ren0 w) (absV w.heap.size v) v := by
  unfold absV
  split
  · exact .agg _ _ (by simp) fun i h h' => by simpa using zbgi w _
  · exact zbgi w _
theorem z0p {ρ : Ren} {f : V → V} (h : ∀ v, VRel ρ (f v) v) : ∀ l : List V, LRel ρ (l.map f) l
  | [] => .nil
  | v :: l => .cons (h v) (z0p h l)
theorem rel0 (w : World) : Rel w.heap.size w (ren0 w) (zze w) w := by
  refine ⟨Below.refl _ _, Nat.le_refl _, fun b hb => ?_, fun b hb => ⟨zbkt w.heap[b]?, by simp only [ren0, hb, if_true]⟩, fun b x hx => ?_, fun b b' x x' L L' hx hx' hne hL hL' => ?_⟩
  · rw [zbcq] at hb
    simp only [ren0]; rw [if_neg (by omega)]
  · have hlt := Heap.get_lt hx
    rw [zbcq] at hlt
    rw [zw8] at hx
    refine ⟨⟨b, 0, zbkt w.heap[b]?⟩, by simp only [ren0, hlt, if_true], ?_⟩
    unfold absB at hx
    split at hx
    · rename_i C e f hC
      cases hx
      refine ⟨C, e, f, hC, by simp [hC, zbkt], ⟨fun h => absurd h (by decide), fun _ => by simp⟩, by simp, ?_⟩
      simp only [List.drop_zero, List.length_map]
      rw [List.take_of_length_le (by simp)]
      exact z0p (z6o w) _
    · rename_i E clk hE
      cases hx
      refine ⟨rfl, E, clk, hE, fun h => absurd h (by decide), ?_, ?_⟩
      · have := z0p (z6o w) (E.toList.map (·.key))
        simpa [List.map_map, Function.comp_def] using this
      · have := z0p (z6o w) (E.toList.map (·.val))
        simpa [List.map_map, Function.comp_def] using this
    · cases hx
  · simp only [ren0] at hL hL'
    split at hL
    · split at hL'
      · cases hL; cases hL'; exact hne
      · cases hL'
    · cases hL
theorem calls_of_wp' {P : Program} {f : FuncId} {F : List V → M V} (hk : zk P f F) {W : World} (hG : P.globals.size ≤ W.heap.size) {args : Array V} {b : Bool}
    (h : wp (F (args.toList.map (absV W.heap.size))) (fun r _ => r = .bool b) (zze W)) : Calls P f args W fun e W' => e = .returned (.bool b) ∧ Below W.heap.size W W' := by
  obtain ⟨r, H', h1, rfl⟩ := h
  have := hk.2 W.heap.size W (ren0 W) (zze W) W (args.toList.map (absV W.heap.size)) args.toList (.bool b) H' hG (rel0 W) (z0p (z6o W) _) h1
  have e : args.toList.toArray = args := by simp
  rw [e] at this
  refine this.mono fun e W' ⟨r', he, ρ', hv, hr, _⟩ => ?_
  subst he
  cases hv
  exact ⟨rfl, hr.below⟩
theorem zbku {H : Type} {enc : TypeId × Value → H} {P : Program} (hl : laidOutB P = true) {W W' : World} (hb : Below W.heap.size W W') {sp : Nat → Bool} : ∀ {ts : List TypeId} {vs : List Value} {ds : List (DataW H)} {ps : List MemPlace},
    (∀ t ∈ ts, P.readableRec t = true ∧ t < P.types.size) → DataW.TrodAll enc P W 0 (fun _ => true) true ts vs ds ps → (∀ p ∈ ps, p.block < W.heap.size) → (∀ p ∈ ps, sp p.block = true) → DataW.TrodAll enc P W' 0 sp true ts vs ds ps
  | [], vs, ds, ps, _, h, _, _ => by
    obtain ⟨rfl, rfl, rfl⟩ := trodAll_nil h
    exact trodAll_mk0
  | t :: ts, vs, ds, ps, ht, h, hlt, hsp => by
    obtain ⟨v0, vs0, d0, ds0, p0, q0, rfl, rfl, rfl, h0, r0⟩ := trodAll_cons h
    have h1 := ht t (by simp)
    refine trodAll_cons_mk (WideElems.Trod_stays hl h1.1 h1.2 h0 (fun p hp => hb.same (hlt p (by simp [hp]))) fun p hp => hsp p (by simp [hp])) ?_
    exact zbku hl hb (fun t h => ht t (by simp [h])) r0 (fun p hp => hlt p (by simp [hp])) (fun p hp => hsp p (by simp [hp]))
theorem post_of_below {H : Type} {enc : TypeId × Value → H} {P : Program} {f : Func} {s : ChangeSpec} {apart fresh handsOn again : Bool} {W W' : World} {args : Array Value} {v : Value} {ds : List (DataW H)} {gs : List (DataW H)} {before : List MemPlace} (hl : laidOutB P = true)
    (hts : ∀ t ∈ f.params.toList, P.readableRec t = true ∧ t < P.types.size) (hvars : s.vars = [])
    (hW : DataW.Whole enc P f.params.toList s.vars apart W args.toList ds gs before) (hb : Below W.heap.size W W')
    (hres : ∀ (b : Nat) (sp : Nat → Bool) (hd : Bool), DataW.TrodAll enc P W' b sp hd f.resultTypes.toList (v.resultList f.resultTypes.size) (s.fn H (ds ++ gs)).results [])
    (hargs : (s.fn H (ds ++ gs)).args = ds) (hv2 : (s.fn H (ds ++ gs)).vars = [])
    (hok : ∀ (j : Nat) (t : TypeId) (r : Value), f.resultTypes[j]? = some t → (v.resultList f.resultTypes.size)[j]? = some r → Value.okWide P W' .any 0 t r) :
    s.post enc P f apart fresh handsOn again W args v W' := by
  have hlt : ∀ p ∈ before, p.block < W.heap.size := fun p hp => hW.lt p hp
  have hold : ∀ p ∈ before, (fun b => decide (b < W.heap.size)) p.block = true := fun p hp => by simpa using hlt p hp
  have hW' := hW
  obtain ⟨pa, pv, hA, hV, hps, hz, hn⟩ := hW'
  rw [hvars] at hV
  obtain ⟨hgs, hpv⟩ := trodVars_none hV
  subst hpv
  have hpa : before = pa := by rw [hps, List.append_nil]
  have hargs' : ∀ sp : Nat → Bool, (∀ p ∈ before, sp p.block = true) → DataW.TrodAll enc P W' 0 sp true f.params.toList args.toList (s.fn H (ds ++ gs)).args pa := fun sp hsp => by
    rw [hargs]
    exact zbku hl hb hts hA (fun p hp => hlt p (by rw [hpa]; exact hp)) (fun p hp => hsp p (by rw [hpa]; exact hp))
  have hvars' : ∀ sp : Nat → Bool, DataW.TrodVars enc P W' sp s.vars (s.fn H (ds ++ gs)).vars [] := fun sp => by
    rw [hvars, hv2]; rfl
  refine ⟨ds, gs, before, [], pa, [], hW, hres _ _ _, hargs' _ hold, hvars' _, World.keptBut_mono (fun p hp => ⟨hp, ?_⟩) (hb.frame (· ∈ before)), fun _ => ?_⟩
  · rw [hps, List.mem_append] at hp
    exact Or.inr hp
  · refine ⟨hok, _, _, ([] ++ pa) ++ [], ⟨[] ++ pa, [], trodAll_append (hargs' _ (fun _ _ => rfl)) (hres _ _ _), hvars' _, rfl, ?_, ?_⟩, ?_⟩
    · intro b off hp
      have hm : MemPlace.cell b off ∈ before := by rw [hps]; simpa using hp
      rw [hb.frozen (p := ⟨b, off, none⟩) (hlt _ hm)]
      exact hz b off hm
    · intro ha
      have := hn ha
      rw [hps] at this
      simpa using this
    · intro p hp _
      rw [hps]
      simpa using hp
theorem zbp3 {P : Program} {W : World} {name : String} {k : IntKind} {zs : List Int} {g : Nat} (h : Lib.TabIs P W name k zs) (hg : P.globalNamed name = some g) : g < W.heap.size ∧ (zze W).get g = some (.cells false (zs.map fun z => Value.int k z)) := by
  unfold Lib.TabIs World.var? at h
  rw [hg] at h
  simp only [Option.bind_eq_bind, Option.bind_some] at h
  split at h
  · rename_i C e f hC
    cases h
    have hlt : g < W.heap.size := by
      rcases Nat.lt_or_ge g W.heap.size with q | q
      · exact q
      · rw [Array.getElem?_eq_none q] at hC; cases hC
    refine ⟨hlt, ?_⟩
    rw [zw8, hC]
    simp [absB, absV, zbks, Function.comp_def]
  · cases h
end Go.AM

/- Slices among the arguments: what they read as, and how they lie on the abstract machine. -/
namespace Go.AM
open Go.RowKit (Below)
open Go.ChangeShapes Go.WideShapes
variable {H : Type} {enc : TypeId × Value → H} {P : Program} {W : World}
instance : Inhabited ByteArray := ⟨⟨#[]⟩⟩
end Go.AM

/- Structs of whole numbers among the arguments' elements. -/
namespace Go.AM
open Go.ChangeShapes Go.WideShapes
variable {H : Type} {enc : TypeId × Value → H} {P : Program} {W : World}
end Go.AM

/- Structs whose fields are of one cell each, among the arguments and their elements. -/
namespace Go.AM
open Go.ChangeShapes Go.WideShapes
variable {H : Type} {enc : TypeId × Value → H} {P : Program} {W : World}
end Go.AM
