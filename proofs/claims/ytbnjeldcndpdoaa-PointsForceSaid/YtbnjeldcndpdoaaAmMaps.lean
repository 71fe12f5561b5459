import Derived.Test.YtbnjeldcndpdoaaAmSeg
set_option linter.all false
/- Maps that are held: their entries as lists of keys and values. -/
namespace Go.AM

class KeyE (κ : Type) [DecidableEq κ] where
  kk : KK
  enc : κ → V
  eq : ∀ a b, keyEq kk (enc a) (enc b) = some (decide (a = b))
  fits : ∀ a, keyFits kk (enc a) = true
  solid : ∀ a, (enc a).isSolid = true
class ValE (ω : Type) where
  enc : ω → V
  solid : ∀ a, (enc a).isSolid = true
theorem beq_dec (a b : Int) : (a == b) = decide (a = b) := by by_cases h : a = b <;> simp [h]
instance : KeyE Int := ⟨.one .i, i64, fun a b => by simp only [keyEq, eqK, if_true, beq_dec], fun _ => rfl, fun _ => rfl⟩
instance : ValE Int := ⟨i64, fun _ => rfl⟩
instance : ValE Bool := ⟨.bool, fun _ => rfl⟩
/-- two numbers -/
abbrev pr (a b : Int) : V := .agg [i64 a, i64 b].toArray
instance : KeyE (Int × Int) := ⟨.agg [.i, .i], fun a => pr a.1 a.2, fun a b => by
  simp only [keyEq, eqAgg, eqKs, eqK, if_true, beq_dec]
  by_cases h : a.1 = b.1
  · by_cases h2 : a.2 = b.2
    · rw [decide_eq_true h, decide_eq_true h2, decide_eq_true (show a = b from Prod.ext h h2)]
    · rw [decide_eq_true h, decide_eq_false h2, decide_eq_false (show ¬ a = b from fun e => h2 (by rw [e]))]
  · rw [decide_eq_false h, decide_eq_false (show ¬ a = b from fun e => h (by rw [e]))], fun _ => rfl, fun _ => rfl⟩
theorem kp (a : Int × Int) : KeyE.enc a = pr a.1 a.2 := rfl
section
variable {κ ω : Type} [DecidableEq κ] [KeyE κ] [ValE ω]
def encE (e : κ × ω) : V × V := (KeyE.enc e.1, ValE.enc e.2)
def aidx (k : κ) : List (κ × ω) → Option Nat
  | [] => none
  | e :: es => if k = e.1 then some 0 else (aidx k es).map (· + 1)
def aget (es : List (κ × ω)) (k : κ) : Option ω := match es with
  | [] => none
  | e :: es => if k = e.1 then some e.2 else aget es k
def aset (es : List (κ × ω)) (k : κ) (v : ω) : List (κ × ω) := match es with
  | [] => [(k, v)]
  | e :: es => if k = e.1 then (k, v) :: es else e :: aset es k v
def adel (es : List (κ × ω)) (k : κ) : List (κ × ω) := match es with
  | [] => []
  | e :: es => if k = e.1 then es else e :: adel es k

theorem findK_enc (k : κ) : ∀ es : List (κ × ω), findK (KeyE.kk κ) (KeyE.enc k) (es.map encE) = some (aidx k es)
  | [] => rfl
  | e :: es => by
    have ih := findK_enc k es
    simp only [List.map_cons, findK, aidx]
    rw [show keyEq (KeyE.kk κ) (KeyE.enc k) (encE e).1 = some (decide (k = e.1)) from KeyE.eq k e.1]
    by_cases h : k = e.1
    · simp [h]
    · rw [decide_eq_false h, if_neg h, ih]
      cases aidx k es <;> rfl
theorem aidx_none {k : κ} : ∀ {es : List (κ × ω)}, aidx k es = none → aget es k = none ∧ (∀ v, aset es k v = es ++ [(k, v)]) ∧ adel es k = es
  | [], _ => ⟨rfl, fun _ => rfl, rfl⟩
  | e :: es, h => by
    simp only [aidx] at h
    split at h
    · cases h
    · rename_i hk
      have h' : aidx k es = none := by cases hq : aidx k es <;> simp_all
      obtain ⟨a, b, c⟩ := aidx_none h'
      simp [aget, aset, adel, hk, a, b, c]
theorem aidx_some {k : κ} : ∀ {es : List (κ × ω)} {i : Nat}, aidx k es = some i → i < es.length ∧ (∃ v, es[i]? = some (k, v) ∧ aget es k = some v) ∧ (∀ v, aset es k v = es.set i (k, v)) ∧ adel es k = es.eraseIdx i
  | e :: es, i, h => by
    simp only [aidx] at h
    split at h
    · rename_i hk
      cases h; subst hk
      exact ⟨by simp, ⟨e.2, by simp, by simp [aget]⟩, fun v => by simp [aset], by simp [adel]⟩
    · rename_i hk
      cases hq : aidx k es with
      | none => rw [hq] at h; cases h
      | some j =>
        rw [hq] at h; cases h
        obtain ⟨a, ⟨v, b1, b2⟩, c, d⟩ := aidx_some hq
        exact ⟨by simpa using a, ⟨v, by simpa using b1, by simp [aget, hk, b2]⟩, fun v => by simp [aset, hk, c], by simp [adel, hk, d]⟩
theorem aget_aset (k k' : κ) (v : ω) : ∀ es : List (κ × ω), aget (aset es k v) k' = if k' = k then some v else aget es k'
  | [] => by simp [aset, aget]
  | e :: es => by
    simp only [aset]
    split
    · rename_i h; subst h
      simp only [aget]
      split <;> rfl
    · rename_i h
      simp only [aget, aget_aset k k' v es]
      by_cases h2 : k' = e.1
      · subst h2; rw [if_pos rfl, if_pos rfl, if_neg (fun q => h q.symm)]
      · rw [if_neg h2, if_neg h2]
theorem aget_none {k : κ} : ∀ {es : List (κ × ω)}, (∀ e ∈ es, e.1 ≠ k) → aget es k = none
  | [], _ => rfl
  | e :: es, h => by
    simp only [aget]
    rw [if_neg (fun q => h e (by simp) q.symm)]
    exact aget_none fun e he => h e (by simp [he])
theorem aget_mem {k : κ} {v : ω} : ∀ {es : List (κ × ω)}, aget es k = some v → (k, v) ∈ es
  | e :: es, h => by
    simp only [aget] at h
    split at h
    · rename_i q; cases h; subst q; simp
    · exact List.mem_cons_of_mem _ (aget_mem h)
theorem aset_keys (k : κ) (v : ω) : ∀ {es : List (κ × ω)}, (es.map (·.1)).Nodup → ((aset es k v).map (·.1)).Nodup
  | [], _ => by simp [aset]
  | e :: es, h => by
    rw [List.map_cons, List.nodup_cons] at h
    simp only [aset]
    split
    · rename_i q; subst q; rw [List.map_cons, List.nodup_cons]; exact h
    · rename_i q
      rw [List.map_cons, List.nodup_cons]
      refine ⟨fun hm => ?_, aset_keys k v h.2⟩
      obtain ⟨x, hx, hxe⟩ := List.mem_map.1 hm
      have key : ∀ (l : List (κ × ω)), x ∈ aset l k v → x.1 = k ∨ x ∈ l := by
        intro l
        induction l with
        | nil => intro h; simp [aset] at h; left; rw [h]
        | cons y l ih =>
          intro h
          simp only [aset] at h
          split at h
          · rcases List.mem_cons.1 h with q | q
            · left; rw [q]
            · right; simp [q]
          · rcases List.mem_cons.1 h with q | q
            · right; simp [q]
            · rcases ih q with r | r
              · exact .inl r
              · right; simp [r]
      rcases key es hx with r | r
      · exact q (r.symm.trans hxe)
      · exact h.1 (by rw [← hxe]; exact List.mem_map.2 ⟨x, r, rfl⟩)
theorem mem_aset {k : κ} {v : ω} {x : κ × ω} : ∀ {l : List (κ × ω)}, x ∈ aset l k v → x = (k, v) ∨ x ∈ l
  | [], h => by simp [aset] at h; exact .inl h
  | y :: l, h => by
    simp only [aset] at h
    split at h
    · rcases List.mem_cons.1 h with q | q
      · exact .inl q
      · right; simp [q]
    · rcases List.mem_cons.1 h with q | q
      · right; simp [q]
      · rcases mem_aset q with r | r
        · exact .inl r
        · right; simp [r]
theorem adel_sub (k : κ) : ∀ es : List (κ × ω), List.Sublist (adel es k) es
  | [] => List.Sublist.refl _
  | e :: es => by
    simp only [adel]
    split
    · exact List.sublist_cons_self _ _
    · exact (adel_sub k es).cons_cons _
theorem adel_keys (k : κ) {es : List (κ × ω)} (h : (es.map (·.1)).Nodup) : ((adel es k).map (·.1)).Nodup := h.sublist ((adel_sub k es).map _)
theorem aget_filter (p : κ → Bool) (k : κ) : ∀ es : List (κ × ω), aget (es.filter fun e => p e.1) k = if p k then aget es k else none
  | [] => by simp [aget]
  | e :: es => by
    have ih := aget_filter p k es
    rw [List.filter_cons]
    by_cases h : k = e.1
    · subst h
      by_cases hp : p e.1 = true
      · simp [aget, hp]
      · rw [if_neg hp, ih]; simp [hp]
    · split
      · simp only [aget]; rw [if_neg h, ih]; simp [h]
      · rw [ih]; simp only [aget]; rw [if_neg h]

/-- a map that one owns -/
def MapR (H : Heap) (m : Nat) (es : List (κ × ω)) : Prop := H.get m = some (.map true (es.map encE))
theorem map_eraseIdx' {α β : Type} (f : α → β) : ∀ (l : List α) (i : Nat), (l.eraseIdx i).map f = (l.map f).eraseIdx i
  | [], i => by simp
  | x :: l, 0 => by simp
  | x :: l, i + 1 => by simp [map_eraseIdx' f l i]
/-- what is found in a block -/
def lookG (x : Option Blk) (kk : KK) (zero : V) (ok : Bool) (k : V) : Option V := match x with
  | some (.map _ es) => if (keyFits kk k && flatV zero) = true then (match findK kk k es with
    | some (some i) => match es[i]? with | some e => some (if ok then .tuple #[e.2, .bool true] else e.2) | none => none
    | some none => some (if ok then .tuple #[zero, .bool false] else zero)
    | none => none) else none
  | _ => none
@[congr] theorem lookG_congr {x x' : Option Blk} {kk : KK} {zero : V} {ok : Bool} {k : V} (h : x = x') : lookG x kk zero ok k = lookG x' kk zero ok k := by rw [h]
theorem wp_lookupg (H : Heap) (m : Nat) (kk : KK) (zero : V) (ok : Bool) (k : V) {Q : V → Heap → Prop} : wp (lookup kk zero ok (.map (some m)) k) Q H ↔ wpO (lookG (H.get m) kk zero ok k) fun v => Q v H := by
  have e : lookup kk zero ok (.map (some m)) k H = (lookG (H.get m) kk zero ok k).map fun v => (v, H) := by
    simp only [lookup, lookG, entries]
    generalize H.get m = x
    by_cases hc : (keyFits kk k && flatV zero) = true
    · rw [if_pos hc]
      cases x with
      | none => rfl
      | some x =>
        cases x with
        | map rw es =>
          simp only
          rw [if_pos hc]
          cases findK kk k es with
          | none => rfl
          | some o => cases o with
            | none => rfl
            | some i => simp only; cases es[i]? <;> rfl
        | cells rw cs => rfl
        | siter s p => rfl
    · rw [if_neg hc]
      cases x with
      | none => rfl
      | some x =>
        cases x with
        | map rw es => simp only; rw [if_neg hc]; rfl
        | cells rw cs => rfl
        | siter s p => rfl
  unfold wp wpO
  rw [e]
  cases lookG (H.get m) kk zero ok k with
  | none => simp
  | some v =>
    constructor
    · rintro ⟨a, H', h1, h2⟩; cases h1; exact ⟨_, rfl, h2⟩
    · rintro ⟨a, h1, h2⟩; cases h1; exact ⟨_, _, rfl, h2⟩
theorem lookG_enc (rw_ : Bool) (es : List (κ × ω)) (zero : V) (hz : flatV zero = true) (k : κ) : lookG (some (.map rw_ (es.map encE))) (KeyE.kk κ) zero false (KeyE.enc k) = some ((aget es k).elim zero ValE.enc) := by
  have hc : (keyFits (KeyE.kk κ) (KeyE.enc k) && flatV zero) = true := by rw [KeyE.fits, hz]; rfl
  simp only [lookG, hc, if_true, findK_enc]
  cases ha : aidx k es with
  | none => simp [(aidx_none ha).1]
  | some i =>
    obtain ⟨h1, ⟨v, h2, h3⟩, _⟩ := aidx_some ha
    simp [h2, h3, encE]
theorem lookG_enc2 (rw_ : Bool) (es : List (κ × ω)) (zero : V) (hz : flatV zero = true) (k : κ) : lookG (some (.map rw_ (es.map encE))) (KeyE.kk κ) zero true (KeyE.enc k) = some (.tuple #[(aget es k).elim zero ValE.enc, .bool (aget es k).isSome]) := by
  have hc : (keyFits (KeyE.kk κ) (KeyE.enc k) && flatV zero) = true := by rw [KeyE.fits, hz]; rfl
  simp only [lookG, hc, if_true, findK_enc]
  cases ha : aidx k es with
  | none => simp [(aidx_none ha).1]
  | some i =>
    obtain ⟨h1, ⟨v, h2, h3⟩, _⟩ := aidx_some ha
    simp [h2, h3, encE]
/-- what is laid into a block -/
def setG (x : Option Blk) (kk : KK) (k v : V) (K : Option Blk → Prop) : Prop := match x with
  | some (.map true es) => (keyFits kk k && k.isSolid && v.isSolid) = true ∧ match findK kk k es with
    | some (some i) => K (some (.map true (es.set i (k, v))))
    | some none => K (some (.map true (es ++ [(k, v)])))
    | none => False
  | _ => False
@[congr] theorem setG_congr {x x' : Option Blk} {kk : KK} {k v : V} {K : Option Blk → Prop} (h : x = x') : setG x kk k v K = setG x' kk k v K := by rw [h]
theorem wp_mapSetg (H : Heap) (m : Nat) (kk : KK) (k v : V) {Q : V → Heap → Prop} : wp (mapSet kk (.map (some m)) k v) Q H ↔ setG (H.get m) kk k v fun y => Q undef (H.set m y) := by
  unfold wp setG mapSet
  cases hc : (keyFits kk k && k.isSolid && v.isSolid) with
  | false => simp; split <;> simp_all
  | true =>
    simp only [if_true]
    cases hg : H.get m with
    | none => simp
    | some x =>
      cases x with
      | map rw es =>
        cases rw with
        | false => simp
        | true =>
          simp only [true_and]
          cases findK kk k es with
          | none => simp
          | some o => cases o with
            | none => constructor
                      · rintro ⟨a, H', h1, h2⟩; cases h1; exact h2
                      · intro h; exact ⟨_, _, rfl, h⟩
            | some i => constructor
                        · rintro ⟨a, H', h1, h2⟩; cases h1; exact h2
                        · intro h; exact ⟨_, _, rfl, h⟩
      | cells rw cs => simp
      | siter s p => simp
theorem setG_enc (es : List (κ × ω)) (k : κ) (v : ω) (K : Option Blk → Prop) : setG (some (.map true (es.map encE))) (KeyE.kk κ) (KeyE.enc k) (ValE.enc v) K ↔ K (some (.map true ((aset es k v).map encE))) := by
  have hc : (keyFits (KeyE.kk κ) (KeyE.enc k) && (KeyE.enc k : V).isSolid && (ValE.enc v : V).isSolid) = true := by rw [KeyE.fits, KeyE.solid, ValE.solid]; rfl
  simp only [setG, hc, true_and, findK_enc]
  cases ha : aidx k es with
  | none => rw [(aidx_none ha).2.1 v]; simp [encE]
  | some i => rw [(aidx_some ha).2.2.1 v]; simp [List.map_set, encE]
/-- what is struck out of a block -/
def delG (x : Option Blk) (kk : KK) (k : V) (K : Option Blk → Prop) : Prop := match x with
  | some (.map true es) => keyFits kk k = true ∧ match findK kk k es with
    | some (some i) => K (some (.map true (es.eraseIdx i)))
    | some none => K (some (.map true es))
    | none => False
  | _ => False
@[congr] theorem delG_congr {x x' : Option Blk} {kk : KK} {k : V} {K : Option Blk → Prop} (h : x = x') : delG x kk k K = delG x' kk k K := by rw [h]
theorem wp_mapDelg (H : Heap) (m : Nat) (kk : KK) (k : V) {Q : V → Heap → Prop} (h : delG (H.get m) kk k fun y => Q undef (H.set m y)) : wp (mapDel kk (.map (some m)) k) Q H := by
  unfold delG at h
  split at h
  · rename_i es hg
    obtain ⟨hf, h⟩ := h
    split at h
    · rename_i i hi
      exact ⟨undef, _, by simp only [mapDel, hf, if_true, hg, hi], h⟩
    · rename_i hi
      exact ⟨undef, H, by simp only [mapDel, hf, if_true, hg, hi], by rw [Heap.set_same hg] at h; exact h⟩
    · exact h.elim
  · exact h.elim
theorem delG_enc (es : List (κ × ω)) (k : κ) (K : Option Blk → Prop) : delG (some (.map true (es.map encE))) (KeyE.kk κ) (KeyE.enc k) K ↔ K (some (.map true ((adel es k).map encE))) := by
  simp only [delG, KeyE.fits, true_and, findK_enc]
  cases ha : aidx k es with
  | none => rw [(aidx_none ha).2.2]
  | some i => rw [(aidx_some ha).2.2.2, map_eraseIdx']
theorem MapR.keep {S : List Nat} {H H' : Heap} {m : Nat} {es : List (κ × ω)} (h : MapR H m es) (hk : Keeps S H H') (hm : m ∉ S) : MapR H' m es := hk.get h hm
theorem MapR.lt {H : Heap} {m : Nat} {es : List (κ × ω)} (h : MapR H m es) : m < H.next := Heap.get_lt h
end
end Go.AM
