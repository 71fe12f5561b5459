/- maps.DeleteFunc: a round whose key is a struct; heaps that end alike. -/
import Derived.Test.YtbnjeldcndpdoaaAmDel
import Derived.Test.YtbnjeldcndpdoaaAmApp
set_option linter.all false
namespace Go.AM

theorem Heap.ext' {H H' : Heap} (hn : H.next = H'.next) (hg : ∀ b, b < H.next → H.get b = H'.get b) : H = H' := by
  obtain ⟨l⟩ := H
  obtain ⟨l'⟩ := H'
  congr 1
  apply List.ext_getElem?
  intro b
  simp only [Heap.next] at hn
  by_cases h : b < l.length
  · have := hg b h
    simp only [Heap.get] at this
    rw [List.getElem?_eq_getElem h, List.getElem?_eq_getElem (by omega)] at this ⊢
    revert this
    cases l[b] <;> cases l'[b]'(by omega) <;> simp
  · rw [List.getElem?_eq_none (by omega), List.getElem?_eq_none (by omega)]

/-- a heap with room that is dead -/
def Heap.room (H : Heap) (m : Nat) : Heap := ⟨H.blk ++ List.replicate m none⟩
theorem Heap.room_next (H : Heap) (m : Nat) : (H.room m).next = H.next + m := by simp [Heap.room, Heap.next]
theorem Heap.room_get (H : Heap) (m b : Nat) : (H.room m).get b = H.get b := by
  simp only [Heap.room, Heap.get]
  by_cases h : b < H.blk.length
  · rw [List.getElem?_append_left h]
  · rw [List.getElem?_append_right (by omega), List.getElem?_eq_none (l := H.blk) (by omega), List.getElem?_replicate]
    by_cases h2 : b - H.blk.length < m <;> simp [h2]
theorem bnd_of {α β : Type} {m : M α} {k : α → M β} {H H1 : Heap} {a : α} (h : m H = some (a, H1)) : bnd m k H = k a H1 := by simp [bnd, h]
theorem Heap.room_zero (H : Heap) : H.room 0 = H := by simp [Heap.room]
theorem Heap.get_next (H : Heap) {b : Nat} (h : H.next ≤ b) : H.get b = none := by
  cases hg : H.get b with
  | none => rfl
  | some x => have := Heap.get_lt hg; omega

theorem keysApart_enc {κ ω : Type} [DecidableEq κ] [KeyE κ] [ValE ω] {es : List (κ × ω)} (h : (es.map (·.1)).Nodup) : keysApart (KeyE.kk κ) (es.map encE) := by
  intro i j hi hj
  rw [List.length_map] at hi hj
  have e : ∀ i (hi : i < es.length), ((es.map encE).getD i default).1 = KeyE.enc es[i].1 := fun i hi => by
    rw [List.getD_eq_getElem?_getD, List.getElem?_map, List.getElem?_eq_getElem hi]; rfl
  rw [e i hi, e j hj, KeyE.eq]
  congr 1
  apply decide_eq_decide.mpr
  constructor
  · intro q
    rcases Nat.lt_trichotomy i j with c | c | c
    · have := List.pairwise_iff_getElem.1 h i j (by simpa using hi) (by simpa using hj) c
      simp at this; exact absurd q this
    · exact c
    · have := List.pairwise_iff_getElem.1 h j i (by simpa using hj) (by simpa using hi) c
      simp at this; exact absurd q.symm this
  · rintro rfl; rfl
theorem range_getD {α : Type} (l : List α) (d : α) : (List.range l.length).map (fun i => l.getD i d) = l := by
  apply List.ext_getElem?
  intro i
  by_cases h : i < l.length
  · rw [List.getElem?_map, List.getElem?_range h, Option.map_some, List.getD_eq_getElem?_getD, List.getElem?_eq_getElem h]; rfl
  · rw [List.getElem?_eq_none (by simp; omega), List.getElem?_eq_none (by omega)]
theorem filter_range {α : Type} (l : List α) (d : α) (q : α → Bool) : ((List.range l.length).filter fun i => q (l.getD i d)).map (fun i => l.getD i d) = l.filter q := by
  conv => rhs; rw [← range_getD l d]
  rw [List.filter_map]; rfl
theorem foldl_range {α β : Type} (l : List α) (d : α) (f : β → α → β) (b : β) : (List.range l.length).foldl (fun b i => f b (l.getD i d)) b = l.foldl f b := by
  conv => rhs; rw [← range_getD l d]
  rw [List.foldl_map]
theorem perm_foldl {α β : Type} {f : β → α → β} {l l' : List α} (h : l.Perm l') : (∀ x ∈ l, ∀ y ∈ l, ∀ z, f (f z x) y = f (f z y) x) → ∀ b, l.foldl f b = l'.foldl f b := by
  induction h with
  | nil => intro _ b; rfl
  | cons x h ih => intro hc b; exact ih (fun a ha c hc' => hc a (by simp [ha]) c (by simp [hc'])) _
  | swap x y l => intro hc b; simp only [List.foldl_cons]; rw [hc y (by simp) x (by simp)]
  | trans h1 h2 ih1 ih2 => intro hc b; rw [ih1 hc, ih2 (fun a ha c hc' => hc a (h1.mem_iff.2 ha) c (h1.mem_iff.2 hc'))]
theorem delRuns_unique {P : Program} {σ : Calls'} {mt kt vt ct bt : TypeId} {m f it : V} {es : List (V × V)} {n0 : Nat} {del del' : Nat → Bool} : ∀ (l : List Nat) (K K1 K2 : Heap), delRuns P σ mt kt vt ct bt m f it es del n0 l K = some ((), K1) → delRuns P σ mt kt vt ct bt m f it es del' n0 l K = some ((), K2) → K1 = K2 ∧ ∀ i ∈ l, del i = del' i
  | [], K, K1, K2, h1, h2 => by simp only [delRuns, ret] at h1 h2; cases h1; cases h2; exact ⟨rfl, fun i hi => by cases hi⟩
  | i :: l, K, K1, K2, h1, h2 => by
    simp only [delRuns] at h1 h2
    cases hs : delStep P σ mt kt vt ct bt m f it (es.getD i default) K with
    | none => rw [hs] at h1; cases h1
    | some r =>
      obtain ⟨⟨c, k⟩, K3⟩ := r
      rw [hs] at h1 h2
      simp only at h1 h2
      split at h1
      · rename_i q1
        split at h2
        · rename_i q2
          obtain ⟨a, b⟩ := delRuns_unique l _ _ _ h1 h2
          refine ⟨a, fun j hj => ?_⟩
          rcases List.mem_cons.1 hj with rfl | hj
          · rw [← q1.1, ← q2.1]
          · exact b j hj
        · cases h2
      · cases h1

section
variable {P : Program} {σ : Calls'} {mt kt vt ct bt : TypeId} {m f it : V}
theorem delStep_agg {z : V} {nk : Nat} (htk : tk P kt = some (.agg nk)) (hz : zeroV P kt = some z) (hzc : z.cells.toList.all flatV = true) (hzl : z.cells.toList.length = nk) {ks : List V} (hks : ks.length = nk) (hone : ks.all Value.isOne = true) {v : V} {K K2 : Heap} {c : Bool}
    (hcall : callM σ f [.agg ks.toArray, v] (K.push (some (.cells true ks))) = some (.bool c, K2)) (hkey : c = true → ∃ rw, K2.get K.next = some (.cells rw ks)) :
    delStep P σ mt kt vt ct bt m f it (.agg ks.toArray, v) K = some ((c, if c then .agg ks.toArray else undef), K2) := by
  have h1 : newc z.cells.toList K = some (ptr K.next 0, K.push (some (.cells true z.cells.toList))) := by simp only [newc, hzc, if_true]
  have hlt : K.next < (K.push (some (.cells true z.cells.toList))).next := by simp
  have hspl : splice z.cells.toList 0 ks = ks := by
    unfold splice
    rw [List.take_zero, List.nil_append, List.drop_of_length_le (by omega), List.append_nil]
  have hset : (K.push (some (.cells true z.cells.toList))).set K.next (some (.cells true ks)) = K.push (some (.cells true ks)) := Heap.set_push_eq rfl
  have h2 : stn nk (ptr K.next 0) (.agg ks.toArray) (K.push (some (.cells true z.cells.toList))) = some (undef, K.push (some (.cells true ks))) := by
    simp only [stn, Heap.get_push_self]
    rw [if_pos (by simp [hks, hzl]; simpa using hone)]
    simp only [hspl, hset]
  have h3 : ∀ {K' : Heap} {rw_ : Bool}, K'.get K.next = some (.cells rw_ ks) → ldn nk (ptr K.next 0) K' = some (.agg ks.toArray, K') := fun {K' rw_} h => by
    simp only [ldn, cellsAt, h]
    rw [if_pos (by omega), List.drop_zero, List.take_of_length_le (by omega)]
  let e0 := enS m f it (.agg ks.toArray) v
  let e1 := e0.put 19 (some 4) (ptr K.next 0)
  let e2 := e1.put 19 none undef
  let e3 := e2.put 19 (some 5) v
  have r1 : runOps P σ 19 (dlC kt vt) [dl_c3 kt, dl_c4 kt, dl_c5 vt] e0 ret K = some (e3, K.push (some (.cells true ks))) := by
    have g1 : gdM P σ (dlC kt vt) (dl_c3 kt) e0 K = some (ptr K.next 0, K.push (some (.cells true z.cells.toList))) := by
      show (match zeroV P kt with | some z => newc z.cells.toList | none => fail) K = _
      rw [hz]; exact h1
    have g2 : gdM P σ (dlC kt vt) (dl_c4 kt) e1 (K.push (some (.cells true z.cells.toList))) = some (undef, K.push (some (.cells true ks))) := by
      show (match tk P kt with | some .one => st1 (e1 4) (e1 11) | some (.agg n) => stn n (e1 4) (e1 11) | none => fail) _ = _
      rw [htk]; exact h2
    show bnd (gdM P σ (dlC kt vt) (dl_c3 kt) e0) (fun v => bnd (gdM P σ (dlC kt vt) (dl_c4 kt) (e0.put 19 (some 4) v)) fun w => ret (((e0.put 19 (some 4) v).put 19 none w).put 19 (some 5) (((e0.put 19 (some 4) v).put 19 none w) 12))) K = _
    rw [bnd_of g1]
    exact (bnd_of g2).trans rfl
  let d1 := e3.put 19 (some 13) f
  let d2 := d1.put 19 (some 14) (.agg ks.toArray)
  let d3 := d2.put 19 (some 15) v
  let d4 := d3.put 19 (some 16) (.bool c)
  have r2 : runOps P σ 19 (dlD kt vt ct bt) (dlD kt vt ct bt).toList e3 ret (K.push (some (.cells true ks))) = some (d4, K2) := by
    have g1 : gdM P σ (dlD kt vt ct bt) (dl_d1 kt) d1 (K.push (some (.cells true ks))) = some (.agg ks.toArray, K.push (some (.cells true ks))) := by
      show (match tk P kt with | some .one => ld1 (d1 4) | some (.agg n) => ldn n (d1 4) | none => fail) _ = _
      rw [htk]; exact h3 (Heap.get_push_self _ _)
    have g2 : gdM P σ (dlD kt vt ct bt) (dl_d3 kt vt bt) d3 (K.push (some (.cells true ks))) = some (.bool c, K2) := hcall
    show bnd (gdM P σ (dlD kt vt ct bt) (dl_d1 kt) d1) (fun x => bnd (gdM P σ (dlD kt vt ct bt) (dl_d3 kt vt bt) ((d1.put 19 (some 14) x).put 19 (some 15) ((d1.put 19 (some 14) x) 5))) fun y => ret (((d1.put 19 (some 14) x).put 19 (some 15) ((d1.put 19 (some 14) x) 5)).put 19 (some 16) y)) _ = _
    rw [bnd_of g1]
    exact (bnd_of g2).trans rfl
  unfold delStep
  show bnd (runOps P σ 19 (dlC kt vt) [dl_c3 kt, dl_c4 kt, dl_c5 vt] e0 ret) _ K = _
  rw [bnd_of r1, bnd_of r2]
  show (match (Value.bool c : V) with | .bool false => ret (false, undef) | .bool true => _ | _ => fail) K2 = _
  cases c with
  | false => rfl
  | true =>
    obtain ⟨rw_, hk⟩ := hkey rfl
    have g1 : gdM P σ (dlE mt kt) (dl_e1 kt) (d4.put 19 (some 17) m) K2 = some (.agg ks.toArray, K2) := by
      show (match tk P kt with | some .one => ld1 (d4 4) | some (.agg n) => ldn n (d4 4) | none => fail) _ = _
      rw [htk]; exact h3 hk
    have r3 : runOps P σ 19 (dlE mt kt) [dl_e0 mt, dl_e1 kt] d4 ret K2 = some ((d4.put 19 (some 17) m).put 19 (some 18) (.agg ks.toArray), K2) := by
      show bnd (gdM P σ (dlE mt kt) (dl_e1 kt) (d4.put 19 (some 17) m)) (fun x => ret ((d4.put 19 (some 17) m).put 19 (some 18) x)) K2 = _
      rw [bnd_of g1]; rfl
    show bnd (runOps P σ 19 (dlE mt kt) [dl_e0 mt, dl_e1 kt] d4 ret) (fun e4 => ret (true, e4 18)) K2 = _
    rw [bnd_of r3]; rfl
end
end Go.AM
