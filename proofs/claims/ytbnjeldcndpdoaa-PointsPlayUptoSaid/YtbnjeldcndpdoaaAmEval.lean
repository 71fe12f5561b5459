import Derived.Test.YtbnjeldcndpdoaaAmDel
import Derived.Test.YtbnjeldcndpdoaaAmMap
import Derived.Test.YtbnjeldcndpdoaaAmSlc
import Derived.WideKeyArgs
import Derived.ChangeSame
import Derived.OpenShut
import Derived.LaidSub
import Derived.ChangeMaps5
import Derived.Lib.LaidTab
import Derived.Deep.Slices
import Derived.Test.YtbnjeldcndpdoaaAmBase
set_option linter.all false
/- maps.DeleteFunc: a round whose key is a struct; heaps that end alike. -/
namespace Go.AM

theorem Heap.ext' {H H' : Heap} (hn : H.next = H'.next) (hg : ∀ b, b < H.next → H.get b = H'.get b) : H = H' := Heap.same hn hg

/-- a heap with room that is dead -/
def Heap.room (H : Heap) (m : Nat) : Heap := Heap.mk0 (H.next + m) H.get
theorem Heap.room_next (H : Heap) (m : Nat) : (H.room m).next = H.next + m := Heap.mk0_next _ _
theorem Heap.room_get (H : Heap) (m b : Nat) : (H.room m).get b = H.get b := by
  unfold Heap.room
  rw [Heap.mk0_get]
  by_cases h : b < H.next + m
  · rw [if_pos h]
  · rw [if_neg h, Heap.get_big (by omega)]
theorem bnd_of {α β : Type} {m : M α} {k : α → M β} {H H1 : Heap} {a : α} (h : m H = some (a, H1)) : bnd m k H = k a H1 := by simp [bnd, h]
theorem Heap.room_zero (H : Heap) : H.room 0 = H := Heap.same (Heap.room_next H 0) fun b _ => Heap.room_get H 0 b
theorem Heap.get_next (H : Heap) {b : Nat} (h : H.next ≤ b) : H.get b = none := by
  cases hg : H.get b with
  | none => rfl
  | some x => have := Heap.get_lt hg; omega

theorem keysApart_enc {κ ω : Type} [DecidableEq κ] [KeyE κ] [ValE ω] {es : List (κ × ω)} (h : (es.map (·.1)).Nodup) : keysApart (KeyE.kk κ) (es.map encE) := by
  intro i j hi hj
  rw [List.length_map] at hi hj
  have e : ∀ i (hi : i < es.length), ((es.map encE).getD i default).1 = KeyE.enc es[i].1 := fun i hi => by
    rw [List.getD_eq_getElem?_getD, List.getElem?_map, List.getElem?_eq_getElem hi]; rfl
  rw [e i hi, e j hj, KeyE.eq]
  congr 1
  apply decide_eq_decide.mpr
  constructor
  · intro q
    rcases Nat.lt_trichotomy i j with c | c | c
    · have := List.pairwise_iff_getElem.1 h i j (by simpa using hi) (by simpa using hj) c
      simp at this; exact absurd q this
    · exact c
    · have := List.pairwise_iff_getElem.1 h j i (by simpa using hj) (by simpa using hi) c
      simp at this; exact absurd q.symm this
  · rintro rfl; rfl
theorem range_getD {α : Type} (l : List α) (d : α) : (List.range l.length).map (fun i => l.getD i d) = l := by
  apply List.ext_getElem?
  intro i
  by_cases h : i < l.length
  · rw [List.getElem?_map, List.getElem?_range h, Option.map_some, List.getD_eq_getElem?_getD, List.getElem?_eq_getElem h]; rfl
  · rw [List.getElem?_eq_none (by simp; omega), List.getElem?_eq_none (by omega)]
theorem filter_range {α : Type} (l : List α) (d : α) (q : α → Bool) : ((List.range l.length).filter fun i => q (l.getD i d)).map (fun i => l.getD i d) = l.filter q := by
  conv => rhs; rw [← range_getD l d]
  rw [List.filter_map]; rfl
theorem foldl_range {α β : Type} (l : List α) (d : α) (f : β → α → β) (b : β) : (List.range l.length).foldl (fun b i => f b (l.getD i d)) b = l.foldl f b := by
  conv => rhs; rw [← range_getD l d]
  rw [List.foldl_map]
theorem perm_foldl {α β : Type} {f : β → α → β} {l l' : List α} (h : l.Perm l') : (∀ x ∈ l, ∀ y ∈ l, ∀ z, f (f z x) y = f (f z y) x) → ∀ b, l.foldl f b = l'.foldl f b := by
  induction h with
  | nil => intro _ b; rfl
  | cons x h ih => intro hc b; exact ih (fun a ha c hc' => hc a (by simp [ha]) c (by simp [hc'])) _
  | swap x y l => intro hc b; simp only [List.foldl_cons]; rw [hc y (by simp) x (by simp)]
  | trans h1 h2 ih1 ih2 => intro hc b; rw [ih1 hc, ih2 (fun a ha c hc' => hc a (h1.mem_iff.2 ha) c (h1.mem_iff.2 hc'))]
theorem delRuns_unique {P : Program} {σ : Calls'} {mt kt vt ct bt : TypeId} {m f it : V} {es : List (V × V)} {n0 : Nat} {del del' : Nat → Bool} : ∀ (l : List Nat) (K K1 K2 : Heap), delRuns P σ mt kt vt ct bt m f it es del n0 l K = some ((), K1) → delRuns P σ mt kt vt ct bt m f it es del' n0 l K = some ((), K2) → K1 = K2 ∧ ∀ i ∈ l, del i = del' i
  | [], K, K1, K2, h1, h2 => by simp only [delRuns, ret] at h1 h2; cases h1; cases h2; exact ⟨rfl, fun i hi => by cases hi⟩
  | i :: l, K, K1, K2, h1, h2 => by
    simp only [delRuns] at h1 h2
    cases hs : delStep P σ mt kt vt ct bt m f it (es.getD i default) K with
    | none => rw [hs] at h1; cases h1
    | some r =>
      obtain ⟨⟨c, k⟩, K3⟩ := r
      rw [hs] at h1 h2
      simp only at h1 h2
      split at h1
      · rename_i q1
        split at h2
        · rename_i q2
          obtain ⟨a, b⟩ := delRuns_unique l _ _ _ h1 h2
          refine ⟨a, fun j hj => ?_⟩
          rcases List.mem_cons.1 hj with rfl | hj
          · rw [← q1.1, ← q2.1]
          · exact b j hj
        · cases h2
      · cases h1

section
variable {P : Program} {σ : Calls'} {mt kt vt ct bt : TypeId} {m f it : V}
theorem delStep_agg {z : V} {nk : Nat} (htk : tk P kt = some (.agg nk)) (hz : zeroV P kt = some z) (hzc : z.cells.toList.all flatV = true) (hzl : z.cells.toList.length = nk) {ks : List V} (hks : ks.length = nk) (hone : ks.all Value.isOne = true) {v : V} {K K2 : Heap} {c : Bool}
    (hcall : callM σ f [.agg ks.toArray, v] (K.push (some (.cells true ks))) = some (.bool c, K2)) (hkey : c = true → ∃ rw, K2.get K.next = some (.cells rw ks)) :
    delStep P σ mt kt vt ct bt m f it (.agg ks.toArray, v) K = some ((c, if c then .agg ks.toArray else undef), K2) := by
  have h1 : newc z.cells.toList K = some (ptr K.next 0, K.push (some (.cells true z.cells.toList))) := by simp only [newc, hzc, if_true]
  have hlt : K.next < (K.push (some (.cells true z.cells.toList))).next := by simp
  have hspl : splice z.cells.toList 0 ks = ks := by
    unfold splice
    rw [List.take_zero, List.nil_append, List.drop_of_length_le (by omega), List.append_nil]
  have hset : (K.push (some (.cells true z.cells.toList))).set K.next (some (.cells true ks)) = K.push (some (.cells true ks)) := Heap.set_push_eq rfl
  have h2 : stn nk (ptr K.next 0) (.agg ks.toArray) (K.push (some (.cells true z.cells.toList))) = some (undef, K.push (some (.cells true ks))) := by
    simp only [stn, Heap.get_push_self]
    rw [if_pos (by simp [hks, hzl]; simpa using hone)]
    simp only [hspl, hset]
  have h3 : ∀ {K' : Heap} {rw_ : Bool}, K'.get K.next = some (.cells rw_ ks) → ldn nk (ptr K.next 0) K' = some (.agg ks.toArray, K') := fun {K' rw_} h => by
    simp only [ldn, cellsAt, h]
    rw [if_pos (by omega), List.drop_zero, List.take_of_length_le (by omega)]
  let e0 := enS m f it (.agg ks.toArray) v
  let e1 := e0.put 19 (some 4) (ptr K.next 0)
  let e2 := e1.put 19 none undef
  let e3 := e2.put 19 (some 5) v
  have r1 : runOps P σ 19 (dlC kt vt) [dl_c3 kt, dl_c4 kt, dl_c5 vt] e0 ret K = some (e3, K.push (some (.cells true ks))) := by
    have g1 : gdM P σ (dlC kt vt) (dl_c3 kt) e0 K = some (ptr K.next 0, K.push (some (.cells true z.cells.toList))) := by
      show (match zeroV P kt with | some z => newc z.cells.toList | none => fail) K = _
      rw [hz]; exact h1
    have g2 : gdM P σ (dlC kt vt) (dl_c4 kt) e1 (K.push (some (.cells true z.cells.toList))) = some (undef, K.push (some (.cells true ks))) := by
      show (match tk P kt with | some .one => st1 (e1 4) (e1 11) | some (.agg n) => stn n (e1 4) (e1 11) | none => fail) _ = _
      rw [htk]; exact h2
    show bnd (gdM P σ (dlC kt vt) (dl_c3 kt) e0) (fun v => bnd (gdM P σ (dlC kt vt) (dl_c4 kt) (e0.put 19 (some 4) v)) fun w => ret (((e0.put 19 (some 4) v).put 19 none w).put 19 (some 5) (((e0.put 19 (some 4) v).put 19 none w) 12))) K = _
    rw [bnd_of g1]
    exact (bnd_of g2).trans rfl
  let d1 := e3.put 19 (some 13) f
  let d2 := d1.put 19 (some 14) (.agg ks.toArray)
  let d3 := d2.put 19 (some 15) v
  let d4 := d3.put 19 (some 16) (.bool c)
  have r2 : runOps P σ 19 (dlD kt vt ct bt) (dlD kt vt ct bt).toList e3 ret (K.push (some (.cells true ks))) = some (d4, K2) := by
    have g1 : gdM P σ (dlD kt vt ct bt) (dl_d1 kt) d1 (K.push (some (.cells true ks))) = some (.agg ks.toArray, K.push (some (.cells true ks))) := by
      show (match tk P kt with | some .one => ld1 (d1 4) | some (.agg n) => ldn n (d1 4) | none => fail) _ = _
      rw [htk]; exact h3 (Heap.get_push_self _ _)
    have g2 : gdM P σ (dlD kt vt ct bt) (dl_d3 kt vt bt) d3 (K.push (some (.cells true ks))) = some (.bool c, K2) := hcall
    show bnd (gdM P σ (dlD kt vt ct bt) (dl_d1 kt) d1) (fun x => bnd (gdM P σ (dlD kt vt ct bt) (dl_d3 kt vt bt) ((d1.put 19 (some 14) x).put 19 (some 15) ((d1.put 19 (some 14) x) 5))) fun y => ret (((d1.put 19 (some 14) x).put 19 (some 15) ((d1.put 19 (some 14) x) 5)).put 19 (some 16) y)) _ = _
    rw [bnd_of g1]
    exact (bnd_of g2).trans rfl
  unfold delStep
  show bnd (runOps P σ 19 (dlC kt vt) [dl_c3 kt, dl_c4 kt, dl_c5 vt] e0 ret) _ K = _
  rw [bnd_of r1, bnd_of r2]
  show (match (Value.bool c : V) with | .bool false => ret (false, undef) | .bool true => _ | _ => fail) K2 = _
  cases c with
  | false => rfl
  | true =>
    obtain ⟨rw_, hk⟩ := hkey rfl
    have g1 : gdM P σ (dlE mt kt) (dl_e1 kt) (d4.put 19 (some 17) m) K2 = some (.agg ks.toArray, K2) := by
      show (match tk P kt with | some .one => ld1 (d4 4) | some (.agg n) => ldn n (d4 4) | none => fail) _ = _
      rw [htk]; exact h3 hk
    have r3 : runOps P σ 19 (dlE mt kt) [dl_e0 mt, dl_e1 kt] d4 ret K2 = some ((d4.put 19 (some 17) m).put 19 (some 18) (.agg ks.toArray), K2) := by
      show bnd (gdM P σ (dlE mt kt) (dl_e1 kt) (d4.put 19 (some 17) m)) (fun x => ret ((d4.put 19 (some 17) m).put 19 (some 18) x)) K2 = _
      rw [bnd_of g1]; rfl
    show bnd (runOps P σ 19 (dlE mt kt) [dl_e0 mt, dl_e1 kt] d4 ret) (fun e4 => ret (true, e4 18)) K2 = _
    rw [bnd_of r3]; rfl
end
end Go.AM

/- Slices among the cells of other things. -/
namespace Go.AM

/-- a slice among the cells of another thing -/
structure In (α : Type) where
  v : V
  xs : List α
  one : v.isOne = true
instance {α : Type} : Inhabited (In α) := ⟨⟨.slice none 0 0, [], rfl⟩⟩


instance {α : Type} : Flat (In α) := ⟨1, fun a => [a.v], fun _ => rfl, fun a => by simp [a.one], by decide⟩
/-- slices of slices: all may be looked at -/
structure Sl2 {α : Type} [Flat α] (H : Heap) (v : V) (xs : List (In α)) : Prop where
  out : Sl H v xs
  inn : ∀ x ∈ xs, Sl H x.v x.xs
theorem Sl2.keep0 {α : Type} [Flat α] {H H' : Heap} {v : V} {xs : List (In α)} (h : Sl2 H v xs) (hk : Keeps [] H H') : Sl2 H' v xs := ⟨h.out.keep0 hk, fun x hx => (h.inn x hx).keep0 hk⟩
theorem Sl2.at {α : Type} [Flat α] {H : Heap} {v : V} {xs : List (In α)} (h : Sl2 H v xs) {i : Nat} (hi : i < xs.length) : Sl H (xs.getD i default).v (xs.getD i default).xs := by
  rw [List.getD_eq_getElem?_getD, List.getElem?_eq_getElem hi]
  exact h.inn _ (List.getElem_mem hi)
theorem Sl2.get {α : Type} [Flat α] {H : Heap} {v : V} {xs : List (In α)} (h : Sl2 H v xs) {i : Nat} (hi : i < xs.length) : iaddrS 1 v (i64 i) = some (ptr (slB v) (slO v + i)) ∧ cellP H (ptr (slB v) (slO v + i)) = some (xs.getD i default).v := by
  have h1 := h.out.addr1 rfl (k := .i64) (i := i) (by omega) (by omega)
  rw [Int.toNat_natCast] at h1
  exact ⟨h1, by rw [h.out.cell1 rfl hi default]; rfl⟩
end Go.AM

/- From runs on the abstract machine to calls in the model: what was there before stays as it was. -/
namespace Go.AM
open Go.RowKit (Below)
open Go.ChangeShapes

/-- the handle of a type -/
def tokOf (t : Nat) (x : V) : V := match x with
  | .agg cs => match cs.toList with
    | [.pointer (some ⟨g, o, none⟩)] => if g < 1048576 ∧ o < 1048576 then .chan (some (t * 1099511627776 + g * 1048576 + o)) else undef
    | _ => undef
  | _ => undef
theorem tokOf_rel (ρ : Ren) (t : Nat) (x : V) : VRel ρ (tokOf t x) (.iface t x) := by
  unfold tokOf
  split
  · rename_i cs
    split
    · rename_i g o hcs
      split
      · rename_i h
        have e : tokV (t * 1099511627776 + g * 1048576 + o) = .iface t (.agg cs) := by
          unfold tokV
          have e1 : (t * 1099511627776 + g * 1048576 + o) / 1099511627776 = t := by omega
          have e2 : (t * 1099511627776 + g * 1048576 + o) / 1048576 % 1048576 = g := by omega
          have e3 : (t * 1099511627776 + g * 1048576 + o) % 1048576 = o := by omega
          rw [e1, e2, e3]
          congr 2
          apply Array.ext'
          rw [hcs]
        rw [← e]; exact .tok _
      · exact .undef _
    · exact .undef _
  · exact .undef _
/-- a value of the world that the call begins in, as the abstract machine sees it -/
def absV1 (N : Nat) (v : V) : V := match v with
  | .bool b => .bool b
  | .int k n => .int k n
  | .string s => .string s
  | .pointer none => .pointer none
  | .pointer (some ⟨b, o, none⟩) => if b < N then .pointer (some ⟨b, o, none⟩) else undef
  | .slice none 0 0 => .slice none 0 0
  | .slice (some a) len cap => if a.spot = none ∧ a.block < N ∧ len ≤ cap then slc a.block a.off 0 len cap else if len = 0 ∧ cap = 0 ∧ 0 < N then slc 0 0 0 0 0 else undef
  | .map none => .map none
  | .map (some b) => if b < N then .map (some b) else undef
  | .nilFunc => .nilFunc
  | .nilIface => .nilIface
  | .iface t x => tokOf t x
  | _ => undef
/-- and a value of several cells -/
def absV (N : Nat) (v : V) : V := match v with
  | .agg cs => .agg (cs.map (absV1 N))
  | v => absV1 N v

def absB (N : Nat) : Option Obj → Option Blk
  | some (.cells C _ _) => some (.cells false (C.toList.map (absV N)))
  | some (.map E _) => some (.map false (E.toList.map fun e => (absV N e.key, absV N e.val)))
  | _ => none
def heap0 (w : World) : Heap := Heap.mk0 w.heap.size fun b => absB w.heap.size w.heap[b]?
def size0 : Option Obj → Nat
  | some (.cells C _ _) => C.size
  | _ => 0
def ren0 (w : World) : Ren := fun b => if b < w.heap.size then some ⟨b, 0, size0 w.heap[b]?⟩ else none

theorem heap0_next (w : World) : (heap0 w).next = w.heap.size := Heap.mk0_next _ _
theorem heap0_get (w : World) (b : Nat) : (heap0 w).get b = absB w.heap.size w.heap[b]? := by
  unfold heap0
  rw [Heap.mk0_get]
  by_cases h : b < w.heap.size
  · rw [if_pos h]
  · rw [if_neg h, Array.getElem?_eq_none (by omega)]
    rfl

theorem absV_rel1 (w : World) (v : V) : VRel (ren0 w) (absV1 w.heap.size v) v := by
  have hr : ∀ b, b < w.heap.size → ren0 w b = some ⟨b, 0, size0 w.heap[b]?⟩ := fun b h => by simp only [ren0, h, if_true]
  unfold absV1
  split
  · exact .bool _
  · exact .int _ _
  · exact .string _
  · exact .pnil
  · split
    · rename_i b o h
      have := VRel.ptr (ρ := ren0 w) b o _ (hr b h)
      simpa using this
    · exact .undef _
  · exact .snil
  · split
    · rename_i a len cap h
      obtain ⟨b, o, sp⟩ := a
      obtain ⟨rfl, h1, h2⟩ := h
      exact .slc b o 0 len cap _ o cap _ (hr b h1) (.inl (by simp)) h2 (Nat.le_refl _) (.inl rfl) (.inl (by simp)) (.inl rfl)
    · split
      · rename_i a len cap _ h
        obtain ⟨rfl, rfl, h0⟩ := h
        exact .slc 0 0 0 0 0 _ 0 0 a (hr 0 h0) (.inr rfl) (Nat.le_refl _) (Nat.le_refl _) (.inl rfl) (.inr rfl) (.inl rfl)
      · exact .undef _
  · exact .mnil
  · split
    · rename_i b h
      exact .map b _ (hr b h)
    · exact .undef _
  · exact .nilFunc
  · exact .nilIface
  · exact tokOf_rel _ _ _
  · exact .undef _

theorem absV_rel (w : World) (v : V) : VRel (ren0 w) (absV w.heap.size v) v := by
  unfold absV
  split
  · exact .agg _ _ (by simp) fun i h h' => by simpa using absV_rel1 w _
  · exact absV_rel1 w _

theorem lrel_map {ρ : Ren} {f : V → V} (h : ∀ v, VRel ρ (f v) v) : ∀ l : List V, LRel ρ (l.map f) l
  | [] => .nil
  | v :: l => .cons (h v) (lrel_map h l)

theorem rel0 (w : World) : Rel w.heap.size w (ren0 w) (heap0 w) w := by
  refine ⟨Below.refl _ _, Nat.le_refl _, fun b hb => ?_, fun b hb => ⟨size0 w.heap[b]?, by simp only [ren0, hb, if_true]⟩, fun b x hx => ?_, fun b b' x x' L L' hx hx' hne hL hL' => ?_⟩
  · rw [heap0_next] at hb
    simp only [ren0]; rw [if_neg (by omega)]
  · have hlt := Heap.get_lt hx
    rw [heap0_next] at hlt
    rw [heap0_get] at hx
    refine ⟨⟨b, 0, size0 w.heap[b]?⟩, by simp only [ren0, hlt, if_true], ?_⟩
    unfold absB at hx
    split at hx
    · rename_i C e f hC
      cases hx
      refine ⟨C, e, f, hC, by simp [hC, size0], ⟨fun h => absurd h (by decide), fun _ => by simp⟩, by simp, ?_⟩
      simp only [List.drop_zero, List.length_map]
      rw [List.take_of_length_le (by simp)]
      exact lrel_map (absV_rel w) _
    · rename_i E clk hE
      cases hx
      refine ⟨rfl, E, clk, hE, fun h => absurd h (by decide), ?_, ?_⟩
      · have := lrel_map (absV_rel w) (E.toList.map (·.key))
        simpa [List.map_map, Function.comp_def] using this
      · have := lrel_map (absV_rel w) (E.toList.map (·.val))
        simpa [List.map_map, Function.comp_def] using this
    · cases hx
  · simp only [ren0] at hL hL'
    split at hL
    · split at hL'
      · cases hL; cases hL'; exact hne
      · cases hL'
    · cases hL

/-- A function that answers so on the abstract machine answers so in the model, and turns nothing that was there. -/
theorem calls_of_wp' {P : Program} {f : FuncId} {F : List V → M V} (hk : Known P f F) {W : World} (hG : P.globals.size ≤ W.heap.size) {args : Array V} {b : Bool}
    (h : wp (F (args.toList.map (absV W.heap.size))) (fun r _ => r = .bool b) (heap0 W)) : Calls P f args W fun e W' => e = .returned (.bool b) ∧ Below W.heap.size W W' := by
  obtain ⟨r, H', h1, rfl⟩ := h
  have := hk.2 W.heap.size W (ren0 W) (heap0 W) W (args.toList.map (absV W.heap.size)) args.toList (.bool b) H' hG (rel0 W) (lrel_map (absV_rel W) _) h1
  have e : args.toList.toArray = args := by simp
  rw [e] at this
  refine this.mono fun e W' ⟨r', he, ρ', hv, hr, _⟩ => ?_
  subst he
  cases hv
  exact ⟨rfl, hr.below⟩

/-- what the reading of the arguments says behind the call -/
theorem carryAll {H : Type} {enc : TypeId × Value → H} {P : Program} (hl : laidOutB P = true) {W W' : World} (hb : Below W.heap.size W W') {sp : Nat → Bool} : ∀ {ts : List TypeId} {vs : List Value} {ds : List (DataW H)} {ps : List MemPlace},
    (∀ t ∈ ts, P.readableRec t = true ∧ t < P.types.size) → DataW.TrodAll enc P W 0 (fun _ => true) true ts vs ds ps → (∀ p ∈ ps, p.block < W.heap.size) → (∀ p ∈ ps, sp p.block = true) → DataW.TrodAll enc P W' 0 sp true ts vs ds ps
  | [], vs, ds, ps, _, h, _, _ => by
    obtain ⟨rfl, rfl, rfl⟩ := trodAll_nil h
    exact trodAll_mk0
  | t :: ts, vs, ds, ps, ht, h, hlt, hsp => by
    obtain ⟨v0, vs0, d0, ds0, p0, q0, rfl, rfl, rfl, h0, r0⟩ := trodAll_cons h
    have h1 := ht t (by simp)
    refine trodAll_cons_mk (WideElems.Trod_stays hl h1.1 h1.2 h0 (fun p hp => hb.same (hlt p (by simp [hp]))) fun p hp => hsp p (by simp [hp])) ?_
    exact carryAll hl hb (fun t h => ht t (by simp [h])) r0 (fun p hp => hlt p (by simp [hp])) (fun p hp => hsp p (by simp [hp]))

/-- a law: it answers true, and each argument reads as it did -/
theorem post_of_below {H : Type} {enc : TypeId × Value → H} {P : Program} {f : Func} {s : ChangeSpec} {apart fresh handsOn again : Bool} {W W' : World} {args : Array Value} {v : Value} {ds : List (DataW H)} {gs : List (DataW H)} {before : List MemPlace} (hl : laidOutB P = true)
    (hts : ∀ t ∈ f.params.toList, P.readableRec t = true ∧ t < P.types.size) (hvars : s.vars = [])
    (hW : DataW.Whole enc P f.params.toList s.vars apart W args.toList ds gs before) (hb : Below W.heap.size W W')
    (hres : ∀ (b : Nat) (sp : Nat → Bool) (hd : Bool), DataW.TrodAll enc P W' b sp hd f.resultTypes.toList (v.resultList f.resultTypes.size) (s.fn H (ds ++ gs)).results [])
    (hargs : (s.fn H (ds ++ gs)).args = ds) (hv2 : (s.fn H (ds ++ gs)).vars = [])
    (hok : ∀ (j : Nat) (t : TypeId) (r : Value), f.resultTypes[j]? = some t → (v.resultList f.resultTypes.size)[j]? = some r → Value.okWide P W' .any 0 t r) :
    s.post enc P f apart fresh handsOn again W args v W' := by
  have hlt : ∀ p ∈ before, p.block < W.heap.size := fun p hp => hW.lt p hp
  have hold : ∀ p ∈ before, (fun b => decide (b < W.heap.size)) p.block = true := fun p hp => by simpa using hlt p hp
  have hW' := hW
  obtain ⟨pa, pv, hA, hV, hps, hz, hn⟩ := hW'
  rw [hvars] at hV
  obtain ⟨hgs, hpv⟩ := trodVars_none hV
  subst hpv
  have hpa : before = pa := by rw [hps, List.append_nil]
  have hargs' : ∀ sp : Nat → Bool, (∀ p ∈ before, sp p.block = true) → DataW.TrodAll enc P W' 0 sp true f.params.toList args.toList (s.fn H (ds ++ gs)).args pa := fun sp hsp => by
    rw [hargs]
    exact carryAll hl hb hts hA (fun p hp => hlt p (by rw [hpa]; exact hp)) (fun p hp => hsp p (by rw [hpa]; exact hp))
  have hvars' : ∀ sp : Nat → Bool, DataW.TrodVars enc P W' sp s.vars (s.fn H (ds ++ gs)).vars [] := fun sp => by
    rw [hvars, hv2]; rfl
  refine ⟨ds, gs, before, [], pa, [], hW, hres _ _ _, hargs' _ hold, hvars' _, World.keptBut_mono (fun p hp => ⟨hp, ?_⟩) (hb.frame (· ∈ before)), fun _ => ?_⟩
  · rw [hps, List.mem_append] at hp
    exact Or.inr hp
  · refine ⟨hok, _, _, ([] ++ pa) ++ [], ⟨[] ++ pa, [], trodAll_append (hargs' _ (fun _ _ => rfl)) (hres _ _ _), hvars' _, rfl, ?_, ?_⟩, ?_⟩
    · intro b off hp
      have hm : MemPlace.cell b off ∈ before := by rw [hps]; simpa using hp
      rw [hb.frozen (p := ⟨b, off, none⟩) (hlt _ hm)]
      exact hz b off hm
    · intro ha
      have := hn ha
      rw [hps] at this
      simpa using this
    · intro p hp _
      rw [hps]
      simpa using hp

theorem i64_wf {n : Int} (h : (Lit.int .i64 n).wf = true) : -9223372036854775808 ≤ n ∧ n ≤ 9223372036854775807 := by
  simp [Lit.wf, IntKind.min, IntKind.max, IntKind.signed, IntKind.bits] at h
  omega
end Go.AM

/- Slices among the arguments: what they read as, and how they lie on the abstract machine. -/
namespace Go.AM
open Go.RowKit (Below)
open Go.ChangeShapes Go.WideShapes

variable {H : Type} {enc : TypeId × Value → H} {P : Program} {W : World}

theorem mapM_range {β : Type} {f : Nat → Option β} : ∀ {n : Nat} {l : List β}, (List.range n).mapM f = some l → l.length = n ∧ ∀ i, i < n → f i = l[i]? := by
  intro n l h
  have h1 := Lib.mapM_length h
  rw [List.length_range] at h1
  refine ⟨h1, fun i hi => ?_⟩
  obtain ⟨b, hb, hf⟩ := Lib.mapM_at h i i (by simp [hi])
  rw [hf, hb]

theorem cells_take {b off n : Nat} {cs : List Value} (h : W.cells? 0 ⟨b, off, none⟩ n = some cs) {C : Array Value} {e : TypeId} {f : Nat × Nat} (hC : W.heap[b]? = some (.cells C e f)) : (C.toList.drop off).take n = cs ∧ (0 < n → off + n ≤ C.size) := by
  unfold World.cells? at h
  rw [if_pos (Nat.zero_le _)] at h
  obtain ⟨h1, h2⟩ := mapM_range h
  have key : ∀ i, i < n → C[off + i]? = cs[i]? := fun i hi => by
    rw [← h2 i hi]
    have e : (Addr.add ⟨b, off, none⟩ i) = ⟨b, off + i, none⟩ := by
      unfold Addr.add
      split
      · rename_i h0; subst h0; rfl
      · rfl
    rw [e]
    simp [World.cell?, hC]
  have hlt : ∀ i, i < n → off + i < C.size := fun i hi => by
    have := key i hi
    rw [List.getElem?_eq_getElem (by omega)] at this
    rcases Nat.lt_or_ge (off + i) C.size with q | q
    · exact q
    · rw [Array.getElem?_eq_none q] at this; cases this
  refine ⟨?_, fun hn => by have := hlt (n - 1) (by omega); omega⟩
  apply List.ext_getElem?
  intro i
  rw [List.getElem?_take]
  split
  · rename_i hi
    rw [List.getElem?_drop, ← key i hi]
    simp
  · rename_i hi
    rw [List.getElem?_eq_none (by omega)]

theorem join_cells {α : Type} [Flat α] (C : List V) (off : Nat) (X : Nat → α) : ∀ n, (∀ i, i < n → (C.drop (off + i * Flat.size α)).take (Flat.size α) = Flat.enc (X i)) → (C.drop off).take (n * Flat.size α) = encs ((List.range n).map X)
  | 0, _ => by simp [encs]
  | n + 1, h => by
    rw [Nat.add_mul, Nat.one_mul, List.take_add, join_cells C off X n (fun i hi => h i (by omega)), List.range_succ, List.map_append, encs_append, List.drop_drop, h n (by omega)]
    simp [encs]

/-- a slice of things that lie flat, whatever the things are -/
theorem open_gen {α : Type} [Flat α] [Inhabited α] {datR : DataW H → α → Prop} {good : α → Prop} {t e : TypeId} (ht : P.underlying t = some (.slice e)) (hce : P.cellsOf e = Flat.size α)
    (hop : 0 < W.heap.size → ∀ n cs x, DataW.trod enc P W 0 (fun _ => true) true n e cs = some x → ∃ a : α, cs.map (absV W.heap.size) = Flat.enc a ∧ datR x.1 a ∧ good a) {v : Value} {d : DataW H} {ps : List MemPlace}
    (hval : ∀ a len cap, v = .slice (some a) len cap → a.spot = none ∧ ∃ C eT f, W.heap[a.block]? = some (.cells C eT f)) (hs : ∃ a len cap, v = .slice a len cap) (h : DataW.Trod enc P W 0 (fun _ => true) true t v d ps) :
    ∃ xs : List α, Sl (heap0 W) (absV W.heap.size v) xs ∧ (∀ x ∈ xs, good x) ∧ ((d = .nil ∧ xs = []) ∨ ∃ D rest, d = .slice ((List.range xs.length).map D) rest ∧ ∀ i x, xs[i]? = some x → datR (D i) x) := by
  obtain ⟨a, len, cap, rfl⟩ := hs
  obtain ⟨fuel, hf⟩ := h
  have hv : (Value.slice a len cap).cells.toList = [Value.slice a len cap] := rfl
  rw [hv] at hf
  rcases Deep.open_slice ht hf with ⟨h1, h2⟩ | ⟨a', len', cap', m, n, D, Pl, h1, hb, hl, hm, hmm, hx, hel⟩
  · cases h1
    cases h2
    exact ⟨[], .inl ⟨rfl, rfl⟩, fun x hx => (List.not_mem_nil hx).elim, .inl ⟨rfl, rfl⟩⟩
  · cases h1
    have hm' : m = cap := by simpa using hmm
    subst hm'
    obtain ⟨hspot, C, eT, f, hC⟩ := hval _ _ _ rfl
    obtain ⟨b, off, spot⟩ := a'
    simp only at hspot
    subst hspot
    simp only at hC
    have hbN : b < W.heap.size := by
      rcases Nat.lt_or_ge b W.heap.size with q | q
      · exact q
      · rw [Array.getElem?_eq_none q] at hC; cases hC
    have each : ∀ i, ∃ x : α, i < len → ((C.toList.map (absV W.heap.size)).drop (off + i * Flat.size α)).take (Flat.size α) = Flat.enc x ∧ datR (D i) x ∧ good x ∧ off + i * Flat.size α + Flat.size α ≤ C.size := fun i => by
      by_cases hi : i < len
      · obtain ⟨cs', hc1, hc2⟩ := hel i (by omega)
        obtain ⟨x, hx1, hx2, hx3⟩ := hop (by omega) _ _ _ hc2
        have ea : (Addr.add ⟨b, off, none⟩ (i * P.cellsOf e)) = ⟨b, off + i * P.cellsOf e, none⟩ := by
          unfold Addr.add
          split
          · rename_i h0; rw [h0]; rfl
          · rfl
        rw [ea, hce] at hc1
        obtain ⟨q1, q2⟩ := cells_take hc1 hC
        exact ⟨x, fun _ => ⟨by rw [← List.map_drop, ← List.map_take, q1, hx1], hx2, hx3, q2 Flat.pos⟩⟩
      · exact ⟨default, fun h => absurd h hi⟩
    have hX := Classical.axiomOfChoice each
    obtain ⟨X, hX⟩ := hX
    have habs : absV W.heap.size (.slice (some ⟨b, off, none⟩) len m) = slc b off 0 len m := by simp only [absV, absV1]; rw [if_pos ⟨trivial, hbN, hl⟩]
    have hj := join_cells (C.toList.map (absV W.heap.size)) off X len (fun i hi => (hX i hi).1)
    refine ⟨(List.range len).map X, ?_, fun x hx => ?_, .inr ⟨D, (List.range (m - len)).map fun j => D (len + j), ?_, fun i x hx => ?_⟩⟩
    · rw [habs]
      refine .inr ⟨b, off, 0, m, by simp, by simpa using hl, by rw [heap0_next]; exact hbN, ?_, .inl rfl⟩
      by_cases h0 : len = 0
      · left; simp [h0]
      · right
        refine ⟨false, C.toList.map (absV W.heap.size), by rw [heap0_get, hC]; rfl, ?_⟩
        have := (hX (len - 1) (by omega)).2.2.2
        have e1 : (len - 1 + 1) * Flat.size α = len * Flat.size α := by rw [show len - 1 + 1 = len by omega]
        rw [Nat.add_mul] at e1
        refine ⟨by simp; omega, ?_⟩
        rw [List.length_map, List.length_range, hj]
    · obtain ⟨i, hi, rfl⟩ := List.mem_map.1 hx
      exact (hX i (List.mem_range.1 hi)).2.2.1
    · have hd : d = (DataW.slice ((List.range len).map D) ((List.range (m - len)).map fun j => D (len + j))) := congrArg Prod.fst hx
      rw [hd]; simp
    · obtain ⟨k, hk, rfl⟩ := List.mem_map.1 (List.mem_of_getElem? hx)
      have hik : i < len := by
        rcases Nat.lt_or_ge i len with q | q
        · exact q
        · rw [List.getElem?_eq_none (by simpa using q)] at hx; cases hx
      rw [List.getElem?_map, List.getElem?_range hik, Option.map_some] at hx
      rw [← Option.some.inj hx]
      exact (hX i hik).2.1

theorem ok_slc {t e : TypeId} (ht : P.underlying t = some (.slice e)) {base : Nat} {v : Value} (hval : Cell.okWide P W .any base t v) :
    (∀ a len cap, v = .slice (some a) len cap → a.spot = none ∧ ∃ C eT f, W.heap[a.block]? = some (.cells C eT f)) ∧ ∃ a len cap, v = .slice a len cap := by
  have shape : ∀ b row cells, W.shape? b = some (row, cells) → ∃ C eT f, W.heap[b]? = some (.cells C eT f) := fun b row cells hshape => by
    unfold World.shape? at hshape
    split at hshape
    · rename_i C eT f hC; exact ⟨C, eT, f, hC⟩
    · cases hshape
  have hv : Value.okWide P W .any base t v := by simpa only [Value.okWide, ht] using hval
  obtain ⟨a, len, cap, rfl⟩ := okWide_slice ht hv
  refine ⟨fun a' len' cap' h => ?_, _, _, _, rfl⟩
  cases h
  simp only [Cell.okWide, ht, Cell.ok] at hval
  obtain ⟨_, _, _, hspot, row, cells, hshape, _⟩ := hval
  exact ⟨hspot, shape _ _ _ hshape⟩

theorem open_in {α : Type} [Flat α] [Inhabited α] {datR : DataW H → α → Prop} {good : α → Prop} {t e : TypeId} (ht : P.underlying t = some (.slice e)) (hce : P.cellsOf e = Flat.size α) (hN : 0 < W.heap.size)
    (hop : ∀ n cs x, DataW.trod enc P W 0 (fun _ => true) true n e cs = some x → ∃ a : α, cs.map (absV W.heap.size) = Flat.enc a ∧ datR x.1 a ∧ good a)
    (n : Nat) (cs : List Value) (x : DataW H × List MemPlace) (h : DataW.trod enc P W 0 (fun _ => true) true n t cs = some x) :
    ∃ a : In α, cs.map (absV W.heap.size) = [a.v] ∧ Sl (heap0 W) a.v a.xs ∧ (∀ x ∈ a.xs, good x) ∧ ((x.1 = .nil ∧ a.xs = []) ∨ ∃ D rest, x.1 = .slice ((List.range a.xs.length).map D) rest ∧ ∀ i y, a.xs[i]? = some y → datR (D i) y) := by
  have hf := h
  rcases Deep.open_slice ht hf with ⟨rfl, rfl⟩ | ⟨a', len, cap, m, n', D, Pl, rfl, hb, hl, hm, hmm, hx, hel⟩
  · exact ⟨⟨.slice none 0 0, [], rfl⟩, rfl, .inl ⟨rfl, rfl⟩, fun x hx => (List.not_mem_nil hx).elim, .inl ⟨rfl, rfl⟩⟩
  · have hm' : m = cap := by simpa using hmm
    by_cases h0 : cap = 0
    · subst h0
      obtain rfl : len = 0 := by omega
      refine ⟨⟨absV W.heap.size (.slice (some a') 0 0), [], ?_⟩, rfl, ?_, fun x hx => (List.not_mem_nil hx).elim, .inr ⟨D, (List.range (m - 0)).map fun j => D (0 + j), by rw [hx]; simp, by simp⟩⟩
      · simp only [absV, absV1]; split
        · rfl
        · rw [if_pos ⟨trivial, trivial, hN⟩]; rfl
      · simp only [absV, absV1]; split
        · rename_i q
          exact .inr ⟨_, _, 0, 0, rfl, Nat.le_refl _, by rw [heap0_next]; exact q.2.1, .inl rfl, .inl rfl⟩
        · rw [if_pos ⟨trivial, trivial, hN⟩]
          exact .inr ⟨0, 0, 0, 0, rfl, Nat.le_refl _, by rw [heap0_next]; exact hN, .inl rfl, .inl rfl⟩
    · have hcell : a'.spot = none ∧ ∃ C eT f, W.heap[a'.block]? = some (.cells C eT f) := by
        obtain ⟨cs', hc1, _⟩ := hel 0 (by omega)
        have h00 : (a'.add (0 * P.cellsOf e)) = a' := by rw [Nat.zero_mul]; rfl
        rw [h00] at hc1
        unfold World.cells? at hc1
        rw [if_pos (Nat.zero_le _)] at hc1
        have hp : 0 < P.cellsOf e := by rw [hce]; exact Flat.pos
        obtain ⟨_, h2⟩ := mapM_range hc1
        have hlen := (mapM_range hc1).1
        have h3 := h2 0 hp
        have h01 : a'.add 0 = a' := rfl
        rw [h01, List.getElem?_eq_getElem (by omega)] at h3
        unfold World.cell? at h3
        split at h3
        · rename_i C eT f hC
          split at h3
          · cases h3
          · rename_i hsp
            exact ⟨by simpa using hsp, C, eT, f, hC⟩
        · cases h3
      obtain ⟨xs, h1, h2, h3⟩ := open_gen (v := .slice (some a') len cap) (datR := datR) (good := good) ht hce (fun _ => hop) (fun a len cap h => by cases h; exact hcell) ⟨_, _, _, rfl⟩ ⟨n, h⟩
      exact ⟨⟨_, xs, h1.isOne⟩, rfl, h1, h2, h3⟩

def datI (n : Int) : DataW H := .lit (.int .i64 n)
def goodI (n : Int) : Prop := -9223372036854775808 ≤ n ∧ n ≤ 9223372036854775807
instance : Inhabited ByteArray := ⟨⟨#[]⟩⟩
theorem op_int {t : TypeId} (ht : P.underlying t = some (.int .i64)) (n : Nat) (cs : List Value) (x : DataW H × List MemPlace) (h : DataW.trod enc P W 0 (fun _ => true) true n t cs = some x) : ∃ a : Int, cs = Flat.enc a ∧ x.1 = datI a ∧ goodI a := by
  obtain ⟨s, h1, h2, h3⟩ := DataW.trod_int ht h
  exact ⟨s, h1, by rw [h2]; rfl, i64_wf h3⟩
end Go.AM

/- Structs of whole numbers among the arguments' elements. -/
namespace Go.AM
open Go.ChangeShapes Go.WideShapes

variable {H : Type} {enc : TypeId × Value → H} {P : Program} {W : World}

end Go.AM

/- Structs whose fields are of one cell each, among the arguments and their elements. -/
namespace Go.AM
open Go.ChangeShapes Go.WideShapes

variable {H : Type} {enc : TypeId × Value → H} {P : Program} {W : World}

/-- t is a struct of fields of the types ts, one cell each: told by evaluation -/
def flatStruct (P : Program) (t : TypeId) (ts : List TypeId) : Bool := match P.underlying t with
  | some (.struct fs) => (fs.size == ts.length) && (P.cellsOf t == ts.length) && (List.range ts.length).all fun i => match fs[i]?, ts[i]? with
    | some f, some u => (f.offset == i) && (P.cellsOf f.type == 1) && (f.type == u)
    | _, _ => false
  | _ => false
theorem flatStruct_spec {t : TypeId} {ts : List TypeId} (h : flatStruct P t ts = true) : ∃ fs : Array Field, P.underlying t = some (.struct fs) ∧ fs.size = ts.length ∧ P.cellsOf t = ts.length ∧ ∀ (i : Nat) (u : TypeId), ts[i]? = some u → ∃ f, fs[i]? = some f ∧ f.offset = i ∧ P.cellsOf f.type = 1 ∧ f.type = u := by
  unfold flatStruct at h
  split at h
  · rename_i fs hfs
    simp only [Bool.and_eq_true, beq_iff_eq, List.all_eq_true, List.mem_range] at h
    obtain ⟨⟨h1, h2⟩, h3⟩ := h
    refine ⟨fs, hfs, h1, h2, fun i u hu => ?_⟩
    have hi : i < ts.length := by
      rcases Nat.lt_or_ge i ts.length with q | q
      · exact q
      · rw [List.getElem?_eq_none q] at hu; cases hu
    have := h3 i hi
    rw [hu] at this
    split at this
    · rename_i f u' hf hu'
      cases hu'
      simp only [Bool.and_eq_true, beq_iff_eq] at this
      exact ⟨f, hf, this.1.1, this.1.2, this.2⟩
    · cases this
  · cases h
theorem flat_read {t : TypeId} {ts : List TypeId} (hk : flatStruct P t ts = true) {n : Nat} {cs : List Value} {x : DataW H × List MemPlace} (h : DataW.trod enc P W 0 (fun _ => true) true n t cs = some x) :
    cs.length = ts.length ∧ ∃ (m : Nat) (ds : List (DataW H × List MemPlace)), ds.length = ts.length ∧ x.1 = .agg (ds.map (·.1)) ∧ ∀ (i : Nat) (u : TypeId), ts[i]? = some u → ∃ c d, cs[i]? = some c ∧ ds[i]? = some d ∧ DataW.trod enc P W 0 (fun _ => true) true m u [c] = some d := by
  obtain ⟨fs, ht, hs, hc, hf⟩ := flatStruct_spec hk
  obtain ⟨xs, m, _, rfl, hl, hlen, hx⟩ := DataW.trod_struct ht h
  refine ⟨by omega, m, xs, by omega, rfl, fun i u hu => ?_⟩
  have hi : i < ts.length := by
    rcases Nat.lt_or_ge i ts.length with q | q
    · exact q
    · rw [List.getElem?_eq_none q] at hu; cases hu
  obtain ⟨f, hfi, q1, q2, q3⟩ := hf i u hu
  have := hx i _ hfi
  rw [q1, q2, q3] at this
  have hcs : i < cs.length := by omega
  have e : (cs.drop i).take 1 = [cs[i]] := by rw [List.drop_eq_getElem_cons hcs, List.take_succ_cons, List.take_zero]
  have hxi : xs[i]? = some xs[i] := List.getElem?_eq_getElem (by omega)
  rw [e, hxi] at this
  exact ⟨cs[i], xs[i], List.getElem?_eq_getElem hcs, hxi, this⟩
/-- a struct among the arguments -/
theorem struct_ok {t : TypeId} {ts : List TypeId} (hk : flatStruct P t ts = true) (hts : P.cellTypes P.depth t = some ts) {base : Nat} {v : Value} (hval : Value.okWide P W .any base t v) :
    ∃ cs : List Value, v = .agg cs.toArray ∧ cs.length = ts.length ∧ ∀ (i : Nat) (u : TypeId) (c : Value), ts[i]? = some u → cs[i]? = some c → Cell.okWide P W .any base u c := by
  obtain ⟨fs, ht, hs, hc, hf⟩ := flatStruct_spec hk
  simp only [Value.okWide, ht] at hval
  obtain ⟨cs, rfl, hsz, ts', hts', hn, hcell⟩ := hval
  rw [hts] at hts'; cases hts'
  refine ⟨cs.toList, by simp, by simp; omega, fun i u c hu hc' => ?_⟩
  have hi : i < ts.length := by
    rcases Nat.lt_or_ge i ts.length with q | q
    · exact q
    · rw [List.getElem?_eq_none q] at hu; cases hu
  obtain ⟨u', h1, h2⟩ := hcell i c (by rw [← hc', Array.getElem?_toList])
  rw [Nat.mod_eq_of_lt hi, hu] at h1
  cases h1; exact h2
end Go.AM

/- Functions that are run by the kernel: at plain arguments, over what the listed variables hold. -/
namespace Go.AM
open Go.RowKit (Below)

variable {P : Program} {N : Nat} {w₀ : World} {ρ : Ren} {H : Heap} {w : World}

theorem rel_below {w' : World} (h : Rel N w₀ ρ H w) (hb : Below w.heap.size w w') : Rel N w₀ ρ H w' := by
  have hold : ∀ k, k < w.heap.size → w'.heap[k]? = w.heap[k]? := hb.block
  have hbig := h.big
  have hsz := hb.size
  refine ⟨h.below.trans ⟨hb.os, hb.tape, hb.output, hb.size, fun k hk => hold k (by omega)⟩, by omega, h.dom, h.base, fun b x hx => ?_, h.inj⟩
  obtain ⟨L, hL, hr⟩ := h.blk b x hx
  exact ⟨L, hL, hr.mono (Ren.le.refl _) (hold _ (h.lt hx hL))⟩
theorem ext_below {w' : World} (hb : Below w.heap.size w w') : Ext ρ H w ρ H w' :=
  ⟨Ren.le.refl _, (Ext.refl ρ H w).same, (Ext.refl ρ H w).next, ⟨hb.size, fun c hc _ => hb.block c hc⟩, (Ext.refl ρ H w).old⟩
end Go.AM
