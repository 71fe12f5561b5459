import Derived.Test.YtbnjeldcndpdoaaAmDel
import Derived.Test.YtbnjeldcndpdoaaAmMap
import Derived.Test.YtbnjeldcndpdoaaAmSlc
import Derived.WideKeyArgs
import Derived.ChangeSame
import Derived.OpenShut
import Derived.LaidSub
import Derived.ChangeMaps5
import Derived.Lib.LaidTab
set_option linter.all false
/- maps.DeleteFunc: a round whose key is a struct; heaps that end alike. -/
namespace Go.AM

theorem Heap.ext' {H H' : Heap} (hn : H.next = H'.next) (hg : ∀ b, b < H.next → H.get b = H'.get b) : H = H' := Heap.same hn hg

/-- a heap with room that is dead -/
def Heap.room (H : Heap) (m : Nat) : Heap := Heap.mk0 (H.next + m) H.get
theorem Heap.room_next (H : Heap) (m : Nat) : (H.room m).next = H.next + m := Heap.mk0_next _ _
theorem Heap.room_get (H : Heap) (m b : Nat) : (H.room m).get b = H.get b := by
  unfold Heap.room
  rw [Heap.mk0_get]
  by_cases h : b < H.next + m
  · rw [if_pos h]
  · rw [if_neg h, Heap.get_big (by omega)]
theorem bnd_of {α β : Type} {m : M α} {k : α → M β} {H H1 : Heap} {a : α} (h : m H = some (a, H1)) : bnd m k H = k a H1 := by simp [bnd, h]
theorem Heap.room_zero (H : Heap) : H.room 0 = H := Heap.same (Heap.room_next H 0) fun b _ => Heap.room_get H 0 b
theorem Heap.get_next (H : Heap) {b : Nat} (h : H.next ≤ b) : H.get b = none := by
  cases hg : H.get b with
  | none => rfl
  | some x => have := Heap.get_lt hg; omega

theorem keysApart_enc {κ ω : Type} [DecidableEq κ] [KeyE κ] [ValE ω] {es : List (κ × ω)} (h : (es.map (·.1)).Nodup) : keysApart (KeyE.kk κ) (es.map encE) := by
  intro i j hi hj
  rw [List.length_map] at hi hj
  have e : ∀ i (hi : i < es.length), ((es.map encE).getD i default).1 = KeyE.enc es[i].1 := fun i hi => by
    rw [List.getD_eq_getElem?_getD, List.getElem?_map, List.getElem?_eq_getElem hi]; rfl
  rw [e i hi, e j hj, KeyE.eq]
  congr 1
  apply decide_eq_decide.mpr
  constructor
  · intro q
    rcases Nat.lt_trichotomy i j with c | c | c
    · have := List.pairwise_iff_getElem.1 h i j (by simpa using hi) (by simpa using hj) c
      simp at this; exact absurd q this
    · exact c
    · have := List.pairwise_iff_getElem.1 h j i (by simpa using hj) (by simpa using hi) c
      simp at this; exact absurd q.symm this
  · rintro rfl; rfl
theorem range_getD {α : Type} (l : List α) (d : α) : (List.range l.length).map (fun i => l.getD i d) = l := by
  apply List.ext_getElem?
  intro i
  by_cases h : i < l.length
  · rw [List.getElem?_map, List.getElem?_range h, Option.map_some, List.getD_eq_getElem?_getD, List.getElem?_eq_getElem h]; rfl
  · rw [List.getElem?_eq_none (by simp; omega), List.getElem?_eq_none (by omega)]
theorem filter_range {α : Type} (l : List α) (d : α) (q : α → Bool) : ((List.range l.length).filter fun i => q (l.getD i d)).map (fun i => l.getD i d) = l.filter q := by
  conv => rhs; rw [← range_getD l d]
  rw [List.filter_map]; rfl
theorem foldl_range {α β : Type} (l : List α) (d : α) (f : β → α → β) (b : β) : (List.range l.length).foldl (fun b i => f b (l.getD i d)) b = l.foldl f b := by
  conv => rhs; rw [← range_getD l d]
  rw [List.foldl_map]
theorem perm_foldl {α β : Type} {f : β → α → β} {l l' : List α} (h : l.Perm l') : (∀ x ∈ l, ∀ y ∈ l, ∀ z, f (f z x) y = f (f z y) x) → ∀ b, l.foldl f b = l'.foldl f b := by
  induction h with
  | nil => intro _ b; rfl
  | cons x h ih => intro hc b; exact ih (fun a ha c hc' => hc a (by simp [ha]) c (by simp [hc'])) _
  | swap x y l => intro hc b; simp only [List.foldl_cons]; rw [hc y (by simp) x (by simp)]
  | trans h1 h2 ih1 ih2 => intro hc b; rw [ih1 hc, ih2 (fun a ha c hc' => hc a (h1.mem_iff.2 ha) c (h1.mem_iff.2 hc'))]
theorem delRuns_unique {P : Program} {σ : Calls'} {mt kt vt ct bt : TypeId} {m f it : V} {es : List (V × V)} {n0 : Nat} {del del' : Nat → Bool} : ∀ (l : List Nat) (K K1 K2 : Heap), delRuns P σ mt kt vt ct bt m f it es del n0 l K = some ((), K1) → delRuns P σ mt kt vt ct bt m f it es del' n0 l K = some ((), K2) → K1 = K2 ∧ ∀ i ∈ l, del i = del' i
  | [], K, K1, K2, h1, h2 => by simp only [delRuns, ret] at h1 h2; cases h1; cases h2; exact ⟨rfl, fun i hi => by cases hi⟩
  | i :: l, K, K1, K2, h1, h2 => by
    simp only [delRuns] at h1 h2
    cases hs : delStep P σ mt kt vt ct bt m f it (es.getD i default) K with
    | none => rw [hs] at h1; cases h1
    | some r =>
      obtain ⟨⟨c, k⟩, K3⟩ := r
      rw [hs] at h1 h2
      simp only at h1 h2
      split at h1
      · rename_i q1
        split at h2
        · rename_i q2
          obtain ⟨a, b⟩ := delRuns_unique l _ _ _ h1 h2
          refine ⟨a, fun j hj => ?_⟩
          rcases List.mem_cons.1 hj with rfl | hj
          · rw [← q1.1, ← q2.1]
          · exact b j hj
        · cases h2
      · cases h1

section
variable {P : Program} {σ : Calls'} {mt kt vt ct bt : TypeId} {m f it : V}
theorem delStep_agg {z : V} {nk : Nat} (htk : tk P kt = some (.agg nk)) (hz : zeroV P kt = some z) (hzc : z.cells.toList.all flatV = true) (hzl : z.cells.toList.length = nk) {ks : List V} (hks : ks.length = nk) (hone : ks.all Value.isOne = true) {v : V} {K K2 : Heap} {c : Bool}
    (hcall : callM σ f [.agg ks.toArray, v] (K.push (some (.cells true ks))) = some (.bool c, K2)) (hkey : c = true → ∃ rw, K2.get K.next = some (.cells rw ks)) :
    delStep P σ mt kt vt ct bt m f it (.agg ks.toArray, v) K = some ((c, if c then .agg ks.toArray else undef), K2) := by
  have h1 : newc z.cells.toList K = some (ptr K.next 0, K.push (some (.cells true z.cells.toList))) := by simp only [newc, hzc, if_true]
  have hlt : K.next < (K.push (some (.cells true z.cells.toList))).next := by simp
  have hspl : splice z.cells.toList 0 ks = ks := by
    unfold splice
    rw [List.take_zero, List.nil_append, List.drop_of_length_le (by omega), List.append_nil]
  have hset : (K.push (some (.cells true z.cells.toList))).set K.next (some (.cells true ks)) = K.push (some (.cells true ks)) := Heap.set_push_eq rfl
  have h2 : stn nk (ptr K.next 0) (.agg ks.toArray) (K.push (some (.cells true z.cells.toList))) = some (undef, K.push (some (.cells true ks))) := by
    simp only [stn, Heap.get_push_self]
    rw [if_pos (by simp [hks, hzl]; simpa using hone)]
    simp only [hspl, hset]
  have h3 : ∀ {K' : Heap} {rw_ : Bool}, K'.get K.next = some (.cells rw_ ks) → ldn nk (ptr K.next 0) K' = some (.agg ks.toArray, K') := fun {K' rw_} h => by
    simp only [ldn, cellsAt, h]
    rw [if_pos (by omega), List.drop_zero, List.take_of_length_le (by omega)]
  let e0 := enS m f it (.agg ks.toArray) v
  let e1 := e0.put 19 (some 4) (ptr K.next 0)
  let e2 := e1.put 19 none undef
  let e3 := e2.put 19 (some 5) v
  have r1 : runOps P σ 19 (dlC kt vt) [dl_c3 kt, dl_c4 kt, dl_c5 vt] e0 ret K = some (e3, K.push (some (.cells true ks))) := by
    have g1 : gdM P σ (dlC kt vt) (dl_c3 kt) e0 K = some (ptr K.next 0, K.push (some (.cells true z.cells.toList))) := by
      show (match zeroV P kt with | some z => newc z.cells.toList | none => fail) K = _
      rw [hz]; exact h1
    have g2 : gdM P σ (dlC kt vt) (dl_c4 kt) e1 (K.push (some (.cells true z.cells.toList))) = some (undef, K.push (some (.cells true ks))) := by
      show (match tk P kt with | some .one => st1 (e1 4) (e1 11) | some (.agg n) => stn n (e1 4) (e1 11) | none => fail) _ = _
      rw [htk]; exact h2
    show bnd (gdM P σ (dlC kt vt) (dl_c3 kt) e0) (fun v => bnd (gdM P σ (dlC kt vt) (dl_c4 kt) (e0.put 19 (some 4) v)) fun w => ret (((e0.put 19 (some 4) v).put 19 none w).put 19 (some 5) (((e0.put 19 (some 4) v).put 19 none w) 12))) K = _
    rw [bnd_of g1]
    exact (bnd_of g2).trans rfl
  let d1 := e3.put 19 (some 13) f
  let d2 := d1.put 19 (some 14) (.agg ks.toArray)
  let d3 := d2.put 19 (some 15) v
  let d4 := d3.put 19 (some 16) (.bool c)
  have r2 : runOps P σ 19 (dlD kt vt ct bt) (dlD kt vt ct bt).toList e3 ret (K.push (some (.cells true ks))) = some (d4, K2) := by
    have g1 : gdM P σ (dlD kt vt ct bt) (dl_d1 kt) d1 (K.push (some (.cells true ks))) = some (.agg ks.toArray, K.push (some (.cells true ks))) := by
      show (match tk P kt with | some .one => ld1 (d1 4) | some (.agg n) => ldn n (d1 4) | none => fail) _ = _
      rw [htk]; exact h3 (Heap.get_push_self _ _)
    have g2 : gdM P σ (dlD kt vt ct bt) (dl_d3 kt vt bt) d3 (K.push (some (.cells true ks))) = some (.bool c, K2) := hcall
    show bnd (gdM P σ (dlD kt vt ct bt) (dl_d1 kt) d1) (fun x => bnd (gdM P σ (dlD kt vt ct bt) (dl_d3 kt vt bt) ((d1.put 19 (some 14) x).put 19 (some 15) ((d1.put 19 (some 14) x) 5))) fun y => ret (((d1.put 19 (some 14) x).put 19 (some 15) ((d1.put 19 (some 14) x) 5)).put 19 (some 16) y)) _ = _
    rw [bnd_of g1]
    exact (bnd_of g2).trans rfl
  unfold delStep
  show bnd (runOps P σ 19 (dlC kt vt) [dl_c3 kt, dl_c4 kt, dl_c5 vt] e0 ret) _ K = _
  rw [bnd_of r1, bnd_of r2]
  show (match (Value.bool c : V) with | .bool false => ret (false, undef) | .bool true => _ | _ => fail) K2 = _
  cases c with
  | false => rfl
  | true =>
    obtain ⟨rw_, hk⟩ := hkey rfl
    have g1 : gdM P σ (dlE mt kt) (dl_e1 kt) (d4.put 19 (some 17) m) K2 = some (.agg ks.toArray, K2) := by
      show (match tk P kt with | some .one => ld1 (d4 4) | some (.agg n) => ldn n (d4 4) | none => fail) _ = _
      rw [htk]; exact h3 hk
    have r3 : runOps P σ 19 (dlE mt kt) [dl_e0 mt, dl_e1 kt] d4 ret K2 = some ((d4.put 19 (some 17) m).put 19 (some 18) (.agg ks.toArray), K2) := by
      show bnd (gdM P σ (dlE mt kt) (dl_e1 kt) (d4.put 19 (some 17) m)) (fun x => ret ((d4.put 19 (some 17) m).put 19 (some 18) x)) K2 = _
      rw [bnd_of g1]; rfl
    show bnd (runOps P σ 19 (dlE mt kt) [dl_e0 mt, dl_e1 kt] d4 ret) (fun e4 => ret (true, e4 18)) K2 = _
    rw [bnd_of r3]; rfl
end
end Go.AM

/- Slices among the cells of other things. -/
namespace Go.AM

/-- a slice among the cells of another thing -/
structure In (α : Type) where
  v : V
  xs : List α
  one : v.isOne = true
instance {α : Type} : Inhabited (In α) := ⟨⟨.slice none 0 0, [], rfl⟩⟩


instance {α : Type} : Flat (In α) := ⟨1, fun a => [a.v], fun _ => rfl, fun a => by simp [a.one], by decide⟩
/-- slices of slices: all may be looked at -/
structure Sl2 {α : Type} [Flat α] (H : Heap) (v : V) (xs : List (In α)) : Prop where
  out : Sl H v xs
  inn : ∀ x ∈ xs, Sl H x.v x.xs
theorem Sl2.keep0 {α : Type} [Flat α] {H H' : Heap} {v : V} {xs : List (In α)} (h : Sl2 H v xs) (hk : Keeps [] H H') : Sl2 H' v xs := ⟨h.out.keep0 hk, fun x hx => (h.inn x hx).keep0 hk⟩
theorem Sl2.at {α : Type} [Flat α] {H : Heap} {v : V} {xs : List (In α)} (h : Sl2 H v xs) {i : Nat} (hi : i < xs.length) : Sl H (xs.getD i default).v (xs.getD i default).xs := by
  rw [List.getD_eq_getElem?_getD, List.getElem?_eq_getElem hi]
  exact h.inn _ (List.getElem_mem hi)
theorem Sl2.get {α : Type} [Flat α] {H : Heap} {v : V} {xs : List (In α)} (h : Sl2 H v xs) {i : Nat} (hi : i < xs.length) : iaddrS 1 v (i64 i) = some (ptr (slB v) (slO v + i)) ∧ cellP H (ptr (slB v) (slO v + i)) = some (xs.getD i default).v := by
  have h1 := h.out.addr1 rfl (k := .i64) (i := i) (by omega) (by omega)
  rw [Int.toNat_natCast] at h1
  exact ⟨h1, by rw [h.out.cell1 rfl hi default]; rfl⟩
end Go.AM

/- From runs on the abstract machine to calls in the model: what was there before stays as it was. -/
namespace Go.AM
open Go.RowKit (Below)
open Go.ChangeShapes

/-- the handle of a type -/
def tokOf (t : Nat) (x : V) : V := match x with
  | .agg cs => match cs.toList with
    | [.pointer (some ⟨g, o, none⟩)] => if g < 1048576 ∧ o < 1048576 then .chan (some (t * 1099511627776 + g * 1048576 + o)) else undef
    | _ => undef
  | _ => undef
theorem tokOf_rel (ρ : Ren) (t : Nat) (x : V) : VRel ρ (tokOf t x) (.iface t x) := by
  unfold tokOf
  split
  · rename_i cs
    split
    · rename_i g o hcs
      split
      · rename_i h
        have e : tokV (t * 1099511627776 + g * 1048576 + o) = .iface t (.agg cs) := by
          unfold tokV
          have e1 : (t * 1099511627776 + g * 1048576 + o) / 1099511627776 = t := by omega
          have e2 : (t * 1099511627776 + g * 1048576 + o) / 1048576 % 1048576 = g := by omega
          have e3 : (t * 1099511627776 + g * 1048576 + o) % 1048576 = o := by omega
          rw [e1, e2, e3]
          congr 2
          apply Array.ext'
          rw [hcs]
        rw [← e]; exact .tok _
      · exact .undef _
    · exact .undef _
  · exact .undef _
/-- a value of the world that the call begins in, as the abstract machine sees it -/
def absV1 (N : Nat) (v : V) : V := match v with
  | .bool b => .bool b
  | .int k n => .int k n
  | .string s => .string s
  | .pointer none => .pointer none
  | .pointer (some ⟨b, o, none⟩) => if b < N then .pointer (some ⟨b, o, none⟩) else undef
  | .slice none 0 0 => .slice none 0 0
  | .slice (some a) len cap => if a.spot = none ∧ a.block < N ∧ len ≤ cap then slc a.block a.off 0 len cap else if len = 0 ∧ cap = 0 ∧ 0 < N then slc 0 0 0 0 0 else undef
  | .map none => .map none
  | .map (some b) => if b < N then .map (some b) else undef
  | .nilFunc => .nilFunc
  | .nilIface => .nilIface
  | .iface t x => tokOf t x
  | _ => undef
/-- and a value of several cells -/
def absV (N : Nat) (v : V) : V := match v with
  | .agg cs => .agg (cs.map (absV1 N))
  | v => absV1 N v

def absB (N : Nat) : Option Obj → Option Blk
  | some (.cells C _ _) => some (.cells false (C.toList.map (absV N)))
  | some (.map E _) => some (.map false (E.toList.map fun e => (absV N e.key, absV N e.val)))
  | _ => none
def heap0 (w : World) : Heap := Heap.mk0 w.heap.size fun b => absB w.heap.size w.heap[b]?
def size0 : Option Obj → Nat
  | some (.cells C _ _) => C.size
  | _ => 0
def ren0 (w : World) : Ren := fun b => if b < w.heap.size then some ⟨b, 0, size0 w.heap[b]?⟩ else none

theorem heap0_next (w : World) : (heap0 w).next = w.heap.size := Heap.mk0_next _ _
theorem heap0_get (w : World) (b : Nat) : (heap0 w).get b = absB w.heap.size w.heap[b]? := by
  unfold heap0
  rw [Heap.mk0_get]
  by_cases h : b < w.heap.size
  · rw [if_pos h]
  · rw [if_neg h, Array.getElem?_eq_none (by omega)]
    rfl

theorem absV_rel1 (w : World) (v : V) : VRel (ren0 w) (absV1 w.heap.size v) v := by
  have hr : ∀ b, b < w.heap.size → ren0 w b = some ⟨b, 0, size0 w.heap[b]?⟩ := fun b h => by simp only [ren0, h, if_true]
  unfold absV1
  split
  · exact .bool _
  · exact .int _ _
  · exact .string _
  · exact .pnil
  · split
    · rename_i b o h
      have := VRel.ptr (ρ := ren0 w) b o _ (hr b h)
      simpa using this
    · exact .undef _
  · exact .snil
  · split
    · rename_i a len cap h
      obtain ⟨b, o, sp⟩ := a
      obtain ⟨rfl, h1, h2⟩ := h
      exact .slc b o 0 len cap _ o cap _ (hr b h1) (.inl (by simp)) h2 (Nat.le_refl _) (.inl rfl) (.inl (by simp))
    · split
      · rename_i a len cap _ h
        obtain ⟨rfl, rfl, h0⟩ := h
        exact .slc 0 0 0 0 0 _ 0 0 a (hr 0 h0) (.inr rfl) (Nat.le_refl _) (Nat.le_refl _) (.inl rfl) (.inr rfl)
      · exact .undef _
  · exact .mnil
  · split
    · rename_i b h
      exact .map b _ (hr b h)
    · exact .undef _
  · exact .nilFunc
  · exact .nilIface
  · exact tokOf_rel _ _ _
  · exact .undef _

theorem absV_rel (w : World) (v : V) : VRel (ren0 w) (absV w.heap.size v) v := by
  unfold absV
  split
  · exact .agg _ _ (by simp) fun i h h' => by simpa using absV_rel1 w _
  · exact absV_rel1 w _

theorem lrel_map {ρ : Ren} {f : V → V} (h : ∀ v, VRel ρ (f v) v) : ∀ l : List V, LRel ρ (l.map f) l
  | [] => .nil
  | v :: l => .cons (h v) (lrel_map h l)

theorem rel0 (w : World) : Rel w.heap.size w (ren0 w) (heap0 w) w := by
  refine ⟨Below.refl _ _, Nat.le_refl _, fun b hb => ?_, fun b hb => ⟨size0 w.heap[b]?, by simp only [ren0, hb, if_true]⟩, fun b x hx => ?_, fun b b' x x' L L' hx hx' hne hL hL' => ?_⟩
  · rw [heap0_next] at hb
    simp only [ren0]; rw [if_neg (by omega)]
  · have hlt := Heap.get_lt hx
    rw [heap0_next] at hlt
    rw [heap0_get] at hx
    refine ⟨⟨b, 0, size0 w.heap[b]?⟩, by simp only [ren0, hlt, if_true], ?_⟩
    unfold absB at hx
    split at hx
    · rename_i C e f hC
      cases hx
      refine ⟨C, e, f, hC, by simp [hC, size0], ⟨fun h => absurd h (by decide), fun _ => by simp⟩, by simp, ?_⟩
      simp only [List.drop_zero, List.length_map]
      rw [List.take_of_length_le (by simp)]
      exact lrel_map (absV_rel w) _
    · rename_i E clk hE
      cases hx
      refine ⟨rfl, E, clk, hE, fun h => absurd h (by decide), ?_, ?_⟩
      · have := lrel_map (absV_rel w) (E.toList.map (·.key))
        simpa [List.map_map, Function.comp_def] using this
      · have := lrel_map (absV_rel w) (E.toList.map (·.val))
        simpa [List.map_map, Function.comp_def] using this
    · cases hx
  · simp only [ren0] at hL hL'
    split at hL
    · split at hL'
      · cases hL; cases hL'; exact hne
      · cases hL'
    · cases hL

/-- A function that answers so on the abstract machine answers so in the model, and turns nothing that was there. -/
theorem calls_of_wp' {P : Program} {f : FuncId} {F : List V → M V} (hk : Known P f F) {W : World} (hG : P.globals.size ≤ W.heap.size) {args : Array V} {b : Bool}
    (h : wp (F (args.toList.map (absV W.heap.size))) (fun r _ => r = .bool b) (heap0 W)) : Calls P f args W fun e W' => e = .returned (.bool b) ∧ Below W.heap.size W W' := by
  obtain ⟨r, H', h1, rfl⟩ := h
  have := hk.2 W.heap.size W (ren0 W) (heap0 W) W (args.toList.map (absV W.heap.size)) args.toList (.bool b) H' hG (rel0 W) (lrel_map (absV_rel W) _) h1
  have e : args.toList.toArray = args := by simp
  rw [e] at this
  refine this.mono fun e W' ⟨r', he, ρ', hv, hr, _⟩ => ?_
  subst he
  cases hv
  exact ⟨rfl, hr.below⟩

/-- what the reading of the arguments says behind the call -/
theorem carryAll {H : Type} {enc : TypeId × Value → H} {P : Program} (hl : laidOutB P = true) {W W' : World} (hb : Below W.heap.size W W') {sp : Nat → Bool} : ∀ {ts : List TypeId} {vs : List Value} {ds : List (DataW H)} {ps : List MemPlace},
    (∀ t ∈ ts, P.readableRec t = true ∧ t < P.types.size) → DataW.TrodAll enc P W 0 (fun _ => true) true ts vs ds ps → (∀ p ∈ ps, p.block < W.heap.size) → (∀ p ∈ ps, sp p.block = true) → DataW.TrodAll enc P W' 0 sp true ts vs ds ps
  | [], vs, ds, ps, _, h, _, _ => by
    obtain ⟨rfl, rfl, rfl⟩ := trodAll_nil h
    exact trodAll_mk0
  | t :: ts, vs, ds, ps, ht, h, hlt, hsp => by
    obtain ⟨v0, vs0, d0, ds0, p0, q0, rfl, rfl, rfl, h0, r0⟩ := trodAll_cons h
    have h1 := ht t (by simp)
    refine trodAll_cons_mk (WideElems.Trod_stays hl h1.1 h1.2 h0 (fun p hp => hb.same (hlt p (by simp [hp]))) fun p hp => hsp p (by simp [hp])) ?_
    exact carryAll hl hb (fun t h => ht t (by simp [h])) r0 (fun p hp => hlt p (by simp [hp])) (fun p hp => hsp p (by simp [hp]))

/-- a law: it answers true, and each argument reads as it did -/
theorem post_of_below {H : Type} {enc : TypeId × Value → H} {P : Program} {f : Func} {s : ChangeSpec} {apart fresh handsOn again : Bool} {W W' : World} {args : Array Value} {v : Value} {ds : List (DataW H)} {gs : List (DataW H)} {before : List MemPlace} (hl : laidOutB P = true)
    (hts : ∀ t ∈ f.params.toList, P.readableRec t = true ∧ t < P.types.size) (hvars : s.vars = [])
    (hW : DataW.Whole enc P f.params.toList s.vars apart W args.toList ds gs before) (hb : Below W.heap.size W W')
    (hres : ∀ (b : Nat) (sp : Nat → Bool) (hd : Bool), DataW.TrodAll enc P W' b sp hd f.resultTypes.toList (v.resultList f.resultTypes.size) (s.fn H (ds ++ gs)).results [])
    (hargs : (s.fn H (ds ++ gs)).args = ds) (hv2 : (s.fn H (ds ++ gs)).vars = [])
    (hok : ∀ (j : Nat) (t : TypeId) (r : Value), f.resultTypes[j]? = some t → (v.resultList f.resultTypes.size)[j]? = some r → Value.okWide P W' .any 0 t r) :
    s.post enc P f apart fresh handsOn again W args v W' := by
  have hlt : ∀ p ∈ before, p.block < W.heap.size := fun p hp => hW.lt p hp
  have hold : ∀ p ∈ before, (fun b => decide (b < W.heap.size)) p.block = true := fun p hp => by simpa using hlt p hp
  have hW' := hW
  obtain ⟨pa, pv, hA, hV, hps, hz, hn⟩ := hW'
  rw [hvars] at hV
  obtain ⟨hgs, hpv⟩ := trodVars_none hV
  subst hpv
  have hpa : before = pa := by rw [hps, List.append_nil]
  have hargs' : ∀ sp : Nat → Bool, (∀ p ∈ before, sp p.block = true) → DataW.TrodAll enc P W' 0 sp true f.params.toList args.toList (s.fn H (ds ++ gs)).args pa := fun sp hsp => by
    rw [hargs]
    exact carryAll hl hb hts hA (fun p hp => hlt p (by rw [hpa]; exact hp)) (fun p hp => hsp p (by rw [hpa]; exact hp))
  have hvars' : ∀ sp : Nat → Bool, DataW.TrodVars enc P W' sp s.vars (s.fn H (ds ++ gs)).vars [] := fun sp => by
    rw [hvars, hv2]; rfl
  refine ⟨ds, gs, before, [], pa, [], hW, hres _ _ _, hargs' _ hold, hvars' _, World.keptBut_mono (fun p hp => ⟨hp, ?_⟩) (hb.frame (· ∈ before)), fun _ => ?_⟩
  · rw [hps, List.mem_append] at hp
    exact Or.inr hp
  · refine ⟨hok, _, _, ([] ++ pa) ++ [], ⟨[] ++ pa, [], trodAll_append (hargs' _ (fun _ _ => rfl)) (hres _ _ _), hvars' _, rfl, ?_, ?_⟩, ?_⟩
    · intro b off hp
      have hm : MemPlace.cell b off ∈ before := by rw [hps]; simpa using hp
      rw [hb.frozen (p := ⟨b, off, none⟩) (hlt _ hm)]
      exact hz b off hm
    · intro ha
      have := hn ha
      rw [hps] at this
      simpa using this
    · intro p hp _
      rw [hps]
      simpa using hp

theorem i64_wf {n : Int} (h : (Lit.int .i64 n).wf = true) : -9223372036854775808 ≤ n ∧ n ≤ 9223372036854775807 := by
  simp [Lit.wf, IntKind.min, IntKind.max, IntKind.signed, IntKind.bits] at h
  omega
end Go.AM
