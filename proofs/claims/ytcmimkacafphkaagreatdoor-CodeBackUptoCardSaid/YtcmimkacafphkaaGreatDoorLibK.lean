import Derived.Test.YtcmimkacafphkaaGreatDoorShelfAm
import Derived.Test.YtcmimkacafphkaaGreatDoorFun2
import Derived.Test.YtcmimkacafphkaaGreatDoorAmOpenF
set_option linter.all false
/- Functions of the library, by the contracts off the kit's shelf, on the abstract machine: strings.Contains, strings.Join, strconv.Itoa, strconv.FormatInt at base 10. -/
set_option maxHeartbeats 4000000
namespace Go.AM.Cap
open Go.AM Go.Proofs Go.RowKit

theorem below_rel {N : Nat} {w₀ : World} {ρ : Ren} {H : Heap} {w w' : World} (h : Rel N w₀ ρ H w) (hb : Below w.heap.size w w') : Rel N w₀ ρ H w' := by
  have hold : ∀ k, k < w.heap.size → w'.heap[k]? = w.heap[k]? := hb.block
  have hbig := h.big
  have hsz := hb.size
  refine ⟨h.below.trans ⟨hb.os, hb.tape, hb.output, hb.size, fun k hk => hold k (by omega)⟩, by omega, h.dom, h.base, fun b x hx => ?_, h.inj⟩
  obtain ⟨L, hL, hr⟩ := h.blk b x hx
  exact ⟨L, hL, hr.mono (Ren.le.refl _) (hold _ (h.lt hx hL))⟩
theorem below_ext {ρ : Ren} {H : Heap} {w w' : World} (hb : Below w.heap.size w w') : Ext ρ H w ρ H w' :=
  ⟨Ren.le.refl _, (Ext.refl ρ H w).same, (Ext.refl ρ H w).next, ⟨hb.size, fun c hc _ => hb.block c hc⟩, (Ext.refl ρ H w).old⟩
theorem below_goes {N : Nat} {w₀ : World} {ρ : Ren} {H : Heap} {w w' : World} {s : ByteArray} (h : Rel N w₀ ρ H w) (hb : Below w.heap.size w w') : Goes N w₀ ρ H w (.string s) H (.string s) w' :=
  ⟨ρ, .string _, below_rel h hb, below_ext hb⟩
/-- what a table's cell holds, of one number -/
theorem cell_int {P : Program} {N : Nat} {w₀ : World} {ρ : Ren} {H : Heap} {w : World} (hG : P.globals.size ≤ N) (h : Rel N w₀ ρ H w) {g o : Nat} (hg : g < P.globals.size) {k : IntKind} {m : Int} (hc : H.cell g o = some (.int k m)) : w.cell? ⟨g, o, none⟩ = some (.int k m) := by
  obtain ⟨s0, h0⟩ := h.base g (by omega)
  obtain ⟨v', h1, h2⟩ := h.cell hc h0
  simp only [Nat.zero_add] at h1
  rw [h1]
  cases h2
  rfl
theorem args_two {ρ : Ren} {s t : ByteArray} {args' : List V} (h : LRel ρ [.string s, .string t] args') : args' = [.string s, .string t] := by
  cases h with
  | cons h1 h2 => cases h2 with
    | cons h2 h3 => cases h3; cases h1; cases h2; rfl
theorem args_one {ρ : Ren} {k : IntKind} {n : Int} {args' : List V} (h : LRel ρ [.int k n] args') : args' = [.int k n] := by
  cases h with
  | cons h1 h2 => cases h2; cases h1; rfl
theorem args_ints {ρ : Ren} {k k' : IntKind} {n m : Int} {args' : List V} (h : LRel ρ [.int k n, .int k' m] args') : args' = [.int k n, .int k' m] := by
  cases h with
  | cons h1 h2 => cases h2 with
    | cons h2 h3 => cases h3; cases h1; cases h2; rfl

/-! ### strings.Contains -/
def containsF (args : List V) : M V := fun H => match args with
  | [.string s, .string t] => match H.cell 3 0 with
    | some (.int .i64 _) => if s.size < 4294967281 then some (.bool (Lib.contains s.data.toList t.data.toList), H) else none
    | _ => none
  | _ => none
theorem known_contains : Known Tryz.prog fid_strings_Contains containsF := by
  refine ⟨by kernel_rfl, ?_⟩
  intro N w₀ ρ H w args args' r H' hG hR ha hl
  have hgs : Tryz.prog.globals.size = 8 := by kernel_rfl
  unfold containsF at hl
  split at hl
  · rename_i s t
    split at hl
    · rename_i m hm
      split at hl
      · rename_i hs
        cases hl
        cases args_two ha
        refine (Tryz.strings_Contains s t m w hs (cell_int hG hR (by omega) hm)).mono fun e w' ⟨he, hw⟩ => ?_
        subst hw
        exact ⟨_, he, ρ, .bool _, hR, .refl _ _ _⟩
      · cases hl
    · cases hl
  · cases hl

/-! ### strconv.Itoa, strconv.FormatInt -/
def Pow10 (H : Heap) : Prop := H.get 1 = some (.cells false (Lib.pow10Tab.map fun z => Value.int .u64 z))
open Classical in
noncomputable def itoaF (args : List V) : M V := fun H => match args with
  | [.int .i64 n] => if -9223372036854775808 ≤ n ∧ n ≤ 9223372036854775807 ∧ Pow10 H then some (.string ⟨(Lib.itoa n).toArray⟩, H) else none
  | _ => none
open Classical in
noncomputable def formatF (args : List V) : M V := fun H => match args with
  | [.int .i64 n, .int .i64 10] => if -9223372036854775808 ≤ n ∧ n ≤ 9223372036854775807 ∧ Pow10 H then some (.string ⟨(Lib.itoa n).toArray⟩, H) else none
  | _ => none
theorem pow10_tab {N : Nat} {w₀ : World} {ρ : Ren} {H : Heap} {w : World} (hG : Tryz.prog.globals.size ≤ N) (h : Rel N w₀ ρ H w) (hp : Pow10 H) : Lib.TabIs Tryz.prog w "internal/strconv.uint64pow10" .u64 Lib.pow10Tab := by
  have hgs : Tryz.prog.globals.size = 8 := by kernel_rfl
  obtain ⟨s0, h0⟩ := h.base 1 (by omega)
  obtain ⟨C, e, f, hC, hr⟩ := h.whole hp h0
  unfold Lib.TabIs World.var?
  rw [show Tryz.prog.globalNamed "internal/strconv.uint64pow10" = some 1 by kernel_rfl]
  simp only [Option.bind_some, hC]
  have key : ∀ (zs : List Int) (l : List V), LRel ρ (zs.map fun z => Value.int .u64 z) l → l = zs.map fun z => Value.int .u64 z := by
    intro zs
    induction zs with
    | nil => intro l hl; cases hl; rfl
    | cons z zs ih =>
      intro l hl
      cases hl with
      | cons h1 h2 => cases h1; rw [ih _ h2]; rfl
  have e1 := key _ _ hr
  rw [← e1]

theorem grow_below (w : World) (k : Nat) (os : Array Obj) : Below w.heap.size w (Go.Sort.grow (w.drewN k) os) :=
  ⟨rfl, rfl, rfl, by show w.heap.size ≤ (w.heap ++ os).size; rw [Array.size_append]; omega, fun c hc => by
    show (w.heap ++ os)[c]? = _
    rw [Array.getElem?_append_left hc]⟩
theorem known_itoa : Known Tryz.prog fid_strconv_Itoa itoaF := by
  refine ⟨by kernel_rfl, ?_⟩
  intro N w₀ ρ H w args args' r H' hG hR ha hl
  unfold itoaF at hl
  split at hl
  · rename_i n
    split at hl
    · rename_i hc
      cases hl
      cases args_one ha
      refine (Tryz.strconv_Itoa n hc.1 hc.2.1 w (pow10_tab hG hR hc.2.2)).mono fun e w' ⟨he, k, os, hw⟩ => ?_
      subst hw
      exact ⟨_, he, below_goes hR (grow_below w k os)⟩
    · cases hl
  · cases hl
theorem known_format : Known Tryz.prog fid_strconv_FormatInt formatF := by
  refine ⟨by kernel_rfl, ?_⟩
  intro N w₀ ρ H w args args' r H' hG hR ha hl
  unfold formatF at hl
  split at hl
  · rename_i n
    split at hl
    · rename_i hc
      cases hl
      cases args_ints ha
      refine (Tryz.strconv_FormatInt_10 n hc.1 hc.2.1 w (pow10_tab hG hR hc.2.2)).mono fun e w' ⟨he, k, os, hw⟩ => ?_
      subst hw
      exact ⟨_, he, below_goes hR (grow_below w k os)⟩
    · cases hl
  · cases hl

/-! ### strings.Join -/
def strsOf : List V → Option (List ByteArray)
  | [] => some []
  | .string s :: l => (strsOf l).map (s :: ·)
  | _ :: _ => none
theorem strsOf_inv : ∀ (l : List V) (xs : List ByteArray), strsOf l = some xs → l = xs.map Value.string
  | [], xs, h => by cases h; rfl
  | v :: l, xs, h => by
    cases v with
    | string s =>
      simp only [strsOf, Option.map_eq_some_iff] at h
      obtain ⟨ys, hy, rfl⟩ := h
      rw [List.map_cons, ← strsOf_inv l ys hy]
    | _ => simp [strsOf] at h
def joinS (xs : List ByteArray) (sep : ByteArray) : ByteArray := ⟨(Lib.join (xs.map (·.data.toList)) sep.data.toList).toArray⟩
def joinF (args : List V) : M V := fun H => match args with
  | [.slice (some ⟨b, o, u⟩) n c, .string sep] => match cellsAt H b o n with
    | some l => match strsOf l with
      | some xs => if n ≤ 1000 ∧ n ≤ c ∧ 0 < n ∧ (joinS xs sep).size ≤ 1073741824 then some (.string (joinS xs sep), H) else none
      | none => none
    | none => none
  | _ => none
theorem lrel_strs {ρ : Ren} : ∀ {xs : List ByteArray} {l : List V}, LRel ρ (xs.map Value.string) l → l = xs.map Value.string
  | [], l, h => by cases h; rfl
  | x :: xs, l, h => by
    cases h with
    | cons h1 h2 => cases h1; rw [lrel_strs h2]; rfl
theorem known_join : Known Tryz.prog fid_strings_Join joinF := by
  refine ⟨by kernel_rfl, ?_⟩
  intro N w₀ ρ H w args args' r H' hG hR ha hl
  unfold joinF at hl
  split at hl
  · rename_i b o u n c sep
    split at hl
    · rename_i l hcl
      split at hl
      · rename_i xs hxs
        split at hl
        · rename_i hc
          obtain ⟨hn1, hnc, hn0, hsz⟩ := hc
          cases hl
          cases ha with
          | cons h1 h2 =>
            cases h2 with
            | cons h2 h3 =>
              cases h3
              cases h2
              cases h1 with
              | slc b' o' u' len cap L co ccap ca hb ho hlc hcc hs hca =>
                have hco : co = L.off + o := ho.resolve_right (by omega)
                have hca' : ca = ⟨L.blk, co, none⟩ := hca.resolve_right (by omega)
                subst hco; subst hca'
                obtain ⟨hlen, l', hrel, hat⟩ := hR.cellsAt hcl hb
                have hl2 := strsOf_inv _ _ hxs
                subst hl2
                rw [List.length_map] at hlen
                subst hlen
                have hl3 := lrel_strs hrel
                have hblk : L.blk < w.heap.size := by
                  have h0 := hat 0 (.string (xs[0]'hn0)) (by rw [hl3, List.getElem?_map, List.getElem?_eq_getElem hn0]; rfl)
                  unfold World.cell? at h0
                  rcases Nat.lt_or_ge L.blk w.heap.size with q | q
                  · exact q
                  · simp [Array.getElem?_eq_none q] at h0
                have key := Tryz.strings_Join L.blk (L.off + o) ccap xs sep w (fun j x hx => by
                  have := hat j (.string x) (by rw [hl3, List.getElem?_map, hx]; rfl)
                  exact this) hblk (by omega) (by omega) (by
                    have e : (joinS xs sep).size = (Lib.join (xs.map (·.data.toList)) sep.data.toList).length := by simp [joinS, ByteArray.size]
                    omega)
                exact key.mono fun e w' ⟨he, hw⟩ => ⟨_, he, below_goes hR hw⟩
        · cases hl
      · cases hl
    · cases hl
  · cases hl
end Go.AM.Cap
