import Derived.Test.YtcmimkacafphkaaGreatDoorShelfAm
import Derived.Test.YtcmimkacafphkaaGreatDoorFun2
import Derived.Test.YtcmimkacafphkaaGreatDoorAmOpenF
import Derived.Test.YtcmimkacafphkaaGreatDoorNumA
import Derived.Test.YtcmimkacafphkaaGreatDoorCoG
set_option linter.all false
/- Functions of the library, by the contracts off the kit's shelf, on the abstract machine: strings.Contains, strings.Join, strconv.Itoa, strconv.FormatInt at base 10. -/
set_option maxHeartbeats 4000000
namespace Go.AM.Cap
open Go.AM Go.Proofs Go.RowKit
theorem zbqd {N : Nat} {w₀ : World} {ρ : Ren} {H : Heap} {w w' : World} (h : Rel N w₀ ρ H w) (hb : Below w.heap.size w w') : Rel N w₀ ρ H w' := by
  have hold : ∀ k, k < w.heap.size → w'.heap[k]? = w.heap[k]? := hb.block
  have hbig := h.big
  have hsz := hb.size
  refine ⟨h.below.trans ⟨hb.os, hb.tape, hb.output, hb.size, fun k hk => hold k (by omega)⟩, by omega, h.dom, h.base, fun b x hx => ?_, h.inj⟩
  obtain ⟨L, hL, hr⟩ := h.blk b x hx
  exact ⟨L, hL, hr.mono (Ren.le.refl _) (hold _ (h.lt hx hL))⟩
theorem zbqe {ρ : Ren} {H : Heap} {w w' : World} (hb : Below w.heap.size w w') : Ext ρ H w ρ H w' :=
  ⟨Ren.le.refl _, (Ext.refl ρ H w).same, (Ext.refl ρ H w).next, ⟨hb.size, fun c hc _ => hb.block c hc⟩, (Ext.refl ρ H w).old⟩
theorem z5r {N : Nat} {w₀ : World} {ρ : Ren} {H : Heap} {w w' : World} {s : ByteArray} (h : Rel N w₀ ρ H w) (hb : Below w.heap.size w w') : zv9 N w₀ ρ H w (.string s) H (.string s) w' :=
  ⟨ρ, .string _, zbqd h hb, zbqe hb⟩
theorem zbs1 {P : Program} {N : Nat} {w₀ : World} {ρ : Ren} {H : Heap} {w : World} (hG : P.globals.size ≤ N) (h : Rel N w₀ ρ H w) {g o : Nat} (hg : g < P.globals.size) {k : IntKind} {m : Int} (hc : H.cell g o = some (.int k m)) : w.cell? ⟨g, o, none⟩ = some (.int k m) := by
  obtain ⟨s0, h0⟩ := h.base g (by omega)
  obtain ⟨v', h1, h2⟩ := h.cell hc h0
  simp only [Nat.zero_add] at h1
  rw [h1]
  cases h2
  rfl
theorem zbs2 {ρ : Ren} {s t : ByteArray} {args' : List V} (h : LRel ρ [.string s, .string t] args') : args' = [.string s, .string t] := by
  cases h with
  | cons h1 h2 => cases h2 with
    | cons h2 h3 => cases h3; cases h1; cases h2; rfl
theorem zbs3 {ρ : Ren} {k : IntKind} {n : Int} {args' : List V} (h : LRel ρ [.int k n] args') : args' = [.int k n] := by
  cases h with
  | cons h1 h2 => cases h2; cases h1; rfl
theorem zbqf {ρ : Ren} {k k' : IntKind} {n m : Int} {args' : List V} (h : LRel ρ [.int k n, .int k' m] args') : args' = [.int k n, .int k' m] := by
  cases h with
  | cons h1 h2 => cases h2 with
    | cons h2 h3 => cases h3; cases h1; cases h2; rfl
def zd5 (args : List V) : M V := fun H => match args with
  | [.string s, .string t] => match H.cell 3 0 with
    | some (.int .i64 _) => if s.size < 4294967281 then some (.bool (Lib.contains s.data.toList t.data.toList), H) else none
    | _ => none
  | _ => none
theorem known_contains : zk Tryz.prog zbd zd5 := by
  refine ⟨by kernel_rfl, ?_⟩
  intro N w₀ ρ H w args args' r H' hG hR ha hl
  have hgs : Tryz.prog.globals.size = 8 := by kernel_rfl
  unfold zd5 at hl
  split at hl
  · rename_i s t
    split at hl
    · rename_i m hm
      split at hl
      · rename_i hs
        cases hl
        cases zbs2 ha
        refine (Tryz.strings_Contains s t m w hs (zbs1 hG hR (by omega) hm)).mono fun e w' ⟨he, hw⟩ => ?_
        subst hw
        exact ⟨_, he, ρ, .bool _, hR, .refl _ _ _⟩
      · cases hl
    · cases hl
  · cases hl
def z40 (H : Heap) : Prop := H.get 1 = some (.cells false (Lib.pow10Tab.map fun z => Value.int .u64 z))
open Classical in
noncomputable def z2n (args : List V) : M V := fun H => match args with
  | [.int .i64 n] => if -9223372036854775808 ≤ n ∧ n ≤ 9223372036854775807 ∧ z40 H then some (.string ⟨(Lib.itoa n).toArray⟩, H) else none
  | _ => none
open Classical in
noncomputable def zqm (args : List V) : M V := fun H => match args with
  | [.int .i64 n, .int .i64 10] => if -9223372036854775808 ≤ n ∧ n ≤ 9223372036854775807 ∧ z40 H then some (.string ⟨(Lib.itoa n).toArray⟩, H) else none
  | _ => none
theorem zbgo {N : Nat} {w₀ : World} {ρ : Ren} {H : Heap} {w : World} (hG : Tryz.prog.globals.size ≤ N) (h : Rel N w₀ ρ H w) (hp : z40 H) : Lib.TabIs Tryz.prog w "internal/strconv.uint64pow10" .u64 Lib.pow10Tab := by
  have hgs : Tryz.prog.globals.size = 8 := by kernel_rfl
  obtain ⟨s0, h0⟩ := h.base 1 (by omega)
  obtain ⟨C, e, f, hC, hr⟩ := h.whole hp h0
  unfold Lib.TabIs World.var?
  rw [show Tryz.prog.globalNamed "internal/strconv.uint64pow10" = some 1 by kernel_rfl]
  simp only [Option.bind_some, hC]
  have key : ∀ (zs : List Int) (l : List V), LRel ρ (zs.map fun z => Value.int .u64 z) l → l = zs.map fun z => Value.int .u64 z := by
    intro zs
    induction zs with
    | nil => intro l hl; cases hl; rfl
    | cons z zs ih =>
      intro l hl
      cases hl with
      | cons h1 h2 => cases h1; rw [ih _ h2]; rfl
  have e1 := key _ _ hr
  rw [← e1]
theorem zbd6 (w : World) (k : Nat) (os : Array Obj) : Below w.heap.size w (Go.Sort.grow (w.drewN k) os) :=
  ⟨rfl, rfl, rfl, by show w.heap.size ≤ (w.heap ++ os).size; rw [Array.size_append]; omega, fun c hc => by
    show (w.heap ++ os)[c]? = _
    rw [Array.getElem?_append_left hc]⟩
theorem known_itoa : zk Tryz.prog zht z2n := by
  refine ⟨by kernel_rfl, ?_⟩
  intro N w₀ ρ H w args args' r H' hG hR ha hl
  unfold z2n at hl
  split at hl
  · rename_i n
    split at hl
    · rename_i hc
      cases hl
      cases zbs3 ha
      refine (Tryz.strconv_Itoa n hc.1 hc.2.1 w (zbgo hG hR hc.2.2)).mono fun e w' ⟨he, k, os, hw⟩ => ?_
      subst hw
      exact ⟨_, he, z5r hR (zbd6 w k os)⟩
    · cases hl
  · cases hl
theorem known_format : zk Tryz.prog zev zqm := by
  refine ⟨by kernel_rfl, ?_⟩
  intro N w₀ ρ H w args args' r H' hG hR ha hl
  unfold zqm at hl
  split at hl
  · rename_i n
    split at hl
    · rename_i hc
      cases hl
      cases zbqf ha
      refine (Tryz.strconv_FormatInt_10 n hc.1 hc.2.1 w (zbgo hG hR hc.2.2)).mono fun e w' ⟨he, k, os, hw⟩ => ?_
      subst hw
      exact ⟨_, he, z5r hR (zbd6 w k os)⟩
    · cases hl
  · cases hl
def z5s : List V → Option (List ByteArray)
  | [] => some []
  | .string s :: l => (z5s l).map (s :: ·)
  | _ :: _ => none
theorem zbd7 : ∀ (l : List V) (xs : List ByteArray), z5s l = some xs → l = xs.map Value.string
  | [], xs, h => by cases h; rfl
  | v :: l, xs, h => by
    cases v with
    | string s =>
      simp only [z5s, Option.map_eq_some_iff] at h
      obtain ⟨ys, hy, rfl⟩ := h
      rw [List.map_cons, ← zbd7 l ys hy]
    | _ => simp [z5s] at h
def zbam (xs : List ByteArray) (sep : ByteArray) : ByteArray := ⟨(Lib.join (xs.map (·.data.toList)) sep.data.toList).toArray⟩
def z41 (args : List V) : M V := fun H => match args with
  | [.slice (some ⟨b, o, u⟩) n c, .string sep] => match cellsAt H b o n with
    | some l => match z5s l with
      | some xs => if n ≤ 1000 ∧ n ≤ c ∧ 0 < n ∧ (zbam xs sep).size ≤ 1073741824 then some (.string (zbam xs sep), H) else none
      | none => none
    | none => none
  | _ => none
theorem zbgp {ρ : Ren} : ∀ {xs : List ByteArray} {l : List V}, LRel ρ (xs.map Value.string) l → l = xs.map Value.string
  | [], l, h => by cases h; rfl
  | x :: xs, l, h => by
    cases h with
    | cons h1 h2 => cases h1; rw [zbgp h2]; rfl
theorem known_join : zk Tryz.prog zhs z41 := by
  refine ⟨by kernel_rfl, ?_⟩
  intro N w₀ ρ H w args args' r H' hG hR ha hl
  unfold z41 at hl
  split at hl
  · rename_i b o u n c sep
    split at hl
    · rename_i l hcl
      split at hl
      · rename_i xs hxs
        split at hl
        · rename_i hc
          obtain ⟨hn1, hnc, hn0, hsz⟩ := hc
          cases hl
          cases ha with
          | cons h1 h2 =>
            cases h2 with
            | cons h2 h3 =>
              cases h3
              cases h2
              cases h1 with
              | slc b' o' u' len cap L co ccap ca hb ho hlc hcc hs hca =>
                have hco : co = L.off + o := ho.resolve_right (by omega)
                have hca' : ca = ⟨L.blk, co, none⟩ := hca.resolve_right (by omega)
                subst hco; subst hca'
                obtain ⟨hlen, l', hrel, hat⟩ := hR.cellsAt hcl hb
                have hl2 := zbd7 _ _ hxs
                subst hl2
                rw [List.length_map] at hlen
                subst hlen
                have hl3 := zbgp hrel
                have hblk : L.blk < w.heap.size := by
                  have h0 := hat 0 (.string (xs[0]'hn0)) (by rw [hl3, List.getElem?_map, List.getElem?_eq_getElem hn0]; rfl)
                  unfold World.cell? at h0
                  rcases Nat.lt_or_ge L.blk w.heap.size with q | q
                  · exact q
                  · simp [Array.getElem?_eq_none q] at h0
                have key := Tryz.strings_Join L.blk (L.off + o) ccap xs sep w (fun j x hx => by
                  have := hat j (.string x) (by rw [hl3, List.getElem?_map, hx]; rfl)
                  exact this) hblk (by omega) (by omega) (by
                    have e : (zbam xs sep).size = (Lib.join (xs.map (·.data.toList)) sep.data.toList).length := by simp [zbam, ByteArray.size]
                    omega)
                exact key.mono fun e w' ⟨he, hw⟩ => ⟨_, he, z5r hR hw⟩
        · cases hl
      · cases hl
    · cases hl
  · cases hl
end Go.AM.Cap

/- code: words and names on the machine -/
set_option maxHeartbeats 8000000
set_option maxRecDepth 100000
namespace Go.AM.Cap
open Go.AM Go.Proofs
def z9i (H : Heap) : Prop := ∃ m, H.cell 3 0 = some (.int .i64 m)
theorem z9i.keep {H H' : Heap} (h : z9i H) (hk : Keeps [] H H') : z9i H' := by
  obtain ⟨m, h⟩ := h
  refine ⟨m, ?_⟩
  unfold Heap.cell at h ⊢
  cases hg : H.get 3 with
  | none => rw [hg] at h; cases h
  | some b => rw [hk.get hg (by simp)]; rw [hg] at h; exact h
theorem zblh {H : Heap} (hm : z9i H) (s t : ByteArray) (hs : s.size < 4294967281) (Q : V → Heap → Prop) (hQ : Q (.bool (Lib.contains s.data.toList t.data.toList)) H) : wp (zd5 [.string s, .string t]) Q H := by
  obtain ⟨m, hm⟩ := hm
  refine ⟨_, H, ?_, hQ⟩
  unfold zd5
  simp only [hm]
  rw [if_pos hs]
theorem zbd8 (a b : ByteArray) : (a ++ b).data.toList = a.data.toList ++ b.data.toList := by
  rw [ByteArray.data_append, Array.toList_append]
theorem zbu4 {H : Heap} {G : List V → M V} (hm : z9i H) (s : ByteArray) (Q : V → Heap → Prop) (hQ : ∀ H', Keeps [] H H' → Q (.bool (zo0 s)) H') : wp (zow G zd5 [.string s]) Q H := by
  show wp (zvr G zd5 (.string s)) Q H
  unfold zvr
  by_cases h1 : s = ⟨#[]⟩
  · have e : zo0 s = false := by simp [zo0, h1]
    rw [e] at hQ
    (try simp (maxSteps := 1000000) (disch := first | omega | (simp only [Z3]; omega) | (simp; done) | assumption | decide | (refine not_not_intro ?_; assumption)) only [Z1, Z2, splice, h1])
    exact hQ _ (Keeps.refl _ _)
  by_cases h2 : (s.size : Int) ≤ 24
  case neg =>
    have h2' : ¬ s.size ≤ 24 := by omega
    have e : zo0 s = false := by simp [zo0, h2']
    rw [e] at hQ
    (try simp (maxSteps := 1000000) (disch := first | omega | (simp only [Z3]; omega) | (simp; done) | assumption | decide | (refine not_not_intro ?_; assumption)) only [Z1, Z2, splice, h1])
    exact hQ _ (Keeps.refl _ _)
  have h2' : s.size ≤ 24 := by omega
  have hl : (⟨#[65, 66, 67, 68, 69, 70, 71, 72, 73, 74, 75, 76, 77, 78, 79, 80, 81, 82, 83, 84, 85, 86, 87, 88, 89, 90, 95, 48, 49, 50, 51, 52, 53, 54, 55, 56, 57]⟩ : ByteArray) = zff := rfl
  rw [hl]
  (try simp (maxSteps := 1000000) (disch := first | omega | (simp only [Z3]; omega) | (simp; done) | assumption | decide | (refine not_not_intro ?_; assumption)) only [Z1, Z2, splice])
  refine zbuu s zff (by omega) zbd2 (by decide) (by decide) _ fun H2 k2 => ?_
  have hiff : (sv (z2m (bv zff) (zx2 (bv zff) (bv s))) = ⟨#[]⟩) ↔ (bv s).all (inS (bv zff)) = true := by
    rw [← zbh0, zvp, zbsn, List.all_eq_true]
  by_cases h3 : (bv s).all (inS (bv zff)) = true
  case neg =>
    have h3' : ¬ (sv (z2m (bv zff) (zx2 (bv zff) (bv s))) = ⟨#[]⟩) := fun q => h3 (hiff.1 q)
    have e : zo0 s = false := by simp only [zo0]; simp [h3]
    rw [e] at hQ
    (try simp (maxSteps := 1000000) (disch := first | omega | (simp only [Z3]; omega) | (simp; done) | assumption | decide | (refine not_not_intro ?_; assumption)) only [Z1, Z2, splice])
    exact hQ _ k2
  have h3' := hiff.2 h3
  have hpos : 0 < s.size := by
    have : (bv s).length ≠ 0 := fun q => h1 (zbh0.1 (List.eq_nil_of_length_eq_zero q))
    rw [zbl] at this; omega
  have hsub := zbh2 (s := s) (k' := .i64) (b := 1) (by omega) (by omega)
  have hx : (s.extract 0 1).data.toList = [UInt8.ofBitVec ((bv s).getD 0 0)] := by
    have h5 : bv (s.extract 0 1) = [(bv s).getD 0 0] := by
      rw [zgf]
      have : (bv s).length ≠ 0 := by rw [zbl]; omega
      cases hb : bv s with
      | nil => rw [hb] at this; simp at this
      | cons a l => simp
    have h6 : s.extract 0 1 = sv [(bv s).getD 0 0] := by rw [← h5, z92]
    rw [h6]; rfl
  (try simp (maxSteps := 1000000) (disch := first | omega | (simp only [Z3]; omega) | (simp; done) | assumption | decide | (refine not_not_intro ?_; assumption)) only [Z1, Z2, splice, h3', hsub])
  refine zblh (hm.keep k2) zbsr _ (by decide) _ ?_
  rw [show (1 : Int).toNat = 1 from rfl, hx, zbqb]
  have e : zo0 s = !decide (48 ≤ ((bv s).getD 0 0).toNat ∧ ((bv s).getD 0 0).toNat ≤ 57) := by
    simp only [zo0, h3]; simp [h1, h2']
  rw [e, ← decide_not] at hQ
  (try simp (maxSteps := 1000000) (disch := first | omega | (simp only [Z3]; omega) | (simp; done) | assumption | decide | (refine not_not_intro ?_; assumption)) only [Z1, Z2, splice])
  exact hQ _ k2
theorem zbu5 {H : Heap} {G : List V → M V} (hm : z9i H) (s : ByteArray) (Q : V → Heap → Prop) (hQ : ∀ H', Keeps [] H H' → Q (.bool (zv2 s)) H') : wp (zox G zd5 [.string s]) Q H := by
  show wp (zvs G zd5 (.string s)) Q H
  unfold zvs
  rw [show (⟨#[32, 80, 82, 79, 71, 82, 65, 77, 32, 69, 78, 68, 95, 80, 82, 79, 71, 82, 65, 77, 32, 86, 65, 82, 32, 86, 65, 82, 95, 73, 78, 80, 85, 84, 32, 86, 65, 82, 95, 79, 85, 84, 80, 85, 84, 32, 69, 78, 68, 95, 86, 65, 82, 32, 65, 82, 82, 65, 89, 32, 79, 70, 32, 66, 79, 79, 76, 32, 73, 78, 84, 32, 68, 73, 78, 84, 32, 84, 73, 77, 69, 32, 84, 79, 78, 32, 84, 79, 70, 32, 84, 80, 32, 67, 84, 85, 32, 67, 84, 68, 32, 82, 95, 84, 82, 73, 71, 32, 70, 95, 84, 82, 73, 71, 32, 83, 82, 32, 82, 83, 32, 81, 85, 65, 68, 32, 73, 70, 32, 84, 72, 69, 78, 32, 69, 76, 83, 73, 70, 32, 69, 76, 83, 69, 32, 69, 78, 68, 95, 73, 70, 32, 67, 65, 83, 69, 32, 69, 78, 68, 95, 67, 65, 83, 69, 32, 87, 72, 73, 76, 69, 32, 68, 79, 32, 69, 78, 68, 95, 87, 72, 73, 76, 69, 32, 70, 79, 82, 32, 84, 79, 32, 66, 89, 32, 69, 78, 68, 95, 70, 79, 82, 32, 82, 69, 80, 69, 65, 84, 32, 85, 78, 84, 73, 76, 32, 69, 78, 68, 95, 82, 69, 80, 69, 65, 84, 32, 69, 88, 73, 84, 32, 82, 69, 84, 85, 82, 78, 32, 65, 78, 68, 32, 79, 82, 32, 88, 79, 82, 32, 78, 79, 84, 32, 77, 79, 68, 32, 84, 82, 85, 69, 32, 70, 65, 76, 83, 69, 32, 84, 79, 95, 73, 78, 84, 32, 84, 79, 95, 68, 73, 78, 84, 32, 84, 79, 95, 84, 73, 77, 69, 32]⟩ : ByteArray) = zboh from rfl]
  rw [zc4, zc4]
  refine zbu4 hm s _ fun H2 k2 => ?_
  cases h : zo0 s with
  | false =>
    have e : zv2 s = false := by simp [zv2, h]
    rw [e] at hQ
    (try simp (maxSteps := 1000000) (disch := first | omega | (simp only [Z3]; omega) | (simp; done) | assumption | decide | (refine not_not_intro ?_; assumption)) only [Z1, Z2, splice])
    exact hQ _ k2
  | true =>
    have e : zv2 s = !zbal s := by simp [zv2, h]
    rw [e] at hQ
    have hw := h
    unfold zo0 at hw
    simp only [Bool.and_eq_true, decide_eq_true_eq] at hw
    obtain ⟨⟨⟨h1, h2⟩, h3⟩, _⟩ := hw
    have q1 : (⟨#[32]⟩ : ByteArray).size = 1 := rfl
    have q2 : ((⟨#[32]⟩ : ByteArray) ++ s).size = 1 + s.size := by rw [size_append]; rfl
    (try simp (maxSteps := 1000000) (disch := first | omega | (simp only [Z3]; omega) | (simp; done) | assumption | decide | (refine not_not_intro ?_; assumption)) only [Z1, Z2, splice, zboc (show (⟨#[32]⟩ : ByteArray).size + s.size ≤ 4611686018427387904 by omega), zboc (show ((⟨#[32]⟩ : ByteArray) ++ s).size + (⟨#[32]⟩ : ByteArray).size ≤ 4611686018427387904 by omega)])
    refine zblh (hm.keep k2) zboh _ (by decide +kernel) _ ?_
    rw [zbd8, zbd8, show (⟨#[32]⟩ : ByteArray).data.toList = [32] from rfl, List.append_assoc, List.singleton_append, zbss h3 h1]
    cases hk : zbal s
    all_goals
      rw [hk] at hQ
      (try simp (maxSteps := 1000000) (disch := first | omega | (simp only [Z3]; omega) | (simp; done) | assumption | decide | (refine not_not_intro ?_; assumption)) only [Z1, Z2, splice, Bool.not_true, Bool.not_false])
      exact hQ _ k2
end Go.AM.Cap
