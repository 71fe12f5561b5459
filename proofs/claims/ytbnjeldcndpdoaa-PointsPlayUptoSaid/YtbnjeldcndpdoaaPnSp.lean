import Derived.Test.YtbnjeldcndpdoaaPnZ
import Derived.Deep.LoopGhost
set_option linter.all false
/- points: what marks values that came out -/
set_option maxHeartbeats 4000000
set_option maxRecDepth 100000
namespace Go.AM.Cap
open Go.AM Go.Proofs Go.RowKit Go.Maps

/-- a world of which one block has turned -/
structure Mod (g : Nat) (w w' : World) : Prop where
  os : w'.os = w.os
  tape : w'.tape = w.tape
  output : w'.output = w.output
  size : w'.heap.size = w.heap.size
  rest : ∀ k, k ≠ g → w'.heap[k]? = w.heap[k]?
theorem spoil_run {w : World} {g co n cap : Nat} {C : Array V} {e : TypeId} {f : Nat × Nat} {mark : Int} (hg : w.heap[g]? = some (.cells C e f)) (hco : co + cap ≤ C.size) (hf : ∀ i, i < C.size → ¬ (f.1 ≤ i ∧ i < f.2)) (hn : n ≤ cap) (hcap : cap ≤ 9223372036854775807) :
    Calls Try.prog 23 #[.slice (some ⟨g, co, none⟩) n cap, .int .i64 mark] w fun e' w' => e' = .returned (.tuple #[]) ∧ Mod g w w' := by
  go_enter Try.func23, Try.ntmps23
  go_wp2
  refine wp_loop_ghost (fun k a w' => ∃ (i : Nat) (C' : Array V) (u5 u6 u7 u8 u9 u10 u11 u12 u13 u14 u15 u16 u17 u18 : Value), k = cap - i ∧ i ≤ cap ∧ C'.size = C.size ∧ w'.heap[g]? = some (.cells C' e f) ∧ Mod g w w' ∧
    a = { tmps := #[.slice (some ⟨g, co, none⟩) cap cap, .int .i64 mark, undef, undef, .int .i64 i, u5, u6, u7, u8, u9, u10, u11, u12, u13, u14, u15, u16, u17, u18], defers := [] }) cap
    ⟨0, C, _, _, _, _, _, _, _, _, _, _, _, _, _, _, by omega, by omega, rfl, hg, ⟨rfl, rfl, rfl, rfl, fun _ _ => rfl⟩, rfl⟩ ?_
  rintro k a w' ⟨i, C', u5, u6, u7, u8, u9, u10, u11, u12, u13, u14, u15, u16, u17, u18, hk, hi, hC, hg', hm, rfl⟩
  by_cases hlt : i < cap
  · have hlt' : (i : Int) < (cap : Int) := by omega
    have hin : co + i < C'.size := by omega
    have hcell : w'.cell? ⟨g, co + i, none⟩ = some C'[co + i] := by rw [cell_of hg']; simp [hin]
    have hfz : w'.frozen? ⟨g, co + i, none⟩ = false := by
      simp only [World.frozen?, hg']
      have := hf (co + i) (by omega)
      simp only [Bool.and_eq_false_iff, decide_eq_false_iff_not]
      omega
    go_wp2_with (first | (simp only [hfz, Bool.false_eq_true, if_false, hcell]) | (simp only [hfz]) | (simp only [hcell]))
    refine ⟨cap - (i + 1), by omega, i + 1, C'.setIfInBounds (co + i) (.int .i64 mark), _, _, _, _, _, _, _, _, _, _, _, _, _, _, rfl, by omega, by simpa using hC, ?_, ?_, rfl⟩
    · simp only [World.setCell, Array.getElem?_modify, if_true, hg']
      rfl
    · refine ⟨hm.os, hm.tape, hm.output, by rw [← hm.size]; simp [World.setCell], fun k hk => ?_⟩
      rw [← hm.rest k hk]
      simp only [World.setCell, Array.getElem?_modify]
      rw [if_neg (by simpa using fun e => hk e.symm)]
  · have hlt' : ¬ (i : Int) < (cap : Int) := by omega
    go_wp2
    go_end0
    exact ⟨rfl, hm⟩
theorem spoil_empty {w : World} {base : Option Addr} {mark : Int} :
    Calls Try.prog 23 #[.slice base 0 0, .int .i64 mark] w fun e' w' => e' = .returned (.tuple #[]) ∧ w' = w := by
  go_enter Try.func23, Try.ntmps23
  cases base with
  | none =>
    go_wp2
    refine wp_loop_ghost (fun k a w' => ∃ (u5 u6 u7 u8 u9 u10 u11 u12 u13 u14 u15 u16 u17 u18 : Value), w' = w ∧ a = { tmps := #[.slice none 0 0, .int .i64 mark, undef, undef, .int .i64 0, u5, u6, u7, u8, u9, u10, u11, u12, u13, u14, u15, u16, u17, u18], defers := [] }) 0
      ⟨_, _, _, _, _, _, _, _, _, _, _, _, _, _, rfl, rfl⟩ ?_
    rintro k a w' ⟨u5, u6, u7, u8, u9, u10, u11, u12, u13, u14, u15, u16, u17, u18, rfl, rfl⟩
    go_wp2
    go_end0
    exact ⟨rfl, rfl⟩
  | some ca =>
    go_wp2
    refine wp_loop_ghost (fun k a w' => ∃ (u5 u6 u7 u8 u9 u10 u11 u12 u13 u14 u15 u16 u17 u18 : Value), w' = w ∧ a = { tmps := #[.slice (some ca) 0 0, .int .i64 mark, undef, undef, .int .i64 0, u5, u6, u7, u8, u9, u10, u11, u12, u13, u14, u15, u16, u17, u18], defers := [] }) 0
      ⟨_, _, _, _, _, _, _, _, _, _, _, _, _, _, rfl, rfl⟩ ?_
    rintro k a w' ⟨u5, u6, u7, u8, u9, u10, u11, u12, u13, u14, u15, u16, u17, u18, rfl, rfl⟩
    go_wp2
    go_end0
    exact ⟨rfl, rfl⟩
theorem known_spoil : Known Try.prog 23 spoilF := by
  refine ⟨by kernel_rfl, ?_⟩
  intro N w₀ ρ H w args args' r H' hG hR ha hl
  unfold spoilF at hl
  split at hl
  · cases hl
    obtain rfl : args' = [.slice none 0 0, .int .i64 _] := by
      cases ha with
      | cons h1 h2 => cases h2 with
        | cons h3 h4 => cases h4; cases h1; cases h3; rfl
    refine spoil_empty.mono fun e w' ⟨he, hw⟩ => ?_
    subst hw
    exact ⟨_, he, ρ, .undef _, hR, .refl _ _ _⟩
  · rename_i b n c m
    split at hl
    · rename_i hnc
      subst hnc
      split at hl
      · rename_i cs hb
        cases hl
        obtain ⟨v', rfl, hv⟩ : ∃ v', args' = [v', .int .i64 m] ∧ VRel ρ (slc b 0 1 n n) v' := by
          cases ha with
          | cons h1 h2 => cases h2 with
            | cons h3 h4 => cases h4; cases h3; exact ⟨_, rfl, h1⟩
        obtain ⟨L, co, ccap, ca, hL, rfl, ho, hlen, hcap, hs2, hca, hmx⟩ := hv.slc_inv
        obtain ⟨C, e, f, c1, c2, c3, c4, c5⟩ := hR.cells hb hL
        have hkill := hR.kill hb
        have hext0 := kill_ext (ρ := ρ) (w := w) hb
        have hnb : ∀ c y M, (H.set b none).get c = some y → ρ c = some M → H.get c = some y ∧ M.blk ≠ L.blk := fun c y M h1 h2 => by
          rw [Heap.get_set H b _ _ (Heap.get_lt hb)] at h1
          split at h1
          · cases h1
          · rename_i hne
            exact ⟨h1, hR.inj c b y _ M L h1 hb hne h2 hL⟩
        by_cases h0 : ccap = 0
        · subst h0
          obtain rfl : n = 0 := by omega
          refine spoil_empty.mono fun e w' ⟨he, hw⟩ => ?_
          subst hw
          exact ⟨_, he, ρ, .undef _, hkill, hext0⟩
        · rcases hca with rfl | q
          rotate_left
          · exact absurd q h0
          have hsz : co + ccap ≤ C.size := by rcases hs2 with q | q <;> omega
          have hmx' : ccap ≤ 9223372036854775807 := by rcases hmx with q | q <;> omega
          refine (spoil_run c1 hsz (c3 rfl).2 hcap hmx').mono fun e w' ⟨he, hm⟩ => ?_
          refine ⟨_, he, ρ, .undef _, hkill.other (c3 rfl).1 (fun c y M h1 h2 => (hnb c y M h1 h2).2) w' hm.os hm.tape hm.output hm.size (fun k hk => hm.rest k hk), ⟨.refl _, fun _ _ => rfl, by rw [Heap.next_set]; exact Nat.le_refl _, ⟨by rw [hm.size]; exact Nat.le_refl _, fun c hc hn => hm.rest c fun e => hn b _ L hb hL e.symm⟩, fun b' y M h1 h2 => .inr ⟨b', y, M, (hnb b' y M h1 h2).1, h2, rfl⟩⟩⟩
      · cases hl
    · cases hl
  · cases hl
end Go.AM.Cap
